/- CallAlone's ground, part 8. No condition. -/
import Derived.Test.YtcoldbcijgmidaaGreatDoorYCallAloneG
set_option linter.unusedSimpArgs false
set_option linter.unusedVariables false
namespace Go.Proofs.YtcoldbcijgmidaaGreatDoor
noncomputable section
section
open Go.RowKit
set_option maxRecDepth 100000
theorem zIq{f:Type}{R:f->f->Prop}(k:∀{a b c},R a b->R b c->R a c):∀{l:List f},(∀(i:Nat) a b,l[i]? =some a->l[i+1]? =some b->R a b) ->l.Pairwise R
 |[],_=>.nil
 |[x],_=>.cons (λ_ h=>by cases h) .nil
 |x::y::l,h=>by
  have j:(y::l).Pairwise R:=zIq (R:=R) k (λi a b p m=>h (i+1) a b p m);have d:R x y:=h 0 x y Y Y;refine .cons (λz g=>?_) j;rcases ZB.1 g with rfl|g
  .exact d
  .exact k d ((List.pairwise_cons.1 j).1 z g)
theorem c0q{c:Type}{R:c->c->Prop}{l:List c}(h:l.Pairwise R){i j:Nat}{a b:c}(d:i<j)(k:l[i]? =some a)(e:l[j]? =some b):R a b:=by
 obtain⟨g,rfl⟩:=Zk.1 k;obtain⟨f,rfl⟩:=Zk.1 e;exact List.pairwise_iff_getElem.1 h i j g f d
theorem gHq{b:Type}{q:b->Bool}:∀{l:List b},l.take (l.takeWhile q).length=l.takeWhile q
 |[]=>rfl
 |x::l=>by
  cases a:q x with
  |true=>rw[List.takeWhile_cons_of_pos a,Zo,List.take_succ_cons,gHq]
  |false=>rw[List.takeWhile_cons_of_neg (by rw[a];decide)];rfl
theorem piq{b:Type}{q:b->Bool}{a:b}:∀{l:List b},a∈l.takeWhile q->q a=true
 |[],h=>by cases h
 |x::l,h=>by
  cases d:q x with
  |true=>
   rw[List.takeWhile_cons_of_pos d] at h;rcases ZB.1 h with rfl|h
   .exact d
   .exact piq h
  |false=>rw[List.takeWhile_cons_of_neg (by rw[d];decide)] at h;cases h
theorem pwq{f:Type}{R:f->f->Prop}(v:∀{a b c},R a b->R b c->R a c){q:f->Bool}{l:List f}{x:f}(h:l.Pairwise R)(A:∀a∈l,q a=true->R a x)(B:∀a,l[(l.takeWhile q).length]? =some a->R x a):
  (l.take (l.takeWhile q).length++x::l.drop (l.takeWhile q).length).Pairwise R:=by
 have z:l.take (l.takeWhile q).length=l.takeWhile q:=gHq
 have k:∀b∈l.drop (l.takeWhile q).length,R x b:=λb k=>by
  obtain⟨j,C,e⟩:=List.mem_drop_iff_getElem.1 k;have y:(l.takeWhile q).length<l.length:=by omega
  have d:=B _ (Za y);rcases YS j with rfl|D
  .exact e▸d
  .exact v d (c0q h (i:=(l.takeWhile q).length) (j:=(l.takeWhile q).length+j) Xd (Za y) (by rw[Za Xd];exact Zc some e))
 have d:∀a∈l.take (l.takeWhile q).length,R a x:=λa d=>by
  rw[z] at d;exact A a ((List.takeWhile_sublist _).mem d) (piq d)
 rw[List.pairwise_append];refine⟨h.sublist (List.take_sublist _ _),.cons k (h.sublist (List.drop_sublist _ _)),λa u b p=>?_⟩;rcases ZB.1 p with rfl|p
 .exact d a u
 .exact v (d a u) (k b p)
theorem mem_ins{b:Type}{l:List b}{n:Nat}{x y:b}:y∈l.take n++x::l.drop n↔y=x\/y∈l:=by
 constructor
 .intro h;rcases ZO.1 h with h|h
  .exact .inr (ZJ h)
  .rcases ZB.1 h with h|h
   .exact .inl h
   .exact .inr (ZF h)
 .rintro(rfl|h)
  .exact List.mem_append_right _ (ZV ..)
  .rw[<-ZK n l] at h;rcases ZO.1 h with h|h
   .exact List.mem_append_left _ h
   .exact List.mem_append_right _ (ZS _ h)
theorem dcq{a:Type}{l:List a}{n:Nat}{x y:a}(h:y∈l.set n x):y=x\/y∈l:=(List.mem_or_eq_of_mem_set h).symm
theorem rEq{b:Type}{q:b->Bool}:∀{l:List b} {a:b},l[(l.takeWhile q).length]? =some a->q a=false
 |[],a,h=>by simp at h
 |x::l,a,h=>by
  cases c:q x with
  |true=>
   rw[List.takeWhile_cons_of_pos c,Zo] at h;exact rEq (by simpa using h)
  |false=>
   rw[List.takeWhile_cons_of_neg (by rw[c];decide)] at h;have h:x=a:=by simpa using h
   rw[<-h];exact c
def hmq(s:Shd)(l:Ln):Shd:=if aYq s l.who then s.set (fndK s l.who) l else s.take (fndK s l.who)++l::s.drop (fndK s l.who)
def pxq(l:Ln)(x:Tx):Option Ln:=match l.txs[ahN l.txs x.nonce]? with
 |some y=>if y.nonce=x.nonce then(if x.fee<=y.fee then none else some (Ceq l x)) else some (mcq l x)
 |none=>some (mcq l x)
structure GoodL(n i m:Nat)(l:Ln):Prop where
 own:∀x∈l.txs,gdq x l.who/\x.ok
 srt:l.txs.Pairwise λa b=>a.nonce<b.nonce
 len:l.txs.length<=m
 at_:atE l.who n=i
structure GoodS(n i m:Nat)(s:Shd):Prop where
 line:∀l∈s,GoodL n i m l/\l.txs≠[]
 keys:s.Pairwise λa b=>yrq a.who b.who=true
 len:s.length<=m
section
variable {n i m:Nat} {s:Shd} {l:Ln} {x:Tx} {k:Dig}
theorem GoodL.up(h:GoodL n i m l):GoodL n i (m+1) l:=⟨h.own,h.srt,by have:=h.len;omega,h.at_⟩
theorem KVq(s:Shd)(k:Dig):(aYq s k/\s[fndK s k]? =some (kpq s k)/\(kpq s k).who=k)\/(¬aYq s k/\kpq s k=⟨k,[]⟩):=by
 by_cases h:aYq s k
 .obtain⟨l,c,d⟩:=h;have g:kpq s k=l:=by unfold kpq;rw[c];exact Zl d
  rw[g];exact .inl ⟨⟨l,c,d⟩,c,d⟩
 .refine .inr ⟨h,?_⟩;unfold kpq;split
  .rename_i l c;exact Zg λd=>h ⟨l,c,d⟩
  .rfl
theorem bPq(s:Shd)(k:Dig):(kpq s k).who=k:=by
 rcases KVq s k with ⟨_,_,h⟩|⟨_,h⟩
 .exact h
 .rw[h]
theorem JNq(h:GoodS n i m s)(f:atE k n=i):GoodL n i m (kpq s k):=by
 rcases KVq s k with ⟨_,b,_⟩|⟨_,b⟩
 .exact(h.line _ (Zj b)).1
 .rw[b];exact⟨λx d=>by simp at d,.nil,Zf _,f⟩
theorem byq(h:GoodL n i m l)(A:gdq x l.who)(w:x.ok)(z:∀y,l.txs[ahN l.txs x.nonce]? =some y->y.nonce≠x.nonce):GoodL n i (m+1) (mcq l x):=by
 refine⟨λy j=>?_,?_,?_,h.at_⟩
 .rcases mem_ins.1 j with rfl|j
  .exact⟨A,w⟩
  .exact h.own y j
 .refine pwq (q:=λy:Tx=>decide (y.nonce<x.nonce)) (R:=λa b:Tx=>a.nonce<b.nonce) (λp d=>Nat.lt_trans p d) h.srt (λa _ q=>by simpa using q) (λa u=>?_);have p:=z a u;have d:decide (a.nonce<x.nonce)=false:=rEq (q:=λo:Tx=>decide (o.nonce<x.nonce)) u;have d:¬a.nonce<x.nonce:=of_decide_eq_false d;omega
 .have:=h.len;show(l.txs.take _++x::l.txs.drop _).length<=_;simp only[Zh,Zu,Zo,Zy];omega
theorem hPq(h:GoodL n i m l)(f:gdq x l.who)(j:x.ok){y:Tx}(o:l.txs[ahN l.txs x.nonce]? =some y)(q:y.nonce=x.nonce):GoodL n i (m+1) (Ceq l x):=by
 refine⟨λz b=>?_,?_,?_,h.at_⟩
 .rcases dcq b with rfl|b
  .exact⟨f,j⟩
  .exact h.own z b
 .have e:(l.txs.set (ahN l.txs x.nonce) x).map Tx.nonce=l.txs.map Tx.nonce:=by
   rw[List.map_set];exact jrq (by rw[Z1,o,<-q];rfl)
  have d:(l.txs.map Tx.nonce).Pairwise (· < ·):=List.pairwise_map.2 h.srt;rw[<-e] at d;exact List.pairwise_map.1 d
 .have:=h.len;show(l.txs.set _ x).length<=_;rw[YI];omega
theorem mWq{y:Ln}(b:y∈hmq s l):y=l\/y∈s:=by
 unfold hmq at b;split at b
 .exact dcq b
 .exact mem_ins.1 b
theorem hlq(h:GoodS n i m s)(D:GoodL n i (m+1) l)(E:l.txs≠[]):GoodS n i (m+1) (hmq s l):=by
 refine⟨λy j=>?_,?_,?_⟩
 .rcases mWq j with rfl|j
  .exact⟨D,E⟩
  .exact⟨(h.line y j).1.up,(h.line y j).2⟩
 .unfold hmq;split
  .rename_i q;obtain⟨z,G,F⟩:=q
   have e:(s.set (fndK s l.who) l).map Ln.who=s.map Ln.who:=by
    rw[List.map_set];exact jrq (by rw[Z1,G,<-F];rfl)
   have g:(s.map Ln.who).Pairwise (λa b=>yrq a b=true):=List.pairwise_map.2 h.keys;rw[<-e] at g;exact List.pairwise_map.1 g
  .rename_i q;refine pwq (R:=λa b:Ln=>yrq a.who b.who=true) (λA g=>vPq A g) h.keys (λa _ q=>q) (λa C=>?_);have A:yrq a.who l.who=false:=rEq (q:=λB:Ln=>yrq B.who l.who) C;rcases Jkq (a:=a.who) (b:=l.who) (λe=>q ⟨a,C,e⟩) with g|g
   .rw[A] at g;cases g
   .exact g
 .have:=h.len;unfold hmq;split
  .rw[YI];omega
  .simp only[Zh,Zu,Zo,Zy];omega
theorem GoodS.up(h:GoodS n i m s):GoodS n i (m+1) s:=⟨λl a=>⟨(h.line l a).1.up,(h.line l a).2⟩,h.keys,by have:=h.len;omega⟩
theorem hOq{j:Ln}(h:GoodL n i m l)(u:gdq x l.who)(o:x.ok)(b:pxq l x=some j):GoodL n i (m+1) j/\j.txs≠[]/\j.who=l.who:=by
 unfold pxq at b;split at b
 .rename_i y d;split at b
  .rename_i p;split at b
   .cases b
   .cases b;refine⟨hPq h u o d p,λq=>?_,rfl⟩;have:(l.txs.set (ahN l.txs x.nonce) x).length=0:=by rw[show l.txs.set (ahN l.txs x.nonce) x=[] from q];rfl
    rw[YI] at this;have:=yGq d;omega
  .rename_i p;cases b;exact⟨byq h u o (λz f=>by obtain rfl:=ZA (d.symm.trans f);exact p),by simp[mcq],rfl⟩
 .rename_i d;cases b;exact⟨byq h u o (λz f=>by rw[d] at f;cases f),by simp[mcq],rfl⟩
end
section
attribute [local irreducible] CoW OpW FlW aeq ajq
variable {G:Nat->Option W}
theorem A2q:cfg.known 238=some (aGq cfg 234 240 33 56):=by kernel_rfl
def ptH(c:Nat)(o:Option (List W)):HpW:=(0,372,ptO c o)::oH c 240 33 o
theorem hSq{x y z:TypeId×W}{Q:HpW}:∀c u,hget [(2,x),(0,y)] c=some u->c≠3/\c≠1/\hget ((3,z)::(2,x)::(0,y)::Q) c=some u:=λc u b=>by
 have h:=b;rw[zfq] at h;split at h
 .rename_i q;subst q;cases h;exact⟨by decide,by decide,rfl⟩
 .rw[zfq] at h;split at h
  .rename_i q;subst q;cases h;exact⟨by decide,by decide,rfl⟩
  .simp[hget] at h
theorem Adq(s:Shd)(l:Ln)(o:Option (List W))(x:o.getD []=s.map lnW)(S:l.txs≠[])(V:l.txs.length<=1000)(Z:s.length<=1000):zUq cfg G 204 2 [.ptr 0 0,lnW l] (ptH 1 o) λw P T=>w= .tup []/\(∃c O,(c=1\/c=2)/\O.getD []=(hmq s l).map lnW/\P=ptH c O)/\T=3:=by
 have e:(s.map lnW).length=s.length:=Ze _;have N:(l.txs.map txW).length=l.txs.length:=Ze _;have J:=qEq s;have U:=jnq l.txs;have X:l.txs.length≠0:=λq=>S (ZZ.1 q)
 have D:acq [.fel (shdW s),dW l.who]=true:=by simp[acq,aaq]
 intro R;by_cases h:aYq s l.who
 .obtain⟨z,F,M⟩:=h;have H:=yGq F
  have E:(hmq s l).map lnW=(s.map lnW).set (fndK s l.who) (lnW l):=by
   unfold hmq;rw[Zl ⟨z,F,M⟩,List.map_set]
  have A:acq ((s.map lnW).set (fndK s l.who) (lnW l))=true:=E▸qEq _
  obtain rfl:o=some (s.map lnW):=by
   cases o with
   |none=>exact absurd (x.symm▸e:([]:List W).length=_) Qa
   |some L=>exact Zc some x
  refine gIs 17 Y (λQ=>?_);refine vcq Y Y Y Y Y (.cons (xjq rfl x (zSq Xg (zSq Xg k5q))) (.cons (.pur (qeq l.who)) .nil)) (zrq (w':=.tup [.int .i64 (fndK s l.who:Int),.bool true]) (QPq s l.who Xd) (by rw[Zq (show aYq s l.who from⟨z,F,M⟩)])) D Y (zeq 14 Y (gZ 0 Y N (gF 0 Y (eqI_not.2 Xd) (gP 20 Y (ypq (i:=fndK s l.who) Y Y Y Y Y Y Y (by rw[e];exact H)) ?_))))
  (refine yeq rfl (xlq (n:=(s.map lnW).length) (e:=33) Y Y Y Y Y Y Y (ziq lnW F) Y Y Y Y Xg ?_);refine⟨by kernel_rfl,?_⟩)
  exact zWq 2 Y (fin (.inl rfl) (zvq (nw2:=3) (fr2:=[]) (hp2:=ptH 1 (some ((s.map lnW).set (fndK s l.who) (lnW l)))) Xg Xg trivial rfl (zoq ⟨⟨by decide,by show some (_,W.agg 1 [W.sl 1 0 0 (s.map lnW).length 33 none])=some (_,W.agg 1 [W.sl 1 0 0 ((s.map lnW).set (fndK s l.who) (lnW l)).length 33 none]);rw[YI],usq Xg⟩,⟨by decide,by rw[YI];rfl,zaq (show aaq (.arr _ 33 ((s.map lnW).set (fndK s l.who) (lnW l)))=true from A)⟩,trivial⟩) (by simp[ptH,oH])) rfl ⟨rfl,rfl,⟨1,some ((s.map lnW).set (fndK s l.who) (lnW l)),.inl rfl,E.symm,rfl⟩,rfl⟩)
 .have E:(hmq s l).map lnW=(s.map lnW).take (fndK s l.who)++lnW l::(s.map lnW).drop (fndK s l.who):=by
   unfold hmq;rw[Zg h,Z4,List.map_take,ZD,List.map_drop]
  have I:=iVq s l.who;have C:acq (o.getD [])=true:=x▸J
  refine gIs 17 Y (λQ=>?_);refine vcq Y Y Y Y Y (.cons (xjq rfl x (zSq Xg (zSq Xg k5q))) (.cons (.pur (qeq l.who)) .nil)) (zrq (w':=.tup [.int .i64 (fndK s l.who:Int),.bool false]) (QPq s l.who Xd) (by rw[Zw h])) D Y (zeq 32 Y (gZ 0 Y N (gT 0 Y (ltI_iff.2 Xd) (gM 10 Y (zwq Y Y Y CWq) (zbq 3 Y ?_)))))
  (refine yeq rfl (Qfq (j:=rNq) (k:=mAq) (y:=lnW l) (nb:=lnW l) (b:=1) A2q Y Y Y Y Y Y Y Y Y Y (zSq Xg (zSq Xg (zSq Xg k5q))) C Y Y (jyq l) (jyq l) Xg Xg Xg (by rw[x,e];exact I) (by rw[x,e];show _*56<=_;omega) (by rw[x,e];omega) [(2,240,lnW l),(0,372,ptO 1 o)] hSq Xi Xi ?_);intro L K;refine⟨by kernel_rfl,?_⟩)
  refine zWq 3 Y (gM 0 Y (qmq Y Y Y Y Y CVq rfl) (zbq 2 Y ?_));have B:aaq (.arr (L.length*33) 33 L)=true:=by show acq L=true;rw[K];exact diq C (jyq l)
  exact fin (.inl rfl) (yiq (b:=2) (k:=4) (fr2:=[]) (hp2:=ptH 2 (some L)) Xg Xg Xg trivial ⟨⟨by decide,by rw[xSq];rfl,usq Xg⟩,⟨by decide,by rw[zdq B];rfl,zaq B⟩,trivial⟩ (by simp[ptH,oH])) rfl ⟨rfl,rfl,⟨2,some L,.inr rfl,by rw[E,<-x];exact K,rfl⟩,rfl⟩
end
section
attribute [local irreducible] CoW OpW FlW aeq ajq
section
variable {G:Nat->Option W}
theorem AMq(s:Shd)(k:Dig)(o:Option (List W))(x:o.getD []=s.map lnW)(D:s.length<=1000000000):zUq cfg G 201 2 [.ptr 0 0,dW k] (ptH 1 o) λw H F=>w=lnW (kpq s k)/\H=(3,240,lnW (kpq s k))::ptH 1 o/\F=4:=by
 have e:(s.map lnW).length=s.length:=Ze _;have j:=qEq s;have y:acq (o.getD [])=true:=x▸j
 have m:acq [.fel (shdW s),dW k]=true:=by simp[acq,aaq]
 have C:∀{P:HpW},oIn P 1 240 33 o->hget P 0=some (372,ptO 1 o) ->ViewL (amq P) [.ptr 0 0,dW k] [.fel (shdW s),dW k]:=λq d=>.cons (xjq (by unfold amq;rw[d]) x q) (.cons (.pur (qeq k)) .nil)
 intro R;rcases KVq s k with ⟨q,d,J⟩|⟨q,d⟩
 .have B:=yGq d
  obtain rfl:o=some (s.map lnW):=by
   cases o with
   |none=>exact absurd (x.symm▸e:([]:List W).length=_) Qa
   |some L=>exact Zc some x
  refine gIs 10 Y (λI=>?_);refine vcq Y Y Y Y Y (C (zSq Xg (zSq Xg (zSq Xg k5q))) rfl) (zrq (w':=.tup [.int .i64 (fndK s k:Int),.bool true]) (QPq s k D) (by rw[Zq q])) m Y (zeq 25 Y (gP 0 Y (ypq (i:=fndK s k) Y Y Y Y Y Y Y (by rw[e];exact B)) ?_))
  (refine zhq rfl (ujq (n:=(s.map lnW).length) (e:=33) Y Y Y Y Y Y Y (ziq lnW d) Y Y Xg ?_))
  exact zeq 4 Y (fin Jr (zvq (nw2:=4) (fr2:=[(4,.ptr 3 0)]) (hp2:=(3,240,lnW (kpq s k))::ptH 1 (some (s.map lnW))) Xg Xg ⟨rfl,trivial⟩ rfl (zoq ⟨⟨by decide,rfl,zaq (jyq _)⟩,⟨by decide,rfl,usq Xg⟩,⟨by decide,rfl,zaq (show aaq (.arr _ 33 (s.map lnW))=true from j)⟩,trivial⟩) (by simp[ptH,oH])) rfl ⟨rfl,rfl,rfl,rfl⟩)
 .rw[d];refine gIs 10 Y (λI=>?_);refine vcq Y Y Y Y Y (C (zSq Xg (zSq Xg (zSq Xg k5q))) rfl) (zrq (w':=.tup [.int .i64 (fndK s k:Int),.bool false]) (QPq s k D) (by rw[Zw q])) m Y (zeq 24 Y ?_);exact fin Jr ((dzq (b:=3) (w':=lnW ⟨k,[]⟩) rfl (λA v E=>kDq (Γ:=A) (Γ':=A) (blk:=λ_=>none) ⟨λ_ h _=>h,λ_ _ _=>rfl,λ_ h=>h,λ_ _=>rfl,λ_ _ _ h=>Qi⟩ (.agg (.cons (.pur (qeq k)) (.cons .nilfz .nil))) E)).trans (zvq (nw2:=4) (fr2:=[(4,.ptr 3 0)]) (hp2:=(3,240,lnW ⟨k,[]⟩)::ptH 1 o) Xg Xg ⟨rfl,trivial⟩ rfl (zoq ⟨⟨by decide,rfl,zaq (jyq _)⟩,⟨by decide,rfl,usq Xg⟩,bhq Xg y (zSq Xg (zSq Xg (zSq Xg k5q)))⟩) (by cases o<;>simp[ptH,oH]))) rfl ⟨rfl,rfl,rfl,rfl⟩
end
theorem GoodL.lnm{n i m:Nat}{l:Ln}(h:GoodL n i m l)(d:m<=256):LnM l:=by
 refine⟨by have:=h.len;omega,λj x a=>⟨(h.own x (Zj a)).1,λy c b=>c0q h.srt (i:=j-1) (j:=j) Xd b a⟩⟩
theorem GoodS.sh{n i m:Nat}{s:Shd}(h:GoodS n i m s)(b:m<=256):ShM s:=λj l a=>by
 obtain⟨c,d⟩:=h.line l (Zj a);exact⟨⟨λq=>d (ZZ.1 q),c.lnm b⟩,λp f e=>c0q h.keys (i:=j-1) (j:=j) Xd e a⟩
theorem p4q{C:Cfg}{G:Nat->Option W}{m M B b k:Nat}{F fr2:FrW}{z hp2:HpW}{R:Res}(S:m<=b)(Q:b<=B)(D:m<=k)(O:k<B)(A:∀p∈hp2,p.1≠k\/k=b)(H:vNq (aIq b k) (b+1) F fr2)(J:Jqq (aIq b k) (b+1) z hp2)(P:(hp2.map (·.1)).Nodup):Ent C G m M F z B R fr2 hp2 (b+1) R:=by
 have f:∀i x,hget hp2 i=some x->i≠k\/k=b:=λi x n=>YY λq=>by
  rw[yPq λp z e=>q (by have:=A p z;rw[e] at this;exact this)] at n;cases n
 refine QXq (aIq b k) Xd (λi K=>qLq Xd) (λi K=>?_) (λi E L=>?_) (uWq H) (j1q J) (λi j x y n I e=>?_) P
 .by_cases e:i=b
  .subst e;rw[kcq];exact O
  .rw[qLq e];omega
 .by_cases e:i=b
  .subst e;rw[kcq];exact D
  .rw[qLq e];exact E
 .have E:=f i x n;have L:=f j y I;by_cases g:i=b<;>by_cases l:j=b
  .rw[g,l]
  .subst g;rw[kcq,qLq l] at e;omega
  .subst l;rw[kcq,qLq g] at e;omega
  .rwa[qLq g,qLq l] at e
theorem nWq{c:HpW}{a b u e:Nat}{d:TypeId}{X z:TypeId×W}{o:Option (List W)}(B:hget c a=some z)(x:hget c b=hget (oH b d e o) b)(v:hget c u=none)(l:a≠b):∀k y,hget c k=some y->hget (((u,X)::(a,z)::oH b d e o)++aRq [a,b] c) k=some y:=λk y h=>by
 show hget ((u,X)::(a,z)::(oH b d e o++aRq [a,b] c)) k=some y;rw[zfq];split
 .rename_i q;subst q;rw[v] at h;cases h
 .rw[zfq];split
  .rename_i q;subst q;rw[B] at h;exact h
  .rename_i C A;rw[qoq];by_cases f:k=b
   .subst f;rw[x] at h;rw[h];rfl
   .rw[yPq (λp c e=>f (by rw[qNq p c] at e;exact e.symm)),Xgq (λj g=>by simp only[ZB,ZW,or_false] at g;rcases g with rfl|rfl;exact A;exact λe=>f e.symm),h];rfl
theorem m8q{l:Ln}{x:Tx}(d:∀y∈l.txs,y.ok)(j:x.ok)(f:LnM l)(k:gdq x l.who)(b:pxq l x=none):PS cfg glK 200 [lnW l,txW x] (.tup [ln0,.nils,.int .i64 190]):=by
 unfold pxq at b;split at b
 .rename_i y g;split at b
  .rename_i o;split at b
   .rename_i h;exact siq l x d j f k g o h
   .cases b
  .cases b
 .cases b
theorem hRq{b:Nat}{o:Option (List W)}:z7q 50 (.agg 1 [.nils]) 0 (ptO b o)=some (ptO b o):=by cases o<;>rfl
theorem smq{b:Nat}{o:Option (List W)}:zGq 50 (ptO b o) 0 1 true=some (ptO b o):=by cases o<;>rfl
theorem Xbq{C:Cfg}{G:Nat->Option W}{m I g:Nat}{A fr2:FrW}{z hp2:HpW}{R:Res}(E:m<g)(B:arq A fr2)(D:aPq g fr2)(k:coq z g hp2)(J:(hp2.map (·.1)).Nodup):Ent C G m I A z g R fr2 hp2 (g+1) R:=by
 have f:∀i,i<g->aIq g m i=i:=λi n=>qLq Xd
 refine QXq (aIq g m) Xd (λi n=>f i Xd) (λi n=>?_) (λi l q=>?_) (uWq (bbq f B D)) (j1q (Jzq f k)) (λi j x y F H e=>?_) J
 .by_cases e:i=g
  .subst e;rw[kcq];exact E
  .rw[f i Xd];omega
 .by_cases e:i=g
  .subst e;rw[kcq];exact Zb _
  .rw[f i Xd];exact l
 .have l:=(zoq k i x F).1;have q:=(zoq k j y H).1;rwa[f i l,f j q] at e
def paW(c:Nat):List Prt->W
 |[]=>.nils
 |p::l=>.sl c 0 0 (l.length+1) 1 none
def paH(a b c:Nat):List Prt->HpW
 |[]=>[]
 |p::l=>[(c,357,.arr ((l.length+1)*1) 1 ((p::l).map (axq a b)))]
def cjq(k:Int):List Prt:=if k=1 then [.tx] else if k=2\/k=3 then [.key] else if k=4 then [.height,.key] else if k=7\/k=8 then [.sub] else []
def goq(k:Int):Bool:=decide (1<=k/\k<=8)
section
variable {G:Nat->Option W}
theorem rxq(q:Aq):zUq cfg G 125 1 [.ptr 0 0] [(0,94,aqW q)] λw J I=>w= .tup [paW 2 (cjq q.kind),.bool (goq q.kind)]/\J=(1,256,.ptr 0 0)::(0,94,aqW q)::paH 0 1 2 (cjq q.kind)/\I=3:=by
 obtain⟨k,x,d,g,u⟩:=q;intro R;by_cases z:k=1
 .subst z;refine gIs 19 Y (λf=>?_);exact gT 0 Y (eqI_iff.2 (rfl)) (zbq 28 Y (fin Jr (zvq (nw2:=3) (fr2:=[(2,paW 2 [.tx]),(3,.bool true)]) (hp2:=(1,256,.ptr 0 0)::(0,94,aqW ⟨1,x,d,g,u⟩)::paH 0 1 2 [.tx]) Xg Xg ⟨rfl,rfl,trivial⟩ rfl (zoq ⟨⟨by decide,rfl,rfl⟩,⟨by decide,rfl,zaq (zLq _)⟩,⟨by decide,rfl,rfl⟩,trivial⟩) (by simp[paH])) rfl ⟨rfl,rfl,rfl,rfl⟩))
 .by_cases j:k=2\/k=3
  .have B:cjq k=[.key]:=by unfold cjq;rw[Zg z,Zl j]
   have D:goq k=true:=Zq Xd;rw[B,D];rcases j with rfl|rfl
   .skip
    refine gIs 19 Y (λf=>?_);exact gF 0 Y (eqI_not.2 Xi) (gT 7 Y (eqI_iff.2 (rfl)) (zbq 26 Y (fin Jr (zvq (nw2:=3) (fr2:=[(2,paW 2 [.key]),(3,.bool true)]) (hp2:=(1,256,.ptr 0 0)::(0,94,aqW ⟨2,x,d,g,u⟩)::paH 0 1 2 [.key]) Xg Xg ⟨rfl,rfl,trivial⟩ rfl (zoq ⟨⟨by decide,rfl,rfl⟩,⟨by decide,rfl,zaq (zLq _)⟩,⟨by decide,rfl,rfl⟩,trivial⟩) (by simp[paH])) rfl ⟨rfl,rfl,rfl,rfl⟩)))
   .skip
    refine gIs 19 Y (λf=>?_);exact gF 0 Y (eqI_not.2 Xi) (gF 7 Y (eqI_not.2 Xi) (gT 5 Y (eqI_iff.2 (rfl)) (zbq 23 Y (fin Jr (zvq (nw2:=3) (fr2:=[(2,paW 2 [.key]),(3,.bool true)]) (hp2:=(1,256,.ptr 0 0)::(0,94,aqW ⟨3,x,d,g,u⟩)::paH 0 1 2 [.key]) Xg Xg ⟨rfl,rfl,trivial⟩ rfl (zoq ⟨⟨by decide,rfl,rfl⟩,⟨by decide,rfl,zaq (zLq _)⟩,⟨by decide,rfl,rfl⟩,trivial⟩) (by simp[paH])) rfl ⟨rfl,rfl,rfl,rfl⟩))))
  .by_cases E:k=4
   .subst E;refine gIs 19 Y (λf=>?_);refine gF 0 Y (eqI_not.2 Xi) (gF 7 Y (eqI_not.2 Xi) (gF 5 Y (eqI_not.2 Xi) (gT 6 Y (eqI_iff.2 (rfl)) (zbq 8 Y ?_))))
    (refine yeq rfl (YKq (uXq Y Y Y Y (.cons (.ptr (n:=1) (ag:=false) rfl (zLq ⟨4,x,d,g,u⟩) rfl) .nil) (wvq (.int .i64 g) rfl) rfl) (zDq (ext:=[0]) (ws:=[.ptr 0 132]) Y Y Y Y Y (wwq ⟨4,x,d,g,u⟩) Xg Xl Xi (yYq Ja (zaq (zLq _))) Y ?_));rintro w A m ⟨rfl,rfl,rfl⟩;rw[zZq (zLq _),YSq];refine⟨by first|rfl|kernel_rfl,?_⟩)
    exact zWq 18 Y (fin Jr (zvq (nw2:=3) (fr2:=[(2,paW 2 [.height,.key]),(3,.bool true)]) (hp2:=(1,256,.ptr 0 0)::(0,94,aqW ⟨4,x,d,g,u⟩)::paH 0 1 2 [.height,.key]) Xg Xg ⟨rfl,rfl,trivial⟩ rfl (zoq ⟨⟨by decide,rfl,rfl⟩,⟨by decide,rfl,zaq (zLq _)⟩,⟨by decide,rfl,rfl⟩,trivial⟩) (by simp[paH])) rfl ⟨rfl,rfl,rfl,rfl⟩)
   .by_cases C:k=7\/k=8
    .have B:cjq k=[.sub]:=by unfold cjq;rw[Zg z,Zg j,Zg E,Zl C]
     have D:goq k=true:=Zq Xd;rw[B,D];rcases C with rfl|rfl
     .skip
      refine gIs 19 Y (λf=>?_);refine gF 0 Y (eqI_not.2 Xi) (gF 7 Y (eqI_not.2 Xi) (gF 5 Y (eqI_not.2 Xi) (gF 6 Y (eqI_not.2 Xi) (gF 7 Y (eqI_not.2 Xi) (gF 5 Y (eqI_not.2 Xi) (gT 7 Y (eqI_iff.2 (rfl)) (zbq 11 Y ?_)))))))
      (refine zhq rfl (zDq (ext:=[0]) (ws:=[.ptr 0 133]) Y Y Y Y Y (o9q ⟨7,x,d,g,u⟩) Xg Xl Xi (yYq Ja (zaq (zLq _))) Y ?_);rintro w A m ⟨rfl,rfl,rfl⟩;rw[zZq (zLq _),YSq])
      exact zeq 13 Y (fin Jr (zvq (nw2:=3) (fr2:=[(2,paW 2 [.sub]),(3,.bool true)]) (hp2:=(1,256,.ptr 0 0)::(0,94,aqW ⟨7,x,d,g,u⟩)::paH 0 1 2 [.sub]) Xg Xg ⟨rfl,rfl,trivial⟩ rfl (zoq ⟨⟨by decide,rfl,rfl⟩,⟨by decide,rfl,zaq (zLq _)⟩,⟨by decide,rfl,rfl⟩,trivial⟩) (by simp[paH])) rfl ⟨rfl,rfl,rfl,rfl⟩)
     .skip
      refine gIs 19 Y (λf=>?_);refine gF 0 Y (eqI_not.2 Xi) (gF 7 Y (eqI_not.2 Xi) (gF 5 Y (eqI_not.2 Xi) (gF 6 Y (eqI_not.2 Xi) (gF 7 Y (eqI_not.2 Xi) (gF 5 Y (eqI_not.2 Xi) (gF 7 Y (eqI_not.2 Xi) (gT 5 Y (eqI_iff.2 (rfl)) (zbq 8 Y ?_))))))))
      (refine zhq rfl (zDq (ext:=[0]) (ws:=[.ptr 0 133]) Y Y Y Y Y (o9q ⟨8,x,d,g,u⟩) Xg Xl Xi (yYq Ja (zaq (zLq _))) Y ?_);rintro w A m ⟨rfl,rfl,rfl⟩;rw[zZq (zLq _),YSq])
      exact zeq 13 Y (fin Jr (zvq (nw2:=3) (fr2:=[(2,paW 2 [.sub]),(3,.bool true)]) (hp2:=(1,256,.ptr 0 0)::(0,94,aqW ⟨8,x,d,g,u⟩)::paH 0 1 2 [.sub]) Xg Xg ⟨rfl,rfl,trivial⟩ rfl (zoq ⟨⟨by decide,rfl,rfl⟩,⟨by decide,rfl,zaq (zLq _)⟩,⟨by decide,rfl,rfl⟩,trivial⟩) (by simp[paH])) rfl ⟨rfl,rfl,rfl,rfl⟩)
    .have B:cjq k=[]:=by unfold cjq;rw[Zg z,Zg j,Zg E,Zg C]
     rw[B];by_cases H:k=5
     .subst H;refine gIs 19 Y (λf=>?_);exact gF 0 Y (eqI_not.2 Xi) (gF 7 Y (eqI_not.2 Xi) (gF 5 Y (eqI_not.2 Xi) (gF 6 Y (eqI_not.2 Xi) (gT 7 Y (eqI_iff.2 (rfl)) (zbq 18 Y (fin Jr (Xbq (fr2:=[(2,.nils),(3,.bool true)]) (hp2:=[(1,256,.ptr 0 0),(0,94,aqW ⟨5,x,d,g,u⟩)]) Xg ⟨rfl,rfl,trivial⟩ ⟨rfl,rfl,trivial⟩ ⟨⟨by decide,rfl,rfl⟩,⟨by decide,rfl,zaq (zLq _)⟩,trivial⟩ Xi) rfl ⟨rfl,rfl,rfl,rfl⟩))))))
     .by_cases F:k=6
      .subst F;refine gIs 19 Y (λf=>?_);exact gF 0 Y (eqI_not.2 Xi) (gF 7 Y (eqI_not.2 Xi) (gF 5 Y (eqI_not.2 Xi) (gF 6 Y (eqI_not.2 Xi) (gF 7 Y (eqI_not.2 Xi) (gT 5 Y (eqI_iff.2 (rfl)) (zbq 15 Y (fin Jr (Xbq (fr2:=[(2,.nils),(3,.bool true)]) (hp2:=[(1,256,.ptr 0 0),(0,94,aqW ⟨6,x,d,g,u⟩)]) Xg ⟨rfl,rfl,trivial⟩ ⟨rfl,rfl,trivial⟩ ⟨⟨by decide,rfl,rfl⟩,⟨by decide,rfl,zaq (zLq _)⟩,trivial⟩ Xi) rfl ⟨rfl,rfl,rfl,rfl⟩)))))))
      .have D:goq k=false:=Zw Xd;rw[D];refine gIs 19 Y (λf=>?_);exact gF 0 Y (eqI_not.2 (z)) (gF 7 Y (eqI_not.2 (λq=>j (.inl q))) (gF 5 Y (eqI_not.2 (λq=>j (.inr q))) (gF 6 Y (eqI_not.2 (E)) (gF 7 Y (eqI_not.2 (H)) (gF 5 Y (eqI_not.2 (F)) (gF 7 Y (eqI_not.2 (λq=>C (.inl q))) (gF 5 Y (eqI_not.2 (λq=>C (.inr q))) (zbq 13 Y (fin Jr (Xbq (fr2:=[(2,.nils),(3,.bool false)]) (hp2:=[(1,256,.ptr 0 0),(0,94,aqW ⟨k,x,d,g,u⟩)]) Xg ⟨rfl,rfl,trivial⟩ ⟨rfl,rfl,trivial⟩ ⟨⟨by decide,rfl,rfl⟩,⟨by decide,rfl,zaq (zLq _)⟩,trivial⟩ Xi) rfl ⟨rfl,rfl,rfl,rfl⟩)))))))))
end
def blq:Aq×List UInt8×Bool->Prt->Aq×List UInt8×Bool
 |(q,l,b),.height=>(⟨q.kind,q.tx,q.key,(min (alq (anq l 8)) 1073741824:Nat),q.sub⟩,aVq l 8,(b||decide (l.length<8))||decide (1073741824<alq (anq l 8)))
 |(q,l,b),.sub=>(⟨q.kind,q.tx,q.key,q.height,(min (alq (anq l 4)) 1073741823:Nat)⟩,aVq l 4,(b||decide (l.length<4))||decide (1073741823<alq (anq l 4)))
 |(q,l,b),.key=>(⟨q.kind,q.tx,jFq (anq l 32),q.height,q.sub⟩,aVq l 32,b||decide (l.length<32))
 |(q,l,b),.tx=>if b||decide (l.length<120) then(q,aVq l 120,true) else(⟨q.kind,(aEq (anq l 120)).1,q.key,q.height,q.sub⟩,aVq l 120,!decide ((aEq (anq l 120)).2=0))
def aXq(a:List Prt)(s:Aq×List UInt8×Bool):Aq×List UInt8×Bool:=a.foldl blq s
theorem lVq{a:List Prt}{i:Nat}{p:Prt}(h:a[i]? =some p)(s:Aq×List UInt8×Bool):aXq (a.take (i+1)) s=blq (aXq (a.take i) s) p:=by
 unfold aXq;rw[YA,h,List.foldl_append];rfl
theorem g7q(s:Aq×List UInt8×Bool)(p:Prt):(blq s p).2.1.length<=s.2.1.length:=by
 obtain⟨q,l,b⟩:=s;cases p with
 |height=>exact YMq l 8
 |sub=>exact YMq l 4
 |key=>exact YMq l 32
 |tx=>
  show(if _ then _ else _:Aq×List UInt8×Bool).2.1.length<=l.length;split<;>exact YMq l 120
theorem fqq:∀(a:List Prt) (s:Aq×List UInt8×Bool),(aXq a s).2.1.length<=s.2.1.length
 |[],s=>Zb _
 |p::a,s=>Zt (fqq a (blq s p)) (g7q s p)
theorem mKq(s:Aq×List UInt8×Bool)(p:Prt)(h:s.1.tx.ok):(blq s p).1.tx.ok/\(blq s p).1.kind=s.1.kind:=by
 obtain⟨q,l,b⟩:=s;cases p with
 |height=>exact⟨h,rfl⟩
 |sub=>exact⟨h,rfl⟩
 |key=>exact⟨h,rfl⟩
 |tx=>
  show(if _ then _ else _:Aq×List UInt8×Bool).1.tx.ok/\(if _ then _ else _:Aq×List UInt8×Bool).1.kind=q.kind;split
  .exact⟨h,rfl⟩
  .exact⟨rDq _,rfl⟩
theorem lWq:∀(a:List Prt) (s:Aq×List UInt8×Bool),s.1.tx.ok->(aXq a s).1.tx.ok/\(aXq a s).1.kind=s.1.kind
 |[],s,h=>⟨h,rfl⟩
 |p::a,s,h=>by
  obtain⟨f,b⟩:=mKq s p h;obtain⟨c,e⟩:=lWq a (blq s p) f;exact⟨c,e.trans b⟩
theorem Ejq{a b:Nat}(h:b<=a):Nat.blt a b=false:=by
 cases e:Nat.blt a b with
 |false=>rfl
 |true=>exact absurd (Yb e) Xd
theorem bltT{a b:Nat}(h:a<b):Nat.blt a b=true:=Zn h
def aqF(q:Aq)(l:List UInt8):W:=.agg 134 [.int .u8 q.kind,txW q.tx,.arr 32 1 (zcq l),.int .i64 q.height,.int .i64 q.sub]
theorem nVq(q:Aq)(l:List UInt8)(i:Nat)(c:UInt8)(m:l.length=32)(d:i<32):z7q 50 (aqF q l) (100+i) (byW c)=some (aqF q (l.set i c)):=by
 have h:=emq (f:=47) (l:=l) (n:=32) (i:=i) Xd Xg c;rw[show 0+i*1+0=i by omega] at h
 have k:Yiq (λy o=>z7q 49 y o (byW c)) [.int .u8 q.kind,txW q.tx,.arr 32 1 (zcq l),.int .i64 q.height,.int .i64 q.sub] (100+i)=some [.int .u8 q.kind,txW q.tx,.arr 32 1 (zcq (l.set i c)),.int .i64 q.height,.int .i64 q.sub]:=by
  simp only[Yiq];rw[show(W.int .u8 q.kind).size=1 from rfl,show(txW q.tx).size=99 from rfl,show(W.arr 32 1 (zcq l)).size=32 from rfl,Ejq (show 1<=100+i by omega),Ejq (show 99<=100+i-1 by omega),show 100+i-1-99=i by omega,bltT d];simp only[h]
 have b:(Nat.beq (100+i) 0&&Nat.beq (byW c).size (aqF q l).size&&(byW c).isAgg==(aqF q l).isAgg)=false:=by
  show(Nat.beq (100+i) 0&&Nat.beq 1 134&&false)=false;rw[Y3]
 unfold z7q;rw[b]
 show(match Yiq (λy o=>z7q 49 y o (byW c)) [.int .u8 q.kind,txW q.tx,.arr 32 1 (zcq l),.int .i64 q.height,.int .i64 q.sub] (100+i) with
  |some j=>some (W.agg 134 j)
  |none=>none)=_
 rw[k];rfl
theorem eoq(q:Aq)(l:List UInt8)(h:l.length=32):v7q (aqW q) 100 1 (zcq l)=some (aqW ⟨q.kind,q.tx,jFq l,q.height,q.sub⟩):=by
 have:=Qoq (F:=aqF q) (base:=100) (n:=32) (nVq q) (λ_=>rfl) l 0 q.key.1 q.key.2 Xd;rw[List.take_zero,YX,ZY (by rw[q.key.2];omega),ZT] at this;show v7q (aqF q q.key.1) (100+0) 1 _=some (aqF ⟨q.kind,q.tx,jFq l,q.height,q.sub⟩ (jFq l).1);rw[a9q Xd,Zp Xd];exact this
theorem Ayq(k:IntKind)(M n:Nat):W.int k (match ltI (M:Int) (n:Int) with|true=>(M:Int)|false=>(n:Int))=W.int k ((min n M:Nat):Int):=by
 by_cases h:M<n
 .rw[ltI_iff.2 Xd];simp only;congr 2;omega
 .rw[ltI_not.2 Xd];simp only;congr 2;omega
theorem moq(q:Aq)(l:List UInt8)(f:Bool)(a:l.length=120):zUq cfg glK 192 2 [.fz (zcq l) 1 f,.ptr 1 0] [(0,94,aqW q),(1,256,.ptr 0 0)] λw d c=>w= .bool (decide ((aEq l).2=0))/\d=[(0,94,aqW ⟨q.kind,(aEq l).1,q.key,q.height,q.sub⟩),(1,256,.ptr 0 0)]/\c=2:=by
 intro R;by_cases h:(aEq l).2=0
 .rw[Zq h];refine gIs 8 Y (λe=>?_);exact gC 0 Y (YDq l f a) (gT 20 Y (eqI_iff.2 (h)) (zbq 4 Y (fin Jr (zvq (nw2:=2) (fr2:=[(3,.bool true)]) (hp2:=[(0,94,aqW ⟨q.kind,(aEq l).1,q.key,q.height,q.sub⟩),(1,256,.ptr 0 0)]) Xg (by show 2<=3;decide) ⟨rfl,trivial⟩ rfl (zoq ⟨⟨by decide,rfl,zaq (zLq _)⟩,⟨by decide,rfl,rfl⟩,trivial⟩) Xi) rfl ⟨rfl,rfl,rfl,rfl⟩)))
 .rw[Zw h];refine gIs 8 Y (λe=>?_);exact gC 0 Y (YDq l f a) (gF 20 Y (eqI_not.2 (h)) (zbq 4 Y (fin Jr (zvq (nw2:=2) (fr2:=[(3,.bool false)]) (hp2:=[(0,94,aqW ⟨q.kind,(aEq l).1,q.key,q.height,q.sub⟩),(1,256,.ptr 0 0)]) Xg (by show 2<=3;decide) ⟨rfl,trivial⟩ rfl (zoq ⟨⟨by decide,rfl,zaq (zLq _)⟩,⟨by decide,rfl,rfl⟩,trivial⟩) Xi) rfl ⟨rfl,rfl,rfl,rfl⟩)))
def psH(n:Nat)(z:List W)(s:Aq×List UInt8×Bool):HpW:=[(0,259,rsW s.2.1 s.2.2),(1,94,aqW s.1),(2,256,.ptr 1 0),(3,357,.arr (n*1) 1 z)]
theorem suq(ps:List Prt)(q:Aq)(l:List UInt8)(b:Bool)(hl:l.length<=1000000)(hn:ps.length<=100):zUq cfg glK 126 4 [.ptr 0 0,.sl 3 0 0 ps.length 1 none] (psH ps.length (ps.map (axq 1 2)) (q,l,b)) λw hp nw=>hp=psH ps.length (ps.map (axq 1 2)) (aXq ps (q,l,b))/\nw=4:=by
 have e:(ps.map (axq 1 2)).length=ps.length:=Ze _;have hz:asq 4 (ps.map (axq 1 2))=true:=KHq Xg Xg ps;intro R;refine gIs 10 Y (λk0=>?_);refine gL 0 Y ?_;refine zbq 4 Y ?_;refine jAq (α:=Nat×Aq×List UInt8×Bool) (λp=>p.1<=ps.length/\p.2=aXq (ps.take p.1) (q,l,b)) (λp=>[(20,.int .i64 (p.1:Int)),(0,.ptr 0 0),(4,.fn 197 [.ptr 0 0] []),(18,.sl 3 0 0 ps.length 1 none),(19,.int .i64 (ps.length:Int))]) (λp=>psH ps.length (ps.map (axq 1 2)) p.2) (λ_=>4) (λ_=>R) (λp=>ps.length-p.1) (0,q,l,b) ⟨Zf _,rfl⟩ (yJq ⟨rfl,rfl,rfl,rfl,rfl,trivial⟩ Y Y) (λp hI=>?_);skip
 obtain⟨i,q1,l1,b1⟩:=p;obtain⟨hi,hst⟩:=hI;simp only at hi hst⊢;have hl1:l1.length<=1000000:=Zt (show(q1,l1,b1).2.1.length<=1000000 from by rw[hst];exact Zt (fqq _ _) hl) (Zb _);refine zCq 6 Y ?_;refine gS 0 Y (λh1=>?_) (λh1=>?_)
 .have hi2:i<ps.length:=by omega
  obtain⟨p,hx⟩:∃p,ps[i]? =some p:=⟨_,Za hi2⟩
  have hsx:=lVq hx (q,l,b);rw[<-hst] at hsx;have again:∀(s:Aq×List UInt8×Bool),blq (q1,l1,b1) p=s->aXq (ps.take (i+1)) (q,l,b)=s:=λs h=>hsx.trans h
  clear hst hsx;skip
  cases p with
  |height=>
   have hlt:alq (anq l1 8)<18446744073709551616:=by
    have h1:=QAq (anq l1 8);rw[qlq] at h1;exact Zv h1 (Y7 Xg (by decide:8<=8))
   have htk:∀g,PS cfg glK 198 [.fz (zcq (anq l1 8)) 1 g,.int .i64 ((8:Nat):Int)] (.tup [.int .u64 ((alq (anq l1 8):Nat):Int),bW [],.int .i64 0]):=λg=>zrq (kEq (anq l1 8) g 8 Xg Xg Qo (by rw[qlq];decide)) (by rw[Zp Qo,ZY Qo])
   obtain⟨bb,hb⟩:∃bb,(b1||decide (l1.length<8))=bb:=⟨_,rfl⟩
   refine zHq 6 Y ?_;refine gP 0 Y (ypq (i:=i) Y Y Y Y Y Y Y hi2) ?_;refine gM 0 Y (zwq Y Y Y (klq (e:=1) (off:=0) (ziq (axq 1 2) hx) Xg Xg (Y3 _) rfl)) ?_;refine zbq 28 Y ?_
   (refine yeq rfl (xmq (ev:=.updO 0) (ext:=[0]) (ws:=[.ptr 0 0,.int .i64 ((8:Nat):Int)]) Y Y Y Y Y (ZJq l1 b1 8 Xg Xg hl1) Xg Xl Xi (yYq Yy (zaq (yjq _ _))) Y ?_ (.inr ⟨0,rfl,rfl,_,rfl⟩));rintro w hp1 nw1 ⟨⟨g,rfl⟩,rfl,rfl⟩;rw[zZq (yjq _ _),zdq (show aaq (.fz (zcq (anq l1 8)) 1 g)=true by simp[aaq]),hb];refine⟨by first|rfl|kernel_rfl,?_⟩)
   refine zWq 2 Y ?_;refine gC 0 Y (htk g) ?_;refine zbq 9 Y ?_;refine J9q (α:=Bool) (λb'=>(bb||decide (1073741824<alq (anq l1 8)))=b') (λ_=>[(8,.int .u64 ((alq (anq l1 8):Nat):Int)),(7,.ptr 4 0),(0,.ptr 0 0),(4,.fn 197 [.ptr 0 0] []),(18,.sl 3 0 0 ps.length 1 none),(19,.int .i64 (ps.length:Int)),(20,.int .i64 (i:Int))]) (λb'=>[(0,259,rsW (aVq l1 8) b'),(4,362,.agg 3 [.ptr 1 132,.int .i64 8,.int .i64 1073741824]),(1,94,aqW q1),(2,256,.ptr 1 0),(3,357,.arr (ps.length*1) 1 (ps.map (axq 1 2)))]) (λ_=>5) ?_ (λa ha=>?_)
   .skip
    cases bb with
    |true=>
     refine zCq 17 Y ?_;exact⟨rfl,_,rfl,yJq ⟨rfl,rfl,rfl,rfl,rfl,rfl,rfl,trivial⟩ Y Y⟩
    |false=>
     by_cases hM:1073741824<alq (anq l1 8)
     .refine zCq 10 Y ?_;refine gWr 0 Y ?_;refine gT 0 Y (ltI_iff.2 Xd) ?_;refine zbq 5 Y ?_;exact⟨rfl,_,Zq hM,yJq ⟨rfl,rfl,rfl,rfl,rfl,rfl,rfl,trivial⟩ Y Y⟩
     .refine zCq 10 Y ?_;refine gWr 0 Y ?_;refine gF 0 Y (ltI_not.2 Xd) ?_;refine zbq 5 Y ?_;exact⟨rfl,_,Zw hM,yJq ⟨rfl,rfl,rfl,rfl,rfl,rfl,rfl,trivial⟩ Y Y⟩
   refine zHq 6 Y ?_;refine gWr 0 Y ?_;refine gV (w':=.int .u64 ((min (alq (anq l1 8)) 1073741824:Nat):Int)) 0 rfl (Ayq _ _ _) ?_;refine gA 0 Y (min (alq (anq l1 8)) 1073741824) ?_;refine gA 7 Y (i+1) ?_;refine zbq 2 Y ?_;skip
   exact y6q (i+1,⟨q1.kind,q1.tx,q1.key,(min (alq (anq l1 8)) 1073741824:Nat),q1.sub⟩,aVq l1 8,a) ⟨hi2,(again _ (by show(_,_,(b1||decide (l1.length<8))||decide (1073741824<alq (anq l1 8)))=_;rw[hb,ha])).symm⟩ Xu (zvq (nw2:=4) Xg Qt ⟨rfl,rfl,rfl,rfl,rfl,trivial⟩ rfl (zoq ⟨⟨by decide,rfl,zaq (yjq _ _)⟩,⟨by decide,rfl,zaq (zLq _)⟩,⟨by decide,rfl,rfl⟩,⟨by decide,rfl,hz⟩,trivial⟩) Jh)
  |sub=>
   have hlt:alq (anq l1 4)<18446744073709551616:=by
    have h1:=QAq (anq l1 4);rw[qlq] at h1;exact Zv h1 (Y7 Xg (by decide:4<=8))
   have htk:∀g,PS cfg glK 198 [.fz (zcq (anq l1 4)) 1 g,.int .i64 ((4:Nat):Int)] (.tup [.int .u64 ((alq (anq l1 4):Nat):Int),bW [],.int .i64 0]):=λg=>zrq (kEq (anq l1 4) g 4 Xg Xg Qo (by rw[qlq];decide)) (by rw[Zp Qo,ZY Qo])
   obtain⟨bb,hb⟩:∃bb,(b1||decide (l1.length<4))=bb:=⟨_,rfl⟩
   refine zHq 6 Y ?_;refine gP 0 Y (ypq (i:=i) Y Y Y Y Y Y Y hi2) ?_;refine gM 0 Y (zwq Y Y Y (klq (e:=1) (off:=0) (ziq (axq 1 2) hx) Xg Xg (Y3 _) rfl)) ?_;refine zbq 28 Y ?_
   (refine yeq rfl (xmq (ev:=.updO 0) (ext:=[0]) (ws:=[.ptr 0 0,.int .i64 ((4:Nat):Int)]) Y Y Y Y Y (ZJq l1 b1 4 Xg Xg hl1) Xg Xl Xi (yYq Yy (zaq (yjq _ _))) Y ?_ (.inr ⟨0,rfl,rfl,_,rfl⟩));rintro w hp1 nw1 ⟨⟨g,rfl⟩,rfl,rfl⟩;rw[zZq (yjq _ _),zdq (show aaq (.fz (zcq (anq l1 4)) 1 g)=true by simp[aaq]),hb];refine⟨by first|rfl|kernel_rfl,?_⟩)
   refine zWq 2 Y ?_;refine gC 0 Y (htk g) ?_;refine zbq 9 Y ?_;refine J9q (α:=Bool) (λb'=>(bb||decide (1073741823<alq (anq l1 4)))=b') (λ_=>[(8,.int .u64 ((alq (anq l1 4):Nat):Int)),(7,.ptr 4 0),(0,.ptr 0 0),(4,.fn 197 [.ptr 0 0] []),(18,.sl 3 0 0 ps.length 1 none),(19,.int .i64 (ps.length:Int)),(20,.int .i64 (i:Int))]) (λb'=>[(0,259,rsW (aVq l1 4) b'),(4,362,.agg 3 [.ptr 1 133,.int .i64 4,.int .i64 1073741823]),(1,94,aqW q1),(2,256,.ptr 1 0),(3,357,.arr (ps.length*1) 1 (ps.map (axq 1 2)))]) (λ_=>5) ?_ (λa ha=>?_)
   .skip
    cases bb with
    |true=>
     refine zCq 17 Y ?_;exact⟨rfl,_,rfl,yJq ⟨rfl,rfl,rfl,rfl,rfl,rfl,rfl,trivial⟩ Y Y⟩
    |false=>
     by_cases hM:1073741823<alq (anq l1 4)
     .refine zCq 10 Y ?_;refine gWr 0 Y ?_;refine gT 0 Y (ltI_iff.2 Xd) ?_;refine zbq 5 Y ?_;exact⟨rfl,_,Zq hM,yJq ⟨rfl,rfl,rfl,rfl,rfl,rfl,rfl,trivial⟩ Y Y⟩
     .refine zCq 10 Y ?_;refine gWr 0 Y ?_;refine gF 0 Y (ltI_not.2 Xd) ?_;refine zbq 5 Y ?_;exact⟨rfl,_,Zw hM,yJq ⟨rfl,rfl,rfl,rfl,rfl,rfl,rfl,trivial⟩ Y Y⟩
   refine zHq 6 Y ?_;refine gWr 0 Y ?_;refine gV (w':=.int .u64 ((min (alq (anq l1 4)) 1073741823:Nat):Int)) 0 rfl (Ayq _ _ _) ?_;refine gA 0 Y (min (alq (anq l1 4)) 1073741823) ?_;refine gA 7 Y (i+1) ?_;refine zbq 2 Y ?_;skip
   exact y6q (i+1,⟨q1.kind,q1.tx,q1.key,q1.height,(min (alq (anq l1 4)) 1073741823:Nat)⟩,aVq l1 4,a) ⟨hi2,(again _ (by show(_,_,(b1||decide (l1.length<4))||decide (1073741823<alq (anq l1 4)))=_;rw[hb,ha])).symm⟩ Xu (zvq (nw2:=4) Xg Qt ⟨rfl,rfl,rfl,rfl,rfl,trivial⟩ rfl (zoq ⟨⟨by decide,rfl,zaq (yjq _ _)⟩,⟨by decide,rfl,zaq (zLq _)⟩,⟨by decide,rfl,rfl⟩,⟨by decide,rfl,hz⟩,trivial⟩) Jh)
  |key=>
   cases hb:(b1||decide (l1.length<32)) with
   |true=>
    refine zHq 6 Y ?_;refine gP 0 Y (ypq (i:=i) Y Y Y Y Y Y Y hi2) ?_;refine gM 0 Y (zwq Y Y Y (klq (e:=1) (off:=0) (ziq (axq 1 2) hx) Xg Xg (Y3 _) rfl)) ?_;refine zbq 37 Y ?_
    (refine yeq rfl (xmq (ev:=.updO 0) (ext:=[0]) (ws:=[.ptr 0 0,.int .i64 ((32:Nat):Int)]) Y Y Y Y Y (ZJq l1 b1 32 Xg Xg hl1) Xg Xl Xi (yYq Yy (zaq (yjq _ _))) Y ?_ (.inr ⟨0,rfl,rfl,_,rfl⟩));rintro w hp1 nw1 ⟨⟨g,rfl⟩,rfl,rfl⟩;rw[zZq (yjq _ _),zdq (show aaq (.fz (zcq (anq l1 32)) 1 g)=true by simp[aaq]),hb];refine⟨by first|rfl|kernel_rfl,?_⟩)
    refine viq rfl (txq (all:=anq l1 32) (ns:=anq l1 32) (n:=32) (j:=wLq) (k:=ti5) Y Y Y Y Y Y Y (Zp Qo) (qlq _ _) Xg rfl (Yb rfl) (eoq q1 _ (qlq _ _))) Xq ?_;refine zWq 5 Y ?_;refine gA 0 Y (i+1) ?_;refine zbq 2 Y ?_;skip
    exact y6q (i+1,⟨q1.kind,q1.tx,jFq (anq l1 32),q1.height,q1.sub⟩,aVq l1 32,true) ⟨hi2,(again _ (by show(_,_,(b1||decide (l1.length<32)))=_;rw[hb])).symm⟩ Xu (zvq (nw2:=4) Xg Qt ⟨rfl,rfl,rfl,rfl,rfl,trivial⟩ rfl (zoq ⟨⟨by decide,rfl,zaq (yjq _ _)⟩,⟨by decide,rfl,zaq (zLq _)⟩,⟨by decide,rfl,rfl⟩,⟨by decide,rfl,hz⟩,trivial⟩) Jh)
   |false=>
    refine zHq 6 Y ?_;refine gP 0 Y (ypq (i:=i) Y Y Y Y Y Y Y hi2) ?_;refine gM 0 Y (zwq Y Y Y (klq (e:=1) (off:=0) (ziq (axq 1 2) hx) Xg Xg (Y3 _) rfl)) ?_;refine zbq 37 Y ?_
    (refine yeq rfl (xmq (ev:=.updO 0) (ext:=[0]) (ws:=[.ptr 0 0,.int .i64 ((32:Nat):Int)]) Y Y Y Y Y (ZJq l1 b1 32 Xg Xg hl1) Xg Xl Xi (yYq Yy (zaq (yjq _ _))) Y ?_ (.inr ⟨0,rfl,rfl,_,rfl⟩));rintro w hp1 nw1 ⟨⟨g,rfl⟩,rfl,rfl⟩;rw[zZq (yjq _ _),zdq (show aaq (.fz (zcq (anq l1 32)) 1 g)=true by simp[aaq]),hb];refine⟨by first|rfl|kernel_rfl,?_⟩)
    refine viq rfl (txq (all:=anq l1 32) (ns:=anq l1 32) (n:=32) (j:=wLq) (k:=ti5) Y Y Y Y Y Y Y (Zp Qo) (qlq _ _) Xg rfl (Yb rfl) (eoq q1 _ (qlq _ _))) Xq ?_;refine zWq 5 Y ?_;refine gA 0 Y (i+1) ?_;refine zbq 2 Y ?_;skip
    exact y6q (i+1,⟨q1.kind,q1.tx,jFq (anq l1 32),q1.height,q1.sub⟩,aVq l1 32,false) ⟨hi2,(again _ (by show(_,_,(b1||decide (l1.length<32)))=_;rw[hb])).symm⟩ Xu (zvq (nw2:=4) Xg Qt ⟨rfl,rfl,rfl,rfl,rfl,trivial⟩ rfl (zoq ⟨⟨by decide,rfl,zaq (yjq _ _)⟩,⟨by decide,rfl,zaq (zLq _)⟩,⟨by decide,rfl,rfl⟩,⟨by decide,rfl,hz⟩,trivial⟩) Jh)
  |tx=>
   cases hb:(b1||decide (l1.length<120)) with
   |true=>
    refine zHq 6 Y ?_;refine gP 0 Y (ypq (i:=i) Y Y Y Y Y Y Y hi2) ?_;refine gM 0 Y (zwq Y Y Y (klq (e:=1) (off:=0) (ziq (axq 1 2) hx) Xg Xg (Y3 _) rfl)) ?_;refine zbq 52 Y ?_
    (refine zhq rfl (zDq (ext:=[0]) (ws:=[.ptr 0 0,.int .i64 ((120:Nat):Int)]) Y Y Y Y Y (ZJq l1 b1 120 Xg Xg hl1) Xg Xl Xi (yYq Yy (zaq (yjq _ _))) Y ?_);rintro w hp1 nw1 ⟨⟨g,rfl⟩,rfl,rfl⟩;rw[zZq (yjq _ _),zdq (show aaq (.fz (zcq (anq l1 120)) 1 g)=true by simp[aaq]),hb])
    refine zeq 24 Y ?_;refine gA 0 Y (i+1) ?_;refine zbq 2 Y ?_;skip
    exact y6q (i+1,q1,aVq l1 120,true) ⟨hi2,(again _ (Zl hb)).symm⟩ Xu (zvq (nw2:=4) Xg Qt ⟨rfl,rfl,rfl,rfl,rfl,trivial⟩ rfl (zoq ⟨⟨by decide,rfl,zaq (yjq _ _)⟩,⟨by decide,rfl,zaq (zLq _)⟩,⟨by decide,rfl,rfl⟩,⟨by decide,rfl,hz⟩,trivial⟩) Jh)
   |false=>
    refine zHq 6 Y ?_;refine gP 0 Y (ypq (i:=i) Y Y Y Y Y Y Y hi2) ?_;refine gM 0 Y (zwq Y Y Y (klq (e:=1) (off:=0) (ziq (axq 1 2) hx) Xg Xg (Y3 _) rfl)) ?_;refine zbq 52 Y ?_
    (refine zhq rfl (zDq (ext:=[0]) (ws:=[.ptr 0 0,.int .i64 ((120:Nat):Int)]) Y Y Y Y Y (ZJq l1 b1 120 Xg Xg hl1) Xg Xl Xi (yYq Yy (zaq (yjq _ _))) Y ?_);rintro w hp1 nw1 ⟨⟨g,rfl⟩,rfl,rfl⟩;rw[zZq (yjq _ _),zdq (show aaq (.fz (zcq (anq l1 120)) 1 g)=true by simp[aaq]),hb])
    refine zeq 13 Y ?_
    (refine zhq rfl (zDq (ext:=[1,2]) (ws:=[.fz (zcq (anq l1 120)) 1 g,.ptr 1 0]) Y Y Y Y (by show [W.fz (zcq (anq l1 120)) 1 g,W.ptr 2 0]=[adq _ (W.fz (zcq (anq l1 120)) 1 g),_];rw[zdq (show aaq (.fz (zcq (anq l1 120)) 1 g)=true by simp[aaq])];rfl) (moq q1 (anq l1 120) g (qlq _ _)) Xg Xl Xi (QGq Ja rfl (zaq (zLq _)) rfl) (by show(agq 2 (.fz (zcq (anq l1 120)) 1 g)&&_)=true;rw[zaq (show aaq (.fz (zcq (anq l1 120)) 1 g)=true by simp[aaq])];rfl) ?_);rintro w hp1 nw1 ⟨rfl,rfl,rfl⟩;rw[ahq,zdq (zLq _)])
    refine zeq 10 Y ?_;refine gA 0 Y (i+1) ?_;refine zbq 2 Y ?_;skip
    exact y6q (i+1,⟨q1.kind,(aEq (anq l1 120)).1,q1.key,q1.height,q1.sub⟩,aVq l1 120,!decide ((aEq (anq l1 120)).2=0)) ⟨hi2,(again _ (Zg (by rw[hb];decide))).symm⟩ Xu (zvq (nw2:=4) Xg Qt ⟨rfl,rfl,rfl,rfl,rfl,trivial⟩ rfl (zoq ⟨⟨by decide,rfl,zaq (yjq _ _)⟩,⟨by decide,rfl,zaq (zLq _)⟩,⟨by decide,rfl,rfl⟩,⟨by decide,rfl,hz⟩,trivial⟩) Jh)
 .have hi3:i=ps.length:=by omega
  subst hi3;rw[List.take_length] at hst;refine zbq 2 Y ?_;refine qQq Xj ?_;refine zRq 1 Y ?_;exact fin (.inl rfl) (zvq (nw2:=4) (fr2:=[]) (hp2:=psH ps.length (ps.map (axq 1 2)) (q1,l1,b1)) Xg Xg trivial rfl (zoq ⟨⟨by decide,rfl,zaq (yjq _ _)⟩,⟨by decide,rfl,zaq (zLq _)⟩,⟨by decide,rfl,rfl⟩,⟨by decide,rfl,hz⟩,trivial⟩) Jh) rfl ⟨rfl,by rw[hst],rfl⟩
theorem szq(a:Nat->Nat)(c:Nat)(L:List Prt):adq a (paW c L)=paW (a c) L:=by cases L<;>rfl
theorem sAq(d:Nat->Nat)(a b c:Nat)(L:List Prt):ahq d (paH a b c L)=paH (d a) (d b) (d c) L:=by
 cases L with
 |nil=>rfl
 |cons p L=>
  show [(d c,_,W.arr _ 1 (yVq d ((p::L).map (axq a b))))]=_;rw[KGq];rfl
def aq0:Aq:=⟨0,tx0,zeroD,0,0⟩
def aqK(k:Int):Aq:=⟨k,tx0,zeroD,0,0⟩
theorem uNq{b:Nat->Option W}(k:Int):View b (.agg 134 [.int .u8 k,.agg 99 [.arr 32 1 (List.replicate 32 (.int .u8 (.ofNat 0))),.arr 32 1 (List.replicate 32 (.int .u8 (.ofNat 0))),.int .u64 0,.int .u64 0,.int .u64 0,.arr 32 1 (List.replicate 32 (.int .u8 (.ofNat 0)))],.arr 32 1 (List.replicate 32 (.int .u8 (.ofNat 0))),.int .i64 0,.int .i64 0]) (aqW (aqK k)):=.agg (vR (.cons YEq (.cons zYq (vR (.cons (.pur rfl) .nil)))))
def wgq(B:Bool)(s:Aq×List UInt8×Bool):Aq×Int:=if B=true/\s.2.2=false/\s.2.1=[] then(s.1,0) else(aq0,220)
def rdQ:List UInt8->Aq×Int
 |[]=>(aq0,220)
 |k::r=>if k.toNat=1/\r.length=120/\(aEq r).2≠0 then(aq0,(aEq r).2) else wgq (goq (k.toNat:Int)) (aXq (cjq (k.toNat:Int)) (aqK (k.toNat:Int),r,false))
section
variable {G:Nat->Option W}
theorem svq(l:List UInt8)(b:Bool):zUq cfg G 126 1 [.ptr 0 0,.nils] [(0,259,rsW l b)] λw c a=>c=[(0,259,rsW l b)]/\a=1:=by
 intro R;refine gIs 10 Y (λe=>?_);refine gL 0 Y (zbq 4 Y ?_);refine jAq (α:=Unit) (λ_=>True) (λ_=>[(20,.int .i64 0),(19,.int .i64 0)]) (λ_=>[(0,259,rsW l b)]) (λ_=>1) (λ_=>R) (λ_=>0) () trivial (yJq ⟨rfl,rfl,trivial⟩ Y Y) (λp d=>?_);skip
 exact zCq 9 Y (qQq Xj (zRq 1 Y (fin (.inl rfl) (zvq (nw2:=1) (fr2:=[]) (hp2:=[(0,259,rsW l b)]) Xg Xg trivial rfl (zoq ⟨⟨by decide,rfl,zaq (yjq _ _)⟩,trivial⟩) Xi) rfl ⟨rfl,rfl,rfl⟩)))
end
theorem cYq(l:List UInt8)(f:Bool)(P:l.length<=100000):PS cfg glK 69 [.fz (zcq l) 1 f] (.tup [aqW (rdQ l).1,.int .i64 (rdQ l).2]):=by
 have e:(zcq l).length=l.length:=ztq l;cases l with
 |nil=>
  exact gIv 10 Y (λR M=>gZ 0 Y e (gT 0 Y (eqI_iff.2 (rfl)) (zbq 12 Y (y0q Jr rfl (.tup (.cons (uNq 0) (.cons (.pur rfl) .nil)))))))
 |cons k r=>
  have A:((zcq (k::r)).drop 1).take ((zcq (k::r)).length-1)=zcq r:=by rw[Zp Xi];rfl
  have O:r.length<=100000:=Nat.le_of_succ_le P;by_cases j:k.toNat=1/\r.length=120/\(aEq r).2≠0
  .rw[show rdQ (k::r)=(aq0,(aEq r).2) from Zl j];obtain⟨D,C,J⟩:=j;exact gIv 10 Y (λR M=>gZ 0 Y e (gF 0 Y (eqI_not.2 (λq=>Nat.succ_ne_zero _ (Int.ofNat.inj q))) (gP 8 Y (zyq (i:=0) Y Y Y Y Y Y Y Y) (gT 10 Y (eqI_iff.2 (Zc Int.ofNat D)) (gZ 2 Y e (gT 0 Y (eqI_iff.2 (Zc (λn=>Int.ofNat (n+1)) C)) (gP 7 Y (Q1q (ys:=zcq r) (l:=1) (h:=(zcq (k::r)).length) (g:=f) Y Y Y Y Y Y Y (by rw[e];exact Nat.le_add_left _ _) (Zb _) A Qs) (gC 0 Y (YDq r f C) (gT 11 Y (Zc not (eqI_not.2 (J))) (zbq 13 Y (y0q Jr rfl (.tup (.cons (uNq 0) (.cons (.pur rfl) .nil))))))))))))))
  .rw [show rdQ (k::r)=wgq (goq (k.toNat:Int)) (aXq (cjq (k.toNat:Int)) (aqK (k.toNat:Int),r,false)) from Zg j];have N:=rxq (G:=glK) (aqK (k.toNat:Int));obtain⟨L,I⟩:∃L,cjq (k.toNat:Int)=L:=⟨_,rfl⟩
   have K:L.length<=100:=by rw[<-I];unfold cjq;(repeat' split)<;>decide
   rw[show cjq (aqK (k.toNat:Int)).kind=L from I] at N;rw[I];refine gIv 10 Y (λR M=>gZ 0 Y e (gF 0 Y (eqI_not.2 (λq=>Nat.succ_ne_zero _ (Int.ofNat.inj q))) (gP 8 Y (zyq (i:=0) Y Y Y Y Y Y Y Y) (zbq 5 Y ?_))));refine J9q (α:=Unit) (λ_=>True) (λ_=>[(0,.fz (zcq (k::r)) 1 f),(2,.ptr 0 0)]) (λ_=>[(0,94,aqW (aqK (k.toNat:Int)))]) (λ_=>1) ?_ (λa U=>?_)
   .skip
    by_cases D:k.toNat=1
    .by_cases C:r.length=120
     .have J:(aEq r).2=0:=YY λq=>j ⟨D,C,q⟩
      exact zCq 4 Y (gT 0 Y (eqI_iff.2 (Zc Int.ofNat D)) (gZ 2 Y e (gT 0 Y (eqI_iff.2 (Zc (λn=>Int.ofNat (n+1)) C)) (gP 7 Y (Q1q (ys:=zcq r) (l:=1) (h:=(zcq (k::r)).length) (g:=f) Y Y Y Y Y Y Y (by rw[e];exact Nat.le_add_left _ _) (Zb _) A Qs) (gC 0 Y (YDq r f C) (gF 11 Y (Zc not (eqI_iff.2 (J))) (zbq 4 Y (⟨rfl,(),trivial,(jYq (b:=0) rfl (uNq _)).trans (zvq Xg Xg ⟨rfl,rfl,trivial⟩ (koq ⟨zaq (by simp[aaq]),rfl,trivial⟩) (zoq ⟨⟨by decide,rfl,zaq (zLq _)⟩,trivial⟩) Xi)⟩))))))))
     .exact zCq 4 Y (gT 0 Y (eqI_iff.2 (Zc Int.ofNat D)) (gZ 2 Y e (gF 0 Y (eqI_not.2 (λq=>C (Nat.succ.inj (Int.ofNat.inj q)))) (zbq 5 Y (⟨rfl,(),trivial,(jYq (b:=0) rfl (uNq _)).trans (yJq ⟨rfl,rfl,trivial⟩ Y Y)⟩)))))
    .exact zCq 4 Y (gF 0 Y (eqI_not.2 (λq=>D (Int.ofNat.inj q))) (zbq 9 Y (⟨rfl,(),trivial,(jYq (b:=0) rfl (uNq _)).trans (yJq ⟨rfl,rfl,trivial⟩ Y Y)⟩)))
   refine zCq 2 Y ?_
   (refine zhq rfl (zDq (ext:=[0]) (ws:=[.ptr 0 0]) Y Y Y Y Y N Xg Xl Xi (yYq Ja (zaq (zLq _))) Y ?_);rintro w F E ⟨rfl,rfl,rfl⟩;rw[ahq,ahq,sAq,zdq (zLq _),show adq (afq [0] 1) (.tup [paW 2 L,.bool (goq (aqK (k.toNat:Int)).kind)])= .tup [paW 2 L,.bool (goq (k.toNat:Int))] from Zc (λx=>W.tup [x,_]) (szq _ _ _)])
   refine zeq 10 Y (gP 0 Y (Q1q (ys:=zcq r) (l:=1) (h:=(zcq (k::r)).length) (g:=f) Y Y Y Y Y Y Y (by rw[e];exact Nat.le_add_left _ _) (Zb _) A Qs) (gC 0 Y (jOq r f Xd) (zbq 5 Y ?_)));refine J9q (α:=Unit) (λ_=>True) (λ_=>[(7,.bool (goq (k.toNat:Int))),(8,.ptr 3 0),(2,.ptr 0 0)]) (λ_=>[(3,259,rsW (aXq L (aqK (k.toNat:Int),r,false)).2.1 (aXq L (aqK (k.toNat:Int),r,false)).2.2),(0,94,aqW (aXq L (aqK (k.toNat:Int),r,false)).1)]) (λ_=>4) ?_ (λa U=>?_)
   .skip
    cases L with
    |nil=>
     refine zCq 3 Y ?_
     (refine zhq rfl (zDq (ext:=[3]) (ws:=[.ptr 0 0,.nils]) Y Y Y Y Y (svq r false) Xg Xg Xi (yYq Yy (zaq (yjq _ _))) Y ?_);rintro w F E ⟨rfl,rfl⟩;rw[zZq (yjq _ _)])
     exact ibq (⟨rfl,(),trivial,zvq Xg Xg ⟨rfl,rfl,rfl,trivial⟩ rfl (zoq ⟨⟨by decide,rfl,zaq (yjq _ _)⟩,⟨by decide,rfl,zaq (zLq _)⟩,trivial⟩) Xi⟩)
    |cons p L=>
     have Q:asq 4 ((p::L).map (axq 1 2))=true:=KHq Xg Xg _;refine zCq 3 Y ?_
     (refine zhq rfl (zDq (ext:=[3,0,1,2]) (ws:=[.ptr 0 0,.sl 3 0 0 (p::L).length 1 none]) Y Y Y Y Y (suq (p::L) (aqK (k.toNat:Int)) r false Xd K) Xg Xg Jh (jjq ⟨⟨by decide,zaq (yjq _ _),_,rfl,by rw[zdq (yjq _ _)];rfl⟩,⟨by decide,zaq (zLq _),_,rfl,by rw[zdq (zLq _)];rfl⟩,⟨by decide,rfl,_,rfl,rfl⟩,⟨by decide,Q,_,rfl,by show _=some (_,W.arr _ 1 (yVq _ ((p::L).map (axq 1 2))));rw[KGq];rfl⟩,trivial⟩) Y ?_);rintro w F E ⟨rfl,rfl⟩;rw[psH,ahq,ahq,zdq (yjq _ _),zdq (zLq _)])
     exact ibq (⟨rfl,(),trivial,zvq Xg Xg ⟨rfl,rfl,rfl,trivial⟩ rfl (zoq ⟨⟨by decide,rfl,zaq (yjq _ _)⟩,⟨by decide,rfl,zaq (zLq _)⟩,trivial⟩) Xi⟩)
   generalize goq (k.toNat:Int)=B;generalize aXq L (aqK (k.toNat:Int),r,false)=s;obtain⟨V,H,T⟩:=s;skip
   cases B with
   |false=>
    exact zCq 31 Y (y0q Jr rfl (.tup (.cons (uNq 0) (.cons (.pur rfl) .nil))))
   |true=>
    cases T with
    |true=>
     exact zCq 31 Y (y0q Jr rfl (.tup (.cons (uNq 0) (.cons (.pur rfl) .nil))))
    |false=>
     cases H with
     |cons c H=>
      have S:(zcq (c::H)).length=H.length+1:=ztq _;exact zCq 16 Y (gZ 0 Y S (gT 0 Y (ltI_iff.2 (Int.ofNat_lt.2 (Nat.succ_pos _))) (zbq 13 Y (y0q Jr rfl (.tup (.cons (uNq 0) (.cons (.pur rfl) .nil)))))))
     |nil=>
      exact zCq 32 Y (y0q Jr rfl (.tup (.cons (.pur (zLq _)) (.cons (.pur rfl) .nil))))
end
section
attribute [local irreducible] CoW OpW FlW aeq ajq
variable {G:Nat->Option W}
structure OkC(c:Ch):Prop where
 body:∀x∈c.links,BodOk x.ds x.xs
 nodes:c.tree.nodes.length<=4611686018427387903
 len:c.links.length<=4611686018427387903
 recs:∀x∈c.links,x.rs.length<=4611686018427387903
theorem snq(l:List Lk)(i:Nat):∃h r b s,c5q l i= .agg 102 [hdW h,r,b,s]/\(acq [hdW h,r,b,s]=true)/\∀z,0<i->l[i-1]? =some z->h=z.hdr:=by
 cases i with
 |zero=>exact⟨hdZ,_,_,_,rfl,eqq l 0,λz h=>absurd h Xg⟩
 |succ i=>
  cases c:l[i]? with
  |none=>exact⟨hdZ,_,_,_,by show lkA l i=_;unfold lkA;rw[c];rfl,sQq,λz _ h=>by rw[Nat.add_sub_cancel,c] at h;cases h⟩
  |some x=>exact⟨x.hdr,_,_,_,by show lkA l i=_;unfold lkA;rw[c];rfl,itq x,λz _ h=>by rw[Nat.add_sub_cancel,c] at h;cases h;rfl⟩
theorem Y3q(c:Ch)(I:OkC c):PS cfg glK 113 [chG c] (.int .i64 (if MayC c then 0 else 8)):=by
 have e:(c.links.map lkG).length=c.links.length:=Ze _;have hl:=I.len;refine gI 11 Y (λR k0=>?_);refine gZ 0 Y e ?_;refine gD 0 Y (λh1=>?_) (λh1=>?_)
 .have hno:¬MayC c:=λq=>by have:=q.one;omega
  exact gQ 31 Y Xz
 obtain⟨z,N⟩:∃z,c.links[c.links.length-1]? =some z:=⟨_,Za Xd⟩
 refine gZ 3 Y e ?_;refine gD 0 Y (λh2=>?_) (λh2=>?_)
 .have hno:¬MayC c:=λq=>by have:=q.len;omega
  exact gQ 26 Y Xz
 refine gZ 9 Y e ?_;refine gA 0 Y (c.links.length-1) ?_;refine gP 0 Y (zyq (i:=c.links.length-1) Y Y Y Y Y Y Y (ziq lkG N)) ?_;refine gU 2 Y ?_;refine gS 3 Y (λh3=>?_) (λh3=>?_)
 .have hno:¬MayC c:=λq=>h3 (q.root z N)
  exact gQ 7 Y Xz
 refine gC 13 Y (tHq _ _) ?_;refine zbq 3 Y ?_;refine lrq (mgq c.links) (List.range c.links.length) (λi (a:Nat)=>a=i/\∀j x,j<i->c.links[j]? =some x->LkM c j x) (λa=>[(2,3,.int .i64 (a:Int)),(1,59,.int .i64 0),(0,38,chG c)]) (λ_=>R) (0) rfl Xm (oFq c.links false I.len) (tmq c.links) (⟨rfl,λj x h=>by omega⟩) Y Y (λi a y S p=>?_) (λa p=>?_)
 .obtain⟨rfl,p⟩:=p;have Z:a<c.links.length:=by have:=yGq S;simpa using this
  obtain rfl:a=y:=by rw[eiq Z] at S;exact ZA S
  obtain⟨x,m⟩:∃x,c.links[a]? =some x:=⟨_,Za Z⟩
  obtain⟨P,X,V,U,hp,K,H⟩:=snq c.links a;have K:aaq (.agg 102 [hdW P,X,V,U])=true:=K;rw[show mgq c.links a=[lkG x,.agg 102 [hdW P,X,V,U]] by unfold mgq;rw[pKq m,hp]];have F:=I.body x (Zj m);have er:(x.rs.map rcW).length=x.rs.length:=Ze _;refine zCq 10 Y ?_;refine Yxq ?_;refine zCq 15 Y ?_;refine gD 0 Y (λT=>?_) (λT=>?_)
  .have hno:¬MayC c:=λq=>T (q.link a x m).height
   refine zbq 50 Y ?_;refine jIq Xj ?_;refine zRq 2 Y ?_;exact gQ 0 Y Xz
  refine gC 2 Y (xYq x.hdr) ?_;refine gD 0 Y (λM=>?_) (λM=>?_)
  .have hno:¬MayC c:=λq=>M (by rw[Zl (q.link a x m).hdr])
   refine zbq 46 Y ?_;refine jIq Xj ?_;refine zRq 2 Y ?_;exact gQ 0 Y Xz
  have J:okH x.hdr:=YY λq=>M (by rw[Zg q];decide)
  refine gD 3 Y (λh6=>?_) (λh6=>?_)
  .refine gC 4 Y (fWq x.hdr P) ?_;refine gB 0 Y (λD=>?_) (λD=>?_)
   .have Q:0<a->∀w,c.links[a-1]? =some w->B5q x.hdr w.hdr:=λC w k=>H w C k▸D
    refine gZ 6 Y er ?_;refine gD 2 Y (λE=>?_) (λE=>?_)
    .have hno:¬MayC c:=λq=>E (q.link a x m).recs
     refine zbq 27 Y ?_;refine jIq Xj ?_;refine zRq 2 Y ?_;exact gQ 0 Y Xz
    refine gC 4 Y (lzq x.ds x.xs false false F.tx F.dl F.xl) ?_;refine gB 0 Y (λB=>?_) (λB=>?_)
    .refine gC 7 Y (rAq c.tree x.root) ?_;refine gC 0 Y (kuq (ghq c x.root) I.nodes) ?_;refine gU 0 Y ?_;refine gS 3 Y (λA=>?_) (λA=>?_)
     .have hno:¬MayC c:=λq=>A (by rw[Zl (q.link a x m).tree])
      refine zbq 8 Y ?_;refine jIq Xj ?_;refine zRq 2 Y ?_;exact gQ 0 Y Xz
     .have O:l5q (ghq c x.root):=YY λq=>A (by rw[Zg q];decide)
      have u:LkM c a x:=⟨by omega,J,λw C k=>Q C w k,by omega,B,O⟩;refine gWr 4 Y ?_;refine zbq 3 Y ?_;exact ejq (a+1) (⟨rfl,λj w L k=>by rcases ZC.1 L with q|rfl;exact p j w q k;exact ZA (m.symm.trans k)▸u⟩) Xd Xk Xt rfl
    .have hno:¬MayC c:=λq=>B (q.link a x m).body
     refine zbq 22 Y ?_;refine jIq Xj ?_;refine zRq 2 Y ?_;exact gQ 0 Y Xz
   .have hno:¬MayC c:=λq=>by
     obtain⟨w,k⟩:∃w,c.links[a-1]? =some w:=⟨_,Za Xd⟩
     exact D (H w Xd k▸(q.link a x m).fol w Xd k)
    refine zbq 37 Y ?_;refine jIq Xj ?_;refine zRq 2 Y ?_;exact gQ 0 Y Xz
  .have Q:0<a->∀w,c.links[a-1]? =some w->B5q x.hdr w.hdr:=λC=>absurd C Xd
   refine gZ 11 Y er ?_;refine gD 2 Y (λD=>?_) (λD=>?_)
   .have hno:¬MayC c:=λq=>D (q.link a x m).recs
    refine zbq 27 Y ?_;refine jIq Xj ?_;refine zRq 2 Y ?_;exact gQ 0 Y Xz
   refine gC 4 Y (lzq x.ds x.xs false false F.tx F.dl F.xl) ?_;refine gB 0 Y (λE=>?_) (λE=>?_)
   .refine gC 7 Y (rAq c.tree x.root) ?_;refine gC 0 Y (kuq (ghq c x.root) I.nodes) ?_;refine gU 0 Y ?_;refine gS 3 Y (λB=>?_) (λB=>?_)
    .have hno:¬MayC c:=λq=>B (by rw[Zl (q.link a x m).tree])
     refine zbq 8 Y ?_;refine jIq Xj ?_;refine zRq 2 Y ?_;exact gQ 0 Y Xz
    .have O:l5q (ghq c x.root):=YY λq=>B (by rw[Zg q];decide)
     have u:LkM c a x:=⟨by omega,J,λw C k=>Q C w k,by omega,E,O⟩;refine gWr 4 Y ?_;refine zbq 3 Y ?_;exact ejq (a+1) (⟨rfl,λj w L k=>by rcases ZC.1 L with q|rfl;exact p j w q k;exact ZA (m.symm.trans k)▸u⟩) Xd Xk Xt rfl
   .have hno:¬MayC c:=λq=>E (q.link a x m).body
    refine zbq 22 Y ?_;refine jIq Xj ?_;refine zRq 2 Y ?_;exact gQ 0 Y Xz
 .obtain⟨rfl,p⟩:=p;have yes:MayC c:=⟨by omega,by omega,λw k=>by cases N.symm.trans k;omega,λj w k=>p j w (by have:=yGq k;simpa using this) k⟩;refine zRq 8 Y ?_;exact gQ 0 Y Yp
structure SmallC(c:Ch):Prop where
 nodes:c.tree.nodes.length<=1000000
 vals:∀x∈c.tree.nodes,x.val.length<=70368744177664
 len:c.links.length<=1000000
 link:∀x∈c.links,x.ds.length<=1000000/\x.xs.length<=1000000/\x.rs.length<=1000000
def B4q(c:Ch)(n:Nat):Prop:=rsq c.tree 900\/n<c.links.length\/∃x∈c.links,rrq x.ds x.xs\/40<x.rs.length
instance(c:Ch)(n:Nat):Decidable (B4q c n):=Classical.propDecidable _
theorem tDq(x:Lk)(h:x.ds.length<=1000000/\x.xs.length<=1000000/\x.rs.length<=1000000):PS cfg G 187 [lkG x] (lkG x):=by
 obtain⟨c,a,b⟩:=h;exact gI 11 Y (λR d=>gC 0 Y (BFq x.ds false Xd) (gC 3 Y (oDq x.xs false Xd) (gC 9 Y (Dzq x.rs false Xd) (gQa 11 Y))))
theorem Bwq(l:List Lk)(f:Bool)(s:l.length<=1000000)(q:∀x∈l,x.ds.length<=1000000/\x.xs.length<=1000000/\x.rs.length<=1000000):PL cfg G 186 [.fz (l.map lkG) 102 f,.fn 187 [] []] 142 102 (l.map lkG):=by
 have e:(l.map lkG).length=l.length:=Ze _;intro R;refine gIs 14 Y (λy=>?_);refine gZ 0 Y e (zbq 4 Y ?_);refine ZAq (α:=Nat) (λi=>i<=l.length) 5 (λi=>(l.take i).map lkG) 142 102 (λi=>[(10,.int .i64 (i:Int))]) [(1,_),(4,_),(8,_),(9,_)] _ (λi=>l.length-i) (0) ⟨rfl,rfl,rfl,rfl,trivial⟩ (Zf _) ⟨rfl,trivial⟩ Y Y Y (λi r=>?_);refine zCq 6 Y ?_;refine gS 0 Y (λo=>?_) (λo=>?_)
 .have b:i<l.length:=by omega
  obtain⟨x,c⟩:∃x,l[i]? =some x:=⟨_,Za b⟩
  have d:(l.take (i+1)).map lkG=(l.take i).map lkG++[lkG x]:=by rw[YA,c,Z4];rfl
  have u:((l.take i).map lkG).length=i:=by simp;omega
  have w:acq ((l.take i).map lkG++[lkG x])=true:=by rw[<-d];exact ZZq _
  have j:acq ((l.take i).map lkG)=true:=ZZq _;exact gP 6 Y (zyq (i:=i) Y Y Y Y Y Y Y (ziq lkG c)) (gC 9 Y (tDq x (q x (Zj c))) (gM 1 Y (yLq Y Y (Yuq [_,_] (k:=wNq) (news:=[lkG x]) Y Y Y Y Y (j3q Y Y Y Y) Xi (by show(((l.take i).map lkG).length+1)*192<=_;omega) (by show((l.take i).map lkG).length+1<=_;omega) rfl Xi)) (gWr 5 Y (zbq 2 Y (k3q 3 (i+1) (b) Xd (Zf _) (d) Xw Xd Yr rfl Ya ⟨rfl,trivial⟩ ⟨rfl,rfl,rfl,rfl,trivial⟩ Xh Xh rfl Xm Xk Xt)))))
 .have b:i=l.length:=by omega
  subst b;rw[List.take_length];exact zbq 2 Y (qQq Xj (zRq 9 Y (fin Jr (yJq (fr2:=[(4,gW 0 102 (l.map lkG))]) ⟨rfl,trivial⟩ Y Y) rfl ⟨rfl,rfl,rfl,rfl⟩)))
theorem SmallC.vl{c:Ch}(h:SmallC c):c.tree.nodes.length<=1000000000:=by have:=h.nodes;omega
def D6q(b:Nat)(c:Ch):W:=.agg 3 [tW c.tree,.sl b 0 0 c.links.length 102 none]
def ownH(e d b:Nat)(c:Ch):HpW:=[(b,142,.arr (c.links.length*102) 102 (c.links.map lkG)),(d,38,D6q b c),(e,38,chG c)]
theorem twq(c:Ch)(b:SmallC c)(d:c.links≠[]):zUq cfg G 121 0 [chG c] [] λw i f=>w=D6q 2 c/\i=ownH 0 1 2 c/\f=3:=by
 have a:c.links.map lkG≠[]:=by simpa using d
 have e:(c.links.map lkG).length=c.links.length:=Ze _;intro R;refine gIs 10 Y (λj=>?_);refine gC 0 Y (cCq c.tree b.vl b.vals) (zbq 2 Y ?_)
 (refine yeq rfl (g1q Y Y Y Y Y Qz (Bwq c.links false b.len b.link) (ZZq _) ?_);refine⟨by first|rfl|kernel_rfl,?_⟩;rw[QJq a,QKq a,e])
 exact zWq 5 Y (fin Jr Ent.refl rfl ⟨rfl,rfl,rfl,rfl⟩)
theorem tvq(c:Ch)(e:SmallC c)(b:c.links≠[]):PS cfg G 121 [chG c] (chG c):=λR=>
 ukq (yRq (twq c e b) (Q:=λw d _=>View (amq d) w (chG c)) (λw d f h=>by
  obtain⟨rfl,rfl,rfl⟩:=h;exact .agg (.cons (.pur (gWq _)) (.cons (.sl (full:=false) rfl (ZZq _) (zqq Xg (by rw[Ze]) rfl) Xj) .nil))) R)
theorem tEq(c:Ch)(a:OkC c)(h:MayC c){y:Lk}(b:c.links[c.links.length-1]? =some y):PS cfg glK 149 [chG c] (.tup [hdW y.hdr,.int .i64 0]):=by
 have e:(c.links.map lkG).length=c.links.length:=Ze _;have f:=h.one;have d:=a.len;exact gI 11 Y (λR j=>gC 0 Y (zrq (w':=.int .i64 0) (Y3q c a) (by rw[Zl h])) (gFa 6 Y (gZ 11 Y e (gA 0 Y (c.links.length-1) (gP 0 Y (zyq (i:=c.links.length-1) Y Y Y Y Y Y Y (ziq lkG b)) (gQa 7 Y))))))
theorem ozq(c:Ch)(d:OkC c)(a:SmallC c)(i:Nat)(hm:MayC c){x:Lk}(b:c.links[i]? =some x):PS cfg glK 206 [chG c,.int .i64 (i:Int)] (.tup [tW (ghq c x.root),.int .i64 0]):=by
 have e:(c.links.map lkG).length=c.links.length:=Ze _;have f:=yGq b;refine gI 12 Y (λR j=>gC 0 Y (zrq (w':=.int .i64 0) (Y3q c d) Yc) (gFa 0 Y (gF 7 Y (ltI_not.2 Xd) (gZ 4 Y e (gF 0 Y (Zc not (ltI_iff.2 Xd)) (gP 15 Y (zyq (i:=i) Y Y Y Y Y Y Y (ziq lkG b)) (gC 2 Y (rAq c.tree x.root) ?_)))))));first|refine gC 0 Y (cCq (ghq c x.root) a.vl a.vals) ?_|refine gC 0 Y (cCq c.tree a.vl a.vals) ?_
 exact gQa 5 Y
def sGq:W:=.agg 3 [.agg 2 [.nils,.int .i64 0],.nils]
end
section
attribute [local irreducible] CoW OpW FlW aeq ajq
def ggq(v:Vw):Prop:=MayC v.ch/\(0<=v.final/\v.final<(v.ch.links.length:Int)/\0<=v.number/\v.number<=1073741823)
instance(v:Vw):Decidable (ggq v):=Classical.propDecidable _
theorem kZq(v:Vw)(b:OkC v.ch):PS cfg glK 59 [vwG v] (.int .i64 (if ggq v then 0 else 8)):=by
 have e:(v.ch.links.map lkG).length=v.ch.links.length:=Ze _;by_cases hm:MayC v.ch
 .skip
  refine gI 11 Y (λR u=>gC 0 Y (zrq (w':=.int .i64 0) (Y3q v.ch b) Yc) (gFa 0 Y ?_));refine gD 3 Y (λj=>?_) (λj=>?_)
  .exact gQ 30 Y Xr
  .refine gZ 7 Y e ?_;refine gD 0 Y (λm=>?_) (λm=>?_)
   .exact gQ 21 Y Xr
   .refine gD 4 Y (λo=>?_) (λo=>?_)
    .exact gQ 16 Y Xr
    .refine gU 4 Y ?_;refine gS 3 Y (λd=>?_) (λd=>?_)
     .exact gQ 7 Y Xr
     .exact gQ 8 Y Xr
 .skip
  exact gI 11 Y (λR u=>gC 0 Y (zrq (w':=.int .i64 8) (Y3q v.ch b) (by rw[Zg hm])) (gTa 0 Y (gQ 34 Y (by rw[Zg λq=>hm q.1]))))
theorem ryq(v:Vw)(b:SmallC v.ch)(a:v.ch.links≠[]):PS cfg glK 63 [vwG v] (vwG v):=by
 exact gI 10 Y (λR c=>gC 0 Y (tvq v.ch b a) (gQa 11 Y))
def wdq:W:=.agg 6 [.int .i64 0,.bool false,.int .i64 0,sGq]
def rjq:Nat->List Lk->List (Nat×RcI)
 |_,[]=>[]
 |h,x::l=>x.rs.map (λr=>(h,r))++rjq (h+1) l
theorem tWq{l:List Lk}{i:Nat}{x:Lk}(h:l[i]? =some x):rjq i (l.drop i)=x.rs.map (λr=>(i,r))++rjq (i+1) (l.drop (i+1)):=by
 rw[vJq h];rfl
def tlq(p:Nat×RcI):List W:=[.int .i64 (p.1:Int),rcW p.2]
theorem tkq(l:List (Nat×RcI)):∀y∈l,acq (tlq y)=true/\(tlq y).length=2:=λy _=>⟨by simp[tlq,acq,aaq],rfl⟩
def wfq(k:Dig)(p:Nat×RcI):Bool:=decide (p.2.id=k)
def pZq(c:Ch)(k:Dig):Option (Nat×RcI):=(rjq 0 c.links).find? (wfq k)
theorem rzq(v:Vw):PS cfg glK 205 [vwG v] (.fn 239 [] [.fel (vwG v)]):=by
 have b:=kbq v;refine gI 13 Y (λR d=>?_);refine ySq (fr2:=[(2,_)]) Xo ?_ Y Y
 (repeat (first|exact trivial|refine And.symm ⟨?_,_,rfl,?_⟩))<;>(repeat (first|exact .nil|refine .cons ?_ ?_|refine .fn ?_ ?_|(refine y5q Y ?_ rfl;(first|rfl|(focus (simp;done))))|(refine .sl Y ?_ rfl Xj;(first|rfl|(focus (simp;done))))|(refine .pur ?_;(first|rfl|(focus (simp;done))))|refine .agg ?_|refine .arr ?_|refine .tup ?_))
theorem mqq(v:Vw)(C:OkC v.ch):quq cfg glK 239 [.fel (vwG v)] ((rjq 0 v.ch.links).map tlq):=by
 have e:(v.ch.links.map lkG).length=v.ch.links.length:=Ze _;have K:=C.len;refine xdq (fn:=Tryz.f239) Y Y Y (Yb rfl) (λL E R d M=>?_);refine Zyq 3 (zCq 8 Y (gZ 0 Y e (zbq 4 Y ?_)));refine Zzq (α:=Nat×Res) (λp=>p.1<=v.ch.links.length/\Yl cfg glK L E ((rjq p.1 (v.ch.links.drop p.1)).map tlq) p.2) (λp=>[(11,.int .i64 (p.1:Int))]) [(0,_),(9,_),(10,_)] (λp=>p.2) (λp=>v.ch.links.length-p.1) ((0,R)) ⟨rfl,rfl,rfl,trivial⟩ (⟨Zf _,d⟩) ⟨rfl,trivial⟩ rfl (λp w=>?_);obtain⟨i,R⟩:=p;obtain⟨H,d⟩:=w;simp only at H d⊢;refine zCq 6 Y ?_;refine gS 0 Y (λG=>?_) (λG=>?_)
 .have k:i<v.ch.links.length:=by omega
  obtain⟨x,y⟩:∃x,v.ch.links[i]? =some x:=⟨_,Za k⟩
  have J:(x.rs.map rcW).length=x.rs.length:=Ze _;have F:=C.recs x (Zj y);rw[tWq y] at d;refine gP 7 Y (zyq (i:=i) Y Y Y Y Y Y Y (ziq lkG y)) (gZ 10 Y J (zbq 4 Y ?_));refine Zzq (α:=Nat×Res) (λq=>q.1<=x.rs.length/\Yl cfg glK L E (((x.rs.drop q.1).map (λr=>(i,r))++rjq (i+1) (v.ch.links.drop (i+1))).map tlq) q.2) (λq=>[(19,.int .i64 (q.1:Int))]) [(0,_),(3,_),(4,_),(9,_),(10,_),(11,_),(12,_),(13,_),(14,_),(15,_),(16,_),(17,_),(18,_)] (λq=>q.2) (λq=>x.rs.length-q.1) ((0,R)) ⟨rfl,rfl,rfl,rfl,rfl,rfl,rfl,rfl,rfl,rfl,rfl,rfl,rfl,trivial⟩ (⟨Zf _,d⟩) ⟨rfl,trivial⟩ rfl (λq w=>?_);obtain⟨j,R⟩:=q;obtain⟨D,d⟩:=w;simp only at D d⊢;refine zCq 6 Y ?_;refine gS 0 Y (λI=>?_) (λI=>?_)
  .have u:j<x.rs.length:=by omega
   obtain⟨r,A⟩:∃r,x.rs[j]? =some r:=⟨_,Za u⟩
   rw[vJq A,ZD,YW,ZD] at d;refine gP 6 Y (zyq (i:=j) Y Y Y Y Y Y Y (ziq rcW A)) ?_;refine gSo 10 Y (qWq Y Y Y (d) (λb R1 B=>?_));refine gS 3 Y (λz=>?_) (λz=>?_)
   .cases b with
    |true=>cases z
    |false=>
     exact zHq 3 Y (gO 0 Y (gO 3 Y (zbq 1 Y (jsq Ye (j7q (.inl rfl) rfl B)))))
   .cases b with
    |false=>exact absurd rfl z
    |true=>
     exact zHq 4 Y (gA 0 Y (j+1) (gAg 2 Y ((j+1,R1)) (⟨u,B⟩) Xu))
  .obtain rfl:j=x.rs.length:=by omega
   rw[List.drop_length] at d;refine gO 2 Y (gA 4 Y (i+1) (zbq 2 Y ?_));skip
   exact gAg 0 Y ((i+1,R)) (⟨k,d⟩) Xu
 .refine gO 2 Y (zbq 1 Y (jsq Ye ?_));obtain rfl:i=v.ch.links.length:=by omega
  rw[List.drop_length] at d;exact j7q (.inl rfl) rfl d
def recA:Option (Nat×RcI) ->W
 |some p=>.tup [.int .i64 (p.1:Int),rcW p.2,.int .i64 0]
 |none=>.tup [.int .i64 0,rcW ⟨0,zeroD,0⟩,.int .i64 6]
theorem wCq(v:Vw)(z:OkC v.ch)(hm:ggq v)(k:Dig):PS cfg glK 138 [vwG v,dW k] (recA (pZq v.ch k)):=by
 obtain⟨j,m⟩:∃j,rjq 0 v.ch.links=j:=⟨_,rfl⟩
 have A:=mqq v z;unfold pZq;rw[m] at A⊢;refine gIv 13 Y (λR D=>gC 0 Y (zrq (w':=.int .i64 0) (kZq v z) Yc) (gFa 6 Y (gC 9 Y (rzq v) (zbq 3 Y ?_))));refine uIq (tlq) (j) (λi (_:Unit)=>j.find? (wfq k)=(j.drop i).find? (wfq k)) (λ_=>R) (()) rfl Xm (A) (tkq j) (rfl) rfl (λi a y B b=>?_) (λa b=>?_)
 .rw[vJq B,List.find?_cons] at b;obtain⟨q,r⟩:=y;refine zCq 9 Y (Yxq (zCq 6 Y (gUe 0 Y (yEq Y Y Y Y (yUq Y Y Y Y Y Y _ _ 250)) yKq ?_)));refine gS 2 Y (λC=>?_) (λC=>?_)
  .have x:wfq k (q,r)=true:=Zq Yi;rw[x] at b;have b:j.find? (wfq k)=some (q,r):=b;rw[b];exact zbq 11 Y (YNq Xj (zRq 2 Y (y0q Jr rfl (.pur Yz))))
  .have x:wfq k (q,r)=false:=Zw Yi;rw[x] at b;exact zbq 2 Y (v3q (()) (b) Xd Xx rfl)
 .rw[List.drop_length] at b;rw[b];exact zRq 11 Y (y0q Jr rfl (.tup (vR (.cons (.agg (vR (.cons zYq (.cons (.pur rfl) .nil)))) (.cons (.pur rfl) .nil)))))
def T.road:T->Nat->Dig->List T
 |.fork l r,d,k=>if bitN k d=0 then r::l.road (d+1) k else l::r.road (d+1) k
 |_,_,_=>[]
def T.tail:T->Nat->Dig->T
 |.fork l r,d,k=>if bitN k d=0 then l.tail (d+1) k else r.tail (d+1) k
 |t,_,_=>t
structure Side(t0:T)(ns:List Node)(k:Dig)(c d:Nat)(b:Dig)(s:T):Prop where
 rep:Rep ns c s
 zr:Zr (d+1) b
 ok:s.ok (d+1) b=true
 short:vlq s
 road:(t0.road 0 k)[d]? =some s
 few:s.all.length<=1000000
structure OnR(t0:T)(ns:List Node)(k:Dig)(n d:Nat)(b:Dig)(t:T):Prop where
 rep:Rep ns n t
 zr:Zr d b
 ok:t.ok d b=true
 le:d<=256
 road:(t0.road 0 k).drop d=t.road d k
 tail:t0.tail 0 k=t.tail d k
 short:vlq t
 few:t.all.length<=1000000
theorem OnR.go{g:T}{j:List Node}{k:Dig}{n d:Nat}{b:Dig}{L R:T}(h:OnR g j k n d b (.fork L R)):∃(i:Nat) (E:Dig) (v:List UInt8) (l r:Nat),n=i+1/\j[i]? =some ⟨false,E,v,l,r⟩/\d<256/\
  ((bitN k d=0/\OnR g j k l (d+1) b L/\Side g j k r d (joq b d) R)\/(bitN k d=1/\OnR g j k r (d+1) (joq b d) R/\Side g j k l d b L)):=by
 obtain⟨F,y,N,M,c,a,H,B⟩:=h;simp only[T.all,Zh] at B;obtain⟨u,t,okR,_⟩:=ok_fork.1 N;have J:vlq L:=λp z=>H p (by simp[T.all,z])
 have K:vlq R:=λp z=>H p (by simp[T.all,z])
 have x:∀{s:T} {q:List T},(g.road 0 k).drop d=s::q->(g.road 0 k)[d]? =some s/\(g.road 0 k).drop (d+1)=q:=λ{s q} e=>by
  constructor
  .rw[<-List.head?_drop,e];rfl
  .rw[<-List.tail_drop,e];rfl
 cases F with
 |fork O P Q G I=>
  rename_i i l r E v;refine⟨i,E,v,l,r,rfl,O,u,?_⟩;by_cases D:bitN k d=0
  .simp only[T.road,T.tail,Zl D] at c a;obtain⟨A,C⟩:=x c;exact .inl ⟨D,⟨G,jcq y,t,u,C,a,J,by omega⟩,⟨I,jbq y u,okR,K,A,by omega⟩⟩
  .simp only[T.road,T.tail,Zg D] at c a;obtain⟨A,C⟩:=x c;have:=jgq k d;exact .inr ⟨by omega,⟨I,jbq y u,okR,u,C,a,K,by omega⟩,⟨G,jcq y,t,J,A,by omega⟩⟩
theorem OnR.done{a:T}{i:List Node}{k:Dig}{n d:Nat}{b:Dig}{t:T}(h:OnR a i k n d b t)(f:t.isFork=false):a.tail 0 k=t/\(a.road 0 k).length<=d:=by
 have e:=h.road;have c:=h.tail;cases t with
 |nil=>exact⟨c,by rw[<-List.drop_eq_nil_iff];exact e⟩
 |leaf=>exact⟨c,by rw[<-List.drop_eq_nil_iff];exact e⟩
 |fork=>cases f
theorem OnR.start{t:Tree}{n:Nat}{a:T}(h:IsT t n a)(b:vlq a)(k:Dig):OnR a t.nodes k n 0 zeroD a:=⟨h.rep,vmq,h.ok,by omega,rfl,rfl,b,by have:=h.all_le;have:=h.len;omega⟩
def sdW(t:T):W:=dW (baq t)
@[simp] theorem j4q(l:List T):acq (l.map sdW)=true:=yvq (λt=>qeq _) l
theorem JEq{b s:T}{k:Dig}{d:Nat}(h:(b.road 0 k)[d]? =some s):((b.road 0 k).take (d+1)).map sdW=((b.road 0 k).take d).map sdW++[sdW s]:=by
 rw[YA,h,Z4];rfl
def tjq:T->W
 |.leaf x v=>nW ⟨true,x,v,0,0⟩
 |_=>nW ⟨false,zeroD,[],0,0⟩
theorem nwq{b:List Node}(h:okN b){i:Nat}{k:Dig}{v:List UInt8}{l r:Int}(c:b[i]? =some ⟨true,k,v,l,r⟩):l=0/\r=0:=by
 have a:=h i _ c;simp only[aKq,if_true] at a;exact⟨a.1,a.2.1⟩
theorem Ktq{d:List Node}(h:okN d):∀{n:Nat} {t:T},Rep d n t->vlq t
 |_,_,.nil=>λp b=>by simp[T.all] at b
 |_,_,.leaf hx=>λp b=>by
  simp only[T.all,ZB,ZW,or_false] at b;subst b;exact Nat.lt_of_le_of_lt (vxq h hx).2 Xg
 |_,_,.fork _ _ _ hL hR=>λp b=>by
  simp only[T.all,ZO] at b;rcases b with b|b
  .exact Ktq h hL p b
  .exact Ktq h hR p b
theorem rJq(t:Tree)(n:Nat)(q:T)(h:IsT t n q)(k:Dig):PS cfg glK 240 [tW t,dW k] (.tup [tjq (q.tail 0 k),.fz ((q.road 0 k).map sdW) 32 false,.int .i64 0]):=by
 have N:=h.len;have P:=Ktq h.okn h.rep;have C:=h.root;obtain⟨ns,J⟩:=t;simp only at N C;subst C;refine gIv 13 Y (λR S=>?_);refine gC 0 Y (zrq (w':=.int .i64 0) (kmq ⟨ns,((n:Nat):Int)⟩ Qc) (by rw[Zl h.may])) ?_;refine gFa 6 Y ?_;refine zbq 19 Y ?_;refine ZAq (α:=Nat×Nat×Dig×T) (λp=>OnR q ns k p.1 p.2.1 p.2.2.1 p.2.2.2) 5 (λp=>((q.road 0 k).take p.2.1).map sdW) 23 32 (λp=>[(8,.int .i64 (p.1:Int)),(9,.int .i64 (p.2.1:Int))]) [(2,_),(3,_),(4,_),(6,_)] _ (λp=>257-p.2.1) ((n,0,zeroD,q)) ⟨rfl,rfl,rfl,rfl,trivial⟩ (OnR.start h P k) ⟨rfl,rfl,trivial⟩ Y Y Y (λp A=>?_);obtain⟨i,d,b,u⟩:=p;have A:OnR q ns k i d b u:=A;have O:=A.le;cases u with
 |fork L R=>
  skip
  obtain⟨i,U,v,l,r,rfl,y,M,⟨G,I,w⟩|⟨G,I,w⟩⟩:=A.go
  .have K:=(Zk.1 y).1;have D:=JEq w.road;have B:=j4q ((q.road 0 k).take (d+1));have H:=j4q ((q.road 0 k).take d);have Q:(((q.road 0 k).take d).map sdW).length<=256:=by rw[Ze,Zu];omega
   rw[D] at B;refine zCq 4 Y ?_;refine gT 0 Y (ltI_iff.2 Xd) ?_;refine gA 4 Y (i) ?_;refine gP 0 Y (zyq (i:=i) Y Y Y Y Y Y Y (ziq nW y)) ?_;refine gTa 2 Y ?_;refine gA 13 Y (i) ?_;refine gP 0 Y (zyq (i:=i) Y Y Y Y Y Y Y (ziq nW y)) ?_;refine gC 1 Y (kGq _) ?_;refine gC 2 Y (yIq k d 0 M G) ?_;refine gV 10 Y (show _= .int .u8 1 by first|rfl|(simp;done)) ?_;refine gX 0 Y ?_;refine gC 1 Y (gIq ⟨ns,((n:Nat):Int)⟩ Qc R r w.rep w.short) ?_;refine zbq 1 Y ?_;refine viq rfl (yLq Y Y (Yuq [_,_,_,_,_] (k:=CHq) (news:=[sdW R]) Y Y Y Y Y (j3q Y Y Y Y) Xi (by show((((q.road 0 k).take d).map sdW).length+1)*32<=_;omega) (by show(((q.road 0 k).take d).map sdW).length+1<=_;omega) rfl Xi)) (Bjq Xq Xq) ?_;refine zWq 5 Y ?_;refine gX 0 Y ?_;refine gA 7 Y (d+1) ?_;refine zbq 2 Y ?_;exact k3q 6 ((l,d+1,b,L)) (I) Xu (Zf _) (D) Xw Xd Yr rfl Ya ⟨rfl,rfl,trivial⟩ ⟨rfl,rfl,rfl,rfl,trivial⟩ Xh Xh rfl Xm Xk Xt
  .skip
   have K:=(Zk.1 y).1;have D:=JEq w.road;have B:=j4q ((q.road 0 k).take (d+1));have H:=j4q ((q.road 0 k).take d);have Q:(((q.road 0 k).take d).map sdW).length<=256:=by rw[Ze,Zu];omega
   rw[D] at B;refine zCq 4 Y ?_;refine gT 0 Y (ltI_iff.2 Xd) ?_;refine gA 4 Y (i) ?_;refine gP 0 Y (zyq (i:=i) Y Y Y Y Y Y Y (ziq nW y)) ?_;refine gTa 2 Y ?_;refine gA 13 Y (i) ?_;refine gP 0 Y (zyq (i:=i) Y Y Y Y Y Y Y (ziq nW y)) ?_;refine gC 1 Y (kGq _) ?_;refine gC 2 Y (yIq k d 1 M G) ?_;refine gV 10 Y (show _= .int .u8 0 by first|rfl|(simp;done)) ?_;refine gX 0 Y ?_;refine gC 1 Y (gIq ⟨ns,((n:Nat):Int)⟩ Qc L l w.rep w.short) ?_;refine zbq 1 Y ?_;refine viq rfl (yLq Y Y (Yuq [_,_,_,_,_] (k:=CHq) (news:=[sdW L]) Y Y Y Y Y (j3q Y Y Y Y) Xi (by show((((q.road 0 k).take d).map sdW).length+1)*32<=_;omega) (by show(((q.road 0 k).take d).map sdW).length+1<=_;omega) rfl Xi)) (Bjq Xq Xq) ?_;refine zWq 5 Y ?_;refine gX 0 Y ?_;refine gA 7 Y (d+1) ?_;refine zbq 2 Y ?_;exact k3q 6 ((r,d+1,joq b d,R)) (I) Xu (Zf _) (D) Xw Xd Yr rfl Ya ⟨rfl,rfl,trivial⟩ ⟨rfl,rfl,rfl,rfl,trivial⟩ Xh Xh rfl Xm Xk Xt
 |nil=>
  obtain⟨E,F⟩:=A.done rfl;have C:=A.rep;obtain rfl:i=0:=by cases C;rfl
  have B:=j4q (q.road 0 k);rw[Zp (by exact F)];refine zCq 4 Y ?_;refine gF 0 Y (ltI_not.2 Xd) ?_;refine zbq 15 Y ?_;refine qQq Xj ?_;refine zRq 6 Y ?_;refine gF 0 Y (ltI_not.2 Xd) ?_;refine zbq 15 Y ?_;exact y0q Jr rfl (.tup (.cons (by rw[E];exact .agg (vR (.cons zYq (.cons .nilfz (vR (.cons (.pur rfl) .nil)))))) (.cons (a5q (H0:=[_,_,_]) (b:=3) (e:=32) (ty:=23) Xg B Xi) (.cons (.pur rfl) .nil))))
 |leaf x v=>
  obtain⟨E,F⟩:=A.done rfl;have C:=A.rep;obtain⟨i,l,r,rfl,y⟩:∃(j:Nat) (l r:Int),i=j+1/\ns[j]? =some ⟨true,x,v,l,r⟩:=by cases C with|leaf h=>exact⟨_,_,_,rfl,h⟩
  have K:=(Zk.1 y).1;obtain⟨rfl,rfl⟩:=nwq h.okn y;have V:=vxq h.okn y;have B:=j4q (q.road 0 k);rw[Zp (by exact F)];refine zCq 4 Y ?_;refine gT 0 Y (ltI_iff.2 Xd) ?_;refine gA 4 Y (i) ?_;refine gP 0 Y (zyq (i:=i) Y Y Y Y Y Y Y (ziq nW y)) ?_;refine gFa 2 Y ?_;refine zbq 6 Y ?_;refine qQq Xj ?_;refine zRq 6 Y ?_;refine gT 0 Y (ltI_iff.2 Xd) ?_;refine gA 8 Y (i) ?_;refine gP 0 Y (zyq (i:=i) Y Y Y Y Y Y Y (ziq nW y)) ?_;refine gC 7 Y (jOq v false Xd) ?_;refine zbq 14 Y ?_;exact y0q Jr rfl (.tup (.cons (by rw[E];exact .pur (by simp[tjq])) (.cons (a5q (H0:=[_,_,_]) (b:=3) (e:=32) (ty:=23) Xg B Xi) (.cons (.pur rfl) .nil))))
def prG(k:Dig)(e:Int)(o:Dig)(v s:W):W:=.agg 67 [dW k,.int .u8 e,dW o,v,s]
def prT(k:Dig)(s:W):T->W
 |.leaf x v=>if x=k then prG k 1 zeroD (bW v) s else prG k 2 x (bW v) s
 |_=>prG k 0 zeroD .nils s
theorem spq(k:Dig)(s:W)(v:List UInt8):prT k s (.leaf k v)=prG k 1 zeroD (bW v) s:=Zl rfl
theorem hVq{x k:Dig}(s:W)(v:List UInt8)(h:¬x=k):prT k s (.leaf x v)=prG k 2 x (bW v) s:=Zg h
theorem soq(k:Dig)(s:W):W.agg 67 [dW k,.int .u8 0,.arr 32 1 (List.replicate 32 (.int .u8 (.ofNat 0))),.nils,s]=prG k 0 zeroD .nils s:=by
 unfold prG;rw[vKq]
theorem Aiq(t:T)(j:t.isFork=false)(k:Dig)(s:W):zUq cfg glK 241 1 [.ptr 0 0,tjq t] [(0,435,prG k 0 zeroD .nils s)] λw q m=>w= .tup []/\q=[(1,202,tjq t),(0,435,prT k s t)]/\m=2:=by
 intro R;cases t with
 |fork=>cases j
 |nil=>
  refine gIs 11 Y (λh=>?_);exact gTa 0 Y (zbq 7 Y (fin Jr Ent.refl rfl ⟨rfl,rfl,rfl,rfl⟩))
 |leaf x v=>
  by_cases d:x=k
  .subst d;refine gIs 11 Y (λh=>?_);refine gFa 0 Y (gUe 13 Y (yEq Y Y Y Y (yUq Y Y Y Y Y Y _ _ 250)) yKq ?_);refine gS 3 Y (λg=>?_) (λg=>?_)
   .exact zbq 18 Y (fin (.inl rfl) Ent.refl rfl ⟨rfl,rfl,by rw[spq];rfl,rfl⟩)
   .exfalso;exact(by assumption:¬x=x) rfl
  .skip
   refine gIs 11 Y (λh=>?_);refine gFa 0 Y (gUe 13 Y (yEq Y Y Y Y (yUq Y Y Y Y Y Y _ _ 250)) yKq ?_);refine gS 3 Y (λg=>?_) (λg=>?_)
   .exfalso;exact d Yi
   .exact zbq 25 Y (fin (.inl rfl) Ent.refl rfl ⟨rfl,rfl,by rw[hVq s v d];rfl,rfl⟩)
def hoq(b:T)(k:Dig):W:=.fz ((b.road 0 k).map sdW) 32 false
@[simp] theorem Kvq(a:T)(k:Dig):aaq (hoq a k)=true:=j4q _
@[simp] theorem oqq(t:T):aaq (tjq t)=true:=by cases t<;>simp[tjq]
theorem hUq(k:Dig){s:W}(a:aaq s=true)(t:T):aaq (prT k s t)=true:=by
 unfold prT prG;split
 .split<;>simp[aaq,acq,a]
 .simp[aaq,acq,a]
theorem f2q(t:T):∃a b c d e,tjq t= .agg 36 [a,b,c,d,e]:=by cases t<;>exact⟨_,_,_,_,_,rfl⟩
theorem hTq(k:Dig)(s:W)(t:T):∃a b c d e,prT k s t= .agg 67 [a,b,c,d,e]:=by
 unfold prT;split
 .split<;>exact⟨_,_,_,_,_,rfl⟩
 .exact⟨_,_,_,_,_,rfl⟩
def vfq(b:T)(k:Dig):W:=match b.tail 0 k with
 |.leaf x v=>if x=k then prG k 1 zeroD (bW v) (hoq b k) else prG k 2 x (bW v) (hoq b k)
 |_=>prG k 0 zeroD (bW []) (hoq b k)
theorem YGq:∀(t:T) (d:Nat) (k:Dig),(t.tail d k).isFork=false
 |.nil,_,_=>rfl
 |.leaf _ _,_,_=>rfl
 |.fork l r,d,k=>by
  unfold T.tail;split
  .exact YGq l _ k
  .exact YGq r _ k
theorem fGq{blk:Nat->Option W}(b:T)(k:Dig):View blk (prT k (hoq b k) (b.tail 0 k)) (vfq b k):=by
 unfold vfq;split
 .rename_i x v e;rw[e];have:=hUq k (Kvq b k) (.leaf x v);exact .pur this
 .rename_i h;have e:=YGq b 0 k;cases d:b.tail 0 k with
  |leaf x v=>exact absurd d (h x v)
  |fork=>rw[d] at e;cases e
  |nil=>exact .agg (.cons (.pur Xi) (vR (.cons (.pur Xi) (.cons .nilfz (.cons (.pur (Kvq b k)) .nil)))))
theorem srq(t:Tree)(n:Nat)(d:T)(h:IsT t n d)(k:Dig):PS cfg glK 207 [tW t,dW k] (.tup [vfq d k,.int .i64 0]):=by
 have D:=Kvq d k;have e:=oqq (d.tail 0 k);have j:aaq (prG k 0 zeroD .nils (hoq d k))=true:=by unfold prG;simp[aaq,acq]
 have f:=hUq k D (d.tail 0 k);have F:=λq=>fGq (blk:=q) d k
 have B:=Aiq (d.tail 0 k) (YGq d 0 k) k (hoq d k);have E:=rJq t n d h k;have C:acq ((d.road 0 k).map sdW)=true:=j4q _;obtain⟨z,A,y,v,x,I⟩:=f2q (d.tail 0 k);obtain⟨L,K,J,M,N,hb⟩:=hTq k (hoq d k) (d.tail 0 k);rw[I] at e B E;rw[hb] at f B F;refine gIv 12 Y (λR O=>?_);refine Apq E ?_ (hw:=by show(aaq (.agg 36 [z,A,y,v,x])&&(acq ((d.road 0 k).map sdW)&&true))=true;rw[e,C];rfl);refine zeq 14 Y (gFa 0 Y (gV (w':=prG k 0 zeroD .nils (hoq d k)) 9 Y (soq k _) (zbq 9 Y ?_)));skip
 refine gSo 0 Y (zDq (ext:=[4]) (ws:=[.ptr 0 0,.agg 36 [z,A,y,v,x]]) Y Y Y Y (by show [W.ptr 4 0,_]=[W.ptr 4 0,adq _ (.agg 36 [z,A,y,v,x])];rw[zdq e]) B Xg Xl Xi (yYq (by rw[zdq j];rfl) (zaq j)) (by show(true&&(agq 1 (.agg 36 [z,A,y,v,x])&&true))=true;rw[zaq e];rfl) ?_);rintro w H G ⟨rfl,rfl,rfl⟩;simp only[ahq,zdq e,zdq f];skip
 exact zbq 13 Y (y0q Jr rfl (.tup (.cons (F _) (.cons (.pur rfl) .nil))))
theorem c4q(f:T)(k:Dig):∃a b c d e,vfq f k= .agg 67 [a,b,c,d,e]:=by
 unfold vfq;split
 .split<;>exact⟨_,_,_,_,_,rfl⟩
 .exact⟨_,_,_,_,_,rfl⟩
@[simp] theorem fHq(a:T)(k:Dig):aaq (vfq a k)=true:=by
 unfold vfq prG;split
 .split<;>simp[aaq,acq]
 .simp[aaq,acq]
def prZ:W:=prG zeroD 0 zeroD (bW []) (.fz [] 32 false)
theorem YTq{b:Nat->Option W}:View b (.agg 67 [.arr 32 1 (List.replicate 32 (.int .u8 (.ofNat 0))),.int .u8 0,.arr 32 1 (List.replicate 32 (.int .u8 (.ofNat 0))),.nils,.nils]) prZ:=.agg (.cons zYq (vR (.cons zYq (.cons .nilfz (.cons .nilfz .nil)))))
def DOq(v:Vw)(a h:Int):Prop:=0<=h/\h<(v.ch.links.length:Int)/\(v.ch.links.length:Int) -1-h<a
instance(v:Vw)(a h:Int):Decidable (DOq v a h):=Classical.propDecidable _
theorem cxq(v:Vw)(f:OkC v.ch)(hm:ggq v)(d h:Int)(k:Dig)(w:¬DOq v d h):PS cfg glK 139 [vwG v,.int .i64 d,.int .i64 h,dW k] (.tup [dW zeroD,prZ,.int .i64 180]):=by
 have e:(v.ch.links.map lkG).length=v.ch.links.length:=Ze _;have A:=f.len;have z:=hm.1.one;by_cases j:h<0
 .skip
  exact gIv 13 Y (λR m=>gC 0 Y (zrq (w':=.int .i64 0) (kZq v f) Yc) (gFa 6 Y (gZ 10 Y e (gA 0 Y (v.ch.links.length-1) (gT 7 Y (ltI_iff.2 (j)) (zbq 26 Y (y0q Jr rfl (.tup (.cons zYq (.cons YTq (.cons (.pur rfl) .nil)))))))))))
 .by_cases x:(v.ch.links.length:Int)<=h
  .skip
   exact gIv 13 Y (λR m=>gC 0 Y (zrq (w':=.int .i64 0) (kZq v f) Yc) (gFa 6 Y (gZ 10 Y e (gA 0 Y (v.ch.links.length-1) (gF 7 Y (ltI_not.2 (j)) (gT 3 Y (ltI_iff.2 Xd) (zbq 22 Y (y0q Jr rfl (.tup (.cons zYq (.cons YTq (.cons (.pur rfl) .nil))))))))))))
  .have B:¬((v.ch.links.length:Int) -1-h<d):=λq=>w ⟨by omega,by omega,q⟩
   obtain⟨i,rfl⟩:=Int.eq_ofNat_of_zero_le (show 0<=h by omega);exact gIv 13 Y (λR m=>gC 0 Y (zrq (w':=.int .i64 0) (kZq v f) Yc) (gFa 6 Y (gZ 10 Y e (gA 0 Y (v.ch.links.length-1) (gF 7 Y (ltI_not.2 (j)) (gF 3 Y (ltI_not.2 Xd) (gA 4 Y (v.ch.links.length-1-i) (gT 1 Y (Zc not (ltI_not.2 Xd)) (zbq 15 Y (y0q Jr rfl (.tup (.cons zYq (.cons YTq (.cons (.pur rfl) .nil))))))))))))))
theorem mrq(v:Vw)(w:OkC v.ch)(D:SmallC v.ch)(hm:ggq v)(m:Int)(i:Nat)(k:Dig)(B:DOq v m (i:Int)){x:Lk}(z:v.ch.links[i]? =some x)(n:Nat)(q:T)(C:IsT (ghq v.ch x.root) n q):PS cfg glK 139 [vwG v,.int .i64 m,.int .i64 (i:Int),dW k] (.tup [dW x.hdr.state,vfq q k,.int .i64 0]):=by
 have e:(v.ch.links.map lkG).length=v.ch.links.length:=Ze _;have F:=w.len;have H:=hm.1.one;obtain⟨E,I,J⟩:=B;have j:=fHq q k;have A:=srq (ghq v.ch x.root) n q C k;obtain⟨a,b,c,d,f,y⟩:=c4q q k;rw[y] at j A;rw[y];refine gIv 13 Y (λR G=>gC 0 Y (zrq (w':=.int .i64 0) (kZq v w) Yc) (gFa 6 Y (gZ 10 Y e (gA 0 Y (v.ch.links.length-1) (gF 7 Y (ltI_not.2 Xd) (gF 3 Y (ltI_not.2 Xd) (gA 4 Y (v.ch.links.length-1-i) (gF 1 Y (Zc not (ltI_iff.2 Xd)) (gC 11 Y (ozq v.ch w D i hm.1 z) (zbq 12 Y ?_))))))))));refine Apq A ?_ (hw:=by show(aaq (.agg 67 [a,b,c,d,f])&&true)=true;rw[j];rfl);exact zeq 13 Y (gP 0 Y (zyq (i:=i) Y Y Y Y Y Y Y (ziq lkG z)) (zbq 11 Y (y0q Jr rfl (.tup (.cons (.pur Xi) (.cons (.pur j) (.cons (.pur rfl) .nil)))))))
theorem msq(v:Vw)(c:OkC v.ch)(hm:ggq v){y:Lk}(b:v.ch.links[v.ch.links.length-1]? =some y):PS cfg glK 140 [vwG v] (.tup [.int .i64 y.hdr.height,dW (iQq y.hdr),.int .i64 0]):=by
 obtain⟨e,a,_,d⟩:=hm.1.last;obtain rfl:=ZA (b.symm.trans a);exact gI 12 Y (λR f=>gC 0 Y (zrq (w':=.int .i64 0) (kZq v c) Yc) (gFa 6 Y (gC 9 Y (tEq v.ch c hm.1 b) (gC 11 Y (dlq y.hdr d.hdr) (gQa 19 Y)))))
theorem r9q:∀(t:T) (d:Nat) (k:Dig) (b:Dig),t.ok d b=true->(t.road d k).length<=256
 |.nil,_,_,_,_=>Zf _
 |.leaf _ _,_,_,_,_=>Zf _
 |.fork l r,d,k,b,h=>by
  have j:∀(t:T) (d:Nat) (b:Dig),t.ok d b=true->d<=256->(t.road d k).length+d<=256:=by
   intro t;induction t with
   |nil=>intro d b _ c;simpa[T.road] using c
   |leaf=>intro d b _ c;simpa[T.road] using c
   |fork l r p m=>
    intro d b h c;obtain⟨c,q,s,_⟩:=ok_fork.1 h;unfold T.road;split
    .have:=p (d+1) _ q c;simp only[Zo];omega
    .have:=m (d+1) _ s c;simp only[Zo];omega
  obtain⟨c,_⟩:=ok_fork.1 h;have:=j (.fork l r) d b h Xd;omega
structure PrV where
 (k:Dig) (e:Int) (o:Dig) (l:List UInt8) (ds:List Dig)
 hl:ds.length<=1000000
def PrV.w(p:PrV):W:=prG p.k p.e p.o (bW p.l) (.fz (p.ds.map dW) 32 false)
@[simp] theorem PrV.pur(p:PrV):aaq p.w=true:=by simp[PrV.w,prG,aaq,acq]
def prZV:PrV:=⟨zeroD,0,zeroD,[],[],Zf _⟩
theorem wDq(v:Vw)(c:OkC v.ch)(hm:ggq v)(k:Dig){y:Lk}(d:v.ch.links[v.ch.links.length-1]? =some y){n:Nat}{a:T}(b:IsA v.ch.tree n a):PS cfg glK 137 [vwG v,dW k] (.tup [aW (yBq a k),.int .i64 0]):=by
 exact gI 12 Y (λR e=>gC 0 Y (zrq (w':=.int .i64 0) (kZq v c) Yc) (gFa 6 Y (gC 11 Y (rmq v.ch.tree n a b k) (gQa 7 Y))))
structure Rp where
 (kind:Int) (code:Int) (height:Int) (dig:Dig) (acct:Acct) (rc:RcI) (pr:PrV)
def z32:W:=.arr 32 1 (List.replicate 32 (.int .u8 (.ofNat 0)))
def zIt:W:=.agg 101 [.bool false,.agg 100 [.int .i64 0,.bool false,.agg 98 [.int .i64 0,z32,z32,z32,.int .i64 0]]]
def rpW(x:Rp):W:=.agg 240 [.int .u8 x.kind,.int .i64 x.code,.int .i64 x.height,dW x.dig,aW x.acct,rcW x.rc,x.pr.w,.int .i64 0,zIt]
def rcZ:RcI:=⟨0,zeroD,0⟩
theorem xOq{b:Nat->Option W}:View b (.agg 34 [.int .u8 0,.arr 32 1 (List.replicate 32 (.int .u8 (.ofNat 0))),.int .i64 0]) (rcW rcZ):=.agg (vR (.cons zYq (.cons (.pur rfl) .nil)))
theorem kIq{b:Nat->Option W}:View b (.agg 67 [.arr 32 1 (List.replicate 32 (.int .u8 (.ofNat 0))),.int .u8 0,.arr 32 1 (List.replicate 32 (.int .u8 (.ofNat 0))),.nils,.nils]) prZV.w:=YTq
theorem Qjq(x:Rp):aaq (rpW x)=true:=by
 have h:aaq zIt=true:=by decide+kernel
 show(true&&(true&&(true&&(aaq (dW x.dig)&&(aaq (aW x.acct)&&(aaq (rcW x.rc)&&(aaq x.pr.w&&(true&&(aaq zIt&&true)))))))))=true;rw[qeq,PrV.pur,h];simp
attribute [local simp] Qjq
theorem zjq(r:Ru)(v:Vw)(q:Aq)(b:q.kind=2)(a:Acct)(e:Int)(p:PS cfg glK 137 [vwG v,dW q.key] (.tup [aW a,.int .i64 e])):PS cfg glK 76 [ruG r,vwG v,aqW q] (rpW ⟨q.kind,e,0,zeroD,a,rcZ,prZV⟩):=by
 refine gIv 26 Y (λR d=>gT 0 Y (eqI_iff.2 (b)) (gC 8 Y (p) (zbq 17 Y (y0q Xo Y ?_))))
 (repeat (first|exact .nil|refine .cons ?_ ?_|exact zYq|exact kIq|exact xOq|(refine .pur ?_;first|rfl|(focus (simp;done)))|refine .agg ?_))
theorem x0q(r:Ru)(v:Vw)(q:Aq)(b:q.kind=3)(i:Int)(c:RcI)(e:Int)(p:PS cfg glK 138 [vwG v,dW q.key] (.tup [.int .i64 i,rcW c,.int .i64 e])):PS cfg glK 76 [ruG r,vwG v,aqW q] (rpW ⟨q.kind,e,i,zeroD,⟨0,0⟩,c,prZV⟩):=by
 refine gIv 26 Y (λR d=>gF 0 Y (eqI_not.2 Xd) (gT 6 Y (eqI_iff.2 (b)) (gC 8 Y (p) (zbq 20 Y (y0q Xo Y ?_)))))
 (repeat (first|exact .nil|refine .cons ?_ ?_|exact zYq|exact kIq|exact xOq|(refine .pur ?_;first|rfl|(focus (simp;done)))|refine .agg ?_))
theorem pvq(r:Ru)(v:Vw)(q:Aq)(f:q.kind=4)(d:Dig)(s:PrV)(e:Int)(p:PS cfg glK 139 [vwG v,.int .i64 r.window,.int .i64 q.height,dW q.key] (.tup [dW d,s.w,.int .i64 e])):PS cfg glK 76 [ruG r,vwG v,aqW q] (rpW ⟨q.kind,e,if e=0 then q.height else 0,d,⟨0,0⟩,rcZ,s⟩):=by
 by_cases b:e=0
 .rw[Zl b];refine gIv 26 Y (λR h=>gF 0 Y (eqI_not.2 Xd) (gF 6 Y (eqI_not.2 Xd) (gT 6 Y (eqI_iff.2 (f)) (gC 13 Y (p) (gT 16 Y (eqI_iff.2 (b)) (zbq 18 Y (y0q Xo Y ?_)))))))
  (repeat (first|exact .nil|refine .cons ?_ ?_|exact zYq|exact kIq|exact xOq|(refine .pur ?_;first|rfl|(focus (simp;done)))|refine .agg ?_))
 .rw[Zg b];refine gIv 26 Y (λR h=>gF 0 Y (eqI_not.2 Xd) (gF 6 Y (eqI_not.2 Xd) (gT 6 Y (eqI_iff.2 (f)) (gC 13 Y (p) (gF 16 Y (eqI_not.2 (b)) (zbq 13 Y (y0q Xo Y ?_)))))))
  (repeat (first|exact .nil|refine .cons ?_ ?_|exact zYq|exact kIq|exact xOq|(refine .pur ?_;first|rfl|(focus (simp;done)))|refine .agg ?_))
theorem sdq(r:Ru)(v:Vw)(q:Aq)(b:q.kind=5)(x:Int)(c:Dig)(e:Int)(p:PS cfg glK 140 [vwG v] (.tup [.int .i64 x,dW c,.int .i64 e])):PS cfg glK 76 [ruG r,vwG v,aqW q] (rpW ⟨q.kind,e,x,c,⟨0,0⟩,rcZ,prZV⟩):=by
 refine gIv 26 Y (λR d=>gF 0 Y (eqI_not.2 Xd) (gF 6 Y (eqI_not.2 Xd) (gF 6 Y (eqI_not.2 Xd) (gT 6 Y (eqI_iff.2 (b)) (gC 6 Y (p) (zbq 20 Y (y0q Xo Y ?_)))))))
 (repeat (first|exact .nil|refine .cons ?_ ?_|exact zYq|exact kIq|exact xOq|(refine .pur ?_;first|rfl|(focus (simp;done)))|refine .agg ?_))
theorem CQq(r:Ru)(v:Vw)(q:Aq)(b:q.kind≠2/\q.kind≠3/\q.kind≠4/\q.kind≠5):PS cfg glK 76 [ruG r,vwG v,aqW q] (rpW ⟨q.kind,8,0,zeroD,⟨0,0⟩,rcZ,prZV⟩):=by
 refine gIv 26 Y (λR d=>gF 0 Y (eqI_not.2 Xd) (gF 6 Y (eqI_not.2 Xd) (gF 6 Y (eqI_not.2 Xd) (gF 6 Y (eqI_not.2 Xd) (zbq 17 Y (y0q Xo Y ?_))))))
 (repeat (first|exact .nil|refine .cons ?_ ?_|exact zYq|exact kIq|exact xOq|(refine .pur ?_;first|rfl|(focus (simp;done)))|refine .agg ?_))
end
def p8q(l:Ln):Ln:=⟨l.who,l.txs.take (l.txs.length-1)⟩
def Boq(s:Shd)(k:Dig):Shd:=s.take (fndK s k)++s.drop (fndK s k+1)
def enq(s:Shd)(l:Ln):Shd:=if l.txs=[] then Boq s l.who else hmq s l
theorem del_sub{c:Type}{l:List c}{k:Nat}:(l.take k++l.drop (k+1)).Sublist l:=by
 have h:(l.take k++l.drop (k+1)).Sublist (l.take k++l.drop k):=(List.Sublist.refl _).append (by rw[<-YB];exact List.drop_sublist ..);rwa[ZK] at h
section
variable {n i m:Nat} {s:Shd} {l:Ln} {k:Dig}
theorem Q2q(h:GoodL n i m l):GoodL n i m (p8q l):=⟨λx a=>h.own x (ZJ a),h.srt.sublist (List.take_sublist _ _),by have:=h.len;show(l.txs.take _).length<=_;rw[Zu];omega,h.at_⟩
theorem lbq(h:GoodS n i m s):GoodS n i m (Boq s k):=⟨λl a=>h.line l (del_sub.mem a),h.keys.sublist del_sub,Zt del_sub.length_le h.len⟩
theorem uqq(h:GoodS n i m s)(b:GoodL n i m l):GoodS n i (m+1) (enq s l):=by
 unfold enq;split
 .exact(lbq h).up
 .rename_i q;exact hlq h b.up q
end
structure HbP(h:Hb):Prop where
 nx:0<=h.next/\h.next<1073741824
 len:h.subs.length<=16
 each:∀s∈h.subs,(-1<s.id/\s.id<h.next)/\(0<=s.beg/\s.beg<1073741824)/\TpM s.tap
 ord:h.subs.Pairwise λa b=>a.id<b.id
theorem HbM.p{h:Hb}(q:HbM h):HbP h:=by
 obtain⟨⟨k,w⟩,c⟩:=q
 have l:∀(i:Nat) s,h.subs[i]? =some s->-1<s.id:=λi=>by
  induction i with
  |zero=>exact λs d=>(c 0 s d).1.1.1
  |succ i r=>
   intro s d;obtain⟨p,j⟩:∃p,h.subs[i]? =some p:=⟨_,Za (by have:=yGq d;omega)⟩
   have g:=(c (i+1) s d).1.1.1;rw[KWq j] at g;have:=r p j;omega
 refine⟨k,w,λs d=>?_,zIq (R:=λa b:Sb=>a.id<b.id) (λg x=>Int.lt_trans g x) λi a b y m=>?_⟩
 .obtain⟨i,u,e⟩:=List.mem_iff_getElem.1 d;have f:h.subs[i]? =some s:=by rw[Za u,e]
  exact⟨⟨l i s f,(c i s f).1.1.2⟩,(c i s f).1.2,(c i s f).2⟩
 .have:=(c (i+1) b m).1.1.1;rwa[KWq y] at this
theorem HbP.m{h:Hb}(q:HbP h):HbM h:=by
 refine⟨⟨q.nx,q.len⟩,λi s a=>?_⟩;obtain⟨b,e,d⟩:=q.each s (Zj a);refine⟨⟨⟨?_,b.2⟩,e⟩,d⟩;cases i with
 |zero=>exact b.1
 |succ i=>
  obtain⟨p,c⟩:∃p,h.subs[i]? =some p:=⟨_,Za (by have:=yGq a;omega)⟩
  rw[KWq c];exact c0q q.ord (YG i) c a
def iDq(h:Hb)(a:Int):Hb:=⟨h.next+1,h.subs++[⟨h.next,a,⟨[],false⟩⟩]⟩
theorem cHq(b:Bool):TpM ⟨[],b⟩:=⟨Zf _,λi a=>by simp at a⟩
theorem iBq{h:Hb}{d:Int}(q:HbM h)(k:0<=d/\d<1073741824)(A:0<=h.next+1/\h.next+1<1073741824)(y:h.subs.length<16):HbM (iDq h d):=by
 have p:=q.p;refine HbP.m ⟨A,?_,λs j=>?_,?_⟩
 .show(h.subs++[_]).length<=16;rw[Zh];exact y
 .rcases ZO.1 j with j|j
  .obtain⟨v,x,u⟩:=p.each s j;exact⟨⟨v.1,by show s.id<h.next+1;omega⟩,x,u⟩
  .obtain rfl:=YH.1 j;have:=p.nx.1;exact⟨⟨by show-1<h.next;omega,by show h.next<h.next+1;omega⟩,k,cHq _⟩
 .refine List.pairwise_append.2 ⟨p.ord,List.pairwise_singleton ..,λa z b k=>?_⟩;obtain rfl:=YH.1 k;exact(p.each a z).1.2
def bQq(h:Hb)(i:Nat):Hb:=⟨h.next,h.subs.take i++h.subs.drop (i+1)⟩
theorem fNq{h:Hb}{i:Nat}(q:HbM h):HbM (bQq h i):=by
 have p:=q.p;exact HbP.m ⟨p.nx,Zt del_sub.length_le p.len,λs a=>p.each s (del_sub.mem a),p.ord.sublist del_sub⟩
def hYq(h:Hb)(i:Nat)(s:Sb)(t:Tp):Hb:=⟨h.next,h.subs.set i ⟨s.id,s.beg,t⟩⟩
theorem hXq{h:Hb}{i:Nat}{s:Sb}{t:Tp}(q:HbM h)(j:h.subs[i]? =some s)(y:TpM t):HbM (hYq h i s t):=by
 have p:=q.p;refine HbP.m ⟨p.nx,by show(h.subs.set i _).length<=16;rw[YI];exact p.len,λz d=>?_,?_⟩
 .rcases dcq d with rfl|d
  .obtain⟨k,u,_⟩:=p.each s (Zj j);exact⟨k,u,y⟩
  .exact p.each z d
 .have e:(h.subs.set i ⟨s.id,s.beg,t⟩).map Sb.id=h.subs.map Sb.id:=by
   rw[List.map_set];exact jrq (by rw[Z1,j];rfl)
  have f:(h.subs.map Sb.id).Pairwise (· < ·):=List.pairwise_map.2 p.ord;rw[<-e] at f;exact List.pairwise_map.1 f
theorem gVq{x:Itm}{l:List Itm}{b:Bool}(q:TpM ⟨x::l,b⟩):TpM ⟨l,b⟩:=by
 obtain⟨f,j⟩:=q;refine⟨by have:(x::l).length<=64:=f;simp only[Zo] at this;show l.length<=64;omega,λi d=>?_⟩;have d:i<l.length:=d;have h:=j (i+1) (by show i+1<(x::l).length;simp only[Zo];omega);cases i with
 |zero=>
  have h:ItM x (Z1q (x::l) 2):=h;have h:ItM x (Z1q l 1):=h;show ItM itZ (Z1q l 1);by_cases g:(Z1q l 1).gap=true
  .exact(iHq g).2 ⟨((iHq g).1 h).1,λe=>by have:=Zc Itm.gap e;cases this⟩
  .exact(nZq g).2 ((nZq g).1 h)
 |succ i=>exact h
def Dhq(a:Au)(h:Hb):Au:=⟨a.ru,a.vw,a.pool,a.drawn,a.back,a.wait,a.count,a.tells,h⟩
section
variable {V:Prop} {a:Au} {i m:Nat} {s:Shd} {h:Hb}
theorem wXq{b:Type}{l:List b}{i j:Nat}{x y:b}(h:(l.set i x)[j]? =some y):(j=i/\y=x)\/l[j]? =some y:=by
 rw[List.getElem?_set] at h;split at h
 .rename_i e;split at h
  .exact .inl ⟨e.symm,(ZA h).symm⟩
  .cases h
 .exact .inr h
end
def wTq:Int ⊕(Shd×W) ->W
 |.inl e=>.tup [.agg 1 [.nils],.nils,.int .i64 e]
 |.inr p=>.tup [shdW p.1,p.2,.int .i64 0]
def o4q(n i m:Nat):Int ⊕(Shd×W) ->Prop
 |.inl e=>e≠0
 |.inr p=>GoodS n i (m+2) p.1/\aaq p.2=true
theorem CZq{C:Cfg}{G:Nat->Option W}{f:FuncId}{b:List W}{z:W}(h:PE C G f b (λw=>w=z)):PS C G f b z:=λR j X i l s m=>by
 obtain⟨n,v,Γ',X',e,a,R',c,o,p,g,d,_,k⟩:=h R j X i l s m;exact⟨n,v,Γ',X',e,a,R',c,o,p,g,d,k⟩
section
attribute [local irreducible] CoW OpW FlW aeq ajq
variable {G:Nat->Option W}
def cntS(s:Shd):Nat:=(s.map λl=>l.txs.length).sum
theorem rXq(s:Shd)(y:s.length<=1000)(q:∀l∈s,l.txs.length<=1000):PS cfg G 202 [shdW s] (.int .i64 (cntS s:Int)):=by
 have e:(s.map lnW).length=s.length:=Ze _;refine gI 11 Y (λR w=>gZ 0 Y e ?_);refine gLo (α:=Nat×Nat) 4 (λp=>p.1<=s.length/\p.2<=p.1*1000/\p.2=cntS (s.take p.1)) (λp=>[(8,.int .i64 (p.1:Int)),(2,.int .i64 (p.2:Int))]) [6,7] (λp=>s.length-p.1) ((0,0)) rfl (⟨Zf _,Zf _,rfl⟩) (λp j=>?_);obtain⟨i,n⟩:=p;obtain⟨k,r,b⟩:=j;simp only at k r b;refine gS 6 Y (λu=>?_) (λu=>?_)
 .have f:i<s.length:=by omega
  obtain⟨l,d⟩:∃l,s[i]? =some l:=⟨_,Za f⟩
  have m:=q l (Zj d);have o:(l.txs.map txW).length=l.txs.length:=Ze _;exact gP 6 Y (zyq (i:=i) Y Y Y Y Y Y Y (ziq lnW d)) (gZ 9 Y o (gA 0 Y (n+l.txs.length) (gA 5 Y (i+1) (gAg 2 Y ((i+1,n+l.txs.length)) (⟨f,by show n+l.txs.length<=(i+1)*1000;omega,by show n+l.txs.length=cntS (s.take (i+1));rw[YA,d,b];simp[cntS]⟩) (by show s.length-(i+1)<s.length-i;omega)))))
 .exact gO 2 Y (gQ 9 Y (by rw[b,Zp Xd]))
theorem uwq(s:Shd)(i:Nat)(l:Ln)(b:s[i]? =some l)(y:Tx)(a:l.txs[l.txs.length-1]? =some y)(k:l.txs.length<=1000000000):PS cfg G 236 [.int .i64 (i:Int),.fel (.fel (shdW s))] (.int .u64 (y.fee:Int)):=by
 have c:(l.txs.map txW).length=l.txs.length:=Ze _;have d:=yGq a;exact gI 13 Y (λR j=>gP 0 Y (zyq (i:=i) Y Y Y Y Y Y Y (ziq lnW b)) (gP 8 Y (zyq (i:=i) Y Y Y Y Y Y Y (ziq lnW b)) (gZ 2 Y c (gA 0 Y (l.txs.length-1) (gP 0 Y (zyq (i:=l.txs.length-1) Y Y Y Y Y Y Y (ziq txW a)) (gQa 6 Y))))))
def dfq(l:Ln):Nat:=(l.txs[l.txs.length-1]?).elim 0 (·.fee)
def aFq(s:Shd)(x:Tx):Nat->Int
 |0=>-1
 |i+1=>match s[i]? with
  |none=>aFq s x i
  |some l=>if l.who=akq x.pub\/¬dfq l<x.fee then aFq s x i else if aFq s x i<0 then(i:Int) else match s[(aFq s x i).toNat]? with
   |none=>aFq s x i
   |some m=>if dfq l<dfq m then(i:Int) else aFq s x i
theorem guq(s:Shd)(x:Tx):∀i,i<=s.length->aFq s x i=-1\/∃j:Nat,j<s.length/\aFq s x i=(j:Int)
 |0,_=>.inl rfl
 |i+1,h=>by
  have b:=guq s x i Xd;have a:∃j:Nat,j<s.length/\(i:Int)=(j:Int):=⟨i,by omega,rfl⟩
  simp only[aFq];repeat' split
  all_goals first|exact b|exact .inr a
theorem rtq(s:Shd)(x:Tx)(hn:s.length<=1000000000)(O:∀l∈s,l.txs≠[]/\l.txs.length<=1000000000):PS cfg glK 203 [.fel (shdW s),txW x] (.int .i64 (aFq s x s.length)):=by
 have e:(s.map lnW).length=s.length:=Ze _;have L:=uYq s
 have A:∀(i:Nat) l,s[i]? =some l->∃y,l.txs[l.txs.length-1]? =some y:=λi l d=>by
  have:=(O l (Zj d)).1;have Z:l.txs.length≠0:=λq=>this (ZZ.1 q)
  exact⟨_,Za Xd⟩
 have E:∀{P:HpW} {n:Int},amq P 0=some (.fel (shdW s)) ->ViewL (amq P) [.int .i64 n,.ptr 0 0] [.int .i64 n,.fel (.fel (shdW s))]:=λq=>vR (.cons (y5q q L rfl) .nil)
 have k:∀n:Int,acq [.int .i64 n,.fel (.fel (shdW s))]=true:=λn=>by show(true&&(aaq (shdW s)&&true))=true;rw[L];rfl
 refine gI 10 Y (λR X=>gC 0 Y (JTq x) (gZ 19 Y e ?_));refine gLo (α:=Nat×Int) 4 (λp=>p.1<=s.length/\p.2=aFq s x p.1) (λp=>[(18,.int .i64 (p.1:Int)),(5,.int .i64 p.2)]) [2,3,4,6,7,17] (λp=>s.length-p.1) ((0,-1)) rfl (⟨Zf _,rfl⟩) (λp T=>?_);obtain⟨i,q⟩:=p;obtain⟨Q,F⟩:=T;simp only at Q F;have V:q=-1\/∃j:Nat,j<s.length/\q=(j:Int):=F▸guq s x i Q
 refine gS 6 Y (λU=>?_) (λU=>?_)
 .have J:i<s.length:=by omega
  obtain⟨l,d⟩:∃l,s[i]? =some l:=⟨_,Za J⟩
  obtain⟨y,I⟩:=A i l d;have w:=(O l (Zj d)).2;have B:s.length-(i+1)<s.length-i:=by omega
  have z:dfq l=y.fee:=by rw[dfq,I];rfl
  skip
  by_cases hw:l.who=akq x.pub
  .exact gP 18 Y (zyq (i:=i) Y Y Y Y Y Y Y (ziq lnW d)) (zbq 3 Y (k6q (w':=.bool false) rfl (kUq Y Y Y Y (yUq Y Y Y Y Y Y _ _ 250)) (by rw[Zq hw];rfl) (zWq 28 Y (gA 0 Y (i+1) (gAg 2 Y ((i+1,q)) (⟨J,by show q=aFq s x (i+1);rw[F];simp[aFq,d,hw,z]⟩) (B))))))
  .by_cases M:y.fee<x.fee
   .rcases V with rfl|⟨j,hj,rfl⟩
    .exact gP 18 Y (zyq (i:=i) Y Y Y Y Y Y Y (ziq lnW d)) (zbq 3 Y (k6q (w':=.bool true) rfl (kUq Y Y Y Y (yUq Y Y Y Y Y Y _ _ 250)) Jc (zWq 3 Y (Znq Y Y Y Y Y (E rfl) (uwq s i l d y I w) (k _) rfl Xq (zWq 2 Y (gT 0 Y (ltI_iff.2 Xd) (gT 3 Y (ltI_iff.2 (by show(-1:Int)<0;decide)) (gA 20 Y (i+1) (gAg 2 Y ((i+1,(i:Int))) (⟨J,by show(i:Int)=aFq s x (i+1);simp[aFq,d,hw,z,M,<-F]⟩) (B))))))))))
    .obtain⟨K,m⟩:∃l,s[j]? =some l:=⟨_,Za hj⟩
     obtain⟨N,H⟩:=A j K m;have C:dfq K=N.fee:=by rw[dfq,H];rfl
     have D:=(O K (Zj m)).2;by_cases S:y.fee<N.fee
     .exact gP 18 Y (zyq (i:=i) Y Y Y Y Y Y Y (ziq lnW d)) (zbq 3 Y (k6q (w':=.bool true) rfl (kUq Y Y Y Y (yUq Y Y Y Y Y Y _ _ 250)) Jc (zWq 3 Y (Znq Y Y Y Y Y (E rfl) (uwq s i l d y I w) (k _) rfl Xq (zWq 2 Y (gT 0 Y (ltI_iff.2 Xd) (gF 3 Y (ltI_not.2 Xd) (zbq 3 Y (Znq Y Y Y Y Y (E rfl) (uwq s i l d y I w) (k _) rfl Xq (zWq 2 Y (Znq Y Y Y Y Y (E rfl) (uwq s j K m N H D) (k _) rfl Xq (k6q (w':=.bool true) Y Y (Zc W.bool (ltI_iff.2 Xd)) (zWq 12 Y (gA 0 Y (i+1) (gAg 2 Y ((i+1,(i:Int))) (⟨J,by show(i:Int)=aFq s x (i+1);simp[aFq,d,hw,z,M,<-F,m,C,S]⟩) (B))))))))))))))))
     .exact gP 18 Y (zyq (i:=i) Y Y Y Y Y Y Y (ziq lnW d)) (zbq 3 Y (k6q (w':=.bool true) rfl (kUq Y Y Y Y (yUq Y Y Y Y Y Y _ _ 250)) Jc (zWq 3 Y (Znq Y Y Y Y Y (E rfl) (uwq s i l d y I w) (k _) rfl Xq (zWq 2 Y (gT 0 Y (ltI_iff.2 Xd) (gF 3 Y (ltI_not.2 Xd) (zbq 3 Y (Znq Y Y Y Y Y (E rfl) (uwq s i l d y I w) (k _) rfl Xq (zWq 2 Y (Znq Y Y Y Y Y (E rfl) (uwq s j K m N H D) (k _) rfl Xq (k6q (w':=.bool false) Y Y (Zc W.bool (ltI_not.2 Xd)) (zWq 9 Y (gA 0 Y (i+1) (gAg 2 Y ((i+1,(j:Int))) (⟨J,by show(j:Int)=aFq s x (i+1);simp[aFq,d,hw,z,M,<-F,m,C,S];omega⟩) (B))))))))))))))))
   .exact gP 18 Y (zyq (i:=i) Y Y Y Y Y Y Y (ziq lnW d)) (zbq 3 Y (k6q (w':=.bool true) rfl (kUq Y Y Y Y (yUq Y Y Y Y Y Y _ _ 250)) Jc (zWq 3 Y (Znq Y Y Y Y Y (E rfl) (uwq s i l d y I w) (k _) rfl Xq (zWq 2 Y (gF 0 Y (ltI_not.2 Xd) (gA 21 Y (i+1) (gAg 2 Y ((i+1,q)) (⟨J,by show q=aFq s x (i+1);rw[F];simp[aFq,d,M,z]⟩) (B)))))))))
 .exact gO 2 Y (gQ 9 Y (by rw[F,show i=s.length by omega]))
end
section
variable {C:Cfg} {G:Nat->Option W} {R:Res}
theorem Duq{F:FuncId}{b K:Nat}(hk:C.known F=some (dDq b K))(hK:Nat.blt 0 K=true){olds:List W}{ob:W}{n i:Nat}(U:ymq 50 ob 0 n K=some olds)(hi:i<n)(V:n<=70368744177664):
  zUq C G F 1 [.sl 0 0 0 n K none,.int .i64 (i:Int),.int .i64 ((i+1:Nat):Int)] [(0,b,ob)]
   λw H L=>w= .sl 1 0 0 (n-1) K none/\H=[(1,b,.arr ((n-1)*K) K (olds.take i++olds.drop (i+1)))]/\L=2:=λR j X vs m s hv=>by
 obtain⟨v0,vs1,rfl,S,Q⟩:=RVL_cons.1 hv;obtain⟨v1,vs2,rfl,z,D⟩:=RVL_cons.1 Q;obtain⟨v2,vs3,rfl,O,T⟩:=RVL_cons.1 D;obtain rfl:=RVL_nil.1 T;obtain⟨hb0,rfl⟩:=RV_sl.1 S;obtain rfl:=RV_int.1 z;obtain rfl:=RV_int.1 O;have hK0:0<K:=by simpa using hK
 have v:hget [(0,b,ob)] 0=some (b,ob):=rfl;obtain⟨bv,q1,q2,q3⟩:=jeq s v;obtain⟨q,g1,ho,B⟩:=vqq q3 U
 have E:(n-1)*K=(q.take i++q.drop (i+1)).length*K:=by
  congr 1
  simp only[Zh,Zu,Zy,B.len];omega
 have I:(olds.take i++olds.drop (i+1)).length=n-1:=by
  simp only[Zh,Zu,Zy];omega
 have ha:RV j (.arr ((n-1)*K) K (olds.take i++olds.drop (i+1))) (.arr ((n-1)*K) K (q.take i++q.drop (i+1))):=by
  have:=((B.split i).1.append (B.split (i+1)).2).arr;rw[I,<-E] at this;exact this
 have u:dDq b K [.sl (j.σ 0) 0 0 n K none,.int .i64 (i:Int),.int .i64 ((i+1:Nat):Int)] j.h=some (.sl j.h.next 0 0 (n-1) K none,(j.h.push (.cells b (.arr ((n-1)*K) K (q.take i++q.drop (i+1))))).kill (j.σ 0)):=by
  show dDq b K [.sl (j.σ 0) 0 0 n K none,.int .i64 (.ofNat i),.int .i64 (.ofNat (i+1))] j.h=_;have J:Nat.blt i n=true:=by simpa using hi
  simp only[dDq,J,show Nat.beq (i+1) (i+1)=true by simp,show Nat.beq K K=true by simp,Zn V,hK,Bool.and_self,q1,show Nat.beq b b=true by simp,g1]
 have n1:=v8q s (ty:=b) ha;have A:=Qtq s (.cells b (.arr ((n-1)*K) K (q.take i++q.drop (i+1))))
 have y:hget ((j.nw,b,W.arr ((n-1)*K) K (olds.take i++olds.drop (i+1)))::[(0,b,ob)]) 0=some (b,ob):=by
  rw[zfq,Zg Xd];exact v
 obtain⟨M,Y,Z⟩:=KXq n1.1 y;have x:(j.push (.cells b (.arr ((n-1)*K) K (q.take i++q.drop (i+1))))).σ 0=j.σ 0:=A.σ 0 hb0
 have P:ayq ((j.nw,b,W.arr ((n-1)*K) K (olds.take i++olds.drop (i+1)))::[(0,b,ob)]) 0=[(j.nw,b,W.arr ((n-1)*K) K (olds.take i++olds.drop (i+1)))]:=by
  rw[m];rfl
 rw[P,x] at Y Z;rw[x] at M;refine⟨1,.sl j.h.next 0 0 (n-1) K none,_,X,.sl j.nw 0 0 (n-1) K none,_,R,?_,Y,Eq.mp (Zc (λk=>Frm k j _ X _ _ X) m) (n1.2.trans (Z.le (m':=j.nw) (YO _) (Zb _))),RV_sl.2 ⟨YG _,by simp[Ctx.push]⟩,rfl,by rw[m],by rw[m],by show j.nw+1=2;rw[m]⟩;simp only[y9q,hk,u];rfl
theorem Xfq{l:List W}{i j:Nat}(h:acq l=true):acq (l.take i++l.drop j)=true:=by
 have a:=h;have b:=h;rw[<-ZK i l,qsq,Zd] at a;rw[<-ZK j l,qsq,Zd] at b;rw[qsq,a.1,b.2];rfl
theorem bkq{o:Oper}{T:FrW}{B:HpW}{k:Nat}{q:W->HpW->Nat->Res->Option EvW->Prop}{x:Operand}{X:Array Operand}{H:Array TypeId}{F:FuncId}{A K:Nat}(hk:C.known F=some (dDq A K))(V:Nat.blt 0 K=true)
  {L:List W} {i b:Nat} (ho:o.op= .call ⟨.value x,X,H⟩) (hx:evW C G T x=some (.fn F [] [])) (he:C.ext F=none) (M:avq C G T X.toList=some [.sl b 0 0 L.length K none,.int .i64 (i:Int),.int .i64 ((i+1:Nat):Int)])
  (Z:hget B b=some (A,.arr (L.length*K) K L)) (U:acq L=true) (O:b<k) (hi:i<L.length) (Q:L.length<=70368744177664)
  (P:HpW) (hP:∀c z,hget P c=some z->c≠b/\hget B c=some z) (S:∀p∈P,p.1≠k) (J:(P.map (·.1)).Nodup)
  (h:∀L',L'=L.take i++L.drop (i+1) ->q (.sl k 0 0 L'.length K none) ((k,A,.arr (L'.length*K) K L')::P) (k+1) R (some .dirty)):aeq C G o T B k R q:=by
 have I:0<K:=by simpa using V
 have el:(L.take i++L.drop (i+1)).length=L.length-1:=by
  simp only[Zh,Zu,Zy];omega
 have h:=h _ rfl;rw[el] at h;have E:aaq (.arr ((L.length-1)*K) K (L.take i++L.drop (i+1)))=true:=Xfq U;have D:aaq (.arr (L.length*K) K L)=true:=U;refine yXq (zDq (ext:=[b]) (ws:=[.sl 0 0 0 L.length K none,.int .i64 (i:Int),.int .i64 ((i+1:Nat):Int)]) (hp0:=[(0,A,.arr (L.length*K) K L)]) ho hx he M rfl (Duq (ob:=.arr (L.length*K) K L) (olds:=L) hk V (zqq I Y Y) hi Q) Xi (by simpa using O) Xi (λc ty w j=>?_) Y ?_)
 .rw[zfq] at j;split at j
  .rename_i e;subst e;cases j;exact⟨by simp,zaq D,b,rfl,by rw[zdq D];exact Z⟩
  .simp[hget] at j
 .rintro w hp1 nw1 ⟨rfl,rfl,rfl⟩;refine⟨(k,A,.arr ((L.length-1)*K) K (L.take i++L.drop (i+1)))::P,λc y j=>?_,?_,?_⟩
  .rw[zfq] at j;split at j
   .rename_i e;subst e;cases j;show hget ((k+(1-1),A,adq _ _)::_) _=_;rw[zfq,Zl Xd,zdq E]
   .rename_i e;obtain⟨p1,p2⟩:=hP c y j;show hget ((k+(1-1),_)::ayq B b) c=_;rw[zfq,Zg Xd,xrq p1];exact p2
  .rw[ZD,Y1];refine⟨λhm=>?_,J⟩;obtain⟨p,B,e⟩:=Z2.1 hm;exact S p B e
  .exact h
end
section
attribute [local irreducible] CoW OpW FlW aeq ajq
section
variable {G:Nat->Option W}
theorem Bnq:cfg.known 237=some (dDq 240 33):=by kernel_rfl
theorem h7q{x y:TypeId×W}{Q:HpW}(d:∀p∈Q,p.1=1):∀c u,hget [(2,x),(0,y)] c=some u->c≠1/\hget ((2,x)::(0,y)::Q) c=some u:=λc u b=>by
 have h:=b;rw[zfq] at h;split at h
 .rename_i q;subst q;cases h;exact⟨by decide,rfl⟩
 .rw[zfq] at h;split at h
  .rename_i q;subst q;cases h;exact⟨by decide,rfl⟩
  .simp[hget] at h
theorem Akq(s:Shd)(l:Ln)(o:Option (List W))(B:o.getD []=s.map lnW)(J:l.txs=[])(A:aYq s l.who)(N:s.length<=1000):zUq cfg G 204 2 [.ptr 0 0,lnW l] (ptH 1 o) λw y K=>w= .tup []/\(∃c E,(c=1\/c=2)/\E.getD []=(Boq s l.who).map lnW/\y=ptH c E)/\K=3:=by
 have e:(s.map lnW).length=s.length:=Ze _;have I:(l.txs.map txW).length=0:=by rw[J];rfl
 have q:=qEq s;have v:acq [.fel (shdW s),dW l.who]=true:=by simp[acq,aaq]
 obtain⟨z,D,H⟩:=A;have x:=yGq D
 have F:(Boq s l.who).map lnW=(s.map lnW).take (fndK s l.who)++(s.map lnW).drop (fndK s l.who+1):=by
  unfold Boq;rw[Z4,List.map_take,List.map_drop]
 obtain rfl:o=some (s.map lnW):=by
  cases o with
  |none=>exact absurd (B.symm▸e:([]:List W).length=_) Qa
  |some L=>exact Zc some B
 intro R;refine gIs 17 Y (λM=>?_);refine vcq Y Y Y Y Y (.cons (xjq rfl B (zSq Xg (zSq Xg k5q))) (.cons (.pur (qeq l.who)) .nil)) (zrq (w':=.tup [.int .i64 (fndK s l.who:Int),.bool true]) (QPq s l.who Xd) (by rw[Zq (show aYq s l.who from⟨z,D,H⟩)])) v Y (zeq 14 Y (gZ 0 Y I (gT 0 Y (eqI_iff.2 (rfl)) (gA 14 Y (fndK s l.who+1) ?_))))
 (refine zhq rfl (bkq (L:=s.map lnW) (i:=fndK s l.who) (b:=1) Bnq Y Y Y Y Y Y q Xg (by rw[e];exact x) Yk [(2,240,lnW l),(0,372,ptO 1 (some (s.map lnW)))] (h7q λp y=>qNq p y) Xi Xi ?_);intro L C)
 refine zeq 3 Y (gM 0 Y (qmq Y Y Y Y Y (show _=some (ptO 3 (some L)) from rfl) rfl) (zbq 2 Y ?_));have j:aaq (.arr (L.length*33) 33 L)=true:=by show acq L=true;rw[C];exact Xfq q
 exact fin (.inl rfl) (yiq (b:=2) (k:=3) (fr2:=[]) (hp2:=ptH 2 (some L)) Xg Xg Xg trivial ⟨⟨by decide,by rw[xSq];rfl,usq Xg⟩,⟨by decide,by rw[zdq j];rfl,zaq j⟩,trivial⟩ (by simp[ptH,oH])) rfl ⟨rfl,rfl,⟨2,some L,.inr rfl,by rw[F];exact C,rfl⟩,rfl⟩
theorem Agq(s:Shd)(l:Ln)(o:Option (List W))(e:o.getD []=s.map lnW)(b:l.txs=[] ->aYq s l.who)(g:l.txs.length<=1000)(f:s.length<=1000):zUq cfg G 204 2 [.ptr 0 0,lnW l] (ptH 1 o) λw j i=>w= .tup []/\(∃c d,(c=1\/c=2)/\d.getD []=(enq s l).map lnW/\j=ptH c d)/\i=3:=by
 unfold enq;by_cases h:l.txs=[]
 .rw[Zl h];exact Akq s l o e h (b h) f
 .rw[Zg h];exact Adq s l o e h g f
theorem YJq{R:Res}{op:Oper}{fr:FrW}{H:HpW}{C:Nat}{E:W->HpW->Nat->Res->Option EvW->Prop}{x:Operand}{xs:Array Operand}{L:Array TypeId}{p c:Nat}{ou:Option (List W)}{S:Shd}{l:Ln}(ho:op.op= .call ⟨.value x,xs,L⟩)(hx:evW cfg G fr x=some (.fn 204 [] []))(Y:avq cfg G fr xs.toList=some [.ptr p 0,lnW l])
  (h1:hget H p=some (372,ptO c ou)) (h2:oIn H c 240 33 ou) (g:ou.getD []=S.map lnW) (hpc:p≠c) (hpn:p<C) (hcn:c<C) (T:l.txs=[] ->aYq S l.who) (hl:l.txs.length<=1000) (hS:S.length<=1000)
  (Z:HpW) (hZ:∀k y,hget Z k=some y->k≠p/\k≠c/\hget H k=some y) (J:∀q∈Z,q.1<C/\q.1≠p/\q.1≠c) (O:(Z.map (·.1)).Nodup)
  (k:∀A B,(A=c\/A=C) ->B.getD []=(enq S l).map lnW->E (.tup []) ((p,372,ptO A B)::(Z++oH A 240 33 B)) (C+1) R (some .dirty)):aeq cfg G op fr H C R E:=by
 have V:acq (ou.getD [])=true:=g▸qEq S
 refine yXq (zDq (ext:=[p,c]) (ws:=[.ptr 0 0,lnW l]) (hp0:=ptH 1 ou) ho hx rfl Y (by rw[yVq,yVq,zdq (jyq l)];rfl) (Agq S l ou g T hl hS) (by simpa using hpc) Xl (by cases ou<;>simp[ptH,oH]) (jjq ⟨⟨by simp,usq Xi,p,rfl,by rw[xSq];exact h1⟩,Djq rfl V h2⟩) (by show(true&&(agq 2 (lnW l)&&true))=true;rw[zaq (jyq l)];rfl) ?_);rintro w hp1 nw1 ⟨rfl,⟨b,B,hb,ho2,rfl⟩,rfl⟩;have X:acq (B.getD [])=true:=ho2▸qEq _
 obtain⟨A,P,Q⟩:∃A,(A=c\/A=C)/\afq [p,c] C b=A:=by
  rcases hb with rfl|rfl
  .exact⟨c,.inl rfl,rfl⟩
  .exact⟨C,.inr rfl,by show C+(2-2)=C;omega⟩
 have hcp:A≠p:=by omega
 have K:∀q∈Z,q.1≠A:=λq F=>by
  have:=J q F;omega
 refine⟨(p,372,ptO A B)::(Z++oH A 240 33 B),λi y D=>?_,?_,k A B P ho2⟩
 .rw [show ahq (afq [p,c] C) (ptH b B)=(p,372,ptO A B)::oH A 240 33 B from by rw[ptH,ahq,xSq,uoq _ _ _ _ X,Q];rfl];rw[zfq] at D;show hget ((p,_)::(oH A _ 33 B++aRq [p,c] H)) i=_;rw[zfq];split
  .rename_i q;rw[Zl q] at D;exact D
  .rename_i q;rw[Zg q,qoq] at D;rw[qoq];cases I:hget Z i with
   |some z=>
    rw[I] at D;obtain⟨z1,z2,z3⟩:=hZ i z I
    have M:i≠A:=λe=>by
     rw[e,yPq K] at I;cases I
    rw[yPq (λr U e=>M (by rw[qNq r U] at e;exact e.symm)),Xgq (λj hj=>by simp only[ZB,ZW,or_false] at hj;rcases hj with rfl|rfl;exact λe=>z1 e.symm;exact λe=>z2 e.symm),z3];exact D
   |none=>
    rw[I] at D;have D:hget (oH A 240 33 B) i=some y:=D;rw[D];rfl
 .rw[ZD,Y1,Z4];refine⟨λhm=>?_,List.nodup_append.2 ⟨O,by cases B<;>simp[oH],λa ha b hb e=>?_⟩⟩
  .rcases ZO.1 hm with h|h
   .obtain⟨q,F,e⟩:=Z2.1 h;exact(J q F).2.1 e
   .obtain⟨q,F,e⟩:=Z2.1 h;rw[qNq q F] at e;exact hcp e
  .obtain⟨q,F,rfl⟩:=Z2.1 ha;obtain⟨r,U,rfl⟩:=Z2.1 hb;exact K q F (by rw[e];exact qNq r U)
end
def Ciq(l:Ln)(x:Tx):Option Tx:=match l.txs[ahN l.txs x.nonce]? with
 |some y=>if y.nonce=x.nonce then some y else none
 |none=>none
def oldW:Option Tx->W
 |some y=>.fz [txW y] 99 false
 |none=>.nils
theorem hKq{l q:Ln}{x:Tx}(h:∀y∈l.txs,y.ok)(o:x.ok)(j:LnM l)(k:gdq x l.who)(v:l.txs.length<256)(b:pxq l x=some q):PS cfg glK 200 [lnW l,txW x] (.tup [lnW q,oldW (Ciq l x),.int .i64 0]):=by
 unfold pxq at b;unfold Ciq;split at b
 .rename_i y d;(try simp only[d]);split at b
  .rename_i f;split at b
   .cases b
   .rename_i w;cases b;rw[Zl f];exact shq l x h o j k d f w
  .rename_i f;cases b;rw[Zg f];exact hMq l x h o j k v (λz g=>by obtain rfl:=ZA (d.symm.trans g);exact f)
 .rename_i d;cases b;(try simp only[d]);exact hMq l x h o j k v (λz g=>by rw[d] at g;cases g)
theorem Bdq{n i m:Nat}{s:Shd}(h:GoodS n i m s){j:Nat}{l:Ln}(hj:s[j]? =some l):aYq s l.who:=by
 have:fndK s l.who=j:=mvq Yq (λk x b a=>c0q h.keys b a hj) (λx a=>by obtain rfl:=ZA (hj.symm.trans a);exact Yaq _);exact⟨l,by rw[this];exact hj,rfl⟩
def sbH(c:Nat)(s:Shd)(x:Tx)(o:Option (List W)):HpW:=[(6,372,ptO c o),(2,236,.agg 1 [.nils]),(1,92,txW x),(0,236,shdW s)]++oH c 240 33 o
theorem w2q{s:Shd}{x:Tx}{o:Option (List W)}:((sbH 7 s x o).map (·.1)).Nodup:=by
 cases o<;>simp[sbH,oH]
theorem w1q{k:Nat}{s:Shd}{x:Tx}{o:Option (List W)}(h:k≠6/\k≠7/\2<k):∀p∈sbH 7 s x o,p.1≠k:=λp b=>by
 rcases ZO.1 b with b|b
 .simp only[ZB,ZW,or_false] at b;rcases b with rfl|rfl|rfl|rfl
  .exact λe=>h.1 e.symm
  .show 2≠k;omega
  .show 1≠k;omega
  .show 0≠k;omega
 .rw[qNq p b];exact λe=>h.2.1 e.symm
theorem fBq{s:Shd}{x:Tx}{o:Option (List W)}:oIn (sbH 7 s x o) 7 240 33 o:=qhq (ycq (l:=[6,2,1,0]) rfl Xi)
theorem CMq{s:Shd}{x:Tx}{o:Option (List W)}:hget (sbH 7 s x o) 7=hget (oH 7 240 33 o) 7:=by
 unfold sbH;rw[qoq,yPq (ycq (l:=[6,2,1,0]) rfl Xi)];rfl
theorem a0q{b:HpW}{p c:Nat}:∀{Z:HpW},(∀q∈Z,q.1≠p/\q.1≠c/\hget b q.1=some q.2) ->∀k y,hget Z k=some y->k≠p/\k≠c/\hget b k=some y
 |[],_,k,y,hk=>by simp[hget] at hk
 |q::Z,h,k,y,hk=>by
  rw[zfq] at hk;split at hk
  .rename_i e;subst e;cases hk;exact h q (ZV ..)
  .exact a0q (λr d=>h r (ZS _ d)) k y hk
theorem aZq{P:Nat×TypeId×W->Prop}{a:Nat×TypeId×W}(h:P a):∀q∈[a],P q:=λq b=>by obtain rfl:=YH.1 b;exact h
theorem Jxq{P:Nat×TypeId×W->Prop}{a:Nat×TypeId×W}{l:HpW}(h:P a)(d:∀q∈l,P q):∀q∈a::l,P q:=λq b=>by
 rcases ZB.1 b with rfl|b
 .exact h
 .exact d q b
def aOq(d:Int)(b:Nat)(s:Shd)(x:Tx):Int ⊕(Shd×W):=
 if x.sign=xHq x then
  if x.nonce<b then .inl 200
  else if x.nonce-b<16 then
   if x.nonce=18446744073709551615 then .inl 201
   else match pxq (kpq s (akq x.pub)) x with
    |none=>.inl 190
    |some c=>match Ciq (kpq s (akq x.pub)) x with
     |some y=>.inr (enq s c,.fz [txW y] 99 false)
     |none=>if (cntS s:Int)<d then .inr (enq s c,.nils)
      else if aFq s x s.length<0 then .inl 9
      else match s[(aFq s x s.length).toNat]? with
       |none=>.inl 9
       |some l=>match l.txs[l.txs.length-1]? with
        |none=>.inl 9
        |some z=>.inr (enq (enq s (p8q l)) c,.fz [txW z] 99 false)
  else .inl 201
 else .inl 110
theorem hsq{N i m:Nat}{s:Shd}(d:GoodS N i m s)(v:m<=100)(j:Int)(b:Nat)(x:Tx)(q:x.ok)(u:atE (akq x.pub) N=i):o4q N i m (aOq j b s x):=by
 have e:∀e:Int,e≠0->o4q N i m (.inl e):=λ_ h=>h
 have g:=JNq d u;unfold aOq;split
 .rename_i k;split
  .exact e _ Xg
  split
  .split
   .exact e _ Xg
   split
   .exact e _ Xg
   .rename_i w f;obtain⟨w1,w2,w3⟩:=hOq g ⟨k,(bPq s (akq x.pub)).symm⟩ q f;split
    .exact⟨uqq d.up w1,by simp[aaq,acq]⟩
    .split
     .exact⟨uqq d.up w1,rfl⟩
     split
     .exact e _ Xg
     split
     .exact e _ Xg
     rename_i l o;split
     .exact e _ Xg
     .exact⟨uqq (uqq d (Q2q (d.line l (Zj o)).1)) w1,by simp[aaq,acq]⟩
  .exact e _ Xg
 .exact e _ Xg
theorem rWq{N i m:Nat}{s:Shd}(P:GoodS N i m s)(hm:m<=100)(D:Int)(A:Nat)(x:Tx)(hx:x.ok)(hk:atE (akq x.pub) N=i):PE cfg glK 131 [shdW s,.int .i64 D,.int .u64 (A:Int),txW x] (λw=>w=wTq (aOq D A s x)):=by
 have e:(s.map lnW).length=s.length:=Ze _;have hsl:=P.len;have hps:=qEq s;have hxn:=hx.nonce;have hok:∀l∈s,OkL l:=λl I=>⟨λx hx=>((P.line l I).1.own x hx).2,by have:=(P.line l I).1.len;omega⟩
 have K:∀l∈s,l.txs.length<=m:=λl I=>(P.line l I).1.len
 have T:=zrq (w':=.int .i64 0) (vZq s hok Xd) (by rw[Zl (P.sh Xd)]);have M:∀e:Int,aOq D A s x= .inl e->(.tup [.agg 1 [.nils],.nils,.int .i64 e])=wTq (aOq D A s x):=λe q=>by rw[q];rfl
 have Q:∀(s':Shd) (o:W),aOq D A s x= .inr (s',o) ->(.tup [shdW s',o,.int .i64 0])=wTq (aOq D A s x):=λs' o q=>by rw[q];rfl
 by_cases c1:x.sign=xHq x
 .have V:=zrq (w':=.int .i64 0) (qRq x hx) Qf;by_cases c2:x.nonce<A
  .skip
   exact gIe 14 Y (λR k0=>gC 0 Y (T) (gF 0 Y zN (gC 7 Y (V) (gF 0 Y zN (gT 9 Y (ltI_iff.2 Xd) (zbq 15 Y (ybq (w':=.tup [.agg 1 [.nils],.nils,.int .i64 200]) Jr rfl (.pur rfl) rfl (M 200 (by simp[aOq,c1,c2])))))))))
  .by_cases c3:x.nonce-A<16
   .by_cases c4:x.nonce=18446744073709551615
    .skip
     exact gIe 14 Y (λR k0=>gC 0 Y (T) (gF 0 Y zN (gC 7 Y (V) (gF 0 Y zN (gF 9 Y (ltI_not.2 Xd) (gA 9 Y (x.nonce-A) (gF 0 Y (Zc not (ltI_iff.2 Xd)) (gT 3 Y (eqI_iff.2 Xd) (zbq 16 Y (ybq (w':=.tup [.agg 1 [.nils],.nils,.int .i64 201]) Jr rfl (.pur rfl) rfl (M 201 (by rw[aOq,Zl c1,Zg c2,Zl c3,Zl c4]))))))))))))
    .have hw:=bPq s (akq x.pub);have U:=JNq P hk;have hll:=U.len;have hlm:=U.lnm Xd;have hox:gdq x (kpq s (akq x.pub)).who:=⟨c1,hw.symm⟩;have hlx:∀y∈(kpq s (akq x.pub)).txs,y.ok:=λy hy=>(U.own y hy).2
     have hpa:acq [.fel (shdW s),dW (akq x.pub)]=true:=by simp[acq,aaq]
     refine gIe 14 Y (λR k0=>gC 0 Y (T) (gF 0 Y zN (gC 7 Y (V) (gF 0 Y zN (gF 9 Y (ltI_not.2 Xd) (gA 9 Y (x.nonce-A) (gF 0 Y (Zc not (ltI_iff.2 Xd)) (gF 3 Y (eqI_not.2 Xd) (zbq 11 Y ?_)))))))))
     (refine zhq rfl (yXq (yMq Y Y Y Y Y Yd (rVq s Xd (λl I=>by have:=K l I;omega)) ?_));rintro w hp1 nw1 ⟨⟨o,ho,rfl,rfl⟩,rfl⟩;have hpb:acq (o.getD [])=true:=(by rw[ho];exact qEq s);rw[xSq,show ahq (afq [] 3) ([(1,236,ptO 2 o),(0,236,shdW s)]++oH 2 240 33 o)=[(4,236,ptO 5 o),(3,236,shdW s)]++oH 5 240 33 o from(by rw[upq,uoq _ _ _ _ hpb,ahq,ahq,xSq,zdq (uYq s)];rfl),show afq [] 3 2=5 from rfl];refine⟨_,kqq (n:=3) (xXq (l:=[2,1,0]) rfl Xg) Xi (λp hp=>by rw[qNq p hp];simp),q0q (ycq (l:=[2,1,0]) rfl Xg) (show [2,1,0].Nodup by decide),?_⟩)
     refine z5q rfl ((show _=some (ptO 5 o) from by cases o<;>rfl)) ?_;refine kjq Y Y ?_
     (refine jxq (λ_=>p4q (b:=7) (k:=5) (fr2:=[(1,.int .i64 D),(4,.ptr 0 0),(7,.ptr 1 0),(8,.ptr 2 0),(48,.ptr 6 0)]) (hp2:=sbH 7 s x o) Xg Xg Xg Xg (λp hp=>.inl (w1q Xg p hp)) ⟨⟨rfl,rfl⟩,⟨rfl,rfl⟩,⟨rfl,rfl⟩,⟨rfl,rfl⟩,⟨rfl,rfl⟩,trivial⟩ ⟨⟨by decide,by rw[xSq];rfl,usq Xg⟩,⟨by decide,rfl,rfl⟩,⟨by decide,by rw[zdq (qYq x)];rfl,zaq (qYq x)⟩,⟨by decide,by rw[zdq (uYq s)];rfl,zaq (uYq s)⟩,rPq Xg hpb (zSq Xg (qhq (ycq (l:=[2,1,0]) rfl Xg)))⟩ w2q) ?_;refine z5q Y Y ?_)
     refine zeq 6 Y (gC 0 Y (JTq x) ?_)
     (refine yeq rfl (YKq (uXq Y Y Y Y (.cons (xjq rfl ho fBq) (.cons (.pur (qeq _)) .nil)) (ALq s (akq x.pub) Xd) hpa) (yXq (zDq (ext:=[6,7]) (ws:=[.ptr 0 0,dW (akq x.pub)]) (hp0:=ptH 1 o) Y Y Y Y (by rw[yVq,yVq,zdq (qeq _)];rfl) (AMq s (akq x.pub) o ho Xd) Xg Xl (by cases o<;>simp[ptH,oH]) (jjq ⟨⟨by decide,usq Xg,6,rfl,by rw[xSq];rfl⟩,Djq rfl hpb fBq⟩) (by show(true&&(agq 2 (dW _)&&true))=true;rw[zaq (qeq _)];rfl) ?_)));rintro w hp1 nw1 ⟨rfl,rfl,rfl⟩;rw[zdq (jyq _),show ahq (afq [6,7] 8) ((3,240,lnW (kpq s (akq x.pub)))::ptH 1 o)=(9,240,lnW (kpq s (akq x.pub)))::(6,372,ptO 7 o)::oH 7 240 33 o from(by rw[ahq,ptH,ahq,uoq _ _ _ _ hpb,xSq,zdq (jyq _)];rfl)];refine⟨sbH 7 s x o,nWq (a:=6) (b:=7) rfl CMq (yPq (w1q Xg)) Xg,w2q,by kernel_rfl,?_⟩)
     refine Dpq Y Y ?_;skip
     skip
     cases F:pxq (kpq s (akq x.pub)) x with
     |none=>
      have B:=m8q hlx hx hlm hox F;exact oiq (B) (zWq 14 Y (gT 0 Y (Zc not (eqI_not.2 Xg)) (gT 2 Y (Zc not (eqI_not.2 Xg)) (zbq 15 Y (ybq (w':=.tup [.agg 1 [.nils],.nils,.int .i64 190]) Jr rfl (.pur rfl) rfl (M 190 (by simp[aOq,c1,c2,c3,c4,F])))))))
     |some X=>
      have B:=hKq hlx hx hlm hox Xd F;obtain⟨w1,w2,w3⟩:=hOq U hox hx F;have hwl:=w1.len;cases O:Ciq (kpq s (akq x.pub)) x with
      |none=>
       rw[O] at B;replace B:PS cfg glK _ _ (.tup [lnW X,.nils,.int .i64 0]):=B
       refine oiq (B) (zWq 14 Y (gF 0 Y zN (gF 13 Y (eqI_not.2 Xg) (gL 9 Y (gT 0 Y (eqI_iff.2 (rfl)) (gC 2 Y (rXq s Xd (λl I=>by have:=K l I;omega)) ?_))))));refine gD 1 Y (λh1=>?_) (λh1=>?_)
       .refine zbq 8 Y ?_;skip
        refine gSo 0 Y (bjq Y Y Y Y (.cons (xjq rfl ho (zSq Xg fBq)) (.cons (.pur (qYq x)) .nil)) (rtq s x Xd (λl I=>⟨(P.line l I).2,by have:=K l I;omega⟩)) Qz ?_);rintro w _ _ ⟨_,rfl⟩;skip
        skip
        have hct:¬(cntS s:Int)<D:=by omega
        rcases guq s x s.length (Zb _) with hq|⟨j,hj,hq⟩
        .rw[hq];refine⟨rfl,?_⟩;exact zeq 7 Y (gT 0 Y (ltI_iff.2 Xg) (zbq 14 Y (ybq (w':=.tup [.agg 1 [.nils],.nils,.int .i64 9]) Jr rfl (.pur rfl) rfl (M 9 (by simp[aOq,c1,c2,c3,c4,F,O,hct,hq])))))
        .rw[hq];refine⟨rfl,?_⟩;obtain⟨l,I⟩:∃l,s[j]? =some l:=⟨_,Za hj⟩
         have el:(l.txs.map txW).length=l.txs.length:=Ze _;have J:=Zj I;have hl0:l.txs.length≠0:=λq=>(P.line l J).2 (ZZ.1 q)
         have hlb:=K l J;have hat:=Bdq P I;obtain⟨z,hz⟩:∃z,l.txs[l.txs.length-1]? =some z:=⟨_,Za Xd⟩
         have hcl:(p8q l).txs.length<=m:=(Q2q (P.line l J).1).len;have hg2:=uqq P (Q2q (P.line l J).1);have hg2l:=hg2.len
         obtain rfl:o=some (s.map lnW):=by
          cases o with
          |none=>exact absurd (ho.symm▸e:([]:List W).length=_) Qa
          |some L=>exact Zc some ho
         refine zeq 7 Y (gF 0 Y (ltI_not.2 Xd) (gP 13 Y (ypq (i:=j) Y Y Y Y Y Y Y (by rw[e];exact hj)) ?_))
         (refine zhq rfl (ujq (n:=(s.map lnW).length) (e:=33) Y Y Y Y Y Y Y (ziq lnW I) Y Y Xg ?_))
         refine zeq 8 Y (gZ 0 Y el (gA 0 Y (l.txs.length-1) (gP 8 Y (zyq (i:=l.txs.length-1) Y Y Y Y Y Y Y (ziq txW hz)) (gP 6 Y (liq (ys:=(p8q l).txs.map txW) (l:=0) (h:=l.txs.length-1) (m:=l.txs.length-1) (g:=true) Y Y Y Y Y Y Y Y (Zf _) (Zb _) (by rw[el];omega) (by rw[el];omega) (by rw[ZX,Y8,<-List.map_take];rfl) (Y0 _)) (zbq 6 Y (jxq (λ_=>jYq (b:=11) (w':=lnW (p8q l)) rfl (.agg (.cons (.pur (qeq _)) (.cons (.fzw (jnq _)) .nil)))) (z5q Y Y ?_)))))))
         refine kjq Y Y ?_
         (refine zhq rfl (YJq (p:=6) (c:=7) (ou:=some (s.map lnW)) (S:=s) (l:=p8q l) Y Y Y Y (zSq Xg (zSq Xg (zSq Xg fBq))) rfl Xg Xg Xg (λ_=>hat) Xd Xd [(12,92,txW z),(10,240,lnW X),(2,236,.agg 1 [.nils])] (a0q (Jxq ⟨by simp,by simp,rfl⟩ (Jxq ⟨by simp,by simp,rfl⟩ (aZq ⟨by simp,by simp,rfl⟩)))) (Jxq ⟨by simp,by simp,by simp⟩ (Jxq ⟨by simp,by simp,by simp⟩ (aZq ⟨by simp,by simp,by simp⟩))) Xi ?_);intro Z o2 hcN ho2;have hcN:Z=7\/Z=13:=hcN)
         refine zeq 6 Y ?_
         (refine zhq rfl (YJq (p:=6) (c:=Z) (ou:=o2) (S:=enq s (p8q l)) (l:=X) Y Y Y Y (zSq Xd (qhq (ycq (l:=[12,10,2]) rfl Xn))) ho2 Xd Xg (show Z<14 by omega) (λq=>absurd q w2) Xd Xd [(12,92,txW z),(2,236,.agg 1 [.nils])] (a0q (Jxq ⟨by simp,by show 12≠Z;omega,rfl⟩ (aZq ⟨by simp,by show 2≠Z;omega,rfl⟩))) (Jxq ⟨by simp,by simp,by show 12≠Z;omega⟩ (aZq ⟨by simp,by simp,by show 2≠Z;omega⟩)) Xi ?_);intro C E H G;have H:C=Z\/C=14:=H)
         refine zeq 7 Y (gM 0 Y (zwq Y Y Y smq) (gM 1 Y (qmq Y Y Y Y Y hRq rfl) (zbq 5 Y ?_)));have hv:=Qbq (e:=33) Xg (show acq (E.getD [])=true from G▸qEq _) (show oIn ([(6,372,ptO C E),(12,92,txW z),(2,236,ptO C E)]++oH C 240 33 E) C 240 33 E from qhq (ycq (l:=[6,12,2]) rfl Xn));rw[G] at hv;exact ybq (w':=.tup [shdW (enq (enq s (p8q l)) X),.fz [txW z] 99 false,.int .i64 0]) Jr rfl (.tup (.cons (.agg (.cons hv .nil)) (.cons (.sl (full:=false) (c:=txW z) rfl (qYq z) rfl Xj) (.cons (.pur (w:=.int .i64 0) rfl) .nil)))) Yz (Q _ _ (by simp[aOq,c1,c2,c3,c4,F,O,hct,hq,I,hz]))
       .refine zbq 10 Y ?_
        (refine zhq rfl (YJq (p:=6) (c:=7) (ou:=o) (S:=s) (l:=X) Y Y Y Y (zSq Xg fBq) ho Xg Xg Xg (λq=>absurd q w2) Xd Xd [(2,236,.agg 1 [.nils])] (a0q (aZq ⟨by decide,by decide,rfl⟩)) (aZq ⟨by decide,by decide,by decide⟩) Xi ?_);intro C E H G;have H:C=7\/C=11:=H)
        refine zeq 7 Y (gM 0 Y (zwq Y Y Y smq) (gM 1 Y (qmq Y Y Y Y Y hRq rfl) (zbq 5 Y ?_)));have hv:=Qbq (e:=33) Xg (show acq (E.getD [])=true from G▸qEq _) (show oIn ([(6,372,ptO C E),(2,236,ptO C E)]++oH C 240 33 E) C 240 33 E from qhq (ycq (l:=[6,2]) rfl Xn));rw[G] at hv;exact ybq (w':=.tup [shdW (enq s X),.nils,.int .i64 0]) Jr rfl (.tup (.cons (.agg (.cons hv .nil)) (vR (.cons (.pur (w:=.int .i64 0) rfl) .nil)))) Yz (Q _ _ (by simp[aOq,c1,c2,c3,c4,F,O,show(cntS s:Int)<D by omega]))
      |some y=>
       rw[O] at B;replace B:PS cfg glK _ _ (.tup [lnW X,.fz [txW y] 99 false,.int .i64 0]):=B
       refine oiq (B) (zWq 14 Y (gF 0 Y zN (gF 13 Y (eqI_not.2 Xg) (gL 9 Y (gF 0 Y (eqI_not.2 (by show¬((1:Nat):Int)=0;decide)) (zbq 15 Y ?_))))))
       (refine zhq rfl (YJq (p:=6) (c:=7) (ou:=o) (S:=s) (l:=X) Y Y Y Y (zSq Xg fBq) ho Xg Xg Xg (λq=>absurd q w2) Xd Xd [(2,236,.agg 1 [.nils])] (a0q (aZq ⟨by decide,by decide,rfl⟩)) (aZq ⟨by decide,by decide,by decide⟩) Xi ?_);intro C E H G;have H:C=7\/C=11:=H)
       refine zeq 7 Y (gM 0 Y (zwq Y Y Y smq) (gM 1 Y (qmq Y Y Y Y Y hRq rfl) (zbq 5 Y ?_)));have hv:=Qbq (e:=33) Xg (show acq (E.getD [])=true from G▸qEq _) (show oIn ([(6,372,ptO C E),(2,236,ptO C E)]++oH C 240 33 E) C 240 33 E from qhq (ycq (l:=[6,2]) rfl Xn));rw[G] at hv;exact ybq (w':=.tup [shdW (enq s X),.fz [txW y] 99 false,.int .i64 0]) Jr rfl (.tup (.cons (.agg (.cons hv .nil)) (.cons (.pur Yz) (.cons (.pur (w:=.int .i64 0) rfl) .nil)))) Yz (Q _ _ (by simp[aOq,c1,c2,c3,c4,F,O]))
   .skip
    exact gIe 14 Y (λR k0=>gC 0 Y (T) (gF 0 Y zN (gC 7 Y (V) (gF 0 Y zN (gF 9 Y (ltI_not.2 Xd) (gA 9 Y (x.nonce-A) (gT 0 Y (Zc not (ltI_not.2 Xd)) (zbq 20 Y (ybq (w':=.tup [.agg 1 [.nils],.nils,.int .i64 201]) Jr rfl (.pur rfl) rfl (M 201 (by simp[aOq,c1,c2,c3])))))))))))
 .skip
  exact gIe 14 Y (λR k0=>gC 0 Y (T) (gF 0 Y zN (gC 7 Y (zrq (w':=.int .i64 110) (qRq x hx) (by rw[Zg c1])) (gT 0 Y (Zc not (eqI_not.2 Xg)) (zbq 15 Y (ybq (w':=.tup [.agg 1 [.nils],.nils,.int .i64 110]) Jr rfl (.pur rfl) rfl (M 110 (by simp[aOq,c1]))))))))
section
variable {G:Nat->Option W}
theorem ssq(l:List Shd)(z:l.length<=1000000)(f:∀s∈l,s.length<=1000000000/\∀y∈s,y.txs.length<=1000000000):PL cfg G 64 [plW l] 236 1 (l.map shdW):=by
 have e:(l.map shdW).length=l.length:=Ze _;intro R;refine gIs 14 Y (λB=>?_);refine gZ 0 Y e (zbq 4 Y ?_);refine ZAq (α:=Nat) (λi=>i<=l.length) 3 (λi=>(l.take i).map shdW) 236 1 (λi=>[(8,.int .i64 (i:Int))]) [(2,_),(6,_),(7,_)] _ (λi=>l.length-i) (0) ⟨rfl,rfl,rfl,trivial⟩ (Zf _) ⟨rfl,trivial⟩ Y Y Y (λi w=>?_);refine zCq 6 Y ?_;refine gS 0 Y (λr=>?_) (λr=>?_)
 .have c:i<l.length:=by omega
  obtain⟨x,b⟩:∃x,l[i]? =some x:=⟨_,Za c⟩
  obtain⟨u,q⟩:=f x (Zj b);have o:((l.take i).map shdW).length<=1000000:=by rw[Ze,Zu];omega
  have d:(l.take (i+1)).map shdW=(l.take i).map shdW++[shdW x]:=by rw[YA,b,Z4];rfl
  have A:=k1q (l.take i);have j:acq ((l.take i).map shdW++[shdW x])=true:=by rw[<-d];exact k1q _
  exact gP 6 Y (zyq (i:=i) Y Y Y Y Y Y Y (ziq shdW b)) (gC 8 Y (poq x u q) (gM 1 Y (yLq Y Y (Yuq [_,_] (k:=rMq) (news:=[shdW x]) Y Y Y Y Y (j3q Y Y Y Y) Xi (by show(((l.take i).map shdW).length+1)*24<=_;omega) (by show((l.take i).map shdW).length+1<=_;omega) rfl Xi)) (gA 5 Y (i+1) (zbq 2 Y (k3q 3 (i+1) (c) Xd (Zf _) (d) Xw Xd Yr rfl Ya ⟨rfl,trivial⟩ ⟨rfl,rfl,rfl,trivial⟩ Xh Xh rfl Xm Xk Xt)))))
 .have c:i=l.length:=by omega
  subst c;rw[List.take_length];exact zbq 2 Y (qQq Xj (zRq 9 Y (fin Jr (yJq (fr2:=[(2,gW 0 1 (l.map shdW))]) ⟨rfl,trivial⟩ Y Y) rfl ⟨rfl,rfl,rfl,rfl⟩)))
end
theorem stq(a:List Shd)(e:∀s∈a,s.length<=1000000000/\∀l∈s,OkL l)(f:PlM a)(t:Tree)(c:Nat)(d:T)(b:IsA t c d):PS cfg glK 127 [plW a,tW t] (.int .i64 0):=by
 have h:=b.len;have g:=jwq a;exact gI 9 Y (λR j=>gC 0 Y (zrq (w':=.int .i64 0) (h2q a e) (by rw[Zl f])) (gC 1 Y (zrq (w':=.int .i64 0) (kuq t Xd) (by rw[Zl ⟨c,d,b⟩])) (gQa 5 Y)))
def D5q(a:List Shd)(i:Nat):Int ⊕(Shd×W) ->W
 |.inl e=>.tup [.nils,.nils,.int .i64 e]
 |.inr p=>.tup [plW (a.set i p.1),p.2,.int .i64 0]
theorem h0q(d:List Shd)(i:Nat)(s:Shd)(E:d[i]? =some s)(F:FuncId)(k:List W)(B:acq k=true){N j m:Nat}{z:Int ⊕(Shd×W)}(K:o4q N j m z)(S:PE cfg glK F (shdW s::k) (λw=>w=wTq z))(H:cfg.ext F=none)(L:d.length<=1000000)(P:∀s∈d,s.length<=1000000000/\∀y∈s,y.txs.length<=1000000000):PE cfg glK 129 [plW d,.int .i64 (i:Int),.fn F [] k] (λw=>w=D5q d i z):=by
 have e:(d.map shdW).length=d.length:=Ze _;have D:=yGq E;have M:=jwq d;have C:acq (d.map shdW)=true:=k1q d;have O:aaq (.fn F [] k)=true:=by show(true&&acq k)=true;rw[B];rfl
 have G:acq (shdW s::k)=true:=by simp[acq,B]
 have A:d.map shdW≠[]:=λq=>by rw[q] at e;simp only[ZP] at e;omega
 refine gIe 16 Y (λR U=>gF 0 Y (ltI_not.2 Xd) (gZ 3 Y e (gF 0 Y (Zc not (ltI_iff.2 Xd)) (gP 11 Y (zyq (i:=i) Y Y Y Y Y Y Y (ziq shdW E)) (zbq 1 Y ?_)))));skip
 refine gSo 0 Y (qfq Y Y H Y Y S G ?_);rintro w V rfl;skip
 skip
 rcases z with Q|⟨s',rest⟩
 rotate_left
 .obtain⟨T,J⟩:=K;have I:(d.set i s').map shdW=(d.map shdW).set i (shdW s'):=List.map_set;have v:acq ((d.map shdW).set i (shdW s'))=true:=I▸k1q _
  refine zeq 14 Y (gF 0 Y zN (zbq 8 Y ?_))
  (refine zhq rfl (g1q Y Y Y Y Y Yd (ssq d L P) C ?_);rw[QJq A,QKq A])
  refine zeq 8 Y (gP 0 Y (ypq (i:=i) Y Y Y Y Y Y Y (by rw[e];exact D)) ?_)
  (refine zhq rfl (xlq (n:=(d.map shdW).length) (e:=1) Y Y Y Y Y Y Y (ziq shdW E) Y Y Y Y Xg ?_))
  refine zeq 12 Y ?_;refine ybq (w':=.tup [plW (d.set i s'),rest,.int .i64 0]) Jr rfl (.tup (.cons ?_ (.cons (.pur J) (.cons (.pur (w:=.int .i64 0) rfl) .nil)))) (by simp[aaq,acq,J]) rfl;show View _ _ (.fz ((d.set i s').map shdW) 1 false);rw[I];exact .sl (full:=false) (c:=.arr ((d.map shdW).length*1) 1 ((d.map shdW).set i (shdW s'))) rfl v (zqq Xg (by rw[YI]) rfl) Xj
 .exact zeq 14 Y (gT 0 Y (Zc not (eqI_not.2 (K))) (zbq 14 Y (ybq (w':=.tup [.nils,.nils,.int .i64 Q]) Jr rfl (.pur rfl) Y Y)))
theorem njq{N i m:Nat}{s:Shd}(q:GoodS N i m s)(h:m<=100)(b:Int)(a:Acct)(x:Tx)(j:x.ok)(k:atE (akq x.pub) N=i):PE cfg glK 130 [shdW s,.fel (.int .i64 b),.fel (aW a),.fel (txW x)] (λw=>w=wTq (aOq b a.nonce s x)):=by
 refine gIe 15 Y (λR v=>?_);skip
 refine gSo 0 Y (qfq Y Y Y Y Y (rWq q h b a.nonce x j k) Qz ?_);rintro w d rfl;generalize aOq b a.nonce s x=z at d⊢;skip
 skip
 rcases z with o|⟨s',rest⟩
 .exact zbq 9 Y (ybq (w':=.tup [.agg 1 [.nils],.nils,.int .i64 o]) Jr rfl (.pur rfl) Y Y)
 .exact zbq 9 Y (ybq Jr rfl (.pur d) d rfl)
theorem pAq(k:Dig)(n:Nat)(h:1<=n/\n<=8){G:Nat->Option W}:PS cfg G 97 [dW k,.int .i64 (n:Int)] (.tup [.int .i64 (atE k n:Nat),.int .i64 0]):=by
 obtain⟨m,rfl⟩:∃m,n=m+1:=⟨n-1,by omega⟩
 exact h4q k m Xd
def plF(b:Int)(c:List Shd)(a:Nat)(x:Tx):Int ⊕(Shd×W):=aOq b a ((c[atE (akq x.pub) c.length]?).getD []) x
theorem h6q(b:List Shd)(j:PlM b){m:Nat}(f:∀(i:Nat) s,b[i]? =some s->GoodS b.length i m s)(g:m<=100)(c:Int)(a:Nat)(x:Tx)(h:x.ok):o4q b.length (atE (akq x.pub) b.length) m (plF c b a x):=by
 have d:atE (akq x.pub) b.length<b.length:=Nat.mod_lt _ j.1.1;obtain⟨s,e⟩:∃s,b[atE (akq x.pub) b.length]? =some s:=⟨_,Za d⟩
 rw[plF,e];exact hsq (f _ s e) g c a x h rfl
theorem h1q(b:List Shd)(E:∀s∈b,s.length<=1000000000/\∀l∈s,OkL l)(D:∀s∈b,s.length<=1000000000/\∀y∈s,y.txs.length<=1000000000)(L:PlM b){m:Nat}(I:∀(i:Nat) s,b[i]? =some s->GoodS b.length i m s)(J:m<=100)(t:Tree)(v:Nat)(j:T)(G:IsA t v j)(d:Int)(x:Tx)(K:x.ok):PE cfg glK 71 [plW b,.int .i64 d,tW t,txW x] (λw=>w=D5q b (atE (akq x.pub) b.length) (plF d b (yBq j (akq x.pub)).nonce x)):=by
 have M:(b.map shdW).length=b.length:=Ze _;have A:=jwq b;have H:=L.1;have B:atE (akq x.pub) b.length<b.length:=Nat.mod_lt _ H.1;obtain⟨s,q⟩:∃s,b[atE (akq x.pub) b.length]? =some s:=⟨_,Za B⟩
 have O:plF d b (yBq j (akq x.pub)).nonce x=aOq d (yBq j (akq x.pub)).nonce s x:=by rw[plF,q];rfl
 rw[O];have C:acq [.fel (.int .i64 d),.fel (aW (yBq j (akq x.pub))),.fel (txW x)]=true:=by simp[acq,aaq]
 have k:=h0q b _ s q 130 _ C (hsq (I _ s q) J d (yBq j (akq x.pub)).nonce x K rfl) (njq (I _ s q) J d (yBq j (akq x.pub)) x K rfl) rfl Xd D;refine gIe 15 Y (λR P=>gC 0 Y (stq b E L t v j G) (gF 6 Y zN (gC 8 Y (JTq x) (gZ 8 Y M (gC 0 Y (pAq (akq x.pub) b.length H) (gC 11 Y (rmq t v j G (akq x.pub)) (zbq 13 Y ?_)))))));skip
 refine jxq (λ_=>e2q (fr2:=[(38,plW b),(39,.int .i64 (atE (akq x.pub) b.length:Nat)),(40,.fn 130 [] [.fel (.int .i64 d),.fel (aW (yBq j (akq x.pub))),.fel (txW x)])]) ⟨⟨_,rfl,.pur A⟩,⟨_,rfl,.pur rfl⟩,⟨_,rfl,.fn .nil (.cons (y5q Y Y Y) (.cons (y5q rfl (B0q _) rfl) (.cons (y5q rfl (qYq x) rfl) .nil)))⟩,trivial⟩) ?_;refine zhq rfl (qfq Y Y Y Y Y k Qz ?_);rintro w F rfl;generalize aOq d (yBq j (akq x.pub)).nonce s x=z at F⊢;skip
 skip
 rcases z with N|⟨s',rest⟩
 .exact zeq 9 Y (ybq (w':=.tup [.nils,.nils,.int .i64 N]) Jr rfl (.pur rfl) Y Y)
 .exact zeq 9 Y (ybq Jr rfl (.pur F) F rfl)
theorem gNq(x:Itm)(l:List Itm)(b:Bool)(hm:TpM ⟨x::l,b⟩):PS cfg glT 134 [tpW ⟨x::l,b⟩] (.tup [tpW ⟨l,b⟩,aiq x,.int .i64 0]):=by
 have e:((x::l).map aiq).length=l.length+1:=by simp
 have c:(x::l).length<=64:=hm.1;have d:l.length+1<=64:=by simpa using c
 exact gI 13 Y (λR f=>gC 0 Y (zrq (w':=.int .i64 0) (Qdq ⟨x::l,b⟩ (by show(x::l).length<=_;omega)) Yc) (gF 0 Y zN (gZ 8 Y e (gT 0 Y (ltI_iff.2 Xd) (gC 7 Y (gLq ⟨x::l,b⟩ (by show(x::l).length<=_;omega)) (gP 7 Y (zyq (i:=0) Y Y Y Y Y Y Y Y) (gP 3 Y (Q1q (ys:=l.map aiq) (l:=1) (h:=((x::l).map aiq).length) (g:=false) Y Y Y Y Y Y Y Yk (Zb _) (by rw[ZD,List.drop_one,List.tail_cons,Zp Xi]) rfl) (gQa 17 Y))))))))
theorem gOq(hm:TpM ⟨[],true⟩):PS cfg glT 134 [tpW ⟨[],true⟩] (.tup [tpW ⟨[],false⟩,aiq itG,.int .i64 0]):=by
 refine gIv 13 Y (λR a=>?_);refine gC 0 Y (zrq (w':=.int .i64 0) (Qdq ⟨[],true⟩ Xi) Yc) ?_;refine gF 0 Y zN ?_;refine gL 8 Y ?_;refine gF 0 Y (ltI_not.2 Xg) ?_;refine zbq 24 Y ?_;exact y0q Jr rfl (.tup (.cons YFq (.cons (.pur (ygq _)) (.cons (.pur rfl) .nil))))
theorem fxq(hm:TpM ⟨[],false⟩):PS cfg glT 134 [tpW ⟨[],false⟩] (.tup [tpW ⟨[],false⟩,aiq itZ,.int .i64 6]):=by
 refine gIv 13 Y (λR a=>?_);refine gC 0 Y (zrq (w':=.int .i64 0) (Qdq ⟨[],false⟩ Xi) Yc) ?_;refine gF 0 Y zN ?_;refine gL 8 Y ?_;refine gF 0 Y (ltI_not.2 Xg) ?_;refine zbq 25 Y ?_;exact y0q Jr rfl (.tup (.cons YFq (.cons qFq (.cons (.pur rfl) .nil))))
def tpF:Tp->Tp×Itm×Int
 |⟨x::l,b⟩=>(⟨l,b⟩,x,0)
 |⟨[],true⟩=>(⟨[],false⟩,itG,0)
 |⟨[],false⟩=>(⟨[],false⟩,itZ,6)
theorem gMq(t:Tp)(a:TpM t):TpM (tpF t).1/\PS cfg glT 134 [tpW t] (.tup [tpW (tpF t).1,aiq (tpF t).2.1,.int .i64 (tpF t).2.2]):=by
 obtain⟨l,b⟩:=t;cases l with
 |cons x l=>exact⟨gVq a,gNq x l b a⟩
 |nil=>
  cases b with
  |true=>exact⟨cHq _,gOq a⟩
  |false=>exact⟨cHq _,fxq a⟩
section
variable {G:Nat->Option W}
def hbO(n:Int)(b:Nat)(o:Option (List W)):W:=.agg 2 [.int .i64 n,oW b 4 o]
theorem uzq(a:Nat->Nat)(n:Int)(b:Nat)(o:Option (List W)):adq a (hbO n b o)=hbO n (a b) o:=by
 show W.agg 2 [.int .i64 n,adq a (oW b 4 o)]=_;rw[fFq];rfl
theorem dnq{m b:Nat}{n:Int}{o:Option (List W)}(h:b<m):agq m (hbO n b o)=true:=by
 show(true&&(agq m (oW b 4 o)&&true))=true;rw[m1q h];rfl
theorem b0q{n:Int}{b:Nat}{o:Option (List W)}:zGq 50 (hbO n b o) 1 1 false=some (oW b 4 o):=by cases o<;>rfl
theorem Dkq{n:Int}{b c:Nat}{o a:Option (List W)}:z7q 50 (hbO n b o) 1 (oW c 4 a)=some (hbO n c a):=by cases o<;>cases a<;>rfl
theorem s4q{n:Int}{b:Nat}{o:Option (List W)}:z7q 50 (.agg 2 [.int .i64 0,.nils]) 0 (hbO n b o)=some (hbO n b o):=by cases o<;>rfl
theorem dmq(h:Hb)(u:h.subs.length<=1000000000)(y:∀s∈h.subs,s.tap.items.length<=1000000000):zUq cfg G 65 0 [hbW h] [] λw D C=>(∃o:Option (List W),o.getD []=h.subs.map sbW/\w=hbO h.next 2 o/\D=(1,44,hbO h.next 2 o)::oH 2 247 4 o)/\C=3:=by
 obtain⟨n,l⟩:=h;simp only at u y;have j:=jGq l;have m:=ZUq l;have e:(l.map sbW).length=l.length:=Ze _;intro R;refine gIs 10 Y (λE=>?_);skip
 refine gSo 0 Y (yMq Y Y Y Y Y Yd (pqq l false u) ?_);rintro w A z (⟨rfl,rfl,rfl,rfl⟩|⟨rfl,rfl,rfl⟩)
 .skip
  skip
  refine gL 9 Y ?_;refine gLo (α:=Nat) 4 (λi=>i=0) (λi=>[(11,.int .i64 (i:Int))]) [1,2,10] (λi=>0) (0) rfl (rfl) (λi q=>?_);subst q;exact gO 9 Y (zbq 9 Y (fin Jr (p4q (b:=2) (k:=0) (fr2:=[(2,.ptr 1 0)]) (hp2:=[(1,44,hbO n 2 none)]) Xg (Zb _) Xg (by show 0<2;decide) Xi ⟨⟨rfl,rfl⟩,trivial⟩ ⟨⟨by decide,rfl,rfl⟩,trivial⟩ Xi) rfl ⟨rfl,⟨none,rfl,rfl,rfl⟩,rfl⟩))
 .rw[zZq j];refine gL 9 Y ?_;refine gLo (α:=Nat) 4 (λi=>i<=l.length) (λi=>[(11,.int .i64 (i:Int))]) [1,2,10] (λi=>l.length-i) (0) rfl (Zf _) (λi q=>?_);refine gS 6 Y (λB=>?_) (λB=>?_)
  .have f:i<l.length:=by omega
   obtain⟨x,d⟩:∃x,l[i]? =some x:=⟨_,Za f⟩
   exact gP 17 Y (ypq (i:=i) Y Y Y Y Y Y Y f) (gM 1 Y (zwq Y Y Y (cUq d)) (gC 0 Y (gLq x.tap (y x (Zj d))) (gP 0 Y (ypq (i:=i) Y Y Y Y Y Y Y f) (gM 1 Y (kdq Y Y Y Y Y (htq d)) (gA 4 Y (i+1) (gAg 2 Y (i+1) (f) Xd))))))
  .exact gO 2 Y (zbq 9 Y (fin Jr (zvq (nw2:=3) (fr2:=[(2,.ptr 1 0)]) (hp2:=[(1,44,hbO n 2 (some (l.map sbW))),(2,247,.arr ((l.map sbW).length*4) 4 (l.map sbW))]) Xg Xg ⟨rfl,trivial⟩ rfl (zoq ⟨⟨by decide,by show some (_,W.agg 2 [_,W.sl 2 0 0 l.length 4 none])=some (_,W.agg 2 [_,W.sl 2 0 0 (l.map sbW).length 4 none]);rw[e],rfl⟩,⟨by decide,by rw[e];rfl,zaq (show aaq (.arr _ 4 (l.map sbW))=true from m)⟩,trivial⟩) Xi) rfl ⟨rfl,⟨some (l.map sbW),rfl,rfl,rfl⟩,rfl⟩))
end
def hb0:W:=.agg 2 [.int .i64 0,.nils]
def hbr(o:Option Hb):W:=o.elim hb0 hbW
@[simp] theorem vBq(o:Option Hb):aaq (hbr o)=true:=by cases o<;>simp[hbr,hb0,aaq,acq]
theorem uyq(o:Option Hb):∃a b,hbr o= .agg 2 [a,b]:=by cases o<;>exact⟨_,_,rfl⟩
def t5q(o:Option Hb)(e:Int):Prop:=(∃h,o=some h/\HbM h/\e=0)\/(o=none/\e≠0)
open Classical in
/-- a hub's own, by its number -/
def mFq(h:Hb)(id:Int):Option (Nat×Sb):=if q:∃p:Nat×Sb,h.subs[p.1]? =some p.2/\p.2.id=id then some q.choose else none
theorem bgq{h:Hb}{id:Int}(c:∀j s,j<h.subs.length->h.subs[j]? =some s->s.id≠id):mFq h id=none:=dif_neg λ⟨p,a,b⟩=>c p.1 p.2 (yGq a) a b
theorem gYq{h:Hb}{id:Int}{p:Nat×Sb}(e:mFq h id=some p):h.subs[p.1]? =some p.2/\p.2.id=id:=by
 unfold mFq at e;split at e
 .rename_i q;exact ZA e▸q.choose_spec
 .cases e
theorem bfq{h:Hb}(f:HbM h){i:Nat}{s:Sb}(b:h.subs[i]? =some s):mFq h s.id=some (i,s):=by
 have q:∃p:Nat×Sb,h.subs[p.1]? =some p.2/\p.2.id=s.id:=⟨(i,s),b,rfl⟩
 obtain⟨⟨j,t⟩,e⟩:∃p,mFq h s.id=some p:=⟨_,dif_pos q⟩
 obtain⟨c,d⟩:=gYq e;simp only at c d;have p:=f.p.ord;rcases Nat.lt_trichotomy i j with q|rfl|q
 .have:=c0q p q b c;omega
 .rw[e,ZA (b.symm.trans c)]
 .have:=c0q p q c b;omega
def joF(h:Hb)(b a:Int):Option Hb×Int×Int:=if 0<=a/\a<1073741824 then(if (h.subs.length:Int)<b then(if 0<=h.next+1/\h.next+1<1073741824 then(some (iDq h a),h.next,0) else(none,0,9)) else(none,0,9)) else(none,0,2)
def lvF(h:Hb)(id:Int):Option Hb×Int:=(mFq h id).elim (none,2) λp=>(some (bQq h p.1),0)
def poF(h:Hb)(id:Int)(x:Itm):Option Hb×Itm×Int:=(mFq h id).elim (none,x,2) λp=>if (tpF p.2.tap).2.2=0 then(some (hYq h p.1 p.2 (tpF p.2.tap).1),(tpF p.2.tap).2.1,0) else(none,(tpF p.2.tap).2)
theorem iEq{h:Hb}(f:HbM h){most beg:Int}(g:most<=16):t5q (joF h most beg).1 (joF h most beg).2.2:=by
 unfold joF;split
 .rename_i d;split
  .rename_i j;split
   .rename_i b;exact .inl ⟨_,rfl,iBq f d b Xd,rfl⟩
   .exact .inr ⟨rfl,by decide⟩
  .exact .inr ⟨rfl,by decide⟩
 .exact .inr ⟨rfl,by decide⟩
theorem ipq{h:Hb}(a:HbM h)(id:Int):t5q (lvF h id).1 (lvF h id).2:=by
 unfold lvF;cases mFq h id with
 |none=>exact .inr ⟨rfl,show(2:Int)≠0 by decide⟩
 |some p=>exact .inl ⟨_,rfl,fNq a,rfl⟩
theorem hZq{h:Hb}(hM:HbM h)(id:Int)(x:Itm):t5q (poF h id x).1 (poF h id x).2.2:=by
 unfold poF;cases e:mFq h id with
 |none=>exact .inr ⟨rfl,show(2:Int)≠0 by decide⟩
 |some p=>
  show t5q (ite _ _ _:Option Hb×Itm×Int).1 (ite _ _ _:Option Hb×Itm×Int).2.2;have hs:=(gYq e).1;split
  .exact .inl ⟨_,rfl,hXq hM hs (gMq p.2.tap (hM.p.each p.2 (Zj hs)).2.2).1,rfl⟩
  .rename_i q;exact .inr ⟨rfl,q⟩
theorem D4q{b n o:Nat}(h:b<n):agq n (.ptr b o)=true:=by simp[agq,h]
theorem eMq(h:Hb)(E:HbM h)(G:∀s∈h.subs,s.tap.items.length<=1000000000)(j f:Int)(T:1<=j)(U:j<=16):PE cfg glT 72 [hbW h,.int .i64 j,.int .i64 f] (λw=>w= .tup [hbr (joF h j f).1,.int .i64 (joF h j f).2.1,.int .i64 (joF h j f).2.2]):=by
 have e:(h.subs.map sbW).length=h.subs.length:=Ze _;have K:=E.1.2;have V:=E.1.1;have v:=zrq (w':=.int .i64 0) (K1q h Xd (λs M=>by have:=G s M;omega)) (by rw[Zl E]);by_cases x:0<=f/\f<1073741824
 .by_cases C:(h.subs.length:Int)<j
  .by_cases A:0<=h.next+1/\h.next+1<1073741824
   .skip
    refine gIe 13 Y (λR F=>?_);refine gC 0 Y (v) ?_;refine gF 0 Y zN ?_;refine gF 7 Y (ltI_not.2 Xd) ?_;refine gF 2 Y (ltI_not.2 Xd) ?_;refine gC 3 Y (zrq (w':=.bool true) (ucq f) (by rw[Zq (x)])) ?_;refine gZ 10 Y e ?_;refine gF 1 Y (Zc not (ltI_iff.2 Xd)) ?_;refine gWr 3 Y ?_;refine gC 0 Y (zrq (w':=.bool true) (ucq (h.next+1)) (by rw[Zq (A)])) ?_;refine zbq 12 Y ?_
    (refine zhq rfl (yXq (yMq Y Y Y Y Y Yd (dmq h Xd G) ?_));rintro w L J ⟨⟨o,ho,rfl,rfl⟩,rfl⟩;have hpb:acq (o.getD [])=true:=(by rw[ho];exact ZUq _);rw[uzq,show ahq (afq [] 2) ((1,44,hbO h.next 2 o)::oH 2 247 4 o)=[(3,44,hbO h.next 4 o)]++oH 4 247 4 o from Jq,show afq [] 2 2=4 from rfl];refine⟨_,kqq (n:=2) (xXq (l:=[1,0]) rfl Xg) Xi (λp Q=>by rw[qNq p Q];simp),q0q (ycq (l:=[1,0]) rfl Xg) (show [1,0].Nodup by decide),?_⟩)
    refine kjq rfl (qmq Y Y Y Y Y s4q rfl) ?_;refine zeq 5 Y ?_;refine gM 0 Y (zwq Y Y Y b0q) ?_;refine zbq 5 Y ?_
    (refine jxq (λ_=>jYq (b:=5) (w':=sbW ⟨h.next,f,⟨[],false⟩⟩) rfl (.agg (vR (vR (.cons YFq .nil))))) ?_;have S:(o.getD []).length<=16:=(by rw[ho,e];exact K);refine zhq rfl (g6q (b:=4) (news:=[sbW ⟨h.next,f,⟨[],false⟩⟩]) (k:=rLq) (e:=4) Y Y Y Y Y Y Y Y (j3q Y Y Y Y) (by show((o.getD []).length+1)*48<=_;omega) (by show(o.getD []).length+1<=_;omega) (zSq Xg (zSq Xg (zSq Xg k5q))) Xg ?_);intro c O B q)
    (obtain rfl:c=6:=(by rcases q.num with ⟨h,_⟩|⟨_,h⟩;cases h;exact h);have H:=q.lt;have z:acq ((oA o [sbW ⟨h.next,f,⟨[],false⟩⟩]).getD [])=true:=(by rw[pCq,qsq,hpb];simp[acq]);refine jxq (λ_=>zvq (nw2:=B) (fr2:=[(3,.ptr 0 0),(6,.ptr 1 0),(50,oW 6 4 (oA o [sbW ⟨h.next,f,⟨[],false⟩⟩]))]) (hp2:=(1,44,hbO h.next 4 o)::(0,44,hbW h)::oH 6 247 4 (oA o [sbW ⟨h.next,f,⟨[],false⟩⟩])) (Zf _) (Zb _) ⟨rfl,rfl,rfl,trivial⟩ (koq ⟨D4q Xd,D4q Xd,m1q H,trivial⟩) (zoq ⟨⟨by omega,q.old 1 _ Xg Xg rfl,dnq Xd⟩,⟨by omega,q.old 0 _ Xg Xg rfl,zaq (xeq h)⟩,bhq H z q.is⟩) (q0q (P:=[(1,44,hbO h.next 4 o),(0,44,hbW h)]) (ycq (l:=[1,0]) rfl Xg) (show [1,0].Nodup by decide))) ?_;refine z5q Y Y ?_)
    refine kjq rfl (qmq Y Y Y Y Y Dkq rfl) ?_;refine zeq 6 Y ?_;refine gWr 0 Y ?_;refine zbq 15 Y ?_;have I:=Qbq (e:=4) Xg z (show oIn ([(1,44,hbO (h.next+1) 6 (oA o [sbW ⟨h.next,f,⟨[],false⟩⟩])),(0,44,hbW h)]++oH 6 247 4 (oA o [sbW ⟨h.next,f,⟨[],false⟩⟩])) 6 247 4 (oA o [sbW ⟨h.next,f,⟨[],false⟩⟩]) from qhq (ycq (l:=[1,0]) rfl Xg));rw[pCq,ho,show h.subs.map sbW++[sbW ⟨h.next,f,⟨[],false⟩⟩]=(iDq h f).subs.map sbW from by rw[iDq,Z4];rfl] at I;exact ybq (w':=.tup [hbW (iDq h f),.int .i64 h.next,.int .i64 0]) Jr rfl (.tup (.cons (.agg (vR (.cons I .nil))) (vR (.cons (.pur rfl) .nil)))) Yz (by rw[joF,Zl x,Zl C,Zl A];rfl)
   .skip
    refine gIe 13 Y (λR F=>?_);refine gC 0 Y (v) ?_;refine gF 0 Y zN ?_;refine gF 7 Y (ltI_not.2 Xd) ?_;refine gF 2 Y (ltI_not.2 Xd) ?_;refine gC 3 Y (zrq (w':=.bool true) (ucq f) (by rw[Zq (x)])) ?_;refine gZ 10 Y e ?_;refine gF 1 Y (Zc not (ltI_iff.2 Xd)) ?_;refine gWr 3 Y ?_;refine gC 0 Y (zrq (w':=.bool false) (ucq (h.next+1)) (by rw[Zw (A)])) ?_;refine zbq 17 Y ?_;exact ybq (w':=.tup [hb0,.int .i64 0,.int .i64 9]) Jr rfl (.pur rfl) rfl (by rw[joF,Zl x,Zl C,Zg A];rfl)
  .skip
   refine gIe 13 Y (λR F=>?_);refine gC 0 Y (v) ?_;refine gF 0 Y zN ?_;refine gF 7 Y (ltI_not.2 Xd) ?_;refine gF 2 Y (ltI_not.2 Xd) ?_;refine gC 3 Y (zrq (w':=.bool true) (ucq f) (by rw[Zq (x)])) ?_;refine gZ 10 Y e ?_;refine gT 1 Y (Zc not (ltI_not.2 Xd)) ?_;refine zbq 22 Y ?_;exact ybq (w':=.tup [hb0,.int .i64 0,.int .i64 9]) Jr rfl (.pur rfl) rfl (by rw[joF,Zl x,Zg C];rfl)
 .skip
  refine gIe 13 Y (λR F=>?_);refine gC 0 Y (v) ?_;refine gF 0 Y zN ?_;refine gF 7 Y (ltI_not.2 Xd) ?_;refine gF 2 Y (ltI_not.2 Xd) ?_;refine gC 3 Y (zrq (w':=.bool false) (ucq f) (by rw[Zw (x)])) ?_;refine zbq 17 Y ?_;exact ybq (w':=.tup [hb0,.int .i64 0,.int .i64 2]) Jr rfl (.pur rfl) rfl (by rw[joF,Zg x];rfl)
theorem Bmq{G:Nat->Option W}:cfg.known 136=some (dDq 247 4):=by kernel_rfl
theorem nQq{G:Nat->Option W}(n:Int)(L:List W)(f:acq L=true)(i:Nat)(k:i<L.length)(o:L.length<=1000):zUq cfg G 135 2 [.ptr 0 0,.int .i64 (i:Int)] [(0,44,hbO n 1 (some L)),(1,247,.arr (L.length*4) 4 L)] λw f m=>w= .int .i64 0/\f=[(0,44,hbO n 2 (some (L.take i++L.drop (i+1)))),(2,247,.arr ((L.take i++L.drop (i+1)).length*4) 4 (L.take i++L.drop (i+1)))]/\m=3:=by
 intro R;refine gIs 14 Y (λs=>?_);refine gA 0 Y (i+1) ?_
 (refine zhq rfl (bkq (L:=L) (i:=i) (b:=1) (Bmq (G:=G)) Y Y Y Y Y Y f Xg k Xd [(0,44,hbO n 1 (some L))] (λc u d=>by rw[zfq] at d;split at d;(rename_i q;subst q;cases d;exact⟨by decide,rfl⟩);simp[hget] at d) Xi Xi ?_);rintro _ rfl)
 refine zeq 2 Y (gM 0 Y (qmq Y Y Y Y Y (show _=some (hbO n 2 (some (L.take i++L.drop (i+1)))) from rfl) rfl) (zbq 8 Y ?_));have j:aaq (.arr ((L.take i++L.drop (i+1)).length*4) 4 (L.take i++L.drop (i+1)))=true:=Xfq f;exact fin Jr (zvq (nw2:=3) (fr2:=[(4,.int .i64 0)]) (hp2:=[(0,44,hbO n 2 (some (L.take i++L.drop (i+1)))),(2,247,.arr ((L.take i++L.drop (i+1)).length*4) 4 (L.take i++L.drop (i+1)))]) Xg Xg ⟨rfl,trivial⟩ rfl (zoq ⟨⟨by decide,rfl,dnq Xg⟩,⟨by decide,rfl,zaq j⟩,trivial⟩) Xi) rfl ⟨rfl,rfl,rfl,rfl⟩
theorem r0q{l:List Sb}{i:Nat}{x:Sb}(h:l[i]? =some x)(t:Tp):z7q 50 (sbA l) (0+i*4+2) (tpW t)=some (sbA (l.set i ⟨x.id,x.beg,t⟩)):=by
 have a:=ziq sbW h;rw[sbA,v5q (x':=sbW ⟨x.id,x.beg,t⟩) a Xd Xd huq rfl,sbA,List.map_set,YI]
def hsW(n:Int)(b:Nat)(l:List Sb):W:=.agg 2 [.int .i64 n,.sl b 0 0 l.length 4 none]
theorem sqq(n:Int)(l:List Sb)(i:Nat)(x:Sb)(d:l[i]? =some x)(h c:Itm)(a:Tp)(e:Int)(f:PS cfg glT 134 [tpW x.tap] (.tup [tpW a,aiq c,.int .i64 e])):zUq cfg glT 133 3 [.ptr 0 0,.int .i64 (i:Int),.ptr 2 0] [(0,44,hsW n 1 l),(1,247,sbA l),(2,79,aiq h)] λw f j=>w= .int .i64 e/\f=[(0,44,hsW n 1 (l.set i ⟨x.id,x.beg,a⟩)),(1,247,sbA (l.set i ⟨x.id,x.beg,a⟩)),(2,79,aiq c)]/\j=3:=by
 have b:=yGq d;have g:aaq (.tup [tpW a,aiq c,.int .i64 e])=true:=by simp[aaq,acq]
 intro R;refine gIs 17 Y (λk=>?_);exact gP 0 Y (ypq (i:=i) Y Y Y Y Y Y Y b) (gM 1 Y (zwq Y Y Y (cUq d)) (gC 0 Y (f) (gP 4 Y (ypq (i:=i) Y Y Y Y Y Y Y b) (gM 1 Y (qmq Y Y Y Y Y (r0q d a) rfl) (zbq 11 Y (fin Jr (zvq (nw2:=3) (fr2:=[(5,.int .i64 e)]) (hp2:=[(0,44,hsW n 1 (l.set i ⟨x.id,x.beg,a⟩)),(1,247,sbA (l.set i ⟨x.id,x.beg,a⟩)),(2,79,aiq c)]) Xg Xg ⟨rfl,trivial⟩ rfl (zoq ⟨⟨by decide,by unfold hsW;rw[YI];rfl,rfl⟩,⟨by decide,rfl,zaq (jGq _)⟩,⟨by decide,rfl,zaq (ygq _)⟩,trivial⟩) Xi) rfl ⟨rfl,rfl,rfl,rfl⟩))))))
theorem hqq{h:Hb}{o:Option (List W)}(a:o.getD []=h.subs.map sbW):(o.getD []).length=h.subs.length:=by rw[a];exact Ze _
theorem lOq{L:List W}{i:Nat}{s:Sb}(h:L[i]? =some (sbW s)):zGq 50 (.arr (L.length*4) 4 L) (0+i*4+0) 1 false=some (.int .i64 s.id):=klq h Xd Xd Xi rfl
section
variable (h:Hb) (hM:HbM h) (hx:∀s∈h.subs,s.tap.items.length<=1000000000) (id:Int)
include hM hx
theorem rHq:PE cfg glT 132 [hbW h,.int .i64 id,.fn 135 [] []] (λw=>w= .tup [hbr (lvF h id).1,.int .i64 (lvF h id).2]):=by
 have e:(h.subs.map sbW).length=h.subs.length:=Ze _;have Q:=hM.1.2;have H:=zrq (w':=.int .i64 0) (K1q h Xd (λs C=>by have:=hx s C;omega)) (by rw[Zl hM]);refine gIe 7 Y (λR S=>Zyq 3 (zCq 4 Y (gC 0 Y (H) (gF 6 Y zN (zbq 8 Y ?_)))))
 (refine zhq rfl (yXq (yMq Y Y Y Y Y Yd (dmq h Xd hx) ?_));rintro w G F ⟨⟨o,A,rfl,rfl⟩,rfl⟩;have hpb:acq (o.getD [])=true:=(by rw[A];exact ZUq _);rw[uzq,show ahq (afq [] 2) ((1,44,hbO h.next 2 o)::oH 2 247 4 o)=[(3,44,hbO h.next 4 o)]++oH 4 247 4 o from Jq,show afq [] 2 2=4 from rfl];refine⟨_,kqq (n:=2) (xXq (l:=[1,0]) rfl Xg) Xi (λp P=>by rw[qNq p P];simp),q0q (ycq (l:=[1,0]) rfl Xg) (show [1,0].Nodup by decide),?_⟩;have O:=hqq A)
 refine kjq Y Y (kjq rfl (qmq Y Y Y Y Y s4q rfl) ?_);refine zeq 10 Y (gM 0 Y (zwq Y Y Y b0q) ?_);refine gP 0 Y ((show _=some (W.int .i64 (((o.getD []).length:Nat):Int)) from by cases o<;>rfl)) ?_;refine gLo (α:=Nat) 4 (λi=>i<=(o.getD []).length/\∀j s,j<i->h.subs[j]? =some s->s.id≠id) (λi=>[(24,.int .i64 (i:Int))]) [1,2,6,7,9,10,23] (λi=>(o.getD []).length-i) (0) rfl (⟨Zf _,λj s q=>by omega⟩) (λi I=>?_);obtain⟨I,D⟩:=I;refine gS 6 Y (λM=>?_) (λM=>?_)
 .have y:i<(o.getD []).length:=by omega
  obtain⟨L,rfl⟩:∃L,o=some L:=by
   cases o with
   |none=>exact absurd y Xi
   |some L=>exact⟨L,rfl⟩
  have A:L=h.subs.map sbW:=A;have y:i<L.length:=y;obtain⟨s,C⟩:∃s,h.subs[i]? =some s:=⟨_,Za (by rw[A,e] at y;exact y)⟩
  have E:L[i]? =some (sbW s):=by rw[A];exact ziq sbW C
  have k:acq L=true:=hpb;skip
  by_cases z:s.id=id
  .refine gM 13 Y (zwq Y Y Y b0q) (gP 1 Y (ypq (i:=i) Y Y Y Y Y Y Y y) (gM 1 Y (zwq Y Y Y (lOq E)) (gT 1 Y (eqI_iff.2 (z)) (gO 12 Y (gF 6 Y (ltI_not.2 Xd) (zbq 10 Y ?_))))))
   (refine zhq rfl (zDq (ext:=[5,4]) (ws:=[.ptr 0 0,.int .i64 (i:Int)]) (hp0:=[(0,44,hbO h.next 1 (some L)),(1,247,.arr (L.length*4) 4 L)]) Y Y Y Y Y (nQq h.next L k i y (by rw[A,e];omega)) Xg Xl Xi (jjq ⟨⟨by decide,dnq Xg,5,rfl,by rw[uzq];rfl⟩,⟨by decide,zaq (show aaq (.arr _ 4 L)=true from k),4,rfl,by rw[zdq (show aaq (.arr _ 4 L)=true from k)];rfl⟩,trivial⟩) Y ?_);rintro w G F ⟨rfl,rfl,rfl⟩;have B:aaq (.arr ((L.take i++L.drop (i+1)).length*4) 4 (L.take i++L.drop (i+1)))=true:=Xfq k;rw[show ahq (afq [5,4] 6) [(0,44,hbO h.next 2 (some (L.take i++L.drop (i+1)))),(2,247,.arr ((L.take i++L.drop (i+1)).length*4) 4 (L.take i++L.drop (i+1)))]=[(5,44,hbO h.next 6 (some (L.take i++L.drop (i+1)))),(6,247,.arr ((L.take i++L.drop (i+1)).length*4) 4 (L.take i++L.drop (i+1)))] from(by rw[ahq,ahq,uzq,zdq B];rfl)])
   refine zeq 6 Y (gF 0 Y zN (zbq 13 Y (jsq Ye ?_)));refine ybq (w':=.tup [hbW (bQq h i),.int .i64 0]) Jr rfl (.tup (.cons (.agg (vR (.cons ?_ .nil))) (.cons (.pur (w:=.int .i64 0) rfl) .nil))) Yz (by subst z;rw[lvF,bfq hM C];rfl);rw[show(bQq h i).subs.map sbW=L.take i++L.drop (i+1) from by rw[bQq,Z4,List.map_take,List.map_drop,A]];exact .sl (full:=false) (c:=.arr ((L.take i++L.drop (i+1)).length*4) 4 (L.take i++L.drop (i+1))) rfl B (zqq Xg Y Y) Xj
  .exact gM 13 Y (zwq Y Y Y b0q) (gP 1 Y (ypq (i:=i) Y Y Y Y Y Y Y y) (gM 1 Y (zwq Y Y Y (lOq E)) (gF 1 Y (eqI_not.2 (z)) (gA 7 Y (i+1) (gAg 2 Y (i+1) (⟨y,λj t K J=>by rcases ZC.1 K with q|rfl;exact D j t q J;exact ZA (C.symm.trans J)▸z⟩) Xd)))))
 .exact gO 2 Y (gT 6 Y (ltI_iff.2 Xg) (zbq 12 Y (jsq Ye (ybq (w':=.tup [hb0,.int .i64 2]) Jr rfl (.pur rfl) rfl (by rw[lvF,bgq λj s K=>D j s Xd];rfl)))))
theorem eKq:PE cfg glT 75 [hbW h,.int .i64 id] (λw=>w= .tup [hbr (lvF h id).1,.int .i64 (lvF h id).2]):=by
 have e:=rHq h hM hx id;refine gIe 11 Y (λR f=>?_);skip
 refine gSo 0 Y (qfq Y Y Y Y Y e Qz ?_);rintro w c rfl;skip
 obtain⟨a,b,d⟩:=uyq (lvF h id).1;rw[d] at c⊢;exact zbq 7 Y (ybq Jr rfl (.pur c) c rfl)
include hM hx
theorem rGq(y:Itm):zUq cfg glT 132 1 [hbW h,.int .i64 id,.fn 133 [] [.ptr 0 0]] [(0,79,aiq y)] (λw M Z=>w= .tup [hbr (poF h id y).1,.int .i64 (poF h id y).2.2]/\M=[(2,44,hbr (poF h id y).1),(0,79,aiq (poF h id y).2.1)]/\Z=3):=by
 have e:(h.subs.map sbW).length=h.subs.length:=Ze _;have hl:=hM.1.2;have J:=zrq (w':=.int .i64 0) (K1q h Xd (λs E=>by have:=hx s E;omega)) (by rw[Zl hM]);intro R;refine gIs 7 Y (λk0=>?_);refine Zyq 3 (zCq 4 Y (gC 0 Y (J) (gF 6 Y zN (zbq 8 Y ?_))))
 (refine zhq rfl (yXq (yMq Y Y Y Y Y Yd (dmq h Xd hx) ?_));rintro w A H ⟨⟨o,ho,rfl,rfl⟩,rfl⟩;have hpb:acq (o.getD [])=true:=(by rw[ho];exact ZUq _);rw[uzq,show ahq (afq [] 3) ((1,44,hbO h.next 2 o)::oH 2 247 4 o)=[(4,44,hbO h.next 5 o)]++oH 5 247 4 o from Jq,show afq [] 3 2=5 from rfl];refine⟨_,kqq (n:=3) (xXq (l:=[2,1,0]) rfl Xg) Xi (λp M=>by rw[qNq p M];simp),q0q (ycq (l:=[2,1,0]) rfl Xg) (show [2,1,0].Nodup by decide),?_⟩;have X:=hqq ho)
 refine kjq Y Y (kjq rfl (qmq Y Y Y Y Y s4q rfl) ?_);refine zeq 10 Y (gM 0 Y (zwq Y Y Y b0q) ?_);refine gP 0 Y ((show _=some (W.int .i64 (((o.getD []).length:Nat):Int)) from by cases o<;>rfl)) ?_;refine gLo (α:=Nat) 4 (λi=>i<=(o.getD []).length/\∀j s,j<i->h.subs[j]? =some s->s.id≠id) (λi=>[(24,.int .i64 (i:Int))]) [1,2,6,7,9,10,23] (λi=>(o.getD []).length-i) (0) rfl (⟨Zf _,λj s q=>by omega⟩) (λi T=>?_);obtain⟨T,G⟩:=T;refine gS 6 Y (λV=>?_) (λV=>?_)
 .have B:i<(o.getD []).length:=by omega
  obtain rfl:o=some (h.subs.map sbW):=by
   cases o with
   |none=>exact absurd B Xi
   |some L=>exact Zc some ho
  have B:i<(h.subs.map sbW).length:=B;obtain⟨s,E⟩:∃s,h.subs[i]? =some s:=⟨_,Za (by rw[e] at B;exact B)⟩
  have C:=ziq sbW E;skip
  by_cases z:s.id=id
  .obtain⟨I,D⟩:=gMq s.tap (hM.p.each s (Zj E)).2.2;have S:=bfq hM E;rw[z] at S;obtain⟨k,m,F,Q⟩:∃k m F,tpF s.tap=(k,m,F):=⟨_,_,_,rfl⟩
   rw[Q] at I D;simp only at I D;have A:=sqq h.next h.subs i s E y m k F D;by_cases P:F=0
   .subst P;have O:poF h id y=(some (hYq h i s k),m,0):=by rw[poF,S,Option.elim_some,Q];rfl
    rw[O];refine gM 13 Y (zwq Y Y Y b0q) (gP 1 Y (ypq (i:=i) Y Y Y Y Y Y Y B) (gM 1 Y (zwq Y Y Y (lOq C)) (gT 1 Y (eqI_iff.2 (z)) (gO 12 Y (gF 6 Y (ltI_not.2 Xd) (zbq 10 Y ?_))))))
    (refine zhq rfl (zDq (ext:=[6,5,0]) (ws:=[.ptr 0 0,.int .i64 (i:Int),.ptr 2 0]) (hp0:=[(0,44,hsW h.next 1 h.subs),(1,247,sbA h.subs),(2,79,aiq y)]) Y Y Y Y Y A Xg Xl Xi (jjq ⟨⟨by decide,rfl,6,rfl,by show some (_,W.agg 2 [_,W.sl 5 0 0 (h.subs.map sbW).length 4 none])=some (_,W.agg 2 [_,W.sl 5 0 0 h.subs.length 4 none]);rw[e];rfl⟩,⟨by decide,zaq (jGq _),5,rfl,by rw[zdq (jGq _),sbA,<-e];rfl⟩,⟨by decide,zaq (ygq _),0,rfl,by rw[zdq (ygq _)];rfl⟩,trivial⟩) Y ?_);rintro w A H ⟨rfl,rfl,rfl⟩;rw[show ahq (afq [6,5,0] 7) [(0,44,hsW h.next 1 (h.subs.set i ⟨s.id,s.beg,k⟩)),(1,247,sbA (h.subs.set i ⟨s.id,s.beg,k⟩)),(2,79,aiq m)]=[(6,44,hsW h.next 5 (h.subs.set i ⟨s.id,s.beg,k⟩)),(5,247,sbA (h.subs.set i ⟨s.id,s.beg,k⟩)),(0,79,aiq m)] from(by rw[ahq,xpq (jGq _) (ygq _)];rfl)])
    exact zeq 6 Y (gF 0 Y zN (zbq 13 Y (jsq Ye (fin Jr ((Z8q 5 [(6,.ptr 2 0),(7,.int .i64 0)] [(2,44,hbW (hYq h i s k)),(0,79,aiq m)] rfl (jGq (h.subs.set i ⟨s.id,s.beg,k⟩)) Xg ⟨⟨_,rfl,.ptrK rfl⟩,⟨_,rfl,.pur rfl⟩,trivial⟩ ⟨⟨by decide,_,rfl,.agg (vR (.cons (.sl (full:=false) (c:=sbA (h.subs.set i ⟨s.id,s.beg,k⟩)) rfl (jGq _) (zqq Xg Xi rfl) Xj) .nil))⟩,⟨by decide,_,rfl,.pur (ygq m)⟩,trivial⟩ Xi).trans (zvq (nw2:=3) (fr2:=[(6,.ptr 2 0),(7,.int .i64 0)]) (hp2:=[(2,44,hbW (hYq h i s k)),(0,79,aiq m)]) Xg Xg ⟨rfl,rfl,trivial⟩ rfl (zoq ⟨⟨by decide,rfl,zaq (xeq _)⟩,⟨by decide,rfl,zaq (ygq _)⟩,trivial⟩) Xi)) rfl ⟨rfl,rfl,rfl,rfl⟩))))
   .have O:poF h id y=(none,m,F):=by rw[poF,S,Option.elim_some,Q];exact Zg P
    rw[O];refine gM 13 Y (zwq Y Y Y b0q) (gP 1 Y (ypq (i:=i) Y Y Y Y Y Y Y B) (gM 1 Y (zwq Y Y Y (lOq C)) (gT 1 Y (eqI_iff.2 (z)) (gO 12 Y (gF 6 Y (ltI_not.2 Xd) (zbq 10 Y ?_))))))
    (refine zhq rfl (zDq (ext:=[6,5,0]) (ws:=[.ptr 0 0,.int .i64 (i:Int),.ptr 2 0]) (hp0:=[(0,44,hsW h.next 1 h.subs),(1,247,sbA h.subs),(2,79,aiq y)]) Y Y Y Y Y A Xg Xl Xi (jjq ⟨⟨by decide,rfl,6,rfl,by show some (_,W.agg 2 [_,W.sl 5 0 0 (h.subs.map sbW).length 4 none])=some (_,W.agg 2 [_,W.sl 5 0 0 h.subs.length 4 none]);rw[e];rfl⟩,⟨by decide,zaq (jGq _),5,rfl,by rw[zdq (jGq _),sbA,<-e];rfl⟩,⟨by decide,zaq (ygq _),0,rfl,by rw[zdq (ygq _)];rfl⟩,trivial⟩) Y ?_);rintro w A H ⟨rfl,rfl,rfl⟩;rw[show ahq (afq [6,5,0] 7) [(0,44,hsW h.next 1 (h.subs.set i ⟨s.id,s.beg,k⟩)),(1,247,sbA (h.subs.set i ⟨s.id,s.beg,k⟩)),(2,79,aiq m)]=[(6,44,hsW h.next 5 (h.subs.set i ⟨s.id,s.beg,k⟩)),(5,247,sbA (h.subs.set i ⟨s.id,s.beg,k⟩)),(0,79,aiq m)] from(by rw[ahq,xpq (jGq _) (ygq _)];rfl)])
    exact zeq 6 Y (gT 0 Y (Zc not (eqI_not.2 (P))) (zbq 13 Y (jsq Ye (fin Jr (zvq (nw2:=3) (fr2:=[(6,.ptr 2 0),(7,.int .i64 F)]) (hp2:=[(2,44,hb0),(0,79,aiq m)]) Xg Xg ⟨rfl,rfl,trivial⟩ rfl (zoq ⟨⟨by decide,rfl,rfl⟩,⟨by decide,rfl,zaq (ygq _)⟩,trivial⟩) Xi) rfl ⟨rfl,rfl,rfl,rfl⟩))))
  .exact gM 13 Y (zwq Y Y Y b0q) (gP 1 Y (ypq (i:=i) Y Y Y Y Y Y Y B) (gM 1 Y (zwq Y Y Y (lOq C)) (gF 1 Y (eqI_not.2 (z)) (gA 7 Y (i+1) (gAg 2 Y (i+1) (⟨B,λj t U I=>by rcases ZC.1 U with q|rfl;exact G j t q I;exact ZA (E.symm.trans I)▸z⟩) Xd)))))
 .rw[show poF h id y=(none,y,2) from by rw[poF,bgq λj s U=>G j s Xd];rfl];exact gO 2 Y (gT 6 Y (ltI_iff.2 Xg) (zbq 12 Y (jsq Ye (fin Jr (zvq (nw2:=3) (fr2:=[(6,.ptr 2 0),(7,.int .i64 2)]) (hp2:=[(2,44,hb0),(0,79,aiq y)]) Xg Xg ⟨rfl,rfl,trivial⟩ rfl (zoq ⟨⟨by decide,rfl,rfl⟩,⟨by decide,rfl,zaq (ygq _)⟩,trivial⟩) Xi) rfl ⟨rfl,rfl,rfl,rfl⟩))))
theorem iJq:PE cfg glT 74 [hbW h,.int .i64 id] (λw=>w= .tup [hbr (poF h id itZ).1,aiq (poF h id itZ).2.1,.int .i64 (poF h id itZ).2.2]):=by
 have k:=rGq h hM hx id itZ;refine gIe 10 Y (λR m=>?_)
 (refine jxq (λ_=>jYq (b:=2) (w':=aiq itZ) rfl qFq) ?_;refine kjq Y Y ?_)
 refine zeq 2 Y ?_;skip
 refine gSo 0 Y (zDq (ext:=[2]) (ws:=[hbW h,.int .i64 id,.fn 133 [] [.ptr 0 0]]) (hp0:=[(0,79,aiq itZ)]) Y Y Y Y (by rw[yVq,yVq,yVq,zdq (xeq h)];rfl) k Xg Xl Xi (yYq (by rw[zdq (ygq _)];rfl) (zaq (ygq _))) (by show(agq 1 (hbW h)&&(true&&(_&&true)))=true;rw[zaq (xeq h)];rfl) ?_);rintro w l e ⟨rfl,rfl,rfl⟩;generalize poF h id itZ=z;obtain⟨o,x,d⟩:=z;simp only;have c:=vBq o;rw[xpq c (ygq x),zdq (show aaq (.tup [hbr o,.int .i64 d])=true by simp[aaq,acq,c])];skip
 obtain⟨a,b,j⟩:=uyq o;rw[j] at c⊢;exact zbq 18 Y (ybq Jr rfl (.pur (show aaq (.tup [.agg 2 [a,b],aiq x,.int .i64 d])=true by show(aaq (.agg 2 [a,b])&&(aaq (aiq x)&&(true&&true)))=true;rw[c,ygq];rfl)) (by show(aaq (.agg 2 [a,b])&&(aaq (aiq x)&&(true&&true)))=true;rw[c,ygq];rfl) rfl)
end
end
def Ypq:Code->Option (Tmp×FuncId×List Operand)
 |.region _ b false=>match b.toList with
  |[⟨some t,.makeFunc (.func g) first caps,_,_,_,none⟩,⟨none,.defer ⟨.value (.tmp u),args,_⟩,_,_,_,none⟩]=>match Nat.beq t u,first.toList,args.toList with
   |true,[],[]=>some (t,g,caps.toList)
   |_,_,_=>none
  |_=>none
 |_=>none
theorem dCq{c:Code}{t:Tmp}{g:FuncId}{w:List Operand}(h:Ypq c=some (t,g,w)):∃id q E B b j D C,c= .region id #[⟨some t,.makeFunc (.func g) #[] w.toArray,q,E,B,none⟩,⟨none,.defer ⟨.value (.tmp t), #[],b⟩,j,D,C,none⟩] false:=by
 unfold Ypq at h;split at h
 .rename_i id H;split at h
  .rename_i J K first y q E B u A b j D C z;split at h
   .rename_i x G I;cases h;have x:=Zi x;subst x;have G:first= #[]:=by apply YC.1;simpa using G
    have I:A= #[]:=by apply YC.1;simpa using I
    subst G;subst I
    refine⟨id,q,E,B,b,j,D,C,?_⟩
    have:H= #[⟨some t,.makeFunc (.func g) #[] y,q,E,B,none⟩,⟨none,.defer ⟨.value (.tmp t), #[],b⟩,j,D,C,none⟩]:=by
     apply YC.1;simpa using z
    rw[this]
   .cases h
  .cases h
 .cases h
def fJq(S:Self)(F:Flow)(C:Cfg):Code->St->Option ((Exit×St)×Option (FuncId×List V))
 |.seq x y,st=>match Ypq x with
  |some (t,g,caps)=>match st.ds,evL C st.fr caps with
   |[],some vs=>match zgq S F C y ⟨aBq st.fr (some t) (.fn g [] vs),st.h,[],st.rd⟩ with
    |some r=>some (r,some (g,vs))
    |none=>none
   |_,_=>none
  |none=>match zgq S F C x st with
   |some (.normal,st')=>fJq S F C y st'
   |some r=>some (r,none)
   |none=>none
 |c,st=>match zgq S F C c st with
  |some r=>some (r,none)
  |none=>none
def Xjq(N:Nat):Code->Bool
 |.seq x y=>match Ypq x with
  |some (t,_,_)=>Nat.blt t N&&yQq N y
  |none=>yQq N x&&Xjq N y
 |c=>yQq N c
def dTl(b:Env):Option (FuncId×List V) ->List Deferred
 |none=>[]
 |some (g,vs)=>[{target:=.fn (.func g) (zPq b vs).toArray,args:= #[]}]
def dIn(D:Nat->Nat->Prop):Option (FuncId×List V) ->Prop
 |none=>True
 |some (_,vs)=>InDL D vs
def scq(C:Cfg)(b:Func)(c:Tr V)(h:Heap):Option (V×Heap):=match puq C c h b.results.toList with
 |some [v]=>some (v,h)
 |some a=>some (.tup a,h)
 |none=>none
def dGq(C:Cfg)(n:Nat)(g:FuncId)(c:List V)(h:Heap):Option Heap:=match C.fn g with
 |some b=>match b.body,b.results.toList,Nat.ble c.length b.ntmps with
  |some cg,[],true=>match zgq ⟨y9q C n,zQq C n⟩ ⟨yhq C n,zVq C n⟩ C cg ⟨uMq 0 c .nil,h,[],false⟩ with
   |some (.normal,s2)=>match s2.ds with
    |[]=>some s2.h
    |_=>none
   |some (.ret,s2)=>match s2.ds with
    |[]=>some s2.h
    |_=>none
   |_=>none
  |_,_,_=>none
 |none=>none
def mfq(C:Cfg)(n:Nat)(b:Func)(a:St):Option (FuncId×List V) ->Option (V×Heap)
 |none=>duq C b a
 |some (g,ws)=>match qZq a.ds a.h with
  |some d=>match dGq C n g ws d with
   |some c=>scq C b a.fr c
   |none=>none
  |none=>none
def gjq(C:Cfg)(n:Nat)(b:Func)(c:Code)(f:List V)(h:Heap):Option (V×Heap):=match Nat.ble f.length b.ntmps,fJq ⟨y9q C n,zQq C n⟩ ⟨yhq C n,zVq C n⟩ C c ⟨uMq 0 f .nil,h,[],false⟩ with
 |true,some ((.normal,st),d)=>mfq C n b st d
 |true,some ((.ret,st),d)=>mfq C n b st d
 |_,_=>none
section
variable {P:Program} {C:Cfg} {s0:World} {U:Nat} {D:Nat->Prop} {ρ:Env} {fr:Tr V} {a:Act} {w:World} {h:Heap}
theorem Ykq{B:Func}{j:Array Value}{R:Ending->World->Prop}{F:List Deferred}:∀(q:List Nat) (h p:Heap) (w:World),qZq q h=some p->p.next<=U->Rel s0 U D ρ h w->(∀d∈q,D d) ->
  (∀v,Rel s0 U D ρ p v->Nxt D ρ h w D ρ p v->LeavesInM Fence.wide 0 P B j R F .returning v) ->LeavesInM Fence.wide 0 P B j R (q.map (mkD ρ)++F) .returning w
 |[],h,p,w,e,_,rel,_,k=>by
  simp only[qZq,Zm] at e;subst e;exact k w rel (Nxt.refl _ _ _ _)
 |d::q,h,p,w,e,hU,rel,hd,k=>by
  simp only[qZq] at e;split at e
  .rename_i E;have z:=hd d Xi;obtain⟨o,A,y⟩:=rel.has d _ z E;have y:o= .deferred (some []):=y;subst y;refine⟨by simp,.inl ⟨ρ.b d,_,rfl,run_takeDeferred A,?_⟩⟩;have I:=qAq (w:=w) (b:=ρ.b d) (.deferred none) (Zs.1 A).1;obtain⟨J,G⟩:=rel.put (b':=.dfr true) z E Y Y I rfl trivial;have M:=Zt (j0q q _ _ e).nxt hU;exact Ykq q _ p _ e hU J (λx K=>hd x (by simp[K])) λv H L=>k v H (G.trans rel.lt hU L)
  .cases e
theorem cdq(N:CfgOK P C)(g:FrE C D ρ fr a){id:Nat}{t:Tmp}{f:FuncId}{b:Array Operand}{q B:TypeId}{L K:String}{H J:Array Edge}{z:Array TypeId}{j:List V}(O:t<a.tmps.size)(T:evL C fr b.toList=some j){Q:Exit->Act->World->Prop}
  (k:Q .normal (({a.put (some t) (abq ρ (.fn f [] j)) with defers:={target:=.fn (.func f) (zPq ρ j).toArray,args:= #[]}::a.defers}:Act).put none undef) w):
  (Code.region id #[⟨some t,.makeFunc (.func f) #[] b,q,L,H,none⟩,⟨none,.defer ⟨.value (.tmp t), #[],z⟩,B,K,J,none⟩] false).wpIn (FF none) 0 P Q a w:=by
 have X:ylq C fr q (.makeFunc (.func f) #[] b)=some (.fn f [] j):=by simp[ylq,zJq,evL,T]
 obtain⟨S,W⟩:=JJq N g (o:=⟨some t,.makeFunc (.func f) #[] b,q,L,H,none⟩) X w;have M:FrE C D ρ (aBq fr (some t) (.fn f [] j)) (a.put (some t) (abq ρ (.fn f [] j))):=g.put (by simpa[Q0q] using O) W;have G:=(M.ev (x:=.tmp t) (v:=.fn f [] j) (by simp[evV,aBq,Tr.get_set])).1;refine wpIn_region_list ?_;show wpListIn _ _ _ _ _ [_,_] a w;unfold wpListIn;rw[show Region.wanted _ _=true from rfl,Zl rfl];refine YUq rfl (.inl S) ?_;unfold wpListIn;rw[show Region.wanted _ _=true from rfl,Zl rfl];refine⟨λf _=>Jwq none f,?_⟩
 have R:((⟨none,.defer ⟨.value (.tmp t), #[],z⟩,B,K,J,none⟩:Oper).semAt (FF none).round (a.put (some t) (abq ρ (.fn f [] j))).eval).run P w= .ok (.defer {target:=.fn (.func f) (zPq ρ j).toArray,args:= #[]}) w:=by
  show(Oper.semAt none _ _).run P w=_;rw[Oper.semAt_none];simp only[execOp,resolve,G];simp[abq,zPq,Deferred.ofValue]
 rw[R,Oper.uponIn_defer];unfold wpListIn;exact k
theorem fIq(z:P.follows .mixedOrders=true)(I:CfgOK P C){n:Nat}(T:RunOK P C n){N:Nat}:∀c:Code,Xjq N c=true->∀o r d,fJq ⟨y9q C n,zQq C n⟩ ⟨yhq C n,zVq C n⟩ C c o=some (r,d) ->
  Mono o.h r.2.h/\∀s0 U D ρ a w Q,r.2.h.next<=U->StR C s0 U N none [] D ρ o a w->
   (∀D' b A u,StR C s0 U N none (dTl b d) D' b r.2 A u->Nxt D ρ o.h w D' b r.2.h u->dIn (DD D' b) d->Q r.1 A u) ->c.wpIn (FF none) 0 P Q a w:=by
 have nlq:∀c:Code,yQq N c=true->∀o r d,(match zgq ⟨y9q C n,zQq C n⟩ ⟨yhq C n,zVq C n⟩ C c o with
   |some r=>some (r,none)
   |none=>none)=some (r,d) ->Mono o.h r.2.h/\∀s0 U D ρ a w Q,r.2.h.next<=U->StR C s0 U N none [] D ρ o a w->
   (∀D' b A u,StR C s0 U N none (dTl b d) D' b r.2 A u->Nxt D ρ o.h w D' b r.2.h u->dIn (DD D' b) d->Q r.1 A u) ->c.wpIn (FF none) 0 P Q a w:=λc j o r d l=>by
  split at l
  .rename_i r' G;cases l;obtain⟨x,S⟩:=r;obtain⟨F,E⟩:=jXq z I T j _ _ _ G;exact⟨F,λs0 U D ρ a w Q q g k=>E s0 U none [] D ρ a w Q q g λD' b A u g' K=>k D' b A u g' K trivial⟩
  .cases l
 intro c;induction c with
 |seq x y _ Y=>
  intro j o r d l;simp only[Xjq] at j;simp only[fJq] at l;cases R:Ypq x with
  |some p=>
   obtain⟨t,f,caps⟩:=p;rw[R] at l j;simp only[Zd] at j l;have J:t<N:=by simpa using j.1
   obtain⟨id,ty1,p1,W,ats,ty2,p2,a2,rfl⟩:=dCq R;split at l
   .rename_i M Z hv;split at l
    .rename_i r' G;cases l;obtain⟨x,S⟩:=r;obtain⟨F,E⟩:=jXq z I T j.2 _ _ _ G;refine⟨F,λs0 U D ρ a w Q q g k=>wpIn_seq (cdq I g.fr (by rw[g.size];exact J) (by simpa using hv) ?_)⟩;have H:InDL (DD D ρ) M:=(g.fr.evs hv).2;have L:Q0q a.tmps.size (some t)=true:=by rw[g.size];simpa[Q0q] using J
     have gp:=g.fr.put (d:=some t) (v:=.fn f [] M) L ⟨trivial,H⟩;have hdf:a.defers=[]:=by have:=g.defs;rw[Z] at this;simpa using this
     refine E s0 U none (dTl ρ (some (f,M))) D ρ _ w Q q ⟨⟨⟨gp.at_,gp.in_,gp.gl⟩⟩,g.rel,?_,?_,(λd R=>by cases R),g.rd⟩ λD' b A u g' K=>?_
     .simp[Act.put,g.size]
     .simp[Act.put,dTl,hdf]
     .have hag:=K.agree g.rel.lt q;have e:dTl b (some (f,M))=dTl ρ (some (f,M)):=by simp only[dTl,qGq hag H]
      refine k D' b A u (by rw[e];exact g') K (H.mono (K.dd g.rel.lt q))
    .cases l
   .cases l
  |none=>
   rw[R] at l j;simp only[Zd] at j l;split at l
   .rename_i st1 G;obtain⟨F,E⟩:=jXq z I T j.1 _ _ _ G;obtain⟨m2,k2⟩:=Y j.2 _ _ _ l;refine⟨F.trans m2,λs0 U D ρ a w Q q g k=>wpIn_seq (E s0 U none [] D ρ a w _ (Zt m2.nxt q) g λD1 B W w1 X n1=>?_)⟩;exact k2 s0 U D1 B W w1 Q q X λD2 ρ2 a2 w2 g2 n2 hi=>k D2 ρ2 a2 w2 g2 (n1.trans g.rel.lt q n2) hi
   .rename_i r' hne G;cases l;obtain⟨e,S⟩:=r;obtain⟨F,E⟩:=jXq z I T j.1 _ _ _ G;refine⟨F,λs0 U D ρ a w Q q g k=>wpIn_seq (E s0 U none [] D ρ a w _ q g λD1 B W w1 X n1=>?_)⟩;have:=k D1 B W w1 X n1 trivial;cases e<;>first|exact this|exact absurd rfl (hne _)
   .cases l
 |_=>exact λj o r d l=>nlq _ j o r d l
theorem hEq(E:CfgOK P C){d:Func}{v:V}{h G:Heap}(f:scq C d fr h=some (v,G))(g:FrE C D ρ fr a)(j:Rel s0 U D ρ h w):G=h/\∃x,(results d a.tmps).run P w= .ok x w/\x=abq ρ v/\InD (DD D ρ) v:=by
 unfold scq at f;split at f
 .rename_i u t;cases f;obtain⟨b,B⟩:=unq E g j _ _ t
  have y:∃q,d.results.toList=[q]:=by
   cases F:d.results.toList with
   |nil=>rw[F] at b;exact b.elim
   |cons q l=>cases l with
    |nil=>exact⟨q,rfl⟩
    |cons _ _=>rw[F] at b;exact b.2.elim
  obtain⟨q,p⟩:=y;rw[p] at b;exact⟨rfl,_,efq (by apply YC.1;simpa using p) b.1,rfl,B.1⟩
 .rename_i A z t;cases f;obtain⟨b,B⟩:=unq E g j _ _ t;refine⟨rfl,_,eeq (rvs:=d.results.toList) Xi (λe=>?_) b,by simp[abq],B⟩;rw[qyq] at e;cases A with
  |nil=>cases e
  |cons u A=>cases A with
   |nil=>exact z _ rfl
   |cons _ _=>cases e
 .cases f
theorem dgq(hmx:P.follows .mixedOrders=true)(hC:CfgOK P C)(hF:Ycq P C)(hK:jQq P C){n:Nat}{f:FuncId}{Z:Func}{c:Code}(hf:P.funcs[f]? =some Z)(hb:Z.body=some c)(hent:∀L w,(callFunc f L).run P w= .ok (.enter f L) w)(hok:Xjq Z.ntmps c=true):
  qVq P C f (gjq C n Z c):=λB h v h' he=>by
 have ih:=brq hmx hC hF hK n;unfold gjq at he
 have key :∀x st d,(x= .normal\/x= .ret) ->Nat.ble B.length Z.ntmps=true->fJq ⟨y9q C n,zQq C n⟩ ⟨yhq C n,zVq C n⟩ C c ⟨uMq 0 B .nil,h,[],false⟩=some ((x,st),d) ->mfq C n Z st d=some (v,h') ->
   Mono h h'/\∀s0 U D ρ w,h'.next<=U->GlobOK C (DD D ρ) ρ->InDL (DD D ρ) B->Rel s0 U D ρ h w->Calls P f (zPq ρ B).toArray w (xyq s0 U D ρ h w v h'):=λx st d hx q h1 J=>by
  have q:=Yb q;obtain⟨m1,k1⟩:=fIq hmx hC ih c hok _ _ _ h1
  have E:∀(B:List V) (m:Nat) (D:Nat->Prop) (ρ:Env),InDL (DD D ρ) B->B.length<=m->∀t u,(uMq 0 B .nil).get t=some u->((zPq ρ B).toArray++Array.replicate (m-(zPq ρ B).toArray.size) undef)[t]? =some (abq ρ u)/\InD (DD D ρ) u:=λB m D ρ K q t u H=>by
   rw[ZEq] at H;split at H
   .rename_i hlt;simp only[Y8,ZG] at H hlt;refine⟨?_,InDL.at_ K H⟩;rw[Array.getElem?_append_left (by simp[qyq];exact hlt.2),k9q];simp[H]
   .simp[Tr.get_nil] at H
  have hsz:∀(B:List V) (m:Nat) (ρ:Env),B.length<=m->((zPq ρ B).toArray++Array.replicate (m-(zPq ρ B).toArray.size) undef).size=m:=λB m ρ q=>by
   simp only[Array.size_append,Array.size_replicate,ZU,qyq];omega
  cases d with
  |none=>
   have m2:=Zoq J;refine⟨m1.trans m2,λs0 U D ρ w Y gl K Q=>?_⟩;refine callsIn_wide.1 (callsIn_of_wp_marks (F:=Fence.wide) (n:=0) hf hb trivial ?_);refine k1 s0 U D ρ _ w _ (Zt m2.nxt Y) ⟨⟨⟨λt u H=>(E B _ D ρ K q t u H).1,λt u H=>(E B _ D ρ K q t u H).2,gl⟩⟩,Q,hsz _ _ _ q,rfl,(λd hd=>by cases hd),rfl⟩ λD1 j a1 w1 N n1 _=>?_
   have fin:=b5q (P:=P) hC J Y N (R:=xyq s0 U D ρ h w v h') λw' r' n' i'=>⟨D1,j,rfl,r',n1.trans Q.lt Y n',i'⟩
   rcases hx with rfl|rfl<;>exact fin
  | some p=>
   obtain⟨g,T⟩:=p;simp only[mfq] at J;split at J
   .rename_i X S;split at J
    .rename_i hh2 b;have mt:=j0q _ _ _ S;unfold dGq at b;split at b
     .rename_i fg hfg;obtain⟨hgf,hge,hgok⟩:=hF g fg hfg;split at b
      .rename_i cg hgb hgr I;have I:=Yb I;have hgres:fg.results= #[]:=by apply YC.1;simpa using hgr
       have key2:∃x2 M,(x2= .normal\/x2= .ret)/\zgq ⟨y9q C n,zQq C n⟩ ⟨yhq C n,zVq C n⟩ C cg ⟨uMq 0 T .nil,X,[],false⟩=some (x2,M)/\M.ds=[]/\M.h=hh2:=by
        split at b
        .rename_i M e2;split at b
         .rename_i hds;cases b;exact⟨_,_,.inl rfl,e2,hds,rfl⟩
         .cases b
        .rename_i M e2;split at b
         .rename_i hds;cases b;exact⟨_,_,.inr rfl,e2,hds,rfl⟩
         .cases b
        .cases b
       obtain⟨x2,M,hx2,e2,hds2,rfl⟩:=key2;obtain⟨m3,k3⟩:=jXq hmx hC ih (hgok cg hgb) _ _ _ e2
       have hh':h'=M.h:=by
        unfold scq at J;split at J<;>first|(cases J;rfl)|cases J
       subst hh';refine⟨(m1.trans mt).trans m3,λs0 U D ρ w Y gl K Q=>?_⟩;have W:X.next<=U:=Zt m3.nxt Y;refine callsIn_wide.1 (callsIn_of_wp_marks (F:=Fence.wide) (n:=0) hf hb trivial ?_);refine k1 s0 U D ρ _ w _ (Zt mt.nxt W) ⟨⟨⟨λt u H=>(E B _ D ρ K q t u H).1,λt u H=>(E B _ D ρ K q t u H).2,gl⟩⟩,Q,hsz _ _ _ q,rfl,(λd hd=>by cases hd),rfl⟩ λD1 j a1 w1 N n1 hi1=>?_
       have leave:LeavesInM Fence.wide 0 P Z a1.tmps (xyq s0 U D ρ h w v M.h) a1.defers .returning w1:=by
        rw[N.defs];refine Ykq _ _ _ _ S W N.rel N.din λw2 r2 n2=>?_
        have hag2:=n2.agree N.rel.lt W;have hws:InDL (DD D1 j) T:=hi1;have ginit:=GlobOK.next N.fr.gl N.rel.lt W n2;show LeavesInM Fence.wide 0 P Z a1.tmps (xyq s0 U D ρ h w v M.h) ({target:=.fn (.func g) (zPq j T).toArray,args:= #[]}::[]) .returning w2;refine⟨by simp,.inr ⟨λh=>Qi,.func g,(zPq j T).toArray,g,(zPq j T).toArray,rfl,?_,λ_ _=>trivial,?_⟩⟩
        .show(invoke (.fn (.func g) (zPq j T).toArray) #[]).run P w2=_;have:=hge (zPq j T).toArray w2;simpa[invoke] using this
        .have cd:=callsDIn_of_wp (F:=Fence.wide) (n:=0-1) (P:=P) (args:=(zPq j T).toArray) (u:=.returning) (w:=w2) (R:=λe w'=>(∃x,e= .returned x)/\∃D3 G,Rel s0 U D3 G M.h w'/\Nxt D1 j X w2 D3 G M.h w') hgf hgb trivial (by
          refine k3 s0 U none [] D1 j _ w2 _ Y ⟨⟨⟨λt u H=>(E T _ D1 j hws I t u H).1,λt u H=>(E T _ D1 j hws I t u H).2,ginit⟩⟩,r2,hsz _ _ _ I,rfl,(λd hd=>by cases hd),rfl⟩ λD3 G a3 w3 g3 n3=>?_
          have hd3:a3.defers=[]:=by have:=g3.defs;rw[hds2] at this;simpa using this
          have hres:∃x,(results fg a3.tmps).run P w3= .ok x w3:=⟨.tuple #[],by simp[results,hgres]⟩
          obtain⟨x,hx⟩:=hres;have:a3.defers=[]/\∃x,(results fg a3.tmps).run P w3= .ok x w3/\((∃y,Ending.returned x= .returned y)/\∃D3 G,Rel s0 U D3 G M.h w3/\Nxt D1 j X w2 D3 G M.h w3):=⟨hd3,x,hx,⟨x,rfl⟩,D3,G,g3.rel,n3⟩
          rcases hx2 with rfl|rfl<;>exact this)
         refine cd.mono ?_;rintro e u' w3 ⟨rfl,⟨x,rfl⟩,D3,G,r3,n3⟩;have n23:=n2.trans N.rel.lt Y n3;have gfr:=N.fr.next N.rel.lt Y n23;obtain⟨_,y,y1,y2,y3⟩:=hEq hC J gfr r3;exact⟨y,y1,D3,G,by rw[y2],r3,n1.trans Q.lt Y n23,y3⟩
       rcases hx with rfl|rfl<;>exact leave
      .cases b
     .cases b
    .cases J
   .cases J
 split at he
 .rename_i st d h1 J;obtain⟨q1,q2⟩:=key _ _ _ (.inl rfl) h1 J he;exact⟨q1,hent,q2⟩
 .rename_i st d h1 J;obtain⟨q1,q2⟩:=key _ _ _ Jr h1 J he;exact⟨q1,hent,q2⟩
 .cases he
end
def uaq:Code->Bool
 |.seq x y=>uaq x&&uaq y
 |.cond _ x y=>uaq x&&uaq y
 |.block _ x=>uaq x
 |.region _ _ _=>true
 |.skip=>true
 |.ret=>true
 |.exit _=>true
 |.label _=>true
 |.goto _=>true
 |_=>false
theorem jSq{S:Self}{F:Flow}{C:Cfg}:∀{c:Code} {v j:St} {e:Exit},uaq c=true->zgq S F C c v=some (e,j) ->j.ds=v.ds
 |.seq x y,v,j,e,hs,h=>by
  simp only[uaq,Zd] at hs;simp only[zgq] at h;split at h
  .rename_i z w;rw[jSq hs.2 h,jSq hs.1 w]
  .exact jSq hs.1 h
 |.cond c x y,v,j,e,hs,h=>by
  simp only[uaq,Zd] at hs;simp only[zgq] at h;split at h
  .exact jSq hs.1 h
  .exact jSq hs.2 h
  .cases h
 |.block id x,v,j,e,hs,h=>by
  simp only[uaq] at hs;simp only[zgq] at h;split at h
  .rename_i z w;split at h<;>(cases h;exact jSq hs w)
  .exact jSq hs h
 |.region id ops dr,v,j,e,hs,h=>by
  simp only[zgq] at h;split at h
  .cases h;rfl
  .cases h
 |.skip,v,j,e,hs,h=>by simp only[zgq] at h;cases h;rfl
 |.ret,v,j,e,hs,h=>by simp only[zgq] at h;cases h;rfl
 |.exit _,v,j,e,hs,h=>by simp only[zgq] at h;cases h;rfl
 |.label _,v,j,e,hs,h=>by simp only[zgq] at h;cases h;rfl
 |.goto _,v,j,e,hs,h=>by simp only[zgq] at h;cases h;rfl
 |.loop _,_,_,_,hs,_=>by cases hs
 |.rangeFunc _ _ _ _,_,_,_,hs,_=>by cases hs
 |.scope _,_,_,_,hs,_=>by cases hs
 |.refuse _,_,_,_,hs,_=>by cases hs
section
variable {S S':Self} {F F':Flow} {C:Cfg}
theorem q8q(f:SelfLe S S')(d:FlowLe F F'){c:Code}{st:St}{r:(Exit×St)×Option (FuncId×List V)}(h:(match zgq S F C c st with|some r=>some (r,none)|none=>none)=some r):(match zgq S' F' C c st with|some r=>some (r,none)|none=>none)=some r:=by
 split at h
 .rename_i x b;rw[zKq f d c b];exact h
 .cases h
theorem KIq(w:SelfLe S S')(v:FlowLe F F'):∀(c:Code) {j:St} {r:(Exit×St)×Option (FuncId×List V)},fJq S F C c j=some r->fJq S' F' C c j=some r
 |.seq x y,j,r,h=>by
  cases B:Ypq x with
  |some p=>
   obtain⟨t,g,D⟩:=p;simp only[fJq,B] at h⊢;split at h
   .rename_i J H G;split at h
    .rename_i E z;rw[zKq w v y z];exact h
    .cases h
   .cases h
  |none=>
   simp only[fJq,B] at h⊢;split at h
   .rename_i I z;rw[zKq w v x z];exact KIq w v y h
   .rename_i E A z;rw[zKq w v x z];obtain⟨e,s⟩:=E;cases e<;>first|exact h|exact absurd rfl (A _)
   .cases h
 |.cond a b c,j,r,h=>q8q (C:=C) (c:=.cond a b c) (st:=j) w v h
 |.block a b,j,r,h=>q8q (C:=C) (c:=.block a b) (st:=j) w v h
 |.region a b c,j,r,h=>q8q (C:=C) (c:=.region a b c) (st:=j) w v h
 |.skip,j,r,h=>q8q (C:=C) (c:=.skip) (st:=j) w v h
 |.ret,j,r,h=>q8q (C:=C) (c:=.ret) (st:=j) w v h
 |.exit a,j,r,h=>q8q (C:=C) (c:=.exit a) (st:=j) w v h
 |.label a,j,r,h=>q8q (C:=C) (c:=.label a) (st:=j) w v h
 |.goto a,j,r,h=>q8q (C:=C) (c:=.goto a) (st:=j) w v h
 |.loop a,j,r,h=>q8q (C:=C) (c:=.loop a) (st:=j) w v h
 |.rangeFunc a b c d,j,r,h=>q8q (C:=C) (c:=.rangeFunc a b c d) (st:=j) w v h
 |.scope a,j,r,h=>q8q (C:=C) (c:=.scope a) (st:=j) w v h
 |.refuse a,j,r,h=>q8q (C:=C) (c:=.refuse a) (st:=j) w v h
theorem oEq{n m:Nat}(f:n<=m){g:FuncId}{j:List V}{h k:Heap}(b:dGq C n g j h=some k):dGq C m g j h=some k:=by
 have l:=qTq C f;unfold dGq at b⊢;split at b
 .rename_i w p;split at b
  .rename_i o v u q;split at b
   .rename_i t d;have:=zKq l.1 l.2 o d;simp only[Sn,Fl] at this;rw[this];exact b
   .rename_i t d;have:=zKq l.1 l.2 o d;simp only[Sn,Fl] at this;rw[this];exact b
   .cases b
  .cases b
 .cases b
theorem dAq{n m:Nat}(b:n<=m){f:Func}{j:St}{d:Option (FuncId×List V)}{r:V×Heap}(h:mfq C n f j d=some r):mfq C m f j d=some r:=by
 cases d with
 |none=>exact h
 |some p=>
  obtain⟨g,l⟩:=p;simp only[mfq] at h⊢;split at h
  .rename_i o q;split at h
   .rename_i t k;rw[oEq b k];exact h
   .cases h
  .cases h
theorem hzq{n m:Nat}(b:n<=m){o:Func}{c:Code}{k:List V}{h:Heap}{r:V×Heap}(g:gjq C n o c k h=some r):gjq C m o c k h=some r:=by
 have l:=qTq C b;unfold gjq at g⊢;split at g
 .rename_i p d f j;have:=KIq l.1 l.2 c j;simp only[Sn,Fl] at this;rw[this,f];exact dAq b g
 .rename_i p d f j;have:=KIq l.1 l.2 c j;simp only[Sn,Fl] at this;rw[this,f];exact dAq b g
 .cases g
open Classical in
/-- such a function's answer, whatever the run's fuel -/
def riq(C:Cfg)(b:Func)(c:Code)(a:List V)(h:Heap):Option (V×Heap):=if q:∃r n,gjq C n b c a h=some r then some (Classical.choose q) else none
theorem tTq{n:Nat}{b:Func}{c:Code}{a:List V}{h:Heap}{r:V×Heap}(e:gjq C n b c a h=some r):riq C b c a h=some r:=by
 have q:∃r n,gjq C n b c a h=some r:=⟨r,n,e⟩
 unfold riq;rw[dif_pos q];obtain⟨m,f⟩:=Classical.choose_spec q;have g:=hzq (Nat.le_max_left n m) e;have d:=hzq (Nat.le_max_right n m) f;rw[g] at d;exact d.symm
theorem lUq{f:Func}{c:Code}{d:List V}{h:Heap}{r:V×Heap}(b:riq C f c d h=some r):∃n,gjq C n f c d h=some r:=by
 unfold riq at b;split at b
 .rename_i q;obtain⟨m,g⟩:=Classical.choose_spec q;cases b;exact⟨m,g⟩
 .cases b
end
theorem ixq{P:Program}{C:Cfg}{f:FuncId}{a:Func}{c:Code}(h:∀n,qVq P C f (gjq C n a c)):qVq P C f (riq C a c):=λd e v g i=>by
 obtain⟨n,b⟩:=lUq i;exact h n d e v g b
section
variable {C:Cfg} {G:Nat->Option W} {m k0:Nat} {fn:Func} {fr:FrW} {hp hp':HpW} {nw:Nat} {R:Res} {Q:W->HpW->Nat->Res->Prop} {Γ Γ':Ctx} {X X':Nat->Prop}
theorem pVq(s:SatH C G Γ hp X R)(f:Frm Γ.nw Γ hp X Γ' hp' X'):Γ.Le Γ':=⟨f.mle (Zb _),f.sig,f.dsub,λb a=>qbq (f.keep b (s.dlt b a) (λ⟨k,x,c,d⟩=>(s.own k x.1 x.2 c).2.1 (by rw[d];exact a)) (s.dX b a))⟩
theorem h8q(s:SatH C G Γ hp X R){j:Tr V}(y:FRel Γ fr j){w:W}(g:c7q C fr hp fn.results.toList=some w):∃v,scq C fn j Γ.h=some (v,Γ.h)/\RV Γ w v:=by
 unfold c7q at g;unfold scq;split at g
 .rename_i w0 q;cases g;obtain⟨b,k,f⟩:=v2q s y q;simp only[RVL] at f;obtain⟨v,d,rfl,A,rfl⟩:=f;exact⟨v,by rw[k],A⟩
 .rename_i o x q;cases g;obtain⟨b,k,f⟩:=v2q s y q;refine⟨.tup b,?_,RV_tup.2 ⟨b,rfl,f⟩⟩;rw[k];have z:=uPq f;cases b with
  |nil=>rfl
  |cons v d=>cases d with
   |nil=>
    cases o with
    |nil=>simp at z
    |cons a l=>cases l with
     |nil=>exact absurd rfl (x a)
     |cons _ _=>simp at z
   |cons _ _=>rfl
 .cases g
def DoW(C:Cfg)(G:Nat->Option W)(m k0:Nat)(fn:Func)(c:Code)(fr:FrW)(hp:HpW)(nw:Nat)(R:Res)(Q:W->HpW->Nat->Res->Prop):Prop:=
 ∀Γ X b,Γ.nw=nw->m<=nw->k0<=Γ.h.next->b.rd=false->b.ds=[] ->SatS C G k0 Γ hp X R fr b->∃n x a d v Γ' X' w hp' R',(x=Exit.normal\/x=Exit.ret)/\fJq (Sn C n) (Fl C n) C c b=some ((x,a),d)/\mfq C n fn a d=some (v,Γ'.h)/\
  SatH C G Γ' hp' X' R'/\Frm m Γ hp X Γ' hp' X'/\RV Γ' w v/\Q w hp' Γ'.nw R'
theorem laq{x y:Code}(L:Ypq x=none)(hs:uaq x=true)(h:CoW C G m k0 false x fr hp nw R λe c hp' k R'=>(e= .normal/\DoW C G m k0 fn y c hp' k R' Q)\/(e= .ret/\∃w,c7q C c hp' fn.results.toList=some w/\Q w hp' k R')):DoW C G m k0 fn (.seq x y) fr hp nw R Q:=λΓ X st M N J O V U=>by
 obtain⟨n,e,f,Γ',X',c,hp',R',A,g,z,Y,E⟩:=h Γ X st M N J O U;have j:f.ds=[]:=(jSq hs A).trans V;rcases E with ⟨rfl,E⟩|⟨rfl,w,hw,hq⟩
 .obtain⟨u,Z,B,d,v,Γ2,X2,w,F,R2,P,k2,k3,T,k5,k6,S⟩:=E Γ' X' f rfl (z.mle (M▸N)|>λq=>q) (Zt J z.next) Y j g;have I:=qTq C (Nat.le_max_left n u);have K:=qTq C (Nat.le_max_right n u);refine⟨max n u,Z,B,d,v,Γ2,X2,w,F,R2,P,?_,dAq (Nat.le_max_right n u) k3,T,z.trans k5,k6,S⟩;simp only[fJq,L,zKq I.1 I.2 x A];exact KIq K.1 K.2 y k2
 .obtain⟨v,H,D⟩:=h8q g.sat g.fr hw;refine⟨n,.ret,f,none,v,Γ',X',w,hp',R',.inr rfl,?_,?_,g.sat,z,D,hq⟩
  .simp only[fJq,L,A]
  .simp only[mfq,duq,j,qZq];rw[<-g.hh] at H;unfold scq at H;rw[<-g.hh];exact H
theorem toq{x y:Code}{t:Tmp}{g:FuncId}{c:List Operand}{D:List W}{E:Func}{F:Code}(hx:Ypq x=some (t,g,c))(hv:avq C G fr c=some D)(hy:uaq y=true)(hf:C.fn g=some E)(hb:E.body=some F)(hr:E.results.toList=[])(hn:D.length<=E.ntmps)(hs:uaq F=true)
  (h:CoW C G nw k0 false y (atq fr (some t) (.fn g [] D)) hp nw R λe T hp' z R'=>(e= .normal\/e= .ret)/\CoW C G z k0 false F (ZDq 0 D) hp' z R' λU _ b Z R2=>(U= .normal\/U= .ret)/\∃w,c7q C T b fn.results.toList=some w/\Q w b Z R2):DoW C G m k0 fn (.seq x y) fr hp nw R Q:=λΓ X H h1 h2 h3 h4 h5 k=>by
 subst h1;obtain⟨j,q1,P⟩:=x2q k.fr k.sat.gl hv;have O:FRel Γ (atq fr (some t) (.fn g [] D)) (aBq H.fr (some t) (.fn g [] j)):=k.fr.put (RV_fn.2 ⟨[],j,rfl,by simp[RVL],P⟩);obtain⟨n,e,B,Γ1,X1,fr1,hp1,R1,g1,I,K,g4,ge,gc⟩:=h Γ X ⟨aBq H.fr (some t) (.fn g [] j),H.h,[],H.rd⟩ rfl (Zb _) h3 h4 ⟨k.hh,O,k.sat,(λd hd=>by cases hd),YN⟩;have N:B.ds=[]:=jSq hy g1;have L:=pVq k.sat K;obtain⟨J,U,M,Γ2,X2,fr2,b,R2,k1,Y,k3,k4,ke,w,hw,hq⟩:=gc Γ1 X1 ⟨uMq 0 j .nil,Γ1.h,[],false⟩ rfl (Zb _) (Zt h3 K.next) rfl ⟨rfl,Xnq (RVL.mono L P),I.sat,(λd hd=>by cases hd),YN⟩;have le2:=pVq I.sat k3;have u:M.ds=[]:=jSq hs k1;obtain⟨v,V,S⟩:=h8q Y.sat (I.fr.mono le2) hw;have l1:=qTq C (Nat.le_max_left n J);have l2:=qTq C (Nat.le_max_right n J);refine⟨max n J,e,B,some (g,j),v,Γ2,X2,w,b,R2,ge,?_,?_,Y.sat,(K.trans (k3.le (m':=Γ.nw) (K.mle (Zb _)) (Zb _))).le (m':=m) h2 (Zb _),S,hq⟩
 .simp only[fJq,hx,h5,q1,zKq l1.1 l1.2 y g1]
 .have hcl:dGq C (max n J) g j Γ1.h=some Γ2.h:=by
   have A:=zKq l2.1 l2.2 F k1;simp only[Sn,Fl] at A;have hle:Nat.ble j.length E.ntmps=true:=Zn (by rw[uPq P];exact hn);unfold dGq;simp only[hf,hb,hr,hle,A];rcases ke with rfl|rfl<;>simp only[u,Y.hh]
  simp only[mfq,N,qZq,I.hh,hcl];exact V
theorem YLq{C':Cfg}(c:C'.glob=C.glob)(s:SatH C G Γ hp X R):SatH C' G Γ hp X R:=⟨s.wf,s.own,s.inj,s.nd,s.dX,s.xlt,s.dlt,s.res,λi w a b=>s.gl i w (by rw[<-c];exact a) b⟩
theorem ndq{C':Cfg}(e:C'={C with known:=C'.known})(l:∀f k,C.known f=some k->C'.known f=some k)(o:∀f,C.known f=none->C'.known f=none\/C.fn f=none){f:FuncId}{c:List W}{Q:W->HpW->Nat->Prop}(h:zUq C G f m c hp Q):zUq C' G f m c hp Q:=λR Γ X j p s q=>by
 have b:C'.glob=C.glob:=by rw[e]
 obtain⟨n,v,Γ',X',w,hp',R',d,r,t,i,g⟩:=h R Γ X j p (YLq b.symm s) q;exact⟨n+1,v,Γ',X',w,hp',R',(cVq e l o n).1.fn _ _ _ _ d,YLq b r,t,i,g⟩
theorem mPq{C':Cfg}{f:FuncId}{c:Code}{g:List W}(B:C'.known f=some (riq C fn c))(k:C'.glob=C.glob)(D:g.length<=fn.ntmps)(h:∀k0,DoW C G m k0 fn c (ZDq 0 g) hp m R Q):ajq C' G f m g hp R Q:=λΓ X b y s o=>by
 obtain⟨n,x,u,d,v,Γ',X',w,hp',R',z,j,A,p,t,r,q⟩:=h Γ.h.next Γ X ⟨uMq 0 b .nil,Γ.h,[],false⟩ y (Zb _) (Zb _) Y Y ⟨rfl,Xnq o,YLq k.symm s,by simp,YN⟩;have e:Nat.ble b.length fn.ntmps=true:=Zn (by rw[uPq o];exact D)
 have a:gjq C n fn c b Γ.h=some (v,Γ'.h):=by
  simp only[Sn,Fl] at j;unfold gjq;rw[e,j];rcases z with rfl|rfl<;>exact A
 refine⟨1,v,Γ',X',w,hp',R',?_,YLq k p,t,r,q⟩;simp only[y9q,B];exact tTq a
end
section
def fbq(a:Func):Code:=match a.body with
 |some c=>c
 |none=>.skip
theorem hfq{C C':Cfg}{G:Nat->Option W}{m:Nat}{b:HpW}{R:Res}{Q:W->HpW->Nat->Res->Prop}{fn:Func}{f:FuncId}{c:Code}{a:List W}(j:C'.known f=some (riq C fn (fbq fn)))(d:fn.body=some c)(g:C'.glob=C.glob)(k:a.length<=fn.ntmps)(h:∀i,DoW C G m i fn c (ZDq 0 a) b m R Q):ajq C' G f m a b R Q:=by
 have e:fbq fn=c:=by unfold fbq;rw[d]
 subst e;exact mPq j g k h
def BVq:List V->Heap->Option (V×Heap):=riq cfg Tryz.f28 (fbq Tryz.f28)
def cfgA:Cfg:={cfg with known:=λf=>match Nat.beq f 28 with
 |true=>some BVq
 |false=>cfg.known f}
theorem kA_1(f:FuncId)(k:List V->Heap->Option (V×Heap))(h:cfg.known f=some k):cfgA.known f=some k:=by
 show(match Nat.beq f 28 with|true=>some BVq|false=>cfg.known f)=some k;cases e:Nat.beq f 28 with
 |false=>exact h
 |true=>
  have:=Zi e;subst this;rw[show cfg.known 28=none from rfl] at h;cases h
theorem kA_2(f:FuncId)(h:cfg.known f=none):cfgA.known f=none\/cfg.fn f=none:=by
 show(match Nat.beq f 28 with|true=>some BVq|false=>cfg.known f)=none\/_;cases e:Nat.beq f 28 with
 |false=>exact .inl h
 |true=>
  have:=Zi e;subst this;exact .inr rfl
theorem upA{G:Nat->Option W}{f:FuncId}{m:Nat}{a:List W}{b:HpW}{Q:W->HpW->Nat->Prop}(h:zUq cfg G f m a b Q):zUq cfgA G f m a b Q:=ndq rfl kA_1 kA_2 h
theorem hJq{l:List UInt8}(h:(rdQ l).2=0):(1<=(rdQ l).1.kind/\(rdQ l).1.kind<=8)/\(rdQ l).1.tx.ok:=by
 cases l with
 |nil=>exact absurd (show(220:Int)=0 from h) Xg
 |cons k r=>
  by_cases b:k.toNat=1/\r.length=120/\(aEq r).2≠0
  .have e:rdQ (k::r)=(aq0,(aEq r).2):=Zl b;rw[e] at h;exact absurd h b.2.2
  .have e:rdQ (k::r)=wgq (goq (k.toNat:Int)) (aXq (cjq (k.toNat:Int)) (aqK (k.toNat:Int),r,false)):=Zg b;rw[e] at h⊢;unfold wgq at h⊢;split at h
   .rename_i q;rw[Zl q];obtain⟨f,g⟩:=lWq (cjq (k.toNat:Int)) (aqK (k.toNat:Int),r,false) pgq;have j:=YF q.1;refine⟨?_,f⟩;show 1<=(aXq (cjq (k.toNat:Int)) (aqK (k.toNat:Int),r,false)).1.kind/\_;rw[g];exact j
   .exact absurd h Xg
def auI(r:Ru)(v:Vw)(P:List Shd)(h:Hb):Au:=⟨r,v,P,[],[],[],0,[],h⟩
structure GoodA(m:Nat)(r:Ru)(P:List Shd)(h:Hb):Prop where
 ru:okU r
 len:(P.length:Int)=r.shards
 gs:∀(i:Nat) s,P[i]? =some s->GoodS P.length i m s
 hub:HbM h
section
variable {m:Nat} {r:Ru} {P:List Shd} {h:Hb} {v:Vw}
theorem GoodA.pl(g:GoodA m r P h)(d:m<=256):PlM P:=⟨by have:=g.ru.1;have:=g.len;omega,λi s b=>⟨(g.gs i s b).sh d,λ⟨l,c,q⟩=>q ((g.gs i s b).line l c).1.at_⟩⟩
theorem GoodA.of(g:GoodA m r P h){s:Shd}(a:s∈P):∃i,GoodS P.length i m s:=by
 obtain⟨i,b⟩:=List.getElem?_of_mem a;exact⟨i,g.gs i s b⟩
theorem GoodA.ok(g:GoodA m r P h)(d:m<=256):OkAu (auI r v P h):=
 ⟨λs b=>by
  obtain⟨i,q⟩:=g.of b;exact⟨by have:=q.len;omega,λl c=>⟨λx a=>((q.line l c).1.own x a).2,by have:=(q.line l c).1.len;omega⟩⟩,λx a=>(nomatch a),Zf _,λx a=>(nomatch a),Zf _,Zf _,by have:=g.hub.1.2;show h.subs.length<=_;omega,λs b=>by have:=(g.hub.p.each s b).2.2.1;omega⟩
theorem GoodA.sm(g:GoodA m r P h)(c:m<=256):SmAu (auI r v P h):=
 ⟨by show P.length<=_;have:=g.ru.1;have:=g.len;omega,λs a=>by
  obtain⟨i,q⟩:=g.of a;exact⟨by have:=q.len;omega,λl b=>by have:=(q.line l b).1.len;omega⟩,Zf _,Zf _,Zf _,Zf _,by have:=g.hub.1.2;show h.subs.length<=_;omega,λs a=>by have:=(g.hub.p.each s a).2.2.1;omega⟩
theorem GoodA.may(g:GoodA m r P h)(a:m<=256)(b:ggq v):AuM (ggq v) (auI r v P h):=⟨g.ru,b,g.pl a,g.len,by show(0:Int)<=r.block;have:=g.ru;unfold okU at this;omega,λ⟨_,q,_⟩=>(nomatch q),λ⟨_,q,_⟩=>(nomatch q),λ⟨_,q,_⟩=>(nomatch q),g.hub⟩
theorem GoodA.up(g:GoodA m r P h):GoodA (m+2) r P h:=⟨g.ru,g.len,λi s a=>(g.gs i s a).up.up,g.hub⟩
end
structure Rv where
 (x:Rp) (sub:Int) (it:Itm)
def rvW(v:Rv):W:=.agg 240 [.int .u8 v.x.kind,.int .i64 v.x.code,.int .i64 v.x.height,dW v.x.dig,aW v.x.acct,rcW v.x.rc,v.x.pr.w,.int .i64 v.sub,aiq v.it]
@[simp] theorem ytq(v:Rv):aaq (rvW v)=true:=by
 show(true&&(true&&(true&&(aaq (dW v.x.dig)&&(aaq (aW v.x.acct)&&(aaq (rcW v.x.rc)&&(aaq v.x.pr.w&&(true&&(aaq (aiq v.it)&&true)))))))))=true;rw[qeq,PrV.pur,ygq];simp
def rvE(k e a:Int)(b:Itm):Rv:=⟨⟨k,e,0,zeroD,⟨0,0⟩,rcZ,prZV⟩,a,b⟩
def rvR(k e b:Int)(c:W):W:=.agg 240 [.int .u8 k,.int .i64 e,.int .i64 0,z32,.agg 2 [.int .u64 0,.int .u64 0],.agg 34 [.int .u8 0,z32,.int .i64 0],.agg 67 [z32,.int .u8 0,z32,.nils,.nils],.int .i64 b,c]
theorem qXq{d:Nat->Option W}{k e b:Int}{f:W}{x:Itm}(h:View d f (aiq x)):View d (rvR k e b f) (rvW (rvE k e b x)):=.agg (vR (vR (vR (.cons zYq (vR (.cons xOq (.cons kIq (vR (.cons h .nil)))))))))
theorem qgq{k e b:Int}{a:W}(h:aaq a=true):aaq (rvR k e b a)=true:=by
 show(true&&(true&&(true&&(_&&(_&&(_&&(_&&(true&&(aaq a&&true)))))))))=true;rw[h];kernel_rfl
theorem edq{b:Nat->Option W}(x:Rp):View b (rpW x) (rvW ⟨x,0,itZ⟩):=.agg (vR (vR (vR (.cons (.pur (qeq _)) (.cons (.pur Xi) (.cons (.pur Xi) (.cons (.pur (PrV.pur _)) (vR (.cons qFq .nil)))))))))
def aMq(r:Ru)(a:Dig->Nat)(b:Int)(c:Aq->Rp)(P:List Shd)(h:Hb)(q:Aq):Rv×List Shd×Hb:=
 if q.kind=1 then
  let z:=plF r.cap P (a (akq q.tx.pub)) q.tx
  (rvE q.kind (z.elim id λ_=>0) 0 itZ,z.elim (λ_=>P) (λp=>P.set (atE (akq q.tx.pub) P.length) p.1),h)
 else if q.kind=6 then(rvE q.kind (joF h r.subs b).2.2 (joF h r.subs b).2.1 itZ,P,(joF h r.subs b).1.getD h)
 else if q.kind=7 then(rvE q.kind (poF h q.sub itZ).2.2 0 (poF h q.sub itZ).2.1,P,(poF h q.sub itZ).1.getD h)
 else if q.kind=8 then(rvE q.kind (lvF h q.sub).2 0 itZ,P,(lvF h q.sub).1.getD h)
 else(⟨c q,0,itZ⟩,P,h)
def mkq(r:Ru)(a:Dig->Nat)(b:Int)(c:Aq->Rp)(P:List Shd)(h:Hb)(l:List UInt8):Rv×List Shd×Hb:=
 if (rdQ l).2=0 then aMq r a b c P h (rdQ l).1 else(rvE 0 (rdQ l).2 0 itZ,P,h)
theorem K0q{h:Hb}(b:HbM h){o:Option Hb}{e:Int}(k:t5q o e):HbM (o.getD h):=by
 rcases k with ⟨d,rfl,q,_⟩|⟨rfl,_⟩
 .exact q
 .exact b
theorem o2q{m:Nat}{r:Ru}{P:List Shd}{h:Hb}(g:GoodA m r P h)(o:m<=100)(b:Dig->Nat)(d:Int)(j:Aq->Rp)(q:Aq)(w:q.tx.ok):GoodA (m+2) r (aMq r b d j P h q).2.1 (aMq r b d j P h q).2.2:=by
 unfold aMq;split
 .have k:=h6q P (g.pl Xd) g.gs o r.cap (b (akq q.tx.pub)) q.tx w;cases y:plF r.cap P (b (akq q.tx.pub)) q.tx with
  |inl e=>exact g.up
  |inr p=>
   rw[y] at k;refine⟨g.ru,by show((P.set _ p.1).length:Int)=_;rw[YI];exact g.len,λi s f=>?_,g.hub⟩;show GoodS (P.set _ p.1).length i (m+2) s;rw[YI];rcases wXq f with ⟨rfl,rfl⟩|f
   .exact k.1
   .exact(g.gs i s f).up.up
 .split
  .exact⟨g.ru,g.len,g.up.gs,K0q g.hub (iEq g.hub (by have:=g.ru;unfold okU at this;omega))⟩
  .split
   .exact⟨g.ru,g.len,g.up.gs,K0q g.hub (hZq g.hub _ _)⟩
   .split
    .exact⟨g.ru,g.len,g.up.gs,K0q g.hub (ipq g.hub _)⟩
    .exact g.up
theorem oXq{m:Nat}{r:Ru}{P:List Shd}{h:Hb}(g:GoodA m r P h)(j:m<=100)(b:Dig->Nat)(d:Int)(f:Aq->Rp)(l:List UInt8):GoodA (m+2) r (mkq r b d f P h l).2.1 (mkq r b d f P h l).2.2:=by
 unfold mkq;split
 .rename_i k;exact o2q g j b d f _ (hJq k).2
 .exact g.up
attribute [local irreducible] CoW OpW FlW aeq ajq DoW
section
variable {G:Nat->Option W}
theorem AAq(a:Au)(h:Hb):zUq cfg G 73 1 [.ptr 0 0,hbW h,.int .i64 0] [(0,120,amW a)] λw c b=>c=[(0,120,amW (Dhq a h))]/\b=1:=by
 have d:=xhq (Dhq a h);intro R;refine gIs 8 Y (λe=>?_);exact gT 0 Y (eqI_iff.2 (rfl)) (zbq 11 Y (fin (.inl rfl) (zvq (nw2:=1) (fr2:=[]) (hp2:=[(0,120,amW (Dhq a h))]) Xg Xg trivial rfl (zoq ⟨⟨by decide,rfl,zaq d⟩,trivial⟩) Xi) rfl ⟨rfl,rfl,rfl⟩))
theorem ABq(a:Au)(e:Int)(f:e≠0):zUq cfg G 73 1 [.ptr 0 0,.agg 2 [.int .i64 0,.nils],.int .i64 e] [(0,120,amW a)] λw d c=>d=[(0,120,amW a)]/\c=1:=by
 have b:=xhq a;intro R;refine gIs 8 Y (λh=>?_);exact gF 0 Y (eqI_not.2 (f)) (zbq 4 Y (fin (.inl rfl) (zvq (nw2:=1) (fr2:=[]) (hp2:=[(0,120,amW a)]) Xg Xg trivial rfl (zoq ⟨⟨by decide,rfl,zaq b⟩,trivial⟩) Xi) rfl ⟨rfl,rfl,rfl⟩))
theorem inq(r:Ru)(v:Vw)(P:List Shd)(h:Hb)(o:Option Hb)(e:Int)(k:t5q o e):zUq cfg G 73 1 [.ptr 0 0,hbr o,.int .i64 e] [(0,120,amW (auI r v P h))] λw f d=>f=[(0,120,amW (auI r v P (o.getD h)))]/\d=1:=by
 rcases k with ⟨b,rfl,_,rfl⟩|⟨rfl,he⟩
 .exact AAq (auI r v P h) b
 .exact ABq (auI r v P h) e he
end
end
section
attribute [local irreducible] CoW OpW FlW aeq ajq DoW
def Eoq(r:Ru)(v:Vw)(l:List UInt8)(z:Rv×List Shd×Hb):W->HpW->Nat->Prop:=λw d c=>(∀b,View b w (rvW z.1))/\aaq w=true/\(∃L,w= .agg 240 L)/\d=[(2,94,aqW (rdQ l).1),(1,81,w),(0,120,amW (auI r v z.2.1 z.2.2))]/\c=3
theorem ADq{m:Nat}{r:Ru}{v:Vw}{P:List Shd}{h:Hb}(g:GoodA m r P h)(hm:m<=100)(hc:OkC v.ch)(hv:ggq v)(hdn:v.down=false)(nt:Nat)(D:T)(hA:IsA v.ch.tree nt D)(y:Aq->Rp)(hrd:∀q,(y q).kind=q.kind/\PS cfg glK 76 [ruG r,vwG v,aqW q] (rpW (y q)))(l:List UInt8)(f:Bool)(hl:l.length<=400):zUq cfgA glT 28 1 [.ptr 0 0,.fz (zcq l) 1 f] [(0,120,amW (auI r v P h))] (Eoq r v l (mkq r (λk=>(yBq D k).nonce) v.number y P h l)):=by
 have M:=xhq (auI r v P h);have F:∀P h,aaq (amW (auI r v P h))=true:=λ_ _=>xhq _
 have hrq:=Yyq kkq (cYq l f Xd);have ok:=g.ok (v:=v) Xd;have sm:=g.sm (v:=v) Xd;have J:=g.ru;unfold okU at J;have hdw:zGq 50 (amW (auI r v P h)) 39 1 false=some (.bool false):=by show some (W.bool v.down)=_;rw[hdn]
 intro R;refine hfq (fn:=Tryz.f28) (rfl) Y Y (Yb rfl) (λk0=>?_);refine laq Y Y (zCq 3 Y ?_);refine Or.inl ⟨rfl,?_⟩;refine laq Y Y (zCq 2 Y (gC 0 Y (hrq) (zbq 7 Y ?_)));refine Or.inl ⟨rfl,?_⟩;refine laq Y Y ?_;skip
 by_cases S:(rdQ l).2=0
 .refine zCq 3 Y (gF 0 Y (Zc not (eqI_iff.2 (S))) (zbq 4 Y ?_));refine Or.inl ⟨rfl,?_⟩;obtain⟨hk8,hx⟩:=hJq S;have O:mkq r (λk=>(yBq D k).nonce) v.number y P h l=aMq r (λk=>(yBq D k).nonce) v.number y P h (rdQ l).1:=Zl S;rw[O];generalize hq:(rdQ l).1=q at hk8 hx⊢;have j:∀(w:W) (rv:Rv) (P':List Shd) (h':Hb),aMq r (λk=>(yBq D k).nonce) v.number y P h q=(rv,P',h') ->(∀μ,View μ w (rvW rv)) ->aaq w=true->(∃L,w= .agg 240 L) ->Eoq r v l (aMq r (λk=>(yBq D k).nonce) v.number y P h q) w [(2,94,aqW q),(1,81,w),(0,120,amW (auI r v P' h'))] 3:=λw rv P' h' e a b c=>by rw[e];exact⟨a,b,c,by rw[hq],rfl⟩
  refine toq Y Y Y Y Y Y (Yb rfl) Y ?_;have hsub:=YRq kkq (h1q P ok.pool sm.shards (g.pl Xd) g.gs hm v.ch.tree nt D hA r.cap q.tx hx);have hjn:=eMq h g.hub sm.taps r.subs v.number J.2.2.2.2.2.1 J.2.2.2.2.2.2;have hpl:=iJq h g.hub sm.taps q.sub;have hlv:=eKq h g.hub sm.taps q.sub;obtain⟨hxk,E⟩:=hrd q;have E:=Yyq kkq E;have hxp:=Qjq (y q);refine zCq 8 Y (gM 0 Y (zwq Y Y Y hdw) (zbq 13 Y ?_));skip
  by_cases I:q.kind=1
  .refine gT 2 Y (eqI_iff.2 (I)) (zbq 26 Y ?_);skip
   have C:aMq r (λk=>(yBq D k).nonce) v.number y P h q=_:=Zl I;have A:=h6q P (g.pl Xd) g.gs hm r.cap (yBq D (akq q.tx.pub)).nonce q.tx hx;refine gSf 0 Y (qfq Y Y Y Y Y hsub Yd ?_);skip
   skip
   rintro w H rfl;generalize plF r.cap P (yBq D (akq q.tx.pub)).nonce q.tx=z at H C A⊢;rcases z with e|⟨s',old⟩
   .refine⟨by first|rfl|kernel_rfl,?_⟩;refine gF 19 Y (eqI_not.2 (A)) (zbq 13 Y ?_);refine⟨.inr rfl,?_⟩;exact zCq 6 Y (⟨.inl rfl,_,rfl,rfl,j _ _ _ _ C (λ_=>qXq qFq) (qgq rfl) ⟨_,rfl⟩⟩)
   .refine⟨by first|rfl|kernel_rfl,?_⟩;refine gT 19 Y (eqI_iff.2 (rfl)) (zbq 20 Y ?_);refine⟨.inr rfl,?_⟩;exact zCq 6 Y (⟨.inl rfl,_,rfl,rfl,j _ _ _ _ C (λ_=>qXq qFq) (qgq rfl) ⟨_,rfl⟩⟩)
  by_cases K:q.kind=6
  .refine gF 2 Y (eqI_not.2 (I)) (gT 6 Y (eqI_iff.2 (K)) (zbq 23 Y ?_));skip
   have C:aMq r (λk=>(yBq D k).nonce) v.number y P h q=_:=(Zg I).trans (Zl K);have A:=iEq g.hub (most:=r.subs) (beg:=v.number) J.2.2.2.2.2.2;refine gSf 0 Y (qfq Y Y Y Y Y hjn Yd ?_);skip
   rintro w H rfl;generalize joF h r.subs v.number=z at H C A⊢;obtain⟨o,id,e⟩:=z;have B:=inq (G:=glT) r v P h o e A;have hpo:=vBq o;obtain⟨a1,a2,Z⟩:=uyq o;simp only at H⊢;rw[Z] at B hpo H⊢;refine⟨by first|rfl|kernel_rfl,?_⟩;refine zbq 15 Y ?_
   (refine zhq rfl (zDq (ext:=[0]) (ws:=[.ptr 0 0,.agg 2 [a1,a2],.int .i64 e]) Y Y Y Y Ys B Xg Xg Xi (yYq (by rw[zdq M];rfl) (zaq M)) Qb ?_);rintro w U X ⟨rfl,rfl⟩;rw[zZq (F _ _)])
   refine zeq 14 Y ?_
   (refine jxq (λ_=>zvq (nw2:=3) (fr2:=[(4,.ptr 1 0)]) (hp2:=[(2,94,aqW q),(1,81,_),(0,120,_)]) Xg Xg ⟨rfl,trivial⟩ rfl (zoq ⟨⟨by decide,rfl,zaq (zLq _)⟩,⟨by decide,rfl,zaq (qgq rfl)⟩,⟨by decide,rfl,zaq (F _ _)⟩,trivial⟩) Xi) ?_;refine kjq Y Y ?_)
   refine zeq 4 Y ?_;refine⟨.inr rfl,?_⟩;exact zCq 6 Y (⟨.inl rfl,_,rfl,rfl,j _ _ _ _ C (λ_=>qXq qFq) (qgq rfl) ⟨_,rfl⟩⟩)
  by_cases N:q.kind=7
  .refine gF 2 Y (eqI_not.2 (I)) (gF 6 Y (eqI_not.2 (K)) (gT 6 Y (eqI_iff.2 (N)) (zbq 13 Y ?_)));skip
   have C:aMq r (λk=>(yBq D k).nonce) v.number y P h q=_:=(Zg I).trans ((Zg K).trans (Zl N));have A:=hZq g.hub q.sub itZ;refine gSf 0 Y (qfq Y Y Y Y Y hpl Yd ?_);skip
   rintro w H rfl;generalize poF h q.sub itZ=z at H C A⊢;obtain⟨o,x,e⟩:=z;have B:=inq (G:=glT) r v P h o e A;have hpo:=vBq o;obtain⟨a1,a2,Z⟩:=uyq o;simp only at H⊢;rw[Z] at B hpo H⊢;refine⟨by first|rfl|kernel_rfl,?_⟩;refine zbq 16 Y ?_
   (refine zhq rfl (zDq (ext:=[0]) (ws:=[.ptr 0 0,.agg 2 [a1,a2],.int .i64 e]) Y Y Y Y Ys B Xg Xg Xi (yYq (by rw[zdq M];rfl) (zaq M)) Qb ?_);rintro w U X ⟨rfl,rfl⟩;rw[zZq (F _ _)])
   refine zeq 14 Y ?_
   (refine jxq (λ_=>zvq (nw2:=3) (fr2:=[(4,.ptr 1 0)]) (hp2:=[(2,94,aqW q),(1,81,_),(0,120,_)]) Xg Xg ⟨rfl,trivial⟩ rfl (zoq ⟨⟨by decide,rfl,zaq (zLq _)⟩,⟨by decide,rfl,zaq (qgq (ygq x))⟩,⟨by decide,rfl,zaq (F _ _)⟩,trivial⟩) Xi) ?_;refine kjq Y Y ?_)
   refine zeq 4 Y ?_;refine⟨.inr rfl,?_⟩;exact zCq 6 Y (⟨.inl rfl,_,rfl,rfl,j _ _ _ _ C (λ_=>qXq (.pur (ygq x))) (qgq (ygq x)) ⟨_,rfl⟩⟩)
  by_cases k8:q.kind=8
  .refine gF 2 Y (eqI_not.2 (I)) (gF 6 Y (eqI_not.2 (K)) (gF 6 Y (eqI_not.2 (N)) (gT 6 Y (eqI_iff.2 (k8)) (zbq 13 Y ?_))));skip
   have C:aMq r (λk=>(yBq D k).nonce) v.number y P h q=_:=(Zg I).trans ((Zg K).trans ((Zg N).trans (Zl k8)));have A:=ipq g.hub q.sub;refine gSf 0 Y (qfq Y Y Y Y Y hlv Yd ?_);skip
   rintro w H rfl;generalize lvF h q.sub=z at H C A⊢;obtain⟨o,e⟩:=z;have B:=inq (G:=glT) r v P h o e A;have hpo:=vBq o;obtain⟨a1,a2,Z⟩:=uyq o;simp only at H⊢;rw[Z] at B hpo H⊢;refine⟨by first|rfl|kernel_rfl,?_⟩;refine zbq 13 Y ?_
   (refine zhq rfl (zDq (ext:=[0]) (ws:=[.ptr 0 0,.agg 2 [a1,a2],.int .i64 e]) Y Y Y Y Ys B Xg Xg Xi (yYq (by rw[zdq M];rfl) (zaq M)) Qb ?_);rintro w U X ⟨rfl,rfl⟩;rw[zZq (F _ _)])
   refine zeq 11 Y ?_
   (refine jxq (λ_=>zvq (nw2:=3) (fr2:=[(4,.ptr 1 0)]) (hp2:=[(2,94,aqW q),(1,81,_),(0,120,_)]) Xg Xg ⟨rfl,trivial⟩ rfl (zoq ⟨⟨by decide,rfl,zaq (zLq _)⟩,⟨by decide,rfl,zaq (qgq rfl)⟩,⟨by decide,rfl,zaq (F _ _)⟩,trivial⟩) Xi) ?_;refine kjq Y Y ?_)
   refine zeq 4 Y ?_;refine⟨.inr rfl,?_⟩;exact zCq 6 Y (⟨.inl rfl,_,rfl,rfl,j _ _ _ _ C (λ_=>qXq qFq) (qgq rfl) ⟨_,rfl⟩⟩)
  refine gF 2 Y (eqI_not.2 (I)) (gF 6 Y (eqI_not.2 (K)) (gF 6 Y (eqI_not.2 (N)) (gF 6 Y (eqI_not.2 (k8)) (gC 16 Y (E) (zbq 11 Y ?_)))));have C:aMq r (λk=>(yBq D k).nonce) v.number y P h q=(⟨y q,0,itZ⟩,P,h):=(Zg I).trans ((Zg K).trans ((Zg N).trans (Zg k8)));have Q:W.agg 240 [.int .u8 q.kind,.int .i64 (y q).code,.int .i64 (y q).height,dW (y q).dig,aW (y q).acct,rcW (y q).rc,(y q).pr.w,.int .i64 0,zIt]=rpW (y q):=by rw[rpW,hxk]
  have V:=j _ ⟨y q,0,itZ⟩ P h C (λμ=>Q▸edq (y q)) (Q▸hxp) ⟨_,rfl⟩;refine⟨.inr rfl,?_⟩;exact zCq 6 Y (⟨.inl rfl,_,rfl,rfl,V⟩)
 .refine zCq 3 Y (gT 0 Y (Zc not (eqI_not.2 (S))) (zbq 11 Y ?_));have C:mkq r (λk=>(yBq D k).nonce) v.number y P h l=(rvE 0 (rdQ l).2 0 itZ,P,h):=Zg S;exact Or.inr ⟨rfl,_,rfl,rfl,by rw[C];exact⟨λ_=>qXq qFq,qgq rfl,⟨_,rfl⟩,rfl,rfl⟩⟩
end
section
attribute [local irreducible] CoW OpW FlW aeq ajq
def mvK(l:List UInt8)(f:Bool):W:=.agg 38 [.int .u8 1,.fz (zcq l) 1 f,.agg 35 [.int .u8 0,.arr 32 1 (List.replicate 32 (.int .u8 0)),.int .u64 0,.int .i64 0],.int .i64 0]
@[simp] theorem Daq(l:List UInt8)(f:Bool):aaq (mvK l f)=true:=by
 show(true&&(aaq (.fz (zcq l) 1 f)&&_))=true;rw[show aaq (.fz (zcq l) 1 f)=true by simp[aaq]];kernel_rfl
theorem upS{G:Nat->Option W}{f:FuncId}{a:List W}{w:W}(h:PS cfg G f a w):PS cfgA G f a w:=upA h
theorem upE{G:Nat->Option W}{f:FuncId}{a:List W}{A:W->Prop}(h:PE cfg G f a A):PE cfgA G f a A:=upA h
section
variable {G:Nat->Option W}
theorem BTq(a:Au)(c:0<a.pool.length)(l:List UInt8)(f:Bool):PS cfg G 26 [amW a,mvK l f] (.bool true):=by
 have e:(a.pool.map shdW).length=a.pool.length:=Ze _;exact gI 11 Y (λR d=>gT 0 Y (Zc not (ltI_not.2 Xg)) (gZ 5 Y e (gT 0 Y (ltI_iff.2 Xd) (gF 14 Y (eqI_not.2 Xg) (gF 7 Y (eqI_not.2 Xg) (gF 5 Y (eqI_not.2 Xg) (gT 11 Y (Zc not (ltI_not.2 Xg)) (gT 3 Y (Zc not (ltI_not.2 Xg)) (gQa 5 Y)))))))))
end
theorem Dsq{m:Nat}{r:Ru}{v:Vw}{P:List Shd}{h:Hb}(g:GoodA m r P h)(U:m<=100)(H:OkC v.ch)(J:ggq v)(C:v.down=false)(F:Nat)(E:T)(M:IsA v.ch.tree F E)(x:Aq->Rp)(B:∀q,(x q).kind=q.kind/\PS cfg glK 76 [ruG r,vwG v,aqW q] (rpW (x q)))(Q:PS cfg glT 63 [vwG v] (vwG v))(l:List UInt8)(f:Bool)(O:l.length<=400){z:Rv×List Shd×Hb}(V:mkq r (λk=>(yBq E k).nonce) v.number x P h l=z):PS cfgA glT 10 [amW (auI r v P h),mvK l f] (.tup [amW (auI r v z.2.1 z.2.2),rvW z.1,.int .i64 0]):=by
 have j:=g.may (v:=v) Xd J;have y:=upS (zrq (w':=.int .i64 0) (lMq (auI r v P h) (g.ok Xd) (ggq v) (Yyq kkq (kZq v H))) (by rw[Zl j]));have A:=upS (BTq (G:=glT) (auI r v P h) j.pool.1.1 l f);have D:=upS (oTq (auI r v P h) (g.sm Xd) Q);have b:=ADq g U H J C F E M x B l f O;rw[V] at b;have I:=xhq (auI r v P h);have K:aaq (.fz (zcq l) 1 f)=true:=by simp[aaq]
 apply CZq;refine gIe 14 Y (λR X=>gC 0 Y (y) (gF 0 Y zN (gC 8 Y A (gC 11 Y (D) (gT 11 Y (eqI_iff.2 (rfl)) (zbq 8 Y ?_))))));skip
 refine gSo 0 Y (zDq (ext:=[4]) (ws:=[.ptr 0 0,.fz (zcq l) 1 f]) Y Y Y Y (by show [_,W.fz (zcq l) 1 f]=[_,adq _ (W.fz (zcq l) 1 f)];rw[zdq K];rfl) b Xg Xg Xi (yYq (by rw[zdq I];rfl) (zaq I)) (by show(true&&(agq 1 (.fz (zcq l) 1 f)&&true))=true;rw[zaq K];rfl) ?_);rintro w S N ⟨hvw,hw,⟨L,rfl⟩,rfl,rfl⟩;have a:=xhq (auI r v z.2.1 z.2.2);rw[ahq,ahq,zZq a,zdq (zLq _),zdq hw];skip
 exact zbq 17 Y (ybq (w':=.tup [amW (auI r v z.2.1 z.2.2),rvW z.1,.int .i64 0]) Jr rfl (.tup (.cons (.pur a) (.cons (hvw _) (.cons (.pur rfl) .nil)))) (by show(aaq (amW _)&&(aaq (rvW z.1)&&(true&&true)))=true;rw[a,ytq];rfl) rfl)
def t6q(a:List Pr):Prop:=∀p∈a,(kYq p.2).2=0
theorem nIq{t:Tree}{n:Nat}{b:T}(h:IsT t n b):l5q t↔t6q b.all:=by
 constructor
 .rintro⟨f,j,d⟩;have g:n=f:=by have:=h.root;have:=d.root;omega
  subst g;rw[h.rep.uniq d.rep];exact d.held
 .exact λq=>⟨n,b,h,q⟩
theorem nGq(k:Dig)(v:List UInt8):aUq [(k,v)]↔pcq v=true:=by
 constructor
 .intro h;exact(h.2 0 Xi _ rfl).1
 .intro h;refine⟨by simp,λi b x a=>?_⟩;obtain rfl:i=0:=by simpa using b
  cases a;exact⟨h,λy c=>by omega⟩
theorem nHq{l:List Pr}(h:aUq l):Srt l:=by
 have c:∀n i j (b:i<l.length) (a:j<l.length),i+n+1=j->yrq l[i].1 l[j].1=true:=by
  intro n;induction n with
  |zero=>
   intro i j b a e;subst e;exact(h.2 (i+1) a l[i+1] (Za a)).2 l[i] Xd (by show l[i+1-1]? =_;rw[Nat.add_sub_cancel];exact Za b)
  |succ n d=>
   intro i j b a e;have f:=d i (j-1) b Xd Xd;have k:=(h.2 j a l[j] (Za a)).2 l[j-1] Xd (Za Xd);exact vPq f k
 exact List.pairwise_iff_getElem.2 λi j b a g=>c (j-i-1) i j b a Xd
theorem gTq{l:List Pr}(h:Srt l){i:Nat}{x:Pr}(d:l[i]? =some x):ufq (l.take i) x.1 x.2=l.take (i+1):=by
 obtain⟨g,f⟩:=Zk.1 d
 have b:∀p∈l.take i,yrq p.1 x.1=true:=λp b=>by
  obtain⟨j,e⟩:=List.getElem?_of_mem b;obtain⟨c,a⟩:=Zk.1 e;rw[Zu] at c;rw[List.getElem_take] at a;rw[<-a,<-f];exact List.pairwise_iff_getElem.1 h j i Xd g Xd
 unfold ufq;rw[List.filter_eq_self.2 b,List.filter_eq_nil_iff.2 λp q=>by rw[kWq (b p q)];simp,YA,d];rfl
def okB(l:List Pr):Prop:=aUq l/\t6q l
instance(l:List Pr):Decidable (okB l):=Classical.propDecidable _
def Cmq(t:Tree)(a:T):Lk:=⟨tfq a,t.root,[],[],[]⟩
abbrev C8q(t:Tree)(b:T):W:=.agg 102 [hdW (tfq b),.int .i64 t.root,.agg 2 [.fz [] 34 false,.fz [] 99 false],.fz [] 34 false]
def pDq(t:Tree)(a:T):Ch:=⟨t,[Cmq t a]⟩
def ChNA(l:List Pr):W->Prop:=λw=>(¬okB l/\w= .tup [sGq,.int .i64 8])\/(okB l/\∃t n a,IsA t n a/\a.all=l/\t.nodes.length<=257*l.length/\w= .tup [chG (pDq t a),.int .i64 0])
theorem BBq(l:List Pr)(f:Bool)(V:l.length<=1000000000):PE cfg glK 21 [.fz (l.map pW) 33 f] (ChNA l):=by
 by_cases hm:aUq l
 .have P:=nHq hm;have e:(l.map pW).length=l.length:=Ze _;have H:=hm.1;refine gIe 10 Y (λR L=>gC 0 Y (zrq (w':=.int .i64 0) (KKq l f Xd) Yc) (gV (w':=.int .i64 (l.length:Int)) 21 Y Yj (zbq 4 Y (luq (jYq (b:=1) (w':=tW ⟨[],0⟩) rfl (.agg (.cons .nilfz (.cons (.pur rfl) .nil)))) ?_))));refine jzq (α:=Nat×Tree×T) (λp=>p.1<=l.length/\(∃n,IsT p.2.1 n p.2.2)/\p.2.2.all=l.take p.1/\p.2.1.nodes.length<=257*p.1) (λp=>[(22,.int .i64 (p.1:Int))]) [(2,_),(3,_),(5,_),(20,_),(21,_)] (λp=>[(1,35,tW p.2.1),(0,38,sGq)]) (λp=>l.length-p.1) ((0,⟨[],0⟩,.nil)) ⟨rfl,rfl,rfl,rfl,rfl,trivial⟩ (⟨Zf _,⟨0,by show(0:Nat)<=_;omega,λi x h=>by simp at h,rfl,.nil,rfl⟩,rfl,Zb _⟩) ⟨rfl,trivial⟩ (rfl) (λp J=>?_);obtain⟨i,t,m⟩:=p;obtain⟨K,⟨n,B⟩,F,G⟩:=J;simp only at K B F G⊢;refine zCq 6 Y ?_;refine gS 0 Y (λQ=>?_) (λQ=>?_)
  .have A:i<l.length:=by omega
   obtain⟨x,E⟩:∃x,l[i]? =some x:=⟨_,Za A⟩
   have S:aUq [(x.1,x.2)]:=(nGq x.1 x.2).2 (hm.2 i A x E).1;refine gP 6 Y (zyq (i:=i) Y Y Y Y Y Y Y (ziq pW E)) (gE 12 Y (wJq t n m x.1 x.2 false B S Xd) ?_);rintro w U ⟨t',n',ht',⟨ms,hms,hml⟩,rfl⟩;refine gFa 12 Y (gA 12 Y (i+1) (zbq 2 Y ?_));have j:(m.put x.1 x.2 256).all=l.take (i+1):=by rw[(k4q x.1 x.2 256 m (d:=0) (b:=zeroD) rfl vmq B.ok (Zf _)).2,F];exact gTq P E
   exact u2q ((i+1,t',m.put x.1 x.2 256)) (⟨A,⟨n',ht'⟩,j,by show t'.nodes.length<=_;rw[hms,Zh];omega⟩) Xu (Zf _) ⟨rfl,trivial⟩ ⟨rfl,rfl,rfl,rfl,rfl,trivial⟩ Xh Xh Xd Xk Xt
  .have A:i=l.length:=by omega
   have j:m.all=l:=by rw[F,A,List.take_length]
   have y:=nIq B;rw[j] at y;by_cases C:t6q l
   .skip
    have M:l5q t:=y.2 C;obtain⟨I,O,D⟩:=M;refine zbq 2 Y (qQq Xj (zRq 6 Y (gC 0 Y (zrq (w':=.int .i64 0) (kuq t Xd) (by rw[Zl ⟨I,O,D⟩])) (gFa 6 Y (gC 8 Y (rIq t n m B) (gC 11 Y gQq (gV (w':=hdW (tfq m)) 0 Y (by show W.agg 98 [_,W.arr 32 1 (List.replicate 32 (.int .u8 (.ofNat 0))),_,_,_]=_;rw[vKq];rfl) (zbq 18 Y ?_))))))));refine ybq (w':=.tup [.agg 3 [tW t,.fz [C8q t m] 102 false],.int .i64 0]) Jr rfl (.tup (.cons (.agg (.cons (.pur Xi) (.cons (.sl2 (full:=false) (c':=C8q t m) (xs:=[C8q t m]) rfl (.agg (.cons (.pur (iNq _)) (vR (.cons (.agg (.cons .nilfz (.cons .nilfz .nil))) (.cons .nilfz .nil))))) rfl Xj) .nil))) (.cons (.pur rfl) .nil))) Yz (.inr ⟨⟨hm,C⟩,t,n,m,?_,j,by rw[<-A];exact G,rfl⟩);exact⟨B,by rw[j];exact C⟩
   .exact zbq 2 Y (qQq Xj (zRq 6 Y (gC 0 Y (zrq (w':=.int .i64 8) (kuq t Xd) (by rw[Zg (λq=>C (y.1 q))])) (gTa 6 Y (zbq 13 Y (ybq (w':=.tup [sGq,.int .i64 8]) Jr rfl (.pur rfl) rfl (.inl ⟨λq=>C q.2,rfl⟩)))))))
 .skip
  exact gIe 10 Y (λR L=>gC 0 Y (zrq (w':=.int .i64 8) (KKq l f Xd) (by rw[Zg hm])) (zbq 20 Y (ybq (w':=.tup [sGq,.int .i64 8]) Jr rfl (.pur rfl) rfl (.inl ⟨λq=>hm q.1,rfl⟩))))
end
abbrev Fs:=List (List UInt8)
def flW(l:Fs):W:=.fz (l.map bW) 1 false
@[simp] theorem kgq(l:Fs):aaq (flW l)=true:=(Xmq l:acq (l.map bW)=true)
def lkW(o:Int):W:=.agg 2 [.int .i64 o,.nils]
theorem uvq:∀l:List Int,acq (l.map lkW)=true
 |[]=>rfl
 |o::l=>by show(true&&acq (l.map lkW))=true;rw[uvq l];rfl
structure Cl where
 (at_:Nat) (pc:Nat) (ask:Aq) (vw:Option Vw) (rp:Rv)
def vwO:Option Vw->W
 |some v=>vwG v
 |none=>wdq
@[simp] theorem gEq(v:Option Vw):aaq (vwO v)=true:=by cases v<;>first|rfl|exact kbq _
def clR(b:Fs)(i p a v r:W):W:=.agg 383 [flW b,i,p,a,v,r]
def clW(a:Fs)(c:Cl):W:=clR a (.int .i64 (c.at_:Int)) (.int .u8 (c.pc:Int)) (aqW c.ask) (vwO c.vw) (rvW c.rp)
@[simp] theorem dHq(a:Fs)(c:Cl):aaq (clW a c)=true:=by
 show(aaq (flW a)&&(true&&(true&&(aaq (aqW c.ask)&&(aaq (vwO c.vw)&&(aaq (rvW c.rp)&&true))))))=true;rw[kgq,zLq,gEq,ytq];rfl
structure TrE where
 (kind:Int) (call:Nat) (frame:List UInt8) (rp:Rv)
def mvZ:W:=.agg 38 [.int .u8 0,.fz [] 1 false,.agg 35 [.int .u8 0,dW zeroD,.int .u64 0,.int .i64 0],.int .i64 0]
def trW(t:TrE):W:=.agg 282 [.int .u8 t.kind,.int .i64 0,.int .i64 (t.call:Int),bW t.frame,rvW t.rp,mvZ]
theorem sIq:aaq mvZ=true:=by decide+kernel
@[simp] theorem rKq(t:TrE):aaq (trW t)=true:=by
 show(true&&(true&&(true&&(aaq (bW t.frame)&&(aaq (rvW t.rp)&&(aaq mvZ&&true))))))=true;rw[Jiq,ytq,sIq];rfl
theorem qBq(l:List TrE):acq (l.map trW)=true:=yvq rKq l
def euq(l:List W):Option (List W):=match l with
 |[]=>none
 |x::r=>some (x::r)
theorem jJq(l:List W):(euq l).getD []=l:=by cases l<;>rfl
def tlW(l:List W):W:=match l with
 |[]=>.nils
 |x::r=>.fz (x::r) 282 false
theorem gRq{l:List W}(h:acq l=true):aaq (tlW l)=true:=by cases l<;>first|rfl|exact h
def evZ:W:=.agg 100 [.int .i64 0,.bool false,.agg 98 [.int .i64 0,z32,z32,z32,.int .i64 0]]
def exZ:W:=.agg 106 [.int .u8 0,.int .i64 0,.nils,.nils,.nils,.int .u64 0,evZ]
theorem x1q:aaq exZ=true:=by decide+kernel
def wdR(r:Ru)(L:W)(v:Vw)(P:List Shd)(h:Hb)(C T:W):W:=.agg 158 [ruG r,L,vwG v,plW P,hbW h,C,exZ,.nils,.nils,T]
structure Wd where
 (locks:List Int) (pool:List Shd) (hub:Hb) (cl:Cl) (tr:List TrE)
def wdW(r:Ru)(v:Vw)(a:Fs)(w:Wd):W:=wdR r (.fz (w.locks.map lkW) 2 false) v w.pool w.hub (.fz [clW a w.cl] 383 false) (tlW (w.tr.map trW))
theorem cwq(r:Ru){L:W}(v:Vw)(P:List Shd)(h:Hb){C T:W}(a:aaq L=true)(b:aaq C=true)(c:aaq T=true):aaq (wdR r L v P h C T)=true:=by
 show(aaq (ruG r)&&(aaq L&&(aaq (vwG v)&&(aaq (plW P)&&(aaq (hbW h)&&(aaq C&&(aaq exZ&&(true&&(true&&(aaq T&&true))))))))))=true;rw[jHq,a,kbq,jwq,xeq,b,x1q,c];rfl
@[simp] theorem ZLq(r:Ru)(v:Vw)(a:Fs)(w:Wd):aaq (wdW r v a w)=true:=cwq r v _ _ (uvq _) (by show(aaq (clW a w.cl)&&true)=true;rw[dHq];rfl) (gRq (qBq _))
section
attribute [local irreducible] CoW OpW FlW aeq ajq
variable {G:Nat->Option W}
theorem rbq:PS cfg G 170 [.nils] .nils:=by
 refine c3q (fn:=Tryz.f170) Y Y Y (Yb rfl) (λR a=>?_);skip
 exact zCq 20 Y (gQa 0 Y)
theorem AEq(o:Int):PS cfg G 100 [lkW o] (lkW o):=by
 exact gI 10 Y (λR a=>gC 0 Y (rbq) (gQa 11 Y))
theorem eEq(o:Int):PS cfg G 225 [lkW o] (.fn 254 [] [.fel (lkW o)]):=by
 refine gI 13 Y (λR b=>?_);refine ySq (fr2:=[(2,_)]) Xo ?_ Y Y
 (repeat (first|exact trivial|refine And.symm ⟨?_,_,rfl,?_⟩))<;>(repeat (first|exact .nil|refine .cons ?_ ?_|refine .fn ?_ ?_|(refine y5q Y ?_ rfl;(first|rfl|(focus (simp;done))))|(refine .sl Y ?_ rfl Xj;(first|rfl|(focus (simp;done))))|(refine .pur ?_;(first|rfl|(focus (simp;done))))|refine .agg ?_|refine .arr ?_|refine .tup ?_))
def p5q(y:Int×Int):List W:=[.int .i64 y.1,.int .i64 y.2]
theorem eGq:quq cfg G 254 [.fel (lkW 0)] (([]:List (Int×Int)).map p5q):=by
 refine xdq (fn:=Tryz.f254) Y Y Y (Yb rfl) (λL E R b c=>?_);exact zCq 5 Y (gT 0 Y (eqI_iff.2 (rfl)) (zbq 12 Y (j7q Jr rfl b)))
theorem eFq:quq cfg G 254 [.fel (lkW 1)] ([((1:Int),(0:Int))].map p5q):=by
 refine xdq (fn:=Tryz.f254) Y Y Y (Yb rfl) (λL E R h k=>?_);refine zCq 5 Y (gF 0 Y (eqI_not.2 Xg) ?_);refine gSo 4 Y (qWq Y Y Y (h) (λb R1 g=>?_));refine gS 4 Y (λd=>?_) (λd=>?_)
 .cases b with
  |true=>cases d
  |false=>
   exact zHq 2 Y (j7q Jr rfl g)
 .cases b with
  |false=>exact absurd rfl d
  |true=>
   refine zHq 6 Y (gL 0 Y ?_);refine gLo (α:=Nat) 4 (λi=>i=0) (λi=>[(18,.int .i64 (i:Int))]) [0,16,17] (λi=>0) (0) rfl (rfl) (λi j=>?_);subst j;exact gO 9 Y (zbq 1 Y (j7q (.inl rfl) rfl g))
theorem KSq:PS cfg G 224 [.int .i64 1] (.bool true):=by
 exact gI 8 Y (λR a=>gT 0 Y (Zc not (ltI_not.2 Xg)) (gT 2 Y (Zc not (ltI_not.2 Xg)) (gQa 5 Y)))
theorem Xcq{l:List (Int×Int)}:∀y∈l,acq (p5q y)=true/\(p5q y).length=2:=λy _=>⟨rfl,rfl⟩
theorem nOq:PS cfg G 173 [lkW 0,.int .i64 1] (.int .i64 (-1)):=by
 refine gI 11 Y (λR g=>gC 0 Y (eEq _) (zbq 3 Y ?_));refine xwq (p5q) (([]:List (Int×Int))) (λi=>i=0) rfl Xm (eGq) (Xcq) (rfl) (λi y b d=>?_) (λd=>?_)
 .exfalso;simp at b
 .exact zRq 8 Y (gQa 0 Y)
theorem nNq:PS cfg G 173 [lkW 1,.int .i64 1] (.int .i64 0):=by
 refine gI 11 Y (λR g=>gC 0 Y (eEq _) (zbq 3 Y ?_));refine xwq (p5q) ([((1:Int),(0:Int))]) (λi=>i=0) rfl Xm (eFq) (Xcq) (rfl) (λi y d c=>?_) (λc=>?_)
 .subst c;cases d;exact zCq 8 Y (Yxq (zCq 5 Y (gT 0 Y (eqI_iff.2 (rfl)) (zbq 11 Y (jIq Xj (zRq 2 Y (gQa 0 Y)))))))
 .exfalso;simp at c
theorem sTq:PS cfg G 223 [lkW 0] (.int .i64 0):=by
 refine gI 11 Y (λR d=>?_);refine gT 0 Y (eqI_iff.2 (rfl)) ?_;refine gL 3 Y ?_;refine gF 0 Y (ltI_not.2 Xg) ?_;refine gF 4 Y zN ?_;refine gC 16 Y (eEq _) ?_;refine zbq 3 Y ?_;refine xwq (p5q) (([]:List (Int×Int))) (λi=>i=0) rfl Xm (eGq) (Xcq) (rfl) (λi y b c=>?_) (λc=>?_)
 .exfalso;simp at b
 .refine zRq 8 Y ?_;exact gQa 0 Y
theorem sSq:PS cfg G 223 [lkW 1] (.int .i64 0):=by
 refine gI 11 Y (λR g=>gF 0 Y (eqI_not.2 Xg) (gT 9 Y (Zc not (eqI_not.2 Xg)) (gC 3 Y KSq (gC 12 Y (eEq _) (zbq 3 Y ?_)))));refine uIq (p5q) ([((1:Int),(0:Int))]) (λi (_:Unit)=>True) (λ_=>R) (()) rfl Xm (eFq) (Xcq) (trivial) rfl (λi a y d f=>?_) (λa f=>?_)
 .obtain rfl:i=0:=by have:=yGq d;simpa using this
  cases d;exact zCq 8 Y (Yxq (zCq 4 Y (gC 0 Y KSq (gC 4 Y (nNq) (gF 1 Y zN (zbq 6 Y (v3q (()) (trivial) Xd Xx rfl)))))))
 .exact zRq 8 Y (gQa 0 Y)
theorem sWq:PS cfg G 172 [lkW 0,.int .i64 1] (.int .i64 0):=by
 exact gI 10 Y (λR a=>gC 0 Y (sTq) (gF 6 Y zN (gC 9 Y KSq (gQa 12 Y))))
theorem sVq:PS cfg G 172 [lkW 1,.int .i64 1] (.int .i64 0):=by
 exact gI 10 Y (λR a=>gC 0 Y (sSq) (gF 6 Y zN (gC 9 Y KSq (gQa 12 Y))))
theorem sNq:PS cfg G 105 [lkW 0,.int .i64 1] (.tup [lkW 1,.bool true,.int .i64 0]):=by
 exact gI 13 Y (λR a=>gC 0 Y (sWq) (gF 6 Y zN (gC 10 Y (nOq) (gF 0 Y (Zc not (ltI_iff.2 Xg)) (gC 8 Y (AEq 0) (gT 8 Y (eqI_iff.2 (rfl)) (gQa 20 Y)))))))
theorem nJq:zUq cfg G 175 1 [.ptr 0 0] [(0,323,.agg 1 [.nils])] λw c b=>w= .int .i64 0/\c=[(0,323,.agg 1 [.nils])]/\b=1:=by
 intro R;refine gIs 12 Y (λd=>?_);refine gL 0 Y ?_;refine gF 0 Y (ltI_not.2 Xg) ?_;refine zbq 12 Y ?_;exact fin Jr (zvq (nw2:=1) (fr2:=[(2,.int .i64 0)]) (hp2:=[(0,323,.agg 1 [.nils])]) Xg Xg ⟨rfl,trivial⟩ rfl (zoq ⟨⟨by decide,rfl,rfl⟩,trivial⟩) Xi) rfl ⟨rfl,rfl,rfl,rfl⟩
theorem sRq:PS cfg G 107 [lkW 1,.int .i64 1] (.tup [lkW 0,.int .i64 0,.int .i64 0]):=by
 refine gI 13 Y (λR c=>gC 0 Y (sVq) (gF 6 Y zN (gF 11 Y zN (gC 9 Y (rbq) (zbq 8 Y ?_)))));skip
 refine gSo 0 Y (zDq (ext:=[2]) (ws:=[.ptr 0 0]) Y Y Y Y Y nJq Xg Xg Xi (yYq Y Y) Y ?_);rintro w a b ⟨rfl,rfl,rfl⟩;skip
 exact gQa 18 Y
end
section
attribute [local irreducible] CoW OpW FlW aeq ajq
section
variable {G:Nat->Option W}
theorem Eiq:PS cfg G 66 [.nils] .nils:=by
 refine c3q (fn:=Tryz.f66) Y Y Y (Yb rfl) (λR a=>?_);skip
 exact zCq 20 Y (gQa 0 Y)
theorem cl0p:PS cfg G 67 [.nils] .nils:=by
 refine c3q (fn:=Tryz.f67) Y Y Y (Yb rfl) (λR a=>?_);skip
 exact zCq 20 Y (gQa 0 Y)
theorem DEq:PS cfg G 18 [.nils] .nils:=by
 refine c3q (fn:=Tryz.f18) Y Y Y (Yb rfl) (λR a=>?_);skip
 exact zCq 20 Y (gQa 0 Y)
def frs(l:Fs):W:=.arr (l.length*1) 1 (l.map bW)
theorem omq(l:List (List UInt8))(f:Bool)(A:l.length<=1000000000):zUq cfg G 38 0 [.fz (l.map bW) 1 f] [] λw u q=>
  (l=[]/\w= .nils/\u=[]/\q=0)\/(w= .sl 0 0 0 l.length 1 none/\u=[(0,70,frs l)]/\q=1):=by
 intro R;have e:(l.map bW).length=l.length:=Ze _;have d:aaq (frs l)=true:=(yvq (λx=>by simp) l:acq (l.map bW)=true);refine gIs 9 Y (λB=>?_);first|refine z5q Y Y ?_|refine zhq rfl (qDq Y Y Y Y Y (λv y=>?_))
 refine zeq 2 Y ?_;refine gS 0 Y (λj=>?_) (λj=>?_)
 .cases v with
  |false=>cases j
  |true=>
   obtain rfl:l=[]:=List.map_eq_nil_iff.1 (y rfl);exact zHq 7 Y (fin Jr Ent.refl rfl ⟨rfl,.inl ⟨rfl,rfl,rfl,rfl⟩⟩)
 .cases l with
  |nil=>
   skip
   exact zHq 6 Y (gM 0 Y (yLq Y Y (jDq Y Y Y Y Y)) (zbq 4 Y (fin Jr Ent.refl rfl ⟨rfl,.inr ⟨rfl,rfl,rfl⟩⟩)))
  |cons c l=>
   refine zHq 6 Y (gM 0 Y (yLq Y Y (qxq (len:=0) (news:=(c::l).map bW) (olds:=[]) (k:=wLq) Y Y Y Y Y Xi (by show(0+((c::l).map bW).length)*24<=_;rw[e];omega) Yk rfl (by show 0<0+(0+((c::l).map bW).length)*1;rw[e];simp only[Zo];omega) Y Y)) (zbq 4 Y ?_));refine fin Jr (yiq (b:=0) (k:=1) (fr2:=[(2,.sl 0 0 0 (c::l).length 1 none)]) (hp2:=[(0,70,frs (c::l))]) Xd Xd Ql ⟨⟨?_,rfl⟩,trivial⟩ ⟨⟨by omega,?_,zaq d⟩,trivial⟩ Xi) rfl ⟨rfl,.inr ⟨rfl,rfl,rfl⟩⟩
   .show some (W.sl 1 0 0 (0+((c::l).map bW).length) 1 none)=some (W.sl 1 0 0 (c::l).length 1 none);rw[e,ZG]
   .rw[zdq d];show some (70,W.arr ((0+((c::l).map bW).length)*1) 1 ([]++(c::l).map bW))=some (70,frs (c::l));rw[e,ZG];rfl
theorem frs_get(l:Fs){i:Nat}{x:List UInt8}(h:l[i]? =some x):zGq 50 (frs l) (0+i*1+0) 1 false=some (bW x):=
 klq (ziq bW h) Xd Xd Xi rfl
theorem s7q(l:Fs){i:Nat}{x:List UInt8}(h:l[i]? =some x):z7q 50 (frs l) (0+i*1+0) (bW x)=some (frs l):=by
 have a:=ziq bW h;rw[frs,v5q (x':=bW x) a Xd Xd (by simp[W.isAgg,bW]) rfl,jrq a]
theorem ePq(l:Fs)(f:Bool)(q:l.length<=1000000000)(u:∀x∈l,x.length<=70368744177664):PS cfg G 19 [.fz (l.map bW) 1 f] (flW l):=by
 have g:aaq (frs l)=true:=(Xmq l:acq (l.map bW)=true);refine gIv 8 Y (λR A=>?_);skip
 refine gSo 0 Y (yMq Y Y Y Y Y Yd (omq l f q) ?_);rintro w y o (⟨rfl,rfl,rfl,rfl⟩|⟨rfl,rfl,rfl⟩)
 .skip
  skip
  refine gL 7 Y ?_;refine gLo (α:=Nat) 4 (λi=>i=0) (λi=>[(9,.int .i64 (i:Int))]) [2,3,8] (λi=>1-i) (0) rfl (rfl) (λi j=>?_);subst j;exact gO 9 Y (zbq 9 Y (y0q Jr rfl .nilfz))
 .rw[zZq g];refine gL 7 Y ?_;refine gLo (α:=Nat) 4 (λi=>i<=l.length) (λi=>[(9,.int .i64 (i:Int))]) [2,3,8] (λi=>l.length-i) (0) rfl (Zf _) (λi j=>?_);refine gS 6 Y (λm=>?_) (λm=>?_)
  .have b:i<l.length:=by omega
   obtain⟨x,d⟩:∃x,l[i]? =some x:=⟨_,Za b⟩
   exact gP 15 Y (ypq (i:=i) Y Y Y Y Y Y Y b) (gM 0 Y (zwq Y Y Y (frs_get l d)) (gC 0 Y (jOq x false (u x (Zj d))) (gP 0 Y (ypq (i:=i) Y Y Y Y Y Y Y b) (gM 0 Y (kdq Y Y Y Y Y (s7q l d)) (gA 4 Y (i+1) (gAg 2 Y (i+1) (b) Xd))))))
  .exact gO 2 Y (zbq 9 Y (y0q Jr rfl (.sl (full:=false) (c:=frs l) rfl (Xmq l) (zqq Xg Xi rfl) Xj)))
theorem AHq(l:List W)(j:acq l=true)(c:2<=l.length)(u:l.length<=1000000):zUq cfg G 99 0 [.fz l 2 false] [] λw j v=>w= .sl 0 0 0 l.length 2 none/\j=[(0,144,.arr (l.length*2) 2 l)]/\v=1:=by
 intro R;have d:l≠[]:=λq=>by rw[q] at c;simp at c
 have g:aaq (.arr (l.length*2) 2 l)=true:=j;refine gIs 9 Y (λy=>?_);first|refine z5q Y Y ?_|refine zhq rfl (qDq Y Y Y Y Y (λt x=>?_))
 refine zeq 2 Y ?_;refine gS 0 Y (λm=>?_) (λm=>?_)
 .skip
  cases t with
  |false=>cases m
  |true=>exact absurd (x rfl) d
 .refine gM 6 Y (yLq Y Y (qxq (len:=0) (news:=l) (olds:=[]) (k:=wMq) Y Y Y Y Y d (by show(0+l.length)*32<=_;omega) Xd rfl (by show 0<0+(0+l.length)*2;omega) Y Y)) (zbq 4 Y ?_);refine fin Jr (yiq (b:=0) (k:=1) (fr2:=[(2,.sl 0 0 0 l.length 2 none)]) (hp2:=[(0,144,.arr (l.length*2) 2 l)]) Xd Xd Ql ⟨⟨?_,rfl⟩,trivial⟩ ⟨⟨by omega,?_,zaq g⟩,trivial⟩ Xi) rfl ⟨rfl,rfl,rfl,rfl⟩
  .show some (W.sl 1 0 0 (0+l.length) 2 none)=_;rw[ZG];rfl
  .rw[zdq g];show some (144,W.arr ((0+l.length)*2) 2 ([]++l))=_;rw[ZG];rfl
theorem BGq(l:List W)(g:acq l=true)(c:l≠[])(t:l.length<=1000000):zUq cfg G 101 0 [.fz l 383 false] [] λw g u=>w= .sl 0 0 0 l.length 383 none/\g=[(0,96,.arr (l.length*383) 383 l)]/\u=1:=by
 intro R;have d:aaq (.arr (l.length*383) 383 l)=true:=g;have x:l.length≠0:=λq=>c (ZZ.1 q)
 refine gIs 9 Y (λy=>?_);first|refine z5q Y Y ?_|refine zhq rfl (qDq Y Y Y Y Y (λm v=>?_))
 refine zeq 2 Y ?_;refine gS 0 Y (λj=>?_) (λj=>?_)
 .skip
  cases m with
  |false=>cases j
  |true=>exact absurd (v rfl) c
 .refine gM 6 Y (yLq Y Y (qxq (len:=0) (news:=l) (olds:=[]) (k:=CGq) Y Y Y Y Y c (by show(0+l.length)*680<=_;omega) Xd rfl (by show 0<0+(0+l.length)*383;omega) Y Y)) (zbq 4 Y ?_);refine fin Jr (yiq (b:=0) (k:=1) (fr2:=[(2,.sl 0 0 0 l.length 383 none)]) (hp2:=[(0,96,.arr (l.length*383) 383 l)]) Xd Xd Ql ⟨⟨?_,rfl⟩,trivial⟩ ⟨⟨by omega,?_,zaq d⟩,trivial⟩ Xi) rfl ⟨rfl,rfl,rfl,rfl⟩
  .show some (W.sl 1 0 0 (0+l.length) 383 none)=_;rw[ZG];rfl
  .rw[zdq d];show some (96,W.arr ((0+l.length)*383) 383 ([]++l))=_;rw[ZG];rfl
theorem wHq(l:List W)(d:acq l=true)(u:l.length<=1000000):zUq cfg G 102 0 [tlW l] [] λw d v=>w=oW 0 282 (euq l)/\d=oH 0 87 282 (euq l)/\v=(euq l).elim 0 λ_=>1:=by
 intro R;cases l with
 |nil=>
  refine ZSq (fn:=Tryz.f102) Y Y Y (Yb rfl) (λC=>?_);skip
  exact zCq 20 Y (fin Jr Ent.refl rfl ⟨rfl,rfl,rfl,rfl⟩)
 |cons x r=>
  obtain⟨l,y⟩:∃l,l=x::r:=⟨_,rfl⟩
  have c:l≠[]:=by rw[y];simp
  show ajq cfg G _ 0 [.fz (x::r) 282 false] [] R λw d v R'=>R'=R/\(w= .sl 0 0 0 (x::r).length 282 none/\d=[(0,87,.arr ((x::r).length*282) 282 (x::r))]/\v=1)
  rw[<-y] at d u⊢;have j:aaq (.arr (l.length*282) 282 l)=true:=d;have E:l.length≠0:=λq=>c (ZZ.1 q)
  refine gIs 9 Y (λC=>?_);first|refine z5q Y Y ?_|refine zhq rfl (qDq Y Y Y Y Y (λB D=>?_))
  refine zeq 2 Y ?_;refine gS 0 Y (λA=>?_) (λA=>?_)
  .skip
   cases B with
   |false=>cases A
   |true=>exact absurd (D rfl) c
  .refine gM 6 Y (yLq Y Y (qxq (len:=0) (news:=l) (olds:=[]) (k:=B8q) Y Y Y Y Y c (by show(0+l.length)*528<=_;omega) Xd rfl (by show 0<0+(0+l.length)*282;omega) Y Y)) (zbq 4 Y ?_);refine fin Jr (yiq (b:=0) (k:=1) (fr2:=[(2,.sl 0 0 0 l.length 282 none)]) (hp2:=[(0,87,.arr (l.length*282) 282 l)]) Xd Xd Ql ⟨⟨?_,rfl⟩,trivial⟩ ⟨⟨by omega,?_,zaq j⟩,trivial⟩ Xi) rfl ⟨rfl,rfl,rfl,rfl⟩
   .show some (W.sl 1 0 0 (0+l.length) 282 none)=_;rw[ZG];rfl
   .rw[zdq j];show some (87,W.arr ((0+l.length)*282) 282 ([]++l))=_;rw[ZG];rfl
end
end
end
end
end Go.Proofs.YtcoldbcijgmidaaGreatDoor

/-
  What the proof of AutoReturns stands on, part 8. No condition.
-/
import Derived.OpenShut
import Derived.Test.YtpjfmknefefapaaGreatDoorZAutoReturnsG
set_option linter.unusedSimpArgs false
set_option linter.unusedVariables false
namespace Go.Proofs.YtpjfmknefefapaaGreatDoor
section
open Go.RowKit
noncomputable def bkN(t0:T)(a:Au)(j:Nat):Au:=⟨a.ru,a.vw,a.pool.mapIdx λi s=>if i<j then bkL t0 s (ownX a.pool.length i a.back) else s,a.drawn,a.back.filter λx=>decide (j<=atE (keyD x.pub) a.pool.length),a.wait,a.count,a.tells,a.hub⟩
section
variable {t0:T} {a:Au} {i j m:Nat} {s:Shd}
theorem ksq:(bkN t0 a j).pool.length=a.pool.length:=List.length_mapIdx
theorem vCq:(bkN t0 a j).pool[i]? =(a.pool[i]?).map λs=>if i<j then bkL t0 s (ownX a.pool.length i a.back) else s:=List.getElem?_mapIdx
theorem bkN_0:bkN t0 a 0=a:=by
 have h1:(bkN t0 a 0).pool=a.pool:=List.ext_getElem? λi=>by rw[vCq];cases a.pool[i]? <;>simp
 have h2:(bkN t0 a 0).back=a.back:=List.filter_eq_self.2 λx _=>by simp
 show Au.mk a.ru a.vw (bkN t0 a 0).pool a.drawn (bkN t0 a 0).back a.wait a.count a.tells a.hub=a;rw[h1,h2]
theorem bkN_own:ownX a.pool.length j (bkN t0 a j).back=ownX a.pool.length j a.back:=by
 show List.filter _ (List.filter _ _)=List.filter _ _;rw[List.filter_filter];refine List.filter_congr λx _=>?_
 by_cases h:atE (keyD x.pub) a.pool.length=j<;>simp[h]
theorem bkN_succ(hs:a.pool[j]? =some s):bkA t0 (bkN t0 a j) j s=bkN t0 a (j+1):=by
 have h1:bkP t0 (bkN t0 a j).pool j s (bkN t0 a j).back=(bkN t0 a (j+1)).pool:=by
  unfold bkP;rw[ksq,bkN_own];refine List.ext_getElem? λi=>?_
  rw[List.getElem?_set,ksq,vCq,vCq];split
  ·rename_i e;subst e;rw[hs,if_pos (y7q hs)];simp
  ·rename_i e;cases a.pool[i]? with
   |none=>rfl
   |some z=>
    by_cases q:i<j
    ·simp[q,show i<j+1 by omega]
    ·simp[q,show¬i<j+1 by omega]
 have h2:resX (bkN t0 a j).pool.length j (bkN t0 a j).back=(bkN t0 a (j+1)).back:=by
  rw[ksq];show List.filter _ (List.filter _ _)=List.filter _ _;rw[List.filter_filter];refine List.filter_congr λx _=>?_
  by_cases h:atE (keyD x.pub) a.pool.length=j
  ·simp[h]
  ·by_cases q:j<=atE (keyD x.pub) a.pool.length
   ·simp[h,q];omega
   ·simp[h,q];omega
 show Au.mk a.ru a.vw (bkP t0 (bkN t0 a j).pool j s (bkN t0 a j).back) a.drawn (resX (bkN t0 a j).pool.length j (bkN t0 a j).back) a.wait a.count a.tells a.hub=_;rw[h1,h2];rfl
theorem good0(hm:PlM a.pool)(hok:∀s∈a.pool,∀l∈s,OkL l)(hg:Few25 a)(hs:a.pool[i]? =some s):GoodS a.pool.length i 20 s:=by
 obtain⟨h1,h2⟩:=hm.2 i s hs;obtain⟨g1,g2⟩:=hg.pool.2 s (List.mem_of_getElem? hs);have ho:=hok s (List.mem_of_getElem? hs);refine⟨λl hl=>?_,pw_of (R:=λx y:Ln=>ypq x.who y.who=true) (λq1 q2=>Yzq q1 q2) (λk x y hx hy=>(h1 (k+1) y hy).2 x Xd (by rw[Nat.add_sub_cancel];exact hx)),by omega⟩;obtain⟨k,hk,hkl⟩:=List.mem_iff_getElem.1 hl;obtain⟨⟨h3,h4,h5⟩,_⟩:=h1 k l (by rw[List.getElem?_eq_getElem hk,hkl]);refine⟨⟨λx hx=>?_,pw_of (R:=λx y:Tx=>x.nonce<y.nonce) (λq1 q2=>Nat.lt_trans q1 q2) (λk x y hx hy=>(h5 (k+1) y hy).2 x Xd (by rw[Nat.add_sub_cancel];exact hx)),g2 l hl,Classical.byContradiction λq=>h2 ⟨l,hl,q⟩⟩,λq=>h3 (by rw[q];rfl)⟩;obtain⟨p,hp,hpx⟩:=List.mem_iff_getElem.1 hx;exact⟨(h5 p x (by rw[List.getElem?_eq_getElem hp,hpx])).1,(ho l hl).txs x hx⟩
theorem GoodS.mono{n i m m':Nat}{s:Shd}(h:GoodS n i m s)(q:m<=m'):GoodS n i m' s:=⟨λl hl=>⟨⟨(h.line l hl).1.own,(h.line l hl).1.srt,Nat.le_trans (h.line l hl).1.len q,(h.line l hl).1.at_⟩,(h.line l hl).2⟩,h.keys,Nat.le_trans h.len q⟩
structure BkR(a:Au):Prop where
 pl:PlM a.pool
 ok:∀s∈a.pool,∀l∈s,OkL l
 few:Few25 a
 back:∀x∈a.back,x.ok/\x.sign=jSq x
theorem BkR.own(h:BkR a):∀x∈ownX a.pool.length i a.back,BkX a.pool.length i x:=λx hx=>by
 obtain⟨h1,h2⟩:=List.mem_filter.1 hx;exact⟨(h.back x h1).1,(h.back x h1).2,of_decide_eq_true h2⟩
theorem ownX_len:(ownX a.pool.length i a.back).length<=a.back.length:=List.length_filter_le _ _
theorem Jvq(h:BkR a)(hs:(bkN t0 a j).pool[i]? =some s):GoodS a.pool.length i 40 s:=by
 rw[vCq] at hs;cases e:a.pool[i]? with
 |none=>rw[e] at hs;cases hs
 |some z=>
  rw[e] at hs;have g:=good0 h.pl h.ok h.few e;have hl:=ownX_len (a:=a) (i:=i);have:=h.few.back;obtain rfl:=Option.some.inj hs;simp only;split
  ·exact(Jwq g h.own).mono Xd
  ·exact g.mono Xd
theorem bkN_mem(h:BkR a)(hs:s∈(bkN t0 a j).pool):∃i,GoodS a.pool.length i 40 s:=by
 obtain⟨i,hi,e⟩:=List.mem_iff_getElem.1 hs;exact⟨i,Jvq h (by rw[List.getElem?_eq_getElem hi,e])⟩
theorem bkN_okl(h:BkR a):∀s∈(bkN t0 a j).pool,s.length<=1000000000/\∀l∈s,OkL l:=λs hs=>by
 obtain⟨i,g⟩:=bkN_mem h hs;exact⟨by have:=g.len;omega,λl hl=>⟨λx hx=>((g.line l hl).1.own x hx).2,by have:=(g.line l hl).1.len;omega⟩⟩
theorem bkN_sml(h:BkR a):∀s∈(bkN t0 a j).pool,s.length<=1000000000/\∀l∈s,l.txs.length<=1000000000:=λs hs=>by
 obtain⟨i,g⟩:=bkN_mem h hs;exact⟨by have:=g.len;omega,λl hl=>by have:=(g.line l hl).1.len;omega⟩
theorem bkN_pl(h:BkR a):PlM (bkN t0 a j).pool:=⟨by rw[ksq];exact h.pl.1,λi s hs=>by
 have g:=Jvq h hs;rw[ksq];exact⟨g.sh Xg,λ⟨l,hl,q⟩=>q (g.line l hl).1.at_⟩⟩
theorem bkN_sub:∀x∈(bkN t0 a j).back,x∈a.back:=λx hx=>(List.mem_filter.1 hx).1
theorem bkN_bl:(bkN t0 a j).back.length<=a.back.length:=List.length_filter_le _ _
theorem bkN_ok(h:BkR a)(o:OkAu a):OkAu (bkN t0 a j):=
 ⟨bkN_okl h,o.drawn,o.drawl,λx hx=>o.back x (bkN_sub x hx),by have:=bkN_bl (t0:=t0) (a:=a) (j:=j);have:=o.backl;omega,o.tells,o.subs,o.taps⟩
theorem bkN_sm(h:BkR a)(o:SmAu a):SmAu (bkN t0 a j):=
 ⟨by rw[ksq];exact o.pool,bkN_sml h,o.drawn,by have:=bkN_bl (t0:=t0) (a:=a) (j:=j);have:=o.back;omega,o.wait,o.tells,o.subs,o.taps⟩
theorem bkN_may{V:Prop}(h:BkR a)(hm:AuM V a):AuM V (bkN t0 a j):=
 ⟨hm.ru,hm.vw,bkN_pl h,by rw[ksq];exact hm.len,hm.block,hm.drawn,λ⟨x,hx,q⟩=>hm.back ⟨x,bkN_sub x hx,q⟩,hm.odd,hm.hub⟩
theorem bkN_end(h:1<=a.pool.length):(bkN t0 a a.pool.length).back=[]:=List.filter_eq_nil_iff.2 λx _=>by
 have:atE (keyD x.pub) a.pool.length<a.pool.length:=Nat.mod_lt _ h;simp;omega
theorem bkL_kept{n:Nat}{k:Dig}{c f:Nat}:∀{xs:List Tx} {s:Shd} {m:Nat},GoodS n i m s->(∀x∈xs,BkX n i x) ->Cov s k c f->Cov (bkL t0 s xs) k c f
 |[],_,_,_,_,hc=>hc
 |x::xs,s,m,h,hx,hc=>by
  have hx0:=hx x (List.mem_cons_self ..);refine bkL_kept (xs:=xs) (Juq (t0:=t0) h hx0) (λy hy=>hx y (List.mem_cons_of_mem _ hy)) ?_;unfold bkS;split
  ·exact hc
  ·exact put_kept h hx0.2.1 hx0.1 hx0.2.2 hc
theorem bkL_cov{n:Nat}{x:Tx}(hn:¬x.nonce<(kDq t0 (keyD x.pub)).nonce):∀{xs:List Tx} {s:Shd} {m:Nat},GoodS n i m s->(∀x∈xs,BkX n i x) ->x∈xs->Cov (bkL t0 s xs) (keyD x.pub) x.nonce x.fee
 |[],_,_,_,_,hc=>by cases hc
 |y::xs,s,m,h,hx,hc=>by
  have hx0:=hx y (List.mem_cons_self ..);have hr:=λz hz=>hx z (List.mem_cons_of_mem y hz)
  have hg:=Juq (t0:=t0) h hx0;rcases List.mem_cons.1 hc with rfl|hc
  ·refine bkL_kept (xs:=xs) hg hr ?_;unfold bkS;rw[if_neg hn];exact put_has h hx0.2.1 hx0.1 hx0.2.2
  ·exact bkL_cov hn (xs:=xs) hg hr hc
theorem bkN_cov(h:BkR a){x:Tx}(hx:x∈a.back)(hn:¬x.nonce<(kDq t0 (keyD x.pub)).nonce):∃s,(bkN t0 a a.pool.length).pool[atE (keyD x.pub) a.pool.length]? =some s/\Cov s (keyD x.pub) x.nonce x.fee:=by
 have hlt:atE (keyD x.pub) a.pool.length<a.pool.length:=Nat.mod_lt _ h.pl.1.1;obtain⟨s,hs⟩:∃s,a.pool[atE (keyD x.pub) a.pool.length]? =some s:=⟨_,List.getElem?_eq_getElem hlt⟩
 refine⟨_,by rw[vCq,hs,Option.map_some,if_pos hlt],?_⟩;exact bkL_cov hn (good0 h.pl h.ok h.few hs) h.own (List.mem_filter.2 ⟨hx,by simp⟩)
def HasX(ps:List Shd)(k:Dig)(c f:Nat):Prop:=∃s∈ps,∃l∈s,l.who=k/\∃y∈l.txs,y.nonce=c/\y.fee=f
theorem pw_one{α:Type}{R:α->α->Prop}{l:List α}(h:l.Pairwise R){x y:α}(hx:x∈l)(hy:y∈l)(h1:¬R x y)(h2:¬R y x):x=y:=by
 obtain⟨p,hp,rfl⟩:=List.mem_iff_getElem.1 hx;obtain⟨q,hq,rfl⟩:=List.mem_iff_getElem.1 hy;rcases Nat.lt_trichotomy p q with e|e|e
 ·exact absurd (pw_at h e (List.getElem?_eq_getElem hp) (List.getElem?_eq_getElem hq)) h1
 ·subst e;rfl
 ·exact absurd (pw_at h e (List.getElem?_eq_getElem hq) (List.getElem?_eq_getElem hp)) h2
theorem one_fee{ps:List Shd}{n m:Nat}(hg:∀i s,ps[i]? =some s->GoodS n i m s){s:Shd}{k:Dig}{c f f':Nat}(hs:ps[atE k n]? =some s)(hc:Cov s k c f)(hx:HasX ps k c f'):f<=f':=by
 obtain⟨s',hs',l',hl',hw',y',hy',hn',rfl⟩:=hx;obtain⟨l,hl,hw,y,hy,hn,hf⟩:=hc;obtain⟨i,hi,e⟩:=List.mem_iff_getElem.1 hs';have hs1:ps[i]? =some s':=by rw[List.getElem?_eq_getElem hi,e]
 have hi2:=((hg i s' hs1).line l' hl').1.at_;rw[hw'] at hi2;rw[hi2,hs1] at hs;obtain rfl:=Option.some.inj hs;have G:=hg i s' hs1;have hself:¬ypq k k=true:=by rw[ahead_self];decide
 obtain rfl:l'=l:=pw_one G.keys hl' hl (by rw[hw,hw'];exact hself) (by rw[hw,hw'];exact hself);obtain rfl:y'=y:=pw_one (G.line l' hl').1.srt hy' hy Xd Xd;exact hf
end
section
attribute [local irreducible] CoW OpW FlW Step Spec
variable {G:Nat->Option W}
set_option maxRecDepth 100000 in
theorem find25_s(ps:List Shd)(k:Dig)(c:Nat)(hl:ps.length<=1000000)(hx:∀s∈ps,s.length<=1000000000/\∀y∈s,y.txs.length<=1000000000):PE cfg G 12 [plW ps,dW k,.int .u64 (c:Int)] (λw=>∃(f:Nat) (b:Bool),w= .tup [.int .u64 (f:Int),.bool b]/\(b=true->HasX ps k c f)/\(b=false->∀f,¬HasX ps k c f)):=by
 have e:(ps.map shdW).length=ps.length:=List.length_map _;have hpp:=xeq ps;refine gIe 14 rfl (λR k0=>?_);refine gLo (α:=Nat) 0 (λi=>i<=ps.length/\∀(j:Nat) s,j<i->ps[j]? =some s->∀l∈s,l.who=k->∀y∈l.txs,y.nonce≠c) (λi=>[(8,.int .i64 (i:Int))]) [0,2,4,6,7] (λi=>ps.length-i) (0) rfl (⟨Nat.zero_le _,λj s h=>by omega⟩) (λi hI=>?_);obtain⟨i1,i2⟩:=hI;refine gZ 5 rfl e ?_;refine gS 3 rfl (λh1=>?_) (λh1=>?_)
 ·have hi:i<ps.length:=by omega
  obtain⟨s,hs⟩:∃s,ps[i]? =some s:=⟨_,List.getElem?_eq_getElem hi⟩
  obtain⟨b1,b2⟩:=hx s (List.mem_of_getElem? hs);have es:(s.map lnW).length=s.length:=List.length_map _;refine gLo (α:=Nat) 10 (λj=>j<=s.length/\∀(q:Nat) l,q<j->s[q]? =some l->l.who=k->∀y∈l.txs,y.nonce≠c) (λj=>[(9,.int .i64 (j:Int))]) [0,2,4,6,7,8,11,12,13,14] (λj=>s.length-j) (0) rfl (⟨Nat.zero_le _,λj s h=>by omega⟩) (λj hI=>?_);obtain⟨j1,j2⟩:=hI;refine gP 6 rfl (zGq (i:=i) rfl rfl rfl rfl rfl rfl rfl (zlq shdW hs)) (gZ 2 rfl es ?_);refine gS 3 rfl (λh2=>?_) (λh2=>?_)
  ·have hj:j<s.length:=by omega
   obtain⟨l,hlj⟩:∃l,s[j]? =some l:=⟨_,List.getElem?_eq_getElem hj⟩
   have b3:=b2 l (List.mem_of_getElem? hlj);have el:(l.txs.map txW).length=l.txs.length:=List.length_map _;refine gLo (α:=Nat) 10 (λp=>p<=l.txs.length/\∀(q:Nat) y,q<p->l.txs[q]? =some y->l.who=k->y.nonce≠c) (λp=>[(10,.int .i64 (p:Int))]) [0,2,4,6,7,8,9,11,12,13,14,17,18,19,20,21,22,23,24] (λp=>l.txs.length-p) (0) rfl (⟨Nat.zero_le _,λj s h=>by omega⟩) (λp hI=>?_);obtain⟨p1,p2⟩:=hI;skip
   by_cases hp:p<l.txs.length
   ·by_cases hw:l.who=k
    ·obtain⟨y,hy⟩:∃y,l.txs[p]? =some y:=⟨_,List.getElem?_eq_getElem hp⟩
     refine gP 6 rfl (zGq (i:=i) rfl rfl rfl rfl rfl rfl rfl (zlq shdW hs)) (gP 3 rfl (zGq (i:=j) rfl rfl rfl rfl rfl rfl rfl (zlq lnW hlj)) (gZ 2 rfl el (gT 0 rfl (ltI_iff.2 Xd) (gP 3 rfl (zGq (i:=i) rfl rfl rfl rfl rfl rfl rfl (zlq shdW hs)) (gP 3 rfl (zGq (i:=j) rfl rfl rfl rfl rfl rfl rfl (zlq lnW hlj)) (zdq 3 rfl (vRq (w':=.bool true) rfl (q4q rfl rfl rfl rfl (j3q rfl rfl rfl rfl rfl rfl _ _ 250)) (by rw[decide_eq_true hw]) (qHq 12 rfl (gP 0 rfl (zGq (i:=i) rfl rfl rfl rfl rfl rfl rfl (zlq shdW hs)) (gP 3 rfl (zGq (i:=j) rfl rfl rfl rfl rfl rfl rfl (zlq lnW hlj)) (gP 3 rfl (zGq (i:=p) rfl rfl rfl rfl rfl rfl rfl (zlq txW hy)) ?_)))))))))));refine gS 6 rfl (λh3=>?_) (λh3=>?_)
     ·exact gP 4 rfl (zGq (i:=i) rfl rfl rfl rfl rfl rfl rfl (zlq shdW hs)) (gP 3 rfl (zGq (i:=j) rfl rfl rfl rfl rfl rfl rfl (zlq lnW hlj)) (gP 3 rfl (zGq (i:=p) rfl rfl rfl rfl rfl rfl rfl (zlq txW hy)) (gO 9 rfl (gO 3 rfl (gO 3 rfl (zdq 2 rfl (yCq (w':=.tup [.int .u64 (y.fee:Int),.bool true]) Qm rfl (.pur rfl) rfl ⟨y.fee,true,rfl,λ_=>⟨s,List.mem_of_getElem? hs,l,List.mem_of_getElem? hlj,hw,y,List.mem_of_getElem? hy,by omega,rfl⟩,λq=>by cases q⟩)))))))
     ·exact gA 5 rfl (p+1) (gAg 2 rfl (p+1) (⟨by omega,λq z hq hz hw=>by rcases Nat.lt_succ_iff_lt_or_eq.1 hq with g|rfl;exact p2 q z g hz hw;obtain rfl:=Option.some.inj (hy.symm.trans hz);omega⟩) Xd)
    ·refine gP 6 rfl (zGq (i:=i) rfl rfl rfl rfl rfl rfl rfl (zlq shdW hs)) (gP 3 rfl (zGq (i:=j) rfl rfl rfl rfl rfl rfl rfl (zlq lnW hlj)) (gZ 2 rfl el (gT 0 rfl (ltI_iff.2 Xd) (gP 3 rfl (zGq (i:=i) rfl rfl rfl rfl rfl rfl rfl (zlq shdW hs)) (gP 3 rfl (zGq (i:=j) rfl rfl rfl rfl rfl rfl rfl (zlq lnW hlj)) (zdq 3 rfl (vRq (w':=.bool false) rfl (q4q rfl rfl rfl rfl (j3q rfl rfl rfl rfl rfl rfl _ _ 250)) (by rw[decide_eq_false hw]) (qHq 6 rfl (gO 0 rfl (gA 5 rfl (j+1) (zdq 2 rfl ?_)))))))))));skip
     exact gAg 0 rfl (j+1) (⟨by omega,λq z hq hz hk=>by rcases Nat.lt_succ_iff_lt_or_eq.1 hq with g|rfl;exact j2 q z g hz hk;obtain rfl:=Option.some.inj (hlj.symm.trans hz);exact absurd hk hw⟩) Xd
   ·exact gP 6 rfl (zGq (i:=i) rfl rfl rfl rfl rfl rfl rfl (zlq shdW hs)) (gP 3 rfl (zGq (i:=j) rfl rfl rfl rfl rfl rfl rfl (zlq lnW hlj)) (gZ 2 rfl el (gF 0 rfl (ltI_not.2 Xd) (gO 18 rfl (gA 5 rfl (j+1) (gAg 2 rfl (j+1) (⟨by omega,λq z hq hz hk=>by rcases Nat.lt_succ_iff_lt_or_eq.1 hq with g|rfl;exact j2 q z g hz hk;obtain rfl:=Option.some.inj (hlj.symm.trans hz);intro y hy;obtain⟨r,hr,hry⟩:=List.mem_iff_getElem.1 hy;exact p2 r y Xd (by rw[List.getElem?_eq_getElem hr,hry]) hk⟩) Xd))))))
  ·refine gO 2 rfl (gA 5 rfl (i+1) (zdq 2 rfl ?_));skip
   exact gAg 0 rfl (i+1) (⟨by omega,λq z hq hz l hl hk=>by rcases Nat.lt_succ_iff_lt_or_eq.1 hq with g|rfl;exact i2 q z g hz l hl hk;obtain rfl:=Option.some.inj (hs.symm.trans hz);obtain⟨r,hr,hrl⟩:=List.mem_iff_getElem.1 hl;exact j2 r l Xd (by rw[List.getElem?_eq_getElem hr,hrl]) hk⟩) Xd
 ·exact gO 2 rfl (zdq 9 rfl (yCq (w':=.tup [.int .u64 0,.bool false]) Qm rfl (.pur rfl) rfl ⟨0,false,rfl,(λq=>by cases q),λ_ f ⟨s,hs,l,hl,hk,y,hy,hn,_⟩=>by obtain⟨r,hr,hrs⟩:=List.mem_iff_getElem.1 hs;exact i2 r s Xd (by rw[List.getElem?_eq_getElem hr,hrs]) l hl hk y hy hn⟩))
end
theorem rsl_u{Γ:Ctx}:∀{l:List Nat} {s:List V},RSL Γ (l.map λn=>W.int .u32 (.ofNat n)) s->s=l.map tabV
 |[],s,h=>by simpa[RSL] using h
 |c::p,s,h=>by
  have h:RS Γ (.int .u32 (.ofNat c)) (s.take 1)/\RSL Γ (p.map λn=>W.int .u32 (.ofNat n)) (s.drop 1):=h;have h1:s.take 1=[.int .u32 (.ofNat c)]:=by simpa[RS] using h.1
  rw[<-List.take_append_drop 1 s,h1,rsl_u h.2];rfl
theorem alive_w{C:Cfg}{G:Nat->Option W}{F:FuncId}{g:Nat}{ns:List Nat}(hk:C.known F=some (runK (okTab g ns)))(hg:C.glob g=true)(hG:G g=some (.arr ns.length 1 (ns.map λn=>W.int .u32 (.ofNat n)))):PS C G F [] (.bool true):=λR Γ X vs hnw s hv=>by
 obtain rfl:=RVL_nil.1 hv;obtain⟨b,off,bv,e,hD,hv,hs,ha,hl,hrs⟩:=knq (s.gl g _ hg hG 0 λi=>i);cases e;have hz:(W.arr ns.length 1 (ns.map λn=>W.int .u32 (.ofNat n))).size=ns.length:=rfl;rw[hz] at hs hrs;rw[List.drop_zero] at hrs;have hrs:((zjq bv).take ns.length).length=ns.length/\(∀x∈(ns.map λn=>W.int .u32 (.ofNat n)),x.size=1)/\RSL ⟨0,λi=>i,Γ.D,Γ.h⟩ (ns.map λn=>W.int .u32 (.ofNat n)) ((zjq bv).take ns.length):=hrs;have hv:Γ.h.val g=some bv:=hv
 have hok:okTab g ns Γ.h=true:=by
  unfold okTab;rw[hv];show(Nat.ble ns.length bv.size&&eqTab ((zjq bv).take ns.length) ns)=true;rw[rsl_u hrs.2.2,Qjq,Nat.ble_eq_true_of_le Xd];rfl
 refine⟨1,.bool true,Γ,X,.bool true,[],R,?_,s,by rw[<-hnw];exact Frm.refl _ _ _ _,RV_bool.2 rfl,rfl,rfl⟩;simp only[yxq,hk,runK,hok]
section
attribute [local irreducible] CoW OpW FlW Step Spec
theorem alive25_s:PS cfg glT 6 [] (.bool true):=alive_w (g:=1) (ns:=kA) rfl rfl rfl
variable {G:Nat->Option W}
end
section
attribute [local irreducible] CoW OpW FlW Step Spec
variable {G:Nat->Option W}
theorem min_c(k:IntKind)(n:Nat):W.int k (match ltI 100 (n:Int) with|true=>100|false=>(n:Int))=W.int k ((min n 100:Nat):Int):=by
 rcases Nat.lt_or_ge 100 n with q|q
 ·rw[ltI_iff.2 Xd,Nat.min_eq_right Xd];rfl
 ·rw[ltI_not.2 Xd,Nat.min_eq_left q]
theorem great20_s(s:Shd)(hl:s.length<=4611686018427387903)(hx:∀l∈s,l.txs.length<=4611686018427387903):PE cfg G 68 [shdW s] (λw=>∃b:Bool,w= .bool b/\(b=false->s.length<=6/\∀l∈s,l.txs.length<=20)):=by
 have e:(s.map lnW).length=s.length:=List.length_map _;have hp:=qEq s;refine gIe 18 rfl (λR k0=>?_);refine gLo (α:=Nat×Nat) 0 (λp=>p.1<=s.length/\p.1<=20/\p.2<=100*p.1/\∀(j:Nat) x,j<p.1->s[j]? =some x->min x.txs.length 100<=p.2) (λp=>[(3,.int .i64 (p.2:Int)),(4,.int .i64 (p.1:Int))]) [1,2] (λp=>s.length-p.1) ((0,0)) rfl (⟨Nat.zero_le _,Nat.zero_le _,Nat.zero_le _,λj x h=>by simp at h⟩) (λp hI=>?_);obtain⟨i,n⟩:=p;obtain⟨i1,i2,i3,i4⟩:=hI;simp only at i1 i2 i3 i4;refine gZ 6 rfl e ?_;refine gD 0 rfl (λh1=>?_) (λh1=>?_)
 ·refine gU 2 rfl ?_;refine gS 3 rfl (λh2=>?_) (λh2=>?_)
  ·have hi:i<s.length:=by omega
   obtain⟨x,hxi⟩:∃x,s[i]? =some x:=⟨_,List.getElem?_eq_getElem hi⟩
   have hxm:=hx x (List.mem_of_getElem? hxi);have ex:(x.txs.map txW).length=x.txs.length:=List.length_map _;have hmn:min x.txs.length 100<=100:=Nat.min_le_right _ _;exact gP 9 rfl (zGq (i:=i) rfl rfl rfl rfl rfl rfl rfl (zlq lnW hxi)) (gZ 2 rfl ex (gV (w':=.int .i64 ((min x.txs.length 100:Nat):Int)) 0 rfl (min_c _ _) (gA 0 rfl (n+min x.txs.length 100) (gA 6 rfl (i+1) (gAg 2 rfl ((i+1,n+min x.txs.length 100)) (⟨by omega,by omega,by omega,λj z hj hz=>by rcases Nat.lt_succ_iff_lt_or_eq.1 hj with q|rfl;exact Nat.le_trans (i4 j z q hz) (Nat.le_add_right _ _);have:=Option.some.inj (hxi.symm.trans hz);subst this;exact Nat.le_add_left _ _⟩) Xd)))))
  ·exact gO 2 rfl (gZ 6 rfl e (gT 0 rfl (ltI_iff.2 Xd) (zdq 8 rfl (yCq (w':=.bool true) Qm rfl (.pur rfl) rfl ⟨true,rfl,λq=>by cases q⟩))))
 ·refine gO 9 rfl (gZ 6 rfl e ?_);refine gD 0 rfl (λh2=>?_) (λh2=>?_)
  ·exact zdq 8 rfl (yCq (w':=.bool true) Qm rfl (.pur rfl) rfl ⟨true,rfl,λq=>by cases q⟩)
  ·refine gD 2 rfl (λh3=>?_) (λh3=>?_)
   ·exact zdq 5 rfl (yCq (w':=.bool true) Qm rfl (.pur rfl) rfl ⟨true,rfl,λq=>by cases q⟩)
   ·refine zdq 5 rfl ?_
    exact yCq (w':=.bool false) Qm rfl (.pur rfl) rfl ⟨false,rfl,λ_=>⟨by omega,λl hl=>by
     obtain⟨j,hj,hjl⟩:=List.mem_iff_getElem.1 hl;have:=i4 j l Xd (by rw[List.getElem?_eq_getElem hj,hjl]);omega⟩⟩
theorem great21_s(l:List Shd)(hl:l.length<=4611686018427387903)(hx:∀s∈l,s.length<=4611686018427387903/\∀y∈s,y.txs.length<=4611686018427387903):PE cfg G 23 [plW l] (λw=>∃b:Bool,w= .bool b/\(b=false->l.length<=10/\∀s∈l,s.length<=6/\∀y∈s,y.txs.length<=20)):=by
 have e:(l.map shdW).length=l.length:=List.length_map _;have hp:=jEq l;refine gIe 12 rfl (λR k0=>?_);refine gLo (α:=Nat) 0 (λi=>i<=l.length/\i<=10/\∀(j:Nat) s,j<i->l[j]? =some s->s.length<=6/\∀y∈s,y.txs.length<=20) (λi=>[(3,.int .i64 (i:Int))]) [0,2] (λi=>l.length-i) (0) rfl (⟨Nat.zero_le _,Nat.zero_le _,λj x h=>by omega⟩) (λi hI=>?_);obtain⟨i1,i2,i4⟩:=hI;refine gZ 5 rfl e ?_;refine gD 0 rfl (λh1=>?_) (λh1=>?_)
 ·refine gU 2 rfl ?_;refine gS 3 rfl (λh2=>?_) (λh2=>?_)
  ·have hi:i<l.length:=by omega
   obtain⟨x,hxi⟩:∃x,l[i]? =some x:=⟨_,List.getElem?_eq_getElem hi⟩
   have hxm:=hx x (List.mem_of_getElem? hxi);refine gP 8 rfl (zGq (i:=i) rfl rfl rfl rfl rfl rfl rfl (zlq shdW hxi)) (gE 1 rfl (great20_s x hxm.1 hxm.2) ?_);rintro w hw ⟨b,rfl,hb⟩;refine gS 2 rfl (λh3=>?_) (λh3=>?_)
   ·exact gO 8 rfl (zdq 2 rfl (yCq (w':=.bool true) Qm rfl (.pur rfl) rfl ⟨true,rfl,λq=>by cases q⟩))
   ·exact gA 5 rfl (i+1) (gAg 2 rfl (i+1) (⟨by omega,by omega,λj z hj hz=>by rcases Nat.lt_succ_iff_lt_or_eq.1 hj with q|rfl;exact i4 j z q hz;have:=Option.some.inj (hxi.symm.trans hz);subst this;exact hb (by first|assumption|simp_all)⟩) Xd)
  ·refine gO 2 rfl (gZ 5 rfl e ?_);refine gD 0 rfl (λh3=>?_) (λh3=>?_)
   ·exact zdq 4 rfl (yCq (w':=.bool true) Qm rfl (.pur rfl) rfl ⟨true,rfl,λq=>by cases q⟩)
   ·refine zdq 4 rfl ?_
    exact yCq (w':=.bool false) Qm rfl (.pur rfl) rfl ⟨false,rfl,λ_=>⟨by omega,λs hs=>by
     obtain⟨j,hj,hjl⟩:=List.mem_iff_getElem.1 hs;exact i4 j s Xd (by rw[List.getElem?_eq_getElem hj,hjl])⟩⟩
 ·refine gO 9 rfl (gZ 5 rfl e ?_);refine gD 0 rfl (λh2=>?_) (λh2=>?_)
  ·exact zdq 4 rfl (yCq (w':=.bool true) Qm rfl (.pur rfl) rfl ⟨true,rfl,λq=>by cases q⟩)
  ·refine zdq 4 rfl ?_
   exact yCq (w':=.bool false) Qm rfl (.pur rfl) rfl ⟨false,rfl,λ_=>⟨by omega,λs hs=>by
    obtain⟨j,hj,hjl⟩:=List.mem_iff_getElem.1 hs;exact i4 j s Xd (by rw[List.getElem?_eq_getElem hj,hjl])⟩⟩
theorem great24_s(h:Hb)(hl:h.subs.length<=4611686018427387903)(hx:∀s∈h.subs,s.tap.items.length<=4611686018427387903):PE cfg G 24 [hbW h] (λw=>∃b:Bool,w= .bool b/\(b=false->h.subs.length<=18/\∀s∈h.subs,s.tap.items.length<=20)):=by
 have e:(h.subs.map sbW).length=h.subs.length:=List.length_map _;have hp:=sbs_pur h.subs;refine gIe 13 rfl (λR k0=>?_);refine gLo (α:=Nat) 0 (λi=>i<=h.subs.length/\i<=20/\∀(j:Nat) s,j<i->h.subs[j]? =some s->s.tap.items.length<=20) (λi=>[(3,.int .i64 (i:Int))]) [1,2] (λi=>h.subs.length-i) (0) rfl (⟨Nat.zero_le _,Nat.zero_le _,λj x h=>by omega⟩) (λi hI=>?_);obtain⟨i1,i2,i4⟩:=hI;refine gZ 6 rfl e ?_;refine gD 0 rfl (λh1=>?_) (λh1=>?_)
 ·refine gU 2 rfl ?_;refine gS 3 rfl (λh2=>?_) (λh2=>?_)
  ·have hi:i<h.subs.length:=by omega
   obtain⟨x,hxi⟩:∃x,h.subs[i]? =some x:=⟨_,List.getElem?_eq_getElem hi⟩
   have hxm:=hx x (List.mem_of_getElem? hxi);have ex:(x.tap.items.map itmW).length=x.tap.items.length:=List.length_map _;refine gP 9 rfl (zGq (i:=i) rfl rfl rfl rfl rfl rfl rfl (zlq sbW hxi)) (gZ 3 rfl ex ?_);refine gS 3 rfl (λh3=>?_) (λh3=>?_)
   ·exact gO 8 rfl (zdq 2 rfl (yCq (w':=.bool true) Qm rfl (.pur rfl) rfl ⟨true,rfl,λq=>by cases q⟩))
   ·exact gA 5 rfl (i+1) (gAg 2 rfl (i+1) (⟨by omega,by omega,λj z hj hz=>by rcases Nat.lt_succ_iff_lt_or_eq.1 hj with q|rfl;exact i4 j z q hz;have:=Option.some.inj (hxi.symm.trans hz);subst this;omega⟩) Xd)
  ·exact gO 2 rfl (gZ 6 rfl e (gT 0 rfl (ltI_iff.2 Xd) (zdq 4 rfl (yCq (w':=.bool true) Qm rfl (.pur rfl) rfl ⟨true,rfl,λq=>by cases q⟩))))
 ·refine gO 9 rfl (gZ 6 rfl e ?_);refine gD 0 rfl (λh2=>?_) (λh2=>?_)
  ·exact zdq 4 rfl (yCq (w':=.bool true) Qm rfl (.pur rfl) rfl ⟨true,rfl,λq=>by cases q⟩)
  ·refine zdq 4 rfl ?_
   exact yCq (w':=.bool false) Qm rfl (.pur rfl) rfl ⟨false,rfl,λ_=>⟨by omega,λs hs=>by
    obtain⟨j,hj,hjl⟩:=List.mem_iff_getElem.1 hs;exact i4 j s Xd (by rw[List.getElem?_eq_getElem hj,hjl])⟩⟩
set_option maxRecDepth 100000 in
theorem great25_s(a:Au)(hf:Fit25 a):PE cfg G 7 [amW a] (λw=>∃b:Bool,w= .bool b/\(b=false->Few25 a)):=by
 have h1:=greatv_s (G:=G) a.vw 6 hf.ch.nodes hf.ch.len;have e1:(a.drawn.map txW).length=a.drawn.length:=List.length_map _;have e2:(a.back.map txW).length=a.back.length:=List.length_map _;have e3:(a.wait.map pdW).length=a.wait.length:=List.length_map _;have e4:(a.tells.map eveW).length=a.tells.length:=List.length_map _;have b1:=hf.drawl;have b2:=hf.backl;have b3:=hf.waitl;have b4:=hf.tells;by_cases hg:YDq a.vw.ch 6
 ·skip
  exact gIe 10 rfl (λR k0=>gC 0 rfl (zvq (w':=.bool true) (h1) (by rw[decide_eq_true (hg)])) (zdq 38 rfl (yCq (w':=.bool true) Qm rfl (.pur rfl) rfl ⟨true,rfl,λq=>by cases q⟩)))
 ·skip
  refine gIe 10 rfl (λR k0=>gC 0 rfl (zvq (w':=.bool false) (h1) (by rw[decide_eq_false (hg)])) (zdq 3 rfl ?_));skip
  refine gSo 0 rfl (x1q rfl rfl rfl rfl rfl (great21_s a.pool hf.pooll (λs hs=>⟨(hf.pool s hs).1,λy hy=>((hf.pool s hs).2 y hy).len⟩)) Yb ?_);rintro w hw ⟨c1,rfl,hc1⟩;skip
  skip
  cases c1 with
  |true=>
   skip
   exact zsq 34 rfl (yCq (w':=.bool true) Qm rfl (.pur rfl) rfl ⟨true,rfl,λq=>by cases q⟩)
  |false=>
   skip
   refine zsq 4 rfl ?_;skip
   refine gSo 0 rfl (x1q rfl rfl rfl rfl rfl (great24_s a.hub hf.subs hf.taps) Yb ?_);rintro w hw ⟨c2,rfl,hc2⟩;skip
   skip
   cases c2 with
   |true=>
    skip
    exact zsq 29 rfl (yCq (w':=.bool true) Qm rfl (.pur rfl) rfl ⟨true,rfl,λq=>by cases q⟩)
   |false=>
    skip
    refine zsq 4 rfl (gZ 0 rfl e1 ?_);refine gD 0 rfl (λh1=>?_) (λh1=>?_)
    ·exact zdq 23 rfl (yCq (w':=.bool true) Qm rfl (.pur rfl) rfl ⟨true,rfl,λq=>by cases q⟩)
    ·refine gZ 4 rfl e2 ?_;refine gD 0 rfl (λh2=>?_) (λh2=>?_)
     ·exact zdq 17 rfl (yCq (w':=.bool true) Qm rfl (.pur rfl) rfl ⟨true,rfl,λq=>by cases q⟩)
     ·refine gZ 4 rfl e3 ?_;refine gD 0 rfl (λh3=>?_) (λh3=>?_)
      ·exact zdq 11 rfl (yCq (w':=.bool true) Qm rfl (.pur rfl) rfl ⟨true,rfl,λq=>by cases q⟩)
      ·refine gZ 4 rfl e4 ?_;refine gD 0 rfl (λh4=>?_) (λh4=>?_)
       ·exact zdq 5 rfl (yCq (w':=.bool true) Qm rfl (.pur rfl) rfl ⟨true,rfl,λq=>by cases q⟩)
       ·exact zdq 5 rfl (yCq (w':=.bool false) Qm rfl (.pur rfl) rfl ⟨false,rfl,λ_=>⟨hg,hc1 rfl,hc2 rfl,by omega,by omega,by omega,by omega⟩⟩)
end
section
attribute [local irreducible] CoW OpW FlW Step Spec
attribute [local simp] rpE_pur
theorem ret_small{a:Au}(h:Few25 a):SmallC a.vw.ch:=by
 obtain⟨h1,h2,h3⟩:=greatc_no h.ch;refine⟨by omega,λx hx=>?_,by omega,λx hx=>?_⟩
 ·obtain⟨j,hj⟩:=List.getElem?_of_mem hx;have:=y7q hj;have:x.val.length<=100:=Nat.le_of_not_lt λq=>h.ch (.inl (.inr ⟨j,x,by omega,hj,q⟩))
  omega
 ·obtain⟨k1,k2⟩:=h3 x hx;unfold yrq at k1;omega
set_option maxRecDepth 100000 in
theorem returns25_s(a:Au)(hf:Fit25 a):PS cfg glT 3 [amW a] (.bool true):=by
 have ep:(a.pool.map shdW).length=a.pool.length:=List.length_map _;have eb:(a.back.map txW).length=a.back.length:=List.length_map _;refine gI 8 rfl (λR k0=>gC 0 rfl alive25_s (zdq 7 rfl ?_));skip
 refine gSo 0 rfl (x1q rfl rfl rfl rfl rfl (great25_s a hf) Yb ?_);rintro w hw ⟨g,rfl,hg⟩;skip
 skip
 cases g with
 |true=>
  skip
  exact zsq 25 rfl (gQa 0 rfl)
 | false =>
  skip
  have fw:=hg rfl;have ok:=few_ok hf fw;have sm:=few_sm fw;have hv:=ps_gl vNq (vcheck_s a.vw hf.ch);have hck:=aucheck_s a ok (MayV a.vw) hv;have sc:=ret_small fw;have f1:=fw.pool.1;have f2:=fw.back;skip
  by_cases hm:AuM (MayV a.vw) a
  ·have hone:=hm.vw.1.one;have htn:PS cfg glT 83 [vwG a.vw] (vwG a.vw):=ps_gl vNq (vtwin_s a.vw sc (λq=>by rw[q] at hone;cases hone));have hck0:=zvq (w':=.int .i64 0) hck Yi;cases hd:a.vw.down with
   |true=>
    have hdn:zWq 50 (amW a) 39 1 false=some (.bool true):=by show some (W.bool a.vw.down)=_;rw[hd]
    exact zsq 2 rfl (gC 0 rfl (hck0) (gF 0 rfl (congrArg not (eqI_iff.2 (rfl))) (gM 4 rfl (yEq rfl rfl rfl hdn) (gQa 16 rfl))))
   |false=>
    have hdn:zWq 50 (amW a) 39 1 false=some (.bool false):=by show some (W.bool a.vw.down)=_;rw[hd]
    obtain⟨y0,hy0,_⟩:=hm.vw.1.last;obtain⟨nt,t0,hA,_⟩:=hm.vw.1.head hy0;have R:BkR a:=⟨hm.pool,λs hs=>(hf.pool s hs).2,fw,λx hx=>⟨hf.back x hx,Classical.byContradiction λq=>hm.back ⟨x,hx,q⟩⟩⟩;have hz0:((bkN t0 a a.pool.length).back.map txW).length=0:=by rw[bkN_end hm.pool.1.1];rfl
    refine zsq 2 rfl (gC 0 rfl (hck0) (gF 0 rfl (congrArg not (eqI_iff.2 (rfl))) (gM 4 rfl (yEq rfl rfl rfl hdn) (zdq 24 rfl ?_))));refine jKq (α:=Nat) (λj=>j<=a.pool.length) (λj=>[(5,.int .i64 (j:Int))]) [(1,_),(2,_),(3,_),(4,_)] (λj=>[(1,43,amW (bkN t0 a j)),(0,43,amW a)]) (λj=>a.pool.length-j) (0) ⟨rfl,rfl,rfl,rfl,trivial⟩ (Nat.zero_le _) ⟨rfl,trivial⟩ ((by simp only[bkN_0];rfl)) (λj hI=>?_);refine ycq 6 rfl (gZ 0 rfl ep ?_);refine gS 3 rfl (λh1=>?_) (λh1=>?_)
    ·have hj:j<a.pool.length:=by omega
     obtain⟨s,hs⟩:∃s,a.pool[j]? =some s:=⟨_,List.getElem?_eq_getElem hj⟩
     have hsj:(bkN t0 a j).pool[j]? =some s:=by rw[vCq,hs];simp
     have hg0:GoodS (bkN t0 a j).pool.length j 20 s:=by rw[ksq];exact good0 R.pl R.ok R.few hs
     have hbl:=bkN_bl (t0:=t0) (a:=a) (j:=j);have hb:=ps_gl vNq (plback_s (bkN t0 a j).pool (bkN_okl R) (bkN_sml R) (bkN_pl R) j hsj hg0 a.vw.ch.tree nt t0 hA (bkN t0 a j).back (λx hx=>R.back x (bkN_sub x hx)) Xd);have hdo:=doB_s (bkN t0 a j) (bkN_ok R ok) (bkN_sm R sm) (MayV a.vw) hv (bkN_may R hm) hd htn j (by rw[ksq];exact hj) s t0 hb;rw[bkN_succ hs] at hdo;exact gC 9 rfl (hdo) (gF 15 rfl (congrArg not (eqI_iff.2 (rfl))) (gF 3 rfl (congrArg not (eqI_iff.2 (rfl))) (gA 14 rfl (j+1) (zdq 2 rfl (q_againH (j+1) (hj) Xd (Nat.zero_le _) ⟨rfl,trivial⟩ ⟨rfl,rfl,rfl,rfl,trivial⟩ Xh Xh Xd Xj Xw)))))
    ·have hjj:j=a.pool.length:=by omega
     subst hjj;refine zdq 2 rfl (qQq Xi (z0q 9 rfl ?_));refine gLo (α:=Nat) 0 (λi=>i<=a.back.length) (λi=>[(9,.int .i64 (i:Int))]) [1,2,3,4] (λi=>a.back.length-i) (0) rfl (Nat.zero_le _) (λi hI=>?_);refine gZ 6 rfl eb ?_;refine gS 3 rfl (λh2=>?_) (λh2=>?_)
     ·have hi:i<a.back.length:=by omega
      obtain⟨x,hx⟩:∃x,a.back[i]? =some x:=⟨_,List.getElem?_eq_getElem hi⟩
      have hxm:=List.mem_of_getElem? hx;have hfd:=find25_s (G:=glT) (bkN t0 a a.pool.length).pool (keyD x.pub) x.nonce (by rw[ksq];omega) (bkN_sml R);skip
      by_cases hn:x.nonce<(kDq t0 (keyD x.pub)).nonce
      ·refine gP 9 rfl (zGq (i:=i) rfl rfl rfl rfl rfl rfl rfl (zlq txW hx)) (gC 1 rfl (ps_gl vNq (uSq x)) (gC 11 rfl (aget_s a.vw.ch.tree nt t0 hA (keyD x.pub)) (gP 16 rfl (zGq (i:=i) rfl rfl rfl rfl rfl rfl rfl (zlq txW hx)) (zdq 2 rfl ?_))))
       (refine qrq rfl (x1q rfl rfl rfl rfl rfl hfd Yb ?_);rintro w hw ⟨f,b,rfl,_,_⟩;refine⟨by first|rfl|kernel_rfl,?_⟩)
       exact qHq 10 rfl (gF 0 rfl (congrArg not (eqI_iff.2 (rfl))) (gP 4 rfl (zGq (i:=i) rfl rfl rfl rfl rfl rfl rfl (zlq txW hx)) (gF 4 rfl (congrArg not (ltI_iff.2 Xd)) (gA 23 rfl (i+1) (gAg 2 rfl (i+1) (hi) Xd)))))
      ·obtain⟨s,hs,hcov⟩:=bkN_cov (t0:=t0) R hxm hn
       have hone:∀(f:Nat) (b:Bool),(b=true->HasX (bkN t0 a a.pool.length).pool (keyD x.pub) x.nonce f) ->(b=false->∀f,¬HasX (bkN t0 a a.pool.length).pool (keyD x.pub) x.nonce f) ->b=true/\x.fee<=f:=λf b h1 h2=>by
        cases b with
        |true=>exact⟨rfl,one_fee (λi s hs=>Jvq R hs) hs hcov (h1 rfl)⟩
        |false=>
         obtain⟨l,hl,hw,y,hy,hyn,_⟩:=hcov;exact absurd ⟨s,List.mem_of_getElem? hs,l,hl,hw,y,hy,hyn,rfl⟩ (h2 rfl y.fee)
       refine gP 9 rfl (zGq (i:=i) rfl rfl rfl rfl rfl rfl rfl (zlq txW hx)) (gC 1 rfl (ps_gl vNq (uSq x)) (gC 11 rfl (aget_s a.vw.ch.tree nt t0 hA (keyD x.pub)) (gP 16 rfl (zGq (i:=i) rfl rfl rfl rfl rfl rfl rfl (zlq txW hx)) (zdq 2 rfl ?_))))
       (refine qrq rfl (x1q rfl rfl rfl rfl rfl hfd Yb ?_);rintro w hw ⟨f,b,rfl,h1,h2⟩;obtain⟨rfl,hle⟩:=hone f b h1 h2;refine⟨by first|rfl|kernel_rfl,?_⟩)
       exact qHq 10 rfl (gF 0 rfl (congrArg not (eqI_iff.2 (rfl))) (gP 4 rfl (zGq (i:=i) rfl rfl rfl rfl rfl rfl rfl (zlq txW hx)) (gT 4 rfl (congrArg not (ltI_not.2 Xd)) (gP 8 rfl (zGq (i:=i) rfl rfl rfl rfl rfl rfl rfl (zlq txW hx)) (gF 2 rfl (ltI_not.2 Xd) (gA 11 rfl (i+1) (gAg 2 rfl (i+1) (hi) Xd)))))))
     ·exact gO 2 rfl (gZ 8 rfl hz0 (gT 0 rfl (eqI_iff.2 (rfl)) (gQa 5 rfl)))
  ·skip
   exact zsq 2 rfl (gC 0 rfl (zvq (w':=.int .i64 8) hck (by rw[if_neg hm])) (gT 0 rfl (congrArg not (eqI_not.2 Xg)) (gQa 21 rfl)))
end
theorem p32:(4294967296:Nat)=2^32:=by decide
theorem rot_eq{x n:Nat}(hx:x<4294967296)(hn:n<=32):rotN x n=Nat.mod (Nat.shiftRight (Nat.mul x 4294967297) n) 4294967296:=by
 show((x<<<(32-n))%4294967296%4294967296)|||((x>>>n)%4294967296)=((x*4294967297)>>>n)%4294967296
 have e:x*4294967297=x<<<32|||x:=by
  rw[<-Nat.shiftLeft_add_eq_or_of_lt (by rw[<-p32];exact hx),Nat.shiftLeft_eq];omega
 rw[e,Nat.mod_mod,p32];rw[p32] at hx;apply Nat.eq_of_testBit_eq;intro i;simp only[Nat.testBit_or,Nat.testBit_mod_two_pow,Nat.testBit_shiftLeft,Nat.testBit_shiftRight];by_cases h1:i<32
 ·by_cases h2:32-n<=i
  ·have h3:32<=n+i:=by omega
   have h4:i-(32-n)=n+i-32:=by omega
   simp[h1,h2,h3,h4]
  ·have h3:¬32<=n+i:=by omega
   simp[h1,h2,h3]
 ·simp[h1]
theorem xor_eq(a b:Nat):xorN a b=Nat.mod (Nat.xor a b) 4294967296:=by
 show(a%4294967296)^^^(b%4294967296)=(a^^^b)%4294967296;rw[p32,Nat.xor_mod_two_pow]
theorem Qxq{a b:Nat}(ha:a<4294967296)(hb:b<4294967296):xorN a b=Nat.xor a b:=by
 show(a%4294967296)^^^(b%4294967296)=a^^^b;rw[Nat.mod_eq_of_lt ha,Nat.mod_eq_of_lt hb]
theorem and_eq{a b:Nat}(ha:a<4294967296)(hb:b<4294967296):andN a b=Nat.land a b:=by
 show(a%4294967296)&&&(b%4294967296)=a&&&b;rw[Nat.mod_eq_of_lt ha,Nat.mod_eq_of_lt hb]
theorem Yyq{a b:Nat}(hb:b<4294967296):Nat.land a b<4294967296:=Nat.lt_of_le_of_lt (Nat.and_le_right (n:=a) (m:=b)) hb
theorem xor_lt{a b:Nat}(ha:a<4294967296)(hb:b<4294967296):Nat.xor a b<4294967296:=by
 rw[p32] at*;exact Nat.xor_lt_two_pow ha hb
theorem not_lt(e:Nat):notN e<4294967296:=by
 unfold notN;exact xor_lt Xd (Nat.mod_lt _ Xg)
noncomputable def sgF(y i j k:Nat):Nat:=Nat.mod (Nat.xor (Nat.xor (Nat.shiftRight y i) (Nat.shiftRight y j)) (Nat.shiftRight y k)) 4294967296
theorem sg_eq{x i j k:Nat}(hx:x<4294967296)(hi:i<=32)(hj:j<=32)(hk:k<=32):xorN (xorN (rotN x i) (rotN x j)) (rotN x k)=sgF (Nat.mul x 4294967297) i j k:=by
 rw[rot_eq hx hi,rot_eq hx hj,rot_eq hx hk];unfold sgF;generalize Nat.shiftRight (Nat.mul x 4294967297) i=A;generalize Nat.shiftRight (Nat.mul x 4294967297) j=B;generalize Nat.shiftRight (Nat.mul x 4294967297) k=D;show((A%4294967296%4294967296^^^B%4294967296%4294967296)%4294967296)^^^(D%4294967296%4294967296)=(A^^^B^^^D)%4294967296;simp only[Nat.mod_mod,p32,<-Nat.xor_mod_two_pow]
noncomputable def ch3(e f g:Nat):Nat:=Nat.xor g (Nat.land e (Nat.xor f g))
theorem ch_eq{e f g:Nat}(he:e<4294967296)(hf:f<4294967296)(hg:g<4294967296):xorN (andN e f) (andN (notN e) g)=ch3 e f g:=by
 rw[and_eq he hf,and_eq (not_lt e) hg,Qxq (Yyq hf) (Yyq hg)]
 have e1:notN e=2^32-1^^^e:=by
  show(4294967295%4294967296)^^^(e%4294967296)=_;rw[Nat.mod_eq_of_lt he]
 show(e&&&f)^^^(notN e&&&g)=g^^^(e&&&(f^^^g));rw[e1];rw[p32] at he hf hg;apply Nat.eq_of_testBit_eq;intro i;simp only[Nat.testBit_xor,Nat.testBit_and,Nat.testBit_two_pow_sub_one];by_cases h:i<32
 ·simp only[h,decide_true];cases e.testBit i<;>cases f.testBit i<;>cases g.testBit i<;>rfl
 ·have hp:2^32<=2^i:=Nat.pow_le_pow_right Xg Xd;rw[Nat.testBit_lt_two_pow (Nat.lt_of_lt_of_le he hp),Nat.testBit_lt_two_pow (Nat.lt_of_lt_of_le hf hp),Nat.testBit_lt_two_pow (Nat.lt_of_lt_of_le hg hp)];simp
noncomputable def ma3(a b c:Nat):Nat:=Nat.xor (Nat.land a (Nat.xor b c)) (Nat.land b c)
theorem ma_eq{a b c:Nat}(ha:a<4294967296)(hb:b<4294967296)(hc:c<4294967296):xorN (xorN (andN a b) (andN a c)) (andN b c)=ma3 a b c:=by
 rw[and_eq ha hb,and_eq ha hc,and_eq hb hc,Qxq (Yyq hb) (Yyq hc),Qxq (xor_lt (Yyq hb) (Yyq hc)) (Yyq hc)];show((a&&&b)^^^(a&&&c))^^^(b&&&c)=(a&&&(b^^^c))^^^(b&&&c);apply Nat.eq_of_testBit_eq;intro i;simp only[Nat.testBit_xor,Nat.testBit_and];cases a.testBit i<;>cases b.testBit i<;>cases c.testBit i<;>rfl
noncomputable def s3F(y x i j k:Nat):Nat:=Nat.xor (Nat.mod (Nat.xor (Nat.shiftRight y i) (Nat.shiftRight y j)) 4294967296) (Nat.shiftRight x k)
theorem s3_eq{x i j k:Nat}(hx:x<4294967296)(hi:i<=32)(hj:j<=32)(hk:k<=32):xorN (xorN (rotN x i) (rotN x j)) (shrN x k)=s3F (Nat.mul x 4294967297) x i j k:=by
 rw[rot_eq hx hi,rot_eq hx hj,xor_eq (Nat.mod _ _)]
 have h1:shrN x k=Nat.shiftRight x k:=by
  show x>>>(min k 32)=x>>>k;rw[Nat.min_eq_left hk]
 have h2:Nat.shiftRight x k<4294967296:=Nat.lt_of_le_of_lt (by show x>>>k<=x;rw[Nat.shiftRight_eq_div_pow];exact Nat.div_le_self _ _) hx
 have e1:∀A B:Nat,Nat.mod (Nat.xor (Nat.mod A 4294967296) (Nat.mod B 4294967296)) 4294967296=Nat.mod (Nat.xor A B) 4294967296:=λA B=>by
  show((A%4294967296)^^^(B%4294967296))%4294967296=(A^^^B)%4294967296;rw[p32,<-Nat.xor_mod_two_pow,Nat.mod_mod]
 rw[e1,h1];exact Qxq (Nat.mod_lt _ Xg) h2
noncomputable def fz{α:Type}(n:Nat)(c:Nat->α):α:=Nat.rec (c 0) (λm _=>c (Nat.succ m)) n
theorem fz_eq{α:Type}(n:Nat)(c:Nat->α):fz n c=c n:=by cases n<;>rfl
noncomputable def oneF(h e f g k w:Nat):Nat:=Nat.add (Nat.add (Nat.add (Nat.add h (sgF (Nat.mul e 4294967297) 6 11 25)) (ch3 e f g)) k) w
noncomputable def naF(one a b c:Nat):Nat:=Nat.mod (Nat.add (Nat.add one (sgF (Nat.mul a 4294967297) 2 13 22)) (ma3 a b c)) 4294967296
noncomputable def neF(d one:Nat):Nat:=Nat.mod (Nat.add d one) 4294967296
noncomputable def nwF(w0 w1 w9 w14:Nat):Nat:=Nat.mod (Nat.add (Nat.add (Nat.add w0 (s3F (Nat.mul w1 4294967297) w1 7 18 3)) w9) (s3F (Nat.mul w14 4294967297) w14 17 19 10)) 4294967296
structure S8.Ok(s:S8):Prop where
 a:s.a<4294967296
 b:s.b<4294967296
 c:s.c<4294967296
 d:s.d<4294967296
 e:s.e<4294967296
 f:s.f<4294967296
 g:s.g<4294967296
 h:s.h<4294967296
theorem xqq(a b:Nat):addN a b<4294967296:=Nat.mod_lt _ Xg
theorem rnd_ok{s:S8}(h:s.Ok)(k w:Nat):(roundN k w s).Ok:=⟨xqq _ _,h.a,h.b,h.c,xqq _ _,h.e,h.f,h.g⟩
theorem round_eq{s:S8}(h:s.Ok)(k w:Nat):roundN k w s=⟨naF (oneF s.h s.e s.f s.g k w) s.a s.b s.c,s.a,s.b,s.c,neF s.d (oneF s.h s.e s.f s.g k w),s.e,s.f,s.g⟩:=by
 have e1:addN (addN (addN (addN s.h (xorN (xorN (rotN s.e 6) (rotN s.e 11)) (rotN s.e 25))) (xorN (andN s.e s.f) (andN (notN s.e) s.g))) k) w=oneF s.h s.e s.f s.g k w%4294967296:=by
  rw[sg_eq h.e Xg Xg Xg,ch_eq h.e h.f h.g];unfold oneF;generalize sgF _ _ _ _=A;generalize ch3 _ _ _=B;show((((s.h+A)%4294967296+B)%4294967296+k)%4294967296+w)%4294967296=(s.h+A+B+k+w)%4294967296;omega
 unfold roundN;simp only[e1];rw[sg_eq h.a Xg Xg Xg,ma_eq h.a h.b h.c];generalize oneF _ _ _ _ _ _=O;unfold naF neF;generalize sgF _ _ _ _=A;generalize ma3 _ _ _=B
 have q1:addN (O%4294967296) (addN A B)=Nat.mod (Nat.add (Nat.add O A) B) 4294967296:=by
  show(O%4294967296+(A+B)%4294967296)%4294967296=(O+A+B)%4294967296;omega
 have q2:addN s.d (O%4294967296)=Nat.mod (Nat.add s.d O) 4294967296:=by
  show(s.d+O%4294967296)%4294967296=(s.d+O)%4294967296;omega
 rw[q1,q2]
noncomputable def goF(ks:List Nat):Nat->Nat->Nat->Nat->Nat->Nat->Nat->Nat->Nat->Nat->Nat->Nat->Nat->Nat->Nat->Nat->Nat->Nat->Nat->Nat->Nat->Nat->Nat->Nat->S8:=
 List.rec (λa b c d e f g h _ _ _ _ _ _ _ _ _ _ _ _ _ _ _ _=>⟨a,b,c,d,e,f,g,h⟩)
  (λk _ ih a b c d e f g h w0 w1 w2 w3 w4 w5 w6 w7 w8 w9 w10 w11 w12 w13 w14 w15=>
   fz (oneF h e f g k w0) λone=>fz (naF one a b c) λna=>fz (neF d one) λne=>fz (nwF w0 w1 w9 w14) λnw=>
    ih na a b c ne e f g w1 w2 w3 w4 w5 w6 w7 w8 w9 w10 w11 w12 w13 w14 w15 nw) ks
theorem goF_cons(k:Nat)(ks:List Nat)(a b c d e f g h w0 w1 w2 w3 w4 w5 w6 w7 w8 w9 w10 w11 w12 w13 w14 w15:Nat):
  goF (k::ks) a b c d e f g h w0 w1 w2 w3 w4 w5 w6 w7 w8 w9 w10 w11 w12 w13 w14 w15=
   goF ks (naF (oneF h e f g k w0) a b c) a b c (neF d (oneF h e f g k w0)) e f g w1 w2 w3 w4 w5 w6 w7 w8 w9 w10 w11 w12 w13 w14 w15 (nwF w0 w1 w9 w14):=by
 unfold goF;simp only[fz_eq]
noncomputable def wS(bs:Nat->Nat)(i:Nat):Nat:=(ytq bs (i+1)).getD i 0
theorem Qzq(bs:Nat->Nat)(i:Nat):wS bs i=YIq bs (ytq bs i):=by
 unfold wS;rw[ytq,List.getD_eq_getElem?_getD,List.getElem?_append_right (by rw[qhq];exact Nat.le_refl _),qhq,Nat.sub_self];rfl
theorem xzq(bs:Nat->Nat):∀(t i:Nat),i<t->(ytq bs t).getD i 0=wS bs i
 |0,_,h=>by omega
 |t+1,i,h=>by
  rw[ytq,List.getD_eq_getElem?_getD];by_cases e:i<t
  ·rw[List.getElem?_append_left (by rw[qhq];exact e),<-List.getD_eq_getElem?_getD];exact xzq bs t i e
  ·obtain rfl:i=t:=by omega
   rw[List.getElem?_append_right (by rw[qhq];exact Nat.le_refl _),qhq,Nat.sub_self,Qzq];rfl
theorem wS_lt(bs:Nat->Nat)(i:Nat)(hb:∀i,bs i<256):wS bs i<4294967296:=by
 rw[Qzq];unfold YIq;split
 ·unfold wordN orN;have m:∀a,a%4294967296<4294967296:=λa=>Nat.mod_lt _ Xg
  rw[p32] at*
  exact Nat.or_lt_two_pow (m _) (m _)
 ·exact xqq _ _
theorem nw_sum(X A Y B:Nat):addN (addN (addN X A) Y) B=Nat.mod (Nat.add (Nat.add (Nat.add X A) Y) B) 4294967296:=by
 show(((X+A)%4294967296+Y)%4294967296+B)%4294967296=(X+A+Y+B)%4294967296;omega
section
attribute [local irreducible] wS
theorem wS_late(bs:Nat->Nat)(hb:∀i,bs i<256)(t:Nat):wS bs (t+16)=nwF (wS bs t) (wS bs (t+1)) (wS bs (t+9)) (wS bs (t+14)):=by
 rw[Qzq];unfold YIq
 have h1:Nat.blt (ytq bs (t+16)).length 16=false:=by
  rw[qhq];cases hq:Nat.blt (t+16) 16 with
  | true => have:t+16<16:=by simpa[Nat.blt_eq] using hq
            omega
  |false=>rfl
 rw[h1];simp only[qhq];rw[show t+16-16=t by omega,show t+16-15=t+1 by omega,show t+16-7=t+9 by omega,show t+16-2=t+14 by omega];rw[xzq bs _ t Xd,xzq bs _ (t+1) Xd,xzq bs _ (t+9) Xd,xzq bs _ (t+14) Xd];rw[s3_eq (wS_lt bs _ hb) Xg Xg Xg,s3_eq (wS_lt bs _ hb) Xg Xg Xg];exact nw_sum _ _ _ _
end
theorem rounds_ok{s:S8}(h:s.Ok)(ws:List Nat):∀t,(kcq ws s t).Ok
 |0=>h
 |t+1=>rnd_ok (rounds_ok h ws t) _ _
theorem go_eq(bs:Nat->Nat)(hb:∀i,bs i<256){s:S8}(h:s.Ok):∀(n t:Nat),t+n=64->∀v,kcq (ytq bs 64) s t=v->
  goF (kW.drop t) v.a v.b v.c v.d v.e v.f v.g v.h (wS bs t) (wS bs (t+1)) (wS bs (t+2)) (wS bs (t+3)) (wS bs (t+4)) (wS bs (t+5)) (wS bs (t+6)) (wS bs (t+7)) (wS bs (t+8)) (wS bs (t+9)) (wS bs (t+10)) (wS bs (t+11)) (wS bs (t+12)) (wS bs (t+13)) (wS bs (t+14)) (wS bs (t+15))=kcq (ytq bs 64) s 64
 |0,t,ht,v,hv=>by
  obtain rfl:t=64:=by omega
  rw[hv,show kW.drop 64=[] from rfl];cases v;rfl
 |n+1,t,ht,v,hv=>by
  have hlt:t<kW.length:=by show t<64;omega
  have ok:v.Ok:=hv▸rounds_ok h _ t
  rw[List.drop_eq_getElem_cons hlt,goF_cons]
  have hn:kcq (ytq bs 64) s (t+1)=⟨naF (oneF v.h v.e v.f v.g kW[t] (wS bs t)) v.a v.b v.c,v.a,v.b,v.c,neF v.d (oneF v.h v.e v.f v.g kW[t] (wS bs t)),v.e,v.f,v.g⟩:=by
   rw[kcq,hv,xzq bs 64 t Xd,round_eq ok,List.getD_eq_getElem?_getD,List.getElem?_eq_getElem hlt];rfl
  have:=go_eq bs hb h n (t+1) Xd _ hn;rw[<-this,wS_late bs hb]
noncomputable def hdF(l:List Nat):Nat:=List.rec 0 (λb _ _=>b) l
noncomputable def tlF(l:List Nat):List Nat:=List.rec [] (λ_ l _=>l) l
noncomputable def w4F{α:Type}(l:List Nat)(c:Nat->List Nat->α):α:=
 fz (Nat.lor (Nat.lor (Nat.lor (Nat.shiftLeft (hdF l) 24) (Nat.shiftLeft (hdF (tlF l)) 16)) (Nat.shiftLeft (hdF (tlF (tlF l))) 8)) (hdF (tlF (tlF (tlF l))))) λw=>c w (tlF (tlF (tlF (tlF l))))
noncomputable def opS{α:Type}(s:S8)(k:Nat->Nat->Nat->Nat->Nat->Nat->Nat->Nat->α):α:=S8.rec k s
theorem opS_eq{α:Type}(s:S8)(k:Nat->Nat->Nat->Nat->Nat->Nat->Nat->Nat->α):opS s k=k s.a s.b s.c s.d s.e s.f s.g s.h:=rfl
noncomputable def x0q{α:Type}(s:S8)(l:List Nat)(k:S8->List Nat->α):α:=
 w4F l λw0 l=>w4F l λw1 l=>w4F l λw2 l=>w4F l λw3 l=>w4F l λw4 l=>w4F l λw5 l=>w4F l λw6 l=>w4F l λw7 l=>
 w4F l λw8 l=>w4F l λw9 l=>w4F l λw10 l=>w4F l λw11 l=>w4F l λw12 l=>w4F l λw13 l=>w4F l λw14 l=>w4F l λw15 l=>
 opS s λa b c d e f g h=>opS (goF kW a b c d e f g h w0 w1 w2 w3 w4 w5 w6 w7 w8 w9 w10 w11 w12 w13 w14 w15) λa' b' c' d' e' f' g' h'=>
  k ⟨Nat.mod (Nat.add a a') 4294967296,Nat.mod (Nat.add b b') 4294967296,Nat.mod (Nat.add c c') 4294967296,Nat.mod (Nat.add d d') 4294967296,Nat.mod (Nat.add e e') 4294967296,Nat.mod (Nat.add f f') 4294967296,Nat.mod (Nat.add g g') 4294967296,Nat.mod (Nat.add h h') 4294967296⟩ l
theorem hd_at:∀(l:List Nat),hdF l=atL l 0
 |[]=>rfl
 |_::_=>rfl
theorem tl_drop:∀(l:List Nat),tlF l=l.drop 1
 |[]=>rfl
 |_::_=>rfl
theorem at_drop(l:List Nat)(i j:Nat):atL (l.drop i) j=atL l (i+j):=by
 simp[atL,List.getD_eq_getElem?_getD,List.getElem?_drop]
theorem word_eq{b0 b1 b2 b3:Nat}(h0:b0<256)(h1:b1<256)(h2:b2<256)(h3:b3<256):wordN b0 b1 b2 b3=Nat.lor (Nat.lor (Nat.lor (Nat.shiftLeft b0 24) (Nat.shiftLeft b1 16)) (Nat.shiftLeft b2 8)) b3:=by
 have s:∀b n,b<256->n<=24->Nat.shiftLeft b n<4294967296:=λb n hb hn=>by
  show b<<<n<4294967296;rw[Nat.shiftLeft_eq];have:2^n<=2^24:=Nat.pow_le_pow_right Xg hn;have:=Nat.mul_le_mul (show b<=255 by omega) this;omega
 have e:∀b n,b<256->n<=24->shlN (b%4294967296) n=Nat.shiftLeft b n:=λb n hb hn=>by
  unfold shlN;rw[Nat.min_eq_left Xd,Nat.mod_eq_of_lt (show b<4294967296 by omega),Nat.mod_eq_of_lt (s b n hb hn)]
 have o:∀a b,a<4294967296->b<4294967296->orN a b=Nat.lor a b:=λa b ha hb=>by
  unfold orN;rw[Nat.mod_eq_of_lt ha,Nat.mod_eq_of_lt hb]
 have ol:∀a b,a<4294967296->b<4294967296->Nat.lor a b<4294967296:=λa b ha hb=>by
  rw[p32] at*
  exact Nat.or_lt_two_pow ha hb
 unfold wordN;rw[e b0 24 h0 Xg,e b1 16 h1 Xg,e b2 8 h2 Xg,Nat.mod_eq_of_lt (show b3<4294967296 by omega)];rw[o _ _ (s b0 24 h0 Xg) (s b1 16 h1 Xg),o _ _ (ol _ _ (s b0 24 h0 Xg) (s b1 16 h1 Xg)) (s b2 8 h2 Xg),o _ _ (ol _ _ (ol _ _ (s b0 24 h0 Xg) (s b1 16 h1 Xg)) (s b2 8 h2 Xg)) Xd]
theorem wS_early(bs:Nat->Nat)(hb:∀i,bs i<256)(t:Nat)(ht:t<16):wS bs t=Nat.lor (Nat.lor (Nat.lor (Nat.shiftLeft (bs (4*t)) 24) (Nat.shiftLeft (bs (4*t+1)) 16)) (Nat.shiftLeft (bs (4*t+2)) 8)) (bs (4*t+3)):=by
 rw[Qzq];unfold YIq;have h1:Nat.blt (ytq bs t).length 16=true:=by rw[qhq];simpa[Nat.blt_eq] using ht
 rw[h1];simp only[qhq];exact word_eq (hb _) (hb _) (hb _) (hb _)
noncomputable def jfq(l:List Nat):Prop:=∀b∈l,b<256
theorem small_at{l:List Nat}(h:jfq l)(i:Nat):atL l i<256:=by
 unfold atL;rw[List.getD_eq_getElem?_getD];cases hq:l[i]? with
 |none=>show(0:Nat)<256;decide
 |some b=>exact h b (List.mem_of_getElem? hq)
theorem xUq{α:Type}{l:List Nat}(h:jfq l)(t:Nat)(ht:t<16)(c:Nat->List Nat->α):w4F (l.drop (4*t)) c=c (wS (atL l) t) (l.drop (4*(t+1))):=by
 unfold w4F;rw[fz_eq];simp only[hd_at,tl_drop,at_drop,List.drop_drop];rw[wS_early (atL l) (small_at h) t ht];rfl
theorem block_eq{α:Type}{s:S8}(hs:s.Ok){l:List Nat}(h:jfq l)(k:S8->List Nat->α):x0q s l k=k (j7q (atL l) s) (l.drop 64):=by
 have key:goF kW s.a s.b s.c s.d s.e s.f s.g s.h (wS (atL l) 0) (wS (atL l) 1) (wS (atL l) 2) (wS (atL l) 3) (wS (atL l) 4) (wS (atL l) 5) (wS (atL l) 6) (wS (atL l) 7) (wS (atL l) 8) (wS (atL l) 9) (wS (atL l) 10) (wS (atL l) 11) (wS (atL l) 12) (wS (atL l) 13) (wS (atL l) 14) (wS (atL l) 15)=kcq (ytq (atL l) 64) s 64:=go_eq (atL l) (small_at h) hs 64 0 rfl s (by rw[kcq]);have e0:x0q s l k=x0q s (l.drop (4*0)) k:=rfl;rw[e0];unfold x0q;rw[xUq h 0 Xg,xUq h 1 Xg,xUq h 2 Xg,xUq h 3 Xg,xUq h 4 Xg,xUq h 5 Xg,xUq h 6 Xg,xUq h 7 Xg,xUq h 8 Xg,xUq h 9 Xg,xUq h 10 Xg,xUq h 11 Xg,xUq h 12 Xg,xUq h 13 Xg,xUq h 14 Xg,xUq h 15 Xg];rw[opS_eq,key,opS_eq];unfold j7q;generalize kcq (ytq (atL l) 64) s 64=X;rfl
theorem block_ok(s:S8)(bs:Nat->Nat):(j7q bs s).Ok:=⟨xqq _ _,xqq _ _,xqq _ _,xqq _ _,xqq _ _,xqq _ _,xqq _ _,xqq _ _⟩
noncomputable def lenF(l:List Nat):Nat:=List.rec 0 (λ_ _ n=>Nat.succ n) l
theorem vsq:∀l:List Nat,lenF l=l.length
 |[]=>rfl
 |_::l=>congrArg Nat.succ (vsq l)
theorem YUq{l:List Nat}(h:jfq l)(n:Nat):jfq (l.drop n):=λb hb=>h b (List.mem_of_mem_drop hb)
theorem uwq{a b:List Nat}(ha:jfq a)(hb:jfq b):jfq (a++b):=λx hx=>by
 rcases List.mem_append.1 hx with h|h
 ·exact ha x h
 ·exact hb x h
noncomputable def eatF(n:Nat):S8->List Nat->S8×List Nat:=Nat.rec (λs r=>(s,r)) (λ_ ih s r=>match Nat.ble 64 (lenF r) with
 |true=>x0q s r ih
 |false=>(s,r)) n
theorem eatF_eq:∀(n:Nat) {s:S8} {r:List Nat},s.Ok->jfq r->eatF n s r=eat n s r/\(eat n s r).1.Ok/\jfq (eat n s r).2
 |0,s,r,hs,hr=>⟨rfl,hs,hr⟩
 |n+1,s,r,hs,hr=>by
  have e:eatF (n+1) s r=match Nat.ble 64 (lenF r) with
   |true=>x0q s r (eatF n)
   |false=>(s,r):=rfl
  rw[e,vsq];unfold eat;cases Nat.ble 64 r.length with
  |true=>
   show x0q s r (eatF n)=eat n (j7q (atL r) s) (r.drop 64)/\_;rw[block_eq hs hr];exact eatF_eq n (block_ok _ _) (YUq hr 64)
  |false=>exact⟨rfl,hs,hr⟩
noncomputable def absF(a:S8×List Nat)(p:List Nat):S8×List Nat:=eatF (lenF (a.2++p)) a.1 (a.2++p)
theorem absF_eq{a:S8×List Nat}{p:List Nat}(ha:a.1.Ok)(h2:jfq a.2)(hp:jfq p):absF a p=j9q a p/\(j9q a p).1.Ok/\jfq (j9q a p).2:=by
 unfold absF j9q eats;rw[vsq];exact eatF_eq _ ha (uwq h2 hp)
noncomputable def allF(n:Nat):S8->List Nat->S8:=Nat.rec (λs _=>s) (λ_ ih s r=>match Nat.ble 1 (lenF r) with
 |true=>x0q s r ih
 |false=>s) n
theorem allF_eq:∀(n:Nat) {s:S8} {r:List Nat},s.Ok->jfq r->allF n s r=jlq n s r
 |0,s,r,_,_=>rfl
 |n+1,s,r,hs,hr=>by
  have e:allF (n+1) s r=match Nat.ble 1 (lenF r) with
   |true=>x0q s r (allF n)
   |false=>s:=rfl
  rw[e,vsq];unfold jlq;cases Nat.ble 1 r.length with
  |true=>
   show x0q s r (allF n)=jlq n (j7q (atL r) s) (r.drop 64);rw[block_eq hs hr];exact allF_eq n (block_ok _ _) (YUq hr 64)
  |false=>rfl
noncomputable def padF(r:List Nat):List Nat:=r++List.replicate (Nat.mod (Nat.sub 120 (Nat.mod (lenF r) 64)) 64) 0
theorem pad_eq:∀(n:Nat) (r:List Nat),(120-r.length%64)%64<=n->padZ n r=r++List.replicate ((120-r.length%64)%64) 0
 |0,r,h=>by
  rw[Nat.le_zero.1 h];simp[padZ]
 |n+1,r,h=>by
  unfold padZ;cases hb:Nat.beq (r.length%64) 56 with
  |true=>
   have:=Nat.eq_of_beq_eq_true hb;rw[this];simp
  |false=>
   have hne:r.length%64≠56:=λe=>by rw[e] at hb;cases hb
   show padZ n (r++[0])=_;have hl:(r++[0]).length=r.length+1:=by simp
   rw[pad_eq n (r++[0]) (by rw[hl];omega),hl,List.append_assoc];have:(120-r.length%64)%64=(120-(r.length+1)%64)%64+1:=by omega
   rw[this];rfl
theorem padF_eq(r:List Nat):padF r=padZ 64 r:=by
 rw[pad_eq 64 r Xd];unfold padF;rw[vsq];rfl
noncomputable def digF(s:S8):List Nat:=opS s λa b c d e f g h=>
 [Nat.mod (Nat.shiftRight a 24) 256,Nat.mod (Nat.shiftRight a 16) 256,Nat.mod (Nat.shiftRight a 8) 256,Nat.mod (Nat.shiftRight a 0) 256,
  Nat.mod (Nat.shiftRight b 24) 256,Nat.mod (Nat.shiftRight b 16) 256,Nat.mod (Nat.shiftRight b 8) 256,Nat.mod (Nat.shiftRight b 0) 256,
  Nat.mod (Nat.shiftRight c 24) 256,Nat.mod (Nat.shiftRight c 16) 256,Nat.mod (Nat.shiftRight c 8) 256,Nat.mod (Nat.shiftRight c 0) 256,
  Nat.mod (Nat.shiftRight d 24) 256,Nat.mod (Nat.shiftRight d 16) 256,Nat.mod (Nat.shiftRight d 8) 256,Nat.mod (Nat.shiftRight d 0) 256,
  Nat.mod (Nat.shiftRight e 24) 256,Nat.mod (Nat.shiftRight e 16) 256,Nat.mod (Nat.shiftRight e 8) 256,Nat.mod (Nat.shiftRight e 0) 256,
  Nat.mod (Nat.shiftRight f 24) 256,Nat.mod (Nat.shiftRight f 16) 256,Nat.mod (Nat.shiftRight f 8) 256,Nat.mod (Nat.shiftRight f 0) 256,
  Nat.mod (Nat.shiftRight g 24) 256,Nat.mod (Nat.shiftRight g 16) 256,Nat.mod (Nat.shiftRight g 8) 256,Nat.mod (Nat.shiftRight g 0) 256,
  Nat.mod (Nat.shiftRight h 24) 256,Nat.mod (Nat.shiftRight h 16) 256,Nat.mod (Nat.shiftRight h 8) 256,Nat.mod (Nat.shiftRight h 0) 256]
theorem digF_eq(s:S8):digF s=digN s:=rfl
noncomputable def endF(n:Nat)(s:S8)(r:List Nat):List Nat:=digF (allF (lenF (padF (r++[128])++len8 n)) s (padF (r++[128])++len8 n))
noncomputable def shaF(ps:List (List Nat)):List Nat:=Prod.rec (λs r=>endF (yPq ps) s r) (ps.foldl absF (s0,[]))
theorem small_len8(n:Nat):jfq (len8 n):=λb hb=>by
 unfold len8 at hb;obtain⟨i,_,rfl⟩:=List.mem_map.1 hb;exact Nat.mod_lt _ Xg
theorem small_pad{r:List Nat}(h:jfq r):jfq (padF r):=uwq h λb hb=>by
 rw[(List.mem_replicate.1 hb).2];decide
theorem fold_eq:∀(ps:List (List Nat)) (a:S8×List Nat),a.1.Ok->jfq a.2->(∀p∈ps,jfq p) ->ps.foldl absF a=ps.foldl j9q a/\(ps.foldl j9q a).1.Ok/\jfq (ps.foldl j9q a).2
 |[],a,h1,h2,_=>⟨rfl,h1,h2⟩
 |p::ps,a,h1,h2,h3=>by
  obtain⟨e,k1,k2⟩:=absF_eq h1 h2 (h3 p (List.mem_cons_self ..));simp only[List.foldl_cons,e];exact fold_eq ps _ k1 k2 λq hq=>h3 q (List.mem_cons_of_mem _ hq)
theorem sha_eq{ps:List (List Nat)}(h:∀p∈ps,jfq p):shaF ps=shaN ps:=by
 obtain⟨e,k1,k2⟩:=fold_eq ps (s0,[]) ⟨by decide,by decide,by decide,by decide,by decide,by decide,by decide,by decide⟩ (λb hb=>by cases hb) h;have e1:shaF ps=endF (yPq ps) (ps.foldl absF (s0,[])).1 (ps.foldl absF (s0,[])).2:=rfl;rw[e1,e];unfold endF shaN
 have h1:jfq ((ps.foldl j9q (s0,[])).2++[128]):=uwq k2 λb hb=>by
  rw[List.mem_singleton.1 hb];decide
 rw[allF_eq _ k1 (uwq (small_pad h1) (small_len8 _)),vsq,padF_eq,digF_eq]
mutual
/-- all blocks in it lie below n -/
noncomputable def ltB(n:Nat):V->Bool
 |.ptr b _=>decide (b<n)
 |.sl b _ _ _ _ _=>decide (b<n)
 |.map b=>decide (b<n)
 |.yield b=>decide (b<n)
 |.fn _ a c=>ltL n a&&ltL n c
 |.iface _ v=>ltB n v
 |.agg _ l=>ltL n l
 |.arr _ _ l=>ltL n l
 |.tup l=>ltL n l
 |.undef=>true
 |.bool _=>true
 |.int _ _=>true
 |.str _=>true
 |.nilp=>true
 |.nils=>true
 |.nilm=>true
 |.nilf=>true
 |.nili=>true
noncomputable def ltL(n:Nat):List V->Bool
 |[]=>true
 |v::l=>ltB n v&&ltL n l
end
mutual
theorem in_lt{D:Nat->Nat->Prop}{n:Nat}:∀{v:V},InD D v->ltB n v=true->InD (λi m=>D i m/\i<n) v
 |.ptr _ _,hi,h=>⟨hi,of_decide_eq_true h⟩
 |.sl _ _ _ _ _ _,hi,h=>⟨hi.1,hi.2.1,hi.2.2,of_decide_eq_true h⟩
 |.map _,hi,h=>⟨hi,of_decide_eq_true h⟩
 |.yield _,hi,h=>⟨hi,of_decide_eq_true h⟩
 |.fn _ a c,hi,h=>by
  simp only[ltB,Bool.and_eq_true] at h;exact⟨ZUq (l:=a) hi.1 h.1,ZUq (l:=c) hi.2 h.2⟩
 |.iface _ v,hi,h=>in_lt (v:=v) hi Qh
 |.agg _ l,hi,h=>ZUq (l:=l) hi Qh
 |.arr _ _ l,hi,h=>ZUq (l:=l) hi Qh
 |.tup l,hi,h=>ZUq (l:=l) hi Qh
 |.undef,_,_=>trivial
 |.bool _,_,_=>trivial
 |.int _ _,_,_=>trivial
 |.str _,_,_=>trivial
 |.nilp,_,_=>trivial
 |.nils,_,_=>trivial
 |.nilm,_,_=>trivial
 |.nilf,_,_=>trivial
 |.nili,_,_=>trivial
theorem ZUq{D:Nat->Nat->Prop}{n:Nat}:∀{l:List V},InDL D l->ltL n l=true->InDL (λi m=>D i m/\i<n) l
 |[],_,_=>trivial
 |v::l,hi,h=>by
  simp only[ltL,Bool.and_eq_true] at h;exact⟨in_lt hi.1 h.1,ZUq hi.2 h.2⟩
end
mutual
noncomputable def jBq:W->Bool
 |.bool _=>true
 |.int _ _=>true
 |.str _=>true
 |.nilp=>true
 |.nils=>true
 |.nilm=>true
 |.nilf=>true
 |.nili=>true
 |.agg _ l=>ZKq l
 |.arr _ _ l=>ZKq l
 |_=>false
noncomputable def ZKq:List W->Bool
 |[]=>true
 |w::l=>jBq w&&ZKq l
end
mutual
theorem rs_uniq{Γ Γ':Ctx}:∀{w:W} {s s':List V},jBq w=true->RS Γ w s->RS Γ' w s'->s=s'
 |.undef,_,_,h,_,_=>by simp[jBq] at h
 |.bool _,_,_,_,h,k=>by simp only[RS] at h k;rw[h,k]
 |.int _ _,_,_,_,h,k=>by simp only[RS] at h k;rw[h,k]
 |.str _,_,_,_,h,k=>by simp only[RS] at h k;rw[h,k]
 |.nilp,_,_,_,h,k=>by simp only[RS] at h k;rw[h,k]
 |.ptr _ _,_,_,h,_,_=>by simp[jBq] at h
 |.nils,_,_,_,h,k=>by simp only[RS] at h k;rw[h,k]
 |.sl _ _ _ _ _ _,_,_,h,_,_=>by simp[jBq] at h
 |.fz _ _ _,_,_,h,_,_=>by simp[jBq] at h
 |.fel _,_,_,h,_,_=>by simp[jBq] at h
 |.nilm,_,_,_,h,k=>by simp only[RS] at h k;rw[h,k]
 |.fn _ _ _,_,_,h,_,_=>by simp[jBq] at h
 |.yield _,_,_,h,_,_=>by simp[jBq] at h
 |.nilf,_,_,_,h,k=>by simp only[RS] at h k;rw[h,k]
 |.iface _ _,_,_,h,_,_=>by simp[jBq] at h
 |.nili,_,_,_,h,k=>by simp only[RS] at h k;rw[h,k]
 |.agg n l,_,_,hp,h,k=>by simp only[jBq] at hp;simp only[RS] at h k;exact QLq hp h.2 k.2
 |.arr n e l,_,_,hp,h,k=>by simp only[jBq] at hp;simp only[RS] at h k;exact QLq hp h.2.2 k.2.2
 |.tup _,_,_,h,_,_=>by simp[jBq] at h
theorem QLq{Γ Γ':Ctx}:∀{l:List W} {s s':List V},ZKq l=true->RSL Γ l s->RSL Γ' l s'->s=s'
 |[],_,_,_,h,k=>by simp only[RSL] at h k;rw[h,k]
 |w::l,s,s',hp,h,k=>by
  simp only[ZKq,Bool.and_eq_true] at hp;simp only[RSL] at h k;have h1:=rs_uniq hp.1 h.1 k.1;have h2:=QLq hp.2 h.2 k.2;rw[<-List.take_append_drop w.size s,<-List.take_append_drop w.size s',h1,h2]
end
theorem conc_uniq{Γ Γ':Ctx}{w:W}{v v':V}(hw:jBq w=true)(h:RV Γ w v)(k:RV Γ' w v')(ρ:Env):conc ρ v=conc ρ v':=by
 have e:=rs_uniq hw h.2 k.2;cases hv:v.isAgg with
 |true=>
  have hv':v'.isAgg=true:=by rw[<-k.1,h.1,hv]
  rw[qeq hv,qeq hv',yHq,yHq,e]
 |false=>
  have hv':v'.isAgg=false:=by rw[<-k.1,h.1,hv]
  rw[jZq hv,jZq hv'] at e;cases e;rfl
noncomputable def keepB(n:Nat):Option Blk->Option Blk
 |some (.cells ty v)=>if ltB n v then some (.cells ty v) else none
 |some (.ro v)=>if ltB n v then some (.ro v) else none
 |_=>none
theorem keepB_some{n:Nat}{o:Option Blk}{b:Blk}(h:keepB n o=some b):o=some b/\∀D,InB D b->InB (λi m=>D i m/\i<n) b:=by
 unfold keepB at h;split at h
 ·split at h
  ·rename_i hl;cases h;exact⟨rfl,λD hi=>in_lt hi hl⟩
  ·cases h
 ·split at h
  ·rename_i hl;cases h;exact⟨rfl,λD hi=>in_lt hi hl⟩
  ·cases h
 ·cases h
noncomputable def SeenK(h:Heap):Nat->Prop:=λb=>b<h.next/\∃v,h.val b=some v/\ltB h.next v=true
section
variable {P:Program} {C:Cfg} {G:Nat->Option W}
structure ReadsK(C:Cfg)(G:Nat->Option W)(vs:List V)(h:Heap)(ws:List W):Prop where
 args:RVL ⟨0,λi=>i,SeenK h,h⟩ ws vs
 lt:ltL h.next vs=true
 glt:∀g,C.glob g=true->g<h.next
 gl:GRel C G ⟨0,λi=>i,SeenK h,h⟩
theorem known_spec(hmx:P.follows .mixedOrders=true)(hC:CfgOK P C)(hF:vEq P C)(hK:q6q P C){f:FuncId}{k:List V->Heap->Option (V×Heap)}
  (hk:∀vs h v h',k vs h=some (v,h') ->h'=h/\bare v=true/\∃ws w,ReadsK C G vs h ws/\jBq w=true/\qmq C G f 0 ws [] (λw' _ _=>w'=w)/\∃Γ,RV Γ w v):jyq P C f k:=λvs h v h' he=>by
 obtain⟨rfl,hbv,ws,w,hrd,hpl,sp,Γ2,hrv⟩:=hk vs h v h' he;obtain⟨t,ht⟩:=Tr.of (λi=>keepB h'.next (h'.get i)) h'.next;let hs:Heap:=⟨h'.next,h'.next,t⟩
 have get_lt:∀i,i<h'.next->hs.get i=keepB h'.next (h'.get i):=λi hi=>by show t.get i=_;rw[ht,if_pos hi]
 have get_ge:∀i,h'.next<=i->hs.get i=none:=λi hi=>by show t.get i=_;rw[ht,if_neg Xd]
 have get_some:∀{i b},hs.get i=some b->i<h'.next/\h'.get i=some b/\∀D,InB D b->InB (λi m=>D i m/\i<h'.next) b:=λ{i b} hb=>by
  rcases Nat.lt_or_ge i h'.next with hi|hi
  ·rw[get_lt i hi] at hb;exact⟨hi,keepB_some hb⟩
  ·rw[get_ge i hi] at hb;cases hb
 have val_of:∀{b v},b<h'.next->h'.val b=some v->ltB h'.next v=true->hs.val b=some v:=λ{b v} hb h1 h2=>by
  simp only[Heap.val,get_lt b hb] at h1⊢;cases hg:h'.get b with
  |none=>rw[hg] at h1;cases h1
  |some x=>
   rw[hg] at h1;cases x with
   |cells ty u=>cases h1;simp only[keepB,h2,if_true]
   |ro u=>cases h1;simp only[keepB,h2,if_true]
   |loop=>cases h1
   |dfr=>cases h1
   |map=>cases h1
 have val_lt:∀{b v},hs.val b=some v->b<h'.next:=λ{b v} h1=>by
  simp only[Heap.val] at h1;cases hg:hs.get b with
  |none=>rw[hg] at h1;cases h1
  |some x=>exact(get_some hg).1
 have le:∀nw σ,Ctx.Le ⟨nw,σ,SeenK h',h'⟩ ⟨nw,σ,λb=>∃v,hs.val b=some v,hs⟩:=λnw σ=>
  ⟨Nat.le_refl _,λ_ _=>rfl,λb hb=>by obtain⟨h1,u,h2,h3⟩:=hb;exact⟨u,val_of h1 h2 h3⟩,λb hb=>by
   obtain⟨h1,u,h2,h3⟩:=hb;show hs.val b=h'.val b;rw[val_of h1 h2 h3,h2]⟩
 have sat:SatH C G ⟨0,λi=>i,λb=>∃v,hs.val b=some v,hs⟩ [] (λ_=>False) Res.none:=
  ⟨get_ge,λ_ _ _ h=>by simp[hget] at h,λ_ _ _ _ h=>by simp[hget] at h,List.nodup_nil,λ_ _ h=>h,λ_ h=>h.elim,λc hc=>by obtain⟨u,hu⟩:=hc;exact val_lt hu,trivial,λg w h1 h2 nw σ=>(hrd.gl g w h1 h2 nw σ).mono (le nw σ)⟩
 obtain⟨n,v1,Γ1,X1,w1,hp1,R1,g1,g2,g3,g4,rfl,hq⟩:=sp Res.none _ (λ_=>False) vs rfl sat (RVL.mono (le _ _) hrd.args)
 have hw:h'.next<=Γ1.h.wmin:=g3.wmin h'.next (Nat.le_refl _) (Nat.le_refl _) λc hc=>by
  rcases hc with ⟨b,x,h1,_⟩|hc
  ·simp[hget] at h1
  ·exact hc.elim
 have rn:=(run_ok hmx hC hF hK n).self;have hn:h'.next<=Γ1.h.next:=g3.next;refine⟨Mono.refl _,rn.fnEnter _ _ _ _ _ g1,λs0 U D ρ w0 hU gl hin rel=>?_⟩;have up:∀{b},InB (λi m=>DD D ρ i m/\i<h'.next) b->InB (DD (λi=>D i/\i<h'.next) ρ) b:=λh=>h.mono λi m hi=>⟨⟨hi.1.1,hi.2⟩,hi.1.2⟩
 have relS:Rel s0 Γ1.h.next (λi=>D i/\i<h'.next) ρ hs w0:=by
  refine⟨λi hi=>.inl hi.2,get_ge,λi b hi hb=>rel.has i b hi.1 (get_some hb).2.1,λi b hi hb=>up ((get_some hb).2.2 _ (rel.clo i b hi.1 (get_some hb).2.1)),λi j b c hi hj hb hc=>rel.inj i j b c hi.1 hj.1 (get_some hb).2.1 (get_some hc).2.1,λi b hi hb=>rel.own i b hi.1 (get_some hb).2.1,λi j b c hi hj hb hc=>rel.old i j b c hi.1 hj.1 (get_some hb).2.1 (get_some hc).2.1,rel.base⟩
 have glS:GlobOK C (DD (λi=>D i/\i<h'.next) ρ) ρ:=λg hg=>by
  obtain⟨h1,h2⟩:=gl g hg;exact⟨⟨⟨h1.1,hrd.glt g hg⟩,h1.2⟩,h2⟩
 have hinS:InDL (DD (λi=>D i/\i<h'.next) ρ) vs:=InDL_iff.2 λv hv=>InD.mono' (λi m hi=>⟨⟨hi.1.1,hi.2⟩,hi.1.2⟩) v (InDL_iff.1 (ZUq hin hrd.lt) v hv)
 refine(rn.fn _ _ _ _ _ g1 s0 Γ1.h.next _ ρ w0 (Nat.le_refl _) glS hinS relS).mono λe w'=>?_
 rintro⟨D',ρ',rfl,r',n',_⟩
 have same:∀c,c<w0.heap.size->w'.heap[c]? =w0.heap[c]? :=λc hc=>n'.frame c hc λi _ h2 h3=>by
  have h3:i<h'.next:=h3;omega
 have hval:conc ρ' v1=conc ρ v:=by
  subst hq;exact(conc_uniq hpl g4 hrv ρ').trans (conc_bare hbv ρ ρ')
 refine⟨D,ρ,by rw[hval],⟨rel.lt,rel.wf,λi b hi hb=>?_,rel.clo,rel.inj,rel.own,rel.old,r'.base⟩,⟨λ_ h=>h,λ_ h=>.inl h,λ_ _=>⟨rfl,rfl,rfl,rfl⟩,λc hc _=>same c hc,λi _ h1 h2=>by omega,n'.size,Nat.le_refl _,Nat.le_refl _,n'.os,n'.tape,n'.output⟩,bare_in hbv⟩;obtain⟨o,q1,q2⟩:=rel.has i b hi hb;exact⟨o,by rw[same _ (Array.getElem?_eq_some_iff.1 q1).1];exact q1,q2⟩
end
section
variable {kfn:List V->Heap->Option (V×Heap)}
noncomputable def u8V(n:Nat):V:=.int .u8 (.ofNat n)
noncomputable def u32V(n:Nat):V:=.int .u32 (.ofNat n)
noncomputable def cellsK(h:Heap)(b off n:Nat):Option (List V):=match Nat.blt b h.next,h.val b with
 |true,some bv=>match bv.isAgg&&ltB h.next bv&&Nat.ble (off+n) bv.size with
  |true=>some (((zjq bv).drop off).take n)
  |false=>none
 |_,_=>none
theorem Yqq{h:Heap}{b off n:Nat}{s:List V}(hs:cellsK h b off n=some s):b<h.next/\SeenK h b/\s.length=n/\∃bv,h.val b=some bv/\bv.isAgg=true/\off+n<=bv.size/\s=((zjq bv).drop off).take n:=by
 unfold cellsK at hs;split at hs
 ·rename_i bv hb hv;split at hs
  ·rename_i hc;cases hs;simp only[Bool.and_eq_true] at hc;have h1:b<h.next:=by simpa using hb
   have h2:off+n<=bv.size:=Nat.le_of_ble_eq_true hc.2;refine⟨h1,⟨h1,bv,hv,hc.1.2⟩,?_,bv,hv,hc.1.1,h2,rfl⟩;rw[List.length_take,List.length_drop,yMq];omega
  ·cases hs
 ·cases hs
noncomputable def u8s:List V->Option (List Nat)
 |[]=>some []
 |.int .u8 (.ofNat n)::l=>match Nat.blt n 256,u8s l with
  |true,some ns=>some (n::ns)
  |_,_=>none
 |_=>none
theorem u8s_spec:∀{s:List V} {l:List Nat},u8s s=some l->s=l.map u8V/\jfq l
 |[],_,h=>by cases h;exact⟨rfl,λb hb=>by cases hb⟩
 |v::s,l,h=>by
  unfold u8s at h;split at h
  ·rename_i he;cases he
  ·rename_i n l' he;cases he;split at h
   ·rename_i ns h1 hn;cases h;obtain⟨e,k⟩:=u8s_spec hn;refine⟨by rw[e];rfl,λb hb=>?_⟩;rcases List.mem_cons.1 hb with rfl|hb
    ·simpa using h1
    ·exact k b hb
   ·cases h
  ·cases h
theorem RSL_bN(Γ:Ctx):∀l:List Nat,RSL Γ (bN l) (l.map u8V)
 |[]=>rfl
 |n::l=>yWq (a:=[u8V n]) (b:=l.map u8V) (x:=.int .u8 (.ofNat n)) rfl (RSL_bN Γ l)
theorem size_bN(l:List Nat):∀x∈bN l,x.size=1:=λx hx=>by
 obtain⟨n,_,rfl⟩:=List.mem_map.1 hx;rfl
noncomputable def partK(h:Heap):V->Option (List Nat)
 |.nils=>some []
 |.sl b _ off len 1 _=>match cellsK h b off len with
  |some s=>u8s s
  |none=>none
 |_=>none
theorem Y0q{h:Heap}{v:V}{l:List Nat}(hk:partK h v=some l):RS ⟨0,λi=>i,SeenK h,h⟩ (xVq (l,false)) [v]/\jfq l:=by
 unfold partK at hk;split at hk
 ·cases hk;exact⟨.inl ⟨rfl,rfl⟩,λb hb=>by cases hb⟩
 ·rename_i b base off len lim;split at hk
  ·rename_i s hs;obtain⟨_,h2,h3,bv,h4,h5,h6,h7⟩:=Yqq hs;obtain⟨e,ks⟩:=u8s_spec hk;refine⟨?_,ks⟩
   have hl:(bN l).length=len:=by
    rw[u8q,<-h3,e,List.length_map]
   refine .inr ⟨b,base,off,lim,bv,by rw[hl],λh=>Yw,h2,h4,h5,by rw[hl,Nat.mul_one];exact h6,size_bN l,?_⟩;rw[hl,Nat.mul_one,<-h7,e];exact RSL_bN _ l
  ·cases hk
 ·cases hk
noncomputable def partsK(h:Heap):List V->Option (List (List Nat))
 |[]=>some []
 |v::s=>match partK h v with
  |some l=>match partsK h s with
   |some ls=>some (l::ls)
   |none=>none
  |none=>none
noncomputable def Qyq(ps:List (List Nat)):List (List Nat×Bool):=ps.map λl=>(l,false)
theorem ZMq{h:Heap}:∀{s:List V} {ps:List (List Nat)},partsK h s=some ps->s.length=ps.length/\RSL ⟨0,λi=>i,SeenK h,h⟩ ((Qyq ps).map xVq) s/\∀p∈ps,jfq p
 |[],_,hk=>by cases hk;exact⟨rfl,rfl,λp hp=>by cases hp⟩
 | v ::s,ps,hk=>by
  unfold partsK at hk;split at hk
  ·rename_i l hl;split at hk
   ·rename_i ls hls;cases hk;obtain⟨h1,h2,h3⟩:=ZMq hls
    exact⟨congrArg (· +1) h1,yWq (a:=[v]) (b:=s) (Y0q hl).1 h2,λp hp=>by
     rcases List.mem_cons.1 hp with rfl|hp
     ·exact(Y0q hl).2
     ·exact h3 p hp⟩
   ·cases hk
  ·cases hk
noncomputable def argK(h:Heap):V->Option (List (List Nat))
 |.nils=>some []
 |.sl b _ off len 1 _=>match cellsK h b off len with
  |some s=>partsK h s
  |none=>none
 |_=>none
theorem size_parts(ps:List (List Nat×Bool)):∀x∈ps.map xVq,x.size=1:=λx hx=>by
 obtain⟨n,_,rfl⟩:=List.mem_map.1 hx;rfl
theorem argK_spec{h:Heap}{v:V}{ps:List (List Nat)}(hk:argK h v=some ps):RV ⟨0,λi=>i,SeenK h,h⟩ (.fz ((Qyq ps).map xVq) 1 false) v/\ltB h.next v=true/\∀p∈ps,jfq p:=by
 unfold argK at hk;split at hk
 ·cases hk;exact⟨⟨rfl,.inl ⟨rfl,rfl⟩⟩,rfl,λp hp=>by cases hp⟩
 ·rename_i b base off len lim;split at hk
  ·rename_i s hs;obtain⟨h1,h2,h3,bv,h4,h5,h6,h7⟩:=Yqq hs;obtain⟨g1,g2,g3⟩:=ZMq hk
   have hl:((Qyq ps).map xVq).length=len:=by
    rw[List.length_map,Qyq,List.length_map,<-g1,h3]
   refine⟨⟨rfl,.inr ⟨b,base,off,lim,bv,by rw[hl];rfl,λh=>Yw,h2,h4,h5,by rw[hl,Nat.mul_one];exact h6,size_parts _,?_⟩⟩,by simpa[ltB] using h1,g3⟩;rw[hl,Nat.mul_one,<-h7];exact g2
  ·cases hk
 ·cases hk
noncomputable def eqK:List V->List Nat->Bool
 |[],[]=>true
 |.int .u32 (.ofNat n)::l,m::ms=>match Nat.beq n m with
  |true=>eqK l ms
  |false=>false
 |_,_=>false
theorem eqK_spec:∀{l:List V} {ms:List Nat},eqK l ms=true->l=ms.map u32V
 |[],[],_=>rfl
 |[],_::_,h=>by simp[eqK] at h
 |v::l,ms,h=>by
  unfold eqK at h;split at h
  ·simp_all
  ·rename_i n l' m ms' e;cases e;split at h
   ·rename_i hb;obtain rfl:=Nat.eq_of_beq_eq_true hb;rw[eqK_spec h];rfl
   ·cases h
  ·cases h
noncomputable def globK(h:Heap):Bool:=match h.get 1 with
 |some (.ro (.arr 64 1 l))=>eqK l kW
 |_=>false
theorem RSL_wd(Γ:Ctx):∀l:List Nat,RSL Γ (l.map wd) (l.map u32V)
 |[]=>rfl
 |n::l=>yWq (a:=[u32V n]) (b:=l.map u32V) (x:=wd n) rfl (RSL_wd Γ l)
theorem Y6q{h:Heap}(hn:Nat.ble 3 h.next=true)(hk:globK h=true):GRel (cfgk kfn) glK ⟨0,λi=>i,SeenK h,h⟩:=by
 intro g w _ h2 nw σ;have hn:=Nat.le_of_ble_eq_true hn;unfold glK at h2;split at h2
 ·cases h2;unfold globK at hk;split at hk
  ·rename_i l hg;obtain rfl:=eqK_spec hk;have hv:h.val 1=some (.arr 64 1 (kW.map u32V)):=by simp only[Heap.val,hg]
   refine RV.of_one ⟨1,0,_,rfl,⟨by omega,_,hv,by rfl⟩,hv,by exact Nat.le_refl _,λ_=>rfl,.inr rfl,?_⟩ rfl rfl;have e:((zjq (.arr 64 1 (kW.map u32V))).drop 0).take 64=kW.map u32V:=by kernel_rfl
   show RS _ _ (((zjq (.arr 64 1 (kW.map u32V))).drop 0).take 64);rw[e];exact⟨rfl,λx hx=>by obtain⟨n,_,rfl⟩:=List.mem_map.1 hx;rfl,RSL_wd _ kW⟩
  ·cases hk
 ·cases h2
theorem bare_u8:∀l:List Nat,v1q (l.map u8V)=true
 |[]=>rfl
 |n::l=>by simp only[List.map_cons,v1q,u8V,bare,Bool.true_and];exact bare_u8 l
theorem plain_bN:∀l:List Nat,ZKq (bN l)=true
 |[]=>rfl
 |n::l=>by simp only[bN,List.map_cons,ZKq,jBq,Bool.true_and];exact plain_bN l
theorem flat_u8:∀l:List Nat,zXq 1 (l.map u8V)=l.map u8V
 |[]=>rfl
 |n::l=>by
  simp only[List.map_cons,zXq,flat_u8 l];rfl
theorem shaN_len(ps:List (List Nat)):(shaN ps).length=32:=by simp[shaN,digN]
noncomputable def ofK:List V->Heap->Option (V×Heap)
 |[x],h=>match Nat.ble 3 h.next&&globK h,argK h x with
  |true,some ps=>match Nat.blt (yPq ps) 2147483648&&Nat.blt ps.length 2147483648 with
   |true=>some (.arr 32 1 ((shaF ps).map u8V),h)
   |false=>none
  |_,_=>none
 |_,_=>none
theorem withF_map(ps:List (List Nat)):(Qyq ps).map (·.1)=ps:=by
 simp[Qyq,Function.comp_def]
theorem ofOK:jyq Tryz.prog (cfgk kNone) 137 ofK:=known_spec (G:=glK) mixed (cfgkOK kNone) (fnskOK kNone) (known0OK kNone λ_ _ _ _ he=>nomatch (show(none:Option (V×Heap))=some _ from he)) λvs h v h' he=>by
 unfold ofK at he;split at he
 ·rename_i x;split at he
  ·rename_i ps hg ha;split at he
   ·rename_i hb;cases he;simp only[Bool.and_eq_true] at hg hb;obtain⟨a1,a2,a3⟩:=argK_spec ha;rw[sha_eq a3];refine⟨rfl,bare_u8 _,[.fz ((Qyq ps).map xVq) 1 false],.arr 32 1 (bN (shaN ps)),⟨RVL_cons.2 ⟨_,_,rfl,a1,RVL_nil.2 rfl⟩,by simp only[ltL,a2,Bool.and_self],λg hg'=>?_,Y6q hg.1 hg.2⟩,plain_bN _,λR=>?_,⟨0,λi=>i,λ_=>False,h⟩,?_⟩
    ·have h1:Nat.ble (g+1) 3=true:=hg';have:=Nat.le_of_ble_eq_true h1;have:=Nat.le_of_ble_eq_true hg.1;omega
    ·have:=of_s (kfn:=kNone) (Qyq ps) false (by rw[withF_map];simpa using hb.1) (by rw[Qyq,List.length_map];simpa using hb.2) R;rw[withF_map] at this;exact this
    ·have hl:((shaN ps).map u8V).length=32:=by rw[List.length_map,shaN_len]
     refine⟨rfl,?_⟩;show RS _ _ (fitV 32 (zXq 1 ((shaN ps).map u8V)));rw[flat_u8,yaq hl];exact⟨hl,size_bN _,RSL_bN _ _⟩
   ·cases he
  ·cases he
 ·cases he
noncomputable def knownT:Tr (List V->Heap->Option (V×Heap)):=Tr.set .nil 137 (some ofK)
noncomputable def cfg1:Cfg:={cfg with known:=λf=>knownT.get f}
theorem known1OK:q6q Tryz.prog cfg1:=λf k hk=>by
 have e:knownT.get f=if f=137 then some ofK else none:=by
  unfold knownT;rw[Tr.get_set,Tr.get_nil]
 have hk:knownT.get f=some k:=hk;rw[e] at hk;split at hk
 ·rename_i hf;cases hk;subst hf;exact ofOK
 ·cases hk
end
mutual
noncomputable def lfW:W->List V
 |.int k n=>[.int k n]
 |.bool b=>[.bool b]
 |.agg _ l=>lfL l
 |.arr _ _ l=>lfL l
 |_=>[]
noncomputable def lfL:List W->List V
 |[]=>[]
 |w::l=>lfW w++lfL l
end
mutual
noncomputable def lfOK:W->Bool
 |.int _ _=>true
 |.bool _=>true
 |.agg n l=>Nat.beq (lfL l).length n&&lfOKL l
 |.arr n e l=>Nat.beq (lfL l).length n&&l.all (λx=>Nat.beq x.size e)&&lfOKL l
 |_=>false
noncomputable def lfOKL:List W->Bool
 |[]=>true
 |w::l=>lfOK w&&lfOKL l
end
mutual
theorem lf_rs{Γ:Ctx}:∀{w:W},lfOK w=true->RS Γ w (lfW w)
 |.int k n,_=>rfl
 |.bool b,_=>rfl
 |.agg n l,h=>by
  simp only[lfOK,Bool.and_eq_true] at h;exact⟨Nat.eq_of_beq_eq_true h.1,lf_rsl h.2⟩
 |.arr n e l,h=>by
  simp only[lfOK,Bool.and_eq_true] at h;exact⟨Nat.eq_of_beq_eq_true h.1.1,λx hx=>Nat.eq_of_beq_eq_true (List.all_eq_true.1 h.1.2 x hx),lf_rsl h.2⟩
 |.undef,h=>by simp[lfOK] at h
 |.str _,h=>by simp[lfOK] at h
 |.nilp,h=>by simp[lfOK] at h
 |.ptr _ _,h=>by simp[lfOK] at h
 |.nils,h=>by simp[lfOK] at h
 |.sl _ _ _ _ _ _,h=>by simp[lfOK] at h
 |.fz _ _ _,h=>by simp[lfOK] at h
 |.fel _,h=>by simp[lfOK] at h
 |.nilm,h=>by simp[lfOK] at h
 |.fn _ _ _,h=>by simp[lfOK] at h
 |.yield _,h=>by simp[lfOK] at h
 |.nilf,h=>by simp[lfOK] at h
 |.iface _ _,h=>by simp[lfOK] at h
 |.nili,h=>by simp[lfOK] at h
 |.tup _,h=>by simp[lfOK] at h
theorem lf_rsl{Γ:Ctx}:∀{l:List W},lfOKL l=true->RSL Γ l (lfL l)
 |[],_=>rfl
 |w::l,h=>by
  simp only[lfOKL,Bool.and_eq_true] at h;exact yWq (lf_rs h.1) (lf_rsl h.2)
end
noncomputable def digV:V:=.arr 32 1 (List.replicate 32 (.int .u8 0))
noncomputable def gapV:V:=.agg 101 [.bool true,.agg 100 [.int .i64 0,.bool false,.agg 98 [.int .i64 0,digV,digV,digV,.int .i64 0]]]
theorem kXq{α:Type}(L:List α)(a n:Nat):L.drop a=(L.drop a).take n++L.drop (a+n):=by
 rw[<-List.drop_drop];exact(List.take_append_drop n _).symm
theorem Jlq{α:Type}(L:List α)(a n:Nat)(h:L.length=a+n):L.drop a=(L.drop a).take n:=(List.take_of_length_le (by rw[List.length_drop];omega)).symm
def stL:Option TypeDesc->Option (List (TypeId×Nat))
 |some (.struct fs)=>some (fs.toList.map λf=>(f.type,f.offset))
 |_=>none
section
variable {H:Type} {enc:TypeId×Value->H} {P:Program} {w:World} {base:Nat} {spare:Nat->Bool} {held:Bool} {fuel:Nat} {cs:List Value} {p:List MemPlace}
theorem trod_st{t:TypeId}{l:List (TypeId×Nat)}{d:DataW H}(hs:stL (P.underlying t)=some l)(h:DataW.trod enc P w base spare held fuel t cs=some (d,p)):∃(xs:List (DataW H×List MemPlace)) (n:Nat),d= .agg (xs.map (·.1))/\cs.length=P.cellsOf t/\∀(i:Nat) (ty:TypeId) (o:Nat),l[i]? =some (ty,o) ->DataW.trod enc P w base spare held n ty ((cs.drop o).take (P.cellsOf ty))=xs[i]? :=by
 unfold stL at hs;split at hs
 ·rename_i fs hu;cases hs;obtain⟨xs,n,_,h2,h3,_,h5⟩:=DataW.trod_struct hu h;simp only[Prod.mk.injEq] at h2;refine⟨xs,n,h2.1,h3,λi ty o hi=>?_⟩;rw[List.getElem?_map] at hi;cases hf:fs.toList[i]? with
  |none=>rw[hf] at hi;cases hi
  |some f=>
   rw[hf] at hi;cases hi;exact h5 i f Qf
 ·cases hs
end
section
variable {H:Type} {enc:TypeId×Value->H} {w:World} {base:Nat} {spare:Nat->Bool} {held:Bool} {fuel:Nat} {cs:List Value} {p:List MemPlace}
def zdD:DataW H:=.agg (List.replicate 32 (.lit (.int .u8 0)))
def zdC:List Value:=List.replicate 32 (.int .u8 0)
theorem QDq(h:DataW.trod enc Tryz.prog w base spare held fuel 23 cs=some (zdD,p)):cs=zdC:=
 trod_tab (ns:=List.replicate 32 0) (k:=.u8) (n:=32) (e:=5) Xl Xl Xl Xl rfl h
theorem QCq{n:Int}(h:DataW.trod enc Tryz.prog w base spare held fuel 3 cs=some (.lit (.int .i64 n),p)):cs=[.int .i64 n]:=by
 obtain⟨z,h1,h2,_⟩:=DataW.trod_int (k:=.i64) Xl h;simp only[Prod.mk.injEq,DataW.lit.injEq,Lit.int.injEq,true_and] at h2;rw[h1,h2.1]
theorem trod_bo{b:Bool}(h:DataW.trod enc Tryz.prog w base spare held fuel 4 cs=some (.lit (.bool b),p)):cs=[.bool b]:=by
 obtain⟨z,h1,h2⟩:=DataW.trod_bool Xl h;simp only[Prod.mk.injEq,DataW.lit.injEq,Lit.bool.injEq] at h2;rw[h1,h2.1]
def hdD:DataW H:=.agg [.lit (.int .i64 0),zdD,zdD,zdD,.lit (.int .i64 0)]
def hdC:List Value:=.int .i64 0::(zdC++(zdC++(zdC++[.int .i64 0])))
theorem trod_hdr(h:DataW.trod enc Tryz.prog w base spare held fuel 57 cs=some (hdD,p)):cs=hdC:=by
 obtain⟨xs,n,hd,hl,hx⟩:=trod_st (l:=[(3,0),(23,1),(23,33),(23,65),(3,97)]) Xl h;have c1:Tryz.prog.cellsOf 3=1:=by kernel_rfl
 have c2:Tryz.prog.cellsOf 23=32:=by kernel_rfl
 have c3:Tryz.prog.cellsOf 57=98:=by kernel_rfl
 rw[c3] at hl;have hd:=(DataW.agg.inj hd).symm;match xs,hd,hx with
 |[(a,pa),(b,pb),(c,pc),(d,pd),(e,pe)],hd,hx=>
  simp only[List.map_cons,List.map_nil,List.cons.injEq,and_true] at hd;obtain⟨rfl,rfl,rfl,rfl,rfl⟩:=hd;have h0:=hx 0 _ _ rfl;have h1:=hx 1 _ _ rfl;have h2:=hx 2 _ _ rfl;have h3:=hx 3 _ _ rfl;have h4:=hx 4 _ _ rfl;rw[c1] at h0 h4;rw[c2] at h1 h2 h3;have g0:=QCq h0;have g1:=QDq h1;have g2:=QDq h2;have g3:=QDq h3;have g4:=QCq h4;have e0:=kXq cs 0 1;have e1:=kXq cs 1 32;have e2:=kXq cs 33 32;have e3:=kXq cs 65 32;have e4:=Jlq cs 97 1 hl;rw[g0] at e0;rw[g1] at e1;rw[g2] at e2;rw[g3] at e3;rw[g4] at e4;rw[List.drop_zero] at e0;rw[e0,e1,e2,e3,e4];rfl
def evD:DataW H:=.agg [.lit (.int .i64 0),.lit (.bool false),hdD]
def evC:List Value:=.int .i64 0:: .bool false::hdC
theorem trod_evt(h:DataW.trod enc Tryz.prog w base spare held fuel 59 cs=some (evD,p)):cs=evC:=by
 obtain⟨xs,n,hd,hl,hx⟩:=trod_st (l:=[(3,0),(4,1),(57,2)]) Xl h;have c1:Tryz.prog.cellsOf 3=1:=by kernel_rfl
 have c2:Tryz.prog.cellsOf 4=1:=by kernel_rfl
 have c3:Tryz.prog.cellsOf 57=98:=by kernel_rfl
 have c4:Tryz.prog.cellsOf 59=100:=by kernel_rfl
 rw[c4] at hl;have hd:=(DataW.agg.inj hd).symm;match xs,hd,hx with
 |[(a,pa),(b,pb),(c,pc)],hd,hx=>
  simp only[List.map_cons,List.map_nil,List.cons.injEq,and_true] at hd;obtain⟨rfl,rfl,rfl⟩:=hd;have h0:=hx 0 _ _ rfl;have h1:=hx 1 _ _ rfl;have h2:=hx 2 _ _ rfl;rw[c1] at h0;rw[c2] at h1;rw[c3] at h2;have g0:=QCq h0;have g1:=trod_bo h1;have g2:=trod_hdr h2;have e0:=kXq cs 0 1;have e1:=kXq cs 1 1;have e2:=Jlq cs 2 98 hl;rw[g0] at e0;rw[g1] at e1;rw[g2] at e2;rw[List.drop_zero] at e0;rw[e0,e1,e2];rfl
def itD:DataW H:=.agg [.lit (.bool true),evD]
theorem trod_gap(h:DataW.trod enc Tryz.prog w base spare held fuel 61 cs=some (itD,p)):cs= .bool true::evC:=by
 obtain⟨xs,n,hd,hl,hx⟩:=trod_st (l:=[(4,0),(59,1)]) Xl h;have c2:Tryz.prog.cellsOf 4=1:=by kernel_rfl
 have c3:Tryz.prog.cellsOf 59=100:=by kernel_rfl
 have c4:Tryz.prog.cellsOf 61=101:=by kernel_rfl
 rw[c4] at hl;have hd:=(DataW.agg.inj hd).symm;match xs,hd,hx with
 |[(a,pa),(b,pb)],hd,hx=>
  simp only[List.map_cons,List.map_nil,List.cons.injEq,and_true] at hd;obtain⟨rfl,rfl⟩:=hd;have h0:=hx 0 _ _ rfl;have h1:=hx 1 _ _ rfl;rw[c2] at h0;rw[c3] at h1;have g0:=trod_bo h0;have g1:=trod_evt h1;have e0:=kXq cs 0 1;have e1:=Jlq cs 1 100 hl;rw[g0] at e0;rw[g1] at e1;rw[List.drop_zero] at e0;rw[e0,e1];rfl
theorem gap_cells:cellsV (rho0 101) gapV= .bool true::evC:=by kernel_rfl
end
theorem gap_rel{h:Heap}(hn:3<=h.next)(hk:globK h=true)(hg:h.val 0=some gapV):GRel cfg glT (ctx0 h):=λg w hg' hw nw σ=>by
 unfold glT at hw;split at hw
 ·rename_i e;obtain rfl:=Nat.eq_of_beq_eq_true e;cases hw;refine RV.of_one ⟨0,0,_,rfl,(by show 0<h.next;omega),hg,by exact Nat.le_refl _,λ_=>rfl,.inr rfl,?_⟩ rfl rfl;have e:((zjq gapV).drop 0).take (itmW itG).size=lfW (itmW itG):=by kernel_rfl
  rw[e];exact lf_rs Xl
 ·exact(GRel.mono (Γ':=ctx0 h) (Y6q (Nat.ble_eq_true_of_le hn) hk) ⟨Nat.le_refl _,λ_ _=>rfl,λ_ h=>h.1,λ_ _=>rfl⟩) g w hg' hw nw σ
noncomputable def kNum:IntKind->Nat
 |.i8=>0
 |.i16=>1
 |.i32=>2
 |.i64=>3
 |.u8=>4
 |.u16=>5
 |.u32=>6
 |.u64=>7
noncomputable def kEq(a b:IntKind):Bool:=Nat.beq (kNum a) (kNum b)
theorem kEq_eq(a b:IntKind):kEq a b=decide (a=b):=by cases a<;>cases b<;>rfl
noncomputable def addI(m n:Int):Int:=match m,n with
 |.ofNat a,.ofNat b=>.ofNat (Nat.add a b)
 |m,n=>m+n
theorem addI_eq(m n:Int):addI m n=m+n:=by cases m<;>cases n<;>rfl
noncomputable def subI(m n:Int):Int:=match m,n with
 |.ofNat a,.ofNat b=>Bool.rec (motive:=λ_=>Int) (.ofNat a- .ofNat b) (.ofNat (Nat.sub a b)) (Nat.ble b a)
 |m,n=>m-n
theorem subI_eq(m n:Int):subI m n=m-n:=by
 cases m with
 |negSucc=>rfl
 |ofNat a=>cases n with
  |negSucc=>rfl
  |ofNat b=>
   show Bool.rec (motive:=λ_=>Int) (Int.ofNat a-Int.ofNat b) (.ofNat (a-b)) (Nat.ble b a)=_;cases h:Nat.ble b a with
   |false=>rfl
   |true=>
    have:=Nat.le_of_ble_eq_true h;show Int.ofNat (a-b)=Int.ofNat a-Int.ofNat b;simp only[Int.ofNat_eq_natCast];omega
noncomputable def mulI(m n:Int):Int:=match m,n with
 |.ofNat a,.ofNat b=>.ofNat (Nat.mul a b)
 |m,n=>m*n
theorem mulI_eq(m n:Int):mulI m n=m*n:=by cases m<;>cases n<;>rfl
noncomputable def wI64(z:Int):Int:=match z with
 |.ofNat a=>Bool.rec (motive:=λ_=>Int) (qoq .i64 (.ofNat a)) (.ofNat a) (Nat.blt a 9223372036854775808)
 |.negSucc a=>Bool.rec (motive:=λ_=>Int) (qoq .i64 (.negSucc a)) (.negSucc a) (Nat.blt a 9223372036854775808)
noncomputable def wU64(z:Int):Int:=match z with
 |.ofNat a=>.ofNat (Nat.mod a 18446744073709551616)
 |.negSucc a=>qoq .u64 (.negSucc a)
noncomputable def wU32(z:Int):Int:=match z with
 |.ofNat a=>.ofNat (Nat.mod a 4294967296)
 |.negSucc a=>qoq .u32 (.negSucc a)
noncomputable def wU8(z:Int):Int:=match z with
 |.ofNat a=>.ofNat (Nat.mod a 256)
 |.negSucc a=>qoq .u8 (.negSucc a)
noncomputable def wrapR(k:IntKind):Int->Int:=match k with
 |.i8=>qoq .i8
 |.i16=>qoq .i16
 |.i32=>qoq .i32
 |.i64=>wI64
 |.u8=>wU8
 |.u16=>qoq .u16
 |.u32=>wU32
 |.u64=>wU64
theorem wrapR_eq(k:IntKind)(z:Int):wrapR k z=qoq k z:=by
 cases k<;>cases z<;>try rfl
 ·rename_i a;show Bool.rec (motive:=λ_=>Int) (qoq .i64 (.ofNat a)) (.ofNat a) (Nat.blt a 9223372036854775808)=_;cases h:Nat.blt a 9223372036854775808 with
  |false=>rfl
  |true=>unfold qoq;simp only[h]
 ·rename_i a;show Bool.rec (motive:=λ_=>Int) (qoq .i64 (.negSucc a)) (.negSucc a) (Nat.blt a 9223372036854775808)=_;cases h:Nat.blt a 9223372036854775808 with
  |false=>rfl
  |true=>unfold qoq;simp only[h]
noncomputable def bAdd(k:IntKind)(m n:Int):Option V:=some (.int k (wrapR k (addI m n)))
noncomputable def bSub(k:IntKind)(m n:Int):Option V:=some (.int k (wrapR k (subI m n)))
noncomputable def bMul(k:IntKind)(m n:Int):Option V:=some (.int k (wrapR k (mulI m n)))
noncomputable def bLss(_:IntKind)(m n:Int):Option V:=some (.bool (ltI m n))
noncomputable def bLeq(_:IntKind)(m n:Int):Option V:=some (.bool (!ltI n m))
noncomputable def bGtr(_:IntKind)(m n:Int):Option V:=some (.bool (ltI n m))
noncomputable def bGeq(_:IntKind)(m n:Int):Option V:=some (.bool (!ltI m n))
noncomputable def bEql(_:IntKind)(m n:Int):Option V:=some (.bool (eqI m n))
noncomputable def bNeq(_:IntKind)(m n:Int):Option V:=some (.bool (!eqI m n))
noncomputable def bOp(op:BinOp):IntKind->Int->Int->Option V:=match op with
 |.add=>bAdd
 |.sub=>bSub
 |.mul=>bMul
 |.quo=>binI .quo
 |.rem=>binI .rem
 |.and=>binI .and
 |.or=>binI .or
 |.xor=>binI .xor
 |.shl=>binI .shl
 |.shr=>binI .shr
 |.andNot=>binI .andNot
 |.eql=>bEql
 |.neq=>bNeq
 |.lss=>bLss
 |.leq=>bLeq
 |.gtr=>bGtr
 |.geq=>bGeq
theorem bOp_eq(op:BinOp)(k:IntKind)(m n:Int):bOp op k m n=binI op k m n:=by
 cases op<;>first|rfl|(simp only[bOp,bAdd,bSub,bMul,addI_eq,subI_eq,mulI_eq,wrapR_eq];rfl)
noncomputable def biShl(k:IntKind)(m:Int)(_:IntKind)(n:Int):Option V:=shI .shl k m n
noncomputable def biShr(k:IntKind)(m:Int)(_:IntKind)(n:Int):Option V:=shI .shr k m n
noncomputable def biOp(op:BinOp)(k:IntKind)(m:Int)(k':IntKind)(n:Int):Option V:=Bool.rec (motive:=λ_=>Option V) none (bOp op k m n) (kEq k k')
noncomputable def binInt(op:BinOp):IntKind->Int->IntKind->Int->Option V:=match op with
 |.shl=>biShl
 |.shr=>biShr
 |op=>biOp op
noncomputable def binY(C:Cfg)(op:BinOp)(t:TypeId)(k:IntKind)(m:Int)(y:V):Option V:=match y with
 |.int k' n=>binInt op k m k' n
 |y=>binV C op t (.int k m) y
noncomputable def binVF(C:Cfg)(op:BinOp)(t:TypeId)(x y:V):Option V:=match x with
 |.int k m=>binY C op t k m y
 |x=>binV C op t x y
theorem binVF_eq(C:Cfg)(op:BinOp)(t:TypeId)(x y:V):binVF C op t x y=binV C op t x y:=by
 cases x<;>try rfl
 rename_i k m;cases y<;>try rfl
 rename_i k' n;show binInt op k m k' n=binV C op t (.int k m) (.int k' n)
 have key:biOp op k m k' n=match decide (k=k') with
   |true=>binI op k m n
   |false=>none:=by
  unfold biOp;rw[kEq_eq,bOp_eq];cases decide (k=k')<;>rfl
 unfold binV;cases op<;>first|rfl|exact key
noncomputable def binNF(C:Cfg)(op:BinOp)(t:TypeId)(y:Operand)(u v:V):Option V:=match binVF C op t u v with
 |some r=>some r
 |none=>nilIB C op t y u v
noncomputable def xDq(C:Cfg)(op:BinOp)(t:TypeId)(x y:Operand)(fr:Tr V):Option V:=match evV C fr x with
 |some u=>match evV C fr y with
  |some v=>binNF C op t y u v
  |none=>none
 |none=>none
theorem ZFq(C:Cfg)(fr:Tr V)(op:BinOp)(t:TypeId)(x y:Operand):xDq C op t x y fr=z6q C fr op t x y:=by
 unfold xDq z6q binNF;cases evV C fr x with
 |none=>cases evV C fr y<;>rfl
 |some u=>cases evV C fr y with
  |none=>rfl
  |some v=>
   simp only[binVF_eq];cases binV C op t u v<;>rfl
noncomputable def evLF(C:Cfg)(fr:Tr V)(l:List Operand):Option (List V):=List.rec (motive:=λ_=>Option (List V)) (some []) (λx _ ih=>match evV C fr x with
 |some v=>match ih with
  |some r=>some (v::r)
  |none=>none
 |none=>none) l
theorem evLF_eq(C:Cfg)(fr:Tr V):∀l,evLF C fr l=evL C fr l
 |[]=>rfl
 |x::l=>by
  show(match evV C fr x with
   |some v=>match evLF C fr l with
    |some r=>some (v::r)
    |none=>none
   |none=>none)=_
  rw[evLF_eq C fr l];conv=>rhs;unfold evL
  cases evV C fr x<;>cases evL C fr l<;>rfl
noncomputable def optV(v:Option V)(h:Heap):Option (V×Heap):=match v with
 |some v=>some (v,h)
 |none=>none
noncomputable def callFn(S:Self)(C:Cfg)(f:FuncId)(vs:List V)(h:Heap):Option (V×Heap):=match C.ext f with
 |some e=>optV (e vs) h
 |none=>S.fn f vs h
noncomputable def callF(S:Self)(C:Cfg)(fr:Tr V)(h:Heap)(x:Operand)(xs:Array Operand):Option (V×Heap):=match evV C fr x with
 |some (.fn f a c)=>match evLF C fr xs.toList with
  |some vs=>callFn S C f (a++vs++c) h
  |none=>none
 |some (.yield l)=>match evLF C fr xs.toList with
  |some vs=>S.yield l vs h
  |none=>none
 |_=>none
theorem callF_eq(S:Self)(C:Cfg)(fr:Tr V)(h:Heap)(x:Operand)(xs:Array Operand)(ts:Array TypeId):callF S C fr h x xs=qyq S C fr h (.call ⟨.value x,xs,ts⟩):=by
 unfold callF qyq;rw[evLF_eq];dsimp only
 cases evV C fr x with
 |none=>cases evL C fr xs.toList<;>rfl
 |some v=>cases v<;>cases evL C fr xs.toList<;>rfl
abbrev OpK:=Self->Cfg->Tr V->Heap->TypeId->Option (V×Heap)
noncomputable def noK:OpK:=λ_ _ _ _ _=>none
noncomputable def Zxq(o:Op):OpK:=λS C fr h rt=>match z1q C fr rt o with
 |some v=>some (v,h)
 |none=>match opH C fr h o with
  |some r=>some r
  |none=>qyq S C fr h o
noncomputable def bltK(args:Array Operand)(ats:Array TypeId)(b:Builtin):OpK:=match b with
 |.len=>λ_ C fr h _=>match qbq C fr args ats with
  |some v=>some (v,h)
  |none=>z5q C fr h args ats
 |.clear=>λ_ C fr h _=>zyq C fr h args ats
 |.append=>λ_ C fr h _=>zCq C fr h args ats
 |.copy=>λ_ C fr h _=>ybq C fr h args ats
 |b=>Zxq (.call ⟨.builtin b,args,ats⟩)
noncomputable def calK(args:Array Operand)(ats:Array TypeId)(c:Callee):OpK:=match c with
 |.value x=>λS C fr h _=>callF S C fr h x args
 |.builtin b=>bltK args ats b
 |c=>Zxq (.call ⟨c,args,ats⟩)
noncomputable def callK(c:Call):OpK:=calK c.args c.argTypes c.callee
noncomputable def moveK(x:Operand):OpK:=λ_ C fr h _=>optV (evV C fr x) h
noncomputable def pickK(c a b:Operand):OpK:=λ_ C fr h _=>optV (yAq C fr c a b) h
noncomputable def unK(u:UnOp)(t:TypeId)(x:Operand):OpK:=match u with
 |.not=>λ_ C fr h _=>optV (zLq C fr x) h
 |u=>Zxq (.unOp u t x)
noncomputable def mkfK(f:Fn)(a c:Array Operand):OpK:=match f with
 |.func g=>λ_ C fr h _=>optV (zBq C fr g a c) h
 |f=>Zxq (.makeFunc f a c)
noncomputable def convK(s t:TypeId)(x:Operand):OpK:=λ_ C fr h _=>match zHq C fr s t x with
 |some v=>some (v,h)
 |none=>zrq C fr h s t x
noncomputable def sliceK(t:TypeId)(x:Operand)(lo hi mx:Option Operand):OpK:=λ_ C fr h _=>match z2q C fr t x lo hi mx with
 |some v=>some (v,h)
 |none=>zNq C fr h t x lo hi mx
noncomputable def opF(o:Op):OpK:=Op.rec (motive:=λ_=>OpK) moveK moveK pickK
 (λt _ C fr h _=>zSq C fr h t) (λt x _ C fr h _=>yRq C fr h t x)
 (λt ps _ C fr h _=>optV (ydq C fr t ps) h) (λt n ps _ C fr h _=>zhq C fr h t n ps)
 (λt x y z _ C fr h _=>zgq C fr h t x y z) (λt x _ C fr h _=>z7q C fr h t x) (λt x y _ C fr h _=>zRq C fr h t x y) (λ_=>noK) (λ_=>noK)
 (λx _ C fr h _=>optV (zDq C fr x) h) (λop t x y _ _ C fr h _=>optV (xDq C op t x y fr) h)
 unK convK (λ_ _=>noK) (λt x _ C fr h _=>optV (ziq C fr t x) h)
 mkfK (λt x _ C fr h _=>zqq C fr h t x) (λ_ _=>noK) (λt x y _ C fr h _=>zkq C fr h t x y)
 sliceK
 (λt x i _ C fr h _=>optV (zuq C fr t x i) h) (λt x i _ C fr h _=>optV (z9q C fr t x i) h) (λt x y _ C fr h _=>optV (ztq C fr t x y) h) (λt x y _ C fr h _=>optV (z8q C fr t x y) h)
 (λt x y ok _ C fr h _=>zzq C fr h t x y ok) (λt x y z _ C fr h _=>zgq C fr h t x y z) (λt x y _ C fr h _=>znq C fr h t x y) (λ_ x y z _ C fr h _=>zfq C fr h x y z) (λ_ _=>noK) (λ_ _=>noK) (λ_=>noK) (λx _ t ok _ C fr h _=>optV (zZq C fr x t ok) h)
 (λx i _ C fr h _=>optV (zMq C fr x i) h) callK (λ_=>noK) (λ_=>noK) (λ_=>noK) (λ_ _=>noK) (λ_ _ _=>noK) (λ_ _=>noK) o
theorem some_h{r:Option (V×Heap)}:(match r with|some r=>some r|none=>none)=r:=by cases r<;>rfl
theorem jiq(S:Self)(C:Cfg)(fr:Tr V)(h:Heap)(rt:TypeId)(o:Op):opF o S C fr h rt=Zxq o S C fr h rt:=by
 cases o<;>try rfl
 case alloc t=>exact some_h.symm
 case makeMap t x=>exact some_h.symm
 case lookup t x y ok=>exact some_h.symm
 case mapUpdate t x y z=>exact some_h.symm
 case insert t x y z=>exact some_h.symm
 case mapEntry t x y=>exact some_h.symm
 case entryStore t x y z=>exact some_h.symm
 case box t x=>exact some_h.symm
 case buildSlice t n ps=>exact some_h.symm
 case load t x=>exact some_h.symm
 case store t x y=>exact some_h.symm
 case binOp op t x y t'=>
  show optV (xDq C op t x y fr) h=_;rw[ZFq];rfl
 case makeSlice t x y=>exact some_h.symm
 case unOp u t x=>cases u<;>rfl
 case makeFunc f a c=>cases f<;>rfl
 case convert s t x=>
  show(match zHq C fr s t x with
   |some v=>some (v,h)
   |none=>zrq C fr h s t x)=(match zHq C fr s t x with
   |some v=>some (v,h)
   |none=>match zrq C fr h s t x with
    |some r=>some r
    |none=>none)
  cases zHq C fr s t x with
  |some v=>rfl
  |none=>exact some_h.symm
 case slice t x lo hi mx=>
  show(match z2q C fr t x lo hi mx with
   |some v=>some (v,h)
   |none=>zNq C fr h t x lo hi mx)=(match z2q C fr t x lo hi mx with
   |some v=>some (v,h)
   |none=>match zNq C fr h t x lo hi mx with
    |some r=>some r
    |none=>none)
  cases z2q C fr t x lo hi mx with
  |some v=>rfl
  |none=>exact some_h.symm
 case call c=>
  obtain⟨c,args,ats⟩:=c;cases c with
  |value x=>exact callF_eq S C fr h x args ats
  |invoke=>rfl
  |builtin b=>
   cases b<;>first
    |rfl
    |exact some_h.symm
    | (show _=(match qbq C fr args ats with
         |some v=>some (v,h)
         |none=>match z5q C fr h args ats with
          |some r=>some r
          |none=>none)
       cases hp:qbq C fr args ats with
       |some v=>simp only[opF,callK,calK,bltK,hp]
       |none=>simp only[opF,callK,calK,bltK,hp];exact some_h.symm)
noncomputable def opVF(S:Self)(C:Cfg)(fr:Tr V)(h:Heap)(o:Oper):Option (V×Heap):=opF o.op S C fr h o.type
theorem opVF_eq(S:Self)(C:Cfg)(fr:Tr V)(h:Heap)(o:Oper):opVF S C fr h o=opV S C fr h o:=jiq S C fr h o.type o.op
abbrev FlK:=Self->Cfg->Tr V->Heap->TypeId->Option (V×Heap×Option Ev)
noncomputable def evHp(h h1:Heap):Ev:=Bool.rec (motive:=λ_=>Ev) .dirty .gen (Nat.ble h.next h1.wmin)
noncomputable def updE(v:Option V):Ev:=match v with
 |some (.sl b _ _ _ _ _)=>.upd b
 |_=>.dirty
noncomputable def appE(C:Cfg)(fr:Tr V)(xs:Array Operand)(h h1:Heap):Ev:=Bool.rec (motive:=λ_=>Ev) (match xs.toList with
 |[x,_]=>updE (evV C fr x)
 |_=>.dirty) .gen (Nat.ble h.next h1.wmin)
noncomputable def ptrE(f:Nat->Ev)(v:Option V):Ev:=match v with
 |some (.ptr b _)=>f b
 |_=>.dirty
noncomputable def optE(v:Option V)(h:Heap):Option (V×Heap×Option Ev):=match v with
 |some v=>some (v,h,none)
 |none=>none
noncomputable def memE(e:Heap->Ev)(h:Heap)(r:Option (V×Heap)):Option (V×Heap×Option Ev):=match r with
 |some (v,h1)=>some (v,⟨h1.next,minN h.wmin h1.wmin,h1.tr⟩,some (e h1))
 |none=>none
noncomputable def low(h:Heap):Heap:=⟨h.next,h.next,h.tr⟩
noncomputable def uxq(o:Op):FlK:=λS C fr h rt=>match z1q C fr rt o with
 |some v=>some (v,h,none)
 |none=>memE (λh1=>evOf C fr h h1 o) h (Zxq o S C fr (low h) rt)
noncomputable def pE(k:Cfg->Tr V->Option V):FlK:=λ_ C fr h _=>optE (k C fr) h
noncomputable def mE(k:OpK):FlK:=λS C fr h rt=>memE (evHp h) h (k S C fr (low h) rt)
noncomputable def bltE(args:Array Operand)(ats:Array TypeId)(b:Builtin):FlK:=match b with
 |.len=>λ_ C fr h _=>match qbq C fr args ats with
  |some v=>some (v,h,none)
  |none=>memE (evHp h) h (z5q C fr (low h) args ats)
 |.append=>λ_ C fr h _=>memE (appE C fr args h) h (zCq C fr (low h) args ats)
 |.copy=>mE λ_ C fr h _=>ybq C fr h args ats
 |.clear=>mE λ_ C fr h _=>zyq C fr h args ats
 |b=>uxq (.call ⟨.builtin b,args,ats⟩)
noncomputable def calE(args:Array Operand)(ats:Array TypeId)(c:Callee):FlK:=match c with
 |.value x=>mE λS C fr h _=>callF S C fr h x args
 |.builtin b=>bltE args ats b
 |c=>uxq (.call ⟨c,args,ats⟩)
noncomputable def callE(c:Call):FlK:=calE c.args c.argTypes c.callee
noncomputable def unE(u:UnOp)(t:TypeId)(x:Operand):FlK:=match u with
 |.not=>pE λC fr=>zLq C fr x
 |u=>uxq (.unOp u t x)
noncomputable def mkfE(f:Fn)(a c:Array Operand):FlK:=match f with
 |.func g=>pE λC fr=>zBq C fr g a c
 |f=>uxq (.makeFunc f a c)
noncomputable def noE:FlK:=λ_ _ _ _ _=>none
noncomputable def flF(o:Op):FlK:=Op.rec (motive:=λ_=>FlK) (λx=>pE λC fr=>evV C fr x) (λx=>pE λC fr=>evV C fr x) (λc a b=>pE λC fr=>yAq C fr c a b)
 (λt=>mE λ_ C fr h _=>zSq C fr h t) (λt x=>mE λ_ C fr h _=>yRq C fr h t x)
 (λt ps=>pE λC fr=>ydq C fr t ps) (λt n ps _ C fr h _=>memE (λ_=>.mk h.next) h (zhq C fr (low h) t n ps))
 (λt x y z=>mE λ_ C fr h _=>zgq C fr h t x y z) (λt x _ C fr h _=>memE (λ_=>ptrE .load (evV C fr x)) h (z7q C fr (low h) t x)) (λt x y _ C fr h _=>memE (λ_=>ptrE .store (evV C fr x)) h (zRq C fr (low h) t x y)) (λ_=>noE) (λ_=>noE)
 (λx=>pE λC fr=>zDq C fr x) (λop t x y _=>pE λC fr=>xDq C op t x y fr)
 unE (λs t x=>uxq (.convert s t x)) (λ_ _=>noE) (λt x=>pE λC fr=>ziq C fr t x)
 mkfE (λt x=>mE λ_ C fr h _=>zqq C fr h t x) (λ_ _=>noE) (λt x y=>mE λ_ C fr h _=>zkq C fr h t x y)
 (λt x lo hi mx=>uxq (.slice t x lo hi mx))
 (λt x i=>pE λC fr=>zuq C fr t x i) (λt x i=>pE λC fr=>z9q C fr t x i) (λt x y=>pE λC fr=>ztq C fr t x y) (λt x y=>pE λC fr=>z8q C fr t x y)
 (λt x y ok=>mE λ_ C fr h _=>zzq C fr h t x y ok) (λt x y z=>mE λ_ C fr h _=>zgq C fr h t x y z) (λt x y=>mE λ_ C fr h _=>znq C fr h t x y) (λ_ x y z=>mE λ_ C fr h _=>zfq C fr h x y z) (λ_ _=>noE) (λ_ _=>noE) (λ_=>noE) (λx _ t ok=>pE λC fr=>zZq C fr x t ok)
 (λx i=>pE λC fr=>zMq C fr x i) callE (λ_=>noE) (λ_=>noE) (λ_=>noE) (λ_ _=>noE) (λ_ _ _=>noE) (λ_ _=>noE) o
theorem yTq{S:Self}{C:Cfg}{fr:Tr V}{h:Heap}{rt:TypeId}{o:Op}{k:Option V}(hp:z1q C fr rt o=k)(hh:opH C fr (low h) o=none)(hc:qyq S C fr (low h) o=none):optE k h=uxq o S C fr h rt:=by
 unfold uxq Zxq;rw[hp,hh,hc];cases k<;>rfl
theorem q2q(h h1:Heap):evHp h h1=match Nat.ble h.next h1.wmin with
  |true=>.gen
  |false=>.dirty:=by unfold evHp;cases Nat.ble h.next h1.wmin<;>rfl
theorem appE_eq(C:Cfg)(fr:Tr V)(xs:Array Operand)(ats:Array TypeId)(h h1:Heap):appE C fr xs h h1=evOf C fr h h1 (.call ⟨.builtin .append,xs,ats⟩):=by
 unfold appE evOf;cases Nat.ble h.next h1.wmin with
 |true=>rfl
 |false=>
  show(match xs.toList with
   |[x,_]=>updE (evV C fr x)
   |_=>.dirty)=(match xs.toList with
   |[x,_]=>match evV C fr x with
    |some (.sl b _ _ _ _ _)=>.upd b
    |_=>.dirty
   |_=>.dirty)
  rfl
theorem qpq{S:Self}{C:Cfg}{fr:Tr V}{h:Heap}{rt:TypeId}{o:Op}{k:Option (V×Heap)}{e:Heap->Ev}(hp:z1q C fr rt o=none)(hk:Zxq o S C fr (low h) rt=k)(he:∀h1,e h1=evOf C fr h h1 o):memE e h k=uxq o S C fr h rt:=by
 unfold uxq;rw[hp,hk,show e=λh1=>evOf C fr h h1 o from funext he]
theorem lenE_eq(S:Self)(C:Cfg)(fr:Tr V)(h:Heap)(rt:TypeId)(args:Array Operand)(ats:Array TypeId):bltE args ats .len S C fr h rt=uxq (.call ⟨.builtin .len,args,ats⟩) S C fr h rt:=by
 show(match qbq C fr args ats with
  |some v=>some (v,h,none)
  |none=>memE (evHp h) h (z5q C fr (low h) args ats))=_
 unfold uxq;rw[show z1q C fr rt (.call ⟨.builtin .len,args,ats⟩)=qbq C fr args ats from rfl];cases hp:qbq C fr args ats with
 |some v=>rfl
 |none=>
  have e:Zxq (.call ⟨.builtin .len,args,ats⟩) S C fr (low h) rt=z5q C fr (low h) args ats:=by
   unfold Zxq;rw[show z1q C fr rt (.call ⟨.builtin .len,args,ats⟩)=qbq C fr args ats from rfl,hp];exact some_h
  rw[e];show memE (evHp h) h _=memE (λh1=>evOf C fr h h1 (.call ⟨.builtin .len,args,ats⟩)) h _;rw[show evHp h=λh1=>evOf C fr h h1 (.call ⟨.builtin .len,args,ats⟩) from funext (q2q h)]
theorem flF_eq(S:Self)(C:Cfg)(fr:Tr V)(h:Heap)(rt:TypeId)(o:Op):flF o S C fr h rt=uxq o S C fr h rt:=by
 cases o with
 |move x=>exact yTq rfl rfl rfl
 |assign x=>exact yTq rfl rfl rfl
 |pick c a b=>exact yTq rfl rfl rfl
 |alloc t=>exact qpq rfl (jiq S C fr (low h) rt (.alloc t)).symm (q2q h)
 |box t x=>exact qpq rfl (jiq S C fr (low h) rt (.box t x)).symm (q2q h)
 |build t ps=>exact yTq rfl rfl rfl
 |buildSlice t n ps=>exact qpq rfl (jiq S C fr (low h) rt (.buildSlice t n ps)).symm λ_=>rfl
 |load t x=>exact qpq rfl (jiq S C fr (low h) rt (.load t x)).symm λ_=>rfl
 |store t x y=>exact qpq rfl (jiq S C fr (low h) rt (.store t x y)).symm λ_=>rfl
 |nilCheck x=>exact yTq rfl rfl rfl
 |makeMap t x=>exact qpq rfl (jiq S C fr (low h) rt (.makeMap t x)).symm (q2q h)
 |lookup t x y ok=>exact qpq rfl (jiq S C fr (low h) rt (.lookup t x y ok)).symm (q2q h)
 |mapUpdate t x y z=>exact qpq rfl (jiq S C fr (low h) rt (.mapUpdate t x y z)).symm (q2q h)
 |insert t x y z=>exact qpq rfl (jiq S C fr (low h) rt (.insert t x y z)).symm (q2q h)
 |mapEntry t x y=>exact qpq rfl (jiq S C fr (low h) rt (.mapEntry t x y)).symm (q2q h)
 |entryStore t x y z=>exact qpq rfl (jiq S C fr (low h) rt (.entryStore t x y z)).symm (q2q h)
 |binOp op t x y t'=>
  show optE (xDq C op t x y fr) h=_;rw[ZFq];exact yTq rfl rfl rfl
 |unOp u t x=>cases u<;>first|rfl|exact yTq rfl rfl rfl
 |makeInterface t x=>exact yTq rfl rfl rfl
 |makeFunc f a c=>cases f<;>first|rfl|exact yTq rfl rfl rfl
 |makeSlice t x y=>exact qpq rfl (jiq S C fr (low h) rt (.makeSlice t x y)).symm (q2q h)
 |fieldAddr t x i=>exact yTq rfl rfl rfl
 |field t x i=>exact yTq rfl rfl rfl
 |indexAddr t x y=>exact yTq rfl rfl rfl
 |index t x y=>exact yTq rfl rfl rfl
 |extract x i=>exact yTq rfl rfl rfl
 |typeAssert x xt t ok=>exact yTq rfl rfl rfl
 |call c=>
  obtain⟨c,args,ats⟩:=c;cases c with
  |value x=>exact qpq rfl (jiq S C fr (low h) rt (.call ⟨.value x,args,ats⟩)).symm (q2q h)
  |invoke=>rfl
  |builtin b=>
   cases b<;>first
    |rfl
    |exact yTq rfl rfl rfl
    |exact qpq rfl (jiq S C fr (low h) rt (.call ⟨.builtin .append,args,ats⟩)).symm (appE_eq C fr args ats h)
    |exact qpq rfl (jiq S C fr (low h) rt (.call ⟨.builtin .copy,args,ats⟩)).symm (q2q h)
    |exact qpq rfl (jiq S C fr (low h) rt (.call ⟨.builtin .clear,args,ats⟩)).symm (q2q h)
    |exact lenE_eq S C fr h rt args ats
 |_=>rfl
noncomputable def stepFF(S:Self)(C:Cfg)(fr:Tr V)(h:Heap)(o:Oper):Option (V×Heap×Option Ev):=flF o.op S C fr h o.type
theorem stepFF_eq(S:Self)(C:Cfg)(fr:Tr V)(h:Heap)(o:Oper):stepFF S C fr h o=vZq S C fr h o:=by
 unfold stepFF;rw[flF_eq];unfold uxq vZq;rw[show Zxq o.op S C fr (low h) o.type=opV S C fr {h with wmin:=h.next} o from rfl];cases z1q C fr o.type o.op with
 |some v=>rfl
 |none=>cases opV S C fr {h with wmin:=h.next} o<;>rfl
noncomputable def aeM(T n:Nat)(e:Edge)(m:Nat):Nat:=match Region.binds .any e with
 |true=>Nat.lor (Nat.lor (Nat.shiftLeft 1 e.on) (Nat.shiftRight T (Nat.mul e.on n))) m
 |false=>m
noncomputable def ahM(T n:Nat)(l:List Edge):Nat:=List.rec (motive:=λ_=>Nat) 0 (λe _ ih=>aeM T n e ih) l
noncomputable def arM(n:Nat)(l:List Oper):Nat->Nat->Nat:=List.rec (motive:=λ_=>Nat->Nat->Nat) (λ_ T=>T) (λo _ ih i T=>ih (Nat.succ i) (Nat.lor T (Nat.shiftLeft (Nat.mod (ahM T n o.after.toList) (Nat.pow 2 n)) (Nat.mul i n)))) l
theorem ahM_bit{T n k:Nat}:∀{l:List Edge},(ahM T n l).testBit k=true->∃e∈l,Region.binds .any e=true/\(e.on=k\/T.testBit (e.on*n+k)=true)
 |[],h=>by rw[show ahM T n []=0 from rfl,Nat.zero_testBit] at h;cases h
 |e::l,h=>by
  have h:(aeM T n e (ahM T n l)).testBit k=true:=h
  have tl:(ahM T n l).testBit k=true->∃e'∈e::l,Region.binds .any e'=true/\(e'.on=k\/T.testBit (e'.on*n+k)=true):=λh=>by
   obtain⟨e',h1,h2⟩:=ahM_bit h;exact⟨e',List.mem_cons_of_mem _ h1,h2⟩
  unfold aeM at h;split at h
  ·rename_i hb;have h:((1<<<e.on|||T>>>(e.on*n))|||ahM T n l).testBit k=true:=h;rw[Nat.testBit_or,Nat.testBit_or,Bool.or_eq_true,Bool.or_eq_true] at h;rcases h with (h|h)|h
   ·rw[Nat.one_shiftLeft,Nat.testBit_two_pow] at h;exact⟨e,List.mem_cons_self ..,hb,.inl (by simpa using h)⟩
   ·rw[Nat.testBit_shiftRight] at h;exact⟨e,List.mem_cons_self ..,hb,.inr h⟩
   ·exact tl h
  ·exact tl h
theorem reach_up{ops:Array Oper}{j k:Nat}:∀{f g:Nat},f<=g->qiq ops f j k=true->qiq ops g j k=true:=λ{f g}=>by
 induction f generalizing j g with
 |zero=>intro _ h;simp[qiq] at h
 |succ f ih=>
  intro hg h;obtain⟨g,rfl⟩:∃g',g=g'+1:=⟨g-1,by omega⟩
  simp only[qiq] at h⊢;split at h
  ·cases h
  ·rw[Array.any_eq_true] at h⊢;obtain⟨i,hi,h⟩:=h;refine⟨i,hi,?_⟩;rw[Bool.and_eq_true,Bool.or_eq_true] at h⊢;exact⟨h.1,h.2.imp id (ih Xd)⟩
theorem arM_bit{ops:Array Oper}:∀(l:List Oper) (i T:Nat),ops.toList.drop i=l->(∀j k,k<ops.size->T.testBit (j*ops.size+k)=true->j<i/\qiq ops (j+1) j k=true) ->
  ∀j k,k<ops.size->(arM ops.size l i T).testBit (j*ops.size+k)=true->j<i+l.length/\qiq ops (j+1) j k=true
 |[],i,T,_,h,j,k,hk,hb=>h j k hk hb
 | o ::l,i,T,hd,h,j,k,hk,hb=>by
  have hi:ops.toList[i]? =some o:=by
   have:=List.getElem?_drop (xs:=ops.toList) (i:=i) (j:=0);rw[hd] at this;simpa using this.symm
  have hd2:ops.toList.drop (i+1)=l:=by
   rw[<-List.drop_drop,hd];rfl
  have:=arM_bit l (i+1) _ hd2 (λj k hk hb=>?_) j k hk hb
  ·refine⟨?_,this.2⟩;rw[List.length_cons];omega
  ·have hb:(T|||(ahM T ops.size o.after.toList%2^ops.size)<<<(i*ops.size)).testBit (j*ops.size+k)=true:=hb;rw[Nat.testBit_or,Bool.or_eq_true] at hb;rcases hb with hb|hb
   ·obtain⟨q1,q2⟩:=h j k hk hb;exact⟨by omega,q2⟩
   ·rw[Nat.testBit_shiftLeft,Bool.and_eq_true,Nat.testBit_mod_two_pow,Bool.and_eq_true] at hb;obtain⟨b1,b2,b3⟩:=hb;have b1:i*ops.size<=j*ops.size+k:=by simpa using b1
    have b2:j*ops.size+k-i*ops.size<ops.size:=by simpa using b2
    have hij:j=i:=by
     rcases Nat.lt_trichotomy j i with q|q|q
     ·have:(j+1)*ops.size<=i*ops.size:=Nat.mul_le_mul_right _ Xd;rw[Nat.add_mul] at this;omega
     ·exact q
     ·have:(i+1)*ops.size<=j*ops.size:=Nat.mul_le_mul_right _ Xd;rw[Nat.add_mul] at this;omega
    subst hij;rw[Nat.add_sub_cancel_left] at b3;obtain⟨e,he,hbi,hon⟩:=ahM_bit b3;refine⟨by omega,?_⟩;simp only[qiq];rw[show ops[j]? =some o by rw[<-Array.getElem?_toList];exact hi];simp only;rw[<-Array.any_toList,List.any_eq_true];refine⟨e,he,?_⟩;rw[Bool.and_eq_true,Bool.or_eq_true];refine⟨hbi,?_⟩;rcases hon with q|q
    ·exact .inl (by simpa using q)
    ·obtain⟨q1,q2⟩:=h _ _ hk q;exact .inr (reach_up Xd q2)
noncomputable def reachF(ops:Array Oper)(j k:Nat):Bool:=match Nat.beq (Nat.land (Nat.shiftRight (arM ops.size ops.toList 0 0) (Nat.add (Nat.mul j ops.size) k)) 1) 1 with
 |true=>match Nat.ble ops.size k with
  |true=>qiq ops ops.size j k
  |false=>true
 |false=>qiq ops ops.size j k
theorem reachF_eq(ops:Array Oper)(j k:Nat):reachF ops j k=qiq ops ops.size j k:=by
 unfold reachF;split
 ·rename_i h;split
  ·rfl
  ·rename_i h2;have hk:k<ops.size:=Nat.lt_of_not_le λq=>by rw[Nat.ble_eq_true_of_le q] at h2;cases h2
   have h:(arM ops.size ops.toList 0 0).testBit (j*ops.size+k)=true:=by
    have h:=Nat.eq_of_beq_eq_true h;have h:(arM ops.size ops.toList 0 0>>>(j*ops.size+k))&&&1=1:=h;unfold Nat.testBit;rw[Nat.and_comm,h];rfl
   obtain⟨q1,q2⟩:=arM_bit ops.toList 0 0 rfl (λj k _ hb=>by rw[Nat.zero_testBit] at hb;cases hb) j k hk h;rw[Nat.zero_add,Array.length_toList] at q1;exact(reach_up Xd q2).symm
 ·rfl
noncomputable def evsF(ops:Array Oper)(j:Nat)(x:Ev)(l:List (Nat×Ev)):Bool:=List.rec (motive:=λ_=>Bool) true (λp _ ih=>(match p.2.clash x with|true=>reachF ops j p.1|false=>true)&&ih) l
theorem evsF_eq(ops:Array Oper)(j:Nat)(x:Ev):∀l,evsF ops j x l=Jfq ops j x l
 |[]=>rfl
 |(k,y)::l=>by
  show((match y.clash x with|true=>reachF ops j k|false=>true)&&evsF ops j x l)=((match y.clash x with|true=>qiq ops ops.size j k|false=>true)&&Jfq ops j x l);rw[evsF_eq ops j x l,reachF_eq]
section
variable (S:Self) (F:Flow) (C:Cfg) (ops:Array Oper)
noncomputable def opsStep(o:Oper)(k:Tr V->Heap->Option (Tr V×Heap))(fr:Tr V)(h:Heap):Option (Tr V×Heap):=match vdq ops fr o with
 |some true=>match opVF S C fr h o with
  |some (v,h')=>k (putT fr o.dst v) h'
  |none=>none
 |some false=>k (putT fr o.dst .undef) h
 |none=>none
noncomputable def Jhq(l:List Oper):Tr V->Heap->Option (Tr V×Heap):=List.rec (motive:=λ_=>Tr V->Heap->Option (Tr V×Heap)) (λfr h=>some (fr,h)) (λo _ ih=>opsStep S C ops o ih) l
theorem Yaq:∀l,Jhq S C ops l=qjq S C ops l
 |[]=>rfl
 |o::l=>by
  show opsStep S C ops o (Jhq S C ops l)=_;rw[Yaq l];funext fr h
  unfold opsStep;rw[opVF_eq];conv=>rhs;unfold qjq
  all_goals rfl
noncomputable def Jbq(o:Oper)(k:Nat->List (Nat×Ev) ->Tr V->Heap->Option (Tr V×Heap))(i:Nat)(es:List (Nat×Ev))(fr:Tr V)(h:Heap):Option (Tr V×Heap):=match vdq ops fr o with
 |some true=>match stepFF S C fr h o with
  |some (v,h1,some x)=>match evsF ops i x es with
   |true=>k (i+1) ((i,x)::es) (putT fr o.dst v) h1
   |false=>none
  |some (v,h1,none)=>k (i+1) es (putT fr o.dst v) h1
  |none=>none
 |some false=>k (i+1) es (putT fr o.dst .undef) h
 |none=>none
noncomputable def Ybq(l:List Oper):Nat->List (Nat×Ev) ->Tr V->Heap->Option (Tr V×Heap):=List.rec (motive:=λ_=>Nat->List (Nat×Ev) ->Tr V->Heap->Option (Tr V×Heap)) (λ_ _ fr h=>some (fr,h)) (λo _ ih=>Jbq S C ops o ih) l
theorem vSq:∀l,Ybq S C ops l=ymq S C ops l
 |[]=>rfl
 |o::l=>by
  show Jbq S C ops o (Ybq S C ops l)=_;rw[vSq l];funext i es fr h
  unfold Jbq;simp only[stepFF_eq,evsF_eq];conv=>rhs;unfold ymq
  all_goals rfl
noncomputable def cRegion(ops:Array Oper)(dr:Bool)(st:St):Option (Exit×St):=match (match dr with
  |true=>Ybq S C ops ops.toList 0 [] st.fr st.h
  |false=>Jhq S C ops ops.toList st.fr st.h) with
 |some (fr,h)=>some (.normal,⟨fr,h,st.ds,st.rd⟩)
 |none=>none
noncomputable def cSeq(f g:St->Option (Exit×St))(st:St):Option (Exit×St):=match f st with
 |some (.normal,st')=>g st'
 |r=>r
noncomputable def cCond(c:Operand)(f g:St->Option (Exit×St))(st:St):Option (Exit×St):=match evV C st.fr c with
 |some (.bool true)=>f st
 |some (.bool false)=>g st
 |_=>none
noncomputable def cBlock(id:Nat)(f:St->Option (Exit×St))(st:St):Option (Exit×St):=match f st with
 |some (.exit id',st')=>match Nat.beq id' id with
  |true=>some (.normal,st')
  |false=>some (.exit id',st')
 |r=>r
noncomputable def cRange(g:Operand)(ps:Array Tmp)(asg bd:Code)(st:St):Option (Exit×St):=match st.rd,evV C st.fr g with
 |false,some (.fn gf [] c)=>match S.fn gf ([.yield (st.h.next+1)]++c) ((st.h.push (.dfr false)).push (.loop .ready none st.fr ps asg bd st.h.next)) with
  |some (_,h)=>jJq st st.h.next (st.h.next+1) h
  |none=>none
 |_,_=>none
noncomputable def cScope(x:Code)(f:St->Option (Exit×St))(st:St):Option (Exit×St):=match f st with
 |some (.goto l,st')=>F.scope x l st'
 |r=>r
noncomputable def yqq(c:Code):St->Option (Exit×St):=Code.rec (motive:=λ_=>St->Option (Exit×St)) (λst=>some (.normal,st)) (λ_ ops dr=>cRegion S C ops dr) (λ_ _ f g=>cSeq f g) (λc _ _ f g=>cCond C c f g) (λid _ f=>cBlock id f) (λx _=>F.loop x)
 (λg ps asg bd _ _=>cRange S C g ps asg bd) (λid st=>some (.exit id,st)) (λx f=>cScope F x f) (λ_ st=>some (.normal,st)) (λl st=>some (.goto l,st)) (λst=>some (.ret,st)) (λ_ _=>none) c
theorem yfq:∀c,yqq S F C c=zbq S F C c
 |.skip=>by funext st;unfold zbq;rfl
 |.region _ ops dr=>by
  funext st
  show cRegion S C ops dr st=_;unfold cRegion zbq;simp only[vSq,Yaq];rfl
 |.seq x y=>by
  funext st
  show cSeq (yqq S F C x) (yqq S F C y) st=_;rw[yfq x,yfq y];unfold cSeq;conv=>rhs;unfold zbq
  all_goals rfl
 |.cond c x y=>by
  funext st
  show cCond C c (yqq S F C x) (yqq S F C y) st=_;rw[yfq x,yfq y];unfold cCond;conv=>rhs;unfold zbq
  all_goals rfl
 |.block id x=>by
  funext st
  show cBlock id (yqq S F C x) st=_;rw[yfq x];unfold cBlock;conv=>rhs;unfold zbq
  all_goals rfl
 |.loop x=>by funext st;unfold zbq;rfl
 |.rangeFunc g ps asg bd=>by
  funext st
  show cRange S C g ps asg bd st=_;unfold cRange zbq;rfl
 |.exit id=>by funext st;unfold zbq;rfl
 |.scope x=>by
  funext st
  show cScope F x (yqq S F C x) st=_;rw[yfq x];unfold cScope;conv=>rhs;unfold zbq
  all_goals rfl
 |.label _=>by funext st;unfold zbq;rfl
 |.goto _=>by funext st;unfold zbq;rfl
 |.ret=>by funext st;unfold zbq;rfl
 |.refuse _=>by funext st;unfold zbq;rfl
end
structure Four where
 fn:FuncId->List V->Heap->Option (V×Heap)
 yield:Nat->List V->Heap->Option (V×Heap)
 loop:Code->St->Option (Exit×St)
 scope:Code->Nat->St->Option (Exit×St)
section
variable (C:Cfg) (r:Four)
noncomputable def stepFn(f:FuncId)(vs:List V)(h:Heap):Option (V×Heap):=match C.known f with
 |some k=>k vs h
 |none=>match C.fn f with
  |none=>none
  |some fn=>match fn.body,Nat.ble vs.length fn.ntmps with
   |some c,true=>match yqq ⟨r.fn,r.yield⟩ ⟨r.loop,r.scope⟩ C c ⟨k7q 0 vs .nil,h,[],false⟩ with
    |some (.normal,st)=>finV C fn st
    |some (.ret,st)=>finV C fn st
    |_=>none
   |_,_=>none
noncomputable def Ztq(l:Nat)(vs:List V)(h:Heap):Option (V×Heap):=match h.get l with
 |some (.loop .ready none fr ps asg bd d)=>match Nat.beq vs.length ps.size with
  |false=>none
  |true=>match yqq ⟨r.fn,r.yield⟩ ⟨r.loop,r.scope⟩ C asg ⟨YHq fr ps.toList vs,h,[],true⟩ with
   |some (.normal,st1)=>match st1.h.get l with
    |some (.loop .ready none fr1 ps1 asg1 bd1 d1)=>match yqq ⟨r.fn,r.yield⟩ ⟨r.loop,r.scope⟩ C bd ⟨st1.fr,st1.h.put l (.loop .busy none fr1 ps1 asg1 bd1 d1),st1.ds,st1.rd⟩ with
     |some (x,st2)=>match st2.h.get l with
      |some (.loop .busy none fr2 ps2 asg2 bd2 d2)=>match x with
       |.normal=>some (.bool true,st2.h.put l (.loop .ready none fr2 ps2 asg2 bd2 d2))
       |.ret=>some (.bool false,st2.h.put l (.loop .done (some .ret) fr2 ps2 asg2 bd2 d2))
       |.exit id=>some (.bool false,st2.h.put l (.loop .done (some (.exit id)) fr2 ps2 asg2 bd2 d2))
       |.goto id=>some (.bool false,st2.h.put l (.loop .done (some (.goto id)) fr2 ps2 asg2 bd2 d2))
       |_=>none
      |_=>none
     |none=>none
    |_=>none
   |_=>none
 |_=>none
noncomputable def QJq(c:Code)(st:St):Option (Exit×St):=match yqq ⟨r.fn,r.yield⟩ ⟨r.loop,r.scope⟩ C c st with
 |some (.normal,st')=>r.loop c st'
 |x=>x
noncomputable def Zuq(c:Code)(l:Nat)(st:St):Option (Exit×St):=match findLabel c l with
 |some rest=>match yqq ⟨r.fn,r.yield⟩ ⟨r.loop,r.scope⟩ C rest st with
  |some (.goto l',st')=>r.scope c l' st'
  |x=>x
 |none=>none
noncomputable def four(n:Nat):Four:=Nat.rec (motive:=λ_=>Four) ⟨λ_ _ _=>none,λ_ _ _=>none,λ_ _=>none,λ_ _ _=>none⟩ (λ_ r=>⟨stepFn C r,Ztq C r,QJq C r,Zuq C r⟩) n
theorem Q9q:∀n,four C n=⟨yxq C n,zEq C n,zYq C n,zKq C n⟩
 |0=>by
  show(⟨λ_ _ _=>none,λ_ _ _=>none,λ_ _=>none,λ_ _ _=>none⟩:Four)=_;congr 1
 |n+1=>by
  show(⟨stepFn C (four C n),Ztq C (four C n),QJq C (four C n),Zuq C (four C n)⟩:Four)=_;rw[Q9q n];congr 1
  ·funext f vs h
   unfold stepFn;simp only[yfq];conv=>rhs;unfold yxq
   all_goals rfl
  ·funext l vs h
   unfold Ztq;simp only[yfq];conv=>rhs;unfold zEq
   all_goals rfl
  ·funext c st
   unfold QJq;simp only[yfq];conv=>rhs;unfold zYq
   all_goals rfl
  ·funext c l st
   unfold Zuq;simp only[yfq];conv=>rhs;unfold zKq
   all_goals rfl
end
noncomputable def Qkq:Code->Option (Tmp×FuncId×List Operand)
 |.region _ ops false=>match ops.toList with
  |[⟨some t,.makeFunc (.func g) first caps,_,_,_,none⟩,⟨none,.defer ⟨.value (.tmp u),args,_⟩,_,_,_,none⟩]=>match Nat.beq t u,first.toList,args.toList with
   |true,[],[]=>some (t,g,caps.toList)
   |_,_,_=>none
  |_=>none
 |_=>none
theorem dferOf_spec{c:Code}{t:Tmp}{g:FuncId}{caps:List Operand}(h:Qkq c=some (t,g,caps)):∃id ty1 p1 a1 ats ty2 p2 a2,c= .region id #[⟨some t,.makeFunc (.func g) #[] caps.toArray,ty1,p1,a1,none⟩,⟨none,.defer ⟨.value (.tmp t), #[],ats⟩,ty2,p2,a2,none⟩] false:=by
 unfold Qkq at h;split at h
 ·rename_i id ops;split at h
  ·rename_i t' g' first caps' ty1 p1 a1 u args ats ty2 p2 a2 hops;split at h
   ·rename_i htu hf ha;cases h;have htu:=Nat.eq_of_beq_eq_true htu;subst htu;have hf:first= #[]:=by apply Array.toList_inj.1;simpa using hf
    have ha:args= #[]:=by apply Array.toList_inj.1;simpa using ha
    subst hf;subst ha
    refine⟨id,ty1,p1,a1,ats,ty2,p2,a2,?_⟩
    have:ops= #[⟨some t,.makeFunc (.func g) #[] caps',ty1,p1,a1,none⟩,⟨none,.defer ⟨.value (.tmp t), #[],ats⟩,ty2,p2,a2,none⟩]:=by
     apply Array.toList_inj.1;simpa using hops
    rw[this]
   ·cases h
  ·cases h
 ·cases h
noncomputable def preD(S:Self)(F:Flow)(C:Cfg):Code->St->Option ((Exit×St)×Option (FuncId×List V))
 |.seq x y,st=>match Qkq x with
  |some (t,g,caps)=>match st.ds,evL C st.fr caps with
   |[],some vs=>match zbq S F C y ⟨putT st.fr (some t) (.fn g [] vs),st.h,[],st.rd⟩ with
    |some r=>some (r,some (g,vs))
    |none=>none
   |_,_=>none
  |none=>match zbq S F C x st with
   |some (.normal,st')=>preD S F C y st'
   |some r=>some (r,none)
   |none=>none
 |c,st=>match zbq S F C c st with
  |some r=>some (r,none)
  |none=>none
noncomputable def Jpq(N:Nat):Code->Bool
 |.seq x y=>match Qkq x with
  |some (t,_,_)=>Nat.blt t N&&ykq N y
  |none=>ykq N x&&Jpq N y
 |c=>ykq N c
noncomputable def dTl(ρ:Env):Option (FuncId×List V) ->List Deferred
 |none=>[]
 |some (g,vs)=>[{target:=.fn (.func g) (zJq ρ vs).toArray,args:= #[]}]
noncomputable def dIn(D:Nat->Nat->Prop):Option (FuncId×List V) ->Prop
 |none=>True
 |some (_,vs)=>InDL D vs
noncomputable def resD(C:Cfg)(fn:Func)(fr:Tr V)(h:Heap):Option (V×Heap):=match resL C fr h fn.results.toList with
 |some [v]=>some (v,h)
 |some vs=>some (.tup vs,h)
 |none=>none
noncomputable def closD(C:Cfg)(n:Nat)(g:FuncId)(ws:List V)(h:Heap):Option Heap:=match C.fn g with
 |some fg=>match fg.body,fg.results.toList,Nat.ble ws.length fg.ntmps with
  |some cg,[],true=>match zbq ⟨yxq C n,zEq C n⟩ ⟨zYq C n,zKq C n⟩ C cg ⟨k7q 0 ws .nil,h,[],false⟩ with
   |some (.normal,s2)=>match s2.ds with
    |[]=>some s2.h
    |_=>none
   |some (.ret,s2)=>match s2.ds with
    |[]=>some s2.h
    |_=>none
   |_=>none
  |_,_,_=>none
 |none=>none
noncomputable def endD(C:Cfg)(n:Nat)(fn:Func)(st:St):Option (FuncId×List V) ->Option (V×Heap)
 |none=>finV C fn st
 |some (g,ws)=>match qDq st.ds st.h with
  |some h1=>match closD C n g ws h1 with
   |some h2=>resD C fn st.fr h2
   |none=>none
  |none=>none
noncomputable def runD(C:Cfg)(n:Nat)(fn:Func)(c:Code)(vs:List V)(h:Heap):Option (V×Heap):=match Nat.ble vs.length fn.ntmps,preD ⟨yxq C n,zEq C n⟩ ⟨zYq C n,zKq C n⟩ C c ⟨k7q 0 vs .nil,h,[],false⟩ with
 |true,some ((.normal,st),d)=>endD C n fn st d
 |true,some ((.ret,st),d)=>endD C n fn st d
 |_,_=>none
section
variable {P:Program} {C:Cfg} {s0:World} {U:Nat} {D:Nat->Prop} {ρ:Env} {fr:Tr V} {a:Act} {w:World} {h:Heap}
theorem vLq{fn:Func}{tmps:Array Value}{R:Ending->World->Prop}{tl:List Deferred}:∀(ds:List Nat) (h h1:Heap) (w:World),qDq ds h=some h1->h1.next<=U->Rel s0 U D ρ h w->(∀d∈ds,D d) ->
  (∀w',Rel s0 U D ρ h1 w'->Nxt D ρ h w D ρ h1 w'->LeavesInM Fence.wide 0 P fn tmps R tl .returning w') ->LeavesInM Fence.wide 0 P fn tmps R (ds.map (mkD ρ)++tl) .returning w
 |[],h,h1,w,e,_,rel,_,k=>by
  simp only[qDq,Option.some.injEq] at e;subst e;exact k w rel (Nxt.refl _ _ _ _)
 |d::ds,h,h1,w,e,hU,rel,hd,k=>by
  simp only[qDq] at e;split at e
  ·rename_i hg;have hD:=hd d Xm;obtain⟨o,q1,q2⟩:=rel.has d _ hD hg;have q2:o= .deferred (some []):=q2;subst q2;refine⟨by simp,.inl ⟨ρ.b d,_,rfl,run_takeDeferred q1,?_⟩⟩;have ht:=y1q (w:=w) (b:=ρ.b d) (.deferred none) (Array.getElem?_eq_some_iff.1 q1).1;obtain⟨r2,n2⟩:=rel.put (b':=.dfr true) hD hg rfl rfl ht rfl trivial;have hU2:=Nat.le_trans (jdq ds _ _ e).nxt hU;exact vLq ds _ h1 _ e hU r2 (λx hx=>hd x (by simp[hx])) λw' r3 n3=>k w' r3 (n2.trans rel.lt hU n3)
  ·cases e
theorem defer_region(hC:CfgOK P C)(g:FrE C D ρ fr a){id:Nat}{t:Tmp}{f:FuncId}{caps:Array Operand}{ty1 ty2:TypeId}{p1 p2:String}{a1 a2:Array Edge}{ats:Array TypeId}{vs:List V}(ht:t<a.tmps.size)(hv:evL C fr caps.toList=some vs){Q:Exit->Act->World->Prop}
  (k:Q .normal (({a.put (some t) (conc ρ (.fn f [] vs)) with defers:={target:=.fn (.func f) (zJq ρ vs).toArray,args:= #[]}::a.defers}:Act).put none undef) w):
  (Code.region id #[⟨some t,.makeFunc (.func f) #[] caps,ty1,p1,a1,none⟩,⟨none,.defer ⟨.value (.tmp t), #[],ats⟩,ty2,p2,a2,none⟩] false).wpIn (FF none) 0 P Q a w:=by
 have hp:z1q C fr ty1 (.makeFunc (.func f) #[] caps)=some (.fn f [] vs):=by simp[z1q,zBq,evL,hv]
 obtain⟨h1,h2⟩:=YZq hC g (o:=⟨some t,.makeFunc (.func f) #[] caps,ty1,p1,a1,none⟩) hp w;have g1:FrE C D ρ (putT fr (some t) (.fn f [] vs)) (a.put (some t) (conc ρ (.fn f [] vs))):=g.put (by simpa[Yfq] using ht) h2;have hev:=(g1.ev (x:=.tmp t) (v:=.fn f [] vs) (by simp[evV,putT,Tr.get_set])).1;refine wpIn_region_list ?_;show wpListIn _ _ _ _ _ [_,_] a w;unfold wpListIn;rw[show Region.wanted _ _=true from rfl,if_pos rfl];refine Zaq rfl (.inl h1) ?_;unfold wpListIn;rw[show Region.wanted _ _=true from rfl,if_pos rfl];refine⟨λf _=>YOq none f,?_⟩
 have hr:((⟨none,.defer ⟨.value (.tmp t), #[],ats⟩,ty2,p2,a2,none⟩:Oper).semAt (FF none).round (a.put (some t) (conc ρ (.fn f [] vs))).eval).run P w= .ok (.defer {target:=.fn (.func f) (zJq ρ vs).toArray,args:= #[]}) w:=by
  show(Oper.semAt none _ _).run P w=_;rw[Oper.semAt_none];simp only[execOp,resolve,hev];simp[conc,zJq,Deferred.ofValue]
 rw[hr,Oper.uponIn_defer];unfold wpListIn;exact k
theorem preD_sound(hmx:P.follows .mixedOrders=true)(hC:CfgOK P C){n:Nat}(ih:RunOK P C n){N:Nat}:∀c:Code,Jpq N c=true->∀st r d,preD ⟨yxq C n,zEq C n⟩ ⟨zYq C n,zKq C n⟩ C c st=some (r,d) ->
  Mono st.h r.2.h/\∀s0 U D ρ a w Q,r.2.h.next<=U->StR C s0 U N none [] D ρ st a w->
   (∀D' ρ' a' w',StR C s0 U N none (dTl ρ' d) D' ρ' r.2 a' w'->Nxt D ρ st.h w D' ρ' r.2.h w'->dIn (DD D' ρ') d->Q r.1 a' w') ->c.wpIn (FF none) 0 P Q a w:=by
 have plain:∀c:Code,ykq N c=true->∀st r d,(match zbq ⟨yxq C n,zEq C n⟩ ⟨zYq C n,zKq C n⟩ C c st with
   |some r=>some (r,none)
   |none=>none)=some (r,d) ->Mono st.h r.2.h/\∀s0 U D ρ a w Q,r.2.h.next<=U->StR C s0 U N none [] D ρ st a w->
   (∀D' ρ' a' w',StR C s0 U N none (dTl ρ' d) D' ρ' r.2 a' w'->Nxt D ρ st.h w D' ρ' r.2.h w'->dIn (DD D' ρ') d->Q r.1 a' w') ->c.wpIn (FF none) 0 P Q a w:=λc hok st r d he=>by
  split at he
  ·rename_i r' h1;cases he;obtain⟨x,st'⟩:=r;obtain⟨m1,k1⟩:=jbq hmx hC ih hok _ _ _ h1;exact⟨m1,λs0 U D ρ a w Q hU g k=>k1 s0 U none [] D ρ a w Q hU g λD' ρ' a' w' g' n'=>k D' ρ' a' w' g' n' trivial⟩
  ·cases he
 intro c;induction c with
 |seq x y _ ihy=>
  intro hok st r d he;simp only[Jpq] at hok;simp only[preD] at he;cases hd:Qkq x with
  |some p=>
   obtain⟨t,f,caps⟩:=p;rw[hd] at he hok;simp only[Bool.and_eq_true] at hok he;have htN:t<N:=by simpa using hok.1
   obtain⟨id,ty1,p1,a1,ats,ty2,p2,a2,rfl⟩:=dferOf_spec hd;split at he
   ·rename_i vs hds hv;split at he
    ·rename_i r' h1;cases he;obtain⟨x,st'⟩:=r;obtain⟨m1,k1⟩:=jbq hmx hC ih hok.2 _ _ _ h1;refine⟨m1,λs0 U D ρ a w Q hU g k=>wpIn_seq (defer_region hC g.fr (by rw[g.size];exact htN) (by simpa using hv) ?_)⟩;have hin:InDL (DD D ρ) vs:=(g.fr.evs hv).2;have hdst:Yfq a.tmps.size (some t)=true:=by rw[g.size];simpa[Yfq] using htN
     have gp:=g.fr.put (d:=some t) (v:=.fn f [] vs) hdst ⟨trivial,hin⟩;have hdf:a.defers=[]:=by have:=g.defs;rw[hds] at this;simpa using this
     refine k1 s0 U none (dTl ρ (some (f,vs))) D ρ _ w Q hU ⟨⟨⟨gp.at_,gp.in_,gp.gl⟩⟩,g.rel,?_,?_,(λd hd=>by cases hd),g.rd⟩ λD' ρ' a' w' g' n'=>?_
     ·simp[Act.put,g.size]
     ·simp[Act.put,dTl,hdf]
     ·have hag:=n'.agree g.rel.lt hU;have e:dTl ρ' (some (f,vs))=dTl ρ (some (f,vs)):=by simp only[dTl,y5q hag hin]
      refine k D' ρ' a' w' (by rw[e];exact g') n' (hin.mono (n'.dd g.rel.lt hU))
    ·cases he
   ·cases he
  |none=>
   rw[hd] at he hok;simp only[Bool.and_eq_true] at hok he;split at he
   ·rename_i st1 h1;obtain⟨m1,k1⟩:=jbq hmx hC ih hok.1 _ _ _ h1;obtain⟨m2,k2⟩:=ihy hok.2 _ _ _ he;refine⟨m1.trans m2,λs0 U D ρ a w Q hU g k=>wpIn_seq (k1 s0 U none [] D ρ a w _ (Nat.le_trans m2.nxt hU) g λD1 ρ1 a1 w1 g1 n1=>?_)⟩;exact k2 s0 U D1 ρ1 a1 w1 Q hU g1 λD2 ρ2 a2 w2 g2 n2 hi=>k D2 ρ2 a2 w2 g2 (n1.trans g.rel.lt hU n2) hi
   ·rename_i r' hne h1;cases he;obtain⟨e,st'⟩:=r;obtain⟨m1,k1⟩:=jbq hmx hC ih hok.1 _ _ _ h1;refine⟨m1,λs0 U D ρ a w Q hU g k=>wpIn_seq (k1 s0 U none [] D ρ a w _ hU g λD1 ρ1 a1 w1 g1 n1=>?_)⟩;have:=k D1 ρ1 a1 w1 g1 n1 trivial;cases e<;>first|exact this|exact absurd rfl (hne _)
   ·cases he
 |_=>exact λhok st r d he=>plain _ hok st r d he
theorem resD_spec(hC:CfgOK P C){fn:Func}{v:V}{h h':Heap}(hr:resD C fn fr h=some (v,h'))(g:FrE C D ρ fr a)(rel:Rel s0 U D ρ h w):h'=h/\∃x,(results fn a.tmps).run P w= .ok x w/\x=conc ρ v/\InD (DD D ρ) v:=by
 unfold resD at hr;split at hr
 ·rename_i u hu;cases hr;obtain⟨q1,q2⟩:=xcq hC g rel _ _ hu
  have hrl:∃rv,fn.results.toList=[rv]:=by
   cases hl:fn.results.toList with
   |nil=>rw[hl] at q1;exact q1.elim
   |cons rv l=>cases l with
    |nil=>exact⟨rv,rfl⟩
    |cons _ _=>rw[hl] at q1;exact q1.2.elim
  obtain⟨rv,hrv⟩:=hrl;rw[hrv] at q1;exact⟨rfl,_,results1 (by apply Array.toList_inj.1;simpa using hrv) q1.1,rfl,q2.1⟩
 ·rename_i us hne hu;cases hr;obtain⟨q1,q2⟩:=xcq hC g rel _ _ hu;refine⟨rfl,_,resultsN (rvs:=fn.results.toList) Xm (λe=>?_) q1,by simp[conc],q2⟩;rw[y0q] at e;cases us with
  |nil=>cases e
  |cons u us=>cases us with
   |nil=>exact hne _ rfl
   |cons _ _=>cases e
 ·cases hr
theorem known_defer(hmx:P.follows .mixedOrders=true)(hC:CfgOK P C)(hF:vEq P C)(hK:q6q P C){n:Nat}{f:FuncId}{fn:Func}{c:Code}(hf:P.funcs[f]? =some fn)(hb:fn.body=some c)(hent:∀args w,(callFunc f args).run P w= .ok (.enter f args) w)(hok:Jpq fn.ntmps c=true):
  jyq P C f (runD C n fn c):=λvs h v h' he=>by
 have ih:=run_ok hmx hC hF hK n;unfold runD at he
 have key :∀x st d,(x= .normal\/x= .ret) ->Nat.ble vs.length fn.ntmps=true->preD ⟨yxq C n,zEq C n⟩ ⟨zYq C n,zKq C n⟩ C c ⟨k7q 0 vs .nil,h,[],false⟩=some ((x,st),d) ->endD C n fn st d=some (v,h') ->
   Mono h h'/\∀s0 U D ρ w,h'.next<=U->GlobOK C (DD D ρ) ρ->InDL (DD D ρ) vs->Rel s0 U D ρ h w->Calls P f (zJq ρ vs).toArray w (kFq s0 U D ρ h w v h'):=λx st d hx hle h1 h2=>by
  have hle:=Nat.le_of_ble_eq_true hle;obtain⟨m1,k1⟩:=preD_sound hmx hC ih c hok _ _ _ h1
  have harg:∀(vs:List V) (m:Nat) (D:Nat->Prop) (ρ:Env),InDL (DD D ρ) vs->vs.length<=m->∀t u,(k7q 0 vs .nil).get t=some u->((zJq ρ vs).toArray++Array.replicate (m-(zJq ρ vs).toArray.size) undef)[t]? =some (conc ρ u)/\InD (DD D ρ) u:=λvs m D ρ hin hle t u hu=>by
   rw[u9q] at hu;split at hu
   ·rename_i hlt;simp only[Nat.sub_zero,Nat.zero_add] at hu hlt;refine⟨?_,InDL.at_ hin hu⟩;rw[Array.getElem?_append_left (by simp[y0q];exact hlt.2),kiq];simp[hu]
   ·simp[Tr.get_nil] at hu
  have hsz:∀(vs:List V) (m:Nat) (ρ:Env),vs.length<=m->((zJq ρ vs).toArray++Array.replicate (m-(zJq ρ vs).toArray.size) undef).size=m:=λvs m ρ hle=>by
   simp only[Array.size_append,Array.size_replicate,List.size_toArray,y0q];omega
  cases d with
  |none=>
   have m2:=uWq h2;refine⟨m1.trans m2,λs0 U D ρ w hU gl hin rel=>?_⟩;refine callsIn_wide.1 (callsIn_of_wp_marks (F:=Fence.wide) (n:=0) hf hb trivial ?_);refine k1 s0 U D ρ _ w _ (Nat.le_trans m2.nxt hU) ⟨⟨⟨λt u hu=>(harg vs _ D ρ hin hle t u hu).1,λt u hu=>(harg vs _ D ρ hin hle t u hu).2,gl⟩⟩,rel,hsz _ _ _ hle,rfl,(λd hd=>by cases hd),rfl⟩ λD1 ρ1 a1 w1 g1 n1 _=>?_
   have fin:=fin_sound (P:=P) hC h2 hU g1 (R:=kFq s0 U D ρ h w v h') λw' r' n' i'=>⟨D1,ρ1,rfl,r',n1.trans rel.lt hU n',i'⟩
   rcases hx with rfl|rfl<;>exact fin
  | some p=>
   obtain⟨g,ws⟩:=p;simp only[endD] at h2;split at h2
   ·rename_i hh1 htake;split at h2
    ·rename_i hh2 hclos;have mt:=jdq _ _ _ htake;unfold closD at hclos;split at hclos
     ·rename_i fg hfg;obtain⟨hgf,hge,hgok⟩:=hF g fg hfg;split at hclos
      ·rename_i cg hgb hgr hgle;have hgle:=Nat.le_of_ble_eq_true hgle;have hgres:fg.results= #[]:=by apply Array.toList_inj.1;simpa using hgr
       have key2:∃x2 s2,(x2= .normal\/x2= .ret)/\zbq ⟨yxq C n,zEq C n⟩ ⟨zYq C n,zKq C n⟩ C cg ⟨k7q 0 ws .nil,hh1,[],false⟩=some (x2,s2)/\s2.ds=[]/\s2.h=hh2:=by
        split at hclos
        ·rename_i s2 e2;split at hclos
         ·rename_i hds;cases hclos;exact⟨_,_,.inl rfl,e2,hds,rfl⟩
         ·cases hclos
        ·rename_i s2 e2;split at hclos
         ·rename_i hds;cases hclos;exact⟨_,_,.inr rfl,e2,hds,rfl⟩
         ·cases hclos
        ·cases hclos
       obtain⟨x2,s2,hx2,e2,hds2,rfl⟩:=key2;obtain⟨m3,k3⟩:=jbq hmx hC ih (hgok cg hgb) _ _ _ e2
       have hh':h'=s2.h:=by
        unfold resD at h2;split at h2<;>first|(cases h2;rfl)|cases h2
       subst hh';refine⟨(m1.trans mt).trans m3,λs0 U D ρ w hU gl hin rel=>?_⟩;have hU1:hh1.next<=U:=Nat.le_trans m3.nxt hU;refine callsIn_wide.1 (callsIn_of_wp_marks (F:=Fence.wide) (n:=0) hf hb trivial ?_);refine k1 s0 U D ρ _ w _ (Nat.le_trans mt.nxt hU1) ⟨⟨⟨λt u hu=>(harg vs _ D ρ hin hle t u hu).1,λt u hu=>(harg vs _ D ρ hin hle t u hu).2,gl⟩⟩,rel,hsz _ _ _ hle,rfl,(λd hd=>by cases hd),rfl⟩ λD1 ρ1 a1 w1 g1 n1 hi1=>?_
       have leave:LeavesInM Fence.wide 0 P fn a1.tmps (kFq s0 U D ρ h w v s2.h) a1.defers .returning w1:=by
        rw[g1.defs];refine vLq _ _ _ _ htake hU1 g1.rel g1.din λw2 r2 n2=>?_
        have hag2:=n2.agree g1.rel.lt hU1;have hws:InDL (DD D1 ρ1) ws:=hi1;have ginit:=GlobOK.next g1.fr.gl g1.rel.lt hU1 n2;show LeavesInM Fence.wide 0 P fn a1.tmps (kFq s0 U D ρ h w v s2.h) ({target:=.fn (.func g) (zJq ρ1 ws).toArray,args:= #[]}::[]) .returning w2;refine⟨by simp,.inr ⟨λh=>Yw,.func g,(zJq ρ1 ws).toArray,g,(zJq ρ1 ws).toArray,rfl,?_,λ_ _=>trivial,?_⟩⟩
        ·show(invoke (.fn (.func g) (zJq ρ1 ws).toArray) #[]).run P w2=_;have:=hge (zJq ρ1 ws).toArray w2;simpa[invoke] using this
        ·have cd:=callsDIn_of_wp (F:=Fence.wide) (n:=0-1) (P:=P) (args:=(zJq ρ1 ws).toArray) (u:=.returning) (w:=w2) (R:=λe w'=>(∃x,e= .returned x)/\∃D3 ρ3,Rel s0 U D3 ρ3 s2.h w'/\Nxt D1 ρ1 hh1 w2 D3 ρ3 s2.h w') hgf hgb trivial (by
          refine k3 s0 U none [] D1 ρ1 _ w2 _ hU ⟨⟨⟨λt u hu=>(harg ws _ D1 ρ1 hws hgle t u hu).1,λt u hu=>(harg ws _ D1 ρ1 hws hgle t u hu).2,ginit⟩⟩,r2,hsz _ _ _ hgle,rfl,(λd hd=>by cases hd),rfl⟩ λD3 ρ3 a3 w3 g3 n3=>?_
          have hd3:a3.defers=[]:=by have:=g3.defs;rw[hds2] at this;simpa using this
          have hres:∃x,(results fg a3.tmps).run P w3= .ok x w3:=⟨.tuple #[],by simp[results,hgres]⟩
          obtain⟨x,hx⟩:=hres;have:a3.defers=[]/\∃x,(results fg a3.tmps).run P w3= .ok x w3/\((∃y,Ending.returned x= .returned y)/\∃D3 ρ3,Rel s0 U D3 ρ3 s2.h w3/\Nxt D1 ρ1 hh1 w2 D3 ρ3 s2.h w3):=⟨hd3,x,hx,⟨x,rfl⟩,D3,ρ3,g3.rel,n3⟩
          rcases hx2 with rfl|rfl<;>exact this)
         refine cd.mono ?_;rintro e u' w3 ⟨rfl,⟨x,rfl⟩,D3,ρ3,r3,n3⟩;have n23:=n2.trans g1.rel.lt hU n3;have gfr:=g1.fr.next g1.rel.lt hU n23;obtain⟨_,y,y1,y2,y3⟩:=resD_spec hC h2 gfr r3;exact⟨y,y1,D3,ρ3,by rw[y2],r3,n1.trans rel.lt hU n23,y3⟩
       rcases hx with rfl|rfl<;>exact leave
      ·cases hclos
     ·cases hclos
    ·cases h2
   ·cases h2
 split at he
 ·rename_i st d h1 h2;obtain⟨q1,q2⟩:=key _ _ _ (.inl rfl) h1 h2 he;exact⟨q1,hent,q2⟩
 ·rename_i st d h1 h2;obtain⟨q1,q2⟩:=key _ _ _ Qm h1 h2 he;exact⟨q1,hent,q2⟩
 ·cases he
end
noncomputable def preDF(S:Self)(F:Flow)(C:Cfg):Code->St->Option ((Exit×St)×Option (FuncId×List V))
 |.seq x y,st=>match Qkq x with
  |some (t,g,caps)=>match st.ds,evL C st.fr caps with
   |[],some vs=>match yqq S F C y ⟨putT st.fr (some t) (.fn g [] vs),st.h,[],st.rd⟩ with
    |some r=>some (r,some (g,vs))
    |none=>none
   |_,_=>none
  |none=>match yqq S F C x st with
   |some (.normal,st')=>preDF S F C y st'
   |some r=>some (r,none)
   |none=>none
 |c,st=>match yqq S F C c st with
  |some r=>some (r,none)
  |none=>none
theorem preDF_eq(S:Self)(F:Flow)(C:Cfg):∀c,preDF S F C c=preD S F C c:=by
 intro c;induction c with
 |seq x y _ ih=>
  funext st
  simp only[preDF,preD,yfq,ih];try rfl
 |_=>
  funext st
  simp only[preDF,preD,yfq];try rfl
noncomputable def closDF(C:Cfg)(r:Four)(g:FuncId)(ws:List V)(h:Heap):Option Heap:=match C.fn g with
 |some fg=>match fg.body,fg.results.toList,Nat.ble ws.length fg.ntmps with
  |some cg,[],true=>match yqq ⟨r.fn,r.yield⟩ ⟨r.loop,r.scope⟩ C cg ⟨k7q 0 ws .nil,h,[],false⟩ with
   |some (.normal,s2)=>match s2.ds with
    |[]=>some s2.h
    |_=>none
   |some (.ret,s2)=>match s2.ds with
    |[]=>some s2.h
    |_=>none
   |_=>none
  |_,_,_=>none
 |none=>none
noncomputable def endDF(C:Cfg)(r:Four)(fn:Func)(st:St):Option (FuncId×List V) ->Option (V×Heap)
 |none=>finV C fn st
 |some (g,ws)=>match qDq st.ds st.h with
  |some h1=>match closDF C r g ws h1 with
   |some h2=>resD C fn st.fr h2
   |none=>none
  |none=>none
noncomputable def runDF(C:Cfg)(n:Nat)(fn:Func)(c:Code)(vs:List V)(h:Heap):Option (V×Heap):=match Nat.ble vs.length fn.ntmps,preDF ⟨(four C n).fn,(four C n).yield⟩ ⟨(four C n).loop,(four C n).scope⟩ C c ⟨k7q 0 vs .nil,h,[],false⟩ with
 |true,some ((.normal,st),d)=>endDF C (four C n) fn st d
 |true,some ((.ret,st),d)=>endDF C (four C n) fn st d
 |_,_=>none
theorem closDF_eq(C:Cfg)(n:Nat)(g:FuncId)(ws:List V)(h:Heap):closDF C (four C n) g ws h=closD C n g ws h:=by
 unfold closDF closD;simp only[yfq,Q9q];try rfl
theorem endDF_eq(C:Cfg)(n:Nat)(fn:Func)(st:St)(d:Option (FuncId×List V)):endDF C (four C n) fn st d=endD C n fn st d:=by
 cases d with
 |none=>rfl
 |some p=>
  obtain⟨g,ws⟩:=p;simp only[endDF,endD,closDF_eq];try rfl
theorem runDF_eq(C:Cfg)(n:Nat)(fn:Func)(c:Code):runDF C n fn c=runD C n fn c:=by
 funext vs h
 unfold runDF runD;simp only[preDF_eq,endDF_eq];simp only[Q9q];try rfl
noncomputable def isTw(N:Nat):Option (V×Heap) ->Nat
 |some (.bool true,h)=>match Nat.ble N h.wmin with
  |true=>1
  |false=>0
 |_=>0
theorem isTw_of{N:Nat}{r:Option (V×Heap)}(h:isTw N r=1):∃h1,r=some (.bool true,h1)/\N<=h1.wmin:=by
 unfold isTw at h;split at h
 ·rename_i h1;split at h
  ·rename_i hb;exact⟨h1,rfl,Nat.le_of_ble_eq_true hb⟩
  ·cases h
 ·cases h
theorem flatE_u:∀l:List Nat,zXq 1 (l.map tabV)=l.map tabV
 |[]=>rfl
 |n::l=>by
  show fitV 1 [tabV n]++zXq 1 (l.map tabV)=_;rw[flatE_u l,yaq (n:=1) (l:=[tabV n]) rfl];rfl
theorem bareL_u:∀l:List Nat,v1q (l.map tabV)=true
 |[]=>rfl
 |n::l=>by
  show(bare (tabV n)&&v1q (l.map tabV))=true;rw[bareL_u l];rfl
noncomputable def YSq(N g:Nat)(ns:List Nat):Heap:=⟨N,N,Tr.nil.set g (some (.ro (.arr ns.length 1 (ns.map tabV))))⟩
theorem YRq(N g:Nat)(ns:List Nat)(i:Nat):(YSq N g ns).get i=if i=g then some (.ro (.arr ns.length 1 (ns.map tabV))) else none:=by
 show(Tr.nil.set g (some (Blk.ro (.arr ns.length 1 (ns.map tabV))))).get i=_;rw[Tr.get_set,Tr.get_nil]
theorem flat_u(ns:List Nat):zjq (.arr ns.length 1 (ns.map tabV))=ns.map tabV:=by
 show fitV ns.length (zXq 1 (ns.map tabV))=_;rw[flatE_u];exact yaq (by rw[List.length_map])
theorem known_run{P:Program}{C:Cfg}(hmx:P.follows .mixedOrders=true)(hC:CfgOK P C)(hF:vEq P C)(hK:q6q P C){n:Nat}{f:FuncId}{N g:Nat}{ns:List Nat}
  (hr:isTw N (yxq C n f [] (YSq N g ns))=1) (hg:∀c,C.glob c=true->c<N) (hgN:g<N):jyq P C f (runK (okTab g ns)):=λvs h v h' he=>by
 unfold runK at he;split at he
 ·split at he
  ·rename_i ho;cases he;obtain⟨h1,hr,hw⟩:=isTw_of hr;have rn:=(run_ok hmx hC hF hK n).self;refine⟨Mono.refl _,rn.fnEnter _ _ _ _ _ hr,λs0 U D ρ w0 hU gl hin rel=>?_⟩;have hm:=rn.fnMono _ _ _ _ _ hr
   have hst:∀i b,(YSq N g ns).get i=some b->i=g/\b= .ro (.arr ns.length 1 (ns.map tabV)):=λi b hb=>by
    rw[YRq] at hb;split at hb
    ·rename_i e;cases hb;exact⟨e,rfl⟩
    ·cases hb
   have hno:∀i b,(YSq N g ns).get i=some b->b.own=true->False:=λi b hb ho=>by
    obtain⟨_,rfl⟩:=hst i b hb;cases ho
   have relS:Rel s0 h1.next (λi=>D i/\i<N) ρ (YSq N g ns) w0:=by
    refine⟨λi hi=>.inl hi.2,λi hi=>?_,λi b hi hb=>?_,λi b hi hb1=>?_,λi j b c hi hj hb hc h _=>(hno i b hb h).elim,λi b hi hb h=>(hno i b hb h).elim,λi j b c hi hj hb hc _ h=>(hno j c hc h).elim,rel.base⟩
    ·have hi:N<=i:=hi;rw[YRq,if_neg Xd]
    ·obtain⟨rfl,rfl⟩:=hst i b hb;unfold okTab at ho;split at ho
     ·rename_i bv hv;simp only[Bool.and_eq_true] at ho;have hs:=Nat.le_of_ble_eq_true ho.1;have ht:=Qiq ho.2
      have hcell:cellsV ρ bv=cellsV ρ (.arr ns.length 1 (ns.map tabV))++((zjq bv).drop ns.length).map (joq ρ):=by
       rw[yHq,yHq,flat_u,<-ht,<-List.map_append,List.take_append_drop]
      have hz:(V.arr ns.length 1 (ns.map tabV)).size=ns.length:=rfl;unfold Heap.val at hv;split at hv
      ·rename_i ty v' hget;cases hv;obtain⟨o,q1,pre,tail,q2,q3,q4⟩:=rel.has _ _ hi.1 hget;exact⟨o,q1,pre,_,ty,(0,0),by rw[q2,hcell,List.append_assoc],q3,by rw[hz];omega⟩
      ·rename_i v' hget;cases hv;obtain⟨o,q1,pre,tail,ty,fz,q2,q3,q4⟩:=rel.has _ _ hi.1 hget;exact⟨o,q1,pre,_,ty,fz,by rw[q2,hcell,List.append_assoc],q3,by rw[hz];omega⟩
      ·cases hv
     ·cases ho
    ·obtain⟨_,rfl⟩:=hst i b hb1;exact bare_in (v:=.arr ns.length 1 (ns.map tabV)) (bareL_u ns)
   have glS:GlobOK C (DD (λi=>D i/\i<N) ρ) ρ:=λc h0=>by
    obtain⟨h1,h2⟩:=gl c h0;exact⟨⟨⟨h1.1,hg c h0⟩,h1.2⟩,h2⟩
   refine(rn.fn _ _ _ _ _ hr s0 h1.next _ ρ w0 (Nat.le_refl _) glS trivial relS).mono λe w'=>?_
   rintro⟨D',ρ',rfl,r',n',_⟩
   have same:∀c,c<w0.heap.size->w'.heap[c]? =w0.heap[c]? :=λc hc=>n'.frame c hc λi _ h2 h3=>by
    have h3:i<N:=h3;omega
   refine⟨D,ρ,rfl,⟨rel.lt,rel.wf,λi b hi hb=>?_,rel.clo,rel.inj,rel.own,rel.old,r'.base⟩,⟨λ_ h=>h,λ_ h=>.inl h,λ_ _=>⟨rfl,rfl,rfl,rfl⟩,λc hc _=>same c hc,λi _ h1 h2=>by omega,n'.size,Nat.le_refl _,Nat.le_refl _,n'.os,n'.tape,n'.output⟩,trivial⟩;obtain⟨o,q1,q2⟩:=rel.has i b hi hb;exact⟨o,by rw[same _ (Array.getElem?_eq_some_iff.1 q1).1];exact q1,q2⟩
  ·cases he
 ·cases he
theorem run_fastTw{C:Cfg}{N n:Nat}{f:FuncId}{vs:List V}{h:Heap}(e:isTw N ((four C n).fn f vs h)=1):isTw N (yxq C n f vs h)=1:=by
 rw[Q9q] at e;exact e
noncomputable def kn2T:Tr (List V->Heap->Option (V×Heap)):=knownT.set 198 (some Q6q)
noncomputable def cfg2:Cfg:={cfg with known:=λf=>kn2T.get f}
theorem cfg2OK:CfgOK Tryz.prog cfg2:=⟨cfgOK.ty,cfgOK.ext,cfgOK.mp,cfgOK.mt⟩
theorem fns2OK:vEq Tryz.prog cfg2:=fnsOK
theorem known2OK:q6q Tryz.prog cfg2:=λf k hk=>by
 have e:kn2T.get f=if f=198 then some Q6q else knownT.get f:=by
  unfold kn2T;rw[Tr.get_set]
 have hk:kn2T.get f=some k:=hk;rw[e] at hk;split at hk
 ·rename_i hf;cases hk;subst hf;exact joinOK
 ·exact known1OK f k hk
noncomputable def askBody:Code:=match Tryz.f35.body with
 |some c=>c
 |none=>.skip
noncomputable def askK:List V->Heap->Option (V×Heap):=runDF cfg2 3000 Tryz.f35 askBody
theorem askOK:jyq Tryz.prog cfg2 35 askK:=by
 unfold askK;rw[runDF_eq];exact known_defer mixed cfg2OK fns2OK known2OK Tryz.func35 Xl (Go.Proofs.enters_of Tryz.func35 Xl rfl) Xl
noncomputable def kn3T:Tr (List V->Heap->Option (V×Heap)):=kn2T.set 35 (some askK)
noncomputable def cfg3:Cfg:={cfg with known:=λf=>kn3T.get f}
theorem cfg3OK:CfgOK Tryz.prog cfg3:=⟨cfgOK.ty,cfgOK.ext,cfgOK.mp,cfgOK.mt⟩
theorem fns3OK:vEq Tryz.prog cfg3:=fnsOK
theorem known3OK:q6q Tryz.prog cfg3:=λf k hk=>by
 have e:kn3T.get f=if f=35 then some askK else kn2T.get f:=by
  unfold kn3T;rw[Tr.get_set]
 have hk:kn3T.get f=some k:=hk;rw[e] at hk;split at hk
 ·rename_i hf;cases hk;subst hf;exact askOK
 ·exact known2OK f k hk
set_option maxRecDepth 1000000 in
theorem runA:isTw 3 ((four cfg3 3000).fn 6 [] (YSq 3 1 kA))=1:=by kernel_rfl
theorem knownA:jyq Tryz.prog cfg 6 (runK (okTab 1 kA)):=
 known_run mixed cfg3OK fns3OK known3OK (run_fastTw runA) (λg hg=>Nat.le_of_ble_eq_true (show Nat.ble (g+1) 3=true from hg)) Xg
theorem knownAOK:q6q Tryz.prog cfg:=known0OK _ knownA
end
end Go.Proofs.YtpjfmknefefapaaGreatDoor

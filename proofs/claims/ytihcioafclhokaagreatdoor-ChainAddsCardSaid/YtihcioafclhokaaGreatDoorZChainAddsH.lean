/-
  What the proof of ChainAdds stands on, part 8. No condition.
-/
import Derived.Test.YtihcioafclhokaaGreatDoorZChainAddsG
set_option linter.unusedSimpArgs false
set_option linter.unusedVariables false
namespace Go.Proofs.YtihcioafclhokaaGreatDoor
section
open Go.RowKit
section
attribute [local irreducible] CoW OpW FlW Step Spec
variable {G:Nat->Option W}
theorem mayp_val(k:Dig)(v:List UInt8):MayP [(k,v)]↔valB v=true:=by
 constructor
 ·intro h;exact(h.2 0 Xh _ rfl).1
 ·intro h;refine⟨by simp,λi hi x hx=>?_⟩;obtain rfl:i=0:=by simpa using hi
  cases hx;exact⟨h,λy h0=>by omega⟩
theorem rone_s(x:Node)(n:Nat)(hn:n<=4611686018427387903):PS cfg G 279 [nW x,.int .i64 (n:Int)] (.bool (decide (oneB x n))):=by
 have e:=zeq x.val
 have yes:∀{b:Bool},x.leaf=true->b=(valB x.val&&decide (x.left=0)&&decide (x.right=0)) ->W.bool b=W.bool (decide (oneB x n)):=λ{b} h1 hb=>by
  rw[hb];congr 1
  rw[Bool.eq_iff_iff];simp only[Bool.and_eq_true,decide_eq_true_eq,oneB,if_pos h1,mayp_val];exact⟨λ⟨⟨a,b⟩,c⟩=>⟨b,c,a⟩,λ⟨b,c,a⟩=>⟨⟨a,b⟩,c⟩⟩
 have no:¬x.leaf=true->¬((0<=x.left/\x.left<=n)/\(0<=x.right/\x.right<=n)/\0<x.left+x.right) ->W.bool false=W.bool (decide (oneB x n)):=λh1 h=>by
  rw[decide_eq_false];rw[oneB,if_neg h1];exact λq=>h ⟨q.1,q.2.1,q.2.2.2.2⟩
 have fork:∀{b:Bool},¬x.leaf=true->0<=x.left->x.left<=n->0<=x.right->x.right<=n->0<x.left+x.right->b=(decide (x.key=yZq)&&decide (x.val=[])) ->W.bool b=W.bool (decide (oneB x n)):=λ{b} h1 q1 q2 q3 q4 q5 hb=>by
  rw[hb];congr 1
  rw[Bool.eq_iff_iff];simp only[Bool.and_eq_true,decide_eq_true_eq,oneB,if_neg h1];exact⟨λ⟨a,c⟩=>⟨⟨q1,q2⟩,⟨q3,q4⟩,a,c,q5⟩,λh=>⟨h.2.2.1,h.2.2.2.1⟩⟩
 refine gI 13 O (λR k0=>?_);refine gS 0 O (λh1=>?_) (λh1=>?_)
 ·refine gC 4 O (vGq _ _) ?_;refine gB 0 O (λh2=>?_) (λh2=>?_)
  ·refine gD 3 O (λh3=>?_) (λh3=>?_)
   ·refine gU 4 O ?_;exact gQ 6 O Yd
   ·exact gQ 11 O Yd
  ·exact gQ 15 O Yd
 ·refine gD 7 O (λh2=>?_) (λh2=>?_)
  ·exact gQ 37 O Yd
  ·refine gD 4 O (λh3=>?_) (λh3=>?_)
   ·exact gQ 32 O Yd
   ·refine gD 4 O (λh4=>?_) (λh4=>?_)
    ·exact gQ 27 O Yd
    ·refine gD 5 O (λh5=>?_) (λh5=>?_)
     ·exact gQ 21 O Yd
     ·refine gD 4 O (λh6=>?_) (λh6=>?_)
      ·refine gU 3 O ?_;refine gS 4 O (λh7=>?_) (λh7=>?_)
       ·exact gQ 7 O Yd
       ·have h2:¬x.left<0:=h2;have h3:¬(n:Int)<x.left:=h3;have h4:¬x.right<0:=h4;have h5:¬(n:Int)<x.right:=h5;refine gV 6 O kiq ?_;refine gDe 0 O (qyq O O O O (y4q O O O O O O _ _ 250)) ydq (λh8=>?_) (λh8=>?_)
        ·refine gV (w':=.int .i64 (x.val.length:Int)) 3 O Xv ?_;refine gU 0 O ?_;refine zfq 5 O ?_;refine fin_eq Jp rfl (fork h1 Xd Xd Xd Xd Xd ?_);rw[decide_eq_true (by assumption:x.key=yZq),Bool.true_and];refine decide_eq_decide.2 ⟨λq=>List.eq_nil_of_length_eq_zero Xd,λq=>by rw[q];rfl⟩
        ·refine zfq 10 O ?_;refine fin_eq Jp rfl (fork h1 Xd Xd Xd Xd Xd ?_);rw[decide_eq_false (by assumption:¬x.key=yZq),Bool.false_and]
      ·have h2:¬x.left<0:=h2;have h3:¬(n:Int)<x.left:=h3;have h4:¬x.right<0:=h4;have h5:¬(n:Int)<x.right:=h5;refine gV 15 O kiq ?_;refine gDe 0 O (qyq O O O O (y4q O O O O O O _ _ 250)) ydq (λh7=>?_) (λh7=>?_)
       ·refine gV (w':=.int .i64 (x.val.length:Int)) 3 O Xv ?_;refine gU 0 O ?_;refine zfq 5 O ?_;refine fin_eq Jp rfl (fork h1 Xd Xd Xd Xd Xd ?_);rw[decide_eq_true (by assumption:x.key=yZq),Bool.true_and];refine decide_eq_decide.2 ⟨λq=>List.eq_nil_of_length_eq_zero Xd,λq=>by rw[q];rfl⟩
       ·refine zfq 10 O ?_;refine fin_eq Jp rfl (fork h1 Xd Xd Xd Xd Xd ?_);rw[decide_eq_false (by assumption:¬x.key=yZq),Bool.false_and]
def cntR(t:T)(d:Nat)(b:Dig):Int:=if t.ok d b=true then(match t with|.nil=>0|.leaf _ _=>1|.fork _ _=>2) else-1
theorem cntR_lt(t:T)(d:Nat)(b:Dig):cntR t d b<0↔¬t.ok d b=true:=by
 unfold cntR;split
 ·rename_i h;cases t<;>simp[h]
 ·rename_i h;simp[h]
theorem cntR_ge(t:T)(d:Nat)(b:Dig):0<=cntR t d b↔t.ok d b=true:=by
 have:=cntR_lt t d b;constructor
 ·intro h;refine Classical.byContradiction λq=>?_
  have:=this.2 q;omega
 ·intro h;refine Int.not_lt.1 λq=>this.1 q h
theorem cntR_fork{l r:T}{d:Nat}{b:Dig}(hd:d<256)(h1:¬cntR l (d+1) b<0)(h2:¬cntR r (d+1) (qCq b d)<0):cntR (.fork l r) d b=if cntR l (d+1) b+cntR r (d+1) (qCq b d)<2 then-1 else 2:=by
 have e1:l.ok (d+1) b=true:=(cntR_ge l _ _).1 Xd;have e2:r.ok (d+1) (qCq b d)=true:=(cntR_ge r _ _).1 Xd;have e:(T.fork l r).ok d b=T.two l r:=by simp only[T.ok];rw[decide_eq_true hd,e1,e2];rfl
 unfold cntR;rw[e,e1,e2];cases l<;>cases r<;>simp[T.two,T.isFork,T.non]
theorem cntR_le(t:T)(d:Nat)(b:Dig):cntR t d b<=2:=by
 unfold cntR;split
 ·cases t<;>simp
 ·omega
theorem cntR_no{l r:T}{d:Nat}{b:Dig}(h:¬(T.fork l r).ok d b=true):cntR (.fork l r) d b=-1:=by unfold cntR;rw[if_neg h]
theorem rright_s(t0:Tree)(hb:t0.nodes.length<=4611686018427387903):∀(t:T) (n d:Nat) (b:Dig),Rep t0.nodes n t->d<=256->PS cfg G 280 [tW t0,.int .i64 (n:Int),.int .i64 (d:Int),dW b] (.int .i64 (cntR t d b)):=by
 intro t;induction t with
 |nil=>
  intro n d b hr hd;obtain rfl:n=0:=by cases hr;rfl
  refine gI 14 O (λR k0=>?_);refine gS 0 O (λh1=>?_) (λh1=>?_)
  ·exact gQa 7 O
  ·exfalso;omega
 |leaf k v=>
  intro n d b hr hd;have hle:=hr.le;cases hr with
  |leaf h=>
  rename_i n l r;refine gI 14 O (λR k0=>?_);refine gS 0 O (λh1=>?_) (λh1=>?_)
  ·exfalso;omega
  ·refine gA 7 O (n) ?_;refine gP 0 O (zvq (i:=n) O O O O O O O (zsq nW h)) ?_;refine gC 19 O (rshared_s _ _) ?_;refine gS 4 O (λh2=>?_) (λh2=>?_)
   ·refine gQ 8 O ?_;unfold cntR;rw[if_neg];simp only[T.ok,decide_eq_true_eq];have h2:((z7q k b:Nat):Int)<d:=h2;omega
   ·refine gQ 9 O ?_;unfold cntR;rw[if_pos];simp only[T.ok,decide_eq_true_eq];have h2:¬((z7q k b:Nat):Int)<d:=h2;omega
 |fork tl tr ihL ihR=>
  intro n d b hr hd;have hle:=hr.le;cases hr with
  |fork h hl hr hL hR=>
  rename_i n l r k v;refine gI 14 O (λR k0=>?_);refine gS 0 O (λh1=>?_) (λh1=>?_)
  ·exfalso;omega
  ·refine gA 7 O (n) ?_;refine gP 0 O (zvq (i:=n) O O O O O O O (zsq nW h)) ?_;refine gS 22 O (λh2=>?_) (λh2=>?_)
   ·refine gQ 7 O ?_;rw[cntR_no λq=>by have:=(ok_fork.1 q).1;omega]
   ·have hd':d<256:=by omega
    refine gC 6 O (rturn_in _ _ Xd) ?_;refine gA 14 O (d+1) ?_;refine zfq 1 O ?_;refine yvq O O O O O O (ihL l (d+1) b hL Xd) ?_;refine ziq 10 O ?_;refine gS 0 O (λh3=>?_) (λh3=>?_)
    ·refine gQ 7 O ?_;rw[cntR_no λq=>(cntR_lt tl _ _).1 Xr (ok_fork.1 q).2.1]
    ·refine gA 8 O (d+1) ?_;refine zfq 1 O ?_;refine yvq O O O O O O (ihR r (d+1) (qCq b d) hR Xd) ?_;refine ziq 7 O ?_;refine gD 0 O (λh4=>?_) (λh4=>?_)
     ·refine gQ 16 O ?_;rw[cntR_no λq=>(cntR_lt tr _ _).1 Xr (ok_fork.1 q).2.2.1]
     ·have hc:=cntR_fork (l:=tl) (r:=tr) hd' h3 h4;have b1:=cntR_le tl (d+1) b;have b2:=cntR_le tr (d+1) (qCq b d);refine gWr 3 O ?_;refine gU 0 O ?_;refine gS 3 O (λh5=>?_) (λh5=>?_)
      ·exact gQ 7 O (by rw[hc,if_pos Xr])
      ·exact gQ 8 O (by rw[hc,if_neg Xr])
theorem rmay_s(t:Tree)(hb:t.nodes.length<=4611686018427387903):PS cfg G 201 [tW t] (.bool (decide (MayT t))):=by
 have e:(t.nodes.map nW).length=t.nodes.length:=List.length_map _;refine gI 11 O (λR k0=>gV (w':=.int .i64 (t.nodes.length:Int)) 0 O Xv ?_);refine gD 0 O (λh1=>?_) (λh1=>?_)
 ·have hno:¬MayT t:=λh=>by have:=h.1;omega
  exact gQ 23 O Yk
 refine gD 3 O (λh2=>?_) (λh2=>?_)
 ·have hno:¬MayT t:=λh=>by obtain⟨_,_,n,_,h,_⟩:=h;have h2:t.root<0:=h2;omega
  exact gQ 19 O Yk
 refine gV (w':=.int .i64 (t.nodes.length:Int)) 6 O Xv (gU 0 O ?_);refine gS 3 O (λh3=>?_) (λh3=>?_)
 ·have hno:¬MayT t:=λh=>by obtain⟨_,_,n,_,h,hr,_⟩:=h;have h3:(t.nodes.length:Int)<t.root:=h3;have:=hr.le;omega
  exact gQ 7 O Yk
 have h2:¬t.root<0:=h2;have h3:¬(t.nodes.length:Int)<t.root:=h3;obtain⟨n0,hn0⟩:=Int.eq_ofNat_of_zero_le (show 0<=t.root by omega);refine gLo (α:=Nat) 9 (λi=>i<=t.nodes.length/\∀j x,j<i->t.nodes[j]? =some x->oneB x j) (λi=>[(3,.int .i64 (i:Int))]) [1,2] (λi=>t.nodes.length-i) (0) rfl (⟨Nat.zero_le _,λj x hj=>by omega⟩) (λi hI=>?_);obtain⟨hi,hI⟩:=hI;refine gV (w':=.int .i64 (t.nodes.length:Int)) 6 O Xv ?_;refine gS 3 O (λh4=>?_) (λh4=>?_)
 ·have hi':i<t.nodes.length:=by omega
  obtain⟨x,hx⟩:∃x,t.nodes[i]? =some x:=⟨_,List.getElem?_eq_getElem hi'⟩
  refine gP 9 O (zvq (i:=i) O O O O O O O (zsq nW hx)) (gC 2 O (rone_s _ _ Xd) ?_);refine gS 3 O (λh5=>?_) (λh5=>?_)
  ·have hno:¬MayT t:=λh=>by have:=h.2.1 i x hx;simp[this] at h5
   exact gO 8 O (gQ 2 O Yk)
  ·have h5:oneB x i:=by simpa using h5
   exact gA 5 O (i+1) (gAg 2 O (i+1) (⟨hi',λj y hj hy=>by rcases Nat.lt_succ_iff_lt_or_eq.1 hj with h|rfl;exact hI j y h hy;exact(Option.some.inj (hx.symm.trans hy))▸h5⟩) Xd)
 ·have okn:okN t.nodes:=λj x hx=>hI j x (by have:=(List.getElem?_eq_some_iff.1 hx).1;omega) hx
  obtain⟨t0,ht0⟩:=rep_of okn n0 Xd
  have key:MayT t↔t0.ok 0 yZq=true:=by
   constructor
   ·rintro⟨_,_,n,t1,hn,hr,hk⟩;obtain rfl:n=n0:=by omega
    rw[ht0.uniq hr];exact hk
   ·exact λh=>⟨by omega,okn,n0,t0,hn0,ht0,h⟩
  refine gO 2 O (gV 7 O kiq (Kmq O O O O O (by rw[hn0];rfl) (rright_s t Xd t0 n0 0 yZq ht0 Xd) Xh Xh (op_cz O O (ziq 4 O (gQ 0 O ?_)))));rw[show decide (MayT t)=decide (0<=cntR t0 0 yZq) from decide_eq_decide.2 (key.trans (cntR_ge t0 0 yZq).symm)]
theorem rfor_s(t0:Tree)(hb:t0.nodes.length<=4611686018427387903):∀(t:T) (n:Nat),Rep t0.nodes n t->t.all.length<=1000000->(∀p∈t.all,p.2.length<=70368744177664) ->PL cfg G 263 [tW t0,.int .i64 (n:Int)] 191 33 (t.all.map pW):=by
 intro t;induction t with
 |nil=>
  intro n hr hl hv R;obtain rfl:n=0:=by cases hr;rfl
  refine gIs 13 O (λk0=>?_);refine gS 0 O (λh1=>?_) (λh1=>?_)
  ·exact zfq 7 O (fin (w:=gW 0 33 []) Jp (v4q (b:=0) (ty:=191) (l2:=[]) (H0:=[]) (fr2:=[]) 4 Xd Xd rfl trivial trivial (λx r h=>by cases h) rfl trivial List.nodup_nil) rfl ⟨rfl,rfl,rfl,rfl⟩)
  ·exfalso;omega
 |leaf k v=>
  intro n hr hl hv R;have hle:=hr.le;have hvl:=hv (k,v) (by simp[T.all]);simp only at hvl;cases hr with
  |leaf h=>
  rename_i n l r;refine gIs 13 O (λk0=>?_);refine gS 0 O (λh1=>?_) (λh1=>?_)
  ·exfalso;omega
  ·exact gA 7 O (n) (gP 0 O (zvq (i:=n) O O O O O O O (zsq nW h)) (zfq 19 O (KFq O O O O O O (ueq v false hvl) Xh Xh Xu (ygq 7 O (fin (w:=gW 0 33 [pW (k,v)]) Jp (ent_one (b:=0) (x:=pW (k,v)) 2 4 Xd Xd Xd O O O O Xh) rfl ⟨rfl,rfl,rfl,rfl⟩)))))
 |fork tl tr ihL ihR=>
  intro n hr hl hv R;have hle:=hr.le;cases hr with
  |fork h hl0 hr0 hL hR=>
  rename_i n l r k v;have hlen:tl.all.length+tr.all.length<=1000000:=by simpa[T.all] using hl
  obtain⟨l1,e1⟩:∃q,q=tl.all.map pW:=⟨_,rfl⟩
  obtain⟨l2,e2⟩:∃q,q=tr.all.map pW:=⟨_,rfl⟩
  have P1:PL cfg G 263 [tW t0,.int .i64 (l:Int)] 191 33 l1:=e1▸ihL l hL Xd λp hp=>hv p Jb
  have P2:PL cfg G 263 [tW t0,.int .i64 (r:Int)] 191 33 l2:=e2▸ihR r hR Xd λp hp=>hv p Jb
  have p1:purL l1=true:=by rw[e1];exact qLq _
  have p2:purL l2=true:=by rw[e2];exact qLq _
  have hl1:l1.length<=1000000:=by rw[e1,List.length_map];omega
  have hl2:l2.length<=1000000:=by rw[e2,List.length_map];omega
  have e3:(T.fork tl tr).all.map pW=l1++l2:=by rw[e1,e2];simp[T.all]
  rw[e3];clear e1 e2 e3;refine gIs 13 O (λk0=>?_);refine gS 0 O (λh1=>?_) (λh1=>?_)
  ·exfalso;omega
  ·refine gA 7 O (n) (gP 0 O (zvq (i:=n) O O O O O O O (zsq nW h)) (zfq 20 O ?_));skip
   skip
   cases l1 with
   |nil=>
    cases l2 with
    |nil=>
     (refine zZq rfl (kzq O O O O O Xh P1 Xr ?_);refine⟨by first|rfl|kernel_rfl,?_⟩)
     refine ygq 3 O ?_
     (refine zZq rfl (kzq O O O O O Xh P2 Xr ?_);refine⟨by first|rfl|kernel_rfl,?_⟩)
     refine qPq rfl (zRq O O (YAq O O O O O)) Xu (ygq 4 O ?_);refine fin (w:=gW 0 33 ([]:List W)) Jp (v4q (b:=0) (ty:=191) (l2:=[]) (H0:=[]) (fr2:=[]) 4 Xd Xd rfl trivial trivial (λx r h=>by cases h) rfl trivial List.nodup_nil) rfl ⟨rfl,?_,?_,rfl⟩
     ·rfl
     ·rfl
    |cons y2 r2=>
     (refine zZq rfl (kzq O O O O O Xh P1 Xr ?_);refine⟨by first|rfl|kernel_rfl,?_⟩)
     refine ygq 3 O ?_
     (refine zZq rfl (kzq O O O O O Xh P2 Xr ?_);refine⟨by first|rfl|kernel_rfl,?_⟩)
     refine qPq rfl (zRq O O (kPq (news:=y2::r2) (k:=ti191) O O O O (zPq O O O (zhq Xm O O)) Xh (by show(y2::r2).length*56<=_;omega) Xd)) Xu (ygq 4 O ?_);refine fin (w:=gW 0 33 (y2::r2)) Jp (qxq (b:=0) (l2:=y2::r2) (H0:=[]) (fr2:=[]) 4 4 Xd Xd Xd Xh O O trivial trivial rfl p2 trivial List.nodup_nil) rfl ⟨rfl,?_,?_,rfl⟩
     ·rfl
     ·rfl
   |cons y1 r1=>
    cases l2 with
    |nil=>
     (refine zZq rfl (kzq O O O O O Xh P1 Xr ?_);refine⟨by first|rfl|kernel_rfl,?_⟩)
     refine ygq 3 O ?_
     (refine zZq rfl (kzq O O O O O Xh P2 Xr ?_);refine⟨by first|rfl|kernel_rfl,?_⟩)
     refine qPq rfl (zRq O O (xZq (k:=ti191) O O O O O)) Xu (ygq 4 O ?_);refine fin (w:=gW 0 33 (y1::r1)) Jp (qxq (b:=0) (l2:=y1::r1) (H0:=[]) (fr2:=[]) 2 4 Xd Xd Xd Xh O O trivial trivial rfl p1 trivial List.nodup_nil) rfl ⟨rfl,?_,?_,rfl⟩
     ·rw[List.append_nil]
     ·rw[List.append_nil];rfl
    |cons y2 r2=>
     (refine zZq rfl (kzq O O O O O Xh P1 Xr ?_);refine⟨by first|rfl|kernel_rfl,?_⟩)
     refine ygq 3 O ?_
     (refine zZq rfl (kzq O O O O O Xh P2 Xr ?_);refine⟨by first|rfl|kernel_rfl,?_⟩)
     refine qPq rfl (zRq O O (yXq (len:=(y1::r1).length) (news:=y2::r2) (olds:=y1::r1) (k:=ti191) O O O O (zPq O O O (zhq Xm O O)) Xh (by show((y1::r1).length+(y2::r2).length)*56<=_;omega) Xd rfl (by show(y1::r1).length*33<0+((y1::r1).length+(y2::r2).length)*33;simp only[List.length_cons];omega) rfl (zhq Xm O O))) Xu (ygq 4 O ?_);refine fin (w:=gW 0 33 ((y1::r1)++(y2::r2))) Jp (qxq (b:=0) (l2:=(y1::r1)++(y2::r2)) (n:=(y1::r1).length+(y2::r2).length) (H0:=[]) (fr2:=[]) 4 4 Xd Xd Xd Xh rfl (by rw[List.length_append]) trivial trivial rfl (by rw[purL_app,p1,p2];rfl) trivial List.nodup_nil) rfl ⟨rfl,?_,?_,rfl⟩
     ·rfl
     ·rfl
theorem g_get(b e:Nat)(l:List W)(r:W):ycq 50 (.agg 2 [gW b e l,r]) 0 1 false=some (gW b e l):=by cases l<;>rfl
theorem g_put(b e:Nat)(l:List W)(r:W)(b' n:Nat):qtq 50 (.agg 2 [gW b e l,r]) 0 (.sl b' 0 0 n e none)=some (.agg 2 [.sl b' 0 0 n e none,r]):=by cases l<;>rfl
theorem rttwin_s(t:Tree)(hb:t.nodes.length<=1000000000)(hv:∀x∈t.nodes,x.val.length<=70368744177664):PS cfg G 71 [tW t] (tW t):=by
 have e:(t.nodes.map nW).length=t.nodes.length:=List.length_map _;refine gIv 18 O (λR k0=>qOq (λ_=>jLq (fr2:=[(1,.ptr 0 0),(2,.ptr 1 0),(3,.ptr 2 0)]) ⟨rfl,rfl,rfl,trivial⟩) (zdq O O ?_))
 refine ziq 3 O ?_;refine qjq (α:=Nat) (λi=>i<=t.nodes.length) (λi=>[(4,.int .i64 (i:Int))]) [(1,_),(2,_),(3,_)] (λi=>[(2,24,.agg 2 [gW 3 36 ((t.nodes.take i).map nW),.int .i64 t.root]),(1,24,.agg 2 [.nils,.int .i64 0]),(0,24,tW t)]++gH 3 163 36 ((t.nodes.take i).map nW)) (λi=>t.nodes.length-i) (0) ⟨rfl,rfl,rfl,trivial⟩ (Nat.zero_le _) ⟨rfl,trivial⟩ (rfl) (λi hI=>?_);refine zQq 6 O (gV (w':=.int .i64 (t.nodes.length:Int)) 0 O Xv ?_);refine gS 3 O (λh1=>?_) (λh1=>?_)
 ·have hi:i<t.nodes.length:=by omega
  obtain⟨x,hx⟩:∃x,t.nodes[i]? =some x:=⟨_,List.getElem?_eq_getElem hi⟩
  have hxv:=hv x (List.mem_of_getElem? hx);have el:((t.nodes.take i).map nW).length=i:=by simp;omega
  have es:(t.nodes.take (i+1)).map nW=(t.nodes.take i).map nW++[nW x]:=by rw[List.take_add_one,hx,List.map_append];rfl
  have ep:purL ((t.nodes.take i).map nW++[nW x])=true:=by rw[<-es];exact yhq xfq _
  refine gP 9 O (zvq (i:=i) O O O O O O O (zsq nW hx)) (zfq 9 O (yvq O O O O O O (ueq x.val false hxv) (ziq 6 O (gM 0 O (z1q O O O (g_get 3 36 _ _)) (gM 2 O (zRq O O (qzq [_,_,_,_,_] (k:=ti163) (news:=[nW x]) O O O O O (zPq O O O O) Xh (by show(((t.nodes.take i).map nW).length+1)*80<=_;omega) (by show((t.nodes.take i).map nW).length+1<=_;omega) rfl Xh)) (gM 1 O (qsq O O O O O (g_put 3 36 _ _ _ _) rfl) (gA 5 O (i+1) (zfq 2 O ?_))))))));skip
  refine yaq (i+1) hi Xd ?_;simp only;have hne:(t.nodes.take i).map nW++[nW x]≠[]:=List.append_ne_nil_of_right_ne_nil _ Xh;rw[es,qXq hne,qYq hne];refine yoq (b:=3) (k:=6) Xd Xd Xd ⟨⟨rfl,rfl⟩,⟨rfl,rfl⟩,⟨rfl,rfl⟩,⟨rfl,rfl⟩,trivial⟩ ⟨⟨by omega,rfl,rfl⟩,⟨by omega,rfl,rfl⟩,⟨by omega,?_,zcq Xh⟩,⟨by omega,?_,zcq ep⟩,trivial⟩ Xh
  ·rw[zgq Xh];rfl
  ·rw[zgq (by exact ep)];rfl
 ·have hi:i=t.nodes.length:=by omega
  subst hi;rw[List.take_length];exact zfq 2 O (yNq Xi (zJq 9 O (jfq Xt O (.agg (.cons (klq (H0:=[(2,24,.agg 2 [gW 3 36 (t.nodes.map nW),.int .i64 t.root]),(1,24,.agg 2 [gW 3 36 (t.nodes.map nW),.int .i64 t.root]),(0,24,tW t)]) Xm (veq _) Xh) (.cons (.pur rfl) .nil))))))
theorem tree_ext{a b:Tree}(h1:a.nodes=b.nodes)(h2:a.root=b.root):a=b:=by cases a;cases b;simp only at h1 h2;subst h1;subst h2;rfl
theorem node_ext{a b:Node}(h1:a.leaf=b.leaf)(h2:a.key=b.key)(h3:a.val=b.val)(h4:a.left=b.left)(h5:a.right=b.right):a=b:=by cases a;cases b;simp only at h1 h2 h3 h4 h5;subst h1;subst h2;subst h3;subst h4;subst h5;rfl
noncomputable instance(a b:Tree):Decidable (a=b):=Classical.propDecidable _
theorem J1q(a b:Tree)(hb:a.nodes.length<=1000000000):PS cfg G 17 [tW a,tW b] (.bool (decide (a=b))):=by
 have ea:(a.nodes.map nW).length=a.nodes.length:=List.length_map _;have eb:(b.nodes.map nW).length=b.nodes.length:=List.length_map _;refine gI 14 O (λR k0=>?_);refine gD 0 O (λh1=>?_) (λh1=>?_)
 ·have hno:¬a=b:=λh=>h1 (by rw[h])
  exact gQ 19 O Yk
 have hroot:a.root=b.root:=by simpa using h1
 refine gV (w':=.int .i64 (a.nodes.length:Int)) 3 O Yz (gV (w':=.int .i64 (b.nodes.length:Int)) 2 O (by rw[<-eb];rfl) (gU 0 O ?_));refine gS 3 O (λh2=>?_) (λh2=>?_)
 ·have hno:¬a=b:=λh=>h2 (by rw[h])
  exact gQ 7 O Yk
 have hlen:a.nodes.length=b.nodes.length:=by omega
 refine gLo (α:=Nat) 9 (λi=>i<=a.nodes.length/\a.nodes.take i=b.nodes.take i) (λi=>[(5,.int .i64 (i:Int))]) [2,3,4] (λi=>a.nodes.length-i) (0) rfl (⟨Nat.zero_le _,rfl⟩) (λi hI=>?_);obtain⟨g1,g2⟩:=hI;refine gV (w':=.int .i64 (a.nodes.length:Int)) 6 O Yz ?_;refine gS 3 O (λh3=>?_) (λh3=>?_)
 ·have hi:i<a.nodes.length:=by omega
  obtain⟨x,hx⟩:∃x,a.nodes[i]? =some x:=⟨_,List.getElem?_eq_getElem hi⟩
  obtain⟨y,hy⟩:∃y,b.nodes[i]? =some y:=⟨_,List.getElem?_eq_getElem Xd⟩
  have no:x≠y->¬a=b:=λh q=>h Qk
  refine gP 9 O (zvq (i:=i) O O O O O O O (zsq nW hx)) (gP 4 O (zvq (i:=i) O O O O O O O (zsq nW hy)) ?_);refine gD 13 O (λh4=>?_) (λh4=>?_)
  ·have hno:=no λq=>by rw[q] at h4;simp at h4
   exact gO 40 O (gQ 2 O Yk)
  refine gDe 5 O (jEq O O O O (y4q O O O O O O _ _ 250)) (jQq ydq) (λh5=>?_) (λh5=>?_)
  ·have hno:=no λq=>h5 Je
   exact gO 34 O (gQ 2 O Yk)
  refine gC 6 O (same_s _ _ _ _) ?_;refine gB 0 O (λh6=>?_) (λh6=>?_)
  ·refine gD 7 O (λh7=>?_) (λh7=>?_)
   ·have hno:=no λq=>h7 Je
    exact gO 19 O (gQ 2 O Yk)
   refine gU 6 O ?_;refine gS 3 O (λh8=>?_) (λh8=>?_)
   ·have hno:=no λq=>h8 Je
    exact gO 8 O (gQ 2 O Yk)
   have hxy:x=y:=node_ext (by simpa using h4) (by simpa using h5) h6 (by simpa using h7) (by simpa using h8);exact gA 5 O (i+1) (gAg 2 O (i+1) (⟨hi,by rw[List.take_add_one,List.take_add_one,g2,hx,hy,hxy]⟩) Xd)
  ·have hno:=no λq=>h6 Je
   exact gO 27 O (gQ 2 O Yk)
 ·refine gO 2 O (gQ 8 O ?_);rw[decide_eq_true];have:=g2;rw[List.take_of_length_le Xd,List.take_of_length_le Xd] at this;exact tree_ext this hroot
theorem rall_s(t:Tree)(n:Nat)(t0:T)(h:IsT t n t0):PS cfg G 185 [tW t] (psW t0.all):=by
 have h1:=h.all_le;have h2:=h.len;have h3:=h.root;obtain⟨ns,root⟩:=t;simp only at h1 h2 h3;subst h3;have P:=(rfor_s (G:=G) ⟨ns,(n:Int)⟩ Qa t0 n h.rep Xd (λp hp=>by have:=(h.val p hp).2;omega)).ps Xm (qLq _);exact gI 11 O (λR k0=>Kmq O O O O O O P Xh Xh (ziq 4 O (gQa 0 O)))
theorem vIq(ds:List Depo)(xs:List Tx)(f g:Bool)(hd:ds.length<=1000000)(hx:xs.length<=1000000):PS cfg G 72 [bodW ds xs f g] (bodW ds xs false false):=by
 have e1:(ds.map pdW).length=ds.length:=List.length_map _;have e2:(xs.map txW).length=xs.length:=List.length_map _;refine gI 17 O (λR k0=>?_)
 (refine zlq rfl (uJq (k:=ti186) (e:=34) (news:=ds.map pdW) O O O O O O O O O Xh (by rw[e1];show _*48<=_;omega) Xd ?_))
 refine ziq 10 O ?_
 (refine zlq rfl (uJq (k:=ti91) (e:=99) (news:=xs.map txW) O O O O O O O O O Xh (by rw[e2];show _*120<=_;omega) Xd ?_))
 exact ziq 11 O (gQa 0 O)
structure SmallC(c:Ch):Prop where
 nodes:c.tree.nodes.length<=1000000
 vals:∀x∈c.tree.nodes,x.val.length<=70368744177664
 len:c.links.length<=1000000
 link:∀x∈c.links,x.ds.length<=1000000/\x.xs.length<=1000000/\x.rs.length<=1000000
theorem c_get(b:Nat)(l:List W)(t:Tree):ycq 50 (.agg 3 [tW t,gW b 102 l]) 2 1 false=some (gW b 102 l):=by cases l<;>rfl
theorem c_put(b:Nat)(l:List W)(t:Tree)(b' n:Nat):qtq 50 (.agg 3 [tW t,gW b 102 l]) 2 (.sl b' 0 0 n 102 none)=some (.agg 3 [tW t,.sl b' 0 0 n 102 none]):=by cases l<;>rfl
theorem rchtwin_s(c:Ch)(hs:SmallC c):PS cfg G 10 [chG c] (chG c):=by
 obtain⟨q1,q2,q3,q4⟩:=hs;have e:(c.links.map lkG).length=c.links.length:=List.length_map _;refine gIv 10 O (λR k0=>gC 0 O (rttwin_s c.tree Xd q2) (zfq 8 O (qOq (λ_=>jLq (fr2:=[(1,.ptr 0 0),(2,.ptr 1 0),(3,.ptr 2 0)]) ⟨rfl,rfl,rfl,trivial⟩) (zdq O O ?_))))
 refine ziq 3 O ?_;refine qjq (α:=Nat) (λi=>i<=c.links.length) (λi=>[(4,.int .i64 (i:Int))]) [(1,_),(2,_),(3,_)] (λi=>[(2,27,.agg 3 [tW c.tree,gW 3 102 ((c.links.take i).map lkG)]),(1,27,.agg 3 [.agg 2 [.nils,.int .i64 0],.nils]),(0,27,chG c)]++gH 3 155 102 ((c.links.take i).map lkG)) (λi=>c.links.length-i) (0) ⟨rfl,rfl,rfl,trivial⟩ (Nat.zero_le _) ⟨rfl,trivial⟩ (rfl) (λi hI=>?_);refine zQq 6 O (gZ 0 O e ?_);refine gS 3 O (λh1=>?_) (λh1=>?_)
 ·have hi:i<c.links.length:=by omega
  obtain⟨x,hx⟩:∃x,c.links[i]? =some x:=⟨_,List.getElem?_eq_getElem hi⟩
  obtain⟨b1,b2,b3⟩:=q4 x (List.mem_of_getElem? hx);have e3:(x.rs.map rcW).length=x.rs.length:=List.length_map _;have el:((c.links.take i).map lkG).length=i:=by simp;omega
  have es:(c.links.take (i+1)).map lkG=(c.links.take i).map lkG++[lkG x]:=by rw[List.take_add_one,hx,List.map_append];rfl
  have ep:purL ((c.links.take i).map lkG++[lkG x])=true:=by rw[<-es];exact jRq _
  refine gP 9 O (zvq (i:=i) O O O O O O O (zsq lkG hx)) (gC 9 O (vIq x.ds x.xs false false b1 b2) (zfq 14 O ?_))
  (refine zlq rfl (uJq (k:=ti98) (e:=34) (news:=x.rs.map rcW) O O O O O O O O O Xh Ja Xd ?_))
  refine ziq 6 O (gM 0 O (z1q O O O (c_get 3 _ _)) (gM 2 O (zRq O O (qzq [_,_,_,_,_] (k:=ti155) (news:=[lkG x]) O O O O O (zPq O O O O) Xh (by show(((c.links.take i).map lkG).length+1)*192<=_;omega) (by show((c.links.take i).map lkG).length+1<=_;omega) rfl Xh)) (gM 1 O (qsq O O O O O (c_put 3 _ _ _ _) rfl) (gA 5 O (i+1) (zfq 2 O ?_)))));skip
  refine yaq (i+1) hi Xd ?_;simp only;have hne:(c.links.take i).map lkG++[lkG x]≠[]:=List.append_ne_nil_of_right_ne_nil _ Xh;rw[es,qXq hne,qYq hne];refine yoq (b:=3) (k:=7) Xd Xd Xd ⟨⟨rfl,rfl⟩,⟨rfl,rfl⟩,⟨rfl,rfl⟩,⟨rfl,rfl⟩,trivial⟩ ⟨⟨by omega,?_,?_⟩,⟨by omega,rfl,rfl⟩,⟨by omega,?_,zcq Xh⟩,⟨by omega,?_,zcq ep⟩,trivial⟩ Xh
  ·show some (_,W.agg 3 [_,_])=some (_,W.agg 3 [renW _ (tW c.tree),renW _ (.sl 3 0 0 _ 102 none)]);rw[zgq (qBq _)];rfl
  ·show(refB _ (tW c.tree)&&_)=true;rw[zcq (qBq _)];rfl
  ·rw[zgq Xh];rfl
  ·rw[zgq (by exact ep)];rfl
 ·have hi:i=c.links.length:=by omega
  subst hi;rw[List.take_length];exact zfq 2 O (yNq Xi (zJq 9 O (jfq Jp O (.agg (.cons (.pur Xh) (.cons (klq (H0:=[(2,27,.agg 3 [tW c.tree,gW 3 102 (c.links.map lkG)]),(1,27,.agg 3 [tW c.tree,gW 3 102 (c.links.map lkG)]),(0,27,chG c)]) Xm (jRq _) Xh) .nil))))))
def JJq(c:Ch)(n:Nat):Prop:=JKq c.tree 900\/n<c.links.length\/∃x∈c.links,y3q x.ds x.xs\/40<x.rs.length
noncomputable instance(c:Ch)(n:Nat):Decidable (JJq c n):=Classical.propDecidable _
theorem Kyq(c:Ch)(n:Nat)(hb:c.tree.nodes.length<=4611686018427387903)(hl:c.links.length<=4611686018427387903):PS cfg G 9 [chG c,.int .i64 (n:Int)] (.bool (decide (JJq c n))):=by
 by_cases hg:JKq c.tree 900
 ·skip
  exact gI 11 O (λR k0=>gC 0 O (zEq (w':=.bool true) (great_s c.tree 900 hb Xd) (by rw[decide_eq_true (hg)])) (gQ 17 O (dec_t (.inl hg))))
 refine gI 11 O (λR k0=>gC 0 O (zEq (w':=.bool false) (great_s c.tree 900 hb Xd) (by rw[decide_eq_false (hg)])) (gZ 3 O LMq (gU 1 O ?_)));refine gS 3 O (λh1=>?_) (λh1=>?_)
 ·exact gQ 7 O (dec_t (.inr (.inl Xd)))
 refine gLo (α:=Nat) 9 (λi=>i<=c.links.length/\∀j x,j<i->c.links[j]? =some x->¬(y3q x.ds x.xs\/40<x.rs.length)) (λi=>[(5,.int .i64 (i:Int))]) [2,4] (λi=>c.links.length-i) (0) rfl (⟨Nat.zero_le _,λj x h=>by omega⟩) (λi hI=>?_);obtain⟨g1,g2⟩:=hI;refine gZ 6 O LMq ?_;refine gS 3 O (λh2=>?_) (λh2=>?_)
 ·have hi:i<c.links.length:=by omega
  obtain⟨x,hx⟩:∃x,c.links[i]? =some x:=⟨_,List.getElem?_eq_getElem hi⟩
  refine gP 9 O (zvq (i:=i) O O O O O O O (zsq lkG hx)) (gC 2 O (Qaq x.ds x.xs false false) ?_);refine gB 0 O (λh3=>?_) (λh3=>?_)
  ·exact gO 21 O (gQ 2 O (dec_t (.inr (.inr ⟨x,List.mem_of_getElem? hx,.inl h3⟩))))
  ·refine gP 4 O (zvq (i:=i) O O O O O O O (zsq lkG hx)) (gZ 2 O LMq (gU 0 O ?_));refine gS 3 O (λh4=>?_) (λh4=>?_)
   ·exact gO 8 O (gQ 2 O (dec_t (.inr (.inr ⟨x,List.mem_of_getElem? hx,.inr Xd⟩))))
   ·exact gA 5 O (i+1) (gAg 2 O (i+1) (⟨hi,λj y hj hy=>by rcases Nat.lt_succ_iff_lt_or_eq.1 hj with q|rfl;exact g2 j y q hy;exact Option.some.inj (hx.symm.trans hy)▸λq=>q.elim h3 Xd⟩) Xd)
 ·have no:¬JJq c n:=by
   rintro(q|q|⟨x,hx,q⟩)
   ·exact hg q
   ·omega
   ·obtain⟨j,hj⟩:=List.getElem?_of_mem hx;exact g2 j x (by have:=jJq hj;omega) hj q
  exact gO 2 O (gQ 8 O (jGq no))
theorem greatc_no{c:Ch}{n:Nat}(h:¬JJq c n):c.tree.nodes.length<=900/\c.links.length<=n/\∀x∈c.links,¬y3q x.ds x.xs/\x.rs.length<=40:=
 ⟨Nat.le_of_not_lt λq=>h (.inl (.inl q)),Nat.le_of_not_lt λq=>h (.inr (.inl q)),λx hx=>⟨λq=>h (.inr (.inr ⟨x,hx,.inl q⟩)),Nat.le_of_not_lt λq=>h (.inr (.inr ⟨x,hx,.inr q⟩))⟩⟩
end
theorem p32:(4294967296:Nat)=2^32:=by decide
noncomputable def fz{α:Type}(n:Nat)(c:Nat->α):α:=Nat.rec (c 0) (λm _=>c (Nat.succ m)) n
structure S8.Ok(s:S8):Prop where
 a:s.a<4294967296
 b:s.b<4294967296
 c:s.c<4294967296
 d:s.d<4294967296
 e:s.e<4294967296
 f:s.f<4294967296
 g:s.g<4294967296
 h:s.h<4294967296
theorem u0q(a b:Nat):addN a b<4294967296:=Nat.mod_lt _ Xm
theorem rnd_ok{s:S8}(h:s.Ok)(k w:Nat):(roundN k w s).Ok:=⟨u0q _ _,h.a,h.b,h.c,u0q _ _,h.e,h.f,h.g⟩
noncomputable def wS(bs:Nat->Nat)(i:Nat):Nat:=(yrq bs (i+1)).getD i 0
theorem rounds_ok{s:S8}(h:s.Ok)(ws:List Nat):∀t,(ugq ws s t).Ok
 |0=>h
 |t+1=>rnd_ok (rounds_ok h ws t) _ _
theorem word_eq{b0 b1 b2 b3:Nat}(h0:b0<256)(h1:b1<256)(h2:b2<256)(h3:b3<256):wordN b0 b1 b2 b3=Nat.lor (Nat.lor (Nat.lor (Nat.shiftLeft b0 24) (Nat.shiftLeft b1 16)) (Nat.shiftLeft b2 8)) b3:=by
 have s:∀b n,b<256->n<=24->Nat.shiftLeft b n<4294967296:=λb n hb hn=>by
  show b<<<n<4294967296;rw[Nat.shiftLeft_eq];have:2^n<=2^24:=Nat.pow_le_pow_right Xm hn;have:=Nat.mul_le_mul (show b<=255 by omega) this;omega
 have e:∀b n,b<256->n<=24->shlN (b%4294967296) n=Nat.shiftLeft b n:=λb n hb hn=>by
  unfold shlN;rw[Nat.min_eq_left Xd,Nat.mod_eq_of_lt (show b<4294967296 by omega),Nat.mod_eq_of_lt (s b n hb hn)]
 have o:∀a b,a<4294967296->b<4294967296->orN a b=Nat.lor a b:=λa b ha hb=>by
  unfold orN;rw[Nat.mod_eq_of_lt ha,Nat.mod_eq_of_lt hb]
 have ol:∀a b,a<4294967296->b<4294967296->Nat.lor a b<4294967296:=λa b ha hb=>by
  rw[p32] at*
  exact Nat.or_lt_two_pow ha hb
 unfold wordN;rw[e b0 24 h0 Xm,e b1 16 h1 Xm,e b2 8 h2 Xm,Nat.mod_eq_of_lt (show b3<4294967296 by omega)];rw[o _ _ (s b0 24 h0 Xm) (s b1 16 h1 Xm),o _ _ (ol _ _ (s b0 24 h0 Xm) (s b1 16 h1 Xm)) (s b2 8 h2 Xm),o _ _ (ol _ _ (ol _ _ (s b0 24 h0 Xm) (s b1 16 h1 Xm)) (s b2 8 h2 Xm)) Xd]
noncomputable def small(l:List Nat):Prop:=∀b∈l,b<256
theorem small_at{l:List Nat}(h:small l)(i:Nat):atL l i<256:=by
 unfold atL;rw[List.getD_eq_getElem?_getD];cases hq:l[i]? with
 |none=>show(0:Nat)<256;decide
 |some b=>exact h b (List.mem_of_getElem? hq)
theorem block_ok(s:S8)(bs:Nat->Nat):(jMq bs s).Ok:=⟨u0q _ _,u0q _ _,u0q _ _,u0q _ _,u0q _ _,u0q _ _,u0q _ _,u0q _ _⟩
theorem pad_eq:∀(n:Nat) (r:List Nat),(120-r.length%64)%64<=n->padZ n r=r++List.replicate ((120-r.length%64)%64) 0
 |0,r,h=>by
  rw[Nat.le_zero.1 h];simp[padZ]
 |n+1,r,h=>by
  unfold padZ;cases hb:Nat.beq (r.length%64) 56 with
  |true=>
   have:=Nat.eq_of_beq_eq_true hb;rw[this];simp
  |false=>
   have hne:r.length%64≠56:=λe=>by rw[e] at hb;cases hb
   show padZ n (r++[0])=_;have hl:(r++[0]).length=r.length+1:=by simp
   rw[pad_eq n (r++[0]) (by rw[hl];omega),hl,List.append_assoc];have:(120-r.length%64)%64=(120-(r.length+1)%64)%64+1:=by omega
   rw[this];rfl
section
attribute [local irreducible] CoW OpW FlW Step Spec
variable {G:Nat->Option W}
noncomputable def rotT(x n:Nat):Nat:=orN (shrN x n) (shlN x (32-n))
theorem rotT_eq{x n:Nat}(hn:n<=32):rotT x n=rotN x n:=by
 unfold rotT rotN orN shrN shlN;rw[Nat.min_eq_left hn,Nat.min_eq_left (Nat.sub_le _ _)];exact Nat.or_comm _ _
theorem jaq(n:Nat)(hn:n=2\/n=6\/n=7\/n=11\/n=13\/n=17\/n=18\/n=19\/n=22\/n=25)(x:Nat):PS cfg G 362 [wd x,wd n] (wd (rotN x n)):=by
 have key:∀h,qTq cfg 20 362 [.int .u32 (.ofNat x),.int .u32 (.ofNat n)] h=some (.int .u32 (.ofNat (rotT x n)),h):=by
  intro h;rcases hn with rfl|rfl|rfl|rfl|rfl|rfl|rfl|rfl|rfl|rfl<;>kernel_rfl
 have e:rotT x n=rotN x n:=rotT_eq Xd;rw[e] at key;refine xeq (spec_run key (λΓ us h=>?_) (λΓ=>RV_int.2 rfl)) λw hp nw h=>h.1
 obtain⟨v,vs,rfl,h1,h2⟩:=RVL_cons.1 h;obtain⟨v',vs',rfl,h3,h4⟩:=RVL_cons.1 h2;rw[RVL_nil.1 h4,RV_int.1 h1,RV_int.1 h3]
theorem sub_not{e:Nat}(he:e<4294967296):4294967295-e=notN e:=by
 unfold notN;rw[Nat.mod_eq_of_lt he];have h:=BitVec.toNat_not (x:=BitVec.ofNat 32 e);rw[<-BitVec.allOnes_xor] at h;simp only[BitVec.toNat_xor,BitVec.toNat_allOnes,BitVec.toNat_ofNat] at h;rw[Nat.mod_eq_of_lt (show e<2^32 from he)] at h;exact h.symm
theorem wrap_not{e:Nat}(he:e<4294967296):W.int .u32 (jNq .u32 ((4294967295:Int) -Int.ofNat e))=wd (notN e):=by
 rw[<-sub_not he]
 have:(4294967295:Int) -Int.ofNat e=((4294967295-e:Nat):Int):=by
  show(4294967295:Int) -(e:Int)=_;omega
 rw[this];show W.int .u32 (((4294967295-e)%4294967296:Nat):Int)=W.int .u32 ((4294967295-e:Nat):Int);rw[Nat.mod_eq_of_lt Xd]
theorem rround_s(v:S8)(hv:v.Ok)(k w:Nat):PS cfg G 351 [.arr 8 1 v.l,wd k,wd w] (.arr 8 1 (roundN k w v).l):=by
 refine gI 8 O (λR k0=>?_);refine gX 0 O ?_;refine gX 1 O ?_;refine gX 1 O ?_;refine gX 1 O ?_;refine gX 1 O ?_;refine gX 1 O ?_;refine gX 1 O ?_;refine gX 1 O ?_;refine gC 15 O (jaq _ Xh _) ?_;refine gC 1 O (jaq _ Xh _) ?_;refine gC 2 O (jaq _ Xh _) ?_;refine gV (w':=wd (notN v.e)) 6 O (wrap_not hv.e) ?_;refine gC 14 O (jaq _ Xh _) ?_;refine gC 1 O (jaq _ Xh _) ?_;refine gC 2 O (jaq _ Xh _) ?_;exact gQa 35 O
theorem words_s:PS cfg G 349 [] (.arr 64 1 (kW.map wd)):=by
 exact gI 12 O (λR k0=>gQa 0 O)
noncomputable def horn(bs:Nat->Nat)(t:Nat):Nat->Nat
 |0=>0
 |i+1=>addN (256*horn bs t i%4294967296) (bs (4*t+i))
theorem horn_word{bs:Nat->Nat}(hb:∀i,bs i<256)(t:Nat):horn bs t 4=wordN (bs (4*t)) (bs (4*t+1)) (bs (4*t+2)) (bs (4*t+3)):=by
 have h0:=hb (4*t);have h1:=hb (4*t+1);have h2:=hb (4*t+2);have h3:=hb (4*t+3);rw[word_eq h0 h1 h2 h3];have e1:=Nat.shiftLeft_add_eq_or_of_lt (i:=8) (b:=bs (4*t+1)) Xd (bs (4*t));have s:∀a i:Nat,Nat.shiftLeft a i=a*2^i:=λa i=>Nat.shiftLeft_eq a i
 have o1:Nat.lor (Nat.shiftLeft (bs (4*t)) 24) (Nat.shiftLeft (bs (4*t+1)) 16)=bs (4*t)*16777216+bs (4*t+1)*65536:=by
  have:=Nat.shiftLeft_add_eq_or_of_lt (i:=24) (b:=bs (4*t+1)*65536) Xd (bs (4*t));rw[Nat.shiftLeft_eq] at this;rw[s (bs (4*t+1)) 16];show bs (4*t)<<<24|||(bs (4*t+1)*2^16)=_
  rw[Nat.shiftLeft_eq];exact this.symm
 have o2:Nat.lor (bs (4*t)*16777216+bs (4*t+1)*65536) (Nat.shiftLeft (bs (4*t+2)) 8)=bs (4*t)*16777216+bs (4*t+1)*65536+bs (4*t+2)*256:=by
  have q:bs (4*t)*16777216+bs (4*t+1)*65536=(bs (4*t)*256+bs (4*t+1))*65536:=by rw[Nat.add_mul,Nat.mul_assoc]
  have:=Nat.shiftLeft_add_eq_or_of_lt (i:=16) (b:=bs (4*t+2)*256) Xd (bs (4*t)*256+bs (4*t+1));rw[Nat.shiftLeft_eq,show(2:Nat)^16=65536 from rfl] at this;rw[s];show(bs (4*t)*16777216+bs (4*t+1)*65536)|||(bs (4*t+2)*256)=_
  rw[q];exact this.symm
 have o3:Nat.lor (bs (4*t)*16777216+bs (4*t+1)*65536+bs (4*t+2)*256) (bs (4*t+3))=bs (4*t)*16777216+bs (4*t+1)*65536+bs (4*t+2)*256+bs (4*t+3):=by
  have q:bs (4*t)*16777216+bs (4*t+1)*65536+bs (4*t+2)*256=(bs (4*t)*65536+bs (4*t+1)*256+bs (4*t+2))*256:=by rw[Nat.add_mul,Nat.add_mul,Nat.mul_assoc,Nat.mul_assoc]
  have:=Nat.shiftLeft_add_eq_or_of_lt (i:=8) (b:=bs (4*t+3)) Xd (bs (4*t)*65536+bs (4*t+1)*256+bs (4*t+2));rw[Nat.shiftLeft_eq,show(2:Nat)^8=256 from rfl] at this;show(bs (4*t)*16777216+bs (4*t+1)*65536+bs (4*t+2)*256)|||bs (4*t+3)=_
  rw[q];exact this.symm
 rw[o1,o2,o3];simp only[horn,addN];rw[show 4*t+0=4*t from rfl];omega
noncomputable def bsL(l:List UInt8):Nat->Nat:=atL (l.map UInt8.toNat)
theorem bsL_lt(l:List UInt8)(i:Nat):bsL l i<256:=small_at (λb hb=>by obtain⟨c,_,rfl⟩:=List.mem_map.1 hb;exact c.toNat_lt) i
theorem bsL_at{l:List UInt8}{i:Nat}(h:i<l.length):(zaq l)[i]? =some (.int .u8 ((bsL l i:Nat):Int)):=by
 unfold zaq bsL atL;rw[List.getElem?_map,List.getElem?_eq_getElem h];simp[List.getD,List.getElem?_eq_getElem h]
theorem pad0_snoc{L:List Nat}{n:Nat}(h:L.length<n):pad0 (L++[0]) n=pad0 L n:=by
 unfold pad0;rw[show n-L.length=(n-(L++[0]).length)+1 by simp;omega,List.replicate_succ,List.append_assoc];rfl
theorem pad0_last{L:List Nat}{n x:Nat}(h:L.length<n):((pad0 (L++[x]) n).map wd)[L.length]? =some (wd x):=by
 rw[pad0_at Xh];simp[List.getD]
theorem pad0_turn{L:List Nat}{n x y:Nat}(h:L.length<n):((pad0 (L++[x]) n).map wd).set L.length (wd y)=(pad0 (L++[y]) n).map wd:=by
 rw[<-List.map_set];congr 1
 unfold pad0;rw[show(L++[x]).length=(L++[y]).length by simp,List.append_assoc,List.append_assoc,List.set_append_right _ _ (Nat.le_refl _),Nat.sub_self];rfl
noncomputable def schH(L:List Nat):HpW:=[(1,459,.arr 64 1 ((pad0 L 64).map wd)),(0,459,.arr 64 1 (List.replicate 64 (wd 0)))]
theorem sched_s(l:List UInt8)(f:Bool)(hl:l.length=64):PS cfg G 350 [.fz (zaq l) 1 f] (.arr 64 1 ((yrq (bsL l) 64).map wd)):=by
 obtain⟨bs,eb⟩:∃bs,bsL l=bs:=⟨_,rfl⟩
 have hb:∀i,bs i<256:=λi=>by rw[<-eb];exact bsL_lt l i
 have hat:∀i,i<64->(zaq l)[i]? =some (.int .u8 ((bs i:Nat):Int)):=λi hi=>by rw[<-eb];exact bsL_at Xd
 rw[eb];refine gI 17 O (λR k0=>?_);refine qjq (α:=Nat) (λt=>t<=16) (λt=>[(4,.int .i64 (t:Int))]) [(0,_),(2,_),(3,_)] (λt=>schH (yrq bs t)) (λt=>16-t) (0) ⟨rfl,rfl,rfl,trivial⟩ (Nat.zero_le _) ⟨rfl,trivial⟩ (rfl) (λt hI=>?_);have hsl:=udq bs t;refine zQq 7 O ?_;refine gS 0 O (λh1=>?_) (λh1=>?_)
 ·have ht:t<16:=by omega
  refine zfq 10 O ?_;refine qjq (α:=Nat) (λi=>i<=4) (λi=>[(5,.int .i64 (i:Int))]) [(0,_),(2,_),(3,_),(4,_),(9,_),(10,_)] (λi=>schH (yrq bs t++[horn bs t i])) (λi=>4-i) (0) ⟨rfl,rfl,rfl,rfl,rfl,rfl,trivial⟩ (Nat.zero_le _) ⟨rfl,trivial⟩ (by show schH (yrq bs t)=schH (yrq bs t++[0]);unfold schH;rw[pad0_snoc Xd]) (λi hI=>?_);have hc:=hb (4*t+i);have hL:((pad0 (yrq bs t++[horn bs t i]) 64).map wd)[0+t*1]? =some (wd (horn bs t i)):=by have:=pad0_last (L:=yrq bs t) (n:=64) (x:=horn bs t i) Xd;rw[hsl] at this;rw[Nat.zero_add,Nat.mul_one];exact this
  refine zQq 7 O ?_;refine gS 0 O (λh2=>?_) (λh2=>?_)
  ·have hi:i<4:=by omega
   have hset:((pad0 (yrq bs t++[horn bs t i]) 64).map wd).set (0+t*1) (wd (horn bs t (i+1)))=(pad0 (yrq bs t++[horn bs t (i+1)]) 64).map wd:=by have:=pad0_turn (L:=yrq bs t) (n:=64) (x:=horn bs t i) (y:=horn bs t (i+1)) Xd;rw[hsl] at this;rw[Nat.zero_add,Nat.mul_one];exact this
   refine gP 7 O (zMq (i:=t) O O O O O O Xd) (gM 0 O (z1q O O O (y2q hL rfl)) (gV (w':=wd (256*horn bs t i%4294967296)) 0 O O (gA 2 O (4*t) (gA 1 O (4*t+i) (gP 0 O (zvq (i:=4*t+i) O O O O O O O (hat _ Xd)) (gA 1 O (bs (4*t+i)) (gV (w':=wd (horn bs t (i+1))) 0 O O (gP 0 O (zMq (i:=t) O O O O O O Xd) (gM 0 O (qsq O O O O O (qNq hL O O) rfl) (gA 5 O (i+1) (zfq 2 O ?_)))))))))));skip
   exact jwq (i+1) hi Xd ⟨rfl,trivial⟩ ⟨rfl,rfl,rfl,rfl,rfl,rfl,trivial⟩ Qd
  ·have hi:i=4:=by omega
   subst hi
   have hnx:yrq bs (t+1)=yrq bs t++[horn bs t 4]:=by
    rw[horn_word hb];show yrq bs t++[ukq bs (yrq bs t)]=_;unfold ukq;rw[hsl,show Nat.blt t 16=true from Nat.ble_eq_true_of_le ht]
   refine zfq 2 O (yNq Xi (zJq 5 O (gA 0 O (t+1) (zfq 2 O ?_))));skip
   exact jwq (t+1) ht Xd ⟨rfl,trivial⟩ ⟨rfl,rfl,rfl,trivial⟩ (by rw[hnx])
 ·have ht:t=16:=by omega
  subst ht;refine zfq 2 O (yNq Xi (zJq 9 O ?_));refine qjq (α:=Nat) (λu=>16<=u/\u<=64) (λu=>[(6,.int .i64 (u:Int))]) [(2,_),(3,_)] (λu=>schH (yrq bs u)) (λu=>64-u) (16) ⟨rfl,rfl,trivial⟩ (Jo) ⟨rfl,trivial⟩ (rfl) (λu hI=>?_);obtain⟨g1,g2⟩:=hI;have hsu:=udq bs u;refine zQq 7 O ?_;refine gS 0 O (λh2=>?_) (λh2=>?_)
  ·have hu:u<64:=by omega
   obtain⟨L,eL⟩:∃L,yrq bs u=L:=⟨_,rfl⟩
   rw[eL] at hsu⊢;have hat2:∀i,i<u->((pad0 L 64).map wd)[0+i*1]? =some (wd (L.getD i 0)):=λi hi=>by rw[Nat.zero_add,Nat.mul_one];exact pad0_at Xd
   have hge:((pad0 L 64).map wd)[0+u*1]? =some (wd 0):=by have:=pad0_ge (l:=L) (n:=64) Xd;rw[hsu] at this;rw[Nat.zero_add,Nat.mul_one];exact this
   have hnx:ukq bs L=addN (addN (addN (L.getD (u-16) 0) (xorN (xorN (rotN (L.getD (u-15) 0) 7) (rotN (L.getD (u-15) 0) 18)) (shrN (L.getD (u-15) 0) 3))) (L.getD (u-7) 0)) (xorN (xorN (rotN (L.getD (u-2) 0) 17) (rotN (L.getD (u-2) 0) 19)) (shrN (L.getD (u-2) 0) 10)):=by
    have hbl:Nat.blt u 16=false:=by
     cases hq:Nat.blt u 16 with
     |false=>rfl
     |true=>have:=Ob hq;omega
    unfold ukq;rw[hsu,hbl]
   have hset:((pad0 L 64).map wd).set (0+u*1) (wd (ukq bs L))=(pad0 (yrq bs (u+1)) 64).map wd:=by
    have:=pad0_set (l:=L) (n:=64) (x:=ukq bs L) Xd;rw[hsu] at this;rw[Nat.zero_add,Nat.mul_one,this];show _=(pad0 (yrq bs u++[ukq bs (yrq bs u)]) 64).map wd;rw[eL]
   refine gA 7 O (u-15) (gP 0 O (zMq (i:=u-15) O O O O O O Xd) (gM 0 O (z1q O O O (y2q (hat2 (u-15) Xd) rfl)) (gA 1 O (u-2) (gP 0 O (zMq (i:=u-2) O O O O O O Xd) (gM 0 O (z1q O O O (y2q (hat2 (u-2) Xd) rfl)) (gA 7 O (u-16) (gP 0 O (zMq (i:=u-16) O O O O O O Xd) (gM 0 O (z1q O O O (y2q (hat2 (u-16) Xd) rfl)) (gC 1 O (jaq _ Xh _) (gC 1 O (jaq _ Xh _) (gA 6 O (u-7) (gP 0 O (zMq (i:=u-7) O O O O O O Xd) (gM 0 O (z1q O O O (y2q (hat2 (u-7) Xd) rfl)) (gC 2 O (jaq _ Xh _) (gC 1 O (jaq _ Xh _) (gV (w':=wd (ukq bs L)) 4 O (by rw[hnx];rfl) (gP 0 O (zMq (i:=u) O O O O O O Xd) (gM 0 O (qsq O O O O O (qNq hge O O) rfl) (gA 5 O (u+1) (zfq 2 O ?_))))))))))))))))))));skip
   exact jwq (u+1) ⟨by omega,hu⟩ Xd ⟨rfl,trivial⟩ ⟨rfl,rfl,trivial⟩ Qd
  ·have hu:u=64:=by omega
   subst hu;refine zfq 2 O (yNq Xi (zJq 9 O ?_));have ep:pad0 (yrq bs 64) 64=yrq bs 64:=by unfold pad0;rw[hsu];simp
   exact gQ 0 O (by rw[ep])
theorem rnumber_s(l:List UInt8)(f:Bool)(hl:l.length<=8):PS cfg G 332 [.fz (zaq l) 1 f] (.int .u64 (numB l:Nat)):=by
 have e:=zeq l;refine gI 17 O (λR k0=>?_);refine gLo (α:=Nat) 0 (λi=>i<=l.length) (λi=>[(4,.int .i64 (i:Int)),(3,.int .u64 (numB (l.take i):Nat))]) [0,2] (λi=>l.length-i) (0) rfl (Nat.zero_le _) (λi hI=>?_);refine gV (w':=.int .i64 (l.length:Int)) 5 O Xv ?_;refine gS 3 O (λh1=>?_) (λh1=>?_)
 ·have hi:i<l.length:=by omega
  obtain⟨c,hc⟩:∃c,l[i]? =some c:=⟨_,List.getElem?_eq_getElem hi⟩
  have hcl:=c.toNat_lt;have hn:=ZYq (l:=l) (i:=i) Xd;have ht:=numB_take hc
  have hlt:numB (l.take (i+1))<18446744073709551616:=by
   have h1:=Y5q (l.take (i+1));have h2:256^(l.take (i+1)).length<=256^(i+1):=Nat.pow_le_pow_right Xd Xq;have h3:=pow256_le (i:=i+1) Xd;omega
  exact gA 6 O (256*numB (l.take i)) (gP 2 O (zvq (i:=i) O O O O O O O (Zdq hc)) (gA 1 O (c.toNat) (gA 0 O (numB (l.take (i+1))) (e:=(by rw[ht];omega)) (gA 6 O (i+1) (gAg 2 O (i+1) (hi) Xd)))))
 ·have hi:i=l.length:=by omega
  subst hi;rw[List.take_length];exact gO 2 O (gQa 9 O)
theorem yTq(n size:Nat)(hn:n<18446744073709551616)(hs8:size<=8):yYq cfg G 287 0 [.int .u64 (n:Int),.int .i64 (size:Int)] [] λw hp nw=>
  w= .tup [.sl 0 0 0 size 1 none,.bool (decide (n/256^size=0))]/\hp=[(0,5,.arr (size*1) 1 (zaq (beB size n)))]/\nw=1:=by
 intro R;refine gIs 9 O (λk0=>?_);refine gM 0 O (Krq (l:=size) (c:=size) O O O O O O O O (Nat.le_refl _) (by show 1*size<=_;omega) Xd O O) (zfq 7 O (op_z ((size:Int) -1-((0:Nat):Int)) O O Xd Jo (ziq 4 O ?_)));refine qjq (α:=Nat×Nat) (λp=>p.1<=size/\p.2=n/256^p.1) (λp=>[(7,.int .i64 ((size:Int) -1-(p.1:Int))),(0,.int .u64 (p.2:Nat))]) [(4,_),(5,_),(6,_)] (λp=>[(0,5,.arr (size*1) 1 (zaq (List.replicate (size-p.1) 0++beB p.1 n)))]) (λp=>size-p.1) ((0,n)) ⟨rfl,rfl,rfl,trivial⟩ (⟨Nat.zero_le _,by simp⟩) ⟨rfl,rfl,trivial⟩ (by simp only[be_zero];rfl) (λp hI=>?_);obtain⟨i,q⟩:=p;obtain⟨g1,g2⟩:=hI;simp only at g1 g2⊢;have hlt:q<18446744073709551616:=by rw[g2];exact Nat.lt_of_le_of_lt (Nat.div_le_self _ _) hn
 refine zQq 7 O ?_;refine gS 0 O (λh1=>?_) (λh1=>?_)
 ·have hi:i<size:=by omega
  have hq:q/256=n/256^(i+1):=by rw[g2,Nat.div_div_eq_div_mul,<-Nat.pow_succ]
  have hset:=be_set n size i hi;rw[<-g2] at hset;exact gV (w':=.int .i64 ((size-1-i:Nat):Int)) 7 O (by congr 1;omega) (gV (w':=.int .u64 ((q%256:Nat):Int)) 1 O (congrArg (W.int .u64) (xsq q 256)) (gA 0 O (q%256) (gP 0 O (ynq (i:=size-1-i) O O O O O O O Xd) (gM 0 O (qsq O O O O O (qNq (be_at n size i hi) O O) (congrArg (λL=>[(0,5,W.arr (size*1) 1 L)]) hset)) (gA 4 O (q/256) (e:=(kUq q 256)) (zfq 6 O (op_z ((size:Int) -1-((i+1:Nat):Int)) O O Xd Jo (run_p 2 O (jwq ((i+1,q/256)) (⟨hi,hq⟩) Ye ⟨rfl,rfl,trivial⟩ ⟨rfl,rfl,rfl,trivial⟩ rfl)))))))))
 ·have hi:i=size:=by omega
  subst hi;refine zfq 2 O (yNq Xi (zJq 6 O (gV (w':=.bool (decide (n/256^i=0))) 0 O (congrArg W.bool (by rw[Bool.eq_iff_iff,eqI_iff,decide_eq_true_iff,<-g2];omega)) (zfq 5 O ?_))));refine fin Jp Ent.refl rfl ⟨rfl,rfl,?_,rfl⟩;rw[Nat.sub_self];rfl
theorem rabytes_s(a:Acct)(h:a.ok):PS cfg G 355 [aW a] (bW (qQq a)):=by
 have h1:a.nonce<18446744073709551616:=h.1;have h2:a.balance<18446744073709551616:=h.2;refine ps_in (fn:=Tryz.f355) O O O (Ob rfl) (λR k0=>?_);have l1:(zaq (beB 8 a.nonce)).length=8:=by rw[zeq,ylq]
 have l2:(zaq (beB 8 a.balance)).length=8:=by rw[zeq,ylq]
 refine zQq 10 O ?_
 ((refine zlq rfl (yCq O O O O O O (yTq _ 8 Xr Xd) ?_);rintro w hp1 nw1 ⟨rfl,rfl,rfl⟩))
 refine ziq 11 O ?_
 ((refine zlq rfl (yCq O O O O O O (yTq _ 8 Xr Xd) ?_);rintro w hp1 nw1 ⟨rfl,rfl,rfl⟩))
 refine ziq 11 O (gM 0 O (zRq O O (yXq (k:=ti5) (len:=8) (news:=zaq (beB 8 a.balance)) (olds:=zaq (beB 8 a.nonce)) O O O O (zPq O O O (kxq (n:=8) (m:=8) l2.symm rfl)) (by intro h;rw[h] at l2;simp at l2) Qh Qh rfl (by show 8*1<0+(8+(zaq (beB 8 a.balance)).length)*1;rw[l2];omega) rfl (kxq (n:=8) (m:=8) l1.symm rfl))) (zfq 4 O ?_));refine qHq (fr2:=[(2,bW (qQq a))]) Jp ⟨⟨_,rfl,.sl (xs:=zaq (qQq a)) rfl Xh ?_ Xi⟩,trivial⟩ O O;rw[qQq,yPq,l2];exact kxq (n:=16) (by rw[List.length_append,l1,l2]) rfl
theorem raread_s(l:List UInt8)(f:Bool):PS cfg G 277 [.fz (zaq l) 1 f] (.tup [aW (qGq l).1,.int .i64 ((qGq l).2:Nat)]):=by
 have e:=zeq l;refine gIv 10 O (λR k0=>gV (w':=.int .i64 (l.length:Int)) 0 O Xv ?_);refine gS 3 O (λh1=>?_) (λh1=>?_)
 ·have q:qGq l=(.zero,10):=by unfold qGq;rw[if_pos Xd]
  rw[q];refine zfq 9 O (jfq Xt O ?_)
  (repeat (first|exact .nil|refine .cons ?_ ?_|exact qrq|exact .nilfz|refine .fn ?_ ?_|(refine yLq O ?_ rfl;(first|rfl|(focus (simp;done))))|(refine .sl O ?_ rfl Xi;(first|rfl|(focus (simp;done))))|(refine .pur ?_;(first|rfl|(focus (simp;done))))|(refine .fzw ?_;(first|rfl|(focus (simp;done))))|refine .agg ?_|refine .arr ?_|refine .tup ?_))
 refine gV (w':=.int .i64 (l.length:Int)) 6 O Xv ?_;refine gS 3 O (λh2=>?_) (λh2=>?_)
 ·have q:qGq l=(.zero,11):=by unfold qGq;rw[if_neg Xd,if_pos Xd]
  rw[q];refine zfq 9 O (jfq Xt O ?_)
  (repeat (first|exact .nil|refine .cons ?_ ?_|exact qrq|exact .nilfz|refine .fn ?_ ?_|(refine yLq O ?_ rfl;(first|rfl|(focus (simp;done))))|(refine .sl O ?_ rfl Xi;(first|rfl|(focus (simp;done))))|(refine .pur ?_;(first|rfl|(focus (simp;done))))|(refine .fzw ?_;(first|rfl|(focus (simp;done))))|refine .agg ?_|refine .arr ?_|refine .tup ?_))
 have hl:l.length=16:=by omega
 have q:qGq l=if (⟨numB (l.take 8),numB (l.drop 8)⟩:Acct)= .zero then(.zero,8) else(⟨numB (l.take 8),numB (l.drop 8)⟩,0):=by unfold qGq;rw[if_neg Xd,if_neg Xd]
 rw[q];refine gP 5 O (x5q (ys:=zaq (l.take 8)) (l:=0) (h:=8) O O O O O O O Xd Xd (by rw[List.drop_zero,QGq]) rfl) (gC 0 O (rnumber_s _ _ Xq) (gP 1 O (x5q (ys:=zaq (l.drop 8)) (l:=8) (h:=(zaq l).length) O O O O O O O Xd (Nat.le_refl _) (by rw[List.take_of_length_le Xh,QHq]) rfl) (gC 0 O (rnumber_s _ _ Xq) ?_)));refine gD 10 O (λh3=>?_) (λh3=>?_)
 ·have z1:numB (l.take 8)=0:=by omega
  refine gU 3 O ?_;refine gS 3 O (λh4=>?_) (λh4=>?_)
  ·have z2:numB (l.drop 8)=0:=by omega
   rw[if_pos (by rw[z1,z2];rfl)];refine zfq 9 O (jfq Xt O ?_)
   (repeat (first|exact .nil|refine .cons ?_ ?_|exact qrq|exact .nilfz|refine .fn ?_ ?_|(refine yLq O ?_ rfl;(first|rfl|(focus (simp;done))))|(refine .sl O ?_ rfl Xi;(first|rfl|(focus (simp;done))))|(refine .pur ?_;(first|rfl|(focus (simp;done))))|(refine .fzw ?_;(first|rfl|(focus (simp;done))))|refine .agg ?_|refine .arr ?_|refine .tup ?_))
  ·have z2:¬numB (l.drop 8)=0:=by omega
   rw[if_neg λh=>z2 (by injection h)];refine zfq 10 O (jfq Xt O ?_)
   (repeat (first|exact .nil|refine .cons ?_ ?_|exact qrq|exact .nilfz|refine .fn ?_ ?_|(refine yLq O ?_ rfl;(first|rfl|(focus (simp;done))))|(refine .sl O ?_ rfl Xi;(first|rfl|(focus (simp;done))))|(refine .pur ?_;(first|rfl|(focus (simp;done))))|(refine .fzw ?_;(first|rfl|(focus (simp;done))))|refine .agg ?_|refine .arr ?_|refine .tup ?_))
 ·have z1:¬numB (l.take 8)=0:=by omega
  rw[if_neg λh=>z1 (by injection h)];refine zfq 18 O (jfq Xt O ?_)
  (repeat (first|exact .nil|refine .cons ?_ ?_|exact qrq|exact .nilfz|refine .fn ?_ ?_|(refine yLq O ?_ rfl;(first|rfl|(focus (simp;done))))|(refine .sl O ?_ rfl Xi;(first|rfl|(focus (simp;done))))|(refine .pur ?_;(first|rfl|(focus (simp;done))))|(refine .fzw ?_;(first|rfl|(focus (simp;done))))|refine .agg ?_|refine .arr ?_|refine .tup ?_))
def padJ(l:List UInt8)(j:Nat):List UInt8:=l++[128]++List.replicate j 0
theorem vPq(l:List UInt8)(j:Nat):(padJ l j).length=l.length+1+j:=by simp[padJ];omega
theorem padJ_next(l:List UInt8)(j:Nat):zaq (padJ l (j+1))=zaq (padJ l j)++zaq [0]:=by
 rw[<-yPq];congr 1
 unfold padJ;rw[List.append_assoc (l++[128]),<-List.replicate_succ']
noncomputable def padH(l:List UInt8)(j:Nat):HpW:=[(0,5,.arr (padJ l j).length 1 (zaq (padJ l j)))]
def padR(l:List UInt8):List UInt8:=padJ l ((119-l.length%64)%64)++beB 8 (8*l.length)
theorem padded_s(l:List UInt8)(f:Bool)(hl:l.length<2147483648):PS cfg G 348 [.fz (zaq l) 1 f] (bW (padR l)):=by
 have el:(zaq l).length=l.length:=zeq l;refine gIv 14 O (λR k0=>?_);refine qOq (λ_=>jLq (fr2:=[(0,.fz (zaq l) 1 f),(2,.nils),(7,gW 0 1 []),(8,.fz (zaq l) 1 f)]) ⟨rfl,rfl,rfl,rfl,trivial⟩) ?_;refine Zzq (b:=0) (xs:=[]) (news:=zaq l) (k:=ti5) (H0:=[]) [] [(0,.fz (zaq l) 1 f),(2,.nils)] O O O O O O O O O O O (by show(0+(zaq l).length)*1<=_;omega) (by show 0+(zaq l).length<=_;omega) rfl Xh Xd Xd ⟨rfl,rfl,trivial⟩ rfl ⟨zcq (show purW (.fz (zaq l) 1 f)=true from yOq l),rfl,trivial⟩ Xh trivial Xh ?_
 refine ziq 7 O ?_;refine Zzq (b:=0) (xs:=zaq l) (news:=zaq [128]) (k:=ti5) (H0:=[]) [_] [(0,.fz (zaq l) 1 f),(2,.nils)] O O O O O O O O O O (zPq O O O O) (by show((zaq l).length+1)*1<=_;omega) (by show(zaq l).length+1<=_;omega) rfl Xh Xd Xd ⟨rfl,rfl,trivial⟩ rfl ⟨zcq (show purW (.fz (zaq l) 1 f)=true from yOq l),rfl,trivial⟩ (by rw[<-yPq];simp) trivial Xh ?_;refine ziq 5 O ?_;have e0:zaq l++zaq [128]=zaq (padJ l 0):=by rw[<-yPq];congr 1;simp[padJ]
 have hne:zaq (padJ l 0)≠[]:=λh=>by have:=congrArg List.length h;rw[zeq,vPq] at this;simp at this
 have htm:∀n:Nat,((n:Int)).tmod 64=((n%64:Nat):Int):=λn=>by rw[Int.tmod_eq_emod_of_nonneg Xd];omega
 refine qeq (α:=Nat) (λj=>∀i,i<j->(l.length+1+i)%64≠56) (λj=>[(3,.sl 0 0 0 (padJ l j).length 1 none),(0,.fz (zaq l) 1 f),(2,.nils)]) (λj=>padH l j) (λ_=>1) (λ_=>R) (λj=>64-j) 0 (λi hi=>absurd hi Xd) (zSq ⟨by show some (gW 0 1 (zaq l++zaq [128]))=_;rw[e0,qXq hne,zeq],rfl,rfl,trivial⟩ (by show []++gH 0 5 1 (zaq l++zaq [128])=padH l 0;rw[e0,qYq hne,zeq,Nat.mul_one];rfl) rfl) (λj hj=>?_);skip
 have hj64:j<64:=by
  refine Nat.lt_of_not_le λh=>?_
  have:=hj ((56+64-(l.length+1)%64)%64) Xd;omega
 have hlj:=vPq l j;refine zQq 4 O ?_;refine gZ 0 O hlj ?_;refine gV 0 O (congrArg (W.int .i64) (htm _)) ?_;refine gS 3 O (λh1=>?_) (λh1=>?_)
 ·have h1:¬(((l.length+1+j)%64:Nat):Int)=56:=h1;refine gM 6 O (zRq O O (yXq (k:=ti5) (len:=(padJ l j).length) (news:=zaq [0]) (olds:=zaq (padJ l j)) O O O O (zPq O O O O) Ql (by show((padJ l j).length+1)*1<=_;omega) (by show(padJ l j).length+1<=_;omega) rfl (by show(padJ l j).length<0+((padJ l j).length+1)*1;omega) rfl (zhq Xm (zeq _).symm (Nat.mul_one _).symm))) ?_;refine zfq 3 O ?_;have hl2:(padJ l j).length+1=(padJ l (j+1)).length:=by rw[vPq,vPq];omega
  have hp:purW (.fz (zaq l) 1 f)=true:=yOq l;skip
  refine yaq (j+1) (λi hi=>?_) (show 64-(j+1)<64-j by omega) ?_
  ·rcases Nat.lt_succ_iff_lt_or_eq.1 hi with h|rfl
   ·exact hj i h
   ·omega
  ·refine yoq (b:=0) (k:=2) Xd Xd (by show 2<3;omega) ⟨⟨?_,rfl⟩,⟨by rw[zgq hp];rfl,zcq hp⟩,⟨rfl,rfl⟩,trivial⟩ ⟨⟨by show 0<1;omega,?_,zcq (show purW (.arr _ 1 (zaq _))=true from yOq _)⟩,trivial⟩ (by show([0]:List Nat).Nodup;simp)
   ·show some (W.sl 2 0 0 ((padJ l j).length+1) 1 none)=some (W.sl 2 0 0 (padJ l (j+1)).length 1 none);rw[hl2]
   ·show some (5,W.arr (((padJ l j).length+1)*1) 1 (zaq (padJ l j)++zaq [0]))=some (5,renW _ (W.arr (padJ l (j+1)).length 1 (zaq (padJ l (j+1)))));rw[zgq (show purW (.arr _ 1 (zaq _))=true from yOq _),hl2,padJ_next,Nat.mul_one]
 ·have h56:(l.length+1+j)%64=56:=by omega
  obtain rfl:j=(119-l.length%64)%64:=by omega
  generalize hj0:(119-l.length%64)%64=j at*
  refine zfq 2 O ?_;refine yNq Xi ?_;refine zJq 5 O ?_;refine gV (w':=.int .i64 (l.length:Int)) 0 O (by rw[<-el];rfl) ?_;refine gWr 0 O ?_;refine gA 0 O (8*l.length) ?_;refine zfq 15 O ?_;obtain⟨n,en⟩:∃n,n=8*l.length:=⟨_,rfl⟩
  rw[<-en];have hn:n<18446744073709551616:=by omega
  refine qjq (α:=Nat×Nat) (λp=>p.1<=8/\p.2=n/256^p.1) (λp=>[(6,.int .i64 ((7:Int) -(p.1:Int))),(4,.int .u64 (p.2:Nat))]) [(2,_),(3,_),(5,_)] (λp=>(1,473,.arr 8 1 (zaq (List.replicate (8-p.1) 0++beB p.1 n)))::padH l j) (λp=>8-p.1) ((0,n)) ⟨rfl,rfl,rfl,trivial⟩ (⟨Nat.zero_le _,by simp⟩) ⟨rfl,rfl,trivial⟩ (rfl) (λp hI=>?_);obtain⟨i,q⟩:=p;obtain⟨g1,g2⟩:=hI;simp only at g1 g2⊢;have hlt:q<18446744073709551616:=by rw[g2];exact Nat.lt_of_le_of_lt (Nat.div_le_self _ _) hn
  refine zQq 7 O ?_;refine gS 0 O (λh2=>?_) (λh2=>?_)
  ·have hi:i<8:=by omega
   have hq:q/256=n/256^(i+1):=by rw[g2,Nat.div_div_eq_div_mul,<-Nat.pow_succ]
   have hset:=be_set n 8 i hi;rw[<-g2] at hset;refine gV (w':=.int .i64 ((8-1-i:Nat):Int)) 6 O (by congr 1;omega) ?_;refine gV (w':=.int .u64 ((q%256:Nat):Int)) 1 O (congrArg (W.int .u64) (xsq q 256)) ?_;refine gA 0 O (q%256) ?_;refine gP 0 O (zMq (i:=8-1-i) O O O O O O Xd) ?_;refine gM 0 O (qsq O O O O O (qNq (be_at n 8 i hi) O O) (congrArg (λL=>(1,473,W.arr 8 1 L)::padH l j) hset)) ?_;refine gA 4 O (q/256) (e:=(kUq q 256)) ?_;refine zfq 6 O ?_;refine op_z ((7:Int) -((i+1:Nat):Int)) O O Xd Jo ?_;refine run_p 2 O ?_;exact jwq ((i+1,q/256)) (⟨hi,hq⟩) Ye ⟨rfl,rfl,trivial⟩ ⟨rfl,rfl,rfl,trivial⟩ rfl
  ·have hi:i=8:=by omega
   subst hi;have hN:(zaq (beB 8 n)).length=8:=by rw[zeq,ylq]
   refine zfq 2 O ?_;refine yNq Xi ?_;refine zJq 6 O ?_;refine gM 0 O (zRq O O (yXq (k:=ti5) (len:=(padJ l j).length) (news:=zaq (beB 8 n)) (olds:=zaq (padJ l j)) O O O O (zPq O O O (zhq Xm hN.symm rfl)) Yp (by rw[hN];show(_+8)*1<=_;omega) Qn rfl (by rw[hN];show(padJ l j).length<0+(_+8)*1;omega) rfl (zhq Xm (zeq _).symm (Nat.mul_one _).symm))) ?_;refine zfq 4 O ?_;have er:zaq (padR l)=zaq (padJ l j)++zaq (beB 8 n):=by unfold padR;rw[hj0,<-en,yPq]
   have el2:(padR l).length=(padJ l j).length+(zaq (beB 8 n)).length:=by rw[<-zeq,er,List.length_append,zeq (padJ l j)]
   exact jfq Jp rfl (.sl (full:=false) (c:=.arr (padR l).length 1 (zaq (padR l))) (xs:=zaq (padR l)) (by show some (W.arr (((padJ l j).length+(zaq (beB 8 n)).length)*1) 1 (zaq (padJ l j)++zaq (beB 8 n)))=_;rw[er,el2,Nat.mul_one]) (show purW (.arr _ 1 (zaq _))=true from yOq _) (by rw[<-el2];exact zhq Xm (zeq _).symm (Nat.mul_one _).symm) Xi)
end
theorem next_congr{bs bs':Nat->Nat}(h:∀i,i<64->bs i=bs' i)(L:List Nat):ukq bs L=ukq bs' L:=by
 unfold ukq;cases hq:Nat.blt L.length 16 with
 |false=>rfl
 |true=>
  have hn:L.length<16:=Ob hq;show wordN (bs (4*L.length)) (bs (4*L.length+1)) (bs (4*L.length+2)) (bs (4*L.length+3))=wordN (bs' (4*L.length)) (bs' (4*L.length+1)) (bs' (4*L.length+2)) (bs' (4*L.length+3));rw[h (4*L.length) Xd,h (4*L.length+1) Xd,h (4*L.length+2) Xd,h (4*L.length+3) Xd]
theorem YLq{bs bs':Nat->Nat}(h:∀i,i<64->bs i=bs' i):∀n,yrq bs n=yrq bs' n
 |0=>rfl
 |n+1=>by
  have ih:=YLq h n;show yrq bs n++[ukq bs (yrq bs n)]=yrq bs' n++[ukq bs' (yrq bs' n)];rw[ih,next_congr h]
theorem QJq{bs bs':Nat->Nat}(h:∀i,i<64->bs i=bs' i)(s:S8):jMq bs s=jMq bs' s:=by
 unfold jMq;rw[YLq h]
theorem atL_app{a b:List Nat}{i:Nat}(h:i<a.length):atL (a++b) i=atL a i:=by
 unfold atL;simp[List.getD,List.getElem?_append_left h]
theorem eats_app:∀(k:Nat) (s:S8) (b t:List Nat),b.length<=k->1<=t.length->jgq (b++t).length s (b++t)=jgq ((eats s b).2++t).length (eats s b).1 ((eats s b).2++t)
 |0,s,b,t,hb,ht=>by
  have e:eats s b=(s,b):=kqq _ _ _ Xd;rw[e]
 |k+1,s,b,t,hb,ht=>by
  by_cases h:b.length<64
  ·have e:eats s b=(s,b):=kqq _ _ _ h;rw[e]
  ·have h64:64<=b.length:=by omega
   have ed:(b++t).drop 64=b.drop 64++t:=List.drop_append_of_le_length h64;rw[Qrq h64,vrq (by rw[List.length_append];omega),ed,QJq (λi hi=>atL_app Xd) s];exact eats_app k _ (b.drop 64) t Yw ht
theorem eats_mod:∀(k:Nat) (s:S8) (b:List Nat),b.length<=k->(eats s b).2.length=b.length%64
 |0,s,b,hb=>by
  have e:eats s b=(s,b):=kqq _ _ _ Xd;rw[e];show b.length=_;omega
 |k+1,s,b,hb=>by
  by_cases h:b.length<64
  ·have e:eats s b=(s,b):=kqq _ _ _ h;rw[e];show b.length=_;omega
  ·have h64:64<=b.length:=by omega
   rw[Qrq h64,eats_mod k _ _ Yw,List.length_drop];omega
theorem be8_len8{n:Nat}(hn:n<2147483648):(beB 8 (8*n)).map UInt8.toNat=len8 n:=by
 have e:∀i,Nat.shiftRight (8*n%18446744073709551616) i%256=8*n/2^i%256:=λi=>by
  have h8:8*n%18446744073709551616=8*n:=Nat.mod_eq_of_lt Xd;rw[h8];show(8*n)>>>i%256=_;rw[Nat.shiftRight_eq_div_pow]
 have t:∀x:Nat,(UInt8.ofNat (x%256)).toNat=x%256:=λx=>by simp
 simp only[beB,len8,List.map_cons,List.map_nil,e,t]
theorem sha_one(l:List UInt8)(hl:l.length<2147483648):shaN [l.map UInt8.toNat]=digN (jgq ((padR l).map UInt8.toNat).length s0 ((padR l).map UInt8.toNat)):=by
 obtain⟨b,eb⟩:∃b,l.map UInt8.toNat=b:=⟨_,rfl⟩
 have el:b.length=l.length:=by rw[<-eb,List.length_map]
 have ht:qmq [b]=l.length:=by show b.length+0=_;omega
 have hm:=eats_mod b.length s0 b (Nat.le_refl _)
 have er:(padR l).map UInt8.toNat=b++([128]++List.replicate ((119-l.length%64)%64) 0++len8 l.length):=by
  unfold padR padJ;rw[List.map_append,List.map_append,List.map_append,be8_len8 hl,eb,List.append_assoc,List.append_assoc];simp[List.map_replicate]
 have ea:([b].foldl uDq (s0,[]))=eats s0 b:=rfl;rw[eb,er,eats_app b.length s0 b _ (Nat.le_refl _) Xh];have hp:=pad_eq 64 ((eats s0 b).2++[128]) Xd
 have hj:(120-((eats s0 b).2++[128]).length%64)%64=(119-l.length%64)%64:=by
  rw[List.length_append,hm,el];simp only[List.length_cons,List.length_nil];omega
 rw[hj] at hp
 have e2:padZ 64 ((eats s0 b).2++[128])++len8 l.length=(eats s0 b).2++([128]++List.replicate ((119-l.length%64)%64) 0++len8 l.length):=by
  rw[hp,List.append_assoc,List.append_assoc,List.append_assoc]
 have eS:shaN [b]=digN (jgq (padZ 64 (([b].foldl uDq (s0,[])).2++[128])++len8 (qmq [b])).length ([b].foldl uDq (s0,[])).1 (padZ 64 (([b].foldl uDq (s0,[])).2++[128])++len8 (qmq [b]))):=rfl;rw[eS,ea,ht,e2]
section
attribute [local irreducible] CoW OpW FlW Step Spec
variable {G:Nat->Option W}
noncomputable def sumH(s:S8):HpW:=[(2,459,.arr 64 1 (kW.map wd)),(1,418,.arr 8 1 s.l),(0,29,yAq)]
noncomputable def sumH2(v:S8)(ws:List Nat)(L:List W):HpW:=[(4,418,.arr 8 1 v.l),(3,459,.arr 64 1 (ws.map wd)),(2,459,.arr 64 1 (kW.map wd)),(1,418,.arr 8 1 L),(0,29,yAq)]
theorem s0_ok:s0.Ok:=⟨by decide,by decide,by decide,by decide,by decide,by decide,by decide,by decide⟩
theorem padR_len(l:List UInt8):(padR l).length%64=0/\(padR l).length<=l.length+72:=by
 unfold padR;rw[List.length_append,vPq,ylq];omega
theorem bsL_blk(M:List UInt8)(i:Nat):∀k,k<64->bsL ((M.drop (64*i)).take 64) k=atL ((M.map UInt8.toNat).drop (64*i)) k:=λk hk=>by
 unfold bsL atL;rw[List.map_take,List.map_drop,List.getD_eq_getElem?_getD,List.getD_eq_getElem?_getD,List.getElem?_take_of_lt hk]
set_option maxHeartbeats 1600000 in
theorem rsum_s(l:List UInt8)(f:Bool)(hl:l.length<2147483648):PS cfg G 321 [.fz (zaq l) 1 f] (dW (shaD [l])):=by
 have hsha:=sha_one l hl;obtain⟨hm,hle⟩:=padR_len l
 have e3:dW (shaD [l])= .arr 32 1 (bN (shaN [l.map UInt8.toNat])):=by
  show W.arr 32 1 (zaq _)=_;rw[<-bytes_of (shaN_lt _)];rfl
 rw[e3,hsha];have hpad:=padded_s (G:=G) l f hl;generalize padR l=M at*
 obtain⟨MN,eMN⟩:∃MN,M.map UInt8.toNat=MN:=⟨_,rfl⟩
 rw[eMN];have hMN:MN.length=M.length:=by rw[<-eMN,List.length_map]
 have eM:(zaq M).length=M.length:=zeq M;refine gI 15 O (λR k0=>gC 0 O (hpad) (gC 5 O (words_s) (zfq 11 O ?_)));refine qjq (α:=S8×Nat) (λp=>p.1.Ok/\64*p.2<=M.length/\jgq MN.length s0 MN=jgq (MN.drop (64*p.2)).length p.1 (MN.drop (64*p.2))) (λp=>[(6,.int .i64 ((64*p.2:Nat):Int))]) [(2,_),(3,_),(4,_),(5,_)] (λp=>sumH p.1) (λp=>M.length-64*p.2) ((s0,0)) ⟨rfl,rfl,rfl,rfl,trivial⟩ (⟨s0_ok,Nat.zero_le _,rfl⟩) ⟨rfl,trivial⟩ (rfl) (λp hI=>?_);obtain⟨s,i⟩:=p;obtain⟨hs,hi,heat⟩:=hI;simp only at hs hi heat⊢;refine zQq 5 O (gV (w':=.int .i64 (M.length:Int)) 0 O (by rw[<-eM];rfl) ?_);refine gS 3 O (λh1=>?_) (λh1=>?_)
 ·have h1:((64*i:Nat):Int)<(M.length:Int):=h1;have hi2:64*i+64<=M.length:=by omega
  have hblk:((M.drop (64*i)).take 64).length=64:=by rw[List.length_take,List.length_drop];omega
  have ey:((zaq M).drop (64*i)).take (64*i+64-64*i)=zaq ((M.drop (64*i)).take 64):=by
   rw[show 64*i+64-64*i=64 by omega];simp[zaq,List.map_take,List.map_drop]
  obtain⟨ws,ews⟩:∃ws,yrq (bsL ((M.drop (64*i)).take 64)) 64=ws:=⟨_,rfl⟩
  have hws:ws.length=64:=by rw[<-ews];exact udq _ _
  have hsch:=λg=>sched_s (G:=G) ((M.drop (64*i)).take 64) g hblk
  rw[ews] at hsch;have hW:∀t,t<64->(ws.map wd)[0+t*1]? =some (wd (ws.getD t 0)):=λt ht=>by rw[Nat.zero_add,Nat.mul_one];exact ZBq Xd
  have hK:∀t,t<64->(kW.map wd)[0+t*1]? =some (wd (kW.getD t 0)):=λt ht=>by rw[Nat.zero_add,Nat.mul_one];exact ZBq (by rw[kW_len];exact ht)
  have hnew:jMq (bsL ((M.drop (64*i)).take 64)) s=jMq (atL (MN.drop (64*i))) s:=by rw[<-eMN];exact QJq (bsL_blk M i) s
  have hadd:mix8 s (ugq ws s 64) 8=(jMq (atL (MN.drop (64*i))) s).l:=by rw[<-hnew,<-ews];rfl
  refine gA 9 O (64*i+64) (gP 0 O (x5q (ys:=zaq ((M.drop (64*i)).take 64)) (l:=64*i) (h:=64*i+64) O O O O O O O Xd Xd ey rfl) (Kmq O O O O O O (hsch _) Xh (show purL (ws.map wd)=true from yhq (λx=>rfl) ws) (ziq 18 O ?_)));refine qjq (α:=Nat) (λt=>t<=64) (λt=>[(9,.int .i64 (t:Int))]) [(2,_),(3,_),(4,_),(5,_),(6,_),(7,_),(8,_),(18,_),(19,_),(20,_),(21,_),(24,_),(25,_),(26,_),(27,_),(28,_),(29,_),(30,_)] (λt=>sumH2 (ugq ws s t) ws s.l) (λt=>64-t) (0) ⟨rfl,rfl,rfl,rfl,rfl,rfl,rfl,rfl,rfl,rfl,rfl,rfl,rfl,rfl,rfl,rfl,rfl,rfl,trivial⟩ (Nat.zero_le _) ⟨rfl,trivial⟩ (rfl) (λt hI=>?_);refine zQq 7 O ?_;refine gS 0 O (λh2=>?_) (λh2=>?_)
  ·have ht:t<64:=by omega
   obtain⟨v,ev⟩:∃v,ugq ws s t=v:=⟨_,rfl⟩
   have hv:v.Ok:=by rw[<-ev];exact rounds_ok hs ws t
   have hKt:=hK t ht;have hWt:=hW t ht;have hnx:ugq ws s (t+1)=roundN (kW.getD t 0) (ws.getD t 0) v:=by rw[<-ev];rfl
   rw[ev];generalize kW.getD t 0=kt at*
   generalize ws.getD t 0=wt at*
   refine gP 7 O (zMq (i:=t) O O O O O O Xd) (gM 0 O (z1q O O O (y2q hKt rfl)) (gP 1 O (zMq (i:=t) O O O O O O Xd) (gM 0 O (z1q O O O (y2q hWt rfl)) (KFq O O O O O O (rround_s v hv kt wt) O O Xu (ygq 6 O (gA 0 O (t+1) (zfq 2 O ?_)))))));skip
   exact jwq (t+1) ht Xd ⟨rfl,trivial⟩ Yq (by rw[hnx];rfl)
  ·have ht:t=64:=by omega
   subst ht;obtain⟨v,ev⟩:∃v,ugq ws s 64=v:=⟨_,rfl⟩
   rw[ev] at hadd⊢;refine zfq 2 O (yNq Xi (zJq 8 O ?_));refine qjq (α:=Nat) (λj=>j<=8) (λj=>[(10,.int .i64 (j:Int))]) [(2,_),(3,_),(4,_),(5,_),(6,_),(7,_),(8,_),(9,_),(18,_),(19,_),(20,_),(21,_),(24,_),(25,_),(26,_),(27,_),(28,_),(29,_),(30,_),(31,_),(32,_)] (λj=>sumH2 v ws (mix8 s v j)) (λj=>8-j) (0) ⟨rfl,rfl,rfl,rfl,rfl,rfl,rfl,rfl,rfl,rfl,rfl,rfl,rfl,rfl,rfl,rfl,rfl,rfl,rfl,rfl,rfl,trivial⟩ (Nat.zero_le _) ⟨rfl,trivial⟩ (rfl) (λj hI=>?_);refine zQq 7 O ?_;refine gS 0 O (λh3=>?_) (λh3=>?_)
   ·have hj:j<8:=by omega
    have hq:j=0\/j=1\/j=2\/j=3\/j=4\/j=5\/j=6\/j=7:=by omega
    have g1:(mix8 s v j)[0+j*1]? =some (wd (s.get j)):=by rcases hq with rfl|rfl|rfl|rfl|rfl|rfl|rfl|rfl<;>rfl
    have g2:v.l[0+j*1]? =some (wd (v.get j)):=S8_at v hj;have g3:(mix8 s v j).set (0+j*1) (wd (addN (s.get j) (v.get j)))=mix8 s v (j+1):=by rcases hq with rfl|rfl|rfl|rfl|rfl|rfl|rfl|rfl<;>rfl
    generalize s.get j=x at*
    generalize v.get j=y at*
    refine gP 6 O (zMq (i:=j) O O O O O O Xd) (gM 0 O (z1q O O O (y2q g1 rfl)) (gP 1 O (zMq (i:=j) O O O O O O Xd) (gM 0 O (z1q O O O (y2q g2 rfl)) (gV (w':=wd (addN x y)) 0 O O (gP 0 O (zMq (i:=j) O O O O O O Xd) (gM 0 O (qsq O O O O O (qNq g1 O O) rfl) (gA 5 O (j+1) (zfq 2 O ?_))))))));skip
    exact jwq (j+1) hj Xd ⟨rfl,trivial⟩ Yq (congrArg (λL=>sumH2 v ws L) g3)
   ·have hj:j=8:=by omega
    subst hj;rw[hadd];refine zfq 2 O (yNq Xi (zJq 5 O (gA 0 O (64*i+64) (zfq 2 O ?_))));skip
    exact q_againH (jMq (atL (MN.drop (64*i))) s,i+1) ⟨block_ok _ _,by simp only;omega,by rw[heat,vrq Xq,List.drop_drop];rfl⟩ Ye (Nat.zero_le _) ⟨rfl,trivial⟩ Yq Xg Xg Xd Xj (by show([2,1,0]:List Nat).Nodup;decide)
 ·have h1:¬((64*i:Nat):Int)<(M.length:Int):=h1;have hend:jgq MN.length s0 MN=s:=by rw[heat,List.drop_of_length_le Xd];rfl
  rw[hend];refine zfq 2 O (yNq Xi (zJq 14 O ?_));refine qjq (α:=Nat) (λa=>a<=8) (λa=>[(12,.int .i64 (a:Int))]) [(2,_),(3,_),(11,_)] (λa=>(3,29,.arr 32 1 (bN (dI s (4*a))))::sumH s) (λa=>8-a) (0) ⟨rfl,rfl,rfl,trivial⟩ (Nat.zero_le _) ⟨rfl,trivial⟩ (rfl) (λa hI=>?_);refine zQq 7 O ?_;refine gS 0 O (λh2=>?_) (λh2=>?_)
  ·have ha:a<8:=by omega
   refine zfq 10 O ?_;refine qjq (α:=Nat) (λb=>b<=4) (λb=>[(13,.int .i64 (b:Int))]) [(2,_),(3,_),(11,_),(12,_),(55,_),(56,_)] (λb=>(3,29,.arr 32 1 (bN (dI s (4*a+b))))::sumH s) (λb=>4-b) (0) ⟨rfl,rfl,rfl,rfl,rfl,rfl,trivial⟩ (Nat.zero_le _) ⟨rfl,trivial⟩ (rfl) (λb hI=>?_);refine zQq 7 O ?_;refine gS 0 O (λh3=>?_) (λh3=>?_)
   ·have hb:b<4:=by omega
    have hdv:(4*a+b)/4=a:=by omega
    have hmd:(4*a+b)%4=b:=by omega
    have hset:=dI_set s (i:=4*a+b) Xd;rw[hdv,hmd] at hset;refine gA 6 O (4*a) (gA 1 O (4*a+b) (gP 1 O (zMq (i:=a) O O O O O O Xd) (gM 0 O (z1q O O O (y2q (S8_at s ha) rfl)) (gA 1 O (8*b) (gA 0 O (24-8*b) (gA 0 O (24-8*b) (gV (w':=wd (Nat.shiftRight (s.get a) (min (24-8*b) 32))) 0 O O (gV (w':=.int .u8 (.ofNat (Nat.shiftRight (s.get a) (min (24-8*b) 32)%256))) 0 O O (gP 0 O (zMq (i:=4*a+b) O O O O O O Xd) (gM 0 O (qsq O O O O O (qNq (dI_at s Xd) O O) rfl) (gA 5 O (b+1) (zfq 2 O ?_))))))))))));skip
    exact jwq (b+1) hb Xd ⟨rfl,trivial⟩ Yq (congrArg (λL=>(3,29,W.arr 32 1 L)::sumH s) hset)
   ·have hb:b=4:=by omega
    subst hb;refine zfq 2 O (yNq Xi (zJq 5 O (gA 0 O (a+1) (zfq 2 O ?_))));skip
    exact jwq (a+1) ha Xd ⟨rfl,trivial⟩ Yq rfl
  ·have ha:a=8:=by omega
   subst ha;refine zfq 2 O (yNq Xi (zJq 9 O ?_));have ed:dI s 32=digN s:=by simp[dI,List.take_of_length_le,v7q]
   exact gQ 0 O (by rw[<-ed])
theorem rtbytes_s(kind:UInt8)(ps:List (List UInt8))(f:Bool)(hn:ps.length<1000000)(hb:∀p∈ps,p.length<1000000):PS cfg G 322 [.int .u8 (.ofNat kind.toNat),.fz (ps.map bW) 1 f] (bW (tagB kind ps)):=by
 have e:(ps.map bW).length=ps.length:=List.length_map _;have htm:∀n:Nat,n<4294967296->((n:Int)).tmod 4294967296=(n:Int):=λn hn=>by rw[Int.tmod_eq_emod_of_nonneg Xd];omega
 refine gIv 19 O (λR k0=>?_);refine co_loopG1 (α:=Nat) (λi=>i<=ps.length) 5 (λi=>zaq (kind::(ps.take i).flatMap xKq)) 5 1 (λi=>[(6,.int .i64 (i:Int))]) [(1,_),(4,_)] ([]) 0 0 (λi=>ps.length-i) (0) ⟨rfl,rfl,trivial⟩ (Nat.zero_le _) ⟨rfl,trivial⟩ Xd Xd Yj Ql rfl Ql Xg Xg rfl Xk Xj Ya (λi hI=>?_);refine zQq 5 O (gV (w':=.int .i64 (ps.length:Int)) 0 O Xv ?_);refine gS 3 O (λh1=>?_) (λh1=>?_)
 ·have hi:i<ps.length:=by omega
  obtain⟨x,hx⟩:∃x,ps[i]? =some x:=⟨_,List.getElem?_eq_getElem hi⟩
  have hxl:=hb x (List.mem_of_getElem? hx);have hfl:((ps.take i).flatMap xKq).length<=i*1000004:=KDq i hb;have hL:(zaq (kind::(ps.take i).flatMap xKq)).length<=1+i*1000004:=by rw[zeq,List.length_cons];omega
  have hN:(zaq (beB 4 x.length)).length=4:=by rw[zeq,ylq]
  have hnx:zaq (kind::(ps.take (i+1)).flatMap xKq)=(zaq (kind::(ps.take i).flatMap xKq)++zaq (beB 4 x.length))++zaq x:=by
   rw[List.take_add_one,hx,<-yPq,<-yPq];congr 1
   simp[xKq,Nat.mod_eq_of_lt (show x.length<4294967296 by omega)]
  skip
  cases x with
  |nil=>
   refine yQq 8 O (gP 0 O (zvq (i:=i) O O O O O O O (zsq bW hx)) (gV (w':=.int .i64 (([]:List UInt8).length:Int)) 1 O (by show W.int .i64 ((zaq (([]:List UInt8))).length:Int)=_;rw[zeq]) (gV (w':=.int .u64 (([]:List UInt8).length:Int)) 1 O O ?_)))
   (refine zlq rfl (qEq O O O O O O (yTq ([]:List UInt8).length 4 Xm Xd) ?_);rintro w hp1 nw1 ⟨rfl,rfl,rfl⟩)
   exact ziq 11 O (gM 0 O (zRq O O (qzq [_] (k:=ti5) (news:=zaq (beB 4 ([]:List UInt8).length)) O O O O O (zPq O O O (zhq Xm hN.symm rfl)) Yp Qv Qn rfl (by simp[numC]))) (gP 7 O (zvq (i:=i) O O O O O O O (zsq bW hx)) (gM 1 O (zRq O O (xZq (k:=ti5) O O O O O)) (gA 6 O (i+1) (zfq 2 O (jhq 2 (i+1) (hi) Xd (Nat.zero_le _) (by rw[hnx];exact List.append_nil _) Xx Xd Yj rfl Xz ⟨rfl,trivial⟩ ⟨rfl,rfl,trivial⟩ Xg Xg rfl Xk Xj Ya))))))
  |cons c x=>
   refine yQq 8 O (gP 0 O (zvq (i:=i) O O O O O O O (zsq bW hx)) (gV (w':=.int .i64 ((c::x).length:Int)) 1 O (by show W.int .i64 ((zaq ((c::x))).length:Int)=_;rw[zeq]) (gA 0 O ((c::x).length) (gV (w':=.int .u64 ((c::x).length:Int)) 0 O (congrArg (W.int .u64) (htm _ Xd)) ?_))))
   (refine zlq rfl (qEq O O O O O O (yTq (c::x).length 4 Xd Xd) ?_);rintro w hp1 nw1 ⟨rfl,rfl,rfl⟩)
   exact ziq 11 O (gM 0 O (zRq O O (qzq [_] (k:=ti5) (news:=zaq (beB 4 (c::x).length)) O O O O O (zPq O O O (zhq Xm hN.symm rfl)) Yp Qv Qn rfl (by simp[numC]))) (gP 7 O (zvq (i:=i) O O O O O O O (zsq bW hx)) (gM 1 O (zRq O O (yXq (k:=ti5) (len:=(zaq (kind::(ps.take i).flatMap xKq)++zaq (beB 4 (c::x).length)).length) (news:=zaq (c::x)) (olds:=zaq (kind::(ps.take i).flatMap xKq)++zaq (beB 4 (c::x).length)) O O O O O Ql (by rw[List.length_append,hN,zeq (c::x)];show(_+_)*1<=_;omega) (by rw[List.length_append,hN,zeq (c::x)];omega) rfl Qb rfl (zhq Xm O O))) (gA 6 O (i+1) (zfq 2 O (jhq 3 (i+1) (hi) Xd (Nat.zero_le _) (hnx) Xx Xd Yj rfl Xz ⟨rfl,trivial⟩ ⟨rfl,rfl,trivial⟩ Xg Xg rfl Xk Xj Ya))))))
 ·have hi:i=ps.length:=by omega
  subst hi;refine zfq 2 O (yNq Xi (zJq 9 O (jfq Xt O ?_)));rw[List.take_length];exact klq (H0:=[]) Xm Xh Xh
theorem J2q(kind:UInt8)(ps:List (List UInt8))(f:Bool)(hn:ps.length<1000)(hb:∀p∈ps,p.length<1000000):PS cfg G 262 [.int .u8 (.ofNat kind.toNat),.fz (ps.map bW) 1 f] (dW (tagD kind ps)):=by
 have hl:=tag_le kind ps hb;exact gI 9 O (λR k0=>gC 0 O (rtbytes_s kind ps f Xd hb) (gC 0 O (rsum_s (tagB kind ps) false Xd) (gQa 4 O)))
theorem ufq(kind:UInt8)(a:List UInt8)(hb:a.length<1000000):PS cfg G 211 [.int .u8 (.ofNat kind.toNat),bW a] (dW (tagD kind [a])):=by
 refine gI 10 O (λR k0=>?_);refine xLq O O O O O (by(repeat (first|exact .nil|refine .cons ?_ ?_|(refine .sl O ?_ rfl Xi;first|rfl|(focus (simp;done)))|(refine yLq O ?_ rfl;first|rfl|(focus (simp;done)))|(refine .pur ?_;first|rfl|(focus (simp;done)))))) (J2q kind [a] false Xh Xq) Xk Xk ?_;exact ziq 4 O (gQa 0 O)
theorem rkey_s(k:Dig):PS cfg G 352 [dW k] (dW (keyD k)):=by
 exact gI 9 O (λR k0=>xLq O O O O O (.cons (.pur rfl) (.cons (.sl (full:=false) (xs:=zaq k.1) rfl Xh (zhq Xm (by simp[zeq,k.2]) rfl) Xi) .nil)) (ufq 3 k.1 (by simp[k.2])) Xk Xk (ziq 4 O (gQa 0 O)))
theorem Yhq:PS cfg G 184 [] (dW (tagD 0 [])):=by
 exact gI 7 O (λR k0=>xLq O O O O O (.cons (.pur rfl) (.cons .nilfz .nil)) (J2q 0 [] false Xh Xh) Xk Xk (ziq 4 O (gQa 0 O)))
theorem rtwo_s(kind:UInt8)(a b:List UInt8)(f g:Bool)(ha:a.length<1000000)(hb:b.length<1000000):PS cfg G 260 [.int .u8 (.ofNat kind.toNat),.fz (zaq a) 1 f,.fz (zaq b) 1 g] (dW (tagD kind [a,b])):=by
 exact gI 11 O (λR k0=>xLq O O O O O (.cons (.pur rfl) (.cons (.sl2 (full:=false) rfl (.arr (.cons (.fzw Xh) (.cons (.fzw Xh) .nil))) rfl Xi) .nil)) (J2q kind [a,b] false Xh (by simp[ha,hb])) Xk Xk (ziq 4 O (gQa 0 O)))
noncomputable def ofH(A B:List Pr):HpW:=([(0,29,yAq)]++gH 1 191 33 (A.map pW))++gH 2 191 33 (B.map pW)
theorem ofH_l(A:List Pr):ofH A []=[(0,29,yAq)]++gH 1 191 33 (A.map pW):=List.append_nil _
theorem rof_s:∀(t:T) (d:Nat) (b:Dig) (f:Bool),Zr d b->t.ok d b=true->Z7q t->t.all.length<=1000000->PS cfg G 183 [.fz (t.all.map pW) 33 f,.int .i64 (d:Int)] (dW (sumD t)):=by
 intro t;induction t with
 |nil=>
  intro d b f hz ok hs hl;refine gI 9 O (λR k0=>?_);refine gL 0 O ?_;refine gC 6 O (Yhq) ?_;exact gQa 5 O
 |leaf k v=>
  intro d b f hz ok hs hl;have hv:v.length<1000000:=hs (k,v) (by simp[T.all]);refine gI 9 O (λR k0=>?_);refine gL 0 O ?_;refine gL 10 O ?_;refine gX 7 O ?_;refine gX 3 O ?_;refine zfq 2 O ?_;refine KFq O O O O O (by show [_,W.fz (((zaq k.1).drop (0/1)).take 32) 1 true,_]=[_,W.fz (zaq k.1) 1 true,_];rw[show 0/1=0 from rfl,List.drop_zero,List.take_of_length_le (by rw[zeq,k.2];omega)];rfl) (rtwo_s 1 k.1 v true false (by simp[k.2]) hv) Xh Xh Xu ?_;refine ygq 5 O ?_;exact gQa 0 O
 |fork tl tr ihL ihR=>
  intro d b f hz ok hs hl;obtain⟨hd,okL,okR,two⟩:=ok_fork.1 ok;obtain⟨b0,b1⟩:=ZAq hz ok;have sL:Z7q tl:=λp hp=>hs p Jb
  have sR:Z7q tr:=λp hp=>hs p Jb
  have hall:(T.fork tl tr).all=tl.all++tr.all:=by simp[T.all]
  have cL:=ihL (d+1) b false (q6q hz) okL sL (by rw[hall,List.length_append] at hl;omega);have cR:=ihR (d+1) (qCq b d) false (q5q hz hd) okR sR (by rw[hall,List.length_append] at hl;omega);have hn2:2<=tl.all.length+tr.all.length:=Znq okL okR two;rw[hall] at hl⊢;rw[List.length_append] at hl;generalize tl.all=L at*
  generalize tr.all=Q at*
  have e:((L++Q).map pW).length=L.length+Q.length:=by rw[List.length_map,List.length_append]
  have hat:∀i,i<L.length+Q.length->∃x,(L++Q)[i]? =some x:=λi hi=>⟨_,List.getElem?_eq_getElem (by rw[List.length_append];exact hi)⟩
  refine gI 9 O (λR k0=>?_);refine gZ 0 O e ?_;refine gF 0 O (eqI_not.2 Xd) ?_;refine gZ 9 O e ?_;refine gF 0 O (eqI_not.2 Xd) ?_;refine zfq 18 O ?_;have z0:Q.take (0-L.length)=[]:=by rw[Nat.zero_sub];rfl
  refine qeq (α:=Nat) (λi=>i<=L.length+Q.length) (λi=>[(5,gW 1 33 ((L.take i).map pW)),(7,.int .i64 (i:Int)),(6,gW 2 33 ((Q.take (i-L.length)).map pW)),(0,.fz ((L++Q).map pW) 33 f),(1,.int .i64 (d:Int)),(4,.ptr 0 0)]) (λi=>ofH (L.take i) (Q.take (i-L.length))) (λ_=>3) (λ_=>R) (λi=>L.length+Q.length-i) 0 (Nat.zero_le _) ((jLq (fr2:=[(5,.nils),(7,.int .i64 0),(6,.nils),(0,.fz ((L++Q).map pW) 33 f),(1,.int .i64 (d:Int)),(4,.ptr 0 0)]) ⟨rfl,rfl,rfl,rfl,rfl,rfl,trivial⟩).trans ((jLq (fr2:=[(5,.nils),(7,.int .i64 0),(6,.nils),(0,.fz ((L++Q).map pW) 33 f),(1,.int .i64 (d:Int)),(4,.ptr 0 0)]) ⟨rfl,rfl,rfl,rfl,rfl,rfl,trivial⟩).trans (zSq ⟨rfl,rfl,by rw[z0];rfl,rfl,rfl,rfl,trivial⟩ (by rw[z0];rfl) rfl))) (λi hI=>?_);skip
  have hI:i<=L.length+Q.length:=hI;refine zQq 5 O ?_;refine gZ 0 O e ?_;refine gS 3 O (λh1=>?_) (λh1=>?_)
  ·have hi:i<L.length+Q.length:=by omega
   obtain⟨x,hx⟩:=hat i hi;skip
   by_cases hc:i<L.length
   ·have hxl:L[i]? =some x:=by rw[List.getElem?_append_left hc] at hx;exact hx
    have hbit:bitN x.1 d=0:=b0 x (List.mem_of_getElem? hxl);have zq:Q.take (i-L.length)=[]:=by rw[show i-L.length=0 by omega];rfl
    have zq':Q.take (i+1-L.length)=[]:=by rw[show i+1-L.length=0 by omega];rfl
    have hL2:(L.take (i+1)).map pW=(L.take i).map pW++[pW x]:=by rw[List.take_add_one,hxl,List.map_append];rfl
    have hlt:((L.take i).map pW).length<=1000000:=by rw[List.length_map,List.length_take];omega
    rw[zq,ofH_l];refine gP 8 O (zvq (i:=i) O O O O O O O (zsq pW hx)) ?_;refine gC 3 O (Kaq x.1 d hd) ?_;refine gT 0 O (eqI_iff.2 (by rw[hbit];rfl)) ?_;refine gP 7 O (zvq (i:=i) O O O O O O O (zsq pW hx)) ?_;refine gM 2 O (zRq O O (qzq [_,_] (k:=ti191) (news:=[pW x]) O O O O O (zPq O O O O) Xh (by show(((L.take i).map pW).length+1)*56<=_;omega) (by show((L.take i).map pW).length+1<=_;omega) rfl Xh)) ?_;refine gA 6 O (i+1) ?_;refine zfq 2 O ?_;skip
    refine yaq (i+1) hi Xd ?_;simp only[zq',ofH_l,hL2];exact(qxq (b:=1) (H0:=[(0,29,yAq)]) (l2:=(L.take i).map pW++[pW x]) (n:=((L.take i).map pW++[pW x]).length) (fr2:=[(7,.int .i64 ((i+1:Nat):Int)),(6,.nils),(0,.fz ((L++Q).map pW) 33 f),(1,.int .i64 (d:Int)),(4,.ptr 0 0)]) 4 5 Xd Xd Yn Xh O O ⟨rfl,rfl,rfl,rfl,rfl,trivial⟩ ⟨rfl,rfl,zcq (show purW (.fz ((L++Q).map pW) 33 f)=true from qLq _),rfl,rfl,trivial⟩ rfl Xh ⟨⟨by omega,rfl,rfl⟩,trivial⟩ Xh).trans (jLq ⟨rfl,rfl,rfl,rfl,rfl,rfl,trivial⟩)
   ·have hxq:Q[i-L.length]? =some x:=by rw[List.getElem?_append_right Xd] at hx;exact hx
    have hbit:bitN x.1 d=1:=b1 x (List.mem_of_getElem? hxq);have zl:L.take i=L:=List.take_of_length_le Xd;have zl':L.take (i+1)=L:=List.take_of_length_le Xd;have hQ2:(Q.take (i+1-L.length)).map pW=(Q.take (i-L.length)).map pW++[pW x]:=by rw[show i+1-L.length=(i-L.length)+1 by omega,List.take_add_one,hxq,List.map_append];rfl
    have hlt:((Q.take (i-L.length)).map pW).length<=1000000:=by rw[List.length_map,List.length_take];omega
    have hnm:∀p∈[((0:Nat),29,yAq)]++gH 1 191 33 (L.map pW),p.1<2:=λp hp=>by
     rcases List.mem_append.1 hp with hp|hp
     ·simp only[List.mem_cons,List.not_mem_nil,or_false] at hp;rw[hp];show 0<2;omega
     ·rw[kfq p hp];omega
    rw[zl];refine gP 8 O (zvq (i:=i) O O O O O O O (zsq pW hx)) ?_;refine gC 3 O (Kaq x.1 d hd) ?_;refine gF 0 O (eqI_not.2 (by rw[hbit];decide)) ?_;refine gP 7 O (zvq (i:=i) O O O O O O O (zsq pW hx)) ?_;refine gM 2 O (zRq O O (qzq ((3,_)::([(0,_)]++gH 1 191 33 (L.map pW))) (k:=ti191) (news:=[pW x]) O O O O O (zPq O O O O) Xh (by show(((Q.take (i-L.length)).map pW).length+1)*56<=_;omega) (by show((Q.take (i-L.length)).map pW).length+1<=_;omega) rfl (λp hp=>by rcases List.mem_cons.1 hp with q|q;(rw[q];show¬3=2;omega);have:=hnm p q;omega))) ?_;refine gA 6 O (i+1) ?_;refine zfq 2 O ?_;skip
    refine yaq (i+1) hi Xd ?_;simp only[zl',hQ2];exact(qxq (b:=2) (H0:=[(0,29,yAq)]++gH 1 191 33 (L.map pW)) (l2:=(Q.take (i-L.length)).map pW++[pW x]) (n:=((Q.take (i-L.length)).map pW++[pW x]).length) (fr2:=[(5,gW 1 33 (L.map pW)),(7,.int .i64 ((i+1:Nat):Int)),(0,.fz ((L++Q).map pW) 33 f),(1,.int .i64 (d:Int)),(4,.ptr 0 0)]) 4 6 Xd Xd Yn Xh O O ⟨rfl,rfl,rfl,rfl,rfl,trivial⟩ ⟨by cases L.map pW<;>rfl,rfl,zcq (show purW (.fz ((L++Q).map pW) 33 f)=true from qLq _),rfl,rfl,trivial⟩ rfl Xh (uIq ⟨⟨by omega,rfl,rfl⟩,trivial⟩ (subH_g Xd Xh (λx r h=>by rw[h];rfl))) (by cases L.map pW<;>simp[gH])).trans (zSq ⟨rfl,rfl,rfl,rfl,rfl,rfl,trivial⟩ (by unfold ofH;rw[hQ2]) rfl)
  ·have hi:i=L.length+Q.length:=by omega
   have zl:L.take i=L:=List.take_of_length_le Xd;have zq:Q.take (i-L.length)=Q:=List.take_of_length_le Xd;rw[zl,zq];refine zfq 2 O ?_;refine yNq Xi ?_;refine zJq 6 O ?_;refine gA 0 O (d+1) ?_;refine xLq O O O O O (.cons (view_g2 (H0:=[(0,29,yAq)]) Xm Xh Xh) (.cons (.pur rfl) .nil)) cL Xh (flat_dW _) ?_;refine ziq 2 O ?_;refine gA 0 O (d+1) ?_;refine xLq O O O O O (.cons (klq (H0:=[(0,29,yAq)]++gH 1 191 33 (L.map pW)) Xm Xh (λp hp=>by rcases List.mem_append.1 hp with q|q;(simp only[List.mem_cons,List.not_mem_nil,or_false] at q;rw[q];show¬0=2;omega);(rw[kfq p q];omega))) (.cons (.pur rfl) .nil)) cR Xh (flat_dW _) ?_;refine ziq 10 O ?_;refine fl_lk O O O O O (.cons (.pur rfl) (.cons (.sl (full:=false) (xs:=zaq (sumD tl).1) rfl Xh (zhq Xm (by simp[zeq,(sumD tl).2]) rfl) Xi) (.cons (.sl (full:=false) (xs:=zaq (sumD tr).1) rfl Xh (zhq Xm (by simp[zeq,(sumD tr).2]) rfl) Xi) .nil))) (rtwo_s 2 (sumD tl).1 (sumD tr).1 false false (by simp[(sumD tl).2]) (by simp[(sumD tr).2])) Xk Xk Xu ?_;refine ygq 4 O ?_;exact gQa 0 O
def cntT:T->Nat
 |.nil=>0
 |.leaf _ _=>1
 |.fork l r=>cntT l+cntT r+1
def th:Nat->Nat
 |0=>0
 |_+1=>1
noncomputable def tgW(b:Nat)(ns:List Node)(r:Int):W:=.agg 2 [gW b 36 (ns.map nW),.int .i64 r]
def OfQ(ns:List Node)(r:Int)(t:T):W->HpW->Nat->Prop:=λw hp nw=>∃ms n,ms.length=cntT t/\Rep (ns++ms) n t/\w= .tup [tgW (th (cntT t)) (ns++ms) r,.int .i64 ((n:Nat):Int)]/\hp=[(2,24,tgW (th (cntT t)) (ns++ms) r)]++gH (th (cntT t)) 163 36 ((ns++ms).map nW)/\nw=3
def OfS(G:Nat->Option W)(t:T)(d:Nat):Prop:=∀(f:Bool) (ns:List Node) (r:Int),ns.length+cntT t<=1000000->yYq cfg G 199 1 [tgW 0 ns r,.fz (t.all.map pW) 33 f,.int .i64 (d:Int)] (gH 0 163 36 (ns.map nW)) (OfQ ns r t)
section
variable {ops:Array Oper} {l:List Oper} {K:FrW->HpW->Nat->Res->Prop} {m nw:Nat} {fr:FrW} {hp:HpW} {R:Res} {o:Oper} {x:Operand} {xs:Array Operand} {ats:Array TypeId} {t:T} {d:Nat} {f:Bool} {ns:List Node} {r:Int}
theorem op_of(k:Nat)(P:HpW)(hg:qgq ops fr o=some true)(ho:o.op= .call ⟨.value x,xs,ats⟩)(hx:evW cfg G fr x=some (.fn 199 [] []))(he:cfg.ext 199=none)(hxs:evLW cfg G fr xs.toList=some [tgW k ns r,.fz (t.all.map pW) 33 f,.int .i64 (d:Int)])(hhp:hp=P++gH k 163 36 (ns.map nW))(hP:∀p∈P,p.1≠k/\p.1<nw)(nd:(P.map (·.1)).Nodup)(hk:k<nw)(sp:OfS G t d)(hl:ns.length+cntT t<=1000000)
  (h:∀(ms:List Node) (n k':Nat),ms.length=cntT t->Rep (ns++ms) n t->(k'=k\/k'=nw) ->OpW cfg G m ops l (putW fr o.dst (.tup [tgW k' (ns++ms) r,.int .i64 ((n:Nat):Int)])) (P++gH k' 163 36 ((ns++ms).map nW)) (nw+2) R K):OpW cfg G m ops (o::l) fr hp nw R K:=by
 have pn:purL (ns.map nW)=true:=yhq xfq _;have pp:purL (t.all.map pW)=true:=qLq _;refine zlq hg (yDq (ext:=[k]) (ws:=[tgW 0 ns r,.fz (t.all.map pW) 33 f,.int .i64 (d:Int)]) (hp0:=gH 0 163 36 (ns.map nW)) ho hx he hxs ?_ (sp f ns r hl) Xh Xw ?_ ?_ ?_ ?_)
 ·show [tgW k ns r,.fz (t.all.map pW) 33 f,.int .i64 (d:Int)]=[renW _ (tgW 0 ns r),renW _ (.fz (t.all.map pW) 33 f),.int .i64 (d:Int)];rw[zgq (show purW (.fz (t.all.map pW) 33 f)=true from pp)];unfold tgW;simp only[renW,qcq,ren_g];rfl
 ·cases ns.map nW with
  |nil=>exact List.nodup_nil
  |cons y q=>simp[gH]
 ·intro i ty w hi;cases e:ns.map nW with
  |nil=>rw[e] at hi;simp[gH,hget] at hi
  |cons y q=>
   rw[e] at hi pn hhp;have hpa:purW (.arr ((y::q).length*36) 36 (y::q))=true:=pn;simp only[gH] at hi;rw[znq] at hi;split at hi
   ·rename_i e0;subst e0;cases hi;refine⟨by simp,zcq hpa,k,rfl,?_⟩;rw[hhp,zgq hpa];exact jBq λp hp=>(hP p hp).1
   ·simp[hget] at hi
 ·show(refB 1 (tgW 0 ns r)&&(refB 1 (.fz (t.all.map pW) 33 f)&&(refB 1 (.int .i64 (d:Int))&&true)))=true;rw[zcq (m:=1) (show purW (.fz (t.all.map pW) 33 f)=true from pp)];unfold tgW;simp[refB,refL,ref_g]
 ·rintro w hp1 nw1 ⟨ms,n,h1,h2,rfl,rfl,rfl⟩;have pm:purL ((ns++ms).map nW)=true:=yhq xfq _
  obtain⟨k',hk',ek⟩:∃k',(k'=k\/k'=nw)/\numC [k] nw (th (cntT t))=k':=by
   cases cntT t with
   |zero=>exact⟨k,.inl rfl,rfl⟩
   |succ c=>exact⟨nw,.inr rfl,rfl⟩
  have h:=h ms n k' h1 h2 hk'
  have e1:renW (numC [k] nw) (.tup [tgW (th (cntT t)) (ns++ms) r,.int .i64 ((n:Nat):Int)])= .tup [tgW k' (ns++ms) r,.int .i64 ((n:Nat):Int)]:=by
   unfold tgW;simp only[renW,qcq,ren_g,ek]
  have e2:renH (numC [k] nw) ([(2,24,tgW (th (cntT t)) (ns++ms) r)]++gH (th (cntT t)) 163 36 ((ns++ms).map nW))=(nw+1,24,tgW k' (ns++ms) r)::gH k' 163 36 ((ns++ms).map nW):=by
   rw[List.cons_append,List.nil_append];show(numC [k] nw 2,24,renW (numC [k] nw) (tgW (th (cntT t)) (ns++ms) r))::renH (numC [k] nw) (gH (th (cntT t)) 163 36 ((ns++ms).map nW))=_;rw[renH_g _ _ _ _ pm,ek];unfold tgW;simp only[renW,qcq,ren_g,ek];rfl
  rw[e1,e2,show([k]:List Nat).length=1 from rfl,show nw+(3-1)=nw+2 from rfl];show OpW cfg G m ops l _ (((nw+1,24,tgW k' (ns++ms) r)::gH k' 163 36 ((ns++ms).map nW))++hdel hp k) (nw+2) R K;rw[hhp,hdel_g λp hp=>(hP p hp).1];have hPk:∀p∈P,p.1≠k':=λp hp=>by have:=hP p hp;rcases hk' with rfl|rfl<;>omega
  refine qOq (λ_=>KNq (hp2:=P++gH k' 163 36 ((ns++ms).map nW)) (λi y hy=>?_) (jAq hPk nd)) h
  have hi:i≠nw+1:=by
   rintro rfl;rw[jdq λp hp=>?_] at hy
   ·cases hy
   ·rcases List.mem_append.1 hp with q|q
    ·have:=(hP p q).2;omega
    ·rw[kfq p q];rcases hk' with rfl|rfl<;>omega
  rw[List.cons_append,znq,if_neg (Ne.symm hi),kYq];rw[kYq] at hy;cases hq:hget P i with
  |none=>
   rw[hq] at hy;have hy:hget (gH k' 163 36 ((ns++ms).map nW)) i=some y:=hy;rw[hy];rfl
  |some z=>
   rw[hq] at hy;have hy:some z=some y:=hy
   have hik:i≠k':=by
    rintro rfl;rw[jdq hPk] at hq;cases hq
   rw[jdq λp hp=>by rw[kfq p hp];exact Ne.symm hik];exact hy
end
theorem of_nil(d:Nat):OfS G .nil d:=by
 intro f ns r hl R;refine gIs 11 O (λk0=>?_);refine gL 0 O ?_;refine zfq 13 O ?_;exact fin (w:=.tup [tgW 0 ns r,.int .i64 ((0:Nat):Int)]) Jp ((KNq (hp2:=[(2,24,tgW 0 ns r)]++gH 0 163 36 (ns.map nW)) (λk y h=>keep2 (d:=1) Xd h) (jAq Xh Xh)).trans (zSq (fr2:=[(6,.ptr 2 0),(7,.int .i64 0)]) ⟨rfl,rfl,trivial⟩ O O)) rfl (show _=_/\OfQ ns r .nil _ _ _ from⟨rfl,[],0,rfl,.nil,by rw[List.append_nil];rfl,by rw[List.append_nil];rfl,rfl⟩)
def lfN(k:Dig)(v:List UInt8):Node:=⟨true,k,v,0,0⟩
theorem of_leaf(d:Nat)(k:Dig)(v:List UInt8)(hv:v.length<=70368744177664):OfS G (.leaf k v) d:=by
 intro f ns r hl R;have hl:ns.length+1<=1000000:=hl;obtain⟨L,eL⟩:∃L,ns.map nW=L:=⟨_,rfl⟩
 have hL:L.length<=1000000:=by rw[<-eL,List.length_map];omega
 have pL:purL L=true:=by rw[<-eL];exact yhq xfq _
 have e2:(ns++[lfN k v]).map nW=L++[nW (lfN k v)]:=by rw[List.map_append,eL];rfl
 have pn:purL (L++[nW (lfN k v)])=true:=by rw[<-e2];exact yhq xfq _
 have en:(L++[nW (lfN k v)]).length=ns.length+1:=by rw[<-e2,List.length_map,List.length_append];rfl
 have hne:L++[nW (lfN k v)]≠[]:=by simp
 have hrep:Rep (ns++[lfN k v]) (ns.length+1) (.leaf k v):=.leaf (l:=0) (r:=0) (by rw[List.getElem?_append_right (Nat.le_refl _),Nat.sub_self];rfl);unfold tgW;rw[eL];refine u4q (fn:=Tryz.f199) O O O (Ob rfl) (λk0=>?_);skip
 cases L with
 |nil=>
  refine zQq 11 O ?_;refine gL 0 O ?_;refine gL 10 O ?_;refine gM 7 O (z1q O O O (g_get 0 36 _ _)) ?_;refine gX 1 O ?_;refine gX 3 O ?_;refine zfq 2 O ?_;refine KFq O O O O O O (ueq v false hv) Xh Xh Xu ?_;refine ygq 2 O ?_;refine gM 0 O (zRq O O (qzq [_,_,_] (k:=ti163) (news:=[nW (lfN k v)]) O O O O O (zPq O O O O) Xh (by show(_+1)*80<=_;omega) (by show _+1<=_;omega) rfl Xh)) ?_;refine gM 1 O (qsq O O O O O (g_put 0 36 _ _ _ _) rfl) ?_;refine gL 7 O ?_;refine zfq 6 O ?_;refine fin (w:=.tup [tgW 1 (ns++[lfN k v]) r,.int .i64 ((ns.length+1:Nat):Int)]) Jp (ent_mid (b:=1) (k:=4) (nw2:=3) (fr2:=[(6,.ptr 2 0),(7,.int .i64 ((ns.length+1:Nat):Int))]) (hp2:=[(2,24,tgW 1 (ns++[lfN k v]) r)]++gH 1 163 36 ((ns++[lfN k v]).map nW)) Xd Xd Xd Yn ⟨⟨rfl,rfl⟩,⟨?_,rfl⟩,trivial⟩ ?_ (jAq Xh Xh)) rfl (show _=_/\OfQ ns r (.leaf k v) _ _ _ from⟨rfl,[lfN k v],ns.length+1,rfl,hrep,rfl,rfl,rfl⟩)
  ·show some (W.int .i64 (((([]:List W)++[nW (lfN k v)]:List W).length:Nat):Int))=some (W.int .i64 ((ns.length+1:Nat):Int));rw[en]
  ·unfold tgW;rw[e2,qXq hne,qYq hne];exact⟨⟨by omega,rfl,rfl⟩,⟨by omega,by rw[zgq (show purW (.arr _ 36 _)=true from pn)];rfl,zcq (show purW (.arr _ 36 _)=true from pn)⟩,trivial⟩
 |cons y q=>
  refine zQq 11 O ?_;refine gL 0 O ?_;refine gL 10 O ?_;refine gM 7 O (z1q O O O (g_get 0 36 _ _)) ?_;refine gX 1 O ?_;refine gX 3 O ?_;refine zfq 2 O ?_;refine KFq O O O O O O (ueq v false hv) Xh Xh Xu ?_;refine ygq 2 O ?_;refine gM 0 O (zRq O O (qzq [_,_,_] (k:=ti163) (news:=[nW (lfN k v)]) O O O O O (zPq O O O O) Xh (by show(_+1)*80<=_;omega) (by show _+1<=_;omega) rfl Xh)) ?_;refine gM 1 O (qsq O O O O O (g_put 0 36 _ _ _ _) rfl) ?_;refine gL 7 O ?_;refine zfq 6 O ?_;refine fin (w:=.tup [tgW 1 (ns++[lfN k v]) r,.int .i64 ((ns.length+1:Nat):Int)]) Jp (ent_mid (b:=1) (k:=4) (nw2:=3) (fr2:=[(6,.ptr 2 0),(7,.int .i64 ((ns.length+1:Nat):Int))]) (hp2:=[(2,24,tgW 1 (ns++[lfN k v]) r)]++gH 1 163 36 ((ns++[lfN k v]).map nW)) Xd Xd Xd Yn ⟨⟨rfl,rfl⟩,⟨?_,rfl⟩,trivial⟩ ?_ (jAq Xh Xh)) rfl (show _=_/\OfQ ns r (.leaf k v) _ _ _ from⟨rfl,[lfN k v],ns.length+1,rfl,hrep,rfl,rfl,rfl⟩)
  ·show some (W.int .i64 ((((y::q)++[nW (lfN k v)]:List W).length:Nat):Int))=some (W.int .i64 ((ns.length+1:Nat):Int));rw[en]
  ·unfold tgW;rw[e2,qXq hne,qYq hne];exact⟨⟨by omega,rfl,rfl⟩,⟨by omega,by rw[zgq (show purW (.arr _ 36 _)=true from pn)];rfl,zcq (show purW (.arr _ 36 _)=true from pn)⟩,trivial⟩
noncomputable def zT:W:=.agg 2 [.nils,.int .i64 0]
noncomputable def ofP(k:Nat)(ns:List Node)(r:Int):HpW:=[(2,24,zT),(1,24,tgW k ns r)]
noncomputable def ofG(ns:List Node)(r:Int):HpW:=ofP 0 ns r++gH 0 163 36 (ns.map nW)
noncomputable def ofH2(ns:List Node)(r:Int)(A B:List Pr):HpW:=(ofG ns r++gH 3 191 33 (A.map pW))++gH 4 191 33 (B.map pW)
theorem ofH2_l(ns:List Node)(r:Int)(A:List Pr):ofH2 ns r A []=ofG ns r++gH 3 191 33 (A.map pW):=List.append_nil _
theorem j3q{ns:List Node}{r:Int}:∀p∈ofG ns r,p.1<3:=λp hp=>by
 rcases List.mem_append.1 hp with q|q
 ·simp only[ofP,List.mem_cons,List.not_mem_nil,or_false] at q;rcases q with q|q<;>rw[q]<;>first|(show 2<3;omega)|(show 1<3;omega)
 ·rw[kfq p q];omega
theorem ofG_g{ns:List Node}{r:Int}{x:W}{q:List W}(h:ns.map nW=x::q):hget (ofG ns r) 0=some (163,.arr ((x::q).length*36) 36 (x::q)):=by
 unfold ofG;rw[h];rfl
theorem ofG_nd(ns:List Node)(r:Int):((ofG ns r).map (·.1)).Nodup:=jAq (by simp[ofP]) (by simp[ofP])
theorem of_fork(tl tr:T)(d:Nat)(b:Dig)(hz:Zr d b)(ok:(T.fork tl tr).ok d b=true)(hl:(T.fork tl tr).all.length<=1000000)(cL:OfS G tl (d+1))(cR:OfS G tr (d+1)):OfS G (.fork tl tr) d:=by
 intro f ns r hc R;obtain⟨hd,okL,okR,two⟩:=ok_fork.1 ok;obtain⟨b0,b1⟩:=ZAq hz ok;have hall:(T.fork tl tr).all=tl.all++tr.all:=by simp[T.all]
 have hn2:2<=tl.all.length+tr.all.length:=Znq okL okR two;have hc:ns.length+(cntT tl+cntT tr+1)<=1000000:=hc;rw[hall] at hl⊢;rw[List.length_append] at hl;obtain⟨L,eL⟩:∃L,tl.all=L:=⟨_,rfl⟩
 obtain⟨Q,eQ⟩:∃Q,tr.all=Q:=⟨_,rfl⟩
 rw[eL] at b0;rw[eQ] at b1;rw[eL,eQ] at hn2 hl⊢;have e:((L++Q).map pW).length=L.length+Q.length:=by rw[List.length_map,List.length_append]
 have hat:∀i,i<L.length+Q.length->∃x,(L++Q)[i]? =some x:=λi hi=>⟨_,List.getElem?_eq_getElem (by rw[List.length_append];exact hi)⟩
 have pn:purL (ns.map nW)=true:=yhq xfq _;have pf:purW (.fz ((L++Q).map pW) 33 f)=true:=qLq _;refine gIs 11 O (λk0=>?_);refine gZ 0 O e (gF 0 O (eqI_not.2 Xd) (gZ 9 O e (gF 0 O (eqI_not.2 Xd) (zfq 18 O ?_))));have z0:Q.take (0-L.length)=[]:=by rw[Nat.zero_sub];rfl
 refine qeq (α:=Nat) (λi=>i<=L.length+Q.length) (λi=>[(8,gW 3 33 ((L.take i).map pW)),(10,.int .i64 (i:Int)),(9,gW 4 33 ((Q.take (i-L.length)).map pW)),(1,.fz ((L++Q).map pW) 33 f),(2,.int .i64 (d:Int)),(3,.ptr 1 0),(6,.ptr 2 0)]) (λi=>ofH2 ns r (L.take i) (Q.take (i-L.length))) (λ_=>5) (λ_=>R) (λi=>L.length+Q.length-i) 0 (Nat.zero_le _) ((jLq (fr2:=[(8,.nils),(10,.int .i64 0),(9,.nils),(1,.fz ((L++Q).map pW) 33 f),(2,.int .i64 (d:Int)),(3,.ptr 1 0),(6,.ptr 2 0)]) ⟨rfl,rfl,rfl,rfl,rfl,rfl,rfl,trivial⟩).trans ((jLq (fr2:=[(8,.nils),(10,.int .i64 0),(9,.nils),(1,.fz ((L++Q).map pW) 33 f),(2,.int .i64 (d:Int)),(3,.ptr 1 0),(6,.ptr 2 0)]) ⟨rfl,rfl,rfl,rfl,rfl,rfl,rfl,trivial⟩).trans (zSq ⟨rfl,rfl,by rw[z0];rfl,rfl,rfl,rfl,rfl,trivial⟩ (by rw[z0];unfold ofH2;rw[show gH 4 191 33 (([]:List Pr).map pW)=[] from rfl,show gH 3 191 33 ((L.take 0).map pW)=[] from rfl,List.append_nil,List.append_nil];rfl) rfl))) (λi hI=>?_);skip
 have hI:i<=L.length+Q.length:=hI;refine zQq 5 O (gZ 0 O e ?_);refine gS 3 O (λh1=>?_) (λh1=>?_)
 ·have hi:i<L.length+Q.length:=by omega
  obtain⟨x,hx⟩:=hat i hi;skip
  by_cases hcl:i<L.length
  ·have hxl:L[i]? =some x:=by rw[List.getElem?_append_left hcl] at hx;exact hx
   have hbit:bitN x.1 d=0:=b0 x (List.mem_of_getElem? hxl);have zq:Q.take (i-L.length)=[]:=by rw[show i-L.length=0 by omega];rfl
   have zq':Q.take (i+1-L.length)=[]:=by rw[show i+1-L.length=0 by omega];rfl
   have hL2:(L.take (i+1)).map pW=(L.take i).map pW++[pW x]:=by rw[List.take_add_one,hxl,List.map_append];rfl
   have hlt:((L.take i).map pW).length<=1000000:=by rw[List.length_map,List.length_take];omega
   rw[zq,ofH2_l];refine gP 8 O (zvq (i:=i) O O O O O O O (zsq pW hx)) (gC 3 O (Kaq x.1 d hd) (gT 0 O (eqI_iff.2 (by rw[hbit];rfl)) (gP 7 O (zvq (i:=i) O O O O O O O (zsq pW hx)) (gM 2 O (zRq O O (qzq ((5,_)::ofG ns r) (k:=ti191) (news:=[pW x]) O O O O O (zPq O O O O) Xh (by show(((L.take i).map pW).length+1)*56<=_;omega) (by show((L.take i).map pW).length+1<=_;omega) rfl (λp hp=>by rcases List.mem_cons.1 hp with q|q;(rw[q];show¬5=3;omega);have:=j3q p q;omega))) (gA 6 O (i+1) (zfq 2 O ?_))))));skip
   refine yaq (i+1) hi Xd ?_;simp only[zq',ofH2_l,hL2];exact Ent.trans (qxq (b:=3) (H0:=ofG ns r) (l2:=(L.take i).map pW++[pW x]) (n:=((L.take i).map pW++[pW x]).length) (fr2:=[(10,.int .i64 ((i+1:Nat):Int)),(9,.nils),(1,.fz ((L++Q).map pW) 33 f),(2,.int .i64 (d:Int)),(3,.ptr 1 0),(6,.ptr 2 0)]) 6 8 Xd Xd Ym Xh O O ⟨rfl,rfl,rfl,rfl,rfl,rfl,trivial⟩ ⟨rfl,rfl,zcq pf,rfl,rfl,rfl,trivial⟩ rfl Xh (uIq ⟨⟨by omega,rfl,rfl⟩,⟨by omega,rfl,by simp[tgW,refB,refL,ref_g]⟩,trivial⟩ (subH_g Xd pn (λx q h=>ofG_g (r:=r) h))) (ofG_nd ns r)) (jLq ⟨rfl,rfl,rfl,rfl,rfl,rfl,rfl,trivial⟩)
  ·have hxq:Q[i-L.length]? =some x:=by rw[List.getElem?_append_right Xd] at hx;exact hx
   have hbit:bitN x.1 d=1:=b1 x (List.mem_of_getElem? hxq);have zl:L.take i=L:=List.take_of_length_le Xd;have zl':L.take (i+1)=L:=List.take_of_length_le Xd;have hQ2:(Q.take (i+1-L.length)).map pW=(Q.take (i-L.length)).map pW++[pW x]:=by rw[show i+1-L.length=(i-L.length)+1 by omega,List.take_add_one,hxq,List.map_append];rfl
   have hlt:((Q.take (i-L.length)).map pW).length<=1000000:=by rw[List.length_map,List.length_take];omega
   have hnm:∀p∈ofG ns r++gH 3 191 33 (L.map pW),p.1<4:=λp hp=>by
    rcases List.mem_append.1 hp with hp|hp
    ·have:=j3q p hp;omega
    ·rw[kfq p hp];omega
   rw[zl];refine gP 8 O (zvq (i:=i) O O O O O O O (zsq pW hx)) (gC 3 O (Kaq x.1 d hd) (gF 0 O (eqI_not.2 (by rw[hbit];decide)) (gP 7 O (zvq (i:=i) O O O O O O O (zsq pW hx)) (gM 2 O (zRq O O (qzq ((5,_)::(ofG ns r++gH 3 191 33 (L.map pW))) (k:=ti191) (news:=[pW x]) O O O O O (zPq O O O O) Xh (by show(((Q.take (i-L.length)).map pW).length+1)*56<=_;omega) (by show((Q.take (i-L.length)).map pW).length+1<=_;omega) rfl (λp hp=>by rcases List.mem_cons.1 hp with q|q;(rw[q];show¬5=4;omega);have:=hnm p q;omega))) (gA 6 O (i+1) (zfq 2 O ?_))))));skip
   refine yaq (i+1) hi Xd ?_;simp only[zl',hQ2];exact Ent.trans (qxq (b:=4) (H0:=ofG ns r++gH 3 191 33 (L.map pW)) (l2:=(Q.take (i-L.length)).map pW++[pW x]) (n:=((Q.take (i-L.length)).map pW++[pW x]).length) (fr2:=[(8,gW 3 33 (L.map pW)),(10,.int .i64 ((i+1:Nat):Int)),(1,.fz ((L++Q).map pW) 33 f),(2,.int .i64 (d:Int)),(3,.ptr 1 0),(6,.ptr 2 0)]) 6 9 Xd Xd Ym Xh O O ⟨rfl,rfl,rfl,rfl,rfl,rfl,trivial⟩ ⟨ref_g Xd,rfl,zcq pf,rfl,rfl,rfl,trivial⟩ rfl Xh (uIq (uIq ⟨⟨by omega,rfl,rfl⟩,⟨by omega,rfl,by simp[tgW,refB,refL,ref_g]⟩,trivial⟩ (subH_g Xd pn (λx q h=>qwq (ofG_g (r:=r) h)))) (subH_g Xd Xh (λx q h=>by show hget (ofG ns r++gH 3 191 33 (L.map pW)) 3=_;rw[h];exact jBq (λp hp=>by have:=j3q p hp;omega)))) (jAq (λp hp=>by have:=j3q p hp;omega) (ofG_nd ns r))) (zSq ⟨rfl,rfl,rfl,rfl,rfl,rfl,rfl,trivial⟩ (by unfold ofH2;rw[hQ2]) rfl)
 ·have hi:i=L.length+Q.length:=by omega
  have zl:L.take i=L:=List.take_of_length_le Xd;have zq:Q.take (i-L.length)=Q:=List.take_of_length_le Xd;rw[zl,zq];have pL:purL (L.map pW)=true:=qLq _;have pQ:purL (Q.map pW)=true:=qLq _
  have nG:∀p∈ofG ns r++gH 3 191 33 (L.map pW),p.1≠4:=λp hp=>by
   rcases List.mem_append.1 hp with hp|hp
   ·have:=j3q p hp;omega
   ·rw[kfq p hp];omega
  have nP:∀(k:Nat) (ns':List Node),∀p∈ofP k ns' r,p.1=2\/p.1=1:=λk ns' p hp=>by
   simp only[ofP,List.mem_cons,List.not_mem_nil,or_false] at hp;rcases hp with q|q<;>rw[q]
   ·exact .inl rfl
   ·exact .inr rfl
  have frz:∀k0,Ent cfg G 1 k0 [(8,gW 3 33 (L.map pW)),(10,.int .i64 (i:Int)),(9,gW 4 33 (Q.map pW)),(1,.fz ((L++Q).map pW) 33 f),(2,.int .i64 (d:Int)),(3,.ptr 1 0),(6,.ptr 2 0)] (ofH2 ns r L Q) 5 R [(8,.fz (L.map pW) 33 false),(9,.fz (Q.map pW) 33 false),(2,.int .i64 (d:Int)),(3,.ptr 1 0),(6,.ptr 2 0)] (ofG ns r) 5 R:=λk0=>
   Ent.trans (ent_frg (b:=4) (X:=ofG ns r++gH 3 191 33 (L.map pW)) (fr2:=[(8,gW 3 33 (L.map pW)),(2,.int .i64 (d:Int)),(3,.ptr 1 0),(6,.ptr 2 0)]) 9 Xm pQ Xd rfl (λblk h=>⟨⟨_,rfl,JOq (h 3 Xm)⟩,⟨_,rfl,.pur rfl⟩,⟨_,rfl,.ptrK (h 1 Xm)⟩,⟨_,rfl,.ptrK (h 2 Xm)⟩,trivial⟩) (λblk h=>k9q (k9q ⟨⟨by decide,_,rfl,.pur rfl⟩,⟨by decide,_,rfl,.agg (.cons (JOq (h 0 Xm)) (.cons (.pur rfl) .nil))⟩,trivial⟩ (subVH_g Xm pn (λx q h=>qwq (qwq (ofG_g (r:=r) h))))) (subVH_g Xm pL (λx q h=>by rw[h];exact qwq (jBq (λp hp=>by have:=j3q p hp;omega))))) (jAq (λp hp=>by have:=j3q p hp;omega) (ofG_nd ns r)) nG)
    (ent_frg (b:=3) (X:=ofG ns r) (fr2:=[(9,.fz (Q.map pW) 33 false),(2,.int .i64 (d:Int)),(3,.ptr 1 0),(6,.ptr 2 0)]) 8 Xm pL Xd rfl (λblk h=>⟨⟨_,rfl,.pur pQ⟩,⟨_,rfl,.pur rfl⟩,⟨_,rfl,.ptrK (h 1 Xm)⟩,⟨_,rfl,.ptrK (h 2 Xm)⟩,trivial⟩) (λblk h=>k9q ⟨⟨by decide,_,rfl,.pur rfl⟩,⟨by decide,_,rfl,.agg (.cons (JOq (h 0 Xm)) (.cons (.pur rfl) .nil))⟩,trivial⟩ (subVH_g Xm pn (λx q h=>qwq (ofG_g (r:=r) h)))) (ofG_nd ns r) (λp hp=>by have:=j3q p hp;omega))
  refine co_ent (Ent.trans (zSq (fr2:=[(8,gW 3 33 (L.map pW)),(10,.int .i64 (i:Int)),(9,gW 4 33 (Q.map pW)),(1,.fz ((L++Q).map pW) 33 f),(2,.int .i64 (d:Int)),(3,.ptr 1 0),(6,.ptr 2 0)]) ⟨rfl,rfl,rfl,rfl,rfl,rfl,rfl,trivial⟩ O O) (frz _)) ?_;have hP:∀(k nw:Nat) (ns':List Node),k≠2->k≠1->3<=nw->∀p∈ofP k ns' r,p.1≠k/\p.1<nw:=λk nw ns' h1 h2 h3 p hp=>by rcases nP k ns' p hp with q|q<;>omega
  have ndP:∀(k:Nat) (ns':List Node),((ofP k ns' r).map (·.1)).Nodup:=λk ns'=>by simp[ofP]
  refine yQq 2 O (yNq Xi (zJq 7 O (gA 0 O (d+1) (op_of (f:=false) 0 (ofP 0 ns r) O O O O (by rw[eL];rfl) rfl (hP 0 5 ns Xd Xd Xd) (ndP _ _) Xd cL Xd ?_))));intro m1 n1 k1 hm1 hr1 hk1;have a1:(ns++m1).length=ns.length+cntT tl:=by rw[List.length_append,hm1]
  refine ziq 12 O (gA 0 O (d+1) (op_of (f:=false) k1 (ofP k1 (ns++m1) r) O O O O (by rw[eQ];rfl) rfl (hP k1 7 (ns++m1) Xd Xd Xd) (ndP _ _) Xd cR Xd ?_));intro m2 n2 k2 hm2 hr2 hk2;have a2:((ns++m1)++m2).length=ns.length+cntT tl+cntT tr:=by rw[List.length_append,a1,hm2]
  refine ziq 10 O (gM 0 O (z1q O O O (g_get k2 36 _ _)) (zfq 3 O (qOq (λ_=>ent_view [(87,nW (k4q n1 n2)),(84,gW k2 36 (((ns++m1)++m2).map nW)),(3,.ptr 1 0),(6,.ptr 2 0)] ⟨⟨_,rfl,.agg (.cons (.pur rfl) (.cons qrq (.cons .nilfz (.cons (.pur rfl) (.cons (.pur rfl) .nil)))))⟩,⟨_,rfl,JOq rfl⟩,⟨_,rfl,.ptrK rfl⟩,⟨_,rfl,.ptrK rfl⟩,trivial⟩) (qdq O O ?_))))
  refine qdq rfl (zRq O O (qzq ((9,_)::ofP k2 ((ns++m1)++m2) r) (k:=ti163) (news:=[nW (k4q n1 n2)]) O O O O O (zPq O O O O) Xh (by show((((ns++m1)++m2).map nW).length+1)*80<=_;rw[List.length_map];omega) (by show(((ns++m1)++m2).map nW).length+1<=_;rw[List.length_map];omega) rfl (λp hp=>by rcases List.mem_cons.1 hp with q|q;(rw[q];show¬9=k2;omega);rcases nP k2 _ p q with q|q<;>omega))) ?_;refine zdq O O (qdq rfl (qsq O O O O O (g_put k2 36 _ _ _ _) rfl) ?_);refine ziq 7 O (gL 0 O (zfq 5 O ?_));obtain⟨M,eM⟩:∃M,(ns++m1)++m2=M:=⟨_,rfl⟩
  rw[eM] at a2⊢;have e2:(M++[k4q n1 n2]).map nW=M.map nW++[nW (k4q n1 n2)]:=by rw[List.map_append];rfl
  have pM:purL (M.map nW++[nW (k4q n1 n2)])=true:=by rw[<-e2];exact yhq xfq _
  have en:(M.map nW++[nW (k4q n1 n2)]).length=M.length+1:=by rw[<-e2,List.length_map,List.length_append];rfl
  have hne:M.map nW++[nW (k4q n1 n2)]≠[]:=by simp
  have ems:ns++(m1++m2++[k4q n1 n2])=M++[k4q n1 n2]:=by rw[<-eM];simp
  have hM1:n1<=M.length:=by have:=hr1.le;rw[a1] at this;omega
  have hM2:n2<=M.length:=by have:=hr2.le;rw[eM] at this;exact this
  have hrep:Rep (M++[k4q n1 n2]) (M.length+1) (.fork tl tr):=.fork (l:=n1) (r:=n2) (k:=yZq) (v:=[]) (by rw[List.getElem?_append_right (Nat.le_refl _),Nat.sub_self];rfl) hM1 hM2 (by rw[<-eM];exact(hr1.app m2).app _) (by have:=hr2.app [k4q n1 n2];rwa[eM] at this);refine fin (w:=.tup [tgW 1 (M++[k4q n1 n2]) r,.int .i64 ((M.length+1:Nat):Int)]) Jp (ent_mid (b:=1) (k:=10) (nw2:=3) (fr2:=[(6,.ptr 2 0),(7,.int .i64 ((M.length+1:Nat):Int))]) (hp2:=[(2,24,tgW 1 (M++[k4q n1 n2]) r)]++gH 1 163 36 ((M++[k4q n1 n2]).map nW)) Xd Xd Xd (by show 10<11;omega) ⟨⟨rfl,rfl⟩,⟨?_,rfl⟩,trivial⟩ ?_ (jAq Xh Xh)) rfl (show _=_/\OfQ ns r (.fork tl tr) _ _ _ from⟨rfl,m1++m2++[k4q n1 n2],M.length+1,by simp[hm1,hm2,cntT];omega,by rw[ems];exact hrep,by rw[ems];rfl,by rw[ems];rfl,rfl⟩)
  ·show some (W.int .i64 (((M.map nW++[nW (k4q n1 n2)]).length:Nat):Int))=some (W.int .i64 ((M.length+1:Nat):Int));rw[en]
  ·unfold tgW;rw[e2,qXq hne,qYq hne];exact⟨⟨by omega,rfl,rfl⟩,⟨by omega,by rw[zgq (show purW (.arr _ 36 _)=true from pM)];rfl,zcq (show purW (.arr _ 36 _)=true from pM)⟩,trivial⟩
theorem Kpq:∀(t:T) (d:Nat) (b:Dig),Zr d b->t.ok d b=true->t.all.length<=1000000->(∀p∈t.all,p.2.length<=70368744177664) ->OfS G t d
 |.nil,d,b,_,_,_,_=>of_nil d
 |.leaf k v,d,b,_,_,_,hv=>of_leaf d k v (hv (k,v) (by simp[T.all]))
 |.fork l r,d,b,hz,ok,hl,hv=>by
  obtain⟨hd,okL,okR,two⟩:=ok_fork.1 ok;have hall:(T.fork l r).all=l.all++r.all:=by simp[T.all]
  have h2:=hl;rw[hall,List.length_append] at h2;exact of_fork l r d b hz ok hl (Kpq l (d+1) b (q6q hz) okL Xd λp hp=>hv p (by rw[hall];exact List.mem_append_left _ hp)) (Kpq r (d+1) (qCq b d) (q5q hz hd) okR Xd λp hp=>hv p (by rw[hall];exact List.mem_append_right _ hp))
theorem cnt_le:∀{t:T} {d:Nat} {b:Dig},t.ok d b=true->d<=256->cntT t<=t.all.length*(257-d)
 |.nil,d,b,_,_=>Nat.zero_le _
 |.leaf k v,d,b,_,hd=>by simp only[cntT,T.all,List.length_cons,List.length_nil];omega
 |.fork l r,d,b,h,hd=>by
  obtain⟨h0,h1,h2,h3⟩:=ok_fork.1 h;have l1:=cnt_le h1 Xd;have l2:=cnt_le h2 Xd;have l3:=Znq h1 h2 h3;have e:(T.fork l r).all.length=l.all.length+r.all.length:=by simp[T.all]
  rw[e];show cntT l+cntT r+1<=_;have e1:257-d=(257-(d+1))+1:=by omega
  rw[e1,Nat.mul_succ,Nat.add_mul];omega
theorem J7q(τ:Nat->Nat):∀(a b:HpW),renH τ (a++b)=renH τ a++renH τ b
 |[],b=>rfl
 |(k,ty,w)::a,b=>by
  show(τ k,ty,renW τ w)::renH τ (a++b)=_;rw[J7q τ a b];rfl
theorem rttwin_o(t:Tree)(hb:t.nodes.length<=1000000000)(hv:∀x∈t.nodes,x.val.length<=70368744177664):yYq cfg G 71 0 [tW t] [] λw hp nw=>w=tgW 3 t.nodes t.root/\hp=[(2,24,tgW 3 t.nodes t.root),(1,24,tgW 3 t.nodes t.root),(0,24,tW t)]++gH 3 163 36 (t.nodes.map nW)/\nw=4:=by
 intro R;refine gIs 18 O (λk0=>?_);refine qOq (λ_=>jLq (fr2:=[(1,.ptr 0 0),(2,.ptr 1 0),(3,.ptr 2 0)]) ⟨rfl,rfl,rfl,trivial⟩) (zdq O O ?_)
 refine ziq 3 O ?_;refine qjq (α:=Nat) (λi=>i<=t.nodes.length) (λi=>[(4,.int .i64 (i:Int))]) [(1,_),(2,_),(3,_)] (λi=>[(2,24,.agg 2 [gW 3 36 ((t.nodes.take i).map nW),.int .i64 t.root]),(1,24,.agg 2 [.nils,.int .i64 0]),(0,24,tW t)]++gH 3 163 36 ((t.nodes.take i).map nW)) (λi=>t.nodes.length-i) (0) ⟨rfl,rfl,rfl,trivial⟩ (Nat.zero_le _) ⟨rfl,trivial⟩ (rfl) (λi hI=>?_);refine zQq 6 O (gZ 0 O LMq ?_);refine gS 3 O (λh1=>?_) (λh1=>?_)
 ·have hi:i<t.nodes.length:=by omega
  obtain⟨x,hx⟩:∃x,t.nodes[i]? =some x:=⟨_,List.getElem?_eq_getElem hi⟩
  have hxv:=hv x (List.mem_of_getElem? hx);have el:((t.nodes.take i).map nW).length=i:=by simp;omega
  have es:(t.nodes.take (i+1)).map nW=(t.nodes.take i).map nW++[nW x]:=by rw[List.take_add_one,hx,List.map_append];rfl
  have ep:purL ((t.nodes.take i).map nW++[nW x])=true:=by rw[<-es];exact yhq xfq _
  refine gP 9 O (zvq (i:=i) O O O O O O O (zsq nW hx)) (gC 9 O (ueq x.val false hxv) (gM 6 O (z1q O O O (g_get 3 36 _ _)) (gM 2 O (zRq O O (qzq [_,_,_,_,_] (k:=ti163) (news:=[nW x]) O O O O O (zPq O O O O) Xh (by show(((t.nodes.take i).map nW).length+1)*80<=_;omega) (by show((t.nodes.take i).map nW).length+1<=_;omega) rfl Xh)) (gM 1 O (qsq O O O O O (g_put 3 36 _ _ _ _) rfl) (gA 5 O (i+1) (zfq 2 O ?_))))));skip
  refine yaq (i+1) hi Xd ?_;simp only;have hne:(t.nodes.take i).map nW++[nW x]≠[]:=List.append_ne_nil_of_right_ne_nil _ Xh;rw[es,qXq hne,qYq hne];refine yoq (b:=3) (k:=6) Xd Xd Xd ⟨⟨rfl,rfl⟩,⟨rfl,rfl⟩,⟨rfl,rfl⟩,⟨rfl,rfl⟩,trivial⟩ ⟨⟨by omega,rfl,rfl⟩,⟨by omega,rfl,rfl⟩,⟨by omega,?_,zcq Xh⟩,⟨by omega,?_,zcq ep⟩,trivial⟩ Xh
  ·rw[zgq Xh];rfl
  ·rw[zgq (by exact ep)];rfl
 ·have hi:i=t.nodes.length:=by omega
  subst hi;rw[List.take_length];exact zfq 2 O (yNq Xi (zJq 9 O (fin Jp Ent.refl rfl ⟨rfl,rfl,rfl,rfl⟩)))
noncomputable def tgC(a b:Nat)(c:Ch):W:=.agg 3 [tgW a c.tree.nodes c.tree.root,gW b 102 (c.links.map lkG)]
theorem cg_get(x y:W)(b:Nat)(l:List W):ycq 50 (.agg 3 [.agg 2 [x,y],gW b 102 l]) 2 1 false=some (gW b 102 l):=by cases l<;>rfl
theorem cg_put(x y:W)(b:Nat)(l:List W)(b' n:Nat):qtq 50 (.agg 3 [.agg 2 [x,y],gW b 102 l]) 2 (.sl b' 0 0 n 102 none)=some (.agg 3 [.agg 2 [x,y],.sl b' 0 0 n 102 none]):=by cases l<;>rfl
theorem rchtwin_o(c:Ch)(hs:SmallC c):yYq cfg G 10 0 [chG c] [] λw hp nw=>w=tgC 5 7 c/\hp=([(6,27,tgC 5 7 c),(1,27,tgC 5 7 c),(0,27,chG c)]++gH 5 163 36 (c.tree.nodes.map nW))++gH 7 155 102 (c.links.map lkG)/\nw=8:=by
 obtain⟨q1,q2,q3,q4⟩:=hs;have e:(c.links.map lkG).length=c.links.length:=List.length_map _;have hN:purL (c.tree.nodes.map nW)=true:=yhq xfq _;have ht:=rttwin_o (G:=G) c.tree Xd q2;obtain⟨N,hNe⟩:∃N,c.tree.nodes.map nW=N:=⟨_,rfl⟩
 have nm:∀p∈gH 5 163 36 N,p.1=5:=kfq
 have e1:renW (numC [] 2) (tgW 3 c.tree.nodes c.tree.root)= .agg 2 [gW 5 36 N,.int .i64 c.tree.root]:=by
  show W.agg 2 [renW _ (gW 3 36 (c.tree.nodes.map nW)),_]=_;rw[ren_g,hNe];rfl
 have e2:renH (numC [] 2) ([(2,24,tgW 3 c.tree.nodes c.tree.root),(1,24,tgW 3 c.tree.nodes c.tree.root),(0,24,tW c.tree)]++gH 3 163 36 (c.tree.nodes.map nW))=[(4,24,renW (numC [] 2) (tgW 3 c.tree.nodes c.tree.root)),(3,24,renW (numC [] 2) (tgW 3 c.tree.nodes c.tree.root)),(2,24,renW (numC [] 2) (tW c.tree))]++gH 5 163 36 N:=by
  rw[J7q,renH_g _ _ _ _ hN,hNe];rfl
 unfold tgC tgW;rw[hNe] at hN⊢;intro R;refine gIs 10 O (λk0=>?_);refine zlq rfl (yCq O O O O O (by simp[purL]) ht ?_);rintro w hp1 nw1 ⟨rfl,rfl,rfl⟩;rw[e1,e2];refine qOq (λ_=>ent_mv (Y:=[(1,27,.agg 3 [.agg 2 [.nils,.int .i64 0],.nils]),(0,27,chG c)]) (by rw[<-List.append_assoc];exact jAq (λp hp=>by simp only[List.mem_cons,List.mem_append,List.not_mem_nil,or_false] at hp;rcases hp with (rfl|rfl|rfl)|rfl|rfl<;>simp) Xh)) ?_
 refine ziq 8 O (qOq (λ_=>jLq (fr2:=[(1,.ptr 0 0),(2,.ptr 1 0),(3,.ptr 6 0)]) ⟨rfl,rfl,rfl,trivial⟩) (zdq O O ?_))
 refine ziq 3 O ?_;refine qjq (α:=Nat) (λi=>i<=c.links.length) (λi=>[(4,.int .i64 (i:Int))]) [(1,_),(2,_),(3,_)] (λi=>([(6,27,.agg 3 [.agg 2 [gW 5 36 N,.int .i64 c.tree.root],gW 7 102 ((c.links.take i).map lkG)]),(1,27,.agg 3 [.agg 2 [.nils,.int .i64 0],.nils]),(0,27,chG c)]++gH 5 163 36 N)++gH 7 155 102 ((c.links.take i).map lkG)) (λi=>c.links.length-i) (0) ⟨rfl,rfl,rfl,trivial⟩ (Nat.zero_le _) ⟨rfl,trivial⟩ ((List.append_nil _).symm) (λi hI=>?_);refine zQq 6 O (gZ 0 O e ?_);refine gS 3 O (λh1=>?_) (λh1=>?_)
 ·have hi:i<c.links.length:=by omega
  obtain⟨x,hx⟩:∃x,c.links[i]? =some x:=⟨_,List.getElem?_eq_getElem hi⟩
  obtain⟨b1,b2,b3⟩:=q4 x (List.mem_of_getElem? hx);have e3:(x.rs.map rcW).length=x.rs.length:=List.length_map _;have el:((c.links.take i).map lkG).length=i:=by simp;omega
  have es:(c.links.take (i+1)).map lkG=(c.links.take i).map lkG++[lkG x]:=by rw[List.take_add_one,hx,List.map_append];rfl
  have ep:purL ((c.links.take i).map lkG++[lkG x])=true:=by rw[<-es];exact jRq _
  refine gP 9 O (zvq (i:=i) O O O O O O O (zsq lkG hx)) (gC 9 O (vIq x.ds x.xs false false b1 b2) (zfq 14 O ?_))
  (refine zlq rfl (uJq (k:=ti98) (e:=34) (news:=x.rs.map rcW) O O O O O O O O O Xh Ja Xd ?_))
  refine ziq 6 O (gM 0 O (z1q O O O (cg_get _ _ 7 _)) ?_);refine gM 2 O (zRq O O (qzq (_::_::([_,_,_]++gH 5 163 36 N)) (k:=ti155) (news:=[lkG x]) O O O O O (zPq O O O O) Xh (by show(((c.links.take i).map lkG).length+1)*192<=_;omega) (by show((c.links.take i).map lkG).length+1<=_;omega) rfl (λp hp=>by simp only[List.mem_cons,List.mem_append,List.not_mem_nil,or_false] at hp;rcases hp with rfl|rfl|(rfl|rfl|rfl)|hp<;>first|(rw[nm p hp];decide)|(simp;done)))) ?_;refine gM 1 O (qsq O O O O O (cg_put _ _ 7 _ _ _) rfl) (gA 5 O (i+1) (zfq 2 O ?_));skip
  refine yaq (i+1) hi Xd ?_;simp only;have hne:(c.links.take i).map lkG++[lkG x]≠[]:=List.append_ne_nil_of_right_ne_nil _ Xh;rw[es,qXq hne,qYq hne]
  refine yoq (b:=7) (k:=11) Xd Xd Xd ⟨⟨rfl,rfl⟩,⟨rfl,rfl⟩,⟨rfl,rfl⟩,⟨rfl,rfl⟩,trivial⟩ (uaq (uaq ⟨⟨by omega,?_,?_⟩,⟨by omega,rfl,rfl⟩,⟨by omega,?_,zcq Xh⟩,trivial⟩ (subRH_g Xd hN λy r h=>by rw[h];rfl)) ⟨⟨by omega,?_,zcq ep⟩,trivial⟩) (by
   rw[List.map_append];refine List.nodup_append.2 ⟨jAq Xh Xh,by simp,λa ha b hb q=>?_⟩;obtain⟨p,hp,rfl⟩:=List.mem_map.1 ha;simp only[List.map_cons,List.map_nil,List.mem_cons,List.not_mem_nil,or_false] at hb;subst hb;simp only[List.mem_cons,List.mem_append,List.not_mem_nil,or_false] at hp;rcases hp with (rfl|rfl|rfl)|hp<;>first|(simp at q;done)|(rw[nm p hp] at q;simp at q))
  ·show some (_,W.agg 3 [W.agg 2 [gW 5 36 N,_],_])=some (_,W.agg 3 [W.agg 2 [renW _ (gW 5 36 N),_],renW _ (.sl 7 0 0 _ 102 none)]);rw[ren_g];rfl
  ·show((refB _ (gW 5 36 N)&&_)&&_)=true;rw[ref_g Xd];rfl
  ·rw[zgq Xh];rfl
  ·rw[zgq (by exact ep)];rfl
 ·have hi:i=c.links.length:=by omega
  subst hi;rw[List.take_length];exact zfq 2 O (yNq Xi (zJq 9 O (fin Jp Ent.refl rfl ⟨rfl,rfl,rfl,rfl⟩)))
theorem clink_s(x:Lk)(h:x.ds.length<=1000000/\x.xs.length<=1000000/\x.rs.length<=1000000):PS cfg G 101 [lkG x] (lkG x):=by
 obtain⟨h1,h2,h3⟩:=h;exact gI 11 O (λR k0=>gC 0 O (cld_s x.ds false Xd) (gC 3 O (clx_s x.xs false Xd) (gC 9 O (clr_s x.rs false Xd) (gQa 11 O))))
theorem ctrn_s(l:List Lk)(f:Bool)(hl:l.length<=1000000)(hs:∀x∈l,x.ds.length<=1000000/\x.xs.length<=1000000/\x.rs.length<=1000000):PL cfg G 100 [.fz (l.map lkG) 102 f,.fn 101 [] []] 155 102 (l.map lkG):=by
 intro R;refine gIs 14 O (λk0=>?_);refine gZ 0 O LMq (zfq 4 O ?_);refine xWq (α:=Nat) (λi=>i<=l.length) 5 (λi=>(l.take i).map lkG) 155 102 (λi=>[(10,.int .i64 (i:Int))]) [(1,_),(4,_),(8,_),(9,_)] _ (λi=>l.length-i) (0) ⟨rfl,rfl,rfl,rfl,trivial⟩ (Nat.zero_le _) ⟨rfl,trivial⟩ O O O (λi hI=>?_);refine zQq 6 O ?_;refine gS 0 O (λh1=>?_) (λh1=>?_)
 ·have hi:i<l.length:=by omega
  obtain⟨x,hx⟩:∃x,l[i]? =some x:=⟨_,List.getElem?_eq_getElem hi⟩
  have es:(l.take (i+1)).map lkG=(l.take i).map lkG++[lkG x]:=by rw[List.take_add_one,hx,List.map_append];rfl
  have el:((l.take i).map lkG).length=i:=by simp;omega
  have ep:purL ((l.take i).map lkG++[lkG x])=true:=by rw[<-es];exact jRq _
  have ep2:purL ((l.take i).map lkG)=true:=jRq _;exact gP 6 O (zvq (i:=i) O O O O O O O (zsq lkG hx)) (gC 9 O (clink_s x (hs x (List.mem_of_getElem? hx))) (gM 1 O (zRq O O (qzq [_,_] (k:=ti155) (news:=[lkG x]) O O O O O (zPq O O O O) Xh (by show(((l.take i).map lkG).length+1)*192<=_;omega) (by show((l.take i).map lkG).length+1<=_;omega) rfl Xh)) (gWr 5 O (zfq 2 O (jhq 3 (i+1) (hi) Xd (Nat.zero_le _) (es) Xx Xd Yj rfl Xz ⟨rfl,trivial⟩ ⟨rfl,rfl,rfl,rfl,trivial⟩ Xg Xg rfl Xk Xj Ya)))))
 ·have hi:i=l.length:=by omega
  subst hi;rw[List.take_length];exact zfq 2 O (yNq Xi (zJq 9 O (fin Jp (zSq (fr2:=[(4,gW 0 102 (l.map lkG))]) ⟨rfl,trivial⟩ O O) rfl ⟨rfl,rfl,rfl,rfl⟩)))
theorem SmallC.vl{c:Ch}(h:SmallC c):c.tree.nodes.length<=1000000000:=by have:=h.nodes;omega
noncomputable def ownC(b:Nat)(c:Ch):W:=.agg 3 [tW c.tree,.sl b 0 0 c.links.length 102 none]
noncomputable def ownH(b0 b1 b:Nat)(c:Ch):HpW:=[(b,155,.arr (c.links.length*102) 102 (c.links.map lkG)),(b1,27,ownC b c),(b0,27,chG c)]
theorem ctwin_o(c:Ch)(hs:SmallC c)(hne:c.links≠[]):yYq cfg G 24 0 [chG c] [] λw hp nw=>w=ownC 2 c/\hp=ownH 0 1 2 c/\nw=3:=by
 have hne2:c.links.map lkG≠[]:=by simpa using hne
 have e:(c.links.map lkG).length=c.links.length:=List.length_map _;intro R;refine gIs 10 O (λk0=>?_);refine gC 0 O (YFq c.tree hs.vl hs.vals) (zfq 2 O ?_)
 (refine zZq rfl (kzq O O O O O (by simp[purL,purW]) (ctrn_s c.links false hs.len hs.link) (jRq _) ?_);refine⟨by first|rfl|kernel_rfl,?_⟩;rw[qXq hne2,qYq hne2,e])
 exact ygq 5 O (fin Jp Ent.refl rfl ⟨rfl,rfl,rfl,rfl⟩)
theorem ren_own(τ:Nat->Nat)(b:Nat)(c:Ch):renW τ (ownC b c)=ownC (τ b) c:=by
 show W.agg 3 [renW τ (tW c.tree),_]=_;rw[zgq (qBq _)];rfl
theorem renH_own(τ:Nat->Nat)(a b d:Nat)(c:Ch):renH τ (ownH a b d c)=ownH (τ a) (τ b) (τ d) c:=by
 unfold ownH;have h:purW (.arr (c.links.length*102) 102 (c.links.map lkG))=true:=jRq _;simp only[renH,ren_own,zgq h,zgq (KVq c)]
theorem step_twin{o:Oper}{fr:FrW}{hp:HpW}{nw:Nat}{R:Res}{post:W->HpW->Nat->Res->Option EvW->Prop}{x:Operand}{xs:Array Operand}{ats:Array TypeId}{a us d:List W}(c:Ch)(hs:SmallC c)(hne:c.links≠[])(ho:o.op= .call ⟨.value x,xs,ats⟩)(hx:evW cfg G fr x=some (.fn 24 a d))(hxs:evLW cfg G fr xs.toList=some us)(hws:a++us++d=[chG c])(h:post (ownC (nw+2) c) (ownH (nw+0) (nw+1) (nw+2) c++hp) (nw+3) R (some .gen)):Step cfg G o fr hp nw R post:=by
 refine yCq ho hx rfl hxs hws (by simp[purL]) (ctwin_o c hs hne) ?_;rintro w hp1 nw1 ⟨rfl,rfl,rfl⟩;rw[ren_own,renH_own];exact h
theorem hdZ_b:W.agg 98 [.int .i64 0,.arr 32 1 (List.replicate 32 (.int .u8 (.ofNat 0))),.arr 32 1 (List.replicate 32 (.int .u8 (.ofNat 0))),.arr 32 1 (List.replicate 32 (.int .u8 (.ofNat 0))),.int .i64 0]=hdW hdZ:=by
 rw[kiq];rfl
theorem chead_no(c:Ch)(hc:OkC c)(h:¬MayC c):PS cfg glK 11 [chG c] (.tup [hdW hdZ,.int .i64 8]):=by
 exact gI 11 O (λR k0=>gC 0 O (zEq (w':=.int .i64 8) (ccheck_s c hc) (by rw[if_neg h])) (gTa 6 O (gV (w':=hdW hdZ) 5 O hdZ_b (gQa 7 O))))
theorem KUq(c:Ch)(hc:OkC c)(h:MayC c){y:Lk}(hy:c.links[c.links.length-1]? =some y):PS cfg glK 11 [chG c] (.tup [hdW y.hdr,.int .i64 0]):=by
 have h1:=h.one;have hl:=hc.len;exact gI 11 O (λR k0=>gC 0 O (zEq (w':=.int .i64 0) (ccheck_s c hc) (by rw[if_pos h])) (gFa 6 O (gZ 11 O LMq (gA 0 O (c.links.length-1) (gP 0 O (zvq (i:=c.links.length-1) O O O O O O O (zsq lkG hy)) (gQa 7 O))))))
noncomputable def noCh:W:=.agg 3 [.agg 2 [.nils,.int .i64 0],.nils]
end
section
attribute [local irreducible] CoW OpW FlW Step Spec
attribute [local simp] qFq
theorem LkS.of0{c:Ch}{box:Dig}{x:Lk}(h:∃n t0,IsA (verT c x.root) n t0/\x.hdr=firH t0/\x.ds=[]/\x.xs=[]):LkS c box 0 x:=⟨λ_=>h,λy h0=>absurd h0 Xm⟩
end
section
attribute [local irreducible] CoW OpW FlW Step Spec
attribute [local simp] qFq
open Classical in
noncomputable def heldL(t:Tree):List Pr:=if h:∃n t0,IsA t n t0 then h.choose_spec.choose.all else []
theorem Yqq{t:Tree}{n:Nat}{t0:T}(h:IsA t n t0):heldL t=t0.all:=by
 have e:∃n t0,IsA t n t0:=⟨n,t0,h⟩
 unfold heldL;rw[dif_pos e,(h.uniq e.choose_spec.choose_spec).2]
structure CanAdd(c:Ch)(ds:List Depo)(xs:List Tx)(box:Dig):Prop where
 may:MayC c
 short:c.links.length<256
 many:ds.length<=16/\xs.length<=16
 goes:doX box (doD (heldL c.tree) ds).1 xs≠none
noncomputable instance(c:Ch)(ds:List Depo)(xs:List Tx)(box:Dig):Decidable (CanAdd c ds xs box):=Classical.propDecidable _
noncomputable def addE(c:Ch)(ds:List Depo)(xs:List Tx)(box:Dig):Nat:=
 if¬MayC c then 8 else if 256<=c.links.length then 9 else if 16<ds.length\/16<xs.length then 4 else badX box (doD (heldL c.tree) ds).1 xs
theorem addE_no{c:Ch}{ds:List Depo}{xs:List Tx}{box:Dig}(h:¬CanAdd c ds xs box):addE c ds xs box≠0:=by
 unfold addE;split
 ·decide
 ·split
  ·decide
  ·split
   ·decide
   ·rename_i h1 h2 h3;have:doX box (doD (heldL c.tree) ds).1 xs=none:=Classical.byContradiction λq=>h ⟨Classical.not_not.1 h1,by omega,by omega,q⟩
    have:=JFq this;omega
def AddA(c:Ch)(ds:List Depo)(xs:List Tx)(box:Dig):W->Prop:=λw=>
 (CanAdd c ds xs box/\∃y t' t1 L,Adds c ds xs box y t' t1 L/\t'.nodes.length<=c.tree.nodes.length+21000/\w= .tup [chG (addC c t' (keq y.hdr t1 L) ds xs L),.int .i64 0])\/(¬CanAdd c ds xs box/\w= .tup [noCh,.int .i64 (addE c ds xs box:Nat)])
noncomputable def addX(t':Tree)(h:Hdr)(ds:List Depo)(xs:List Tx)(L:List Rec):W:=.agg 102 [hdW h,.int .i64 t'.root,bodW ds xs false false,.fz (L.map recW) 34 false]
theorem addX_l(t':Tree)(h:Hdr)(ds:List Depo)(xs:List Tx)(L:List Rec):addX t' h ds xs L=lkG (addL t' h ds xs L):=by
 show addX t' h ds xs L= .agg 102 [hdW h,.int .i64 t'.root,bodW ds xs false false,.fz ((L.map recI).map rcW) 34 false];rw[recI_w];rfl
theorem cadd_s(c:Ch)(hc:OkC c)(hs:SmallC c)(hn:c.tree.nodes.length<=200000)(ds:List Depo)(xs:List Tx)(hB:BodOk ds xs)(box:Dig):PE cfg glK 29 [chG c,bodW ds xs false false,dW box] (AddA c ds xs box):=by
 have e:(c.links.map lkG).length=c.links.length:=List.length_map _;have refuse:∀k:Nat,¬CanAdd c ds xs box->addE c ds xs box=k->∀w,w=W.tup [noCh,.int .i64 (k:Int)] ->AddA c ds xs box w:=λk h1 h2 w h3=>.inr ⟨h1,by rw[h2];exact h3⟩
 by_cases hm:MayC c
 ·obtain⟨y,hy,hroot,hmy⟩:=hm.last;have hno:=hm.one;by_cases hf:c.links.length<256
  ·obtain⟨n,t0,hA,_⟩:=hm.head hy;have hh:=Yqq hA;have hhy:=hmy.height;have hbk:MayBk c.tree y.hdr:=⟨⟨n,t0,hA⟩,hmy.hdr,by omega⟩;by_cases hmany:ds.length<=16/\xs.length<=16
   ·have hP:=apply_s c.tree n t0 hA y.hdr hmy.hdr Xd ds xs false false hB.dep hB.tx box hmany Xd;cases hst:doX box (doD t0.all ds).1 xs with
    |none=>
     have hb:=JFq hst;have hP:=pe_mono hP λw h=>ap_none h hst
     refine gIe 12 O (λR k0=>gC 0 O (KUq c hc hm hy) (gFa 13 O (gZ 8 O e (gF 0 O (eqI_not.2 Xd) (gE 14 O (hP) ?_)))));rintro w hw rfl;exact gT 17 O (congrArg not (eqI_not.2 Xd)) (zfq 13 O (yRq (w':=.tup [noCh,.int .i64 (badX box (doD t0.all ds).1 xs:Nat)]) Jp rfl (.pur rfl) rfl (refuse _ (λq=>q.goes (by rw[hh,hst])) (by unfold addE;rw[if_neg (λq=>q hm),if_neg Xd,if_neg Xd,hh]) _ rfl)))
    |some r=>
     obtain⟨l,rs⟩:=r;obtain⟨L,hL⟩:∃L,(doD t0.all ds).2++rs=L:=⟨_,rfl⟩
     have hrl:=uzq hst;have hdl:=xTq ds t0.all;simp only at hrl;have hLl:L.length<=32:=by rw[<-hL,List.length_append];omega
     have hca:CanAdd c ds xs box:=⟨hm,hf,hmany,by rw[hh,hst];intro q;cases q⟩;refine gIe 12 O (λR k0=>gC 0 O (KUq c hc hm hy) (gFa 13 O (gZ 8 O e (gF 0 O (eqI_not.2 Xd) (zfq 14 O ?_)))));skip
     refine gSo 0 O (step_pe O O O O O hP Xh ?_);rintro w hw hq;obtain⟨t',n',t1,hT,hgo,rfl⟩:=ap_some hq hst;rw[hL];have hadd:Adds c ds xs box y t' t1 L:=⟨hm,hf,hy,hmany,⟨n,t0,n',rs,hA,hT,by rw[hst,hgo.1],hL.symm⟩,by obtain⟨ms,e1,_⟩:=hgo.2;exact⟨ms,e1⟩⟩;have hgrow:t'.nodes.length<=c.tree.nodes.length+21000:=by obtain⟨ms,e1,e2⟩:=hgo.2;rw[e1,List.length_append];omega
     have hz:=addX_l t' (keq y.hdr t1 L) ds xs L;have ep:purL (c.links.map lkG++[addX t' (keq y.hdr t1 L) ds xs L])=true:=by rw[hz];exact jRq (c.links++[addL t' (keq y.hdr t1 L) ds xs L])▸by rw[List.map_append];rfl
     skip
     refine gFa 17 O (zfq 8 O ?_)
     (refine zlq rfl (step_twin c hs (λq=>by rw[q] at hno;cases hno) O O O O ?_))
     refine ziq 12 O (yvq O O O O O (by rw[<-hz];rfl) (clink_s (addL t' (keq y.hdr t1 L) ds xs L) ⟨by show ds.length<=_;omega,by show xs.length<=_;omega,by show(L.map recI).length<=_;rw[List.length_map];omega⟩) ?_);rw[<-hz]
     refine ziq 11 O (gM 0 O (zRq O O (yXq (k:=ti155) (len:=c.links.length) (news:=[addX t' (keq y.hdr t1 L) ds xs L]) (olds:=c.links.map lkG) O O O O (zPq O O O O) Xh (by show(c.links.length+1)*192<=_;omega) (by show c.links.length+1<=_;omega) rfl (by show c.links.length*102<0+(c.links.length+1)*102;omega) rfl (zhq Xm e.symm rfl))) (zfq 14 O ?_));have hmap:(c.links++[addL t' (keq y.hdr t1 L) ds xs L]).map lkG=c.links.map lkG++[addX t' (keq y.hdr t1 L) ds xs L]:=by rw[List.map_append,hz];rfl
     exact yRq (w':=.tup [.agg 3 [tW t',.fz (c.links.map lkG++[addX t' (keq y.hdr t1 L) ds xs L]) 102 false],.int .i64 0]) Jp rfl (.tup (.cons (.agg (.cons (.pur (qBq t')) (.cons (.sl (full:=false) rfl ep (zhq Xm Xh rfl) Xi) .nil))) (.cons (.pur rfl) .nil))) (by show((purW (tW t')&&(purL _&&true))&&_)=true;rw[qBq,ep];rfl) (.inl ⟨hca,y,t',t1,L,hadd,hgrow,by rw[<-hmap];rfl⟩)
   ·have hpr:purW (refW 4)=true:=by
     show(purW noT&&(purW (hdW hdZ)&&(true&&(true&&true))))=true;rw[ZEq];rfl
    exact gIe 12 O (λR k0=>gC 0 O (KUq c hc hm hy) (gFa 13 O (gZ 8 O e (gF 0 O (eqI_not.2 Xd) (gC 14 O (apply_many c.tree y.hdr ds xs false false box Xd hbk Xd) (gTa 17 O (zfq 13 O (yRq (w':=.tup [noCh,.int .i64 (4:Nat)]) Jp rfl (.pur rfl) rfl (refuse 4 (λq=>hmany q.many) (by unfold addE;rw[if_neg (λq=>q hm),if_neg Xd,if_pos Xd]) _ rfl)))))))))
  ·have h256:=hm.len;exact gIe 12 O (λR k0=>gC 0 O (KUq c hc hm hy) (gFa 13 O (gZ 8 O e (gT 0 O (eqI_iff.2 Xd) (zfq 14 O (yRq (w':=.tup [noCh,.int .i64 (9:Nat)]) Jp rfl (.pur rfl) rfl (refuse 9 (λq=>hf q.short) (by unfold addE;rw[if_neg (λq=>q hm),if_pos Xd]) _ rfl)))))))
 ·skip
  exact gIe 12 O (λR k0=>gC 0 O (chead_no c hc hm) (gTa 13 O (zfq 15 O (yRq (w':=.tup [noCh,.int .i64 (8:Nat)]) Jp rfl (.pur rfl) rfl (refuse 8 (λq=>hm q.may) (by unfold addE;rw[if_pos hm]) _ rfl)))))
end
section
attribute [local irreducible] CoW OpW FlW Step Spec
variable {G:Nat->Option W}
def K7q(ps:List Pr):Prop:=∀p∈ps,(qGq p.2).2=0
noncomputable instance(ps:List Pr):Decidable (K7q ps):=Classical.propDecidable _
theorem rheld_s(ps:List Pr)(f:Bool)(hb:ps.length<=1000000000):PS cfg G 198 [.fz (ps.map pW) 33 f] (.bool (decide (K7q ps))):=by
 have e:(ps.map pW).length=ps.length:=List.length_map _;refine gI 12 O (λR k0=>?_);refine gLo (α:=Nat) 0 (λi=>i<=ps.length/\∀j x,j<i->ps[j]? =some x->(qGq x.2).2=0) (λi=>[(3,.int .i64 (i:Int))]) [0,2] (λi=>ps.length-i) (0) rfl (⟨Nat.zero_le _,λj x h=>by omega⟩) (λi hI=>?_);obtain⟨g1,g2⟩:=hI;refine gV (w':=.int .i64 (ps.length:Int)) 5 O Xv ?_;refine gS 3 O (λh1=>?_) (λh1=>?_)
 ·have hi:i<ps.length:=by omega
  obtain⟨x,hx⟩:∃x,ps[i]? =some x:=⟨_,List.getElem?_eq_getElem hi⟩
  refine gP 8 O (zvq (i:=i) O O O O O O O (zsq pW hx)) (gC 2 O (raread_s _ _) ?_);refine gS 14 O (λh2=>?_) (λh2=>?_)
  ·refine gO 8 O (zfq 2 O ?_);have hno:¬K7q ps:=λh=>by have:=h x (List.mem_of_getElem? hx);omega
   exact gQ 0 O Yk
  ·have h0:(qGq x.2).2=0:=by omega
   exact gA 5 O (i+1) (gAg 2 O (i+1) (⟨hi,λj y hj hy=>by rcases Nat.lt_succ_iff_lt_or_eq.1 hj with q|rfl;exact g2 j y q hy;have:=Option.some.inj (hx.symm.trans hy);subst this;exact h0⟩) Xd)
 ·refine gO 2 O (zfq 8 O ?_)
  have yes:K7q ps:=λp hp=>by
   obtain⟨j,hj⟩:=List.getElem?_of_mem hp;have:=(List.getElem?_eq_some_iff.1 hj).1;exact g2 j p Xd hj
  exact gQ 0 O (by rw[decide_eq_true yes])
theorem mayA_iff{t:Tree}{n:Nat}{t0:T}(h:IsT t n t0):MayA t↔K7q t0.all:=by
 constructor
 ·rintro⟨n',t',h'⟩;have hn:n=n':=by have:=h.root;have:=h'.root;omega
  subst hn;rw[h.rep.uniq h'.rep];exact h'.held
 ·exact λq=>⟨n,t0,h,q⟩
theorem mayA_T{t:Tree}(h:MayA t):MayT t:=by obtain⟨n,t0,h⟩:=h;exact h.toIsT.may
theorem YTq(t:Tree)(hb:t.nodes.length<=4611686018427387903):PS cfg G 110 [tW t] (.bool (decide (MayA t))):=by
 by_cases hT:MayT t
 ·obtain⟨n,t0,h⟩:=may_is hT;have hl:t0.all.length<=1000000000:=by have:=h.all_le;have:=h.len;omega
  have h2:decide (MayA t)=decide (K7q t0.all):=decide_eq_decide.2 (mayA_iff h);rw[h2];refine gI 9 O (λR k0=>gC 0 O (zEq (w':=.bool true) (rmay_s t hb) (by rw[decide_eq_true hT])) ?_);refine gB 0 O (λh1=>?_) (λh1=>?_)
  ·exact gC 2 O (rall_s t n t0 h) (gC 0 O (rheld_s _ _ Xr) (gQa 5 O))
  ·exfalso;exact h1 rfl
 ·have h2:decide (MayA t)=false:=decide_eq_false λh=>hT (mayA_T h)
  rw[h2];refine gI 9 O (λR k0=>gC 0 O (zEq (w':=.bool false) (rmay_s t hb) (by rw[decide_eq_false hT])) ?_);refine gB 0 O (λh1=>?_) (λh1=>?_)
  ·exfalso;cases h1
  ·exact gQa 9 O
theorem idx_find(k:Dig):∀ps:List Pr,(∃(i:Nat) (x:Pr),ps[i]? =some x/\idxP ps k=i/\jnq ps k=some x.2)\/(idxP ps k=-1/\jnq ps k=none)
 |[]=>.inr ⟨rfl,rfl⟩
 | p ::ps=>by
  by_cases e:p.1=k
  ·refine .inl ⟨0,p,rfl,?_,?_⟩
   ·simp[idxP,List.findIdx?_cons,e]
   ·simp[jnq,e]
  ·rcases idx_find k ps with ⟨i,x,h1,h2,h3⟩|⟨h1,h2⟩
   ·refine .inl ⟨i+1,x,by simpa using h1,?_,?_⟩
    ·unfold idxP at h2⊢;rw[List.findIdx?_cons];simp only[e,decide_false,Bool.false_eq_true,if_false];cases hq:ps.findIdx? (λp=>decide (p.1=k)) with
     |none=>rw[hq] at h2;exfalso;simp only at h2;omega
     |some j=>rw[hq] at h2;simp only[Option.map_some] at h2⊢;omega
    ·rw[<-h3];simp[jnq,e]
   ·refine .inr ⟨?_,?_⟩
    ·unfold idxP at h1⊢;rw[List.findIdx?_cons];simp only[e,decide_false,Bool.false_eq_true,if_false];cases hq:ps.findIdx? (λp=>decide (p.1=k)) with
     |none=>rfl
     |some j=>rw[hq] at h1;simp only at h1;omega
    ·rw[<-h2];simp[jnq,e]
def inA(ps:List Pr)(k:Dig):Acct:=match jnq ps k with
 |some v=>(qGq v).1
 |none=>.zero
theorem Ycq(ps:List Pr)(f:Bool)(k:Dig)(hb:ps.length<=1000000000):PS cfg G 205 [.fz (ps.map pW) 33 f,dW k] (aW (inA ps k)):=by
 rcases idx_find k ps with ⟨i,x,q1,q2,q3⟩|⟨q1,q2⟩
 ·have e:inA ps k=(qGq x.2).1:=by unfold inA;rw[q3]
  have hi:=(List.getElem?_eq_some_iff.1 q1).1;rw[e];refine gI 10 O (λR k0=>gC 0 O (zEq (w':=.int .i64 (i:Int)) (rfind_s ps f k hb) (by rw[q2])) ?_);refine gS 10 O (λh1=>?_) (λh1=>?_)
  ·exfalso;omega
  ·exact gP 6 O (zvq (i:=i) O O O O O O O (zsq pW q1)) (gC 2 O (raread_s _ _) (gQa 15 O))
 ·have e:inA ps k= .zero:=by unfold inA;rw[q2]
  rw[e];refine gI 10 O (λR k0=>gC 0 O (zEq (w':=.int .i64 (-1)) (rfind_s ps f k hb) (by rw[q1])) ?_);refine gS 10 O (λh1=>?_) (λh1=>?_)
  ·exact gQa 8 O
  ·exfalso;omega
theorem IsT.le{t:Tree}{n:Nat}{t0:T}(h:IsT t n t0):t0.all.length<=262144:=Nat.le_trans h.all_le h.len
theorem IsT.vle{t:Tree}{n:Nat}{t0:T}(h:IsT t n t0):∀x∈t0.all,x.2.length<=70368744177664:=λx hx=>by have:=(h.val x hx).2;omega
noncomputable def QTq(ps:List Pr)(k:Dig)(a:Acct):List Pr:=if a= .zero then zxq ps k else withR ps k (qQq a)
theorem vzq{l:List Pr}(h:Srt l)(k:Dig)(a:Acct):QTq l k a=setL l k a:=by
 unfold QTq setL;rw[JMq h]
theorem acct_zero{a:Acct}:a= .zero↔a.nonce=0/\a.balance=0:=by cases a;simp[Acct.zero]
theorem J9q(ps:List Pr)(f:Bool)(k:Dig)(a:Acct)(ha:a.ok)(hb:ps.length<=1000000)(hv:∀x∈ps,x.2.length<=70368744177664):PS cfg G 325 [.fz (ps.map pW) 33 f,dW k,aW a] (psW (QTq ps k a)):=by
 have lb:=uUq a;refine gI 12 O (λR k0=>?_);refine gD 0 O (λh1=>?_) (λh1=>?_)
 ·refine gU 3 O ?_;refine gS 3 O (λh2=>?_) (λh2=>?_)
  ·have hz:a= .zero:=acct_zero.2 Jo;exact gC 4 O (Jdq ps f k Xd hv) (gQ 5 O (by unfold QTq;rw[if_pos hz]))
  ·have hz:¬a= .zero:=λq=>by have:=acct_zero.1 q;omega
   exact gC 7 O (rabytes_s _ Xr) (gC 0 O (rwith_s ps f false k (qQq a) hb hv Xd) (gQ 4 O (by unfold QTq;rw[if_neg hz])))
 ·have hz:¬a= .zero:=λq=>by have:=acct_zero.1 q;omega
  exact gC 15 O (rabytes_s _ Xr) (gC 0 O (rwith_s ps f false k (qQq a) hb hv Xd) (gQ 4 O (by unfold QTq;rw[if_neg hz])))
theorem inA_ok(ps:List Pr)(k:Dig):(inA ps k).ok:=by
 unfold inA;split
 ·exact J8q _
 ·exact⟨Nat.zero_lt_succ _,Nat.zero_lt_succ _⟩
theorem J4q(ps:List Pr)(f:Bool)(k:Dig)(c:Nat)(hc:c<18446744073709551616)(hb:ps.length<=1000000)(hv:∀x∈ps,x.2.length<=70368744177664):PS cfg G 323 [.fz (ps.map pW) 33 f,dW k,.int .u64 (c:Int)] (if 18446744073709551616<=(inA ps k).balance+c then .tup [.nils,.bool false] else .tup [psW (QTq ps k ⟨(inA ps k).nonce,(inA ps k).balance+c⟩),.bool true]):=by
 obtain⟨h0,hA⟩:=inA_ok ps k;refine gI 11 O (λR k0=>gC 0 O (Ycq _ _ _ Xd) (gA 10 O (18446744073709551615-(inA ps k).balance) ?_));refine gS 3 O (λh1=>?_) (λh1=>?_)
 ·have h1:((18446744073709551615-(inA ps k).balance:Nat):Int)<(c:Int):=h1;exact gQ 8 O (by rw[if_pos Xd])
 ·have h1:¬((18446744073709551615-(inA ps k).balance:Nat):Int)<(c:Int):=h1;have hs:(inA ps k).balance+c<18446744073709551616:=by omega
  exact gA 7 O ((inA ps k).balance+c) (gC 9 O (J9q ps f k ⟨(inA ps k).nonce,(inA ps k).balance+c⟩ ⟨h0,hs⟩ hb hv) (gQ 5 O (by rw[if_neg Xd])))
theorem rgiven_s(ps:List Pr)(d:Depo)(hc:d.amount<18446744073709551616)(hb:ps.length<=1000000)(hv:∀x∈ps,x.2.length<=70368744177664):PS cfg G 264 [psW ps,pdW d] (if 18446744073709551616<=(inA ps d.to).balance+d.amount then .tup [psW ps,.int .i64 151] else .tup [psW (QTq ps d.to ⟨(inA ps d.to).nonce,(inA ps d.to).balance+d.amount⟩),.int .i64 0]):=by
 by_cases ho:18446744073709551616<=(inA ps d.to).balance+d.amount
 ·rw[if_pos ho];exact gI 14 O (λR k0=>gC 0 O (zEq (w':=.tup [.nils,.bool false]) (J4q ps false d.to d.amount hc hb hv) (by rw[if_pos ho])) (gQa 24 O))
 ·rw[if_neg ho];exact gI 14 O (λR k0=>gC 0 O (zEq (w':=.tup [psW (QTq ps d.to ⟨(inA ps d.to).nonce,(inA ps d.to).balance+d.amount⟩),.bool true]) (J4q ps false d.to d.amount hc hb hv) (by rw[if_neg ho])) (gQa 25 O))
theorem tx_sub(x:Tx):yBq 50 (txW x) 0 32 1=some (zaq x.pub.1)/\yBq 50 (txW x) 32 32 1=some (zaq x.to.1):=by
 have h:∀d:Dig,(zaq d.1).length=32:=λd=>by rw[zeq,d.2]
 constructor
 ·show some (((zaq x.pub.1).drop (0/1)).take 32)=_;rw[show 0/1=0 from rfl,List.drop_zero,List.take_of_length_le (by rw[h];omega)]
 ·show some (((zaq x.to.1).drop (0/1)).take 32)=_;rw[show 0/1=0 from rfl,List.drop_zero,List.take_of_length_le (by rw[h];omega)]
theorem rbody_s(x:Tx)(hx:x.ok):PS cfg G 278 [txW x] (bW (y0q x)):=by
 have h1:=hx.nonce;have h2:=hx.amount;have h3:=hx.fee;have l1:(zaq x.pub.1).length=32:=by rw[zeq,x.pub.2]
 have l2:(zaq x.to.1).length=32:=by rw[zeq,x.to.2]
 have n1:(zaq (beB 8 x.nonce)).length=8:=by rw[zeq,ylq]
 have n2:(zaq (beB 8 x.amount)).length=8:=by rw[zeq,ylq]
 have n3:(zaq (beB 8 x.fee)).length=8:=by rw[zeq,ylq]
 have eb:zaq (y0q x)=(((zaq x.pub.1++zaq x.to.1)++zaq (beB 8 x.nonce))++zaq (beB 8 x.amount))++zaq (beB 8 x.fee):=by simp[y0q,zaq]
 refine gIv 16 O (λR k0=>gM 0 O (zRq O O (kPq (k:=ti5) (news:=zaq x.pub.1) O O O O (zPq O O O (tx_sub x).1) (by intro h;rw[h] at l1;cases l1) (by rw[l1];decide) (by rw[l1];decide))) (gM 8 O (zRq O O (yXq (k:=ti5) (len:=(zaq x.pub.1).length) (news:=zaq x.to.1) (olds:=zaq x.pub.1) O O O O (zPq O O O (tx_sub x).2) Qs (by rw[l1,l2];decide) (by rw[l1,l2];decide) rfl (by show(zaq x.pub.1).length*1<0+(_+_)*1;rw[l1,l2];decide) rfl (zhq Xm O O))) (zfq 7 O ?_)))
 ((refine zlq rfl (yCq O O O O O O (yTq _ 8 Xr Xd) ?_);rintro w hp1 nw1 ⟨rfl,rfl,rfl⟩))
 refine ziq 11 O ?_
 ((refine zlq rfl (yCq O O O O O O (yTq _ 8 Xr Xd) ?_);rintro w hp1 nw1 ⟨rfl,rfl,rfl⟩))
 refine ziq 11 O ?_
 ((refine zlq rfl (yCq O O O O O O (yTq _ 8 Xr Xd) ?_);rintro w hp1 nw1 ⟨rfl,rfl,rfl⟩))
 exact ziq 11 O (gM 0 O (zRq O O (yXq (k:=ti5) (len:=(zaq x.pub.1).length+(zaq x.to.1).length) (news:=zaq (beB 8 x.nonce)) (olds:=zaq x.pub.1++zaq x.to.1) O O O O (zPq O O O (zhq Xm n1.symm rfl)) (by intro h;rw[h] at n1;cases n1) (by rw[l1,l2,n1];decide) (by rw[l1,l2,n1];decide) rfl (by show(_+_)*1<0+(_+_)*1;rw[l1,l2,n1];decide) rfl (zhq Xm List.length_append.symm rfl))) (gM 7 O (zRq O O (yXq (k:=ti5) (len:=(zaq x.pub.1).length+(zaq x.to.1).length+(zaq (beB 8 x.nonce)).length) (news:=zaq (beB 8 x.amount)) (olds:=(zaq x.pub.1++zaq x.to.1)++zaq (beB 8 x.nonce)) O O O O (zPq O O O (zhq Xm n2.symm rfl)) (by intro h;rw[h] at n2;cases n2) (by rw[l1,l2,n1,n2];decide) (by rw[l1,l2,n1,n2];decide) rfl (by show(_+_)*1<0+(_+_)*1;rw[l1,l2,n1,n2];decide) rfl (zhq Xm (by rw[List.length_append,List.length_append]) rfl))) (gM 7 O (zRq O O (yXq (k:=ti5) (len:=(zaq x.pub.1).length+(zaq x.to.1).length+(zaq (beB 8 x.nonce)).length+(zaq (beB 8 x.amount)).length) (news:=zaq (beB 8 x.fee)) (olds:=((zaq x.pub.1++zaq x.to.1)++zaq (beB 8 x.nonce))++zaq (beB 8 x.amount)) O O O O (zPq O O O (zhq Xm n3.symm rfl)) (by intro h;rw[h] at n3;cases n3) (by rw[l1,l2,n1,n2,n3];decide) (by rw[l1,l2,n1,n2,n3];decide) rfl (by show(_+_)*1<0+(_+_)*1;rw[l1,l2,n1,n2,n3];decide) rfl (zhq Xm (by rw[List.length_append,List.length_append,List.length_append]) rfl))) (zfq 4 O (jfq Jp O (.sl (full:=false) (xs:=zaq (y0q x)) rfl (show purL ((((zaq x.pub.1++zaq x.to.1)++zaq (beB 8 x.nonce))++zaq (beB 8 x.amount))++zaq (beB 8 x.fee))=true by rw[<-eb];simp) (by rw[eb,l1,l2,n1,n2,n3];exact zhq Xm (by simp[l1,l2,n1,n2,n3]) rfl) Xi))))))
theorem Jeq(x:Tx)(hx:x.ok):PS cfg G 200 [txW x] (.int .i64 (if x.sign=j1q x then 0 else 110)):=by
 have hb:=xXq x;refine ps_in (fn:=Tryz.f200) O O O (Ob rfl) (λR k0=>?_);by_cases h:x.sign=j1q x
 ·rw[if_pos h];skip
  exact zQq 12 O (gC 0 O (rbody_s x hx) (gC 0 O (ufq 4 (y0q x) Xd) (fl_val (w':=.bool false) rfl (jEq O O O O (y4q O O O O O O x.sign (j1q x) 250)) (by rw[decide_eq_true h];rfl) (ygq 11 O (gQa 0 O)))))
 ·rw[if_neg h];exact zQq 12 O (gC 0 O (rbody_s x hx) (gC 0 O (ufq 4 (y0q x) Xd) (fl_val (w':=.bool true) rfl (jEq O O O O (y4q O O O O O O x.sign (j1q x) 250)) (by rw[decide_eq_false h];rfl) (ygq 10 O (gQa 0 O)))))
theorem u7q(x:Tx):PS cfg G 324 [txW x] (dW (keyD x.pub)):=by
 exact gI 10 O (λR k0=>gC 0 O (rkey_s x.pub) (gQa 4 O))
theorem uCq(l:List Pr)(k:Dig):acL l k=inA l k:=by
 unfold acL inA;cases jnq l k<;>rfl
theorem rnext_s(ps:List Pr)(f:Bool)(x:Tx)(hx:x.ok)(hb:ps.length<=1000000):PS cfg G 266 [.fz (ps.map pW) 33 f,txW x] (.bool (decide (x.nonce=(acL ps (keyD x.pub)).nonce/\x.nonce<18446744073709551615))):=by
 have h1:=hx.nonce;rw[uCq];refine ps_in (fn:=Tryz.f266) O O O (Ob rfl) (λR k0=>?_);by_cases q:x.nonce=(inA ps (keyD x.pub)).nonce
 ·skip
  by_cases q2:x.nonce<18446744073709551615
  ·rw[decide_eq_true ⟨q,q2⟩];skip
   exact zQq 12 O (gC 0 O (u7q _) (gC 0 O (Ycq ps f (keyD x.pub) Xd) (gT 1 O (eqI_iff.2 Je) (gT 3 O (ltI_iff.2 Xd) (gQa 5 O)))))
  ·rw[decide_eq_false λh=>q2 h.2];exact zQq 12 O (gC 0 O (u7q _) (gC 0 O (Ycq ps f (keyD x.pub) Xd) (gT 1 O (eqI_iff.2 Je) (gF 3 O (ltI_not.2 Xd) (gQa 5 O)))))
 ·rw[decide_eq_false λh=>q h.1];exact zQq 12 O (gC 0 O (u7q _) (gC 0 O (Ycq ps f (keyD x.pub) Xd) (gF 1 O (eqI_not.2 Xd) (gQa 9 O))))
theorem rmoreL_no{l:List Pr}{k:Dig}{c:Nat}(h:qvq l k c=none)(hc:c<18446744073709551616)(hb:l.length<=1000000)(hv:∀x∈l,x.2.length<=70368744177664):PS cfg G 323 [psW l,dW k,.int .u64 (c:Int)] (.tup [.nils,.bool false]):=by
 refine zEq (J4q l false k c hc hb hv) ?_;unfold qvq at h;split at h
 ·cases h
 ·rename_i q;rw[if_pos (by rw[<-uCq];omega)]
theorem J5q{l q:List Pr}{k:Dig}{c:Nat}(hs:Srt l)(h:qvq l k c=some q)(hc:c<18446744073709551616)(hb:l.length<=1000000)(hv:∀x∈l,x.2.length<=70368744177664):PS cfg G 323 [psW l,dW k,.int .u64 (c:Int)] (.tup [psW q,.bool true]):=by
 refine zEq (J4q l false k c hc hb hv) ?_;unfold qvq at h;split at h
 ·rename_i g;rw[if_neg (by rw[<-uCq];omega),<-uCq,vzq hs,Option.some.inj h]
 ·cases h
def Few(n:Nat)(l:List Pr):Prop:=l.length<=n/\∀x∈l,x.2.length<=70368744177664
theorem few_set{n:Nat}{l:List Pr}(hs:Srt l)(h:Few n l)(k:Dig)(a:Acct):Few (n+1) (setL l k a):=by
 have hw:Few n (zxq l k):=⟨Nat.le_trans (List.length_filter_le ..) h.1,λx hx=>h.2 x (List.mem_filter.1 hx).1⟩;unfold setL;split
 ·exact⟨Nat.le_succ_of_le hw.1,hw.2⟩
 ·rw[<-JMq hs];unfold withR;have e:=List.takeWhile_append_dropWhile (p:=λp:Pr=>zOq p.1 k) (l:=zxq l k);generalize (zxq l k).takeWhile (λp=>zOq p.1 k)=A at*
  generalize (zxq l k).dropWhile (λp=>zOq p.1 k)=B at*
  rw[<-e] at hw;obtain⟨g1,g2⟩:=hw;have lb:=uUq a;refine⟨by simp only[List.length_append,List.length_cons] at g1⊢;omega,λx hx=>?_⟩;rcases List.mem_append.1 hx with q|q
  ·exact g2 x (List.mem_append_left _ q)
  ·rcases List.mem_cons.1 q with rfl|q
   ·show(qQq a).length<=_;omega
   ·exact g2 x (List.mem_append_right _ q)
theorem rpaid_s(l:List Pr)(hs:Srt l)(hb:Few 500000 l)(x:Tx)(hx:x.ok)(box:Dig)(hn:(acL l (keyD x.pub)).nonce+1<18446744073709551616):PS cfg G 267 [psW l,txW x,dW box] (.tup [psW (yGq l x box).1,.int .i64 ((yGq l x box).2:Nat)]):=by
 have h2:=hx.amount;have h3:=hx.fee;obtain⟨g1,g2⟩:=acL_ok l (keyD x.pub);have nS:Srt (j4q l x):=u3q hs _ _;have nF:Few 500001 (j4q l x):=few_set hs hb _ _;have lS:Srt (j5q l x):=u3q nS _ _;have lF:Few 500002 (j5q l x):=few_set nS nF _ _;have w1:PS cfg G 325 [psW l,dW (keyD x.pub),aW ⟨(acL l (keyD x.pub)).nonce+1,(acL l (keyD x.pub)).balance⟩] (psW (j4q l x)):=zEq (J9q l false (keyD x.pub) ⟨(acL l (keyD x.pub)).nonce+1,(acL l (keyD x.pub)).balance⟩ ⟨hn,g2⟩ (Nat.le_trans hb.1 Xd) hb.2) (by rw[vzq hs];rfl);have w2:PS cfg G 325 [psW (j4q l x),dW (keyD x.pub),aW ⟨(acL l (keyD x.pub)).nonce+1,(acL l (keyD x.pub)).balance-(x.amount+x.fee)⟩] (psW (j5q l x)):=zEq (J9q (j4q l x) false (keyD x.pub) ⟨(acL l (keyD x.pub)).nonce+1,(acL l (keyD x.pub)).balance-(x.amount+x.fee)⟩ ⟨hn,by show(acL l (keyD x.pub)).balance-(x.amount+x.fee)<18446744073709551616;omega⟩ (Nat.le_trans nF.1 Xd) nF.2) (by rw[vzq nS];rfl);by_cases ho:x.amount+x.fee<=(acL l (keyD x.pub)).balance
 ·cases hm:qvq (j5q l x) x.to x.amount with
  |none=>
   rw[Jjq ho hm];refine gI 11 O (λR k0=>gC 0 O (u7q _) ?_);first|refine gC 8 O (zEq (Ycq l false (keyD x.pub) (Nat.le_trans hb.1 Xd)) (by rw[<-uCq])) ?_|refine gC 8 O (Ycq ps f (keyD x.pub) Xd) ?_
   exact gA 8 O ((acL l (keyD x.pub)).nonce+1) (gC 9 O w1 (gA 10 O (18446744073709551615-x.fee) (gF 0 O (ltI_not.2 Xd) (gA 5 O (x.amount+x.fee) (gF 2 O (ltI_not.2 Xd) (gA 14 O (x.amount+x.fee) (gA 0 O ((acL l (keyD x.pub)).balance-(x.amount+x.fee)) (gC 9 O w2 (gC 4 O (rmoreL_no hm h2 (Nat.le_trans lF.1 Xd) lF.2) (gTa 11 O (gQa 12 O)))))))))))
  |some p=>
   have pS:Srt p:=(vfq lS hm).1
   have pF:Few 500003 p:=by
    unfold qvq at hm;split at hm
    ·rw[<-Option.some.inj hm];exact few_set lS lF _ _
    ·cases hm
   cases hm2:qvq p box x.fee with
   |none=>
    rw[Jiq ho hm hm2];refine gI 11 O (λR k0=>gC 0 O (u7q _) ?_);first|refine gC 8 O (zEq (Ycq l false (keyD x.pub) (Nat.le_trans hb.1 Xd)) (by rw[<-uCq])) ?_|refine gC 8 O (Ycq ps f (keyD x.pub) Xd) ?_
    exact gA 8 O ((acL l (keyD x.pub)).nonce+1) (gC 9 O w1 (gA 10 O (18446744073709551615-x.fee) (gF 0 O (ltI_not.2 Xd) (gA 5 O (x.amount+x.fee) (gF 2 O (ltI_not.2 Xd) (gA 14 O (x.amount+x.fee) (gA 0 O ((acL l (keyD x.pub)).balance-(x.amount+x.fee)) (gC 9 O w2 (gC 4 O (J5q lS hm h2 (Nat.le_trans lF.1 Xd) lF.2) (gFa 11 O (gC 11 O (rmoreL_no hm2 h3 (Nat.le_trans pF.1 Xd) pF.2) (gTa 11 O (gQa 12 O)))))))))))))
   |some q=>
    rw[Jhq ho hm hm2];refine gI 11 O (λR k0=>gC 0 O (u7q _) ?_);first|refine gC 8 O (zEq (Ycq l false (keyD x.pub) (Nat.le_trans hb.1 Xd)) (by rw[<-uCq])) ?_|refine gC 8 O (Ycq ps f (keyD x.pub) Xd) ?_
    exact gA 8 O ((acL l (keyD x.pub)).nonce+1) (gC 9 O w1 (gA 10 O (18446744073709551615-x.fee) (gF 0 O (ltI_not.2 Xd) (gA 5 O (x.amount+x.fee) (gF 2 O (ltI_not.2 Xd) (gA 14 O (x.amount+x.fee) (gA 0 O ((acL l (keyD x.pub)).balance-(x.amount+x.fee)) (gC 9 O w2 (gC 4 O (J5q lS hm h2 (Nat.le_trans lF.1 Xd) lF.2) (gFa 11 O (gC 11 O (J5q pS hm2 h3 (Nat.le_trans pF.1 Xd) pF.2) (gFa 11 O (gQa 13 O)))))))))))))
 ·rw[uLq ho];refine gI 11 O (λR k0=>gC 0 O (u7q _) ?_);first|refine gC 8 O (zEq (Ycq l false (keyD x.pub) (Nat.le_trans hb.1 Xd)) (by rw[<-uCq])) ?_|refine gC 8 O (Ycq ps f (keyD x.pub) Xd) ?_
  refine gA 8 O ((acL l (keyD x.pub)).nonce+1) (gC 9 O w1 (gA 10 O (18446744073709551615-x.fee) ?_));refine gD 0 O (λh1=>?_) (λh1=>?_)
  ·exact gQa 22 O
  ·have q1:¬((18446744073709551615-x.fee:Nat):Int)<(x.amount:Int):=h1;exact gA 5 O (x.amount+x.fee) (gT 2 O (ltI_iff.2 Xd) (gQa 13 O))
theorem rhof_s(h:Hdr)(hh:okH h):PS cfg G 212 [hdW h] (bW (hdB h)):=by
 obtain⟨i,p,s,r,j⟩:=h;obtain⟨h1,h2,h3,h4⟩:=hh;obtain⟨n,rfl⟩:=Int.eq_ofNat_of_zero_le h1;obtain⟨m,rfl⟩:=Int.eq_ofNat_of_zero_le h3;simp only at h2 h4;have e:hdB ⟨(n:Int),p,s,r,(m:Int)⟩=(((beB 8 n++p.1)++s.1)++r.1)++beB 4 m:=by simp[hdB]
 obtain⟨s1,s2,s3⟩:=hd_sub ⟨(n:Int),p,s,r,(m:Int)⟩;have l1:=p.2;have l2:=s.2;have l3:=r.2;have l4:=ylq 8 n;have l5:=ylq 4 m;have l6:(zaq (beB 4 m)).length=4:=by rw[zeq,l5]
 rw[e];refine gIv 10 O (λR k0=>gA 0 O (n) ?_)
 (refine zlq rfl (yCq O O O O O O (yTq n 8 Xd Xd) ?_);rintro w hp1 nw1 ⟨rfl,rfl,rfl⟩)
 refine ziq 11 O (gA 0 O (m) ?_)
 (refine zlq rfl (yCq O O O O O O (yTq m 4 Xd Xd) ?_);rintro w hp1 nw1 ⟨rfl,rfl,rfl⟩)
 exact ziq 12 O (gM 0 O (zRq O O (xoq (k:=ti5) (L:=beB 8 n) (M:=p.1) O O O O O O (zPq O O O s1) rfl l4 Xd Xd)) (gM 8 O (zRq O O (xoq (k:=ti5) (L:=beB 8 n++p.1) (M:=s.1) O O O O O O (zPq O O O s2) O O Xd (by simp[l1,l2,l4]))) (gM 8 O (zRq O O (xoq (k:=ti5) (L:=(beB 8 n++p.1)++s.1) (M:=r.1) O O O O O O (zPq O O O s3) O O Xd (by simp[l1,l2,l3,l4]))) (gM 7 O (zRq O O (xoq (k:=ti5) (L:=((beB 8 n++p.1)++s.1)++r.1) (M:=beB 4 m) O O O O O O (zPq O O O (zhq Xm l6.symm rfl)) O O Xd (by simp[l1,l2,l3,l4,l5]))) (zfq 4 O (jfq Jp rfl (.sl (full:=false) rfl Xh (zhq Xm (zeq _).symm rfl) Xi)))))))
theorem rhname_s(h:Hdr)(hh:okH h):PS cfg G 132 [hdW h] (dW (hashD h)):=by
 exact gI 9 O (λR k0=>gC 0 O (rhof_s h hh) (gC 0 O (ufq 6 (hdB h) (by rw[hdB_len];omega)) (gQa 4 O)))
theorem rhfol_s(h p:Hdr):PS cfg G 109 [hdW h,hdW p] (.bool (decide (FolB h p))):=by
 by_cases hh:okH h
 ·by_cases hp:okH p
  ·obtain⟨q1,q2,q3,q4⟩:=id hp;refine gI 10 O (λR k0=>gC 0 O (zEq (w':=.bool true) (xCq h) (by rw[decide_eq_true (hh)])) (gC 2 O (zEq (w':=.bool true) (xCq p) (by rw[decide_eq_true (hp)])) (gWr 6 O ?_)));refine gD 0 O (λh1=>?_) (λh1=>?_)
   ·exact gC 5 O (rhname_s p ⟨q1,q2,q3,q4⟩) (gUe 0 O (qyq O O O O (y4q O O O O O O _ _ 250)) ydq (gQ 5 O (dec_c ⟨λq=>⟨hh,hp,by simpa using h1,q⟩,λq=>q.2.2.2⟩)))
   ·exact gQ 12 O (jGq λq=>h1 (by simpa using q.2.2.1))
  ·skip
   exact gI 10 O (λR k0=>gC 0 O (zEq (w':=.bool true) (xCq h) (by rw[decide_eq_true (hh)])) (gC 2 O (zEq (w':=.bool false) (xCq p) (by rw[decide_eq_false (hp)])) (gQ 20 O (jGq λq=>hp q.2.1))))
 ·skip
  exact gI 10 O (λR k0=>gC 0 O (zEq (w':=.bool false) (xCq h) (by rw[decide_eq_false (hh)])) (gQ 23 O (jGq λq=>hh q.1)))
theorem rmbody_s(ds:List Depo)(xs:List Tx)(f g:Bool)(hx:∀x∈xs,x.ok)(hd:ds.length<=140737488351232)(hn:xs.length<=140737488351232):PS cfg G 108 [bodW ds xs f g] (.bool (decide (BodyM ds xs))):=by
 have e1:(ds.map pdW).length=ds.length:=List.length_map _;have e2:(xs.map txW).length=xs.length:=List.length_map _;refine gI 13 O (λR k0=>?_);refine gLo (α:=Nat) 0 (λi=>i<=xs.length/\∀j x,j<i->xs[j]? =some x->x.sign=j1q x) (λi=>[(3,.int .i64 (i:Int))]) [1,2] (λi=>xs.length-i) (0) rfl (⟨Nat.zero_le _,λj x h=>by omega⟩) (λi hI=>?_);obtain⟨g1,g2⟩:=hI;refine gZ 6 O e2 ?_;refine gS 3 O (λh1=>?_) (λh1=>?_)
 ·obtain⟨x,hx1⟩:∃x,xs[i]? =some x:=⟨_,List.getElem?_eq_getElem Xd⟩
  refine gP 9 O (zvq (i:=i) O O O O O O O (zsq txW hx1)) ?_;refine gC 1 O (Jeq x (hx x (List.mem_of_getElem? hx1))) ?_;refine gS 3 O (λh2=>?_) (λh2=>?_)
  ·refine gO 8 O ?_;exact gQ 2 O (jGq λq=>h2 (by rw[if_pos (q.2.2 x (List.mem_of_getElem? hx1))]))
  ·have hs:x.sign=j1q x:=Classical.byContradiction λq=>h2 Qx
   refine gA 5 O (i+1) ?_;exact gAg 2 O (i+1) (⟨by omega,λj y hj hy=>by rcases Nat.lt_succ_iff_lt_or_eq.1 hj with q|rfl;exact g2 j y q hy;exact Option.some.inj (hx1.symm.trans hy)▸hs⟩) Xd
 ·have all:∀x∈xs,x.sign=j1q x:=λx h=>by
   obtain⟨j,hj⟩:=List.getElem?_of_mem h;exact g2 j x (by have:=jJq hj;omega) hj
  refine gO 2 O ?_;refine gZ 6 O e1 ?_;refine gD 0 O (λh2=>?_) (λh2=>?_)
  ·refine gZ 3 O e2 ?_;refine gU 0 O ?_;exact gQ 5 O (congrArg W.bool (by first|exact decide_eq_decide.2 ⟨λq=>⟨by omega,by omega,all⟩,λq=>by have:=q.2.1;omega⟩|(by_cases q:xs.length<=16; · rw[decide_eq_true (show BodyM ds xs from⟨by omega,q,all⟩),ltI_not.2 Xd];rfl; · rw[decide_eq_false (show¬BodyM ds xs from λh=>q h.2.1),ltI_iff.2 Xd];rfl)))
  ·exact gQ 10 O (jGq λq=>by have:=q.1;omega)
theorem rat17_s(c:Ch)(i:Nat)(x:Lk)(hx:c.links[i]? =some x):PS cfg G 76 [chG c,.int .i64 (i:Int)] (tW (verT c x.root)):=by
 exact gI 19 O (λR k0=>gP 0 O (zvq (i:=i) O O O O O O O (zsq lkG hx)) (gQa 13 O))
theorem at_prev{α:Type}{l:List α}{i:Nat}(h:i<l.length)(h0:0<i):∃y,l[i-1]? =some y:=⟨_,List.getElem?_eq_getElem Xd⟩
theorem uhq(c:Ch)(hc:OkC c):PS cfg G 31 [chG c] (.bool (decide (MayC c))):=by
 have hl:=hc.len;refine gI 10 O (λR k0=>gZ 0 O LMq ?_);refine gD 7 O (λh1=>?_) (λh1=>?_)
 ·have hno:¬MayC c:=λq=>by have:=q.one;omega
  exact gQ 27 O (jGq hno)
 obtain⟨z,hz⟩:∃z,c.links[c.links.length-1]? =some z:=⟨_,List.getElem?_eq_getElem Xd⟩
 refine gD 2 O (λh2=>?_) (λh2=>?_)
 ·have hno:¬MayC c:=λq=>by have:=q.len;omega
  exact gQ 24 O (jGq hno)
 refine gA 8 O (c.links.length-1) (gP 0 O (zvq (i:=c.links.length-1) O O O O O O O (zsq lkG hz)) (gU 2 O ?_));refine gS 3 O (λh3=>?_) (λh3=>?_)
 ·have hno:¬MayC c:=λq=>h3 (q.root z hz)
  exact gQ 7 O (jGq hno)
 refine gLo (α:=Nat) 9 (λi=>i<=c.links.length/\∀j x,j<i->c.links[j]? =some x->LkM c j x) (λi=>[(4,.int .i64 (i:Int))]) [1,2,3] (λi=>c.links.length-i) (0) rfl (⟨Nat.zero_le _,λj x h=>by omega⟩) (λi hI=>?_);obtain⟨g1,hI⟩:=hI;refine gS 8 O (λh4=>?_) (λh4=>?_)
 ·have hi:i<c.links.length:=by omega
  obtain⟨x,hx⟩:∃x,c.links[i]? =some x:=⟨_,List.getElem?_eq_getElem hi⟩
  have hB:=hc.body x (List.mem_of_getElem? hx);refine gP 9 O (zvq (i:=i) O O O O O O O (zsq lkG hx)) ?_;refine gD 12 O (λh5=>?_) (λh5=>?_)
  ·have hno:¬MayC c:=λq=>h5 (q.link i x hx).height
   exact gO 33 O (gQ 2 O (jGq hno))
  refine gC 3 O (xCq x.hdr) ?_;refine gB 0 O (λh6=>?_) (λh6=>?_)
  ·refine gZ 5 O LMq ?_;refine gD 3 O (λh7=>?_) (λh7=>?_)
   ·have hno:¬MayC c:=λq=>h7 (q.link i x hx).recs
    exact gO 19 O (gQ 2 O (jGq hno))
   ·refine gC 4 O (rmbody_s x.ds x.xs false false hB.tx hB.dl hB.xl) ?_;refine gS 4 O (λh8=>?_) (λh8=>?_)
    ·have hno:¬MayC c:=λq=>absurd h8 (by rw[decide_eq_true (q.link i x hx).body];decide)
     exact gO 9 O (gQ 2 O (jGq hno))
    ·have hok:okH x.hdr:=h6;have hM:BodyM x.ds x.xs:=by simpa using h8
     refine gD 5 O (λh9=>?_) (λh9=>?_)
     ·obtain⟨y,hy⟩:=at_prev hi Xd;refine gA 6 O (i-1) (gP 0 O (zvq (i:=i-1) O O O O O O O (zsq lkG hy)) (gC 2 O (rhfol_s x.hdr y.hdr) ?_));refine gB 0 O (λh10=>?_) (λh10=>?_)
      ·refine gC 5 O (rat17_s c i x hx) (gC 0 O (YTq (verT c x.root) hc.nodes) ?_);refine gS 4 O (λh11=>?_) (λh11=>?_)
       ·have hno:¬MayC c:=λq=>absurd h11 (by rw[decide_eq_true (q.link i x hx).tree];decide)
        exact gO 8 O (gQ 2 O (jGq hno))
       ·have hx2:LkM c i x:=⟨by omega,hok,λw h0 hw=>Option.some.inj (hy.symm.trans hw)▸h10,by omega,hM,by simpa using h11⟩;exact gA 5 O (i+1) (gAg 2 O (i+1) (⟨hi,λj w hj hw=>by rcases Nat.lt_succ_iff_lt_or_eq.1 hj with q|rfl;exact hI j w q hw;exact Option.some.inj (hx.symm.trans hw)▸hx2⟩) Xd)
      ·have hno:¬MayC c:=λq=>h10 ((q.link i x hx).fol y Xd hy)
       exact gO 20 O (gQ 2 O (jGq hno))
     ·refine gC 16 O (rat17_s c i x hx) (gC 0 O (YTq (verT c x.root) hc.nodes) ?_);refine gS 4 O (λh10=>?_) (λh10=>?_)
      ·have hno:¬MayC c:=λq=>absurd h10 (by rw[decide_eq_true (q.link i x hx).tree];decide)
       exact gO 8 O (gQ 2 O (jGq hno))
      ·have hx2:LkM c i x:=⟨by omega,hok,λw h0 hw=>absurd h0 Xd,by omega,hM,by simpa using h10⟩;exact gA 5 O (i+1) (gAg 2 O (i+1) (⟨hi,λj w hj hw=>by rcases Nat.lt_succ_iff_lt_or_eq.1 hj with q|rfl;exact hI j w q hw;exact Option.some.inj (hx.symm.trans hw)▸hx2⟩) Xd)
  ·have hno:¬MayC c:=λq=>h6 (q.link i x hx).hdr
   exact gO 29 O (gQ 2 O (jGq hno))
 ·have yes:MayC c:=⟨by omega,by omega,λw hw=>by cases hz.symm.trans hw;omega,λj w hw=>hI j w (by have:=jJq hw;omega) hw⟩;exact gO 2 O (gQ 8 O (dec_t yes))
theorem rfdepo_s(d:Depo)(h1:d.number<18446744073709551616)(h2:d.amount<18446744073709551616):PS cfg G 265 [pdW d] (dW (depD d)):=by
 have l1:=ylq 8 d.number;have l2:=d.to.2;have l4:=ylq 8 d.amount;have l3:(zaq (beB 8 d.amount)).length=8:=by rw[zeq,l4]
 have e:depB d=(beB 8 d.number++d.to.1)++beB 8 d.amount:=by simp[depB]
 have hl:=depB_len d;refine gI 10 O (λR k0=>?_)
 ((refine zlq rfl (yCq O O O O O O (yTq _ 8 Xr Xd) ?_);rintro w hp1 nw1 ⟨rfl,rfl,rfl⟩))
 refine ziq 11 O ?_
 ((refine zlq rfl (yCq O O O O O O (yTq _ 8 Xr Xd) ?_);rintro w hp1 nw1 ⟨rfl,rfl,rfl⟩))
 exact ziq 12 O (gM 0 O (zRq O O (xoq (k:=ti5) (L:=beB 8 d.number) (M:=d.to.1) O O O O O O (zPq O O O (dep_sub d)) rfl l1 Xd Xd)) (gM 7 O (zRq O O (xoq (k:=ti5) (L:=beB 8 d.number++d.to.1) (M:=beB 8 d.amount) O O O O O O (zPq O O O (zhq Xm l3.symm rfl)) O O Xd (by simp[l1,l2,l4]))) (xLq O O O O O (.cons (.pur rfl) (.cons (.sl (full:=false) rfl Xh (zhq Xm (zeq _).symm rfl) Xi) .nil)) (ufq 9 (depB d) Xd) Xk Xk (ziq 4 O (gQa 0 O)))))
theorem rfof_c(k:UInt8)(d:Dig)(c:Nat)(a b:UInt8)(h:beB 2 c=[a,b])(w1:jNq .i64 ((c:Int).tdiv 256)= .ofNat a.toNat)(w2:jNq .u8 (.ofNat a.toNat)= .ofNat a.toNat)(w3:(c:Int).tmod 256= .ofNat b.toNat)(w4:jNq .u8 (.ofNat b.toNat)= .ofNat b.toNat):PS cfg G 328 [recW ⟨k,d,c⟩] (bW (recB ⟨k,d,c⟩)):=by
 have l2:=d.2;rw[show recB ⟨k,d,c⟩=([k]++d.1)++[a,b] by rw[recB,h]];exact gIv 19 O (λR k0=>gM 0 O (zRq O O (xoq (k:=ti5) (L:=[k]) (M:=d.1) O O O O O O (zPq O O O (rec_sub ⟨k,d,c⟩)) O O Xd (by simp[l2]))) (gV 8 O (congrArg (W.int .i64) w1) (gV 0 O (congrArg (W.int .u8) w2) (gV 2 O (congrArg (W.int .i64) w3) (gV 0 O (congrArg (W.int .u8) w4) (gM 1 O (zRq O O (xoq (k:=ti5) (L:=[k]++d.1) (M:=[a,b]) O O O O O O (zPq O O O O) O O Xh (by simp[l2]))) (zfq 4 O (jfq Jp rfl (.sl (full:=false) rfl Xh (zhq Xm (zeq _).symm rfl) Xi)))))))))
theorem rfof_s(r:Rec)(h:okR r):PS cfg G 328 [recW r] (bW (recB r)):=by
 obtain⟨k,d,c⟩:=r;rcases h.2 with h|h|⟨_,h⟩<;>(simp only at h;subst h)
 ·exact rfof_c k d 0 0 0 Xm Xp Xp Xp Xp
 ·exact rfof_c k d 151 0 151 Xm Xp Xp Xp Xp
 ·exact rfof_c k d 150 0 150 Xm Xp Xp Xp Xp
theorem rbodyL_s(x:Tx)(hx:x.ok):PL cfg G 278 [txW x] 5 1 (zaq (y0q x)):=by
 have h1:=hx.nonce;have h2:=hx.amount;have h3:=hx.fee;have l1:=x.pub.2;have l2:=x.to.2;have n1:=ylq 8 x.nonce;have n2:=ylq 8 x.amount;have n3:=ylq 8 x.fee;have m1:(zaq (beB 8 x.nonce)).length=8:=by rw[zeq,n1]
 have m2:(zaq (beB 8 x.amount)).length=8:=by rw[zeq,n2]
 have m3:(zaq (beB 8 x.fee)).length=8:=by rw[zeq,n3]
 have e:y0q x=(((x.pub.1++x.to.1)++beB 8 x.nonce)++beB 8 x.amount)++beB 8 x.fee:=by simp[y0q]
 have hb:=xXq x;intro R;refine gIs 16 O (λk0=>?_);refine gM 0 O (zRq O O (app_b0 (k:=ti5) (M:=x.pub.1) O O O O O (zPq O O O (tx_sub x).1) Xd Xd)) (gM 8 O (zRq O O (xoq (k:=ti5) (L:=x.pub.1) (M:=x.to.1) O O O O O O (zPq O O O (tx_sub x).2) O O Xd Xd)) (zfq 7 O ?_));first|((refine zlq rfl (yCq O O O O O O (yTq _ 8 Xr Xd) ?_);rintro w hp1 nw1 ⟨rfl,rfl,rfl⟩))|((refine zlq rfl (yCq O O O O O O (yTq _ 8 Xr Xd) ?_);rintro w hp1 nw1 ⟨rfl,rfl,rfl⟩))
 refine ziq 11 O ?_;first|((refine zlq rfl (yCq O O O O O O (yTq _ 8 Xr Xd) ?_);rintro w hp1 nw1 ⟨rfl,rfl,rfl⟩))|((refine zlq rfl (yCq O O O O O O (yTq _ 8 Xr Xd) ?_);rintro w hp1 nw1 ⟨rfl,rfl,rfl⟩))
 refine ziq 11 O ?_;first|((refine zlq rfl (yCq O O O O O O (yTq _ 8 Xr Xd) ?_);rintro w hp1 nw1 ⟨rfl,rfl,rfl⟩))|((refine zlq rfl (yCq O O O O O O (yTq _ 8 Xr Xd) ?_);rintro w hp1 nw1 ⟨rfl,rfl,rfl⟩))
 refine ziq 11 O (gM 0 O (zRq O O (xoq (k:=ti5) (L:=x.pub.1++x.to.1) (M:=beB 8 x.nonce) O O O O O O (zPq O O O (zhq Xm m1.symm rfl)) O O Xd (by simp[l1,l2,n1]))) (gM 7 O (zRq O O (xoq (k:=ti5) (L:=(x.pub.1++x.to.1)++beB 8 x.nonce) (M:=beB 8 x.amount) O O O O O O (zPq O O O (zhq Xm m2.symm rfl)) O O Xd (by simp[l1,l2,n1,n2]))) (gM 7 O (zRq O O (xoq (k:=ti5) (L:=((x.pub.1++x.to.1)++beB 8 x.nonce)++beB 8 x.amount) (M:=beB 8 x.fee) O O O O O O (zPq O O O (zhq Xm m3.symm rfl)) O O Xd (by simp[l1,l2,n1,n2,n3]))) (zfq 4 O ?_))));rw[<-e];have hpb:purW (.arr ((y0q x).length*1) 1 (zaq (y0q x)))=true:=yOq _;have hn:(zaq (y0q x)).length=88:=by rw[zeq,hb]
 have hne:zaq (y0q x)≠[]:=λh=>by rw[h] at hn;cases hn
 refine fin (fr2:=[(2,.sl 0 0 0 (y0q x).length 1 none)]) (hp2:=[(0,5,.arr ((y0q x).length*1) 1 (zaq (y0q x)))]) (nw2:=1) (w:=.sl 0 0 0 (y0q x).length 1 none) Jp (yoq (b:=0) (k:=8) Xd Xd (by show 8<9;omega) ⟨⟨rfl,rfl⟩,trivial⟩ ⟨⟨by omega,?_,zcq hpb⟩,trivial⟩ Xh) rfl ⟨rfl,?_,?_,rfl⟩
 ·show some (5,W.arr ((y0q x).length*1) 1 (zaq (y0q x)))=some (5,renW _ (W.arr ((y0q x).length*1) 1 (zaq (y0q x))));rw[zgq hpb]
 ·rw[qXq hne,zeq]
 ·rw[qYq hne,zeq]
theorem rtxbytes_s(x:Tx)(hx:x.ok):PS cfg G 326 [txW x] (bW (txB x)):=by
 have hb:=xXq x;have l2:=x.sign.2;have l1:(zaq (y0q x)).length=88:=by rw[zeq,hb]
 have hne:zaq (y0q x)≠[]:=λh=>by rw[h] at l1;cases l1
 have e1:(zaq (y0q x)).length=(y0q x).length:=zeq _;refine gIv 9 O (λR k0=>?_)
 (refine zZq rfl (kzq O O O O O Xh (rbodyL_s x hx) Xh ?_);rw[qXq hne,qYq hne,e1];refine⟨by first|rfl|kernel_rfl,?_⟩)
 exact ygq 2 O (gM 0 O (zRq O O (xoq (k:=ti5) (L:=y0q x) (M:=x.sign.1) O O O O O O (zPq O O O (sign_sub x)) O O Xd Xd)) (zfq 4 O (jfq Jp rfl (.sl (full:=false) rfl Xh (zhq Xm (zeq _).symm rfl) Xi))))
theorem rtxid_s(x:Tx)(hx:x.ok):PS cfg G 268 [txW x] (dW (idD x)):=by
 have hl:=txB_len x;refine gI 9 O (λR k0=>gC 0 O (rtxbytes_s x hx) ?_);first|refine yvq O O O O O O (ufq 5 (txB x) Xd) ?_|refine xLq O O O O O (.cons (.pur rfl) (.cons (.sl (full:=false) rfl Xh (zhq Xm (zeq _).symm rfl) Xi) .nil)) (ufq 9 (depB d) Xd) Xk Xk ?_
 exact ziq 4 O (gQa 0 O)
theorem first_ok:∀n,n<=256->∀k,k<8->2^k<n->n<=2*2^k->2^k=yHq n:=by decide+kernel
theorem rfirst_s(n:Nat)(h2:2<=n)(h:n<=256):PS cfg G 327 [.int .i64 (n:Int)] (.int .i64 (yHq n:Nat)):=by
 refine gI 12 O (λR k0=>?_);refine gLo (α:=Nat×Nat) 0 (λp=>p.2=2^p.1/\p.2<n/\1<=p.2) (λp=>[(3,.int .i64 (p.2:Nat))]) [0,2] (λp=>n-p.2) ((0,1)) rfl (⟨rfl,by show 1<n;omega,Nat.le_refl _⟩) (λp hI=>?_);obtain⟨k,q⟩:=p;obtain⟨g1,g2,g3⟩:=hI;simp only at g1 g2 g3⊢;refine gA 4 O (2*q) ?_;refine gS 4 O (λh1=>?_) (λh1=>?_)
 ·have hq:2*q<n:=by omega
  exact gA 5 O (2*q) (gAg 3 O ((k+1,2*q)) (⟨by simp only;rw[g1,Nat.pow_succ];omega,hq,by simp only;omega⟩) Ye)
 ·have hq:n<=2*q:=by omega
  have hk:k<8:=by
   have:2^k<2^8:=by rw[<-g1];show q<256;omega
   exact(Nat.pow_lt_pow_iff_right Xd).1 this
  exact gO 2 O (gQ 9 O (by rw[g1,first_ok n h k hk (by rw[<-g1];exact g2) (by rw[<-g1];exact hq)]))
theorem mayp_srt{l:List Pr}(h:MayP l):Srt l:=by
 have key:∀n i j (hi:i<l.length) (hj:j<l.length),i+n+1=j->zOq l[i].1 l[j].1=true:=by
  intro n;induction n with
  |zero=>
   intro i j hi hj e;subst e;exact(h.2 (i+1) hj l[i+1] (List.getElem?_eq_getElem hj)).2 l[i] Xd (by show l[i+1-1]? =_;rw[Nat.add_sub_cancel];exact List.getElem?_eq_getElem hi)
  |succ n ih=>
   intro i j hi hj e;have h1:=ih i (j-1) hi Xd Xd;have h2:=(h.2 j hj l[j] (List.getElem?_eq_getElem hj)).2 l[j-1] Xd (List.getElem?_eq_getElem Xd);exact kQq h1 h2
 exact List.pairwise_iff_getElem.2 λi j hi hj hij=>key (j-i-1) i j hi hj Xd
theorem take_with{l:List Pr}(h:Srt l){i:Nat}{x:Pr}(hx:l[i]? =some x):kvq (l.take i) x.1 x.2=l.take (i+1):=by
 obtain⟨hi,ex⟩:=List.getElem?_eq_some_iff.1 hx
 have hp:∀p∈l.take i,zOq p.1 x.1=true:=λp hp=>by
  obtain⟨j,hj⟩:=List.getElem?_of_mem hp;obtain⟨hj1,hj2⟩:=List.getElem?_eq_some_iff.1 hj;rw[List.length_take] at hj1;rw[List.getElem_take] at hj2;rw[<-hj2,<-ex];exact List.pairwise_iff_getElem.1 h j i Xd hi Xd
 unfold kvq;rw[List.filter_eq_self.2 hp,List.filter_eq_nil_iff.2 λp q=>by rw[qoq (hp p q)];simp,List.take_add_one,hx];rfl
theorem rpmay_s(ps:List Pr)(f:Bool)(hb:ps.length<=1000000000):PS cfg G 197 [.fz (ps.map pW) 33 f] (.bool (decide (MayP ps))):=by
 have e:(ps.map pW).length=ps.length:=List.length_map _;refine gI 9 O (λR k0=>gV (w':=.int .i64 (ps.length:Int)) 0 O Xv ?_);refine gS 3 O (λh1=>?_) (λh1=>?_)
 ·exact gQ 7 O (by rw[decide_eq_false λh:MayP ps=>by have:=h.1;omega])
 ·refine gLo (α:=Nat) 9 (λi=>i<=ps.length/\∀j,j<i->okAt ps j) (λi=>[(3,.int .i64 (i:Int))]) [0,2] (λi=>ps.length-i) (0) rfl (⟨Nat.zero_le _,λj hj=>by omega⟩) (λi hI=>?_);obtain⟨hi,hI⟩:=hI;refine gV (w':=.int .i64 (ps.length:Int)) 5 O Xv ?_;refine gS 3 O (λh2=>?_) (λh2=>?_)
  ·have hi':i<ps.length:=by omega
   obtain⟨x,hx⟩:∃x,ps[i]? =some x:=⟨_,List.getElem?_eq_getElem hi'⟩
   skip
   by_cases hv:valB x.2=true
   ·by_cases h0:0<i
    ·obtain⟨y,hy⟩:∃y,ps[i-1]? =some y:=⟨_,List.getElem?_eq_getElem Xd⟩
     by_cases ha:zOq y.1 x.1=true
     ·have ok:okAt ps i:=λx' hx'=>by
       obtain rfl:=Option.some.inj (hx.symm.trans hx');refine⟨hv,λz _ hz=>?_⟩;obtain rfl:=Option.some.inj (hy.symm.trans hz);exact ha
      refine gP 8 O (zvq (i:=i) O O O O O O O (zsq pW hx)) (gC 2 O (zEq (w':=.bool true) (vGq x.2 false) (by rw[hv])) (gT 3 O (ltI_iff.2 Xd) (gA 3 O (i-1) (gP 0 O (zvq (i:=i-1) O O O O O O O (zsq pW hy)) (gP 4 O (zvq (i:=i) O O O O O O O (zsq pW hx)) (gC 2 O (zEq (w':=.bool true) (Kcq y.1 x.1) (by rw[ha])) (gA 11 O (i+1) ?_)))))));exact gAg 2 O (i+1) (⟨hi',λj hj=>by rcases Nat.lt_succ_iff_lt_or_eq.1 hj with h|rfl<;>first|exact hI j h|exact ok⟩) Xd
     ·have no:¬MayP ps:=λh=>ha ((h.2 i hi' x hx).2 y h0 hy)
      exact gP 8 O (zvq (i:=i) O O O O O O O (zsq pW hx)) (gC 2 O (zEq (w':=.bool true) (vGq x.2 false) (by rw[hv])) (gT 3 O (ltI_iff.2 Xd) (gA 3 O (i-1) (gP 0 O (zvq (i:=i-1) O O O O O O O (zsq pW hy)) (gP 4 O (zvq (i:=i) O O O O O O O (zsq pW hx)) (gC 2 O (zEq (w':=.bool false) (Kcq y.1 x.1) (by rw[Bool.not_eq_true] at ha;rw[ha])) (gO 14 O (gQ 2 O (by rw[decide_eq_false no])))))))))
    ·have ok:okAt ps i:=λx' hx'=>by
      obtain rfl:=Option.some.inj (hx.symm.trans hx');exact⟨hv,λy h _=>absurd h h0⟩
     refine gP 8 O (zvq (i:=i) O O O O O O O (zsq pW hx)) (gC 2 O (zEq (w':=.bool true) (vGq x.2 false) (by rw[hv])) (gF 3 O (ltI_not.2 Xd) (gA 24 O (i+1) ?_)));exact gAg 2 O (i+1) (⟨hi',λj hj=>by rcases Nat.lt_succ_iff_lt_or_eq.1 hj with h|rfl<;>first|exact hI j h|exact ok⟩) Xd
   ·have no:¬MayP ps:=λh=>hv (h.2 i hi' x hx).1
    exact gP 8 O (zvq (i:=i) O O O O O O O (zsq pW hx)) (gC 2 O (zEq (w':=.bool false) (vGq x.2 false) (by rw[Bool.not_eq_true] at hv;rw[hv])) (gO 31 O (gQ 2 O (by rw[decide_eq_false no]))))
  ·refine gO 2 O (zfq 8 O ?_);have yes:MayP ps:=⟨by omega,λj hj=>hI j Xd⟩;exact gQ 0 O (by rw[decide_eq_true yes])
def okB(l:List Pr):Prop:=MayP l/\K7q l
noncomputable instance(l:List Pr):Decidable (okB l):=Classical.propDecidable _
theorem begun_s(l:List Pr)(f:Bool)(hb:l.length<=1000000000):PS cfg G 104 [.fz (l.map pW) 33 f] (.bool (decide (okB l))):=by
 by_cases hm:MayP l
 ·by_cases hh:K7q l
  ·rw[decide_eq_true (show okB l from⟨hm,hh⟩)];exact gI 8 O (λR k0=>gC 0 O (zEq (w':=.bool true) (rpmay_s l f hb) (by rw[decide_eq_true hm])) (gC 2 O (zEq (w':=.bool true) (rheld_s l f hb) (by rw[decide_eq_true hh])) (gQa 5 O)))
  ·rw[decide_eq_false (show¬okB l from λh=>hh h.2)];exact gI 8 O (λR k0=>gC 0 O (zEq (w':=.bool true) (rpmay_s l f hb) (by rw[decide_eq_true hm])) (gC 2 O (zEq (w':=.bool false) (rheld_s l f hb) (by rw[decide_eq_false hh])) (gQa 5 O)))
 ·rw[decide_eq_false (show¬okB l from λh=>hm h.1)];exact gI 8 O (λR k0=>gC 0 O (zEq (w':=.bool false) (rpmay_s l f hb) (by rw[decide_eq_false hm])) (gQa 8 O))
theorem rall_rep(t:Tree)(n:Nat)(t0:T)(h3:t.root=n)(rep:Rep t.nodes n t0)(hb:t.nodes.length<=4611686018427387903)(hl:t0.all.length<=1000000)(hv:∀p∈t0.all,p.2.length<=70368744177664):PS cfg G 185 [tW t] (psW t0.all):=by
 obtain⟨ns,root⟩:=t;simp only at h3 rep hb;subst h3;have P:=(rfor_s (G:=G) ⟨ns,(n:Int)⟩ hb t0 n rep hl hv).ps Xm (qLq _);exact gI 11 O (λR k0=>Kmq O O O O O O P Xh Xh (ziq 4 O (gQa 0 O)))
end
section
attribute [local irreducible] CoW OpW FlW Step Spec
noncomputable def newL(t:Tree)(t0:T):Lk:=⟨firH t0,t.root,[],[],[]⟩
noncomputable abbrev newX(t:Tree)(t0:T):W:=.agg 102 [hdW (firH t0),.int .i64 t.root,.agg 2 [.fz [] 34 false,.fz [] 99 false],.fz [] 34 false]
noncomputable def newC(t:Tree)(t0:T):Ch:=⟨t,[newL t t0]⟩
def ChNA(l:List Pr):W->Prop:=λw=>(¬okB l/\w= .tup [noCh,.int .i64 8])\/(okB l/\∃t n t0,IsA t n t0/\t0.all=l/\t.nodes.length<=257*l.length/\w= .tup [chG (newC t t0),.int .i64 0])
theorem cnew_s(l:List Pr)(f:Bool)(hb:l.length<=1000000000):PE cfg glK 27 [.fz (l.map pW) 33 f] (ChNA l):=by
 by_cases hm:MayP l
 ·have hs:=mayp_srt hm;have e:(l.map pW).length=l.length:=List.length_map _;have h512:=hm.1;refine gIe 10 O (λR k0=>gC 0 O (zEq (w':=.int .i64 0) (Klq l f Xd) (by rw[if_pos hm])) (gV (w':=.int .i64 (l.length:Int)) 21 O Xv (zfq 4 O (co_ent (ent_blkv (b:=1) (w':=tW ⟨[],0⟩) rfl (.agg (.cons .nilfz (.cons (.pur rfl) .nil)))) ?_))));refine qjq (α:=Nat×Tree×T) (λp=>p.1<=l.length/\(∃n,IsT p.2.1 n p.2.2)/\p.2.2.all=l.take p.1/\p.2.1.nodes.length<=257*p.1) (λp=>[(22,.int .i64 (p.1:Int))]) [(2,_),(3,_),(5,_),(20,_),(21,_)] (λp=>[(1,24,tW p.2.1),(0,27,noCh)]) (λp=>l.length-p.1) ((0,⟨[],0⟩,.nil)) ⟨rfl,rfl,rfl,rfl,rfl,trivial⟩ (⟨Nat.zero_le _,⟨0,by show(0:Nat)<=_;omega,λi x h=>by simp at h,rfl,.nil,rfl⟩,rfl,Nat.le_refl _⟩) ⟨rfl,trivial⟩ (rfl) (λp hI=>?_);obtain⟨i,t,t0⟩:=p;obtain⟨g1,⟨n,g2⟩,g3,g4⟩:=hI;simp only at g1 g2 g3 g4⊢;refine zQq 6 O ?_;refine gS 0 O (λh1=>?_) (λh1=>?_)
  ·have hi:i<l.length:=by omega
   obtain⟨x,hx⟩:∃x,l[i]? =some x:=⟨_,List.getElem?_eq_getElem hi⟩
   have hv:MayP [(x.1,x.2)]:=(mayp_val x.1 x.2).2 (hm.2 i hi x hx).1;refine gP 6 O (zvq (i:=i) O O O O O O O (zsq pW hx)) (gE 12 O (tput_s t n t0 x.1 x.2 false g2 hv Xd) ?_);rintro w hw ⟨t',n',ht',⟨ms,hms,hml⟩,rfl⟩;refine gFa 12 O (gA 12 O (i+1) (zfq 2 O ?_));have hall:(t0.put x.1 x.2 256).all=l.take (i+1):=by rw[(jZq x.1 x.2 256 t0 (d:=0) (b:=yZq) rfl qqq g2.ok (Nat.zero_le _)).2,g3];exact take_with hs hx
   exact q_againH ((i+1,t',t0.put x.1 x.2 256)) (⟨hi,⟨n',ht'⟩,hall,by show t'.nodes.length<=_;rw[hms,List.length_append];omega⟩) Ye (Nat.zero_le _) ⟨rfl,trivial⟩ ⟨rfl,rfl,rfl,rfl,rfl,trivial⟩ Xg Xg Xd Xj Ya
  ·have hi:i=l.length:=by omega
   have hall:t0.all=l:=by rw[g3,hi,List.take_length]
   have hiff:=mayA_iff g2;rw[hall] at hiff;by_cases hh:K7q l
   ·skip
    have hA:MayA t:=hiff.2 hh;obtain⟨n2,t2,hA2⟩:=hA;refine zfq 2 O (yNq Xi (zJq 6 O (gC 0 O (zEq (w':=.int .i64 0) (qRq t Xd) (by rw[if_pos ⟨n2,t2,hA2⟩])) (gFa 6 O (gC 8 O (tsum_ok t n t0 g2) (gC 11 O JSq (gV (w':=hdW (firH t0)) 0 O (by show W.agg 98 [_,W.arr 32 1 (List.replicate 32 (.int .u8 (.ofNat 0))),_,_,_]=_;rw[kiq];rfl) (zfq 18 O ?_))))))));refine yRq (w':=.tup [.agg 3 [tW t,.fz [newX t t0] 102 false],.int .i64 0]) Jp rfl (.tup (.cons (.agg (.cons (.pur Xh) (.cons (.sl2 (full:=false) (c':=newX t t0) (xs:=[newX t t0]) rfl (.agg (.cons (.pur (ZEq _)) (.cons (.pur rfl) (.cons (.agg (.cons .nilfz (.cons .nilfz .nil))) (.cons .nilfz .nil))))) rfl Xi) .nil))) (.cons (.pur rfl) .nil))) Qw (.inr ⟨⟨hm,hh⟩,t,n,t0,?_,hall,by rw[<-hi];exact g4,rfl⟩);exact⟨g2,by rw[hall];exact hh⟩
   ·exact zfq 2 O (yNq Xi (zJq 6 O (gC 0 O (zEq (w':=.int .i64 8) (qRq t Xd) (by rw[if_neg (λq=>hh (hiff.1 q))])) (gTa 6 O (zfq 13 O (yRq (w':=.tup [noCh,.int .i64 8]) Jp rfl (.pur rfl) rfl (.inl ⟨λq=>hh q.2,rfl⟩)))))))
 ·skip
  exact gIe 10 O (λR k0=>gC 0 O (zEq (w':=.int .i64 8) (Klq l f Xd) (by rw[if_neg hm])) (zfq 20 O (yRq (w':=.tup [noCh,.int .i64 8]) Jp rfl (.pur rfl) rfl (.inl ⟨λq=>hm q.1,rfl⟩))))
theorem newC_is{t:Tree}{n:Nat}{t0:T}(h:IsA t n t0)(box:Dig):SoundC (newC t t0) box:=by
 refine⟨⟨by simp[newC],by simp[newC],λx e=>by cases e;rfl,λi x e=>?_⟩,λi x e=>?_⟩
 ·have hi:=jJq e;obtain rfl:i=0:=by simp[newC] at hi;exact hi
  cases e;exact⟨rfl,⟨by show(0:Int)<=0;decide,by show(0:Int)<=1073741824;decide,by show(0:Int)<=0;decide,by show(0:Int)<=256;decide⟩,λy h0=>absurd h0 Xm,rfl,⟨Nat.zero_le _,Nat.zero_le _,λx h=>by cases h⟩,n,t0,h⟩
 ·have hi:=jJq e;obtain rfl:i=0:=by simp[newC] at hi;exact hi
  cases e;exact LkS.of0 ⟨n,t0,h,rfl,rfl,rfl⟩
end
section
attribute [local irreducible] CoW OpW FlW Step Spec
variable {G:Nat->Option W}
def Fw(n:Nat)(l:List Pr):Prop:=l.length<=n/\∀x∈l,x.2.length<=64
theorem Fw.few{n:Nat}{l:List Pr}(h:Fw n l):Few n l:=⟨h.1,λx hx=>Nat.le_trans (h.2 x hx) Xd⟩
theorem fw_set{n:Nat}{l:List Pr}(hs:Srt l)(h:Fw n l)(k:Dig)(a:Acct):Fw (n+1) (setL l k a):=by
 have hw:Fw n (zxq l k):=⟨Nat.le_trans (List.length_filter_le ..) h.1,λx hx=>h.2 x (List.mem_filter.1 hx).1⟩;unfold setL;split
 ·exact⟨Nat.le_succ_of_le hw.1,hw.2⟩
 ·rw[<-JMq hs];unfold withR;have e:=List.takeWhile_append_dropWhile (p:=λp:Pr=>zOq p.1 k) (l:=zxq l k);generalize (zxq l k).takeWhile (λp=>zOq p.1 k)=A at*
  generalize (zxq l k).dropWhile (λp=>zOq p.1 k)=B at*
  rw[<-e] at hw;obtain⟨g1,g2⟩:=hw;have lb:=uUq a;refine⟨by simp only[List.length_append,List.length_cons] at g1⊢;omega,λx hx=>?_⟩;rcases List.mem_append.1 hx with q|q
  ·exact g2 x (List.mem_append_left _ q)
  ·rcases List.mem_cons.1 q with rfl|q
   ·show(qQq a).length<=_;omega
   ·exact g2 x (List.mem_append_right _ q)
theorem KBq{m n:Nat}{l:List Pr}(h:Fw n l)(e:n<=m):Fw m l:=⟨Nat.le_trans h.1 e,h.2⟩
theorem fw_more{n:Nat}{l q:List Pr}{k:Dig}{c:Nat}(hs:Srt l)(h:Fw n l)(hm:qvq l k c=some q):Fw (n+1) q:=by
 unfold qvq at hm;split at hm
 ·rw[<-Option.some.inj hm];exact fw_set hs h _ _
 ·cases hm
theorem fw_gv{n:Nat}{l:List Pr}(hs:Srt l)(h:Fw n l)(d:Depo):Fw (n+1) (gvL l d).1:=by
 unfold gvL;cases e:qvq l d.to d.amount with
 |none=>exact KBq h Xd
 |some q=>exact fw_more hs h e
theorem doD_snoc(l:List Pr)(ds:List Depo)(d:Depo):doD l (ds++[d])=((gvL (doD l ds).1 d).1,(doD l ds).2++[⟨1,depD d,(gvL (doD l ds).1 d).2⟩]):=doD_app ds [d] l
theorem fw_paid{n:Nat}{l:List Pr}(x:Tx)(box:Dig)(hs:Srt l)(h:Fw n l):Fw (n+4) (yGq l x box).1:=by
 have nS:Srt (j4q l x):=u3q hs _ _;have nF:Fw (n+1) (j4q l x):=fw_set hs h _ _;have lS:Srt (j5q l x):=u3q nS _ _;have lF:Fw (n+2) (j5q l x):=fw_set nS nF _ _;by_cases ho:x.amount+x.fee<=(acL l (keyD x.pub)).balance
 ·cases hm:qvq (j5q l x) x.to x.amount with
  |none=>rw[Jjq ho hm];exact KBq nF Xd
  |some p=>
   have pS:Srt p:=(vfq lS hm).1;have pF:=fw_more lS lF hm;cases hm2:qvq p box x.fee with
   |none=>rw[Jiq ho hm hm2];exact KBq nF Xd
   |some q=>rw[Jhq ho hm hm2];exact fw_more pS pF hm2
 ·rw[uLq ho];exact KBq nF Xd
theorem gv_in{l:List Pr}(hs:Srt l)(d:Depo):(if 18446744073709551616<=(inA l d.to).balance+d.amount then W.tup [psW l,.int .i64 151] else .tup [psW (QTq l d.to ⟨(inA l d.to).nonce,(inA l d.to).balance+d.amount⟩),.int .i64 0])= .tup [psW (gvL l d).1,.int .i64 ((gvL l d).2:Nat)]:=by
 unfold gvL qvq;by_cases h:(acL l d.to).balance+d.amount<18446744073709551616
 ·rw[if_pos h,if_neg (by rw[<-uCq];omega),<-uCq,vzq hs];rfl
 ·rw[if_neg h,if_pos (by rw[<-uCq];omega)];rfl
theorem rgvL_s(l:List Pr)(d:Depo)(hs:Srt l)(hb:Few 1000000 l)(hc:d.amount<18446744073709551616):PS cfg G 264 [psW l,pdW d] (.tup [psW (gvL l d).1,.int .i64 ((gvL l d).2:Nat)]):=zEq (rgiven_s l d hc hb.1 hb.2) (gv_in hs d)
theorem bw_drop(ps:List (List UInt8))(n:Nat):purL (List.drop n (ps.map bW))=true:=by rw[<-List.map_drop];exact ZOq _
theorem bw_take(ps:List (List UInt8))(n:Nat):purL (List.take n (ps.map bW))=true:=by rw[<-List.map_take];exact ZOq _
theorem rw_take(L:List Rec)(n:Nat):purL (List.take n (L.map (bW∘recB)))=true:=by rw[<-List.map_map,<-List.map_take];exact ZOq _
theorem rw_all(L:List Rec):purL (L.map (bW∘recB))=true:=by rw[<-List.map_map];exact ZOq _
attribute [local simp] bw_drop bw_take rw_take rw_all qFq
theorem rrows_s:∀(n:Nat) (ps:List (List UInt8)) (f:Bool),ps.length<=n->ps.length<=256->(∀p∈ps,p.length<=4096) ->PS cfg G 269 [.fz (ps.map bW) 1 f] (dW (Zsq n ps)):=by
 intro n;induction n with
 |zero=>
  intro ps f hn _ _;obtain rfl:ps=[]:=List.eq_nil_of_length_eq_zero Xd;refine gI 9 O (λR k0=>?_);refine gL 0 O ?_;refine gTa 0 O ?_;refine gC 5 O (Yhq) ?_;exact gQa 5 O
 |succ n ih=>
  intro ps f hn hl hp;rcases ps with _|⟨p,_|⟨q,r⟩⟩
  ·skip
   refine gI 9 O (λR k0=>?_);refine gL 0 O ?_;refine gTa 0 O ?_;refine gC 5 O (Yhq) ?_;exact gQa 5 O
  ·have hpl:=hp p Xh;refine gI 9 O (λR k0=>?_);refine gL 0 O ?_;refine gFa 0 O ?_;refine gL 9 O ?_;refine gTa 0 O ?_;refine gX 6 O ?_;refine gC 1 O (ufq 7 p Xd) ?_;exact gQa 5 O
  ·show PS cfg G 269 _ (dW (tagD 8 [(Zsq n ((p::q::r).take (yHq (p::q::r).length))).1,(Zsq n ((p::q::r).drop (yHq (p::q::r).length))).1]));have h2:2<=(p::q::r).length:=by simp
   generalize (p::q::r)=ps at*
   obtain⟨k1,k2,k3,k4⟩:=Yuq h2 hl;have e:(ps.map bW).length=ps.length:=List.length_map _
   have b1:Nat.beq (yHq ps.length) (ps.map bW).length=false:=by
    rw[e];cases q:Nat.beq (yHq ps.length) ps.length with
    |false=>rfl
    |true=>have:=Nat.eq_of_beq_eq_true q;omega
   have c1:=ih (ps.take (yHq ps.length)) false Qc Qc λp h=>hp p (List.mem_of_mem_take h)
   have c2:=ih (ps.drop (yHq ps.length)) f Yw Yw λp h=>hp p (List.mem_of_mem_drop h)
   generalize Zsq n (ps.take (yHq ps.length))=d1 at*
   generalize Zsq n (ps.drop (yHq ps.length))=d2 at*
   refine gI 9 O (λR k0=>?_);refine gZ 0 O e ?_;refine gF 0 O (eqI_not.2 (Xd)) ?_;refine gZ 9 O e ?_;refine gF 0 O (eqI_not.2 (Xd)) ?_;refine gZ 8 O e ?_;refine gC 0 O (rfirst_s ps.length h2 hl) ?_;refine gP 7 O (x5q (ys:=(ps.take (yHq ps.length)).map bW) (l:=0) (h:=yHq ps.length) (g:=false) O O O O O O O (Nat.zero_le _) Xd (by rw[List.drop_zero,Nat.sub_zero,List.map_take]) (by rw[b1,Bool.and_false])) ?_;refine gC 0 O (c1) ?_;refine gP 2 O (x5q (ys:=(ps.drop (yHq ps.length)).map bW) (l:=yHq ps.length) (h:=(ps.map bW).length) (g:=f) O O O O O O O Xd (Nat.le_refl _) Qr (by rw[Nat.beq_refl,Bool.and_true])) ?_;refine gC 0 O (c2) ?_;refine zfq 10 O ?_;refine fl_lk O O O O O (.cons (.pur rfl) (.cons (.sl (full:=false) (xs:=zaq d1.1) rfl Xh (zhq Xm (by simp[zeq,d1.2]) rfl) Xi) (.cons (.sl (full:=false) (xs:=zaq d2.1) rfl Xh (zhq Xm (by simp[zeq,d2.2]) rfl) Xi) .nil))) (rtwo_s 8 d1.1 d2.1 false false (by simp[d1.2]) (by simp[d2.2])) Xk Xk Xu ?_;refine ygq 4 O ?_;exact gQa 0 O
theorem rrow_s(L:List Rec)(f:Bool)(hL:∀r∈L,okR r)(hl:L.length<=1000):PS cfg G 270 [.fz (L.map recW) 34 f] (.fz ((L.map recB).map bW) 1 false):=by
 refine gIv 17 O (λR k0=>?_);refine xWq (α:=Nat) (λi=>i<=L.length) 3 (λi=>((L.map recB).take i).map bW) 99 1 (λi=>[(4,.int .i64 (i:Int))]) [(0,_),(2,_)] _ (λi=>L.length-i) (0) ⟨rfl,rfl,trivial⟩ (Nat.zero_le _) ⟨rfl,trivial⟩ O O O (λi hI=>?_);refine zQq 5 O (gZ 0 O LMq ?_);refine gS 3 O (λh1=>?_) (λh1=>?_)
 ·have hi:i<L.length:=by omega
  obtain⟨r,hx⟩:∃r,L[i]? =some r:=⟨_,List.getElem?_eq_getElem hi⟩
  have hr:=hL r (List.mem_of_getElem? hx);have hnx:((L.map recB).take (i+1)).map bW=((L.map recB).take i).map bW++[bW (recB r)]:=by rw[List.take_add_one,List.getElem?_map,hx,List.map_append];rfl
  have hlt:(((L.map recB).take i).map bW).length<=1000:=by rw[List.length_map,List.length_take,List.length_map];omega
  exact gP 8 O (zvq (i:=i) O O O O O O O (zsq recW hx)) (gC 1 O (rfof_s r hr) (gM 1 O (zRq O O (qzq [_] (k:=ti99) (news:=[bW (recB r)]) O O O O O (zPq O O O O) Xh (by show((((L.map recB).take i).map bW).length+1)*24<=_;omega) (by show(((L.map recB).take i).map bW).length+1<=_;omega) rfl Xh)) (gA 6 O (i+1) (zfq 2 O (jhq 2 (i+1) (hi) Xd (Nat.zero_le _) (hnx) Xx Xd Yj rfl Xz ⟨rfl,trivial⟩ ⟨rfl,rfl,trivial⟩ Xg Xg rfl Xk Xj Ya)))))
 ·have hi:i=L.length:=by omega
  subst hi;rw[show(L.map recB).take L.length=L.map recB from List.take_of_length_le Yy];exact zfq 2 O (yNq Xi (zJq 9 O (jfq Xt O (klq (H0:=[]) Xm (ZOq _) Xh))))
theorem srt_tree{l:List Pr}(hs:Srt l):∃t:T,t.ok 0 yZq=true/\t.all=l:=by
 have key:∀i,i<=l.length->∃t:T,t.ok 0 yZq=true/\t.all=l.take i:=by
  intro i;induction i with
  |zero=>exact λ_=>⟨.nil,rfl,by simp[T.all]⟩
  |succ i ih=>
   intro hi;obtain⟨t,h1,h2⟩:=ih Xd;obtain⟨x,hx⟩:∃x,l[i]? =some x:=⟨_,List.getElem?_eq_getElem Xd⟩
   obtain⟨p1,p2⟩:=jZq x.1 x.2 256 t (d:=0) (b:=yZq) rfl qqq h1 (Nat.zero_le _);exact⟨t.put x.1 x.2 256,p1,by rw[p2,h2];exact take_with hs hx⟩
 obtain⟨t,h1,h2⟩:=key l.length (Nat.le_refl _);exact⟨t,h1,by rw[h2,List.take_length]⟩
open Classical in
/-- the trie of pairs in order -/
noncomputable def trieL(l:List Pr):T:=if h:Srt l then(srt_tree h).choose else .nil
theorem JRq{l:List Pr}(h:Srt l):(trieL l).ok 0 yZq=true/\(trieL l).all=l:=by
 unfold trieL;rw[dif_pos h];exact(srt_tree h).choose_spec
theorem trie_is{t:T}(h:t.ok 0 yZq=true):trieL t.all=t:=by
 obtain⟨h1,h2⟩:=JRq (ok_srt qqq h);exact T.uniq qqq h1 h h2
theorem rhead_s(p:Hdr)(hp:okH p)(l:List Pr)(hs:Srt l)(hf:Fw 1000000 l)(L:List Rec)(hL:∀r∈L,okR r)(hl:L.length<=256):PS cfg G 187 [hdW p,psW l,.fz (L.map recW) 34 false] (hdW (keq p (trieL l) L)):=by
 obtain⟨h1,h2⟩:=JRq hs;have hr:=rrows_s (G:=G) 256 (L.map recB) false Yy Yy (λq h=>by obtain⟨r,_,rfl⟩:=List.mem_map.1 h;rw[recB_len];omega);have ho:=rof_s (G:=G) (trieL l) 0 yZq false qqq h1 (λq h=>by rw[h2] at h;have:=hf.2 q h;omega) (by rw[h2];exact hf.1);rw[h2] at ho;have q1:=hp.1;have q2:=hp.2.1;exact gI 10 O (λR k0=>gV (w':=.int .i64 (p.height+1)) 0 O (congrArg (W.int .i64) (kTq (show inK .i64 (p.height+1) from Jo))) (gC 1 O (rhname_s p hp) (gC 1 O (ho) (gC 1 O (rrow_s L false hL Xd) (gC 0 O (hr) (gZ 1 O LMq (gQa 5 O)))))))
end
section
attribute [local irreducible] CoW OpW FlW Step Spec
variable {G:Nat->Option W}
section
variable {C:Cfg} {G:Nat->Option W} {m k0:Nat} {rd:Bool} {fr:FrW} {hp:HpW} {nw:Nat} {R:Res} {Q:qAq} {c:Code}
theorem co_loopG2{α:Type}(I:α->Prop)(s:Nat)(L:α->List W)(ty:TypeId)(e:Nat)(V:α->FrW)(kf:FrW)(H0:HpW)(b:Nat)(μ:α->Nat)(a0:α)(hk:subF fr kf)(h0:I a0)(hv:subF fr (V a0))(hm:m<=b)(hnw:b+1<=nw)(hs:getW fr s=some (gW b e (L a0)))(hh0:hp=H0++gH b ty e (L a0))(hr:refF b (V a0))(hr2:refF b kf)(hp2:purL (L a0)=true)(hh:subH hp b H0)(nd:(H0.map (·.1)).Nodup)
  (step:∀a,I a->CoW C G m k0 rd c ((s,gW b e (L a))::(V a++kf)) (H0++gH b ty e (L a)) (b+1) R (xpq C G m k0 I (λa=>(s,gW b e (L a))::(V a++kf)) (λa=>H0++gH b ty e (L a)) (λ_=>b+1) (λ_=>R) μ (μ a) Q)):CoW C G m k0 rd (.loop c) fr hp nw R Q:=
 qeq I (λa=>(s,gW b e (L a))::(V a++kf)) (λa=>H0++gH b ty e (L a)) (λ_=>b+1) (λ_=>R) μ a0 h0 (v4q s hm hnw hs (q3q hv hk) (kWq hr hr2) (λx r hq=>by
  rw[hh0,hq];exact jBq λp hp=>by have:=YIq hh p hp;omega) hp2 hh nd) step
end
attribute [local simp] qFq
theorem few_le{m n:Nat}{l:List Pr}(h:Few n l)(e:n<=m):Few m l:=⟨Nat.le_trans h.1 e,h.2⟩
noncomputable def madeW(l:List Pr)(ds:List Depo)(xs:List Tx)(box:Dig):W:=match doX box (doD l ds).1 xs with
 |some r=>.tup [psW r.1,.fz (((doD l ds).2++r.2).map recW) 34 false,.int .i64 0]
 |none=>.tup [.nils,.nils,.int .i64 (badX box (doD l ds).1 xs:Nat)]
theorem made_no{l:List Pr}{ds:List Depo}{xs:List Tx}{box:Dig}{i:Nat}{x:Tx}{r:List Pr×List Rec}(hx:xs[i]? =some x)(h:doX box (doD l ds).1 (xs.take i)=some r)(hg:¬goX r.1 x):madeW l ds xs box= .tup [.nils,.nils,.int .i64 (refX x:Nat)]:=by
 have hdr:xs=xs.take i++x::xs.drop (i+1):=by rw[<-ZKq hx,List.take_append_drop]
 unfold madeW;rw[hdr,doX_none h hg,bad_app h,show badX box r.1 (x::xs.drop (i+1))=refX x from if_neg hg]
theorem fw_doD{n:Nat}:∀(ds:List Depo) {l:List Pr},Srt l->Fw n l->Fw (n+ds.length) (doD l ds).1
 |[],l,_,h=>h
 |d::ds,l,hs,h=>KBq (fw_doD ds (gv_ok hs d).1 (fw_gv hs h d)) (by simp only[List.length_cons];omega)
theorem fw_doX{box:Dig}:∀{xs:List Tx} {n:Nat} {l:List Pr} {r:List Pr×List Rec},Srt l->Fw n l->doX box l xs=some r->Fw (n+4*xs.length) r.1
 |[],n,l,r,_,h,e=>by cases e;exact h
 |x::xs,n,l,r,hs,h,e=>by
  by_cases hg:goX l x
  ·rw[xSq hg] at e;cases q:doX box (yGq l x box).1 xs with
   |none=>rw[q] at e;cases e
   |some r'=>
    rw[q] at e;cases e;have z:=fw_doX (r:=r') (paid_srt x box hs (by rw[<-hg.2.1];have:=hg.2.2;omega)) (fw_paid x box hs h) q;exact KBq z (by simp only[List.length_cons];omega)
  ·rw[show doX box l (x::xs)=none from if_neg hg] at e;cases e
theorem rmade_s(l:List Pr)(hs:Srt l)(hf:Fw 300000 l)(ds:List Depo)(xs:List Tx)(f g:Bool)(hB:BodOk ds xs)(box:Dig)(hm:ds.length<=16/\xs.length<=16):PS cfg G 186 [psW l,bodW ds xs f g,dW box] (madeW l ds xs box):=by
 have hdl:=xTq ds l;have hfD:=fw_doD ds hs hf;have hsD:=(Qtq (ds:=ds) hs).1;refine gIv 21 O (λR k0=>?_);refine xWq (α:=Nat) (λi=>i<=ds.length) 9 (λi=>(doD l (ds.take i)).2.map recW) 98 34 (λi=>[(10,.int .i64 (i:Int)),(0,psW (doD l (ds.take i)).1)]) [(4,_),(5,_),(6,_),(7,_),(8,_)] _ (λi=>ds.length-i) (0) ⟨rfl,rfl,rfl,rfl,rfl,trivial⟩ (Nat.zero_le _) ⟨rfl,rfl,trivial⟩ O O O (λi hI=>?_);refine zQq 6 O (gZ 0 O LMq ?_);refine gS 3 O (λh1=>?_) (λh1=>?_)
 ·have hi:i<ds.length:=by omega
  obtain⟨d,hx⟩:∃d,ds[i]? =some d:=⟨_,List.getElem?_eq_getElem hi⟩
  obtain⟨d1,d2⟩:=hB.dep d (List.mem_of_getElem? hx);have hsn:ds.take (i+1)=ds.take i++[d]:=by rw[List.take_add_one,hx];rfl
  have hst:=(Qtq (ds:=ds.take i) hs).1;have hfw:=fw_doD (ds.take i) hs hf;have hln:=xTq (ds.take i) l;have ho:=rgvL_s (G:=G) (doD l (ds.take i)).1 d hst (few_le hfw.few Qc) d2;have hno:=doD_snoc l (ds.take i) d;rw[<-hsn] at hno;have hn1:(doD l (ds.take (i+1))).1=(gvL (doD l (ds.take i)).1 d).1:=by rw[hno]
  have hn2:(doD l (ds.take (i+1))).2.map recW=(doD l (ds.take i)).2.map recW++[recW ⟨1,depD d,(gvL (doD l (ds.take i)).1 d).2⟩]:=by rw[hno,List.map_append];rfl
  have hlt:((doD l (ds.take i)).2.map recW).length<=100:=by rw[List.length_map,hln,List.length_take];omega
  refine gP 10 O (zvq (i:=i) O O O O O O O (zsq pdW hx)) (gC 1 O (ho) (gP 18 O (zvq (i:=i) O O O O O O O (zsq pdW hx)) (gC 1 O (rfdepo_s d d1 d2) (gM 3 O (zRq O O (qzq [_,_,_] (k:=ti98) (news:=[recW ⟨1,depD d,(gvL (doD l (ds.take i)).1 d).2⟩]) O O O O O (zPq O O O O) Xh (by show(((doD l (ds.take i)).2.map recW).length+1)*48<=_;omega) (by show((doD l (ds.take i)).2.map recW).length+1<=_;omega) rfl Xh)) (gA 6 O (i+1) (zfq 2 O ?_))))));rw[<-hn1];exact jhq 4 (i+1) (hi) Xd (Nat.zero_le _) (hn2) Xx Xd Yj rfl Xz ⟨rfl,rfl,trivial⟩ ⟨rfl,rfl,rfl,rfl,rfl,trivial⟩ Xg Xg rfl Xk Xj Ya
 ·have hi:i=ds.length:=by omega
  subst hi;rw[show ds.take ds.length=ds from List.take_length];refine zfq 2 O (yNq Xi (zJq 9 O ?_));refine co_loopG2 (α:=Nat×(List Pr×List Rec)) (λa=>a.1<=xs.length/\doX box (doD l ds).1 (xs.take a.1)=some a.2) 9 (λa=>((doD l ds).2++a.2.2).map recW) 98 34 (λa=>[(13,.int .i64 (a.1:Int)),(0,psW a.2.1)]) [(4,_),(5,_),(6,_),(7,_),(8,_)] ([(1,29,dW box),(0,57,bodW ds xs f g)]) 2 (λa=>xs.length-a.1) ((0,(doD l ds).1,[])) ⟨rfl,rfl,rfl,rfl,rfl,trivial⟩ (⟨Nat.zero_le _,rfl⟩) ⟨rfl,rfl,trivial⟩ Xd Yj Jd Jd Xg Xg Xk Xj Ya (λa hI=>?_);obtain⟨i,r⟩:=a;obtain⟨g1,hst⟩:=hI;simp only at g1 hst⊢;have hsr:=(doX_ok box hsD hst).1;have hfr:=fw_doX hsD hfD hst;have hln:=uzq hst;rw[List.length_take] at hfr hln;refine zQq 6 O (gZ 0 O LMq ?_);refine gS 3 O (λh2=>?_) (λh2=>?_)
  ·have hi:i<xs.length:=by omega
   obtain⟨x,hx⟩:∃x,xs[i]? =some x:=⟨_,List.getElem?_eq_getElem hi⟩
   have hxo:=hB.tx x (List.mem_of_getElem? hx);have hsn:xs.take (i+1)=xs.take i++[x]:=by rw[List.take_add_one,hx];rfl
   have hlt:(((doD l ds).2++r.2).map recW).length<=100:=by rw[List.length_map,List.length_append];omega
   refine gP 9 O (zvq (i:=i) O O O O O O O (zsq txW hx)) (gC 9 O (Jeq x hxo) ?_);refine gS 3 O (λh3=>?_) (λh3=>?_)
   ·have hsg:¬x.sign=j1q x:=λq=>h3 (by rw[if_pos q])
    have e:=made_no hx hst (λq=>hsg q.1);rw[show refX x=110 from if_neg hsg] at e;rw[e];exact zfq 11 O (yNq Xi (zJq 2 O (jfq Jp rfl (.pur rfl))))
   ·have hsg:x.sign=j1q x:=Classical.byContradiction λq=>h3 Qx
    refine gC 7 O (rnext_s r.1 false x hxo (by have:=hfr.1;omega)) ?_;refine gS 3 O (λh4=>?_) (λh4=>?_)
    ·have hnx:¬(x.nonce=(acL r.1 (keyD x.pub)).nonce/\x.nonce<18446744073709551615):=of_decide_eq_false (by simpa only[Bool.not_eq_true'] using h4);have e:=made_no hx hst (λq=>hnx q.2);rw[show refX x=2 from if_pos hsg] at e;rw[e];exact zfq 11 O (yNq Xi (zJq 2 O (jfq Jp rfl (.pur rfl))))
    ·have hnx:x.nonce=(acL r.1 (keyD x.pub)).nonce/\x.nonce<18446744073709551615:=by simpa using h4
     have hg:goX r.1 x:=⟨hsg,hnx⟩;have hso:=doX_snoc hst hg;rw[<-hsn] at hso;exact gC 7 O (rpaid_s r.1 hsr (few_le hfr.few Xd) x hxo box (by rw[<-hnx.1];omega)) (gC 16 O (rtxid_s x hxo) (gM 3 O (zRq O O (qzq [_,_,_,_] (k:=ti98) (news:=[recW ⟨2,idD x,(yGq r.1 x box).2⟩]) O O O O O (zPq O O O O) Xh (by show((((doD l ds).2++r.2).map recW).length+1)*48<=_;omega) (by show(((doD l ds).2++r.2).map recW).length+1<=_;omega) rfl Xh)) (gA 6 O (i+1) (zfq 2 O (jhq 5 ((i+1,(yGq r.1 x box).1,r.2++[⟨2,idD x,(yGq r.1 x box).2⟩])) (⟨hi,hso⟩) Ye (Nat.zero_le _) Xh Xx Xd Yj rfl Xz ⟨rfl,rfl,trivial⟩ ⟨rfl,rfl,rfl,rfl,rfl,trivial⟩ Xg Xg rfl Xk Xj Ya)))))
  ·have hi:i=xs.length:=by omega
   subst hi;rw[List.take_length] at hst;have hmw:madeW l ds xs box= .tup [psW r.1,.fz (((doD l ds).2++r.2).map recW) 34 false,.int .i64 0]:=by unfold madeW;rw[hst]
   rw[hmw];exact zfq 2 O (yNq Xi (zJq 12 O (jfq Jp rfl (.tup (.cons (.pur Xh) (.cons (klq (H0:=[_,_]) Xm (qFq _) Xh) (.cons (.pur rfl) .nil)))))))
end
section
attribute [local irreducible] CoW OpW FlW Step Spec
attribute [local simp] qFq
variable {G:Nat->Option W}
noncomputable def rrefW(c:Nat):W:=.tup [.nils,hdW hdZ,.nils,.int .i64 (c:Int)]
@[simp] theorem rrefW_pur(c:Nat):purW (rrefW c)=true:=by simp[rrefW,purW,purL]
theorem rref_w(c:Nat):W.tup [.nils,.agg 98 [.int .i64 0,yAq,yAq,yAq,.int .i64 0],.nils,.int .i64 (c:Int)]=rrefW c:=by
 unfold rrefW hdW hdZ;rw[<-kiq];rfl
theorem rap_many(t:Tree)(p:Hdr)(ds:List Depo)(xs:List Tx)(f g:Bool)(box:Dig)(hb:t.nodes.length<=4611686018427387903)(h:MayBk t p)(hm:16<ds.length\/16<xs.length):PS cfg G 92 [tW t,hdW p,bodW ds xs f g,dW box] (rrefW 4):=by
 obtain⟨hA,hB,hC⟩:=h;refine gI 16 O (λR k0=>gC 0 O (zEq (w':=.bool true) (YTq t hb) (by rw[decide_eq_true (hA)])) (gC 3 O (zEq (w':=.bool true) (xCq p) (by rw[decide_eq_true (hB)])) (gF 5 O (eqI_not.2 (hC)) (gZ 11 O LMq ?_))));refine gD 0 O (λh1=>?_) (λh1=>?_)
 ·exact gQ 20 O (rref_w 4)
 ·exact gZ 3 O LMq (gT 0 O (ltI_iff.2 (Xd)) (gQ 15 O (rref_w 4)))
structure PW where
 w:W
 pur:purW w=true
attribute [local simp] PW.pur
theorem rap_w(t:Tree)(n:Nat)(t0:T)(hT:IsA t n t0)(p:Hdr)(hB:okH p)(hC:p.height≠1073741824)(ds:List Depo)(xs:List Tx)(f g:Bool)(box:Dig)(hm:ds.length<=16/\xs.length<=16)(hf:t.nodes.length+300*ds.length+1200*xs.length<=260944)(A B:PW)(e:Nat)(hM:PS cfg G 186 [psW t0.all,bodW ds xs f g,dW box] (.tup [A.w,B.w,.int .i64 (e:Int)]))(ans:W)(h0:e=0->∃l L,A.w=psW l/\B.w= .fz (L.map recW) 34 false/\Srt l/\Fw 1000000 l/\(∀r∈L,okR r)/\L.length<=256/\ans= .tup [psW l,hdW (keq p (trieL l) L),.fz (L.map recW) 34 false,.int .i64 0])(hz:e≠0->ans=rrefW e):PS cfg G 92 [tW t,hdW p,bodW ds xs f g,dW box] ans:=by
 have hA:MayA t:=⟨n,t0,hT⟩;have hb:t.nodes.length<=4611686018427387903:=by omega
 refine gI 16 O (λR k0=>gC 0 O (zEq (w':=.bool true) (YTq t hb) (by rw[decide_eq_true (hA)])) (gC 3 O (zEq (w':=.bool true) (xCq p) (by rw[decide_eq_true (hB)])) (gF 5 O (eqI_not.2 (hC)) (gZ 11 O LMq (gF 0 O (ltI_not.2 (Xd)) (gZ 3 O LMq (gF 0 O (ltI_not.2 (Xd)) (gZ 11 O LMq (gZ 2 O LMq (gA 0 O (300*ds.length) (gA 0 O (260944-300*ds.length) (gZ 2 O LMq (gA 0 O (1200*xs.length) (gA 0 O (260944-300*ds.length-1200*xs.length) (gF 0 O (ltI_not.2 (Xd)) (gC 8 O (rall_s t n t0 hT.toIsT) (gC 2 O (hM) ?_)))))))))))))))));refine gS 16 O (λh1=>?_) (λh1=>?_)
 ·have hne:e≠0:=λq=>h1 (by rw[q];rfl)
  rw[hz hne];exact gQ 12 O (rref_w e)
 ·have he:e=0:=by omega
  obtain⟨l,L,a1,a2,a3,a4,a5,a6,rfl⟩:=h0 he;rw[a1,a2];exact gC 8 O (rhead_s p hB l a3 a4 L a5 a6) (gQa 8 O)
theorem rap_some(t:Tree)(n:Nat)(t0:T)(hT:IsA t n t0)(p:Hdr)(hB:okH p)(hC:p.height≠1073741824)(ds:List Depo)(xs:List Tx)(f g:Bool)(hBo:BodOk ds xs)(box:Dig)(hm:ds.length<=16/\xs.length<=16)(hf:t.nodes.length+300*ds.length+1200*xs.length<=260944)(l:List Pr)(rs:List Rec)(hst:doX box (doD t0.all ds).1 xs=some (l,rs)):PS cfg G 92 [tW t,hdW p,bodW ds xs f g,dW box] (.tup [psW l,hdW (keq p (trieL l) ((doD t0.all ds).2++rs)),.fz (((doD t0.all ds).2++rs).map recW) 34 false,.int .i64 0]):=by
 have hs:=hT.toIsT.srt;have hfw:Fw 262144 t0.all:=⟨by have:=hT.toIsT.all_le;omega,λx hx=>(hT.toIsT.val x hx).2⟩;have hsl:=(doX_ok box (Qtq (ds:=ds) hs).1 hst).1;have hfl:=fw_doX (Qtq (ds:=ds) hs).1 (fw_doD ds hs hfw) hst;have hrl:=uzq hst;have hdl:=xTq ds t0.all;have hdr:= @doD_rec ds t0.all;have hrr:= @doX_rec box xs _ _ hst;simp only at hsl hfl hrl hrr;exact rap_w t n t0 hT p hB hC ds xs f g box hm hf ⟨psW l,by simp⟩ ⟨.fz (((doD t0.all ds).2++rs).map recW) 34 false,qFq _⟩ 0 (zEq (rmade_s t0.all hs (KBq hfw Xd) ds xs f g hBo box hm) (by unfold madeW;rw[hst];rfl)) _ (λ_=>⟨l,_,rfl,rfl,hsl,KBq hfl Xd,λr h=>by rcases List.mem_append.1 h with h|h;exact(hdr r h).2;exact(hrr r h).2,by rw[List.length_append];omega,rfl⟩) (λq=>absurd rfl q)
theorem rap_none(t:Tree)(n:Nat)(t0:T)(hT:IsA t n t0)(p:Hdr)(hB:okH p)(hC:p.height≠1073741824)(ds:List Depo)(xs:List Tx)(f g:Bool)(hBo:BodOk ds xs)(box:Dig)(hm:ds.length<=16/\xs.length<=16)(hf:t.nodes.length+300*ds.length+1200*xs.length<=260944)(hst:doX box (doD t0.all ds).1 xs=none):PS cfg G 92 [tW t,hdW p,bodW ds xs f g,dW box] (rrefW (badX box (doD t0.all ds).1 xs)):=by
 have hs:=hT.toIsT.srt;have hfw:Fw 262144 t0.all:=⟨by have:=hT.toIsT.all_le;omega,λx hx=>(hT.toIsT.val x hx).2⟩;have hne:badX box (doD t0.all ds).1 xs≠0:=by rcases JFq hst with h|h<;>omega
 exact rap_w t n t0 hT p hB hC ds xs f g box hm hf ⟨.nils,rfl⟩ ⟨.nils,rfl⟩ _ (zEq (rmade_s t0.all hs (KBq hfw Xd) ds xs f g hBo box hm) (by unfold madeW;rw[hst])) _ (λq=>absurd q hne) (λ_=>rfl)
end
section
attribute [local irreducible] CoW OpW FlW Step Spec
section
variable {c:Ch} {ds:List Depo} {xs:List Tx} {box:Dig} {y:Lk} {t':Tree} {t1:T} {L:List Rec}
theorem Adds.tree(h:Adds c ds xs box y t' t1 L):∃n,IsA t' n t1:=by
 obtain⟨n,t0,n1,rs,h1,h2,_⟩:=h.is;exact⟨n1,h2⟩
theorem Adds.few(h:Adds c ds xs box y t' t1 L):L.length<=32:=by
 obtain⟨n,t0,n1,rs,h1,h2,h3,rfl⟩:=h.is;have e1:=uzq h3;simp only at e1;have:=xTq ds t0.all;have:=h.many;rw[List.length_append];omega
theorem Adds.okc(h:Adds c ds xs box y t' t1 L)(hc:OkC c)(hB:BodOk ds xs)(g:Hdr):OkC (addC c t' g ds xs L):=by
 obtain⟨n,hT⟩:=h.tree;have hl:=hT.len;have hs:=h.short;have hf:=h.few;refine⟨λx hx=>?_,by show t'.nodes.length<=_;omega,by show(c.links++[_]).length<=_;rw[List.length_append];show _+1<=_;omega,λx hx=>?_⟩
 ·rcases List.mem_append.1 hx with q|q
  ·exact hc.body x q
  ·rw[List.mem_singleton.1 q];exact hB
 ·rcases List.mem_append.1 hx with q|q
  ·exact hc.recs x q
  ·rw[List.mem_singleton.1 q];show(L.map recI).length<=_;rw[List.length_map];omega
theorem Adds.smallc(h:Adds c ds xs box y t' t1 L)(hs:SmallC c)(g:Hdr):SmallC (addC c t' g ds xs L):=by
 obtain⟨n,hT⟩:=h.tree;have hl:=hT.len;have hsh:=h.short;have hf:=h.few;have hm:=h.many;refine⟨by show t'.nodes.length<=_;omega,IsT.vals (root:=t'.root) hT.toIsT,by show(c.links++[_]).length<=_;rw[List.length_append];show _+1<=_;omega,λx hx=>?_⟩;rcases List.mem_append.1 hx with q|q
 ·exact hs.link x q
 ·rw[List.mem_singleton.1 q];refine⟨by show ds.length<=_;omega,by show xs.length<=_;omega,?_⟩;show(L.map recI).length<=_;rw[List.length_map];omega
end
theorem greatc_small{c:Ch}{n:Nat}(hn:n<=1000)(h:¬JJq c n):SmallC c:=by
 obtain⟨h1,h2,h3⟩:=greatc_no h;refine⟨by omega,λx hx=>?_,by omega,λx hx=>?_⟩
 ·obtain⟨j,hj⟩:=List.getElem?_of_mem hx;have:=jJq hj;refine Nat.le_of_not_lt λq=>h (.inl (.inr ⟨j,x,by omega,hj,by omega⟩))
 ·obtain⟨k1,k2⟩:=h3 x hx;unfold y3q at k1;omega
end
section
attribute [local irreducible] CoW OpW FlW Step Spec
variable {G:Nat->Option W}
def SameK(x y:Lk):Prop:=x.hdr=y.hdr/\(x.ds=y.ds/\x.xs=y.xs)/\x.rs=y.rs
noncomputable instance(x y:Lk):Decidable (SameK x y):=Classical.propDecidable _
theorem Yiq(x y:Lk)(h:x.ds.length<=1000000/\x.xs.length<=1000000/\x.rs.length<=1000000):PS cfg G 79 [lkG x,lkG y] (.bool (decide (SameK x y))):=by
 obtain⟨h1,h2,h3⟩:=h;refine gI 13 O (λR k0=>?_);refine gDe 0 O (qyq O O O O (eq_hd _ _)) ydq (λh1=>?_) (λh1=>?_)
 ·refine gC 5 O (rsbody_s x.ds x.xs y.ds y.xs false false false false Xd Xd) ?_;refine gB 0 O (λh2=>?_) (λh2=>?_)
  ·exact gC 6 O (rseqr_s x.rs y.rs false false Xd) (gQ 5 O (dec_c ⟨λq=>⟨by assumption,by assumption,q⟩,λq=>q.2.2⟩))
  ·exact gQ 12 O (jGq λq=>absurd q.2.1 Xr)
 ·exact gQ 18 O (jGq λq=>absurd q.1 Xr)
theorem rctop_s(c:Ch){y:Lk}(hy:c.links[c.links.length-1]? =some y)(hl:c.links.length<=1000000):PS cfg G 73 [chG c] (hdW y.hdr):=by
 have:=jJq hy;exact gI 12 O (λR k0=>gZ 0 O LMq (gA 0 O (c.links.length-1) (gP 0 O (zvq (i:=c.links.length-1) O O O O O O O (zsq lkG hy)) (gQa 6 O))))
theorem rcfirst_s(t0:T)(ok:t0.ok 0 yZq=true)(hs:Z7q t0)(hl:t0.all.length<=1000000):PS cfg G 90 [psW t0.all] (hdW (firH t0)):=by
 exact gI 8 O (λR k0=>gC 0 O (rof_s t0 0 yZq false qqq ok hs hl) (gC 0 O (Yhq) (gQ 5 O (by unfold firH hdW;simp only;rw[<-kiq];rfl))))
theorem lk_same{x y:Lk}:SameK x y/\x.root=y.root↔x=y:=by
 constructor
 ·rintro⟨⟨h1,⟨h2,h3⟩,h4⟩,h5⟩;cases x;cases y
  simp only at h1 h2 h3 h4 h5;subst h1;subst h2;subst h3;subst h4;subst h5;rfl
 ·rintro rfl;exact⟨⟨rfl,⟨rfl,rfl⟩,rfl⟩,rfl⟩
noncomputable instance(a b:Ch):Decidable (a=b):=Classical.propDecidable _
theorem rcsame_s(a b:Ch)(ha:SmallC a)(hb:SmallC b):PS cfg G 18 [chG a,chG b] (.bool (decide (a=b))):=by
 have h1:=ha.nodes;have h2:=ha.len;have h3:=hb.len;by_cases ht:a.tree=b.tree
 ·by_cases hl:a.links.length=b.links.length
  ·skip
   refine gI 14 O (λR k0=>gC 0 O (zEq (w':=.bool true) (J1q a.tree b.tree Xd) (by rw[decide_eq_true (ht)])) (gZ 4 O LMq (gZ 2 O LMq (gF 0 O (congrArg not (eqI_iff.2 Xd)) ?_))));refine gLo (α:=Nat) 13 (λi=>i<=a.links.length/\a.links.take i=b.links.take i) (λi=>[(5,.int .i64 (i:Int))]) [2,3,4] (λi=>a.links.length-i) (0) rfl (⟨Nat.zero_le _,rfl⟩) (λi hI=>?_);obtain⟨g1,g2⟩:=hI;refine gZ 6 O LMq ?_;refine gS 3 O (λh1=>?_) (λh1=>?_)
   ·obtain⟨x,hx⟩:∃x,a.links[i]? =some x:=⟨_,List.getElem?_eq_getElem Xd⟩
    obtain⟨y,hy⟩:∃y,b.links[i]? =some y:=⟨_,List.getElem?_eq_getElem Xd⟩
    have hxs:=ha.link x (List.mem_of_getElem? hx);skip
    by_cases hk:SameK x y
    ·by_cases hr:x.root=y.root
     ·exact gP 9 O (zvq (i:=i) O O O O O O O (zsq lkG hx)) (gP 4 O (zvq (i:=i) O O O O O O O (zsq lkG hy)) (gC 1 O (zEq (w':=.bool true) (Yiq x y hxs) Jg) (gP 5 O (zvq (i:=i) O O O O O O O (zsq lkG hx)) (gP 5 O (zvq (i:=i) O O O O O O O (zsq lkG hy)) (gF 2 O (congrArg not (eqI_iff.2 (hr))) (gA 9 O (i+1) (gAg 2 O (i+1) (⟨by omega,x8q g2 hx hy (lk_same.1 ⟨hk,hr⟩)⟩) Xd)))))))
     ·exact gP 9 O (zvq (i:=i) O O O O O O O (zsq lkG hx)) (gP 4 O (zvq (i:=i) O O O O O O O (zsq lkG hy)) (gC 1 O (zEq (w':=.bool true) (Yiq x y hxs) Jg) (gP 5 O (zvq (i:=i) O O O O O O O (zsq lkG hx)) (gP 5 O (zvq (i:=i) O O O O O O O (zsq lkG hy)) (gT 2 O (congrArg not (eqI_not.2 (hr))) (gO 12 O (gQ 2 O (jGq λq=>ne_at hx hy (λz=>hr (by rw[z])) Je))))))))
    ·exact gP 9 O (zvq (i:=i) O O O O O O O (zsq lkG hx)) (gP 4 O (zvq (i:=i) O O O O O O O (zsq lkG hy)) (gC 1 O (zEq (w':=.bool false) (Yiq x y hxs) (by rw[decide_eq_false (hk)])) (gO 27 O (gQ 2 O (jGq λq=>ne_at hx hy (λz=>hk (lk_same.2 z).1) Je)))))
   ·refine gO 2 O ?_
    exact gQ 8 O (dec_t (by
     have:=vBq (a:=a.links) (b:=b.links) Xd Xd g2;cases a;cases b;simp only at this ht;rw[this,ht]))
  ·skip
   exact gI 14 O (λR k0=>gC 0 O (zEq (w':=.bool true) (J1q a.tree b.tree Xd) (by rw[decide_eq_true (ht)])) (gZ 4 O LMq (gZ 2 O LMq (gT 0 O (congrArg not (eqI_not.2 Xd)) (gQ 11 O (jGq λq=>hl Je))))))
 ·skip
  exact gI 14 O (λR k0=>gC 0 O (zEq (w':=.bool false) (J1q a.tree b.tree Xd) (by rw[decide_eq_false (ht)])) (gQ 20 O (jGq λq=>ht Je)))
theorem root_get2(b:Nat)(N:List W)(r:Int)(y:W):ycq 50 (.agg 3 [.agg 2 [gW b 36 N,.int .i64 r],y]) 1 1 false=some (.int .i64 r):=by cases N<;>rfl
theorem root_put(b:Nat)(N:List W)(r r':Int):qtq 50 (.agg 2 [gW b 36 N,.int .i64 r]) 1 (.int .i64 r')=some (.agg 2 [gW b 36 N,.int .i64 r']):=by cases N<;>rfl
def wiL(n:Nat)(h:Hdr)(ds:List Depo)(xs:List Tx)(rs:List RcI):Lk:=⟨h,(n:Int),ds,xs,rs⟩
def WiA(c:Ch)(t1:T)(h:Hdr)(ds:List Depo)(xs:List Tx)(rs:List RcI):W->Prop:=λw=>∃ms n,ms.length<=514000/\Rep (c.tree.nodes++ms) n t1/\w=chG ⟨⟨c.tree.nodes++ms,(n:Int)⟩,c.links++[wiL n h ds xs rs]⟩
theorem rwith17_s(c:Ch)(hs:SmallC c)(hne:c.links≠[])(hn4:c.tree.nodes.length<=400000)(n0:Nat)(t0:T)(hT:IsT c.tree n0 t0)(t1:T)(ok:t1.ok 0 yZq=true)(hv:∀p∈t1.all,p.2.length<=70368744177664)(hl:t1.all.length<=2000)(f:Bool)(h:Hdr)(ds:List Depo)(xs:List Tx)(hd:ds.length<=1000000)(hx:xs.length<=1000000)(rs:List RcI)(g:Bool)(hr:rs.length<=1000000):
  PE cfg G 106 [chG c,.fz (t1.all.map pW) 33 f,hdW h,bodW ds xs false false,.fz (rs.map rcW) 34 g] (WiA c t1 h ds xs rs):=by
 have hN:purL (c.tree.nodes.map nW)=true:=yhq xfq _;have hLp:=jRq c.links;have hLl:(c.links.map lkG).length=c.links.length:=List.length_map _;have hL1:(c.links.map lkG)≠[]:=by simpa using hne
 have hn:=hs.nodes;have hq3:=hs.len;have hcnt:cntT t1<=514000:=by have:=cnt_le ok Xd;have:t1.all.length*257<=2000*257:=Nat.mul_le_mul_right _ hl;omega
 have hrt:=hT.root;have htw:=rchtwin_o (G:=G) c hs;have e3:(rs.map rcW).length=rs.length:=List.length_map _;have pp:purL (t1.all.map pW)=true:=qLq _;have sp:OfS G t1 0:=Kpq t1 0 yZq qqq ok Xd hv;have hta:=rall_s (G:=G) c.tree n0 t0 hT;obtain⟨N,hNe⟩:∃N,c.tree.nodes.map nW=N:=⟨_,rfl⟩
 obtain⟨L,hLe⟩:∃L,c.links.map lkG=L:=⟨_,rfl⟩
 have nm:∀p∈gH 9 163 36 N,p.1=9:=kfq
 rw[hNe] at hN;rw[hLe] at hLp hLl hL1
 have e1:renW (numC [] 4) (tgC 5 7 c)= .agg 3 [.agg 2 [gW 9 36 N,.int .i64 c.tree.root],.sl 11 0 0 L.length 102 none]:=by
  show W.agg 3 [W.agg 2 [renW _ (gW 5 36 (c.tree.nodes.map nW)),_],renW _ (gW 7 102 (c.links.map lkG))]=_;rw[ren_g,ren_g,hNe,hLe,show numC [] 4 7=11 from rfl,qXq hL1];rfl
 have e2:renH (numC [] 4) (([(6,27,tgC 5 7 c),(1,27,tgC 5 7 c),(0,27,chG c)]++gH 5 163 36 (c.tree.nodes.map nW))++gH 7 155 102 (c.links.map lkG))=([(10,27,renW (numC [] 4) (tgC 5 7 c)),(5,27,renW (numC [] 4) (tgC 5 7 c)),(4,27,renW (numC [] 4) (chG c))]++gH 9 163 36 N)++[(11,155,.arr (L.length*102) 102 L)]:=by
  rw[J7q,J7q,renH_g _ _ _ _ (hNe▸hN),renH_g _ _ _ _ (hLe▸hLp),hNe,hLe,show numC [] 4 7=11 from rfl,qYq hL1];rfl
 unfold PE;refine gIe 11 O (λR k0=>?_);refine zlq rfl (yCq O O O O O (by simp[purL]) htw ?_);rintro w hp1 nw1 ⟨rfl,rfl,rfl⟩;rw[e1,e2,List.append_assoc];refine qOq (λ_=>ent_mv (Y:=[(11,155,.arr (L.length*102) 102 L),(3,27,.agg 3 [.agg 2 [.nils,.int .i64 0],.nils]),(2,57,bodW ds xs false false),(1,33,hdW h),(0,27,chG c)]) (by rw[<-List.append_assoc];exact jAq (λp hp=>by simp only[List.mem_cons,List.mem_append,List.not_mem_nil,or_false] at hp;rcases hp with (rfl|rfl|rfl)|rfl|rfl|rfl|rfl|rfl<;>simp) Xh)) ?_
 refine ziq 10 O (gM 0 O (z1q O O O (root_get2 9 N _ _)) (zfq 11 O ?_));skip
 have htv:View (blkA ([(13,24,W.agg 2 [gW 9 36 N,.int .i64 c.tree.root]),(12,27,.agg 3 [.agg 2 [gW 9 36 N,.int .i64 c.tree.root],.sl 11 0 0 L.length 102 none]),(11,155,.arr (L.length*102) 102 L),(3,27,.agg 3 [.agg 2 [.nils,.int .i64 0],.nils]),(2,57,bodW ds xs false false),(1,33,hdW h),(0,27,chG c)]++gH 9 163 36 N)) (.agg 2 [gW 9 36 N,.int .i64 c.tree.root]) (tW c.tree):=by
  show View _ _ (.agg 2 [.fz (c.tree.nodes.map nW) 36 false,.int .i64 c.tree.root]);rw[hNe];exact .agg (.cons (klq Xm hN Xh) (.cons (.pur rfl) .nil))
 skip
 by_cases hsame:t1.all=t0.all
 ·refine op_look 27 [(22,.fz (t1.all.map pW) 33 f),(24,tW c.tree)] ⟨⟨_,rfl,.pur (show purW (.fz (t1.all.map pW) 33 f)=true from pp)⟩,⟨_,rfl,htv⟩,trivial⟩ (by simp[pp]) O (op_pq hta (op_pq (zEq (w':=.bool true) (J3q (G:=G) t1.all t0.all f false Xd) (by rw[hsame,decide_eq_true rfl])) (zdq O O ?_)));refine zNq ⟨_,rfl,rfl,?_⟩;skip
  skip
  skip
  skip
  refine ziq 9 O (gM 0 O (qsq O O O O O (root_put 9 N _ _) rfl) (gC 21 O (vIq ds xs false false hd hx) (zfq 2 O ?_)))
  (refine zZq rfl (uJq (k:=ti98) (e:=34) (news:=rs.map rcW) O O O O O O O O O Xh Ja Xd ?_);refine⟨by first|rfl|kernel_rfl,?_⟩)
  refine ygq 2 O (gM 0 O (zRq O O (yXq (k:=ti155) (news:=[lkG ⟨h,c.tree.root,ds,xs,rs⟩]) (olds:=L) O O O O (zPq O O O O) Xh (by show(L.length+1)*192<=_;omega) (by show L.length+1<=_;omega) rfl (by show L.length*102<0+(L.length+1)*102;omega) rfl (zhq Xm O O))) (zfq 11 O ?_))
  have eC:chG ⟨⟨c.tree.nodes,c.tree.root⟩,c.links++[⟨h,c.tree.root,ds,xs,rs⟩]⟩= .agg 3 [.agg 2 [.fz N 36 false,.int .i64 c.tree.root],.fz (L++[lkG ⟨h,c.tree.root,ds,xs,rs⟩]) 102 false]:=by
   show W.agg 3 [W.agg 2 [.fz ((c.tree.nodes).map nW) 36 false,_],.fz ((c.links++[_]).map lkG) 102 false]=_;rw[List.map_append,hLe,hNe];rfl
  have hLp2:purL (L++[lkG ⟨h,c.tree.root,ds,xs,rs⟩])=true:=by rw[<-hLe,show [lkG ⟨h,c.tree.root,ds,xs,rs⟩]=[(⟨h,c.tree.root,ds,xs,rs⟩:Lk)].map lkG from rfl,<-List.map_append];exact jRq _
  refine yRq (w':=.agg 3 [.agg 2 [.fz N 36 false,.int .i64 c.tree.root],.fz (L++[lkG ⟨h,c.tree.root,ds,xs,rs⟩]) 102 false]) Jp rfl (.agg (.cons (.agg (.cons (klq (H0:=[_,_,_,_,_,_,_,_]) (b:=9) (e:=36) (ty:=163) Xm hN Xh) (.cons (.pur rfl) .nil))) (.cons (.sl (full:=false) (c:=.arr ((L.length+1)*102) 102 (L++[lkG ⟨h,c.tree.root,ds,xs,rs⟩])) rfl (show purL _=true from hLp2) (zhq Xm Xh rfl) Xi) .nil))) (by rw[<-eC];exact KVq _) ?_;have e0:t1=t0:=T.uniq qqq ok hT.ok hsame;refine⟨[],n0,by simp,by rw[List.append_nil,e0];exact hT.rep,?_⟩;rw[<-eC,List.append_nil,wiL,hrt]
 ·refine op_look 27 [(22,.fz (t1.all.map pW) 33 f),(24,tW c.tree)] ⟨⟨_,rfl,.pur (show purW (.fz (t1.all.map pW) 33 f)=true from pp)⟩,⟨_,rfl,htv⟩,trivial⟩ (by simp[pp]) O (op_pq hta (op_pq (zEq (w':=.bool false) (J3q (G:=G) t1.all t0.all f false Xd) (by rw[decide_eq_false hsame])) (zdq O O ?_)));refine zNq ⟨_,rfl,rfl,?_⟩;skip
  skip
  skip
  skip
  subst hNe;refine ziq 7 O ?_;refine op_of (ns:=c.tree.nodes) (f:=f) 9 [_,_,_,_,_,_,_] O O O O O O (λp hp=>by simp only[List.mem_cons,List.not_mem_nil,or_false] at hp;rcases hp with rfl|rfl|rfl|rfl|rfl|rfl|rfl<;>simp) Xh Xd sp Xd ?_;intro ms n1 k1 hm1 hr1 hk1
  refine ziq 11 O (gM 0 O (qsq O O O O O (root_put k1 ((c.tree.nodes++ms).map nW) _ _) rfl) (gC 21 O (vIq ds xs false false hd hx) (zfq 2 O ?_)))
  (refine zZq rfl (uJq (k:=ti98) (e:=34) (news:=rs.map rcW) O O O O O O O O O Xh Ja Xd ?_);refine⟨by first|rfl|kernel_rfl,?_⟩)
  refine ygq 2 O (gM 0 O (zRq O O (yXq (k:=ti155) (news:=[lkG ⟨h,((n1:Nat):Int),ds,xs,rs⟩]) (olds:=L) O O O O (zPq O O O O) Xh (by show(L.length+1)*192<=_;omega) (by show L.length+1<=_;omega) rfl (by show L.length*102<0+(L.length+1)*102;omega) rfl (zhq Xm O O))) (zfq 11 O ?_));have pms:purL ((c.tree.nodes++ms).map nW)=true:=yhq xfq _
  have eC:chG ⟨⟨c.tree.nodes++ms,((n1:Nat):Int)⟩,c.links++[⟨h,((n1:Nat):Int),ds,xs,rs⟩]⟩= .agg 3 [.agg 2 [.fz ((c.tree.nodes++ms).map nW) 36 false,.int .i64 ((n1:Nat):Int)],.fz (L++[lkG ⟨h,((n1:Nat):Int),ds,xs,rs⟩]) 102 false]:=by
   show W.agg 3 [W.agg 2 [.fz ((c.tree.nodes++ms).map nW) 36 false,_],.fz ((c.links++[_]).map lkG) 102 false]=_;rw[List.map_append (l₁:=c.links),hLe];rfl
  have hLp2:purL (L++[lkG ⟨h,((n1:Nat):Int),ds,xs,rs⟩])=true:=by rw[<-hLe,show [lkG ⟨h,((n1:Nat):Int),ds,xs,rs⟩]=[(⟨h,((n1:Nat):Int),ds,xs,rs⟩:Lk)].map lkG from rfl,<-List.map_append];exact jRq _
  refine yRq (w':=.agg 3 [.agg 2 [.fz ((c.tree.nodes++ms).map nW) 36 false,.int .i64 ((n1:Nat):Int)],.fz (L++[lkG ⟨h,((n1:Nat):Int),ds,xs,rs⟩]) 102 false]) Jp rfl (.agg (.cons (.agg (.cons (klq (H0:=[_,_,_,_,_,_,_,_]) (b:=k1) (e:=36) (ty:=163) Xm pms (λp hp=>by simp only[List.mem_cons,List.not_mem_nil,or_false] at hp;rcases hk1 with rfl|rfl<;>rcases hp with rfl|rfl|rfl|rfl|rfl|rfl|rfl|rfl<;>simp)) (.cons (.pur rfl) .nil))) (.cons (.sl (full:=false) (c:=.arr ((L.length+1)*102) 102 (L++[lkG ⟨h,((n1:Nat):Int),ds,xs,rs⟩])) rfl (show purL _=true from hLp2) (zhq Xm Xh rfl) Xi) .nil))) (by rw[<-eC];exact KVq _) ?_;exact⟨ms,n1,by omega,hr1,eC.symm⟩
end
section
variable {G:Nat->Option W}
theorem pe_res{C:Cfg}{f:FuncId}{ws:List W}{A B:W->Prop}(h:PE C G f ws A)(hi:∀w,purW w=true->A w->∃w',View (λ_=>none) w w'/\purW w'=true/\B w'):PE C G f ws B:=λR Γ X vs h1 s hv=>by
 obtain⟨n,v,Γ',X',w',hp',R',g1,g2,g3,g4,g5,g6,g7⟩:=h R Γ X vs h1 s hv;obtain⟨w2,a1,a2,a3⟩:=hi w' g6 g7;exact⟨n,v,Γ',X',w2,hp',R',g1,g2,g3,kaq ⟨λ_ h _=>h,λ_ _ _=>rfl,λ_ h=>h,λ_ _=>rfl,λ_ _ _ h=>Qg⟩ a1 g4,g5,a2,a3⟩
attribute [local irreducible] CoW OpW FlW Step Spec
def noC:Ch:=⟨⟨[],0⟩,[]⟩
theorem xMq(μ:Nat->Option W)(e:Int):View μ (.tup [noCh,.int .i64 e]) (.tup [chG noC,.int .i64 e]):=.tup (.cons (.agg (.cons (.agg (.cons .nilfz (.cons (.pur rfl) .nil))) (.cons .nilfz .nil))) (.cons (.pur rfl) .nil))
def HeldR(c:Ch)(r:Int)(t:T):Prop:=∃n:Nat,r=n/\Rep c.tree.nodes n t/\c.tree.nodes.length<=4611686018427387903/\t.all.length<=1000000/\∀p∈t.all,p.2.length<=70368744177664
theorem Kwq{c:Ch}{r:Int}{n:Nat}{t:T}(h:IsT (verT c r) n t):HeldR c r t:=
 ⟨n,h.root,h.rep,Nat.le_trans h.len Xd,Nat.le_trans h.le Xd,h.vle⟩
theorem HeldR.more{c d:Ch}{r:Int}{t:T}(h:HeldR c r t){ms:List Node}(e:d.tree.nodes=c.tree.nodes++ms)(hb:d.tree.nodes.length<=4611686018427387903):HeldR d r t:=by
 obtain⟨n,h1,h2,_,h4,h5⟩:=h;exact⟨n,h1,by rw[e];exact h2.app ms,hb,h4,h5⟩
theorem rheld_r(c:Ch)(i:Nat)(x:Lk)(hx:c.links[i]? =some x)(t:T)(h:HeldR c x.root t):PS cfg G 91 [chG c,.int .i64 (i:Int)] (psW t.all):=by
 obtain⟨n,h1,h2,h3,h4,h5⟩:=h;exact gI 10 O (λR k0=>gC 0 O (rat17_s c i x hx) (gC 0 O (rall_rep (verT c x.root) n t h1 h2 h3 h4 h5) (gQa 4 O)))
def AlikeC(a b:Ch):Prop:=a.links.length=b.links.length/\∀(i:Nat) (x y:Lk),a.links[i]? =some x->b.links[i]? =some y->SameK x y/\∃t,HeldR a x.root t/\HeldR b y.root t
theorem Kbq(a b:Ch)(hl:a.links.length<=1000000)(hs:∀x∈a.links,x.ds.length<=1000000/\x.xs.length<=1000000/\x.rs.length<=1000000)(h:AlikeC a b):PS cfg G 32 [chG a,chG b] (.bool true):=by
 obtain⟨he,h⟩:=h;refine gI 12 O (λR k0=>gZ 0 O LMq (gZ 2 O LMq (gF 0 O (congrArg not (eqI_iff.2 Xd)) ?_)));refine gLo (α:=Nat) 12 (λi=>i<=a.links.length) (λi=>[(5,.int .i64 (i:Int))]) [2,3,4] (λi=>a.links.length-i) (0) rfl (Nat.zero_le _) (λi hI=>?_);refine gZ 6 O LMq ?_;refine gS 3 O (λh1=>?_) (λh1=>?_)
 ·have hi:i<a.links.length:=by omega
  obtain⟨x,hx⟩:∃x,a.links[i]? =some x:=⟨_,List.getElem?_eq_getElem hi⟩
  obtain⟨y,hy⟩:∃y,b.links[i]? =some y:=⟨_,List.getElem?_eq_getElem (he▸hi)⟩
  obtain⟨hk,t,ta,tb⟩:=h i x y hx hy;have htl:t.all.length<=1000000:=by obtain⟨_,_,_,_,q,_⟩:=ta;exact q
  exact gP 9 O (zvq (i:=i) O O O O O O O (zsq lkG hx)) (gP 4 O (zvq (i:=i) O O O O O O O (zsq lkG hy)) (gC 1 O (zEq (w':=.bool true) (Yiq x y (hs x (List.mem_of_getElem? hx))) Jg) (gC 4 O (rheld_r a i x hx t ta) (gC 2 O (rheld_r b i y hy t tb) (gC 0 O (zEq (w':=.bool true) (J3q t.all t.all false false Xd) (by rw[decide_eq_true (rfl)])) (gA 10 O (i+1) (gAg 2 O (i+1) (hi) Xd)))))))
 ·exact gO 2 O (gQa 8 O)
noncomputable def bgE(l:List Pr):Int:=if okB l then 0 else 8
def FirstC(c:Ch)(l:List Pr):Prop:=∃t0 r,t0.ok 0 yZq=true/\t0.all=l/\c.links=[⟨firH t0,r,[],[],[]⟩]/\HeldR c r t0
def NewQ(P:Ch->Prop)(l:List Pr):W->Prop:=λw=>∃A:Ch,(bgE l≠0->A.links=[])/\(bgE l=0->FirstC A l/\P A)/\w= .tup [chG A,.int .i64 (bgE l)]
theorem bgE_t{l:List Pr}(h:okB l):bgE l=0:=if_pos h
theorem bgE_f{l:List Pr}(h:¬okB l):bgE l=8:=if_neg h
theorem newq_no(P:Ch->Prop){l:List Pr}(h:¬okB l):NewQ P l (.tup [chG noC,.int .i64 8]):=⟨noC,λ_=>rfl,λq=>absurd q (by rw[bgE_f h];decide),by rw[bgE_f h]⟩
theorem newq_ok(P:Ch->Prop){l:List Pr}(h:okB l){A:Ch}(hA:FirstC A l)(hP:P A):NewQ P l (.tup [chG A,.int .i64 0]):=⟨A,λq=>absurd (bgE_t h) q,λ_=>⟨hA,hP⟩,by rw[bgE_t h]⟩
theorem cnew2_s(l:List Pr)(hb:l.length<=1000000000):PE cfg glK 27 [psW l] (NewQ (λA=>OkC A/\MayC A) l):=
 pe_res (cnew_s l false hb) (by
  rintro w hp (⟨h,rfl⟩|⟨h,t,n,t0,hA,rfl,hn,rfl⟩)
  ·exact⟨_,xMq _ 8,rfl,newq_no _ h⟩
  ·have hk:t.nodes.length<=4611686018427387903:=Nat.le_trans hA.len Xd;refine⟨_,.pur hp,hp,newq_ok _ h ⟨t0,t.root,hA.ok,rfl,rfl,Kwq (c:=newC t t0) (r:=t.root) hA.toIsT⟩ ⟨⟨λx hx=>?_,hk,by show(1:Nat)<=_;omega,λx hx=>?_⟩,(newC_is hA yZq).toMayC⟩⟩
   ·rw[List.mem_singleton.1 hx];exact⟨λ_ q=>(by cases q),λ_ q=>(by cases q),Nat.zero_le _,Nat.zero_le _⟩
   ·rw[List.mem_singleton.1 hx];exact Nat.zero_le _)
theorem g_put1(b e:Nat)(l:List W)(r:Int)(n:Int):qtq 50 (.agg 2 [gW b e l,.int .i64 r]) 1 (.int .i64 n)=some (.agg 2 [gW b e l,.int .i64 n]):=by cases l<;>rfl
def MadeA(t0:T):W->Prop:=λw=>∃(ms:List Node) (n:Nat),ms.length=cntT t0/\Rep ms n t0/\w=tW ⟨ms,(n:Int)⟩
theorem made_s(t0:T)(f:Bool)(ok:t0.ok 0 yZq=true)(hl:t0.all.length<=1000)(hv:∀p∈t0.all,p.2.length<=70368744177664):PE cfg G 105 [.fz (t0.all.map pW) 33 f] (MadeA t0):=by
 have hc:=cnt_le ok Xd;have sp:OfS G t0 0:=Kpq t0 0 yZq qqq ok Xd hv;refine gIe 8 O (λR k0=>qOq (λ_=>jLq (fr2:=[(2,.ptr 0 0),(6,tgW 0 [] 0),(0,.fz (t0.all.map pW) 33 f)]) ⟨rfl,rfl,rfl,trivial⟩) (zdq O O ?_))
 refine op_of (f:=f) (ns:=[]) (r:=0) (t:=t0) (d:=0) 1 [(0,_)] O O O O O O Xh Xh Xd sp (by show 0+_<=_;omega) ?_;intro ms n k' hms hrep hk';rw[List.nil_append] at hrep⊢
 refine ziq 12 O (gM 0 O (qsq O O O O O (g_put1 _ 36 _ _ _) rfl) (zfq 9 O ?_));refine yRq (w':=tW ⟨ms,(n:Int)⟩) Jp rfl (.agg (.cons (klq (H0:=[(4,24,.agg 2 [gW k' 36 (ms.map nW),.int .i64 (n:Int)]),(0,24,.agg 2 [gW k' 36 (ms.map nW),.int .i64 (n:Int)])]) Xm (yhq xfq _) (λp hp=>by simp only[List.mem_cons,List.not_mem_nil,or_false] at hp;rcases hp with q|q<;>rw[q]<;>first|(show¬4=k';omega)|(show¬0=k';omega))) (.cons (.pur rfl) .nil))) Xh ⟨ms,n,hms,hrep,rfl⟩
theorem rnew17_s(l:List Pr)(hb:l.length<=1000000000):PE cfg G 28 [psW l] (NewQ (λ_=>True) l):=by
 by_cases h:okB l
 ·obtain⟨t0,ok,rfl⟩:∃t0:T,t0.ok 0 yZq=true/\t0.all=l:=⟨_,JRq (mayp_srt h.1)⟩
  have hl:=h.1.1
  have hv:∀p∈t0.all,p.2.length<=64:=λp hp=>by
   obtain⟨i,hi⟩:=List.getElem?_of_mem hp;have:=(h.1.2 i (jJq hi) p hi).1;simp only[valB,Bool.and_eq_true,decide_eq_true_eq] at this;exact this.2
  have hc:=cnt_le ok Xd;refine gIe 10 O (λR k0=>gC 0 O (zEq (w':=.bool true) (begun_s t0.all false Xd) (by rw[decide_eq_true (h)])) (gE 9 O (made_s t0 false ok Xd (λp hp=>by have:=hv p hp;omega)) ?_));rintro w hw ⟨ms,n,hms,hrep,rfl⟩;exact gC 8 O (rcfirst_s t0 ok (λp hp=>by have:=hv p hp;omega) Xd) (zfq 10 O (yRq (w':=.tup [.agg 3 [tW ⟨ms,(n:Int)⟩,.fz [newX ⟨ms,(n:Int)⟩ t0] 102 false],.int .i64 0]) Jp rfl (.tup (.cons (.agg (.cons (.pur Xh) (.cons (.sl2 (full:=false) (c':=newX ⟨ms,(n:Int)⟩ t0) (xs:=[newX ⟨ms,(n:Int)⟩ t0]) rfl (.agg (.cons (.pur (ZEq _)) (.cons (.pur rfl) (.cons (.agg (.cons .nilfz (.cons .nilfz .nil))) (.cons .nilfz .nil))))) rfl Xi) .nil))) (.cons (.pur rfl) .nil))) Qw (newq_ok _ h (A:=newC ⟨ms,(n:Int)⟩ t0) ⟨t0,_,ok,rfl,rfl,n,rfl,hrep,by show ms.length<=_;omega,by omega,λp hp=>by have:=hv p hp;omega⟩ trivial)))
 ·skip
  exact gIe 10 O (λR k0=>gC 0 O (zEq (w':=.bool false) (begun_s l false hb) (by rw[decide_eq_false (h)])) (zfq 13 O (yRq (w':=.tup [chG noC,.int .i64 8]) Jp rfl (xMq _ 8) rfl (newq_no _ h))))
theorem first_alike{a b:Ch}{l:List Pr}(ha:FirstC a l)(hb:FirstC b l):AlikeC a b:=by
 obtain⟨t,r,ok,e,hl,h⟩:=ha;obtain⟨t',r',ok',e',hl',h'⟩:=hb;obtain rfl:=T.uniq qqq ok ok' (e.trans e'.symm);refine⟨by rw[hl,hl'];rfl,λi x y hx hy=>?_⟩;rw[hl] at hx;rw[hl'] at hy;obtain rfl:i=0:=by have:=jJq hx;simp at this;omega
 cases hx;cases hy;exact⟨⟨rfl,⟨rfl,rfl⟩,rfl⟩,t,h,h'⟩
end
section
attribute [local irreducible] CoW OpW FlW Step Spec
attribute [local simp] qFq
variable {G:Nat->Option W}
noncomputable def addF(c:Ch)(ds:List Depo)(xs:List Tx)(box:Dig):Int:=if CanAdd c ds xs box then 0 else(addE c ds xs box:Nat)
def AddC(P c:Ch)(ds:List Depo)(xs:List Tx)(box:Dig):Prop:=∃(y:Lk) (t1:T) (rs:List Rec) (r:Int) (ms:List Node),c.links[c.links.length-1]? =some y/\doX box (doD (heldL c.tree) ds).1 xs=some (t1.all,rs)/\t1.ok 0 yZq=true/\P.links=c.links++[⟨keq y.hdr t1 ((doD (heldL c.tree) ds).2++rs),r,ds,xs,((doD (heldL c.tree) ds).2++rs).map recI⟩]/\HeldR P r t1/\P.tree.nodes=c.tree.nodes++ms
def AddQ(P:Ch->Prop)(c:Ch)(ds:List Depo)(xs:List Tx)(box:Dig):W->Prop:=λw=>∃A:Ch,(addF c ds xs box≠0->A.links=[])/\(addF c ds xs box=0->MayC c/\AddC A c ds xs box/\P A)/\w= .tup [chG A,.int .i64 (addF c ds xs box)]
theorem QOq(P:Ch->Prop){c:Ch}{ds:List Depo}{xs:List Tx}{box:Dig}(h:¬CanAdd c ds xs box){k:Nat}(e:addE c ds xs box=k):AddQ P c ds xs box (.tup [chG noC,.int .i64 (k:Int)]):=by
 have e2:addF c ds xs box=(k:Int):=by unfold addF;rw[if_neg h,e]
 have:=addE_no h;exact⟨noC,λ_=>rfl,λq=>by omega,by rw[e2]⟩
theorem addq_ok(P:Ch->Prop){c:Ch}{ds:List Depo}{xs:List Tx}{box:Dig}(h:CanAdd c ds xs box){A:Ch}(hA:AddC A c ds xs box)(hP:P A):AddQ P c ds xs box (.tup [chG A,.int .i64 0]):=by
 have e2:addF c ds xs box=0:=if_pos h;exact⟨A,λq=>absurd e2 q,λ_=>⟨h.may,hA,hP⟩,by rw[e2]⟩
theorem cadd2_s(c:Ch)(hc:OkC c)(hs:SmallC c)(hn:c.tree.nodes.length<=200000)(ds:List Depo)(xs:List Tx)(hB:BodOk ds xs)(box:Dig):PE cfg glK 29 [chG c,bodW ds xs false false,dW box] (AddQ (λA=>OkC A/\MayC A/\SmallC A) c ds xs box):=
 pe_res (cadd_s c hc hs hn ds xs hB box) (by
  rintro w hp (⟨hca,y,t',t1,L,hadd,hgr,rfl⟩|⟨hno,rfl⟩)
  ·obtain⟨n,t0,n1,rs,hA,hA1,hdo,hL⟩:=hadd.is;obtain⟨ms,hms⟩:=hadd.goes;refine⟨_,.pur hp,hp,addq_ok _ hca ⟨y,t1,rs,t'.root,ms,hadd.last,?_,hA1.ok,?_,Kwq (c:=addC c t' (keq y.hdr t1 L) ds xs L) (r:=t'.root) hA1.toIsT,hms⟩ ⟨hadd.okc hc hB _,hadd.mayc,hadd.smallc hs _⟩⟩
   ·rw[Yqq hA];exact hdo
   ·rw[Yqq hA,<-hL];rfl
  ·exact⟨_,xMq _ _,rfl,QOq _ hno rfl⟩)
theorem radd17_s(c:Ch)(hc:OkC c)(hs:SmallC c)(hn:c.tree.nodes.length<=900)(ds:List Depo)(xs:List Tx)(hB:BodOk ds xs)(box:Dig):PE cfg G 30 [chG c,bodW ds xs false false,dW box] (AddQ (λ_=>True) c ds xs box):=by
 by_cases hm:MayC c
 ·obtain⟨y,hy,hroot,hmy⟩:=hm.last;have hno:=hm.one;have hsl:=hs.len;by_cases hf:c.links.length<256
  ·obtain⟨n,t0,hA,_⟩:=hm.head hy;have hh:=Yqq hA;have hhy:=hmy.height;have hbk:MayBk c.tree y.hdr:=⟨⟨n,t0,hA⟩,hmy.hdr,by omega⟩;by_cases hmany:ds.length<=16/\xs.length<=16
   ·cases hst:doX box (doD t0.all ds).1 xs with
    |none=>
     have hb:=JFq hst;exact gIe 13 O (λR k0=>gC 0 O (zEq (w':=.bool true) (uhq c hc) Jf) (gZ 11 O LMq (gF 0 O (congrArg not (ltI_iff.2 Xd)) (gC 10 O (rctop_s c hy hsl) (gC 2 O (rap_none c.tree n t0 hA y.hdr hmy.hdr Xd ds xs false false hB box hmany Xd hst) (gT 16 O (congrArg not (eqI_not.2 Xd)) (zfq 13 O (yRq (w':=.tup [chG noC,.int .i64 (badX box (doD t0.all ds).1 xs:Nat)]) Jp rfl (xMq _ _) rfl (QOq _ (λq=>q.goes (by rw[hh,hst])) (by unfold addE;rw[if_neg (λq=>q hm),if_neg Xd,if_neg Xd,hh]))))))))))
    |some r=>
     obtain⟨l,rs⟩:=r;have hs0:=hA.toIsT.srt;have hsl2:=(doX_ok box (Qtq (ds:=ds) hs0).1 hst).1;have hfl:=fw_doX (Qtq (ds:=ds) hs0).1 (fw_doD ds hs0 (show Fw 900 t0.all from⟨by have:=hA.toIsT.all_le;omega,λx hx=>(hA.toIsT.val x hx).2⟩)) hst;have hrl:=uzq hst;have hdl:=xTq ds t0.all;simp only at hsl2 hfl hrl;obtain⟨t1,ok1,rfl⟩:∃t1:T,t1.ok 0 yZq=true/\t1.all=l:=⟨_,JRq hsl2⟩
     have hap:=rap_some (G:=G) c.tree n t0 hA y.hdr hmy.hdr Xd ds xs false false hB box hmany Xd t1.all rs hst;rw[trie_is ok1] at hap;obtain⟨L,hL⟩:∃L,(doD t0.all ds).2++rs=L:=⟨_,rfl⟩
     have hLl:L.length<=32:=by rw[<-hL,List.length_append];omega
     rw[hL] at hap;have hw:=rwith17_s (G:=G) c hs (by intro q;rw[q] at hno;cases hno) Xd n t0 hA.toIsT t1 ok1 (λp hp=>by have:=hfl.2 p hp;omega) (by have:=hfl.1;omega) false (keq y.hdr t1 L) ds xs Xd Xd (L.map recI) false Yy;rw[recI_w] at hw;have hca:CanAdd c ds xs box:=⟨hm,hf,hmany,by rw[hh,hst];intro q;cases q⟩;refine gIe 13 O (λR k0=>gC 0 O (zEq (w':=.bool true) (uhq c hc) Jf) (gZ 11 O LMq (gF 0 O (congrArg not (ltI_iff.2 Xd)) (gC 10 O (rctop_s c hy hsl) (gC 2 O (hap) (gF 16 O (congrArg not (eqI_iff.2 (rfl))) (gE 12 O (hw) ?_)))))));rintro w hw ⟨ms,n1,hms,hrep,rfl⟩;refine zfq 5 O ?_;have hnn:(c.tree.nodes++ms).length<=4611686018427387903:=by rw[List.length_append];omega
     exact yRq (w':=.tup [chG ⟨⟨c.tree.nodes++ms,(n1:Int)⟩,c.links++[wiL n1 (keq y.hdr t1 L) ds xs (L.map recI)]⟩,.int .i64 0]) Jp rfl (.pur Qw) Qw (addq_ok _ hca ⟨y,t1,rs,n1,ms,hy,by rw[hh];exact hst,ok1,by rw[hh,hL];rfl,⟨n1,rfl,hrep,hnn,by have:=hfl.1;omega,λp hp=>by have:=hfl.2 p hp;omega⟩,rfl⟩ trivial)
   ·skip
    exact gIe 13 O (λR k0=>gC 0 O (zEq (w':=.bool true) (uhq c hc) Jf) (gZ 11 O LMq (gF 0 O (congrArg not (ltI_iff.2 Xd)) (gC 10 O (rctop_s c hy hsl) (gC 2 O (rap_many c.tree y.hdr ds xs false false box Xd hbk Xd) (gT 16 O (congrArg not (eqI_not.2 Xm)) (zfq 13 O (yRq (w':=.tup [chG noC,.int .i64 (4:Nat)]) Jp rfl (xMq _ _) rfl (QOq _ (λq=>hmany q.many) (by unfold addE;rw[if_neg (λq=>q hm),if_neg Xd,if_pos Xd]))))))))))
  ·skip
   exact gIe 13 O (λR k0=>gC 0 O (zEq (w':=.bool true) (uhq c hc) Jf) (gZ 11 O LMq (gT 0 O (congrArg not (ltI_not.2 Xd)) (zfq 12 O (yRq (w':=.tup [chG noC,.int .i64 (9:Nat)]) Jp rfl (xMq _ _) rfl (QOq _ (λq=>hf q.short) (by unfold addE;rw[if_neg (λq=>q hm),if_pos Xd])))))))
 ·skip
  exact gIe 13 O (λR k0=>gC 0 O (zEq (w':=.bool false) (uhq c hc) (by rw[decide_eq_false (hm)])) (zfq 13 O (yRq (w':=.tup [chG noC,.int .i64 (8:Nat)]) Jp rfl (xMq _ _) rfl (QOq _ (λq=>hm q.may) (by unfold addE;rw[if_pos hm])))))
theorem add_alike{a b c:Ch}{ds:List Depo}{xs:List Tx}{box:Dig}(hM:MayC c)(ha:AddC a c ds xs box)(hb:AddC b c ds xs box):AlikeC a b:=by
 obtain⟨y,t,rs,r,ms,hy,hd,ok,hl,h,hn⟩:=ha;obtain⟨y',t',rs',r',ms',hy',hd',ok',hl',h',hn'⟩:=hb;obtain rfl:=Option.some.inj (hy.symm.trans hy');have q:=Option.some.inj (hd.symm.trans hd');obtain rfl:=T.uniq qqq ok ok' (congrArg Prod.fst q);obtain rfl:rs=rs':=congrArg Prod.snd q;obtain⟨_,_,_,hk,_⟩:=id h;obtain⟨_,_,_,hk',_⟩:=id h';refine⟨by rw[hl,hl'];simp,λi x z hx hz=>?_⟩;rw[hl] at hx;rw[hl'] at hz;rcases Ytq hx with hx|⟨hi,rfl⟩
 ·obtain rfl:x=z:=by rw[List.getElem?_append_left (jJq hx)] at hz;exact Option.some.inj (hx.symm.trans hz)
  obtain⟨n,t0,hA⟩:=(hM.link i x hx).tree;have h0:=Kwq (c:=c) (r:=x.root) hA.toIsT;exact⟨⟨rfl,⟨rfl,rfl⟩,rfl⟩,t0,h0.more hn hk,h0.more hn' hk'⟩
 ·rcases Ytq hz with hz|⟨_,rfl⟩
  ·exact absurd (jJq hz) Xd
  ·exact⟨⟨rfl,⟨rfl,rfl⟩,rfl⟩,t,h,h'⟩
def JLq(l:List Pr)(m:Nat):Prop:=m<l.length\/∃x∈l,100<x.2.length
noncomputable instance(l:List Pr)(m:Nat):Decidable (JLq l m):=Classical.propDecidable _
theorem Yrq(l:List Pr)(f:Bool)(m:Nat)(hb:l.length<=1000000000000000):PS cfg G 25 [.fz (l.map pW) 33 f,.int .i64 (m:Int)] (.bool (decide (JLq l m))):=by
 refine gI 9 O (λR k0=>gZ 0 O LMq ?_);refine gS 4 O (λh1=>?_) (λh1=>?_)
 ·exact gQ 7 O (by rw[decide_eq_true (show JLq l m from .inl Xd)])
 ·refine gLo (α:=Nat) 9 (λi=>i<=l.length/\∀j x,j<i->l[j]? =some x->¬100<x.2.length) (λi=>[(5,.int .i64 (i:Int))]) [0,4] (λi=>l.length-i) (0) rfl (⟨Nat.zero_le _,λj x h=>by omega⟩) (λi hI=>?_);obtain⟨g1,g2⟩:=hI;refine gZ 5 O LMq ?_;refine gS 3 O (λh2=>?_) (λh2=>?_)
  ·have hi:i<l.length:=by omega
   obtain⟨x,hx⟩:∃x,l[i]? =some x:=⟨_,List.getElem?_eq_getElem hi⟩
   have ex:=zeq x.2;refine gP 8 O (zvq (i:=i) O O O O O O O (zsq pW hx)) (gZ 2 O ex ?_);refine gS 3 O (λh3=>?_) (λh3=>?_)
   ·exact gO 8 O (gQ 2 O (by rw[decide_eq_true (show JLq l m from .inr ⟨x,List.mem_of_getElem? hx,by omega⟩)]))
   ·exact gA 5 O (i+1) (gAg 2 O (i+1) (⟨hi,λj y hj hy=>by rcases Nat.lt_succ_iff_lt_or_eq.1 hj with q|rfl;exact g2 j y q hy;have:=Option.some.inj (hx.symm.trans hy);subst this;omega⟩) Xd)
  ·have no:¬JLq l m:=by
    rintro(q|⟨x,hx,q⟩)
    ·omega
    ·obtain⟨j,hj⟩:=List.getElem?_of_mem hx;exact g2 j x (by have:=jJq hj;omega) hj q
   exact gO 2 O (gQ 8 O (by rw[decide_eq_false no]))
theorem cadds_s(l:List Pr)(hb:l.length<=1000000000000000)(c:Ch)(hc:OkC c)(ds:List Depo)(xs:List Tx)(hB:BodOk ds xs)(box:Dig):PS cfg glK 4 [psW l,chG c,bodW ds xs false false,dW box] (.bool true):=by
 by_cases h5:JLq l 20
 ·skip
  exact gI 12 O (λR k0=>gC 0 O (zEq (w':=.bool true) (Yrq l false 20 hb) (by rw[decide_eq_true (h5)])) (gQa 18 O))
 by_cases hg:JJq c 5
 ·skip
  exact gI 12 O (λR k0=>gC 0 O (zEq (w':=.bool false) (Yrq l false 20 hb) (by rw[decide_eq_false (h5)])) (gC 2 O (zEq (w':=.bool true) (Kyq c 5 hc.nodes hc.len) (by rw[decide_eq_true (hg)])) (gQa 15 O)))
 by_cases hk:y3q ds xs
 ·skip
  exact gI 12 O (λR k0=>gC 0 O (zEq (w':=.bool false) (Yrq l false 20 hb) (by rw[decide_eq_false (h5)])) (gC 2 O (zEq (w':=.bool false) (Kyq c 5 hc.nodes hc.len) (by rw[decide_eq_false (hg)])) (gC 3 O (zEq (w':=.bool true) (Qaq ds xs false false) Jg) (gQa 11 O))))
 have hl:l.length<=20:=Nat.le_of_not_lt λq=>h5 (.inl q)
 obtain⟨g1,g2,g3⟩:=greatc_no hg;have hs:=greatc_small Xm hg;refine gI 12 O (λR k0=>gC 0 O (zEq (w':=.bool false) (Yrq l false 20 hb) (by rw[decide_eq_false (h5)])) (gC 2 O (zEq (w':=.bool false) (Kyq c 5 hc.nodes hc.len) (by rw[decide_eq_false (hg)])) (gC 3 O (zEq (w':=.bool false) (Qaq ds xs false false) (by rw[decide_eq_false (hk)])) (gC 9 O (rchtwin_s c hs) (gE 7 O (cnew2_s l Xd) ?_)))));rintro w hw ⟨A,a1,a2,rfl⟩;refine gE 11 O (rnew17_s l Xd) ?_;rintro w hw ⟨D,d1,d2,rfl⟩;refine gE 13 O (cadd2_s c hc hs Xd ds xs hB box) ?_;rintro w hw ⟨X,x1,x2,rfl⟩;refine gE 13 O (radd17_s c hc hs g1 ds xs hB box) ?_;rintro w hw ⟨Y,y1,y2,rfl⟩;refine gF 13 O (congrArg not (eqI_iff.2 (rfl))) (gF 3 O (congrArg not (eqI_iff.2 (rfl))) (gC 4 O (zEq (w':=.bool true) (rcsame_s c c hs hs) (by rw[decide_eq_true (rfl)])) ?_));refine gD 10 O (λh1=>?_) (λh1=>?_)
 ·have ha:¬bgE l=0:=by omega
  refine gZ 3 O (List.length_map _) (gT 0 O (eqI_iff.2 (by rw[a1 ha];rfl)) ?_);refine gD 16 O (λh2=>?_) (λh2=>?_)
  ·have hx:¬addF c ds xs box=0:=by omega
   exact gZ 3 O (List.length_map _) (gT 0 O (eqI_iff.2 (by rw[x1 hx];rfl)) (gQa 19 O))
  ·have hx:addF c ds xs box=0:=by omega
   obtain⟨hM,qX,oX,mX,sX⟩:=x2 hx;exact gT 8 O (eqI_iff.2 (hx)) (gC 2 O (zEq (w':=.bool true) (uhq X oX) (by rw[decide_eq_true (mX)])) (gC 4 O (Kbq X Y sX.len sX.link (add_alike hM qX (y2 hx).2.1)) (gQa 7 O)))
 ·have ha:bgE l=0:=by omega
  obtain⟨fA,oA,mA⟩:=a2 ha;obtain⟨t0,r,_,_,hA,_⟩:=id fA;refine gT 8 O (eqI_iff.2 (ha)) (gC 2 O (zEq (w':=.bool true) (uhq A oA) (by rw[decide_eq_true (mA)])) (gC 4 O (Kbq A D (by rw[hA];exact Nat.succ_le_succ (Nat.zero_le _)) (by rw[hA];intro x q;rw[List.mem_singleton.1 q];exact⟨Nat.zero_le _,Nat.zero_le _,Nat.zero_le _⟩) (first_alike fA (d2 ha).1)) ?_));refine gD 4 O (λh2=>?_) (λh2=>?_)
  ·have hx:¬addF c ds xs box=0:=by omega
   exact gZ 3 O (List.length_map _) (gT 0 O (eqI_iff.2 (by rw[x1 hx];rfl)) (gQa 19 O))
  ·have hx:addF c ds xs box=0:=by omega
   obtain⟨hM,qX,oX,mX,sX⟩:=x2 hx;exact gT 8 O (eqI_iff.2 (hx)) (gC 2 O (zEq (w':=.bool true) (uhq X oX) (by rw[decide_eq_true (mX)])) (gC 4 O (Kbq X Y sX.len sX.link (add_alike hM qX (y2 hx).2.1)) (gQa 7 O)))
theorem fit_pr{w:W}(h:Fit (.st 33 [.arr 32 1 (.int .u8),.sl 1 1 (.int .u8)]) w):∃p:Pr,w=pW p/\True:=by
 obtain⟨l,rfl,w1,l1,rfl,h1,w2,l2,rfl,h2,rfl⟩:=h;obtain⟨k,rfl⟩:=fit_dig h1;obtain⟨v,rfl,_⟩:=fit_bW h2;exact⟨(k,v),rfl,trivial⟩
end
mutual
/-- all blocks in it lie below n -/
noncomputable def ltB(n:Nat):V->Bool
 |.ptr b _=>decide (b<n)
 |.sl b _ _ _ _ _=>decide (b<n)
 |.map b=>decide (b<n)
 |.yield b=>decide (b<n)
 |.fn _ a c=>ltL n a&&ltL n c
 |.iface _ v=>ltB n v
 |.agg _ l=>ltL n l
 |.arr _ _ l=>ltL n l
 |.tup l=>ltL n l
 |.undef=>true
 |.bool _=>true
 |.int _ _=>true
 |.str _=>true
 |.nilp=>true
 |.nils=>true
 |.nilm=>true
 |.nilf=>true
 |.nili=>true
noncomputable def ltL(n:Nat):List V->Bool
 |[]=>true
 |v::l=>ltB n v&&ltL n l
end
noncomputable def SeenK(h:Heap):Nat->Prop:=λb=>b<h.next/\∃v,h.val b=some v/\ltB h.next v=true
noncomputable def u32V(n:Nat):V:=.int .u32 (.ofNat n)
noncomputable def eqK:List V->List Nat->Bool
 |[],[]=>true
 |.int .u32 (.ofNat n)::l,m::ms=>match Nat.beq n m with
  |true=>eqK l ms
  |false=>false
 |_,_=>false
theorem eqK_spec:∀{l:List V} {ms:List Nat},eqK l ms=true->l=ms.map u32V
 |[],[],_=>rfl
 |[],_::_,h=>by simp[eqK] at h
 |v::l,ms,h=>by
  unfold eqK at h;split at h
  ·simp_all
  ·rename_i n l' m ms' e;cases e;split at h
   ·rename_i hb;obtain rfl:=Nat.eq_of_beq_eq_true hb;rw[eqK_spec h];rfl
   ·cases h
  ·cases h
noncomputable def globK(h:Heap):Bool:=match h.get 0 with
 |some (.ro (.arr 64 1 l))=>eqK l kW
 |_=>false
theorem RSL_wd(Γ:Ctx):∀l:List Nat,RSL Γ (l.map wd) (l.map u32V)
 |[]=>rfl
 |n::l=>jkq (a:=[u32V n]) (b:=l.map u32V) (x:=wd n) rfl (RSL_wd Γ l)
theorem globK_spec{h:Heap}(hn:Nat.ble 2 h.next=true)(hk:globK h=true):GRel cfg glK ⟨0,λi=>i,SeenK h,h⟩:=by
 intro g w _ h2 nw σ;have hn:=Ob hn;unfold glK at h2;split at h2
 ·cases h2;unfold globK at hk;split at hk
  ·rename_i l hg;obtain rfl:=eqK_spec hk;have hv:h.val 0=some (.arr 64 1 (kW.map u32V)):=by simp only[Heap.val,hg]
   refine RV.of_one ⟨0,0,_,rfl,⟨by omega,_,hv,by rfl⟩,hv,by exact Nat.le_refl _,λ_=>rfl,.inr rfl,?_⟩ O O;have e:((zrq (.arr 64 1 (kW.map u32V))).drop 0).take 64=kW.map u32V:=by kernel_rfl
   show RS _ _ (((zrq (.arr 64 1 (kW.map u32V))).drop 0).take 64);rw[e];exact⟨rfl,λx hx=>by obtain⟨n,_,rfl⟩:=List.mem_map.1 hx;rfl,RSL_wd _ kW⟩
  ·cases hk
 ·cases h2
end
end Go.Proofs.YtihcioafclhokaaGreatDoor

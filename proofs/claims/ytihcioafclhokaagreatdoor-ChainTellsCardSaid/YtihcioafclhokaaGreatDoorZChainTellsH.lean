/-
  What the proof of ChainTells stands on, part 8. No condition.
-/
import Derived.Test.YtihcioafclhokaaGreatDoorZChainTellsG
set_option linter.unusedSimpArgs false
set_option linter.unusedVariables false
namespace Go.Proofs.YtihcioafclhokaaGreatDoor
section
open Go.RowKit
section
attribute [local irreducible] CoW OpW FlW Step Spec
variable {G:Nat->Option W}
theorem mayp_val(k:Dig)(v:List UInt8):MayP [(k,v)]↔valB v=true:=by
 constructor
 ·intro h;exact(h.2 0 Xh _ rfl).1
 ·intro h;refine⟨by simp,λi hi x hx=>?_⟩;obtain rfl:i=0:=by simpa using hi
  cases hx;exact⟨h,λy h0=>by omega⟩
theorem rone_s(x:Node)(n:Nat)(hn:n<=4611686018427387903):PS cfg G 279 [nW x,.int .i64 (n:Int)] (.bool (decide (oneB x n))):=by
 have e:=zdq x.val
 have yes:∀{b:Bool},x.leaf=true->b=(valB x.val&&decide (x.left=0)&&decide (x.right=0)) ->W.bool b=W.bool (decide (oneB x n)):=λ{b} h1 hb=>by
  rw[hb];congr 1
  rw[Bool.eq_iff_iff];simp only[Bool.and_eq_true,decide_eq_true_eq,oneB,if_pos h1,mayp_val];exact⟨λ⟨⟨a,b⟩,c⟩=>⟨b,c,a⟩,λ⟨b,c,a⟩=>⟨⟨a,b⟩,c⟩⟩
 have no:¬x.leaf=true->¬((0<=x.left/\x.left<=n)/\(0<=x.right/\x.right<=n)/\0<x.left+x.right) ->W.bool false=W.bool (decide (oneB x n)):=λh1 h=>by
  rw[decide_eq_false];rw[oneB,if_neg h1];exact λq=>h ⟨q.1,q.2.1,q.2.2.2.2⟩
 have fork:∀{b:Bool},¬x.leaf=true->0<=x.left->x.left<=n->0<=x.right->x.right<=n->0<x.left+x.right->b=(decide (x.key=qpq)&&decide (x.val=[])) ->W.bool b=W.bool (decide (oneB x n)):=λ{b} h1 q1 q2 q3 q4 q5 hb=>by
  rw[hb];congr 1
  rw[Bool.eq_iff_iff];simp only[Bool.and_eq_true,decide_eq_true_eq,oneB,if_neg h1];exact⟨λ⟨a,c⟩=>⟨⟨q1,q2⟩,⟨q3,q4⟩,a,c,q5⟩,λh=>⟨h.2.2.1,h.2.2.2.1⟩⟩
 refine gI 13 O (λR k0=>?_);refine gS 0 O (λh1=>?_) (λh1=>?_)
 ·refine gC 4 O (rvalue_s _ _) ?_;refine gB 0 O (λh2=>?_) (λh2=>?_)
  ·refine gD 3 O (λh3=>?_) (λh3=>?_)
   ·refine gU 4 O ?_;exact gQ 6 O Yd
   ·exact gQ 11 O Yd
  ·exact gQ 15 O Yd
 ·refine gD 7 O (λh2=>?_) (λh2=>?_)
  ·exact gQ 37 O Yd
  ·refine gD 4 O (λh3=>?_) (λh3=>?_)
   ·exact gQ 32 O Yd
   ·refine gD 4 O (λh4=>?_) (λh4=>?_)
    ·exact gQ 27 O Yd
    ·refine gD 5 O (λh5=>?_) (λh5=>?_)
     ·exact gQ 21 O Yd
     ·refine gD 4 O (λh6=>?_) (λh6=>?_)
      ·refine gU 3 O ?_;refine gS 4 O (λh7=>?_) (λh7=>?_)
       ·exact gQ 7 O Yd
       ·have h2:¬x.left<0:=h2;have h3:¬(n:Int)<x.left:=h3;have h4:¬x.right<0:=h4;have h5:¬(n:Int)<x.right:=h5;refine gV 6 O jOq ?_;refine gDe 0 O (yvq O O O O (yNq O O O O O O _ _ 250)) z1q (λh8=>?_) (λh8=>?_)
        ·refine gV (w':=.int .i64 (x.val.length:Int)) 3 O Xv ?_;refine gU 0 O ?_;refine zfq 5 O ?_;refine fin_eq Jw rfl (fork h1 Xd Xd Xd Xd Xd ?_);rw[decide_eq_true (by assumption:x.key=qpq),Bool.true_and];refine decide_eq_decide.2 ⟨λq=>List.eq_nil_of_length_eq_zero Xd,λq=>by rw[q];rfl⟩
        ·refine zfq 10 O ?_;refine fin_eq Jw rfl (fork h1 Xd Xd Xd Xd Xd ?_);rw[decide_eq_false (by assumption:¬x.key=qpq),Bool.false_and]
      ·have h2:¬x.left<0:=h2;have h3:¬(n:Int)<x.left:=h3;have h4:¬x.right<0:=h4;have h5:¬(n:Int)<x.right:=h5;refine gV 15 O jOq ?_;refine gDe 0 O (yvq O O O O (yNq O O O O O O _ _ 250)) z1q (λh7=>?_) (λh7=>?_)
       ·refine gV (w':=.int .i64 (x.val.length:Int)) 3 O Xv ?_;refine gU 0 O ?_;refine zfq 5 O ?_;refine fin_eq Jw rfl (fork h1 Xd Xd Xd Xd Xd ?_);rw[decide_eq_true (by assumption:x.key=qpq),Bool.true_and];refine decide_eq_decide.2 ⟨λq=>List.eq_nil_of_length_eq_zero Xd,λq=>by rw[q];rfl⟩
       ·refine zfq 10 O ?_;refine fin_eq Jw rfl (fork h1 Xd Xd Xd Xd Xd ?_);rw[decide_eq_false (by assumption:¬x.key=qpq),Bool.false_and]
def cntR(t:T)(d:Nat)(b:Dig):Int:=if t.ok d b=true then(match t with|.nil=>0|.leaf _ _=>1|.fork _ _=>2) else-1
theorem cntR_lt(t:T)(d:Nat)(b:Dig):cntR t d b<0↔¬t.ok d b=true:=by
 unfold cntR;split
 ·rename_i h;cases t<;>simp[h]
 ·rename_i h;simp[h]
theorem cntR_ge(t:T)(d:Nat)(b:Dig):0<=cntR t d b↔t.ok d b=true:=by
 have:=cntR_lt t d b;constructor
 ·intro h;refine Classical.byContradiction λq=>?_
  have:=this.2 q;omega
 ·intro h;refine Int.not_lt.1 λq=>this.1 q h
theorem cntR_fork{l r:T}{d:Nat}{b:Dig}(hd:d<256)(h1:¬cntR l (d+1) b<0)(h2:¬cntR r (d+1) (qBq b d)<0):cntR (.fork l r) d b=if cntR l (d+1) b+cntR r (d+1) (qBq b d)<2 then-1 else 2:=by
 have e1:l.ok (d+1) b=true:=(cntR_ge l _ _).1 Xd;have e2:r.ok (d+1) (qBq b d)=true:=(cntR_ge r _ _).1 Xd;have e:(T.fork l r).ok d b=T.two l r:=by simp only[T.ok];rw[decide_eq_true hd,e1,e2];rfl
 unfold cntR;rw[e,e1,e2];cases l<;>cases r<;>simp[T.two,T.isFork,T.non]
theorem cntR_le(t:T)(d:Nat)(b:Dig):cntR t d b<=2:=by
 unfold cntR;split
 ·cases t<;>simp
 ·omega
theorem cntR_no{l r:T}{d:Nat}{b:Dig}(h:¬(T.fork l r).ok d b=true):cntR (.fork l r) d b=-1:=by unfold cntR;rw[if_neg h]
theorem rright_s(t0:Tree)(hb:t0.nodes.length<=4611686018427387903):∀(t:T) (n d:Nat) (b:Dig),Rep t0.nodes n t->d<=256->PS cfg G 280 [tW t0,.int .i64 (n:Int),.int .i64 (d:Int),dW b] (.int .i64 (cntR t d b)):=by
 intro t;induction t with
 |nil=>
  intro n d b hr hd;obtain rfl:n=0:=by cases hr;rfl
  refine gI 14 O (λR k0=>?_);refine gS 0 O (λh1=>?_) (λh1=>?_)
  ·exact gQa 7 O
  ·exfalso;omega
 |leaf k v=>
  intro n d b hr hd;have hle:=hr.le;cases hr with
  |leaf h=>
  rename_i n l r;refine gI 14 O (λR k0=>?_);refine gS 0 O (λh1=>?_) (λh1=>?_)
  ·exfalso;omega
  ·refine gA 7 O (n) ?_;refine gP 0 O (zuq (i:=n) O O O O O O O (zpq nW h)) ?_;refine gC 19 O (rshared_s _ _) ?_;refine gS 4 O (λh2=>?_) (λh2=>?_)
   ·refine gQ 8 O ?_;unfold cntR;rw[if_neg];simp only[T.ok,decide_eq_true_eq];have h2:((z7q k b:Nat):Int)<d:=h2;omega
   ·refine gQ 9 O ?_;unfold cntR;rw[if_pos];simp only[T.ok,decide_eq_true_eq];have h2:¬((z7q k b:Nat):Int)<d:=h2;omega
 |fork tl tr ihL ihR=>
  intro n d b hr hd;have hle:=hr.le;cases hr with
  |fork h hl hr hL hR=>
  rename_i n l r k v;refine gI 14 O (λR k0=>?_);refine gS 0 O (λh1=>?_) (λh1=>?_)
  ·exfalso;omega
  ·refine gA 7 O (n) ?_;refine gP 0 O (zuq (i:=n) O O O O O O O (zpq nW h)) ?_;refine gS 22 O (λh2=>?_) (λh2=>?_)
   ·refine gQ 7 O ?_;rw[cntR_no λq=>by have:=(ok_fork.1 q).1;omega]
   ·have hd':d<256:=by omega
    refine gC 6 O (rturn_in _ _ Xd) ?_;refine gA 14 O (d+1) ?_;refine zfq 1 O ?_;refine yuq O O O O O O (ihL l (d+1) b hL Xd) ?_;refine ziq 10 O ?_;refine gS 0 O (λh3=>?_) (λh3=>?_)
    ·refine gQ 7 O ?_;rw[cntR_no λq=>(cntR_lt tl _ _).1 Xr (ok_fork.1 q).2.1]
    ·refine gA 8 O (d+1) ?_;refine zfq 1 O ?_;refine yuq O O O O O O (ihR r (d+1) (qBq b d) hR Xd) ?_;refine ziq 7 O ?_;refine gD 0 O (λh4=>?_) (λh4=>?_)
     ·refine gQ 16 O ?_;rw[cntR_no λq=>(cntR_lt tr _ _).1 Xr (ok_fork.1 q).2.2.1]
     ·have hc:=cntR_fork (l:=tl) (r:=tr) hd' h3 h4;have b1:=cntR_le tl (d+1) b;have b2:=cntR_le tr (d+1) (qBq b d);refine gWr 3 O ?_;refine gU 0 O ?_;refine gS 3 O (λh5=>?_) (λh5=>?_)
      ·exact gQ 7 O (by rw[hc,if_pos Xr])
      ·exact gQ 8 O (by rw[hc,if_neg Xr])
theorem rmay_s(t:Tree)(hb:t.nodes.length<=4611686018427387903):PS cfg G 201 [tW t] (.bool (decide (MayT t))):=by
 have e:(t.nodes.map nW).length=t.nodes.length:=List.length_map _;refine gI 11 O (λR k0=>gV (w':=.int .i64 (t.nodes.length:Int)) 0 O Xv ?_);refine gD 0 O (λh1=>?_) (λh1=>?_)
 ·have hno:¬MayT t:=λh=>by have:=h.1;omega
  exact gQ 23 O Yn
 refine gD 3 O (λh2=>?_) (λh2=>?_)
 ·have hno:¬MayT t:=λh=>by obtain⟨_,_,n,_,h,_⟩:=h;have h2:t.root<0:=h2;omega
  exact gQ 19 O Yn
 refine gV (w':=.int .i64 (t.nodes.length:Int)) 6 O Xv (gU 0 O ?_);refine gS 3 O (λh3=>?_) (λh3=>?_)
 ·have hno:¬MayT t:=λh=>by obtain⟨_,_,n,_,h,hr,_⟩:=h;have h3:(t.nodes.length:Int)<t.root:=h3;have:=hr.le;omega
  exact gQ 7 O Yn
 have h2:¬t.root<0:=h2;have h3:¬(t.nodes.length:Int)<t.root:=h3;obtain⟨n0,hn0⟩:=Int.eq_ofNat_of_zero_le (show 0<=t.root by omega);refine gLo (α:=Nat) 9 (λi=>i<=t.nodes.length/\∀j x,j<i->t.nodes[j]? =some x->oneB x j) (λi=>[(3,.int .i64 (i:Int))]) [1,2] (λi=>t.nodes.length-i) (0) rfl (⟨Nat.zero_le _,λj x hj=>by omega⟩) (λi hI=>?_);obtain⟨hi,hI⟩:=hI;refine gV (w':=.int .i64 (t.nodes.length:Int)) 6 O Xv ?_;refine gS 3 O (λh4=>?_) (λh4=>?_)
 ·have hi':i<t.nodes.length:=by omega
  obtain⟨x,hx⟩:∃x,t.nodes[i]? =some x:=⟨_,List.getElem?_eq_getElem hi'⟩
  refine gP 9 O (zuq (i:=i) O O O O O O O (zpq nW hx)) (gC 2 O (rone_s _ _ Xd) ?_);refine gS 3 O (λh5=>?_) (λh5=>?_)
  ·have hno:¬MayT t:=λh=>by have:=h.2.1 i x hx;simp[this] at h5
   exact gO 8 O (gQ 2 O Yn)
  ·have h5:oneB x i:=by simpa using h5
   exact gA 5 O (i+1) (gAg 2 O (i+1) (⟨hi',λj y hj hy=>by rcases Nat.lt_succ_iff_lt_or_eq.1 hj with h|rfl;exact hI j y h hy;exact(Option.some.inj (hx.symm.trans hy))▸h5⟩) Xd)
 ·have okn:okN t.nodes:=λj x hx=>hI j x (by have:=(List.getElem?_eq_some_iff.1 hx).1;omega) hx
  obtain⟨t0,ht0⟩:=rep_of okn n0 Xd
  have key:MayT t↔t0.ok 0 qpq=true:=by
   constructor
   ·rintro⟨_,_,n,t1,hn,hr,hk⟩;obtain rfl:n=n0:=by omega
    rw[ht0.uniq hr];exact hk
   ·exact λh=>⟨by omega,okn,n0,t0,hn0,ht0,h⟩
  refine gO 2 O (gV 7 O jOq (op_ps O O O O O (by rw[hn0];rfl) (rright_s t Xd t0 n0 0 qpq ht0 Xd) Xh Xh (op_cz O O (ziq 4 O (gQ 0 O ?_)))));rw[show decide (MayT t)=decide (0<=cntR t0 0 qpq) from decide_eq_decide.2 (key.trans (cntR_ge t0 0 qpq).symm)]
theorem rfor_s(t0:Tree)(hb:t0.nodes.length<=4611686018427387903):∀(t:T) (n:Nat),Rep t0.nodes n t->t.all.length<=1000000->(∀p∈t.all,p.2.length<=70368744177664) ->PL cfg G 263 [tW t0,.int .i64 (n:Int)] 191 33 (t.all.map pW):=by
 intro t;induction t with
 |nil=>
  intro n hr hl hv R;obtain rfl:n=0:=by cases hr;rfl
  refine gIs 13 O (λk0=>?_);refine gS 0 O (λh1=>?_) (λh1=>?_)
  ·exact zfq 7 O (fin (w:=gW 0 33 []) Jw (v0q (b:=0) (ty:=191) (l2:=[]) (H0:=[]) (fr2:=[]) 4 Xd Xd rfl trivial trivial (λx r h=>by cases h) rfl trivial List.nodup_nil) rfl ⟨rfl,rfl,rfl,rfl⟩)
  ·exfalso;omega
 |leaf k v=>
  intro n hr hl hv R;have hle:=hr.le;have hvl:=hv (k,v) (by simp[T.all]);simp only at hvl;cases hr with
  |leaf h=>
  rename_i n l r;refine gIs 13 O (λk0=>?_);refine gS 0 O (λh1=>?_) (λh1=>?_)
  ·exfalso;omega
  ·exact gA 7 O (n) (gP 0 O (zuq (i:=n) O O O O O O O (zpq nW h)) (zfq 19 O (fl_ps O O O O O O (YKq v false hvl) Xh Xh Xu (yaq 7 O (fin (w:=gW 0 33 [pW (k,v)]) Jw (ent_one (b:=0) (x:=pW (k,v)) 2 4 Xd Xd Xd O O O O Xh) rfl ⟨rfl,rfl,rfl,rfl⟩)))))
 |fork tl tr ihL ihR=>
  intro n hr hl hv R;have hle:=hr.le;cases hr with
  |fork h hl0 hr0 hL hR=>
  rename_i n l r k v;have hlen:tl.all.length+tr.all.length<=1000000:=by simpa[T.all] using hl
  obtain⟨l1,e1⟩:∃q,q=tl.all.map pW:=⟨_,rfl⟩
  obtain⟨l2,e2⟩:∃q,q=tr.all.map pW:=⟨_,rfl⟩
  have P1:PL cfg G 263 [tW t0,.int .i64 (l:Int)] 191 33 l1:=e1▸ihL l hL Xd λp hp=>hv p Ji
  have P2:PL cfg G 263 [tW t0,.int .i64 (r:Int)] 191 33 l2:=e2▸ihR r hR Xd λp hp=>hv p Ji
  have p1:purL l1=true:=by rw[e1];exact j5q _
  have p2:purL l2=true:=by rw[e2];exact j5q _
  have hl1:l1.length<=1000000:=by rw[e1,List.length_map];omega
  have hl2:l2.length<=1000000:=by rw[e2,List.length_map];omega
  have e3:(T.fork tl tr).all.map pW=l1++l2:=by rw[e1,e2];simp[T.all]
  rw[e3];clear e1 e2 e3;refine gIs 13 O (λk0=>?_);refine gS 0 O (λh1=>?_) (λh1=>?_)
  ·exfalso;omega
  ·refine gA 7 O (n) (gP 0 O (zuq (i:=n) O O O O O O O (zpq nW h)) (zfq 20 O ?_));skip
   skip
   cases l1 with
   |nil=>
    cases l2 with
    |nil=>
     (refine zZq rfl (kxq O O O O O Xh P1 Xr ?_);refine⟨by first|rfl|kernel_rfl,?_⟩)
     refine yaq 3 O ?_
     (refine zZq rfl (kxq O O O O O Xh P2 Xr ?_);refine⟨by first|rfl|kernel_rfl,?_⟩)
     refine qIq rfl (z5q O O (Yvq O O O O O)) Xu (yaq 4 O ?_);refine fin (w:=gW 0 33 ([]:List W)) Jw (v0q (b:=0) (ty:=191) (l2:=[]) (H0:=[]) (fr2:=[]) 4 Xd Xd rfl trivial trivial (λx r h=>by cases h) rfl trivial List.nodup_nil) rfl ⟨rfl,?_,?_,rfl⟩
     ·rfl
     ·rfl
    |cons y2 r2=>
     (refine zZq rfl (kxq O O O O O Xh P1 Xr ?_);refine⟨by first|rfl|kernel_rfl,?_⟩)
     refine yaq 3 O ?_
     (refine zZq rfl (kxq O O O O O Xh P2 Xr ?_);refine⟨by first|rfl|kernel_rfl,?_⟩)
     refine qIq rfl (z5q O O (kQq (news:=y2::r2) (k:=ti191) O O O O (z6q O O O (zhq Xm O O)) Xh (by show(y2::r2).length*56<=_;omega) Xd)) Xu (yaq 4 O ?_);refine fin (w:=gW 0 33 (y2::r2)) Jw (qSq (b:=0) (l2:=y2::r2) (H0:=[]) (fr2:=[]) 4 4 Xd Xd Xd Xh O O trivial trivial rfl p2 trivial List.nodup_nil) rfl ⟨rfl,?_,?_,rfl⟩
     ·rfl
     ·rfl
   |cons y1 r1=>
    cases l2 with
    |nil=>
     (refine zZq rfl (kxq O O O O O Xh P1 Xr ?_);refine⟨by first|rfl|kernel_rfl,?_⟩)
     refine yaq 3 O ?_
     (refine zZq rfl (kxq O O O O O Xh P2 Xr ?_);refine⟨by first|rfl|kernel_rfl,?_⟩)
     refine qIq rfl (z5q O O (xVq (k:=ti191) O O O O O)) Xu (yaq 4 O ?_);refine fin (w:=gW 0 33 (y1::r1)) Jw (qSq (b:=0) (l2:=y1::r1) (H0:=[]) (fr2:=[]) 2 4 Xd Xd Xd Xh O O trivial trivial rfl p1 trivial List.nodup_nil) rfl ⟨rfl,?_,?_,rfl⟩
     ·rw[List.append_nil]
     ·rw[List.append_nil];rfl
    |cons y2 r2=>
     (refine zZq rfl (kxq O O O O O Xh P1 Xr ?_);refine⟨by first|rfl|kernel_rfl,?_⟩)
     refine yaq 3 O ?_
     (refine zZq rfl (kxq O O O O O Xh P2 Xr ?_);refine⟨by first|rfl|kernel_rfl,?_⟩)
     refine qIq rfl (z5q O O (y9q (len:=(y1::r1).length) (news:=y2::r2) (olds:=y1::r1) (k:=ti191) O O O O (z6q O O O (zhq Xm O O)) Xh (by show((y1::r1).length+(y2::r2).length)*56<=_;omega) Xd rfl (by show(y1::r1).length*33<0+((y1::r1).length+(y2::r2).length)*33;simp only[List.length_cons];omega) rfl (zhq Xm O O))) Xu (yaq 4 O ?_);refine fin (w:=gW 0 33 ((y1::r1)++(y2::r2))) Jw (qSq (b:=0) (l2:=(y1::r1)++(y2::r2)) (n:=(y1::r1).length+(y2::r2).length) (H0:=[]) (fr2:=[]) 4 4 Xd Xd Xd Xh rfl (by rw[List.length_append]) trivial trivial rfl (by rw[purL_app,p1,p2];rfl) trivial List.nodup_nil) rfl ⟨rfl,?_,?_,rfl⟩
     ·rfl
     ·rfl
theorem g_get(b e:Nat)(l:List W)(r:W):ydq 50 (.agg 2 [gW b e l,r]) 0 1 false=some (gW b e l):=by cases l<;>rfl
theorem g_put(b e:Nat)(l:List W)(r:W)(b' n:Nat):qGq 50 (.agg 2 [gW b e l,r]) 0 (.sl b' 0 0 n e none)=some (.agg 2 [.sl b' 0 0 n e none,r]):=by cases l<;>rfl
theorem rttwin_s(t:Tree)(hb:t.nodes.length<=1000000000)(hv:∀x∈t.nodes,x.val.length<=70368744177664):PS cfg G 71 [tW t] (tW t):=by
 have e:(t.nodes.map nW).length=t.nodes.length:=List.length_map _;refine gIv 18 O (λR k0=>jVq (λ_=>x4q (fr2:=[(1,.ptr 0 0),(2,.ptr 1 0),(3,.ptr 2 0)]) ⟨rfl,rfl,rfl,trivial⟩) (zeq O O ?_))
 refine ziq 3 O ?_;refine qJq (α:=Nat) (λi=>i<=t.nodes.length) (λi=>[(4,.int .i64 (i:Int))]) [(1,_),(2,_),(3,_)] (λi=>[(2,24,.agg 2 [gW 3 36 ((t.nodes.take i).map nW),.int .i64 t.root]),(1,24,.agg 2 [.nils,.int .i64 0]),(0,24,tW t)]++gH 3 163 36 ((t.nodes.take i).map nW)) (λi=>t.nodes.length-i) (0) ⟨rfl,rfl,rfl,trivial⟩ (Nat.zero_le _) ⟨rfl,trivial⟩ (rfl) (λi hI=>?_);refine zPq 6 O (gV (w':=.int .i64 (t.nodes.length:Int)) 0 O Xv ?_);refine gS 3 O (λh1=>?_) (λh1=>?_)
 ·have hi:i<t.nodes.length:=by omega
  obtain⟨x,hx⟩:∃x,t.nodes[i]? =some x:=⟨_,List.getElem?_eq_getElem hi⟩
  have hxv:=hv x (List.mem_of_getElem? hx);have el:((t.nodes.take i).map nW).length=i:=by simp;omega
  have es:(t.nodes.take (i+1)).map nW=(t.nodes.take i).map nW++[nW x]:=by rw[List.take_add_one,hx,List.map_append];rfl
  have ep:purL ((t.nodes.take i).map nW++[nW x])=true:=by rw[<-es];exact y1q nW_pur _
  refine gP 9 O (zuq (i:=i) O O O O O O O (zpq nW hx)) (zfq 9 O (yuq O O O O O O (YKq x.val false hxv) (ziq 6 O (gM 0 O (ybq O O O (g_get 3 36 _ _)) (gM 2 O (z5q O O (jmq [_,_,_,_,_] (k:=ti163) (news:=[nW x]) O O O O O (z6q O O O O) Xh (by show(((t.nodes.take i).map nW).length+1)*80<=_;omega) (by show((t.nodes.take i).map nW).length+1<=_;omega) rfl Xh)) (gM 1 O (jtq O O O O O (g_put 3 36 _ _ _ _) rfl) (gA 5 O (i+1) (zfq 2 O ?_))))))));skip
  refine ygq (i+1) hi Xd ?_;simp only;have hne:(t.nodes.take i).map nW++[nW x]≠[]:=List.append_ne_nil_of_right_ne_nil _ Xh;rw[es,kGq hne,kHq hne];refine yGq (b:=3) (k:=6) Xd Xd Xd ⟨⟨rfl,rfl⟩,⟨rfl,rfl⟩,⟨rfl,rfl⟩,⟨rfl,rfl⟩,trivial⟩ ⟨⟨by omega,rfl,rfl⟩,⟨by omega,rfl,rfl⟩,⟨by omega,?_,zcq Xh⟩,⟨by omega,?_,zcq ep⟩,trivial⟩ Xh
  ·rw[zgq Xh];rfl
  ·rw[zgq (by exact ep)];rfl
 ·have hi:i=t.nodes.length:=by omega
  subst hi;rw[List.take_length];exact zfq 2 O (y3q Xi (zHq 9 O (qZq Xt O (.agg (.cons (xZq (H0:=[(2,24,.agg 2 [gW 3 36 (t.nodes.map nW),.int .i64 t.root]),(1,24,.agg 2 [gW 3 36 (t.nodes.map nW),.int .i64 t.root]),(0,24,tW t)]) Xm (u6q _) Xh) (.cons (.pur rfl) .nil))))))
theorem tree_ext{a b:Tree}(h1:a.nodes=b.nodes)(h2:a.root=b.root):a=b:=by cases a;cases b;simp only at h1 h2;subst h1;subst h2;rfl
theorem node_ext{a b:Node}(h1:a.leaf=b.leaf)(h2:a.key=b.key)(h3:a.val=b.val)(h4:a.left=b.left)(h5:a.right=b.right):a=b:=by cases a;cases b;simp only at h1 h2 h3 h4 h5;subst h1;subst h2;subst h3;subst h4;subst h5;rfl
noncomputable instance(a b:Tree):Decidable (a=b):=Classical.propDecidable _
theorem vyq(a b:Tree)(hb:a.nodes.length<=1000000000):PS cfg G 17 [tW a,tW b] (.bool (decide (a=b))):=by
 have ea:(a.nodes.map nW).length=a.nodes.length:=List.length_map _;have eb:(b.nodes.map nW).length=b.nodes.length:=List.length_map _;refine gI 14 O (λR k0=>?_);refine gD 0 O (λh1=>?_) (λh1=>?_)
 ·have hno:¬a=b:=λh=>h1 (by rw[h])
  exact gQ 19 O Yn
 have hroot:a.root=b.root:=by simpa using h1
 refine gV (w':=.int .i64 (a.nodes.length:Int)) 3 O Yu (gV (w':=.int .i64 (b.nodes.length:Int)) 2 O Jg (gU 0 O ?_));refine gS 3 O (λh2=>?_) (λh2=>?_)
 ·have hno:¬a=b:=λh=>h2 (by rw[h])
  exact gQ 7 O Yn
 have hlen:a.nodes.length=b.nodes.length:=by omega
 refine gLo (α:=Nat) 9 (λi=>i<=a.nodes.length/\a.nodes.take i=b.nodes.take i) (λi=>[(5,.int .i64 (i:Int))]) [2,3,4] (λi=>a.nodes.length-i) (0) rfl (⟨Nat.zero_le _,rfl⟩) (λi hI=>?_);obtain⟨g1,g2⟩:=hI;refine gV (w':=.int .i64 (a.nodes.length:Int)) 6 O Yu ?_;refine gS 3 O (λh3=>?_) (λh3=>?_)
 ·have hi:i<a.nodes.length:=by omega
  obtain⟨x,hx⟩:∃x,a.nodes[i]? =some x:=⟨_,List.getElem?_eq_getElem hi⟩
  obtain⟨y,hy⟩:∃y,b.nodes[i]? =some y:=⟨_,List.getElem?_eq_getElem Xd⟩
  have no:x≠y->¬a=b:=λh q=>h Qs
  refine gP 9 O (zuq (i:=i) O O O O O O O (zpq nW hx)) (gP 4 O (zuq (i:=i) O O O O O O O (zpq nW hy)) ?_);refine gD 13 O (λh4=>?_) (λh4=>?_)
  ·have hno:=no λq=>by rw[q] at h4;simp at h4
   exact gO 40 O (gQ 2 O Yn)
  refine gDe 5 O (yWq O O O O (yNq O O O O O O _ _ 250)) (qtq z1q) (λh5=>?_) (λh5=>?_)
  ·have hno:=no λq=>h5 Qb
   exact gO 34 O (gQ 2 O Yn)
  refine gC 6 O (same_s _ _ _ _) ?_;refine gB 0 O (λh6=>?_) (λh6=>?_)
  ·refine gD 7 O (λh7=>?_) (λh7=>?_)
   ·have hno:=no λq=>h7 Qb
    exact gO 19 O (gQ 2 O Yn)
   refine gU 6 O ?_;refine gS 3 O (λh8=>?_) (λh8=>?_)
   ·have hno:=no λq=>h8 Qb
    exact gO 8 O (gQ 2 O Yn)
   have hxy:x=y:=node_ext (by simpa using h4) (by simpa using h5) h6 (by simpa using h7) (by simpa using h8);exact gA 5 O (i+1) (gAg 2 O (i+1) (⟨hi,by rw[List.take_add_one,List.take_add_one,g2,hx,hy,hxy]⟩) Xd)
  ·have hno:=no λq=>h6 Qb
   exact gO 27 O (gQ 2 O Yn)
 ·refine gO 2 O (gQ 8 O ?_);rw[decide_eq_true];have:=g2;rw[List.take_of_length_le Xd,List.take_of_length_le Xd] at this;exact tree_ext this hroot
theorem rall_s(t:Tree)(n:Nat)(t0:T)(h:IsT t n t0):PS cfg G 185 [tW t] (psW t0.all):=by
 have h1:=h.all_le;have h2:=h.len;have h3:=h.root;obtain⟨ns,root⟩:=t;simp only at h1 h2 h3;subst h3;have P:=(rfor_s (G:=G) ⟨ns,(n:Int)⟩ Qf t0 n h.rep Xd (λp hp=>by have:=(h.val p hp).2;omega)).ps Xm (j5q _);exact gI 11 O (λR k0=>op_ps O O O O O O P Xh Xh (ziq 4 O (gQa 0 O)))
theorem rnumber_s(l:List UInt8)(f:Bool)(hl:l.length<=8):PS cfg G 332 [.fz (zaq l) 1 f] (.int .u64 (numB l:Nat)):=by
 have e:=zdq l;refine gI 17 O (λR k0=>?_);refine gLo (α:=Nat) 0 (λi=>i<=l.length) (λi=>[(4,.int .i64 (i:Int)),(3,.int .u64 (numB (l.take i):Nat))]) [0,2] (λi=>l.length-i) (0) rfl (Nat.zero_le _) (λi hI=>?_);refine gV (w':=.int .i64 (l.length:Int)) 5 O Xv ?_;refine gS 3 O (λh1=>?_) (λh1=>?_)
 ·have hi:i<l.length:=by omega
  obtain⟨c,hc⟩:∃c,l[i]? =some c:=⟨_,List.getElem?_eq_getElem hi⟩
  have hcl:=c.toNat_lt;have hn:=ZUq (l:=l) (i:=i) Xd;have ht:=numB_take hc
  have hlt:numB (l.take (i+1))<18446744073709551616:=by
   have h1:=Y2q (l.take (i+1));have h2:256^(l.take (i+1)).length<=256^(i+1):=Nat.pow_le_pow_right Xd Xq;have h3:=pow256_le (i:=i+1) Xd;omega
  exact gA 6 O (256*numB (l.take i)) (gP 2 O (zuq (i:=i) O O O O O O O (xjq hc)) (gA 1 O (c.toNat) (gA 0 O (numB (l.take (i+1))) (e:=(by rw[ht];omega)) (gA 6 O (i+1) (gAg 2 O (i+1) (hi) Xd)))))
 ·have hi:i=l.length:=by omega
  subst hi;rw[List.take_length];exact gO 2 O (gQa 9 O)
theorem yRq(n size:Nat)(hn:n<18446744073709551616)(hs8:size<=8):yYq cfg G 287 0 [.int .u64 (n:Int),.int .i64 (size:Int)] [] λw hp nw=>
  w= .tup [.sl 0 0 0 size 1 none,.bool (decide (n/256^size=0))]/\hp=[(0,5,.arr (size*1) 1 (zaq (beB size n)))]/\nw=1:=by
 intro R;refine gIs 9 O (λk0=>?_);refine gM 0 O (Kiq (l:=size) (c:=size) O O O O O O O O (Nat.le_refl _) (by show 1*size<=_;omega) Xd O O) (zfq 7 O (op_z ((size:Int) -1-((0:Nat):Int)) O O Xd Jv (ziq 4 O ?_)));refine qJq (α:=Nat×Nat) (λp=>p.1<=size/\p.2=n/256^p.1) (λp=>[(7,.int .i64 ((size:Int) -1-(p.1:Int))),(0,.int .u64 (p.2:Nat))]) [(4,_),(5,_),(6,_)] (λp=>[(0,5,.arr (size*1) 1 (zaq (List.replicate (size-p.1) 0++beB p.1 n)))]) (λp=>size-p.1) ((0,n)) ⟨rfl,rfl,rfl,trivial⟩ (⟨Nat.zero_le _,by simp⟩) ⟨rfl,rfl,trivial⟩ (by simp only[be_zero];rfl) (λp hI=>?_);obtain⟨i,q⟩:=p;obtain⟨g1,g2⟩:=hI;simp only at g1 g2⊢;have hlt:q<18446744073709551616:=by rw[g2];exact Nat.lt_of_le_of_lt (Nat.div_le_self _ _) hn
 refine zPq 7 O ?_;refine gS 0 O (λh1=>?_) (λh1=>?_)
 ·have hi:i<size:=by omega
  have hq:q/256=n/256^(i+1):=by rw[g2,Nat.div_div_eq_div_mul,<-Nat.pow_succ]
  have hset:=be_set n size i hi;rw[<-g2] at hset;exact gV (w':=.int .i64 ((size-1-i:Nat):Int)) 7 O (by congr 1;omega) (gV (w':=.int .u64 ((q%256:Nat):Int)) 1 O (congrArg (W.int .u64) (xqq q 256)) (gA 0 O (q%256) (gP 0 O (ynq (i:=size-1-i) O O O O O O O Xd) (gM 0 O (jtq O O O O O (qFq (be_at n size i hi) O O) (congrArg (λL=>[(0,5,W.arr (size*1) 1 L)]) hset)) (gA 4 O (q/256) (e:=(kUq q 256)) (zfq 6 O (op_z ((size:Int) -1-((i+1:Nat):Int)) O O Xd Jv (run_p 2 O (jvq ((i+1,q/256)) (⟨hi,hq⟩) Yf ⟨rfl,rfl,trivial⟩ ⟨rfl,rfl,rfl,trivial⟩ rfl)))))))))
 ·have hi:i=size:=by omega
  subst hi;refine zfq 2 O (y3q Xi (zHq 6 O (gV (w':=.bool (decide (n/256^i=0))) 0 O (congrArg W.bool (by rw[Bool.eq_iff_iff,eqI_iff,decide_eq_true_iff,<-g2];omega)) (zfq 5 O ?_))));refine fin Jw Ent.refl rfl ⟨rfl,rfl,?_,rfl⟩;rw[Nat.sub_self];rfl
theorem rabytes_s(a:Acct)(h:a.ok):PS cfg G 355 [aW a] (bW (qKq a)):=by
 have h1:a.nonce<18446744073709551616:=h.1;have h2:a.balance<18446744073709551616:=h.2;refine ps_in (fn:=Tryz.f355) O O O (Ob rfl) (λR k0=>?_);have l1:(zaq (beB 8 a.nonce)).length=8:=by rw[zdq,ylq]
 have l2:(zaq (beB 8 a.balance)).length=8:=by rw[zdq,ylq]
 refine zPq 10 O ?_
 ((refine znq rfl (y2q O O O O O O (yRq _ 8 Xr Xd) ?_);rintro w hp1 nw1 ⟨rfl,rfl,rfl⟩))
 refine ziq 11 O ?_
 ((refine znq rfl (y2q O O O O O O (yRq _ 8 Xr Xd) ?_);rintro w hp1 nw1 ⟨rfl,rfl,rfl⟩))
 refine ziq 11 O (gM 0 O (z5q O O (y9q (k:=ti5) (len:=8) (news:=zaq (beB 8 a.balance)) (olds:=zaq (beB 8 a.nonce)) O O O O (z6q O O O (kwq (n:=8) (m:=8) l2.symm rfl)) (by intro h;rw[h] at l2;simp at l2) Qp Qp rfl (by show 8*1<0+(8+(zaq (beB 8 a.balance)).length)*1;rw[l2];omega) rfl (kwq (n:=8) (m:=8) l1.symm rfl))) (zfq 4 O ?_));refine qzq (fr2:=[(2,bW (qKq a))]) Jw ⟨⟨_,rfl,.sl (xs:=zaq (qKq a)) rfl Xh ?_ Xi⟩,trivial⟩ O O;rw[qKq,yPq,l2];exact kwq (n:=16) (by rw[List.length_append,l1,l2]) rfl
theorem raread_s(l:List UInt8)(f:Bool):PS cfg G 277 [.fz (zaq l) 1 f] (.tup [aW (qyq l).1,.int .i64 ((qyq l).2:Nat)]):=by
 have e:=zdq l;refine gIv 10 O (λR k0=>gV (w':=.int .i64 (l.length:Int)) 0 O Xv ?_);refine gS 3 O (λh1=>?_) (λh1=>?_)
 ·have q:qyq l=(.zero,10):=by unfold qyq;rw[if_pos Xd]
  rw[q];refine zfq 9 O (qZq Xt O ?_)
  (repeat (first|exact .nil|refine .cons ?_ ?_|exact qAq|exact .nilfz|refine .fn ?_ ?_|(refine yKq O ?_ rfl;(first|rfl|(focus (simp;done))))|(refine .sl O ?_ rfl Xi;(first|rfl|(focus (simp;done))))|(refine .pur ?_;(first|rfl|(focus (simp;done))))|(refine .fzw ?_;(first|rfl|(focus (simp;done))))|refine .agg ?_|refine .arr ?_|refine .tup ?_))
 refine gV (w':=.int .i64 (l.length:Int)) 6 O Xv ?_;refine gS 3 O (λh2=>?_) (λh2=>?_)
 ·have q:qyq l=(.zero,11):=by unfold qyq;rw[if_neg Xd,if_pos Xd]
  rw[q];refine zfq 9 O (qZq Xt O ?_)
  (repeat (first|exact .nil|refine .cons ?_ ?_|exact qAq|exact .nilfz|refine .fn ?_ ?_|(refine yKq O ?_ rfl;(first|rfl|(focus (simp;done))))|(refine .sl O ?_ rfl Xi;(first|rfl|(focus (simp;done))))|(refine .pur ?_;(first|rfl|(focus (simp;done))))|(refine .fzw ?_;(first|rfl|(focus (simp;done))))|refine .agg ?_|refine .arr ?_|refine .tup ?_))
 have hl:l.length=16:=by omega
 have q:qyq l=if (⟨numB (l.take 8),numB (l.drop 8)⟩:Acct)= .zero then(.zero,8) else(⟨numB (l.take 8),numB (l.drop 8)⟩,0):=by unfold qyq;rw[if_neg Xd,if_neg Xd]
 rw[q];refine gP 5 O (xhq (ys:=zaq (l.take 8)) (l:=0) (h:=8) O O O O O O O Xd Xd (by rw[List.drop_zero,QDq]) rfl) (gC 0 O (rnumber_s _ _ Xq) (gP 1 O (xhq (ys:=zaq (l.drop 8)) (l:=8) (h:=(zaq l).length) O O O O O O O Xd (Nat.le_refl _) (by rw[List.take_of_length_le Xh,QEq]) rfl) (gC 0 O (rnumber_s _ _ Xq) ?_)));refine gD 10 O (λh3=>?_) (λh3=>?_)
 ·have z1:numB (l.take 8)=0:=by omega
  refine gU 3 O ?_;refine gS 3 O (λh4=>?_) (λh4=>?_)
  ·have z2:numB (l.drop 8)=0:=by omega
   rw[if_pos (by rw[z1,z2];rfl)];refine zfq 9 O (qZq Xt O ?_)
   (repeat (first|exact .nil|refine .cons ?_ ?_|exact qAq|exact .nilfz|refine .fn ?_ ?_|(refine yKq O ?_ rfl;(first|rfl|(focus (simp;done))))|(refine .sl O ?_ rfl Xi;(first|rfl|(focus (simp;done))))|(refine .pur ?_;(first|rfl|(focus (simp;done))))|(refine .fzw ?_;(first|rfl|(focus (simp;done))))|refine .agg ?_|refine .arr ?_|refine .tup ?_))
  ·have z2:¬numB (l.drop 8)=0:=by omega
   rw[if_neg λh=>z2 (by injection h)];refine zfq 10 O (qZq Xt O ?_)
   (repeat (first|exact .nil|refine .cons ?_ ?_|exact qAq|exact .nilfz|refine .fn ?_ ?_|(refine yKq O ?_ rfl;(first|rfl|(focus (simp;done))))|(refine .sl O ?_ rfl Xi;(first|rfl|(focus (simp;done))))|(refine .pur ?_;(first|rfl|(focus (simp;done))))|(refine .fzw ?_;(first|rfl|(focus (simp;done))))|refine .agg ?_|refine .arr ?_|refine .tup ?_))
 ·have z1:¬numB (l.take 8)=0:=by omega
  rw[if_neg λh=>z1 (by injection h)];refine zfq 18 O (qZq Xt O ?_)
  (repeat (first|exact .nil|refine .cons ?_ ?_|exact qAq|exact .nilfz|refine .fn ?_ ?_|(refine yKq O ?_ rfl;(first|rfl|(focus (simp;done))))|(refine .sl O ?_ rfl Xi;(first|rfl|(focus (simp;done))))|(refine .pur ?_;(first|rfl|(focus (simp;done))))|(refine .fzw ?_;(first|rfl|(focus (simp;done))))|refine .agg ?_|refine .arr ?_|refine .tup ?_))
def HeldB(ps:List Pr):Prop:=∀p∈ps,(qyq p.2).2=0
noncomputable instance(ps:List Pr):Decidable (HeldB ps):=Classical.propDecidable _
theorem rheld_s(ps:List Pr)(f:Bool)(hb:ps.length<=1000000000):PS cfg G 198 [.fz (ps.map pW) 33 f] (.bool (decide (HeldB ps))):=by
 have e:(ps.map pW).length=ps.length:=List.length_map _;refine gI 12 O (λR k0=>?_);refine gLo (α:=Nat) 0 (λi=>i<=ps.length/\∀j x,j<i->ps[j]? =some x->(qyq x.2).2=0) (λi=>[(3,.int .i64 (i:Int))]) [0,2] (λi=>ps.length-i) (0) rfl (⟨Nat.zero_le _,λj x h=>by omega⟩) (λi hI=>?_);obtain⟨g1,g2⟩:=hI;refine gV (w':=.int .i64 (ps.length:Int)) 5 O Xv ?_;refine gS 3 O (λh1=>?_) (λh1=>?_)
 ·have hi:i<ps.length:=by omega
  obtain⟨x,hx⟩:∃x,ps[i]? =some x:=⟨_,List.getElem?_eq_getElem hi⟩
  refine gP 8 O (zuq (i:=i) O O O O O O O (zpq pW hx)) (gC 2 O (raread_s _ _) ?_);refine gS 14 O (λh2=>?_) (λh2=>?_)
  ·refine gO 8 O (zfq 2 O ?_);have hno:¬HeldB ps:=λh=>by have:=h x (List.mem_of_getElem? hx);omega
   exact gQ 0 O Yn
  ·have h0:(qyq x.2).2=0:=by omega
   exact gA 5 O (i+1) (gAg 2 O (i+1) (⟨hi,λj y hj hy=>by rcases Nat.lt_succ_iff_lt_or_eq.1 hj with q|rfl;exact g2 j y q hy;have:=Option.some.inj (hx.symm.trans hy);subst this;exact h0⟩) Xd)
 ·refine gO 2 O (zfq 8 O ?_)
  have yes:HeldB ps:=λp hp=>by
   obtain⟨j,hj⟩:=List.getElem?_of_mem hp;have:=(List.getElem?_eq_some_iff.1 hj).1;exact g2 j p Xd hj
  exact gQ 0 O (by rw[decide_eq_true yes])
theorem mayA_iff{t:Tree}{n:Nat}{t0:T}(h:IsT t n t0):MayA t↔HeldB t0.all:=by
 constructor
 ·rintro⟨n',t',h'⟩;have hn:n=n':=by have:=h.root;have:=h'.root;omega
  subst hn;rw[h.rep.uniq h'.rep];exact h'.held
 ·exact λq=>⟨n,t0,h,q⟩
theorem mayA_T{t:Tree}(h:MayA t):MayT t:=by obtain⟨n,t0,h⟩:=h;exact h.toIsT.may
theorem J7q(t:Tree)(hb:t.nodes.length<=4611686018427387903):PS cfg G 110 [tW t] (.bool (decide (MayA t))):=by
 by_cases hT:MayT t
 ·obtain⟨n,t0,h⟩:=may_is hT;have hl:t0.all.length<=1000000000:=by have:=h.all_le;have:=h.len;omega
  have h2:decide (MayA t)=decide (HeldB t0.all):=decide_eq_decide.2 (mayA_iff h);rw[h2];refine gI 9 O (λR k0=>gC 0 O (zzq (w':=.bool true) (rmay_s t hb) (by rw[decide_eq_true hT])) ?_);refine gB 0 O (λh1=>?_) (λh1=>?_)
  ·exact gC 2 O (rall_s t n t0 h) (gC 0 O (rheld_s _ _ Xr) (gQa 5 O))
  ·exfalso;exact h1 rfl
 ·have h2:decide (MayA t)=false:=decide_eq_false λh=>hT (mayA_T h)
  rw[h2];refine gI 9 O (λR k0=>gC 0 O (zzq (w':=.bool false) (rmay_s t hb) (by rw[decide_eq_false hT])) ?_);refine gB 0 O (λh1=>?_) (λh1=>?_)
  ·exfalso;cases h1
  ·exact gQa 9 O
theorem idx_find(k:Dig):∀ps:List Pr,(∃(i:Nat) (x:Pr),ps[i]? =some x/\idxP ps k=i/\jhq ps k=some x.2)\/(idxP ps k=-1/\jhq ps k=none)
 |[]=>.inr ⟨rfl,rfl⟩
 | p ::ps=>by
  by_cases e:p.1=k
  ·refine .inl ⟨0,p,rfl,?_,?_⟩
   ·simp[idxP,List.findIdx?_cons,e]
   ·simp[jhq,e]
  ·rcases idx_find k ps with ⟨i,x,h1,h2,h3⟩|⟨h1,h2⟩
   ·refine .inl ⟨i+1,x,by simpa using h1,?_,?_⟩
    ·unfold idxP at h2⊢;rw[List.findIdx?_cons];simp only[e,decide_false,Bool.false_eq_true,if_false];cases hq:ps.findIdx? (λp=>decide (p.1=k)) with
     |none=>rw[hq] at h2;exfalso;simp only at h2;omega
     |some j=>rw[hq] at h2;simp only[Option.map_some] at h2⊢;omega
    ·rw[<-h3];simp[jhq,e]
   ·refine .inr ⟨?_,?_⟩
    ·unfold idxP at h1⊢;rw[List.findIdx?_cons];simp only[e,decide_false,Bool.false_eq_true,if_false];cases hq:ps.findIdx? (λp=>decide (p.1=k)) with
     |none=>rfl
     |some j=>rw[hq] at h1;simp only at h1;omega
    ·rw[<-h2];simp[jhq,e]
def inA(ps:List Pr)(k:Dig):Acct:=match jhq ps k with
 |some v=>(qyq v).1
 |none=>.zero
theorem Z8q(ps:List Pr)(f:Bool)(k:Dig)(hb:ps.length<=1000000000):PS cfg G 205 [.fz (ps.map pW) 33 f,dW k] (aW (inA ps k)):=by
 rcases idx_find k ps with ⟨i,x,q1,q2,q3⟩|⟨q1,q2⟩
 ·have e:inA ps k=(qyq x.2).1:=by unfold inA;rw[q3]
  have hi:=(List.getElem?_eq_some_iff.1 q1).1;rw[e];refine gI 10 O (λR k0=>gC 0 O (zzq (w':=.int .i64 (i:Int)) (rfind_s ps f k hb) (by rw[q2])) ?_);refine gS 10 O (λh1=>?_) (λh1=>?_)
  ·exfalso;omega
  ·exact gP 6 O (zuq (i:=i) O O O O O O O (zpq pW q1)) (gC 2 O (raread_s _ _) (gQa 15 O))
 ·have e:inA ps k= .zero:=by unfold inA;rw[q2]
  rw[e];refine gI 10 O (λR k0=>gC 0 O (zzq (w':=.int .i64 (-1)) (rfind_s ps f k hb) (by rw[q1])) ?_);refine gS 10 O (λh1=>?_) (λh1=>?_)
  ·exact gQa 8 O
  ·exfalso;omega
noncomputable def QOq(ps:List Pr)(k:Dig)(a:Acct):List Pr:=if a= .zero then zxq ps k else withR ps k (qKq a)
theorem vrq{l:List Pr}(h:Srt l)(k:Dig)(a:Acct):QOq l k a=setL l k a:=by
 unfold QOq setL;rw[JIq h]
theorem acct_zero{a:Acct}:a= .zero↔a.nonce=0/\a.balance=0:=by cases a;simp[Acct.zero]
theorem J5q(ps:List Pr)(f:Bool)(k:Dig)(a:Acct)(ha:a.ok)(hb:ps.length<=1000000)(hv:∀x∈ps,x.2.length<=70368744177664):PS cfg G 325 [.fz (ps.map pW) 33 f,dW k,aW a] (psW (QOq ps k a)):=by
 have lb:=uNq a;refine gI 12 O (λR k0=>?_);refine gD 0 O (λh1=>?_) (λh1=>?_)
 ·refine gU 3 O ?_;refine gS 3 O (λh2=>?_) (λh2=>?_)
  ·have hz:a= .zero:=acct_zero.2 Jv;exact gC 4 O (Q9q ps f k Xd hv) (gQ 5 O (by unfold QOq;rw[if_pos hz]))
  ·have hz:¬a= .zero:=λq=>by have:=acct_zero.1 q;omega
   exact gC 7 O (rabytes_s _ Xr) (gC 0 O (rwith_s ps f false k (qKq a) hb hv Xd) (gQ 4 O (by unfold QOq;rw[if_neg hz])))
 ·have hz:¬a= .zero:=λq=>by have:=acct_zero.1 q;omega
  exact gC 15 O (rabytes_s _ Xr) (gC 0 O (rwith_s ps f false k (qKq a) hb hv Xd) (gQ 4 O (by unfold QOq;rw[if_neg hz])))
end
theorem p32:(4294967296:Nat)=2^32:=by decide
noncomputable def fz{α:Type}(n:Nat)(c:Nat->α):α:=Nat.rec (c 0) (λm _=>c (Nat.succ m)) n
structure S8.Ok(s:S8):Prop where
 a:s.a<4294967296
 b:s.b<4294967296
 c:s.c<4294967296
 d:s.d<4294967296
 e:s.e<4294967296
 f:s.f<4294967296
 g:s.g<4294967296
 h:s.h<4294967296
theorem uTq(a b:Nat):addN a b<4294967296:=Nat.mod_lt _ Xm
theorem rnd_ok{s:S8}(h:s.Ok)(k w:Nat):(roundN k w s).Ok:=⟨uTq _ _,h.a,h.b,h.c,uTq _ _,h.e,h.f,h.g⟩
noncomputable def wS(bs:Nat->Nat)(i:Nat):Nat:=(yrq bs (i+1)).getD i 0
theorem rounds_ok{s:S8}(h:s.Ok)(ws:List Nat):∀t,(ueq ws s t).Ok
 |0=>h
 |t+1=>rnd_ok (rounds_ok h ws t) _ _
theorem word_eq{b0 b1 b2 b3:Nat}(h0:b0<256)(h1:b1<256)(h2:b2<256)(h3:b3<256):wordN b0 b1 b2 b3=Nat.lor (Nat.lor (Nat.lor (Nat.shiftLeft b0 24) (Nat.shiftLeft b1 16)) (Nat.shiftLeft b2 8)) b3:=by
 have s:∀b n,b<256->n<=24->Nat.shiftLeft b n<4294967296:=λb n hb hn=>by
  show b<<<n<4294967296;rw[Nat.shiftLeft_eq];have:2^n<=2^24:=Nat.pow_le_pow_right Xm hn;have:=Nat.mul_le_mul (show b<=255 by omega) this;omega
 have e:∀b n,b<256->n<=24->shlN (b%4294967296) n=Nat.shiftLeft b n:=λb n hb hn=>by
  unfold shlN;rw[Nat.min_eq_left Xd,Nat.mod_eq_of_lt (show b<4294967296 by omega),Nat.mod_eq_of_lt (s b n hb hn)]
 have o:∀a b,a<4294967296->b<4294967296->orN a b=Nat.lor a b:=λa b ha hb=>by
  unfold orN;rw[Nat.mod_eq_of_lt ha,Nat.mod_eq_of_lt hb]
 have ol:∀a b,a<4294967296->b<4294967296->Nat.lor a b<4294967296:=λa b ha hb=>by
  rw[p32] at*
  exact Nat.or_lt_two_pow ha hb
 unfold wordN;rw[e b0 24 h0 Xm,e b1 16 h1 Xm,e b2 8 h2 Xm,Nat.mod_eq_of_lt (show b3<4294967296 by omega)];rw[o _ _ (s b0 24 h0 Xm) (s b1 16 h1 Xm),o _ _ (ol _ _ (s b0 24 h0 Xm) (s b1 16 h1 Xm)) (s b2 8 h2 Xm),o _ _ (ol _ _ (ol _ _ (s b0 24 h0 Xm) (s b1 16 h1 Xm)) (s b2 8 h2 Xm)) Xd]
noncomputable def small(l:List Nat):Prop:=∀b∈l,b<256
theorem small_at{l:List Nat}(h:small l)(i:Nat):atL l i<256:=by
 unfold atL;rw[List.getD_eq_getElem?_getD];cases hq:l[i]? with
 |none=>show(0:Nat)<256;decide
 |some b=>exact h b (List.mem_of_getElem? hq)
theorem block_ok(s:S8)(bs:Nat->Nat):(jHq bs s).Ok:=⟨uTq _ _,uTq _ _,uTq _ _,uTq _ _,uTq _ _,uTq _ _,uTq _ _,uTq _ _⟩
theorem pad_eq:∀(n:Nat) (r:List Nat),(120-r.length%64)%64<=n->padZ n r=r++List.replicate ((120-r.length%64)%64) 0
 |0,r,h=>by
  rw[Nat.le_zero.1 h];simp[padZ]
 |n+1,r,h=>by
  unfold padZ;cases hb:Nat.beq (r.length%64) 56 with
  |true=>
   have:=Nat.eq_of_beq_eq_true hb;rw[this];simp
  |false=>
   have hne:r.length%64≠56:=λe=>by rw[e] at hb;cases hb
   show padZ n (r++[0])=_;have hl:(r++[0]).length=r.length+1:=by simp
   rw[pad_eq n (r++[0]) (by rw[hl];omega),hl,List.append_assoc];have:(120-r.length%64)%64=(120-(r.length+1)%64)%64+1:=by omega
   rw[this];rfl
section
attribute [local irreducible] CoW OpW FlW Step Spec
variable {G:Nat->Option W}
noncomputable def rotT(x n:Nat):Nat:=orN (shrN x n) (shlN x (32-n))
theorem rotT_eq{x n:Nat}(hn:n<=32):rotT x n=rotN x n:=by
 unfold rotT rotN orN shrN shlN;rw[Nat.min_eq_left hn,Nat.min_eq_left (Nat.sub_le _ _)];exact Nat.or_comm _ _
theorem q3q(n:Nat)(hn:n=2\/n=6\/n=7\/n=11\/n=13\/n=17\/n=18\/n=19\/n=22\/n=25)(x:Nat):PS cfg G 362 [wd x,wd n] (wd (rotN x n)):=by
 have key:∀h,qMq cfg 20 362 [.int .u32 (.ofNat x),.int .u32 (.ofNat n)] h=some (.int .u32 (.ofNat (rotT x n)),h):=by
  intro h;rcases hn with rfl|rfl|rfl|rfl|rfl|rfl|rfl|rfl|rfl|rfl<;>kernel_rfl
 have e:rotT x n=rotN x n:=rotT_eq Xd;rw[e] at key;refine kkq (spec_run key (λΓ us h=>?_) (λΓ=>RV_int.2 rfl)) λw hp nw h=>h.1
 obtain⟨v,vs,rfl,h1,h2⟩:=RVL_cons.1 h;obtain⟨v',vs',rfl,h3,h4⟩:=RVL_cons.1 h2;rw[RVL_nil.1 h4,RV_int.1 h1,RV_int.1 h3]
theorem sub_not{e:Nat}(he:e<4294967296):4294967295-e=notN e:=by
 unfold notN;rw[Nat.mod_eq_of_lt he];have h:=BitVec.toNat_not (x:=BitVec.ofNat 32 e);rw[<-BitVec.allOnes_xor] at h;simp only[BitVec.toNat_xor,BitVec.toNat_allOnes,BitVec.toNat_ofNat] at h;rw[Nat.mod_eq_of_lt (show e<2^32 from he)] at h;exact h.symm
theorem wrap_not{e:Nat}(he:e<4294967296):W.int .u32 (jIq .u32 ((4294967295:Int) -Int.ofNat e))=wd (notN e):=by
 rw[<-sub_not he]
 have:(4294967295:Int) -Int.ofNat e=((4294967295-e:Nat):Int):=by
  show(4294967295:Int) -(e:Int)=_;omega
 rw[this];show W.int .u32 (((4294967295-e)%4294967296:Nat):Int)=W.int .u32 ((4294967295-e:Nat):Int);rw[Nat.mod_eq_of_lt Xd]
theorem rround_s(v:S8)(hv:v.Ok)(k w:Nat):PS cfg G 351 [.arr 8 1 v.l,wd k,wd w] (.arr 8 1 (roundN k w v).l):=by
 refine gI 8 O (λR k0=>?_);refine gX 0 O ?_;refine gX 1 O ?_;refine gX 1 O ?_;refine gX 1 O ?_;refine gX 1 O ?_;refine gX 1 O ?_;refine gX 1 O ?_;refine gX 1 O ?_;refine gC 15 O (q3q _ Xh _) ?_;refine gC 1 O (q3q _ Xh _) ?_;refine gC 2 O (q3q _ Xh _) ?_;refine gV (w':=wd (notN v.e)) 6 O (wrap_not hv.e) ?_;refine gC 14 O (q3q _ Xh _) ?_;refine gC 1 O (q3q _ Xh _) ?_;refine gC 2 O (q3q _ Xh _) ?_;exact gQa 35 O
theorem words_s:PS cfg G 349 [] (.arr 64 1 (kW.map wd)):=by
 exact gI 12 O (λR k0=>gQa 0 O)
noncomputable def horn(bs:Nat->Nat)(t:Nat):Nat->Nat
 |0=>0
 |i+1=>addN (256*horn bs t i%4294967296) (bs (4*t+i))
theorem horn_word{bs:Nat->Nat}(hb:∀i,bs i<256)(t:Nat):horn bs t 4=wordN (bs (4*t)) (bs (4*t+1)) (bs (4*t+2)) (bs (4*t+3)):=by
 have h0:=hb (4*t);have h1:=hb (4*t+1);have h2:=hb (4*t+2);have h3:=hb (4*t+3);rw[word_eq h0 h1 h2 h3];have e1:=Nat.shiftLeft_add_eq_or_of_lt (i:=8) (b:=bs (4*t+1)) Xd (bs (4*t));have s:∀a i:Nat,Nat.shiftLeft a i=a*2^i:=λa i=>Nat.shiftLeft_eq a i
 have o1:Nat.lor (Nat.shiftLeft (bs (4*t)) 24) (Nat.shiftLeft (bs (4*t+1)) 16)=bs (4*t)*16777216+bs (4*t+1)*65536:=by
  have:=Nat.shiftLeft_add_eq_or_of_lt (i:=24) (b:=bs (4*t+1)*65536) Xd (bs (4*t));rw[Nat.shiftLeft_eq] at this;rw[s (bs (4*t+1)) 16];show bs (4*t)<<<24|||(bs (4*t+1)*2^16)=_
  rw[Nat.shiftLeft_eq];exact this.symm
 have o2:Nat.lor (bs (4*t)*16777216+bs (4*t+1)*65536) (Nat.shiftLeft (bs (4*t+2)) 8)=bs (4*t)*16777216+bs (4*t+1)*65536+bs (4*t+2)*256:=by
  have q:bs (4*t)*16777216+bs (4*t+1)*65536=(bs (4*t)*256+bs (4*t+1))*65536:=by rw[Nat.add_mul,Nat.mul_assoc]
  have:=Nat.shiftLeft_add_eq_or_of_lt (i:=16) (b:=bs (4*t+2)*256) Xd (bs (4*t)*256+bs (4*t+1));rw[Nat.shiftLeft_eq,show(2:Nat)^16=65536 from rfl] at this;rw[s];show(bs (4*t)*16777216+bs (4*t+1)*65536)|||(bs (4*t+2)*256)=_
  rw[q];exact this.symm
 have o3:Nat.lor (bs (4*t)*16777216+bs (4*t+1)*65536+bs (4*t+2)*256) (bs (4*t+3))=bs (4*t)*16777216+bs (4*t+1)*65536+bs (4*t+2)*256+bs (4*t+3):=by
  have q:bs (4*t)*16777216+bs (4*t+1)*65536+bs (4*t+2)*256=(bs (4*t)*65536+bs (4*t+1)*256+bs (4*t+2))*256:=by rw[Nat.add_mul,Nat.add_mul,Nat.mul_assoc,Nat.mul_assoc]
  have:=Nat.shiftLeft_add_eq_or_of_lt (i:=8) (b:=bs (4*t+3)) Xd (bs (4*t)*65536+bs (4*t+1)*256+bs (4*t+2));rw[Nat.shiftLeft_eq,show(2:Nat)^8=256 from rfl] at this;show(bs (4*t)*16777216+bs (4*t+1)*65536+bs (4*t+2)*256)|||bs (4*t+3)=_
  rw[q];exact this.symm
 rw[o1,o2,o3];simp only[horn,addN];rw[show 4*t+0=4*t from rfl];omega
noncomputable def bsL(l:List UInt8):Nat->Nat:=atL (l.map UInt8.toNat)
theorem bsL_lt(l:List UInt8)(i:Nat):bsL l i<256:=small_at (λb hb=>by obtain⟨c,_,rfl⟩:=List.mem_map.1 hb;exact c.toNat_lt) i
theorem bsL_at{l:List UInt8}{i:Nat}(h:i<l.length):(zaq l)[i]? =some (.int .u8 ((bsL l i:Nat):Int)):=by
 unfold zaq bsL atL;rw[List.getElem?_map,List.getElem?_eq_getElem h];simp[List.getD,List.getElem?_eq_getElem h]
theorem pad0_snoc{L:List Nat}{n:Nat}(h:L.length<n):pad0 (L++[0]) n=pad0 L n:=by
 unfold pad0;rw[show n-L.length=(n-(L++[0]).length)+1 by simp;omega,List.replicate_succ,List.append_assoc];rfl
theorem pad0_last{L:List Nat}{n x:Nat}(h:L.length<n):((pad0 (L++[x]) n).map wd)[L.length]? =some (wd x):=by
 rw[pad0_at Xh];simp[List.getD]
theorem pad0_turn{L:List Nat}{n x y:Nat}(h:L.length<n):((pad0 (L++[x]) n).map wd).set L.length (wd y)=(pad0 (L++[y]) n).map wd:=by
 rw[<-List.map_set];congr 1
 unfold pad0;rw[show(L++[x]).length=(L++[y]).length by simp,List.append_assoc,List.append_assoc,List.set_append_right _ _ (Nat.le_refl _),Nat.sub_self];rfl
noncomputable def schH(L:List Nat):HpW:=[(1,459,.arr 64 1 ((pad0 L 64).map wd)),(0,459,.arr 64 1 (List.replicate 64 (wd 0)))]
theorem sched_s(l:List UInt8)(f:Bool)(hl:l.length=64):PS cfg G 350 [.fz (zaq l) 1 f] (.arr 64 1 ((yrq (bsL l) 64).map wd)):=by
 obtain⟨bs,eb⟩:∃bs,bsL l=bs:=⟨_,rfl⟩
 have hb:∀i,bs i<256:=λi=>by rw[<-eb];exact bsL_lt l i
 have hat:∀i,i<64->(zaq l)[i]? =some (.int .u8 ((bs i:Nat):Int)):=λi hi=>by rw[<-eb];exact bsL_at Xd
 rw[eb];refine gI 17 O (λR k0=>?_);refine qJq (α:=Nat) (λt=>t<=16) (λt=>[(4,.int .i64 (t:Int))]) [(0,_),(2,_),(3,_)] (λt=>schH (yrq bs t)) (λt=>16-t) (0) ⟨rfl,rfl,rfl,trivial⟩ (Nat.zero_le _) ⟨rfl,trivial⟩ (rfl) (λt hI=>?_);have hsl:=ucq bs t;refine zPq 7 O ?_;refine gS 0 O (λh1=>?_) (λh1=>?_)
 ·have ht:t<16:=by omega
  refine zfq 10 O ?_;refine qJq (α:=Nat) (λi=>i<=4) (λi=>[(5,.int .i64 (i:Int))]) [(0,_),(2,_),(3,_),(4,_),(9,_),(10,_)] (λi=>schH (yrq bs t++[horn bs t i])) (λi=>4-i) (0) ⟨rfl,rfl,rfl,rfl,rfl,rfl,trivial⟩ (Nat.zero_le _) ⟨rfl,trivial⟩ (by show schH (yrq bs t)=schH (yrq bs t++[0]);unfold schH;rw[pad0_snoc Xd]) (λi hI=>?_);have hc:=hb (4*t+i);have hL:((pad0 (yrq bs t++[horn bs t i]) 64).map wd)[0+t*1]? =some (wd (horn bs t i)):=by have:=pad0_last (L:=yrq bs t) (n:=64) (x:=horn bs t i) Xd;rw[hsl] at this;rw[Nat.zero_add,Nat.mul_one];exact this
  refine zPq 7 O ?_;refine gS 0 O (λh2=>?_) (λh2=>?_)
  ·have hi:i<4:=by omega
   have hset:((pad0 (yrq bs t++[horn bs t i]) 64).map wd).set (0+t*1) (wd (horn bs t (i+1)))=(pad0 (yrq bs t++[horn bs t (i+1)]) 64).map wd:=by have:=pad0_turn (L:=yrq bs t) (n:=64) (x:=horn bs t i) (y:=horn bs t (i+1)) Xd;rw[hsl] at this;rw[Nat.zero_add,Nat.mul_one];exact this
   refine gP 7 O (zMq (i:=t) O O O O O O Xd) (gM 0 O (ybq O O O (y0q hL rfl)) (gV (w':=wd (256*horn bs t i%4294967296)) 0 O O (gA 2 O (4*t) (gA 1 O (4*t+i) (gP 0 O (zuq (i:=4*t+i) O O O O O O O (hat _ Xd)) (gA 1 O (bs (4*t+i)) (gV (w':=wd (horn bs t (i+1))) 0 O O (gP 0 O (zMq (i:=t) O O O O O O Xd) (gM 0 O (jtq O O O O O (qFq hL O O) rfl) (gA 5 O (i+1) (zfq 2 O ?_)))))))))));skip
   exact jvq (i+1) hi Xd ⟨rfl,trivial⟩ ⟨rfl,rfl,rfl,rfl,rfl,rfl,trivial⟩ Qj
  ·have hi:i=4:=by omega
   subst hi
   have hnx:yrq bs (t+1)=yrq bs t++[horn bs t 4]:=by
    rw[horn_word hb];show yrq bs t++[uiq bs (yrq bs t)]=_;unfold uiq;rw[hsl,show Nat.blt t 16=true from Nat.ble_eq_true_of_le ht]
   refine zfq 2 O (y3q Xi (zHq 5 O (gA 0 O (t+1) (zfq 2 O ?_))));skip
   exact jvq (t+1) ht Xd ⟨rfl,trivial⟩ ⟨rfl,rfl,rfl,trivial⟩ (by rw[hnx])
 ·have ht:t=16:=by omega
  subst ht;refine zfq 2 O (y3q Xi (zHq 9 O ?_));refine qJq (α:=Nat) (λu=>16<=u/\u<=64) (λu=>[(6,.int .i64 (u:Int))]) [(2,_),(3,_)] (λu=>schH (yrq bs u)) (λu=>64-u) (16) ⟨rfl,rfl,trivial⟩ (Jv) ⟨rfl,trivial⟩ (rfl) (λu hI=>?_);obtain⟨g1,g2⟩:=hI;have hsu:=ucq bs u;refine zPq 7 O ?_;refine gS 0 O (λh2=>?_) (λh2=>?_)
  ·have hu:u<64:=by omega
   obtain⟨L,eL⟩:∃L,yrq bs u=L:=⟨_,rfl⟩
   rw[eL] at hsu⊢;have hat2:∀i,i<u->((pad0 L 64).map wd)[0+i*1]? =some (wd (L.getD i 0)):=λi hi=>by rw[Nat.zero_add,Nat.mul_one];exact pad0_at Xd
   have hge:((pad0 L 64).map wd)[0+u*1]? =some (wd 0):=by have:=pad0_ge (l:=L) (n:=64) Xd;rw[hsu] at this;rw[Nat.zero_add,Nat.mul_one];exact this
   have hnx:uiq bs L=addN (addN (addN (L.getD (u-16) 0) (xorN (xorN (rotN (L.getD (u-15) 0) 7) (rotN (L.getD (u-15) 0) 18)) (shrN (L.getD (u-15) 0) 3))) (L.getD (u-7) 0)) (xorN (xorN (rotN (L.getD (u-2) 0) 17) (rotN (L.getD (u-2) 0) 19)) (shrN (L.getD (u-2) 0) 10)):=by
    have hbl:Nat.blt u 16=false:=by
     cases hq:Nat.blt u 16 with
     |false=>rfl
     |true=>have:=Ob hq;omega
    unfold uiq;rw[hsu,hbl]
   have hset:((pad0 L 64).map wd).set (0+u*1) (wd (uiq bs L))=(pad0 (yrq bs (u+1)) 64).map wd:=by
    have:=pad0_set (l:=L) (n:=64) (x:=uiq bs L) Xd;rw[hsu] at this;rw[Nat.zero_add,Nat.mul_one,this];show _=(pad0 (yrq bs u++[uiq bs (yrq bs u)]) 64).map wd;rw[eL]
   refine gA 7 O (u-15) (gP 0 O (zMq (i:=u-15) O O O O O O Xd) (gM 0 O (ybq O O O (y0q (hat2 (u-15) Xd) rfl)) (gA 1 O (u-2) (gP 0 O (zMq (i:=u-2) O O O O O O Xd) (gM 0 O (ybq O O O (y0q (hat2 (u-2) Xd) rfl)) (gA 7 O (u-16) (gP 0 O (zMq (i:=u-16) O O O O O O Xd) (gM 0 O (ybq O O O (y0q (hat2 (u-16) Xd) rfl)) (gC 1 O (q3q _ Xh _) (gC 1 O (q3q _ Xh _) (gA 6 O (u-7) (gP 0 O (zMq (i:=u-7) O O O O O O Xd) (gM 0 O (ybq O O O (y0q (hat2 (u-7) Xd) rfl)) (gC 2 O (q3q _ Xh _) (gC 1 O (q3q _ Xh _) (gV (w':=wd (uiq bs L)) 4 O (by rw[hnx];rfl) (gP 0 O (zMq (i:=u) O O O O O O Xd) (gM 0 O (jtq O O O O O (qFq hge O O) rfl) (gA 5 O (u+1) (zfq 2 O ?_))))))))))))))))))));skip
   exact jvq (u+1) ⟨by omega,hu⟩ Xd ⟨rfl,trivial⟩ ⟨rfl,rfl,trivial⟩ Qj
  ·have hu:u=64:=by omega
   subst hu;refine zfq 2 O (y3q Xi (zHq 9 O ?_));have ep:pad0 (yrq bs 64) 64=yrq bs 64:=by unfold pad0;rw[hsu];simp
   exact gQ 0 O (by rw[ep])
def padJ(l:List UInt8)(j:Nat):List UInt8:=l++[128]++List.replicate j 0
theorem vJq(l:List UInt8)(j:Nat):(padJ l j).length=l.length+1+j:=by simp[padJ];omega
theorem padJ_next(l:List UInt8)(j:Nat):zaq (padJ l (j+1))=zaq (padJ l j)++zaq [0]:=by
 rw[<-yPq];congr 1
 unfold padJ;rw[List.append_assoc (l++[128]),<-List.replicate_succ']
noncomputable def padH(l:List UInt8)(j:Nat):HpW:=[(0,5,.arr (padJ l j).length 1 (zaq (padJ l j)))]
def padR(l:List UInt8):List UInt8:=padJ l ((119-l.length%64)%64)++beB 8 (8*l.length)
theorem padded_s(l:List UInt8)(f:Bool)(hl:l.length<2147483648):PS cfg G 348 [.fz (zaq l) 1 f] (bW (padR l)):=by
 have el:(zaq l).length=l.length:=zdq l;refine gIv 14 O (λR k0=>?_);refine jVq (λ_=>x4q (fr2:=[(0,.fz (zaq l) 1 f),(2,.nils),(7,gW 0 1 []),(8,.fz (zaq l) 1 f)]) ⟨rfl,rfl,rfl,rfl,trivial⟩) ?_;refine Zwq (b:=0) (xs:=[]) (news:=zaq l) (k:=ti5) (H0:=[]) [] [(0,.fz (zaq l) 1 f),(2,.nils)] O O O O O O O O O O O (by show(0+(zaq l).length)*1<=_;omega) (by show 0+(zaq l).length<=_;omega) rfl Xh Xd Xd ⟨rfl,rfl,trivial⟩ rfl ⟨zcq (show purW (.fz (zaq l) 1 f)=true from yOq l),rfl,trivial⟩ Xh trivial Xh ?_
 refine ziq 7 O ?_;refine Zwq (b:=0) (xs:=zaq l) (news:=zaq [128]) (k:=ti5) (H0:=[]) [_] [(0,.fz (zaq l) 1 f),(2,.nils)] O O O O O O O O O O (z6q O O O O) (by show((zaq l).length+1)*1<=_;omega) (by show(zaq l).length+1<=_;omega) rfl Xh Xd Xd ⟨rfl,rfl,trivial⟩ rfl ⟨zcq (show purW (.fz (zaq l) 1 f)=true from yOq l),rfl,trivial⟩ (by rw[<-yPq];simp) trivial Xh ?_;refine ziq 5 O ?_;have e0:zaq l++zaq [128]=zaq (padJ l 0):=by rw[<-yPq];congr 1;simp[padJ]
 have hne:zaq (padJ l 0)≠[]:=λh=>by have:=congrArg List.length h;rw[zdq,vJq] at this;simp at this
 have htm:∀n:Nat,((n:Int)).tmod 64=((n%64:Nat):Int):=λn=>by rw[Int.tmod_eq_emod_of_nonneg Xd];omega
 refine qmq (α:=Nat) (λj=>∀i,i<j->(l.length+1+i)%64≠56) (λj=>[(3,.sl 0 0 0 (padJ l j).length 1 none),(0,.fz (zaq l) 1 f),(2,.nils)]) (λj=>padH l j) (λ_=>1) (λ_=>R) (λj=>64-j) 0 (λi hi=>absurd hi Xd) (z0q ⟨by show some (gW 0 1 (zaq l++zaq [128]))=_;rw[e0,kGq hne,zdq],rfl,rfl,trivial⟩ (by show []++gH 0 5 1 (zaq l++zaq [128])=padH l 0;rw[e0,kHq hne,zdq,Nat.mul_one];rfl) rfl) (λj hj=>?_);skip
 have hj64:j<64:=by
  refine Nat.lt_of_not_le λh=>?_
  have:=hj ((56+64-(l.length+1)%64)%64) Xd;omega
 have hlj:=vJq l j;refine zPq 4 O ?_;refine gZ 0 O hlj ?_;refine gV 0 O (congrArg (W.int .i64) (htm _)) ?_;refine gS 3 O (λh1=>?_) (λh1=>?_)
 ·have h1:¬(((l.length+1+j)%64:Nat):Int)=56:=h1;refine gM 6 O (z5q O O (y9q (k:=ti5) (len:=(padJ l j).length) (news:=zaq [0]) (olds:=zaq (padJ l j)) O O O O (z6q O O O O) Qt (by show((padJ l j).length+1)*1<=_;omega) (by show(padJ l j).length+1<=_;omega) rfl (by show(padJ l j).length<0+((padJ l j).length+1)*1;omega) rfl (zhq Xm (zdq _).symm (Nat.mul_one _).symm))) ?_;refine zfq 3 O ?_;have hl2:(padJ l j).length+1=(padJ l (j+1)).length:=by rw[vJq,vJq];omega
  have hp:purW (.fz (zaq l) 1 f)=true:=yOq l;skip
  refine ygq (j+1) (λi hi=>?_) (show 64-(j+1)<64-j by omega) ?_
  ·rcases Nat.lt_succ_iff_lt_or_eq.1 hi with h|rfl
   ·exact hj i h
   ·omega
  ·refine yGq (b:=0) (k:=2) Xd Xd (by show 2<3;omega) ⟨⟨?_,rfl⟩,⟨by rw[zgq hp];rfl,zcq hp⟩,⟨rfl,rfl⟩,trivial⟩ ⟨⟨by show 0<1;omega,?_,zcq (show purW (.arr _ 1 (zaq _))=true from yOq _)⟩,trivial⟩ (by show([0]:List Nat).Nodup;simp)
   ·show some (W.sl 2 0 0 ((padJ l j).length+1) 1 none)=some (W.sl 2 0 0 (padJ l (j+1)).length 1 none);rw[hl2]
   ·show some (5,W.arr (((padJ l j).length+1)*1) 1 (zaq (padJ l j)++zaq [0]))=some (5,renW _ (W.arr (padJ l (j+1)).length 1 (zaq (padJ l (j+1)))));rw[zgq (show purW (.arr _ 1 (zaq _))=true from yOq _),hl2,padJ_next,Nat.mul_one]
 ·have h56:(l.length+1+j)%64=56:=by omega
  obtain rfl:j=(119-l.length%64)%64:=by omega
  generalize hj0:(119-l.length%64)%64=j at*
  refine zfq 2 O ?_;refine y3q Xi ?_;refine zHq 5 O ?_;refine gV (w':=.int .i64 (l.length:Int)) 0 O (by rw[<-el];rfl) ?_;refine gWr 0 O ?_;refine gA 0 O (8*l.length) ?_;refine zfq 15 O ?_;obtain⟨n,en⟩:∃n,n=8*l.length:=⟨_,rfl⟩
  rw[<-en];have hn:n<18446744073709551616:=by omega
  refine qJq (α:=Nat×Nat) (λp=>p.1<=8/\p.2=n/256^p.1) (λp=>[(6,.int .i64 ((7:Int) -(p.1:Int))),(4,.int .u64 (p.2:Nat))]) [(2,_),(3,_),(5,_)] (λp=>(1,473,.arr 8 1 (zaq (List.replicate (8-p.1) 0++beB p.1 n)))::padH l j) (λp=>8-p.1) ((0,n)) ⟨rfl,rfl,rfl,trivial⟩ (⟨Nat.zero_le _,by simp⟩) ⟨rfl,rfl,trivial⟩ (rfl) (λp hI=>?_);obtain⟨i,q⟩:=p;obtain⟨g1,g2⟩:=hI;simp only at g1 g2⊢;have hlt:q<18446744073709551616:=by rw[g2];exact Nat.lt_of_le_of_lt (Nat.div_le_self _ _) hn
  refine zPq 7 O ?_;refine gS 0 O (λh2=>?_) (λh2=>?_)
  ·have hi:i<8:=by omega
   have hq:q/256=n/256^(i+1):=by rw[g2,Nat.div_div_eq_div_mul,<-Nat.pow_succ]
   have hset:=be_set n 8 i hi;rw[<-g2] at hset;refine gV (w':=.int .i64 ((8-1-i:Nat):Int)) 6 O (by congr 1;omega) ?_;refine gV (w':=.int .u64 ((q%256:Nat):Int)) 1 O (congrArg (W.int .u64) (xqq q 256)) ?_;refine gA 0 O (q%256) ?_;refine gP 0 O (zMq (i:=8-1-i) O O O O O O Xd) ?_;refine gM 0 O (jtq O O O O O (qFq (be_at n 8 i hi) O O) (congrArg (λL=>(1,473,W.arr 8 1 L)::padH l j) hset)) ?_;refine gA 4 O (q/256) (e:=(kUq q 256)) ?_;refine zfq 6 O ?_;refine op_z ((7:Int) -((i+1:Nat):Int)) O O Xd Jv ?_;refine run_p 2 O ?_;exact jvq ((i+1,q/256)) (⟨hi,hq⟩) Yf ⟨rfl,rfl,trivial⟩ ⟨rfl,rfl,rfl,trivial⟩ rfl
  ·have hi:i=8:=by omega
   subst hi;have hN:(zaq (beB 8 n)).length=8:=by rw[zdq,ylq]
   refine zfq 2 O ?_;refine y3q Xi ?_;refine zHq 6 O ?_;refine gM 0 O (z5q O O (y9q (k:=ti5) (len:=(padJ l j).length) (news:=zaq (beB 8 n)) (olds:=zaq (padJ l j)) O O O O (z6q O O O (zhq Xm hN.symm rfl)) Ys (by rw[hN];show(_+8)*1<=_;omega) Qv rfl (by rw[hN];show(padJ l j).length<0+(_+8)*1;omega) rfl (zhq Xm (zdq _).symm (Nat.mul_one _).symm))) ?_;refine zfq 4 O ?_;have er:zaq (padR l)=zaq (padJ l j)++zaq (beB 8 n):=by unfold padR;rw[hj0,<-en,yPq]
   have el2:(padR l).length=(padJ l j).length+(zaq (beB 8 n)).length:=by rw[<-zdq,er,List.length_append,zdq (padJ l j)]
   exact qZq Jw rfl (.sl (full:=false) (c:=.arr (padR l).length 1 (zaq (padR l))) (xs:=zaq (padR l)) (by show some (W.arr (((padJ l j).length+(zaq (beB 8 n)).length)*1) 1 (zaq (padJ l j)++zaq (beB 8 n)))=_;rw[er,el2,Nat.mul_one]) (show purW (.arr _ 1 (zaq _))=true from yOq _) (by rw[<-el2];exact zhq Xm (zdq _).symm (Nat.mul_one _).symm) Xi)
end
theorem next_congr{bs bs':Nat->Nat}(h:∀i,i<64->bs i=bs' i)(L:List Nat):uiq bs L=uiq bs' L:=by
 unfold uiq;cases hq:Nat.blt L.length 16 with
 |false=>rfl
 |true=>
  have hn:L.length<16:=Ob hq;show wordN (bs (4*L.length)) (bs (4*L.length+1)) (bs (4*L.length+2)) (bs (4*L.length+3))=wordN (bs' (4*L.length)) (bs' (4*L.length+1)) (bs' (4*L.length+2)) (bs' (4*L.length+3));rw[h (4*L.length) Xd,h (4*L.length+1) Xd,h (4*L.length+2) Xd,h (4*L.length+3) Xd]
theorem YIq{bs bs':Nat->Nat}(h:∀i,i<64->bs i=bs' i):∀n,yrq bs n=yrq bs' n
 |0=>rfl
 |n+1=>by
  have ih:=YIq h n;show yrq bs n++[uiq bs (yrq bs n)]=yrq bs' n++[uiq bs' (yrq bs' n)];rw[ih,next_congr h]
theorem QGq{bs bs':Nat->Nat}(h:∀i,i<64->bs i=bs' i)(s:S8):jHq bs s=jHq bs' s:=by
 unfold jHq;rw[YIq h]
theorem atL_app{a b:List Nat}{i:Nat}(h:i<a.length):atL (a++b) i=atL a i:=by
 unfold atL;simp[List.getD,List.getElem?_append_left h]
theorem eats_app:∀(k:Nat) (s:S8) (b t:List Nat),b.length<=k->1<=t.length->q7q (b++t).length s (b++t)=q7q ((eats s b).2++t).length (eats s b).1 ((eats s b).2++t)
 |0,s,b,t,hb,ht=>by
  have e:eats s b=(s,b):=khq _ _ _ Xd;rw[e]
 |k+1,s,b,t,hb,ht=>by
  by_cases h:b.length<64
  ·have e:eats s b=(s,b):=khq _ _ _ h;rw[e]
  ·have h64:64<=b.length:=by omega
   have ed:(b++t).drop 64=b.drop 64++t:=List.drop_append_of_le_length h64;rw[Qpq h64,viq (by rw[List.length_append];omega),ed,QGq (λi hi=>atL_app Xd) s];exact eats_app k _ (b.drop 64) t Qc ht
theorem eats_mod:∀(k:Nat) (s:S8) (b:List Nat),b.length<=k->(eats s b).2.length=b.length%64
 |0,s,b,hb=>by
  have e:eats s b=(s,b):=khq _ _ _ Xd;rw[e];show b.length=_;omega
 |k+1,s,b,hb=>by
  by_cases h:b.length<64
  ·have e:eats s b=(s,b):=khq _ _ _ h;rw[e];show b.length=_;omega
  ·have h64:64<=b.length:=by omega
   rw[Qpq h64,eats_mod k _ _ Qc,List.length_drop];omega
theorem be8_len8{n:Nat}(hn:n<2147483648):(beB 8 (8*n)).map UInt8.toNat=len8 n:=by
 have e:∀i,Nat.shiftRight (8*n%18446744073709551616) i%256=8*n/2^i%256:=λi=>by
  have h8:8*n%18446744073709551616=8*n:=Nat.mod_eq_of_lt Xd;rw[h8];show(8*n)>>>i%256=_;rw[Nat.shiftRight_eq_div_pow]
 have t:∀x:Nat,(UInt8.ofNat (x%256)).toNat=x%256:=λx=>by simp
 simp only[beB,len8,List.map_cons,List.map_nil,e,t]
theorem sha_one(l:List UInt8)(hl:l.length<2147483648):shaN [l.map UInt8.toNat]=digN (q7q ((padR l).map UInt8.toNat).length s0 ((padR l).map UInt8.toNat)):=by
 obtain⟨b,eb⟩:∃b,l.map UInt8.toNat=b:=⟨_,rfl⟩
 have el:b.length=l.length:=by rw[<-eb,List.length_map]
 have ht:qjq [b]=l.length:=by show b.length+0=_;omega
 have hm:=eats_mod b.length s0 b (Nat.le_refl _)
 have er:(padR l).map UInt8.toNat=b++([128]++List.replicate ((119-l.length%64)%64) 0++len8 l.length):=by
  unfold padR padJ;rw[List.map_append,List.map_append,List.map_append,be8_len8 hl,eb,List.append_assoc,List.append_assoc];simp[List.map_replicate]
 have ea:([b].foldl uzq (s0,[]))=eats s0 b:=rfl;rw[eb,er,eats_app b.length s0 b _ (Nat.le_refl _) Xh];have hp:=pad_eq 64 ((eats s0 b).2++[128]) Xd
 have hj:(120-((eats s0 b).2++[128]).length%64)%64=(119-l.length%64)%64:=by
  rw[List.length_append,hm,el];simp only[List.length_cons,List.length_nil];omega
 rw[hj] at hp
 have e2:padZ 64 ((eats s0 b).2++[128])++len8 l.length=(eats s0 b).2++([128]++List.replicate ((119-l.length%64)%64) 0++len8 l.length):=by
  rw[hp,List.append_assoc,List.append_assoc,List.append_assoc]
 have eS:shaN [b]=digN (q7q (padZ 64 (([b].foldl uzq (s0,[])).2++[128])++len8 (qjq [b])).length ([b].foldl uzq (s0,[])).1 (padZ 64 (([b].foldl uzq (s0,[])).2++[128])++len8 (qjq [b]))):=rfl;rw[eS,ea,ht,e2]
section
attribute [local irreducible] CoW OpW FlW Step Spec
variable {G:Nat->Option W}
noncomputable def sumH(s:S8):HpW:=[(2,459,.arr 64 1 (kW.map wd)),(1,418,.arr 8 1 s.l),(0,29,yoq)]
noncomputable def sumH2(v:S8)(ws:List Nat)(L:List W):HpW:=[(4,418,.arr 8 1 v.l),(3,459,.arr 64 1 (ws.map wd)),(2,459,.arr 64 1 (kW.map wd)),(1,418,.arr 8 1 L),(0,29,yoq)]
theorem s0_ok:s0.Ok:=⟨by decide,by decide,by decide,by decide,by decide,by decide,by decide,by decide⟩
theorem padR_len(l:List UInt8):(padR l).length%64=0/\(padR l).length<=l.length+72:=by
 unfold padR;rw[List.length_append,vJq,ylq];omega
theorem bsL_blk(M:List UInt8)(i:Nat):∀k,k<64->bsL ((M.drop (64*i)).take 64) k=atL ((M.map UInt8.toNat).drop (64*i)) k:=λk hk=>by
 unfold bsL atL;rw[List.map_take,List.map_drop,List.getD_eq_getElem?_getD,List.getD_eq_getElem?_getD,List.getElem?_take_of_lt hk]
set_option maxHeartbeats 1600000 in
theorem rsum_s(l:List UInt8)(f:Bool)(hl:l.length<2147483648):PS cfg G 321 [.fz (zaq l) 1 f] (dW (shaD [l])):=by
 have hsha:=sha_one l hl;obtain⟨hm,hle⟩:=padR_len l
 have e3:dW (shaD [l])= .arr 32 1 (bN (shaN [l.map UInt8.toNat])):=by
  show W.arr 32 1 (zaq _)=_;rw[<-bytes_of (shaN_lt _)];rfl
 rw[e3,hsha];have hpad:=padded_s (G:=G) l f hl;generalize padR l=M at*
 obtain⟨MN,eMN⟩:∃MN,M.map UInt8.toNat=MN:=⟨_,rfl⟩
 rw[eMN];have hMN:MN.length=M.length:=by rw[<-eMN,List.length_map]
 have eM:(zaq M).length=M.length:=zdq M;refine gI 15 O (λR k0=>gC 0 O (hpad) (gC 5 O (words_s) (zfq 11 O ?_)));refine qJq (α:=S8×Nat) (λp=>p.1.Ok/\64*p.2<=M.length/\q7q MN.length s0 MN=q7q (MN.drop (64*p.2)).length p.1 (MN.drop (64*p.2))) (λp=>[(6,.int .i64 ((64*p.2:Nat):Int))]) [(2,_),(3,_),(4,_),(5,_)] (λp=>sumH p.1) (λp=>M.length-64*p.2) ((s0,0)) ⟨rfl,rfl,rfl,rfl,trivial⟩ (⟨s0_ok,Nat.zero_le _,rfl⟩) ⟨rfl,trivial⟩ (rfl) (λp hI=>?_);obtain⟨s,i⟩:=p;obtain⟨hs,hi,heat⟩:=hI;simp only at hs hi heat⊢;refine zPq 5 O (gV (w':=.int .i64 (M.length:Int)) 0 O (by rw[<-eM];rfl) ?_);refine gS 3 O (λh1=>?_) (λh1=>?_)
 ·have h1:((64*i:Nat):Int)<(M.length:Int):=h1;have hi2:64*i+64<=M.length:=by omega
  have hblk:((M.drop (64*i)).take 64).length=64:=by rw[List.length_take,List.length_drop];omega
  have ey:((zaq M).drop (64*i)).take (64*i+64-64*i)=zaq ((M.drop (64*i)).take 64):=by
   rw[show 64*i+64-64*i=64 by omega];simp[zaq,List.map_take,List.map_drop]
  obtain⟨ws,ews⟩:∃ws,yrq (bsL ((M.drop (64*i)).take 64)) 64=ws:=⟨_,rfl⟩
  have hws:ws.length=64:=by rw[<-ews];exact ucq _ _
  have hsch:=λg=>sched_s (G:=G) ((M.drop (64*i)).take 64) g hblk
  rw[ews] at hsch;have hW:∀t,t<64->(ws.map wd)[0+t*1]? =some (wd (ws.getD t 0)):=λt ht=>by rw[Nat.zero_add,Nat.mul_one];exact Zxq Xd
  have hK:∀t,t<64->(kW.map wd)[0+t*1]? =some (wd (kW.getD t 0)):=λt ht=>by rw[Nat.zero_add,Nat.mul_one];exact Zxq (by rw[kW_len];exact ht)
  have hnew:jHq (bsL ((M.drop (64*i)).take 64)) s=jHq (atL (MN.drop (64*i))) s:=by rw[<-eMN];exact QGq (bsL_blk M i) s
  have hadd:mix8 s (ueq ws s 64) 8=(jHq (atL (MN.drop (64*i))) s).l:=by rw[<-hnew,<-ews];rfl
  refine gA 9 O (64*i+64) (gP 0 O (xhq (ys:=zaq ((M.drop (64*i)).take 64)) (l:=64*i) (h:=64*i+64) O O O O O O O Xd Xd ey rfl) (op_ps O O O O O O (hsch _) Xh (show purL (ws.map wd)=true from y1q (λx=>rfl) ws) (ziq 18 O ?_)));refine qJq (α:=Nat) (λt=>t<=64) (λt=>[(9,.int .i64 (t:Int))]) [(2,_),(3,_),(4,_),(5,_),(6,_),(7,_),(8,_),(18,_),(19,_),(20,_),(21,_),(24,_),(25,_),(26,_),(27,_),(28,_),(29,_),(30,_)] (λt=>sumH2 (ueq ws s t) ws s.l) (λt=>64-t) (0) ⟨rfl,rfl,rfl,rfl,rfl,rfl,rfl,rfl,rfl,rfl,rfl,rfl,rfl,rfl,rfl,rfl,rfl,rfl,trivial⟩ (Nat.zero_le _) ⟨rfl,trivial⟩ (rfl) (λt hI=>?_);refine zPq 7 O ?_;refine gS 0 O (λh2=>?_) (λh2=>?_)
  ·have ht:t<64:=by omega
   obtain⟨v,ev⟩:∃v,ueq ws s t=v:=⟨_,rfl⟩
   have hv:v.Ok:=by rw[<-ev];exact rounds_ok hs ws t
   have hKt:=hK t ht;have hWt:=hW t ht;have hnx:ueq ws s (t+1)=roundN (kW.getD t 0) (ws.getD t 0) v:=by rw[<-ev];rfl
   rw[ev];generalize kW.getD t 0=kt at*
   generalize ws.getD t 0=wt at*
   refine gP 7 O (zMq (i:=t) O O O O O O Xd) (gM 0 O (ybq O O O (y0q hKt rfl)) (gP 1 O (zMq (i:=t) O O O O O O Xd) (gM 0 O (ybq O O O (y0q hWt rfl)) (fl_ps O O O O O O (rround_s v hv kt wt) O O Xu (yaq 6 O (gA 0 O (t+1) (zfq 2 O ?_)))))));skip
   exact jvq (t+1) ht Xd ⟨rfl,trivial⟩ Yt (by rw[hnx];rfl)
  ·have ht:t=64:=by omega
   subst ht;obtain⟨v,ev⟩:∃v,ueq ws s 64=v:=⟨_,rfl⟩
   rw[ev] at hadd⊢;refine zfq 2 O (y3q Xi (zHq 8 O ?_));refine qJq (α:=Nat) (λj=>j<=8) (λj=>[(10,.int .i64 (j:Int))]) [(2,_),(3,_),(4,_),(5,_),(6,_),(7,_),(8,_),(9,_),(18,_),(19,_),(20,_),(21,_),(24,_),(25,_),(26,_),(27,_),(28,_),(29,_),(30,_),(31,_),(32,_)] (λj=>sumH2 v ws (mix8 s v j)) (λj=>8-j) (0) ⟨rfl,rfl,rfl,rfl,rfl,rfl,rfl,rfl,rfl,rfl,rfl,rfl,rfl,rfl,rfl,rfl,rfl,rfl,rfl,rfl,rfl,trivial⟩ (Nat.zero_le _) ⟨rfl,trivial⟩ (rfl) (λj hI=>?_);refine zPq 7 O ?_;refine gS 0 O (λh3=>?_) (λh3=>?_)
   ·have hj:j<8:=by omega
    have hq:j=0\/j=1\/j=2\/j=3\/j=4\/j=5\/j=6\/j=7:=by omega
    have g1:(mix8 s v j)[0+j*1]? =some (wd (s.get j)):=by rcases hq with rfl|rfl|rfl|rfl|rfl|rfl|rfl|rfl<;>rfl
    have g2:v.l[0+j*1]? =some (wd (v.get j)):=S8_at v hj;have g3:(mix8 s v j).set (0+j*1) (wd (addN (s.get j) (v.get j)))=mix8 s v (j+1):=by rcases hq with rfl|rfl|rfl|rfl|rfl|rfl|rfl|rfl<;>rfl
    generalize s.get j=x at*
    generalize v.get j=y at*
    refine gP 6 O (zMq (i:=j) O O O O O O Xd) (gM 0 O (ybq O O O (y0q g1 rfl)) (gP 1 O (zMq (i:=j) O O O O O O Xd) (gM 0 O (ybq O O O (y0q g2 rfl)) (gV (w':=wd (addN x y)) 0 O O (gP 0 O (zMq (i:=j) O O O O O O Xd) (gM 0 O (jtq O O O O O (qFq g1 O O) rfl) (gA 5 O (j+1) (zfq 2 O ?_))))))));skip
    exact jvq (j+1) hj Xd ⟨rfl,trivial⟩ Yt (congrArg (λL=>sumH2 v ws L) g3)
   ·have hj:j=8:=by omega
    subst hj;rw[hadd];refine zfq 2 O (y3q Xi (zHq 5 O (gA 0 O (64*i+64) (zfq 2 O ?_))));skip
    exact q_againH (jHq (atL (MN.drop (64*i))) s,i+1) ⟨block_ok _ _,by simp only;omega,by rw[heat,viq Xq,List.drop_drop];rfl⟩ Yf (Nat.zero_le _) ⟨rfl,trivial⟩ Yt Xg Xg Xd Xj (by show([2,1,0]:List Nat).Nodup;decide)
 ·have h1:¬((64*i:Nat):Int)<(M.length:Int):=h1;have hend:q7q MN.length s0 MN=s:=by rw[heat,List.drop_of_length_le Xd];rfl
  rw[hend];refine zfq 2 O (y3q Xi (zHq 14 O ?_));refine qJq (α:=Nat) (λa=>a<=8) (λa=>[(12,.int .i64 (a:Int))]) [(2,_),(3,_),(11,_)] (λa=>(3,29,.arr 32 1 (bN (dI s (4*a))))::sumH s) (λa=>8-a) (0) ⟨rfl,rfl,rfl,trivial⟩ (Nat.zero_le _) ⟨rfl,trivial⟩ (rfl) (λa hI=>?_);refine zPq 7 O ?_;refine gS 0 O (λh2=>?_) (λh2=>?_)
  ·have ha:a<8:=by omega
   refine zfq 10 O ?_;refine qJq (α:=Nat) (λb=>b<=4) (λb=>[(13,.int .i64 (b:Int))]) [(2,_),(3,_),(11,_),(12,_),(55,_),(56,_)] (λb=>(3,29,.arr 32 1 (bN (dI s (4*a+b))))::sumH s) (λb=>4-b) (0) ⟨rfl,rfl,rfl,rfl,rfl,rfl,trivial⟩ (Nat.zero_le _) ⟨rfl,trivial⟩ (rfl) (λb hI=>?_);refine zPq 7 O ?_;refine gS 0 O (λh3=>?_) (λh3=>?_)
   ·have hb:b<4:=by omega
    have hdv:(4*a+b)/4=a:=by omega
    have hmd:(4*a+b)%4=b:=by omega
    have hset:=dI_set s (i:=4*a+b) Xd;rw[hdv,hmd] at hset;refine gA 6 O (4*a) (gA 1 O (4*a+b) (gP 1 O (zMq (i:=a) O O O O O O Xd) (gM 0 O (ybq O O O (y0q (S8_at s ha) rfl)) (gA 1 O (8*b) (gA 0 O (24-8*b) (gA 0 O (24-8*b) (gV (w':=wd (Nat.shiftRight (s.get a) (min (24-8*b) 32))) 0 O O (gV (w':=.int .u8 (.ofNat (Nat.shiftRight (s.get a) (min (24-8*b) 32)%256))) 0 O O (gP 0 O (zMq (i:=4*a+b) O O O O O O Xd) (gM 0 O (jtq O O O O O (qFq (dI_at s Xd) O O) rfl) (gA 5 O (b+1) (zfq 2 O ?_))))))))))));skip
    exact jvq (b+1) hb Xd ⟨rfl,trivial⟩ Yt (congrArg (λL=>(3,29,W.arr 32 1 L)::sumH s) hset)
   ·have hb:b=4:=by omega
    subst hb;refine zfq 2 O (y3q Xi (zHq 5 O (gA 0 O (a+1) (zfq 2 O ?_))));skip
    exact jvq (a+1) ha Xd ⟨rfl,trivial⟩ Yt rfl
  ·have ha:a=8:=by omega
   subst ha;refine zfq 2 O (y3q Xi (zHq 9 O ?_));have ed:dI s 32=digN s:=by simp[dI,List.take_of_length_le,v3q]
   exact gQ 0 O (by rw[<-ed])
theorem rtbytes_s(kind:UInt8)(ps:List (List UInt8))(f:Bool)(hn:ps.length<1000000)(hb:∀p∈ps,p.length<1000000):PS cfg G 322 [.int .u8 (.ofNat kind.toNat),.fz (ps.map bW) 1 f] (bW (tagB kind ps)):=by
 have e:(ps.map bW).length=ps.length:=List.length_map _;have htm:∀n:Nat,n<4294967296->((n:Int)).tmod 4294967296=(n:Int):=λn hn=>by rw[Int.tmod_eq_emod_of_nonneg Xd];omega
 refine gIv 19 O (λR k0=>?_);refine co_loopG1 (α:=Nat) (λi=>i<=ps.length) 5 (λi=>zaq (kind::(ps.take i).flatMap xIq)) 5 1 (λi=>[(6,.int .i64 (i:Int))]) [(1,_),(4,_)] ([]) 0 0 (λi=>ps.length-i) (0) ⟨rfl,rfl,trivial⟩ (Nat.zero_le _) ⟨rfl,trivial⟩ Xd Xd Ym Qt rfl Qt Xg Xg rfl Xk Xj Ya (λi hI=>?_);refine zPq 5 O (gV (w':=.int .i64 (ps.length:Int)) 0 O Xv ?_);refine gS 3 O (λh1=>?_) (λh1=>?_)
 ·have hi:i<ps.length:=by omega
  obtain⟨x,hx⟩:∃x,ps[i]? =some x:=⟨_,List.getElem?_eq_getElem hi⟩
  have hxl:=hb x (List.mem_of_getElem? hx);have hfl:((ps.take i).flatMap xIq).length<=i*1000004:=Ksq i hb;have hL:(zaq (kind::(ps.take i).flatMap xIq)).length<=1+i*1000004:=by rw[zdq,List.length_cons];omega
  have hN:(zaq (beB 4 x.length)).length=4:=by rw[zdq,ylq]
  have hnx:zaq (kind::(ps.take (i+1)).flatMap xIq)=(zaq (kind::(ps.take i).flatMap xIq)++zaq (beB 4 x.length))++zaq x:=by
   rw[List.take_add_one,hx,<-yPq,<-yPq];congr 1
   simp[xIq,Nat.mod_eq_of_lt (show x.length<4294967296 by omega)]
  skip
  cases x with
  |nil=>
   refine yiq 8 O (gP 0 O (zuq (i:=i) O O O O O O O (zpq bW hx)) (gV (w':=.int .i64 (([]:List UInt8).length:Int)) 1 O (by show W.int .i64 ((zaq (([]:List UInt8))).length:Int)=_;rw[zdq]) (gV (w':=.int .u64 (([]:List UInt8).length:Int)) 1 O O ?_)))
   (refine znq rfl (qxq O O O O O O (yRq ([]:List UInt8).length 4 Xm Xd) ?_);rintro w hp1 nw1 ⟨rfl,rfl,rfl⟩)
   exact ziq 11 O (gM 0 O (z5q O O (jmq [_] (k:=ti5) (news:=zaq (beB 4 ([]:List UInt8).length)) O O O O O (z6q O O O (zhq Xm hN.symm rfl)) Ys Je Qv rfl (by simp[numC]))) (gP 7 O (zuq (i:=i) O O O O O O O (zpq bW hx)) (gM 1 O (z5q O O (xVq (k:=ti5) O O O O O)) (gA 6 O (i+1) (zfq 2 O (q8q 2 (i+1) (hi) Xd (Nat.zero_le _) (by rw[hnx];exact List.append_nil _) Xw Xd Ym rfl Xy ⟨rfl,trivial⟩ ⟨rfl,rfl,trivial⟩ Xg Xg rfl Xk Xj Ya))))))
  |cons c x=>
   refine yiq 8 O (gP 0 O (zuq (i:=i) O O O O O O O (zpq bW hx)) (gV (w':=.int .i64 ((c::x).length:Int)) 1 O (by show W.int .i64 ((zaq ((c::x))).length:Int)=_;rw[zdq]) (gA 0 O ((c::x).length) (gV (w':=.int .u64 ((c::x).length:Int)) 0 O (congrArg (W.int .u64) (htm _ Xd)) ?_))))
   (refine znq rfl (qxq O O O O O O (yRq (c::x).length 4 Xd Xd) ?_);rintro w hp1 nw1 ⟨rfl,rfl,rfl⟩)
   exact ziq 11 O (gM 0 O (z5q O O (jmq [_] (k:=ti5) (news:=zaq (beB 4 (c::x).length)) O O O O O (z6q O O O (zhq Xm hN.symm rfl)) Ys Je Qv rfl (by simp[numC]))) (gP 7 O (zuq (i:=i) O O O O O O O (zpq bW hx)) (gM 1 O (z5q O O (y9q (k:=ti5) (len:=(zaq (kind::(ps.take i).flatMap xIq)++zaq (beB 4 (c::x).length)).length) (news:=zaq (c::x)) (olds:=zaq (kind::(ps.take i).flatMap xIq)++zaq (beB 4 (c::x).length)) O O O O O Qt (by rw[List.length_append,hN,zdq (c::x)];show(_+_)*1<=_;omega) (by rw[List.length_append,hN,zdq (c::x)];omega) rfl Qh rfl (zhq Xm O O))) (gA 6 O (i+1) (zfq 2 O (q8q 3 (i+1) (hi) Xd (Nat.zero_le _) (hnx) Xw Xd Ym rfl Xy ⟨rfl,trivial⟩ ⟨rfl,rfl,trivial⟩ Xg Xg rfl Xk Xj Ya))))))
 ·have hi:i=ps.length:=by omega
  subst hi;refine zfq 2 O (y3q Xi (zHq 9 O (qZq Xt O ?_)));rw[List.take_length];exact xZq (H0:=[]) Xm Xh Xh
theorem JYq(kind:UInt8)(ps:List (List UInt8))(f:Bool)(hn:ps.length<1000)(hb:∀p∈ps,p.length<1000000):PS cfg G 262 [.int .u8 (.ofNat kind.toNat),.fz (ps.map bW) 1 f] (dW (tagD kind ps)):=by
 have hl:=tag_le kind ps hb;exact gI 9 O (λR k0=>gC 0 O (rtbytes_s kind ps f Xd hb) (gC 0 O (rsum_s (tagB kind ps) false Xd) (gQa 4 O)))
theorem udq(kind:UInt8)(a:List UInt8)(hb:a.length<1000000):PS cfg G 211 [.int .u8 (.ofNat kind.toNat),bW a] (dW (tagD kind [a])):=by
 refine gI 10 O (λR k0=>?_);refine xJq O O O O O (by(repeat (first|exact .nil|refine .cons ?_ ?_|(refine .sl O ?_ rfl Xi;first|rfl|(focus (simp;done)))|(refine yKq O ?_ rfl;first|rfl|(focus (simp;done)))|(refine .pur ?_;first|rfl|(focus (simp;done)))))) (JYq kind [a] false Xh Xq) Xk Xk ?_;exact ziq 4 O (gQa 0 O)
theorem rkey_s(k:Dig):PS cfg G 352 [dW k] (dW (keyD k)):=by
 exact gI 9 O (λR k0=>xJq O O O O O (.cons (.pur rfl) (.cons (.sl (full:=false) (xs:=zaq k.1) rfl Xh (zhq Xm (by simp[zdq,k.2]) rfl) Xi) .nil)) (udq 3 k.1 (by simp[k.2])) Xk Xk (ziq 4 O (gQa 0 O)))
theorem inA_ok(ps:List Pr)(k:Dig):(inA ps k).ok:=by
 unfold inA;split
 ·exact J4q _
 ·exact⟨Nat.zero_lt_succ _,Nat.zero_lt_succ _⟩
theorem J1q(ps:List Pr)(f:Bool)(k:Dig)(c:Nat)(hc:c<18446744073709551616)(hb:ps.length<=1000000)(hv:∀x∈ps,x.2.length<=70368744177664):PS cfg G 323 [.fz (ps.map pW) 33 f,dW k,.int .u64 (c:Int)] (if 18446744073709551616<=(inA ps k).balance+c then .tup [.nils,.bool false] else .tup [psW (QOq ps k ⟨(inA ps k).nonce,(inA ps k).balance+c⟩),.bool true]):=by
 obtain⟨h0,hA⟩:=inA_ok ps k;refine gI 11 O (λR k0=>gC 0 O (Z8q _ _ _ Xd) (gA 10 O (18446744073709551615-(inA ps k).balance) ?_));refine gS 3 O (λh1=>?_) (λh1=>?_)
 ·have h1:((18446744073709551615-(inA ps k).balance:Nat):Int)<(c:Int):=h1;exact gQ 8 O (by rw[if_pos Xd])
 ·have h1:¬((18446744073709551615-(inA ps k).balance:Nat):Int)<(c:Int):=h1;have hs:(inA ps k).balance+c<18446744073709551616:=by omega
  exact gA 7 O ((inA ps k).balance+c) (gC 9 O (J5q ps f k ⟨(inA ps k).nonce,(inA ps k).balance+c⟩ ⟨h0,hs⟩ hb hv) (gQ 5 O (by rw[if_neg Xd])))
theorem rgiven_s(ps:List Pr)(d:Depo)(hc:d.amount<18446744073709551616)(hb:ps.length<=1000000)(hv:∀x∈ps,x.2.length<=70368744177664):PS cfg G 264 [psW ps,pdW d] (if 18446744073709551616<=(inA ps d.to).balance+d.amount then .tup [psW ps,.int .i64 151] else .tup [psW (QOq ps d.to ⟨(inA ps d.to).nonce,(inA ps d.to).balance+d.amount⟩),.int .i64 0]):=by
 by_cases ho:18446744073709551616<=(inA ps d.to).balance+d.amount
 ·rw[if_pos ho];exact gI 14 O (λR k0=>gC 0 O (zzq (w':=.tup [.nils,.bool false]) (J1q ps false d.to d.amount hc hb hv) (by rw[if_pos ho])) (gQa 24 O))
 ·rw[if_neg ho];exact gI 14 O (λR k0=>gC 0 O (zzq (w':=.tup [psW (QOq ps d.to ⟨(inA ps d.to).nonce,(inA ps d.to).balance+d.amount⟩),.bool true]) (J1q ps false d.to d.amount hc hb hv) (by rw[if_neg ho])) (gQa 25 O))
theorem tx_sub(x:Tx):yBq 50 (txW x) 0 32 1=some (zaq x.pub.1)/\yBq 50 (txW x) 32 32 1=some (zaq x.to.1):=by
 have h:∀d:Dig,(zaq d.1).length=32:=λd=>by rw[zdq,d.2]
 constructor
 ·show some (((zaq x.pub.1).drop (0/1)).take 32)=_;rw[show 0/1=0 from rfl,List.drop_zero,List.take_of_length_le (by rw[h];omega)]
 ·show some (((zaq x.to.1).drop (0/1)).take 32)=_;rw[show 0/1=0 from rfl,List.drop_zero,List.take_of_length_le (by rw[h];omega)]
theorem rbody_s(x:Tx)(hx:x.ok):PS cfg G 278 [txW x] (bW (yXq x)):=by
 have h1:=hx.nonce;have h2:=hx.amount;have h3:=hx.fee;have l1:(zaq x.pub.1).length=32:=by rw[zdq,x.pub.2]
 have l2:(zaq x.to.1).length=32:=by rw[zdq,x.to.2]
 have n1:(zaq (beB 8 x.nonce)).length=8:=by rw[zdq,ylq]
 have n2:(zaq (beB 8 x.amount)).length=8:=by rw[zdq,ylq]
 have n3:(zaq (beB 8 x.fee)).length=8:=by rw[zdq,ylq]
 have eb:zaq (yXq x)=(((zaq x.pub.1++zaq x.to.1)++zaq (beB 8 x.nonce))++zaq (beB 8 x.amount))++zaq (beB 8 x.fee):=by simp[yXq,zaq]
 refine gIv 16 O (λR k0=>gM 0 O (z5q O O (kQq (k:=ti5) (news:=zaq x.pub.1) O O O O (z6q O O O (tx_sub x).1) (by intro h;rw[h] at l1;cases l1) (by rw[l1];decide) (by rw[l1];decide))) (gM 8 O (z5q O O (y9q (k:=ti5) (len:=(zaq x.pub.1).length) (news:=zaq x.to.1) (olds:=zaq x.pub.1) O O O O (z6q O O O (tx_sub x).2) Jb (by rw[l1,l2];decide) (by rw[l1,l2];decide) rfl (by show(zaq x.pub.1).length*1<0+(_+_)*1;rw[l1,l2];decide) rfl (zhq Xm O O))) (zfq 7 O ?_)))
 ((refine znq rfl (y2q O O O O O O (yRq _ 8 Xr Xd) ?_);rintro w hp1 nw1 ⟨rfl,rfl,rfl⟩))
 refine ziq 11 O ?_
 ((refine znq rfl (y2q O O O O O O (yRq _ 8 Xr Xd) ?_);rintro w hp1 nw1 ⟨rfl,rfl,rfl⟩))
 refine ziq 11 O ?_
 ((refine znq rfl (y2q O O O O O O (yRq _ 8 Xr Xd) ?_);rintro w hp1 nw1 ⟨rfl,rfl,rfl⟩))
 exact ziq 11 O (gM 0 O (z5q O O (y9q (k:=ti5) (len:=(zaq x.pub.1).length+(zaq x.to.1).length) (news:=zaq (beB 8 x.nonce)) (olds:=zaq x.pub.1++zaq x.to.1) O O O O (z6q O O O (zhq Xm n1.symm rfl)) (by intro h;rw[h] at n1;cases n1) (by rw[l1,l2,n1];decide) (by rw[l1,l2,n1];decide) rfl (by show(_+_)*1<0+(_+_)*1;rw[l1,l2,n1];decide) rfl (zhq Xm List.length_append.symm rfl))) (gM 7 O (z5q O O (y9q (k:=ti5) (len:=(zaq x.pub.1).length+(zaq x.to.1).length+(zaq (beB 8 x.nonce)).length) (news:=zaq (beB 8 x.amount)) (olds:=(zaq x.pub.1++zaq x.to.1)++zaq (beB 8 x.nonce)) O O O O (z6q O O O (zhq Xm n2.symm rfl)) (by intro h;rw[h] at n2;cases n2) (by rw[l1,l2,n1,n2];decide) (by rw[l1,l2,n1,n2];decide) rfl (by show(_+_)*1<0+(_+_)*1;rw[l1,l2,n1,n2];decide) rfl (zhq Xm (by rw[List.length_append,List.length_append]) rfl))) (gM 7 O (z5q O O (y9q (k:=ti5) (len:=(zaq x.pub.1).length+(zaq x.to.1).length+(zaq (beB 8 x.nonce)).length+(zaq (beB 8 x.amount)).length) (news:=zaq (beB 8 x.fee)) (olds:=((zaq x.pub.1++zaq x.to.1)++zaq (beB 8 x.nonce))++zaq (beB 8 x.amount)) O O O O (z6q O O O (zhq Xm n3.symm rfl)) (by intro h;rw[h] at n3;cases n3) (by rw[l1,l2,n1,n2,n3];decide) (by rw[l1,l2,n1,n2,n3];decide) rfl (by show(_+_)*1<0+(_+_)*1;rw[l1,l2,n1,n2,n3];decide) rfl (zhq Xm (by rw[List.length_append,List.length_append,List.length_append]) rfl))) (zfq 4 O (qZq Jw O (.sl (full:=false) (xs:=zaq (yXq x)) rfl (show purL ((((zaq x.pub.1++zaq x.to.1)++zaq (beB 8 x.nonce))++zaq (beB 8 x.amount))++zaq (beB 8 x.fee))=true by rw[<-eb];simp) (by rw[eb,l1,l2,n1,n2,n3];exact zhq Xm (by simp[l1,l2,n1,n2,n3]) rfl) Xi))))))
theorem Jaq(x:Tx)(hx:x.ok):PS cfg G 200 [txW x] (.int .i64 (if x.sign=j3q x then 0 else 110)):=by
 have hb:=xTq x;refine ps_in (fn:=Tryz.f200) O O O (Ob rfl) (λR k0=>?_);by_cases h:x.sign=j3q x
 ·rw[if_pos h];skip
  exact zPq 12 O (gC 0 O (rbody_s x hx) (gC 0 O (udq 4 (yXq x) Xd) (x3q (w':=.bool false) rfl (yWq O O O O (yNq O O O O O O x.sign (j3q x) 250)) (by rw[decide_eq_true h];rfl) (yaq 11 O (gQa 0 O)))))
 ·rw[if_neg h];exact zPq 12 O (gC 0 O (rbody_s x hx) (gC 0 O (udq 4 (yXq x) Xd) (x3q (w':=.bool true) rfl (yWq O O O O (yNq O O O O O O x.sign (j3q x) 250)) (by rw[decide_eq_false h];rfl) (yaq 10 O (gQa 0 O)))))
theorem uZq(x:Tx):PS cfg G 324 [txW x] (dW (keyD x.pub)):=by
 exact gI 10 O (λR k0=>gC 0 O (rkey_s x.pub) (gQa 4 O))
theorem uyq(l:List Pr)(k:Dig):acL l k=inA l k:=by
 unfold acL inA;cases jhq l k<;>rfl
theorem rnext_s(ps:List Pr)(f:Bool)(x:Tx)(hx:x.ok)(hb:ps.length<=1000000):PS cfg G 266 [.fz (ps.map pW) 33 f,txW x] (.bool (decide (x.nonce=(acL ps (keyD x.pub)).nonce/\x.nonce<18446744073709551615))):=by
 have h1:=hx.nonce;rw[uyq];refine ps_in (fn:=Tryz.f266) O O O (Ob rfl) (λR k0=>?_);by_cases q:x.nonce=(inA ps (keyD x.pub)).nonce
 ·skip
  by_cases q2:x.nonce<18446744073709551615
  ·rw[decide_eq_true ⟨q,q2⟩];skip
   exact zPq 12 O (gC 0 O (uZq _) (gC 0 O (Z8q ps f (keyD x.pub) Xd) (gT 1 O (eqI_iff.2 Qb) (gT 3 O (ltI_iff.2 Xd) (gQa 5 O)))))
  ·rw[decide_eq_false λh=>q2 h.2];exact zPq 12 O (gC 0 O (uZq _) (gC 0 O (Z8q ps f (keyD x.pub) Xd) (gT 1 O (eqI_iff.2 Qb) (gF 3 O (ltI_not.2 Xd) (gQa 5 O)))))
 ·rw[decide_eq_false λh=>q h.1];exact zPq 12 O (gC 0 O (uZq _) (gC 0 O (Z8q ps f (keyD x.pub) Xd) (gF 1 O (eqI_not.2 Xd) (gQa 9 O))))
theorem rmoreL_no{l:List Pr}{k:Dig}{c:Nat}(h:quq l k c=none)(hc:c<18446744073709551616)(hb:l.length<=1000000)(hv:∀x∈l,x.2.length<=70368744177664):PS cfg G 323 [psW l,dW k,.int .u64 (c:Int)] (.tup [.nils,.bool false]):=by
 refine zzq (J1q l false k c hc hb hv) ?_;unfold quq at h;split at h
 ·cases h
 ·rename_i q;rw[if_pos (by rw[<-uyq];omega)]
theorem J2q{l q:List Pr}{k:Dig}{c:Nat}(hs:Srt l)(h:quq l k c=some q)(hc:c<18446744073709551616)(hb:l.length<=1000000)(hv:∀x∈l,x.2.length<=70368744177664):PS cfg G 323 [psW l,dW k,.int .u64 (c:Int)] (.tup [psW q,.bool true]):=by
 refine zzq (J1q l false k c hc hb hv) ?_;unfold quq at h;split at h
 ·rename_i g;rw[if_neg (by rw[<-uyq];omega),<-uyq,vrq hs,Option.some.inj h]
 ·cases h
def Few(n:Nat)(l:List Pr):Prop:=l.length<=n/\∀x∈l,x.2.length<=70368744177664
theorem few_set{n:Nat}{l:List Pr}(hs:Srt l)(h:Few n l)(k:Dig)(a:Acct):Few (n+1) (setL l k a):=by
 have hw:Few n (zxq l k):=⟨Nat.le_trans (List.length_filter_le ..) h.1,λx hx=>h.2 x (List.mem_filter.1 hx).1⟩;unfold setL;split
 ·exact⟨Nat.le_succ_of_le hw.1,hw.2⟩
 ·rw[<-JIq hs];unfold withR;have e:=List.takeWhile_append_dropWhile (p:=λp:Pr=>zOq p.1 k) (l:=zxq l k);generalize (zxq l k).takeWhile (λp=>zOq p.1 k)=A at*
  generalize (zxq l k).dropWhile (λp=>zOq p.1 k)=B at*
  rw[<-e] at hw;obtain⟨g1,g2⟩:=hw;have lb:=uNq a;refine⟨by simp only[List.length_append,List.length_cons] at g1⊢;omega,λx hx=>?_⟩;rcases List.mem_append.1 hx with q|q
  ·exact g2 x (List.mem_append_left _ q)
  ·rcases List.mem_cons.1 q with rfl|q
   ·show(qKq a).length<=_;omega
   ·exact g2 x (List.mem_append_right _ q)
theorem rpaid_s(l:List Pr)(hs:Srt l)(hb:Few 500000 l)(x:Tx)(hx:x.ok)(box:Dig)(hn:(acL l (keyD x.pub)).nonce+1<18446744073709551616):PS cfg G 267 [psW l,txW x,dW box] (.tup [psW (yHq l x box).1,.int .i64 ((yHq l x box).2:Nat)]):=by
 have h2:=hx.amount;have h3:=hx.fee;obtain⟨g1,g2⟩:=acL_ok l (keyD x.pub);have nS:Srt (jWq l x):=uWq hs _ _;have nF:Few 500001 (jWq l x):=few_set hs hb _ _;have lS:Srt (jXq l x):=uWq nS _ _;have lF:Few 500002 (jXq l x):=few_set nS nF _ _;have w1:PS cfg G 325 [psW l,dW (keyD x.pub),aW ⟨(acL l (keyD x.pub)).nonce+1,(acL l (keyD x.pub)).balance⟩] (psW (jWq l x)):=zzq (J5q l false (keyD x.pub) ⟨(acL l (keyD x.pub)).nonce+1,(acL l (keyD x.pub)).balance⟩ ⟨hn,g2⟩ (Nat.le_trans hb.1 Xd) hb.2) (by rw[vrq hs];rfl);have w2:PS cfg G 325 [psW (jWq l x),dW (keyD x.pub),aW ⟨(acL l (keyD x.pub)).nonce+1,(acL l (keyD x.pub)).balance-(x.amount+x.fee)⟩] (psW (jXq l x)):=zzq (J5q (jWq l x) false (keyD x.pub) ⟨(acL l (keyD x.pub)).nonce+1,(acL l (keyD x.pub)).balance-(x.amount+x.fee)⟩ ⟨hn,by show(acL l (keyD x.pub)).balance-(x.amount+x.fee)<18446744073709551616;omega⟩ (Nat.le_trans nF.1 Xd) nF.2) (by rw[vrq nS];rfl);by_cases ho:x.amount+x.fee<=(acL l (keyD x.pub)).balance
 ·cases hm:quq (jXq l x) x.to x.amount with
  |none=>
   rw[Jgq ho hm];refine gI 11 O (λR k0=>gC 0 O (uZq _) ?_);first|refine gC 8 O (zzq (Z8q l false (keyD x.pub) (Nat.le_trans hb.1 Xd)) (by rw[<-uyq])) ?_|refine gC 8 O (Z8q ps f (keyD x.pub) Xd) ?_
   exact gA 8 O ((acL l (keyD x.pub)).nonce+1) (gC 9 O w1 (gA 10 O (18446744073709551615-x.fee) (gF 0 O (ltI_not.2 Xd) (gA 5 O (x.amount+x.fee) (gF 2 O (ltI_not.2 Xd) (gA 14 O (x.amount+x.fee) (gA 0 O ((acL l (keyD x.pub)).balance-(x.amount+x.fee)) (gC 9 O w2 (gC 4 O (rmoreL_no hm h2 (Nat.le_trans lF.1 Xd) lF.2) (gTa 11 O (gQa 12 O)))))))))))
  |some p=>
   have pS:Srt p:=(u7q lS hm).1
   have pF:Few 500003 p:=by
    unfold quq at hm;split at hm
    ·rw[<-Option.some.inj hm];exact few_set lS lF _ _
    ·cases hm
   cases hm2:quq p box x.fee with
   |none=>
    rw[Jfq ho hm hm2];refine gI 11 O (λR k0=>gC 0 O (uZq _) ?_);first|refine gC 8 O (zzq (Z8q l false (keyD x.pub) (Nat.le_trans hb.1 Xd)) (by rw[<-uyq])) ?_|refine gC 8 O (Z8q ps f (keyD x.pub) Xd) ?_
    exact gA 8 O ((acL l (keyD x.pub)).nonce+1) (gC 9 O w1 (gA 10 O (18446744073709551615-x.fee) (gF 0 O (ltI_not.2 Xd) (gA 5 O (x.amount+x.fee) (gF 2 O (ltI_not.2 Xd) (gA 14 O (x.amount+x.fee) (gA 0 O ((acL l (keyD x.pub)).balance-(x.amount+x.fee)) (gC 9 O w2 (gC 4 O (J2q lS hm h2 (Nat.le_trans lF.1 Xd) lF.2) (gFa 11 O (gC 11 O (rmoreL_no hm2 h3 (Nat.le_trans pF.1 Xd) pF.2) (gTa 11 O (gQa 12 O)))))))))))))
   |some q=>
    rw[Jeq ho hm hm2];refine gI 11 O (λR k0=>gC 0 O (uZq _) ?_);first|refine gC 8 O (zzq (Z8q l false (keyD x.pub) (Nat.le_trans hb.1 Xd)) (by rw[<-uyq])) ?_|refine gC 8 O (Z8q ps f (keyD x.pub) Xd) ?_
    exact gA 8 O ((acL l (keyD x.pub)).nonce+1) (gC 9 O w1 (gA 10 O (18446744073709551615-x.fee) (gF 0 O (ltI_not.2 Xd) (gA 5 O (x.amount+x.fee) (gF 2 O (ltI_not.2 Xd) (gA 14 O (x.amount+x.fee) (gA 0 O ((acL l (keyD x.pub)).balance-(x.amount+x.fee)) (gC 9 O w2 (gC 4 O (J2q lS hm h2 (Nat.le_trans lF.1 Xd) lF.2) (gFa 11 O (gC 11 O (J2q pS hm2 h3 (Nat.le_trans pF.1 Xd) pF.2) (gFa 11 O (gQa 13 O)))))))))))))
 ·rw[uHq ho];refine gI 11 O (λR k0=>gC 0 O (uZq _) ?_);first|refine gC 8 O (zzq (Z8q l false (keyD x.pub) (Nat.le_trans hb.1 Xd)) (by rw[<-uyq])) ?_|refine gC 8 O (Z8q ps f (keyD x.pub) Xd) ?_
  refine gA 8 O ((acL l (keyD x.pub)).nonce+1) (gC 9 O w1 (gA 10 O (18446744073709551615-x.fee) ?_));refine gD 0 O (λh1=>?_) (λh1=>?_)
  ·exact gQa 22 O
  ·have q1:¬((18446744073709551615-x.fee:Nat):Int)<(x.amount:Int):=h1;exact gA 5 O (x.amount+x.fee) (gT 2 O (ltI_iff.2 Xd) (gQa 13 O))
theorem rhof_s(h:Hdr)(hh:okH h):PS cfg G 212 [hdW h] (bW (hdB h)):=by
 obtain⟨i,p,s,r,j⟩:=h;obtain⟨h1,h2,h3,h4⟩:=hh;obtain⟨n,rfl⟩:=Int.eq_ofNat_of_zero_le h1;obtain⟨m,rfl⟩:=Int.eq_ofNat_of_zero_le h3;simp only at h2 h4;have e:hdB ⟨(n:Int),p,s,r,(m:Int)⟩=(((beB 8 n++p.1)++s.1)++r.1)++beB 4 m:=by simp[hdB]
 obtain⟨s1,s2,s3⟩:=hd_sub ⟨(n:Int),p,s,r,(m:Int)⟩;have l1:=p.2;have l2:=s.2;have l3:=r.2;have l4:=ylq 8 n;have l5:=ylq 4 m;have l6:(zaq (beB 4 m)).length=4:=by rw[zdq,l5]
 rw[e];refine gIv 10 O (λR k0=>gA 0 O (n) ?_)
 (refine znq rfl (y2q O O O O O O (yRq n 8 Xd Xd) ?_);rintro w hp1 nw1 ⟨rfl,rfl,rfl⟩)
 refine ziq 11 O (gA 0 O (m) ?_)
 (refine znq rfl (y2q O O O O O O (yRq m 4 Xd Xd) ?_);rintro w hp1 nw1 ⟨rfl,rfl,rfl⟩)
 exact ziq 12 O (gM 0 O (z5q O O (xmq (k:=ti5) (L:=beB 8 n) (M:=p.1) O O O O O O (z6q O O O s1) rfl l4 Xd Xd)) (gM 8 O (z5q O O (xmq (k:=ti5) (L:=beB 8 n++p.1) (M:=s.1) O O O O O O (z6q O O O s2) O O Xd (by simp[l1,l2,l4]))) (gM 8 O (z5q O O (xmq (k:=ti5) (L:=(beB 8 n++p.1)++s.1) (M:=r.1) O O O O O O (z6q O O O s3) O O Xd (by simp[l1,l2,l3,l4]))) (gM 7 O (z5q O O (xmq (k:=ti5) (L:=((beB 8 n++p.1)++s.1)++r.1) (M:=beB 4 m) O O O O O O (z6q O O O (zhq Xm l6.symm rfl)) O O Xd (by simp[l1,l2,l3,l4,l5]))) (zfq 4 O (qZq Jw rfl (.sl (full:=false) rfl Xh (zhq Xm (zdq _).symm rfl) Xi)))))))
theorem rhname_s(h:Hdr)(hh:okH h):PS cfg G 132 [hdW h] (dW (hashD h)):=by
 exact gI 9 O (λR k0=>gC 0 O (rhof_s h hh) (gC 0 O (udq 6 (hdB h) (by rw[hdB_len];omega)) (gQa 4 O)))
theorem rhfol_s(h p:Hdr):PS cfg G 109 [hdW h,hdW p] (.bool (decide (FolB h p))):=by
 by_cases hh:okH h
 ·by_cases hp:okH p
  ·obtain⟨q1,q2,q3,q4⟩:=id hp;refine gI 10 O (λR k0=>gC 0 O (zzq (w':=.bool true) (ufq h) (by rw[decide_eq_true (hh)])) (gC 2 O (zzq (w':=.bool true) (ufq p) (by rw[decide_eq_true (hp)])) (gWr 6 O ?_)));refine gD 0 O (λh1=>?_) (λh1=>?_)
   ·exact gC 5 O (rhname_s p ⟨q1,q2,q3,q4⟩) (gUe 0 O (yvq O O O O (yNq O O O O O O _ _ 250)) z1q (gQ 5 O (dec_c ⟨λq=>⟨hh,hp,by simpa using h1,q⟩,λq=>q.2.2.2⟩)))
   ·exact gQ 12 O (yVq λq=>h1 (by simpa using q.2.2.1))
  ·skip
   exact gI 10 O (λR k0=>gC 0 O (zzq (w':=.bool true) (ufq h) (by rw[decide_eq_true (hh)])) (gC 2 O (zzq (w':=.bool false) (ufq p) (by rw[decide_eq_false (hp)])) (gQ 20 O (yVq λq=>hp q.2.1))))
 ·skip
  exact gI 10 O (λR k0=>gC 0 O (zzq (w':=.bool false) (ufq h) (by rw[decide_eq_false (hh)])) (gQ 23 O (yVq λq=>hh q.1)))
theorem rmbody_s(ds:List Depo)(xs:List Tx)(f g:Bool)(hx:∀x∈xs,x.ok)(hd:ds.length<=140737488351232)(hn:xs.length<=140737488351232):PS cfg G 108 [bodW ds xs f g] (.bool (decide (BodyM ds xs))):=by
 refine gI 13 O (λR k0=>?_);refine gLo (α:=Nat) 0 (λi=>i<=xs.length/\∀j x,j<i->xs[j]? =some x->x.sign=j3q x) (λi=>[(3,.int .i64 (i:Int))]) [1,2] (λi=>xs.length-i) (0) rfl (⟨Nat.zero_le _,λj x h=>by omega⟩) (λi hI=>?_);obtain⟨g1,g2⟩:=hI;refine gZ 6 O LMq ?_;refine gS 3 O (λh1=>?_) (λh1=>?_)
 ·obtain⟨x,hx1⟩:∃x,xs[i]? =some x:=⟨_,List.getElem?_eq_getElem Xd⟩
  refine gP 9 O (zuq (i:=i) O O O O O O O (zpq txW hx1)) ?_;refine gC 1 O (Jaq x (hx x (List.mem_of_getElem? hx1))) ?_;refine gS 3 O (λh2=>?_) (λh2=>?_)
  ·refine gO 8 O ?_;exact gQ 2 O (yVq λq=>h2 (by rw[if_pos (q.2.2 x (List.mem_of_getElem? hx1))]))
  ·have hs:x.sign=j3q x:=Classical.byContradiction λq=>h2 Jf
   refine gA 5 O (i+1) ?_;exact gAg 2 O (i+1) (⟨by omega,λj y hj hy=>by rcases Nat.lt_succ_iff_lt_or_eq.1 hj with q|rfl;exact g2 j y q hy;exact Option.some.inj (hx1.symm.trans hy)▸hs⟩) Xd
 ·have all:∀x∈xs,x.sign=j3q x:=λx h=>by
   obtain⟨j,hj⟩:=List.getElem?_of_mem h;exact g2 j x (by have:=kaq hj;omega) hj
  refine gO 2 O ?_;refine gZ 6 O LMq ?_;refine gD 0 O (λh2=>?_) (λh2=>?_)
  ·refine gZ 3 O LMq ?_;refine gU 0 O ?_;exact gQ 5 O (congrArg W.bool (by first|exact decide_eq_decide.2 ⟨λq=>⟨by omega,by omega,all⟩,λq=>by have:=q.2.1;omega⟩|(by_cases q:xs.length<=16; · rw[decide_eq_true (show BodyM ds xs from⟨by omega,q,all⟩),ltI_not.2 Xd];rfl; · rw[decide_eq_false (show¬BodyM ds xs from λh=>q h.2.1),ltI_iff.2 Xd];rfl)))
  ·exact gQ 10 O (yVq λq=>by have:=q.1;omega)
theorem xEq(c:Ch)(i:Nat)(x:Lk)(hx:c.links[i]? =some x):PS cfg G 76 [chG c,.int .i64 (i:Int)] (tW (verT c x.root)):=by
 exact gI 19 O (λR k0=>gP 0 O (zuq (i:=i) O O O O O O O (zpq lkG hx)) (gQa 13 O))
theorem at_prev{α:Type}{l:List α}{i:Nat}(h:i<l.length)(h0:0<i):∃y,l[i-1]? =some y:=⟨_,List.getElem?_eq_getElem Xd⟩
theorem juq(c:Ch)(hc:OkC c):PS cfg G 31 [chG c] (.bool (decide (MayC c))):=by
 have hl:=hc.len;refine gI 10 O (λR k0=>gZ 0 O LMq ?_);refine gD 7 O (λh1=>?_) (λh1=>?_)
 ·have hno:¬MayC c:=λq=>by have:=q.one;omega
  exact gQ 27 O (yVq hno)
 obtain⟨z,hz⟩:∃z,c.links[c.links.length-1]? =some z:=⟨_,List.getElem?_eq_getElem Xd⟩
 refine gD 2 O (λh2=>?_) (λh2=>?_)
 ·have hno:¬MayC c:=λq=>by have:=q.len;omega
  exact gQ 24 O (yVq hno)
 refine gA 8 O (c.links.length-1) (gP 0 O (zuq (i:=c.links.length-1) O O O O O O O (zpq lkG hz)) (gU 2 O ?_));refine gS 3 O (λh3=>?_) (λh3=>?_)
 ·have hno:¬MayC c:=λq=>h3 (q.root z hz)
  exact gQ 7 O (yVq hno)
 refine gLo (α:=Nat) 9 (λi=>i<=c.links.length/\∀j x,j<i->c.links[j]? =some x->LkM c j x) (λi=>[(4,.int .i64 (i:Int))]) [1,2,3] (λi=>c.links.length-i) (0) rfl (⟨Nat.zero_le _,λj x h=>by omega⟩) (λi hI=>?_);obtain⟨g1,hI⟩:=hI;refine gS 8 O (λh4=>?_) (λh4=>?_)
 ·have hi:i<c.links.length:=by omega
  obtain⟨x,hx⟩:∃x,c.links[i]? =some x:=⟨_,List.getElem?_eq_getElem hi⟩
  have hB:=hc.body x (List.mem_of_getElem? hx);refine gP 9 O (zuq (i:=i) O O O O O O O (zpq lkG hx)) ?_;refine gD 12 O (λh5=>?_) (λh5=>?_)
  ·have hno:¬MayC c:=λq=>h5 (q.link i x hx).height
   exact gO 33 O (gQ 2 O (yVq hno))
  refine gC 3 O (ufq x.hdr) ?_;refine gB 0 O (λh6=>?_) (λh6=>?_)
  ·refine gZ 5 O LMq ?_;refine gD 3 O (λh7=>?_) (λh7=>?_)
   ·have hno:¬MayC c:=λq=>h7 (q.link i x hx).recs
    exact gO 19 O (gQ 2 O (yVq hno))
   ·refine gC 4 O (rmbody_s x.ds x.xs false false hB.tx hB.dl hB.xl) ?_;refine gS 4 O (λh8=>?_) (λh8=>?_)
    ·have hno:¬MayC c:=λq=>absurd h8 (by rw[decide_eq_true (q.link i x hx).body];decide)
     exact gO 9 O (gQ 2 O (yVq hno))
    ·have hok:okH x.hdr:=h6;have hM:BodyM x.ds x.xs:=by simpa using h8
     refine gD 5 O (λh9=>?_) (λh9=>?_)
     ·obtain⟨y,hy⟩:=at_prev hi Xd;refine gA 6 O (i-1) (gP 0 O (zuq (i:=i-1) O O O O O O O (zpq lkG hy)) (gC 2 O (rhfol_s x.hdr y.hdr) ?_));refine gB 0 O (λh10=>?_) (λh10=>?_)
      ·refine gC 5 O (xEq c i x hx) (gC 0 O (J7q (verT c x.root) hc.nodes) ?_);refine gS 4 O (λh11=>?_) (λh11=>?_)
       ·have hno:¬MayC c:=λq=>absurd h11 (by rw[decide_eq_true (q.link i x hx).tree];decide)
        exact gO 8 O (gQ 2 O (yVq hno))
       ·have hx2:LkM c i x:=⟨by omega,hok,λw h0 hw=>Option.some.inj (hy.symm.trans hw)▸h10,by omega,hM,by simpa using h11⟩;exact gA 5 O (i+1) (gAg 2 O (i+1) (⟨hi,λj w hj hw=>by rcases Nat.lt_succ_iff_lt_or_eq.1 hj with q|rfl;exact hI j w q hw;exact Option.some.inj (hx.symm.trans hw)▸hx2⟩) Xd)
      ·have hno:¬MayC c:=λq=>h10 ((q.link i x hx).fol y Xd hy)
       exact gO 20 O (gQ 2 O (yVq hno))
     ·refine gC 16 O (xEq c i x hx) (gC 0 O (J7q (verT c x.root) hc.nodes) ?_);refine gS 4 O (λh10=>?_) (λh10=>?_)
      ·have hno:¬MayC c:=λq=>absurd h10 (by rw[decide_eq_true (q.link i x hx).tree];decide)
       exact gO 8 O (gQ 2 O (yVq hno))
      ·have hx2:LkM c i x:=⟨by omega,hok,λw h0 hw=>absurd h0 Xd,by omega,hM,by simpa using h10⟩;exact gA 5 O (i+1) (gAg 2 O (i+1) (⟨hi,λj w hj hw=>by rcases Nat.lt_succ_iff_lt_or_eq.1 hj with q|rfl;exact hI j w q hw;exact Option.some.inj (hx.symm.trans hw)▸hx2⟩) Xd)
  ·have hno:¬MayC c:=λq=>h6 (q.link i x hx).hdr
   exact gO 29 O (gQ 2 O (yVq hno))
 ·have yes:MayC c:=⟨by omega,by omega,λw hw=>by cases hz.symm.trans hw;omega,λj w hw=>hI j w (by have:=kaq hw;omega) hw⟩;exact gO 2 O (gQ 8 O (Q0q yes))
theorem Yfq:PS cfg G 184 [] (dW (tagD 0 [])):=by
 exact gI 7 O (λR k0=>xJq O O O O O (.cons (.pur rfl) (.cons .nilfz .nil)) (JYq 0 [] false Xh Xh) Xk Xk (ziq 4 O (gQa 0 O)))
theorem rtwo_s(kind:UInt8)(a b:List UInt8)(f g:Bool)(ha:a.length<1000000)(hb:b.length<1000000):PS cfg G 260 [.int .u8 (.ofNat kind.toNat),.fz (zaq a) 1 f,.fz (zaq b) 1 g] (dW (tagD kind [a,b])):=by
 exact gI 11 O (λR k0=>xJq O O O O O (.cons (.pur rfl) (.cons (.sl2 (full:=false) rfl (.arr (.cons (.fzw Xh) (.cons (.fzw Xh) .nil))) rfl Xi) .nil)) (JYq kind [a,b] false Xh (by simp[ha,hb])) Xk Xk (ziq 4 O (gQa 0 O)))
noncomputable def ofH(A B:List Pr):HpW:=([(0,29,yoq)]++gH 1 191 33 (A.map pW))++gH 2 191 33 (B.map pW)
theorem ofH_l(A:List Pr):ofH A []=[(0,29,yoq)]++gH 1 191 33 (A.map pW):=List.append_nil _
theorem rof_s:∀(t:T) (d:Nat) (b:Dig) (f:Bool),Zr d b->t.ok d b=true->Zcq t->t.all.length<=1000000->PS cfg G 183 [.fz (t.all.map pW) 33 f,.int .i64 (d:Int)] (dW (sumD t)):=by
 intro t;induction t with
 |nil=>
  intro d b f hz ok hs hl;refine gI 9 O (λR k0=>?_);refine gL 0 O ?_;refine gC 6 O (Yfq) ?_;exact gQa 5 O
 |leaf k v=>
  intro d b f hz ok hs hl;have hv:v.length<1000000:=hs (k,v) (by simp[T.all]);refine gI 9 O (λR k0=>?_);refine gL 0 O ?_;refine gL 10 O ?_;refine gX 7 O ?_;refine gX 3 O ?_;refine zfq 2 O ?_;refine fl_ps O O O O O (by show [_,W.fz (((zaq k.1).drop (0/1)).take 32) 1 true,_]=[_,W.fz (zaq k.1) 1 true,_];rw[show 0/1=0 from rfl,List.drop_zero,List.take_of_length_le (by rw[zdq,k.2];omega)];rfl) (rtwo_s 1 k.1 v true false (by simp[k.2]) hv) Xh Xh Xu ?_;refine yaq 5 O ?_;exact gQa 0 O
 |fork tl tr ihL ihR=>
  intro d b f hz ok hs hl;obtain⟨hd,okL,okR,two⟩:=ok_fork.1 ok;obtain⟨b0,b1⟩:=Y0q hz ok;have sL:Zcq tl:=λp hp=>hs p Ji
  have sR:Zcq tr:=λp hp=>hs p Ji
  have hall:(T.fork tl tr).all=tl.all++tr.all:=by simp[T.all]
  have cL:=ihL (d+1) b false (jeq hz) okL sL (by rw[hall,List.length_append] at hl;omega);have cR:=ihR (d+1) (qBq b d) false (jdq hz hd) okR sR (by rw[hall,List.length_append] at hl;omega);have hn2:2<=tl.all.length+tr.all.length:=JLq okL okR two;rw[hall] at hl⊢;rw[List.length_append] at hl;generalize tl.all=L at*
  generalize tr.all=Q at*
  have e:((L++Q).map pW).length=L.length+Q.length:=by rw[List.length_map,List.length_append]
  have hat:∀i,i<L.length+Q.length->∃x,(L++Q)[i]? =some x:=λi hi=>⟨_,List.getElem?_eq_getElem (by rw[List.length_append];exact hi)⟩
  refine gI 9 O (λR k0=>?_);refine gZ 0 O e ?_;refine gF 0 O (eqI_not.2 Xd) ?_;refine gZ 9 O e ?_;refine gF 0 O (eqI_not.2 Xd) ?_;refine zfq 18 O ?_;have z0:Q.take (0-L.length)=[]:=by rw[Nat.zero_sub];rfl
  refine qmq (α:=Nat) (λi=>i<=L.length+Q.length) (λi=>[(5,gW 1 33 ((L.take i).map pW)),(7,.int .i64 (i:Int)),(6,gW 2 33 ((Q.take (i-L.length)).map pW)),(0,.fz ((L++Q).map pW) 33 f),(1,.int .i64 (d:Int)),(4,.ptr 0 0)]) (λi=>ofH (L.take i) (Q.take (i-L.length))) (λ_=>3) (λ_=>R) (λi=>L.length+Q.length-i) 0 (Nat.zero_le _) ((x4q (fr2:=[(5,.nils),(7,.int .i64 0),(6,.nils),(0,.fz ((L++Q).map pW) 33 f),(1,.int .i64 (d:Int)),(4,.ptr 0 0)]) ⟨rfl,rfl,rfl,rfl,rfl,rfl,trivial⟩).trans ((x4q (fr2:=[(5,.nils),(7,.int .i64 0),(6,.nils),(0,.fz ((L++Q).map pW) 33 f),(1,.int .i64 (d:Int)),(4,.ptr 0 0)]) ⟨rfl,rfl,rfl,rfl,rfl,rfl,trivial⟩).trans (z0q ⟨rfl,rfl,by rw[z0];rfl,rfl,rfl,rfl,trivial⟩ (by rw[z0];rfl) rfl))) (λi hI=>?_);skip
  have hI:i<=L.length+Q.length:=hI;refine zPq 5 O ?_;refine gZ 0 O e ?_;refine gS 3 O (λh1=>?_) (λh1=>?_)
  ·have hi:i<L.length+Q.length:=by omega
   obtain⟨x,hx⟩:=hat i hi;skip
   by_cases hc:i<L.length
   ·have hxl:L[i]? =some x:=by rw[List.getElem?_append_left hc] at hx;exact hx
    have hbit:bitN x.1 d=0:=b0 x (List.mem_of_getElem? hxl);have zq:Q.take (i-L.length)=[]:=by rw[show i-L.length=0 by omega];rfl
    have zq':Q.take (i+1-L.length)=[]:=by rw[show i+1-L.length=0 by omega];rfl
    have hL2:(L.take (i+1)).map pW=(L.take i).map pW++[pW x]:=by rw[List.take_add_one,hxl,List.map_append];rfl
    have hlt:((L.take i).map pW).length<=1000000:=by rw[List.length_map,List.length_take];omega
    rw[zq,ofH_l];refine gP 8 O (zuq (i:=i) O O O O O O O (zpq pW hx)) ?_;refine gC 3 O (rat_s x.1 d hd) ?_;refine gT 0 O (eqI_iff.2 (by rw[hbit];rfl)) ?_;refine gP 7 O (zuq (i:=i) O O O O O O O (zpq pW hx)) ?_;refine gM 2 O (z5q O O (jmq [_,_] (k:=ti191) (news:=[pW x]) O O O O O (z6q O O O O) Xh (by show(((L.take i).map pW).length+1)*56<=_;omega) (by show((L.take i).map pW).length+1<=_;omega) rfl Xh)) ?_;refine gA 6 O (i+1) ?_;refine zfq 2 O ?_;skip
    refine ygq (i+1) hi Xd ?_;simp only[zq',ofH_l,hL2];exact(qSq (b:=1) (H0:=[(0,29,yoq)]) (l2:=(L.take i).map pW++[pW x]) (n:=((L.take i).map pW++[pW x]).length) (fr2:=[(7,.int .i64 ((i+1:Nat):Int)),(6,.nils),(0,.fz ((L++Q).map pW) 33 f),(1,.int .i64 (d:Int)),(4,.ptr 0 0)]) 4 5 Xd Xd Yr Xh O O ⟨rfl,rfl,rfl,rfl,rfl,trivial⟩ ⟨rfl,rfl,zcq (show purW (.fz ((L++Q).map pW) 33 f)=true from j5q _),rfl,rfl,trivial⟩ rfl Xh ⟨⟨by omega,rfl,rfl⟩,trivial⟩ Xh).trans (x4q ⟨rfl,rfl,rfl,rfl,rfl,rfl,trivial⟩)
   ·have hxq:Q[i-L.length]? =some x:=by rw[List.getElem?_append_right Xd] at hx;exact hx
    have hbit:bitN x.1 d=1:=b1 x (List.mem_of_getElem? hxq);have zl:L.take i=L:=List.take_of_length_le Xd;have zl':L.take (i+1)=L:=List.take_of_length_le Xd;have hQ2:(Q.take (i+1-L.length)).map pW=(Q.take (i-L.length)).map pW++[pW x]:=by rw[show i+1-L.length=(i-L.length)+1 by omega,List.take_add_one,hxq,List.map_append];rfl
    have hlt:((Q.take (i-L.length)).map pW).length<=1000000:=by rw[List.length_map,List.length_take];omega
    have hnm:∀p∈[((0:Nat),29,yoq)]++gH 1 191 33 (L.map pW),p.1<2:=λp hp=>by
     rcases List.mem_append.1 hp with hp|hp
     ·simp only[List.mem_cons,List.not_mem_nil,or_false] at hp;rw[hp];show 0<2;omega
     ·rw[Kpq p hp];omega
    rw[zl];refine gP 8 O (zuq (i:=i) O O O O O O O (zpq pW hx)) ?_;refine gC 3 O (rat_s x.1 d hd) ?_;refine gF 0 O (eqI_not.2 (by rw[hbit];decide)) ?_;refine gP 7 O (zuq (i:=i) O O O O O O O (zpq pW hx)) ?_;refine gM 2 O (z5q O O (jmq ((3,_)::([(0,_)]++gH 1 191 33 (L.map pW))) (k:=ti191) (news:=[pW x]) O O O O O (z6q O O O O) Xh (by show(((Q.take (i-L.length)).map pW).length+1)*56<=_;omega) (by show((Q.take (i-L.length)).map pW).length+1<=_;omega) rfl (λp hp=>by rcases List.mem_cons.1 hp with q|q;(rw[q];show¬3=2;omega);have:=hnm p q;omega))) ?_;refine gA 6 O (i+1) ?_;refine zfq 2 O ?_;skip
    refine ygq (i+1) hi Xd ?_;simp only[zl',hQ2];exact(qSq (b:=2) (H0:=[(0,29,yoq)]++gH 1 191 33 (L.map pW)) (l2:=(Q.take (i-L.length)).map pW++[pW x]) (n:=((Q.take (i-L.length)).map pW++[pW x]).length) (fr2:=[(5,gW 1 33 (L.map pW)),(7,.int .i64 ((i+1:Nat):Int)),(0,.fz ((L++Q).map pW) 33 f),(1,.int .i64 (d:Int)),(4,.ptr 0 0)]) 4 6 Xd Xd Yr Xh O O ⟨rfl,rfl,rfl,rfl,rfl,trivial⟩ ⟨by cases L.map pW<;>rfl,rfl,zcq (show purW (.fz ((L++Q).map pW) 33 f)=true from j5q _),rfl,rfl,trivial⟩ rfl Xh (JSq ⟨⟨by omega,rfl,rfl⟩,trivial⟩ (subH_g Xd Xh (λx r h=>by rw[h];rfl))) (by cases L.map pW<;>simp[gH])).trans (z0q ⟨rfl,rfl,rfl,rfl,rfl,rfl,trivial⟩ (by unfold ofH;rw[hQ2]) rfl)
  ·have hi:i=L.length+Q.length:=by omega
   have zl:L.take i=L:=List.take_of_length_le Xd;have zq:Q.take (i-L.length)=Q:=List.take_of_length_le Xd;rw[zl,zq];refine zfq 2 O ?_;refine y3q Xi ?_;refine zHq 6 O ?_;refine gA 0 O (d+1) ?_;refine xJq O O O O O (.cons (view_g2 (H0:=[(0,29,yoq)]) Xm Xh Xh) (.cons (.pur rfl) .nil)) cL Xh (flat_dW _) ?_;refine ziq 2 O ?_;refine gA 0 O (d+1) ?_;refine xJq O O O O O (.cons (xZq (H0:=[(0,29,yoq)]++gH 1 191 33 (L.map pW)) Xm Xh (λp hp=>by rcases List.mem_append.1 hp with q|q;(simp only[List.mem_cons,List.not_mem_nil,or_false] at q;rw[q];show¬0=2;omega);(rw[Kpq p q];omega))) (.cons (.pur rfl) .nil)) cR Xh (flat_dW _) ?_;refine ziq 10 O ?_;refine fl_lk O O O O O (.cons (.pur rfl) (.cons (.sl (full:=false) (xs:=zaq (sumD tl).1) rfl Xh (zhq Xm (by simp[zdq,(sumD tl).2]) rfl) Xi) (.cons (.sl (full:=false) (xs:=zaq (sumD tr).1) rfl Xh (zhq Xm (by simp[zdq,(sumD tr).2]) rfl) Xi) .nil))) (rtwo_s 2 (sumD tl).1 (sumD tr).1 false false (by simp[(sumD tl).2]) (by simp[(sumD tr).2])) Xk Xk Xu ?_;refine yaq 4 O ?_;exact gQa 0 O
end
section
variable {C:Cfg} {G:Nat->Option W} {o:Oper} {fr:FrW} {hp:HpW} {nw:Nat} {R:Res} {post:W->HpW->Nat->Res->Option EvW->Prop}
theorem step_frz1{w w2 c:W}{ty:TypeId}(h:opHW C G fr hp nw o.op=some (w,(nw,ty,c)::hp,nw+1,.gen))(hc:purW c=true)(hv:View (blk1 nw c) w w2)(hpost:post w2 hp (nw+1) R (some .gen)):Step C G o fr hp nw R post:=λΓ X frv hnw s hf=>by
 subst hnw;obtain⟨v,h',Γ',h1,h2,h3,h4⟩:=opH_sim (rt:=o.type) hf s h;have sat:=h3.sat;have hb:hget ((Γ.nw,ty,c)::hp) Γ.nw=some (ty,c):=by rw[zrq,if_pos rfl]
 obtain⟨p1,p2,p3,u,p4,p5⟩:=sat.own _ _ _ hb;let Γ2:Ctx:=⟨Γ'.nw,Γ'.σ,λd=>Γ'.D d\/d=Γ'.σ Γ.nw,Γ'.h⟩
 have le:Γ'.Le Γ2:=⟨Nat.le_refl _,λ_ _=>rfl,λ_ h=>.inl h,λ_ _=>rfl⟩
 have q:Seen (blk1 Γ.nw c) Γ' Γ2:=⟨λ_ h _=>h,λ_ _ _=>rfl,λ_ h=>.inl h,λ_ _=>rfl,λk c' hk h=>by
  unfold blk1 at h;split at h
  ·rename_i e;rw[Nat.beq_eq] at e;subst e;cases h;exact⟨.inr rfl,u,Zjq p4,p5⟩
  ·cases h⟩
 have hlt:Γ'.σ Γ.nw<Γ'.h.next:=by
  rcases Nat.lt_or_ge (Γ'.σ Γ.nw) Γ'.h.next with h|h
  ·exact h
  ·rw[sat.wf _ h] at p4;cases p4
 have hsub:∀k x,hget hp k=some x->k<Γ.nw/\hget ((Γ.nw,ty,c)::hp) k=some x:=λk x hk=>by
  have:=(s.own k x.1 x.2 hk).1;exact⟨this,by rw[zrq,if_neg Xd];exact hk⟩
 refine⟨0,w2,hp,R,some .gen,v,h',Γ2,X,?_,by simp only[opV,h1,h2],⟨h1,h4⟩,h3.hh,⟨Nat.le_trans h3.le.nw le.nw,h3.le.σ,λd h=>.inl (h3.le.D d h),h3.le.val⟩,⟨sat.wf,λk ty' w hk=>?_,λk k' x y hx hy e=>?_,s.nd,λd hd hX=>?_,sat.xlt,λd hd=>?_,R.st _ _ _ _ _ sat.res le.D le.val (λ_ _=>rfl) (Nat.le_refl _),sat.gl.mono le⟩,⟨h3.frm.sig,h3.frm.mle,h3.frm.next,h3.frm.keep,λd h=>.inl (h3.frm.dsub d h),λd hd=>?_,λk x _ hk=>⟨x,hk⟩,λk x hm hk=>?_,λ_ h=>.inl h,h3.frm.wmin⟩,ktq q hv h3.val⟩
 ·show post w2 hp Γ'.nw R _;rw[h3.nw];exact hpost
 ·obtain⟨g1,g2⟩:=hsub k _ hk;obtain⟨q1,q2,q3,u,q4,q5⟩:=sat.own _ _ _ g2;exact⟨q1,λh=>h.elim q2 λe=>by have:=sat.inj k _ _ _ g2 hb e;omega,q3,u,q4,q5.mono le⟩
 ·exact sat.inj _ _ _ _ (hsub k _ hx).2 (hsub k' _ hy).2 e
 ·rcases hd with h|rfl
  ·exact sat.dX d h hX
  ·exact p3 hX
 ·rcases hd with h|rfl
  ·exact sat.dlt d h
  ·exact hlt
 ·rcases hd with h|rfl
  ·exact h3.frm.dnew d h
  ·rcases h3.frm.onum Γ.nw _ (Nat.le_refl _) hb with h|⟨k,y,g1,g2,g3⟩
   ·exact .inr (.inr h)
   ·exact .inr (.inl (.inl ⟨k,y,g2,g3⟩))
 ·have:=(hsub k _ hk).1;omega
theorem step_nilz{w w2:W}(h:opHW C G fr hp nw o.op=some (w,hp,nw,.gen))(hv:View (λ_=>none) w w2)(hpost:post w2 hp (nw+1) R (some .gen)):Step C G o fr hp nw R post:=λΓ X frv hnw s hf=>by
 subst hnw;obtain⟨v,h',Γ',h1,h2,h3,h4⟩:=opH_sim (rt:=o.type) hf s h;have sat:=h3.sat;let Γ2:Ctx:=⟨Γ'.nw+1,Γ'.σ,Γ'.D,Γ'.h⟩
 have le:Γ'.Le Γ2:=⟨Nat.le_succ _,λ_ _=>rfl,λ_ h=>h,λ_ _=>rfl⟩;refine⟨0,w2,hp,R,some .gen,v,h',Γ2,X,?_,by simp only[opV,h1,h2],⟨h1,h4⟩,h3.hh,⟨Nat.le_trans h3.le.nw le.nw,h3.le.σ,h3.le.D,h3.le.val⟩,⟨sat.wf,λk ty' w hk=>?_,sat.inj,s.nd,sat.dX,sat.xlt,sat.dlt,R.st _ _ _ _ _ sat.res le.D le.val (λ_ _=>rfl) (Nat.le_refl _),sat.gl.mono le⟩,⟨h3.frm.sig,λh=>Nat.le_trans (h3.frm.mle h) (Nat.le_succ _),h3.frm.next,h3.frm.keep,h3.frm.dsub,h3.frm.dnew,h3.frm.oext,h3.frm.onum,λ_ h=>.inl h,h3.frm.wmin⟩,ktq (show Seen (λ_=>none) Γ' Γ2 from⟨λ_ h _=>Nat.lt_succ_of_lt h,λ_ _ _=>rfl,λ_ h=>h,λ_ _=>rfl,λ_ _ _ h=>Qo⟩) hv h3.val⟩
 ·show post w2 hp (Γ'.nw+1) R _;rw[h3.nw];exact hpost
 ·obtain⟨q1,q2,q3,u,q4,q5⟩:=sat.own _ _ _ hk;exact⟨Nat.lt_of_lt_of_le q1 (Nat.le_succ _),q2,q3,u,q4,q5.mono le⟩
theorem JUq{x y:Operand}{ts tx ty:TypeId}{j k:TyI}{e:Nat}{v:W}{news:List W}(ho:o.op= .call ⟨.builtin .append, #[x,y], #[ts,tx]⟩)(hx:evW C G fr x=some .nils)(hy:evW C G fr y=some v)(hj:C.ty ts=some j)(hd:j.d= .slice ty)(hk:C.ty ty=some k)(he:k.size=e)(hz:Nat.beq k.size 0=false)(hs:srcW C hp tx k.size v=some news)(hpu:purL news=true)(h1:news.length*k.bytes<=140737488355328)(h2:news.length<=70368744177664)(h:post (.fz news e false) hp (nw+1) R (some .gen)):Step C G o fr hp nw R post:=by
 subst he
 have hk0:0<k.size:=by
  rcases Nat.eq_zero_or_pos k.size with q|q
  ·rw[q] at hz;cases hz
  ·exact q
 cases news with
 |nil=>exact step_nilz (by rw[ho];exact z5q hx hy (Yvq hj hd hk hz hs)) .nilfz h
 |cons z zs=>
  exact step_frz1 (by rw[ho];exact z5q hx hy (kQq hj hd hk hz hs Xh h1 h2)) (show purW (.arr _ _ (z::zs))=true from hpu) (.sl (full:=false) (c:=.arr ((z::zs).length*k.size) k.size (z::zs)) (by unfold blk1;rw[Nat.beq_refl]) hpu (zhq hk0 O O) Xi) h
end
theorem Jdq{C:Cfg}{G:Nat->Option W}{f:FuncId}{m:Nat}{ws ws':List W}{hp:HpW}{Q:W->HpW->Nat->Prop}(h:ViewL (λ_=>none) ws ws')(sp:yYq C G f m ws' hp Q):yYq C G f m ws hp Q:=λR Γ X vs h1 s hv=>
 sp R Γ X vs h1 s (uDq ⟨λ_ h _=>h,λ_ _ _=>rfl,λ_ h=>h,λ_ _=>rfl,λ_ _ _ h=>Qo⟩ h hv)
section
attribute [local irreducible] CoW OpW FlW Step Spec
variable {G:Nat->Option W}
theorem rfdepo_s(d:Depo)(h1:d.number<18446744073709551616)(h2:d.amount<18446744073709551616):PS cfg G 265 [pdW d] (dW (depD d)):=by
 have l1:=ylq 8 d.number;have l2:=d.to.2;have l4:=ylq 8 d.amount;have l3:(zaq (beB 8 d.amount)).length=8:=by rw[zdq,l4]
 have e:depB d=(beB 8 d.number++d.to.1)++beB 8 d.amount:=by simp[depB]
 have hl:=depB_len d;refine gI 10 O (λR k0=>?_)
 ((refine znq rfl (y2q O O O O O O (yRq _ 8 Xr Xd) ?_);rintro w hp1 nw1 ⟨rfl,rfl,rfl⟩))
 refine ziq 11 O ?_
 ((refine znq rfl (y2q O O O O O O (yRq _ 8 Xr Xd) ?_);rintro w hp1 nw1 ⟨rfl,rfl,rfl⟩))
 exact ziq 12 O (gM 0 O (z5q O O (xmq (k:=ti5) (L:=beB 8 d.number) (M:=d.to.1) O O O O O O (z6q O O O (dep_sub d)) rfl l1 Xd Xd)) (gM 7 O (z5q O O (xmq (k:=ti5) (L:=beB 8 d.number++d.to.1) (M:=beB 8 d.amount) O O O O O O (z6q O O O (zhq Xm l3.symm rfl)) O O Xd (by simp[l1,l2,l4]))) (xJq O O O O O (.cons (.pur rfl) (.cons (.sl (full:=false) rfl Xh (zhq Xm (zdq _).symm rfl) Xi) .nil)) (udq 9 (depB d) Xd) Xk Xk (ziq 4 O (gQa 0 O)))))
theorem rfof_c(k:UInt8)(d:Dig)(c:Nat)(a b:UInt8)(h:beB 2 c=[a,b])(w1:jIq .i64 ((c:Int).tdiv 256)= .ofNat a.toNat)(w2:jIq .u8 (.ofNat a.toNat)= .ofNat a.toNat)(w3:(c:Int).tmod 256= .ofNat b.toNat)(w4:jIq .u8 (.ofNat b.toNat)= .ofNat b.toNat):PS cfg G 328 [recW ⟨k,d,c⟩] (bW (recB ⟨k,d,c⟩)):=by
 have l2:=d.2;rw[show recB ⟨k,d,c⟩=([k]++d.1)++[a,b] by rw[recB,h]];exact gIv 19 O (λR k0=>gM 0 O (z5q O O (xmq (k:=ti5) (L:=[k]) (M:=d.1) O O O O O O (z6q O O O (rec_sub ⟨k,d,c⟩)) O O Xd (by simp[l2]))) (gV 8 O (congrArg (W.int .i64) w1) (gV 0 O (congrArg (W.int .u8) w2) (gV 2 O (congrArg (W.int .i64) w3) (gV 0 O (congrArg (W.int .u8) w4) (gM 1 O (z5q O O (xmq (k:=ti5) (L:=[k]++d.1) (M:=[a,b]) O O O O O O (z6q O O O O) O O Xh (by simp[l2]))) (zfq 4 O (qZq Jw rfl (.sl (full:=false) rfl Xh (zhq Xm (zdq _).symm rfl) Xi)))))))))
theorem rfof_s(r:Rec)(h:okR r):PS cfg G 328 [recW r] (bW (recB r)):=by
 obtain⟨k,d,c⟩:=r;rcases h.2 with h|h|⟨_,h⟩<;>(simp only at h;subst h)
 ·exact rfof_c k d 0 0 0 Xm Xp Xp Xp Xp
 ·exact rfof_c k d 151 0 151 Xm Xp Xp Xp Xp
 ·exact rfof_c k d 150 0 150 Xm Xp Xp Xp Xp
theorem rbodyL_s(x:Tx)(hx:x.ok):PL cfg G 278 [txW x] 5 1 (zaq (yXq x)):=by
 have h1:=hx.nonce;have h2:=hx.amount;have h3:=hx.fee;have l1:=x.pub.2;have l2:=x.to.2;have n1:=ylq 8 x.nonce;have n2:=ylq 8 x.amount;have n3:=ylq 8 x.fee;have m1:(zaq (beB 8 x.nonce)).length=8:=by rw[zdq,n1]
 have m2:(zaq (beB 8 x.amount)).length=8:=by rw[zdq,n2]
 have m3:(zaq (beB 8 x.fee)).length=8:=by rw[zdq,n3]
 have e:yXq x=(((x.pub.1++x.to.1)++beB 8 x.nonce)++beB 8 x.amount)++beB 8 x.fee:=by simp[yXq]
 have hb:=xTq x;intro R;refine gIs 16 O (λk0=>?_);refine gM 0 O (z5q O O (app_b0 (k:=ti5) (M:=x.pub.1) O O O O O (z6q O O O (tx_sub x).1) Xd Xd)) (gM 8 O (z5q O O (xmq (k:=ti5) (L:=x.pub.1) (M:=x.to.1) O O O O O O (z6q O O O (tx_sub x).2) O O Xd Xd)) (zfq 7 O ?_));first|((refine znq rfl (y2q O O O O O O (yRq _ 8 Xr Xd) ?_);rintro w hp1 nw1 ⟨rfl,rfl,rfl⟩))|((refine znq rfl (y2q O O O O O O (yRq _ 8 Xr Xd) ?_);rintro w hp1 nw1 ⟨rfl,rfl,rfl⟩))
 refine ziq 11 O ?_;first|((refine znq rfl (y2q O O O O O O (yRq _ 8 Xr Xd) ?_);rintro w hp1 nw1 ⟨rfl,rfl,rfl⟩))|((refine znq rfl (y2q O O O O O O (yRq _ 8 Xr Xd) ?_);rintro w hp1 nw1 ⟨rfl,rfl,rfl⟩))
 refine ziq 11 O ?_;first|((refine znq rfl (y2q O O O O O O (yRq _ 8 Xr Xd) ?_);rintro w hp1 nw1 ⟨rfl,rfl,rfl⟩))|((refine znq rfl (y2q O O O O O O (yRq _ 8 Xr Xd) ?_);rintro w hp1 nw1 ⟨rfl,rfl,rfl⟩))
 refine ziq 11 O (gM 0 O (z5q O O (xmq (k:=ti5) (L:=x.pub.1++x.to.1) (M:=beB 8 x.nonce) O O O O O O (z6q O O O (zhq Xm m1.symm rfl)) O O Xd (by simp[l1,l2,n1]))) (gM 7 O (z5q O O (xmq (k:=ti5) (L:=(x.pub.1++x.to.1)++beB 8 x.nonce) (M:=beB 8 x.amount) O O O O O O (z6q O O O (zhq Xm m2.symm rfl)) O O Xd (by simp[l1,l2,n1,n2]))) (gM 7 O (z5q O O (xmq (k:=ti5) (L:=((x.pub.1++x.to.1)++beB 8 x.nonce)++beB 8 x.amount) (M:=beB 8 x.fee) O O O O O O (z6q O O O (zhq Xm m3.symm rfl)) O O Xd (by simp[l1,l2,n1,n2,n3]))) (zfq 4 O ?_))));rw[<-e];have hpb:purW (.arr ((yXq x).length*1) 1 (zaq (yXq x)))=true:=yOq _;have hn:(zaq (yXq x)).length=88:=by rw[zdq,hb]
 have hne:zaq (yXq x)≠[]:=λh=>by rw[h] at hn;cases hn
 refine fin (fr2:=[(2,.sl 0 0 0 (yXq x).length 1 none)]) (hp2:=[(0,5,.arr ((yXq x).length*1) 1 (zaq (yXq x)))]) (nw2:=1) (w:=.sl 0 0 0 (yXq x).length 1 none) Jw (yGq (b:=0) (k:=8) Xd Xd (by show 8<9;omega) ⟨⟨rfl,rfl⟩,trivial⟩ ⟨⟨by omega,?_,zcq hpb⟩,trivial⟩ Xh) rfl ⟨rfl,?_,?_,rfl⟩
 ·show some (5,W.arr ((yXq x).length*1) 1 (zaq (yXq x)))=some (5,renW _ (W.arr ((yXq x).length*1) 1 (zaq (yXq x))));rw[zgq hpb]
 ·rw[kGq hne,zdq]
 ·rw[kHq hne,zdq]
theorem rtxbytes_s(x:Tx)(hx:x.ok):PS cfg G 326 [txW x] (bW (txB x)):=by
 have hb:=xTq x;have l2:=x.sign.2;have l1:(zaq (yXq x)).length=88:=by rw[zdq,hb]
 have hne:zaq (yXq x)≠[]:=λh=>by rw[h] at l1;cases l1
 have e1:(zaq (yXq x)).length=(yXq x).length:=zdq _;refine gIv 9 O (λR k0=>?_)
 (refine zZq rfl (kxq O O O O O Xh (rbodyL_s x hx) Xh ?_);rw[kGq hne,kHq hne,e1];refine⟨by first|rfl|kernel_rfl,?_⟩)
 exact yaq 2 O (gM 0 O (z5q O O (xmq (k:=ti5) (L:=yXq x) (M:=x.sign.1) O O O O O O (z6q O O O (sign_sub x)) O O Xd Xd)) (zfq 4 O (qZq Jw rfl (.sl (full:=false) rfl Xh (zhq Xm (zdq _).symm rfl) Xi))))
theorem rtxid_s(x:Tx)(hx:x.ok):PS cfg G 268 [txW x] (dW (idD x)):=by
 have hl:=txB_len x;refine gI 9 O (λR k0=>gC 0 O (rtxbytes_s x hx) ?_);first|refine yuq O O O O O O (udq 5 (txB x) Xd) ?_|refine xJq O O O O O (.cons (.pur rfl) (.cons (.sl (full:=false) rfl Xh (zhq Xm (zdq _).symm rfl) Xi) .nil)) (udq 9 (depB d) Xd) Xk Xk ?_
 exact ziq 4 O (gQa 0 O)
theorem first_ok:∀n,n<=256->∀k,k<8->2^k<n->n<=2*2^k->2^k=yEq n:=by decide+kernel
theorem rfirst_s(n:Nat)(h2:2<=n)(h:n<=256):PS cfg G 327 [.int .i64 (n:Int)] (.int .i64 (yEq n:Nat)):=by
 refine gI 12 O (λR k0=>?_);refine gLo (α:=Nat×Nat) 0 (λp=>p.2=2^p.1/\p.2<n/\1<=p.2) (λp=>[(3,.int .i64 (p.2:Nat))]) [0,2] (λp=>n-p.2) ((0,1)) rfl (⟨rfl,by show 1<n;omega,Nat.le_refl _⟩) (λp hI=>?_);obtain⟨k,q⟩:=p;obtain⟨g1,g2,g3⟩:=hI;simp only at g1 g2 g3⊢;refine gA 4 O (2*q) ?_;refine gS 4 O (λh1=>?_) (λh1=>?_)
 ·have hq:2*q<n:=by omega
  exact gA 5 O (2*q) (gAg 3 O ((k+1,2*q)) (⟨by simp only;rw[g1,Nat.pow_succ];omega,hq,by simp only;omega⟩) Yf)
 ·have hq:n<=2*q:=by omega
  have hk:k<8:=by
   have:2^k<2^8:=by rw[<-g1];show q<256;omega
   exact(Nat.pow_lt_pow_iff_right Xd).1 this
  exact gO 2 O (gQ 9 O (by rw[g1,first_ok n h k hk (by rw[<-g1];exact g2) (by rw[<-g1];exact hq)]))
theorem rtwbody_s(ds:List Depo)(xs:List Tx)(f g:Bool)(hd:ds.length<=1000000)(hx:xs.length<=1000000):PS cfg G 72 [bodW ds xs f g] (bodW ds xs false false):=by
 have e1:(ds.map pdW).length=ds.length:=List.length_map _;have e2:(xs.map txW).length=xs.length:=List.length_map _;refine gI 17 O (λR k0=>?_)
 (refine znq rfl (JUq (k:=ti186) (e:=34) (news:=ds.map pdW) O O O O O O O O O Xh (by rw[e1];show _*48<=_;omega) Xd ?_))
 refine ziq 10 O ?_
 (refine znq rfl (JUq (k:=ti91) (e:=99) (news:=xs.map txW) O O O O O O O O O Xh (by rw[e2];show _*120<=_;omega) Xd ?_))
 exact ziq 11 O (gQa 0 O)
structure SmallC(c:Ch):Prop where
 nodes:c.tree.nodes.length<=1000000
 vals:∀x∈c.tree.nodes,x.val.length<=70368744177664
 len:c.links.length<=1000000
 link:∀x∈c.links,x.ds.length<=1000000/\x.xs.length<=1000000/\x.rs.length<=1000000
theorem c_get(b:Nat)(l:List W)(t:Tree):ydq 50 (.agg 3 [tW t,gW b 102 l]) 2 1 false=some (gW b 102 l):=by cases l<;>rfl
theorem c_put(b:Nat)(l:List W)(t:Tree)(b' n:Nat):qGq 50 (.agg 3 [tW t,gW b 102 l]) 2 (.sl b' 0 0 n 102 none)=some (.agg 3 [tW t,.sl b' 0 0 n 102 none]):=by cases l<;>rfl
theorem rchtwin_s(c:Ch)(hs:SmallC c):PS cfg G 10 [chG c] (chG c):=by
 obtain⟨q1,q2,q3,q4⟩:=hs;have e:(c.links.map lkG).length=c.links.length:=List.length_map _;refine gIv 10 O (λR k0=>gC 0 O (rttwin_s c.tree Xd q2) (zfq 8 O (jVq (λ_=>x4q (fr2:=[(1,.ptr 0 0),(2,.ptr 1 0),(3,.ptr 2 0)]) ⟨rfl,rfl,rfl,trivial⟩) (zeq O O ?_))))
 refine ziq 3 O ?_;refine qJq (α:=Nat) (λi=>i<=c.links.length) (λi=>[(4,.int .i64 (i:Int))]) [(1,_),(2,_),(3,_)] (λi=>[(2,27,.agg 3 [tW c.tree,gW 3 102 ((c.links.take i).map lkG)]),(1,27,.agg 3 [.agg 2 [.nils,.int .i64 0],.nils]),(0,27,chG c)]++gH 3 155 102 ((c.links.take i).map lkG)) (λi=>c.links.length-i) (0) ⟨rfl,rfl,rfl,trivial⟩ (Nat.zero_le _) ⟨rfl,trivial⟩ (rfl) (λi hI=>?_);refine zPq 6 O (gZ 0 O e ?_);refine gS 3 O (λh1=>?_) (λh1=>?_)
 ·have hi:i<c.links.length:=by omega
  obtain⟨x,hx⟩:∃x,c.links[i]? =some x:=⟨_,List.getElem?_eq_getElem hi⟩
  obtain⟨b1,b2,b3⟩:=q4 x (List.mem_of_getElem? hx);have e3:(x.rs.map rcW).length=x.rs.length:=List.length_map _;have el:((c.links.take i).map lkG).length=i:=by simp;omega
  have es:(c.links.take (i+1)).map lkG=(c.links.take i).map lkG++[lkG x]:=by rw[List.take_add_one,hx,List.map_append];rfl
  have ep:purL ((c.links.take i).map lkG++[lkG x])=true:=by rw[<-es];exact kFq _
  refine gP 9 O (zuq (i:=i) O O O O O O O (zpq lkG hx)) (gC 9 O (rtwbody_s x.ds x.xs false false b1 b2) (zfq 14 O ?_))
  (refine znq rfl (JUq (k:=ti98) (e:=34) (news:=x.rs.map rcW) O O O O O O O O O Xh (by rw[e3];show _*48<=_;omega) Xd ?_))
  refine ziq 6 O (gM 0 O (ybq O O O (c_get 3 _ _)) (gM 2 O (z5q O O (jmq [_,_,_,_,_] (k:=ti155) (news:=[lkG x]) O O O O O (z6q O O O O) Xh (by show(((c.links.take i).map lkG).length+1)*192<=_;omega) (by show((c.links.take i).map lkG).length+1<=_;omega) rfl Xh)) (gM 1 O (jtq O O O O O (c_put 3 _ _ _ _) rfl) (gA 5 O (i+1) (zfq 2 O ?_)))));skip
  refine ygq (i+1) hi Xd ?_;simp only;have hne:(c.links.take i).map lkG++[lkG x]≠[]:=List.append_ne_nil_of_right_ne_nil _ Xh;rw[es,kGq hne,kHq hne];refine yGq (b:=3) (k:=7) Xd Xd Xd ⟨⟨rfl,rfl⟩,⟨rfl,rfl⟩,⟨rfl,rfl⟩,⟨rfl,rfl⟩,trivial⟩ ⟨⟨by omega,?_,?_⟩,⟨by omega,rfl,rfl⟩,⟨by omega,?_,zcq Xh⟩,⟨by omega,?_,zcq ep⟩,trivial⟩ Xh
  ·show some (_,W.agg 3 [_,_])=some (_,W.agg 3 [renW _ (tW c.tree),renW _ (.sl 3 0 0 _ 102 none)]);rw[zgq (qCq _)];rfl
  ·show(refB _ (tW c.tree)&&_)=true;rw[zcq (qCq _)];rfl
  ·rw[zgq Xh];rfl
  ·rw[zgq (by exact ep)];rfl
 ·have hi:i=c.links.length:=by omega
  subst hi;rw[List.take_length];exact zfq 2 O (y3q Xi (zHq 9 O (qZq Jw O (.agg (.cons (.pur Xh) (.cons (xZq (H0:=[(2,27,.agg 3 [tW c.tree,gW 3 102 (c.links.map lkG)]),(1,27,.agg 3 [tW c.tree,gW 3 102 (c.links.map lkG)]),(0,27,chG c)]) Xm (kFq _) Xh) .nil))))))
def k0q(c:Ch)(n:Nat):Prop:=JHq c.tree 900\/n<c.links.length\/∃x∈c.links,y5q x.ds x.xs\/40<x.rs.length
noncomputable instance(c:Ch)(n:Nat):Decidable (k0q c n):=Classical.propDecidable _
theorem vUq(c:Ch)(n:Nat)(hb:c.tree.nodes.length<=4611686018427387903)(hl:c.links.length<=4611686018427387903):PS cfg G 9 [chG c,.int .i64 (n:Int)] (.bool (decide (k0q c n))):=by
 by_cases hg:JHq c.tree 900
 ·skip
  exact gI 11 O (λR k0=>gC 0 O (zzq (w':=.bool true) (great_s c.tree 900 hb Xd) (by rw[decide_eq_true (hg)])) (gQ 17 O (Q0q (.inl hg))))
 refine gI 11 O (λR k0=>gC 0 O (zzq (w':=.bool false) (great_s c.tree 900 hb Xd) (by rw[decide_eq_false (hg)])) (gZ 3 O LMq (gU 1 O ?_)));refine gS 3 O (λh1=>?_) (λh1=>?_)
 ·exact gQ 7 O (Q0q (.inr (.inl Xd)))
 refine gLo (α:=Nat) 9 (λi=>i<=c.links.length/\∀j x,j<i->c.links[j]? =some x->¬(y5q x.ds x.xs\/40<x.rs.length)) (λi=>[(5,.int .i64 (i:Int))]) [2,4] (λi=>c.links.length-i) (0) rfl (⟨Nat.zero_le _,λj x h=>by omega⟩) (λi hI=>?_);obtain⟨g1,g2⟩:=hI;refine gZ 6 O LMq ?_;refine gS 3 O (λh2=>?_) (λh2=>?_)
 ·have hi:i<c.links.length:=by omega
  obtain⟨x,hx⟩:∃x,c.links[i]? =some x:=⟨_,List.getElem?_eq_getElem hi⟩
  refine gP 9 O (zuq (i:=i) O O O O O O O (zpq lkG hx)) (gC 2 O (great16_s x.ds x.xs false false) ?_);refine gB 0 O (λh3=>?_) (λh3=>?_)
  ·exact gO 21 O (gQ 2 O (Q0q (.inr (.inr ⟨x,List.mem_of_getElem? hx,.inl h3⟩))))
  ·refine gP 4 O (zuq (i:=i) O O O O O O O (zpq lkG hx)) (gZ 2 O LMq (gU 0 O ?_));refine gS 3 O (λh4=>?_) (λh4=>?_)
   ·exact gO 8 O (gQ 2 O (Q0q (.inr (.inr ⟨x,List.mem_of_getElem? hx,.inr Xd⟩))))
   ·exact gA 5 O (i+1) (gAg 2 O (i+1) (⟨hi,λj y hj hy=>by rcases Nat.lt_succ_iff_lt_or_eq.1 hj with q|rfl;exact g2 j y q hy;exact Option.some.inj (hx.symm.trans hy)▸λq=>q.elim h3 Xd⟩) Xd)
 ·have no:¬k0q c n:=by
   rintro(q|q|⟨x,hx,q⟩)
   ·exact hg q
   ·omega
   ·obtain⟨j,hj⟩:=List.getElem?_of_mem hx;exact g2 j x (by have:=kaq hj;omega) hj q
  exact gO 2 O (gQ 8 O (yVq no))
theorem Y7q{c:Ch}{n:Nat}(h:¬k0q c n):c.tree.nodes.length<=900/\c.links.length<=n/\∀x∈c.links,¬y5q x.ds x.xs/\x.rs.length<=40:=
 ⟨Nat.le_of_not_lt λq=>h (.inl (.inl q)),Nat.le_of_not_lt λq=>h (.inr (.inl q)),λx hx=>⟨λq=>h (.inr (.inr ⟨x,hx,.inl q⟩)),Nat.le_of_not_lt λq=>h (.inr (.inr ⟨x,hx,.inr q⟩))⟩⟩
theorem clink_s(x:Lk)(h:x.ds.length<=1000000/\x.xs.length<=1000000/\x.rs.length<=1000000):PS cfg G 101 [lkG x] (lkG x):=by
 obtain⟨h1,h2,h3⟩:=h;exact gI 11 O (λR k0=>gC 0 O (cld_s x.ds false Xd) (gC 3 O (clx_s x.xs false Xd) (gC 9 O (clr_s x.rs false Xd) (gQa 11 O))))
theorem ctrn_s(l:List Lk)(f:Bool)(hl:l.length<=1000000)(hs:∀x∈l,x.ds.length<=1000000/\x.xs.length<=1000000/\x.rs.length<=1000000):PL cfg G 100 [.fz (l.map lkG) 102 f,.fn 101 [] []] 155 102 (l.map lkG):=by
 intro R;refine gIs 14 O (λk0=>?_);refine gZ 0 O LMq (zfq 4 O ?_);refine xSq (α:=Nat) (λi=>i<=l.length) 5 (λi=>(l.take i).map lkG) 155 102 (λi=>[(10,.int .i64 (i:Int))]) [(1,_),(4,_),(8,_),(9,_)] _ (λi=>l.length-i) (0) ⟨rfl,rfl,rfl,rfl,trivial⟩ (Nat.zero_le _) ⟨rfl,trivial⟩ O O O (λi hI=>?_);refine zPq 6 O ?_;refine gS 0 O (λh1=>?_) (λh1=>?_)
 ·have hi:i<l.length:=by omega
  obtain⟨x,hx⟩:∃x,l[i]? =some x:=⟨_,List.getElem?_eq_getElem hi⟩
  have es:(l.take (i+1)).map lkG=(l.take i).map lkG++[lkG x]:=by rw[List.take_add_one,hx,List.map_append];rfl
  have el:((l.take i).map lkG).length=i:=by simp;omega
  have ep:purL ((l.take i).map lkG++[lkG x])=true:=by rw[<-es];exact kFq _
  have ep2:purL ((l.take i).map lkG)=true:=kFq _;exact gP 6 O (zuq (i:=i) O O O O O O O (zpq lkG hx)) (gC 9 O (clink_s x (hs x (List.mem_of_getElem? hx))) (gM 1 O (z5q O O (jmq [_,_] (k:=ti155) (news:=[lkG x]) O O O O O (z6q O O O O) Xh (by show(((l.take i).map lkG).length+1)*192<=_;omega) (by show((l.take i).map lkG).length+1<=_;omega) rfl Xh)) (gWr 5 O (zfq 2 O (q8q 3 (i+1) (hi) Xd (Nat.zero_le _) (es) Xw Xd Ym rfl Xy ⟨rfl,trivial⟩ ⟨rfl,rfl,rfl,rfl,trivial⟩ Xg Xg rfl Xk Xj Ya)))))
 ·have hi:i=l.length:=by omega
  subst hi;rw[List.take_length];exact zfq 2 O (y3q Xi (zHq 9 O (fin Jw (z0q (fr2:=[(4,gW 0 102 (l.map lkG))]) ⟨rfl,trivial⟩ O O) rfl ⟨rfl,rfl,rfl,rfl⟩)))
theorem SmallC.vl{c:Ch}(h:SmallC c):c.tree.nodes.length<=1000000000:=by have:=h.nodes;omega
noncomputable def ownC(b:Nat)(c:Ch):W:=.agg 3 [tW c.tree,.sl b 0 0 c.links.length 102 none]
noncomputable def ownH(b0 b1 b:Nat)(c:Ch):HpW:=[(b,155,.arr (c.links.length*102) 102 (c.links.map lkG)),(b1,27,ownC b c),(b0,27,chG c)]
theorem ctwin_o(c:Ch)(hs:SmallC c)(hne:c.links≠[]):yYq cfg G 24 0 [chG c] [] λw hp nw=>w=ownC 2 c/\hp=ownH 0 1 2 c/\nw=3:=by
 have hne2:c.links.map lkG≠[]:=by simpa using hne
 have e:(c.links.map lkG).length=c.links.length:=List.length_map _;intro R;refine gIs 10 O (λk0=>?_);refine gC 0 O (x7q c.tree hs.vl hs.vals) (zfq 2 O ?_)
 (refine zZq rfl (kxq O O O O O (by simp[purL,purW]) (ctrn_s c.links false hs.len hs.link) (kFq _) ?_);refine⟨by first|rfl|kernel_rfl,?_⟩;rw[kGq hne2,kHq hne2,e])
 exact yaq 5 O (fin Jw Ent.refl rfl ⟨rfl,rfl,rfl,rfl⟩)
theorem ctwin_s(c:Ch)(hs:SmallC c)(hne:c.links≠[]):PS cfg G 24 [chG c] (chG c):=λR=>
 uaq (kkq (ctwin_o c hs hne) (Q:=λw hp _=>View (blkA hp) w (chG c)) (λw hp nw h=>by
  obtain⟨rfl,rfl,rfl⟩:=h;exact .agg (.cons (.pur (qCq _)) (.cons (.sl (full:=false) rfl (kFq _) (zhq Xm (by rw[List.length_map]) rfl) Xi) .nil))) R)
theorem hdZ_b:W.agg 98 [.int .i64 0,.arr 32 1 (List.replicate 32 (.int .u8 (.ofNat 0))),.arr 32 1 (List.replicate 32 (.int .u8 (.ofNat 0))),.arr 32 1 (List.replicate 32 (.int .u8 (.ofNat 0))),.int .i64 0]=hdW hdZ:=by
 rw[jOq];rfl
theorem chead_no(c:Ch)(hc:OkC c)(h:¬MayC c):PS cfg glK 11 [chG c] (.tup [hdW hdZ,.int .i64 8]):=by
 exact gI 11 O (λR k0=>gC 0 O (zzq (w':=.int .i64 8) (qYq c hc) (by rw[if_neg h])) (gTa 6 O (gV (w':=hdW hdZ) 5 O hdZ_b (gQa 7 O))))
theorem chead_s(c:Ch)(hc:OkC c)(h:MayC c){y:Lk}(hy:c.links[c.links.length-1]? =some y):PS cfg glK 11 [chG c] (.tup [hdW y.hdr,.int .i64 0]):=by
 have h1:=h.one;have hl:=hc.len;exact gI 11 O (λR k0=>gC 0 O (zzq (w':=.int .i64 0) (qYq c hc) (by rw[if_pos h])) (gFa 6 O (gZ 11 O LMq (gA 0 O (c.links.length-1) (gP 0 O (zuq (i:=c.links.length-1) O O O O O O O (zpq lkG hy)) (gQa 7 O))))))
theorem cstate_no(c:Ch)(hc:OkC c)(h:Int)(hm:¬MayC c):PS cfg glK 13 [chG c,.int .i64 h] (.tup [noT,.int .i64 8]):=by
 exact gI 12 O (λR k0=>gC 0 O (zzq (w':=.int .i64 8) (qYq c hc) (by rw[if_neg hm])) (gTa 0 O (gQa 14 O)))
theorem cstate_arg(c:Ch)(hc:OkC c)(h:Int)(hm:MayC c)(hh:h<0\/(c.links.length:Int)<=h):PS cfg glK 13 [chG c,.int .i64 h] (.tup [noT,.int .i64 2]):=by
 by_cases h0:h<0
 ·skip
  exact gI 12 O (λR k0=>gC 0 O (zzq (w':=.int .i64 0) (qYq c hc) Ja) (gFa 0 O (gT 7 O (ltI_iff.2 (h0)) (gQa 21 O))))
 ·skip
  exact gI 12 O (λR k0=>gC 0 O (zzq (w':=.int .i64 0) (qYq c hc) Ja) (gFa 0 O (gF 7 O (ltI_not.2 (h0)) (gZ 4 O LMq (gT 0 O (congrArg not (ltI_not.2 Xd)) (gQa 15 O))))))
theorem cstate_s(c:Ch)(hc:OkC c)(hs:SmallC c)(i:Nat)(hm:MayC c){x:Lk}(hx:c.links[i]? =some x):PS cfg glK 13 [chG c,.int .i64 (i:Int)] (.tup [tW (verT c x.root),.int .i64 0]):=by
 have hi:=kaq hx;refine gI 12 O (λR k0=>gC 0 O (zzq (w':=.int .i64 0) (qYq c hc) Ja) (gFa 0 O (gF 7 O (ltI_not.2 Xd) (gZ 4 O LMq (gF 0 O (congrArg not (ltI_iff.2 Xd)) (gP 15 O (zuq (i:=i) O O O O O O O (zpq lkG hx)) (gC 2 O (Z7q c.tree x.root) ?_)))))));first|refine gC 0 O (x7q (verT c x.root) hs.vl hs.vals) ?_|refine gC 0 O (x7q c.tree hs.vl hs.vals) ?_
 exact gQa 5 O
noncomputable def noCh:W:=.agg 3 [.agg 2 [.nils,.int .i64 0],.nils]
theorem ccut_no(c:Ch)(hc:OkC c)(h:Int)(hm:¬MayC c):PS cfg glK 15 [chG c,.int .i64 h] (.tup [noCh,.int .i64 8]):=by
 exact gI 12 O (λR k0=>gC 0 O (zzq (w':=.int .i64 8) (qYq c hc) (by rw[if_neg hm])) (gTa 0 O (gQa 14 O)))
theorem ccut_arg(c:Ch)(hc:OkC c)(h:Int)(hm:MayC c)(hh:h<0\/(c.links.length:Int)<=h):PS cfg glK 15 [chG c,.int .i64 h] (.tup [noCh,.int .i64 2]):=by
 by_cases h0:h<0
 ·skip
  exact gI 12 O (λR k0=>gC 0 O (zzq (w':=.int .i64 0) (qYq c hc) Ja) (gFa 0 O (gT 7 O (ltI_iff.2 (h0)) (gQa 21 O))))
 ·skip
  exact gI 12 O (λR k0=>gC 0 O (zzq (w':=.int .i64 0) (qYq c hc) Ja) (gFa 0 O (gF 7 O (ltI_not.2 (h0)) (gZ 4 O LMq (gT 0 O (congrArg not (ltI_not.2 Xd)) (gQa 15 O))))))
theorem take_at{α:Type}{l:List α}{i:Nat}{x:α}(h:l[i]? =some x):(l.take (i+1))[i]? =some x:=by
 rw[List.getElem?_take,if_pos (Nat.lt_succ_self _)];exact h
theorem ccut_s(c:Ch)(hc:OkC c)(hs:SmallC c)(i:Nat)(hm:MayC c){x:Lk}(hx:c.links[i]? =some x):PS cfg glK 15 [chG c,.int .i64 (i:Int)] (.tup [chG (cutC c i x),.int .i64 0]):=by
 have hi:=kaq hx;have h1:=hs.len;have e2:((c.links.map lkG).take (i+1))=(c.links.take (i+1)).map lkG:=(List.map_take ..).symm;exact gIv 12 O (λR k0=>gC 0 O (zzq (w':=.int .i64 0) (qYq c hc) Ja) (gFa 0 O (gF 7 O (ltI_not.2 Xd) (gZ 4 O LMq (gF 0 O (congrArg not (ltI_iff.2 Xd)) (gC 11 O (ctwin_s c hs (λq=>by rw[q] at hi;cases hi)) (gA 9 O (i+1) (gA 1 O (i+1) (gP 0 O (cut_fz3 (ys:=(c.links.take (i+1)).map lkG) (h:=i+1) (m:=i+1) (g:=true) O O O O O O O O Xd (Nat.le_refl _) (by rw[LMq];omega) Xd (by rw[List.drop_zero,Nat.sub_zero];exact e2) (Nat.beq_refl _)) (gP 9 O (zuq (i:=i) O O O O O O O (zpq lkG (take_at hx))) (zfq 15 O (qZq Jw rfl (.tup (.cons (.agg (.cons (.pur (qCq (verT c x.root))) (.cons (.fzw (kFq _)) .nil))) (.cons (.pur rfl) .nil)))))))))))))))
theorem seqb_s(a b:List UInt8)(f g:Bool)(hb:a.length<=1000000000):PS cfg G 190 [.fz (zaq a) 1 f,.fz (zaq b) 1 g] (.bool (decide (a=b))):=by
 have ea:=zdq a;have eb:=zdq b;refine gI 9 O (λR k0=>gZ 0 O ea (gZ 1 O eb ?_));refine gS 3 O (λh1=>?_) (λh1=>?_)
 ·exact gQ 7 O Yi
 ·refine gZ 6 O ea ?_;refine gLo (α:=Nat) 4 (λi=>i<=a.length/\a.take i=b.take i) (λi=>[(13,.int .i64 (i:Int))]) [0,1,4,12] (λi=>a.length-i) (0) rfl (⟨Nat.zero_le _,rfl⟩) (λi hI=>?_);obtain⟨g1,g2⟩:=hI;refine gS 6 O (λh2=>?_) (λh2=>?_)
  ·obtain⟨x,hx⟩:∃x,a[i]? =some x:=⟨_,List.getElem?_eq_getElem Xd⟩
   obtain⟨y,hy⟩:∃y,b[i]? =some y:=⟨_,List.getElem?_eq_getElem Xd⟩
   refine gP 14 O (zuq (i:=i) O O O O O O O (xjq hx)) (gP 3 O (zuq (i:=i) O O O O O O O (xjq hy)) ?_);refine gS 4 O (λh3=>?_) (λh3=>?_)
   ·exact gO 8 O (gQ 2 O (by rw[decide_eq_false (Yaq hx hy λq=>h3 Qb)]))
   ·exact gA 4 O (i+1) (gAg 2 O (i+1) (⟨by omega,qOq g2 hx hy (UInt8.toNat_inj.1 (Int.ofNat.inj (Classical.not_not.1 h3)))⟩) Xd)
  ·exact gO 2 O (gQ 8 O Yo)
theorem psame1_s(a b:Pr)(hl:a.2.length<=1000000000):PS cfg G 259 [pW a,pW b] (.bool (decide (a=b))):=by
 refine gI 13 O (λR k0=>?_);refine gDe 0 O (yvq O O O O (yNq O O O O O O _ _ 250)) z1q (λh1=>?_) (λh1=>?_)
 ·exact gC 5 O (seqb_s _ _ _ _ Xd) (gQ 5 O (dec_c ⟨λq=>Prod.ext (by simpa using h1) q,λq=>by rw[q]⟩))
 ·exact gQ 11 O (yVq λq=>h1 Qb)
theorem seqp_s(a b:List Pr)(f g:Bool)(hb:a.length<=1000000000)(hl:∀x∈a,x.2.length<=1000000000):PS cfg G 258 [.fz (a.map pW) 33 f,.fz (b.map pW) 33 g,.fn 259 [] []] (.bool (decide (a=b))):=by
 refine gI 9 O (λR k0=>gZ 0 O LMq (gZ 1 O LMq ?_));refine gS 3 O (λh1=>?_) (λh1=>?_)
 ·exact gQ 7 O Yi
 ·refine gZ 6 O LMq ?_;refine gLo (α:=Nat) 4 (λi=>i<=a.length/\a.take i=b.take i) (λi=>[(17,.int .i64 (i:Int))]) [1,2,6,15,16] (λi=>a.length-i) (0) rfl (⟨Nat.zero_le _,rfl⟩) (λi hI=>?_);obtain⟨g1,g2⟩:=hI;refine gS 6 O (λh2=>?_) (λh2=>?_)
  ·obtain⟨x,hx⟩:∃x,a[i]? =some x:=⟨_,List.getElem?_eq_getElem Xd⟩
   obtain⟨y,hy⟩:∃y,b[i]? =some y:=⟨_,List.getElem?_eq_getElem Xd⟩
   refine gP 7 O (zuq (i:=i) O O O O O O O (zpq pW hx)) (gP 10 O (zuq (i:=i) O O O O O O O (zpq pW hy)) (gC 10 O (psame1_s x y (hl x (List.mem_of_getElem? hx))) ?_));refine gS 3 O (λh3=>?_) (λh3=>?_)
   ·exact gO 8 O (gQ 2 O Jq)
   ·exact gA 4 O (i+1) (gAg 2 O (i+1) (⟨by omega,qOq g2 hx hy Yw⟩) Xd)
  ·exact gO 2 O (gQ 8 O Yo)
theorem psame_s(a b:List Pr)(f g:Bool)(hb:a.length<=1000000000)(hl:∀x∈a,x.2.length<=1000000000):PS cfg G 182 [.fz (a.map pW) 33 f,.fz (b.map pW) 33 g] (.bool (decide (a=b))):=by
 exact gI 9 O (λR k0=>gC 0 O (seqp_s a b f g hb hl) (gQa 4 O))
theorem calike_s{t u:Tree}{n m:Nat}{a b:T}(ht:IsT t n a)(hu:IsT u m b):PS cfg G 89 [tW t,tW u] (.bool (decide (a.all=b.all))):=by
 have h1:=ht.all_le;have h2:=ht.len;exact gI 10 O (λR k0=>gC 0 O (JOq t n a ht) (gC 10 O (JOq u m b hu) (gC 11 O (psame_s a.all b.all false false Xd (λx hx=>by have:=(ht.val x hx).2;omega)) (gQa 4 O))))
end
section
attribute [local irreducible] CoW OpW FlW Step Spec
attribute [local simp] qeq
def NextS(c:Ch)(box:Dig)(x y:Lk):Prop:=∃n t0 n1 t1 rs,IsA (verT c y.root) n t0/\IsA (verT c x.root) n1 t1/\doX box (doD t0.all x.ds).1 x.xs=some (t1.all,rs)/\x.hdr=Ybq y.hdr t1 ((doD t0.all x.ds).2++rs)/\x.rs=((doD t0.all x.ds).2++rs).map recI
theorem Jhq{c:Ch}{box:Dig}{x y:Lk}{n:Nat}{t0:T}(hA:IsA (verT c y.root) n t0)(e:doX box (doD t0.all x.ds).1 x.xs=none):¬NextS c box x y:=by
 rintro⟨n',t0',n1,t1,rs,h1,h2,h3,_⟩;obtain⟨rfl,rfl⟩:=hA.uniq h1;rw[e] at h3;cases h3
theorem nextS_some{c:Ch}{box:Dig}{x y:Lk}{n n2 nx:Nat}{t0 t2 tx:T}{t':Tree}{l:List Pr}{rs:List Rec}(hA:IsA (verT c y.root) n t0)(e:doX box (doD t0.all x.ds).1 x.xs=some (l,rs))(hT:IsA t' n2 t2)(hl:t2.all=l)(hX:IsA (verT c x.root) nx tx):NextS c box x y↔Ybq y.hdr t2 ((doD t0.all x.ds).2++rs)=x.hdr/\((doD t0.all x.ds).2++rs).map recI=x.rs/\t2.all=tx.all:=by
 constructor
 ·rintro⟨n',t0',n1,t1,rs',h1,h2,h3,h4,h5⟩;obtain⟨rfl,rfl⟩:=hA.uniq h1;obtain⟨rfl,rfl⟩:=hX.uniq h2;rw[e] at h3;cases h3;have q:t2=tx:=hT.toIsT.same hX.toIsT hl;subst q;exact⟨h4.symm,h5.symm,rfl⟩
 ·rintro⟨h1,h2,h3⟩;have q:t2=tx:=hT.toIsT.same hX.toIsT h3;subst q;exact⟨n,t0,nx,t2,rs,hA,hX,by rw[e,hl],h1.symm,h2.symm⟩
theorem LkS.of0{c:Ch}{box:Dig}{x:Lk}(h:∃n t0,IsA (verT c x.root) n t0/\x.hdr=firH t0/\x.ds=[]/\x.xs=[]):LkS c box 0 x:=⟨λ_=>h,λy h0=>absurd h0 Xm⟩
theorem firH_b(t0:T):W.agg 98 [.int .i64 0,.arr 32 1 (List.replicate 32 (.int .u8 (.ofNat 0))),dW (sumD t0),dW (tagD 0 []),.int .i64 0]=hdW (firH t0):=by
 rw[jOq];rfl
theorem csound_s(c:Ch)(hc:OkC c)(hn:c.tree.nodes.length<=200000)(box:Dig):PS cfg glK 21 [chG c,dW box] (.bool (decide (SoundC c box))):=by
 by_cases hm:MayC c
 ·skip
  refine gI 11 O (λR k0=>gC 0 O (zzq (w':=.int .i64 0) (qYq c hc) Ja) (gFa 0 O (gC 10 O (ceach_s _ _) (zfq 3 O ?_))));refine v9q (encL c.links) (List.range c.links.length) (λi (_:Unit)=>∀j x,j<i->c.links[j]? =some x->LkS c box j x) (λ_=>R) (()) rfl Xk (ceach_it c.links false hc.len) (encL_ok c.links) (λj x hj=>by omega) rfl (λi a y hy hI=>?_) (λa hI=>?_)
  ·have hi:i<c.links.length:=by have:=kaq hy;simpa using this
   obtain rfl:i=y:=by rw[J6q hi] at hy;exact Option.some.inj hy
   obtain⟨x,hx⟩:∃x,c.links[i]? =some x:=⟨_,List.getElem?_eq_getElem hi⟩
   have hmx:=hm.link i x hx;have hB:=hc.body x (List.mem_of_getElem? hx);obtain⟨nx,tx,hX⟩:=hmx.tree;have l1:=hmx.body.1;have l2:=hmx.body.2.1;have goes:LkS c box i x->∀j w,j<i+1->c.links[j]? =some w->LkS c box j w:=λhS j w hj hw=>by rcases Nat.lt_succ_iff_lt_or_eq.1 hj with q|rfl;exact hI j w q hw;exact Option.some.inj (hx.symm.trans hw)▸hS
   have hhe:=hmx.height;skip
   cases i with
   |zero=>
    rw[show encL c.links 0=[lkG x,lkZ] by unfold encL;rw[lkA_at hx];rfl];refine zPq 10 O (vEq (zPq 7 O (gC 0 O (Z7q c.tree x.root) (gT 10 O (eqI_iff.2 (hhe)) (gC 6 O (tsum_ok (verT c x.root) nx tx hX.toIsT) (gC 14 O (JPq) (gV (w':=hdW (firH tx)) 0 O (firH_b tx) ?_)))))));refine gDe 0 O (yWq O O O O (uvq _ _)) (qtq z1q) (λh1=>?_) (λh1=>?_)
    ·have hno:¬SoundC c box:=λq=>by
      obtain⟨n',t',h1',h2',_⟩:=(q.sound 0 x hx).first rfl;obtain⟨_,rfl⟩:=hX.uniq h1';exact h1 h2'
     exact zfq 24 O (kdq Xi (zHq 2 O (gQ 0 O (yVq hno))))
    ·refine gZ 4 O LMq (gZ 3 O LMq (gA 0 O (x.ds.length+x.xs.length) (gU 0 O ?_)));refine gS 3 O (λh2=>?_) (λh2=>?_)
     ·have hno:¬SoundC c box:=λq=>by
       obtain⟨n',t',_,_,h3',h4'⟩:=(q.sound 0 x hx).first rfl;rw[h3',h4'] at h2;exact absurd h2 Xm
      exact zfq 9 O (kdq Xi (zHq 2 O (gQ 0 O (yVq hno))))
     ·exact zfq 5 O (vDq (()) (goes (LkS.of0 ⟨nx,tx,hX,Classical.not_not.1 h1,List.eq_nil_of_length_eq_zero Xd,List.eq_nil_of_length_eq_zero Xd⟩)) Xd Yg rfl)
   |succ k=>
    obtain⟨z,hz⟩:∃z,c.links[k]? =some z:=⟨_,List.getElem?_eq_getElem Xd⟩
    have hmz:=hm.link k z hz;obtain⟨nz,tz,hA⟩:=hmz.tree;have hhz:=hmz.height;have hl256:=hm.len;have snext:SoundC c box->NextS c box x z:=λq=>(q.sound (k+1) x hx).next z (Nat.succ_pos _) hz
    have hP:=apply_s (verT c z.root) nz tz hA z.hdr hmz.hdr Xd x.ds x.xs false false hB.dep hB.tx box ⟨l1,l2⟩ (by show c.tree.nodes.length+_+_<=_;omega);rw[show encL c.links (k+1)=[lkG x,lkG z] by unfold encL;rw[lkA_at hx];show [lkG x,lkA c.links k]=_;rw[lkA_at hz]];cases hst:doX box (doD tz.all x.ds).1 x.xs with
    |none=>
     have hno:¬SoundC c box:=λq=>Jhq hA hst (snext q)
     have hb:=bad_no hst;refine zPq 10 O (vEq (zPq 7 O ?_));first|refine gC 0 O (Z7q c.tree _) ?_|refine gC 0 O (Z7q c.tree x.root) ?_
     refine gF 10 O (eqI_not.2 Xd) ?_;first|refine gC 11 O (Z7q c.tree _) ?_|refine gC 11 O (Z7q c.tree x.root) ?_
     refine gE 5 O ((pe_mono hP λw h=>ap_none h hst)) ?_;rintro w hw rfl;exact gT 16 O (congrArg not (eqI_not.2 Xd)) (zfq 29 O (kdq Xi (zHq 2 O (gQ 0 O (yVq hno)))))
    |some r=>
     obtain⟨l,rs⟩:=r;obtain⟨L,hL⟩:∃L,(doD tz.all x.ds).2++rs=L:=⟨_,rfl⟩
     have hrl:=ZGq hst;have hdl:=vkq x.ds tz.all;simp only at hrl;have hLl:(L.map recI).length<=32:=by rw[List.length_map,<-hL,List.length_append];omega
     refine zPq 10 O (vEq (zPq 7 O ?_));first|refine gC 0 O (Z7q c.tree _) ?_|refine gC 0 O (Z7q c.tree x.root) ?_
     refine gF 10 O (eqI_not.2 Xd) ?_;first|refine gC 11 O (Z7q c.tree _) ?_|refine gC 11 O (Z7q c.tree x.root) ?_
     refine zfq 5 O ?_
     (refine zZq rfl (step_pe O O O O O hP Xh ?_);rintro w hw hq;obtain⟨t',n',t1,hT,hgo,rfl⟩:=ap_some hq hst;refine⟨by first|rfl|kernel_rfl,?_⟩;have hiff:=nextS_some hA hst hT hgo.1 hX;rw[hL] at hiff⊢;rw[<-recI_w];generalize L.map recI=M at hiff hLl⊢)
     refine yaq 16 O (gFa 0 O ?_);refine gDe 4 O (yWq O O O O (uvq _ _)) (qtq z1q) (λh1=>?_) (λh1=>?_)
     ·have hno:¬SoundC c box:=λq=>h1 (hiff.1 (snext q)).1
      exact zfq 24 O (kdq Xi (zHq 2 O (gQ 0 O (yVq hno))))
     ·skip
      refine gC 5 O (seqr_s M x.rs false false Xd) ?_;refine gB 0 O (λh2=>?_) (λh2=>?_)
      ·refine gC 5 O (calike_s hT.toIsT hX.toIsT) ?_;refine gS 4 O (λh3=>?_) (λh3=>?_)
       ·have hno:¬SoundC c box:=λq=>absurd h3 (by rw[decide_eq_true (hiff.1 (snext q)).2.2];decide)
        exact zfq 7 O (kdq Xi (zHq 2 O (gQ 0 O (yVq hno))))
       ·have hN:NextS c box x z:=hiff.2 ⟨Classical.not_not.1 h1,h2,by simpa using h3⟩;exact zfq 2 O (vDq (()) (goes ⟨λh0=>absurd h0 Xd,λw _ hw=>Option.some.inj (hz.symm.trans hw)▸hN⟩) Xd Yg rfl)
      ·have hno:¬SoundC c box:=λq=>h2 (hiff.1 (snext q)).2.1
       exact zfq 18 O (kdq Xi (zHq 2 O (gQ 0 O (yVq hno))))
  ·have yes:SoundC c box:=⟨hm,λj x hx=>hI j x (by have:=kaq hx;simpa using this) hx⟩;exact zHq 8 O (gQ 0 O (Q0q yes))
 ·skip
  exact gI 11 O (λR k0=>gC 0 O (zzq (w':=.int .i64 8) (qYq c hc) (by rw[if_neg hm])) (gTa 0 O (gQ 10 O (yVq λq=>hm q.toMayC))))
end
section
attribute [local irreducible] CoW OpW FlW Step Spec
attribute [local simp] qeq
open Classical in
noncomputable def heldL(t:Tree):List Pr:=if h:∃n t0,IsA t n t0 then h.choose_spec.choose.all else []
structure CanAdd(c:Ch)(ds:List Depo)(xs:List Tx)(box:Dig):Prop where
 may:MayC c
 short:c.links.length<256
 many:ds.length<=16/\xs.length<=16
 goes:doX box (doD (heldL c.tree) ds).1 xs≠none
noncomputable instance(c:Ch)(ds:List Depo)(xs:List Tx)(box:Dig):Decidable (CanAdd c ds xs box):=Classical.propDecidable _
end
section
attribute [local irreducible] CoW OpW FlW Step Spec
variable {G:Nat->Option W}
theorem take_with{l:List Pr}(h:Srt l){i:Nat}{x:Pr}(hx:l[i]? =some x):ksq (l.take i) x.1 x.2=l.take (i+1):=by
 obtain⟨hi,ex⟩:=List.getElem?_eq_some_iff.1 hx
 have hp:∀p∈l.take i,zOq p.1 x.1=true:=λp hp=>by
  obtain⟨j,hj⟩:=List.getElem?_of_mem hp;obtain⟨hj1,hj2⟩:=List.getElem?_eq_some_iff.1 hj;rw[List.length_take] at hj1;rw[List.getElem_take] at hj2;rw[<-hj2,<-ex];exact List.pairwise_iff_getElem.1 h j i Xd hi Xd
 unfold ksq;rw[List.filter_eq_self.2 hp,List.filter_eq_nil_iff.2 λp q=>by rw[qnq (hp p q)];simp,List.take_add_one,hx];rfl
def okB(l:List Pr):Prop:=MayP l/\HeldB l
noncomputable instance(l:List Pr):Decidable (okB l):=Classical.propDecidable _
def Fw(n:Nat)(l:List Pr):Prop:=l.length<=n/\∀x∈l,x.2.length<=64
theorem Fw.few{n:Nat}{l:List Pr}(h:Fw n l):Few n l:=⟨h.1,λx hx=>Nat.le_trans (h.2 x hx) Xd⟩
theorem fw_set{n:Nat}{l:List Pr}(hs:Srt l)(h:Fw n l)(k:Dig)(a:Acct):Fw (n+1) (setL l k a):=by
 have hw:Fw n (zxq l k):=⟨Nat.le_trans (List.length_filter_le ..) h.1,λx hx=>h.2 x (List.mem_filter.1 hx).1⟩;unfold setL;split
 ·exact⟨Nat.le_succ_of_le hw.1,hw.2⟩
 ·rw[<-JIq hs];unfold withR;have e:=List.takeWhile_append_dropWhile (p:=λp:Pr=>zOq p.1 k) (l:=zxq l k);generalize (zxq l k).takeWhile (λp=>zOq p.1 k)=A at*
  generalize (zxq l k).dropWhile (λp=>zOq p.1 k)=B at*
  rw[<-e] at hw;obtain⟨g1,g2⟩:=hw;have lb:=uNq a;refine⟨by simp only[List.length_append,List.length_cons] at g1⊢;omega,λx hx=>?_⟩;rcases List.mem_append.1 hx with q|q
  ·exact g2 x (List.mem_append_left _ q)
  ·rcases List.mem_cons.1 q with rfl|q
   ·show(qKq a).length<=_;omega
   ·exact g2 x (List.mem_append_right _ q)
theorem Kqq{m n:Nat}{l:List Pr}(h:Fw n l)(e:n<=m):Fw m l:=⟨Nat.le_trans h.1 e,h.2⟩
theorem fw_more{n:Nat}{l q:List Pr}{k:Dig}{c:Nat}(hs:Srt l)(h:Fw n l)(hm:quq l k c=some q):Fw (n+1) q:=by
 unfold quq at hm;split at hm
 ·rw[<-Option.some.inj hm];exact fw_set hs h _ _
 ·cases hm
theorem fw_gv{n:Nat}{l:List Pr}(hs:Srt l)(h:Fw n l)(d:Depo):Fw (n+1) (gvL l d).1:=by
 unfold gvL;cases e:quq l d.to d.amount with
 |none=>exact Kqq h Xd
 |some q=>exact fw_more hs h e
theorem doD_snoc(l:List Pr)(ds:List Depo)(d:Depo):doD l (ds++[d])=((gvL (doD l ds).1 d).1,(doD l ds).2++[⟨1,depD d,(gvL (doD l ds).1 d).2⟩]):=doD_app ds [d] l
theorem fw_paid{n:Nat}{l:List Pr}(x:Tx)(box:Dig)(hs:Srt l)(h:Fw n l):Fw (n+4) (yHq l x box).1:=by
 have nS:Srt (jWq l x):=uWq hs _ _;have nF:Fw (n+1) (jWq l x):=fw_set hs h _ _;have lS:Srt (jXq l x):=uWq nS _ _;have lF:Fw (n+2) (jXq l x):=fw_set nS nF _ _;by_cases ho:x.amount+x.fee<=(acL l (keyD x.pub)).balance
 ·cases hm:quq (jXq l x) x.to x.amount with
  |none=>rw[Jgq ho hm];exact Kqq nF Xd
  |some p=>
   have pS:Srt p:=(u7q lS hm).1;have pF:=fw_more lS lF hm;cases hm2:quq p box x.fee with
   |none=>rw[Jfq ho hm hm2];exact Kqq nF Xd
   |some q=>rw[Jeq ho hm hm2];exact fw_more pS pF hm2
 ·rw[uHq ho];exact Kqq nF Xd
theorem gv_in{l:List Pr}(hs:Srt l)(d:Depo):(if 18446744073709551616<=(inA l d.to).balance+d.amount then W.tup [psW l,.int .i64 151] else .tup [psW (QOq l d.to ⟨(inA l d.to).nonce,(inA l d.to).balance+d.amount⟩),.int .i64 0])= .tup [psW (gvL l d).1,.int .i64 ((gvL l d).2:Nat)]:=by
 unfold gvL quq;by_cases h:(acL l d.to).balance+d.amount<18446744073709551616
 ·rw[if_pos h,if_neg (by rw[<-uyq];omega),<-uyq,vrq hs];rfl
 ·rw[if_neg h,if_pos (by rw[<-uyq];omega)];rfl
theorem rgvL_s(l:List Pr)(d:Depo)(hs:Srt l)(hb:Few 1000000 l)(hc:d.amount<18446744073709551616):PS cfg G 264 [psW l,pdW d] (.tup [psW (gvL l d).1,.int .i64 ((gvL l d).2:Nat)]):=zzq (rgiven_s l d hc hb.1 hb.2) (gv_in hs d)
theorem bw_drop(ps:List (List UInt8))(n:Nat):purL (List.drop n (ps.map bW))=true:=by rw[<-List.map_drop];exact ZKq _
theorem bw_take(ps:List (List UInt8))(n:Nat):purL (List.take n (ps.map bW))=true:=by rw[<-List.map_take];exact ZKq _
theorem rw_take(L:List Rec)(n:Nat):purL (List.take n (L.map (bW∘recB)))=true:=by rw[<-List.map_map,<-List.map_take];exact ZKq _
theorem rw_all(L:List Rec):purL (L.map (bW∘recB))=true:=by rw[<-List.map_map];exact ZKq _
attribute [local simp] bw_drop bw_take rw_take rw_all qeq
theorem rrows_s:∀(n:Nat) (ps:List (List UInt8)) (f:Bool),ps.length<=n->ps.length<=256->(∀p∈ps,p.length<=4096) ->PS cfg G 269 [.fz (ps.map bW) 1 f] (dW (Zpq n ps)):=by
 intro n;induction n with
 |zero=>
  intro ps f hn _ _;obtain rfl:ps=[]:=List.eq_nil_of_length_eq_zero Xd;refine gI 9 O (λR k0=>?_);refine gL 0 O ?_;refine gTa 0 O ?_;refine gC 5 O (Yfq) ?_;exact gQa 5 O
 |succ n ih=>
  intro ps f hn hl hp;rcases ps with _|⟨p,_|⟨q,r⟩⟩
  ·skip
   refine gI 9 O (λR k0=>?_);refine gL 0 O ?_;refine gTa 0 O ?_;refine gC 5 O (Yfq) ?_;exact gQa 5 O
  ·have hpl:=hp p Xh;refine gI 9 O (λR k0=>?_);refine gL 0 O ?_;refine gFa 0 O ?_;refine gL 9 O ?_;refine gTa 0 O ?_;refine gX 6 O ?_;refine gC 1 O (udq 7 p Xd) ?_;exact gQa 5 O
  ·show PS cfg G 269 _ (dW (tagD 8 [(Zpq n ((p::q::r).take (yEq (p::q::r).length))).1,(Zpq n ((p::q::r).drop (yEq (p::q::r).length))).1]));have h2:2<=(p::q::r).length:=by simp
   generalize (p::q::r)=ps at*
   obtain⟨k1,k2,k3,k4⟩:=Ypq h2 hl;have e:(ps.map bW).length=ps.length:=List.length_map _
   have b1:Nat.beq (yEq ps.length) (ps.map bW).length=false:=by
    rw[e];cases q:Nat.beq (yEq ps.length) ps.length with
    |false=>rfl
    |true=>have:=Nat.eq_of_beq_eq_true q;omega
   have c1:=ih (ps.take (yEq ps.length)) false Qi Qi λp h=>hp p (List.mem_of_mem_take h)
   have c2:=ih (ps.drop (yEq ps.length)) f Qc Qc λp h=>hp p (List.mem_of_mem_drop h)
   generalize Zpq n (ps.take (yEq ps.length))=d1 at*
   generalize Zpq n (ps.drop (yEq ps.length))=d2 at*
   refine gI 9 O (λR k0=>?_);refine gZ 0 O e ?_;refine gF 0 O (eqI_not.2 (Xd)) ?_;refine gZ 9 O e ?_;refine gF 0 O (eqI_not.2 (Xd)) ?_;refine gZ 8 O e ?_;refine gC 0 O (rfirst_s ps.length h2 hl) ?_;refine gP 7 O (xhq (ys:=(ps.take (yEq ps.length)).map bW) (l:=0) (h:=yEq ps.length) (g:=false) O O O O O O O (Nat.zero_le _) Xd (by rw[List.drop_zero,Nat.sub_zero,List.map_take]) (by rw[b1,Bool.and_false])) ?_;refine gC 0 O (c1) ?_;refine gP 2 O (xhq (ys:=(ps.drop (yEq ps.length)).map bW) (l:=yEq ps.length) (h:=(ps.map bW).length) (g:=f) O O O O O O O Xd (Nat.le_refl _) Qz (by rw[Nat.beq_refl,Bool.and_true])) ?_;refine gC 0 O (c2) ?_;refine zfq 10 O ?_;refine fl_lk O O O O O (.cons (.pur rfl) (.cons (.sl (full:=false) (xs:=zaq d1.1) rfl Xh (zhq Xm (by simp[zdq,d1.2]) rfl) Xi) (.cons (.sl (full:=false) (xs:=zaq d2.1) rfl Xh (zhq Xm (by simp[zdq,d2.2]) rfl) Xi) .nil))) (rtwo_s 8 d1.1 d2.1 false false (by simp[d1.2]) (by simp[d2.2])) Xk Xk Xu ?_;refine yaq 4 O ?_;exact gQa 0 O
theorem rrow_s(L:List Rec)(f:Bool)(hL:∀r∈L,okR r)(hl:L.length<=1000):PS cfg G 270 [.fz (L.map recW) 34 f] (.fz ((L.map recB).map bW) 1 false):=by
 refine gIv 17 O (λR k0=>?_);refine xSq (α:=Nat) (λi=>i<=L.length) 3 (λi=>((L.map recB).take i).map bW) 99 1 (λi=>[(4,.int .i64 (i:Int))]) [(0,_),(2,_)] _ (λi=>L.length-i) (0) ⟨rfl,rfl,trivial⟩ (Nat.zero_le _) ⟨rfl,trivial⟩ O O O (λi hI=>?_);refine zPq 5 O (gZ 0 O LMq ?_);refine gS 3 O (λh1=>?_) (λh1=>?_)
 ·have hi:i<L.length:=by omega
  obtain⟨r,hx⟩:∃r,L[i]? =some r:=⟨_,List.getElem?_eq_getElem hi⟩
  have hr:=hL r (List.mem_of_getElem? hx);have hnx:((L.map recB).take (i+1)).map bW=((L.map recB).take i).map bW++[bW (recB r)]:=by rw[List.take_add_one,List.getElem?_map,hx,List.map_append];rfl
  have hlt:(((L.map recB).take i).map bW).length<=1000:=by rw[List.length_map,List.length_take,List.length_map];omega
  exact gP 8 O (zuq (i:=i) O O O O O O O (zpq recW hx)) (gC 1 O (rfof_s r hr) (gM 1 O (z5q O O (jmq [_] (k:=ti99) (news:=[bW (recB r)]) O O O O O (z6q O O O O) Xh (by show((((L.map recB).take i).map bW).length+1)*24<=_;omega) (by show(((L.map recB).take i).map bW).length+1<=_;omega) rfl Xh)) (gA 6 O (i+1) (zfq 2 O (q8q 2 (i+1) (hi) Xd (Nat.zero_le _) (hnx) Xw Xd Ym rfl Xy ⟨rfl,trivial⟩ ⟨rfl,rfl,trivial⟩ Xg Xg rfl Xk Xj Ya)))))
 ·have hi:i=L.length:=by omega
  subst hi;rw[show(L.map recB).take L.length=L.map recB from List.take_of_length_le Qn];exact zfq 2 O (y3q Xi (zHq 9 O (qZq Xt O (xZq (H0:=[]) Xm (ZKq _) Xh))))
theorem srt_tree{l:List Pr}(hs:Srt l):∃t:T,t.ok 0 qpq=true/\t.all=l:=by
 have key:∀i,i<=l.length->∃t:T,t.ok 0 qpq=true/\t.all=l.take i:=by
  intro i;induction i with
  |zero=>exact λ_=>⟨.nil,rfl,by simp[T.all]⟩
  |succ i ih=>
   intro hi;obtain⟨t,h1,h2⟩:=ih Xd;obtain⟨x,hx⟩:∃x,l[i]? =some x:=⟨_,List.getElem?_eq_getElem Xd⟩
   obtain⟨p1,p2⟩:=keq x.1 x.2 256 t (d:=0) (b:=qpq) rfl jcq h1 (Nat.zero_le _);exact⟨t.put x.1 x.2 256,p1,by rw[p2,h2];exact take_with hs hx⟩
 obtain⟨t,h1,h2⟩:=key l.length (Nat.le_refl _);exact⟨t,h1,by rw[h2,List.take_length]⟩
open Classical in
/-- the trie of pairs in order -/
noncomputable def JNq(l:List Pr):T:=if h:Srt l then(srt_tree h).choose else .nil
theorem trie_ok{l:List Pr}(h:Srt l):(JNq l).ok 0 qpq=true/\(JNq l).all=l:=by
 unfold JNq;rw[dif_pos h];exact(srt_tree h).choose_spec
theorem rhead_s(p:Hdr)(hp:okH p)(l:List Pr)(hs:Srt l)(hf:Fw 1000000 l)(L:List Rec)(hL:∀r∈L,okR r)(hl:L.length<=256):PS cfg G 187 [hdW p,psW l,.fz (L.map recW) 34 false] (hdW (Ybq p (JNq l) L)):=by
 obtain⟨h1,h2⟩:=trie_ok hs;have hr:=rrows_s (G:=G) 256 (L.map recB) false Qn Qn (λq h=>by obtain⟨r,_,rfl⟩:=List.mem_map.1 h;rw[recB_len];omega);have ho:=rof_s (G:=G) (JNq l) 0 qpq false jcq h1 (λq h=>by rw[h2] at h;have:=hf.2 q h;omega) (by rw[h2];exact hf.1);rw[h2] at ho;have q1:=hp.1;have q2:=hp.2.1;exact gI 10 O (λR k0=>gV (w':=.int .i64 (p.height+1)) 0 O (congrArg (W.int .i64) (kTq (show inK .i64 (p.height+1) from Jv))) (gC 1 O (rhname_s p hp) (gC 1 O (ho) (gC 1 O (rrow_s L false hL Xd) (gC 0 O (hr) (gZ 1 O LMq (gQa 5 O)))))))
end
section
attribute [local irreducible] CoW OpW FlW Step Spec
variable {G:Nat->Option W}
section
variable {C:Cfg} {G:Nat->Option W} {m k0:Nat} {rd:Bool} {fr:FrW} {hp:HpW} {nw:Nat} {R:Res} {Q:qvq} {c:Code}
theorem co_loopG2{α:Type}(I:α->Prop)(s:Nat)(L:α->List W)(ty:TypeId)(e:Nat)(V:α->FrW)(kf:FrW)(H0:HpW)(b:Nat)(μ:α->Nat)(a0:α)(hk:subF fr kf)(h0:I a0)(hv:subF fr (V a0))(hm:m<=b)(hnw:b+1<=nw)(hs:getW fr s=some (gW b e (L a0)))(hh0:hp=H0++gH b ty e (L a0))(hr:refF b (V a0))(hr2:refF b kf)(hp2:purL (L a0)=true)(hh:subH hp b H0)(nd:(H0.map (·.1)).Nodup)
  (step:∀a,I a->CoW C G m k0 rd c ((s,gW b e (L a))::(V a++kf)) (H0++gH b ty e (L a)) (b+1) R (xnq C G m k0 I (λa=>(s,gW b e (L a))::(V a++kf)) (λa=>H0++gH b ty e (L a)) (λ_=>b+1) (λ_=>R) μ (μ a) Q)):CoW C G m k0 rd (.loop c) fr hp nw R Q:=
 qmq I (λa=>(s,gW b e (L a))::(V a++kf)) (λa=>H0++gH b ty e (L a)) (λ_=>b+1) (λ_=>R) μ a0 h0 (v0q s hm hnw hs (qWq hv hk) (kWq hr hr2) (λx r hq=>by
  rw[hh0,hq];exact kXq λp hp=>by have:=YFq hh p hp;omega) hp2 hh nd) step
end
attribute [local simp] qeq
theorem few_le{m n:Nat}{l:List Pr}(h:Few n l)(e:n<=m):Few m l:=⟨Nat.le_trans h.1 e,h.2⟩
noncomputable def madeW(l:List Pr)(ds:List Depo)(xs:List Tx)(box:Dig):W:=match doX box (doD l ds).1 xs with
 |some r=>.tup [psW r.1,.fz (((doD l ds).2++r.2).map recW) 34 false,.int .i64 0]
 |none=>.tup [.nils,.nils,.int .i64 (badX box (doD l ds).1 xs:Nat)]
theorem made_no{l:List Pr}{ds:List Depo}{xs:List Tx}{box:Dig}{i:Nat}{x:Tx}{r:List Pr×List Rec}(hx:xs[i]? =some x)(h:doX box (doD l ds).1 (xs.take i)=some r)(hg:¬goX r.1 x):madeW l ds xs box= .tup [.nils,.nils,.int .i64 (refX x:Nat)]:=by
 have hdr:xs=xs.take i++x::xs.drop (i+1):=by rw[<-ZFq hx,List.take_append_drop]
 unfold madeW;rw[hdr,doX_none h hg,bad_app h,show badX box r.1 (x::xs.drop (i+1))=refX x from if_neg hg]
theorem fw_doD{n:Nat}:∀(ds:List Depo) {l:List Pr},Srt l->Fw n l->Fw (n+ds.length) (doD l ds).1
 |[],l,_,h=>h
 |d::ds,l,hs,h=>Kqq (fw_doD ds (gv_ok hs d).1 (fw_gv hs h d)) (by simp only[List.length_cons];omega)
theorem fw_doX{box:Dig}:∀{xs:List Tx} {n:Nat} {l:List Pr} {r:List Pr×List Rec},Srt l->Fw n l->doX box l xs=some r->Fw (n+4*xs.length) r.1
 |[],n,l,r,_,h,e=>by cases e;exact h
 |x::xs,n,l,r,hs,h,e=>by
  by_cases hg:goX l x
  ·rw[uMq hg] at e;cases q:doX box (yHq l x box).1 xs with
   |none=>rw[q] at e;cases e
   |some r'=>
    rw[q] at e;cases e;have z:=fw_doX (r:=r') (paid_srt x box hs (by rw[<-hg.2.1];have:=hg.2.2;omega)) (fw_paid x box hs h) q;exact Kqq z (by simp only[List.length_cons];omega)
  ·rw[show doX box l (x::xs)=none from if_neg hg] at e;cases e
theorem rmade_s(l:List Pr)(hs:Srt l)(hf:Fw 300000 l)(ds:List Depo)(xs:List Tx)(f g:Bool)(hB:BodOk ds xs)(box:Dig)(hm:ds.length<=16/\xs.length<=16):PS cfg G 186 [psW l,bodW ds xs f g,dW box] (madeW l ds xs box):=by
 have hdl:=vkq ds l;have hfD:=fw_doD ds hs hf;have hsD:=(Qrq (ds:=ds) hs).1;refine gIv 21 O (λR k0=>?_);refine xSq (α:=Nat) (λi=>i<=ds.length) 9 (λi=>(doD l (ds.take i)).2.map recW) 98 34 (λi=>[(10,.int .i64 (i:Int)),(0,psW (doD l (ds.take i)).1)]) [(4,_),(5,_),(6,_),(7,_),(8,_)] _ (λi=>ds.length-i) (0) ⟨rfl,rfl,rfl,rfl,rfl,trivial⟩ (Nat.zero_le _) ⟨rfl,rfl,trivial⟩ O O O (λi hI=>?_);refine zPq 6 O (gZ 0 O LMq ?_);refine gS 3 O (λh1=>?_) (λh1=>?_)
 ·have hi:i<ds.length:=by omega
  obtain⟨d,hx⟩:∃d,ds[i]? =some d:=⟨_,List.getElem?_eq_getElem hi⟩
  obtain⟨d1,d2⟩:=hB.dep d (List.mem_of_getElem? hx);have hsn:ds.take (i+1)=ds.take i++[d]:=by rw[List.take_add_one,hx];rfl
  have hst:=(Qrq (ds:=ds.take i) hs).1;have hfw:=fw_doD (ds.take i) hs hf;have hln:=vkq (ds.take i) l;have ho:=rgvL_s (G:=G) (doD l (ds.take i)).1 d hst (few_le hfw.few Qi) d2;have hno:=doD_snoc l (ds.take i) d;rw[<-hsn] at hno;have hn1:(doD l (ds.take (i+1))).1=(gvL (doD l (ds.take i)).1 d).1:=by rw[hno]
  have hn2:(doD l (ds.take (i+1))).2.map recW=(doD l (ds.take i)).2.map recW++[recW ⟨1,depD d,(gvL (doD l (ds.take i)).1 d).2⟩]:=by rw[hno,List.map_append];rfl
  have hlt:((doD l (ds.take i)).2.map recW).length<=100:=by rw[List.length_map,hln,List.length_take];omega
  refine gP 10 O (zuq (i:=i) O O O O O O O (zpq pdW hx)) (gC 1 O (ho) (gP 18 O (zuq (i:=i) O O O O O O O (zpq pdW hx)) (gC 1 O (rfdepo_s d d1 d2) (gM 3 O (z5q O O (jmq [_,_,_] (k:=ti98) (news:=[recW ⟨1,depD d,(gvL (doD l (ds.take i)).1 d).2⟩]) O O O O O (z6q O O O O) Xh (by show(((doD l (ds.take i)).2.map recW).length+1)*48<=_;omega) (by show((doD l (ds.take i)).2.map recW).length+1<=_;omega) rfl Xh)) (gA 6 O (i+1) (zfq 2 O ?_))))));rw[<-hn1];exact q8q 4 (i+1) (hi) Xd (Nat.zero_le _) (hn2) Xw Xd Ym rfl Xy ⟨rfl,rfl,trivial⟩ ⟨rfl,rfl,rfl,rfl,rfl,trivial⟩ Xg Xg rfl Xk Xj Ya
 ·have hi:i=ds.length:=by omega
  subst hi;rw[show ds.take ds.length=ds from List.take_length];refine zfq 2 O (y3q Xi (zHq 9 O ?_));refine co_loopG2 (α:=Nat×(List Pr×List Rec)) (λa=>a.1<=xs.length/\doX box (doD l ds).1 (xs.take a.1)=some a.2) 9 (λa=>((doD l ds).2++a.2.2).map recW) 98 34 (λa=>[(13,.int .i64 (a.1:Int)),(0,psW a.2.1)]) [(4,_),(5,_),(6,_),(7,_),(8,_)] ([(1,29,dW box),(0,57,bodW ds xs f g)]) 2 (λa=>xs.length-a.1) ((0,(doD l ds).1,[])) ⟨rfl,rfl,rfl,rfl,rfl,trivial⟩ (⟨Nat.zero_le _,rfl⟩) ⟨rfl,rfl,trivial⟩ Xd Ym Jk Jk Xg Xg Xk Xj Ya (λa hI=>?_);obtain⟨i,r⟩:=a;obtain⟨g1,hst⟩:=hI;simp only at g1 hst⊢;have hsr:=(doX_ok box hsD hst).1;have hfr:=fw_doX hsD hfD hst;have hln:=ZGq hst;rw[List.length_take] at hfr hln;refine zPq 6 O (gZ 0 O LMq ?_);refine gS 3 O (λh2=>?_) (λh2=>?_)
  ·have hi:i<xs.length:=by omega
   obtain⟨x,hx⟩:∃x,xs[i]? =some x:=⟨_,List.getElem?_eq_getElem hi⟩
   have hxo:=hB.tx x (List.mem_of_getElem? hx);have hsn:xs.take (i+1)=xs.take i++[x]:=by rw[List.take_add_one,hx];rfl
   have hlt:(((doD l ds).2++r.2).map recW).length<=100:=by rw[List.length_map,List.length_append];omega
   refine gP 9 O (zuq (i:=i) O O O O O O O (zpq txW hx)) (gC 9 O (Jaq x hxo) ?_);refine gS 3 O (λh3=>?_) (λh3=>?_)
   ·have hsg:¬x.sign=j3q x:=λq=>h3 (by rw[if_pos q])
    have e:=made_no hx hst (λq=>hsg q.1);rw[show refX x=110 from if_neg hsg] at e;rw[e];exact zfq 11 O (y3q Xi (zHq 2 O (qZq Jw rfl (.pur rfl))))
   ·have hsg:x.sign=j3q x:=Classical.byContradiction λq=>h3 Jf
    refine gC 7 O (rnext_s r.1 false x hxo (by have:=hfr.1;omega)) ?_;refine gS 3 O (λh4=>?_) (λh4=>?_)
    ·have hnx:¬(x.nonce=(acL r.1 (keyD x.pub)).nonce/\x.nonce<18446744073709551615):=of_decide_eq_false (by simpa only[Bool.not_eq_true'] using h4);have e:=made_no hx hst (λq=>hnx q.2);rw[show refX x=2 from if_pos hsg] at e;rw[e];exact zfq 11 O (y3q Xi (zHq 2 O (qZq Jw rfl (.pur rfl))))
    ·have hnx:x.nonce=(acL r.1 (keyD x.pub)).nonce/\x.nonce<18446744073709551615:=by simpa using h4
     have hg:goX r.1 x:=⟨hsg,hnx⟩;have hso:=doX_snoc hst hg;rw[<-hsn] at hso;exact gC 7 O (rpaid_s r.1 hsr (few_le hfr.few Xd) x hxo box (by rw[<-hnx.1];omega)) (gC 16 O (rtxid_s x hxo) (gM 3 O (z5q O O (jmq [_,_,_,_] (k:=ti98) (news:=[recW ⟨2,idD x,(yHq r.1 x box).2⟩]) O O O O O (z6q O O O O) Xh (by show((((doD l ds).2++r.2).map recW).length+1)*48<=_;omega) (by show(((doD l ds).2++r.2).map recW).length+1<=_;omega) rfl Xh)) (gA 6 O (i+1) (zfq 2 O (q8q 5 ((i+1,(yHq r.1 x box).1,r.2++[⟨2,idD x,(yHq r.1 x box).2⟩])) (⟨hi,hso⟩) Yf (Nat.zero_le _) Xh Xw Xd Ym rfl Xy ⟨rfl,rfl,trivial⟩ ⟨rfl,rfl,rfl,rfl,rfl,trivial⟩ Xg Xg rfl Xk Xj Ya)))))
  ·have hi:i=xs.length:=by omega
   subst hi;rw[List.take_length] at hst;have hmw:madeW l ds xs box= .tup [psW r.1,.fz (((doD l ds).2++r.2).map recW) 34 false,.int .i64 0]:=by unfold madeW;rw[hst]
   rw[hmw];exact zfq 2 O (y3q Xi (zHq 12 O (qZq Jw rfl (.tup (.cons (.pur Xh) (.cons (xZq (H0:=[_,_]) Xm (qeq _) Xh) (.cons (.pur rfl) .nil)))))))
end
section
attribute [local irreducible] CoW OpW FlW Step Spec
attribute [local simp] qeq
variable {G:Nat->Option W}
noncomputable def rrefW(c:Nat):W:=.tup [.nils,hdW hdZ,.nils,.int .i64 (c:Int)]
@[simp] theorem rrefW_pur(c:Nat):purW (rrefW c)=true:=by simp[rrefW,purW,purL]
theorem rref_w(c:Nat):W.tup [.nils,.agg 98 [.int .i64 0,yoq,yoq,yoq,.int .i64 0],.nils,.int .i64 (c:Int)]=rrefW c:=by
 unfold rrefW hdW hdZ;rw[<-jOq];rfl
theorem rap_full(t:Tree)(p:Hdr)(ds:List Depo)(xs:List Tx)(f g:Bool)(box:Dig)(hb:t.nodes.length<=4611686018427387903)(h:MayBk t p)(hm:ds.length<=16/\xs.length<=16)(hf:260944<t.nodes.length+300*ds.length+1200*xs.length):PS cfg G 92 [tW t,hdW p,bodW ds xs f g,dW box] (rrefW 9):=by
 obtain⟨hA,hB,hC⟩:=h;exact gI 16 O (λR k0=>gC 0 O (zzq (w':=.bool true) (J7q t hb) (by rw[decide_eq_true (hA)])) (gC 3 O (zzq (w':=.bool true) (ufq p) (by rw[decide_eq_true (hB)])) (gF 5 O (eqI_not.2 (hC)) (gZ 11 O LMq (gF 0 O (ltI_not.2 (Xd)) (gZ 3 O LMq (gF 0 O (ltI_not.2 (Xd)) (gZ 11 O LMq (gZ 2 O LMq (gA 0 O (300*ds.length) (gA 0 O (260944-300*ds.length) (gZ 2 O LMq (gA 0 O (1200*xs.length) (gA 0 O (260944-300*ds.length-1200*xs.length) (gT 0 O (ltI_iff.2 (Xd)) (gQ 14 O (rref_w 9)))))))))))))))))
structure PW where
 w:W
 pur:purW w=true
attribute [local simp] PW.pur
theorem rap_w(t:Tree)(n:Nat)(t0:T)(hT:IsA t n t0)(p:Hdr)(hB:okH p)(hC:p.height≠1073741824)(ds:List Depo)(xs:List Tx)(f g:Bool)(box:Dig)(hm:ds.length<=16/\xs.length<=16)(hf:t.nodes.length+300*ds.length+1200*xs.length<=260944)(A B:PW)(e:Nat)(hM:PS cfg G 186 [psW t0.all,bodW ds xs f g,dW box] (.tup [A.w,B.w,.int .i64 (e:Int)]))(ans:W)(h0:e=0->∃l L,A.w=psW l/\B.w= .fz (L.map recW) 34 false/\Srt l/\Fw 1000000 l/\(∀r∈L,okR r)/\L.length<=256/\ans= .tup [psW l,hdW (Ybq p (JNq l) L),.fz (L.map recW) 34 false,.int .i64 0])(hz:e≠0->ans=rrefW e):PS cfg G 92 [tW t,hdW p,bodW ds xs f g,dW box] ans:=by
 have hA:MayA t:=⟨n,t0,hT⟩;have hb:t.nodes.length<=4611686018427387903:=by omega
 refine gI 16 O (λR k0=>gC 0 O (zzq (w':=.bool true) (J7q t hb) (by rw[decide_eq_true (hA)])) (gC 3 O (zzq (w':=.bool true) (ufq p) (by rw[decide_eq_true (hB)])) (gF 5 O (eqI_not.2 (hC)) (gZ 11 O LMq (gF 0 O (ltI_not.2 (Xd)) (gZ 3 O LMq (gF 0 O (ltI_not.2 (Xd)) (gZ 11 O LMq (gZ 2 O LMq (gA 0 O (300*ds.length) (gA 0 O (260944-300*ds.length) (gZ 2 O LMq (gA 0 O (1200*xs.length) (gA 0 O (260944-300*ds.length-1200*xs.length) (gF 0 O (ltI_not.2 (Xd)) (gC 8 O (rall_s t n t0 hT.toIsT) (gC 2 O (hM) ?_)))))))))))))))));refine gS 16 O (λh1=>?_) (λh1=>?_)
 ·have hne:e≠0:=λq=>h1 (by rw[q];rfl)
  rw[hz hne];exact gQ 12 O (rref_w e)
 ·have he:e=0:=by omega
  obtain⟨l,L,a1,a2,a3,a4,a5,a6,rfl⟩:=h0 he;rw[a1,a2];exact gC 8 O (rhead_s p hB l a3 a4 L a5 a6) (gQa 8 O)
theorem rap_some(t:Tree)(n:Nat)(t0:T)(hT:IsA t n t0)(p:Hdr)(hB:okH p)(hC:p.height≠1073741824)(ds:List Depo)(xs:List Tx)(f g:Bool)(hBo:BodOk ds xs)(box:Dig)(hm:ds.length<=16/\xs.length<=16)(hf:t.nodes.length+300*ds.length+1200*xs.length<=260944)(l:List Pr)(rs:List Rec)(hst:doX box (doD t0.all ds).1 xs=some (l,rs)):PS cfg G 92 [tW t,hdW p,bodW ds xs f g,dW box] (.tup [psW l,hdW (Ybq p (JNq l) ((doD t0.all ds).2++rs)),.fz (((doD t0.all ds).2++rs).map recW) 34 false,.int .i64 0]):=by
 have hs:=hT.toIsT.srt;have hfw:Fw 262144 t0.all:=⟨by have:=hT.toIsT.all_le;omega,λx hx=>(hT.toIsT.val x hx).2⟩;have hsl:=(doX_ok box (Qrq (ds:=ds) hs).1 hst).1;have hfl:=fw_doX (Qrq (ds:=ds) hs).1 (fw_doD ds hs hfw) hst;have hrl:=ZGq hst;have hdl:=vkq ds t0.all;have hdr:= @doD_rec ds t0.all;have hrr:= @doX_rec box xs _ _ hst;simp only at hsl hfl hrl hrr;exact rap_w t n t0 hT p hB hC ds xs f g box hm hf ⟨psW l,by simp⟩ ⟨.fz (((doD t0.all ds).2++rs).map recW) 34 false,qeq _⟩ 0 (zzq (rmade_s t0.all hs (Kqq hfw Xd) ds xs f g hBo box hm) (by unfold madeW;rw[hst];rfl)) _ (λ_=>⟨l,_,rfl,rfl,hsl,Kqq hfl Xd,λr h=>by rcases List.mem_append.1 h with h|h;exact(hdr r h).2;exact(hrr r h).2,by rw[List.length_append];omega,rfl⟩) (λq=>absurd rfl q)
theorem rap_none(t:Tree)(n:Nat)(t0:T)(hT:IsA t n t0)(p:Hdr)(hB:okH p)(hC:p.height≠1073741824)(ds:List Depo)(xs:List Tx)(f g:Bool)(hBo:BodOk ds xs)(box:Dig)(hm:ds.length<=16/\xs.length<=16)(hf:t.nodes.length+300*ds.length+1200*xs.length<=260944)(hst:doX box (doD t0.all ds).1 xs=none):PS cfg G 92 [tW t,hdW p,bodW ds xs f g,dW box] (rrefW (badX box (doD t0.all ds).1 xs)):=by
 have hs:=hT.toIsT.srt;have hfw:Fw 262144 t0.all:=⟨by have:=hT.toIsT.all_le;omega,λx hx=>(hT.toIsT.val x hx).2⟩;have hne:badX box (doD t0.all ds).1 xs≠0:=by rcases bad_no hst with h|h<;>omega
 exact rap_w t n t0 hT p hB hC ds xs f g box hm hf ⟨.nils,rfl⟩ ⟨.nils,rfl⟩ _ (zzq (rmade_s t0.all hs (Kqq hfw Xd) ds xs f g hBo box hm) (by unfold madeW;rw[hst])) _ (λq=>absurd q hne) (λ_=>rfl)
end
section
attribute [local irreducible] CoW OpW FlW Step Spec
theorem SmallC.cut{c:Ch}(hs:SmallC c)(i:Nat)(x:Lk):SmallC (cutC c i x):=
 ⟨hs.nodes,hs.vals,by have:=hs.len;show(c.links.take _).length<=_;rw[List.length_take];omega,λy hy=>hs.link y (List.mem_of_mem_take hy)⟩
theorem ZXq{c:Ch}{n:Nat}(hn:n<=1000)(h:¬k0q c n):SmallC c:=by
 obtain⟨h1,h2,h3⟩:=Y7q h;refine⟨by omega,λx hx=>?_,by omega,λx hx=>?_⟩
 ·obtain⟨j,hj⟩:=List.getElem?_of_mem hx;have:=kaq hj;refine Nat.le_of_not_lt λq=>h (.inl (.inr ⟨j,x,by omega,hj,by omega⟩))
 ·obtain⟨k1,k2⟩:=h3 x hx;unfold y5q at k1;omega
end
section
attribute [local irreducible] CoW OpW FlW Step Spec
variable {G:Nat->Option W}
def SameK(x y:Lk):Prop:=x.hdr=y.hdr/\(x.ds=y.ds/\x.xs=y.xs)/\x.rs=y.rs
noncomputable instance(x y:Lk):Decidable (SameK x y):=Classical.propDecidable _
theorem JZq(x y:Lk)(h:x.ds.length<=1000000/\x.xs.length<=1000000/\x.rs.length<=1000000):PS cfg G 79 [lkG x,lkG y] (.bool (decide (SameK x y))):=by
 obtain⟨h1,h2,h3⟩:=h;refine gI 13 O (λR k0=>?_);refine gDe 0 O (yvq O O O O (uvq _ _)) z1q (λh1=>?_) (λh1=>?_)
 ·refine gC 5 O (rsbody_s x.ds x.xs y.ds y.xs false false false false Xd Xd) ?_;refine gB 0 O (λh2=>?_) (λh2=>?_)
  ·exact gC 6 O (J0q x.rs y.rs false false Xd) (gQ 5 O (dec_c ⟨λq=>⟨by assumption,by assumption,q⟩,λq=>q.2.2⟩))
  ·exact gQ 12 O (yVq λq=>absurd q.2.1 Xr)
 ·exact gQ 18 O (yVq λq=>absurd q.1 Xr)
theorem rcchk_s(c:Ch)(hc:OkC c):PS cfg G 20 [chG c] (.int .i64 (if MayC c then 0 else 8)):=by
 by_cases h:MayC c
 ·rw[if_pos h];exact gI 10 O (λR k0=>gC 0 O (zzq (w':=.bool true) (juq c hc) (by rw[decide_eq_true (h)])) (gQa 12 O))
 ·rw[if_neg h];exact gI 10 O (λR k0=>gC 0 O (zzq (w':=.bool false) (juq c hc) (by rw[decide_eq_false (h)])) (gQa 11 O))
theorem rctop_s(c:Ch){y:Lk}(hy:c.links[c.links.length-1]? =some y)(hl:c.links.length<=1000000):PS cfg G 73 [chG c] (hdW y.hdr):=by
 have:=kaq hy;exact gI 12 O (λR k0=>gZ 0 O LMq (gA 0 O (c.links.length-1) (gP 0 O (zuq (i:=c.links.length-1) O O O O O O O (zpq lkG hy)) (gQa 6 O))))
theorem hdz_w:W.agg 98 [.int .i64 0,yoq,yoq,yoq,.int .i64 0]=hdW hdZ:=by
 unfold hdW hdZ;rw[<-jOq];rfl
theorem rchead_no(c:Ch)(hc:OkC c)(h:¬MayC c):PS cfg G 12 [chG c] (.tup [hdW hdZ,.int .i64 8]):=by
 rw[<-hdz_w];exact gI 11 O (λR k0=>gC 0 O (zzq (w':=.bool false) (juq c hc) (by rw[decide_eq_false (h)])) (gQa 13 O))
theorem rchead_s(c:Ch)(hc:OkC c)(h:MayC c){y:Lk}(hy:c.links[c.links.length-1]? =some y):PS cfg G 12 [chG c] (.tup [hdW y.hdr,.int .i64 0]):=by
 have:=h.len;exact gI 11 O (λR k0=>gC 0 O (zzq (w':=.bool true) (juq c hc) (by rw[decide_eq_true (h)])) (gC 9 O (rctop_s c hy Xd) (gQa 5 O)))
theorem rcstate_no(c:Ch)(hc:OkC c)(h:Int)(hm:¬MayC c):PS cfg G 14 [chG c,.int .i64 h] (.tup [noT,.int .i64 8]):=by
 exact gI 11 O (λR k0=>gC 0 O (zzq (w':=.bool false) (juq c hc) (by rw[decide_eq_false (hm)])) (gQa 13 O))
theorem rcstate_arg(c:Ch)(hc:OkC c)(h:Int)(hm:MayC c)(hh:h<0\/(c.links.length:Int)<=h):PS cfg G 14 [chG c,.int .i64 h] (.tup [noT,.int .i64 2]):=by
 by_cases h0:h<0
 ·skip
  exact gI 11 O (λR k0=>gC 0 O (zzq (w':=.bool true) (juq c hc) Qa) (gT 10 O (ltI_iff.2 (h0)) (gQa 19 O)))
 ·skip
  exact gI 11 O (λR k0=>gC 0 O (zzq (w':=.bool true) (juq c hc) Qa) (gF 10 O (ltI_not.2 (h0)) (gZ 4 O LMq (gT 0 O (congrArg not (ltI_not.2 Xd)) (gQa 13 O)))))
theorem rcstate_s(c:Ch)(hc:OkC c)(hs:SmallC c)(i:Nat)(hm:MayC c){x:Lk}(hx:c.links[i]? =some x):PS cfg G 14 [chG c,.int .i64 (i:Int)] (.tup [tW (verT c x.root),.int .i64 0]):=by
 have hi:=kaq hx;have:=hs.nodes;exact gI 11 O (λR k0=>gC 0 O (zzq (w':=.bool true) (juq c hc) Qa) (gF 10 O (ltI_not.2 Xd) (gZ 4 O LMq (gF 0 O (congrArg not (ltI_iff.2 Xd)) (gC 10 O (xEq c i x hx) (gC 0 O (rttwin_s (verT c x.root) (by show c.tree.nodes.length<=_;omega) hs.vals) (gQa 5 O)))))))
theorem rcto_s(c:Ch)(hs:SmallC c)(i:Nat){x:Lk}(hx:c.links[i]? =some x):PS cfg G 77 [chG c,.int .i64 (i:Int)] (chG (cutC c i x)):=by
 have e:(c.links.map lkG).length=c.links.length:=List.length_map _;have hi:=kaq hx;have h1:=hs.len;have e2:((c.links.map lkG).take (i+1))=(c.links.take (i+1)).map lkG:=(List.map_take ..).symm;exact gI 9 O (λR k0=>gC 0 O (rchtwin_s c hs) (gA 9 O (i+1) (gP 0 O (xhq (ys:=(c.links.take (i+1)).map lkG) (l:=0) (h:=i+1) (g:=false) O O O O O O O (Nat.zero_le _) (by rw[e];omega) (by rw[List.drop_zero,Nat.sub_zero];exact e2) rfl) (gP 9 O (zuq (i:=i) O O O O O O O (zpq lkG (take_at hx))) (gQa 14 O)))))
theorem rccut_no(c:Ch)(hc:OkC c)(h:Int)(hm:¬MayC c):PS cfg G 16 [chG c,.int .i64 h] (.tup [noCh,.int .i64 8]):=by
 exact gI 11 O (λR k0=>gC 0 O (zzq (w':=.bool false) (juq c hc) (by rw[decide_eq_false (hm)])) (gQa 13 O))
theorem rccut_arg(c:Ch)(hc:OkC c)(h:Int)(hm:MayC c)(hh:h<0\/(c.links.length:Int)<=h):PS cfg G 16 [chG c,.int .i64 h] (.tup [noCh,.int .i64 2]):=by
 by_cases h0:h<0
 ·skip
  exact gI 11 O (λR k0=>gC 0 O (zzq (w':=.bool true) (juq c hc) Qa) (gT 10 O (ltI_iff.2 (h0)) (gQa 19 O)))
 ·skip
  exact gI 11 O (λR k0=>gC 0 O (zzq (w':=.bool true) (juq c hc) Qa) (gF 10 O (ltI_not.2 (h0)) (gZ 4 O LMq (gT 0 O (congrArg not (ltI_not.2 Xd)) (gQa 13 O)))))
theorem rccut_s(c:Ch)(hc:OkC c)(hs:SmallC c)(i:Nat)(hm:MayC c){x:Lk}(hx:c.links[i]? =some x):PS cfg G 16 [chG c,.int .i64 (i:Int)] (.tup [chG (cutC c i x),.int .i64 0]):=by
 have hi:=kaq hx;exact gI 11 O (λR k0=>gC 0 O (zzq (w':=.bool true) (juq c hc) Qa) (gF 10 O (ltI_not.2 Xd) (gZ 4 O LMq (gF 0 O (congrArg not (ltI_iff.2 Xd)) (gC 10 O (rcto_s c hs i hx) (gQa 5 O))))))
theorem uFq(c:Ch)(i:Nat)(x:Lk)(hx:c.links[i]? =some x)(n:Nat)(t0:T)(hA:IsT (verT c x.root) n t0):PS cfg G 91 [chG c,.int .i64 (i:Int)] (psW t0.all):=by
 exact gI 10 O (λR k0=>gC 0 O (xEq c i x hx) (gC 0 O (rall_s (verT c x.root) n t0 hA) (gQa 4 O)))
theorem vCq(t0:T)(ok:t0.ok 0 qpq=true)(hs:Zcq t0)(hl:t0.all.length<=1000000):PS cfg G 90 [psW t0.all] (hdW (firH t0)):=by
 exact gI 8 O (λR k0=>gC 0 O (rof_s t0 0 qpq false jcq ok hs hl) (gC 0 O (Yfq) (gQ 5 O (by unfold firH hdW;simp only;rw[<-jOq];rfl))))
theorem lk_same{x y:Lk}:SameK x y/\x.root=y.root↔x=y:=by
 constructor
 ·rintro⟨⟨h1,⟨h2,h3⟩,h4⟩,h5⟩;cases x;cases y
  simp only at h1 h2 h3 h4 h5;subst h1;subst h2;subst h3;subst h4;subst h5;rfl
 ·rintro rfl;exact⟨⟨rfl,⟨rfl,rfl⟩,rfl⟩,rfl⟩
noncomputable instance(a b:Ch):Decidable (a=b):=Classical.propDecidable _
theorem vBq(a b:Ch)(ha:SmallC a)(hb:SmallC b):PS cfg G 18 [chG a,chG b] (.bool (decide (a=b))):=by
 have h1:=ha.nodes;have h2:=ha.len;have h3:=hb.len;by_cases ht:a.tree=b.tree
 ·by_cases hl:a.links.length=b.links.length
  ·skip
   refine gI 14 O (λR k0=>gC 0 O (zzq (w':=.bool true) (vyq a.tree b.tree Xd) (by rw[decide_eq_true (ht)])) (gZ 4 O LMq (gZ 2 O LMq (gF 0 O (congrArg not (eqI_iff.2 Xd)) ?_))));refine gLo (α:=Nat) 13 (λi=>i<=a.links.length/\a.links.take i=b.links.take i) (λi=>[(5,.int .i64 (i:Int))]) [2,3,4] (λi=>a.links.length-i) (0) rfl (⟨Nat.zero_le _,rfl⟩) (λi hI=>?_);obtain⟨g1,g2⟩:=hI;refine gZ 6 O LMq ?_;refine gS 3 O (λh1=>?_) (λh1=>?_)
   ·obtain⟨x,hx⟩:∃x,a.links[i]? =some x:=⟨_,List.getElem?_eq_getElem Xd⟩
    obtain⟨y,hy⟩:∃y,b.links[i]? =some y:=⟨_,List.getElem?_eq_getElem Xd⟩
    have hxs:=ha.link x (List.mem_of_getElem? hx);skip
    by_cases hk:SameK x y
    ·by_cases hr:x.root=y.root
     ·exact gP 9 O (zuq (i:=i) O O O O O O O (zpq lkG hx)) (gP 4 O (zuq (i:=i) O O O O O O O (zpq lkG hy)) (gC 1 O (zzq (w':=.bool true) (JZq x y hxs) (by rw[decide_eq_true (hk)])) (gP 5 O (zuq (i:=i) O O O O O O O (zpq lkG hx)) (gP 5 O (zuq (i:=i) O O O O O O O (zpq lkG hy)) (gF 2 O (congrArg not (eqI_iff.2 (hr))) (gA 9 O (i+1) (gAg 2 O (i+1) (⟨by omega,qOq g2 hx hy (lk_same.1 ⟨hk,hr⟩)⟩) Xd)))))))
     ·exact gP 9 O (zuq (i:=i) O O O O O O O (zpq lkG hx)) (gP 4 O (zuq (i:=i) O O O O O O O (zpq lkG hy)) (gC 1 O (zzq (w':=.bool true) (JZq x y hxs) (by rw[decide_eq_true (hk)])) (gP 5 O (zuq (i:=i) O O O O O O O (zpq lkG hx)) (gP 5 O (zuq (i:=i) O O O O O O O (zpq lkG hy)) (gT 2 O (congrArg not (eqI_not.2 (hr))) (gO 12 O (gQ 2 O (yVq λq=>Yaq hx hy (λz=>hr (by rw[z])) Qb))))))))
    ·exact gP 9 O (zuq (i:=i) O O O O O O O (zpq lkG hx)) (gP 4 O (zuq (i:=i) O O O O O O O (zpq lkG hy)) (gC 1 O (zzq (w':=.bool false) (JZq x y hxs) (by rw[decide_eq_false (hk)])) (gO 27 O (gQ 2 O (yVq λq=>Yaq hx hy (λz=>hk (lk_same.2 z).1) Qb)))))
   ·refine gO 2 O ?_
    exact gQ 8 O (Q0q (by
     have:=jsq (a:=a.links) (b:=b.links) Xd Xd g2;cases a;cases b;simp only at this ht;rw[this,ht]))
  ·skip
   exact gI 14 O (λR k0=>gC 0 O (zzq (w':=.bool true) (vyq a.tree b.tree Xd) (by rw[decide_eq_true (ht)])) (gZ 4 O LMq (gZ 2 O LMq (gT 0 O (congrArg not (eqI_not.2 Xd)) (gQ 11 O (yVq λq=>hl Qb))))))
 ·skip
  exact gI 14 O (λR k0=>gC 0 O (zzq (w':=.bool false) (vyq a.tree b.tree Xd) (by rw[decide_eq_false (ht)])) (gQ 20 O (yVq λq=>ht Qb)))
end
section
theorem eq_two{C:Cfg}{t e:TypeId}{i j:TyI}(ht:C.ty t=some i)(hi:i.d= .arr 2 e)(he:C.ty e=some j)(hj:j.d= .int .i64)(hs:j.size=1)(hg:j.agg=false)(a b c d:Int)(f:Nat):eqW C (f+50) t (.arr 2 1 [.int .i64 a,.int .i64 b]) (.arr 2 1 [.int .i64 c,.int .i64 d])=some (decide (a=c/\b=d)):=by
 have e0:eqW C (f+48) e (.int .i64 a) (.int .i64 c)=some (decide (a=c)):=xfq he hj;have e1:eqW C (f+47) e (.int .i64 b) (.int .i64 d)=some (decide (b=d)):=xfq he hj;have g0:∀x y:Int,ydq 50 (.arr 2 1 [.int .i64 x,.int .i64 y]) (0*1) 1 false=some (.int .i64 x):=λ_ _=>rfl
 have g1:∀x y:Int,ydq 50 (.arr 2 1 [.int .i64 x,.int .i64 y]) ((0+1)*1) 1 false=some (.int .i64 y):=λ_ _=>rfl
 rw[show f+50=(f+49)+1 from rfl];simp only[eqW,ht,hi,he];show Qnq C (f+48+1) e j 2 0 _ _=_;simp only[Qnq,hs,hg,g0,e0];by_cases q:a=c
 ·rw[decide_eq_true q];simp only[g1,e1];by_cases r:b=d
  ·rw[decide_eq_true r];simp[q,r]
  ·rw[decide_eq_false r];simp[q,r]
 ·rw[decide_eq_false q];simp[q]
attribute [local irreducible] CoW OpW FlW Step Spec
variable {G:Nat->Option W}
theorem Khq(l:List Node):purL (l.map nW)=true:=y1q (λx=>by simp) l
attribute [local simp] Khq
theorem nd_eq{a b:Node}:(a.leaf=b.leaf/\a.key=b.key/\a.val=b.val/\a.left=b.left/\a.right=b.right)↔a=b:=by
 constructor
 ·rintro⟨h1,h2,h3,h4,h5⟩;cases a;cases b
  simp only at h1 h2 h3 h4 h5;subst h1;subst h2;subst h3;subst h4;subst h5;rfl
 ·rintro rfl;exact⟨rfl,rfl,rfl,rfl,rfl⟩
noncomputable instance(a b:Node):Decidable (a=b):=Classical.propDecidable _
theorem tsame1_s(a b:Node)(hl:a.val.length<=1000000000):PS cfg G 189 [nW a,nW b] (.bool (decide (a=b))):=by
 by_cases h1:a.leaf=b.leaf
 ·by_cases h2:a.key=b.key
  ·by_cases h3:a.val=b.val
   ·skip
    refine gI 13 O (λR k0=>?_);refine gV (w':=.bool true) 0 O (by rw[h1];cases b.leaf<;>rfl) ?_;exact zfq 5 O (x3q (w':=.bool true) rfl (yvq O O O O (yNq O O O O O O a.key b.key 250)) (by rw[decide_eq_true h2]) (yaq 6 O (gC 0 O (zzq (w':=.bool true) (seqb_s a.val b.val false false hl) (by rw[decide_eq_true (h3)])) (gC 3 O (jKq a) (gC 1 O (jKq b) (x3q (w':=.bool (decide (a.left=b.left/\a.right=b.right))) rfl (yvq O O O O (eq_two O O O O O O a.left a.right b.left b.right 250)) O (yaq 5 O (gQ 0 O (dec_c ⟨λq=>nd_eq.1 ⟨h1,h2,h3,q⟩,λq=>(nd_eq.2 q).2.2.2⟩)))))))))
   ·skip
    refine gI 13 O (λR k0=>?_);refine gV (w':=.bool true) 0 O (by rw[h1];cases b.leaf<;>rfl) ?_;exact zfq 5 O (x3q (w':=.bool true) rfl (yvq O O O O (yNq O O O O O O a.key b.key 250)) (by rw[decide_eq_true h2]) (yaq 6 O (gC 0 O (zzq (w':=.bool false) (seqb_s a.val b.val false false hl) (by rw[decide_eq_false (h3)])) (gQ 12 O (yVq λq=>h3 Qb)))))
  ·skip
   refine gI 13 O (λR k0=>?_);refine gV (w':=.bool true) 0 O (by rw[h1];cases b.leaf<;>rfl) ?_;exact zfq 5 O (x3q (w':=.bool false) rfl (yvq O O O O (yNq O O O O O O a.key b.key 250)) (by rw[decide_eq_false h2]) (yaq 19 O (gQ 0 O (yVq λq=>h2 Qb))))
 ·skip
  refine gI 13 O (λR k0=>?_);refine gV (w':=.bool false) 0 O (by revert h1;cases a.leaf<;>cases b.leaf<;>intro h1<;>first|rfl|exact absurd rfl h1) ?_;exact gQ 25 O (yVq λq=>h1 Qb)
theorem seqn_s(a b:List Node)(f g:Bool)(hb:a.length<=1000000000)(hl:∀x∈a,x.val.length<=1000000000):PS cfg G 188 [.fz (a.map nW) 36 f,.fz (b.map nW) 36 g,.fn 189 [] []] (.bool (decide (a=b))):=by
 refine gI 9 O (λR k0=>gZ 0 O LMq (gZ 1 O LMq ?_));refine gS 3 O (λh1=>?_) (λh1=>?_)
 ·exact gQ 7 O Yi
 ·refine gZ 6 O LMq ?_;refine gLo (α:=Nat) 4 (λi=>i<=a.length/\a.take i=b.take i) (λi=>[(17,.int .i64 (i:Int))]) [1,2,6,15,16] (λi=>a.length-i) (0) rfl (⟨Nat.zero_le _,rfl⟩) (λi hI=>?_);obtain⟨g1,g2⟩:=hI;refine gS 6 O (λh2=>?_) (λh2=>?_)
  ·obtain⟨x,hx⟩:∃x,a[i]? =some x:=⟨_,List.getElem?_eq_getElem Xd⟩
   obtain⟨y,hy⟩:∃y,b[i]? =some y:=⟨_,List.getElem?_eq_getElem Xd⟩
   refine gP 7 O (zuq (i:=i) O O O O O O O (zpq nW hx)) (gP 10 O (zuq (i:=i) O O O O O O O (zpq nW hy)) (gC 10 O (tsame1_s x y (hl x (List.mem_of_getElem? hx))) ?_));refine gS 3 O (λh3=>?_) (λh3=>?_)
   ·exact gO 8 O (gQ 2 O Jq)
   ·exact gA 4 O (i+1) (gAg 2 O (i+1) (⟨by omega,qOq g2 hx hy Yw⟩) Xd)
  ·exact gO 2 O (gQ 8 O Yo)
theorem tsame_s(a b:Tree)(hb:a.nodes.length<=1000000000)(hl:∀x∈a.nodes,x.val.length<=1000000000):PS cfg G 95 [tW a,tW b] (.bool (decide (a=b))):=by
 by_cases h:a.root=b.root
 ·skip
  exact gI 13 O (λR k0=>gT 0 O (eqI_iff.2 (h)) (gC 5 O (seqn_s a.nodes b.nodes false false hb hl) (gQ 5 O (dec_c ⟨λq=>by cases a;cases b;simp only at h q;rw[h,q],λq=>by rw[q]⟩))))
 ·skip
  exact gI 13 O (λR k0=>gF 0 O (eqI_not.2 (h)) (gQ 11 O (yVq λq=>h Qb)))
end
section
attribute [local irreducible] CoW OpW FlW Step Spec
attribute [local simp] qeq
variable {G:Nat->Option W}
theorem nextS_tr{c:Ch}{box:Dig}{x y:Lk}{n nx:Nat}{t0 t2 tx:T}{l:List Pr}{rs:List Rec}(hA:IsA (verT c y.root) n t0)(e:doX box (doD t0.all x.ds).1 x.xs=some (l,rs))(ok:t2.ok 0 qpq=true)(hl:t2.all=l)(hX:IsA (verT c x.root) nx tx):NextS c box x y↔Ybq y.hdr t2 ((doD t0.all x.ds).2++rs)=x.hdr/\((doD t0.all x.ds).2++rs).map recI=x.rs/\l=tx.all:=by
 constructor
 ·rintro⟨n',t0',n1,t1,rs',h1,h2,h3,h4,h5⟩;obtain⟨rfl,rfl⟩:=hA.uniq h1;obtain⟨rfl,rfl⟩:=hX.uniq h2;rw[e] at h3;cases h3;have q:t2=tx:=T.uniq jcq ok hX.toIsT.ok hl;subst q;exact⟨h4.symm,h5.symm,rfl⟩
 ·rintro⟨h1,h2,h3⟩;have q:t2=tx:=T.uniq jcq ok hX.toIsT.ok (hl.trans h3);subst q;exact⟨n,t0,nx,t2,rs,hA,hX,by rw[e,hl],h1.symm,h2.symm⟩
theorem rcsound_s(c:Ch)(hc:OkC c)(hn:c.tree.nodes.length<=200000)(box:Dig):PS cfg G 22 [chG c,dW box] (.bool (decide (SoundC c box))):=by
 by_cases hm:MayC c
 ·have h256:=hm.len;refine gI 11 O (λR k0=>gC 0 O (zzq (w':=.bool true) (juq c hc) Qa) ?_);refine gLo (α:=Nat) 13 (λi=>i<=c.links.length/\∀j x,j<i->c.links[j]? =some x->LkS c box j x) (λi=>[(5,.int .i64 (i:Int))]) [2,3,4] (λi=>c.links.length-i) (0) rfl (⟨Nat.zero_le _,λj x h=>by omega⟩) (λi hI=>?_);obtain⟨g1,g2⟩:=hI;refine gZ 6 O LMq ?_;refine gS 3 O (λh1=>?_) (λh1=>?_)
  ·have hi:i<c.links.length:=by omega
   obtain⟨x,hx⟩:∃x,c.links[i]? =some x:=⟨_,List.getElem?_eq_getElem hi⟩
   have hmx:=hm.link i x hx;have hB:=hc.body x (List.mem_of_getElem? hx);obtain⟨nx,tx,hX⟩:=hmx.tree;have l1:=hmx.body.1;have l2:=hmx.body.2.1;have hal:=hX.toIsT.all_le;have hln:=hX.toIsT.len;have goes:LkS c box i x->∀j w,j<i+1->c.links[j]? =some w->LkS c box j w:=λhS j w hj hw=>by rcases Nat.lt_succ_iff_lt_or_eq.1 hj with q|rfl;exact g2 j w q hw;exact Option.some.inj (hx.symm.trans hw)▸hS
   skip
   cases i with
   |zero=>
    have hsh:Zcq tx:=λp hp=>by have:=(hX.toIsT.val p hp).2;omega
    by_cases a1:x.hdr=firH tx
    ·by_cases a2:x.ds.length=0
     ·by_cases a3:x.xs.length=0
      ·exact yiq 9 O (gP 0 O (zuq (i:=0) O O O O O O O (zpq lkG hx)) (gT 9 O (eqI_iff.2 (rfl)) (gC 9 O (uFq c 0 x hx nx tx hX.toIsT) (gC 0 O (vCq tx hX.toIsT.ok hsh Xd) (x3q (w':=.bool false) rfl (yWq O O O O (uvq x.hdr (firH tx))) Qd (yaq 4 O (gZ 0 O LMq (gF 0 O (ltI_not.2 Xd) (gZ 5 O LMq (gF 0 O (ltI_not.2 Xd) (gA 12 O (0+1) (gAg 2 O (0+1) (⟨by omega,goes (LkS.of0 ⟨nx,tx,hX,a1,List.eq_nil_of_length_eq_zero a2,List.eq_nil_of_length_eq_zero a3⟩)⟩) Xd))))))))))))
      ·refine yiq 9 O (gP 0 O (zuq (i:=0) O O O O O O O (zpq lkG hx)) (gT 9 O (eqI_iff.2 (rfl)) (gC 9 O (uFq c 0 x hx nx tx hX.toIsT) (gC 0 O (vCq tx hX.toIsT.ok hsh Xd) (x3q (w':=.bool false) rfl (yWq O O O O (uvq x.hdr (firH tx))) Qd (yaq 4 O (gZ 0 O LMq (gF 0 O (ltI_not.2 Xd) (gZ 5 O LMq (gT 0 O (ltI_iff.2 Xd) (gO 14 O ?_)))))))))))
       exact gQ 2 O (yVq λq=>by
        obtain⟨n',t',_,_,h3',h4'⟩:=(q.sound 0 x hx).first rfl;rw[h4'] at a3;exact absurd rfl a3)
     ·refine yiq 9 O (gP 0 O (zuq (i:=0) O O O O O O O (zpq lkG hx)) (gT 9 O (eqI_iff.2 (rfl)) (gC 9 O (uFq c 0 x hx nx tx hX.toIsT) (gC 0 O (vCq tx hX.toIsT.ok hsh Xd) (x3q (w':=.bool false) rfl (yWq O O O O (uvq x.hdr (firH tx))) Qd (yaq 4 O (gZ 0 O LMq (gT 0 O (ltI_iff.2 Xd) (gO 21 O ?_)))))))))
      exact gQ 2 O (yVq λq=>by
       obtain⟨n',t',_,_,h3',h4'⟩:=(q.sound 0 x hx).first rfl;rw[h3'] at a2;exact absurd rfl a2)
    ·refine yiq 9 O (gP 0 O (zuq (i:=0) O O O O O O O (zpq lkG hx)) (gT 9 O (eqI_iff.2 (rfl)) (gC 9 O (uFq c 0 x hx nx tx hX.toIsT) (gC 0 O (vCq tx hX.toIsT.ok hsh Xd) (x3q (w':=.bool true) rfl (yWq O O O O (uvq x.hdr (firH tx))) (by rw[decide_eq_false a1];rfl) (yaq 27 O (gO 0 O ?_)))))))
     exact gQ 2 O (yVq λq=>by
      obtain⟨n',t',h1',h2',_⟩:=(q.sound 0 x hx).first rfl;obtain⟨_,rfl⟩:=hX.uniq h1';exact a1 h2')
   |succ k=>
    obtain⟨z,hz⟩:∃z,c.links[k]? =some z:=⟨_,List.getElem?_eq_getElem Xd⟩
    have hmz:=hm.link k z hz;obtain⟨nz,tz,hA⟩:=hmz.tree;have hhz:=hmz.height;have snext:SoundC c box->NextS c box x z:=λq=>(q.sound (k+1) x hx).next z (Nat.succ_pos _) hz
    have hf:(verT c z.root).nodes.length+300*x.ds.length+1200*x.xs.length<=260944:=by show c.tree.nodes.length+_+_<=_;omega
    cases hst:doX box (doD tz.all x.ds).1 x.xs with
    |none=>
     have hno:¬SoundC c box:=λq=>Jhq hA hst (snext q)
     have hb:=bad_no hst;exact yiq 9 O (gP 0 O (zuq (i:=k+1) O O O O O O O (zpq lkG hx)) (gF 9 O (eqI_not.2 Xd) (gA 9 O (k) (gC 0 O (xEq c k z hz) (gA 3 O (k) (gP 0 O (zuq (i:=k) O O O O O O O (zpq lkG hz)) (gC 5 O (rap_none (verT c z.root) nz tz hA z.hdr hmz.hdr Xd x.ds x.xs false false hB box ⟨l1,l2⟩ hf hst) (gT 15 O (congrArg not (eqI_not.2 Xd)) (gO 32 O (gQ 2 O (yVq hno)))))))))))
    |some r=>
     obtain⟨l,rs⟩:=r;have hrl:=ZGq hst;have hdl:=vkq x.ds tz.all;simp only at hrl;have hs:=hA.toIsT.srt;have hsl:=(doX_ok box (Qrq (ds:=x.ds) hs).1 hst).1;simp only at hsl;obtain⟨k1,k2⟩:=trie_ok hsl;have hiff:=nextS_tr hA hst k1 k2 hX;have hfl:=fw_doX (Qrq (ds:=x.ds) hs).1 (fw_doD x.ds hs (show Fw 262144 tz.all from⟨by have:=hA.toIsT.all_le;have:=hA.toIsT.len;omega,λp hp=>(hA.toIsT.val p hp).2⟩)) hst;have hll:l.length<=1000000000:=by have:=hfl.1;simp only at this;omega
     have hP:=zzq (w':=.tup [psW l,hdW (Ybq z.hdr (JNq l) ((doD tz.all x.ds).2++rs)),.fz ((((doD tz.all x.ds).2++rs).map recI).map rcW) 34 false,.int .i64 0]) (rap_some (G:=G) (verT c z.root) nz tz hA z.hdr hmz.hdr Xd x.ds x.xs false false hB box ⟨l1,l2⟩ hf l rs hst) (by rw[recI_w]);have hLl:(((doD tz.all x.ds).2++rs).map recI).length<=1000000000:=by rw[List.length_map,List.length_append];omega
     generalize (Ybq z.hdr (JNq l) ((doD tz.all x.ds).2++rs))=H at*
     generalize ((doD tz.all x.ds).2++rs).map recI=M at*
     by_cases a1:H=x.hdr
     ·by_cases a2:M=x.rs
      ·by_cases a3:l=tx.all
       ·exact yiq 9 O (gP 0 O (zuq (i:=k+1) O O O O O O O (zpq lkG hx)) (gF 9 O (eqI_not.2 Xd) (gA 9 O (k) (gC 0 O (xEq c k z hz) (gA 3 O (k) (gP 0 O (zuq (i:=k) O O O O O O O (zpq lkG hz)) (gC 5 O (hP) (gFa 15 O (zfq 4 O (qHq (w':=.bool false) rfl (yWq O O O O (uvq H x.hdr)) Qd (ziq 5 O (gC 0 O (zzq (w':=.bool true) (J0q M x.rs false false hLl) (by rw[decide_eq_true (a2)])) (gC 6 O (uFq c (k+1) x hx nx tx hX.toIsT) (gC 0 O (zzq (w':=.bool true) (rpsame_s l tx.all false false hll) (by rw[decide_eq_true (a3)])) (gA 10 O (k+1+1) (gAg 2 O (k+1+1) (⟨by omega,goes ⟨λh0=>absurd h0 Xd,λw _ hw=>Option.some.inj (hz.symm.trans hw)▸hiff.2 ⟨a1,a2,a3⟩⟩⟩) Xd))))))))))))))))
       ·exact yiq 9 O (gP 0 O (zuq (i:=k+1) O O O O O O O (zpq lkG hx)) (gF 9 O (eqI_not.2 Xd) (gA 9 O (k) (gC 0 O (xEq c k z hz) (gA 3 O (k) (gP 0 O (zuq (i:=k) O O O O O O O (zpq lkG hz)) (gC 5 O (hP) (gFa 15 O (zfq 4 O (qHq (w':=.bool false) rfl (yWq O O O O (uvq H x.hdr)) Qd (ziq 5 O (gC 0 O (zzq (w':=.bool true) (J0q M x.rs false false hLl) (by rw[decide_eq_true (a2)])) (gC 6 O (uFq c (k+1) x hx nx tx hX.toIsT) (gC 0 O (zzq (w':=.bool false) (rpsame_s l tx.all false false hll) (by rw[decide_eq_false (a3)])) (gO 13 O (gQ 2 O (yVq λq=>a3 (hiff.1 (snext q)).2.2)))))))))))))))))
      ·exact yiq 9 O (gP 0 O (zuq (i:=k+1) O O O O O O O (zpq lkG hx)) (gF 9 O (eqI_not.2 Xd) (gA 9 O (k) (gC 0 O (xEq c k z hz) (gA 3 O (k) (gP 0 O (zuq (i:=k) O O O O O O O (zpq lkG hz)) (gC 5 O (hP) (gFa 15 O (zfq 4 O (qHq (w':=.bool false) rfl (yWq O O O O (uvq H x.hdr)) Qd (ziq 5 O (gC 0 O (zzq (w':=.bool false) (J0q M x.rs false false hLl) (by rw[decide_eq_false (a2)])) (gO 21 O (gQ 2 O (yVq λq=>a2 (hiff.1 (snext q)).2.1)))))))))))))))
     ·exact yiq 9 O (gP 0 O (zuq (i:=k+1) O O O O O O O (zpq lkG hx)) (gF 9 O (eqI_not.2 Xd) (gA 9 O (k) (gC 0 O (xEq c k z hz) (gA 3 O (k) (gP 0 O (zuq (i:=k) O O O O O O O (zpq lkG hz)) (gC 5 O (hP) (gFa 15 O (zfq 4 O (qHq (w':=.bool true) rfl (yWq O O O O (uvq H x.hdr)) (by rw[decide_eq_false a1];rfl) (ziq 27 O (gO 0 O (gQ 2 O (yVq λq=>a1 (hiff.1 (snext q)).1))))))))))))))
  ·exact gO 2 O (gQ 8 O (Q0q ⟨hm,λj x hx=>g2 j x (by have:=kaq hx;omega) hx⟩))
 ·skip
  exact gI 11 O (λR k0=>gC 0 O (zzq (w':=.bool false) (juq c hc) (by rw[decide_eq_false (hm)])) (gQ 11 O (yVq λq=>hm q.toMayC)))
theorem lk_eq{a b:Lk}:(a.hdr=b.hdr/\a.root=b.root/\a.ds=b.ds/\a.xs=b.xs/\a.rs=b.rs)↔a=b:=by
 constructor
 ·rintro⟨h1,h2,h3,h4,h5⟩;exact lk_same.1 ⟨⟨h1,⟨h3,h4⟩,h5⟩,h2⟩
 ·rintro rfl;exact⟨rfl,rfl,rfl,rfl,rfl⟩
noncomputable instance(a b:Lk):Decidable (a=b):=Classical.propDecidable _
theorem csame1_s(a b:Lk)(hl:a.ds.length<=1000000/\a.xs.length<=1000000/\a.rs.length<=1000000):PS cfg G 97 [lkG a,lkG b] (.bool (decide (a=b))):=by
 by_cases h1:a.hdr=b.hdr
 ·by_cases h2:a.root=b.root
  ·by_cases h3:a.ds=b.ds
   ·by_cases h4:a.xs=b.xs
    ·skip
     exact gI 13 O (λR k0=>qHq (w':=.bool true) rfl (yvq O O O O (uvq a.hdr b.hdr)) Jt (ziq 5 O (gT 0 O (eqI_iff.2 (h2)) (gC 8 O (zzq (w':=.bool true) (seqd_s a.ds b.ds false false Xd) (by rw[decide_eq_true (h3)])) (gC 8 O (zzq (w':=.bool true) (seqx_s a.xs b.xs false false Xd) (by rw[decide_eq_true (h4)])) (gC 6 O (seqr_s a.rs b.rs false false Xd) (gQ 5 O (dec_c ⟨λq=>lk_eq.1 ⟨h1,h2,h3,h4,q⟩,λq=>(lk_eq.2 q).2.2.2.2⟩))))))))
    ·skip
     exact gI 13 O (λR k0=>qHq (w':=.bool true) rfl (yvq O O O O (uvq a.hdr b.hdr)) Jt (ziq 5 O (gT 0 O (eqI_iff.2 (h2)) (gC 8 O (zzq (w':=.bool true) (seqd_s a.ds b.ds false false Xd) (by rw[decide_eq_true (h3)])) (gC 8 O (zzq (w':=.bool false) (seqx_s a.xs b.xs false false Xd) (by rw[decide_eq_false (h4)])) (gQ 12 O (yVq λq=>h4 Qb)))))))
   ·skip
    exact gI 13 O (λR k0=>qHq (w':=.bool true) rfl (yvq O O O O (uvq a.hdr b.hdr)) Jt (ziq 5 O (gT 0 O (eqI_iff.2 (h2)) (gC 8 O (zzq (w':=.bool false) (seqd_s a.ds b.ds false false Xd) (by rw[decide_eq_false (h3)])) (gQ 21 O (yVq λq=>h3 Qb))))))
  ·skip
   exact gI 13 O (λR k0=>qHq (w':=.bool true) rfl (yvq O O O O (uvq a.hdr b.hdr)) Jt (ziq 5 O (gF 0 O (eqI_not.2 (h2)) (gQ 30 O (yVq λq=>h2 Qb)))))
 ·skip
  exact gI 13 O (λR k0=>qHq (w':=.bool false) rfl (yvq O O O O (uvq a.hdr b.hdr)) (by rw[decide_eq_false h1]) (ziq 36 O (gQ 0 O (yVq λq=>h1 Qb))))
theorem seql_s(a b:List Lk)(f g:Bool)(hb:a.length<=1000000000)(hl:∀x∈a,x.ds.length<=1000000/\x.xs.length<=1000000/\x.rs.length<=1000000):PS cfg G 96 [.fz (a.map lkG) 102 f,.fz (b.map lkG) 102 g,.fn 97 [] []] (.bool (decide (a=b))):=by
 refine gI 9 O (λR k0=>gZ 0 O LMq (gZ 1 O LMq ?_));refine gS 3 O (λh1=>?_) (λh1=>?_)
 ·exact gQ 7 O Yi
 ·refine gZ 6 O LMq ?_;refine gLo (α:=Nat) 4 (λi=>i<=a.length/\a.take i=b.take i) (λi=>[(17,.int .i64 (i:Int))]) [1,2,6,15,16] (λi=>a.length-i) (0) rfl (⟨Nat.zero_le _,rfl⟩) (λi hI=>?_);obtain⟨g1,g2⟩:=hI;refine gS 6 O (λh2=>?_) (λh2=>?_)
  ·obtain⟨x,hx⟩:∃x,a[i]? =some x:=⟨_,List.getElem?_eq_getElem Xd⟩
   obtain⟨y,hy⟩:∃y,b[i]? =some y:=⟨_,List.getElem?_eq_getElem Xd⟩
   refine gP 7 O (zuq (i:=i) O O O O O O O (zpq lkG hx)) (gP 10 O (zuq (i:=i) O O O O O O O (zpq lkG hy)) (gC 10 O (csame1_s x y (hl x (List.mem_of_getElem? hx))) ?_));refine gS 3 O (λh3=>?_) (λh3=>?_)
   ·exact gO 8 O (gQ 2 O Jq)
   ·exact gA 4 O (i+1) (gAg 2 O (i+1) (⟨by omega,qOq g2 hx hy Yw⟩) Xd)
  ·exact gO 2 O (gQ 8 O Yo)
theorem csame_s(a b:Ch)(ha:SmallC a)(hv:∀x∈a.tree.nodes,x.val.length<=1000000000):PS cfg G 23 [chG a,chG b] (.bool (decide (a=b))):=by
 have h1:=ha.nodes;have h2:=ha.len;by_cases h:a.tree=b.tree
 ·skip
  exact gI 13 O (λR k0=>gC 0 O (zzq (w':=.bool true) (tsame_s a.tree b.tree Xd hv) (by rw[decide_eq_true (h)])) (gC 5 O (seql_s a.links b.links false false Xd ha.link) (gQ 5 O (dec_c ⟨λq=>by cases a;cases b;simp only at h q;rw[h,q],λq=>by rw[q]⟩))))
 ·skip
  exact gI 13 O (λR k0=>gC 0 O (zzq (w':=.bool false) (tsame_s a.tree b.tree Xd hv) (by rw[decide_eq_false (h)])) (gQ 11 O (yVq λq=>h Qb)))
theorem ctwin2_s(c:Ch)(hs:SmallC c):PS cfg G 24 [chG c] (chG c):=by
 exact gI 10 O (λR k0=>gC 0 O (x7q c.tree hs.vl hs.vals) (gC 2 O (((ctrn_s c.links false hs.len hs.link).ps Xm (kFq _))) (gQa 5 O)))
attribute [local simp] PW.pur
noncomputable def trW(A:PW)(r:Int):W:=.agg 2 [A.w,.int .i64 r]
noncomputable def kcW(A B:PW)(r:Int):W:=.agg 3 [trW A r,B.w]
@[simp] theorem trW_pur(A:PW)(r:Int):purW (trW A r)=true:=by simp[trW,purW,purL]
@[simp] theorem kcW_pur(A B:PW)(r:Int):purW (kcW A B r)=true:=by simp[kcW,trW,purW,purL]
theorem beq_two(b:Bool):(b==b)=true:=by cases b<;>rfl
theorem tells_g(c o:Ch)(hc:OkC c)(ho:OkC o)(box:Dig)(h:Int)(hg:k0q c 5\/k0q o 5):PS cfg glK 3 [chG c,chG o,dW box,.int .i64 h] (.bool true):=by
 by_cases g1:k0q c 5
 ·skip
  exact gI 12 O (λR k0=>gC 0 O (zzq (w':=.bool true) (vUq c 5 hc.nodes hc.len) (by rw[decide_eq_true (g1)])) (gQa 14 O))
 ·have g2:=hg.resolve_left g1;exact gI 12 O (λR k0=>gC 0 O (zzq (w':=.bool false) (vUq c 5 hc.nodes hc.len) (by rw[decide_eq_false (g1)])) (gC 2 O (zzq (w':=.bool true) (vUq o 5 ho.nodes ho.len) (by rw[decide_eq_true (g2)])) (gQa 11 O)))
theorem tells_w(c o:Ch)(hc:OkC c)(ho:OkC o)(box:Dig)(h:Int)(g1:¬k0q c 5)(g2:¬k0q o 5)(sc:SmallC c)(so:SmallC o)(hv:∀x∈c.tree.nodes,x.val.length<=1000000000)(hn:c.tree.nodes.length<=200000)
  (H:Hdr) (he:Int) (S:PW) (sr se:Int) (K1 K2:PW) (kr ke:Int)
  (p1:PS cfg glK 11 [chG c] (.tup [hdW H,.int .i64 he])) (q1:PS cfg glK 12 [chG c] (.tup [hdW H,.int .i64 he]))
  (p2:PS cfg glK 13 [chG c,.int .i64 h] (.tup [trW S sr,.int .i64 se])) (q2:PS cfg glK 14 [chG c,.int .i64 h] (.tup [trW S sr,.int .i64 se]))
  (p3:PS cfg glK 15 [chG c,.int .i64 h] (.tup [kcW K1 K2 kr,.int .i64 ke])) (q3:PS cfg glK 16 [chG c,.int .i64 h] (.tup [kcW K1 K2 kr,.int .i64 ke]))
  (sS:PS cfg glK 17 [trW S sr,trW S sr] (.bool true)) (sK:PS cfg glK 18 [kcW K1 K2 kr,kcW K1 K2 kr] (.bool true)):
  PS cfg glK 3 [chG c,chG o,dW box,.int .i64 h] (.bool true):=by
 exact gI 12 O (λR k0=>gC 0 O (zzq (w':=.bool false) (vUq c 5 hc.nodes hc.len) (by rw[decide_eq_false (g1)])) (gC 2 O (zzq (w':=.bool false) (vUq o 5 ho.nodes ho.len) (by rw[decide_eq_false (g2)])) (gC 9 O (rchtwin_s c sc) (gC 7 O (p1) (gC 11 O (q1) (gC 12 O (p2) (gC 12 O (q2) (gC 12 O (p3) (gC 12 O (q3) (zfq 12 O (qHq (w':=.bool true) rfl (yvq O O O O (uvq H H)) Qg (ziq 3 O (gT 0 O (eqI_iff.2 (rfl)) (zfq 4 O (yuq O O O O O (by simp[purL]) sS (ziq 4 O (gT 0 O (eqI_iff.2 (rfl)) (zfq 4 O (yuq O O O O O (by simp[purL]) sK (ziq 4 O (gT 0 O (eqI_iff.2 (rfl)) (gC 7 O (qYq c hc) (gC 1 O (rcchk_s c hc) (gT 0 O (eqI_iff.2 (rfl)) (gC 3 O (csound_s c hc hn box) (gC 2 O (rcsound_s c hc hn box) (gT 0 O (beq_two _) (gC 4 O (csame_s c o sc hv) (gC 2 O (vBq c o sc so) (gT 0 O (beq_two _) (gC 4 O (zzq (w':=.bool true) (csame_s c c sc hv) (by rw[decide_eq_true (rfl)])) (gC 12 O (ctwin2_s c sc) (gC 1 O (zzq (w':=.bool true) (vBq c c sc sc) (by rw[decide_eq_true (rfl)])) (gC 4 O (zzq (w':=.bool true) (vBq c c sc sc) Qg) (gQa 5 O)))))))))))))))))))))))))))))))))))
def nilP:PW:=⟨.nils,rfl⟩
theorem no_view:View (λ_=>none) (trW nilP 0) (tW ⟨[],0⟩):=.agg (.cons .nilfz (.cons (.pur rfl) .nil))
theorem nc_view:View (λ_=>none) (kcW nilP nilP 0) (chG ⟨⟨[],0⟩,[]⟩):=.agg (.cons no_view (.cons .nilfz .nil))
theorem small_nil:SmallC ⟨⟨[],0⟩,[]⟩:=⟨by simp,λx h=>by simp at h,by simp,λx h=>by simp at h⟩
theorem same_not:PS cfg glK 17 [trW nilP 0,trW nilP 0] (.bool true):=Jdq (.cons no_view (.cons no_view .nil)) (zzq (vyq (G:=glK) ⟨[],0⟩ ⟨[],0⟩ Xh) Qg)
theorem same_noc:PS cfg glK 18 [kcW nilP nilP 0,kcW nilP nilP 0] (.bool true):=Jdq (.cons nc_view (.cons nc_view .nil)) (zzq (vBq (G:=glK) ⟨⟨[],0⟩,[]⟩ ⟨⟨[],0⟩,[]⟩ small_nil small_nil) Qg)
theorem tells17_s(c o:Ch)(hc:OkC c)(ho:OkC o)(box:Dig)(h:Int):PS cfg glK 3 [chG c,chG o,dW box,.int .i64 h] (.bool true):=by
 by_cases hg:k0q c 5\/k0q o 5
 ·exact tells_g c o hc ho box h hg
 have g1:¬k0q c 5:=λq=>hg (.inl q)
 have g2:¬k0q o 5:=λq=>hg (.inr q)
 have sc:=ZXq Xm g1;have so:=ZXq Xm g2;have hn:c.tree.nodes.length<=200000:=by have:=(Y7q g1).1;omega
 have hv:∀x∈c.tree.nodes,x.val.length<=1000000000:=λx hx=>by
  obtain⟨i,hi⟩:=List.getElem?_of_mem hx;have:=(List.getElem?_eq_some_iff.1 hi).1;have h9:=(Y7q g1).1;have:x.val.length<=100:=Nat.le_of_not_lt λq=>g1 (.inl (.inr ⟨i,x,by omega,hi,q⟩))
  omega
 by_cases hm:MayC c
 ·obtain⟨y,hy,_,_⟩:=hm.last;by_cases hh:h<0\/(c.links.length:Int)<=h
  ·exact tells_w c o hc ho box h g1 g2 sc so hv hn y.hdr 0 nilP 0 2 nilP nilP 0 2 (chead_s c hc hm hy) (rchead_s c hc hm hy) (cstate_arg c hc h hm hh) (rcstate_arg c hc h hm hh) (ccut_arg c hc h hm hh) (rccut_arg c hc h hm hh) same_not same_noc
  ·obtain⟨i,rfl⟩:=Int.eq_ofNat_of_zero_le (show 0<=h by omega);obtain⟨x,hx⟩:∃x,c.links[i]? =some x:=⟨_,List.getElem?_eq_getElem Xd⟩
   exact tells_w c o hc ho box i g1 g2 sc so hv hn y.hdr 0 ⟨.fz (c.tree.nodes.map nW) 36 false,Khq _⟩ x.root 0 ⟨.fz (c.tree.nodes.map nW) 36 false,Khq _⟩ ⟨.fz ((c.links.take (i+1)).map lkG) 102 false,kFq _⟩ x.root 0 (chead_s c hc hm hy) (rchead_s c hc hm hy) (cstate_s c hc sc i hm hx) (rcstate_s c hc sc i hm hx) (ccut_s c hc sc i hm hx) (rccut_s c hc sc i hm hx) (zzq (vyq (G:=glK) (verT c x.root) (verT c x.root) (by show c.tree.nodes.length<=_;omega)) Qg) (zzq (vBq (G:=glK) (cutC c i x) (cutC c i x) (sc.cut i x) (sc.cut i x)) Qg)
 ·exact tells_w c o hc ho box h g1 g2 sc so hv hn hdZ 8 nilP 0 8 nilP nilP 0 8 (chead_no c hc hm) (rchead_no c hc hm) (cstate_no c hc h hm) (rcstate_no c hc h hm) (ccut_no c hc h hm) (rccut_no c hc h hm) same_not same_noc
end
mutual
/-- all blocks in it lie below n -/
noncomputable def ltB(n:Nat):V->Bool
 |.ptr b _=>decide (b<n)
 |.sl b _ _ _ _ _=>decide (b<n)
 |.map b=>decide (b<n)
 |.yield b=>decide (b<n)
 |.fn _ a c=>ltL n a&&ltL n c
 |.iface _ v=>ltB n v
 |.agg _ l=>ltL n l
 |.arr _ _ l=>ltL n l
 |.tup l=>ltL n l
 |.undef=>true
 |.bool _=>true
 |.int _ _=>true
 |.str _=>true
 |.nilp=>true
 |.nils=>true
 |.nilm=>true
 |.nilf=>true
 |.nili=>true
noncomputable def ltL(n:Nat):List V->Bool
 |[]=>true
 |v::l=>ltB n v&&ltL n l
end
noncomputable def SeenK(h:Heap):Nat->Prop:=λb=>b<h.next/\∃v,h.val b=some v/\ltB h.next v=true
noncomputable def u32V(n:Nat):V:=.int .u32 (.ofNat n)
noncomputable def eqK:List V->List Nat->Bool
 |[],[]=>true
 |.int .u32 (.ofNat n)::l,m::ms=>match Nat.beq n m with
  |true=>eqK l ms
  |false=>false
 |_,_=>false
theorem eqK_spec:∀{l:List V} {ms:List Nat},eqK l ms=true->l=ms.map u32V
 |[],[],_=>rfl
 |[],_::_,h=>by simp[eqK] at h
 |v::l,ms,h=>by
  unfold eqK at h;split at h
  ·simp_all
  ·rename_i n l' m ms' e;cases e;split at h
   ·rename_i hb;obtain rfl:=Nat.eq_of_beq_eq_true hb;rw[eqK_spec h];rfl
   ·cases h
  ·cases h
noncomputable def globK(h:Heap):Bool:=match h.get 0 with
 |some (.ro (.arr 64 1 l))=>eqK l kW
 |_=>false
theorem RSL_wd(Γ:Ctx):∀l:List Nat,RSL Γ (l.map wd) (l.map u32V)
 |[]=>rfl
 |n::l=>jbq (a:=[u32V n]) (b:=l.map u32V) (x:=wd n) rfl (RSL_wd Γ l)
theorem globK_spec{h:Heap}(hn:Nat.ble 2 h.next=true)(hk:globK h=true):GRel cfg glK ⟨0,λi=>i,SeenK h,h⟩:=by
 intro g w _ h2 nw σ;have hn:=Ob hn;unfold glK at h2;split at h2
 ·cases h2;unfold globK at hk;split at hk
  ·rename_i l hg;obtain rfl:=eqK_spec hk;have hv:h.val 0=some (.arr 64 1 (kW.map u32V)):=by simp only[Heap.val,hg]
   refine RV.of_one ⟨0,0,_,rfl,⟨by omega,_,hv,by rfl⟩,hv,by exact Nat.le_refl _,λ_=>rfl,.inr rfl,?_⟩ O O;have e:((zsq (.arr 64 1 (kW.map u32V))).drop 0).take 64=kW.map u32V:=by kernel_rfl
   show RS _ _ (((zsq (.arr 64 1 (kW.map u32V))).drop 0).take 64);rw[e];exact⟨rfl,λx hx=>by obtain⟨n,_,rfl⟩:=List.mem_map.1 hx;rfl,RSL_wd _ kW⟩
  ·cases hk
 ·cases h2
end
end Go.Proofs.YtihcioafclhokaaGreatDoor

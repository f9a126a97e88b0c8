/-
  What the proof of AutoReads stands on, part 7. No condition.
-/
import Derived.Ground.SlbNamesProg
import Derived.Shelf.Bytes.SlJoin
import Derived.Test.YtihcioafclhokaaGreatDoorProg
import Derived.Test.YtihcioafclhokaaGreatDoorZAutoReadsF
set_option linter.unusedSimpArgs false
set_option linter.unusedVariables false
namespace Go.Proofs.YtihcioafclhokaaGreatDoor
section
open Go.RowKit
section
attribute [local irreducible] CoW OpW FlW Step Spec
variable {G:Nat->Option W}
theorem mayp_val(k:Dig)(v:List UInt8):MayP [(k,v)]↔valB v=true:=by
 constructor
 ·intro h;exact(h.2 0 Xk _ rfl).1
 ·intro h;refine⟨by simp,λi hi x hx=>?_⟩;obtain rfl:i=0:=by simpa using hi
  cases hx;exact⟨h,λy h0=>by omega⟩
theorem rone_s(x:Node)(n:Nat)(hn:n<=4611686018427387903):PS cfg G 279 [nW x,.int .i64 (n:Int)] (.bool (decide (oneB x n))):=by
 have e:=zdq x.val
 have yes:∀{b:Bool},x.leaf=true->b=(valB x.val&&decide (x.left=0)&&decide (x.right=0)) ->W.bool b=W.bool (decide (oneB x n)):=λ{b} h1 hb=>by
  rw[hb];congr 1
  rw[Bool.eq_iff_iff];simp only[Bool.and_eq_true,decide_eq_true_eq,oneB,if_pos h1,mayp_val];exact⟨λ⟨⟨a,b⟩,c⟩=>⟨b,c,a⟩,λ⟨b,c,a⟩=>⟨⟨a,b⟩,c⟩⟩
 have no:¬x.leaf=true->¬((0<=x.left/\x.left<=n)/\(0<=x.right/\x.right<=n)/\0<x.left+x.right) ->W.bool false=W.bool (decide (oneB x n)):=λh1 h=>by
  rw[decide_eq_false];rw[oneB,if_neg h1];exact λq=>h ⟨q.1,q.2.1,q.2.2.2.2⟩
 have fork:∀{b:Bool},¬x.leaf=true->0<=x.left->x.left<=n->0<=x.right->x.right<=n->0<x.left+x.right->b=(decide (x.key=z5q)&&decide (x.val=[])) ->W.bool b=W.bool (decide (oneB x n)):=λ{b} h1 q1 q2 q3 q4 q5 hb=>by
  rw[hb];congr 1
  rw[Bool.eq_iff_iff];simp only[Bool.and_eq_true,decide_eq_true_eq,oneB,if_neg h1];exact⟨λ⟨a,c⟩=>⟨⟨q1,q2⟩,⟨q3,q4⟩,a,c,q5⟩,λh=>⟨h.2.2.1,h.2.2.2.1⟩⟩
 refine gI 13 Y (λR k0=>?_);refine gS 0 Y (λh1=>?_) (λh1=>?_)
 ·refine gC 4 Y (rvalue_s _ _) ?_;refine gB 0 Y (λh2=>?_) (λh2=>?_)
  ·refine gD 3 Y (λh3=>?_) (λh3=>?_)
   ·refine gU 4 Y ?_;exact gQ 6 Y Xy
   ·exact gQ 11 Y Xy
  ·exact gQ 15 Y Xy
 ·refine gD 7 Y (λh2=>?_) (λh2=>?_)
  ·exact gQ 37 Y Xy
  ·refine gD 4 Y (λh3=>?_) (λh3=>?_)
   ·exact gQ 32 Y Xy
   ·refine gD 4 Y (λh4=>?_) (λh4=>?_)
    ·exact gQ 27 Y Xy
    ·refine gD 5 Y (λh5=>?_) (λh5=>?_)
     ·exact gQ 21 Y Xy
     ·refine gD 4 Y (λh6=>?_) (λh6=>?_)
      ·refine gU 3 Y ?_;refine gS 4 Y (λh7=>?_) (λh7=>?_)
       ·exact gQ 7 Y Xy
       ·have h2:¬x.left<0:=h2;have h3:¬(n:Int)<x.left:=h3;have h4:¬x.right<0:=h4;have h5:¬(n:Int)<x.right:=h5;refine gV 6 Y kHq ?_;refine gDe 0 Y (y2q Y Y Y Y (qfq Y Y Y Y Y Y _ _ 250)) yvq (λh8=>?_) (λh8=>?_)
        ·refine gV (w':=.int .i64 (x.val.length:Int)) 3 Y Xw ?_;refine gU 0 Y ?_;refine zfq 5 Y ?_;refine fin_eq Qn rfl (fork h1 Xd Xd Xd Xd Xd ?_);rw[decide_eq_true (by assumption:x.key=z5q),Bool.true_and];refine decide_eq_decide.2 ⟨λq=>List.eq_nil_of_length_eq_zero Xd,λq=>by rw[q];rfl⟩
        ·refine zfq 10 Y ?_;refine fin_eq Qn rfl (fork h1 Xd Xd Xd Xd Xd ?_);rw[decide_eq_false (by assumption:¬x.key=z5q),Bool.false_and]
      ·have h2:¬x.left<0:=h2;have h3:¬(n:Int)<x.left:=h3;have h4:¬x.right<0:=h4;have h5:¬(n:Int)<x.right:=h5;refine gV 15 Y kHq ?_;refine gDe 0 Y (y2q Y Y Y Y (qfq Y Y Y Y Y Y _ _ 250)) yvq (λh7=>?_) (λh7=>?_)
       ·refine gV (w':=.int .i64 (x.val.length:Int)) 3 Y Xw ?_;refine gU 0 Y ?_;refine zfq 5 Y ?_;refine fin_eq Qn rfl (fork h1 Xd Xd Xd Xd Xd ?_);rw[decide_eq_true (by assumption:x.key=z5q),Bool.true_and];refine decide_eq_decide.2 ⟨λq=>List.eq_nil_of_length_eq_zero Xd,λq=>by rw[q];rfl⟩
       ·refine zfq 10 Y ?_;refine fin_eq Qn rfl (fork h1 Xd Xd Xd Xd Xd ?_);rw[decide_eq_false (by assumption:¬x.key=z5q),Bool.false_and]
def cntR(t:T)(d:Nat)(b:Dig):Int:=if t.ok d b=true then(match t with|.nil=>0|.leaf _ _=>1|.fork _ _=>2) else-1
theorem cntR_lt(t:T)(d:Nat)(b:Dig):cntR t d b<0↔¬t.ok d b=true:=by
 unfold cntR;split
 ·rename_i h;cases t<;>simp[h]
 ·rename_i h;simp[h]
theorem cntR_ge(t:T)(d:Nat)(b:Dig):0<=cntR t d b↔t.ok d b=true:=by
 have:=cntR_lt t d b;constructor
 ·intro h;refine Classical.byContradiction λq=>?_
  have:=this.2 q;omega
 ·intro h;refine Int.not_lt.1 λq=>this.1 q h
theorem cntR_fork{l r:T}{d:Nat}{b:Dig}(hd:d<256)(h1:¬cntR l (d+1) b<0)(h2:¬cntR r (d+1) (qlq b d)<0):cntR (.fork l r) d b=if cntR l (d+1) b+cntR r (d+1) (qlq b d)<2 then-1 else 2:=by
 have e1:l.ok (d+1) b=true:=(cntR_ge l _ _).1 Xd;have e2:r.ok (d+1) (qlq b d)=true:=(cntR_ge r _ _).1 Xd;have e:(T.fork l r).ok d b=T.two l r:=by simp only[T.ok];rw[decide_eq_true hd,e1,e2];rfl
 unfold cntR;rw[e,e1,e2];cases l<;>cases r<;>simp[T.two,T.isFork,T.non]
theorem cntR_le(t:T)(d:Nat)(b:Dig):cntR t d b<=2:=by
 unfold cntR;split
 ·cases t<;>simp
 ·omega
theorem cntR_no{l r:T}{d:Nat}{b:Dig}(h:¬(T.fork l r).ok d b=true):cntR (.fork l r) d b=-1:=by unfold cntR;rw[if_neg h]
theorem rright_s(t0:Tree)(hb:t0.nodes.length<=4611686018427387903):∀(t:T) (n d:Nat) (b:Dig),Rep t0.nodes n t->d<=256->PS cfg G 280 [tW t0,.int .i64 (n:Int),.int .i64 (d:Int),dW b] (.int .i64 (cntR t d b)):=by
 intro t;induction t with
 |nil=>
  intro n d b hr hd;obtain rfl:n=0:=by cases hr;rfl
  refine gI 14 Y (λR k0=>?_);refine gS 0 Y (λh1=>?_) (λh1=>?_)
  ·exact gQa 7 Y
  ·exfalso;omega
 |leaf k v=>
  intro n d b hr hd;have hle:=hr.le;cases hr with
  |leaf h=>
  rename_i n l r;refine gI 14 Y (λR k0=>?_);refine gS 0 Y (λh1=>?_) (λh1=>?_)
  ·exfalso;omega
  ·refine gA 7 Y (n) ?_;refine gP 0 Y (zAq (i:=n) Y Y Y Y Y Y Y (zzq nW h)) ?_;refine gC 19 Y (rshared_s _ _) ?_;refine gS 4 Y (λh2=>?_) (λh2=>?_)
   ·refine gQ 8 Y ?_;unfold cntR;rw[if_neg];simp only[T.ok,decide_eq_true_eq];have h2:((yhq k b:Nat):Int)<d:=h2;omega
   ·refine gQ 9 Y ?_;unfold cntR;rw[if_pos];simp only[T.ok,decide_eq_true_eq];have h2:¬((yhq k b:Nat):Int)<d:=h2;omega
 |fork tl tr ihL ihR=>
  intro n d b hr hd;have hle:=hr.le;cases hr with
  |fork h hl hr hL hR=>
  rename_i n l r k v;refine gI 14 Y (λR k0=>?_);refine gS 0 Y (λh1=>?_) (λh1=>?_)
  ·exfalso;omega
  ·refine gA 7 Y (n) ?_;refine gP 0 Y (zAq (i:=n) Y Y Y Y Y Y Y (zzq nW h)) ?_;refine gS 22 Y (λh2=>?_) (λh2=>?_)
   ·refine gQ 7 Y ?_;rw[cntR_no λq=>by have:=(ok_fork.1 q).1;omega]
   ·have hd':d<256:=by omega
    refine gC 6 Y (rturn_in _ _ Xd) ?_;refine gA 14 Y (d+1) ?_;refine zfq 1 Y ?_;refine jiq Y Y Y Y Y Y (ihL l (d+1) b hL Xd) ?_;refine zJq 10 Y ?_;refine gS 0 Y (λh3=>?_) (λh3=>?_)
    ·refine gQ 7 Y ?_;rw[cntR_no λq=>(cntR_lt tl _ _).1 Xq (ok_fork.1 q).2.1]
    ·refine gA 8 Y (d+1) ?_;refine zfq 1 Y ?_;refine jiq Y Y Y Y Y Y (ihR r (d+1) (qlq b d) hR Xd) ?_;refine zJq 7 Y ?_;refine gD 0 Y (λh4=>?_) (λh4=>?_)
     ·refine gQ 16 Y ?_;rw[cntR_no λq=>(cntR_lt tr _ _).1 Xq (ok_fork.1 q).2.2.1]
     ·have hc:=cntR_fork (l:=tl) (r:=tr) hd' h3 h4;have b1:=cntR_le tl (d+1) b;have b2:=cntR_le tr (d+1) (qlq b d);refine gWr 3 Y ?_;refine gU 0 Y ?_;refine gS 3 Y (λh5=>?_) (λh5=>?_)
      ·exact gQ 7 Y (by rw[hc,if_pos Xq])
      ·exact gQ 8 Y (by rw[hc,if_neg Xq])
theorem rmay_s(t:Tree)(hb:t.nodes.length<=4611686018427387903):PS cfg G 201 [tW t] (.bool (decide (MayT t))):=by
 have e:(t.nodes.map nW).length=t.nodes.length:=List.length_map _;refine gI 11 Y (λR k0=>gV (w':=.int .i64 (t.nodes.length:Int)) 0 Y Xw ?_);refine gD 0 Y (λh1=>?_) (λh1=>?_)
 ·have hno:¬MayT t:=λh=>by have:=h.1;omega
  exact gQ 23 Y Yy
 refine gD 3 Y (λh2=>?_) (λh2=>?_)
 ·have hno:¬MayT t:=λh=>by obtain⟨_,_,n,_,h,_⟩:=h;have h2:t.root<0:=h2;omega
  exact gQ 19 Y Yy
 refine gV (w':=.int .i64 (t.nodes.length:Int)) 6 Y Xw (gU 0 Y ?_);refine gS 3 Y (λh3=>?_) (λh3=>?_)
 ·have hno:¬MayT t:=λh=>by obtain⟨_,_,n,_,h,hr,_⟩:=h;have h3:(t.nodes.length:Int)<t.root:=h3;have:=hr.le;omega
  exact gQ 7 Y Yy
 have h2:¬t.root<0:=h2;have h3:¬(t.nodes.length:Int)<t.root:=h3;obtain⟨n0,hn0⟩:=Int.eq_ofNat_of_zero_le (show 0<=t.root by omega);refine gLo (α:=Nat) 9 (λi=>i<=t.nodes.length/\∀j x,j<i->t.nodes[j]? =some x->oneB x j) (λi=>[(3,.int .i64 (i:Int))]) [1,2] (λi=>t.nodes.length-i) (0) rfl (⟨Nat.zero_le _,λj x hj=>by omega⟩) (λi hI=>?_);obtain⟨hi,hI⟩:=hI;refine gV (w':=.int .i64 (t.nodes.length:Int)) 6 Y Xw ?_;refine gS 3 Y (λh4=>?_) (λh4=>?_)
 ·have hi':i<t.nodes.length:=by omega
  obtain⟨x,hx⟩:∃x,t.nodes[i]? =some x:=⟨_,List.getElem?_eq_getElem hi'⟩
  refine gP 9 Y (zAq (i:=i) Y Y Y Y Y Y Y (zzq nW hx)) (gC 2 Y (rone_s _ _ Xd) ?_);refine gS 3 Y (λh5=>?_) (λh5=>?_)
  ·have hno:¬MayT t:=λh=>by have:=h.2.1 i x hx;simp[this] at h5
   exact gO 8 Y (gQ 2 Y Yy)
  ·have h5:oneB x i:=by simpa using h5
   exact gA 5 Y (i+1) (gAg 2 Y (i+1) (⟨hi',λj y hj hy=>by rcases Nat.lt_succ_iff_lt_or_eq.1 hj with h|rfl;exact hI j y h hy;exact(Option.some.inj (hx.symm.trans hy))▸h5⟩) Xd)
 ·have okn:okN t.nodes:=λj x hx=>hI j x (by have:=(List.getElem?_eq_some_iff.1 hx).1;omega) hx
  obtain⟨t0,ht0⟩:=rep_of okn n0 Xd
  have key:MayT t↔t0.ok 0 z5q=true:=by
   constructor
   ·rintro⟨_,_,n,t1,hn,hr,hk⟩;obtain rfl:n=n0:=by omega
    rw[ht0.uniq hr];exact hk
   ·exact λh=>⟨by omega,okn,n0,t0,hn0,ht0,h⟩
  refine gO 2 Y (gV 7 Y kHq (op_ps Y Y Y Y Y (by rw[hn0];rfl) (rright_s t Xd t0 n0 0 z5q ht0 Xd) Xk Xk (op_cz Y Y (zJq 4 Y (gQ 0 Y ?_)))));rw[show decide (MayT t)=decide (0<=cntR t0 0 z5q) from decide_eq_decide.2 (key.trans (cntR_ge t0 0 z5q).symm)]
theorem rfor_s(t0:Tree)(hb:t0.nodes.length<=4611686018427387903):∀(t:T) (n:Nat),Rep t0.nodes n t->t.all.length<=1000000->(∀p∈t.all,p.2.length<=70368744177664) ->PL cfg G 263 [tW t0,.int .i64 (n:Int)] 191 33 (t.all.map pW):=by
 intro t;induction t with
 |nil=>
  intro n hr hl hv R;obtain rfl:n=0:=by cases hr;rfl
  refine gIs 13 Y (λk0=>?_);refine gS 0 Y (λh1=>?_) (λh1=>?_)
  ·exact zfq 7 Y (fin (w:=gW 0 33 []) Qn (Qbq (b:=0) (ty:=191) (l2:=[]) (H0:=[]) (fr2:=[]) 4 Xd Xd rfl trivial trivial (λx r h=>by cases h) rfl trivial List.nodup_nil) rfl ⟨rfl,rfl,rfl,rfl⟩)
  ·exfalso;omega
 |leaf k v=>
  intro n hr hl hv R;have hle:=hr.le;have hvl:=hv (k,v) (by simp[T.all]);simp only at hvl;cases hr with
  |leaf h=>
  rename_i n l r;refine gIs 13 Y (λk0=>?_);refine gS 0 Y (λh1=>?_) (λh1=>?_)
  ·exfalso;omega
  ·exact gA 7 Y (n) (gP 0 Y (zAq (i:=n) Y Y Y Y Y Y Y (zzq nW h)) (zfq 19 Y (fl_ps Y Y Y Y Y Y (rtwin_s v false hvl) Xk Xk Xr (qoq 7 Y (fin (w:=gW 0 33 [pW (k,v)]) Qn (ent_one (b:=0) (x:=pW (k,v)) 2 4 Xd Xd Xd Y Y Y Y Xk) rfl ⟨rfl,rfl,rfl,rfl⟩)))))
 |fork tl tr ihL ihR=>
  intro n hr hl hv R;have hle:=hr.le;cases hr with
  |fork h hl0 hr0 hL hR=>
  rename_i n l r k v;have hlen:tl.all.length+tr.all.length<=1000000:=by simpa[T.all] using hl
  obtain⟨l1,e1⟩:∃q,q=tl.all.map pW:=⟨_,rfl⟩
  obtain⟨l2,e2⟩:∃q,q=tr.all.map pW:=⟨_,rfl⟩
  have P1:PL cfg G 263 [tW t0,.int .i64 (l:Int)] 191 33 l1:=e1▸ihL l hL Xd λp hp=>hv p Yt
  have P2:PL cfg G 263 [tW t0,.int .i64 (r:Int)] 191 33 l2:=e2▸ihR r hR Xd λp hp=>hv p Yt
  have p1:purL l1=true:=by rw[e1];exact jhq _
  have p2:purL l2=true:=by rw[e2];exact jhq _
  have hl1:l1.length<=1000000:=by rw[e1,List.length_map];omega
  have hl2:l2.length<=1000000:=by rw[e2,List.length_map];omega
  have e3:(T.fork tl tr).all.map pW=l1++l2:=by rw[e1,e2];simp[T.all]
  rw[e3];clear e1 e2 e3;refine gIs 13 Y (λk0=>?_);refine gS 0 Y (λh1=>?_) (λh1=>?_)
  ·exfalso;omega
  ·refine gA 7 Y (n) (gP 0 Y (zAq (i:=n) Y Y Y Y Y Y Y (zzq nW h)) (zfq 20 Y ?_));skip
   skip
   cases l1 with
   |nil=>
    cases l2 with
    |nil=>
     (refine yIq rfl (kXq Y Y Y Y Y Xk P1 Xq ?_);refine⟨by first|rfl|kernel_rfl,?_⟩)
     refine qoq 3 Y ?_
     (refine yIq rfl (kXq Y Y Y Y Y Xk P2 Xq ?_);refine⟨by first|rfl|kernel_rfl,?_⟩)
     refine qJq rfl (yGq Y Y (Qjq Y Y Y Y Y)) Xr (qoq 4 Y ?_);refine fin (w:=gW 0 33 ([]:List W)) Qn (Qbq (b:=0) (ty:=191) (l2:=[]) (H0:=[]) (fr2:=[]) 4 Xd Xd rfl trivial trivial (λx r h=>by cases h) rfl trivial List.nodup_nil) rfl ⟨rfl,?_,?_,rfl⟩
     ·rfl
     ·rfl
    |cons y2 r2=>
     (refine yIq rfl (kXq Y Y Y Y Y Xk P1 Xq ?_);refine⟨by first|rfl|kernel_rfl,?_⟩)
     refine qoq 3 Y ?_
     (refine yIq rfl (kXq Y Y Y Y Y Xk P2 Xq ?_);refine⟨by first|rfl|kernel_rfl,?_⟩)
     refine qJq rfl (yGq Y Y (x3q (news:=y2::r2) (k:=ti191) Y Y Y Y (yZq Y Y Y (zpq Xo Y Y)) Xk (by show(y2::r2).length*56<=_;omega) Xd)) Xr (qoq 4 Y ?_);refine fin (w:=gW 0 33 (y2::r2)) Qn (qVq (b:=0) (l2:=y2::r2) (H0:=[]) (fr2:=[]) 4 4 Xd Xd Xd Xk Y Y trivial trivial rfl p2 trivial List.nodup_nil) rfl ⟨rfl,?_,?_,rfl⟩
     ·rfl
     ·rfl
   |cons y1 r1=>
    cases l2 with
    |nil=>
     (refine yIq rfl (kXq Y Y Y Y Y Xk P1 Xq ?_);refine⟨by first|rfl|kernel_rfl,?_⟩)
     refine qoq 3 Y ?_
     (refine yIq rfl (kXq Y Y Y Y Y Xk P2 Xq ?_);refine⟨by first|rfl|kernel_rfl,?_⟩)
     refine qJq rfl (yGq Y Y (veq (k:=ti191) Y Y Y Y Y)) Xr (qoq 4 Y ?_);refine fin (w:=gW 0 33 (y1::r1)) Qn (qVq (b:=0) (l2:=y1::r1) (H0:=[]) (fr2:=[]) 2 4 Xd Xd Xd Xk Y Y trivial trivial rfl p1 trivial List.nodup_nil) rfl ⟨rfl,?_,?_,rfl⟩
     ·rw[List.append_nil]
     ·rw[List.append_nil];rfl
    |cons y2 r2=>
     (refine yIq rfl (kXq Y Y Y Y Y Xk P1 Xq ?_);refine⟨by first|rfl|kernel_rfl,?_⟩)
     refine qoq 3 Y ?_
     (refine yIq rfl (kXq Y Y Y Y Y Xk P2 Xq ?_);refine⟨by first|rfl|kernel_rfl,?_⟩)
     refine qJq rfl (yGq Y Y (qLq (len:=(y1::r1).length) (news:=y2::r2) (olds:=y1::r1) (k:=ti191) Y Y Y Y (yZq Y Y Y (zpq Xo Y Y)) Xk (by show((y1::r1).length+(y2::r2).length)*56<=_;omega) Xd rfl (by show(y1::r1).length*33<0+((y1::r1).length+(y2::r2).length)*33;simp only[List.length_cons];omega) rfl (zpq Xo Y Y))) Xr (qoq 4 Y ?_);refine fin (w:=gW 0 33 ((y1::r1)++(y2::r2))) Qn (qVq (b:=0) (l2:=(y1::r1)++(y2::r2)) (n:=(y1::r1).length+(y2::r2).length) (H0:=[]) (fr2:=[]) 4 4 Xd Xd Xd Xk rfl (by rw[List.length_append]) trivial trivial rfl (by rw[purL_app,p1,p2];rfl) trivial List.nodup_nil) rfl ⟨rfl,?_,?_,rfl⟩
     ·rfl
     ·rfl
noncomputable instance(a b:Tree):Decidable (a=b):=Classical.propDecidable _
theorem rall_s(t:Tree)(n:Nat)(t0:T)(h:IsT t n t0):PS cfg G 185 [tW t] (psW t0.all):=by
 have h1:=h.all_le;have h2:=h.len;have h3:=h.root;obtain⟨ns,root⟩:=t;simp only at h1 h2 h3;subst h3;have P:=(rfor_s (G:=G) ⟨ns,(n:Int)⟩ Yn t0 n h.rep Xd (λp hp=>by have:=(h.val p hp).2;omega)).ps Xo (jhq _);exact gI 11 Y (λR k0=>op_ps Y Y Y Y Y Y P Xk Xk (zJq 4 Y (gQa 0 Y)))
end
section
attribute [local irreducible] CoW OpW FlW Step Spec
def T.road:T->Nat->Dig->List T
 |.fork l r,d,k=>if bitN k d=0 then r::l.road (d+1) k else l::r.road (d+1) k
 |_,_,_=>[]
def T.tail:T->Nat->Dig->T
 |.fork l r,d,k=>if bitN k d=0 then l.tail (d+1) k else r.tail (d+1) k
 |t,_,_=>t
structure Side(t0:T)(ns:List Node)(k:Dig)(c d:Nat)(b:Dig)(s:T):Prop where
 rep:Rep ns c s
 zr:Zr (d+1) b
 ok:s.ok (d+1) b=true
 short:kPq s
 road:(t0.road 0 k)[d]? =some s
 few:s.all.length<=1000000
structure OnR(t0:T)(ns:List Node)(k:Dig)(n d:Nat)(b:Dig)(t:T):Prop where
 rep:Rep ns n t
 zr:Zr d b
 ok:t.ok d b=true
 le:d<=256
 road:(t0.road 0 k).drop d=t.road d k
 tail:t0.tail 0 k=t.tail d k
 short:kPq t
 few:t.all.length<=1000000
theorem OnR.go{t0:T}{ns:List Node}{k:Dig}{n d:Nat}{b:Dig}{L R:T}(h:OnR t0 ns k n d b (.fork L R)):∃(i:Nat) (k':Dig) (v:List UInt8) (l r:Nat),n=i+1/\ns[i]? =some ⟨false,k',v,l,r⟩/\d<256/\
  ((bitN k d=0/\OnR t0 ns k l (d+1) b L/\Side t0 ns k r d (qlq b d) R)\/(bitN k d=1/\OnR t0 ns k r (d+1) (qlq b d) R/\Side t0 ns k l d b L)):=by
 obtain⟨rep,hz,ok,hle,road,tail,sh,few⟩:=h;simp only[T.all,List.length_append] at few;obtain⟨hd,okL,okR,_⟩:=ok_fork.1 ok;have sL:kPq L:=λp hp=>sh p Yt
 have sR:kPq R:=λp hp=>sh p Yt
 have hat:∀{s:T} {q:List T},(t0.road 0 k).drop d=s::q->(t0.road 0 k)[d]? =some s/\(t0.road 0 k).drop (d+1)=q:=λ{s q} e=>by
  constructor
  ·rw[<-List.head?_drop,e];rfl
  ·rw[<-List.tail_drop,e];rfl
 cases rep with
 |fork hx hl hr hL hR=>
  rename_i i l r k' v;refine⟨i,k',v,l,r,rfl,hx,hd,?_⟩;by_cases hb:bitN k d=0
  ·simp only[T.road,T.tail,if_pos hb] at road tail;obtain⟨e1,e2⟩:=hat road;exact .inl ⟨hb,⟨hL,kUq hz,okL,hd,e2,tail,sL,by omega⟩,⟨hR,kTq hz hd,okR,sR,e1,by omega⟩⟩
  ·simp only[T.road,T.tail,if_neg hb] at road tail;obtain⟨e1,e2⟩:=hat road;have:=ZNq k d;exact .inr ⟨by omega,⟨hR,kTq hz hd,okR,hd,e2,tail,sR,by omega⟩,⟨hL,kUq hz,okL,sL,e1,by omega⟩⟩
theorem OnR.done{t0:T}{ns:List Node}{k:Dig}{n d:Nat}{b:Dig}{t:T}(h:OnR t0 ns k n d b t)(hf:t.isFork=false):t0.tail 0 k=t/\(t0.road 0 k).length<=d:=by
 have e:=h.road;have e2:=h.tail;cases t with
 |nil=>exact⟨e2,by rw[<-List.drop_eq_nil_iff];exact e⟩
 |leaf=>exact⟨e2,by rw[<-List.drop_eq_nil_iff];exact e⟩
 |fork=>cases hf
theorem OnR.start{t:Tree}{n:Nat}{t0:T}(h:IsT t n t0)(hs:kPq t0)(k:Dig):OnR t0 t.nodes k n 0 z5q t0:=⟨h.rep,YBq,h.ok,by omega,rfl,rfl,hs,by have:=h.all_le;have:=h.len;omega⟩
noncomputable def sdW(t:T):W:=dW (sumD t)
@[simp] theorem yLq(l:List T):purL (l.map sdW)=true:=qqq (λt=>dW_pur _) l
theorem xqq{t0 s:T}{k:Dig}{d:Nat}(h:(t0.road 0 k)[d]? =some s):((t0.road 0 k).take (d+1)).map sdW=((t0.road 0 k).take d).map sdW++[sdW s]:=by
 rw[List.take_add_one,h,List.map_append];rfl
noncomputable def endW:T->W
 |.leaf x v=>nW ⟨true,x,v,0,0⟩
 |_=>nW ⟨false,z5q,[],0,0⟩
theorem okN_leaf{ns:List Node}(h:okN ns){i:Nat}{k:Dig}{v:List UInt8}{l r:Int}(hx:ns[i]? =some ⟨true,k,v,l,r⟩):l=0/\r=0:=by
 have h1:=h i _ hx;simp only[oneB,if_true] at h1;exact⟨h1.1,h1.2.1⟩
theorem vDq{ns:List Node}(h:okN ns):∀{n:Nat} {t:T},Rep ns n t->kPq t
 |_,_,.nil=>λp hp=>by simp[T.all] at hp
 |_,_,.leaf hx=>λp hp=>by
  simp only[T.all,List.mem_cons,List.not_mem_nil,or_false] at hp;subst hp;exact Nat.lt_of_le_of_lt (u2q h hx).2 Xo
 |_,_,.fork _ _ _ hL hR=>λp hp=>by
  simp only[T.all,List.mem_append] at hp;rcases hp with hp|hp
  ·exact vDq h hL p hp
  ·exact vDq h hR p hp
theorem troad_s(t:Tree)(n:Nat)(t0:T)(h:IsT t n t0)(k:Dig):PS cfg glK 207 [tW t,dW k] (.tup [endW (t0.tail 0 k),.fz ((t0.road 0 k).map sdW) 32 false,.int .i64 0]):=by
 have hl:=h.len;have hs:=vDq h.okn h.rep;have hr:=h.root;obtain⟨ns,root⟩:=t;simp only at hl hr;subst hr;refine gIv 13 Y (λR k0=>?_);refine gC 0 Y (yfq (w':=.int .i64 0) (kmq ⟨ns,((n:Nat):Int)⟩ Yn) (by rw[if_pos h.may])) ?_;refine gFa 6 Y ?_;refine zfq 19 Y ?_;refine Qfq (α:=Nat×Nat×Dig×T) (λp=>OnR t0 ns k p.1 p.2.1 p.2.2.1 p.2.2.2) 5 (λp=>((t0.road 0 k).take p.2.1).map sdW) 29 32 (λp=>[(8,.int .i64 (p.1:Int)),(9,.int .i64 (p.2.1:Int))]) [(2,_),(3,_),(4,_),(6,_)] _ (λp=>257-p.2.1) ((n,0,z5q,t0)) ⟨rfl,rfl,rfl,rfl,trivial⟩ (OnR.start h hs k) ⟨rfl,rfl,trivial⟩ Y Y Y (λp hI=>?_);obtain⟨i,d,b,u⟩:=p;have hI:OnR t0 ns k i d b u:=hI;have hle:=hI.le;cases u with
 |fork L R=>
  skip
  obtain⟨i,k',v,l,r,rfl,hx,hd,⟨hb,hn,hsd⟩|⟨hb,hn,hsd⟩⟩:=hI.go
  ·have hi:=(List.getElem?_eq_some_iff.1 hx).1;have es:=xqq hsd.road;have ep:=yLq ((t0.road 0 k).take (d+1));have ep2:=yLq ((t0.road 0 k).take d);have el:(((t0.road 0 k).take d).map sdW).length<=256:=by rw[List.length_map,List.length_take];omega
   rw[es] at ep;refine z2q 4 Y ?_;refine gT 0 Y (ltI_iff.2 Xd) ?_;refine gA 4 Y (i) ?_;refine gP 0 Y (zAq (i:=i) Y Y Y Y Y Y Y (zzq nW hx)) ?_;refine gTa 2 Y ?_;refine gA 13 Y (i) ?_;refine gP 0 Y (zAq (i:=i) Y Y Y Y Y Y Y (zzq nW hx)) ?_;refine gC 1 Y (ksq _) ?_;refine gC 2 Y (tbit_c k d 0 hd hb) ?_;refine gV 10 Y (show _= .int .u8 1 by first|rfl|(simp;done)) ?_;refine gX 0 Y ?_;refine gC 1 Y (tsum_s ⟨ns,((n:Nat):Int)⟩ Yn R r hsd.rep hsd.short) ?_;refine zfq 1 Y ?_;refine qJq rfl (yGq Y Y (kOq [_,_,_,_,_] (k:=ti29) (news:=[sdW R]) Y Y Y Y Y (yZq Y Y Y Y) Xk Yk Yo rfl Xk)) (evs_G Xr Xr) ?_;refine qoq 5 Y ?_;refine gX 0 Y ?_;refine gA 7 Y (d+1) ?_;refine zfq 2 Y ?_;exact jpq 6 ((l,d+1,b,L)) (hn) Ya (Nat.zero_le _) (es) Xx Xd Yi rfl Xz ⟨rfl,rfl,trivial⟩ ⟨rfl,rfl,rfl,rfl,trivial⟩ Xg Xg rfl Xj Xh Yf
  ·skip
   have hi:=(List.getElem?_eq_some_iff.1 hx).1;have es:=xqq hsd.road;have ep:=yLq ((t0.road 0 k).take (d+1));have ep2:=yLq ((t0.road 0 k).take d);have el:(((t0.road 0 k).take d).map sdW).length<=256:=by rw[List.length_map,List.length_take];omega
   rw[es] at ep;refine z2q 4 Y ?_;refine gT 0 Y (ltI_iff.2 Xd) ?_;refine gA 4 Y (i) ?_;refine gP 0 Y (zAq (i:=i) Y Y Y Y Y Y Y (zzq nW hx)) ?_;refine gTa 2 Y ?_;refine gA 13 Y (i) ?_;refine gP 0 Y (zAq (i:=i) Y Y Y Y Y Y Y (zzq nW hx)) ?_;refine gC 1 Y (ksq _) ?_;refine gC 2 Y (tbit_c k d 1 hd hb) ?_;refine gV 10 Y (show _= .int .u8 0 by first|rfl|(simp;done)) ?_;refine gX 0 Y ?_;refine gC 1 Y (tsum_s ⟨ns,((n:Nat):Int)⟩ Yn L l hsd.rep hsd.short) ?_;refine zfq 1 Y ?_;refine qJq rfl (yGq Y Y (kOq [_,_,_,_,_] (k:=ti29) (news:=[sdW L]) Y Y Y Y Y (yZq Y Y Y Y) Xk Yk Yo rfl Xk)) (evs_G Xr Xr) ?_;refine qoq 5 Y ?_;refine gX 0 Y ?_;refine gA 7 Y (d+1) ?_;refine zfq 2 Y ?_;exact jpq 6 ((r,d+1,qlq b d,R)) (hn) Ya (Nat.zero_le _) (es) Xx Xd Yi rfl Xz ⟨rfl,rfl,trivial⟩ ⟨rfl,rfl,rfl,rfl,trivial⟩ Xg Xg rfl Xj Xh Yf
 |nil=>
  obtain⟨e1,e2⟩:=hI.done rfl;have hr:=hI.rep;obtain rfl:i=0:=by cases hr;rfl
  have ep:=yLq (t0.road 0 k);rw[List.take_of_length_le (by exact e2)];refine z2q 4 Y ?_;refine gF 0 Y (ltI_not.2 Xd) ?_;refine zfq 15 Y ?_;refine y9q Xi ?_;refine zYq 6 Y ?_;refine gF 0 Y (ltI_not.2 Xd) ?_;refine zfq 15 Y ?_;exact yzq Qn rfl (.tup (.cons (by rw[e1];exact .agg (.cons (.pur rfl) (.cons zBq (.cons .nilfz (.cons (.pur rfl) (.cons (.pur rfl) .nil)))))) (.cons (vhq (H0:=[_,_,_]) (b:=3) (e:=32) (ty:=29) Xo ep Xk) (.cons (.pur rfl) .nil))))
 |leaf x v=>
  obtain⟨e1,e2⟩:=hI.done rfl;have hr:=hI.rep;obtain⟨i,l,r,rfl,hx⟩:∃(j:Nat) (l r:Int),i=j+1/\ns[j]? =some ⟨true,x,v,l,r⟩:=by cases hr with|leaf h=>exact⟨_,_,_,rfl,h⟩
  have hi:=(List.getElem?_eq_some_iff.1 hx).1;obtain⟨rfl,rfl⟩:=okN_leaf h.okn hx;have hv:=u2q h.okn hx;have ep:=yLq (t0.road 0 k);rw[List.take_of_length_le (by exact e2)];refine z2q 4 Y ?_;refine gT 0 Y (ltI_iff.2 Xd) ?_;refine gA 4 Y (i) ?_;refine gP 0 Y (zAq (i:=i) Y Y Y Y Y Y Y (zzq nW hx)) ?_;refine gFa 2 Y ?_;refine zfq 6 Y ?_;refine y9q Xi ?_;refine zYq 6 Y ?_;refine gT 0 Y (ltI_iff.2 Xd) ?_;refine gA 8 Y (i) ?_;refine gP 0 Y (zAq (i:=i) Y Y Y Y Y Y Y (zzq nW hx)) ?_;refine gC 7 Y (ZCq v false Xd) ?_;refine zfq 14 Y ?_;exact yzq Qn rfl (.tup (.cons (by rw[e1];exact .pur (by simp[endW])) (.cons (vhq (H0:=[_,_,_]) (b:=3) (e:=32) (ty:=29) Xo ep Xk) (.cons (.pur rfl) .nil))))
noncomputable def prG(k:Dig)(e:Int)(o:Dig)(v s:W):W:=.agg 67 [dW k,.int .u8 e,dW o,v,s]
noncomputable def prT(k:Dig)(s:W):T->W
 |.leaf x v=>if x=k then prG k 1 z5q (bW v) s else prG k 2 x (bW v) s
 |_=>prG k 0 z5q .nils s
theorem prT_own(k:Dig)(s:W)(v:List UInt8):prT k s (.leaf k v)=prG k 1 z5q (bW v) s:=if_pos rfl
theorem prT_other{x k:Dig}(s:W)(v:List UInt8)(h:¬x=k):prT k s (.leaf x v)=prG k 2 x (bW v) s:=if_neg h
theorem YUq(k:Dig)(s:W):W.agg 67 [dW k,.int .u8 0,.arr 32 1 (List.replicate 32 (.int .u8 (.ofNat 0))),.nils,s]=prG k 0 z5q .nils s:=by
 unfold prG;rw[kHq]
theorem pend_s(t:T)(hf:t.isFork=false)(k:Dig)(s:W):j2q cfg glK 208 1 [.ptr 0 0,endW t] [(0,321,prG k 0 z5q .nils s)] λw hp nw=>w= .tup []/\hp=[(1,163,endW t),(0,321,prT k s t)]/\nw=2:=by
 intro R;cases t with
 |fork=>cases hf
 |nil=>
  refine gIs 11 Y (λk0=>?_);exact gTa 0 Y (zfq 7 Y (fin Qn Ent.refl rfl ⟨rfl,rfl,rfl,rfl⟩))
 |leaf x v=>
  by_cases hx:x=k
  ·subst hx;refine gIs 11 Y (λk0=>?_);refine gFa 0 Y (gUe 13 Y (y2q Y Y Y Y (qfq Y Y Y Y Y Y _ _ 250)) yvq ?_);refine gS 3 Y (λh1=>?_) (λh1=>?_)
   ·exact zfq 18 Y (fin (.inl rfl) Ent.refl rfl ⟨rfl,rfl,by rw[prT_own];rfl,rfl⟩)
   ·exfalso;exact(by assumption:¬x=x) rfl
  ·skip
   refine gIs 11 Y (λk0=>?_);refine gFa 0 Y (gUe 13 Y (y2q Y Y Y Y (qfq Y Y Y Y Y Y _ _ 250)) yvq ?_);refine gS 3 Y (λh1=>?_) (λh1=>?_)
   ·exfalso;exact hx Xq
   ·exact zfq 25 Y (fin (.inl rfl) Ent.refl rfl ⟨rfl,rfl,by rw[prT_other s v hx];rfl,rfl⟩)
noncomputable def sdsW(t0:T)(k:Dig):W:=.fz ((t0.road 0 k).map sdW) 32 false
@[simp] theorem vEq(t0:T)(k:Dig):purW (sdsW t0 k)=true:=yLq _
@[simp] theorem endW_pur(t:T):purW (endW t)=true:=by cases t<;>simp[endW]
theorem prT_pur(k:Dig){s:W}(hs:purW s=true)(t:T):purW (prT k s t)=true:=by
 unfold prT prG;split
 ·split<;>simp[purW,purL,hs]
 ·simp[purW,purL,hs]
theorem endW_shape(t:T):∃a b c d e,endW t= .agg 36 [a,b,c,d,e]:=by cases t<;>exact⟨_,_,_,_,_,rfl⟩
theorem prT_shape(k:Dig)(s:W)(t:T):∃a b c d e,prT k s t= .agg 67 [a,b,c,d,e]:=by
 unfold prT;split
 ·split<;>exact⟨_,_,_,_,_,rfl⟩
 ·exact⟨_,_,_,_,_,rfl⟩
noncomputable def q0q(t0:T)(k:Dig):W:=match t0.tail 0 k with
 |.leaf x v=>if x=k then prG k 1 z5q (bW v) (sdsW t0 k) else prG k 2 x (bW v) (sdsW t0 k)
 |_=>prG k 0 z5q (bW []) (sdsW t0 k)
theorem x8q:∀(t:T) (d:Nat) (k:Dig),(t.tail d k).isFork=false
 |.nil,_,_=>rfl
 |.leaf _ _,_,_=>rfl
 |.fork l r,d,k=>by
  unfold T.tail;split
  ·exact x8q l _ k
  ·exact x8q r _ k
theorem proof_view{blk:Nat->Option W}(t0:T)(k:Dig):View blk (prT k (sdsW t0 k) (t0.tail 0 k)) (q0q t0 k):=by
 unfold q0q;split
 ·rename_i x v e;rw[e];have:=prT_pur k (vEq t0 k) (.leaf x v);exact .pur this
 ·rename_i h;have e:=x8q t0 0 k;cases hq:t0.tail 0 k with
  |leaf x v=>exact absurd hq (h x v)
  |fork=>rw[hq] at e;cases e
  |nil=>exact .agg (.cons (.pur Xk) (.cons (.pur rfl) (.cons (.pur Xk) (.cons .nilfz (.cons (.pur (vEq t0 k)) .nil)))))
theorem pmake_s(t:Tree)(n:Nat)(t0:T)(h:IsT t n t0)(k:Dig):PS cfg glK 128 [tW t,dW k] (.tup [q0q t0 k,.int .i64 0]):=by
 have hsp:=vEq t0 k;have hep:=endW_pur (t0.tail 0 k);have hm0:purW (prG k 0 z5q .nils (sdsW t0 k))=true:=by unfold prG;simp[purW,purL]
 have hm1:=prT_pur k hsp (t0.tail 0 k);have hv:=λblk=>proof_view (blk:=blk) t0 k
 have hE:=pend_s (t0.tail 0 k) (x8q t0 0 k) k (sdsW t0 k);have hR:=troad_s t n t0 h k;have hso:purL ((t0.road 0 k).map sdW)=true:=yLq _;obtain⟨a1,a2,a3,a4,a5,ha⟩:=endW_shape (t0.tail 0 k);obtain⟨b1,b2,b3,b4,b5,hb⟩:=prT_shape k (sdsW t0 k) (t0.tail 0 k);rw[ha] at hep hE hR;rw[hb] at hm1 hE hv;refine gIv 12 Y (λR k0=>?_);refine op_pq hR ?_ (hw:=by show(purW (.agg 36 [a1,a2,a3,a4,a5])&&(purL ((t0.road 0 k).map sdW)&&true))=true;rw[hep,hso];rfl);refine zJq 14 Y (gFa 0 Y (gV (w':=prG k 0 z5q .nils (sdsW t0 k)) 9 Y (YUq k _) (zfq 9 Y ?_)));skip
 refine gSo 0 Y (kYq (ext:=[4]) (ws:=[.ptr 0 0,.agg 36 [a1,a2,a3,a4,a5]]) Y Y Y Y (by show [W.ptr 4 0,_]=[W.ptr 4 0,renW _ (.agg 36 [a1,a2,a3,a4,a5])];rw[z4q hep]) hE Xo (by intro b hb;simp only[List.mem_cons,List.not_mem_nil,or_false] at hb;omega) Xk (handed1 (by rw[z4q hm0];rfl) (zmq hm0)) (by show(true&&(refB 1 (.agg 36 [a1,a2,a3,a4,a5])&&true))=true;rw[zmq hep];rfl) ?_);rintro w hp1 nw1 ⟨rfl,rfl,rfl⟩;simp only[renH,z4q hep,z4q hm1];skip
 exact zfq 13 Y (yzq Qn rfl (.tup (.cons (hv _) (.cons (.pur rfl) .nil))))
end
section
attribute [local irreducible] CoW OpW FlW Step Spec
variable {G:Nat->Option W}
theorem twinp_s(t:Tree)(hl:t.nodes.length<=1000000000)(hv:∀x∈t.nodes,x.val.length<=70368744177664):PS cfg G 74 [tW t] (tW t):=λR=>
 ubq (xuq (twin_s t.nodes t.root hl hv) (Q:=λw hp _=>View (blkA hp) w (tW t)) (λw hp nw h=>by
  rcases h with ⟨hn,rfl,rfl,rfl⟩|⟨rfl,rfl,rfl⟩
  ·refine .agg (.cons ?_ (.cons (.pur rfl) .nil));rw[hn];exact .nilfz
  ·exact view_mk (b:=2) (ns:=t.nodes) (root:=t.root) rfl) R)
structure Depo where
 number:Nat
 to:Dig
 amount:Nat
noncomputable def pdW(d:Depo):W:=.agg 34 [.int .u64 (d.number:Int),dW d.to,.int .u64 (d.amount:Int)]
@[simp] theorem pdW_pur(d:Depo):purW (pdW d)=true:=by simp[pdW]
def overB(t0:T)(d:Depo):Prop:=18446744073709551616<=(uIq t0 d.to).balance+d.amount
instance(t0:T)(d:Depo):Decidable (overB t0 d):=inferInstanceAs (Decidable (_<=_))
structure Tx where
 pub:Dig
 to:Dig
 nonce:Nat
 amount:Nat
 fee:Nat
 sign:Dig
noncomputable def txW(x:Tx):W:=.agg 99 [dW x.pub,dW x.to,.int .u64 (x.nonce:Int),.int .u64 (x.amount:Int),.int .u64 (x.fee:Int),dW x.sign]
@[simp] theorem txW_pur(x:Tx):purW (txW x)=true:=by simp[txW]
structure Tx.ok(x:Tx):Prop where
 nonce:x.nonce<18446744073709551616
 amount:x.amount<18446744073709551616
 fee:x.fee<18446744073709551616
def jmq(x:Tx):List UInt8:=(x.pub.1++x.to.1)++[x.nonce,x.amount,x.fee].flatMap (beB 8)
theorem body1_s(d:Dig):PS cfg G 338 [dW d] (bW d.1):=by
 exact gIv 13 Y (λR k0=>yzq Qn rfl (.sl (full:=false) (xs:=zbq d.1) rfl Xk (zpq Xo (by simp[zdq,d.2]) rfl) Xi))
theorem body2_s(n:Nat)(hn:n<18446744073709551616):PS cfg G 340 [.int .u64 (n:Int)] (bW (beB 8 n)):=by
 refine gIv 8 Y (λR k0=>?_)
 (refine ysq rfl (jQq Y Y Y Y Y Y (put_s n 8 Xd Xd (by show n<18446744073709551616;omega)) ?_);rintro w hp1 nw1 ⟨rfl,rfl,rfl⟩)
 exact zJq 14 Y (yzq Qn rfl (.sl (full:=false) (c:=.arr (8*1) 1 (zbq (beB 8 n))) (xs:=zbq (beB 8 n)) rfl Xk (zpq Xo (by rw[zdq,qjq]) rfl) Xi))
theorem flat_app{ds:List Dig}{i:Nat}{d:Dig}(h:ds[i]? =some d):zbq ((ds.take (i+1)).flatMap (·.1))=zbq ((ds.take i).flatMap (·.1))++zbq d.1:=by
 rw[List.take_add_one,h,<-yFq];congr 1
 simp
theorem flat_dig:∀(ds:List Dig) (i:Nat),((ds.take i).flatMap (·.1)).length<=i*32
 |[],i=>by simp
 |d::ds,0=>by simp
 |d::ds,i+1=>by
  have:=flat_dig ds i;simp only[List.take_succ_cons,List.flatMap_cons,List.length_append,d.2,Nat.succ_mul];omega
@[simp] theorem dWs_pur(ds:List Dig):purL (ds.map dW)=true:=qqq (λx=>by simp) ds
theorem putd_s(ds:List Dig)(f:Bool)(hn:ds.length<1000):PL cfg G 337 [.nils,.fz (ds.map dW) 32 f,.fn 338 [] []] 5 1 (zbq (ds.flatMap (·.1))):=by
 have e:(ds.map dW).length=ds.length:=List.length_map _;intro R;refine gIs 9 Y (λk0=>?_);refine gV (w':=.int .i64 (ds.length:Int)) 0 Y Xw (zfq 4 Y ?_);refine Qfq (α:=Nat) (λi=>i<=ds.length) 0 (λi=>zbq ((ds.take i).flatMap (·.1))) 5 1 (λi=>[(11,.int .i64 (i:Int))]) [(2,_),(6,_),(9,_),(10,_)] _ (λi=>ds.length-i) (0) ⟨rfl,rfl,rfl,rfl,trivial⟩ (Nat.zero_le _) ⟨rfl,trivial⟩ Y Y Y (λi hI=>?_);refine z2q 6 Y ?_;refine gS 0 Y (λh1=>?_) (λh1=>?_)
 ·have hi:i<ds.length:=by omega
  obtain⟨d,hd⟩:∃d,ds[i]? =some d:=⟨_,List.getElem?_eq_getElem hi⟩
  have hN:(zbq d.1).length=32:=by rw[zdq,d.2]
  have hne:zbq ((ds.take i).flatMap (·.1))++zbq d.1≠[]:=λh=>by have:=congrArg List.length h;rw[List.length_append,hN] at this;simp at this
  have hL:(zbq ((ds.take i).flatMap (·.1))).length<=i*32:=by rw[zdq];exact flat_dig ds i
  exact gP 6 Y (zAq (i:=i) Y Y Y Y Y Y Y (zzq dW hd)) (gC 9 Y (body1_s d) (gM 0 Y (yGq Y Y (kOq [_] (k:=ti5) (news:=zbq d.1) Y Y Y Y Y Y Yh (by rw[hN];show(_+32)*1<=_;omega) Qb rfl Xk)) (gWr 5 Y (zfq 2 Y (jpq 2 (i+1) (hi) Xd (Nat.zero_le _) (flat_app hd) Xx Xd Yi rfl Xz ⟨rfl,trivial⟩ ⟨rfl,rfl,rfl,rfl,trivial⟩ Xg Xg rfl Xj Xh Yf)))))
 ·have hi:i=ds.length:=by omega
  subst hi;refine zfq 2 Y (y9q Xi (zYq 9 Y ?_));rw[List.take_length];exact fin Qn (z6q (fr2:=[(6,gW 0 1 (zbq (ds.flatMap (·.1))))]) ⟨rfl,trivial⟩ Y Y) rfl ⟨rfl,rfl,rfl,rfl⟩
theorem flat_num:∀(ns:List Nat) (i:Nat),((ns.take i).flatMap (beB 8)).length<=i*8
 |[],i=>by simp
 |d::ds,0=>by simp
 |d::ds,i+1=>by
  have:=flat_num ds i;simp only[List.take_succ_cons,List.flatMap_cons,List.length_append,qjq,Nat.succ_mul];omega
noncomputable def uW(n:Nat):W:=.int .u64 (n:Int)
@[simp] theorem uWs_pur(ns:List Nat):purL (ns.map uW)=true:=qqq (λx=>rfl) ns
noncomputable def thr(i:Nat):Nat:=match i with
 |0=>0
 |_+1=>1
theorem putu_s(l:List UInt8)(hl0:l≠[])(hl:l.length<100000)(ns:List Nat)(f:Bool)(hn:ns.length<1000)(hns:ns≠[])(hu:∀n∈ns,n<18446744073709551616):j2q cfg G 339 1 [.sl 0 0 0 l.length 1 none,.fz (ns.map uW) 1 f,.fn 340 [] []] [(0,5,.arr l.length 1 (zbq l))] λw hp nw=>w= .sl 1 0 0 (l++ns.flatMap (beB 8)).length 1 none/\hp=[(1,5,.arr (l++ns.flatMap (beB 8)).length 1 (zbq (l++ns.flatMap (beB 8))))]/\nw=2:=by
 have e:(ns.map uW).length=ns.length:=List.length_map _;intro R;refine gIs 9 Y (λk0=>?_);refine gV (w':=.int .i64 (ns.length:Int)) 0 Y Xw (zfq 4 Y ?_);refine qhq (α:=Nat) (λi=>i<=ns.length) (λi=>[(11,.int .i64 (i:Int)),(0,.sl (thr i) 0 0 (l++(ns.take i).flatMap (beB 8)).length 1 none),(2,.fn 340 [] []),(6,.nils),(9,.fz (ns.map uW) 1 f),(10,.int .i64 (ns.length:Int))]) (λi=>[(thr i,5,.arr (l++(ns.take i).flatMap (beB 8)).length 1 (zbq (l++(ns.take i).flatMap (beB 8))))]) (λi=>thr i+1) (λ_=>R) (λi=>ns.length-i) 0 (Nat.zero_le _) (z6q ⟨rfl,by show some (W.sl 0 0 0 l.length 1 none)=some (W.sl 0 0 0 (l++[]).length 1 none);rw[List.append_nil],rfl,rfl,rfl,rfl,trivial⟩ (by simp[thr]) rfl) (λi hI=>?_);skip
 refine z2q 6 Y ?_;refine gS 0 Y (λh1=>?_) (λh1=>?_)
 ·have hi:i<ns.length:=by omega
  obtain⟨u,hu0⟩:∃u,ns[i]? =some u:=⟨_,List.getElem?_eq_getElem hi⟩
  have hu1:=hu u (List.mem_of_getElem? hu0);have hN:(zbq (beB 8 u)).length=8:=by rw[zdq,qjq]
  have hL:(l++(ns.take i).flatMap (beB 8)).length<=100000+i*8:=by have:=flat_num ns i;rw[List.length_append];omega
  have hnx:l++(ns.take (i+1)).flatMap (beB 8)=(l++(ns.take i).flatMap (beB 8))++beB 8 u:=by rw[List.take_add_one,hu0];simp
  have hlen:(l++(ns.take i).flatMap (beB 8)).length+(zbq (beB 8 u)).length=(l++(ns.take (i+1)).flatMap (beB 8)).length:=by rw[hnx,List.length_append (bs:=beB 8 u),zdq]
  have hby:zbq (l++(ns.take i).flatMap (beB 8))++zbq (beB 8 u)=zbq (l++(ns.take (i+1)).flatMap (beB 8)):=by rw[hnx,yFq (b:=beB 8 u)]
  skip
  cases i with
  |zero=>
   refine yTq 6 Y (gP 0 Y (zAq (i:=0) Y Y Y Y Y Y Y (zzq uW hu0)) (gC 8 Y (body2_s u hu1) (gM 0 Y (yGq Y Y (qLq (k:=ti5) (len:=(l++(ns.take 0).flatMap (beB 8)).length) (news:=zbq (beB 8 u)) (olds:=zbq (l++(ns.take 0).flatMap (beB 8))) Y Y Y Y Y Yh (by rw[hN];show(_+8)*1<=_;omega) Qb rfl (by rw[hN];show(l++(ns.take 0).flatMap (beB 8)).length<0+(_+8)*1;omega) rfl (zpq Xo (zdq _).symm (Nat.mul_one _).symm))) (gA 5 Y (0+1) (zfq 2 Y ?_)))));skip
   refine ypq 1 hi Xd (z6q ⟨rfl,?_,rfl,rfl,rfl,rfl,trivial⟩ ?_ rfl)
   ·show some (W.sl 1 0 0 ((l++(ns.take 0).flatMap (beB 8)).length+(zbq (beB 8 u)).length) 1 none)=some (W.sl 1 0 0 (l++(ns.take (0+1)).flatMap (beB 8)).length 1 none);rw[hlen]
   ·show [(1,5,W.arr (((l++(ns.take 0).flatMap (beB 8)).length+(zbq (beB 8 u)).length)*1) 1 (zbq (l++(ns.take 0).flatMap (beB 8))++zbq (beB 8 u)))]=[(1,5,W.arr (l++(ns.take (0+1)).flatMap (beB 8)).length 1 (zbq (l++(ns.take (0+1)).flatMap (beB 8))))];rw[hlen,hby,Nat.mul_one]
  |succ i=>
   refine yTq 6 Y (gP 0 Y (zAq (i:=(i+1)) Y Y Y Y Y Y Y (zzq uW hu0)) (gC 8 Y (body2_s u hu1) (gM 0 Y (yGq Y Y (qLq (k:=ti5) (len:=(l++(ns.take (i+1)).flatMap (beB 8)).length) (news:=zbq (beB 8 u)) (olds:=zbq (l++(ns.take (i+1)).flatMap (beB 8))) Y Y Y Y Y Yh (by rw[hN];show(_+8)*1<=_;omega) Qb rfl (by rw[hN];show(l++(ns.take (i+1)).flatMap (beB 8)).length<0+(_+8)*1;omega) rfl (zpq Xo (zdq _).symm (Nat.mul_one _).symm))) (gA 5 Y ((i+1)+1) (zfq 2 Y ?_)))));skip
   refine ypq (i+1+1) hi (show ns.length-(i+1+1)<ns.length-(i+1) by omega) ?_;refine(qzq (b:=1) (k:=2) Xd Xd (by show 2<3;omega) ⟨⟨rfl,rfl⟩,⟨?_,rfl⟩,⟨rfl,rfl⟩,⟨rfl,rfl⟩,⟨by rw[z4q (show purW (.fz (ns.map uW) 1 f)=true from uWs_pur ns)];rfl,zmq (show purW (.fz (ns.map uW) 1 f)=true from uWs_pur ns)⟩,⟨rfl,rfl⟩,trivial⟩ ⟨⟨by show 1<2;omega,?_,zmq (show purW (.arr _ 1 (zbq _))=true from yyq _)⟩,trivial⟩ Xk)
   ·show some (W.sl 2 0 0 ((l++(ns.take (i+1)).flatMap (beB 8)).length+(zbq (beB 8 u)).length) 1 none)=some (W.sl 2 0 0 (l++(ns.take (i+1+1)).flatMap (beB 8)).length 1 none);rw[hlen]
   ·show some (5,W.arr (((l++(ns.take (i+1)).flatMap (beB 8)).length+(zbq (beB 8 u)).length)*1) 1 (zbq (l++(ns.take (i+1)).flatMap (beB 8))++zbq (beB 8 u)))=some (5,renW _ (W.arr (l++(ns.take (i+1+1)).flatMap (beB 8)).length 1 (zbq (l++(ns.take (i+1+1)).flatMap (beB 8)))));rw[z4q (show purW (.arr _ 1 (zbq _))=true from yyq _),hlen,hby,Nat.mul_one]
 ·have hi:i=ns.length:=by omega
  subst hi;refine zfq 2 Y (y9q Xi (zYq 9 Y ?_));rw[List.take_length];cases ns with
  |nil=>exact absurd rfl hns
  |cons a r=>
   exact fin Qn (z6q (fr2:=[(6,.sl 1 0 0 (l++(a::r).flatMap (beB 8)).length 1 none)]) ⟨rfl,trivial⟩ Y Y) rfl ⟨rfl,rfl,rfl,rfl⟩
theorem put2_s(a b:Dig)(f:Bool):j2q cfg G 337 0 [.nils,.fz [dW a,dW b] 32 f,.fn 338 [] []] [] λw hp nw=>w= .sl 0 0 0 (a.1++b.1).length 1 none/\hp=[(0,5,.arr (a.1++b.1).length 1 (zbq (a.1++b.1)))]/\nw=1:=by
 refine xuq (putd_s [a,b] f Xk) λw hp nw h=>?_
 obtain⟨rfl,rfl,rfl⟩:=h;have e:[a,b].flatMap (·.1)=a.1++b.1:=by simp
 have hl:(zbq (a.1++b.1)).length=64:=by rw[zdq,List.length_append,a.2,b.2]
 have hne:zbq (a.1++b.1)≠[]:=λh=>by rw[h] at hl;cases hl
 rw[e,Y2q hne,Y3q hne,zdq,Nat.mul_one];exact⟨rfl,rfl,rfl⟩
theorem Qiq(x:Tx):(jmq x).length=88:=by simp[jmq,x.pub.2,x.to.2,qjq]
theorem bodyL_s(x:Tx)(hx:x.ok):PL cfg G 302 [txW x] 5 1 (zbq (jmq x)):=by
 have hl:(x.pub.1++x.to.1).length=64:=by rw[List.length_append,x.pub.2,x.to.2]
 have hb:=Qiq x
 have hns:∀n∈[x.nonce,x.amount,x.fee],n<18446744073709551616:=λn hn=>by
  simp only[List.mem_cons,List.not_mem_nil,or_false] at hn;rcases hn with rfl|rfl|rfl
  ·exact hx.nonce
  ·exact hx.amount
  ·exact hx.fee
 have hpa:purW (.arr (x.pub.1++x.to.1).length 1 (zbq (x.pub.1++x.to.1)))=true:=yyq _;intro R;refine gIs 13 Y (λk0=>?_)
 (refine op_ent (λ_=>ent_fr1 1 [(1,.ptr 0 0),(2,.nils),(8,.fz [dW x.pub,dW x.to] 32 false)] [(0,91,txW x)] rfl (show purL [dW x.pub,dW x.to]=true by simp) (Nat.zero_le _) ⟨⟨_,rfl,.ptrK rfl⟩,⟨_,rfl,.pur rfl⟩,⟨_,rfl,.sl (full:=false) rfl (show purL [dW x.pub,dW x.to]=true by simp) rfl Xi⟩,trivial⟩ ⟨⟨by omega,_,rfl,.pur Xk⟩,trivial⟩ Xk) ?_;refine ysq rfl (jQq Y Y Y Y Y Xk (put2_s x.pub x.to false) ?_);rintro w hp1 nw1 ⟨rfl,rfl,rfl⟩)
 refine zJq 13 Y ?_
 (refine op_ent (λ_=>ent_fr1 3 [(1,.ptr 0 0),(2,.nils),(10,.sl 2 0 0 (x.pub.1++x.to.1).length 1 none),(17,.fz ([x.nonce,x.amount,x.fee].map uW) 1 false)] [(2,5,.arr (x.pub.1++x.to.1).length 1 (zbq (x.pub.1++x.to.1))),(0,91,txW x)] Y Y (Nat.zero_le _) ⟨⟨_,rfl,.ptrK rfl⟩,⟨_,rfl,.pur rfl⟩,⟨_,rfl,.slK rfl⟩,⟨_,rfl,.sl (full:=false) Y Y Y Xi⟩,trivial⟩ ⟨⟨by omega,_,rfl,by rw[z4q hpa];exact .pur hpa⟩,⟨by omega,_,rfl,.pur Xk⟩,trivial⟩ Xk) ?_;refine ysq rfl (kYq (ext:=[2]) (ws:=[.sl 0 0 0 (x.pub.1++x.to.1).length 1 none,.fz ([x.nonce,x.amount,x.fee].map uW) 1 false,.fn 340 [] []]) Y Y Y Y Y (putu_s (x.pub.1++x.to.1) (by intro h;rw[h] at hl;cases hl) Xd [x.nonce,x.amount,x.fee] false Xk Xk hns) Xk Xk Xk (handed1 (by rw[z4q hpa];rfl) (zmq hpa)) Y ?_);rintro w hp1 nw1 ⟨rfl,rfl,rfl⟩)
 refine zJq 4 Y ?_;have hpb:purW (.arr (jmq x).length 1 (zbq (jmq x)))=true:=yyq _;have hn:(zbq (jmq x)).length=88:=by rw[zdq,hb]
 have hne:zbq (jmq x)≠[]:=λh=>by rw[h] at hn;cases hn
 refine fin (fr2:=[(2,.sl 0 0 0 (jmq x).length 1 none)]) (hp2:=[(0,5,.arr (jmq x).length 1 (zbq (jmq x)))]) (nw2:=1) (w:=.sl 0 0 0 (jmq x).length 1 none) Qn (qzq (b:=0) (k:=4) Xd Xd Qd ⟨⟨rfl,rfl⟩,trivial⟩ ⟨⟨by omega,?_,zmq hpb⟩,trivial⟩ Xk) rfl ⟨rfl,?_,?_,rfl⟩
 ·show some (5,renW _ (W.arr (jmq x).length 1 (zbq (jmq x))))=some (5,renW _ (W.arr (jmq x).length 1 (zbq (jmq x))));rw[z4q hpb,z4q hpb]
 ·rw[Y2q hne,zdq]
 ·rw[Y3q hne,zdq,Nat.mul_one]
theorem body_s(x:Tx)(hx:x.ok):PS cfg G 302 [txW x] (bW (jmq x)):=(bodyL_s x hx).ps Xo Xk
noncomputable def kRq(x:Tx):Dig:=tagD 4 [jmq x]
theorem sign_s(x:Tx)(hx:x.ok):PS cfg glK 241 [txW x] (dW (kRq x)):=by
 have hb:=Qiq x;refine gI 9 Y (λR k0=>gC 0 Y (body_s x hx) (zfq 1 Y ?_));refine ZYq Y Y Y Y Y (by(repeat (first|exact .nil|refine .cons ?_ ?_|(refine .sl Y ?_ rfl Xi;first|rfl|(focus (simp;done)))|(refine yKq Y ?_ rfl;first|rfl|(focus (simp;done)))|(refine .pur ?_;first|rfl|(focus (simp;done)))))) (uRq 4 [jmq x] false Xk (by simp[hb])) Xj Xj ?_;exact zJq 4 Y (gQa 0 Y)
theorem txcheck_s(x:Tx)(hx:x.ok):PS cfg glK 169 [txW x] (.int .i64 (if x.sign=kRq x then 0 else 110)):=by
 refine ps_in (fn:=Tryz.f169) Y Y Y (Yb rfl) (λR k0=>?_);by_cases h:x.sign=kRq x
 ·rw[if_pos h];skip
  exact z2q 12 Y (gC 0 Y (sign_s x hx) (fl_val (w':=.bool false) rfl (x2q Y Y Y Y (qfq Y Y Y Y Y Y x.sign (kRq x) 250)) (by rw[decide_eq_true h];rfl) (qoq 11 Y (gQa 0 Y))))
 ·rw[if_neg h];exact z2q 12 Y (gC 0 Y (sign_s x hx) (fl_val (w':=.bool true) rfl (x2q Y Y Y Y (qfq Y Y Y Y Y Y x.sign (kRq x) 250)) (by rw[decide_eq_false h];rfl) (qoq 10 Y (gQa 0 Y))))
end
section
attribute [local irreducible] CoW OpW FlW Step Spec
def acL(l:List Pr)(k:Dig):Acct:=match uvq l k with
 |some v=>(qmq v).1
 |none=>.zero
noncomputable def moreL(l:List Pr)(k:Dig)(c:Nat):Option (List Pr):=if (acL l k).balance+c<18446744073709551616 then some (setL l k ⟨(acL l k).nonce,(acL l k).balance+c⟩) else none
noncomputable def nudeL(l:List Pr)(x:Tx):List Pr:=setL l (keyD x.pub) ⟨(acL l (keyD x.pub)).nonce+1,(acL l (keyD x.pub)).balance⟩
noncomputable def lessL(l:List Pr)(x:Tx):List Pr:=setL (nudeL l x) (keyD x.pub) ⟨(acL l (keyD x.pub)).nonce+1,(acL l (keyD x.pub)).balance-(x.amount+x.fee)⟩
noncomputable def paidL(l:List Pr)(x:Tx)(box:Dig):List Pr×Nat:=if x.amount+x.fee<=(acL l (keyD x.pub)).balance then(match moreL (lessL l x) x.to x.amount with
  |none=>(nudeL l x,151)
  |some p=>match moreL p box x.fee with
   |none=>(nudeL l x,151)
   |some q=>(q,0)) else(nudeL l x,150)
end
noncomputable def gvL(l:List Pr)(d:Depo):List Pr×Nat:=match moreL l d.to d.amount with
 |some q=>(q,0)
 |none=>(l,151)
structure Rec where
 kind:UInt8
 id:Dig
 code:Nat
noncomputable def depD(d:Depo):Dig:=tagD 9 [beB 8 d.number++d.to.1++beB 8 d.amount]
noncomputable def idD(x:Tx):Dig:=tagD 5 [jmq x++x.sign.1]
noncomputable def doD:List Pr->List Depo->List Pr×List Rec
 |l,[]=>(l,[])
 |l,d::ds=>((doD (gvL l d).1 ds).1,⟨1,depD d,(gvL l d).2⟩::(doD (gvL l d).1 ds).2)
def goX(l:List Pr)(x:Tx):Prop:=x.sign=kRq x/\x.nonce=(acL l (keyD x.pub)).nonce/\x.nonce<18446744073709551615
noncomputable instance(l:List Pr)(x:Tx):Decidable (goX l x):=Classical.propDecidable _
noncomputable def doX(box:Dig):List Pr->List Tx->Option (List Pr×List Rec)
 |l,[]=>some (l,[])
 |l,x::xs=>if goX l x then(match doX box (paidL l x box).1 xs with
   |some r=>some (r.1,⟨2,idD x,(paidL l x box).2⟩::r.2)
   |none=>none) else none
section
attribute [local irreducible] CoW OpW FlW Step Spec
variable {G:Nat->Option W}
structure Hdr where
 height:Int
 parent:Dig
 state:Dig
 rows:Dig
 many:Int
noncomputable def hdW(h:Hdr):W:=.agg 98 [.int .i64 h.height,dW h.parent,dW h.state,dW h.rows,.int .i64 h.many]
@[simp] theorem hdW_pur(h:Hdr):purW (hdW h)=true:=by simp[hdW]
theorem ent_blkv{C:Cfg}{G:Nat->Option W}{m k0:Nat}{fr:FrW}{hp:HpW}{nw:Nat}{R:Res}{b:Nat}{ty:TypeId}{w w':W}(hb:hget hp b=some (ty,w))(h:View (λ_=>none) w w'):Ent C G m k0 fr hp nw R fr (hset hp b (ty,w')) nw R:=
 ent_blk hb λΓ v hv=>uPq ⟨λ_ h _=>h,λ_ _ _=>rfl,λ_ h=>h,λ_ _=>rfl,λ_ _ _ h=>(by cases h)⟩ h hv
theorem app_bs{C:Cfg}{hp:HpW}{nw:Nat}{ts tx e ty:TypeId}{j k:TyI}{x:W}{b n:Nat}{L M:List UInt8}(hj:C.ty ts=some j)(hd:j.d= .slice e)(hk:C.ty e=some k)(h1:k.size=1)(h2:k.bytes=1)(ht:Nat.beq ty e=true)(hs:srcW C hp tx 1 x=some (zbq M))(hg:hget hp b=some (ty,.arr (n*1) 1 (zbq L)))(hn:L.length=n)(hM:0<M.length)(hb:n+M.length<=1000000000):appW C hp nw ts tx (.sl b 0 0 n 1 none) x=some (.sl nw 0 0 (L++M).length 1 none,(nw,e,.arr ((L++M).length*1) 1 (zbq (L++M)))::hdel hp b,nw+1,.updO b):=by
 have hl:(zbq M).length=M.length:=zdq M;have q:=qLq (C:=C) (hp:=hp) (nw:=nw) (ts:=ts) (tx:=tx) (e:=e) (ty:=ty) (j:=j) (k:=k) (x:=x) (b:=b) (base:=0) (off:=0) (len:=n) (v:=.arr (n*1) 1 (zbq L)) (news:=zbq M) (olds:=zbq L) hj hd hk (by rw[h1];rfl) (by rw[h1];exact hs) (λh=>by rw[h] at hl;simp at hl;omega) (by rw[hl,h2];omega) (by rw[hl];omega) hg (by rw[hl,h1];show n*1<_;omega) ht (by rw[h1];exact zpq Xo (by rw[zdq];exact hn.symm) rfl);rw[h1,hl,<-yFq] at q;rw[List.length_append,hn];exact q
def okH(h:Hdr):Prop:=0<=h.height/\h.height<=1073741824/\0<=h.many/\h.many<=256
noncomputable instance(h:Hdr):Decidable (okH h):=Classical.propDecidable _
theorem uXq(h:Hdr):PS cfg G 107 [hdW h] (.bool (decide (okH h))):=by
 refine gI 10 Y (λR k0=>?_);refine gD 0 Y (λh1=>?_) (λh1=>?_)
 ·refine gD 3 Y (λh2=>?_) (λh2=>?_)
  ·refine gD 4 Y (λh3=>?_) (λh3=>?_)
   ·refine gU 4 Y ?_;exact gQ 5 Y Xu
   ·exact gQ 10 Y Xu
  ·exact gQ 15 Y Xu
 ·exact gQ 19 Y Xu
end
end
section
open Go.Shelf Go.RowKit Go.Lib
def joinRen:Go.Shelf.Ren:=⟨fun|14=>334|15=>356|n=>n,fun|26=>223|22=>99|3=>3|4=>4|0=>0|9=>9|20=>20|5=>5|n=>n,fun|n=>n⟩
theorem joinLays:Go.Proofs.SlLaysJ.n14 Tryz.prog joinRen:={
 mixed:=by kernel_rfl
 f14:=Tryz.func334.trans (congrArg some Xt)
 f15:=Tryz.func356.trans (congrArg some Xt)
 t0:=Tryz.underlying0
 a0:=Tryz.isAgg0
 z0:=Tryz.sizeOf0
 v0:=Tryz.zeroValue0
 t3:=Tryz.underlying3
 a3:=Tryz.isAgg3
 z3:=Tryz.sizeOf3
 v3:=Tryz.zeroValue3
 t4:=Tryz.underlying4
 a4:=Tryz.isAgg4
 z4:=Tryz.sizeOf4
 v4:=Tryz.zeroValue4
 t9:=Tryz.underlying9
 a9:=Tryz.isAgg9
 z9:=Tryz.sizeOf9
 v9:=Tryz.zeroValue9
 t20:=Tryz.underlying20
 a20:=Tryz.isAgg20
 z20:=Tryz.sizeOf20
 v20:=Tryz.zeroValue20
 t22:=Tryz.underlying99
 a22:=Tryz.isAgg99
 z22:=Tryz.sizeOf99
 v22:=Tryz.zeroValue99
 t26:=Tryz.underlying223
 a26:=Tryz.isAgg223
 z26:=Tryz.sizeOf223
 v26:=Tryz.zeroValue223
 t5:=Tryz.underlying5
 z5:=Tryz.sizeOf5
 i5:=by kernel_rfl}
theorem joinMany(b o n c:Nat)(vs:List Value)(ls:List (List UInt8))(sv:Value)(sep:List UInt8)(w:World)(hn:ls.length=n)(h2:2<=n)(hP:Lib.PartsAt w ⟨b,o,none⟩ vs ls)(hcap:n<=c)(hS:Lib.HoldsBytes w sv sep)(hn47:n<=140737488355328)(hlen:Lib.lens ls+sep.length*(n-1)<=140737488355328):
  Calls Tryz.prog 334 #[.slice (some ⟨b,o,none⟩) n c,sv] w λe w'=>∃v',e= .returned v'/\Lib.FreshBytes w.heap.size w' v' (Lib.join ls sep)/\Below w.heap.size w w':=Any.bytes_Join_many joinLays b o n c vs ls sv sep w hn h2 hP hcap hS hn47 hlen
end
section
open Go.RowKit
section
variable {s0:World} {U:Nat} {D:Nat->Prop} {ρ:Env} {h:Heap} {w w':World}
theorem Rel.pushAt(r:Rel s0 U D ρ h w)(hU:h.next+1<=U){b:Blk}{o:Obj}{q pre cap:Nat}(hq:w.heap.size<=q)(g:Below w.heap.size w w')(hn:w'.heap[q]? =some o)(hin:InB (DD D ρ) b)(hk:KnB (ρ.add h.next q pre cap) h.next b o):
  Rel s0 U (λi=>D i\/i=h.next) (ρ.add h.next q pre cap) (h.push b) w'/\Nxt D ρ h w (λi=>D i\/i=h.next) (ρ.add h.next q pre cap) (h.push b) w':=by
 have hne:=r.next_new hU;have hag:Env.Agree (DD D ρ) ρ (ρ.add h.next q pre cap):=Env.add_agree hne;have hdd:∀j m,DD D ρ j m->DD (λi=>D i\/i=h.next) (ρ.add h.next q pre cap) j m:=λj m hj=>⟨.inl hj.1,by rw[(hag j m hj).2.2.1];exact hj.2⟩
 have hb:∀j,D j->(ρ.add h.next q pre cap).b j=ρ.b j:=λj hj=>(hag j 0 ⟨hj,Nat.zero_le _⟩).1
 have hbn:(ρ.add h.next q pre cap).b h.next=q:=by simp[Env.add]
 have get:∀j c,(D j\/j=h.next) ->(h.push b).get j=some c->(j=h.next/\c=b)\/(D j/\h.get j=some c):=λj c hj hc=>by
  rw[Heap.get_push] at hc;split at hc
  ·rename_i e;cases hc;exact .inl ⟨e,rfl⟩
  ·rename_i e;rcases hj with hj|hj
   ·exact .inr ⟨hj,hc⟩
   ·exact absurd hj e
 have hlt:∀j c,D j->h.get j=some c->ρ.b j<w.heap.size:=λj c hj hc=>by
  obtain⟨o,h1,_⟩:=r.has j c hj hc;exact(Array.getElem?_eq_some_iff.1 h1).1
 have hsz:s0.heap.size<=w.heap.size:=r.base.size;refine⟨⟨λj hj=>?_,λj hj=>?_,λj c hj hc=>?_,λj c hj hc=>?_,λj k c d hj hk' hc hd hoc hod hne'=>?_,λj c hj hc hoc=>?_,λj k c d hj hk' hc hd hoc hod=>?_,?_⟩,?_⟩
 ·show j<h.next+1\/_;rcases hj with hj|hj
  ·have:=r.lt j hj;omega
  ·omega
 ·have hj:h.next+1<=j:=hj;rw[Heap.get_push,if_neg Xd];exact r.wf j Xd
 ·rcases get j c hj hc with ⟨rfl,rfl⟩|⟨hj,hc⟩
  ·exact⟨o,by rw[hbn];exact hn,hk⟩
  ·obtain⟨o,h1,h2⟩:=r.has j c hj hc;exact⟨o,by rw[hb j hj,g.block _ (hlt j c hj hc)];exact h1,KnB.agree hag (m:=0) ⟨hj,Nat.zero_le _⟩ (r.clo j c hj hc) h2⟩
 ·rcases get j c hj hc with ⟨rfl,rfl⟩|⟨hj,hc⟩
  ·exact hin.mono hdd
  ·exact(r.clo j c hj hc).mono hdd
 ·rcases get j c hj hc with ⟨rfl,rfl⟩|⟨hj1,hc1⟩<;>rcases get k d hk' hd with ⟨rfl,rfl⟩|⟨hk1,hd1⟩
  ·exact absurd rfl hne'
  ·rw[hbn,hb k hk1];have:=hlt k d hk1 hd1;omega
  ·rw[hbn,hb j hj1];have:=hlt j c hj1 hc1;omega
  ·rw[hb j hj1,hb k hk1];exact r.inj j k c d hj1 hk1 hc1 hd1 hoc hod hne'
 ·rcases get j c hj hc with ⟨rfl,rfl⟩|⟨hj,hc⟩
  ·rw[hbn];omega
  ·rw[hb j hj];exact r.own j c hj hc hoc
 ·rcases get j c hj hc with ⟨rfl,rfl⟩|⟨hj1,hc1⟩<;>rcases get k d hk' hd with ⟨rfl,rfl⟩|⟨hk1,hd1⟩
  ·rw[hoc] at hod;cases hod
  ·rw[hbn,hb k hk1];have:=hlt k d hk1 hd1;omega
  ·rw[hbn,hb j hj1];have:=hlt j c hj1 hc1;omega
  ·rw[hb j hj1,hb k hk1];exact r.old j k c d hj1 hk1 hc1 hd1 hoc hod
 ·exact⟨g.os.trans r.base.os,g.tape.trans r.base.tape,g.output.trans r.base.output,Nat.le_trans hsz g.size,λk hk=>(g.block k Xd).trans (r.base.block k hk)⟩
 ·refine⟨λ_ h=>.inl h,λj hj=>?_,λj hj=>?_,λc hc _=>g.block c hc,λj hj hn' hl=>?_,g.size,Nat.le_refl _,Nat.le_succ _,g.os,g.tape,g.output⟩
  ·rcases hj with hj|hj
   ·exact .inl hj
   ·exact .inr ⟨Nat.le_of_eq hj.symm,by show j<h.next+1;omega⟩
  ·have:j≠h.next:=by
    rcases hj with hj|hj
    ·omega
    ·have hj:h.next+1<=j:=hj;omega
   simp[Env.add,this]
  ·have hl:j<h.next+1:=hl;obtain rfl:j=h.next:=by omega
   exact .inl (by rw[hbn];exact hq)
theorem byJ_spec(r:Rel s0 U D ρ h w){v:V}{l:List UInt8}(hin:InD (DD D ρ) v)(hk:byJ h v=some l):Lib.HoldsBytes w (conc ρ v) l:=by
 unfold byJ at hk;split at hk
 ·cases hk;exact⟨none,0,rfl,λ_=>rfl,λa h=>by cases h⟩
 ·rename_i b base off n lim;split at hk
  ·rename_i bv hv;split at hk
   ·rename_i L hL;obtain⟨g1,g2⟩:=vuq ρ hk;obtain⟨q1,_,_,_⟩:=qbq (ρ:=ρ) 50 bv off n 1 L hL;have hcells:=kpq r hin hv hL;rw[g2] at hcells;obtain rfl:n=l.length:=by omega
    exact⟨_,_,rfl,λh=>(by cases h),λa ha i x hx=>by cases ha;exact hcells i _ (by simp[hx])⟩
   ·cases hk
  ·cases hk
 ·cases hk
theorem bysJ_spec(r:Rel s0 U D ρ h w):∀{xs:List V} {ls:List (List UInt8)},InDL (DD D ρ) xs->bysJ h xs=some ls->xs.length=ls.length/\(∀(i:Nat) v l,(zTq ρ xs)[i]? =some v->ls[i]? =some l->Lib.HoldsBytes w v l)/\∀x∈xs,x.size=1/\x.leaf=true
 |[],ls,_,hk=>by cases hk;exact⟨rfl,λi v l h=>by simp[zTq] at h,λx hx=>by cases hx⟩
 | v ::xs,ls,hin,hk=>by
  unfold bysJ at hk;split at hk
  ·rename_i x r' hx hr;cases hk;obtain⟨h1,h2,h3⟩:=bysJ_spec r hin.2 hr;refine⟨congrArg (· +1) h1,λi u l hu hl=>?_,λy hy=>?_⟩
   ·cases i with
    |zero=>
     simp only[zTq,List.getElem?_cons_zero,Option.some.injEq] at hu hl;subst hu;subst hl
     exact byJ_spec r hin.1 hx
    |succ i=>
     simp only[zTq,List.getElem?_cons_succ] at hu hl;exact h2 i u l hu hl
   ·rcases List.mem_cons.1 hy with rfl|hy
    ·unfold byJ at hx;split at hx
     ·exact⟨rfl,rfl⟩
     ·exact⟨rfl,rfl⟩
     ·cases hx
    ·exact h3 y hy
  ·cases hk
theorem inl_of{D:Nat->Nat->Prop}:∀{l:List V},(∀x∈l,InD D x) ->InDL D l
 |[],_=>trivial
 |x::l,h=>⟨h x (List.mem_cons_self ..),inl_of λy hy=>h y (List.mem_cons_of_mem _ hy)⟩
theorem Yrq(ρ:Env):∀{xs:List V},(∀x∈xs,x.size=1/\x.leaf=true) ->zvq ρ 1 xs=zTq ρ xs
 |[],_=>rfl
 |x::xs,h=>by
  have hx:=(h x Xk).2;simp only[zvq,zTq,jHq hx,Yrq ρ (xs:=xs) λy hy=>h y (by simp[hy])];rw[yHq (by rfl)];rfl
theorem join_flat:∀ls:List (List UInt8),Lib.join ls []=ls.flatten
 |[]=>rfl
 |x::r=>by
  rw[Lib.join_cons];unfold Lib.joinTail;simp
end
theorem joinOK{C:Cfg}:KnownFn Tryz.prog C 334 joinJ:=λvs h v h' he=>by
 unfold joinJ at he;split at he
 ·rename_i b base off n lim y;split at he
  ·rename_i bv hv hy;split at he
   ·rename_i xs hxs;split at he
    ·rename_i ls hls;split at he
     ·rename_i hb;cases he;simp only[Bool.and_eq_true] at hb;obtain⟨⟨⟨hb1,hb2⟩,hb3⟩,hb4⟩:=hb;have hb1:=Yb hb1;have hb2:=Yb hb2;have hb3:=Yb hb3;have hb4:=Yb hb4;refine⟨yoq _ _,(fnsOK 334 _ (by rfl)).2.1,λs0 U D ρ w hU gl hin rel=>?_⟩;have hU:h.next+1<=U:=hU;have hx:=hin.1;have hyi:=hin.2.1;obtain⟨g1,g2,g3,g4⟩:=qbq (ρ:=ρ) 50 bv off n 1 xs hxs;obtain⟨_,_,_,_,_,_,_,hvin⟩:=rel.val hx.2.2.1 hv;have hxin:InDL (DD D ρ) xs:=g4 _ hvin;obtain⟨k1,k2,k3⟩:=bysJ_spec rel (inl_of (Y6q hxin)) hls;have hcells:=kpq rel hx hv hxs;rw[show zvq ρ 1 xs=zTq ρ (z1q 1 xs) by rw[<-Yrq ρ k3,jEq ρ 1 xs,vdq ρ _ (usq 1 xs)]] at hcells;have hge:=kqq hx;have hc0:¬ylq ρ b off 1 lim=0:=by omega
      rw[if_neg hc0] at hcells;have hP:Lib.PartsAt w ⟨ρ.b b,ρ.pre b+off,none⟩ (zTq ρ (z1q 1 xs)) ls:=⟨by rw[jdq,k1],hcells,k2⟩;have hS:=byJ_spec rel hyi hy;have hfl:(z1q 1 xs).length=xs.length:=by rw[xbq,Nat.mul_one]
      have hlens:Lib.lens ls=ls.flatten.length:=by simp[Lib.lens,List.length_flatten]
      have cj:=joinMany (ρ.b b) (ρ.pre b+off) n (ylq ρ b off 1 lim) (zTq ρ (z1q 1 xs)) ls (conc ρ y) [] w Xd hb1 hP hge hS hb2 (by rw[hlens,List.length_nil,Nat.zero_mul,Nat.add_zero];exact hb4)
      have harg:(zTq ρ [.sl b base off n 1 lim,y]).toArray= #[.slice (some ⟨ρ.b b,ρ.pre b+off,none⟩) n (ylq ρ b off 1 lim),conc ρ y]:=by
       simp[zTq,conc,ynq,hc0]
      rw[harg];refine cj.mono ?_;rintro e w' ⟨v',rfl,hfresh,hbel⟩;rw[join_flat] at hfresh;clear hlens cj;generalize ls.flatten=F at hfresh hb3 hb4⊢;obtain⟨g,cap,zs,rfl,hg,hlc,hmax,hzl,hzr,hzb,hcell,hfrz⟩:=hfresh
      have hobj:∃cs ty fz,w'.heap[g]? =some (.cells cs ty fz):=by
       have:=hcell 0 Xd;simp only[World.cell?] at this;split at this
       ·rename_i cs ty fz hh;exact⟨_,_,_,hh⟩
       ·cases this
      obtain⟨cs,ty,fz,hobj⟩:=hobj
      have hcs:∀i,i<cap->cs[i]? =some (.int .u8 (zs.getD i 0)):=λi hi=>by
       have:=hcell i hi;simpa[World.cell?,hobj] using this
      have hval:∀i (hi:i<F.length),zs.getD i 0=(F[i].toNat:Int):=λi hi=>by
       have hz:i<zs.length:=by omega
       have h1:=congrArg (·[i]?) hzb;simp only[Go.Lib.bytesOf,List.getElem?_map,List.getElem?_take,hi,if_true,List.getElem?_eq_getElem hz,Option.map_some,List.getElem?_eq_getElem hi,Option.some.injEq] at h1;obtain⟨q1,q2⟩:=hzr zs[i] (List.getElem_mem hz);rw[<-h1];simp[List.getD,List.getElem?_eq_getElem hz];omega
      have hcells2:cs.toList=cellsV ρ (.arr F.length 1 (yPq F))++cs.toList.drop F.length:=by
       have e:cellsV ρ (.arr F.length 1 (yPq F))=F.map λb=>Value.int .u8 b.toNat:=by
        simp only[cellsV];rw[yHq (by rw[zUq];simp[yPq]),jIq]
       rw[e];apply List.ext_getElem?;intro i;by_cases hi:i<F.length
       ·rw[List.getElem?_append_left (by simpa using hi)];have:=hcs i Xd;rw[hval i hi] at this;simpa[List.getElem?_eq_getElem hi] using this
       ·rw[List.getElem?_append_right Xp,List.getElem?_drop];congr 1
        simp;omega
      have hinv:InD (DD D ρ) (.arr F.length 1 (yPq F)):=InDL_iff.2 λy hy=>by obtain⟨c,_,rfl⟩:=List.mem_map.1 hy;trivial
      have hag:Env.Agree (DD D ρ) ρ (ρ.add h.next g 0 cap):=Env.add_agree (rel.next_new hU)
      obtain⟨r',n'⟩:=rel.pushAt hU (q:=g) (pre:=0) (cap:=cap) (b:=.ro (.arr F.length 1 (yPq F))) hg hbel hobj hinv ⟨[],cs.toList.drop F.length,ty,fz,by
       rw[yOq hag hinv,List.nil_append,<-hcells2],by simp[Env.add],by simp[Env.add];exact hlc⟩
      refine⟨_,_,?_,r',n',by omega,Nat.le_refl _,.inr rfl,?_⟩
      ·have:¬cap=0:=by omega
       simp[conc,ynq,ylq,Env.add,this]
      ·simp[Env.add];exact hlc
     ·cases he
    ·cases he
   ·cases he
  ·cases he
 ·cases he
theorem known0OK:vgq Tryz.prog cfg:=λf k hk=>by
 have hk:(match Nat.beq f 334 with|true=>some joinJ|false=>none)=some k:=hk;split at hk
 ·rename_i e;cases hk;have:=Nat.eq_of_beq_eq_true e;subst this;exact joinOK
 ·cases hk
section
section
variable {C:Cfg} {G:Nat->Option W} {o:Oper} {fr fr2:FrW} {hp:HpW} {nw:Nat} {R:Res} {post:W->HpW->Nat->Res->Option EvW->Prop}
theorem step_frzA(hf:subV (blkA hp) fr fr2)(h:Step C G o fr2 [] nw R λw hp' nw' R' ev=>ev=some .gen/\post w hp' nw' R' ev):Step C G o fr hp nw R post:=λΓ X frv hnw s f0=>by
 let Γ2:Ctx:=⟨Γ.nw,Γ.σ,λc=>Γ.D c\/Owns Γ hp c,Γ.h⟩
 have le:Γ.Le Γ2:=⟨Nat.le_refl _,λ_ _=>rfl,λ_ h=>.inl h,λ_ _=>rfl⟩
 have q:Seen (blkA hp) Γ Γ2:=⟨λ_ h _=>h,λ_ _ _=>rfl,λ_ h=>.inl h,λ_ _=>rfl,λb c _ h=>by
  unfold blkA at h;split at h
  ·rename_i ty c' hg;cases h;obtain⟨v,h1,h2,h3⟩:=jAq s hg;exact⟨.inr ⟨b,_,hg,rfl⟩,v,h2,h3⟩
  ·cases h⟩
 have s2:SatH C G Γ2 [] X R:=⟨s.wf,λk ty' w hk=>by simp[hget] at hk,λk k' x y hx=>by simp[hget] at hx,List.nodup_nil,λd hd hX=>by
  rcases hd with h|⟨b,x,h,rfl⟩
  ·exact s.dX d h hX
  ·exact(s.own b x.1 x.2 h).2.2.1 hX,s.xlt,λd hd=>by
  rcases hd with h|⟨b,x,h,rfl⟩
  ·exact s.dlt d h
  ·exact s.own_lt h,R.st _ _ _ _ _ s.res le.D le.val (λ_ _=>rfl) (Nat.le_refl _),s.gl.mono le⟩
 have a:Frm Γ.nw Γ hp X Γ2 [] X:=⟨λ_ _=>rfl,λh=>h,Nat.le_refl _,λ_ _ _ _=>rfl,λ_ h=>.inl h,λd hd=>by
  rcases hd with h|h
  ·exact .inl h
  ·exact .inr (.inl (.inl h)),λk x hk h=>by simp[hget] at h,λk x hk h=>by simp[hget] at h,λ_ h=>.inl h,λ_ h _ _=>h⟩
 obtain⟨n,w,hp',R',ev,v,h',Γ',X',⟨rfl,h1⟩,h2,⟨h3,h3'⟩,h4,h5,h6,h7,h8⟩:=h Γ2 X frv hnw s2 λt w hw=>by
  obtain⟨w0,g1,g2⟩:=vBq hf t w hw;obtain⟨u,g3,g4⟩:=f0 _ _ g1;exact⟨u,g3,uPq q g2 g4⟩
 exact⟨n,w,hp',R',_,v,h',Γ',X',h1,h2,⟨h3,h3'⟩,h4,⟨h5.nw,h5.σ,λc hc=>h5.D c (.inl hc),λc hc=>h5.val c (.inl hc)⟩,h6,a.trans h7,h8⟩
end
attribute [local irreducible] CoW OpW FlW Step Spec
variable {G:Nat->Option W}
theorem uqq(h:Hdr):PS cfg G 81 [hdW h] (.int .i64 (if okH h then 0 else 8)):=by
 refine gI 11 Y (λR k0=>?_);refine gD 0 Y (λh1=>?_) (λh1=>?_)
 ·exact gQ 25 Y Yd
 ·refine gD 3 Y (λh2=>?_) (λh2=>?_)
  ·exact gQ 21 Y Yd
  ·refine gD 4 Y (λh3=>?_) (λh3=>?_)
   ·exact gQ 16 Y Yd
   ·refine gU 4 Y ?_;refine gS 3 Y (λh4=>?_) (λh4=>?_)
    ·exact gQ 7 Y Yd
    ·exact gQ 8 Y Yd
theorem hnumber_s(n size:Nat)(hs:1<=size)(hs8:size<=8)(hn:n<256^size)(hn2:n<9223372036854775808):PS cfg G 286 [.int .i64 (n:Int),.int .i64 (size:Int)] (bW (beB size n)):=by
 refine gIv 8 Y (λR k0=>gA 0 Y (n) (zfq 1 Y ?_))
 (refine ysq rfl (jQq Y Y Y Y Y Y (put_s n size hs hs8 hn) ?_);rintro w hp1 nw1 ⟨rfl,rfl,rfl⟩)
 refine zJq 14 Y ?_;have hp:purW (.arr (size*1) 1 (zbq (beB size n)))=true:=yyq _;exact yzq Qn rfl (.sl (full:=false) (c:=.arr (size*1) 1 (zbq (beB size n))) (xs:=zbq (beB size n)) (by show some (renW _ (W.arr (size*1) 1 (zbq (beB size n))))=_;rw[z4q hp]) hp (zpq Xo (by rw[zdq,qjq]) rfl) Xi)
theorem hjoin_s(ps:List (List UInt8))(f:Bool)(h2:2<=ps.length)(hn:ps.length<=140737488355328)(h1:1<=ps.flatten.length)(hb:ps.flatten.length<=140737488355328):PS cfg G 285 [.fz (ps.map bW) 1 f] (bW ps.flatten):=by
 exact gI 8 Y (λR k0=>gC 0 Y (join_w rfl ps f h2 hn h1 hb) (gQa 4 Y))
def hdB(h:Hdr):List UInt8:=[beB 8 h.height.toNat,h.parent.1,h.state.1,h.rows.1,beB 4 h.many.toNat].flatten
theorem hdB_len(h:Hdr):(hdB h).length=108:=by simp[hdB,qjq,h.parent.2,h.state.2,h.rows.2]
theorem sub_dig(d:Dig)(i:Nat):(((zbq d.1).drop (0/1)).take 32)=zbq d.1:=by
 have h:(zbq d.1).length=32:=by rw[zdq,d.2]
 rw[show 0/1=0 from rfl,List.drop_zero,List.take_of_length_le (by rw[h];omega)]
theorem hd_sub(h:Hdr):yqq 50 (hdW h) 1 32 1=some (zbq h.parent.1)/\yqq 50 (hdW h) 33 32 1=some (zbq h.state.1)/\yqq 50 (hdW h) 65 32 1=some (zbq h.rows.1):=
 ⟨congrArg some (sub_dig h.parent 0),congrArg some (sub_dig h.state 0),congrArg some (sub_dig h.rows 0)⟩
theorem hbytes_no(h:Hdr)(hh:¬okH h):PS cfg G 210 [hdW h] (.tup [.nils,.int .i64 8]):=by
 exact gI 11 Y (λR k0=>gC 0 Y (yfq (w':=.int .i64 8) (uqq h) (by rw[if_neg hh])) (gQa 19 Y))
theorem hbytes_s(h:Hdr)(hh:okH h):PS cfg G 210 [hdW h] (.tup [bW (hdB h),.int .i64 0]):=by
 obtain⟨h1,h2,h3,h4⟩:=hh;obtain⟨a,ha⟩:∃a:Nat,h.height=a:=⟨h.height.toNat,by omega⟩
 obtain⟨m,hm⟩:∃m:Nat,h.many=m:=⟨h.many.toNat,by omega⟩
 have ea:h.height.toNat=a:=by omega
 have em:h.many.toNat=m:=by omega
 have hl:=hdB_len h;have c1:=hnumber_s (G:=G) a 8 Xd Xd (by show a<18446744073709551616;omega) Xd;have c2:=hnumber_s (G:=G) m 4 Xd Xd (by show m<4294967296;omega) Xd;rw[<-ha] at c1;rw[<-hm] at c2;rw[<-ea] at c1;rw[<-em] at c2;have hj:=hjoin_s (G:=G) [beB 8 h.height.toNat,h.parent.1,h.state.1,h.rows.1,beB 4 h.many.toNat] false Xk Xk Yv Yv;rw[show [beB 8 h.height.toNat,h.parent.1,h.state.1,h.rows.1,beB 4 h.many.toNat].flatten=hdB h from rfl] at hj;refine gI 11 Y (λR k0=>gC 0 Y (yfq (w':=.int .i64 0) (uqq h) (by rw[if_pos ⟨h1,h2,h3,h4⟩])) (gC 16 Y c1 (gC 8 Y c2 ?_)));refine gSf 1 Y (step_frzA (fr2:=[(22,.fz ([beB 8 h.height.toNat,h.parent.1,h.state.1,h.rows.1,beB 4 h.many.toNat].map bW) 1 false)]) ⟨⟨_,rfl,(.sl2 (full:=false) rfl (.arr (.cons (.pur Xk) (.cons (.sl (full:=false) (c:=hdW h) (xs:=zbq h.parent.1) rfl Xk (hd_sub h).1 Xi) (.cons (.sl (full:=false) (c:=hdW h) (xs:=zbq h.state.1) rfl Xk (hd_sub h).2.1 Xi) (.cons (.sl (full:=false) (c:=hdW h) (xs:=zbq h.rows.1) rfl Xk (hd_sub h).2.2 Xi) (.cons (.pur Xk) .nil)))))) rfl Xi)⟩,trivial⟩ (step_ps Y Y Y Y Y hj Xk Xk ⟨rfl,by first|rfl|kernel_rfl,?_⟩));exact gQa 5 Y
noncomputable def hashD(h:Hdr):Dig:=tagD 6 [hdB h]
theorem hhash_no(h:Hdr)(hh:¬okH h):PS cfg G 131 [hdW h] (.tup [dW z5q,.int .i64 8]):=by
 exact gI 10 Y (λR k0=>gC 0 Y (hbytes_no h hh) (gV 17 Y kHq (gQa 7 Y)))
theorem hhash_s(h:Hdr)(hh:okH h):PS cfg glK 131 [hdW h] (.tup [dW (hashD h),.int .i64 0]):=by
 have hl:=hdB_len h;refine gI 10 Y (λR k0=>gC 0 Y (hbytes_s h hh) (zfq 21 Y ?_));refine ZYq Y Y Y Y Y (by(repeat (first|exact .nil|refine .cons ?_ ?_|(refine .sl Y ?_ rfl Xi;first|rfl|(focus (simp;done)))|(refine yKq Y ?_ rfl;first|rfl|(focus (simp;done)))|(refine .pur ?_;first|rfl|(focus (simp;done)))))) (uRq 6 [hdB h] false Xk (by simp[hl])) Xj Xj ?_;exact zJq 5 Y (gQa 0 Y)
end
section
attribute [local irreducible] CoW OpW FlW Step Spec
variable {G:Nat->Option W}
noncomputable def recW(r:Rec):W:=.agg 34 [.int .u8 (.ofNat r.kind.toNat),dW r.id,.int .i64 (r.code:Int)]
@[simp] theorem recW_pur(r:Rec):purW (recW r)=true:=by simp[recW]
def okR(r:Rec):Prop:=(r.kind=1\/r.kind=2)/\(r.code=0\/r.code=151\/(r.kind=2/\r.code=150))
def recB(r:Rec):List UInt8:=([r.kind]++r.id.1)++beB 2 r.code
def frontN(n:Nat):Nat:=2^(lenM (n-1) -1)
noncomputable def rootF:Nat->List (List UInt8) ->Dig
 |0,_=>tagD 0 []
 |n+1,ps=>match ps with
  |[]=>tagD 0 []
  |[p]=>tagD 7 [p]
  |p::q::r=>tagD 8 [(rootF n ((p::q::r).take (frontN (p::q::r).length))).1,(rootF n ((p::q::r).drop (frontN (p::q::r).length))).1]
noncomputable def rootD(ps:List (List UInt8)):Dig:=rootF 256 ps
end
section
theorem xsq(L:List Rec):purL (L.map recW)=true:=qqq (λr=>recW_pur r) L
attribute [local irreducible] CoW OpW FlW Step Spec
variable {G:Nat->Option W}
end
noncomputable def bodW(ds:List Depo)(xs:List Tx)(f g:Bool):W:=.agg 2 [.fz (ds.map pdW) 34 f,.fz (xs.map txW) 99 g]
@[simp] theorem bodW_pur(ds:List Depo)(xs:List Tx)(f g:Bool):purW (bodW ds xs f g)=true:=by
 have h1:purW (.fz (ds.map pdW) 34 f)=true:=qqq pdW_pur ds;have h2:purW (.fz (xs.map txW) 99 g)=true:=qqq txW_pur xs;show(purW (.fz (ds.map pdW) 34 f)&&(purW (.fz (xs.map txW) 99 g)&&true))=true;rw[h1,h2];rfl
@[simp] theorem pdl_pur(l:List Depo):purL (l.map pdW)=true:=qqq pdW_pur l
@[simp] theorem txl_pur(l:List Tx):purL (l.map txW)=true:=qqq txW_pur l
structure RcI where
 kind:UInt8
 id:Dig
 code:Int
noncomputable def rcW(r:RcI):W:=.agg 34 [.int .u8 (.ofNat r.kind.toNat),dW r.id,.int .i64 r.code]
@[simp] theorem rcW_pur(r:RcI):purW (rcW r)=true:=by simp[rcW]
@[simp] theorem rcl_pur(l:List RcI):purL (l.map rcW)=true:=qqq rcW_pur l
structure Lk where
 hdr:Hdr
 root:Int
 ds:List Depo
 xs:List Tx
 rs:List RcI
noncomputable def lkG(l:Lk):W:=.agg 102 [hdW l.hdr,.int .i64 l.root,bodW l.ds l.xs false false,.fz (l.rs.map rcW) 34 false]
@[simp] theorem lkG_pur(l:Lk):purW (lkG l)=true:=by
 have h:purW (.fz (l.rs.map rcW) 34 false)=true:=qqq rcW_pur l.rs;show(purW (hdW l.hdr)&&(true&&(purW (bodW l.ds l.xs false false)&&(purW (.fz (l.rs.map rcW) 34 false)&&true))))=true;rw[h,hdW_pur,bodW_pur];rfl
@[simp] theorem lks_pur(l:List Lk):purL (l.map lkG)=true:=qqq lkG_pur l
structure Ch where
 tree:Tree
 links:List Lk
noncomputable def chG(c:Ch):W:=.agg 3 [tW c.tree,.fz (c.links.map lkG) 102 false]
@[simp] theorem chG_pur(c:Ch):purW (chG c)=true:=by
 show(purW (tW c.tree)&&(purW (.fz (c.links.map lkG) 102 false)&&true))=true;rw[tW_pur,show purW (.fz (c.links.map lkG) 102 false)=true from lks_pur _];rfl
structure Vw where
 number:Int
 down:Bool
 final:Int
 ch:Ch
noncomputable def vwG(v:Vw):W:=.agg 6 [.int .i64 v.number,.bool v.down,.int .i64 v.final,chG v.ch]
@[simp] theorem vwG_pur(v:Vw):purW (vwG v)=true:=by
 show(true&&(true&&(true&&(purW (chG v.ch)&&true))))=true;rw[chG_pur];rfl
def BodyM(ds:List Depo)(xs:List Tx):Prop:=ds.length<=16/\xs.length<=16/\∀x∈xs,x.sign=kRq x
section
attribute [local irreducible] CoW OpW FlW Step Spec
def hdZ:Hdr:=⟨0,z5q,z5q,z5q,0⟩
end
section
noncomputable def wkF(t:Tree)(box:Dig)(L:List Rec):W:=.agg 35 [tW t,dW box,.fz (L.map recW) 34 false]
@[simp] theorem wkF_pur(t:Tree)(box:Dig)(L:List Rec):purW (wkF t box L)=true:=by
 show(purW (tW t)&&(purW (dW box)&&(purW (.fz (L.map recW) 34 false)&&true)))=true;rw[tW_pur,dW_pur,show purW (.fz (L.map recW) 34 false)=true from xsq L];rfl
attribute [local irreducible] CoW OpW FlW Step Spec
attribute [local simp] xsq
noncomputable def headD(p:Hdr)(t1:T)(L:List Rec):Hdr:=⟨p.height+1,hashD p,sumD t1,rootD (L.map recB),L.length⟩
end
theorem fit_tx{w:W}(h:Fit (.st 99 [.arr 32 1 (.int .u8),.arr 32 1 (.int .u8),.int .u64,.int .u64,.int .u64,.arr 32 1 (.int .u8)]) w):∃x:Tx,w=txW x/\x.ok:=by
 obtain⟨l,rfl,w1,l1,rfl,h1,w2,l2,rfl,h2,w3,l3,rfl,h3,w4,l4,rfl,h4,w5,l5,rfl,h5,w6,l6,rfl,h6,rfl⟩:=h;obtain⟨a,rfl⟩:=jFq h1;obtain⟨b,rfl⟩:=jFq h2;obtain⟨n,rfl,hn⟩:=Zlq h3;obtain⟨m,rfl,hm⟩:=Zlq h4;obtain⟨f,rfl,hf⟩:=Zlq h5;obtain⟨s,rfl⟩:=jFq h6;exact⟨⟨a,b,n,m,f,s⟩,rfl,hn,hm,hf⟩
section
attribute [local irreducible] CoW OpW FlW Step Spec
variable {G:Nat->Option W}
structure BodOk(ds:List Depo)(xs:List Tx):Prop where
 dep:∀d∈ds,d.number<18446744073709551616/\d.amount<18446744073709551616
 tx:∀x∈xs,x.ok
 dl:ds.length<=140737488351232
 xl:xs.length<=140737488351232
theorem fit_depo2{w:W}(h:Fit (.st 34 [.int .u64,.arr 32 1 (.int .u8),.int .u64]) w):∃d:Depo,w=pdW d/\d.number<18446744073709551616/\d.amount<18446744073709551616:=by
 obtain⟨l,rfl,w1,l1,rfl,h1,w2,l2,rfl,h2,w3,l3,rfl,h3,rfl⟩:=h;obtain⟨n,rfl,hn⟩:=Zlq h1;obtain⟨k,rfl⟩:=jFq h2;obtain⟨m,rfl,hm⟩:=Zlq h3;exact⟨⟨n,k,m⟩,rfl,hn,hm⟩
theorem fit_hdr{w:W}(h:Fit (.st 98 [.int .i64,.arr 32 1 (.int .u8),.arr 32 1 (.int .u8),.arr 32 1 (.int .u8),.int .i64]) w):∃p:Hdr,w=hdW p/\p.height<=9223372036854775807:=by
 obtain⟨l,rfl,w1,l1,rfl,h1,w2,l2,rfl,h2,w3,l3,rfl,h3,w4,l4,rfl,h4,w5,l5,rfl,h5,rfl⟩:=h;obtain⟨i,rfl,_,hi⟩:=qeq h1;obtain⟨a,rfl⟩:=jFq h2;obtain⟨b,rfl⟩:=jFq h3;obtain⟨c,rfl⟩:=jFq h4;obtain⟨j,rfl,_⟩:=qeq h5;exact⟨⟨i,a,b,c,j⟩,rfl,hi⟩
theorem fit_body{w:W}(h:Fit (.st 2 [.sl 34 48 (.st 34 [.int .u64,.arr 32 1 (.int .u8),.int .u64]),.sl 99 120 (.st 99 [.arr 32 1 (.int .u8),.arr 32 1 (.int .u8),.int .u64,.int .u64,.int .u64,.arr 32 1 (.int .u8)])]) w):∃ds xs,w=bodW ds xs false false/\BodOk ds xs:=by
 obtain⟨l,rfl,w1,l1,rfl,h1,w2,l2,rfl,h2,rfl⟩:=h;obtain⟨ds,rfl,hl,hd⟩:=fit_sl h1 λx hx=>fit_depo2 hx
 obtain⟨xs,rfl,hl2,hx⟩:=fit_sl h2 λx hx=>fit_tx hx
 exact⟨ds,xs,rfl,hd,hx,by omega,by omega⟩
def yBq(ds:List Depo)(xs:List Tx):Prop:=(4<ds.length/\ds.length<=16)\/20<ds.length\/(4<xs.length/\xs.length<=16)\/20<xs.length
noncomputable instance(ds:List Depo)(xs:List Tx):Decidable (yBq ds xs):=Classical.propDecidable _
theorem great16_s(ds:List Depo)(xs:List Tx)(f g:Bool):PS cfg G 26 [bodW ds xs f g] (.bool (decide (yBq ds xs))):=by
 have e1:(ds.map pdW).length=ds.length:=List.length_map _;have e2:(xs.map txW).length=xs.length:=List.length_map _;refine gI 10 Y (λR k0=>?_);refine gV (w':=.int .i64 (ds.length:Int)) 0 Y (by rw[<-e1];rfl) ?_;refine gD 0 Y (λh1=>?_) (λh1=>?_)
 ·refine gV (w':=.int .i64 (ds.length:Int)) 3 Y (by rw[<-e1];rfl) ?_;refine gD 0 Y (λh2=>?_) (λh2=>?_)
  ·exact gQ 29 Y Xl
  ·refine gV (w':=.int .i64 (ds.length:Int)) 4 Y (by rw[<-e1];rfl) ?_;refine gD 0 Y (λh3=>?_) (λh3=>?_)
   ·exact gQ 23 Y Xl
   ·refine gV (w':=.int .i64 (xs.length:Int)) 4 Y Qc ?_;refine gD 0 Y (λh4=>?_) (λh4=>?_)
    ·refine gV (w':=.int .i64 (xs.length:Int)) 3 Y Qc ?_;refine gD 0 Y (λh5=>?_) (λh5=>?_)
     ·exact gQ 12 Y Xl
     ·refine gV (w':=.int .i64 (xs.length:Int)) 5 Y Qc ?_;refine gU 0 Y ?_;exact gQ 5 Y Xl
    ·refine gV (w':=.int .i64 (xs.length:Int)) 10 Y Qc ?_;refine gU 0 Y ?_;exact gQ 5 Y Xl
 ·refine gV (w':=.int .i64 (ds.length:Int)) 9 Y (by rw[<-e1];rfl) ?_;refine gD 0 Y (λh2=>?_) (λh2=>?_)
  ·exact gQ 23 Y Xl
  ·refine gV (w':=.int .i64 (xs.length:Int)) 4 Y Qc ?_;refine gD 0 Y (λh3=>?_) (λh3=>?_)
   ·refine gV (w':=.int .i64 (xs.length:Int)) 3 Y Qc ?_;refine gD 0 Y (λh4=>?_) (λh4=>?_)
    ·exact gQ 12 Y Xl
    ·refine gV (w':=.int .i64 (xs.length:Int)) 5 Y Qc ?_;refine gU 0 Y ?_;exact gQ 5 Y Xl
   ·refine gV (w':=.int .i64 (xs.length:Int)) 10 Y Qc ?_;refine gU 0 Y ?_;exact gQ 5 Y Xl
end
def recI(r:Rec):RcI:=⟨r.kind,r.id,(r.code:Int)⟩
def FolB(h p:Hdr):Prop:=okH h/\okH p/\h.height=p.height+1/\h.parent=hashD p
noncomputable instance(h p:Hdr):Decidable (FolB h p):=Classical.propDecidable _
noncomputable instance(ds:List Depo)(xs:List Tx):Decidable (BodyM ds xs):=Classical.propDecidable _
def verT(c:Ch)(r:Int):Tree:=⟨c.tree.nodes,r⟩
structure LkM(c:Ch)(i:Nat)(x:Lk):Prop where
 height:x.hdr.height=(i:Int)
 hdr:okH x.hdr
 fol:∀y,0<i->c.links[i-1]? =some y->FolB x.hdr y.hdr
 recs:((x.rs.length:Nat):Int)=x.hdr.many
 body:BodyM x.ds x.xs
 tree:MayA (verT c x.root)
structure MayC(c:Ch):Prop where
 one:0<c.links.length
 len:c.links.length<=256
 root:∀x,c.links[c.links.length-1]? =some x->c.tree.root=x.root
 link:∀i x,c.links[i]? =some x->LkM c i x
noncomputable instance(c:Ch):Decidable (MayC c):=Classical.propDecidable _
noncomputable def firH(t0:T):Hdr:=⟨0,z5q,sumD t0,tagD 0 [],0⟩
structure LkS(c:Ch)(box:Dig)(i:Nat)(x:Lk):Prop where
 first:i=0->∃n t0,IsA (verT c x.root) n t0/\x.hdr=firH t0/\x.ds=[]/\x.xs=[]
 next:∀y,0<i->c.links[i-1]? =some y->∃n t0 n1 t1 rs,IsA (verT c y.root) n t0/\IsA (verT c x.root) n1 t1/\doX box (doD t0.all x.ds).1 x.xs=some (t1.all,rs)/\x.hdr=headD y.hdr t1 ((doD t0.all x.ds).2++rs)/\x.rs=((doD t0.all x.ds).2++rs).map recI
structure SoundC(c:Ch)(box:Dig):Prop extends MayC c where
 sound:∀i x,c.links[i]? =some x->LkS c box i x
noncomputable instance(c:Ch)(box:Dig):Decidable (SoundC c box):=Classical.propDecidable _
theorem MayC.last{c:Ch}(h:MayC c):∃y,c.links[c.links.length-1]? =some y/\c.tree.root=y.root/\LkM c (c.links.length-1) y:=by
 have:=h.one;have e:=List.getElem?_eq_getElem (l:=c.links) (i:=c.links.length-1) Xd;exact⟨_,e,h.root _ e,h.link _ _ e⟩
theorem MayC.head{c:Ch}(h:MayC c){y:Lk}(e:c.links[c.links.length-1]? =some y):∃n t0,IsA c.tree n t0/\verT c y.root=c.tree:=by
 obtain⟨y',e',hr,hy⟩:=h.last;cases e.symm.trans e';have:verT c y.root=c.tree:=by unfold verT;rw[<-hr]
 obtain⟨n,t0,hA⟩:=hy.tree;exact⟨n,t0,this▸hA,this⟩
theorem vnq{α:Type}{l:List α}{i:Nat}{x:α}(h:l[i]? =some x):i<l.length:=(List.getElem?_eq_some_iff.1 h).1
section
attribute [local irreducible] CoW OpW FlW Step Spec
variable {G:Nat->Option W}
noncomputable instance(a b:Depo):Decidable (a=b):=Classical.propDecidable _
noncomputable instance(a b:Tx):Decidable (a=b):=Classical.propDecidable _
noncomputable instance(a b:RcI):Decidable (a=b):=Classical.propDecidable _
noncomputable instance(a b:Hdr):Decidable (a=b):=Classical.propDecidable _
theorem dec_and{p:Prop} [Decidable p]{b:Bool}(h:p↔b=true):decide p=b:=by
 rw[Bool.eq_iff_iff,decide_eq_true_eq];exact h
theorem eq_rc(a b:RcI):eqW cfg 300 98 (rcW a) (rcW b)=some (decide (a=b)):=by
 rw[dec_and (p:=a=b) (b:=decide ((Int.ofNat a.kind.toNat)=Int.ofNat b.kind.toNat)&&(decide (a.id=b.id)&&(decide (a.code=b.code)&&true))) (by cases a;cases b;simp only[RcI.mk.injEq,Bool.and_eq_true,decide_eq_true_eq,and_true];exact⟨λh=>⟨by rw[h.1],h.2⟩,λh=>⟨UInt8.toNat_inj.1 (Int.ofNat.inj h.1),h.2⟩⟩)];exact eq_struct Y Y Y Y (xgq Y Y Y (eq_int Y Y) (xgq Y Y Y (qfq Y Y Y Y Y Y _ _ _) (xgq Y Y Y (eq_int Y Y) eqFs_nil)))
theorem qYq{p:Prop} [Decidable p](h:¬p):W.bool false=W.bool (decide p):=congrArg W.bool (decide_eq_false h).symm
theorem dec_t{p:Prop} [Decidable p](h:p):W.bool true=W.bool (decide p):=congrArg W.bool (decide_eq_true h).symm
theorem dec_c{p q:Prop} [Decidable p] [Decidable q](h:q↔p):W.bool (decide q)=W.bool (decide p):=congrArg W.bool (decide_eq_decide.2 h)
theorem hfollows_d(h p:Hdr):PS cfg glK 82 [hdW h,hdW p] (.bool (decide (FolB h p))):=by
 by_cases hp:okH p
 ·obtain⟨q1,q2,q3,q4⟩:=id hp;by_cases hh:okH h
  ·skip
   refine gI 10 Y (λR k0=>gC 0 Y (hhash_s p ⟨q1,q2,q3,q4⟩) (gTa 11 Y (gC 2 Y (yfq (w':=.int .i64 0) (uqq h) (by rw[if_pos hh])) (gTa 0 Y (gWr 6 Y ?_)))));refine gD 0 Y (λh1=>?_) (λh1=>?_)
   ·exact gUe 5 Y (y2q Y Y Y Y (qfq Y Y Y Y Y Y _ _ 250)) yvq (gQ 5 Y (dec_c ⟨λq=>⟨hh,hp,by simpa using h1,q⟩,λq=>q.2.2.2⟩))
   ·exact gQ 11 Y (qYq λq=>h1 (by simpa using q.2.2.1))
  ·skip
   exact gI 10 Y (λR k0=>gC 0 Y (hhash_s p ⟨q1,q2,q3,q4⟩) (gTa 11 Y (gC 2 Y (yfq (w':=.int .i64 8) (uqq h) (by rw[if_neg hh])) (gFa 0 Y (gQ 19 Y (qYq λq=>hh q.1))))))
 ·skip
  exact gI 10 Y (λR k0=>gC 0 Y (hhash_no p hp) (gFa 11 Y (gQ 23 Y (qYq λq=>hp q.2.1))))
theorem ver_s(t:Tree)(r:Int):PS cfg G 75 [tW t,.int .i64 r] (tW ⟨t.nodes,r⟩):=by
 exact gI 20 Y (λR k0=>gQa 0 Y)
theorem ixtx_s(xs:List Tx)(f:Bool)(F:FuncId)(P:Tx->Prop) [DecidablePred P](hF:∀x∈xs,PS cfg G F [txW x] (.bool (decide (P x))))(hF0:cfg.ext F=none)(hn:xs.length<=1000000000):PE cfg G 242 [.fz (xs.map txW) 99 f,.fn F [] []] (λw=>∃i:Int,w= .int .i64 i/\((∃x∈xs,P x)↔0<=i)):=by
 have e:(xs.map txW).length=xs.length:=List.length_map _;refine gIe 9 Y (λR k0=>gZ 0 Y e ?_);refine gLo (α:=Nat) 4 (λi=>i<=xs.length/\∀j x,j<i->xs[j]? =some x->¬P x) (λi=>[(8,.int .i64 (i:Int))]) [0,1,4,7] (λi=>xs.length-i) (0) rfl (⟨Nat.zero_le _,λj x h=>by omega⟩) (λi hI=>?_);obtain⟨g1,g2⟩:=hI;refine gS 6 Y (λh1=>?_) (λh1=>?_)
 ·obtain⟨x,hx⟩:∃x,xs[i]? =some x:=⟨_,List.getElem?_eq_getElem Xd⟩
  refine gP 15 Y (zAq (i:=i) Y Y Y Y Y Y Y (zzq txW hx)) (zfq 1 Y (op_ps Y Y Y hF0 Y Y (hF x (List.mem_of_getElem? hx)) Xk Xk (zJq 2 Y ?_)));refine gS 0 Y (λh2=>?_) (λh2=>?_)
  ·exact gO 9 Y (zfq 2 Y (fin_vE (w':=.int .i64 (i:Int)) Qn rfl (.pur rfl) rfl ⟨_,rfl,λ_=>by omega,λ_=>⟨x,List.mem_of_getElem? hx,h2⟩⟩))
  ·exact gA 4 Y (i+1) (gAg 2 Y (i+1) (⟨by omega,λj y hj hy=>by rcases Nat.lt_succ_iff_lt_or_eq.1 hj with q|rfl;exact g2 j y q hy;exact Option.some.inj (hx.symm.trans hy)▸h2⟩) Xd)
 ·refine gO 2 Y (zfq 8 Y ?_)
  exact fin_vE (w':=.int .i64 (-1)) Qn rfl (.pur rfl) rfl ⟨_,rfl,λ⟨x,hx,q⟩=>by
   obtain⟨j,hj⟩:=List.getElem?_of_mem hx;exact absurd q (g2 j x (by have:=vnq hj;omega) hj),λh=>absurd h Xo⟩
theorem cntx_s(xs:List Tx)(f:Bool)(F:FuncId)(P:Tx->Prop) [DecidablePred P](hF:∀x∈xs,PS cfg G F [txW x] (.bool (decide (P x))))(hF0:cfg.ext F=none)(hn:xs.length<=1000000000) [Decidable (∃x∈xs,P x)]:PS cfg G 170 [.fz (xs.map txW) 99 f,.fn F [] []] (.bool (decide (∃x∈xs,P x))):=by
 refine gI 9 Y (λR k0=>?_);refine gE 0 Y (ixtx_s xs f F P hF hF0 hn) ?_;rintro w hw ⟨i,rfl,hi⟩;refine gU 0 Y ?_;exact gQ 4 Y (by rw[decide_eq_decide.2 hi])
theorem cbody1_s(x:Tx)(hx:x.ok):PS cfg glK 168 [txW x] (.bool (decide (x.sign≠kRq x))):=by
 by_cases h:x.sign=kRq x
 ·skip
  exact gI 9 Y (λR k0=>gC 0 Y (yfq (w':=.int .i64 0) (txcheck_s x hx) (by rw[if_pos h])) (gFa 0 Y (gQ 4 Y (qYq λq=>q h))))
 ·skip
  exact gI 9 Y (λR k0=>gC 0 Y (yfq (w':=.int .i64 110) (txcheck_s x hx) (by rw[if_neg h])) (gTa 0 Y (gQ 4 Y (dec_t h))))
theorem max_w(a b:Nat):W.int .i64 (match ltI (a:Int) (b:Int) with|true=>(b:Int)|false=>(a:Int))=W.int .i64 ((max a b:Nat):Int):=by
 congr 1
 by_cases h:(a:Int)<(b:Int)
 ·rw[ltI_iff.2 h,Nat.max_eq_right Xd]
 ·rw[ltI_not.2 h,Nat.max_eq_left Xd]
theorem cbody_s(ds:List Depo)(xs:List Tx)(f g:Bool)(hx:∀x∈xs,x.ok)(hd:ds.length<=140737488351232)(hn:xs.length<=140737488351232):PS cfg glK 83 [bodW ds xs f g] (.bool (decide (BodyM ds xs))):=by
 have e1:(ds.map pdW).length=ds.length:=List.length_map _;have e2:(xs.map txW).length=xs.length:=List.length_map _;by_cases hm:ds.length<=16/\xs.length<=16
 ·have hc:=cntx_s (G:=glK) xs g 168 (λx=>x.sign≠kRq x) (λx h=>cbody1_s x (hx x h)) rfl Xd;by_cases hs:∃x∈xs,x.sign≠kRq x
  ·exact gI 15 Y (λR k0=>gZ 0 Y e1 (gZ 2 Y e2 (gV (w':=.int .i64 ((max ds.length xs.length:Nat):Int)) 0 Y (max_w _ _) (gT 0 Y (congrArg not (ltI_not.2 Xd)) (gC 4 Y (yfq (w':=.bool true) (hc) (by rw[decide_eq_true (hs)])) (gQ 6 Y (qYq λq=>by obtain⟨x,h1,h2⟩:=hs;exact h2 (q.2.2 x h1))))))))
  ·exact gI 15 Y (λR k0=>gZ 0 Y e1 (gZ 2 Y e2 (gV (w':=.int .i64 ((max ds.length xs.length:Nat):Int)) 0 Y (max_w _ _) (gT 0 Y (congrArg not (ltI_not.2 Xd)) (gC 4 Y (yfq (w':=.bool false) (hc) (by rw[decide_eq_false (hs)])) (gQ 6 Y (dec_t ⟨hm.1,hm.2,λx h=>Classical.not_not.1 λq=>hs ⟨x,h,q⟩⟩)))))))
 ·exact gI 15 Y (λR k0=>gZ 0 Y e1 (gZ 2 Y e2 (gV (w':=.int .i64 ((max ds.length xs.length:Nat):Int)) 0 Y (max_w _ _) (gF 0 Y (congrArg not (ltI_iff.2 Xd)) (gQ 11 Y (qYq λq=>hm ⟨q.1,q.2.1⟩))))))
noncomputable def bodyN:W:=.agg 2 [.nils,.nils]
noncomputable def lkZ:W:=.agg 102 [hdW hdZ,.int .i64 0,bodyN,.nils]
@[simp] theorem lkZ_pur:purW lkZ=true:=by simp[lkZ,bodyN,purW,purL]
noncomputable def lkA(l:List Lk)(i:Nat):W:=match l[i]? with
 |some x=>lkG x
 |none=>lkZ
noncomputable def prevW(l:List Lk):Nat->W
 |0=>lkZ
 |i+1=>lkA l i
@[simp] theorem lkA_pur(l:List Lk)(i:Nat):purW (lkA l i)=true:=by unfold lkA;split<;>simp
@[simp] theorem prev_pur(l:List Lk)(i:Nat):purW (prevW l i)=true:=by cases i<;>simp[prevW]
noncomputable def encL(l:List Lk)(i:Nat):List W:=[lkA l i,prevW l i]
theorem encL_ok(l:List Lk){n:Nat}:∀y∈List.range n,purL (encL l y)=true/\(encL l y).length=2:=λy _=>⟨by simp[encL,purL],rfl⟩
theorem range_at{n i:Nat}(h:i<n):(List.range n)[i]? =some i:=by rw[List.getElem?_range h]
theorem lkA_at{l:List Lk}{i:Nat}{x:Lk}(h:l[i]? =some x):lkA l i=lkG x:=by unfold lkA;rw[h]
theorem ceach_s(l:List Lk)(f:Bool):PS cfg G 80 [.fz (l.map lkG) 102 f] (.fn 167 [] [.fel (.fz (l.map lkG) 102 f)]):=by
 have hp:=lks_pur l;refine gI 13 Y (λR k0=>?_);refine xdq (fr2:=[(2,_)]) Xm ?_ Y Y
 (repeat (first|exact trivial|refine And.symm ⟨?_,_,rfl,?_⟩))<;>(repeat (first|exact .nil|refine .cons ?_ ?_|refine .fn ?_ ?_|(refine yKq Y ?_ rfl;(first|rfl|(focus (simp;done))))|(refine .sl Y ?_ rfl Xi;(first|rfl|(focus (simp;done))))|(refine .pur ?_;(first|rfl|(focus (simp;done))))|refine .agg ?_|refine .arr ?_|refine .tup ?_))
theorem prev_agg(l:List Lk)(i:Nat):∃a b c d,prevW l i= .agg 102 [a,b,c,d]:=by
 cases i with
 |zero=>exact⟨_,_,_,_,rfl⟩
 |succ i=>
  show∃a b c d,lkA l i=_
  unfold lkA;split<;>exact⟨_,_,_,_,rfl⟩
theorem ceach_it(l:List Lk)(f:Bool)(hb:l.length<=4611686018427387903):y7q cfg G 167 [.fel (.fz (l.map lkG) 102 f)] ((List.range l.length).map (encL l)):=by
 have e:(l.map lkG).length=l.length:=List.length_map _;refine k6q (fn:=Tryz.f167) Y Y Y (Yb rfl) (λL E R hy k0=>?_);refine z2q 8 Y (gZ 0 Y e (zfq 4 Y (co_ent (ent_blkv (b:=0) (w':=lkZ) rfl (.agg (.cons (.agg (.cons (.pur rfl) (.cons zBq (.cons zBq (.cons zBq (.cons (.pur rfl) .nil)))))) (.cons (.pur rfl) (.cons (.pur rfl) (.cons (.pur rfl) .nil)))))) ?_)));refine co_loopR (α:=Nat×Res) (λp=>p.1<=l.length/\Yl cfg G L E (((List.range l.length).drop p.1).map (encL l)) p.2) (λp=>[(8,.int .i64 (p.1:Int))]) [(0,_),(3,_),(6,_),(7,_)] (λp=>[(0,155,prevW l p.1)]) (λp=>p.2) (λp=>l.length-p.1) ((0,R)) ⟨rfl,rfl,rfl,rfl,trivial⟩ (⟨Nat.zero_le _,hy⟩) ⟨rfl,trivial⟩ Y Y (λp hI=>?_);obtain⟨i,R⟩:=p;obtain⟨hi,hy⟩:=hI;simp only at hi hy⊢;refine z2q 6 Y ?_;refine gS 0 Y (λh1=>?_) (λh1=>?_)
 ·have hi':i<l.length:=by omega
  obtain⟨x,hx⟩:∃x,l[i]? =some x:=⟨_,List.getElem?_eq_getElem hi'⟩
  rw[xhq (range_at hi'),List.map_cons] at hy;have ex:=lkA_at hx;obtain⟨a,b,c,d,hp⟩:=prev_agg l i;have hv:purW (.agg 102 [a,b,c,d])=true:=hp▸prev_pur l i
  rw[show encL l i=[lkG x,.agg 102 [a,b,c,d]] by unfold encL;rw[ex,hp]] at hy;rw[hp];refine gP 6 Y (zAq (i:=i) Y Y Y Y Y Y Y (zzq lkG hx)) ?_;refine gSo 11 Y (qHq Y Y Y (hy) (λb R1 hb=>?_));refine gS 3 Y (λh2=>?_) (λh2=>?_)
  ·cases b with
   |true=>cases h2
   |false=>
    exact yTq 4 Y (y9q Xi (zYq 1 Y (jTq Qn rfl hb)))
  ·cases b with
   |false=>exact absurd rfl h2
   |true=>
    refine yTq 9 Y (gA 0 Y (i+1) (zfq 2 Y ?_));rw[show lkG x=prevW l (i+1) from ex.symm];exact YPq ((i+1,R1)) (⟨hi',hb⟩) Ya (Nat.zero_le _) ⟨rfl,trivial⟩ ⟨rfl,rfl,rfl,rfl,trivial⟩ Xg Xg Xd Xh Yf rfl
 ·refine zfq 2 Y (y9q Xi (zYq 1 Y ?_));obtain rfl:i=l.length:=by omega
  rw[List.drop_of_length_le Xk] at hy;exact jTq (.inl rfl) rfl hy
structure OkC(c:Ch):Prop where
 body:∀x∈c.links,BodOk x.ds x.xs
 nodes:c.tree.nodes.length<=4611686018427387903
 len:c.links.length<=4611686018427387903
 recs:∀x∈c.links,x.rs.length<=4611686018427387903
theorem prev_hd(l:List Lk)(i:Nat):∃h r b s,prevW l i= .agg 102 [hdW h,r,b,s]/\(purL [hdW h,r,b,s]=true)/\∀z,0<i->l[i-1]? =some z->h=z.hdr:=by
 cases i with
 |zero=>exact⟨hdZ,_,_,_,rfl,prev_pur l 0,λz h=>absurd h Xo⟩
 |succ i=>
  cases hz:l[i]? with
  |none=>exact⟨hdZ,_,_,_,by show lkA l i=_;unfold lkA;rw[hz];rfl,lkZ_pur,λz _ h=>by rw[Nat.add_sub_cancel,hz] at h;cases h⟩
  |some x=>exact⟨x.hdr,_,_,_,by show lkA l i=_;unfold lkA;rw[hz];rfl,lkG_pur x,λz _ h=>by rw[Nat.add_sub_cancel,hz] at h;cases h;rfl⟩
theorem vOq(c:Ch)(hc:OkC c):PS cfg glK 19 [chG c] (.int .i64 (if MayC c then 0 else 8)):=by
 have e:(c.links.map lkG).length=c.links.length:=List.length_map _;have hl:=hc.len;refine gI 11 Y (λR k0=>?_);refine gZ 0 Y e ?_;refine gD 0 Y (λh1=>?_) (λh1=>?_)
 ·have hno:¬MayC c:=λq=>by have:=q.one;omega
  exact gQ 31 Y Ye
 obtain⟨z,hz⟩:∃z,c.links[c.links.length-1]? =some z:=⟨_,List.getElem?_eq_getElem Xd⟩
 refine gZ 3 Y e ?_;refine gD 0 Y (λh2=>?_) (λh2=>?_)
 ·have hno:¬MayC c:=λq=>by have:=q.len;omega
  exact gQ 26 Y Ye
 refine gZ 9 Y e ?_;refine gA 0 Y (c.links.length-1) ?_;refine gP 0 Y (zAq (i:=c.links.length-1) Y Y Y Y Y Y Y (zzq lkG hz)) ?_;refine gU 2 Y ?_;refine gS 3 Y (λh3=>?_) (λh3=>?_)
 ·have hno:¬MayC c:=λq=>h3 (q.root z hz)
  exact gQ 7 Y Ye
 refine gC 13 Y (ceach_s _ _) ?_;refine zfq 3 Y ?_;refine co_rangeG (encL c.links) (List.range c.links.length) (λi (a:Nat)=>a=i/\∀j x,j<i->c.links[j]? =some x->LkM c j x) (λa=>[(2,3,.int .i64 (a:Int)),(1,34,.int .i64 0),(0,27,chG c)]) (λ_=>R) (0) rfl Xj (ceach_it c.links false hc.len) (encL_ok c.links) (⟨rfl,λj x h=>by omega⟩) Y Y (λi a y hy hI=>?_) (λa hI=>?_)
 ·obtain⟨rfl,hI⟩:=hI;have hi:a<c.links.length:=by have:=vnq hy;simpa using this
  obtain rfl:a=y:=by rw[range_at hi] at hy;exact Option.some.inj hy
  obtain⟨x,hx⟩:∃x,c.links[a]? =some x:=⟨_,List.getElem?_eq_getElem hi⟩
  obtain⟨ph,pr,pb,ps,hp,hpu,hph⟩:=prev_hd c.links a;have hpu:purW (.agg 102 [hdW ph,pr,pb,ps])=true:=hpu;rw[show encL c.links a=[lkG x,.agg 102 [hdW ph,pr,pb,ps]] by unfold encL;rw[lkA_at hx,hp]];have hB:=hc.body x (List.mem_of_getElem? hx);have er:(x.rs.map rcW).length=x.rs.length:=List.length_map _;refine z2q 10 Y ?_;refine ZWq ?_;refine z2q 15 Y ?_;refine gD 0 Y (λh4=>?_) (λh4=>?_)
  ·have hno:¬MayC c:=λq=>h4 (q.link a x hx).height
   refine zfq 50 Y ?_;refine jgq Xi ?_;refine zYq 2 Y ?_;exact gQ 0 Y Ye
  refine gC 2 Y (uqq x.hdr) ?_;refine gD 0 Y (λh5=>?_) (λh5=>?_)
  ·have hno:¬MayC c:=λq=>h5 (by rw[if_pos (q.link a x hx).hdr])
   refine zfq 46 Y ?_;refine jgq Xi ?_;refine zYq 2 Y ?_;exact gQ 0 Y Ye
  have hok:okH x.hdr:=Classical.byContradiction λq=>h5 (by rw[if_neg q];decide)
  refine gD 3 Y (λh6=>?_) (λh6=>?_)
  ·refine gC 4 Y (hfollows_d x.hdr ph) ?_;refine gB 0 Y (λh7=>?_) (λh7=>?_)
   ·have hF:0<a->∀w,c.links[a-1]? =some w->FolB x.hdr w.hdr:=λh0 w hw=>hph w h0 hw▸h7
    refine gZ 6 Y er ?_;refine gD 2 Y (λh8=>?_) (λh8=>?_)
    ·have hno:¬MayC c:=λq=>h8 (q.link a x hx).recs
     refine zfq 27 Y ?_;refine jgq Xi ?_;refine zYq 2 Y ?_;exact gQ 0 Y Ye
    refine gC 4 Y (cbody_s x.ds x.xs false false hB.tx hB.dl hB.xl) ?_;refine gB 0 Y (λh9=>?_) (λh9=>?_)
    ·refine gC 7 Y (ver_s c.tree x.root) ?_;refine gC 0 Y (xAq (verT c x.root) hc.nodes) ?_;refine gU 0 Y ?_;refine gS 3 Y (λh10=>?_) (λh10=>?_)
     ·have hno:¬MayC c:=λq=>h10 (by rw[if_pos (q.link a x hx).tree])
      refine zfq 8 Y ?_;refine jgq Xi ?_;refine zYq 2 Y ?_;exact gQ 0 Y Ye
     ·have hA:MayA (verT c x.root):=Classical.byContradiction λq=>h10 (by rw[if_neg q];decide)
      have hx2:LkM c a x:=⟨by omega,hok,λw h0 hw=>hF h0 w hw,by omega,h9,hA⟩;refine gWr 4 Y ?_;refine zfq 3 Y ?_;exact q_roundK (a+1) (⟨rfl,λj w hj hw=>by rcases Nat.lt_succ_iff_lt_or_eq.1 hj with q|rfl;exact hI j w q hw;exact Option.some.inj (hx.symm.trans hw)▸hx2⟩) Xd Xh Yf rfl
    ·have hno:¬MayC c:=λq=>h9 (q.link a x hx).body
     refine zfq 22 Y ?_;refine jgq Xi ?_;refine zYq 2 Y ?_;exact gQ 0 Y Ye
   ·have hno:¬MayC c:=λq=>by
     obtain⟨w,hw⟩:∃w,c.links[a-1]? =some w:=⟨_,List.getElem?_eq_getElem Xd⟩
     exact h7 (hph w Xd hw▸(q.link a x hx).fol w Xd hw)
    refine zfq 37 Y ?_;refine jgq Xi ?_;refine zYq 2 Y ?_;exact gQ 0 Y Ye
  ·have hF:0<a->∀w,c.links[a-1]? =some w->FolB x.hdr w.hdr:=λh0=>absurd h0 Xd
   refine gZ 11 Y er ?_;refine gD 2 Y (λh7=>?_) (λh7=>?_)
   ·have hno:¬MayC c:=λq=>h7 (q.link a x hx).recs
    refine zfq 27 Y ?_;refine jgq Xi ?_;refine zYq 2 Y ?_;exact gQ 0 Y Ye
   refine gC 4 Y (cbody_s x.ds x.xs false false hB.tx hB.dl hB.xl) ?_;refine gB 0 Y (λh8=>?_) (λh8=>?_)
   ·refine gC 7 Y (ver_s c.tree x.root) ?_;refine gC 0 Y (xAq (verT c x.root) hc.nodes) ?_;refine gU 0 Y ?_;refine gS 3 Y (λh9=>?_) (λh9=>?_)
    ·have hno:¬MayC c:=λq=>h9 (by rw[if_pos (q.link a x hx).tree])
     refine zfq 8 Y ?_;refine jgq Xi ?_;refine zYq 2 Y ?_;exact gQ 0 Y Ye
    ·have hA:MayA (verT c x.root):=Classical.byContradiction λq=>h9 (by rw[if_neg q];decide)
     have hx2:LkM c a x:=⟨by omega,hok,λw h0 hw=>hF h0 w hw,by omega,h8,hA⟩;refine gWr 4 Y ?_;refine zfq 3 Y ?_;exact q_roundK (a+1) (⟨rfl,λj w hj hw=>by rcases Nat.lt_succ_iff_lt_or_eq.1 hj with q|rfl;exact hI j w q hw;exact Option.some.inj (hx.symm.trans hw)▸hx2⟩) Xd Xh Yf rfl
   ·have hno:¬MayC c:=λq=>h8 (q.link a x hx).body
    refine zfq 22 Y ?_;refine jgq Xi ?_;refine zYq 2 Y ?_;exact gQ 0 Y Ye
 ·obtain⟨rfl,hI⟩:=hI;have yes:MayC c:=⟨by omega,by omega,λw hw=>by cases hz.symm.trans hw;omega,λj w hw=>hI j w (by have:=vnq hw;simpa using this) hw⟩;refine zYq 8 Y ?_;exact gQ 0 Y Qj
structure SmallC(c:Ch):Prop where
 nodes:c.tree.nodes.length<=1000000
 vals:∀x∈c.tree.nodes,x.val.length<=70368744177664
 len:c.links.length<=1000000
 link:∀x∈c.links,x.ds.length<=1000000/\x.xs.length<=1000000/\x.rs.length<=1000000
def uKq(c:Ch)(n:Nat):Prop:=YAq c.tree 900\/n<c.links.length\/∃x∈c.links,yBq x.ds x.xs\/40<x.rs.length
noncomputable instance(c:Ch)(n:Nat):Decidable (uKq c n):=Classical.propDecidable _
theorem greatc_s(c:Ch)(n:Nat)(hb:c.tree.nodes.length<=4611686018427387903)(hl:c.links.length<=4611686018427387903):PS cfg G 9 [chG c,.int .i64 (n:Int)] (.bool (decide (uKq c n))):=by
 have e:(c.links.map lkG).length=c.links.length:=List.length_map _;by_cases hg:YAq c.tree 900
 ·skip
  exact gI 11 Y (λR k0=>gC 0 Y (yfq (w':=.bool true) (great_s c.tree 900 hb Xd) (by rw[decide_eq_true (hg)])) (gQ 17 Y (dec_t (.inl hg))))
 refine gI 11 Y (λR k0=>gC 0 Y (yfq (w':=.bool false) (great_s c.tree 900 hb Xd) (by rw[decide_eq_false (hg)])) (gZ 3 Y e (gU 1 Y ?_)));refine gS 3 Y (λh1=>?_) (λh1=>?_)
 ·exact gQ 7 Y (dec_t (.inr (.inl Xd)))
 refine gLo (α:=Nat) 9 (λi=>i<=c.links.length/\∀j x,j<i->c.links[j]? =some x->¬(yBq x.ds x.xs\/40<x.rs.length)) (λi=>[(5,.int .i64 (i:Int))]) [2,4] (λi=>c.links.length-i) (0) rfl (⟨Nat.zero_le _,λj x h=>by omega⟩) (λi hI=>?_);obtain⟨g1,g2⟩:=hI;refine gZ 6 Y e ?_;refine gS 3 Y (λh2=>?_) (λh2=>?_)
 ·have hi:i<c.links.length:=by omega
  obtain⟨x,hx⟩:∃x,c.links[i]? =some x:=⟨_,List.getElem?_eq_getElem hi⟩
  have er:(x.rs.map rcW).length=x.rs.length:=List.length_map _;refine gP 9 Y (zAq (i:=i) Y Y Y Y Y Y Y (zzq lkG hx)) (gC 2 Y (great16_s x.ds x.xs false false) ?_);refine gB 0 Y (λh3=>?_) (λh3=>?_)
  ·exact gO 21 Y (gQ 2 Y (dec_t (.inr (.inr ⟨x,List.mem_of_getElem? hx,.inl h3⟩))))
  ·refine gP 4 Y (zAq (i:=i) Y Y Y Y Y Y Y (zzq lkG hx)) (gZ 2 Y er (gU 0 Y ?_));refine gS 3 Y (λh4=>?_) (λh4=>?_)
   ·exact gO 8 Y (gQ 2 Y (dec_t (.inr (.inr ⟨x,List.mem_of_getElem? hx,.inr Xd⟩))))
   ·exact gA 5 Y (i+1) (gAg 2 Y (i+1) (⟨hi,λj y hj hy=>by rcases Nat.lt_succ_iff_lt_or_eq.1 hj with q|rfl;exact g2 j y q hy;exact Option.some.inj (hx.symm.trans hy)▸λq=>q.elim h3 Xd⟩) Xd)
 ·have no:¬uKq c n:=by
   rintro(q|q|⟨x,hx,q⟩)
   ·exact hg q
   ·omega
   ·obtain⟨j,hj⟩:=List.getElem?_of_mem hx;exact g2 j x (by have:=vnq hj;omega) hj q
  exact gO 2 Y (gQ 8 Y (qYq no))
theorem greatv_s(v:Vw)(n:Nat)(hb:v.ch.tree.nodes.length<=4611686018427387903)(hl:v.ch.links.length<=4611686018427387903):PS cfg G 33 [vwG v,.int .i64 (n:Int)] (.bool (decide (uKq v.ch n))):=by
 exact gI 11 Y (λR k0=>gC 0 Y (greatc_s v.ch n hb hl) (gQa 4 Y))
theorem greatc_no{c:Ch}{n:Nat}(h:¬uKq c n):c.tree.nodes.length<=900/\c.links.length<=n/\∀x∈c.links,¬yBq x.ds x.xs/\x.rs.length<=40:=
 ⟨Nat.le_of_not_lt λq=>h (.inl (.inl q)),Nat.le_of_not_lt λq=>h (.inr (.inl q)),λx hx=>⟨λq=>h (.inr (.inr ⟨x,hx,.inl q⟩)),Nat.le_of_not_lt λq=>h (.inr (.inr ⟨x,hx,.inr q⟩))⟩⟩
theorem SmallC.vl{c:Ch}(h:SmallC c):c.tree.nodes.length<=1000000000:=by have:=h.nodes;omega
theorem chead_s(c:Ch)(hc:OkC c)(h:MayC c){y:Lk}(hy:c.links[c.links.length-1]? =some y):PS cfg glK 11 [chG c] (.tup [hdW y.hdr,.int .i64 0]):=by
 have e:(c.links.map lkG).length=c.links.length:=List.length_map _;have h1:=h.one;have hl:=hc.len;exact gI 11 Y (λR k0=>gC 0 Y (yfq (w':=.int .i64 0) (vOq c hc) (by rw[if_pos h])) (gFa 6 Y (gZ 11 Y e (gA 0 Y (c.links.length-1) (gP 0 Y (zAq (i:=c.links.length-1) Y Y Y Y Y Y Y (zzq lkG hy)) (gQa 7 Y))))))
theorem cstate_s(c:Ch)(hc:OkC c)(hs:SmallC c)(i:Nat)(hm:MayC c){x:Lk}(hx:c.links[i]? =some x):PS cfg glK 13 [chG c,.int .i64 (i:Int)] (.tup [tW (verT c x.root),.int .i64 0]):=by
 have e:(c.links.map lkG).length=c.links.length:=List.length_map _;have hi:=vnq hx;refine gI 12 Y (λR k0=>gC 0 Y (yfq (w':=.int .i64 0) (vOq c hc) Yr) (gFa 0 Y (gF 7 Y (ltI_not.2 Xd) (gZ 4 Y e (gF 0 Y (congrArg not (ltI_iff.2 Xd)) (gP 15 Y (zAq (i:=i) Y Y Y Y Y Y Y (zzq lkG hx)) (gC 2 Y (ver_s c.tree x.root) ?_)))))));first|refine gC 0 Y (twinp_s (verT c x.root) hs.vl hs.vals) ?_|refine gC 0 Y (twinp_s c.tree hs.vl hs.vals) ?_
 exact gQa 5 Y
end
section
attribute [local irreducible] CoW OpW FlW Step Spec
attribute [local simp] xsq
open Classical in
noncomputable def heldL(t:Tree):List Pr:=if h:∃n t0,IsA t n t0 then h.choose_spec.choose.all else []
structure CanAdd(c:Ch)(ds:List Depo)(xs:List Tx)(box:Dig):Prop where
 may:MayC c
 short:c.links.length<256
 many:ds.length<=16/\xs.length<=16
 goes:doX box (doD (heldL c.tree) ds).1 xs≠none
noncomputable instance(c:Ch)(ds:List Depo)(xs:List Tx)(box:Dig):Decidable (CanAdd c ds xs box):=Classical.propDecidable _
end
section
attribute [local irreducible] CoW OpW FlW Step Spec
variable {G:Nat->Option W}
def HeldB(ps:List Pr):Prop:=∀p∈ps,(qmq p.2).2=0
noncomputable instance(ps:List Pr):Decidable (HeldB ps):=Classical.propDecidable _
theorem rheld_s(ps:List Pr)(f:Bool)(hb:ps.length<=1000000000):PS cfg G 198 [.fz (ps.map pW) 33 f] (.bool (decide (HeldB ps))):=by
 have e:(ps.map pW).length=ps.length:=List.length_map _;refine gI 12 Y (λR k0=>?_);refine gLo (α:=Nat) 0 (λi=>i<=ps.length/\∀j x,j<i->ps[j]? =some x->(qmq x.2).2=0) (λi=>[(3,.int .i64 (i:Int))]) [0,2] (λi=>ps.length-i) (0) rfl (⟨Nat.zero_le _,λj x h=>by omega⟩) (λi hI=>?_);obtain⟨g1,g2⟩:=hI;refine gV (w':=.int .i64 (ps.length:Int)) 5 Y Xw ?_;refine gS 3 Y (λh1=>?_) (λh1=>?_)
 ·have hi:i<ps.length:=by omega
  obtain⟨x,hx⟩:∃x,ps[i]? =some x:=⟨_,List.getElem?_eq_getElem hi⟩
  refine gP 8 Y (zAq (i:=i) Y Y Y Y Y Y Y (zzq pW hx)) (gC 2 Y (raread_s _ _) ?_);refine gS 14 Y (λh2=>?_) (λh2=>?_)
  ·refine gO 8 Y (zfq 2 Y ?_);have hno:¬HeldB ps:=λh=>by have:=h x (List.mem_of_getElem? hx);omega
   exact gQ 0 Y Yy
  ·have h0:(qmq x.2).2=0:=by omega
   exact gA 5 Y (i+1) (gAg 2 Y (i+1) (⟨hi,λj y hj hy=>by rcases Nat.lt_succ_iff_lt_or_eq.1 hj with q|rfl;exact g2 j y q hy;have:=Option.some.inj (hx.symm.trans hy);subst this;exact h0⟩) Xd)
 ·refine gO 2 Y (zfq 8 Y ?_)
  have yes:HeldB ps:=λp hp=>by
   obtain⟨j,hj⟩:=List.getElem?_of_mem hp;have:=(List.getElem?_eq_some_iff.1 hj).1;exact g2 j p Xd hj
  exact gQ 0 Y (by rw[decide_eq_true yes])
theorem mayA_iff{t:Tree}{n:Nat}{t0:T}(h:IsT t n t0):MayA t↔HeldB t0.all:=by
 constructor
 ·rintro⟨n',t',h'⟩;have hn:n=n':=by have:=h.root;have:=h'.root;omega
  subst hn;rw[h.rep.uniq h'.rep];exact h'.held
 ·exact λq=>⟨n,t0,h,q⟩
theorem mayA_T{t:Tree}(h:MayA t):MayT t:=by obtain⟨n,t0,h⟩:=h;exact h.toIsT.may
theorem ramay_s(t:Tree)(hb:t.nodes.length<=4611686018427387903):PS cfg G 110 [tW t] (.bool (decide (MayA t))):=by
 by_cases hT:MayT t
 ·obtain⟨n,t0,h⟩:=may_is hT;have hl:t0.all.length<=1000000000:=by have:=h.all_le;have:=h.len;omega
  have h2:decide (MayA t)=decide (HeldB t0.all):=decide_eq_decide.2 (mayA_iff h);rw[h2];refine gI 9 Y (λR k0=>gC 0 Y (yfq (w':=.bool true) (rmay_s t hb) (by rw[decide_eq_true hT])) ?_);refine gB 0 Y (λh1=>?_) (λh1=>?_)
  ·exact gC 2 Y (rall_s t n t0 h) (gC 0 Y (rheld_s _ _ Xq) (gQa 5 Y))
  ·exfalso;exact h1 rfl
 ·have h2:decide (MayA t)=false:=decide_eq_false λh=>hT (mayA_T h)
  rw[h2];refine gI 9 Y (λR k0=>gC 0 Y (yfq (w':=.bool false) (rmay_s t hb) (by rw[decide_eq_false hT])) ?_);refine gB 0 Y (λh1=>?_) (λh1=>?_)
  ·exfalso;cases h1
  ·exact gQa 9 Y
theorem idx_find(k:Dig):∀ps:List Pr,(∃(i:Nat) (x:Pr),ps[i]? =some x/\idxP ps k=i/\uvq ps k=some x.2)\/(idxP ps k=-1/\uvq ps k=none)
 |[]=>.inr ⟨rfl,rfl⟩
 | p ::ps=>by
  by_cases e:p.1=k
  ·refine .inl ⟨0,p,rfl,?_,?_⟩
   ·simp[idxP,List.findIdx?_cons,e]
   ·simp[uvq,e]
  ·rcases idx_find k ps with ⟨i,x,h1,h2,h3⟩|⟨h1,h2⟩
   ·refine .inl ⟨i+1,x,by simpa using h1,?_,?_⟩
    ·unfold idxP at h2⊢;rw[List.findIdx?_cons];simp only[e,decide_false,Bool.false_eq_true,if_false];cases hq:ps.findIdx? (λp=>decide (p.1=k)) with
     |none=>rw[hq] at h2;exfalso;simp only at h2;omega
     |some j=>rw[hq] at h2;simp only[Option.map_some] at h2⊢;omega
    ·rw[<-h3];simp[uvq,e]
   ·refine .inr ⟨?_,?_⟩
    ·unfold idxP at h1⊢;rw[List.findIdx?_cons];simp only[e,decide_false,Bool.false_eq_true,if_false];cases hq:ps.findIdx? (λp=>decide (p.1=k)) with
     |none=>rfl
     |some j=>rw[hq] at h1;simp only at h1;omega
    ·rw[<-h2];simp[uvq,e]
def inA(ps:List Pr)(k:Dig):Acct:=match uvq ps k with
 |some v=>(qmq v).1
 |none=>.zero
theorem rin_s(ps:List Pr)(f:Bool)(k:Dig)(hb:ps.length<=1000000000):PS cfg G 205 [.fz (ps.map pW) 33 f,dW k] (aW (inA ps k)):=by
 rcases idx_find k ps with ⟨i,x,q1,q2,q3⟩|⟨q1,q2⟩
 ·have e:inA ps k=(qmq x.2).1:=by unfold inA;rw[q3]
  have hi:=(List.getElem?_eq_some_iff.1 q1).1;rw[e];refine gI 10 Y (λR k0=>gC 0 Y (yfq (w':=.int .i64 (i:Int)) (rfind_s ps f k hb) (by rw[q2])) ?_);refine gS 10 Y (λh1=>?_) (λh1=>?_)
  ·exfalso;omega
  ·exact gP 6 Y (zAq (i:=i) Y Y Y Y Y Y Y (zzq pW q1)) (gC 2 Y (raread_s _ _) (gQa 15 Y))
 ·have e:inA ps k= .zero:=by unfold inA;rw[q2]
  rw[e];refine gI 10 Y (λR k0=>gC 0 Y (yfq (w':=.int .i64 (-1)) (rfind_s ps f k hb) (by rw[q1])) ?_);refine gS 10 Y (λh1=>?_) (λh1=>?_)
  ·exact gQa 8 Y
  ·exfalso;omega
def okB(l:List Pr):Prop:=MayP l/\HeldB l
noncomputable instance(l:List Pr):Decidable (okB l):=Classical.propDecidable _
end
section
attribute [local irreducible] CoW OpW FlW Step Spec
theorem greatc_small{c:Ch}{n:Nat}(hn:n<=1000)(h:¬uKq c n):SmallC c:=by
 obtain⟨h1,h2,h3⟩:=greatc_no h;refine⟨by omega,λx hx=>?_,by omega,λx hx=>?_⟩
 ·obtain⟨j,hj⟩:=List.getElem?_of_mem hx;have:=vnq hj;refine Nat.le_of_not_lt λq=>h (.inl (.inr ⟨j,x,by omega,hj,by omega⟩))
 ·obtain⟨k1,k2⟩:=h3 x hx;unfold yBq at k1;omega
end
section
attribute [local irreducible] CoW OpW FlW Step Spec
variable {G:Nat->Option W}
def SameK(x y:Lk):Prop:=x.hdr=y.hdr/\(x.ds=y.ds/\x.xs=y.xs)/\x.rs=y.rs
noncomputable instance(x y:Lk):Decidable (SameK x y):=Classical.propDecidable _
end
section
attribute [local irreducible] CoW OpW FlW Step Spec
def MayV(v:Vw):Prop:=MayC v.ch/\(0<=v.final/\v.final<(v.ch.links.length:Int)/\0<=v.number/\v.number<=1073741823)
noncomputable instance(v:Vw):Decidable (MayV v):=Classical.propDecidable _
theorem qOq(v:Vw)(hc:OkC v.ch):PS cfg glK 59 [vwG v] (.int .i64 (if MayV v then 0 else 8)):=by
 have e:(v.ch.links.map lkG).length=v.ch.links.length:=List.length_map _;by_cases hm:MayC v.ch
 ·skip
  refine gI 11 Y (λR k0=>gC 0 Y (yfq (w':=.int .i64 0) (vOq v.ch hc) Yr) (gFa 0 Y ?_));refine gD 3 Y (λh1=>?_) (λh1=>?_)
  ·exact gQ 30 Y Xv
  ·refine gZ 7 Y e ?_;refine gD 0 Y (λh2=>?_) (λh2=>?_)
   ·exact gQ 21 Y Xv
   ·refine gD 4 Y (λh3=>?_) (λh3=>?_)
    ·exact gQ 16 Y Xv
    ·refine gU 4 Y ?_;refine gS 3 Y (λh4=>?_) (λh4=>?_)
     ·exact gQ 7 Y Xv
     ·exact gQ 8 Y Xv
 ·skip
  exact gI 11 Y (λR k0=>gC 0 Y (yfq (w':=.int .i64 8) (vOq v.ch hc) (by rw[if_neg hm])) (gTa 0 Y (gQ 34 Y (by rw[if_neg λq=>hm q.1]))))
end
section
attribute [local irreducible] CoW OpW FlW Step Spec
variable {G:Nat->Option W}
theorem acct_in{t:Tree}{n:Nat}{t0:T}(h:IsT t n t0)(k:Dig):uIq t0 k=inA t0.all k:=by
 unfold uIq inA;rw[uuq k YBq h.ok];cases uvq t0.all k<;>rfl
theorem tx_sub(x:Tx):yqq 50 (txW x) 0 32 1=some (zbq x.pub.1)/\yqq 50 (txW x) 32 32 1=some (zbq x.to.1):=by
 have h:∀d:Dig,(zbq d.1).length=32:=λd=>by rw[zdq,d.2]
 constructor
 ·show some (((zbq x.pub.1).drop (0/1)).take 32)=_;rw[show 0/1=0 from rfl,List.drop_zero,List.take_of_length_le (by rw[h];omega)]
 ·show some (((zbq x.to.1).drop (0/1)).take 32)=_;rw[show 0/1=0 from rfl,List.drop_zero,List.take_of_length_le (by rw[h];omega)]
theorem rbody_s(x:Tx)(hx:x.ok):PS cfg G 278 [txW x] (bW (jmq x)):=by
 have h1:=hx.nonce;have h2:=hx.amount;have h3:=hx.fee;have l1:(zbq x.pub.1).length=32:=by rw[zdq,x.pub.2]
 have l2:(zbq x.to.1).length=32:=by rw[zdq,x.to.2]
 have n1:(zbq (beB 8 x.nonce)).length=8:=by rw[zdq,qjq]
 have n2:(zbq (beB 8 x.amount)).length=8:=by rw[zdq,qjq]
 have n3:(zbq (beB 8 x.fee)).length=8:=by rw[zdq,qjq]
 have eb:zbq (jmq x)=(((zbq x.pub.1++zbq x.to.1)++zbq (beB 8 x.nonce))++zbq (beB 8 x.amount))++zbq (beB 8 x.fee):=by simp[jmq,zbq]
 refine gIv 16 Y (λR k0=>gM 0 Y (yGq Y Y (x3q (k:=ti5) (news:=zbq x.pub.1) Y Y Y Y (yZq Y Y Y (tx_sub x).1) (by intro h;rw[h] at l1;cases l1) (by rw[l1];decide) (by rw[l1];decide))) (gM 8 Y (yGq Y Y (qLq (k:=ti5) (len:=(zbq x.pub.1).length) (news:=zbq x.to.1) (olds:=zbq x.pub.1) Y Y Y Y (yZq Y Y Y (tx_sub x).2) (by intro h;rw[h] at l2;cases l2) (by rw[l1,l2];decide) (by rw[l1,l2];decide) rfl (by show(zbq x.pub.1).length*1<0+(_+_)*1;rw[l1,l2];decide) rfl (zpq Xo Y Y))) (zfq 7 Y ?_)))
 ((refine ysq rfl (j4q Y Y Y Y Y Y (jzq _ 8 Xq Xd) ?_);rintro w hp1 nw1 ⟨rfl,rfl,rfl⟩))
 refine zJq 11 Y ?_
 ((refine ysq rfl (j4q Y Y Y Y Y Y (jzq _ 8 Xq Xd) ?_);rintro w hp1 nw1 ⟨rfl,rfl,rfl⟩))
 refine zJq 11 Y ?_
 ((refine ysq rfl (j4q Y Y Y Y Y Y (jzq _ 8 Xq Xd) ?_);rintro w hp1 nw1 ⟨rfl,rfl,rfl⟩))
 exact zJq 11 Y (gM 0 Y (yGq Y Y (qLq (k:=ti5) (len:=(zbq x.pub.1).length+(zbq x.to.1).length) (news:=zbq (beB 8 x.nonce)) (olds:=zbq x.pub.1++zbq x.to.1) Y Y Y Y (yZq Y Y Y (zpq Xo n1.symm rfl)) (by intro h;rw[h] at n1;cases n1) (by rw[l1,l2,n1];decide) (by rw[l1,l2,n1];decide) rfl (by show(_+_)*1<0+(_+_)*1;rw[l1,l2,n1];decide) rfl (zpq Xo List.length_append.symm rfl))) (gM 7 Y (yGq Y Y (qLq (k:=ti5) (len:=(zbq x.pub.1).length+(zbq x.to.1).length+(zbq (beB 8 x.nonce)).length) (news:=zbq (beB 8 x.amount)) (olds:=(zbq x.pub.1++zbq x.to.1)++zbq (beB 8 x.nonce)) Y Y Y Y (yZq Y Y Y (zpq Xo n2.symm rfl)) (by intro h;rw[h] at n2;cases n2) (by rw[l1,l2,n1,n2];decide) (by rw[l1,l2,n1,n2];decide) rfl (by show(_+_)*1<0+(_+_)*1;rw[l1,l2,n1,n2];decide) rfl (zpq Xo (by rw[List.length_append,List.length_append]) rfl))) (gM 7 Y (yGq Y Y (qLq (k:=ti5) (len:=(zbq x.pub.1).length+(zbq x.to.1).length+(zbq (beB 8 x.nonce)).length+(zbq (beB 8 x.amount)).length) (news:=zbq (beB 8 x.fee)) (olds:=((zbq x.pub.1++zbq x.to.1)++zbq (beB 8 x.nonce))++zbq (beB 8 x.amount)) Y Y Y Y (yZq Y Y Y (zpq Xo n3.symm rfl)) (by intro h;rw[h] at n3;cases n3) (by rw[l1,l2,n1,n2,n3];decide) (by rw[l1,l2,n1,n2,n3];decide) rfl (by show(_+_)*1<0+(_+_)*1;rw[l1,l2,n1,n2,n3];decide) rfl (zpq Xo (by rw[List.length_append,List.length_append,List.length_append]) rfl))) (zfq 4 Y (yzq Qn Y (.sl (full:=false) (xs:=zbq (jmq x)) rfl (show purL ((((zbq x.pub.1++zbq x.to.1)++zbq (beB 8 x.nonce))++zbq (beB 8 x.amount))++zbq (beB 8 x.fee))=true by rw[<-eb];simp) (by rw[eb,l1,l2,n1,n2,n3];exact zpq Xo (by simp[l1,l2,n1,n2,n3]) rfl) Xi))))))
theorem rtxcheck_s(x:Tx)(hx:x.ok):PS cfg G 200 [txW x] (.int .i64 (if x.sign=kRq x then 0 else 110)):=by
 have hb:=Qiq x;refine ps_in (fn:=Tryz.f200) Y Y Y (Yb rfl) (λR k0=>?_);by_cases h:x.sign=kRq x
 ·rw[if_pos h];skip
  exact z2q 12 Y (gC 0 Y (rbody_s x hx) (gC 0 Y (rtone_s 4 (jmq x) Xd) (fl_val (w':=.bool false) rfl (x2q Y Y Y Y (qfq Y Y Y Y Y Y x.sign (kRq x) 250)) (by rw[decide_eq_true h];rfl) (qoq 11 Y (gQa 0 Y)))))
 ·rw[if_neg h];exact z2q 12 Y (gC 0 Y (rbody_s x hx) (gC 0 Y (rtone_s 4 (jmq x) Xd) (fl_val (w':=.bool true) rfl (x2q Y Y Y Y (qfq Y Y Y Y Y Y x.sign (kRq x) 250)) (by rw[decide_eq_false h];rfl) (qoq 10 Y (gQa 0 Y)))))
theorem rhof_s(h:Hdr)(hh:okH h):PS cfg G 212 [hdW h] (bW (hdB h)):=by
 obtain⟨i,p,s,r,j⟩:=h;obtain⟨h1,h2,h3,h4⟩:=hh;obtain⟨n,rfl⟩:=Int.eq_ofNat_of_zero_le h1;obtain⟨m,rfl⟩:=Int.eq_ofNat_of_zero_le h3;simp only at h2 h4;have e:hdB ⟨(n:Int),p,s,r,(m:Int)⟩=(((beB 8 n++p.1)++s.1)++r.1)++beB 4 m:=by simp[hdB]
 obtain⟨s1,s2,s3⟩:=hd_sub ⟨(n:Int),p,s,r,(m:Int)⟩;have l1:=p.2;have l2:=s.2;have l3:=r.2;have l4:=qjq 8 n;have l5:=qjq 4 m;have l6:(zbq (beB 4 m)).length=4:=by rw[zdq,l5]
 rw[e];refine gIv 10 Y (λR k0=>gA 0 Y (n) ?_)
 (refine ysq rfl (j4q Y Y Y Y Y Y (jzq n 8 Xd Xd) ?_);rintro w hp1 nw1 ⟨rfl,rfl,rfl⟩)
 refine zJq 11 Y (gA 0 Y (m) ?_)
 (refine ysq rfl (j4q Y Y Y Y Y Y (jzq m 4 Xd Xd) ?_);rintro w hp1 nw1 ⟨rfl,rfl,rfl⟩)
 exact zJq 12 Y (gM 0 Y (yGq Y Y (app_bs (k:=ti5) (L:=beB 8 n) (M:=p.1) Y Y Y Y Y Y (yZq Y Y Y s1) rfl l4 Xd Xd)) (gM 8 Y (yGq Y Y (app_bs (k:=ti5) (L:=beB 8 n++p.1) (M:=s.1) Y Y Y Y Y Y (yZq Y Y Y s2) Y Y Xd (by simp[l1,l2,l4]))) (gM 8 Y (yGq Y Y (app_bs (k:=ti5) (L:=(beB 8 n++p.1)++s.1) (M:=r.1) Y Y Y Y Y Y (yZq Y Y Y s3) Y Y Xd (by simp[l1,l2,l3,l4]))) (gM 7 Y (yGq Y Y (app_bs (k:=ti5) (L:=((beB 8 n++p.1)++s.1)++r.1) (M:=beB 4 m) Y Y Y Y Y Y (yZq Y Y Y (zpq Xo l6.symm rfl)) Y Y Xd (by simp[l1,l2,l3,l4,l5]))) (zfq 4 Y (yzq Qn rfl (.sl (full:=false) rfl Xk (zpq Xo (zdq _).symm rfl) Xi)))))))
theorem rhname_s(h:Hdr)(hh:okH h):PS cfg G 132 [hdW h] (dW (hashD h)):=by
 exact gI 9 Y (λR k0=>gC 0 Y (rhof_s h hh) (gC 0 Y (rtone_s 6 (hdB h) (by rw[hdB_len];omega)) (gQa 4 Y)))
theorem rhfol_s(h p:Hdr):PS cfg G 109 [hdW h,hdW p] (.bool (decide (FolB h p))):=by
 by_cases hh:okH h
 ·by_cases hp:okH p
  ·obtain⟨q1,q2,q3,q4⟩:=id hp;refine gI 10 Y (λR k0=>gC 0 Y (yfq (w':=.bool true) (uXq h) (by rw[decide_eq_true (hh)])) (gC 2 Y (yfq (w':=.bool true) (uXq p) (by rw[decide_eq_true (hp)])) (gWr 6 Y ?_)));refine gD 0 Y (λh1=>?_) (λh1=>?_)
   ·exact gC 5 Y (rhname_s p ⟨q1,q2,q3,q4⟩) (gUe 0 Y (y2q Y Y Y Y (qfq Y Y Y Y Y Y _ _ 250)) yvq (gQ 5 Y (dec_c ⟨λq=>⟨hh,hp,by simpa using h1,q⟩,λq=>q.2.2.2⟩)))
   ·exact gQ 12 Y (qYq λq=>h1 (by simpa using q.2.2.1))
  ·skip
   exact gI 10 Y (λR k0=>gC 0 Y (yfq (w':=.bool true) (uXq h) (by rw[decide_eq_true (hh)])) (gC 2 Y (yfq (w':=.bool false) (uXq p) (by rw[decide_eq_false (hp)])) (gQ 20 Y (qYq λq=>hp q.2.1))))
 ·skip
  exact gI 10 Y (λR k0=>gC 0 Y (yfq (w':=.bool false) (uXq h) (by rw[decide_eq_false (hh)])) (gQ 23 Y (qYq λq=>hh q.1)))
theorem rmbody_s(ds:List Depo)(xs:List Tx)(f g:Bool)(hx:∀x∈xs,x.ok)(hd:ds.length<=140737488351232)(hn:xs.length<=140737488351232):PS cfg G 108 [bodW ds xs f g] (.bool (decide (BodyM ds xs))):=by
 have e1:(ds.map pdW).length=ds.length:=List.length_map _;have e2:(xs.map txW).length=xs.length:=List.length_map _;refine gI 13 Y (λR k0=>?_);refine gLo (α:=Nat) 0 (λi=>i<=xs.length/\∀j x,j<i->xs[j]? =some x->x.sign=kRq x) (λi=>[(3,.int .i64 (i:Int))]) [1,2] (λi=>xs.length-i) (0) rfl (⟨Nat.zero_le _,λj x h=>by omega⟩) (λi hI=>?_);obtain⟨g1,g2⟩:=hI;refine gZ 6 Y e2 ?_;refine gS 3 Y (λh1=>?_) (λh1=>?_)
 ·obtain⟨x,hx1⟩:∃x,xs[i]? =some x:=⟨_,List.getElem?_eq_getElem Xd⟩
  refine gP 9 Y (zAq (i:=i) Y Y Y Y Y Y Y (zzq txW hx1)) ?_;refine gC 1 Y (rtxcheck_s x (hx x (List.mem_of_getElem? hx1))) ?_;refine gS 3 Y (λh2=>?_) (λh2=>?_)
  ·refine gO 8 Y ?_;exact gQ 2 Y (qYq λq=>h2 (by rw[if_pos (q.2.2 x (List.mem_of_getElem? hx1))]))
  ·have hs:x.sign=kRq x:=Classical.byContradiction λq=>h2 (by rw[if_neg q];decide)
   refine gA 5 Y (i+1) ?_;exact gAg 2 Y (i+1) (⟨by omega,λj y hj hy=>by rcases Nat.lt_succ_iff_lt_or_eq.1 hj with q|rfl;exact g2 j y q hy;exact Option.some.inj (hx1.symm.trans hy)▸hs⟩) Xd
 ·have all:∀x∈xs,x.sign=kRq x:=λx h=>by
   obtain⟨j,hj⟩:=List.getElem?_of_mem h;exact g2 j x (by have:=vnq hj;omega) hj
  refine gO 2 Y ?_;refine gZ 6 Y e1 ?_;refine gD 0 Y (λh2=>?_) (λh2=>?_)
  ·refine gZ 3 Y e2 ?_;refine gU 0 Y ?_;exact gQ 5 Y (congrArg W.bool (by first|exact decide_eq_decide.2 ⟨λq=>⟨by omega,by omega,all⟩,λq=>by have:=q.2.1;omega⟩|(by_cases q:xs.length<=16; · rw[decide_eq_true (show BodyM ds xs from⟨by omega,q,all⟩),ltI_not.2 Xd];rfl; · rw[decide_eq_false (show¬BodyM ds xs from λh=>q h.2.1),ltI_iff.2 Xd];rfl)))
  ·exact gQ 10 Y (qYq λq=>by have:=q.1;omega)
theorem YMq(c:Ch)(i:Nat)(x:Lk)(hx:c.links[i]? =some x):PS cfg G 76 [chG c,.int .i64 (i:Int)] (tW (verT c x.root)):=by
 exact gI 19 Y (λR k0=>gP 0 Y (zAq (i:=i) Y Y Y Y Y Y Y (zzq lkG hx)) (gQa 13 Y))
theorem at_prev{α:Type}{l:List α}{i:Nat}(h:i<l.length)(h0:0<i):∃y,l[i-1]? =some y:=⟨_,List.getElem?_eq_getElem Xd⟩
theorem rcmay_s(c:Ch)(hc:OkC c):PS cfg G 31 [chG c] (.bool (decide (MayC c))):=by
 have e:(c.links.map lkG).length=c.links.length:=List.length_map _;have hl:=hc.len;refine gI 10 Y (λR k0=>gZ 0 Y e ?_);refine gD 7 Y (λh1=>?_) (λh1=>?_)
 ·have hno:¬MayC c:=λq=>by have:=q.one;omega
  exact gQ 27 Y (qYq hno)
 obtain⟨z,hz⟩:∃z,c.links[c.links.length-1]? =some z:=⟨_,List.getElem?_eq_getElem Xd⟩
 refine gD 2 Y (λh2=>?_) (λh2=>?_)
 ·have hno:¬MayC c:=λq=>by have:=q.len;omega
  exact gQ 24 Y (qYq hno)
 refine gA 8 Y (c.links.length-1) (gP 0 Y (zAq (i:=c.links.length-1) Y Y Y Y Y Y Y (zzq lkG hz)) (gU 2 Y ?_));refine gS 3 Y (λh3=>?_) (λh3=>?_)
 ·have hno:¬MayC c:=λq=>h3 (q.root z hz)
  exact gQ 7 Y (qYq hno)
 refine gLo (α:=Nat) 9 (λi=>i<=c.links.length/\∀j x,j<i->c.links[j]? =some x->LkM c j x) (λi=>[(4,.int .i64 (i:Int))]) [1,2,3] (λi=>c.links.length-i) (0) rfl (⟨Nat.zero_le _,λj x h=>by omega⟩) (λi hI=>?_);obtain⟨g1,hI⟩:=hI;refine gS 8 Y (λh4=>?_) (λh4=>?_)
 ·have hi:i<c.links.length:=by omega
  obtain⟨x,hx⟩:∃x,c.links[i]? =some x:=⟨_,List.getElem?_eq_getElem hi⟩
  have hB:=hc.body x (List.mem_of_getElem? hx);have er:(x.rs.map rcW).length=x.rs.length:=List.length_map _;refine gP 9 Y (zAq (i:=i) Y Y Y Y Y Y Y (zzq lkG hx)) ?_;refine gD 12 Y (λh5=>?_) (λh5=>?_)
  ·have hno:¬MayC c:=λq=>h5 (q.link i x hx).height
   exact gO 33 Y (gQ 2 Y (qYq hno))
  refine gC 3 Y (uXq x.hdr) ?_;refine gB 0 Y (λh6=>?_) (λh6=>?_)
  ·refine gZ 5 Y er ?_;refine gD 3 Y (λh7=>?_) (λh7=>?_)
   ·have hno:¬MayC c:=λq=>h7 (q.link i x hx).recs
    exact gO 19 Y (gQ 2 Y (qYq hno))
   ·refine gC 4 Y (rmbody_s x.ds x.xs false false hB.tx hB.dl hB.xl) ?_;refine gS 4 Y (λh8=>?_) (λh8=>?_)
    ·have hno:¬MayC c:=λq=>absurd h8 (by rw[decide_eq_true (q.link i x hx).body];decide)
     exact gO 9 Y (gQ 2 Y (qYq hno))
    ·have hok:okH x.hdr:=h6;have hM:BodyM x.ds x.xs:=by simpa using h8
     refine gD 5 Y (λh9=>?_) (λh9=>?_)
     ·obtain⟨y,hy⟩:=at_prev hi Xd;refine gA 6 Y (i-1) (gP 0 Y (zAq (i:=i-1) Y Y Y Y Y Y Y (zzq lkG hy)) (gC 2 Y (rhfol_s x.hdr y.hdr) ?_));refine gB 0 Y (λh10=>?_) (λh10=>?_)
      ·refine gC 5 Y (YMq c i x hx) (gC 0 Y (ramay_s (verT c x.root) hc.nodes) ?_);refine gS 4 Y (λh11=>?_) (λh11=>?_)
       ·have hno:¬MayC c:=λq=>absurd h11 (by rw[decide_eq_true (q.link i x hx).tree];decide)
        exact gO 8 Y (gQ 2 Y (qYq hno))
       ·have hx2:LkM c i x:=⟨by omega,hok,λw h0 hw=>Option.some.inj (hy.symm.trans hw)▸h10,by omega,hM,by simpa using h11⟩;exact gA 5 Y (i+1) (gAg 2 Y (i+1) (⟨hi,λj w hj hw=>by rcases Nat.lt_succ_iff_lt_or_eq.1 hj with q|rfl;exact hI j w q hw;exact Option.some.inj (hx.symm.trans hw)▸hx2⟩) Xd)
      ·have hno:¬MayC c:=λq=>h10 ((q.link i x hx).fol y Xd hy)
       exact gO 20 Y (gQ 2 Y (qYq hno))
     ·refine gC 16 Y (YMq c i x hx) (gC 0 Y (ramay_s (verT c x.root) hc.nodes) ?_);refine gS 4 Y (λh10=>?_) (λh10=>?_)
      ·have hno:¬MayC c:=λq=>absurd h10 (by rw[decide_eq_true (q.link i x hx).tree];decide)
       exact gO 8 Y (gQ 2 Y (qYq hno))
      ·have hx2:LkM c i x:=⟨by omega,hok,λw h0 hw=>absurd h0 Xd,by omega,hM,by simpa using h10⟩;exact gA 5 Y (i+1) (gAg 2 Y (i+1) (⟨hi,λj w hj hw=>by rcases Nat.lt_succ_iff_lt_or_eq.1 hj with q|rfl;exact hI j w q hw;exact Option.some.inj (hx.symm.trans hw)▸hx2⟩) Xd)
  ·have hno:¬MayC c:=λq=>h6 (q.link i x hx).hdr
   exact gO 29 Y (gQ 2 Y (qYq hno))
 ·have yes:MayC c:=⟨by omega,by omega,λw hw=>by cases hz.symm.trans hw;omega,λj w hw=>hI j w (by have:=vnq hw;omega) hw⟩;exact gO 2 Y (gQ 8 Y (dec_t yes))
end
section
attribute [local irreducible] CoW OpW FlW Step Spec
attribute [local simp] xsq
variable {G:Nat->Option W}
noncomputable def rrefW(c:Nat):W:=.tup [.nils,hdW hdZ,.nils,.int .i64 (c:Int)]
@[simp] theorem rrefW_pur(c:Nat):purW (rrefW c)=true:=by simp[rrefW,purW,purL]
structure PW where
 w:W
 pur:purW w=true
attribute [local simp] PW.pur
end
section
attribute [local irreducible] CoW OpW FlW Step Spec
variable {G:Nat->Option W}
theorem rcheld_s(c:Ch)(i:Nat)(x:Lk)(hx:c.links[i]? =some x)(n:Nat)(t0:T)(hA:IsT (verT c x.root) n t0):PS cfg G 91 [chG c,.int .i64 (i:Int)] (psW t0.all):=by
 exact gI 10 Y (λR k0=>gC 0 Y (YMq c i x hx) (gC 0 Y (rall_s (verT c x.root) n t0 hA) (gQa 4 Y)))
noncomputable instance(a b:Ch):Decidable (a=b):=Classical.propDecidable _
end
section
attribute [local irreducible] CoW OpW FlW Step Spec
def allR:Nat->List Lk->List (Nat×RcI)
 |_,[]=>[]
 |h,x::l=>x.rs.map (λr=>(h,r))++allR (h+1) l
theorem allR_at{l:List Lk}{i:Nat}{x:Lk}(h:l[i]? =some x):allR i (l.drop i)=x.rs.map (λr=>(i,r))++allR (i+1) (l.drop (i+1)):=by
 rw[xhq h];rfl
noncomputable def encR(p:Nat×RcI):List W:=[.int .i64 (p.1:Int),rcW p.2]
theorem encR_ok(l:List (Nat×RcI)):∀y∈l,purL (encR y)=true/\(encR y).length=2:=λy _=>⟨by simp[encR,purL,purW],rfl⟩
noncomputable def hasI(k:Dig)(p:Nat×RcI):Bool:=decide (p.2.id=k)
noncomputable def utq(c:Ch)(k:Dig):Option (Nat×RcI):=(allR 0 c.links).find? (hasI k)
theorem vrecs_s(v:Vw):PS cfg glK 126 [vwG v] (.fn 206 [] [.fel (vwG v)]):=by
 have hp:=vwG_pur v;refine gI 13 Y (λR k0=>?_);refine xdq (fr2:=[(2,_)]) Xm ?_ Y Y
 (repeat (first|exact trivial|refine And.symm ⟨?_,_,rfl,?_⟩))<;>(repeat (first|exact .nil|refine .cons ?_ ?_|refine .fn ?_ ?_|(refine yKq Y ?_ rfl;(first|rfl|(focus (simp;done))))|(refine .sl Y ?_ rfl Xi;(first|rfl|(focus (simp;done))))|(refine .pur ?_;(first|rfl|(focus (simp;done))))|refine .agg ?_|refine .arr ?_|refine .tup ?_))
theorem vrecs_it(v:Vw)(hc:OkC v.ch):y7q cfg glK 206 [.fel (vwG v)] ((allR 0 v.ch.links).map encR):=by
 have e:(v.ch.links.map lkG).length=v.ch.links.length:=List.length_map _;have hl:=hc.len;refine k6q (fn:=Tryz.f206) Y Y Y (Yb rfl) (λL E R hy k0=>?_);refine co_scope 3 (z2q 8 Y (gZ 0 Y e (zfq 4 Y ?_)));refine uEq (α:=Nat×Res) (λp=>p.1<=v.ch.links.length/\Yl cfg glK L E ((allR p.1 (v.ch.links.drop p.1)).map encR) p.2) (λp=>[(11,.int .i64 (p.1:Int))]) [(0,_),(9,_),(10,_)] (λp=>p.2) (λp=>v.ch.links.length-p.1) ((0,R)) ⟨rfl,rfl,rfl,trivial⟩ (⟨Nat.zero_le _,hy⟩) ⟨rfl,trivial⟩ rfl (λp hI=>?_);obtain⟨i,R⟩:=p;obtain⟨hi,hy⟩:=hI;simp only at hi hy⊢;refine z2q 6 Y ?_;refine gS 0 Y (λh1=>?_) (λh1=>?_)
 ·have hi':i<v.ch.links.length:=by omega
  obtain⟨x,hx⟩:∃x,v.ch.links[i]? =some x:=⟨_,List.getElem?_eq_getElem hi'⟩
  have er:(x.rs.map rcW).length=x.rs.length:=List.length_map _;have hxr:=hc.recs x (List.mem_of_getElem? hx);rw[allR_at hx] at hy;refine gP 7 Y (zAq (i:=i) Y Y Y Y Y Y Y (zzq lkG hx)) (gZ 10 Y er (zfq 4 Y ?_));refine uEq (α:=Nat×Res) (λq=>q.1<=x.rs.length/\Yl cfg glK L E (((x.rs.drop q.1).map (λr=>(i,r))++allR (i+1) (v.ch.links.drop (i+1))).map encR) q.2) (λq=>[(19,.int .i64 (q.1:Int))]) [(0,_),(3,_),(4,_),(9,_),(10,_),(11,_),(12,_),(13,_),(14,_),(15,_),(16,_),(17,_),(18,_)] (λq=>q.2) (λq=>x.rs.length-q.1) ((0,R)) ⟨rfl,rfl,rfl,rfl,rfl,rfl,rfl,rfl,rfl,rfl,rfl,rfl,rfl,trivial⟩ (⟨Nat.zero_le _,hy⟩) ⟨rfl,trivial⟩ rfl (λq hI=>?_);obtain⟨j,R⟩:=q;obtain⟨hj,hy⟩:=hI;simp only at hj hy⊢;refine z2q 6 Y ?_;refine gS 0 Y (λh2=>?_) (λh2=>?_)
  ·have hj':j<x.rs.length:=by omega
   obtain⟨r,hr⟩:∃r,x.rs[j]? =some r:=⟨_,List.getElem?_eq_getElem hj'⟩
   rw[xhq hr,List.map_cons,List.cons_append,List.map_cons] at hy;refine gP 6 Y (zAq (i:=j) Y Y Y Y Y Y Y (zzq rcW hr)) ?_;refine gSo 10 Y (qHq Y Y Y (hy) (λb R1 hb=>?_));refine gS 3 Y (λh3=>?_) (λh3=>?_)
   ·cases b with
    |true=>cases h3
    |false=>
     exact yTq 3 Y (gO 0 Y (gO 3 Y (zfq 1 Y (YNq (by intro l h;cases h) (jTq (.inl rfl) rfl hb)))))
   ·cases b with
    |false=>exact absurd rfl h3
    |true=>
     exact yTq 4 Y (gA 0 Y (j+1) (gAg 2 Y ((j+1,R1)) (⟨hj',hb⟩) Ya))
  ·obtain rfl:j=x.rs.length:=by omega
   rw[List.drop_length] at hy;refine gO 2 Y (gA 4 Y (i+1) (zfq 2 Y ?_));skip
   exact gAg 0 Y ((i+1,R)) (⟨hi',hy⟩) Ya
 ·refine gO 2 Y (zfq 1 Y (YNq (by intro l h;cases h) ?_));obtain rfl:i=v.ch.links.length:=by omega
  rw[List.drop_length] at hy;exact jTq (.inl rfl) rfl hy
noncomputable def recA:Option (Nat×RcI) ->W
 |some p=>.tup [.int .i64 (p.1:Int),rcW p.2,.int .i64 0]
 |none=>.tup [.int .i64 0,rcW ⟨0,z5q,0⟩,.int .i64 6]
theorem vrec_no(v:Vw)(hc:OkC v.ch)(hm:¬MayV v)(k:Dig):PS cfg glK 52 [vwG v,dW k] (.tup [.int .i64 0,rcW ⟨0,z5q,0⟩,.int .i64 8]):=by
 exact gIv 13 Y (λR k0=>gC 0 Y (yfq (w':=.int .i64 8) (qOq v hc) (by rw[if_neg hm])) (gTa 6 Y (zfq 14 Y (yzq Qn rfl (.tup (.cons (.pur rfl) (.cons (.agg (.cons (.pur rfl) (.cons zBq (.cons (.pur rfl) .nil)))) (.cons (.pur rfl) .nil))))))))
theorem vrec_s(v:Vw)(hc:OkC v.ch)(hm:MayV v)(k:Dig):PS cfg glK 52 [vwG v,dW k] (recA (utq v.ch k)):=by
 obtain⟨ls,hls⟩:∃ls,allR 0 v.ch.links=ls:=⟨_,rfl⟩
 have it:=vrecs_it v hc;unfold utq;rw[hls] at it⊢;refine gIv 13 Y (λR k0=>gC 0 Y (yfq (w':=.int .i64 0) (qOq v hc) Yr) (gFa 6 Y (gC 9 Y (vrecs_s v) (zfq 3 Y ?_))));refine uDq (encR) (ls) (λi (_:Unit)=>ls.find? (hasI k)=(ls.drop i).find? (hasI k)) (λ_=>R) (()) rfl Xj (it) (encR_ok ls) (rfl) rfl (λi a y hy hI=>?_) (λa hI=>?_)
 ·rw[xhq hy,List.find?_cons] at hI;obtain⟨hh,r⟩:=y;refine z2q 9 Y (ZWq (z2q 6 Y (gUe 0 Y (y2q Y Y Y Y (qfq Y Y Y Y Y Y _ _ 250)) yvq ?_)));refine gS 2 Y (λh1=>?_) (λh1=>?_)
  ·have hk:hasI k (hh,r)=true:=decide_eq_true Xq;rw[hk] at hI;have hI:ls.find? (hasI k)=some (hh,r):=hI;rw[hI];exact zfq 11 Y (vGq Xi (zYq 2 Y (yzq Qn rfl (.pur (by simp[purW,purL])))))
  ·have hk:hasI k (hh,r)=false:=decide_eq_false Xq;rw[hk] at hI;exact zfq 2 Y (vFq (()) (hI) Xd Yg rfl)
 ·rw[List.drop_length] at hI;rw[hI];exact zYq 11 Y (yzq Qn rfl (.tup (.cons (.pur rfl) (.cons (.agg (.cons (.pur rfl) (.cons zBq (.cons (.pur rfl) .nil)))) (.cons (.pur rfl) .nil)))))
theorem qyq(v:Vw)(hl:v.ch.links.length<=4611686018427387903):PS cfg glK 120 [vwG v] (.int .i64 ((v.ch.links.length:Int) -1)):=by
 have e:(v.ch.links.map lkG).length=v.ch.links.length:=List.length_map _;exact gI 11 Y (λR k0=>gZ 0 Y e (gWr 0 Y (gQa 4 Y)))
theorem xGq(v:Vw)(hc:OkC v.ch):PS cfg glK 43 [vwG v] (.bool (decide (MayV v))):=by
 have hl:=hc.len;by_cases hm:MayC v.ch
 ·skip
  refine gI 10 Y (λR k0=>gC 0 Y (yfq (w':=.bool true) (rcmay_s v.ch hc) Yq) ?_);refine gD 3 Y (λh1=>?_) (λh1=>?_)
  ·refine gC 5 Y (qyq v hl) ?_;refine gD 0 Y (λh2=>?_) (λh2=>?_)
   ·refine gD 4 Y (λh3=>?_) (λh3=>?_)
    ·exact gU 4 Y (gQ 5 Y (congrArg W.bool (decide_eq_decide.2 ⟨λq=>⟨hm,by omega,by omega,by omega,q⟩,λq=>q.2.2.2.2⟩)))
    ·exact gQ 10 Y (qYq λq=>by have:=q.2;omega)
   ·exact gQ 15 Y (qYq λq=>by have:=q.2;omega)
  ·exact gQ 22 Y (qYq λq=>by have:=q.2;omega)
 ·skip
  exact gI 10 Y (λR k0=>gC 0 Y (yfq (w':=.bool false) (rcmay_s v.ch hc) (by rw[decide_eq_false (hm)])) (gQ 26 Y (qYq λq=>hm q.1)))
theorem rvof_s(v:Vw)(hc:OkC v.ch)(hs:SmallC v.ch){y:Lk}(hy:v.ch.links[v.ch.links.length-1]? =some y)(h1:0<v.ch.links.length)(n:Nat)(t0:T)(hA:IsT (verT v.ch y.root) n t0)(k:Dig):PS cfg glK 125 [vwG v,dW k] (aW (inA t0.all k)):=by
 have hl:=hc.len;have hle:=hA.all_le;have hln:=hA.len;refine gI 12 Y (λR k0=>?_);first|refine gC 0 Y (yfq (w':=.int .i64 ((v.ch.links.length-1:Nat):Int)) (qyq v hl) Qk) ?_|refine gC 0 Y (qyq v hl) ?_
 exact gC 0 Y (rcheld_s v.ch (v.ch.links.length-1) y hy n t0 hA) (gC 1 Y (rin_s t0.all false k Xd) (gQa 4 Y))
theorem rfind18_s(v:Vw)(hc:OkC v.ch)(k:Dig):PS cfg glK 127 [vwG v,dW k] (match utq v.ch k with
  |some p=>.tup [.int .i64 (p.1:Int),rcW p.2,.bool true]
  |none=>.tup [.int .i64 0,rcW ⟨0,z5q,0⟩,.bool false]):=by
 have hl:=hc.len;obtain⟨fr,hfr⟩:∃fr,utq v.ch k=fr:=⟨_,rfl⟩
 rw[hfr];unfold utq at hfr;refine gIv 16 Y (λR k0=>?_);refine gLo (α:=Nat) 0 (λi=>i<=v.ch.links.length/\(allR i (v.ch.links.drop i)).find? (hasI k)=fr) (λi=>[(7,.int .i64 (i:Int))]) [2,3,4,5,6] (λi=>v.ch.links.length-i) (0) rfl (⟨Nat.zero_le _,hfr⟩) (λi hI=>?_);obtain⟨hi,hI⟩:=hI;first|refine gC 5 Y (qyq v hl) ?_|refine gC 5 Y (yfq (w':=.int .i64 ((v.ch.links.length-1:Nat):Int)) (qyq v hl) Qk) ?_
 refine gS 3 Y (λh1=>?_) (λh1=>?_)
 ·have hi':i<v.ch.links.length:=by omega
  obtain⟨x,hx⟩:∃x,v.ch.links[i]? =some x:=⟨_,List.getElem?_eq_getElem hi'⟩
  have er:(x.rs.map rcW).length=x.rs.length:=List.length_map _;have hxr:=hc.recs x (List.mem_of_getElem? hx);rw[allR_at hx] at hI;refine gP 10 Y (zAq (i:=i) Y Y Y Y Y Y Y (zzq lkG hx)) ?_;refine gLo (α:=Nat) 11 (λj=>j<=x.rs.length/\((x.rs.drop j).map (λr=>(i,r))++allR (i+1) (v.ch.links.drop (i+1))).find? (hasI k)=fr) (λj=>[(9,.int .i64 (j:Int))]) [2,3,4,5,6,7,8,10,11,12,13,16,17,18,19,20,21,22] (λj=>x.rs.length-j) (0) rfl (⟨Nat.zero_le _,hI⟩) (λj hI=>?_);obtain⟨hj,hJ⟩:=hI;refine gZ 5 Y er ?_;refine gS 3 Y (λh2=>?_) (λh2=>?_)
  ·have hj':j<x.rs.length:=by omega
   obtain⟨r,hr⟩:∃r,x.rs[j]? =some r:=⟨_,List.getElem?_eq_getElem hj'⟩
   rw[xhq hr,List.map_cons,List.cons_append,List.find?_cons] at hJ;refine gP 8 Y (zAq (i:=j) Y Y Y Y Y Y Y (zzq rcW hr)) (gUe 3 Y (y2q Y Y Y Y (qfq Y Y Y Y Y Y _ _ 250)) yvq ?_);refine gS 2 Y (λh3=>?_) (λh3=>?_)
   ·have hk:hasI k (i,r)=true:=decide_eq_true Xq;rw[hk] at hJ;refine gP 5 Y (zAq (i:=j) Y Y Y Y Y Y Y (zzq rcW hr)) (gO 9 Y (gO 3 Y (zfq 2 Y ?_)));subst hJ;exact yzq Qn rfl (.pur (by simp[purL,purW]))
   ·have hk:hasI k (i,r)=false:=decide_eq_false Xq;rw[hk] at hJ;exact gA 5 Y (j+1) (gAg 2 Y (j+1) (⟨hj',hJ⟩) Xd)
  ·obtain rfl:j=x.rs.length:=by omega
   rw[List.drop_length] at hJ;refine gO 2 Y (gA 5 Y (i+1) (zfq 2 Y ?_));skip
   exact gAg 0 Y (i+1) (⟨hi',hJ⟩) Xd
 ·obtain rfl:i=v.ch.links.length:=by omega
  rw[List.drop_length] at hI;obtain rfl:none=fr:=hI;exact gO 2 Y (zfq 11 Y (yzq Qn rfl (.tup (.cons (.pur rfl) (.cons (.agg (.cons (.pur rfl) (.cons zBq (.cons (.pur rfl) .nil)))) (.cons (.pur rfl) .nil))))))
theorem rvrec_s(v:Vw)(hc:OkC v.ch)(hm:MayV v)(k:Dig):PS cfg glK 53 [vwG v,dW k] (recA (utq v.ch k)):=by
 have hf:=rfind18_s v hc k;cases h:utq v.ch k with
 |some p=>
  rw[h] at hf;exact gIv 13 Y (λR k0=>gC 0 Y (yfq (w':=.bool true) (xGq v hc) Yq) (gC 10 Y (hf) (gFa 14 Y (zfq 15 Y (yzq Qn rfl (.pur (by simp[recA,purL,purW])))))))
 |none=>
  rw[h] at hf;exact gIv 13 Y (λR k0=>gC 0 Y (yfq (w':=.bool true) (xGq v hc) Yq) (gC 10 Y (hf) (gTa 14 Y (zfq 13 Y (yzq Qn rfl (.tup (.cons (.pur rfl) (.cons (.agg (.cons (.pur rfl) (.cons zBq (.cons (.pur rfl) .nil)))) (.cons (.pur rfl) .nil)))))))))
theorem rat_c(k:Dig)(d c:Nat)(h:d<256)(hc:bitN k d=c):PS cfg glK 261 [dW k,.int .i64 (d:Int)] (.int .u8 (c:Int)):=hc▸rat_s k d h
def OnE(ns:List Node)(t:T)(n:Nat):Prop:=match t with
 |.leaf x v=>∃(i:Nat),n=i+1/\ns[i]? =some ⟨true,x,v,0,0⟩
 |_=>n=0
theorem rway_s(t:Tree)(n:Nat)(t0:T)(h:IsT t n t0)(k:Dig):PE cfg glK 209 [tW t,dW k] (λw=>∃m:Nat,OnE t.nodes (t0.tail 0 k) m/\w= .tup [.int .i64 (m:Int),sdsW t0 k]):=by
 have hl:=h.len;have hs:=vDq h.okn h.rep;have hr:=h.root;have hokn:=h.okn;obtain⟨ns,root⟩:=t;simp only at hl hr hokn;subst hr;refine gIe 27 Y (λR k0=>?_);refine Qfq (α:=Nat×Nat×Dig×T) (λp=>OnR t0 ns k p.1 p.2.1 p.2.2.1 p.2.2.2) 6 (λp=>((t0.road 0 k).take p.2.1).map sdW) 29 32 (λp=>[(7,.int .i64 (p.1:Int)),(8,.int .i64 (p.2.1:Int))]) [(2,_),(3,_),(4,_),(5,_)] _ (λp=>257-p.2.1) ((n,0,z5q,t0)) ⟨rfl,rfl,rfl,rfl,trivial⟩ (OnR.start h hs k) ⟨rfl,rfl,trivial⟩ Y Y Y (λp hI=>?_);obtain⟨i,d,b,u⟩:=p;have hI:OnR t0 ns k i d b u:=hI;have hle:=hI.le;cases u with
 |fork L R=>
  skip
  obtain⟨i,k',v,l,r,rfl,hx,hd,⟨hb,hn,hsd⟩|⟨hb,hn,hsd⟩⟩:=hI.go
  ·have hi:=(List.getElem?_eq_some_iff.1 hx).1;have es:=xqq hsd.road;have ep:=yLq ((t0.road 0 k).take (d+1));have ep2:=yLq ((t0.road 0 k).take d);have el:(((t0.road 0 k).take d).map sdW).length<=256:=by rw[List.length_map,List.length_take];omega
   rw[es] at ep;have P:=(rfor_s (G:=glK) ⟨ns,(n:Int)⟩ Yn R r hsd.rep hsd.few (λp hp=>by have:=hsd.short p hp;omega)).ps Xo (jhq _);have P2:=rof_s (G:=glK) R (d+1) _ false hsd.zr hsd.ok hsd.short hsd.few;exact z2q 4 Y (gT 0 Y (ltI_iff.2 Xd) (gA 4 Y (i) (gP 0 Y (zAq (i:=i) Y Y Y Y Y Y Y (zzq nW hx)) (gTa 2 Y (gA 13 Y (i) (gP 0 Y (zAq (i:=i) Y Y Y Y Y Y Y (zzq nW hx)) (gC 20 Y (rat_c k d 0 hd hb) (gFa 0 Y (gC 10 Y (P) (gA 1 Y (d+1) (gC 0 Y (P2) (gM 1 Y (yGq Y Y (kOq [_,_,_,_] (k:=ti29) (news:=[sdW R]) Y Y Y Y Y (yZq Y Y Y Y) Xk Yk Yo rfl Xk)) (gA 11 Y (d+1) (zfq 2 Y (jpq 5 ((l,d+1,b,L)) (hn) Ya (Nat.zero_le _) (es) Xx Xd Yi rfl Xz ⟨rfl,rfl,trivial⟩ ⟨rfl,rfl,rfl,rfl,trivial⟩ Xg Xg rfl Xj Xh Yf)))))))))))))))
  ·skip
   have hi:=(List.getElem?_eq_some_iff.1 hx).1;have es:=xqq hsd.road;have ep:=yLq ((t0.road 0 k).take (d+1));have ep2:=yLq ((t0.road 0 k).take d);have el:(((t0.road 0 k).take d).map sdW).length<=256:=by rw[List.length_map,List.length_take];omega
   rw[es] at ep;have P:=(rfor_s (G:=glK) ⟨ns,(n:Int)⟩ Yn L l hsd.rep hsd.few (λp hp=>by have:=hsd.short p hp;omega)).ps Xo (jhq _);have P2:=rof_s (G:=glK) L (d+1) _ false hsd.zr hsd.ok hsd.short hsd.few;exact z2q 4 Y (gT 0 Y (ltI_iff.2 Xd) (gA 4 Y (i) (gP 0 Y (zAq (i:=i) Y Y Y Y Y Y Y (zzq nW hx)) (gTa 2 Y (gA 13 Y (i) (gP 0 Y (zAq (i:=i) Y Y Y Y Y Y Y (zzq nW hx)) (gC 20 Y (rat_c k d 1 hd hb) (gTa 0 Y (gC 15 Y (P) (gA 1 Y (d+1) (gC 0 Y (P2) (gM 1 Y (yGq Y Y (kOq [_,_,_,_] (k:=ti29) (news:=[sdW L]) Y Y Y Y Y (yZq Y Y Y Y) Xk Yk Yo rfl Xk)) (gA 11 Y (d+1) (zfq 2 Y (jpq 5 ((r,d+1,qlq b d,R)) (hn) Ya (Nat.zero_le _) (es) Xx Xd Yi rfl Xz ⟨rfl,rfl,trivial⟩ ⟨rfl,rfl,rfl,rfl,trivial⟩ Xg Xg rfl Xj Xh Yf)))))))))))))))
 |nil=>
  obtain⟨e1,e2⟩:=hI.done rfl;have hr:=hI.rep;obtain rfl:i=0:=by cases hr;rfl
  have ep:=yLq (t0.road 0 k);rw[List.take_of_length_le (by exact e2)];exact z2q 4 Y (gF 0 Y (ltI_not.2 Xd) (zfq 15 Y (y9q Xi (zYq 11 Y (fin_vE (w':=.tup [.int .i64 ((0:Nat):Int),sdsW t0 k]) Qn rfl (.tup (.cons (.pur rfl) (.cons (vhq (H0:=[_,_]) (b:=2) (e:=32) (ty:=29) Xo ep Xk) .nil))) (by simp[purW,purL]) ⟨0,by rw[e1];rfl,rfl⟩)))))
 |leaf x v=>
  obtain⟨e1,e2⟩:=hI.done rfl;have hr:=hI.rep;obtain⟨i,l,r,rfl,hx⟩:∃(j:Nat) (l r:Int),i=j+1/\ns[j]? =some ⟨true,x,v,l,r⟩:=by cases hr with|leaf h=>exact⟨_,_,_,rfl,h⟩
  have hi:=(List.getElem?_eq_some_iff.1 hx).1;obtain⟨rfl,rfl⟩:=okN_leaf hokn hx;have ep:=yLq (t0.road 0 k);rw[List.take_of_length_le (by exact e2)];exact z2q 4 Y (gT 0 Y (ltI_iff.2 Xd) (gA 4 Y (i) (gP 0 Y (zAq (i:=i) Y Y Y Y Y Y Y (zzq nW hx)) (gFa 2 Y (zfq 6 Y (y9q Xi (zYq 11 Y (fin_vE (w':=.tup [.int .i64 ((i+1:Nat):Int),sdsW t0 k]) Qn rfl (.tup (.cons (.pur rfl) (.cons (vhq (H0:=[_,_]) (b:=2) (e:=32) (ty:=29) Xo ep Xk) .nil))) (by simp[purW,purL]) ⟨i+1,by rw[e1];exact⟨i,rfl,hx⟩,rfl⟩))))))))
theorem proof_nil{t0:T}{k:Dig}(h:t0.tail 0 k= .nil):q0q t0 k=prG k 0 z5q (bW []) (sdsW t0 k):=by unfold q0q;rw[h]
theorem proof_own{t0:T}{k:Dig}{v:List UInt8}(h:t0.tail 0 k= .leaf k v):q0q t0 k=prG k 1 z5q (bW v) (sdsW t0 k):=by unfold q0q;rw[h];exact if_pos rfl
theorem proof_oth{t0:T}{k x:Dig}{v:List UInt8}(h:t0.tail 0 k= .leaf x v)(hk:¬x=k):q0q t0 k=prG k 2 x (bW v) (sdsW t0 k):=by unfold q0q;rw[h];exact if_neg hk
theorem rpof_s(t:Tree)(n:Nat)(t0:T)(h:IsT t n t0)(k:Dig):PS cfg glK 130 [tW t,dW k] (q0q t0 k):=by
 have hsp:=vEq t0 k;have hl:=h.len;refine gIv 11 Y (λR k0=>?_);skip
 refine gSo 0 Y (step_pe Y Y Y Y Y (rway_s t n t0 h k) Xk ?_);rintro w hw ⟨m,hm,rfl⟩;skip
 have e:=x8q t0 0 k;cases hq:t0.tail 0 k with
 |fork=>rw[hq] at e;cases e
 |nil=>
  skip
  rw[hq] at hm;obtain rfl:m=0:=hm;rw[proof_nil hq];exact zJq 11 Y (gV (w':=prG k 0 z5q .nils (sdsW t0 k)) 0 Y (YUq k _) (gTa 8 Y (zfq 11 Y (yzq Qn rfl (.agg (.cons (.pur Xk) (.cons (.pur rfl) (.cons (.pur Xk) (.cons .nilfz (.cons (.pur hsp) .nil))))))))))
 |leaf x v=>
  rw[hq] at hm;obtain⟨i,rfl,hx⟩:=hm;have hi:=(List.getElem?_eq_some_iff.1 hx).1;have hv:=u2q h.okn hx;by_cases hk:x=k
  ·subst hk;rw[proof_own hq];skip
   refine zJq 11 Y (gV (w':=prG x 0 z5q .nils (sdsW t0 x)) 0 Y (YUq x _) (gF 8 Y (eqI_not.2 Xd) (gA 10 Y (i) (gP 0 Y (zAq (i:=i) Y Y Y Y Y Y Y (zzq nW hx)) (gC 9 Y (rtwin_s v false Xd) (gUe 16 Y (x2q Y Y Y Y (qfq Y Y Y Y Y Y _ _ 250)) (u3q yvq) ?_))))));refine gS 2 Y (λh1=>?_) (λh1=>?_)
   ·exfalso;exact(by assumption:¬x=x) rfl
   ·exact zfq 9 Y (yzq Qn rfl (.pur (by simp[prG,purW,purL])))
  ·rw[proof_oth hq hk];refine zJq 11 Y (gV (w':=prG k 0 z5q .nils (sdsW t0 k)) 0 Y (YUq k _) (gF 8 Y (eqI_not.2 Xd) (gA 10 Y (i) (gP 0 Y (zAq (i:=i) Y Y Y Y Y Y Y (zzq nW hx)) (gC 9 Y (rtwin_s v false Xd) (gUe 16 Y (x2q Y Y Y Y (qfq Y Y Y Y Y Y _ _ 250)) (u3q yvq) ?_))))));refine gS 2 Y (λh1=>?_) (λh1=>?_)
   ·exact zfq 20 Y (yzq Qn rfl (.pur (by simp[prG,purW,purL])))
   ·exfalso;exact h1 hk
end
section
attribute [local irreducible] CoW OpW FlW Step Spec
variable {G:Nat->Option W}
noncomputable instance(a b:Node):Decidable (a=b):=Classical.propDecidable _
end
section
attribute [local irreducible] CoW OpW FlW Step Spec
attribute [local simp] xsq
variable {G:Nat->Option W}
noncomputable instance(a b:Lk):Decidable (a=b):=Classical.propDecidable _
end
section
attribute [local irreducible] CoW OpW FlW Step Spec
theorem v7q(t0:T)(k:Dig):∃a b c d e,q0q t0 k= .agg 67 [a,b,c,d,e]:=by
 unfold q0q;split
 ·split<;>exact⟨_,_,_,_,_,rfl⟩
 ·exact⟨_,_,_,_,_,rfl⟩
@[simp] theorem Ybq(t0:T)(k:Dig):purW (q0q t0 k)=true:=by
 unfold q0q prG;split
 ·split<;>simp[purW,purL]
 ·simp[purW,purL]
noncomputable def prZ:W:=prG z5q 0 z5q (bW []) (.fz [] 32 false)
theorem xvq{blk:Nat->Option W}:View blk (.agg 67 [.arr 32 1 (List.replicate 32 (.int .u8 (.ofNat 0))),.int .u8 0,.arr 32 1 (List.replicate 32 (.int .u8 (.ofNat 0))),.nils,.nils]) prZ:=.agg (.cons zBq (.cons (.pur rfl) (.cons zBq (.cons .nilfz (.cons .nilfz .nil)))))
def TolV(v:Vw)(win h:Int):Prop:=0<=h/\h<(v.ch.links.length:Int)/\(v.ch.links.length:Int) -1-h<win
noncomputable instance(v:Vw)(win h:Int):Decidable (TolV v win h):=Classical.propDecidable _
theorem vproof_no(v:Vw)(hc:OkC v.ch)(hm:¬MayV v)(win h:Int)(k:Dig):PS cfg glK 54 [vwG v,.int .i64 win,.int .i64 h,dW k] (.tup [dW z5q,prZ,.int .i64 8]):=by
 exact gIv 13 Y (λR k0=>gC 0 Y (yfq (w':=.int .i64 8) (qOq v hc) (by rw[if_neg hm])) (gTa 6 Y (zfq 15 Y (yzq Qn rfl (.tup (.cons zBq (.cons xvq (.cons (.pur rfl) .nil))))))))
theorem vproof_gone(v:Vw)(hc:OkC v.ch)(hm:MayV v)(win h:Int)(k:Dig)(hg:¬TolV v win h):PS cfg glK 54 [vwG v,.int .i64 win,.int .i64 h,dW k] (.tup [dW z5q,prZ,.int .i64 180]):=by
 have e:(v.ch.links.map lkG).length=v.ch.links.length:=List.length_map _;have hl:=hc.len;have h1:=hm.1.one;by_cases ha:h<0
 ·skip
  exact gIv 13 Y (λR k0=>gC 0 Y (yfq (w':=.int .i64 0) (qOq v hc) Yr) (gFa 6 Y (gZ 10 Y e (gA 0 Y (v.ch.links.length-1) (gT 7 Y (ltI_iff.2 (ha)) (zfq 26 Y (yzq Qn rfl (.tup (.cons zBq (.cons xvq (.cons (.pur rfl) .nil)))))))))))
 ·by_cases hb:(v.ch.links.length:Int)<=h
  ·skip
   exact gIv 13 Y (λR k0=>gC 0 Y (yfq (w':=.int .i64 0) (qOq v hc) Yr) (gFa 6 Y (gZ 10 Y e (gA 0 Y (v.ch.links.length-1) (gF 7 Y (ltI_not.2 (ha)) (gT 3 Y (ltI_iff.2 Xd) (zfq 22 Y (yzq Qn rfl (.tup (.cons zBq (.cons xvq (.cons (.pur rfl) .nil))))))))))))
  ·have hw:¬((v.ch.links.length:Int) -1-h<win):=λq=>hg ⟨by omega,by omega,q⟩
   obtain⟨i,rfl⟩:=Int.eq_ofNat_of_zero_le (show 0<=h by omega);exact gIv 13 Y (λR k0=>gC 0 Y (yfq (w':=.int .i64 0) (qOq v hc) Yr) (gFa 6 Y (gZ 10 Y e (gA 0 Y (v.ch.links.length-1) (gF 7 Y (ltI_not.2 (ha)) (gF 3 Y (ltI_not.2 Xd) (gA 4 Y (v.ch.links.length-1-i) (gT 1 Y (congrArg not (ltI_not.2 Xd)) (zfq 15 Y (yzq Qn rfl (.tup (.cons zBq (.cons xvq (.cons (.pur rfl) .nil))))))))))))))
theorem vproof_s(v:Vw)(hc:OkC v.ch)(hs:SmallC v.ch)(hm:MayV v)(win:Int)(i:Nat)(k:Dig)(hg:TolV v win (i:Int)){x:Lk}(hx:v.ch.links[i]? =some x)(n:Nat)(t0:T)(hA:IsT (verT v.ch x.root) n t0):PS cfg glK 54 [vwG v,.int .i64 win,.int .i64 (i:Int),dW k] (.tup [dW x.hdr.state,q0q t0 k,.int .i64 0]):=by
 have e:(v.ch.links.map lkG).length=v.ch.links.length:=List.length_map _;have hl:=hc.len;have h1:=hm.1.one;obtain⟨g1,g2,g3⟩:=hg;have hpp:=Ybq t0 k;have hM:=pmake_s (verT v.ch x.root) n t0 hA k;obtain⟨a,b,c,d,f,hp⟩:=v7q t0 k;rw[hp] at hpp hM;rw[hp];refine gIv 13 Y (λR k0=>gC 0 Y (yfq (w':=.int .i64 0) (qOq v hc) Yr) (gFa 6 Y (gZ 10 Y e (gA 0 Y (v.ch.links.length-1) (gF 7 Y (ltI_not.2 Xd) (gF 3 Y (ltI_not.2 Xd) (gA 4 Y (v.ch.links.length-1-i) (gF 1 Y (congrArg not (ltI_iff.2 Xd)) (gC 11 Y (cstate_s v.ch hc hs i hm.1 hx) (zfq 12 Y ?_))))))))));refine op_pq hM ?_ (hw:=by show(purW (.agg 67 [a,b,c,d,f])&&true)=true;rw[hpp];rfl);exact zJq 13 Y (gP 0 Y (zAq (i:=i) Y Y Y Y Y Y Y (zzq lkG hx)) (zfq 11 Y (yzq Qn rfl (.tup (.cons (.pur Xk) (.cons (.pur hpp) (.cons (.pur rfl) .nil)))))))
theorem rtold_s(v:Vw)(hl:v.ch.links.length<=4611686018427387903)(win h:Int):PS cfg glK 129 [vwG v,.int .i64 win,.int .i64 h] (.bool (decide (TolV v win h))):=by
 by_cases h0:0<=h
 ·by_cases h1:h<(v.ch.links.length:Int)
  ·skip
   refine gI 9 Y (λR k0=>gT 0 Y (congrArg not (ltI_not.2 Xd)) (gC 3 Y (qyq v hl) (gT 0 Y (congrArg not (ltI_not.2 Xd)) (gC 3 Y (qyq v hl) (zfq 1 Y (op_z ((v.ch.links.length:Int) -1-h) Y Y Y Qm ?_))))));refine zcq Y Y (op_cz Y Y ?_);exact zJq 5 Y (gQ 0 Y (congrArg W.bool (decide_eq_decide.2 ⟨λq=>⟨h0,h1,q⟩,λq=>q.2.2⟩)))
  ·skip
   exact gI 9 Y (λR k0=>gT 0 Y (congrArg not (ltI_not.2 Xd)) (gC 3 Y (qyq v hl) (gF 0 Y (congrArg not (ltI_iff.2 Xd)) (gQ 13 Y (qYq λq=>h1 q.2.1)))))
 ·skip
  exact gI 9 Y (λR k0=>gF 0 Y (congrArg not (ltI_iff.2 Xd)) (gQ 18 Y (qYq λq=>h0 q.1)))
theorem rvproof_gone(v:Vw)(hc:OkC v.ch)(hm:MayV v)(win h:Int)(k:Dig)(hg:¬TolV v win h):PS cfg glK 55 [vwG v,.int .i64 win,.int .i64 h,dW k] (.tup [dW z5q,prZ,.int .i64 180]):=by
 exact gIv 13 Y (λR k0=>gC 0 Y (yfq (w':=.bool true) (xGq v hc) Yq) (gC 12 Y (yfq (w':=.bool false) (rtold_s v hc.len win h) (by rw[decide_eq_false (hg)])) (gV 6 Y kHq (zfq 8 Y (yzq Qn rfl (.tup (.cons (.pur Xk) (.cons xvq (.cons (.pur rfl) .nil)))))))))
theorem rvproof_s(v:Vw)(hc:OkC v.ch)(hm:MayV v)(win:Int)(i:Nat)(k:Dig)(hg:TolV v win (i:Int)){x:Lk}(hx:v.ch.links[i]? =some x)(n:Nat)(t0:T)(hA:IsT (verT v.ch x.root) n t0):PS cfg glK 55 [vwG v,.int .i64 win,.int .i64 (i:Int),dW k] (.tup [dW x.hdr.state,q0q t0 k,.int .i64 0]):=by
 have hpp:=Ybq t0 k;have hM:=rpof_s (verT v.ch x.root) n t0 hA k;obtain⟨a,b,c,d,f,hp⟩:=v7q t0 k;rw[hp] at hpp hM;rw[hp];exact gIv 13 Y (λR k0=>gC 0 Y (yfq (w':=.bool true) (xGq v hc) Yq) (gC 12 Y (yfq (w':=.bool true) (rtold_s v hc.len win (i:Int)) (by rw[decide_eq_true (hg)])) (gP 12 Y (zAq (i:=i) Y Y Y Y Y Y Y (zzq lkG hx)) (gC 6 Y (YMq v.ch i x hx) (gC 1 Y (hM) (zfq 6 Y (yzq Qn rfl (.tup (.cons (.pur Xk) (.cons (.pur hpp) (.cons (.pur rfl) .nil)))))))))))
theorem vhead_no(v:Vw)(hc:OkC v.ch)(hm:¬MayV v):PS cfg glK 56 [vwG v] (.tup [.int .i64 0,dW z5q,.int .i64 8]):=by
 exact gIv 12 Y (λR k0=>gC 0 Y (yfq (w':=.int .i64 8) (qOq v hc) (by rw[if_neg hm])) (gTa 6 Y (zfq 14 Y (yzq Qn rfl (.tup (.cons (.pur rfl) (.cons zBq (.cons (.pur rfl) .nil))))))))
theorem vhead2_s(v:Vw)(hc:OkC v.ch)(hm:MayV v){y:Lk}(hy:v.ch.links[v.ch.links.length-1]? =some y):PS cfg glK 56 [vwG v] (.tup [.int .i64 y.hdr.height,dW (hashD y.hdr),.int .i64 0]):=by
 obtain⟨y2,hy2,_,hl⟩:=hm.1.last;obtain rfl:=Option.some.inj (hy.symm.trans hy2);exact gI 12 Y (λR k0=>gC 0 Y (yfq (w':=.int .i64 0) (qOq v hc) Yr) (gFa 6 Y (gC 9 Y (chead_s v.ch hc hm.1 hy) (gC 11 Y (hhash_s y.hdr hl.hdr) (gQa 19 Y)))))
theorem rvhead_s(v:Vw)(hc:OkC v.ch)(hm:MayV v){y:Lk}(hy:v.ch.links[v.ch.links.length-1]? =some y):PS cfg glK 57 [vwG v] (.tup [.int .i64 y.hdr.height,dW (hashD y.hdr),.int .i64 0]):=by
 obtain⟨y2,hy2,_,hl⟩:=hm.1.last;obtain rfl:=Option.some.inj (hy.symm.trans hy2);have h1:=hm.1.one;have hh:=hl.height;refine gI 12 Y (λR k0=>gC 0 Y (yfq (w':=.bool true) (xGq v hc) Yq) ?_);first|refine gC 9 Y (yfq (w':=.int .i64 ((v.ch.links.length-1:Nat):Int)) (qyq v hc.len) Qk) ?_|refine gC 9 Y (qyq v hl) ?_
 first|refine gC 4 Y (yfq (w':=.int .i64 ((v.ch.links.length-1:Nat):Int)) (qyq v hc.len) Qk) ?_|refine gC 4 Y (qyq v hl) ?_
 exact gP 0 Y (zAq (i:=v.ch.links.length-1) Y Y Y Y Y Y Y (zzq lkG hy)) (gC 2 Y (rhname_s y.hdr hl.hdr) (gQ 6 Y (by rw[hh])))
noncomputable instance:DecidableEq Vw:=λa b=>Classical.propDecidable _
end
section
attribute [local irreducible] CoW OpW FlW Step Spec
attribute [local simp] xsq
variable {G:Nat->Option W}
attribute [local simp] PW.pur
noncomputable def trW(A:PW)(r:Int):W:=.agg 2 [A.w,.int .i64 r]
noncomputable def kcW(A B:PW)(r:Int):W:=.agg 3 [trW A r,B.w]
@[simp] theorem trW_pur(A:PW)(r:Int):purW (trW A r)=true:=by simp[trW,purW,purL]
@[simp] theorem kcW_pur(A B:PW)(r:Int):purW (kcW A B r)=true:=by simp[kcW,trW,purW,purL]
end
section
attribute [local irreducible] CoW OpW FlW Step Spec
theorem rsdig_s(ds:List Dig)(f g:Bool)(hl:ds.length<=1000000):PS cfg glK 133 [.fz (ds.map dW) 32 f,.fz (ds.map dW) 32 g] (.bool true):=by
 have e:(ds.map dW).length=ds.length:=List.length_map _;refine gI 9 Y (λR k0=>gZ 0 Y e (gZ 1 Y e (gF 0 Y (congrArg not (eqI_iff.2 (rfl))) ?_)));refine gLo (α:=Nat) 12 (λi=>i<=ds.length) (λi=>[(5,.int .i64 (i:Int))]) [0,1,4] (λi=>ds.length-i) (0) rfl (Nat.zero_le _) (λi hI=>?_);refine gZ 5 Y e ?_;refine gS 3 Y (λh1=>?_) (λh1=>?_)
 ·obtain⟨d,hd⟩:∃d,ds[i]? =some d:=⟨_,List.getElem?_eq_getElem Xd⟩
  refine gP 8 Y (zAq (i:=i) Y Y Y Y Y Y Y (zzq dW hd)) (gP 3 Y (zAq (i:=i) Y Y Y Y Y Y Y (zzq dW hd)) (gUe 1 Y (x2q Y Y Y Y (qfq Y Y Y Y Y Y _ _ 250)) (u3q yvq) ?_));refine gS 2 Y (λh2=>?_) (λh2=>?_)
  ·exfalso;exact(by assumption:¬d=d) rfl
  ·exact gA 5 Y (i+1) (gAg 2 Y (i+1) Xd Xd)
 ·exact gO 2 Y (gQa 8 Y)
theorem rpsm_s(k:Dig)(e:Int)(o:Dig)(l:List UInt8)(ds:List Dig)(hl:ds.length<=1000000):PS cfg glK 58 [prG k e o (bW l) (.fz (ds.map dW) 32 false),prG k e o (bW l) (.fz (ds.map dW) 32 false)] (.bool true):=by
 exact gI 13 Y (λR k0=>jRq (w':=.bool true) rfl (y2q Y Y Y Y (qfq Y Y Y Y Y Y k k 250)) Qe (zJq 5 Y (gT 0 Y (eqI_iff.2 (rfl)) (zfq 6 Y (jRq (w':=.bool true) rfl (y2q Y Y Y Y (qfq Y Y Y Y Y Y o o 250)) Qe (zJq 6 Y (gC 0 Y (yfq (w':=.bool true) (same_s l l false false) (by rw[decide_eq_true (rfl)])) (gC 6 Y (rsdig_s ds false false hl) (gQa 5 Y)))))))))
theorem road_le:∀(t:T) (d:Nat) (k:Dig) (b:Dig),t.ok d b=true->(t.road d k).length<=256
 |.nil,_,_,_,_=>Nat.zero_le _
 |.leaf _ _,_,_,_,_=>Nat.zero_le _
 |.fork l r,d,k,b,h=>by
  have key:∀(t:T) (d:Nat) (b:Dig),t.ok d b=true->d<=256->(t.road d k).length+d<=256:=by
   intro t;induction t with
   |nil=>intro d b _ hd;simpa[T.road] using hd
   |leaf=>intro d b _ hd;simpa[T.road] using hd
   |fork l r il ir=>
    intro d b h hd;obtain⟨hd,h1,h2,_⟩:=ok_fork.1 h;unfold T.road;split
    ·have:=il (d+1) _ h1 hd;simp only[List.length_cons];omega
    ·have:=ir (d+1) _ h2 hd;simp only[List.length_cons];omega
  obtain⟨hd,_⟩:=ok_fork.1 h;have:=key (.fork l r) d b h Xd;omega
structure PrV where
 (k:Dig) (e:Int) (o:Dig) (l:List UInt8) (ds:List Dig)
 hl:ds.length<=1000000
noncomputable def PrV.w(p:PrV):W:=prG p.k p.e p.o (bW p.l) (.fz (p.ds.map dW) 32 false)
@[simp] theorem PrV.pur(p:PrV):purW p.w=true:=by simp[PrV.w,prG,purW,purL]
theorem PrV.same(p:PrV):PS cfg glK 58 [p.w,p.w] (.bool true):=rpsm_s p.k p.e p.o p.l p.ds p.hl
noncomputable def prZV:PrV:=⟨z5q,0,z5q,[],[],Nat.zero_le _⟩
theorem prZ_v:prZ=prZV.w:=rfl
theorem proof_v{t:Tree}{n:Nat}{t0:T}(h:IsT t n t0)(k:Dig):∃p:PrV,q0q t0 k=p.w:=by
 have hr:=road_le t0 0 k _ h.ok;have es:sdsW t0 k= .fz (((t0.road 0 k).map sumD).map dW) 32 false:=by unfold sdsW;rw[List.map_map];rfl
 have hl:((t0.road 0 k).map sumD).length<=1000000:=by rw[List.length_map];omega
 unfold q0q;rw[es];split
 ·split
  ·exact⟨⟨k,1,z5q,_,_,hl⟩,rfl⟩
  ·exact⟨⟨k,2,_,_,_,hl⟩,rfl⟩
 ·exact⟨⟨k,0,z5q,[],_,hl⟩,rfl⟩
theorem vacc_no(v:Vw)(hc:OkC v.ch)(hm:¬MayV v)(k:Dig):PS cfg glK 50 [vwG v,dW k] (.tup [aW ⟨0,0⟩,.int .i64 8]):=by
 exact gI 12 Y (λR k0=>gC 0 Y (yfq (w':=.int .i64 8) (qOq v hc) (by rw[if_neg hm])) (gTa 6 Y (gQa 13 Y)))
theorem vacc_s(v:Vw)(hc:OkC v.ch)(hm:MayV v)(k:Dig){y:Lk}(hy:v.ch.links[v.ch.links.length-1]? =some y){n:Nat}{t0:T}(hA:IsA v.ch.tree n t0):PS cfg glK 50 [vwG v,dW k] (.tup [aW (uIq t0 k),.int .i64 0]):=by
 exact gI 12 Y (λR k0=>gC 0 Y (yfq (w':=.int .i64 0) (qOq v hc) Yr) (gFa 6 Y (gC 11 Y (aget_s v.ch.tree n t0 hA k) (gQa 7 Y))))
structure Ru where
 (shards:Int) (cap:Int) (block:Int) (window:Int) (tap:Int) (subs:Int) (box:Dig)
noncomputable def ruG(r:Ru):W:=.agg 38 [.int .i64 r.shards,.int .i64 r.cap,.int .i64 r.block,.int .i64 r.window,.int .i64 r.tap,.int .i64 r.subs,dW r.box]
@[simp] theorem ruG_pur(r:Ru):purW (ruG r)=true:=by simp[ruG]
structure Rp where
 (kind:Int) (code:Int) (height:Int) (dig:Dig) (acct:Acct) (rc:RcI) (pr:PrV)
noncomputable def z32:W:=.arr 32 1 (List.replicate 32 (.int .u8 (.ofNat 0)))
noncomputable def zIt:W:=.agg 101 [.bool false,.agg 100 [.int .i64 0,.bool false,.agg 98 [.int .i64 0,z32,z32,z32,.int .i64 0]]]
noncomputable def rpW(x:Rp):W:=.agg 240 [.int .u8 x.kind,.int .i64 x.code,.int .i64 x.height,dW x.dig,aW x.acct,rcW x.rc,x.pr.w,.int .i64 0,zIt]
def rcZ:RcI:=⟨0,z5q,0⟩
theorem qnq{blk:Nat->Option W}:View blk (.agg 34 [.int .u8 0,.arr 32 1 (List.replicate 32 (.int .u8 (.ofNat 0))),.int .i64 0]) (rcW rcZ):=.agg (.cons (.pur rfl) (.cons zBq (.cons (.pur rfl) .nil)))
theorem yXq{blk:Nat->Option W}:View blk (.agg 67 [.arr 32 1 (List.replicate 32 (.int .u8 (.ofNat 0))),.int .u8 0,.arr 32 1 (List.replicate 32 (.int .u8 (.ofNat 0))),.nils,.nils]) prZV.w:=xvq
theorem rpW_pur(x:Rp):purW (rpW x)=true:=by
 have h:purW zIt=true:=by decide+kernel
 show(true&&(true&&(true&&(purW (dW x.dig)&&(purW (aW x.acct)&&(purW (rcW x.rc)&&(purW x.pr.w&&(true&&(purW zIt&&true)))))))))=true;rw[dW_pur,PrV.pur,h];simp
attribute [local simp] rpW_pur
structure Aq where
 (kind:Int) (tx:Tx) (key:Dig) (height:Int) (sub:Int)
noncomputable def aqW(q:Aq):W:=.agg 134 [.int .u8 q.kind,txW q.tx,dW q.key,.int .i64 q.height,.int .i64 q.sub]
@[simp] theorem aqW_pur(q:Aq):purW (aqW q)=true:=by simp[aqW,purW,purL]
theorem rd_acc(r:Ru)(v:Vw)(q:Aq)(hq:q.kind=2)(a:Acct)(e:Int)(p:PS cfg glK 50 [vwG v,dW q.key] (.tup [aW a,.int .i64 e])):PS cfg glK 48 [ruG r,vwG v,aqW q] (rpW ⟨q.kind,e,0,z5q,a,rcZ,prZV⟩):=by
 refine gIv 26 Y (λR k0=>gT 0 Y (eqI_iff.2 (hq)) (gC 8 Y (p) (zfq 17 Y (yzq Xm Y ?_))))
 (repeat (first|exact .nil|refine .cons ?_ ?_|exact zBq|exact yXq|exact qnq|(refine .pur ?_;first|rfl|(focus (simp;done)))|refine .agg ?_))
theorem rd_rec(r:Ru)(v:Vw)(q:Aq)(hq:q.kind=3)(i:Int)(c:RcI)(e:Int)(p:PS cfg glK 52 [vwG v,dW q.key] (.tup [.int .i64 i,rcW c,.int .i64 e])):PS cfg glK 48 [ruG r,vwG v,aqW q] (rpW ⟨q.kind,e,i,z5q,⟨0,0⟩,c,prZV⟩):=by
 refine gIv 26 Y (λR k0=>gF 0 Y (eqI_not.2 Xd) (gT 6 Y (eqI_iff.2 (hq)) (gC 8 Y (p) (zfq 20 Y (yzq Xm Y ?_)))))
 (repeat (first|exact .nil|refine .cons ?_ ?_|exact zBq|exact yXq|exact qnq|(refine .pur ?_;first|rfl|(focus (simp;done)))|refine .agg ?_))
set_option maxRecDepth 100000 in
theorem rd_prf(r:Ru)(v:Vw)(q:Aq)(hq:q.kind=4)(d:Dig)(s:PrV)(e:Int)(p:PS cfg glK 54 [vwG v,.int .i64 r.window,.int .i64 q.height,dW q.key] (.tup [dW d,s.w,.int .i64 e])):PS cfg glK 48 [ruG r,vwG v,aqW q] (rpW ⟨q.kind,e,if e=0 then q.height else 0,d,⟨0,0⟩,rcZ,s⟩):=by
 by_cases he:e=0
 ·rw[if_pos he];refine gIv 26 Y (λR k0=>gF 0 Y (eqI_not.2 Xd) (gF 6 Y (eqI_not.2 Xd) (gT 6 Y (eqI_iff.2 (hq)) (gC 13 Y (p) (gT 16 Y (eqI_iff.2 (he)) (zfq 18 Y (yzq Xm Y ?_)))))))
  (repeat (first|exact .nil|refine .cons ?_ ?_|exact zBq|exact yXq|exact qnq|(refine .pur ?_;first|rfl|(focus (simp;done)))|refine .agg ?_))
 ·rw[if_neg he];refine gIv 26 Y (λR k0=>gF 0 Y (eqI_not.2 Xd) (gF 6 Y (eqI_not.2 Xd) (gT 6 Y (eqI_iff.2 (hq)) (gC 13 Y (p) (gF 16 Y (eqI_not.2 (he)) (zfq 13 Y (yzq Xm Y ?_)))))))
  (repeat (first|exact .nil|refine .cons ?_ ?_|exact zBq|exact yXq|exact qnq|(refine .pur ?_;first|rfl|(focus (simp;done)))|refine .agg ?_))
theorem rd_head(r:Ru)(v:Vw)(q:Aq)(hq:q.kind=5)(x:Int)(c:Dig)(e:Int)(p:PS cfg glK 56 [vwG v] (.tup [.int .i64 x,dW c,.int .i64 e])):PS cfg glK 48 [ruG r,vwG v,aqW q] (rpW ⟨q.kind,e,x,c,⟨0,0⟩,rcZ,prZV⟩):=by
 refine gIv 26 Y (λR k0=>gF 0 Y (eqI_not.2 Xd) (gF 6 Y (eqI_not.2 Xd) (gF 6 Y (eqI_not.2 Xd) (gT 6 Y (eqI_iff.2 (hq)) (gC 6 Y (p) (zfq 20 Y (yzq Xm Y ?_)))))))
 (repeat (first|exact .nil|refine .cons ?_ ?_|exact zBq|exact yXq|exact qnq|(refine .pur ?_;first|rfl|(focus (simp;done)))|refine .agg ?_))
theorem rd_no(r:Ru)(v:Vw)(q:Aq)(hq:q.kind≠2/\q.kind≠3/\q.kind≠4/\q.kind≠5):PS cfg glK 48 [ruG r,vwG v,aqW q] (rpW ⟨q.kind,8,0,z5q,⟨0,0⟩,rcZ,prZV⟩):=by
 refine gIv 26 Y (λR k0=>gF 0 Y (eqI_not.2 Xd) (gF 6 Y (eqI_not.2 Xd) (gF 6 Y (eqI_not.2 Xd) (gF 6 Y (eqI_not.2 Xd) (zfq 17 Y (yzq Xm Y ?_))))))
 (repeat (first|exact .nil|refine .cons ?_ ?_|exact zBq|exact yXq|exact qnq|(refine .pur ?_;first|rfl|(focus (simp;done)))|refine .agg ?_))
theorem rrd_acc(r:Ru)(v:Vw)(q:Aq)(hq:q.kind=2)(a:Acct)(p:PS cfg glK 125 [vwG v,dW q.key] (aW a)):PS cfg glK 123 [ruG r,vwG v,aqW q] (rpW ⟨q.kind,0,0,z5q,a,rcZ,prZV⟩):=by
 refine gIv 27 Y (λR k0=>gT 0 Y (eqI_iff.2 (hq)) (gC 8 Y (p) (zfq 12 Y (yzq Xm Y ?_))))
 (repeat (first|exact .nil|refine .cons ?_ ?_|exact zBq|exact yXq|exact qnq|(refine .pur ?_;first|rfl|(focus (simp;done)))|refine .agg ?_))
theorem rrd_rec(r:Ru)(v:Vw)(q:Aq)(hq:q.kind=3)(i:Int)(c:RcI)(e:Int)(p:PS cfg glK 53 [vwG v,dW q.key] (.tup [.int .i64 i,rcW c,.int .i64 e])):PS cfg glK 123 [ruG r,vwG v,aqW q] (rpW ⟨q.kind,e,i,z5q,⟨0,0⟩,c,prZV⟩):=by
 refine gIv 27 Y (λR k0=>gF 0 Y (eqI_not.2 Xd) (gT 6 Y (eqI_iff.2 (hq)) (gC 9 Y (p) (zfq 38 Y (yzq Xm Y ?_)))))
 (repeat (first|exact .nil|refine .cons ?_ ?_|exact zBq|exact yXq|exact qnq|(refine .pur ?_;first|rfl|(focus (simp;done)))|refine .agg ?_))
set_option maxRecDepth 100000 in
theorem rrd_prf(r:Ru)(v:Vw)(q:Aq)(hq:q.kind=4)(d:Dig)(s:PrV)(e:Int)(p:PS cfg glK 55 [vwG v,.int .i64 r.window,.int .i64 q.height,dW q.key] (.tup [dW d,s.w,.int .i64 e])):PS cfg glK 123 [ruG r,vwG v,aqW q] (rpW ⟨q.kind,e,if e=0 then q.height else 0,d,⟨0,0⟩,rcZ,s⟩):=by
 by_cases he:e=0
 ·rw[if_pos he];refine gIv 27 Y (λR k0=>gF 0 Y (eqI_not.2 Xd) (gF 6 Y (eqI_not.2 Xd) (gT 6 Y (eqI_iff.2 (hq)) (gC 13 Y (p) (gT 35 Y (eqI_iff.2 (he)) (zfq 18 Y (yzq Xm Y ?_)))))))
  (repeat (first|exact .nil|refine .cons ?_ ?_|exact zBq|exact yXq|exact qnq|(refine .pur ?_;first|rfl|(focus (simp;done)))|refine .agg ?_))
 ·rw[if_neg he];refine gIv 27 Y (λR k0=>gF 0 Y (eqI_not.2 Xd) (gF 6 Y (eqI_not.2 Xd) (gT 6 Y (eqI_iff.2 (hq)) (gC 13 Y (p) (gF 35 Y (eqI_not.2 (he)) (zfq 13 Y (yzq Xm Y ?_)))))))
  (repeat (first|exact .nil|refine .cons ?_ ?_|exact zBq|exact yXq|exact qnq|(refine .pur ?_;first|rfl|(focus (simp;done)))|refine .agg ?_))
theorem rrd_head(r:Ru)(v:Vw)(q:Aq)(hq:q.kind=5)(x:Int)(c:Dig)(e:Int)(p:PS cfg glK 57 [vwG v] (.tup [.int .i64 x,dW c,.int .i64 e])):PS cfg glK 123 [ruG r,vwG v,aqW q] (rpW ⟨q.kind,e,x,c,⟨0,0⟩,rcZ,prZV⟩):=by
 refine gIv 27 Y (λR k0=>gF 0 Y (eqI_not.2 Xd) (gF 6 Y (eqI_not.2 Xd) (gF 6 Y (eqI_not.2 Xd) (gT 6 Y (eqI_iff.2 (hq)) (gC 7 Y (p) (zfq 38 Y (yzq Xm Y ?_)))))))
 (repeat (first|exact .nil|refine .cons ?_ ?_|exact zBq|exact yXq|exact qnq|(refine .pur ?_;first|rfl|(focus (simp;done)))|refine .agg ?_))
theorem rrd_no(r:Ru)(v:Vw)(q:Aq)(hq:q.kind≠2/\q.kind≠3/\q.kind≠4/\q.kind≠5):PS cfg glK 123 [ruG r,vwG v,aqW q] (rpW ⟨q.kind,8,0,z5q,⟨0,0⟩,rcZ,prZV⟩):=by
 refine gIv 27 Y (λR k0=>gF 0 Y (eqI_not.2 Xd) (gF 6 Y (eqI_not.2 Xd) (gF 6 Y (eqI_not.2 Xd) (gF 6 Y (eqI_not.2 Xd) (zfq 17 Y (yzq Xm Y ?_))))))
 (repeat (first|exact .nil|refine .cons ?_ ?_|exact zBq|exact yXq|exact qnq|(refine .pur ?_;first|rfl|(focus (simp;done)))|refine .agg ?_))
theorem rread_no(r:Ru)(v:Vw)(q:Aq)(hc:OkC v.ch)(hm:¬MayV v):PS cfg glK 49 [ruG r,vwG v,aqW q] (rpW ⟨q.kind,8,0,z5q,⟨0,0⟩,rcZ,prZV⟩):=by
 refine gIv 12 Y (λR k0=>gC 0 Y (yfq (w':=.bool false) (xGq v hc) (by rw[decide_eq_false (hm)])) (zfq 14 Y (yzq Xm Y ?_)))
 (repeat (first|exact .nil|refine .cons ?_ ?_|exact zBq|exact yXq|exact qnq|(refine .pur ?_;first|rfl|(focus (simp;done)))|refine .agg ?_))
theorem uWq(r:Ru)(v:Vw)(q:Aq)(hc:OkC v.ch)(hm:MayV v)(x:Rp)(p:PS cfg glK 123 [ruG r,vwG v,aqW q] (rpW x)):PS cfg glK 49 [ruG r,vwG v,aqW q] (rpW x):=by
 exact gI 12 Y (λR k0=>gC 0 Y (yfq (w':=.bool true) (xGq v hc) Yq) (gC 11 Y (p) (gQa 4 Y)))
theorem it_eq:eqW cfg 300 106 zIt zIt=some true:=by kernel_rfl
set_option maxRecDepth 100000 in
theorem rsame22_s(x:Rp):PS cfg glK 47 [rpW x,rpW x] (.bool true):=by
 have hp:=x.pr.same;exact gI 13 Y (λR k0=>gT 0 Y (eqI_iff.2 (rfl)) (gT 5 Y (eqI_iff.2 (rfl)) (gT 6 Y (eqI_iff.2 (rfl)) (zfq 6 Y (jRq (w':=.bool true) rfl (y2q Y Y Y Y (qfq Y Y Y Y Y Y x.dig x.dig 250)) Qe (zJq 6 Y (jRq (w':=.bool true) rfl (y2q Y Y Y Y (eq_acct x.acct x.acct)) Qe (zJq 6 Y (jRq (w':=.bool true) rfl (y2q Y Y Y Y (eq_rc x.rc x.rc)) Qe (zJq 6 Y (gC 0 Y hp (gT 6 Y (eqI_iff.2 (rfl)) (zfq 6 Y (jRq (w':=.bool true) rfl (y2q Y Y Y Y it_eq) Y (zJq 5 Y (gQa 0 Y))))))))))))))))
theorem areads_g(r:Ru)(v:Vw)(q:Aq)(hc:OkC v.ch)(g:uKq v.ch 6):PS cfg glK 6 [ruG r,vwG v,aqW q] (.bool true):=by
 exact gI 11 Y (λR k0=>gC 0 Y (yfq (w':=.bool true) (greatv_s v 6 hc.nodes hc.len) (by rw[decide_eq_true (g)])) (gQa 15 Y))
theorem kJq(r:Ru)(v:Vw)(q:Aq)(hc:OkC v.ch)(g:¬uKq v.ch 6)(x:Rp)(p1:PS cfg glK 48 [ruG r,vwG v,aqW q] (rpW x))(p2:PS cfg glK 49 [ruG r,vwG v,aqW q] (rpW x)):PS cfg glK 6 [ruG r,vwG v,aqW q] (.bool true):=by
 exact gI 11 Y (λR k0=>gC 0 Y (yfq (w':=.bool false) (greatv_s v 6 hc.nodes hc.len) (by rw[decide_eq_false (g)])) (gC 4 Y (p1) (gC 3 Y (p2) (gC 0 Y (rsame22_s x) (gQa 5 Y)))))
theorem areads_s(r:Ru)(v:Vw)(q:Aq)(hc:OkC v.ch):PS cfg glK 6 [ruG r,vwG v,aqW q] (.bool true):=by
 by_cases g:uKq v.ch 6
 ·exact areads_g r v q hc g
 have sc:=greatc_small Xo g;by_cases hm:MayV v
 ·obtain⟨y,hy,_,_⟩:=hm.1.last;obtain⟨n,t0,hA,hver⟩:=hm.1.head hy;have hA2:IsT (verT v.ch y.root) n t0:=hver▸hA.toIsT
  by_cases k2:q.kind=2
  ·have o:=rvof_s v hc sc hy hm.1.one n t0 hA2 q.key;rw[<-acct_in hA2 q.key] at o;exact kJq r v q hc g _ (rd_acc r v q k2 _ _ (vacc_s v hc hm q.key hy hA)) (uWq r v q hc hm _ (rrd_acc r v q k2 _ o))
  by_cases k3:q.kind=3
  ·have q2:=vrec_s v hc hm q.key;have q2':=rvrec_s v hc hm q.key;obtain⟨i,c,e,er⟩:∃i r g,recA (utq v.ch q.key)= .tup [.int .i64 i,rcW r,.int .i64 g]:=by cases utq v.ch q.key<;>exact⟨_,_,_,rfl⟩
   rw[er] at q2 q2';exact kJq r v q hc g _ (rd_rec r v q k3 _ _ _ q2) (uWq r v q hc hm _ (rrd_rec r v q k3 _ _ _ q2'))
  by_cases k4:q.kind=4
  ·by_cases hT:TolV v r.window q.height
   ·obtain⟨j,hj⟩:=Int.eq_ofNat_of_zero_le hT.1;obtain⟨x,hx⟩:∃x,v.ch.links[j]? =some x:=⟨_,List.getElem?_eq_getElem (by have:=hT.2.1;omega)⟩
    obtain⟨n2,t2,hB⟩:=(hm.1.link j x hx).tree;obtain⟨p,hp⟩:=proof_v hB.toIsT q.key;have p3:=vproof_s v hc sc hm r.window j q.key (hj▸hT) hx n2 t2 hB.toIsT;have q3:=rvproof_s v hc hm r.window j q.key (hj▸hT) hx n2 t2 hB.toIsT;rw[hp,<-hj] at p3 q3;exact kJq r v q hc g _ (rd_prf r v q k4 _ _ _ p3) (uWq r v q hc hm _ (rrd_prf r v q k4 _ _ _ q3))
   ·have p3:=vproof_gone v hc hm r.window q.height q.key hT;have q3:=rvproof_gone v hc hm r.window q.height q.key hT;rw[prZ_v] at p3 q3;exact kJq r v q hc g _ (rd_prf r v q k4 _ _ _ p3) (uWq r v q hc hm _ (rrd_prf r v q k4 _ _ _ q3))
  by_cases k5:q.kind=5
  ·exact kJq r v q hc g _ (rd_head r v q k5 _ _ _ (vhead2_s v hc hm hy)) (uWq r v q hc hm _ (rrd_head r v q k5 _ _ _ (rvhead_s v hc hm hy)))
  exact kJq r v q hc g _ (rd_no r v q ⟨k2,k3,k4,k5⟩) (uWq r v q hc hm _ (rrd_no r v q ⟨k2,k3,k4,k5⟩))
 ·refine kJq r v q hc g ⟨q.kind,8,0,z5q,⟨0,0⟩,rcZ,prZV⟩ ?_ (rread_no r v q hc hm);by_cases k2:q.kind=2
  ·exact rd_acc r v q k2 _ _ (vacc_no v hc hm q.key)
  by_cases k3:q.kind=3
  ·exact rd_rec r v q k3 _ _ _ (vrec_no v hc hm q.key)
  by_cases k4:q.kind=4
  ·have p3:=vproof_no v hc hm r.window q.height q.key;rw[prZ_v] at p3;exact rd_prf r v q k4 _ _ _ p3
  by_cases k5:q.kind=5
  ·exact rd_head r v q k5 _ _ _ (vhead_no v hc hm)
  exact rd_no r v q ⟨k2,k3,k4,k5⟩
end
theorem fit_rc{w:W}(h:Fit (.st 34 [.int .u8,.arr 32 1 (.int .u8),.int .i64]) w):∃r:RcI,w=rcW r/\True:=by
 obtain⟨l,rfl,w1,l1,rfl,h1,w2,l2,rfl,h2,w3,l3,rfl,h3,rfl⟩:=h;obtain⟨k,rfl,_⟩:=fit_u8 h1;obtain⟨d,rfl⟩:=jFq h2;obtain⟨c,rfl,_⟩:=qeq h3;exact⟨⟨k,d,c⟩,rfl,trivial⟩
theorem fit_link{w:W}(h:Fit (.st 102 [.st 98 [.int .i64,.arr 32 1 (.int .u8),.arr 32 1 (.int .u8),.arr 32 1 (.int .u8),.int .i64],.int .i64,.st 2 [.sl 34 48 (.st 34 [.int .u64,.arr 32 1 (.int .u8),.int .u64]),.sl 99 120 (.st 99 [.arr 32 1 (.int .u8),.arr 32 1 (.int .u8),.int .u64,.int .u64,.int .u64,.arr 32 1 (.int .u8)])],.sl 34 48 (.st 34 [.int .u8,.arr 32 1 (.int .u8),.int .i64])]) w):∃x:Lk,w=lkG x/\BodOk x.ds x.xs/\x.rs.length<=4611686018427387903:=by
 obtain⟨l,rfl,w1,l1,rfl,h1,w2,l2,rfl,h2,w3,l3,rfl,h3,w4,l4,rfl,h4,rfl⟩:=h;obtain⟨p,rfl,_⟩:=fit_hdr h1;obtain⟨r,rfl,_⟩:=qeq h2;obtain⟨ds,xs,rfl,hB⟩:=fit_body h3;obtain⟨rs,rfl,hl,_⟩:=fit_sl h4 λx hx=>fit_rc hx
 exact⟨⟨p,r,ds,xs,rs⟩,rfl,hB,by show rs.length<=_;omega⟩
theorem fit_chain{w:W}(h:Fit (.st 3 [.st 2 [.sl 36 80 (.st 36 [.bool,.arr 32 1 (.int .u8),.sl 1 1 (.int .u8),.int .i64,.int .i64]),.int .i64],.sl 102 192 (.st 102 [.st 98 [.int .i64,.arr 32 1 (.int .u8),.arr 32 1 (.int .u8),.arr 32 1 (.int .u8),.int .i64],.int .i64,.st 2 [.sl 34 48 (.st 34 [.int .u64,.arr 32 1 (.int .u8),.int .u64]),.sl 99 120 (.st 99 [.arr 32 1 (.int .u8),.arr 32 1 (.int .u8),.int .u64,.int .u64,.int .u64,.arr 32 1 (.int .u8)])],.sl 34 48 (.st 34 [.int .u8,.arr 32 1 (.int .u8),.int .i64])])]) w):∃c:Ch,w=chG c/\OkC c:=by
 obtain⟨l,rfl,w1,l1,rfl,h1,w2,l2,rfl,h2,rfl⟩:=h;obtain⟨t,rfl,ht,_⟩:=fit_tree h1;obtain⟨ls,rfl,hl,hx⟩:=fit_sl h2 λx hx=>fit_link hx
 exact⟨⟨t,ls⟩,rfl,λx h=>(hx x h).1,by show t.nodes.length<=_;omega,by show ls.length<=_;omega,λx h=>(hx x h).2⟩
theorem fit_view{w:W}(h:Fit (.st 6 [.int .i64,.bool,.int .i64,.st 3 [.st 2 [.sl 36 80 (.st 36 [.bool,.arr 32 1 (.int .u8),.sl 1 1 (.int .u8),.int .i64,.int .i64]),.int .i64],.sl 102 192 (.st 102 [.st 98 [.int .i64,.arr 32 1 (.int .u8),.arr 32 1 (.int .u8),.arr 32 1 (.int .u8),.int .i64],.int .i64,.st 2 [.sl 34 48 (.st 34 [.int .u64,.arr 32 1 (.int .u8),.int .u64]),.sl 99 120 (.st 99 [.arr 32 1 (.int .u8),.arr 32 1 (.int .u8),.int .u64,.int .u64,.int .u64,.arr 32 1 (.int .u8)])],.sl 34 48 (.st 34 [.int .u8,.arr 32 1 (.int .u8),.int .i64])])]]) w):∃v:Vw,w=vwG v/\OkC v.ch/\(-9223372036854775808<=v.number/\v.number<=9223372036854775807)/\(-9223372036854775808<=v.final/\v.final<=9223372036854775807):=by
 obtain⟨l,rfl,w1,l1,rfl,h1,w2,l2,rfl,h2,w3,l3,rfl,h3,w4,l4,rfl,h4,rfl⟩:=h;obtain⟨n,rfl,hn⟩:=qeq h1;obtain⟨b,rfl⟩:=fit_bool h2;obtain⟨f,rfl,hf⟩:=qeq h3;obtain⟨c,rfl,hc⟩:=fit_chain h4;exact⟨⟨n,b,f,c⟩,rfl,hc,hn,hf⟩
theorem fit_rul{w:W}(h:Fit (.st 38 [.int .i64,.int .i64,.int .i64,.int .i64,.int .i64,.int .i64,.arr 32 1 (.int .u8)]) w):∃r:Ru,w=ruG r:=by
 obtain⟨l,rfl,w1,l1,rfl,h1,w2,l2,rfl,h2,w3,l3,rfl,h3,w4,l4,rfl,h4,w5,l5,rfl,h5,w6,l6,rfl,h6,w7,l7,rfl,h7,rfl⟩:=h;obtain⟨a,rfl,_⟩:=qeq h1;obtain⟨b,rfl,_⟩:=qeq h2;obtain⟨c,rfl,_⟩:=qeq h3;obtain⟨d,rfl,_⟩:=qeq h4;obtain⟨e,rfl,_⟩:=qeq h5;obtain⟨f,rfl,_⟩:=qeq h6;obtain⟨g,rfl⟩:=jFq h7;exact⟨⟨a,b,c,d,e,f,g⟩,rfl⟩
theorem fit_ask{w:W}(h:Fit (.st 134 [.int .u8,.st 99 [.arr 32 1 (.int .u8),.arr 32 1 (.int .u8),.int .u64,.int .u64,.int .u64,.arr 32 1 (.int .u8)],.arr 32 1 (.int .u8),.int .i64,.int .i64]) w):∃q:Aq,w=aqW q:=by
 obtain⟨l,rfl,w1,l1,rfl,h1,w2,l2,rfl,h2,w3,l3,rfl,h3,w4,l4,rfl,h4,w5,l5,rfl,h5,rfl⟩:=h;obtain⟨k,rfl,_⟩:=fit_u8 h1;obtain⟨x,rfl,_⟩:=fit_tx h2;obtain⟨d,rfl⟩:=jFq h3;obtain⟨a,rfl,_⟩:=qeq h4;obtain⟨b,rfl,_⟩:=qeq h5;exact⟨⟨(k.toNat:Int),x,d,a,b⟩,rfl⟩
mutual
/-- all blocks in it lie below n -/
noncomputable def ltB(n:Nat):V->Bool
 |.ptr b _=>decide (b<n)
 |.sl b _ _ _ _ _=>decide (b<n)
 |.map b=>decide (b<n)
 |.yield b=>decide (b<n)
 |.fn _ a c=>ltL n a&&ltL n c
 |.iface _ v=>ltB n v
 |.agg _ l=>ltL n l
 |.arr _ _ l=>ltL n l
 |.tup l=>ltL n l
 |.undef=>true
 |.bool _=>true
 |.int _ _=>true
 |.str _=>true
 |.nilp=>true
 |.nils=>true
 |.nilm=>true
 |.nilf=>true
 |.nili=>true
noncomputable def ltL(n:Nat):List V->Bool
 |[]=>true
 |v::l=>ltB n v&&ltL n l
end
noncomputable def SeenK(h:Heap):Nat->Prop:=λb=>b<h.next/\∃v,h.val b=some v/\ltB h.next v=true
noncomputable def u32V(n:Nat):V:=.int .u32 (.ofNat n)
noncomputable def eqK:List V->List Nat->Bool
 |[],[]=>true
 |.int .u32 (.ofNat n)::l,m::ms=>match Nat.beq n m with
  |true=>eqK l ms
  |false=>false
 |_,_=>false
theorem eqK_spec:∀{l:List V} {ms:List Nat},eqK l ms=true->l=ms.map u32V
 |[],[],_=>rfl
 |[],_::_,h=>by simp[eqK] at h
 |v::l,ms,h=>by
  unfold eqK at h;split at h
  ·simp_all
  ·rename_i n l' m ms' e;cases e;split at h
   ·rename_i hb;obtain rfl:=Nat.eq_of_beq_eq_true hb;rw[eqK_spec h];rfl
   ·cases h
  ·cases h
noncomputable def globK(h:Heap):Bool:=match h.get 0 with
 |some (.ro (.arr 64 1 l))=>eqK l kW
 |_=>false
theorem RSL_wd(Γ:Ctx):∀l:List Nat,RSL Γ (l.map wd) (l.map u32V)
 |[]=>rfl
 |n::l=>qDq (a:=[u32V n]) (b:=l.map u32V) (x:=wd n) rfl (RSL_wd Γ l)
theorem globK_spec{h:Heap}(hn:Nat.ble 2 h.next=true)(hk:globK h=true):GRel cfg glK ⟨0,λi=>i,SeenK h,h⟩:=by
 intro g w _ h2 nw σ;have hn:=Yb hn;unfold glK at h2;split at h2
 ·cases h2;unfold globK at hk;split at hk
  ·rename_i l hg;obtain rfl:=eqK_spec hk;have hv:h.val 0=some (.arr 64 1 (kW.map u32V)):=by simp only[Heap.val,hg]
   refine RV.of_one ⟨0,0,_,rfl,⟨by omega,_,hv,by rfl⟩,hv,by exact Nat.le_refl _,λ_=>rfl,.inr rfl,?_⟩ Y Y;have e:((zlq (.arr 64 1 (kW.map u32V))).drop 0).take 64=kW.map u32V:=by kernel_rfl
   show RS _ _ (((zlq (.arr 64 1 (kW.map u32V))).drop 0).take 64);rw[e];exact⟨rfl,λx hx=>by obtain⟨n,_,rfl⟩:=List.mem_map.1 hx;rfl,RSL_wd _ kW⟩
  ·cases hk
 ·cases h2
end
end Go.Proofs.YtihcioafclhokaaGreatDoor

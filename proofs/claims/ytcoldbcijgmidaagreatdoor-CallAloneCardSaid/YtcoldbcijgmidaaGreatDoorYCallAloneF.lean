/- CallAlone's ground, part 6. No condition. -/
import Derived.Ground.Names2Prog
import Derived.Ground.SlbNamesProg
import Derived.Shelf.Bytes.SlJoin
import Derived.Ground.SlgnProg
import Derived.Test.YtcoldbcijgmidaaGreatDoorYCallAloneE
set_option linter.unusedSimpArgs false
set_option linter.unusedVariables false
namespace Go.Proofs.YtcoldbcijgmidaaGreatDoor
noncomputable section
theorem zN{m:Int}:(!eqI m m)=(!true):=congrArg not (eqI_iff.2 rfl)
theorem vR{b:Nat->Option W}{w:W}{l k:List W}(x:ViewL b l k)(h:aaq w=true:=by rfl):ViewL b (w::l) (w::k):=.cons (.pur h) x
@[irreducible] def bitN(k:Dig)(i:Nat):Nat:=kn k (i/8)/2^(7-i%8)%2
theorem jgq(k:Dig)(i:Nat):bitN k i<=1:=by unfold bitN;omega
theorem dQq(m n:Nat)(a:m<=255)(b:n<=255):m^^^n<=255:=by
 have:m^^^n<2^8:=Nat.xor_lt_two_pow Xd Xd;omega
theorem pyq(n:Nat):2^(7-n)<=255:=by
 have h:∀m,m<=7->2^m<=255:=by decide
 exact h _ Xd
@[irreducible] def joq(k:Dig)(i:Nat):Dig:=wYq k (i/8) (UInt8.ofNat (kn k (i/8)^^^2^(7-i%8)))
@[irreducible] def lenM(x:Nat):Nat:=if x=0 then 0 else Nat.log2 x+1
theorem deq(x:Nat)(a:x<=255):lenM x<=8:=by
 have h:∀x,x<=255->lenM x<=8:=by decide+kernel
 exact h x a
def dOf(a b:Dig)(i:Nat):Nat×Nat:=(i,kn a i^^^kn b i)
@[irreducible] def dTo(a b:Dig)(n:Nat):List (Nat×Nat):=((List.range n).map (dOf a b)).filter (λp=>p.2 !=0)
theorem ovq(a b:Dig):dTo a b 0=[]:=by unfold dTo;rfl
theorem Zuq(a b:Dig)(n:Nat):dTo a b (n+1)=dTo a b n++(if kn a n^^^kn b n=0 then [] else [dOf a b n]):=by
 unfold dTo;rw[List.range_succ,Z4,List.filter_append];congr 1
 simp only[ZD,List.map_nil,List.filter_cons,List.filter_nil,dOf];split<;>split<;>simp_all
theorem ttq(a b:Dig)(n m:Nat):dTo a b n<+:dTo a b (n+m):=by
 induction m with
 |zero=>exact List.prefix_refl _
 |succ m c=>rw[<-ZM,Zuq];exact c.trans (List.prefix_append _ _)
theorem lgq(a b:Dig)(i n:Nat)(f:i<n)(c:kn a i^^^kn b i≠0):(dTo a b n)[(dTo a b i).length]? =some (dOf a b i):=by
 obtain⟨m,rfl⟩:∃m,n=(i+1)+m:=⟨n-(i+1),by omega⟩
 obtain⟨l,d⟩:=ttq a b (i+1) m;rw[<-d,Zuq,Zg c];simp
theorem lfq{a b:Dig}{n:Nat}{x:Nat×Nat}(h:x∈dTo a b n):x.1<n/\x.2=kn a x.1^^^kn b x.1/\x.2≠0:=by
 unfold dTo at h;rw[List.mem_filter,Z2] at h;obtain⟨⟨i,c,rfl⟩,d⟩:=h;exact⟨List.mem_range.1 c,rfl,by simpa using d⟩
@[irreducible] def ynq(a b:Dig):Nat:=match dTo a b 32 with
 |[]=>256
 |x::_=>8*x.1+(8-lenM x.2)
@[irreducible] def yrq(a b:Dig):Bool:=match dTo a b 32 with
 |[]=>false
 |x::_=>decide (kn a x.1<kn b x.1)
theorem oMq:∀x,x<256->x≠0->lenM x<=8/\1<=lenM x/\x.testBit (lenM x-1)=true/\∀k,k<8->lenM x-1<k->x.testBit k=false:=by decide+kernel
theorem jaq(m k:Nat):m/2^k%2=(m.testBit k).toNat:=by rw[Nat.toNat_testBit]
theorem pHq{m n L:Nat}(h:∀k,L<k->m.testBit k=n.testBit k)(a:m.testBit L=false)(j:n.testBit L=true):m<n:=by
 have d:m/2^(L+1)=n/2^(L+1):=by
  apply Nat.eq_of_testBit_eq;intro i;rw[Nat.testBit_div_two_pow,Nat.testBit_div_two_pow];exact h _ Xd
 have e:∀x,x/2^(L+1)=x/2^L/2:=λx=>by rw[Nat.pow_succ,Nat.div_div_eq_div_mul]
 have f:m/2^L%2=0:=by rw[jaq,a];rfl
 have g:n/2^L%2=1:=by rw[jaq,j];rfl
 rw[e,e] at d;have:m/2^L<n/2^L:=by omega
 exact Nat.lt_of_not_le λb=>by have:=Nat.div_le_div_right (c:=2^L) b;omega
theorem Xlq(m n:Nat)(u:m<=255)(C:n<=255)(x:m^^^n≠0):
  1<=lenM (m^^^n)/\lenM (m^^^n)<=8/\(∀t,t<8-lenM (m^^^n) ->m/2^(7-t)%2=n/2^(7-t)%2)/\
   ¬m/2^(lenM (m^^^n) -1)%2=n/2^(lenM (m^^^n) -1)%2/\(m<n↔m/2^(lenM (m^^^n) -1)%2<n/2^(lenM (m^^^n) -1)%2):=by
 have A:=dQq m n u C;obtain⟨z,B,f,q⟩:=oMq (m^^^n) Xd x
 have b:∀k,lenM (m^^^n) -1<k->m.testBit k=n.testBit k:=λk j=>by
  by_cases g:k<8
  .have:=q k g j;rw[Nat.testBit_xor] at this;revert this;cases m.testBit k<;>cases n.testBit k<;>simp
  .have l:m<2^k:=Zv (show m<2^8 by omega) (Y7 Xd Xd);have o:n<2^k:=Zv (show n<2^8 by omega) (Y7 Xd Xd);rw[Nat.testBit_lt_two_pow l,Nat.testBit_lt_two_pow o]
 rw[Nat.testBit_xor] at f;refine⟨B,z,λt D=>?_,?_,?_⟩
 .rw[jaq,jaq,b _ Xd]
 .rw[jaq,jaq];revert f;cases m.testBit (lenM (m^^^n) -1)<;>cases n.testBit (lenM (m^^^n) -1)<;>simp
 .rw[jaq,jaq];cases c:m.testBit (lenM (m^^^n) -1)<;>cases d:n.testBit (lenM (m^^^n) -1)<;>simp only[c,d] at f
  .simp at f
  .have:=pHq b c d;simp[this]
  .have:=pHq (λk j=>(b k j).symm) d c;simp;omega
  .simp at f
theorem xor_zero{m n:Nat}:m^^^n=0↔m=n:=by
 constructor
 .intro h;apply Nat.eq_of_testBit_eq;intro i;have:(m^^^n).testBit i=false:=by rw[h];simp
  rw[Nat.testBit_xor] at this;revert this;cases m.testBit i<;>cases n.testBit i<;>simp
 .rintro rfl;exact Nat.xor_self m
theorem dEq{a b:Dig}{n:Nat}(h:dTo a b n=[]):∀i,i<n->kn a i=kn b i:=λi f=>by
 rcases Classical.em (kn a i^^^kn b i=0) with d|d
 .exact xor_zero.1 d
 .have:=lgq a b i n f d;rw[h] at this;simp at this
theorem Zvq{a b:Dig}{x:Nat×Nat}{l:List (Nat×Nat)}:∀{n:Nat},dTo a b n=x::l->x.1<n/\x.2=kn a x.1^^^kn b x.1/\x.2≠0/\∀i,i<x.1->kn a i=kn b i:=by
 intro n h;obtain⟨g,j,k⟩:=lfq (a:=a) (b:=b) (n:=n) (x:=x) (by rw[h];simp);refine⟨g,j,k,?_⟩;revert l
 induction n with
 |zero=>omega
 |succ n f=>
  intro l h;rw[Zuq] at h;cases c:dTo a b n with
  |nil=>
   have:=dEq c;intro i m;exact this i Xd
  |cons y r=>
   rw[c] at h;have e:y=x:=by simpa using Zc List.head? h
   subst e;have d:=(lfq (a:=a) (b:=b) (n:=n) (x:=y) (by rw[c];simp)).1;exact f d c
def Xxq(a b:Dig)(s:Nat):Prop:=(∀j,j<s->bitN a j=bitN b j)/\(s=256\/(s<256/\¬bitN a s=bitN b s))
theorem umq(a b:Dig):Xxq a b (ynq a b):=by
 unfold ynq;cases g:dTo a b 32 with
 |nil=>
  have h:=dEq g;exact⟨λj k=>by simp only at k;unfold bitN;rw[h (j/8) Xd],.inl rfl⟩
 |cons x l=>
  obtain⟨A,p,t,q⟩:=Zvq g;simp only;have m:=Xlq (kn a x.1) (kn b x.1) (Ziq _ _) (Ziq _ _) (by rw[<-p];exact t);rw[<-p] at m;obtain⟨B,z,s,y,-⟩:=m;refine⟨λj k=>?_,.inr ⟨by omega,?_⟩⟩
  .unfold bitN;by_cases c:j/8<x.1
   .rw[q _ c]
   .have e:j/8=x.1:=by omega
    rw[e];exact s (j%8) Xd
  .unfold bitN;rw[show(8*x.1+(8-lenM x.2))/8=x.1 by omega,show 7-(8*x.1+(8-lenM x.2))%8=lenM x.2-1 by omega];exact y
theorem cSq{a b:Dig}{s t:Nat}(l:Xxq a b s)(j:Xxq a b t):s=t:=by
 obtain⟨i,f⟩:=l;obtain⟨k,d⟩:=j;rcases Nat.lt_trichotomy s t with h|h|h
 .have:=k s h;rcases f with f|⟨_,f⟩
  .omega
  .exact absurd this f
 .exact h
 .have:=i t h;rcases d with d|⟨_,d⟩
  .omega
  .exact absurd this d
theorem oYq(a b:Dig):yrq a b=decide (ynq a b<256/\bitN a (ynq a b)<bitN b (ynq a b)):=by
 unfold yrq ynq;cases g:dTo a b 32 with
 |nil=>simp
 |cons x l=>
  obtain⟨n,f,i,o⟩:=Zvq g;simp only;have d:=Xlq (kn a x.1) (kn b x.1) (Ziq _ _) (Ziq _ _) (by rw[<-f];exact i);rw[<-f] at d;obtain⟨p,m,k,q,j⟩:=d;refine YZ.2 ?_;unfold bitN;rw[show(8*x.1+(8-lenM x.2))/8=x.1 by omega,show 7-(8*x.1+(8-lenM x.2))%8=lenM x.2-1 by omega,j];constructor
  .exact λh=>⟨by omega,h⟩
  .exact λh=>h.2
theorem hiq(a b:Dig):ynq a b<=256:=by
 rcases(umq a b).2 with h|h<;>omega
theorem nyq(n:Nat)(h:n<=255):(UInt8.ofNat n).toNat=n:=by simp;omega
theorem iyq(k:Dig)(i j:Nat)(a:j<32)(b:i<256):kn (joq k i) j=if j=i/8 then kn k j^^^2^(7-i%8) else kn k j:=by
 unfold joq;rw[AQq _ _ _ _ a];by_cases h:i/8=j
 .rw[Zl h,Zl h.symm,h,nyq];exact dQq _ _ (Ziq _ _) (pyq _)
 .rw[Zg h,Zg (λe=>h e.symm)]
theorem Jgq(k:Dig)(i j:Nat)(b:i<256)(c:j<256)(h:¬j=i):bitN (joq k i) j=bitN k j:=by
 unfold bitN;rw[iyq _ _ _ Xd b];by_cases a:j/8=i/8
 .rw[Zl a,jaq,jaq,Nat.testBit_xor,Nat.testBit_two_pow_of_ne Xd];simp
 .rw[Zg a]
theorem Jhq(k:Dig)(i:Nat)(a:i<256):bitN (joq k i) i=1-bitN k i:=by
 unfold bitN;rw[iyq _ _ _ Xd a,Zl rfl,jaq,jaq,Nat.testBit_xor,Nat.testBit_two_pow_self];cases (kn k (i/8)).testBit (7-i%8)<;>rfl
theorem shared_eq{a b:Dig}:ynq a b=256↔a=b:=by
 constructor
 .intro h;cases d:dTo a b 32 with
  |nil=>exact tqq (dEq d)
  |cons x l=>
   exfalso
   obtain⟨k,f,j,m⟩:=Zvq d;have g:=Xlq (kn a x.1) (kn b x.1) (Ziq _ _) (Ziq _ _) (by rw[<-f];exact j);rw[<-f] at g;unfold ynq at h;rw[d] at h;simp only at h;omega
 .rintro rfl;rcases(umq a a).2 with h|⟨_,h⟩
  .exact h
  .exact absurd rfl h
theorem yNq{a b:Dig}{d:Nat}(q:d<=256):d<=ynq a b↔∀j,j<d->bitN a j=bitN b j:=by
 obtain⟨l,k⟩:=umq a b;constructor
 .exact λh j p=>l j Xd
 .intro h;rcases k with k|⟨k,h3⟩
  .omega
  .exact Nat.le_of_not_lt λf=>h3 (h _ f)
theorem Y4q{a b:Dig}(h:∀j,j<256->bitN a j=bitN b j):a=b:=by
 have:=(yNq (a:=a) (b:=b) (d:=256) (Zb _)).2 h;have:=hiq a b;exact shared_eq.1 Xd
theorem ahead_iff{a b:Dig}:yrq a b=true↔∃s,s<256/\(∀j,j<s->bitN a j=bitN b j)/\bitN a s=0/\bitN b s=1:=by
 rw[oYq];have d:=umq a b;constructor
 .intro h;have h:=YF h;refine⟨ynq a b,h.1,d.1,?_,?_⟩<;>(have:=jgq b (ynq a b);omega)
 .rintro⟨s,c,e,g,f⟩;have:ynq a b=s:=cSq d ⟨e,.inr ⟨c,by omega⟩⟩;rw[this];exact Zq ⟨c,by omega⟩
theorem vaq{a b:Dig}(h:yrq a b=true):a≠b:=by
 rintro rfl;obtain⟨s,_,_,c,d⟩:=ahead_iff.1 h;omega
theorem Yaq(a:Dig):yrq a a=false:=by
 cases h:yrq a a with
 |false=>rfl
 |true=>exact absurd rfl (vaq h)
theorem vPq{a b c:Dig}(m:yrq a b=true)(p:yrq b c=true):yrq a c=true:=by
 obtain⟨s,i,f,l,q⟩:=ahead_iff.1 m;obtain⟨t,o,g,k,v⟩:=ahead_iff.1 p;refine ahead_iff.2 ?_;rcases Nat.lt_trichotomy s t with h|h|h
 .exact⟨s,i,λj d=>(f j d).trans (g j Xd),l,by rw[<-g s h];exact q⟩
 .subst h;omega
 .exact⟨t,o,λj d=>(f j Xd).trans (g j d),by rw[f t h];exact k,v⟩
theorem kWq{a b:Dig}(h:yrq a b=true):yrq b a=false:=by
 cases c:yrq b a with
 |false=>rfl
 |true=>have:=vPq h c;rw[Yaq] at this;cases this
theorem Jkq{a b:Dig}(h:a≠b):yrq a b=true\/yrq b a=true:=by
 have f:=umq a b;have d:ynq a b≠256:=λe=>h (shared_eq.1 e)
 rcases f.2 with g|⟨h1,g⟩
 .exact absurd g d
 .have q:=jgq a (ynq a b);have p:=jgq b (ynq a b);rcases YS (bitN a (ynq a b)) with k|k
  .exact .inl (ahead_iff.2 ⟨_,h1,f.1,k,by omega⟩)
  .exact .inr (ahead_iff.2 ⟨_,h1,λj o=>(f.1 j o).symm,by omega,by omega⟩)
section
open Go.RowKit
section
attribute [local irreducible] CoW OpW FlW aeq ajq
variable {G:Nat->Option W}
theorem dYq(a b:Nat):((a:Int)).tdiv (b:Int)=((a/b:Nat):Int):=by rw[Int.tdiv_eq_ediv_of_nonneg Xd];rfl
theorem Kqq(a b:Nat):((a:Int)).tmod (b:Int)=((a%b:Nat):Int):=by rw[Int.tmod_eq_emod_of_nonneg Xd];rfl
theorem ldq(k:Dig){i:Nat}(h:i<32):zGq 50 (dW k) (0+i*1) 1 false=some (.int .u8 (kn k i:Nat)):=by rw[ZG];exact ceq k h
theorem tKq(x n:Nat)(d:n<=7)(b:x<=255):Nat.land (Nat.shiftRight x (min n 8)%256) (1%256)=x/2^n%2:=by
 have a:Nat.shiftRight x (min n 8)=x/2^n:=by rw[show min n 8=n by omega];exact Nat.shiftRight_eq_div_pow x n
 have c:=Nat.div_le_self x (2^n);rw[a,YV Xd];exact Nat.and_one_is_mod _
theorem BOq(k:Dig)(i:Nat)(h:i<256):PS cfg G 217 [dW k,.int .i64 (i:Int)] (.tup [.int .u8 (bitN k i:Nat),.int .i64 0]):=by
 have d:=Ziq k (i/8);refine gI 11 Y (λR g=>?_);refine gD 0 Y (λb=>?_) (λb=>?_)
 .exfalso;omega
 refine gU 2 Y ?_;refine gS 3 Y (λc=>?_) (λc=>?_)
 .exfalso;omega
 refine gA 5 Y (i/8) (e:=(dYq i 8)) (gP 0 Y (kMq (i:=i/8) Y Y Y Y Y Y Xd) (gM 0 Y (zwq Y Y Y (ldq k Xd)) (gV 1 Y (Zc (W.int .i64) (Kqq i 8)) (gA 0 Y (7-i%8) (gQ 7 Y ?_)))));show W.tup [.int .u8 (Nat.land (Nat.shiftRight (kn k (i/8)) (min (7-i%8) 8)%256) (1%256):Nat),_]=_;rw[tKq _ _ Xd d];unfold bitN;rfl
theorem nPq(s:List UInt8)(h:(List.range 256).all (λx=>s[x]? ==some (UInt8.ofNat (lenM x)))=true)(x:Nat)(b:x<=255):s[x]? =some (UInt8.ofNat (lenM x)):=by
 have:=List.all_eq_true.1 h x (List.mem_range.2 Xd);simpa using this
theorem AOq(x:Nat)(b:x<=255):PS cfg G 276 [.int .u8 (x:Int)] (.int .i64 (lenM x:Nat)):=by
 have c:=deq x b;have e:((UInt8.ofNat (lenM x)).toNat:Int)=(lenM x:Nat):=by congr 1;simp;omega
 exact gI 8 Y (λR d=>gP 0 Y (A0q Y Y Y Y Y (nPq _ (by decide+kernel) x b)) (gA 0 Y (lenM x) (e:=e) (gQa 4 Y)))
theorem Dbq(x:Nat)(a:x<=255):PS cfg G 250 [.int .u8 (x:Int)] (.int .i64 (8-lenM x:Nat)):=by
 have b:=deq x a;exact gI 8 Y (λR c=>gC 0 Y (AOq _ Xd) (gA 0 Y (8-lenM x) (gQa 4 Y)))
def whq(x:Nat×Nat):List W:=[.int .i64 (x.1:Int),.int .u8 (x.2:Int)]
theorem oxq(a b:Dig){i:Nat}(h:i<32)(c:kn a i^^^kn b i≠0):(dTo a b 32).drop (dTo a b i).length=dOf a b i::(dTo a b 32).drop (dTo a b (i+1)).length:=by
 have j:=lgq a b i 32 h c;obtain⟨k,m⟩:=Zk.1 j;have f:=Zuq a b i;rw[Zg c] at f;rw[List.drop_eq_getElem_cons k,m,f];simp
theorem owq(a b:Dig){i:Nat}(c:kn a i^^^kn b i=0):dTo a b (i+1)=dTo a b i:=by rw[Zuq,Zl c,ZT]
theorem DTq(x y:Nat)(a:x<=255)(b:y<=255):Nat.xor (x%256) (y%256)=x^^^y:=by rw[YV Xd,YV Xd];rfl
theorem lTq(a b:Dig):PS cfg G 157 [dW a,dW b] (.fn 214 [] [.fel (dW a),.fel (dW b)]):=by
 refine gI 14 Y (λR d=>?_);refine ySq (fr2:=[(4,_)]) Xo ?_ Y Y
 (repeat (first|exact trivial|refine And.symm ⟨?_,_,rfl,?_⟩))<;>(repeat (first|exact .nil|refine .cons ?_ ?_|refine .fn ?_ ?_|(refine y5q Y ?_ rfl;(first|rfl|(focus (simp;done))))|(refine .sl Y ?_ rfl Xj;(first|rfl|(focus (simp;done))))|(refine .pur ?_;(first|rfl|(focus (simp;done))))|refine .agg ?_|refine .arr ?_|refine .tup ?_))
theorem fpq(a b:Dig):quq cfg G 214 [.fel (dW a),.fel (dW b)] ((dTo a b 32).map whq):=by
 refine xdq (fn:=Tryz.f214) Y Y Y (Yb rfl) (λL E R k D=>?_);refine Zyq 3 (zCq 9 Y ?_);refine fcq (α:=Nat×Res) (λp=>p.1<=32/\Yl cfg G L E (((dTo a b 32).drop (dTo a b p.1).length).map whq) p.2) (λp=>[(6,.int .i64 (p.1:Int))]) [(0,_),(1,_),(2,_)] (λp=>[]) (λp=>p.2) (λp=>32-p.1) ((0,R)) ⟨rfl,rfl,rfl,trivial⟩ (⟨Zf _,by rw[ovq];exact k⟩) ⟨rfl,trivial⟩ Y Y (λp y=>?_);obtain⟨i,R⟩:=p;obtain⟨A,k⟩:=y;simp only at A k;have C:=Ziq a i;have q:=Ziq b i;refine zCq 6 Y ?_;refine gS 0 Y (λz=>?_) (λz=>?_)
 .have j:i<32:=by omega
  refine gP 13 Y (iGq Y Y Y Y Y Y Xd rfl (ceq a j)) (gP 2 Y (iGq Y Y Y Y Y Y Xd rfl (ceq b j)) (gV (w':=.int .u8 ((kn a i^^^kn b i:Nat):Int)) 1 Y (Zc (λn:Nat=>W.int .u8 (n:Int)) (DTq _ _ C q)) ?_));refine gD 6 Y (λB=>?_) (λB=>?_)
  .have w:kn a i^^^kn b i≠0:=by omega
   rw[oxq a b j w,ZD] at k;refine gSo 4 Y (qWq Y Y Y (k) (λb R1 q=>?_));refine gS 4 Y (λx=>?_) (λx=>?_)
   .cases b with
    |true=>cases x
    |false=>
     exact zHq 3 Y (qQq Xj (zRq 1 Y (jsq Ye (j7q (.inl rfl) rfl q))))
   .cases b with
    |false=>exact absurd rfl x
    |true=>
     exact zHq 4 Y (gA 0 Y (i+1) (zbq 2 Y (Kzq ((i+1,R1)) (⟨j,q⟩) Xu (Zf _) ⟨rfl,trivial⟩ ⟨rfl,rfl,rfl,trivial⟩ Xh Xh Xd Xk Xt rfl)))
  .have w:kn a i^^^kn b i=0:=by omega
   rw[<-owq a b w] at k;exact gA 14 Y (i+1) (zbq 2 Y (Kzq ((i+1,R)) (⟨j,k⟩) Xu (Zf _) ⟨rfl,trivial⟩ ⟨rfl,rfl,rfl,trivial⟩ Xh Xh Xd Xk Xt rfl))
 .refine zbq 2 Y (qQq Xj (zRq 1 Y (jsq Ye ?_)));have:i=32:=by omega
  subst this;rw[List.drop_length] at k;exact j7q (.inl rfl) rfl k
theorem i9q{l:List (Nat×Nat)}:∀y∈l,acq (whq y)=true/\(whq y).length=2:=λy _=>⟨rfl,rfl⟩
theorem iLq{a:Type}{l:List a}{x:a}{i:Nat}(h:l[i]? =some x)(b:i=0):∃r,l=x::r:=by
 subst b;cases l with
 |nil=>simp at h
 |cons y r=>simp at h;subst h;exact⟨r,rfl⟩
theorem mSq(a b:Dig):PS cfg G 215 [dW a,dW b] (.int .i64 (ynq a b:Nat)):=by
 refine gI 12 Y (λR q=>gC 0 Y (lTq _ _) (zbq 3 Y ?_));refine xwq (whq) (dTo a b 32) (λi=>i=0) rfl Xm (fpq a b) (i9q) (rfl) (λi y g c=>?_) (λc=>?_)
 .obtain⟨r,f⟩:=iLq g c;obtain⟨k,j,p,l⟩:=Zvq f;have d:=dQq _ _ (Ziq a y.1) (Ziq b y.1);rw[<-j] at d;have m:=deq y.2 d;refine zCq 8 Y (Yxq (zCq 4 Y (gA 0 Y (8*y.1) (gC 1 Y (Dbq _ Xd) (gA 0 Y (8*y.1+(8-lenM y.2)) (zbq 5 Y (jIq Xj (zRq 2 Y (gQ 0 Y ?_)))))))));unfold ynq;rw[f]
 .have:dTo a b 32=[]:=List.eq_nil_of_length_eq_zero c;refine zRq 8 Y (gQ 0 Y ?_);unfold ynq;rw[this];rfl
theorem Xpq(a b:Dig):PS cfg G 89 [dW a,dW b] (.bool (yrq a b)):=by
 refine gI 12 Y (λR p=>gC 0 Y (lTq _ _) (zbq 3 Y ?_));refine xwq (whq) (dTo a b 32) (λi=>i=0) rfl Xm (fpq a b) (i9q) (rfl) (λi y g d=>?_) (λd=>?_)
 .obtain⟨r,f⟩:=iLq g d;obtain⟨c,k,m,j⟩:=Zvq f;refine zCq 3 Y (Yxq (zCq 4 Y (gP 0 Y (kMq (i:=y.1) Y Y Y Y Y Y c) (gM 0 Y (zwq Y Y Y (ldq a c)) (gP 1 Y (kMq (i:=y.1) Y Y Y Y Y Y c) (gM 0 Y (zwq Y Y Y (ldq b c)) (gU 0 Y (zbq 5 Y (jIq Xj (zRq 2 Y (gQ 0 Y ?_)))))))))));unfold yrq;rw[f];congr 1
  simp
 .have:dTo a b 32=[]:=List.eq_nil_of_length_eq_zero d;refine zRq 8 Y (gQ 0 Y ?_);unfold yrq;rw[this]
theorem shr8(n:Nat)(a:n<=7):Nat.shiftRight 128 (min n 8)=2^(7-n):=by
 have h:∀n,n<=7->Nat.shiftRight 128 (min n 8)=2^(7-n):=by decide+kernel
 exact h n a
theorem rFq(k:Dig)(i:Nat)(h:i<256):PS cfg G 216 [dW k,.int .i64 (i:Int)] (.tup [dW (joq k i),.int .i64 0]):=by
 have c:=Ziq k (i/8);have b:=pyq (i%8);have m:=dQq _ _ c b
 have d:Nat.xor (kn k (i/8)%256) (Nat.shiftRight 128 (min (i%8) 8)%256)=kn k (i/8)^^^2^(7-i%8):=by
  rw[shr8 _ Xd];exact DTq _ _ c b
 refine gI 11 Y (λR q=>?_);refine gD 0 Y (λg=>?_) (λg=>?_)
 .exfalso;omega
 refine gU 2 Y ?_;refine gS 3 Y (λj=>?_) (λj=>?_)
 .exfalso;omega
 refine gA 5 Y (i/8) (e:=(dYq i 8)) (gP 0 Y (kMq (i:=i/8) Y Y Y Y Y Y Xd) (gM 0 Y (zwq Y Y Y (ldq k Xd)) (gV 1 Y (Zc (W.int .i64) (Kqq i 8)) (gV (w':=.int .u8 ((kn k (i/8)^^^2^(7-i%8):Nat):Int)) 1 Y (Zc (λn:Nat=>W.int .u8 (n:Int)) d) (gP 0 Y (kMq (i:=i/8) Y Y Y Y Y Y Xd) (gM 0 Y (qmq Y Y Y Y Y (xPq (i:=0+i/8*1) (by rw[ZG,Z6];exact Bqq k Xd) Y Y) rfl) (gQ 10 Y ?_)))))));rw[ZG,Z6,Bpq k (i/8) Xd];unfold joq;rfl
end
end
def beB:Nat->Nat->List UInt8
 |0,_=>[]
 |s+1,n=>UInt8.ofNat (n/256^s%256)::beB s n
def alq(l:List UInt8):Nat:=l.foldl (λa c=>256*a+c.toNat) 0
@[simp] theorem x8q:∀s n,(beB s n).length=s
 |0,_=>rfl
 |s+1,n=>by simp[beB,x8q s n]
theorem ihq(l:List UInt8)(c:UInt8):alq (l++[c])=256*alq l+c.toNat:=by simp[alq,List.foldl_append]
theorem KMq:∀(l:List UInt8) (a:Nat),l.foldl (λa c=>256*a+c.toNat) a=a*256^l.length+alq l
 |[],a=>by simp[alq]
 |c::l,a=>by
  simp only[List.foldl_cons,alq,Zo];rw[KMq l,KMq l (256*0+c.toNat),Nat.pow_succ];simp only[ZQ,Nat.mul_zero,ZG,ZM];congr 1
  rw[YE 256 a,Nat.mul_assoc,YE 256]
theorem iiq(c:UInt8)(l:List UInt8):alq (c::l)=c.toNat*256^l.length+alq l:=by
 show(c::l).foldl _ 0=_;rw[List.foldl_cons,KMq];simp
theorem QAq:∀l:List UInt8,alq l<256^l.length
 |[]=>by simp[alq]
 |c::l=>by
  rw[iiq,Zo,Nat.pow_succ];have:=QAq l;have a:=c.toNat_lt;have:c.toNat*256^l.length<=255*256^l.length:=Z7 _ Xd;omega
section
open Go.RowKit
section
attribute [local irreducible] CoW OpW FlW aeq ajq
variable {G:Nat->Option W}
theorem jOq(l:List UInt8)(f:Bool)(m:l.length<=70368744177664):PS cfg G 39 [.fz (zcq l) 1 f] (bW l):=by
 refine gI 9 Y (λR o=>?_);first|refine z5q Y Y ?_|refine zhq rfl (qDq Y Y Y Y Y (λk d=>?_))
 refine zeq 2 Y ?_;refine gS 0 Y (λj=>?_) (λj=>?_)
 .cases k with
  |false=>cases j
  |true=>
   have d:=d rfl
   have b:l=[]:=by cases l with
    |nil=>rfl
    |cons c l=>simp[zcq] at d
   subst b;refine zHq 7 Y ?_;refine ySq (fr2:=[(2,bW [])]) Jr ⟨⟨_,rfl,.nilfz⟩,trivial⟩ Y Y
 .cases l with
  |nil=>
   skip
   refine zHq 6 Y (gM 0 Y (yLq Y Y (jDq Y Y Y Y Y)) (zbq 4 Y ?_));refine ySq (fr2:=[(2,bW [])]) Jr ⟨⟨_,rfl,.sl Y Y Y Xj⟩,trivial⟩ Y Y
  |cons c l=>
   simp only[Zo] at m;refine zHq 6 Y (gM 0 Y (yLq Y Y (qxq (news:=zcq (c::l)) (olds:=[]) Y Y Y Y Y (by simp[zcq]) (by show(0+(zcq (c::l)).length)*1<=_;rw[ztq];simp only[Zo];omega) (by rw[ztq];simp only[Zo];omega) rfl (by show 0<0+(0+(zcq (c::l)).length)*1;rw[ztq];simp only[Zo];omega) Y Y)) (zbq 4 Y ?_));refine ySq (fr2:=[(2,bW (c::l))]) Jr ⟨⟨_,rfl,.sl rfl Xi (gXq Xi (Z6 _)) Xj⟩,trivial⟩ Y Y
theorem Bkq(l:List UInt8)(f:Bool):PS cfg G 220 [.fz (zcq l) 1 f] (.int .i64 (if l=[] then 0 else 11)):=by
 have e:=ztq l;refine gI 9 Y (λR b=>gL 0 Y ?_);refine gS 3 Y (λa=>?_) (λa=>?_)
 .refine zbq 7 Y ?_;have:l≠[]:=by rintro rfl;simp[zcq] at a
  exact gQ 0 Y (by rw[Zg this])
 .refine zbq 8 Y ?_;have:l=[]:=List.eq_nil_of_length_eq_zero (by rw[<-e];simpa using a);exact gQ 0 Y (by rw[Zl this])
theorem d9q(n i:Nat)(a:i<=8):Nat.shiftRight n (min (8*i) 64)%256=n/256^i%256:=by
 have:Nat.shiftRight n (min (8*i) 64)=n/2^(8*i):=by rw[show min (8*i) 64=8*i by omega];exact Nat.shiftRight_eq_div_pow _ _
 rw[this,Nat.pow_mul]
theorem BSq(n b i:Nat)(d:i<b):(zcq (List.replicate (b-i) 0++beB i n))[0+(b-1-i)*1]? =some (.int .u8 (.ofNat 0)):=by
 refine uKq (c:=0) ?_;rw[List.getElem?_append_left Xn,List.getElem?_replicate,Zl Xd]
theorem rhq(n a i:Nat)(c:i<a):(zcq (List.replicate (a-i) 0++beB i n)).set (0+(a-1-i)*1) (.int .u8 ((n/256^i%256:Nat):Int))=zcq (List.replicate (a-(i+1)) 0++beB (i+1) n):=by
 have e:a-i=(a-(i+1))+1:=by omega
 have b:0+(a-1-i)*1=a-(i+1):=by omega
 rw[e,b,List.replicate_succ',Zx,kBq,kBq,List.set_append_right _ _ (by simp[zcq])];simp only[zcq,Ze,Z8,Nat.sub_self,List.singleton_append,ZD,List.set_cons_zero,beB];congr 2
 simp
theorem lIq(n a:Nat):zcq (List.replicate (a-0) 0++beB 0 n)=List.replicate a (.int .u8 0):=by simp[zcq,beB]
theorem m7q(n b:Nat)(H:1<=b)(y:b<=8)(F:n<256^b):zUq cfg G 222 0 [.int .u64 (n:Int),.int .i64 (b:Int)] [] λw D B=>
  w= .tup [.sl 0 0 0 b 1 none,.int .i64 0]/\D=[(0,5,.arr (b*1) 1 (zcq (beB b n)))]/\B=1:=by
 intro R
 have C:b<8->Nat.shiftRight n (min (8*b) 64)=0:=λh=>by
  rw[show min (8*b) 64=8*b by omega,show Nat.shiftRight n (8*b)=n/2^(8*b) from Nat.shiftRight_eq_div_pow _ _,Nat.pow_mul];exact Nat.div_eq_of_lt F
 refine gIs 11 Y (λI=>?_);refine gD 0 Y (λq=>?_) (λq=>?_)
 .exfalso;omega
 refine gU 2 Y ?_;refine gS 4 Y (λz=>?_) (λz=>?_)
 .exfalso;omega
 refine gD 3 Y (λA=>?_) (λA=>?_)
 .have m:=C Xd;refine gA 3 Y (8*b) (gU 1 Y ?_);refine gS 4 Y (λg=>?_) (λg=>?_)
  .skip
   exfalso
   have g:(0:Int)<(Nat.shiftRight n (min (8*b) 64):Nat):=g;rw[m] at g;omega
  .refine gM 6 Y (Zhq (l:=b) (c:=b) Y Y Y Y Y Y Y Y (Zb _) (by show 1*b<=_;omega) Xd Y Y) (zbq 11 Y ?_);refine jzq (α:=Nat) (λi=>i<=b) (λi=>[(28,.int .i64 (i:Int))]) [(0,_),(1,_),(4,_),(5,_),(6,_),(27,_)] (λi=>[(0,5,.arr (b*1) 1 (zcq (List.replicate (b-i) 0++beB i n)))]) (λi=>b-i) (0) ⟨rfl,rfl,rfl,rfl,rfl,rfl,trivial⟩ (Zf _) ⟨rfl,trivial⟩ (by rw[lIq];rfl) (λi j=>?_);refine zCq 6 Y ?_;refine gS 0 Y (λE=>?_) (λE=>?_)
   .have d:i<b:=by omega
    exact gA 13 Y (b-1) (gA 1 Y (b-1-i) (gA 2 Y (8*i) (gV (w':=.int .u8 ((n/256^i%256:Nat):Int)) 1 Y (Zc (λn:Nat=>W.int .u8 (n:Int)) (d9q n i Xd)) (gP 0 Y (ypq (i:=b-1-i) Y Y Y Y Y Y Y Xd) (gM 0 Y (qmq Y Y Y Y Y (xPq (BSq n b i d) Y Y) (Zc (λL=>[(0,5,W.arr (b*1) 1 L)]) (rhq n b i d))) (gA 4 Y (i+1) (zbq 2 Y (u1q (i+1) (d) Xd ⟨rfl,trivial⟩ ⟨rfl,rfl,rfl,rfl,rfl,rfl,trivial⟩ rfl))))))))
   .refine zbq 2 Y (qQq Xj (zRq 10 Y ?_));have:i=b:=by omega
    subst this;refine fin Jr Ent.refl rfl ⟨rfl,rfl,?_,rfl⟩;rw[Nat.sub_self];rfl
 .refine gM 17 Y (Zhq (l:=b) (c:=b) Y Y Y Y Y Y Y Y (Zb _) (by show 1*b<=_;omega) Xd Y Y) (zbq 11 Y ?_);refine jzq (α:=Nat) (λi=>i<=b) (λi=>[(28,.int .i64 (i:Int))]) [(0,_),(1,_),(4,_),(5,_),(6,_),(27,_)] (λi=>[(0,5,.arr (b*1) 1 (zcq (List.replicate (b-i) 0++beB i n)))]) (λi=>b-i) (0) ⟨rfl,rfl,rfl,rfl,rfl,rfl,trivial⟩ (Zf _) ⟨rfl,trivial⟩ (by rw[lIq];rfl) (λi j=>?_);refine zCq 6 Y ?_;refine gS 0 Y (λg=>?_) (λg=>?_)
  .have d:i<b:=by omega
   exact gA 13 Y (b-1) (gA 1 Y (b-1-i) (gA 2 Y (8*i) (gV (w':=.int .u8 ((n/256^i%256:Nat):Int)) 1 Y (Zc (λn:Nat=>W.int .u8 (n:Int)) (d9q n i Xd)) (gP 0 Y (ypq (i:=b-1-i) Y Y Y Y Y Y Y Xd) (gM 0 Y (qmq Y Y Y Y Y (xPq (BSq n b i d) Y Y) (Zc (λL=>[(0,5,W.arr (b*1) 1 L)]) (rhq n b i d))) (gA 4 Y (i+1) (zbq 2 Y (u1q (i+1) (d) Xd ⟨rfl,trivial⟩ ⟨rfl,rfl,rfl,rfl,rfl,rfl,trivial⟩ rfl))))))))
  .refine zbq 2 Y (qQq Xj (zRq 10 Y ?_));have:i=b:=by omega
   subst this;refine fin Jr Ent.refl rfl ⟨rfl,rfl,?_,rfl⟩;rw[Nat.sub_self];rfl
theorem shl8(n:Nat):(Int.ofNat (Nat.shiftLeft n (min 8 64)))=((256*n:Nat):Int):=by
 rw[show Nat.shiftLeft n (min 8 64)=n*2^8 from Nat.shiftLeft_eq n 8,YE];rfl
theorem Anq(n c:Nat)(a:256*n<18446744073709551616)(d:c<256):Nat.lor (256*n%18446744073709551616) (c%18446744073709551616)=256*n+c:=by
 rw[YV a,YV Xd];have:=Nat.two_pow_add_eq_or_of_lt (i:=8) (b:=c) Xd n;rw[YE] at this;rw[show Nat.lor (256*n) c=256*n|||c from rfl,YE 256 n];rw[YE] at this;rw[YE n 256];exact this.symm
theorem hWq{i:Nat}(h:i<=8):256^i<=18446744073709551616:=by
 have a:∀i,i<=8->256^i<=18446744073709551616:=by decide
 exact a i h
theorem igq{l:List UInt8}{i:Nat}{c:UInt8}(h:l[i]? =some c):alq (l.take (i+1))=256*alq (l.take i)+c.toNat:=by
 rw[YA,h];exact ihq _ _
theorem bHq{l:List UInt8}{i:Nat}(h:i<=7):256*alq (l.take i)<18446744073709551616:=by
 have b:=QAq (l.take i);have c:256^(l.take i).length<=256^i:=Y7 Xd Xn;have a:=hWq (i:=i+1) Xd;rw[Nat.pow_succ] at a;omega
theorem xkq(l:List UInt8)(f:Bool)(b:Nat)(k:1<=b)(d:b<=8)(j:l.length<b):PS cfg G 198 [.fz (zcq l) 1 f,.int .i64 (b:Int)] (.tup [.int .u64 0,.nils,.int .i64 10]):=by
 have e:=ztq l;refine gI 12 Y (λR m=>?_);refine gD 0 Y (λc=>?_) (λc=>?_)
 .exfalso;omega
 refine gU 2 Y ?_;refine gS 4 Y (λg=>?_) (λg=>?_)
 .exfalso;omega
 refine gV (w':=.int .i64 (l.length:Int)) 3 Y Yj (gU 1 Y ?_);refine gS 3 Y (λh=>?_) (λh=>?_)
 .first|exact gQa 10 Y|(exfalso;omega)
 .exfalso;omega
theorem kEq(l:List UInt8)(f:Bool)(b:Nat)(C:1<=b)(A:b<=8)(J:b<=l.length)(L:l.length<=70368744177664):PS cfg G 198 [.fz (zcq l) 1 f,.int .i64 (b:Int)] (.tup [.int .u64 (alq (l.take b):Nat),bW (l.drop b),.int .i64 0]):=by
 have e:=ztq l;have D:(l.take b).length=b:=by simp;omega
 refine gI 12 Y (λR K=>?_);refine gD 0 Y (λE=>?_) (λE=>?_)
 .exfalso;omega
 refine gU 2 Y ?_;refine gS 4 Y (λF=>?_) (λF=>?_)
 .exfalso;omega
 refine gV (w':=.int .i64 (l.length:Int)) 3 Y Yj (gU 1 Y ?_);refine gS 3 Y (λB=>?_) (λB=>?_)
 .exfalso;omega
 refine gP 9 Y (lhq (ys:=zcq (l.take b)) (l:=0) (h:=b) (m:=b) Y Y Y Y Y Y Y Y (Zf _) (Zb _) Xd C (by rw[ZX,Y8,Jeq]) rfl) (gV (w':=.int .i64 (b:Int)) 0 Y (by show W.int .i64 ((zcq (l.take b)).length:Int)=_;rw[ztq,D]) ?_);refine gLo (α:=Nat) 4 (λi=>i<=b) (λi=>[(26,.int .i64 (i:Int)),(4,.int .u64 (alq (l.take i):Nat))]) [0,1,5,6,24,25] (λi=>b-i) (0) rfl (Zf _) (λi I=>?_);refine gS 6 Y (λw=>?_) (λw=>?_)
 .have q:i<b:=by omega
  obtain⟨c,k⟩:∃c,l[i]? =some c:=⟨_,Za Xd⟩
  have d:(l.take b)[i]? =some c:=by rw[YJ,Zl q];exact k
  have j:=c.toNat_lt;have H:=bHq (l:=l) (i:=i) Xd;exact gP 6 Y (zyq (i:=i) Y Y Y Y Y Y Y (uKq d)) (gA 6 Y (256*alq (l.take i)) (e:=(shl8 _)) (gA 1 Y (c.toNat) (gV (w':=.int .u64 (alq (l.take (i+1)):Nat)) 0 Y (Zc (λn:Nat=>W.int .u64 (n:Int)) ((Anq _ _ H j).trans (igq k).symm)) (gA 5 Y (i+1) (gAg 2 Y (i+1) (q) Xd)))))
 .have:i=b:=by omega
  subst this;exact gO 2 Y (gP 7 Y (Q1q (ys:=zcq (l.drop i)) (l:=i) (h:=(zcq l).length) Y Y Y Y Y Y Y Xd (Zb _) Jp rfl) (gC 0 Y (jOq _ _ (by first|assumption|(simp;omega))) (gQa 6 Y)))
structure Acct where
 nonce:Nat
 balance:Nat
 deriving DecidableEq
def Acct.zero:Acct:=⟨0,0⟩
def aW(a:Acct):W:=.agg 2 [.int .u64 (a.nonce:Int),.int .u64 (a.balance:Int)]
@[simp] theorem B0q(a:Acct):aaq (aW a)=true:=rfl
def BJq(a:Acct):List UInt8:=beB 8 a.nonce++beB 8 a.balance
def kYq(l:List UInt8):Acct×Nat:=if l.length<16 then(.zero,10) else if 16<l.length then(.zero,11) else
 if (⟨alq (l.take 8),alq (l.drop 8)⟩:Acct)= .zero then(.zero,8) else(⟨alq (l.take 8),alq (l.drop 8)⟩,0)
theorem i7q(a b:Acct):eqW cfg 300 72 (aW a) (aW b)=some (decide (a=b)):=by
 have e:decide (a=b)=(decide ((a.nonce:Int)=b.nonce)&&(decide ((a.balance:Int)=b.balance)&&true)):=by
  cases a;cases b
  simp only[Acct.mk.injEq,Bool.and_true];rw[Bool.eq_iff_iff];simp only[YK,Zd];omega
 rw[e];exact uGq Y Y Y Y (qdq Y Y Y (QVq Y Y) (qdq Y Y Y (QVq Y Y) Zrq))
theorem lRq(l:List UInt8)(f:Bool)(b:l.length<=70368744177664):PS cfg G 166 [.fz (zcq l) 1 f] (.tup [aW (kYq l).1,.int .i64 ((kYq l).2:Nat)]):=by
 by_cases m:l.length<8
 .have e:kYq l=(.zero,10):=by unfold kYq;rw[Zl Xd]
  rw[e];exact gI 15 Y (λR x=>gC 0 Y (xkq _ _ 8 Xd Xd m) (gQa 27 Y))
 have A:(l.drop 8).length=l.length-8:=by simp
 by_cases j:l.length<16
 .have e:kYq l=(.zero,10):=by unfold kYq;rw[Zl j]
  rw[e];refine gI 15 Y (λR x=>?_);first|(first|refine yOq Y Y Y Y Y Y (kEq l _ 8 Xd Xd Xd b) ?_|refine yOq Y Y Y Y Y Y (xkq (l.drop 8) _ 8 Xd Xd Xd) ?_)|refine yOq Y Y Y Y Y Y (kEq _ _ 8 Xd Xd Xd b) ?_|refine yOq Y Y Y Y Y Y (xkq _ _ 8 Xd Xd m) ?_
  refine zeq 23 Y ?_;first|(first|refine yOq Y Y Y Y Y Y (kEq l _ 8 Xd Xd Xd b) ?_|refine yOq Y Y Y Y Y Y (xkq (l.drop 8) _ 8 Xd Xd Xd) ?_)|refine yOq Y Y Y Y Y Y (kEq _ _ 8 Xd Xd Xd b) ?_|refine yOq Y Y Y Y Y Y (xkq _ _ 8 Xd Xd m) ?_
  exact zeq 27 Y (gQa 0 Y)
 have y:(l.drop 8).drop 8=[]↔l.length=16:=by rw[YB,List.drop_eq_nil_iff];omega
 by_cases s:16<l.length
 .have e:kYq l=(.zero,11):=by unfold kYq;rw[Zg j,Zl s]
  have q:¬(l.drop 8).drop 8=[]:=λh=>by have:=y.1 h;omega
  rw[e];refine gI 15 Y (λR x=>?_)
  (first|refine yOq Y Y Y Y Y Y (kEq l _ 8 Xd Xd Xd b) ?_|refine yOq Y Y Y Y Y Y (kEq (l.drop 8) _ 8 Xd Xd Xd Xd) ?_)
  refine zeq 23 Y ?_
  (first|refine yOq Y Y Y Y Y Y (kEq l _ 8 Xd Xd Xd b) ?_|refine yOq Y Y Y Y Y Y (kEq (l.drop 8) _ 8 Xd Xd Xd Xd) ?_)
  exact zeq 24 Y (yOq Y Y Y Y Y Y (zrq (w':=.int .i64 11) (Bkq _ _) (by rw[Zg q])) (icq Y Y (zeq 14 Y (gQa 0 Y))))
 .have q:(l.drop 8).drop 8=[]:=y.2 Xd;have w:(l.drop 8).take 8=l.drop 8:=Zp Xd;refine gI 15 Y (λR x=>?_)
  (first|refine yOq Y Y Y Y Y Y (kEq l _ 8 Xd Xd Xd b) ?_|refine yOq Y Y Y Y Y Y (kEq (l.drop 8) _ 8 Xd Xd Xd Xd) ?_)
  refine zeq 23 Y ?_
  (first|refine yOq Y Y Y Y Y Y (kEq l _ 8 Xd Xd Xd b) ?_|refine yOq Y Y Y Y Y Y (kEq (l.drop 8) _ 8 Xd Xd Xd Xd) ?_)
  refine zeq 24 Y (yOq Y Y Y Y Y Y (zrq (w':=.int .i64 0) (Bkq _ _) (by rw[Zl q])) (icq Y Y (zeq 8 Y (gP 0 Y (yEq Y Y Y Y (i7q ⟨alq (l.take 8),alq ((l.drop 8).take 8)⟩ .zero)) ?_))));refine gS 3 Y (λc=>?_) (λc=>?_)
  .refine zbq 10 Y ?_
   have e:kYq l=(.zero,8):=by
    rw[w] at c;unfold kYq;rw[Zg j,Zg s,Zl c]
   rw[e];exact gQa 0 Y
  .refine zbq 11 Y ?_
   have e:kYq l=(⟨alq (l.take 8),alq (l.drop 8)⟩,0):=by
    rw[w] at c;unfold kYq;rw[Zg j,Zg s,Zg c]
   rw[e];exact gQ 0 Y (by rw[w];rfl)
end
end
abbrev Pr:=Dig×List UInt8
inductive T where
 |nil
 |leaf (k:Dig) (v:List UInt8)
 |fork (l r:T)
 deriving Inhabited
def T.all:T->List Pr
 |.nil=>[]
 |.leaf k v=>[(k,v)]
 |.fork l r=>l.all++r.all
def T.isFork:T->Bool
 |.fork _ _=>true
 |_=>false
def T.non:T->Bool
 |.nil=>false
 |_=>true
def T.two(l r:T):Bool:=l.isFork||r.isFork||(l.non&&r.non)
def T.ok:Nat->Dig->T->Bool
 |_,_,.nil=>true
 |d,b,.leaf k _=>decide (d<=ynq k b)
 |d,b,.fork l r=>decide (d<256)&&T.ok (d+1) b l&&T.ok (d+1) (joq b d) r&&T.two l r
def T.find(k:Dig):Nat->T->Option (List UInt8)
 |_,.nil=>none
 |_,.leaf k' v=>if k'=k then some v else none
 |d,.fork l r=>if bitN k d=0 then l.find k (d+1) else r.find k (d+1)
def T.roads(d:Nat):T->T×T
 |.nil=>(.nil,.nil)
 |.leaf k v=>if bitN k d=0 then(.leaf k v,.nil) else(.nil,.leaf k v)
 |.fork l r=>(l,r)
def T.put(k:Dig)(v:List UInt8):Nat->T->T
 |_,.nil=>.leaf k v
 |0,.leaf _ _=>.leaf k v
 |0,.fork l r=>.fork l r
 |f+1,.leaf k' v'=>if k'=k then .leaf k v else
  if bitN k (255-f)=0 then .fork (T.put k v f (T.roads (255-f) (.leaf k' v')).1) (T.roads (255-f) (.leaf k' v')).2
  else .fork (T.roads (255-f) (.leaf k' v')).1 (T.put k v f (T.roads (255-f) (.leaf k' v')).2)
 |f+1,.fork l r=>if bitN k (255-f)=0 then .fork (T.put k v f l) r else .fork l (T.put k v f r)
def Srt(l:List Pr):Prop:=l.Pairwise λa b=>yrq a.1 b.1=true
def ufq(l:List Pr)(k:Dig)(v:List UInt8):List Pr:=l.filter (λp=>yrq p.1 k)++(k,v)::l.filter (λp=>yrq k p.1)
def mmq(l:List Pr)(k:Dig):List Pr:=l.filter λp=>decide (p.1≠k)
def dtq(l:List Pr)(k:Dig):Option (List UInt8):=(l.find? λp=>decide (p.1=k)).map (·.2)
theorem mLq{l:List Pr}(h:Srt l){p q:Pr}(b:p∈l)(d:q∈l)(e:p.1=q.1):p=q:=by
 induction l with
 |nil=>simp at b
 |cons x l g=>
  have h:=List.pairwise_cons.1 h;simp only[ZB] at b d;rcases b with rfl|b<;>rcases d with rfl|d
  .rfl
  .exact absurd e (vaq (h.1 q d))
  .exact absurd e.symm (vaq (h.1 p b))
  .exact g h.2 b d
theorem f0q{l:List Pr}(h:Srt l){k:Dig}{v:List UInt8}:dtq l k=some v↔(k,v)∈l:=by
 simp only[dtq,Option.map_eq_some_iff];constructor
 .rintro⟨⟨f,g⟩,d,rfl⟩;have a:=List.find?_some d;have:=List.mem_of_find?_eq_some d;simp only[YK] at a;subst a;exact this
 .intro c;cases b:l.find? λp=>decide (p.1=k) with
  |none=>
   have:=List.find?_eq_none.1 b _ c;simp at this
  |some p=>
   have a:=List.find?_some b;have e:=List.mem_of_find?_eq_some b;simp only[YK] at a;have:=mLq h e c a;exact⟨p,rfl,by rw[this]⟩
def Zr(d:Nat)(b:Dig):Prop:=∀j,d<=j->j<256->bitN b j=0
theorem jcq{d:Nat}{b:Dig}(h:Zr d b):Zr (d+1) b:=λj c a=>h j Xd a
theorem jbq{d:Nat}{b:Dig}(h:Zr d b)(c:d<256):Zr (d+1) (joq b d):=λj e a=>by rw[Jgq b d j c a Xd];exact h j Xd a
theorem vmq:Zr 0 zeroD:=λj _ a=>by
 unfold bitN
 have:kn zeroD (j/8)=0:=by
  unfold kn zeroD;simp only[List.getElem?_replicate];split<;>rfl
 rw[this];simp
theorem dWq{b:Dig}{d:Nat}(a:d<256){j:Nat}(c:j<d):bitN (joq b d) j=bitN b j:=Jgq b d j a Xd Xd
theorem d8q{b k:Dig}{d:Nat}(c:Zr d b)(a:d<256)(h:d+1<=ynq k b):d<=ynq k b/\bitN k d=0:=
 ⟨by omega,by rw[(yNq Xd).1 h d Xd];exact c d (Zb _) a⟩
theorem d7q{b k:Dig}{d:Nat}(f:Zr d b)(a:d<256)(h:d+1<=ynq k (joq b d)):d<=ynq k b/\bitN k d=1:=by
 have c:=(yNq Xd).1 h;refine⟨(yNq Xd).2 λj e=>?_,?_⟩
 .rw[c j Xd,dWq a e]
 .rw[c d Xd,Jhq b d a,f d (Zb _) a]
theorem xJq{b k:Dig}{d:Nat}(i:Zr d b)(l:d<256)(h:d<=ynq k b)(g:bitN k d=0):d+1<=ynq k b:=by
 refine(yNq Xd).2 λj f=>?_
 rcases ZC.1 f with f|rfl
 .exact(yNq Xd).1 h j f
 .rw[g,i j (Zb _) l]
theorem xIq{b k:Dig}{d:Nat}(e:Zr d b)(c:d<256)(h:d<=ynq k b)(f:¬bitN k d=0):d+1<=ynq k (joq b d):=by
 refine(yNq Xd).2 λj a=>?_
 rcases ZC.1 a with a|rfl
 .rw[dWq c a];exact(yNq Xd).1 h j a
 .rw[Jhq b j c,e j (Zb _) c];have:=jgq k j;omega
theorem ok_fork{d:Nat}{b:Dig}{l r:T}:T.ok d b (.fork l r)=true↔d<256/\T.ok (d+1) b l=true/\T.ok (d+1) (joq b d) r=true/\T.two l r=true:=by
 simp only[T.ok,Zd,YK,and_assoc]
theorem utq:∀{t:T} {d:Nat} {b:Dig},Zr d b->t.ok d b=true->∀p∈t.all,d<=ynq p.1 b
 |.nil,_,_,_,_,p,g=>by simp[T.all] at g
 |.leaf k v,d,b,_,h,p,g=>by
  simp only[T.all,YH] at g;subst g;exact YF h
 |.fork l r,d,b,hz,h,p,g=>by
  obtain⟨j,q,m,_⟩:=ok_fork.1 h;simp only[T.all,ZO] at g;rcases g with g|g
  .exact(d8q hz j (utq (jcq hz) q p g)).1
  .exact(d7q hz j (utq (jbq hz j) m p g)).1
theorem c9q{l r:T}{d:Nat}{b:Dig}(a:Zr d b)(h:(T.fork l r).ok d b=true):(∀p∈l.all,bitN p.1 d=0)/\∀p∈r.all,bitN p.1 d=1:=by
 obtain⟨c,f,g,_⟩:=ok_fork.1 h;exact⟨λp e=>(d8q a c (utq (jcq a) f p e)).2,λp e=>(d7q a c (utq (jbq a c) g p e)).2⟩
theorem ZFq{a b c:Dig}{d:Nat}(i:d<256)(k:d<=ynq a c)(f:d<=ynq b c)(g:bitN a d=0)(h:bitN b d=1):yrq a b=true:=
 ahead_iff.2 ⟨d,i,λj e=>by rw[(yNq Xd).1 k j e,(yNq Xd).1 f j e],g,h⟩
theorem ifq:∀{t:T} {d:Nat} {b:Dig},Zr d b->t.ok d b=true->Srt t.all
 |.nil,_,_,_,_=>List.Pairwise.nil
 |.leaf k v,_,_,_,_=>List.pairwise_singleton _ _
 |.fork l r,d,b,hz,h=>by
  obtain⟨c,m,s,_⟩:=ok_fork.1 h;refine List.pairwise_append.2 ⟨ifq (jcq hz) m,ifq (jbq hz c) s,λp w q u=>?_⟩;have g:=d8q hz c (utq (jcq hz) m p w);have j:=d7q hz c (utq (jbq hz c) s q u);exact ZFq c g.1 j.1 g.2 j.2
theorem QOq(k:Dig):∀{t:T} {d:Nat} {b:Dig},Zr d b->t.ok d b=true->t.find k d=dtq t.all k
 |.nil,_,_,_,_=>rfl
 |.leaf k' v,_,_,_,_=>by
  simp only[T.find,T.all,dtq,List.find?_cons,List.find?_nil];by_cases e:k'=k<;>simp[e]
 |.fork l r,d,b,hz,h=>by
  obtain⟨x,u,y,_⟩:=ok_fork.1 h;obtain⟨w,s⟩:=c9q hz h;have g:=QOq k (jcq hz) u;have j:=QOq k (jbq hz x) y;simp only[T.find,T.all,dtq,List.find?_append];simp only[dtq] at g j;split
  .rename_i q
   have:r.all.find? (λp=>decide (p.1=k))=none:=List.find?_eq_none.2 λp c e=>by
    have:=s p c;rw[YF e] at this;omega
   rw[this,Option.or_none,g]
  .rename_i q
   have:l.all.find? (λp=>decide (p.1=k))=none:=List.find?_eq_none.2 λp c e=>by
    have:=w p c;rw[YF e] at this;omega
   rw[this,Option.none_or,j]
theorem KCq(k:Dig)(v:List UInt8):∀(f:Nat) (t:T),(t.put k v f).non=true
 |f,.nil=>by cases f<;>rfl
 |0,.leaf _ _=>rfl
 |0,.fork _ _=>rfl
 |f+1,.leaf k' v'=>by
  simp only[T.put];split
  .rfl
  .split<;>rfl
 |f+1,.fork l r=>by
  simp only[T.put];split<;>rfl
theorem elq(k:Dig)(v:List UInt8)(f:Nat){t:T}(h:t.isFork=true):(t.put k v f).isFork=true:=by
 cases t with
 |nil=>cases h
 |leaf _ _=>cases h
 |fork l r=>
  cases f with
  |zero=>rfl
  |succ f=>simp only[T.put];split<;>rfl
theorem a8q(k a:Dig)(v b:List UInt8)(f:Nat)(h:a≠k):((T.leaf a b).put k v (f+1)).isFork=true:=by
 simp only[T.put,Zg h];split<;>rfl
theorem CCq{l a r:T}(h:T.two l r=true)(c:l.isFork=true->a.isFork=true)(b:a.non=true):T.two a r=true:=by
 cases l<;>cases a<;>cases r<;>simp[T.two,T.isFork,T.non] at h c b⊢
theorem CBq{l r a:T}(h:T.two l r=true)(c:r.isFork=true->a.isFork=true)(b:a.non=true):T.two l a=true:=by
 cases l<;>cases r<;>cases a<;>simp[T.two,T.isFork,T.non] at h c b⊢
theorem Y0q{l:List Pr}{p:Pr->Bool}(h:∀x∈l,p x=true):l.filter p=l:=List.filter_eq_self.2 h
theorem Zpq{l:List Pr}{p:Pr->Bool}(h:∀x∈l,p x=false):l.filter p=[]:=List.filter_eq_nil_iff.2 λx a=>by rw[h x a];exact Bool.false_ne_true
theorem rvq{l r:List Pr}{k:Dig}(v:List UInt8)(h:∀p∈r,yrq k p.1=true):ufq (l++r) k v=ufq l k v++r:=by
 simp only[ufq,List.filter_append];rw[Zpq (l:=r) (p:=λp=>yrq p.1 k) λp a=>kWq (h p a),Y0q (l:=r) (p:=λp=>yrq k p.1) h];simp
theorem ruq{l r:List Pr}{k:Dig}(v:List UInt8)(h:∀p∈l,yrq p.1 k=true):ufq (l++r) k v=l++ufq r k v:=by
 simp only[ufq,List.filter_append];rw[Y0q (l:=l) (p:=λp=>yrq p.1 k) h,Zpq (l:=l) (p:=λp=>yrq k p.1) λp a=>kWq (h p a)];simp
theorem a3q(k:Dig)(v a:List UInt8):ufq [(k,a)] k v=[(k,v)]:=by
 simp[ufq,Yaq]
theorem k4q(k:Dig)(v:List UInt8):∀(f:Nat) (t:T) {d:Nat} {b:Dig},d+f=256->Zr d b->t.ok d b=true->d<=ynq k b->(t.put k v f).ok d b=true/\(t.put k v f).all=ufq t.all k v
 |f,.nil,d,b,_,hz,h,hk=>by
  cases f<;>exact⟨Zq hk,by simp[T.put,T.all,ufq]⟩
 |0,.leaf k' v',d,b,hf,hz,h,hk=>by
  have h:=YF h;have:k'=k:=Y4q λj H=>by rw[(yNq Xd).1 h j Xd,(yNq Xd).1 hk j Xd]
  subst this;exact⟨Zq hk,by simp only[T.put,T.all];rw[a3q]⟩
 |0,.fork l r,d,b,hf,hz,h,hk=>by
  obtain⟨c,_⟩:=ok_fork.1 h;omega
 | f + 1,.leaf k' v',d,b,hf,hz,h,hk=>by
  have c:d<256:=by omega
  have F:255-f=d:=by omega
  have h:=YF h;simp only[T.put,F];by_cases e:k'=k
  .subst e;simp only[if_true];exact⟨Zq hk,by simp only[T.all];rw[a3q]⟩
  .rw [Zg e];have M:=jgq k' d;have K:=jgq k d;by_cases q:bitN k d=0
   .rw [Zl q];by_cases g:bitN k' d=0
    .simp only[T.roads,g,if_true];have E:(T.leaf k' v').ok (d+1) b=true:=Zq (xJq hz c h g);obtain⟨z,A⟩:=k4q k v f (.leaf k' v') (d:=d+1) Xd (jcq hz) E (xJq hz c hk q);refine⟨ok_fork.2 ⟨c,z,rfl,?_⟩,by simp only[T.all,ZT];exact A⟩;cases f with
     |zero=>
      exfalso
      refine e (Y4q λj H=>?_);rcases ZL j d with x|x
      .rw[(yNq Xd).1 h j x,(yNq Xd).1 hk j x]
      .have:j=d:=by omega
       rw[this,q,g]
     |succ f=>simp only[T.two,a8q k k' v v' f e,Bool.true_or]
    .simp only[T.roads,g,if_false];obtain⟨z,A⟩:=k4q k v f .nil (d:=d+1) Xd (jcq hz) rfl (xJq hz c hk q);refine⟨ok_fork.2 ⟨c,z,Zq (xIq hz c h g),?_⟩,?_⟩
     .rw[show T.put k v f .nil= .leaf k v by cases f<;>rfl];rfl
     .simp only[T.all];have C:yrq k k'=true:=ZFq c hk h q Xd;have D:(T.put k v f .nil).all=[(k,v)]:=by cases f<;>rfl
      rw[D];simp[ufq,C,kWq C]
   .rw [Zg q];by_cases g:bitN k' d=0
    .simp only[T.roads,g,if_true];obtain⟨z,A⟩:=k4q k v f .nil (d:=d+1) Xd (jbq hz c) rfl (xIq hz c hk q);refine⟨ok_fork.2 ⟨c,Zq (xJq hz c h g),z,?_⟩,?_⟩
     .rw[show T.put k v f .nil= .leaf k v by cases f<;>rfl];rfl
     .simp only[T.all];have C:yrq k' k=true:=ZFq c h hk g Xd;have D:(T.put k v f .nil).all=[(k,v)]:=by cases f<;>rfl
      rw[D];simp[ufq,C,kWq C]
    .simp only[T.roads,g,if_false];have E:(T.leaf k' v').ok (d+1) (joq b d)=true:=Zq (xIq hz c h g);obtain⟨z,A⟩:=k4q k v f (.leaf k' v') (d:=d+1) Xd (jbq hz c) E (xIq hz c hk q);refine⟨ok_fork.2 ⟨c,rfl,z,?_⟩,by simp only[T.all,YX];exact A⟩;cases f with
     |zero=>
      exfalso
      refine e (Y4q λj H=>?_);rcases ZL j d with x|x
      .rw[(yNq Xd).1 h j x,(yNq Xd).1 hk j x]
      .have:j=d:=by omega
       rw[this];omega
     |succ f=>simp only[T.two,a8q k k' v v' f e,Bool.true_or,Bool.or_true]
 |f+1,.fork l r,d,b,hf,hz,h,hk=>by
  have c:d<256:=by omega
  have F:255-f=d:=by omega
  obtain⟨_,x,G,I⟩:=ok_fork.1 h;obtain⟨J,L⟩:=c9q hz h;simp only[T.put,F];have K:=jgq k d;split
  .rename_i q;obtain⟨z,A⟩:=k4q k v f l (d:=d+1) Xd (jcq hz) x (xJq hz c hk q);refine⟨ok_fork.2 ⟨c,z,G,CCq I (elq k v f) (KCq k v f l)⟩,?_⟩;simp only[T.all,A];exact(rvq v λp B=>ZFq c hk (d7q hz c (utq (jbq hz c) G p B)).1 q (L p B)).symm
  .rename_i q;obtain⟨z,A⟩:=k4q k v f r (d:=d+1) Xd (jbq hz c) G (xIq hz c hk q);refine⟨ok_fork.2 ⟨c,x,z,CBq I (elq k v f) (KCq k v f r)⟩,?_⟩;simp only[T.all,A];exact(ruq v λp B=>ZFq c (d8q hz c (utq (jcq hz) x p B)).1 hk (J p B) Xd).symm
section
open Go.RowKit
section
attribute [local irreducible] CoW OpW FlW aeq ajq
variable {G:Nat->Option W}
def pW(x:Pr):W:=.agg 33 [dW x.1,bW x.2]
@[simp] theorem Amq(x:Pr):aaq (pW x)=true:=by simp[pW]
structure Node where
 leaf:Bool
 key:Dig
 val:List UInt8
 left:Int
 right:Int
def nW(x:Node):W:=.agg 36 [.bool x.leaf,dW x.key,bW x.val,.int .i64 x.left,.int .i64 x.right]
@[simp] theorem Awq(x:Node):aaq (nW x)=true:=by simp[nW]
def odq(l r:Int):Node:=⟨false,zeroD,[],l,r⟩
theorem wOq(k:Dig)(d:Nat)(h:d<256):PS cfg G 162 [dW k,.int .i64 (d:Int)] (.int .u8 (bitN k d:Nat)):=by
 refine gI 10 Y (λR a=>gC 0 Y (BOq _ _ Xd) ?_);first|exact gQa 14 Y|(exfalso;omega)
theorem kGq(x:Node):PS cfg G 159 [nW x] (.arr 2 1 [.int .i64 x.left,.int .i64 x.right]):=by
 refine gI 17 Y (λR b=>?_);first|exact gQa 0 Y|(exfalso;omega)
theorem vhq(l r:Int):PS cfg G 163 [.arr 2 1 [.int .i64 l,.int .i64 r]] (nW (odq l r)):=by
 refine gIv 8 Y (λR b=>?_);refine gX 0 Y ?_;refine gX 1 Y ?_;refine zbq 6 Y ?_;refine y0q Xo Y ?_
 (repeat (first|exact .nil|refine .cons ?_ ?_|exact zYq|exact .nilfz|refine .fn ?_ ?_|(refine y5q Y ?_ rfl;(first|rfl|(focus (simp;done))))|(refine .sl Y ?_ rfl Xj;(first|rfl|(focus (simp;done))))|(refine .pur ?_;(first|rfl|(focus (simp;done))))|(refine .fzw ?_;(first|rfl|(focus (simp;done))))|refine .agg ?_|refine .arr ?_|refine .tup ?_))
def pcq(l:List UInt8):Bool:=decide (0<l.length)&&decide (l.length<=64)
theorem rBq(l:List UInt8)(f:Bool):PS cfg G 88 [.fz (zcq l) 1 f] (.bool (pcq l)):=by
 have e:=ztq l;refine gI 8 Y (λR d=>gV (w':=.int .i64 (l.length:Int)) 0 Y Yj ?_);refine gD 0 Y (λc=>?_) (λc=>?_)
 .refine gV (w':=.int .i64 (l.length:Int)) 2 Y Yj (gU 0 Y (zbq 5 Y ?_));have a:0<l.length:=by omega
  exact gQ 0 Y (by unfold pcq;congr 1;rw[Zq a,Y6,YZ];omega)
 .refine zbq 9 Y ?_;have a:¬0<l.length:=by omega
  exact gQ 0 Y (by unfold pcq;rw[Zw a];rfl)
def Cjq(a:List Pr)(i:Nat):Prop:=∀x,a[i]? =some x->pcq x.2=true/\∀y,0<i->a[i-1]? =some y->yrq y.1 x.1=true
def aUq(a:List Pr):Prop:=a.length<=512/\∀i,i<a.length->Cjq a i
instance(a:List Pr):Decidable (aUq a):=Classical.propDecidable _
theorem KFq(a:List Pr):acq (a.map pW)=true:=yvq Amq a
@[simp] theorem Cgq(a:List Pr):acq (a.map pW)=true:=KFq a
theorem KKq(b:List Pr)(f:Bool)(J:b.length<=9223372036854775807):PS cfg G 41 [.fz (b.map pW) 33 f] (.int .i64 (if aUq b then 0 else 8)):=by
 have e:(b.map pW).length=b.length:=Ze _;refine gI 9 Y (λR L=>gV (w':=.int .i64 (b.length:Int)) 0 Y Yj ?_);refine gS 3 Y (λE=>?_) (λE=>?_)
 .exact gQ 7 Y (by rw[Zg λh:aUq b=>by have:=h.1;omega])
 .refine gV (w':=.int .i64 (b.length:Int)) 6 Y Yj ?_;refine gLo (α:=Nat) 4 (λi=>i<=b.length/\∀j,j<i->Cjq b j) (λi=>[(10,.int .i64 (i:Int))]) [0,2,8,9] (λi=>b.length-i) (0) rfl (⟨Zf _,λj p=>by omega⟩) (λi o=>?_);obtain⟨K,o⟩:=o;refine gS 6 Y (λI=>?_) (λI=>?_)
  .have d:i<b.length:=by omega
   obtain⟨x,q⟩:∃x,b[i]? =some x:=⟨_,Za d⟩
   refine gP 7 Y (zyq (i:=i) Y Y Y Y Y Y Y (ziq pW q)) (gC 10 Y (rBq _ _) ?_);refine gB 0 Y (λu=>?_) (λu=>?_)
   .refine gD 3 Y (λC=>?_) (λC=>?_)
    .refine gA 3 Y (i-1) ?_;refine gP 0 Y (zyq (i:=i-1) Y Y Y Y Y Y Y (ziq pW (Za Xd))) ?_;refine gC 4 Y (Xpq _ _) ?_;refine gS 5 Y (λw=>?_) (λw=>?_)
     .refine gO 8 Y (zbq 2 Y ?_)
      have H:¬aUq b:=λh=>by
       have:=(h.2 i d x q).2 _ Xd (Za Xd);rw[this] at w;simp at w
      exact gQ 0 Y (by rw[Zg H])
     .have A:Cjq b i:=λD k=>by
       obtain rfl:=ZA (q.symm.trans k);refine⟨u,λy F B=>?_⟩;obtain rfl:=ZA ((Za (show i-1<b.length by omega)).symm.trans B);simpa using w
      refine gA 4 Y (i+1) ?_;exact gAg 2 Y (i+1) (⟨d,λj p=>by rcases ZC.1 p with h|rfl<;>first|exact o j h|exact A⟩) Xd
    .have A:Cjq b i:=λD k=>by
      obtain rfl:=ZA (q.symm.trans k);exact⟨u,λy F B=>by omega⟩
     refine gA 20 Y (i+1) ?_;exact gAg 2 Y (i+1) (⟨d,λj p=>by rcases ZC.1 p with h|rfl<;>first|exact o j h|exact A⟩) Xd
   .exact gO 28 Y (gQ 2 Y (by rw[Zg λh:aUq b=>u (h.2 i d x q).1]))
  .refine gO 2 Y (zbq 8 Y ?_);have yes:aUq b:=⟨by omega,λj p=>o j Xd⟩;exact gQ 0 Y Yp
def aKq(x:Node)(n:Nat):Prop:=if x.leaf then x.left=0/\x.right=0/\aUq [(x.key,x.val)] else(0<=x.left/\x.left<=n)/\(0<=x.right/\x.right<=n)/\x.key=zeroD/\x.val=[]/\0<x.left+x.right
instance(x:Node)(n:Nat):Decidable (aKq x n):=Classical.propDecidable _
theorem Arq(x:Node)(n:Nat)(F:n<=4611686018427387903):PS cfg G 91 [nW x,.int .i64 (n:Int)] (.bool (decide (aKq x n))):=by
 refine gI 13 Y (λR E=>?_);refine gS 0 Y (λh1=>?_) (λh1=>?_)
 .refine gD 4 Y (λj=>?_) (λj=>?_)
  .refine gD 3 Y (λd=>?_) (λd=>?_)
   .refine zbq 8 Y ?_;refine vcq Y Y Y Y Y (by(repeat (first|exact .nil|refine .cons ?_ ?_|(refine .sl Y ?_ rfl Xj;first|rfl|(focus (simp;done)))|(refine y5q Y ?_ rfl;first|rfl|(focus (simp;done)))|(refine .pur ?_;first|rfl|(focus (simp;done)))))) (KKq [(x.key,x.val)] false Xi) Xm Xm ?_;refine icq Y Y ?_;refine zeq 6 Y ?_;refine gQ 0 Y ?_;congr 1
    rw[YZ,aKq,Zl h1];split
    .rename_i h;exact⟨λ_=>⟨j,d,h⟩,λ_=>rfl⟩
    .rename_i h;exact⟨λh=>by omega,λq=>absurd q.2.2 h⟩
   .exact gQ 16 Y (by rw[Zw];intro h;rw[aKq,Zl h1] at h;exact d h.2.1)
  .exact gQ 20 Y (by rw[Zw];intro h;rw[aKq,Zl h1] at h;exact j h.1)
 .refine gC 6 Y (kGq _) ?_;refine gLo (α:=Nat) 4 (λi=>i<=2/\(0<i->0<=x.left/\x.left<=n)/\(1<i->0<=x.right/\x.right<=n)) (λi=>[(29,.int .i64 (i:Int))]) [1,2,4,28] (λi=>2-i) (0) rfl (⟨by omega,by omega,by omega⟩) (λi C=>?_);obtain⟨D,y,A⟩:=C;refine gS 6 Y (λj=>?_) (λj=>?_)
  .have w:i=0\/i=1:=by omega
   rcases w with rfl|rfl
   .skip
    refine gD 13 Y (λd=>?_) (λd=>?_)
    .refine gO 16 Y ?_;exact gQ 2 Y Ym
    .refine gU 3 Y ?_;refine gS 3 Y (λg=>?_) (λg=>?_)
     .refine gO 8 Y ?_;exact gQ 2 Y Ym
     .refine gA 4 Y (1) ?_;exact gAg 2 Y (1) (⟨by omega,by omega,by omega⟩) Xd
   .refine gD 13 Y (λd=>?_) (λd=>?_)
    .refine gO 16 Y ?_;exact gQ 2 Y Ym
    .refine gU 3 Y ?_;refine gS 3 Y (λg=>?_) (λg=>?_)
     .refine gO 8 Y ?_;exact gQ 2 Y Ym
     .refine gA 4 Y (2) ?_;exact gAg 2 Y (2) (⟨by omega,by omega,by omega⟩) Xd
  .have e:=ztq x.val;have y:=y Xd;have A:=A Xd;have z:aKq x n↔(x.key=zeroD/\x.val=[]/\0<x.left+x.right):=by rw[aKq,Zg h1];exact⟨λh=>h.2.2,λh=>⟨y,A,h⟩⟩
   rw[show decide (aKq x n)=decide (x.key=zeroD/\x.val=[]/\0<x.left+x.right) from YZ.2 z];refine gO 2 Y ?_;refine gV 6 Y vKq ?_;refine gDe 0 Y (yEq Y Y Y Y (yUq Y Y Y Y Y Y _ _ 250)) yKq (λd=>?_) (λd=>?_)
   .refine gV (w':=.int .i64 (x.val.length:Int)) 3 Y Yj ?_;refine gD 0 Y (λg=>?_) (λg=>?_)
    .have B:x.val=[]:=List.eq_nil_of_length_eq_zero Xd;refine gWr 6 Y ?_;refine gU 0 Y ?_;refine gQ 5 Y ?_;congr 1
     rw[YZ];exact⟨λh=>⟨d,B,h⟩,λh=>h.2.2⟩
    .have B:x.val≠[]:=λh=>g (by rw[h];rfl)
     exact gQ 13 Y (by rw[Zw λh=>B h.2.1])
   .exact gQ 18 Y (by rw[Zw λh=>d h.1])
inductive Rep(ns:List Node):Nat->T->Prop where
 |nil:Rep ns 0 .nil
 |leaf {n:Nat} {k:Dig} {v:List UInt8} {l r:Int} (h:ns[n]? =some ⟨true,k,v,l,r⟩):Rep ns (n+1) (.leaf k v)
 |fork {n l r:Nat} {k:Dig} {v:List UInt8} {L R:T} (h:ns[n]? =some ⟨false,k,v,l,r⟩) (hl:l<=n) (hr:r<=n) (hL:Rep ns l L) (hR:Rep ns r R):Rep ns (n+1) (.fork L R)
theorem Rep.le{a:List Node}{n:Nat}{t:T}(h:Rep a n t):n<=a.length:=by
 cases h with
 |nil=>exact Zf _
 |leaf h=>exact(Zk.1 h).1
 |fork h=>exact(Zk.1 h).1
theorem Rep.non{a:List Node}{n:Nat}{t:T}(h:Rep a n t):t.non=decide (0<n):=by cases h<;>simp[T.non]
theorem Rep.app{c:List Node}(d:List Node){n:Nat}{t:T}(h:Rep c n t):Rep (c++d) n t:=by
 have b:∀{i:Nat} {x:Node},c[i]? =some x->(c++d)[i]? =some x:=λ{i x} h=>by rw[List.getElem?_append_left (Zk.1 h).1];exact h
 induction h with
 |nil=>exact .nil
 |leaf h=>exact .leaf (b h)
 |fork h j m _ _ g p=>exact .fork (b h) j m g p
structure Tree where
 nodes:List Node
 root:Int
def tW(t:Tree):W:=.agg 2 [.fz (t.nodes.map nW) 36 false,.int .i64 t.root]
theorem KNq(a:List Node):acq (a.map nW)=true:=yvq Awq a
@[simp] theorem gWq(t:Tree):aaq (tW t)=true:=by simp[tW,KNq]
def nnI(t:T):Int:=if t.non then 1 else 0
theorem saq(E:Tree)(U:E.nodes.length<=4611686018427387903):∀(t:T) (n d:Nat) (b:Dig),Rep E.nodes n t->d<=256->PS cfg G 158 [tW E,.int .i64 (n:Int),.int .i64 (d:Int),dW b] (.tup [.bool (t.ok d b),.bool (t.ok d b&&t.isFork)]):=by
 intro t;induction t with
 |nil=>
  intro n d b y L;obtain rfl:n=0:=by cases y;rfl
  refine gI 15 Y (λR K=>?_);refine gS 0 Y (λz=>?_) (λz=>?_)
  .exact gQa 8 Y
  .exfalso;omega
 |leaf k v=>
  intro n d b y L;have B:=y.le;cases y with
  |leaf h=>
  rename_i n l r;refine gI 15 Y (λR K=>?_);refine gS 0 Y (λz=>?_) (λz=>?_)
  .exfalso;omega
  .refine gA 7 Y (n) ?_;refine gP 0 Y (zyq (i:=n) Y Y Y Y Y Y Y (ziq nW h)) ?_;refine gC 18 Y (mSq _ _) ?_;refine gU 1 Y ?_;refine gQ 6 Y ?_;simp only[T.ok,T.isFork,Y3];congr 3
   rw[YZ];omega
 | fork tl tr ihL ihR=>
  intro n d b y L;have B:=y.le;cases y with
  |fork h P y J C=>
  rename_i n l r k v;refine gI 15 Y (λR K=>?_);refine gS 0 Y (λz=>?_) (λz=>?_)
  .exfalso;omega
  .refine gA 7 Y (n) ?_;refine gP 0 Y (zyq (i:=n) Y Y Y Y Y Y Y (ziq nW h)) ?_;refine gS 22 Y (λO=>?_) (λO=>?_)
   .refine zbq 8 Y ?_;have e:T.ok d b (.fork tl tr)=false:=by simp only[T.ok];rw[Zw Xd];rfl
    rw[e];exact gQa 0 Y
   .have D:d<256:=by omega
    have I:=J.non;have A:=C.non;refine gC 6 Y (rFq _ _ Xd) ?_;refine gV (w':=.arr 64 32 [dW b,dW (joq b d)]) 18 Y Y ?_;refine gLo (α:=Nat×Int×Bool) 4 (λp=>(p.1=0/\p.2.1=0/\p.2.2=false)\/(p.1=1/\tl.ok (d+1) b=true/\p.2.1=nnI tl/\p.2.2=tl.isFork)\/(p.1=2/\tl.ok (d+1) b=true/\tr.ok (d+1) (joq b d)=true/\p.2.1=nnI tl+nnI tr/\p.2.2=(tl.isFork||tr.isFork))) (λp=>[(46,.int .i64 (p.1:Int)),(13,.int .i64 p.2.1),(9,.bool p.2.2)]) [2,4,8,10,45] (λp=>2-p.1) ((0,0,false)) rfl (.inl ⟨rfl,rfl,rfl⟩) (λp H=>?_);obtain⟨i,c,w⟩:=p;simp only at H⊢;rcases H with ⟨rfl,rfl,rfl⟩|⟨rfl,k1,rfl,rfl⟩|⟨rfl,k1,k2,rfl,rfl⟩
    .skip
     skip
     refine gC 23 Y (kGq _) ?_;refine gA 10 Y (d+1) ?_;refine gC 1 Y (ihL _ (d+1) b J Xd) ?_;refine gS 14 Y (λm=>?_) (λm=>?_)
     .refine gO 10 Y ?_;refine zbq 2 Y ?_;have e:T.ok d b (.fork tl tr)=false:=by simp only[T.ok];rw[show tl.ok (d+1) b=false by simpa using m];simp
      rw[e];exact gQa 0 Y
     .have j:tl.ok (d+1) b=true:=by simpa using m
      refine gS 9 Y (λg=>?_) (λg=>?_)
      .have q:nnI tl=1:=by have g:(0:Int)<l:=g;unfold nnI;rw[I,Zl (Zq Xd)]
       refine gWr 2 Y ?_;refine gA 13 Y (1) ?_;exact gAg 2 Y ((1,1,tl.ok (d+1) b&&tl.isFork)) (.inr (.inl ⟨rfl,j,q.symm,by rw[j];rfl⟩)) Xi
      .have q:nnI tl=0:=by have g:¬(0:Int)<l:=g;unfold nnI;rw[I,Zg Xn]
       refine gA 12 Y (1) ?_;exact gAg 2 Y ((1,0,tl.ok (d+1) b&&tl.isFork)) (.inr (.inl ⟨rfl,j,q.symm,by rw[j];rfl⟩)) Xi
    .skip
     have V:nnI tl=0\/nnI tl=1:=by unfold nnI;split<;>simp
     cases S:tl.isFork with
     |true=>
      skip
      refine zCq 23 Y ?_;refine gC 0 Y (kGq _) ?_;refine gA 10 Y (d+1) ?_;refine gC 1 Y (ihR _ (d+1) (joq b d) C Xd) ?_;refine gS 14 Y (λm=>?_) (λm=>?_)
      .refine gO 10 Y ?_;refine zbq 2 Y ?_;have e:T.ok d b (.fork tl tr)=false:=by simp only[T.ok];rw[show tr.ok (d+1) (joq b d)=false by simpa using m];simp
       rw[e];exact gQa 0 Y
      .have j:tr.ok (d+1) (joq b d)=true:=by simpa using m
       refine gS 9 Y (λg=>?_) (λg=>?_)
       .have q:nnI tr=1:=by have g:(0:Int)<r:=g;unfold nnI;rw[A,Zl (Zq Xd)]
        refine gWr 2 Y ?_;refine gA 13 Y (2) ?_;exact gAg 2 Y ((2,nnI tl+1,true)) (.inr (.inr ⟨rfl,k1,j,by simp only[q],rfl⟩)) Xi
       .have q:nnI tr=0:=by have g:¬(0:Int)<r:=g;unfold nnI;rw[A,Zg Xn]
        refine gA 12 Y (2) ?_;exact gAg 2 Y ((2,nnI tl,true)) (.inr (.inr ⟨rfl,k1,j,by simp only[q,Int.add_zero],rfl⟩)) Xi
     |false=>
      skip
      refine zCq 23 Y ?_;refine gC 0 Y (kGq _) ?_;refine gA 10 Y (d+1) ?_;refine gC 1 Y (ihR _ (d+1) (joq b d) C Xd) ?_;refine gS 14 Y (λm=>?_) (λm=>?_)
      .refine gO 10 Y ?_;refine zbq 2 Y ?_;have e:T.ok d b (.fork tl tr)=false:=by simp only[T.ok];rw[show tr.ok (d+1) (joq b d)=false by simpa using m];simp
       rw[e];exact gQa 0 Y
      .have j:tr.ok (d+1) (joq b d)=true:=by simpa using m
       refine gS 9 Y (λg=>?_) (λg=>?_)
       .have q:nnI tr=1:=by have g:(0:Int)<r:=g;unfold nnI;rw[A,Zl (Zq Xd)]
        refine gWr 2 Y ?_;refine gA 13 Y (2) ?_;exact gAg 2 Y ((2,nnI tl+1,tr.ok (d+1) (joq b d)&&tr.isFork)) (.inr (.inr ⟨rfl,k1,j,by simp only[q],by simp[j]⟩)) Xi
       .have q:nnI tr=0:=by have g:¬(0:Int)<r:=g;unfold nnI;rw[A,Zg Xn]
        refine gA 12 Y (2) ?_;exact gAg 2 Y ((2,nnI tl,tr.ok (d+1) (joq b d)&&tr.isFork)) (.inr (.inr ⟨rfl,k1,j,by simp only[q,Int.add_zero],by simp[j]⟩)) Xi
    .have e:T.ok d b (.fork tl tr)=T.two tl tr:=by simp only[T.ok];rw[Zq D,k1,k2];rfl
     have N:(T.fork tl tr).isFork=true:=rfl;rw[e,N,Bool.and_true]
     have M:T.two tl tr=((tl.isFork||tr.isFork)||decide (nnI tl+nnI tr=2)):=by
      unfold T.two nnI;congr 1
      cases tl.non<;>cases tr.non<;>rfl
     rw[M];cases Q:(tl.isFork||tr.isFork) with
     |true=>
      skip
      refine zCq 9 Y ?_;refine gO 0 Y ?_;exact gQa 21 Y
     |false=>
      skip
      refine zCq 9 Y ?_;refine gO 0 Y ?_;refine gU 7 Y ?_;exact gQ 13 Y Xi
def okN(a:List Node):Prop:=∀i x,a[i]? =some x->aKq x i
theorem w8q{b:List Node}(h:okN b):∀n,n<=b.length->∃t,Rep b n t:=by
 intro n;induction n using Nat.strongRecOn with
 |_ n d=>
  intro u;cases n with
  |zero=>exact⟨_,.nil⟩
  |succ n=>
   obtain⟨x,c⟩:∃x,b[n]? =some x:=⟨_,Za u⟩
   have g:=h n x c;obtain⟨j,k,v,l,r⟩:=x;cases j with
   |true=>exact⟨_,.leaf c⟩
   |false=>
    simp only[aKq,Bool.false_eq_true,if_false] at g;obtain⟨⟨q,w⟩,⟨s,y⟩,_⟩:=g;obtain⟨l,rfl⟩:=Int.eq_ofNat_of_zero_le q;obtain⟨r,rfl⟩:=Int.eq_ofNat_of_zero_le s;obtain⟨L,p⟩:=d l Xd Xd;obtain⟨R,m⟩:=d r Xd Xd;exact⟨_,.fork c Xd Xd p m⟩
theorem Rep.uniq{d:List Node}{n:Nat}{t:T}(h:Rep d n t):∀{b:T},Rep d n b->t=b:=by
 induction h with
 |nil=>intro b c;cases c;rfl
 |leaf h=>
  intro b c;cases c with
  |leaf a=>rw[h] at a;cases a;rfl
  |fork a=>rw[h] at a;cases a
 |fork h j k _ _ e i=>
  intro b c;cases c with
  |leaf a=>rw[h] at a;cases a
  |fork a _ _ g f=>
   rw[h] at a;simp only[Zm,Node.mk.injEq,Int.natCast_inj,true_and] at a;obtain⟨_,_,rfl,rfl⟩:=a;rw[e g,i f]
def crq(t:Tree):Prop:=t.nodes.length<=262144/\okN t.nodes/\∃(n:Nat) (a:T),t.root=n/\Rep t.nodes n a/\a.ok 0 zeroD=true
instance(t:Tree):Decidable (crq t):=Classical.propDecidable _
theorem kmq(t:Tree)(M:t.nodes.length<=4611686018427387903):PS cfg G 90 [tW t] (.int .i64 (if crq t then 0 else 8)):=by
 have e:(t.nodes.map nW).length=t.nodes.length:=Ze _;have L:∀{R:Res} {F:Nat},¬crq t->W.int .i64 8=W.int .i64 (if crq t then 0 else 8):=λh=>by rw[Zg h]
 refine gI 11 Y (λR F=>gV (w':=.int .i64 (t.nodes.length:Int)) 0 Y Yj ?_);refine gD 0 Y (λH=>?_) (λH=>?_)
 .have hno:¬crq t:=λh=>by have:=h.1;omega
  exact gQ 23 Y Xz
 refine gD 3 Y (λu=>?_) (λu=>?_)
 .have hno:¬crq t:=λh=>by obtain⟨_,_,n,_,h,_⟩:=h;have u:t.root<0:=u;omega
  exact gQ 19 Y Xz
 refine gV (w':=.int .i64 (t.nodes.length:Int)) 6 Y Yj (gU 0 Y ?_);refine gS 3 Y (λq=>?_) (λq=>?_)
 .have hno:¬crq t:=λh=>by obtain⟨_,_,n,_,h,A,_⟩:=h;have q:(t.nodes.length:Int)<t.root:=q;have:=A.le;omega
  exact gQ 7 Y Xz
 have u:¬t.root<0:=u;have q:¬(t.nodes.length:Int)<t.root:=q;obtain⟨z,k⟩:=Int.eq_ofNat_of_zero_le (show 0<=t.root by omega);refine gV (w':=.int .i64 (t.nodes.length:Int)) 7 Y Yj ?_;refine gLo (α:=Nat) 4 (λi=>i<=t.nodes.length/\∀j x,j<i->t.nodes[j]? =some x->aKq x j) (λi=>[(27,.int .i64 (i:Int))]) [1,2,25,26] (λi=>t.nodes.length-i) (0) rfl (⟨Zf _,λj x C=>by omega⟩) (λi w=>?_);obtain⟨K,w⟩:=w;refine gS 6 Y (λE=>?_) (λE=>?_)
 .have m:i<t.nodes.length:=by omega
  obtain⟨x,f⟩:∃x,t.nodes[i]? =some x:=⟨_,Za m⟩
  refine gP 7 Y (zyq (i:=i) Y Y Y Y Y Y Y (ziq nW f)) (gC 10 Y (Arq _ _ Xd) ?_);refine gS 3 Y (λb=>?_) (λb=>?_)
  .have hno:¬crq t:=λh=>by have:=h.2.1 i x f;simp[this] at b
   exact gO 8 Y (gQ 2 Y Xz)
  .have b:aKq x i:=by simpa using b
   exact gA 4 Y (i+1) (gAg 2 Y (i+1) (⟨m,λj y C D=>by rcases ZC.1 C with h|rfl;exact w j y h D;exact(ZA (f.symm.trans D))▸b⟩) Xd)
 .have p:okN t.nodes:=λj x f=>w j x (by have:=(Zk.1 f).1;omega) f
  obtain⟨B,d⟩:=w8q p z Xd
  have s:crq t↔B.ok 0 zeroD=true:=by
   constructor
   .rintro⟨_,_,n,J,N,A,I⟩;obtain rfl:n=z:=by omega
    rw[d.uniq A];exact I
   .exact λh=>⟨by omega,p,z,B,k,d,h⟩
  refine gO 2 Y (gV 8 Y vKq (bEq Y Y Y Y Y (by rw[k];rfl) (saq t Xd B z 0 zeroD d Xd) Xi Xi (zeq 13 Y ?_)));refine gS 0 Y (λb=>?_) (λb=>?_)
  .have hno:¬crq t:=λh=>by have:=s.1 h;simp[this] at b
   exact gQ 7 Y Xz
  .have yes:crq t:=s.2 (by simpa using b);exact gQ 8 Y Yp
inductive FTo(ns:List Node)(k:Dig):Nat->Nat->Nat->Prop where
 |nil {d:Nat}:FTo ns k 0 d 0
 |hit {n d:Nat} {v:List UInt8} {l r:Int} (h:ns[n]? =some ⟨true,k,v,l,r⟩):FTo ns k (n+1) d (n+1)
 |miss {n d:Nat} {k':Dig} {v:List UInt8} {l r:Int} (h:ns[n]? =some ⟨true,k',v,l,r⟩) (hk:k'≠k):FTo ns k (n+1) d 0
 |go {n d l r m:Nat} {k':Dig} {v:List UInt8} (h:ns[n]? =some ⟨false,k',v,l,r⟩) (hd:d<256) (hg:FTo ns k (if bitN k d=0 then l else r) (d+1) m):FTo ns k (n+1) d m
theorem Baq{A:List Node}{k:Dig}{n:Nat}{t:T}(h:Rep A n t):∀{d:Nat} {b:Dig},t.ok d b=true->∃m,FTo A k n d m/\(t.find k d=none->m=0)/\∀v,t.find k d=some v->∃j l r,m=j+1/\A[j]? =some ⟨true,k,v,l,r⟩:=by
 induction h with
 |nil=>exact λ_=>⟨0,.nil,λ_=>rfl,λv h=>by simp[T.find] at h⟩
 |leaf h=>
  rename_i n F v l r;intro d b _;by_cases e:F=k
  .subst e;exact⟨n+1,.hit h,λJ=>by simp[T.find] at J,λw p=>by simp only[T.find,if_true,Zm] at p;subst p;exact⟨n,l,r,rfl,h⟩⟩
  .exact⟨0,.miss h e,λ_=>rfl,λw p=>by simp[T.find,e] at p⟩
 |fork h L N M K I E=>
  intro d b C;obtain⟨B,D,H,_⟩:=ok_fork.1 C;by_cases f:bitN k d=0
  .obtain⟨m,q,z,y⟩:=I D;exact⟨m,.go h B (by rw[Zl f];exact q),by simp only[T.find,Zl f];exact z,by simp only[T.find,Zl f];exact y⟩
  .obtain⟨m,q,z,y⟩:=E H;exact⟨m,.go h B (by rw[Zg f];exact q),by simp only[T.find,Zg f];exact z,by simp only[T.find,Zg f];exact y⟩
theorem yIq(k:Dig)(d c:Nat)(h:d<256)(a:bitN k d=c):PS cfg G 162 [dW k,.int .i64 (d:Int)] (.int .u8 (c:Int)):=a▸wOq k d h
theorem gSq(t:Tree)(k:Dig)(n m:Nat)(A:t.root=n)(j:FTo t.nodes k n 0 m)(E:t.nodes.length<=4611686018427387903):PS cfg G 231 [tW t,dW k] (.int .i64 (m:Int)):=by
 obtain⟨I,y⟩:=t;simp only at A j E;subst A;refine gI 21 Y (λR L=>?_);refine gLo (α:=Nat×Nat) 0 (λp=>FTo I k p.1 p.2 m/\p.2<=256) (λp=>[(5,.int .i64 (p.1:Int)),(6,.int .i64 (p.2:Int))]) [2,3,4] (λp=>257-p.2) ((n,0)) rfl (⟨j,by simp⟩) (λp B=>?_);obtain⟨i,d⟩:=p;obtain⟨j,D⟩:=B;simp only at j D⊢;refine gS 7 Y (λJ=>?_) (λJ=>?_)
 .cases j with
  |nil=>exfalso;omega
  |hit h=>
   skip
   rename_i i v l r;have z:=(Zk.1 h).1;refine zHq 9 Y (gA 0 Y (i) (gP 0 Y (zyq (i:=i) Y Y Y Y Y Y Y (ziq nW h)) (gUe 19 Y (yEq Y Y Y Y (yUq Y Y Y Y Y Y _ _ 250)) yKq ?_)));refine gS 2 Y (λq=>?_) (λq=>?_)
   .refine gO 11 Y ?_;first|exact gQa 2 Y|(exfalso;omega)
   .exfalso;exact q rfl
  |miss h C=>
   rename_i i H v l r;have z:=(Zk.1 h).1;refine zHq 9 Y (gA 0 Y (i) (gP 0 Y (zyq (i:=i) Y Y Y Y Y Y Y (ziq nW h)) (gUe 19 Y (yEq Y Y Y Y (yUq Y Y Y Y Y Y _ _ 250)) yKq ?_)));refine gS 2 Y (λq=>?_) (λq=>?_)
   .exfalso;exact C q
   .refine gO 11 Y ?_;first|exact gQa 2 Y|(exfalso;omega)
  |go h g u=>
   rename_i i l r H v;have z:=(Zk.1 h).1;have K:=jgq k d;rcases ZL 0 (bitN k d) with F|hb0
   .skip
    have w:bitN k d=1:=by omega
    rw[Zg Xd] at u;exact zHq 9 Y (gA 0 Y (i) (gP 0 Y (zyq (i:=i) Y Y Y Y Y Y Y (ziq nW h)) (gC 17 Y (kGq _) (gC 2 Y (yIq k d 1 g w) (gA 7 Y (d+1) (gAg 2 Y ((r,d+1)) (⟨u,g⟩) Xu))))))
   .have w:bitN k d=0:=by omega
    rw[Zl w] at u;exact zHq 9 Y (gA 0 Y (i) (gP 0 Y (zyq (i:=i) Y Y Y Y Y Y Y (ziq nW h)) (gC 17 Y (kGq _) (gC 2 Y (yIq k d 0 g w) (gA 7 Y (d+1) (gAg 2 Y ((l,d+1)) (⟨u,g⟩) Xu))))))
 .obtain rfl:i=0:=by omega
  cases j;refine gO 2 Y ?_;first|exact gQa 8 Y|(exfalso;omega)
structure IsT(t:Tree)(n:Nat)(t0:T):Prop where
 len:t.nodes.length<=262144
 okn:okN t.nodes
 root:t.root=n
 rep:Rep t.nodes n t0
 ok:t0.ok 0 zeroD=true
theorem IsT.may{t:Tree}{n:Nat}{a:T}(h:IsT t n a):crq t:=⟨h.len,h.okn,n,a,h.root,h.rep,h.ok⟩
theorem ACq{t:Tree}(h:crq t):∃n a,IsT t n a:=by
 obtain⟨b,d,n,a,e,c,f⟩:=h;exact⟨n,a,b,d,e,c,f⟩
theorem vxq{a:List Node}(h:okN a){i:Nat}{k:Dig}{v:List UInt8}{l r:Int}(d:a[i]? =some ⟨true,k,v,l,r⟩):0<v.length/\v.length<=64:=by
 have b:=h i _ d;simp only[aKq,if_true] at b;have c:=(b.2.2.2 0 Xi (k,v) rfl).1;simp only[pcq,Zd,YK] at c;exact c
def Dnq:Option (List UInt8) ->W
 |none=>.tup [.nils,.bool false]
 |some v=>.tup [bW v,.bool true]
theorem pmq(t:Tree)(n:Nat)(d:T)(k:Dig)(h:IsT t n d):PS cfg G 199 [tW t,dW k] (Dnq (d.find k 0)):=by
 have A:=h.len;have q:=h.may;obtain⟨m,p,u,w⟩:=Baq (k:=k) h.rep h.ok;cases g:d.find k 0 with
 |none=>
  obtain rfl:=u g;refine gI 12 Y (λR z=>?_);first|refine gC 0 Y (zrq (w':=.int .i64 0) (kmq t Xd) (by rw[Zl q])) ?_|refine gC 0 Y (kmq _ Xd) ?_
  exact gC 10 Y (gSq t k n _ h.root p Xd) (gQa 19 Y)
 |some v=>
  obtain⟨j,l,r,rfl,b⟩:=w v g;have C:=vxq h.okn b;have B:=(Zk.1 b).1;refine gI 12 Y (λR z=>?_);first|refine gC 0 Y (zrq (w':=.int .i64 0) (kmq t Xd) (by rw[Zl q])) ?_|refine gC 0 Y (kmq _ Xd) ?_
  refine gC 10 Y (gSq t k n _ h.root p Xd) ?_;refine gS 10 Y (λy=>?_) (λy=>?_)
  .exfalso;omega
  .exact gA 7 Y (j) (gP 0 Y (zyq (i:=j) Y Y Y Y Y Y Y (ziq nW b)) (zbq 2 Y (yOq Y Y Y Y Y Y (jOq v false Xd) (zeq 5 Y (gQa 0 Y)))))
theorem cJq(t:Tree)(n:Int):PS cfg G 219 [tW t,.int .i64 n] (.fn 252 [] [.fel (.int .i64 n),.fel (tW t)]):=by
 refine gI 14 Y (λR b=>?_);refine ySq (fr2:=[(4,_)]) Xo ?_ Y Y
 (repeat (first|exact trivial|refine And.symm ⟨?_,_,rfl,?_⟩))<;>(repeat (first|exact .nil|refine .cons ?_ ?_|refine .fn ?_ ?_|(refine y5q Y ?_ rfl;(first|rfl|(focus (simp;done))))|(refine .sl Y ?_ rfl Xj;(first|rfl|(focus (simp;done))))|(refine .pur ?_;(first|rfl|(focus (simp;done))))|refine .agg ?_|refine .arr ?_|refine .tup ?_))
def glq(p:Pr):List W:=[pW p]
theorem gsq{L:Nat}{E:Res->Prop}{b:Bool}{R1:Res}{l:List (List W)}(h:match b with|true=>Yl cfg G L E [] R1|false=>E R1):E R1:=by cases b<;>exact h
def COq(b a:T):Nat->List Pr
 |0=>b.all++a.all
 |1=>a.all
 |_=>[]
theorem vJq{a:Type}{l:List a}{i:Nat}{x:a}(h:l[i]? =some x):l.drop i=x::l.drop (i+1):=by
 obtain⟨b,c⟩:=Zk.1 h;rw[List.drop_eq_getElem_cons b,c]
theorem mBq(t:Tree)(M:∀(i:Nat) (k:Dig) (v:List UInt8) (l r:Int),t.nodes[i]? =some (Node.mk true k v l r) ->v.length<=70368744177664)(q:t.nodes.length<=4611686018427387903):∀(z:T) (n:Nat),Rep t.nodes n z->quq cfg G 252 [.fel (.int .i64 (n:Int)),.fel (tW t)] (z.all.map glq):=by
 intro z;induction z with
 |nil=>
  intro n j;obtain rfl:n=0:=by cases j;rfl
  refine xdq (fn:=Tryz.f252) Y Y Y (Yb rfl) (λL E R d H=>?_);exact zCq 15 Y (j7q Jr rfl d)
 |leaf k v=>
  intro n j;have F:=j.le;cases j with
  |leaf h=>
  rename_i n l r;have B:=M _ _ _ _ _ h;refine xdq (fn:=Tryz.f252) Y Y Y (Yb rfl) (λL E R d H=>?_);refine zCq 12 Y ?_;refine gS 0 Y (λD=>?_) (λD=>?_)
  .exfalso;omega
  .refine gA 7 Y (n) (gP 0 Y (zyq (i:=n) Y Y Y Y Y Y Y (ziq nW h)) (zbq 20 Y (tcq Y Y Y Y Y Y (jOq v false B) Xi Xi Xq (jLq Y Y ?_))));refine yeq rfl (qWq Y Y Y (d) (λb R1 q=>?_));refine⟨by first|rfl|kernel_rfl,?_⟩;exact zWq 4 Y (j7q Jr rfl (gsq (l:=[]) q))
 | fork tl tr ihL ihR=>
  intro n j;have F:=j.le;cases j with
  |fork h O j J I=>
  rename_i n l r k v;refine xdq (fn:=Tryz.f252) Y Y Y (Yb rfl) (λL E R d H=>?_);refine zCq 12 Y ?_;refine gS 0 Y (λD=>?_) (λD=>?_)
  .exfalso;omega
  .refine gA 7 Y (n) (gP 0 Y (zyq (i:=n) Y Y Y Y Y Y Y (ziq nW h)) (gC 18 Y (kGq _) (zbq 4 Y ?_)));refine Zzq (α:=Nat×Res) (λp=>p.1<=2/\Yl cfg G L E ((COq tl tr p.1).map glq) p.2) (λp=>[(28,.int .i64 (p.1:Int))]) [(2,_),(3,_),(27,_)] (λp=>p.2) (λp=>2-p.1) ((0,R)) ⟨rfl,rfl,rfl,trivial⟩ (⟨by simp,d⟩) ⟨rfl,trivial⟩ rfl (λp g=>?_);obtain⟨i,R⟩:=p;obtain⟨K,d⟩:=g;simp only at K d⊢;refine zCq 6 Y ?_;refine gS 0 Y (λN=>?_) (λN=>?_)
   .have A:i=0\/i=1:=by omega
    rcases A with rfl|rfl
    .skip
     refine gC 14 Y (cJq t l) (zbq 3 Y ?_);refine uIq (glq) (tl.all) (λi a=>Yl cfg G L E (((tl.all.drop i)++tr.all).map glq) a) (λa=>a) (R) rfl Xm (ihL _ J) (λy _=>⟨by simp[glq],rfl⟩) (d) rfl (λi a y d g=>?_) (λa g=>?_)
     .have C:=vJq d;rw[C,YW,ZD] at g;refine zCq 4 Y (Yxq (zCq 5 Y ?_));refine gSo 0 Y (qWq Y Y Y (g) (λb R1 q=>?_));refine gS 3 Y (λu=>?_) (λu=>?_)
      .cases b with
       |true=>cases u
       |false=>
        exact zHq 2 Y (YNq Xj (zRq 3 Y (gO 0 Y (zbq 1 Y (j7q Jr rfl q)))))
      .cases b with
       |false=>exact absurd rfl u
       |true=>
        exact zHq 2 Y (v3q (R1) (q) Xd Xx rfl)
     .rw[List.drop_length,YX] at g;exact zRq 4 Y (gA 0 Y (1) (gAg 2 Y ((1,a)) (⟨by simp,g⟩) Xi))
    .skip
     refine gC 14 Y (cJq t r) (zbq 3 Y ?_);refine uIq (glq) (tr.all) (λi a=>Yl cfg G L E ((tr.all.drop i).map glq) a) (λa=>a) (R) rfl Xm (ihR _ I) (λy _=>⟨by simp[glq],rfl⟩) (d) rfl (λi a y d g=>?_) (λa g=>?_)
     .have C:=vJq d;rw[C,ZD] at g;refine zCq 4 Y (Yxq (zCq 5 Y ?_));refine gSo 0 Y (qWq Y Y Y (g) (λb R1 q=>?_));refine gS 3 Y (λu=>?_) (λu=>?_)
      .cases b with
       |true=>cases u
       |false=>
        exact zHq 2 Y (YNq Xj (zRq 3 Y (gO 0 Y (zbq 1 Y (j7q Jr rfl q)))))
      .cases b with
       |false=>exact absurd rfl u
       |true=>
        exact zHq 2 Y (v3q (R1) (q) Xd Xx rfl)
     .rw[List.drop_length] at g;exact zRq 4 Y (gA 0 Y (2) (gAg 2 Y ((2,a)) (⟨by simp,g⟩) Xi))
   .refine gO 2 Y (zbq 1 Y ?_);obtain rfl:i=2:=by omega
    exact j7q (.inl rfl) rfl d
def psW(a:List Pr):W:=.fz (a.map pW) 33 false
@[simp] theorem psW_p(a:List Pr):aaq (psW a)=true:=KFq a
def gat(b:List Pr):HpW:=match b with
 |[]=>[(0,26,.nils)]
 |_=>[(0,26,.sl 1 0 0 b.length 33 none),(1,100,.arr (b.length*33) 33 (b.map pW))]
theorem eNq(a:List Pr)(y:Pr):gat (a++[y])=[(0,26,.sl 1 0 0 (a.length+1) 33 none),(1,100,.arr ((a.length+1)*33) 33 (a.map pW++[pW y]))]:=by
 cases a with
 |nil=>rfl
 |cons x a=>simp[gat]
theorem Cfq{a:List Pr}{y:Pr}{n:Nat}(e:Nat):aaq (.arr n e (a.map pW++[pW y]))=true:=by simp
theorem BWq(f:FuncId)(q:List W)(d:List Pr)(F:acq q=true)(C:quq cfg G f q (d.map glq))(J:d.length<=1000000000):PS cfg G 251 [.nils,.fn f [] q] (psW d):=by
 refine gIv 13 Y (λR I=>?_);refine lqq (α:=List Pr) (glq) (d) (λi a=>a=d.take i) (λa=>gat a) (λa=>(match a with|[]=>1|_=>2)) (λa=>R) ([]) rfl Xm (C) (λy _=>⟨by simp[glq],rfl⟩) (rfl) Y Y Y (λi a y A j=>?_) (λa j=>?_)
 .have H:=(Zk.1 A).1;have B:d.take (i+1)=a++[y]:=by rw[YA,A,j];rfl
  cases a with
  |nil=>
   skip
   refine zCq 4 Y (Yxq (zCq 5 Y (gM 0 Y (yLq Y Y (uOq (news:=[pW y]) (k:=ti100) Y Y Y Y (j3q Y Y Y Y) Xi (by show 1*ti100.bytes<=_;decide) (by show 1<=_;decide))) (zbq 3 Y (Kyq (d.take (i+1)) Y ?_)))));rw[B,eNq];refine yiq (b:=1) (k:=3) Xd Xd (by show 3<4;omega) trivial ⟨⟨by omega,rfl,rfl⟩,⟨by omega,?_,zaq (Cfq _)⟩,trivial⟩ Xi;rw[zdq (Cfq _)];rfl
  |cons x a=>
   have E:(x::a).length<=1000000000:=by rw[j,Zu];omega
   have D:((x::a).map pW).length=(x::a).length:=Ze _;refine zCq 4 Y (Yxq (zCq 5 Y (gM 0 Y (yLq Y Y (qxq (len:=(x::a).length) (news:=[pW y]) (olds:=(x::a).map pW) (k:=ti100) Y Y Y Y (j3q Y Y Y Y) Xi (by show((x::a).length+1)*56<=_;omega) (by show(x::a).length+1<=_;omega) rfl (by show(x::a).length*33<0+((x::a).length+1)*33;omega) rfl (zqq Xg D.symm rfl))) (zbq 3 Y (Kyq (d.take (i+1)) Y ?_)))));rw[B,eNq];refine yiq (b:=1) (k:=4) Xd Xd Qk trivial ⟨⟨by omega,rfl,rfl⟩,⟨by omega,?_,zaq (Cfq _)⟩,trivial⟩ Xi;rw[zdq (Cfq _)];rfl
 .obtain rfl:a=d:=by rw[j,List.take_length]
  cases a with
  |nil=>
   skip
   refine zRq 9 Y (y0q Xo Y ?_)
   (repeat (first|exact .nil|refine .cons ?_ ?_|exact zYq|exact .nilfz|refine .fn ?_ ?_|(refine y5q Y ?_ rfl;(first|rfl|(focus (simp;done))))|(refine .sl Y ?_ rfl Xj;(first|rfl|(focus (simp;done))))|(refine .pur ?_;(first|rfl|(focus (simp;done))))|(refine .fzw ?_;(first|rfl|(focus (simp;done))))|refine .agg ?_|refine .arr ?_|refine .tup ?_))
  |cons x a=>
   exact zRq 9 Y (y0q Xo Y (.sl rfl (by show acq ((x::a).map pW)=true;exact KFq _) (zqq Xg (Ze _).symm rfl) Xj))
theorem lnq(f:FuncId)(b:List W)(a:List Pr)(c:acq b=true)(e:quq cfg G f b (a.map glq))(d:a.length<=1000000000):PS cfg G 218 [.fn f [] b] (psW a):=by
 exact gI 8 Y (λR g=>bEq Y Y Y Y Y Y (BWq f b a c e d) (by simp[c]) Xi (zeq 4 Y (gQa 0 Y)))
theorem eAq{c:Type} [DecidableEq c]:∀(l m:List c),l.Nodup->(∀x∈l,x∈m) ->l.length<=m.length
 |[],m,_,_=>Zf _
 |x::l,m,hn,hs=>by
  obtain⟨f,g⟩:=Y1.1 hn;have b:=hs x Xi;have d:=eAq l (m.erase x) g λy a=>(List.mem_erase_of_ne (λe:y=x=>f (by rw[<-e];exact a))).2 (hs y (by simp[a]))
  rw[List.length_erase_of_mem b] at d;have:0<m.length:=List.length_pos_of_mem b;simp only[Zo];omega
theorem hGq{d:List Node}{n:Nat}{t:T}(h:Rep d n t):∀p∈t.all,∃(i:Nat) (l r:Int),d[i]? =some (Node.mk true p.1 p.2 l r):=by
 induction h with
 |nil=>intro p b;simp[T.all] at b
 |leaf h=>intro p b;simp only[T.all,YH] at b;subst b;exact⟨_,_,_,h⟩
 |fork h j k _ _ f g=>
  intro p b;rcases ZO.1 b with b|b
  .exact f p b
  .exact g p b
theorem g9q{l:List Pr}(h:Srt l):(l.map (·.1)).Nodup:=by
 rw[List.nodup_iff_pairwise_ne,List.pairwise_map];exact h.imp λh=>vaq h
theorem IsT.srt{t:Tree}{n:Nat}{a:T}(h:IsT t n a):Srt a.all:=ifq vmq h.ok
theorem IsT.all_le{t:Tree}{n:Nat}{a:T}(h:IsT t n a):a.all.length<=t.nodes.length:=by
 have:=eAq (a.all.map (·.1)) (t.nodes.map (·.key)) (g9q h.srt) λk d=>by
  obtain⟨p,c,rfl⟩:=Z2.1 d;obtain⟨i,l,r,b⟩:=hGq h.rep p c;exact Z2.2 ⟨_,Zj b,rfl⟩
 simpa using this
theorem IsT.val{t:Tree}{n:Nat}{a:T}(h:IsT t n a):∀p∈a.all,0<p.2.length/\p.2.length<=64:=λp c=>by
 obtain⟨i,l,r,b⟩:=hGq h.rep p c;exact vxq h.okn b
theorem myq(t:Tree)(n:Nat)(a:T)(h:IsT t n a):PS cfg G 165 [tW t] (.tup [psW a.all,.int .i64 0]):=by
 have f:=h.len;have e:=h.may;have g:=h.all_le;have c:=h.root;obtain⟨ns,b⟩:=t;simp only at f c g;subst c;exact gI 11 Y (λR j=>gC 0 Y (zrq (w':=.int .i64 0) (kmq ⟨ns,(n:Int)⟩ Qc) (by rw[Zl e])) (zbq 17 Y (yOq Y Y Y Y Y Y (cJq ⟨ns,(n:Int)⟩ (n:Int)) (yOq Y Y Y Y Y Y (lnq _ _ a.all Xi (mBq ⟨ns,(n:Int)⟩ (λi k v l r d=>by have:=(vxq h.okn d).2;omega) Qc a n h.rep) Xd) (zeq 5 Y (gQa 0 Y))))))
theorem gPq(t:Tree)(a:t.nodes.length<=4611686018427387903)(h:¬crq t):PS cfg G 165 [tW t] (.tup [.nils,.int .i64 8]):=by
 exact gI 11 Y (λR b=>gC 0 Y (zrq (w':=.int .i64 8) (kmq t a) (by rw[Zg h])) (gQa 19 Y))
theorem lXq(t:Tree):PS cfg G 94 [tW t] (.fn 164 [] [.fel (tW t)]):=by
 refine gI 13 Y (λR b=>?_);refine ySq (fr2:=[(2,_)]) Xo ?_ Y Y
 (repeat (first|exact trivial|refine And.symm ⟨?_,_,rfl,?_⟩))<;>(repeat (first|exact .nil|refine .cons ?_ ?_|refine .fn ?_ ?_|(refine y5q Y ?_ rfl;(first|rfl|(focus (simp;done))))|(refine .sl Y ?_ rfl Xj;(first|rfl|(focus (simp;done))))|(refine .pur ?_;(first|rfl|(focus (simp;done))))|refine .agg ?_|refine .arr ?_|refine .tup ?_))
def Blq(p:Pr):List W:=[aW (kYq p.2).1,.bool (decide ((((kYq p.2).2:Nat):Int)=0))]
def Efq(_:Unit):List W:=[aW .zero,.bool false]
theorem oZq(t:Tree)(c:t.nodes.length<=4611686018427387903)(h:¬crq t):quq cfg G 164 [.fel (tW t)] ([()].map Efq):=by
 refine xdq (fn:=Tryz.f164) Y Y Y (Yb rfl) (λL E R d g=>?_);refine zCq 3 Y (gC 0 Y (gPq t c h) ?_);refine gSo 19 Y (qWq Y Y Y (d) (λb R1 c=>?_));exact zbq 4 Y (j7q Jr rfl (gsq (l:=[]) c))
theorem o0q(t:Tree)(n:Nat)(d:T)(h:IsT t n d):quq cfg G 164 [.fel (tW t)] (d.all.map Blq):=by
 have e:(d.all.map pW).length=d.all.length:=Ze _;have A:=h.len;have D:=h.all_le;refine xdq (fn:=Tryz.f164) Y Y Y (Yb rfl) (λL E R j B=>?_);refine zCq 3 Y (gC 0 Y (myq t n d h) (gV (w':=.int .i64 (d.all.length:Int)) 20 Y Yj (zbq 4 Y ?_)));refine Zzq (α:=Nat×Res) (λp=>p.1<=d.all.length/\Yl cfg G L E ((d.all.drop p.1).map Blq) p.2) (λp=>[(21,.int .i64 (p.1:Int))]) [(0,_),(19,_),(20,_)] (λp=>p.2) (λp=>d.all.length-p.1) ((0,R)) ⟨rfl,rfl,rfl,trivial⟩ (⟨by simp,j⟩) ⟨rfl,trivial⟩ rfl (λp w=>?_);obtain⟨i,R⟩:=p;obtain⟨y,j⟩:=w;simp only at y j⊢;refine zCq 6 Y ?_;refine gS 0 Y (λz=>?_) (λz=>?_)
 .have k:i<d.all.length:=by omega
  obtain⟨x,o⟩:∃x,d.all[i]? =some x:=⟨_,Za k⟩
  have C:=h.val x (Zj o);rw[vJq o,ZD] at j;refine gP 6 Y (zyq (i:=i) Y Y Y Y Y Y Y (ziq pW o)) (zbq 9 Y (yOq Y Y Y Y Y Y (lRq x.2 false Xd) (zeq 13 Y (gU 0 Y ?_))));refine gSo 0 Y (qWq Y Y Y (j) (λb R1 u=>?_));refine gS 3 Y (λq=>?_) (λq=>?_)
  .cases b with
   |true=>cases q
   |false=>
    exact zHq 3 Y (gO 0 Y (zbq 1 Y (j7q Jr rfl u)))
  .cases b with
   |false=>exact absurd rfl q
   |true=>
    exact zHq 4 Y (gA 0 Y (i+1) (gAg 2 Y ((i+1,R1)) (⟨k,u⟩) Xu))
 .refine gO 2 Y (zbq 1 Y ?_);obtain rfl:i=d.all.length:=by omega
  rw[List.drop_length] at j;exact j7q (.inl rfl) rfl j
theorem tnq{l:List Pr}:∀y∈l,acq (Blq y)=true/\(Blq y).length=2:=λy _=>⟨rfl,rfl⟩
structure IsA(t:Tree)(n:Nat)(t0:T):Prop extends IsT t n t0 where
 held:∀p∈t0.all,(kYq p.2).2=0
def l5q(t:Tree):Prop:=∃n a,IsA t n a
instance(t:Tree):Decidable (l5q t):=Classical.propDecidable _
theorem kuq(t:Tree)(C:t.nodes.length<=4611686018427387903):PS cfg G 43 [tW t] (.int .i64 (if l5q t then 0 else 8)):=by
 by_cases h:crq t
 .obtain⟨n,k,h⟩:=ACq h;refine gI 10 Y (λR E=>gC 0 Y (lXq _) (zbq 3 Y ?_));refine uIq (Blq) (k.all) (λi (_:Unit)=>∀j p,j<i->k.all[j]? =some p->(kYq p.2).2=0) (λ_=>R) (()) rfl Xm (o0q t n k h) (tnq) (λj p g=>by omega) rfl (λi a y A d=>?_) (λa d=>?_)
  .refine zCq 3 Y (Yxq (zCq 7 Y ?_));refine gS 0 Y (λu=>?_) (λu=>?_)
   .have hno:¬l5q t:=by
     rintro⟨D,F,m⟩;obtain rfl:D=n:=by have:=m.root;have:=h.root;omega
     obtain rfl:=m.rep.uniq h.rep;have:=m.held y (Zj A);rw[this] at u;simp at u
    exact zbq 7 Y (YNq Xj (zRq 2 Y (gQ 0 Y Xz)))
   .have B:(kYq y.2).2=0:=by simp at u;omega
    exact zbq 2 Y (v3q (()) (λj p g w=>by rcases ZC.1 g with q|rfl;exact d j p q w;exact(ZA (A.symm.trans w))▸B) Xd Xx rfl)
  .have yes:l5q t:=⟨n,k,h,λp w=>by
    obtain⟨j,g,z⟩:=List.getElem_of_mem w;exact d j p g (by rw[Za g,z])⟩
   exact zRq 8 Y (gQ 0 Y Yp)
 .have hno:¬l5q t:=λ⟨n,k,m⟩=>h m.toIsT.may
  refine gI 10 Y (λR E=>gC 0 Y (lXq _) (zbq 3 Y ?_));refine xwq (Efq) ([()]) (λi=>i=0) rfl Xm (oZq t C h) (λy _=>⟨rfl,rfl⟩) (rfl) (λi y A d=>?_) (λd=>?_)
  .exact zCq 3 Y (Yxq (zCq 15 Y (jIq Xj (zRq 2 Y (gQ 0 Y Xz)))))
  .exfalso;simp at d
def yBq(a:T)(k:Dig):Acct:=match a.find k 0 with
 |none=>.zero
 |some v=>(kYq v).1
theorem IsA.acct{t:Tree}{n:Nat}{a:T}(h:IsA t n a){k:Dig}{v:List UInt8}(b:a.find k 0=some v):(k,v)∈a.all/\(kYq v).2=0:=by
 rw[QOq k vmq h.ok] at b;have:=(f0q h.srt).1 b;exact⟨this,h.held _ this⟩
theorem rmq(t:Tree)(n:Nat)(a:T)(h:IsA t n a)(k:Dig):PS cfg G 128 [tW t,dW k] (.tup [aW (yBq a k),.int .i64 0]):=by
 have yes:l5q t:=⟨n,a,h⟩;have m:=h.len;cases c:a.find k 0 with
 |none=>
  have e:yBq a k= .zero:=by unfold yBq;rw[c]
  rw[e];refine gI 12 Y (λR j=>?_);first|refine gC 0 Y (zrq (w':=.int .i64 0) (kuq t Xd) Yp) ?_|refine gC 0 Y (kuq _ Xd) ?_
  exact gC 16 Y (zrq (w':=.tup [.nils,.bool false]) (pmq t n a k h.toIsT) (by rw[c];rfl)) (gQa 24 Y)
 |some v=>
  obtain⟨d,g⟩:=h.acct c;have f:=h.val _ d;have e:yBq a k=(kYq v).1:=by unfold yBq;rw[c]
  rw[e];refine gI 12 Y (λR j=>?_);first|refine gC 0 Y (zrq (w':=.int .i64 0) (kuq t Xd) Yp) ?_|refine gC 0 Y (kuq _ Xd) ?_
  exact gC 16 Y (zrq (w':=.tup [bW v,.bool true]) (pmq t n a k h.toIsT) (by rw[c];rfl)) (zbq 20 Y (yOq Y Y Y Y Y Y (lRq v false (by simp only at f;omega)) (zeq 7 Y (gQ 0 Y (by rw[g];rfl)))))
def nsW(b:List Node):W:=.arr (b.length*36) 36 (b.map nW)
@[simp] theorem xUq(a:List Node):aaq (nsW a)=true:=KNq a
theorem nFq(d:List Node)(f:Bool)(A:d.length<=1000000000):zUq cfg G 160 0 [.fz (d.map nW) 36 f] [] λw x v=>
  (d=[]/\w= .nils/\x=[]/\v=0)\/(w= .sl 0 0 0 d.length 36 none/\x=[(0,202,nsW d)]/\v=1):=by
 intro R;have e:(d.map nW).length=d.length:=Ze _;refine gIs 9 Y (λB=>?_);first|refine z5q Y Y ?_|refine zhq rfl (qDq Y Y Y Y Y (λy q=>?_))
 refine zeq 2 Y ?_;refine gS 0 Y (λu=>?_) (λu=>?_)
 .cases y with
  |false=>cases u
  |true=>
   have q:=q rfl
   have j:d=[]:=by cases d with
    |nil=>rfl
    |cons c l=>simp at q
   exact zHq 7 Y (fin Jr Ent.refl rfl ⟨rfl,.inl ⟨j,rfl,rfl,rfl⟩⟩)
 .cases d with
  |nil=>
   skip
   exact zHq 6 Y (gM 0 Y (yLq Y Y (jDq Y Y Y Y Y)) (zbq 4 Y (fin Jr Ent.refl rfl ⟨rfl,.inr ⟨rfl,rfl,rfl⟩⟩)))
  |cons c l=>
   refine zHq 6 Y (gM 0 Y (yLq Y Y (qxq (len:=0) (news:=(c::l).map nW) (olds:=[]) (k:=ti202) Y Y Y Y Y Xi (by show(0+((c::l).map nW).length)*ti202.bytes<=_;rw[e];show(0+(c::l).length)*80<=_;omega) Yk rfl (by show 0<0+(0+((c::l).map nW).length)*36;rw[e];simp only[Zo];omega) Y Y)) (zbq 4 Y ?_));refine fin Jr (yiq (b:=0) (k:=1) (fr2:=[(2,.sl 0 0 0 (c::l).length 36 none)]) (hp2:=[(0,202,nsW (c::l))]) Xd Xd Ql ⟨⟨?_,rfl⟩,trivial⟩ ⟨⟨by omega,?_,zaq (xUq _)⟩,trivial⟩ Xi) rfl ⟨rfl,.inr ⟨rfl,rfl,rfl⟩⟩
   .show some (W.sl 1 0 0 (0+((c::l).map nW).length) 36 none)=some (W.sl 1 0 0 (c::l).length 36 none);rw[e,ZG]
   .rw[zdq (xUq _)];show some (202,W.arr ((0+((c::l).map nW).length)*36) 36 ([]++(c::l).map nW))=some (202,nsW (c::l));rw[e,ZG];rfl
theorem nDq(a:List Node){i:Nat}{x:Node}(h:a[i]? =some x):zGq 50 (nsW a) (0+i*36+33) 1 false=some (bW x.val):=
 klq (ziq nW h) Xd Xd Xi rfl
theorem nCq(a:List Node){i:Nat}{x:Node}(h:a[i]? =some x):z7q 50 (nsW a) (0+i*36+33) (bW x.val)=some (nsW a):=by
 have b:=ziq nW h;rw[nsW,v5q (x':=nW x) b Xd Xd (by simp[W.isAgg,bW]) rfl,jrq b]
theorem phq(d:List Node)(b:Int)(z:d.length<=1000000000)(C:∀x∈d,x.val.length<=70368744177664):zUq cfg G 92 0 [tW ⟨d,b⟩] [] λw u q=>
  (d=[]/\w= .agg 2 [.nils,.int .i64 b]/\u=[(1,35,.agg 2 [.nils,.int .i64 b]),(0,35,.agg 2 [.nils,.int .i64 b])]/\q=2)\/
  (w= .agg 2 [.sl 2 0 0 d.length 36 none,.int .i64 b]/\u=[(2,202,nsW d),(1,35,.agg 2 [.sl 2 0 0 d.length 36 none,.int .i64 b]),(0,35,.agg 2 [.sl 2 0 0 d.length 36 none,.int .i64 b])]/\q=3):=by
 intro R;refine gIs 10 Y (λD=>?_);skip
 refine gSo 0 Y (yMq Y Y Y Y Y (by simp[KNq]) (nFq d false z) ?_);rintro w A y (⟨hn,rfl,rfl,rfl⟩|⟨rfl,rfl,rfl⟩)
 .skip
  skip
  refine gL 9 Y ?_;refine gLo (α:=Nat) 4 (λi=>i=0) (λi=>[(11,.int .i64 (i:Int))]) [1,2,10] (λi=>1-i) (0) rfl (rfl) (λi o=>?_);subst o;exact gO 9 Y (zbq 9 Y (fin Jr Ent.refl rfl ⟨rfl,.inl ⟨hn,rfl,rfl,rfl⟩⟩))
 .rw[zZq (xUq _)];show OpW cfg G _ _ _ _ [(2,202,nsW d),(1,35,.agg 2 [.nils,.int .i64 0]),(0,35,tW ⟨d,b⟩)] 3 R _;refine zeq 9 Y (gL 0 Y ?_);refine gLo (α:=Nat) 4 (λi=>i<=d.length) (λi=>[(11,.int .i64 (i:Int))]) [1,2,10] (λi=>d.length-i) (0) rfl (Zf _) (λi o=>?_);refine gS 6 Y (λB=>?_) (λB=>?_)
  .have f:i<d.length:=by omega
   obtain⟨x,j⟩:∃x,d[i]? =some x:=⟨_,Za f⟩
   have m:=C x (Zj j);refine gP 17 Y (ypq (i:=i) Y Y Y Y Y Y Y f) (gM 1 Y (zwq Y Y Y (nDq d j)) (tcq Y Y Y Y Y Y (jOq x.val false m) Xi Xi Xq ?_));refine jLq rfl (ypq (i:=i) Y Y Y Y Y Y Y f) (jLq Y Y ?_);exact viq rfl (kdq Y Y Y Y Y (nCq d j)) Xq (zWq 4 Y (gA 0 Y (i+1) (gAg 2 Y (i+1) (f) Xd)))
  .exact gO 2 Y (zbq 9 Y (fin Jr Ent.refl rfl ⟨rfl,.inr ⟨rfl,rfl,rfl⟩⟩))
def mkW(b n:Nat)(c:Int):W:=.agg 2 [.sl b 0 0 n 36 none,.int .i64 c]
theorem nAq(b:List Node)(x:Node):nsW (b++[x])= .arr ((b.length+1)*36) 36 (b.map nW++[nW x]):=by simp[nsW]
theorem Auq(a:List Node)(c:Int)(x:Node)(m:a.length<=1000000000):zUq cfg G 161 2 [.ptr 0 0,nW x] [(0,207,mkW 1 a.length c),(1,202,nsW a)] λw j f=>
  w= .int .i64 ((a.length+1:Nat):Int)/\j=[(0,207,mkW 2 (a.length+1) c),(2,202,nsW (a++[x]))]/\f=3:=by
 intro R;have d:(a.map nW).length=a.length:=Ze _;refine gIs 16 Y (λo=>?_);refine gM 0 Y (yLq Y Y (qxq (len:=a.length) (news:=[nW x]) (olds:=a.map nW) (k:=ti202) Y Y Y Y (j3q Y Y Y Y) Xi (by show(a.length+1)*80<=_;omega) (by show a.length+1<=_;omega) rfl (by show a.length*36<0+(a.length+1)*36;omega) rfl (zqq Xg d.symm rfl))) (gL 13 Y (zbq 4 Y ?_));refine fin Jr (yiq (b:=2) (k:=4) (fr2:=[(4,.int .i64 ((a.length+1:Nat):Int))]) (hp2:=[(0,207,mkW 2 (a.length+1) c),(2,202,nsW (a++[x]))]) Xd Xd Qk ⟨⟨rfl,rfl⟩,trivial⟩ ⟨⟨by omega,rfl,rfl⟩,⟨by omega,?_,zaq (xUq _)⟩,trivial⟩ Xi) rfl ⟨rfl,rfl,rfl,rfl⟩;rw[zdq (xUq _),nAq];rfl
def Mk(a:Int)(P:List Node->Nat->Prop):W->HpW->Nat->Prop:=λw d c=>
 ∃b m,P b m/\w= .int .i64 ((m:Nat):Int)/\d=[(0,207,mkW 2 b.length a),(2,202,nsW b)]/\c=3
theorem qcq{o:Oper}{J:FrW}{F:HpW}{A:Nat}{R:Res}{B:W->HpW->Nat->Res->Option EvW->Prop}{x:Operand}{K:Array Operand}{H:Array TypeId}{f:FuncId}{z:List W}{j:Int}{E:List Node}{P:List Node->Nat->Prop}(k:Nat)
  (S:o.op= .call ⟨.value x,K,H⟩) (T:evW cfg G J x=some (.fn f [] [])) (Q:cfg.ext f=none) (I:avq cfg G J K.toList=some (.ptr 0 0::z)) (D:acq z=true) (Y:0<k) (L:k<A)
  (V:hget F 0=some (207,mkW k E.length j)) (X:hget F k=some (202,nsW E)) (U:zUq cfg G f 2 (.ptr 0 0::z) [(0,207,mkW 1 E.length j),(1,202,nsW E)] (Mk j P))
  (C:∀q m,P q m->B (.int .i64 ((m:Nat):Int)) ((0,207,mkW A q.length j)::(A,202,nsW q)::aRq [0,k] F) (A+1) R (some .dirty)):aeq cfg G o J F A R B:=by
 refine zDq (ext:=[0,k]) (ws:=.ptr 0 0::z) S T Q I ?_ U ?_ ?_ Xi (QGq V (by rw[zdq (xUq _)];exact X) rfl (zaq (xUq _))) ?_ ?_
 .show .ptr 0 0::(z++[])=W.ptr 0 0::yVq (afq [0,k] A) z;rw[xoq D,ZT]
 .simp;omega
 .intro b N;simp only[ZB,ZW,or_false] at N;omega
 .have h:=zaq (m:=2) (w:=.tup z) D;have h:asq 2 z=true:=h;show(agq 2 (.ptr 0 0)&&asq 2 z)=true;rw[h];rfl
 .rintro w O M ⟨q,m,h,rfl,rfl,rfl⟩
  have e:ahq (afq [0,k] A) [(0,207,mkW 2 q.length j),(2,202,nsW q)]=[(0,207,mkW A q.length j),(A,202,nsW q)]:=by
   simp only[ahq,zdq (xUq _)];rfl
  have h:=C q m h;rw[show([0,k]:List Nat).length=2 from rfl,e];exact h
theorem xuq{B:Nat}{j:List ResultVar}{x:Exit}{p:FrW}{f:HpW}{g:Nat}{R:Res}{c:Int}{P:List Node->Nat->Prop}{d:List Node}{m:Nat}(s k:Nat)(y:x= .normal\/x= .ret)(C:2<=k)(h:k<g)(q:aqq p s=some (.int .i64 ((m:Nat):Int)))
  (z:hget f (aIq 2 k 0)=some (207,adq (aIq 2 k) (mkW 2 d.length c))) (A:hget f (aIq 2 k 2)=some (202,nsW d)) (v:c7q cfg [(s,.int .i64 ((m:Nat):Int))] [(0,207,mkW 2 d.length c),(2,202,nsW d)] j=some (.int .i64 ((m:Nat):Int))) (u:P d m):
  aTq cfg G 2 B j (λw f g R'=>R'=R/\Mk c P w f g) x p f g R:=
 fin y (yiq (b:=2) (k:=k) (fr2:=[(s,.int .i64 ((m:Nat):Int))]) (hp2:=[(0,207,mkW 2 d.length c),(2,202,nsW d)]) Xd C h ⟨⟨q,rfl⟩,trivial⟩ ⟨⟨by omega,z,rfl⟩,⟨by omega,by rw[zdq (xUq _)];exact A,zaq (xUq _)⟩,trivial⟩ Xi) v ⟨rfl,d,m,u,rfl,rfl,rfl⟩
def B3q(b:List Node)(x:Node):List Node->Nat->Prop:=λa m=>a=b++[x]/\m=b.length+1
theorem xqq(b:List Node)(a:Int)(x:Node)(k:b.length<=1000000000):zUq cfg G 161 2 [.ptr 0 0,nW x] [(0,207,mkW 1 b.length a),(1,202,nsW b)] (Mk a (B3q b x)):=by
 have h:=Auq (G:=G) b a x k;intro R
 have e:(λw d c R'=>R'=R/\(w= .int .i64 ((b.length+1:Nat):Int)/\d=[(0,207,mkW 2 (b.length+1) a),(2,202,nsW (b++[x]))]/\c=3))=(λ(w:W) (d:HpW) (c:Nat) (R':Res)=>R'=R/\Mk a (B3q b x) w d c):=by
  funext w d c R'
  refine propext (and_congr_right λ_=>⟨λ⟨f,g,j⟩=>⟨_,_,⟨rfl,rfl⟩,f,by rw[g];simp,j⟩,?_⟩);rintro⟨l,m,⟨rfl,rfl⟩,f,g,j⟩;exact⟨f,by rw[g];simp,j⟩
 exact e▸h R
def Gr(c:List Node)(f:Nat)(t:T):List Node->Nat->Prop:=λa m=>(∃b,a=c++b/\b.length<=f)/\okN a/\Rep a m t
theorem exq{b:List Node}{x:Node}(h:okN b)(d:aKq x b.length):okN (b++[x]):=λi y a=>by
 rcases Nat.lt_trichotomy i b.length with c|rfl|c
 .rw[List.getElem?_append_left c] at a;exact h i y a
 .rw[List.getElem?_append_right (Zb _),Nat.sub_self] at a;cases a;exact d
 .rw[List.getElem?_append_right Xd,List.getElem?_eq_none Xn] at a;cases a
theorem lNq(a:List Node)(x:Node):(a++[x])[a.length]? =some x:=by simp
theorem bNq{k:Dig}{v:List UInt8}(a:aUq [(k,v)])(n:Nat):aKq ⟨true,k,v,0,0⟩ n:=by simp[aKq,a]
theorem K2q{ns:List Node}{k:Dig}{v:List UInt8}(b:okN ns)(c:aUq [(k,v)]){f:Nat}(d:0<f):Gr ns f (.leaf k v) (ns++[⟨true,k,v,0,0⟩]) (ns.length+1):=
 ⟨⟨_,rfl,d⟩,exq b (bNq c _),.leaf (lNq ns _)⟩
theorem xfq{b a:List Node}{l r f:Nat}{L R:T}(j:a.length<=f)(i:okN (b++a))(d:Rep (b++a) l L)(c:Rep (b++a) r R)(h:0<l+r):Gr b (f+1) (.fork L R) (b++a++[odq l r]) ((b++a).length+1):=
 ⟨⟨a++[odq l r],by simp,by simp;omega⟩,exq i (by have:=d.le;have:=c.le;simp only[aKq,odq,Bool.false_eq_true,if_false];exact⟨by omega,by omega,trivial,trivial,by omega⟩),.fork (lNq _ _) d.le c.le (d.app _) (c.app _)⟩
theorem KOq(c:List Node){i:Nat}{x:Node}(h:c[i]? =some x):∃w,zGq 50 (nsW c) (0+i*36) 36 true=some w/\(w=nW x\/(c.length=1/\w= .arr 36 36 [nW x])):=by
 by_cases e:c.length=1
 .obtain⟨y,rfl⟩:=List.length_eq_one_iff.1 e;cases i with
  |zero=>cases h;exact⟨_,rfl,.inr ⟨rfl,rfl⟩⟩
  |succ i=>simp at h
 .have d:=(Zk.1 h).1;exact⟨_,klq (off:=0) (ziq nW h) Xd Xd (by rw[show Nat.beq 36 (c.length*36)=false from by rw[<-Bool.not_eq_true,ZH];omega];simp) rfl,.inl rfl⟩
abbrev Xrq(G:Nat->Option W)(a:Int)(k:Dig)(v:List UInt8)(b:List Node)(n d:Nat)(P:List Node->Nat->Prop):Prop:=zUq cfg G 93 2 [.ptr 0 0,.int .i64 ((n:Nat):Int),.int .i64 ((d:Nat):Int),nW ⟨true,k,v,0,0⟩] [(0,207,mkW 1 b.length a),(1,202,nsW b)] (Mk a P)
theorem dRq{b:Int}{k:Dig}{v:List UInt8}{c:List Node}{d f:Nat}(g:okN c)(t:aUq [(k,v)])(h:0<f)(q:c.length<=1000000000):Xrq G b k v c 0 d (Gr c f (.leaf k v)):=by
 intro R;refine gIs 13 Y (λu=>?_);refine gS 0 Y (λj=>?_) (λj=>?_)
 .refine zbq 4 Y ?_
  (refine zhq rfl (qcq 1 Y Y Y Y Xi Xd (by show 1<3;omega) Y Y (xqq c b _ q) ?_);rintro p m ⟨rfl,rfl⟩)
  exact zeq 5 Y (xuq 8 3 Jr Xd (by show 3<4;omega) Y Y Y Y (K2q g t h))
 .exfalso;omega
theorem dSq{b:Int}{k:Dig}{v C:List UInt8}{c:List Node}{i d f:Nat}{l r:Int}(z:c[i]? =some ⟨true,k,C,l,r⟩)(j:okN c)(B:aUq [(k,v)])(t:0<f)(y:c.length<=1000000000):Xrq G b k v c (i+1) d (Gr c f (.leaf k v)):=by
 intro R;have A:=(Zk.1 z).1;obtain⟨w,u,rfl|⟨_,rfl⟩⟩:=KOq c z
 .refine gIs 13 Y (λD=>?_);refine gS 0 Y (λq=>?_) (λq=>?_)
  .exfalso;omega
  .refine gA 10 Y (i) (gP 0 Y (ypq (i:=i) Y Y Y Y Y Y Y A) (gM 0 Y (zwq Y Y Y u) ?_));refine gB 9 Y (λg=>?_) (λg=>?_)
   .refine gUe 5 Y (yEq Y Y Y Y (yUq Y Y Y Y Y Y _ _ 250)) yKq ?_;refine gS 3 Y (λh=>?_) (λh=>?_)
    .refine zbq 4 Y ?_
     (refine zhq rfl (qcq 1 Y Y Y Y Xi Xd (by show 1<4;omega) Y Y (xqq c b _ y) ?_);rintro p m ⟨rfl,rfl⟩)
     exact zeq 5 Y (xuq 8 4 Jr Xd Qk Y Y Y Y (K2q j B t))
    .exfalso;exact h rfl
   .exfalso;exact g rfl
 .refine gIs 13 Y (λD=>?_);refine gS 0 Y (λq=>?_) (λq=>?_)
  .exfalso;omega
  .refine gA 10 Y (i) (gP 0 Y (ypq (i:=i) Y Y Y Y Y Y Y A) (gM 0 Y (zwq Y Y Y u) ?_));refine gB 9 Y (λg=>?_) (λg=>?_)
   .refine gUe 5 Y (yEq Y Y Y Y (yUq Y Y Y Y Y Y _ _ 250)) yKq ?_;refine gS 3 Y (λh=>?_) (λh=>?_)
    .refine zbq 4 Y ?_
     (refine zhq rfl (qcq 1 Y Y Y Y Xi Xd (by show 1<4;omega) Y Y (xqq c b _ y) ?_);rintro p m ⟨rfl,rfl⟩)
     exact zeq 5 Y (xuq 8 4 Jr Xd Qk Y Y Y Y (K2q j B t))
    .exfalso;exact h rfl
   .exfalso;exact g rfl
theorem gwq{b:Int}{k h:Dig}{v K:List UInt8}{I:List Node}{i d f:Nat}{l r:Int}{J:T}(hx:I[i]? =some ⟨true,h,K,l,r⟩)(E:h≠k)(g:d<256)(L:I.length+f+1<=1000000000)(D:J.non=true)
  (t:Xrq G b k v I (if bitN k d=bitN h d then i+1 else 0) (d+1) (Gr I f J)):Xrq G b k v I (i+1) d (Gr I (f+1) (if bitN k d=0 then .fork J (if bitN k d=bitN h d then .nil else .leaf h K) else .fork (if bitN k d=bitN h d then .nil else .leaf h K) J)):=by
 intro R;have B:=(Zk.1 hx).1;have M:=jgq k d;have N:=jgq h d;have hc:bitN k d=0\/bitN k d=1:=by omega
 have hc':bitN h d=0\/bitN h d=1:=by omega
 obtain⟨w,C,rfl|⟨_,rfl⟩⟩:=KOq I hx
 .rcases hc' with hc'|hc'<;>rcases hc with hc|hc
  .skip
   rw[Zl (hc.trans hc'.symm)] at t;refine gIs 13 Y (λF=>?_);refine gS 0 Y (λA=>?_) (λA=>?_)
   .exfalso;omega
   .refine gA 10 Y (i) ?_;refine gP 0 Y (ypq (i:=i) Y Y Y Y Y Y Y B) ?_;refine gM 0 Y (zwq Y Y Y C) ?_;refine gB 9 Y (λq=>?_) (λq=>?_)
    .refine gUe 5 Y (yEq Y Y Y Y (yUq Y Y Y Y Y Y _ _ 250)) yKq ?_;refine gS 3 Y (λj=>?_) (λj=>?_)
     .exfalso;exact E j
     .refine zbq 19 Y ?_
      (first|refine yOq Y Y Y Y Y Y (yIq h d 0 g hc') ?_|refine yOq Y Y Y Y Y Y (yIq k d 0 g hc) ?_)
      refine z5q Y Y ?_;refine bFq ?_;refine zeq 8 Y ?_
      (first|refine yOq Y Y Y Y Y Y (yIq h d 0 g hc') ?_|refine yOq Y Y Y Y Y Y (yIq k d 0 g hc) ?_)
      refine zeq 7 Y ?_;refine gX 0 Y ?_;refine gA 2 Y (d+1) ?_;refine zbq 1 Y ?_
      (refine yeq rfl (qcq 1 Y Y Y Y Xi Xd Yv Y Y t ?_);rintro u m ⟨⟨ms,rfl,hms⟩,hok1,hm⟩;refine⟨by first|rfl|kernel_rfl,?_⟩)
      refine zWq 7 Y ?_;refine gX 0 Y ?_;refine gC 7 Y (vhq _ _) ?_
      (refine zhq rfl (qcq 5 Y Y Y Y Xi Xd Yu Y Y (xqq _ b _ Xv) ?_);rintro z H ⟨rfl,rfl⟩)
      refine zeq 4 Y ?_;have y:0<m:=by have:=hm.non;rw[D] at this;simpa using this.symm
      exact xuq 8 6 Jr Xd Yo Y Y Y Y Jk
    .exfalso;exact q rfl
  .skip
   rw[Zg Xd] at t;refine gIs 13 Y (λF=>?_);refine gS 0 Y (λA=>?_) (λA=>?_)
   .exfalso;omega
   .refine gA 10 Y (i) ?_;refine gP 0 Y (ypq (i:=i) Y Y Y Y Y Y Y B) ?_;refine gM 0 Y (zwq Y Y Y C) ?_;refine gB 9 Y (λq=>?_) (λq=>?_)
    .refine gUe 5 Y (yEq Y Y Y Y (yUq Y Y Y Y Y Y _ _ 250)) yKq ?_;refine gS 3 Y (λj=>?_) (λj=>?_)
     .exfalso;exact E j
     .refine zbq 19 Y ?_
      (first|refine yOq Y Y Y Y Y Y (yIq h d 0 g hc') ?_|refine yOq Y Y Y Y Y Y (yIq k d 1 g hc) ?_)
      refine z5q Y Y ?_;refine bFq ?_;refine zeq 8 Y ?_
      (first|refine yOq Y Y Y Y Y Y (yIq h d 0 g hc') ?_|refine yOq Y Y Y Y Y Y (yIq k d 1 g hc) ?_)
      refine zeq 7 Y ?_;refine gX 0 Y ?_;refine gA 2 Y (d+1) ?_;refine zbq 1 Y ?_
      (refine yeq rfl (qcq 1 Y Y Y Y Xi Xd Yv Y Y t ?_);rintro u m ⟨⟨ms,rfl,hms⟩,hok1,hm⟩;refine⟨by first|rfl|kernel_rfl,?_⟩)
      refine zWq 7 Y ?_;refine gX 0 Y ?_;refine gC 7 Y (vhq _ _) ?_
      (refine zhq rfl (qcq 5 Y Y Y Y Xi Xd Yu Y Y (xqq _ b _ Xv) ?_);rintro z H ⟨rfl,rfl⟩)
      refine zeq 4 Y ?_;have y:0<m:=by have:=hm.non;rw[D] at this;simpa using this.symm
      exact xuq 8 6 Jr Xd Yo Y Y Y Y Jn
    .exfalso;exact q rfl
  .skip
   rw[Zg Xd] at t;refine gIs 13 Y (λF=>?_);refine gS 0 Y (λA=>?_) (λA=>?_)
   .exfalso;omega
   .refine gA 10 Y (i) ?_;refine gP 0 Y (ypq (i:=i) Y Y Y Y Y Y Y B) ?_;refine gM 0 Y (zwq Y Y Y C) ?_;refine gB 9 Y (λq=>?_) (λq=>?_)
    .refine gUe 5 Y (yEq Y Y Y Y (yUq Y Y Y Y Y Y _ _ 250)) yKq ?_;refine gS 3 Y (λj=>?_) (λj=>?_)
     .exfalso;exact E j
     .refine zbq 19 Y ?_
      (first|refine yOq Y Y Y Y Y Y (yIq h d 1 g hc') ?_|refine yOq Y Y Y Y Y Y (yIq k d 0 g hc) ?_)
      refine z5q Y Y ?_;refine bFq ?_;refine zeq 8 Y ?_
      (first|refine yOq Y Y Y Y Y Y (yIq h d 1 g hc') ?_|refine yOq Y Y Y Y Y Y (yIq k d 0 g hc) ?_)
      refine zeq 7 Y ?_;refine gX 0 Y ?_;refine gA 2 Y (d+1) ?_;refine zbq 1 Y ?_
      (refine yeq rfl (qcq 1 Y Y Y Y Xi Xd Yv Y Y t ?_);rintro u m ⟨⟨ms,rfl,hms⟩,hok1,hm⟩;refine⟨by first|rfl|kernel_rfl,?_⟩)
      refine zWq 7 Y ?_;refine gX 0 Y ?_;refine gC 7 Y (vhq _ _) ?_
      (refine zhq rfl (qcq 5 Y Y Y Y Xi Xd Yu Y Y (xqq _ b _ Xv) ?_);rintro z H ⟨rfl,rfl⟩)
      refine zeq 4 Y ?_;have y:0<m:=by have:=hm.non;rw[D] at this;simpa using this.symm
      exact xuq 8 6 Jr Xd Yo Y Y Y Y Jm
    .exfalso;exact q rfl
  .skip
   rw[Zl (hc.trans hc'.symm)] at t;refine gIs 13 Y (λF=>?_);refine gS 0 Y (λA=>?_) (λA=>?_)
   .exfalso;omega
   .refine gA 10 Y (i) ?_;refine gP 0 Y (ypq (i:=i) Y Y Y Y Y Y Y B) ?_;refine gM 0 Y (zwq Y Y Y C) ?_;refine gB 9 Y (λq=>?_) (λq=>?_)
    .refine gUe 5 Y (yEq Y Y Y Y (yUq Y Y Y Y Y Y _ _ 250)) yKq ?_;refine gS 3 Y (λj=>?_) (λj=>?_)
     .exfalso;exact E j
     .refine zbq 19 Y ?_
      (first|refine yOq Y Y Y Y Y Y (yIq h d 1 g hc') ?_|refine yOq Y Y Y Y Y Y (yIq k d 1 g hc) ?_)
      refine z5q Y Y ?_;refine bFq ?_;refine zeq 8 Y ?_
      (first|refine yOq Y Y Y Y Y Y (yIq h d 1 g hc') ?_|refine yOq Y Y Y Y Y Y (yIq k d 1 g hc) ?_)
      refine zeq 7 Y ?_;refine gX 0 Y ?_;refine gA 2 Y (d+1) ?_;refine zbq 1 Y ?_
      (refine yeq rfl (qcq 1 Y Y Y Y Xi Xd Yv Y Y t ?_);rintro u m ⟨⟨ms,rfl,hms⟩,hok1,hm⟩;refine⟨by first|rfl|kernel_rfl,?_⟩)
      refine zWq 7 Y ?_;refine gX 0 Y ?_;refine gC 7 Y (vhq _ _) ?_
      (refine zhq rfl (qcq 5 Y Y Y Y Xi Xd Yu Y Y (xqq _ b _ Xv) ?_);rintro z H ⟨rfl,rfl⟩)
      refine zeq 4 Y ?_;have y:0<m:=by have:=hm.non;rw[D] at this;simpa using this.symm
      exact xuq 8 6 Jr Xd Yo Y Y Y Y Jl
    .exfalso;exact q rfl
 .rcases hc' with hc'|hc'<;>rcases hc with hc|hc
  .skip
   rw[Zl (hc.trans hc'.symm)] at t;refine gIs 13 Y (λF=>?_);refine gS 0 Y (λA=>?_) (λA=>?_)
   .exfalso;omega
   .refine gA 10 Y (i) ?_;refine gP 0 Y (ypq (i:=i) Y Y Y Y Y Y Y B) ?_;refine gM 0 Y (zwq Y Y Y C) ?_;refine gB 9 Y (λq=>?_) (λq=>?_)
    .refine gUe 5 Y (yEq Y Y Y Y (yUq Y Y Y Y Y Y _ _ 250)) yKq ?_;refine gS 3 Y (λj=>?_) (λj=>?_)
     .exfalso;exact E j
     .refine zbq 19 Y ?_
      (first|refine yOq Y Y Y Y Y Y (yIq h d 0 g hc') ?_|refine yOq Y Y Y Y Y Y (yIq k d 0 g hc) ?_)
      refine z5q Y Y ?_;refine bFq ?_;refine zeq 8 Y ?_
      (first|refine yOq Y Y Y Y Y Y (yIq h d 0 g hc') ?_|refine yOq Y Y Y Y Y Y (yIq k d 0 g hc) ?_)
      refine zeq 7 Y ?_;refine gX 0 Y ?_;refine gA 2 Y (d+1) ?_;refine zbq 1 Y ?_
      (refine yeq rfl (qcq 1 Y Y Y Y Xi Xd Yv Y Y t ?_);rintro u m ⟨⟨ms,rfl,hms⟩,hok1,hm⟩;refine⟨by first|rfl|kernel_rfl,?_⟩)
      refine zWq 7 Y ?_;refine gX 0 Y ?_;refine gC 7 Y (vhq _ _) ?_
      (refine zhq rfl (qcq 5 Y Y Y Y Xi Xd Yu Y Y (xqq _ b _ Xv) ?_);rintro z H ⟨rfl,rfl⟩)
      refine zeq 4 Y ?_;have y:0<m:=by have:=hm.non;rw[D] at this;simpa using this.symm
      exact xuq 8 6 Jr Xd Yo Y Y Y Y Jk
    .exfalso;exact q rfl
  .skip
   rw[Zg Xd] at t;refine gIs 13 Y (λF=>?_);refine gS 0 Y (λA=>?_) (λA=>?_)
   .exfalso;omega
   .refine gA 10 Y (i) ?_;refine gP 0 Y (ypq (i:=i) Y Y Y Y Y Y Y B) ?_;refine gM 0 Y (zwq Y Y Y C) ?_;refine gB 9 Y (λq=>?_) (λq=>?_)
    .refine gUe 5 Y (yEq Y Y Y Y (yUq Y Y Y Y Y Y _ _ 250)) yKq ?_;refine gS 3 Y (λj=>?_) (λj=>?_)
     .exfalso;exact E j
     .refine zbq 19 Y ?_
      (first|refine yOq Y Y Y Y Y Y (yIq h d 0 g hc') ?_|refine yOq Y Y Y Y Y Y (yIq k d 1 g hc) ?_)
      refine z5q Y Y ?_;refine bFq ?_;refine zeq 8 Y ?_
      (first|refine yOq Y Y Y Y Y Y (yIq h d 0 g hc') ?_|refine yOq Y Y Y Y Y Y (yIq k d 1 g hc) ?_)
      refine zeq 7 Y ?_;refine gX 0 Y ?_;refine gA 2 Y (d+1) ?_;refine zbq 1 Y ?_
      (refine yeq rfl (qcq 1 Y Y Y Y Xi Xd Yv Y Y t ?_);rintro u m ⟨⟨ms,rfl,hms⟩,hok1,hm⟩;refine⟨by first|rfl|kernel_rfl,?_⟩)
      refine zWq 7 Y ?_;refine gX 0 Y ?_;refine gC 7 Y (vhq _ _) ?_
      (refine zhq rfl (qcq 5 Y Y Y Y Xi Xd Yu Y Y (xqq _ b _ Xv) ?_);rintro z H ⟨rfl,rfl⟩)
      refine zeq 4 Y ?_;have y:0<m:=by have:=hm.non;rw[D] at this;simpa using this.symm
      exact xuq 8 6 Jr Xd Yo Y Y Y Y Jn
    .exfalso;exact q rfl
  .skip
   rw[Zg Xd] at t;refine gIs 13 Y (λF=>?_);refine gS 0 Y (λA=>?_) (λA=>?_)
   .exfalso;omega
   .refine gA 10 Y (i) ?_;refine gP 0 Y (ypq (i:=i) Y Y Y Y Y Y Y B) ?_;refine gM 0 Y (zwq Y Y Y C) ?_;refine gB 9 Y (λq=>?_) (λq=>?_)
    .refine gUe 5 Y (yEq Y Y Y Y (yUq Y Y Y Y Y Y _ _ 250)) yKq ?_;refine gS 3 Y (λj=>?_) (λj=>?_)
     .exfalso;exact E j
     .refine zbq 19 Y ?_
      (first|refine yOq Y Y Y Y Y Y (yIq h d 1 g hc') ?_|refine yOq Y Y Y Y Y Y (yIq k d 0 g hc) ?_)
      refine z5q Y Y ?_;refine bFq ?_;refine zeq 8 Y ?_
      (first|refine yOq Y Y Y Y Y Y (yIq h d 1 g hc') ?_|refine yOq Y Y Y Y Y Y (yIq k d 0 g hc) ?_)
      refine zeq 7 Y ?_;refine gX 0 Y ?_;refine gA 2 Y (d+1) ?_;refine zbq 1 Y ?_
      (refine yeq rfl (qcq 1 Y Y Y Y Xi Xd Yv Y Y t ?_);rintro u m ⟨⟨ms,rfl,hms⟩,hok1,hm⟩;refine⟨by first|rfl|kernel_rfl,?_⟩)
      refine zWq 7 Y ?_;refine gX 0 Y ?_;refine gC 7 Y (vhq _ _) ?_
      (refine zhq rfl (qcq 5 Y Y Y Y Xi Xd Yu Y Y (xqq _ b _ Xv) ?_);rintro z H ⟨rfl,rfl⟩)
      refine zeq 4 Y ?_;have y:0<m:=by have:=hm.non;rw[D] at this;simpa using this.symm
      exact xuq 8 6 Jr Xd Yo Y Y Y Y Jm
    .exfalso;exact q rfl
  .skip
   rw[Zl (hc.trans hc'.symm)] at t;refine gIs 13 Y (λF=>?_);refine gS 0 Y (λA=>?_) (λA=>?_)
   .exfalso;omega
   .refine gA 10 Y (i) ?_;refine gP 0 Y (ypq (i:=i) Y Y Y Y Y Y Y B) ?_;refine gM 0 Y (zwq Y Y Y C) ?_;refine gB 9 Y (λq=>?_) (λq=>?_)
    .refine gUe 5 Y (yEq Y Y Y Y (yUq Y Y Y Y Y Y _ _ 250)) yKq ?_;refine gS 3 Y (λj=>?_) (λj=>?_)
     .exfalso;exact E j
     .refine zbq 19 Y ?_
      (first|refine yOq Y Y Y Y Y Y (yIq h d 1 g hc') ?_|refine yOq Y Y Y Y Y Y (yIq k d 1 g hc) ?_)
      refine z5q Y Y ?_;refine bFq ?_;refine zeq 8 Y ?_
      (first|refine yOq Y Y Y Y Y Y (yIq h d 1 g hc') ?_|refine yOq Y Y Y Y Y Y (yIq k d 1 g hc) ?_)
      refine zeq 7 Y ?_;refine gX 0 Y ?_;refine gA 2 Y (d+1) ?_;refine zbq 1 Y ?_
      (refine yeq rfl (qcq 1 Y Y Y Y Xi Xd Yv Y Y t ?_);rintro u m ⟨⟨ms,rfl,hms⟩,hok1,hm⟩;refine⟨by first|rfl|kernel_rfl,?_⟩)
      refine zWq 7 Y ?_;refine gX 0 Y ?_;refine gC 7 Y (vhq _ _) ?_
      (refine zhq rfl (qcq 5 Y Y Y Y Xi Xd Yu Y Y (xqq _ b _ Xv) ?_);rintro z H ⟨rfl,rfl⟩)
      refine zeq 4 Y ?_;have y:0<m:=by have:=hm.non;rw[D] at this;simpa using this.symm
      exact xuq 8 6 Jr Xd Yo Y Y Y Y Jl
    .exfalso;exact q rfl
theorem obq{c:List Node}{i l r:Nat}{d:Dig}{b:List UInt8}(e:c[i]? =some ⟨false,d,b,l,r⟩)(a:okN c):d=zeroD/\b=[]/\l<=i/\r<=i/\0<l+r:=by
 have h:=a i _ e;simp only[aKq,Bool.false_eq_true,if_false] at h;obtain⟨⟨_,j⟩,⟨_,k⟩,f,g,m⟩:=h;exact⟨f,g,by omega,by omega,by omega⟩
theorem ocq{d:List Node}{i l r:Nat}{j:Dig}{h:List UInt8}(f:d[i]? =some ⟨false,j,h,l,r⟩)(g:okN d):zGq 50 (nsW d) (0+i*36) 36 true=some (nW ⟨false,j,h,l,r⟩):=by
 obtain⟨w,k,rfl|⟨p,rfl⟩⟩:=KOq d f
 .exact k
 .obtain⟨_,_,s,u,m⟩:=obq f g;have q:=(Zk.1 f).1;omega
theorem gxq{b:Int}{k K:Dig}{v J:List UInt8}{c:List Node}{i d f l r:Nat}{L R j:T}(D:c[i]? =some ⟨false,K,J,l,r⟩)(z:okN c)(I:Rep c l L)(H:Rep c r R)(B:d<256)(N:c.length+f+1<=1000000000)(C:j.non=true)
  (q:Xrq G b k v c (if bitN k d=0 then l else r) (d+1) (Gr c f j)):Xrq G b k v c (i+1) d (Gr c (f+1) (if bitN k d=0 then .fork j R else .fork L j)):=by
 intro R';have E:=(Zk.1 D).1;have O:=jgq k d;have g:bitN k d=0\/bitN k d=1:=by omega
 have A:=ocq D z;rcases g with g|g
 .skip
  rw[Zl g] at q;refine gIs 13 Y (λM=>?_);refine gS 0 Y (λw=>?_) (λw=>?_)
  .exfalso;omega
  .refine gA 10 Y (i) ?_;refine gP 0 Y (ypq (i:=i) Y Y Y Y Y Y Y E) ?_;refine gM 0 Y (zwq Y Y Y A) ?_;refine gB 9 Y (λh=>?_) (λh=>?_)
   .exfalso;cases h
   .refine gC 27 Y (kGq _) ?_;refine gC 8 Y (yIq k d 0 B g) ?_;refine gX 7 Y ?_;refine gA 2 Y (d+1) ?_;refine zbq 1 Y ?_
    (refine yeq rfl (qcq 1 Y Y Y Y Xi Xd Yv Y Y q ?_);rintro u m ⟨⟨ms,rfl,hms⟩,hok1,hm⟩;refine⟨by first|rfl|kernel_rfl,?_⟩)
    refine zWq 7 Y ?_;refine gX 0 Y ?_;refine gC 7 Y (vhq _ _) ?_
    (refine zhq rfl (qcq 5 Y Y Y Y Xi Xd Yu Y Y (xqq _ b _ Xv) ?_);rintro t F ⟨rfl,rfl⟩)
    refine zeq 4 Y ?_;have y:0<m:=by have:=hm.non;rw[C] at this;simpa using this.symm
    exact xuq 8 6 Jr Xd Yo Y Y Y Y (by rw[Zl g];exact xfq hms hok1 hm (H.app _) Xd)
 .skip
  rw[Zg Xd] at q;refine gIs 13 Y (λM=>?_);refine gS 0 Y (λw=>?_) (λw=>?_)
  .exfalso;omega
  .refine gA 10 Y (i) ?_;refine gP 0 Y (ypq (i:=i) Y Y Y Y Y Y Y E) ?_;refine gM 0 Y (zwq Y Y Y A) ?_;refine gB 9 Y (λh=>?_) (λh=>?_)
   .exfalso;cases h
   .refine gC 27 Y (kGq _) ?_;refine gC 8 Y (yIq k d 1 B g) ?_;refine gX 7 Y ?_;refine gA 2 Y (d+1) ?_;refine zbq 1 Y ?_
    (refine yeq rfl (qcq 1 Y Y Y Y Xi Xd Yv Y Y q ?_);rintro u m ⟨⟨ms,rfl,hms⟩,hok1,hm⟩;refine⟨by first|rfl|kernel_rfl,?_⟩)
    refine zWq 7 Y ?_;refine gX 0 Y ?_;refine gC 7 Y (vhq _ _) ?_
    (refine zhq rfl (qcq 5 Y Y Y Y Xi Xd Yu Y Y (xqq _ b _ Xv) ?_);rintro t F ⟨rfl,rfl⟩)
    refine zeq 4 Y ?_;have y:0<m:=by have:=hm.non;rw[C] at this;simpa using this.symm
    exact xuq 8 6 Jr Xd Yo Y Y Y Y (by rw[Zg Xd];exact xfq hms hok1 (I.app _) hm Xd)
theorem wrq(C:Int)(k:Dig)(v:List UInt8)(P:aUq [(k,v)]):∀(f:Nat) (t:T) (x:List Node) (n d:Nat) (b:Dig),Rep x n t->okN x->t.ok d b=true->d+f=256->Zr d b->d<=ynq k b->x.length+f+1<=1000000000->Xrq G C k v x n d (Gr x (f+1) (T.put k v f t)):=by
 intro f;induction f with
 |zero=>
  intro t x n d b U q M Z z H Y;cases U with
  |nil=>exact dRq q P Xd Xd
  |leaf F=>
   rename_i n g D l r;have h:=YF M;have:g=k:=Y4q λj hj=>by rw[(yNq Xd).1 h j Xd,(yNq Xd).1 H j Xd]
   subst this;exact dSq F q P Xd Xd
  |fork F _ _ R S=>
   obtain⟨A,_⟩:=ok_fork.1 M;omega
 |succ f L=>
  intro t x n d b U q M Z z H Y;have A:d<256:=by omega
  have V:255-f=d:=by omega
  cases U with
  |nil=>exact dRq q P Xd Xd
  |leaf F=>
   rename_i n g D l r;have h:=YF M;by_cases e:g=k
   .subst e;simp only[T.put,if_true];exact dSq F q P Xd Xd
   .have b1:=jgq g d;have b2:=jgq k d;have b3:=jgq b d
    have J:Xrq G C k v x (n+1) d (Gr x (f+1+1) (if bitN k d=0 then .fork (T.put k v f (if bitN k d=bitN g d then .leaf g D else .nil)) (if bitN k d=bitN g d then .nil else .leaf g D) else .fork (if bitN k d=bitN g d then .nil else .leaf g D) (T.put k v f (if bitN k d=bitN g d then .leaf g D else .nil)))):=by
     refine gwq F e A Xd (KCq k v f _) ?_;by_cases B:bitN k d=0
     .by_cases E:bitN k d=bitN g d
      .rw[Zl E,Zl E];exact L _ x _ (d+1) b (.leaf F) q (Zq (xJq z A h Xd)) Xd (jcq z) (xJq z A H B) Xd
      .rw[Zg E,Zg E];exact L _ x _ (d+1) b .nil q rfl Xd (jcq z) (xJq z A H B) Xd
     .by_cases E:bitN k d=bitN g d
      .rw[Zl E,Zl E];exact L _ x _ (d+1) (joq b d) (.leaf F) q (Zq (xIq z A h Xd)) Xd (jbq z A) (xIq z A H B) Xd
      .rw[Zg E,Zg E];exact L _ x _ (d+1) (joq b d) .nil q rfl Xd (jbq z A) (xIq z A H B) Xd
    have Q:T.put k v (f+1) (.leaf g D)=(if bitN k d=0 then .fork (T.put k v f (if bitN k d=bitN g d then .leaf g D else .nil)) (if bitN k d=bitN g d then .nil else .leaf g D) else .fork (if bitN k d=bitN g d then .nil else .leaf g D) (T.put k v f (if bitN k d=bitN g d then .leaf g D else .nil))):=by
     simp only[T.put,V,Zg e,T.roads];have O:bitN k d=0\/bitN k d=1:=by omega
     have N:bitN g d=0\/bitN g d=1:=by omega
     rcases O with O|O<;>rcases N with N|N<;>simp[O,N]
    rw[Q];exact J
  |fork F h1 h2 R S=>
   rename_i n l r g D K I;obtain⟨_,X,k2,_⟩:=ok_fork.1 M
   have J:Xrq G C k v x (n+1) d (Gr x (f+1+1) (if bitN k d=0 then .fork (T.put k v f (if bitN k d=0 then K else I)) I else .fork K (T.put k v f (if bitN k d=0 then K else I)))):=by
    refine gxq F q R S A Xd (KCq k v f _) ?_;by_cases B:bitN k d=0
    .rw[Zl B,Zl B];exact L _ x _ (d+1) b R q X Xd (jcq z) (xJq z A H B) Xd
    .rw[Zg B,Zg B];exact L _ x _ (d+1) (joq b d) S q k2 Xd (jbq z A) (xIq z A H B) Xd
   have Q:T.put k v (f+1) (.fork K I)=(if bitN k d=0 then .fork (T.put k v f (if bitN k d=0 then K else I)) I else .fork K (T.put k v f (if bitN k d=0 then K else I))):=by
    simp only[T.put,V];by_cases B:bitN k d=0
    .simp only[Zl B]
    .simp only[Zg B]
   rw[Q];exact J
def MkO(a:Int)(b:List Node)(S:Nat->Prop)(P:List Node->Nat->Prop):W->HpW->Nat->Prop:=λw d c=>
 (∃m,S m/\w= .int .i64 ((m:Nat):Int)/\d=[(0,207,mkW 1 b.length a),(1,202,nsW b)]/\c=2)\/Mk a P w d c
theorem Rep.zero{a:List Node}{t:T}(h:Rep a 0 t):t= .nil:=by cases h;rfl
theorem mHq{o:Oper}{L:FrW}{H:HpW}{A:Nat}{R:Res}{B:W->HpW->Nat->Res->Option EvW->Prop}{x:Operand}{M:Array Operand}{J:Array TypeId}{f:FuncId}{D:List W}{q:Int}{C:List Node}{S:Nat->Prop}{P:List Node->Nat->Prop}(j k:Nat)
  (V:o.op= .call ⟨.value x,M,J⟩) (Z:evW cfg G L x=some (.fn f [] [])) (X:cfg.ext f=none) (K:avq cfg G L M.toList=some (.ptr j 0::D)) (I:acq D=true) (N:j≠k) (hj:j<A) (T:k<A)
  (h0:hget H j=some (207,mkW k C.length q)) (h1:hget H k=some (202,nsW C)) (O:zUq cfg G f 2 (.ptr 0 0::D) [(0,207,mkW 1 C.length q),(1,202,nsW C)] (MkO q C S P))
  (E:∀m,S m->B (.int .i64 ((m:Nat):Int)) ((j,207,mkW k C.length q)::(k,202,nsW C)::aRq [j,k] H) A R (some .dirty))
  (F:∀z m,P z m->B (.int .i64 ((m:Nat):Int)) ((j,207,mkW A z.length q)::(A,202,nsW z)::aRq [j,k] H) (A+1) R (some .dirty)):aeq cfg G o L H A R B:=by
 refine zDq (ext:=[j,k]) (ws:=.ptr 0 0::D) V Z X K ?_ O ?_ ?_ Xi (QGq h0 (by rw[zdq (xUq _)];exact h1) rfl (zaq (xUq _))) ?_ ?_
 .show .ptr j 0::(D++[])=W.ptr j 0::yVq (afq [j,k] A) D;rw[xoq I,ZT]
 .simp;omega
 .intro b Y;simp only[ZB,ZW,or_false] at Y;omega
 .have h:=zaq (m:=2) (w:=.tup D) I;have h:asq 2 D=true:=h;show(agq 2 (.ptr 0 0)&&asq 2 D)=true;rw[h];rfl
 .rintro w Q U (⟨m,h,rfl,rfl,rfl⟩|⟨z,m,h,rfl,rfl,rfl⟩)
  .have e:ahq (afq [j,k] A) [(0,207,mkW 1 C.length q),(1,202,nsW C)]=[(j,207,mkW k C.length q),(k,202,nsW C)]:=by
    simp only[ahq,zdq (xUq _)];rfl
   have h:=E m h;rw[show([j,k]:List Nat).length=2 from rfl,e];exact h
  .have e:ahq (afq [j,k] A) [(0,207,mkW 2 z.length q),(2,202,nsW z)]=[(j,207,mkW A z.length q),(A,202,nsW z)]:=by
    simp only[ahq,zdq (xUq _)];rfl
   have h:=F z m h;rw[show([j,k]:List Nat).length=2 from rfl,e];exact h
theorem Axq{f:FuncId}{b:List W}{c:HpW}{a:Int}{d:List Node}{P:List Node->Nat->Prop}(h:zUq cfg G f 2 b c (Mk a P)):zUq cfg G f 2 b c (MkO a d (λ_=>False) P):=yRq h λ_ _ _ h=>.inr h
def Clq(b:Int):W:=.agg 2 [.nils,.int .i64 b]
def Mk0(a:Int)(P:List Node->Nat->Prop):W->HpW->Nat->Prop:=λw d c=>
 ∃b m,P b m/\w= .int .i64 ((m:Nat):Int)/\d=[(0,207,mkW 1 b.length a),(1,202,nsW b)]/\c=2
theorem d2q{o:Oper}{I:FrW}{H:HpW}{A:Nat}{R:Res}{B:W->HpW->Nat->Res->Option EvW->Prop}{x:Operand}{J:Array Operand}{E:Array TypeId}{f:FuncId}{z:List W}{k:Int}{P:List Node->Nat->Prop}(j:Nat)
  (N:o.op= .call ⟨.value x,J,E⟩) (O:evW cfg G I x=some (.fn f [] [])) (M:cfg.ext f=none) (F:avq cfg G I J.toList=some (.ptr j 0::z)) (D:acq z=true) (U:j<A)
  (T:hget H j=some (207,Clq k)) (Q:zUq cfg G f 1 (.ptr 0 0::z) [(0,207,Clq k)] (Mk0 k P))
  (C:∀q m,P q m->B (.int .i64 ((m:Nat):Int)) ((j,207,mkW A q.length k)::(A,202,nsW q)::aRq [j] H) (A+1) R (some .dirty)):aeq cfg G o I H A R B:=by
 refine zDq (ext:=[j]) (ws:=.ptr 0 0::z) N O M F ?_ Q Xi ?_ Xi (yYq T rfl) ?_ ?_
 .show .ptr j 0::(z++[])=W.ptr j 0::yVq (afq [j] A) z;rw[xoq D,ZT]
 .intro b S;simp only[ZB,ZW,or_false] at S;omega
 .have h:=zaq (m:=1) (w:=.tup z) D;have h:asq 1 z=true:=h;show(agq 1 (.ptr 0 0)&&asq 1 z)=true;rw[h];rfl
 .rintro w L K ⟨q,m,h,rfl,rfl,rfl⟩
  have e:ahq (afq [j] A) [(0,207,mkW 1 q.length k),(1,202,nsW q)]=[(j,207,mkW A q.length k),(A,202,nsW q)]:=by
   simp only[ahq,zdq (xUq _)];rfl
  have h:=C q m h;rw[show([j]:List Nat).length=1 from rfl,e];exact h
theorem i2q{A:Nat}{h:List ResultVar}{x:Exit}{j:FrW}{d:HpW}{f:Nat}{R:Res}{c:Int}{P:List Node->Nat->Prop}{ns:List Node}{m:Nat}(s k:Nat)(v:x= .normal\/x= .ret)(B:1<=k)(g:k<f)(p:aqq j s=some (.int .i64 ((m:Nat):Int)))
  (y:hget d (aIq 1 k 0)=some (207,adq (aIq 1 k) (mkW 1 ns.length c))) (z:hget d (aIq 1 k 1)=some (202,nsW ns)) (u:c7q cfg [(s,.int .i64 ((m:Nat):Int))] [(0,207,mkW 1 ns.length c),(1,202,nsW ns)] h=some (.int .i64 ((m:Nat):Int))) (q:P ns m):
  aTq cfg G 1 A h (λw d f R'=>R'=R/\Mk0 c P w d f) x j d f R:=
 fin v (yiq (b:=1) (k:=k) (fr2:=[(s,.int .i64 ((m:Nat):Int))]) (hp2:=[(0,207,mkW 1 ns.length c),(1,202,nsW ns)]) Xd B g ⟨⟨p,rfl⟩,trivial⟩ ⟨⟨by omega,y,rfl⟩,⟨by omega,by rw[zdq (xUq _)];exact z,zaq (xUq _)⟩,trivial⟩ Xi) u ⟨rfl,ns,m,q,rfl,rfl,rfl⟩
theorem Avq(a:Int)(x:Node):zUq cfg G 161 1 [.ptr 0 0,nW x] [(0,207,Clq a)] (Mk0 a λb m=>b=[x]/\m=1):=by
 intro R;refine gIs 16 Y (λc=>?_);exact gM 0 Y (yLq Y Y (uOq (news:=[nW x]) (k:=ti202) Y Y Y Y (j3q Y Y Y Y) Xi (by show 1*ti202.bytes<=_;decide) (by show 1<=_;decide))) (gL 13 Y (zbq 4 Y (i2q (ns:=[x]) (m:=1) 4 3 Jr Xd (by show 3<4;omega) Y Y Y Y ⟨rfl,rfl⟩)))
theorem wsq{b:Int}{k:Dig}{v:List UInt8}{d:Int}:zUq cfg G 93 1 [.ptr 0 0,.int .i64 ((0:Nat):Int),.int .i64 d,nW ⟨true,k,v,0,0⟩] [(0,207,Clq b)] (Mk0 b λc m=>c=[⟨true,k,v,0,0⟩]/\m=1):=by
 intro R;refine gIs 13 Y (λj=>?_);refine gS 0 Y (λg=>?_) (λg=>?_)
 .refine zbq 4 Y ?_
  (refine zhq rfl (d2q 0 Y Y Y Y Xi (by show 0<2;omega) rfl (Avq b _) ?_);rintro h m ⟨rfl,rfl⟩)
  exact zeq 5 Y (i2q (ns:=[⟨true,k,v,0,0⟩]) (m:=1) 8 2 Jr Xd (by show 2<3;omega) Y Y Y Y ⟨rfl,rfl⟩)
 .exfalso;omega
def Ext(t b:Tree):Prop:=∃a,b.nodes=t.nodes++a/\a.length<=257
def PutA(t:Tree)(b:T):W->Prop:=λw=>∃a n,IsT a n b/\Ext t a/\w= .tup [tW a,.int .i64 0]
theorem cyq{d:HpW}{b:Nat}{ns:List Node}{root:Int}(h:hget d b=some (202,nsW ns)):View (amq d) (mkW b ns.length root) (tW ⟨ns,root⟩):=
 .agg (.cons (.sl (c:=nsW ns) (by unfold amq;rw[h]) (xUq ns) (zqq Xg (Ze _).symm rfl) Xj) (.cons (.pur rfl) .nil))
theorem iIq{f a:List Node}{n m:Nat}{c:T}{k:Dig}{v:List UInt8}(h:IsT ⟨f,(n:Int)⟩ n c)(l:f.length<=261844)(g:Gr f 257 (c.put k v 256) a m):IsT ⟨a,(m:Int)⟩ m (c.put k v 256):=by
 obtain⟨⟨o,rfl,i⟩,e,j⟩:=g;exact⟨by simp only[Zh];omega,e,rfl,j,(k4q k v 256 c (d:=0) (b:=zeroD) rfl vmq h.ok (Zf _)).1⟩
theorem wJq(t:Tree)(n:Nat)(B:T)(k:Dig)(v:List UInt8)(f:Bool)(h:IsT t n B)(A:aUq [(k,v)])(D:t.nodes.length<=261844):PE cfg G 42 [tW t,dW k,.fz (zcq v) 1 f] (PutA t (B.put k v 256)):=by
 have J:=h.may;have H:=h.root;obtain⟨ns,d⟩:=t;simp only at H D;subst H
 have I:v.length<=70368744177664:=by
  have C:=(A.2 0 Xi (k,v) rfl).1;simp only[pcq,Zd,YK] at C;omega
 have e:(ns.map nW).length=ns.length:=Ze _
 have q:∀x∈ns,x.val.length<=70368744177664:=λx M=>by
  obtain⟨i,F⟩:=List.getElem?_of_mem M;have y:=h.okn i x F;obtain⟨K,S,P,l,r⟩:=x;cases K with
  |true=>have:=(vxq h.okn F).2;simp only;omega
  |false=>simp only[aKq,Bool.false_eq_true,if_false] at y;simp only;rw[y.2.2.2.1];simp
 refine gIe 12 Y (λR Q=>gC 0 Y (jOq _ _ (by first|assumption|(simp;omega))) (gC 10 Y (zrq (w':=.int .i64 0) (kmq ⟨ns,(n:Int)⟩ Qc) (by rw[Zl J])) ?_));refine gD 0 Y (λy=>?_) (λy=>?_)
 .exfalso;exact y rfl
 .refine gC 2 Y (zrq (w':=.bool true) (Arq ⟨true,k,v,0,0⟩ 0 Xd) (by rw[Zq (bNq A 0)])) (gV (w':=.int .i64 (ns.length:Int)) 10 Y Yj (gU 0 Y ?_));refine gS 3 Y (λC=>?_) (λC=>?_)
  .exfalso;omega
  .refine zbq 6 Y ?_;skip
   skip
   refine gSo 0 Y (yMq Y Y Y Y Y (by simp[KNq]) (phq ns (n:Int) Xd q) ?_);rintro w O L (⟨hn,rfl,rfl,rfl⟩|⟨rfl,rfl,rfl⟩)
   .subst hn;obtain rfl:n=0:=by have:=h.rep.le;simpa using this
    skip
    refine zbq 15 Y ?_
    (refine yeq rfl (d2q 6 Y Y Y Y (by simp[adq]) Yo rfl (wsq (k:=k) (v:=v)) ?_);rintro j m ⟨rfl,rfl⟩;refine⟨by first|rfl|kernel_rfl,?_⟩)
    refine zWq 17 Y ?_;obtain rfl:=h.rep.zero;refine ybq (w':=.tup [tW ⟨[⟨true,k,v,0,0⟩],((1:Nat):Int)⟩,.int .i64 0]) Jr rfl (.tup (.cons (cyq (b:=7) (ns:=[⟨true,k,v,0,0⟩]) (root:=((1:Nat):Int)) rfl) (.cons (.pur rfl) .nil))) Xi ⟨_,1,?_,⟨[⟨true,k,v,0,0⟩],rfl,by simp⟩,rfl⟩;refine iIq (n:=0) h Xi ?_;rw[show T.put k v 256 .nil= .leaf k v from by simp[T.put]];exact K2q (ns:=[]) h.okn A Xd
   .skip
    refine zbq 15 Y ?_
    (refine yeq rfl (mHq 7 6 Y Y Y Y (by simp[adq]) Xd (by show 7<8;omega) (by show 6<8;omega) rfl (by show some (202,adq _ (nsW ns))=_;rw[zdq (xUq ns)]) (Axq (wrq (n:Int) k v A 256 B ns n 0 zeroD h.rep h.okn h.ok rfl vmq (Zf _) Xd)) ?_ ?_);exact λm N=>N.elim;rintro j m E;refine⟨by first|rfl|kernel_rfl,?_⟩)
    exact zWq 17 Y (ybq (w':=.tup [tW ⟨j,(m:Int)⟩,.int .i64 0]) Jr rfl (.tup (.cons (cyq (b:=8) (ns:=j) (root:=(m:Int)) rfl) (.cons (.pur rfl) .nil))) Xi ⟨_,m,iIq h D E,E.1,rfl⟩)
def CKq(l:List Pr)(k:Dig)(a:Acct):List Pr:=if a= .zero then mmq l k else ufq l k (BJq a)
def rsq(t:Tree)(m:Nat):Prop:=m<t.nodes.length\/∃i x,i<=m/\t.nodes[i]? =some x/\100<x.val.length
instance(t:Tree)(m:Nat):Decidable (rsq t m):=Classical.propDecidable _
end
section
variable {kfn:List V->Heap->Option (V×Heap)}
def cpq(x n:Nat):Nat:=Nat.lor (Nat.shiftLeft x (32-n)%4294967296%4294967296) (Nat.shiftRight x n%4294967296)
def aLq(a b:Nat):Nat:=(a+b)%4294967296
def csq(a b:Nat):Nat:=Nat.xor (a%4294967296) (b%4294967296)
def BYq(a b:Nat):Nat:=Nat.land (a%4294967296) (b%4294967296)
def Cbq(a k:Nat):Nat:=Nat.shiftRight a (min k 32)
def CIq(a k:Nat):Nat:=Nat.shiftLeft a (min k 32)%4294967296
def orN(a b:Nat):Nat:=Nat.lor (a%4294967296) (b%4294967296)
def notN(a:Nat):Nat:=Nat.xor (4294967295%4294967296) (a%4294967296)
def wd(x:Nat):W:=.int .u32 (.ofNat x)
theorem jRq(n:Nat)(l:n=2\/n=6\/n=7\/n=11\/n=13\/n=17\/n=18\/n=19\/n=22\/n=25)(G:Nat->Option W)(x:Nat):PS (gmq kfn) G 253 [wd x,.int .i64 (.ofNat n)] (wd (cpq x n)):=by
 have b:∀h,y9q (gmq kfn) 20 253 [.int .u32 (.ofNat x),.int .i64 (.ofNat n)] h=some (.int .u32 (.ofNat (cpq x n)),h):=by
  intro h;rcases l with rfl|rfl|rfl|rfl|rfl|rfl|rfl|rfl|rfl|rfl<;>kernel_rfl
 refine yRq (mOq b (λd q h=>?_) (λd=>RV_int.2 rfl)) λw s r h=>h.1
 obtain⟨v,m,rfl,e,j⟩:=RVL_cons.1 h;obtain⟨p,g,rfl,k,c⟩:=RVL_cons.1 j;rw[RVL_nil.1 c,RV_int.1 e,RV_int.1 k]
end
section
variable {kfn:List V->Heap->Option (V×Heap)}
attribute [local irreducible] CoW OpW FlW aeq ajq
def wqq(d c a b:Nat):Nat:=orN (orN (orN (CIq (d%4294967296) 24) (CIq (c%4294967296) 16)) (CIq (a%4294967296) 8)) (b%4294967296)
def fLq(a:Nat->Nat)(l:List Nat):Nat:=match Nat.blt l.length 16 with
 |true=>wqq (a (4*l.length)) (a (4*l.length+1)) (a (4*l.length+2)) (a (4*l.length+3))
 |false=>aLq (aLq (aLq (l.getD (l.length-16) 0) (csq (csq (cpq (l.getD (l.length-15) 0) 7) (cpq (l.getD (l.length-15) 0) 18)) (Cbq (l.getD (l.length-15) 0) 3))) (l.getD (l.length-7) 0)) (csq (csq (cpq (l.getD (l.length-2) 0) 17) (cpq (l.getD (l.length-2) 0) 19)) (Cbq (l.getD (l.length-2) 0) 10))
def qMq(a:Nat->Nat):Nat->List Nat
 |0=>[]
 |t+1=>qMq a t++[fLq a (qMq a t)]
theorem bpq(a:Nat->Nat):∀t,(qMq a t).length=t
 |0=>rfl
 |t+1=>by simp[qMq,bpq a t]
theorem KRq{l:List Nat}{i:Nat}(h:i<l.length):(l.map wd)[i]? =some (wd (l.getD i 0)):=by
 simp[Z1,Za h,List.getD]
def kW:List Nat:=[1116352408,1899447441,3049323471,3921009573,961987163,1508970993,2453635748,2870763221,3624381080,310598401,607225278,1426881987,1925078388,2162078206,2614888103,3248222580,3835390401,4022224774,264347078,604807628,770255983,1249150122,1555081692,1996064986,2554220882,2821834349,2952996808,3210313671,3336571891,3584528711,113926993,338241895,666307205,773529912,1294757372,1396182291,1695183700,1986661051,2177026350,2456956037,2730485921,2820302411,3259730800,3345764771,3516065817,3600352804,4094571909,275423344,430227734,506948616,659060556,883997877,958139571,1322822218,1537002063,1747873779,1955562222,2024104815,2227730452,2361852424,2428436474,2756734187,3204031479,3329325298]
def glK:Nat->Option W:=λg=>match g with
 |1=>some (.arr 64 1 (kW.map wd))
 |_=>none
def aWq(l:List Nat)(n:Nat):List Nat:=l++List.replicate (n-l.length) 0
theorem syq{l:List Nat}{n i:Nat}(h:i<l.length):((aWq l n).map wd)[i]? =some (wd (l.getD i 0)):=by
 have:i<(aWq l n).length:=by simp[aWq];omega
 rw[KRq this];simp[aWq,List.getD,Y2,h]
theorem sxq{l:List Nat}{n:Nat}(h:l.length<n):((aWq l n).map wd)[l.length]? =some (wd 0):=by
 have:l.length<(aWq l n).length:=by simp[aWq];omega
 rw[KRq this];simp[aWq,List.getD,Y2,List.getElem?_replicate,show 0<n-l.length by omega]
theorem nnq{l:List Nat}{n x:Nat}(h:l.length<n):((aWq l n).map wd).set l.length (wd x)=(aWq (l++[x]) n).map wd:=by
 rw[<-List.map_set];congr 1
 unfold aWq;rw[List.set_append_right _ _ (Zb _)];have:n-l.length=(n-(l++[x]).length)+1:=by simp;omega
 rw[this,Nat.sub_self,List.replicate_succ,List.set_cons_zero,Zx];rfl
structure S8 where
 (a b c d e f g h:Nat)
def S8.l(s:S8):List W:=[wd s.a,wd s.b,wd s.c,wd s.d,wd s.e,wd s.f,wd s.g,wd s.h]
def w6q(k w:Nat)(v:S8):S8:=
 let i:=aLq (aLq (aLq (aLq v.h (csq (csq (cpq v.e 6) (cpq v.e 11)) (cpq v.e 25))) (csq (BYq v.e v.f) (BYq (notN v.e) v.g))) k) w
 let j:=aLq (csq (csq (cpq v.a 2) (cpq v.a 13)) (cpq v.a 22)) (csq (csq (BYq v.a v.b) (BYq v.a v.c)) (BYq v.b v.c))
 ⟨aLq i j,v.a,v.b,v.c,aLq v.d i,v.e,v.f,v.g⟩
def JGq(a:List Nat)(s:S8):Nat->S8
 |0=>s
 |t+1=>w6q (kW.getD t 0) (a.getD t 0) (JGq a s t)
def Elq(s v:S8):S8:=⟨aLq s.a v.a,aLq s.b v.b,aLq s.c v.c,aLq s.d v.d,aLq s.e v.e,aLq s.f v.f,aLq s.g v.g,aLq s.h v.h⟩
def vkq(a:Nat->Nat)(s:S8):S8:=Elq s (JGq (qMq a 64) s 64)
theorem ATq:kW.length=64:=rfl
def S8.get(s:S8):Nat->Nat
 |0=>s.a
 |1=>s.b
 |2=>s.c
 |3=>s.d
 |4=>s.e
 |5=>s.f
 |6=>s.g
 |_=>s.h
def Coq(s v:S8)(i:Nat):List W:=(Elq s v).l.take i++s.l.drop i
theorem lt8{i:Nat}(h:i<8):i=0\/i=1\/i=2\/i=3\/i=4\/i=5\/i=6\/i=7:=by omega
theorem B2q(s:S8){k:Nat}(h:k<8):s.l[0+k*1]? =some (wd (s.get k)):=by rcases lt8 h with rfl|rfl|rfl|rfl|rfl|rfl|rfl|rfl<;>rfl
theorem pGq(s v:S8){k:Nat}(h:k<8):(Coq s v k)[0+k*1]? =some (wd (s.get k)):=by rcases lt8 h with rfl|rfl|rfl|rfl|rfl|rfl|rfl|rfl<;>rfl
theorem sLq(s v:S8){k:Nat}(h:k<8):(Coq s v k).set (0+k*1) (wd (aLq (s.get k) (v.get k)))=Coq s v (k+1):=by rcases lt8 h with rfl|rfl|rfl|rfl|rfl|rfl|rfl|rfl<;>rfl
theorem lFq(s:S8)(d:Nat->Nat)(c:W)(F E:Nat)(I:Option Nat)(z:TypeId)(S:agq 2 c=true)(A:∀i,i<64->zGq 50 c (E+i*1) 1 false=some (.int .u8 (.ofNat (d i))))(R:Res):
  ajq (gmq kfn) glK 221 2 [.ptr 0 0,.sl 1 F E 64 1 I] [(0,405,.arr 8 1 s.l),(1,z,c)] R λw Z X R'=>R'=R/\w= .tup []/\Z=[(0,405,.arr 8 1 (vkq d s).l),(1,z,c)]/\X=2:=by
 refine gIs 12 Y (λk0=>?_);refine jzq (α:=Nat) (λt=>t<=64) (λt=>[(19,.int .i64 (t:Int))]) [(0,_),(1,_),(4,_)] (λt=>[(2,453,.arr 64 1 ((aWq (qMq d t) 64).map wd)),(0,405,.arr 8 1 s.l),(1,z,c)]) (λt=>64-t) (0) ⟨rfl,rfl,rfl,trivial⟩ (Zf _) ⟨rfl,trivial⟩ (rfl) (λt M=>?_);have C:=bpq d t;refine zCq 6 Y ?_;refine gS 0 Y (λT=>?_) (λT=>?_)
 .have y:t<64:=by omega
  have O:((aWq (qMq d t) 64).map wd)[0+t*1]? =some (wd 0):=by
   have:=sxq (l:=qMq d t) (n:=64) Xd;rw[C] at this;simpa using this
  have G:∀x,fLq d (qMq d t)=x->((aWq (qMq d t) 64).map wd).set (0+t*1) (wd x)=(aWq (qMq d (t+1)) 64).map wd:=λx Q=>by
   have:=nnq (l:=qMq d t) (n:=64) (x:=x) Xd;rw[C] at this;rw[ZG,Z6,this,qMq,Q]
  refine gS 17 Y (λK=>?_) (λK=>?_)
  .have B:t<16:=by omega
   have J:fLq d (qMq d t)=wqq (d (4*t)) (d (4*t+1)) (d (4*t+2)) (d (4*t+3)):=by
    unfold fLq;rw[C,show Nat.blt t 16=true by simpa[YR] using B]
   refine gA 5 Y (4*t) ?_;refine gP 0 Y (ypq (i:=4*t) Y Y Y Y Y Y Y Xd) ?_;refine gM 0 Y (zwq Y Y Y (A _ Xd)) ?_;refine gA 4 Y (4*t) ?_;refine gA 0 Y (4*t+1) ?_;refine gP 0 Y (ypq (i:=4*t+1) Y Y Y Y Y Y Y Xd) ?_;refine gM 0 Y (zwq Y Y Y (A _ Xd)) ?_;refine gA 5 Y (4*t) ?_;refine gA 0 Y (4*t+2) ?_;refine gP 0 Y (ypq (i:=4*t+2) Y Y Y Y Y Y Y Xd) ?_;refine gM 0 Y (zwq Y Y Y (A _ Xd)) ?_;refine gA 5 Y (4*t) ?_;refine gA 0 Y (4*t+3) ?_;refine gP 0 Y (ypq (i:=4*t+3) Y Y Y Y Y Y Y Xd) ?_;refine gM 0 Y (zwq Y Y Y (A _ Xd)) ?_;refine gX 2 Y ?_;refine gM 0 Y (qmq Y Y Y Y Y (xPq O Y Y) (Zc (λL=>[(2,453,W.arr 64 1 L),(0,405,.arr 8 1 s.l),(1,z,c)]) (G _ J))) ?_;refine gWr 7 Y ?_;refine zbq 2 Y ?_;exact u1q (t+1) (y) Xd ⟨rfl,trivial⟩ ⟨rfl,rfl,rfl,trivial⟩ rfl
  .have B:¬t<16:=by omega
   have H:∀k,k<t->((aWq (qMq d t) 64).map wd)[0+k*1]? =some (wd ((qMq d t).getD k 0)):=λk hk=>by
    rw[ZG,Z6];exact syq Xd
   have J:fLq d (qMq d t)=aLq (aLq (aLq ((qMq d t).getD (t-16) 0) (csq (csq (cpq ((qMq d t).getD (t-15) 0) 7) (cpq ((qMq d t).getD (t-15) 0) 18)) (Cbq ((qMq d t).getD (t-15) 0) 3))) ((qMq d t).getD (t-7) 0)) (csq (csq (cpq ((qMq d t).getD (t-2) 0) 17) (cpq ((qMq d t).getD (t-2) 0) 19)) (Cbq ((qMq d t).getD (t-2) 0) 10)):=by
    unfold fLq;rw[show Nat.blt (qMq d t).length 16=false by rw[C];exact Bool.eq_false_iff.2 λq=>B (by simpa[YR] using q)];simp only[C]
   refine gA 5 Y (t-15) ?_;refine gX 0 Y ?_;refine gM 0 Y (zwq Y Y Y (q9q (H _ Xd) rfl)) ?_;refine gA 1 Y (t-2) ?_;refine gX 0 Y ?_;refine gM 0 Y (zwq Y Y Y (q9q (H _ Xd) rfl)) ?_;refine gA 7 Y (t-16) ?_;refine gX 0 Y ?_;refine gM 0 Y (zwq Y Y Y (q9q (H _ Xd) rfl)) ?_;refine gC 1 Y (jRq _ Xg _ _) ?_;refine gC 1 Y (jRq _ Xg _ _) ?_;refine gA 6 Y (t-7) ?_;refine gX 0 Y ?_;refine gM 0 Y (zwq Y Y Y (q9q (H _ Xd) rfl)) ?_;refine gC 2 Y (jRq _ Xg _ _) ?_;refine gC 1 Y (jRq _ Xg _ _) ?_;refine gX 5 Y ?_;refine gM 0 Y (qmq Y Y Y Y Y (xPq O Y Y) (Zc (λL=>[(2,453,W.arr 64 1 L),(0,405,.arr 8 1 s.l),(1,z,c)]) (G _ J))) ?_;refine gWr 4 Y ?_;refine zbq 2 Y ?_;exact u1q (t+1) (y) Xd ⟨rfl,trivial⟩ ⟨rfl,rfl,rfl,trivial⟩ rfl
 .obtain rfl:t=64:=by omega
  rw[show aWq (qMq d 64) 64=qMq d 64 by unfold aWq;rw[C];simp];refine zbq 2 Y ?_;refine qQq Xj ?_;refine zRq 18 Y ?_;refine jzq (α:=Nat) (λt=>t<=64) (λt=>[(100,.int .i64 (t:Int))]) [(0,_),(4,_),(8,_)] (λt=>[(3,405,.arr 8 1 (JGq (qMq d 64) s t).l),(2,453,.arr 64 1 ((qMq d 64).map wd)),(0,405,.arr 8 1 s.l),(1,z,c)]) (λt=>64-t) (0) ⟨rfl,rfl,rfl,trivial⟩ (Zf _) ⟨rfl,trivial⟩ (rfl) (λt M=>?_);refine zCq 6 Y ?_;refine gS 0 Y (λK=>?_) (λK=>?_)
  .have y:t<64:=by omega
   have U:zGq 50 (.arr 64 1 (kW.map wd)) (t*1) 1 false=some (wd (kW.getD t 0)):=q9q (by rw[Z6];exact KRq (by rw[ATq];exact y)) rfl;have P:zGq 50 (.arr 64 1 ((qMq d 64).map wd)) (0+t*1) 1 false=some (wd ((qMq d 64).getD t 0)):=q9q (by rw[ZG,Z6];exact KRq Xd) rfl;refine gC 37 Y (jRq _ Xg _ _) ?_;refine gC 1 Y (jRq _ Xg _ _) ?_;refine gC 2 Y (jRq _ Xg _ _) ?_;refine gP 12 Y (iGq (i:=t) Y Y Y Y Y Y Xd rfl U) ?_;refine gP 3 Y (kMq (i:=t) Y Y Y Y Y Y Xd) ?_;refine gM 0 Y (zwq Y Y Y P) ?_;refine gC 7 Y (jRq _ Xg _ _) ?_;refine gC 1 Y (jRq _ Xg _ _) ?_;refine gC 2 Y (jRq _ Xg _ _) ?_;refine gWr 36 Y ?_;refine zbq 2 Y ?_;exact u1q (t+1) (y) Xd ⟨rfl,trivial⟩ ⟨rfl,rfl,rfl,trivial⟩ rfl
  .obtain rfl:t=64:=by omega
   refine zbq 2 Y ?_;refine qQq Xj ?_;refine zRq 8 Y ?_;refine jzq (α:=Nat) (λi=>i<=8) (λi=>[(178,.int .i64 (i:Int))]) [(0,_),(8,_)] (λi=>[(3,405,.arr 8 1 (JGq (qMq d 64) s 64).l),(2,453,.arr 64 1 ((qMq d 64).map wd)),(0,405,.arr 8 1 (Coq s (JGq (qMq d 64) s 64) i)),(1,z,c)]) (λi=>8-i) (0) ⟨rfl,rfl,trivial⟩ (Zf _) ⟨rfl,trivial⟩ (rfl) (λi M=>?_);refine zCq 6 Y ?_;refine gS 0 Y (λh3=>?_) (λh3=>?_)
   .have j:i<8:=by omega
    refine gP 14 Y (kMq (i:=i) Y Y Y Y Y Y j) ?_;refine gM 0 Y (zwq Y Y Y (q9q (pGq _ _ j) rfl)) ?_;refine gP 1 Y (kMq (i:=i) Y Y Y Y Y Y j) ?_;refine gM 0 Y (zwq Y Y Y (q9q (B2q _ j) rfl)) ?_;refine gP 2 Y (kMq (i:=i) Y Y Y Y Y Y j) ?_;refine gM 0 Y (qmq Y Y Y Y Y (xPq (pGq _ _ j) Y Y) (Zc (λL=>[(3,405,W.arr 8 1 (JGq (qMq d 64) s 64).l),(2,453,.arr 64 1 ((qMq d 64).map wd)),(0,405,.arr 8 1 L),(1,z,c)]) (sLq _ _ j))) ?_;refine gWr 4 Y ?_;refine zbq 2 Y ?_;exact u1q (i+1) (j) Xd ⟨rfl,trivial⟩ ⟨rfl,rfl,trivial⟩ rfl
   .obtain rfl:i=8:=by omega
    refine zbq 2 Y ?_;refine qQq Xj ?_;refine zRq 1 Y ?_;refine fin (.inl rfl) (zvq (fr2:=[]) (hp2:=[(0,405,.arr 8 1 (vkq d s).l),(1,z,c)]) (nw2:=2) Xd Xd trivial rfl (zoq ⟨⟨by omega,rfl,rfl⟩,⟨by omega,rfl,S⟩,trivial⟩) Xi) rfl ⟨rfl,rfl,rfl,rfl⟩
def atL(r:List Nat)(i:Nat):Nat:=r.getD i 0
def eat:Nat->S8->List Nat->S8×List Nat
 |0,s,r=>(s,r)
 |n+1,s,r=>match Nat.ble 64 r.length with
  |true=>eat n (vkq (atL r) s) (r.drop 64)
  |false=>(s,r)
theorem Ztq:∀(n:Nat) (s:S8) (r:List Nat),r.length<64->eat n s r=(s,r)
 |0,_,_,_=>rfl
 |n+1,s,r,h=>by
  have:Nat.ble 64 r.length=false:=by
   cases a:Nat.ble 64 r.length with
   |true=>have:=Yb a;omega
   |false=>rfl
  simp only[eat,this]
theorem Xdq{n:Nat}{s:S8}{r:List Nat}(h:64<=r.length):eat (n+1) s r=eat n (vkq (atL r) s) (r.drop 64):=by
 simp only[eat,Zn h]
theorem e5q:∀(n m:Nat) (s:S8) (r:List Nat),r.length<=n->r.length<=m->eat n s r=eat m s r
 |0,m,s,r,h,_=>by rw[Ztq m s r Xd];rfl
 |n+1,0,s,r,_,h=>by rw[Ztq _ s r Xd];rfl
 |n+1,m+1,s,r,h1,h2=>by
  by_cases h:64<=r.length
  .rw[Xdq h,Xdq h];exact e5q n m _ _ Xn Xn
  .rw[Ztq _ s r Xd,Ztq _ s r Xd]
def wiq(s:S8)(r:List Nat):S8×List Nat:=eat r.length s r
theorem jMq{s:S8}{r:List Nat}(h:64<=r.length):wiq s r=wiq (vkq (atL r) s) (r.drop 64):=by
 unfold wiq;obtain⟨n,a⟩:∃n,r.length=n+1:=⟨r.length-1,by omega⟩
 rw[a,Xdq h];exact e5q _ _ _ _ Xn (Zb _)
def Jlq(a:S8×List Nat)(p:List Nat):S8×List Nat:=wiq a.1 (a.2++p)
def s0:S8:=⟨1779033703,3144134277,1013904242,2773480762,1359893119,2600822924,528734635,1541459225⟩
def mdq:Nat->List Nat->List Nat
 |0,r=>r
 |n+1,r=>match Nat.beq (r.length%64) 56 with
  |true=>r
  |false=>mdq n (r++[0])
def aQq(b:Nat):List Nat:=[56,48,40,32,24,16,8,0].map λi=>Nat.shiftRight (8*b%18446744073709551616) i%256
def k8q:Nat->S8->List Nat->S8
 |0,s,_=>s
 |n+1,s,r=>match Nat.ble 1 r.length with
  |true=>k8q n (vkq (atL r) s) (r.drop 64)
  |false=>s
theorem kzq:∀(n:Nat) (s:S8),k8q n s []=s
 |0,_=>rfl
 |n+1,s=>rfl
theorem vIq{n:Nat}{s:S8}{r:List Nat}(h:1<=r.length):k8q (n+1) s r=k8q n (vkq (atL r) s) (r.drop 64):=by
 simp only[k8q,Zn h]
theorem QZq:∀(n m:Nat) (s:S8) (r:List Nat),r.length<=n->r.length<=m->k8q n s r=k8q m s r
 |0,m,s,r,h,_=>by
  obtain rfl:r=[]:=ZZ.1 Xd;rw[kzq,kzq]
 |n+1,0,s,r,_,h=>by
  obtain rfl:r=[]:=ZZ.1 Xd;rw[kzq,kzq]
 |n+1,m+1,s,r,h1,h2=>by
  by_cases h:1<=r.length
  .rw[vIq h,vIq h];exact QZq n m _ _ Xn Xn
  .obtain rfl:r=[]:=ZZ.1 Xd;rw[kzq,kzq]
theorem dBq{s:S8}{r:List Nat}(h:1<=r.length):k8q r.length s r=k8q (r.drop 64).length (vkq (atL r) s) (r.drop 64):=by
 obtain⟨n,a⟩:∃n,r.length=n+1:=⟨r.length-1,by omega⟩
 rw[a,vIq h];exact QZq _ _ _ _ Xn (Zb _)
def f3q(s:S8):List Nat:=(List.range 32).map λi=>Nat.shiftRight (s.get (i/4)) (24-8*(i%4))%256
def qvq(a:List (List Nat)):Nat:=(a.map List.length).foldr (· + ·) 0
def cTq(b:List (List Nat)):List Nat:=
 let a:=b.foldl Jlq (s0,[])
 let r:=mdq 64 (a.2++[128])++aQq (qvq b)
 f3q (k8q r.length a.1 r)
inductive Rst where
 |nil
 |sl (all:List Nat) (base off:Nat)
def Rst.w:Rst->W
 |.nil=>.nils
 |.sl c b a=>.sl 2 b a (c.length-a) 1 none
def Rst.hp:Rst->HpW
 |.nil=>[]
 |.sl b _ _=>[(2,5,.arr b.length 1 (bN b))]
def Rst.r:Rst->List Nat
 |.nil=>[]
 |.sl a _ b=>a.drop b
def Rst.ok:Rst->Prop
 |.nil=>True
 |.sl a _ b=>b<=a.length/\a.length<4294967296
def Rst.nw:Rst->Nat
 |.nil=>2
 |.sl _ _ _=>3
def hpS(x:Rst)(d:W)(s:S8):HpW:=x.hp++[(1,405,.arr 8 1 s.l),(0,23,d)]
def Ydq:W:=.arr 32 1 (List.replicate 32 (.int .u8 0))
def vbq(p:List Nat×Bool):W:=.fz (bN p.1) 1 p.2
theorem DKq(r:Rst)(F:r.ok)(d:W)(s:S8)(p:List Nat)(f:Bool)(E:p.length<2147483648)(C:r.r.length<64):∃w j D ev,ckq (gmq kfn) (hpS r d s) r.nw 70 70 r.w (.fz (bN p) 1 f)=some (w,j,D,ev)/\
  ∃u:Rst,u.ok/\u.r=r.r++p/\((w=u.w/\j=hpS u d s/\D=u.nw)\/∃b,u= .sl b 0 0/\w= .sl 3 0 0 b.length 1 none/\j=[(3,5,.arr b.length 1 (bN b)),(1,405,.arr 8 1 s.l),(0,23,d)]/\D=4):=by
 cases r with
 |nil=>cases p with
  |nil=>exact⟨_,_,_,_,rfl,.nil,trivial,rfl,.inl ⟨rfl,rfl,rfl⟩⟩
  |cons a l=>
   have y:(bN (a::l)).length=l.length+1:=by rw[ZCq];rfl
   have B:l.length+1<2147483648:=E;have q:(bN (a::l)).length*1<=140737488355328:=by omega
   refine⟨_,_,_,_,uOq (k:=ti5) Y Y Y Y Y (by simp[bN]) q Xd,.sl (a::l) 0 0,⟨Zf _,by show l.length+1<_;omega⟩,rfl,.inl ⟨?_,?_,rfl⟩⟩
   .rw[ZCq];rfl
   .rw[ZCq,show(ti5).size=1 from rfl,Z6];rfl
 |sl b x c=>
  obtain⟨G,H⟩:=F;cases p with
  |nil=>exact⟨_,_,_,_,rfl,.sl b x c,⟨G,H⟩,by simp,.inl ⟨rfl,rfl,rfl⟩⟩
  |cons a l=>
   have y:(bN (a::l)).length=l.length+1:=by rw[ZCq];rfl
   have B:l.length+1<2147483648:=E;have q:(b.length-c+(bN (a::l)).length)*1<=140737488355328:=by omega
   have A:((bN b).drop c).take (b.length-c)=bN (b.drop c):=by
    rw[Zp (by simp[ZCq])];simp[bN,List.map_drop]
   refine⟨_,_,_,_,qxq (k:=ti5) (v:=.arr b.length 1 (bN b)) (off:=c) Y Y Y Y Y (by simp[bN]) q Xd Y ?_ rfl (vXq Xd),.sl (b.drop c++a::l) 0 0,⟨Zf _,?_⟩,rfl,.inr ⟨_,rfl,?_,?_,rfl⟩⟩
   .show b.length<c+(b.length-c+(bN (a::l)).length)*1;omega
   .simp only[Rst.r,Zy] at C;simp only[Zh,Zy,Zo];omega
   .simp only[y,Zh,Zy,Zo];rfl
   .rw[A,y];simp only[Zh,Zy,Zo,show(ti5).size=1 from rfl,Z6];rw[show bN (b.drop c)++bN (a::l)=bN (b.drop c++a::l) by simp[bN]];rfl
theorem bCq:∀(n j:Nat) (r:List Nat),(∀i,i<j->(r.length+i)%64≠56) ->(r.length+j)%64=56->j<=n->mdq n r=r++List.replicate j 0
 |0,j,r,_,_,h=>by
  obtain rfl:j=0:=by omega
  simp[mdq]
 |n+1,0,r,_,h,_=>by
  have:Nat.beq (r.length%64) 56=true:=by rw[ZH];simpa using h
  simp only[mdq,this];simp
 |n+1,j+1,r,h1,h2,h3=>by
  have:Nat.beq (r.length%64) 56=false:=by
   cases a:Nat.beq (r.length%64) 56 with
   |true=>rw[ZH] at a;exact absurd (by simpa using a) (h1 0 Xd)
   |false=>rfl
  simp only[mdq,this];rw[bCq n j (r++[0]) (λi b=>by simp only[Zh,List.length_singleton];have:=h1 (i+1) Xd;rwa[show r.length+1+i=r.length+(i+1) by omega]) (by simp only[Zh,List.length_singleton];rwa[show r.length+1+j=r.length+(j+1) by omega]) Xd];rw[Zx];rfl
def dI(s:S8)(i:Nat):List Nat:=(f3q s).take i++List.replicate (32-i) 0
theorem Y1q(s:S8):(f3q s).length=32:=by simp[f3q]
theorem Btq(s:S8){i:Nat}(h:i<=32):(dI s i).length=32:=by simp[dI,Y1q];omega
theorem Dyq(s:S8){i:Nat}(h:i<32):(bN (dI s i))[0+i*1]? =some (.int .u8 (.ofNat 0)):=by
 rw[ZG,Z6,tPq (by rw[Btq s Xd];exact h)]
 have:(dI s i).getD i 0=0:=by
  simp[dI,List.getD,Y2,Y1q,show min i 32=i by omega,List.getElem?_replicate,show 0<32-i by omega]
 rw[this]
theorem Bsq(s:S8){i:Nat}(h:i<32):(bN (dI s i)).set (0+i*1) (.int .u8 (.ofNat (Nat.shiftRight (s.get (i/4)) (min (24-8*(i%4)) 32)%256)))=bN (dI s (i+1)):=by
 have e:(f3q s).take (i+1)=(f3q s).take i++[Nat.shiftRight (s.get (i/4)) (24-8*(i%4))%256]:=by
  rw[YA];congr 1
  simp[f3q,Z1,List.getElem?_range h]
 have b:min (24-8*(i%4)) 32=24-8*(i%4):=by omega
 have d:((f3q s).take i).length=i:=by simp[Y1q];omega
 rw[ZG,Z6,b];unfold bN;rw[<-List.map_set (f:=λc=>W.int .u8 (.ofNat c))];congr 1
 unfold dI;rw[e,show 32-i=(32-(i+1))+1 by omega,List.replicate_succ,List.set_append_right _ _ Xd,d,Nat.sub_self,List.set_cons_zero,Zx];rfl
theorem Eaq(L:List Nat)(c:Nat):some (W.sl 4 0 0 (L.length+(bN [c]).length) 1 none)=some (adq (aIq 2 4) (W.sl 2 0 0 (L++[c]).length 1 none)):=by
 rw[Zh];rfl
theorem D9q(L:List Nat)(c:Nat):some (5,W.arr ((L.length+(bN [c]).length)*1) 1 (((bN L).drop 0).take L.length++bN [c]))=some (5,adq (aIq 2 4) (W.arr (L++[c]).length 1 (bN (L++[c])))):=by
 rw[zdq (show aaq (.arr (L++[c]).length 1 (bN (L++[c])))=true from Ytq _),ZX,Zp (by rw[ZCq];exact Zb _),Z6,Zh];simp[bN]
theorem bAq:∀a:List (List Nat×Bool),acq (a.map vbq)=true
 |[]=>rfl
 |p::a=>by simp only[ZD,acq,vbq,aaq,Ytq,Y6];exact bAq a
theorem D7q(ps:List (List Nat×Bool))(fl:Bool)(hb:qvq (ps.map (·.1))<2147483648)(hpn:ps.length<2147483648)(R:Res):
  ajq (gmq kfn) glK 167 0 [.fz (ps.map vbq) 1 fl] [] R λw hp nw R'=>R'=R/\w= .arr 32 1 (bN (cTq (ps.map (·.1)))):=by
 refine gIs 26 Y (λk0=>?_);refine gL 0 Y ?_;refine zbq 4 Y ?_;refine jAq (α:=Nat×S8×Rst) (λa=>a.1<=ps.length/\a.2.2.ok/\(a.2.1,a.2.2.r)=((ps.map (·.1)).take a.1).foldl Jlq (s0,[])/\a.2.2.r.length<64) (λa=>[(13,.int .i64 (a.1:Int)),(12,.int .i64 (ps.length:Int)),(11,.fz (ps.map vbq) 1 fl),(5,.int .u64 (qvq ((ps.map (·.1)).take a.1):Int)),(4,a.2.2.w),(3,.ptr 1 0),(2,.ptr 0 0)]) (λa=>hpS a.2.2 Ydq a.2.1) (λa=>a.2.2.nw) (λ_=>R) (λa=>ps.length-a.1) (0,s0,.nil) ⟨Zf _,trivial,rfl,by decide⟩ ?_ (λa ha=>?_);skip
 .exact yJq ⟨rfl,by simp[aqq,atq],rfl,rfl,rfl,rfl,rfl,trivial⟩ Y Y
 have hPp:aaq (.fz (ps.map vbq) 1 fl)=true:=bAq ps;obtain⟨i,s,r⟩:=a;obtain⟨hi,hok,hfold,hr64⟩:=ha;refine zCq 6 Y ?_;refine gS 0 Y (λh1=>?_) (λh1=>?_)
 .simp only at hi hok hfold hr64;have hi1:i<ps.length:=by omega
  obtain⟨p,hp⟩:∃p,ps[i]? =some p:=⟨_,Za hi1⟩
  have hpw:(ps.map vbq)[i]? =some (.fz (bN p.1) 1 p.2):=by rw[Z1,hp];rfl
  have htk:(ps.map (·.1)).take (i+1)=(ps.map (·.1)).take i++[p.1]:=by
   rw[YA,Z1,hp];rfl
  have htot:∀l r:List (List Nat),qvq (l++r)=qvq l+qvq r:=λl r=>by
   unfold qvq;induction l with
   |nil=>simp
   |cons x l ih=>simp only[YW,ZD,List.foldr_cons,ih];omega
  have ht1:qvq ((ps.map (·.1)).take (i+1))=qvq ((ps.map (·.1)).take i)+p.1.length:=by rw[htk,htot];simp[qvq]
  have htle:qvq ((ps.map (·.1)).take (i+1))<=qvq (ps.map (·.1)):=by
   have:=htot ((ps.map (·.1)).take (i+1)) ((ps.map (·.1)).drop (i+1));rw[ZK] at this;omega
  have hpl:p.1.length<2147483648:=by omega
  refine gP 6 Y (zyq (i:=i) Y Y Y Y Y Y Y hpw) ?_;refine gZ 8 Y (ZCq p.1) ?_;refine gA 0 Y (p.1.length) ?_;refine gA 0 Y (qvq ((ps.map (·.1)).take i)+p.1.length) ?_;refine zbq 3 Y ?_;refine J9q (α:=Rst) (λr'=>r'.ok/\r'.r=r.r++p.1) (λr'=>[(13,.int .i64 (i:Int)),(12,.int .i64 (ps.length:Int)),(11,.fz (ps.map vbq) 1 fl),(5,.int .u64 (qvq ((ps.map (·.1)).take (i+1)):Int)),(4,r'.w),(3,.ptr 1 0),(2,.ptr 0 0)]) (λr'=>hpS r' Ydq s) (λr'=>r'.nw) ?_ (λa ha=>?_)
  .obtain⟨w,hp',nw',ev,e1,r',e2,e3,e4⟩:=DKq r hok Ydq s p.1 p.2 hpl hr64;refine zCq 3 Y ?_;refine gM 0 Y (yLq Y Y e1) ?_;refine zbq 2 Y ?_;refine⟨rfl,r',⟨e2,e3⟩,?_⟩;rcases e4 with ⟨rfl,rfl,rfl⟩|⟨all,rfl,rfl,rfl,rfl⟩
   .exact yJq ⟨rfl,rfl,rfl,by rw[ht1];rfl,rfl,rfl,rfl,trivial⟩ Y Y
   .refine yiq (b:=2) (k:=3) Xd Xd Xd ⟨⟨rfl,rfl⟩,⟨rfl,rfl⟩,⟨by rw[zdq hPp];rfl,zaq hPp⟩,⟨by rw[ht1];rfl,rfl⟩,⟨rfl,rfl⟩,⟨rfl,rfl⟩,⟨rfl,rfl⟩,trivial⟩ ⟨⟨by omega,by rw[zdq (show aaq (.arr all.length 1 (bN all))=true from Ytq _)];rfl,zaq (show aaq (.arr all.length 1 (bN all))=true from Ytq _)⟩,⟨by omega,rfl,rfl⟩,⟨by omega,rfl,rfl⟩,trivial⟩ Qn
  obtain⟨hak,har⟩:=ha;have hstep:(ps.map (·.1)).take (i+1)=(ps.map (·.1)).take i++[p.1]:=htk;have hnext:((ps.map (·.1)).take (i+1)).foldl Jlq (s0,[])=Jlq (s,r.r) p.1:=by rw[hstep,List.foldl_append,<-hfold];rfl
  refine zHq 1 Y ?_;refine jAq (α:=S8×Rst) (λb=>b.2.ok/\wiq b.1 b.2.r=Jlq (s,r.r) p.1) (λb=>[(13,.int .i64 (i:Int)),(12,.int .i64 (ps.length:Int)),(11,.fz (ps.map vbq) 1 fl),(5,.int .u64 (qvq ((ps.map (·.1)).take (i+1)):Int)),(4,b.2.w),(3,.ptr 1 0),(2,.ptr 0 0)]) (λb=>hpS b.2 Ydq b.1) (λb=>b.2.nw) (λ_=>R) (λb=>b.2.r.length) (s,a) ⟨hak,by simp only[Jlq,har]⟩ (Ent.refl) (λb hb=>?_);skip
  obtain⟨s',r'⟩:=b;obtain⟨hok',heat⟩:=hb;simp only at hok' heat
  have done:r'.r.length<64->(s',r'.r)=((ps.map (·.1)).take (i+1)).foldl Jlq (s0,[]):=λh=>by
   rw[hnext,<-heat,wiq,Ztq _ _ _ h]
  skip
  cases r' with
  |nil=>
   refine zCq 4 Y ?_;refine gL 0 Y ?_;refine zbq 6 Y ?_;refine qQq Xj ?_;refine zRq 4 Y ?_;refine gA 0 Y (i+1) ?_;refine zbq 2 Y ?_;skip
   refine y6q (i+1,s',.nil) ⟨hi1,trivial,done (by show 0<64;omega),(by show 0<64;omega)⟩ Xu (yJq ⟨rfl,rfl,rfl,rfl,rfl,rfl,rfl,trivial⟩ Y Y)
  |sl all base off=>
   obtain⟨ho1,ho2⟩:=hok';have hrl:(Rst.sl all base off).r.length=all.length-off:=by simp[Rst.r]
   refine zCq 4 Y ?_;refine gV 0 Y (show _=W.int .i64 ((all.length-off:Nat):Int) by first|rfl|(simp;done)) ?_;refine gS 3 Y (λh2=>?_) (λh2=>?_)
   .have h64:64<=all.length-off:=by omega
    have hpa:aaq (.arr all.length 1 (bN all))=true:=Ytq all
    have hby:∀k,k<64->zGq 50 (.arr all.length 1 (bN all)) (off+0*1+k*1) 1 false=some (.int .u8 (.ofNat (atL (all.drop off) k))):=λk hk=>by
     have:=tPq (l:=all) (i:=off+k) Xd;refine q9q ?_ rfl;rw[Nat.zero_mul,Y5,Z6,this];simp[atL,List.getD,Z0]
    have hr':(Rst.sl all off (off+64)).r=((Rst.sl all base off).r).drop 64:=by simp[Rst.r]
    refine gP 6 Y (p7q (h:=64) Y Y Y Y Y Y Y h64) ?_
    (refine zhq rfl (zDq (ext:=[1,2]) (ws:=[.ptr 0 0,.sl 1 base (off+0*1) (64-0) 1 none]) Y Y Y Y Y (λR=>lFq s' (atL (all.drop off)) (.arr all.length 1 (bN all)) base _ none 5 (zaq hpa) hby R) Xg Jd Xi (QGq rfl (by rw[zdq hpa];rfl) rfl (zaq hpa)) Y ?_);rintro w hp1 nw1 ⟨rfl,rfl,rfl⟩)
    refine zeq 5 Y ?_;refine gP 0 Y (p6q (l:=64) Y Y Y Y Y Y Y h64 rfl) ?_;refine zbq 2 Y ?_;skip
    refine y6q (vkq (atL (all.drop off)) s',.sl all off (off+64)) ⟨⟨by omega,ho2⟩,?_⟩ (by simp only[hr'];simp only[hrl,Zy];omega) (zvq Xd (Zb _) ⟨rfl,rfl,rfl,rfl,?_,rfl,rfl,trivial⟩ (by simp only[List.all_cons,List.all_nil,zaq hPp,Bool.and_true];rfl) (zoq ⟨⟨by show 2<3;omega,by show some (5,adq _ (W.arr all.length 1 (bN all)))=_;rw[zdq hpa],zaq hpa⟩,⟨by show 1<3;omega,rfl,rfl⟩,⟨by show 0<3;omega,rfl,rfl⟩,trivial⟩) Qn)
    .rw[hr',<-heat];exact(jMq (r:=(Rst.sl all base off).r) (by rw[hrl];exact h64)).symm
    .show some (W.sl 2 off (off+64*1) (all.length-off-64) 1 (q6q 64 none))=some (W.sl 2 off (off+64) (all.length-(off+64)) 1 none);rw[Nat.sub_sub];rfl
   .have h64:all.length-off<64:=by omega
    refine zbq 2 Y ?_;refine qQq Xj ?_;refine zRq 4 Y ?_;refine gA 0 Y (i+1) ?_;refine zbq 2 Y ?_;skip
    refine y6q (i+1,s',.sl all base off) ⟨hi1,⟨ho1,ho2⟩,done (by rw[hrl];exact h64),by simp only[hrl];exact h64⟩ Xu (yJq ⟨rfl,rfl,rfl,rfl,rfl,rfl,rfl,trivial⟩ Y Y)
 .simp only at hi hok hfold hr64;obtain rfl:i=ps.length:=by omega
  rw[show(ps.map (·.1)).take ps.length=ps.map (·.1) by rw[Zp Xi]] at hfold;have hT:(ps.map (·.1)).take ps.length=ps.map (·.1):=by rw[Zp Xi]
  have hdt:∀(all:List Nat) (off:Nat),((bN all).drop off).take (all.length-off)=bN (all.drop off):=λall off=>by
   rw[Zp (by simp[ZCq])];simp[bN,List.map_drop]
  have bapp:∀a b:List Nat,bN a++bN b=bN (a++b):=λa b=>by simp[bN]
  have apur:∀all:List Nat,aaq (.arr all.length 1 (bN all))=true:=λall=>Ytq all
  refine zbq 2 Y ?_;refine qQq Xj ?_;refine zRq 2 Y ?_;refine J9q (α:=Unit) (λ_=>True) (λ_=>[(5,.int .u64 (qvq (ps.map (·.1)):Int)),(4,.sl 2 0 0 (r.r++[128]).length 1 none),(3,.ptr 1 0),(2,.ptr 0 0)]) (λ_=>hpS (.sl (r.r++[128]) 0 0) Ydq s) (λ_=>3) ?_ (λa ha=>?_)
  .skip
   cases r with
   |nil=>
    refine zCq 3 Y ?_;refine gM 0 Y (yLq Y Y (uOq (news:=bN [128]) (k:=ti5) Y Y Y Y Y (by simp[bN]) Xg Xg)) ?_;refine zbq 2 Y ?_;refine⟨rfl,(),trivial,?_⟩;exact yiq (b:=2) (k:=3) Xd Xd (by show 3<4;omega) ⟨⟨by show some (W.int .u64 ((qvq ((ps.map (·.1)).take ps.length):Nat):Int))=_;rw[hT];rfl,rfl⟩,⟨rfl,rfl⟩,⟨rfl,rfl⟩,⟨rfl,rfl⟩,trivial⟩ ⟨⟨by omega,rfl,rfl⟩,⟨by omega,rfl,rfl⟩,⟨by omega,rfl,rfl⟩,trivial⟩ Qn
   |sl all base off=>
    obtain⟨ho1,ho2⟩:=hok;simp only[Rst.r,Zy] at hr64;have hle:((Rst.sl all base off).r++[128]).length=all.length-off+1:=by simp[Rst.r]
    refine zCq 3 Y ?_;refine gM 0 Y (yLq Y Y (qxq (news:=bN [128]) (k:=ti5) (v:=.arr all.length 1 (bN all)) (off:=off) Y Y Y Y Y (by simp[bN]) (show(all.length-off+1)*1<=140737488355328 by omega) (show all.length-off+1<=70368744177664 by omega) rfl (show all.length<off+(all.length-off+1)*1 by omega) rfl (vXq Xd))) ?_;refine zbq 2 Y ?_;refine⟨rfl,(),trivial,?_⟩;refine yiq (b:=2) (k:=4) Xd Xd Qk ⟨⟨by show some (W.int .u64 ((qvq ((ps.map (·.1)).take ps.length):Nat):Int))=_;rw[hT];rfl,rfl⟩,⟨?_,rfl⟩,⟨rfl,rfl⟩,⟨rfl,rfl⟩,trivial⟩ ⟨⟨by omega,?_,zaq (apur _)⟩,⟨by omega,rfl,rfl⟩,⟨by omega,rfl,rfl⟩,trivial⟩ Qn
    .rw[hle];rfl
    .rw[zdq (apur _),hle,<-bapp];show some (5,W.arr ((all.length-off+1)*1) 1 (((bN all).drop off).take (all.length-off)++bN [128]))=_;rw[hdt,Z6];rfl
  --noughts
  have htm:∀n:Nat,((n:Int)).tmod 64=((n%64:Nat):Int):=λn=>by rw[Int.tmod_eq_emod_of_nonneg Xd];omega
  have hA0:(r.r++[128]).length<=64:=by simp;omega
  generalize hA:r.r++[128]=A at*
  refine zCq 2 Y ?_;refine jAq (α:=Nat) (λj=>∀i,i<j->(A.length+i)%64≠56) (λj=>[(5,.int .u64 (qvq (ps.map (·.1)):Int)),(4,.sl 2 0 0 (A++List.replicate j 0).length 1 none),(3,.ptr 1 0),(2,.ptr 0 0)]) (λj=>hpS (.sl (A++List.replicate j 0) 0 0) Ydq s) (λ_=>3) (λ_=>R) (λj=>64-j) 0 (λi hi=>absurd hi Xd) (by rw[List.replicate_zero,ZT];exact Ent.refl) (λj hj=>?_);skip
  have hj64:j<64:=by
   refine Nat.lt_of_not_le λh=>?_
   have:=hj ((56+64-A.length%64)%64) Xd;omega
  have hlj:(A++List.replicate j 0).length=A.length+j:=by simp
  refine zCq 4 Y ?_;refine gV 0 Y (show _=W.int .i64 ((A++List.replicate j 0).length:Int) by first|rfl|(simp;done)) ?_;refine gV 0 Y (Zc (W.int .i64) (htm _)) ?_;refine gS 3 Y (λh2=>?_) (λh2=>?_)
  .have hne:(A.length+j)%64≠56:=by
    omega
   refine gM 6 Y (yLq Y Y (qxq (news:=bN [0]) (k:=ti5) (v:=.arr (A++List.replicate j 0).length 1 (bN (A++List.replicate j 0))) (off:=0) Y Y Y Y Y (by simp[bN]) (show((A++List.replicate j 0).length+1)*1<=140737488355328 by omega) (show(A++List.replicate j 0).length+1<=70368744177664 by omega) rfl (show(A++List.replicate j 0).length<0+((A++List.replicate j 0).length+1)*1 by omega) rfl (vXq Xd))) ?_;refine zbq 3 Y ?_;have hrep:A++List.replicate (j+1) 0=(A++List.replicate j 0)++[0]:=by rw[Zx,<-List.replicate_succ']
   skip
   refine y6q (j+1) (λi hi=>?_) Xd (yiq (b:=2) (k:=4) Xd Xd Qk ⟨⟨rfl,rfl⟩,⟨?_,rfl⟩,⟨rfl,rfl⟩,⟨rfl,rfl⟩,trivial⟩ ⟨⟨by omega,?_,zaq (apur _)⟩,⟨by omega,rfl,rfl⟩,⟨by omega,rfl,rfl⟩,trivial⟩ Qn)
   .rcases ZC.1 hi with h|rfl
    .exact hj i h
    .exact hne
   .rw[hrep];exact Eaq _ 0
   .rw[hrep];exact D9q _ 0
  .have he:(A.length+j)%64=56:=by
    omega
   have hpz:mdq 64 A=A++List.replicate j 0:=bCq 64 j A hj he Xd;rw[<-hpz];have hBl:(mdq 64 A).length<200:=by rw[hpz,hlj];omega
   have hB64:(mdq 64 A).length%64=56:=by rw[hpz,hlj];exact he
   generalize hB:mdq 64 A=B at hBl hB64;refine zbq 2 Y ?_;refine qQq Xj ?_;refine zRq 9 Y ?_;have h8:∀k,k<=8->((aQq (qvq (ps.map (·.1)))).take k).length=k:=λk hk=>by simp[aQq];omega
   refine jAq (α:=Nat) (λk=>k<=8) (λk=>[(8,.int .i64 (56-8*(k:Int))),(5,.int .u64 (qvq (ps.map (·.1)):Int)),(4,.sl 2 0 0 (B++(aQq (qvq (ps.map (·.1)))).take k).length 1 none),(3,.ptr 1 0),(2,.ptr 0 0)]) (λk=>hpS (.sl (B++(aQq (qvq (ps.map (·.1)))).take k) 0 0) Ydq s) (λ_=>3) (λ_=>R) (λk=>8-k) 0 (Zf _) (by rw[List.take_zero,ZT];exact yJq ⟨rfl,rfl,rfl,rfl,rfl,trivial⟩ Y Y) (λk hk=>?_);skip
   refine zCq 7 Y ?_;refine gS 0 Y (λh3=>?_) (λh3=>?_)
   .have hk8:k<8:=by omega
    have hLk:=h8 k hk;have hll:(B++(aQq (qvq (ps.map (·.1)))).take k).length=B.length+k:=by rw[Zh,hLk]
    have hnx:B++(aQq (qvq (ps.map (·.1)))).take (k+1)=(B++(aQq (qvq (ps.map (·.1)))).take k)++[Nat.shiftRight (8*qvq (ps.map (·.1))%18446744073709551616) (min (56-8*k) 64)%256]:=by
     rw[YA,<-Zx];congr 1
     have hq:k=0\/k=1\/k=2\/k=3\/k=4\/k=5\/k=6\/k=7:=by omega
     rcases hq with rfl|rfl|rfl|rfl|rfl|rfl|rfl|rfl<;>rfl
    have hw8:xBq .i64 (56-8*(k:Int) -8)=56-8*(k:Int) -8:=YCq (k:=.i64) ⟨by omega,by omega⟩;refine gV 8 Y (show W.int .i64 (56-8*(k:Int))=W.int .i64 ((56-8*k:Nat):Int) by congr 1;omega) ?_;refine gM 3 Y (yLq Y Y (qxq (news:=bN [Nat.shiftRight (8*qvq (ps.map (·.1))%18446744073709551616) (min (56-8*k) 64)%256]) (k:=ti5) (v:=.arr (B++(aQq (qvq (ps.map (·.1)))).take k).length 1 (bN (B++(aQq (qvq (ps.map (·.1)))).take k))) (off:=0) Y Y Y Y Y (by simp[bN]) (show((B++(aQq (qvq (ps.map (·.1)))).take k).length+1)*1<=140737488355328 by omega) (show(B++(aQq (qvq (ps.map (·.1)))).take k).length+1<=70368744177664 by omega) rfl (show(B++(aQq (qvq (ps.map (·.1)))).take k).length<0+((B++(aQq (qvq (ps.map (·.1)))).take k).length+1)*1 by omega) rfl (vXq Xd))) ?_;refine zbq 6 Y ?_;refine kiq (w:=W.int .i64 (xBq .i64 (56-8*(k:Int) -8))) Y Y (show _=W.int .i64 (56-8*((k+1:Nat):Int)) by rw[hw8];congr 1;omega) ?_;refine r2q 2 Y ?_;skip
    refine y6q (k+1) Xd Xd (yiq (b:=2) (k:=4) Xd Xd Qk ⟨⟨rfl,rfl⟩,⟨rfl,rfl⟩,⟨?_,rfl⟩,⟨rfl,rfl⟩,⟨rfl,rfl⟩,trivial⟩ ⟨⟨by omega,?_,zaq (apur _)⟩,⟨by omega,rfl,rfl⟩,⟨by omega,rfl,rfl⟩,trivial⟩ Qn)
    .rw[hnx];exact Eaq _ _
    .rw[hnx];exact D9q _ _
   .obtain rfl:k=8:=by omega
    have ht8:(aQq (qvq (ps.map (·.1)))).take 8=aQq (qvq (ps.map (·.1))):=rfl;rw[ht8];have hMl:(B++aQq (qvq (ps.map (·.1)))).length=B.length+8:=by simp[aQq]
    have hsha:cTq (ps.map (·.1))=f3q (k8q (B++aQq (qvq (ps.map (·.1)))).length s (B++aQq (qvq (ps.map (·.1))))):=by
     simp only[cTq,<-hfold,hA,hB]
    generalize hM:B++aQq (qvq (ps.map (·.1)))=M at hMl hsha;refine zbq 2 Y ?_;refine qQq Xj ?_;refine zRq 4 Y ?_;refine jAq (α:=S8×Nat×Nat) (λb=>b.2.2<=M.length/\(M.length-b.2.2)%64=0/\k8q M.length s M=k8q (M.drop b.2.2).length b.1 (M.drop b.2.2)) (λb=>[(4,.sl 2 b.2.1 b.2.2 (M.length-b.2.2) 1 none),(3,.ptr 1 0),(2,.ptr 0 0)]) (λb=>hpS (.sl M b.2.1 b.2.2) Ydq b.1) (λ_=>3) (λ_=>R) (λb=>M.length-b.2.2) (s,0,0) ⟨Zf _,by show(M.length-0)%64=0;omega,rfl⟩ (yJq ⟨rfl,rfl,rfl,trivial⟩ Y Y) (λb hb5=>?_);skip
    obtain⟨s',base,off⟩:=b;obtain⟨ho,hmod,heat⟩:=hb5;simp only at ho hmod heat;refine zCq 4 Y ?_;refine gV 0 Y (show _=W.int .i64 ((M.length-off:Nat):Int) by first|rfl|(simp;done)) ?_;refine gS 3 Y (λh4=>?_) (λh4=>?_)
    .have h1:1<=M.length-off:=by omega
     have h64:64<=M.length-off:=by omega
     have hpa:aaq (.arr M.length 1 (bN M))=true:=Ytq M
     have hby:∀k,k<64->zGq 50 (.arr M.length 1 (bN M)) (off+0*1+k*1) 1 false=some (.int .u8 (.ofNat (atL (M.drop off) k))):=λk hk=>by
      have:=tPq (l:=M) (i:=off+k) Xd;refine q9q ?_ rfl;rw[Nat.zero_mul,Y5,Z6,this];simp[atL,List.getD,Z0]
     refine gP 6 Y (p7q (h:=64) Y Y Y Y Y Y Y h64) ?_
     (refine zhq rfl (zDq (ext:=[1,2]) (ws:=[.ptr 0 0,.sl 1 base (off+0*1) (64-0) 1 none]) Y Y Y Y Y (λR=>lFq s' (atL (M.drop off)) (.arr M.length 1 (bN M)) base _ none 5 (zaq hpa) hby R) Xg Jd Xi (QGq rfl (by rw[zdq hpa];rfl) rfl (zaq hpa)) Y ?_);rintro w hp1 nw1 ⟨rfl,rfl,rfl⟩)
     refine zeq 5 Y ?_;refine gP 0 Y (p6q (l:=64) Y Y Y Y Y Y Y h64 rfl) ?_;refine zbq 2 Y ?_;skip
     refine y6q (vkq (atL (M.drop off)) s',off,off+64) ⟨by simp only;omega,by simp only;omega,?_⟩ Xu (zvq Xd (Zb _) ⟨?_,rfl,rfl,trivial⟩ rfl (zoq ⟨⟨by omega,by show some (5,adq _ (W.arr M.length 1 (bN M)))=_;rw[zdq hpa],zaq hpa⟩,⟨by omega,rfl,rfl⟩,⟨by omega,rfl,rfl⟩,trivial⟩) Qn)
     .rw[heat,dBq Xn,YB]
     .show some (W.sl 2 off (off+64*1) (M.length-off-64) 1 (q6q 64 none))=some (W.sl 2 off (off+64) (M.length-(off+64)) 1 none);rw[Nat.sub_sub];rfl
    .have h0:M.length-off=0:=by omega
     have hend:k8q M.length s M=s':=by
      rw[heat,ZY Xd];rfl
     rw[hend] at hsha;refine zbq 2 Y ?_;refine qQq Xj ?_;refine zRq 9 Y ?_;have htd4:∀n:Nat,((n:Int)).tdiv 4=((n/4:Nat):Int):=λn=>by rw[Int.tdiv_eq_ediv_of_nonneg Xd];omega
     have htm4:∀n:Nat,((n:Int)).tmod 4=((n%4:Nat):Int):=λn=>by rw[Int.tmod_eq_emod_of_nonneg Xd];omega
     refine jAq (α:=Nat) (λi=>i<=32) (λi=>[(64,.int .i64 (i:Int)),(3,.ptr 1 0),(2,.ptr 0 0)]) (λi=>hpS (.sl M base off) (.arr 32 1 (bN (dI s' i))) s') (λ_=>3) (λ_=>R) (λi=>32-i) 0 (Zf _) (yJq ⟨rfl,rfl,rfl,trivial⟩ Y Y) (λi hi=>?_);skip
     refine zCq 6 Y ?_;refine gS 0 Y (λh5=>?_) (λh5=>?_)
     .have hi32:i<32:=by omega
      refine gA 13 Y (i/4) (e:=(htd4 i)) ?_;refine gP 0 Y (kMq (i:=i/4) Y Y Y Y Y Y Xd) ?_;refine gM 0 Y (zwq Y Y Y (q9q (B2q s' Xd) rfl)) ?_;refine gV 1 Y (Zc (W.int .i64) (htm4 i)) ?_;refine gA 0 Y (8*(i%4)) ?_;refine gA 0 Y (24-8*(i%4)) ?_;refine gP 2 Y (kMq (i:=i) Y Y Y Y Y Y Xd) ?_;refine gM 0 Y (qmq Y Y Y Y Y (xPq (Dyq s' hi32) Y Y) rfl) ?_;refine gWr 4 Y ?_;refine zbq 2 Y ?_;skip
      refine y6q (i+1) Xd Xd (yJq ⟨rfl,rfl,rfl,trivial⟩ ?_ rfl);exact Zc (λL=>hpS (.sl M base off) (.arr 32 1 L) s') (Bsq s' hi32)
     .obtain rfl:i=32:=by omega
      refine zbq 2 Y ?_;refine qQq Xj ?_;refine zRq 9 Y ?_;refine fin Jr Ent.refl rfl ⟨rfl,?_⟩;rw[hsha];have:dI s' 32=f3q s':=by simp[dI,Zp,Y1q]
      rw[<-this]
end
mutual
theorem vsq{j:Nat->Nat}{b:Nat}(h:∀i,i<b->j i=i):∀{w:W},agq b w=true->adq j w=w
 |.ptr c o,hw=>by simp only[adq];rw[h c (YF hw)]
 |.sl c _ _ _ _ _,hw=>by simp only[adq];rw[h c (YF hw)]
 |.fz l _ _,hw=>by simp only[adq];rw[xLq h (l:=l) hw]
 |.fel x,hw=>by simp only[adq];rw[vsq h (w:=x) hw]
 |.fn _ a c,hw=>by
  simp only[agq,Zd] at hw;simp only[adq];rw[xLq h (l:=a) hw.1,xLq h (l:=c) hw.2]
 |.iface _ v,hw=>by simp only[adq];rw[vsq h (w:=v) hw]
 |.agg _ l,hw=>by simp only[adq];rw[xLq h (l:=l) hw]
 |.arr _ _ l,hw=>by simp only[adq];rw[xLq h (l:=l) hw]
 |.tup l,hw=>by simp only[adq];rw[xLq h (l:=l) hw]
 |.undef,_=>rfl
 |.bool _,_=>rfl
 |.int _ _,_=>rfl
 |.str _,_=>rfl
 |.nilp,_=>rfl
 |.nils,_=>rfl
 |.nilm,_=>rfl
 |.yield _,_=>rfl
 |.nilf,_=>rfl
 |.nili,_=>rfl
theorem xLq{a:Nat->Nat}{b:Nat}(h:∀i,i<b->a i=i):∀{l:List W},asq b l=true->yVq a l=l
 |[],_=>rfl
 |w::l,hw=>by
  simp only[asq,Zd] at hw;simp only[yVq];rw[vsq h (w:=w) hw.1,xLq h (l:=l) hw.2]
end
mutual
theorem xNq{b c:Nat}(h:b<=c):∀{w:W},agq b w=true->agq c w=true
 |.ptr d o,hw=>Zq (Zv (YF hw) h)
 |.sl d _ _ _ _ _,hw=>Zq (Zv (YF hw) h)
 |.fz l _ _,hw=>kHq h (l:=l) hw
 |.fel x,hw=>xNq h (w:=x) hw
 |.fn _ a d,hw=>by
  simp only[agq,Zd] at hw⊢;exact⟨kHq h hw.1,kHq h hw.2⟩
 |.iface _ v,hw=>xNq h (w:=v) hw
 |.agg _ l,hw=>kHq h (l:=l) hw
 |.arr _ _ l,hw=>kHq h (l:=l) hw
 |.tup l,hw=>kHq h (l:=l) hw
 |.undef,_=>rfl
 |.bool _,_=>rfl
 |.int _ _,_=>rfl
 |.str _,_=>rfl
 |.nilp,_=>rfl
 |.nils,_=>rfl
 |.nilm,_=>rfl
 |.yield _,_=>rfl
 |.nilf,_=>rfl
 |.nili,_=>rfl
theorem kHq{b c:Nat}(h:b<=c):∀{l:List W},asq b l=true->asq c l=true
 |[],_=>rfl
 |w::l,hw=>by
  simp only[asq,Zd] at hw⊢;exact⟨xNq h hw.1,kHq h hw.2⟩
end
def gW(b e:Nat):List W->W
 |[]=>.nils
 |x::r=>.sl b 0 0 (x::r).length e none
def gH(b:Nat)(c:TypeId)(e:Nat):List W->HpW
 |[]=>[]
 |x::r=>[(b,c,.arr ((x::r).length*e) e (x::r))]
def evG(b:Nat):List W->EvW
 |[]=>.gen
 |_::_=>.updO b
theorem Bjq{a:Array Oper}{i b:Nat}{c:List (Nat×EvW)}{l:List W}(h:dvq a i .gen c=true)(f:dvq a i (.updO b) c=true):dvq a i (evG b l) c=true:=by cases l<;>assumption
theorem QJq{b e:Nat}{l:List W}(h:l≠[]):gW b e l= .sl b 0 0 l.length e none:=by cases l with
 |nil=>exact absurd rfl h
 |cons x r=>rfl
theorem QKq{b e:Nat}{c:TypeId}{l:List W}(h:l≠[]):gH b c e l=[(b,c,.arr (l.length*e) e l)]:=by cases l with
 |nil=>exact absurd rfl h
 |cons x r=>rfl
section
variable {C:Cfg} {nw:Nat} {ts tx ty:TypeId} {j k:TyI} {x:W} {news l:List W} {b:Nat} {H0:HpW}
theorem eLq{b:Nat}{x:TypeId×W}:∀{P:HpW},(∀p∈P,p.1≠b) ->ayq (P++[(b,x)]) b=P
 |[],_=>by
  show(match Nat.beq b b with|true=>[]|false=>_)=[];rw[Y0]
 |(c,y)::P,h=>by
  have d:=h (c,y) (ZV ..)
  have e:Nat.beq c b=false:=by
   cases q:Nat.beq c b with
   |true=>exact absurd (Zi q) d
   |false=>rfl
  show(match Nat.beq c b with|true=>P++[(b,x)]|false=>(c,y)::ayq (P++[(b,x)]) b)=_;rw[e];exact Zc _ (eLq λp a=>h p (ZS _ a))
theorem YXq{b:Nat}{x:TypeId×W}:∀{P:HpW},(∀p∈P,p.1≠b) ->hget (P++[(b,x)]) b=some x
 |[],_=>by rw[YX,zfq,Zl rfl]
 |(c,y)::P,h=>by
  rw[YW,zfq,Zg λe=>h (c,y) (ZV ..) e];exact YXq λp a=>h p (ZS _ a)
theorem JPq{c:Nat}{y:TypeId×W}{Q:HpW}:∀{P:HpW},hget P c=some y->hget (P++Q) c=some y
 |[],h=>by simp[hget] at h
 |(q,z)::P,h=>by
  rw[YW,zfq];rw[zfq] at h;split at h
  .rename_i d;rw[Zl d];exact h
  .rename_i d;rw[Zg d];exact JPq h
theorem Yuq(P:HpW){e:Nat}{o:HpW}(I:e=k.size)(F:C.ty ts=some j)(D:j.d= .slice ty)(G:C.ty ty=some k)(m:Nat.beq k.size 0=false)(E:aNq C o tx k.size x=some news)(A:news≠[])(u:(l.length+news.length)*k.bytes<=140737488355328)(z:l.length+news.length<=70368744177664)
  (q:o=P++gH b ty e l) (B:∀p∈P,p.1≠b):
  ckq C o nw ts tx (gW b e l) x=some (.sl nw 0 0 (l++news).length e none,(nw,ty,.arr ((l++news).length*e) e (l++news))::P,nw+1,evG b l):=by
 subst I
 have f:0<k.size:=by
  rcases YS k.size with v|v
  .rw[v] at m;cases m
  .exact v
 have H:0<news.length:=by cases news with
  |nil=>exact absurd rfl A
  |cons _ _=>simp
 cases l with
 |nil=>
  simp only[ZP,ZG] at u z;rw[show gW b k.size []= .nils from rfl,uOq F D G m E A u z,q,show gH b ty k.size []=[] from rfl,ZT];rfl
 |cons y r=>
  have hget:hget o b=some (ty,.arr ((y::r).length*k.size) k.size (y::r)):=by rw[q];exact YXq B
  rw[show gW b k.size (y::r)= .sl b 0 0 (y::r).length k.size none from rfl,qxq F D G m E A u z hget (by
   show(y::r).length*k.size<0+((y::r).length+news.length)*k.size;rw[ZG];exact Nat.mul_lt_mul_of_pos_right Xd f) (ZOq _) (zqq f Y Y)]
  rw[q,show gH b ty k.size (y::r)=[(b,ty,.arr ((y::r).length*k.size) k.size (y::r))] from rfl,eLq B,Zh];rfl
end
theorem a5q{b e:Nat}{ty:TypeId}{l:List W}{H0:HpW}(k:0<e)(j:acq l=true)(d:∀p∈H0,p.1≠b):View (amq (H0++gH b ty e l)) (gW b e l) (.fz l e false):=by
 cases l with
 |nil=>exact .nilfz
 |cons y r=>exact .sl (c:=.arr ((y::r).length*e) e (y::r)) (by
   unfold amq;rw[show H0++gH b ty e (y::r)=H0++[(b,ty,.arr ((y::r).length*e) e (y::r))] from rfl,YXq d]) j (zqq k Y Y) Xj
section
variable {C:Cfg} {G:Nat->Option W} {m k0:Nat} {rd:Bool} {fr fr2:FrW} {hp hp':HpW} {nw nw':Nat} {R:Res} {Q:qHq} {c:Code}
theorem e1q(j:arq fr fr2):Ent C G m k0 fr hp nw R fr2 hp (nw+1) R:=λd X H f p s=>by
 let Γ2:Ctx:=⟨nw+1,d.σ,d.D,d.h⟩
 have e:d.Le Γ2:=⟨by rw[f];exact YO _,λ_ _=>rfl,λ_ h=>h,λ_ _=>rfl⟩;refine⟨Γ2,X,rfl,⟨s.hh,λt w B=>?_,⟨s.sat.wf,λb F w g=>?_,s.sat.inj,s.sat.nd,s.sat.dX,s.sat.xlt,s.sat.dlt,s.sat.res,s.sat.gl⟩,s.ds,s.nd⟩,⟨λ_ _=>rfl,λh=>Zt h e.nw,Zb _,λ_ _ _ _=>rfl,λ_ h=>h,λ_ h=>.inl h,λb x _ h=>⟨x,h⟩,λb x g h=>.inr ⟨b,x,g,h,rfl⟩,λ_ h=>.inl h,λ_ h _ _=>h⟩⟩
 .obtain⟨v,E,k⟩:=s.fr _ _ (YIq j t w B);exact⟨v,E,k.mono e⟩
 .obtain⟨q,A,y,v,z,u⟩:=s.sat.own _ _ _ g;exact⟨Zv q e.nw,A,y,v,z,u.mono e⟩
theorem d0q{k:Nat}:∀{l:FrW},arq fr l->aPq nw l->vNq (aIq nw k) (nw+1) fr l
 |[],_,_=>trivial
 |(t,w)::l,h,r=>⟨⟨by rw[vsq (λi a=>qLq Xd) r.1];exact h.1,xNq (YO _) r.1⟩,d0q h.2 r.2⟩
theorem bcq{k:Nat}:∀{l:HpW},coq hp nw l->Jqq (aIq nw k) (nw+1) hp l
 |[],_=>trivial
 |(b,x)::l,h=>⟨⟨Nat.lt_succ_of_lt h.1.1,by rw[qLq (by have:=h.1.1;omega),vsq (λi a=>qLq Xd) h.1.2.2];exact h.1.2.1,xNq (YO _) h.1.2.2⟩,bcq h.2⟩
theorem gZq:∀{l:HpW},coq hp nw l->∀p∈l,p.1<nw
 |[],_,p,h=>by simp at h
 |(b,x)::l,h,p,hp=>by
  rcases ZB.1 hp with rfl|hp
  .exact h.1.1
  .exact gZq h.2 p hp
theorem bdq{d:Nat->Nat}{n:Nat}{b:HpW}:∀{a:HpW},Jqq d n hp a->Jqq d n hp b->Jqq d n hp (a++b)
 |[],_,h=>h
 |_::_,h,h2=>⟨h.1,bdq h.2 h2⟩
theorem YHq{n:Nat}{b:HpW}:∀{a:HpW},coq hp n a->coq hp n b->coq hp n (a++b)
 |[],_,h=>h
 |_::_,h,h2=>⟨h.1,YHq h.2 h2⟩
theorem sFq{H0:HpW}{b e:Nat}{f:TypeId}{i:List W}(k:∀p∈H0,p.1<b)(j:(H0.map (·.1)).Nodup):((H0++gH b f e i).map (·.1)).Nodup:=by
 cases i with
 |nil=>rw[show gH b f e []=[] from rfl,ZT];exact j
 |cons x r=>
  rw[show gH b f e (x::r)=[(b,f,.arr ((x::r).length*e) e (x::r))] from rfl,Z4,List.nodup_append];refine⟨j,by simp,λa w c s q=>?_⟩;obtain⟨p,v,y⟩:=Z2.1 w;have:=k p v;simp only[ZD,List.map_nil,ZB,ZW,or_false] at s;omega
theorem ZAq{α:Type}(I:α->Prop)(s:Nat)(L:α->List W)(g:TypeId)(e:Nat)(V:α->FrW)(d:FrW)(H0:HpW)(h:α->Nat)(b:α)(u:arq fr d)(r:I b)(t:arq fr (V b))(j:L b=[])(k:aqq fr s=some .nils)(q:hp=H0)
  (f:∀a,I a->CoW C G m k0 rd c ((s,gW nw e (L a))::(V a++d)) (H0++gH nw g e (L a)) (nw+1) R (uSq C G m k0 I (λa=>(s,gW nw e (L a))::(V a++d)) (λa=>H0++gH nw g e (L a)) (λ_=>nw+1) (λ_=>R) h (h a) Q)):CoW C G m k0 rd (.loop c) fr hp nw R Q:=by
 subst q;refine jAq I (λa=>(s,gW nw e (L a))::(V a++d)) (λa=>hp++gH nw g e (L a)) (λ_=>nw+1) (λ_=>R) h b r ?_ f;have:=e1q (C:=C) (G:=G) (m:=m) (k0:=k0) (fr:=fr) (fr2:=(s,gW nw e (L b))::(V b++d)) (hp:=hp) (nw:=nw) (R:=R) ⟨by rw[j];exact k,jqq t u⟩;rw[j] at this⊢;rw[show gH nw g e []=[] from rfl,ZT];exact this
theorem ccq{b:Nat}{q:TypeId}{e:Nat}{H0:HpW}{f:List W}{n:Nat}(k s:Nat)(A:m<=b)(D:b<=k)(j:k<nw)(g:f≠[])(z:aqq fr s=some (.sl k 0 0 n e none))(E:n=f.length)(v:arq fr fr2)(y:aPq b fr2)(B:hget hp k=some (q,.arr (n*e) e f))(i:acq f=true)(t:coq hp b H0)(x:(H0.map (·.1)).Nodup):
  Ent C G m k0 fr hp nw R ((s,gW b e f)::fr2) (H0++gH b q e f) (b+1) R:=by
 subst E;have h:aaq (.arr (f.length*e) e f)=true:=i;refine yiq (b:=b) (k:=k) A D j ?_ ?_ (sFq (gZq t) x)
 .rw[QJq g];refine⟨⟨?_,by simp[agq]⟩,d0q v y⟩;rw[z];simp only[adq,kcq]
 .rw[QKq g];refine bdq (bcq t) ⟨⟨YG _,?_,zaq h⟩,trivial⟩;rw[kcq,B,zdq h]
def s3q(ext:List Nat)(nw:Nat)(hp:HpW):HpW->Prop
 |[]=>True
 |(i,ty,w)::l=>(i<ext.length/\agq ext.length w=true/\∃b,ext[i]? =some b/\hget hp b=some (ty,adq (afq ext nw) w))/\s3q ext nw hp l
theorem jjq{ext:List Nat}{nw:Nat}{hp:HpW}:∀{l:HpW},s3q ext nw hp l->Khq ext nw l hp
 |[],_=>λi b w h=>by simp[hget] at h
 |(j,ty',w')::l,hs=>λi b w h=>by
  rw[zfq] at h;split at h
  .rename_i e;subst e;cases h;exact hs.1
  .exact jjq hs.2 i b w h
def mEq(a:Nat->Option W)(b:Nat)(hp:HpW):HpW->Prop
 |[]=>True
 |(k,ty,w)::l=>(k≠b/\∃w0,hget hp k=some (ty,w0)/\View a w0 w)/\mEq a b hp l
theorem kFq{f:Nat->Option W}{b:Nat}:∀{l:HpW},mEq f b hp l->∀k d w,hget l k=some (d,w) ->k≠b/\∃w0,hget hp k=some (d,w0)/\View f w0 w
 |[],_,k,d,w,h=>by simp[hget] at h
 |(j,ty',w')::l,hs,k,d,w,h=>by
  rw[zfq] at h;split at h
  .rename_i e;subst e;cases h;exact hs.1
  .exact kFq hs.2 k d w h
theorem Z8q(b:Nat)(fr2:FrW)(a:HpW){j:TypeId}{c:W}(f:hget hp b=some (j,c))(i:aaq c=true)(e:m<=b)(g:rOq (flq b c) fr fr2)(h:mEq (flq b c) b hp a)(k:(a.map (·.1)).Nodup):Ent C G m k0 fr hp nw R fr2 a nw R:=
 tiq f i e (vYq g) (kFq h) k
theorem ltq{α:Type}(I:α->Prop)(s:Nat)(L:α->List W)(q:TypeId)(e:Nat)(V:α->FrW)(i:FrW)(H0:HpW)(b k:Nat)(y:α->Nat)(f:α){n:Nat}(O:arq fr i)(K:I f)(M:arq fr (V f))(F:m<=b)(w:b<=k)(v:k<nw)(x:L f≠[])(E:aqq fr s=some (.sl k 0 0 n e none))(P:n=(L f).length)
  (D:aPq b (V f)) (A:aPq b i) (H:hget hp k=some (q,.arr (n*e) e (L f))) (z:acq (L f)=true) (J:coq hp b H0) (B:(H0.map (·.1)).Nodup)
  (j:∀a,I a->CoW C G m k0 rd c ((s,gW b e (L a))::(V a++i)) (H0++gH b q e (L a)) (b+1) R (uSq C G m k0 I (λa=>(s,gW b e (L a))::(V a++i)) (λa=>H0++gH b q e (L a)) (λ_=>b+1) (λ_=>R) y (y a) Q)):CoW C G m k0 rd (.loop c) fr hp nw R Q:=
 jAq I (λa=>(s,gW b e (L a))::(V a++i)) (λa=>H0++gH b q e (L a)) (λ_=>b+1) (λ_=>R) y f K (ccq k s F w v x E P (jqq M O) (u0q D A) H z J B) j
theorem k3q{f:Type}{I:f->Prop}{s:Nat}{L:f->List W}{x:TypeId}{e:Nat}{V:f->FrW}{h:FrW}{H0:HpW}{y:f->Nat}{z:Nat}{b:FrW}{g:List W}{n:Nat}(k:Nat)(a:f)(O:I a)(j:y a<z)(H:m<=nw)(D:L a=g)(i:g≠[])(A:nw<=k)(t:k<nw')(F:aqq b s=some (.sl k 0 0 n e none))(P:n=g.length)
  (M:arq b (V a)) (v:arq b h) (E:aPq nw (V a)) (w:aPq nw h) (J:hget hp' k=some (x,.arr (n*e) e g)) (q:acq g=true) (K:coq hp' nw H0) (B:(H0.map (·.1)).Nodup):
  uSq C G m k0 I (λa=>(s,gW nw e (L a))::(V a++h)) (λa=>H0++gH nw x e (L a)) (λ_=>nw+1) (λ_=>R) y z Q .normal b hp' nw' R:=by
 subst D;exact y6q a O j (ccq k s H A t i F P (jqq M v) (u0q E w) J q K B)
theorem dzq{b:Nat}{D:TypeId}{w w':W}(N:hget hp b=some (D,w))(U:∀j v,RV j w v->RV j w' v):Ent C G m k0 fr hp nw R fr (apq hp b (D,w')) nw R:=λj X st J _ s=>by
 have f:∀{k t u},hget (apq hp b (D,w')) k=some (t,u) ->∃p,hget hp k=some (t,p)/\∀v,RV j p v->RV j u v:=λ{k t u} h=>by
  rw[kNq N] at h;split at h
  .rename_i e;subst e;cases h;exact⟨w,N,U j⟩
  .exact⟨u,h,λ_ q=>q⟩
 have B:∀{c},aoq j (apq hp b (D,w')) c->aoq j hp c:=λ{c} h=>by
  obtain⟨k,⟨t,u⟩,J,Y⟩:=h;obtain⟨p,g,_⟩:=f J;exact⟨k,_,g,Y⟩
 refine⟨j,X,J,⟨s.hh,s.fr,⟨s.sat.wf,λk t u h=>?_,λk V y z P S e=>?_,by rw[Zkq];exact s.sat.nd,s.sat.dX,s.sat.xlt,s.sat.dlt,s.sat.res,s.sat.gl⟩,λd T=>?_,s.nd⟩,⟨λ_ _=>rfl,λh=>h,Zb _,λ_ _ _ _=>rfl,λ_ h=>h,λ_ h=>.inl h,λk y _ h=>?_,λk y Z h=>?_,λ_ h=>.inl h,λ_ h _ _=>h⟩⟩
 .obtain⟨p,A,L⟩:=f h;obtain⟨H,F,I,v,K,E⟩:=s.sat.own k t p A;exact⟨H,F,I,v,K,L v E⟩
 .obtain⟨O,M⟩:=y;obtain⟨z1,z2⟩:=z;obtain⟨p,A,_⟩:=f P;obtain⟨u1,L,_⟩:=f S;exact s.sat.inj k V _ _ A L e
 .obtain⟨H,F,I,K,E⟩:=s.ds d T;exact⟨H,F,I,λh=>K (B h),E⟩
 .obtain⟨O,M⟩:=y;obtain⟨p,A,_⟩:=f h;exact⟨_,A⟩
 .obtain⟨O,M⟩:=y;obtain⟨p,A,_⟩:=f h;exact .inr ⟨k,_,Z,A,rfl⟩
theorem uiq{o:Oper}{k:W->HpW->Nat->Res->Option EvW->Prop}{x:Operand}{Y:Array Operand}{H:Array TypeId}{f:FuncId}{a T c F:List W}{Q:W->HpW->Nat->Prop}(M:o.op= .call ⟨.value x,Y,H⟩)(hx:evW C G fr x=some (.fn f a c))(he:C.ext f=none)(N:avq C G fr Y.toList=some T)(K:a++T++c=F)(A:acq F=true)(sp:zUq C G f 0 F [] Q)
  (q:∀w j d,Q w j d->k (adq (afq [] nw) w) (ahq (afq [] nw) j++hp) (nw+d) R (some .gen)):aeq C G o fr hp nw R k:=λy X J L s U=>by
 subst L;obtain⟨u,e1,e2⟩:=zXq U s.gl hx;obtain⟨a',c',rfl,e3,e4⟩:=RV_fn.1 e2;obtain⟨us',e5,e6⟩:=x2q U s.gl N
 have z:∀{l r:List W} {E D:List V},RVL y l E->RVL y r D->RVL y (l++r) (E++D):=λ{l}=>by
  induction l with
  |nil=>intro r E D B P;simp only[RVL] at B;subst B;exact P
  |cons w l ih=>
   intro r E D B P;simp only[RVL] at B;obtain⟨v,vs,rfl,h3,h4⟩:=B;simp only[YW,RVL];exact⟨v,vs++D,rfl,h3,ih h4 P⟩
 have Z:=z (z e3 e6) e4;rw[K,<-xoq (τ:=afq [] y.nw) A] at Z;obtain⟨n,v,Γ',w,j,d,g1,g2,g3,g4,g5,g6,g7,g8,_⟩:=cgq (ext:=[]) sp s YN Xi Xi (λi ty w h=>by simp[hget] at h) (zaq (w:=.tup F) A) Z;obtain⟨S,k2⟩:=Jdq (C:=C) M J y.h;refine⟨n,_,_,R,some .gen,v,Γ'.h,Γ',X,by rw[g3];exact q w j d g2,?_,⟨S,λH1 O I=>?_⟩,rfl,g4,g5,g6,g7⟩
 .simp only[opV,S,k2];simp only[M,jBq,e1,e5,he];exact g1
 .have:=(g8 I.1).resolve_right λ⟨b,hb,_⟩=>by simp at hb
  refine .inl ?_;simp only[M,auq];rw[O,Zn this]
def PL(C:Cfg)(G:Nat->Option W)(f:FuncId)(a:List W)(b:TypeId)(e:Nat)(l:List W):Prop:=zUq C G f 0 a [] λw hp nw=>w=gW 0 e l/\hp=gH 0 b e l/\nw=1
theorem PL.ps{C:Cfg}{G:Nat->Option W}{f:FuncId}{a:List W}{j:TypeId}{e:Nat}{l:List W}(h:PL C G f a j e l)(o:0<e)(k:acq l=true):PS C G f a (.fz l e false):=λR=>
 ukq λp X i q s r=>by
  obtain⟨n,v,Γ',X',w,hp',R',b,t,u,g,d,rfl,rfl,x⟩:=h R p X i q s r;exact⟨n,v,Γ',X',_,_,R',b,t,u,g,d,a5q (H0:=[]) o k Xi⟩
theorem g1q{o:Oper}{b:W->HpW->Nat->Res->Option EvW->Prop}{x:Operand}{z:Array Operand}{k:Array TypeId}{f:FuncId}{a A c q:List W}{i:TypeId}{e:Nat}{l:List W}(I:o.op= .call ⟨.value x,z,k⟩)(J:evW C G fr x=some (.fn f a c))(H:C.ext f=none)(s:avq C G fr z.toList=some A)(j:a++A++c=q)(p:acq q=true)(K:PL C G f q i e l)(F:acq l=true)
  (d:b (gW nw e l) (gH nw i e l++hp) (nw+1) R (some .gen)):aeq C G o fr hp nw R b:=by
 refine uiq I J H s j p K ?_;rintro w L E ⟨rfl,rfl,rfl⟩
 have B:adq (afq [] nw) (gW 0 e l)=gW nw e l:=by
  cases l with
  |nil=>rfl
  |cons x r=>simp only[gW,adq];rfl
 have D:ahq (afq [] nw) (gH 0 i e l)=gH nw i e l:=by
  cases l with
  |nil=>rfl
  |cons x r=>
   have y:aaq (.arr ((x::r).length*e) e (x::r))=true:=F;simp only[gH,ahq,zdq y];rfl
 rw[B,D];exact d
variable {ops:Array Oper} {l:List Oper} {K:FrW->HpW->Nat->Res->Prop} {hp2:HpW} {nw2:Nat} {R2:Res}
theorem jxq(e:∀k0,Ent C G m k0 fr hp nw R fr2 hp2 nw2 R2)(h:OpW C G m ops l fr2 hp2 nw2 R2 K):OpW C G m ops l fr hp nw R K:=λg X d a o s p=>by
 obtain⟨Γ2,X2,j,f,k⟩:=e 0 g X ⟨d,g.h,[],false⟩ a o ⟨rfl,p,s,by simp,YN⟩;obtain⟨n,b,Γ',X',i,hp',R',q,u,w,t,r⟩:=h Γ2 X2 d j (j▸k.mle (a▸o)) f.sat f.fr;have v:g.h=Γ2.h:=f.hh;exact⟨n,b,Γ',X',i,hp',R',by rw[v];exact q,u,w,k.trans t,r⟩
end
section
attribute [local irreducible] CoW OpW FlW aeq ajq
theorem fiq(l:List UInt8):zcq l=bN (l.map UInt8.toNat):=by simp[zcq,bN]
theorem wWq(a:List (List Nat)):(cTq a).length=32:=by simp[cTq,f3q]
theorem rYq(a:List (List Nat)):∀n∈cTq a,n<256:=λn h=>by
 simp only[cTq,f3q,Z2] at h;obtain⟨i,_,rfl⟩:=h;exact Nat.mod_lt _ Xg
def Ccq(b:List (List UInt8)):Dig:=⟨(cTq (b.map λp=>p.map UInt8.toNat)).map UInt8.ofNat,by simp[wWq]⟩
theorem oKq{l:List Nat}(h:∀n∈l,n<256):zcq (l.map UInt8.ofNat)=bN l:=by
 rw[fiq,List.map_map];congr 1
 conv=>rhs;rw[<-List.map_id l]
 refine List.map_congr_left λn a=>?_
 have:=h n a;simp;omega
theorem CJq(b:List (List UInt8×Bool))(f:Bool)(e:((b.map (·.1)).map List.length).foldr (· + ·) 0<2147483648)(j:b.length<2147483648):PS cfg glK 167 [.fz (b.map λp=>.fz (zcq p.1) 1 p.2) 1 f] (dW (Ccq (b.map (·.1)))):=λR=>by
 have g:(b.map λp=>(p.1.map UInt8.toNat,p.2)).map vbq=b.map λp=>.fz (zcq p.1) 1 p.2:=by simp[vbq,fiq]
 have c:(b.map λp=>(p.1.map UInt8.toNat,p.2)).map (·.1)=(b.map (·.1)).map λp=>p.map UInt8.toNat:=by simp
 have h:=D7q (kfn:=r4q (bGq 1 kA)) (b.map λp=>(p.1.map UInt8.toNat,p.2)) f (by rw[c];show(List.map List.length _).foldr _ 0<_;rw[List.map_map];simpa[Function.comp_def] using e) (by simpa using j) R;rw[g,c] at h
 have i:dW (Ccq (b.map (·.1)))= .arr 32 1 (bN (cTq ((b.map (·.1)).map λp=>p.map UInt8.toNat))):=by
  show W.arr 32 1 (zcq _)=_;rw[<-oKq (rYq _)];rfl
 show ajq cfg glK _ 0 _ [] R λw n k R'=>R'=R/\w=dW (Ccq (b.map (·.1)))
 rw[i];exact h
def Qxq(p:List UInt8):List UInt8:=beB 4 (p.length%4294967296)++p
def wSq(a:UInt8)(b:List (List UInt8)):List UInt8:=a::b.flatMap Qxq
variable {G:Nat->Option W}
@[simp] theorem Xmq(a:List (List UInt8)):acq (a.map bW)=true:=yvq (λx=>by simp) a
theorem dqq{m:Nat}:∀{ps:List (List UInt8)} (i:Nat),(∀p∈ps,p.length<m) ->((ps.take i).flatMap Qxq).length<=i*(m+4)
 |[],i,_=>by simp
 |p::ps,0,_=>by simp
 |p::ps,i+1,h=>by
  have d:=dqq (ps:=ps) i λq b=>h q (ZS _ b)
  have c:=h p (ZV ..);simp only[List.take_succ_cons,List.flatMap_cons,Zh,Qxq,x8q,Nat.succ_mul];omega
theorem mCq(b:UInt8)(d:List (List UInt8))(f:Bool)(H:d.length<1000000)(y:∀p∈d,p.length<1000000):PS cfg G 168 [.int .u8 (.ofNat b.toNat),.fz (d.map bW) 1 f] (bW (wSq b d)):=by
 have e:(d.map bW).length=d.length:=Ze _;refine gIv 16 Y (λR F=>?_);refine gV (w':=.int .i64 (d.length:Int)) 0 Y Yj ?_;refine zbq 4 Y ?_;refine ltq (α:=Nat) (λi=>i<=d.length) 5 (λi=>zcq (b::(d.take i).flatMap Qxq)) 5 1 (λi=>[(14,.int .i64 (i:Int))]) [(4,_),(12,_),(13,_)] ([]) 0 0 (λi=>d.length-i) (0) ⟨rfl,rfl,rfl,trivial⟩ (Zf _) ⟨rfl,trivial⟩ Xd Xd Yr (by simp[zcq]) rfl (by simp[zcq]) Xh Xh rfl Xm Xk Xt (λi D=>?_);refine zCq 6 Y ?_;refine gS 0 Y (λB=>?_) (λB=>?_)
 .have j:i<d.length:=by omega
  obtain⟨x,q⟩:∃x,d[i]? =some x:=⟨_,Za j⟩
  have C:=y x (Zj q);have A:((d.take i).flatMap Qxq).length<=i*1000004:=dqq i y;have E:(zcq (b::(d.take i).flatMap Qxq)).length<=1+i*1000004:=by rw[ztq,Zo];omega
  have hN:(zcq (beB 4 x.length)).length=4:=by rw[ztq,x8q]
  have m:zcq (b::(d.take (i+1)).flatMap Qxq)=(zcq (b::(d.take i).flatMap Qxq)++zcq (beB 4 x.length))++zcq x:=by
   rw[YA,q,<-kBq,<-kBq];congr 1
   simp[Qxq,YV (show x.length<4294967296 by omega)]
  skip
  cases x with
  |nil=>
   refine zHq 6 Y ?_;refine gP 0 Y (zyq (i:=i) Y Y Y Y Y Y Y (ziq bW q)) ?_;refine gV (w':=.int .i64 (([]:List UInt8).length:Int)) 7 Y (by show W.int .i64 ((zcq (([]:List UInt8))).length:Int)=_;rw[ztq]) ?_;refine gWr 0 Y ?_;refine gWr 0 Y ?_
   (refine zhq rfl (yMq Y Y Y Y Y Y (m7q ([]:List UInt8).length 4 Xd Xd (by show([]:List UInt8).length<4294967296;omega)) ?_);rintro w s r ⟨rfl,rfl,rfl⟩)
   refine zeq 10 Y ?_;refine gM 0 Y (yLq Y Y (Yuq [_] (k:=ti5) (news:=zcq (beB 4 ([]:List UInt8).length)) Y Y Y Y Y (j3q Y Y Y (zqq Xg hN.symm rfl)) Qh (by rw[hN];show(_+4)*1<=_;omega) (by rw[hN];omega) rfl (by simp[afq]))) ?_;refine gM 1 Y (yLq Y Y (jDq (k:=ti5) Y Y Y Y Y)) ?_;refine gWr 5 Y ?_;refine zbq 2 Y ?_;exact k3q 2 (i+1) (j) Xd (Zf _) (by rw[m];exact ZT _) Xw Xd Yr rfl Ya ⟨rfl,trivial⟩ ⟨rfl,rfl,rfl,trivial⟩ Xh Xh rfl Xm Xk Xt
  |cons c x=>
   refine zHq 6 Y ?_;refine gP 0 Y (zyq (i:=i) Y Y Y Y Y Y Y (ziq bW q)) ?_;refine gV (w':=.int .i64 ((c::x).length:Int)) 7 Y (by show W.int .i64 ((zcq ((c::x))).length:Int)=_;rw[ztq]) ?_;refine gWr 0 Y ?_;refine gWr 0 Y ?_
   (refine zhq rfl (yMq Y Y Y Y Y Y (m7q (c::x).length 4 Xd Xd (by show(c::x).length<4294967296;omega)) ?_);rintro w s r ⟨rfl,rfl,rfl⟩)
   refine zeq 10 Y ?_;refine gM 0 Y (yLq Y Y (Yuq [_] (k:=ti5) (news:=zcq (beB 4 (c::x).length)) Y Y Y Y Y (j3q Y Y Y (zqq Xg hN.symm rfl)) Qh (by rw[hN];show(_+4)*1<=_;omega) (by rw[hN];omega) rfl (by simp[afq]))) ?_;refine gM 1 Y (yLq Y Y (qxq (k:=ti5) (len:=(zcq (b::(d.take i).flatMap Qxq)++zcq (beB 4 (c::x).length)).length) (news:=zcq (c::x)) (olds:=zcq (b::(d.take i).flatMap Qxq)++zcq (beB 4 (c::x).length)) Y Y Y Y Y (by simp[zcq]) (by rw[Zh,hN,ztq (c::x)];show(_+_)*1<=_;omega) (by rw[Zh,hN,ztq (c::x)];omega) rfl (by show(_++_:List W).length*1<0+((_++_:List W).length+(zcq (c::x)).length)*1;rw[ztq (c::x),Zo];omega) rfl (zqq Xg Y Y))) ?_;refine gWr 5 Y ?_;refine zbq 2 Y ?_;exact k3q 3 (i+1) (j) Xd (Zf _) (m) Xw Xd Yr rfl Ya ⟨rfl,trivial⟩ ⟨rfl,rfl,rfl,trivial⟩ Xh Xh rfl Xm Xk Xt
 .have j:i=d.length:=by omega
  subst j;refine zbq 2 Y ?_;refine qQq Xj ?_;refine zRq 9 Y ?_;refine y0q Xo Y ?_;rw[List.take_length];exact a5q (H0:=[]) Xg Xi Xi
theorem wRq{m:Nat}(a:UInt8)(b:List (List UInt8))(h:∀p∈b,p.length<m):(wSq a b).length<=1+b.length*(m+4):=by
 have:=dqq (m:=m) b.length h;rw[List.take_length] at this;simp only[wSq,Zo];omega
def cLq(a:UInt8)(b:List (List UInt8)):Dig:=Ccq [wSq a b]
theorem voq(b:UInt8)(d:List (List UInt8))(f:Bool)(k:d.length<1000)(e:∀p∈d,p.length<1000000):PS cfg glK 96 [.int .u8 (.ofNat b.toNat),.fz (d.map bW) 1 f] (dW (cLq b d)):=by
 have g:=wRq b d e;refine gI 9 Y (λR j=>gC 0 Y (mCq b d f Xd e) (zbq 1 Y ?_));refine vcq Y Y Y Y Y (by(repeat (first|exact .nil|refine .cons ?_ ?_|(refine .sl Y ?_ rfl Xj;first|rfl|(focus (simp;done)))|(refine y5q Y ?_ rfl;first|rfl|(focus (simp;done)))|(refine .pur ?_;first|rfl|(focus (simp;done)))))) (CJq [(wSq b d,false)] false Xn Xi) Xm Xm ?_;exact zeq 4 Y (gQa 0 Y)
def akq(k:Dig):Dig:=cLq 3 [k.1]
theorem Dfq(k:Dig):PS cfg glK 169 [dW k] (dW (akq k)):=by
 exact gI 10 Y (λR b=>vcq Y Y Y Y Y (vR (.cons (.sl2 (full:=false) rfl (.arr (.cons (.sl (full:=false) (xs:=zcq k.1) rfl Xi (zqq Xg (by simp[ztq,k.2]) rfl) Xj) .nil)) rfl Xj) .nil)) (voq 3 [k.1] false Xi (by simp[k.2])) Xm Xm (zeq 4 Y (gQa 0 Y)))
end
section
attribute [local irreducible] CoW OpW FlW aeq ajq
variable {G:Nat->Option W}
structure Tx where
 pub:Dig
 to:Dig
 nonce:Nat
 amount:Nat
 fee:Nat
 sign:Dig
def txW(x:Tx):W:=.agg 99 [dW x.pub,dW x.to,.int .u64 (x.nonce:Int),.int .u64 (x.amount:Int),.int .u64 (x.fee:Int),dW x.sign]
@[simp] theorem qYq(x:Tx):aaq (txW x)=true:=by simp[txW]
structure Tx.ok(x:Tx):Prop where
 nonce:x.nonce<18446744073709551616
 amount:x.amount<18446744073709551616
 fee:x.fee<18446744073709551616
def x7q(x:Tx):List UInt8:=(x.pub.1++x.to.1)++[x.nonce,x.amount,x.fee].flatMap (beB 8)
theorem tJq(d:Dig):PS cfg G 256 [dW d] (bW d.1):=by
 exact gIv 13 Y (λR a=>y0q Jr rfl (.sl (full:=false) (xs:=zcq d.1) rfl Xi (zqq Xg (by simp[ztq,d.2]) rfl) Xj))
theorem lDq(n:Nat)(f:n<18446744073709551616):PS cfg G 258 [.int .u64 (n:Int)] (bW (beB 8 n)):=by
 refine gIv 8 Y (λR e=>?_)
 (refine zhq rfl (yMq Y Y Y Y Y Y (m7q n 8 Xd Xd (by show n<18446744073709551616;omega)) ?_);rintro w b d ⟨rfl,rfl,rfl⟩)
 exact zeq 14 Y (y0q Jr rfl (.sl (full:=false) (c:=.arr (8*1) 1 (zcq (beB 8 n))) (xs:=zcq (beB 8 n)) rfl Xi (zqq Xg (by rw[ztq,x8q]) rfl) Xj))
theorem ohq{b:List Dig}{i:Nat}{d:Dig}(h:b[i]? =some d):zcq ((b.take (i+1)).flatMap (·.1))=zcq ((b.take i).flatMap (·.1))++zcq d.1:=by
 rw[YA,h,<-kBq];congr 1
 simp
theorem eTq:∀(b:List Dig) (i:Nat),((b.take i).flatMap (·.1)).length<=i*32
 |[],i=>by simp
 |d::b,0=>by simp
 |d::b,i+1=>by
  have:=eTq b i;simp only[List.take_succ_cons,List.flatMap_cons,Zh,d.2,Nat.succ_mul];omega
@[simp] theorem Dxq(a:List Dig):acq (a.map dW)=true:=yvq (λx=>by simp) a
theorem z6q(b:List Dig)(f:Bool)(w:b.length<1000):PL cfg G 255 [.nils,.fz (b.map dW) 32 f,.fn 256 [] []] 5 1 (zcq (b.flatMap (·.1))):=by
 have e:(b.map dW).length=b.length:=Ze _;intro R;refine gIs 9 Y (λu=>?_);refine gV (w':=.int .i64 (b.length:Int)) 0 Y Yj (zbq 4 Y ?_);refine ZAq (α:=Nat) (λi=>i<=b.length) 0 (λi=>zcq ((b.take i).flatMap (·.1))) 5 1 (λi=>[(11,.int .i64 (i:Int))]) [(2,_),(6,_),(9,_),(10,_)] _ (λi=>b.length-i) (0) ⟨rfl,rfl,rfl,rfl,trivial⟩ (Zf _) ⟨rfl,trivial⟩ Y Y Y (λi q=>?_);refine zCq 6 Y ?_;refine gS 0 Y (λm=>?_) (λm=>?_)
 .have c:i<b.length:=by omega
  obtain⟨d,j⟩:∃d,b[i]? =some d:=⟨_,Za c⟩
  have hN:(zcq d.1).length=32:=by rw[ztq,d.2]
  have o:zcq ((b.take i).flatMap (·.1))++zcq d.1≠[]:=λh=>by have:=Zc List.length h;rw[Zh,hN] at this;simp at this
  have r:(zcq ((b.take i).flatMap (·.1))).length<=i*32:=by rw[ztq];exact eTq b i
  exact gP 6 Y (zyq (i:=i) Y Y Y Y Y Y Y (ziq dW j)) (gC 9 Y (tJq d) (gM 0 Y (yLq Y Y (Yuq [_] (k:=ti5) (news:=zcq d.1) Y Y Y Y Y Y Qh (by rw[hN];show(_+32)*1<=_;omega) (by rw[hN];omega) rfl Xi)) (gWr 5 Y (zbq 2 Y (k3q 2 (i+1) (c) Xd (Zf _) (ohq j) Xw Xd Yr rfl Ya ⟨rfl,trivial⟩ ⟨rfl,rfl,rfl,rfl,trivial⟩ Xh Xh rfl Xm Xk Xt)))))
 .have c:i=b.length:=by omega
  subst c;refine zbq 2 Y (qQq Xj (zRq 9 Y ?_));rw[List.take_length];exact fin Jr (yJq (fr2:=[(6,gW 0 1 (zcq (b.flatMap (·.1))))]) ⟨rfl,trivial⟩ Y Y) rfl ⟨rfl,rfl,rfl,rfl⟩
theorem eRq:∀(b:List Nat) (i:Nat),((b.take i).flatMap (beB 8)).length<=i*8
 |[],i=>by simp
 |d::ds,0=>by simp
 |d::ds,i+1=>by
  have:=eRq ds i;simp only[List.take_succ_cons,List.flatMap_cons,Zh,x8q,Nat.succ_mul];omega
def uW(n:Nat):W:=.int .u64 (n:Int)
@[simp] theorem gFq(a:List Nat):acq (a.map uW)=true:=yvq (λx=>rfl) a
def thr(i:Nat):Nat:=match i with
 |0=>0
 |_+1=>1
theorem zMq(l:List UInt8)(E:l≠[])(K:l.length<100000)(c:List Nat)(f:Bool)(O:c.length<1000)(C:c≠[])(D:∀n∈c,n<18446744073709551616):zUq cfg G 257 1 [.sl 0 0 0 l.length 1 none,.fz (c.map uW) 1 f,.fn 258 [] []] [(0,5,.arr l.length 1 (zcq l))] λw F I=>w= .sl 1 0 0 (l++c.flatMap (beB 8)).length 1 none/\F=[(1,5,.arr (l++c.flatMap (beB 8)).length 1 (zcq (l++c.flatMap (beB 8))))]/\I=2:=by
 have e:(c.map uW).length=c.length:=Ze _;intro R;refine gIs 9 Y (λN=>?_);refine gV (w':=.int .i64 (c.length:Int)) 0 Y Yj (zbq 4 Y ?_);refine jAq (α:=Nat) (λi=>i<=c.length) (λi=>[(11,.int .i64 (i:Int)),(0,.sl (thr i) 0 0 (l++(c.take i).flatMap (beB 8)).length 1 none),(2,.fn 258 [] []),(6,.nils),(9,.fz (c.map uW) 1 f),(10,.int .i64 (c.length:Int))]) (λi=>[(thr i,5,.arr (l++(c.take i).flatMap (beB 8)).length 1 (zcq (l++(c.take i).flatMap (beB 8))))]) (λi=>thr i+1) (λ_=>R) (λi=>c.length-i) 0 (Zf _) (yJq ⟨rfl,by show some (W.sl 0 0 0 l.length 1 none)=some (W.sl 0 0 0 (l++[]).length 1 none);rw[ZT],rfl,rfl,rfl,rfl,trivial⟩ (by simp[thr]) rfl) (λi J=>?_);skip
 refine zCq 6 Y ?_;refine gS 0 Y (λH=>?_) (λH=>?_)
 .have q:i<c.length:=by omega
  obtain⟨u,j⟩:∃u,c[i]? =some u:=⟨_,Za q⟩
  have x:=D u (Zj j);have hN:(zcq (beB 8 u)).length=8:=by rw[ztq,x8q]
  have L:(l++(c.take i).flatMap (beB 8)).length<=100000+i*8:=by have:=eRq c i;rw[Zh];omega
  have A:l++(c.take (i+1)).flatMap (beB 8)=(l++(c.take i).flatMap (beB 8))++beB 8 u:=by rw[YA,j];simp
  have d:(l++(c.take i).flatMap (beB 8)).length+(zcq (beB 8 u)).length=(l++(c.take (i+1)).flatMap (beB 8)).length:=by rw[A,Zh (bs:=beB 8 u),ztq]
  have B:zcq (l++(c.take i).flatMap (beB 8))++zcq (beB 8 u)=zcq (l++(c.take (i+1)).flatMap (beB 8)):=by rw[A,kBq (b:=beB 8 u)]
  skip
  cases i with
  |zero=>
   refine zHq 6 Y (gP 0 Y (zyq (i:=0) Y Y Y Y Y Y Y (ziq uW j)) (gC 8 Y (lDq u x) (gM 0 Y (yLq Y Y (qxq (k:=ti5) (len:=(l++(c.take 0).flatMap (beB 8)).length) (news:=zcq (beB 8 u)) (olds:=zcq (l++(c.take 0).flatMap (beB 8))) Y Y Y Y Y Qh (by rw[hN];show(_+8)*1<=_;omega) (by rw[hN];omega) rfl (by rw[hN];show(l++(c.take 0).flatMap (beB 8)).length<0+(_+8)*1;omega) rfl (zqq Xg (ztq _).symm (Z6 _).symm))) (gA 5 Y (0+1) (zbq 2 Y ?_)))));skip
   refine y6q 1 q Xd (yJq ⟨rfl,?_,rfl,rfl,rfl,rfl,trivial⟩ ?_ rfl)
   .show some (W.sl 1 0 0 ((l++(c.take 0).flatMap (beB 8)).length+(zcq (beB 8 u)).length) 1 none)=some (W.sl 1 0 0 (l++(c.take (0+1)).flatMap (beB 8)).length 1 none);rw[d]
   .show [(1,5,W.arr (((l++(c.take 0).flatMap (beB 8)).length+(zcq (beB 8 u)).length)*1) 1 (zcq (l++(c.take 0).flatMap (beB 8))++zcq (beB 8 u)))]=[(1,5,W.arr (l++(c.take (0+1)).flatMap (beB 8)).length 1 (zcq (l++(c.take (0+1)).flatMap (beB 8))))];rw[d,B,Z6]
  |succ i=>
   refine zHq 6 Y (gP 0 Y (zyq (i:=(i+1)) Y Y Y Y Y Y Y (ziq uW j)) (gC 8 Y (lDq u x) (gM 0 Y (yLq Y Y (qxq (k:=ti5) (len:=(l++(c.take (i+1)).flatMap (beB 8)).length) (news:=zcq (beB 8 u)) (olds:=zcq (l++(c.take (i+1)).flatMap (beB 8))) Y Y Y Y Y Qh (by rw[hN];show(_+8)*1<=_;omega) (by rw[hN];omega) rfl (by rw[hN];show(l++(c.take (i+1)).flatMap (beB 8)).length<0+(_+8)*1;omega) rfl (zqq Xg (ztq _).symm (Z6 _).symm))) (gA 5 Y ((i+1)+1) (zbq 2 Y ?_)))));skip
   refine y6q (i+1+1) q (show c.length-(i+1+1)<c.length-(i+1) by omega) ?_;refine(yiq (b:=1) (k:=2) Xd Xd (by show 2<3;omega) ⟨⟨rfl,rfl⟩,⟨?_,rfl⟩,⟨rfl,rfl⟩,⟨rfl,rfl⟩,⟨by rw[zdq (show aaq (.fz (c.map uW) 1 f)=true from gFq c)];rfl,zaq (show aaq (.fz (c.map uW) 1 f)=true from gFq c)⟩,⟨rfl,rfl⟩,trivial⟩ ⟨⟨by show 1<2;omega,?_,zaq (show aaq (.arr _ 1 (zcq _))=true from jlq _)⟩,trivial⟩ Xi)
   .show some (W.sl 2 0 0 ((l++(c.take (i+1)).flatMap (beB 8)).length+(zcq (beB 8 u)).length) 1 none)=some (W.sl 2 0 0 (l++(c.take (i+1+1)).flatMap (beB 8)).length 1 none);rw[d]
   .show some (5,W.arr (((l++(c.take (i+1)).flatMap (beB 8)).length+(zcq (beB 8 u)).length)*1) 1 (zcq (l++(c.take (i+1)).flatMap (beB 8))++zcq (beB 8 u)))=some (5,adq _ (W.arr (l++(c.take (i+1+1)).flatMap (beB 8)).length 1 (zcq (l++(c.take (i+1+1)).flatMap (beB 8)))));rw[zdq (show aaq (.arr _ 1 (zcq _))=true from jlq _),d,B,Z6]
 .have q:i=c.length:=by omega
  subst q;refine zbq 2 Y (qQq Xj (zRq 9 Y ?_));rw[List.take_length];cases c with
  |nil=>exact absurd rfl C
  |cons a r=>
   exact fin Jr (yJq (fr2:=[(6,.sl 1 0 0 (l++(a::r).flatMap (beB 8)).length 1 none)]) ⟨rfl,trivial⟩ Y Y) rfl ⟨rfl,rfl,rfl,rfl⟩
theorem Acq(a b:Dig)(f:Bool):zUq cfg G 255 0 [.nils,.fz [dW a,dW b] 32 f,.fn 256 [] []] [] λw k j=>w= .sl 0 0 0 (a.1++b.1).length 1 none/\k=[(0,5,.arr (a.1++b.1).length 1 (zcq (a.1++b.1)))]/\j=1:=by
 refine yRq (z6q [a,b] f Xi) λw k j h=>?_
 obtain⟨rfl,rfl,rfl⟩:=h;have e:[a,b].flatMap (·.1)=a.1++b.1:=by simp
 have d:(zcq (a.1++b.1)).length=64:=by rw[ztq,Zh,a.2,b.2]
 have c:zcq (a.1++b.1)≠[]:=λh=>by rw[h] at d;cases d
 rw[e,QJq c,QKq c,ztq,Z6];exact⟨rfl,rfl,rfl⟩
theorem fkq(x:Tx):(x7q x).length=88:=by simp[x7q,x.pub.2,x.to.2,x8q]
theorem tIq(x:Tx)(B:x.ok):PL cfg G 229 [txW x] 5 1 (zcq (x7q x)):=by
 have D:(x.pub.1++x.to.1).length=64:=by rw[Zh,x.pub.2,x.to.2]
 have E:=fkq x
 have C:∀n∈[x.nonce,x.amount,x.fee],n<18446744073709551616:=λn v=>by
  simp only[ZB,ZW,or_false] at v;rcases v with rfl|rfl|rfl
  .exact B.nonce
  .exact B.amount
  .exact B.fee
 have d:aaq (.arr (x.pub.1++x.to.1).length 1 (zcq (x.pub.1++x.to.1)))=true:=jlq _;intro R;refine gIs 13 Y (λF=>?_)
 (refine jxq (λ_=>Z8q 1 [(1,.ptr 0 0),(2,.nils),(8,.fz [dW x.pub,dW x.to] 32 false)] [(0,92,txW x)] rfl (show acq [dW x.pub,dW x.to]=true by simp) (Zf _) ⟨⟨_,rfl,.ptrK rfl⟩,⟨_,rfl,.pur rfl⟩,⟨_,rfl,.sl (full:=false) rfl (show acq [dW x.pub,dW x.to]=true by simp) rfl Xj⟩,trivial⟩ ⟨⟨by omega,_,rfl,.pur Xi⟩,trivial⟩ Xi) ?_;refine zhq rfl (yMq Y Y Y Y Y Xi (Acq x.pub x.to false) ?_);rintro w A y ⟨rfl,rfl,rfl⟩)
 refine zeq 13 Y ?_
 (refine jxq (λ_=>Z8q 3 [(1,.ptr 0 0),(2,.nils),(10,.sl 2 0 0 (x.pub.1++x.to.1).length 1 none),(17,.fz ([x.nonce,x.amount,x.fee].map uW) 1 false)] [(2,5,.arr (x.pub.1++x.to.1).length 1 (zcq (x.pub.1++x.to.1))),(0,92,txW x)] Y Y (Zf _) ⟨⟨_,rfl,.ptrK rfl⟩,⟨_,rfl,.pur rfl⟩,⟨_,rfl,.slK rfl⟩,⟨_,rfl,.sl (full:=false) Y Y Y Xj⟩,trivial⟩ ⟨⟨by omega,_,rfl,by rw[zdq d];exact .pur d⟩,⟨by omega,_,rfl,.pur Xi⟩,trivial⟩ Xi) ?_;refine zhq rfl (zDq (ext:=[2]) (ws:=[.sl 0 0 0 (x.pub.1++x.to.1).length 1 none,.fz ([x.nonce,x.amount,x.fee].map uW) 1 false,.fn 258 [] []]) Y Y Y Y Y (zMq (x.pub.1++x.to.1) (by intro h;rw[h] at D;cases D) Xd [x.nonce,x.amount,x.fee] false Xi Xi C) Xi Xi Xi (yYq (by rw[zdq d];rfl) (zaq d)) Y ?_);rintro w A y ⟨rfl,rfl,rfl⟩)
 refine zeq 4 Y ?_;have j:aaq (.arr (x7q x).length 1 (zcq (x7q x)))=true:=jlq _;have v:(zcq (x7q x)).length=88:=by rw[ztq,E]
 have q:zcq (x7q x)≠[]:=λh=>by rw[h] at v;cases v
 refine fin (fr2:=[(2,.sl 0 0 0 (x7q x).length 1 none)]) (hp2:=[(0,5,.arr (x7q x).length 1 (zcq (x7q x)))]) (nw2:=1) (w:=.sl 0 0 0 (x7q x).length 1 none) Jr (yiq (b:=0) (k:=4) Xd Xd Qk ⟨⟨rfl,rfl⟩,trivial⟩ ⟨⟨by omega,?_,zaq j⟩,trivial⟩ Xi) rfl ⟨rfl,?_,?_,rfl⟩
 .show some (5,adq _ (W.arr (x7q x).length 1 (zcq (x7q x))))=some (5,adq _ (W.arr (x7q x).length 1 (zcq (x7q x))));rw[zdq j,zdq j]
 .rw[QJq q,ztq]
 .rw[QKq q,ztq,Z6]
theorem BKq(x:Tx)(a:x.ok):PS cfg G 229 [txW x] (bW (x7q x)):=(tIq x a).ps Xg Xi
def xHq(x:Tx):Dig:=cLq 4 [x7q x]
theorem pnq(x:Tx)(a:x.ok):PS cfg glK 185 [txW x] (dW (xHq x)):=by
 have b:=fkq x;refine gI 9 Y (λR d=>gC 0 Y (BKq x a) (zbq 1 Y ?_));refine vcq Y Y Y Y Y (by(repeat (first|exact .nil|refine .cons ?_ ?_|(refine .sl Y ?_ rfl Xj;first|rfl|(focus (simp;done)))|(refine y5q Y ?_ rfl;first|rfl|(focus (simp;done)))|(refine .pur ?_;first|rfl|(focus (simp;done)))))) (voq 4 [x7q x] false Xi (by simp[b])) Xm Xm ?_;exact zeq 4 Y (gQa 0 Y)
theorem qRq(x:Tx)(a:x.ok):PS cfg glK 119 [txW x] (.int .i64 (if x.sign=xHq x then 0 else 110)):=by
 refine c3q (fn:=Tryz.f119) Y Y Y (Yb rfl) (λR c=>?_);by_cases h:x.sign=xHq x
 .rw[Zl h];skip
  exact zCq 12 Y (gC 0 Y (pnq x a) (k6q (w':=.bool false) rfl (kUq Y Y Y Y (yUq Y Y Y Y Y Y x.sign (xHq x) 250)) (by rw[Zq h];rfl) (zWq 11 Y (gQa 0 Y))))
 .rw[Zg h];exact zCq 12 Y (gC 0 Y (pnq x a) (k6q (w':=.bool true) rfl (kUq Y Y Y Y (yUq Y Y Y Y Y Y x.sign (xHq x) 250)) (by rw[Zw h];rfl) (zWq 10 Y (gQa 0 Y))))
theorem JTq(x:Tx):PS cfg glK 98 [txW x] (dW (akq x.pub)):=by
 exact gI 10 Y (λR a=>gC 0 Y (Dfq x.pub) (gQa 4 Y))
structure Hdr where
 height:Int
 parent:Dig
 state:Dig
 rows:Dig
 many:Int
def hdW(h:Hdr):W:=.agg 98 [.int .i64 h.height,dW h.parent,dW h.state,dW h.rows,.int .i64 h.many]
@[simp] theorem iNq(h:Hdr):aaq (hdW h)=true:=by simp[hdW]
theorem jYq{C:Cfg}{G:Nat->Option W}{m g:Nat}{e:FrW}{a:HpW}{d:Nat}{R:Res}{b:Nat}{c:TypeId}{w w':W}(f:hget a b=some (c,w))(h:View (λ_=>none) w w'):Ent C G m g e a d R e (apq a b (c,w')) d R:=
 dzq f λj v i=>kDq ⟨λ_ h _=>h,λ_ _ _=>rfl,λ_ h=>h,λ_ _=>rfl,λ_ _ _ h=>Qi⟩ h i
def okH(h:Hdr):Prop:=0<=h.height/\h.height<=1073741824/\0<=h.many/\h.many<=256
instance(h:Hdr):Decidable (okH h):=Classical.propDecidable _
end
section
variable {C:Cfg} {G:Nat->Option W} {o:Oper} {fr:FrW} {hp:HpW} {nw:Nat} {R:Res} {post:W->HpW->Nat->Res->Option EvW->Prop}
theorem g5q{w w2 c:W}{H:TypeId}(h:aDq C G fr hp nw o.op=some (w,(nw,H,c)::hp,nw+1,.gen))(hc:aaq c=true)(hv:View (flq nw c) w w2)(B:post w2 hp (nw+1) R (some .gen)):aeq C G o fr hp nw R post:=λz X Z L s hf=>by
 subst L;obtain⟨v,V,Γ',O,h2,j,S⟩:=c8q (rt:=o.type) hf s h;have f:=j.sat;have M:hget ((z.nw,H,c)::hp) z.nw=some (H,c):=by rw[zfq,Zl rfl]
 obtain⟨p1,p2,p3,u,J,T⟩:=f.own _ _ _ M;let Γ2:Ctx:=⟨Γ'.nw,Γ'.σ,λd=>Γ'.D d\/d=Γ'.σ z.nw,Γ'.h⟩
 have E:Γ'.Le Γ2:=⟨Zb _,λ_ _=>rfl,λ_ h=>.inl h,λ_ _=>rfl⟩
 have q:Seen (flq z.nw c) Γ' Γ2:=⟨λ_ h _=>h,λ_ _ _=>rfl,λ_ h=>.inl h,λ_ _=>rfl,λk c' A h=>by
  unfold flq at h;split at h
  .rename_i e;rw[ZH] at e;subst e;cases h;exact⟨.inr rfl,u,uUq J,T⟩
  .cases h⟩
 have K:Γ'.σ z.nw<Γ'.h.next:=by
  rcases ZL (Γ'.σ z.nw) Γ'.h.next with h|h
  .exact h
  .rw[f.wf _ h] at J;cases J
 have p:∀k x,hget hp k=some x->k<z.nw/\hget ((z.nw,H,c)::hp) k=some x:=λk x A=>by
  have:=(s.own k x.1 x.2 A).1;exact⟨this,by rw[zfq,Zg Xd];exact A⟩
 refine⟨0,w2,hp,R,some .gen,v,V,Γ2,X,?_,by simp only[opV,O,h2],⟨O,S⟩,j.hh,⟨Zt j.le.nw E.nw,j.le.σ,λd h=>.inl (j.le.D d h),j.le.val⟩,⟨f.wf,λk ty' w A=>?_,λk k' x y hx U e=>?_,s.nd,λd F N=>?_,f.xlt,λd F=>?_,R.st _ _ _ _ _ f.res E.D E.val (λ_ _=>rfl) (Zb _),f.gl.mono E⟩,⟨j.frm.sig,j.frm.mle,j.frm.next,j.frm.keep,λd h=>.inl (j.frm.dsub d h),λd F=>?_,λk x _ A=>⟨x,A⟩,λk x hm A=>?_,λ_ h=>.inl h,j.frm.wmin⟩,kDq q hv j.val⟩
 .show post w2 hp Γ'.nw R _;rw[j.nw];exact B
 .obtain⟨P,I⟩:=p k _ A;obtain⟨q1,Y,q3,u,q4,Q⟩:=f.own _ _ _ I;exact⟨q1,λh=>h.elim Y λe=>by have:=f.inj k _ _ _ I M e;omega,q3,u,q4,Q.mono E⟩
 .exact f.inj _ _ _ _ (p k _ hx).2 (p k' _ U).2 e
 .rcases F with h|rfl
  .exact f.dX d h N
  .exact p3 N
 .rcases F with h|rfl
  .exact f.dlt d h
  .exact K
 .rcases F with h|rfl
  .exact j.frm.dnew d h
  .rcases j.frm.onum z.nw _ (Zb _) M with h|⟨k,y,P,I,g3⟩
   .exact .inr (.inr h)
   .exact .inr (.inl (.inl ⟨k,y,I,g3⟩))
 .have:=(p k _ A).1;omega
theorem g2q{w w2:W}(h:aDq C G fr hp nw o.op=some (w,hp,nw,.gen))(F:View (λ_=>none) w w2)(f:post w2 hp (nw+1) R (some .gen)):aeq C G o fr hp nw R post:=λL X J m s q=>by
 subst m;obtain⟨v,B,Γ',p,H,d,y⟩:=c8q (rt:=o.type) q s h;have c:=d.sat;let Γ2:Ctx:=⟨Γ'.nw+1,Γ'.σ,Γ'.D,Γ'.h⟩
 have j:Γ'.Le Γ2:=⟨YO _,λ_ _=>rfl,λ_ h=>h,λ_ _=>rfl⟩;refine⟨0,w2,hp,R,some .gen,v,B,Γ2,X,?_,by simp only[opV,p,H],⟨p,y⟩,d.hh,⟨Zt d.le.nw j.nw,d.le.σ,d.le.D,d.le.val⟩,⟨c.wf,λk A w K=>?_,c.inj,s.nd,c.dX,c.xlt,c.dlt,R.st _ _ _ _ _ c.res j.D j.val (λ_ _=>rfl) (Zb _),c.gl.mono j⟩,⟨d.frm.sig,λh=>Zt (d.frm.mle h) (YO _),d.frm.next,d.frm.keep,d.frm.dsub,d.frm.dnew,d.frm.oext,d.frm.onum,λ_ h=>.inl h,d.frm.wmin⟩,kDq (show Seen (λ_=>none) Γ' Γ2 from⟨λ_ h _=>Nat.lt_succ_of_lt h,λ_ _ _=>rfl,λ_ h=>h,λ_ _=>rfl,λ_ _ _ h=>Qi⟩) F d.val⟩
 .show post w2 hp (Γ'.nw+1) R _;rw[d.nw];exact f
 .obtain⟨r,I,z,u,E,x⟩:=c.own _ _ _ K;exact⟨Zv r (YO _),I,z,u,E,x.mono j⟩
theorem mJq{x y:Operand}{I E F:TypeId}{j k:TyI}{e:Nat}{v:W}{news:List W}(J:o.op= .call ⟨.builtin .append, #[x,y], #[I,E]⟩)(M:evW C G fr x=some .nils)(N:evW C G fr y=some v)(L:C.ty I=some j)(H:j.d= .slice F)(O:C.ty F=some k)(P:k.size=e)(A:Nat.beq k.size 0=false)(K:aNq C hp E k.size v=some news)(m:acq news=true)(Q:news.length*k.bytes<=140737488355328)(S:news.length<=70368744177664)(h:post (.fz news e false) hp (nw+1) R (some .gen)):aeq C G o fr hp nw R post:=by
 subst P
 have D:0<k.size:=by
  rcases YS k.size with q|q
  .rw[q] at A;cases A
  .exact q
 cases news with
 |nil=>exact g2q (by rw[J];exact yLq M N (foq L H O A K)) .nilfz h
 |cons z B=>
  exact g5q (by rw[J];exact yLq M N (uOq L H O A K Xi Q S)) (show aaq (.arr _ _ (z::B))=true from m) (.sl (full:=false) (c:=.arr ((z::B).length*k.size) k.size (z::B)) (by unfold flq;rw[Y0]) m (zqq D Y Y) Xj) h
end
section
attribute [local irreducible] CoW OpW FlW aeq ajq
def byW(c:UInt8):W:=.int .u8 (.ofNat c.toNat)
theorem lBq(l:List UInt8)(i:Nat)(c:UInt8):zcq (l.set i c)=(zcq l).set i (byW c):=List.map_set
theorem oLq{l:List UInt8}{i:Nat}(h:i<l.length):(zcq l)[i]? =some (byW l[i]):=by
 unfold zcq;rw[Z1,Za h];rfl
theorem emq{f:Nat}{l:List UInt8}{n i:Nat}(h:i<l.length)(d:n≠1)(c:UInt8):z7q (f+2) (.arr n 1 (zcq l)) (0+i*1+0) (byW c)=some (.arr n 1 (zcq (l.set i c))):=by
 have b:(Nat.beq (0+i*1+0) 0&&Nat.beq (byW c).size n&&(byW c).isAgg==true)=false:=by
  show(Nat.beq (0+i*1+0) 0&&Nat.beq 1 n&&false)=false;rw[Y3]
 rw[v5q (x:=byW l[i]) (x':=byW c) (oLq h) Xd Xd b rfl,lBq]
theorem Qoq{F:List UInt8->W}{base n:Nat}(f:∀l i c,l.length=n->i<n->z7q 50 (F l) (base+i) (byW c)=some (F (l.set i c)))(d:∀l,(F l).isAgg=true):∀(a:List UInt8) (i:Nat) (l:List UInt8),l.length=n->i+a.length<=n->v7q (F l) (base+i) 1 (zcq a)=some (F (l.take i++a++l.drop (i+a.length)))
 |[],i,l,_,_=>by
  show some (F l)=_;simp
 |c::a,i,l,hl,hi=>by
  have m:i+(a.length+1)<=n:=by simpa using hi
  have b:i<n:=by omega
  have h:=Qoq f d a (i+1) (l.set i c) (by rw[YI];exact hl) (by simp only[Zo] at hi;omega)
  show(match Nat.beq (byW c).size 1&&(F l).isAgg with
   |true=>match z7q 50 (F l) (base+i) (byW c) with
    |some j=>v7q j (base+i+1) 1 (zcq a)
    |none=>none
   |false=>none)=_
  rw[d l,show(Nat.beq (byW c).size 1&&true)=true from rfl,f l i c hl b];simp only;rw[ZM,h];congr 2
  apply List.ext_getElem?;intro k;simp only[Zx,YW,Y2,Zu,YI,Zo,YJ,Z0,List.getElem?_set,List.getElem?_cons,hl];repeat' split
  all_goals first|rfl|(exfalso;omega)|(congr 1;omega)|(simp;done)
theorem osq:∀(l:List UInt8) (i:Nat) (c:UInt8),l.length=32->i<32->z7q 50 (.arr 32 1 (zcq l)) (0+i) (byW c)=some (.arr 32 1 (zcq (l.set i c))):=λl i c d b=>by
 have:=emq (f:=48) (l:=l) (n:=32) (i:=i) Xd Xg c;rwa[show 0+i*1+0=0+i by omega] at this
theorem txq{C:Cfg}{G:Nat->Option W}{D:FrW}{A:HpW}{L:Nat}{x y:Operand}{K F J e:TypeId}{j k:TyI}{b w m q:Nat}{B:Option Nat}{u v I:W}{all ns:List UInt8}{n:Nat}(S:evW C G D x=some (.sl b w m q 1 B))(N:evW C G D y=some u)(M:C.ty K=some j)(Q:j.d= .slice e)(X:C.ty e=some k)(T:k.size=1)(R:aNq C A F 1 u=some (zcq all))(V:all.take q=ns)(Y:ns.length=n)(U:0<n)(O:hget A b=some (J,v))(H:m+n<=v.size)(f:v7q v m 1 (zcq ns)=some I):
  aDq C G D A L (.call ⟨.builtin .copy, #[x,y], #[K,F]⟩)=some (.int .i64 ((n:Nat):Int),apq A b (J,I),L,.dirty):=by
 subst Y;have z:(zcq all).take q=zcq ns:=by rw[<-V,zcq,zcq,List.map_take]
 cases ns with
 |nil=>simp at U
 |cons c r=>
  have P:zcq (c::r)=byW c::zcq r:=rfl;have E:(zcq r).length=r.length:=by simp[zcq]
  rw[P] at z f;simp only[Zo] at H;simp only[aDq,s6q,S,N,M,Q,X,T,R,z,O,E,Z6,Zn H,f,show Nat.beq 1 1=true from rfl,Zo];rfl
def jFq(l:List UInt8):Dig:=if h:(l.take 32).length=32 then⟨l.take 32,h⟩ else zeroD
theorem a9q{l:List UInt8}(h:32<=l.length):(jFq l).1=l.take 32:=by
 unfold jFq;rw[dif_pos Yn]
theorem naq{l:List UInt8}(h:32<=l.length):v7q (.arr 32 1 (List.replicate 32 (.int .u8 (.ofNat 0)))) 0 1 (zcq (l.take 32))=some (dW (jFq l)):=by
 rw[vKq];have b:(l.take 32).length=32:=by rw[Zu];omega
 have:=Qoq (F:=λl=>.arr 32 1 (zcq l)) (base:=0) (n:=32) osq (λ_=>rfl) (l.take 32) 0 zeroD.1 zeroD.2 Xd;rw[List.take_zero,YX,ZY (by rw[zeroD.2];omega),ZT] at this;show v7q (.arr 32 1 (zcq zeroD.1)) (0+0) 1 _=some (.arr 32 1 (zcq (jFq l).1));rw[a9q h];exact this
theorem xpq{a:Nat->Nat}{b c:Nat}{t u:TypeId}{x y:W}(h:aaq x=true)(k:aaq y=true):ahq a [(b,t,x),(c,u,y)]=[(a b,t,x),(a c,u,y)]:=by
 rw[ahq,zZq k,zdq h]
def tx0:Tx:=⟨zeroD,zeroD,0,0,0,zeroD⟩
theorem pgq:tx0.ok:=⟨by decide,by decide,by decide⟩
theorem YEq{b:Nat->Option W}:View b (.agg 99 [.arr 32 1 (List.replicate 32 (.int .u8 (.ofNat 0))),.arr 32 1 (List.replicate 32 (.int .u8 (.ofNat 0))),.int .u64 0,.int .u64 0,.int .u64 0,.arr 32 1 (List.replicate 32 (.int .u8 (.ofNat 0)))]) (txW tx0):=.agg (.cons zYq (.cons zYq (vR (vR (vR (.cons zYq .nil))))))
def hHq(l:List UInt8)(f:Bool)(x:Tx):W:=.agg 100 [.agg 1 [.fz (zcq l) 1 f],txW x]
@[simp] theorem yWq(l:List UInt8)(f:Bool)(x:Tx):aaq (hHq l f x)=true:=by simp[hHq,aaq,acq]
section
variable {G:Nat->Option W}
theorem hIq(l:List UInt8)(f:Bool)(x:Tx)(a:32<=l.length):zUq cfg G 190 1 [.ptr 0 0] [(0,345,hHq l f x)] λw c b=>w=dW (jFq l)/\c=[(1,23,dW (jFq l)),(0,345,hHq (l.drop 32) f x)]/\b=2:=by
 have e:(zcq l).length=l.length:=ztq l;intro R;refine gIs 12 Y (λd=>?_);exact gM 0 Y (txq (all:=l) (ns:=l.take 32) (n:=32) (j:=wLq) (k:=ti5) Y Y Y Y Y Y Y Y Yn Xg rfl Xg (naq a)) (gP 11 Y (Q1q (ys:=zcq (l.drop 32)) (l:=32) (h:=(zcq l).length) (g:=f) Y Y Y Y Y Y Y (by rw[e];exact a) (Zb _) Jp Qs) (zbq 12 Y (fin Jr (zvq (nw2:=2) (fr2:=[(2,.ptr 1 0)]) (hp2:=[(1,23,dW (jFq l)),(0,345,hHq (l.drop 32) f x)]) Xg Xg ⟨rfl,trivial⟩ rfl (zoq ⟨⟨by decide,rfl,zaq (qeq _)⟩,⟨by decide,rfl,zaq (yWq _ _ _)⟩,trivial⟩) Xi) rfl ⟨rfl,rfl,rfl,rfl⟩)))
theorem hBq(l:List UInt8)(f:Bool)(x:Tx)(a:8<=l.length)(d:l.length<=1000000):zUq cfg G 191 1 [.ptr 0 0] [(0,345,hHq l f x)] λw c b=>w= .int .u64 (alq (l.take 8):Nat)/\c=[(0,345,hHq (l.drop 8) false x)]/\b=1:=by
 intro R;refine gIs 11 Y (λe=>?_);exact gC 0 Y (kEq l f 8 Xd Xd a Xd) (zbq 25 Y (fin Jr (zvq (nw2:=1) (fr2:=[(2,.int .u64 (alq (l.take 8):Nat))]) (hp2:=[(0,345,hHq (l.drop 8) false x)]) Xg Xg ⟨rfl,trivial⟩ rfl (zoq ⟨⟨by decide,rfl,zaq (yWq _ _ _)⟩,trivial⟩) Xi) rfl ⟨rfl,rfl,rfl,rfl⟩))
end
def l7q(l:List UInt8):Tx:=⟨jFq l,jFq (l.drop 32),alq ((l.drop 64).take 8),alq ((l.drop 72).take 8),alq ((l.drop 80).take 8),jFq (l.drop 88)⟩
theorem sDq(l:List UInt8):alq (l.take 8)<18446744073709551616:=by
 have a:=QAq (l.take 8);have b:(l.take 8).length<=8:=by rw[Zu];omega
 exact Zv a (Y7 Xg b)
theorem czq(l:List UInt8):(l7q l).ok:=⟨sDq _,sDq _,sDq _⟩
def xRd(l:List UInt8):Nat->Tx
 |0=>⟨jFq l,jFq (l.drop 32),0,0,0,zeroD⟩
 |1=>⟨jFq l,jFq (l.drop 32),alq ((l.drop 64).take 8),0,0,zeroD⟩
 |2=>⟨jFq l,jFq (l.drop 32),alq ((l.drop 64).take 8),alq ((l.drop 72).take 8),0,zeroD⟩
 |_=>⟨jFq l,jFq (l.drop 32),alq ((l.drop 64).take 8),alq ((l.drop 72).take 8),alq ((l.drop 80).take 8),zeroD⟩
def fRd(f:Bool):Nat->Bool
 |0=>f
 |_=>false
def aEq(l:List UInt8):Tx×Int:=if (l7q l).sign=xHq (l7q l) then(l7q l,0) else(tx0,110)
theorem rDq(l:List UInt8):(aEq l).1.ok:=by
 unfold aEq;split
 .exact czq l
 .exact pgq
theorem YDq(l:List UInt8)(f:Bool)(q:l.length=120):PS cfg glK 124 [.fz (zcq l) 1 f] (.tup [txW (aEq l).1,.int .i64 (aEq l).2]):=by
 have e:(zcq l).length=120:=by rw[ztq,q]
 have A:(l.drop 32).length=88:=by rw[Zy,q]
 have x:(l.drop 32).drop 32=l.drop 64:=YB;have y:(l.drop 64).length=56:=by rw[Zy,q]
 refine gIv 11 Y (λR E=>gZ 0 Y e (gF 0 Y (ltI_not.2 Xg) (gZ 7 Y e (gF 0 Y (ltI_not.2 Xg) (zbq 13 Y ?_)))))
 (refine jxq (λ_=>jYq (b:=1) (w':=hHq l f tx0) rfl (.agg (.cons (.pur Yz) (.cons YEq .nil)))) ?_;refine z5q Y Y ?_)
 refine zeq 8 Y ?_
 (refine zhq rfl (zDq (ext:=[1]) (ws:=[.ptr 0 0]) Y Y Y Y Y (hIq l f tx0 Xd) Xg Xl Xi (yYq Qd (zaq (yWq _ _ _))) Y ?_);rintro w k j ⟨rfl,rfl,rfl⟩;rw[xpq (qeq _) (yWq _ _ _),zdq (qeq _)])
 refine zeq 12 Y ?_
 (refine zhq rfl (zDq (ext:=[1]) (ws:=[.ptr 0 0]) Y Y Y Y Y (hIq (l.drop 32) f ⟨jFq l,zeroD,0,0,0,zeroD⟩ Xd) Xg Xl Xi (yYq Qd (zaq (yWq _ _ _))) Y ?_);rintro w k j ⟨rfl,rfl,rfl⟩;rw[xpq (qeq _) (yWq _ _ _),zdq (qeq _),x])
 (refine jxq (λ_=>zvq (nw2:=2) (fr2:=[(2,.ptr 0 0),(3,.int .i64 0),(4,.ptr 1 0),(30,.ptr 1 0),(34,dW (jFq (l.drop 32)))]) (hp2:=[(1,345,hHq (l.drop 64) f ⟨jFq l,zeroD,0,0,0,zeroD⟩),(0,92,.agg 99 [.arr 32 1 (List.replicate 32 (.int .u8 (.ofNat 0))),.arr 32 1 (List.replicate 32 (.int .u8 (.ofNat 0))),.int .u64 0,.int .u64 0,.int .u64 0,.arr 32 1 (List.replicate 32 (.int .u8 (.ofNat 0)))])]) Xg Xg ⟨rfl,rfl,rfl,rfl,rfl,trivial⟩ (koq ⟨rfl,rfl,rfl,rfl,zaq (qeq _),trivial⟩) (zoq ⟨⟨by decide,rfl,zaq (yWq _ _ _)⟩,⟨by decide,rfl,rfl⟩,trivial⟩) Xi) ?_;refine z5q Y Y ?_)
 refine zeq 21 Y (gL 0 Y (zbq 4 Y ?_));refine jzq (α:=Nat) (λi=>i<=3) (λi=>[(52,.int .i64 (i:Int))]) [(2,_),(3,_),(4,_),(50,_),(51,_)] (λi=>[(2,346,.arr 3 1 [.ptr 1 65,.ptr 1 66,.ptr 1 67]),(1,345,hHq (l.drop (64+8*i)) (fRd f i) (xRd l i)),(0,92,.agg 99 [.arr 32 1 (List.replicate 32 (.int .u8 (.ofNat 0))),.arr 32 1 (List.replicate 32 (.int .u8 (.ofNat 0))),.int .u64 0,.int .u64 0,.int .u64 0,.arr 32 1 (List.replicate 32 (.int .u8 (.ofNat 0)))])]) (λi=>3-i) (0) ⟨rfl,rfl,rfl,rfl,rfl,trivial⟩ (Zf _) ⟨rfl,trivial⟩ (rfl) (λi D=>?_);refine zCq 6 Y ?_;refine gS 0 Y (λB=>?_) (λB=>?_)
 .have C:i=0\/i=1\/i=2:=by omega
  skip
  rcases C with rfl|rfl|rfl
  .refine gP 6 Y (ypq (i:=0) Y Y Y Y Y Y Y Xg) (zbq 9 Y ?_)
   (refine zhq rfl (zDq (ext:=[1]) (ws:=[.ptr 0 0]) Y Y Y Y Y (hBq (l.drop 64) f (xRd l 0) Xd Xd) Xg Xl Xi (yYq Qd (zaq (yWq _ _ _))) Y ?_);rintro w k j ⟨rfl,rfl,rfl⟩;rw[zZq (yWq _ _ _),YB])
   exact zeq 6 Y (gA 0 Y (1) (zbq 2 Y (u2q (1) Xg Xg (Zf _) ⟨rfl,trivial⟩ ⟨rfl,rfl,rfl,rfl,rfl,trivial⟩ Xh Xh Xd Xk Xt)))
  .refine gP 6 Y (ypq (i:=1) Y Y Y Y Y Y Y Xg) (zbq 9 Y ?_)
   (refine zhq rfl (zDq (ext:=[1]) (ws:=[.ptr 0 0]) Y Y Y Y Y (hBq (l.drop 72) false (xRd l 1) Yx Yx) Xg Xl Xi (yYq Qd (zaq (yWq _ _ _))) Y ?_);rintro w k j ⟨rfl,rfl,rfl⟩;rw[zZq (yWq _ _ _),YB])
   exact zeq 6 Y (gA 0 Y (2) (zbq 2 Y (u2q (2) Xg Xg (Zf _) ⟨rfl,trivial⟩ ⟨rfl,rfl,rfl,rfl,rfl,trivial⟩ Xh Xh Xd Xk Xt)))
  .refine gP 6 Y (ypq (i:=2) Y Y Y Y Y Y Y Xg) (zbq 9 Y ?_)
   (refine zhq rfl (zDq (ext:=[1]) (ws:=[.ptr 0 0]) Y Y Y Y Y (hBq (l.drop 80) false (xRd l 2) Yx Yx) Xg Xl Xi (yYq Qd (zaq (yWq _ _ _))) Y ?_);rintro w k j ⟨rfl,rfl,rfl⟩;rw[zZq (yWq _ _ _),YB])
   exact zeq 6 Y (gA 0 Y (3) (zbq 2 Y (u2q (3) Xg Xg (Zf _) ⟨rfl,trivial⟩ ⟨rfl,rfl,rfl,rfl,rfl,trivial⟩ Xh Xh Xd Xk Xt)))
 .obtain rfl:i=3:=by omega
  refine zbq 2 Y (qQq Xj (zRq 8 Y ?_))
  (refine zhq rfl (zDq (ext:=[1]) (ws:=[.ptr 0 0]) Y Y Y Y Y (hIq (l.drop 88) false (xRd l 3) Yx) Xg Xl Xi (yYq Qd (zaq (yWq _ _ _))) Y ?_);rintro w k j ⟨rfl,rfl,rfl⟩;rw[xpq (qeq _) (yWq _ _ _),zdq (qeq _)])
  refine zeq 13 Y ?_;skip
  skip
  by_cases m:(l7q l).sign=xHq (l7q l)
  .refine gC 0 Y (zrq (w':=.int .i64 0) (qRq (l7q l) (czq l)) (by rw[Zl m])) (gF 6 Y zN (zbq 16 Y (y0q Jr Y ?_)));rw[show aEq l=(l7q l,0) from Zl m];exact .tup (.cons (.pur (w:=txW (l7q l)) Xi) (.cons (.pur rfl) .nil))
  .refine gC 0 Y (zrq (w':=.int .i64 110) (qRq (l7q l) (czq l)) (by rw[Zg m])) (gT 6 Y (Zc not (eqI_not.2 Xg)) (zbq 13 Y (y0q Jr Y ?_)));rw[show aEq l=(tx0,110) from Zg m];exact .tup (.cons YEq (.cons (.pur rfl) .nil))
def rsW(l:List UInt8)(b:Bool):W:=.agg 2 [.fz (zcq l) 1 false,.bool b]
@[simp] theorem yjq(l:List UInt8)(b:Bool):aaq (rsW l b)=true:=by simp[rsW,aaq,acq]
def anq(l:List UInt8)(n:Nat):List UInt8:=if n<=l.length then l.take n else List.replicate n 0
def aVq(l:List UInt8)(n:Nat):List UInt8:=if n<=l.length then l.drop n else []
theorem qlq(l:List UInt8)(n:Nat):(anq l n).length=n:=by
 unfold anq;split
 .rw[Zu];omega
 .exact Z8
theorem YMq(l:List UInt8)(n:Nat):(aVq l n).length<=l.length:=by
 unfold aVq;split
 .rw[Zy];omega
 .exact Zf _
theorem Kbq(n:Nat):zcq (List.replicate n 0)=List.replicate n (.int .u8 (.ofNat 0)):=by
 unfold zcq;rw[List.map_replicate];rfl
section
variable {G:Nat->Option W}
theorem ZJq(l:List UInt8)(b:Bool)(n:Nat)(y:1<=n)(k:n<=1000)(x:l.length<=1000000):zUq cfg G 197 1 [.ptr 0 0,.int .i64 (n:Int)] [(0,259,rsW l b)] λw v q=>(∃g,w= .fz (zcq (anq l n)) 1 g)/\v=[(0,259,rsW (aVq l n) (b||decide (l.length<n)))]/\q=1:=by
 have e:(zcq l).length=l.length:=ztq l;intro R;by_cases h:n<=l.length
 .rw[show anq l n=l.take n from Zl h,show aVq l n=l.drop n from Zl h,Zw Xd,Bool.or_false];refine gIs 12 Y (λj=>?_);exact gZ 0 Y e (gF 1 Y (ltI_not.2 Xd) (gP 13 Y (lhq (ys:=zcq (l.take n)) (l:=0) (h:=n) (m:=n) (g:=true) Y Y Y Y Y Y Y Y (Zf _) (Zb _) Yk Xd (by rw[ZX,Y8,Jeq]) (Y0 _)) (gP 11 Y (Q1q (ys:=zcq (l.drop n)) (l:=n) (h:=(zcq l).length) (g:=false) Y Y Y Y Y Y Y Yk (Zb _) Jp rfl) (zbq 12 Y (fin Jr (zvq (nw2:=1) (fr2:=[(4,.fz (zcq (l.take n)) 1 true)]) (hp2:=[(0,259,rsW (l.drop n) b)]) Xg Xg ⟨rfl,trivial⟩ (koq ⟨zaq (by simp[aaq]),trivial⟩) (zoq ⟨⟨by decide,rfl,zaq (yjq _ _)⟩,trivial⟩) Xi) rfl ⟨rfl,⟨true,rfl⟩,rfl,rfl⟩)))))
 .rw[show anq l n=List.replicate n 0 from Zg h,show aVq l n=[] from Zg h,Zq Xd,Bool.or_true];have d:acq (List.replicate n (W.int .u8 (.ofNat 0)))=true:=by rw[<-Kbq];simp
  refine gIs 12 Y (λj=>?_);exact gZ 0 Y e (gT 1 Y (ltI_iff.2 Xd) (gM 18 Y (Zhq (l:=n) (c:=n) Y Y Y Y Y Y Y Y (Zb _) (by show 1*n<=_;omega) Xd Y Y) (zbq 5 Y (fin Jr ((Z8q 1 [(4,.fz (zcq (List.replicate n 0)) 1 false)] [(0,259,rsW [] true)] rfl (show aaq (.arr (n*1) 1 (List.replicate n (.int .u8 (.ofNat 0))))=true from d) Xg ⟨⟨_,rfl,by rw[Kbq];exact .sl (full:=false) (c:=.arr (n*1) 1 (List.replicate n (.int .u8 (.ofNat 0)))) rfl d (zqq Xg Xi rfl) Xj⟩,trivial⟩ ⟨⟨by decide,_,rfl,.agg (.cons .nilfz (.cons (.pur rfl) .nil))⟩,trivial⟩ Xi).trans (zvq (nw2:=1) (fr2:=[(4,.fz (zcq (List.replicate n 0)) 1 false)]) (hp2:=[(0,259,rsW [] true)]) Xg Xg ⟨rfl,trivial⟩ (koq ⟨zaq (by simp[aaq]),trivial⟩) (zoq ⟨⟨by decide,rfl,zaq (yjq _ _)⟩,trivial⟩) Xi)) rfl ⟨rfl,⟨false,rfl⟩,rfl,rfl⟩))))
end
structure Aq where
 (kind:Int) (tx:Tx) (key:Dig) (height:Int) (sub:Int)
def aqW(q:Aq):W:=.agg 134 [.int .u8 q.kind,txW q.tx,dW q.key,.int .i64 q.height,.int .i64 q.sub]
@[simp] theorem zLq(q:Aq):aaq (aqW q)=true:=by simp[aqW,aaq,acq]
inductive Prt where
 |height|sub|key|tx
def axq(a b:Nat):Prt->W
 |.height=>.iface 362 (.agg 3 [.ptr a 132,.int .i64 8,.int .i64 1073741824])
 |.sub=>.iface 362 (.agg 3 [.ptr a 133,.int .i64 4,.int .i64 1073741823])
 |.key=>.iface 355 (.agg 1 [.ptr a 100])
 |.tx=>.iface 352 (.agg 3 [.fn 193 [] [.ptr b 0],.fn 192 [] [.ptr b 0],.int .i64 120])
theorem YSq(c:Nat->Nat)(a b:Nat)(p:Prt):adq c (axq a b p)=axq (c a) (c b) p:=by cases p<;>rfl
theorem nfq{a b n:Nat}(d:a<n)(c:b<n)(p:Prt):agq n (axq a b p)=true:=by cases p<;>simp[axq,agq,asq,d,c]
theorem KGq(c:Nat->Nat)(a b:Nat):∀l:List Prt,yVq c (l.map (axq a b))=l.map (axq (c a) (c b))
 |[]=>rfl
 |p::l=>by
  show adq c (axq a b p)::yVq c (l.map (axq a b))=_;rw[YSq,KGq c a b l];rfl
theorem KHq{a b n:Nat}(d:a<n)(c:b<n):∀l:List Prt,asq n (l.map (axq a b))=true
 |[]=>rfl
 |p::l=>by
  show(agq n (axq a b p)&&asq n (l.map (axq a b)))=true;rw[nfq d c p,KHq d c l];rfl
section
variable {G:Nat->Option W}
theorem wvq(w:W)(b:aaq w=true):PS cfg G 195 [.fel w] (.iface 362 (.agg 3 [.fel w,.int .i64 8,.int .i64 1073741824])):=by
 exact gI 14 Y (λR d=>gQa 0 Y)
theorem wwq(q:Aq):zUq cfg G 195 1 [.ptr 0 132] [(0,94,aqW q)] λw b a=>w=axq 0 0 .height/\b=[(0,94,aqW q)]/\a=1:=by
 intro R;refine gIs 14 Y (λc=>?_);exact fin Jr (zvq (nw2:=1) (fr2:=[(2,axq 0 0 .height)]) (hp2:=[(0,94,aqW q)]) Xg Xg ⟨rfl,trivial⟩ rfl (zoq ⟨⟨by decide,rfl,zaq (zLq _)⟩,trivial⟩) Xi) rfl ⟨rfl,rfl,rfl,rfl⟩
theorem o9q(q:Aq):zUq cfg G 196 1 [.ptr 0 133] [(0,94,aqW q)] λw c a=>w=axq 0 0 .sub/\c=[(0,94,aqW q)]/\a=1:=by
 intro R;refine gIs 14 Y (λd=>?_);exact fin Jr (zvq (nw2:=1) (fr2:=[(2,axq 0 0 .sub)]) (hp2:=[(0,94,aqW q)]) Xg Xg ⟨rfl,trivial⟩ rfl (zoq ⟨⟨by decide,rfl,zaq (zLq _)⟩,trivial⟩) Xi) rfl ⟨rfl,rfl,rfl,rfl⟩
end
end
section
variable {C:Cfg} {G:Nat->Option W} {m k0:Nat} {fr fr2:FrW} {hp hp2:HpW} {nw nw2:Nat} {R:Res}
theorem upq(c:Nat->Nat):∀(a b:HpW),ahq c (a++b)=ahq c a++ahq c b
 |[],b=>rfl
 |(k,ty,w)::a,b=>by
  show(c k,ty,adq c w)::ahq c (a++b)=_;rw[upq c a b];rfl
theorem yPq{b:Nat}:∀{P:HpW},(∀p∈P,p.1≠b) ->hget P b=none
 |[],_=>rfl
 |(c,y)::P,h=>by
  rw[zfq,Zg λe=>h (c,y) (ZV ..) e];exact yPq λp hp=>h p (ZS _ hp)
theorem qoq{b:Nat}{Q:HpW}:∀{P:HpW},hget (P++Q) b=(hget P b).orElse λ_=>hget Q b
 |[]=>by simp[hget]
 |(c,y)::P=>by
  rw[YW,zfq,zfq];split
  .rfl
  .exact qoq
end
section
attribute [local irreducible] CoW OpW FlW aeq ajq
variable {G:Nat->Option W}
theorem cCq(t:Tree)(k:t.nodes.length<=1000000000)(m:∀x∈t.nodes,x.val.length<=70368744177664):PS cfg G 92 [tW t] (tW t):=λR=>
 ukq (yRq (phq t.nodes t.root k m) (Q:=λw d _=>View (amq d) w (tW t)) (λw d q h=>by
  rcases h with ⟨j,rfl,rfl,rfl⟩|⟨rfl,rfl,rfl⟩
  .refine .agg (.cons ?_ (.cons (.pur rfl) .nil));rw[j];exact .nilfz
  .exact cyq (b:=2) (ns:=t.nodes) (root:=t.root) rfl) R)
structure Depo where
 number:Nat
 to:Dig
 amount:Nat
def pdW(d:Depo):W:=.agg 34 [.int .u64 (d.number:Int),dW d.to,.int .u64 (d.amount:Int)]
@[simp] theorem c6q(d:Depo):aaq (pdW d)=true:=by simp[pdW]
def C1q(f:T)(d:Depo):Prop:=18446744073709551616<=(yBq f d.to).balance+d.amount
instance(a:T)(d:Depo):Decidable (C1q a d):=inferInstanceAs (Decidable (_<=_))
end
section
attribute [local irreducible] CoW OpW FlW aeq ajq
def acL(l:List Pr)(k:Dig):Acct:=match dtq l k with
 |some v=>(kYq v).1
 |none=>.zero
def sKq(l:List Pr)(k:Dig)(c:Nat):Option (List Pr):=if (acL l k).balance+c<18446744073709551616 then some (CKq l k ⟨(acL l k).nonce,(acL l k).balance+c⟩) else none
def nzq(l:List Pr)(x:Tx):List Pr:=CKq l (akq x.pub) ⟨(acL l (akq x.pub)).nonce+1,(acL l (akq x.pub)).balance⟩
def Ddq(l:List Pr)(x:Tx):List Pr:=CKq (nzq l x) (akq x.pub) ⟨(acL l (akq x.pub)).nonce+1,(acL l (akq x.pub)).balance-(x.amount+x.fee)⟩
def Alq(l:List Pr)(x:Tx)(d:Dig):List Pr×Nat:=if x.amount+x.fee<=(acL l (akq x.pub)).balance then(match sKq (Ddq l x) x.to x.amount with
  |none=>(nzq l x,151)
  |some p=>match sKq p d x.fee with
   |none=>(nzq l x,151)
   |some q=>(q,0)) else(nzq l x,150)
end
def gvL(l:List Pr)(d:Depo):List Pr×Nat:=match sKq l d.to d.amount with
 |some q=>(q,0)
 |none=>(l,151)
structure Rec where
 kind:UInt8
 id:Dig
 code:Nat
def depD(d:Depo):Dig:=cLq 9 [beB 8 d.number++d.to.1++beB 8 d.amount]
def idD(x:Tx):Dig:=cLq 5 [x7q x++x.sign.1]
def doD:List Pr->List Depo->List Pr×List Rec
 |l,[]=>(l,[])
 |l,d::ds=>((doD (gvL l d).1 ds).1,⟨1,depD d,(gvL l d).2⟩::(doD (gvL l d).1 ds).2)
def goX(l:List Pr)(x:Tx):Prop:=x.sign=xHq x/\x.nonce=(acL l (akq x.pub)).nonce/\x.nonce<18446744073709551615
instance(l:List Pr)(x:Tx):Decidable (goX l x):=Classical.propDecidable _
def doX(a:Dig):List Pr->List Tx->Option (List Pr×List Rec)
 |l,[]=>some (l,[])
 |l,x::xs=>if goX l x then(match doX a (Alq l x a).1 xs with
   |some r=>some (r.1,⟨2,idD x,(Alq l x a).2⟩::r.2)
   |none=>none) else none
end
section
open Go.Shelf Go.RowKit Go.Lib
def sYq:Go.Shelf.Ren:=⟨fun|14=>280|15=>294|n=>n,fun|26=>27|22=>70|3=>3|4=>4|0=>0|9=>9|20=>20|5=>5|n=>n,fun|n=>n⟩
theorem nYq:Go.Proofs.SlLaysJ.n14 Tryz.prog sYq:={
 mixed:=by kernel_rfl
 f14:=Tryz.func280.trans (Zc some Xp)
 f15:=Tryz.func294.trans (Zc some Xp)
 t0:=Tryz.underlying0
 a0:=Tryz.isAgg0
 z0:=Tryz.sizeOf0
 v0:=Tryz.zeroValue0
 t3:=Tryz.underlying3
 a3:=Tryz.isAgg3
 z3:=Tryz.sizeOf3
 v3:=Tryz.zeroValue3
 t4:=Tryz.underlying4
 a4:=Tryz.isAgg4
 z4:=Tryz.sizeOf4
 v4:=Tryz.zeroValue4
 t9:=Tryz.underlying9
 a9:=Tryz.isAgg9
 z9:=Tryz.sizeOf9
 v9:=Tryz.zeroValue9
 t20:=Tryz.underlying20
 a20:=Tryz.isAgg20
 z20:=Tryz.sizeOf20
 v20:=Tryz.zeroValue20
 t22:=Tryz.underlying70
 a22:=Tryz.isAgg70
 z22:=Tryz.sizeOf70
 v22:=Tryz.zeroValue70
 t26:=Tryz.underlying27
 a26:=Tryz.isAgg27
 z26:=Tryz.sizeOf27
 v26:=Tryz.zeroValue27
 t5:=Tryz.underlying5
 z5:=Tryz.sizeOf5
 i5:=by kernel_rfl}
theorem nXq(b o n c:Nat)(p:List Value)(g:List (List UInt8))(k:Value)(a:List UInt8)(w:World)(z:g.length=n)(x:2<=n)(v:Lib.PartsAt w ⟨b,o,none⟩ p g)(h:n<=c)(y:Lib.HoldsBytes w k a)(j:n<=140737488355328)(f:Lib.lens g+a.length*(n-1)<=140737488355328):
  Calls Tryz.prog 280 #[.slice (some ⟨b,o,none⟩) n c,k] w λe m=>∃q,e= .returned q/\Lib.FreshBytes w.heap.size m q (Lib.join g a)/\Below w.heap.size w m:=Any.bytes_Join_many nYq b o n c p g k a w z x v h y j f
end
end
end Go.Proofs.YtcoldbcijgmidaaGreatDoor

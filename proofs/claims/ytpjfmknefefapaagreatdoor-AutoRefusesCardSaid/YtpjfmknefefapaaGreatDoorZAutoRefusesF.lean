/-
  What the proof of AutoRefuses stands on, part 6. No condition.
-/
import Derived.Ground.SlbNamesProg
import Derived.Shelf.Bytes.SlJoin
import Derived.Test.YtpjfmknefefapaaGreatDoorProg
import Derived.Deep.LoopGhost
import Derived.Deep.RegionLaw
import Derived.Test.YtpjfmknefefapaaGreatDoorZAutoRefusesE
set_option maxRecDepth 100000
set_option linter.unusedSimpArgs false
set_option linter.unusedVariables false
namespace Go.Proofs.YtpjfmknefefapaaGreatDoor
@[irreducible] def bitN(k:Dig)(i:Nat):Nat:=kn k (i/8)/2^(7-i%8)%2
theorem Qbq(k:Dig)(i:Nat):bitN k i<=1:=by unfold bitN;omega
theorem dsq(m n:Nat)(hm:m<=255)(hn:n<=255):m^^^n<=255:=by
 have:m^^^n<2^8:=Nat.xor_lt_two_pow Xd Xd;omega
theorem n7q(n:Nat):2^(7-n)<=255:=by
 have h:∀m,m<=7->2^m<=255:=by decide
 exact h _ Xd
@[irreducible] def jRq(k:Dig)(i:Nat):Dig:=teq k (i/8) (UInt8.ofNat (kn k (i/8)^^^2^(7-i%8)))
@[irreducible] def lenM(x:Nat):Nat:=if x=0 then 0 else Nat.log2 x+1
theorem cPq(x:Nat)(hx:x<=255):lenM x<=8:=by
 have h:∀x,x<=255->lenM x<=8:=by decide+kernel
 exact h x hx
def dOf(a b:Dig)(i:Nat):Nat×Nat:=(i,kn a i^^^kn b i)
@[irreducible] def dTo(a b:Dig)(n:Nat):List (Nat×Nat):=((List.range n).map (dOf a b)).filter (λp=>p.2 !=0)
theorem ncq(a b:Dig):dTo a b 0=[]:=by unfold dTo;rfl
theorem vwq(a b:Dig)(n:Nat):dTo a b (n+1)=dTo a b n++(if kn a n^^^kn b n=0 then [] else [dOf a b n]):=by
 unfold dTo;rw[List.range_succ,Z5,List.filter_append];congr 1
 simp only[ZC,List.map_nil,List.filter_cons,List.filter_nil,dOf];split<;>split<;>simp_all
theorem rWq(a b:Dig)(n m:Nat):dTo a b n<+:dTo a b (n+m):=by
 induction m with
 |zero=>exact List.prefix_refl _
 |succ m ih=>rw[<-ZK,vwq];exact ih.trans (List.prefix_append _ _)
theorem iaq(a b:Dig)(i n:Nat)(hi:i<n)(hx:kn a i^^^kn b i≠0):(dTo a b n)[(dTo a b i).length]? =some (dOf a b i):=by
 obtain⟨m,rfl⟩:∃m,n=(i+1)+m:=⟨n-(i+1),by omega⟩
 obtain⟨l,hl⟩:=rWq a b (i+1) m;rw[<-hl,vwq,Zg hx];simp
theorem h9q{a b:Dig}{n:Nat}{x:Nat×Nat}(h:x∈dTo a b n):x.1<n/\x.2=kn a x.1^^^kn b x.1/\x.2≠0:=by
 unfold dTo at h;rw[List.mem_filter,Z1] at h;obtain⟨⟨i,hi,rfl⟩,h2⟩:=h;exact⟨List.mem_range.1 hi,rfl,by simpa using h2⟩
@[irreducible] def yBq(a b:Dig):Nat:=match dTo a b 32 with
 |[]=>256
 |x::_=>8*x.1+(8-lenM x.2)
@[irreducible] def yKq(a b:Dig):Bool:=match dTo a b 32 with
 |[]=>false
 |x::_=>decide (kn a x.1<kn b x.1)
theorem nuq:∀x,x<256->x≠0->lenM x<=8/\1<=lenM x/\x.testBit (lenM x-1)=true/\∀k,k<8->lenM x-1<k->x.testBit k=false:=by decide+kernel
theorem qSq(m k:Nat):m/2^k%2=(m.testBit k).toNat:=by rw[Nat.toNat_testBit]
theorem obq{m n L:Nat}(h:∀k,L<k->m.testBit k=n.testBit k)(hm:m.testBit L=false)(hn:n.testBit L=true):m<n:=by
 have h1:m/2^(L+1)=n/2^(L+1):=by
  apply Nat.eq_of_testBit_eq;intro i;rw[Nat.testBit_div_two_pow,Nat.testBit_div_two_pow];exact h _ Xd
 have e:∀x,x/2^(L+1)=x/2^L/2:=λx=>by rw[Nat.pow_succ,Nat.div_div_eq_div_mul]
 have hm':m/2^L%2=0:=by rw[qSq,hm];rfl
 have hn':n/2^L%2=1:=by rw[qSq,hn];rfl
 rw[e,e] at h1;have:m/2^L<n/2^L:=by omega
 exact Nat.lt_of_not_le λhc=>by have:=Nat.div_le_div_right (c:=2^L) hc;omega
theorem Kgq(m n:Nat)(hm:m<=255)(hn:n<=255)(hx:m^^^n≠0):
  1<=lenM (m^^^n)/\lenM (m^^^n)<=8/\(∀t,t<8-lenM (m^^^n) ->m/2^(7-t)%2=n/2^(7-t)%2)/\
   ¬m/2^(lenM (m^^^n) -1)%2=n/2^(lenM (m^^^n) -1)%2/\(m<n↔m/2^(lenM (m^^^n) -1)%2<n/2^(lenM (m^^^n) -1)%2):=by
 have hle:=dsq m n hm hn;obtain⟨h1,h2,h3,h4⟩:=nuq (m^^^n) Xd hx
 have hab:∀k,lenM (m^^^n) -1<k->m.testBit k=n.testBit k:=λk hk=>by
  by_cases hk8:k<8
  .have:=h4 k hk8 hk;rw[Nat.testBit_xor] at this;revert this;cases m.testBit k<;>cases n.testBit k<;>simp
  .have e1:m<2^k:=Zw (show m<2^8 by omega) (Y6 Xd Xd);have e2:n<2^k:=Zw (show n<2^8 by omega) (Y6 Xd Xd);rw[Nat.testBit_lt_two_pow e1,Nat.testBit_lt_two_pow e2]
 rw[Nat.testBit_xor] at h3;refine⟨h2,h1,λt ht=>?_,?_,?_⟩
 .rw[qSq,qSq,hab _ Xd]
 .rw[qSq,qSq];revert h3;cases m.testBit (lenM (m^^^n) -1)<;>cases n.testBit (lenM (m^^^n) -1)<;>simp
 .rw[qSq,qSq];cases hmb:m.testBit (lenM (m^^^n) -1)<;>cases hnb:n.testBit (lenM (m^^^n) -1)<;>simp only[hmb,hnb] at h3
  .simp at h3
  .have:=obq hab hmb hnb;simp[this]
  .have:=obq (λk hk=>(hab k hk).symm) hnb hmb;simp;omega
  .simp at h3
theorem xor_zero{m n:Nat}:m^^^n=0↔m=n:=by
 constructor
 .intro h;apply Nat.eq_of_testBit_eq;intro i;have:(m^^^n).testBit i=false:=by rw[h];simp
  rw[Nat.testBit_xor] at this;revert this;cases m.testBit i<;>cases n.testBit i<;>simp
 .rintro rfl;exact Nat.xor_self m
theorem dhq{a b:Dig}{n:Nat}(h:dTo a b n=[]):∀i,i<n->kn a i=kn b i:=λi hi=>by
 rcases Classical.em (kn a i^^^kn b i=0) with hx|hx
 .exact xor_zero.1 hx
 .have:=iaq a b i n hi hx;rw[h] at this;simp at this
theorem vxq{a b:Dig}{x:Nat×Nat}{l:List (Nat×Nat)}:∀{n:Nat},dTo a b n=x::l->x.1<n/\x.2=kn a x.1^^^kn b x.1/\x.2≠0/\∀i,i<x.1->kn a i=kn b i:=by
 intro n h;obtain⟨h1,h2,h3⟩:=h9q (a:=a) (b:=b) (n:=n) (x:=x) (by rw[h];simp);refine⟨h1,h2,h3,?_⟩;revert l
 induction n with
 |zero=>omega
 |succ n ih=>
  intro l h;rw[vwq] at h;cases hd:dTo a b n with
  |nil=>
   have:=dhq hd;intro i hi;exact this i Xd
  |cons y r=>
   rw[hd] at h;have hy:y=x:=by simpa using Ze List.head? h
   subst hy;have hm:=(h9q (a:=a) (b:=b) (n:=n) (x:=y) (by rw[hd];simp)).1;exact ih hm hd
def Kqq(a b:Dig)(s:Nat):Prop:=(∀j,j<s->bitN a j=bitN b j)/\(s=256\/(s<256/\¬bitN a s=bitN b s))
theorem u4q(a b:Dig):Kqq a b (yBq a b):=by
 unfold yBq;cases hd:dTo a b 32 with
 |nil=>
  have h:=dhq hd;exact⟨λj hj=>by simp only at hj;unfold bitN;rw[h (j/8) Xd],.inl rfl⟩
 |cons x l=>
  obtain⟨h1,h2,h3,h4⟩:=vxq hd;simp only;have hb:=Kgq (kn a x.1) (kn b x.1) (vlq _ _) (vlq _ _) (by rw[<-h2];exact h3);rw[<-h2] at hb;obtain⟨b1,b2,b3,b4,-⟩:=hb;refine⟨λj hj=>?_,.inr ⟨by omega,?_⟩⟩
  .unfold bitN;by_cases hjx:j/8<x.1
   .rw[h4 _ hjx]
   .have e:j/8=x.1:=by omega
    rw[e];exact b3 (j%8) Xd
  .unfold bitN;rw[show(8*x.1+(8-lenM x.2))/8=x.1 by omega,show 7-(8*x.1+(8-lenM x.2))%8=lenM x.2-1 by omega];exact b4
theorem czq{a b:Dig}{s t:Nat}(hs:Kqq a b s)(ht:Kqq a b t):s=t:=by
 obtain⟨s1,s2⟩:=hs;obtain⟨t1,t2⟩:=ht;rcases Nat.lt_trichotomy s t with h|h|h
 .have:=t1 s h;rcases s2 with s2|⟨_,s2⟩
  .omega
  .exact absurd this s2
 .exact h
 .have:=s1 t h;rcases t2 with t2|⟨_,t2⟩
  .omega
  .exact absurd this t2
theorem nCq(a b:Dig):yKq a b=decide (yBq a b<256/\bitN a (yBq a b)<bitN b (yBq a b)):=by
 unfold yKq yBq;cases hd:dTo a b 32 with
 |nil=>simp
 |cons x l=>
  obtain⟨h1,h2,h3,h4⟩:=vxq hd;simp only;have hb:=Kgq (kn a x.1) (kn b x.1) (vlq _ _) (vlq _ _) (by rw[<-h2];exact h3);rw[<-h2] at hb;obtain⟨b1,b2,b3,b4,b5⟩:=hb;refine Z9.2 ?_;unfold bitN;rw[show(8*x.1+(8-lenM x.2))/8=x.1 by omega,show 7-(8*x.1+(8-lenM x.2))%8=lenM x.2-1 by omega,b5];constructor
  .exact λh=>⟨by omega,h⟩
  .exact λh=>h.2
theorem mgq(n:Nat)(h:n<=255):(UInt8.ofNat n).toNat=n:=by simp;omega
theorem hrq(k:Dig)(i j:Nat)(hj:j<32)(hi:i<256):kn (jRq k i) j=if j=i/8 then kn k j^^^2^(7-i%8) else kn k j:=by
 unfold jRq;rw[t5q _ _ _ _ hj];by_cases h:i/8=j
 .rw[Zt h,Zt h.symm,h,mgq];exact dsq _ _ (vlq _ _) (n7q _)
 .rw[Zg h,Zg (λe=>h e.symm)]
theorem Qaq(k:Dig)(i j:Nat)(hi:i<256)(hj:j<256)(h:¬j=i):bitN (jRq k i) j=bitN k j:=by
 unfold bitN;rw[hrq _ _ _ Xd hi];by_cases h8:j/8=i/8
 .rw[Zt h8,qSq,qSq,Nat.testBit_xor,Nat.testBit_two_pow_of_ne Xd];simp
 .rw[Zg h8]
theorem dnq(k:Dig)(i:Nat)(hi:i<256):bitN (jRq k i) i=1-bitN k i:=by
 unfold bitN;rw[hrq _ _ _ Xd hi,Zt rfl,qSq,qSq,Nat.testBit_xor,Nat.testBit_two_pow_self];cases (kn k (i/8)).testBit (7-i%8)<;>rfl
theorem shared_eq{a b:Dig}:yBq a b=256↔a=b:=by
 constructor
 .intro h;cases hd:dTo a b 32 with
  |nil=>exact rTq (dhq hd)
  |cons x l=>
   exfalso
   obtain⟨h1,h2,h3,h4⟩:=vxq hd;have hb:=Kgq (kn a x.1) (kn b x.1) (vlq _ _) (vlq _ _) (by rw[<-h2];exact h3);rw[<-h2] at hb;unfold yBq at h;rw[hd] at h;simp only at h;omega
 .rintro rfl;rcases(u4q a a).2 with h|⟨_,h⟩
  .exact h
  .exact absurd rfl h
theorem xGq{a b:Dig}{d:Nat}(hd:d<=256):d<=yBq a b↔∀j,j<d->bitN a j=bitN b j:=by
 obtain⟨h1,h2⟩:=u4q a b;constructor
 .exact λh j hj=>h1 j Xd
 .intro h;rcases h2 with h2|⟨h2,h3⟩
  .omega
  .exact Nat.le_of_not_lt λhlt=>h3 (h _ hlt)
theorem ahead_iff{a b:Dig}:yKq a b=true↔∃s,s<256/\(∀j,j<s->bitN a j=bitN b j)/\bitN a s=0/\bitN b s=1:=by
 rw[nCq];have hs:=u4q a b;constructor
 .intro h;have h:=YN h;refine⟨yBq a b,h.1,hs.1,?_,?_⟩<;>(have:=Qbq b (yBq a b);omega)
 .rintro⟨s,h1,h2,h3,h4⟩;have:yBq a b=s:=czq hs ⟨h2,.inr ⟨h1,by omega⟩⟩;rw[this];exact Zn ⟨h1,by omega⟩
theorem ujq{a b:Dig}(h:yKq a b=true):a≠b:=by
 rintro rfl;obtain⟨s,_,_,h3,h4⟩:=ahead_iff.1 h;omega
theorem fzq(a:Dig):yKq a a=false:=by
 cases h:yKq a a with
 |false=>rfl
 |true=>exact absurd rfl (ujq h)
theorem Qdq{a b c:Dig}(h1:yKq a b=true)(h2:yKq b c=true):yKq a c=true:=by
 obtain⟨s,a1,a2,a3,a4⟩:=ahead_iff.1 h1;obtain⟨t,b1,b2,b3,b4⟩:=ahead_iff.1 h2;refine ahead_iff.2 ?_;rcases Nat.lt_trichotomy s t with h|h|h
 .exact⟨s,a1,λj hj=>(a2 j hj).trans (b2 j Xd),a3,by rw[<-b2 s h];exact a4⟩
 .subst h;omega
 .exact⟨t,b1,λj hj=>(a2 j Xd).trans (b2 j hj),by rw[a2 t h];exact b3,b4⟩
theorem Qeq{a b:Dig}(h:a≠b):yKq a b=true\/yKq b a=true:=by
 have hs:=u4q a b;have h256:yBq a b≠256:=λe=>h (shared_eq.1 e)
 rcases hs.2 with h2|⟨h1,h2⟩
 .exact absurd h2 h256
 .have x1:=Qbq a (yBq a b);have x2:=Qbq b (yBq a b);rcases YS (bitN a (yBq a b)) with h3|h3
  .exact .inl (ahead_iff.2 ⟨_,h1,hs.1,h3,by omega⟩)
  .exact .inr (ahead_iff.2 ⟨_,h1,λj hj=>(hs.1 j hj).symm,by omega,by omega⟩)
section
open Go.RowKit
set_option maxRecDepth 100000
section
attribute [local irreducible] CoW OpW FlW aeq aiq
variable {G:Nat->Option W}
theorem dxq(a b:Nat):((a:Int)).tdiv (b:Int)=((a/b:Nat):Int):=by rw[Int.tdiv_eq_ediv_of_nonneg Xd];rfl
theorem Jmq(a b:Nat):((a:Int)).tmod (b:Int)=((a%b:Nat):Int):=by rw[Int.tmod_eq_emod_of_nonneg Xd];rfl
theorem h8q(k:Dig){i:Nat}(h:i<32):zYq 50 (dW k) (0+i*1) 1 false=some (.int .u8 (kn k i:Nat)):=by rw[ZN];exact bXq k h
theorem shq(x n:Nat)(hn:n<=7)(hx:x<=255):Nat.land (Nat.shiftRight x (min n 8)%256) (1%256)=x/2^n%2:=by
 have h1:Nat.shiftRight x (min n 8)=x/2^n:=by rw[show min n 8=n by omega];exact Nat.shiftRight_eq_div_pow x n
 have h2:=Nat.div_le_self x (2^n);rw[h1,YV Xd];exact Nat.and_one_is_mod _
theorem w0q(k:Dig)(i:Nat)(h:i<256):PS cfg G 223 [dW k,.int .i64 (i:Int)] (.tup [.int .u8 (bitN k i:Nat),.int .i64 0]):=by
 have hk:=vlq k (i/8);refine gI 11 Y (λR k0=>?_);refine gD 0 Y (λh1=>?_) (λh1=>?_)
 .exfalso;omega
 refine gU 2 Y ?_;refine gS 3 Y (λh2=>?_) (λh2=>?_)
 .exfalso;omega
 refine gA 5 Y (i/8) (e:=(dxq i 8)) (gP 0 Y (ksq (i:=i/8) Y Y Y Y Y Y Xd) (gM 0 Y (z7q Y Y Y (h8q k Xd)) (gV 1 Y (Ze (W.int .i64) (Jmq i 8)) (gA 0 Y (7-i%8) (gQ 7 Y ?_)))));show W.tup [.int .u8 (Nat.land (Nat.shiftRight (kn k (i/8)) (min (7-i%8) 8)%256) (1%256):Nat),_]=_;rw[shq _ _ Xd hk];unfold bitN;rfl
theorem msq(s:List UInt8)(h:(List.range 256).all (λx=>s[x]? ==some (UInt8.ofNat (lenM x)))=true)(x:Nat)(hx:x<=255):s[x]? =some (UInt8.ofNat (lenM x)):=by
 have:=List.all_eq_true.1 h x (List.mem_range.2 Xd);simpa using this
theorem t3q(x:Nat)(hx:x<=255):PS cfg G 271 [.int .u8 (x:Int)] (.int .i64 (lenM x:Nat)):=by
 have hl:=cPq x hx;have e:((UInt8.ofNat (lenM x)).toNat:Int)=(lenM x:Nat):=by congr 1;simp;omega
 exact gI 8 Y (λR k0=>gP 0 Y (vTq Y Y Y Y Y (msq _ (by decide+kernel) x hx)) (gA 0 Y (lenM x) (e:=e) (gQa 4 Y)))
theorem A4q(x:Nat)(hx:x<=255):PS cfg G 254 [.int .u8 (x:Int)] (.int .i64 (8-lenM x:Nat)):=by
 have hl:=cPq x hx;exact gI 8 Y (λR k0=>gC 0 Y (t3q _ Xd) (gA 0 Y (8-lenM x) (gQa 4 Y)))
noncomputable def sMq(x:Nat×Nat):List W:=[.int .i64 (x.1:Int),.int .u8 (x.2:Int)]
theorem nfq(a b:Dig){i:Nat}(h:i<32)(hx:kn a i^^^kn b i≠0):(dTo a b 32).drop (dTo a b i).length=dOf a b i::(dTo a b 32).drop (dTo a b (i+1)).length:=by
 have h1:=iaq a b i 32 h hx;obtain⟨hl,h2⟩:=Zq.1 h1;have hs:=vwq a b i;rw[Zg hx] at hs;rw[List.drop_eq_getElem_cons hl,h2,hs];simp
theorem ndq(a b:Dig){i:Nat}(hx:kn a i^^^kn b i=0):dTo a b (i+1)=dTo a b i:=by rw[vwq,Zt hx,ZU]
theorem BHq(x y:Nat)(hx:x<=255)(hy:y<=255):Nat.xor (x%256) (y%256)=x^^^y:=by rw[YV Xd,YV Xd];rfl
theorem iKq(a b:Dig):PS cfg G 192 [dW a,dW b] (.fn 231 [] [.fel (dW a),.fel (dW b)]):=by
 refine gI 14 Y (λR k0=>?_);refine yUq (fr2:=[(4,_)]) Xq ?_ Y Y
 (repeat (first|exact trivial|refine And.symm ⟨?_,_,rfl,?_⟩))<;>(repeat (first|exact .nil|refine .cons ?_ ?_|refine .fn ?_ ?_|(refine yYq Y ?_ rfl;(first|rfl|(focus (simp;done))))|(refine .sl Y ?_ rfl Xk;(first|rfl|(focus (simp;done))))|(refine .pur ?_;(first|rfl|(focus (simp;done))))|refine .agg ?_|refine .arr ?_|refine .tup ?_))
theorem eKq(a b:Dig):qAq cfg G 231 [.fel (dW a),.fel (dW b)] ((dTo a b 32).map sMq):=by
 refine xOq (fn:=Tryz.f231) Y Y Y (Yb rfl) (λL E R hy k0=>?_);refine ZXq 3 (zEq 9 Y ?_);refine exq (α:=Nat×Res) (λp=>p.1<=32/\Yl cfg G L E (((dTo a b 32).drop (dTo a b p.1).length).map sMq) p.2) (λp=>[(6,.int .i64 (p.1:Int))]) [(0,_),(1,_),(2,_)] (λp=>[]) (λp=>p.2) (λp=>32-p.1) ((0,R)) ⟨rfl,rfl,rfl,trivial⟩ (⟨Zi _,by rw[ncq];exact hy⟩) ⟨rfl,trivial⟩ Y Y (λp hI=>?_);obtain⟨i,R⟩:=p;obtain⟨hi,hy⟩:=hI;simp only at hi hy;have ha:=vlq a i;have hb:=vlq b i;refine zEq 6 Y ?_;refine gS 0 Y (λh1=>?_) (λh1=>?_)
 .have hi':i<32:=by omega
  refine gP 13 Y (hxq Y Y Y Y Y Y Xd rfl (bXq a hi')) (gP 2 Y (hxq Y Y Y Y Y Y Xd rfl (bXq b hi')) (gV (w':=.int .u8 ((kn a i^^^kn b i:Nat):Int)) 1 Y (Ze (λn:Nat=>W.int .u8 (n:Int)) (BHq _ _ ha hb)) ?_));refine gD 6 Y (λh2=>?_) (λh2=>?_)
  .have hx:kn a i^^^kn b i≠0:=by omega
   rw[nfq a b hi' hx,ZC] at hy;refine gSo 4 Y (q1q Y Y Y (hy) (λb R1 hb=>?_));refine gS 4 Y (λh3=>?_) (λh3=>?_)
   .cases b with
    |true=>cases h3
    |false=>
     exact zPq 3 Y (qUq Xk (z0q 1 Y (xdq Yq (kuq (.inl rfl) rfl hb))))
   .cases b with
    |false=>exact absurd rfl h3
    |true=>
     exact zPq 4 Y (gA 0 Y (i+1) (zcq 2 Y (Jxq ((i+1,R1)) (⟨hi',hb⟩) Xw (Zi _) ⟨rfl,trivial⟩ ⟨rfl,rfl,rfl,trivial⟩ Xh Xh Xd Xj Xx rfl)))
  .have hx:kn a i^^^kn b i=0:=by omega
   rw[<-ndq a b hx] at hy;exact gA 14 Y (i+1) (zcq 2 Y (Jxq ((i+1,R)) (⟨hi',hy⟩) Xw (Zi _) ⟨rfl,trivial⟩ ⟨rfl,rfl,rfl,trivial⟩ Xh Xh Xd Xj Xx rfl))
 .refine zcq 2 Y (qUq Xk (z0q 1 Y (xdq Yq ?_)));have:i=32:=by omega
  subst this;rw[List.drop_length] at hy;exact kuq (.inl rfl) rfl hy
theorem h3q{l:List (Nat×Nat)}:∀y∈l,acq (sMq y)=true/\(sMq y).length=2:=λy _=>⟨rfl,rfl⟩
theorem hAq{α:Type}{l:List α}{x:α}{i:Nat}(h:l[i]? =some x)(hi:i=0):∃r,l=x::r:=by
 subst hi;cases l with
 |nil=>simp at h
 |cons y r=>simp at h;subst h;exact⟨r,rfl⟩
theorem lIq(a b:Dig):PS cfg G 221 [dW a,dW b] (.int .i64 (yBq a b:Nat)):=by
 refine gI 12 Y (λR k0=>gC 0 Y (iKq _ _) (zcq 3 Y ?_));refine Y0q (sMq) (dTo a b 32) (λi=>i=0) rfl Xn (eKq a b) (h3q) (rfl) (λi y hy hI=>?_) (λhI=>?_)
 .obtain⟨r,hr⟩:=hAq hy hI;obtain⟨h1,h2,h3,h4⟩:=vxq hr;have hb:=dsq _ _ (vlq a y.1) (vlq b y.1);rw[<-h2] at hb;have hl:=cPq y.2 hb;refine zEq 8 Y (Qnq (zEq 4 Y (gA 0 Y (8*y.1) (gC 1 Y (A4q _ Xd) (gA 0 Y (8*y.1+(8-lenM y.2)) (zcq 5 Y (jMq Xk (z0q 2 Y (gQ 0 Y ?_)))))))));unfold yBq;rw[hr]
 .have:dTo a b 32=[]:=List.eq_nil_of_length_eq_zero hI;refine z0q 8 Y (gQ 0 Y ?_);unfold yBq;rw[this];rfl
theorem Kjq(a b:Dig):PS cfg G 125 [dW a,dW b] (.bool (yKq a b)):=by
 refine gI 12 Y (λR k0=>gC 0 Y (iKq _ _) (zcq 3 Y ?_));refine Y0q (sMq) (dTo a b 32) (λi=>i=0) rfl Xn (eKq a b) (h3q) (rfl) (λi y hy hI=>?_) (λhI=>?_)
 .obtain⟨r,hr⟩:=hAq hy hI;obtain⟨h1,h2,h3,h4⟩:=vxq hr;refine zEq 3 Y (Qnq (zEq 4 Y (gP 0 Y (ksq (i:=y.1) Y Y Y Y Y Y h1) (gM 0 Y (z7q Y Y Y (h8q a h1)) (gP 1 Y (ksq (i:=y.1) Y Y Y Y Y Y h1) (gM 0 Y (z7q Y Y Y (h8q b h1)) (gU 0 Y (zcq 5 Y (jMq Xk (z0q 2 Y (gQ 0 Y ?_)))))))))));unfold yKq;rw[hr];congr 1
  simp
 .have:dTo a b 32=[]:=List.eq_nil_of_length_eq_zero hI;refine z0q 8 Y (gQ 0 Y ?_);unfold yKq;rw[this]
theorem shr8(n:Nat)(hn:n<=7):Nat.shiftRight 128 (min n 8)=2^(7-n):=by
 have h:∀n,n<=7->Nat.shiftRight 128 (min n 8)=2^(7-n):=by decide+kernel
 exact h n hn
theorem o4q(k:Dig)(i:Nat)(h:i<256):PS cfg G 222 [dW k,.int .i64 (i:Int)] (.tup [dW (jRq k i),.int .i64 0]):=by
 have hk:=vlq k (i/8);have hp:=n7q (i%8);have hx:=dsq _ _ hk hp
 have e1:Nat.xor (kn k (i/8)%256) (Nat.shiftRight 128 (min (i%8) 8)%256)=kn k (i/8)^^^2^(7-i%8):=by
  rw[shr8 _ Xd];exact BHq _ _ hk hp
 refine gI 11 Y (λR k0=>?_);refine gD 0 Y (λh1=>?_) (λh1=>?_)
 .exfalso;omega
 refine gU 2 Y ?_;refine gS 3 Y (λh2=>?_) (λh2=>?_)
 .exfalso;omega
 refine gA 5 Y (i/8) (e:=(dxq i 8)) (gP 0 Y (ksq (i:=i/8) Y Y Y Y Y Y Xd) (gM 0 Y (z7q Y Y Y (h8q k Xd)) (gV 1 Y (Ze (W.int .i64) (Jmq i 8)) (gV (w':=.int .u8 ((kn k (i/8)^^^2^(7-i%8):Nat):Int)) 1 Y (Ze (λn:Nat=>W.int .u8 (n:Int)) e1) (gP 0 Y (ksq (i:=i/8) Y Y Y Y Y Y Xd) (gM 0 Y (qrq Y Y Y Y Y (xeq (i:=0+i/8*1) (by rw[ZN,Z2];exact wFq k Xd) Y Y) rfl) (gQ 10 Y ?_)))))));rw[ZN,Z2,wEq k (i/8) Xd];unfold jRq;rfl
end
end
def beB:Nat->Nat->List UInt8
 |0,_=>[]
 |s+1,n=>UInt8.ofNat (n/256^s%256)::beB s n
def ajq(l:List UInt8):Nat:=l.foldl (λa c=>256*a+c.toNat) 0
@[simp] theorem xvq:∀s n,(beB s n).length=s
 |0,_=>rfl
 |s+1,n=>by simp[beB,xvq s n]
theorem g9q(l:List UInt8)(c:UInt8):ajq (l++[c])=256*ajq l+c.toNat:=by simp[ajq,List.foldl_append]
theorem JIq:∀(l:List UInt8) (a:Nat),l.foldl (λa c=>256*a+c.toNat) a=a*256^l.length+ajq l
 |[],a=>by simp[ajq]
 |c::l,a=>by
  simp only[List.foldl_cons,ajq,Zv];rw[JIq l,JIq l (256*0+c.toNat),Nat.pow_succ];simp only[ZO,Nat.mul_zero,ZN,ZK];congr 1
  rw[YC 256 a,Nat.mul_assoc,YC 256]
theorem haq(c:UInt8)(l:List UInt8):ajq (c::l)=c.toNat*256^l.length+ajq l:=by
 show(c::l).foldl _ 0=_;rw[List.foldl_cons,JIq];simp
theorem Yuq:∀l:List UInt8,ajq l<256^l.length
 |[]=>by simp[ajq]
 |c::l=>by
  rw[haq,Zv,Nat.pow_succ];have:=Yuq l;have hc:=c.toNat_lt;have:c.toNat*256^l.length<=255*256^l.length:=Z3 _ Xd;omega
section
open Go.RowKit
section
attribute [local irreducible] CoW OpW FlW aeq aiq
variable {G:Nat->Option W}
theorem Zaq(l:List UInt8)(f:Bool)(hl:l.length<=70368744177664):PS cfg G 47 [.fz (zbq l) 1 f] (bW l):=by
 refine gI 9 Y (λR k0=>?_);first|refine yyq Y Y ?_|refine zsq rfl (juq Y Y Y Y Y (λbn hn=>?_))
 refine zhq 2 Y ?_;refine gS 0 Y (λh1=>?_) (λh1=>?_)
 .cases bn with
  |false=>cases h1
  |true=>
   have hn:=hn rfl
   have hl0:l=[]:=by cases l with
    |nil=>rfl
    |cons c l=>simp[zbq] at hn
   subst hl0;refine zPq 7 Y ?_;refine yUq (fr2:=[(2,bW [])]) Jm ⟨⟨_,rfl,.nilfz⟩,trivial⟩ Y Y
 .cases l with
  |nil=>
   skip
   refine zPq 6 Y (gM 0 Y (qaq Y Y (jPq Y Y Y Y Y)) (zcq 4 Y ?_));refine yUq (fr2:=[(2,bW [])]) Jm ⟨⟨_,rfl,.sl Y Y Y Xk⟩,trivial⟩ Y Y
  |cons c l=>
   simp only[Zv] at hl;refine zPq 6 Y (gM 0 Y (qaq Y Y (qOq (news:=zbq (c::l)) (olds:=[]) Y Y Y Y Y (by simp[zbq]) (by show(0+(zbq (c::l)).length)*1<=_;rw[zqq];simp only[Zv];omega) (by rw[zqq];simp only[Zv];omega) rfl (by show 0<0+(0+(zbq (c::l)).length)*1;rw[zqq];simp only[Zv];omega) Y Y)) (zcq 4 Y ?_));refine yUq (fr2:=[(2,bW (c::l))]) Jm ⟨⟨_,rfl,.sl rfl Xi (fZq Xi (Z2 _)) Xk⟩,trivial⟩ Y Y
theorem wyq(l:List UInt8)(f:Bool):PS cfg G 109 [.fz (zbq l) 1 f] (.int .i64 (if l=[] then 0 else 11)):=by
 have e:=zqq l;refine gI 9 Y (λR k0=>gL 0 Y ?_);refine gS 3 Y (λh1=>?_) (λh1=>?_)
 .refine zcq 7 Y ?_;have:l≠[]:=by rintro rfl;simp[zbq] at h1
  exact gQ 0 Y (by rw[Zg this])
 .refine zcq 8 Y ?_;have:l=[]:=List.eq_nil_of_length_eq_zero (by rw[<-e];simpa using h1);exact gQ 0 Y (by rw[Zt this])
theorem dFq(n i:Nat)(hi:i<=8):Nat.shiftRight n (min (8*i) 64)%256=n/256^i%256:=by
 have:Nat.shiftRight n (min (8*i) 64)=n/2^(8*i):=by rw[show min (8*i) 64=8*i by omega];exact Nat.shiftRight_eq_div_pow _ _
 rw[this,Nat.pow_mul]
theorem w4q(n size i:Nat)(hi:i<size):(zbq (List.replicate (size-i) 0++beB i n))[0+(size-1-i)*1]? =some (.int .u8 (.ofNat 0)):=by
 refine xYq (c:=0) ?_;rw[List.getElem?_append_left Xo,List.getElem?_replicate,Zt Xd]
theorem oHq(n size i:Nat)(hi:i<size):(zbq (List.replicate (size-i) 0++beB i n)).set (0+(size-1-i)*1) (.int .u8 ((n/256^i%256:Nat):Int))=zbq (List.replicate (size-(i+1)) 0++beB (i+1) n):=by
 have e:size-i=(size-(i+1))+1:=by omega
 have e2:0+(size-1-i)*1=size-(i+1):=by omega
 rw[e,e2,List.replicate_succ',Zz,j1q,j1q,List.set_append_right _ _ (by simp[zbq])];simp only[zbq,Zd,Y7,Nat.sub_self,List.singleton_append,ZC,List.set_cons_zero,beB];congr 2
 simp
theorem iBq(n size:Nat):zbq (List.replicate (size-0) 0++beB 0 n)=List.replicate size (.int .u8 0):=by simp[zbq,beB]
theorem lTq(n size:Nat)(hs:1<=size)(hs8:size<=8)(hn:n<256^size):yxq cfg G 199 0 [.int .u64 (n:Int),.int .i64 (size:Int)] [] λw hp nw=>
  w= .tup [.sl 0 0 0 size 1 none,.int .i64 0]/\hp=[(0,5,.arr (size*1) 1 (zbq (beB size n)))]/\nw=1:=by
 intro R
 have hq:size<8->Nat.shiftRight n (min (8*size) 64)=0:=λh=>by
  rw[show min (8*size) 64=8*size by omega,show Nat.shiftRight n (8*size)=n/2^(8*size) from Nat.shiftRight_eq_div_pow _ _,Nat.pow_mul];exact Nat.div_eq_of_lt hn
 refine gIs 11 Y (λk0=>?_);refine gD 0 Y (λh1=>?_) (λh1=>?_)
 .exfalso;omega
 refine gU 2 Y ?_;refine gS 4 Y (λh2=>?_) (λh2=>?_)
 .exfalso;omega
 refine gD 3 Y (λh3=>?_) (λh3=>?_)
 .have h8:=hq Xd;refine gA 3 Y (8*size) (gU 1 Y ?_);refine gS 4 Y (λh4=>?_) (λh4=>?_)
  .skip
   exfalso
   have h4:(0:Int)<(Nat.shiftRight n (min (8*size) 64):Nat):=h4;rw[h8] at h4;omega
  .refine gM 6 Y (JKq (l:=size) (c:=size) Y Y Y Y Y Y Y Y (Zc _) (by show 1*size<=_;omega) Xd Y Y) (zcq 11 Y ?_);refine xsq (α:=Nat) (λi=>i<=size) (λi=>[(28,.int .i64 (i:Int))]) [(0,_),(1,_),(4,_),(5,_),(6,_),(27,_)] (λi=>[(0,5,.arr (size*1) 1 (zbq (List.replicate (size-i) 0++beB i n)))]) (λi=>size-i) (0) ⟨rfl,rfl,rfl,rfl,rfl,rfl,trivial⟩ (Zi _) ⟨rfl,trivial⟩ (by rw[iBq];rfl) (λi hI=>?_);refine zEq 6 Y ?_;refine gS 0 Y (λh5=>?_) (λh5=>?_)
   .have hi:i<size:=by omega
    exact gA 13 Y (size-1) (gA 1 Y (size-1-i) (gA 2 Y (8*i) (gV (w':=.int .u8 ((n/256^i%256:Nat):Int)) 1 Y (Ze (λn:Nat=>W.int .u8 (n:Int)) (dFq n i Xd)) (gP 0 Y (qbq (i:=size-1-i) Y Y Y Y Y Y Y Xd) (gM 0 Y (qrq Y Y Y Y Y (xeq (w4q n size i hi) Y Y) (Ze (λL=>[(0,5,W.arr (size*1) 1 L)]) (oHq n size i hi))) (gA 4 Y (i+1) (zcq 2 Y (ucq (i+1) (hi) Xd ⟨rfl,trivial⟩ ⟨rfl,rfl,rfl,rfl,rfl,rfl,trivial⟩ rfl))))))))
   .refine zcq 2 Y (qUq Xk (z0q 10 Y ?_));have:i=size:=by omega
    subst this;refine fin Jm Ent.refl rfl ⟨rfl,rfl,?_,rfl⟩;rw[Nat.sub_self];rfl
 .refine gM 17 Y (JKq (l:=size) (c:=size) Y Y Y Y Y Y Y Y (Zc _) (by show 1*size<=_;omega) Xd Y Y) (zcq 11 Y ?_);refine xsq (α:=Nat) (λi=>i<=size) (λi=>[(28,.int .i64 (i:Int))]) [(0,_),(1,_),(4,_),(5,_),(6,_),(27,_)] (λi=>[(0,5,.arr (size*1) 1 (zbq (List.replicate (size-i) 0++beB i n)))]) (λi=>size-i) (0) ⟨rfl,rfl,rfl,rfl,rfl,rfl,trivial⟩ (Zi _) ⟨rfl,trivial⟩ (by rw[iBq];rfl) (λi hI=>?_);refine zEq 6 Y ?_;refine gS 0 Y (λh4=>?_) (λh4=>?_)
  .have hi:i<size:=by omega
   exact gA 13 Y (size-1) (gA 1 Y (size-1-i) (gA 2 Y (8*i) (gV (w':=.int .u8 ((n/256^i%256:Nat):Int)) 1 Y (Ze (λn:Nat=>W.int .u8 (n:Int)) (dFq n i Xd)) (gP 0 Y (qbq (i:=size-1-i) Y Y Y Y Y Y Y Xd) (gM 0 Y (qrq Y Y Y Y Y (xeq (w4q n size i hi) Y Y) (Ze (λL=>[(0,5,W.arr (size*1) 1 L)]) (oHq n size i hi))) (gA 4 Y (i+1) (zcq 2 Y (ucq (i+1) (hi) Xd ⟨rfl,trivial⟩ ⟨rfl,rfl,rfl,rfl,rfl,rfl,trivial⟩ rfl))))))))
  .refine zcq 2 Y (qUq Xk (z0q 10 Y ?_));have:i=size:=by omega
   subst this;refine fin Jm Ent.refl rfl ⟨rfl,rfl,?_,rfl⟩;rw[Nat.sub_self];rfl
theorem shl8(n:Nat):(Int.ofNat (Nat.shiftLeft n (min 8 64)))=((256*n:Nat):Int):=by
 rw[show Nat.shiftLeft n (min 8 64)=n*2^8 from Nat.shiftLeft_eq n 8,YC];rfl
theorem tMq(n c:Nat)(hn:256*n<18446744073709551616)(hc:c<256):Nat.lor (256*n%18446744073709551616) (c%18446744073709551616)=256*n+c:=by
 rw[YV hn,YV Xd];have:=Nat.two_pow_add_eq_or_of_lt (i:=8) (b:=c) Xd n;rw[YC] at this;rw[show Nat.lor (256*n) c=256*n|||c from rfl,YC 256 n];rw[YC] at this;rw[YC n 256];exact this.symm
theorem gTq{i:Nat}(h:i<=8):256^i<=18446744073709551616:=by
 have h':∀i,i<=8->256^i<=18446744073709551616:=by decide
 exact h' i h
theorem g8q{l:List UInt8}{i:Nat}{c:UInt8}(h:l[i]? =some c):ajq (l.take (i+1))=256*ajq (l.take i)+c.toNat:=by
 rw[YF,h];exact g9q _ _
theorem bsq{l:List UInt8}{i:Nat}(h:i<=7):256*ajq (l.take i)<18446744073709551616:=by
 have h1:=Yuq (l.take i);have h2:256^(l.take i).length<=256^i:=Y6 Xd Xo;have h3:=gTq (i:=i+1) Xd;rw[Nat.pow_succ] at h3;omega
theorem kJq(l:List UInt8)(f:Bool)(size:Nat)(hs:1<=size)(hs8:size<=8)(hl:l.length<size):PS cfg G 108 [.fz (zbq l) 1 f,.int .i64 (size:Int)] (.tup [.int .u64 0,.nils,.int .i64 10]):=by
 have e:=zqq l;refine gI 12 Y (λR k0=>?_);refine gD 0 Y (λh1=>?_) (λh1=>?_)
 .exfalso;omega
 refine gU 2 Y ?_;refine gS 4 Y (λh2=>?_) (λh2=>?_)
 .exfalso;omega
 refine gV (w':=.int .i64 (l.length:Int)) 3 Y Yf (gU 1 Y ?_);refine gS 3 Y (λh3=>?_) (λh3=>?_)
 .first|exact gQa 10 Y|(exfalso;omega)
 .exfalso;omega
theorem j4q(l:List UInt8)(f:Bool)(size:Nat)(hs:1<=size)(hs8:size<=8)(hl:size<=l.length)(hb:l.length<=70368744177664):PS cfg G 108 [.fz (zbq l) 1 f,.int .i64 (size:Int)] (.tup [.int .u64 (ajq (l.take size):Nat),bW (l.drop size),.int .i64 0]):=by
 have e:=zqq l;have el:(l.take size).length=size:=by simp;omega
 refine gI 12 Y (λR k0=>?_);refine gD 0 Y (λh1=>?_) (λh1=>?_)
 .exfalso;omega
 refine gU 2 Y ?_;refine gS 4 Y (λh2=>?_) (λh2=>?_)
 .exfalso;omega
 refine gV (w':=.int .i64 (l.length:Int)) 3 Y Yf (gU 1 Y ?_);refine gS 3 Y (λh3=>?_) (λh3=>?_)
 .exfalso;omega
 refine gP 9 Y (ibq (ys:=zbq (l.take size)) (l:=0) (h:=size) (m:=size) Y Y Y Y Y Y Y Y (Zi _) (Zc _) Xd hs (by rw[ZV,Y8,Y8q]) rfl) (gV (w':=.int .i64 (size:Int)) 0 Y (by show W.int .i64 ((zbq (l.take size)).length:Int)=_;rw[zqq,el]) ?_);refine gLo (α:=Nat) 4 (λi=>i<=size) (λi=>[(26,.int .i64 (i:Int)),(4,.int .u64 (ajq (l.take i):Nat))]) [0,1,5,6,24,25] (λi=>size-i) (0) rfl (Zi _) (λi hI=>?_);refine gS 6 Y (λh4=>?_) (λh4=>?_)
 .have hi:i<size:=by omega
  obtain⟨c,hc⟩:∃c,l[i]? =some c:=⟨_,Za Xd⟩
  have hc2:(l.take size)[i]? =some c:=by rw[YI,Zt hi];exact hc
  have hcl:=c.toNat_lt;have hn:=bsq (l:=l) (i:=i) Xd;exact gP 6 Y (zyq (i:=i) Y Y Y Y Y Y Y (xYq hc2)) (gA 6 Y (256*ajq (l.take i)) (e:=(shl8 _)) (gA 1 Y (c.toNat) (gV (w':=.int .u64 (ajq (l.take (i+1)):Nat)) 0 Y (Ze (λn:Nat=>W.int .u64 (n:Int)) ((tMq _ _ hn hcl).trans (g8q hc).symm)) (gA 5 Y (i+1) (gAg 2 Y (i+1) (hi) Xd)))))
 .have:i=size:=by omega
  subst this;exact gO 2 Y (gP 7 Y (YVq (ys:=zbq (l.drop i)) (l:=i) (h:=(zbq l).length) Y Y Y Y Y Y Y Xd (Zc _) Ji rfl) (gC 0 Y (Zaq _ _ (by first|assumption|(simp;omega))) (gQa 6 Y)))
structure Acct where
 nonce:Nat
 balance:Nat
 deriving DecidableEq
def Acct.zero:Acct:=⟨0,0⟩
noncomputable def aW(a:Acct):W:=.agg 2 [.int .u64 (a.nonce:Int),.int .u64 (a.balance:Int)]
@[simp] theorem ziq(a:Acct):abq (aW a)=true:=rfl
def wVq(a:Acct):List UInt8:=beB 8 a.nonce++beB 8 a.balance
def kBq(l:List UInt8):Acct×Nat:=if l.length<16 then(.zero,10) else if 16<l.length then(.zero,11) else
 if (⟨ajq (l.take 8),ajq (l.drop 8)⟩:Acct)= .zero then(.zero,8) else(⟨ajq (l.take 8),ajq (l.drop 8)⟩,0)
theorem rGq(a b:Acct):eqW cfg 300 49 (aW a) (aW b)=some (decide (a=b)):=by
 have e:decide (a=b)=(decide ((a.nonce:Int)=b.nonce)&&(decide ((a.balance:Int)=b.balance)&&true)):=by
  cases a;cases b
  simp only[Acct.mk.injEq,Bool.and_true];rw[Bool.eq_iff_iff];simp only[Z7,Zb];omega
 rw[e];exact qEq Y Y Y Y (zuq Y Y Y (qsq Y Y) (zuq Y Y Y (qsq Y Y) jdq))
theorem iIq(l:List UInt8)(f:Bool)(hb:l.length<=70368744177664):PS cfg G 44 [.fz (zbq l) 1 f] (.tup [aW (kBq l).1,.int .i64 ((kBq l).2:Nat)]):=by
 by_cases q1:l.length<8
 .have e:kBq l=(.zero,10):=by unfold kBq;rw[Zt Xd]
  rw[e];exact gI 15 Y (λR k0=>gC 0 Y (kJq _ _ 8 Xd Xd q1) (gQa 27 Y))
 have q2:(l.drop 8).length=l.length-8:=by simp
 by_cases q3:l.length<16
 .have e:kBq l=(.zero,10):=by unfold kBq;rw[Zt q3]
  rw[e];refine gI 15 Y (λR k0=>?_);first|(first|refine j8q Y Y Y Y Y Y (j4q l _ 8 Xd Xd Xd hb) ?_|refine j8q Y Y Y Y Y Y (kJq (l.drop 8) _ 8 Xd Xd Xd) ?_)|refine j8q Y Y Y Y Y Y (j4q _ _ 8 Xd Xd Xd hb) ?_|refine j8q Y Y Y Y Y Y (kJq _ _ 8 Xd Xd q1) ?_
  refine zhq 23 Y ?_;first|(first|refine j8q Y Y Y Y Y Y (j4q l _ 8 Xd Xd Xd hb) ?_|refine j8q Y Y Y Y Y Y (kJq (l.drop 8) _ 8 Xd Xd Xd) ?_)|refine j8q Y Y Y Y Y Y (j4q _ _ 8 Xd Xd Xd hb) ?_|refine j8q Y Y Y Y Y Y (kJq _ _ 8 Xd Xd q1) ?_
  exact zhq 27 Y (gQa 0 Y)
 have e3:(l.drop 8).drop 8=[]↔l.length=16:=by rw[Z8,List.drop_eq_nil_iff];omega
 by_cases q4:16<l.length
 .have e:kBq l=(.zero,11):=by unfold kBq;rw[Zg q3,Zt q4]
  have e4:¬(l.drop 8).drop 8=[]:=λh=>by have:=e3.1 h;omega
  rw[e];refine gI 15 Y (λR k0=>?_)
  (first|refine j8q Y Y Y Y Y Y (j4q l _ 8 Xd Xd Xd hb) ?_|refine j8q Y Y Y Y Y Y (j4q (l.drop 8) _ 8 Xd Xd Xd Xd) ?_)
  refine zhq 23 Y ?_
  (first|refine j8q Y Y Y Y Y Y (j4q l _ 8 Xd Xd Xd hb) ?_|refine j8q Y Y Y Y Y Y (j4q (l.drop 8) _ 8 Xd Xd Xd Xd) ?_)
  exact zhq 24 Y (j8q Y Y Y Y Y Y (zoq (w':=.int .i64 11) (wyq _ _) (by rw[Zg e4])) (g4q Y Y (zhq 14 Y (gQa 0 Y))))
 .have e4:(l.drop 8).drop 8=[]:=e3.2 Xd;have e5:(l.drop 8).take 8=l.drop 8:=Zm Xd;refine gI 15 Y (λR k0=>?_)
  (first|refine j8q Y Y Y Y Y Y (j4q l _ 8 Xd Xd Xd hb) ?_|refine j8q Y Y Y Y Y Y (j4q (l.drop 8) _ 8 Xd Xd Xd Xd) ?_)
  refine zhq 23 Y ?_
  (first|refine j8q Y Y Y Y Y Y (j4q l _ 8 Xd Xd Xd hb) ?_|refine j8q Y Y Y Y Y Y (j4q (l.drop 8) _ 8 Xd Xd Xd Xd) ?_)
  refine zhq 24 Y (j8q Y Y Y Y Y Y (zoq (w':=.int .i64 0) (wyq _ _) (by rw[Zt e4])) (g4q Y Y (zhq 8 Y (gP 0 Y (yIq Y Y Y Y (rGq ⟨ajq (l.take 8),ajq ((l.drop 8).take 8)⟩ .zero)) ?_))));refine gS 3 Y (λh1=>?_) (λh1=>?_)
  .refine zcq 10 Y ?_
   have e:kBq l=(.zero,8):=by
    rw[e5] at h1;unfold kBq;rw[Zg q3,Zg q4,Zt h1]
   rw[e];exact gQa 0 Y
  .refine zcq 11 Y ?_
   have e:kBq l=(⟨ajq (l.take 8),ajq (l.drop 8)⟩,0):=by
    rw[e5] at h1;unfold kBq;rw[Zg q3,Zg q4,Zg h1]
   rw[e];exact gQ 0 Y (by rw[e5];rfl)
end
end
abbrev Pr:=Dig×List UInt8
inductive T where
 |nil
 |leaf (k:Dig) (v:List UInt8)
 |fork (l r:T)
 deriving Inhabited
def T.all:T->List Pr
 |.nil=>[]
 |.leaf k v=>[(k,v)]
 |.fork l r=>l.all++r.all
def T.isFork:T->Bool
 |.fork _ _=>true
 |_=>false
def T.non:T->Bool
 |.nil=>false
 |_=>true
def T.two(l r:T):Bool:=l.isFork||r.isFork||(l.non&&r.non)
def T.ok:Nat->Dig->T->Bool
 |_,_,.nil=>true
 |d,b,.leaf k _=>decide (d<=yBq k b)
 |d,b,.fork l r=>decide (d<256)&&T.ok (d+1) b l&&T.ok (d+1) (jRq b d) r&&T.two l r
def T.find(k:Dig):Nat->T->Option (List UInt8)
 |_,.nil=>none
 |_,.leaf k' v=>if k'=k then some v else none
 |d,.fork l r=>if bitN k d=0 then l.find k (d+1) else r.find k (d+1)
def Srt(l:List Pr):Prop:=l.Pairwise λa b=>yKq a.1 b.1=true
def withL(l:List Pr)(k:Dig)(v:List UInt8):List Pr:=l.filter (λp=>yKq p.1 k)++(k,v)::l.filter (λp=>yKq k p.1)
def laq(l:List Pr)(k:Dig):List Pr:=l.filter λp=>decide (p.1≠k)
def c3q(l:List Pr)(k:Dig):Option (List UInt8):=(l.find? λp=>decide (p.1=k)).map (·.2)
theorem lAq{l:List Pr}(h:Srt l){p q:Pr}(hp:p∈l)(hq:q∈l)(e:p.1=q.1):p=q:=by
 induction l with
 |nil=>simp at hp
 |cons x l ih=>
  have h:=List.pairwise_cons.1 h;simp only[ZF] at hp hq;rcases hp with rfl|hp<;>rcases hq with rfl|hq
  .rfl
  .exact absurd e (ujq (h.1 q hq))
  .exact absurd e.symm (ujq (h.1 p hp))
  .exact ih h.2 hp hq
theorem fnq{l:List Pr}(h:Srt l){k:Dig}{v:List UInt8}:c3q l k=some v↔(k,v)∈l:=by
 simp only[c3q,Option.map_eq_some_iff];constructor
 .rintro⟨⟨k',v'⟩,h1,rfl⟩;have h2:=List.find?_some h1;have:=List.mem_of_find?_eq_some h1;simp only[Z7] at h2;subst h2;exact this
 .intro hm;cases hf:l.find? λp=>decide (p.1=k) with
  |none=>
   have:=List.find?_eq_none.1 hf _ hm;simp at this
  |some p=>
   have h2:=List.find?_some hf;have h3:=List.mem_of_find?_eq_some hf;simp only[Z7] at h2;have:=lAq h h3 hm h2;exact⟨p,rfl,by rw[this]⟩
def Zr(d:Nat)(b:Dig):Prop:=∀j,d<=j->j<256->bitN b j=0
theorem uuq{d:Nat}{b:Dig}(h:Zr d b):Zr (d+1) b:=λj h1 h2=>h j Xd h2
theorem utq{d:Nat}{b:Dig}(h:Zr d b)(hd:d<256):Zr (d+1) (jRq b d):=λj h1 h2=>by rw[Qaq b d j hd h2 Xd];exact h j Xd h2
theorem cfq:Zr 0 zeroD:=λj _ hj=>by
 unfold bitN
 have:kn zeroD (j/8)=0:=by
  unfold kn zeroD;simp only[List.getElem?_replicate];split<;>rfl
 rw[this];simp
theorem lkq{b:Dig}{d:Nat}(hd:d<256){j:Nat}(hj:j<d):bitN (jRq b d) j=bitN b j:=Qaq b d j hd Xd Xd
theorem giq{b k:Dig}{d:Nat}(hz:Zr d b)(hd:d<256)(h:d+1<=yBq k b):d<=yBq k b/\bitN k d=0:=
 ⟨by omega,by rw[(xGq Xd).1 h d Xd];exact hz d (Zc _) hd⟩
theorem ghq{b k:Dig}{d:Nat}(hz:Zr d b)(hd:d<256)(h:d+1<=yBq k (jRq b d)):d<=yBq k b/\bitN k d=1:=by
 have h1:=(xGq Xd).1 h;refine⟨(xGq Xd).2 λj hj=>?_,?_⟩
 .rw[h1 j Xd,lkq hd hj]
 .rw[h1 d Xd,dnq b d hd,hz d (Zc _) hd]
theorem ok_fork{d:Nat}{b:Dig}{l r:T}:T.ok d b (.fork l r)=true↔d<256/\T.ok (d+1) b l=true/\T.ok (d+1) (jRq b d) r=true/\T.two l r=true:=by
 simp only[T.ok,Zb,Z7,and_assoc]
theorem vXq:∀{t:T} {d:Nat} {b:Dig},Zr d b->t.ok d b=true->∀p∈t.all,d<=yBq p.1 b
 |.nil,_,_,_,_,p,hp=>by simp[T.all] at hp
 |.leaf k v,d,b,_,h,p,hp=>by
  simp only[T.all,Y4] at hp;subst hp;exact YN h
 |.fork l r,d,b,hz,h,p,hp=>by
  obtain⟨hd,h1,h2,_⟩:=ok_fork.1 h;simp only[T.all,ZT] at hp;rcases hp with hp|hp
  .exact(giq hz hd (vXq (uuq hz) h1 p hp)).1
  .exact(ghq hz hd (vXq (utq hz hd) h2 p hp)).1
theorem p6q{l r:T}{d:Nat}{b:Dig}(hz:Zr d b)(h:(T.fork l r).ok d b=true):(∀p∈l.all,bitN p.1 d=0)/\∀p∈r.all,bitN p.1 d=1:=by
 obtain⟨hd,h1,h2,_⟩:=ok_fork.1 h;exact⟨λp hp=>(giq hz hd (vXq (uuq hz) h1 p hp)).2,λp hp=>(ghq hz hd (vXq (utq hz hd) h2 p hp)).2⟩
theorem nBq{a b c:Dig}{d:Nat}(hd:d<256)(ha:d<=yBq a c)(hb:d<=yBq b c)(h0:bitN a d=0)(h1:bitN b d=1):yKq a b=true:=
 ahead_iff.2 ⟨d,hd,λj hj=>by rw[(xGq Xd).1 ha j hj,(xGq Xd).1 hb j hj],h0,h1⟩
theorem g7q:∀{t:T} {d:Nat} {b:Dig},Zr d b->t.ok d b=true->Srt t.all
 |.nil,_,_,_,_=>List.Pairwise.nil
 |.leaf k v,_,_,_,_=>List.pairwise_singleton _ _
 |.fork l r,d,b,hz,h=>by
  obtain⟨hd,h1,h2,_⟩:=ok_fork.1 h;refine List.pairwise_append.2 ⟨g7q (uuq hz) h1,g7q (utq hz hd) h2,λp hp q hq=>?_⟩;have a1:=giq hz hd (vXq (uuq hz) h1 p hp);have a2:=ghq hz hd (vXq (utq hz hd) h2 q hq);exact nBq hd a1.1 a2.1 a1.2 a2.2
theorem YJq(k:Dig):∀{t:T} {d:Nat} {b:Dig},Zr d b->t.ok d b=true->t.find k d=c3q t.all k
 |.nil,_,_,_,_=>rfl
 |.leaf k' v,_,_,_,_=>by
  simp only[T.find,T.all,c3q,List.find?_cons,List.find?_nil];by_cases e:k'=k<;>simp[e]
 |.fork l r,d,b,hz,h=>by
  obtain⟨hd,h1,h2,_⟩:=ok_fork.1 h;obtain⟨k1,k2⟩:=p6q hz h;have i1:=YJq k (uuq hz) h1;have i2:=YJq k (utq hz hd) h2;simp only[T.find,T.all,c3q,List.find?_append];simp only[c3q] at i1 i2;split
  .rename_i hb
   have:r.all.find? (λp=>decide (p.1=k))=none:=List.find?_eq_none.2 λp hp e=>by
    have:=k2 p hp;rw[YN e] at this;omega
   rw[this,Option.or_none,i1]
  .rename_i hb
   have:l.all.find? (λp=>decide (p.1=k))=none:=List.find?_eq_none.2 λp hp e=>by
    have:=k1 p hp;rw[YN e] at this;omega
   rw[this,Option.none_or,i2]
section
open Go.RowKit
section
attribute [local irreducible] CoW OpW FlW aeq aiq
variable {G:Nat->Option W}
noncomputable def pW(x:Pr):W:=.agg 33 [dW x.1,bW x.2]
@[simp] theorem tLq(x:Pr):abq (pW x)=true:=by simp[pW]
structure Node where
 leaf:Bool
 key:Dig
 val:List UInt8
 left:Int
 right:Int
noncomputable def nW(x:Node):W:=.agg 36 [.bool x.leaf,dW x.key,bW x.val,.int .i64 x.left,.int .i64 x.right]
@[simp] theorem tTq(x:Node):abq (nW x)=true:=by simp[nW]
theorem s8q(k:Dig)(d:Nat)(h:d<256):PS cfg G 183 [dW k,.int .i64 (d:Int)] (.int .u8 (bitN k d:Nat)):=by
 refine gI 10 Y (λR k0=>gC 0 Y (w0q _ _ Xd) ?_);first|exact gQa 14 Y|(exfalso;omega)
theorem j6q(x:Node):PS cfg G 182 [nW x] (.arr 2 1 [.int .i64 x.left,.int .i64 x.right]):=by
 refine gI 17 Y (λR k0=>?_);first|exact gQa 0 Y|(exfalso;omega)
def s1q(l:List UInt8):Bool:=decide (0<l.length)&&decide (l.length<=64)
theorem o0q(l:List UInt8)(f:Bool):PS cfg G 124 [.fz (zbq l) 1 f] (.bool (s1q l)):=by
 have e:=zqq l;refine gI 8 Y (λR k0=>gV (w':=.int .i64 (l.length:Int)) 0 Y Yf ?_);refine gD 0 Y (λh1=>?_) (λh1=>?_)
 .refine gV (w':=.int .i64 (l.length:Int)) 2 Y Yf (gU 0 Y (zcq 5 Y ?_));have h0:0<l.length:=by omega
  exact gQ 0 Y (by unfold s1q;congr 1;rw[Zn h0,Y5,Z9];omega)
 .refine zcq 9 Y ?_;have h0:¬0<l.length:=by omega
  exact gQ 0 Y (by unfold s1q;rw[Zo h0];rfl)
def Ajq(ps:List Pr)(i:Nat):Prop:=∀x,ps[i]? =some x->s1q x.2=true/\∀y,0<i->ps[i-1]? =some y->yKq y.1 x.1=true
def sAq(ps:List Pr):Prop:=ps.length<=512/\∀i,i<ps.length->Ajq ps i
noncomputable instance(ps:List Pr):Decidable (sAq ps):=Classical.propDecidable _
theorem cHq(ps:List Pr):acq (ps.map pW)=true:=yfq tLq ps
@[simp] theorem Ahq(ps:List Pr):acq (ps.map pW)=true:=cHq ps
theorem l7q(ps:List Pr)(f:Bool)(hb:ps.length<=9223372036854775807):PS cfg G 57 [.fz (ps.map pW) 33 f] (.int .i64 (if sAq ps then 0 else 8)):=by
 have e:(ps.map pW).length=ps.length:=Zd _;refine gI 9 Y (λR k0=>gV (w':=.int .i64 (ps.length:Int)) 0 Y Yf ?_);refine gS 3 Y (λh1=>?_) (λh1=>?_)
 .exact gQ 7 Y (by rw[Zg λh:sAq ps=>by have:=h.1;omega])
 .refine gV (w':=.int .i64 (ps.length:Int)) 6 Y Yf ?_;refine gLo (α:=Nat) 4 (λi=>i<=ps.length/\∀j,j<i->Ajq ps j) (λi=>[(10,.int .i64 (i:Int))]) [0,2,8,9] (λi=>ps.length-i) (0) rfl (⟨Zi _,λj hj=>by omega⟩) (λi hI=>?_);obtain⟨hi,hI⟩:=hI;refine gS 6 Y (λh2=>?_) (λh2=>?_)
  .have hi':i<ps.length:=by omega
   obtain⟨x,hx⟩:∃x,ps[i]? =some x:=⟨_,Za hi'⟩
   refine gP 7 Y (zyq (i:=i) Y Y Y Y Y Y Y (zgq pW hx)) (gC 10 Y (o0q _ _) ?_);refine gB 0 Y (λh3=>?_) (λh3=>?_)
   .refine gD 3 Y (λh4=>?_) (λh4=>?_)
    .refine gA 3 Y (i-1) ?_;refine gP 0 Y (zyq (i:=i-1) Y Y Y Y Y Y Y (zgq pW (Za Xd))) ?_;refine gC 4 Y (Kjq _ _) ?_;refine gS 5 Y (λh5=>?_) (λh5=>?_)
     .refine gO 8 Y (zcq 2 Y ?_)
      have no:¬sAq ps:=λh=>by
       have:=(h.2 i hi' x hx).2 _ Xd (Za Xd);rw[this] at h5;simp at h5
      exact gQ 0 Y (by rw[Zg no])
     .have ok:Ajq ps i:=λx' hx'=>by
       obtain rfl:=ZB (hx.symm.trans hx');refine⟨h3,λy h0 hy=>?_⟩;obtain rfl:=ZB ((Za (show i-1<ps.length by omega)).symm.trans hy);simpa using h5
      refine gA 4 Y (i+1) ?_;exact gAg 2 Y (i+1) (⟨hi',λj hj=>by rcases ZI.1 hj with h|rfl<;>first|exact hI j h|exact ok⟩) Xd
    .have ok:Ajq ps i:=λx' hx'=>by
      obtain rfl:=ZB (hx.symm.trans hx');exact⟨h3,λy h0 hy=>by omega⟩
     refine gA 20 Y (i+1) ?_;exact gAg 2 Y (i+1) (⟨hi',λj hj=>by rcases ZI.1 hj with h|rfl<;>first|exact hI j h|exact ok⟩) Xd
   .exact gO 28 Y (gQ 2 Y (by rw[Zg λh:sAq ps=>h3 (h.2 i hi' x hx).1]))
  .refine gO 2 Y (zcq 8 Y ?_);have yes:sAq ps:=⟨by omega,λj hj=>hI j Xd⟩;exact gQ 0 Y Yn
def cMq(x:Node)(n:Nat):Prop:=if x.leaf then x.left=0/\x.right=0/\sAq [(x.key,x.val)] else(0<=x.left/\x.left<=n)/\(0<=x.right/\x.right<=n)/\x.key=zeroD/\x.val=[]/\0<x.left+x.right
noncomputable instance(x:Node)(n:Nat):Decidable (cMq x n):=Classical.propDecidable _
theorem AXq(x:Node)(n:Nat)(hn:n<=4611686018427387903):PS cfg G 126 [nW x,.int .i64 (n:Int)] (.bool (decide (cMq x n))):=by
 refine gI 13 Y (λR k0=>?_);refine gS 0 Y (λh1=>?_) (λh1=>?_)
 .refine gD 4 Y (λh2=>?_) (λh2=>?_)
  .refine gD 3 Y (λh3=>?_) (λh3=>?_)
   .refine zcq 8 Y ?_;refine ulq Y Y Y Y Y (by(repeat (first|exact .nil|refine .cons ?_ ?_|(refine .sl Y ?_ rfl Xk;first|rfl|(focus (simp;done)))|(refine yYq Y ?_ rfl;first|rfl|(focus (simp;done)))|(refine .pur ?_;first|rfl|(focus (simp;done)))))) (l7q [(x.key,x.val)] false Xi) Xn Xn ?_;refine g4q Y Y ?_;refine zhq 6 Y ?_;refine gQ 0 Y ?_;congr 1
    rw[Z9,cMq,Zt h1];split
    .rename_i h;exact⟨λ_=>⟨h2,h3,h⟩,λ_=>rfl⟩
    .rename_i h;exact⟨λh=>by omega,λq=>absurd q.2.2 h⟩
   .exact gQ 16 Y (by rw[Zo];intro h;rw[cMq,Zt h1] at h;exact h3 h.2.1)
  .exact gQ 20 Y (by rw[Zo];intro h;rw[cMq,Zt h1] at h;exact h2 h.1)
 .refine gC 6 Y (j6q _) ?_;refine gLo (α:=Nat) 4 (λi=>i<=2/\(0<i->0<=x.left/\x.left<=n)/\(1<i->0<=x.right/\x.right<=n)) (λi=>[(29,.int .i64 (i:Int))]) [1,2,4,28] (λi=>2-i) (0) rfl (⟨by omega,by omega,by omega⟩) (λi hI=>?_);obtain⟨hi,hl,hr⟩:=hI;refine gS 6 Y (λh2=>?_) (λh2=>?_)
  .have hi':i=0\/i=1:=by omega
   rcases hi' with rfl|rfl
   .skip
    refine gD 13 Y (λh3=>?_) (λh3=>?_)
    .refine gO 16 Y ?_;exact gQ 2 Y Yj
    .refine gU 3 Y ?_;refine gS 3 Y (λh4=>?_) (λh4=>?_)
     .refine gO 8 Y ?_;exact gQ 2 Y Yj
     .refine gA 4 Y (1) ?_;exact gAg 2 Y (1) (⟨by omega,by omega,by omega⟩) Xd
   .refine gD 13 Y (λh3=>?_) (λh3=>?_)
    .refine gO 16 Y ?_;exact gQ 2 Y Yj
    .refine gU 3 Y ?_;refine gS 3 Y (λh4=>?_) (λh4=>?_)
     .refine gO 8 Y ?_;exact gQ 2 Y Yj
     .refine gA 4 Y (2) ?_;exact gAg 2 Y (2) (⟨by omega,by omega,by omega⟩) Xd
  .have e:=zqq x.val;have hl:=hl Xd;have hr:=hr Xd;have key:cMq x n↔(x.key=zeroD/\x.val=[]/\0<x.left+x.right):=by rw[cMq,Zg h1];exact⟨λh=>h.2.2,λh=>⟨hl,hr,h⟩⟩
   rw[show decide (cMq x n)=decide (x.key=zeroD/\x.val=[]/\0<x.left+x.right) from Z9.2 key];refine gO 2 Y ?_;refine gV 6 Y v8q ?_;refine gDe 0 Y (yIq Y Y Y Y (yzq Y Y Y Y Y Y _ _ 250)) y9q (λh3=>?_) (λh3=>?_)
   .refine gV (w':=.int .i64 (x.val.length:Int)) 3 Y Yf ?_;refine gD 0 Y (λh4=>?_) (λh4=>?_)
    .have hv:x.val=[]:=List.eq_nil_of_length_eq_zero Xd;refine gWr 6 Y ?_;refine gU 0 Y ?_;refine gQ 5 Y ?_;congr 1
     rw[Z9];exact⟨λh=>⟨h3,hv,h⟩,λh=>h.2.2⟩
    .have hv:x.val≠[]:=λh=>h4 (by rw[h];rfl)
     exact gQ 13 Y (by rw[Zo λh=>hv h.2.1])
   .exact gQ 18 Y (by rw[Zo λh=>h3 h.1])
inductive Rep(ns:List Node):Nat->T->Prop where
 |nil:Rep ns 0 .nil
 |leaf {n:Nat} {k:Dig} {v:List UInt8} {l r:Int} (h:ns[n]? =some ⟨true,k,v,l,r⟩):Rep ns (n+1) (.leaf k v)
 |fork {n l r:Nat} {k:Dig} {v:List UInt8} {L R:T} (h:ns[n]? =some ⟨false,k,v,l,r⟩) (hl:l<=n) (hr:r<=n) (hL:Rep ns l L) (hR:Rep ns r R):Rep ns (n+1) (.fork L R)
theorem Rep.le{ns:List Node}{n:Nat}{t:T}(h:Rep ns n t):n<=ns.length:=by
 cases h with
 |nil=>exact Zi _
 |leaf h=>exact(Zq.1 h).1
 |fork h=>exact(Zq.1 h).1
theorem Rep.non{ns:List Node}{n:Nat}{t:T}(h:Rep ns n t):t.non=decide (0<n):=by cases h<;>simp[T.non]
structure Tree where
 nodes:List Node
 root:Int
noncomputable def tW(t:Tree):W:=.agg 2 [.fz (t.nodes.map nW) 36 false,.int .i64 t.root]
theorem cOq(ns:List Node):acq (ns.map nW)=true:=yfq tTq ns
@[simp] theorem fYq(t:Tree):abq (tW t)=true:=by simp[tW,cOq]
def nnI(t:T):Int:=if t.non then 1 else 0
theorem pzq(t0:Tree)(hb:t0.nodes.length<=4611686018427387903):∀(t:T) (n d:Nat) (b:Dig),Rep t0.nodes n t->d<=256->PS cfg G 181 [tW t0,.int .i64 (n:Int),.int .i64 (d:Int),dW b] (.tup [.bool (t.ok d b),.bool (t.ok d b&&t.isFork)]):=by
 intro t;induction t with
 |nil=>
  intro n d b hr hd;obtain rfl:n=0:=by cases hr;rfl
  refine gI 15 Y (λR k0=>?_);refine gS 0 Y (λh1=>?_) (λh1=>?_)
  .exact gQa 8 Y
  .exfalso;omega
 |leaf k v=>
  intro n d b hr hd;have hle:=hr.le;cases hr with
  |leaf h=>
  rename_i n l r;refine gI 15 Y (λR k0=>?_);refine gS 0 Y (λh1=>?_) (λh1=>?_)
  .exfalso;omega
  .refine gA 7 Y (n) ?_;refine gP 0 Y (zyq (i:=n) Y Y Y Y Y Y Y (zgq nW h)) ?_;refine gC 18 Y (lIq _ _) ?_;refine gU 1 Y ?_;refine gQ 6 Y ?_;simp only[T.ok,T.isFork,Y1];congr 3
   rw[Z9];omega
 | fork tl tr ihL ihR=>
  intro n d b hr hd;have hle:=hr.le;cases hr with
  |fork h hl hr hL hR=>
  rename_i n l r k v;refine gI 15 Y (λR k0=>?_);refine gS 0 Y (λh1=>?_) (λh1=>?_)
  .exfalso;omega
  .refine gA 7 Y (n) ?_;refine gP 0 Y (zyq (i:=n) Y Y Y Y Y Y Y (zgq nW h)) ?_;refine gS 22 Y (λh2=>?_) (λh2=>?_)
   .refine zcq 8 Y ?_;have e:T.ok d b (.fork tl tr)=false:=by simp only[T.ok];rw[Zo Xd];rfl
    rw[e];exact gQa 0 Y
   .have hd':d<256:=by omega
    have nl:=hL.non;have nr:=hR.non;refine gC 6 Y (o4q _ _ Xd) ?_;refine gV (w':=.arr 64 32 [dW b,dW (jRq b d)]) 18 Y Y ?_;refine gLo (α:=Nat×Int×Bool) 4 (λp=>(p.1=0/\p.2.1=0/\p.2.2=false)\/(p.1=1/\tl.ok (d+1) b=true/\p.2.1=nnI tl/\p.2.2=tl.isFork)\/(p.1=2/\tl.ok (d+1) b=true/\tr.ok (d+1) (jRq b d)=true/\p.2.1=nnI tl+nnI tr/\p.2.2=(tl.isFork||tr.isFork))) (λp=>[(46,.int .i64 (p.1:Int)),(13,.int .i64 p.2.1),(9,.bool p.2.2)]) [2,4,8,10,45] (λp=>2-p.1) ((0,0,false)) rfl (.inl ⟨rfl,rfl,rfl⟩) (λp hI=>?_);obtain⟨i,c,w⟩:=p;simp only at hI⊢;rcases hI with ⟨rfl,rfl,rfl⟩|⟨rfl,k1,rfl,rfl⟩|⟨rfl,k1,k2,rfl,rfl⟩
    .skip
     skip
     refine gC 23 Y (j6q _) ?_;refine gA 10 Y (d+1) ?_;refine gC 1 Y (ihL _ (d+1) b hL Xd) ?_;refine gS 14 Y (λh3=>?_) (λh3=>?_)
     .refine gO 10 Y ?_;refine zcq 2 Y ?_;have e:T.ok d b (.fork tl tr)=false:=by simp only[T.ok];rw[show tl.ok (d+1) b=false by simpa using h3];simp
      rw[e];exact gQa 0 Y
     .have hk:tl.ok (d+1) b=true:=by simpa using h3
      refine gS 9 Y (λh4=>?_) (λh4=>?_)
      .have hn:nnI tl=1:=by have h4:(0:Int)<l:=h4;unfold nnI;rw[nl,Zt (Zn Xd)]
       refine gWr 2 Y ?_;refine gA 13 Y (1) ?_;exact gAg 2 Y ((1,1,tl.ok (d+1) b&&tl.isFork)) (.inr (.inl ⟨rfl,hk,hn.symm,by rw[hk];rfl⟩)) Xi
      .have hn:nnI tl=0:=by have h4:¬(0:Int)<l:=h4;unfold nnI;rw[nl,Zg Xo]
       refine gA 12 Y (1) ?_;exact gAg 2 Y ((1,0,tl.ok (d+1) b&&tl.isFork)) (.inr (.inl ⟨rfl,hk,hn.symm,by rw[hk];rfl⟩)) Xi
    .skip
     have bd:nnI tl=0\/nnI tl=1:=by unfold nnI;split<;>simp
     cases hf:tl.isFork with
     |true=>
      skip
      refine zEq 23 Y ?_;refine gC 0 Y (j6q _) ?_;refine gA 10 Y (d+1) ?_;refine gC 1 Y (ihR _ (d+1) (jRq b d) hR Xd) ?_;refine gS 14 Y (λh3=>?_) (λh3=>?_)
      .refine gO 10 Y ?_;refine zcq 2 Y ?_;have e:T.ok d b (.fork tl tr)=false:=by simp only[T.ok];rw[show tr.ok (d+1) (jRq b d)=false by simpa using h3];simp
       rw[e];exact gQa 0 Y
      .have hk:tr.ok (d+1) (jRq b d)=true:=by simpa using h3
       refine gS 9 Y (λh4=>?_) (λh4=>?_)
       .have hn:nnI tr=1:=by have h4:(0:Int)<r:=h4;unfold nnI;rw[nr,Zt (Zn Xd)]
        refine gWr 2 Y ?_;refine gA 13 Y (2) ?_;exact gAg 2 Y ((2,nnI tl+1,true)) (.inr (.inr ⟨rfl,k1,hk,by simp only[hn],rfl⟩)) Xi
       .have hn:nnI tr=0:=by have h4:¬(0:Int)<r:=h4;unfold nnI;rw[nr,Zg Xo]
        refine gA 12 Y (2) ?_;exact gAg 2 Y ((2,nnI tl,true)) (.inr (.inr ⟨rfl,k1,hk,by simp only[hn,Int.add_zero],rfl⟩)) Xi
     |false=>
      skip
      refine zEq 23 Y ?_;refine gC 0 Y (j6q _) ?_;refine gA 10 Y (d+1) ?_;refine gC 1 Y (ihR _ (d+1) (jRq b d) hR Xd) ?_;refine gS 14 Y (λh3=>?_) (λh3=>?_)
      .refine gO 10 Y ?_;refine zcq 2 Y ?_;have e:T.ok d b (.fork tl tr)=false:=by simp only[T.ok];rw[show tr.ok (d+1) (jRq b d)=false by simpa using h3];simp
       rw[e];exact gQa 0 Y
      .have hk:tr.ok (d+1) (jRq b d)=true:=by simpa using h3
       refine gS 9 Y (λh4=>?_) (λh4=>?_)
       .have hn:nnI tr=1:=by have h4:(0:Int)<r:=h4;unfold nnI;rw[nr,Zt (Zn Xd)]
        refine gWr 2 Y ?_;refine gA 13 Y (2) ?_;exact gAg 2 Y ((2,nnI tl+1,tr.ok (d+1) (jRq b d)&&tr.isFork)) (.inr (.inr ⟨rfl,k1,hk,by simp only[hn],by simp[hk]⟩)) Xi
       .have hn:nnI tr=0:=by have h4:¬(0:Int)<r:=h4;unfold nnI;rw[nr,Zg Xo]
        refine gA 12 Y (2) ?_;exact gAg 2 Y ((2,nnI tl,tr.ok (d+1) (jRq b d)&&tr.isFork)) (.inr (.inr ⟨rfl,k1,hk,by simp only[hn,Int.add_zero],by simp[hk]⟩)) Xi
    .have e:T.ok d b (.fork tl tr)=T.two tl tr:=by simp only[T.ok];rw[Zn hd',k1,k2];rfl
     have e2:(T.fork tl tr).isFork=true:=rfl;rw[e,e2,Bool.and_true]
     have e3:T.two tl tr=((tl.isFork||tr.isFork)||decide (nnI tl+nnI tr=2)):=by
      unfold T.two nnI;congr 1
      cases tl.non<;>cases tr.non<;>rfl
     rw[e3];cases hw:(tl.isFork||tr.isFork) with
     |true=>
      skip
      refine zEq 9 Y ?_;refine gO 0 Y ?_;exact gQa 21 Y
     |false=>
      skip
      refine zEq 9 Y ?_;refine gO 0 Y ?_;refine gU 7 Y ?_;exact gQ 13 Y Xi
def okN(ns:List Node):Prop:=∀i x,ns[i]? =some x->cMq x i
theorem tpq{ns:List Node}(h:okN ns):∀n,n<=ns.length->∃t,Rep ns n t:=by
 intro n;induction n using Nat.strongRecOn with
 |_ n ih=>
  intro hn;cases n with
  |zero=>exact⟨_,.nil⟩
  |succ n=>
   obtain⟨x,hx⟩:∃x,ns[n]? =some x:=⟨_,Za hn⟩
   have h1:=h n x hx;obtain⟨lf,k,v,l,r⟩:=x;cases lf with
   |true=>exact⟨_,.leaf hx⟩
   |false=>
    simp only[cMq,Bool.false_eq_true,if_false] at h1;obtain⟨⟨a1,a2⟩,⟨b1,b2⟩,_⟩:=h1;obtain⟨l,rfl⟩:=Int.eq_ofNat_of_zero_le a1;obtain⟨r,rfl⟩:=Int.eq_ofNat_of_zero_le b1;obtain⟨L,hL⟩:=ih l Xd Xd;obtain⟨R,hR⟩:=ih r Xd Xd;exact⟨_,.fork hx Xd Xd hL hR⟩
theorem Rep.uniq{ns:List Node}{n:Nat}{t:T}(h:Rep ns n t):∀{t':T},Rep ns n t'->t=t':=by
 induction h with
 |nil=>intro t' h';cases h';rfl
 |leaf h=>
  intro t' h';cases h' with
  |leaf h2=>rw[h] at h2;cases h2;rfl
  |fork h2=>rw[h] at h2;cases h2
 |fork h hl hr _ _ i1 i2=>
  intro t' h';cases h' with
  |leaf h2=>rw[h] at h2;cases h2
  |fork h2 _ _ hL hR=>
   rw[h] at h2;simp only[Zk,Node.mk.injEq,Int.natCast_inj,true_and] at h2;obtain⟨_,_,rfl,rfl⟩:=h2;rw[i1 hL,i2 hR]
def ceq(t:Tree):Prop:=t.nodes.length<=262144/\okN t.nodes/\∃(n:Nat) (t0:T),t.root=n/\Rep t.nodes n t0/\t0.ok 0 zeroD=true
noncomputable instance(t:Tree):Decidable (ceq t):=Classical.propDecidable _
theorem k4q(t:Tree)(hb:t.nodes.length<=4611686018427387903):PS cfg G 106 [tW t] (.int .i64 (if ceq t then 0 else 8)):=by
 have e:(t.nodes.map nW).length=t.nodes.length:=Zd _;have no:∀{R:Res} {k0:Nat},¬ceq t->W.int .i64 8=W.int .i64 (if ceq t then 0 else 8):=λh=>by rw[Zg h]
 refine gI 11 Y (λR k0=>gV (w':=.int .i64 (t.nodes.length:Int)) 0 Y Yf ?_);refine gD 0 Y (λh1=>?_) (λh1=>?_)
 .have hno:¬ceq t:=λh=>by have:=h.1;omega
  exact gQ 23 Y Xz
 refine gD 3 Y (λh2=>?_) (λh2=>?_)
 .have hno:¬ceq t:=λh=>by obtain⟨_,_,n,_,h,_⟩:=h;have h2:t.root<0:=h2;omega
  exact gQ 19 Y Xz
 refine gV (w':=.int .i64 (t.nodes.length:Int)) 6 Y Yf (gU 0 Y ?_);refine gS 3 Y (λh3=>?_) (λh3=>?_)
 .have hno:¬ceq t:=λh=>by obtain⟨_,_,n,_,h,hr,_⟩:=h;have h3:(t.nodes.length:Int)<t.root:=h3;have:=hr.le;omega
  exact gQ 7 Y Xz
 have h2:¬t.root<0:=h2;have h3:¬(t.nodes.length:Int)<t.root:=h3;obtain⟨n0,hn0⟩:=Int.eq_ofNat_of_zero_le (show 0<=t.root by omega);refine gV (w':=.int .i64 (t.nodes.length:Int)) 7 Y Yf ?_;refine gLo (α:=Nat) 4 (λi=>i<=t.nodes.length/\∀j x,j<i->t.nodes[j]? =some x->cMq x j) (λi=>[(27,.int .i64 (i:Int))]) [1,2,25,26] (λi=>t.nodes.length-i) (0) rfl (⟨Zi _,λj x hj=>by omega⟩) (λi hI=>?_);obtain⟨hi,hI⟩:=hI;refine gS 6 Y (λh4=>?_) (λh4=>?_)
 .have hi':i<t.nodes.length:=by omega
  obtain⟨x,hx⟩:∃x,t.nodes[i]? =some x:=⟨_,Za hi'⟩
  refine gP 7 Y (zyq (i:=i) Y Y Y Y Y Y Y (zgq nW hx)) (gC 10 Y (AXq _ _ Xd) ?_);refine gS 3 Y (λh5=>?_) (λh5=>?_)
  .have hno:¬ceq t:=λh=>by have:=h.2.1 i x hx;simp[this] at h5
   exact gO 8 Y (gQ 2 Y Xz)
  .have h5:cMq x i:=by simpa using h5
   exact gA 4 Y (i+1) (gAg 2 Y (i+1) (⟨hi',λj y hj hy=>by rcases ZI.1 hj with h|rfl;exact hI j y h hy;exact(ZB (hx.symm.trans hy))▸h5⟩) Xd)
 .have okn:okN t.nodes:=λj x hx=>hI j x (by have:=(Zq.1 hx).1;omega) hx
  obtain⟨t0,ht0⟩:=tpq okn n0 Xd
  have key:ceq t↔t0.ok 0 zeroD=true:=by
   constructor
   .rintro⟨_,_,n,t1,hn,hr,hk⟩;obtain rfl:n=n0:=by omega
    rw[ht0.uniq hr];exact hk
   .exact λh=>⟨by omega,okn,n0,t0,hn0,ht0,h⟩
  refine gO 2 Y (gV 8 Y v8q (Qoq Y Y Y Y Y (by rw[hn0];rfl) (pzq t Xd t0 n0 0 zeroD ht0 Xd) Xi Xi (zhq 13 Y ?_)));refine gS 0 Y (λh5=>?_) (λh5=>?_)
  .have hno:¬ceq t:=λh=>by have:=key.1 h;simp[this] at h5
   exact gQ 7 Y Xz
  .have yes:ceq t:=key.2 (by simpa using h5);exact gQ 8 Y Yn
inductive FTo(ns:List Node)(k:Dig):Nat->Nat->Nat->Prop where
 |nil {d:Nat}:FTo ns k 0 d 0
 |hit {n d:Nat} {v:List UInt8} {l r:Int} (h:ns[n]? =some ⟨true,k,v,l,r⟩):FTo ns k (n+1) d (n+1)
 |miss {n d:Nat} {k':Dig} {v:List UInt8} {l r:Int} (h:ns[n]? =some ⟨true,k',v,l,r⟩) (hk:k'≠k):FTo ns k (n+1) d 0
 |go {n d l r m:Nat} {k':Dig} {v:List UInt8} (h:ns[n]? =some ⟨false,k',v,l,r⟩) (hd:d<256) (hg:FTo ns k (if bitN k d=0 then l else r) (d+1) m):FTo ns k (n+1) d m
theorem wjq{ns:List Node}{k:Dig}{n:Nat}{t:T}(h:Rep ns n t):∀{d:Nat} {b:Dig},t.ok d b=true->∃m,FTo ns k n d m/\(t.find k d=none->m=0)/\∀v,t.find k d=some v->∃j l r,m=j+1/\ns[j]? =some ⟨true,k,v,l,r⟩:=by
 induction h with
 |nil=>exact λ_=>⟨0,.nil,λ_=>rfl,λv h=>by simp[T.find] at h⟩
 |leaf h=>
  rename_i n k' v l r;intro d b _;by_cases e:k'=k
  .subst e;exact⟨n+1,.hit h,λhn=>by simp[T.find] at hn,λw hw=>by simp only[T.find,if_true,Zk] at hw;subst hw;exact⟨n,l,r,rfl,h⟩⟩
  .exact⟨0,.miss h e,λ_=>rfl,λw hw=>by simp[T.find,e] at hw⟩
 |fork h hl hr hL hR i1 i2=>
  intro d b hk;obtain⟨hd,k1,k2,_⟩:=ok_fork.1 hk;by_cases hb:bitN k d=0
  .obtain⟨m,g1,g2,g3⟩:=i1 k1;exact⟨m,.go h hd (by rw[Zt hb];exact g1),by simp only[T.find,Zt hb];exact g2,by simp only[T.find,Zt hb];exact g3⟩
  .obtain⟨m,g1,g2,g3⟩:=i2 k2;exact⟨m,.go h hd (by rw[Zg hb];exact g1),by simp only[T.find,Zg hb];exact g2,by simp only[T.find,Zg hb];exact g3⟩
theorem dyq(k:Dig)(d c:Nat)(h:d<256)(hc:bitN k d=c):PS cfg G 183 [dW k,.int .i64 (d:Int)] (.int .u8 (c:Int)):=hc▸s8q k d h
theorem fWq(t:Tree)(k:Dig)(n m:Nat)(hn:t.root=n)(hf:FTo t.nodes k n 0 m)(hb:t.nodes.length<=4611686018427387903):PS cfg G 107 [tW t,dW k] (.int .i64 (m:Int)):=by
 obtain⟨ns,root⟩:=t;simp only at hn hf hb;subst hn;refine gI 21 Y (λR k0=>?_);refine gLo (α:=Nat×Nat) 0 (λp=>FTo ns k p.1 p.2 m/\p.2<=256) (λp=>[(5,.int .i64 (p.1:Int)),(6,.int .i64 (p.2:Int))]) [2,3,4] (λp=>257-p.2) ((n,0)) rfl (⟨hf,by simp⟩) (λp hI=>?_);obtain⟨i,d⟩:=p;obtain⟨hf,hd⟩:=hI;simp only at hf hd⊢;refine gS 7 Y (λh1=>?_) (λh1=>?_)
 .cases hf with
  |nil=>exfalso;omega
  |hit h=>
   skip
   rename_i i v l r;have hi:=(Zq.1 h).1;refine zPq 9 Y (gA 0 Y (i) (gP 0 Y (zyq (i:=i) Y Y Y Y Y Y Y (zgq nW h)) (gUe 19 Y (yIq Y Y Y Y (yzq Y Y Y Y Y Y _ _ 250)) y9q ?_)));refine gS 2 Y (λh2=>?_) (λh2=>?_)
   .refine gO 11 Y ?_;first|exact gQa 2 Y|(exfalso;omega)
   .exfalso;exact h2 rfl
  |miss h hk=>
   rename_i i k' v l r;have hi:=(Zq.1 h).1;refine zPq 9 Y (gA 0 Y (i) (gP 0 Y (zyq (i:=i) Y Y Y Y Y Y Y (zgq nW h)) (gUe 19 Y (yIq Y Y Y Y (yzq Y Y Y Y Y Y _ _ 250)) y9q ?_)));refine gS 2 Y (λh2=>?_) (λh2=>?_)
   .exfalso;exact hk h2
   .refine gO 11 Y ?_;first|exact gQa 2 Y|(exfalso;omega)
  |go h hd' hg=>
   rename_i i l r k' v;have hi:=(Zq.1 h).1;have bl:=Qbq k d;rcases ZM 0 (bitN k d) with hb1|hb0
   .skip
    have hc:bitN k d=1:=by omega
    rw[Zg Xd] at hg;exact zPq 9 Y (gA 0 Y (i) (gP 0 Y (zyq (i:=i) Y Y Y Y Y Y Y (zgq nW h)) (gC 17 Y (j6q _) (gC 2 Y (dyq k d 1 hd' hc) (gA 7 Y (d+1) (gAg 2 Y ((r,d+1)) (⟨hg,hd'⟩) Xw))))))
   .have hc:bitN k d=0:=by omega
    rw[Zt hc] at hg;exact zPq 9 Y (gA 0 Y (i) (gP 0 Y (zyq (i:=i) Y Y Y Y Y Y Y (zgq nW h)) (gC 17 Y (j6q _) (gC 2 Y (dyq k d 0 hd' hc) (gA 7 Y (d+1) (gAg 2 Y ((l,d+1)) (⟨hg,hd'⟩) Xw))))))
 .obtain rfl:i=0:=by omega
  cases hf;refine gO 2 Y ?_;first|exact gQa 8 Y|(exfalso;omega)
structure IsT(t:Tree)(n:Nat)(t0:T):Prop where
 len:t.nodes.length<=262144
 okn:okN t.nodes
 root:t.root=n
 rep:Rep t.nodes n t0
 ok:t0.ok 0 zeroD=true
theorem IsT.may{t:Tree}{n:Nat}{t0:T}(h:IsT t n t0):ceq t:=⟨h.len,h.okn,n,t0,h.root,h.rep,h.ok⟩
theorem tWq{t:Tree}(h:ceq t):∃n t0,IsT t n t0:=by
 obtain⟨h1,h2,n,t0,h3,h4,h5⟩:=h;exact⟨n,t0,h1,h2,h3,h4,h5⟩
theorem Ytq{ns:List Node}(h:okN ns){i:Nat}{k:Dig}{v:List UInt8}{l r:Int}(hx:ns[i]? =some ⟨true,k,v,l,r⟩):0<v.length/\v.length<=64:=by
 have h1:=h i _ hx;simp only[cMq,if_true] at h1;have h2:=(h1.2.2.2 0 Xi (k,v) rfl).1;simp only[s1q,Zb,Z7] at h2;exact h2
noncomputable def Bfq:Option (List UInt8) ->W
 |none=>.tup [.nils,.bool false]
 |some v=>.tup [bW v,.bool true]
theorem nTq(t:Tree)(n:Nat)(t0:T)(k:Dig)(h:IsT t n t0):PS cfg G 43 [tW t,dW k] (Bfq (t0.find k 0)):=by
 have hl:=h.len;have hy:=h.may;obtain⟨m,f1,f2,f3⟩:=wjq (k:=k) h.rep h.ok;cases hf:t0.find k 0 with
 |none=>
  obtain rfl:=f2 hf;refine gI 12 Y (λR k0=>?_);first|refine gC 0 Y (zoq (w':=.int .i64 0) (k4q t Xd) (by rw[Zt hy])) ?_|refine gC 0 Y (k4q _ Xd) ?_
  exact gC 10 Y (fWq t k n _ h.root f1 Xd) (gQa 19 Y)
 |some v=>
  obtain⟨j,l,r,rfl,hx⟩:=f3 v hf;have hv:=Ytq h.okn hx;have hj:=(Zq.1 hx).1;refine gI 12 Y (λR k0=>?_);first|refine gC 0 Y (zoq (w':=.int .i64 0) (k4q t Xd) (by rw[Zt hy])) ?_|refine gC 0 Y (k4q _ Xd) ?_
  refine gC 10 Y (fWq t k n _ h.root f1 Xd) ?_;refine gS 10 Y (λh1=>?_) (λh1=>?_)
  .exfalso;omega
  .exact gA 7 Y (j) (gP 0 Y (zyq (i:=j) Y Y Y Y Y Y Y (zgq nW hx)) (zcq 2 Y (j8q Y Y Y Y Y Y (Zaq v false Xd) (zhq 5 Y (gQa 0 Y)))))
theorem cqq(t:Tree)(n:Int):PS cfg G 220 [tW t,.int .i64 n] (.fn 253 [] [.fel (.int .i64 n),.fel (tW t)]):=by
 refine gI 14 Y (λR k0=>?_);refine yUq (fr2:=[(4,_)]) Xq ?_ Y Y
 (repeat (first|exact trivial|refine And.symm ⟨?_,_,rfl,?_⟩))<;>(repeat (first|exact .nil|refine .cons ?_ ?_|refine .fn ?_ ?_|(refine yYq Y ?_ rfl;(first|rfl|(focus (simp;done))))|(refine .sl Y ?_ rfl Xk;(first|rfl|(focus (simp;done))))|(refine .pur ?_;(first|rfl|(focus (simp;done))))|refine .agg ?_|refine .arr ?_|refine .tup ?_))
noncomputable def fDq(p:Pr):List W:=[pW p]
theorem fJq{L:Nat}{E:Res->Prop}{b:Bool}{R1:Res}{l:List (List W)}(h:match b with|true=>Yl cfg G L E [] R1|false=>E R1):E R1:=by cases b<;>exact h
def AIq(tl tr:T):Nat->List Pr
 |0=>tl.all++tr.all
 |1=>tr.all
 |_=>[]
theorem uOq{α:Type}{l:List α}{i:Nat}{x:α}(h:l[i]? =some x):l.drop i=x::l.drop (i+1):=by
 obtain⟨hl,h2⟩:=Zq.1 h;rw[List.drop_eq_getElem_cons hl,h2]
theorem lrq(t:Tree)(hv:∀(i:Nat) (k:Dig) (v:List UInt8) (l r:Int),t.nodes[i]? =some (Node.mk true k v l r) ->v.length<=70368744177664)(hb:t.nodes.length<=4611686018427387903):∀(t0:T) (n:Nat),Rep t.nodes n t0->qAq cfg G 253 [.fel (.int .i64 (n:Int)),.fel (tW t)] (t0.all.map fDq):=by
 intro t0;induction t0 with
 |nil=>
  intro n hr;obtain rfl:n=0:=by cases hr;rfl
  refine xOq (fn:=Tryz.f253) Y Y Y (Yb rfl) (λL E R hy k0=>?_);exact zEq 15 Y (kuq Jm rfl hy)
 |leaf k v=>
  intro n hr;have hle:=hr.le;cases hr with
  |leaf h=>
  rename_i n l r;have hvl:=hv _ _ _ _ _ h;refine xOq (fn:=Tryz.f253) Y Y Y (Yb rfl) (λL E R hy k0=>?_);refine zEq 12 Y ?_;refine gS 0 Y (λh1=>?_) (λh1=>?_)
  .exfalso;omega
  .refine gA 7 Y (n) (gP 0 Y (zyq (i:=n) Y Y Y Y Y Y Y (zgq nW h)) (zcq 20 Y (rxq Y Y Y Y Y Y (Zaq v false hvl) Xi Xi Xr (jOq Y Y ?_))));refine qmq rfl (q1q Y Y Y (hy) (λb R1 hb=>?_));refine⟨by first|rfl|kernel_rfl,?_⟩;exact yhq 4 Y (kuq Jm rfl (fJq (l:=[]) hb))
 | fork tl tr ihL ihR=>
  intro n hr;have hle:=hr.le;cases hr with
  |fork h hl hr hL hR=>
  rename_i n l r k v;refine xOq (fn:=Tryz.f253) Y Y Y (Yb rfl) (λL E R hy k0=>?_);refine zEq 12 Y ?_;refine gS 0 Y (λh1=>?_) (λh1=>?_)
  .exfalso;omega
  .refine gA 7 Y (n) (gP 0 Y (zyq (i:=n) Y Y Y Y Y Y Y (zgq nW h)) (gC 18 Y (j6q _) (zcq 4 Y ?_)));refine vBq (α:=Nat×Res) (λp=>p.1<=2/\Yl cfg G L E ((AIq tl tr p.1).map fDq) p.2) (λp=>[(28,.int .i64 (p.1:Int))]) [(2,_),(3,_),(27,_)] (λp=>p.2) (λp=>2-p.1) ((0,R)) ⟨rfl,rfl,rfl,trivial⟩ (⟨by simp,hy⟩) ⟨rfl,trivial⟩ rfl (λp hI=>?_);obtain⟨i,R⟩:=p;obtain⟨hi,hy⟩:=hI;simp only at hi hy⊢;refine zEq 6 Y ?_;refine gS 0 Y (λh2=>?_) (λh2=>?_)
   .have hi':i=0\/i=1:=by omega
    rcases hi' with rfl|rfl
    .skip
     refine gC 14 Y (cqq t l) (zcq 3 Y ?_);refine vAq (fDq) (tl.all) (λi a=>Yl cfg G L E (((tl.all.drop i)++tr.all).map fDq) a) (λa=>a) (R) rfl Xn (ihL _ hL) (λy _=>⟨by simp[fDq],rfl⟩) (hy) rfl (λi a y hy hI=>?_) (λa hI=>?_)
     .have hd:=uOq hy;rw[hd,YW,ZC] at hI;refine zEq 4 Y (Qnq (zEq 5 Y ?_));refine gSo 0 Y (q1q Y Y Y (hI) (λb R1 hb=>?_));refine gS 3 Y (λh3=>?_) (λh3=>?_)
      .cases b with
       |true=>cases h3
       |false=>
        exact zPq 2 Y (ZKq Xk (z0q 3 Y (gO 0 Y (zcq 1 Y (kuq Jm rfl hb)))))
      .cases b with
       |false=>exact absurd rfl h3
       |true=>
        exact zPq 2 Y (ZJq (R1) (hb) Xd Yd rfl)
     .rw[List.drop_length,YX] at hI;exact z0q 4 Y (gA 0 Y (1) (gAg 2 Y ((1,a)) (⟨by simp,hI⟩) Xi))
    .skip
     refine gC 14 Y (cqq t r) (zcq 3 Y ?_);refine vAq (fDq) (tr.all) (λi a=>Yl cfg G L E ((tr.all.drop i).map fDq) a) (λa=>a) (R) rfl Xn (ihR _ hR) (λy _=>⟨by simp[fDq],rfl⟩) (hy) rfl (λi a y hy hI=>?_) (λa hI=>?_)
     .have hd:=uOq hy;rw[hd,ZC] at hI;refine zEq 4 Y (Qnq (zEq 5 Y ?_));refine gSo 0 Y (q1q Y Y Y (hI) (λb R1 hb=>?_));refine gS 3 Y (λh3=>?_) (λh3=>?_)
      .cases b with
       |true=>cases h3
       |false=>
        exact zPq 2 Y (ZKq Xk (z0q 3 Y (gO 0 Y (zcq 1 Y (kuq Jm rfl hb)))))
      .cases b with
       |false=>exact absurd rfl h3
       |true=>
        exact zPq 2 Y (ZJq (R1) (hb) Xd Yd rfl)
     .rw[List.drop_length] at hI;exact z0q 4 Y (gA 0 Y (2) (gAg 2 Y ((2,a)) (⟨by simp,hI⟩) Xi))
   .refine gO 2 Y (zcq 1 Y ?_);obtain rfl:i=2:=by omega
    exact kuq (.inl rfl) rfl hy
noncomputable def psW(ps:List Pr):W:=.fz (ps.map pW) 33 false
@[simp] theorem psW_p(ps:List Pr):abq (psW ps)=true:=cHq ps
noncomputable def gat(ps:List Pr):HpW:=match ps with
 |[]=>[(0,155,.nils)]
 |_=>[(0,155,.sl 1 0 0 ps.length 33 none),(1,158,.arr (ps.length*33) 33 (ps.map pW))]
theorem eaq(a:List Pr)(y:Pr):gat (a++[y])=[(0,155,.sl 1 0 0 (a.length+1) 33 none),(1,158,.arr ((a.length+1)*33) 33 (a.map pW++[pW y]))]:=by
 cases a with
 |nil=>rfl
 |cons x a=>simp[gat]
theorem Agq{a:List Pr}{y:Pr}{n:Nat}(e:Nat):abq (.arr n e (a.map pW++[pW y]))=true:=by simp
theorem w8q(f:FuncId)(cs:List W)(ls:List Pr)(hc:acq cs=true)(it:qAq cfg G f cs (ls.map fDq))(hb:ls.length<=1000000000):PS cfg G 252 [.nils,.fn f [] cs] (psW ls):=by
 refine gIv 13 Y (λR k0=>?_);refine ikq (α:=List Pr) (fDq) (ls) (λi a=>a=ls.take i) (λa=>gat a) (λa=>(match a with|[]=>1|_=>2)) (λa=>R) ([]) rfl Xn (it) (λy _=>⟨by simp[fDq],rfl⟩) (rfl) Y Y Y (λi a y hy hI=>?_) (λa hI=>?_)
 .have hi:=(Zq.1 hy).1;have hn:ls.take (i+1)=a++[y]:=by rw[YF,hy,hI];rfl
  cases a with
  |nil=>
   skip
   refine zEq 4 Y (Qnq (zEq 5 Y (gM 0 Y (qaq Y Y (uUq (news:=[pW y]) (k:=ti158) Y Y Y Y (umq Y Y Y Y) Xi (by show 1*ti158.bytes<=_;decide) (by show 1<=_;decide))) (zcq 3 Y (Jwq (ls.take (i+1)) Y ?_)))));rw[hn,eaq];refine qdq (b:=1) (k:=3) Xd Xd (by show 3<4;omega) trivial ⟨⟨by omega,rfl,rfl⟩,⟨by omega,?_,zaq (Agq _)⟩,trivial⟩ Xi;rw[zfq (Agq _)];rfl
  |cons x a=>
   have hl:(x::a).length<=1000000000:=by rw[hI,Zu];omega
   have el:((x::a).map pW).length=(x::a).length:=Zd _;refine zEq 4 Y (Qnq (zEq 5 Y (gM 0 Y (qaq Y Y (qOq (len:=(x::a).length) (news:=[pW y]) (olds:=(x::a).map pW) (k:=ti158) Y Y Y Y (umq Y Y Y Y) Xi (by show((x::a).length+1)*56<=_;omega) (by show(x::a).length+1<=_;omega) rfl (by show(x::a).length*33<0+((x::a).length+1)*33;omega) rfl (zvq Xg el.symm rfl))) (zcq 3 Y (Jwq (ls.take (i+1)) Y ?_)))));rw[hn,eaq];refine qdq (b:=1) (k:=4) Xd Xd (by show 4<5;omega) trivial ⟨⟨by omega,rfl,rfl⟩,⟨by omega,?_,zaq (Agq _)⟩,trivial⟩ Xi;rw[zfq (Agq _)];rfl
 .obtain rfl:a=ls:=by rw[hI,List.take_length]
  cases a with
  |nil=>
   skip
   refine z0q 9 Y (yTq Xq Y ?_)
   (repeat (first|exact .nil|refine .cons ?_ ?_|exact z9q|exact .nilfz|refine .fn ?_ ?_|(refine yYq Y ?_ rfl;(first|rfl|(focus (simp;done))))|(refine .sl Y ?_ rfl Xk;(first|rfl|(focus (simp;done))))|(refine .pur ?_;(first|rfl|(focus (simp;done))))|(refine .fzw ?_;(first|rfl|(focus (simp;done))))|refine .agg ?_|refine .arr ?_|refine .tup ?_))
  |cons x a=>
   exact z0q 9 Y (yTq Xq Y (.sl rfl (by show acq ((x::a).map pW)=true;exact cHq _) (zvq Xg (Zd _).symm rfl) Xk))
theorem ihq(f:FuncId)(cs:List W)(ls:List Pr)(hc:acq cs=true)(it:qAq cfg G f cs (ls.map fDq))(hb:ls.length<=1000000000):PS cfg G 219 [.fn f [] cs] (psW ls):=by
 exact gI 8 Y (λR k0=>Qoq Y Y Y Y Y Y (w8q f cs ls hc it hb) (by simp[hc]) Xi (zhq 4 Y (gQa 0 Y)))
theorem d1q{α:Type} [DecidableEq α]:∀(l m:List α),l.Nodup->(∀x∈l,x∈m) ->l.length<=m.length
 |[],m,_,_=>Zi _
 |x::l,m,hn,hs=>by
  obtain⟨h1,h2⟩:=Y0.1 hn;have hx:=hs x Xi;have ih:=d1q l (m.erase x) h2 λy hy=>(List.mem_erase_of_ne (λe:y=x=>h1 (by rw[<-e];exact hy))).2 (hs y (by simp[hy]))
  rw[List.length_erase_of_mem hx] at ih;have:0<m.length:=List.length_pos_of_mem hx;simp only[Zv];omega
theorem gDq{ns:List Node}{n:Nat}{t:T}(h:Rep ns n t):∀p∈t.all,∃(i:Nat) (l r:Int),ns[i]? =some (Node.mk true p.1 p.2 l r):=by
 induction h with
 |nil=>intro p hp;simp[T.all] at hp
 |leaf h=>intro p hp;simp only[T.all,Y4] at hp;subst hp;exact⟨_,_,_,h⟩
 |fork h hl hr _ _ i1 i2=>
  intro p hp;rcases ZT.1 hp with hp|hp
  .exact i1 p hp
  .exact i2 p hp
theorem f9q{l:List Pr}(h:Srt l):(l.map (·.1)).Nodup:=by
 rw[List.nodup_iff_pairwise_ne,List.pairwise_map];exact h.imp λh=>ujq h
theorem IsT.srt{t:Tree}{n:Nat}{t0:T}(h:IsT t n t0):Srt t0.all:=g7q cfq h.ok
theorem IsT.all_le{t:Tree}{n:Nat}{t0:T}(h:IsT t n t0):t0.all.length<=t.nodes.length:=by
 have:=d1q (t0.all.map (·.1)) (t.nodes.map (·.key)) (f9q h.srt) λk hk=>by
  obtain⟨p,hp,rfl⟩:=Z1.1 hk;obtain⟨i,l,r,hx⟩:=gDq h.rep p hp;exact Z1.2 ⟨_,Zf hx,rfl⟩
 simpa using this
theorem IsT.val{t:Tree}{n:Nat}{t0:T}(h:IsT t n t0):∀p∈t0.all,0<p.2.length/\p.2.length<=64:=λp hp=>by
 obtain⟨i,l,r,hx⟩:=gDq h.rep p hp;exact Ytq h.okn hx
theorem lpq(t:Tree)(n:Nat)(t0:T)(h:IsT t n t0):PS cfg G 180 [tW t] (.tup [psW t0.all,.int .i64 0]):=by
 have hl:=h.len;have hy:=h.may;have ha:=h.all_le;have hr:=h.root;obtain⟨ns,root⟩:=t;simp only at hl hr ha;subst hr;exact gI 11 Y (λR k0=>gC 0 Y (zoq (w':=.int .i64 0) (k4q ⟨ns,(n:Int)⟩ Qk) (by rw[Zt hy])) (zcq 17 Y (j8q Y Y Y Y Y Y (cqq ⟨ns,(n:Int)⟩ (n:Int)) (j8q Y Y Y Y Y Y (ihq _ _ t0.all Xi (lrq ⟨ns,(n:Int)⟩ (λi k v l r hx=>by have:=(Ytq h.okn hx).2;omega) Qk t0 n h.rep) Xd) (zhq 5 Y (gQa 0 Y))))))
theorem fVq(t:Tree)(hb:t.nodes.length<=4611686018427387903)(h:¬ceq t):PS cfg G 180 [tW t] (.tup [.nils,.int .i64 8]):=by
 exact gI 11 Y (λR k0=>gC 0 Y (zoq (w':=.int .i64 8) (k4q t hb) (by rw[Zg h])) (gQa 19 Y))
theorem iPq(t:Tree):PS cfg G 105 [tW t] (.fn 179 [] [.fel (tW t)]):=by
 refine gI 13 Y (λR k0=>?_);refine yUq (fr2:=[(2,_)]) Xq ?_ Y Y
 (repeat (first|exact trivial|refine And.symm ⟨?_,_,rfl,?_⟩))<;>(repeat (first|exact .nil|refine .cons ?_ ?_|refine .fn ?_ ?_|(refine yYq Y ?_ rfl;(first|rfl|(focus (simp;done))))|(refine .sl Y ?_ rfl Xk;(first|rfl|(focus (simp;done))))|(refine .pur ?_;(first|rfl|(focus (simp;done))))|refine .agg ?_|refine .arr ?_|refine .tup ?_))
noncomputable def wzq(p:Pr):List W:=[aW (kBq p.2).1,.bool (decide ((((kBq p.2).2:Nat):Int)=0))]
noncomputable def B5q(_:Unit):List W:=[aW .zero,.bool false]
theorem nDq(t:Tree)(hb:t.nodes.length<=4611686018427387903)(h:¬ceq t):qAq cfg G 179 [.fel (tW t)] ([()].map B5q):=by
 refine xOq (fn:=Tryz.f179) Y Y Y (Yb rfl) (λL E R hy k0=>?_);refine zEq 3 Y (gC 0 Y (fVq t hb h) ?_);refine gSo 19 Y (q1q Y Y Y (hy) (λb R1 hb=>?_));exact zcq 4 Y (kuq Jm rfl (fJq (l:=[]) hb))
theorem nEq(t:Tree)(n:Nat)(t0:T)(h:IsT t n t0):qAq cfg G 179 [.fel (tW t)] (t0.all.map wzq):=by
 have e:(t0.all.map pW).length=t0.all.length:=Zd _;have hl:=h.len;have ha:=h.all_le;refine xOq (fn:=Tryz.f179) Y Y Y (Yb rfl) (λL E R hy k0=>?_);refine zEq 3 Y (gC 0 Y (lpq t n t0 h) (gV (w':=.int .i64 (t0.all.length:Int)) 20 Y Yf (zcq 4 Y ?_)));refine vBq (α:=Nat×Res) (λp=>p.1<=t0.all.length/\Yl cfg G L E ((t0.all.drop p.1).map wzq) p.2) (λp=>[(21,.int .i64 (p.1:Int))]) [(0,_),(19,_),(20,_)] (λp=>p.2) (λp=>t0.all.length-p.1) ((0,R)) ⟨rfl,rfl,rfl,trivial⟩ (⟨by simp,hy⟩) ⟨rfl,trivial⟩ rfl (λp hI=>?_);obtain⟨i,R⟩:=p;obtain⟨hi,hy⟩:=hI;simp only at hi hy⊢;refine zEq 6 Y ?_;refine gS 0 Y (λh1=>?_) (λh1=>?_)
 .have hi':i<t0.all.length:=by omega
  obtain⟨x,hx⟩:∃x,t0.all[i]? =some x:=⟨_,Za hi'⟩
  have hv:=h.val x (Zf hx);rw[uOq hx,ZC] at hy;refine gP 6 Y (zyq (i:=i) Y Y Y Y Y Y Y (zgq pW hx)) (zcq 9 Y (j8q Y Y Y Y Y Y (iIq x.2 false Xd) (zhq 13 Y (gU 0 Y ?_))));refine gSo 0 Y (q1q Y Y Y (hy) (λb R1 hb=>?_));refine gS 3 Y (λh2=>?_) (λh2=>?_)
  .cases b with
   |true=>cases h2
   |false=>
    exact zPq 3 Y (gO 0 Y (zcq 1 Y (kuq Jm rfl hb)))
  .cases b with
   |false=>exact absurd rfl h2
   |true=>
    exact zPq 4 Y (gA 0 Y (i+1) (gAg 2 Y ((i+1,R1)) (⟨hi',hb⟩) Xw))
 .refine gO 2 Y (zcq 1 Y ?_);obtain rfl:i=t0.all.length:=by omega
  rw[List.drop_length] at hy;exact kuq (.inl rfl) rfl hy
theorem rNq{l:List Pr}:∀y∈l,acq (wzq y)=true/\(wzq y).length=2:=λy _=>⟨rfl,rfl⟩
structure IsA(t:Tree)(n:Nat)(t0:T):Prop extends IsT t n t0 where
 held:∀p∈t0.all,(kBq p.2).2=0
def nJq(t:Tree):Prop:=∃n t0,IsA t n t0
noncomputable instance(t:Tree):Decidable (nJq t):=Classical.propDecidable _
theorem xwq(t:Tree)(hb:t.nodes.length<=4611686018427387903):PS cfg G 42 [tW t] (.int .i64 (if nJq t then 0 else 8)):=by
 by_cases h:ceq t
 .obtain⟨n,t0,h⟩:=tWq h;refine gI 10 Y (λR k0=>gC 0 Y (iPq _) (zcq 3 Y ?_));refine vAq (wzq) (t0.all) (λi (_:Unit)=>∀j p,j<i->t0.all[j]? =some p->(kBq p.2).2=0) (λ_=>R) (()) rfl Xn (nEq t n t0 h) (rNq) (λj p hj=>by omega) rfl (λi a y hy hI=>?_) (λa hI=>?_)
  .refine zEq 3 Y (Qnq (zEq 7 Y ?_));refine gS 0 Y (λh1=>?_) (λh1=>?_)
   .have hno:¬nJq t:=by
     rintro⟨n',t1,ha⟩;obtain rfl:n'=n:=by have:=ha.root;have:=h.root;omega
     obtain rfl:=ha.rep.uniq h.rep;have:=ha.held y (Zf hy);rw[this] at h1;simp at h1
    exact zcq 7 Y (ZKq Xk (z0q 2 Y (gQ 0 Y Xz)))
   .have hok:(kBq y.2).2=0:=by simp at h1;omega
    exact zcq 2 Y (ZJq (()) (λj p hj hp=>by rcases ZI.1 hj with q|rfl;exact hI j p q hp;exact(ZB (hy.symm.trans hp))▸hok) Xd Yd rfl)
  .have yes:nJq t:=⟨n,t0,h,λp hp=>by
    obtain⟨j,hj,hjp⟩:=List.getElem_of_mem hp;exact hI j p hj (by rw[Za hj,hjp])⟩
   exact z0q 8 Y (gQ 0 Y Yn)
 .have hno:¬nJq t:=λ⟨n,t0,ha⟩=>h ha.toIsT.may
  refine gI 10 Y (λR k0=>gC 0 Y (iPq _) (zcq 3 Y ?_));refine Y0q (B5q) ([()]) (λi=>i=0) rfl Xn (nDq t hb h) (λy _=>⟨rfl,rfl⟩) (rfl) (λi y hy hI=>?_) (λhI=>?_)
  .exact zEq 3 Y (Qnq (zEq 15 Y (jMq Xk (z0q 2 Y (gQ 0 Y Xz)))))
  .exfalso;simp at hI
def usq(t0:T)(k:Dig):Acct:=match t0.find k 0 with
 |none=>.zero
 |some v=>(kBq v).1
theorem IsA.acct{t:Tree}{n:Nat}{t0:T}(h:IsA t n t0){k:Dig}{v:List UInt8}(hv:t0.find k 0=some v):(k,v)∈t0.all/\(kBq v).2=0:=by
 rw[YJq k cfq h.ok] at hv;have:=(fnq h.srt).1 hv;exact⟨this,h.held _ this⟩
theorem oMq(t:Tree)(n:Nat)(t0:T)(h:IsA t n t0)(k:Dig):PS cfg G 11 [tW t,dW k] (.tup [aW (usq t0 k),.int .i64 0]):=by
 have yes:nJq t:=⟨n,t0,h⟩;have hl:=h.len;cases hf:t0.find k 0 with
 |none=>
  have e:usq t0 k= .zero:=by unfold usq;rw[hf]
  rw[e];refine gI 12 Y (λR k0=>?_);first|refine gC 0 Y (zoq (w':=.int .i64 0) (xwq t Xd) Yn) ?_|refine gC 0 Y (xwq _ Xd) ?_
  exact gC 16 Y (zoq (w':=.tup [.nils,.bool false]) (nTq t n t0 k h.toIsT) (by rw[hf];rfl)) (gQa 24 Y)
 |some v=>
  obtain⟨h1,h2⟩:=h.acct hf;have hv:=h.val _ h1;have e:usq t0 k=(kBq v).1:=by unfold usq;rw[hf]
  rw[e];refine gI 12 Y (λR k0=>?_);first|refine gC 0 Y (zoq (w':=.int .i64 0) (xwq t Xd) Yn) ?_|refine gC 0 Y (xwq _ Xd) ?_
  exact gC 16 Y (zoq (w':=.tup [bW v,.bool true]) (nTq t n t0 k h.toIsT) (by rw[hf];rfl)) (zcq 20 Y (j8q Y Y Y Y Y Y (iIq v false (by simp only at hv;omega)) (zhq 7 Y (gQ 0 Y (by rw[h2];rfl)))))
noncomputable def nsW(ns:List Node):W:=.arr (ns.length*36) 36 (ns.map nW)
@[simp] theorem miq(ns:List Node):abq (nsW ns)=true:=cOq ns
theorem mpq(ns:List Node)(f:Bool)(hl:ns.length<=1000000000):yxq cfg G 193 0 [.fz (ns.map nW) 36 f] [] λw hp nw=>
  (ns=[]/\w= .nils/\hp=[]/\nw=0)\/(w= .sl 0 0 0 ns.length 36 none/\hp=[(0,223,nsW ns)]/\nw=1):=by
 intro R;have e:(ns.map nW).length=ns.length:=Zd _;refine gIs 9 Y (λk0=>?_);first|refine yyq Y Y ?_|refine zsq rfl (juq Y Y Y Y Y (λbn hn=>?_))
 refine zhq 2 Y ?_;refine gS 0 Y (λh1=>?_) (λh1=>?_)
 .cases bn with
  |false=>cases h1
  |true=>
   have hn:=hn rfl
   have hl0:ns=[]:=by cases ns with
    |nil=>rfl
    |cons c l=>simp at hn
   exact zPq 7 Y (fin Jm Ent.refl rfl ⟨rfl,.inl ⟨hl0,rfl,rfl,rfl⟩⟩)
 .cases ns with
  |nil=>
   skip
   exact zPq 6 Y (gM 0 Y (qaq Y Y (jPq Y Y Y Y Y)) (zcq 4 Y (fin Jm Ent.refl rfl ⟨rfl,.inr ⟨rfl,rfl,rfl⟩⟩)))
  |cons c l=>
   refine zPq 6 Y (gM 0 Y (qaq Y Y (qOq (len:=0) (news:=(c::l).map nW) (olds:=[]) (k:=ti223) Y Y Y Y Y Xi (by show(0+((c::l).map nW).length)*ti223.bytes<=_;rw[e];show(0+(c::l).length)*80<=_;omega) Yp rfl (by show 0<0+(0+((c::l).map nW).length)*36;rw[e];simp only[Zv];omega) Y Y)) (zcq 4 Y ?_));refine fin Jm (qdq (b:=0) (k:=1) (fr2:=[(2,.sl 0 0 0 (c::l).length 36 none)]) (hp2:=[(0,223,nsW (c::l))]) Xd Xd (by show 1<2;omega) ⟨⟨?_,rfl⟩,trivial⟩ ⟨⟨by omega,?_,zaq (miq _)⟩,trivial⟩ Xi) rfl ⟨rfl,.inr ⟨rfl,rfl,rfl⟩⟩
   .show some (W.sl 1 0 0 (0+((c::l).map nW).length) 36 none)=some (W.sl 1 0 0 (c::l).length 36 none);rw[e,ZN]
   .rw[zfq (miq _)];show some (223,W.arr ((0+((c::l).map nW).length)*36) 36 ([]++(c::l).map nW))=some (223,nsW (c::l));rw[e,ZN];rfl
theorem mlq(ns:List Node){i:Nat}{x:Node}(h:ns[i]? =some x):zYq 50 (nsW ns) (0+i*36+33) 1 false=some (bW x.val):=
 xRq (zgq nW h) Xd Xd Xi rfl
theorem mkq(ns:List Node){i:Nat}{x:Node}(h:ns[i]? =some x):yoq 50 (nsW ns) (0+i*36+33) (bW x.val)=some (nsW ns):=by
 have h1:=zgq nW h;rw[nsW,QFq (x':=nW x) h1 Xd Xd (by simp[W.isAgg,bW]) rfl,k8q h1]
theorem s6q(ns:List Node)(root:Int)(hl:ns.length<=1000000000)(hv:∀x∈ns,x.val.length<=70368744177664):yxq cfg G 127 0 [tW ⟨ns,root⟩] [] λw hp nw=>
  (ns=[]/\w= .agg 2 [.nils,.int .i64 root]/\hp=[(1,28,.agg 2 [.nils,.int .i64 root]),(0,28,.agg 2 [.nils,.int .i64 root])]/\nw=2)\/
  (w= .agg 2 [.sl 2 0 0 ns.length 36 none,.int .i64 root]/\hp=[(2,223,nsW ns),(1,28,.agg 2 [.sl 2 0 0 ns.length 36 none,.int .i64 root]),(0,28,.agg 2 [.sl 2 0 0 ns.length 36 none,.int .i64 root])]/\nw=3):=by
 intro R;refine gIs 10 Y (λk0=>?_);skip
 refine gSo 0 Y (yMq Y Y Y Y Y (by simp[cOq]) (mpq ns false hl) ?_);rintro w hp1 nw1 (⟨hn,rfl,rfl,rfl⟩|⟨rfl,rfl,rfl⟩)
 .skip
  skip
  refine gL 9 Y ?_;refine gLo (α:=Nat) 4 (λi=>i=0) (λi=>[(11,.int .i64 (i:Int))]) [1,2,10] (λi=>1-i) (0) rfl (rfl) (λi hI=>?_);subst hI;exact gO 9 Y (zcq 9 Y (fin Jm Ent.refl rfl ⟨rfl,.inl ⟨hn,rfl,rfl,rfl⟩⟩))
 .rw[z3q (miq _)];show OpW cfg G _ _ _ _ [(2,223,nsW ns),(1,28,.agg 2 [.nils,.int .i64 0]),(0,28,tW ⟨ns,root⟩)] 3 R _;refine zhq 9 Y (gL 0 Y ?_);refine gLo (α:=Nat) 4 (λi=>i<=ns.length) (λi=>[(11,.int .i64 (i:Int))]) [1,2,10] (λi=>ns.length-i) (0) rfl (Zi _) (λi hI=>?_);refine gS 6 Y (λh1=>?_) (λh1=>?_)
  .have hi:i<ns.length:=by omega
   obtain⟨x,hx⟩:∃x,ns[i]? =some x:=⟨_,Za hi⟩
   have hxv:=hv x (Zf hx);refine gP 17 Y (qbq (i:=i) Y Y Y Y Y Y Y hi) (gM 1 Y (z7q Y Y Y (mlq ns hx)) (rxq Y Y Y Y Y Y (Zaq x.val false hxv) Xi Xi Xr ?_));refine jOq rfl (qbq (i:=i) Y Y Y Y Y Y Y hi) (jOq Y Y ?_);exact vqq rfl (Jpq Y Y Y Y Y (mkq ns hx)) Xr (yhq 4 Y (gA 0 Y (i+1) (gAg 2 Y (i+1) (hi) Xd)))
  .exact gO 2 Y (zcq 9 Y (fin Jm Ent.refl rfl ⟨rfl,.inr ⟨rfl,rfl,rfl⟩⟩))
noncomputable def mkW(b n:Nat)(root:Int):W:=.agg 2 [.sl b 0 0 n 36 none,.int .i64 root]
theorem oYq{hp:HpW}{b:Nat}{ns:List Node}{root:Int}(h:hget hp b=some (223,nsW ns)):View (apq hp) (mkW b ns.length root) (tW ⟨ns,root⟩):=
 .agg (.cons (.sl (c:=nsW ns) (by unfold apq;rw[h]) (miq ns) (zvq Xg (Zd _).symm rfl) Xk) (.cons (.pur rfl) .nil))
noncomputable def ADq(l:List Pr)(k:Dig)(a:Acct):List Pr:=if a= .zero then laq l k else withL l k (wVq a)
def Jeq(t:Tree)(m:Nat):Prop:=m<t.nodes.length\/∃i x,i<=m/\t.nodes[i]? =some x/\100<x.val.length
noncomputable instance(t:Tree)(m:Nat):Decidable (Jeq t m):=Classical.propDecidable _
theorem hIq(t:Tree)(m:Nat)(hb:t.nodes.length<=4611686018427387903)(hm:m<=4611686018427387903):PS cfg G 141 [tW t,.int .i64 (m:Int)] (.bool (decide (Jeq t m))):=by
 have e:(t.nodes.map nW).length=t.nodes.length:=Zd _;refine gI 13 Y (λR k0=>?_);refine gLo (α:=Nat) 0 (λi=>i<=t.nodes.length/\∀j x,j<i->t.nodes[j]? =some x->x.val.length<=100) (λi=>[(5,.int .i64 (i:Int))]) [1,2,4] (λi=>t.nodes.length-i) (0) rfl (⟨Zi _,λj x h=>by omega⟩) (λi hI=>?_);obtain⟨hI,hJ⟩:=hI;refine gV (w':=.int .i64 (t.nodes.length:Int)) 6 Y Yf ?_;refine gD 0 Y (λh1=>?_) (λh1=>?_)
 .have hi:i<t.nodes.length:=by omega
  obtain⟨x,hx⟩:∃x,t.nodes[i]? =some x:=⟨_,Za hi⟩
  have ex:=zqq x.val;refine gU 3 Y ?_;refine gS 3 Y (λh2=>?_) (λh2=>?_)
  .refine gP 9 Y (zyq (i:=i) Y Y Y Y Y Y Y (zgq nW hx)) ?_;refine gV (w':=.int .i64 (x.val.length:Int)) 2 Y (by rw[<-ex];rfl) ?_;refine gS 3 Y (λh3=>?_) (λh3=>?_)
   .refine gO 8 Y ?_;exact gQ 2 Y (by rw[Zn (show Jeq t m from .inr ⟨i,x,by omega,hx,by omega⟩)])
   .refine gA 5 Y (i+1) ?_;exact gAg 2 Y (i+1) (⟨hi,λj y hj hy=>by rcases ZI.1 hj with q|rfl;exact hJ j y q hy;have:=ZB (hx.symm.trans hy);subst this;omega⟩) Xd
  .refine gO 2 Y ?_;refine gV (w':=.int .i64 (t.nodes.length:Int)) 6 Y Yf ?_;refine gU 1 Y ?_;exact gQ 4 Y (by rw[Zn (show Jeq t m from .inl Xd)];congr 1;exact Zn (show(m:Int)<(t.nodes.length:Int) by omega))
 .refine gO 10 Y ?_;refine gV (w':=.int .i64 (t.nodes.length:Int)) 6 Y Yf ?_;refine gU 1 Y ?_;refine gQ 4 Y ?_;congr 1
  refine Z9.2 ⟨λq=>.inl (show m<t.nodes.length by have q:(m:Int)<(t.nodes.length:Int):=q;omega),?_⟩;rintro(q|⟨j,x,_,hx,hq⟩)
  .show(m:Int)<(t.nodes.length:Int);omega
  .have:=hJ j x (by have:=(Zq.1 hx).1;omega) hx;omega
end
section
variable {kfn:List V->Heap->Option (V×Heap)}
noncomputable def caq(x n:Nat):Nat:=Nat.lor (Nat.shiftLeft x (32-n)%4294967296%4294967296) (Nat.shiftRight x n%4294967296)
noncomputable def aIq(a b:Nat):Nat:=(a+b)%4294967296
noncomputable def cgq(a b:Nat):Nat:=Nat.xor (a%4294967296) (b%4294967296)
noncomputable def xnq(a b:Nat):Nat:=Nat.land (a%4294967296) (b%4294967296)
noncomputable def Acq(a k:Nat):Nat:=Nat.shiftRight a (min k 32)
noncomputable def ABq(a k:Nat):Nat:=Nat.shiftLeft a (min k 32)%4294967296
noncomputable def orN(a b:Nat):Nat:=Nat.lor (a%4294967296) (b%4294967296)
noncomputable def notN(a:Nat):Nat:=Nat.xor (4294967295%4294967296) (a%4294967296)
noncomputable def wd(x:Nat):W:=.int .u32 (.ofNat x)
theorem jsq(n:Nat)(hn:n=2\/n=6\/n=7\/n=11\/n=13\/n=17\/n=18\/n=19\/n=22\/n=25)(G:Nat->Option W)(x:Nat):PS (fEq kfn) G 233 [wd x,.int .i64 (.ofNat n)] (wd (caq x n)):=by
 have key:∀h,yPq (fEq kfn) 20 233 [.int .u32 (.ofNat x),.int .i64 (.ofNat n)] h=some (.int .u32 (.ofNat (caq x n)),h):=by
  intro h;rcases hn with rfl|rfl|rfl|rfl|rfl|rfl|rfl|rfl|rfl|rfl<;>kernel_rfl
 refine kOq (lDq key (λΓ us h=>?_) (λΓ=>RV_int.2 rfl)) λw hp nw h=>h.1
 obtain⟨v,vs,rfl,h1,h2⟩:=RVL_cons.1 h;obtain⟨v',vs',rfl,h3,h4⟩:=RVL_cons.1 h2;rw[RVL_nil.1 h4,RV_int.1 h1,RV_int.1 h3]
end
section
variable {kfn:List V->Heap->Option (V×Heap)}
attribute [local irreducible] CoW OpW FlW aeq aiq
noncomputable def sUq(b0 b1 b2 b3:Nat):Nat:=orN (orN (orN (ABq (b0%4294967296) 24) (ABq (b1%4294967296) 16)) (ABq (b2%4294967296) 8)) (b3%4294967296)
noncomputable def e8q(bs:Nat->Nat)(l:List Nat):Nat:=match Nat.blt l.length 16 with
 |true=>sUq (bs (4*l.length)) (bs (4*l.length+1)) (bs (4*l.length+2)) (bs (4*l.length+3))
 |false=>aIq (aIq (aIq (l.getD (l.length-16) 0) (cgq (cgq (caq (l.getD (l.length-15) 0) 7) (caq (l.getD (l.length-15) 0) 18)) (Acq (l.getD (l.length-15) 0) 3))) (l.getD (l.length-7) 0)) (cgq (cgq (caq (l.getD (l.length-2) 0) 17) (caq (l.getD (l.length-2) 0) 19)) (Acq (l.getD (l.length-2) 0) 10))
noncomputable def qxq(bs:Nat->Nat):Nat->List Nat
 |0=>[]
 |t+1=>qxq bs t++[e8q bs (qxq bs t)]
theorem bcq(bs:Nat->Nat):∀t,(qxq bs t).length=t
 |0=>rfl
 |t+1=>by simp[qxq,bcq bs t]
theorem JNq{l:List Nat}{i:Nat}(h:i<l.length):(l.map wd)[i]? =some (wd (l.getD i 0)):=by
 simp[ZY,Za h,List.getD]
noncomputable def kW:List Nat:=[1116352408,1899447441,3049323471,3921009573,961987163,1508970993,2453635748,2870763221,3624381080,310598401,607225278,1426881987,1925078388,2162078206,2614888103,3248222580,3835390401,4022224774,264347078,604807628,770255983,1249150122,1555081692,1996064986,2554220882,2821834349,2952996808,3210313671,3336571891,3584528711,113926993,338241895,666307205,773529912,1294757372,1396182291,1695183700,1986661051,2177026350,2456956037,2730485921,2820302411,3259730800,3345764771,3516065817,3600352804,4094571909,275423344,430227734,506948616,659060556,883997877,958139571,1322822218,1537002063,1747873779,1955562222,2024104815,2227730452,2361852424,2428436474,2756734187,3204031479,3329325298]
noncomputable def glK:Nat->Option W:=λg=>match g with
 |1=>some (.arr 64 1 (kW.map wd))
 |_=>none
noncomputable def aPq(l:List Nat)(n:Nat):List Nat:=l++List.replicate (n-l.length) 0
theorem p2q{l:List Nat}{n i:Nat}(h:i<l.length):((aPq l n).map wd)[i]? =some (wd (l.getD i 0)):=by
 have:i<(aPq l n).length:=by simp[aPq];omega
 rw[JNq this];simp[aPq,List.getD,YZ,h]
theorem p1q{l:List Nat}{n:Nat}(h:l.length<n):((aPq l n).map wd)[l.length]? =some (wd 0):=by
 have:l.length<(aPq l n).length:=by simp[aPq];omega
 rw[JNq this];simp[aPq,List.getD,YZ,List.getElem?_replicate,show 0<n-l.length by omega]
theorem l8q{l:List Nat}{n x:Nat}(h:l.length<n):((aPq l n).map wd).set l.length (wd x)=(aPq (l++[x]) n).map wd:=by
 rw[<-List.map_set];congr 1
 unfold aPq;rw[List.set_append_right _ _ (Zc _)];have:n-l.length=(n-(l++[x]).length)+1:=by simp;omega
 rw[this,Nat.sub_self,List.replicate_succ,List.set_cons_zero,Zz];rfl
structure S8 where
 (a b c d e f g h:Nat)
noncomputable def S8.l(s:S8):List W:=[wd s.a,wd s.b,wd s.c,wd s.d,wd s.e,wd s.f,wd s.g,wd s.h]
noncomputable def tnq(k w:Nat)(v:S8):S8:=
 let one:=aIq (aIq (aIq (aIq v.h (cgq (cgq (caq v.e 6) (caq v.e 11)) (caq v.e 25))) (cgq (xnq v.e v.f) (xnq (notN v.e) v.g))) k) w
 let two:=aIq (cgq (cgq (caq v.a 2) (caq v.a 13)) (caq v.a 22)) (cgq (cgq (xnq v.a v.b) (xnq v.a v.c)) (xnq v.b v.c))
 ⟨aIq one two,v.a,v.b,v.c,aIq v.d one,v.e,v.f,v.g⟩
noncomputable def QEq(ws:List Nat)(s:S8):Nat->S8
 |0=>s
 |t+1=>tnq (kW.getD t 0) (ws.getD t 0) (QEq ws s t)
noncomputable def Caq(s v:S8):S8:=⟨aIq s.a v.a,aIq s.b v.b,aIq s.c v.c,aIq s.d v.d,aIq s.e v.e,aIq s.f v.f,aIq s.g v.g,aIq s.h v.h⟩
noncomputable def urq(bs:Nat->Nat)(s:S8):S8:=Caq s (QEq (qxq bs 64) s 64)
theorem t7q:kW.length=64:=rfl
noncomputable def S8.get(s:S8):Nat->Nat
 |0=>s.a
 |1=>s.b
 |2=>s.c
 |3=>s.d
 |4=>s.e
 |5=>s.f
 |6=>s.g
 |_=>s.h
noncomputable def Amq(s v:S8)(i:Nat):List W:=(Caq s v).l.take i++s.l.drop i
theorem lt8{i:Nat}(h:i<8):i=0\/i=1\/i=2\/i=3\/i=4\/i=5\/i=6\/i=7:=by omega
theorem zwq(s:S8){k:Nat}(h:k<8):s.l[0+k*1]? =some (wd (s.get k)):=by rcases lt8 h with rfl|rfl|rfl|rfl|rfl|rfl|rfl|rfl<;>rfl
theorem oaq(s v:S8){k:Nat}(h:k<8):(Amq s v k)[0+k*1]? =some (wd (s.get k)):=by rcases lt8 h with rfl|rfl|rfl|rfl|rfl|rfl|rfl|rfl<;>rfl
theorem rdq(s v:S8){k:Nat}(h:k<8):(Amq s v k).set (0+k*1) (wd (aIq (s.get k) (v.get k)))=Amq s v (k+1):=by rcases lt8 h with rfl|rfl|rfl|rfl|rfl|rfl|rfl|rfl<;>rfl
theorem iyq(s:S8)(bs:Nat->Nat)(c:W)(base off:Nat)(lim:Option Nat)(ty:TypeId)(hc:agq 2 c=true)(hby:∀i,i<64->zYq 50 c (off+i*1) 1 false=some (.int .u8 (.ofNat (bs i))))(R:Res):
  aiq (fEq kfn) glK 200 2 [.ptr 0 0,.sl 1 base off 64 1 lim] [(0,349,.arr 8 1 s.l),(1,ty,c)] R λw hp nw R'=>R'=R/\w= .tup []/\hp=[(0,349,.arr 8 1 (urq bs s).l),(1,ty,c)]/\nw=2:=by
 refine gIs 12 Y (λk0=>?_);refine xsq (α:=Nat) (λt=>t<=64) (λt=>[(19,.int .i64 (t:Int))]) [(0,_),(1,_),(4,_)] (λt=>[(2,396,.arr 64 1 ((aPq (qxq bs t) 64).map wd)),(0,349,.arr 8 1 s.l),(1,ty,c)]) (λt=>64-t) (0) ⟨rfl,rfl,rfl,trivial⟩ (Zi _) ⟨rfl,trivial⟩ (rfl) (λt hI=>?_);have hl:=bcq bs t;refine zEq 6 Y ?_;refine gS 0 Y (λh1=>?_) (λh1=>?_)
 .have ht1:t<64:=by omega
  have h0:((aPq (qxq bs t) 64).map wd)[0+t*1]? =some (wd 0):=by
   have:=p1q (l:=qxq bs t) (n:=64) Xd;rw[hl] at this;simpa using this
  have key:∀x,e8q bs (qxq bs t)=x->((aPq (qxq bs t) 64).map wd).set (0+t*1) (wd x)=(aPq (qxq bs (t+1)) 64).map wd:=λx hx=>by
   have:=l8q (l:=qxq bs t) (n:=64) (x:=x) Xd;rw[hl] at this;rw[ZN,Z2,this,qxq,hx]
  refine gS 17 Y (λh2=>?_) (λh2=>?_)
  .have ht2:t<16:=by omega
   have hb:e8q bs (qxq bs t)=sUq (bs (4*t)) (bs (4*t+1)) (bs (4*t+2)) (bs (4*t+3)):=by
    unfold e8q;rw[hl,show Nat.blt t 16=true by simpa[YQ] using ht2]
   refine gA 5 Y (4*t) ?_;refine gP 0 Y (qbq (i:=4*t) Y Y Y Y Y Y Y Xd) ?_;refine gM 0 Y (z7q Y Y Y (hby _ Xd)) ?_;refine gA 4 Y (4*t) ?_;refine gA 0 Y (4*t+1) ?_;refine gP 0 Y (qbq (i:=4*t+1) Y Y Y Y Y Y Y Xd) ?_;refine gM 0 Y (z7q Y Y Y (hby _ Xd)) ?_;refine gA 5 Y (4*t) ?_;refine gA 0 Y (4*t+2) ?_;refine gP 0 Y (qbq (i:=4*t+2) Y Y Y Y Y Y Y Xd) ?_;refine gM 0 Y (z7q Y Y Y (hby _ Xd)) ?_;refine gA 5 Y (4*t) ?_;refine gA 0 Y (4*t+3) ?_;refine gP 0 Y (qbq (i:=4*t+3) Y Y Y Y Y Y Y Xd) ?_;refine gM 0 Y (z7q Y Y Y (hby _ Xd)) ?_;refine gX 2 Y ?_;refine gM 0 Y (qrq Y Y Y Y Y (xeq h0 Y Y) (Ze (λL=>[(2,396,W.arr 64 1 L),(0,349,.arr 8 1 s.l),(1,ty,c)]) (key _ hb))) ?_;refine gWr 7 Y ?_;refine zcq 2 Y ?_;exact ucq (t+1) (ht1) Xd ⟨rfl,trivial⟩ ⟨rfl,rfl,rfl,trivial⟩ rfl
  .have ht2:¬t<16:=by omega
   have hA:∀k,k<t->((aPq (qxq bs t) 64).map wd)[0+k*1]? =some (wd ((qxq bs t).getD k 0)):=λk hk=>by
    rw[ZN,Z2];exact p2q Xd
   have hb:e8q bs (qxq bs t)=aIq (aIq (aIq ((qxq bs t).getD (t-16) 0) (cgq (cgq (caq ((qxq bs t).getD (t-15) 0) 7) (caq ((qxq bs t).getD (t-15) 0) 18)) (Acq ((qxq bs t).getD (t-15) 0) 3))) ((qxq bs t).getD (t-7) 0)) (cgq (cgq (caq ((qxq bs t).getD (t-2) 0) 17) (caq ((qxq bs t).getD (t-2) 0) 19)) (Acq ((qxq bs t).getD (t-2) 0) 10)):=by
    unfold e8q;rw[show Nat.blt (qxq bs t).length 16=false by rw[hl];exact Bool.eq_false_iff.2 λq=>ht2 (by simpa[YQ] using q)];simp only[hl]
   refine gA 5 Y (t-15) ?_;refine gX 0 Y ?_;refine gM 0 Y (z7q Y Y Y (qRq (hA _ Xd) rfl)) ?_;refine gA 1 Y (t-2) ?_;refine gX 0 Y ?_;refine gM 0 Y (z7q Y Y Y (qRq (hA _ Xd) rfl)) ?_;refine gA 7 Y (t-16) ?_;refine gX 0 Y ?_;refine gM 0 Y (z7q Y Y Y (qRq (hA _ Xd) rfl)) ?_;refine gC 1 Y (jsq _ Xg _ _) ?_;refine gC 1 Y (jsq _ Xg _ _) ?_;refine gA 6 Y (t-7) ?_;refine gX 0 Y ?_;refine gM 0 Y (z7q Y Y Y (qRq (hA _ Xd) rfl)) ?_;refine gC 2 Y (jsq _ Xg _ _) ?_;refine gC 1 Y (jsq _ Xg _ _) ?_;refine gX 5 Y ?_;refine gM 0 Y (qrq Y Y Y Y Y (xeq h0 Y Y) (Ze (λL=>[(2,396,W.arr 64 1 L),(0,349,.arr 8 1 s.l),(1,ty,c)]) (key _ hb))) ?_;refine gWr 4 Y ?_;refine zcq 2 Y ?_;exact ucq (t+1) (ht1) Xd ⟨rfl,trivial⟩ ⟨rfl,rfl,rfl,trivial⟩ rfl
 .obtain rfl:t=64:=by omega
  rw[show aPq (qxq bs 64) 64=qxq bs 64 by unfold aPq;rw[hl];simp];refine zcq 2 Y ?_;refine qUq Xk ?_;refine z0q 18 Y ?_;refine xsq (α:=Nat) (λt=>t<=64) (λt=>[(100,.int .i64 (t:Int))]) [(0,_),(4,_),(8,_)] (λt=>[(3,349,.arr 8 1 (QEq (qxq bs 64) s t).l),(2,396,.arr 64 1 ((qxq bs 64).map wd)),(0,349,.arr 8 1 s.l),(1,ty,c)]) (λt=>64-t) (0) ⟨rfl,rfl,rfl,trivial⟩ (Zi _) ⟨rfl,trivial⟩ (rfl) (λt hI=>?_);refine zEq 6 Y ?_;refine gS 0 Y (λh2=>?_) (λh2=>?_)
  .have ht1:t<64:=by omega
   have hK:zYq 50 (.arr 64 1 (kW.map wd)) (t*1) 1 false=some (wd (kW.getD t 0)):=qRq (by rw[Z2];exact JNq (by rw[t7q];exact ht1)) rfl;have hW:zYq 50 (.arr 64 1 ((qxq bs 64).map wd)) (0+t*1) 1 false=some (wd ((qxq bs 64).getD t 0)):=qRq (by rw[ZN,Z2];exact JNq Xd) rfl;refine gC 37 Y (jsq _ Xg _ _) ?_;refine gC 1 Y (jsq _ Xg _ _) ?_;refine gC 2 Y (jsq _ Xg _ _) ?_;refine gP 12 Y (hxq (i:=t) Y Y Y Y Y Y Xd rfl hK) ?_;refine gP 3 Y (ksq (i:=t) Y Y Y Y Y Y Xd) ?_;refine gM 0 Y (z7q Y Y Y hW) ?_;refine gC 7 Y (jsq _ Xg _ _) ?_;refine gC 1 Y (jsq _ Xg _ _) ?_;refine gC 2 Y (jsq _ Xg _ _) ?_;refine gWr 36 Y ?_;refine zcq 2 Y ?_;exact ucq (t+1) (ht1) Xd ⟨rfl,trivial⟩ ⟨rfl,rfl,rfl,trivial⟩ rfl
  .obtain rfl:t=64:=by omega
   refine zcq 2 Y ?_;refine qUq Xk ?_;refine z0q 8 Y ?_;refine xsq (α:=Nat) (λi=>i<=8) (λi=>[(178,.int .i64 (i:Int))]) [(0,_),(8,_)] (λi=>[(3,349,.arr 8 1 (QEq (qxq bs 64) s 64).l),(2,396,.arr 64 1 ((qxq bs 64).map wd)),(0,349,.arr 8 1 (Amq s (QEq (qxq bs 64) s 64) i)),(1,ty,c)]) (λi=>8-i) (0) ⟨rfl,rfl,trivial⟩ (Zi _) ⟨rfl,trivial⟩ (rfl) (λi hI=>?_);refine zEq 6 Y ?_;refine gS 0 Y (λh3=>?_) (λh3=>?_)
   .have hi1:i<8:=by omega
    refine gP 14 Y (ksq (i:=i) Y Y Y Y Y Y hi1) ?_;refine gM 0 Y (z7q Y Y Y (qRq (oaq _ _ hi1) rfl)) ?_;refine gP 1 Y (ksq (i:=i) Y Y Y Y Y Y hi1) ?_;refine gM 0 Y (z7q Y Y Y (qRq (zwq _ hi1) rfl)) ?_;refine gP 2 Y (ksq (i:=i) Y Y Y Y Y Y hi1) ?_;refine gM 0 Y (qrq Y Y Y Y Y (xeq (oaq _ _ hi1) Y Y) (Ze (λL=>[(3,349,W.arr 8 1 (QEq (qxq bs 64) s 64).l),(2,396,.arr 64 1 ((qxq bs 64).map wd)),(0,349,.arr 8 1 L),(1,ty,c)]) (rdq _ _ hi1))) ?_;refine gWr 4 Y ?_;refine zcq 2 Y ?_;exact ucq (i+1) (hi1) Xd ⟨rfl,trivial⟩ ⟨rfl,rfl,trivial⟩ rfl
   .obtain rfl:i=8:=by omega
    refine zcq 2 Y ?_;refine qUq Xk ?_;refine z0q 1 Y ?_;refine fin (.inl rfl) (zDq (fr2:=[]) (hp2:=[(0,349,.arr 8 1 (urq bs s).l),(1,ty,c)]) (nw2:=2) Xd Xd trivial rfl (ztq ⟨⟨by omega,rfl,rfl⟩,⟨by omega,rfl,hc⟩,trivial⟩) Xi) rfl ⟨rfl,rfl,rfl,rfl⟩
noncomputable def atL(r:List Nat)(i:Nat):Nat:=r.getD i 0
noncomputable def eat:Nat->S8->List Nat->S8×List Nat
 |0,s,r=>(s,r)
 |n+1,s,r=>match Nat.ble 64 r.length with
  |true=>eat n (urq (atL r) s) (r.drop 64)
  |false=>(s,r)
theorem vvq:∀(n:Nat) (s:S8) (r:List Nat),r.length<64->eat n s r=(s,r)
 |0,_,_,_=>rfl
 |n+1,s,r,h=>by
  have:Nat.ble 64 r.length=false:=by
   cases hq:Nat.ble 64 r.length with
   |true=>have:=Yb hq;omega
   |false=>rfl
  simp only[eat,this]
theorem Kaq{n:Nat}{s:S8}{r:List Nat}(h:64<=r.length):eat (n+1) s r=eat n (urq (atL r) s) (r.drop 64):=by
 simp only[eat,Zl h]
theorem eqq:∀(n m:Nat) (s:S8) (r:List Nat),r.length<=n->r.length<=m->eat n s r=eat m s r
 |0,m,s,r,h,_=>by rw[vvq m s r Xd];rfl
 |n+1,0,s,r,_,h=>by rw[vvq _ s r Xd];rfl
 |n+1,m+1,s,r,h1,h2=>by
  by_cases h:64<=r.length
  .rw[Kaq h,Kaq h];exact eqq n m _ _ Xo Xo
  .rw[vvq _ s r Xd,vvq _ s r Xd]
noncomputable def sNq(s:S8)(r:List Nat):S8×List Nat:=eat r.length s r
theorem h4q{s:S8}{r:List Nat}(h:64<=r.length):sNq s r=sNq (urq (atL r) s) (r.drop 64):=by
 unfold sNq;obtain⟨n,hn⟩:∃n,r.length=n+1:=⟨r.length-1,by omega⟩
 rw[hn,Kaq h];exact eqq _ _ _ _ Xo (Zc _)
noncomputable def Qfq(a:S8×List Nat)(p:List Nat):S8×List Nat:=sNq a.1 (a.2++p)
noncomputable def s0:S8:=⟨1779033703,3144134277,1013904242,2773480762,1359893119,2600822924,528734635,1541459225⟩
noncomputable def i5q:Nat->List Nat->List Nat
 |0,r=>r
 |n+1,r=>match Nat.beq (r.length%64) 56 with
  |true=>r
  |false=>i5q n (r++[0])
noncomputable def aLq(many:Nat):List Nat:=[56,48,40,32,24,16,8,0].map λi=>Nat.shiftRight (8*many%18446744073709551616) i%256
noncomputable def kwq:Nat->S8->List Nat->S8
 |0,s,_=>s
 |n+1,s,r=>match Nat.ble 1 r.length with
  |true=>kwq n (urq (atL r) s) (r.drop 64)
  |false=>s
theorem jZq:∀(n:Nat) (s:S8),kwq n s []=s
 |0,_=>rfl
 |n+1,s=>rfl
theorem uNq{n:Nat}{s:S8}{r:List Nat}(h:1<=r.length):kwq (n+1) s r=kwq n (urq (atL r) s) (r.drop 64):=by
 simp only[kwq,Zl h]
theorem YTq:∀(n m:Nat) (s:S8) (r:List Nat),r.length<=n->r.length<=m->kwq n s r=kwq m s r
 |0,m,s,r,h,_=>by
  obtain rfl:r=[]:=Z4.1 Xd;rw[jZq,jZq]
 |n+1,0,s,r,_,h=>by
  obtain rfl:r=[]:=Z4.1 Xd;rw[jZq,jZq]
 |n+1,m+1,s,r,h1,h2=>by
  by_cases h:1<=r.length
  .rw[uNq h,uNq h];exact YTq n m _ _ Xo Xo
  .obtain rfl:r=[]:=Z4.1 Xd;rw[jZq,jZq]
theorem ddq{s:S8}{r:List Nat}(h:1<=r.length):kwq r.length s r=kwq (r.drop 64).length (urq (atL r) s) (r.drop 64):=by
 obtain⟨n,hn⟩:∃n,r.length=n+1:=⟨r.length-1,by omega⟩
 rw[hn,uNq h];exact YTq _ _ _ _ Xo (Zc _)
noncomputable def fqq(s:S8):List Nat:=(List.range 32).map λi=>Nat.shiftRight (s.get (i/4)) (24-8*(i%4))%256
noncomputable def qfq(ps:List (List Nat)):Nat:=(ps.map List.length).foldr (· + ·) 0
noncomputable def cAq(ps:List (List Nat)):List Nat:=
 let a:=ps.foldl Qfq (s0,[])
 let r:=i5q 64 (a.2++[128])++aLq (qfq ps)
 fqq (kwq r.length a.1 r)
inductive Rst where
 |nil
 |sl (all:List Nat) (base off:Nat)
noncomputable def Rst.w:Rst->W
 |.nil=>.nils
 |.sl all base off=>.sl 2 base off (all.length-off) 1 none
noncomputable def Rst.hp:Rst->HpW
 |.nil=>[]
 |.sl all _ _=>[(2,5,.arr all.length 1 (bN all))]
noncomputable def Rst.r:Rst->List Nat
 |.nil=>[]
 |.sl all _ off=>all.drop off
noncomputable def Rst.ok:Rst->Prop
 |.nil=>True
 |.sl all _ off=>off<=all.length/\all.length<4294967296
noncomputable def Rst.nw:Rst->Nat
 |.nil=>2
 |.sl _ _ _=>3
noncomputable def hpS(x:Rst)(d:W)(s:S8):HpW:=x.hp++[(1,349,.arr 8 1 s.l),(0,23,d)]
noncomputable def Zdq:W:=.arr 32 1 (List.replicate 32 (.int .u8 0))
noncomputable def ukq(p:List Nat×Bool):W:=.fz (bN p.1) 1 p.2
theorem BBq(r:Rst)(hr:r.ok)(d:W)(s:S8)(p:List Nat)(f:Bool)(hp:p.length<2147483648)(h64:r.r.length<64):∃w hp' nw ev,b5q (fEq kfn) (hpS r d s) r.nw 52 52 r.w (.fz (bN p) 1 f)=some (w,hp',nw,ev)/\
  ∃r':Rst,r'.ok/\r'.r=r.r++p/\((w=r'.w/\hp'=hpS r' d s/\nw=r'.nw)\/∃all,r'= .sl all 0 0/\w= .sl 3 0 0 all.length 1 none/\hp'=[(3,5,.arr all.length 1 (bN all)),(1,349,.arr 8 1 s.l),(0,23,d)]/\nw=4):=by
 cases r with
 |nil=>cases p with
  |nil=>exact⟨_,_,_,_,rfl,.nil,trivial,rfl,.inl ⟨rfl,rfl,rfl⟩⟩
  |cons a l=>
   have hl:(bN (a::l)).length=l.length+1:=by rw[vEq];rfl
   have hlt:l.length+1<2147483648:=hp;have hbl:(bN (a::l)).length*1<=140737488355328:=by omega
   refine⟨_,_,_,_,uUq (k:=ti5) Y Y Y Y Y (by simp[bN]) hbl Xd,.sl (a::l) 0 0,⟨Zi _,by show l.length+1<_;omega⟩,rfl,.inl ⟨?_,?_,rfl⟩⟩
   .rw[vEq];rfl
   .rw[vEq,show(ti5).size=1 from rfl,Z2];rfl
 |sl all base off=>
  obtain⟨h1,h2⟩:=hr;cases p with
  |nil=>exact⟨_,_,_,_,rfl,.sl all base off,⟨h1,h2⟩,by simp,.inl ⟨rfl,rfl,rfl⟩⟩
  |cons a l=>
   have hl:(bN (a::l)).length=l.length+1:=by rw[vEq];rfl
   have hlt:l.length+1<2147483648:=hp;have hbl:(all.length-off+(bN (a::l)).length)*1<=140737488355328:=by omega
   have hdt:((bN all).drop off).take (all.length-off)=bN (all.drop off):=by
    rw[Zm (by simp[vEq])];simp[bN,List.map_drop]
   refine⟨_,_,_,_,qOq (k:=ti5) (v:=.arr all.length 1 (bN all)) (off:=off) Y Y Y Y Y (by simp[bN]) hbl Xd Y ?_ rfl (uZq Xd),.sl (all.drop off++a::l) 0 0,⟨Zi _,?_⟩,rfl,.inr ⟨_,rfl,?_,?_,rfl⟩⟩
   .show all.length<off+(all.length-off+(bN (a::l)).length)*1;omega
   .simp only[Rst.r,Zx] at h64;simp only[Zj,Zx,Zv];omega
   .simp only[hl,Zj,Zx,Zv];rfl
   .rw[hdt,hl];simp only[Zj,Zx,Zv,show(ti5).size=1 from rfl,Z2];rw[show bN (all.drop off)++bN (a::l)=bN (all.drop off++a::l) by simp[bN]];rfl
theorem bpq:∀(n j:Nat) (r:List Nat),(∀i,i<j->(r.length+i)%64≠56) ->(r.length+j)%64=56->j<=n->i5q n r=r++List.replicate j 0
 |0,j,r,_,_,h=>by
  obtain rfl:j=0:=by omega
  simp[i5q]
 |n+1,0,r,_,h,_=>by
  have:Nat.beq (r.length%64) 56=true:=by rw[ZE];simpa using h
  simp only[i5q,this];simp
 |n+1,j+1,r,h1,h2,h3=>by
  have:Nat.beq (r.length%64) 56=false:=by
   cases hq:Nat.beq (r.length%64) 56 with
   |true=>rw[ZE] at hq;exact absurd (by simpa using hq) (h1 0 Xd)
   |false=>rfl
  simp only[i5q,this];rw[bpq n j (r++[0]) (λi hi=>by simp only[Zj,List.length_singleton];have:=h1 (i+1) Xd;rwa[show r.length+1+i=r.length+(i+1) by omega]) (by simp only[Zj,List.length_singleton];rwa[show r.length+1+j=r.length+(j+1) by omega]) Xd];rw[Zz];rfl
noncomputable def dI(s:S8)(i:Nat):List Nat:=(fqq s).take i++List.replicate (32-i) 0
theorem ZWq(s:S8):(fqq s).length=32:=by simp[fqq]
theorem wIq(s:S8){i:Nat}(h:i<=32):(dI s i).length=32:=by simp[dI,ZWq];omega
theorem Bsq(s:S8){i:Nat}(h:i<32):(bN (dI s i))[0+i*1]? =some (.int .u8 (.ofNat 0)):=by
 rw[ZN,Z2,snq (by rw[wIq s Xd];exact h)]
 have:(dI s i).getD i 0=0:=by
  simp[dI,List.getD,YZ,ZWq,show min i 32=i by omega,List.getElem?_replicate,show 0<32-i by omega]
 rw[this]
theorem wHq(s:S8){i:Nat}(h:i<32):(bN (dI s i)).set (0+i*1) (.int .u8 (.ofNat (Nat.shiftRight (s.get (i/4)) (min (24-8*(i%4)) 32)%256)))=bN (dI s (i+1)):=by
 have e:(fqq s).take (i+1)=(fqq s).take i++[Nat.shiftRight (s.get (i/4)) (24-8*(i%4))%256]:=by
  rw[YF];congr 1
  simp[fqq,ZY,List.getElem?_range h]
 have hm:min (24-8*(i%4)) 32=24-8*(i%4):=by omega
 have hl:((fqq s).take i).length=i:=by simp[ZWq];omega
 rw[ZN,Z2,hm];unfold bN;rw[<-List.map_set (f:=λc=>W.int .u8 (.ofNat c))];congr 1
 unfold dI;rw[e,show 32-i=(32-(i+1))+1 by omega,List.replicate_succ,List.set_append_right _ _ Xd,hl,Nat.sub_self,List.set_cons_zero,Zz];rfl
theorem BZq(L:List Nat)(c:Nat):some (W.sl 4 0 0 (L.length+(bN [c]).length) 1 none)=some (adq (b8q 2 4) (W.sl 2 0 0 (L++[c]).length 1 none)):=by
 rw[Zj];rfl
theorem BYq(L:List Nat)(c:Nat):some (5,W.arr ((L.length+(bN [c]).length)*1) 1 (((bN L).drop 0).take L.length++bN [c]))=some (5,adq (b8q 2 4) (W.arr (L++[c]).length 1 (bN (L++[c])))):=by
 rw[zfq (show abq (.arr (L++[c]).length 1 (bN (L++[c])))=true from Zsq _),ZV,Zm (by rw[vEq];exact Zc _),Z2,Zj];simp[bN]
theorem bnq:∀ps:List (List Nat×Bool),acq (ps.map ukq)=true
 |[]=>rfl
 |p::ps=>by simp only[ZC,acq,ukq,abq,Zsq,Y5];exact bnq ps
theorem BWq(ps:List (List Nat×Bool))(fl:Bool)(hb:qfq (ps.map (·.1))<2147483648)(hpn:ps.length<2147483648)(R:Res):
  aiq (fEq kfn) glK 137 0 [.fz (ps.map ukq) 1 fl] [] R λw hp nw R'=>R'=R/\w= .arr 32 1 (bN (cAq (ps.map (·.1)))):=by
 refine gIs 26 Y (λk0=>?_);refine gL 0 Y ?_;refine zcq 4 Y ?_;refine jeq (α:=Nat×S8×Rst) (λa=>a.1<=ps.length/\a.2.2.ok/\(a.2.1,a.2.2.r)=((ps.map (·.1)).take a.1).foldl Qfq (s0,[])/\a.2.2.r.length<64) (λa=>[(13,.int .i64 (a.1:Int)),(12,.int .i64 (ps.length:Int)),(11,.fz (ps.map ukq) 1 fl),(5,.int .u64 (qfq ((ps.map (·.1)).take a.1):Int)),(4,a.2.2.w),(3,.ptr 1 0),(2,.ptr 0 0)]) (λa=>hpS a.2.2 Zdq a.2.1) (λa=>a.2.2.nw) (λ_=>R) (λa=>ps.length-a.1) (0,s0,.nil) ⟨Zi _,trivial,rfl,by decide⟩ ?_ (λa ha=>?_);skip
 .exact ynq ⟨rfl,by simp[arq,aoq],rfl,rfl,rfl,rfl,rfl,trivial⟩ Y Y
 have hPp:abq (.fz (ps.map ukq) 1 fl)=true:=bnq ps;obtain⟨i,s,r⟩:=a;obtain⟨hi,hok,hfold,hr64⟩:=ha;refine zEq 6 Y ?_;refine gS 0 Y (λh1=>?_) (λh1=>?_)
 .simp only at hi hok hfold hr64;have hi1:i<ps.length:=by omega
  obtain⟨p,hp⟩:∃p,ps[i]? =some p:=⟨_,Za hi1⟩
  have hpw:(ps.map ukq)[i]? =some (.fz (bN p.1) 1 p.2):=by rw[ZY,hp];rfl
  have htk:(ps.map (·.1)).take (i+1)=(ps.map (·.1)).take i++[p.1]:=by
   rw[YF,ZY,hp];rfl
  have htot:∀l r:List (List Nat),qfq (l++r)=qfq l+qfq r:=λl r=>by
   unfold qfq;induction l with
   |nil=>simp
   |cons x l ih=>simp only[YW,ZC,List.foldr_cons,ih];omega
  have ht1:qfq ((ps.map (·.1)).take (i+1))=qfq ((ps.map (·.1)).take i)+p.1.length:=by rw[htk,htot];simp[qfq]
  have htle:qfq ((ps.map (·.1)).take (i+1))<=qfq (ps.map (·.1)):=by
   have:=htot ((ps.map (·.1)).take (i+1)) ((ps.map (·.1)).drop (i+1));rw[ZJ] at this;omega
  have hpl:p.1.length<2147483648:=by omega
  refine gP 6 Y (zyq (i:=i) Y Y Y Y Y Y Y hpw) ?_;refine gZ 8 Y (vEq p.1) ?_;refine gA 0 Y (p.1.length) ?_;refine gA 0 Y (qfq ((ps.map (·.1)).take i)+p.1.length) ?_;refine zcq 3 Y ?_;refine Y1q (α:=Rst) (λr'=>r'.ok/\r'.r=r.r++p.1) (λr'=>[(13,.int .i64 (i:Int)),(12,.int .i64 (ps.length:Int)),(11,.fz (ps.map ukq) 1 fl),(5,.int .u64 (qfq ((ps.map (·.1)).take (i+1)):Int)),(4,r'.w),(3,.ptr 1 0),(2,.ptr 0 0)]) (λr'=>hpS r' Zdq s) (λr'=>r'.nw) ?_ (λa ha=>?_)
  .obtain⟨w,hp',nw',ev,e1,r',e2,e3,e4⟩:=BBq r hok Zdq s p.1 p.2 hpl hr64;refine zEq 3 Y ?_;refine gM 0 Y (qaq Y Y e1) ?_;refine zcq 2 Y ?_;refine⟨rfl,r',⟨e2,e3⟩,?_⟩;rcases e4 with ⟨rfl,rfl,rfl⟩|⟨all,rfl,rfl,rfl,rfl⟩
   .exact ynq ⟨rfl,rfl,rfl,by rw[ht1];rfl,rfl,rfl,rfl,trivial⟩ Y Y
   .refine qdq (b:=2) (k:=3) Xd Xd Xd ⟨⟨rfl,rfl⟩,⟨rfl,rfl⟩,⟨by rw[zfq hPp];rfl,zaq hPp⟩,⟨by rw[ht1];rfl,rfl⟩,⟨rfl,rfl⟩,⟨rfl,rfl⟩,⟨rfl,rfl⟩,trivial⟩ ⟨⟨by omega,by rw[zfq (show abq (.arr all.length 1 (bN all))=true from Zsq _)];rfl,zaq (show abq (.arr all.length 1 (bN all))=true from Zsq _)⟩,⟨by omega,rfl,rfl⟩,⟨by omega,rfl,rfl⟩,trivial⟩ Qf
  obtain⟨hak,har⟩:=ha;have hstep:(ps.map (·.1)).take (i+1)=(ps.map (·.1)).take i++[p.1]:=htk;have hnext:((ps.map (·.1)).take (i+1)).foldl Qfq (s0,[])=Qfq (s,r.r) p.1:=by rw[hstep,List.foldl_append,<-hfold];rfl
  refine zPq 1 Y ?_;refine jeq (α:=S8×Rst) (λb=>b.2.ok/\sNq b.1 b.2.r=Qfq (s,r.r) p.1) (λb=>[(13,.int .i64 (i:Int)),(12,.int .i64 (ps.length:Int)),(11,.fz (ps.map ukq) 1 fl),(5,.int .u64 (qfq ((ps.map (·.1)).take (i+1)):Int)),(4,b.2.w),(3,.ptr 1 0),(2,.ptr 0 0)]) (λb=>hpS b.2 Zdq b.1) (λb=>b.2.nw) (λ_=>R) (λb=>b.2.r.length) (s,a) ⟨hak,by simp only[Qfq,har]⟩ (Ent.refl) (λb hb=>?_);skip
  obtain⟨s',r'⟩:=b;obtain⟨hok',heat⟩:=hb;simp only at hok' heat
  have done:r'.r.length<64->(s',r'.r)=((ps.map (·.1)).take (i+1)).foldl Qfq (s0,[]):=λh=>by
   rw[hnext,<-heat,sNq,vvq _ _ _ h]
  skip
  cases r' with
  |nil=>
   refine zEq 4 Y ?_;refine gL 0 Y ?_;refine zcq 6 Y ?_;refine qUq Xk ?_;refine z0q 4 Y ?_;refine gA 0 Y (i+1) ?_;refine zcq 2 Y ?_;skip
   refine y6q (i+1,s',.nil) ⟨hi1,trivial,done (by show 0<64;omega),(by show 0<64;omega)⟩ Xw (ynq ⟨rfl,rfl,rfl,rfl,rfl,rfl,rfl,trivial⟩ Y Y)
  |sl all base off=>
   obtain⟨ho1,ho2⟩:=hok';have hrl:(Rst.sl all base off).r.length=all.length-off:=by simp[Rst.r]
   refine zEq 4 Y ?_;refine gV 0 Y (show _=W.int .i64 ((all.length-off:Nat):Int) by first|rfl|(simp;done)) ?_;refine gS 3 Y (λh2=>?_) (λh2=>?_)
   .have h64:64<=all.length-off:=by omega
    have hpa:abq (.arr all.length 1 (bN all))=true:=Zsq all
    have hby:∀k,k<64->zYq 50 (.arr all.length 1 (bN all)) (off+0*1+k*1) 1 false=some (.int .u8 (.ofNat (atL (all.drop off) k))):=λk hk=>by
     have:=snq (l:=all) (i:=off+k) Xd;refine qRq ?_ rfl;rw[Nat.zero_mul,Y3,Z2,this];simp[atL,List.getD,ZX]
    have hr':(Rst.sl all off (off+64)).r=((Rst.sl all base off).r).drop 64:=by simp[Rst.r]
    refine gP 6 Y (oyq (h:=64) Y Y Y Y Y Y Y h64) ?_
    (refine zsq rfl (zGq (ext:=[1,2]) (ws:=[.ptr 0 0,.sl 1 base (off+0*1) (64-0) 1 none]) Y Y Y Y Y (λR=>iyq s' (atL (all.drop off)) (.arr all.length 1 (bN all)) base _ none 5 (zaq hpa) hby R) Xg Qz Xi (cXq rfl (by rw[zfq hpa];rfl) rfl (zaq hpa)) Y ?_);rintro w hp1 nw1 ⟨rfl,rfl,rfl⟩)
    refine zhq 5 Y ?_;refine gP 0 Y (oxq (l:=64) Y Y Y Y Y Y Y h64 rfl) ?_;refine zcq 2 Y ?_;skip
    refine y6q (urq (atL (all.drop off)) s',.sl all off (off+64)) ⟨⟨by omega,ho2⟩,?_⟩ (by simp only[hr'];simp only[hrl,Zx];omega) (zDq Xd (Zc _) ⟨rfl,rfl,rfl,rfl,?_,rfl,rfl,trivial⟩ (by simp only[List.all_cons,List.all_nil,zaq hPp,Bool.and_true];rfl) (ztq ⟨⟨by show 2<3;omega,by show some (5,adq _ (W.arr all.length 1 (bN all)))=_;rw[zfq hpa],zaq hpa⟩,⟨by show 1<3;omega,rfl,rfl⟩,⟨by show 0<3;omega,rfl,rfl⟩,trivial⟩) Qf)
    .rw[hr',<-heat];exact(h4q (r:=(Rst.sl all base off).r) (by rw[hrl];exact h64)).symm
    .show some (W.sl 2 off (off+64*1) (all.length-off-64) 1 (qNq 64 none))=some (W.sl 2 off (off+64) (all.length-(off+64)) 1 none);rw[Nat.sub_sub];rfl
   .have h64:all.length-off<64:=by omega
    refine zcq 2 Y ?_;refine qUq Xk ?_;refine z0q 4 Y ?_;refine gA 0 Y (i+1) ?_;refine zcq 2 Y ?_;skip
    refine y6q (i+1,s',.sl all base off) ⟨hi1,⟨ho1,ho2⟩,done (by rw[hrl];exact h64),by simp only[hrl];exact h64⟩ Xw (ynq ⟨rfl,rfl,rfl,rfl,rfl,rfl,rfl,trivial⟩ Y Y)
 .simp only at hi hok hfold hr64;obtain rfl:i=ps.length:=by omega
  rw[show(ps.map (·.1)).take ps.length=ps.map (·.1) by rw[Zm Xi]] at hfold;have hT:(ps.map (·.1)).take ps.length=ps.map (·.1):=by rw[Zm Xi]
  have hdt:∀(all:List Nat) (off:Nat),((bN all).drop off).take (all.length-off)=bN (all.drop off):=λall off=>by
   rw[Zm (by simp[vEq])];simp[bN,List.map_drop]
  have bapp:∀a b:List Nat,bN a++bN b=bN (a++b):=λa b=>by simp[bN]
  have apur:∀all:List Nat,abq (.arr all.length 1 (bN all))=true:=λall=>Zsq all
  refine zcq 2 Y ?_;refine qUq Xk ?_;refine z0q 2 Y ?_;refine Y1q (α:=Unit) (λ_=>True) (λ_=>[(5,.int .u64 (qfq (ps.map (·.1)):Int)),(4,.sl 2 0 0 (r.r++[128]).length 1 none),(3,.ptr 1 0),(2,.ptr 0 0)]) (λ_=>hpS (.sl (r.r++[128]) 0 0) Zdq s) (λ_=>3) ?_ (λa ha=>?_)
  .skip
   cases r with
   |nil=>
    refine zEq 3 Y ?_;refine gM 0 Y (qaq Y Y (uUq (news:=bN [128]) (k:=ti5) Y Y Y Y Y (by simp[bN]) Xg Xg)) ?_;refine zcq 2 Y ?_;refine⟨rfl,(),trivial,?_⟩;exact qdq (b:=2) (k:=3) Xd Xd (by show 3<4;omega) ⟨⟨by show some (W.int .u64 ((qfq ((ps.map (·.1)).take ps.length):Nat):Int))=_;rw[hT];rfl,rfl⟩,⟨rfl,rfl⟩,⟨rfl,rfl⟩,⟨rfl,rfl⟩,trivial⟩ ⟨⟨by omega,rfl,rfl⟩,⟨by omega,rfl,rfl⟩,⟨by omega,rfl,rfl⟩,trivial⟩ Qf
   |sl all base off=>
    obtain⟨ho1,ho2⟩:=hok;simp only[Rst.r,Zx] at hr64;have hle:((Rst.sl all base off).r++[128]).length=all.length-off+1:=by simp[Rst.r]
    refine zEq 3 Y ?_;refine gM 0 Y (qaq Y Y (qOq (news:=bN [128]) (k:=ti5) (v:=.arr all.length 1 (bN all)) (off:=off) Y Y Y Y Y (by simp[bN]) (show(all.length-off+1)*1<=140737488355328 by omega) (show all.length-off+1<=70368744177664 by omega) rfl (show all.length<off+(all.length-off+1)*1 by omega) rfl (uZq Xd))) ?_;refine zcq 2 Y ?_;refine⟨rfl,(),trivial,?_⟩;refine qdq (b:=2) (k:=4) Xd Xd (by show 4<5;omega) ⟨⟨by show some (W.int .u64 ((qfq ((ps.map (·.1)).take ps.length):Nat):Int))=_;rw[hT];rfl,rfl⟩,⟨?_,rfl⟩,⟨rfl,rfl⟩,⟨rfl,rfl⟩,trivial⟩ ⟨⟨by omega,?_,zaq (apur _)⟩,⟨by omega,rfl,rfl⟩,⟨by omega,rfl,rfl⟩,trivial⟩ Qf
    .rw[hle];rfl
    .rw[zfq (apur _),hle,<-bapp];show some (5,W.arr ((all.length-off+1)*1) 1 (((bN all).drop off).take (all.length-off)++bN [128]))=_;rw[hdt,Z2];rfl
  --noughts
  have htm:∀n:Nat,((n:Int)).tmod 64=((n%64:Nat):Int):=λn=>by rw[Int.tmod_eq_emod_of_nonneg Xd];omega
  have hA0:(r.r++[128]).length<=64:=by simp;omega
  generalize hA:r.r++[128]=A at*
  refine zEq 2 Y ?_;refine jeq (α:=Nat) (λj=>∀i,i<j->(A.length+i)%64≠56) (λj=>[(5,.int .u64 (qfq (ps.map (·.1)):Int)),(4,.sl 2 0 0 (A++List.replicate j 0).length 1 none),(3,.ptr 1 0),(2,.ptr 0 0)]) (λj=>hpS (.sl (A++List.replicate j 0) 0 0) Zdq s) (λ_=>3) (λ_=>R) (λj=>64-j) 0 (λi hi=>absurd hi Xd) (by rw[List.replicate_zero,ZU];exact Ent.refl) (λj hj=>?_);skip
  have hj64:j<64:=by
   refine Nat.lt_of_not_le λh=>?_
   have:=hj ((56+64-A.length%64)%64) Xd;omega
  have hlj:(A++List.replicate j 0).length=A.length+j:=by simp
  refine zEq 4 Y ?_;refine gV 0 Y (show _=W.int .i64 ((A++List.replicate j 0).length:Int) by first|rfl|(simp;done)) ?_;refine gV 0 Y (Ze (W.int .i64) (htm _)) ?_;refine gS 3 Y (λh2=>?_) (λh2=>?_)
  .have hne:(A.length+j)%64≠56:=by
    omega
   refine gM 6 Y (qaq Y Y (qOq (news:=bN [0]) (k:=ti5) (v:=.arr (A++List.replicate j 0).length 1 (bN (A++List.replicate j 0))) (off:=0) Y Y Y Y Y (by simp[bN]) (show((A++List.replicate j 0).length+1)*1<=140737488355328 by omega) (show(A++List.replicate j 0).length+1<=70368744177664 by omega) rfl (show(A++List.replicate j 0).length<0+((A++List.replicate j 0).length+1)*1 by omega) rfl (uZq Xd))) ?_;refine zcq 3 Y ?_;have hrep:A++List.replicate (j+1) 0=(A++List.replicate j 0)++[0]:=by rw[Zz,<-List.replicate_succ']
   skip
   refine y6q (j+1) (λi hi=>?_) Xd (qdq (b:=2) (k:=4) Xd Xd (by show 4<5;omega) ⟨⟨rfl,rfl⟩,⟨?_,rfl⟩,⟨rfl,rfl⟩,⟨rfl,rfl⟩,trivial⟩ ⟨⟨by omega,?_,zaq (apur _)⟩,⟨by omega,rfl,rfl⟩,⟨by omega,rfl,rfl⟩,trivial⟩ Qf)
   .rcases ZI.1 hi with h|rfl
    .exact hj i h
    .exact hne
   .rw[hrep];exact BZq _ 0
   .rw[hrep];exact BYq _ 0
  .have he:(A.length+j)%64=56:=by
    omega
   have hpz:i5q 64 A=A++List.replicate j 0:=bpq 64 j A hj he Xd;rw[<-hpz];have hBl:(i5q 64 A).length<200:=by rw[hpz,hlj];omega
   have hB64:(i5q 64 A).length%64=56:=by rw[hpz,hlj];exact he
   generalize hB:i5q 64 A=B at hBl hB64;refine zcq 2 Y ?_;refine qUq Xk ?_;refine z0q 9 Y ?_;have h8:∀k,k<=8->((aLq (qfq (ps.map (·.1)))).take k).length=k:=λk hk=>by simp[aLq];omega
   refine jeq (α:=Nat) (λk=>k<=8) (λk=>[(8,.int .i64 (56-8*(k:Int))),(5,.int .u64 (qfq (ps.map (·.1)):Int)),(4,.sl 2 0 0 (B++(aLq (qfq (ps.map (·.1)))).take k).length 1 none),(3,.ptr 1 0),(2,.ptr 0 0)]) (λk=>hpS (.sl (B++(aLq (qfq (ps.map (·.1)))).take k) 0 0) Zdq s) (λ_=>3) (λ_=>R) (λk=>8-k) 0 (Zi _) (by rw[List.take_zero,ZU];exact ynq ⟨rfl,rfl,rfl,rfl,rfl,trivial⟩ Y Y) (λk hk=>?_);skip
   refine zEq 7 Y ?_;refine gS 0 Y (λh3=>?_) (λh3=>?_)
   .have hk8:k<8:=by omega
    have hLk:=h8 k hk;have hll:(B++(aLq (qfq (ps.map (·.1)))).take k).length=B.length+k:=by rw[Zj,hLk]
    have hnx:B++(aLq (qfq (ps.map (·.1)))).take (k+1)=(B++(aLq (qfq (ps.map (·.1)))).take k)++[Nat.shiftRight (8*qfq (ps.map (·.1))%18446744073709551616) (min (56-8*k) 64)%256]:=by
     rw[YF,<-Zz];congr 1
     have hq:k=0\/k=1\/k=2\/k=3\/k=4\/k=5\/k=6\/k=7:=by omega
     rcases hq with rfl|rfl|rfl|rfl|rfl|rfl|rfl|rfl<;>rfl
    have hw8:k2q .i64 (56-8*(k:Int) -8)=56-8*(k:Int) -8:=ZAq (k:=.i64) ⟨by omega,by omega⟩;refine gV 8 Y (show W.int .i64 (56-8*(k:Int))=W.int .i64 ((56-8*k:Nat):Int) by congr 1;omega) ?_;refine gM 3 Y (qaq Y Y (qOq (news:=bN [Nat.shiftRight (8*qfq (ps.map (·.1))%18446744073709551616) (min (56-8*k) 64)%256]) (k:=ti5) (v:=.arr (B++(aLq (qfq (ps.map (·.1)))).take k).length 1 (bN (B++(aLq (qfq (ps.map (·.1)))).take k))) (off:=0) Y Y Y Y Y (by simp[bN]) (show((B++(aLq (qfq (ps.map (·.1)))).take k).length+1)*1<=140737488355328 by omega) (show(B++(aLq (qfq (ps.map (·.1)))).take k).length+1<=70368744177664 by omega) rfl (show(B++(aLq (qfq (ps.map (·.1)))).take k).length<0+((B++(aLq (qfq (ps.map (·.1)))).take k).length+1)*1 by omega) rfl (uZq Xd))) ?_;refine zcq 6 Y ?_;refine kpq (w:=W.int .i64 (k2q .i64 (56-8*(k:Int) -8))) Y Y (show _=W.int .i64 (56-8*((k+1:Nat):Int)) by rw[hw8];congr 1;omega) ?_;refine tkq 2 Y ?_;skip
    refine y6q (k+1) Xd Xd (qdq (b:=2) (k:=4) Xd Xd (by show 4<5;omega) ⟨⟨rfl,rfl⟩,⟨rfl,rfl⟩,⟨?_,rfl⟩,⟨rfl,rfl⟩,⟨rfl,rfl⟩,trivial⟩ ⟨⟨by omega,?_,zaq (apur _)⟩,⟨by omega,rfl,rfl⟩,⟨by omega,rfl,rfl⟩,trivial⟩ Qf)
    .rw[hnx];exact BZq _ _
    .rw[hnx];exact BYq _ _
   .obtain rfl:k=8:=by omega
    have ht8:(aLq (qfq (ps.map (·.1)))).take 8=aLq (qfq (ps.map (·.1))):=rfl;rw[ht8];have hMl:(B++aLq (qfq (ps.map (·.1)))).length=B.length+8:=by simp[aLq]
    have hsha:cAq (ps.map (·.1))=fqq (kwq (B++aLq (qfq (ps.map (·.1)))).length s (B++aLq (qfq (ps.map (·.1))))):=by
     simp only[cAq,<-hfold,hA,hB]
    generalize hM:B++aLq (qfq (ps.map (·.1)))=M at hMl hsha;refine zcq 2 Y ?_;refine qUq Xk ?_;refine z0q 4 Y ?_;refine jeq (α:=S8×Nat×Nat) (λb=>b.2.2<=M.length/\(M.length-b.2.2)%64=0/\kwq M.length s M=kwq (M.drop b.2.2).length b.1 (M.drop b.2.2)) (λb=>[(4,.sl 2 b.2.1 b.2.2 (M.length-b.2.2) 1 none),(3,.ptr 1 0),(2,.ptr 0 0)]) (λb=>hpS (.sl M b.2.1 b.2.2) Zdq b.1) (λ_=>3) (λ_=>R) (λb=>M.length-b.2.2) (s,0,0) ⟨Zi _,by show(M.length-0)%64=0;omega,rfl⟩ (ynq ⟨rfl,rfl,rfl,trivial⟩ Y Y) (λb hb5=>?_);skip
    obtain⟨s',base,off⟩:=b;obtain⟨ho,hmod,heat⟩:=hb5;simp only at ho hmod heat;refine zEq 4 Y ?_;refine gV 0 Y (show _=W.int .i64 ((M.length-off:Nat):Int) by first|rfl|(simp;done)) ?_;refine gS 3 Y (λh4=>?_) (λh4=>?_)
    .have h1:1<=M.length-off:=by omega
     have h64:64<=M.length-off:=by omega
     have hpa:abq (.arr M.length 1 (bN M))=true:=Zsq M
     have hby:∀k,k<64->zYq 50 (.arr M.length 1 (bN M)) (off+0*1+k*1) 1 false=some (.int .u8 (.ofNat (atL (M.drop off) k))):=λk hk=>by
      have:=snq (l:=M) (i:=off+k) Xd;refine qRq ?_ rfl;rw[Nat.zero_mul,Y3,Z2,this];simp[atL,List.getD,ZX]
     refine gP 6 Y (oyq (h:=64) Y Y Y Y Y Y Y h64) ?_
     (refine zsq rfl (zGq (ext:=[1,2]) (ws:=[.ptr 0 0,.sl 1 base (off+0*1) (64-0) 1 none]) Y Y Y Y Y (λR=>iyq s' (atL (M.drop off)) (.arr M.length 1 (bN M)) base _ none 5 (zaq hpa) hby R) Xg Qz Xi (cXq rfl (by rw[zfq hpa];rfl) rfl (zaq hpa)) Y ?_);rintro w hp1 nw1 ⟨rfl,rfl,rfl⟩)
     refine zhq 5 Y ?_;refine gP 0 Y (oxq (l:=64) Y Y Y Y Y Y Y h64 rfl) ?_;refine zcq 2 Y ?_;skip
     refine y6q (urq (atL (M.drop off)) s',off,off+64) ⟨by simp only;omega,by simp only;omega,?_⟩ Xw (zDq Xd (Zc _) ⟨?_,rfl,rfl,trivial⟩ rfl (ztq ⟨⟨by omega,by show some (5,adq _ (W.arr M.length 1 (bN M)))=_;rw[zfq hpa],zaq hpa⟩,⟨by omega,rfl,rfl⟩,⟨by omega,rfl,rfl⟩,trivial⟩) Qf)
     .rw[heat,ddq Xo,Z8]
     .show some (W.sl 2 off (off+64*1) (M.length-off-64) 1 (qNq 64 none))=some (W.sl 2 off (off+64) (M.length-(off+64)) 1 none);rw[Nat.sub_sub];rfl
    .have h0:M.length-off=0:=by omega
     have hend:kwq M.length s M=s':=by
      rw[heat,ZW Xd];rfl
     rw[hend] at hsha;refine zcq 2 Y ?_;refine qUq Xk ?_;refine z0q 9 Y ?_;have htd4:∀n:Nat,((n:Int)).tdiv 4=((n/4:Nat):Int):=λn=>by rw[Int.tdiv_eq_ediv_of_nonneg Xd];omega
     have htm4:∀n:Nat,((n:Int)).tmod 4=((n%4:Nat):Int):=λn=>by rw[Int.tmod_eq_emod_of_nonneg Xd];omega
     refine jeq (α:=Nat) (λi=>i<=32) (λi=>[(64,.int .i64 (i:Int)),(3,.ptr 1 0),(2,.ptr 0 0)]) (λi=>hpS (.sl M base off) (.arr 32 1 (bN (dI s' i))) s') (λ_=>3) (λ_=>R) (λi=>32-i) 0 (Zi _) (ynq ⟨rfl,rfl,rfl,trivial⟩ Y Y) (λi hi=>?_);skip
     refine zEq 6 Y ?_;refine gS 0 Y (λh5=>?_) (λh5=>?_)
     .have hi32:i<32:=by omega
      refine gA 13 Y (i/4) (e:=(htd4 i)) ?_;refine gP 0 Y (ksq (i:=i/4) Y Y Y Y Y Y Xd) ?_;refine gM 0 Y (z7q Y Y Y (qRq (zwq s' Xd) rfl)) ?_;refine gV 1 Y (Ze (W.int .i64) (htm4 i)) ?_;refine gA 0 Y (8*(i%4)) ?_;refine gA 0 Y (24-8*(i%4)) ?_;refine gP 2 Y (ksq (i:=i) Y Y Y Y Y Y Xd) ?_;refine gM 0 Y (qrq Y Y Y Y Y (xeq (Bsq s' hi32) Y Y) rfl) ?_;refine gWr 4 Y ?_;refine zcq 2 Y ?_;skip
      refine y6q (i+1) Xd Xd (ynq ⟨rfl,rfl,rfl,trivial⟩ ?_ rfl);exact Ze (λL=>hpS (.sl M base off) (.arr 32 1 L) s') (wHq s' hi32)
     .obtain rfl:i=32:=by omega
      refine zcq 2 Y ?_;refine qUq Xk ?_;refine z0q 9 Y ?_;refine fin Jm Ent.refl rfl ⟨rfl,?_⟩;rw[hsha];have:dI s' 32=fqq s':=by simp[dI,Zm,ZWq]
      rw[<-this]
end
mutual
theorem uzq{τ:Nat->Nat}{b:Nat}(h:∀i,i<b->τ i=i):∀{w:W},agq b w=true->adq τ w=w
 |.ptr c o,hw=>by simp only[adq];rw[h c (YN hw)]
 |.sl c _ _ _ _ _,hw=>by simp only[adq];rw[h c (YN hw)]
 |.fz l _ _,hw=>by simp only[adq];rw[xaq h (l:=l) hw]
 |.fel x,hw=>by simp only[adq];rw[uzq h (w:=x) hw]
 |.fn _ a c,hw=>by
  simp only[agq,Zb] at hw;simp only[adq];rw[xaq h (l:=a) hw.1,xaq h (l:=c) hw.2]
 |.iface _ v,hw=>by simp only[adq];rw[uzq h (w:=v) hw]
 |.agg _ l,hw=>by simp only[adq];rw[xaq h (l:=l) hw]
 |.arr _ _ l,hw=>by simp only[adq];rw[xaq h (l:=l) hw]
 |.tup l,hw=>by simp only[adq];rw[xaq h (l:=l) hw]
 |.undef,_=>rfl
 |.bool _,_=>rfl
 |.int _ _,_=>rfl
 |.str _,_=>rfl
 |.nilp,_=>rfl
 |.nils,_=>rfl
 |.nilm,_=>rfl
 |.yield _,_=>rfl
 |.nilf,_=>rfl
 |.nili,_=>rfl
theorem xaq{τ:Nat->Nat}{b:Nat}(h:∀i,i<b->τ i=i):∀{l:List W},azq b l=true->ySq τ l=l
 |[],_=>rfl
 |w::l,hw=>by
  simp only[azq,Zb] at hw;simp only[ySq];rw[uzq h (w:=w) hw.1,xaq h (l:=l) hw.2]
end
mutual
theorem xcq{b c:Nat}(h:b<=c):∀{w:W},agq b w=true->agq c w=true
 |.ptr d o,hw=>Zn (Zw (YN hw) h)
 |.sl d _ _ _ _ _,hw=>Zn (Zw (YN hw) h)
 |.fz l _ _,hw=>j7q h (l:=l) hw
 |.fel x,hw=>xcq h (w:=x) hw
 |.fn _ a d,hw=>by
  simp only[agq,Zb] at hw⊢;exact⟨j7q h hw.1,j7q h hw.2⟩
 |.iface _ v,hw=>xcq h (w:=v) hw
 |.agg _ l,hw=>j7q h (l:=l) hw
 |.arr _ _ l,hw=>j7q h (l:=l) hw
 |.tup l,hw=>j7q h (l:=l) hw
 |.undef,_=>rfl
 |.bool _,_=>rfl
 |.int _ _,_=>rfl
 |.str _,_=>rfl
 |.nilp,_=>rfl
 |.nils,_=>rfl
 |.nilm,_=>rfl
 |.yield _,_=>rfl
 |.nilf,_=>rfl
 |.nili,_=>rfl
theorem j7q{b c:Nat}(h:b<=c):∀{l:List W},azq b l=true->azq c l=true
 |[],_=>rfl
 |w::l,hw=>by
  simp only[azq,Zb] at hw⊢;exact⟨xcq h hw.1,j7q h hw.2⟩
end
noncomputable def gW(b e:Nat):List W->W
 |[]=>.nils
 |x::r=>.sl b 0 0 (x::r).length e none
noncomputable def gH(b:Nat)(ty:TypeId)(e:Nat):List W->HpW
 |[]=>[]
 |x::r=>[(b,ty,.arr ((x::r).length*e) e (x::r))]
noncomputable def evG(b:Nat):List W->EvW
 |[]=>.gen
 |_::_=>.updO b
theorem wuq{ops:Array Oper}{i b:Nat}{es:List (Nat×EvW)}{l:List W}(h1:c5q ops i .gen es=true)(h2:c5q ops i (.updO b) es=true):c5q ops i (evG b l) es=true:=by cases l<;>assumption
theorem YDq{b e:Nat}{l:List W}(h:l≠[]):gW b e l= .sl b 0 0 l.length e none:=by cases l with
 |nil=>exact absurd rfl h
 |cons x r=>rfl
theorem YEq{b e:Nat}{ty:TypeId}{l:List W}(h:l≠[]):gH b ty e l=[(b,ty,.arr (l.length*e) e l)]:=by cases l with
 |nil=>exact absurd rfl h
 |cons x r=>rfl
section
variable {C:Cfg} {nw:Nat} {ts tx ty:TypeId} {j k:TyI} {x:W} {news l:List W} {b:Nat} {H0:HpW}
theorem d9q{b:Nat}{x:TypeId×W}:∀{P:HpW},(∀p∈P,p.1≠b) ->awq (P++[(b,x)]) b=P
 |[],_=>by
  show(match Nat.beq b b with|true=>[]|false=>_)=[];rw[YY]
 |(c,y)::P,h=>by
  have hc:=h (c,y) (ZS ..)
  have e:Nat.beq c b=false:=by
   cases q:Nat.beq c b with
   |true=>exact absurd (Zh q) hc
   |false=>rfl
  show(match Nat.beq c b with|true=>P++[(b,x)]|false=>(c,y)::awq (P++[(b,x)]) b)=_;rw[e];exact Ze _ (d9q λp hp=>h p (ZP _ hp))
theorem ZTq{b:Nat}{x:TypeId×W}:∀{P:HpW},(∀p∈P,p.1≠b) ->hget (P++[(b,x)]) b=some x
 |[],_=>by rw[YX,zeq,Zt rfl]
 |(c,y)::P,h=>by
  rw[YW,zeq,Zg λe=>h (c,y) (ZS ..) e];exact ZTq λp hp=>h p (ZP _ hp)
theorem QOq{c:Nat}{y:TypeId×W}{Q:HpW}:∀{P:HpW},hget P c=some y->hget (P++Q) c=some y
 |[],h=>by simp[hget] at h
 |(q,z)::P,h=>by
  rw[YW,zeq];rw[zeq] at h;split at h
  .rename_i h5;rw[Zt h5];exact h
  .rename_i h5;rw[Zg h5];exact QOq h
theorem Ztq(P:HpW){e:Nat}{hp:HpW}(he:e=k.size)(hj:C.ty ts=some j)(hd:j.d= .slice ty)(hk:C.ty ty=some k)(hz:Nat.beq k.size 0=false)(hs:aJq C hp tx k.size x=some news)(hn:news≠[])(h1:(l.length+news.length)*k.bytes<=140737488355328)(h2:l.length+news.length<=70368744177664)
  (hg:hp=P++gH b ty e l) (hP:∀p∈P,p.1≠b):
  b5q C hp nw ts tx (gW b e l) x=some (.sl nw 0 0 (l++news).length e none,(nw,ty,.arr ((l++news).length*e) e (l++news))::P,nw+1,evG b l):=by
 subst he
 have hk0:0<k.size:=by
  rcases YS k.size with h0|h0
  .rw[h0] at hz;cases hz
  .exact h0
 have hnl:0<news.length:=by cases news with
  |nil=>exact absurd rfl hn
  |cons _ _=>simp
 cases l with
 |nil=>
  simp only[YD,ZN] at h1 h2;rw[show gW b k.size []= .nils from rfl,uUq hj hd hk hz hs hn h1 h2,hg,show gH b ty k.size []=[] from rfl,ZU];rfl
 |cons y r=>
  have hget:hget hp b=some (ty,.arr ((y::r).length*k.size) k.size (y::r)):=by rw[hg];exact ZTq hP
  rw[show gW b k.size (y::r)= .sl b 0 0 (y::r).length k.size none from rfl,qOq hj hd hk hz hs hn h1 h2 hget (by
   show(y::r).length*k.size<0+((y::r).length+news.length)*k.size;rw[ZN];exact Nat.mul_lt_mul_of_pos_right Xd hk0) (vPq _) (zvq hk0 Y Y)]
  rw[hg,show gH b ty k.size (y::r)=[(b,ty,.arr ((y::r).length*k.size) k.size (y::r))] from rfl,d9q hP,Zj];rfl
end
theorem aYq{b e:Nat}{ty:TypeId}{l:List W}{H0:HpW}(he:0<e)(hl:acq l=true)(hP:∀p∈H0,p.1≠b):View (apq (H0++gH b ty e l)) (gW b e l) (.fz l e false):=by
 cases l with
 |nil=>exact .nilfz
 |cons y r=>exact .sl (c:=.arr ((y::r).length*e) e (y::r)) (by
   unfold apq;rw[show H0++gH b ty e (y::r)=H0++[(b,ty,.arr ((y::r).length*e) e (y::r))] from rfl,ZTq hP]) hl (zvq he Y Y) Xk
section
variable {C:Cfg} {G:Nat->Option W} {m k0:Nat} {rd:Bool} {fr fr2:FrW} {hp hp':HpW} {nw nw':Nat} {R:Res} {Q:qpq} {c:Code}
theorem ovq(hf:aqq fr fr2):Ent C G m k0 fr hp nw R fr2 hp (nw+1) R:=λΓ X st hnw hmn s=>by
 let Γ2:Ctx:=⟨nw+1,Γ.σ,Γ.D,Γ.h⟩
 have le:Γ.Le Γ2:=⟨by rw[hnw];exact YK _,λ_ _=>rfl,λ_ h=>h,λ_ _=>rfl⟩;refine⟨Γ2,X,rfl,⟨s.hh,λt w hw=>?_,⟨s.sat.wf,λb ty w hb=>?_,s.sat.inj,s.sat.nd,s.sat.dX,s.sat.xlt,s.sat.dlt,s.sat.res,s.sat.gl⟩,s.ds,s.nd⟩,⟨λ_ _=>rfl,λh=>Zs h le.nw,Zc _,λ_ _ _ _=>rfl,λ_ h=>h,λ_ h=>.inl h,λb x _ h=>⟨x,h⟩,λb x hb h=>.inr ⟨b,x,hb,h,rfl⟩,λ_ h=>.inl h,λ_ h _ _=>h⟩⟩
 .obtain⟨v,g3,g4⟩:=s.fr _ _ (ZFq hf t w hw);exact⟨v,g3,g4.mono le⟩
 .obtain⟨q1,q2,q3,v,q4,q5⟩:=s.sat.own _ _ _ hb;exact⟨Zw q1 le.nw,q2,q3,v,q4,q5.mono le⟩
theorem dAq{k:Nat}:∀{l:FrW},aqq fr l->aKq nw l->sFq (b8q nw k) (nw+1) fr l
 |[],_,_=>trivial
 |(t,w)::l,h,r=>⟨⟨by rw[uzq (λi hi=>qwq Xd) r.1];exact h.1,xcq (YK _) r.1⟩,dAq h.2 r.2⟩
theorem a1q{k:Nat}:∀{l:HpW},eTq hp nw l->Qlq (b8q nw k) (nw+1) hp l
 |[],_=>trivial
 |(b,x)::l,h=>⟨⟨Nat.lt_succ_of_lt h.1.1,by rw[qwq (by have:=h.1.1;omega),uzq (λi hi=>qwq Xd) h.1.2.2];exact h.1.2.1,xcq (YK _) h.1.2.2⟩,a1q h.2⟩
theorem f0q:∀{l:HpW},eTq hp nw l->∀p∈l,p.1<nw
 |[],_,p,h=>by simp at h
 |(b,x)::l,h,p,hp=>by
  rcases ZF.1 hp with rfl|hp
  .exact h.1.1
  .exact f0q h.2 p hp
theorem a2q{τ:Nat->Nat}{n:Nat}{b:HpW}:∀{a:HpW},Qlq τ n hp a->Qlq τ n hp b->Qlq τ n hp (a++b)
 |[],_,h=>h
 |_::_,h,h2=>⟨h.1,a2q h.2 h2⟩
theorem p9q{H0:HpW}{b e:Nat}{ty:TypeId}{l2:List W}(hh:∀p∈H0,p.1<b)(nd:(H0.map (·.1)).Nodup):((H0++gH b ty e l2).map (·.1)).Nodup:=by
 cases l2 with
 |nil=>rw[show gH b ty e []=[] from rfl,ZU];exact nd
 |cons x r=>
  rw[show gH b ty e (x::r)=[(b,ty,.arr ((x::r).length*e) e (x::r))] from rfl,Z5,List.nodup_append];refine⟨nd,by simp,λa ha c hc q=>?_⟩;obtain⟨p,h1,h2⟩:=Z1.1 ha;have:=hh p h1;simp only[ZC,List.map_nil,ZF,YG,or_false] at hc;omega
theorem vCq{α:Type}(I:α->Prop)(s:Nat)(L:α->List W)(ty:TypeId)(e:Nat)(V:α->FrW)(kf:FrW)(H0:HpW)(μ:α->Nat)(a0:α)(hk:aqq fr kf)(h0:I a0)(hv:aqq fr (V a0))(hL:L a0=[])(hs:arq fr s=some .nils)(hh:hp=H0)
  (step:∀a,I a->CoW C G m k0 rd c ((s,gW nw e (L a))::(V a++kf)) (H0++gH nw ty e (L a)) (nw+1) R (x6q C G m k0 I (λa=>(s,gW nw e (L a))::(V a++kf)) (λa=>H0++gH nw ty e (L a)) (λ_=>nw+1) (λ_=>R) μ (μ a) Q)):CoW C G m k0 rd (.loop c) fr hp nw R Q:=by
 subst hh;refine jeq I (λa=>(s,gW nw e (L a))::(V a++kf)) (λa=>hp++gH nw ty e (L a)) (λ_=>nw+1) (λ_=>R) μ a0 h0 ?_ step;have:=ovq (C:=C) (G:=G) (m:=m) (k0:=k0) (fr:=fr) (fr2:=(s,gW nw e (L a0))::(V a0++kf)) (hp:=hp) (nw:=nw) (R:=R) ⟨by rw[hL];exact hs,q7q hv hk⟩;rw[hL] at this⊢;rw[show gH nw ty e []=[] from rfl,ZU];exact this
theorem bUq{b:Nat}{ty:TypeId}{e:Nat}{H0:HpW}{l2:List W}{n:Nat}(k s:Nat)(hm:m<=b)(hk:b<=k)(hk2:k<nw)(hne:l2≠[])(hs:arq fr s=some (.sl k 0 0 n e none))(hn:n=l2.length)(hf:aqq fr fr2)(hr:aKq b fr2)(hg:hget hp k=some (ty,.arr (n*e) e l2))(hp2:acq l2=true)(hh:eTq hp b H0)(nd:(H0.map (·.1)).Nodup):
  Ent C G m k0 fr hp nw R ((s,gW b e l2)::fr2) (H0++gH b ty e l2) (b+1) R:=by
 subst hn;have hpa:abq (.arr (l2.length*e) e l2)=true:=hp2;refine qdq (b:=b) (k:=k) hm hk hk2 ?_ ?_ (p9q (f0q hh) nd)
 .rw[YDq hne];refine⟨⟨?_,by simp[agq]⟩,dAq hf hr⟩;rw[hs];simp only[adq,jLq]
 .rw[YEq hne];refine a2q (a1q hh) ⟨⟨YE _,?_,zaq hpa⟩,trivial⟩;rw[jLq,hg,zfq hpa]
noncomputable def rrq(ext:List Nat)(nw:Nat)(hp:HpW):HpW->Prop
 |[]=>True
 |(i,ty,w)::l=>(i<ext.length/\agq ext.length w=true/\∃b,ext[i]? =some b/\hget hp b=some (ty,adq (afq ext nw) w))/\rrq ext nw hp l
theorem jmq{ext:List Nat}{nw:Nat}{hp:HpW}:∀{l:HpW},rrq ext nw hp l->Jdq ext nw l hp
 |[],_=>λi ty w h=>by simp[hget] at h
 |(j,ty',w')::l,hs=>λi ty w h=>by
  rw[zeq] at h;split at h
  .rename_i e;subst e;cases h;exact hs.1
  .exact jmq hs.2 i ty w h
noncomputable def ltq(blk:Nat->Option W)(b:Nat)(hp:HpW):HpW->Prop
 |[]=>True
 |(k,ty,w)::l=>(k≠b/\∃w0,hget hp k=some (ty,w0)/\View blk w0 w)/\ltq blk b hp l
theorem j5q{blk:Nat->Option W}{b:Nat}:∀{l:HpW},ltq blk b hp l->∀k ty w,hget l k=some (ty,w) ->k≠b/\∃w0,hget hp k=some (ty,w0)/\View blk w0 w
 |[],_,k,ty,w,h=>by simp[hget] at h
 |(j,ty',w')::l,hs,k,ty,w,h=>by
  rw[zeq] at h;split at h
  .rename_i e;subst e;cases h;exact hs.1
  .exact j5q hs.2 k ty w h
theorem J9q(b:Nat)(fr2:FrW)(hp2:HpW){ty:TypeId}{c:W}(hb:hget hp b=some (ty,c))(hc:abq c=true)(hbm:m<=b)(hf:pdq (eGq b c) fr fr2)(hh:ltq (eGq b c) b hp hp2)(nd:(hp2.map (·.1)).Nodup):Ent C G m k0 fr hp nw R fr2 hp2 nw R:=
 rIq hb hc hbm (u0q hf) (j5q hh) nd
theorem inq{α:Type}(I:α->Prop)(s:Nat)(L:α->List W)(ty:TypeId)(e:Nat)(V:α->FrW)(kf:FrW)(H0:HpW)(b k:Nat)(μ:α->Nat)(a0:α){n:Nat}(hk:aqq fr kf)(h0:I a0)(hv:aqq fr (V a0))(hm:m<=b)(hbk:b<=k)(hkn:k<nw)(hne:L a0≠[])(hs:arq fr s=some (.sl k 0 0 n e none))(hn:n=(L a0).length)
  (hr:aKq b (V a0)) (hr2:aKq b kf) (hg:hget hp k=some (ty,.arr (n*e) e (L a0))) (hp2:acq (L a0)=true) (hh:eTq hp b H0) (nd:(H0.map (·.1)).Nodup)
  (step:∀a,I a->CoW C G m k0 rd c ((s,gW b e (L a))::(V a++kf)) (H0++gH b ty e (L a)) (b+1) R (x6q C G m k0 I (λa=>(s,gW b e (L a))::(V a++kf)) (λa=>H0++gH b ty e (L a)) (λ_=>b+1) (λ_=>R) μ (μ a) Q)):CoW C G m k0 rd (.loop c) fr hp nw R Q:=
 jeq I (λa=>(s,gW b e (L a))::(V a++kf)) (λa=>H0++gH b ty e (L a)) (λ_=>b+1) (λ_=>R) μ a0 h0 (bUq k s hm hbk hkn hne hs hn (q7q hv hk) (uaq hr hr2) hg hp2 hh nd) step
theorem koq{α:Type}{I:α->Prop}{s:Nat}{L:α->List W}{ty:TypeId}{e:Nat}{V:α->FrW}{kf:FrW}{H0:HpW}{μ:α->Nat}{kk:Nat}{fr':FrW}{l2:List W}{n:Nat}(k:Nat)(a:α)(ha:I a)(hμ:μ a<kk)(hm:m<=nw)(hL:L a=l2)(hne:l2≠[])(hk:nw<=k)(hk2:k<nw')(hs:arq fr' s=some (.sl k 0 0 n e none))(hn:n=l2.length)
  (hv:aqq fr' (V a)) (hkf:aqq fr' kf) (hr:aKq nw (V a)) (hr2:aKq nw kf) (hg:hget hp' k=some (ty,.arr (n*e) e l2)) (hp2:acq l2=true) (hh:eTq hp' nw H0) (nd:(H0.map (·.1)).Nodup):
  x6q C G m k0 I (λa=>(s,gW nw e (L a))::(V a++kf)) (λa=>H0++gH nw ty e (L a)) (λ_=>nw+1) (λ_=>R) μ kk Q .normal fr' hp' nw' R:=by
 subst hL;exact y6q a ha hμ (bUq k s hm hk hk2 hne hs hn (q7q hv hkf) (uaq hr hr2) hg hp2 hh nd)
theorem dbq{b:Nat}{ty:TypeId}{w w':W}(hb:hget hp b=some (ty,w))(he:∀Γ v,RV Γ w v->RV Γ w' v):Ent C G m k0 fr hp nw R fr (anq hp b (ty,w')) nw R:=λΓ X st h1 _ s=>by
 have hold:∀{k t u},hget (anq hp b (ty,w')) k=some (t,u) ->∃u0,hget hp k=some (t,u0)/\∀v,RV Γ u0 v->RV Γ u v:=λ{k t u} h=>by
  rw[kUq hb] at h;split at h
  .rename_i e;subst e;cases h;exact⟨w,hb,he Γ⟩
  .exact⟨u,h,λ_ q=>q⟩
 have howns:∀{c},amq Γ (anq hp b (ty,w')) c->amq Γ hp c:=λ{c} h=>by
  obtain⟨k,⟨t,u⟩,h1,h2⟩:=h;obtain⟨u0,g,_⟩:=hold h1;exact⟨k,_,g,h2⟩
 refine⟨Γ,X,h1,⟨s.hh,s.fr,⟨s.sat.wf,λk t u h=>?_,λk k' y z hy hz e=>?_,by rw[vnq];exact s.sat.nd,s.sat.dX,s.sat.xlt,s.sat.dlt,s.sat.res,s.sat.gl⟩,λd hd=>?_,s.nd⟩,⟨λ_ _=>rfl,λh=>h,Zc _,λ_ _ _ _=>rfl,λ_ h=>h,λ_ h=>.inl h,λk y _ h=>?_,λk y hk h=>?_,λ_ h=>.inl h,λ_ h _ _=>h⟩⟩
 .obtain⟨u0,g1,g2⟩:=hold h;obtain⟨q1,q2,q3,v,q4,q5⟩:=s.sat.own k t u0 g1;exact⟨q1,q2,q3,v,q4,g2 v q5⟩
 .obtain⟨y1,y2⟩:=y;obtain⟨z1,z2⟩:=z;obtain⟨u0,g1,_⟩:=hold hy;obtain⟨u1,g2,_⟩:=hold hz;exact s.sat.inj k k' _ _ g1 g2 e
 .obtain⟨q1,q2,q3,q4,q5⟩:=s.ds d hd;exact⟨q1,q2,q3,λh=>q4 (howns h),q5⟩
 .obtain⟨y1,y2⟩:=y;obtain⟨u0,g1,_⟩:=hold h;exact⟨_,g1⟩
 .obtain⟨y1,y2⟩:=y;obtain⟨u0,g1,_⟩:=hold h;exact .inr ⟨k,_,hk,g1,rfl⟩
theorem a4q{o:Oper}{post:W->HpW->Nat->Res->Option EvW->Prop}{x:Operand}{xs:Array Operand}{ats:Array TypeId}{f:FuncId}{a us c ws:List W}{Q:W->HpW->Nat->Prop}(ho:o.op= .call ⟨.value x,xs,ats⟩)(hx:evW C G fr x=some (.fn f a c))(he:C.ext f=none)(hxs:ayq C G fr xs.toList=some us)(hws:a++us++c=ws)(hpw:acq ws=true)(sp:yxq C G f 0 ws [] Q)
  (hpost:∀w hp1 nw1,Q w hp1 nw1->post (adq (afq [] nw) w) (alq (afq [] nw) hp1++hp) (nw+nw1) R (some .gen)):aeq C G o fr hp nw R post:=λΓ X frv hnw s hf=>by
 subst hnw;obtain⟨u,e1,e2⟩:=zSq hf s.gl hx;obtain⟨a',c',rfl,e3,e4⟩:=RV_fn.1 e2;obtain⟨us',e5,e6⟩:=xoq hf s.gl hxs
 have app:∀{l r:List W} {l' r':List V},RVL Γ l l'->RVL Γ r r'->RVL Γ (l++r) (l'++r'):=λ{l}=>by
  induction l with
  |nil=>intro r l' r' h1 h2;simp only[RVL] at h1;subst h1;exact h2
  |cons w l ih=>
   intro r l' r' h1 h2;simp only[RVL] at h1;obtain⟨v,vs,rfl,h3,h4⟩:=h1;simp only[YW,RVL];exact⟨v,vs++r',rfl,h3,ih h4 h2⟩
 have hv:=app (app e3 e6) e4;rw[hws,<-bgq (τ:=afq [] Γ.nw) hpw] at hv;obtain⟨n,v,Γ',w,hp1,nw1,g1,g2,g3,g4,g5,g6,g7,g8,_⟩:=b0q (ext:=[]) sp s YJ Xi Xi (λi ty w h=>by simp[hget] at h) (zaq (w:=.tup ws) hpw) hv;obtain⟨k1,k2⟩:=Y7q (C:=C) ho frv Γ.h;refine⟨n,_,_,R,some .gen,v,Γ'.h,Γ',X,by rw[g3];exact hpost w hp1 nw1 g2,?_,⟨k1,λH1 e1' e2'=>?_⟩,rfl,g4,g5,g6,g7⟩
 .simp only[opV,k1,k2];simp only[ho,jfq,e1,e5,he];exact g1
 .have:=(g8 e2'.1).resolve_right λ⟨b,hb,_⟩=>by simp at hb
  refine .inl ?_;simp only[ho,asq];rw[e1',Zl this]
noncomputable def PL(C:Cfg)(G:Nat->Option W)(f:FuncId)(ws:List W)(ty:TypeId)(e:Nat)(l:List W):Prop:=yxq C G f 0 ws [] λw hp nw=>w=gW 0 e l/\hp=gH 0 ty e l/\nw=1
theorem PL.ps{C:Cfg}{G:Nat->Option W}{f:FuncId}{ws:List W}{ty:TypeId}{e:Nat}{l:List W}(h:PL C G f ws ty e l)(he:0<e)(hl:acq l=true):PS C G f ws (.fz l e false):=λR=>
 u2q λΓ X vs h1 s hv=>by
  obtain⟨n,v,Γ',X',w,hp',R',g1,g2,g3,g4,g5,rfl,rfl,g6⟩:=h R Γ X vs h1 s hv;exact⟨n,v,Γ',X',_,_,R',g1,g2,g3,g4,g5,aYq (H0:=[]) he hl Xi⟩
theorem f1q{o:Oper}{post:W->HpW->Nat->Res->Option EvW->Prop}{x:Operand}{xs:Array Operand}{ats:Array TypeId}{f:FuncId}{a us c ws:List W}{ty:TypeId}{e:Nat}{l:List W}(ho:o.op= .call ⟨.value x,xs,ats⟩)(hx:evW C G fr x=some (.fn f a c))(he:C.ext f=none)(hxs:ayq C G fr xs.toList=some us)(hws:a++us++c=ws)(hpw:acq ws=true)(sp:PL C G f ws ty e l)(hl:acq l=true)
  (hpost:post (gW nw e l) (gH nw ty e l++hp) (nw+1) R (some .gen)):aeq C G o fr hp nw R post:=by
 refine a4q ho hx he hxs hws hpw sp ?_;rintro w hp1 nw1 ⟨rfl,rfl,rfl⟩
 have e1:adq (afq [] nw) (gW 0 e l)=gW nw e l:=by
  cases l with
  |nil=>rfl
  |cons x r=>simp only[gW,adq];rfl
 have e2:alq (afq [] nw) (gH 0 ty e l)=gH nw ty e l:=by
  cases l with
  |nil=>rfl
  |cons x r=>
   have hpa:abq (.arr ((x::r).length*e) e (x::r))=true:=hl;simp only[gH,alq,zfq hpa];rfl
 rw[e1,e2];exact hpost
variable {ops:Array Oper} {l:List Oper} {K:FrW->HpW->Nat->Res->Prop} {hp2:HpW} {nw2:Nat} {R2:Res}
theorem jiq(e:∀k0,Ent C G m k0 fr hp nw R fr2 hp2 nw2 R2)(h:OpW C G m ops l fr2 hp2 nw2 R2 K):OpW C G m ops l fr hp nw R K:=λΓ X frv hnw hm s hf=>by
 obtain⟨Γ2,X2,e1,e2,e3⟩:=e 0 Γ X ⟨frv,Γ.h,[],false⟩ hnw hm ⟨rfl,hf,s,by simp,YJ⟩;obtain⟨n,frv',Γ',X',fr',hp',R',g1,g2,g3,g4,g5⟩:=h Γ2 X2 frv e1 (e1▸e3.mle (hnw▸hm)) e2.sat e2.fr;have hh:Γ.h=Γ2.h:=e2.hh;exact⟨n,frv',Γ',X',fr',hp',R',by rw[hh];exact g1,g2,g3,e3.trans g4,g5⟩
end
section
attribute [local irreducible] CoW OpW FlW aeq aiq
theorem eCq(l:List UInt8):zbq l=bN (l.map UInt8.toNat):=by simp[zbq,bN]
theorem tcq(ps:List (List Nat)):(cAq ps).length=32:=by simp[cAq,fqq]
theorem poq(ps:List (List Nat)):∀n∈cAq ps,n<256:=λn h=>by
 simp only[cAq,fqq,Z1] at h;obtain⟨i,_,rfl⟩:=h;exact Nat.mod_lt _ Xg
noncomputable def Adq(ps:List (List UInt8)):Dig:=⟨(cAq (ps.map λp=>p.map UInt8.toNat)).map UInt8.ofNat,by simp[tcq]⟩
theorem nsq{l:List Nat}(h:∀n∈l,n<256):zbq (l.map UInt8.ofNat)=bN l:=by
 rw[eCq,List.map_map];congr 1
 conv=>rhs;rw[<-List.map_id l]
 refine List.map_congr_left λn hn=>?_
 have:=h n hn;simp;omega
theorem ACq(ps:List (List UInt8×Bool))(f:Bool)(hb:((ps.map (·.1)).map List.length).foldr (· + ·) 0<2147483648)(hn:ps.length<2147483648):PS cfg glK 137 [.fz (ps.map λp=>.fz (zbq p.1) 1 p.2) 1 f] (dW (Adq (ps.map (·.1)))):=λR=>by
 have e1:(ps.map λp=>(p.1.map UInt8.toNat,p.2)).map ukq=ps.map λp=>.fz (zbq p.1) 1 p.2:=by simp[ukq,eCq]
 have e2:(ps.map λp=>(p.1.map UInt8.toNat,p.2)).map (·.1)=(ps.map (·.1)).map λp=>p.map UInt8.toNat:=by simp
 have h:=BWq (kfn:=ptq (brq 1 kA)) (ps.map λp=>(p.1.map UInt8.toNat,p.2)) f (by rw[e2];show(List.map List.length _).foldr _ 0<_;rw[List.map_map];simpa[Function.comp_def] using hb) (by simpa using hn) R;rw[e1,e2] at h
 have e3:dW (Adq (ps.map (·.1)))= .arr 32 1 (bN (cAq ((ps.map (·.1)).map λp=>p.map UInt8.toNat))):=by
  show W.arr 32 1 (zbq _)=_;rw[<-nsq (poq _)];rfl
 show aiq cfg glK _ 0 _ [] R λw hp nw R'=>R'=R/\w=dW (Adq (ps.map (·.1)))
 rw[e3];exact h
def Yqq(p:List UInt8):List UInt8:=beB 4 (p.length%4294967296)++p
def taq(kind:UInt8)(ps:List (List UInt8)):List UInt8:=kind::ps.flatMap Yqq
variable {G:Nat->Option W}
@[simp] theorem Byq(ps:List (List UInt8)):acq (ps.map bW)=true:=yfq (λx=>by simp) ps
theorem c0q{m:Nat}:∀{ps:List (List UInt8)} (i:Nat),(∀p∈ps,p.length<m) ->((ps.take i).flatMap Yqq).length<=i*(m+4)
 |[],i,_=>by simp
 |p::ps,0,_=>by simp
 |p::ps,i+1,h=>by
  have h1:=c0q (ps:=ps) i λq hq=>h q (ZP _ hq)
  have h2:=h p (ZS ..);simp only[List.take_succ_cons,List.flatMap_cons,Zj,Yqq,xvq,Nat.succ_mul];omega
theorem lsq(kind:UInt8)(ps:List (List UInt8))(f:Bool)(hn:ps.length<1000000)(hb:∀p∈ps,p.length<1000000):PS cfg G 138 [.int .u8 (.ofNat kind.toNat),.fz (ps.map bW) 1 f] (bW (taq kind ps)):=by
 have e:(ps.map bW).length=ps.length:=Zd _;refine gIv 16 Y (λR k0=>?_);refine gV (w':=.int .i64 (ps.length:Int)) 0 Y Yf ?_;refine zcq 4 Y ?_;refine inq (α:=Nat) (λi=>i<=ps.length) 5 (λi=>zbq (kind::(ps.take i).flatMap Yqq)) 5 1 (λi=>[(14,.int .i64 (i:Int))]) [(4,_),(12,_),(13,_)] ([]) 0 0 (λi=>ps.length-i) (0) ⟨rfl,rfl,rfl,trivial⟩ (Zi _) ⟨rfl,trivial⟩ Xd Xd Yo (by simp[zbq]) rfl (by simp[zbq]) Xh Xh rfl Xn Xj Xx (λi hI=>?_);refine zEq 6 Y ?_;refine gS 0 Y (λh1=>?_) (λh1=>?_)
 .have hi:i<ps.length:=by omega
  obtain⟨x,hx⟩:∃x,ps[i]? =some x:=⟨_,Za hi⟩
  have hxl:=hb x (Zf hx);have hfl:((ps.take i).flatMap Yqq).length<=i*1000004:=c0q i hb;have hL:(zbq (kind::(ps.take i).flatMap Yqq)).length<=1+i*1000004:=by rw[zqq,Zv];omega
  have hN:(zbq (beB 4 x.length)).length=4:=by rw[zqq,xvq]
  have hnx:zbq (kind::(ps.take (i+1)).flatMap Yqq)=(zbq (kind::(ps.take i).flatMap Yqq)++zbq (beB 4 x.length))++zbq x:=by
   rw[YF,hx,<-j1q,<-j1q];congr 1
   simp[Yqq,YV (show x.length<4294967296 by omega)]
  skip
  cases x with
  |nil=>
   refine zPq 6 Y ?_;refine gP 0 Y (zyq (i:=i) Y Y Y Y Y Y Y (zgq bW hx)) ?_;refine gV (w':=.int .i64 (([]:List UInt8).length:Int)) 7 Y (by show W.int .i64 ((zbq (([]:List UInt8))).length:Int)=_;rw[zqq]) ?_;refine gWr 0 Y ?_;refine gWr 0 Y ?_
   (refine zsq rfl (yMq Y Y Y Y Y Y (lTq ([]:List UInt8).length 4 Xd Xd (by show([]:List UInt8).length<4294967296;omega)) ?_);rintro w hp1 nw1 ⟨rfl,rfl,rfl⟩)
   refine zhq 10 Y ?_;refine gM 0 Y (qaq Y Y (Ztq [_] (k:=ti5) (news:=zbq (beB 4 ([]:List UInt8).length)) Y Y Y Y Y (umq Y Y Y (zvq Xg hN.symm rfl)) Yz (by rw[hN];show(_+4)*1<=_;omega) (by rw[hN];omega) rfl (by simp[afq]))) ?_;refine gM 1 Y (qaq Y Y (jPq (k:=ti5) Y Y Y Y Y)) ?_;refine gWr 5 Y ?_;refine zcq 2 Y ?_;exact koq 2 (i+1) (hi) Xd (Zi _) (by rw[hnx];exact ZU _) Xu Xd Yo rfl Ya ⟨rfl,trivial⟩ ⟨rfl,rfl,rfl,trivial⟩ Xh Xh rfl Xn Xj Xx
  |cons c x=>
   refine zPq 6 Y ?_;refine gP 0 Y (zyq (i:=i) Y Y Y Y Y Y Y (zgq bW hx)) ?_;refine gV (w':=.int .i64 ((c::x).length:Int)) 7 Y (by show W.int .i64 ((zbq ((c::x))).length:Int)=_;rw[zqq]) ?_;refine gWr 0 Y ?_;refine gWr 0 Y ?_
   (refine zsq rfl (yMq Y Y Y Y Y Y (lTq (c::x).length 4 Xd Xd (by show(c::x).length<4294967296;omega)) ?_);rintro w hp1 nw1 ⟨rfl,rfl,rfl⟩)
   refine zhq 10 Y ?_;refine gM 0 Y (qaq Y Y (Ztq [_] (k:=ti5) (news:=zbq (beB 4 (c::x).length)) Y Y Y Y Y (umq Y Y Y (zvq Xg hN.symm rfl)) Yz (by rw[hN];show(_+4)*1<=_;omega) (by rw[hN];omega) rfl (by simp[afq]))) ?_;refine gM 1 Y (qaq Y Y (qOq (k:=ti5) (len:=(zbq (kind::(ps.take i).flatMap Yqq)++zbq (beB 4 (c::x).length)).length) (news:=zbq (c::x)) (olds:=zbq (kind::(ps.take i).flatMap Yqq)++zbq (beB 4 (c::x).length)) Y Y Y Y Y (by simp[zbq]) (by rw[Zj,hN,zqq (c::x)];show(_+_)*1<=_;omega) (by rw[Zj,hN,zqq (c::x)];omega) rfl (by show(_++_:List W).length*1<0+((_++_:List W).length+(zbq (c::x)).length)*1;rw[zqq (c::x),Zv];omega) rfl (zvq Xg Y Y))) ?_;refine gWr 5 Y ?_;refine zcq 2 Y ?_;exact koq 3 (i+1) (hi) Xd (Zi _) (hnx) Xu Xd Yo rfl Ya ⟨rfl,trivial⟩ ⟨rfl,rfl,rfl,trivial⟩ Xh Xh rfl Xn Xj Xx
 .have hi:i=ps.length:=by omega
  subst hi;refine zcq 2 Y ?_;refine qUq Xk ?_;refine z0q 9 Y ?_;refine yTq Xq Y ?_;rw[List.take_length];exact aYq (H0:=[]) Xg Xi Xi
theorem s9q{m:Nat}(kind:UInt8)(ps:List (List UInt8))(h:∀p∈ps,p.length<m):(taq kind ps).length<=1+ps.length*(m+4):=by
 have:=c0q (m:=m) ps.length h;rw[List.take_length] at this;simp only[taq,Zv];omega
noncomputable def crq(kind:UInt8)(ps:List (List UInt8)):Dig:=Adq [taq kind ps]
theorem uvq(kind:UInt8)(ps:List (List UInt8))(f:Bool)(hn:ps.length<1000)(hb:∀p∈ps,p.length<1000000):PS cfg glK 63 [.int .u8 (.ofNat kind.toNat),.fz (ps.map bW) 1 f] (dW (crq kind ps)):=by
 have hl:=s9q kind ps hb;refine gI 9 Y (λR k0=>gC 0 Y (lsq kind ps f Xd hb) (zcq 1 Y ?_));refine ulq Y Y Y Y Y (by(repeat (first|exact .nil|refine .cons ?_ ?_|(refine .sl Y ?_ rfl Xk;first|rfl|(focus (simp;done)))|(refine yYq Y ?_ rfl;first|rfl|(focus (simp;done)))|(refine .pur ?_;first|rfl|(focus (simp;done)))))) (ACq [(taq kind ps,false)] false Xo Xi) Xn Xn ?_;exact zhq 4 Y (gQa 0 Y)
noncomputable def atq(k:Dig):Dig:=crq 3 [k.1]
theorem A8q(k:Dig):PS cfg glK 41 [dW k] (dW (atq k)):=by
 exact gI 10 Y (λR k0=>ulq Y Y Y Y Y (.cons (.pur rfl) (.cons (.sl2 (full:=false) rfl (.arr (.cons (.sl (full:=false) (xs:=zbq k.1) rfl Xi (zvq Xg (by simp[zqq,k.2]) rfl) Xk) .nil)) rfl Xk) .nil)) (uvq 3 [k.1] false Xi (by simp[k.2])) Xn Xn (zhq 4 Y (gQa 0 Y)))
end
section
attribute [local irreducible] CoW OpW FlW aeq aiq
variable {G:Nat->Option W}
structure Tx where
 pub:Dig
 to:Dig
 nonce:Nat
 amount:Nat
 fee:Nat
 sign:Dig
noncomputable def txW(x:Tx):W:=.agg 99 [dW x.pub,dW x.to,.int .u64 (x.nonce:Int),.int .u64 (x.amount:Int),.int .u64 (x.fee:Int),dW x.sign]
@[simp] theorem qGq(x:Tx):abq (txW x)=true:=by simp[txW]
structure Tx.ok(x:Tx):Prop where
 nonce:x.nonce<18446744073709551616
 amount:x.amount<18446744073709551616
 fee:x.fee<18446744073709551616
def xuq(x:Tx):List UInt8:=(x.pub.1++x.to.1)++[x.nonce,x.amount,x.fee].flatMap (beB 8)
theorem sfq(d:Dig):PS cfg G 225 [dW d] (bW d.1):=by
 exact gIv 13 Y (λR k0=>yTq Jm rfl (.sl (full:=false) (xs:=zbq d.1) rfl Xi (zvq Xg (by simp[zqq,d.2]) rfl) Xk))
theorem iwq(n:Nat)(hn:n<18446744073709551616):PS cfg G 227 [.int .u64 (n:Int)] (bW (beB 8 n)):=by
 refine gIv 8 Y (λR k0=>?_)
 (refine zsq rfl (yMq Y Y Y Y Y Y (lTq n 8 Xd Xd (by show n<18446744073709551616;omega)) ?_);rintro w hp1 nw1 ⟨rfl,rfl,rfl⟩)
 exact zhq 14 Y (yTq Jm rfl (.sl (full:=false) (c:=.arr (8*1) 1 (zbq (beB 8 n))) (xs:=zbq (beB 8 n)) rfl Xi (zvq Xg (by rw[zqq,xvq]) rfl) Xk))
theorem mVq{ds:List Dig}{i:Nat}{d:Dig}(h:ds[i]? =some d):zbq ((ds.take (i+1)).flatMap (·.1))=zbq ((ds.take i).flatMap (·.1))++zbq d.1:=by
 rw[YF,h,<-j1q];congr 1
 simp
theorem eeq:∀(ds:List Dig) (i:Nat),((ds.take i).flatMap (·.1)).length<=i*32
 |[],i=>by simp
 |d::ds,0=>by simp
 |d::ds,i+1=>by
  have:=eeq ds i;simp only[List.take_succ_cons,List.flatMap_cons,Zj,d.2,Nat.succ_mul];omega
@[simp] theorem Brq(ds:List Dig):acq (ds.map dW)=true:=yfq (λx=>by simp) ds
theorem tyq(ds:List Dig)(f:Bool)(hn:ds.length<1000):PL cfg G 224 [.nils,.fz (ds.map dW) 32 f,.fn 225 [] []] 5 1 (zbq (ds.flatMap (·.1))):=by
 have e:(ds.map dW).length=ds.length:=Zd _;intro R;refine gIs 9 Y (λk0=>?_);refine gV (w':=.int .i64 (ds.length:Int)) 0 Y Yf (zcq 4 Y ?_);refine vCq (α:=Nat) (λi=>i<=ds.length) 0 (λi=>zbq ((ds.take i).flatMap (·.1))) 5 1 (λi=>[(11,.int .i64 (i:Int))]) [(2,_),(6,_),(9,_),(10,_)] _ (λi=>ds.length-i) (0) ⟨rfl,rfl,rfl,rfl,trivial⟩ (Zi _) ⟨rfl,trivial⟩ Y Y Y (λi hI=>?_);refine zEq 6 Y ?_;refine gS 0 Y (λh1=>?_) (λh1=>?_)
 .have hi:i<ds.length:=by omega
  obtain⟨d,hd⟩:∃d,ds[i]? =some d:=⟨_,Za hi⟩
  have hN:(zbq d.1).length=32:=by rw[zqq,d.2]
  have hne:zbq ((ds.take i).flatMap (·.1))++zbq d.1≠[]:=λh=>by have:=Ze List.length h;rw[Zj,hN] at this;simp at this
  have hL:(zbq ((ds.take i).flatMap (·.1))).length<=i*32:=by rw[zqq];exact eeq ds i
  exact gP 6 Y (zyq (i:=i) Y Y Y Y Y Y Y (zgq dW hd)) (gC 9 Y (sfq d) (gM 0 Y (qaq Y Y (Ztq [_] (k:=ti5) (news:=zbq d.1) Y Y Y Y Y Y Yz (by rw[hN];show(_+32)*1<=_;omega) (by rw[hN];omega) rfl Xi)) (gWr 5 Y (zcq 2 Y (koq 2 (i+1) (hi) Xd (Zi _) (mVq hd) Xu Xd Yo rfl Ya ⟨rfl,trivial⟩ ⟨rfl,rfl,rfl,rfl,trivial⟩ Xh Xh rfl Xn Xj Xx)))))
 .have hi:i=ds.length:=by omega
  subst hi;refine zcq 2 Y (qUq Xk (z0q 9 Y ?_));rw[List.take_length];exact fin Jm (ynq (fr2:=[(6,gW 0 1 (zbq (ds.flatMap (·.1))))]) ⟨rfl,trivial⟩ Y Y) rfl ⟨rfl,rfl,rfl,rfl⟩
theorem ecq:∀(ns:List Nat) (i:Nat),((ns.take i).flatMap (beB 8)).length<=i*8
 |[],i=>by simp
 |d::ds,0=>by simp
 |d::ds,i+1=>by
  have:=ecq ds i;simp only[List.take_succ_cons,List.flatMap_cons,Zj,xvq,Nat.succ_mul];omega
noncomputable def uW(n:Nat):W:=.int .u64 (n:Int)
@[simp] theorem fNq(ns:List Nat):acq (ns.map uW)=true:=yfq (λx=>rfl) ns
noncomputable def thr(i:Nat):Nat:=match i with
 |0=>0
 |_+1=>1
theorem txq(l:List UInt8)(hl0:l≠[])(hl:l.length<100000)(ns:List Nat)(f:Bool)(hn:ns.length<1000)(hns:ns≠[])(hu:∀n∈ns,n<18446744073709551616):yxq cfg G 226 1 [.sl 0 0 0 l.length 1 none,.fz (ns.map uW) 1 f,.fn 227 [] []] [(0,5,.arr l.length 1 (zbq l))] λw hp nw=>w= .sl 1 0 0 (l++ns.flatMap (beB 8)).length 1 none/\hp=[(1,5,.arr (l++ns.flatMap (beB 8)).length 1 (zbq (l++ns.flatMap (beB 8))))]/\nw=2:=by
 have e:(ns.map uW).length=ns.length:=Zd _;intro R;refine gIs 9 Y (λk0=>?_);refine gV (w':=.int .i64 (ns.length:Int)) 0 Y Yf (zcq 4 Y ?_);refine jeq (α:=Nat) (λi=>i<=ns.length) (λi=>[(11,.int .i64 (i:Int)),(0,.sl (thr i) 0 0 (l++(ns.take i).flatMap (beB 8)).length 1 none),(2,.fn 227 [] []),(6,.nils),(9,.fz (ns.map uW) 1 f),(10,.int .i64 (ns.length:Int))]) (λi=>[(thr i,5,.arr (l++(ns.take i).flatMap (beB 8)).length 1 (zbq (l++(ns.take i).flatMap (beB 8))))]) (λi=>thr i+1) (λ_=>R) (λi=>ns.length-i) 0 (Zi _) (ynq ⟨rfl,by show some (W.sl 0 0 0 l.length 1 none)=some (W.sl 0 0 0 (l++[]).length 1 none);rw[ZU],rfl,rfl,rfl,rfl,trivial⟩ (by simp[thr]) rfl) (λi hI=>?_);skip
 refine zEq 6 Y ?_;refine gS 0 Y (λh1=>?_) (λh1=>?_)
 .have hi:i<ns.length:=by omega
  obtain⟨u,hu0⟩:∃u,ns[i]? =some u:=⟨_,Za hi⟩
  have hu1:=hu u (Zf hu0);have hN:(zbq (beB 8 u)).length=8:=by rw[zqq,xvq]
  have hL:(l++(ns.take i).flatMap (beB 8)).length<=100000+i*8:=by have:=ecq ns i;rw[Zj];omega
  have hnx:l++(ns.take (i+1)).flatMap (beB 8)=(l++(ns.take i).flatMap (beB 8))++beB 8 u:=by rw[YF,hu0];simp
  have hlen:(l++(ns.take i).flatMap (beB 8)).length+(zbq (beB 8 u)).length=(l++(ns.take (i+1)).flatMap (beB 8)).length:=by rw[hnx,Zj (bs:=beB 8 u),zqq]
  have hby:zbq (l++(ns.take i).flatMap (beB 8))++zbq (beB 8 u)=zbq (l++(ns.take (i+1)).flatMap (beB 8)):=by rw[hnx,j1q (b:=beB 8 u)]
  skip
  cases i with
  |zero=>
   refine zPq 6 Y (gP 0 Y (zyq (i:=0) Y Y Y Y Y Y Y (zgq uW hu0)) (gC 8 Y (iwq u hu1) (gM 0 Y (qaq Y Y (qOq (k:=ti5) (len:=(l++(ns.take 0).flatMap (beB 8)).length) (news:=zbq (beB 8 u)) (olds:=zbq (l++(ns.take 0).flatMap (beB 8))) Y Y Y Y Y Yz (by rw[hN];show(_+8)*1<=_;omega) (by rw[hN];omega) rfl (by rw[hN];show(l++(ns.take 0).flatMap (beB 8)).length<0+(_+8)*1;omega) rfl (zvq Xg (zqq _).symm (Z2 _).symm))) (gA 5 Y (0+1) (zcq 2 Y ?_)))));skip
   refine y6q 1 hi Xd (ynq ⟨rfl,?_,rfl,rfl,rfl,rfl,trivial⟩ ?_ rfl)
   .show some (W.sl 1 0 0 ((l++(ns.take 0).flatMap (beB 8)).length+(zbq (beB 8 u)).length) 1 none)=some (W.sl 1 0 0 (l++(ns.take (0+1)).flatMap (beB 8)).length 1 none);rw[hlen]
   .show [(1,5,W.arr (((l++(ns.take 0).flatMap (beB 8)).length+(zbq (beB 8 u)).length)*1) 1 (zbq (l++(ns.take 0).flatMap (beB 8))++zbq (beB 8 u)))]=[(1,5,W.arr (l++(ns.take (0+1)).flatMap (beB 8)).length 1 (zbq (l++(ns.take (0+1)).flatMap (beB 8))))];rw[hlen,hby,Z2]
  |succ i=>
   refine zPq 6 Y (gP 0 Y (zyq (i:=(i+1)) Y Y Y Y Y Y Y (zgq uW hu0)) (gC 8 Y (iwq u hu1) (gM 0 Y (qaq Y Y (qOq (k:=ti5) (len:=(l++(ns.take (i+1)).flatMap (beB 8)).length) (news:=zbq (beB 8 u)) (olds:=zbq (l++(ns.take (i+1)).flatMap (beB 8))) Y Y Y Y Y Yz (by rw[hN];show(_+8)*1<=_;omega) (by rw[hN];omega) rfl (by rw[hN];show(l++(ns.take (i+1)).flatMap (beB 8)).length<0+(_+8)*1;omega) rfl (zvq Xg (zqq _).symm (Z2 _).symm))) (gA 5 Y ((i+1)+1) (zcq 2 Y ?_)))));skip
   refine y6q (i+1+1) hi (show ns.length-(i+1+1)<ns.length-(i+1) by omega) ?_;refine(qdq (b:=1) (k:=2) Xd Xd (by show 2<3;omega) ⟨⟨rfl,rfl⟩,⟨?_,rfl⟩,⟨rfl,rfl⟩,⟨rfl,rfl⟩,⟨by rw[zfq (show abq (.fz (ns.map uW) 1 f)=true from fNq ns)];rfl,zaq (show abq (.fz (ns.map uW) 1 f)=true from fNq ns)⟩,⟨rfl,rfl⟩,trivial⟩ ⟨⟨by show 1<2;omega,?_,zaq (show abq (.arr _ 1 (zbq _))=true from q4q _)⟩,trivial⟩ Xi)
   .show some (W.sl 2 0 0 ((l++(ns.take (i+1)).flatMap (beB 8)).length+(zbq (beB 8 u)).length) 1 none)=some (W.sl 2 0 0 (l++(ns.take (i+1+1)).flatMap (beB 8)).length 1 none);rw[hlen]
   .show some (5,W.arr (((l++(ns.take (i+1)).flatMap (beB 8)).length+(zbq (beB 8 u)).length)*1) 1 (zbq (l++(ns.take (i+1)).flatMap (beB 8))++zbq (beB 8 u)))=some (5,adq _ (W.arr (l++(ns.take (i+1+1)).flatMap (beB 8)).length 1 (zbq (l++(ns.take (i+1+1)).flatMap (beB 8)))));rw[zfq (show abq (.arr _ 1 (zbq _))=true from q4q _),hlen,hby,Z2]
 .have hi:i=ns.length:=by omega
  subst hi;refine zcq 2 Y (qUq Xk (z0q 9 Y ?_));rw[List.take_length];cases ns with
  |nil=>exact absurd rfl hns
  |cons a r=>
   exact fin Jm (ynq (fr2:=[(6,.sl 1 0 0 (l++(a::r).flatMap (beB 8)).length 1 none)]) ⟨rfl,trivial⟩ Y Y) rfl ⟨rfl,rfl,rfl,rfl⟩
theorem tBq(a b:Dig)(f:Bool):yxq cfg G 224 0 [.nils,.fz [dW a,dW b] 32 f,.fn 225 [] []] [] λw hp nw=>w= .sl 0 0 0 (a.1++b.1).length 1 none/\hp=[(0,5,.arr (a.1++b.1).length 1 (zbq (a.1++b.1)))]/\nw=1:=by
 refine kOq (tyq [a,b] f Xi) λw hp nw h=>?_
 obtain⟨rfl,rfl,rfl⟩:=h;have e:[a,b].flatMap (·.1)=a.1++b.1:=by simp
 have hl:(zbq (a.1++b.1)).length=64:=by rw[zqq,Zj,a.2,b.2]
 have hne:zbq (a.1++b.1)≠[]:=λh=>by rw[h] at hl;cases hl
 rw[e,YDq hne,YEq hne,zqq,Z2];exact⟨rfl,rfl,rfl⟩
theorem eEq(x:Tx):(xuq x).length=88:=by simp[xuq,x.pub.2,x.to.2,xvq]
theorem sdq(x:Tx)(hx:x.ok):PL cfg G 184 [txW x] 5 1 (zbq (xuq x)):=by
 have hl:(x.pub.1++x.to.1).length=64:=by rw[Zj,x.pub.2,x.to.2]
 have hb:=eEq x
 have hns:∀n∈[x.nonce,x.amount,x.fee],n<18446744073709551616:=λn hn=>by
  simp only[ZF,YG,or_false] at hn;rcases hn with rfl|rfl|rfl
  .exact hx.nonce
  .exact hx.amount
  .exact hx.fee
 have hpa:abq (.arr (x.pub.1++x.to.1).length 1 (zbq (x.pub.1++x.to.1)))=true:=q4q _;intro R;refine gIs 13 Y (λk0=>?_)
 (refine jiq (λ_=>J9q 1 [(1,.ptr 0 0),(2,.nils),(8,.fz [dW x.pub,dW x.to] 32 false)] [(0,72,txW x)] rfl (show acq [dW x.pub,dW x.to]=true by simp) (Zi _) ⟨⟨_,rfl,.ptrK rfl⟩,⟨_,rfl,.pur rfl⟩,⟨_,rfl,.sl (full:=false) rfl (show acq [dW x.pub,dW x.to]=true by simp) rfl Xk⟩,trivial⟩ ⟨⟨by omega,_,rfl,.pur Xi⟩,trivial⟩ Xi) ?_;refine zsq rfl (yMq Y Y Y Y Y Xi (tBq x.pub x.to false) ?_);rintro w hp1 nw1 ⟨rfl,rfl,rfl⟩)
 refine zhq 13 Y ?_
 (refine jiq (λ_=>J9q 3 [(1,.ptr 0 0),(2,.nils),(10,.sl 2 0 0 (x.pub.1++x.to.1).length 1 none),(17,.fz ([x.nonce,x.amount,x.fee].map uW) 1 false)] [(2,5,.arr (x.pub.1++x.to.1).length 1 (zbq (x.pub.1++x.to.1))),(0,72,txW x)] Y Y (Zi _) ⟨⟨_,rfl,.ptrK rfl⟩,⟨_,rfl,.pur rfl⟩,⟨_,rfl,.slK rfl⟩,⟨_,rfl,.sl (full:=false) Y Y Y Xk⟩,trivial⟩ ⟨⟨by omega,_,rfl,by rw[zfq hpa];exact .pur hpa⟩,⟨by omega,_,rfl,.pur Xi⟩,trivial⟩ Xi) ?_;refine zsq rfl (zGq (ext:=[2]) (ws:=[.sl 0 0 0 (x.pub.1++x.to.1).length 1 none,.fz ([x.nonce,x.amount,x.fee].map uW) 1 false,.fn 227 [] []]) Y Y Y Y Y (txq (x.pub.1++x.to.1) (by intro h;rw[h] at hl;cases hl) Xd [x.nonce,x.amount,x.fee] false Xi Xi hns) Xi Xi Xi (yCq (by rw[zfq hpa];rfl) (zaq hpa)) Y ?_);rintro w hp1 nw1 ⟨rfl,rfl,rfl⟩)
 refine zhq 4 Y ?_;have hpb:abq (.arr (xuq x).length 1 (zbq (xuq x)))=true:=q4q _;have hn:(zbq (xuq x)).length=88:=by rw[zqq,hb]
 have hne:zbq (xuq x)≠[]:=λh=>by rw[h] at hn;cases hn
 refine fin (fr2:=[(2,.sl 0 0 0 (xuq x).length 1 none)]) (hp2:=[(0,5,.arr (xuq x).length 1 (zbq (xuq x)))]) (nw2:=1) (w:=.sl 0 0 0 (xuq x).length 1 none) Jm (qdq (b:=0) (k:=4) Xd Xd (by show 4<5;omega) ⟨⟨rfl,rfl⟩,trivial⟩ ⟨⟨by omega,?_,zaq hpb⟩,trivial⟩ Xi) rfl ⟨rfl,?_,?_,rfl⟩
 .show some (5,adq _ (W.arr (xuq x).length 1 (zbq (xuq x))))=some (5,adq _ (W.arr (xuq x).length 1 (zbq (xuq x))));rw[zfq hpb,zfq hpb]
 .rw[YDq hne,zqq]
 .rw[YEq hne,zqq,Z2]
theorem wWq(x:Tx)(hx:x.ok):PS cfg G 184 [txW x] (bW (xuq x)):=(sdq x hx).ps Xg Xi
noncomputable def xCq(x:Tx):Dig:=crq 4 [xuq x]
theorem nVq(x:Tx)(hx:x.ok):PS cfg glK 147 [txW x] (dW (xCq x)):=by
 have hb:=eEq x;refine gI 9 Y (λR k0=>gC 0 Y (wWq x hx) (zcq 1 Y ?_));refine ulq Y Y Y Y Y (by(repeat (first|exact .nil|refine .cons ?_ ?_|(refine .sl Y ?_ rfl Xk;first|rfl|(focus (simp;done)))|(refine yYq Y ?_ rfl;first|rfl|(focus (simp;done)))|(refine .pur ?_;first|rfl|(focus (simp;done)))))) (uvq 4 [xuq x] false Xi (by simp[hb])) Xn Xn ?_;exact zhq 4 Y (gQa 0 Y)
theorem qBq(x:Tx)(hx:x.ok):PS cfg glK 81 [txW x] (.int .i64 (if x.sign=xCq x then 0 else 110)):=by
 refine tEq (fn:=Tryz.f81) Y Y Y (Yb rfl) (λR k0=>?_);by_cases h:x.sign=xCq x
 .rw[Zt h];skip
  exact zEq 12 Y (gC 0 Y (nVq x hx) (jcq (w':=.bool false) rfl (qZq Y Y Y Y (yzq Y Y Y Y Y Y x.sign (xCq x) 250)) (by rw[Zn h];rfl) (yhq 11 Y (gQa 0 Y))))
 .rw[Zg h];exact zEq 12 Y (gC 0 Y (nVq x hx) (jcq (w':=.bool true) rfl (qZq Y Y Y Y (yzq Y Y Y Y Y Y x.sign (xCq x) 250)) (by rw[Zo h];rfl) (yhq 10 Y (gQa 0 Y))))
theorem bIq(x:Tx):PS cfg glK 10 [txW x] (dW (atq x.pub)):=by
 exact gI 10 Y (λR k0=>gC 0 Y (A8q x.pub) (gQa 4 Y))
structure Hdr where
 height:Int
 parent:Dig
 state:Dig
 rows:Dig
 many:Int
noncomputable def hdW(h:Hdr):W:=.agg 98 [.int .i64 h.height,dW h.parent,dW h.state,dW h.rows,.int .i64 h.many]
@[simp] theorem rqq(h:Hdr):abq (hdW h)=true:=by simp[hdW]
theorem jXq{C:Cfg}{G:Nat->Option W}{m k0:Nat}{fr:FrW}{hp:HpW}{nw:Nat}{R:Res}{b:Nat}{ty:TypeId}{w w':W}(hb:hget hp b=some (ty,w))(h:View (λ_=>none) w w'):Ent C G m k0 fr hp nw R fr (anq hp b (ty,w')) nw R:=
 dbq hb λΓ v hv=>j3q ⟨λ_ h _=>h,λ_ _ _=>rfl,λ_ h=>h,λ_ _=>rfl,λ_ _ _ h=>Qs⟩ h hv
def okH(h:Hdr):Prop:=0<=h.height/\h.height<=1073741824/\0<=h.many/\h.many<=256
noncomputable instance(h:Hdr):Decidable (okH h):=Classical.propDecidable _
end
section
variable {C:Cfg} {G:Nat->Option W} {o:Oper} {fr:FrW} {hp:HpW} {nw:Nat} {R:Res} {post:W->HpW->Nat->Res->Option EvW->Prop}
theorem f5q{w w2 c:W}{ty:TypeId}(h:aDq C G fr hp nw o.op=some (w,(nw,ty,c)::hp,nw+1,.gen))(hc:abq c=true)(hv:View (eGq nw c) w w2)(hpost:post w2 hp (nw+1) R (some .gen)):aeq C G o fr hp nw R post:=λΓ X frv hnw s hf=>by
 subst hnw;obtain⟨v,h',Γ',h1,h2,h3,h4⟩:=cLq (rt:=o.type) hf s h;have sat:=h3.sat;have hb:hget ((Γ.nw,ty,c)::hp) Γ.nw=some (ty,c):=by rw[zeq,Zt rfl]
 obtain⟨p1,p2,p3,u,p4,p5⟩:=sat.own _ _ _ hb;let Γ2:Ctx:=⟨Γ'.nw,Γ'.σ,λd=>Γ'.D d\/d=Γ'.σ Γ.nw,Γ'.h⟩
 have le:Γ'.Le Γ2:=⟨Zc _,λ_ _=>rfl,λ_ h=>.inl h,λ_ _=>rfl⟩
 have q:Seen (eGq Γ.nw c) Γ' Γ2:=⟨λ_ h _=>h,λ_ _ _=>rfl,λ_ h=>.inl h,λ_ _=>rfl,λk c' hk h=>by
  unfold eGq at h;split at h
  .rename_i e;rw[ZE] at e;subst e;cases h;exact⟨.inr rfl,u,x8q p4,p5⟩
  .cases h⟩
 have hlt:Γ'.σ Γ.nw<Γ'.h.next:=by
  rcases ZM (Γ'.σ Γ.nw) Γ'.h.next with h|h
  .exact h
  .rw[sat.wf _ h] at p4;cases p4
 have hsub:∀k x,hget hp k=some x->k<Γ.nw/\hget ((Γ.nw,ty,c)::hp) k=some x:=λk x hk=>by
  have:=(s.own k x.1 x.2 hk).1;exact⟨this,by rw[zeq,Zg Xd];exact hk⟩
 refine⟨0,w2,hp,R,some .gen,v,h',Γ2,X,?_,by simp only[opV,h1,h2],⟨h1,h4⟩,h3.hh,⟨Zs h3.le.nw le.nw,h3.le.σ,λd h=>.inl (h3.le.D d h),h3.le.val⟩,⟨sat.wf,λk ty' w hk=>?_,λk k' x y hx hy e=>?_,s.nd,λd hd hX=>?_,sat.xlt,λd hd=>?_,R.st _ _ _ _ _ sat.res le.D le.val (λ_ _=>rfl) (Zc _),sat.gl.mono le⟩,⟨h3.frm.sig,h3.frm.mle,h3.frm.next,h3.frm.keep,λd h=>.inl (h3.frm.dsub d h),λd hd=>?_,λk x _ hk=>⟨x,hk⟩,λk x hm hk=>?_,λ_ h=>.inl h,h3.frm.wmin⟩,j3q q hv h3.val⟩
 .show post w2 hp Γ'.nw R _;rw[h3.nw];exact hpost
 .obtain⟨g1,g2⟩:=hsub k _ hk;obtain⟨q1,q2,q3,u,q4,q5⟩:=sat.own _ _ _ g2;exact⟨q1,λh=>h.elim q2 λe=>by have:=sat.inj k _ _ _ g2 hb e;omega,q3,u,q4,q5.mono le⟩
 .exact sat.inj _ _ _ _ (hsub k _ hx).2 (hsub k' _ hy).2 e
 .rcases hd with h|rfl
  .exact sat.dX d h hX
  .exact p3 hX
 .rcases hd with h|rfl
  .exact sat.dlt d h
  .exact hlt
 .rcases hd with h|rfl
  .exact h3.frm.dnew d h
  .rcases h3.frm.onum Γ.nw _ (Zc _) hb with h|⟨k,y,g1,g2,g3⟩
   .exact .inr (.inr h)
   .exact .inr (.inl (.inl ⟨k,y,g2,g3⟩))
 .have:=(hsub k _ hk).1;omega
theorem f2q{w w2:W}(h:aDq C G fr hp nw o.op=some (w,hp,nw,.gen))(hv:View (λ_=>none) w w2)(hpost:post w2 hp (nw+1) R (some .gen)):aeq C G o fr hp nw R post:=λΓ X frv hnw s hf=>by
 subst hnw;obtain⟨v,h',Γ',h1,h2,h3,h4⟩:=cLq (rt:=o.type) hf s h;have sat:=h3.sat;let Γ2:Ctx:=⟨Γ'.nw+1,Γ'.σ,Γ'.D,Γ'.h⟩
 have le:Γ'.Le Γ2:=⟨YK _,λ_ _=>rfl,λ_ h=>h,λ_ _=>rfl⟩;refine⟨0,w2,hp,R,some .gen,v,h',Γ2,X,?_,by simp only[opV,h1,h2],⟨h1,h4⟩,h3.hh,⟨Zs h3.le.nw le.nw,h3.le.σ,h3.le.D,h3.le.val⟩,⟨sat.wf,λk ty' w hk=>?_,sat.inj,s.nd,sat.dX,sat.xlt,sat.dlt,R.st _ _ _ _ _ sat.res le.D le.val (λ_ _=>rfl) (Zc _),sat.gl.mono le⟩,⟨h3.frm.sig,λh=>Zs (h3.frm.mle h) (YK _),h3.frm.next,h3.frm.keep,h3.frm.dsub,h3.frm.dnew,h3.frm.oext,h3.frm.onum,λ_ h=>.inl h,h3.frm.wmin⟩,j3q (show Seen (λ_=>none) Γ' Γ2 from⟨λ_ h _=>Nat.lt_succ_of_lt h,λ_ _ _=>rfl,λ_ h=>h,λ_ _=>rfl,λ_ _ _ h=>Qs⟩) hv h3.val⟩
 .show post w2 hp (Γ'.nw+1) R _;rw[h3.nw];exact hpost
 .obtain⟨q1,q2,q3,u,q4,q5⟩:=sat.own _ _ _ hk;exact⟨Zw q1 (YK _),q2,q3,u,q4,q5.mono le⟩
theorem lyq{x y:Operand}{ts tx ty:TypeId}{j k:TyI}{e:Nat}{v:W}{news:List W}(ho:o.op= .call ⟨.builtin .append, #[x,y], #[ts,tx]⟩)(hx:evW C G fr x=some .nils)(hy:evW C G fr y=some v)(hj:C.ty ts=some j)(hd:j.d= .slice ty)(hk:C.ty ty=some k)(he:k.size=e)(hz:Nat.beq k.size 0=false)(hs:aJq C hp tx k.size v=some news)(hpu:acq news=true)(h1:news.length*k.bytes<=140737488355328)(h2:news.length<=70368744177664)(h:post (.fz news e false) hp (nw+1) R (some .gen)):aeq C G o fr hp nw R post:=by
 subst he
 have hk0:0<k.size:=by
  rcases YS k.size with q|q
  .rw[q] at hz;cases hz
  .exact q
 cases news with
 |nil=>exact f2q (by rw[ho];exact qaq hx hy (eJq hj hd hk hz hs)) .nilfz h
 |cons z zs=>
  exact f5q (by rw[ho];exact qaq hx hy (uUq hj hd hk hz hs Xi h1 h2)) (show abq (.arr _ _ (z::zs))=true from hpu) (.sl (full:=false) (c:=.arr ((z::zs).length*k.size) k.size (z::zs)) (by unfold eGq;rw[YY]) hpu (zvq hk0 Y Y) Xk) h
end
section
attribute [local irreducible] CoW OpW FlW aeq aiq
noncomputable def byW(c:UInt8):W:=.int .u8 (.ofNat c.toNat)
theorem iuq(l:List UInt8)(i:Nat)(c:UInt8):zbq (l.set i c)=(zbq l).set i (byW c):=List.map_set
theorem ntq{l:List UInt8}{i:Nat}(h:i<l.length):(zbq l)[i]? =some (byW l[i]):=by
 unfold zbq;rw[ZY,Za h];rfl
theorem dQq{f:Nat}{l:List UInt8}{n i:Nat}(h:i<l.length)(hn:n≠1)(c:UInt8):yoq (f+2) (.arr n 1 (zbq l)) (0+i*1+0) (byW c)=some (.arr n 1 (zbq (l.set i c))):=by
 have hne:(Nat.beq (0+i*1+0) 0&&Nat.beq (byW c).size n&&(byW c).isAgg==true)=false:=by
  show(Nat.beq (0+i*1+0) 0&&Nat.beq 1 n&&false)=false;rw[Y1]
 rw[QFq (x:=byW l[i]) (x':=byW c) (ntq h) Xd Xd hne rfl,iuq]
theorem Ygq{F:List UInt8->W}{base n:Nat}(hF:∀l i c,l.length=n->i<n->yoq 50 (F l) (base+i) (byW c)=some (F (l.set i c)))(hA:∀l,(F l).isAgg=true):∀(ns:List UInt8) (i:Nat) (l:List UInt8),l.length=n->i+ns.length<=n->vbq (F l) (base+i) 1 (zbq ns)=some (F (l.take i++ns++l.drop (i+ns.length)))
 |[],i,l,_,_=>by
  show some (F l)=_;simp
 |c::ns,i,l,hl,hi=>by
  have hi2:i+(ns.length+1)<=n:=by simpa using hi
  have hi':i<n:=by omega
  have ih:=Ygq hF hA ns (i+1) (l.set i c) (by rw[YL];exact hl) (by simp only[Zv] at hi;omega)
  show(match Nat.beq (byW c).size 1&&(F l).isAgg with
   |true=>match yoq 50 (F l) (base+i) (byW c) with
    |some v'=>vbq v' (base+i+1) 1 (zbq ns)
    |none=>none
   |false=>none)=_
  rw[hA l,show(Nat.beq (byW c).size 1&&true)=true from rfl,hF l i c hl hi'];simp only;rw[ZK,ih];congr 2
  apply List.ext_getElem?;intro k;simp only[Zz,YW,YZ,Zu,YL,Zv,YI,ZX,List.getElem?_set,List.getElem?_cons,hl];repeat' split
  all_goals first|rfl|(exfalso;omega)|(congr 1;omega)|(simp;done)
theorem m9q:∀(l:List UInt8) (i:Nat) (c:UInt8),l.length=32->i<32->yoq 50 (.arr 32 1 (zbq l)) (0+i) (byW c)=some (.arr 32 1 (zbq (l.set i c))):=λl i c hl hi=>by
 have:=dQq (f:=48) (l:=l) (n:=32) (i:=i) Xd Xg c;rwa[show 0+i*1+0=0+i by omega] at this
theorem r2q{C:Cfg}{G:Nat->Option W}{fr:FrW}{hp:HpW}{nw:Nat}{x y:Operand}{ts tx ty e:TypeId}{j k:TyI}{b base off len:Nat}{lim:Option Nat}{u v v':W}{all ns:List UInt8}{n:Nat}(hx:evW C G fr x=some (.sl b base off len 1 lim))(hy:evW C G fr y=some u)(hj:C.ty ts=some j)(hd:j.d= .slice e)(hk:C.ty e=some k)(h1:k.size=1)(hs:aJq C hp tx 1 u=some (zbq all))(ha:all.take len=ns)(hn:ns.length=n)(h0:0<n)(hg:hget hp b=some (ty,v))(hl:off+n<=v.size)(hput:vbq v off 1 (zbq ns)=some v'):
  aDq C G fr hp nw (.call ⟨.builtin .copy, #[x,y], #[ts,tx]⟩)=some (.int .i64 ((n:Nat):Int),anq hp b (ty,v'),nw,.dirty):=by
 subst hn;have ha2:(zbq all).take len=zbq ns:=by rw[<-ha,zbq,zbq,List.map_take]
 cases ns with
 |nil=>simp at h0
 |cons c r=>
  have hc:zbq (c::r)=byW c::zbq r:=rfl;have hlr:(zbq r).length=r.length:=by simp[zbq]
  rw[hc] at ha2 hput;simp only[Zv] at hl;simp only[aDq,ruq,hx,hy,hj,hd,hk,h1,hs,ha2,hg,hlr,Z2,Zl hl,hput,show Nat.beq 1 1=true from rfl,Zv];rfl
noncomputable def jkq(l:List UInt8):Dig:=if h:(l.take 32).length=32 then⟨l.take 32,h⟩ else zeroD
theorem aZq{l:List UInt8}(h:32<=l.length):(jkq l).1=l.take 32:=by
 unfold jkq;rw[dif_pos Ym]
theorem lWq{l:List UInt8}(h:32<=l.length):vbq (.arr 32 1 (List.replicate 32 (.int .u8 (.ofNat 0)))) 0 1 (zbq (l.take 32))=some (dW (jkq l)):=by
 rw[v8q];have hn:(l.take 32).length=32:=by rw[Zu];omega
 have:=Ygq (F:=λl=>.arr 32 1 (zbq l)) (base:=0) (n:=32) m9q (λ_=>rfl) (l.take 32) 0 zeroD.1 zeroD.2 Xd;rw[List.take_zero,YX,ZW (by rw[zeroD.2];omega),ZU] at this;show vbq (.arr 32 1 (zbq zeroD.1)) (0+0) 1 _=some (.arr 32 1 (zbq (jkq l).1));rw[aZq h];exact this
theorem kNq{τ:Nat->Nat}{b c:Nat}{t u:TypeId}{x y:W}(h:abq x=true)(k:abq y=true):alq τ [(b,t,x),(c,u,y)]=[(τ b,t,x),(τ c,u,y)]:=by
 rw[alq,z3q k,zfq h]
def tx0:Tx:=⟨zeroD,zeroD,0,0,0,zeroD⟩
theorem nQq:tx0.ok:=⟨by decide,by decide,by decide⟩
theorem Jhq{μ:Nat->Option W}:View μ (.agg 99 [.arr 32 1 (List.replicate 32 (.int .u8 (.ofNat 0))),.arr 32 1 (List.replicate 32 (.int .u8 (.ofNat 0))),.int .u64 0,.int .u64 0,.int .u64 0,.arr 32 1 (List.replicate 32 (.int .u8 (.ofNat 0)))]) (txW tx0):=.agg (.cons z9q (.cons z9q (.cons (.pur rfl) (.cons (.pur rfl) (.cons (.pur rfl) (.cons z9q .nil))))))
noncomputable def gEq(l:List UInt8)(f:Bool)(x:Tx):W:=.agg 100 [.agg 1 [.fz (zbq l) 1 f],txW x]
@[simp] theorem yDq(l:List UInt8)(f:Bool)(x:Tx):abq (gEq l f x)=true:=by simp[gEq,abq,acq]
section
variable {G:Nat->Option W}
theorem gFq(l:List UInt8)(f:Bool)(x:Tx)(hl:32<=l.length):yxq cfg G 110 1 [.ptr 0 0] [(0,231,gEq l f x)] λw hp nw=>w=dW (jkq l)/\hp=[(1,23,dW (jkq l)),(0,231,gEq (l.drop 32) f x)]/\nw=2:=by
 have e:(zbq l).length=l.length:=zqq l;intro R;refine gIs 12 Y (λk0=>?_);exact gM 0 Y (r2q (all:=l) (ns:=l.take 32) (n:=32) (j:=zZq) (k:=ti5) Y Y Y Y Y Y Y Y Ym Xg rfl Xg (lWq hl)) (gP 11 Y (YVq (ys:=zbq (l.drop 32)) (l:=32) (h:=(zbq l).length) (g:=f) Y Y Y Y Y Y Y (by rw[e];exact hl) (Zc _) Ji Qo) (zcq 12 Y (fin Jm (zDq (nw2:=2) (fr2:=[(2,.ptr 1 0)]) (hp2:=[(1,23,dW (jkq l)),(0,231,gEq (l.drop 32) f x)]) Xg Xg ⟨rfl,trivial⟩ rfl (ztq ⟨⟨by decide,rfl,zaq (qhq _)⟩,⟨by decide,rfl,zaq (yDq _ _ _)⟩,trivial⟩) Xi) rfl ⟨rfl,rfl,rfl,rfl⟩)))
theorem gyq(l:List UInt8)(f:Bool)(x:Tx)(hl:8<=l.length)(hb:l.length<=1000000):yxq cfg G 111 1 [.ptr 0 0] [(0,231,gEq l f x)] λw hp nw=>w= .int .u64 (ajq (l.take 8):Nat)/\hp=[(0,231,gEq (l.drop 8) false x)]/\nw=1:=by
 intro R;refine gIs 11 Y (λk0=>?_);exact gC 0 Y (j4q l f 8 Xd Xd hl Xd) (zcq 25 Y (fin Jm (zDq (nw2:=1) (fr2:=[(2,.int .u64 (ajq (l.take 8):Nat))]) (hp2:=[(0,231,gEq (l.drop 8) false x)]) Xg Xg ⟨rfl,trivial⟩ rfl (ztq ⟨⟨by decide,rfl,zaq (yDq _ _ _)⟩,trivial⟩) Xi) rfl ⟨rfl,rfl,rfl,rfl⟩))
end
noncomputable def iYq(l:List UInt8):Tx:=⟨jkq l,jkq (l.drop 32),ajq ((l.drop 64).take 8),ajq ((l.drop 72).take 8),ajq ((l.drop 80).take 8),jkq (l.drop 88)⟩
theorem p7q(l:List UInt8):ajq (l.take 8)<18446744073709551616:=by
 have h1:=Yuq (l.take 8);have h2:(l.take 8).length<=8:=by rw[Zu];omega
 exact Zw h1 (Y6 Xg h2)
theorem ckq(l:List UInt8):(iYq l).ok:=⟨p7q _,p7q _,p7q _⟩
noncomputable def xRd(l:List UInt8):Nat->Tx
 |0=>⟨jkq l,jkq (l.drop 32),0,0,0,zeroD⟩
 |1=>⟨jkq l,jkq (l.drop 32),ajq ((l.drop 64).take 8),0,0,zeroD⟩
 |2=>⟨jkq l,jkq (l.drop 32),ajq ((l.drop 64).take 8),ajq ((l.drop 72).take 8),0,zeroD⟩
 |_=>⟨jkq l,jkq (l.drop 32),ajq ((l.drop 64).take 8),ajq ((l.drop 72).take 8),ajq ((l.drop 80).take 8),zeroD⟩
def fRd(f:Bool):Nat->Bool
 |0=>f
 |_=>false
noncomputable def aEq(l:List UInt8):Tx×Int:=if (iYq l).sign=xCq (iYq l) then(iYq l,0) else(tx0,110)
theorem o2q(l:List UInt8):(aEq l).1.ok:=by
 unfold aEq;split
 .exact ckq l
 .exact nQq
theorem ZBq(l:List UInt8)(f:Bool)(hl:l.length=120):PS cfg glK 45 [.fz (zbq l) 1 f] (.tup [txW (aEq l).1,.int .i64 (aEq l).2]):=by
 have e:(zbq l).length=120:=by rw[zqq,hl]
 have h32:(l.drop 32).length=88:=by rw[Zx,hl]
 have h64:(l.drop 32).drop 32=l.drop 64:=Z8;have h64l:(l.drop 64).length=56:=by rw[Zx,hl]
 refine gIv 11 Y (λR k0=>gZ 0 Y e (gF 0 Y (ltI_not.2 Xg) (gZ 7 Y e (gF 0 Y (ltI_not.2 Xg) (zcq 13 Y ?_)))))
 (refine jiq (λ_=>jXq (b:=1) (w':=gEq l f tx0) rfl (.agg (.cons (.pur Qb) (.cons Jhq .nil)))) ?_;refine yyq Y Y ?_)
 refine zhq 8 Y ?_
 (refine zsq rfl (zGq (ext:=[1]) (ws:=[.ptr 0 0]) Y Y Y Y Y (gFq l f tx0 Xd) Xg Xl Xi (yCq Yv (zaq (yDq _ _ _))) Y ?_);rintro w hp1 nw1 ⟨rfl,rfl,rfl⟩;rw[kNq (qhq _) (yDq _ _ _),zfq (qhq _)])
 refine zhq 12 Y ?_
 (refine zsq rfl (zGq (ext:=[1]) (ws:=[.ptr 0 0]) Y Y Y Y Y (gFq (l.drop 32) f ⟨jkq l,zeroD,0,0,0,zeroD⟩ Xd) Xg Xl Xi (yCq Yv (zaq (yDq _ _ _))) Y ?_);rintro w hp1 nw1 ⟨rfl,rfl,rfl⟩;rw[kNq (qhq _) (yDq _ _ _),zfq (qhq _),h64])
 (refine jiq (λ_=>zDq (nw2:=2) (fr2:=[(2,.ptr 0 0),(3,.int .i64 0),(4,.ptr 1 0),(30,.ptr 1 0),(34,dW (jkq (l.drop 32)))]) (hp2:=[(1,231,gEq (l.drop 64) f ⟨jkq l,zeroD,0,0,0,zeroD⟩),(0,72,.agg 99 [.arr 32 1 (List.replicate 32 (.int .u8 (.ofNat 0))),.arr 32 1 (List.replicate 32 (.int .u8 (.ofNat 0))),.int .u64 0,.int .u64 0,.int .u64 0,.arr 32 1 (List.replicate 32 (.int .u8 (.ofNat 0)))])]) Xg Xg ⟨rfl,rfl,rfl,rfl,rfl,trivial⟩ (jTq ⟨rfl,rfl,rfl,rfl,zaq (qhq _),trivial⟩) (ztq ⟨⟨by decide,rfl,zaq (yDq _ _ _)⟩,⟨by decide,rfl,rfl⟩,trivial⟩) Xi) ?_;refine yyq Y Y ?_)
 refine zhq 21 Y (gL 0 Y (zcq 4 Y ?_));refine xsq (α:=Nat) (λi=>i<=3) (λi=>[(52,.int .i64 (i:Int))]) [(2,_),(3,_),(4,_),(50,_),(51,_)] (λi=>[(2,232,.arr 3 1 [.ptr 1 65,.ptr 1 66,.ptr 1 67]),(1,231,gEq (l.drop (64+8*i)) (fRd f i) (xRd l i)),(0,72,.agg 99 [.arr 32 1 (List.replicate 32 (.int .u8 (.ofNat 0))),.arr 32 1 (List.replicate 32 (.int .u8 (.ofNat 0))),.int .u64 0,.int .u64 0,.int .u64 0,.arr 32 1 (List.replicate 32 (.int .u8 (.ofNat 0)))])]) (λi=>3-i) (0) ⟨rfl,rfl,rfl,rfl,rfl,trivial⟩ (Zi _) ⟨rfl,trivial⟩ (rfl) (λi hI=>?_);refine zEq 6 Y ?_;refine gS 0 Y (λh1=>?_) (λh1=>?_)
 .have hi:i=0\/i=1\/i=2:=by omega
  skip
  rcases hi with rfl|rfl|rfl
  .refine gP 6 Y (qbq (i:=0) Y Y Y Y Y Y Y Xg) (zcq 9 Y ?_)
   (refine zsq rfl (zGq (ext:=[1]) (ws:=[.ptr 0 0]) Y Y Y Y Y (gyq (l.drop 64) f (xRd l 0) Xd Xd) Xg Xl Xi (yCq Yv (zaq (yDq _ _ _))) Y ?_);rintro w hp1 nw1 ⟨rfl,rfl,rfl⟩;rw[z3q (yDq _ _ _),Z8])
   exact zhq 6 Y (gA 0 Y (1) (zcq 2 Y (Jyq (1) Xg Xg (Zi _) ⟨rfl,trivial⟩ ⟨rfl,rfl,rfl,rfl,rfl,trivial⟩ Xh Xh Xd Xj Xx)))
  .refine gP 6 Y (qbq (i:=1) Y Y Y Y Y Y Y Xg) (zcq 9 Y ?_)
   (refine zsq rfl (zGq (ext:=[1]) (ws:=[.ptr 0 0]) Y Y Y Y Y (gyq (l.drop 72) false (xRd l 1) Ys Ys) Xg Xl Xi (yCq Yv (zaq (yDq _ _ _))) Y ?_);rintro w hp1 nw1 ⟨rfl,rfl,rfl⟩;rw[z3q (yDq _ _ _),Z8])
   exact zhq 6 Y (gA 0 Y (2) (zcq 2 Y (Jyq (2) Xg Xg (Zi _) ⟨rfl,trivial⟩ ⟨rfl,rfl,rfl,rfl,rfl,trivial⟩ Xh Xh Xd Xj Xx)))
  .refine gP 6 Y (qbq (i:=2) Y Y Y Y Y Y Y Xg) (zcq 9 Y ?_)
   (refine zsq rfl (zGq (ext:=[1]) (ws:=[.ptr 0 0]) Y Y Y Y Y (gyq (l.drop 80) false (xRd l 2) Ys Ys) Xg Xl Xi (yCq Yv (zaq (yDq _ _ _))) Y ?_);rintro w hp1 nw1 ⟨rfl,rfl,rfl⟩;rw[z3q (yDq _ _ _),Z8])
   exact zhq 6 Y (gA 0 Y (3) (zcq 2 Y (Jyq (3) Xg Xg (Zi _) ⟨rfl,trivial⟩ ⟨rfl,rfl,rfl,rfl,rfl,trivial⟩ Xh Xh Xd Xj Xx)))
 .obtain rfl:i=3:=by omega
  refine zcq 2 Y (qUq Xk (z0q 8 Y ?_))
  (refine zsq rfl (zGq (ext:=[1]) (ws:=[.ptr 0 0]) Y Y Y Y Y (gFq (l.drop 88) false (xRd l 3) Ys) Xg Xl Xi (yCq Yv (zaq (yDq _ _ _))) Y ?_);rintro w hp1 nw1 ⟨rfl,rfl,rfl⟩;rw[kNq (qhq _) (yDq _ _ _),zfq (qhq _)])
  refine zhq 13 Y ?_;skip
  skip
  by_cases hs:(iYq l).sign=xCq (iYq l)
  .refine gC 0 Y (zoq (w':=.int .i64 0) (qBq (iYq l) (ckq l)) (by rw[Zt hs])) (gF 6 Y (Ze not (eqI_iff.2 (rfl))) (zcq 16 Y (yTq Jm Y ?_)));rw[show aEq l=(iYq l,0) from Zt hs];exact .tup (.cons (.pur (w:=txW (iYq l)) Xi) (.cons (.pur rfl) .nil))
  .refine gC 0 Y (zoq (w':=.int .i64 110) (qBq (iYq l) (ckq l)) (by rw[Zg hs])) (gT 6 Y (Ze not (eqI_not.2 Xg)) (zcq 13 Y (yTq Jm Y ?_)));rw[show aEq l=(tx0,110) from Zg hs];exact .tup (.cons Jhq (.cons (.pur rfl) .nil))
noncomputable def rsW(l:List UInt8)(b:Bool):W:=.agg 2 [.fz (zbq l) 1 false,.bool b]
@[simp] theorem ycq(l:List UInt8)(b:Bool):abq (rsW l b)=true:=by simp[rsW,abq,acq]
noncomputable def akq(l:List UInt8)(n:Nat):List UInt8:=if n<=l.length then l.take n else List.replicate n 0
noncomputable def aOq(l:List UInt8)(n:Nat):List UInt8:=if n<=l.length then l.drop n else []
theorem yZq(l:List UInt8)(n:Nat):(akq l n).length=n:=by
 unfold akq;split
 .rw[Zu];omega
 .exact Y7
theorem ZIq(l:List UInt8)(n:Nat):(aOq l n).length<=l.length:=by
 unfold aOq;split
 .rw[Zx];omega
 .exact Zi _
theorem Q7q(n:Nat):zbq (List.replicate n 0)=List.replicate n (.int .u8 (.ofNat 0)):=by
 unfold zbq;rw[List.map_replicate];rfl
section
variable {G:Nat->Option W}
theorem vMq(l:List UInt8)(b:Bool)(n:Nat)(hn:1<=n)(hn2:n<=1000)(hl:l.length<=1000000):yxq cfg G 117 1 [.ptr 0 0,.int .i64 (n:Int)] [(0,143,rsW l b)] λw hp nw=>(∃g,w= .fz (zbq (akq l n)) 1 g)/\hp=[(0,143,rsW (aOq l n) (b||decide (l.length<n)))]/\nw=1:=by
 have e:(zbq l).length=l.length:=zqq l;intro R;by_cases h:n<=l.length
 .rw[show akq l n=l.take n from Zt h,show aOq l n=l.drop n from Zt h,Zo Xd,Bool.or_false];refine gIs 12 Y (λk0=>?_);exact gZ 0 Y e (gF 1 Y (ltI_not.2 Xd) (gP 13 Y (ibq (ys:=zbq (l.take n)) (l:=0) (h:=n) (m:=n) (g:=true) Y Y Y Y Y Y Y Y (Zi _) (Zc _) Yp Xd (by rw[ZV,Y8,Y8q]) (YY _)) (gP 11 Y (YVq (ys:=zbq (l.drop n)) (l:=n) (h:=(zbq l).length) (g:=false) Y Y Y Y Y Y Y Yp (Zc _) Ji rfl) (zcq 12 Y (fin Jm (zDq (nw2:=1) (fr2:=[(4,.fz (zbq (l.take n)) 1 true)]) (hp2:=[(0,143,rsW (l.drop n) b)]) Xg Xg ⟨rfl,trivial⟩ (jTq ⟨zaq (by simp[abq]),trivial⟩) (ztq ⟨⟨by decide,rfl,zaq (ycq _ _)⟩,trivial⟩) Xi) rfl ⟨rfl,⟨true,rfl⟩,rfl,rfl⟩)))))
 .rw[show akq l n=List.replicate n 0 from Zg h,show aOq l n=[] from Zg h,Zn Xd,Bool.or_true];have hz:acq (List.replicate n (W.int .u8 (.ofNat 0)))=true:=by rw[<-Q7q];simp
  refine gIs 12 Y (λk0=>?_);exact gZ 0 Y e (gT 1 Y (ltI_iff.2 Xd) (gM 18 Y (JKq (l:=n) (c:=n) Y Y Y Y Y Y Y Y (Zc _) (by show 1*n<=_;omega) Xd Y Y) (zcq 5 Y (fin Jm ((J9q 1 [(4,.fz (zbq (List.replicate n 0)) 1 false)] [(0,143,rsW [] true)] rfl (show abq (.arr (n*1) 1 (List.replicate n (.int .u8 (.ofNat 0))))=true from hz) Xg ⟨⟨_,rfl,by rw[Q7q];exact .sl (full:=false) (c:=.arr (n*1) 1 (List.replicate n (.int .u8 (.ofNat 0)))) rfl hz (zvq Xg Xi rfl) Xk⟩,trivial⟩ ⟨⟨by decide,_,rfl,.agg (.cons .nilfz (.cons (.pur rfl) .nil))⟩,trivial⟩ Xi).trans (zDq (nw2:=1) (fr2:=[(4,.fz (zbq (List.replicate n 0)) 1 false)]) (hp2:=[(0,143,rsW [] true)]) Xg Xg ⟨rfl,trivial⟩ (jTq ⟨zaq (by simp[abq]),trivial⟩) (ztq ⟨⟨by decide,rfl,zaq (ycq _ _)⟩,trivial⟩) Xi)) rfl ⟨rfl,⟨false,rfl⟩,rfl,rfl⟩))))
end
structure Aq where
 (kind:Int) (tx:Tx) (key:Dig) (height:Int) (sub:Int)
noncomputable def aqW(q:Aq):W:=.agg 134 [.int .u8 q.kind,txW q.tx,dW q.key,.int .i64 q.height,.int .i64 q.sub]
@[simp] theorem zOq(q:Aq):abq (aqW q)=true:=by simp[aqW,abq,acq]
inductive Prt where
 |height|sub|key|tx
noncomputable def avq(a b:Nat):Prt->W
 |.height=>.iface 249 (.agg 3 [.ptr a 132,.int .i64 8,.int .i64 1073741824])
 |.sub=>.iface 249 (.agg 3 [.ptr a 133,.int .i64 4,.int .i64 1073741823])
 |.key=>.iface 242 (.agg 1 [.ptr a 100])
 |.tx=>.iface 239 (.agg 3 [.fn 113 [] [.ptr b 0],.fn 112 [] [.ptr b 0],.int .i64 120])
theorem ZOq(τ:Nat->Nat)(a b:Nat)(p:Prt):adq τ (avq a b p)=avq (τ a) (τ b) p:=by cases p<;>rfl
theorem l0q{a b n:Nat}(ha:a<n)(hb:b<n)(p:Prt):agq n (avq a b p)=true:=by cases p<;>simp[avq,agq,azq,ha,hb]
theorem JDq(τ:Nat->Nat)(a b:Nat):∀l:List Prt,ySq τ (l.map (avq a b))=l.map (avq (τ a) (τ b))
 |[]=>rfl
 |p::l=>by
  show adq τ (avq a b p)::ySq τ (l.map (avq a b))=_;rw[ZOq,JDq τ a b l];rfl
theorem JEq{a b n:Nat}(ha:a<n)(hb:b<n):∀l:List Prt,azq n (l.map (avq a b))=true
 |[]=>rfl
 |p::l=>by
  show(agq n (avq a b p)&&azq n (l.map (avq a b)))=true;rw[l0q ha hb p,JEq ha hb l];rfl
section
variable {G:Nat->Option W}
theorem sVq(w:W)(hw:abq w=true):PS cfg G 115 [.fel w] (.iface 249 (.agg 3 [.fel w,.int .i64 8,.int .i64 1073741824])):=by
 exact gI 14 Y (λR k0=>gQa 0 Y)
theorem sWq(q:Aq):yxq cfg G 115 1 [.ptr 0 132] [(0,78,aqW q)] λw hp nw=>w=avq 0 0 .height/\hp=[(0,78,aqW q)]/\nw=1:=by
 intro R;refine gIs 14 Y (λk0=>?_);exact fin Jm (zDq (nw2:=1) (fr2:=[(2,avq 0 0 .height)]) (hp2:=[(0,78,aqW q)]) Xg Xg ⟨rfl,trivial⟩ rfl (ztq ⟨⟨by decide,rfl,zaq (zOq _)⟩,trivial⟩) Xi) rfl ⟨rfl,rfl,rfl,rfl⟩
theorem nLq(q:Aq):yxq cfg G 116 1 [.ptr 0 133] [(0,78,aqW q)] λw hp nw=>w=avq 0 0 .sub/\hp=[(0,78,aqW q)]/\nw=1:=by
 intro R;refine gIs 14 Y (λk0=>?_);exact fin Jm (zDq (nw2:=1) (fr2:=[(2,avq 0 0 .sub)]) (hp2:=[(0,78,aqW q)]) Xg Xg ⟨rfl,trivial⟩ rfl (ztq ⟨⟨by decide,rfl,zaq (zOq _)⟩,trivial⟩) Xi) rfl ⟨rfl,rfl,rfl,rfl⟩
end
end
section
variable {C:Cfg} {G:Nat->Option W} {m k0:Nat} {fr fr2:FrW} {hp hp2:HpW} {nw nw2:Nat} {R:Res}
theorem Yfq(τ:Nat->Nat):∀(a b:HpW),alq τ (a++b)=alq τ a++alq τ b
 |[],b=>rfl
 |(k,ty,w)::a,b=>by
  show(τ k,ty,adq τ w)::alq τ (a++b)=_;rw[Yfq τ a b];rfl
theorem y3q{b:Nat}:∀{P:HpW},(∀p∈P,p.1≠b) ->hget P b=none
 |[],_=>rfl
 |(c,y)::P,h=>by
  rw[zeq,Zg λe=>h (c,y) (ZS ..) e];exact y3q λp hp=>h p (ZP _ hp)
theorem jUq{b:Nat}{Q:HpW}:∀{P:HpW},hget (P++Q) b=(hget P b).orElse λ_=>hget Q b
 |[]=>by simp[hget]
 |(c,y)::P=>by
  rw[YW,zeq,zeq];split
  .rfl
  .exact jUq
end
section
attribute [local irreducible] CoW OpW FlW aeq aiq
variable {G:Nat->Option W}
theorem cmq(t:Tree)(hl:t.nodes.length<=1000000000)(hv:∀x∈t.nodes,x.val.length<=70368744177664):PS cfg G 127 [tW t] (tW t):=λR=>
 u2q (kOq (s6q t.nodes t.root hl hv) (Q:=λw hp _=>View (apq hp) w (tW t)) (λw hp nw h=>by
  rcases h with ⟨hn,rfl,rfl,rfl⟩|⟨rfl,rfl,rfl⟩
  .refine .agg (.cons ?_ (.cons (.pur rfl) .nil));rw[hn];exact .nilfz
  .exact oYq (b:=2) (ns:=t.nodes) (root:=t.root) rfl) R)
structure Depo where
 number:Nat
 to:Dig
 amount:Nat
noncomputable def pdW(d:Depo):W:=.agg 34 [.int .u64 (d.number:Int),dW d.to,.int .u64 (d.amount:Int)]
@[simp] theorem cKq(d:Depo):abq (pdW d)=true:=by simp[pdW]
def ATq(t0:T)(d:Depo):Prop:=18446744073709551616<=(usq t0 d.to).balance+d.amount
instance(t0:T)(d:Depo):Decidable (ATq t0 d):=inferInstanceAs (Decidable (_<=_))
end
section
attribute [local irreducible] CoW OpW FlW aeq aiq
def acL(l:List Pr)(k:Dig):Acct:=match c3q l k with
 |some v=>(kBq v).1
 |none=>.zero
noncomputable def rcq(l:List Pr)(k:Dig)(c:Nat):Option (List Pr):=if (acL l k).balance+c<18446744073709551616 then some (ADq l k ⟨(acL l k).nonce,(acL l k).balance+c⟩) else none
noncomputable def mhq(l:List Pr)(x:Tx):List Pr:=ADq l (atq x.pub) ⟨(acL l (atq x.pub)).nonce+1,(acL l (atq x.pub)).balance⟩
noncomputable def A6q(l:List Pr)(x:Tx):List Pr:=ADq (mhq l x) (atq x.pub) ⟨(acL l (atq x.pub)).nonce+1,(acL l (atq x.pub)).balance-(x.amount+x.fee)⟩
noncomputable def tKq(l:List Pr)(x:Tx)(box:Dig):List Pr×Nat:=if x.amount+x.fee<=(acL l (atq x.pub)).balance then(match rcq (A6q l x) x.to x.amount with
  |none=>(mhq l x,151)
  |some p=>match rcq p box x.fee with
   |none=>(mhq l x,151)
   |some q=>(q,0)) else(mhq l x,150)
end
noncomputable def gvL(l:List Pr)(d:Depo):List Pr×Nat:=match rcq l d.to d.amount with
 |some q=>(q,0)
 |none=>(l,151)
structure Rec where
 kind:UInt8
 id:Dig
 code:Nat
noncomputable def depD(d:Depo):Dig:=crq 9 [beB 8 d.number++d.to.1++beB 8 d.amount]
noncomputable def idD(x:Tx):Dig:=crq 5 [xuq x++x.sign.1]
noncomputable def doD:List Pr->List Depo->List Pr×List Rec
 |l,[]=>(l,[])
 |l,d::ds=>((doD (gvL l d).1 ds).1,⟨1,depD d,(gvL l d).2⟩::(doD (gvL l d).1 ds).2)
def goX(l:List Pr)(x:Tx):Prop:=x.sign=xCq x/\x.nonce=(acL l (atq x.pub)).nonce/\x.nonce<18446744073709551615
noncomputable instance(l:List Pr)(x:Tx):Decidable (goX l x):=Classical.propDecidable _
noncomputable def doX(box:Dig):List Pr->List Tx->Option (List Pr×List Rec)
 |l,[]=>some (l,[])
 |l,x::xs=>if goX l x then(match doX box (tKq l x box).1 xs with
   |some r=>some (r.1,⟨2,idD x,(tKq l x box).2⟩::r.2)
   |none=>none) else none
end
section
open Go.Shelf Go.RowKit Go.Lib
def rkq:Go.Shelf.Ren:=⟨fun|14=>198|15=>232|n=>n,fun|26=>276|22=>52|3=>3|4=>4|0=>0|9=>9|20=>20|5=>5|n=>n,fun|n=>n⟩
theorem mBq:Go.Proofs.SlLaysJ.n14 Tryz.prog rkq:={
 mixed:=by kernel_rfl
 f14:=Tryz.func198.trans (Ze some Xp)
 f15:=Tryz.func232.trans (Ze some Xp)
 t0:=Tryz.underlying0
 a0:=Tryz.isAgg0
 z0:=Tryz.sizeOf0
 v0:=Tryz.zeroValue0
 t3:=Tryz.underlying3
 a3:=Tryz.isAgg3
 z3:=Tryz.sizeOf3
 v3:=Tryz.zeroValue3
 t4:=Tryz.underlying4
 a4:=Tryz.isAgg4
 z4:=Tryz.sizeOf4
 v4:=Tryz.zeroValue4
 t9:=Tryz.underlying9
 a9:=Tryz.isAgg9
 z9:=Tryz.sizeOf9
 v9:=Tryz.zeroValue9
 t20:=Tryz.underlying20
 a20:=Tryz.isAgg20
 z20:=Tryz.sizeOf20
 v20:=Tryz.zeroValue20
 t22:=Tryz.underlying52
 a22:=Tryz.isAgg52
 z22:=Tryz.sizeOf52
 v22:=Tryz.zeroValue52
 t26:=Tryz.underlying276
 a26:=Tryz.isAgg276
 z26:=Tryz.sizeOf276
 v26:=Tryz.zeroValue276
 t5:=Tryz.underlying5
 z5:=Tryz.sizeOf5
 i5:=by kernel_rfl}
theorem mAq(b o n c:Nat)(vs:List Value)(ls:List (List UInt8))(sv:Value)(sep:List UInt8)(w:World)(hn:ls.length=n)(h2:2<=n)(hP:Lib.PartsAt w ⟨b,o,none⟩ vs ls)(hcap:n<=c)(hS:Lib.HoldsBytes w sv sep)(hn47:n<=140737488355328)(hlen:Lib.lens ls+sep.length*(n-1)<=140737488355328):
  Calls Tryz.prog 198 #[.slice (some ⟨b,o,none⟩) n c,sv] w λe w'=>∃v',e= .returned v'/\Lib.FreshBytes w.heap.size w' v' (Lib.join ls sep)/\Below w.heap.size w w':=Any.bytes_Join_many mBq b o n c vs ls sv sep w hn h2 hP hcap hS hn47 hlen
end
section
open Go.RowKit Go.Lib
set_option maxHeartbeats 4000000 in
theorem bCq(b off n c i vb voff m vc:Nat)(cs vs:List Value)(w:World)(hi:i<n)(hm:0<m)(hroom:n+m<=c)(hc63:n+m<=70368744177664)(hvb:vb≠b)
  (hcl:cs.length=n*99) (hvl:vs.length=m*99)
  (hcs:∀j v,cs[j]? =some v->w.cell? ⟨b,off+j,none⟩=some v) (hsp:∀j,j<(n+m)*99->(w.cell? ⟨b,off+j,none⟩).isSome=true) (hfz:∀j,j<(n+m)*99->w.frozen? ⟨b,off+j,none⟩=false)
  (hvs:∀j v,vs[j]? =some v->w.cell? ⟨vb,voff+j,none⟩=some v) (h1c:∀v∈cs,v.oneCell'=true) (h1v:∀v∈vs,v.oneCell'=true)
  (tA tB:TypeId) (kA kB:Nat) (hsa:w.shape? vb=some (tA,kA)) (hsb:w.shape? b=some (tB,kB)) (hkB:kB≠0) (hfa:w.frozen? ⟨vb,voff,none⟩=false) (hfe:w.frozen? ⟨vb,kA,none⟩=false):
  Calls Tryz.prog 237 #[.slice (some ⟨b,off,none⟩) n c,.int .i64 i,.slice (some ⟨vb,voff,none⟩) m vc] w λe w'=>
   e= .returned (.slice (some ⟨b,off,none⟩) (n+m) c)/\w'=(w.drew.setCells b (off+(i+m)*99) (cs.drop (i*99))).setCells b (off+i*99) vs:=by
 have uS:Tryz.prog.underlying 35=some (.slice 72):=by kernel_rfl
 have uB:Tryz.prog.underlying 4=some .bool:=by kernel_rfl
 have sZ:(Tryz.prog.info? 72).map (·.size)=some 99:=by kernel_rfl
 have hz1:¬((m:Int)=0):=by omega
 have hz2:¬((i:Int)=(n:Int)):=by omega
 have hzz:∀w,(Go.sizeOf 72).run Tryz.prog w= .ok 99 w:=λw=>by
  cases hq:Tryz.prog.info? 72 with
  |none=>simp[hq] at sZ
  |some i=>simp[hq] at sZ;simp[sizeOf,typeInfo,hq,sZ]
 have hov:∀lb cb,(callFunc 257 #[.slice (some ⟨vb,voff,none⟩) m vc,.slice (some ⟨b,off+(i+m)*99,none⟩) lb cb]).run Tryz.prog w= .ok (.value (.bool false)) w:=λlb cb=>by
  rw[run_callFunc_extern Tryz.func257 Xp Xp Xp (e:=Extern.SlicesOverlaps.overlaps #[35,35] #[4]) Xp,
   Lib.run_overlaps_apart w 35 4 72 uS 99 hzz ⟨vb,voff,none⟩ ⟨b,off+(i+m)*99,none⟩ m vc lb cb hvb tA tB kA kB hsa hsb hkB hfa hfe]
  rfl
 have hdl:(cs.drop (i*99)).length=(n-i)*99:=by rw[Zx,hcl];omega
 have mixed:=mixed;have hw1:IntKind.i64.wrap ((i:Int)+(m:Int))=(i:Int)+(m:Int):=by rw[IntKind.wrap_i64];omega
 have hw2:IntKind.i64.wrap ((n:Int)+(m:Int))=(n:Int)+(m:Int):=by rw[IntKind.wrap_i64];omega
 have hb1:(0:Int)<=(i:Int)+(m:Int):=by omega
 have hin:i<=n:=by omega
 have htn:((i:Int)+(m:Int)).toNat=i+m:=by omega
 have hb2:¬(c=i+m):=by omega
 have hb3:(i:Int)<=(n:Int)+(m:Int):=by omega
 have hb4:¬(c=i):=by omega
 have hcp1:∀ty dc sc,(Builtin.copy_ #[35,35] ty #[.slice (some ⟨b,off+(i+m)*99,none⟩) (n+m-(i+m)) dc,.slice (some ⟨b,off+i*99,none⟩) (n+m-i) sc]).run Tryz.prog w.drew= .ok (goInt (Nat.min (n+m-i) (n+m-(i+m)))) (w.drew.setCells b (off+(i+m)*99) (cs.drop (i*99))):=λty dc sc=>
  q2q w.drew _ _ ty 72 b (off+(i+m)*99) (n+m-(i+m)) dc ⟨b,off+i*99,none⟩ (n+m-i) sc 99 (cs.drop (i*99)) uS sZ Qu
   (λj v hj=>by rw[Addr.add_lit,ZK];exact hcs (i*99+j) v (by rwa[ZX] at hj))
   (λj hj=>by rw[ZK];exact hsp _ Xd) (λj hj=>by rw[ZK];exact hfz _ Xd) (λv hv=>h1c v (ZD hv))
 obtain⟨W1,hW1⟩:∃W1,W1=w.drew.setCells b (off+(i+m)*99) (cs.drop (i*99)):=⟨_,rfl⟩
 have hsp1:∀k,k<(n+m)*99->(W1.cell? ⟨b,off+k,none⟩).isSome=true:=λk hk=>by
  rw[hW1];exact yWq b _ _ _ (λj hj=>by rw[ZK];exact hsp _ Xd) _ (hsp k hk)
 have hcp2:∀(W:World),(∀x,W.cell? x=W1.cell? x) ->(∀x,W.frozen? x=W1.frozen? x) ->∀ty dc,(Builtin.copy_ #[35,35] ty #[.slice (some ⟨b,off+i*99,none⟩) (n+m-i) dc,.slice (some ⟨vb,voff,none⟩) m vc]).run Tryz.prog W= .ok (goInt (Nat.min m (n+m-i))) (W.setCells b (off+i*99) vs):=λW hWc hWf ty dc=>
  q2q W _ _ ty 72 b (off+i*99) (n+m-i) dc ⟨vb,voff,none⟩ m vc 99 vs uS sZ Ye
   (λj v hj=>by
    rw[Addr.add_lit,hWc,hW1,World.cell?_setCells_out b _ _ _ _ (λh _=>absurd h hvb)];exact hvs j v hj)
   (λj hj=>by rw[hWc,ZK];exact hsp1 _ Xd) (λj hj=>by rw[hWf,hW1,World.frozen?_setCells,ZK];exact hfz _ Xd) h1v
 rw[<-hW1] at hcp1;have hnt:Tryz.f237.ntmps=95:=by kernel_rfl
 go_enter Tryz.func237,hnt
 go_wp2_with (simp only[hov])
 go_region_law_o (refine jwq rfl _ _ 35 35 rfl _ _ Yg Yg (hcp1 _ _ _) ?_)
 go_wp2_with (at_builtin;refine yVq _ rfl _ _ 35 35 rfl _ _ Y Y (hcp2 _ (λ_=>rfl) (λ_=>rfl) _ _) ?_)
 go_ret
 first|exact⟨rfl,rfl⟩|exact⟨rfl,by rw[hW1]⟩
set_option maxHeartbeats 4000000 in
theorem fiq(a:Addr)(n c:Nat)(vb:Addr)(m vc:Nat)(w:World)(hm:0<m)(val:Value)(w1:World)
  (hr:∀ty,(Builtin.append_ #[35,35] ty #[.slice (some a) n c,.slice (some vb) m vc]).run Tryz.prog w= .ok val w1):
  Calls Tryz.prog 237 #[.slice (some a) n c,.int .i64 n,.slice (some vb) m vc] w λe w'=>e= .returned val/\w'=w1:=by
 have mixed:=mixed;have hz1:¬((m:Int)=0):=by omega
 have hnt:Tryz.f237.ntmps=95:=by kernel_rfl
 go_enter Tryz.func237,hnt
 go_wp2_with (at_builtin;refine Lib.wpList_append_run _ rfl _ _ _ _ rfl _ _ Y Y _ _ (hr _) ?_)
 all_goals (go_ret;exact⟨rfl,rfl⟩)
set_option maxHeartbeats 4000000 in
theorem fhq(vb:Addr)(m vc:Nat)(w:World)(hm:0<m)(val:Value)(w1:World)
  (hr:∀ty,(Builtin.append_ #[35,35] ty #[.slice none 0 0,.slice (some vb) m vc]).run Tryz.prog w= .ok val w1):
  Calls Tryz.prog 237 #[.slice none 0 0,.int .i64 0,.slice (some vb) m vc] w λe w'=>e= .returned val/\w'=w1:=by
 have mixed:=mixed;have hz1:¬((m:Int)=0):=by omega
 have hnt:Tryz.f237.ntmps=95:=by kernel_rfl
 go_enter Tryz.func237,hnt
 go_wp2_with (at_builtin;refine Lib.wpList_append_run _ rfl _ _ _ _ rfl _ _ Y Y _ _ (hr _) ?_)
 all_goals (go_ret;exact⟨rfl,rfl⟩)
set_option maxHeartbeats 4000000 in
theorem cSq(b off n c i vb voff m vc:Nat)(cs vs:List Value)(w:World)(hi:i<n)(hm:0<m)(hnc:n<=c)(hroom:c<n+m)(hbig:(n+m)*120<=140737488355328)(h63:n+m<=70368744177664)
  (hcl:cs.length=n*99) (hvl:vs.length=m*99)
  (hcs:∀j v,cs[j]? =some v->w.cell? ⟨b,off+j,none⟩=some v)
  (hvs:∀j v,vs[j]? =some v->w.cell? ⟨vb,voff+j,none⟩=some v) (h1c:∀v∈cs,v.oneCell'=true) (h1v:∀v∈vs,v.oneCell'=true):
  Calls Tryz.prog 237 #[.slice (some ⟨b,off,none⟩) n c,.int .i64 i,.slice (some ⟨vb,voff,none⟩) m vc] w λe w'=>
   ∃G ROW,n+m<=G/\G<=9223372036854775807/\ROW.size=G*99/\(∀j,j<i*99->ROW[j]? =cs[j]?)/\e= .returned (.slice (some ⟨w.heap.size,0,none⟩) (n+m) G)/\
   w'=(((w.alloc (.cells ROW 72)).drew.setCells w.heap.size (i*99) vs).drew).setCells w.heap.size ((i+m)*99) (cs.drop (i*99)):=by
 have uS:Tryz.prog.underlying 35=some (.slice 72):=by kernel_rfl
 have uI:Tryz.prog.underlying 3=some (.int .i64):=by kernel_rfl
 have sZ:(Tryz.prog.info? 72).map (·.size)=some 99:=by kernel_rfl
 have bZ:(Tryz.prog.info? 72).map (·.bytes)=some 120:=by kernel_rfl
 have zZ:((Tryz.prog.info? 72).bind (·.zero)).map (·.cells.size)=some 99:=by kernel_rfl
 have mixed:=mixed
 obtain⟨i0,hi0⟩:∃i0,Tryz.prog.info? 72=some i0:=by
  cases hq:Tryz.prog.info? 72 with
  |none=>simp[hq] at sZ
  |some i=>exact⟨i,rfl⟩
 have hzs:i0.size=99:=by simpa[hi0] using sZ
 have hzb:i0.bytes=120:=by simpa[hi0] using bZ
 obtain⟨z,hz0,hzc⟩:∃z,i0.zero=some z/\z.cells.size=99:=by
  rw[hi0,Option.bind_some] at zZ;cases hq:i0.zero with
  |none=>simp[hq] at zZ
  |some z=>exact⟨z,rfl,by simpa[hq] using zZ⟩
 have hz1:¬((m:Int)=0):=by omega
 have hz2:¬((i:Int)=(n:Int)):=by omega
 have hz3:(c:Int)<(n:Int)+(m:Int):=by omega
 have hbw:b<w.heap.size:=block_lt_of_cell (hcs 0 _ (Za Xd));have hvw:vb<w.heap.size:=block_lt_of_cell (hvs 0 _ (Za Xd));have hkk:(n:Int)+(m:Int) -(i:Int)=((n+m-i:Nat):Int):=by omega
 have hik:i+(n+m-i)=n+m:=by omega
 have hold:(Builtin.firstCells i0.size i (.slice (some ⟨b,off,none⟩) i c)).run Tryz.prog w.drew= .ok (cs.take (i*99)).toArray w.drew:=by
  rw[hzs]
  exact run_firstCells_some w.drew 99 i ⟨b,off,none⟩ i c (cs.take (i*99)) Ym (λj v hj=>by
   rw[Addr.add_lit];rw[YI] at hj;split at hj
   .exact hcs j v hj
   .cases hj)
 have hrz:∀ty,(Builtin.append_ #[35,3] ty #[.slice (some ⟨b,off,none⟩) i c,.int .i64 ((n:Int)+(m:Int) -(i:Int))]).run Tryz.prog w=
   .ok (.slice (some ⟨w.heap.size,0,none⟩) (n+m) (grownCap w (n+m) c 72)) (w.drew.alloc (.cells ((cs.take (i*99)).toArray++Builtin.zeroCells z.cells (n+m-i)++Builtin.zeroCells z.cells (grownCap w (n+m) c 72-(n+m))) 72)):=λty=>by
  have h:=Lib.run_append_grow_zeros w 35 3 ty 72 i0 _ .i64 .i64 uS uI hi0 hz0 (some ⟨b,off,none⟩) i c (cs.take (i*99)) hold (n+m-i) Xd Xd Xd Xd (by rw[hzb];omega) (by rw[hzb,hik];exact growslice_fits hroom hbig);rw[hik] at h;rw[hkk];exact h
 obtain⟨G,hG⟩:∃G,G=grownCap w (n+m) c 72:=⟨_,rfl⟩
 obtain⟨ROW,hROW⟩:∃ROW:Array Value,ROW=(cs.take (i*99)).toArray++Builtin.zeroCells z.cells (n+m-i)++Builtin.zeroCells z.cells (G-(n+m)):=⟨_,rfl⟩
 rw[<-hG] at hrz;rw[<-hROW] at hrz;have hGn:n+m<=G:=by rw[hG];exact grownCap_ge w _ _ _
 have hRs:ROW.size=G*99:=by
  rw[hROW];simp only[Builtin.zeroCells,Array.size_append,Array.size_map,Array.size_range,hzc,ZR,Zu,hcl];omega
 have hRl:(n+m)*99<=ROW.size:=by rw[hRs];omega
 have hRt:∀j,j<i*99->ROW[j]? =cs[j]? :=λj hj=>by
  rw[hROW,Array.append_assoc,Array.getElem?_append_left (by simp only[ZR,Zu,hcl];omega)];simp only[List.getElem?_toArray,YI];rw[Zt hj]
 obtain⟨W1,hW1⟩:∃W1,W1=w.drew.alloc (.cells ROW 72):=⟨_,rfl⟩
 rw[<-hW1] at hrz
 have hN:∀j,j<(n+m)*99->(W1.cell? ⟨w.heap.size,j,none⟩).isSome=true:=λj hj=>by
  rw[hW1,World.cell?_alloc_at (w:=w.drew) ROW _ w.heap.size j rfl,ZG Xd];rfl
 have hNf:∀j,W1.frozen? ⟨w.heap.size,j,none⟩=false:=λj=>by rw[hW1];exact World.frozen?_alloc_at (w:=w.drew) ROW _ w.heap.size j rfl
 have hOb:∀j v,w.cell? ⟨b,j,none⟩=some v->W1.cell? ⟨b,j,none⟩=some v:=λj v h=>by rw[hW1,World.cell?_alloc_past (w:=w.drew) _ b j hbw];exact h
 have hOv:∀j v,w.cell? ⟨vb,j,none⟩=some v->W1.cell? ⟨vb,j,none⟩=some v:=λj v h=>by rw[hW1,World.cell?_alloc_past (w:=w.drew) _ vb j hvw];exact h
 have hcpA:∀(W:World),(∀x,W.cell? x=W1.cell? x) ->(∀x,W.frozen? x=W1.frozen? x) ->∀ty dc,(Builtin.copy_ #[35,35] ty #[.slice (some ⟨w.heap.size,i*99,none⟩) (n+m-i) dc,.slice (some ⟨vb,voff,none⟩) m vc]).run Tryz.prog W= .ok (goInt (Nat.min m (n+m-i))) (W.setCells w.heap.size (i*99) vs):=λW hWc hWf ty dc=>
  q2q W _ _ ty 72 w.heap.size (i*99) (n+m-i) dc ⟨vb,voff,none⟩ m vc 99 vs uS sZ Ye
   (λj v hj=>by rw[Addr.add_lit,hWc];exact hOv _ v (hvs j v hj))
   (λj hj=>by rw[hWc];exact hN _ Xd) (λj hj=>by rw[hWf];exact hNf _) h1v
 have hG63:G<=9223372036854775807:=by
  have:=grownCap_le_maxLen w (n+m) c 72 (by unfold maxLen;omega);rw[<-hG] at this;unfold maxLen at this;omega
 have hGi:¬(G=i):=by omega
 have hGim:¬(G=i+m):=by omega
 have hci:¬(c=i):=by omega
 have hbN:b≠w.heap.size:=by omega
 have hdl:(cs.drop (i*99)).length=(n-i)*99:=by rw[Zx,hcl];omega
 have hcpB:∀(W:World),(∀x,W.cell? x=(W1.setCells w.heap.size (i*99) vs).cell? x) ->(∀x,W.frozen? x=(W1.setCells w.heap.size (i*99) vs).frozen? x) ->∀ty dc sc,(Builtin.copy_ #[35,35] ty #[.slice (some ⟨w.heap.size,(i+m)*99,none⟩) (n+m-(i+m)) dc,.slice (some ⟨b,off+i*99,none⟩) (n-i) sc]).run Tryz.prog W= .ok (goInt (Nat.min (n-i) (n+m-(i+m)))) (W.setCells w.heap.size ((i+m)*99) (cs.drop (i*99))):=λW hWc hWf ty dc sc=>
  q2q W _ _ ty 72 w.heap.size ((i+m)*99) (n+m-(i+m)) dc ⟨b,off+i*99,none⟩ (n-i) sc 99 (cs.drop (i*99)) uS sZ Qx
   (λj v hj=>by
    rw[Addr.add_lit,hWc,World.cell?_setCells_out _ _ _ _ _ (λh _=>absurd h hbN),ZK];exact hOb _ v (hcs (i*99+j) v (by rwa[ZX] at hj)))
   (λj hj=>by rw[hWc];exact yWq _ _ _ _ (λt ht=>hN _ Xd) _ (hN _ Xd))
   (λj hj=>by rw[hWf,World.frozen?_setCells];exact hNf _) (λv hv=>h1c v (ZD hv))
 subst hW1;have hE1:∀x,((w.alloc (.cells ROW 72)).drew).cell? x=(w.drew.alloc (.cells ROW 72)).cell? x:=λx=>rfl
 have hE2:∀x,((w.alloc (.cells ROW 72)).drew).frozen? x=(w.drew.alloc (.cells ROW 72)).frozen? x:=λx=>rfl
 have hF1:∀x,(((w.alloc (.cells ROW 72)).drew.setCells w.heap.size (i*99) vs).drew).cell? x=((w.drew.alloc (.cells ROW 72)).setCells w.heap.size (i*99) vs).cell? x:=λx=>rfl
 have hF2:∀x,(((w.alloc (.cells ROW 72)).drew.setCells w.heap.size (i*99) vs).drew).frozen? x=((w.drew.alloc (.cells ROW 72)).setCells w.heap.size (i*99) vs).frozen? x:=λx=>rfl
 have hw1:IntKind.i64.wrap ((i:Int)+(m:Int))=(i:Int)+(m:Int):=by rw[IntKind.wrap_i64];omega
 have hw2:IntKind.i64.wrap ((n:Int)+(m:Int))=(n:Int)+(m:Int):=by rw[IntKind.wrap_i64];omega
 have hb1:(0:Int)<=(i:Int)+(m:Int):=by omega
 have hin:i<=n:=by omega
 have htn:((i:Int)+(m:Int)).toNat=i+m:=by omega
 have hb3:(i:Int)<=(n:Int):=by omega
 have hnt:Tryz.f237.ntmps=95:=by kernel_rfl
 clear hkk hik hold hROW hRl hG sZ bZ zZ hi0 hzs hzb hz0 hzc;go_enter Tryz.func237,hnt
 go_wp2_with (first
  |(at_builtin;refine Lib.wpList_append_run _ rfl _ _ _ _ rfl _ _ Y Y _ _ (hrz _) ?_)
  |(at_builtin;refine yVq _ rfl _ _ 35 35 rfl _ _ Y Y (hcpA _ hE1 hE2 _ _) ?_)
  |(at_builtin;refine yVq _ rfl _ _ 35 35 rfl _ _ Y Y (hcpB _ (λ_=>rfl) (λ_=>rfl) _ _ _) ?_))
 go_region_law_o (refine jwq rfl _ _ 35 35 rfl (.slice (some ⟨w.heap.size,(i+m)*99,none⟩) (n+m-(i+m)) (G-(i+m))) (.slice (some ⟨b,off+i*99,none⟩) (n-i) (c-i)) Yg Yg (hcpB _ hF1 hF2 3 (G-(i+m)) (c-i)) ?_)
 go_wp2
 go_ret
 exact⟨G,ROW,hGn,hG63,hRs,hRt,rfl,rfl⟩
theorem rnq:InsFn Tryz.prog 237 35 72 99 120:=⟨Go.Proofs.enters_of Tryz.func237 Xp rfl,bCq,fiq,fhq,cSq⟩
theorem mEq{C:Cfg}:qyq Tryz.prog C 237 (aFq sbq 35 72 99 120):=byq oDq rnq (j:=Aaq) (k:=s7q) Xp rfl Xp Y Y
set_option maxHeartbeats 4000000 in
theorem bBq(b off n c i vb voff m vc:Nat)(cs vs:List Value)(w:World)(hi:i<n)(hm:0<m)(hroom:n+m<=c)(hc63:n+m<=70368744177664)(hvb:vb≠b)
  (hcl:cs.length=n*33) (hvl:vs.length=m*33)
  (hcs:∀j v,cs[j]? =some v->w.cell? ⟨b,off+j,none⟩=some v) (hsp:∀j,j<(n+m)*33->(w.cell? ⟨b,off+j,none⟩).isSome=true) (hfz:∀j,j<(n+m)*33->w.frozen? ⟨b,off+j,none⟩=false)
  (hvs:∀j v,vs[j]? =some v->w.cell? ⟨vb,voff+j,none⟩=some v) (h1c:∀v∈cs,v.oneCell'=true) (h1v:∀v∈vs,v.oneCell'=true)
  (tA tB:TypeId) (kA kB:Nat) (hsa:w.shape? vb=some (tA,kA)) (hsb:w.shape? b=some (tB,kB)) (hkB:kB≠0) (hfa:w.frozen? ⟨vb,voff,none⟩=false) (hfe:w.frozen? ⟨vb,kA,none⟩=false):
  Calls Tryz.prog 241 #[.slice (some ⟨b,off,none⟩) n c,.int .i64 i,.slice (some ⟨vb,voff,none⟩) m vc] w λe w'=>
   e= .returned (.slice (some ⟨b,off,none⟩) (n+m) c)/\w'=(w.drew.setCells b (off+(i+m)*33) (cs.drop (i*33))).setCells b (off+i*33) vs:=by
 have uS:Tryz.prog.underlying 129=some (.slice 133):=by kernel_rfl
 have uB:Tryz.prog.underlying 4=some .bool:=by kernel_rfl
 have sZ:(Tryz.prog.info? 133).map (·.size)=some 33:=by kernel_rfl
 have hz1:¬((m:Int)=0):=by omega
 have hz2:¬((i:Int)=(n:Int)):=by omega
 have hzz:∀w,(Go.sizeOf 133).run Tryz.prog w= .ok 33 w:=λw=>by
  cases hq:Tryz.prog.info? 133 with
  |none=>simp[hq] at sZ
  |some i=>simp[hq] at sZ;simp[sizeOf,typeInfo,hq,sZ]
 have hov:∀lb cb,(callFunc 260 #[.slice (some ⟨vb,voff,none⟩) m vc,.slice (some ⟨b,off+(i+m)*33,none⟩) lb cb]).run Tryz.prog w= .ok (.value (.bool false)) w:=λlb cb=>by
  rw[run_callFunc_extern Tryz.func260 Xp Xp Xp (e:=Extern.SlicesOverlaps.overlaps #[129,129] #[4]) Xp,
   Lib.run_overlaps_apart w 129 4 133 uS 33 hzz ⟨vb,voff,none⟩ ⟨b,off+(i+m)*33,none⟩ m vc lb cb hvb tA tB kA kB hsa hsb hkB hfa hfe]
  rfl
 have hdl:(cs.drop (i*33)).length=(n-i)*33:=by rw[Zx,hcl];omega
 have mixed:=mixed;have hw1:IntKind.i64.wrap ((i:Int)+(m:Int))=(i:Int)+(m:Int):=by rw[IntKind.wrap_i64];omega
 have hw2:IntKind.i64.wrap ((n:Int)+(m:Int))=(n:Int)+(m:Int):=by rw[IntKind.wrap_i64];omega
 have hb1:(0:Int)<=(i:Int)+(m:Int):=by omega
 have hin:i<=n:=by omega
 have htn:((i:Int)+(m:Int)).toNat=i+m:=by omega
 have hb2:¬(c=i+m):=by omega
 have hb3:(i:Int)<=(n:Int)+(m:Int):=by omega
 have hb4:¬(c=i):=by omega
 have hcp1:∀ty dc sc,(Builtin.copy_ #[129,129] ty #[.slice (some ⟨b,off+(i+m)*33,none⟩) (n+m-(i+m)) dc,.slice (some ⟨b,off+i*33,none⟩) (n+m-i) sc]).run Tryz.prog w.drew= .ok (goInt (Nat.min (n+m-i) (n+m-(i+m)))) (w.drew.setCells b (off+(i+m)*33) (cs.drop (i*33))):=λty dc sc=>
  q2q w.drew _ _ ty 133 b (off+(i+m)*33) (n+m-(i+m)) dc ⟨b,off+i*33,none⟩ (n+m-i) sc 33 (cs.drop (i*33)) uS sZ Qu
   (λj v hj=>by rw[Addr.add_lit,ZK];exact hcs (i*33+j) v (by rwa[ZX] at hj))
   (λj hj=>by rw[ZK];exact hsp _ Xd) (λj hj=>by rw[ZK];exact hfz _ Xd) (λv hv=>h1c v (ZD hv))
 obtain⟨W1,hW1⟩:∃W1,W1=w.drew.setCells b (off+(i+m)*33) (cs.drop (i*33)):=⟨_,rfl⟩
 have hsp1:∀k,k<(n+m)*33->(W1.cell? ⟨b,off+k,none⟩).isSome=true:=λk hk=>by
  rw[hW1];exact yWq b _ _ _ (λj hj=>by rw[ZK];exact hsp _ Xd) _ (hsp k hk)
 have hcp2:∀(W:World),(∀x,W.cell? x=W1.cell? x) ->(∀x,W.frozen? x=W1.frozen? x) ->∀ty dc,(Builtin.copy_ #[129,129] ty #[.slice (some ⟨b,off+i*33,none⟩) (n+m-i) dc,.slice (some ⟨vb,voff,none⟩) m vc]).run Tryz.prog W= .ok (goInt (Nat.min m (n+m-i))) (W.setCells b (off+i*33) vs):=λW hWc hWf ty dc=>
  q2q W _ _ ty 133 b (off+i*33) (n+m-i) dc ⟨vb,voff,none⟩ m vc 33 vs uS sZ Ye
   (λj v hj=>by
    rw[Addr.add_lit,hWc,hW1,World.cell?_setCells_out b _ _ _ _ (λh _=>absurd h hvb)];exact hvs j v hj)
   (λj hj=>by rw[hWc,ZK];exact hsp1 _ Xd) (λj hj=>by rw[hWf,hW1,World.frozen?_setCells,ZK];exact hfz _ Xd) h1v
 rw[<-hW1] at hcp1;have hnt:Tryz.f241.ntmps=95:=by kernel_rfl
 go_enter Tryz.func241,hnt
 go_wp2_with (simp only[hov])
 go_region_law_o (refine jwq rfl _ _ 129 129 rfl _ _ Yg Yg (hcp1 _ _ _) ?_)
 go_wp2_with (at_builtin;refine yVq _ rfl _ _ 129 129 rfl _ _ Y Y (hcp2 _ (λ_=>rfl) (λ_=>rfl) _ _) ?_)
 go_ret
 first|exact⟨rfl,rfl⟩|exact⟨rfl,by rw[hW1]⟩
set_option maxHeartbeats 4000000 in
theorem fgq(a:Addr)(n c:Nat)(vb:Addr)(m vc:Nat)(w:World)(hm:0<m)(val:Value)(w1:World)
  (hr:∀ty,(Builtin.append_ #[129,129] ty #[.slice (some a) n c,.slice (some vb) m vc]).run Tryz.prog w= .ok val w1):
  Calls Tryz.prog 241 #[.slice (some a) n c,.int .i64 n,.slice (some vb) m vc] w λe w'=>e= .returned val/\w'=w1:=by
 have mixed:=mixed;have hz1:¬((m:Int)=0):=by omega
 have hnt:Tryz.f241.ntmps=95:=by kernel_rfl
 go_enter Tryz.func241,hnt
 go_wp2_with (at_builtin;refine Lib.wpList_append_run _ rfl _ _ _ _ rfl _ _ Y Y _ _ (hr _) ?_)
 all_goals (go_ret;exact⟨rfl,rfl⟩)
set_option maxHeartbeats 4000000 in
theorem ffq(vb:Addr)(m vc:Nat)(w:World)(hm:0<m)(val:Value)(w1:World)
  (hr:∀ty,(Builtin.append_ #[129,129] ty #[.slice none 0 0,.slice (some vb) m vc]).run Tryz.prog w= .ok val w1):
  Calls Tryz.prog 241 #[.slice none 0 0,.int .i64 0,.slice (some vb) m vc] w λe w'=>e= .returned val/\w'=w1:=by
 have mixed:=mixed;have hz1:¬((m:Int)=0):=by omega
 have hnt:Tryz.f241.ntmps=95:=by kernel_rfl
 go_enter Tryz.func241,hnt
 go_wp2_with (at_builtin;refine Lib.wpList_append_run _ rfl _ _ _ _ rfl _ _ Y Y _ _ (hr _) ?_)
 all_goals (go_ret;exact⟨rfl,rfl⟩)
set_option maxHeartbeats 4000000 in
theorem cRq(b off n c i vb voff m vc:Nat)(cs vs:List Value)(w:World)(hi:i<n)(hm:0<m)(hnc:n<=c)(hroom:c<n+m)(hbig:(n+m)*56<=140737488355328)(h63:n+m<=70368744177664)
  (hcl:cs.length=n*33) (hvl:vs.length=m*33)
  (hcs:∀j v,cs[j]? =some v->w.cell? ⟨b,off+j,none⟩=some v)
  (hvs:∀j v,vs[j]? =some v->w.cell? ⟨vb,voff+j,none⟩=some v) (h1c:∀v∈cs,v.oneCell'=true) (h1v:∀v∈vs,v.oneCell'=true):
  Calls Tryz.prog 241 #[.slice (some ⟨b,off,none⟩) n c,.int .i64 i,.slice (some ⟨vb,voff,none⟩) m vc] w λe w'=>
   ∃G ROW,n+m<=G/\G<=9223372036854775807/\ROW.size=G*33/\(∀j,j<i*33->ROW[j]? =cs[j]?)/\e= .returned (.slice (some ⟨w.heap.size,0,none⟩) (n+m) G)/\
   w'=(((w.alloc (.cells ROW 133)).drew.setCells w.heap.size (i*33) vs).drew).setCells w.heap.size ((i+m)*33) (cs.drop (i*33)):=by
 have uS:Tryz.prog.underlying 129=some (.slice 133):=by kernel_rfl
 have uI:Tryz.prog.underlying 3=some (.int .i64):=by kernel_rfl
 have sZ:(Tryz.prog.info? 133).map (·.size)=some 33:=by kernel_rfl
 have bZ:(Tryz.prog.info? 133).map (·.bytes)=some 56:=by kernel_rfl
 have zZ:((Tryz.prog.info? 133).bind (·.zero)).map (·.cells.size)=some 33:=by kernel_rfl
 have mixed:=mixed
 obtain⟨i0,hi0⟩:∃i0,Tryz.prog.info? 133=some i0:=by
  cases hq:Tryz.prog.info? 133 with
  |none=>simp[hq] at sZ
  |some i=>exact⟨i,rfl⟩
 have hzs:i0.size=33:=by simpa[hi0] using sZ
 have hzb:i0.bytes=56:=by simpa[hi0] using bZ
 obtain⟨z,hz0,hzc⟩:∃z,i0.zero=some z/\z.cells.size=33:=by
  rw[hi0,Option.bind_some] at zZ;cases hq:i0.zero with
  |none=>simp[hq] at zZ
  |some z=>exact⟨z,rfl,by simpa[hq] using zZ⟩
 have hz1:¬((m:Int)=0):=by omega
 have hz2:¬((i:Int)=(n:Int)):=by omega
 have hz3:(c:Int)<(n:Int)+(m:Int):=by omega
 have hbw:b<w.heap.size:=block_lt_of_cell (hcs 0 _ (Za Xd));have hvw:vb<w.heap.size:=block_lt_of_cell (hvs 0 _ (Za Xd));have hkk:(n:Int)+(m:Int) -(i:Int)=((n+m-i:Nat):Int):=by omega
 have hik:i+(n+m-i)=n+m:=by omega
 have hold:(Builtin.firstCells i0.size i (.slice (some ⟨b,off,none⟩) i c)).run Tryz.prog w.drew= .ok (cs.take (i*33)).toArray w.drew:=by
  rw[hzs]
  exact run_firstCells_some w.drew 33 i ⟨b,off,none⟩ i c (cs.take (i*33)) Ym (λj v hj=>by
   rw[Addr.add_lit];rw[YI] at hj;split at hj
   .exact hcs j v hj
   .cases hj)
 have hrz:∀ty,(Builtin.append_ #[129,3] ty #[.slice (some ⟨b,off,none⟩) i c,.int .i64 ((n:Int)+(m:Int) -(i:Int))]).run Tryz.prog w=
   .ok (.slice (some ⟨w.heap.size,0,none⟩) (n+m) (grownCap w (n+m) c 133)) (w.drew.alloc (.cells ((cs.take (i*33)).toArray++Builtin.zeroCells z.cells (n+m-i)++Builtin.zeroCells z.cells (grownCap w (n+m) c 133-(n+m))) 133)):=λty=>by
  have h:=Lib.run_append_grow_zeros w 129 3 ty 133 i0 _ .i64 .i64 uS uI hi0 hz0 (some ⟨b,off,none⟩) i c (cs.take (i*33)) hold (n+m-i) Xd Xd Xd Xd (by rw[hzb];omega) (by rw[hzb,hik];exact growslice_fits hroom hbig);rw[hik] at h;rw[hkk];exact h
 obtain⟨G,hG⟩:∃G,G=grownCap w (n+m) c 133:=⟨_,rfl⟩
 obtain⟨ROW,hROW⟩:∃ROW:Array Value,ROW=(cs.take (i*33)).toArray++Builtin.zeroCells z.cells (n+m-i)++Builtin.zeroCells z.cells (G-(n+m)):=⟨_,rfl⟩
 rw[<-hG] at hrz;rw[<-hROW] at hrz;have hGn:n+m<=G:=by rw[hG];exact grownCap_ge w _ _ _
 have hRs:ROW.size=G*33:=by
  rw[hROW];simp only[Builtin.zeroCells,Array.size_append,Array.size_map,Array.size_range,hzc,ZR,Zu,hcl];omega
 have hRl:(n+m)*33<=ROW.size:=by rw[hRs];omega
 have hRt:∀j,j<i*33->ROW[j]? =cs[j]? :=λj hj=>by
  rw[hROW,Array.append_assoc,Array.getElem?_append_left (by simp only[ZR,Zu,hcl];omega)];simp only[List.getElem?_toArray,YI];rw[Zt hj]
 obtain⟨W1,hW1⟩:∃W1,W1=w.drew.alloc (.cells ROW 133):=⟨_,rfl⟩
 rw[<-hW1] at hrz
 have hN:∀j,j<(n+m)*33->(W1.cell? ⟨w.heap.size,j,none⟩).isSome=true:=λj hj=>by
  rw[hW1,World.cell?_alloc_at (w:=w.drew) ROW _ w.heap.size j rfl,ZG Xd];rfl
 have hNf:∀j,W1.frozen? ⟨w.heap.size,j,none⟩=false:=λj=>by rw[hW1];exact World.frozen?_alloc_at (w:=w.drew) ROW _ w.heap.size j rfl
 have hOb:∀j v,w.cell? ⟨b,j,none⟩=some v->W1.cell? ⟨b,j,none⟩=some v:=λj v h=>by rw[hW1,World.cell?_alloc_past (w:=w.drew) _ b j hbw];exact h
 have hOv:∀j v,w.cell? ⟨vb,j,none⟩=some v->W1.cell? ⟨vb,j,none⟩=some v:=λj v h=>by rw[hW1,World.cell?_alloc_past (w:=w.drew) _ vb j hvw];exact h
 have hcpA:∀(W:World),(∀x,W.cell? x=W1.cell? x) ->(∀x,W.frozen? x=W1.frozen? x) ->∀ty dc,(Builtin.copy_ #[129,129] ty #[.slice (some ⟨w.heap.size,i*33,none⟩) (n+m-i) dc,.slice (some ⟨vb,voff,none⟩) m vc]).run Tryz.prog W= .ok (goInt (Nat.min m (n+m-i))) (W.setCells w.heap.size (i*33) vs):=λW hWc hWf ty dc=>
  q2q W _ _ ty 133 w.heap.size (i*33) (n+m-i) dc ⟨vb,voff,none⟩ m vc 33 vs uS sZ Ye
   (λj v hj=>by rw[Addr.add_lit,hWc];exact hOv _ v (hvs j v hj))
   (λj hj=>by rw[hWc];exact hN _ Xd) (λj hj=>by rw[hWf];exact hNf _) h1v
 have hG63:G<=9223372036854775807:=by
  have:=grownCap_le_maxLen w (n+m) c 133 (by unfold maxLen;omega);rw[<-hG] at this;unfold maxLen at this;omega
 have hGi:¬(G=i):=by omega
 have hGim:¬(G=i+m):=by omega
 have hci:¬(c=i):=by omega
 have hbN:b≠w.heap.size:=by omega
 have hdl:(cs.drop (i*33)).length=(n-i)*33:=by rw[Zx,hcl];omega
 have hcpB:∀(W:World),(∀x,W.cell? x=(W1.setCells w.heap.size (i*33) vs).cell? x) ->(∀x,W.frozen? x=(W1.setCells w.heap.size (i*33) vs).frozen? x) ->∀ty dc sc,(Builtin.copy_ #[129,129] ty #[.slice (some ⟨w.heap.size,(i+m)*33,none⟩) (n+m-(i+m)) dc,.slice (some ⟨b,off+i*33,none⟩) (n-i) sc]).run Tryz.prog W= .ok (goInt (Nat.min (n-i) (n+m-(i+m)))) (W.setCells w.heap.size ((i+m)*33) (cs.drop (i*33))):=λW hWc hWf ty dc sc=>
  q2q W _ _ ty 133 w.heap.size ((i+m)*33) (n+m-(i+m)) dc ⟨b,off+i*33,none⟩ (n-i) sc 33 (cs.drop (i*33)) uS sZ Qx
   (λj v hj=>by
    rw[Addr.add_lit,hWc,World.cell?_setCells_out _ _ _ _ _ (λh _=>absurd h hbN),ZK];exact hOb _ v (hcs (i*33+j) v (by rwa[ZX] at hj)))
   (λj hj=>by rw[hWc];exact yWq _ _ _ _ (λt ht=>hN _ Xd) _ (hN _ Xd))
   (λj hj=>by rw[hWf,World.frozen?_setCells];exact hNf _) (λv hv=>h1c v (ZD hv))
 subst hW1;have hE1:∀x,((w.alloc (.cells ROW 133)).drew).cell? x=(w.drew.alloc (.cells ROW 133)).cell? x:=λx=>rfl
 have hE2:∀x,((w.alloc (.cells ROW 133)).drew).frozen? x=(w.drew.alloc (.cells ROW 133)).frozen? x:=λx=>rfl
 have hF1:∀x,(((w.alloc (.cells ROW 133)).drew.setCells w.heap.size (i*33) vs).drew).cell? x=((w.drew.alloc (.cells ROW 133)).setCells w.heap.size (i*33) vs).cell? x:=λx=>rfl
 have hF2:∀x,(((w.alloc (.cells ROW 133)).drew.setCells w.heap.size (i*33) vs).drew).frozen? x=((w.drew.alloc (.cells ROW 133)).setCells w.heap.size (i*33) vs).frozen? x:=λx=>rfl
 have hw1:IntKind.i64.wrap ((i:Int)+(m:Int))=(i:Int)+(m:Int):=by rw[IntKind.wrap_i64];omega
 have hw2:IntKind.i64.wrap ((n:Int)+(m:Int))=(n:Int)+(m:Int):=by rw[IntKind.wrap_i64];omega
 have hb1:(0:Int)<=(i:Int)+(m:Int):=by omega
 have hin:i<=n:=by omega
 have htn:((i:Int)+(m:Int)).toNat=i+m:=by omega
 have hb3:(i:Int)<=(n:Int):=by omega
 have hnt:Tryz.f241.ntmps=95:=by kernel_rfl
 clear hkk hik hold hROW hRl hG sZ bZ zZ hi0 hzs hzb hz0 hzc;go_enter Tryz.func241,hnt
 go_wp2_with (first
  |(at_builtin;refine Lib.wpList_append_run _ rfl _ _ _ _ rfl _ _ Y Y _ _ (hrz _) ?_)
  |(at_builtin;refine yVq _ rfl _ _ 129 129 rfl _ _ Y Y (hcpA _ hE1 hE2 _ _) ?_)
  |(at_builtin;refine yVq _ rfl _ _ 129 129 rfl _ _ Y Y (hcpB _ (λ_=>rfl) (λ_=>rfl) _ _ _) ?_))
 go_region_law_o (refine jwq rfl _ _ 129 129 rfl (.slice (some ⟨w.heap.size,(i+m)*33,none⟩) (n+m-(i+m)) (G-(i+m))) (.slice (some ⟨b,off+i*33,none⟩) (n-i) (c-i)) Yg Yg (hcpB _ hF1 hF2 3 (G-(i+m)) (c-i)) ?_)
 go_wp2
 go_ret
 exact⟨G,ROW,hGn,hG63,hRs,hRt,rfl,rfl⟩
theorem rmq:InsFn Tryz.prog 241 129 133 33 56:=⟨Go.Proofs.enters_of Tryz.func241 Xp rfl,bBq,fgq,ffq,cRq⟩
theorem mDq{C:Cfg}:qyq Tryz.prog C 241 (aFq sbq 129 133 33 56):=byq oDq rmq (j:=pcq) (k:=lqq) Xp rfl Xp Y Y
set_option maxHeartbeats 4000000 in
theorem fsq(b off n c i:Nat)(cs:List Value)(w:World)(hi:i<n)(hnc:n<=c)(h63:n<=70368744177664)
  (hcl:cs.length=n*4) (hcs:∀j v,cs[j]? =some v->w.cell? ⟨b,off+j,none⟩=some v) (hfz:∀j,j<n*4->w.frozen? ⟨b,off+j,none⟩=false) (h1c:∀v∈cs,v.oneCell'=true):
  Calls Tryz.prog 159 #[.slice (some ⟨b,off,none⟩) n c,.int .i64 i,.int .i64 ((i+1:Nat):Int)] w λe w'=>
   ∃Z:List Value,Z.length=4/\e= .returned (.slice (some ⟨b,off,none⟩) (n-1) c)/\w'=(w.drew.setCells b (off+i*4) (cs.drop ((i+1)*4))).setCells b (off+(n-1)*4) Z:=by
 have uS:Tryz.prog.underlying 39=some (.slice 175):=by kernel_rfl
 have sZ:(Tryz.prog.info? 175).map (·.size)=some 4:=by kernel_rfl
 have zZ:((Tryz.prog.info? 175).bind (·.zero)).map (λz=>(z.cells.size,(Builtin.zeroCells z.cells 1).toList.all λv=>v.oneCell'))=some (4,true):=by kernel_rfl
 have mixed:=mixed
 obtain⟨i0,hi0⟩:∃i0,Tryz.prog.info? 175=some i0:=by
  cases hq:Tryz.prog.info? 175 with
  |none=>simp[hq] at sZ
  |some i=>exact⟨i,rfl⟩
 have hzs:i0.size=4:=by simpa[hi0] using sZ
 obtain⟨z,hz0,hzc,hz1⟩:∃z,i0.zero=some z/\z.cells.size=4/\(Builtin.zeroCells z.cells 1).toList.all (λv=>v.oneCell')=true:=by
  rw[hi0,Option.bind_some] at zZ;cases hq:i0.zero with
  |none=>simp[hq] at zZ
  |some z=>
   rw[hq,Option.map_some] at zZ;have:=ZB zZ;exact⟨z,rfl,Ze Prod.fst this,Ze Prod.snd this⟩
 have hv:∀w,(zeroValue 175).run Tryz.prog w= .ok z w:=λw=>by simp[zeroValue,typeInfo,hi0,hz0]
 obtain⟨Z,hZ⟩:∃Z,Z=(Builtin.zeroCells z.cells 1).toList:=⟨_,rfl⟩
 have hZl:Z.length=4:=by rw[hZ];simp[Builtin.zeroCells,hzc]
 obtain⟨news,hnews⟩:∃news,news=cs.drop ((i+1)*4):=⟨_,rfl⟩
 have hlen:news.length=(n-(i+1))*4:=by rw[hnews,Zx,hcl];omega
 obtain⟨A,hA,hsrc⟩:∃A:Addr,(if c=i+1 then some (⟨b,off,none⟩:Addr) else some ⟨b,off+(i+1)*4,none⟩)=some A/\Hid (∀t u,news[t]? =some u->w.drew.cell? (A.add t)=some u):=by
  by_cases h:c=i+1
  .refine⟨⟨b,off,none⟩,by simp[h],λt u hu=>?_⟩;have h0:news.length=0:=by rw[hlen,show n-(i+1)=0 by omega,Nat.zero_mul]
   rw[Z4.1 h0] at hu;simp at hu
  .refine⟨⟨b,off+(i+1)*4,none⟩,by simp[h],λt u hu=>?_⟩;rw[hnews,ZX] at hu;rw[Addr.add_lit,ZK];exact hcs _ u hu
 have hcell:∀j,j<n*4->(w.drew.cell? ⟨b,off+j,none⟩).isSome=true:=λj hj=>by
  show(w.cell? _).isSome=true;rw[hcs j _ (Za Xd)];rfl
 have s1:Hid (news.length=(n-(i+1))*4):=hlen;have s2:Hid (∀u∈news,u.oneCell'=true):=λu hu=>h1c u (ZD (hnews▸hu))
 have s3:Hid (∀t,t<news.length->(w.drew.cell? ⟨b,off+i*4+t,none⟩).isSome=true/\w.drew.frozen? ⟨b,off+i*4+t,none⟩=false):=by
  intro t ht;rw[hlen] at ht;rw[ZK];exact⟨hcell _ Xd,hfz _ Xd⟩
 obtain⟨W1,hW1⟩:∃W1,W1=w.drew.setCells b (off+i*4) news:=⟨_,rfl⟩
 have hc1:∀j,j<n*4->(W1.cell? ⟨b,off+j,none⟩).isSome=true:=λj hj=>by
  rw[hW1];exact yWq b _ _ _ (λt ht=>(s3.out t ht).1) _ (hcell j hj)
 have hf1:∀j,j<n*4->W1.frozen? ⟨b,off+j,none⟩=false:=λj hj=>by
  rw[hW1,World.frozen?_setCells];exact hfz j hj
 have hcl1:∀ty cc,(Builtin.clear_ #[39] ty #[.slice (some ⟨b,off+(n-1)*4,none⟩) 1 cc]).run Tryz.prog W1= .ok (.tuple #[]) (W1.setCells b (off+(n-1)*4) Z):=λty cc=>by
  rw[hZ];exact u6q W1 39 175 ty z uS hv (λv hv=>List.all_eq_true.1 hz1 v hv) b _ cc (λj hj=>by rw[ZK];exact hc1 _ Xd) (λj hj=>by rw[ZK];exact hf1 _ Xd)
 have hW:Hid (W1=w.drew.setCells b (off+i*4) news):=hW1;rw[<-hnews,<-hW1];clear hW1 hc1 hf1 hcell hcs hfz hnews hlen sZ zZ hv hz1 hzc hZ h1c hcl;have q1:i+1<=n:=by omega
 have q2:i<=c:=by omega
 have q3:i+1<=c:=by omega
 have q4:i<=n:=by omega
 have q5:¬((i:Int)=(i:Int)+1):=by omega
 have q6:n-1<=n:=by omega
 have r1:(0:Int)<=(i:Int)+1:=by omega
 have r2:((i:Int)+1).toNat=i+1:=by omega
 have r3:(i:Int)+1<=(n:Int):=by omega
 have q7:i+(n-(i+1))=n-1:=by omega
 have q8:n-(n-1)=1:=by omega
 have q9:¬(c=n-1):=by omega
 have q10:n-1<=c:=by omega
 have hnt:Tryz.f159.ntmps=33:=by kernel_rfl
 go_enter Tryz.func159,hnt
 go_wp2_with fail
 go_region_law_o (refine step_append_room rfl _ _ 39 rfl 175 i0 4 uS hi0 hzs b off i c Yg A (n-(i+1)) (c-(i+1)) news (by simp[Act.eval,Act.put];try exact hA) s1.out hsrc.out s2.out Xd s3.out ?_;rw[<-hW.out])
 go_wp2
 go_ret
 exact⟨Z,hZl,rfl,rfl⟩
theorem rVq:DelFn Tryz.prog 159 4:=⟨Go.Proofs.enters_of Tryz.func159 Xp rfl,fsq⟩
theorem nbq{C:Cfg}:qyq Tryz.prog C 159 (dfq 175 4):=bzq rVq
set_option maxHeartbeats 4000000 in
theorem frq(b off n c i:Nat)(cs:List Value)(w:World)(hi:i<n)(hnc:n<=c)(h63:n<=70368744177664)
  (hcl:cs.length=n*33) (hcs:∀j v,cs[j]? =some v->w.cell? ⟨b,off+j,none⟩=some v) (hfz:∀j,j<n*33->w.frozen? ⟨b,off+j,none⟩=false) (h1c:∀v∈cs,v.oneCell'=true):
  Calls Tryz.prog 240 #[.slice (some ⟨b,off,none⟩) n c,.int .i64 i,.int .i64 ((i+1:Nat):Int)] w λe w'=>
   ∃Z:List Value,Z.length=33/\e= .returned (.slice (some ⟨b,off,none⟩) (n-1) c)/\w'=(w.drew.setCells b (off+i*33) (cs.drop ((i+1)*33))).setCells b (off+(n-1)*33) Z:=by
 have uS:Tryz.prog.underlying 129=some (.slice 133):=by kernel_rfl
 have sZ:(Tryz.prog.info? 133).map (·.size)=some 33:=by kernel_rfl
 have zZ:((Tryz.prog.info? 133).bind (·.zero)).map (λz=>(z.cells.size,(Builtin.zeroCells z.cells 1).toList.all λv=>v.oneCell'))=some (33,true):=by kernel_rfl
 have mixed:=mixed
 obtain⟨i0,hi0⟩:∃i0,Tryz.prog.info? 133=some i0:=by
  cases hq:Tryz.prog.info? 133 with
  |none=>simp[hq] at sZ
  |some i=>exact⟨i,rfl⟩
 have hzs:i0.size=33:=by simpa[hi0] using sZ
 obtain⟨z,hz0,hzc,hz1⟩:∃z,i0.zero=some z/\z.cells.size=33/\(Builtin.zeroCells z.cells 1).toList.all (λv=>v.oneCell')=true:=by
  rw[hi0,Option.bind_some] at zZ;cases hq:i0.zero with
  |none=>simp[hq] at zZ
  |some z=>
   rw[hq,Option.map_some] at zZ;have:=ZB zZ;exact⟨z,rfl,Ze Prod.fst this,Ze Prod.snd this⟩
 have hv:∀w,(zeroValue 133).run Tryz.prog w= .ok z w:=λw=>by simp[zeroValue,typeInfo,hi0,hz0]
 obtain⟨Z,hZ⟩:∃Z,Z=(Builtin.zeroCells z.cells 1).toList:=⟨_,rfl⟩
 have hZl:Z.length=33:=by rw[hZ];simp[Builtin.zeroCells,hzc]
 obtain⟨news,hnews⟩:∃news,news=cs.drop ((i+1)*33):=⟨_,rfl⟩
 have hlen:news.length=(n-(i+1))*33:=by rw[hnews,Zx,hcl];omega
 obtain⟨A,hA,hsrc⟩:∃A:Addr,(if c=i+1 then some (⟨b,off,none⟩:Addr) else some ⟨b,off+(i+1)*33,none⟩)=some A/\Hid (∀t u,news[t]? =some u->w.drew.cell? (A.add t)=some u):=by
  by_cases h:c=i+1
  .refine⟨⟨b,off,none⟩,by simp[h],λt u hu=>?_⟩;have h0:news.length=0:=by rw[hlen,show n-(i+1)=0 by omega,Nat.zero_mul]
   rw[Z4.1 h0] at hu;simp at hu
  .refine⟨⟨b,off+(i+1)*33,none⟩,by simp[h],λt u hu=>?_⟩;rw[hnews,ZX] at hu;rw[Addr.add_lit,ZK];exact hcs _ u hu
 have hcell:∀j,j<n*33->(w.drew.cell? ⟨b,off+j,none⟩).isSome=true:=λj hj=>by
  show(w.cell? _).isSome=true;rw[hcs j _ (Za Xd)];rfl
 have s1:Hid (news.length=(n-(i+1))*33):=hlen;have s2:Hid (∀u∈news,u.oneCell'=true):=λu hu=>h1c u (ZD (hnews▸hu))
 have s3:Hid (∀t,t<news.length->(w.drew.cell? ⟨b,off+i*33+t,none⟩).isSome=true/\w.drew.frozen? ⟨b,off+i*33+t,none⟩=false):=by
  intro t ht;rw[hlen] at ht;rw[ZK];exact⟨hcell _ Xd,hfz _ Xd⟩
 obtain⟨W1,hW1⟩:∃W1,W1=w.drew.setCells b (off+i*33) news:=⟨_,rfl⟩
 have hc1:∀j,j<n*33->(W1.cell? ⟨b,off+j,none⟩).isSome=true:=λj hj=>by
  rw[hW1];exact yWq b _ _ _ (λt ht=>(s3.out t ht).1) _ (hcell j hj)
 have hf1:∀j,j<n*33->W1.frozen? ⟨b,off+j,none⟩=false:=λj hj=>by
  rw[hW1,World.frozen?_setCells];exact hfz j hj
 have hcl1:∀ty cc,(Builtin.clear_ #[129] ty #[.slice (some ⟨b,off+(n-1)*33,none⟩) 1 cc]).run Tryz.prog W1= .ok (.tuple #[]) (W1.setCells b (off+(n-1)*33) Z):=λty cc=>by
  rw[hZ];exact u6q W1 129 133 ty z uS hv (λv hv=>List.all_eq_true.1 hz1 v hv) b _ cc (λj hj=>by rw[ZK];exact hc1 _ Xd) (λj hj=>by rw[ZK];exact hf1 _ Xd)
 have hW:Hid (W1=w.drew.setCells b (off+i*33) news):=hW1;rw[<-hnews,<-hW1];clear hW1 hc1 hf1 hcell hcs hfz hnews hlen sZ zZ hv hz1 hzc hZ h1c hcl;have q1:i+1<=n:=by omega
 have q2:i<=c:=by omega
 have q3:i+1<=c:=by omega
 have q4:i<=n:=by omega
 have q5:¬((i:Int)=(i:Int)+1):=by omega
 have q6:n-1<=n:=by omega
 have r1:(0:Int)<=(i:Int)+1:=by omega
 have r2:((i:Int)+1).toNat=i+1:=by omega
 have r3:(i:Int)+1<=(n:Int):=by omega
 have q7:i+(n-(i+1))=n-1:=by omega
 have q8:n-(n-1)=1:=by omega
 have q9:¬(c=n-1):=by omega
 have q10:n-1<=c:=by omega
 have hnt:Tryz.f240.ntmps=33:=by kernel_rfl
 go_enter Tryz.func240,hnt
 go_wp2_with fail
 go_region_law_o (refine step_append_room rfl _ _ 129 rfl 133 i0 33 uS hi0 hzs b off i c Yg A (n-(i+1)) (c-(i+1)) news (by simp[Act.eval,Act.put];try exact hA) s1.out hsrc.out s2.out Xd s3.out ?_;rw[<-hW.out])
 go_wp2
 go_ret
 exact⟨Z,hZl,rfl,rfl⟩
theorem rUq:DelFn Tryz.prog 240 33:=⟨Go.Proofs.enters_of Tryz.func240 Xp rfl,frq⟩
theorem naq{C:Cfg}:qyq Tryz.prog C 240 (dfq 133 33):=bzq rUq
end
section
open Go.RowKit
section
variable {s0:World} {U:Nat} {D:Nat->Prop} {ρ:Env} {h:Heap} {w w':World}
theorem Rel.pushAt(r:Rel s0 U D ρ h w)(hU:h.next+1<=U){b:Blk}{o:Obj}{q pre cap:Nat}(hq:w.heap.size<=q)(g:Below w.heap.size w w')(hn:w'.heap[q]? =some o)(hin:InB (DD D ρ) b)(hk:KnB (ρ.add h.next q pre cap) h.next b o):
  Rel s0 U (λi=>D i\/i=h.next) (ρ.add h.next q pre cap) (h.push b) w'/\Nxt D ρ h w (λi=>D i\/i=h.next) (ρ.add h.next q pre cap) (h.push b) w':=by
 have hne:=r.next_new hU;have hag:Env.Agree (DD D ρ) ρ (ρ.add h.next q pre cap):=Env.add_agree hne;have hdd:∀j m,DD D ρ j m->DD (λi=>D i\/i=h.next) (ρ.add h.next q pre cap) j m:=λj m hj=>⟨.inl hj.1,by rw[(hag j m hj).2.2.1];exact hj.2⟩
 have hb:∀j,D j->(ρ.add h.next q pre cap).b j=ρ.b j:=λj hj=>(hag j 0 ⟨hj,Zi _⟩).1
 have hbn:(ρ.add h.next q pre cap).b h.next=q:=by simp[Env.add]
 have get:∀j c,(D j\/j=h.next) ->(h.push b).get j=some c->(j=h.next/\c=b)\/(D j/\h.get j=some c):=λj c hj hc=>by
  rw[Heap.get_push] at hc;split at hc
  .rename_i e;cases hc;exact .inl ⟨e,rfl⟩
  .rename_i e;rcases hj with hj|hj
   .exact .inr ⟨hj,hc⟩
   .exact absurd hj e
 have hlt:∀j c,D j->h.get j=some c->ρ.b j<w.heap.size:=λj c hj hc=>by
  obtain⟨o,h1,_⟩:=r.has j c hj hc;exact(Zp.1 h1).1
 have hsz:s0.heap.size<=w.heap.size:=r.base.size;refine⟨⟨λj hj=>?_,λj hj=>?_,λj c hj hc=>?_,λj c hj hc=>?_,λj k c d hj hk' hc hd hoc hod hne'=>?_,λj c hj hc hoc=>?_,λj k c d hj hk' hc hd hoc hod=>?_,?_⟩,?_⟩
 .show j<h.next+1\/_;rcases hj with hj|hj
  .have:=r.lt j hj;omega
  .omega
 .have hj:h.next+1<=j:=hj;rw[Heap.get_push,Zg Xd];exact r.wf j Xd
 .rcases get j c hj hc with ⟨rfl,rfl⟩|⟨hj,hc⟩
  .exact⟨o,by rw[hbn];exact hn,hk⟩
  .obtain⟨o,h1,h2⟩:=r.has j c hj hc;exact⟨o,by rw[hb j hj,g.block _ (hlt j c hj hc)];exact h1,KnB.agree hag (m:=0) ⟨hj,Zi _⟩ (r.clo j c hj hc) h2⟩
 .rcases get j c hj hc with ⟨rfl,rfl⟩|⟨hj,hc⟩
  .exact hin.mono hdd
  .exact(r.clo j c hj hc).mono hdd
 .rcases get j c hj hc with ⟨rfl,rfl⟩|⟨hj1,hc1⟩<;>rcases get k d hk' hd with ⟨rfl,rfl⟩|⟨hk1,hd1⟩
  .exact absurd rfl hne'
  .rw[hbn,hb k hk1];have:=hlt k d hk1 hd1;omega
  .rw[hbn,hb j hj1];have:=hlt j c hj1 hc1;omega
  .rw[hb j hj1,hb k hk1];exact r.inj j k c d hj1 hk1 hc1 hd1 hoc hod hne'
 .rcases get j c hj hc with ⟨rfl,rfl⟩|⟨hj,hc⟩
  .rw[hbn];omega
  .rw[hb j hj];exact r.own j c hj hc hoc
 .rcases get j c hj hc with ⟨rfl,rfl⟩|⟨hj1,hc1⟩<;>rcases get k d hk' hd with ⟨rfl,rfl⟩|⟨hk1,hd1⟩
  .rw[hoc] at hod;cases hod
  .rw[hbn,hb k hk1];have:=hlt k d hk1 hd1;omega
  .rw[hbn,hb j hj1];have:=hlt j c hj1 hc1;omega
  .rw[hb j hj1,hb k hk1];exact r.old j k c d hj1 hk1 hc1 hd1 hoc hod
 .exact⟨g.os.trans r.base.os,g.tape.trans r.base.tape,g.output.trans r.base.output,Zs hsz g.size,λk hk=>(g.block k Xd).trans (r.base.block k hk)⟩
 .refine⟨λ_ h=>.inl h,λj hj=>?_,λj hj=>?_,λc hc _=>g.block c hc,λj hj hn' hl=>?_,g.size,Zc _,YK _,g.os,g.tape,g.output⟩
  .rcases hj with hj|hj
   .exact .inl hj
   .exact .inr ⟨Nat.le_of_eq hj.symm,by show j<h.next+1;omega⟩
  .have:j≠h.next:=by
    rcases hj with hj|hj
    .omega
    .have hj:h.next+1<=j:=hj;omega
   simp[Env.add,this]
  .have hl:j<h.next+1:=hl;obtain rfl:j=h.next:=by omega
   exact .inl (by rw[hbn];exact hq)
theorem eDq(r:Rel s0 U D ρ h w){v:V}{l:List UInt8}(hin:InD (DD D ρ) v)(hk:byJ h v=some l):Lib.HoldsBytes w (aaq ρ v) l:=by
 unfold byJ at hk;split at hk
 .cases hk;exact⟨none,0,rfl,λ_=>rfl,λa h=>by cases h⟩
 .rename_i b base off n lim;split at hk
  .rename_i bv hv;split at hk
   .rename_i L hL;obtain⟨g1,g2⟩:=Zrq ρ hk;obtain⟨q1,_,_,_⟩:=yHq (ρ:=ρ) 50 bv off n 1 L hL;have hcells:=jxq r hin hv hL;rw[g2] at hcells;obtain rfl:n=l.length:=by omega
    exact⟨_,_,rfl,λh=>Qs,λa ha i x hx=>by cases ha;exact hcells i _ (by simp[hx])⟩
   .cases hk
  .cases hk
 .cases hk
theorem b1q(r:Rel s0 U D ρ h w):∀{xs:List V} {ls:List (List UInt8)},InDL (DD D ρ) xs->sOq h xs=some ls->xs.length=ls.length/\(∀(i:Nat) v l,(zMq ρ xs)[i]? =some v->ls[i]? =some l->Lib.HoldsBytes w v l)/\∀x∈xs,x.size=1/\x.leaf=true
 |[],ls,_,hk=>by cases hk;exact⟨rfl,λi v l h=>by simp[zMq] at h,λx hx=>by cases hx⟩
 | v ::xs,ls,hin,hk=>by
  unfold sOq at hk;split at hk
  .rename_i x r' hx hr;cases hk;obtain⟨h1,h2,h3⟩:=b1q r hin.2 hr;refine⟨Ze (· +1) h1,λi u l hu hl=>?_,λy hy=>?_⟩
   .cases i with
    |zero=>
     simp only[zMq,List.getElem?_cons_zero,Zk] at hu hl;subst hu;subst hl
     exact eDq r hin.1 hx
    |succ i=>
     simp only[zMq,List.getElem?_cons_succ] at hu hl;exact h2 i u l hu hl
   .rcases ZF.1 hy with rfl|hy
    .unfold byJ at hx;split at hx
     .exact⟨rfl,rfl⟩
     .exact⟨rfl,rfl⟩
     .cases hx
    .exact h3 y hy
  .cases hk
theorem ohq{D:Nat->Nat->Prop}:∀{l:List V},(∀x∈l,InD D x) ->InDL D l
 |[],_=>trivial
 |x::l,h=>⟨h x (ZS ..),ohq λy hy=>h y (ZP _ hy)⟩
theorem Q4q(ρ:Env):∀{xs:List V},(∀x∈xs,x.size=1/\x.leaf=true) ->znq ρ 1 xs=zMq ρ xs
 |[],_=>rfl
 |x::xs,h=>by
  have hx:=(h x Xi).2;simp only[znq,zMq,khq hx,Q4q ρ (xs:=xs) λy hy=>h y (by simp[hy])];rw[yGq (by rfl)];rfl
theorem hvq:∀ls:List (List UInt8),Lib.join ls []=ls.flatten
 |[]=>rfl
 |x::r=>by
  rw[Lib.join_cons];unfold Lib.joinTail;simp
end
theorem ofq{C:Cfg}:qyq Tryz.prog C 198 JTq:=λvs h v h' he=>by
 unfold JTq at he;split at he
 .rename_i b base off n lim y;split at he
  .rename_i bv hv hy;split at he
   .rename_i xs hxs;split at he
    .rename_i ls hls;split at he
     .rename_i hb;cases he;simp only[Zb] at hb;obtain⟨⟨⟨hb1,hb2⟩,hb3⟩,hb4⟩:=hb;have hb1:=Yb hb1;have hb2:=Yb hb2;have hb3:=Yb hb3;have hb4:=Yb hb4;refine⟨yrq _ _,(hOq 198 _ (by rfl)).2.1,λs0 U D ρ w hU gl hin rel=>?_⟩;have hU:h.next+1<=U:=hU;have hx:=hin.1;have hyi:=hin.2.1;obtain⟨g1,g2,g3,g4⟩:=yHq (ρ:=ρ) 50 bv off n 1 xs hxs;obtain⟨_,_,_,_,_,_,_,hvin⟩:=rel.val hx.2.2.1 hv;have hxin:InDL (DD D ρ) xs:=g4 _ hvin;obtain⟨k1,k2,k3⟩:=b1q rel (ohq (J2q hxin)) hls;have hcells:=jxq rel hx hv hxs;rw[show znq ρ 1 xs=zMq ρ (z6q 1 xs) by rw[<-Q4q ρ k3,keq ρ 1 xs,v9q ρ _ (vpq 1 xs)]] at hcells;have hge:=jyq hx;have hc0:¬z8q ρ b off 1 lim=0:=by omega
      rw[Zg hc0] at hcells;have hP:Lib.PartsAt w ⟨ρ.b b,ρ.pre b+off,none⟩ (zMq ρ (z6q 1 xs)) ls:=⟨by rw[qjq,k1],hcells,k2⟩;have hS:=eDq rel hyi hy;have hfl:(z6q 1 xs).length=xs.length:=by rw[xUq,Z2]
      have hlens:Lib.lens ls=ls.flatten.length:=by simp[Lib.lens,List.length_flatten]
      have cj:=mAq (ρ.b b) (ρ.pre b+off) n (z8q ρ b off 1 lim) (zMq ρ (z6q 1 xs)) ls (aaq ρ y) [] w Xd hb1 hP hge hS hb2 (by rw[hlens,YD,Nat.zero_mul,Y3];exact hb4)
      have harg:(zMq ρ [.sl b base off n 1 lim,y]).toArray= #[.slice (some ⟨ρ.b b,ρ.pre b+off,none⟩) n (z8q ρ b off 1 lim),aaq ρ y]:=by
       simp[zMq,aaq,yjq,hc0]
      rw[harg];refine cj.mono ?_;rintro e w' ⟨v',rfl,hfresh,hbel⟩;rw[hvq] at hfresh;clear hlens cj;generalize ls.flatten=F at hfresh hb3 hb4⊢;obtain⟨g,cap,zs,rfl,hg,hlc,hmax,hzl,hzr,hzb,hcell,hfrz⟩:=hfresh
      have hobj:∃cs ty fz,w'.heap[g]? =some (.cells cs ty fz):=by
       have:=hcell 0 Xd;simp only[World.cell?] at this;split at this
       .rename_i cs ty fz hh;exact⟨_,_,_,hh⟩
       .cases this
      obtain⟨cs,ty,fz,hobj⟩:=hobj
      have hcs:∀i,i<cap->cs[i]? =some (.int .u8 (zs.getD i 0)):=λi hi=>by
       have:=hcell i hi;simpa[World.cell?,hobj] using this
      have hval:∀i (hi:i<F.length),zs.getD i 0=(F[i].toNat:Int):=λi hi=>by
       have hz:i<zs.length:=by omega
       have h1:=Ze (·[i]?) hzb;simp only[Go.Lib.bytesOf,ZY,YI,hi,if_true,Za hz,Option.map_some,Za hi,Zk] at h1;obtain⟨q1,q2⟩:=hzr zs[i] (List.getElem_mem hz);rw[<-h1];simp[List.getD,Za hz];omega
      have hcells2:cs.toList=cellsV ρ (.arr F.length 1 (y4q F))++cs.toList.drop F.length:=by
       have e:cellsV ρ (.arr F.length 1 (y4q F))=F.map λb=>Value.int .u8 b.toNat:=by
        simp only[cellsV];rw[yGq (by rw[zBq];simp[y4q]),kiq]
       rw[e];apply List.ext_getElem?;intro i;by_cases hi:i<F.length
       .rw[List.getElem?_append_left (by simpa using hi)];have:=hcs i Xd;rw[hval i hi] at this;simpa[Za hi] using this
       .rw[List.getElem?_append_right Xo,ZX];congr 1
        simp;omega
      have hinv:InD (DD D ρ) (.arr F.length 1 (y4q F)):=InDL_iff.2 λy hy=>by obtain⟨c,_,rfl⟩:=Z1.1 hy;trivial
      have hag:Env.Agree (DD D ρ) ρ (ρ.add h.next g 0 cap):=Env.add_agree (rel.next_new hU)
      obtain⟨r',n'⟩:=rel.pushAt hU (q:=g) (pre:=0) (cap:=cap) (b:=.ro (.arr F.length 1 (y4q F))) hg hbel hobj hinv ⟨[],cs.toList.drop F.length,ty,fz,by
       rw[yEq hag hinv,YX,<-hcells2],by simp[Env.add],by simp[Env.add];exact hlc⟩
      refine⟨_,_,?_,r',n',by omega,Zc _,.inr rfl,?_⟩
      .have:¬cap=0:=by omega
       simp[aaq,yjq,z8q,Env.add,this]
      .simp[Env.add];exact hlc
     .cases he
    .cases he
   .cases he
  .cases he
 .cases he
theorem d8q(kfn:List V->Heap->Option (V×Heap))(ha:qyq Tryz.prog (fEq kfn) 6 kfn):jhq Tryz.prog (fEq kfn):=λf k hk=>by
 have hk:(match Nat.beq f 198 with|true=>some JTq|false=>match Nat.beq f 240 with|true=>some (dfq 133 33)|false=>match Nat.beq f 159 with|true=>some (dfq 175 4)|false=>match Nat.beq f 241 with|true=>some (aFq sbq 129 133 33 56)|false=>match Nat.beq f 237 with|true=>some (aFq sbq 35 72 99 120)|false=>match Nat.beq f 6 with|true=>some kfn|false=>none)=some k:=hk;split at hk
 .rename_i e;cases hk;have:=Zh e;subst this;exact ofq
 .split at hk
  .rename_i e;cases hk;have:=Zh e;subst this;exact naq
  .split at hk
   .rename_i e;cases hk;have:=Zh e;subst this;exact nbq
   .split at hk
    .rename_i e;cases hk;have:=Zh e;subst this;exact mDq
    .split at hk
     .rename_i e;cases hk;have:=Zh e;subst this;exact mEq
     .split at hk
      .rename_i e;cases hk;have:=Zh e;subst this;exact ha
      .cases hk
end
end Go.Proofs.YtpjfmknefefapaaGreatDoor

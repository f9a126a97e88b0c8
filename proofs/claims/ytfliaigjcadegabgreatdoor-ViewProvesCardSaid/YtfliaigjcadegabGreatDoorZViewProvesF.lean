/-
  What the proof of ViewProves stands on, part 6. No condition.
-/
import Derived.Test.YtfliaigjcadegabGreatDoorZViewProvesE
set_option linter.unusedSimpArgs false
set_option linter.unusedVariables false
namespace Go.Proofs.YtfliaigjcadegabGreatDoor
@[irreducible] def bitN(k:Dig)(i:Nat):Nat:=kn k (i/8)/2^(7-i%8)%2
theorem qqq(k:Dig)(i:Nat):bitN k i<=1:=by unfold bitN;omega
theorem xor_le(m n:Nat)(hm:m<=255)(hn:n<=255):m^^^n<=255:=by
 have:m^^^n<2^8:=Nat.xor_lt_two_pow Xd Xd;omega
theorem pow_le(n:Nat):2^(7-n)<=255:=by
 have h:∀m,m<=7->2^m<=255:=by decide
 exact h _ Xd
@[irreducible] def qwq(k:Dig)(i:Nat):Dig:=setD k (i/8) (UInt8.ofNat (kn k (i/8)^^^2^(7-i%8)))
@[irreducible] def lenM(x:Nat):Nat:=if x=0 then 0 else Nat.log2 x+1
theorem Jpq(x:Nat)(hx:x<=255):lenM x<=8:=by
 have h:∀x,x<=255->lenM x<=8:=by decide+kernel
 exact h x hx
def dOf(a b:Dig)(i:Nat):Nat×Nat:=(i,kn a i^^^kn b i)
@[irreducible] def dTo(a b:Dig)(n:Nat):List (Nat×Nat):=((List.range n).map (dOf a b)).filter (λp=>p.2 !=0)
theorem dTo_zero(a b:Dig):dTo a b 0=[]:=by unfold dTo;rfl
theorem u9q(a b:Dig)(n:Nat):dTo a b (n+1)=dTo a b n++(if kn a n^^^kn b n=0 then [] else [dOf a b n]):=by
 unfold dTo;rw[List.range_succ,List.map_append,List.filter_append];congr 1
 simp only[List.map_cons,List.map_nil,List.filter_cons,List.filter_nil,dOf];split<;>split<;>simp_all
theorem dTo_pre(a b:Dig)(n m:Nat):dTo a b n<+:dTo a b (n+m):=by
 induction m with
 |zero=>exact List.prefix_refl _
 |succ m ih=>rw[<-Nat.add_assoc,u9q];exact ih.trans (List.prefix_append _ _)
theorem dTo_get(a b:Dig)(i n:Nat)(hi:i<n)(hx:kn a i^^^kn b i≠0):(dTo a b n)[(dTo a b i).length]? =some (dOf a b i):=by
 obtain⟨m,rfl⟩:∃m,n=(i+1)+m:=⟨n-(i+1),by omega⟩
 obtain⟨l,hl⟩:=dTo_pre a b (i+1) m;rw[<-hl,u9q,if_neg hx];simp
theorem dTo_mem{a b:Dig}{n:Nat}{x:Nat×Nat}(h:x∈dTo a b n):x.1<n/\x.2=kn a x.1^^^kn b x.1/\x.2≠0:=by
 unfold dTo at h;rw[List.mem_filter,List.mem_map] at h;obtain⟨⟨i,hi,rfl⟩,h2⟩:=h;exact⟨List.mem_range.1 hi,rfl,by simpa using h2⟩
@[irreducible] def zMq(a b:Dig):Nat:=match dTo a b 32 with
 |[]=>256
 |x::_=>8*x.1+(8-lenM x.2)
@[irreducible] def yHq(a b:Dig):Bool:=match dTo a b 32 with
 |[]=>false
 |x::_=>decide (kn a x.1<kn b x.1)
theorem byte_top:∀x,x<256->x≠0->lenM x<=8/\1<=lenM x/\x.testBit (lenM x-1)=true/\∀k,k<8->lenM x-1<k->x.testBit k=false:=by decide+kernel
theorem qEq(m k:Nat):m/2^k%2=(m.testBit k).toNat:=by rw[Nat.toNat_testBit]
theorem lt_top{m n L:Nat}(h:∀k,L<k->m.testBit k=n.testBit k)(hm:m.testBit L=false)(hn:n.testBit L=true):m<n:=by
 have h1:m/2^(L+1)=n/2^(L+1):=by
  apply Nat.eq_of_testBit_eq;intro i;rw[Nat.testBit_div_two_pow,Nat.testBit_div_two_pow];exact h _ Xd
 have e:∀x,x/2^(L+1)=x/2^L/2:=λx=>by rw[Nat.pow_succ,Nat.div_div_eq_div_mul]
 have hm':m/2^L%2=0:=by rw[qEq,hm];rfl
 have hn':n/2^L%2=1:=by rw[qEq,hn];rfl
 rw[e,e] at h1;have:m/2^L<n/2^L:=by omega
 exact Nat.lt_of_not_le λhc=>by have:=Nat.div_le_div_right (c:=2^L) hc;omega
theorem JIq(m n:Nat)(hm:m<=255)(hn:n<=255)(hx:m^^^n≠0):
  1<=lenM (m^^^n)/\lenM (m^^^n)<=8/\(∀t,t<8-lenM (m^^^n) ->m/2^(7-t)%2=n/2^(7-t)%2)/\
   ¬m/2^(lenM (m^^^n) -1)%2=n/2^(lenM (m^^^n) -1)%2/\(m<n↔m/2^(lenM (m^^^n) -1)%2<n/2^(lenM (m^^^n) -1)%2):=by
 have hle:=xor_le m n hm hn;obtain⟨h1,h2,h3,h4⟩:=byte_top (m^^^n) Xd hx
 have hab:∀k,lenM (m^^^n) -1<k->m.testBit k=n.testBit k:=λk hk=>by
  by_cases hk8:k<8
  ·have:=h4 k hk8 hk;rw[Nat.testBit_xor] at this;revert this;cases m.testBit k<;>cases n.testBit k<;>simp
  ·have e1:m<2^k:=Nat.lt_of_lt_of_le (show m<2^8 by omega) (Nat.pow_le_pow_right Xd Xd);have e2:n<2^k:=Nat.lt_of_lt_of_le (show n<2^8 by omega) (Nat.pow_le_pow_right Xd Xd);rw[Nat.testBit_lt_two_pow e1,Nat.testBit_lt_two_pow e2]
 rw[Nat.testBit_xor] at h3;refine⟨h2,h1,λt ht=>?_,?_,?_⟩
 ·rw[qEq,qEq,hab _ Xd]
 ·rw[qEq,qEq];revert h3;cases m.testBit (lenM (m^^^n) -1)<;>cases n.testBit (lenM (m^^^n) -1)<;>simp
 ·rw[qEq,qEq];cases hmb:m.testBit (lenM (m^^^n) -1)<;>cases hnb:n.testBit (lenM (m^^^n) -1)<;>simp only[hmb,hnb] at h3
  ·simp at h3
  ·have:=lt_top hab hmb hnb;simp[this]
  ·have:=lt_top (λk hk=>(hab k hk).symm) hnb hmb;simp;omega
  ·simp at h3
theorem xor_zero{m n:Nat}:m^^^n=0↔m=n:=by
 constructor
 ·intro h;apply Nat.eq_of_testBit_eq;intro i;have:(m^^^n).testBit i=false:=by rw[h];simp
  rw[Nat.testBit_xor] at this;revert this;cases m.testBit i<;>cases n.testBit i<;>simp
 ·rintro rfl;exact Nat.xor_self m
theorem dTo_nil{a b:Dig}{n:Nat}(h:dTo a b n=[]):∀i,i<n->kn a i=kn b i:=λi hi=>by
 rcases Classical.em (kn a i^^^kn b i=0) with hx|hx
 ·exact xor_zero.1 hx
 ·have:=dTo_get a b i n hi hx;rw[h] at this;simp at this
theorem vaq{a b:Dig}{x:Nat×Nat}{l:List (Nat×Nat)}:∀{n:Nat},dTo a b n=x::l->x.1<n/\x.2=kn a x.1^^^kn b x.1/\x.2≠0/\∀i,i<x.1->kn a i=kn b i:=by
 intro n h;obtain⟨h1,h2,h3⟩:=dTo_mem (a:=a) (b:=b) (n:=n) (x:=x) (by rw[h];simp);refine⟨h1,h2,h3,?_⟩;revert l
 induction n with
 |zero=>omega
 |succ n ih=>
  intro l h;rw[u9q] at h;cases hd:dTo a b n with
  |nil=>
   have:=dTo_nil hd;intro i hi;exact this i Xd
  |cons y r=>
   rw[hd] at h;have hy:y=x:=by simpa using congrArg List.head? h
   subst hy;have hm:=(dTo_mem (a:=a) (b:=b) (n:=n) (x:=y) (by rw[hd];simp)).1;exact ih hm hd
def JRq(a b:Dig)(s:Nat):Prop:=(∀j,j<s->bitN a j=bitN b j)/\(s=256\/(s<256/\¬bitN a s=bitN b s))
theorem qUq(a b:Dig):JRq a b (zMq a b):=by
 unfold zMq;cases hd:dTo a b 32 with
 |nil=>
  have h:=dTo_nil hd;exact⟨λj hj=>by simp only at hj;unfold bitN;rw[h (j/8) Xd],.inl rfl⟩
 |cons x l=>
  obtain⟨h1,h2,h3,h4⟩:=vaq hd;simp only;have hb:=JIq (kn a x.1) (kn b x.1) (vEq _ _) (vEq _ _) (by rw[<-h2];exact h3);rw[<-h2] at hb;obtain⟨b1,b2,b3,b4,-⟩:=hb;refine⟨λj hj=>?_,.inr ⟨by omega,?_⟩⟩
  ·unfold bitN;by_cases hjx:j/8<x.1
   ·rw[h4 _ hjx]
   ·have e:j/8=x.1:=by omega
    rw[e];exact b3 (j%8) Xd
  ·unfold bitN;rw[show(8*x.1+(8-lenM x.2))/8=x.1 by omega,show 7-(8*x.1+(8-lenM x.2))%8=lenM x.2-1 by omega];exact b4
theorem ZXq{a b:Dig}{s t:Nat}(hs:JRq a b s)(ht:JRq a b t):s=t:=by
 obtain⟨s1,s2⟩:=hs;obtain⟨t1,t2⟩:=ht;rcases Nat.lt_trichotomy s t with h|h|h
 ·have:=t1 s h;rcases s2 with s2|⟨_,s2⟩
  ·omega
  ·exact absurd this s2
 ·exact h
 ·have:=s1 t h;rcases t2 with t2|⟨_,t2⟩
  ·omega
  ·exact absurd this t2
theorem ahead_is(a b:Dig):yHq a b=decide (zMq a b<256/\bitN a (zMq a b)<bitN b (zMq a b)):=by
 unfold yHq zMq;cases hd:dTo a b 32 with
 |nil=>simp
 |cons x l=>
  obtain⟨h1,h2,h3,h4⟩:=vaq hd;simp only;have hb:=JIq (kn a x.1) (kn b x.1) (vEq _ _) (vEq _ _) (by rw[<-h2];exact h3);rw[<-h2] at hb;obtain⟨b1,b2,b3,b4,b5⟩:=hb;refine decide_eq_decide.2 ?_;unfold bitN;rw[show(8*x.1+(8-lenM x.2))/8=x.1 by omega,show 7-(8*x.1+(8-lenM x.2))%8=lenM x.2-1 by omega,b5];constructor
  ·exact λh=>⟨by omega,h⟩
  ·exact λh=>h.2
theorem ZYq(a b:Dig):zMq a b<=256:=by
 rcases(qUq a b).2 with h|h<;>omega
theorem ofNat_u8(n:Nat)(h:n<=255):(UInt8.ofNat n).toNat=n:=by simp;omega
theorem kn_turn(k:Dig)(i j:Nat)(hj:j<32)(hi:i<256):kn (qwq k i) j=if j=i/8 then kn k j^^^2^(7-i%8) else kn k j:=by
 unfold qwq;rw[kn_set _ _ _ _ hj];by_cases h:i/8=j
 ·rw[if_pos h,if_pos h.symm,h,ofNat_u8];exact xor_le _ _ (vEq _ _) (pow_le _)
 ·rw[if_neg h,if_neg (λe=>h e.symm)]
theorem YTq(k:Dig)(i j:Nat)(hi:i<256)(hj:j<256)(h:¬j=i):bitN (qwq k i) j=bitN k j:=by
 unfold bitN;rw[kn_turn _ _ _ Xd hi];by_cases h8:j/8=i/8
 ·rw[if_pos h8,qEq,qEq,Nat.testBit_xor,Nat.testBit_two_pow_of_ne Xd];simp
 ·rw[if_neg h8]
theorem YUq(k:Dig)(i:Nat)(hi:i<256):bitN (qwq k i) i=1-bitN k i:=by
 unfold bitN;rw[kn_turn _ _ _ Xd hi,if_pos rfl,qEq,qEq,Nat.testBit_xor,Nat.testBit_two_pow_self];cases (kn k (i/8)).testBit (7-i%8)<;>rfl
theorem shared_eq{a b:Dig}:zMq a b=256↔a=b:=by
 constructor
 ·intro h;cases hd:dTo a b 32 with
  |nil=>exact dig_ext (dTo_nil hd)
  |cons x l=>
   exfalso
   obtain⟨h1,h2,h3,h4⟩:=vaq hd;have hb:=JIq (kn a x.1) (kn b x.1) (vEq _ _) (vEq _ _) (by rw[<-h2];exact h3);rw[<-h2] at hb;unfold zMq at h;rw[hd] at h;simp only at h;omega
 ·rintro rfl;rcases(qUq a a).2 with h|⟨_,h⟩
  ·exact h
  ·exact absurd rfl h
theorem z3q{a b:Dig}{d:Nat}(hd:d<=256):d<=zMq a b↔∀j,j<d->bitN a j=bitN b j:=by
 obtain⟨h1,h2⟩:=qUq a b;constructor
 ·exact λh j hj=>h1 j Xd
 ·intro h;rcases h2 with h2|⟨h2,h3⟩
  ·omega
  ·exact Nat.le_of_not_lt λhlt=>h3 (h _ hlt)
theorem ZGq{a b:Dig}(h:∀j,j<256->bitN a j=bitN b j):a=b:=by
 have:=(z3q (a:=a) (b:=b) (d:=256) (Nat.le_refl _)).2 h;have:=ZYq a b;exact shared_eq.1 Xd
theorem shared_comm(a b:Dig):zMq a b=zMq b a:=by
 refine ZXq (qUq a b) ?_;obtain⟨h1,h2⟩:=qUq b a;exact⟨λj hj=>(h1 j hj).symm,h2.imp id λh=>⟨h.1,λe=>h.2 e.symm⟩⟩
theorem shared_tri(a b c:Dig):min (zMq a b) (zMq b c)<=zMq a c:=by
 have h1:=ZYq a b;have h2:=ZYq b c;refine(z3q Xd).2 λj hj=>?_
 rw[(qUq a b).1 j Xd,(qUq b c).1 j Xd]
theorem ahead_iff{a b:Dig}:yHq a b=true↔∃s,s<256/\(∀j,j<s->bitN a j=bitN b j)/\bitN a s=0/\bitN b s=1:=by
 rw[ahead_is];have hs:=qUq a b;constructor
 ·intro h;have h:=of_decide_eq_true h;refine⟨zMq a b,h.1,hs.1,?_,?_⟩<;>(have:=qqq b (zMq a b);omega)
 ·rintro⟨s,h1,h2,h3,h4⟩;have:zMq a b=s:=ZXq hs ⟨h2,.inr ⟨h1,by omega⟩⟩;rw[this];exact decide_eq_true ⟨h1,by omega⟩
theorem xVq{a b:Dig}(h:yHq a b=true):a≠b:=by
 rintro rfl;obtain⟨s,_,_,h3,h4⟩:=ahead_iff.1 h;omega
theorem QOq(a:Dig):yHq a a=false:=by
 cases h:yHq a a with
 |false=>rfl
 |true=>exact absurd rfl (xVq h)
theorem YWq{a b c:Dig}(h1:yHq a b=true)(h2:yHq b c=true):yHq a c=true:=by
 obtain⟨s,a1,a2,a3,a4⟩:=ahead_iff.1 h1;obtain⟨t,b1,b2,b3,b4⟩:=ahead_iff.1 h2;refine ahead_iff.2 ?_;rcases Nat.lt_trichotomy s t with h|h|h
 ·exact⟨s,a1,λj hj=>(a2 j hj).trans (b2 j Xd),a3,by rw[<-b2 s h];exact a4⟩
 ·subst h;omega
 ·exact⟨t,b1,λj hj=>(a2 j Xd).trans (b2 j hj),by rw[a2 t h];exact b3,b4⟩
theorem jZq{a b:Dig}(h:yHq a b=true):yHq b a=false:=by
 cases hb:yHq b a with
 |false=>rfl
 |true=>have:=YWq h hb;rw[QOq] at this;cases this
theorem ahead_total{a b:Dig}(h:a≠b):yHq a b=true\/yHq b a=true:=by
 have hs:=qUq a b;have h256:zMq a b≠256:=λe=>h (shared_eq.1 e)
 rcases hs.2 with h2|⟨h1,h2⟩
 ·exact absurd h2 h256
 ·have x1:=qqq a (zMq a b);have x2:=qqq b (zMq a b);rcases Nat.eq_zero_or_pos (bitN a (zMq a b)) with h3|h3
  ·exact .inl (ahead_iff.2 ⟨_,h1,hs.1,h3,by omega⟩)
  ·exact .inr (ahead_iff.2 ⟨_,h1,λj hj=>(hs.1 j hj).symm,by omega,by omega⟩)
section
open Go.RowKit
section
attribute [local irreducible] CoW OpW FlW Step Spec
variable {G:Nat->Option W}
theorem tdiv_nat(a b:Nat):((a:Int)).tdiv (b:Int)=((a/b:Nat):Int):=by rw[Int.tdiv_eq_ediv_of_nonneg Xd];rfl
theorem tmod_nat(a b:Nat):((a:Int)).tmod (b:Int)=((a%b:Nat):Int):=by rw[Int.tmod_eq_emod_of_nonneg Xd];rfl
theorem dW_ld(k:Dig){i:Nat}(h:i<32):zZq 50 (dW k) (0+i*1) 1 false=some (.int .u8 (kn k i:Nat)):=by rw[Nat.zero_add];exact dW_get k h
theorem bit_and(x n:Nat)(hn:n<=7)(hx:x<=255):Nat.land (Nat.shiftRight x (min n 8)%256) (1%256)=x/2^n%2:=by
 have h1:Nat.shiftRight x (min n 8)=x/2^n:=by rw[show min n 8=n by omega];exact Nat.shiftRight_eq_div_pow x n
 have h2:=Nat.div_le_self x (2^n);rw[h1,Nat.mod_eq_of_lt Xd];exact Nat.and_one_is_mod _
theorem bit_in(k:Dig)(i:Nat)(h:i<256):PS cfg G 207 [dW k,.int .i64 (i:Int)] (.tup [.int .u8 (bitN k i:Nat),.int .i64 0]):=by
 have hk:=vEq k (i/8);refine gI 11 O (λR k0=>?_);refine gD 0 O (λh1=>?_) (λh1=>?_)
 ·exfalso;omega
 refine gU 2 O ?_;refine gS 3 O (λh2=>?_) (λh2=>?_)
 ·exfalso;omega
 refine gA 5 O (i/8) (e:=(tdiv_nat i 8)) (gP 0 O (j5q (i:=i/8) O O O O O O Xd) (gM 0 O (z2q O O O (dW_ld k Xd)) (gV 1 O (congrArg (W.int .i64) (tmod_nat i 8)) (gA 0 O (7-i%8) (gQ 7 O ?_)))));show W.tup [.int .u8 (Nat.land (Nat.shiftRight (kn k (i/8)) (min (7-i%8) 8)%256) (1%256):Nat),_]=_;rw[bit_and _ _ Xd hk];unfold bitN;rfl
theorem len_tabW(s:List UInt8)(h:(List.range 256).all (λx=>s[x]? ==some (UInt8.ofNat (lenM x)))=true)(x:Nat)(hx:x<=255):s[x]? =some (UInt8.ofNat (lenM x)):=by
 have:=List.all_eq_true.1 h x (List.mem_range.2 Xd);simpa using this
theorem len8_s(x:Nat)(hx:x<=255):PS cfg G 318 [.int .u8 (x:Int)] (.int .i64 (lenM x:Nat)):=by
 have hl:=Jpq x hx;have e:((UInt8.ofNat (lenM x)).toNat:Int)=(lenM x:Nat):=by congr 1;simp;omega
 exact gI 8 O (λR k0=>gP 0 O (ix_str O O O O O (len_tabW _ (by decide+kernel) x hx)) (gA 0 O (lenM x) (e:=e) (gQa 4 O)))
theorem lz8_s(x:Nat)(hx:x<=255):PS cfg G 270 [.int .u8 (x:Int)] (.int .i64 (8-lenM x:Nat)):=by
 have hl:=Jpq x hx;exact gI 8 O (λR k0=>gC 0 O (len8_s _ Xd) (gA 0 O (8-lenM x) (gQa 4 O)))
noncomputable def encP(x:Nat×Nat):List W:=[.int .i64 (x.1:Int),.int .u8 (x.2:Int)]
theorem dTo_more(a b:Dig){i:Nat}(h:i<32)(hx:kn a i^^^kn b i≠0):(dTo a b 32).drop (dTo a b i).length=dOf a b i::(dTo a b 32).drop (dTo a b (i+1)).length:=by
 have h1:=dTo_get a b i 32 h hx;obtain⟨hl,h2⟩:=List.getElem?_eq_some_iff.1 h1;have hs:=u9q a b i;rw[if_neg hx] at hs;rw[List.drop_eq_getElem_cons hl,h2,hs];simp
theorem dTo_same(a b:Dig){i:Nat}(hx:kn a i^^^kn b i=0):dTo a b (i+1)=dTo a b i:=by rw[u9q,if_pos hx,List.append_nil]
theorem xor8(x y:Nat)(hx:x<=255)(hy:y<=255):Nat.xor (x%256) (y%256)=x^^^y:=by rw[Nat.mod_eq_of_lt Xd,Nat.mod_eq_of_lt Xd];rfl
theorem apart_s(a b:Dig):PS cfg G 269 [dW a,dW b] (.fn 317 [] [.fel (dW a),.fel (dW b)]):=by
 refine gI 14 O (λR k0=>?_);refine y4q (fr2:=[(4,_)]) Xy ?_ O O
 (repeat (first|exact trivial|refine And.symm ⟨?_,_,rfl,?_⟩))<;>(repeat (first|exact .nil|refine .cons ?_ ?_|refine .fn ?_ ?_|(refine yxq O ?_ rfl;(first|rfl|(focus (simp;done))))|(refine .sl O ?_ rfl Xi;(first|rfl|(focus (simp;done))))|(refine .pur ?_;(first|rfl|(focus (simp;done))))|refine .agg ?_|refine .arr ?_|refine .tup ?_))
theorem apart_it(a b:Dig):y7q cfg G 317 [.fel (dW a),.fel (dW b)] ((dTo a b 32).map encP):=by
 refine kXq (fn:=Tryz.f317) O O O (Ob rfl) (λL E R hy k0=>?_);refine vdq 3 (zEq 9 O ?_);refine co_loopR (α:=Nat×Res) (λp=>p.1<=32/\Yl cfg G L E (((dTo a b 32).drop (dTo a b p.1).length).map encP) p.2) (λp=>[(6,.int .i64 (p.1:Int))]) [(0,_),(1,_),(2,_)] (λp=>[]) (λp=>p.2) (λp=>32-p.1) ((0,R)) ⟨rfl,rfl,rfl,trivial⟩ (⟨Nat.zero_le _,by rw[dTo_zero];exact hy⟩) ⟨rfl,trivial⟩ O O (λp hI=>?_);obtain⟨i,R⟩:=p;obtain⟨hi,hy⟩:=hI;simp only at hi hy;have ha:=vEq a i;have hb:=vEq b i;refine zEq 6 O ?_;refine gS 0 O (λh1=>?_) (λh1=>?_)
 ·have hi':i<32:=by omega
  refine gP 13 O (ix_fel O O O O O O Xd rfl (dW_get a hi')) (gP 2 O (ix_fel O O O O O O Xd rfl (dW_get b hi')) (gV (w':=.int .u8 ((kn a i^^^kn b i:Nat):Int)) 1 O (congrArg (λn:Nat=>W.int .u8 (n:Int)) (xor8 _ _ ha hb)) ?_));refine gD 6 O (λh2=>?_) (λh2=>?_)
  ·have hx:kn a i^^^kn b i≠0:=by omega
   rw[dTo_more a b hi' hx,List.map_cons] at hy;refine gSo 4 O (qdq O O O (hy) (λb R1 hb=>?_));refine gS 4 O (λh3=>?_) (λh3=>?_)
   ·cases b with
    |true=>cases h3
    |false=>
     exact yrq 3 O (qmq Xi (zDq 1 O (kQq Yq (jvq (.inl rfl) rfl hb))))
   ·cases b with
    |false=>exact absurd rfl h3
    |true=>
     exact yrq 4 O (gA 0 O (i+1) (zcq 2 O (Jcq ((i+1,R1)) (⟨hi',hb⟩) Ya (Nat.zero_le _) ⟨rfl,trivial⟩ ⟨rfl,rfl,rfl,trivial⟩ Xh Xh Xd Xl Ye rfl)))
  ·have hx:kn a i^^^kn b i=0:=by omega
   rw[<-dTo_same a b hx] at hy;exact gA 14 O (i+1) (zcq 2 O (Jcq ((i+1,R)) (⟨hi',hy⟩) Ya (Nat.zero_le _) ⟨rfl,trivial⟩ ⟨rfl,rfl,rfl,trivial⟩ Xh Xh Xd Xl Ye rfl))
 ·refine zcq 2 O (qmq Xi (zDq 1 O (kQq Yq ?_)));have:i=32:=by omega
  subst this;rw[List.drop_length] at hy;exact jvq (.inl rfl) rfl hy
theorem encP_ok{l:List (Nat×Nat)}:∀y∈l,purL (encP y)=true/\(encP y).length=2:=λy _=>⟨rfl,rfl⟩
theorem head_of{α:Type}{l:List α}{x:α}{i:Nat}(h:l[i]? =some x)(hi:i=0):∃r,l=x::r:=by
 subst hi;cases l with
 |nil=>simp at h
 |cons y r=>simp at h;subst h;exact⟨r,rfl⟩
theorem shared_s(a b:Dig):PS cfg G 201 [dW a,dW b] (.int .i64 (zMq a b:Nat)):=by
 refine gI 12 O (λR k0=>gC 0 O (apart_s _ _) (zcq 3 O ?_));refine YLq (encP) (dTo a b 32) (λi=>i=0) rfl Xk (apart_it a b) (encP_ok) (rfl) (λi y hy hI=>?_) (λhI=>?_)
 ·obtain⟨r,hr⟩:=head_of hy hI;obtain⟨h1,h2,h3,h4⟩:=vaq hr;have hb:=xor_le _ _ (vEq a y.1) (vEq b y.1);rw[<-h2] at hb;have hl:=Jpq y.2 hb;refine zEq 8 O (xXq (zEq 4 O (gA 0 O (8*y.1) (gC 1 O (lz8_s _ Xd) (gA 0 O (8*y.1+(8-lenM y.2)) (zcq 5 O (jqq Xi (zDq 2 O (gQ 0 O ?_)))))))));unfold zMq;rw[hr]
 ·have:dTo a b 32=[]:=List.eq_nil_of_length_eq_zero hI;refine zDq 8 O (gQ 0 O ?_);unfold zMq;rw[this];rfl
theorem ahead_s(a b:Dig):PS cfg G 263 [dW a,dW b] (.bool (yHq a b)):=by
 refine gI 12 O (λR k0=>gC 0 O (apart_s _ _) (zcq 3 O ?_));refine YLq (encP) (dTo a b 32) (λi=>i=0) rfl Xk (apart_it a b) (encP_ok) (rfl) (λi y hy hI=>?_) (λhI=>?_)
 ·obtain⟨r,hr⟩:=head_of hy hI;obtain⟨h1,h2,h3,h4⟩:=vaq hr;refine zEq 3 O (xXq (zEq 4 O (gP 0 O (j5q (i:=y.1) O O O O O O h1) (gM 0 O (z2q O O O (dW_ld a h1)) (gP 1 O (j5q (i:=y.1) O O O O O O h1) (gM 0 O (z2q O O O (dW_ld b h1)) (gU 0 O (zcq 5 O (jqq Xi (zDq 2 O (gQ 0 O ?_)))))))))));unfold yHq;rw[hr];congr 1
  simp
 ·have:dTo a b 32=[]:=List.eq_nil_of_length_eq_zero hI;refine zDq 8 O (gQ 0 O ?_);unfold yHq;rw[this]
theorem shr8(n:Nat)(hn:n<=7):Nat.shiftRight 128 (min n 8)=2^(7-n):=by
 have h:∀n,n<=7->Nat.shiftRight 128 (min n 8)=2^(7-n):=by decide+kernel
 exact h n hn
theorem turn_in(k:Dig)(i:Nat)(h:i<256):PS cfg G 202 [dW k,.int .i64 (i:Int)] (.tup [dW (qwq k i),.int .i64 0]):=by
 have hk:=vEq k (i/8);have hp:=pow_le (i%8);have hx:=xor_le _ _ hk hp
 have e1:Nat.xor (kn k (i/8)%256) (Nat.shiftRight 128 (min (i%8) 8)%256)=kn k (i/8)^^^2^(7-i%8):=by
  rw[shr8 _ Xd];exact xor8 _ _ hk hp
 refine gI 11 O (λR k0=>?_);refine gD 0 O (λh1=>?_) (λh1=>?_)
 ·exfalso;omega
 refine gU 2 O ?_;refine gS 3 O (λh2=>?_) (λh2=>?_)
 ·exfalso;omega
 refine gA 5 O (i/8) (e:=(tdiv_nat i 8)) (gP 0 O (j5q (i:=i/8) O O O O O O Xd) (gM 0 O (z2q O O O (dW_ld k Xd)) (gV 1 O (congrArg (W.int .i64) (tmod_nat i 8)) (gV (w':=.int .u8 ((kn k (i/8)^^^2^(7-i%8):Nat):Int)) 1 O (congrArg (λn:Nat=>W.int .u8 (n:Int)) e1) (gP 0 O (j5q (i:=i/8) O O O O O O Xd) (gM 0 O (jKq O O O O O (kSq (i:=0+i/8*1) (by rw[Nat.zero_add,Nat.mul_one];exact dW_at k Xd) O O) rfl) (gQ 10 O ?_)))))));rw[Nat.zero_add,Nat.mul_one,dW_set k (i/8) Xd];unfold qwq;rfl
end
end
def beB:Nat->Nat->List UInt8
 |0,_=>[]
 |s+1,n=>UInt8.ofNat (n/256^s%256)::beB s n
def numB(l:List UInt8):Nat:=l.foldl (λa c=>256*a+c.toNat) 0
@[simp] theorem y5q:∀s n,(beB s n).length=s
 |0,_=>rfl
 |s+1,n=>by simp[beB,y5q s n]
theorem numB_snoc(l:List UInt8)(c:UInt8):numB (l++[c])=256*numB l+c.toNat:=by simp[numB,List.foldl_append]
theorem Jmq:∀(l:List UInt8) (a:Nat),l.foldl (λa c=>256*a+c.toNat) a=a*256^l.length+numB l
 |[],a=>by simp[numB]
 |c::l,a=>by
  simp only[List.foldl_cons,numB,List.length_cons];rw[Jmq l,Jmq l (256*0+c.toNat),Nat.pow_succ];simp only[Nat.add_mul,Nat.mul_zero,Nat.zero_add,Nat.add_assoc];congr 1
  rw[Nat.mul_comm 256 a,Nat.mul_assoc,Nat.mul_comm 256]
theorem numB_cons(c:UInt8)(l:List UInt8):numB (c::l)=c.toNat*256^l.length+numB l:=by
 show(c::l).foldl _ 0=_;rw[List.foldl_cons,Jmq];simp
theorem Jlq:∀l:List UInt8,numB l<256^l.length
 |[]=>by simp[numB]
 |c::l=>by
  rw[numB_cons,List.length_cons,Nat.pow_succ];have:=Jlq l;have hc:=c.toNat_lt;have:c.toNat*256^l.length<=255*256^l.length:=Nat.mul_le_mul_right _ Xd;omega
theorem numB_be:∀s n,numB (beB s n)=n%256^s
 |0,n=>by simp[beB,numB,Nat.mod_one]
 |s+1,n=>by
  rw[beB,numB_cons,y5q,numB_be s n];have h1:(UInt8.ofNat (n/256^s%256)).toNat=n/256^s%256:=by simp
  rw[h1,Nat.pow_succ,Nat.mod_mul,Nat.mul_comm (n/256^s%256)];omega
section
open Go.RowKit
section
attribute [local irreducible] CoW OpW FlW Step Spec
variable {G:Nat->Option W}
theorem vPq(l:List UInt8)(f:Bool)(hl:l.length<=70368744177664):PS cfg G 104 [.fz (zaq l) 1 f] (bW l):=by
 refine gI 9 O (λR k0=>?_);first|refine ylq O O ?_|refine zqq rfl (uDq O O O O O (λbn hn=>?_))
 refine zeq 2 O ?_;refine gS 0 O (λh1=>?_) (λh1=>?_)
 ·cases bn with
  |false=>cases h1
  |true=>
   have hn:=hn rfl
   have hl0:l=[]:=by cases l with
    |nil=>rfl
    |cons c l=>simp[zaq] at hn
   subst hl0;refine yrq 7 O ?_;refine y4q (fr2:=[(2,bW [])]) Qt ⟨⟨_,rfl,.nilfz⟩,trivial⟩ O O
 ·cases l with
  |nil=>
   skip
   refine yrq 6 O (gM 0 O (yRq O O (vRq O O O O O)) (zcq 4 O ?_));refine y4q (fr2:=[(2,bW [])]) Qt ⟨⟨_,rfl,.sl O O O Xi⟩,trivial⟩ O O
  |cons c l=>
   simp only[List.length_cons] at hl;refine yrq 6 O (gM 0 O (yRq O O (qcq (news:=zaq (c::l)) (olds:=[]) O O O O O (by simp[zaq]) (by show(0+(zaq (c::l)).length)*1<=_;rw[zgq];simp only[List.length_cons];omega) (by rw[zgq];simp only[List.length_cons];omega) rfl (by show 0<0+(0+(zaq (c::l)).length)*1;rw[zgq];simp only[List.length_cons];omega) O O)) (zcq 4 O ?_));refine y4q (fr2:=[(2,bW (c::l))]) Qt ⟨⟨_,rfl,.sl rfl Xg (uBq Xg (Nat.mul_one _)) Xi⟩,trivial⟩ O O
theorem end_s(l:List UInt8)(f:Bool):PS cfg G 316 [.fz (zaq l) 1 f] (.int .i64 (if l=[] then 0 else 11)):=by
 have e:=zgq l;refine gI 9 O (λR k0=>gL 0 O ?_);refine gS 3 O (λh1=>?_) (λh1=>?_)
 ·refine zcq 7 O ?_;have:l≠[]:=by rintro rfl;simp[zaq] at h1
  exact gQ 0 O (by rw[if_neg this])
 ·refine zcq 8 O ?_;have:l=[]:=List.eq_nil_of_length_eq_zero (by rw[<-e];simpa using h1);exact gQ 0 O (by rw[if_pos this])
theorem shr_byte(n i:Nat)(hi:i<=8):Nat.shiftRight n (min (8*i) 64)%256=n/256^i%256:=by
 have:Nat.shiftRight n (min (8*i) 64)=n/2^(8*i):=by rw[show min (8*i) 64=8*i by omega];exact Nat.shiftRight_eq_div_pow _ _
 rw[this,Nat.pow_mul]
theorem be_at(n size i:Nat)(hi:i<size):(zaq (List.replicate (size-i) 0++beB i n))[0+(size-1-i)*1]? =some (.int .u8 (.ofNat 0)):=by
 refine xzq (c:=0) ?_;rw[List.getElem?_append_left Xp,List.getElem?_replicate,if_pos Xd]
theorem be_set(n size i:Nat)(hi:i<size):(zaq (List.replicate (size-i) 0++beB i n)).set (0+(size-1-i)*1) (.int .u8 ((n/256^i%256:Nat):Int))=zaq (List.replicate (size-(i+1)) 0++beB (i+1) n):=by
 have e:size-i=(size-(i+1))+1:=by omega
 have e2:0+(size-1-i)*1=size-(i+1):=by omega
 rw[e,e2,List.replicate_succ',List.append_assoc,jbq,jbq,List.set_append_right _ _ (by simp[zaq])];simp only[zaq,List.length_map,List.length_replicate,Nat.sub_self,List.singleton_append,List.map_cons,List.set_cons_zero,beB];congr 2
 simp
theorem be_zero(n size:Nat):zaq (List.replicate (size-0) 0++beB 0 n)=List.replicate size (.int .u8 0):=by simp[zaq,beB]
theorem Y6q(n size:Nat)(hs:1<=size)(hs8:size<=8)(hn:n<256^size):ydq cfg G 216 0 [.int .u64 (n:Int),.int .i64 (size:Int)] [] λw hp nw=>
  w= .tup [.sl 0 0 0 size 1 none,.int .i64 0]/\hp=[(0,5,.arr (size*1) 1 (zaq (beB size n)))]/\nw=1:=by
 intro R
 have hq:size<8->Nat.shiftRight n (min (8*size) 64)=0:=λh=>by
  rw[show min (8*size) 64=8*size by omega,show Nat.shiftRight n (8*size)=n/2^(8*size) from Nat.shiftRight_eq_div_pow _ _,Nat.pow_mul];exact Nat.div_eq_of_lt hn
 refine gIs 11 O (λk0=>?_);refine gD 0 O (λh1=>?_) (λh1=>?_)
 ·exfalso;omega
 refine gU 2 O ?_;refine gS 4 O (λh2=>?_) (λh2=>?_)
 ·exfalso;omega
 refine gD 3 O (λh3=>?_) (λh3=>?_)
 ·have h8:=hq Xd;refine gA 3 O (8*size) (gU 1 O ?_);refine gS 4 O (λh4=>?_) (λh4=>?_)
  ·skip
   exfalso
   have h4:(0:Int)<(Nat.shiftRight n (min (8*size) 64):Nat):=h4;rw[h8] at h4;omega
  ·refine gM 6 O (mk_slice (l:=size) (c:=size) O O O O O O O O (Nat.le_refl _) (by show 1*size<=_;omega) Xd O O) (zcq 11 O ?_);refine j8q (α:=Nat) (λi=>i<=size) (λi=>[(28,.int .i64 (i:Int))]) [(0,_),(1,_),(4,_),(5,_),(6,_),(27,_)] (λi=>[(0,5,.arr (size*1) 1 (zaq (List.replicate (size-i) 0++beB i n)))]) (λi=>size-i) (0) ⟨rfl,rfl,rfl,rfl,rfl,rfl,trivial⟩ (Nat.zero_le _) ⟨rfl,trivial⟩ (by rw[be_zero];rfl) (λi hI=>?_);refine zEq 6 O ?_;refine gS 0 O (λh5=>?_) (λh5=>?_)
   ·have hi:i<size:=by omega
    exact gA 13 O (size-1) (gA 1 O (size-1-i) (gA 2 O (8*i) (gV (w':=.int .u8 ((n/256^i%256:Nat):Int)) 1 O (congrArg (λn:Nat=>W.int .u8 (n:Int)) (shr_byte n i Xd)) (gP 0 O (yYq (i:=size-1-i) O O O O O O O Xd) (gM 0 O (jKq O O O O O (kSq (be_at n size i hi) O O) (congrArg (λL=>[(0,5,W.arr (size*1) 1 L)]) (be_set n size i hi))) (gA 4 O (i+1) (zcq 2 O (j4q (i+1) (hi) Xd ⟨rfl,trivial⟩ ⟨rfl,rfl,rfl,rfl,rfl,rfl,trivial⟩ rfl))))))))
   ·refine zcq 2 O (qmq Xi (zDq 10 O ?_));have:i=size:=by omega
    subst this;refine fin Qt Ent.refl rfl ⟨rfl,rfl,?_,rfl⟩;rw[Nat.sub_self];rfl
 ·refine gM 17 O (mk_slice (l:=size) (c:=size) O O O O O O O O (Nat.le_refl _) (by show 1*size<=_;omega) Xd O O) (zcq 11 O ?_);refine j8q (α:=Nat) (λi=>i<=size) (λi=>[(28,.int .i64 (i:Int))]) [(0,_),(1,_),(4,_),(5,_),(6,_),(27,_)] (λi=>[(0,5,.arr (size*1) 1 (zaq (List.replicate (size-i) 0++beB i n)))]) (λi=>size-i) (0) ⟨rfl,rfl,rfl,rfl,rfl,rfl,trivial⟩ (Nat.zero_le _) ⟨rfl,trivial⟩ (by rw[be_zero];rfl) (λi hI=>?_);refine zEq 6 O ?_;refine gS 0 O (λh4=>?_) (λh4=>?_)
  ·have hi:i<size:=by omega
   exact gA 13 O (size-1) (gA 1 O (size-1-i) (gA 2 O (8*i) (gV (w':=.int .u8 ((n/256^i%256:Nat):Int)) 1 O (congrArg (λn:Nat=>W.int .u8 (n:Int)) (shr_byte n i Xd)) (gP 0 O (yYq (i:=size-1-i) O O O O O O O Xd) (gM 0 O (jKq O O O O O (kSq (be_at n size i hi) O O) (congrArg (λL=>[(0,5,W.arr (size*1) 1 L)]) (be_set n size i hi))) (gA 4 O (i+1) (zcq 2 O (j4q (i+1) (hi) Xd ⟨rfl,trivial⟩ ⟨rfl,rfl,rfl,rfl,rfl,rfl,trivial⟩ rfl))))))))
  ·refine zcq 2 O (qmq Xi (zDq 10 O ?_));have:i=size:=by omega
   subst this;refine fin Qt Ent.refl rfl ⟨rfl,rfl,?_,rfl⟩;rw[Nat.sub_self];rfl
theorem shl8(n:Nat):(Int.ofNat (Nat.shiftLeft n (min 8 64)))=((256*n:Nat):Int):=by
 rw[show Nat.shiftLeft n (min 8 64)=n*2^8 from Nat.shiftLeft_eq n 8,Nat.mul_comm];rfl
theorem or_low(n c:Nat)(hn:256*n<18446744073709551616)(hc:c<256):Nat.lor (256*n%18446744073709551616) (c%18446744073709551616)=256*n+c:=by
 rw[Nat.mod_eq_of_lt hn,Nat.mod_eq_of_lt Xd];have:=Nat.two_pow_add_eq_or_of_lt (i:=8) (b:=c) Xd n;rw[Nat.mul_comm] at this;rw[show Nat.lor (256*n) c=256*n|||c from rfl,Nat.mul_comm 256 n];rw[Nat.mul_comm] at this;rw[Nat.mul_comm n 256];exact this.symm
theorem pow256_le{i:Nat}(h:i<=8):256^i<=18446744073709551616:=by
 have h':∀i,i<=8->256^i<=18446744073709551616:=by decide
 exact h' i h
theorem numB_take{l:List UInt8}{i:Nat}{c:UInt8}(h:l[i]? =some c):numB (l.take (i+1))=256*numB (l.take i)+c.toNat:=by
 rw[List.take_add_one,h];exact numB_snoc _ _
theorem numB_take_lt{l:List UInt8}{i:Nat}(h:i<=7):256*numB (l.take i)<18446744073709551616:=by
 have h1:=Jlq (l.take i);have h2:256^(l.take i).length<=256^i:=Nat.pow_le_pow_right Xd Xp;have h3:=pow256_le (i:=i+1) Xd;rw[Nat.pow_succ] at h3;omega
theorem kqq(l:List UInt8)(f:Bool)(size:Nat)(hs:1<=size)(hs8:size<=8)(hl:l.length<size):PS cfg G 315 [.fz (zaq l) 1 f,.int .i64 (size:Int)] (.tup [.int .u64 0,.nils,.int .i64 10]):=by
 have e:=zgq l;refine gI 12 O (λR k0=>?_);refine gD 0 O (λh1=>?_) (λh1=>?_)
 ·exfalso;omega
 refine gU 2 O ?_;refine gS 4 O (λh2=>?_) (λh2=>?_)
 ·exfalso;omega
 refine gV (w':=.int .i64 (l.length:Int)) 3 O Xv (gU 1 O ?_);refine gS 3 O (λh3=>?_) (λh3=>?_)
 ·first|exact gQa 10 O|(exfalso;omega)
 ·exfalso;omega
theorem xaq(l:List UInt8)(f:Bool)(size:Nat)(hs:1<=size)(hs8:size<=8)(hl:size<=l.length)(hb:l.length<=70368744177664):PS cfg G 315 [.fz (zaq l) 1 f,.int .i64 (size:Int)] (.tup [.int .u64 (numB (l.take size):Nat),bW (l.drop size),.int .i64 0]):=by
 have e:=zgq l;have el:(l.take size).length=size:=by simp;omega
 refine gI 12 O (λR k0=>?_);refine gD 0 O (λh1=>?_) (λh1=>?_)
 ·exfalso;omega
 refine gU 2 O ?_;refine gS 4 O (λh2=>?_) (λh2=>?_)
 ·exfalso;omega
 refine gV (w':=.int .i64 (l.length:Int)) 3 O Xv (gU 1 O ?_);refine gS 3 O (λh3=>?_) (λh3=>?_)
 ·exfalso;omega
 refine gP 9 O (cut_fz3 (ys:=zaq (l.take size)) (l:=0) (h:=size) (m:=size) O O O O O O O O (Nat.zero_le _) (Nat.le_refl _) Xd hs (by rw[List.drop_zero,Nat.sub_zero,bytesW_take]) rfl) (gV (w':=.int .i64 (size:Int)) 0 O (by show W.int .i64 ((zaq (l.take size)).length:Int)=_;rw[zgq,el]) ?_);refine gLo (α:=Nat) 4 (λi=>i<=size) (λi=>[(26,.int .i64 (i:Int)),(4,.int .u64 (numB (l.take i):Nat))]) [0,1,5,6,24,25] (λi=>size-i) (0) rfl (Nat.zero_le _) (λi hI=>?_);refine gS 6 O (λh4=>?_) (λh4=>?_)
 ·have hi:i<size:=by omega
  obtain⟨c,hc⟩:∃c,l[i]? =some c:=⟨_,List.getElem?_eq_getElem Xd⟩
  have hc2:(l.take size)[i]? =some c:=by rw[List.getElem?_take,if_pos hi];exact hc
  have hcl:=c.toNat_lt;have hn:=numB_take_lt (l:=l) (i:=i) Xd;exact gP 6 O (ymq (i:=i) O O O O O O O (xzq hc2)) (gA 6 O (256*numB (l.take i)) (e:=(shl8 _)) (gA 1 O (c.toNat) (gV (w':=.int .u64 (numB (l.take (i+1)):Nat)) 0 O (congrArg (λn:Nat=>W.int .u64 (n:Int)) ((or_low _ _ hn hcl).trans (numB_take hc).symm)) (gA 5 O (i+1) (gAg 2 O (i+1) (hi) Xd)))))
 ·have:i=size:=by omega
  subst this;exact gO 2 O (gP 7 O (cut_fz (ys:=zaq (l.drop i)) (l:=i) (h:=(zaq l).length) O O O O O O O Xd (Nat.le_refl _) (by rw[List.take_of_length_le Xg,bytesW_drop]) rfl) (gC 0 O (vPq _ _ (by first|assumption|(simp;omega))) (gQa 6 O)))
structure Acct where
 nonce:Nat
 balance:Nat
 deriving DecidableEq
def Acct.ok(a:Acct):Prop:=a.nonce<18446744073709551616/\a.balance<18446744073709551616
def Acct.zero:Acct:=⟨0,0⟩
noncomputable def aW(a:Acct):W:=.agg 2 [.int .u64 (a.nonce:Int),.int .u64 (a.balance:Int)]
@[simp] theorem aW_pur(a:Acct):purW (aW a)=true:=rfl
def kaq(a:Acct):List UInt8:=beB 8 a.nonce++beB 8 a.balance
def jiq(l:List UInt8):Acct×Nat:=if l.length<16 then(.zero,10) else if 16<l.length then(.zero,11) else
 if (⟨numB (l.take 8),numB (l.drop 8)⟩:Acct)= .zero then(.zero,8) else(⟨numB (l.take 8),numB (l.drop 8)⟩,0)
theorem bytesA_len(a:Acct):(kaq a).length=16:=by simp[kaq]
theorem read_bytes(a:Acct)(h:a.ok)(h0:a≠ .zero):jiq (kaq a)=(a,0):=by
 have e1:(kaq a).take 8=beB 8 a.nonce:=List.take_left' Xg;have e2:(kaq a).drop 8=beB 8 a.balance:=List.drop_left' Xg;unfold jiq;rw[bytesA_len,if_neg Xd,if_neg Xd,e1,e2,numB_be,numB_be,Nat.mod_eq_of_lt (by exact h.1),Nat.mod_eq_of_lt (by exact h.2),if_neg h0]
theorem JCq(a b:Acct):eqW cfg 300 169 (aW a) (aW b)=some (decide (a=b)):=by
 have e:decide (a=b)=(decide ((a.nonce:Int)=b.nonce)&&(decide ((a.balance:Int)=b.balance)&&true)):=by
  cases a;cases b
  simp only[Acct.mk.injEq,Bool.and_true];rw[Bool.eq_iff_iff];simp only[decide_eq_true_eq,Bool.and_eq_true];omega
 rw[e];exact YCq O O O O (qAq O O O (QEq O O) (qAq O O O (QEq O O) JDq))
theorem abytes_s(a:Acct)(h:a.ok):PS cfg G 341 [aW a] (bW (kaq a)):=by
 have h1:a.nonce<256^8:=h.1;have h2:a.balance<256^8:=h.2;refine ps_in (fn:=Tryz.f341) O O O (Ob rfl) (λR k0=>?_);have l1:(zaq (beB 8 a.nonce)).length=8:=by rw[zgq,y5q]
 have l2:(zaq (beB 8 a.balance)).length=8:=by rw[zgq,y5q]
 refine zEq 10 O ?_
 ((refine zqq rfl (zSq (ext:=[]) O O O O O (Y6q _ 8 Xd Xd Yj) List.nodup_nil Xg Xg (λi ty w h=>by simp[hget] at h) O ?_);rintro w hp1 nw1 ⟨rfl,rfl,rfl⟩))
 refine zeq 11 O ?_
 ((refine zqq rfl (zSq (ext:=[]) O O O O O (Y6q _ 8 Xd Xd Yj) List.nodup_nil Xg Xg (λi ty w h=>by simp[hget] at h) O ?_);rintro w hp1 nw1 ⟨rfl,rfl,rfl⟩))
 refine zeq 11 O (gM 0 O (yRq O O (qcq (k:=ti5) (len:=8) (news:=zaq (beB 8 a.balance)) (olds:=zaq (beB 8 a.nonce)) O O O O (qfq O O O (uBq (n:=8) (m:=8) l2.symm rfl)) (by intro h;rw[h] at l2;simp at l2) Qj Qj rfl (by show 8*1<0+(8+(zaq (beB 8 a.balance)).length)*1;rw[l2];omega) rfl (uBq (n:=8) (m:=8) l1.symm rfl))) (zcq 4 O ?_));refine y4q (fr2:=[(2,bW (kaq a))]) Qt ⟨⟨_,rfl,.sl (xs:=zaq (kaq a)) rfl Xg ?_ Xi⟩,trivial⟩ O O;rw[kaq,jbq,l2];exact uBq (n:=16) (by rw[List.length_append,l1,l2]) rfl
theorem aread_s(l:List UInt8)(f:Bool)(hb:l.length<=70368744177664):PS cfg G 268 [.fz (zaq l) 1 f] (.tup [aW (jiq l).1,.int .i64 ((jiq l).2:Nat)]):=by
 by_cases q1:l.length<8
 ·have e:jiq l=(.zero,10):=by unfold jiq;rw[if_pos Xd]
  rw[e];exact gI 15 O (λR k0=>gC 0 O (kqq _ _ 8 Xd Xd q1) (gQa 27 O))
 have q2:(l.drop 8).length=l.length-8:=by simp
 by_cases q3:l.length<16
 ·have e:jiq l=(.zero,10):=by unfold jiq;rw[if_pos q3]
  rw[e];refine gI 15 O (λR k0=>?_);first|(first|refine yoq O O O O O O (xaq l _ 8 Xd Xd Xd hb) ?_|refine yoq O O O O O O (kqq (l.drop 8) _ 8 Xd Xd Xd) ?_)|refine yoq O O O O O O (xaq _ _ 8 Xd Xd Xd hb) ?_|refine yoq O O O O O O (kqq _ _ 8 Xd Xd q1) ?_
  refine zeq 23 O ?_;first|(first|refine yoq O O O O O O (xaq l _ 8 Xd Xd Xd hb) ?_|refine yoq O O O O O O (kqq (l.drop 8) _ 8 Xd Xd Xd) ?_)|refine yoq O O O O O O (xaq _ _ 8 Xd Xd Xd hb) ?_|refine yoq O O O O O O (kqq _ _ 8 Xd Xd q1) ?_
  exact zeq 27 O (gQa 0 O)
 have e3:(l.drop 8).drop 8=[]↔l.length=16:=by rw[List.drop_drop,List.drop_eq_nil_iff];omega
 by_cases q4:16<l.length
 ·have e:jiq l=(.zero,11):=by unfold jiq;rw[if_neg q3,if_pos q4]
  have e4:¬(l.drop 8).drop 8=[]:=λh=>by have:=e3.1 h;omega
  rw[e];refine gI 15 O (λR k0=>?_)
  (first|refine yoq O O O O O O (xaq l _ 8 Xd Xd Xd hb) ?_|refine yoq O O O O O O (xaq (l.drop 8) _ 8 Xd Xd Xd Xd) ?_)
  refine zeq 23 O ?_
  (first|refine yoq O O O O O O (xaq l _ 8 Xd Xd Xd hb) ?_|refine yoq O O O O O O (xaq (l.drop 8) _ 8 Xd Xd Xd Xd) ?_)
  exact zeq 24 O (yoq O O O O O O (zXq (w':=.int .i64 11) (end_s _ _) (by rw[if_neg e4])) (op_cz O O (zeq 14 O (gQa 0 O))))
 ·have e4:(l.drop 8).drop 8=[]:=e3.2 Xd;have e5:(l.drop 8).take 8=l.drop 8:=List.take_of_length_le Xd;refine gI 15 O (λR k0=>?_)
  (first|refine yoq O O O O O O (xaq l _ 8 Xd Xd Xd hb) ?_|refine yoq O O O O O O (xaq (l.drop 8) _ 8 Xd Xd Xd Xd) ?_)
  refine zeq 23 O ?_
  (first|refine yoq O O O O O O (xaq l _ 8 Xd Xd Xd hb) ?_|refine yoq O O O O O O (xaq (l.drop 8) _ 8 Xd Xd Xd Xd) ?_)
  refine zeq 24 O (yoq O O O O O O (zXq (w':=.int .i64 0) (end_s _ _) (by rw[if_pos e4])) (op_cz O O (zeq 8 O (gP 0 O (ywq O O O O (JCq ⟨numB (l.take 8),numB ((l.drop 8).take 8)⟩ .zero)) ?_))));refine gS 3 O (λh1=>?_) (λh1=>?_)
  ·refine zcq 10 O ?_
   have e:jiq l=(.zero,8):=by
    rw[e5] at h1;unfold jiq;rw[if_neg q3,if_neg q4,if_pos h1]
   rw[e];exact gQa 0 O
  ·refine zcq 11 O ?_
   have e:jiq l=(⟨numB (l.take 8),numB (l.drop 8)⟩,0):=by
    rw[e5] at h1;unfold jiq;rw[if_neg q3,if_neg q4,if_neg h1]
   rw[e];exact gQ 0 O (by rw[e5];rfl)
end
end
abbrev Pr:=Dig×List UInt8
inductive T where
 |nil
 |leaf (k:Dig) (v:List UInt8)
 |fork (l r:T)
 deriving Inhabited
def T.all:T->List Pr
 |.nil=>[]
 |.leaf k v=>[(k,v)]
 |.fork l r=>l.all++r.all
def T.isFork:T->Bool
 |.fork _ _=>true
 |_=>false
def T.non:T->Bool
 |.nil=>false
 |_=>true
def T.two(l r:T):Bool:=l.isFork||r.isFork||(l.non&&r.non)
def T.ok:Nat->Dig->T->Bool
 |_,_,.nil=>true
 |d,b,.leaf k _=>decide (d<=zMq k b)
 |d,b,.fork l r=>decide (d<256)&&T.ok (d+1) b l&&T.ok (d+1) (qwq b d) r&&T.two l r
def T.find(k:Dig):Nat->T->Option (List UInt8)
 |_,.nil=>none
 |_,.leaf k' v=>if k'=k then some v else none
 |d,.fork l r=>if bitN k d=0 then l.find k (d+1) else r.find k (d+1)
def T.roads(d:Nat):T->T×T
 |.nil=>(.nil,.nil)
 |.leaf k v=>if bitN k d=0 then(.leaf k v,.nil) else(.nil,.leaf k v)
 |.fork l r=>(l,r)
def T.put(k:Dig)(v:List UInt8):Nat->T->T
 |_,.nil=>.leaf k v
 |0,.leaf _ _=>.leaf k v
 |0,.fork l r=>.fork l r
 |f+1,.leaf k' v'=>if k'=k then .leaf k v else
  if bitN k (255-f)=0 then .fork (T.put k v f (T.roads (255-f) (.leaf k' v')).1) (T.roads (255-f) (.leaf k' v')).2
  else .fork (T.roads (255-f) (.leaf k' v')).1 (T.put k v f (T.roads (255-f) (.leaf k' v')).2)
 |f+1,.fork l r=>if bitN k (255-f)=0 then .fork (T.put k v f l) r else .fork l (T.put k v f r)
def T.alone(l r:T):Option T:=
 match l,r with
 |.nil,.nil=>some .nil
 |.nil,.leaf k v=>some (.leaf k v)
 |.leaf k v,.nil=>some (.leaf k v)
 |_,_=>none
def T.join(l r:T):T:=(T.alone l r).getD (.fork l r)
def T.drop(k:Dig):Nat->T->T
 |_,.nil=>.nil
 |_,.leaf _ _=>.nil
 |d,.fork l r=>if bitN k d=0 then T.join (l.drop k (d+1)) r else T.join l (r.drop k (d+1))
def Srt(l:List Pr):Prop:=l.Pairwise λa b=>yHq a.1 b.1=true
def xgq(l:List Pr)(k:Dig)(v:List UInt8):List Pr:=l.filter (λp=>yHq p.1 k)++(k,v)::l.filter (λp=>yHq k p.1)
def j2q(l:List Pr)(k:Dig):List Pr:=l.filter λp=>decide (p.1≠k)
def Qbq(l:List Pr)(k:Dig):Option (List UInt8):=(l.find? λp=>decide (p.1=k)).map (·.2)
theorem findL_none{l:List Pr}{k:Dig}:Qbq l k=none↔∀p∈l,p.1≠k:=by
 simp only[Qbq,Option.map_eq_none_iff,List.find?_eq_none,decide_eq_true_eq]
theorem srt_uniq{l:List Pr}(h:Srt l){p q:Pr}(hp:p∈l)(hq:q∈l)(e:p.1=q.1):p=q:=by
 induction l with
 |nil=>simp at hp
 |cons x l ih=>
  have h:=List.pairwise_cons.1 h;simp only[List.mem_cons] at hp hq;rcases hp with rfl|hp<;>rcases hq with rfl|hq
  ·rfl
  ·exact absurd e (xVq (h.1 q hq))
  ·exact absurd e.symm (xVq (h.1 p hp))
  ·exact ih h.2 hp hq
theorem findL_some{l:List Pr}(h:Srt l){k:Dig}{v:List UInt8}:Qbq l k=some v↔(k,v)∈l:=by
 simp only[Qbq,Option.map_eq_some_iff];constructor
 ·rintro⟨⟨k',v'⟩,h1,rfl⟩;have h2:=List.find?_some h1;have:=List.mem_of_find?_eq_some h1;simp only[decide_eq_true_eq] at h2;subst h2;exact this
 ·intro hm;cases hf:l.find? λp=>decide (p.1=k) with
  |none=>
   have:=List.find?_eq_none.1 hf _ hm;simp at this
  |some p=>
   have h2:=List.find?_some hf;have h3:=List.mem_of_find?_eq_some hf;simp only[decide_eq_true_eq] at h2;have:=srt_uniq h h3 hm h2;exact⟨p,rfl,by rw[this]⟩
theorem mem_withL{l:List Pr}{k:Dig}{v:List UInt8}{p:Pr}:p∈xgq l k v↔p=(k,v)\/(p∈l/\p.1≠k):=by
 simp only[xgq,List.mem_append,List.mem_filter,List.mem_cons];constructor
 ·rintro(⟨h1,h2⟩|rfl|⟨h1,h2⟩)
  ·exact .inr ⟨h1,xVq h2⟩
  ·exact .inl rfl
  ·exact .inr ⟨h1,λe=>xVq h2 e.symm⟩
 ·rintro(rfl|⟨h1,h2⟩)
  ·exact .inr (.inl rfl)
  ·rcases ahead_total h2 with h|h
   ·exact .inl ⟨h1,h⟩
   ·exact .inr (.inr ⟨h1,h⟩)
theorem mem_withoutL{l:List Pr}{k:Dig}{p:Pr}:p∈j2q l k↔p∈l/\p.1≠k:=by simp[j2q]
def Zr(d:Nat)(b:Dig):Prop:=∀j,d<=j->j<256->bitN b j=0
theorem qiq{d:Nat}{b:Dig}(h:Zr d b):Zr (d+1) b:=λj h1 h2=>h j Xd h2
theorem qhq{d:Nat}{b:Dig}(h:Zr d b)(hd:d<256):Zr (d+1) (qwq b d):=λj h1 h2=>by rw[YTq b d j hd h2 Xd];exact h j Xd h2
theorem qQq:Zr 0 yzq:=λj _ hj=>by
 unfold bitN
 have:kn yzq (j/8)=0:=by
  unfold kn yzq;simp only[List.getElem?_replicate];split<;>rfl
 rw[this];simp
theorem QXq{b:Dig}{d:Nat}(hd:d<256){j:Nat}(hj:j<d):bitN (qwq b d) j=bitN b j:=YTq b d j hd Xd Xd
theorem side_l{b k:Dig}{d:Nat}(hz:Zr d b)(hd:d<256)(h:d+1<=zMq k b):d<=zMq k b/\bitN k d=0:=
 ⟨by omega,by rw[(z3q Xd).1 h d Xd];exact hz d (Nat.le_refl _) hd⟩
theorem side_r{b k:Dig}{d:Nat}(hz:Zr d b)(hd:d<256)(h:d+1<=zMq k (qwq b d)):d<=zMq k b/\bitN k d=1:=by
 have h1:=(z3q Xd).1 h;refine⟨(z3q Xd).2 λj hj=>?_,?_⟩
 ·rw[h1 j Xd,QXq hd hj]
 ·rw[h1 d Xd,YUq b d hd,hz d (Nat.le_refl _) hd]
theorem keq{b k:Dig}{d:Nat}(hz:Zr d b)(hd:d<256)(h:d<=zMq k b)(hb:bitN k d=0):d+1<=zMq k b:=by
 refine(z3q Xd).2 λj hj=>?_
 rcases Nat.lt_succ_iff_lt_or_eq.1 hj with hj|rfl
 ·exact(z3q Xd).1 h j hj
 ·rw[hb,hz j (Nat.le_refl _) hd]
theorem kdq{b k:Dig}{d:Nat}(hz:Zr d b)(hd:d<256)(h:d<=zMq k b)(hb:¬bitN k d=0):d+1<=zMq k (qwq b d):=by
 refine(z3q Xd).2 λj hj=>?_
 rcases Nat.lt_succ_iff_lt_or_eq.1 hj with hj|rfl
 ·rw[QXq hd hj];exact(z3q Xd).1 h j hj
 ·rw[YUq b j hd,hz j (Nat.le_refl _) hd];have:=qqq k j;omega
theorem ok_fork{d:Nat}{b:Dig}{l r:T}:T.ok d b (.fork l r)=true↔d<256/\T.ok (d+1) b l=true/\T.ok (d+1) (qwq b d) r=true/\T.two l r=true:=by
 simp only[T.ok,Bool.and_eq_true,decide_eq_true_eq,and_assoc]
theorem xpq:∀{t:T} {d:Nat} {b:Dig},Zr d b->t.ok d b=true->∀p∈t.all,d<=zMq p.1 b
 |.nil,_,_,_,_,p,hp=>by simp[T.all] at hp
 |.leaf k v,d,b,_,h,p,hp=>by
  simp only[T.all,List.mem_singleton] at hp;subst hp;exact of_decide_eq_true h
 |.fork l r,d,b,hz,h,p,hp=>by
  obtain⟨hd,h1,h2,_⟩:=ok_fork.1 h;simp only[T.all,List.mem_append] at hp;rcases hp with hp|hp
  ·exact(side_l hz hd (xpq (qiq hz) h1 p hp)).1
  ·exact(side_r hz hd (xpq (qhq hz hd) h2 p hp)).1
theorem Jjq{l r:T}{d:Nat}{b:Dig}(hz:Zr d b)(h:(T.fork l r).ok d b=true):(∀p∈l.all,bitN p.1 d=0)/\∀p∈r.all,bitN p.1 d=1:=by
 obtain⟨hd,h1,h2,_⟩:=ok_fork.1 h;exact⟨λp hp=>(side_l hz hd (xpq (qiq hz) h1 p hp)).2,λp hp=>(side_r hz hd (xpq (qhq hz hd) h2 p hp)).2⟩
theorem viq{a b c:Dig}{d:Nat}(hd:d<256)(ha:d<=zMq a c)(hb:d<=zMq b c)(h0:bitN a d=0)(h1:bitN b d=1):yHq a b=true:=
 ahead_iff.2 ⟨d,hd,λj hj=>by rw[(z3q Xd).1 ha j hj,(z3q Xd).1 hb j hj],h0,h1⟩
theorem ok_srt:∀{t:T} {d:Nat} {b:Dig},Zr d b->t.ok d b=true->Srt t.all
 |.nil,_,_,_,_=>List.Pairwise.nil
 |.leaf k v,_,_,_,_=>List.pairwise_singleton _ _
 |.fork l r,d,b,hz,h=>by
  obtain⟨hd,h1,h2,_⟩:=ok_fork.1 h;refine List.pairwise_append.2 ⟨ok_srt (qiq hz) h1,ok_srt (qhq hz hd) h2,λp hp q hq=>?_⟩;have a1:=side_l hz hd (xpq (qiq hz) h1 p hp);have a2:=side_r hz hd (xpq (qhq hz hd) h2 q hq);exact viq hd a1.1 a2.1 a1.2 a2.2
theorem xvq(k:Dig):∀{t:T} {d:Nat} {b:Dig},Zr d b->t.ok d b=true->t.find k d=Qbq t.all k
 |.nil,_,_,_,_=>rfl
 |.leaf k' v,_,_,_,_=>by
  simp only[T.find,T.all,Qbq,List.find?_cons,List.find?_nil];by_cases e:k'=k<;>simp[e]
 |.fork l r,d,b,hz,h=>by
  obtain⟨hd,h1,h2,_⟩:=ok_fork.1 h;obtain⟨k1,k2⟩:=Jjq hz h;have i1:=xvq k (qiq hz) h1;have i2:=xvq k (qhq hz hd) h2;simp only[T.find,T.all,Qbq,List.find?_append];simp only[Qbq] at i1 i2;split
  ·rename_i hb
   have:r.all.find? (λp=>decide (p.1=k))=none:=List.find?_eq_none.2 λp hp e=>by
    have:=k2 p hp;rw[of_decide_eq_true e] at this;omega
   rw[this,Option.or_none,i1]
  ·rename_i hb
   have:l.all.find? (λp=>decide (p.1=k))=none:=List.find?_eq_none.2 λp hp e=>by
    have:=k1 p hp;rw[of_decide_eq_true e] at this;omega
   rw[this,Option.none_or,i2]
theorem Jdq(k:Dig)(v:List UInt8):∀(f:Nat) (t:T),(t.put k v f).non=true
 |f,.nil=>by cases f<;>rfl
 |0,.leaf _ _=>rfl
 |0,.fork _ _=>rfl
 |f+1,.leaf k' v'=>by
  simp only[T.put];split
  ·rfl
  ·split<;>rfl
 |f+1,.fork l r=>by
  simp only[T.put];split<;>rfl
theorem put_fork(k:Dig)(v:List UInt8)(f:Nat){t:T}(h:t.isFork=true):(t.put k v f).isFork=true:=by
 cases t with
 |nil=>cases h
 |leaf _ _=>cases h
 |fork l r=>
  cases f with
  |zero=>rfl
  |succ f=>simp only[T.put];split<;>rfl
theorem tput_leaf(k k':Dig)(v v':List UInt8)(f:Nat)(h:k'≠k):((T.leaf k' v').put k v (f+1)).isFork=true:=by
 simp only[T.put,if_neg h];split<;>rfl
theorem two_l{l l' r:T}(h:T.two l r=true)(h1:l.isFork=true->l'.isFork=true)(h2:l'.non=true):T.two l' r=true:=by
 cases l<;>cases l'<;>cases r<;>simp[T.two,T.isFork,T.non] at h h1 h2⊢
theorem two_r{l r r':T}(h:T.two l r=true)(h1:r.isFork=true->r'.isFork=true)(h2:r'.non=true):T.two l r'=true:=by
 cases l<;>cases r<;>cases r'<;>simp[T.two,T.isFork,T.non] at h h1 h2⊢
theorem ZAq{l:List Pr}{p:Pr->Bool}(h:∀x∈l,p x=true):l.filter p=l:=List.filter_eq_self.2 h
theorem u4q{l:List Pr}{p:Pr->Bool}(h:∀x∈l,p x=false):l.filter p=[]:=List.filter_eq_nil_iff.2 λx hx=>by rw[h x hx];exact Bool.false_ne_true
theorem withL_l{l r:List Pr}{k:Dig}(v:List UInt8)(h:∀p∈r,yHq k p.1=true):xgq (l++r) k v=xgq l k v++r:=by
 simp only[xgq,List.filter_append];rw[u4q (l:=r) (p:=λp=>yHq p.1 k) λp hp=>jZq (h p hp),ZAq (l:=r) (p:=λp=>yHq k p.1) h];simp
theorem withL_r{l r:List Pr}{k:Dig}(v:List UInt8)(h:∀p∈l,yHq p.1 k=true):xgq (l++r) k v=l++xgq r k v:=by
 simp only[xgq,List.filter_append];rw[ZAq (l:=l) (p:=λp=>yHq p.1 k) h,u4q (l:=l) (p:=λp=>yHq k p.1) λp hp=>jZq (h p hp)];simp
theorem withL_one(k:Dig)(v v':List UInt8):xgq [(k,v')] k v=[(k,v)]:=by
 simp[xgq,QOq]
theorem jyq(k:Dig)(v:List UInt8):∀(f:Nat) (t:T) {d:Nat} {b:Dig},d+f=256->Zr d b->t.ok d b=true->d<=zMq k b->(t.put k v f).ok d b=true/\(t.put k v f).all=xgq t.all k v
 |f,.nil,d,b,_,hz,h,hk=>by
  cases f<;>exact⟨decide_eq_true hk,by simp[T.put,T.all,xgq]⟩
 |0,.leaf k' v',d,b,hf,hz,h,hk=>by
  have h:=of_decide_eq_true h;have:k'=k:=ZGq λj hj=>by rw[(z3q Xd).1 h j Xd,(z3q Xd).1 hk j Xd]
  subst this;exact⟨decide_eq_true hk,by simp only[T.put,T.all];rw[withL_one]⟩
 |0,.fork l r,d,b,hf,hz,h,hk=>by
  obtain⟨hd,_⟩:=ok_fork.1 h;omega
 | f + 1,.leaf k' v',d,b,hf,hz,h,hk=>by
  have hd:d<256:=by omega
  have ed:255-f=d:=by omega
  have h:=of_decide_eq_true h;simp only[T.put,ed];by_cases e:k'=k
  ·subst e;simp only[if_true];exact⟨decide_eq_true hk,by simp only[T.all];rw[withL_one]⟩
  ·rw [if_neg e];have b1:=qqq k' d;have b2:=qqq k d;by_cases hb:bitN k d=0
   ·rw [if_pos hb];by_cases hb':bitN k' d=0
    ·simp only[T.roads,hb',if_true];have hs:(T.leaf k' v').ok (d+1) b=true:=decide_eq_true (keq hz hd h hb');obtain⟨i1,i2⟩:=jyq k v f (.leaf k' v') (d:=d+1) Xd (qiq hz) hs (keq hz hd hk hb);refine⟨ok_fork.2 ⟨hd,i1,rfl,?_⟩,by simp only[T.all,List.append_nil];exact i2⟩;cases f with
     |zero=>
      exfalso
      refine e (ZGq λj hj=>?_);rcases Nat.lt_or_ge j d with h1|h1
      ·rw[(z3q Xd).1 h j h1,(z3q Xd).1 hk j h1]
      ·have:j=d:=by omega
       rw[this,hb,hb']
     |succ f=>simp only[T.two,tput_leaf k k' v v' f e,Bool.true_or]
    ·simp only[T.roads,hb',if_false];obtain⟨i1,i2⟩:=jyq k v f .nil (d:=d+1) Xd (qiq hz) rfl (keq hz hd hk hb);refine⟨ok_fork.2 ⟨hd,i1,decide_eq_true (kdq hz hd h hb'),?_⟩,?_⟩
     ·rw[show T.put k v f .nil= .leaf k v by cases f<;>rfl];rfl
     ·simp only[T.all];have ha:yHq k k'=true:=viq hd hk h hb Xd;have e0:(T.put k v f .nil).all=[(k,v)]:=by cases f<;>rfl
      rw[e0];simp[xgq,ha,jZq ha]
   ·rw [if_neg hb];by_cases hb':bitN k' d=0
    ·simp only[T.roads,hb',if_true];obtain⟨i1,i2⟩:=jyq k v f .nil (d:=d+1) Xd (qhq hz hd) rfl (kdq hz hd hk hb);refine⟨ok_fork.2 ⟨hd,decide_eq_true (keq hz hd h hb'),i1,?_⟩,?_⟩
     ·rw[show T.put k v f .nil= .leaf k v by cases f<;>rfl];rfl
     ·simp only[T.all];have ha:yHq k' k=true:=viq hd h hk hb' Xd;have e0:(T.put k v f .nil).all=[(k,v)]:=by cases f<;>rfl
      rw[e0];simp[xgq,ha,jZq ha]
    ·simp only[T.roads,hb',if_false];have hs:(T.leaf k' v').ok (d+1) (qwq b d)=true:=decide_eq_true (kdq hz hd h hb');obtain⟨i1,i2⟩:=jyq k v f (.leaf k' v') (d:=d+1) Xd (qhq hz hd) hs (kdq hz hd hk hb);refine⟨ok_fork.2 ⟨hd,rfl,i1,?_⟩,by simp only[T.all,List.nil_append];exact i2⟩;cases f with
     |zero=>
      exfalso
      refine e (ZGq λj hj=>?_);rcases Nat.lt_or_ge j d with h1|h1
      ·rw[(z3q Xd).1 h j h1,(z3q Xd).1 hk j h1]
      ·have:j=d:=by omega
       rw[this];omega
     |succ f=>simp only[T.two,tput_leaf k k' v v' f e,Bool.true_or,Bool.or_true]
 |f+1,.fork l r,d,b,hf,hz,h,hk=>by
  have hd:d<256:=by omega
  have ed:255-f=d:=by omega
  obtain⟨_,h1,h2,h3⟩:=ok_fork.1 h;obtain⟨k1,k2⟩:=Jjq hz h;simp only[T.put,ed];have b2:=qqq k d;split
  ·rename_i hb;obtain⟨i1,i2⟩:=jyq k v f l (d:=d+1) Xd (qiq hz) h1 (keq hz hd hk hb);refine⟨ok_fork.2 ⟨hd,i1,h2,two_l h3 (put_fork k v f) (Jdq k v f l)⟩,?_⟩;simp only[T.all,i2];exact(withL_l v λp hp=>viq hd hk (side_r hz hd (xpq (qhq hz hd) h2 p hp)).1 hb (k2 p hp)).symm
  ·rename_i hb;obtain⟨i1,i2⟩:=jyq k v f r (d:=d+1) Xd (qhq hz hd) h2 (kdq hz hd hk hb);refine⟨ok_fork.2 ⟨hd,h1,i1,two_r h3 (put_fork k v f) (Jdq k v f r)⟩,?_⟩;simp only[T.all,i2];exact(withL_r v λp hp=>viq hd (side_l hz hd (xpq (qiq hz) h1 p hp)).1 hk (k1 p hp) Xd).symm
theorem join_all(l r:T):(T.join l r).all=l.all++r.all:=by
 cases l<;>cases r<;>simp[T.join,T.alone,T.all]
theorem ok_up{t:T}{d:Nat}{b:Dig}(h:t.ok (d+1) b=true)(hf:t.isFork=false):t.ok d b=true:=by
 cases t with
 |nil=>rfl
 |leaf k v=>exact decide_eq_true (by have:=of_decide_eq_true h;omega)
 |fork l r=>cases hf
theorem ok_upr{t:T}{d:Nat}{b:Dig}(hd:d<256)(h:t.ok (d+1) (qwq b d)=true)(hf:t.isFork=false):t.ok d b=true:=by
 cases t with
 |nil=>rfl
 |leaf k v=>
  have h:=of_decide_eq_true h;refine decide_eq_true ((z3q Xd).2 λj hj=>?_);rw[(z3q Xd).1 h j Xd,QXq hd hj]
 |fork l r=>cases hf
theorem join_ok{l r:T}{d:Nat}{b:Dig}(hd:d<256)(h1:l.ok (d+1) b=true)(h2:r.ok (d+1) (qwq b d)=true):(T.join l r).ok d b=true:=by
 cases l<;>cases r<;>simp only[T.join,T.alone,Option.getD_some,Option.getD_none]
 ·rfl
 ·exact ok_upr hd h2 rfl
 ·exact ok_fork.2 ⟨hd,h1,h2,rfl⟩
 ·exact ok_up h1 rfl
 ·exact ok_fork.2 ⟨hd,h1,h2,rfl⟩
 ·exact ok_fork.2 ⟨hd,h1,h2,rfl⟩
 ·exact ok_fork.2 ⟨hd,h1,h2,rfl⟩
 ·exact ok_fork.2 ⟨hd,h1,h2,rfl⟩
 ·exact ok_fork.2 ⟨hd,h1,h2,rfl⟩
theorem kCq{l:List Pr}{k:Dig}(h:∀p∈l,p.1≠k):j2q l k=l:=List.filter_eq_self.2 λp hp=>decide_eq_true (h p hp)
theorem u8q(k:Dig):∀(t:T) {d:Nat} {b:Dig},Zr d b->t.ok d b=true->(t.find k d).isSome=true->(t.drop k d).ok d b=true/\(t.drop k d).all=j2q t.all k
 |.nil,d,b,_,_,h=>by simp[T.find] at h
 |.leaf k' v,d,b,_,_,h=>by
  simp only[T.find] at h;split at h
  ·rename_i e;subst e
   exact⟨rfl,by simp[T.drop,T.all,j2q]⟩
  ·cases h
 |.fork l r,d,b,hz,h,hs=>by
  obtain⟨hd,h1,h2,h3⟩:=ok_fork.1 h;obtain⟨k1,k2⟩:=Jjq hz h;simp only[T.find] at hs;simp only[T.drop,T.all,j2q,List.filter_append];split
  ·rename_i hb;rw[if_pos hb] at hs;obtain⟨i1,i2⟩:=u8q k l (qiq hz) h1 hs;refine⟨join_ok hd i1 h2,?_⟩;rw[join_all,i2];congr 1
   exact(kCq λp hp e=>by have:=k2 p hp;rw[e] at this;omega).symm
  ·rename_i hb;rw[if_neg hb] at hs;obtain⟨i1,i2⟩:=u8q k r (qhq hz hd) h2 hs;refine⟨join_ok hd h1 i1,?_⟩;rw[join_all,i2];congr 1
   exact(kCq λp hp e=>by have:=k1 p hp;rw[e] at this;omega).symm
section
open Go.RowKit
section
attribute [local irreducible] CoW OpW FlW Step Spec
variable {G:Nat->Option W}
noncomputable def pW(x:Pr):W:=.agg 33 [dW x.1,bW x.2]
@[simp] theorem pW_pur(x:Pr):purW (pW x)=true:=by simp[pW]
structure Node where
 leaf:Bool
 key:Dig
 val:List UInt8
 left:Int
 right:Int
noncomputable def nW(x:Node):W:=.agg 36 [.bool x.leaf,dW x.key,bW x.val,.int .i64 x.left,.int .i64 x.right]
@[simp] theorem nW_pur(x:Node):purW (nW x)=true:=by simp[nW]
def forkN(l r:Int):Node:=⟨false,yzq,[],l,r⟩
theorem tbit_s(k:Dig)(d:Nat)(h:d<256):PS cfg G 196 [dW k,.int .i64 (d:Int)] (.int .u8 (bitN k d:Nat)):=by
 refine gI 10 O (λR k0=>gC 0 O (bit_in _ _ Xd) ?_);first|exact gQa 14 O|(exfalso;omega)
theorem q6q(x:Node):PS cfg G 195 [nW x] (.arr 2 1 [.int .i64 x.left,.int .i64 x.right]):=by
 refine gI 17 O (λR k0=>?_);first|exact gQa 0 O|(exfalso;omega)
theorem q4q(l r:Int):PS cfg G 313 [.arr 2 1 [.int .i64 l,.int .i64 r]] (nW (forkN l r)):=by
 refine gIv 8 O (λR k0=>?_);refine gX 0 O ?_;refine gX 1 O ?_;refine zcq 6 O ?_;refine k2q Xy O ?_
 (repeat (first|exact .nil|refine .cons ?_ ?_|exact y8q|exact .nilfz|refine .fn ?_ ?_|(refine yxq O ?_ rfl;(first|rfl|(focus (simp;done))))|(refine .sl O ?_ rfl Xi;(first|rfl|(focus (simp;done))))|(refine .pur ?_;(first|rfl|(focus (simp;done))))|(refine .fzw ?_;(first|rfl|(focus (simp;done))))|refine .agg ?_|refine .arr ?_|refine .tup ?_))
def valB(l:List UInt8):Bool:=decide (0<l.length)&&decide (l.length<=64)
theorem value_s(l:List UInt8)(f:Bool):PS cfg G 262 [.fz (zaq l) 1 f] (.bool (valB l)):=by
 have e:=zgq l;refine gI 8 O (λR k0=>gV (w':=.int .i64 (l.length:Int)) 0 O Xv ?_);refine gD 0 O (λh1=>?_) (λh1=>?_)
 ·refine gV (w':=.int .i64 (l.length:Int)) 2 O Xv (gU 0 O (zcq 5 O ?_));have h0:0<l.length:=by omega
  exact gQ 0 O (by unfold valB;congr 1;rw[decide_eq_true h0,Bool.true_and,decide_eq_decide];omega)
 ·refine zcq 9 O ?_;have h0:¬0<l.length:=by omega
  exact gQ 0 O (by unfold valB;rw[decide_eq_false h0];rfl)
def okAt(ps:List Pr)(i:Nat):Prop:=∀x,ps[i]? =some x->valB x.2=true/\∀y,0<i->ps[i-1]? =some y->yHq y.1 x.1=true
def MayP(ps:List Pr):Prop:=ps.length<=512/\∀i,i<ps.length->okAt ps i
noncomputable instance(ps:List Pr):Decidable (MayP ps):=Classical.propDecidable _
theorem Yaq(ps:List Pr):purL (ps.map pW)=true:=yAq pW_pur ps
@[simp] theorem psW_pur'(ps:List Pr):purL (ps.map pW)=true:=Yaq ps
theorem Zpq(ps:List Pr)(f:Bool)(hb:ps.length<=9223372036854775807):PS cfg G 193 [.fz (ps.map pW) 33 f] (.int .i64 (if MayP ps then 0 else 8)):=by
 have e:(ps.map pW).length=ps.length:=List.length_map _;refine gI 9 O (λR k0=>gV (w':=.int .i64 (ps.length:Int)) 0 O Xv ?_);refine gS 3 O (λh1=>?_) (λh1=>?_)
 ·exact gQ 7 O (by rw[if_neg λh:MayP ps=>by have:=h.1;omega])
 ·refine gV (w':=.int .i64 (ps.length:Int)) 6 O Xv ?_;refine gLo (α:=Nat) 4 (λi=>i<=ps.length/\∀j,j<i->okAt ps j) (λi=>[(10,.int .i64 (i:Int))]) [0,2,8,9] (λi=>ps.length-i) (0) rfl (⟨Nat.zero_le _,λj hj=>by omega⟩) (λi hI=>?_);obtain⟨hi,hI⟩:=hI;refine gS 6 O (λh2=>?_) (λh2=>?_)
  ·have hi':i<ps.length:=by omega
   obtain⟨x,hx⟩:∃x,ps[i]? =some x:=⟨_,List.getElem?_eq_getElem hi'⟩
   refine gP 7 O (ymq (i:=i) O O O O O O O (zKq pW hx)) (gC 10 O (value_s _ _) ?_);refine gB 0 O (λh3=>?_) (λh3=>?_)
   ·refine gD 3 O (λh4=>?_) (λh4=>?_)
    ·refine gA 3 O (i-1) ?_;refine gP 0 O (ymq (i:=i-1) O O O O O O O (zKq pW (List.getElem?_eq_getElem Xd))) ?_;refine gC 4 O (ahead_s _ _) ?_;refine gS 5 O (λh5=>?_) (λh5=>?_)
     ·refine gO 8 O (zcq 2 O ?_)
      have no:¬MayP ps:=λh=>by
       have:=(h.2 i hi' x hx).2 _ Xd (List.getElem?_eq_getElem Xd);rw[this] at h5;simp at h5
      exact gQ 0 O (by rw[if_neg no])
     ·have ok:okAt ps i:=λx' hx'=>by
       obtain rfl:=Option.some.inj (hx.symm.trans hx');refine⟨h3,λy h0 hy=>?_⟩;obtain rfl:=Option.some.inj ((List.getElem?_eq_getElem (show i-1<ps.length by omega)).symm.trans hy);simpa using h5
      refine gA 4 O (i+1) ?_;exact gAg 2 O (i+1) (⟨hi',λj hj=>by rcases Nat.lt_succ_iff_lt_or_eq.1 hj with h|rfl<;>first|exact hI j h|exact ok⟩) Xd
    ·have ok:okAt ps i:=λx' hx'=>by
      obtain rfl:=Option.some.inj (hx.symm.trans hx');exact⟨h3,λy h0 hy=>by omega⟩
     refine gA 20 O (i+1) ?_;exact gAg 2 O (i+1) (⟨hi',λj hj=>by rcases Nat.lt_succ_iff_lt_or_eq.1 hj with h|rfl<;>first|exact hI j h|exact ok⟩) Xd
   ·exact gO 28 O (gQ 2 O (by rw[if_neg λh:MayP ps=>h3 (h.2 i hi' x hx).1]))
  ·refine gO 2 O (zcq 8 O ?_);have yes:MayP ps:=⟨by omega,λj hj=>hI j Xd⟩;exact gQ 0 O Yp
def oneB(x:Node)(n:Nat):Prop:=if x.leaf then x.left=0/\x.right=0/\MayP [(x.key,x.val)] else(0<=x.left/\x.left<=n)/\(0<=x.right/\x.right<=n)/\x.key=yzq/\x.val=[]/\0<x.left+x.right
noncomputable instance(x:Node)(n:Nat):Decidable (oneB x n):=Classical.propDecidable _
theorem one_s(x:Node)(n:Nat)(hn:n<=4611686018427387903):PS cfg G 132 [nW x,.int .i64 (n:Int)] (.bool (decide (oneB x n))):=by
 refine gI 13 O (λR k0=>?_);refine gS 0 O (λh1=>?_) (λh1=>?_)
 ·refine gD 4 O (λh2=>?_) (λh2=>?_)
  ·refine gD 3 O (λh3=>?_) (λh3=>?_)
   ·refine zcq 8 O ?_;refine xYq O O O O O (by(repeat (first|exact .nil|refine .cons ?_ ?_|(refine .sl O ?_ rfl Xi;first|rfl|(focus (simp;done)))|(refine yxq O ?_ rfl;first|rfl|(focus (simp;done)))|(refine .pur ?_;first|rfl|(focus (simp;done)))))) (Zpq [(x.key,x.val)] false Xg) Xk Xk ?_;refine op_cz O O ?_;refine zeq 6 O ?_;refine gQ 0 O ?_;congr 1
    rw[decide_eq_decide,oneB,if_pos h1];split
    ·rename_i h;exact⟨λ_=>⟨h2,h3,h⟩,λ_=>rfl⟩
    ·rename_i h;exact⟨λh=>by omega,λq=>absurd q.2.2 h⟩
   ·exact gQ 16 O (by rw[decide_eq_false];intro h;rw[oneB,if_pos h1] at h;exact h3 h.2.1)
  ·exact gQ 20 O (by rw[decide_eq_false];intro h;rw[oneB,if_pos h1] at h;exact h2 h.1)
 ·refine gC 6 O (q6q _) ?_;refine gLo (α:=Nat) 4 (λi=>i<=2/\(0<i->0<=x.left/\x.left<=n)/\(1<i->0<=x.right/\x.right<=n)) (λi=>[(29,.int .i64 (i:Int))]) [1,2,4,28] (λi=>2-i) (0) rfl (⟨by omega,by omega,by omega⟩) (λi hI=>?_);obtain⟨hi,hl,hr⟩:=hI;refine gS 6 O (λh2=>?_) (λh2=>?_)
  ·have hi':i=0\/i=1:=by omega
   rcases hi' with rfl|rfl
   ·skip
    refine gD 13 O (λh3=>?_) (λh3=>?_)
    ·refine gO 16 O ?_;exact gQ 2 O Yn
    ·refine gU 3 O ?_;refine gS 3 O (λh4=>?_) (λh4=>?_)
     ·refine gO 8 O ?_;exact gQ 2 O Yn
     ·refine gA 4 O (1) ?_;exact gAg 2 O (1) (⟨by omega,by omega,by omega⟩) Xd
   ·refine gD 13 O (λh3=>?_) (λh3=>?_)
    ·refine gO 16 O ?_;exact gQ 2 O Yn
    ·refine gU 3 O ?_;refine gS 3 O (λh4=>?_) (λh4=>?_)
     ·refine gO 8 O ?_;exact gQ 2 O Yn
     ·refine gA 4 O (2) ?_;exact gAg 2 O (2) (⟨by omega,by omega,by omega⟩) Xd
  ·have e:=zgq x.val;have hl:=hl Xd;have hr:=hr Xd;have key:oneB x n↔(x.key=yzq/\x.val=[]/\0<x.left+x.right):=by rw[oneB,if_neg h1];exact⟨λh=>h.2.2,λh=>⟨hl,hr,h⟩⟩
   rw[show decide (oneB x n)=decide (x.key=yzq/\x.val=[]/\0<x.left+x.right) from decide_eq_decide.2 key];refine gO 2 O ?_;refine gV 6 O qJq ?_;refine gDe 0 O (ywq O O O O (yGq O O O O O O _ _ 250)) ybq (λh3=>?_) (λh3=>?_)
   ·refine gV (w':=.int .i64 (x.val.length:Int)) 3 O Xv ?_;refine gD 0 O (λh4=>?_) (λh4=>?_)
    ·have hv:x.val=[]:=List.eq_nil_of_length_eq_zero Xd;refine gWr 6 O ?_;refine gU 0 O ?_;refine gQ 5 O ?_;congr 1
     rw[decide_eq_decide];exact⟨λh=>⟨h3,hv,h⟩,λh=>h.2.2⟩
    ·have hv:x.val≠[]:=λh=>h4 (by rw[h];rfl)
     exact gQ 13 O (by rw[decide_eq_false λh=>hv h.2.1])
   ·exact gQ 18 O (by rw[decide_eq_false λh=>h3 h.1])
inductive Rep(ns:List Node):Nat->T->Prop where
 |nil:Rep ns 0 .nil
 |leaf {n:Nat} {k:Dig} {v:List UInt8} {l r:Int} (h:ns[n]? =some ⟨true,k,v,l,r⟩):Rep ns (n+1) (.leaf k v)
 |fork {n l r:Nat} {k:Dig} {v:List UInt8} {L R:T} (h:ns[n]? =some ⟨false,k,v,l,r⟩) (hl:l<=n) (hr:r<=n) (hL:Rep ns l L) (hR:Rep ns r R):Rep ns (n+1) (.fork L R)
theorem Rep.le{ns:List Node}{n:Nat}{t:T}(h:Rep ns n t):n<=ns.length:=by
 cases h with
 |nil=>exact Nat.zero_le _
 |leaf h=>exact(List.getElem?_eq_some_iff.1 h).1
 |fork h=>exact(List.getElem?_eq_some_iff.1 h).1
theorem Rep.non{ns:List Node}{n:Nat}{t:T}(h:Rep ns n t):t.non=decide (0<n):=by cases h<;>simp[T.non]
theorem Rep.app{ns:List Node}(ms:List Node){n:Nat}{t:T}(h:Rep ns n t):Rep (ns++ms) n t:=by
 have key:∀{i:Nat} {x:Node},ns[i]? =some x->(ns++ms)[i]? =some x:=λ{i x} h=>by rw[List.getElem?_append_left (List.getElem?_eq_some_iff.1 h).1];exact h
 induction h with
 |nil=>exact .nil
 |leaf h=>exact .leaf (key h)
 |fork h hl hr _ _ i1 i2=>exact .fork (key h) hl hr i1 i2
structure Tree where
 nodes:List Node
 root:Int
noncomputable def tW(t:Tree):W:=.agg 2 [.fz (t.nodes.map nW) 36 false,.int .i64 t.root]
theorem vBq(ns:List Node):purL (ns.map nW)=true:=yAq nW_pur ns
@[simp] theorem y0q(t:Tree):purW (tW t)=true:=by simp[tW,vBq]
def nnI(t:T):Int:=if t.non then 1 else 0
theorem right_s(t0:Tree)(hb:t0.nodes.length<=4611686018427387903):∀(t:T) (n d:Nat) (b:Dig),Rep t0.nodes n t->d<=256->PS cfg G 133 [tW t0,.int .i64 (n:Int),.int .i64 (d:Int),dW b] (.tup [.bool (t.ok d b),.bool (t.ok d b&&t.isFork)]):=by
 intro t;induction t with
 |nil=>
  intro n d b hr hd;obtain rfl:n=0:=by cases hr;rfl
  refine gI 15 O (λR k0=>?_);refine gS 0 O (λh1=>?_) (λh1=>?_)
  ·exact gQa 8 O
  ·exfalso;omega
 |leaf k v=>
  intro n d b hr hd;have hle:=hr.le;cases hr with
  |leaf h=>
  rename_i n l r;refine gI 15 O (λR k0=>?_);refine gS 0 O (λh1=>?_) (λh1=>?_)
  ·exfalso;omega
  ·refine gA 7 O (n) ?_;refine gP 0 O (ymq (i:=n) O O O O O O O (zKq nW h)) ?_;refine gC 18 O (shared_s _ _) ?_;refine gU 1 O ?_;refine gQ 6 O ?_;simp only[T.ok,T.isFork,Bool.and_false];congr 3
   rw[decide_eq_decide];omega
 | fork tl tr ihL ihR=>
  intro n d b hr hd;have hle:=hr.le;cases hr with
  |fork h hl hr hL hR=>
  rename_i n l r k v;refine gI 15 O (λR k0=>?_);refine gS 0 O (λh1=>?_) (λh1=>?_)
  ·exfalso;omega
  ·refine gA 7 O (n) ?_;refine gP 0 O (ymq (i:=n) O O O O O O O (zKq nW h)) ?_;refine gS 22 O (λh2=>?_) (λh2=>?_)
   ·refine zcq 8 O ?_;have e:T.ok d b (.fork tl tr)=false:=by simp only[T.ok];rw[decide_eq_false Xd];rfl
    rw[e];exact gQa 0 O
   ·have hd':d<256:=by omega
    have nl:=hL.non;have nr:=hR.non;refine gC 6 O (turn_in _ _ Xd) ?_;refine gV (w':=.arr 64 32 [dW b,dW (qwq b d)]) 18 O O ?_;refine gLo (α:=Nat×Int×Bool) 4 (λp=>(p.1=0/\p.2.1=0/\p.2.2=false)\/(p.1=1/\tl.ok (d+1) b=true/\p.2.1=nnI tl/\p.2.2=tl.isFork)\/(p.1=2/\tl.ok (d+1) b=true/\tr.ok (d+1) (qwq b d)=true/\p.2.1=nnI tl+nnI tr/\p.2.2=(tl.isFork||tr.isFork))) (λp=>[(46,.int .i64 (p.1:Int)),(13,.int .i64 p.2.1),(9,.bool p.2.2)]) [2,4,8,10,45] (λp=>2-p.1) ((0,0,false)) rfl (.inl ⟨rfl,rfl,rfl⟩) (λp hI=>?_);obtain⟨i,c,w⟩:=p;simp only at hI⊢;rcases hI with ⟨rfl,rfl,rfl⟩|⟨rfl,k1,rfl,rfl⟩|⟨rfl,k1,k2,rfl,rfl⟩
    ·skip
     skip
     refine gC 23 O (q6q _) ?_;refine gA 10 O (d+1) ?_;refine gC 1 O (ihL _ (d+1) b hL Xd) ?_;refine gS 14 O (λh3=>?_) (λh3=>?_)
     ·refine gO 10 O ?_;refine zcq 2 O ?_;have e:T.ok d b (.fork tl tr)=false:=by simp only[T.ok];rw[show tl.ok (d+1) b=false by simpa using h3];simp
      rw[e];exact gQa 0 O
     ·have hk:tl.ok (d+1) b=true:=by simpa using h3
      refine gS 9 O (λh4=>?_) (λh4=>?_)
      ·have hn:nnI tl=1:=by have h4:(0:Int)<l:=h4;unfold nnI;rw[nl,if_pos (decide_eq_true Xd)]
       refine gWr 2 O ?_;refine gA 13 O (1) ?_;exact gAg 2 O ((1,1,tl.ok (d+1) b&&tl.isFork)) (.inr (.inl ⟨rfl,hk,hn.symm,by rw[hk];rfl⟩)) Xg
      ·have hn:nnI tl=0:=by have h4:¬(0:Int)<l:=h4;unfold nnI;rw[nl,if_neg Xp]
       refine gA 12 O (1) ?_;exact gAg 2 O ((1,0,tl.ok (d+1) b&&tl.isFork)) (.inr (.inl ⟨rfl,hk,hn.symm,by rw[hk];rfl⟩)) Xg
    ·skip
     have bd:nnI tl=0\/nnI tl=1:=by unfold nnI;split<;>simp
     cases hf:tl.isFork with
     |true=>
      skip
      refine zEq 23 O ?_;refine gC 0 O (q6q _) ?_;refine gA 10 O (d+1) ?_;refine gC 1 O (ihR _ (d+1) (qwq b d) hR Xd) ?_;refine gS 14 O (λh3=>?_) (λh3=>?_)
      ·refine gO 10 O ?_;refine zcq 2 O ?_;have e:T.ok d b (.fork tl tr)=false:=by simp only[T.ok];rw[show tr.ok (d+1) (qwq b d)=false by simpa using h3];simp
       rw[e];exact gQa 0 O
      ·have hk:tr.ok (d+1) (qwq b d)=true:=by simpa using h3
       refine gS 9 O (λh4=>?_) (λh4=>?_)
       ·have hn:nnI tr=1:=by have h4:(0:Int)<r:=h4;unfold nnI;rw[nr,if_pos (decide_eq_true Xd)]
        refine gWr 2 O ?_;refine gA 13 O (2) ?_;exact gAg 2 O ((2,nnI tl+1,true)) (.inr (.inr ⟨rfl,k1,hk,by simp only[hn],rfl⟩)) Xg
       ·have hn:nnI tr=0:=by have h4:¬(0:Int)<r:=h4;unfold nnI;rw[nr,if_neg Xp]
        refine gA 12 O (2) ?_;exact gAg 2 O ((2,nnI tl,true)) (.inr (.inr ⟨rfl,k1,hk,by simp only[hn,Int.add_zero],rfl⟩)) Xg
     |false=>
      skip
      refine zEq 23 O ?_;refine gC 0 O (q6q _) ?_;refine gA 10 O (d+1) ?_;refine gC 1 O (ihR _ (d+1) (qwq b d) hR Xd) ?_;refine gS 14 O (λh3=>?_) (λh3=>?_)
      ·refine gO 10 O ?_;refine zcq 2 O ?_;have e:T.ok d b (.fork tl tr)=false:=by simp only[T.ok];rw[show tr.ok (d+1) (qwq b d)=false by simpa using h3];simp
       rw[e];exact gQa 0 O
      ·have hk:tr.ok (d+1) (qwq b d)=true:=by simpa using h3
       refine gS 9 O (λh4=>?_) (λh4=>?_)
       ·have hn:nnI tr=1:=by have h4:(0:Int)<r:=h4;unfold nnI;rw[nr,if_pos (decide_eq_true Xd)]
        refine gWr 2 O ?_;refine gA 13 O (2) ?_;exact gAg 2 O ((2,nnI tl+1,tr.ok (d+1) (qwq b d)&&tr.isFork)) (.inr (.inr ⟨rfl,k1,hk,by simp only[hn],by simp[hk]⟩)) Xg
       ·have hn:nnI tr=0:=by have h4:¬(0:Int)<r:=h4;unfold nnI;rw[nr,if_neg Xp]
        refine gA 12 O (2) ?_;exact gAg 2 O ((2,nnI tl,tr.ok (d+1) (qwq b d)&&tr.isFork)) (.inr (.inr ⟨rfl,k1,hk,by simp only[hn,Int.add_zero],by simp[hk]⟩)) Xg
    ·have e:T.ok d b (.fork tl tr)=T.two tl tr:=by simp only[T.ok];rw[decide_eq_true hd',k1,k2];rfl
     have e2:(T.fork tl tr).isFork=true:=rfl;rw[e,e2,Bool.and_true]
     have e3:T.two tl tr=((tl.isFork||tr.isFork)||decide (nnI tl+nnI tr=2)):=by
      unfold T.two nnI;congr 1
      cases tl.non<;>cases tr.non<;>rfl
     rw[e3];cases hw:(tl.isFork||tr.isFork) with
     |true=>
      skip
      refine zEq 9 O ?_;refine gO 0 O ?_;exact gQa 21 O
     |false=>
      skip
      refine zEq 9 O ?_;refine gO 0 O ?_;refine gU 7 O ?_;exact gQ 13 O Xg
end
theorem fit_node{w:W}(h:Fit (.st 36 [.bool,.arr 32 1 (.int .u8),.sl 1 1 (.int .u8),.int .i64,.int .i64]) w):∃x:Node,w=nW x/\x.val.length<=140737488351232:=by
 obtain⟨l,rfl,w1,l1,rfl,h1,w2,l2,rfl,h2,w3,l3,rfl,h3,w4,l4,rfl,h4,w5,l5,rfl,h5,rfl⟩:=h;obtain⟨b,rfl⟩:=fit_bool h1;obtain⟨k,rfl⟩:=fit_dig h2;obtain⟨v,rfl,hv⟩:=fit_bW h3;obtain⟨i,rfl,_⟩:=fit_i64 h4;obtain⟨j,rfl,_⟩:=fit_i64 h5;exact⟨⟨b,k,v,i,j⟩,rfl,by simpa using hv⟩
theorem fit_tree{w:W}(h:Fit (.st 2 [.sl 36 80 (.st 36 [.bool,.arr 32 1 (.int .u8),.sl 1 1 (.int .u8),.int .i64,.int .i64]),.int .i64]) w):∃t:Tree,w=tW t/\t.nodes.length*80<=140737488351232/\(∀x∈t.nodes,x.val.length<=140737488351232)/\t.root<=9223372036854775807:=by
 obtain⟨l,rfl,w1,l1,rfl,h1,w2,l2,rfl,h2,rfl⟩:=h;obtain⟨ns,rfl,hl,hn⟩:=fit_sl h1 λx hx=>fit_node hx
 obtain⟨r,rfl,_,hr⟩:=fit_i64 h2;exact⟨⟨ns,r⟩,rfl,hl,hn,hr⟩
mutual
theorem Z3q{τ:Nat->Nat}{b:Nat}(h:∀i,i<b->τ i=i):∀{w:W},refB b w=true->renW τ w=w
 |.ptr c o,hw=>by simp only[renW];rw[h c (of_decide_eq_true hw)]
 |.sl c _ _ _ _ _,hw=>by simp only[renW];rw[h c (of_decide_eq_true hw)]
 |.fz l _ _,hw=>by simp only[renW];rw[kOq h (l:=l) hw]
 |.fel x,hw=>by simp only[renW];rw[Z3q h (w:=x) hw]
 |.fn _ a c,hw=>by
  simp only[refB,Bool.and_eq_true] at hw;simp only[renW];rw[kOq h (l:=a) hw.1,kOq h (l:=c) hw.2]
 |.iface _ v,hw=>by simp only[renW];rw[Z3q h (w:=v) hw]
 |.agg _ l,hw=>by simp only[renW];rw[kOq h (l:=l) hw]
 |.arr _ _ l,hw=>by simp only[renW];rw[kOq h (l:=l) hw]
 |.tup l,hw=>by simp only[renW];rw[kOq h (l:=l) hw]
 |.undef,_=>rfl
 |.bool _,_=>rfl
 |.int _ _,_=>rfl
 |.str _,_=>rfl
 |.nilp,_=>rfl
 |.nils,_=>rfl
 |.nilm,_=>rfl
 |.yield _,_=>rfl
 |.nilf,_=>rfl
 |.nili,_=>rfl
theorem kOq{τ:Nat->Nat}{b:Nat}(h:∀i,i<b->τ i=i):∀{l:List W},refL b l=true->yIq τ l=l
 |[],_=>rfl
 |w::l,hw=>by
  simp only[refL,Bool.and_eq_true] at hw;simp only[yIq];rw[Z3q h (w:=w) hw.1,kOq h (l:=l) hw.2]
end
mutual
theorem uJq{b c:Nat}(h:b<=c):∀{w:W},refB b w=true->refB c w=true
 |.ptr d o,hw=>decide_eq_true (Nat.lt_of_lt_of_le (of_decide_eq_true hw) h)
 |.sl d _ _ _ _ _,hw=>decide_eq_true (Nat.lt_of_lt_of_le (of_decide_eq_true hw) h)
 |.fz l _ _,hw=>jMq h (l:=l) hw
 |.fel x,hw=>uJq h (w:=x) hw
 |.fn _ a d,hw=>by
  simp only[refB,Bool.and_eq_true] at hw⊢;exact⟨jMq h hw.1,jMq h hw.2⟩
 |.iface _ v,hw=>uJq h (w:=v) hw
 |.agg _ l,hw=>jMq h (l:=l) hw
 |.arr _ _ l,hw=>jMq h (l:=l) hw
 |.tup l,hw=>jMq h (l:=l) hw
 |.undef,_=>rfl
 |.bool _,_=>rfl
 |.int _ _,_=>rfl
 |.str _,_=>rfl
 |.nilp,_=>rfl
 |.nils,_=>rfl
 |.nilm,_=>rfl
 |.yield _,_=>rfl
 |.nilf,_=>rfl
 |.nili,_=>rfl
theorem jMq{b c:Nat}(h:b<=c):∀{l:List W},refL b l=true->refL c l=true
 |[],_=>rfl
 |w::l,hw=>by
  simp only[refL,Bool.and_eq_true] at hw⊢;exact⟨uJq h hw.1,jMq h hw.2⟩
end
noncomputable def gW(b e:Nat):List W->W
 |[]=>.nils
 |x::r=>.sl b 0 0 (x::r).length e none
noncomputable def gH(b:Nat)(ty:TypeId)(e:Nat):List W->HpW
 |[]=>[]
 |x::r=>[(b,ty,.arr ((x::r).length*e) e (x::r))]
noncomputable def evG(b:Nat):List W->EvW
 |[]=>.gen
 |_::_=>.updO b
theorem evs_G{ops:Array Oper}{i b:Nat}{es:List (Nat×EvW)}{l:List W}(h1:evsW ops i .gen es=true)(h2:evsW ops i (.updO b) es=true):evsW ops i (evG b l) es=true:=by cases l<;>assumption
theorem kjq{b e:Nat}{l:List W}(h:l≠[]):gW b e l= .sl b 0 0 l.length e none:=by cases l with
 |nil=>exact absurd rfl h
 |cons x r=>rfl
theorem kkq{b e:Nat}{ty:TypeId}{l:List W}(h:l≠[]):gH b ty e l=[(b,ty,.arr (l.length*e) e l)]:=by cases l with
 |nil=>exact absurd rfl h
 |cons x r=>rfl
section
variable {C:Cfg} {nw:Nat} {ts tx ty:TypeId} {j k:TyI} {x:W} {news l:List W} {b:Nat} {H0:HpW}
theorem Jrq{b:Nat}{x:TypeId×W}:∀{P:HpW},(∀p∈P,p.1≠b) ->hdel (P++[(b,x)]) b=P
 |[],_=>by
  show(match Nat.beq b b with|true=>[]|false=>_)=[];rw[Nat.beq_refl]
 |(c,y)::P,h=>by
  have hc:=h (c,y) (List.mem_cons_self ..)
  have e:Nat.beq c b=false:=by
   cases q:Nat.beq c b with
   |true=>exact absurd (Nat.eq_of_beq_eq_true q) hc
   |false=>rfl
  show(match Nat.beq c b with|true=>P++[(b,x)]|false=>(c,y)::hdel (P++[(b,x)]) b)=_;rw[e];exact congrArg _ (Jrq λp hp=>h p (List.mem_cons_of_mem _ hp))
theorem Zvq{b:Nat}{x:TypeId×W}:∀{P:HpW},(∀p∈P,p.1≠b) ->hget (P++[(b,x)]) b=some x
 |[],_=>by rw[List.nil_append,znq,if_pos rfl]
 |(c,y)::P,h=>by
  rw[List.cons_append,znq,if_neg λe=>h (c,y) (List.mem_cons_self ..) e];exact Zvq λp hp=>h p (List.mem_cons_of_mem _ hp)
theorem xNq{c:Nat}{y:TypeId×W}{Q:HpW}:∀{P:HpW},hget P c=some y->hget (P++Q) c=some y
 |[],h=>by simp[hget] at h
 |(q,z)::P,h=>by
  rw[List.cons_append,znq];rw[znq] at h;split at h
  ·rename_i h5;rw[if_pos h5];exact h
  ·rename_i h5;rw[if_neg h5];exact xNq h
theorem vhq(P:HpW){e:Nat}{hp:HpW}(he:e=k.size)(hj:C.ty ts=some j)(hd:j.d= .slice ty)(hk:C.ty ty=some k)(hz:Nat.beq k.size 0=false)(hs:srcW C hp tx k.size x=some news)(hn:news≠[])(h1:(l.length+news.length)*k.bytes<=140737488355328)(h2:l.length+news.length<=70368744177664)
  (hg:hp=P++gH b ty e l) (hP:∀p∈P,p.1≠b):
  appW C hp nw ts tx (gW b e l) x=some (.sl nw 0 0 (l++news).length e none,(nw,ty,.arr ((l++news).length*e) e (l++news))::P,nw+1,evG b l):=by
 subst he
 have hk0:0<k.size:=by
  rcases Nat.eq_zero_or_pos k.size with h0|h0
  ·rw[h0] at hz;cases hz
  ·exact h0
 have hnl:0<news.length:=by cases news with
  |nil=>exact absurd rfl hn
  |cons _ _=>simp
 cases l with
 |nil=>
  simp only[List.length_nil,Nat.zero_add] at h1 h2;rw[show gW b k.size []= .nils from rfl,uxq hj hd hk hz hs hn h1 h2,hg,show gH b ty k.size []=[] from rfl,List.append_nil];rfl
 |cons y r=>
  have hget:hget hp b=some (ty,.arr ((y::r).length*k.size) k.size (y::r)):=by rw[hg];exact Zvq hP
  rw[show gW b k.size (y::r)= .sl b 0 0 (y::r).length k.size none from rfl,qcq hj hd hk hz hs hn h1 h2 hget (by
   show(y::r).length*k.size<0+((y::r).length+news.length)*k.size;rw[Nat.zero_add];exact Nat.mul_lt_mul_of_pos_right Xd hk0) (by rw[Nat.beq_refl]) (zpq hk0 O O)]
  rw[hg,show gH b ty k.size (y::r)=[(b,ty,.arr ((y::r).length*k.size) k.size (y::r))] from rfl,Jrq hP,List.length_append];rfl
end
theorem view_g{b e:Nat}{ty:TypeId}{l:List W}{H0:HpW}(he:0<e)(hl:purL l=true)(hP:∀p∈H0,p.1≠b):View (blkA (H0++gH b ty e l)) (gW b e l) (.fz l e false):=by
 cases l with
 |nil=>exact .nilfz
 |cons y r=>exact .sl (c:=.arr ((y::r).length*e) e (y::r)) (by
   unfold blkA;rw[show H0++gH b ty e (y::r)=H0++[(b,ty,.arr ((y::r).length*e) e (y::r))] from rfl,Zvq hP]) hl (zpq he O O) Xi
section
variable {C:Cfg} {G:Nat->Option W} {m k0:Nat} {rd:Bool} {fr fr2:FrW} {hp hp':HpW} {nw nw':Nat} {R:Res} {Q:y6q} {c:Code}
theorem QGq(hf:subF fr fr2):Ent C G m k0 fr hp nw R fr2 hp (nw+1) R:=λΓ X st hnw hmn s=>by
 let Γ2:Ctx:=⟨nw+1,Γ.σ,Γ.D,Γ.h⟩
 have le:Γ.Le Γ2:=⟨by rw[hnw];exact Nat.le_succ _,λ_ _=>rfl,λ_ h=>h,λ_ _=>rfl⟩;refine⟨Γ2,X,rfl,⟨s.hh,λt w hw=>?_,⟨s.sat.wf,λb ty w hb=>?_,s.sat.inj,s.sat.nd,s.sat.dX,s.sat.xlt,s.sat.dlt,s.sat.res,s.sat.gl⟩,s.ds,s.nd⟩,⟨λ_ _=>rfl,λh=>Nat.le_trans h le.nw,Nat.le_refl _,λ_ _ _ _=>rfl,λ_ h=>h,λ_ h=>.inl h,λb x _ h=>⟨x,h⟩,λb x hb h=>.inr ⟨b,x,hb,h,rfl⟩,λ_ h=>.inl h,λ_ h _ _=>h⟩⟩
 ·obtain⟨v,g3,g4⟩:=s.fr _ _ (Zjq hf t w hw);exact⟨v,g3,g4.mono le⟩
 ·obtain⟨q1,q2,q3,v,q4,q5⟩:=s.sat.own _ _ _ hb;exact⟨Nat.lt_of_lt_of_le q1 le.nw,q2,q3,v,q4,q5.mono le⟩
theorem Q3q{k:Nat}:∀{l:FrW},subF fr l->refF nw l->subR (tau1 nw k) (nw+1) fr l
 |[],_,_=>trivial
 |(t,w)::l,h,r=>⟨⟨by rw[Z3q (λi hi=>jJq Xd) r.1];exact h.1,uJq (Nat.le_succ _) r.1⟩,Q3q h.2 r.2⟩
theorem ZSq{k:Nat}:∀{l:HpW},subH hp nw l->subRH (tau1 nw k) (nw+1) hp l
 |[],_=>trivial
 |(b,x)::l,h=>⟨⟨Nat.lt_succ_of_lt h.1.1,by rw[jJq (by have:=h.1.1;omega),Z3q (λi hi=>jJq Xd) h.1.2.2];exact h.1.2.1,uJq (Nat.le_succ _) h.1.2.2⟩,ZSq h.2⟩
theorem subH_lt:∀{l:HpW},subH hp nw l->∀p∈l,p.1<nw
 |[],_,p,h=>by simp at h
 |(b,x)::l,h,p,hp=>by
  rcases List.mem_cons.1 hp with rfl|hp
  ·exact h.1.1
  ·exact subH_lt h.2 p hp
theorem ZTq{τ:Nat->Nat}{n:Nat}{b:HpW}:∀{a:HpW},subRH τ n hp a->subRH τ n hp b->subRH τ n hp (a++b)
 |[],_,h=>h
 |_::_,h,h2=>⟨h.1,ZTq h.2 h2⟩
theorem nodup_g{H0:HpW}{b e:Nat}{ty:TypeId}{l2:List W}(hh:∀p∈H0,p.1<b)(nd:(H0.map (·.1)).Nodup):((H0++gH b ty e l2).map (·.1)).Nodup:=by
 cases l2 with
 |nil=>rw[show gH b ty e []=[] from rfl,List.append_nil];exact nd
 |cons x r=>
  rw[show gH b ty e (x::r)=[(b,ty,.arr ((x::r).length*e) e (x::r))] from rfl,List.map_append,List.nodup_append];refine⟨nd,by simp,λa ha c hc q=>?_⟩;obtain⟨p,h1,h2⟩:=List.mem_map.1 ha;have:=hh p h1;simp only[List.map_cons,List.map_nil,List.mem_cons,List.not_mem_nil,or_false] at hc;omega
theorem ZEq{α:Type}(I:α->Prop)(s:Nat)(L:α->List W)(ty:TypeId)(e:Nat)(V:α->FrW)(kf:FrW)(H0:HpW)(μ:α->Nat)(a0:α)(hk:subF fr kf)(h0:I a0)(hv:subF fr (V a0))(hL:L a0=[])(hs:getW fr s=some .nils)(hh:hp=H0)
  (step:∀a,I a->CoW C G m k0 rd c ((s,gW nw e (L a))::(V a++kf)) (H0++gH nw ty e (L a)) (nw+1) R (xFq C G m k0 I (λa=>(s,gW nw e (L a))::(V a++kf)) (λa=>H0++gH nw ty e (L a)) (λ_=>nw+1) (λ_=>R) μ (μ a) Q)):CoW C G m k0 rd (.loop c) fr hp nw R Q:=by
 subst hh;refine quq I (λa=>(s,gW nw e (L a))::(V a++kf)) (λa=>hp++gH nw ty e (L a)) (λ_=>nw+1) (λ_=>R) μ a0 h0 ?_ step;have:=QGq (C:=C) (G:=G) (m:=m) (k0:=k0) (fr:=fr) (fr2:=(s,gW nw e (L a0))::(V a0++kf)) (hp:=hp) (nw:=nw) (R:=R) ⟨by rw[hL];exact hs,qTq hv hk⟩;rw[hL] at this⊢;rw[show gH nw ty e []=[] from rfl,List.append_nil];exact this
theorem ent_grown{b:Nat}{ty:TypeId}{e:Nat}{H0:HpW}{l2:List W}{n:Nat}(k s:Nat)(hm:m<=b)(hk:b<=k)(hk2:k<nw)(hne:l2≠[])(hs:getW fr s=some (.sl k 0 0 n e none))(hn:n=l2.length)(hf:subF fr fr2)(hr:refF b fr2)(hg:hget hp k=some (ty,.arr (n*e) e l2))(hp2:purL l2=true)(hh:subH hp b H0)(nd:(H0.map (·.1)).Nodup):
  Ent C G m k0 fr hp nw R ((s,gW b e l2)::fr2) (H0++gH b ty e l2) (b+1) R:=by
 subst hn;have hpa:purW (.arr (l2.length*e) e l2)=true:=hp2;refine yeq (b:=b) (k:=k) hm hk hk2 ?_ ?_ (nodup_g (subH_lt hh) nd)
 ·rw[kjq hne];refine⟨⟨?_,by simp[refB]⟩,Q3q hf hr⟩;rw[hs];simp only[renW,kDq]
 ·rw[kkq hne];refine ZTq (ZSq hh) ⟨⟨Nat.lt_succ_self _,?_,zbq hpa⟩,trivial⟩;rw[kDq,hg,zdq hpa]
noncomputable def hdAll(ext:List Nat)(nw:Nat)(hp:HpW):HpW->Prop
 |[]=>True
 |(i,ty,w)::l=>(i<ext.length/\refB ext.length w=true/\∃b,ext[i]? =some b/\hget hp b=some (ty,renW (numC ext nw) w))/\hdAll ext nw hp l
theorem q7q{ext:List Nat}{nw:Nat}{hp:HpW}:∀{l:HpW},hdAll ext nw hp l->QTq ext nw l hp
 |[],_=>λi ty w h=>by simp[hget] at h
 |(j,ty',w')::l,hs=>λi ty w h=>by
  rw[znq] at h;split at h
  ·rename_i e;subst e;cases h;exact hs.1
  ·exact q7q hs.2 i ty w h
theorem ent_view(fr2:FrW)(hf:subV (λ_=>none) fr fr2):Ent C G m k0 fr hp nw R fr2 hp nw R:=λΓ X st h1 _ s=>
 ⟨Γ,X,h1,⟨s.hh,λt w hw=>by
  obtain⟨w0,g1,g2⟩:=kFq hf t w hw;obtain⟨v,g3,g4⟩:=s.fr t w0 g1;exact⟨v,g3,jIq ⟨λ_ h _=>h,λ_ _ _=>rfl,λ_ h=>h,λ_ _=>rfl,λ_ _ _ h=>Qb⟩ g2 g4⟩,s.sat,s.ds,s.nd⟩,Frm.refl _ _ _ _⟩
noncomputable def Zcq(blk:Nat->Option W)(b:Nat)(hp:HpW):HpW->Prop
 |[]=>True
 |(k,ty,w)::l=>(k≠b/\∃w0,hget hp k=some (ty,w0)/\View blk w0 w)/\Zcq blk b hp l
theorem jfq{blk:Nat->Option W}{b:Nat}:∀{l:HpW},Zcq blk b hp l->∀k ty w,hget l k=some (ty,w) ->k≠b/\∃w0,hget hp k=some (ty,w0)/\View blk w0 w
 |[],_,k,ty,w,h=>by simp[hget] at h
 |(j,ty',w')::l,hs,k,ty,w,h=>by
  rw[znq] at h;split at h
  ·rename_i e;subst e;cases h;exact hs.1
  ·exact jfq hs.2 k ty w h
theorem jTq(b:Nat)(fr2:FrW)(hp2:HpW){ty:TypeId}{c:W}(hb:hget hp b=some (ty,c))(hc:purW c=true)(hbm:m<=b)(hf:subV (blk1 b c) fr fr2)(hh:Zcq (blk1 b c) b hp hp2)(nd:(hp2.map (·.1)).Nodup):Ent C G m k0 fr hp nw R fr2 hp2 nw R:=
 ent_frz hb hc hbm (kFq hf) (jfq hh) nd
theorem co_loopG1{α:Type}(I:α->Prop)(s:Nat)(L:α->List W)(ty:TypeId)(e:Nat)(V:α->FrW)(kf:FrW)(H0:HpW)(b k:Nat)(μ:α->Nat)(a0:α){n:Nat}(hk:subF fr kf)(h0:I a0)(hv:subF fr (V a0))(hm:m<=b)(hbk:b<=k)(hkn:k<nw)(hne:L a0≠[])(hs:getW fr s=some (.sl k 0 0 n e none))(hn:n=(L a0).length)
  (hr:refF b (V a0)) (hr2:refF b kf) (hg:hget hp k=some (ty,.arr (n*e) e (L a0))) (hp2:purL (L a0)=true) (hh:subH hp b H0) (nd:(H0.map (·.1)).Nodup)
  (step:∀a,I a->CoW C G m k0 rd c ((s,gW b e (L a))::(V a++kf)) (H0++gH b ty e (L a)) (b+1) R (xFq C G m k0 I (λa=>(s,gW b e (L a))::(V a++kf)) (λa=>H0++gH b ty e (L a)) (λ_=>b+1) (λ_=>R) μ (μ a) Q)):CoW C G m k0 rd (.loop c) fr hp nw R Q:=
 quq I (λa=>(s,gW b e (L a))::(V a++kf)) (λa=>H0++gH b ty e (L a)) (λ_=>b+1) (λ_=>R) μ a0 h0 (ent_grown k s hm hbk hkn hne hs hn (qTq hv hk) (xLq hr hr2) hg hp2 hh nd) step
theorem kRq{α:Type}{I:α->Prop}{s:Nat}{L:α->List W}{ty:TypeId}{e:Nat}{V:α->FrW}{kf:FrW}{H0:HpW}{μ:α->Nat}{kk:Nat}{fr':FrW}{l2:List W}{n:Nat}(k:Nat)(a:α)(ha:I a)(hμ:μ a<kk)(hm:m<=nw)(hL:L a=l2)(hne:l2≠[])(hk:nw<=k)(hk2:k<nw')(hs:getW fr' s=some (.sl k 0 0 n e none))(hn:n=l2.length)
  (hv:subF fr' (V a)) (hkf:subF fr' kf) (hr:refF nw (V a)) (hr2:refF nw kf) (hg:hget hp' k=some (ty,.arr (n*e) e l2)) (hp2:purL l2=true) (hh:subH hp' nw H0) (nd:(H0.map (·.1)).Nodup):
  xFq C G m k0 I (λa=>(s,gW nw e (L a))::(V a++kf)) (λa=>H0++gH nw ty e (L a)) (λ_=>nw+1) (λ_=>R) μ kk Q .normal fr' hp' nw' R:=by
 subst hL;exact y3q a ha hμ (ent_grown k s hm hk hk2 hne hs hn (qTq hv hkf) (xLq hr hr2) hg hp2 hh nd)
theorem ent_blk{b:Nat}{ty:TypeId}{w w':W}(hb:hget hp b=some (ty,w))(he:∀Γ v,RV Γ w v->RV Γ w' v):Ent C G m k0 fr hp nw R fr (hset hp b (ty,w')) nw R:=λΓ X st h1 _ s=>by
 have hold:∀{k t u},hget (hset hp b (ty,w')) k=some (t,u) ->∃u0,hget hp k=some (t,u0)/\∀v,RV Γ u0 v->RV Γ u v:=λ{k t u} h=>by
  rw[uZq hb] at h;split at h
  ·rename_i e;subst e;cases h;exact⟨w,hb,he Γ⟩
  ·exact⟨u,h,λ_ q=>q⟩
 have howns:∀{c},Owns Γ (hset hp b (ty,w')) c->Owns Γ hp c:=λ{c} h=>by
  obtain⟨k,⟨t,u⟩,h1,h2⟩:=h;obtain⟨u0,g,_⟩:=hold h1;exact⟨k,_,g,h2⟩
 refine⟨Γ,X,h1,⟨s.hh,s.fr,⟨s.sat.wf,λk t u h=>?_,λk k' y z hy hz e=>?_,by rw[Yjq];exact s.sat.nd,s.sat.dX,s.sat.xlt,s.sat.dlt,s.sat.res,s.sat.gl⟩,λd hd=>?_,s.nd⟩,⟨λ_ _=>rfl,λh=>h,Nat.le_refl _,λ_ _ _ _=>rfl,λ_ h=>h,λ_ h=>.inl h,λk y _ h=>?_,λk y hk h=>?_,λ_ h=>.inl h,λ_ h _ _=>h⟩⟩
 ·obtain⟨u0,g1,g2⟩:=hold h;obtain⟨q1,q2,q3,v,q4,q5⟩:=s.sat.own k t u0 g1;exact⟨q1,q2,q3,v,q4,g2 v q5⟩
 ·obtain⟨y1,y2⟩:=y;obtain⟨z1,z2⟩:=z;obtain⟨u0,g1,_⟩:=hold hy;obtain⟨u1,g2,_⟩:=hold hz;exact s.sat.inj k k' _ _ g1 g2 e
 ·obtain⟨q1,q2,q3,q4,q5⟩:=s.ds d hd;exact⟨q1,q2,q3,λh=>q4 (howns h),q5⟩
 ·obtain⟨y1,y2⟩:=y;obtain⟨u0,g1,_⟩:=hold h;exact⟨_,g1⟩
 ·obtain⟨y1,y2⟩:=y;obtain⟨u0,g1,_⟩:=hold h;exact .inr ⟨k,_,hk,g1,rfl⟩
theorem ZVq{o:Oper}{post:W->HpW->Nat->Res->Option EvW->Prop}{x:Operand}{xs:Array Operand}{ats:Array TypeId}{f:FuncId}{a us c ws:List W}{Q:W->HpW->Nat->Prop}(ho:o.op= .call ⟨.value x,xs,ats⟩)(hx:evW C G fr x=some (.fn f a c))(he:C.ext f=none)(hxs:evLW C G fr xs.toList=some us)(hws:a++us++c=ws)(hpw:purL ws=true)(sp:ydq C G f 0 ws [] Q)
  (hpost:∀w hp1 nw1,Q w hp1 nw1->post (renW (numC [] nw) w) (renH (numC [] nw) hp1++hp) (nw+nw1) R (some .gen)):Step C G o fr hp nw R post:=λΓ X frv hnw s hf=>by
 subst hnw;obtain⟨u,e1,e2⟩:=zLq hf s.gl hx;obtain⟨a',c',rfl,e3,e4⟩:=RV_fn.1 e2;obtain⟨us',e5,e6⟩:=k3q hf s.gl hxs
 have app:∀{l r:List W} {l' r':List V},RVL Γ l l'->RVL Γ r r'->RVL Γ (l++r) (l'++r'):=λ{l}=>by
  induction l with
  |nil=>intro r l' r' h1 h2;simp only[RVL] at h1;subst h1;exact h2
  |cons w l ih=>
   intro r l' r' h1 h2;simp only[RVL] at h1;obtain⟨v,vs,rfl,h3,h4⟩:=h1;simp only[List.cons_append,RVL];exact⟨v,vs++r',rfl,h3,ih h4 h2⟩
 have hv:=app (app e3 e6) e4;rw[hws,<-jhq (τ:=numC [] Γ.nw) hpw] at hv;obtain⟨n,v,Γ',w,hp1,nw1,g1,g2,g3,g4,g5,g6,g7,g8⟩:=call_spec (ext:=[]) sp s List.nodup_nil Xg Xg (λi ty w h=>by simp[hget] at h) (zbq (w:=.tup ws) hpw) hv;obtain⟨k1,k2⟩:=vQq (C:=C) ho frv Γ.h;refine⟨n,_,_,R,some .gen,v,Γ'.h,Γ',X,by rw[g3];exact hpost w hp1 nw1 g2,?_,⟨k1,λH1 e1' e2'=>?_⟩,rfl,g4,g5,g6,g7⟩
 ·simp only[opV,k1,k2];simp only[ho,q3q,e1,e5,he];exact g1
 ·have:=g8 rfl e2';simp only[EvR,ho,evOf];rw[e1',Nat.ble_eq_true_of_le this]
noncomputable def PL(C:Cfg)(G:Nat->Option W)(f:FuncId)(ws:List W)(ty:TypeId)(e:Nat)(l:List W):Prop:=ydq C G f 0 ws [] λw hp nw=>w=gW 0 e l/\hp=gH 0 ty e l/\nw=1
theorem PL.ps{C:Cfg}{G:Nat->Option W}{f:FuncId}{ws:List W}{ty:TypeId}{e:Nat}{l:List W}(h:PL C G f ws ty e l)(he:0<e)(hl:purL l=true):PS C G f ws (.fz l e false):=λR=>
 uEq λΓ X vs h1 s hv=>by
  obtain⟨n,v,Γ',X',w,hp',R',g1,g2,g3,g4,g5,rfl,rfl,g6⟩:=h R Γ X vs h1 s hv;exact⟨n,v,Γ',X',_,_,R',g1,g2,g3,g4,g5,view_g (H0:=[]) he hl Xg⟩
theorem step_pl{o:Oper}{post:W->HpW->Nat->Res->Option EvW->Prop}{x:Operand}{xs:Array Operand}{ats:Array TypeId}{f:FuncId}{a us c ws:List W}{ty:TypeId}{e:Nat}{l:List W}(ho:o.op= .call ⟨.value x,xs,ats⟩)(hx:evW C G fr x=some (.fn f a c))(he:C.ext f=none)(hxs:evLW C G fr xs.toList=some us)(hws:a++us++c=ws)(hpw:purL ws=true)(sp:PL C G f ws ty e l)(hl:purL l=true)
  (hpost:post (gW nw e l) (gH nw ty e l++hp) (nw+1) R (some .gen)):Step C G o fr hp nw R post:=by
 refine ZVq ho hx he hxs hws hpw sp ?_;rintro w hp1 nw1 ⟨rfl,rfl,rfl⟩
 have e1:renW (numC [] nw) (gW 0 e l)=gW nw e l:=by
  cases l with
  |nil=>rfl
  |cons x r=>simp only[gW,renW];rfl
 have e2:renH (numC [] nw) (gH 0 ty e l)=gH nw ty e l:=by
  cases l with
  |nil=>rfl
  |cons x r=>
   have hpa:purW (.arr ((x::r).length*e) e (x::r))=true:=hl;simp only[gH,renH,zdq hpa];rfl
 rw[e1,e2];exact hpost
variable {ops:Array Oper} {l:List Oper} {K:FrW->HpW->Nat->Res->Prop} {hp2:HpW} {nw2:Nat} {R2:Res}
theorem xdq(e:∀k0,Ent C G m k0 fr hp nw R fr2 hp2 nw2 R2)(h:OpW C G m ops l fr2 hp2 nw2 R2 K):OpW C G m ops l fr hp nw R K:=λΓ X frv hnw hm s hf=>by
 obtain⟨Γ2,X2,e1,e2,e3⟩:=e 0 Γ X ⟨frv,Γ.h,[],false⟩ hnw hm ⟨rfl,hf,s,by simp,List.nodup_nil⟩;obtain⟨n,frv',Γ',X',fr',hp',R',g1,g2,g3,g4,g5⟩:=h Γ2 X2 frv e1 (e1▸e3.mle (hnw▸hm)) e2.sat e2.fr;have hh:Γ.h=Γ2.h:=e2.hh;exact⟨n,frv',Γ',X',fr',hp',R',by rw[hh];exact g1,g2,g3,e3.trans g4,g5⟩
theorem op_z{o:Oper}{k:IntKind}{z:Int}(z':Int)(hw:y1q ops fr o=some true)(hx:yBq C G fr o.op=some (.int k (koq k z)))(e:z=z')(hz:inK k z')(h:OpW C G m ops l (putW fr o.dst (.int k z')) hp nw R K):OpW C G m ops (o::l) fr hp nw R K:=by
 subst e;exact op_wrap hw hx hz h
end
theorem g_names{b e:Nat}{ty:TypeId}{l:List W}:∀p∈gH b ty e l,p.1=b:=λp hp=>by
 cases l with
 |nil=>cases hp
 |cons x r=>simp only[gH,List.mem_cons,List.not_mem_nil,or_false] at hp;rw[hp]
section
variable {C:Cfg} {G:Nat->Option W} {m k0:Nat} {fr fr2:FrW} {hp hp2:HpW} {nw nw2:Nat} {R:Res}
theorem ren_g(τ:Nat->Nat)(b e:Nat)(l:List W):renW τ (gW b e l)=gW (τ b) e l:=by cases l<;>rfl
theorem ref_g{n b e:Nat}{l:List W}(h:b<n):refB n (gW b e l)=true:=by
 cases l with
 |nil=>rfl
 |cons x r=>simp[gW,refB,h]
theorem renH_g(τ:Nat->Nat)(b:Nat)(ty:TypeId)(e:Nat){l:List W}(hl:purL l=true):renH τ (gH b ty e l)=gH (τ b) ty e l:=by
 cases l with
 |nil=>rfl
 |cons x r=>
  have hpa:purW (.arr ((x::r).length*e) e (x::r))=true:=hl;simp only[gH,renH,zdq hpa]
theorem hdel_g{b:Nat}{ty:TypeId}{e:Nat}{l:List W}{P:HpW}(hP:∀p∈P,p.1≠b):hdel (P++gH b ty e l) b=P:=by
 cases l with
 |cons x r=>exact Jrq hP
 |nil=>
  rw[show gH b ty e []=[] from rfl,List.append_nil];induction P with
  |nil=>rfl
  |cons p P ih=>
   obtain⟨c,y⟩:=p;have hc:=hP (c,y) (List.mem_cons_self ..)
   have e:Nat.beq c b=false:=by
    cases q:Nat.beq c b with
    |true=>exact absurd (Nat.eq_of_beq_eq_true q) hc
    |false=>rfl
   show(match Nat.beq c b with|true=>P|false=>(c,y)::hdel P b)=_;rw[e];exact congrArg _ (ih λp hp=>hP p (List.mem_cons_of_mem _ hp))
theorem uYq{b:Nat}:∀{P:HpW},(∀p∈P,p.1≠b) ->hget P b=none
 |[],_=>rfl
 |(c,y)::P,h=>by
  rw[znq,if_neg λe=>h (c,y) (List.mem_cons_self ..) e];exact uYq λp hp=>h p (List.mem_cons_of_mem _ hp)
theorem Zwq{b:Nat}{Q:HpW}:∀{P:HpW},hget (P++Q) b=(hget P b).orElse λ_=>hget Q b
 |[]=>by simp[hget]
 |(c,y)::P=>by
  rw[List.cons_append,znq,znq];split
  ·rfl
  ·exact Zwq
theorem ZRq{blk:Nat->Option W}{b:Nat}{Y:HpW}:∀{X:HpW},Zcq blk b hp X->Zcq blk b hp Y->Zcq blk b hp (X++Y)
 |[],_,h=>h
 |_::_,h,h2=>⟨h.1,ZRq h.2 h2⟩
theorem ent_frg{b e:Nat}{ty:TypeId}{l:List W}{X:HpW}(s:Nat)(he:0<e)(hl:purL l=true)(hbm:m<=b)(hs:getW fr s=some (gW b e l))(hf:∀blk:Nat->Option W,(∀i,i≠b->blk i=none) ->subV blk fr fr2)(hX:∀blk:Nat->Option W,(∀i,i≠b->blk i=none) ->Zcq blk b (X++gH b ty e l) X)(nd:(X.map (·.1)).Nodup)(hXb:∀p∈X,p.1≠b):Ent C G m k0 fr (X++gH b ty e l) nw R ((s,.fz l e false)::fr2) X nw R:=by
 cases l with
 |nil=>
  rw[show gH b ty e []=[] from rfl,List.append_nil];exact ent_view _ ⟨⟨_,hs,.nilfz⟩,hf _ λ_ _=>rfl⟩
 |cons x r=>
  have hne:∀i,i≠b->blk1 b (.arr ((x::r).length*e) e (x::r)) i=none:=λi hi=>by
   unfold blk1
   have:Nat.beq i b=false:=by
    cases q:Nat.beq i b with
    |true=>exact absurd (Nat.eq_of_beq_eq_true q) hi
    |false=>rfl
   rw[this]
  exact jTq b _ X (Zvq hXb) hl hbm ⟨⟨_,hs,.sl (c:=.arr ((x::r).length*e) e (x::r)) (by unfold blk1;rw[Nat.beq_refl]) hl (zpq he O O) Xi⟩,hf _ hne⟩ (hX _ hne) nd
end
section
attribute [local irreducible] CoW OpW FlW Step Spec
variable {G:Nat->Option W}
def okN(ns:List Node):Prop:=∀i x,ns[i]? =some x->oneB x i
theorem rep_of{ns:List Node}(h:okN ns):∀n,n<=ns.length->∃t,Rep ns n t:=by
 intro n;induction n using Nat.strongRecOn with
 |_ n ih=>
  intro hn;cases n with
  |zero=>exact⟨_,.nil⟩
  |succ n=>
   obtain⟨x,hx⟩:∃x,ns[n]? =some x:=⟨_,List.getElem?_eq_getElem hn⟩
   have h1:=h n x hx;obtain⟨lf,k,v,l,r⟩:=x;cases lf with
   |true=>exact⟨_,.leaf hx⟩
   |false=>
    simp only[oneB,Bool.false_eq_true,if_false] at h1;obtain⟨⟨a1,a2⟩,⟨b1,b2⟩,_⟩:=h1;obtain⟨l,rfl⟩:=Int.eq_ofNat_of_zero_le a1;obtain⟨r,rfl⟩:=Int.eq_ofNat_of_zero_le b1;obtain⟨L,hL⟩:=ih l Xd Xd;obtain⟨R,hR⟩:=ih r Xd Xd;exact⟨_,.fork hx Xd Xd hL hR⟩
theorem Rep.uniq{ns:List Node}{n:Nat}{t:T}(h:Rep ns n t):∀{t':T},Rep ns n t'->t=t':=by
 induction h with
 |nil=>intro t' h';cases h';rfl
 |leaf h=>
  intro t' h';cases h' with
  |leaf h2=>rw[h] at h2;cases h2;rfl
  |fork h2=>rw[h] at h2;cases h2
 |fork h hl hr _ _ i1 i2=>
  intro t' h';cases h' with
  |leaf h2=>rw[h] at h2;cases h2
  |fork h2 _ _ hL hR=>
   rw[h] at h2;simp only[Option.some.injEq,Node.mk.injEq,Int.natCast_inj,true_and] at h2;obtain⟨_,_,rfl,rfl⟩:=h2;rw[i1 hL,i2 hR]
def MayT(t:Tree):Prop:=t.nodes.length<=262144/\okN t.nodes/\∃(n:Nat) (t0:T),t.root=n/\Rep t.nodes n t0/\t0.ok 0 yzq=true
noncomputable instance(t:Tree):Decidable (MayT t):=Classical.propDecidable _
theorem jdq(t:Tree)(hb:t.nodes.length<=4611686018427387903):PS cfg G 64 [tW t] (.int .i64 (if MayT t then 0 else 8)):=by
 have e:(t.nodes.map nW).length=t.nodes.length:=List.length_map _;have no:∀{R:Res} {k0:Nat},¬MayT t->W.int .i64 8=W.int .i64 (if MayT t then 0 else 8):=λh=>by rw[if_neg h]
 refine gI 11 O (λR k0=>gV (w':=.int .i64 (t.nodes.length:Int)) 0 O Xv ?_);refine gD 0 O (λh1=>?_) (λh1=>?_)
 ·have hno:¬MayT t:=λh=>by have:=h.1;omega
  exact gQ 23 O Yb
 refine gD 3 O (λh2=>?_) (λh2=>?_)
 ·have hno:¬MayT t:=λh=>by obtain⟨_,_,n,_,h,_⟩:=h;have h2:t.root<0:=h2;omega
  exact gQ 19 O Yb
 refine gV (w':=.int .i64 (t.nodes.length:Int)) 6 O Xv (gU 0 O ?_);refine gS 3 O (λh3=>?_) (λh3=>?_)
 ·have hno:¬MayT t:=λh=>by obtain⟨_,_,n,_,h,hr,_⟩:=h;have h3:(t.nodes.length:Int)<t.root:=h3;have:=hr.le;omega
  exact gQ 7 O Yb
 have h2:¬t.root<0:=h2;have h3:¬(t.nodes.length:Int)<t.root:=h3;obtain⟨n0,hn0⟩:=Int.eq_ofNat_of_zero_le (show 0<=t.root by omega);refine gV (w':=.int .i64 (t.nodes.length:Int)) 7 O Xv ?_;refine gLo (α:=Nat) 4 (λi=>i<=t.nodes.length/\∀j x,j<i->t.nodes[j]? =some x->oneB x j) (λi=>[(27,.int .i64 (i:Int))]) [1,2,25,26] (λi=>t.nodes.length-i) (0) rfl (⟨Nat.zero_le _,λj x hj=>by omega⟩) (λi hI=>?_);obtain⟨hi,hI⟩:=hI;refine gS 6 O (λh4=>?_) (λh4=>?_)
 ·have hi':i<t.nodes.length:=by omega
  obtain⟨x,hx⟩:∃x,t.nodes[i]? =some x:=⟨_,List.getElem?_eq_getElem hi'⟩
  refine gP 7 O (ymq (i:=i) O O O O O O O (zKq nW hx)) (gC 10 O (one_s _ _ Xd) ?_);refine gS 3 O (λh5=>?_) (λh5=>?_)
  ·have hno:¬MayT t:=λh=>by have:=h.2.1 i x hx;simp[this] at h5
   exact gO 8 O (gQ 2 O Yb)
  ·have h5:oneB x i:=by simpa using h5
   exact gA 4 O (i+1) (gAg 2 O (i+1) (⟨hi',λj y hj hy=>by rcases Nat.lt_succ_iff_lt_or_eq.1 hj with h|rfl;exact hI j y h hy;exact(Option.some.inj (hx.symm.trans hy))▸h5⟩) Xd)
 ·have okn:okN t.nodes:=λj x hx=>hI j x (by have:=(List.getElem?_eq_some_iff.1 hx).1;omega) hx
  obtain⟨t0,ht0⟩:=rep_of okn n0 Xd
  have key:MayT t↔t0.ok 0 yzq=true:=by
   constructor
   ·rintro⟨_,_,n,t1,hn,hr,hk⟩;obtain rfl:n=n0:=by omega
    rw[ht0.uniq hr];exact hk
   ·exact λh=>⟨by omega,okn,n0,t0,hn0,ht0,h⟩
  refine gO 2 O (gV 8 O qJq (op_ps O O O O O (by rw[hn0];rfl) (right_s t Xd t0 n0 0 yzq ht0 Xd) Xg Xg (zeq 13 O ?_)));refine gS 0 O (λh5=>?_) (λh5=>?_)
  ·have hno:¬MayT t:=λh=>by have:=key.1 h;simp[this] at h5
   exact gQ 7 O Yb
  ·have yes:MayT t:=key.2 (by simpa using h5);exact gQ 8 O Yp
inductive FTo(ns:List Node)(k:Dig):Nat->Nat->Nat->Prop where
 |nil {d:Nat}:FTo ns k 0 d 0
 |hit {n d:Nat} {v:List UInt8} {l r:Int} (h:ns[n]? =some ⟨true,k,v,l,r⟩):FTo ns k (n+1) d (n+1)
 |miss {n d:Nat} {k':Dig} {v:List UInt8} {l r:Int} (h:ns[n]? =some ⟨true,k',v,l,r⟩) (hk:k'≠k):FTo ns k (n+1) d 0
 |go {n d l r m:Nat} {k':Dig} {v:List UInt8} (h:ns[n]? =some ⟨false,k',v,l,r⟩) (hd:d<256) (hg:FTo ns k (if bitN k d=0 then l else r) (d+1) m):FTo ns k (n+1) d m
theorem fto_of{ns:List Node}{k:Dig}{n:Nat}{t:T}(h:Rep ns n t):∀{d:Nat} {b:Dig},t.ok d b=true->∃m,FTo ns k n d m/\(t.find k d=none->m=0)/\∀v,t.find k d=some v->∃j l r,m=j+1/\ns[j]? =some ⟨true,k,v,l,r⟩:=by
 induction h with
 |nil=>exact λ_=>⟨0,.nil,λ_=>rfl,λv h=>by simp[T.find] at h⟩
 |leaf h=>
  rename_i n k' v l r;intro d b _;by_cases e:k'=k
  ·subst e;exact⟨n+1,.hit h,λhn=>by simp[T.find] at hn,λw hw=>by simp only[T.find,if_true,Option.some.injEq] at hw;subst hw;exact⟨n,l,r,rfl,h⟩⟩
  ·exact⟨0,.miss h e,λ_=>rfl,λw hw=>by simp[T.find,e] at hw⟩
 |fork h hl hr hL hR i1 i2=>
  intro d b hk;obtain⟨hd,k1,k2,_⟩:=ok_fork.1 hk;by_cases hb:bitN k d=0
  ·obtain⟨m,g1,g2,g3⟩:=i1 k1;exact⟨m,.go h hd (by rw[if_pos hb];exact g1),by simp only[T.find,if_pos hb];exact g2,by simp only[T.find,if_pos hb];exact g3⟩
  ·obtain⟨m,g1,g2,g3⟩:=i2 k2;exact⟨m,.go h hd (by rw[if_neg hb];exact g1),by simp only[T.find,if_neg hb];exact g2,by simp only[T.find,if_neg hb];exact g3⟩
theorem yhq(k:Dig)(d c:Nat)(h:d<256)(hc:bitN k d=c):PS cfg G 196 [dW k,.int .i64 (d:Int)] (.int .u8 (c:Int)):=hc▸tbit_s k d h
theorem tfind_s(t:Tree)(k:Dig)(n m:Nat)(hn:t.root=n)(hf:FTo t.nodes k n 0 m)(hb:t.nodes.length<=4611686018427387903):PS cfg G 340 [tW t,dW k] (.int .i64 (m:Int)):=by
 obtain⟨ns,root⟩:=t;simp only at hn hf hb;subst hn;refine gI 21 O (λR k0=>?_);refine gLo (α:=Nat×Nat) 0 (λp=>FTo ns k p.1 p.2 m/\p.2<=256) (λp=>[(5,.int .i64 (p.1:Int)),(6,.int .i64 (p.2:Int))]) [2,3,4] (λp=>257-p.2) ((n,0)) rfl (⟨hf,by simp⟩) (λp hI=>?_);obtain⟨i,d⟩:=p;obtain⟨hf,hd⟩:=hI;simp only at hf hd⊢;refine gS 7 O (λh1=>?_) (λh1=>?_)
 ·cases hf with
  |nil=>exfalso;omega
  |hit h=>
   skip
   rename_i i v l r;have hi:=(List.getElem?_eq_some_iff.1 h).1;refine yrq 9 O (gA 0 O (i) (gP 0 O (ymq (i:=i) O O O O O O O (zKq nW h)) (gUe 19 O (ywq O O O O (yGq O O O O O O _ _ 250)) ybq ?_)));refine gS 2 O (λh2=>?_) (λh2=>?_)
   ·refine gO 11 O ?_;first|exact gQa 2 O|(exfalso;omega)
   ·exfalso;exact h2 rfl
  |miss h hk=>
   rename_i i k' v l r;have hi:=(List.getElem?_eq_some_iff.1 h).1;refine yrq 9 O (gA 0 O (i) (gP 0 O (ymq (i:=i) O O O O O O O (zKq nW h)) (gUe 19 O (ywq O O O O (yGq O O O O O O _ _ 250)) ybq ?_)));refine gS 2 O (λh2=>?_) (λh2=>?_)
   ·exfalso;exact hk h2
   ·refine gO 11 O ?_;first|exact gQa 2 O|(exfalso;omega)
  |go h hd' hg=>
   rename_i i l r k' v;have hi:=(List.getElem?_eq_some_iff.1 h).1;have bl:=qqq k d;rcases Nat.lt_or_ge 0 (bitN k d) with hb1|hb0
   ·skip
    have hc:bitN k d=1:=by omega
    rw[if_neg Xd] at hg;exact yrq 9 O (gA 0 O (i) (gP 0 O (ymq (i:=i) O O O O O O O (zKq nW h)) (gC 17 O (q6q _) (gC 2 O (yhq k d 1 hd' hc) (gA 7 O (d+1) (gAg 2 O ((r,d+1)) (⟨hg,hd'⟩) Ya))))))
   ·have hc:bitN k d=0:=by omega
    rw[if_pos hc] at hg;exact yrq 9 O (gA 0 O (i) (gP 0 O (ymq (i:=i) O O O O O O O (zKq nW h)) (gC 17 O (q6q _) (gC 2 O (yhq k d 0 hd' hc) (gA 7 O (d+1) (gAg 2 O ((l,d+1)) (⟨hg,hd'⟩) Ya))))))
 ·obtain rfl:i=0:=by omega
  cases hf;refine gO 2 O ?_;first|exact gQa 8 O|(exfalso;omega)
structure IsT(t:Tree)(n:Nat)(t0:T):Prop where
 len:t.nodes.length<=262144
 okn:okN t.nodes
 root:t.root=n
 rep:Rep t.nodes n t0
 ok:t0.ok 0 yzq=true
theorem IsT.may{t:Tree}{n:Nat}{t0:T}(h:IsT t n t0):MayT t:=⟨h.len,h.okn,n,t0,h.root,h.rep,h.ok⟩
theorem may_is{t:Tree}(h:MayT t):∃n t0,IsT t n t0:=by
 obtain⟨h1,h2,n,t0,h3,h4,h5⟩:=h;exact⟨n,t0,h1,h2,h3,h4,h5⟩
theorem ugq{ns:List Node}(h:okN ns){i:Nat}{k:Dig}{v:List UInt8}{l r:Int}(hx:ns[i]? =some ⟨true,k,v,l,r⟩):0<v.length/\v.length<=64:=by
 have h1:=h i _ hx;simp only[oneB,if_true] at h1;have h2:=(h1.2.2.2 0 Xg (k,v) rfl).1;simp only[valB,Bool.and_eq_true,decide_eq_true_eq] at h2;exact h2
noncomputable def getW':Option (List UInt8) ->W
 |none=>.tup [.nils,.bool false]
 |some v=>.tup [bW v,.bool true]
theorem tget_s(t:Tree)(n:Nat)(t0:T)(k:Dig)(h:IsT t n t0):PS cfg G 321 [tW t,dW k] (getW' (t0.find k 0)):=by
 have hl:=h.len;have hy:=h.may;obtain⟨m,f1,f2,f3⟩:=fto_of (k:=k) h.rep h.ok;cases hf:t0.find k 0 with
 |none=>
  obtain rfl:=f2 hf;refine gI 12 O (λR k0=>?_);first|refine gC 0 O (zXq (w':=.int .i64 0) (jdq t Xd) (by rw[if_pos hy])) ?_|refine gC 0 O (jdq _ Xd) ?_
  exact gC 10 O (tfind_s t k n _ h.root f1 Xd) (gQa 19 O)
 |some v=>
  obtain⟨j,l,r,rfl,hx⟩:=f3 v hf;have hv:=ugq h.okn hx;have hj:=(List.getElem?_eq_some_iff.1 hx).1;refine gI 12 O (λR k0=>?_);first|refine gC 0 O (zXq (w':=.int .i64 0) (jdq t Xd) (by rw[if_pos hy])) ?_|refine gC 0 O (jdq _ Xd) ?_
  refine gC 10 O (tfind_s t k n _ h.root f1 Xd) ?_;refine gS 10 O (λh1=>?_) (λh1=>?_)
  ·exfalso;omega
  ·exact gA 7 O (j) (gP 0 O (ymq (i:=j) O O O O O O O (zKq nW hx)) (zcq 2 O (yoq O O O O O O (vPq v false Xd) (zeq 5 O (gQa 0 O)))))
theorem teach_s(t:Tree)(n:Int):PS cfg G 220 [tW t,.int .i64 n] (.fn 289 [] [.fel (.int .i64 n),.fel (tW t)]):=by
 refine gI 14 O (λR k0=>?_);refine y4q (fr2:=[(4,_)]) Xy ?_ O O
 (repeat (first|exact trivial|refine And.symm ⟨?_,_,rfl,?_⟩))<;>(repeat (first|exact .nil|refine .cons ?_ ?_|refine .fn ?_ ?_|(refine yxq O ?_ rfl;(first|rfl|(focus (simp;done))))|(refine .sl O ?_ rfl Xi;(first|rfl|(focus (simp;done))))|(refine .pur ?_;(first|rfl|(focus (simp;done))))|refine .agg ?_|refine .arr ?_|refine .tup ?_))
noncomputable def enc1(p:Pr):List W:=[pW p]
theorem yl_same{L:Nat}{E:Res->Prop}{b:Bool}{R1:Res}{l:List (List W)}(h:match b with|true=>Yl cfg G L E [] R1|false=>E R1):E R1:=by cases b<;>exact h
def restL(tl tr:T):Nat->List Pr
 |0=>tl.all++tr.all
 |1=>tr.all
 |_=>[]
theorem vKq{α:Type}{l:List α}{i:Nat}{x:α}(h:l[i]? =some x):l.drop i=x::l.drop (i+1):=by
 obtain⟨hl,h2⟩:=List.getElem?_eq_some_iff.1 h;rw[List.drop_eq_getElem_cons hl,h2]
theorem teach_it(t:Tree)(hv:∀(i:Nat) (k:Dig) (v:List UInt8) (l r:Int),t.nodes[i]? =some (Node.mk true k v l r) ->v.length<=70368744177664)(hb:t.nodes.length<=4611686018427387903):∀(t0:T) (n:Nat),Rep t.nodes n t0->y7q cfg G 289 [.fel (.int .i64 (n:Int)),.fel (tW t)] (t0.all.map enc1):=by
 intro t0;induction t0 with
 |nil=>
  intro n hr;obtain rfl:n=0:=by cases hr;rfl
  refine kXq (fn:=Tryz.f289) O O O (Ob rfl) (λL E R hy k0=>?_);exact zEq 15 O (jvq Qt rfl hy)
 |leaf k v=>
  intro n hr;have hle:=hr.le;cases hr with
  |leaf h=>
  rename_i n l r;have hvl:=hv _ _ _ _ _ h;refine kXq (fn:=Tryz.f289) O O O (Ob rfl) (λL E R hy k0=>?_);refine zEq 12 O ?_;refine gS 0 O (λh1=>?_) (λh1=>?_)
  ·exfalso;omega
  ·refine gA 7 O (n) (gP 0 O (ymq (i:=n) O O O O O O O (zKq nW h)) (zcq 20 O (fl_ps O O O O O O (vPq v false hvl) Xg Xg Yg (kmq O O ?_))));refine ytq rfl (qdq O O O (hy) (λb R1 hb=>?_));refine⟨by first|rfl|kernel_rfl,?_⟩;exact yTq 4 O (jvq Qt rfl (yl_same (l:=[]) hb))
 | fork tl tr ihL ihR=>
  intro n hr;have hle:=hr.le;cases hr with
  |fork h hl hr hL hR=>
  rename_i n l r k v;refine kXq (fn:=Tryz.f289) O O O (Ob rfl) (λL E R hy k0=>?_);refine zEq 12 O ?_;refine gS 0 O (λh1=>?_) (λh1=>?_)
  ·exfalso;omega
  ·refine gA 7 O (n) (gP 0 O (ymq (i:=n) O O O O O O O (zKq nW h)) (gC 18 O (q6q _) (zcq 4 O ?_)));refine ZDq (α:=Nat×Res) (λp=>p.1<=2/\Yl cfg G L E ((restL tl tr p.1).map enc1) p.2) (λp=>[(28,.int .i64 (p.1:Int))]) [(2,_),(3,_),(27,_)] (λp=>p.2) (λp=>2-p.1) ((0,R)) ⟨rfl,rfl,rfl,trivial⟩ (⟨by simp,hy⟩) ⟨rfl,trivial⟩ rfl (λp hI=>?_);obtain⟨i,R⟩:=p;obtain⟨hi,hy⟩:=hI;simp only at hi hy⊢;refine zEq 6 O ?_;refine gS 0 O (λh2=>?_) (λh2=>?_)
   ·have hi':i=0\/i=1:=by omega
    rcases hi' with rfl|rfl
    ·skip
     refine gC 14 O (teach_s t l) (zcq 3 O ?_);refine veq (enc1) (tl.all) (λi a=>Yl cfg G L E (((tl.all.drop i)++tr.all).map enc1) a) (λa=>a) (R) rfl Xk (ihL _ hL) (λy _=>⟨by simp[enc1],rfl⟩) (hy) rfl (λi a y hy hI=>?_) (λa hI=>?_)
     ·have hd:=vKq hy;rw[hd,List.cons_append,List.map_cons] at hI;refine zEq 4 O (xXq (zEq 5 O ?_));refine gSo 0 O (qdq O O O (hI) (λb R1 hb=>?_));refine gS 3 O (λh3=>?_) (λh3=>?_)
      ·cases b with
       |true=>cases h3
       |false=>
        exact yrq 2 O (jxq Xi (zDq 3 O (gO 0 O (zcq 1 O (jvq Qt rfl hb)))))
      ·cases b with
       |false=>exact absurd rfl h3
       |true=>
        exact yrq 2 O (uMq (R1) (hb) Xd Xx rfl)
     ·rw[List.drop_length,List.nil_append] at hI;exact zDq 4 O (gA 0 O (1) (gAg 2 O ((1,a)) (⟨by simp,hI⟩) Xg))
    ·skip
     refine gC 14 O (teach_s t r) (zcq 3 O ?_);refine veq (enc1) (tr.all) (λi a=>Yl cfg G L E ((tr.all.drop i).map enc1) a) (λa=>a) (R) rfl Xk (ihR _ hR) (λy _=>⟨by simp[enc1],rfl⟩) (hy) rfl (λi a y hy hI=>?_) (λa hI=>?_)
     ·have hd:=vKq hy;rw[hd,List.map_cons] at hI;refine zEq 4 O (xXq (zEq 5 O ?_));refine gSo 0 O (qdq O O O (hI) (λb R1 hb=>?_));refine gS 3 O (λh3=>?_) (λh3=>?_)
      ·cases b with
       |true=>cases h3
       |false=>
        exact yrq 2 O (jxq Xi (zDq 3 O (gO 0 O (zcq 1 O (jvq Qt rfl hb)))))
      ·cases b with
       |false=>exact absurd rfl h3
       |true=>
        exact yrq 2 O (uMq (R1) (hb) Xd Xx rfl)
     ·rw[List.drop_length] at hI;exact zDq 4 O (gA 0 O (2) (gAg 2 O ((2,a)) (⟨by simp,hI⟩) Xg))
   ·refine gO 2 O (zcq 1 O ?_);obtain rfl:i=2:=by omega
    exact jvq (.inl rfl) rfl hy
noncomputable def psW(ps:List Pr):W:=.fz (ps.map pW) 33 false
@[simp] theorem psW_p(ps:List Pr):purW (psW ps)=true:=Yaq ps
noncomputable def gat(ps:List Pr):HpW:=match ps with
 |[]=>[(0,73,.nils)]
 |_=>[(0,73,.sl 1 0 0 ps.length 33 none),(1,149,.arr (ps.length*33) 33 (ps.map pW))]
theorem gat_snoc(a:List Pr)(y:Pr):gat (a++[y])=[(0,73,.sl 1 0 0 (a.length+1) 33 none),(1,149,.arr ((a.length+1)*33) 33 (a.map pW++[pW y]))]:=by
 cases a with
 |nil=>rfl
 |cons x a=>simp[gat]
theorem pur1{a:List Pr}{y:Pr}{n:Nat}(e:Nat):purW (.arr n e (a.map pW++[pW y]))=true:=by simp
theorem aseq_s(f:FuncId)(cs:List W)(ls:List Pr)(hc:purL cs=true)(it:y7q cfg G f cs (ls.map enc1))(hb:ls.length<=1000000000):PS cfg G 288 [.nils,.fn f [] cs] (psW ls):=by
 refine gIv 13 O (λR k0=>?_);refine YKq (α:=List Pr) (enc1) (ls) (λi a=>a=ls.take i) (λa=>gat a) (λa=>(match a with|[]=>1|_=>2)) (λa=>R) ([]) rfl Xk (it) (λy _=>⟨by simp[enc1],rfl⟩) (rfl) O O O (λi a y hy hI=>?_) (λa hI=>?_)
 ·have hi:=(List.getElem?_eq_some_iff.1 hy).1;have hn:ls.take (i+1)=a++[y]:=by rw[List.take_add_one,hy,hI];rfl
  cases a with
  |nil=>
   skip
   refine zEq 4 O (xXq (zEq 5 O (gM 0 O (yRq O O (uxq (news:=[pW y]) (k:=ti149) O O O O (qfq O O O O) Xg (by show 1*ti149.bytes<=_;decide) (by show 1<=_;decide))) (zcq 3 O (xnq (ls.take (i+1)) O ?_)))));rw[hn,gat_snoc];refine yeq (b:=1) (k:=3) Xd Xd Qe trivial ⟨⟨by omega,rfl,rfl⟩,⟨by omega,?_,zbq (pur1 _)⟩,trivial⟩ Xg;rw[zdq (pur1 _)];rfl
  |cons x a=>
   have hl:(x::a).length<=1000000000:=by rw[hI,List.length_take];omega
   have el:((x::a).map pW).length=(x::a).length:=List.length_map _;refine zEq 4 O (xXq (zEq 5 O (gM 0 O (yRq O O (qcq (len:=(x::a).length) (news:=[pW y]) (olds:=(x::a).map pW) (k:=ti149) O O O O (qfq O O O O) Xg (by show((x::a).length+1)*56<=_;omega) (by show(x::a).length+1<=_;omega) rfl (by show(x::a).length*33<0+((x::a).length+1)*33;omega) rfl (zpq Xn el.symm rfl))) (zcq 3 O (xnq (ls.take (i+1)) O ?_)))));rw[hn,gat_snoc];refine yeq (b:=1) (k:=4) Xd Xd Ym trivial ⟨⟨by omega,rfl,rfl⟩,⟨by omega,?_,zbq (pur1 _)⟩,trivial⟩ Xg;rw[zdq (pur1 _)];rfl
 ·obtain rfl:a=ls:=by rw[hI,List.take_length]
  cases a with
  |nil=>
   skip
   refine zDq 9 O (k2q Xy O ?_)
   (repeat (first|exact .nil|refine .cons ?_ ?_|exact y8q|exact .nilfz|refine .fn ?_ ?_|(refine yxq O ?_ rfl;(first|rfl|(focus (simp;done))))|(refine .sl O ?_ rfl Xi;(first|rfl|(focus (simp;done))))|(refine .pur ?_;(first|rfl|(focus (simp;done))))|(refine .fzw ?_;(first|rfl|(focus (simp;done))))|refine .agg ?_|refine .arr ?_|refine .tup ?_))
  |cons x a=>
   exact zDq 9 O (k2q Xy O (.sl rfl (by show purL ((x::a).map pW)=true;exact Yaq _) (zpq Xn (List.length_map _).symm rfl) Xi))
theorem collect_s(f:FuncId)(cs:List W)(ls:List Pr)(hc:purL cs=true)(it:y7q cfg G f cs (ls.map enc1))(hb:ls.length<=1000000000):PS cfg G 219 [.fn f [] cs] (psW ls):=by
 exact gI 8 O (λR k0=>op_ps O O O O O O (aseq_s f cs ls hc it hb) (by simp[hc]) Xg (zeq 4 O (gQa 0 O)))
theorem nodup_le{α:Type} [DecidableEq α]:∀(l m:List α),l.Nodup->(∀x∈l,x∈m) ->l.length<=m.length
 |[],m,_,_=>Nat.zero_le _
 |x::l,m,hn,hs=>by
  obtain⟨h1,h2⟩:=List.nodup_cons.1 hn;have hx:=hs x Xg;have ih:=nodup_le l (m.erase x) h2 λy hy=>(List.mem_erase_of_ne (λe:y=x=>h1 (by rw[<-e];exact hy))).2 (hs y (by simp[hy]))
  rw[List.length_erase_of_mem hx] at ih;have:0<m.length:=List.length_pos_of_mem hx;simp only[List.length_cons];omega
theorem rep_mem{ns:List Node}{n:Nat}{t:T}(h:Rep ns n t):∀p∈t.all,∃(i:Nat) (l r:Int),ns[i]? =some (Node.mk true p.1 p.2 l r):=by
 induction h with
 |nil=>intro p hp;simp[T.all] at hp
 |leaf h=>intro p hp;simp only[T.all,List.mem_singleton] at hp;subst hp;exact⟨_,_,_,h⟩
 |fork h hl hr _ _ i1 i2=>
  intro p hp;rcases List.mem_append.1 hp with hp|hp
  ·exact i1 p hp
  ·exact i2 p hp
theorem srt_nodup{l:List Pr}(h:Srt l):(l.map (·.1)).Nodup:=by
 rw[List.nodup_iff_pairwise_ne,List.pairwise_map];exact h.imp λh=>xVq h
theorem IsT.srt{t:Tree}{n:Nat}{t0:T}(h:IsT t n t0):Srt t0.all:=ok_srt qQq h.ok
theorem IsT.all_le{t:Tree}{n:Nat}{t0:T}(h:IsT t n t0):t0.all.length<=t.nodes.length:=by
 have:=nodup_le (t0.all.map (·.1)) (t.nodes.map (·.key)) (srt_nodup h.srt) λk hk=>by
  obtain⟨p,hp,rfl⟩:=List.mem_map.1 hk;obtain⟨i,l,r,hx⟩:=rep_mem h.rep p hp;exact List.mem_map.2 ⟨_,List.mem_of_getElem? hx,rfl⟩
 simpa using this
theorem IsT.val{t:Tree}{n:Nat}{t0:T}(h:IsT t n t0):∀p∈t0.all,0<p.2.length/\p.2.length<=64:=λp hp=>by
 obtain⟨i,l,r,hx⟩:=rep_mem h.rep p hp;exact ugq h.okn hx
theorem QZq(t:Tree)(n:Nat)(t0:T)(h:IsT t n t0):PS cfg G 144 [tW t] (.tup [psW t0.all,.int .i64 0]):=by
 have hl:=h.len;have hy:=h.may;have ha:=h.all_le;have hr:=h.root;obtain⟨ns,root⟩:=t;simp only at hl hr ha;subst hr;exact gI 11 O (λR k0=>gC 0 O (zXq (w':=.int .i64 0) (jdq ⟨ns,(n:Int)⟩ Yo) (by rw[if_pos hy])) (zcq 17 O (yoq O O O O O O (teach_s ⟨ns,(n:Int)⟩ (n:Int)) (yoq O O O O O O (collect_s _ _ t0.all Xg (teach_it ⟨ns,(n:Int)⟩ (λi k v l r hx=>by have:=(ugq h.okn hx).2;omega) Yo t0 n h.rep) Xd) (zeq 5 O (gQa 0 O))))))
theorem tpairs_no(t:Tree)(hb:t.nodes.length<=4611686018427387903)(h:¬MayT t):PS cfg G 144 [tW t] (.tup [.nils,.int .i64 8]):=by
 exact gI 11 O (λR k0=>gC 0 O (zXq (w':=.int .i64 8) (jdq t hb) (by rw[if_neg h])) (gQa 19 O))
theorem aeach_s(t:Tree):PS cfg G 200 [tW t] (.fn 267 [] [.fel (tW t)]):=by
 refine gI 13 O (λR k0=>?_);refine y4q (fr2:=[(2,_)]) Xy ?_ O O
 (repeat (first|exact trivial|refine And.symm ⟨?_,_,rfl,?_⟩))<;>(repeat (first|exact .nil|refine .cons ?_ ?_|refine .fn ?_ ?_|(refine yxq O ?_ rfl;(first|rfl|(focus (simp;done))))|(refine .sl O ?_ rfl Xi;(first|rfl|(focus (simp;done))))|(refine .pur ?_;(first|rfl|(focus (simp;done))))|refine .agg ?_|refine .arr ?_|refine .tup ?_))
noncomputable def encA(p:Pr):List W:=[aW (jiq p.2).1,.bool (decide ((((jiq p.2).2:Nat):Int)=0))]
noncomputable def encZ(_:Unit):List W:=[aW .zero,.bool false]
theorem aeach_no(t:Tree)(hb:t.nodes.length<=4611686018427387903)(h:¬MayT t):y7q cfg G 267 [.fel (tW t)] ([()].map encZ):=by
 refine kXq (fn:=Tryz.f267) O O O (Ob rfl) (λL E R hy k0=>?_);refine zEq 3 O (gC 0 O (tpairs_no t hb h) ?_);refine gSo 19 O (qdq O O O (hy) (λb R1 hb=>?_));exact zcq 4 O (jvq Qt rfl (yl_same (l:=[]) hb))
theorem aeach_it(t:Tree)(n:Nat)(t0:T)(h:IsT t n t0):y7q cfg G 267 [.fel (tW t)] (t0.all.map encA):=by
 have e:(t0.all.map pW).length=t0.all.length:=List.length_map _;have hl:=h.len;have ha:=h.all_le;refine kXq (fn:=Tryz.f267) O O O (Ob rfl) (λL E R hy k0=>?_);refine zEq 3 O (gC 0 O (QZq t n t0 h) (gV (w':=.int .i64 (t0.all.length:Int)) 20 O Xv (zcq 4 O ?_)));refine ZDq (α:=Nat×Res) (λp=>p.1<=t0.all.length/\Yl cfg G L E ((t0.all.drop p.1).map encA) p.2) (λp=>[(21,.int .i64 (p.1:Int))]) [(0,_),(19,_),(20,_)] (λp=>p.2) (λp=>t0.all.length-p.1) ((0,R)) ⟨rfl,rfl,rfl,trivial⟩ (⟨by simp,hy⟩) ⟨rfl,trivial⟩ rfl (λp hI=>?_);obtain⟨i,R⟩:=p;obtain⟨hi,hy⟩:=hI;simp only at hi hy⊢;refine zEq 6 O ?_;refine gS 0 O (λh1=>?_) (λh1=>?_)
 ·have hi':i<t0.all.length:=by omega
  obtain⟨x,hx⟩:∃x,t0.all[i]? =some x:=⟨_,List.getElem?_eq_getElem hi'⟩
  have hv:=h.val x (List.mem_of_getElem? hx);rw[vKq hx,List.map_cons] at hy;refine gP 6 O (ymq (i:=i) O O O O O O O (zKq pW hx)) (zcq 9 O (yoq O O O O O O (aread_s x.2 false Xd) (zeq 13 O (gU 0 O ?_))));refine gSo 0 O (qdq O O O (hy) (λb R1 hb=>?_));refine gS 3 O (λh2=>?_) (λh2=>?_)
  ·cases b with
   |true=>cases h2
   |false=>
    exact yrq 3 O (gO 0 O (zcq 1 O (jvq Qt rfl hb)))
  ·cases b with
   |false=>exact absurd rfl h2
   |true=>
    exact yrq 4 O (gA 0 O (i+1) (gAg 2 O ((i+1,R1)) (⟨hi',hb⟩) Ya))
 ·refine gO 2 O (zcq 1 O ?_);obtain rfl:i=t0.all.length:=by omega
  rw[List.drop_length] at hy;exact jvq (.inl rfl) rfl hy
theorem encA_ok{l:List Pr}:∀y∈l,purL (encA y)=true/\(encA y).length=2:=λy _=>⟨rfl,rfl⟩
structure IsA(t:Tree)(n:Nat)(t0:T):Prop extends IsT t n t0 where
 held:∀p∈t0.all,(jiq p.2).2=0
def MayA(t:Tree):Prop:=∃n t0,IsA t n t0
noncomputable instance(t:Tree):Decidable (MayA t):=Classical.propDecidable _
theorem qgq(t:Tree)(hb:t.nodes.length<=4611686018427387903):PS cfg G 130 [tW t] (.int .i64 (if MayA t then 0 else 8)):=by
 by_cases h:MayT t
 ·obtain⟨n,t0,h⟩:=may_is h;refine gI 10 O (λR k0=>gC 0 O (aeach_s _) (zcq 3 O ?_));refine veq (encA) (t0.all) (λi (_:Unit)=>∀j p,j<i->t0.all[j]? =some p->(jiq p.2).2=0) (λ_=>R) (()) rfl Xk (aeach_it t n t0 h) (encA_ok) (λj p hj=>by omega) rfl (λi a y hy hI=>?_) (λa hI=>?_)
  ·refine zEq 3 O (xXq (zEq 7 O ?_));refine gS 0 O (λh1=>?_) (λh1=>?_)
   ·have hno:¬MayA t:=by
     rintro⟨n',t1,ha⟩;obtain rfl:n'=n:=by have:=ha.root;have:=h.root;omega
     obtain rfl:=ha.rep.uniq h.rep;have:=ha.held y (List.mem_of_getElem? hy);rw[this] at h1;simp at h1
    exact zcq 7 O (jxq Xi (zDq 2 O (gQ 0 O Yb)))
   ·have hok:(jiq y.2).2=0:=by simp at h1;omega
    exact zcq 2 O (uMq (()) (λj p hj hp=>by rcases Nat.lt_succ_iff_lt_or_eq.1 hj with q|rfl;exact hI j p q hp;exact(Option.some.inj (hy.symm.trans hp))▸hok) Xd Xx rfl)
  ·have yes:MayA t:=⟨n,t0,h,λp hp=>by
    obtain⟨j,hj,hjp⟩:=List.getElem_of_mem hp;exact hI j p hj (by rw[List.getElem?_eq_getElem hj,hjp])⟩
   exact zDq 8 O (gQ 0 O Yp)
 ·have hno:¬MayA t:=λ⟨n,t0,ha⟩=>h ha.toIsT.may
  refine gI 10 O (λR k0=>gC 0 O (aeach_s _) (zcq 3 O ?_));refine YLq (encZ) ([()]) (λi=>i=0) rfl Xk (aeach_no t hb h) (λy _=>⟨rfl,rfl⟩) (rfl) (λi y hy hI=>?_) (λhI=>?_)
  ·exact zEq 3 O (xXq (zEq 15 O (jqq Xi (zDq 2 O (gQ 0 O Yb)))))
  ·exfalso;simp at hI
def ysq(t0:T)(k:Dig):Acct:=match t0.find k 0 with
 |none=>.zero
 |some v=>(jiq v).1
theorem IsA.acct{t:Tree}{n:Nat}{t0:T}(h:IsA t n t0){k:Dig}{v:List UInt8}(hv:t0.find k 0=some v):(k,v)∈t0.all/\(jiq v).2=0:=by
 rw[xvq k qQq h.ok] at hv;have:=(findL_some h.srt).1 hv;exact⟨this,h.held _ this⟩
theorem QPq(t:Tree)(n:Nat)(t0:T)(h:IsA t n t0)(k:Dig):PS cfg G 278 [tW t,dW k] (.tup [aW (ysq t0 k),.int .i64 0]):=by
 have yes:MayA t:=⟨n,t0,h⟩;have hl:=h.len;cases hf:t0.find k 0 with
 |none=>
  have e:ysq t0 k= .zero:=by unfold ysq;rw[hf]
  rw[e];refine gI 12 O (λR k0=>?_);first|refine gC 0 O (zXq (w':=.int .i64 0) (qgq t Xd) Yp) ?_|refine gC 0 O (qgq _ Xd) ?_
  exact gC 16 O (zXq (w':=.tup [.nils,.bool false]) (tget_s t n t0 k h.toIsT) (by rw[hf];rfl)) (gQa 24 O)
 |some v=>
  obtain⟨h1,h2⟩:=h.acct hf;have hv:=h.val _ h1;have e:ysq t0 k=(jiq v).1:=by unfold ysq;rw[hf]
  rw[e];refine gI 12 O (λR k0=>?_);first|refine gC 0 O (zXq (w':=.int .i64 0) (qgq t Xd) Yp) ?_|refine gC 0 O (qgq _ Xd) ?_
  exact gC 16 O (zXq (w':=.tup [bW v,.bool true]) (tget_s t n t0 k h.toIsT) (by rw[hf];rfl)) (zcq 20 O (yoq O O O O O O (aread_s v false (by simp only at hv;omega)) (zeq 7 O (gQ 0 O (by rw[h2];rfl)))))
noncomputable def nsW(ns:List Node):W:=.arr (ns.length*36) 36 (ns.map nW)
@[simp] theorem q2q(ns:List Node):purW (nsW ns)=true:=vBq ns
theorem nclone_s(ns:List Node)(f:Bool)(hl:ns.length<=1000000000):ydq cfg G 131 0 [.fz (ns.map nW) 36 f] [] λw hp nw=>
  (ns=[]/\w= .nils/\hp=[]/\nw=0)\/(w= .sl 0 0 0 ns.length 36 none/\hp=[(0,230,nsW ns)]/\nw=1):=by
 intro R;have e:(ns.map nW).length=ns.length:=List.length_map _;refine gIs 9 O (λk0=>?_);first|refine ylq O O ?_|refine zqq rfl (uDq O O O O O (λbn hn=>?_))
 refine zeq 2 O ?_;refine gS 0 O (λh1=>?_) (λh1=>?_)
 ·cases bn with
  |false=>cases h1
  |true=>
   have hn:=hn rfl
   have hl0:ns=[]:=by cases ns with
    |nil=>rfl
    |cons c l=>simp at hn
   exact yrq 7 O (fin Qt Ent.refl rfl ⟨rfl,.inl ⟨hl0,rfl,rfl,rfl⟩⟩)
 ·cases ns with
  |nil=>
   skip
   exact yrq 6 O (gM 0 O (yRq O O (vRq O O O O O)) (zcq 4 O (fin Qt Ent.refl rfl ⟨rfl,.inr ⟨rfl,rfl,rfl⟩⟩)))
  |cons c l=>
   refine yrq 6 O (gM 0 O (yRq O O (qcq (len:=0) (news:=(c::l).map nW) (olds:=[]) (k:=ti230) O O O O O Xg (by show(0+((c::l).map nW).length)*ti230.bytes<=_;rw[e];show(0+(c::l).length)*80<=_;omega) (by rw[e];omega) rfl (by show 0<0+(0+((c::l).map nW).length)*36;rw[e];simp only[List.length_cons];omega) O O)) (zcq 4 O ?_));refine fin Qt (yeq (b:=0) (k:=1) (fr2:=[(2,.sl 0 0 0 (c::l).length 36 none)]) (hp2:=[(0,230,nsW (c::l))]) Xd Xd (by show 1<2;omega) ⟨⟨?_,rfl⟩,trivial⟩ ⟨⟨by omega,?_,zbq (q2q _)⟩,trivial⟩ Xg) rfl ⟨rfl,.inr ⟨rfl,rfl,rfl⟩⟩
   ·show some (W.sl 1 0 0 (0+((c::l).map nW).length) 36 none)=some (W.sl 1 0 0 (c::l).length 36 none);rw[e,Nat.zero_add]
   ·rw[zdq (q2q _)];show some (230,W.arr ((0+((c::l).map nW).length)*36) 36 ([]++(c::l).map nW))=some (230,nsW (c::l));rw[e,Nat.zero_add];rfl
theorem node_get(ns:List Node){i:Nat}{x:Node}(h:ns[i]? =some x):zZq 50 (nsW ns) (0+i*36+33) 1 false=some (bW x.val):=
 get_in (zKq nW h) Xd Xd Xg rfl
theorem node_put(ns:List Node){i:Nat}{x:Node}(h:ns[i]? =some x):qaq 50 (nsW ns) (0+i*36+33) (bW x.val)=some (nsW ns):=by
 have h1:=zKq nW h;rw[nsW,put_in (x':=nW x) h1 Xd Xd (by simp[W.isAgg,bW]) rfl,set_same h1]
theorem twin_s(ns:List Node)(root:Int)(hl:ns.length<=1000000000)(hv:∀x∈ns,x.val.length<=70368744177664):ydq cfg G 62 0 [tW ⟨ns,root⟩] [] λw hp nw=>
  (ns=[]/\w= .agg 2 [.nils,.int .i64 root]/\hp=[(1,24,.agg 2 [.nils,.int .i64 root]),(0,24,.agg 2 [.nils,.int .i64 root])]/\nw=2)\/
  (w= .agg 2 [.sl 2 0 0 ns.length 36 none,.int .i64 root]/\hp=[(2,230,nsW ns),(1,24,.agg 2 [.sl 2 0 0 ns.length 36 none,.int .i64 root]),(0,24,.agg 2 [.sl 2 0 0 ns.length 36 none,.int .i64 root])]/\nw=3):=by
 intro R;refine gIs 10 O (λk0=>?_);skip
 refine gSo 0 O (qsq O O O O O (by simp[vBq]) (nclone_s ns false hl) ?_);rintro w hp1 nw1 (⟨hn,rfl,rfl,rfl⟩|⟨rfl,rfl,rfl⟩)
 ·skip
  skip
  refine gL 9 O ?_;refine gLo (α:=Nat) 4 (λi=>i=0) (λi=>[(11,.int .i64 (i:Int))]) [1,2,10] (λi=>1-i) (0) rfl (rfl) (λi hI=>?_);subst hI;exact gO 9 O (zcq 9 O (fin Qt Ent.refl rfl ⟨rfl,.inl ⟨hn,rfl,rfl,rfl⟩⟩))
 ·rw[xmq (q2q _)];show OpW cfg G _ _ _ _ [(2,230,nsW ns),(1,24,.agg 2 [.nils,.int .i64 0]),(0,24,tW ⟨ns,root⟩)] 3 R _;refine zeq 9 O (gL 0 O ?_);refine gLo (α:=Nat) 4 (λi=>i<=ns.length) (λi=>[(11,.int .i64 (i:Int))]) [1,2,10] (λi=>ns.length-i) (0) rfl (Nat.zero_le _) (λi hI=>?_);refine gS 6 O (λh1=>?_) (λh1=>?_)
  ·have hi:i<ns.length:=by omega
   obtain⟨x,hx⟩:∃x,ns[i]? =some x:=⟨_,List.getElem?_eq_getElem hi⟩
   have hxv:=hv x (List.mem_of_getElem? hx);refine gP 17 O (yYq (i:=i) O O O O O O O hi) (gM 1 O (z2q O O O (node_get ns hx)) (fl_ps O O O O O O (vPq x.val false hxv) Xg Xg Yg ?_));refine kmq rfl (yYq (i:=i) O O O O O O O hi) (kmq O O ?_);exact v3q rfl (st_same O O O O O (node_put ns hx)) Yg (yTq 4 O (gA 0 O (i+1) (gAg 2 O (i+1) (hi) Xd)))
  ·exact gO 2 O (zcq 9 O (fin Qt Ent.refl rfl ⟨rfl,.inr ⟨rfl,rfl,rfl⟩⟩))
noncomputable def mkW(b n:Nat)(root:Int):W:=.agg 2 [.sl b 0 0 n 36 none,.int .i64 root]
theorem nsW_snoc(ns:List Node)(x:Node):nsW (ns++[x])= .arr ((ns.length+1)*36) 36 (ns.map nW++[nW x]):=by simp[nsW]
theorem node_s(ns:List Node)(root:Int)(x:Node)(hl:ns.length<=1000000000):ydq cfg G 312 2 [.ptr 0 0,nW x] [(0,377,mkW 1 ns.length root),(1,230,nsW ns)] λw hp nw=>
  w= .int .i64 ((ns.length+1:Nat):Int)/\hp=[(0,377,mkW 2 (ns.length+1) root),(2,230,nsW (ns++[x]))]/\nw=3:=by
 intro R;have el:(ns.map nW).length=ns.length:=List.length_map _;refine gIs 16 O (λk0=>?_);refine gM 0 O (yRq O O (qcq (len:=ns.length) (news:=[nW x]) (olds:=ns.map nW) (k:=ti230) O O O O (qfq O O O O) Xg (by show(ns.length+1)*80<=_;omega) (by show ns.length+1<=_;omega) rfl (by show ns.length*36<0+(ns.length+1)*36;omega) rfl (zpq Xn el.symm rfl))) (gL 13 O (zcq 4 O ?_));refine fin Qt (yeq (b:=2) (k:=4) (fr2:=[(4,.int .i64 ((ns.length+1:Nat):Int))]) (hp2:=[(0,377,mkW 2 (ns.length+1) root),(2,230,nsW (ns++[x]))]) Xd Xd Ym ⟨⟨rfl,rfl⟩,trivial⟩ ⟨⟨by omega,rfl,rfl⟩,⟨by omega,?_,zbq (q2q _)⟩,trivial⟩ Xg) rfl ⟨rfl,rfl,rfl,rfl⟩;rw[zdq (q2q _),nsW_snoc];rfl
noncomputable def Mk(root:Int)(P:List Node->Nat->Prop):W->HpW->Nat->Prop:=λw hp nw=>
 ∃ns m,P ns m/\w= .int .i64 ((m:Nat):Int)/\hp=[(0,377,mkW 2 ns.length root),(2,230,nsW ns)]/\nw=3
theorem z8q{o:Oper}{fr:FrW}{hp:HpW}{nw:Nat}{R:Res}{post:W->HpW->Nat->Res->Option EvW->Prop}{x:Operand}{xs:Array Operand}{ats:Array TypeId}{f:FuncId}{us:List W}{root:Int}{ns:List Node}{P:List Node->Nat->Prop}(k:Nat)
  (ho:o.op= .call ⟨.value x,xs,ats⟩) (hx:evW cfg G fr x=some (.fn f [] [])) (he:cfg.ext f=none) (hxs:evLW cfg G fr xs.toList=some (.ptr 0 0::us)) (hpu:purL us=true) (hk:0<k) (hkn:k<nw)
  (h0:hget hp 0=some (377,mkW k ns.length root)) (h1:hget hp k=some (230,nsW ns)) (sp:ydq cfg G f 2 (.ptr 0 0::us) [(0,377,mkW 1 ns.length root),(1,230,nsW ns)] (Mk root P))
  (hpost:∀ns' m,P ns' m->post (.int .i64 ((m:Nat):Int)) ((0,377,mkW nw ns'.length root)::(nw,230,nsW ns')::delA [0,k] hp) (nw+1) R (some .dirty)):Step cfg G o fr hp nw R post:=by
 refine zSq (ext:=[0,k]) (ws:=.ptr 0 0::us) ho hx he hxs ?_ sp ?_ ?_ Xg (ukq h0 (by rw[zdq (q2q _)];exact h1) rfl (zbq (q2q _))) ?_ ?_
 ·show .ptr 0 0::(us++[])=W.ptr 0 0::yIq (numC [0,k] nw) us;rw[jhq hpu,List.append_nil]
 ·simp;omega
 ·intro b hb;simp only[List.mem_cons,List.not_mem_nil,or_false] at hb;omega
 ·have h:=zbq (m:=2) (w:=.tup us) hpu;have h:refL 2 us=true:=h;show(refB 2 (.ptr 0 0)&&refL 2 us)=true;rw[h];rfl
 ·rintro w hp1 nw1 ⟨ns',m,h,rfl,rfl,rfl⟩
  have e:renH (numC [0,k] nw) [(0,377,mkW 2 ns'.length root),(2,230,nsW ns')]=[(0,377,mkW nw ns'.length root),(nw,230,nsW ns')]:=by
   simp only[renH,zdq (q2q _)];rfl
  have h:=hpost ns' m h;rw[show([0,k]:List Nat).length=2 from rfl,e];exact h
theorem kxq{k0:Nat}{rs:List ResultVar}{x:Exit}{fr:FrW}{hp:HpW}{nw:Nat}{R:Res}{root:Int}{P:List Node->Nat->Prop}{ns:List Node}{m:Nat}(s k:Nat)(hx:x= .normal\/x= .ret)(hk:2<=k)(hkn:k<nw)(hf:getW fr s=some (.int .i64 ((m:Nat):Int)))
  (h0:hget hp (tau1 2 k 0)=some (377,renW (tau1 2 k) (mkW 2 ns.length root))) (h1:hget hp (tau1 2 k 2)=some (230,nsW ns)) (ho:outW cfg [(s,.int .i64 ((m:Nat):Int))] [(0,377,mkW 2 ns.length root),(2,230,nsW ns)] rs=some (.int .i64 ((m:Nat):Int))) (hP:P ns m):
  QFin cfg G 2 k0 rs (λw hp nw R'=>R'=R/\Mk root P w hp nw) x fr hp nw R:=
 fin hx (yeq (b:=2) (k:=k) (fr2:=[(s,.int .i64 ((m:Nat):Int))]) (hp2:=[(0,377,mkW 2 ns.length root),(2,230,nsW ns)]) Xd hk hkn ⟨⟨hf,rfl⟩,trivial⟩ ⟨⟨by omega,h0,rfl⟩,⟨by omega,by rw[zdq (q2q _)];exact h1,zbq (q2q _)⟩,trivial⟩ Xg) ho ⟨rfl,ns,m,hP,rfl,rfl,rfl⟩
def NodeP(ns:List Node)(x:Node):List Node->Nat->Prop:=λns' m=>ns'=ns++[x]/\m=ns.length+1
theorem qyq(ns:List Node)(root:Int)(x:Node)(hl:ns.length<=1000000000):ydq cfg G 312 2 [.ptr 0 0,nW x] [(0,377,mkW 1 ns.length root),(1,230,nsW ns)] (Mk root (NodeP ns x)):=by
 have h:=node_s (G:=G) ns root x hl;intro R
 have e:(λw hp nw R'=>R'=R/\(w= .int .i64 ((ns.length+1:Nat):Int)/\hp=[(0,377,mkW 2 (ns.length+1) root),(2,230,nsW (ns++[x]))]/\nw=3))=(λ(w:W) (hp:HpW) (nw:Nat) (R':Res)=>R'=R/\Mk root (NodeP ns x) w hp nw):=by
  funext w hp nw R'
  refine propext (and_congr_right λ_=>⟨λ⟨h1,h2,h3⟩=>⟨_,_,⟨rfl,rfl⟩,h1,by rw[h2];simp,h3⟩,?_⟩);rintro⟨ns',m,⟨rfl,rfl⟩,h1,h2,h3⟩;exact⟨h1,by rw[h2];simp,h3⟩
 exact e▸h R
def Gr(ns:List Node)(f:Nat)(t:T):List Node->Nat->Prop:=λns' m=>(∃ms,ns'=ns++ms/\ms.length<=f)/\okN ns'/\Rep ns' m t
theorem okN_snoc{ns:List Node}{x:Node}(h:okN ns)(hx:oneB x ns.length):okN (ns++[x]):=λi y hy=>by
 rcases Nat.lt_trichotomy i ns.length with h1|rfl|h1
 ·rw[List.getElem?_append_left h1] at hy;exact h i y hy
 ·rw[List.getElem?_append_right (Nat.le_refl _),Nat.sub_self] at hy;cases hy;exact hx
 ·rw[List.getElem?_append_right Xd,List.getElem?_eq_none Xp] at hy;cases hy
theorem at_snoc(ns:List Node)(x:Node):(ns++[x])[ns.length]? =some x:=by simp
theorem leaf_one{k:Dig}{v:List UInt8}(hv:MayP [(k,v)])(n:Nat):oneB ⟨true,k,v,0,0⟩ n:=by simp[oneB,hv]
theorem Jsq{ns:List Node}{k:Dig}{v:List UInt8}(hok:okN ns)(hv:MayP [(k,v)]){f:Nat}(hf:0<f):Gr ns f (.leaf k v) (ns++[⟨true,k,v,0,0⟩]) (ns.length+1):=
 ⟨⟨_,rfl,hf⟩,okN_snoc hok (leaf_one hv _),.leaf (at_snoc ns _)⟩
theorem qHq{ns ms:List Node}{l r f:Nat}{L R:T}(hms:ms.length<=f)(hok:okN (ns++ms))(hl:Rep (ns++ms) l L)(hr:Rep (ns++ms) r R)(h:0<l+r):Gr ns (f+1) (.fork L R) (ns++ms++[forkN l r]) ((ns++ms).length+1):=
 ⟨⟨ms++[forkN l r],by simp,by simp;omega⟩,okN_snoc hok (by have:=hl.le;have:=hr.le;simp only[oneB,forkN,Bool.false_eq_true,if_false];exact⟨by omega,by omega,trivial,trivial,by omega⟩),.fork (at_snoc _ _) hl.le hr.le (hl.app _) (hr.app _)⟩
theorem Zsq(ns:List Node){i:Nat}{x:Node}(h:ns[i]? =some x):∃w,zZq 50 (nsW ns) (0+i*36) 36 true=some w/\(w=nW x\/(ns.length=1/\w= .arr 36 36 [nW x])):=by
 by_cases e:ns.length=1
 ·obtain⟨y,rfl⟩:=List.length_eq_one_iff.1 e;cases i with
  |zero=>cases h;exact⟨_,rfl,.inr ⟨rfl,rfl⟩⟩
  |succ i=>simp at h
 ·have hi:=(List.getElem?_eq_some_iff.1 h).1;exact⟨_,get_in (off:=0) (zKq nW h) Xd Xd (by rw[show Nat.beq 36 (ns.length*36)=false from by rw[<-Bool.not_eq_true,Nat.beq_eq];omega];simp) rfl,.inl rfl⟩
abbrev JLq(G:Nat->Option W)(root:Int)(k:Dig)(v:List UInt8)(ns:List Node)(n d:Nat)(P:List Node->Nat->Prop):Prop:=ydq cfg G 264 2 [.ptr 0 0,.int .i64 ((n:Nat):Int),.int .i64 ((d:Nat):Int),nW ⟨true,k,v,0,0⟩] [(0,377,mkW 1 ns.length root),(1,230,nsW ns)] (Mk root P)
theorem with_nil{root:Int}{k:Dig}{v:List UInt8}{ns:List Node}{d f:Nat}(hok:okN ns)(hv:MayP [(k,v)])(hf:0<f)(hl:ns.length<=1000000000):JLq G root k v ns 0 d (Gr ns f (.leaf k v)):=by
 intro R;refine gIs 13 O (λk0=>?_);refine gS 0 O (λh1=>?_) (λh1=>?_)
 ·refine zcq 4 O ?_
  (refine zqq rfl (z8q 1 O O O O Xg Xd (by show 1<3;omega) O O (qyq ns root _ hl) ?_);rintro ns1 m ⟨rfl,rfl⟩)
  exact zeq 5 O (kxq 8 3 Qt Xd Qe O O O O (Jsq hok hv hf))
 ·exfalso;omega
theorem with_hit{root:Int}{k:Dig}{v v':List UInt8}{ns:List Node}{i d f:Nat}{l r:Int}(hx:ns[i]? =some ⟨true,k,v',l,r⟩)(hok:okN ns)(hv:MayP [(k,v)])(hf:0<f)(hl:ns.length<=1000000000):JLq G root k v ns (i+1) d (Gr ns f (.leaf k v)):=by
 intro R;have hi:=(List.getElem?_eq_some_iff.1 hx).1;obtain⟨w,hw,rfl|⟨_,rfl⟩⟩:=Zsq ns hx
 ·refine gIs 13 O (λk0=>?_);refine gS 0 O (λh1=>?_) (λh1=>?_)
  ·exfalso;omega
  ·refine gA 10 O (i) (gP 0 O (yYq (i:=i) O O O O O O O hi) (gM 0 O (z2q O O O hw) ?_));refine gB 9 O (λh2=>?_) (λh2=>?_)
   ·refine gUe 5 O (ywq O O O O (yGq O O O O O O _ _ 250)) ybq ?_;refine gS 3 O (λh3=>?_) (λh3=>?_)
    ·refine zcq 4 O ?_
     (refine zqq rfl (z8q 1 O O O O Xg Xd (by show 1<4;omega) O O (qyq ns root _ hl) ?_);rintro ns1 m ⟨rfl,rfl⟩)
     exact zeq 5 O (kxq 8 4 Qt Xd Ym O O O O (Jsq hok hv hf))
    ·exfalso;exact h3 rfl
   ·exfalso;exact h2 rfl
 ·refine gIs 13 O (λk0=>?_);refine gS 0 O (λh1=>?_) (λh1=>?_)
  ·exfalso;omega
  ·refine gA 10 O (i) (gP 0 O (yYq (i:=i) O O O O O O O hi) (gM 0 O (z2q O O O hw) ?_));refine gB 9 O (λh2=>?_) (λh2=>?_)
   ·refine gUe 5 O (ywq O O O O (yGq O O O O O O _ _ 250)) ybq ?_;refine gS 3 O (λh3=>?_) (λh3=>?_)
    ·refine zcq 4 O ?_
     (refine zqq rfl (z8q 1 O O O O Xg Xd (by show 1<4;omega) O O (qyq ns root _ hl) ?_);rintro ns1 m ⟨rfl,rfl⟩)
     exact zeq 5 O (kxq 8 4 Qt Xd Ym O O O O (Jsq hok hv hf))
    ·exfalso;exact h3 rfl
   ·exfalso;exact h2 rfl
theorem with_leaf{root:Int}{k k':Dig}{v v':List UInt8}{ns:List Node}{i d f:Nat}{l r:Int}{t':T}(hx:ns[i]? =some ⟨true,k',v',l,r⟩)(hk:k'≠k)(hd:d<256)(hl:ns.length+f+1<=1000000000)(ht:t'.non=true)
  (sp:JLq G root k v ns (if bitN k d=bitN k' d then i+1 else 0) (d+1) (Gr ns f t')):JLq G root k v ns (i+1) d (Gr ns (f+1) (if bitN k d=0 then .fork t' (if bitN k d=bitN k' d then .nil else .leaf k' v') else .fork (if bitN k d=bitN k' d then .nil else .leaf k' v') t')):=by
 intro R;have hi:=(List.getElem?_eq_some_iff.1 hx).1;have b1:=qqq k d;have b2:=qqq k' d;have hc:bitN k d=0\/bitN k d=1:=by omega
 have hc':bitN k' d=0\/bitN k' d=1:=by omega
 obtain⟨w,hw,rfl|⟨_,rfl⟩⟩:=Zsq ns hx
 ·rcases hc' with hc'|hc'<;>rcases hc with hc|hc
  ·skip
   rw[if_pos (hc.trans hc'.symm)] at sp;refine gIs 13 O (λk0=>?_);refine gS 0 O (λh1=>?_) (λh1=>?_)
   ·exfalso;omega
   ·refine gA 10 O (i) ?_;refine gP 0 O (yYq (i:=i) O O O O O O O hi) ?_;refine gM 0 O (z2q O O O hw) ?_;refine gB 9 O (λh2=>?_) (λh2=>?_)
    ·refine gUe 5 O (ywq O O O O (yGq O O O O O O _ _ 250)) ybq ?_;refine gS 3 O (λh3=>?_) (λh3=>?_)
     ·exfalso;exact hk h3
     ·refine zcq 19 O ?_
      (first|refine yoq O O O O O O (yhq k' d 0 hd hc') ?_|refine yoq O O O O O O (yhq k d 0 hd hc) ?_)
      refine ylq O O ?_;refine op_ix ?_;refine zeq 8 O ?_
      (first|refine yoq O O O O O O (yhq k' d 0 hd hc') ?_|refine yoq O O O O O O (yhq k d 0 hd hc) ?_)
      refine zeq 7 O ?_;refine gX 0 O ?_;refine gA 2 O (d+1) ?_;refine zcq 1 O ?_
      (refine ytq rfl (z8q 1 O O O O Xg Xd Yi O O sp ?_);rintro ns1 m ⟨⟨ms,rfl,hms⟩,hok1,hm⟩;refine⟨by first|rfl|kernel_rfl,?_⟩)
      refine yTq 7 O ?_;refine gX 0 O ?_;refine gC 7 O (q4q _ _) ?_
      (refine zqq rfl (z8q 5 O O O O Xg Xd Xt O O (qyq _ root _ Xw) ?_);rintro ns2 m2 ⟨rfl,rfl⟩)
      refine zeq 4 O ?_;have hm0:0<m:=by have:=hm.non;rw[ht] at this;simpa using this.symm
      exact kxq 8 6 Qt Xd Yh O O O O Qm
    ·exfalso;exact h2 rfl
  ·skip
   rw[if_neg Xd] at sp;refine gIs 13 O (λk0=>?_);refine gS 0 O (λh1=>?_) (λh1=>?_)
   ·exfalso;omega
   ·refine gA 10 O (i) ?_;refine gP 0 O (yYq (i:=i) O O O O O O O hi) ?_;refine gM 0 O (z2q O O O hw) ?_;refine gB 9 O (λh2=>?_) (λh2=>?_)
    ·refine gUe 5 O (ywq O O O O (yGq O O O O O O _ _ 250)) ybq ?_;refine gS 3 O (λh3=>?_) (λh3=>?_)
     ·exfalso;exact hk h3
     ·refine zcq 19 O ?_
      (first|refine yoq O O O O O O (yhq k' d 0 hd hc') ?_|refine yoq O O O O O O (yhq k d 1 hd hc) ?_)
      refine ylq O O ?_;refine op_ix ?_;refine zeq 8 O ?_
      (first|refine yoq O O O O O O (yhq k' d 0 hd hc') ?_|refine yoq O O O O O O (yhq k d 1 hd hc) ?_)
      refine zeq 7 O ?_;refine gX 0 O ?_;refine gA 2 O (d+1) ?_;refine zcq 1 O ?_
      (refine ytq rfl (z8q 1 O O O O Xg Xd Yi O O sp ?_);rintro ns1 m ⟨⟨ms,rfl,hms⟩,hok1,hm⟩;refine⟨by first|rfl|kernel_rfl,?_⟩)
      refine yTq 7 O ?_;refine gX 0 O ?_;refine gC 7 O (q4q _ _) ?_
      (refine zqq rfl (z8q 5 O O O O Xg Xd Xt O O (qyq _ root _ Xw) ?_);rintro ns2 m2 ⟨rfl,rfl⟩)
      refine zeq 4 O ?_;have hm0:0<m:=by have:=hm.non;rw[ht] at this;simpa using this.symm
      exact kxq 8 6 Qt Xd Yh O O O O Qp
    ·exfalso;exact h2 rfl
  ·skip
   rw[if_neg Xd] at sp;refine gIs 13 O (λk0=>?_);refine gS 0 O (λh1=>?_) (λh1=>?_)
   ·exfalso;omega
   ·refine gA 10 O (i) ?_;refine gP 0 O (yYq (i:=i) O O O O O O O hi) ?_;refine gM 0 O (z2q O O O hw) ?_;refine gB 9 O (λh2=>?_) (λh2=>?_)
    ·refine gUe 5 O (ywq O O O O (yGq O O O O O O _ _ 250)) ybq ?_;refine gS 3 O (λh3=>?_) (λh3=>?_)
     ·exfalso;exact hk h3
     ·refine zcq 19 O ?_
      (first|refine yoq O O O O O O (yhq k' d 1 hd hc') ?_|refine yoq O O O O O O (yhq k d 0 hd hc) ?_)
      refine ylq O O ?_;refine op_ix ?_;refine zeq 8 O ?_
      (first|refine yoq O O O O O O (yhq k' d 1 hd hc') ?_|refine yoq O O O O O O (yhq k d 0 hd hc) ?_)
      refine zeq 7 O ?_;refine gX 0 O ?_;refine gA 2 O (d+1) ?_;refine zcq 1 O ?_
      (refine ytq rfl (z8q 1 O O O O Xg Xd Yi O O sp ?_);rintro ns1 m ⟨⟨ms,rfl,hms⟩,hok1,hm⟩;refine⟨by first|rfl|kernel_rfl,?_⟩)
      refine yTq 7 O ?_;refine gX 0 O ?_;refine gC 7 O (q4q _ _) ?_
      (refine zqq rfl (z8q 5 O O O O Xg Xd Xt O O (qyq _ root _ Xw) ?_);rintro ns2 m2 ⟨rfl,rfl⟩)
      refine zeq 4 O ?_;have hm0:0<m:=by have:=hm.non;rw[ht] at this;simpa using this.symm
      exact kxq 8 6 Qt Xd Yh O O O O Qo
    ·exfalso;exact h2 rfl
  ·skip
   rw[if_pos (hc.trans hc'.symm)] at sp;refine gIs 13 O (λk0=>?_);refine gS 0 O (λh1=>?_) (λh1=>?_)
   ·exfalso;omega
   ·refine gA 10 O (i) ?_;refine gP 0 O (yYq (i:=i) O O O O O O O hi) ?_;refine gM 0 O (z2q O O O hw) ?_;refine gB 9 O (λh2=>?_) (λh2=>?_)
    ·refine gUe 5 O (ywq O O O O (yGq O O O O O O _ _ 250)) ybq ?_;refine gS 3 O (λh3=>?_) (λh3=>?_)
     ·exfalso;exact hk h3
     ·refine zcq 19 O ?_
      (first|refine yoq O O O O O O (yhq k' d 1 hd hc') ?_|refine yoq O O O O O O (yhq k d 1 hd hc) ?_)
      refine ylq O O ?_;refine op_ix ?_;refine zeq 8 O ?_
      (first|refine yoq O O O O O O (yhq k' d 1 hd hc') ?_|refine yoq O O O O O O (yhq k d 1 hd hc) ?_)
      refine zeq 7 O ?_;refine gX 0 O ?_;refine gA 2 O (d+1) ?_;refine zcq 1 O ?_
      (refine ytq rfl (z8q 1 O O O O Xg Xd Yi O O sp ?_);rintro ns1 m ⟨⟨ms,rfl,hms⟩,hok1,hm⟩;refine⟨by first|rfl|kernel_rfl,?_⟩)
      refine yTq 7 O ?_;refine gX 0 O ?_;refine gC 7 O (q4q _ _) ?_
      (refine zqq rfl (z8q 5 O O O O Xg Xd Xt O O (qyq _ root _ Xw) ?_);rintro ns2 m2 ⟨rfl,rfl⟩)
      refine zeq 4 O ?_;have hm0:0<m:=by have:=hm.non;rw[ht] at this;simpa using this.symm
      exact kxq 8 6 Qt Xd Yh O O O O Qn
    ·exfalso;exact h2 rfl
 ·rcases hc' with hc'|hc'<;>rcases hc with hc|hc
  ·skip
   rw[if_pos (hc.trans hc'.symm)] at sp;refine gIs 13 O (λk0=>?_);refine gS 0 O (λh1=>?_) (λh1=>?_)
   ·exfalso;omega
   ·refine gA 10 O (i) ?_;refine gP 0 O (yYq (i:=i) O O O O O O O hi) ?_;refine gM 0 O (z2q O O O hw) ?_;refine gB 9 O (λh2=>?_) (λh2=>?_)
    ·refine gUe 5 O (ywq O O O O (yGq O O O O O O _ _ 250)) ybq ?_;refine gS 3 O (λh3=>?_) (λh3=>?_)
     ·exfalso;exact hk h3
     ·refine zcq 19 O ?_
      (first|refine yoq O O O O O O (yhq k' d 0 hd hc') ?_|refine yoq O O O O O O (yhq k d 0 hd hc) ?_)
      refine ylq O O ?_;refine op_ix ?_;refine zeq 8 O ?_
      (first|refine yoq O O O O O O (yhq k' d 0 hd hc') ?_|refine yoq O O O O O O (yhq k d 0 hd hc) ?_)
      refine zeq 7 O ?_;refine gX 0 O ?_;refine gA 2 O (d+1) ?_;refine zcq 1 O ?_
      (refine ytq rfl (z8q 1 O O O O Xg Xd Yi O O sp ?_);rintro ns1 m ⟨⟨ms,rfl,hms⟩,hok1,hm⟩;refine⟨by first|rfl|kernel_rfl,?_⟩)
      refine yTq 7 O ?_;refine gX 0 O ?_;refine gC 7 O (q4q _ _) ?_
      (refine zqq rfl (z8q 5 O O O O Xg Xd Xt O O (qyq _ root _ Xw) ?_);rintro ns2 m2 ⟨rfl,rfl⟩)
      refine zeq 4 O ?_;have hm0:0<m:=by have:=hm.non;rw[ht] at this;simpa using this.symm
      exact kxq 8 6 Qt Xd Yh O O O O Qm
    ·exfalso;exact h2 rfl
  ·skip
   rw[if_neg Xd] at sp;refine gIs 13 O (λk0=>?_);refine gS 0 O (λh1=>?_) (λh1=>?_)
   ·exfalso;omega
   ·refine gA 10 O (i) ?_;refine gP 0 O (yYq (i:=i) O O O O O O O hi) ?_;refine gM 0 O (z2q O O O hw) ?_;refine gB 9 O (λh2=>?_) (λh2=>?_)
    ·refine gUe 5 O (ywq O O O O (yGq O O O O O O _ _ 250)) ybq ?_;refine gS 3 O (λh3=>?_) (λh3=>?_)
     ·exfalso;exact hk h3
     ·refine zcq 19 O ?_
      (first|refine yoq O O O O O O (yhq k' d 0 hd hc') ?_|refine yoq O O O O O O (yhq k d 1 hd hc) ?_)
      refine ylq O O ?_;refine op_ix ?_;refine zeq 8 O ?_
      (first|refine yoq O O O O O O (yhq k' d 0 hd hc') ?_|refine yoq O O O O O O (yhq k d 1 hd hc) ?_)
      refine zeq 7 O ?_;refine gX 0 O ?_;refine gA 2 O (d+1) ?_;refine zcq 1 O ?_
      (refine ytq rfl (z8q 1 O O O O Xg Xd Yi O O sp ?_);rintro ns1 m ⟨⟨ms,rfl,hms⟩,hok1,hm⟩;refine⟨by first|rfl|kernel_rfl,?_⟩)
      refine yTq 7 O ?_;refine gX 0 O ?_;refine gC 7 O (q4q _ _) ?_
      (refine zqq rfl (z8q 5 O O O O Xg Xd Xt O O (qyq _ root _ Xw) ?_);rintro ns2 m2 ⟨rfl,rfl⟩)
      refine zeq 4 O ?_;have hm0:0<m:=by have:=hm.non;rw[ht] at this;simpa using this.symm
      exact kxq 8 6 Qt Xd Yh O O O O Qp
    ·exfalso;exact h2 rfl
  ·skip
   rw[if_neg Xd] at sp;refine gIs 13 O (λk0=>?_);refine gS 0 O (λh1=>?_) (λh1=>?_)
   ·exfalso;omega
   ·refine gA 10 O (i) ?_;refine gP 0 O (yYq (i:=i) O O O O O O O hi) ?_;refine gM 0 O (z2q O O O hw) ?_;refine gB 9 O (λh2=>?_) (λh2=>?_)
    ·refine gUe 5 O (ywq O O O O (yGq O O O O O O _ _ 250)) ybq ?_;refine gS 3 O (λh3=>?_) (λh3=>?_)
     ·exfalso;exact hk h3
     ·refine zcq 19 O ?_
      (first|refine yoq O O O O O O (yhq k' d 1 hd hc') ?_|refine yoq O O O O O O (yhq k d 0 hd hc) ?_)
      refine ylq O O ?_;refine op_ix ?_;refine zeq 8 O ?_
      (first|refine yoq O O O O O O (yhq k' d 1 hd hc') ?_|refine yoq O O O O O O (yhq k d 0 hd hc) ?_)
      refine zeq 7 O ?_;refine gX 0 O ?_;refine gA 2 O (d+1) ?_;refine zcq 1 O ?_
      (refine ytq rfl (z8q 1 O O O O Xg Xd Yi O O sp ?_);rintro ns1 m ⟨⟨ms,rfl,hms⟩,hok1,hm⟩;refine⟨by first|rfl|kernel_rfl,?_⟩)
      refine yTq 7 O ?_;refine gX 0 O ?_;refine gC 7 O (q4q _ _) ?_
      (refine zqq rfl (z8q 5 O O O O Xg Xd Xt O O (qyq _ root _ Xw) ?_);rintro ns2 m2 ⟨rfl,rfl⟩)
      refine zeq 4 O ?_;have hm0:0<m:=by have:=hm.non;rw[ht] at this;simpa using this.symm
      exact kxq 8 6 Qt Xd Yh O O O O Qo
    ·exfalso;exact h2 rfl
  ·skip
   rw[if_pos (hc.trans hc'.symm)] at sp;refine gIs 13 O (λk0=>?_);refine gS 0 O (λh1=>?_) (λh1=>?_)
   ·exfalso;omega
   ·refine gA 10 O (i) ?_;refine gP 0 O (yYq (i:=i) O O O O O O O hi) ?_;refine gM 0 O (z2q O O O hw) ?_;refine gB 9 O (λh2=>?_) (λh2=>?_)
    ·refine gUe 5 O (ywq O O O O (yGq O O O O O O _ _ 250)) ybq ?_;refine gS 3 O (λh3=>?_) (λh3=>?_)
     ·exfalso;exact hk h3
     ·refine zcq 19 O ?_
      (first|refine yoq O O O O O O (yhq k' d 1 hd hc') ?_|refine yoq O O O O O O (yhq k d 1 hd hc) ?_)
      refine ylq O O ?_;refine op_ix ?_;refine zeq 8 O ?_
      (first|refine yoq O O O O O O (yhq k' d 1 hd hc') ?_|refine yoq O O O O O O (yhq k d 1 hd hc) ?_)
      refine zeq 7 O ?_;refine gX 0 O ?_;refine gA 2 O (d+1) ?_;refine zcq 1 O ?_
      (refine ytq rfl (z8q 1 O O O O Xg Xd Yi O O sp ?_);rintro ns1 m ⟨⟨ms,rfl,hms⟩,hok1,hm⟩;refine⟨by first|rfl|kernel_rfl,?_⟩)
      refine yTq 7 O ?_;refine gX 0 O ?_;refine gC 7 O (q4q _ _) ?_
      (refine zqq rfl (z8q 5 O O O O Xg Xd Xt O O (qyq _ root _ Xw) ?_);rintro ns2 m2 ⟨rfl,rfl⟩)
      refine zeq 4 O ?_;have hm0:0<m:=by have:=hm.non;rw[ht] at this;simpa using this.symm
      exact kxq 8 6 Qt Xd Yh O O O O Qn
    ·exfalso;exact h2 rfl
theorem fork_one{ns:List Node}{i l r:Nat}{k':Dig}{v':List UInt8}(hx:ns[i]? =some ⟨false,k',v',l,r⟩)(hok:okN ns):k'=yzq/\v'=[]/\l<=i/\r<=i/\0<l+r:=by
 have h:=hok i _ hx;simp only[oneB,Bool.false_eq_true,if_false] at h;obtain⟨⟨_,a2⟩,⟨_,b2⟩,h1,h2,h3⟩:=h;exact⟨h1,h2,by omega,by omega,by omega⟩
theorem fork_all{ns:List Node}{i l r:Nat}{k':Dig}{v':List UInt8}(hx:ns[i]? =some ⟨false,k',v',l,r⟩)(hok:okN ns):zZq 50 (nsW ns) (0+i*36) 36 true=some (nW ⟨false,k',v',l,r⟩):=by
 obtain⟨w,hw,rfl|⟨h1,rfl⟩⟩:=Zsq ns hx
 ·exact hw
 ·obtain⟨_,_,h2,h3,h4⟩:=fork_one hx hok;have hi:=(List.getElem?_eq_some_iff.1 hx).1;omega
theorem with_fork{root:Int}{k k':Dig}{v v':List UInt8}{ns:List Node}{i d f l r:Nat}{L R t':T}(hx:ns[i]? =some ⟨false,k',v',l,r⟩)(hok:okN ns)(hL:Rep ns l L)(hR:Rep ns r R)(hd:d<256)(hl:ns.length+f+1<=1000000000)(ht:t'.non=true)
  (sp:JLq G root k v ns (if bitN k d=0 then l else r) (d+1) (Gr ns f t')):JLq G root k v ns (i+1) d (Gr ns (f+1) (if bitN k d=0 then .fork t' R else .fork L t')):=by
 intro R';have hi:=(List.getElem?_eq_some_iff.1 hx).1;have b1:=qqq k d;have hc:bitN k d=0\/bitN k d=1:=by omega
 have hw:=fork_all hx hok;rcases hc with hc|hc
 ·skip
  rw[if_pos hc] at sp;refine gIs 13 O (λk0=>?_);refine gS 0 O (λh1=>?_) (λh1=>?_)
  ·exfalso;omega
  ·refine gA 10 O (i) ?_;refine gP 0 O (yYq (i:=i) O O O O O O O hi) ?_;refine gM 0 O (z2q O O O hw) ?_;refine gB 9 O (λh2=>?_) (λh2=>?_)
   ·exfalso;cases h2
   ·refine gC 27 O (q6q _) ?_;refine gC 8 O (yhq k d 0 hd hc) ?_;refine gX 7 O ?_;refine gA 2 O (d+1) ?_;refine zcq 1 O ?_
    (refine ytq rfl (z8q 1 O O O O Xg Xd Yi O O sp ?_);rintro ns1 m ⟨⟨ms,rfl,hms⟩,hok1,hm⟩;refine⟨by first|rfl|kernel_rfl,?_⟩)
    refine yTq 7 O ?_;refine gX 0 O ?_;refine gC 7 O (q4q _ _) ?_
    (refine zqq rfl (z8q 5 O O O O Xg Xd Xt O O (qyq _ root _ Xw) ?_);rintro ns2 m2 ⟨rfl,rfl⟩)
    refine zeq 4 O ?_;have hm0:0<m:=by have:=hm.non;rw[ht] at this;simpa using this.symm
    exact kxq 8 6 Qt Xd Yh O O O O (by rw[if_pos hc];exact qHq hms hok1 hm (hR.app _) Xd)
 ·skip
  rw[if_neg Xd] at sp;refine gIs 13 O (λk0=>?_);refine gS 0 O (λh1=>?_) (λh1=>?_)
  ·exfalso;omega
  ·refine gA 10 O (i) ?_;refine gP 0 O (yYq (i:=i) O O O O O O O hi) ?_;refine gM 0 O (z2q O O O hw) ?_;refine gB 9 O (λh2=>?_) (λh2=>?_)
   ·exfalso;cases h2
   ·refine gC 27 O (q6q _) ?_;refine gC 8 O (yhq k d 1 hd hc) ?_;refine gX 7 O ?_;refine gA 2 O (d+1) ?_;refine zcq 1 O ?_
    (refine ytq rfl (z8q 1 O O O O Xg Xd Yi O O sp ?_);rintro ns1 m ⟨⟨ms,rfl,hms⟩,hok1,hm⟩;refine⟨by first|rfl|kernel_rfl,?_⟩)
    refine yTq 7 O ?_;refine gX 0 O ?_;refine gC 7 O (q4q _ _) ?_
    (refine zqq rfl (z8q 5 O O O O Xg Xd Xt O O (qyq _ root _ Xw) ?_);rintro ns2 m2 ⟨rfl,rfl⟩)
    refine zeq 4 O ?_;have hm0:0<m:=by have:=hm.non;rw[ht] at this;simpa using this.symm
    exact kxq 8 6 Qt Xd Yh O O O O (by rw[if_neg Xd];exact qHq hms hok1 (hL.app _) hm Xd)
theorem with_s(root:Int)(k:Dig)(v:List UInt8)(hv:MayP [(k,v)]):∀(f:Nat) (t:T) (ns:List Node) (n d:Nat) (b:Dig),Rep ns n t->okN ns->t.ok d b=true->d+f=256->Zr d b->d<=zMq k b->ns.length+f+1<=1000000000->JLq G root k v ns n d (Gr ns (f+1) (T.put k v f t)):=by
 intro f;induction f with
 |zero=>
  intro t ns n d b hr hok ht hf hz hk hl;cases hr with
  |nil=>exact with_nil hok hv Xd Xd
  |leaf hx=>
   rename_i n k' v' l r;have h:=of_decide_eq_true ht;have:k'=k:=ZGq λj hj=>by rw[(z3q Xd).1 h j Xd,(z3q Xd).1 hk j Xd]
   subst this;exact with_hit hx hok hv Xd Xd
  |fork hx _ _ hL hR=>
   obtain⟨hd,_⟩:=ok_fork.1 ht;omega
 |succ f ih=>
  intro t ns n d b hr hok ht hf hz hk hl;have hd:d<256:=by omega
  have ed:255-f=d:=by omega
  cases hr with
  |nil=>exact with_nil hok hv Xd Xd
  |leaf hx=>
   rename_i n k' v' l r;have h:=of_decide_eq_true ht;by_cases e:k'=k
   ·subst e;simp only[T.put,if_true];exact with_hit hx hok hv Xd Xd
   ·have b1:=qqq k' d;have b2:=qqq k d;have b3:=qqq b d
    have key:JLq G root k v ns (n+1) d (Gr ns (f+1+1) (if bitN k d=0 then .fork (T.put k v f (if bitN k d=bitN k' d then .leaf k' v' else .nil)) (if bitN k d=bitN k' d then .nil else .leaf k' v') else .fork (if bitN k d=bitN k' d then .nil else .leaf k' v') (T.put k v f (if bitN k d=bitN k' d then .leaf k' v' else .nil)))):=by
     refine with_leaf hx e hd Xd (Jdq k v f _) ?_;by_cases hb:bitN k d=0
     ·by_cases he:bitN k d=bitN k' d
      ·rw[if_pos he,if_pos he];exact ih _ ns _ (d+1) b (.leaf hx) hok (decide_eq_true (keq hz hd h Xd)) Xd (qiq hz) (keq hz hd hk hb) Xd
      ·rw[if_neg he,if_neg he];exact ih _ ns _ (d+1) b .nil hok rfl Xd (qiq hz) (keq hz hd hk hb) Xd
     ·by_cases he:bitN k d=bitN k' d
      ·rw[if_pos he,if_pos he];exact ih _ ns _ (d+1) (qwq b d) (.leaf hx) hok (decide_eq_true (kdq hz hd h Xd)) Xd (qhq hz hd) (kdq hz hd hk hb) Xd
      ·rw[if_neg he,if_neg he];exact ih _ ns _ (d+1) (qwq b d) .nil hok rfl Xd (qhq hz hd) (kdq hz hd hk hb) Xd
    have ep:T.put k v (f+1) (.leaf k' v')=(if bitN k d=0 then .fork (T.put k v f (if bitN k d=bitN k' d then .leaf k' v' else .nil)) (if bitN k d=bitN k' d then .nil else .leaf k' v') else .fork (if bitN k d=bitN k' d then .nil else .leaf k' v') (T.put k v f (if bitN k d=bitN k' d then .leaf k' v' else .nil))):=by
     simp only[T.put,ed,if_neg e,T.roads];have c1:bitN k d=0\/bitN k d=1:=by omega
     have c2:bitN k' d=0\/bitN k' d=1:=by omega
     rcases c1 with c1|c1<;>rcases c2 with c2|c2<;>simp[c1,c2]
    rw[ep];exact key
  |fork hx h1 h2 hL hR=>
   rename_i n l r k' v' tl tr;obtain⟨_,k1,k2,_⟩:=ok_fork.1 ht
   have key:JLq G root k v ns (n+1) d (Gr ns (f+1+1) (if bitN k d=0 then .fork (T.put k v f (if bitN k d=0 then tl else tr)) tr else .fork tl (T.put k v f (if bitN k d=0 then tl else tr)))):=by
    refine with_fork hx hok hL hR hd Xd (Jdq k v f _) ?_;by_cases hb:bitN k d=0
    ·rw[if_pos hb,if_pos hb];exact ih _ ns _ (d+1) b hL hok k1 Xd (qiq hz) (keq hz hd hk hb) Xd
    ·rw[if_neg hb,if_neg hb];exact ih _ ns _ (d+1) (qwq b d) hR hok k2 Xd (qhq hz hd) (kdq hz hd hk hb) Xd
   have ep:T.put k v (f+1) (.fork tl tr)=(if bitN k d=0 then .fork (T.put k v f (if bitN k d=0 then tl else tr)) tr else .fork tl (T.put k v f (if bitN k d=0 then tl else tr))):=by
    simp only[T.put,ed];by_cases hb:bitN k d=0
    ·simp only[if_pos hb]
    ·simp only[if_neg hb]
   rw[ep];exact key
noncomputable def MkO(root:Int)(ns:List Node)(S:Nat->Prop)(P:List Node->Nat->Prop):W->HpW->Nat->Prop:=λw hp nw=>
 (∃m,S m/\w= .int .i64 ((m:Nat):Int)/\hp=[(0,377,mkW 1 ns.length root),(1,230,nsW ns)]/\nw=2)\/Mk root P w hp nw
theorem step_mkO{o:Oper}{fr:FrW}{hp:HpW}{nw:Nat}{R:Res}{post:W->HpW->Nat->Res->Option EvW->Prop}{x:Operand}{xs:Array Operand}{ats:Array TypeId}{f:FuncId}{us:List W}{root:Int}{ns:List Node}{S:Nat->Prop}{P:List Node->Nat->Prop}(k:Nat)
  (ho:o.op= .call ⟨.value x,xs,ats⟩) (hx:evW cfg G fr x=some (.fn f [] [])) (he:cfg.ext f=none) (hxs:evLW cfg G fr xs.toList=some (.ptr 0 0::us)) (hpu:purL us=true) (hk:0<k) (hkn:k<nw)
  (h0:hget hp 0=some (377,mkW k ns.length root)) (h1:hget hp k=some (230,nsW ns)) (sp:ydq cfg G f 2 (.ptr 0 0::us) [(0,377,mkW 1 ns.length root),(1,230,nsW ns)] (MkO root ns S P))
  (hsame:∀m,S m->post (.int .i64 ((m:Nat):Int)) ((0,377,mkW k ns.length root)::(k,230,nsW ns)::delA [0,k] hp) nw R (some .dirty))
  (hpost:∀ns' m,P ns' m->post (.int .i64 ((m:Nat):Int)) ((0,377,mkW nw ns'.length root)::(nw,230,nsW ns')::delA [0,k] hp) (nw+1) R (some .dirty)):Step cfg G o fr hp nw R post:=by
 refine zSq (ext:=[0,k]) (ws:=.ptr 0 0::us) ho hx he hxs ?_ sp ?_ ?_ Xg (ukq h0 (by rw[zdq (q2q _)];exact h1) rfl (zbq (q2q _))) ?_ ?_
 ·show .ptr 0 0::(us++[])=W.ptr 0 0::yIq (numC [0,k] nw) us;rw[jhq hpu,List.append_nil]
 ·simp;omega
 ·intro b hb;simp only[List.mem_cons,List.not_mem_nil,or_false] at hb;omega
 ·have h:=zbq (m:=2) (w:=.tup us) hpu;have h:refL 2 us=true:=h;show(refB 2 (.ptr 0 0)&&refL 2 us)=true;rw[h];rfl
 ·rintro w hp1 nw1 (⟨m,h,rfl,rfl,rfl⟩|⟨ns',m,h,rfl,rfl,rfl⟩)
  ·have e:renH (numC [0,k] nw) [(0,377,mkW 1 ns.length root),(1,230,nsW ns)]=[(0,377,mkW k ns.length root),(k,230,nsW ns)]:=by
    simp only[renH,zdq (q2q _)];rfl
   have h:=hsame m h;rw[show([0,k]:List Nat).length=2 from rfl,e];exact h
  ·have e:renH (numC [0,k] nw) [(0,377,mkW 2 ns'.length root),(2,230,nsW ns')]=[(0,377,mkW nw ns'.length root),(nw,230,nsW ns')]:=by
    simp only[renH,zdq (q2q _)];rfl
   have h:=hpost ns' m h;rw[show([0,k]:List Nat).length=2 from rfl,e];exact h
theorem jtq{k0:Nat}{rs:List ResultVar}{x:Exit}{fr:FrW}{hp:HpW}{nw:Nat}{R:Res}{root:Int}{P:List Node->Nat->Prop}{ns0:List Node}{S:Nat->Prop}{ns:List Node}{m:Nat}(s k:Nat)(hx:x= .normal\/x= .ret)(hk:2<=k)(hkn:k<nw)(hf:getW fr s=some (.int .i64 ((m:Nat):Int)))
  (h0:hget hp (tau1 2 k 0)=some (377,renW (tau1 2 k) (mkW 2 ns.length root))) (h1:hget hp (tau1 2 k 2)=some (230,nsW ns)) (ho:outW cfg [(s,.int .i64 ((m:Nat):Int))] [(0,377,mkW 2 ns.length root),(2,230,nsW ns)] rs=some (.int .i64 ((m:Nat):Int))) (hP:P ns m):
  QFin cfg G 2 k0 rs (λw hp nw R'=>R'=R/\MkO root ns0 S P w hp nw) x fr hp nw R:=
 fin hx (yeq (b:=2) (k:=k) (fr2:=[(s,.int .i64 ((m:Nat):Int))]) (hp2:=[(0,377,mkW 2 ns.length root),(2,230,nsW ns)]) Xd hk hkn ⟨⟨hf,rfl⟩,trivial⟩ ⟨⟨by omega,h0,rfl⟩,⟨by omega,by rw[zdq (q2q _)];exact h1,zbq (q2q _)⟩,trivial⟩ Xg) ho ⟨rfl,.inr ⟨ns,m,hP,rfl,rfl,rfl⟩⟩
theorem xQq{k0:Nat}{rs:List ResultVar}{x:Exit}{fr:FrW}{hp:HpW}{nw:Nat}{R:Res}{root:Int}{P:List Node->Nat->Prop}{S:Nat->Prop}{ns:List Node}{m:Nat}(s:Nat)(hx:x= .normal\/x= .ret)(hkn:2<=nw)(hf:getW fr s=some (.int .i64 ((m:Nat):Int)))
  (h0:hget hp 0=some (377,mkW 1 ns.length root)) (h1:hget hp 1=some (230,nsW ns)) (ho:outW cfg [(s,.int .i64 ((m:Nat):Int))] [(0,377,mkW 1 ns.length root),(1,230,nsW ns)] rs=some (.int .i64 ((m:Nat):Int))) (hP:S m):
  QFin cfg G 2 k0 rs (λw hp nw R'=>R'=R/\MkO root ns S P w hp nw) x fr hp nw R:=
 fin hx (yJq (nw2:=2) (fr2:=[(s,.int .i64 ((m:Nat):Int))]) (hp2:=[(0,377,mkW 1 ns.length root),(1,230,nsW ns)]) Xd hkn ⟨hf,trivial⟩ rfl (λb y hb=>by
  match b,hb with
  |0,hb=>cases hb;exact⟨by omega,h0,rfl⟩
  |1,hb=>cases hb;exact⟨by omega,h1,zbq (q2q _)⟩
  |b+2,hb=>cases hb) Xg) ho ⟨rfl,.inl ⟨m,hP,rfl,rfl,rfl⟩⟩
theorem uUq(ns:List Node){i:Nat}{x:Node}(h:ns[i]? =some x):zZq 50 (nsW ns) (0+i*36+0) 1 false=some (.bool x.leaf):=
 get_in (zKq nW h) Xd Xd Xg rfl
theorem Rep.zero{ns:List Node}{t:T}(h:Rep ns 0 t):t= .nil:=by cases h;rfl
theorem Rep.is_leaf{ns:List Node}{n:Nat}{t:T}{x:Node}(h:Rep ns (n+1) t)(hx:ns[n]? =some x):(x.leaf=true->∃k v,t= .leaf k v)/\(x.leaf=false->∃l r,t= .fork l r):=by
 cases h with
 |leaf h2=>rw[hx] at h2;cases h2;exact⟨λ_=>⟨_,_,rfl⟩,λh=>by cases h⟩
 |fork h2=>rw[hx] at h2;cases h2;exact⟨λh=>Qb,λ_=>⟨_,_,rfl⟩⟩
theorem Zuq{ns:List Node}{l r:Nat}{L R:T}(hl:Rep ns l L)(hr:Rep ns r R)(h:l+r=0):Rep ns (l+r) (T.join L R):=by
 obtain rfl:l=0:=by omega
 obtain rfl:r=0:=by omega
 rw[hl.zero,hr.zero];exact .nil
theorem uWq{ns:List Node}{l r:Nat}{L R:T}{x:Node}(hl:Rep ns l L)(hr:Rep ns r R)(h:l=0\/r=0)(h0:0<l+r)(hx:ns[l+r-1]? =some x)(hf:x.leaf=true):Rep ns (l+r) (T.join L R):=by
 rcases h with rfl|rfl
 ·cases r with
  |zero=>omega
  |succ r=>
   have e:0+(r+1) -1=r:=by omega
   rw[e] at hx;obtain⟨k,v,rfl⟩:=(hr.is_leaf hx).1 hf;rw[hl.zero,Nat.zero_add];exact hr
 ·cases l with
  |zero=>omega
  |succ l=>
   obtain⟨k,v,rfl⟩:=(hl.is_leaf (x:=x) (by simpa using hx)).1 hf;rw[hr.zero,Nat.add_zero];exact hl
theorem uXq{ns:List Node}{l r:Nat}{L R:T}{x:Node}(hl:Rep ns l L)(hr:Rep ns r R)(h:l=0\/r=0)(h0:0<l+r)(hx:ns[l+r-1]? =some x)(hf:x.leaf=false):T.join L R= .fork L R:=by
 rcases h with rfl|rfl
 ·cases r with
  |zero=>omega
  |succ r=>
   have e:0+(r+1) -1=r:=by omega
   rw[e] at hx;obtain⟨k,v,rfl⟩:=(hr.is_leaf hx).2 hf;rw[hl.zero];rfl
 ·cases l with
  |zero=>omega
  |succ l=>
   obtain⟨k,v,rfl⟩:=(hl.is_leaf (x:=x) (by simpa using hx)).2 hf;rw[hr.zero];rfl
theorem Ztq{ns:List Node}{l r:Nat}{L R:T}(hl:Rep ns l L)(hr:Rep ns r R)(h1:0<l)(h2:0<r):T.join L R= .fork L R:=by
 cases hl with
 |nil=>omega
 |leaf=>cases hr with
  |nil=>omega
  |leaf=>rfl
  |fork=>rfl
 |fork=>cases hr with
  |nil=>omega
  |leaf=>rfl
  |fork=>rfl
abbrev WoutS(G:Nat->Option W)(root:Int)(k:Dig)(ns:List Node)(n d:Nat)(S:Nat->Prop)(P:List Node->Nat->Prop):Prop:=ydq cfg G 349 2 [.ptr 0 0,.int .i64 ((n:Nat):Int),.int .i64 ((d:Nat):Int),dW k] [(0,377,mkW 1 ns.length root),(1,230,nsW ns)] (MkO root ns S P)
theorem wout_leaf{root:Int}{k k':Dig}{v':List UInt8}{ns:List Node}{i d:Nat}{l r:Int}{P:List Node->Nat->Prop}(hx:ns[i]? =some ⟨true,k',v',l,r⟩)(hl:ns.length<=1000000000):WoutS G root k ns (i+1) d (λm=>Rep ns m .nil) P:=by
 intro R;have hi:=(List.getElem?_eq_some_iff.1 hx).1;obtain⟨w,hw,rfl|⟨_,rfl⟩⟩:=Zsq ns hx
 ·refine gIs 14 O (λk0=>?_);exact gA 0 O (i) (gP 0 O (yYq (i:=i) O O O O O O O hi) (gM 0 O (z2q O O O hw) (zcq 19 O (xQq (m:=0) 8 Qt (by show 2<=4;omega) O O O O .nil))))
 ·refine gIs 14 O (λk0=>?_);exact gA 0 O (i) (gP 0 O (yYq (i:=i) O O O O O O O hi) (gM 0 O (z2q O O O hw) (zcq 19 O (xQq (m:=0) 8 Qt (by show 2<=4;omega) O O O O .nil))))
theorem min_w(a b:Nat):W.int .i64 (match ltI (b:Int) (a:Int) with|true=>(b:Int)|false=>(a:Int))=W.int .i64 ((min a b:Nat):Int):=by
 cases h:ltI (b:Int) (a:Int) with
 |true=>have:=ltI_iff.1 h;simp only;congr 1;omega
 | false => have:¬(b:Int)<a:=λq=>by rw[ltI_iff.2 q] at h;cases h
            simp only;congr 1;omega
theorem Zxq{ns:List Node}{l r f:Nat}{L R:T}(hok:okN ns)(hl:Rep ns l L)(hr:Rep ns r R)(h:0<l+r):Gr ns (f+1) (.fork L R) (ns++[forkN l r]) (ns.length+1):=by
 have h1:=qHq (ms:=[]) (f:=f) (Nat.zero_le _) (by rw[List.append_nil];exact hok) (by rw[List.append_nil];exact hl) (by rw[List.append_nil];exact hr) h;rwa[List.append_nil] at h1
theorem wout_fork{root:Int}{k k':Dig}{v':List UInt8}{ns:List Node}{i d f l r:Nat}{L R t':T}(hx:ns[i]? =some ⟨false,k',v',l,r⟩)(hok:okN ns)(hL:Rep ns l L)(hR:Rep ns r R)(hd:d<256)(hl:ns.length+f+1<=1000000000)
  (sp:WoutS G root k ns (if bitN k d=0 then l else r) (d+1) (λm=>Rep ns m t') (Gr ns f t')):WoutS G root k ns (i+1) d (λm=>Rep ns m (if bitN k d=0 then .join t' R else .join L t')) (Gr ns (f+1) (if bitN k d=0 then .join t' R else .join L t')):=by
 intro R';have hi:=(List.getElem?_eq_some_iff.1 hx).1;have b1:=qqq k d;have hc:bitN k d=0\/bitN k d=1:=by omega
 have hw:=fork_all hx hok;rcases hc with hc|hc
 ·skip
  rw[if_pos hc] at sp;refine gIs 14 O (λk0=>?_);refine gA 0 O (i) ?_;refine gP 0 O (yYq (i:=i) O O O O O O O hi) ?_;refine gM 0 O (z2q O O O hw) ?_;refine gC 17 O (q6q _) ?_;refine gC 8 O (yhq k d 0 hd hc) ?_;refine gX 7 O ?_;refine gA 2 O (d+1) ?_;refine zcq 1 O ?_;skip
  skip
  refine gSf 0 O (step_mkO 1 O O O O Xg Xd Yi O O sp ?_ ?_)
  ·rintro m hm;refine⟨by first|rfl|kernel_rfl,?_⟩;skip
   have la:=(hm).le;have lb:=((hR)).le;have ll:ns.length<=1000000000:=by first|omega|(simp only[List.length_append];omega)
   refine gX 7 O ?_;refine gX 6 O ?_;refine gX 1 O ?_;refine gA 1 O (m+r) ?_;refine gX 5 O ?_;refine gX 1 O ?_;refine gV (w':=.int .i64 ((min m r:Nat):Int)) 1 O (min_w _ _) ?_;refine gD 0 O (λh1=>?_) (λh1=>?_)
   ·have hz:m=0\/r=0:=by omega
    refine gD 2 O (λh2=>?_) (λh2=>?_)
    ·refine zcq 24 O ?_;exact xQq (m:=m+r) 8 Qt (by show 2<=5;omega) O O O O (by rw[if_pos hc];exact Zuq hm (hR) Xd)
    ·obtain⟨y,hy⟩:∃y,ns[m+r-1]? =some y:=⟨_,List.getElem?_eq_getElem Xd⟩
     refine gA 7 O (m+r-1) ?_;refine gP 0 O (yYq (i:=m+r-1) O O O O O O O Xd) ?_;refine gM 1 O (z2q O O O (uUq ns hy)) ?_;refine gS 4 O (λh3=>?_) (λh3=>?_)
     ·refine zcq 8 O ?_;exact xQq (m:=m+r) 8 Qt (by show 2<=5;omega) O O O O (by rw[if_pos hc];exact uWq hm (hR) hz Xd hy h3)
     ·refine gC 6 O (q4q _ _) ?_
      (refine zqq rfl (z8q 1 O O O O Xg Xd Yi O O (qyq _ root _ Xu) ?_);rintro ns2 m2 ⟨rfl,rfl⟩)
      refine zeq 4 O ?_;exact jtq 8 5 Qt Xd Xt O O O O (by rw[if_pos hc,uXq hm (hR) hz Xd hy Qd];exact Zxq hok hm (hR) Xd)
   ·refine gC 25 O (q4q _ _) ?_
    (refine zqq rfl (z8q 1 O O O O Xg Xd Yi O O (qyq _ root _ Xu) ?_);rintro ns2 m2 ⟨rfl,rfl⟩)
    refine zeq 4 O ?_;exact jtq 8 5 Qt Xd Xt O O O O (by rw[if_pos hc,Ztq hm (hR) Xd Xd];exact Zxq hok hm (hR) Xd)
  ·rintro ns1 m ⟨⟨ms,rfl,hms⟩,hok1,hm⟩;refine⟨by first|rfl|kernel_rfl,?_⟩;skip
   have la:=(hm).le;have lb:=((hR.app ms)).le;have ll:(ns++ms).length<=1000000000:=by first|omega|(simp only[List.length_append];omega)
   refine gX 7 O ?_;refine gX 6 O ?_;refine gX 1 O ?_;refine gA 1 O (m+r) ?_;refine gX 5 O ?_;refine gX 1 O ?_;refine gV (w':=.int .i64 ((min m r:Nat):Int)) 1 O (min_w _ _) ?_;refine gD 0 O (λh1=>?_) (λh1=>?_)
   ·have hz:m=0\/r=0:=by omega
    refine gD 2 O (λh2=>?_) (λh2=>?_)
    ·refine zcq 24 O ?_;exact jtq (m:=m+r) 8 5 Qt Xd Xt O O O O ⟨⟨ms,rfl,by omega⟩,hok1,by rw[if_pos hc];exact Zuq hm (hR.app ms) Xd⟩
    ·obtain⟨y,hy⟩:∃y,(ns++ms)[m+r-1]? =some y:=⟨_,List.getElem?_eq_getElem Xd⟩
     refine gA 7 O (m+r-1) ?_;refine gP 0 O (yYq (i:=m+r-1) O O O O O O O Xd) ?_;refine gM 1 O (z2q O O O (uUq (ns++ms) hy)) ?_;refine gS 4 O (λh3=>?_) (λh3=>?_)
     ·refine zcq 8 O ?_;exact jtq (m:=m+r) 8 5 Qt Xd Xt O O O O ⟨⟨ms,rfl,by omega⟩,hok1,by rw[if_pos hc];exact uWq hm (hR.app ms) hz Xd hy h3⟩
     ·refine gC 6 O (q4q _ _) ?_
      (refine zqq rfl (z8q 5 O O O O Xg Xd Xt O O (qyq _ root _ Xu) ?_);rintro ns2 m2 ⟨rfl,rfl⟩)
      refine zeq 4 O ?_;exact jtq 8 6 Qt Xd Yh O O O O (by rw[if_pos hc,uXq hm (hR.app ms) hz Xd hy Qd];exact qHq hms hok1 hm (hR.app ms) Xd)
   ·refine gC 25 O (q4q _ _) ?_
    (refine zqq rfl (z8q 5 O O O O Xg Xd Xt O O (qyq _ root _ Xu) ?_);rintro ns2 m2 ⟨rfl,rfl⟩)
    refine zeq 4 O ?_;exact jtq 8 6 Qt Xd Yh O O O O (by rw[if_pos hc,Ztq hm (hR.app ms) Xd Xd];exact qHq hms hok1 hm (hR.app ms) Xd)
 ·skip
  rw[if_neg Xd] at sp;refine gIs 14 O (λk0=>?_);refine gA 0 O (i) ?_;refine gP 0 O (yYq (i:=i) O O O O O O O hi) ?_;refine gM 0 O (z2q O O O hw) ?_;refine gC 17 O (q6q _) ?_;refine gC 8 O (yhq k d 1 hd hc) ?_;refine gX 7 O ?_;refine gA 2 O (d+1) ?_;refine zcq 1 O ?_;skip
  skip
  refine gSf 0 O (step_mkO 1 O O O O Xg Xd Yi O O sp ?_ ?_)
  ·rintro m hm;refine⟨by first|rfl|kernel_rfl,?_⟩;skip
   have la:=((hL)).le;have lb:=(hm).le;have ll:ns.length<=1000000000:=by first|omega|(simp only[List.length_append];omega)
   refine gX 7 O ?_;refine gX 6 O ?_;refine gX 1 O ?_;refine gA 1 O (l+m) ?_;refine gX 5 O ?_;refine gX 1 O ?_;refine gV (w':=.int .i64 ((min l m:Nat):Int)) 1 O (min_w _ _) ?_;refine gD 0 O (λh1=>?_) (λh1=>?_)
   ·have hz:l=0\/m=0:=by omega
    refine gD 2 O (λh2=>?_) (λh2=>?_)
    ·refine zcq 24 O ?_;exact xQq (m:=l+m) 8 Qt (by show 2<=5;omega) O O O O (by rw[if_neg Xd];exact Zuq (hL) hm Xd)
    ·obtain⟨y,hy⟩:∃y,ns[l+m-1]? =some y:=⟨_,List.getElem?_eq_getElem Xd⟩
     refine gA 7 O (l+m-1) ?_;refine gP 0 O (yYq (i:=l+m-1) O O O O O O O Xd) ?_;refine gM 1 O (z2q O O O (uUq ns hy)) ?_;refine gS 4 O (λh3=>?_) (λh3=>?_)
     ·refine zcq 8 O ?_;exact xQq (m:=l+m) 8 Qt (by show 2<=5;omega) O O O O (by rw[if_neg Xd];exact uWq (hL) hm hz Xd hy h3)
     ·refine gC 6 O (q4q _ _) ?_
      (refine zqq rfl (z8q 1 O O O O Xg Xd Yi O O (qyq _ root _ Xu) ?_);rintro ns2 m2 ⟨rfl,rfl⟩)
      refine zeq 4 O ?_;exact jtq 8 5 Qt Xd Xt O O O O (by rw[if_neg Xd,uXq (hL) hm hz Xd hy Qd];exact Zxq hok (hL) hm Xd)
   ·refine gC 25 O (q4q _ _) ?_
    (refine zqq rfl (z8q 1 O O O O Xg Xd Yi O O (qyq _ root _ Xu) ?_);rintro ns2 m2 ⟨rfl,rfl⟩)
    refine zeq 4 O ?_;exact jtq 8 5 Qt Xd Xt O O O O (by rw[if_neg Xd,Ztq (hL) hm Xd Xd];exact Zxq hok (hL) hm Xd)
  ·rintro ns1 m ⟨⟨ms,rfl,hms⟩,hok1,hm⟩;refine⟨by first|rfl|kernel_rfl,?_⟩;skip
   have la:=((hL.app ms)).le;have lb:=(hm).le;have ll:(ns++ms).length<=1000000000:=by first|omega|(simp only[List.length_append];omega)
   refine gX 7 O ?_;refine gX 6 O ?_;refine gX 1 O ?_;refine gA 1 O (l+m) ?_;refine gX 5 O ?_;refine gX 1 O ?_;refine gV (w':=.int .i64 ((min l m:Nat):Int)) 1 O (min_w _ _) ?_;refine gD 0 O (λh1=>?_) (λh1=>?_)
   ·have hz:l=0\/m=0:=by omega
    refine gD 2 O (λh2=>?_) (λh2=>?_)
    ·refine zcq 24 O ?_;exact jtq (m:=l+m) 8 5 Qt Xd Xt O O O O ⟨⟨ms,rfl,by omega⟩,hok1,by rw[if_neg Xd];exact Zuq (hL.app ms) hm Xd⟩
    ·obtain⟨y,hy⟩:∃y,(ns++ms)[l+m-1]? =some y:=⟨_,List.getElem?_eq_getElem Xd⟩
     refine gA 7 O (l+m-1) ?_;refine gP 0 O (yYq (i:=l+m-1) O O O O O O O Xd) ?_;refine gM 1 O (z2q O O O (uUq (ns++ms) hy)) ?_;refine gS 4 O (λh3=>?_) (λh3=>?_)
     ·refine zcq 8 O ?_;exact jtq (m:=l+m) 8 5 Qt Xd Xt O O O O ⟨⟨ms,rfl,by omega⟩,hok1,by rw[if_neg Xd];exact uWq (hL.app ms) hm hz Xd hy h3⟩
     ·refine gC 6 O (q4q _ _) ?_
      (refine zqq rfl (z8q 5 O O O O Xg Xd Xt O O (qyq _ root _ Xu) ?_);rintro ns2 m2 ⟨rfl,rfl⟩)
      refine zeq 4 O ?_;exact jtq 8 6 Qt Xd Yh O O O O (by rw[if_neg Xd,uXq (hL.app ms) hm hz Xd hy Qd];exact qHq hms hok1 (hL.app ms) hm Xd)
   ·refine gC 25 O (q4q _ _) ?_
    (refine zqq rfl (z8q 5 O O O O Xg Xd Xt O O (qyq _ root _ Xu) ?_);rintro ns2 m2 ⟨rfl,rfl⟩)
    refine zeq 4 O ?_;exact jtq 8 6 Qt Xd Yh O O O O (by rw[if_neg Xd,Ztq (hL.app ms) hm Xd Xd];exact qHq hms hok1 (hL.app ms) hm Xd)
theorem find_fork{k:Dig}{d:Nat}{L R:T}:T.find k d (.fork L R)=(if bitN k d=0 then L.find k (d+1) else R.find k (d+1)):=rfl
theorem wout_s(root:Int)(k:Dig)(ns:List Node)(hok:okN ns):∀(t:T) (n d f:Nat) (b:Dig),Rep ns n t->t.ok d b=true->d+f=256->(t.find k d).isSome=true->ns.length+f+1<=1000000000->WoutS G root k ns n d (λm=>Rep ns m (T.drop k d t)) (Gr ns f (T.drop k d t)):=by
 intro t;induction t with
 |nil=>intro n d f b hr ht hf hs hl;cases hs
 |leaf k' v'=>
  intro n d f b hr ht hf hs hl;cases hr with
  |leaf hx=>exact wout_leaf hx Xd
 |fork tl tr ihL ihR=>
  intro n d f b hr ht hf hs hl;obtain⟨hd,k1,k2,_⟩:=ok_fork.1 ht;cases hr with
  |fork hx h1 h2 hL hR=>
   rename_i n l r k' v';cases f with
   |zero=>omega
   |succ f=>
    rw[find_fork] at hs
    have key:WoutS G root k ns (n+1) d (λm=>Rep ns m (if bitN k d=0 then .join (T.drop k (d+1) (if bitN k d=0 then tl else tr)) tr else .join tl (T.drop k (d+1) (if bitN k d=0 then tl else tr)))) (Gr ns (f+1) (if bitN k d=0 then .join (T.drop k (d+1) (if bitN k d=0 then tl else tr)) tr else .join tl (T.drop k (d+1) (if bitN k d=0 then tl else tr)))):=by
     refine wout_fork hx hok hL hR hd Xd ?_;by_cases hb:bitN k d=0
     ·rw[if_pos hb] at hs⊢;rw[if_pos hb];exact ihL l (d+1) f b hL k1 Xd hs Xd
     ·rw[if_neg hb] at hs⊢;rw[if_neg hb];exact ihR r (d+1) f (qwq b d) hR k2 Xd hs Xd
    have ep:T.drop k d (.fork tl tr)=(if bitN k d=0 then .join (T.drop k (d+1) (if bitN k d=0 then tl else tr)) tr else .join tl (T.drop k (d+1) (if bitN k d=0 then tl else tr))):=by
     simp only[T.drop];by_cases hb:bitN k d=0
     ·simp only[if_pos hb]
     ·simp only[if_neg hb]
    rw[ep];exact key
theorem step_mkJ{o:Oper}{fr:FrW}{hp:HpW}{nw:Nat}{R:Res}{post:W->HpW->Nat->Res->Option EvW->Prop}{x:Operand}{xs:Array Operand}{ats:Array TypeId}{f:FuncId}{us:List W}{root:Int}{ns:List Node}{S:Nat->Prop}{P:List Node->Nat->Prop}(j k:Nat)
  (ho:o.op= .call ⟨.value x,xs,ats⟩) (hx:evW cfg G fr x=some (.fn f [] [])) (he:cfg.ext f=none) (hxs:evLW cfg G fr xs.toList=some (.ptr j 0::us)) (hpu:purL us=true) (hjk:j≠k) (hj:j<nw) (hkn:k<nw)
  (h0:hget hp j=some (377,mkW k ns.length root)) (h1:hget hp k=some (230,nsW ns)) (sp:ydq cfg G f 2 (.ptr 0 0::us) [(0,377,mkW 1 ns.length root),(1,230,nsW ns)] (MkO root ns S P))
  (hsame:∀m,S m->post (.int .i64 ((m:Nat):Int)) ((j,377,mkW k ns.length root)::(k,230,nsW ns)::delA [j,k] hp) nw R (some .dirty))
  (hpost:∀ns' m,P ns' m->post (.int .i64 ((m:Nat):Int)) ((j,377,mkW nw ns'.length root)::(nw,230,nsW ns')::delA [j,k] hp) (nw+1) R (some .dirty)):Step cfg G o fr hp nw R post:=by
 refine zSq (ext:=[j,k]) (ws:=.ptr 0 0::us) ho hx he hxs ?_ sp ?_ ?_ Xg (ukq h0 (by rw[zdq (q2q _)];exact h1) rfl (zbq (q2q _))) ?_ ?_
 ·show .ptr j 0::(us++[])=W.ptr j 0::yIq (numC [j,k] nw) us;rw[jhq hpu,List.append_nil]
 ·simp;omega
 ·intro b hb;simp only[List.mem_cons,List.not_mem_nil,or_false] at hb;omega
 ·have h:=zbq (m:=2) (w:=.tup us) hpu;have h:refL 2 us=true:=h;show(refB 2 (.ptr 0 0)&&refL 2 us)=true;rw[h];rfl
 ·rintro w hp1 nw1 (⟨m,h,rfl,rfl,rfl⟩|⟨ns',m,h,rfl,rfl,rfl⟩)
  ·have e:renH (numC [j,k] nw) [(0,377,mkW 1 ns.length root),(1,230,nsW ns)]=[(j,377,mkW k ns.length root),(k,230,nsW ns)]:=by
    simp only[renH,zdq (q2q _)];rfl
   have h:=hsame m h;rw[show([j,k]:List Nat).length=2 from rfl,e];exact h
  ·have e:renH (numC [j,k] nw) [(0,377,mkW 2 ns'.length root),(2,230,nsW ns')]=[(j,377,mkW nw ns'.length root),(nw,230,nsW ns')]:=by
    simp only[renH,zdq (q2q _)];rfl
   have h:=hpost ns' m h;rw[show([j,k]:List Nat).length=2 from rfl,e];exact h
theorem mkO_of{f:FuncId}{ws:List W}{hp:HpW}{root:Int}{ns:List Node}{P:List Node->Nat->Prop}(h:ydq cfg G f 2 ws hp (Mk root P)):ydq cfg G f 2 ws hp (MkO root ns (λ_=>False) P):=jCq h λ_ _ _ h=>.inr h
noncomputable def nilM(root:Int):W:=.agg 2 [.nils,.int .i64 root]
noncomputable def Mk0(root:Int)(P:List Node->Nat->Prop):W->HpW->Nat->Prop:=λw hp nw=>
 ∃ns m,P ns m/\w= .int .i64 ((m:Nat):Int)/\hp=[(0,377,mkW 1 ns.length root),(1,230,nsW ns)]/\nw=2
theorem step_mk0{o:Oper}{fr:FrW}{hp:HpW}{nw:Nat}{R:Res}{post:W->HpW->Nat->Res->Option EvW->Prop}{x:Operand}{xs:Array Operand}{ats:Array TypeId}{f:FuncId}{us:List W}{root:Int}{P:List Node->Nat->Prop}(j:Nat)
  (ho:o.op= .call ⟨.value x,xs,ats⟩) (hx:evW cfg G fr x=some (.fn f [] [])) (he:cfg.ext f=none) (hxs:evLW cfg G fr xs.toList=some (.ptr j 0::us)) (hpu:purL us=true) (hj:j<nw)
  (h0:hget hp j=some (377,nilM root)) (sp:ydq cfg G f 1 (.ptr 0 0::us) [(0,377,nilM root)] (Mk0 root P))
  (hpost:∀ns' m,P ns' m->post (.int .i64 ((m:Nat):Int)) ((j,377,mkW nw ns'.length root)::(nw,230,nsW ns')::delA [j] hp) (nw+1) R (some .dirty)):Step cfg G o fr hp nw R post:=by
 refine zSq (ext:=[j]) (ws:=.ptr 0 0::us) ho hx he hxs ?_ sp Xg ?_ Xg (kYq h0 rfl) ?_ ?_
 ·show .ptr j 0::(us++[])=W.ptr j 0::yIq (numC [j] nw) us;rw[jhq hpu,List.append_nil]
 ·intro b hb;simp only[List.mem_cons,List.not_mem_nil,or_false] at hb;omega
 ·have h:=zbq (m:=1) (w:=.tup us) hpu;have h:refL 1 us=true:=h;show(refB 1 (.ptr 0 0)&&refL 1 us)=true;rw[h];rfl
 ·rintro w hp1 nw1 ⟨ns',m,h,rfl,rfl,rfl⟩
  have e:renH (numC [j] nw) [(0,377,mkW 1 ns'.length root),(1,230,nsW ns')]=[(j,377,mkW nw ns'.length root),(nw,230,nsW ns')]:=by
   simp only[renH,zdq (q2q _)];rfl
  have h:=hpost ns' m h;rw[show([j]:List Nat).length=1 from rfl,e];exact h
theorem fin_mk0{k0:Nat}{rs:List ResultVar}{x:Exit}{fr:FrW}{hp:HpW}{nw:Nat}{R:Res}{root:Int}{P:List Node->Nat->Prop}{ns:List Node}{m:Nat}(s k:Nat)(hx:x= .normal\/x= .ret)(hk:1<=k)(hkn:k<nw)(hf:getW fr s=some (.int .i64 ((m:Nat):Int)))
  (h0:hget hp (tau1 1 k 0)=some (377,renW (tau1 1 k) (mkW 1 ns.length root))) (h1:hget hp (tau1 1 k 1)=some (230,nsW ns)) (ho:outW cfg [(s,.int .i64 ((m:Nat):Int))] [(0,377,mkW 1 ns.length root),(1,230,nsW ns)] rs=some (.int .i64 ((m:Nat):Int))) (hP:P ns m):
  QFin cfg G 1 k0 rs (λw hp nw R'=>R'=R/\Mk0 root P w hp nw) x fr hp nw R:=
 fin hx (yeq (b:=1) (k:=k) (fr2:=[(s,.int .i64 ((m:Nat):Int))]) (hp2:=[(0,377,mkW 1 ns.length root),(1,230,nsW ns)]) Xd hk hkn ⟨⟨hf,rfl⟩,trivial⟩ ⟨⟨by omega,h0,rfl⟩,⟨by omega,by rw[zdq (q2q _)];exact h1,zbq (q2q _)⟩,trivial⟩ Xg) ho ⟨rfl,ns,m,hP,rfl,rfl,rfl⟩
theorem node_0(root:Int)(x:Node):ydq cfg G 312 1 [.ptr 0 0,nW x] [(0,377,nilM root)] (Mk0 root λns m=>ns=[x]/\m=1):=by
 intro R;refine gIs 16 O (λk0=>?_);exact gM 0 O (yRq O O (uxq (news:=[nW x]) (k:=ti230) O O O O (qfq O O O O) Xg (by show 1*ti230.bytes<=_;decide) (by show 1<=_;decide))) (gL 13 O (zcq 4 O (fin_mk0 (ns:=[x]) (m:=1) 4 3 Qt Xd Qe O O O O ⟨rfl,rfl⟩)))
theorem with_0{root:Int}{k:Dig}{v:List UInt8}{d:Int}:ydq cfg G 264 1 [.ptr 0 0,.int .i64 ((0:Nat):Int),.int .i64 d,nW ⟨true,k,v,0,0⟩] [(0,377,nilM root)] (Mk0 root λns m=>ns=[⟨true,k,v,0,0⟩]/\m=1):=by
 intro R;refine gIs 13 O (λk0=>?_);refine gS 0 O (λh1=>?_) (λh1=>?_)
 ·refine zcq 4 O ?_
  (refine zqq rfl (step_mk0 0 O O O O Xg (by show 0<2;omega) rfl (node_0 root _) ?_);rintro ns1 m ⟨rfl,rfl⟩)
  exact zeq 5 O (fin_mk0 (ns:=[⟨true,k,v,0,0⟩]) (m:=1) 8 2 Qt Xd (by show 2<3;omega) O O O O ⟨rfl,rfl⟩)
 ·exfalso;omega
def Ext(t t':Tree):Prop:=∃ms,t'.nodes=t.nodes++ms/\ms.length<=257
theorem Ext.refl(t:Tree):Ext t t:=⟨[],by simp,by simp⟩
def PutA(t:Tree)(t0:T):W->Prop:=λw=>∃t' n,IsT t' n t0/\Ext t t'/\w= .tup [tW t',.int .i64 0]
theorem voq{hp:HpW}{b:Nat}{ns:List Node}{root:Int}(h:hget hp b=some (230,nsW ns)):View (blkA hp) (mkW b ns.length root) (tW ⟨ns,root⟩):=
 .agg (.cons (.sl (c:=nsW ns) (by unfold blkA;rw[h]) (q2q ns) (zpq Xn (List.length_map _).symm rfl) Xi) (.cons (.pur rfl) .nil))
theorem ist_put{ns ns':List Node}{n m:Nat}{t0:T}{k:Dig}{v:List UInt8}(h:IsT ⟨ns,(n:Int)⟩ n t0)(hl:ns.length<=261844)(hg:Gr ns 257 (t0.put k v 256) ns' m):IsT ⟨ns',(m:Int)⟩ m (t0.put k v 256):=by
 obtain⟨⟨ms,rfl,hms⟩,hok,hr⟩:=hg;exact⟨by simp only[List.length_append];omega,hok,rfl,hr,(jyq k v 256 t0 (d:=0) (b:=yzq) rfl qQq h.ok (Nat.zero_le _)).1⟩
theorem tput_s(t:Tree)(n:Nat)(t0:T)(k:Dig)(v:List UInt8)(f:Bool)(h:IsT t n t0)(hv:MayP [(k,v)])(hl:t.nodes.length<=261844):PE cfg G 194 [tW t,dW k,.fz (zaq v) 1 f] (PutA t (t0.put k v 256)):=by
 have hy:=h.may;have hr:=h.root;obtain⟨ns,root⟩:=t;simp only at hr hl;subst hr
 have hvl:v.length<=70368744177664:=by
  have h2:=(hv.2 0 Xg (k,v) rfl).1;simp only[valB,Bool.and_eq_true,decide_eq_true_eq] at h2;omega
 have e:(ns.map nW).length=ns.length:=List.length_map _
 have hvals:∀x∈ns,x.val.length<=70368744177664:=λx hx=>by
  obtain⟨i,hi⟩:=List.getElem?_of_mem hx;have h1:=h.okn i x hi;obtain⟨lf,k',v',l,r⟩:=x;cases lf with
  |true=>have:=(ugq h.okn hi).2;simp only;omega
  |false=>simp only[oneB,Bool.false_eq_true,if_false] at h1;simp only;rw[h1.2.2.2.1];simp
 refine gIe 12 O (λR k0=>gC 0 O (vPq _ _ (by first|assumption|(simp;omega))) (gC 10 O (zXq (w':=.int .i64 0) (jdq ⟨ns,(n:Int)⟩ Yo) (by rw[if_pos hy])) ?_));refine gD 0 O (λh1=>?_) (λh1=>?_)
 ·exfalso;exact h1 rfl
 ·refine gC 2 O (zXq (w':=.bool true) (one_s ⟨true,k,v,0,0⟩ 0 Xd) (by rw[decide_eq_true (leaf_one hv 0)])) (gV (w':=.int .i64 (ns.length:Int)) 10 O Xv (gU 0 O ?_));refine gS 3 O (λh2=>?_) (λh2=>?_)
  ·exfalso;omega
  ·refine zcq 6 O ?_;skip
   skip
   refine gSo 0 O (qsq O O O O O (by simp[vBq]) (twin_s ns (n:Int) Xd hvals) ?_);rintro w hp1 nw1 (⟨hn,rfl,rfl,rfl⟩|⟨rfl,rfl,rfl⟩)
   ·subst hn;obtain rfl:n=0:=by have:=h.rep.le;simpa using this
    skip
    refine zcq 15 O ?_
    (refine ytq rfl (step_mk0 6 O O O O (by simp[renW]) Yh rfl (with_0 (k:=k) (v:=v)) ?_);rintro ns1 m ⟨rfl,rfl⟩;refine⟨by first|rfl|kernel_rfl,?_⟩)
    refine yTq 17 O ?_;obtain rfl:=h.rep.zero;refine yqq (w':=.tup [tW ⟨[⟨true,k,v,0,0⟩],((1:Nat):Int)⟩,.int .i64 0]) Qt rfl (.tup (.cons (voq (b:=7) (ns:=[⟨true,k,v,0,0⟩]) (root:=((1:Nat):Int)) rfl) (.cons (.pur rfl) .nil))) Xg ⟨_,1,?_,⟨[⟨true,k,v,0,0⟩],rfl,by simp⟩,rfl⟩;refine ist_put (n:=0) h Xg ?_;rw[show T.put k v 256 .nil= .leaf k v from by simp[T.put]];exact Jsq (ns:=[]) h.okn hv Xd
   ·skip
    refine zcq 15 O ?_
    (refine ytq rfl (step_mkJ 7 6 O O O O (by simp[renW]) Xd (by show 7<8;omega) (by show 6<8;omega) rfl (by show some (230,renW _ (nsW ns))=_;rw[zdq (q2q ns)]) (mkO_of (with_s (n:Int) k v hv 256 t0 ns n 0 yzq h.rep h.okn h.ok rfl qQq (Nat.zero_le _) Xd)) ?_ ?_);exact λm hm=>hm.elim;rintro ns1 m hg;refine⟨by first|rfl|kernel_rfl,?_⟩)
    exact yTq 17 O (yqq (w':=.tup [tW ⟨ns1,(m:Int)⟩,.int .i64 0]) Qt rfl (.tup (.cons (voq (b:=8) (ns:=ns1) (root:=(m:Int)) rfl) (.cons (.pur rfl) .nil))) Xg ⟨_,m,ist_put h hl hg,hg.1,rfl⟩)
theorem IsT.vals{ns:List Node}{n:Nat}{root:Int}{t0:T}(h:IsT ⟨ns,root⟩ n t0):∀x∈ns,x.val.length<=70368744177664:=λx hx=>by
 obtain⟨i,hi⟩:=List.getElem?_of_mem hx;have h1:=h.okn i x hi;obtain⟨lf,k',v',l,r⟩:=x;cases lf with
 |true=>have:=(ugq h.okn hi).2;simp only;omega
 |false=>simp only[oneB,Bool.false_eq_true,if_false] at h1;simp only;rw[h1.2.2.2.1];simp
theorem tdrop_s(t:Tree)(n:Nat)(t0:T)(k:Dig)(h:IsT t n t0)(hs:(t0.find k 0).isSome=true)(hl:t.nodes.length<=261844):PE cfg G 342 [tW t,dW k] (PutA t (t0.drop k 0)):=by
 have hy:=h.may;have hr:=h.root;obtain⟨ns,root⟩:=t;simp only at hr hl;subst hr;have e:(ns.map nW).length=ns.length:=List.length_map _;have hvals:=h.vals;have hok:=(u8q k t0 qQq h.ok hs).1;obtain⟨m,f1,f2,f3⟩:=fto_of (k:=k) h.rep h.ok;obtain⟨v0,hv0⟩:=Option.isSome_iff_exists.1 hs;obtain⟨j,l0,r0,rfl,hx⟩:=f3 v0 hv0;have hj:=(List.getElem?_eq_some_iff.1 hx).1;refine gIe 13 O (λR k0=>?_);refine gC 0 O (zXq (w':=.int .i64 0) (jdq ⟨ns,(n:Int)⟩ Yo) (by rw[if_pos hy])) ?_;refine gU 0 O ?_;refine gC 8 O (tfind_s ⟨ns,(n:Int)⟩ k n _ rfl f1 Yo) ?_;refine gU 0 O ?_;refine gS 3 O (λh1=>?_) (λh1=>?_)
 ·exfalso;omega
 ·refine gV (w':=.int .i64 (ns.length:Int)) 4 O Xv ?_;refine gU 0 O ?_;refine gS 3 O (λh2=>?_) (λh2=>?_)
  ·exfalso;omega
  ·refine zcq 6 O ?_;skip
   refine gSo 0 O (qsq O O O O O (by simp[vBq]) (twin_s ns (n:Int) Xd hvals) ?_);rintro w hp1 nw1 (⟨hn,rfl,rfl,rfl⟩|⟨rfl,rfl,rfl⟩)
   ·exfalso
    subst hn;simp at hj
   ·skip
    refine zcq 15 O ?_;skip
    refine gSf 0 O (step_mkJ 6 5 O O O O (by simp[renW]) Xd Yh (by show 5<7;omega) rfl (by show some (230,renW _ (nsW ns))=_;rw[zdq (q2q ns)]) (wout_s (n:Int) k ns h.okn t0 n 0 256 yzq h.rep h.ok rfl hs Xd) ?_ ?_)
    ·skip
     skip
     intro m hm;refine⟨by first|rfl|kernel_rfl,?_⟩;skip
     refine zcq 17 O ?_;exact yqq (w':=.tup [tW ⟨ns,(m:Int)⟩,.int .i64 0]) Qt rfl (.tup (.cons (voq (b:=5) (ns:=ns) (root:=(m:Int)) rfl) (.cons (.pur rfl) .nil))) Xg ⟨⟨ns,(m:Int)⟩,m,⟨h.len,h.okn,rfl,hm,hok⟩,⟨[],by simp,by simp⟩,rfl⟩
    ·rintro ns1 m ⟨⟨ms,rfl,hms⟩,hok1,hm⟩;refine⟨by first|rfl|kernel_rfl,?_⟩;skip
     refine zcq 17 O ?_;exact yqq (w':=.tup [tW ⟨ns++ms,(m:Int)⟩,.int .i64 0]) Qt rfl (.tup (.cons (voq (b:=7) (ns:=ns++ms) (root:=(m:Int)) rfl) (.cons (.pur rfl) .nil))) Xg ⟨⟨ns++ms,(m:Int)⟩,m,⟨by simp only[List.length_append];omega,hok1,rfl,hm,hok⟩,⟨ms,rfl,by omega⟩,rfl⟩
noncomputable def setL(l:List Pr)(k:Dig)(a:Acct):List Pr:=if a= .zero then j2q l k else xgq l k (kaq a)
def SetA(t:Tree)(t0:T)(k:Dig)(a:Acct):W->Prop:=λw=>∃t' n t1,IsA t' n t1/\t1.all=setL t0.all k a/\Ext t t'/\w= .tup [tW t',.int .i64 0]
noncomputable def noT:W:=.agg 2 [.nils,.int .i64 0]
theorem mayp_bytes(k:Dig)(a:Acct):MayP [(k,kaq a)]:=by
 refine⟨by simp,λi hi x hx=>?_⟩;obtain rfl:i=0:=by simpa using hi
 cases hx;exact⟨by simp[valB,kaq,beB],λy h0=>by omega⟩
theorem aset_s(t:Tree)(n:Nat)(t0:T)(k:Dig)(a:Acct)(h:IsA t n t0)(ha:a.ok)(hl:t.nodes.length<=261844):PE cfg G 322 [tW t,dW k,aW a] (SetA t t0 k a):=by
 have yes:MayA t:=⟨n,t0,h⟩;by_cases hz:a= .zero
 ·subst hz;have hvals:∀x∈t.nodes,x.val.length<=70368744177664:=IsT.vals (root:=t.root) h.toIsT
  cases hf:t0.find k 0 with
  |none=>
   have hno:j2q t0.all k=t0.all:=kCq (findL_none.1 (by rw[<-xvq k qQq h.ok];exact hf));have hall:t0.all=setL t0.all k .zero:=by unfold setL;rw[if_pos rfl,hno]
   refine gIe 13 O (λR k0=>gC 0 O (zXq (w':=.int .i64 0) (qgq t Xd) Yp) (gP 17 O (k7q O O O O (JCq .zero .zero)) (gC 10 O (zXq (w':=.tup [.nils,.bool false]) (tget_s t n t0 k h.toIsT) (by rw[hf];rfl)) (zcq 17 O ?_))));skip
   skip
   refine gSo 0 O (qsq O O O O O (by simp[vBq]) (twin_s t.nodes t.root Xd hvals) ?_);rintro w hp1 nw1 (⟨hn,rfl,rfl,rfl⟩|⟨rfl,rfl,rfl⟩)
   ·skip
    refine zcq 6 O ?_;refine yqq (w':=.tup [tW t,.int .i64 0]) Qt rfl (.tup (.cons (.agg (.cons ?_ (.cons (.pur rfl) .nil))) (.cons (.pur rfl) .nil))) Xg ⟨t,n,t0,h,hall,.refl t,rfl⟩;rw[hn];exact .nilfz
   ·skip
    exact zcq 6 O (yqq (w':=.tup [tW t,.int .i64 0]) Qt rfl (.tup (.cons (voq (b:=6) (ns:=t.nodes) (root:=t.root) (by show some (230,renW _ (nsW t.nodes))=_;rw[zdq (q2q t.nodes)])) (.cons (.pur rfl) .nil))) Xg ⟨t,n,t0,h,hall,.refl t,rfl⟩)
  |some v=>
   have hs:(t0.find k 0).isSome=true:=by rw[hf];rfl
   have hd:=(u8q k t0 qQq h.ok hs).2;refine gIe 13 O (λR k0=>gC 0 O (zXq (w':=.int .i64 0) (qgq t Xd) Yp) (gP 17 O (k7q O O O O (JCq .zero .zero)) (gC 10 O (zXq (w':=.tup [bW v,.bool true]) (tget_s t n t0 k h.toIsT) (by rw[hf];rfl)) (gE 20 O (tdrop_s t n t0 k h.toIsT hs hl) ?_))));rintro w hw ⟨t',n',ht',hx,rfl⟩;exact zcq 7 O (yqq (w':=.tup [tW t',.int .i64 0]) Qt rfl (.pur Xg) Xg ⟨t',n',_,⟨ht',λp hp=>h.held p (by rw[hd] at hp;exact(mem_withoutL.1 hp).1)⟩,by rw[hd];unfold setL;rw[if_pos rfl],hx,rfl⟩)
 ·have hp:=(jyq k (kaq a) 256 t0 (d:=0) (b:=yzq) rfl qQq h.ok (Nat.zero_le _)).2;have e:eqW cfg 300 169 (aW a) (aW .zero)=some false:=by rw[JCq,decide_eq_false hz]
  refine gIe 13 O (λR k0=>gC 0 O (zXq (w':=.int .i64 0) (qgq t Xd) Yp) (gP 17 O (k7q O O O O e) (gC 8 O (abytes_s a ha) (gE 0 O (tput_s t n t0 k (kaq a) false h.toIsT (mayp_bytes k a) hl) ?_))));rintro w hw ⟨t',n',ht',hx,rfl⟩;refine zcq 8 O ?_
  exact yqq (w':=.tup [tW t',.int .i64 0]) Qt rfl (.pur Xg) Xg ⟨t',n',_,⟨ht',λp hq=>by
   rw[hp] at hq;rcases mem_withL.1 hq with rfl|⟨q,_⟩
   ·simp only;rw[read_bytes a ha hz]
   ·exact h.held p q⟩,by rw[hp];unfold setL;rw[if_neg hz],hx,rfl⟩
theorem krq{o:Oper}{fr:FrW}{hp:HpW}{nw:Nat}{R:Res}{post:W->HpW->Nat->Res->Option EvW->Prop}{x:Operand}{xs:Array Operand}{ats:Array TypeId}{f:FuncId}{a b:Nat}
  (ho:o.op= .call ⟨.value x,xs,ats⟩) (hx:evW cfg G fr x=some (.fn f [] [])) (he:cfg.ext f=some add64V) (hxs:evLW cfg G fr xs.toList=some [.int .u64 ((a:Nat):Int),.int .u64 ((b:Nat):Int),.int .u64 ((0:Nat):Int)])
  (hpost:post (.tup [.int .u64 (((a+b)%18446744073709551616:Nat):Int),.int .u64 (((a+b)/18446744073709551616:Nat):Int)]) hp nw R (some .gen)):Step cfg G o fr hp nw R post:=by
 refine step_ext ho hx he hxs (λΓ vs h=>?_) hpost;simp only[List.nil_append,List.append_nil,RVL_cons,RV_int] at h;obtain⟨v1,vs1,rfl,rfl,v2,vs2,rfl,rfl,v3,vs3,rfl,rfl,h⟩:=h;obtain rfl:vs3=[]:=by simpa[RVL] using h
 refine⟨.tup [.int .u64 (.ofNat ((a+b+0)%18446744073709551616)),.int .u64 (.ofNat ((a+b+0)/18446744073709551616))],rfl,?_⟩;rw[RV_tup];refine⟨_,rfl,?_⟩;simp only[RVL_cons,RV_int];exact⟨_,_,rfl,rfl,_,_,rfl,rfl,rfl⟩
def QUq(t:Tree)(m:Nat):Prop:=m<t.nodes.length\/∃i x,i<=m/\t.nodes[i]? =some x/\100<x.val.length
noncomputable instance(t:Tree)(m:Nat):Decidable (QUq t m):=Classical.propDecidable _
theorem great_s(t:Tree)(m:Nat)(hb:t.nodes.length<=4611686018427387903)(hm:m<=4611686018427387903):PS cfg G 105 [tW t,.int .i64 (m:Int)] (.bool (decide (QUq t m))):=by
 have e:(t.nodes.map nW).length=t.nodes.length:=List.length_map _;refine gI 13 O (λR k0=>?_);refine gLo (α:=Nat) 0 (λi=>i<=t.nodes.length/\∀j x,j<i->t.nodes[j]? =some x->x.val.length<=100) (λi=>[(5,.int .i64 (i:Int))]) [1,2,4] (λi=>t.nodes.length-i) (0) rfl (⟨Nat.zero_le _,λj x h=>by omega⟩) (λi hI=>?_);obtain⟨hI,hJ⟩:=hI;refine gV (w':=.int .i64 (t.nodes.length:Int)) 6 O Xv ?_;refine gD 0 O (λh1=>?_) (λh1=>?_)
 ·have hi:i<t.nodes.length:=by omega
  obtain⟨x,hx⟩:∃x,t.nodes[i]? =some x:=⟨_,List.getElem?_eq_getElem hi⟩
  have ex:=zgq x.val;refine gU 3 O ?_;refine gS 3 O (λh2=>?_) (λh2=>?_)
  ·refine gP 9 O (ymq (i:=i) O O O O O O O (zKq nW hx)) ?_;refine gV (w':=.int .i64 (x.val.length:Int)) 2 O (by rw[<-ex];rfl) ?_;refine gS 3 O (λh3=>?_) (λh3=>?_)
   ·refine gO 8 O ?_;exact gQ 2 O (by rw[decide_eq_true (show QUq t m from .inr ⟨i,x,by omega,hx,by omega⟩)])
   ·refine gA 5 O (i+1) ?_;exact gAg 2 O (i+1) (⟨hi,λj y hj hy=>by rcases Nat.lt_succ_iff_lt_or_eq.1 hj with q|rfl;exact hJ j y q hy;have:=Option.some.inj (hx.symm.trans hy);subst this;omega⟩) Xd
  ·refine gO 2 O ?_;refine gV (w':=.int .i64 (t.nodes.length:Int)) 6 O Xv ?_;refine gU 1 O ?_;exact gQ 4 O (by rw[decide_eq_true (show QUq t m from .inl Xd)];congr 1;exact decide_eq_true (show(m:Int)<(t.nodes.length:Int) by omega))
 ·refine gO 10 O ?_;refine gV (w':=.int .i64 (t.nodes.length:Int)) 6 O Xv ?_;refine gU 1 O ?_;refine gQ 4 O ?_;congr 1
  refine decide_eq_decide.2 ⟨λq=>.inl (show m<t.nodes.length by have q:(m:Int)<(t.nodes.length:Int):=q;omega),?_⟩;rintro(q|⟨j,x,_,hx,hq⟩)
  ·show(m:Int)<(t.nodes.length:Int);omega
  ·have:=hJ j x (by have:=(List.getElem?_eq_some_iff.1 hx).1;omega) hx;omega
def StA(w0:W)(P:Tree->T->Prop):W->HpW->Nat->Prop:=λw hp nw=>∃t n t0,IsA t n t0/\P t t0/\w=w0/\hp=[(0,392,tW t)]/\nw=1
theorem fin_st{k0:Nat}{rs:List ResultVar}{x:Exit}{fr:FrW}{hp:HpW}{nw:Nat}{R:Res}{w0:W}{P:Tree->T->Prop}{t:Tree}{n:Nat}{t0:T}(fr2:FrW)(hx:x= .normal\/x= .ret)(hf:subF fr fr2)(hr:fr2.all (λp=>refB 1 p.2)=true)(hn:1<=nw)(hh:hget hp 0=some (392,tW t))(ho:outW cfg fr2 [(0,392,tW t)] rs=some w0)(h:IsA t n t0)(hP:P t t0):
  QFin cfg G 1 k0 rs (λw hp nw R'=>R'=R/\StA w0 P w hp nw) x fr hp nw R:=
 fin hx (yJq (nw2:=1) (hp2:=[(0,392,tW t)]) (Nat.le_refl 1) hn hf hr (λb x hb=>by
  match b,hb with
  |0,hb=>cases hb;exact⟨by omega,hh,zbq (y0q t)⟩
  |b+1,hb=>cases hb) Xg) ho ⟨rfl,t,n,t0,h,hP,rfl,rfl,rfl⟩
theorem kIq{o:Oper}{fr:FrW}{hp:HpW}{nw:Nat}{R:Res}{post:W->HpW->Nat->Res->Option EvW->Prop}{x:Operand}{xs:Array Operand}{ats:Array TypeId}{f:FuncId}{us:List W}{t:Tree}{w0:W}{P:Tree->T->Prop}(j:Nat)
  (ho:o.op= .call ⟨.value x,xs,ats⟩) (hx:evW cfg G fr x=some (.fn f [] [])) (he:cfg.ext f=none) (hxs:evLW cfg G fr xs.toList=some (.ptr j 0::us)) (hpu:purL us=true) (hj:j<nw) (hw0:purW w0=true)
  (h0:hget hp j=some (392,tW t)) (sp:ydq cfg G f 1 (.ptr 0 0::us) [(0,392,tW t)] (StA w0 P))
  (hpost:∀t' n' t1,IsA t' n' t1->P t' t1->post w0 ((j,392,tW t')::delA [j] hp) nw R (some .dirty)):Step cfg G o fr hp nw R post:=by
 refine zSq (ext:=[j]) (ws:=.ptr 0 0::us) ho hx he hxs ?_ sp Xg ?_ Xg (kYq (by rw[zdq (y0q t)];exact h0) (zbq (y0q t))) ?_ ?_
 ·show .ptr j 0::(us++[])=W.ptr j 0::yIq (numC [j] nw) us;rw[jhq hpu,List.append_nil]
 ·intro b hb;simp only[List.mem_cons,List.not_mem_nil,or_false] at hb;omega
 ·have h:=zbq (m:=1) (w:=.tup us) hpu;have h:refL 1 us=true:=h;show(refB 1 (.ptr 0 0)&&refL 1 us)=true;rw[h];rfl
 ·rintro w hp1 nw1 ⟨t',n',t1,h1,h2,rfl,rfl,rfl⟩
  have e:renH (numC [j] nw) [(0,392,tW t')]=[(j,392,tW t')]:=by
   simp only[renH,zdq (y0q t')];rfl
  have h:=hpost t' n' t1 h1 h2;rw[e,zdq hw0];exact h
theorem asked_s(t:Tree)(hb:t.nodes.length<=4611686018427387903):PS cfg G 274 [tW t] (.int .i64 (if MayA t then 0 else 8)):=by
 exact gI 9 O (λR k0=>gC 0 O (qgq t hb) (gQa 4 O))
theorem full_s(t:Tree)(hb:t.nodes.length<=4611686018427387903):PS cfg G 275 [tW t] (.bool (decide (260944<t.nodes.length))):=by
 have e:(t.nodes.map nW).length=t.nodes.length:=List.length_map _;refine gI 10 O (λR k0=>?_);refine gV (w':=.int .i64 (t.nodes.length:Int)) 0 O Xv ?_;refine gU 0 O ?_;exact gQ 4 O (by congr 1;rw[decide_eq_decide];omega)
def j1q(t:Tree)(m:Nat)(l:List Pr):Tree->T->Prop:=λt' t1=>t1.all=l/\∃ms,t'.nodes=t.nodes++ms/\ms.length<=m
theorem turn_st(t:Tree)(n:Nat)(t0:T)(k:Dig)(a:Acct)(h:IsA t n t0)(ha:a.ok)(hl:t.nodes.length<=261844):ydq cfg G 279 1 [.ptr 0 0,dW k,aW a] [(0,392,tW t)] (StA (.tup []) (j1q t 257 (setL t0.all k a))):=by
 intro R;refine gIs 14 O (λk0=>?_);refine gE 0 O (aset_s t n t0 k a h ha hl) ?_;rintro w hw ⟨t',n',t1,ht',hall,hx,rfl⟩;refine gS 14 O (λh1=>?_) (λh1=>?_)
 ·exact zcq 7 O (fin_st [] (.inl rfl) trivial rfl Xd O O ht' ⟨hall,hx⟩)
 ·exfalso;omega
theorem readA_ok(l:List UInt8):(jiq l).1.ok:=by
 unfold jiq;split
 ·exact⟨Nat.zero_lt_succ _,Nat.zero_lt_succ _⟩
 ·split
  ·exact⟨Nat.zero_lt_succ _,Nat.zero_lt_succ _⟩
  ·split
   ·exact⟨Nat.zero_lt_succ _,Nat.zero_lt_succ _⟩
   ·have h1:=Jlq (l.take 8);have h2:=Jlq (l.drop 8);rw[show(l.take 8).length=8 by rw[List.length_take];omega] at h1;rw[show(l.drop 8).length=8 by rw[List.length_drop];omega] at h2;exact⟨h1,h2⟩
theorem YXq(t0:T)(k:Dig):(ysq t0 k).ok:=by
 unfold ysq;split
 ·exact⟨Nat.zero_lt_succ _,Nat.zero_lt_succ _⟩
 ·exact readA_ok _
theorem more_no(t:Tree)(n:Nat)(t0:T)(k:Dig)(c:Nat)(h:IsA t n t0)(hc:c<18446744073709551616)(ho:18446744073709551616<=(ysq t0 k).balance+c):ydq cfg G 276 1 [.ptr 0 0,dW k,.int .u64 (c:Int)] [(0,392,tW t)] (StA (.bool false) (j1q t 257 t0.all)):=by
 intro R;have hA:=(YXq t0 k).2;refine gIs 13 O (λk0=>?_);refine gC 0 O (QPq t n t0 h k) (zcq 13 O ?_)
 (refine zqq rfl (krq (a:=(ysq t0 k).balance) (b:=c) O O O O ?_))
 refine zeq 2 O (gV (w':=.int .u64 ((1:Nat):Int)) 0 O (congrArg (λq:Nat=>W.int .u64 (q:Int)) Xd) ?_);refine gS 11 O (λh1=>?_) (λh1=>?_)
 ·exact zcq 7 O (fin_st [(6,.bool false)] Qt ⟨rfl,trivial⟩ rfl Xd O O h ⟨rfl,[],by simp,by simp⟩)
 ·exfalso;omega
theorem more_st(t:Tree)(n:Nat)(t0:T)(k:Dig)(c:Nat)(h:IsA t n t0)(ho:(ysq t0 k).balance+c<18446744073709551616)(hl:t.nodes.length<=261844):ydq cfg G 276 1 [.ptr 0 0,dW k,.int .u64 (c:Int)] [(0,392,tW t)] (StA (.bool true) (j1q t 257 (setL t0.all k ⟨(ysq t0 k).nonce,(ysq t0 k).balance+c⟩))):=by
 intro R;have hA:=(YXq t0 k).1;refine gIs 13 O (λk0=>?_);refine gC 0 O (QPq t n t0 h k) (zcq 13 O ?_)
 (refine zqq rfl (krq (a:=(ysq t0 k).balance) (b:=c) O O O O ?_))
 refine ylq O O (jOq (w':=.int .u64 (((ysq t0 k).balance+c:Nat):Int)) O O (congrArg (λq:Nat=>W.int .u64 (q:Int)) Xd) ?_);refine jOq (w':=.int .u64 ((0:Nat):Int)) O O (congrArg (λq:Nat=>W.int .u64 (q:Int)) Xd) (zeq 11 O ?_);refine gS 0 O (λh1=>?_) (λh1=>?_)
 ·exfalso;omega
 ·refine zcq 14 O ?_
  (refine zqq rfl (kIq 0 O O O O Xg (by show 0<3;omega) O O (turn_st t n t0 k ⟨(ysq t0 k).nonce,(ysq t0 k).balance+c⟩ h ⟨hA,ho⟩ hl) ?_);rintro t' n' t1 h' hP)
  exact zeq 8 O (fin_st [(6,.bool true)] Qt ⟨rfl,trivial⟩ rfl Xd O O h' hP)
theorem x5q(t:Tree)(hl:t.nodes.length<=1000000000)(hv:∀x∈t.nodes,x.val.length<=70368744177664):PS cfg G 62 [tW t] (tW t):=λR=>
 uEq (jCq (twin_s t.nodes t.root hl hv) (Q:=λw hp _=>View (blkA hp) w (tW t)) (λw hp nw h=>by
  rcases h with ⟨hn,rfl,rfl,rfl⟩|⟨rfl,rfl,rfl⟩
  ·refine .agg (.cons ?_ (.cons (.pur rfl) .nil));rw[hn];exact .nilfz
  ·exact voq (b:=2) (ns:=t.nodes) (root:=t.root) rfl) R)
structure Depo where
 number:Nat
 to:Dig
 amount:Nat
noncomputable def pdW(d:Depo):W:=.agg 34 [.int .u64 (d.number:Int),dW d.to,.int .u64 (d.amount:Int)]
@[simp] theorem ufq(d:Depo):purW (pdW d)=true:=by simp[pdW]
def overB(t0:T)(d:Depo):Prop:=18446744073709551616<=(ysq t0 d.to).balance+d.amount
instance(t0:T)(d:Depo):Decidable (overB t0 d):=inferInstanceAs (Decidable (_<=_))
noncomputable def givL(t0:T)(d:Depo):List Pr:=if overB t0 d then t0.all else setL t0.all d.to ⟨(ysq t0 d.to).nonce,(ysq t0 d.to).balance+d.amount⟩
def givC(t0:T)(d:Depo):Nat:=if overB t0 d then 151 else 0
def GivA(t:Tree)(t0:T)(d:Depo):W->Prop:=λw=>∃t' n' t1,IsA t' n' t1/\j1q t 257 (givL t0 d) t' t1/\w= .tup [tW t',.int .i64 (givC t0 d:Nat),.int .i64 0]
theorem give_s(t:Tree)(n:Nat)(t0:T)(d:Depo)(h:IsA t n t0)(hd:d.amount<18446744073709551616)(hl:t.nodes.length<=260944):PE cfg G 210 [tW t,pdW d] (GivA t t0 d):=by
 have yes:MayA t:=⟨n,t0,h⟩;have hvals:∀x∈t.nodes,x.val.length<=70368744177664:=IsT.vals (root:=t.root) h.toIsT
 by_cases ho:overB t0 d
 ·skip
  refine gIe 14 O (λR k0=>gC 0 O (zXq (w':=.int .i64 0) (asked_s t Xd) Yp) (gU 0 O (gC 7 O (zXq (w':=.bool false) (full_s t Xd) (by rw[decide_eq_false Xd])) (gC 10 O (x5q t Xd hvals) (zcq 13 O ?_)))))
  (refine zqq rfl (kIq 3 O O O O Xg Qe O O (more_no t n t0 d.to d.amount h hd ho) ?_);rintro t' n' t1 h' hP)
  refine zeq 17 O ?_;refine yqq (w':=.tup [tW t',.int .i64 151,.int .i64 0]) Qt rfl (.pur Xg) Xg ⟨t',n',t1,h',?_,?_⟩
  ·unfold givL;rw[if_pos ho];exact hP
  ·unfold givC;rw[if_pos ho];rfl
 ·have ho':(ysq t0 d.to).balance+d.amount<18446744073709551616:=Nat.lt_of_not_le ho;refine gIe 14 O (λR k0=>gC 0 O (zXq (w':=.int .i64 0) (asked_s t Xd) Yp) (gU 0 O (gC 7 O (zXq (w':=.bool false) (full_s t Xd) (by rw[decide_eq_false Xd])) (gC 10 O (x5q t Xd hvals) (zcq 13 O ?_)))))
  (refine zqq rfl (kIq 3 O O O O Xg Qe O O (more_st t n t0 d.to d.amount h ho' Xd) ?_);rintro t' n' t1 h' hP)
  refine zeq 18 O ?_;refine yqq (w':=.tup [tW t',.int .i64 0,.int .i64 0]) Qt rfl (.pur Xg) Xg ⟨t',n',t1,h',?_,?_⟩
  ·unfold givL;rw[if_neg ho];exact hP
  ·unfold givC;rw[if_neg ho];rfl
end
noncomputable def rotN(x n:Nat):Nat:=Nat.lor (Nat.shiftLeft x (32-n)%4294967296%4294967296) (Nat.shiftRight x n%4294967296)
noncomputable def addN(a b:Nat):Nat:=(a+b)%4294967296
noncomputable def xorN(a b:Nat):Nat:=Nat.xor (a%4294967296) (b%4294967296)
noncomputable def andN(a b:Nat):Nat:=Nat.land (a%4294967296) (b%4294967296)
noncomputable def shrN(a k:Nat):Nat:=Nat.shiftRight a (min k 32)
noncomputable def shlN(a k:Nat):Nat:=Nat.shiftLeft a (min k 32)%4294967296
noncomputable def orN(a b:Nat):Nat:=Nat.lor (a%4294967296) (b%4294967296)
noncomputable def notN(a:Nat):Nat:=Nat.xor (4294967295%4294967296) (a%4294967296)
noncomputable def wd(x:Nat):W:=.int .u32 (.ofNat x)
theorem jcq(n:Nat)(hn:n=2\/n=6\/n=7\/n=11\/n=13\/n=17\/n=18\/n=19\/n=22\/n=25)(G:Nat->Option W)(x:Nat):PS cfg G 273 [wd x,.int .i64 (.ofNat n)] (wd (rotN x n)):=by
 have key:∀h,qlq cfg 20 273 [.int .u32 (.ofNat x),.int .i64 (.ofNat n)] h=some (.int .u32 (.ofNat (rotN x n)),h):=by
  intro h;rcases hn with rfl|rfl|rfl|rfl|rfl|rfl|rfl|rfl|rfl|rfl<;>kernel_rfl
 refine jCq (spec_run key (λΓ us h=>?_) (λΓ=>RV_int.2 rfl)) λw hp nw h=>h.1
 obtain⟨v,vs,rfl,h1,h2⟩:=RVL_cons.1 h;obtain⟨v',vs',rfl,h3,h4⟩:=RVL_cons.1 h2;rw[RVL_nil.1 h4,RV_int.1 h1,RV_int.1 h3]
section
attribute [local irreducible] CoW OpW FlW Step Spec
noncomputable def wordN(b0 b1 b2 b3:Nat):Nat:=orN (orN (orN (shlN (b0%4294967296) 24) (shlN (b1%4294967296) 16)) (shlN (b2%4294967296) 8)) (b3%4294967296)
noncomputable def nextW(bs:Nat->Nat)(l:List Nat):Nat:=match Nat.blt l.length 16 with
 |true=>wordN (bs (4*l.length)) (bs (4*l.length+1)) (bs (4*l.length+2)) (bs (4*l.length+3))
 |false=>addN (addN (addN (l.getD (l.length-16) 0) (xorN (xorN (rotN (l.getD (l.length-15) 0) 7) (rotN (l.getD (l.length-15) 0) 18)) (shrN (l.getD (l.length-15) 0) 3))) (l.getD (l.length-7) 0)) (xorN (xorN (rotN (l.getD (l.length-2) 0) 17) (rotN (l.getD (l.length-2) 0) 19)) (shrN (l.getD (l.length-2) 0) 10))
noncomputable def y9q(bs:Nat->Nat):Nat->List Nat
 |0=>[]
 |t+1=>y9q bs t++[nextW bs (y9q bs t)]
theorem sched_len(bs:Nat->Nat):∀t,(y9q bs t).length=t
 |0=>rfl
 |t+1=>by simp[y9q,sched_len bs t]
theorem Joq{l:List Nat}{i:Nat}(h:i<l.length):(l.map wd)[i]? =some (wd (l.getD i 0)):=by
 simp[List.getElem?_map,List.getElem?_eq_getElem h,List.getD]
noncomputable def kW:List Nat:=[1116352408,1899447441,3049323471,3921009573,961987163,1508970993,2453635748,2870763221,3624381080,310598401,607225278,1426881987,1925078388,2162078206,2614888103,3248222580,3835390401,4022224774,264347078,604807628,770255983,1249150122,1555081692,1996064986,2554220882,2821834349,2952996808,3210313671,3336571891,3584528711,113926993,338241895,666307205,773529912,1294757372,1396182291,1695183700,1986661051,2177026350,2456956037,2730485921,2820302411,3259730800,3345764771,3516065817,3600352804,4094571909,275423344,430227734,506948616,659060556,883997877,958139571,1322822218,1537002063,1747873779,1955562222,2024104815,2227730452,2361852424,2428436474,2756734187,3204031479,3329325298]
noncomputable def glK:Nat->Option W:=λg=>match g with
 |0=>some (.arr 64 1 (kW.map wd))
 |_=>none
noncomputable def pad0(l:List Nat)(n:Nat):List Nat:=l++List.replicate (n-l.length) 0
theorem pad0_at{l:List Nat}{n i:Nat}(h:i<l.length):((pad0 l n).map wd)[i]? =some (wd (l.getD i 0)):=by
 have:i<(pad0 l n).length:=by simp[pad0];omega
 rw[Joq this];simp[pad0,List.getD,List.getElem?_append,h]
theorem pad0_ge{l:List Nat}{n:Nat}(h:l.length<n):((pad0 l n).map wd)[l.length]? =some (wd 0):=by
 have:l.length<(pad0 l n).length:=by simp[pad0];omega
 rw[Joq this];simp[pad0,List.getD,List.getElem?_append,List.getElem?_replicate,show 0<n-l.length by omega]
theorem pad0_set{l:List Nat}{n x:Nat}(h:l.length<n):((pad0 l n).map wd).set l.length (wd x)=(pad0 (l++[x]) n).map wd:=by
 rw[<-List.map_set];congr 1
 unfold pad0;rw[List.set_append_right _ _ (Nat.le_refl _)];have:n-l.length=(n-(l++[x]).length)+1:=by simp;omega
 rw[this,Nat.sub_self,List.replicate_succ,List.set_cons_zero,List.append_assoc];rfl
structure S8 where
 (a b c d e f g h:Nat)
noncomputable def S8.l(s:S8):List W:=[wd s.a,wd s.b,wd s.c,wd s.d,wd s.e,wd s.f,wd s.g,wd s.h]
noncomputable def roundN(k w:Nat)(v:S8):S8:=
 let one:=addN (addN (addN (addN v.h (xorN (xorN (rotN v.e 6) (rotN v.e 11)) (rotN v.e 25))) (xorN (andN v.e v.f) (andN (notN v.e) v.g))) k) w
 let two:=addN (xorN (xorN (rotN v.a 2) (rotN v.a 13)) (rotN v.a 22)) (xorN (xorN (andN v.a v.b) (andN v.a v.c)) (andN v.b v.c))
 ⟨addN one two,v.a,v.b,v.c,addN v.d one,v.e,v.f,v.g⟩
noncomputable def Qmq(ws:List Nat)(s:S8):Nat->S8
 |0=>s
 |t+1=>roundN (kW.getD t 0) (ws.getD t 0) (Qmq ws s t)
noncomputable def add8(s v:S8):S8:=⟨addN s.a v.a,addN s.b v.b,addN s.c v.c,addN s.d v.d,addN s.e v.e,addN s.f v.f,addN s.g v.g,addN s.h v.h⟩
noncomputable def x3q(bs:Nat->Nat)(s:S8):S8:=add8 s (Qmq (y9q bs 64) s 64)
theorem kW_len:kW.length=64:=rfl
noncomputable def S8.get(s:S8):Nat->Nat
 |0=>s.a
 |1=>s.b
 |2=>s.c
 |3=>s.d
 |4=>s.e
 |5=>s.f
 |6=>s.g
 |_=>s.h
noncomputable def mix8(s v:S8)(i:Nat):List W:=(add8 s v).l.take i++s.l.drop i
theorem lt8{i:Nat}(h:i<8):i=0\/i=1\/i=2\/i=3\/i=4\/i=5\/i=6\/i=7:=by omega
theorem S8_at(s:S8){k:Nat}(h:k<8):s.l[0+k*1]? =some (wd (s.get k)):=by rcases lt8 h with rfl|rfl|rfl|rfl|rfl|rfl|rfl|rfl<;>rfl
theorem mix_at(s v:S8){k:Nat}(h:k<8):(mix8 s v k)[0+k*1]? =some (wd (s.get k)):=by rcases lt8 h with rfl|rfl|rfl|rfl|rfl|rfl|rfl|rfl<;>rfl
theorem mix_set(s v:S8){k:Nat}(h:k<8):(mix8 s v k).set (0+k*1) (wd (addN (s.get k) (v.get k)))=mix8 s v (k+1):=by rcases lt8 h with rfl|rfl|rfl|rfl|rfl|rfl|rfl|rfl<;>rfl
theorem block_s(s:S8)(bs:Nat->Nat)(c:W)(base off:Nat)(lim:Option Nat)(ty:TypeId)(hc:refB 2 c=true)(hby:∀i,i<64->zZq 50 c (off+i*1) 1 false=some (.int .u8 (.ofNat (bs i))))(R:Res):
  Spec cfg glK 209 2 [.ptr 0 0,.sl 1 base off 64 1 lim] [(0,327,.arr 8 1 s.l),(1,ty,c)] R λw hp nw R'=>R'=R/\w= .tup []/\hp=[(0,327,.arr 8 1 (x3q bs s).l),(1,ty,c)]/\nw=2:=by
 refine gIs 12 O (λk0=>?_);refine j8q (α:=Nat) (λt=>t<=64) (λt=>[(19,.int .i64 (t:Int))]) [(0,_),(1,_),(4,_)] (λt=>[(2,388,.arr 64 1 ((pad0 (y9q bs t) 64).map wd)),(0,327,.arr 8 1 s.l),(1,ty,c)]) (λt=>64-t) (0) ⟨rfl,rfl,rfl,trivial⟩ (Nat.zero_le _) ⟨rfl,trivial⟩ (rfl) (λt hI=>?_);have hl:=sched_len bs t;refine zEq 6 O ?_;refine gS 0 O (λh1=>?_) (λh1=>?_)
 ·have ht1:t<64:=by omega
  have h0:((pad0 (y9q bs t) 64).map wd)[0+t*1]? =some (wd 0):=by
   have:=pad0_ge (l:=y9q bs t) (n:=64) Xd;rw[hl] at this;simpa using this
  have key:∀x,nextW bs (y9q bs t)=x->((pad0 (y9q bs t) 64).map wd).set (0+t*1) (wd x)=(pad0 (y9q bs (t+1)) 64).map wd:=λx hx=>by
   have:=pad0_set (l:=y9q bs t) (n:=64) (x:=x) Xd;rw[hl] at this;rw[Nat.zero_add,Nat.mul_one,this,y9q,hx]
  refine gS 17 O (λh2=>?_) (λh2=>?_)
  ·have ht2:t<16:=by omega
   have hb:nextW bs (y9q bs t)=wordN (bs (4*t)) (bs (4*t+1)) (bs (4*t+2)) (bs (4*t+3)):=by
    unfold nextW;rw[hl,show Nat.blt t 16=true by simpa[Nat.blt_eq] using ht2]
   refine gA 5 O (4*t) ?_;refine gP 0 O (yYq (i:=4*t) O O O O O O O Xd) ?_;refine gM 0 O (z2q O O O (hby _ Xd)) ?_;refine gA 4 O (4*t) ?_;refine gA 0 O (4*t+1) ?_;refine gP 0 O (yYq (i:=4*t+1) O O O O O O O Xd) ?_;refine gM 0 O (z2q O O O (hby _ Xd)) ?_;refine gA 5 O (4*t) ?_;refine gA 0 O (4*t+2) ?_;refine gP 0 O (yYq (i:=4*t+2) O O O O O O O Xd) ?_;refine gM 0 O (z2q O O O (hby _ Xd)) ?_;refine gA 5 O (4*t) ?_;refine gA 0 O (4*t+3) ?_;refine gP 0 O (yYq (i:=4*t+3) O O O O O O O Xd) ?_;refine gM 0 O (z2q O O O (hby _ Xd)) ?_;refine gX 2 O ?_;refine gM 0 O (jKq O O O O O (kSq h0 O O) (congrArg (λL=>[(2,388,W.arr 64 1 L),(0,327,.arr 8 1 s.l),(1,ty,c)]) (key _ hb))) ?_;refine gWr 7 O ?_;refine zcq 2 O ?_;exact j4q (t+1) (ht1) Xd ⟨rfl,trivial⟩ ⟨rfl,rfl,rfl,trivial⟩ rfl
  ·have ht2:¬t<16:=by omega
   have hA:∀k,k<t->((pad0 (y9q bs t) 64).map wd)[0+k*1]? =some (wd ((y9q bs t).getD k 0)):=λk hk=>by
    rw[Nat.zero_add,Nat.mul_one];exact pad0_at Xd
   have hb:nextW bs (y9q bs t)=addN (addN (addN ((y9q bs t).getD (t-16) 0) (xorN (xorN (rotN ((y9q bs t).getD (t-15) 0) 7) (rotN ((y9q bs t).getD (t-15) 0) 18)) (shrN ((y9q bs t).getD (t-15) 0) 3))) ((y9q bs t).getD (t-7) 0)) (xorN (xorN (rotN ((y9q bs t).getD (t-2) 0) 17) (rotN ((y9q bs t).getD (t-2) 0) 19)) (shrN ((y9q bs t).getD (t-2) 0) 10)):=by
    unfold nextW;rw[show Nat.blt (y9q bs t).length 16=false by rw[hl];exact Bool.eq_false_iff.2 λq=>ht2 (by simpa[Nat.blt_eq] using q)];simp only[hl]
   refine gA 5 O (t-15) ?_;refine gX 0 O ?_;refine gM 0 O (z2q O O O (qCq (hA _ Xd) rfl)) ?_;refine gA 1 O (t-2) ?_;refine gX 0 O ?_;refine gM 0 O (z2q O O O (qCq (hA _ Xd) rfl)) ?_;refine gA 7 O (t-16) ?_;refine gX 0 O ?_;refine gM 0 O (z2q O O O (qCq (hA _ Xd) rfl)) ?_;refine gC 1 O (jcq _ Xn _ _) ?_;refine gC 1 O (jcq _ Xn _ _) ?_;refine gA 6 O (t-7) ?_;refine gX 0 O ?_;refine gM 0 O (z2q O O O (qCq (hA _ Xd) rfl)) ?_;refine gC 2 O (jcq _ Xn _ _) ?_;refine gC 1 O (jcq _ Xn _ _) ?_;refine gX 5 O ?_;refine gM 0 O (jKq O O O O O (kSq h0 O O) (congrArg (λL=>[(2,388,W.arr 64 1 L),(0,327,.arr 8 1 s.l),(1,ty,c)]) (key _ hb))) ?_;refine gWr 4 O ?_;refine zcq 2 O ?_;exact j4q (t+1) (ht1) Xd ⟨rfl,trivial⟩ ⟨rfl,rfl,rfl,trivial⟩ rfl
 ·obtain rfl:t=64:=by omega
  rw[show pad0 (y9q bs 64) 64=y9q bs 64 by unfold pad0;rw[hl];simp];refine zcq 2 O ?_;refine qmq Xi ?_;refine zDq 18 O ?_;refine j8q (α:=Nat) (λt=>t<=64) (λt=>[(100,.int .i64 (t:Int))]) [(0,_),(4,_),(8,_)] (λt=>[(3,327,.arr 8 1 (Qmq (y9q bs 64) s t).l),(2,388,.arr 64 1 ((y9q bs 64).map wd)),(0,327,.arr 8 1 s.l),(1,ty,c)]) (λt=>64-t) (0) ⟨rfl,rfl,rfl,trivial⟩ (Nat.zero_le _) ⟨rfl,trivial⟩ (rfl) (λt hI=>?_);refine zEq 6 O ?_;refine gS 0 O (λh2=>?_) (λh2=>?_)
  ·have ht1:t<64:=by omega
   have hK:zZq 50 (.arr 64 1 (kW.map wd)) (t*1) 1 false=some (wd (kW.getD t 0)):=qCq (by rw[Nat.mul_one];exact Joq (by rw[kW_len];exact ht1)) rfl;have hW:zZq 50 (.arr 64 1 ((y9q bs 64).map wd)) (0+t*1) 1 false=some (wd ((y9q bs 64).getD t 0)):=qCq (by rw[Nat.zero_add,Nat.mul_one];exact Joq Xd) rfl;refine gC 37 O (jcq _ Xn _ _) ?_;refine gC 1 O (jcq _ Xn _ _) ?_;refine gC 2 O (jcq _ Xn _ _) ?_;refine gP 12 O (ix_fel (i:=t) O O O O O O Xd rfl hK) ?_;refine gP 3 O (j5q (i:=t) O O O O O O Xd) ?_;refine gM 0 O (z2q O O O hW) ?_;refine gC 7 O (jcq _ Xn _ _) ?_;refine gC 1 O (jcq _ Xn _ _) ?_;refine gC 2 O (jcq _ Xn _ _) ?_;refine gWr 36 O ?_;refine zcq 2 O ?_;exact j4q (t+1) (ht1) Xd ⟨rfl,trivial⟩ ⟨rfl,rfl,rfl,trivial⟩ rfl
  ·obtain rfl:t=64:=by omega
   refine zcq 2 O ?_;refine qmq Xi ?_;refine zDq 8 O ?_;refine j8q (α:=Nat) (λi=>i<=8) (λi=>[(178,.int .i64 (i:Int))]) [(0,_),(8,_)] (λi=>[(3,327,.arr 8 1 (Qmq (y9q bs 64) s 64).l),(2,388,.arr 64 1 ((y9q bs 64).map wd)),(0,327,.arr 8 1 (mix8 s (Qmq (y9q bs 64) s 64) i)),(1,ty,c)]) (λi=>8-i) (0) ⟨rfl,rfl,trivial⟩ (Nat.zero_le _) ⟨rfl,trivial⟩ (rfl) (λi hI=>?_);refine zEq 6 O ?_;refine gS 0 O (λh3=>?_) (λh3=>?_)
   ·have hi1:i<8:=by omega
    refine gP 14 O (j5q (i:=i) O O O O O O hi1) ?_;refine gM 0 O (z2q O O O (qCq (mix_at _ _ hi1) rfl)) ?_;refine gP 1 O (j5q (i:=i) O O O O O O hi1) ?_;refine gM 0 O (z2q O O O (qCq (S8_at _ hi1) rfl)) ?_;refine gP 2 O (j5q (i:=i) O O O O O O hi1) ?_;refine gM 0 O (jKq O O O O O (kSq (mix_at _ _ hi1) O O) (congrArg (λL=>[(3,327,W.arr 8 1 (Qmq (y9q bs 64) s 64).l),(2,388,.arr 64 1 ((y9q bs 64).map wd)),(0,327,.arr 8 1 L),(1,ty,c)]) (mix_set _ _ hi1))) ?_;refine gWr 4 O ?_;refine zcq 2 O ?_;exact j4q (i+1) (hi1) Xd ⟨rfl,trivial⟩ ⟨rfl,rfl,trivial⟩ rfl
   ·obtain rfl:i=8:=by omega
    refine zcq 2 O ?_;refine qmq Xi ?_;refine zDq 1 O ?_;refine fin (.inl rfl) (yJq (fr2:=[]) (hp2:=[(0,327,.arr 8 1 (x3q bs s).l),(1,ty,c)]) (nw2:=2) Xd Xd trivial rfl (yNq ⟨⟨by omega,rfl,rfl⟩,⟨by omega,rfl,hc⟩,trivial⟩) Xg) rfl ⟨rfl,rfl,rfl,rfl⟩
noncomputable def atL(r:List Nat)(i:Nat):Nat:=r.getD i 0
noncomputable def eat:Nat->S8->List Nat->S8×List Nat
 |0,s,r=>(s,r)
 |n+1,s,r=>match Nat.ble 64 r.length with
  |true=>eat n (x3q (atL r) s) (r.drop 64)
  |false=>(s,r)
theorem u7q:∀(n:Nat) (s:S8) (r:List Nat),r.length<64->eat n s r=(s,r)
 |0,_,_,_=>rfl
 |n+1,s,r,h=>by
  have:Nat.ble 64 r.length=false:=by
   cases hq:Nat.ble 64 r.length with
   |true=>have:=Ob hq;omega
   |false=>rfl
  simp only[eat,this]
theorem JFq{n:Nat}{s:S8}{r:List Nat}(h:64<=r.length):eat (n+1) s r=eat n (x3q (atL r) s) (r.drop 64):=by
 simp only[eat,Nat.ble_eq_true_of_le h]
theorem eat_fuel:∀(n m:Nat) (s:S8) (r:List Nat),r.length<=n->r.length<=m->eat n s r=eat m s r
 |0,m,s,r,h,_=>by rw[u7q m s r Xd];rfl
 |n+1,0,s,r,_,h=>by rw[u7q _ s r Xd];rfl
 |n+1,m+1,s,r,h1,h2=>by
  by_cases h:64<=r.length
  ·rw[JFq h,JFq h];exact eat_fuel n m _ _ Xp Xp
  ·rw[u7q _ s r Xd,u7q _ s r Xd]
noncomputable def eats(s:S8)(r:List Nat):S8×List Nat:=eat r.length s r
theorem eats_more{s:S8}{r:List Nat}(h:64<=r.length):eats s r=eats (x3q (atL r) s) (r.drop 64):=by
 unfold eats;obtain⟨n,hn⟩:∃n,r.length=n+1:=⟨r.length-1,by omega⟩
 rw[hn,JFq h];exact eat_fuel _ _ _ _ Xp (Nat.le_refl _)
noncomputable def YYq(a:S8×List Nat)(p:List Nat):S8×List Nat:=eats a.1 (a.2++p)
noncomputable def s0:S8:=⟨1779033703,3144134277,1013904242,2773480762,1359893119,2600822924,528734635,1541459225⟩
noncomputable def padZ:Nat->List Nat->List Nat
 |0,r=>r
 |n+1,r=>match Nat.beq (r.length%64) 56 with
  |true=>r
  |false=>padZ n (r++[0])
noncomputable def len8(many:Nat):List Nat:=[56,48,40,32,24,16,8,0].map λi=>Nat.shiftRight (8*many%18446744073709551616) i%256
noncomputable def j7q:Nat->S8->List Nat->S8
 |0,s,_=>s
 |n+1,s,r=>match Nat.ble 1 r.length with
  |true=>j7q n (x3q (atL r) s) (r.drop 64)
  |false=>s
theorem jHq:∀(n:Nat) (s:S8),j7q n s []=s
 |0,_=>rfl
 |n+1,s=>rfl
theorem usq{n:Nat}{s:S8}{r:List Nat}(h:1<=r.length):j7q (n+1) s r=j7q n (x3q (atL r) s) (r.drop 64):=by
 simp only[j7q,Nat.ble_eq_true_of_le h]
theorem YFq:∀(n m:Nat) (s:S8) (r:List Nat),r.length<=n->r.length<=m->j7q n s r=j7q m s r
 |0,m,s,r,h,_=>by
  obtain rfl:r=[]:=List.length_eq_zero_iff.1 Xd;rw[jHq,jHq]
 |n+1,0,s,r,_,h=>by
  obtain rfl:r=[]:=List.length_eq_zero_iff.1 Xd;rw[jHq,jHq]
 |n+1,m+1,s,r,h1,h2=>by
  by_cases h:1<=r.length
  ·rw[usq h,usq h];exact YFq n m _ _ Xp Xp
  ·obtain rfl:r=[]:=List.length_eq_zero_iff.1 Xd;rw[jHq,jHq]
theorem eatAll_step{s:S8}{r:List Nat}(h:1<=r.length):j7q r.length s r=j7q (r.drop 64).length (x3q (atL r) s) (r.drop 64):=by
 obtain⟨n,hn⟩:∃n,r.length=n+1:=⟨r.length-1,by omega⟩
 rw[hn,usq h];exact YFq _ _ _ _ Xp (Nat.le_refl _)
noncomputable def digN(s:S8):List Nat:=(List.range 32).map λi=>Nat.shiftRight (s.get (i/4)) (24-8*(i%4))%256
noncomputable def yZq(ps:List (List Nat)):Nat:=(ps.map List.length).foldr (· + ·) 0
noncomputable def shaN(ps:List (List Nat)):List Nat:=
 let a:=ps.foldl YYq (s0,[])
 let r:=padZ 64 (a.2++[128])++len8 (yZq ps)
 digN (j7q r.length a.1 r)
inductive Rst where
 |nil
 |sl (all:List Nat) (base off:Nat)
noncomputable def Rst.w:Rst->W
 |.nil=>.nils
 |.sl all base off=>.sl 2 base off (all.length-off) 1 none
noncomputable def Rst.hp:Rst->HpW
 |.nil=>[]
 |.sl all _ _=>[(2,5,.arr all.length 1 (bN all))]
noncomputable def Rst.r:Rst->List Nat
 |.nil=>[]
 |.sl all _ off=>all.drop off
noncomputable def Rst.ok:Rst->Prop
 |.nil=>True
 |.sl all _ off=>off<=all.length/\all.length<4294967296
noncomputable def Rst.nw:Rst->Nat
 |.nil=>2
 |.sl _ _ _=>3
noncomputable def hpS(x:Rst)(d:W)(s:S8):HpW:=x.hp++[(1,327,.arr 8 1 s.l),(0,35,d)]
noncomputable def yVq:W:=.arr 32 1 (List.replicate 32 (.int .u8 0))
noncomputable def Y9q(p:List Nat×Bool):W:=.fz (bN p.1) 1 p.2
theorem app_r(r:Rst)(hr:r.ok)(d:W)(s:S8)(p:List Nat)(f:Bool)(hp:p.length<2147483648)(h64:r.r.length<64):∃w hp' nw ev,appW cfg (hpS r d s) r.nw 58 58 r.w (.fz (bN p) 1 f)=some (w,hp',nw,ev)/\
  ∃r':Rst,r'.ok/\r'.r=r.r++p/\((w=r'.w/\hp'=hpS r' d s/\nw=r'.nw)\/∃all,r'= .sl all 0 0/\w= .sl 3 0 0 all.length 1 none/\hp'=[(3,5,.arr all.length 1 (bN all)),(1,327,.arr 8 1 s.l),(0,35,d)]/\nw=4):=by
 cases r with
 |nil=>cases p with
  |nil=>exact⟨_,_,_,_,rfl,.nil,trivial,rfl,.inl ⟨rfl,rfl,rfl⟩⟩
  |cons a l=>
   have hl:(bN (a::l)).length=l.length+1:=by rw[v7q];rfl
   have hlt:l.length+1<2147483648:=hp;have hbl:(bN (a::l)).length*1<=140737488355328:=by omega
   refine⟨_,_,_,_,uxq (k:=ti5) O O O O O (by simp[bN]) hbl Xd,.sl (a::l) 0 0,⟨Nat.zero_le _,by show l.length+1<_;omega⟩,rfl,.inl ⟨?_,?_,rfl⟩⟩
   ·rw[v7q];rfl
   ·rw[v7q,show(ti5).size=1 from rfl,Nat.mul_one];rfl
 |sl all base off=>
  obtain⟨h1,h2⟩:=hr;cases p with
  |nil=>exact⟨_,_,_,_,rfl,.sl all base off,⟨h1,h2⟩,by simp,.inl ⟨rfl,rfl,rfl⟩⟩
  |cons a l=>
   have hl:(bN (a::l)).length=l.length+1:=by rw[v7q];rfl
   have hlt:l.length+1<2147483648:=hp;have hbl:(all.length-off+(bN (a::l)).length)*1<=140737488355328:=by omega
   have hdt:((bN all).drop off).take (all.length-off)=bN (all.drop off):=by
    rw[List.take_of_length_le (by simp[v7q])];simp[bN,List.map_drop]
   refine⟨_,_,_,_,qcq (k:=ti5) (v:=.arr all.length 1 (bN all)) (off:=off) O O O O O (by simp[bN]) hbl Xd O ?_ rfl (uCq Xd),.sl (all.drop off++a::l) 0 0,⟨Nat.zero_le _,?_⟩,rfl,.inr ⟨_,rfl,?_,?_,rfl⟩⟩
   ·show all.length<off+(all.length-off+(bN (a::l)).length)*1;omega
   ·simp only[Rst.r,List.length_drop] at h64;simp only[List.length_append,List.length_drop,List.length_cons];omega
   ·simp only[hl,List.length_append,List.length_drop,List.length_cons];rfl
   ·rw[hdt,hl];simp only[List.length_append,List.length_drop,List.length_cons,show(ti5).size=1 from rfl,Nat.mul_one];rw[show bN (all.drop off)++bN (a::l)=bN (all.drop off++a::l) by simp[bN]];rfl
theorem padZ_spec:∀(n j:Nat) (r:List Nat),(∀i,i<j->(r.length+i)%64≠56) ->(r.length+j)%64=56->j<=n->padZ n r=r++List.replicate j 0
 |0,j,r,_,_,h=>by
  obtain rfl:j=0:=by omega
  simp[padZ]
 |n+1,0,r,_,h,_=>by
  have:Nat.beq (r.length%64) 56=true:=by rw[Nat.beq_eq];simpa using h
  simp only[padZ,this];simp
 |n+1,j+1,r,h1,h2,h3=>by
  have:Nat.beq (r.length%64) 56=false:=by
   cases hq:Nat.beq (r.length%64) 56 with
   |true=>rw[Nat.beq_eq] at hq;exact absurd (by simpa using hq) (h1 0 Xd)
   |false=>rfl
  simp only[padZ,this];rw[padZ_spec n j (r++[0]) (λi hi=>by simp only[List.length_append,List.length_singleton];have:=h1 (i+1) Xd;rwa[show r.length+1+i=r.length+(i+1) by omega]) (by simp only[List.length_append,List.length_singleton];rwa[show r.length+1+j=r.length+(j+1) by omega]) Xd];rw[List.append_assoc];rfl
noncomputable def dI(s:S8)(i:Nat):List Nat:=(digN s).take i++List.replicate (32-i) 0
theorem ZBq(s:S8):(digN s).length=32:=by simp[digN]
theorem dI_len(s:S8){i:Nat}(h:i<=32):(dI s i).length=32:=by simp[dI,ZBq];omega
theorem dI_at(s:S8){i:Nat}(h:i<32):(bN (dI s i))[0+i*1]? =some (.int .u8 (.ofNat 0)):=by
 rw[Nat.zero_add,Nat.mul_one,bN_at (by rw[dI_len s Xd];exact h)]
 have:(dI s i).getD i 0=0:=by
  simp[dI,List.getD,List.getElem?_append,ZBq,show min i 32=i by omega,List.getElem?_replicate,show 0<32-i by omega]
 rw[this]
theorem dI_set(s:S8){i:Nat}(h:i<32):(bN (dI s i)).set (0+i*1) (.int .u8 (.ofNat (Nat.shiftRight (s.get (i/4)) (min (24-8*(i%4)) 32)%256)))=bN (dI s (i+1)):=by
 have e:(digN s).take (i+1)=(digN s).take i++[Nat.shiftRight (s.get (i/4)) (24-8*(i%4))%256]:=by
  rw[List.take_add_one];congr 1
  simp[digN,List.getElem?_map,List.getElem?_range h]
 have hm:min (24-8*(i%4)) 32=24-8*(i%4):=by omega
 have hl:((digN s).take i).length=i:=by simp[ZBq];omega
 rw[Nat.zero_add,Nat.mul_one,hm];unfold bN;rw[<-List.map_set (f:=λc=>W.int .u8 (.ofNat c))];congr 1
 unfold dI;rw[e,show 32-i=(32-(i+1))+1 by omega,List.replicate_succ,List.set_append_right _ _ Xd,hl,Nat.sub_self,List.set_cons_zero,List.append_assoc];rfl
theorem mid1(L:List Nat)(c:Nat):some (W.sl 4 0 0 (L.length+(bN [c]).length) 1 none)=some (renW (tau1 2 4) (W.sl 2 0 0 (L++[c]).length 1 none)):=by
 rw[List.length_append];rfl
theorem mid2(L:List Nat)(c:Nat):some (5,W.arr ((L.length+(bN [c]).length)*1) 1 (((bN L).drop 0).take L.length++bN [c]))=some (5,renW (tau1 2 4) (W.arr (L++[c]).length 1 (bN (L++[c])))):=by
 rw[zdq (show purW (.arr (L++[c]).length 1 (bN (L++[c])))=true from v6q _),List.drop_zero,List.take_of_length_le (by rw[v7q];exact Nat.le_refl _),Nat.mul_one,List.length_append];simp[bN]
theorem parts_pur:∀ps:List (List Nat×Bool),purL (ps.map Y9q)=true
 |[]=>rfl
 |p::ps=>by simp only[List.map_cons,purL,Y9q,purW,v6q,Bool.true_and];exact parts_pur ps
theorem of_s(ps:List (List Nat×Bool))(fl:Bool)(hb:yZq (ps.map (·.1))<2147483648)(hpn:ps.length<2147483648)(R:Res):
  Spec cfg glK 136 0 [.fz (ps.map Y9q) 1 fl] [] R λw hp nw R'=>R'=R/\w= .arr 32 1 (bN (shaN (ps.map (·.1)))):=by
 refine gIs 26 O (λk0=>?_);refine gL 0 O ?_;refine zcq 4 O ?_;refine quq (α:=Nat×S8×Rst) (λa=>a.1<=ps.length/\a.2.2.ok/\(a.2.1,a.2.2.r)=((ps.map (·.1)).take a.1).foldl YYq (s0,[])/\a.2.2.r.length<64) (λa=>[(13,.int .i64 (a.1:Int)),(12,.int .i64 (ps.length:Int)),(11,.fz (ps.map Y9q) 1 fl),(5,.int .u64 (yZq ((ps.map (·.1)).take a.1):Int)),(4,a.2.2.w),(3,.ptr 1 0),(2,.ptr 0 0)]) (λa=>hpS a.2.2 yVq a.2.1) (λa=>a.2.2.nw) (λ_=>R) (λa=>ps.length-a.1) (0,s0,.nil) ⟨Nat.zero_le _,trivial,rfl,by decide⟩ ?_ (λa ha=>?_);skip
 ·exact yvq ⟨rfl,by simp[getW,putW],rfl,rfl,rfl,rfl,rfl,trivial⟩ O O
 have hPp:purW (.fz (ps.map Y9q) 1 fl)=true:=parts_pur ps;obtain⟨i,s,r⟩:=a;obtain⟨hi,hok,hfold,hr64⟩:=ha;refine zEq 6 O ?_;refine gS 0 O (λh1=>?_) (λh1=>?_)
 ·simp only at hi hok hfold hr64;have hi1:i<ps.length:=by omega
  obtain⟨p,hp⟩:∃p,ps[i]? =some p:=⟨_,List.getElem?_eq_getElem hi1⟩
  have hpw:(ps.map Y9q)[i]? =some (.fz (bN p.1) 1 p.2):=by rw[List.getElem?_map,hp];rfl
  have htk:(ps.map (·.1)).take (i+1)=(ps.map (·.1)).take i++[p.1]:=by
   rw[List.take_add_one,List.getElem?_map,hp];rfl
  have htot:∀l r:List (List Nat),yZq (l++r)=yZq l+yZq r:=λl r=>by
   unfold yZq;induction l with
   |nil=>simp
   |cons x l ih=>simp only[List.cons_append,List.map_cons,List.foldr_cons,ih];omega
  have ht1:yZq ((ps.map (·.1)).take (i+1))=yZq ((ps.map (·.1)).take i)+p.1.length:=by rw[htk,htot];simp[yZq]
  have htle:yZq ((ps.map (·.1)).take (i+1))<=yZq (ps.map (·.1)):=by
   have:=htot ((ps.map (·.1)).take (i+1)) ((ps.map (·.1)).drop (i+1));rw[List.take_append_drop] at this;omega
  have hpl:p.1.length<2147483648:=by omega
  refine gP 6 O (ymq (i:=i) O O O O O O O hpw) ?_;refine gZ 8 O (v7q p.1) ?_;refine gA 0 O (p.1.length) ?_;refine gA 0 O (yZq ((ps.map (·.1)).take i)+p.1.length) ?_;refine zcq 3 O ?_;refine co_cut (α:=Rst) (λr'=>r'.ok/\r'.r=r.r++p.1) (λr'=>[(13,.int .i64 (i:Int)),(12,.int .i64 (ps.length:Int)),(11,.fz (ps.map Y9q) 1 fl),(5,.int .u64 (yZq ((ps.map (·.1)).take (i+1)):Int)),(4,r'.w),(3,.ptr 1 0),(2,.ptr 0 0)]) (λr'=>hpS r' yVq s) (λr'=>r'.nw) ?_ (λa ha=>?_)
  ·obtain⟨w,hp',nw',ev,e1,r',e2,e3,e4⟩:=app_r r hok yVq s p.1 p.2 hpl hr64;refine zEq 3 O ?_;refine gM 0 O (yRq O O e1) ?_;refine zcq 2 O ?_;refine⟨rfl,r',⟨e2,e3⟩,?_⟩;rcases e4 with ⟨rfl,rfl,rfl⟩|⟨all,rfl,rfl,rfl,rfl⟩
   ·exact yvq ⟨rfl,rfl,rfl,by rw[ht1];rfl,rfl,rfl,rfl,trivial⟩ O O
   ·refine yeq (b:=2) (k:=3) Xd Xd Xd ⟨⟨rfl,rfl⟩,⟨rfl,rfl⟩,⟨by rw[zdq hPp];rfl,zbq hPp⟩,⟨by rw[ht1];rfl,rfl⟩,⟨rfl,rfl⟩,⟨rfl,rfl⟩,⟨rfl,rfl⟩,trivial⟩ ⟨⟨by omega,by rw[zdq (show purW (.arr all.length 1 (bN all))=true from v6q _)];rfl,zbq (show purW (.arr all.length 1 (bN all))=true from v6q _)⟩,⟨by omega,rfl,rfl⟩,⟨by omega,rfl,rfl⟩,trivial⟩ Yx
  obtain⟨hak,har⟩:=ha;have hstep:(ps.map (·.1)).take (i+1)=(ps.map (·.1)).take i++[p.1]:=htk;have hnext:((ps.map (·.1)).take (i+1)).foldl YYq (s0,[])=YYq (s,r.r) p.1:=by rw[hstep,List.foldl_append,<-hfold];rfl
  refine yrq 1 O ?_;refine quq (α:=S8×Rst) (λb=>b.2.ok/\eats b.1 b.2.r=YYq (s,r.r) p.1) (λb=>[(13,.int .i64 (i:Int)),(12,.int .i64 (ps.length:Int)),(11,.fz (ps.map Y9q) 1 fl),(5,.int .u64 (yZq ((ps.map (·.1)).take (i+1)):Int)),(4,b.2.w),(3,.ptr 1 0),(2,.ptr 0 0)]) (λb=>hpS b.2 yVq b.1) (λb=>b.2.nw) (λ_=>R) (λb=>b.2.r.length) (s,a) ⟨hak,by simp only[YYq,har]⟩ (Ent.refl) (λb hb=>?_);skip
  obtain⟨s',r'⟩:=b;obtain⟨hok',heat⟩:=hb;simp only at hok' heat
  have done:r'.r.length<64->(s',r'.r)=((ps.map (·.1)).take (i+1)).foldl YYq (s0,[]):=λh=>by
   rw[hnext,<-heat,eats,u7q _ _ _ h]
  skip
  cases r' with
  |nil=>
   refine zEq 4 O ?_;refine gL 0 O ?_;refine zcq 6 O ?_;refine qmq Xi ?_;refine zDq 4 O ?_;refine gA 0 O (i+1) ?_;refine zcq 2 O ?_;skip
   refine y3q (i+1,s',.nil) ⟨hi1,trivial,done (by show 0<64;omega),(by show 0<64;omega)⟩ Ya (yvq ⟨rfl,rfl,rfl,rfl,rfl,rfl,rfl,trivial⟩ O O)
  |sl all base off=>
   obtain⟨ho1,ho2⟩:=hok';have hrl:(Rst.sl all base off).r.length=all.length-off:=by simp[Rst.r]
   refine zEq 4 O ?_;refine gV 0 O (show _=W.int .i64 ((all.length-off:Nat):Int) by first|rfl|(simp;done)) ?_;refine gS 3 O (λh2=>?_) (λh2=>?_)
   ·have h64:64<=all.length-off:=by omega
    have hpa:purW (.arr all.length 1 (bN all))=true:=v6q all
    have hby:∀k,k<64->zZq 50 (.arr all.length 1 (bN all)) (off+0*1+k*1) 1 false=some (.int .u8 (.ofNat (atL (all.drop off) k))):=λk hk=>by
     have:=bN_at (l:=all) (i:=off+k) Xd;refine qCq ?_ rfl;rw[Nat.zero_mul,Nat.add_zero,Nat.mul_one,this];simp[atL,List.getD,List.getElem?_drop]
    have hr':(Rst.sl all off (off+64)).r=((Rst.sl all base off).r).drop 64:=by simp[Rst.r]
    refine gP 6 O (cut_hi (h:=64) O O O O O O O h64) ?_
    (refine zqq rfl (zSq (ext:=[1,2]) (ws:=[.ptr 0 0,.sl 1 base (off+0*1) (64-0) 1 none]) O O O O O (λR=>block_s s' (atL (all.drop off)) (.arr all.length 1 (bN all)) base _ none 5 (zbq hpa) hby R) Xn Yd Xg (ukq rfl (by rw[zdq hpa];rfl) rfl (zbq hpa)) O ?_);rintro w hp1 nw1 ⟨rfl,rfl,rfl⟩)
    refine zeq 5 O ?_;refine gP 0 O (cut_lo (l:=64) O O O O O O O h64 rfl) ?_;refine zcq 2 O ?_;skip
    refine y3q (x3q (atL (all.drop off)) s',.sl all off (off+64)) ⟨⟨by omega,ho2⟩,?_⟩ (by simp only[hr'];simp only[hrl,List.length_drop];omega) (yJq Xd (Nat.le_refl _) ⟨rfl,rfl,rfl,rfl,?_,rfl,rfl,trivial⟩ (by simp only[List.all_cons,List.all_nil,zbq hPp,Bool.and_true];rfl) (yNq ⟨⟨by show 2<3;omega,by show some (5,renW _ (W.arr all.length 1 (bN all)))=_;rw[zdq hpa],zbq hpa⟩,⟨by show 1<3;omega,rfl,rfl⟩,⟨by show 0<3;omega,rfl,rfl⟩,trivial⟩) Yx)
    ·rw[hr',<-heat];exact(eats_more (r:=(Rst.sl all base off).r) (by rw[hrl];exact h64)).symm
    ·show some (W.sl 2 off (off+64*1) (all.length-off-64) 1 (qzq 64 none))=some (W.sl 2 off (off+64) (all.length-(off+64)) 1 none);rw[Nat.sub_sub];rfl
   ·have h64:all.length-off<64:=by omega
    refine zcq 2 O ?_;refine qmq Xi ?_;refine zDq 4 O ?_;refine gA 0 O (i+1) ?_;refine zcq 2 O ?_;skip
    refine y3q (i+1,s',.sl all base off) ⟨hi1,⟨ho1,ho2⟩,done (by rw[hrl];exact h64),by simp only[hrl];exact h64⟩ Ya (yvq ⟨rfl,rfl,rfl,rfl,rfl,rfl,rfl,trivial⟩ O O)
 ·simp only at hi hok hfold hr64;obtain rfl:i=ps.length:=by omega
  rw[show(ps.map (·.1)).take ps.length=ps.map (·.1) by rw[List.take_of_length_le Xg]] at hfold;have hT:(ps.map (·.1)).take ps.length=ps.map (·.1):=by rw[List.take_of_length_le Xg]
  have hdt:∀(all:List Nat) (off:Nat),((bN all).drop off).take (all.length-off)=bN (all.drop off):=λall off=>by
   rw[List.take_of_length_le (by simp[v7q])];simp[bN,List.map_drop]
  have bapp:∀a b:List Nat,bN a++bN b=bN (a++b):=λa b=>by simp[bN]
  have apur:∀all:List Nat,purW (.arr all.length 1 (bN all))=true:=λall=>v6q all
  refine zcq 2 O ?_;refine qmq Xi ?_;refine zDq 2 O ?_;refine co_cut (α:=Unit) (λ_=>True) (λ_=>[(5,.int .u64 (yZq (ps.map (·.1)):Int)),(4,.sl 2 0 0 (r.r++[128]).length 1 none),(3,.ptr 1 0),(2,.ptr 0 0)]) (λ_=>hpS (.sl (r.r++[128]) 0 0) yVq s) (λ_=>3) ?_ (λa ha=>?_)
  ·skip
   cases r with
   |nil=>
    refine zEq 3 O ?_;refine gM 0 O (yRq O O (uxq (news:=bN [128]) (k:=ti5) O O O O O (by simp[bN]) Xn Xn)) ?_;refine zcq 2 O ?_;refine⟨rfl,(),trivial,?_⟩;exact yeq (b:=2) (k:=3) Xd Xd Qe ⟨⟨by show some (W.int .u64 ((yZq ((ps.map (·.1)).take ps.length):Nat):Int))=_;rw[hT];rfl,rfl⟩,⟨rfl,rfl⟩,⟨rfl,rfl⟩,⟨rfl,rfl⟩,trivial⟩ ⟨⟨by omega,rfl,rfl⟩,⟨by omega,rfl,rfl⟩,⟨by omega,rfl,rfl⟩,trivial⟩ Yx
   |sl all base off=>
    obtain⟨ho1,ho2⟩:=hok;simp only[Rst.r,List.length_drop] at hr64;have hle:((Rst.sl all base off).r++[128]).length=all.length-off+1:=by simp[Rst.r]
    refine zEq 3 O ?_;refine gM 0 O (yRq O O (qcq (news:=bN [128]) (k:=ti5) (v:=.arr all.length 1 (bN all)) (off:=off) O O O O O (by simp[bN]) (show(all.length-off+1)*1<=140737488355328 by omega) (show all.length-off+1<=70368744177664 by omega) rfl (show all.length<off+(all.length-off+1)*1 by omega) rfl (uCq Xd))) ?_;refine zcq 2 O ?_;refine⟨rfl,(),trivial,?_⟩;refine yeq (b:=2) (k:=4) Xd Xd Ym ⟨⟨by show some (W.int .u64 ((yZq ((ps.map (·.1)).take ps.length):Nat):Int))=_;rw[hT];rfl,rfl⟩,⟨?_,rfl⟩,⟨rfl,rfl⟩,⟨rfl,rfl⟩,trivial⟩ ⟨⟨by omega,?_,zbq (apur _)⟩,⟨by omega,rfl,rfl⟩,⟨by omega,rfl,rfl⟩,trivial⟩ Yx
    ·rw[hle];rfl
    ·rw[zdq (apur _),hle,<-bapp];show some (5,W.arr ((all.length-off+1)*1) 1 (((bN all).drop off).take (all.length-off)++bN [128]))=_;rw[hdt,Nat.mul_one];rfl
  --noughts
  have htm:∀n:Nat,((n:Int)).tmod 64=((n%64:Nat):Int):=λn=>by rw[Int.tmod_eq_emod_of_nonneg Xd];omega
  have hA0:(r.r++[128]).length<=64:=by simp;omega
  generalize hA:r.r++[128]=A at*
  refine zEq 2 O ?_;refine quq (α:=Nat) (λj=>∀i,i<j->(A.length+i)%64≠56) (λj=>[(5,.int .u64 (yZq (ps.map (·.1)):Int)),(4,.sl 2 0 0 (A++List.replicate j 0).length 1 none),(3,.ptr 1 0),(2,.ptr 0 0)]) (λj=>hpS (.sl (A++List.replicate j 0) 0 0) yVq s) (λ_=>3) (λ_=>R) (λj=>64-j) 0 (λi hi=>absurd hi Xd) (by rw[List.replicate_zero,List.append_nil];exact Ent.refl) (λj hj=>?_);skip
  have hj64:j<64:=by
   refine Nat.lt_of_not_le λh=>?_
   have:=hj ((56+64-A.length%64)%64) Xd;omega
  have hlj:(A++List.replicate j 0).length=A.length+j:=by simp
  refine zEq 4 O ?_;refine gV 0 O (show _=W.int .i64 ((A++List.replicate j 0).length:Int) by first|rfl|(simp;done)) ?_;refine gV 0 O (congrArg (W.int .i64) (htm _)) ?_;refine gS 3 O (λh2=>?_) (λh2=>?_)
  ·have hne:(A.length+j)%64≠56:=by
    omega
   refine gM 6 O (yRq O O (qcq (news:=bN [0]) (k:=ti5) (v:=.arr (A++List.replicate j 0).length 1 (bN (A++List.replicate j 0))) (off:=0) O O O O O (by simp[bN]) (show((A++List.replicate j 0).length+1)*1<=140737488355328 by omega) (show(A++List.replicate j 0).length+1<=70368744177664 by omega) rfl (show(A++List.replicate j 0).length<0+((A++List.replicate j 0).length+1)*1 by omega) rfl (uCq Xd))) ?_;refine zcq 3 O ?_;have hrep:A++List.replicate (j+1) 0=(A++List.replicate j 0)++[0]:=by rw[List.append_assoc,<-List.replicate_succ']
   skip
   refine y3q (j+1) (λi hi=>?_) Xd (yeq (b:=2) (k:=4) Xd Xd Ym ⟨⟨rfl,rfl⟩,⟨?_,rfl⟩,⟨rfl,rfl⟩,⟨rfl,rfl⟩,trivial⟩ ⟨⟨by omega,?_,zbq (apur _)⟩,⟨by omega,rfl,rfl⟩,⟨by omega,rfl,rfl⟩,trivial⟩ Yx)
   ·rcases Nat.lt_succ_iff_lt_or_eq.1 hi with h|rfl
    ·exact hj i h
    ·exact hne
   ·rw[hrep];exact mid1 _ 0
   ·rw[hrep];exact mid2 _ 0
  ·have he:(A.length+j)%64=56:=by
    omega
   have hpz:padZ 64 A=A++List.replicate j 0:=padZ_spec 64 j A hj he Xd;rw[<-hpz];have hBl:(padZ 64 A).length<200:=by rw[hpz,hlj];omega
   have hB64:(padZ 64 A).length%64=56:=by rw[hpz,hlj];exact he
   generalize hB:padZ 64 A=B at hBl hB64;refine zcq 2 O ?_;refine qmq Xi ?_;refine zDq 9 O ?_;have h8:∀k,k<=8->((len8 (yZq (ps.map (·.1)))).take k).length=k:=λk hk=>by simp[len8];omega
   refine quq (α:=Nat) (λk=>k<=8) (λk=>[(8,.int .i64 (56-8*(k:Int))),(5,.int .u64 (yZq (ps.map (·.1)):Int)),(4,.sl 2 0 0 (B++(len8 (yZq (ps.map (·.1)))).take k).length 1 none),(3,.ptr 1 0),(2,.ptr 0 0)]) (λk=>hpS (.sl (B++(len8 (yZq (ps.map (·.1)))).take k) 0 0) yVq s) (λ_=>3) (λ_=>R) (λk=>8-k) 0 (Nat.zero_le _) (by rw[List.take_zero,List.append_nil];exact yvq ⟨rfl,rfl,rfl,rfl,rfl,trivial⟩ O O) (λk hk=>?_);skip
   refine zEq 7 O ?_;refine gS 0 O (λh3=>?_) (λh3=>?_)
   ·have hk8:k<8:=by omega
    have hLk:=h8 k hk;have hll:(B++(len8 (yZq (ps.map (·.1)))).take k).length=B.length+k:=by rw[List.length_append,hLk]
    have hnx:B++(len8 (yZq (ps.map (·.1)))).take (k+1)=(B++(len8 (yZq (ps.map (·.1)))).take k)++[Nat.shiftRight (8*yZq (ps.map (·.1))%18446744073709551616) (min (56-8*k) 64)%256]:=by
     rw[List.take_add_one,<-List.append_assoc];congr 1
     have hq:k=0\/k=1\/k=2\/k=3\/k=4\/k=5\/k=6\/k=7:=by omega
     rcases hq with rfl|rfl|rfl|rfl|rfl|rfl|rfl|rfl<;>rfl
    have hw8:koq .i64 (56-8*(k:Int) -8)=56-8*(k:Int) -8:=Zhq (k:=.i64) ⟨by omega,by omega⟩;refine gV 8 O (show W.int .i64 (56-8*(k:Int))=W.int .i64 ((56-8*k:Nat):Int) by congr 1;omega) ?_;refine gM 3 O (yRq O O (qcq (news:=bN [Nat.shiftRight (8*yZq (ps.map (·.1))%18446744073709551616) (min (56-8*k) 64)%256]) (k:=ti5) (v:=.arr (B++(len8 (yZq (ps.map (·.1)))).take k).length 1 (bN (B++(len8 (yZq (ps.map (·.1)))).take k))) (off:=0) O O O O O (by simp[bN]) (show((B++(len8 (yZq (ps.map (·.1)))).take k).length+1)*1<=140737488355328 by omega) (show(B++(len8 (yZq (ps.map (·.1)))).take k).length+1<=70368744177664 by omega) rfl (show(B++(len8 (yZq (ps.map (·.1)))).take k).length<0+((B++(len8 (yZq (ps.map (·.1)))).take k).length+1)*1 by omega) rfl (uCq Xd))) ?_;refine zcq 6 O ?_;refine jOq (w:=W.int .i64 (koq .i64 (56-8*(k:Int) -8))) O O (show _=W.int .i64 (56-8*((k+1:Nat):Int)) by rw[hw8];congr 1;omega) ?_;refine run_p 2 O ?_;skip
    refine y3q (k+1) Xd Xd (yeq (b:=2) (k:=4) Xd Xd Ym ⟨⟨rfl,rfl⟩,⟨rfl,rfl⟩,⟨?_,rfl⟩,⟨rfl,rfl⟩,⟨rfl,rfl⟩,trivial⟩ ⟨⟨by omega,?_,zbq (apur _)⟩,⟨by omega,rfl,rfl⟩,⟨by omega,rfl,rfl⟩,trivial⟩ Yx)
    ·rw[hnx];exact mid1 _ _
    ·rw[hnx];exact mid2 _ _
   ·obtain rfl:k=8:=by omega
    have ht8:(len8 (yZq (ps.map (·.1)))).take 8=len8 (yZq (ps.map (·.1))):=rfl;rw[ht8];have hMl:(B++len8 (yZq (ps.map (·.1)))).length=B.length+8:=by simp[len8]
    have hsha:shaN (ps.map (·.1))=digN (j7q (B++len8 (yZq (ps.map (·.1)))).length s (B++len8 (yZq (ps.map (·.1))))):=by
     simp only[shaN,<-hfold,hA,hB]
    generalize hM:B++len8 (yZq (ps.map (·.1)))=M at hMl hsha;refine zcq 2 O ?_;refine qmq Xi ?_;refine zDq 4 O ?_;refine quq (α:=S8×Nat×Nat) (λb=>b.2.2<=M.length/\(M.length-b.2.2)%64=0/\j7q M.length s M=j7q (M.drop b.2.2).length b.1 (M.drop b.2.2)) (λb=>[(4,.sl 2 b.2.1 b.2.2 (M.length-b.2.2) 1 none),(3,.ptr 1 0),(2,.ptr 0 0)]) (λb=>hpS (.sl M b.2.1 b.2.2) yVq b.1) (λ_=>3) (λ_=>R) (λb=>M.length-b.2.2) (s,0,0) ⟨Nat.zero_le _,by show(M.length-0)%64=0;omega,rfl⟩ (yvq ⟨rfl,rfl,rfl,trivial⟩ O O) (λb hb5=>?_);skip
    obtain⟨s',base,off⟩:=b;obtain⟨ho,hmod,heat⟩:=hb5;simp only at ho hmod heat;refine zEq 4 O ?_;refine gV 0 O (show _=W.int .i64 ((M.length-off:Nat):Int) by first|rfl|(simp;done)) ?_;refine gS 3 O (λh4=>?_) (λh4=>?_)
    ·have h1:1<=M.length-off:=by omega
     have h64:64<=M.length-off:=by omega
     have hpa:purW (.arr M.length 1 (bN M))=true:=v6q M
     have hby:∀k,k<64->zZq 50 (.arr M.length 1 (bN M)) (off+0*1+k*1) 1 false=some (.int .u8 (.ofNat (atL (M.drop off) k))):=λk hk=>by
      have:=bN_at (l:=M) (i:=off+k) Xd;refine qCq ?_ rfl;rw[Nat.zero_mul,Nat.add_zero,Nat.mul_one,this];simp[atL,List.getD,List.getElem?_drop]
     refine gP 6 O (cut_hi (h:=64) O O O O O O O h64) ?_
     (refine zqq rfl (zSq (ext:=[1,2]) (ws:=[.ptr 0 0,.sl 1 base (off+0*1) (64-0) 1 none]) O O O O O (λR=>block_s s' (atL (M.drop off)) (.arr M.length 1 (bN M)) base _ none 5 (zbq hpa) hby R) Xn Yd Xg (ukq rfl (by rw[zdq hpa];rfl) rfl (zbq hpa)) O ?_);rintro w hp1 nw1 ⟨rfl,rfl,rfl⟩)
     refine zeq 5 O ?_;refine gP 0 O (cut_lo (l:=64) O O O O O O O h64 rfl) ?_;refine zcq 2 O ?_;skip
     refine y3q (x3q (atL (M.drop off)) s',off,off+64) ⟨by simp only;omega,by simp only;omega,?_⟩ Ya (yJq Xd (Nat.le_refl _) ⟨?_,rfl,rfl,trivial⟩ rfl (yNq ⟨⟨by omega,by show some (5,renW _ (W.arr M.length 1 (bN M)))=_;rw[zdq hpa],zbq hpa⟩,⟨by omega,rfl,rfl⟩,⟨by omega,rfl,rfl⟩,trivial⟩) Yx)
     ·rw[heat,eatAll_step Xp,List.drop_drop]
     ·show some (W.sl 2 off (off+64*1) (M.length-off-64) 1 (qzq 64 none))=some (W.sl 2 off (off+64) (M.length-(off+64)) 1 none);rw[Nat.sub_sub];rfl
    ·have h0:M.length-off=0:=by omega
     have hend:j7q M.length s M=s':=by
      rw[heat,List.drop_of_length_le Xd];rfl
     rw[hend] at hsha;refine zcq 2 O ?_;refine qmq Xi ?_;refine zDq 9 O ?_;have htd4:∀n:Nat,((n:Int)).tdiv 4=((n/4:Nat):Int):=λn=>by rw[Int.tdiv_eq_ediv_of_nonneg Xd];omega
     have htm4:∀n:Nat,((n:Int)).tmod 4=((n%4:Nat):Int):=λn=>by rw[Int.tmod_eq_emod_of_nonneg Xd];omega
     refine quq (α:=Nat) (λi=>i<=32) (λi=>[(64,.int .i64 (i:Int)),(3,.ptr 1 0),(2,.ptr 0 0)]) (λi=>hpS (.sl M base off) (.arr 32 1 (bN (dI s' i))) s') (λ_=>3) (λ_=>R) (λi=>32-i) 0 (Nat.zero_le _) (yvq ⟨rfl,rfl,rfl,trivial⟩ O O) (λi hi=>?_);skip
     refine zEq 6 O ?_;refine gS 0 O (λh5=>?_) (λh5=>?_)
     ·have hi32:i<32:=by omega
      refine gA 13 O (i/4) (e:=(htd4 i)) ?_;refine gP 0 O (j5q (i:=i/4) O O O O O O Xd) ?_;refine gM 0 O (z2q O O O (qCq (S8_at s' Xd) rfl)) ?_;refine gV 1 O (congrArg (W.int .i64) (htm4 i)) ?_;refine gA 0 O (8*(i%4)) ?_;refine gA 0 O (24-8*(i%4)) ?_;refine gP 2 O (j5q (i:=i) O O O O O O Xd) ?_;refine gM 0 O (jKq O O O O O (kSq (dI_at s' hi32) O O) rfl) ?_;refine gWr 4 O ?_;refine zcq 2 O ?_;skip
      refine y3q (i+1) Xd Xd (yvq ⟨rfl,rfl,rfl,trivial⟩ ?_ rfl);exact congrArg (λL=>hpS (.sl M base off) (.arr 32 1 L) s') (dI_set s' hi32)
     ·obtain rfl:i=32:=by omega
      refine zcq 2 O ?_;refine qmq Xi ?_;refine zDq 9 O ?_;refine fin Qt Ent.refl rfl ⟨rfl,?_⟩;rw[hsha];have:dI s' 32=digN s':=by simp[dI,List.take_of_length_le,ZBq]
      rw[<-this]
theorem bytes_bN(l:List UInt8):zaq l=bN (l.map UInt8.toNat):=by simp[zaq,bN]
theorem shaN_l(ps:List (List Nat)):(shaN ps).length=32:=by simp[shaN,digN]
theorem shaN_lt(ps:List (List Nat)):∀n∈shaN ps,n<256:=λn h=>by
 simp only[shaN,digN,List.mem_map] at h;obtain⟨i,_,rfl⟩:=h;exact Nat.mod_lt _ Xn
noncomputable def shaD(ps:List (List UInt8)):Dig:=⟨(shaN (ps.map λp=>p.map UInt8.toNat)).map UInt8.ofNat,by simp[shaN_l]⟩
theorem bytes_of{l:List Nat}(h:∀n∈l,n<256):zaq (l.map UInt8.ofNat)=bN l:=by
 rw[bytes_bN,List.map_map];congr 1
 conv=>rhs;rw[<-List.map_id l]
 refine List.map_congr_left λn hn=>?_
 have:=h n hn;simp;omega
theorem Qxq:∀l:List UInt8,Qaq (zaq l)=true
 |[]=>rfl
 |c::l=>by
  show(k1q (W.int .u8 (.ofNat c.toNat))&&Qaq (zaq l))=true;rw[Qxq l];rfl
theorem flat_dW(k:Dig):k1q (dW k)=true:=Qxq k.1
theorem sha_s(ps:List (List UInt8×Bool))(f:Bool)(hb:((ps.map (·.1)).map List.length).foldr (· + ·) 0<2147483648)(hn:ps.length<2147483648):PS cfg glK 136 [.fz (ps.map λp=>.fz (zaq p.1) 1 p.2) 1 f] (dW (shaD (ps.map (·.1)))):=λR=>by
 have e1:(ps.map λp=>(p.1.map UInt8.toNat,p.2)).map Y9q=ps.map λp=>.fz (zaq p.1) 1 p.2:=by simp[Y9q,bytes_bN]
 have e2:(ps.map λp=>(p.1.map UInt8.toNat,p.2)).map (·.1)=(ps.map (·.1)).map λp=>p.map UInt8.toNat:=by simp
 have h:=of_s (ps.map λp=>(p.1.map UInt8.toNat,p.2)) f (by rw[e2];show(List.map List.length _).foldr _ 0<_;rw[List.map_map];simpa[Function.comp_def] using hb) (by simpa using hn) R;rw[e1,e2] at h
 have e3:dW (shaD (ps.map (·.1)))= .arr 32 1 (bN (shaN ((ps.map (·.1)).map λp=>p.map UInt8.toNat))):=by
  show W.arr 32 1 (zaq _)=_;rw[<-bytes_of (shaN_lt _)];rfl
 show Spec cfg glK _ 0 _ [] R λw hp nw R'=>R'=R/\w=dW (shaD (ps.map (·.1)))
 rw[e3];exact h
def vAq(p:List UInt8):List UInt8:=beB 4 (p.length%4294967296)++p
def tagB(kind:UInt8)(ps:List (List UInt8)):List UInt8:=kind::ps.flatMap vAq
variable {G:Nat->Option W}
@[simp] theorem JJq(ps:List (List UInt8)):purL (ps.map bW)=true:=yAq (λx=>by simp) ps
theorem flat_le{m:Nat}:∀{ps:List (List UInt8)} (i:Nat),(∀p∈ps,p.length<m) ->((ps.take i).flatMap vAq).length<=i*(m+4)
 |[],i,_=>by simp
 |p::ps,0,_=>by simp
 |p::ps,i+1,h=>by
  have h1:=flat_le (ps:=ps) i λq hq=>h q (List.mem_cons_of_mem _ hq)
  have h2:=h p (List.mem_cons_self ..);simp only[List.take_succ_cons,List.flatMap_cons,List.length_append,vAq,y5q,Nat.succ_mul];omega
theorem xIq(kind:UInt8)(ps:List (List UInt8))(f:Bool)(hn:ps.length<1000000)(hb:∀p∈ps,p.length<1000000):PS cfg G 203 [.int .u8 (.ofNat kind.toNat),.fz (ps.map bW) 1 f] (bW (tagB kind ps)):=by
 have e:(ps.map bW).length=ps.length:=List.length_map _;refine gIv 16 O (λR k0=>?_);refine gV (w':=.int .i64 (ps.length:Int)) 0 O Xv ?_;refine zcq 4 O ?_;refine co_loopG1 (α:=Nat) (λi=>i<=ps.length) 5 (λi=>zaq (kind::(ps.take i).flatMap vAq)) 5 1 (λi=>[(14,.int .i64 (i:Int))]) [(4,_),(12,_),(13,_)] ([]) 0 0 (λi=>ps.length-i) (0) ⟨rfl,rfl,rfl,trivial⟩ (Nat.zero_le _) ⟨rfl,trivial⟩ Xd Xd Ys (by simp[zaq]) rfl (by simp[zaq]) Xh Xh rfl Xk Xl Ye (λi hI=>?_);refine zEq 6 O ?_;refine gS 0 O (λh1=>?_) (λh1=>?_)
 ·have hi:i<ps.length:=by omega
  obtain⟨x,hx⟩:∃x,ps[i]? =some x:=⟨_,List.getElem?_eq_getElem hi⟩
  have hxl:=hb x (List.mem_of_getElem? hx);have hfl:((ps.take i).flatMap vAq).length<=i*1000004:=flat_le i hb;have hL:(zaq (kind::(ps.take i).flatMap vAq)).length<=1+i*1000004:=by rw[zgq,List.length_cons];omega
  have hN:(zaq (beB 4 x.length)).length=4:=by rw[zgq,y5q]
  have hnx:zaq (kind::(ps.take (i+1)).flatMap vAq)=(zaq (kind::(ps.take i).flatMap vAq)++zaq (beB 4 x.length))++zaq x:=by
   rw[List.take_add_one,hx,<-jbq,<-jbq];congr 1
   simp[vAq,Nat.mod_eq_of_lt (show x.length<4294967296 by omega)]
  skip
  cases x with
  |nil=>
   refine yrq 6 O ?_;refine gP 0 O (ymq (i:=i) O O O O O O O (zKq bW hx)) ?_;refine gV (w':=.int .i64 (([]:List UInt8).length:Int)) 7 O (by show W.int .i64 ((zaq (([]:List UInt8))).length:Int)=_;rw[zgq]) ?_;refine gWr 0 O ?_;refine gWr 0 O ?_
   (refine zqq rfl (qsq O O O O O O (Y6q ([]:List UInt8).length 4 Xd Xd (by show([]:List UInt8).length<4294967296;omega)) ?_);rintro w hp1 nw1 ⟨rfl,rfl,rfl⟩)
   refine zeq 10 O ?_;refine gM 0 O (yRq O O (vhq [_] (k:=ti5) (news:=zaq (beB 4 ([]:List UInt8).length)) O O O O O (qfq O O O (zpq Xn hN.symm rfl)) Yv (by rw[hN];show(_+4)*1<=_;omega) (by rw[hN];omega) rfl (by simp[numC]))) ?_;refine gM 1 O (yRq O O (vRq (k:=ti5) O O O O O)) ?_;refine gWr 5 O ?_;refine zcq 2 O ?_;exact kRq 2 (i+1) (hi) Xd (Nat.zero_le _) (by rw[hnx];exact List.append_nil _) Yc Xd Ys rfl Yf ⟨rfl,trivial⟩ ⟨rfl,rfl,rfl,trivial⟩ Xh Xh rfl Xk Xl Ye
  |cons c x=>
   refine yrq 6 O ?_;refine gP 0 O (ymq (i:=i) O O O O O O O (zKq bW hx)) ?_;refine gV (w':=.int .i64 ((c::x).length:Int)) 7 O (by show W.int .i64 ((zaq ((c::x))).length:Int)=_;rw[zgq]) ?_;refine gWr 0 O ?_;refine gWr 0 O ?_
   (refine zqq rfl (qsq O O O O O O (Y6q (c::x).length 4 Xd Xd (by show(c::x).length<4294967296;omega)) ?_);rintro w hp1 nw1 ⟨rfl,rfl,rfl⟩)
   refine zeq 10 O ?_;refine gM 0 O (yRq O O (vhq [_] (k:=ti5) (news:=zaq (beB 4 (c::x).length)) O O O O O (qfq O O O (zpq Xn hN.symm rfl)) Yv (by rw[hN];show(_+4)*1<=_;omega) (by rw[hN];omega) rfl (by simp[numC]))) ?_;refine gM 1 O (yRq O O (qcq (k:=ti5) (len:=(zaq (kind::(ps.take i).flatMap vAq)++zaq (beB 4 (c::x).length)).length) (news:=zaq (c::x)) (olds:=zaq (kind::(ps.take i).flatMap vAq)++zaq (beB 4 (c::x).length)) O O O O O (by simp[zaq]) (by rw[List.length_append,hN,zgq (c::x)];show(_+_)*1<=_;omega) (by rw[List.length_append,hN,zgq (c::x)];omega) rfl (by show(_++_:List W).length*1<0+((_++_:List W).length+(zaq (c::x)).length)*1;rw[zgq (c::x),List.length_cons];omega) rfl (zpq Xn O O))) ?_;refine gWr 5 O ?_;refine zcq 2 O ?_;exact kRq 3 (i+1) (hi) Xd (Nat.zero_le _) (hnx) Yc Xd Ys rfl Yf ⟨rfl,trivial⟩ ⟨rfl,rfl,rfl,trivial⟩ Xh Xh rfl Xk Xl Ye
 ·have hi:i=ps.length:=by omega
  subst hi;refine zcq 2 O ?_;refine qmq Xi ?_;refine zDq 9 O ?_;refine k2q Xy O ?_;rw[List.take_length];exact view_g (H0:=[]) Xn Xg Xg
theorem tag_le{m:Nat}(kind:UInt8)(ps:List (List UInt8))(h:∀p∈ps,p.length<m):(tagB kind ps).length<=1+ps.length*(m+4):=by
 have:=flat_le (m:=m) ps.length h;rw[List.take_length] at this;simp only[tagB,List.length_cons];omega
noncomputable def tagD(kind:UInt8)(ps:List (List UInt8)):Dig:=shaD [tagB kind ps]
theorem jpq(kind:UInt8)(ps:List (List UInt8))(f:Bool)(hn:ps.length<1000)(hb:∀p∈ps,p.length<1000000):PS cfg glK 134 [.int .u8 (.ofNat kind.toNat),.fz (ps.map bW) 1 f] (dW (tagD kind ps)):=by
 have hl:=tag_le kind ps hb;refine gI 9 O (λR k0=>gC 0 O (xIq kind ps f Xd hb) (zcq 1 O ?_));refine xYq O O O O O (by(repeat (first|exact .nil|refine .cons ?_ ?_|(refine .sl O ?_ rfl Xi;first|rfl|(focus (simp;done)))|(refine yxq O ?_ rfl;first|rfl|(focus (simp;done)))|(refine .pur ?_;first|rfl|(focus (simp;done)))))) (sha_s [(tagB kind ps,false)] false Xp Xg) Xk Xk ?_;exact zeq 4 O (gQa 0 O)
noncomputable def keyD(k:Dig):Dig:=tagD 3 [k.1]
theorem key_s(k:Dig):PS cfg glK 320 [dW k] (dW (keyD k)):=by
 exact gI 10 O (λR k0=>xYq O O O O O (.cons (.pur rfl) (.cons (.sl2 (full:=false) rfl (.arr (.cons (.sl (full:=false) (xs:=zaq k.1) rfl Xg (zpq Xn (by simp[zgq,k.2]) rfl) Xi) .nil)) rfl Xi) .nil)) (jpq 3 [k.1] false Xg (by simp[k.2])) Xk Xk (zeq 4 O (gQa 0 O)))
end
end
end Go.Proofs.YtfliaigjcadegabGreatDoor

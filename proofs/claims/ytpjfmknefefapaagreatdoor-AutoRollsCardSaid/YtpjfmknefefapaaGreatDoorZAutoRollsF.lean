/-
  What the proof of AutoRolls stands on, part 6. No condition.
-/
import Derived.Ground.SlbNamesProg
import Derived.Shelf.Bytes.SlJoin
import Derived.Test.YtpjfmknefefapaaGreatDoorProg
import Derived.Test.YtpjfmknefefapaaGreatDoorZAutoRollsE
set_option linter.unusedSimpArgs false
set_option linter.unusedVariables false
namespace Go.Proofs.YtpjfmknefefapaaGreatDoor
@[irreducible] def bitN(k:Dig)(i:Nat):Nat:=kn k (i/8)/2^(7-i%8)%2
theorem Jvq(k:Dig)(i:Nat):bitN k i<=1:=by unfold bitN;omega
theorem xor_le(m n:Nat)(hm:m<=255)(hn:n<=255):m^^^n<=255:=by
 have:m^^^n<2^8:=Nat.xor_lt_two_pow Xd Xd;omega
theorem pow_le(n:Nat):2^(7-n)<=255:=by
 have h:∀m,m<=7->2^m<=255:=by decide
 exact h _ Xd
@[irreducible] def kiq(k:Dig)(i:Nat):Dig:=setD k (i/8) (UInt8.ofNat (kn k (i/8)^^^2^(7-i%8)))
@[irreducible] def lenM(x:Nat):Nat:=if x=0 then 0 else Nat.log2 x+1
theorem lenM_le(x:Nat)(hx:x<=255):lenM x<=8:=by
 have h:∀x,x<=255->lenM x<=8:=by decide+kernel
 exact h x hx
def dOf(a b:Dig)(i:Nat):Nat×Nat:=(i,kn a i^^^kn b i)
@[irreducible] def dTo(a b:Dig)(n:Nat):List (Nat×Nat):=((List.range n).map (dOf a b)).filter (λp=>p.2 !=0)
theorem dTo_zero(a b:Dig):dTo a b 0=[]:=by unfold dTo;rfl
theorem u9q(a b:Dig)(n:Nat):dTo a b (n+1)=dTo a b n++(if kn a n^^^kn b n=0 then [] else [dOf a b n]):=by
 unfold dTo;rw[List.range_succ,List.map_append,List.filter_append];congr 1
 simp only[List.map_cons,List.map_nil,List.filter_cons,List.filter_nil,dOf];split<;>split<;>simp_all
theorem dTo_pre(a b:Dig)(n m:Nat):dTo a b n<+:dTo a b (n+m):=by
 induction m with
 |zero=>exact List.prefix_refl _
 |succ m ih=>rw[<-Nat.add_assoc,u9q];exact ih.trans (List.prefix_append _ _)
theorem dTo_get(a b:Dig)(i n:Nat)(hi:i<n)(hx:kn a i^^^kn b i≠0):(dTo a b n)[(dTo a b i).length]? =some (dOf a b i):=by
 obtain⟨m,rfl⟩:∃m,n=(i+1)+m:=⟨n-(i+1),by omega⟩
 obtain⟨l,hl⟩:=dTo_pre a b (i+1) m;rw[<-hl,u9q,if_neg hx];simp
theorem dTo_mem{a b:Dig}{n:Nat}{x:Nat×Nat}(h:x∈dTo a b n):x.1<n/\x.2=kn a x.1^^^kn b x.1/\x.2≠0:=by
 unfold dTo at h;rw[List.mem_filter,List.mem_map] at h;obtain⟨⟨i,hi,rfl⟩,h2⟩:=h;exact⟨List.mem_range.1 hi,rfl,by simpa using h2⟩
@[irreducible] def ypq(a b:Dig):Nat:=match dTo a b 32 with
 |[]=>256
 |x::_=>8*x.1+(8-lenM x.2)
@[irreducible] def q5q(a b:Dig):Bool:=match dTo a b 32 with
 |[]=>false
 |x::_=>decide (kn a x.1<kn b x.1)
theorem byte_top:∀x,x<256->x≠0->lenM x<=8/\1<=lenM x/\x.testBit (lenM x-1)=true/\∀k,k<8->lenM x-1<k->x.testBit k=false:=by decide+kernel
theorem qIq(m k:Nat):m/2^k%2=(m.testBit k).toNat:=by rw[Nat.toNat_testBit]
theorem lt_top{m n L:Nat}(h:∀k,L<k->m.testBit k=n.testBit k)(hm:m.testBit L=false)(hn:n.testBit L=true):m<n:=by
 have h1:m/2^(L+1)=n/2^(L+1):=by
  apply Nat.eq_of_testBit_eq;intro i;rw[Nat.testBit_div_two_pow,Nat.testBit_div_two_pow];exact h _ Xd
 have e:∀x,x/2^(L+1)=x/2^L/2:=λx=>by rw[Nat.pow_succ,Nat.div_div_eq_div_mul]
 have hm':m/2^L%2=0:=by rw[qIq,hm];rfl
 have hn':n/2^L%2=1:=by rw[qIq,hn];rfl
 rw[e,e] at h1;have:m/2^L<n/2^L:=by omega
 exact Nat.lt_of_not_le λhc=>by have:=Nat.div_le_div_right (c:=2^L) hc;omega
theorem Juq(m n:Nat)(hm:m<=255)(hn:n<=255)(hx:m^^^n≠0):
  1<=lenM (m^^^n)/\lenM (m^^^n)<=8/\(∀t,t<8-lenM (m^^^n) ->m/2^(7-t)%2=n/2^(7-t)%2)/\
   ¬m/2^(lenM (m^^^n) -1)%2=n/2^(lenM (m^^^n) -1)%2/\(m<n↔m/2^(lenM (m^^^n) -1)%2<n/2^(lenM (m^^^n) -1)%2):=by
 have hle:=xor_le m n hm hn;obtain⟨h1,h2,h3,h4⟩:=byte_top (m^^^n) Xd hx
 have hab:∀k,lenM (m^^^n) -1<k->m.testBit k=n.testBit k:=λk hk=>by
  by_cases hk8:k<8
  ·have:=h4 k hk8 hk;rw[Nat.testBit_xor] at this;revert this;cases m.testBit k<;>cases n.testBit k<;>simp
  ·have e1:m<2^k:=Nat.lt_of_lt_of_le (show m<2^8 by omega) (Nat.pow_le_pow_right Xd Xd);have e2:n<2^k:=Nat.lt_of_lt_of_le (show n<2^8 by omega) (Nat.pow_le_pow_right Xd Xd);rw[Nat.testBit_lt_two_pow e1,Nat.testBit_lt_two_pow e2]
 rw[Nat.testBit_xor] at h3;refine⟨h2,h1,λt ht=>?_,?_,?_⟩
 ·rw[qIq,qIq,hab _ Xd]
 ·rw[qIq,qIq];revert h3;cases m.testBit (lenM (m^^^n) -1)<;>cases n.testBit (lenM (m^^^n) -1)<;>simp
 ·rw[qIq,qIq];cases hmb:m.testBit (lenM (m^^^n) -1)<;>cases hnb:n.testBit (lenM (m^^^n) -1)<;>simp only[hmb,hnb] at h3
  ·simp at h3
  ·have:=lt_top hab hmb hnb;simp[this]
  ·have:=lt_top (λk hk=>(hab k hk).symm) hnb hmb;simp;omega
  ·simp at h3
theorem xor_zero{m n:Nat}:m^^^n=0↔m=n:=by
 constructor
 ·intro h;apply Nat.eq_of_testBit_eq;intro i;have:(m^^^n).testBit i=false:=by rw[h];simp
  rw[Nat.testBit_xor] at this;revert this;cases m.testBit i<;>cases n.testBit i<;>simp
 ·rintro rfl;exact Nat.xor_self m
theorem dTo_nil{a b:Dig}{n:Nat}(h:dTo a b n=[]):∀i,i<n->kn a i=kn b i:=λi hi=>by
 rcases Classical.em (kn a i^^^kn b i=0) with hx|hx
 ·exact xor_zero.1 hx
 ·have:=dTo_get a b i n hi hx;rw[h] at this;simp at this
theorem vaq{a b:Dig}{x:Nat×Nat}{l:List (Nat×Nat)}:∀{n:Nat},dTo a b n=x::l->x.1<n/\x.2=kn a x.1^^^kn b x.1/\x.2≠0/\∀i,i<x.1->kn a i=kn b i:=by
 intro n h;obtain⟨h1,h2,h3⟩:=dTo_mem (a:=a) (b:=b) (n:=n) (x:=x) (by rw[h];simp);refine⟨h1,h2,h3,?_⟩;revert l
 induction n with
 |zero=>omega
 |succ n ih=>
  intro l h;rw[u9q] at h;cases hd:dTo a b n with
  |nil=>
   have:=dTo_nil hd;intro i hi;exact this i Xd
  |cons y r=>
   rw[hd] at h;have hy:y=x:=by simpa using congrArg List.head? h
   subst hy;have hm:=(dTo_mem (a:=a) (b:=b) (n:=n) (x:=y) (by rw[hd];simp)).1;exact ih hm hd
def JCq(a b:Dig)(s:Nat):Prop:=(∀j,j<s->bitN a j=bitN b j)/\(s=256\/(s<256/\¬bitN a s=bitN b s))
theorem uMq(a b:Dig):JCq a b (ypq a b):=by
 unfold ypq;cases hd:dTo a b 32 with
 |nil=>
  have h:=dTo_nil hd;exact⟨λj hj=>by simp only at hj;unfold bitN;rw[h (j/8) Xd],.inl rfl⟩
 |cons x l=>
  obtain⟨h1,h2,h3,h4⟩:=vaq hd;simp only;have hb:=Juq (kn a x.1) (kn b x.1) (u0q _ _) (u0q _ _) (by rw[<-h2];exact h3);rw[<-h2] at hb;obtain⟨b1,b2,b3,b4,-⟩:=hb;refine⟨λj hj=>?_,.inr ⟨by omega,?_⟩⟩
  ·unfold bitN;by_cases hjx:j/8<x.1
   ·rw[h4 _ hjx]
   ·have e:j/8=x.1:=by omega
    rw[e];exact b3 (j%8) Xd
  ·unfold bitN;rw[show(8*x.1+(8-lenM x.2))/8=x.1 by omega,show 7-(8*x.1+(8-lenM x.2))%8=lenM x.2-1 by omega];exact b4
theorem shared_uniq{a b:Dig}{s t:Nat}(hs:JCq a b s)(ht:JCq a b t):s=t:=by
 obtain⟨s1,s2⟩:=hs;obtain⟨t1,t2⟩:=ht;rcases Nat.lt_trichotomy s t with h|h|h
 ·have:=t1 s h;rcases s2 with s2|⟨_,s2⟩
  ·omega
  ·exact absurd this s2
 ·exact h
 ·have:=s1 t h;rcases t2 with t2|⟨_,t2⟩
  ·omega
  ·exact absurd this t2
theorem ahead_is(a b:Dig):q5q a b=decide (ypq a b<256/\bitN a (ypq a b)<bitN b (ypq a b)):=by
 unfold q5q ypq;cases hd:dTo a b 32 with
 |nil=>simp
 |cons x l=>
  obtain⟨h1,h2,h3,h4⟩:=vaq hd;simp only;have hb:=Juq (kn a x.1) (kn b x.1) (u0q _ _) (u0q _ _) (by rw[<-h2];exact h3);rw[<-h2] at hb;obtain⟨b1,b2,b3,b4,b5⟩:=hb;refine decide_eq_decide.2 ?_;unfold bitN;rw[show(8*x.1+(8-lenM x.2))/8=x.1 by omega,show 7-(8*x.1+(8-lenM x.2))%8=lenM x.2-1 by omega,b5];constructor
  ·exact λh=>⟨by omega,h⟩
  ·exact λh=>h.2
theorem ofNat_u8(n:Nat)(h:n<=255):(UInt8.ofNat n).toNat=n:=by simp;omega
theorem kn_turn(k:Dig)(i j:Nat)(hj:j<32)(hi:i<256):kn (kiq k i) j=if j=i/8 then kn k j^^^2^(7-i%8) else kn k j:=by
 unfold kiq;rw[kn_set _ _ _ _ hj];by_cases h:i/8=j
 ·rw[if_pos h,if_pos h.symm,h,ofNat_u8];exact xor_le _ _ (u0q _ _) (pow_le _)
 ·rw[if_neg h,if_neg (λe=>h e.symm)]
theorem Ywq(k:Dig)(i j:Nat)(hi:i<256)(hj:j<256)(h:¬j=i):bitN (kiq k i) j=bitN k j:=by
 unfold bitN;rw[kn_turn _ _ _ Xd hi];by_cases h8:j/8=i/8
 ·rw[if_pos h8,qIq,qIq,Nat.testBit_xor,Nat.testBit_two_pow_of_ne Xd];simp
 ·rw[if_neg h8]
theorem bit_turn_eq(k:Dig)(i:Nat)(hi:i<256):bitN (kiq k i) i=1-bitN k i:=by
 unfold bitN;rw[kn_turn _ _ _ Xd hi,if_pos rfl,qIq,qIq,Nat.testBit_xor,Nat.testBit_two_pow_self];cases (kn k (i/8)).testBit (7-i%8)<;>rfl
theorem shared_eq{a b:Dig}:ypq a b=256↔a=b:=by
 constructor
 ·intro h;cases hd:dTo a b 32 with
  |nil=>exact dig_ext (dTo_nil hd)
  |cons x l=>
   exfalso
   obtain⟨h1,h2,h3,h4⟩:=vaq hd;have hb:=Juq (kn a x.1) (kn b x.1) (u0q _ _) (u0q _ _) (by rw[<-h2];exact h3);rw[<-h2] at hb;unfold ypq at h;rw[hd] at h;simp only at h;omega
 ·rintro rfl;rcases(uMq a a).2 with h|⟨_,h⟩
  ·exact h
  ·exact absurd rfl h
theorem xkq{a b:Dig}{d:Nat}(hd:d<=256):d<=ypq a b↔∀j,j<d->bitN a j=bitN b j:=by
 obtain⟨h1,h2⟩:=uMq a b;constructor
 ·exact λh j hj=>h1 j Xd
 ·intro h;rcases h2 with h2|⟨h2,h3⟩
  ·omega
  ·exact Nat.le_of_not_lt λhlt=>h3 (h _ hlt)
theorem ahead_iff{a b:Dig}:q5q a b=true↔∃s,s<256/\(∀j,j<s->bitN a j=bitN b j)/\bitN a s=0/\bitN b s=1:=by
 rw[ahead_is];have hs:=uMq a b;constructor
 ·intro h;have h:=of_decide_eq_true h;refine⟨ypq a b,h.1,hs.1,?_,?_⟩<;>(have:=Jvq b (ypq a b);omega)
 ·rintro⟨s,h1,h2,h3,h4⟩;have:ypq a b=s:=shared_uniq hs ⟨h2,.inr ⟨h1,by omega⟩⟩;rw[this];exact decide_eq_true ⟨h1,by omega⟩
theorem viq{a b:Dig}(h:q5q a b=true):a≠b:=by
 rintro rfl;obtain⟨s,_,_,h3,h4⟩:=ahead_iff.1 h;omega
theorem ahead_total{a b:Dig}(h:a≠b):q5q a b=true\/q5q b a=true:=by
 have hs:=uMq a b;have h256:ypq a b≠256:=λe=>h (shared_eq.1 e)
 rcases hs.2 with h2|⟨h1,h2⟩
 ·exact absurd h2 h256
 ·have x1:=Jvq a (ypq a b);have x2:=Jvq b (ypq a b);rcases Nat.eq_zero_or_pos (bitN a (ypq a b)) with h3|h3
  ·exact .inl (ahead_iff.2 ⟨_,h1,hs.1,h3,by omega⟩)
  ·exact .inr (ahead_iff.2 ⟨_,h1,λj hj=>(hs.1 j hj).symm,by omega,by omega⟩)
section
open Go.RowKit
section
attribute [local irreducible] CoW OpW FlW Step Spec
variable {G:Nat->Option W}
theorem tdiv_nat(a b:Nat):((a:Int)).tdiv (b:Int)=((a/b:Nat):Int):=by rw[Int.tdiv_eq_ediv_of_nonneg Xd];rfl
theorem QDq(a b:Nat):((a:Int)).tmod (b:Int)=((a%b:Nat):Int):=by rw[Int.tmod_eq_emod_of_nonneg Xd];rfl
theorem dW_ld(k:Dig){i:Nat}(h:i<32):zYq 50 (dW k) (0+i*1) 1 false=some (.int .u8 (kn k i:Nat)):=by rw[Nat.zero_add];exact dW_get k h
theorem bit_and(x n:Nat)(hn:n<=7)(hx:x<=255):Nat.land (Nat.shiftRight x (min n 8)%256) (1%256)=x/2^n%2:=by
 have h1:Nat.shiftRight x (min n 8)=x/2^n:=by rw[show min n 8=n by omega];exact Nat.shiftRight_eq_div_pow x n
 have h2:=Nat.div_le_self x (2^n);rw[h1,Nat.mod_eq_of_lt Xd];exact Nat.and_one_is_mod _
theorem bit_in(k:Dig)(i:Nat)(h:i<256):PS cfg G 223 [dW k,.int .i64 (i:Int)] (.tup [.int .u8 (bitN k i:Nat),.int .i64 0]):=by
 have hk:=u0q k (i/8);refine gI 11 Z (λR k0=>?_);refine gD 0 Z (λh1=>?_) (λh1=>?_)
 ·exfalso;omega
 refine gU 2 Z ?_;refine gS 3 Z (λh2=>?_) (λh2=>?_)
 ·exfalso;omega
 refine gA 5 Z (i/8) (e:=(tdiv_nat i 8)) (gP 0 Z (kdq (i:=i/8) Z Z Z Z Z Z Xd) (gM 0 Z (yiq Z Z Z (dW_ld k Xd)) (gV 1 Z (congrArg (W.int .i64) (QDq i 8)) (gA 0 Z (7-i%8) (gQ 7 Z ?_)))));show W.tup [.int .u8 (Nat.land (Nat.shiftRight (kn k (i/8)) (min (7-i%8) 8)%256) (1%256):Nat),_]=_;rw[bit_and _ _ Xd hk];unfold bitN;rfl
theorem len_tabW(s:List UInt8)(h:(List.range 256).all (λx=>s[x]? ==some (UInt8.ofNat (lenM x)))=true)(x:Nat)(hx:x<=255):s[x]? =some (UInt8.ofNat (lenM x)):=by
 have:=List.all_eq_true.1 h x (List.mem_range.2 Xd);simpa using this
theorem len8_s(x:Nat)(hx:x<=255):PS cfg G 271 [.int .u8 (x:Int)] (.int .i64 (lenM x:Nat)):=by
 have hl:=lenM_le x hx;have e:((UInt8.ofNat (lenM x)).toNat:Int)=(lenM x:Nat):=by congr 1;simp;omega
 exact gI 8 Z (λR k0=>gP 0 Z (ix_str Z Z Z Z Z (len_tabW _ (by decide+kernel) x hx)) (gA 0 Z (lenM x) (e:=e) (gQa 4 Z)))
theorem lz8_s(x:Nat)(hx:x<=255):PS cfg G 254 [.int .u8 (x:Int)] (.int .i64 (8-lenM x:Nat)):=by
 have hl:=lenM_le x hx;exact gI 8 Z (λR k0=>gC 0 Z (len8_s _ Xd) (gA 0 Z (8-lenM x) (gQa 4 Z)))
noncomputable def encP(x:Nat×Nat):List W:=[.int .i64 (x.1:Int),.int .u8 (x.2:Int)]
theorem dTo_more(a b:Dig){i:Nat}(h:i<32)(hx:kn a i^^^kn b i≠0):(dTo a b 32).drop (dTo a b i).length=dOf a b i::(dTo a b 32).drop (dTo a b (i+1)).length:=by
 have h1:=dTo_get a b i 32 h hx;obtain⟨hl,h2⟩:=List.getElem?_eq_some_iff.1 h1;have hs:=u9q a b i;rw[if_neg hx] at hs;rw[List.drop_eq_getElem_cons hl,h2,hs];simp
theorem dTo_same(a b:Dig){i:Nat}(hx:kn a i^^^kn b i=0):dTo a b (i+1)=dTo a b i:=by rw[u9q,if_pos hx,List.append_nil]
theorem xor8(x y:Nat)(hx:x<=255)(hy:y<=255):Nat.xor (x%256) (y%256)=x^^^y:=by rw[Nat.mod_eq_of_lt Xd,Nat.mod_eq_of_lt Xd];rfl
theorem apart_s(a b:Dig):PS cfg G 192 [dW a,dW b] (.fn 231 [] [.fel (dW a),.fel (dW b)]):=by
 refine gI 14 Z (λR k0=>?_);refine yHq (fr2:=[(4,_)]) Xr ?_ Z Z
 (repeat (first|exact trivial|refine And.symm ⟨?_,_,rfl,?_⟩))<;>(repeat (first|exact .nil|refine .cons ?_ ?_|refine .fn ?_ ?_|(refine qFq Z ?_ rfl;(first|rfl|(focus (simp;done))))|(refine .sl Z ?_ rfl Xi;(first|rfl|(focus (simp;done))))|(refine .pur ?_;(first|rfl|(focus (simp;done))))|refine .agg ?_|refine .arr ?_|refine .tup ?_))
theorem apart_it(a b:Dig):qkq cfg G 231 [.fel (dW a),.fel (dW b)] ((dTo a b 32).map encP):=by
 refine xqq (fn:=Tryz.f231) Z Z Z (Zb rfl) (λL E R hy k0=>?_);refine co_scope 3 (z9q 9 Z ?_);refine co_loopR (α:=Nat×Res) (λp=>p.1<=32/\Yl cfg G L E (((dTo a b 32).drop (dTo a b p.1).length).map encP) p.2) (λp=>[(6,.int .i64 (p.1:Int))]) [(0,_),(1,_),(2,_)] (λp=>[]) (λp=>p.2) (λp=>32-p.1) ((0,R)) ⟨rfl,rfl,rfl,trivial⟩ (⟨Nat.zero_le _,by rw[dTo_zero];exact hy⟩) ⟨rfl,trivial⟩ Z Z (λp hI=>?_);obtain⟨i,R⟩:=p;obtain⟨hi,hy⟩:=hI;simp only at hi hy;have ha:=u0q a i;have hb:=u0q b i;refine z9q 6 Z ?_;refine gS 0 Z (λh1=>?_) (λh1=>?_)
 ·have hi':i<32:=by omega
  refine gP 13 Z (ix_fel Z Z Z Z Z Z Xd rfl (dW_get a hi')) (gP 2 Z (ix_fel Z Z Z Z Z Z Xd rfl (dW_get b hi')) (gV (w':=.int .u8 ((kn a i^^^kn b i:Nat):Int)) 1 Z (congrArg (λn:Nat=>W.int .u8 (n:Int)) (xor8 _ _ ha hb)) ?_));refine gD 6 Z (λh2=>?_) (λh2=>?_)
  ·have hx:kn a i^^^kn b i≠0:=by omega
   rw[dTo_more a b hi' hx,List.map_cons] at hy;refine gSo 4 Z (qNq Z Z Z (hy) (λb R1 hb=>?_));refine gS 4 Z (λh3=>?_) (λh3=>?_)
   ·cases b with
    |true=>cases h3
    |false=>
     exact zLq 3 Z (q4q Xi (zZq 1 Z (q_scope (by intro l h;cases h) (kfq (.inl rfl) rfl hb))))
   ·cases b with
    |false=>exact absurd rfl h3
    |true=>
     exact zLq 4 Z (gA 0 Z (i+1) (zbq 2 Z (QUq ((i+1,R1)) (⟨hi',hb⟩) Yf (Nat.zero_le _) ⟨rfl,trivial⟩ ⟨rfl,rfl,rfl,trivial⟩ Xh Xh Xd Xk Xz rfl)))
  ·have hx:kn a i^^^kn b i=0:=by omega
   rw[<-dTo_same a b hx] at hy;exact gA 14 Z (i+1) (zbq 2 Z (QUq ((i+1,R)) (⟨hi',hy⟩) Yf (Nat.zero_le _) ⟨rfl,trivial⟩ ⟨rfl,rfl,rfl,trivial⟩ Xh Xh Xd Xk Xz rfl))
 ·refine zbq 2 Z (q4q Xi (zZq 1 Z (q_scope (by intro l h;cases h) ?_)));have:i=32:=by omega
  subst this;rw[List.drop_length] at hy;exact kfq (.inl rfl) rfl hy
theorem encP_ok{l:List (Nat×Nat)}:∀y∈l,purL (encP y)=true/\(encP y).length=2:=λy _=>⟨rfl,rfl⟩
theorem head_of{α:Type}{l:List α}{x:α}{i:Nat}(h:l[i]? =some x)(hi:i=0):∃r,l=x::r:=by
 subst hi;cases l with
 |nil=>simp at h
 |cons y r=>simp at h;subst h;exact⟨r,rfl⟩
theorem shared_s(a b:Dig):PS cfg G 221 [dW a,dW b] (.int .i64 (ypq a b:Nat)):=by
 refine gI 12 Z (λR k0=>gC 0 Z (apart_s _ _) (zbq 3 Z ?_));refine Yoq (encP) (dTo a b 32) (λi=>i=0) rfl Xn (apart_it a b) (encP_ok) (rfl) (λi y hy hI=>?_) (λhI=>?_)
 ·obtain⟨r,hr⟩:=head_of hy hI;obtain⟨h1,h2,h3,h4⟩:=vaq hr;have hb:=xor_le _ _ (u0q a y.1) (u0q b y.1);rw[<-h2] at hb;have hl:=lenM_le y.2 hb;refine z9q 8 Z (ZHq (z9q 4 Z (gA 0 Z (8*y.1) (gC 1 Z (lz8_s _ Xd) (gA 0 Z (8*y.1+(8-lenM y.2)) (zbq 5 Z (jvq Xi (zZq 2 Z (gQ 0 Z ?_)))))))));unfold ypq;rw[hr]
 ·have:dTo a b 32=[]:=List.eq_nil_of_length_eq_zero hI;refine zZq 8 Z (gQ 0 Z ?_);unfold ypq;rw[this];rfl
theorem ahead_s(a b:Dig):PS cfg G 125 [dW a,dW b] (.bool (q5q a b)):=by
 refine gI 12 Z (λR k0=>gC 0 Z (apart_s _ _) (zbq 3 Z ?_));refine Yoq (encP) (dTo a b 32) (λi=>i=0) rfl Xn (apart_it a b) (encP_ok) (rfl) (λi y hy hI=>?_) (λhI=>?_)
 ·obtain⟨r,hr⟩:=head_of hy hI;obtain⟨h1,h2,h3,h4⟩:=vaq hr;refine z9q 3 Z (ZHq (z9q 4 Z (gP 0 Z (kdq (i:=y.1) Z Z Z Z Z Z h1) (gM 0 Z (yiq Z Z Z (dW_ld a h1)) (gP 1 Z (kdq (i:=y.1) Z Z Z Z Z Z h1) (gM 0 Z (yiq Z Z Z (dW_ld b h1)) (gU 0 Z (zbq 5 Z (jvq Xi (zZq 2 Z (gQ 0 Z ?_)))))))))));unfold q5q;rw[hr];congr 1
  simp
 ·have:dTo a b 32=[]:=List.eq_nil_of_length_eq_zero hI;refine zZq 8 Z (gQ 0 Z ?_);unfold q5q;rw[this]
theorem shr8(n:Nat)(hn:n<=7):Nat.shiftRight 128 (min n 8)=2^(7-n):=by
 have h:∀n,n<=7->Nat.shiftRight 128 (min n 8)=2^(7-n):=by decide+kernel
 exact h n hn
theorem turn_in(k:Dig)(i:Nat)(h:i<256):PS cfg G 222 [dW k,.int .i64 (i:Int)] (.tup [dW (kiq k i),.int .i64 0]):=by
 have hk:=u0q k (i/8);have hp:=pow_le (i%8);have hx:=xor_le _ _ hk hp
 have e1:Nat.xor (kn k (i/8)%256) (Nat.shiftRight 128 (min (i%8) 8)%256)=kn k (i/8)^^^2^(7-i%8):=by
  rw[shr8 _ Xd];exact xor8 _ _ hk hp
 refine gI 11 Z (λR k0=>?_);refine gD 0 Z (λh1=>?_) (λh1=>?_)
 ·exfalso;omega
 refine gU 2 Z ?_;refine gS 3 Z (λh2=>?_) (λh2=>?_)
 ·exfalso;omega
 refine gA 5 Z (i/8) (e:=(tdiv_nat i 8)) (gP 0 Z (kdq (i:=i/8) Z Z Z Z Z Z Xd) (gM 0 Z (yiq Z Z Z (dW_ld k Xd)) (gV 1 Z (congrArg (W.int .i64) (QDq i 8)) (gV (w':=.int .u8 ((kn k (i/8)^^^2^(7-i%8):Nat):Int)) 1 Z (congrArg (λn:Nat=>W.int .u8 (n:Int)) e1) (gP 0 Z (kdq (i:=i/8) Z Z Z Z Z Z Xd) (gM 0 Z (qhq Z Z Z Z Z (kRq (i:=0+i/8*1) (by rw[Nat.zero_add,Nat.mul_one];exact dW_at k Xd) Z Z) rfl) (gQ 10 Z ?_)))))));rw[Nat.zero_add,Nat.mul_one,dW_set k (i/8) Xd];unfold kiq;rfl
end
end
def beB:Nat->Nat->List UInt8
 |0,_=>[]
 |s+1,n=>UInt8.ofNat (n/256^s%256)::beB s n
def numB(l:List UInt8):Nat:=l.foldl (λa c=>256*a+c.toNat) 0
@[simp] theorem k7q:∀s n,(beB s n).length=s
 |0,_=>rfl
 |s+1,n=>by simp[beB,k7q s n]
theorem numB_snoc(l:List UInt8)(c:UInt8):numB (l++[c])=256*numB l+c.toNat:=by simp[numB,List.foldl_append]
theorem Q2q:∀(l:List UInt8) (a:Nat),l.foldl (λa c=>256*a+c.toNat) a=a*256^l.length+numB l
 |[],a=>by simp[numB]
 |c::l,a=>by
  simp only[List.foldl_cons,numB,List.length_cons];rw[Q2q l,Q2q l (256*0+c.toNat),Nat.pow_succ];simp only[Nat.add_mul,Nat.mul_zero,Nat.zero_add,Nat.add_assoc];congr 1
  rw[Nat.mul_comm 256 a,Nat.mul_assoc,Nat.mul_comm 256]
theorem numB_cons(c:UInt8)(l:List UInt8):numB (c::l)=c.toNat*256^l.length+numB l:=by
 show(c::l).foldl _ 0=_;rw[List.foldl_cons,Q2q];simp
theorem numB_lt:∀l:List UInt8,numB l<256^l.length
 |[]=>by simp[numB]
 |c::l=>by
  rw[numB_cons,List.length_cons,Nat.pow_succ];have:=numB_lt l;have hc:=c.toNat_lt;have:c.toNat*256^l.length<=255*256^l.length:=Nat.mul_le_mul_right _ Xd;omega
section
open Go.RowKit
section
attribute [local irreducible] CoW OpW FlW Step Spec
variable {G:Nat->Option W}
theorem Jtq(l:List UInt8)(f:Bool)(hl:l.length<=70368744177664):PS cfg G 47 [.fz (zcq l) 1 f] (bW l):=by
 refine gI 9 Z (λR k0=>?_);first|refine yVq Z Z ?_|refine z5q rfl (qUq Z Z Z Z Z (λbn hn=>?_))
 refine zpq 2 Z ?_;refine gS 0 Z (λh1=>?_) (λh1=>?_)
 ·cases bn with
  |false=>cases h1
  |true=>
   have hn:=hn rfl
   have hl0:l=[]:=by cases l with
    |nil=>rfl
    |cons c l=>simp[zcq] at hn
   subst hl0;refine zLq 7 Z ?_;refine yHq (fr2:=[(2,bW [])]) Qm ⟨⟨_,rfl,.nilfz⟩,trivial⟩ Z Z
 ·cases l with
  |nil=>
   skip
   refine zLq 6 Z (gM 0 Z (ySq Z Z (jdq Z Z Z Z Z)) (zbq 4 Z ?_));refine yHq (fr2:=[(2,bW [])]) Qm ⟨⟨_,rfl,.sl Z Z Z Xi⟩,trivial⟩ Z Z
  |cons c l=>
   simp only[List.length_cons] at hl;refine zLq 6 Z (gM 0 Z (ySq Z Z (qEq (news:=zcq (c::l)) (olds:=[]) Z Z Z Z Z (by simp[zcq]) (by show(0+(zcq (c::l)).length)*1<=_;rw[zqq];simp only[List.length_cons];omega) (by rw[zqq];simp only[List.length_cons];omega) rfl (by show 0<0+(0+(zcq (c::l)).length)*1;rw[zqq];simp only[List.length_cons];omega) Z Z)) (zbq 4 Z ?_));refine yHq (fr2:=[(2,bW (c::l))]) Qm ⟨⟨_,rfl,.sl rfl Xl (sub_whole Xl (Nat.mul_one _)) Xi⟩,trivial⟩ Z Z
theorem end_s(l:List UInt8)(f:Bool):PS cfg G 109 [.fz (zcq l) 1 f] (.int .i64 (if l=[] then 0 else 11)):=by
 have e:=zqq l;refine gI 9 Z (λR k0=>gL 0 Z ?_);refine gS 3 Z (λh1=>?_) (λh1=>?_)
 ·refine zbq 7 Z ?_;have:l≠[]:=by rintro rfl;simp[zcq] at h1
  exact gQ 0 Z (by rw[if_neg this])
 ·refine zbq 8 Z ?_;have:l=[]:=List.eq_nil_of_length_eq_zero (by rw[<-e];simpa using h1);exact gQ 0 Z (by rw[if_pos this])
theorem shr_byte(n i:Nat)(hi:i<=8):Nat.shiftRight n (min (8*i) 64)%256=n/256^i%256:=by
 have:Nat.shiftRight n (min (8*i) 64)=n/2^(8*i):=by rw[show min (8*i) 64=8*i by omega];exact Nat.shiftRight_eq_div_pow _ _
 rw[this,Nat.pow_mul]
theorem be_at(n size i:Nat)(hi:i<size):(zcq (List.replicate (size-i) 0++beB i n))[0+(size-1-i)*1]? =some (.int .u8 (.ofNat 0)):=by
 refine xCq (c:=0) ?_;rw[List.getElem?_append_left Xo,List.getElem?_replicate,if_pos Xd]
theorem be_set(n size i:Nat)(hi:i<size):(zcq (List.replicate (size-i) 0++beB i n)).set (0+(size-1-i)*1) (.int .u8 ((n/256^i%256:Nat):Int))=zcq (List.replicate (size-(i+1)) 0++beB (i+1) n):=by
 have e:size-i=(size-(i+1))+1:=by omega
 have e2:0+(size-1-i)*1=size-(i+1):=by omega
 rw[e,e2,List.replicate_succ',List.append_assoc,jJq,jJq,List.set_append_right _ _ (by simp[zcq])];simp only[zcq,List.length_map,List.length_replicate,Nat.sub_self,List.singleton_append,List.map_cons,List.set_cons_zero,beB];congr 2
 simp
theorem be_zero(n size:Nat):zcq (List.replicate (size-0) 0++beB 0 n)=List.replicate size (.int .u8 0):=by simp[zcq,beB]
theorem put_s(n size:Nat)(hs:1<=size)(hs8:size<=8)(hn:n<256^size):qbq cfg G 199 0 [.int .u64 (n:Int),.int .i64 (size:Int)] [] λw hp nw=>
  w= .tup [.sl 0 0 0 size 1 none,.int .i64 0]/\hp=[(0,5,.arr (size*1) 1 (zcq (beB size n)))]/\nw=1:=by
 intro R
 have hq:size<8->Nat.shiftRight n (min (8*size) 64)=0:=λh=>by
  rw[show min (8*size) 64=8*size by omega,show Nat.shiftRight n (8*size)=n/2^(8*size) from Nat.shiftRight_eq_div_pow _ _,Nat.pow_mul];exact Nat.div_eq_of_lt hn
 refine gIs 11 Z (λk0=>?_);refine gD 0 Z (λh1=>?_) (λh1=>?_)
 ·exfalso;omega
 refine gU 2 Z ?_;refine gS 4 Z (λh2=>?_) (λh2=>?_)
 ·exfalso;omega
 refine gD 3 Z (λh3=>?_) (λh3=>?_)
 ·have h8:=hq Xd;refine gA 3 Z (8*size) (gU 1 Z ?_);refine gS 4 Z (λh4=>?_) (λh4=>?_)
  ·skip
   exfalso
   have h4:(0:Int)<(Nat.shiftRight n (min (8*size) 64):Nat):=h4;rw[h8] at h4;omega
  ·refine gM 6 Z (mk_slice (l:=size) (c:=size) Z Z Z Z Z Z Z Z (Nat.le_refl _) (by show 1*size<=_;omega) Xd Z Z) (zbq 11 Z ?_);refine k4q (α:=Nat) (λi=>i<=size) (λi=>[(28,.int .i64 (i:Int))]) [(0,_),(1,_),(4,_),(5,_),(6,_),(27,_)] (λi=>[(0,5,.arr (size*1) 1 (zcq (List.replicate (size-i) 0++beB i n)))]) (λi=>size-i) (0) ⟨rfl,rfl,rfl,rfl,rfl,rfl,trivial⟩ (Nat.zero_le _) ⟨rfl,trivial⟩ (by rw[be_zero];rfl) (λi hI=>?_);refine z9q 6 Z ?_;refine gS 0 Z (λh5=>?_) (λh5=>?_)
   ·have hi:i<size:=by omega
    exact gA 13 Z (size-1) (gA 1 Z (size-1-i) (gA 2 Z (8*i) (gV (w':=.int .u8 ((n/256^i%256:Nat):Int)) 1 Z (congrArg (λn:Nat=>W.int .u8 (n:Int)) (shr_byte n i Xd)) (gP 0 Z (knq (i:=size-1-i) Z Z Z Z Z Z Z Xd) (gM 0 Z (qhq Z Z Z Z Z (kRq (be_at n size i hi) Z Z) (congrArg (λL=>[(0,5,W.arr (size*1) 1 L)]) (be_set n size i hi))) (gA 4 Z (i+1) (zbq 2 Z (kQq (i+1) (hi) Xd ⟨rfl,trivial⟩ ⟨rfl,rfl,rfl,rfl,rfl,rfl,trivial⟩ rfl))))))))
   ·refine zbq 2 Z (q4q Xi (zZq 10 Z ?_));have:i=size:=by omega
    subst this;refine fin Qm Ent.refl rfl ⟨rfl,rfl,?_,rfl⟩;rw[Nat.sub_self];rfl
 ·refine gM 17 Z (mk_slice (l:=size) (c:=size) Z Z Z Z Z Z Z Z (Nat.le_refl _) (by show 1*size<=_;omega) Xd Z Z) (zbq 11 Z ?_);refine k4q (α:=Nat) (λi=>i<=size) (λi=>[(28,.int .i64 (i:Int))]) [(0,_),(1,_),(4,_),(5,_),(6,_),(27,_)] (λi=>[(0,5,.arr (size*1) 1 (zcq (List.replicate (size-i) 0++beB i n)))]) (λi=>size-i) (0) ⟨rfl,rfl,rfl,rfl,rfl,rfl,trivial⟩ (Nat.zero_le _) ⟨rfl,trivial⟩ (by rw[be_zero];rfl) (λi hI=>?_);refine z9q 6 Z ?_;refine gS 0 Z (λh4=>?_) (λh4=>?_)
  ·have hi:i<size:=by omega
   exact gA 13 Z (size-1) (gA 1 Z (size-1-i) (gA 2 Z (8*i) (gV (w':=.int .u8 ((n/256^i%256:Nat):Int)) 1 Z (congrArg (λn:Nat=>W.int .u8 (n:Int)) (shr_byte n i Xd)) (gP 0 Z (knq (i:=size-1-i) Z Z Z Z Z Z Z Xd) (gM 0 Z (qhq Z Z Z Z Z (kRq (be_at n size i hi) Z Z) (congrArg (λL=>[(0,5,W.arr (size*1) 1 L)]) (be_set n size i hi))) (gA 4 Z (i+1) (zbq 2 Z (kQq (i+1) (hi) Xd ⟨rfl,trivial⟩ ⟨rfl,rfl,rfl,rfl,rfl,rfl,trivial⟩ rfl))))))))
  ·refine zbq 2 Z (q4q Xi (zZq 10 Z ?_));have:i=size:=by omega
   subst this;refine fin Qm Ent.refl rfl ⟨rfl,rfl,?_,rfl⟩;rw[Nat.sub_self];rfl
theorem shl8(n:Nat):(Int.ofNat (Nat.shiftLeft n (min 8 64)))=((256*n:Nat):Int):=by
 rw[show Nat.shiftLeft n (min 8 64)=n*2^8 from Nat.shiftLeft_eq n 8,Nat.mul_comm];rfl
theorem or_low(n c:Nat)(hn:256*n<18446744073709551616)(hc:c<256):Nat.lor (256*n%18446744073709551616) (c%18446744073709551616)=256*n+c:=by
 rw[Nat.mod_eq_of_lt hn,Nat.mod_eq_of_lt Xd];have:=Nat.two_pow_add_eq_or_of_lt (i:=8) (b:=c) Xd n;rw[Nat.mul_comm] at this;rw[show Nat.lor (256*n) c=256*n|||c from rfl,Nat.mul_comm 256 n];rw[Nat.mul_comm] at this;rw[Nat.mul_comm n 256];exact this.symm
theorem pow256_le{i:Nat}(h:i<=8):256^i<=18446744073709551616:=by
 have h':∀i,i<=8->256^i<=18446744073709551616:=by decide
 exact h' i h
theorem numB_take{l:List UInt8}{i:Nat}{c:UInt8}(h:l[i]? =some c):numB (l.take (i+1))=256*numB (l.take i)+c.toNat:=by
 rw[List.take_add_one,h];exact numB_snoc _ _
theorem numB_take_lt{l:List UInt8}{i:Nat}(h:i<=7):256*numB (l.take i)<18446744073709551616:=by
 have h1:=numB_lt (l.take i);have h2:256^(l.take i).length<=256^i:=Nat.pow_le_pow_right Xd Xo;have h3:=pow256_le (i:=i+1) Xd;rw[Nat.pow_succ] at h3;omega
theorem krq(l:List UInt8)(f:Bool)(size:Nat)(hs:1<=size)(hs8:size<=8)(hl:l.length<size):PS cfg G 108 [.fz (zcq l) 1 f,.int .i64 (size:Int)] (.tup [.int .u64 0,.nils,.int .i64 10]):=by
 have e:=zqq l;refine gI 12 Z (λR k0=>?_);refine gD 0 Z (λh1=>?_) (λh1=>?_)
 ·exfalso;omega
 refine gU 2 Z ?_;refine gS 4 Z (λh2=>?_) (λh2=>?_)
 ·exfalso;omega
 refine gV (w':=.int .i64 (l.length:Int)) 3 Z Xx (gU 1 Z ?_);refine gS 3 Z (λh3=>?_) (λh3=>?_)
 ·first|exact gQa 10 Z|(exfalso;omega)
 ·exfalso;omega
theorem xcq(l:List UInt8)(f:Bool)(size:Nat)(hs:1<=size)(hs8:size<=8)(hl:size<=l.length)(hb:l.length<=70368744177664):PS cfg G 108 [.fz (zcq l) 1 f,.int .i64 (size:Int)] (.tup [.int .u64 (numB (l.take size):Nat),bW (l.drop size),.int .i64 0]):=by
 have e:=zqq l;have el:(l.take size).length=size:=by simp;omega
 refine gI 12 Z (λR k0=>?_);refine gD 0 Z (λh1=>?_) (λh1=>?_)
 ·exfalso;omega
 refine gU 2 Z ?_;refine gS 4 Z (λh2=>?_) (λh2=>?_)
 ·exfalso;omega
 refine gV (w':=.int .i64 (l.length:Int)) 3 Z Xx (gU 1 Z ?_);refine gS 3 Z (λh3=>?_) (λh3=>?_)
 ·exfalso;omega
 refine gP 9 Z (cut_fz3 (ys:=zcq (l.take size)) (l:=0) (h:=size) (m:=size) Z Z Z Z Z Z Z Z (Nat.zero_le _) (Nat.le_refl _) Xd hs (by rw[List.drop_zero,Nat.sub_zero,bytesW_take]) rfl) (gV (w':=.int .i64 (size:Int)) 0 Z (by show W.int .i64 ((zcq (l.take size)).length:Int)=_;rw[zqq,el]) ?_);refine gLo (α:=Nat) 4 (λi=>i<=size) (λi=>[(26,.int .i64 (i:Int)),(4,.int .u64 (numB (l.take i):Nat))]) [0,1,5,6,24,25] (λi=>size-i) (0) rfl (Nat.zero_le _) (λi hI=>?_);refine gS 6 Z (λh4=>?_) (λh4=>?_)
 ·have hi:i<size:=by omega
  obtain⟨c,hc⟩:∃c,l[i]? =some c:=⟨_,List.getElem?_eq_getElem Xd⟩
  have hc2:(l.take size)[i]? =some c:=by rw[List.getElem?_take,if_pos hi];exact hc
  have hcl:=c.toNat_lt;have hn:=numB_take_lt (l:=l) (i:=i) Xd;exact gP 6 Z (zGq (i:=i) Z Z Z Z Z Z Z (xCq hc2)) (gA 6 Z (256*numB (l.take i)) (e:=(shl8 _)) (gA 1 Z (c.toNat) (gV (w':=.int .u64 (numB (l.take (i+1)):Nat)) 0 Z (congrArg (λn:Nat=>W.int .u64 (n:Int)) ((or_low _ _ hn hcl).trans (numB_take hc).symm)) (gA 5 Z (i+1) (gAg 2 Z (i+1) (hi) Xd)))))
 ·have:i=size:=by omega
  subst this;exact gO 2 Z (gP 7 Z (cut_fz (ys:=zcq (l.drop i)) (l:=i) (h:=(zcq l).length) Z Z Z Z Z Z Z Xd (Nat.le_refl _) (by rw[List.take_of_length_le Xl,bytesW_drop]) rfl) (gC 0 Z (Jtq _ _ (by first|assumption|(simp;omega))) (gQa 6 Z)))
structure Acct where
 nonce:Nat
 balance:Nat
 deriving DecidableEq
def Acct.zero:Acct:=⟨0,0⟩
noncomputable def aW(a:Acct):W:=.agg 2 [.int .u64 (a.nonce:Int),.int .u64 (a.balance:Int)]
@[simp] theorem aW_pur(a:Acct):purW (aW a)=true:=rfl
def bytesA(a:Acct):List UInt8:=beB 8 a.nonce++beB 8 a.balance
def kPq(l:List UInt8):Acct×Nat:=if l.length<16 then(.zero,10) else if 16<l.length then(.zero,11) else
 if (⟨numB (l.take 8),numB (l.drop 8)⟩:Acct)= .zero then(.zero,8) else(⟨numB (l.take 8),numB (l.drop 8)⟩,0)
theorem eq_acct(a b:Acct):eqW cfg 300 49 (aW a) (aW b)=some (decide (a=b)):=by
 have e:decide (a=b)=(decide ((a.nonce:Int)=b.nonce)&&(decide ((a.balance:Int)=b.balance)&&true)):=by
  cases a;cases b
  simp only[Acct.mk.injEq,Bool.and_true];rw[Bool.eq_iff_iff];simp only[decide_eq_true_eq,Bool.and_eq_true];omega
 rw[e];exact qrq Z Z Z Z (zuq Z Z Z (qcq Z Z) (zuq Z Z Z (qcq Z Z) q1q))
theorem aread_s(l:List UInt8)(f:Bool)(hb:l.length<=70368744177664):PS cfg G 44 [.fz (zcq l) 1 f] (.tup [aW (kPq l).1,.int .i64 ((kPq l).2:Nat)]):=by
 by_cases q1:l.length<8
 ·have e:kPq l=(.zero,10):=by unfold kPq;rw[if_pos Xd]
  rw[e];exact gI 15 Z (λR k0=>gC 0 Z (krq _ _ 8 Xd Xd q1) (gQa 27 Z))
 have q2:(l.drop 8).length=l.length-8:=by simp
 by_cases q3:l.length<16
 ·have e:kPq l=(.zero,10):=by unfold kPq;rw[if_pos q3]
  rw[e];refine gI 15 Z (λR k0=>?_);first|(first|refine j9q Z Z Z Z Z Z (xcq l _ 8 Xd Xd Xd hb) ?_|refine j9q Z Z Z Z Z Z (krq (l.drop 8) _ 8 Xd Xd Xd) ?_)|refine j9q Z Z Z Z Z Z (xcq _ _ 8 Xd Xd Xd hb) ?_|refine j9q Z Z Z Z Z Z (krq _ _ 8 Xd Xd q1) ?_
  refine zpq 23 Z ?_;first|(first|refine j9q Z Z Z Z Z Z (xcq l _ 8 Xd Xd Xd hb) ?_|refine j9q Z Z Z Z Z Z (krq (l.drop 8) _ 8 Xd Xd Xd) ?_)|refine j9q Z Z Z Z Z Z (xcq _ _ 8 Xd Xd Xd hb) ?_|refine j9q Z Z Z Z Z Z (krq _ _ 8 Xd Xd q1) ?_
  exact zpq 27 Z (gQa 0 Z)
 have e3:(l.drop 8).drop 8=[]↔l.length=16:=by rw[List.drop_drop,List.drop_eq_nil_iff];omega
 by_cases q4:16<l.length
 ·have e:kPq l=(.zero,11):=by unfold kPq;rw[if_neg q3,if_pos q4]
  have e4:¬(l.drop 8).drop 8=[]:=λh=>by have:=e3.1 h;omega
  rw[e];refine gI 15 Z (λR k0=>?_)
  (first|refine j9q Z Z Z Z Z Z (xcq l _ 8 Xd Xd Xd hb) ?_|refine j9q Z Z Z Z Z Z (xcq (l.drop 8) _ 8 Xd Xd Xd Xd) ?_)
  refine zpq 23 Z ?_
  (first|refine j9q Z Z Z Z Z Z (xcq l _ 8 Xd Xd Xd hb) ?_|refine j9q Z Z Z Z Z Z (xcq (l.drop 8) _ 8 Xd Xd Xd Xd) ?_)
  exact zpq 24 Z (j9q Z Z Z Z Z Z (zxq (w':=.int .i64 11) (end_s _ _) (by rw[if_neg e4])) (op_cz Z Z (zpq 14 Z (gQa 0 Z))))
 ·have e4:(l.drop 8).drop 8=[]:=e3.2 Xd;have e5:(l.drop 8).take 8=l.drop 8:=List.take_of_length_le Xd;refine gI 15 Z (λR k0=>?_)
  (first|refine j9q Z Z Z Z Z Z (xcq l _ 8 Xd Xd Xd hb) ?_|refine j9q Z Z Z Z Z Z (xcq (l.drop 8) _ 8 Xd Xd Xd Xd) ?_)
  refine zpq 23 Z ?_
  (first|refine j9q Z Z Z Z Z Z (xcq l _ 8 Xd Xd Xd hb) ?_|refine j9q Z Z Z Z Z Z (xcq (l.drop 8) _ 8 Xd Xd Xd Xd) ?_)
  refine zpq 24 Z (j9q Z Z Z Z Z Z (zxq (w':=.int .i64 0) (end_s _ _) (by rw[if_pos e4])) (op_cz Z Z (zpq 8 Z (gP 0 Z (yCq Z Z Z Z (eq_acct ⟨numB (l.take 8),numB ((l.drop 8).take 8)⟩ .zero)) ?_))));refine gS 3 Z (λh1=>?_) (λh1=>?_)
  ·refine zbq 10 Z ?_
   have e:kPq l=(.zero,8):=by
    rw[e5] at h1;unfold kPq;rw[if_neg q3,if_neg q4,if_pos h1]
   rw[e];exact gQa 0 Z
  ·refine zbq 11 Z ?_
   have e:kPq l=(⟨numB (l.take 8),numB (l.drop 8)⟩,0):=by
    rw[e5] at h1;unfold kPq;rw[if_neg q3,if_neg q4,if_neg h1]
   rw[e];exact gQ 0 Z (by rw[e5];rfl)
end
end
abbrev Pr:=Dig×List UInt8
inductive T where
 |nil
 |leaf (k:Dig) (v:List UInt8)
 |fork (l r:T)
 deriving Inhabited
def T.all:T->List Pr
 |.nil=>[]
 |.leaf k v=>[(k,v)]
 |.fork l r=>l.all++r.all
def T.isFork:T->Bool
 |.fork _ _=>true
 |_=>false
def T.non:T->Bool
 |.nil=>false
 |_=>true
def T.two(l r:T):Bool:=l.isFork||r.isFork||(l.non&&r.non)
def T.ok:Nat->Dig->T->Bool
 |_,_,.nil=>true
 |d,b,.leaf k _=>decide (d<=ypq k b)
 |d,b,.fork l r=>decide (d<256)&&T.ok (d+1) b l&&T.ok (d+1) (kiq b d) r&&T.two l r
def T.find(k:Dig):Nat->T->Option (List UInt8)
 |_,.nil=>none
 |_,.leaf k' v=>if k'=k then some v else none
 |d,.fork l r=>if bitN k d=0 then l.find k (d+1) else r.find k (d+1)
def Srt(l:List Pr):Prop:=l.Pairwise λa b=>q5q a.1 b.1=true
def withL(l:List Pr)(k:Dig)(v:List UInt8):List Pr:=l.filter (λp=>q5q p.1 k)++(k,v)::l.filter (λp=>q5q k p.1)
def withoutL(l:List Pr)(k:Dig):List Pr:=l.filter λp=>decide (p.1≠k)
def findL(l:List Pr)(k:Dig):Option (List UInt8):=(l.find? λp=>decide (p.1=k)).map (·.2)
theorem srt_uniq{l:List Pr}(h:Srt l){p q:Pr}(hp:p∈l)(hq:q∈l)(e:p.1=q.1):p=q:=by
 induction l with
 |nil=>simp at hp
 |cons x l ih=>
  have h:=List.pairwise_cons.1 h;simp only[List.mem_cons] at hp hq;rcases hp with rfl|hp<;>rcases hq with rfl|hq
  ·rfl
  ·exact absurd e (viq (h.1 q hq))
  ·exact absurd e.symm (viq (h.1 p hp))
  ·exact ih h.2 hp hq
theorem mem_withL{l:List Pr}{k:Dig}{v:List UInt8}{p:Pr}:p∈withL l k v↔p=(k,v)\/(p∈l/\p.1≠k):=by
 simp only[withL,List.mem_append,List.mem_filter,List.mem_cons];constructor
 ·rintro(⟨h1,h2⟩|rfl|⟨h1,h2⟩)
  ·exact .inr ⟨h1,viq h2⟩
  ·exact .inl rfl
  ·exact .inr ⟨h1,λe=>viq h2 e.symm⟩
 ·rintro(rfl|⟨h1,h2⟩)
  ·exact .inr (.inl rfl)
  ·rcases ahead_total h2 with h|h
   ·exact .inl ⟨h1,h⟩
   ·exact .inr (.inr ⟨h1,h⟩)
def Zr(d:Nat)(b:Dig):Prop:=∀j,d<=j->j<256->bitN b j=0
theorem zr_mono{d:Nat}{b:Dig}(h:Zr d b):Zr (d+1) b:=λj h1 h2=>h j Xd h2
theorem zr_turn{d:Nat}{b:Dig}(h:Zr d b)(hd:d<256):Zr (d+1) (kiq b d):=λj h1 h2=>by rw[Ywq b d j hd h2 Xd];exact h j Xd h2
theorem zr_zero:Zr 0 khq:=λj _ hj=>by
 unfold bitN
 have:kn khq (j/8)=0:=by
  unfold kn khq;simp only[List.getElem?_replicate];split<;>rfl
 rw[this];simp
theorem turn_pre{b:Dig}{d:Nat}(hd:d<256){j:Nat}(hj:j<d):bitN (kiq b d) j=bitN b j:=Ywq b d j hd Xd Xd
theorem side_l{b k:Dig}{d:Nat}(hz:Zr d b)(hd:d<256)(h:d+1<=ypq k b):d<=ypq k b/\bitN k d=0:=
 ⟨by omega,by rw[(xkq Xd).1 h d Xd];exact hz d (Nat.le_refl _) hd⟩
theorem side_r{b k:Dig}{d:Nat}(hz:Zr d b)(hd:d<256)(h:d+1<=ypq k (kiq b d)):d<=ypq k b/\bitN k d=1:=by
 have h1:=(xkq Xd).1 h;refine⟨(xkq Xd).2 λj hj=>?_,?_⟩
 ·rw[h1 j Xd,turn_pre hd hj]
 ·rw[h1 d Xd,bit_turn_eq b d hd,hz d (Nat.le_refl _) hd]
theorem ok_fork{d:Nat}{b:Dig}{l r:T}:T.ok d b (.fork l r)=true↔d<256/\T.ok (d+1) b l=true/\T.ok (d+1) (kiq b d) r=true/\T.two l r=true:=by
 simp only[T.ok,Bool.and_eq_true,decide_eq_true_eq,and_assoc]
theorem Q0q:∀{t:T} {d:Nat} {b:Dig},Zr d b->t.ok d b=true->∀p∈t.all,d<=ypq p.1 b
 |.nil,_,_,_,_,p,hp=>by simp[T.all] at hp
 |.leaf k v,d,b,_,h,p,hp=>by
  simp only[T.all,List.mem_singleton] at hp;subst hp;exact of_decide_eq_true h
 |.fork l r,d,b,hz,h,p,hp=>by
  obtain⟨hd,h1,h2,_⟩:=ok_fork.1 h;simp only[T.all,List.mem_append] at hp;rcases hp with hp|hp
  ·exact(side_l hz hd (Q0q (zr_mono hz) h1 p hp)).1
  ·exact(side_r hz hd (Q0q (zr_turn hz hd) h2 p hp)).1
theorem ahead_of{a b c:Dig}{d:Nat}(hd:d<256)(ha:d<=ypq a c)(hb:d<=ypq b c)(h0:bitN a d=0)(h1:bitN b d=1):q5q a b=true:=
 ahead_iff.2 ⟨d,hd,λj hj=>by rw[(xkq Xd).1 ha j hj,(xkq Xd).1 hb j hj],h0,h1⟩
theorem ok_srt:∀{t:T} {d:Nat} {b:Dig},Zr d b->t.ok d b=true->Srt t.all
 |.nil,_,_,_,_=>List.Pairwise.nil
 |.leaf k v,_,_,_,_=>List.pairwise_singleton _ _
 |.fork l r,d,b,hz,h=>by
  obtain⟨hd,h1,h2,_⟩:=ok_fork.1 h;refine List.pairwise_append.2 ⟨ok_srt (zr_mono hz) h1,ok_srt (zr_turn hz hd) h2,λp hp q hq=>?_⟩;have a1:=side_l hz hd (Q0q (zr_mono hz) h1 p hp);have a2:=side_r hz hd (Q0q (zr_turn hz hd) h2 q hq);exact ahead_of hd a1.1 a2.1 a1.2 a2.2
section
open Go.RowKit
section
attribute [local irreducible] CoW OpW FlW Step Spec
variable {G:Nat->Option W}
noncomputable def pW(x:Pr):W:=.agg 33 [dW x.1,bW x.2]
@[simp] theorem pW_pur(x:Pr):purW (pW x)=true:=by simp[pW]
structure Node where
 leaf:Bool
 key:Dig
 val:List UInt8
 left:Int
 right:Int
noncomputable def nW(x:Node):W:=.agg 36 [.bool x.leaf,dW x.key,bW x.val,.int .i64 x.left,.int .i64 x.right]
@[simp] theorem nW_pur(x:Node):purW (nW x)=true:=by simp[nW]
theorem tbit_s(k:Dig)(d:Nat)(h:d<256):PS cfg G 183 [dW k,.int .i64 (d:Int)] (.int .u8 (bitN k d:Nat)):=by
 refine gI 10 Z (λR k0=>gC 0 Z (bit_in _ _ Xd) ?_);first|exact gQa 14 Z|(exfalso;omega)
theorem kLq(x:Node):PS cfg G 182 [nW x] (.arr 2 1 [.int .i64 x.left,.int .i64 x.right]):=by
 refine gI 17 Z (λR k0=>?_);first|exact gQa 0 Z|(exfalso;omega)
def valB(l:List UInt8):Bool:=decide (0<l.length)&&decide (l.length<=64)
theorem value_s(l:List UInt8)(f:Bool):PS cfg G 124 [.fz (zcq l) 1 f] (.bool (valB l)):=by
 have e:=zqq l;refine gI 8 Z (λR k0=>gV (w':=.int .i64 (l.length:Int)) 0 Z Xx ?_);refine gD 0 Z (λh1=>?_) (λh1=>?_)
 ·refine gV (w':=.int .i64 (l.length:Int)) 2 Z Xx (gU 0 Z (zbq 5 Z ?_));have h0:0<l.length:=by omega
  exact gQ 0 Z (by unfold valB;congr 1;rw[decide_eq_true h0,Bool.true_and,decide_eq_decide];omega)
 ·refine zbq 9 Z ?_;have h0:¬0<l.length:=by omega
  exact gQ 0 Z (by unfold valB;rw[decide_eq_false h0];rfl)
def okAt(ps:List Pr)(i:Nat):Prop:=∀x,ps[i]? =some x->valB x.2=true/\∀y,0<i->ps[i-1]? =some y->q5q y.1 x.1=true
def MayP(ps:List Pr):Prop:=ps.length<=512/\∀i,i<ps.length->okAt ps i
noncomputable instance(ps:List Pr):Decidable (MayP ps):=Classical.propDecidable _
theorem psW_pur(ps:List Pr):purL (ps.map pW)=true:=zPq pW_pur ps
@[simp] theorem psW_pur'(ps:List Pr):purL (ps.map pW)=true:=psW_pur ps
theorem pcheck_s(ps:List Pr)(f:Bool)(hb:ps.length<=9223372036854775807):PS cfg G 57 [.fz (ps.map pW) 33 f] (.int .i64 (if MayP ps then 0 else 8)):=by
 have e:(ps.map pW).length=ps.length:=List.length_map _;refine gI 9 Z (λR k0=>gV (w':=.int .i64 (ps.length:Int)) 0 Z Xx ?_);refine gS 3 Z (λh1=>?_) (λh1=>?_)
 ·exact gQ 7 Z (by rw[if_neg λh:MayP ps=>by have:=h.1;omega])
 ·refine gV (w':=.int .i64 (ps.length:Int)) 6 Z Xx ?_;refine gLo (α:=Nat) 4 (λi=>i<=ps.length/\∀j,j<i->okAt ps j) (λi=>[(10,.int .i64 (i:Int))]) [0,2,8,9] (λi=>ps.length-i) (0) rfl (⟨Nat.zero_le _,λj hj=>by omega⟩) (λi hI=>?_);obtain⟨hi,hI⟩:=hI;refine gS 6 Z (λh2=>?_) (λh2=>?_)
  ·have hi':i<ps.length:=by omega
   obtain⟨x,hx⟩:∃x,ps[i]? =some x:=⟨_,List.getElem?_eq_getElem hi'⟩
   refine gP 7 Z (zGq (i:=i) Z Z Z Z Z Z Z (znq pW hx)) (gC 10 Z (value_s _ _) ?_);refine gB 0 Z (λh3=>?_) (λh3=>?_)
   ·refine gD 3 Z (λh4=>?_) (λh4=>?_)
    ·refine gA 3 Z (i-1) ?_;refine gP 0 Z (zGq (i:=i-1) Z Z Z Z Z Z Z (znq pW (List.getElem?_eq_getElem Xd))) ?_;refine gC 4 Z (ahead_s _ _) ?_;refine gS 5 Z (λh5=>?_) (λh5=>?_)
     ·refine gO 8 Z (zbq 2 Z ?_)
      have no:¬MayP ps:=λh=>by
       have:=(h.2 i hi' x hx).2 _ Xd (List.getElem?_eq_getElem Xd);rw[this] at h5;simp at h5
      exact gQ 0 Z (by rw[if_neg no])
     ·have ok:okAt ps i:=λx' hx'=>by
       obtain rfl:=Option.some.inj (hx.symm.trans hx');refine⟨h3,λy h0 hy=>?_⟩;obtain rfl:=Option.some.inj ((List.getElem?_eq_getElem (show i-1<ps.length by omega)).symm.trans hy);simpa using h5
      refine gA 4 Z (i+1) ?_;exact gAg 2 Z (i+1) (⟨hi',λj hj=>by rcases Nat.lt_succ_iff_lt_or_eq.1 hj with h|rfl<;>first|exact hI j h|exact ok⟩) Xd
    ·have ok:okAt ps i:=λx' hx'=>by
      obtain rfl:=Option.some.inj (hx.symm.trans hx');exact⟨h3,λy h0 hy=>by omega⟩
     refine gA 20 Z (i+1) ?_;exact gAg 2 Z (i+1) (⟨hi',λj hj=>by rcases Nat.lt_succ_iff_lt_or_eq.1 hj with h|rfl<;>first|exact hI j h|exact ok⟩) Xd
   ·exact gO 28 Z (gQ 2 Z (by rw[if_neg λh:MayP ps=>h3 (h.2 i hi' x hx).1]))
  ·refine gO 2 Z (zbq 8 Z ?_);have yes:MayP ps:=⟨by omega,λj hj=>hI j Xd⟩;exact gQ 0 Z Yk
def oneB(x:Node)(n:Nat):Prop:=if x.leaf then x.left=0/\x.right=0/\MayP [(x.key,x.val)] else(0<=x.left/\x.left<=n)/\(0<=x.right/\x.right<=n)/\x.key=khq/\x.val=[]/\0<x.left+x.right
noncomputable instance(x:Node)(n:Nat):Decidable (oneB x n):=Classical.propDecidable _
theorem one_s(x:Node)(n:Nat)(hn:n<=4611686018427387903):PS cfg G 126 [nW x,.int .i64 (n:Int)] (.bool (decide (oneB x n))):=by
 refine gI 13 Z (λR k0=>?_);refine gS 0 Z (λh1=>?_) (λh1=>?_)
 ·refine gD 4 Z (λh2=>?_) (λh2=>?_)
  ·refine gD 3 Z (λh3=>?_) (λh3=>?_)
   ·refine zbq 8 Z ?_;refine op_lk Z Z Z Z Z (by(repeat (first|exact .nil|refine .cons ?_ ?_|(refine .sl Z ?_ rfl Xi;first|rfl|(focus (simp;done)))|(refine qFq Z ?_ rfl;first|rfl|(focus (simp;done)))|(refine .pur ?_;first|rfl|(focus (simp;done)))))) (pcheck_s [(x.key,x.val)] false Xl) Xn Xn ?_;refine op_cz Z Z ?_;refine zpq 6 Z ?_;refine gQ 0 Z ?_;congr 1
    rw[decide_eq_decide,oneB,if_pos h1];split
    ·rename_i h;exact⟨λ_=>⟨h2,h3,h⟩,λ_=>rfl⟩
    ·rename_i h;exact⟨λh=>by omega,λq=>absurd q.2.2 h⟩
   ·exact gQ 16 Z (by rw[decide_eq_false];intro h;rw[oneB,if_pos h1] at h;exact h3 h.2.1)
  ·exact gQ 20 Z (by rw[decide_eq_false];intro h;rw[oneB,if_pos h1] at h;exact h2 h.1)
 ·refine gC 6 Z (kLq _) ?_;refine gLo (α:=Nat) 4 (λi=>i<=2/\(0<i->0<=x.left/\x.left<=n)/\(1<i->0<=x.right/\x.right<=n)) (λi=>[(29,.int .i64 (i:Int))]) [1,2,4,28] (λi=>2-i) (0) rfl (⟨by omega,by omega,by omega⟩) (λi hI=>?_);obtain⟨hi,hl,hr⟩:=hI;refine gS 6 Z (λh2=>?_) (λh2=>?_)
  ·have hi':i=0\/i=1:=by omega
   rcases hi' with rfl|rfl
   ·skip
    refine gD 13 Z (λh3=>?_) (λh3=>?_)
    ·refine gO 16 Z ?_;exact gQ 2 Z Yc
    ·refine gU 3 Z ?_;refine gS 3 Z (λh4=>?_) (λh4=>?_)
     ·refine gO 8 Z ?_;exact gQ 2 Z Yc
     ·refine gA 4 Z (1) ?_;exact gAg 2 Z (1) (⟨by omega,by omega,by omega⟩) Xd
   ·refine gD 13 Z (λh3=>?_) (λh3=>?_)
    ·refine gO 16 Z ?_;exact gQ 2 Z Yc
    ·refine gU 3 Z ?_;refine gS 3 Z (λh4=>?_) (λh4=>?_)
     ·refine gO 8 Z ?_;exact gQ 2 Z Yc
     ·refine gA 4 Z (2) ?_;exact gAg 2 Z (2) (⟨by omega,by omega,by omega⟩) Xd
  ·have e:=zqq x.val;have hl:=hl Xd;have hr:=hr Xd;have key:oneB x n↔(x.key=khq/\x.val=[]/\0<x.left+x.right):=by rw[oneB,if_neg h1];exact⟨λh=>h.2.2,λh=>⟨hl,hr,h⟩⟩
   rw[show decide (oneB x n)=decide (x.key=khq/\x.val=[]/\0<x.left+x.right) from decide_eq_decide.2 key];refine gO 2 Z ?_;refine gV 6 Z Joq ?_;refine gDe 0 Z (yCq Z Z Z Z (y1q Z Z Z Z Z Z _ _ 250)) yAq (λh3=>?_) (λh3=>?_)
   ·refine gV (w':=.int .i64 (x.val.length:Int)) 3 Z Xx ?_;refine gD 0 Z (λh4=>?_) (λh4=>?_)
    ·have hv:x.val=[]:=List.eq_nil_of_length_eq_zero Xd;refine gWr 6 Z ?_;refine gU 0 Z ?_;refine gQ 5 Z ?_;congr 1
     rw[decide_eq_decide];exact⟨λh=>⟨h3,hv,h⟩,λh=>h.2.2⟩
    ·have hv:x.val≠[]:=λh=>h4 (by rw[h];rfl)
     exact gQ 13 Z (by rw[decide_eq_false λh=>hv h.2.1])
   ·exact gQ 18 Z (by rw[decide_eq_false λh=>h3 h.1])
inductive Rep(ns:List Node):Nat->T->Prop where
 |nil:Rep ns 0 .nil
 |leaf {n:Nat} {k:Dig} {v:List UInt8} {l r:Int} (h:ns[n]? =some ⟨true,k,v,l,r⟩):Rep ns (n+1) (.leaf k v)
 |fork {n l r:Nat} {k:Dig} {v:List UInt8} {L R:T} (h:ns[n]? =some ⟨false,k,v,l,r⟩) (hl:l<=n) (hr:r<=n) (hL:Rep ns l L) (hR:Rep ns r R):Rep ns (n+1) (.fork L R)
theorem Rep.le{ns:List Node}{n:Nat}{t:T}(h:Rep ns n t):n<=ns.length:=by
 cases h with
 |nil=>exact Nat.zero_le _
 |leaf h=>exact(List.getElem?_eq_some_iff.1 h).1
 |fork h=>exact(List.getElem?_eq_some_iff.1 h).1
theorem Rep.non{ns:List Node}{n:Nat}{t:T}(h:Rep ns n t):t.non=decide (0<n):=by cases h<;>simp[T.non]
structure Tree where
 nodes:List Node
 root:Int
noncomputable def tW(t:Tree):W:=.agg 2 [.fz (t.nodes.map nW) 36 false,.int .i64 t.root]
theorem nsW_pur(ns:List Node):purL (ns.map nW)=true:=zPq nW_pur ns
@[simp] theorem tW_pur(t:Tree):purW (tW t)=true:=by simp[tW,nsW_pur]
def nnI(t:T):Int:=if t.non then 1 else 0
theorem right_s(t0:Tree)(hb:t0.nodes.length<=4611686018427387903):∀(t:T) (n d:Nat) (b:Dig),Rep t0.nodes n t->d<=256->PS cfg G 181 [tW t0,.int .i64 (n:Int),.int .i64 (d:Int),dW b] (.tup [.bool (t.ok d b),.bool (t.ok d b&&t.isFork)]):=by
 intro t;induction t with
 |nil=>
  intro n d b hr hd;obtain rfl:n=0:=by cases hr;rfl
  refine gI 15 Z (λR k0=>?_);refine gS 0 Z (λh1=>?_) (λh1=>?_)
  ·exact gQa 8 Z
  ·exfalso;omega
 |leaf k v=>
  intro n d b hr hd;have hle:=hr.le;cases hr with
  |leaf h=>
  rename_i n l r;refine gI 15 Z (λR k0=>?_);refine gS 0 Z (λh1=>?_) (λh1=>?_)
  ·exfalso;omega
  ·refine gA 7 Z (n) ?_;refine gP 0 Z (zGq (i:=n) Z Z Z Z Z Z Z (znq nW h)) ?_;refine gC 18 Z (shared_s _ _) ?_;refine gU 1 Z ?_;refine gQ 6 Z ?_;simp only[T.ok,T.isFork,Bool.and_false];congr 3
   rw[decide_eq_decide];omega
 | fork tl tr ihL ihR=>
  intro n d b hr hd;have hle:=hr.le;cases hr with
  |fork h hl hr hL hR=>
  rename_i n l r k v;refine gI 15 Z (λR k0=>?_);refine gS 0 Z (λh1=>?_) (λh1=>?_)
  ·exfalso;omega
  ·refine gA 7 Z (n) ?_;refine gP 0 Z (zGq (i:=n) Z Z Z Z Z Z Z (znq nW h)) ?_;refine gS 22 Z (λh2=>?_) (λh2=>?_)
   ·refine zbq 8 Z ?_;have e:T.ok d b (.fork tl tr)=false:=by simp only[T.ok];rw[decide_eq_false Xd];rfl
    rw[e];exact gQa 0 Z
   ·have hd':d<256:=by omega
    have nl:=hL.non;have nr:=hR.non;refine gC 6 Z (turn_in _ _ Xd) ?_;refine gV (w':=.arr 64 32 [dW b,dW (kiq b d)]) 18 Z Z ?_;refine gLo (α:=Nat×Int×Bool) 4 (λp=>(p.1=0/\p.2.1=0/\p.2.2=false)\/(p.1=1/\tl.ok (d+1) b=true/\p.2.1=nnI tl/\p.2.2=tl.isFork)\/(p.1=2/\tl.ok (d+1) b=true/\tr.ok (d+1) (kiq b d)=true/\p.2.1=nnI tl+nnI tr/\p.2.2=(tl.isFork||tr.isFork))) (λp=>[(46,.int .i64 (p.1:Int)),(13,.int .i64 p.2.1),(9,.bool p.2.2)]) [2,4,8,10,45] (λp=>2-p.1) ((0,0,false)) rfl (.inl ⟨rfl,rfl,rfl⟩) (λp hI=>?_);obtain⟨i,c,w⟩:=p;simp only at hI⊢;rcases hI with ⟨rfl,rfl,rfl⟩|⟨rfl,k1,rfl,rfl⟩|⟨rfl,k1,k2,rfl,rfl⟩
    ·skip
     skip
     refine gC 23 Z (kLq _) ?_;refine gA 10 Z (d+1) ?_;refine gC 1 Z (ihL _ (d+1) b hL Xd) ?_;refine gS 14 Z (λh3=>?_) (λh3=>?_)
     ·refine gO 10 Z ?_;refine zbq 2 Z ?_;have e:T.ok d b (.fork tl tr)=false:=by simp only[T.ok];rw[show tl.ok (d+1) b=false by simpa using h3];simp
      rw[e];exact gQa 0 Z
     ·have hk:tl.ok (d+1) b=true:=by simpa using h3
      refine gS 9 Z (λh4=>?_) (λh4=>?_)
      ·have hn:nnI tl=1:=by have h4:(0:Int)<l:=h4;unfold nnI;rw[nl,if_pos (decide_eq_true Xd)]
       refine gWr 2 Z ?_;refine gA 13 Z (1) ?_;exact gAg 2 Z ((1,1,tl.ok (d+1) b&&tl.isFork)) (.inr (.inl ⟨rfl,hk,hn.symm,by rw[hk];rfl⟩)) Xl
      ·have hn:nnI tl=0:=by have h4:¬(0:Int)<l:=h4;unfold nnI;rw[nl,if_neg Xo]
       refine gA 12 Z (1) ?_;exact gAg 2 Z ((1,0,tl.ok (d+1) b&&tl.isFork)) (.inr (.inl ⟨rfl,hk,hn.symm,by rw[hk];rfl⟩)) Xl
    ·skip
     have bd:nnI tl=0\/nnI tl=1:=by unfold nnI;split<;>simp
     cases hf:tl.isFork with
     |true=>
      skip
      refine z9q 23 Z ?_;refine gC 0 Z (kLq _) ?_;refine gA 10 Z (d+1) ?_;refine gC 1 Z (ihR _ (d+1) (kiq b d) hR Xd) ?_;refine gS 14 Z (λh3=>?_) (λh3=>?_)
      ·refine gO 10 Z ?_;refine zbq 2 Z ?_;have e:T.ok d b (.fork tl tr)=false:=by simp only[T.ok];rw[show tr.ok (d+1) (kiq b d)=false by simpa using h3];simp
       rw[e];exact gQa 0 Z
      ·have hk:tr.ok (d+1) (kiq b d)=true:=by simpa using h3
       refine gS 9 Z (λh4=>?_) (λh4=>?_)
       ·have hn:nnI tr=1:=by have h4:(0:Int)<r:=h4;unfold nnI;rw[nr,if_pos (decide_eq_true Xd)]
        refine gWr 2 Z ?_;refine gA 13 Z (2) ?_;exact gAg 2 Z ((2,nnI tl+1,true)) (.inr (.inr ⟨rfl,k1,hk,by simp only[hn],rfl⟩)) Xl
       ·have hn:nnI tr=0:=by have h4:¬(0:Int)<r:=h4;unfold nnI;rw[nr,if_neg Xo]
        refine gA 12 Z (2) ?_;exact gAg 2 Z ((2,nnI tl,true)) (.inr (.inr ⟨rfl,k1,hk,by simp only[hn,Int.add_zero],rfl⟩)) Xl
     |false=>
      skip
      refine z9q 23 Z ?_;refine gC 0 Z (kLq _) ?_;refine gA 10 Z (d+1) ?_;refine gC 1 Z (ihR _ (d+1) (kiq b d) hR Xd) ?_;refine gS 14 Z (λh3=>?_) (λh3=>?_)
      ·refine gO 10 Z ?_;refine zbq 2 Z ?_;have e:T.ok d b (.fork tl tr)=false:=by simp only[T.ok];rw[show tr.ok (d+1) (kiq b d)=false by simpa using h3];simp
       rw[e];exact gQa 0 Z
      ·have hk:tr.ok (d+1) (kiq b d)=true:=by simpa using h3
       refine gS 9 Z (λh4=>?_) (λh4=>?_)
       ·have hn:nnI tr=1:=by have h4:(0:Int)<r:=h4;unfold nnI;rw[nr,if_pos (decide_eq_true Xd)]
        refine gWr 2 Z ?_;refine gA 13 Z (2) ?_;exact gAg 2 Z ((2,nnI tl+1,tr.ok (d+1) (kiq b d)&&tr.isFork)) (.inr (.inr ⟨rfl,k1,hk,by simp only[hn],by simp[hk]⟩)) Xl
       ·have hn:nnI tr=0:=by have h4:¬(0:Int)<r:=h4;unfold nnI;rw[nr,if_neg Xo]
        refine gA 12 Z (2) ?_;exact gAg 2 Z ((2,nnI tl,tr.ok (d+1) (kiq b d)&&tr.isFork)) (.inr (.inr ⟨rfl,k1,hk,by simp only[hn,Int.add_zero],by simp[hk]⟩)) Xl
    ·have e:T.ok d b (.fork tl tr)=T.two tl tr:=by simp only[T.ok];rw[decide_eq_true hd',k1,k2];rfl
     have e2:(T.fork tl tr).isFork=true:=rfl;rw[e,e2,Bool.and_true]
     have e3:T.two tl tr=((tl.isFork||tr.isFork)||decide (nnI tl+nnI tr=2)):=by
      unfold T.two nnI;congr 1
      cases tl.non<;>cases tr.non<;>rfl
     rw[e3];cases hw:(tl.isFork||tr.isFork) with
     |true=>
      skip
      refine z9q 9 Z ?_;refine gO 0 Z ?_;exact gQa 21 Z
     |false=>
      skip
      refine z9q 9 Z ?_;refine gO 0 Z ?_;refine gU 7 Z ?_;exact gQ 13 Z Xl
def okN(ns:List Node):Prop:=∀i x,ns[i]? =some x->oneB x i
theorem rep_of{ns:List Node}(h:okN ns):∀n,n<=ns.length->∃t,Rep ns n t:=by
 intro n;induction n using Nat.strongRecOn with
 |_ n ih=>
  intro hn;cases n with
  |zero=>exact⟨_,.nil⟩
  |succ n=>
   obtain⟨x,hx⟩:∃x,ns[n]? =some x:=⟨_,List.getElem?_eq_getElem hn⟩
   have h1:=h n x hx;obtain⟨lf,k,v,l,r⟩:=x;cases lf with
   |true=>exact⟨_,.leaf hx⟩
   |false=>
    simp only[oneB,Bool.false_eq_true,if_false] at h1;obtain⟨⟨a1,a2⟩,⟨b1,b2⟩,_⟩:=h1;obtain⟨l,rfl⟩:=Int.eq_ofNat_of_zero_le a1;obtain⟨r,rfl⟩:=Int.eq_ofNat_of_zero_le b1;obtain⟨L,hL⟩:=ih l Xd Xd;obtain⟨R,hR⟩:=ih r Xd Xd;exact⟨_,.fork hx Xd Xd hL hR⟩
theorem Rep.uniq{ns:List Node}{n:Nat}{t:T}(h:Rep ns n t):∀{t':T},Rep ns n t'->t=t':=by
 induction h with
 |nil=>intro t' h';cases h';rfl
 |leaf h=>
  intro t' h';cases h' with
  |leaf h2=>rw[h] at h2;cases h2;rfl
  |fork h2=>rw[h] at h2;cases h2
 |fork h hl hr _ _ i1 i2=>
  intro t' h';cases h' with
  |leaf h2=>rw[h] at h2;cases h2
  |fork h2 _ _ hL hR=>
   rw[h] at h2;simp only[Option.some.injEq,Node.mk.injEq,Int.natCast_inj,true_and] at h2;obtain⟨_,_,rfl,rfl⟩:=h2;rw[i1 hL,i2 hR]
def MayT(t:Tree):Prop:=t.nodes.length<=262144/\okN t.nodes/\∃(n:Nat) (t0:T),t.root=n/\Rep t.nodes n t0/\t0.ok 0 khq=true
noncomputable instance(t:Tree):Decidable (MayT t):=Classical.propDecidable _
theorem xKq(t:Tree)(hb:t.nodes.length<=4611686018427387903):PS cfg G 106 [tW t] (.int .i64 (if MayT t then 0 else 8)):=by
 have e:(t.nodes.map nW).length=t.nodes.length:=List.length_map _;have no:∀{R:Res} {k0:Nat},¬MayT t->W.int .i64 8=W.int .i64 (if MayT t then 0 else 8):=λh=>by rw[if_neg h]
 refine gI 11 Z (λR k0=>gV (w':=.int .i64 (t.nodes.length:Int)) 0 Z Xx ?_);refine gD 0 Z (λh1=>?_) (λh1=>?_)
 ·have hno:¬MayT t:=λh=>by have:=h.1;omega
  exact gQ 23 Z Xu
 refine gD 3 Z (λh2=>?_) (λh2=>?_)
 ·have hno:¬MayT t:=λh=>by obtain⟨_,_,n,_,h,_⟩:=h;have h2:t.root<0:=h2;omega
  exact gQ 19 Z Xu
 refine gV (w':=.int .i64 (t.nodes.length:Int)) 6 Z Xx (gU 0 Z ?_);refine gS 3 Z (λh3=>?_) (λh3=>?_)
 ·have hno:¬MayT t:=λh=>by obtain⟨_,_,n,_,h,hr,_⟩:=h;have h3:(t.nodes.length:Int)<t.root:=h3;have:=hr.le;omega
  exact gQ 7 Z Xu
 have h2:¬t.root<0:=h2;have h3:¬(t.nodes.length:Int)<t.root:=h3;obtain⟨n0,hn0⟩:=Int.eq_ofNat_of_zero_le (show 0<=t.root by omega);refine gV (w':=.int .i64 (t.nodes.length:Int)) 7 Z Xx ?_;refine gLo (α:=Nat) 4 (λi=>i<=t.nodes.length/\∀j x,j<i->t.nodes[j]? =some x->oneB x j) (λi=>[(27,.int .i64 (i:Int))]) [1,2,25,26] (λi=>t.nodes.length-i) (0) rfl (⟨Nat.zero_le _,λj x hj=>by omega⟩) (λi hI=>?_);obtain⟨hi,hI⟩:=hI;refine gS 6 Z (λh4=>?_) (λh4=>?_)
 ·have hi':i<t.nodes.length:=by omega
  obtain⟨x,hx⟩:∃x,t.nodes[i]? =some x:=⟨_,List.getElem?_eq_getElem hi'⟩
  refine gP 7 Z (zGq (i:=i) Z Z Z Z Z Z Z (znq nW hx)) (gC 10 Z (one_s _ _ Xd) ?_);refine gS 3 Z (λh5=>?_) (λh5=>?_)
  ·have hno:¬MayT t:=λh=>by have:=h.2.1 i x hx;simp[this] at h5
   exact gO 8 Z (gQ 2 Z Xu)
  ·have h5:oneB x i:=by simpa using h5
   exact gA 4 Z (i+1) (gAg 2 Z (i+1) (⟨hi',λj y hj hy=>by rcases Nat.lt_succ_iff_lt_or_eq.1 hj with h|rfl;exact hI j y h hy;exact(Option.some.inj (hx.symm.trans hy))▸h5⟩) Xd)
 ·have okn:okN t.nodes:=λj x hx=>hI j x (by have:=(List.getElem?_eq_some_iff.1 hx).1;omega) hx
  obtain⟨t0,ht0⟩:=rep_of okn n0 Xd
  have key:MayT t↔t0.ok 0 khq=true:=by
   constructor
   ·rintro⟨_,_,n,t1,hn,hr,hk⟩;obtain rfl:n=n0:=by omega
    rw[ht0.uniq hr];exact hk
   ·exact λh=>⟨by omega,okn,n0,t0,hn0,ht0,h⟩
  refine gO 2 Z (gV 8 Z Joq (YFq Z Z Z Z Z (by rw[hn0];rfl) (right_s t Xd t0 n0 0 khq ht0 Xd) Xl Xl (zpq 13 Z ?_)));refine gS 0 Z (λh5=>?_) (λh5=>?_)
  ·have hno:¬MayT t:=λh=>by have:=key.1 h;simp[this] at h5
   exact gQ 7 Z Xu
  ·have yes:MayT t:=key.2 (by simpa using h5);exact gQ 8 Z Yk
inductive FTo(ns:List Node)(k:Dig):Nat->Nat->Nat->Prop where
 |nil {d:Nat}:FTo ns k 0 d 0
 |hit {n d:Nat} {v:List UInt8} {l r:Int} (h:ns[n]? =some ⟨true,k,v,l,r⟩):FTo ns k (n+1) d (n+1)
 |miss {n d:Nat} {k':Dig} {v:List UInt8} {l r:Int} (h:ns[n]? =some ⟨true,k',v,l,r⟩) (hk:k'≠k):FTo ns k (n+1) d 0
 |go {n d l r m:Nat} {k':Dig} {v:List UInt8} (h:ns[n]? =some ⟨false,k',v,l,r⟩) (hd:d<256) (hg:FTo ns k (if bitN k d=0 then l else r) (d+1) m):FTo ns k (n+1) d m
theorem fto_of{ns:List Node}{k:Dig}{n:Nat}{t:T}(h:Rep ns n t):∀{d:Nat} {b:Dig},t.ok d b=true->∃m,FTo ns k n d m/\(t.find k d=none->m=0)/\∀v,t.find k d=some v->∃j l r,m=j+1/\ns[j]? =some ⟨true,k,v,l,r⟩:=by
 induction h with
 |nil=>exact λ_=>⟨0,.nil,λ_=>rfl,λv h=>by simp[T.find] at h⟩
 |leaf h=>
  rename_i n k' v l r;intro d b _;by_cases e:k'=k
  ·subst e;exact⟨n+1,.hit h,λhn=>by simp[T.find] at hn,λw hw=>by simp only[T.find,if_true,Option.some.injEq] at hw;subst hw;exact⟨n,l,r,rfl,h⟩⟩
  ·exact⟨0,.miss h e,λ_=>rfl,λw hw=>by simp[T.find,e] at hw⟩
 |fork h hl hr hL hR i1 i2=>
  intro d b hk;obtain⟨hd,k1,k2,_⟩:=ok_fork.1 hk;by_cases hb:bitN k d=0
  ·obtain⟨m,g1,g2,g3⟩:=i1 k1;exact⟨m,.go h hd (by rw[if_pos hb];exact g1),by simp only[T.find,if_pos hb];exact g2,by simp only[T.find,if_pos hb];exact g3⟩
  ·obtain⟨m,g1,g2,g3⟩:=i2 k2;exact⟨m,.go h hd (by rw[if_neg hb];exact g1),by simp only[T.find,if_neg hb];exact g2,by simp only[T.find,if_neg hb];exact g3⟩
theorem tbit_c(k:Dig)(d c:Nat)(h:d<256)(hc:bitN k d=c):PS cfg G 183 [dW k,.int .i64 (d:Int)] (.int .u8 (c:Int)):=hc▸tbit_s k d h
theorem tfind_s(t:Tree)(k:Dig)(n m:Nat)(hn:t.root=n)(hf:FTo t.nodes k n 0 m)(hb:t.nodes.length<=4611686018427387903):PS cfg G 107 [tW t,dW k] (.int .i64 (m:Int)):=by
 obtain⟨ns,root⟩:=t;simp only at hn hf hb;subst hn;refine gI 21 Z (λR k0=>?_);refine gLo (α:=Nat×Nat) 0 (λp=>FTo ns k p.1 p.2 m/\p.2<=256) (λp=>[(5,.int .i64 (p.1:Int)),(6,.int .i64 (p.2:Int))]) [2,3,4] (λp=>257-p.2) ((n,0)) rfl (⟨hf,by simp⟩) (λp hI=>?_);obtain⟨i,d⟩:=p;obtain⟨hf,hd⟩:=hI;simp only at hf hd⊢;refine gS 7 Z (λh1=>?_) (λh1=>?_)
 ·cases hf with
  |nil=>exfalso;omega
  |hit h=>
   skip
   rename_i i v l r;have hi:=(List.getElem?_eq_some_iff.1 h).1;refine zLq 9 Z (gA 0 Z (i) (gP 0 Z (zGq (i:=i) Z Z Z Z Z Z Z (znq nW h)) (gUe 19 Z (yCq Z Z Z Z (y1q Z Z Z Z Z Z _ _ 250)) yAq ?_)));refine gS 2 Z (λh2=>?_) (λh2=>?_)
   ·refine gO 11 Z ?_;first|exact gQa 2 Z|(exfalso;omega)
   ·exfalso;exact h2 rfl
  |miss h hk=>
   rename_i i k' v l r;have hi:=(List.getElem?_eq_some_iff.1 h).1;refine zLq 9 Z (gA 0 Z (i) (gP 0 Z (zGq (i:=i) Z Z Z Z Z Z Z (znq nW h)) (gUe 19 Z (yCq Z Z Z Z (y1q Z Z Z Z Z Z _ _ 250)) yAq ?_)));refine gS 2 Z (λh2=>?_) (λh2=>?_)
   ·exfalso;exact hk h2
   ·refine gO 11 Z ?_;first|exact gQa 2 Z|(exfalso;omega)
  |go h hd' hg=>
   rename_i i l r k' v;have hi:=(List.getElem?_eq_some_iff.1 h).1;have bl:=Jvq k d;rcases Nat.lt_or_ge 0 (bitN k d) with hb1|hb0
   ·skip
    have hc:bitN k d=1:=by omega
    rw[if_neg Xd] at hg;exact zLq 9 Z (gA 0 Z (i) (gP 0 Z (zGq (i:=i) Z Z Z Z Z Z Z (znq nW h)) (gC 17 Z (kLq _) (gC 2 Z (tbit_c k d 1 hd' hc) (gA 7 Z (d+1) (gAg 2 Z ((r,d+1)) (⟨hg,hd'⟩) Yf))))))
   ·have hc:bitN k d=0:=by omega
    rw[if_pos hc] at hg;exact zLq 9 Z (gA 0 Z (i) (gP 0 Z (zGq (i:=i) Z Z Z Z Z Z Z (znq nW h)) (gC 17 Z (kLq _) (gC 2 Z (tbit_c k d 0 hd' hc) (gA 7 Z (d+1) (gAg 2 Z ((l,d+1)) (⟨hg,hd'⟩) Yf))))))
 ·obtain rfl:i=0:=by omega
  cases hf;refine gO 2 Z ?_;first|exact gQa 8 Z|(exfalso;omega)
structure IsT(t:Tree)(n:Nat)(t0:T):Prop where
 len:t.nodes.length<=262144
 okn:okN t.nodes
 root:t.root=n
 rep:Rep t.nodes n t0
 ok:t0.ok 0 khq=true
theorem IsT.may{t:Tree}{n:Nat}{t0:T}(h:IsT t n t0):MayT t:=⟨h.len,h.okn,n,t0,h.root,h.rep,h.ok⟩
theorem may_is{t:Tree}(h:MayT t):∃n t0,IsT t n t0:=by
 obtain⟨h1,h2,n,t0,h3,h4,h5⟩:=h;exact⟨n,t0,h1,h2,h3,h4,h5⟩
theorem okN_val{ns:List Node}(h:okN ns){i:Nat}{k:Dig}{v:List UInt8}{l r:Int}(hx:ns[i]? =some ⟨true,k,v,l,r⟩):0<v.length/\v.length<=64:=by
 have h1:=h i _ hx;simp only[oneB,if_true] at h1;have h2:=(h1.2.2.2 0 Xl (k,v) rfl).1;simp only[valB,Bool.and_eq_true,decide_eq_true_eq] at h2;exact h2
noncomputable def getW':Option (List UInt8) ->W
 |none=>.tup [.nils,.bool false]
 |some v=>.tup [bW v,.bool true]
theorem tget_s(t:Tree)(n:Nat)(t0:T)(k:Dig)(h:IsT t n t0):PS cfg G 43 [tW t,dW k] (getW' (t0.find k 0)):=by
 have hl:=h.len;have hy:=h.may;obtain⟨m,f1,f2,f3⟩:=fto_of (k:=k) h.rep h.ok;cases hf:t0.find k 0 with
 |none=>
  obtain rfl:=f2 hf;refine gI 12 Z (λR k0=>?_);first|refine gC 0 Z (zxq (w':=.int .i64 0) (xKq t Xd) (by rw[if_pos hy])) ?_|refine gC 0 Z (xKq _ Xd) ?_
  exact gC 10 Z (tfind_s t k n _ h.root f1 Xd) (gQa 19 Z)
 |some v=>
  obtain⟨j,l,r,rfl,hx⟩:=f3 v hf;have hv:=okN_val h.okn hx;have hj:=(List.getElem?_eq_some_iff.1 hx).1;refine gI 12 Z (λR k0=>?_);first|refine gC 0 Z (zxq (w':=.int .i64 0) (xKq t Xd) (by rw[if_pos hy])) ?_|refine gC 0 Z (xKq _ Xd) ?_
  refine gC 10 Z (tfind_s t k n _ h.root f1 Xd) ?_;refine gS 10 Z (λh1=>?_) (λh1=>?_)
  ·exfalso;omega
  ·exact gA 7 Z (j) (gP 0 Z (zGq (i:=j) Z Z Z Z Z Z Z (znq nW hx)) (zbq 2 Z (j9q Z Z Z Z Z Z (Jtq v false Xd) (zpq 5 Z (gQa 0 Z)))))
theorem teach_s(t:Tree)(n:Int):PS cfg G 220 [tW t,.int .i64 n] (.fn 253 [] [.fel (.int .i64 n),.fel (tW t)]):=by
 refine gI 14 Z (λR k0=>?_);refine yHq (fr2:=[(4,_)]) Xr ?_ Z Z
 (repeat (first|exact trivial|refine And.symm ⟨?_,_,rfl,?_⟩))<;>(repeat (first|exact .nil|refine .cons ?_ ?_|refine .fn ?_ ?_|(refine qFq Z ?_ rfl;(first|rfl|(focus (simp;done))))|(refine .sl Z ?_ rfl Xi;(first|rfl|(focus (simp;done))))|(refine .pur ?_;(first|rfl|(focus (simp;done))))|refine .agg ?_|refine .arr ?_|refine .tup ?_))
noncomputable def enc1(p:Pr):List W:=[pW p]
theorem yl_same{L:Nat}{E:Res->Prop}{b:Bool}{R1:Res}{l:List (List W)}(h:match b with|true=>Yl cfg G L E [] R1|false=>E R1):E R1:=by cases b<;>exact h
def restL(tl tr:T):Nat->List Pr
 |0=>tl.all++tr.all
 |1=>tr.all
 |_=>[]
theorem Yiq{α:Type}{l:List α}{i:Nat}{x:α}(h:l[i]? =some x):l.drop i=x::l.drop (i+1):=by
 obtain⟨hl,h2⟩:=List.getElem?_eq_some_iff.1 h;rw[List.drop_eq_getElem_cons hl,h2]
theorem teach_it(t:Tree)(hv:∀(i:Nat) (k:Dig) (v:List UInt8) (l r:Int),t.nodes[i]? =some (Node.mk true k v l r) ->v.length<=70368744177664)(hb:t.nodes.length<=4611686018427387903):∀(t0:T) (n:Nat),Rep t.nodes n t0->qkq cfg G 253 [.fel (.int .i64 (n:Int)),.fel (tW t)] (t0.all.map enc1):=by
 intro t0;induction t0 with
 |nil=>
  intro n hr;obtain rfl:n=0:=by cases hr;rfl
  refine xqq (fn:=Tryz.f253) Z Z Z (Zb rfl) (λL E R hy k0=>?_);exact z9q 15 Z (kfq Qm rfl hy)
 |leaf k v=>
  intro n hr;have hle:=hr.le;cases hr with
  |leaf h=>
  rename_i n l r;have hvl:=hv _ _ _ _ _ h;refine xqq (fn:=Tryz.f253) Z Z Z (Zb rfl) (λL E R hy k0=>?_);refine z9q 12 Z ?_;refine gS 0 Z (λh1=>?_) (λh1=>?_)
  ·exfalso;omega
  ·refine gA 7 Z (n) (gP 0 Z (zGq (i:=n) Z Z Z Z Z Z Z (znq nW h)) (zbq 20 Z (fl_ps Z Z Z Z Z Z (Jtq v false hvl) Xl Xl (by first|rfl|kernel_rfl) (kpq Z Z ?_))));refine qfq rfl (qNq Z Z Z (hy) (λb R1 hb=>?_));refine⟨by first|rfl|kernel_rfl,?_⟩;exact qiq 4 Z (kfq Qm rfl (yl_same (l:=[]) hb))
 | fork tl tr ihL ihR=>
  intro n hr;have hle:=hr.le;cases hr with
  |fork h hl hr hL hR=>
  rename_i n l r k v;refine xqq (fn:=Tryz.f253) Z Z Z (Zb rfl) (λL E R hy k0=>?_);refine z9q 12 Z ?_;refine gS 0 Z (λh1=>?_) (λh1=>?_)
  ·exfalso;omega
  ·refine gA 7 Z (n) (gP 0 Z (zGq (i:=n) Z Z Z Z Z Z Z (znq nW h)) (gC 18 Z (kLq _) (zbq 4 Z ?_)));refine Zoq (α:=Nat×Res) (λp=>p.1<=2/\Yl cfg G L E ((restL tl tr p.1).map enc1) p.2) (λp=>[(28,.int .i64 (p.1:Int))]) [(2,_),(3,_),(27,_)] (λp=>p.2) (λp=>2-p.1) ((0,R)) ⟨rfl,rfl,rfl,trivial⟩ (⟨by simp,hy⟩) ⟨rfl,trivial⟩ rfl (λp hI=>?_);obtain⟨i,R⟩:=p;obtain⟨hi,hy⟩:=hI;simp only at hi hy⊢;refine z9q 6 Z ?_;refine gS 0 Z (λh2=>?_) (λh2=>?_)
   ·have hi':i=0\/i=1:=by omega
    rcases hi' with rfl|rfl
    ·skip
     refine gC 14 Z (teach_s t l) (zbq 3 Z ?_);refine Ynq (enc1) (tl.all) (λi a=>Yl cfg G L E (((tl.all.drop i)++tr.all).map enc1) a) (λa=>a) (R) rfl Xn (ihL _ hL) (λy _=>⟨by simp[enc1],rfl⟩) (hy) rfl (λi a y hy hI=>?_) (λa hI=>?_)
     ·have hd:=Yiq hy;rw[hd,List.cons_append,List.map_cons] at hI;refine z9q 4 Z (ZHq (z9q 5 Z ?_));refine gSo 0 Z (qNq Z Z Z (hI) (λb R1 hb=>?_));refine gS 3 Z (λh3=>?_) (λh3=>?_)
      ·cases b with
       |true=>cases h3
       |false=>
        exact zLq 2 Z (QTq Xi (zZq 3 Z (gO 0 Z (zbq 1 Z (kfq Qm rfl hb)))))
      ·cases b with
       |false=>exact absurd rfl h3
       |true=>
        exact zLq 2 Z (QSq (R1) (hb) Xd Ye rfl)
     ·rw[List.drop_length,List.nil_append] at hI;exact zZq 4 Z (gA 0 Z (1) (gAg 2 Z ((1,a)) (⟨by simp,hI⟩) Xl))
    ·skip
     refine gC 14 Z (teach_s t r) (zbq 3 Z ?_);refine Ynq (enc1) (tr.all) (λi a=>Yl cfg G L E ((tr.all.drop i).map enc1) a) (λa=>a) (R) rfl Xn (ihR _ hR) (λy _=>⟨by simp[enc1],rfl⟩) (hy) rfl (λi a y hy hI=>?_) (λa hI=>?_)
     ·have hd:=Yiq hy;rw[hd,List.map_cons] at hI;refine z9q 4 Z (ZHq (z9q 5 Z ?_));refine gSo 0 Z (qNq Z Z Z (hI) (λb R1 hb=>?_));refine gS 3 Z (λh3=>?_) (λh3=>?_)
      ·cases b with
       |true=>cases h3
       |false=>
        exact zLq 2 Z (QTq Xi (zZq 3 Z (gO 0 Z (zbq 1 Z (kfq Qm rfl hb)))))
      ·cases b with
       |false=>exact absurd rfl h3
       |true=>
        exact zLq 2 Z (QSq (R1) (hb) Xd Ye rfl)
     ·rw[List.drop_length] at hI;exact zZq 4 Z (gA 0 Z (2) (gAg 2 Z ((2,a)) (⟨by simp,hI⟩) Xl))
   ·refine gO 2 Z (zbq 1 Z ?_);obtain rfl:i=2:=by omega
    exact kfq (.inl rfl) rfl hy
noncomputable def psW(ps:List Pr):W:=.fz (ps.map pW) 33 false
@[simp] theorem psW_p(ps:List Pr):purW (psW ps)=true:=psW_pur ps
noncomputable def gat(ps:List Pr):HpW:=match ps with
 |[]=>[(0,155,.nils)]
 |_=>[(0,155,.sl 1 0 0 ps.length 33 none),(1,158,.arr (ps.length*33) 33 (ps.map pW))]
theorem gat_snoc(a:List Pr)(y:Pr):gat (a++[y])=[(0,155,.sl 1 0 0 (a.length+1) 33 none),(1,158,.arr ((a.length+1)*33) 33 (a.map pW++[pW y]))]:=by
 cases a with
 |nil=>rfl
 |cons x a=>simp[gat]
theorem pur1{a:List Pr}{y:Pr}{n:Nat}(e:Nat):purW (.arr n e (a.map pW++[pW y]))=true:=by simp
theorem aseq_s(f:FuncId)(cs:List W)(ls:List Pr)(hc:purL cs=true)(it:qkq cfg G f cs (ls.map enc1))(hb:ls.length<=1000000000):PS cfg G 252 [.nils,.fn f [] cs] (psW ls):=by
 refine gIv 13 Z (λR k0=>?_);refine co_rangeN (α:=List Pr) (enc1) (ls) (λi a=>a=ls.take i) (λa=>gat a) (λa=>(match a with|[]=>1|_=>2)) (λa=>R) ([]) rfl Xn (it) (λy _=>⟨by simp[enc1],rfl⟩) (rfl) Z Z Z (λi a y hy hI=>?_) (λa hI=>?_)
 ·have hi:=(List.getElem?_eq_some_iff.1 hy).1;have hn:ls.take (i+1)=a++[y]:=by rw[List.take_add_one,hy,hI];rfl
  cases a with
  |nil=>
   skip
   refine z9q 4 Z (ZHq (z9q 5 Z (gM 0 Z (ySq Z Z (uyq (news:=[pW y]) (k:=ti158) Z Z Z Z (uIq Z Z Z Z) Xl (by show 1*ti158.bytes<=_;decide) (by show 1<=_;decide))) (zbq 3 Z (vuq (ls.take (i+1)) Z ?_)))));rw[hn,gat_snoc];refine yPq (b:=1) (k:=3) Xd Xd (by show 3<4;omega) trivial ⟨⟨by omega,rfl,rfl⟩,⟨by omega,?_,zfq (pur1 _)⟩,trivial⟩ Xl;rw[zoq (pur1 _)];rfl
  |cons x a=>
   have hl:(x::a).length<=1000000000:=by rw[hI,List.length_take];omega
   have el:((x::a).map pW).length=(x::a).length:=List.length_map _;refine z9q 4 Z (ZHq (z9q 5 Z (gM 0 Z (ySq Z Z (qEq (len:=(x::a).length) (news:=[pW y]) (olds:=(x::a).map pW) (k:=ti158) Z Z Z Z (uIq Z Z Z Z) Xl (by show((x::a).length+1)*56<=_;omega) (by show(x::a).length+1<=_;omega) rfl (by show(x::a).length*33<0+((x::a).length+1)*33;omega) rfl (zJq Xg el.symm rfl))) (zbq 3 Z (vuq (ls.take (i+1)) Z ?_)))));rw[hn,gat_snoc];refine yPq (b:=1) (k:=4) Xd Xd (by show 4<5;omega) trivial ⟨⟨by omega,rfl,rfl⟩,⟨by omega,?_,zfq (pur1 _)⟩,trivial⟩ Xl;rw[zoq (pur1 _)];rfl
 ·obtain rfl:a=ls:=by rw[hI,List.take_length]
  cases a with
  |nil=>
   skip
   refine zZq 9 Z (k0q Xr Z ?_)
   (repeat (first|exact .nil|refine .cons ?_ ?_|exact jLq|exact .nilfz|refine .fn ?_ ?_|(refine qFq Z ?_ rfl;(first|rfl|(focus (simp;done))))|(refine .sl Z ?_ rfl Xi;(first|rfl|(focus (simp;done))))|(refine .pur ?_;(first|rfl|(focus (simp;done))))|(refine .fzw ?_;(first|rfl|(focus (simp;done))))|refine .agg ?_|refine .arr ?_|refine .tup ?_))
  |cons x a=>
   exact zZq 9 Z (k0q Xr Z (.sl rfl (by show purL ((x::a).map pW)=true;exact psW_pur _) (zJq Xg (List.length_map _).symm rfl) Xi))
theorem collect_s(f:FuncId)(cs:List W)(ls:List Pr)(hc:purL cs=true)(it:qkq cfg G f cs (ls.map enc1))(hb:ls.length<=1000000000):PS cfg G 219 [.fn f [] cs] (psW ls):=by
 exact gI 8 Z (λR k0=>YFq Z Z Z Z Z Z (aseq_s f cs ls hc it hb) (by simp[hc]) Xl (zpq 4 Z (gQa 0 Z)))
theorem nodup_le{α:Type} [DecidableEq α]:∀(l m:List α),l.Nodup->(∀x∈l,x∈m) ->l.length<=m.length
 |[],m,_,_=>Nat.zero_le _
 |x::l,m,hn,hs=>by
  obtain⟨h1,h2⟩:=List.nodup_cons.1 hn;have hx:=hs x Xl;have ih:=nodup_le l (m.erase x) h2 λy hy=>(List.mem_erase_of_ne (λe:y=x=>h1 (by rw[<-e];exact hy))).2 (hs y (by simp[hy]))
  rw[List.length_erase_of_mem hx] at ih;have:0<m.length:=List.length_pos_of_mem hx;simp only[List.length_cons];omega
theorem rep_mem{ns:List Node}{n:Nat}{t:T}(h:Rep ns n t):∀p∈t.all,∃(i:Nat) (l r:Int),ns[i]? =some (Node.mk true p.1 p.2 l r):=by
 induction h with
 |nil=>intro p hp;simp[T.all] at hp
 |leaf h=>intro p hp;simp only[T.all,List.mem_singleton] at hp;subst hp;exact⟨_,_,_,h⟩
 |fork h hl hr _ _ i1 i2=>
  intro p hp;rcases List.mem_append.1 hp with hp|hp
  ·exact i1 p hp
  ·exact i2 p hp
theorem srt_nodup{l:List Pr}(h:Srt l):(l.map (·.1)).Nodup:=by
 rw[List.nodup_iff_pairwise_ne,List.pairwise_map];exact h.imp λh=>viq h
theorem IsT.srt{t:Tree}{n:Nat}{t0:T}(h:IsT t n t0):Srt t0.all:=ok_srt zr_zero h.ok
theorem IsT.all_le{t:Tree}{n:Nat}{t0:T}(h:IsT t n t0):t0.all.length<=t.nodes.length:=by
 have:=nodup_le (t0.all.map (·.1)) (t.nodes.map (·.key)) (srt_nodup h.srt) λk hk=>by
  obtain⟨p,hp,rfl⟩:=List.mem_map.1 hk;obtain⟨i,l,r,hx⟩:=rep_mem h.rep p hp;exact List.mem_map.2 ⟨_,List.mem_of_getElem? hx,rfl⟩
 simpa using this
theorem IsT.val{t:Tree}{n:Nat}{t0:T}(h:IsT t n t0):∀p∈t0.all,0<p.2.length/\p.2.length<=64:=λp hp=>by
 obtain⟨i,l,r,hx⟩:=rep_mem h.rep p hp;exact okN_val h.okn hx
theorem tpairs_s(t:Tree)(n:Nat)(t0:T)(h:IsT t n t0):PS cfg G 180 [tW t] (.tup [psW t0.all,.int .i64 0]):=by
 have hl:=h.len;have hy:=h.may;have ha:=h.all_le;have hr:=h.root;obtain⟨ns,root⟩:=t;simp only at hl hr ha;subst hr;exact gI 11 Z (λR k0=>gC 0 Z (zxq (w':=.int .i64 0) (xKq ⟨ns,(n:Int)⟩ (by show ns.length<=_;omega)) (by rw[if_pos hy])) (zbq 17 Z (j9q Z Z Z Z Z Z (teach_s ⟨ns,(n:Int)⟩ (n:Int)) (j9q Z Z Z Z Z Z (collect_s _ _ t0.all Xl (teach_it ⟨ns,(n:Int)⟩ (λi k v l r hx=>by have:=(okN_val h.okn hx).2;omega) (by show ns.length<=_;omega) t0 n h.rep) Xd) (zpq 5 Z (gQa 0 Z))))))
theorem tpairs_no(t:Tree)(hb:t.nodes.length<=4611686018427387903)(h:¬MayT t):PS cfg G 180 [tW t] (.tup [.nils,.int .i64 8]):=by
 exact gI 11 Z (λR k0=>gC 0 Z (zxq (w':=.int .i64 8) (xKq t hb) (by rw[if_neg h])) (gQa 19 Z))
theorem aeach_s(t:Tree):PS cfg G 105 [tW t] (.fn 179 [] [.fel (tW t)]):=by
 refine gI 13 Z (λR k0=>?_);refine yHq (fr2:=[(2,_)]) Xr ?_ Z Z
 (repeat (first|exact trivial|refine And.symm ⟨?_,_,rfl,?_⟩))<;>(repeat (first|exact .nil|refine .cons ?_ ?_|refine .fn ?_ ?_|(refine qFq Z ?_ rfl;(first|rfl|(focus (simp;done))))|(refine .sl Z ?_ rfl Xi;(first|rfl|(focus (simp;done))))|(refine .pur ?_;(first|rfl|(focus (simp;done))))|refine .agg ?_|refine .arr ?_|refine .tup ?_))
noncomputable def encA(p:Pr):List W:=[aW (kPq p.2).1,.bool (decide ((((kPq p.2).2:Nat):Int)=0))]
noncomputable def encZ(_:Unit):List W:=[aW .zero,.bool false]
theorem aeach_no(t:Tree)(hb:t.nodes.length<=4611686018427387903)(h:¬MayT t):qkq cfg G 179 [.fel (tW t)] ([()].map encZ):=by
 refine xqq (fn:=Tryz.f179) Z Z Z (Zb rfl) (λL E R hy k0=>?_);refine z9q 3 Z (gC 0 Z (tpairs_no t hb h) ?_);refine gSo 19 Z (qNq Z Z Z (hy) (λb R1 hb=>?_));exact zbq 4 Z (kfq Qm rfl (yl_same (l:=[]) hb))
theorem aeach_it(t:Tree)(n:Nat)(t0:T)(h:IsT t n t0):qkq cfg G 179 [.fel (tW t)] (t0.all.map encA):=by
 have e:(t0.all.map pW).length=t0.all.length:=List.length_map _;have hl:=h.len;have ha:=h.all_le;refine xqq (fn:=Tryz.f179) Z Z Z (Zb rfl) (λL E R hy k0=>?_);refine z9q 3 Z (gC 0 Z (tpairs_s t n t0 h) (gV (w':=.int .i64 (t0.all.length:Int)) 20 Z Xx (zbq 4 Z ?_)));refine Zoq (α:=Nat×Res) (λp=>p.1<=t0.all.length/\Yl cfg G L E ((t0.all.drop p.1).map encA) p.2) (λp=>[(21,.int .i64 (p.1:Int))]) [(0,_),(19,_),(20,_)] (λp=>p.2) (λp=>t0.all.length-p.1) ((0,R)) ⟨rfl,rfl,rfl,trivial⟩ (⟨by simp,hy⟩) ⟨rfl,trivial⟩ rfl (λp hI=>?_);obtain⟨i,R⟩:=p;obtain⟨hi,hy⟩:=hI;simp only at hi hy⊢;refine z9q 6 Z ?_;refine gS 0 Z (λh1=>?_) (λh1=>?_)
 ·have hi':i<t0.all.length:=by omega
  obtain⟨x,hx⟩:∃x,t0.all[i]? =some x:=⟨_,List.getElem?_eq_getElem hi'⟩
  have hv:=h.val x (List.mem_of_getElem? hx);rw[Yiq hx,List.map_cons] at hy;refine gP 6 Z (zGq (i:=i) Z Z Z Z Z Z Z (znq pW hx)) (zbq 9 Z (j9q Z Z Z Z Z Z (aread_s x.2 false Xd) (zpq 13 Z (gU 0 Z ?_))));refine gSo 0 Z (qNq Z Z Z (hy) (λb R1 hb=>?_));refine gS 3 Z (λh2=>?_) (λh2=>?_)
  ·cases b with
   |true=>cases h2
   |false=>
    exact zLq 3 Z (gO 0 Z (zbq 1 Z (kfq Qm rfl hb)))
  ·cases b with
   |false=>exact absurd rfl h2
   |true=>
    exact zLq 4 Z (gA 0 Z (i+1) (gAg 2 Z ((i+1,R1)) (⟨hi',hb⟩) Yf))
 ·refine gO 2 Z (zbq 1 Z ?_);obtain rfl:i=t0.all.length:=by omega
  rw[List.drop_length] at hy;exact kfq (.inl rfl) rfl hy
theorem encA_ok{l:List Pr}:∀y∈l,purL (encA y)=true/\(encA y).length=2:=λy _=>⟨rfl,rfl⟩
structure IsA(t:Tree)(n:Nat)(t0:T):Prop extends IsT t n t0 where
 held:∀p∈t0.all,(kPq p.2).2=0
def MayA(t:Tree):Prop:=∃n t0,IsA t n t0
noncomputable instance(t:Tree):Decidable (MayA t):=Classical.propDecidable _
theorem acheck_s(t:Tree)(hb:t.nodes.length<=4611686018427387903):PS cfg G 42 [tW t] (.int .i64 (if MayA t then 0 else 8)):=by
 by_cases h:MayT t
 ·obtain⟨n,t0,h⟩:=may_is h;refine gI 10 Z (λR k0=>gC 0 Z (aeach_s _) (zbq 3 Z ?_));refine Ynq (encA) (t0.all) (λi (_:Unit)=>∀j p,j<i->t0.all[j]? =some p->(kPq p.2).2=0) (λ_=>R) (()) rfl Xn (aeach_it t n t0 h) (encA_ok) (λj p hj=>by omega) rfl (λi a y hy hI=>?_) (λa hI=>?_)
  ·refine z9q 3 Z (ZHq (z9q 7 Z ?_));refine gS 0 Z (λh1=>?_) (λh1=>?_)
   ·have hno:¬MayA t:=by
     rintro⟨n',t1,ha⟩;obtain rfl:n'=n:=by have:=ha.root;have:=h.root;omega
     obtain rfl:=ha.rep.uniq h.rep;have:=ha.held y (List.mem_of_getElem? hy);rw[this] at h1;simp at h1
    exact zbq 7 Z (QTq Xi (zZq 2 Z (gQ 0 Z Xu)))
   ·have hok:(kPq y.2).2=0:=by simp at h1;omega
    exact zbq 2 Z (QSq (()) (λj p hj hp=>by rcases Nat.lt_succ_iff_lt_or_eq.1 hj with q|rfl;exact hI j p q hp;exact(Option.some.inj (hy.symm.trans hp))▸hok) Xd Ye rfl)
  ·have yes:MayA t:=⟨n,t0,h,λp hp=>by
    obtain⟨j,hj,hjp⟩:=List.getElem_of_mem hp;exact hI j p hj (by rw[List.getElem?_eq_getElem hj,hjp])⟩
   exact zZq 8 Z (gQ 0 Z Yk)
 ·have hno:¬MayA t:=λ⟨n,t0,ha⟩=>h ha.toIsT.may
  refine gI 10 Z (λR k0=>gC 0 Z (aeach_s _) (zbq 3 Z ?_));refine Yoq (encZ) ([()]) (λi=>i=0) rfl Xn (aeach_no t hb h) (λy _=>⟨rfl,rfl⟩) (rfl) (λi y hy hI=>?_) (λhI=>?_)
  ·exact z9q 3 Z (ZHq (z9q 15 Z (jvq Xi (zZq 2 Z (gQ 0 Z Xu)))))
  ·exfalso;simp at hI
def acctOf(t0:T)(k:Dig):Acct:=match t0.find k 0 with
 |none=>.zero
 |some v=>(kPq v).1
noncomputable def nsW(ns:List Node):W:=.arr (ns.length*36) 36 (ns.map nW)
@[simp] theorem nsW_p(ns:List Node):purW (nsW ns)=true:=nsW_pur ns
theorem nclone_s(ns:List Node)(f:Bool)(hl:ns.length<=1000000000):qbq cfg G 193 0 [.fz (ns.map nW) 36 f] [] λw hp nw=>
  (ns=[]/\w= .nils/\hp=[]/\nw=0)\/(w= .sl 0 0 0 ns.length 36 none/\hp=[(0,223,nsW ns)]/\nw=1):=by
 intro R;have e:(ns.map nW).length=ns.length:=List.length_map _;refine gIs 9 Z (λk0=>?_);first|refine yVq Z Z ?_|refine z5q rfl (qUq Z Z Z Z Z (λbn hn=>?_))
 refine zpq 2 Z ?_;refine gS 0 Z (λh1=>?_) (λh1=>?_)
 ·cases bn with
  |false=>cases h1
  |true=>
   have hn:=hn rfl
   have hl0:ns=[]:=by cases ns with
    |nil=>rfl
    |cons c l=>simp at hn
   exact zLq 7 Z (fin Qm Ent.refl rfl ⟨rfl,.inl ⟨hl0,rfl,rfl,rfl⟩⟩)
 ·cases ns with
  |nil=>
   skip
   exact zLq 6 Z (gM 0 Z (ySq Z Z (jdq Z Z Z Z Z)) (zbq 4 Z (fin Qm Ent.refl rfl ⟨rfl,.inr ⟨rfl,rfl,rfl⟩⟩)))
  |cons c l=>
   refine zLq 6 Z (gM 0 Z (ySq Z Z (qEq (len:=0) (news:=(c::l).map nW) (olds:=[]) (k:=ti223) Z Z Z Z Z Xl (by show(0+((c::l).map nW).length)*ti223.bytes<=_;rw[e];show(0+(c::l).length)*80<=_;omega) Yj rfl (by show 0<0+(0+((c::l).map nW).length)*36;rw[e];simp only[List.length_cons];omega) Z Z)) (zbq 4 Z ?_));refine fin Qm (yPq (b:=0) (k:=1) (fr2:=[(2,.sl 0 0 0 (c::l).length 36 none)]) (hp2:=[(0,223,nsW (c::l))]) Xd Xd (by show 1<2;omega) ⟨⟨?_,rfl⟩,trivial⟩ ⟨⟨by omega,?_,zfq (nsW_p _)⟩,trivial⟩ Xl) rfl ⟨rfl,.inr ⟨rfl,rfl,rfl⟩⟩
   ·show some (W.sl 1 0 0 (0+((c::l).map nW).length) 36 none)=some (W.sl 1 0 0 (c::l).length 36 none);rw[e,Nat.zero_add]
   ·rw[zoq (nsW_p _)];show some (223,W.arr ((0+((c::l).map nW).length)*36) 36 ([]++(c::l).map nW))=some (223,nsW (c::l));rw[e,Nat.zero_add];rfl
theorem node_get(ns:List Node){i:Nat}{x:Node}(h:ns[i]? =some x):zYq 50 (nsW ns) (0+i*36+33) 1 false=some (bW x.val):=
 get_in (znq nW h) Xd Xd Xl rfl
theorem node_put(ns:List Node){i:Nat}{x:Node}(h:ns[i]? =some x):yDq 50 (nsW ns) (0+i*36+33) (bW x.val)=some (nsW ns):=by
 have h1:=znq nW h;rw[nsW,put_in (x':=nW x) h1 Xd Xd (by simp[W.isAgg,bW]) rfl,QLq h1]
theorem twin_s(ns:List Node)(root:Int)(hl:ns.length<=1000000000)(hv:∀x∈ns,x.val.length<=70368744177664):qbq cfg G 127 0 [tW ⟨ns,root⟩] [] λw hp nw=>
  (ns=[]/\w= .agg 2 [.nils,.int .i64 root]/\hp=[(1,28,.agg 2 [.nils,.int .i64 root]),(0,28,.agg 2 [.nils,.int .i64 root])]/\nw=2)\/
  (w= .agg 2 [.sl 2 0 0 ns.length 36 none,.int .i64 root]/\hp=[(2,223,nsW ns),(1,28,.agg 2 [.sl 2 0 0 ns.length 36 none,.int .i64 root]),(0,28,.agg 2 [.sl 2 0 0 ns.length 36 none,.int .i64 root])]/\nw=3):=by
 intro R;refine gIs 10 Z (λk0=>?_);skip
 refine gSo 0 Z (jhq Z Z Z Z Z (by simp[nsW_pur]) (nclone_s ns false hl) ?_);rintro w hp1 nw1 (⟨hn,rfl,rfl,rfl⟩|⟨rfl,rfl,rfl⟩)
 ·skip
  skip
  refine gL 9 Z ?_;refine gLo (α:=Nat) 4 (λi=>i=0) (λi=>[(11,.int .i64 (i:Int))]) [1,2,10] (λi=>1-i) (0) rfl (rfl) (λi hI=>?_);subst hI;exact gO 9 Z (zbq 9 Z (fin Qm Ent.refl rfl ⟨rfl,.inl ⟨hn,rfl,rfl,rfl⟩⟩))
 ·rw[jQq (nsW_p _)];show OpW cfg G _ _ _ _ [(2,223,nsW ns),(1,28,.agg 2 [.nils,.int .i64 0]),(0,28,tW ⟨ns,root⟩)] 3 R _;refine zpq 9 Z (gL 0 Z ?_);refine gLo (α:=Nat) 4 (λi=>i<=ns.length) (λi=>[(11,.int .i64 (i:Int))]) [1,2,10] (λi=>ns.length-i) (0) rfl (Nat.zero_le _) (λi hI=>?_);refine gS 6 Z (λh1=>?_) (λh1=>?_)
  ·have hi:i<ns.length:=by omega
   obtain⟨x,hx⟩:∃x,ns[i]? =some x:=⟨_,List.getElem?_eq_getElem hi⟩
   have hxv:=hv x (List.mem_of_getElem? hx);refine gP 17 Z (knq (i:=i) Z Z Z Z Z Z Z hi) (gM 1 Z (yiq Z Z Z (node_get ns hx)) (fl_ps Z Z Z Z Z Z (Jtq x.val false hxv) Xl Xl (by first|rfl|kernel_rfl) ?_));refine kpq rfl (knq (i:=i) Z Z Z Z Z Z Z hi) (kpq Z Z ?_);exact fl_mem rfl (st_same Z Z Z Z Z (node_put ns hx)) (by first|rfl|kernel_rfl) (qiq 4 Z (gA 0 Z (i+1) (gAg 2 Z (i+1) (hi) Xd)))
  ·exact gO 2 Z (zbq 9 Z (fin Qm Ent.refl rfl ⟨rfl,.inr ⟨rfl,rfl,rfl⟩⟩))
noncomputable def mkW(b n:Nat)(root:Int):W:=.agg 2 [.sl b 0 0 n 36 none,.int .i64 root]
theorem view_mk{hp:HpW}{b:Nat}{ns:List Node}{root:Int}(h:hget hp b=some (223,nsW ns)):View (blkA hp) (mkW b ns.length root) (tW ⟨ns,root⟩):=
 .agg (.cons (.sl (c:=nsW ns) (by unfold blkA;rw[h]) (nsW_p ns) (zJq Xg (List.length_map _).symm rfl) Xi) (.cons (.pur rfl) .nil))
noncomputable def setL(l:List Pr)(k:Dig)(a:Acct):List Pr:=if a= .zero then withoutL l k else withL l k (bytesA a)
def Qtq(t:Tree)(m:Nat):Prop:=m<t.nodes.length\/∃i x,i<=m/\t.nodes[i]? =some x/\100<x.val.length
noncomputable instance(t:Tree)(m:Nat):Decidable (Qtq t m):=Classical.propDecidable _
theorem great_s(t:Tree)(m:Nat)(hb:t.nodes.length<=4611686018427387903)(hm:m<=4611686018427387903):PS cfg G 141 [tW t,.int .i64 (m:Int)] (.bool (decide (Qtq t m))):=by
 have e:(t.nodes.map nW).length=t.nodes.length:=List.length_map _;refine gI 13 Z (λR k0=>?_);refine gLo (α:=Nat) 0 (λi=>i<=t.nodes.length/\∀j x,j<i->t.nodes[j]? =some x->x.val.length<=100) (λi=>[(5,.int .i64 (i:Int))]) [1,2,4] (λi=>t.nodes.length-i) (0) rfl (⟨Nat.zero_le _,λj x h=>by omega⟩) (λi hI=>?_);obtain⟨hI,hJ⟩:=hI;refine gV (w':=.int .i64 (t.nodes.length:Int)) 6 Z Xx ?_;refine gD 0 Z (λh1=>?_) (λh1=>?_)
 ·have hi:i<t.nodes.length:=by omega
  obtain⟨x,hx⟩:∃x,t.nodes[i]? =some x:=⟨_,List.getElem?_eq_getElem hi⟩
  have ex:=zqq x.val;refine gU 3 Z ?_;refine gS 3 Z (λh2=>?_) (λh2=>?_)
  ·refine gP 9 Z (zGq (i:=i) Z Z Z Z Z Z Z (znq nW hx)) ?_;refine gV (w':=.int .i64 (x.val.length:Int)) 2 Z (by rw[<-ex];rfl) ?_;refine gS 3 Z (λh3=>?_) (λh3=>?_)
   ·refine gO 8 Z ?_;exact gQ 2 Z (by rw[decide_eq_true (show Qtq t m from .inr ⟨i,x,by omega,hx,by omega⟩)])
   ·refine gA 5 Z (i+1) ?_;exact gAg 2 Z (i+1) (⟨hi,λj y hj hy=>by rcases Nat.lt_succ_iff_lt_or_eq.1 hj with q|rfl;exact hJ j y q hy;have:=Option.some.inj (hx.symm.trans hy);subst this;omega⟩) Xd
  ·refine gO 2 Z ?_;refine gV (w':=.int .i64 (t.nodes.length:Int)) 6 Z Xx ?_;refine gU 1 Z ?_;exact gQ 4 Z (by rw[decide_eq_true (show Qtq t m from .inl Xd)];congr 1;exact decide_eq_true (show(m:Int)<(t.nodes.length:Int) by omega))
 ·refine gO 10 Z ?_;refine gV (w':=.int .i64 (t.nodes.length:Int)) 6 Z Xx ?_;refine gU 1 Z ?_;refine gQ 4 Z ?_;congr 1
  refine decide_eq_decide.2 ⟨λq=>.inl (show m<t.nodes.length by have q:(m:Int)<(t.nodes.length:Int):=q;omega),?_⟩;rintro(q|⟨j,x,_,hx,hq⟩)
  ·show(m:Int)<(t.nodes.length:Int);omega
  ·have:=hJ j x (by have:=(List.getElem?_eq_some_iff.1 hx).1;omega) hx;omega
theorem twinp_s(t:Tree)(hl:t.nodes.length<=1000000000)(hv:∀x∈t.nodes,x.val.length<=70368744177664):PS cfg G 127 [tW t] (tW t):=λR=>
 uJq (kwq (twin_s t.nodes t.root hl hv) (Q:=λw hp _=>View (blkA hp) w (tW t)) (λw hp nw h=>by
  rcases h with ⟨hn,rfl,rfl,rfl⟩|⟨rfl,rfl,rfl⟩
  ·refine .agg (.cons ?_ (.cons (.pur rfl) .nil));rw[hn];exact .nilfz
  ·exact view_mk (b:=2) (ns:=t.nodes) (root:=t.root) rfl) R)
structure Depo where
 number:Nat
 to:Dig
 amount:Nat
noncomputable def pdW(d:Depo):W:=.agg 34 [.int .u64 (d.number:Int),dW d.to,.int .u64 (d.amount:Int)]
@[simp] theorem q7q(d:Depo):purW (pdW d)=true:=by simp[pdW]
def overB(t0:T)(d:Depo):Prop:=18446744073709551616<=(acctOf t0 d.to).balance+d.amount
instance(t0:T)(d:Depo):Decidable (overB t0 d):=inferInstanceAs (Decidable (_<=_))
end
section
variable {kfn:List V->Heap->Option (V×Heap)}
noncomputable def rotN(x n:Nat):Nat:=Nat.lor (Nat.shiftLeft x (32-n)%4294967296%4294967296) (Nat.shiftRight x n%4294967296)
noncomputable def addN(a b:Nat):Nat:=(a+b)%4294967296
noncomputable def xorN(a b:Nat):Nat:=Nat.xor (a%4294967296) (b%4294967296)
noncomputable def andN(a b:Nat):Nat:=Nat.land (a%4294967296) (b%4294967296)
noncomputable def shrN(a k:Nat):Nat:=Nat.shiftRight a (min k 32)
noncomputable def shlN(a k:Nat):Nat:=Nat.shiftLeft a (min k 32)%4294967296
noncomputable def orN(a b:Nat):Nat:=Nat.lor (a%4294967296) (b%4294967296)
noncomputable def notN(a:Nat):Nat:=Nat.xor (4294967295%4294967296) (a%4294967296)
noncomputable def wd(x:Nat):W:=.int .u32 (.ofNat x)
theorem jfq(n:Nat)(hn:n=2\/n=6\/n=7\/n=11\/n=13\/n=17\/n=18\/n=19\/n=22\/n=25)(G:Nat->Option W)(x:Nat):PS (cfgk kfn) G 233 [wd x,.int .i64 (.ofNat n)] (wd (rotN x n)):=by
 have key:∀h,yJq (cfgk kfn) 20 233 [.int .u32 (.ofNat x),.int .i64 (.ofNat n)] h=some (.int .u32 (.ofNat (rotN x n)),h):=by
  intro h;rcases hn with rfl|rfl|rfl|rfl|rfl|rfl|rfl|rfl|rfl|rfl<;>kernel_rfl
 refine kwq (spec_run key (λΓ us h=>?_) (λΓ=>RV_int.2 rfl)) λw hp nw h=>h.1
 obtain⟨v,vs,rfl,h1,h2⟩:=RVL_cons.1 h;obtain⟨v',vs',rfl,h3,h4⟩:=RVL_cons.1 h2;rw[RVL_nil.1 h4,RV_int.1 h1,RV_int.1 h3]
end
section
variable {kfn:List V->Heap->Option (V×Heap)}
attribute [local irreducible] CoW OpW FlW Step Spec
noncomputable def wordN(b0 b1 b2 b3:Nat):Nat:=orN (orN (orN (shlN (b0%4294967296) 24) (shlN (b1%4294967296) 16)) (shlN (b2%4294967296) 8)) (b3%4294967296)
noncomputable def YGq(bs:Nat->Nat)(l:List Nat):Nat:=match Nat.blt l.length 16 with
 |true=>wordN (bs (4*l.length)) (bs (4*l.length+1)) (bs (4*l.length+2)) (bs (4*l.length+3))
 |false=>addN (addN (addN (l.getD (l.length-16) 0) (xorN (xorN (rotN (l.getD (l.length-15) 0) 7) (rotN (l.getD (l.length-15) 0) 18)) (shrN (l.getD (l.length-15) 0) 3))) (l.getD (l.length-7) 0)) (xorN (xorN (rotN (l.getD (l.length-2) 0) 17) (rotN (l.getD (l.length-2) 0) 19)) (shrN (l.getD (l.length-2) 0) 10))
noncomputable def yzq(bs:Nat->Nat):Nat->List Nat
 |0=>[]
 |t+1=>yzq bs t++[YGq bs (yzq bs t)]
theorem qpq(bs:Nat->Nat):∀t,(yzq bs t).length=t
 |0=>rfl
 |t+1=>by simp[yzq,qpq bs t]
theorem Q5q{l:List Nat}{i:Nat}(h:i<l.length):(l.map wd)[i]? =some (wd (l.getD i 0)):=by
 simp[List.getElem?_map,List.getElem?_eq_getElem h,List.getD]
noncomputable def kW:List Nat:=[1116352408,1899447441,3049323471,3921009573,961987163,1508970993,2453635748,2870763221,3624381080,310598401,607225278,1426881987,1925078388,2162078206,2614888103,3248222580,3835390401,4022224774,264347078,604807628,770255983,1249150122,1555081692,1996064986,2554220882,2821834349,2952996808,3210313671,3336571891,3584528711,113926993,338241895,666307205,773529912,1294757372,1396182291,1695183700,1986661051,2177026350,2456956037,2730485921,2820302411,3259730800,3345764771,3516065817,3600352804,4094571909,275423344,430227734,506948616,659060556,883997877,958139571,1322822218,1537002063,1747873779,1955562222,2024104815,2227730452,2361852424,2428436474,2756734187,3204031479,3329325298]
noncomputable def glK:Nat->Option W:=λg=>match g with
 |1=>some (.arr 64 1 (kW.map wd))
 |_=>none
noncomputable def pad0(l:List Nat)(n:Nat):List Nat:=l++List.replicate (n-l.length) 0
theorem pad0_at{l:List Nat}{n i:Nat}(h:i<l.length):((pad0 l n).map wd)[i]? =some (wd (l.getD i 0)):=by
 have:i<(pad0 l n).length:=by simp[pad0];omega
 rw[Q5q this];simp[pad0,List.getD,List.getElem?_append,h]
theorem pad0_ge{l:List Nat}{n:Nat}(h:l.length<n):((pad0 l n).map wd)[l.length]? =some (wd 0):=by
 have:l.length<(pad0 l n).length:=by simp[pad0];omega
 rw[Q5q this];simp[pad0,List.getD,List.getElem?_append,List.getElem?_replicate,show 0<n-l.length by omega]
theorem pad0_set{l:List Nat}{n x:Nat}(h:l.length<n):((pad0 l n).map wd).set l.length (wd x)=(pad0 (l++[x]) n).map wd:=by
 rw[<-List.map_set];congr 1
 unfold pad0;rw[List.set_append_right _ _ (Nat.le_refl _)];have:n-l.length=(n-(l++[x]).length)+1:=by simp;omega
 rw[this,Nat.sub_self,List.replicate_succ,List.set_cons_zero,List.append_assoc];rfl
structure S8 where
 (a b c d e f g h:Nat)
noncomputable def S8.l(s:S8):List W:=[wd s.a,wd s.b,wd s.c,wd s.d,wd s.e,wd s.f,wd s.g,wd s.h]
noncomputable def roundN(k w:Nat)(v:S8):S8:=
 let one:=addN (addN (addN (addN v.h (xorN (xorN (rotN v.e 6) (rotN v.e 11)) (rotN v.e 25))) (xorN (andN v.e v.f) (andN (notN v.e) v.g))) k) w
 let two:=addN (xorN (xorN (rotN v.a 2) (rotN v.a 13)) (rotN v.a 22)) (xorN (xorN (andN v.a v.b) (andN v.a v.c)) (andN v.b v.c))
 ⟨addN one two,v.a,v.b,v.c,addN v.d one,v.e,v.f,v.g⟩
noncomputable def kbq(ws:List Nat)(s:S8):Nat->S8
 |0=>s
 |t+1=>roundN (kW.getD t 0) (ws.getD t 0) (kbq ws s t)
noncomputable def add8(s v:S8):S8:=⟨addN s.a v.a,addN s.b v.b,addN s.c v.c,addN s.d v.d,addN s.e v.e,addN s.f v.f,addN s.g v.g,addN s.h v.h⟩
noncomputable def j5q(bs:Nat->Nat)(s:S8):S8:=add8 s (kbq (yzq bs 64) s 64)
theorem kW_len:kW.length=64:=rfl
noncomputable def S8.get(s:S8):Nat->Nat
 |0=>s.a
 |1=>s.b
 |2=>s.c
 |3=>s.d
 |4=>s.e
 |5=>s.f
 |6=>s.g
 |_=>s.h
noncomputable def mix8(s v:S8)(i:Nat):List W:=(add8 s v).l.take i++s.l.drop i
theorem lt8{i:Nat}(h:i<8):i=0\/i=1\/i=2\/i=3\/i=4\/i=5\/i=6\/i=7:=by omega
theorem S8_at(s:S8){k:Nat}(h:k<8):s.l[0+k*1]? =some (wd (s.get k)):=by rcases lt8 h with rfl|rfl|rfl|rfl|rfl|rfl|rfl|rfl<;>rfl
theorem mix_at(s v:S8){k:Nat}(h:k<8):(mix8 s v k)[0+k*1]? =some (wd (s.get k)):=by rcases lt8 h with rfl|rfl|rfl|rfl|rfl|rfl|rfl|rfl<;>rfl
theorem mix_set(s v:S8){k:Nat}(h:k<8):(mix8 s v k).set (0+k*1) (wd (addN (s.get k) (v.get k)))=mix8 s v (k+1):=by rcases lt8 h with rfl|rfl|rfl|rfl|rfl|rfl|rfl|rfl<;>rfl
theorem block_s(s:S8)(bs:Nat->Nat)(c:W)(base off:Nat)(lim:Option Nat)(ty:TypeId)(hc:refB 2 c=true)(hby:∀i,i<64->zYq 50 c (off+i*1) 1 false=some (.int .u8 (.ofNat (bs i))))(R:Res):
  Spec (cfgk kfn) glK 200 2 [.ptr 0 0,.sl 1 base off 64 1 lim] [(0,349,.arr 8 1 s.l),(1,ty,c)] R λw hp nw R'=>R'=R/\w= .tup []/\hp=[(0,349,.arr 8 1 (j5q bs s).l),(1,ty,c)]/\nw=2:=by
 refine gIs 12 Z (λk0=>?_);refine k4q (α:=Nat) (λt=>t<=64) (λt=>[(19,.int .i64 (t:Int))]) [(0,_),(1,_),(4,_)] (λt=>[(2,396,.arr 64 1 ((pad0 (yzq bs t) 64).map wd)),(0,349,.arr 8 1 s.l),(1,ty,c)]) (λt=>64-t) (0) ⟨rfl,rfl,rfl,trivial⟩ (Nat.zero_le _) ⟨rfl,trivial⟩ (rfl) (λt hI=>?_);have hl:=qpq bs t;refine z9q 6 Z ?_;refine gS 0 Z (λh1=>?_) (λh1=>?_)
 ·have ht1:t<64:=by omega
  have h0:((pad0 (yzq bs t) 64).map wd)[0+t*1]? =some (wd 0):=by
   have:=pad0_ge (l:=yzq bs t) (n:=64) Xd;rw[hl] at this;simpa using this
  have key:∀x,YGq bs (yzq bs t)=x->((pad0 (yzq bs t) 64).map wd).set (0+t*1) (wd x)=(pad0 (yzq bs (t+1)) 64).map wd:=λx hx=>by
   have:=pad0_set (l:=yzq bs t) (n:=64) (x:=x) Xd;rw[hl] at this;rw[Nat.zero_add,Nat.mul_one,this,yzq,hx]
  refine gS 17 Z (λh2=>?_) (λh2=>?_)
  ·have ht2:t<16:=by omega
   have hb:YGq bs (yzq bs t)=wordN (bs (4*t)) (bs (4*t+1)) (bs (4*t+2)) (bs (4*t+3)):=by
    unfold YGq;rw[hl,show Nat.blt t 16=true by simpa[Nat.blt_eq] using ht2]
   refine gA 5 Z (4*t) ?_;refine gP 0 Z (knq (i:=4*t) Z Z Z Z Z Z Z Xd) ?_;refine gM 0 Z (yiq Z Z Z (hby _ Xd)) ?_;refine gA 4 Z (4*t) ?_;refine gA 0 Z (4*t+1) ?_;refine gP 0 Z (knq (i:=4*t+1) Z Z Z Z Z Z Z Xd) ?_;refine gM 0 Z (yiq Z Z Z (hby _ Xd)) ?_;refine gA 5 Z (4*t) ?_;refine gA 0 Z (4*t+2) ?_;refine gP 0 Z (knq (i:=4*t+2) Z Z Z Z Z Z Z Xd) ?_;refine gM 0 Z (yiq Z Z Z (hby _ Xd)) ?_;refine gA 5 Z (4*t) ?_;refine gA 0 Z (4*t+3) ?_;refine gP 0 Z (knq (i:=4*t+3) Z Z Z Z Z Z Z Xd) ?_;refine gM 0 Z (yiq Z Z Z (hby _ Xd)) ?_;refine gX 2 Z ?_;refine gM 0 Z (qhq Z Z Z Z Z (kRq h0 Z Z) (congrArg (λL=>[(2,396,W.arr 64 1 L),(0,349,.arr 8 1 s.l),(1,ty,c)]) (key _ hb))) ?_;refine gWr 7 Z ?_;refine zbq 2 Z ?_;exact kQq (t+1) (ht1) Xd ⟨rfl,trivial⟩ ⟨rfl,rfl,rfl,trivial⟩ rfl
  ·have ht2:¬t<16:=by omega
   have hA:∀k,k<t->((pad0 (yzq bs t) 64).map wd)[0+k*1]? =some (wd ((yzq bs t).getD k 0)):=λk hk=>by
    rw[Nat.zero_add,Nat.mul_one];exact pad0_at Xd
   have hb:YGq bs (yzq bs t)=addN (addN (addN ((yzq bs t).getD (t-16) 0) (xorN (xorN (rotN ((yzq bs t).getD (t-15) 0) 7) (rotN ((yzq bs t).getD (t-15) 0) 18)) (shrN ((yzq bs t).getD (t-15) 0) 3))) ((yzq bs t).getD (t-7) 0)) (xorN (xorN (rotN ((yzq bs t).getD (t-2) 0) 17) (rotN ((yzq bs t).getD (t-2) 0) 19)) (shrN ((yzq bs t).getD (t-2) 0) 10)):=by
    unfold YGq;rw[show Nat.blt (yzq bs t).length 16=false by rw[hl];exact Bool.eq_false_iff.2 λq=>ht2 (by simpa[Nat.blt_eq] using q)];simp only[hl]
   refine gA 5 Z (t-15) ?_;refine gX 0 Z ?_;refine gM 0 Z (yiq Z Z Z (qHq (hA _ Xd) rfl)) ?_;refine gA 1 Z (t-2) ?_;refine gX 0 Z ?_;refine gM 0 Z (yiq Z Z Z (qHq (hA _ Xd) rfl)) ?_;refine gA 7 Z (t-16) ?_;refine gX 0 Z ?_;refine gM 0 Z (yiq Z Z Z (qHq (hA _ Xd) rfl)) ?_;refine gC 1 Z (jfq _ Xg _ _) ?_;refine gC 1 Z (jfq _ Xg _ _) ?_;refine gA 6 Z (t-7) ?_;refine gX 0 Z ?_;refine gM 0 Z (yiq Z Z Z (qHq (hA _ Xd) rfl)) ?_;refine gC 2 Z (jfq _ Xg _ _) ?_;refine gC 1 Z (jfq _ Xg _ _) ?_;refine gX 5 Z ?_;refine gM 0 Z (qhq Z Z Z Z Z (kRq h0 Z Z) (congrArg (λL=>[(2,396,W.arr 64 1 L),(0,349,.arr 8 1 s.l),(1,ty,c)]) (key _ hb))) ?_;refine gWr 4 Z ?_;refine zbq 2 Z ?_;exact kQq (t+1) (ht1) Xd ⟨rfl,trivial⟩ ⟨rfl,rfl,rfl,trivial⟩ rfl
 ·obtain rfl:t=64:=by omega
  rw[show pad0 (yzq bs 64) 64=yzq bs 64 by unfold pad0;rw[hl];simp];refine zbq 2 Z ?_;refine q4q Xi ?_;refine zZq 18 Z ?_;refine k4q (α:=Nat) (λt=>t<=64) (λt=>[(100,.int .i64 (t:Int))]) [(0,_),(4,_),(8,_)] (λt=>[(3,349,.arr 8 1 (kbq (yzq bs 64) s t).l),(2,396,.arr 64 1 ((yzq bs 64).map wd)),(0,349,.arr 8 1 s.l),(1,ty,c)]) (λt=>64-t) (0) ⟨rfl,rfl,rfl,trivial⟩ (Nat.zero_le _) ⟨rfl,trivial⟩ (rfl) (λt hI=>?_);refine z9q 6 Z ?_;refine gS 0 Z (λh2=>?_) (λh2=>?_)
  ·have ht1:t<64:=by omega
   have hK:zYq 50 (.arr 64 1 (kW.map wd)) (t*1) 1 false=some (wd (kW.getD t 0)):=qHq (by rw[Nat.mul_one];exact Q5q (by rw[kW_len];exact ht1)) rfl;have hW:zYq 50 (.arr 64 1 ((yzq bs 64).map wd)) (0+t*1) 1 false=some (wd ((yzq bs 64).getD t 0)):=qHq (by rw[Nat.zero_add,Nat.mul_one];exact Q5q Xd) rfl;refine gC 37 Z (jfq _ Xg _ _) ?_;refine gC 1 Z (jfq _ Xg _ _) ?_;refine gC 2 Z (jfq _ Xg _ _) ?_;refine gP 12 Z (ix_fel (i:=t) Z Z Z Z Z Z Xd rfl hK) ?_;refine gP 3 Z (kdq (i:=t) Z Z Z Z Z Z Xd) ?_;refine gM 0 Z (yiq Z Z Z hW) ?_;refine gC 7 Z (jfq _ Xg _ _) ?_;refine gC 1 Z (jfq _ Xg _ _) ?_;refine gC 2 Z (jfq _ Xg _ _) ?_;refine gWr 36 Z ?_;refine zbq 2 Z ?_;exact kQq (t+1) (ht1) Xd ⟨rfl,trivial⟩ ⟨rfl,rfl,rfl,trivial⟩ rfl
  ·obtain rfl:t=64:=by omega
   refine zbq 2 Z ?_;refine q4q Xi ?_;refine zZq 8 Z ?_;refine k4q (α:=Nat) (λi=>i<=8) (λi=>[(178,.int .i64 (i:Int))]) [(0,_),(8,_)] (λi=>[(3,349,.arr 8 1 (kbq (yzq bs 64) s 64).l),(2,396,.arr 64 1 ((yzq bs 64).map wd)),(0,349,.arr 8 1 (mix8 s (kbq (yzq bs 64) s 64) i)),(1,ty,c)]) (λi=>8-i) (0) ⟨rfl,rfl,trivial⟩ (Nat.zero_le _) ⟨rfl,trivial⟩ (rfl) (λi hI=>?_);refine z9q 6 Z ?_;refine gS 0 Z (λh3=>?_) (λh3=>?_)
   ·have hi1:i<8:=by omega
    refine gP 14 Z (kdq (i:=i) Z Z Z Z Z Z hi1) ?_;refine gM 0 Z (yiq Z Z Z (qHq (mix_at _ _ hi1) rfl)) ?_;refine gP 1 Z (kdq (i:=i) Z Z Z Z Z Z hi1) ?_;refine gM 0 Z (yiq Z Z Z (qHq (S8_at _ hi1) rfl)) ?_;refine gP 2 Z (kdq (i:=i) Z Z Z Z Z Z hi1) ?_;refine gM 0 Z (qhq Z Z Z Z Z (kRq (mix_at _ _ hi1) Z Z) (congrArg (λL=>[(3,349,W.arr 8 1 (kbq (yzq bs 64) s 64).l),(2,396,.arr 64 1 ((yzq bs 64).map wd)),(0,349,.arr 8 1 L),(1,ty,c)]) (mix_set _ _ hi1))) ?_;refine gWr 4 Z ?_;refine zbq 2 Z ?_;exact kQq (i+1) (hi1) Xd ⟨rfl,trivial⟩ ⟨rfl,rfl,trivial⟩ rfl
   ·obtain rfl:i=8:=by omega
    refine zbq 2 Z ?_;refine q4q Xi ?_;refine zZq 1 Z ?_;refine fin (.inl rfl) (q2q (fr2:=[]) (hp2:=[(0,349,.arr 8 1 (j5q bs s).l),(1,ty,c)]) (nw2:=2) Xd Xd trivial rfl (qtq ⟨⟨by omega,rfl,rfl⟩,⟨by omega,rfl,hc⟩,trivial⟩) Xl) rfl ⟨rfl,rfl,rfl,rfl⟩
noncomputable def atL(r:List Nat)(i:Nat):Nat:=r.getD i 0
noncomputable def eat:Nat->S8->List Nat->S8×List Nat
 |0,s,r=>(s,r)
 |n+1,s,r=>match Nat.ble 64 r.length with
  |true=>eat n (j5q (atL r) s) (r.drop 64)
  |false=>(s,r)
theorem u8q:∀(n:Nat) (s:S8) (r:List Nat),r.length<64->eat n s r=(s,r)
 |0,_,_,_=>rfl
 |n+1,s,r,h=>by
  have:Nat.ble 64 r.length=false:=by
   cases hq:Nat.ble 64 r.length with
   |true=>have:=Zb hq;omega
   |false=>rfl
  simp only[eat,this]
theorem Jmq{n:Nat}{s:S8}{r:List Nat}(h:64<=r.length):eat (n+1) s r=eat n (j5q (atL r) s) (r.drop 64):=by
 simp only[eat,Nat.ble_eq_true_of_le h]
theorem eat_fuel:∀(n m:Nat) (s:S8) (r:List Nat),r.length<=n->r.length<=m->eat n s r=eat m s r
 |0,m,s,r,h,_=>by rw[u8q m s r Xd];rfl
 |n+1,0,s,r,_,h=>by rw[u8q _ s r Xd];rfl
 |n+1,m+1,s,r,h1,h2=>by
  by_cases h:64<=r.length
  ·rw[Jmq h,Jmq h];exact eat_fuel n m _ _ Xo Xo
  ·rw[u8q _ s r Xd,u8q _ s r Xd]
noncomputable def eats(s:S8)(r:List Nat):S8×List Nat:=eat r.length s r
theorem eats_more{s:S8}{r:List Nat}(h:64<=r.length):eats s r=eats (j5q (atL r) s) (r.drop 64):=by
 unfold eats;obtain⟨n,hn⟩:∃n,r.length=n+1:=⟨r.length-1,by omega⟩
 rw[hn,Jmq h];exact eat_fuel _ _ _ _ Xo (Nat.le_refl _)
noncomputable def j7q(a:S8×List Nat)(p:List Nat):S8×List Nat:=eats a.1 (a.2++p)
noncomputable def s0:S8:=⟨1779033703,3144134277,1013904242,2773480762,1359893119,2600822924,528734635,1541459225⟩
noncomputable def padZ:Nat->List Nat->List Nat
 |0,r=>r
 |n+1,r=>match Nat.beq (r.length%64) 56 with
  |true=>r
  |false=>padZ n (r++[0])
noncomputable def len8(many:Nat):List Nat:=[56,48,40,32,24,16,8,0].map λi=>Nat.shiftRight (8*many%18446744073709551616) i%256
noncomputable def jqq:Nat->S8->List Nat->S8
 |0,s,_=>s
 |n+1,s,r=>match Nat.ble 1 r.length with
  |true=>jqq n (j5q (atL r) s) (r.drop 64)
  |false=>s
theorem jIq:∀(n:Nat) (s:S8),jqq n s []=s
 |0,_=>rfl
 |n+1,s=>rfl
theorem utq{n:Nat}{s:S8}{r:List Nat}(h:1<=r.length):jqq (n+1) s r=jqq n (j5q (atL r) s) (r.drop 64):=by
 simp only[jqq,Nat.ble_eq_true_of_le h]
theorem Ygq:∀(n m:Nat) (s:S8) (r:List Nat),r.length<=n->r.length<=m->jqq n s r=jqq m s r
 |0,m,s,r,h,_=>by
  obtain rfl:r=[]:=List.length_eq_zero_iff.1 Xd;rw[jIq,jIq]
 |n+1,0,s,r,_,h=>by
  obtain rfl:r=[]:=List.length_eq_zero_iff.1 Xd;rw[jIq,jIq]
 |n+1,m+1,s,r,h1,h2=>by
  by_cases h:1<=r.length
  ·rw[utq h,utq h];exact Ygq n m _ _ Xo Xo
  ·obtain rfl:r=[]:=List.length_eq_zero_iff.1 Xd;rw[jIq,jIq]
theorem eatAll_step{s:S8}{r:List Nat}(h:1<=r.length):jqq r.length s r=jqq (r.drop 64).length (j5q (atL r) s) (r.drop 64):=by
 obtain⟨n,hn⟩:∃n,r.length=n+1:=⟨r.length-1,by omega⟩
 rw[hn,utq h];exact Ygq _ _ _ _ Xo (Nat.le_refl _)
noncomputable def digN(s:S8):List Nat:=(List.range 32).map λi=>Nat.shiftRight (s.get (i/4)) (24-8*(i%4))%256
noncomputable def yTq(ps:List (List Nat)):Nat:=(ps.map List.length).foldr (· + ·) 0
noncomputable def shaN(ps:List (List Nat)):List Nat:=
 let a:=ps.foldl j7q (s0,[])
 let r:=padZ 64 (a.2++[128])++len8 (yTq ps)
 digN (jqq r.length a.1 r)
inductive Rst where
 |nil
 |sl (all:List Nat) (base off:Nat)
noncomputable def Rst.w:Rst->W
 |.nil=>.nils
 |.sl all base off=>.sl 2 base off (all.length-off) 1 none
noncomputable def Rst.hp:Rst->HpW
 |.nil=>[]
 |.sl all _ _=>[(2,5,.arr all.length 1 (bN all))]
noncomputable def Rst.r:Rst->List Nat
 |.nil=>[]
 |.sl all _ off=>all.drop off
noncomputable def Rst.ok:Rst->Prop
 |.nil=>True
 |.sl all _ off=>off<=all.length/\all.length<4294967296
noncomputable def Rst.nw:Rst->Nat
 |.nil=>2
 |.sl _ _ _=>3
noncomputable def hpS(x:Rst)(d:W)(s:S8):HpW:=x.hp++[(1,349,.arr 8 1 s.l),(0,23,d)]
noncomputable def vNq:W:=.arr 32 1 (List.replicate 32 (.int .u8 0))
noncomputable def x2q(p:List Nat×Bool):W:=.fz (bN p.1) 1 p.2
theorem app_r(r:Rst)(hr:r.ok)(d:W)(s:S8)(p:List Nat)(f:Bool)(hp:p.length<2147483648)(h64:r.r.length<64):∃w hp' nw ev,appW (cfgk kfn) (hpS r d s) r.nw 52 52 r.w (.fz (bN p) 1 f)=some (w,hp',nw,ev)/\
  ∃r':Rst,r'.ok/\r'.r=r.r++p/\((w=r'.w/\hp'=hpS r' d s/\nw=r'.nw)\/∃all,r'= .sl all 0 0/\w= .sl 3 0 0 all.length 1 none/\hp'=[(3,5,.arr all.length 1 (bN all)),(1,349,.arr 8 1 s.l),(0,23,d)]/\nw=4):=by
 cases r with
 |nil=>cases p with
  |nil=>exact⟨_,_,_,_,rfl,.nil,trivial,rfl,.inl ⟨rfl,rfl,rfl⟩⟩
  |cons a l=>
   have hl:(bN (a::l)).length=l.length+1:=by rw[vfq];rfl
   have hlt:l.length+1<2147483648:=hp;have hbl:(bN (a::l)).length*1<=140737488355328:=by omega
   refine⟨_,_,_,_,uyq (k:=ti5) Z Z Z Z Z (by simp[bN]) hbl Xd,.sl (a::l) 0 0,⟨Nat.zero_le _,by show l.length+1<_;omega⟩,rfl,.inl ⟨?_,?_,rfl⟩⟩
   ·rw[vfq];rfl
   ·rw[vfq,show(ti5).size=1 from rfl,Nat.mul_one];rfl
 |sl all base off=>
  obtain⟨h1,h2⟩:=hr;cases p with
  |nil=>exact⟨_,_,_,_,rfl,.sl all base off,⟨h1,h2⟩,by simp,.inl ⟨rfl,rfl,rfl⟩⟩
  |cons a l=>
   have hl:(bN (a::l)).length=l.length+1:=by rw[vfq];rfl
   have hlt:l.length+1<2147483648:=hp;have hbl:(all.length-off+(bN (a::l)).length)*1<=140737488355328:=by omega
   have hdt:((bN all).drop off).take (all.length-off)=bN (all.drop off):=by
    rw[List.take_of_length_le (by simp[vfq])];simp[bN,List.map_drop]
   refine⟨_,_,_,_,qEq (k:=ti5) (v:=.arr all.length 1 (bN all)) (off:=off) Z Z Z Z Z (by simp[bN]) hbl Xd Z ?_ rfl (uEq Xd),.sl (all.drop off++a::l) 0 0,⟨Nat.zero_le _,?_⟩,rfl,.inr ⟨_,rfl,?_,?_,rfl⟩⟩
   ·show all.length<off+(all.length-off+(bN (a::l)).length)*1;omega
   ·simp only[Rst.r,List.length_drop] at h64;simp only[List.length_append,List.length_drop,List.length_cons];omega
   ·simp only[hl,List.length_append,List.length_drop,List.length_cons];rfl
   ·rw[hdt,hl];simp only[List.length_append,List.length_drop,List.length_cons,show(ti5).size=1 from rfl,Nat.mul_one];rw[show bN (all.drop off)++bN (a::l)=bN (all.drop off++a::l) by simp[bN]];rfl
theorem padZ_spec:∀(n j:Nat) (r:List Nat),(∀i,i<j->(r.length+i)%64≠56) ->(r.length+j)%64=56->j<=n->padZ n r=r++List.replicate j 0
 |0,j,r,_,_,h=>by
  obtain rfl:j=0:=by omega
  simp[padZ]
 |n+1,0,r,_,h,_=>by
  have:Nat.beq (r.length%64) 56=true:=by rw[Nat.beq_eq];simpa using h
  simp only[padZ,this];simp
 |n+1,j+1,r,h1,h2,h3=>by
  have:Nat.beq (r.length%64) 56=false:=by
   cases hq:Nat.beq (r.length%64) 56 with
   |true=>rw[Nat.beq_eq] at hq;exact absurd (by simpa using hq) (h1 0 Xd)
   |false=>rfl
  simp only[padZ,this];rw[padZ_spec n j (r++[0]) (λi hi=>by simp only[List.length_append,List.length_singleton];have:=h1 (i+1) Xd;rwa[show r.length+1+i=r.length+(i+1) by omega]) (by simp only[List.length_append,List.length_singleton];rwa[show r.length+1+j=r.length+(j+1) by omega]) Xd];rw[List.append_assoc];rfl
noncomputable def dI(s:S8)(i:Nat):List Nat:=(digN s).take i++List.replicate (32-i) 0
theorem Zmq(s:S8):(digN s).length=32:=by simp[digN]
theorem dI_len(s:S8){i:Nat}(h:i<=32):(dI s i).length=32:=by simp[dI,Zmq];omega
theorem dI_at(s:S8){i:Nat}(h:i<32):(bN (dI s i))[0+i*1]? =some (.int .u8 (.ofNat 0)):=by
 rw[Nat.zero_add,Nat.mul_one,bN_at (by rw[dI_len s Xd];exact h)]
 have:(dI s i).getD i 0=0:=by
  simp[dI,List.getD,List.getElem?_append,Zmq,show min i 32=i by omega,List.getElem?_replicate,show 0<32-i by omega]
 rw[this]
theorem dI_set(s:S8){i:Nat}(h:i<32):(bN (dI s i)).set (0+i*1) (.int .u8 (.ofNat (Nat.shiftRight (s.get (i/4)) (min (24-8*(i%4)) 32)%256)))=bN (dI s (i+1)):=by
 have e:(digN s).take (i+1)=(digN s).take i++[Nat.shiftRight (s.get (i/4)) (24-8*(i%4))%256]:=by
  rw[List.take_add_one];congr 1
  simp[digN,List.getElem?_map,List.getElem?_range h]
 have hm:min (24-8*(i%4)) 32=24-8*(i%4):=by omega
 have hl:((digN s).take i).length=i:=by simp[Zmq];omega
 rw[Nat.zero_add,Nat.mul_one,hm];unfold bN;rw[<-List.map_set (f:=λc=>W.int .u8 (.ofNat c))];congr 1
 unfold dI;rw[e,show 32-i=(32-(i+1))+1 by omega,List.replicate_succ,List.set_append_right _ _ Xd,hl,Nat.sub_self,List.set_cons_zero,List.append_assoc];rfl
theorem mid1(L:List Nat)(c:Nat):some (W.sl 4 0 0 (L.length+(bN [c]).length) 1 none)=some (renW (tau1 2 4) (W.sl 2 0 0 (L++[c]).length 1 none)):=by
 rw[List.length_append];rfl
theorem mid2(L:List Nat)(c:Nat):some (5,W.arr ((L.length+(bN [c]).length)*1) 1 (((bN L).drop 0).take L.length++bN [c]))=some (5,renW (tau1 2 4) (W.arr (L++[c]).length 1 (bN (L++[c])))):=by
 rw[zoq (show purW (.arr (L++[c]).length 1 (bN (L++[c])))=true from v1q _),List.drop_zero,List.take_of_length_le (by rw[vfq];exact Nat.le_refl _),Nat.mul_one,List.length_append];simp[bN]
theorem parts_pur:∀ps:List (List Nat×Bool),purL (ps.map x2q)=true
 |[]=>rfl
 |p::ps=>by simp only[List.map_cons,purL,x2q,purW,v1q,Bool.true_and];exact parts_pur ps
theorem of_s(ps:List (List Nat×Bool))(fl:Bool)(hb:yTq (ps.map (·.1))<2147483648)(hpn:ps.length<2147483648)(R:Res):
  Spec (cfgk kfn) glK 137 0 [.fz (ps.map x2q) 1 fl] [] R λw hp nw R'=>R'=R/\w= .arr 32 1 (bN (shaN (ps.map (·.1)))):=by
 refine gIs 26 Z (λk0=>?_);refine gL 0 Z ?_;refine zbq 4 Z ?_;refine jbq (α:=Nat×S8×Rst) (λa=>a.1<=ps.length/\a.2.2.ok/\(a.2.1,a.2.2.r)=((ps.map (·.1)).take a.1).foldl j7q (s0,[])/\a.2.2.r.length<64) (λa=>[(13,.int .i64 (a.1:Int)),(12,.int .i64 (ps.length:Int)),(11,.fz (ps.map x2q) 1 fl),(5,.int .u64 (yTq ((ps.map (·.1)).take a.1):Int)),(4,a.2.2.w),(3,.ptr 1 0),(2,.ptr 0 0)]) (λa=>hpS a.2.2 vNq a.2.1) (λa=>a.2.2.nw) (λ_=>R) (λa=>ps.length-a.1) (0,s0,.nil) ⟨Nat.zero_le _,trivial,rfl,by decide⟩ ?_ (λa ha=>?_);skip
 ·exact qgq ⟨rfl,by simp[getW,putW],rfl,rfl,rfl,rfl,rfl,trivial⟩ Z Z
 have hPp:purW (.fz (ps.map x2q) 1 fl)=true:=parts_pur ps;obtain⟨i,s,r⟩:=a;obtain⟨hi,hok,hfold,hr64⟩:=ha;refine z9q 6 Z ?_;refine gS 0 Z (λh1=>?_) (λh1=>?_)
 ·simp only at hi hok hfold hr64;have hi1:i<ps.length:=by omega
  obtain⟨p,hp⟩:∃p,ps[i]? =some p:=⟨_,List.getElem?_eq_getElem hi1⟩
  have hpw:(ps.map x2q)[i]? =some (.fz (bN p.1) 1 p.2):=by rw[List.getElem?_map,hp];rfl
  have htk:(ps.map (·.1)).take (i+1)=(ps.map (·.1)).take i++[p.1]:=by
   rw[List.take_add_one,List.getElem?_map,hp];rfl
  have htot:∀l r:List (List Nat),yTq (l++r)=yTq l+yTq r:=λl r=>by
   unfold yTq;induction l with
   |nil=>simp
   |cons x l ih=>simp only[List.cons_append,List.map_cons,List.foldr_cons,ih];omega
  have ht1:yTq ((ps.map (·.1)).take (i+1))=yTq ((ps.map (·.1)).take i)+p.1.length:=by rw[htk,htot];simp[yTq]
  have htle:yTq ((ps.map (·.1)).take (i+1))<=yTq (ps.map (·.1)):=by
   have:=htot ((ps.map (·.1)).take (i+1)) ((ps.map (·.1)).drop (i+1));rw[List.take_append_drop] at this;omega
  have hpl:p.1.length<2147483648:=by omega
  refine gP 6 Z (zGq (i:=i) Z Z Z Z Z Z Z hpw) ?_;refine gZ 8 Z (vfq p.1) ?_;refine gA 0 Z (p.1.length) ?_;refine gA 0 Z (yTq ((ps.map (·.1)).take i)+p.1.length) ?_;refine zbq 3 Z ?_;refine co_cut (α:=Rst) (λr'=>r'.ok/\r'.r=r.r++p.1) (λr'=>[(13,.int .i64 (i:Int)),(12,.int .i64 (ps.length:Int)),(11,.fz (ps.map x2q) 1 fl),(5,.int .u64 (yTq ((ps.map (·.1)).take (i+1)):Int)),(4,r'.w),(3,.ptr 1 0),(2,.ptr 0 0)]) (λr'=>hpS r' vNq s) (λr'=>r'.nw) ?_ (λa ha=>?_)
  ·obtain⟨w,hp',nw',ev,e1,r',e2,e3,e4⟩:=app_r r hok vNq s p.1 p.2 hpl hr64;refine z9q 3 Z ?_;refine gM 0 Z (ySq Z Z e1) ?_;refine zbq 2 Z ?_;refine⟨rfl,r',⟨e2,e3⟩,?_⟩;rcases e4 with ⟨rfl,rfl,rfl⟩|⟨all,rfl,rfl,rfl,rfl⟩
   ·exact qgq ⟨rfl,rfl,rfl,by rw[ht1];rfl,rfl,rfl,rfl,trivial⟩ Z Z
   ·refine yPq (b:=2) (k:=3) Xd Xd Xd ⟨⟨rfl,rfl⟩,⟨rfl,rfl⟩,⟨by rw[zoq hPp];rfl,zfq hPp⟩,⟨by rw[ht1];rfl,rfl⟩,⟨rfl,rfl⟩,⟨rfl,rfl⟩,⟨rfl,rfl⟩,trivial⟩ ⟨⟨by omega,by rw[zoq (show purW (.arr all.length 1 (bN all))=true from v1q _)];rfl,zfq (show purW (.arr all.length 1 (bN all))=true from v1q _)⟩,⟨by omega,rfl,rfl⟩,⟨by omega,rfl,rfl⟩,trivial⟩ Yq
  obtain⟨hak,har⟩:=ha;have hstep:(ps.map (·.1)).take (i+1)=(ps.map (·.1)).take i++[p.1]:=htk;have hnext:((ps.map (·.1)).take (i+1)).foldl j7q (s0,[])=j7q (s,r.r) p.1:=by rw[hstep,List.foldl_append,<-hfold];rfl
  refine zLq 1 Z ?_;refine jbq (α:=S8×Rst) (λb=>b.2.ok/\eats b.1 b.2.r=j7q (s,r.r) p.1) (λb=>[(13,.int .i64 (i:Int)),(12,.int .i64 (ps.length:Int)),(11,.fz (ps.map x2q) 1 fl),(5,.int .u64 (yTq ((ps.map (·.1)).take (i+1)):Int)),(4,b.2.w),(3,.ptr 1 0),(2,.ptr 0 0)]) (λb=>hpS b.2 vNq b.1) (λb=>b.2.nw) (λ_=>R) (λb=>b.2.r.length) (s,a) ⟨hak,by simp only[j7q,har]⟩ (Ent.refl) (λb hb=>?_);skip
  obtain⟨s',r'⟩:=b;obtain⟨hok',heat⟩:=hb;simp only at hok' heat
  have done:r'.r.length<64->(s',r'.r)=((ps.map (·.1)).take (i+1)).foldl j7q (s0,[]):=λh=>by
   rw[hnext,<-heat,eats,u8q _ _ _ h]
  skip
  cases r' with
  |nil=>
   refine z9q 4 Z ?_;refine gL 0 Z ?_;refine zbq 6 Z ?_;refine q4q Xi ?_;refine zZq 4 Z ?_;refine gA 0 Z (i+1) ?_;refine zbq 2 Z ?_;skip
   refine qwq (i+1,s',.nil) ⟨hi1,trivial,done (by show 0<64;omega),(by show 0<64;omega)⟩ Yf (qgq ⟨rfl,rfl,rfl,rfl,rfl,rfl,rfl,trivial⟩ Z Z)
  |sl all base off=>
   obtain⟨ho1,ho2⟩:=hok';have hrl:(Rst.sl all base off).r.length=all.length-off:=by simp[Rst.r]
   refine z9q 4 Z ?_;refine gV 0 Z (show _=W.int .i64 ((all.length-off:Nat):Int) by first|rfl|(simp;done)) ?_;refine gS 3 Z (λh2=>?_) (λh2=>?_)
   ·have h64:64<=all.length-off:=by omega
    have hpa:purW (.arr all.length 1 (bN all))=true:=v1q all
    have hby:∀k,k<64->zYq 50 (.arr all.length 1 (bN all)) (off+0*1+k*1) 1 false=some (.int .u8 (.ofNat (atL (all.drop off) k))):=λk hk=>by
     have:=bN_at (l:=all) (i:=off+k) Xd;refine qHq ?_ rfl;rw[Nat.zero_mul,Nat.add_zero,Nat.mul_one,this];simp[atL,List.getD,List.getElem?_drop]
    have hr':(Rst.sl all off (off+64)).r=((Rst.sl all base off).r).drop 64:=by simp[Rst.r]
    refine gP 6 Z (cut_hi (h:=64) Z Z Z Z Z Z Z h64) ?_
    (refine z5q rfl (yNq (ext:=[1,2]) (ws:=[.ptr 0 0,.sl 1 base (off+0*1) (64-0) 1 none]) Z Z Z Z Z (λR=>block_s s' (atL (all.drop off)) (.arr all.length 1 (bN all)) base _ none 5 (zfq hpa) hby R) Xg Qf Xl (handed2 rfl (by rw[zoq hpa];rfl) rfl (zfq hpa)) Z ?_);rintro w hp1 nw1 ⟨rfl,rfl,rfl⟩)
    refine zpq 5 Z ?_;refine gP 0 Z (cut_lo (l:=64) Z Z Z Z Z Z Z h64 rfl) ?_;refine zbq 2 Z ?_;skip
    refine qwq (j5q (atL (all.drop off)) s',.sl all off (off+64)) ⟨⟨by omega,ho2⟩,?_⟩ (by simp only[hr'];simp only[hrl,List.length_drop];omega) (q2q Xd (Nat.le_refl _) ⟨rfl,rfl,rfl,rfl,?_,rfl,rfl,trivial⟩ (by simp only[List.all_cons,List.all_nil,zfq hPp,Bool.and_true];rfl) (qtq ⟨⟨by show 2<3;omega,by show some (5,renW _ (W.arr all.length 1 (bN all)))=_;rw[zoq hpa],zfq hpa⟩,⟨by show 1<3;omega,rfl,rfl⟩,⟨by show 0<3;omega,rfl,rfl⟩,trivial⟩) Yq)
    ·rw[hr',<-heat];exact(eats_more (r:=(Rst.sl all base off).r) (by rw[hrl];exact h64)).symm
    ·show some (W.sl 2 off (off+64*1) (all.length-off-64) 1 (qDq 64 none))=some (W.sl 2 off (off+64) (all.length-(off+64)) 1 none);rw[Nat.sub_sub];rfl
   ·have h64:all.length-off<64:=by omega
    refine zbq 2 Z ?_;refine q4q Xi ?_;refine zZq 4 Z ?_;refine gA 0 Z (i+1) ?_;refine zbq 2 Z ?_;skip
    refine qwq (i+1,s',.sl all base off) ⟨hi1,⟨ho1,ho2⟩,done (by rw[hrl];exact h64),by simp only[hrl];exact h64⟩ Yf (qgq ⟨rfl,rfl,rfl,rfl,rfl,rfl,rfl,trivial⟩ Z Z)
 ·simp only at hi hok hfold hr64;obtain rfl:i=ps.length:=by omega
  rw[show(ps.map (·.1)).take ps.length=ps.map (·.1) by rw[List.take_of_length_le Xl]] at hfold;have hT:(ps.map (·.1)).take ps.length=ps.map (·.1):=by rw[List.take_of_length_le Xl]
  have hdt:∀(all:List Nat) (off:Nat),((bN all).drop off).take (all.length-off)=bN (all.drop off):=λall off=>by
   rw[List.take_of_length_le (by simp[vfq])];simp[bN,List.map_drop]
  have bapp:∀a b:List Nat,bN a++bN b=bN (a++b):=λa b=>by simp[bN]
  have apur:∀all:List Nat,purW (.arr all.length 1 (bN all))=true:=λall=>v1q all
  refine zbq 2 Z ?_;refine q4q Xi ?_;refine zZq 2 Z ?_;refine co_cut (α:=Unit) (λ_=>True) (λ_=>[(5,.int .u64 (yTq (ps.map (·.1)):Int)),(4,.sl 2 0 0 (r.r++[128]).length 1 none),(3,.ptr 1 0),(2,.ptr 0 0)]) (λ_=>hpS (.sl (r.r++[128]) 0 0) vNq s) (λ_=>3) ?_ (λa ha=>?_)
  ·skip
   cases r with
   |nil=>
    refine z9q 3 Z ?_;refine gM 0 Z (ySq Z Z (uyq (news:=bN [128]) (k:=ti5) Z Z Z Z Z (by simp[bN]) Xg Xg)) ?_;refine zbq 2 Z ?_;refine⟨rfl,(),trivial,?_⟩;exact yPq (b:=2) (k:=3) Xd Xd (by show 3<4;omega) ⟨⟨by show some (W.int .u64 ((yTq ((ps.map (·.1)).take ps.length):Nat):Int))=_;rw[hT];rfl,rfl⟩,⟨rfl,rfl⟩,⟨rfl,rfl⟩,⟨rfl,rfl⟩,trivial⟩ ⟨⟨by omega,rfl,rfl⟩,⟨by omega,rfl,rfl⟩,⟨by omega,rfl,rfl⟩,trivial⟩ Yq
   |sl all base off=>
    obtain⟨ho1,ho2⟩:=hok;simp only[Rst.r,List.length_drop] at hr64;have hle:((Rst.sl all base off).r++[128]).length=all.length-off+1:=by simp[Rst.r]
    refine z9q 3 Z ?_;refine gM 0 Z (ySq Z Z (qEq (news:=bN [128]) (k:=ti5) (v:=.arr all.length 1 (bN all)) (off:=off) Z Z Z Z Z (by simp[bN]) (show(all.length-off+1)*1<=140737488355328 by omega) (show all.length-off+1<=70368744177664 by omega) rfl (show all.length<off+(all.length-off+1)*1 by omega) rfl (uEq Xd))) ?_;refine zbq 2 Z ?_;refine⟨rfl,(),trivial,?_⟩;refine yPq (b:=2) (k:=4) Xd Xd (by show 4<5;omega) ⟨⟨by show some (W.int .u64 ((yTq ((ps.map (·.1)).take ps.length):Nat):Int))=_;rw[hT];rfl,rfl⟩,⟨?_,rfl⟩,⟨rfl,rfl⟩,⟨rfl,rfl⟩,trivial⟩ ⟨⟨by omega,?_,zfq (apur _)⟩,⟨by omega,rfl,rfl⟩,⟨by omega,rfl,rfl⟩,trivial⟩ Yq
    ·rw[hle];rfl
    ·rw[zoq (apur _),hle,<-bapp];show some (5,W.arr ((all.length-off+1)*1) 1 (((bN all).drop off).take (all.length-off)++bN [128]))=_;rw[hdt,Nat.mul_one];rfl
  --noughts
  have htm:∀n:Nat,((n:Int)).tmod 64=((n%64:Nat):Int):=λn=>by rw[Int.tmod_eq_emod_of_nonneg Xd];omega
  have hA0:(r.r++[128]).length<=64:=by simp;omega
  generalize hA:r.r++[128]=A at*
  refine z9q 2 Z ?_;refine jbq (α:=Nat) (λj=>∀i,i<j->(A.length+i)%64≠56) (λj=>[(5,.int .u64 (yTq (ps.map (·.1)):Int)),(4,.sl 2 0 0 (A++List.replicate j 0).length 1 none),(3,.ptr 1 0),(2,.ptr 0 0)]) (λj=>hpS (.sl (A++List.replicate j 0) 0 0) vNq s) (λ_=>3) (λ_=>R) (λj=>64-j) 0 (λi hi=>absurd hi Xd) (by rw[List.replicate_zero,List.append_nil];exact Ent.refl) (λj hj=>?_);skip
  have hj64:j<64:=by
   refine Nat.lt_of_not_le λh=>?_
   have:=hj ((56+64-A.length%64)%64) Xd;omega
  have hlj:(A++List.replicate j 0).length=A.length+j:=by simp
  refine z9q 4 Z ?_;refine gV 0 Z (show _=W.int .i64 ((A++List.replicate j 0).length:Int) by first|rfl|(simp;done)) ?_;refine gV 0 Z (congrArg (W.int .i64) (htm _)) ?_;refine gS 3 Z (λh2=>?_) (λh2=>?_)
  ·have hne:(A.length+j)%64≠56:=by
    omega
   refine gM 6 Z (ySq Z Z (qEq (news:=bN [0]) (k:=ti5) (v:=.arr (A++List.replicate j 0).length 1 (bN (A++List.replicate j 0))) (off:=0) Z Z Z Z Z (by simp[bN]) (show((A++List.replicate j 0).length+1)*1<=140737488355328 by omega) (show(A++List.replicate j 0).length+1<=70368744177664 by omega) rfl (show(A++List.replicate j 0).length<0+((A++List.replicate j 0).length+1)*1 by omega) rfl (uEq Xd))) ?_;refine zbq 3 Z ?_;have hrep:A++List.replicate (j+1) 0=(A++List.replicate j 0)++[0]:=by rw[List.append_assoc,<-List.replicate_succ']
   skip
   refine qwq (j+1) (λi hi=>?_) Xd (yPq (b:=2) (k:=4) Xd Xd (by show 4<5;omega) ⟨⟨rfl,rfl⟩,⟨?_,rfl⟩,⟨rfl,rfl⟩,⟨rfl,rfl⟩,trivial⟩ ⟨⟨by omega,?_,zfq (apur _)⟩,⟨by omega,rfl,rfl⟩,⟨by omega,rfl,rfl⟩,trivial⟩ Yq)
   ·rcases Nat.lt_succ_iff_lt_or_eq.1 hi with h|rfl
    ·exact hj i h
    ·exact hne
   ·rw[hrep];exact mid1 _ 0
   ·rw[hrep];exact mid2 _ 0
  ·have he:(A.length+j)%64=56:=by
    omega
   have hpz:padZ 64 A=A++List.replicate j 0:=padZ_spec 64 j A hj he Xd;rw[<-hpz];have hBl:(padZ 64 A).length<200:=by rw[hpz,hlj];omega
   have hB64:(padZ 64 A).length%64=56:=by rw[hpz,hlj];exact he
   generalize hB:padZ 64 A=B at hBl hB64;refine zbq 2 Z ?_;refine q4q Xi ?_;refine zZq 9 Z ?_;have h8:∀k,k<=8->((len8 (yTq (ps.map (·.1)))).take k).length=k:=λk hk=>by simp[len8];omega
   refine jbq (α:=Nat) (λk=>k<=8) (λk=>[(8,.int .i64 (56-8*(k:Int))),(5,.int .u64 (yTq (ps.map (·.1)):Int)),(4,.sl 2 0 0 (B++(len8 (yTq (ps.map (·.1)))).take k).length 1 none),(3,.ptr 1 0),(2,.ptr 0 0)]) (λk=>hpS (.sl (B++(len8 (yTq (ps.map (·.1)))).take k) 0 0) vNq s) (λ_=>3) (λ_=>R) (λk=>8-k) 0 (Nat.zero_le _) (by rw[List.take_zero,List.append_nil];exact qgq ⟨rfl,rfl,rfl,rfl,rfl,trivial⟩ Z Z) (λk hk=>?_);skip
   refine z9q 7 Z ?_;refine gS 0 Z (λh3=>?_) (λh3=>?_)
   ·have hk8:k<8:=by omega
    have hLk:=h8 k hk;have hll:(B++(len8 (yTq (ps.map (·.1)))).take k).length=B.length+k:=by rw[List.length_append,hLk]
    have hnx:B++(len8 (yTq (ps.map (·.1)))).take (k+1)=(B++(len8 (yTq (ps.map (·.1)))).take k)++[Nat.shiftRight (8*yTq (ps.map (·.1))%18446744073709551616) (min (56-8*k) 64)%256]:=by
     rw[List.take_add_one,<-List.append_assoc];congr 1
     have hq:k=0\/k=1\/k=2\/k=3\/k=4\/k=5\/k=6\/k=7:=by omega
     rcases hq with rfl|rfl|rfl|rfl|rfl|rfl|rfl|rfl<;>rfl
    have hw8:qlq .i64 (56-8*(k:Int) -8)=56-8*(k:Int) -8:=uAq (k:=.i64) ⟨by omega,by omega⟩;refine gV 8 Z (show W.int .i64 (56-8*(k:Int))=W.int .i64 ((56-8*k:Nat):Int) by congr 1;omega) ?_;refine gM 3 Z (ySq Z Z (qEq (news:=bN [Nat.shiftRight (8*yTq (ps.map (·.1))%18446744073709551616) (min (56-8*k) 64)%256]) (k:=ti5) (v:=.arr (B++(len8 (yTq (ps.map (·.1)))).take k).length 1 (bN (B++(len8 (yTq (ps.map (·.1)))).take k))) (off:=0) Z Z Z Z Z (by simp[bN]) (show((B++(len8 (yTq (ps.map (·.1)))).take k).length+1)*1<=140737488355328 by omega) (show(B++(len8 (yTq (ps.map (·.1)))).take k).length+1<=70368744177664 by omega) rfl (show(B++(len8 (yTq (ps.map (·.1)))).take k).length<0+((B++(len8 (yTq (ps.map (·.1)))).take k).length+1)*1 by omega) rfl (uEq Xd))) ?_;refine zbq 6 Z ?_;refine jyq (w:=W.int .i64 (qlq .i64 (56-8*(k:Int) -8))) Z Z (show _=W.int .i64 (56-8*((k+1:Nat):Int)) by rw[hw8];congr 1;omega) ?_;refine run_p 2 Z ?_;skip
    refine qwq (k+1) Xd Xd (yPq (b:=2) (k:=4) Xd Xd (by show 4<5;omega) ⟨⟨rfl,rfl⟩,⟨rfl,rfl⟩,⟨?_,rfl⟩,⟨rfl,rfl⟩,⟨rfl,rfl⟩,trivial⟩ ⟨⟨by omega,?_,zfq (apur _)⟩,⟨by omega,rfl,rfl⟩,⟨by omega,rfl,rfl⟩,trivial⟩ Yq)
    ·rw[hnx];exact mid1 _ _
    ·rw[hnx];exact mid2 _ _
   ·obtain rfl:k=8:=by omega
    have ht8:(len8 (yTq (ps.map (·.1)))).take 8=len8 (yTq (ps.map (·.1))):=rfl;rw[ht8];have hMl:(B++len8 (yTq (ps.map (·.1)))).length=B.length+8:=by simp[len8]
    have hsha:shaN (ps.map (·.1))=digN (jqq (B++len8 (yTq (ps.map (·.1)))).length s (B++len8 (yTq (ps.map (·.1))))):=by
     simp only[shaN,<-hfold,hA,hB]
    generalize hM:B++len8 (yTq (ps.map (·.1)))=M at hMl hsha;refine zbq 2 Z ?_;refine q4q Xi ?_;refine zZq 4 Z ?_;refine jbq (α:=S8×Nat×Nat) (λb=>b.2.2<=M.length/\(M.length-b.2.2)%64=0/\jqq M.length s M=jqq (M.drop b.2.2).length b.1 (M.drop b.2.2)) (λb=>[(4,.sl 2 b.2.1 b.2.2 (M.length-b.2.2) 1 none),(3,.ptr 1 0),(2,.ptr 0 0)]) (λb=>hpS (.sl M b.2.1 b.2.2) vNq b.1) (λ_=>3) (λ_=>R) (λb=>M.length-b.2.2) (s,0,0) ⟨Nat.zero_le _,by show(M.length-0)%64=0;omega,rfl⟩ (qgq ⟨rfl,rfl,rfl,trivial⟩ Z Z) (λb hb5=>?_);skip
    obtain⟨s',base,off⟩:=b;obtain⟨ho,hmod,heat⟩:=hb5;simp only at ho hmod heat;refine z9q 4 Z ?_;refine gV 0 Z (show _=W.int .i64 ((M.length-off:Nat):Int) by first|rfl|(simp;done)) ?_;refine gS 3 Z (λh4=>?_) (λh4=>?_)
    ·have h1:1<=M.length-off:=by omega
     have h64:64<=M.length-off:=by omega
     have hpa:purW (.arr M.length 1 (bN M))=true:=v1q M
     have hby:∀k,k<64->zYq 50 (.arr M.length 1 (bN M)) (off+0*1+k*1) 1 false=some (.int .u8 (.ofNat (atL (M.drop off) k))):=λk hk=>by
      have:=bN_at (l:=M) (i:=off+k) Xd;refine qHq ?_ rfl;rw[Nat.zero_mul,Nat.add_zero,Nat.mul_one,this];simp[atL,List.getD,List.getElem?_drop]
     refine gP 6 Z (cut_hi (h:=64) Z Z Z Z Z Z Z h64) ?_
     (refine z5q rfl (yNq (ext:=[1,2]) (ws:=[.ptr 0 0,.sl 1 base (off+0*1) (64-0) 1 none]) Z Z Z Z Z (λR=>block_s s' (atL (M.drop off)) (.arr M.length 1 (bN M)) base _ none 5 (zfq hpa) hby R) Xg Qf Xl (handed2 rfl (by rw[zoq hpa];rfl) rfl (zfq hpa)) Z ?_);rintro w hp1 nw1 ⟨rfl,rfl,rfl⟩)
     refine zpq 5 Z ?_;refine gP 0 Z (cut_lo (l:=64) Z Z Z Z Z Z Z h64 rfl) ?_;refine zbq 2 Z ?_;skip
     refine qwq (j5q (atL (M.drop off)) s',off,off+64) ⟨by simp only;omega,by simp only;omega,?_⟩ Yf (q2q Xd (Nat.le_refl _) ⟨?_,rfl,rfl,trivial⟩ rfl (qtq ⟨⟨by omega,by show some (5,renW _ (W.arr M.length 1 (bN M)))=_;rw[zoq hpa],zfq hpa⟩,⟨by omega,rfl,rfl⟩,⟨by omega,rfl,rfl⟩,trivial⟩) Yq)
     ·rw[heat,eatAll_step Xo,List.drop_drop]
     ·show some (W.sl 2 off (off+64*1) (M.length-off-64) 1 (qDq 64 none))=some (W.sl 2 off (off+64) (M.length-(off+64)) 1 none);rw[Nat.sub_sub];rfl
    ·have h0:M.length-off=0:=by omega
     have hend:jqq M.length s M=s':=by
      rw[heat,List.drop_of_length_le Xd];rfl
     rw[hend] at hsha;refine zbq 2 Z ?_;refine q4q Xi ?_;refine zZq 9 Z ?_;have htd4:∀n:Nat,((n:Int)).tdiv 4=((n/4:Nat):Int):=λn=>by rw[Int.tdiv_eq_ediv_of_nonneg Xd];omega
     have htm4:∀n:Nat,((n:Int)).tmod 4=((n%4:Nat):Int):=λn=>by rw[Int.tmod_eq_emod_of_nonneg Xd];omega
     refine jbq (α:=Nat) (λi=>i<=32) (λi=>[(64,.int .i64 (i:Int)),(3,.ptr 1 0),(2,.ptr 0 0)]) (λi=>hpS (.sl M base off) (.arr 32 1 (bN (dI s' i))) s') (λ_=>3) (λ_=>R) (λi=>32-i) 0 (Nat.zero_le _) (qgq ⟨rfl,rfl,rfl,trivial⟩ Z Z) (λi hi=>?_);skip
     refine z9q 6 Z ?_;refine gS 0 Z (λh5=>?_) (λh5=>?_)
     ·have hi32:i<32:=by omega
      refine gA 13 Z (i/4) (e:=(htd4 i)) ?_;refine gP 0 Z (kdq (i:=i/4) Z Z Z Z Z Z Xd) ?_;refine gM 0 Z (yiq Z Z Z (qHq (S8_at s' Xd) rfl)) ?_;refine gV 1 Z (congrArg (W.int .i64) (htm4 i)) ?_;refine gA 0 Z (8*(i%4)) ?_;refine gA 0 Z (24-8*(i%4)) ?_;refine gP 2 Z (kdq (i:=i) Z Z Z Z Z Z Xd) ?_;refine gM 0 Z (qhq Z Z Z Z Z (kRq (dI_at s' hi32) Z Z) rfl) ?_;refine gWr 4 Z ?_;refine zbq 2 Z ?_;skip
      refine qwq (i+1) Xd Xd (qgq ⟨rfl,rfl,rfl,trivial⟩ ?_ rfl);exact congrArg (λL=>hpS (.sl M base off) (.arr 32 1 L) s') (dI_set s' hi32)
     ·obtain rfl:i=32:=by omega
      refine zbq 2 Z ?_;refine q4q Xi ?_;refine zZq 9 Z ?_;refine fin Qm Ent.refl rfl ⟨rfl,?_⟩;rw[hsha];have:dI s' 32=digN s':=by simp[dI,List.take_of_length_le,Zmq]
      rw[<-this]
end
section
attribute [local irreducible] CoW OpW FlW Step Spec
theorem bytes_bN(l:List UInt8):zcq l=bN (l.map UInt8.toNat):=by simp[zcq,bN]
theorem shaN_l(ps:List (List Nat)):(shaN ps).length=32:=by simp[shaN,digN]
theorem shaN_lt(ps:List (List Nat)):∀n∈shaN ps,n<256:=λn h=>by
 simp only[shaN,digN,List.mem_map] at h;obtain⟨i,_,rfl⟩:=h;exact Nat.mod_lt _ Xg
noncomputable def shaD(ps:List (List UInt8)):Dig:=⟨(shaN (ps.map λp=>p.map UInt8.toNat)).map UInt8.ofNat,by simp[shaN_l]⟩
theorem bytes_of{l:List Nat}(h:∀n∈l,n<256):zcq (l.map UInt8.ofNat)=bN l:=by
 rw[bytes_bN,List.map_map];congr 1
 conv=>rhs;rw[<-List.map_id l]
 refine List.map_congr_left λn hn=>?_
 have:=h n hn;simp;omega
theorem sha_s(ps:List (List UInt8×Bool))(f:Bool)(hb:((ps.map (·.1)).map List.length).foldr (· + ·) 0<2147483648)(hn:ps.length<2147483648):PS cfg glK 137 [.fz (ps.map λp=>.fz (zcq p.1) 1 p.2) 1 f] (dW (shaD (ps.map (·.1)))):=λR=>by
 have e1:(ps.map λp=>(p.1.map UInt8.toNat,p.2)).map x2q=ps.map λp=>.fz (zcq p.1) 1 p.2:=by simp[x2q,bytes_bN]
 have e2:(ps.map λp=>(p.1.map UInt8.toNat,p.2)).map (·.1)=(ps.map (·.1)).map λp=>p.map UInt8.toNat:=by simp
 have h:=of_s (kfn:=runK (okTab 1 kA)) (ps.map λp=>(p.1.map UInt8.toNat,p.2)) f (by rw[e2];show(List.map List.length _).foldr _ 0<_;rw[List.map_map];simpa[Function.comp_def] using hb) (by simpa using hn) R;rw[e1,e2] at h
 have e3:dW (shaD (ps.map (·.1)))= .arr 32 1 (bN (shaN ((ps.map (·.1)).map λp=>p.map UInt8.toNat))):=by
  show W.arr 32 1 (zcq _)=_;rw[<-bytes_of (shaN_lt _)];rfl
 show Spec cfg glK _ 0 _ [] R λw hp nw R'=>R'=R/\w=dW (shaD (ps.map (·.1)))
 rw[e3];exact h
def ZQq(p:List UInt8):List UInt8:=beB 4 (p.length%4294967296)++p
def tagB(kind:UInt8)(ps:List (List UInt8)):List UInt8:=kind::ps.flatMap ZQq
variable {G:Nat->Option W}
@[simp] theorem bWs_pur(ps:List (List UInt8)):purL (ps.map bW)=true:=zPq (λx=>by simp) ps
theorem flat_le{m:Nat}:∀{ps:List (List UInt8)} (i:Nat),(∀p∈ps,p.length<m) ->((ps.take i).flatMap ZQq).length<=i*(m+4)
 |[],i,_=>by simp
 |p::ps,0,_=>by simp
 |p::ps,i+1,h=>by
  have h1:=flat_le (ps:=ps) i λq hq=>h q (List.mem_cons_of_mem _ hq)
  have h2:=h p (List.mem_cons_self ..);simp only[List.take_succ_cons,List.flatMap_cons,List.length_append,ZQq,k7q,Nat.succ_mul];omega
theorem tbytes_s(kind:UInt8)(ps:List (List UInt8))(f:Bool)(hn:ps.length<1000000)(hb:∀p∈ps,p.length<1000000):PS cfg G 138 [.int .u8 (.ofNat kind.toNat),.fz (ps.map bW) 1 f] (bW (tagB kind ps)):=by
 have e:(ps.map bW).length=ps.length:=List.length_map _;refine gIv 16 Z (λR k0=>?_);refine gV (w':=.int .i64 (ps.length:Int)) 0 Z Xx ?_;refine zbq 4 Z ?_;refine co_loopG1 (α:=Nat) (λi=>i<=ps.length) 5 (λi=>zcq (kind::(ps.take i).flatMap ZQq)) 5 1 (λi=>[(14,.int .i64 (i:Int))]) [(4,_),(12,_),(13,_)] ([]) 0 0 (λi=>ps.length-i) (0) ⟨rfl,rfl,rfl,trivial⟩ (Nat.zero_le _) ⟨rfl,trivial⟩ Xd Xd Yx (by simp[zcq]) rfl (by simp[zcq]) Xh Xh rfl Xn Xk Xz (λi hI=>?_);refine z9q 6 Z ?_;refine gS 0 Z (λh1=>?_) (λh1=>?_)
 ·have hi:i<ps.length:=by omega
  obtain⟨x,hx⟩:∃x,ps[i]? =some x:=⟨_,List.getElem?_eq_getElem hi⟩
  have hxl:=hb x (List.mem_of_getElem? hx);have hfl:((ps.take i).flatMap ZQq).length<=i*1000004:=flat_le i hb;have hL:(zcq (kind::(ps.take i).flatMap ZQq)).length<=1+i*1000004:=by rw[zqq,List.length_cons];omega
  have hN:(zcq (beB 4 x.length)).length=4:=by rw[zqq,k7q]
  have hnx:zcq (kind::(ps.take (i+1)).flatMap ZQq)=(zcq (kind::(ps.take i).flatMap ZQq)++zcq (beB 4 x.length))++zcq x:=by
   rw[List.take_add_one,hx,<-jJq,<-jJq];congr 1
   simp[ZQq,Nat.mod_eq_of_lt (show x.length<4294967296 by omega)]
  skip
  cases x with
  |nil=>
   refine zLq 6 Z ?_;refine gP 0 Z (zGq (i:=i) Z Z Z Z Z Z Z (znq bW hx)) ?_;refine gV (w':=.int .i64 (([]:List UInt8).length:Int)) 7 Z (by show W.int .i64 ((zcq (([]:List UInt8))).length:Int)=_;rw[zqq]) ?_;refine gWr 0 Z ?_;refine gWr 0 Z ?_
   (refine z5q rfl (jhq Z Z Z Z Z Z (put_s ([]:List UInt8).length 4 Xd Xd (by show([]:List UInt8).length<4294967296;omega)) ?_);rintro w hp1 nw1 ⟨rfl,rfl,rfl⟩)
   refine zpq 10 Z ?_;refine gM 0 Z (ySq Z Z (Qnq [_] (k:=ti5) (news:=zcq (beB 4 ([]:List UInt8).length)) Z Z Z Z Z (uIq Z Z Z (zJq Xg hN.symm rfl)) Yo (by rw[hN];show(_+4)*1<=_;omega) (by rw[hN];omega) rfl (by simp[numC]))) ?_;refine gM 1 Z (ySq Z Z (jdq (k:=ti5) Z Z Z Z Z)) ?_;refine gWr 5 Z ?_;refine zbq 2 Z ?_;exact uQq 2 (i+1) (hi) Xd (Nat.zero_le _) (by rw[hnx];exact List.append_nil _) Yb Xd Yx rfl Yd ⟨rfl,trivial⟩ ⟨rfl,rfl,rfl,trivial⟩ Xh Xh rfl Xn Xk Xz
  |cons c x=>
   refine zLq 6 Z ?_;refine gP 0 Z (zGq (i:=i) Z Z Z Z Z Z Z (znq bW hx)) ?_;refine gV (w':=.int .i64 ((c::x).length:Int)) 7 Z (by show W.int .i64 ((zcq ((c::x))).length:Int)=_;rw[zqq]) ?_;refine gWr 0 Z ?_;refine gWr 0 Z ?_
   (refine z5q rfl (jhq Z Z Z Z Z Z (put_s (c::x).length 4 Xd Xd (by show(c::x).length<4294967296;omega)) ?_);rintro w hp1 nw1 ⟨rfl,rfl,rfl⟩)
   refine zpq 10 Z ?_;refine gM 0 Z (ySq Z Z (Qnq [_] (k:=ti5) (news:=zcq (beB 4 (c::x).length)) Z Z Z Z Z (uIq Z Z Z (zJq Xg hN.symm rfl)) Yo (by rw[hN];show(_+4)*1<=_;omega) (by rw[hN];omega) rfl (by simp[numC]))) ?_;refine gM 1 Z (ySq Z Z (qEq (k:=ti5) (len:=(zcq (kind::(ps.take i).flatMap ZQq)++zcq (beB 4 (c::x).length)).length) (news:=zcq (c::x)) (olds:=zcq (kind::(ps.take i).flatMap ZQq)++zcq (beB 4 (c::x).length)) Z Z Z Z Z (by simp[zcq]) (by rw[List.length_append,hN,zqq (c::x)];show(_+_)*1<=_;omega) (by rw[List.length_append,hN,zqq (c::x)];omega) rfl (by show(_++_:List W).length*1<0+((_++_:List W).length+(zcq (c::x)).length)*1;rw[zqq (c::x),List.length_cons];omega) rfl (zJq Xg Z Z))) ?_;refine gWr 5 Z ?_;refine zbq 2 Z ?_;exact uQq 3 (i+1) (hi) Xd (Nat.zero_le _) (hnx) Yb Xd Yx rfl Yd ⟨rfl,trivial⟩ ⟨rfl,rfl,rfl,trivial⟩ Xh Xh rfl Xn Xk Xz
 ·have hi:i=ps.length:=by omega
  subst hi;refine zbq 2 Z ?_;refine q4q Xi ?_;refine zZq 9 Z ?_;refine k0q Xr Z ?_;rw[List.take_length];exact view_g (H0:=[]) Xg Xl Xl
theorem tag_le{m:Nat}(kind:UInt8)(ps:List (List UInt8))(h:∀p∈ps,p.length<m):(tagB kind ps).length<=1+ps.length*(m+4):=by
 have:=flat_le (m:=m) ps.length h;rw[List.take_length] at this;simp only[tagB,List.length_cons];omega
noncomputable def tagD(kind:UInt8)(ps:List (List UInt8)):Dig:=shaD [tagB kind ps]
theorem tagof_s(kind:UInt8)(ps:List (List UInt8))(f:Bool)(hn:ps.length<1000)(hb:∀p∈ps,p.length<1000000):PS cfg glK 63 [.int .u8 (.ofNat kind.toNat),.fz (ps.map bW) 1 f] (dW (tagD kind ps)):=by
 have hl:=tag_le kind ps hb;refine gI 9 Z (λR k0=>gC 0 Z (tbytes_s kind ps f Xd hb) (zbq 1 Z ?_));refine op_lk Z Z Z Z Z (by(repeat (first|exact .nil|refine .cons ?_ ?_|(refine .sl Z ?_ rfl Xi;first|rfl|(focus (simp;done)))|(refine qFq Z ?_ rfl;first|rfl|(focus (simp;done)))|(refine .pur ?_;first|rfl|(focus (simp;done)))))) (sha_s [(tagB kind ps,false)] false Xo Xl) Xn Xn ?_;exact zpq 4 Z (gQa 0 Z)
noncomputable def keyD(k:Dig):Dig:=tagD 3 [k.1]
theorem key_s(k:Dig):PS cfg glK 41 [dW k] (dW (keyD k)):=by
 exact gI 10 Z (λR k0=>op_lk Z Z Z Z Z (.cons (.pur rfl) (.cons (.sl2 (full:=false) rfl (.arr (.cons (.sl (full:=false) (xs:=zcq k.1) rfl Xl (zJq Xg (by simp[zqq,k.2]) rfl) Xi) .nil)) rfl Xi) .nil)) (tagof_s 3 [k.1] false Xl (by simp[k.2])) Xn Xn (zpq 4 Z (gQa 0 Z)))
end
section
attribute [local irreducible] CoW OpW FlW Step Spec
variable {G:Nat->Option W}
structure Tx where
 pub:Dig
 to:Dig
 nonce:Nat
 amount:Nat
 fee:Nat
 sign:Dig
noncomputable def txW(x:Tx):W:=.agg 99 [dW x.pub,dW x.to,.int .u64 (x.nonce:Int),.int .u64 (x.amount:Int),.int .u64 (x.fee:Int),dW x.sign]
@[simp] theorem Qyq(x:Tx):purW (txW x)=true:=by simp[txW]
structure Tx.ok(x:Tx):Prop where
 nonce:x.nonce<18446744073709551616
 amount:x.amount<18446744073709551616
 fee:x.fee<18446744073709551616
def k6q(x:Tx):List UInt8:=(x.pub.1++x.to.1)++[x.nonce,x.amount,x.fee].flatMap (beB 8)
theorem body1_s(d:Dig):PS cfg G 225 [dW d] (bW d.1):=by
 exact gIv 13 Z (λR k0=>k0q Qm rfl (.sl (full:=false) (xs:=zcq d.1) rfl Xl (zJq Xg (by simp[zqq,d.2]) rfl) Xi))
theorem body2_s(n:Nat)(hn:n<18446744073709551616):PS cfg G 227 [.int .u64 (n:Int)] (bW (beB 8 n)):=by
 refine gIv 8 Z (λR k0=>?_)
 (refine z5q rfl (jhq Z Z Z Z Z Z (put_s n 8 Xd Xd (by show n<18446744073709551616;omega)) ?_);rintro w hp1 nw1 ⟨rfl,rfl,rfl⟩)
 exact zpq 14 Z (k0q Qm rfl (.sl (full:=false) (c:=.arr (8*1) 1 (zcq (beB 8 n))) (xs:=zcq (beB 8 n)) rfl Xl (zJq Xg (by rw[zqq,k7q]) rfl) Xi))
theorem flat_app{ds:List Dig}{i:Nat}{d:Dig}(h:ds[i]? =some d):zcq ((ds.take (i+1)).flatMap (·.1))=zcq ((ds.take i).flatMap (·.1))++zcq d.1:=by
 rw[List.take_add_one,h,<-jJq];congr 1
 simp
theorem flat_dig:∀(ds:List Dig) (i:Nat),((ds.take i).flatMap (·.1)).length<=i*32
 |[],i=>by simp
 |d::ds,0=>by simp
 |d::ds,i+1=>by
  have:=flat_dig ds i;simp only[List.take_succ_cons,List.flatMap_cons,List.length_append,d.2,Nat.succ_mul];omega
@[simp] theorem dWs_pur(ds:List Dig):purL (ds.map dW)=true:=zPq (λx=>by simp) ds
theorem putd_s(ds:List Dig)(f:Bool)(hn:ds.length<1000):PL cfg G 224 [.nils,.fz (ds.map dW) 32 f,.fn 225 [] []] 5 1 (zcq (ds.flatMap (·.1))):=by
 have e:(ds.map dW).length=ds.length:=List.length_map _;intro R;refine gIs 9 Z (λk0=>?_);refine gV (w':=.int .i64 (ds.length:Int)) 0 Z Xx (zbq 4 Z ?_);refine Jsq (α:=Nat) (λi=>i<=ds.length) 0 (λi=>zcq ((ds.take i).flatMap (·.1))) 5 1 (λi=>[(11,.int .i64 (i:Int))]) [(2,_),(6,_),(9,_),(10,_)] _ (λi=>ds.length-i) (0) ⟨rfl,rfl,rfl,rfl,trivial⟩ (Nat.zero_le _) ⟨rfl,trivial⟩ Z Z Z (λi hI=>?_);refine z9q 6 Z ?_;refine gS 0 Z (λh1=>?_) (λh1=>?_)
 ·have hi:i<ds.length:=by omega
  obtain⟨d,hd⟩:∃d,ds[i]? =some d:=⟨_,List.getElem?_eq_getElem hi⟩
  have hN:(zcq d.1).length=32:=by rw[zqq,d.2]
  have hne:zcq ((ds.take i).flatMap (·.1))++zcq d.1≠[]:=λh=>by have:=congrArg List.length h;rw[List.length_append,hN] at this;simp at this
  have hL:(zcq ((ds.take i).flatMap (·.1))).length<=i*32:=by rw[zqq];exact flat_dig ds i
  exact gP 6 Z (zGq (i:=i) Z Z Z Z Z Z Z (znq dW hd)) (gC 9 Z (body1_s d) (gM 0 Z (ySq Z Z (Qnq [_] (k:=ti5) (news:=zcq d.1) Z Z Z Z Z Z Yo (by rw[hN];show(_+32)*1<=_;omega) (by rw[hN];omega) rfl Xl)) (gWr 5 Z (zbq 2 Z (uQq 2 (i+1) (hi) Xd (Nat.zero_le _) (flat_app hd) Yb Xd Yx rfl Yd ⟨rfl,trivial⟩ ⟨rfl,rfl,rfl,rfl,trivial⟩ Xh Xh rfl Xn Xk Xz)))))
 ·have hi:i=ds.length:=by omega
  subst hi;refine zbq 2 Z (q4q Xi (zZq 9 Z ?_));rw[List.take_length];exact fin Qm (qgq (fr2:=[(6,gW 0 1 (zcq (ds.flatMap (·.1))))]) ⟨rfl,trivial⟩ Z Z) rfl ⟨rfl,rfl,rfl,rfl⟩
theorem flat_num:∀(ns:List Nat) (i:Nat),((ns.take i).flatMap (beB 8)).length<=i*8
 |[],i=>by simp
 |d::ds,0=>by simp
 |d::ds,i+1=>by
  have:=flat_num ds i;simp only[List.take_succ_cons,List.flatMap_cons,List.length_append,k7q,Nat.succ_mul];omega
noncomputable def uW(n:Nat):W:=.int .u64 (n:Int)
@[simp] theorem uWs_pur(ns:List Nat):purL (ns.map uW)=true:=zPq (λx=>rfl) ns
noncomputable def thr(i:Nat):Nat:=match i with
 |0=>0
 |_+1=>1
theorem putu_s(l:List UInt8)(hl0:l≠[])(hl:l.length<100000)(ns:List Nat)(f:Bool)(hn:ns.length<1000)(hns:ns≠[])(hu:∀n∈ns,n<18446744073709551616):qbq cfg G 226 1 [.sl 0 0 0 l.length 1 none,.fz (ns.map uW) 1 f,.fn 227 [] []] [(0,5,.arr l.length 1 (zcq l))] λw hp nw=>w= .sl 1 0 0 (l++ns.flatMap (beB 8)).length 1 none/\hp=[(1,5,.arr (l++ns.flatMap (beB 8)).length 1 (zcq (l++ns.flatMap (beB 8))))]/\nw=2:=by
 have e:(ns.map uW).length=ns.length:=List.length_map _;intro R;refine gIs 9 Z (λk0=>?_);refine gV (w':=.int .i64 (ns.length:Int)) 0 Z Xx (zbq 4 Z ?_);refine jbq (α:=Nat) (λi=>i<=ns.length) (λi=>[(11,.int .i64 (i:Int)),(0,.sl (thr i) 0 0 (l++(ns.take i).flatMap (beB 8)).length 1 none),(2,.fn 227 [] []),(6,.nils),(9,.fz (ns.map uW) 1 f),(10,.int .i64 (ns.length:Int))]) (λi=>[(thr i,5,.arr (l++(ns.take i).flatMap (beB 8)).length 1 (zcq (l++(ns.take i).flatMap (beB 8))))]) (λi=>thr i+1) (λ_=>R) (λi=>ns.length-i) 0 (Nat.zero_le _) (qgq ⟨rfl,by show some (W.sl 0 0 0 l.length 1 none)=some (W.sl 0 0 0 (l++[]).length 1 none);rw[List.append_nil],rfl,rfl,rfl,rfl,trivial⟩ (by simp[thr]) rfl) (λi hI=>?_);skip
 refine z9q 6 Z ?_;refine gS 0 Z (λh1=>?_) (λh1=>?_)
 ·have hi:i<ns.length:=by omega
  obtain⟨u,hu0⟩:∃u,ns[i]? =some u:=⟨_,List.getElem?_eq_getElem hi⟩
  have hu1:=hu u (List.mem_of_getElem? hu0);have hN:(zcq (beB 8 u)).length=8:=by rw[zqq,k7q]
  have hL:(l++(ns.take i).flatMap (beB 8)).length<=100000+i*8:=by have:=flat_num ns i;rw[List.length_append];omega
  have hnx:l++(ns.take (i+1)).flatMap (beB 8)=(l++(ns.take i).flatMap (beB 8))++beB 8 u:=by rw[List.take_add_one,hu0];simp
  have hlen:(l++(ns.take i).flatMap (beB 8)).length+(zcq (beB 8 u)).length=(l++(ns.take (i+1)).flatMap (beB 8)).length:=by rw[hnx,List.length_append (bs:=beB 8 u),zqq]
  have hby:zcq (l++(ns.take i).flatMap (beB 8))++zcq (beB 8 u)=zcq (l++(ns.take (i+1)).flatMap (beB 8)):=by rw[hnx,jJq (b:=beB 8 u)]
  skip
  cases i with
  |zero=>
   refine zLq 6 Z (gP 0 Z (zGq (i:=0) Z Z Z Z Z Z Z (znq uW hu0)) (gC 8 Z (body2_s u hu1) (gM 0 Z (ySq Z Z (qEq (k:=ti5) (len:=(l++(ns.take 0).flatMap (beB 8)).length) (news:=zcq (beB 8 u)) (olds:=zcq (l++(ns.take 0).flatMap (beB 8))) Z Z Z Z Z Yo (by rw[hN];show(_+8)*1<=_;omega) (by rw[hN];omega) rfl (by rw[hN];show(l++(ns.take 0).flatMap (beB 8)).length<0+(_+8)*1;omega) rfl (zJq Xg (zqq _).symm (Nat.mul_one _).symm))) (gA 5 Z (0+1) (zbq 2 Z ?_)))));skip
   refine qwq 1 hi Xd (qgq ⟨rfl,?_,rfl,rfl,rfl,rfl,trivial⟩ ?_ rfl)
   ·show some (W.sl 1 0 0 ((l++(ns.take 0).flatMap (beB 8)).length+(zcq (beB 8 u)).length) 1 none)=some (W.sl 1 0 0 (l++(ns.take (0+1)).flatMap (beB 8)).length 1 none);rw[hlen]
   ·show [(1,5,W.arr (((l++(ns.take 0).flatMap (beB 8)).length+(zcq (beB 8 u)).length)*1) 1 (zcq (l++(ns.take 0).flatMap (beB 8))++zcq (beB 8 u)))]=[(1,5,W.arr (l++(ns.take (0+1)).flatMap (beB 8)).length 1 (zcq (l++(ns.take (0+1)).flatMap (beB 8))))];rw[hlen,hby,Nat.mul_one]
  |succ i=>
   refine zLq 6 Z (gP 0 Z (zGq (i:=(i+1)) Z Z Z Z Z Z Z (znq uW hu0)) (gC 8 Z (body2_s u hu1) (gM 0 Z (ySq Z Z (qEq (k:=ti5) (len:=(l++(ns.take (i+1)).flatMap (beB 8)).length) (news:=zcq (beB 8 u)) (olds:=zcq (l++(ns.take (i+1)).flatMap (beB 8))) Z Z Z Z Z Yo (by rw[hN];show(_+8)*1<=_;omega) (by rw[hN];omega) rfl (by rw[hN];show(l++(ns.take (i+1)).flatMap (beB 8)).length<0+(_+8)*1;omega) rfl (zJq Xg (zqq _).symm (Nat.mul_one _).symm))) (gA 5 Z ((i+1)+1) (zbq 2 Z ?_)))));skip
   refine qwq (i+1+1) hi (show ns.length-(i+1+1)<ns.length-(i+1) by omega) ?_;refine(yPq (b:=1) (k:=2) Xd Xd (by show 2<3;omega) ⟨⟨rfl,rfl⟩,⟨?_,rfl⟩,⟨rfl,rfl⟩,⟨rfl,rfl⟩,⟨by rw[zoq (show purW (.fz (ns.map uW) 1 f)=true from uWs_pur ns)];rfl,zfq (show purW (.fz (ns.map uW) 1 f)=true from uWs_pur ns)⟩,⟨rfl,rfl⟩,trivial⟩ ⟨⟨by show 1<2;omega,?_,zfq (show purW (.arr _ 1 (zcq _))=true from qOq _)⟩,trivial⟩ Xl)
   ·show some (W.sl 2 0 0 ((l++(ns.take (i+1)).flatMap (beB 8)).length+(zcq (beB 8 u)).length) 1 none)=some (W.sl 2 0 0 (l++(ns.take (i+1+1)).flatMap (beB 8)).length 1 none);rw[hlen]
   ·show some (5,W.arr (((l++(ns.take (i+1)).flatMap (beB 8)).length+(zcq (beB 8 u)).length)*1) 1 (zcq (l++(ns.take (i+1)).flatMap (beB 8))++zcq (beB 8 u)))=some (5,renW _ (W.arr (l++(ns.take (i+1+1)).flatMap (beB 8)).length 1 (zcq (l++(ns.take (i+1+1)).flatMap (beB 8)))));rw[zoq (show purW (.arr _ 1 (zcq _))=true from qOq _),hlen,hby,Nat.mul_one]
 ·have hi:i=ns.length:=by omega
  subst hi;refine zbq 2 Z (q4q Xi (zZq 9 Z ?_));rw[List.take_length];cases ns with
  |nil=>exact absurd rfl hns
  |cons a r=>
   exact fin Qm (qgq (fr2:=[(6,.sl 1 0 0 (l++(a::r).flatMap (beB 8)).length 1 none)]) ⟨rfl,trivial⟩ Z Z) rfl ⟨rfl,rfl,rfl,rfl⟩
theorem put2_s(a b:Dig)(f:Bool):qbq cfg G 224 0 [.nils,.fz [dW a,dW b] 32 f,.fn 225 [] []] [] λw hp nw=>w= .sl 0 0 0 (a.1++b.1).length 1 none/\hp=[(0,5,.arr (a.1++b.1).length 1 (zcq (a.1++b.1)))]/\nw=1:=by
 refine kwq (putd_s [a,b] f Xl) λw hp nw h=>?_
 obtain⟨rfl,rfl,rfl⟩:=h;have e:[a,b].flatMap (·.1)=a.1++b.1:=by simp
 have hl:(zcq (a.1++b.1)).length=64:=by rw[zqq,List.length_append,a.2,b.2]
 have hne:zcq (a.1++b.1)≠[]:=λh=>by rw[h] at hl;cases hl
 rw[e,xtq hne,xuq hne,zqq,Nat.mul_one];exact⟨rfl,rfl,rfl⟩
theorem body_len(x:Tx):(k6q x).length=88:=by simp[k6q,x.pub.2,x.to.2,k7q]
theorem bodyL_s(x:Tx)(hx:x.ok):PL cfg G 184 [txW x] 5 1 (zcq (k6q x)):=by
 have hl:(x.pub.1++x.to.1).length=64:=by rw[List.length_append,x.pub.2,x.to.2]
 have hb:=body_len x
 have hns:∀n∈[x.nonce,x.amount,x.fee],n<18446744073709551616:=λn hn=>by
  simp only[List.mem_cons,List.not_mem_nil,or_false] at hn;rcases hn with rfl|rfl|rfl
  ·exact hx.nonce
  ·exact hx.amount
  ·exact hx.fee
 have hpa:purW (.arr (x.pub.1++x.to.1).length 1 (zcq (x.pub.1++x.to.1)))=true:=qOq _;intro R;refine gIs 13 Z (λk0=>?_)
 (refine vSq (λ_=>ent_fr1 1 [(1,.ptr 0 0),(2,.nils),(8,.fz [dW x.pub,dW x.to] 32 false)] [(0,72,txW x)] rfl (show purL [dW x.pub,dW x.to]=true by simp) (Nat.zero_le _) ⟨⟨_,rfl,.ptrK rfl⟩,⟨_,rfl,.pur rfl⟩,⟨_,rfl,.sl (full:=false) rfl (show purL [dW x.pub,dW x.to]=true by simp) rfl Xi⟩,trivial⟩ ⟨⟨by omega,_,rfl,.pur Xl⟩,trivial⟩ Xl) ?_;refine z5q rfl (jhq Z Z Z Z Z Xl (put2_s x.pub x.to false) ?_);rintro w hp1 nw1 ⟨rfl,rfl,rfl⟩)
 refine zpq 13 Z ?_
 (refine vSq (λ_=>ent_fr1 3 [(1,.ptr 0 0),(2,.nils),(10,.sl 2 0 0 (x.pub.1++x.to.1).length 1 none),(17,.fz ([x.nonce,x.amount,x.fee].map uW) 1 false)] [(2,5,.arr (x.pub.1++x.to.1).length 1 (zcq (x.pub.1++x.to.1))),(0,72,txW x)] Z Z (Nat.zero_le _) ⟨⟨_,rfl,.ptrK rfl⟩,⟨_,rfl,.pur rfl⟩,⟨_,rfl,.slK rfl⟩,⟨_,rfl,.sl (full:=false) Z Z Z Xi⟩,trivial⟩ ⟨⟨by omega,_,rfl,by rw[zoq hpa];exact .pur hpa⟩,⟨by omega,_,rfl,.pur Xl⟩,trivial⟩ Xl) ?_;refine z5q rfl (yNq (ext:=[2]) (ws:=[.sl 0 0 0 (x.pub.1++x.to.1).length 1 none,.fz ([x.nonce,x.amount,x.fee].map uW) 1 false,.fn 227 [] []]) Z Z Z Z Z (putu_s (x.pub.1++x.to.1) (by intro h;rw[h] at hl;cases hl) Xd [x.nonce,x.amount,x.fee] false Xl Xl hns) Xl Xl Xl (vCq (by rw[zoq hpa];rfl) (zfq hpa)) Z ?_);rintro w hp1 nw1 ⟨rfl,rfl,rfl⟩)
 refine zpq 4 Z ?_;have hpb:purW (.arr (k6q x).length 1 (zcq (k6q x)))=true:=qOq _;have hn:(zcq (k6q x)).length=88:=by rw[zqq,hb]
 have hne:zcq (k6q x)≠[]:=λh=>by rw[h] at hn;cases hn
 refine fin (fr2:=[(2,.sl 0 0 0 (k6q x).length 1 none)]) (hp2:=[(0,5,.arr (k6q x).length 1 (zcq (k6q x)))]) (nw2:=1) (w:=.sl 0 0 0 (k6q x).length 1 none) Qm (yPq (b:=0) (k:=4) Xd Xd (by show 4<5;omega) ⟨⟨rfl,rfl⟩,trivial⟩ ⟨⟨by omega,?_,zfq hpb⟩,trivial⟩ Xl) rfl ⟨rfl,?_,?_,rfl⟩
 ·show some (5,renW _ (W.arr (k6q x).length 1 (zcq (k6q x))))=some (5,renW _ (W.arr (k6q x).length 1 (zcq (k6q x))));rw[zoq hpb,zoq hpb]
 ·rw[xtq hne,zqq]
 ·rw[xuq hne,zqq,Nat.mul_one]
theorem body_s(x:Tx)(hx:x.ok):PS cfg G 184 [txW x] (bW (k6q x)):=(bodyL_s x hx).ps Xg Xl
noncomputable def ucq(x:Tx):Dig:=tagD 4 [k6q x]
theorem sign_s(x:Tx)(hx:x.ok):PS cfg glK 147 [txW x] (dW (ucq x)):=by
 have hb:=body_len x;refine gI 9 Z (λR k0=>gC 0 Z (body_s x hx) (zbq 1 Z ?_));refine op_lk Z Z Z Z Z (by(repeat (first|exact .nil|refine .cons ?_ ?_|(refine .sl Z ?_ rfl Xi;first|rfl|(focus (simp;done)))|(refine qFq Z ?_ rfl;first|rfl|(focus (simp;done)))|(refine .pur ?_;first|rfl|(focus (simp;done)))))) (tagof_s 4 [k6q x] false Xl (by simp[hb])) Xn Xn ?_;exact zpq 4 Z (gQa 0 Z)
theorem jNq(x:Tx)(hx:x.ok):PS cfg glK 81 [txW x] (.int .i64 (if x.sign=ucq x then 0 else 110)):=by
 refine ps_in (fn:=Tryz.f81) Z Z Z (Zb rfl) (λR k0=>?_);by_cases h:x.sign=ucq x
 ·rw[if_pos h];skip
  exact z9q 12 Z (gC 0 Z (sign_s x hx) (xxq (w':=.bool false) rfl (jcq Z Z Z Z (y1q Z Z Z Z Z Z x.sign (ucq x) 250)) (by rw[decide_eq_true h];rfl) (qiq 11 Z (gQa 0 Z))))
 ·rw[if_neg h];exact z9q 12 Z (gC 0 Z (sign_s x hx) (xxq (w':=.bool true) rfl (jcq Z Z Z Z (y1q Z Z Z Z Z Z x.sign (ucq x) 250)) (by rw[decide_eq_false h];rfl) (qiq 10 Z (gQa 0 Z))))
theorem from_s(x:Tx):PS cfg glK 10 [txW x] (dW (keyD x.pub)):=by
 exact gI 10 Z (λR k0=>gC 0 Z (key_s x.pub) (gQa 4 Z))
end
section
attribute [local irreducible] CoW OpW FlW Step Spec
def acL(l:List Pr)(k:Dig):Acct:=match findL l k with
 |some v=>(kPq v).1
 |none=>.zero
noncomputable def moreL(l:List Pr)(k:Dig)(c:Nat):Option (List Pr):=if (acL l k).balance+c<18446744073709551616 then some (setL l k ⟨(acL l k).nonce,(acL l k).balance+c⟩) else none
noncomputable def nudeL(l:List Pr)(x:Tx):List Pr:=setL l (keyD x.pub) ⟨(acL l (keyD x.pub)).nonce+1,(acL l (keyD x.pub)).balance⟩
noncomputable def lessL(l:List Pr)(x:Tx):List Pr:=setL (nudeL l x) (keyD x.pub) ⟨(acL l (keyD x.pub)).nonce+1,(acL l (keyD x.pub)).balance-(x.amount+x.fee)⟩
noncomputable def paidL(l:List Pr)(x:Tx)(box:Dig):List Pr×Nat:=if x.amount+x.fee<=(acL l (keyD x.pub)).balance then(match moreL (lessL l x) x.to x.amount with
  |none=>(nudeL l x,151)
  |some p=>match moreL p box x.fee with
   |none=>(nudeL l x,151)
   |some q=>(q,0)) else(nudeL l x,150)
end
noncomputable def gvL(l:List Pr)(d:Depo):List Pr×Nat:=match moreL l d.to d.amount with
 |some q=>(q,0)
 |none=>(l,151)
structure Rec where
 kind:UInt8
 id:Dig
 code:Nat
noncomputable def depD(d:Depo):Dig:=tagD 9 [beB 8 d.number++d.to.1++beB 8 d.amount]
noncomputable def idD(x:Tx):Dig:=tagD 5 [k6q x++x.sign.1]
noncomputable def doD:List Pr->List Depo->List Pr×List Rec
 |l,[]=>(l,[])
 |l,d::ds=>((doD (gvL l d).1 ds).1,⟨1,depD d,(gvL l d).2⟩::(doD (gvL l d).1 ds).2)
def goX(l:List Pr)(x:Tx):Prop:=x.sign=ucq x/\x.nonce=(acL l (keyD x.pub)).nonce/\x.nonce<18446744073709551615
noncomputable instance(l:List Pr)(x:Tx):Decidable (goX l x):=Classical.propDecidable _
noncomputable def doX(box:Dig):List Pr->List Tx->Option (List Pr×List Rec)
 |l,[]=>some (l,[])
 |l,x::xs=>if goX l x then(match doX box (paidL l x box).1 xs with
   |some r=>some (r.1,⟨2,idD x,(paidL l x box).2⟩::r.2)
   |none=>none) else none
section
attribute [local irreducible] CoW OpW FlW Step Spec
variable {G:Nat->Option W}
structure Hdr where
 height:Int
 parent:Dig
 state:Dig
 rows:Dig
 many:Int
noncomputable def hdW(h:Hdr):W:=.agg 98 [.int .i64 h.height,dW h.parent,dW h.state,dW h.rows,.int .i64 h.many]
@[simp] theorem hdW_pur(h:Hdr):purW (hdW h)=true:=by simp[hdW]
theorem ent_blkv{C:Cfg}{G:Nat->Option W}{m k0:Nat}{fr:FrW}{hp:HpW}{nw:Nat}{R:Res}{b:Nat}{ty:TypeId}{w w':W}(hb:hget hp b=some (ty,w))(h:View (λ_=>none) w w'):Ent C G m k0 fr hp nw R fr (hset hp b (ty,w')) nw R:=
 ent_blk hb λΓ v hv=>jMq ⟨λ_ h _=>h,λ_ _ _=>rfl,λ_ h=>h,λ_ _=>rfl,λ_ _ _ h=>Qd⟩ h hv
def okH(h:Hdr):Prop:=0<=h.height/\h.height<=1073741824/\0<=h.many/\h.many<=256
noncomputable instance(h:Hdr):Decidable (okH h):=Classical.propDecidable _
end
end
section
open Go.Shelf Go.RowKit Go.Lib
def joinRen:Go.Shelf.Ren:=⟨fun|14=>198|15=>232|n=>n,fun|26=>276|22=>52|3=>3|4=>4|0=>0|9=>9|20=>20|5=>5|n=>n,fun|n=>n⟩
theorem joinLays:Go.Proofs.SlLaysJ.n14 Tryz.prog joinRen:={
 mixed:=by kernel_rfl
 f14:=Tryz.func198.trans (congrArg some Xm)
 f15:=Tryz.func232.trans (congrArg some Xm)
 t0:=Tryz.underlying0
 a0:=Tryz.isAgg0
 z0:=Tryz.sizeOf0
 v0:=Tryz.zeroValue0
 t3:=Tryz.underlying3
 a3:=Tryz.isAgg3
 z3:=Tryz.sizeOf3
 v3:=Tryz.zeroValue3
 t4:=Tryz.underlying4
 a4:=Tryz.isAgg4
 z4:=Tryz.sizeOf4
 v4:=Tryz.zeroValue4
 t9:=Tryz.underlying9
 a9:=Tryz.isAgg9
 z9:=Tryz.sizeOf9
 v9:=Tryz.zeroValue9
 t20:=Tryz.underlying20
 a20:=Tryz.isAgg20
 z20:=Tryz.sizeOf20
 v20:=Tryz.zeroValue20
 t22:=Tryz.underlying52
 a22:=Tryz.isAgg52
 z22:=Tryz.sizeOf52
 v22:=Tryz.zeroValue52
 t26:=Tryz.underlying276
 a26:=Tryz.isAgg276
 z26:=Tryz.sizeOf276
 v26:=Tryz.zeroValue276
 t5:=Tryz.underlying5
 z5:=Tryz.sizeOf5
 i5:=by kernel_rfl}
theorem joinMany(b o n c:Nat)(vs:List Value)(ls:List (List UInt8))(sv:Value)(sep:List UInt8)(w:World)(hn:ls.length=n)(h2:2<=n)(hP:Lib.PartsAt w ⟨b,o,none⟩ vs ls)(hcap:n<=c)(hS:Lib.HoldsBytes w sv sep)(hn47:n<=140737488355328)(hlen:Lib.lens ls+sep.length*(n-1)<=140737488355328):
  Calls Tryz.prog 198 #[.slice (some ⟨b,o,none⟩) n c,sv] w λe w'=>∃v',e= .returned v'/\Lib.FreshBytes w.heap.size w' v' (Lib.join ls sep)/\Below w.heap.size w w':=Any.bytes_Join_many joinLays b o n c vs ls sv sep w hn h2 hP hcap hS hn47 hlen
end
section
open Go.RowKit
section
variable {s0:World} {U:Nat} {D:Nat->Prop} {ρ:Env} {h:Heap} {w w':World}
theorem Rel.pushAt(r:Rel s0 U D ρ h w)(hU:h.next+1<=U){b:Blk}{o:Obj}{q pre cap:Nat}(hq:w.heap.size<=q)(g:Below w.heap.size w w')(hn:w'.heap[q]? =some o)(hin:InB (DD D ρ) b)(hk:KnB (ρ.add h.next q pre cap) h.next b o):
  Rel s0 U (λi=>D i\/i=h.next) (ρ.add h.next q pre cap) (h.push b) w'/\Nxt D ρ h w (λi=>D i\/i=h.next) (ρ.add h.next q pre cap) (h.push b) w':=by
 have hne:=r.next_new hU;have hag:Env.Agree (DD D ρ) ρ (ρ.add h.next q pre cap):=Env.add_agree hne;have hdd:∀j m,DD D ρ j m->DD (λi=>D i\/i=h.next) (ρ.add h.next q pre cap) j m:=λj m hj=>⟨.inl hj.1,by rw[(hag j m hj).2.2.1];exact hj.2⟩
 have hb:∀j,D j->(ρ.add h.next q pre cap).b j=ρ.b j:=λj hj=>(hag j 0 ⟨hj,Nat.zero_le _⟩).1
 have hbn:(ρ.add h.next q pre cap).b h.next=q:=by simp[Env.add]
 have get:∀j c,(D j\/j=h.next) ->(h.push b).get j=some c->(j=h.next/\c=b)\/(D j/\h.get j=some c):=λj c hj hc=>by
  rw[Heap.get_push] at hc;split at hc
  ·rename_i e;cases hc;exact .inl ⟨e,rfl⟩
  ·rename_i e;rcases hj with hj|hj
   ·exact .inr ⟨hj,hc⟩
   ·exact absurd hj e
 have hlt:∀j c,D j->h.get j=some c->ρ.b j<w.heap.size:=λj c hj hc=>by
  obtain⟨o,h1,_⟩:=r.has j c hj hc;exact(Array.getElem?_eq_some_iff.1 h1).1
 have hsz:s0.heap.size<=w.heap.size:=r.base.size;refine⟨⟨λj hj=>?_,λj hj=>?_,λj c hj hc=>?_,λj c hj hc=>?_,λj k c d hj hk' hc hd hoc hod hne'=>?_,λj c hj hc hoc=>?_,λj k c d hj hk' hc hd hoc hod=>?_,?_⟩,?_⟩
 ·show j<h.next+1\/_;rcases hj with hj|hj
  ·have:=r.lt j hj;omega
  ·omega
 ·have hj:h.next+1<=j:=hj;rw[Heap.get_push,if_neg Xd];exact r.wf j Xd
 ·rcases get j c hj hc with ⟨rfl,rfl⟩|⟨hj,hc⟩
  ·exact⟨o,by rw[hbn];exact hn,hk⟩
  ·obtain⟨o,h1,h2⟩:=r.has j c hj hc;exact⟨o,by rw[hb j hj,g.block _ (hlt j c hj hc)];exact h1,KnB.agree hag (m:=0) ⟨hj,Nat.zero_le _⟩ (r.clo j c hj hc) h2⟩
 ·rcases get j c hj hc with ⟨rfl,rfl⟩|⟨hj,hc⟩
  ·exact hin.mono hdd
  ·exact(r.clo j c hj hc).mono hdd
 ·rcases get j c hj hc with ⟨rfl,rfl⟩|⟨hj1,hc1⟩<;>rcases get k d hk' hd with ⟨rfl,rfl⟩|⟨hk1,hd1⟩
  ·exact absurd rfl hne'
  ·rw[hbn,hb k hk1];have:=hlt k d hk1 hd1;omega
  ·rw[hbn,hb j hj1];have:=hlt j c hj1 hc1;omega
  ·rw[hb j hj1,hb k hk1];exact r.inj j k c d hj1 hk1 hc1 hd1 hoc hod hne'
 ·rcases get j c hj hc with ⟨rfl,rfl⟩|⟨hj,hc⟩
  ·rw[hbn];omega
  ·rw[hb j hj];exact r.own j c hj hc hoc
 ·rcases get j c hj hc with ⟨rfl,rfl⟩|⟨hj1,hc1⟩<;>rcases get k d hk' hd with ⟨rfl,rfl⟩|⟨hk1,hd1⟩
  ·rw[hoc] at hod;cases hod
  ·rw[hbn,hb k hk1];have:=hlt k d hk1 hd1;omega
  ·rw[hbn,hb j hj1];have:=hlt j c hj1 hc1;omega
  ·rw[hb j hj1,hb k hk1];exact r.old j k c d hj1 hk1 hc1 hd1 hoc hod
 ·exact⟨g.os.trans r.base.os,g.tape.trans r.base.tape,g.output.trans r.base.output,Nat.le_trans hsz g.size,λk hk=>(g.block k Xd).trans (r.base.block k hk)⟩
 ·refine⟨λ_ h=>.inl h,λj hj=>?_,λj hj=>?_,λc hc _=>g.block c hc,λj hj hn' hl=>?_,g.size,Nat.le_refl _,Nat.le_succ _,g.os,g.tape,g.output⟩
  ·rcases hj with hj|hj
   ·exact .inl hj
   ·exact .inr ⟨Nat.le_of_eq hj.symm,by show j<h.next+1;omega⟩
  ·have:j≠h.next:=by
    rcases hj with hj|hj
    ·omega
    ·have hj:h.next+1<=j:=hj;omega
   simp[Env.add,this]
  ·have hl:j<h.next+1:=hl;obtain rfl:j=h.next:=by omega
   exact .inl (by rw[hbn];exact hq)
theorem byJ_spec(r:Rel s0 U D ρ h w){v:V}{l:List UInt8}(hin:InD (DD D ρ) v)(hk:byJ h v=some l):Lib.HoldsBytes w (conc ρ v) l:=by
 unfold byJ at hk;split at hk
 ·cases hk;exact⟨none,0,rfl,λ_=>rfl,λa h=>by cases h⟩
 ·rename_i b base off n lim;split at hk
  ·rename_i bv hv;split at hk
   ·rename_i L hL;obtain⟨g1,g2⟩:=v0q ρ hk;obtain⟨q1,_,_,_⟩:=qoq (ρ:=ρ) 50 bv off n 1 L hL;have hcells:=kJq r hin hv hL;rw[g2] at hcells;obtain rfl:n=l.length:=by omega
    exact⟨_,_,rfl,λh=>Qd,λa ha i x hx=>by cases ha;exact hcells i _ (by simp[hx])⟩
   ·cases hk
  ·cases hk
 ·cases hk
theorem bysJ_spec(r:Rel s0 U D ρ h w):∀{xs:List V} {ls:List (List UInt8)},InDL (DD D ρ) xs->bysJ h xs=some ls->xs.length=ls.length/\(∀(i:Nat) v l,(zIq ρ xs)[i]? =some v->ls[i]? =some l->Lib.HoldsBytes w v l)/\∀x∈xs,x.size=1/\x.leaf=true
 |[],ls,_,hk=>by cases hk;exact⟨rfl,λi v l h=>by simp[zIq] at h,λx hx=>by cases hx⟩
 | v ::xs,ls,hin,hk=>by
  unfold bysJ at hk;split at hk
  ·rename_i x r' hx hr;cases hk;obtain⟨h1,h2,h3⟩:=bysJ_spec r hin.2 hr;refine⟨congrArg (· +1) h1,λi u l hu hl=>?_,λy hy=>?_⟩
   ·cases i with
    |zero=>
     simp only[zIq,List.getElem?_cons_zero,Option.some.injEq] at hu hl;subst hu;subst hl
     exact byJ_spec r hin.1 hx
    |succ i=>
     simp only[zIq,List.getElem?_cons_succ] at hu hl;exact h2 i u l hu hl
   ·rcases List.mem_cons.1 hy with rfl|hy
    ·unfold byJ at hx;split at hx
     ·exact⟨rfl,rfl⟩
     ·exact⟨rfl,rfl⟩
     ·cases hx
    ·exact h3 y hy
  ·cases hk
theorem inl_of{D:Nat->Nat->Prop}:∀{l:List V},(∀x∈l,InD D x) ->InDL D l
 |[],_=>trivial
 |x::l,h=>⟨h x (List.mem_cons_self ..),inl_of λy hy=>h y (List.mem_cons_of_mem _ hy)⟩
theorem Qiq(ρ:Env):∀{xs:List V},(∀x∈xs,x.size=1/\x.leaf=true) ->zzq ρ 1 xs=zIq ρ xs
 |[],_=>rfl
 |x::xs,h=>by
  have hx:=(h x Xl).2;simp only[zzq,zIq,j2q hx,Qiq ρ (xs:=xs) λy hy=>h y (by simp[hy])];rw[yIq (by rfl)];rfl
theorem join_flat:∀ls:List (List UInt8),Lib.join ls []=ls.flatten
 |[]=>rfl
 |x::r=>by
  rw[Lib.join_cons];unfold Lib.joinTail;simp
end
theorem joinOK{C:Cfg}:xbq Tryz.prog C 198 Q8q:=λvs h v h' he=>by
 unfold Q8q at he;split at he
 ·rename_i b base off n lim y;split at he
  ·rename_i bv hv hy;split at he
   ·rename_i xs hxs;split at he
    ·rename_i ls hls;split at he
     ·rename_i hb;cases he;simp only[Bool.and_eq_true] at hb;obtain⟨⟨⟨hb1,hb2⟩,hb3⟩,hb4⟩:=hb;have hb1:=Zb hb1;have hb2:=Zb hb2;have hb3:=Zb hb3;have hb4:=Zb hb4;refine⟨ynq _ _,(fnsOK 198 _ (by rfl)).2.1,λs0 U D ρ w hU gl hin rel=>?_⟩;have hU:h.next+1<=U:=hU;have hx:=hin.1;have hyi:=hin.2.1;obtain⟨g1,g2,g3,g4⟩:=qoq (ρ:=ρ) 50 bv off n 1 xs hxs;obtain⟨_,_,_,_,_,_,_,hvin⟩:=rel.val hx.2.2.1 hv;have hxin:InDL (DD D ρ) xs:=g4 _ hvin;obtain⟨k1,k2,k3⟩:=bysJ_spec rel (inl_of (Jgq hxin)) hls;have hcells:=kJq rel hx hv hxs;rw[show zzq ρ 1 xs=zIq ρ (z2q 1 xs) by rw[<-Qiq ρ k3,jZq ρ 1 xs,vJq ρ _ (u3q 1 xs)]] at hcells;have hge:=kKq hx;have hc0:¬ykq ρ b off 1 lim=0:=by omega
      rw[if_neg hc0] at hcells;have hP:Lib.PartsAt w ⟨ρ.b b,ρ.pre b+off,none⟩ (zIq ρ (z2q 1 xs)) ls:=⟨by rw[y4q,k1],hcells,k2⟩;have hS:=byJ_spec rel hyi hy;have hfl:(z2q 1 xs).length=xs.length:=by rw[xwq,Nat.mul_one]
      have hlens:Lib.lens ls=ls.flatten.length:=by simp[Lib.lens,List.length_flatten]
      have cj:=joinMany (ρ.b b) (ρ.pre b+off) n (ykq ρ b off 1 lim) (zIq ρ (z2q 1 xs)) ls (conc ρ y) [] w Xd hb1 hP hge hS hb2 (by rw[hlens,List.length_nil,Nat.zero_mul,Nat.add_zero];exact hb4)
      have harg:(zIq ρ [.sl b base off n 1 lim,y]).toArray= #[.slice (some ⟨ρ.b b,ρ.pre b+off,none⟩) n (ykq ρ b off 1 lim),conc ρ y]:=by
       simp[zIq,conc,ylq,hc0]
      rw[harg];refine cj.mono ?_;rintro e w' ⟨v',rfl,hfresh,hbel⟩;rw[join_flat] at hfresh;clear hlens cj;generalize ls.flatten=F at hfresh hb3 hb4⊢;obtain⟨g,cap,zs,rfl,hg,hlc,hmax,hzl,hzr,hzb,hcell,hfrz⟩:=hfresh
      have hobj:∃cs ty fz,w'.heap[g]? =some (.cells cs ty fz):=by
       have:=hcell 0 Xd;simp only[World.cell?] at this;split at this
       ·rename_i cs ty fz hh;exact⟨_,_,_,hh⟩
       ·cases this
      obtain⟨cs,ty,fz,hobj⟩:=hobj
      have hcs:∀i,i<cap->cs[i]? =some (.int .u8 (zs.getD i 0)):=λi hi=>by
       have:=hcell i hi;simpa[World.cell?,hobj] using this
      have hval:∀i (hi:i<F.length),zs.getD i 0=(F[i].toNat:Int):=λi hi=>by
       have hz:i<zs.length:=by omega
       have h1:=congrArg (·[i]?) hzb;simp only[Go.Lib.bytesOf,List.getElem?_map,List.getElem?_take,hi,if_true,List.getElem?_eq_getElem hz,Option.map_some,List.getElem?_eq_getElem hi,Option.some.injEq] at h1;obtain⟨q1,q2⟩:=hzr zs[i] (List.getElem_mem hz);rw[<-h1];simp[List.getD,List.getElem?_eq_getElem hz];omega
      have hcells2:cs.toList=cellsV ρ (.arr F.length 1 (yRq F))++cs.toList.drop F.length:=by
       have e:cellsV ρ (.arr F.length 1 (yRq F))=F.map λb=>Value.int .u8 b.toNat:=by
        simp only[cellsV];rw[yIq (by rw[zWq];simp[yRq]),j3q]
       rw[e];apply List.ext_getElem?;intro i;by_cases hi:i<F.length
       ·rw[List.getElem?_append_left (by simpa using hi)];have:=hcs i Xd;rw[hval i hi] at this;simpa[List.getElem?_eq_getElem hi] using this
       ·rw[List.getElem?_append_right Xo,List.getElem?_drop];congr 1
        simp;omega
      have hinv:InD (DD D ρ) (.arr F.length 1 (yRq F)):=InDL_iff.2 λy hy=>by obtain⟨c,_,rfl⟩:=List.mem_map.1 hy;trivial
      have hag:Env.Agree (DD D ρ) ρ (ρ.add h.next g 0 cap):=Env.add_agree (rel.next_new hU)
      obtain⟨r',n'⟩:=rel.pushAt hU (q:=g) (pre:=0) (cap:=cap) (b:=.ro (.arr F.length 1 (yRq F))) hg hbel hobj hinv ⟨[],cs.toList.drop F.length,ty,fz,by
       rw[yQq hag hinv,List.nil_append,<-hcells2],by simp[Env.add],by simp[Env.add];exact hlc⟩
      refine⟨_,_,?_,r',n',by omega,Nat.le_refl _,.inr rfl,?_⟩
      ·have:¬cap=0:=by omega
       simp[conc,ylq,ykq,Env.add,this]
      ·simp[Env.add];exact hlc
     ·cases he
    ·cases he
   ·cases he
  ·cases he
 ·cases he
theorem known0OK(kfn:List V->Heap->Option (V×Heap))(ha:xbq Tryz.prog (cfgk kfn) 6 kfn):jeq Tryz.prog (cfgk kfn):=λf k hk=>by
 have hk:(match Nat.beq f 198 with|true=>some Q8q|false=>match Nat.beq f 6 with|true=>some kfn|false=>none)=some k:=hk;split at hk
 ·rename_i e;cases hk;have:=Nat.eq_of_beq_eq_true e;subst this;exact joinOK
 ·split at hk
  ·rename_i e;cases hk;have:=Nat.eq_of_beq_eq_true e;subst this;exact ha
  ·cases hk
section
section
variable {C:Cfg} {G:Nat->Option W} {o:Oper} {fr fr2:FrW} {hp:HpW} {nw:Nat} {R:Res} {post:W->HpW->Nat->Res->Option EvW->Prop}
theorem step_frzA(hf:subV (blkA hp) fr fr2)(h:Step C G o fr2 [] nw R λw hp' nw' R' ev=>ev=some .gen/\post w hp' nw' R' ev):Step C G o fr hp nw R post:=λΓ X frv hnw s f0=>by
 let Γ2:Ctx:=⟨Γ.nw,Γ.σ,λc=>Γ.D c\/Owns Γ hp c,Γ.h⟩
 have le:Γ.Le Γ2:=⟨Nat.le_refl _,λ_ _=>rfl,λ_ h=>.inl h,λ_ _=>rfl⟩
 have q:Seen (blkA hp) Γ Γ2:=⟨λ_ h _=>h,λ_ _ _=>rfl,λ_ h=>.inl h,λ_ _=>rfl,λb c _ h=>by
  unfold blkA at h;split at h
  ·rename_i ty c' hg;cases h;obtain⟨v,h1,h2,h3⟩:=jTq s hg;exact⟨.inr ⟨b,_,hg,rfl⟩,v,h2,h3⟩
  ·cases h⟩
 have s2:SatH C G Γ2 [] X R:=⟨s.wf,λk ty' w hk=>by simp[hget] at hk,λk k' x y hx=>by simp[hget] at hx,List.nodup_nil,λd hd hX=>by
  rcases hd with h|⟨b,x,h,rfl⟩
  ·exact s.dX d h hX
  ·exact(s.own b x.1 x.2 h).2.2.1 hX,s.xlt,λd hd=>by
  rcases hd with h|⟨b,x,h,rfl⟩
  ·exact s.dlt d h
  ·exact s.own_lt h,R.st _ _ _ _ _ s.res le.D le.val (λ_ _=>rfl) (Nat.le_refl _),s.gl.mono le⟩
 have a:Frm Γ.nw Γ hp X Γ2 [] X:=⟨λ_ _=>rfl,λh=>h,Nat.le_refl _,λ_ _ _ _=>rfl,λ_ h=>.inl h,λd hd=>by
  rcases hd with h|h
  ·exact .inl h
  ·exact .inr (.inl (.inl h)),λk x hk h=>by simp[hget] at h,λk x hk h=>by simp[hget] at h,λ_ h=>.inl h,λ_ h _ _=>h⟩
 obtain⟨n,w,hp',R',ev,v,h',Γ',X',⟨rfl,h1⟩,h2,⟨h3,h3'⟩,h4,h5,h6,h7,h8⟩:=h Γ2 X frv hnw s2 λt w hw=>by
  obtain⟨w0,g1,g2⟩:=uFq hf t w hw;obtain⟨u,g3,g4⟩:=f0 _ _ g1;exact⟨u,g3,jMq q g2 g4⟩
 exact⟨n,w,hp',R',_,v,h',Γ',X',h1,h2,⟨h3,h3'⟩,h4,⟨h5.nw,h5.σ,λc hc=>h5.D c (.inl hc),λc hc=>h5.val c (.inl hc)⟩,h6,a.trans h7,h8⟩
end
attribute [local irreducible] CoW OpW FlW Step Spec
variable {G:Nat->Option W}
theorem kXq(h:Hdr):PS cfg G 131 [hdW h] (.int .i64 (if okH h then 0 else 8)):=by
 refine gI 11 Z (λR k0=>?_);refine gD 0 Z (λh1=>?_) (λh1=>?_)
 ·exact gQ 25 Z Xt
 ·refine gD 3 Z (λh2=>?_) (λh2=>?_)
  ·exact gQ 21 Z Xt
  ·refine gD 4 Z (λh3=>?_) (λh3=>?_)
   ·exact gQ 16 Z Xt
   ·refine gU 4 Z ?_;refine gS 3 Z (λh4=>?_) (λh4=>?_)
    ·exact gQ 7 Z Xt
    ·exact gQ 8 Z Xt
theorem hnumber_s(n size:Nat)(hs:1<=size)(hs8:size<=8)(hn:n<256^size)(hn2:n<9223372036854775808):PS cfg G 136 [.int .i64 (n:Int),.int .i64 (size:Int)] (bW (beB size n)):=by
 refine gIv 8 Z (λR k0=>gA 0 Z (n) (zbq 1 Z ?_))
 (refine z5q rfl (jhq Z Z Z Z Z Z (put_s n size hs hs8 hn) ?_);rintro w hp1 nw1 ⟨rfl,rfl,rfl⟩)
 refine zpq 14 Z ?_;have hp:purW (.arr (size*1) 1 (zcq (beB size n)))=true:=qOq _;exact k0q Qm rfl (.sl (full:=false) (c:=.arr (size*1) 1 (zcq (beB size n))) (xs:=zcq (beB size n)) (by show some (renW _ (W.arr (size*1) 1 (zcq (beB size n))))=_;rw[zoq hp]) hp (zJq Xg (by rw[zqq,k7q]) rfl) Xi)
theorem hjoin_s(ps:List (List UInt8))(f:Bool)(h2:2<=ps.length)(hn:ps.length<=140737488355328)(h1:1<=ps.flatten.length)(hb:ps.flatten.length<=140737488355328):PS cfg G 135 [.fz (ps.map bW) 1 f] (bW ps.flatten):=by
 exact gI 8 Z (λR k0=>gC 0 Z (join_w rfl ps f h2 hn h1 hb) (gQa 4 Z))
def hdB(h:Hdr):List UInt8:=[beB 8 h.height.toNat,h.parent.1,h.state.1,h.rows.1,beB 4 h.many.toNat].flatten
theorem hdB_len(h:Hdr):(hdB h).length=108:=by simp[hdB,k7q,h.parent.2,h.state.2,h.rows.2]
theorem sub_dig(d:Dig)(i:Nat):(((zcq d.1).drop (0/1)).take 32)=zcq d.1:=by
 have h:(zcq d.1).length=32:=by rw[zqq,d.2]
 rw[show 0/1=0 from rfl,List.drop_zero,List.take_of_length_le (by rw[h];omega)]
theorem hd_sub(h:Hdr):yFq 50 (hdW h) 1 32 1=some (zcq h.parent.1)/\yFq 50 (hdW h) 33 32 1=some (zcq h.state.1)/\yFq 50 (hdW h) 65 32 1=some (zcq h.rows.1):=
 ⟨congrArg some (sub_dig h.parent 0),congrArg some (sub_dig h.state 0),congrArg some (sub_dig h.rows 0)⟩
theorem hbytes_no(h:Hdr)(hh:¬okH h):PS cfg G 62 [hdW h] (.tup [.nils,.int .i64 8]):=by
 exact gI 11 Z (λR k0=>gC 0 Z (zxq (w':=.int .i64 8) (kXq h) (by rw[if_neg hh])) (gQa 19 Z))
theorem hbytes_s(h:Hdr)(hh:okH h):PS cfg G 62 [hdW h] (.tup [bW (hdB h),.int .i64 0]):=by
 obtain⟨h1,h2,h3,h4⟩:=hh;obtain⟨a,ha⟩:∃a:Nat,h.height=a:=⟨h.height.toNat,by omega⟩
 obtain⟨m,hm⟩:∃m:Nat,h.many=m:=⟨h.many.toNat,by omega⟩
 have ea:h.height.toNat=a:=by omega
 have em:h.many.toNat=m:=by omega
 have hl:=hdB_len h;have c1:=hnumber_s (G:=G) a 8 Xd Xd (by show a<18446744073709551616;omega) Xd;have c2:=hnumber_s (G:=G) m 4 Xd Xd (by show m<4294967296;omega) Xd;rw[<-ha] at c1;rw[<-hm] at c2;rw[<-ea] at c1;rw[<-em] at c2;have hj:=hjoin_s (G:=G) [beB 8 h.height.toNat,h.parent.1,h.state.1,h.rows.1,beB 4 h.many.toNat] false Xl Xl Yp Yp;rw[show [beB 8 h.height.toNat,h.parent.1,h.state.1,h.rows.1,beB 4 h.many.toNat].flatten=hdB h from rfl] at hj;refine gI 11 Z (λR k0=>gC 0 Z (zxq (w':=.int .i64 0) (kXq h) (by rw[if_pos ⟨h1,h2,h3,h4⟩])) (gC 16 Z c1 (gC 8 Z c2 ?_)));refine gSf 1 Z (step_frzA (fr2:=[(22,.fz ([beB 8 h.height.toNat,h.parent.1,h.state.1,h.rows.1,beB 4 h.many.toNat].map bW) 1 false)]) ⟨⟨_,rfl,(.sl2 (full:=false) rfl (.arr (.cons (.pur Xl) (.cons (.sl (full:=false) (c:=hdW h) (xs:=zcq h.parent.1) rfl Xl (hd_sub h).1 Xi) (.cons (.sl (full:=false) (c:=hdW h) (xs:=zcq h.state.1) rfl Xl (hd_sub h).2.1 Xi) (.cons (.sl (full:=false) (c:=hdW h) (xs:=zcq h.rows.1) rfl Xl (hd_sub h).2.2 Xi) (.cons (.pur Xl) .nil)))))) rfl Xi)⟩,trivial⟩ (QIq Z Z Z Z Z hj Xl Xl ⟨rfl,by first|rfl|kernel_rfl,?_⟩));exact gQa 5 Z
noncomputable def hashD(h:Hdr):Dig:=tagD 6 [hdB h]
theorem hhash_no(h:Hdr)(hh:¬okH h):PS cfg G 19 [hdW h] (.tup [dW khq,.int .i64 8]):=by
 exact gI 10 Z (λR k0=>gC 0 Z (hbytes_no h hh) (gV 17 Z Joq (gQa 7 Z)))
theorem hhash_s(h:Hdr)(hh:okH h):PS cfg glK 19 [hdW h] (.tup [dW (hashD h),.int .i64 0]):=by
 have hl:=hdB_len h;refine gI 10 Z (λR k0=>gC 0 Z (hbytes_s h hh) (zbq 21 Z ?_));refine op_lk Z Z Z Z Z (by(repeat (first|exact .nil|refine .cons ?_ ?_|(refine .sl Z ?_ rfl Xi;first|rfl|(focus (simp;done)))|(refine qFq Z ?_ rfl;first|rfl|(focus (simp;done)))|(refine .pur ?_;first|rfl|(focus (simp;done)))))) (tagof_s 6 [hdB h] false Xl (by simp[hl])) Xn Xn ?_;exact zpq 5 Z (gQa 0 Z)
end
section
attribute [local irreducible] CoW OpW FlW Step Spec
variable {G:Nat->Option W}
noncomputable def recW(r:Rec):W:=.agg 34 [.int .u8 (.ofNat r.kind.toNat),dW r.id,.int .i64 (r.code:Int)]
@[simp] theorem recW_pur(r:Rec):purW (recW r)=true:=by simp[recW]
def recB(r:Rec):List UInt8:=([r.kind]++r.id.1)++beB 2 r.code
end
section
attribute [local irreducible] CoW OpW FlW Step Spec
noncomputable def sumD:T->Dig
 |.nil=>tagD 0 []
 |.leaf k v=>tagD 1 [k.1,v]
 |.fork l r=>tagD 2 [(sumD l).1,(sumD r).1]
end
section
attribute [local irreducible] CoW OpW FlW Step Spec
variable {G:Nat->Option W}
def frontN(n:Nat):Nat:=2^(lenM (n-1) -1)
noncomputable def rootF:Nat->List (List UInt8) ->Dig
 |0,_=>tagD 0 []
 |n+1,ps=>match ps with
  |[]=>tagD 0 []
  |[p]=>tagD 7 [p]
  |p::q::r=>tagD 8 [(rootF n ((p::q::r).take (frontN (p::q::r).length))).1,(rootF n ((p::q::r).drop (frontN (p::q::r).length))).1]
noncomputable def rootD(ps:List (List UInt8)):Dig:=rootF 256 ps
end
section
theorem QRq(L:List Rec):purL (L.map recW)=true:=zPq (λr=>recW_pur r) L
attribute [local irreducible] CoW OpW FlW Step Spec
variable {G:Nat->Option W}
end
noncomputable def bodW(ds:List Depo)(xs:List Tx)(f g:Bool):W:=.agg 2 [.fz (ds.map pdW) 34 f,.fz (xs.map txW) 99 g]
@[simp] theorem bodW_pur(ds:List Depo)(xs:List Tx)(f g:Bool):purW (bodW ds xs f g)=true:=by
 have h1:purW (.fz (ds.map pdW) 34 f)=true:=zPq q7q ds;have h2:purW (.fz (xs.map txW) 99 g)=true:=zPq Qyq xs;show(purW (.fz (ds.map pdW) 34 f)&&(purW (.fz (xs.map txW) 99 g)&&true))=true;rw[h1,h2];rfl
@[simp] theorem pdl_pur(l:List Depo):purL (l.map pdW)=true:=zPq q7q l
@[simp] theorem qmq(l:List Tx):purL (l.map txW)=true:=zPq Qyq l
structure RcI where
 kind:UInt8
 id:Dig
 code:Int
noncomputable def rcW(r:RcI):W:=.agg 34 [.int .u8 (.ofNat r.kind.toNat),dW r.id,.int .i64 r.code]
@[simp] theorem rcW_pur(r:RcI):purW (rcW r)=true:=by simp[rcW]
@[simp] theorem rcl_pur(l:List RcI):purL (l.map rcW)=true:=zPq rcW_pur l
structure Lk where
 hdr:Hdr
 root:Int
 ds:List Depo
 xs:List Tx
 rs:List RcI
noncomputable def lkG(l:Lk):W:=.agg 102 [hdW l.hdr,.int .i64 l.root,bodW l.ds l.xs false false,.fz (l.rs.map rcW) 34 false]
@[simp] theorem lkG_pur(l:Lk):purW (lkG l)=true:=by
 have h:purW (.fz (l.rs.map rcW) 34 false)=true:=zPq rcW_pur l.rs;show(purW (hdW l.hdr)&&(true&&(purW (bodW l.ds l.xs false false)&&(purW (.fz (l.rs.map rcW) 34 false)&&true))))=true;rw[h,hdW_pur,bodW_pur];rfl
@[simp] theorem xpq(l:List Lk):purL (l.map lkG)=true:=zPq lkG_pur l
structure Ch where
 tree:Tree
 links:List Lk
noncomputable def chG(c:Ch):W:=.agg 3 [tW c.tree,.fz (c.links.map lkG) 102 false]
@[simp] theorem chG_pur(c:Ch):purW (chG c)=true:=by
 show(purW (tW c.tree)&&(purW (.fz (c.links.map lkG) 102 false)&&true))=true;rw[tW_pur,show purW (.fz (c.links.map lkG) 102 false)=true from xpq _];rfl
structure Vw where
 number:Int
 down:Bool
 final:Int
 ch:Ch
noncomputable def vwG(v:Vw):W:=.agg 6 [.int .i64 v.number,.bool v.down,.int .i64 v.final,chG v.ch]
@[simp] theorem yjq(v:Vw):purW (vwG v)=true:=by
 show(true&&(true&&(true&&(purW (chG v.ch)&&true))))=true;rw[chG_pur];rfl
def BodyM(ds:List Depo)(xs:List Tx):Prop:=ds.length<=16/\xs.length<=16/\∀x∈xs,x.sign=ucq x
section
attribute [local irreducible] CoW OpW FlW Step Spec
def hdZ:Hdr:=⟨0,khq,khq,khq,0⟩
end
section
noncomputable def wkF(t:Tree)(box:Dig)(L:List Rec):W:=.agg 35 [tW t,dW box,.fz (L.map recW) 34 false]
@[simp] theorem wkF_pur(t:Tree)(box:Dig)(L:List Rec):purW (wkF t box L)=true:=by
 show(purW (tW t)&&(purW (dW box)&&(purW (.fz (L.map recW) 34 false)&&true)))=true;rw[tW_pur,dW_pur,show purW (.fz (L.map recW) 34 false)=true from QRq L];rfl
attribute [local irreducible] CoW OpW FlW Step Spec
attribute [local simp] QRq
noncomputable def headD(p:Hdr)(t1:T)(L:List Rec):Hdr:=⟨p.height+1,hashD p,sumD t1,rootD (L.map recB),L.length⟩
end
theorem fit_node{w:W}(h:Fit (.st 36 [.bool,.arr 32 1 (.int .u8),.sl 1 1 (.int .u8),.int .i64,.int .i64]) w):∃x:Node,w=nW x/\x.val.length<=140737488351232:=by
 obtain⟨l,rfl,w1,l1,rfl,h1,w2,l2,rfl,h2,w3,l3,rfl,h3,w4,l4,rfl,h4,w5,l5,rfl,h5,rfl⟩:=h;obtain⟨b,rfl⟩:=u4q h1;obtain⟨k,rfl⟩:=j0q h2;obtain⟨v,rfl,hv⟩:=fit_bW h3;obtain⟨i,rfl,_⟩:=fit_i64 h4;obtain⟨j,rfl,_⟩:=fit_i64 h5;exact⟨⟨b,k,v,i,j⟩,rfl,by simpa using hv⟩
theorem fit_tree{w:W}(h:Fit (.st 2 [.sl 36 80 (.st 36 [.bool,.arr 32 1 (.int .u8),.sl 1 1 (.int .u8),.int .i64,.int .i64]),.int .i64]) w):∃t:Tree,w=tW t/\t.nodes.length*80<=140737488351232/\(∀x∈t.nodes,x.val.length<=140737488351232)/\t.root<=9223372036854775807:=by
 obtain⟨l,rfl,w1,l1,rfl,h1,w2,l2,rfl,h2,rfl⟩:=h;obtain⟨ns,rfl,hl,hn⟩:=keq h1 λx hx=>fit_node hx
 obtain⟨r,rfl,_,hr⟩:=fit_i64 h2;exact⟨⟨ns,r⟩,rfl,hl,hn,hr⟩
theorem fit_tx{w:W}(h:Fit (.st 99 [.arr 32 1 (.int .u8),.arr 32 1 (.int .u8),.int .u64,.int .u64,.int .u64,.arr 32 1 (.int .u8)]) w):∃x:Tx,w=txW x/\x.ok:=by
 obtain⟨l,rfl,w1,l1,rfl,h1,w2,l2,rfl,h2,w3,l3,rfl,h3,w4,l4,rfl,h4,w5,l5,rfl,h5,w6,l6,rfl,h6,rfl⟩:=h;obtain⟨a,rfl⟩:=j0q h1;obtain⟨b,rfl⟩:=j0q h2;obtain⟨n,rfl,hn⟩:=vEq h3;obtain⟨m,rfl,hm⟩:=vEq h4;obtain⟨f,rfl,hf⟩:=vEq h5;obtain⟨s,rfl⟩:=j0q h6;exact⟨⟨a,b,n,m,f,s⟩,rfl,hn,hm,hf⟩
section
attribute [local irreducible] CoW OpW FlW Step Spec
variable {G:Nat->Option W}
structure BodOk(ds:List Depo)(xs:List Tx):Prop where
 dep:∀d∈ds,d.number<18446744073709551616/\d.amount<18446744073709551616
 tx:∀x∈xs,x.ok
 dl:ds.length<=140737488351232
 xl:xs.length<=140737488351232
theorem fit_depo2{w:W}(h:Fit (.st 34 [.int .u64,.arr 32 1 (.int .u8),.int .u64]) w):∃d:Depo,w=pdW d/\d.number<18446744073709551616/\d.amount<18446744073709551616:=by
 obtain⟨l,rfl,w1,l1,rfl,h1,w2,l2,rfl,h2,w3,l3,rfl,h3,rfl⟩:=h;obtain⟨n,rfl,hn⟩:=vEq h1;obtain⟨k,rfl⟩:=j0q h2;obtain⟨m,rfl,hm⟩:=vEq h3;exact⟨⟨n,k,m⟩,rfl,hn,hm⟩
theorem fit_hdr{w:W}(h:Fit (.st 98 [.int .i64,.arr 32 1 (.int .u8),.arr 32 1 (.int .u8),.arr 32 1 (.int .u8),.int .i64]) w):∃p:Hdr,w=hdW p/\p.height<=9223372036854775807:=by
 obtain⟨l,rfl,w1,l1,rfl,h1,w2,l2,rfl,h2,w3,l3,rfl,h3,w4,l4,rfl,h4,w5,l5,rfl,h5,rfl⟩:=h;obtain⟨i,rfl,_,hi⟩:=fit_i64 h1;obtain⟨a,rfl⟩:=j0q h2;obtain⟨b,rfl⟩:=j0q h3;obtain⟨c,rfl⟩:=j0q h4;obtain⟨j,rfl,_⟩:=fit_i64 h5;exact⟨⟨i,a,b,c,j⟩,rfl,hi⟩
theorem fit_body{w:W}(h:Fit (.st 2 [.sl 34 48 (.st 34 [.int .u64,.arr 32 1 (.int .u8),.int .u64]),.sl 99 120 (.st 99 [.arr 32 1 (.int .u8),.arr 32 1 (.int .u8),.int .u64,.int .u64,.int .u64,.arr 32 1 (.int .u8)])]) w):∃ds xs,w=bodW ds xs false false/\BodOk ds xs:=by
 obtain⟨l,rfl,w1,l1,rfl,h1,w2,l2,rfl,h2,rfl⟩:=h;obtain⟨ds,rfl,hl,hd⟩:=keq h1 λx hx=>fit_depo2 hx
 obtain⟨xs,rfl,hl2,hx⟩:=keq h2 λx hx=>fit_tx hx
 exact⟨ds,xs,rfl,hd,hx,by omega,by omega⟩
def yyq(ds:List Depo)(xs:List Tx):Prop:=(4<ds.length/\ds.length<=16)\/20<ds.length\/(4<xs.length/\xs.length<=16)\/20<xs.length
noncomputable instance(ds:List Depo)(xs:List Tx):Decidable (yyq ds xs):=Classical.propDecidable _
theorem great16_s(ds:List Depo)(xs:List Tx)(f g:Bool):PS cfg G 142 [bodW ds xs f g] (.bool (decide (yyq ds xs))):=by
 have e1:(ds.map pdW).length=ds.length:=List.length_map _;have e2:(xs.map txW).length=xs.length:=List.length_map _;refine gI 10 Z (λR k0=>?_);refine gV (w':=.int .i64 (ds.length:Int)) 0 Z (by rw[<-e1];rfl) ?_;refine gD 0 Z (λh1=>?_) (λh1=>?_)
 ·refine gV (w':=.int .i64 (ds.length:Int)) 3 Z (by rw[<-e1];rfl) ?_;refine gD 0 Z (λh2=>?_) (λh2=>?_)
  ·exact gQ 29 Z Xj
  ·refine gV (w':=.int .i64 (ds.length:Int)) 4 Z (by rw[<-e1];rfl) ?_;refine gD 0 Z (λh3=>?_) (λh3=>?_)
   ·exact gQ 23 Z Xj
   ·refine gV (w':=.int .i64 (xs.length:Int)) 4 Z Yz ?_;refine gD 0 Z (λh4=>?_) (λh4=>?_)
    ·refine gV (w':=.int .i64 (xs.length:Int)) 3 Z Yz ?_;refine gD 0 Z (λh5=>?_) (λh5=>?_)
     ·exact gQ 12 Z Xj
     ·refine gV (w':=.int .i64 (xs.length:Int)) 5 Z Yz ?_;refine gU 0 Z ?_;exact gQ 5 Z Xj
    ·refine gV (w':=.int .i64 (xs.length:Int)) 10 Z Yz ?_;refine gU 0 Z ?_;exact gQ 5 Z Xj
 ·refine gV (w':=.int .i64 (ds.length:Int)) 9 Z (by rw[<-e1];rfl) ?_;refine gD 0 Z (λh2=>?_) (λh2=>?_)
  ·exact gQ 23 Z Xj
  ·refine gV (w':=.int .i64 (xs.length:Int)) 4 Z Yz ?_;refine gD 0 Z (λh3=>?_) (λh3=>?_)
   ·refine gV (w':=.int .i64 (xs.length:Int)) 3 Z Yz ?_;refine gD 0 Z (λh4=>?_) (λh4=>?_)
    ·exact gQ 12 Z Xj
    ·refine gV (w':=.int .i64 (xs.length:Int)) 5 Z Yz ?_;refine gU 0 Z ?_;exact gQ 5 Z Xj
   ·refine gV (w':=.int .i64 (xs.length:Int)) 10 Z Yz ?_;refine gU 0 Z ?_;exact gQ 5 Z Xj
end
def recI(r:Rec):RcI:=⟨r.kind,r.id,(r.code:Int)⟩
def FolB(h p:Hdr):Prop:=okH h/\okH p/\h.height=p.height+1/\h.parent=hashD p
noncomputable instance(h p:Hdr):Decidable (FolB h p):=Classical.propDecidable _
noncomputable instance(ds:List Depo)(xs:List Tx):Decidable (BodyM ds xs):=Classical.propDecidable _
def verT(c:Ch)(r:Int):Tree:=⟨c.tree.nodes,r⟩
structure LkM(c:Ch)(i:Nat)(x:Lk):Prop where
 height:x.hdr.height=(i:Int)
 hdr:okH x.hdr
 fol:∀y,0<i->c.links[i-1]? =some y->FolB x.hdr y.hdr
 recs:((x.rs.length:Nat):Int)=x.hdr.many
 body:BodyM x.ds x.xs
 tree:MayA (verT c x.root)
structure MayC(c:Ch):Prop where
 one:0<c.links.length
 len:c.links.length<=256
 root:∀x,c.links[c.links.length-1]? =some x->c.tree.root=x.root
 link:∀i x,c.links[i]? =some x->LkM c i x
noncomputable instance(c:Ch):Decidable (MayC c):=Classical.propDecidable _
noncomputable def firH(t0:T):Hdr:=⟨0,khq,sumD t0,tagD 0 [],0⟩
structure LkS(c:Ch)(box:Dig)(i:Nat)(x:Lk):Prop where
 first:i=0->∃n t0,IsA (verT c x.root) n t0/\x.hdr=firH t0/\x.ds=[]/\x.xs=[]
 next:∀y,0<i->c.links[i-1]? =some y->∃n t0 n1 t1 rs,IsA (verT c y.root) n t0/\IsA (verT c x.root) n1 t1/\doX box (doD t0.all x.ds).1 x.xs=some (t1.all,rs)/\x.hdr=headD y.hdr t1 ((doD t0.all x.ds).2++rs)/\x.rs=((doD t0.all x.ds).2++rs).map recI
structure SoundC(c:Ch)(box:Dig):Prop extends MayC c where
 sound:∀i x,c.links[i]? =some x->LkS c box i x
noncomputable instance(c:Ch)(box:Dig):Decidable (SoundC c box):=Classical.propDecidable _
theorem qZq{α:Type}{l:List α}{i:Nat}{x:α}(h:l[i]? =some x):i<l.length:=(List.getElem?_eq_some_iff.1 h).1
def cutC(c:Ch)(h:Nat)(x:Lk):Ch:=⟨verT c x.root,c.links.take (h+1)⟩
theorem Jbq{α:Type}{l:List α}{n i:Nat}{x:α}(h:(l.take n)[i]? =some x):i<n/\l[i]? =some x:=by
 rw[List.getElem?_take] at h;split at h
 ·exact⟨by assumption,h⟩
 ·cases h
theorem MayC.cut{c:Ch}(hc:MayC c){h:Nat}{x:Lk}(hx:c.links[h]? =some x):MayC (cutC c h x):=by
 have hi:=qZq hx;have hl:=hc.len;refine⟨by simp[cutC];omega,by simp[cutC];omega,λy e=>?_,λi y e=>?_⟩
 ·obtain⟨_,e⟩:=Jbq e;rw[show(cutC c h x).links.length-1=h by simp[cutC];omega] at e;cases e.symm.trans hx;rfl
 ·obtain⟨h2,e⟩:=Jbq e;have hy:=hc.link i y e;exact⟨hy.height,hy.hdr,λz h0 e'=>hy.fol z h0 (Jbq e').2,hy.recs,hy.body,hy.tree⟩
section
attribute [local irreducible] CoW OpW FlW Step Spec
variable {G:Nat->Option W}
theorem jzq{α:Type}{a b:List α}{n:Nat}(h:a.length=n)(h2:b.length=n)(g:a.take n=b.take n):a=b:=by
 rwa[List.take_of_length_le Xd,List.take_of_length_le Xd] at g
theorem qSq{α:Type}{a b:List α}{i:Nat}{x y:α}(g:a.take i=b.take i)(hx:a[i]? =some x)(hy:b[i]? =some y)(e:x=y):a.take (i+1)=b.take (i+1):=by
 rw[List.take_add_one,List.take_add_one,g,hx,hy,e]
theorem Q3q{α:Type}{a b:List α}{i:Nat}{x y:α}(hx:a[i]? =some x)(hy:b[i]? =some y)(h:x≠y):¬a=b:=λq=>h (by subst q;exact Option.some.inj (hx.symm.trans hy))
noncomputable instance(a b:Depo):Decidable (a=b):=Classical.propDecidable _
noncomputable instance(a b:Tx):Decidable (a=b):=Classical.propDecidable _
noncomputable instance(a b:RcI):Decidable (a=b):=Classical.propDecidable _
noncomputable instance(a b:Hdr):Decidable (a=b):=Classical.propDecidable _
theorem uuq{p:Prop} [Decidable p]{b:Bool}(h:p↔b=true):decide p=b:=by
 rw[Bool.eq_iff_iff,decide_eq_true_eq];exact h
theorem eq_pd(a b:Depo):eqW cfg 300 148 (pdW a) (pdW b)=some (decide (a=b)):=by
 rw[uuq (p:=a=b) (b:=decide ((a.number:Int)=b.number)&&(decide (a.to=b.to)&&(decide ((a.amount:Int)=b.amount)&&true))) (by cases a;cases b;simp only[Depo.mk.injEq,Bool.and_eq_true,decide_eq_true_eq,Int.natCast_inj,and_true])];exact qrq Z Z Z Z (zuq Z Z Z (qcq Z Z) (zuq Z Z Z (y1q Z Z Z Z Z Z _ _ _) (zuq Z Z Z (qcq Z Z) q1q)))
theorem eq_tx(a b:Tx):eqW cfg 300 72 (txW a) (txW b)=some (decide (a=b)):=by
 rw[uuq (p:=a=b) (b:=decide (a.pub=b.pub)&&(decide (a.to=b.to)&&(decide ((a.nonce:Int)=b.nonce)&&(decide ((a.amount:Int)=b.amount)&&(decide ((a.fee:Int)=b.fee)&&(decide (a.sign=b.sign)&&true)))))) (by cases a;cases b;simp only[Tx.mk.injEq,Bool.and_eq_true,decide_eq_true_eq,Int.natCast_inj,and_true])];exact qrq Z Z Z Z (zuq Z Z Z (y1q Z Z Z Z Z Z _ _ _) (zuq Z Z Z (y1q Z Z Z Z Z Z _ _ _) (zuq Z Z Z (qcq Z Z) (zuq Z Z Z (qcq Z Z) (zuq Z Z Z (qcq Z Z) (zuq Z Z Z (y1q Z Z Z Z Z Z _ _ _) q1q))))))
theorem eq_rc(a b:RcI):eqW cfg 300 51 (rcW a) (rcW b)=some (decide (a=b)):=by
 rw[uuq (p:=a=b) (b:=decide ((Int.ofNat a.kind.toNat)=Int.ofNat b.kind.toNat)&&(decide (a.id=b.id)&&(decide (a.code=b.code)&&true))) (by cases a;cases b;simp only[RcI.mk.injEq,Bool.and_eq_true,decide_eq_true_eq,and_true];exact⟨λh=>⟨by rw[h.1],h.2⟩,λh=>⟨UInt8.toNat_inj.1 (Int.ofNat.inj h.1),h.2⟩⟩)];exact qrq Z Z Z Z (zuq Z Z Z (qcq Z Z) (zuq Z Z Z (y1q Z Z Z Z Z Z _ _ _) (zuq Z Z Z (qcq Z Z) q1q)))
theorem eq_hd(h p:Hdr):eqW cfg 300 57 (hdW h) (hdW p)=some (decide (h=p)):=by
 rw[uuq (p:=h=p) (b:=decide (h.height=p.height)&&(decide (h.parent=p.parent)&&(decide (h.state=p.state)&&(decide (h.rows=p.rows)&&(decide (h.many=p.many)&&true))))) (by cases h;cases p;simp only[Hdr.mk.injEq,Bool.and_eq_true,decide_eq_true_eq,and_true])];exact qrq Z Z Z Z (zuq Z Z Z (qcq Z Z) (zuq Z Z Z (y1q Z Z Z Z Z Z _ _ _) (zuq Z Z Z (y1q Z Z Z Z Z Z _ _ _) (zuq Z Z Z (y1q Z Z Z Z Z Z _ _ _) (zuq Z Z Z (qcq Z Z) q1q)))))
theorem seqd_s(a b:List Depo)(f g:Bool)(hb:a.length<=1000000000):PS cfg G 50 [.fz (a.map pdW) 34 f,.fz (b.map pdW) 34 g] (.bool (decide (a=b))):=by
 have ea:(a.map pdW).length=a.length:=List.length_map _;have eb:(b.map pdW).length=b.length:=List.length_map _;refine gI 9 Z (λR k0=>gV (w':=.int .i64 (a.length:Int)) 0 Z Ym (gV (w':=.int .i64 (b.length:Int)) 1 Z (by rw[<-eb];rfl) ?_));refine gS 3 Z (λh1=>?_) (λh1=>?_)
 ·exact gQ 7 Z Xv
 ·refine gV (w':=.int .i64 (a.length:Int)) 6 Z Ym ?_;refine gLo (α:=Nat) 4 (λi=>i<=a.length/\a.take i=b.take i) (λi=>[(13,.int .i64 (i:Int))]) [0,1,4,12] (λi=>a.length-i) (0) rfl (⟨Nat.zero_le _,rfl⟩) (λi hI=>?_);obtain⟨g1,g2⟩:=hI;refine gS 6 Z (λh2=>?_) (λh2=>?_)
  ·obtain⟨x,hx⟩:∃x,a[i]? =some x:=⟨_,List.getElem?_eq_getElem Xd⟩
   obtain⟨y,hy⟩:∃y,b[i]? =some y:=⟨_,List.getElem?_eq_getElem Xd⟩
   refine gP 14 Z (zGq (i:=i) Z Z Z Z Z Z Z (znq pdW hx)) (gP 3 Z (zGq (i:=i) Z Z Z Z Z Z Z (znq pdW hy)) (gUe 1 Z (jcq Z Z Z Z (eq_pd _ _)) (jHq yAq) ?_));refine gS 2 Z (λh3=>?_) (λh3=>?_)
   ·exact gO 8 Z (gQ 2 Z Yr)
   ·exact gA 4 Z (i+1) (gAg 2 Z (i+1) (⟨by omega,qSq g2 hx hy (Classical.not_not.1 h3)⟩) Xd)
  ·exact gO 2 Z (gQ 8 Z Xy)
theorem seqx_s(a b:List Tx)(f g:Bool)(hb:a.length<=1000000000):PS cfg G 49 [.fz (a.map txW) 99 f,.fz (b.map txW) 99 g] (.bool (decide (a=b))):=by
 have ea:(a.map txW).length=a.length:=List.length_map _;have eb:(b.map txW).length=b.length:=List.length_map _;refine gI 9 Z (λR k0=>gV (w':=.int .i64 (a.length:Int)) 0 Z Ym (gV (w':=.int .i64 (b.length:Int)) 1 Z (by rw[<-eb];rfl) ?_));refine gS 3 Z (λh1=>?_) (λh1=>?_)
 ·exact gQ 7 Z Xv
 ·refine gV (w':=.int .i64 (a.length:Int)) 6 Z Ym ?_;refine gLo (α:=Nat) 4 (λi=>i<=a.length/\a.take i=b.take i) (λi=>[(13,.int .i64 (i:Int))]) [0,1,4,12] (λi=>a.length-i) (0) rfl (⟨Nat.zero_le _,rfl⟩) (λi hI=>?_);obtain⟨g1,g2⟩:=hI;refine gS 6 Z (λh2=>?_) (λh2=>?_)
  ·obtain⟨x,hx⟩:∃x,a[i]? =some x:=⟨_,List.getElem?_eq_getElem Xd⟩
   obtain⟨y,hy⟩:∃y,b[i]? =some y:=⟨_,List.getElem?_eq_getElem Xd⟩
   refine gP 14 Z (zGq (i:=i) Z Z Z Z Z Z Z (znq txW hx)) (gP 3 Z (zGq (i:=i) Z Z Z Z Z Z Z (znq txW hy)) (gUe 1 Z (jcq Z Z Z Z (eq_tx _ _)) (jHq yAq) ?_));refine gS 2 Z (λh3=>?_) (λh3=>?_)
   ·exact gO 8 Z (gQ 2 Z Yr)
   ·exact gA 4 Z (i+1) (gAg 2 Z (i+1) (⟨by omega,qSq g2 hx hy (Classical.not_not.1 h3)⟩) Xd)
  ·exact gO 2 Z (gQ 8 Z Xy)
theorem seqr_s(a b:List RcI)(f g:Bool)(hb:a.length<=1000000000):PS cfg G 188 [.fz (a.map rcW) 34 f,.fz (b.map rcW) 34 g] (.bool (decide (a=b))):=by
 have ea:(a.map rcW).length=a.length:=List.length_map _;have eb:(b.map rcW).length=b.length:=List.length_map _;refine gI 9 Z (λR k0=>gV (w':=.int .i64 (a.length:Int)) 0 Z Ym (gV (w':=.int .i64 (b.length:Int)) 1 Z (by rw[<-eb];rfl) ?_));refine gS 3 Z (λh1=>?_) (λh1=>?_)
 ·exact gQ 7 Z Xv
 ·refine gV (w':=.int .i64 (a.length:Int)) 6 Z Ym ?_;refine gLo (α:=Nat) 4 (λi=>i<=a.length/\a.take i=b.take i) (λi=>[(13,.int .i64 (i:Int))]) [0,1,4,12] (λi=>a.length-i) (0) rfl (⟨Nat.zero_le _,rfl⟩) (λi hI=>?_);obtain⟨g1,g2⟩:=hI;refine gS 6 Z (λh2=>?_) (λh2=>?_)
  ·obtain⟨x,hx⟩:∃x,a[i]? =some x:=⟨_,List.getElem?_eq_getElem Xd⟩
   obtain⟨y,hy⟩:∃y,b[i]? =some y:=⟨_,List.getElem?_eq_getElem Xd⟩
   refine gP 14 Z (zGq (i:=i) Z Z Z Z Z Z Z (znq rcW hx)) (gP 3 Z (zGq (i:=i) Z Z Z Z Z Z Z (znq rcW hy)) (gUe 1 Z (jcq Z Z Z Z (eq_rc _ _)) (jHq yAq) ?_));refine gS 2 Z (λh3=>?_) (λh3=>?_)
   ·exact gO 8 Z (gQ 2 Z Yr)
   ·exact gA 4 Z (i+1) (gAg 2 Z (i+1) (⟨by omega,qSq g2 hx hy (Classical.not_not.1 h3)⟩) Xd)
  ·exact gO 2 Z (gQ 8 Z Xy)
theorem rseqr_s(a b:List RcI)(f g:Bool)(hb:a.length<=1000000000):PS cfg G 56 [.fz (a.map rcW) 34 f,.fz (b.map rcW) 34 g] (.bool (decide (a=b))):=by
 have ea:(a.map rcW).length=a.length:=List.length_map _;have eb:(b.map rcW).length=b.length:=List.length_map _;refine gI 9 Z (λR k0=>gV (w':=.int .i64 (a.length:Int)) 0 Z Ym (gV (w':=.int .i64 (b.length:Int)) 1 Z (by rw[<-eb];rfl) ?_));refine gS 3 Z (λh1=>?_) (λh1=>?_)
 ·exact gQ 7 Z Xv
 ·refine gLo (α:=Nat) 9 (λi=>i<=a.length/\a.take i=b.take i) (λi=>[(5,.int .i64 (i:Int))]) [0,1,4] (λi=>a.length-i) (0) rfl (⟨Nat.zero_le _,rfl⟩) (λi hI=>?_);obtain⟨g1,g2⟩:=hI;refine gV (w':=.int .i64 (a.length:Int)) 5 Z Ym ?_;refine gS 3 Z (λh2=>?_) (λh2=>?_)
  ·obtain⟨x,hx⟩:∃x,a[i]? =some x:=⟨_,List.getElem?_eq_getElem Xd⟩
   obtain⟨y,hy⟩:∃y,b[i]? =some y:=⟨_,List.getElem?_eq_getElem Xd⟩
   refine gP 8 Z (zGq (i:=i) Z Z Z Z Z Z Z (znq rcW hx)) (gP 3 Z (zGq (i:=i) Z Z Z Z Z Z Z (znq rcW hy)) (gUe 1 Z (jcq Z Z Z Z (eq_rc _ _)) (jHq yAq) ?_));refine gS 2 Z (λh3=>?_) (λh3=>?_)
   ·exact gO 8 Z (gQ 2 Z Yr)
   ·exact gA 5 Z (i+1) (gAg 2 Z (i+1) (⟨by omega,qSq g2 hx hy (Classical.not_not.1 h3)⟩) Xd)
  ·exact gO 2 Z (gQ 8 Z Xy)
theorem cld_s(l:List Depo)(f:Bool)(hl:l.length<=1000000000):PS cfg G 87 [.fz (l.map pdW) 34 f] (.fz (l.map pdW) 34 false):=by
 have e:(l.map pdW).length=l.length:=List.length_map _;have hp:∀l:List Depo,purL (l.map pdW)=true:=zPq q7q
 refine gI 9 Z (λR k0=>?_);first|refine yVq Z Z ?_|refine z5q rfl (qUq Z Z Z Z Z (λbn hn=>?_))
 refine zpq 2 Z ?_;refine gS 0 Z (λh1=>?_) (λh1=>?_)
 ·cases bn with
  |false=>cases h1
  |true=>
   obtain rfl:l=[]:=List.map_eq_nil_iff.1 (hn rfl);exact zLq 7 Z (yHq (fr2:=[(2,.fz [] 34 false)]) Qm ⟨⟨_,rfl,.nilfz⟩,trivial⟩ Z Z)
 ·cases l with
  |nil=>
   skip
   exact zLq 6 Z (gM 0 Z (ySq Z Z (jdq Z Z Z Z Z)) (zbq 4 Z (yHq (fr2:=[(2,.fz [] 34 false)]) Qm ⟨⟨_,rfl,.sl Z Z Z Xi⟩,trivial⟩ Z Z)))
  |cons c l=>
   simp only[List.length_cons] at hl e;exact zLq 6 Z (gM 0 Z (ySq Z Z (qEq (news:=(c::l).map pdW) (olds:=[]) Z Z Z Z Z Xl (by show(0+((c::l).map pdW).length)*48<=_;rw[e];omega) Yj rfl (by show 0<0+(0+((c::l).map pdW).length)*34;rw[e];omega) Z Z)) (zbq 4 Z (yHq (fr2:=[(2,.fz ((c::l).map pdW) 34 false)]) Qm ⟨⟨_,rfl,.sl rfl (hp _) (zJq Xg (Nat.zero_add _) Qj) Xi⟩,trivial⟩ Z Z)))
theorem clx_s(l:List Tx)(f:Bool)(hl:l.length<=1000000000):PS cfg G 86 [.fz (l.map txW) 99 f] (.fz (l.map txW) 99 false):=by
 have e:(l.map txW).length=l.length:=List.length_map _;have hp:∀l:List Tx,purL (l.map txW)=true:=zPq Qyq
 refine gI 9 Z (λR k0=>?_);first|refine yVq Z Z ?_|refine z5q rfl (qUq Z Z Z Z Z (λbn hn=>?_))
 refine zpq 2 Z ?_;refine gS 0 Z (λh1=>?_) (λh1=>?_)
 ·cases bn with
  |false=>cases h1
  |true=>
   obtain rfl:l=[]:=List.map_eq_nil_iff.1 (hn rfl);exact zLq 7 Z (yHq (fr2:=[(2,.fz [] 99 false)]) Qm ⟨⟨_,rfl,.nilfz⟩,trivial⟩ Z Z)
 ·cases l with
  |nil=>
   skip
   exact zLq 6 Z (gM 0 Z (ySq Z Z (jdq Z Z Z Z Z)) (zbq 4 Z (yHq (fr2:=[(2,.fz [] 99 false)]) Qm ⟨⟨_,rfl,.sl Z Z Z Xi⟩,trivial⟩ Z Z)))
  |cons c l=>
   simp only[List.length_cons] at hl e;exact zLq 6 Z (gM 0 Z (ySq Z Z (qEq (news:=(c::l).map txW) (olds:=[]) Z Z Z Z Z Xl (by show(0+((c::l).map txW).length)*120<=_;rw[e];omega) Yj rfl (by show 0<0+(0+((c::l).map txW).length)*99;rw[e];omega) Z Z)) (zbq 4 Z (yHq (fr2:=[(2,.fz ((c::l).map txW) 99 false)]) Qm ⟨⟨_,rfl,.sl rfl (hp _) (zJq Xg (Nat.zero_add _) Qj) Xi⟩,trivial⟩ Z Z)))
theorem clr_s(l:List RcI)(f:Bool)(hl:l.length<=1000000000):PS cfg G 234 [.fz (l.map rcW) 34 f] (.fz (l.map rcW) 34 false):=by
 have e:(l.map rcW).length=l.length:=List.length_map _;have hp:∀l:List RcI,purL (l.map rcW)=true:=zPq rcW_pur
 refine gI 9 Z (λR k0=>?_);first|refine yVq Z Z ?_|refine z5q rfl (qUq Z Z Z Z Z (λbn hn=>?_))
 refine zpq 2 Z ?_;refine gS 0 Z (λh1=>?_) (λh1=>?_)
 ·cases bn with
  |false=>cases h1
  |true=>
   obtain rfl:l=[]:=List.map_eq_nil_iff.1 (hn rfl);exact zLq 7 Z (yHq (fr2:=[(2,.fz [] 34 false)]) Qm ⟨⟨_,rfl,.nilfz⟩,trivial⟩ Z Z)
 ·cases l with
  |nil=>
   skip
   exact zLq 6 Z (gM 0 Z (ySq Z Z (jdq Z Z Z Z Z)) (zbq 4 Z (yHq (fr2:=[(2,.fz [] 34 false)]) Qm ⟨⟨_,rfl,.sl Z Z Z Xi⟩,trivial⟩ Z Z)))
  |cons c l=>
   simp only[List.length_cons] at hl e;exact zLq 6 Z (gM 0 Z (ySq Z Z (qEq (news:=(c::l).map rcW) (olds:=[]) Z Z Z Z Z Xl (by show(0+((c::l).map rcW).length)*48<=_;rw[e];omega) Yj rfl (by show 0<0+(0+((c::l).map rcW).length)*34;rw[e];omega) Z Z)) (zbq 4 Z (yHq (fr2:=[(2,.fz ((c::l).map rcW) 34 false)]) Qm ⟨⟨_,rfl,.sl rfl (hp _) (zJq Xg (Nat.zero_add _) Qj) Xi⟩,trivial⟩ Z Z)))
theorem rsbody_s(a:List Depo)(c:List Tx)(b:List Depo)(d:List Tx)(f1 f2 f3 f4:Bool)(hb:a.length<=1000000000)(hb2:c.length<=1000000000):PS cfg G 55 [bodW a c f1 f2,bodW b d f3 f4] (.bool (decide (a=b/\c=d))):=by
 have ea:(a.map pdW).length=a.length:=List.length_map _;have eb:(b.map pdW).length=b.length:=List.length_map _;have ec:(c.map txW).length=c.length:=List.length_map _;have ed:(d.map txW).length=d.length:=List.length_map _;refine gI 12 Z (λR k0=>gV (w':=.int .i64 (a.length:Int)) 0 Z Ym (gV (w':=.int .i64 (b.length:Int)) 2 Z (by rw[<-eb];rfl) ?_));refine gD 0 Z (λh1=>?_) (λh1=>?_)
 ·exact gQ 19 Z (by rw[decide_eq_false λh=>h1 (by rw[h.1])])
 refine gV (w':=.int .i64 (c.length:Int)) 3 Z (by rw[<-ec];rfl) (gV (w':=.int .i64 (d.length:Int)) 2 Z (by rw[<-ed];rfl) (gU 0 Z ?_));refine gS 3 Z (λh2=>?_) (λh2=>?_)
 ·exact gQ 7 Z (by rw[decide_eq_false λh=>h2 (by rw[h.2])])
 ·refine gLo (α:=Nat) 9 (λi=>i<=a.length/\a.take i=b.take i) (λi=>[(5,.int .i64 (i:Int))]) [2,3,4] (λi=>a.length-i) (0) rfl (⟨Nat.zero_le _,rfl⟩) (λi hI=>?_);obtain⟨g1,g2⟩:=hI;refine gV (w':=.int .i64 (a.length:Int)) 6 Z Ym ?_;refine gS 3 Z (λh3=>?_) (λh3=>?_)
  ·obtain⟨x,hx⟩:∃x,a[i]? =some x:=⟨_,List.getElem?_eq_getElem Xd⟩
   obtain⟨y,hy⟩:∃y,b[i]? =some y:=⟨_,List.getElem?_eq_getElem Xd⟩
   refine gP 9 Z (zGq (i:=i) Z Z Z Z Z Z Z (znq pdW hx)) (gP 4 Z (zGq (i:=i) Z Z Z Z Z Z Z (znq pdW hy)) (gUe 1 Z (jcq Z Z Z Z (eq_pd _ _)) (jHq yAq) ?_));refine gS 2 Z (λh4=>?_) (λh4=>?_)
   ·exact gO 8 Z (gQ 2 Z (by rw[decide_eq_false λq=>Q3q hx hy h4 q.1]))
   ·exact gA 5 Z (i+1) (gAg 2 Z (i+1) (⟨by omega,qSq g2 hx hy (Classical.not_not.1 h4)⟩) Xd)
  ·obtain rfl:=jzq (a:=a) (b:=b) Xd Xd g2;refine gO 2 Z (zbq 9 Z ?_);skip
   refine gLo (α:=Nat) 0 (λj=>j<=c.length/\c.take j=d.take j) (λj=>[(6,.int .i64 (j:Int))]) [2,3,4] (λj=>c.length-j) (0) rfl (⟨Nat.zero_le _,rfl⟩) (λj hI=>?_);obtain⟨k1,k2⟩:=hI;refine gV (w':=.int .i64 (c.length:Int)) 6 Z (by rw[<-ec];rfl) ?_;refine gS 3 Z (λh4=>?_) (λh4=>?_)
   ·obtain⟨x,hx⟩:∃x,c[j]? =some x:=⟨_,List.getElem?_eq_getElem Xd⟩
    obtain⟨y,hy⟩:∃y,d[j]? =some y:=⟨_,List.getElem?_eq_getElem Xd⟩
    refine gP 9 Z (zGq (i:=j) Z Z Z Z Z Z Z (znq txW hx)) (gP 4 Z (zGq (i:=j) Z Z Z Z Z Z Z (znq txW hy)) (gUe 1 Z (jcq Z Z Z Z (eq_tx _ _)) (jHq yAq) ?_));refine gS 2 Z (λh5=>?_) (λh5=>?_)
    ·exact gO 8 Z (gQ 2 Z (by rw[decide_eq_false λq=>Q3q hx hy h5 q.2]))
    ·exact gA 5 Z (j+1) (gAg 2 Z (j+1) (⟨by omega,qSq k2 hx hy (Classical.not_not.1 h5)⟩) Xd)
   ·exact gO 2 Z (gQ 8 Z (by rw[decide_eq_true ⟨rfl,jzq Xd Xd k2⟩]))
theorem y2q{p:Prop} [Decidable p](h:¬p):W.bool false=W.bool (decide p):=congrArg W.bool (decide_eq_false h).symm
theorem v6q{p:Prop} [Decidable p](h:p):W.bool true=W.bool (decide p):=congrArg W.bool (decide_eq_true h).symm
theorem dec_c{p q:Prop} [Decidable p] [Decidable q](h:q↔p):W.bool (decide q)=W.bool (decide p):=congrArg W.bool (decide_eq_decide.2 h)
theorem hfollows_d(h p:Hdr):PS cfg glK 132 [hdW h,hdW p] (.bool (decide (FolB h p))):=by
 by_cases hp:okH p
 ·obtain⟨q1,q2,q3,q4⟩:=id hp;by_cases hh:okH h
  ·skip
   refine gI 10 Z (λR k0=>gC 0 Z (hhash_s p ⟨q1,q2,q3,q4⟩) (gTa 11 Z (gC 2 Z (zxq (w':=.int .i64 0) (kXq h) (by rw[if_pos hh])) (gTa 0 Z (gWr 6 Z ?_)))));refine gD 0 Z (λh1=>?_) (λh1=>?_)
   ·exact gUe 5 Z (yCq Z Z Z Z (y1q Z Z Z Z Z Z _ _ 250)) yAq (gQ 5 Z (dec_c ⟨λq=>⟨hh,hp,by simpa using h1,q⟩,λq=>q.2.2.2⟩))
   ·exact gQ 11 Z (y2q λq=>h1 (by simpa using q.2.2.1))
  ·skip
   exact gI 10 Z (λR k0=>gC 0 Z (hhash_s p ⟨q1,q2,q3,q4⟩) (gTa 11 Z (gC 2 Z (zxq (w':=.int .i64 8) (kXq h) (by rw[if_neg hh])) (gFa 0 Z (gQ 19 Z (y2q λq=>hh q.1))))))
 ·skip
  exact gI 10 Z (λR k0=>gC 0 Z (hhash_no p hp) (gFa 11 Z (gQ 23 Z (y2q λq=>hp q.2.1))))
theorem ver_s(t:Tree)(r:Int):PS cfg G 134 [tW t,.int .i64 r] (tW ⟨t.nodes,r⟩):=by
 exact gI 20 Z (λR k0=>gQa 0 Z)
theorem ixtx_s(xs:List Tx)(f:Bool)(F:FuncId)(P:Tx->Prop) [DecidablePred P](hF:∀x∈xs,PS cfg G F [txW x] (.bool (decide (P x))))(hF0:cfg.ext F=none)(hn:xs.length<=1000000000):PE cfg G 146 [.fz (xs.map txW) 99 f,.fn F [] []] (λw=>∃i:Int,w= .int .i64 i/\((∃x∈xs,P x)↔0<=i)):=by
 have e:(xs.map txW).length=xs.length:=List.length_map _;refine gIe 9 Z (λR k0=>gZ 0 Z e ?_);refine gLo (α:=Nat) 4 (λi=>i<=xs.length/\∀j x,j<i->xs[j]? =some x->¬P x) (λi=>[(8,.int .i64 (i:Int))]) [0,1,4,7] (λi=>xs.length-i) (0) rfl (⟨Nat.zero_le _,λj x h=>by omega⟩) (λi hI=>?_);obtain⟨g1,g2⟩:=hI;refine gS 6 Z (λh1=>?_) (λh1=>?_)
 ·obtain⟨x,hx⟩:∃x,xs[i]? =some x:=⟨_,List.getElem?_eq_getElem Xd⟩
  refine gP 15 Z (zGq (i:=i) Z Z Z Z Z Z Z (znq txW hx)) (zbq 1 Z (YFq Z Z Z hF0 Z Z (hF x (List.mem_of_getElem? hx)) Xl Xl (zpq 2 Z ?_)));refine gS 0 Z (λh2=>?_) (λh2=>?_)
  ·exact gO 9 Z (zbq 2 Z (ywq (w':=.int .i64 (i:Int)) Qm rfl (.pur rfl) rfl ⟨_,rfl,λ_=>by omega,λ_=>⟨x,List.mem_of_getElem? hx,h2⟩⟩))
  ·exact gA 4 Z (i+1) (gAg 2 Z (i+1) (⟨by omega,λj y hj hy=>by rcases Nat.lt_succ_iff_lt_or_eq.1 hj with q|rfl;exact g2 j y q hy;exact Option.some.inj (hx.symm.trans hy)▸h2⟩) Xd)
 ·refine gO 2 Z (zbq 8 Z ?_)
  exact ywq (w':=.int .i64 (-1)) Qm rfl (.pur rfl) rfl ⟨_,rfl,λ⟨x,hx,q⟩=>by
   obtain⟨j,hj⟩:=List.getElem?_of_mem hx;exact absurd q (g2 j x Yw hj),λh=>absurd h Xg⟩
theorem cntx_s(xs:List Tx)(f:Bool)(F:FuncId)(P:Tx->Prop) [DecidablePred P](hF:∀x∈xs,PS cfg G F [txW x] (.bool (decide (P x))))(hF0:cfg.ext F=none)(hn:xs.length<=1000000000) [Decidable (∃x∈xs,P x)]:PS cfg G 79 [.fz (xs.map txW) 99 f,.fn F [] []] (.bool (decide (∃x∈xs,P x))):=by
 refine gI 9 Z (λR k0=>?_);refine gE 0 Z (ixtx_s xs f F P hF hF0 hn) ?_;rintro w hw ⟨i,rfl,hi⟩;refine gU 0 Z ?_;exact gQ 4 Z (by rw[decide_eq_decide.2 hi])
theorem cbody1_s(x:Tx)(hx:x.ok):PS cfg glK 197 [txW x] (.bool (decide (x.sign≠ucq x))):=by
 by_cases h:x.sign=ucq x
 ·skip
  exact gI 9 Z (λR k0=>gC 0 Z (zxq (w':=.int .i64 0) (jNq x hx) (by rw[if_pos h])) (gFa 0 Z (gQ 4 Z (y2q λq=>q h))))
 ·skip
  exact gI 9 Z (λR k0=>gC 0 Z (zxq (w':=.int .i64 110) (jNq x hx) (by rw[if_neg h])) (gTa 0 Z (gQ 4 Z (v6q h))))
theorem max_w(a b:Nat):W.int .i64 (match ltI (a:Int) (b:Int) with|true=>(b:Int)|false=>(a:Int))=W.int .i64 ((max a b:Nat):Int):=by
 congr 1
 by_cases h:(a:Int)<(b:Int)
 ·rw[ltI_iff.2 h,Nat.max_eq_right Xd]
 ·rw[ltI_not.2 h,Nat.max_eq_left Xd]
theorem cbody_s(ds:List Depo)(xs:List Tx)(f g:Bool)(hx:∀x∈xs,x.ok)(hd:ds.length<=140737488351232)(hn:xs.length<=140737488351232):PS cfg glK 133 [bodW ds xs f g] (.bool (decide (BodyM ds xs))):=by
 have e1:(ds.map pdW).length=ds.length:=List.length_map _;have e2:(xs.map txW).length=xs.length:=List.length_map _;by_cases hm:ds.length<=16/\xs.length<=16
 ·have hc:=cntx_s (G:=glK) xs g 197 (λx=>x.sign≠ucq x) (λx h=>cbody1_s x (hx x h)) rfl Xd;by_cases hs:∃x∈xs,x.sign≠ucq x
  ·exact gI 15 Z (λR k0=>gZ 0 Z e1 (gZ 2 Z e2 (gV (w':=.int .i64 ((max ds.length xs.length:Nat):Int)) 0 Z (max_w _ _) (gT 0 Z (congrArg not (ltI_not.2 Xd)) (gC 4 Z (zxq (w':=.bool true) (hc) (by rw[decide_eq_true (hs)])) (gQ 6 Z (y2q λq=>by obtain⟨x,h1,h2⟩:=hs;exact h2 (q.2.2 x h1))))))))
  ·exact gI 15 Z (λR k0=>gZ 0 Z e1 (gZ 2 Z e2 (gV (w':=.int .i64 ((max ds.length xs.length:Nat):Int)) 0 Z (max_w _ _) (gT 0 Z (congrArg not (ltI_not.2 Xd)) (gC 4 Z (zxq (w':=.bool false) (hc) (by rw[decide_eq_false (hs)])) (gQ 6 Z (v6q ⟨hm.1,hm.2,λx h=>Classical.not_not.1 λq=>hs ⟨x,h,q⟩⟩)))))))
 ·exact gI 15 Z (λR k0=>gZ 0 Z e1 (gZ 2 Z e2 (gV (w':=.int .i64 ((max ds.length xs.length:Nat):Int)) 0 Z (max_w _ _) (gF 0 Z (congrArg not (ltI_iff.2 Xd)) (gQ 11 Z (y2q λq=>hm ⟨q.1,q.2.1⟩))))))
noncomputable def bodyN:W:=.agg 2 [.nils,.nils]
noncomputable def lkZ:W:=.agg 102 [hdW hdZ,.int .i64 0,bodyN,.nils]
@[simp] theorem lkZ_pur:purW lkZ=true:=by simp[lkZ,bodyN,purW,purL]
noncomputable def lkA(l:List Lk)(i:Nat):W:=match l[i]? with
 |some x=>lkG x
 |none=>lkZ
noncomputable def prevW(l:List Lk):Nat->W
 |0=>lkZ
 |i+1=>lkA l i
@[simp] theorem lkA_pur(l:List Lk)(i:Nat):purW (lkA l i)=true:=by unfold lkA;split<;>simp
@[simp] theorem prev_pur(l:List Lk)(i:Nat):purW (prevW l i)=true:=by cases i<;>simp[prevW]
noncomputable def encL(l:List Lk)(i:Nat):List W:=[lkA l i,prevW l i]
theorem encL_ok(l:List Lk){n:Nat}:∀y∈List.range n,purL (encL l y)=true/\(encL l y).length=2:=λy _=>⟨by simp[encL,purL],rfl⟩
theorem Zbq{n i:Nat}(h:i<n):(List.range n)[i]? =some i:=by rw[List.getElem?_range h]
theorem lkA_at{l:List Lk}{i:Nat}{x:Lk}(h:l[i]? =some x):lkA l i=lkG x:=by unfold lkA;rw[h]
theorem ceach_s(l:List Lk)(f:Bool):PS cfg G 130 [.fz (l.map lkG) 102 f] (.fn 196 [] [.fel (.fz (l.map lkG) 102 f)]):=by
 have hp:=xpq l;refine gI 13 Z (λR k0=>?_);refine yHq (fr2:=[(2,_)]) Xr ?_ Z Z
 (repeat (first|exact trivial|refine And.symm ⟨?_,_,rfl,?_⟩))<;>(repeat (first|exact .nil|refine .cons ?_ ?_|refine .fn ?_ ?_|(refine qFq Z ?_ rfl;(first|rfl|(focus (simp;done))))|(refine .sl Z ?_ rfl Xi;(first|rfl|(focus (simp;done))))|(refine .pur ?_;(first|rfl|(focus (simp;done))))|refine .agg ?_|refine .arr ?_|refine .tup ?_))
theorem prev_agg(l:List Lk)(i:Nat):∃a b c d,prevW l i= .agg 102 [a,b,c,d]:=by
 cases i with
 |zero=>exact⟨_,_,_,_,rfl⟩
 |succ i=>
  show∃a b c d,lkA l i=_
  unfold lkA;split<;>exact⟨_,_,_,_,rfl⟩
theorem ceach_it(l:List Lk)(f:Bool)(hb:l.length<=4611686018427387903):qkq cfg G 196 [.fel (.fz (l.map lkG) 102 f)] ((List.range l.length).map (encL l)):=by
 have e:(l.map lkG).length=l.length:=List.length_map _;refine xqq (fn:=Tryz.f196) Z Z Z (Zb rfl) (λL E R hy k0=>?_);refine z9q 8 Z (gZ 0 Z e (zbq 4 Z (co_ent (ent_blkv (b:=0) (w':=lkZ) rfl (.agg (.cons (.agg (.cons (.pur rfl) (.cons jLq (.cons jLq (.cons jLq (.cons (.pur rfl) .nil)))))) (.cons (.pur rfl) (.cons (.pur rfl) (.cons (.pur rfl) .nil)))))) ?_)));refine co_loopR (α:=Nat×Res) (λp=>p.1<=l.length/\Yl cfg G L E (((List.range l.length).drop p.1).map (encL l)) p.2) (λp=>[(8,.int .i64 (p.1:Int))]) [(0,_),(3,_),(6,_),(7,_)] (λp=>[(0,88,prevW l p.1)]) (λp=>p.2) (λp=>l.length-p.1) ((0,R)) ⟨rfl,rfl,rfl,rfl,trivial⟩ (⟨Nat.zero_le _,hy⟩) ⟨rfl,trivial⟩ Z Z (λp hI=>?_);obtain⟨i,R⟩:=p;obtain⟨hi,hy⟩:=hI;simp only at hi hy⊢;refine z9q 6 Z ?_;refine gS 0 Z (λh1=>?_) (λh1=>?_)
 ·have hi':i<l.length:=by omega
  obtain⟨x,hx⟩:∃x,l[i]? =some x:=⟨_,List.getElem?_eq_getElem hi'⟩
  rw[Yiq (Zbq hi'),List.map_cons] at hy;have ex:=lkA_at hx;obtain⟨a,b,c,d,hp⟩:=prev_agg l i;have hv:purW (.agg 102 [a,b,c,d])=true:=hp▸prev_pur l i
  rw[show encL l i=[lkG x,.agg 102 [a,b,c,d]] by unfold encL;rw[ex,hp]] at hy;rw[hp];refine gP 6 Z (zGq (i:=i) Z Z Z Z Z Z Z (znq lkG hx)) ?_;refine gSo 11 Z (qNq Z Z Z (hy) (λb R1 hb=>?_));refine gS 3 Z (λh2=>?_) (λh2=>?_)
  ·cases b with
   |true=>cases h2
   |false=>
    exact zLq 4 Z (q4q Xi (zZq 1 Z (kfq Qm rfl hb)))
  ·cases b with
   |false=>exact absurd rfl h2
   |true=>
    refine zLq 9 Z (gA 0 Z (i+1) (zbq 2 Z ?_));rw[show lkG x=prevW l (i+1) from ex.symm];exact QUq ((i+1,R1)) (⟨hi',hb⟩) Yf (Nat.zero_le _) ⟨rfl,trivial⟩ ⟨rfl,rfl,rfl,rfl,trivial⟩ Xh Xh Xd Xk Xz rfl
 ·refine zbq 2 Z (q4q Xi (zZq 1 Z ?_));obtain rfl:i=l.length:=by omega
  rw[List.drop_of_length_le Xl] at hy;exact kfq (.inl rfl) rfl hy
structure Ln where
 (who:Dig) (txs:List Tx)
noncomputable def lnW(l:Ln):W:=.agg 33 [dW l.who,.fz (l.txs.map txW) 99 false]
@[simp] theorem Q6q(l:Ln):purW (lnW l)=true:=by simp[lnW,purW,purL]
@[simp] theorem vyq(l:List Ln):purL (l.map lnW)=true:=zPq Q6q l
abbrev Shd:=List Ln
noncomputable def shdW(s:Shd):W:=.agg 1 [.fz (s.map lnW) 33 false]
@[simp] theorem shdW_pur(s:Shd):purW (shdW s)=true:=by simp[shdW,purW,purL]
@[simp] theorem jAq(l:List Shd):purL (l.map shdW)=true:=zPq shdW_pur l
noncomputable def plW(l:List Shd):W:=.fz (l.map shdW) 1 false
@[simp] theorem plW_pur(l:List Shd):purW (plW l)=true:=(jAq l:purL (l.map shdW)=true)
def OwnX(x:Tx)(k:Dig):Prop:=x.sign=ucq x/\keyD x.pub=k
noncomputable instance(x:Tx)(k:Dig):Decidable (OwnX x k):=Classical.propDecidable _
theorem own_s(x:Tx)(hx:x.ok)(k:Dig):PS cfg glK 201 [txW x,dW k] (.bool (decide (OwnX x k))):=by
 by_cases h1:x.sign=ucq x
 ·by_cases h2:keyD x.pub=k
  ·skip
   exact gI 10 Z (λR k0=>gC 0 Z (zxq (w':=.int .i64 0) (jNq x hx) (by rw[if_pos h1])) (gT 0 Z (eqI_iff.2 (rfl)) (gC 2 Z (from_s x) (zbq 1 Z (xxq (w':=.bool true) rfl (yCq Z Z Z Z (y1q Z Z Z Z Z Z (keyD x.pub) k 250)) Qk (qiq 5 Z (gQ 0 Z (v6q ⟨h1,h2⟩))))))))
  ·skip
   exact gI 10 Z (λR k0=>gC 0 Z (zxq (w':=.int .i64 0) (jNq x hx) (by rw[if_pos h1])) (gT 0 Z (eqI_iff.2 (rfl)) (gC 2 Z (from_s x) (zbq 1 Z (xxq (w':=.bool false) rfl (yCq Z Z Z Z (y1q Z Z Z Z Z Z (keyD x.pub) k 250)) (by rw[decide_eq_false h2]) (qiq 5 Z (gQ 0 Z (y2q λq=>h2 q.2))))))))
 ·skip
  exact gI 10 Z (λR k0=>gC 0 Z (zxq (w':=.int .i64 110) (jNq x hx) (by rw[if_neg h1])) (gF 0 Z (eqI_not.2 Xg) (gQ 10 Z (y2q λq=>h1 q.1))))
def LnM(l:Ln):Prop:=l.txs.length<=256/\∀(i:Nat) x,l.txs[i]? =some x->OwnX x l.who/\∀y,0<i->l.txs[i-1]? =some y->y.nonce<x.nonce
noncomputable instance(l:Ln):Decidable (LnM l):=Classical.propDecidable _
theorem Zcq(l:Ln)(hx:∀x∈l.txs,x.ok)(hl:l.txs.length<=4611686018427387903):PS cfg glK 144 [lnW l] (.int .i64 (if LnM l then 0 else 8)):=by
 have e:(l.txs.map txW).length=l.txs.length:=List.length_map _;by_cases h0:l.txs.length<=256
 ·skip
  refine gI 11 Z (λR k0=>gZ 0 Z e (gF 0 Z (ltI_not.2 Xd) (gZ 10 Z e ?_)));refine gLo (α:=Nat) 4 (λi=>i<=l.txs.length/\∀(j:Nat) x,j<i->l.txs[j]? =some x->OwnX x l.who/\∀y,0<j->l.txs[j-1]? =some y->y.nonce<x.nonce) (λi=>[(12,.int .i64 (i:Int))]) [1,2,10,11] (λi=>l.txs.length-i) (0) rfl (⟨Nat.zero_le _,λj x h=>by omega⟩) (λi hI=>?_);obtain⟨g1,g2⟩:=hI;refine gS 6 Z (λh1=>?_) (λh1=>?_)
  ·obtain⟨x,hxi⟩:∃x,l.txs[i]? =some x:=⟨_,List.getElem?_eq_getElem Xd⟩
   have hok:=hx x (List.mem_of_getElem? hxi);skip
   by_cases ho:OwnX x l.who
   ·rcases Nat.eq_zero_or_pos i with rfl|hp
    ·exact gP 7 Z (zGq (i:=0) Z Z Z Z Z Z Z (znq txW hxi)) (gC 11 Z (zxq (w':=.bool true) (own_s x hok l.who) (by rw[decide_eq_true (ho)])) (gF 3 Z (ltI_not.2 Xd) (gWr 20 Z (gAg 2 Z (0+1) (⟨by omega,λj z hj hz=>by have q0:j=0:=Xd;subst q0;have:=Option.some.inj (hxi.symm.trans hz);subst this;exact⟨ho,λy h=>absurd h Xg⟩⟩) Xd))))
    ·obtain⟨y,hy⟩:∃y,l.txs[i-1]? =some y:=⟨_,List.getElem?_eq_getElem Xd⟩
     by_cases hn:y.nonce<x.nonce
     ·exact gP 7 Z (zGq (i:=i) Z Z Z Z Z Z Z (znq txW hxi)) (gC 11 Z (zxq (w':=.bool true) (own_s x hok l.who) (by rw[decide_eq_true (ho)])) (gT 3 Z (ltI_iff.2 Xd) (gA 4 Z (i-1) (gP 0 Z (zGq (i:=i-1) Z Z Z Z Z Z Z (znq txW hy)) (gF 4 Z (congrArg not (ltI_iff.2 Xd)) (gWr 9 Z (gAg 2 Z (i+1) (⟨by omega,λj z hj hz=>by rcases Nat.lt_succ_iff_lt_or_eq.1 hj with q|rfl;exact g2 j z q hz;have:=Option.some.inj (hxi.symm.trans hz);subst this;exact⟨ho,λw _ hw=>by have:=Option.some.inj (hy.symm.trans hw);subst this;exact hn⟩⟩) Xd)))))))
     ·exact gP 7 Z (zGq (i:=i) Z Z Z Z Z Z Z (znq txW hxi)) (gC 11 Z (zxq (w':=.bool true) (own_s x hok l.who) (by rw[decide_eq_true (ho)])) (gT 3 Z (ltI_iff.2 Xd) (gA 4 Z (i-1) (gP 0 Z (zGq (i:=i-1) Z Z Z Z Z Z Z (znq txW hy)) (gT 4 Z (congrArg not (ltI_not.2 Xd)) (gO 13 Z (gQ 2 Z (by rw[if_neg λq:LnM l=>hn ((q.2 i x hxi).2 y hp hy)]))))))))
   ·exact gP 7 Z (zGq (i:=i) Z Z Z Z Z Z Z (znq txW hxi)) (gC 11 Z (zxq (w':=.bool false) (own_s x hok l.who) (by rw[decide_eq_false (ho)])) (gO 28 Z (gQ 2 Z (by rw[if_neg λq:LnM l=>ho (q.2 i x hxi).1]))))
  ·have yes:LnM l:=⟨h0,λj x hj=>g2 j x Yw hj⟩;exact gO 2 Z (gQ 8 Z Yk)
 ·skip
  exact gI 11 Z (λR k0=>gZ 0 Z e (gT 0 Z (ltI_iff.2 Xd) (gQ 10 Z (by rw[if_neg λq:LnM l=>h0 q.1]))))
structure OkL(l:Ln):Prop where
 txs:∀x∈l.txs,x.ok
 len:l.txs.length<=4611686018427387903
def ShM(s:Shd):Prop:=∀(i:Nat) l,s[i]? =some l->(l.txs.length≠0/\LnM l)/\∀p,0<i->s[i-1]? =some p->q5q p.who l.who=true
noncomputable instance(s:Shd):Decidable (ShM s):=Classical.propDecidable _
theorem ZAq(s:Shd)(hx:∀l∈s,OkL l)(hl:s.length<=4611686018427387903):PS cfg glK 75 [shdW s] (.int .i64 (if ShM s then 0 else 8)):=by
 have e:(s.map lnW).length=s.length:=List.length_map _;refine gI 11 Z (λR k0=>gZ 0 Z e ?_);refine gLo (α:=Nat) 4 (λi=>i<=s.length/\∀(j:Nat) l,j<i->s[j]? =some l->(l.txs.length≠0/\LnM l)/\∀p,0<j->s[j-1]? =some p->q5q p.who l.who=true) (λi=>[(8,.int .i64 (i:Int))]) [1,2,6,7] (λi=>s.length-i) (0) rfl (⟨Nat.zero_le _,λj x h=>by omega⟩) (λi hI=>?_);obtain⟨g1,g2⟩:=hI;refine gS 6 Z (λh1=>?_) (λh1=>?_)
 ·obtain⟨l,hli⟩:∃l,s[i]? =some l:=⟨_,List.getElem?_eq_getElem Xd⟩
  obtain⟨o1,o2⟩:=hx l (List.mem_of_getElem? hli);have e2:(l.txs.map txW).length=l.txs.length:=List.length_map _;skip
  by_cases h0:l.txs.length=0
  ·exact gP 7 Z (zGq (i:=i) Z Z Z Z Z Z Z (znq lnW hli)) (gZ 10 Z e2 (gT 0 Z (eqI_iff.2 Xd) (gO 33 Z (gQ 2 Z (by rw[if_neg λq:ShM s=>(q i l hli).1.1 h0])))))
  ·by_cases hm:LnM l
   ·rcases Nat.eq_zero_or_pos i with rfl|hp
    ·exact gP 7 Z (zGq (i:=0) Z Z Z Z Z Z Z (znq lnW hli)) (gZ 10 Z e2 (gF 0 Z (eqI_not.2 Xd) (gC 2 Z (zxq (w':=.int .i64 0) (Zcq l o1 o2) Yh) (gF 0 Z (congrArg not (eqI_iff.2 (rfl))) (gF 3 Z (ltI_not.2 Xd) (gWr 21 Z (gAg 2 Z (0+1) (⟨by omega,λj z hj hz=>by have q0:j=0:=Xd;subst q0;have:=Option.some.inj (hli.symm.trans hz);subst this;exact⟨⟨h0,hm⟩,λy h=>absurd h Xg⟩⟩) Xd)))))))
    ·obtain⟨p,hpi⟩:∃y,s[i-1]? =some y:=⟨_,List.getElem?_eq_getElem Xd⟩
     by_cases hn:q5q p.who l.who=true
     ·exact gP 7 Z (zGq (i:=i) Z Z Z Z Z Z Z (znq lnW hli)) (gZ 10 Z e2 (gF 0 Z (eqI_not.2 Xd) (gC 2 Z (zxq (w':=.int .i64 0) (Zcq l o1 o2) Yh) (gF 0 Z (congrArg not (eqI_iff.2 (rfl))) (gT 3 Z (ltI_iff.2 Xd) (gA 4 Z (i-1) (gP 0 Z (zGq (i:=i-1) Z Z Z Z Z Z Z (znq lnW hpi)) (gC 4 Z (zxq (w':=.bool true) (ahead_s p.who l.who) (by rw[hn])) (gWr 10 Z (gAg 2 Z (i+1) (⟨by omega,λj z hj hz=>by rcases Nat.lt_succ_iff_lt_or_eq.1 hj with q|rfl;exact g2 j z q hz;have:=Option.some.inj (hli.symm.trans hz);subst this;exact⟨⟨h0,hm⟩,λw _ hw=>by have:=Option.some.inj (hpi.symm.trans hw);subst this;exact hn⟩⟩) Xd))))))))))
     ·have hn':q5q p.who l.who=false:=by simpa using hn
      exact gP 7 Z (zGq (i:=i) Z Z Z Z Z Z Z (znq lnW hli)) (gZ 10 Z e2 (gF 0 Z (eqI_not.2 Xd) (gC 2 Z (zxq (w':=.int .i64 0) (Zcq l o1 o2) Yh) (gF 0 Z (congrArg not (eqI_iff.2 (rfl))) (gT 3 Z (ltI_iff.2 Xd) (gA 4 Z (i-1) (gP 0 Z (zGq (i:=i-1) Z Z Z Z Z Z Z (znq lnW hpi)) (gC 4 Z (zxq (w':=.bool false) (ahead_s p.who l.who) (by rw[hn'])) (gO 14 Z (gQ 2 Z (by rw[if_neg λq:ShM s=>hn ((q i l hli).2 p hp hpi)])))))))))))
   ·exact gP 7 Z (zGq (i:=i) Z Z Z Z Z Z Z (znq lnW hli)) (gZ 10 Z e2 (gF 0 Z (eqI_not.2 Xd) (gC 2 Z (zxq (w':=.int .i64 8) (Zcq l o1 o2) (by rw[if_neg hm])) (gT 0 Z (congrArg not (eqI_not.2 Xg)) (gO 29 Z (gQ 2 Z (by rw[if_neg λq:ShM s=>hm (q i l hli).1.2])))))))
 ·have yes:ShM s:=λj x hj=>g2 j x Yw hj
  exact gO 2 Z (gQ 8 Z Yk)
structure Eve where
 (number:Int) (roll:Bool) (hdr:Hdr)
noncomputable def eveW(e:Eve):W:=.agg 100 [.int .i64 e.number,.bool e.roll,hdW e.hdr]
@[simp] theorem k1q(e:Eve):purW (eveW e)=true:=by simp[eveW,purW,purL]
@[simp] theorem Zlq(l:List Eve):purL (l.map eveW)=true:=zPq k1q l
structure Itm where
 (gap:Bool) (ev:Eve)
noncomputable def itmW(x:Itm):W:=.agg 101 [.bool x.gap,eveW x.ev]
@[simp] theorem kWq(x:Itm):purW (itmW x)=true:=by simp[itmW,purW,purL]
@[simp] theorem Q9q(l:List Itm):purL (l.map itmW)=true:=zPq kWq l
structure Tp where
 (items:List Itm) (lost:Bool)
noncomputable def tpW(t:Tp):W:=.agg 2 [.fz (t.items.map itmW) 101 false,.bool t.lost]
@[simp] theorem QCq(t:Tp):purW (tpW t)=true:=by simp[tpW,purW,purL]
structure Sb where
 (id beg:Int) (tap:Tp)
noncomputable def sbW(s:Sb):W:=.agg 4 [.int .i64 s.id,.int .i64 s.beg,tpW s.tap]
@[simp] theorem sbW_pur(s:Sb):purW (sbW s)=true:=by simp[sbW,purW,purL]
@[simp] theorem QMq(l:List Sb):purL (l.map sbW)=true:=zPq sbW_pur l
structure Hb where
 (next:Int) (subs:List Sb)
noncomputable def hbW(h:Hb):W:=.agg 2 [.int .i64 h.next,.fz (h.subs.map sbW) 4 false]
@[simp] theorem hbW_pur(h:Hb):purW (hbW h)=true:=by simp[hbW,purW,purL]
def EveM(e:Eve):Prop:=(0<=e.number/\e.number<1073741824)/\okH e.hdr
noncomputable instance(e:Eve):Decidable (EveM e):=Classical.propDecidable _
theorem Jjq(e:Eve):PS cfg G 71 [eveW e] (.bool (decide (EveM e))):=by
 by_cases h0:0<=e.number
 ·by_cases h1:e.number<1073741824
  ·by_cases h2:okH e.hdr
   ·skip
    exact gI 10 Z (λR k0=>gT 0 Z (congrArg not (ltI_not.2 Xd)) (gT 3 Z (ltI_iff.2 Xd) (gC 4 Z (zxq (w':=.int .i64 0) (kXq e.hdr) (by rw[if_pos h2])) (gT 0 Z (eqI_iff.2 (rfl)) (gQ 5 Z (v6q ⟨⟨h0,h1⟩,h2⟩))))))
   ·skip
    exact gI 10 Z (λR k0=>gT 0 Z (congrArg not (ltI_not.2 Xd)) (gT 3 Z (ltI_iff.2 Xd) (gC 4 Z (zxq (w':=.int .i64 8) (kXq e.hdr) (by rw[if_neg h2])) (gF 0 Z (eqI_not.2 Xg) (gQ 5 Z (y2q λq=>h2 q.2))))))
  ·skip
   exact gI 10 Z (λR k0=>gT 0 Z (congrArg not (ltI_not.2 Xd)) (gF 3 Z (ltI_not.2 Xd) (gQ 11 Z (y2q λq=>h1 q.1.2))))
 ·skip
  exact gI 10 Z (λR k0=>gF 0 Z (congrArg not (ltI_iff.2 Xd)) (gQ 15 Z (y2q λq=>h0 q.1.1)))
theorem Y1q(n:Int):PS cfg G 82 [.int .i64 n] (.bool (decide (0<=n/\n<1073741824))):=by
 by_cases h0:0<=n
 ·by_cases h1:n<1073741824
  ·skip
   exact gI 8 Z (λR k0=>gT 0 Z (congrArg not (ltI_not.2 Xd)) (gT 2 Z (ltI_iff.2 Xd) (gQ 5 Z (v6q ⟨h0,h1⟩))))
  ·skip
   exact gI 8 Z (λR k0=>gT 0 Z (congrArg not (ltI_not.2 Xd)) (gF 2 Z (ltI_not.2 Xd) (gQ 5 Z (y2q λq=>h1 q.2))))
 ·skip
  exact gI 8 Z (λR k0=>gF 0 Z (congrArg not (ltI_iff.2 Xd)) (gQ 8 Z (y2q λq=>h0 q.1)))
theorem clit_s(l:List Itm)(f:Bool)(hl:l.length<=1000000000):PS cfg G 143 [.fz (l.map itmW) 101 f] (.fz (l.map itmW) 101 false):=by
 have e:(l.map itmW).length=l.length:=List.length_map _;have hp:∀l:List Itm,purL (l.map itmW)=true:=zPq kWq
 refine gI 9 Z (λR k0=>?_);first|refine yVq Z Z ?_|refine z5q rfl (qUq Z Z Z Z Z (λbn hn=>?_))
 refine zpq 2 Z ?_;refine gS 0 Z (λh1=>?_) (λh1=>?_)
 ·cases bn with
  |false=>cases h1
  |true=>
   obtain rfl:l=[]:=List.map_eq_nil_iff.1 (hn rfl);exact zLq 7 Z (yHq (fr2:=[(2,.fz [] 101 false)]) Qm ⟨⟨_,rfl,.nilfz⟩,trivial⟩ Z Z)
 ·cases l with
  |nil=>
   skip
   exact zLq 6 Z (gM 0 Z (ySq Z Z (jdq Z Z Z Z Z)) (zbq 4 Z (yHq (fr2:=[(2,.fz [] 101 false)]) Qm ⟨⟨_,rfl,.sl Z Z Z Xi⟩,trivial⟩ Z Z)))
  |cons c l=>
   simp only[List.length_cons] at hl e;exact zLq 6 Z (gM 0 Z (ySq Z Z (qEq (news:=(c::l).map itmW) (olds:=[]) Z Z Z Z Z Xl (by show(0+((c::l).map itmW).length)*136<=_;rw[e];omega) Yj rfl (by show 0<0+(0+((c::l).map itmW).length)*101;rw[e];omega) Z Z)) (zbq 4 Z (yHq (fr2:=[(2,.fz ((c::l).map itmW) 101 false)]) Qm ⟨⟨_,rfl,.sl rfl (hp _) (zJq Xg (Nat.zero_add _) Qj) Xi⟩,trivial⟩ Z Z)))
theorem clev_s(l:List Eve)(f:Bool)(hl:l.length<=1000000000):PS cfg G 88 [.fz (l.map eveW) 100 f] (.fz (l.map eveW) 100 false):=by
 have e:(l.map eveW).length=l.length:=List.length_map _;have hp:∀l:List Eve,purL (l.map eveW)=true:=zPq k1q
 refine gI 9 Z (λR k0=>?_);first|refine yVq Z Z ?_|refine z5q rfl (qUq Z Z Z Z Z (λbn hn=>?_))
 refine zpq 2 Z ?_;refine gS 0 Z (λh1=>?_) (λh1=>?_)
 ·cases bn with
  |false=>cases h1
  |true=>
   obtain rfl:l=[]:=List.map_eq_nil_iff.1 (hn rfl);exact zLq 7 Z (yHq (fr2:=[(2,.fz [] 100 false)]) Qm ⟨⟨_,rfl,.nilfz⟩,trivial⟩ Z Z)
 ·cases l with
  |nil=>
   skip
   exact zLq 6 Z (gM 0 Z (ySq Z Z (jdq Z Z Z Z Z)) (zbq 4 Z (yHq (fr2:=[(2,.fz [] 100 false)]) Qm ⟨⟨_,rfl,.sl Z Z Z Xi⟩,trivial⟩ Z Z)))
  |cons c l=>
   simp only[List.length_cons] at hl e;exact zLq 6 Z (gM 0 Z (ySq Z Z (qEq (news:=(c::l).map eveW) (olds:=[]) Z Z Z Z Z Xl (by show(0+((c::l).map eveW).length)*128<=_;rw[e];omega) Yj rfl (by show 0<0+(0+((c::l).map eveW).length)*100;rw[e];omega) Z Z)) (zbq 4 Z (yHq (fr2:=[(2,.fz ((c::l).map eveW) 100 false)]) Qm ⟨⟨_,rfl,.sl rfl (hp _) (zJq Xg (Nat.zero_add _) Qj) Xi⟩,trivial⟩ Z Z)))
theorem tptw_s(t:Tp)(hl:t.items.length<=1000000000):PS cfg G 73 [tpW t] (tpW t):=by
 have hp:=Q9q t.items;exact gIv 10 Z (λR k0=>gC 0 Z (clit_s t.items false hl) (zbq 11 Z (k0q Qm rfl (.pur (QCq t)))))
theorem lntw_s(l:Ln)(hl:l.txs.length<=1000000000):PS cfg G 205 [lnW l] (lnW l):=by
 have hp:=qmq l.txs;exact gIv 12 Z (λR k0=>gC 0 Z (clx_s l.txs false hl) (zbq 5 Z (k0q Qm rfl (.pur (Q6q l)))))
noncomputable def lnA(l:List Ln):W:=.arr (l.length*33) 33 (l.map lnW)
theorem lnA_pur(l:List Ln):purW (lnA l)=true:=(zPq Q6q l:purL (l.map lnW)=true)
theorem lncl_s(l:List Ln)(f:Bool)(hl:l.length<=1000000000):qbq cfg G 204 0 [.fz (l.map lnW) 33 f] [] λw hp nw=>
  (l=[]/\w= .nils/\hp=[]/\nw=0)\/(w= .sl 0 0 0 l.length 33 none/\hp=[(0,133,lnA l)]/\nw=1):=by
 intro R;have e:(l.map lnW).length=l.length:=List.length_map _;have hpp:=lnA_pur l;refine gIs 9 Z (λk0=>?_);first|refine yVq Z Z ?_|refine z5q rfl (qUq Z Z Z Z Z (λbn hn=>?_))
 refine zpq 2 Z ?_;refine gS 0 Z (λh1=>?_) (λh1=>?_)
 ·cases bn with
  |false=>cases h1
  |true=>
   obtain rfl:l=[]:=List.map_eq_nil_iff.1 (hn rfl);exact zLq 7 Z (fin Qm Ent.refl rfl ⟨rfl,.inl ⟨rfl,rfl,rfl,rfl⟩⟩)
 ·cases l with
  |nil=>
   skip
   exact zLq 6 Z (gM 0 Z (ySq Z Z (jdq Z Z Z Z Z)) (zbq 4 Z (fin Qm Ent.refl rfl ⟨rfl,.inr ⟨rfl,rfl,rfl⟩⟩)))
  |cons c l=>
   refine zLq 6 Z (gM 0 Z (ySq Z Z (qEq (len:=0) (news:=(c::l).map lnW) (olds:=[]) (k:=ti133) Z Z Z Z Z Xl (by show(0+((c::l).map lnW).length)*56<=_;rw[e];omega) Yj rfl (by show 0<0+(0+((c::l).map lnW).length)*33;rw[e];simp only[List.length_cons];omega) Z Z)) (zbq 4 Z ?_));refine fin Qm (yPq (b:=0) (k:=1) (fr2:=[(2,.sl 0 0 0 (c::l).length 33 none)]) (hp2:=[(0,133,lnA (c::l))]) Xd Xd (by show 1<2;omega) ⟨⟨?_,rfl⟩,trivial⟩ ⟨⟨by omega,?_,zfq hpp⟩,trivial⟩ Xl) rfl ⟨rfl,.inr ⟨rfl,rfl,rfl⟩⟩
   ·show some (W.sl 1 0 0 (0+((c::l).map lnW).length) 33 none)=some (W.sl 1 0 0 (c::l).length 33 none);rw[e,Nat.zero_add]
   ·rw[zoq hpp];show some (133,W.arr ((0+((c::l).map lnW).length)*33) 33 ([]++(c::l).map lnW))=some (133,lnA (c::l));rw[e,Nat.zero_add];rfl
noncomputable def sbA(l:List Sb):W:=.arr (l.length*4) 4 (l.map sbW)
theorem sbA_pur(l:List Sb):purW (sbA l)=true:=(zPq sbW_pur l:purL (l.map sbW)=true)
theorem sbcl_s(l:List Sb)(f:Bool)(hl:l.length<=1000000000):qbq cfg G 150 0 [.fz (l.map sbW) 4 f] [] λw hp nw=>
  (l=[]/\w= .nils/\hp=[]/\nw=0)\/(w= .sl 0 0 0 l.length 4 none/\hp=[(0,175,sbA l)]/\nw=1):=by
 intro R;have e:(l.map sbW).length=l.length:=List.length_map _;have hpp:=sbA_pur l;refine gIs 9 Z (λk0=>?_);first|refine yVq Z Z ?_|refine z5q rfl (qUq Z Z Z Z Z (λbn hn=>?_))
 refine zpq 2 Z ?_;refine gS 0 Z (λh1=>?_) (λh1=>?_)
 ·cases bn with
  |false=>cases h1
  |true=>
   obtain rfl:l=[]:=List.map_eq_nil_iff.1 (hn rfl);exact zLq 7 Z (fin Qm Ent.refl rfl ⟨rfl,.inl ⟨rfl,rfl,rfl,rfl⟩⟩)
 ·cases l with
  |nil=>
   skip
   exact zLq 6 Z (gM 0 Z (ySq Z Z (jdq Z Z Z Z Z)) (zbq 4 Z (fin Qm Ent.refl rfl ⟨rfl,.inr ⟨rfl,rfl,rfl⟩⟩)))
  |cons c l=>
   refine zLq 6 Z (gM 0 Z (ySq Z Z (qEq (len:=0) (news:=(c::l).map sbW) (olds:=[]) (k:=ti175) Z Z Z Z Z Xl (by show(0+((c::l).map sbW).length)*48<=_;rw[e];omega) Yj rfl (by show 0<0+(0+((c::l).map sbW).length)*4;rw[e];simp only[List.length_cons];omega) Z Z)) (zbq 4 Z ?_));refine fin Qm (yPq (b:=0) (k:=1) (fr2:=[(2,.sl 0 0 0 (c::l).length 4 none)]) (hp2:=[(0,175,sbA (c::l))]) Xd Xd (by show 1<2;omega) ⟨⟨?_,rfl⟩,trivial⟩ ⟨⟨by omega,?_,zfq hpp⟩,trivial⟩ Xl) rfl ⟨rfl,.inr ⟨rfl,rfl,rfl⟩⟩
   ·show some (W.sl 1 0 0 (0+((c::l).map sbW).length) 4 none)=some (W.sl 1 0 0 (c::l).length 4 none);rw[e,Nat.zero_add]
   ·rw[zoq hpp];show some (175,W.arr ((0+((c::l).map sbW).length)*4) 4 ([]++(c::l).map sbW))=some (175,sbA (c::l));rw[e,Nat.zero_add];rfl
end
section
variable {C:Cfg} {G:Nat->Option W} {o:Oper} {fr:FrW} {hp:HpW} {nw:Nat} {R:Res} {post:W->HpW->Nat->Res->Option EvW->Prop}
theorem step_frz1{w w2 c:W}{ty:TypeId}(h:opHW C G fr hp nw o.op=some (w,(nw,ty,c)::hp,nw+1,.gen))(hc:purW c=true)(hv:View (blk1 nw c) w w2)(hpost:post w2 hp (nw+1) R (some .gen)):Step C G o fr hp nw R post:=λΓ X frv hnw s hf=>by
 subst hnw;obtain⟨v,h',Γ',h1,h2,h3,h4⟩:=opH_sim (rt:=o.type) hf s h;have sat:=h3.sat;have hb:hget ((Γ.nw,ty,c)::hp) Γ.nw=some (ty,c):=by rw[zgq,if_pos rfl]
 obtain⟨p1,p2,p3,u,p4,p5⟩:=sat.own _ _ _ hb;let Γ2:Ctx:=⟨Γ'.nw,Γ'.σ,λd=>Γ'.D d\/d=Γ'.σ Γ.nw,Γ'.h⟩
 have le:Γ'.Le Γ2:=⟨Nat.le_refl _,λ_ _=>rfl,λ_ h=>.inl h,λ_ _=>rfl⟩
 have q:Seen (blk1 Γ.nw c) Γ' Γ2:=⟨λ_ h _=>h,λ_ _ _=>rfl,λ_ h=>.inl h,λ_ _=>rfl,λk c' hk h=>by
  unfold blk1 at h;split at h
  ·rename_i e;rw[Nat.beq_eq] at e;subst e;cases h;exact⟨.inr rfl,u,xJq p4,p5⟩
  ·cases h⟩
 have hlt:Γ'.σ Γ.nw<Γ'.h.next:=by
  rcases Nat.lt_or_ge (Γ'.σ Γ.nw) Γ'.h.next with h|h
  ·exact h
  ·rw[sat.wf _ h] at p4;cases p4
 have hsub:∀k x,hget hp k=some x->k<Γ.nw/\hget ((Γ.nw,ty,c)::hp) k=some x:=λk x hk=>by
  have:=(s.own k x.1 x.2 hk).1;exact⟨this,by rw[zgq,if_neg Xd];exact hk⟩
 refine⟨0,w2,hp,R,some .gen,v,h',Γ2,X,?_,by simp only[opV,h1,h2],⟨h1,h4⟩,h3.hh,⟨Nat.le_trans h3.le.nw le.nw,h3.le.σ,λd h=>.inl (h3.le.D d h),h3.le.val⟩,⟨sat.wf,λk ty' w hk=>?_,λk k' x y hx hy e=>?_,s.nd,λd hd hX=>?_,sat.xlt,λd hd=>?_,R.st _ _ _ _ _ sat.res le.D le.val (λ_ _=>rfl) (Nat.le_refl _),sat.gl.mono le⟩,⟨h3.frm.sig,h3.frm.mle,h3.frm.next,h3.frm.keep,λd h=>.inl (h3.frm.dsub d h),λd hd=>?_,λk x _ hk=>⟨x,hk⟩,λk x hm hk=>?_,λ_ h=>.inl h,h3.frm.wmin⟩,jMq q hv h3.val⟩
 ·show post w2 hp Γ'.nw R _;rw[h3.nw];exact hpost
 ·obtain⟨g1,g2⟩:=hsub k _ hk;obtain⟨q1,q2,q3,u,q4,q5⟩:=sat.own _ _ _ g2;exact⟨q1,λh=>h.elim q2 λe=>by have:=sat.inj k _ _ _ g2 hb e;omega,q3,u,q4,q5.mono le⟩
 ·exact sat.inj _ _ _ _ (hsub k _ hx).2 (hsub k' _ hy).2 e
 ·rcases hd with h|rfl
  ·exact sat.dX d h hX
  ·exact p3 hX
 ·rcases hd with h|rfl
  ·exact sat.dlt d h
  ·exact hlt
 ·rcases hd with h|rfl
  ·exact h3.frm.dnew d h
  ·rcases h3.frm.onum Γ.nw _ (Nat.le_refl _) hb with h|⟨k,y,g1,g2,g3⟩
   ·exact .inr (.inr h)
   ·exact .inr (.inl (.inl ⟨k,y,g2,g3⟩))
 ·have:=(hsub k _ hk).1;omega
theorem step_nilz{w w2:W}(h:opHW C G fr hp nw o.op=some (w,hp,nw,.gen))(hv:View (λ_=>none) w w2)(hpost:post w2 hp (nw+1) R (some .gen)):Step C G o fr hp nw R post:=λΓ X frv hnw s hf=>by
 subst hnw;obtain⟨v,h',Γ',h1,h2,h3,h4⟩:=opH_sim (rt:=o.type) hf s h;have sat:=h3.sat;let Γ2:Ctx:=⟨Γ'.nw+1,Γ'.σ,Γ'.D,Γ'.h⟩
 have le:Γ'.Le Γ2:=⟨Nat.le_succ _,λ_ _=>rfl,λ_ h=>h,λ_ _=>rfl⟩;refine⟨0,w2,hp,R,some .gen,v,h',Γ2,X,?_,by simp only[opV,h1,h2],⟨h1,h4⟩,h3.hh,⟨Nat.le_trans h3.le.nw le.nw,h3.le.σ,h3.le.D,h3.le.val⟩,⟨sat.wf,λk ty' w hk=>?_,sat.inj,s.nd,sat.dX,sat.xlt,sat.dlt,R.st _ _ _ _ _ sat.res le.D le.val (λ_ _=>rfl) (Nat.le_refl _),sat.gl.mono le⟩,⟨h3.frm.sig,λh=>Nat.le_trans (h3.frm.mle h) (Nat.le_succ _),h3.frm.next,h3.frm.keep,h3.frm.dsub,h3.frm.dnew,h3.frm.oext,h3.frm.onum,λ_ h=>.inl h,h3.frm.wmin⟩,jMq (show Seen (λ_=>none) Γ' Γ2 from⟨λ_ h _=>Nat.lt_succ_of_lt h,λ_ _ _=>rfl,λ_ h=>h,λ_ _=>rfl,λ_ _ _ h=>Qd⟩) hv h3.val⟩
 ·show post w2 hp (Γ'.nw+1) R _;rw[h3.nw];exact hpost
 ·obtain⟨q1,q2,q3,u,q4,q5⟩:=sat.own _ _ _ hk;exact⟨Nat.lt_of_lt_of_le q1 (Nat.le_succ _),q2,q3,u,q4,q5.mono le⟩
theorem step_ap0{x y:Operand}{ts tx ty:TypeId}{j k:TyI}{e:Nat}{v:W}{news:List W}(ho:o.op= .call ⟨.builtin .append, #[x,y], #[ts,tx]⟩)(hx:evW C G fr x=some .nils)(hy:evW C G fr y=some v)(hj:C.ty ts=some j)(hd:j.d= .slice ty)(hk:C.ty ty=some k)(he:k.size=e)(hz:Nat.beq k.size 0=false)(hs:srcW C hp tx k.size v=some news)(hpu:purL news=true)(h1:news.length*k.bytes<=140737488355328)(h2:news.length<=70368744177664)(h:post (.fz news e false) hp (nw+1) R (some .gen)):Step C G o fr hp nw R post:=by
 subst he
 have hk0:0<k.size:=by
  rcases Nat.eq_zero_or_pos k.size with q|q
  ·rw[q] at hz;cases hz
  ·exact q
 cases news with
 |nil=>exact step_nilz (by rw[ho];exact ySq hx hy (app_nil0 hj hd hk hz hs)) .nilfz h
 |cons z zs=>
  exact step_frz1 (by rw[ho];exact ySq hx hy (uyq hj hd hk hz hs Xl h1 h2)) (show purW (.arr _ _ (z::zs))=true from hpu) (.sl (full:=false) (c:=.arr ((z::zs).length*k.size) k.size (z::zs)) (by unfold blk1;rw[Nat.beq_refl]) hpu (zJq hk0 Z Z) Xi) h
end
theorem pspec_view{C:Cfg}{G:Nat->Option W}{f:FuncId}{m:Nat}{ws ws':List W}{hp:HpW}{Q:W->HpW->Nat->Prop}(h:ViewL (λ_=>none) ws ws')(sp:qbq C G f m ws' hp Q):qbq C G f m ws hp Q:=λR Γ X vs h1 s hv=>
 sp R Γ X vs h1 s (xIq ⟨λ_ h _=>h,λ_ _ _=>rfl,λ_ h=>h,λ_ _=>rfl,λ_ _ _ h=>Qd⟩ h hv)
section
variable {G:Nat->Option W}
attribute [local simp] lnA_pur
theorem rv_one{Γ:Ctx}{x:W}{n:Nat}{v:V}(hs:x.size=n)(ha:x.isAgg=true):RV Γ (.arr n n [x]) v↔RV Γ x v:=by
 subst hs;constructor
 ·rintro⟨h1,h2⟩;simp only[RS,RSL] at h2;obtain⟨h2,_,h3,_⟩:=h2;rw[List.take_of_length_le Xd] at h3;exact⟨ha.trans h1,h3⟩
 ·rintro⟨h1,h2⟩;have h3:=qPq h2;refine⟨ha.symm.trans h1,?_⟩;simp only[RS,RSL];exact⟨h3,by simp,by rw[List.take_of_length_le Xd];exact h2,by rw[List.drop_of_length_le Xd]⟩
theorem ps_one{C:Cfg}{f:FuncId}{x r:W}{n:Nat}(hs:x.size=n)(ha:x.isAgg=true)(sp:PS C G f [x] r):PS C G f [.arr n n [x]] r:=λR Γ X vs h1 s hv=>
 sp R Γ X vs h1 s (by
  simp only[RVL] at hv⊢;obtain⟨v,vs',e,h,k⟩:=hv;exact⟨v,vs',e,(rv_one hs ha).1 h,k⟩)
attribute [local irreducible] CoW OpW FlW Step Spec
theorem lnA_ne{m i:Nat}(h:m≠1)(hi:i<m):(Nat.beq (0+i*33+0) 0&&Nat.beq 33 (m*33)&&true==true)=false:=by
 have:Nat.beq 33 (m*33)=false:=by
  cases q:Nat.beq 33 (m*33) with
  |false=>rfl
  |true=>have:=Nat.eq_of_beq_eq_true q;omega
 rw[this];simp
theorem lnA_get(s:Shd){i:Nat}{x:Ln}(h1:s.length≠1)(h:s[i]? =some x):zYq 50 (lnA s) (0+i*33+0) 33 true=some (lnW x):=get_in (znq lnW h) Xd Xd (lnA_ne h1 (List.getElem?_eq_some_iff.1 h).1) rfl
theorem lnA_put(s:Shd){i:Nat}{x:Ln}(h1:s.length≠1)(h:s[i]? =some x):yDq 50 (lnA s) (0+i*33+0) (lnW x)=some (lnA s):=by
 have hx:=znq lnW h;rw[lnA,put_in (x':=lnW x) hx Xd Xd (lnA_ne h1 (List.getElem?_eq_some_iff.1 h).1) rfl,QLq hx]
theorem shtw_s(s:Shd)(hl:s.length<=1000000000)(hx:∀l∈s,l.txs.length<=1000000000):PS cfg G 149 [shdW s] (shdW s):=by
 have hpp:=lnA_pur s;have hps:=vyq s;by_cases hs1:s.length=1
 ·obtain⟨x,rfl⟩:=List.length_eq_one_iff.1 hs1;refine gIv 10 Z (λR k0=>?_);skip
  refine gSo 0 Z (jhq Z Z Z Z Z Qa (lncl_s [x] false hl) ?_);rintro w hp1 nw1 (⟨q,rfl,rfl,rfl⟩|⟨rfl,rfl,rfl⟩)
  ·cases q
  ·rw[jQq hpp];skip
   refine gL 10 Z ?_;refine gLo (α:=Nat) 4 (λi=>i<=1) (λi=>[(12,.int .i64 (i:Int))]) [2,3,11] (λi=>1-i) (0) rfl (Nat.zero_le _) (λi hI=>?_);refine gS 6 Z (λh1=>?_) (λh1=>?_)
   ·obtain rfl:i=0:=by omega
    refine gP 17 Z (knq (i:=0) Z Z Z Z Z Z Z Xl) (gM 0 Z (yiq Z Z Z (show zYq 50 (lnA [x]) (0+0*33+0) 33 true=some (lnA [x]) from rfl)) (gC 0 Z (ps_one Z Z (lntw_s x (hx x Xl))) (gP 0 Z (knq (i:=0) Z Z Z Z Z Z Z Xl) (gM 0 Z (qhq Z Z Z Z Z (show yDq 50 (lnA [x]) _ (lnW x)=some (lnW x) from rfl) rfl) (zbq 4 Z (vSq (λ_=>ent_blk (b:=2) (w':=lnA [x]) rfl (λΓ v h=>show RV Γ (.arr 33 33 [lnW x]) v from(rv_one (x:=lnW x) (n:=33) Z Z).2 h)) (op_nat (0+1) Z Z Z ⟨by omega,by omega⟩ ?_)))))))
    exact run_p 2 Z (gAg 0 Z (0+1) Xd Xd)
   ·obtain rfl:i=1:=by omega
    exact gO 2 Z (zbq 9 Z (k0q Qm rfl (.agg (.cons (.sl (full:=false) (c:=lnA [x]) rfl (vyq [x]) (zJq Xg Xl rfl) Xi) .nil))))
 ·skip
  refine gIv 10 Z (λR k0=>?_);skip
  refine gSo 0 Z (jhq Z Z Z Z Z Qa (lncl_s s false hl) ?_);rintro w hp1 nw1 (⟨rfl,rfl,rfl,rfl⟩|⟨rfl,rfl,rfl⟩)
  ·skip
   skip
   refine gL 10 Z ?_;refine gLo (α:=Nat) 4 (λi=>i=0) (λi=>[(12,.int .i64 (i:Int))]) [2,3,11] (λi=>0) (0) rfl (rfl) (λi hI=>?_);subst hI;exact gO 9 Z (zbq 9 Z (k0q Qm rfl (.agg (.cons .nilfz .nil))))
  ·rw[jQq hpp];refine gL 10 Z ?_;refine gLo (α:=Nat) 4 (λi=>i<=s.length) (λi=>[(12,.int .i64 (i:Int))]) [2,3,11] (λi=>s.length-i) (0) rfl (Nat.zero_le _) (λi hI=>?_);refine gS 6 Z (λh1=>?_) (λh1=>?_)
   ·have hi:i<s.length:=by omega
    obtain⟨x,hxi⟩:∃x,s[i]? =some x:=⟨_,List.getElem?_eq_getElem hi⟩
    exact gP 17 Z (knq (i:=i) Z Z Z Z Z Z Z hi) (gM 0 Z (yiq Z Z Z (lnA_get s hs1 hxi)) (gC 0 Z (lntw_s x (hx x (List.mem_of_getElem? hxi))) (gP 0 Z (knq (i:=i) Z Z Z Z Z Z Z hi) (gM 0 Z (st_same Z Z Z Z Z (lnA_put s hs1 hxi)) (gA 4 Z (i+1) (gAg 2 Z (i+1) (hi) Xd))))))
   ·exact gO 2 Z (zbq 9 Z (k0q Qm rfl (.agg (.cons (.sl (full:=false) (c:=lnA s) rfl (vyq s) (zJq Xg Xl rfl) Xi) .nil))))
theorem pltw_s(l:List Shd)(hl:l.length<=1000000)(hx:∀s∈l,s.length<=1000000000/\∀y∈s,y.txs.length<=1000000000):PS cfg G 84 [plW l] (plW l):=by
 have e:(l.map shdW).length=l.length:=List.length_map _;refine gIv 14 Z (λR k0=>gZ 0 Z e (zbq 4 Z ?_));refine Jsq (α:=Nat) (λi=>i<=l.length) 3 (λi=>(l.take i).map shdW) 131 1 (λi=>[(8,.int .i64 (i:Int))]) [(2,_),(6,_),(7,_)] _ (λi=>l.length-i) (0) ⟨rfl,rfl,rfl,trivial⟩ (Nat.zero_le _) ⟨rfl,trivial⟩ Z Z Z (λi hI=>?_);refine z9q 6 Z ?_;refine gS 0 Z (λh1=>?_) (λh1=>?_)
 ·have hi:i<l.length:=by omega
  obtain⟨x,hxi⟩:∃x,l[i]? =some x:=⟨_,List.getElem?_eq_getElem hi⟩
  obtain⟨b1,b2⟩:=hx x (List.mem_of_getElem? hxi);have hlt:((l.take i).map shdW).length<=1000000:=by rw[List.length_map,List.length_take];omega
  have es:(l.take (i+1)).map shdW=(l.take i).map shdW++[shdW x]:=by rw[List.take_add_one,hxi,List.map_append];rfl
  have ep:=jAq (l.take i);have ep2:purL ((l.take i).map shdW++[shdW x])=true:=by rw[<-es];exact jAq _
  exact gP 6 Z (zGq (i:=i) Z Z Z Z Z Z Z (znq shdW hxi)) (gC 8 Z (shtw_s x b1 b2) (gM 1 Z (ySq Z Z (Qnq [_,_] (k:=ti131) (news:=[shdW x]) Z Z Z Z Z (uIq Z Z Z Z) Xl (by show(((l.take i).map shdW).length+1)*24<=_;omega) (by show((l.take i).map shdW).length+1<=_;omega) rfl Xl)) (gA 5 Z (i+1) (zbq 2 Z (uQq 3 (i+1) (hi) Xd (Nat.zero_le _) (es) Yb Xd Yx rfl Yd ⟨rfl,trivial⟩ ⟨rfl,rfl,rfl,trivial⟩ Xh Xh rfl Xn Xk Xz)))))
 ·rw[List.take_of_length_le (show l.length<=i by omega)];exact zbq 2 Z (q4q Xi (zZq 9 Z (k0q Xr Z (view_g (H0:=[]) Xg (jAq _) Xl))))
end
section
attribute [local irreducible] CoW OpW FlW Step Spec
variable {G:Nat->Option W}
def Uns(x:Tx):Prop:=x.sign≠ucq x
noncomputable instance(x:Tx):Decidable (Uns x):=Classical.propDecidable _
noncomputable instance(l:List Tx):Decidable (∃x∈l,Uns x):=Classical.propDecidable _
theorem uns1_s(x:Tx)(hx:x.ok):PS cfg glK 80 [txW x] (.bool (decide (Uns x))):=by
 by_cases h:x.sign=ucq x
 ·skip
  exact gI 9 Z (λR k0=>gC 0 Z (zxq (w':=.int .i64 0) (jNq x hx) (by rw[if_pos h])) (gF 0 Z (congrArg not (eqI_iff.2 (rfl))) (gQ 4 Z (y2q λq=>q h))))
 ·skip
  exact gI 9 Z (λR k0=>gC 0 Z (zxq (w':=.int .i64 110) (jNq x hx) (by rw[if_neg h])) (gT 0 Z (congrArg not (eqI_not.2 Xg)) (gQ 4 Z (v6q h))))
theorem uns_s(l:List Tx)(f:Bool)(hx:∀x∈l,x.ok)(hl:l.length<=1000000000):PS cfg glK 31 [.fz (l.map txW) 99 f] (.bool (decide (∃x∈l,Uns x))):=by
 have hc:=cntx_s (G:=glK) l f 80 Uns (λx h=>uns1_s x (hx x h)) rfl hl;have hp:=qmq l;exact gI 8 Z (λR k0=>gC 0 Z (hc) (gQa 4 Z))
noncomputable def tp0:W:=.agg 2 [.nils,.bool false]
theorem tp0_view{μ:Nat->Option W}:View μ tp0 (tpW ⟨[],false⟩):=.agg (.cons .nilfz (.cons (.pur rfl) .nil))
theorem cl0i:PS cfg G 143 [.nils] .nils:=by
 refine ps_in (fn:=Tryz.f143) Z Z Z (Zb rfl) (λR k0=>?_);skip
 exact z9q 20 Z (gQa 0 Z)
theorem with0_s(x:Itm)(f:Bool):PS cfg G 72 [tp0,.fz [itmW x] 101 f] (tpW ⟨[x],false⟩):=by
 have hp:purL [itmW x]=true:=by simp[purL]
 refine gIv 10 Z (λR k0=>gC 0 Z (cl0i) (zbq 1 Z ?_))
 (refine z5q rfl (step_ap0 (k:=ti61) (e:=101) (news:=[itmW x]) Z Z Z Z Z Z Z Z Z hp (by show 1*136<=_;omega) Xl ?_))
 exact zpq 5 Z (k0q Qm rfl (.pur (QCq ⟨[x],false⟩)))
theorem tpchk0_s:PS cfg G 70 [tp0] (.int .i64 0):=by
 refine gI 11 Z (λR k0=>?_);refine gL 0 Z ?_;refine gF 0 Z (ltI_not.2 Xg) ?_;refine gL 17 Z ?_;refine gLo (α:=Nat) 4 (λi=>i=0) (λi=>[(14,.int .i64 (i:Int))]) [2,3,12,13] (λi=>0) (0) rfl (rfl) (λi hI=>?_);subst hI;refine gO 9 Z ?_;exact gQa 8 Z
theorem ixev_s(xs:List Eve)(f:Bool)(F:FuncId)(cs:List W)(hcs:purL cs=true)(P:Eve->Prop) [DecidablePred P](hF:∀x∈xs,PS cfg G F (eveW x::cs) (.bool (decide (P x))))(hF0:cfg.ext F=none)(hn:xs.length<=1000000000):PE cfg G 69 [.fz (xs.map eveW) 100 f,.fn F [] cs] (λw=>∃i:Int,w= .int .i64 i/\((∃x∈xs,P x)↔0<=i)):=by
 have e:(xs.map eveW).length=xs.length:=List.length_map _;refine gIe 9 Z (λR k0=>gZ 0 Z e ?_);refine gLo (α:=Nat) 4 (λi=>i<=xs.length/\∀j x,j<i->xs[j]? =some x->¬P x) (λi=>[(8,.int .i64 (i:Int))]) [0,1,4,7] (λi=>xs.length-i) (0) rfl (⟨Nat.zero_le _,λj x h=>by omega⟩) (λi hI=>?_);obtain⟨g1,g2⟩:=hI;refine gS 6 Z (λh1=>?_) (λh1=>?_)
 ·obtain⟨x,hx⟩:∃x,xs[i]? =some x:=⟨_,List.getElem?_eq_getElem Xd⟩
  refine gP 15 Z (zGq (i:=i) Z Z Z Z Z Z Z (znq eveW hx)) (zbq 1 Z (YFq Z Z Z hF0 Z Z (hF x (List.mem_of_getElem? hx)) (by simp[purL,hcs]) Xl (zpq 2 Z ?_)));refine gS 0 Z (λh2=>?_) (λh2=>?_)
  ·exact gO 9 Z (zbq 2 Z (ywq (w':=.int .i64 (i:Int)) Qm rfl (.pur rfl) rfl ⟨_,rfl,λ_=>by omega,λ_=>⟨x,List.mem_of_getElem? hx,h2⟩⟩))
  ·exact gA 4 Z (i+1) (gAg 2 Z (i+1) (⟨by omega,λj y hj hy=>by rcases Nat.lt_succ_iff_lt_or_eq.1 hj with q|rfl;exact g2 j y q hy;exact Option.some.inj (hx.symm.trans hy)▸h2⟩) Xd)
 ·refine gO 2 Z (zbq 8 Z ?_)
  exact ywq (w':=.int .i64 (-1)) Qm rfl (.pur rfl) rfl ⟨_,rfl,λ⟨x,hx,q⟩=>by
   obtain⟨j,hj⟩:=List.getElem?_of_mem hx;exact absurd q (g2 j x Yw hj),λh=>absurd h Xg⟩
theorem ctev_s(xs:List Eve)(f:Bool)(F:FuncId)(cs:List W)(hcs:purL cs=true)(P:Eve->Prop) [DecidablePred P](hF:∀x∈xs,PS cfg G F (eveW x::cs) (.bool (decide (P x))))(hF0:cfg.ext F=none)(hn:xs.length<=1000000000) [Decidable (∃x∈xs,P x)]:PS cfg G 25 [.fz (xs.map eveW) 100 f,.fn F [] cs] (.bool (decide (∃x∈xs,P x))):=by
 have hcs2:purW (.fn F [] cs)=true:=by show(true&&purL cs)=true;rw[hcs];rfl
 refine gI 9 Z (λR k0=>?_)
 (refine z5q rfl (Zwq Z Z Z Z Z (ixev_s xs f F cs hcs P hF hF0 hn) (by simp[purL,purW,hcs]) ?_);rintro w hw ⟨i,rfl,hi⟩)
 refine op_cz Z Z ?_;refine zpq 4 Z ?_;exact gQ 0 Z (by rw[decide_eq_decide.2 hi])
theorem ixln_s(xs:List Ln)(f:Bool)(F:FuncId)(cs:List W)(hcs:purL cs=true)(P:Ln->Prop) [DecidablePred P](hF:∀x∈xs,PS cfg G F (lnW x::cs) (.bool (decide (P x))))(hF0:cfg.ext F=none)(hn:xs.length<=1000000000):PE cfg G 145 [.fz (xs.map lnW) 33 f,.fn F [] cs] (λw=>∃i:Int,w= .int .i64 i/\((∃x∈xs,P x)↔0<=i)):=by
 have e:(xs.map lnW).length=xs.length:=List.length_map _;refine gIe 9 Z (λR k0=>gZ 0 Z e ?_);refine gLo (α:=Nat) 4 (λi=>i<=xs.length/\∀j x,j<i->xs[j]? =some x->¬P x) (λi=>[(8,.int .i64 (i:Int))]) [0,1,4,7] (λi=>xs.length-i) (0) rfl (⟨Nat.zero_le _,λj x h=>by omega⟩) (λi hI=>?_);obtain⟨g1,g2⟩:=hI;refine gS 6 Z (λh1=>?_) (λh1=>?_)
 ·obtain⟨x,hx⟩:∃x,xs[i]? =some x:=⟨_,List.getElem?_eq_getElem Xd⟩
  refine gP 15 Z (zGq (i:=i) Z Z Z Z Z Z Z (znq lnW hx)) (zbq 1 Z (YFq Z Z Z hF0 Z Z (hF x (List.mem_of_getElem? hx)) (by simp[purL,hcs]) Xl (zpq 2 Z ?_)));refine gS 0 Z (λh2=>?_) (λh2=>?_)
  ·exact gO 9 Z (zbq 2 Z (ywq (w':=.int .i64 (i:Int)) Qm rfl (.pur rfl) rfl ⟨_,rfl,λ_=>by omega,λ_=>⟨x,List.mem_of_getElem? hx,h2⟩⟩))
  ·exact gA 4 Z (i+1) (gAg 2 Z (i+1) (⟨by omega,λj y hj hy=>by rcases Nat.lt_succ_iff_lt_or_eq.1 hj with q|rfl;exact g2 j y q hy;exact Option.some.inj (hx.symm.trans hy)▸h2⟩) Xd)
 ·refine gO 2 Z (zbq 8 Z ?_)
  exact ywq (w':=.int .i64 (-1)) Qm rfl (.pur rfl) rfl ⟨_,rfl,λ⟨x,hx,q⟩=>by
   obtain⟨j,hj⟩:=List.getElem?_of_mem hx;exact absurd q (g2 j x Yw hj),λh=>absurd h Xg⟩
theorem ctln_s(xs:List Ln)(f:Bool)(F:FuncId)(cs:List W)(hcs:purL cs=true)(P:Ln->Prop) [DecidablePred P](hF:∀x∈xs,PS cfg G F (lnW x::cs) (.bool (decide (P x))))(hF0:cfg.ext F=none)(hn:xs.length<=1000000000) [Decidable (∃x∈xs,P x)]:PS cfg G 76 [.fz (xs.map lnW) 33 f,.fn F [] cs] (.bool (decide (∃x∈xs,P x))):=by
 have hcs2:purW (.fn F [] cs)=true:=by show(true&&purL cs)=true;rw[hcs];rfl
 refine gI 9 Z (λR k0=>?_)
 (refine z5q rfl (Zwq Z Z Z Z Z (ixln_s xs f F cs hcs P hF hF0 hn) (by simp[purL,purW,hcs]) ?_);rintro w hw ⟨i,rfl,hi⟩)
 refine op_cz Z Z ?_;refine zpq 4 Z ?_;exact gQ 0 Z (by rw[decide_eq_decide.2 hi])
end
section
variable {C:Cfg} {G:Nat->Option W} {o:Oper} {hp:HpW} {nw:Nat} {fr:FrW} {R:Res} {post:W->HpW->Nat->Res->Option EvW->Prop}
theorem step_fr1(b:Nat)(fr2:FrW)(hp2:HpW){ty:TypeId}{c:W}(hb:hget hp b=some (ty,c))(hc:purW c=true)(hf:subV (blk1 b c) fr fr2)(hh:subVH (blk1 b c) b hp hp2)(nd:(hp2.map (·.1)).Nodup)
  (h:Step C G o fr2 hp2 nw R λw hp' nw' R' ev=>ev=some .gen/\post w hp' nw' R' ev):Step C G o fr hp nw R post:=λΓ X frv hnw s f0=>by
 obtain⟨p1,p2,p3,v0,p4,p5⟩:=s.own b ty c hb;let Γ2:Ctx:=⟨Γ.nw,Γ.σ,λc=>Γ.D c\/c=Γ.σ b,Γ.h⟩
 have le:Γ.Le Γ2:=⟨Nat.le_refl _,λ_ _=>rfl,λ_ h=>.inl h,λ_ _=>rfl⟩
 have q:Seen (blk1 b c) Γ Γ2:=⟨λ_ h _=>h,λ_ _ _=>rfl,λ_ h=>.inl h,λ_ _=>rfl,λk c' hk h=>by
  unfold blk1 at h;split at h
  ·rename_i e;rw[Nat.beq_eq] at e;subst e;cases h;exact⟨.inr rfl,v0,xJq p4,p5⟩
  ·cases h⟩
 have hlt:Γ.σ b<Γ.h.next:=by
  rcases Nat.lt_or_ge (Γ.σ b) Γ.h.next with h|h
  ·exact h
  ·rw[s.wf _ h] at p4;cases p4
 have s2:SatH C G Γ2 hp2 X R:=⟨s.wf,λk ty' w hk=>by
  obtain⟨g1,w0,g2,g3⟩:=jOq hh k _ _ hk;obtain⟨q1,q2,q3,u,q4,q5⟩:=s.own _ _ _ g2;refine⟨q1,λh=>?_,q3,u,q4,jMq q g3 q5⟩;rcases h with h|h
  ·exact q2 h
  ·exact g1 (s.inj k b _ _ g2 hb h),λk k' x y hx hy e=>by
  obtain⟨_,w0,g2,_⟩:=jOq hh k x.1 x.2 hx;obtain⟨_,w1,g4,_⟩:=jOq hh k' y.1 y.2 hy;exact s.inj _ _ _ _ g2 g4 e,nd,λd hd hX=>by
  rcases hd with h|rfl
  ·exact s.dX d h hX
  ·exact p3 hX,s.xlt,λd hd=>by
  rcases hd with h|rfl
  ·exact s.dlt d h
  ·exact hlt,R.st _ _ _ _ _ s.res le.D le.val (λ_ _=>rfl) (Nat.le_refl _),s.gl.mono le⟩
 have a:Frm Γ.nw Γ hp X Γ2 hp2 X:=⟨λ_ _=>rfl,λh=>h,Nat.le_refl _,λ_ _ _ _=>rfl,λ_ h=>.inl h,λd hd=>by
  rcases hd with h|rfl
  ·exact .inl h
  ·exact .inr (.inl (.inl ⟨b,_,hb,rfl⟩)),λk x hk h=>by
  obtain⟨_,w0,g2,_⟩:=jOq hh k x.1 x.2 h;exact⟨_,g2⟩,λk x hk h=>by
  obtain⟨_,w0,g2,_⟩:=jOq hh k x.1 x.2 h;exact .inr ⟨k,_,hk,g2,rfl⟩,λ_ h=>.inl h,λ_ h _ _=>h⟩
 obtain⟨n,w,hp',R',ev,v,h',Γ',X',⟨rfl,h1⟩,h2,⟨h3,h3'⟩,h4,h5,h6,h7,h8⟩:=h Γ2 X frv hnw s2 λt w hw=>by
  obtain⟨w0,g1,g2⟩:=uFq hf t w hw;obtain⟨u,g3,g4⟩:=f0 _ _ g1;exact⟨u,g3,jMq q g2 g4⟩
 exact⟨n,w,hp',R',_,v,h',Γ',X',h1,h2,⟨h3,h3'⟩,h4,⟨h5.nw,h5.σ,λc hc=>h5.D c (.inl hc),λc hc=>h5.val c (.inl hc)⟩,h6,a.trans h7,h8⟩
end
section
attribute [local irreducible] CoW OpW FlW Step Spec
variable {G:Nat->Option W}
attribute [local simp] sbA_pur
theorem sbA_ne{i m:Nat}:(Nat.beq (0+i*4+2) 0&&Nat.beq 2 (m*4)&&true==true)=false:=by
 have:Nat.beq (0+i*4+2) 0=false:=by
  cases q:Nat.beq (0+i*4+2) 0 with
  |false=>rfl
  |true=>have:=Nat.eq_of_beq_eq_true q;omega
 rw[this];rfl
theorem sbA_get{l:List Sb}{i:Nat}{x:Sb}(h:l[i]? =some x):zYq 50 (sbA l) (0+i*4+2) 2 true=some (tpW x.tap):=get_in (znq sbW h) Xd Xd sbA_ne rfl
theorem sbA_put{l:List Sb}{i:Nat}{x:Sb}(h:l[i]? =some x):yDq 50 (sbA l) (0+i*4+2) (tpW x.tap)=some (sbA l):=by
 have hx:=znq sbW h;rw[sbA,put_in (x':=sbW x) hx Xd Xd sbA_ne rfl,QLq hx]
theorem hbtw_s(h:Hb)(hl:h.subs.length<=1000000000)(hx:∀s∈h.subs,s.tap.items.length<=1000000000):PS cfg G 85 [hbW h] (hbW h):=by
 obtain⟨n,l⟩:=h;simp only at hl hx;have hpp:=sbA_pur l;have hps:=QMq l;refine gIv 10 Z (λR k0=>?_);skip
 refine gSo 0 Z (jhq Z Z Z Z Z Qa (sbcl_s l false hl) ?_);rintro w hp1 nw1 (⟨rfl,rfl,rfl,rfl⟩|⟨rfl,rfl,rfl⟩)
 ·skip
  skip
  refine gL 9 Z ?_;refine gLo (α:=Nat) 4 (λi=>i=0) (λi=>[(11,.int .i64 (i:Int))]) [1,2,10] (λi=>0) (0) rfl (rfl) (λi hI=>?_);subst hI;exact gO 9 Z (zbq 9 Z (k0q Qm rfl (.agg (.cons (.pur rfl) (.cons .nilfz .nil)))))
 ·rw[jQq hpp];refine gL 9 Z ?_;refine gLo (α:=Nat) 4 (λi=>i<=l.length) (λi=>[(11,.int .i64 (i:Int))]) [1,2,10] (λi=>l.length-i) (0) rfl (Nat.zero_le _) (λi hI=>?_);refine gS 6 Z (λh1=>?_) (λh1=>?_)
  ·have hi:i<l.length:=by omega
   obtain⟨x,hxi⟩:∃x,l[i]? =some x:=⟨_,List.getElem?_eq_getElem hi⟩
   exact gP 17 Z (knq (i:=i) Z Z Z Z Z Z Z hi) (gM 1 Z (yiq Z Z Z (sbA_get hxi)) (gC 0 Z (tptw_s x.tap (hx x (List.mem_of_getElem? hxi))) (gP 0 Z (knq (i:=i) Z Z Z Z Z Z Z hi) (gM 1 Z (st_same Z Z Z Z Z (sbA_put hxi)) (gA 4 Z (i+1) (gAg 2 Z (i+1) (hi) Xd))))))
  ·exact gO 2 Z (zbq 9 Z (k0q Qm rfl (.agg (.cons (.pur rfl) (.cons (.sl (full:=false) (c:=sbA l) rfl (QMq l) (zJq Xg Xl rfl) Xi) .nil)))))
def Push0(e:Eve):W->Prop:=λw=>∃t:Tp,w= .tup [tpW t,.int .i64 (if EveM e then 0 else 8)]
theorem tpE_pur(t:Tp)(e:Int):purW (.tup [tpW t,.int .i64 e])=true:=by simp[purW,purL]
theorem push0_s(e:Eve):PE cfg G 27 [tp0,.int .i64 1,eveW e] (Push0 e):=by
 by_cases h:EveM e
 ·skip
  refine gIe 13 Z (λR k0=>?_);refine gL 0 Z ?_;refine gWr 0 Z ?_;refine gC 16 Z (tpchk0_s) ?_;refine gF 0 Z (congrArg not (eqI_iff.2 (rfl))) ?_;refine gC 2 Z (zxq (w':=.bool true) (Jjq e) (by rw[decide_eq_true (h)])) ?_;refine gF 9 Z (ltI_not.2 Xg) ?_;refine gF 2 Z (ltI_not.2 Xg) ?_;refine gT 24 Z (congrArg not (ltI_not.2 Xg)) ?_;refine gSo 10 Z (step_fr1 4 [(56,tp0),(58,.fz [itmW ⟨false,e⟩] 101 false),(6,.ptr 2 0)] [(2,106,.agg 2 [.nils,.bool false])] (c:=itmW ⟨false,e⟩) rfl (kWq _) ⟨⟨_,rfl,.pur rfl⟩,⟨_,rfl,.sl (full:=false) (c:=itmW ⟨false,e⟩) rfl (kWq _) rfl Xi⟩,⟨_,rfl,.ptrK rfl⟩,trivial⟩ ⟨⟨by decide,_,rfl,.pur rfl⟩,trivial⟩ Xl (QIq Z Z Z Z Z (with0_s ⟨false,e⟩ false) (by simp[purL,purW,tp0]) Xl ⟨rfl,?_⟩));refine zbq 7 Z ?_;exact ywq (w':=.tup [tpW ⟨[⟨false,e⟩],false⟩,.int .i64 0]) Qm rfl (.pur (tpE_pur _ _)) (tpE_pur _ _) ⟨_,by rw[if_pos h]⟩
 ·skip
  refine gIe 13 Z (λR k0=>?_);refine gL 0 Z ?_;refine gWr 0 Z ?_;refine gC 16 Z (tpchk0_s) ?_;refine gF 0 Z (congrArg not (eqI_iff.2 (rfl))) ?_;refine gC 2 Z (zxq (w':=.bool false) (Jjq e) (by rw[decide_eq_false (h)])) ?_;refine zbq 16 Z ?_;exact ywq (w':=.tup [tpW ⟨[],false⟩,.int .i64 8]) Qm rfl (.tup (.cons tp0_view (.cons (.pur rfl) .nil))) (tpE_pur _ _) ⟨_,by rw[if_neg h]⟩
theorem auchk1_s(e:Eve):PS cfg G 26 [eveW e] (.bool (decide (¬EveM e))):=by
 by_cases h:EveM e
 ·skip
  refine gI 10 Z (λR k0=>gE 0 Z (push0_s e) ?_);rintro w hw ⟨t,rfl⟩;rw[if_pos h]
  exact gF 11 Z (congrArg not (eqI_iff.2 (rfl))) (gQ 4 Z (y2q λq=>q h))
 ·skip
  refine gI 10 Z (λR k0=>gE 0 Z (push0_s e) ?_);rintro w hw ⟨t,rfl⟩;rw[if_neg h]
  exact gT 11 Z (congrArg not (eqI_not.2 Xg)) (gQ 4 Z (v6q h))
end
end
end Go.Proofs.YtpjfmknefefapaaGreatDoor

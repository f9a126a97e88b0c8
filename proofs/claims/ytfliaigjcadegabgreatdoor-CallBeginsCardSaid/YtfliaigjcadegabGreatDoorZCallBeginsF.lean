/-
  What the proof of CallBegins stands on, part 6. No condition.
-/
import Derived.Ground.Names2Prog
import Derived.Ground.SlbNamesProg
import Derived.Shelf.Bytes.SlJoin
import Derived.Ground.SlgnProg
import Derived.Test.YtfliaigjcadegabGreatDoorProg
import Derived.Test.YtfliaigjcadegabGreatDoorZCallBeginsE
set_option linter.unusedSimpArgs false
set_option linter.unusedVariables false
namespace Go.Proofs.YtfliaigjcadegabGreatDoor
@[irreducible] def bitN(k:Dig)(i:Nat):Nat:=kn k (i/8)/2^(7-i%8)%2
theorem qUq(k:Dig)(i:Nat):bitN k i<=1:=by unfold bitN;omega
theorem xor_le(m n:Nat)(hm:m<=255)(hn:n<=255):m^^^n<=255:=by
 have:m^^^n<2^8:=Nat.xor_lt_two_pow Xd Xd;omega
theorem pow_le(n:Nat):2^(7-n)<=255:=by
 have h:∀m,m<=7->2^m<=255:=by decide
 exact h _ Xd
@[irreducible] def qaq(k:Dig)(i:Nat):Dig:=setD k (i/8) (UInt8.ofNat (kn k (i/8)^^^2^(7-i%8)))
@[irreducible] def lenM(x:Nat):Nat:=if x=0 then 0 else Nat.log2 x+1
theorem lenM_le(x:Nat)(hx:x<=255):lenM x<=8:=by
 have h:∀x,x<=255->lenM x<=8:=by decide+kernel
 exact h x hx
def dOf(a b:Dig)(i:Nat):Nat×Nat:=(i,kn a i^^^kn b i)
@[irreducible] def dTo(a b:Dig)(n:Nat):List (Nat×Nat):=((List.range n).map (dOf a b)).filter (λp=>p.2 !=0)
theorem dTo_zero(a b:Dig):dTo a b 0=[]:=by unfold dTo;rfl
theorem uUq(a b:Dig)(n:Nat):dTo a b (n+1)=dTo a b n++(if kn a n^^^kn b n=0 then [] else [dOf a b n]):=by
 unfold dTo;rw[List.range_succ,List.map_append,List.filter_append];congr 1
 simp only[List.map_cons,List.map_nil,List.filter_cons,List.filter_nil,dOf];split<;>split<;>simp_all
theorem dTo_pre(a b:Dig)(n m:Nat):dTo a b n<+:dTo a b (n+m):=by
 induction m with
 |zero=>exact List.prefix_refl _
 |succ m ih=>rw[<-Nat.add_assoc,uUq];exact ih.trans (List.prefix_append _ _)
theorem dTo_get(a b:Dig)(i n:Nat)(hi:i<n)(hx:kn a i^^^kn b i≠0):(dTo a b n)[(dTo a b i).length]? =some (dOf a b i):=by
 obtain⟨m,rfl⟩:∃m,n=(i+1)+m:=⟨n-(i+1),by omega⟩
 obtain⟨l,hl⟩:=dTo_pre a b (i+1) m;rw[<-hl,uUq,if_neg hx];simp
theorem dTo_mem{a b:Dig}{n:Nat}{x:Nat×Nat}(h:x∈dTo a b n):x.1<n/\x.2=kn a x.1^^^kn b x.1/\x.2≠0:=by
 unfold dTo at h;rw[List.mem_filter,List.mem_map] at h;obtain⟨⟨i,hi,rfl⟩,h2⟩:=h;exact⟨List.mem_range.1 hi,rfl,by simpa using h2⟩
@[irreducible] def zSq(a b:Dig):Nat:=match dTo a b 32 with
 |[]=>256
 |x::_=>8*x.1+(8-lenM x.2)
@[irreducible] def yCq(a b:Dig):Bool:=match dTo a b 32 with
 |[]=>false
 |x::_=>decide (kn a x.1<kn b x.1)
theorem byte_top:∀x,x<256->x≠0->lenM x<=8/\1<=lenM x/\x.testBit (lenM x-1)=true/\∀k,k<8->lenM x-1<k->x.testBit k=false:=by decide+kernel
theorem qAq(m k:Nat):m/2^k%2=(m.testBit k).toNat:=by rw[Nat.toNat_testBit]
theorem lt_top{m n L:Nat}(h:∀k,L<k->m.testBit k=n.testBit k)(hm:m.testBit L=false)(hn:n.testBit L=true):m<n:=by
 have h1:m/2^(L+1)=n/2^(L+1):=by
  apply Nat.eq_of_testBit_eq;intro i;rw[Nat.testBit_div_two_pow,Nat.testBit_div_two_pow];exact h _ Xd
 have e:∀x,x/2^(L+1)=x/2^L/2:=λx=>by rw[Nat.pow_succ,Nat.div_div_eq_div_mul]
 have hm':m/2^L%2=0:=by rw[qAq,hm];rfl
 have hn':n/2^L%2=1:=by rw[qAq,hn];rfl
 rw[e,e] at h1;have:m/2^L<n/2^L:=by omega
 exact Nat.lt_of_not_le λhc=>by have:=Nat.div_le_div_right (c:=2^L) hc;omega
theorem QPq(m n:Nat)(hm:m<=255)(hn:n<=255)(hx:m^^^n≠0):
  1<=lenM (m^^^n)/\lenM (m^^^n)<=8/\(∀t,t<8-lenM (m^^^n) ->m/2^(7-t)%2=n/2^(7-t)%2)/\
   ¬m/2^(lenM (m^^^n) -1)%2=n/2^(lenM (m^^^n) -1)%2/\(m<n↔m/2^(lenM (m^^^n) -1)%2<n/2^(lenM (m^^^n) -1)%2):=by
 have hle:=xor_le m n hm hn;obtain⟨h1,h2,h3,h4⟩:=byte_top (m^^^n) Xd hx
 have hab:∀k,lenM (m^^^n) -1<k->m.testBit k=n.testBit k:=λk hk=>by
  by_cases hk8:k<8
  ·have:=h4 k hk8 hk;rw[Nat.testBit_xor] at this;revert this;cases m.testBit k<;>cases n.testBit k<;>simp
  ·have e1:m<2^k:=Nat.lt_of_lt_of_le (show m<2^8 by omega) (Nat.pow_le_pow_right Xd Xd);have e2:n<2^k:=Nat.lt_of_lt_of_le (show n<2^8 by omega) (Nat.pow_le_pow_right Xd Xd);rw[Nat.testBit_lt_two_pow e1,Nat.testBit_lt_two_pow e2]
 rw[Nat.testBit_xor] at h3;refine⟨h2,h1,λt ht=>?_,?_,?_⟩
 ·rw[qAq,qAq,hab _ Xd]
 ·rw[qAq,qAq];revert h3;cases m.testBit (lenM (m^^^n) -1)<;>cases n.testBit (lenM (m^^^n) -1)<;>simp
 ·rw[qAq,qAq];cases hmb:m.testBit (lenM (m^^^n) -1)<;>cases hnb:n.testBit (lenM (m^^^n) -1)<;>simp only[hmb,hnb] at h3
  ·simp at h3
  ·have:=lt_top hab hmb hnb;simp[this]
  ·have:=lt_top (λk hk=>(hab k hk).symm) hnb hmb;simp;omega
  ·simp at h3
theorem xor_zero{m n:Nat}:m^^^n=0↔m=n:=by
 constructor
 ·intro h;apply Nat.eq_of_testBit_eq;intro i;have:(m^^^n).testBit i=false:=by rw[h];simp
  rw[Nat.testBit_xor] at this;revert this;cases m.testBit i<;>cases n.testBit i<;>simp
 ·rintro rfl;exact Nat.xor_self m
theorem dTo_nil{a b:Dig}{n:Nat}(h:dTo a b n=[]):∀i,i<n->kn a i=kn b i:=λi hi=>by
 rcases Classical.em (kn a i^^^kn b i=0) with hx|hx
 ·exact xor_zero.1 hx
 ·have:=dTo_get a b i n hi hx;rw[h] at this;simp at this
theorem uVq{a b:Dig}{x:Nat×Nat}{l:List (Nat×Nat)}:∀{n:Nat},dTo a b n=x::l->x.1<n/\x.2=kn a x.1^^^kn b x.1/\x.2≠0/\∀i,i<x.1->kn a i=kn b i:=by
 intro n h;obtain⟨h1,h2,h3⟩:=dTo_mem (a:=a) (b:=b) (n:=n) (x:=x) (by rw[h];simp);refine⟨h1,h2,h3,?_⟩;revert l
 induction n with
 |zero=>omega
 |succ n ih=>
  intro l h;rw[uUq] at h;cases hd:dTo a b n with
  |nil=>
   have:=dTo_nil hd;intro i hi;exact this i Xd
  |cons y r=>
   rw[hd] at h;have hy:y=x:=by simpa using congrArg List.head? h
   subst hy;have hm:=(dTo_mem (a:=a) (b:=b) (n:=n) (x:=y) (by rw[hd];simp)).1;exact ih hm hd
def Q1q(a b:Dig)(s:Nat):Prop:=(∀j,j<s->bitN a j=bitN b j)/\(s=256\/(s<256/\¬bitN a s=bitN b s))
theorem jGq(a b:Dig):Q1q a b (zSq a b):=by
 unfold zSq;cases hd:dTo a b 32 with
 |nil=>
  have h:=dTo_nil hd;exact⟨λj hj=>by simp only at hj;unfold bitN;rw[h (j/8) Xd],.inl rfl⟩
 |cons x l=>
  obtain⟨h1,h2,h3,h4⟩:=uVq hd;simp only;have hb:=QPq (kn a x.1) (kn b x.1) (x7q _ _) (x7q _ _) (by rw[<-h2];exact h3);rw[<-h2] at hb;obtain⟨b1,b2,b3,b4,-⟩:=hb;refine⟨λj hj=>?_,.inr ⟨by omega,?_⟩⟩
  ·unfold bitN;by_cases hjx:j/8<x.1
   ·rw[h4 _ hjx]
   ·have e:j/8=x.1:=by omega
    rw[e];exact b3 (j%8) Xd
  ·unfold bitN;rw[show(8*x.1+(8-lenM x.2))/8=x.1 by omega,show 7-(8*x.1+(8-lenM x.2))%8=lenM x.2-1 by omega];exact b4
theorem xYq{a b:Dig}{s t:Nat}(hs:Q1q a b s)(ht:Q1q a b t):s=t:=by
 obtain⟨s1,s2⟩:=hs;obtain⟨t1,t2⟩:=ht;rcases Nat.lt_trichotomy s t with h|h|h
 ·have:=t1 s h;rcases s2 with s2|⟨_,s2⟩
  ·omega
  ·exact absurd this s2
 ·exact h
 ·have:=s1 t h;rcases t2 with t2|⟨_,t2⟩
  ·omega
  ·exact absurd this t2
theorem QUq(a b:Dig):yCq a b=decide (zSq a b<256/\bitN a (zSq a b)<bitN b (zSq a b)):=by
 unfold yCq zSq;cases hd:dTo a b 32 with
 |nil=>simp
 |cons x l=>
  obtain⟨h1,h2,h3,h4⟩:=uVq hd;simp only;have hb:=QPq (kn a x.1) (kn b x.1) (x7q _ _) (x7q _ _) (by rw[<-h2];exact h3);rw[<-h2] at hb;obtain⟨b1,b2,b3,b4,b5⟩:=hb;refine decide_eq_decide.2 ?_;unfold bitN;rw[show(8*x.1+(8-lenM x.2))/8=x.1 by omega,show 7-(8*x.1+(8-lenM x.2))%8=lenM x.2-1 by omega,b5];constructor
  ·exact λh=>⟨by omega,h⟩
  ·exact λh=>h.2
theorem shared_le(a b:Dig):zSq a b<=256:=by
 rcases(jGq a b).2 with h|h<;>omega
theorem ofNat_u8(n:Nat)(h:n<=255):(UInt8.ofNat n).toNat=n:=by simp;omega
theorem kn_turn(k:Dig)(i j:Nat)(hj:j<32)(hi:i<256):kn (qaq k i) j=if j=i/8 then kn k j^^^2^(7-i%8) else kn k j:=by
 unfold qaq;rw[kn_set _ _ _ _ hj];by_cases h:i/8=j
 ·rw[if_pos h,if_pos h.symm,h,ofNat_u8];exact xor_le _ _ (x7q _ _) (pow_le _)
 ·rw[if_neg h,if_neg (λe=>h e.symm)]
theorem Z3q(k:Dig)(i j:Nat)(hi:i<256)(hj:j<256)(h:¬j=i):bitN (qaq k i) j=bitN k j:=by
 unfold bitN;rw[kn_turn _ _ _ Xd hi];by_cases h8:j/8=i/8
 ·rw[if_pos h8,qAq,qAq,Nat.testBit_xor,Nat.testBit_two_pow_of_ne Xd];simp
 ·rw[if_neg h8]
theorem Z4q(k:Dig)(i:Nat)(hi:i<256):bitN (qaq k i) i=1-bitN k i:=by
 unfold bitN;rw[kn_turn _ _ _ Xd hi,if_pos rfl,qAq,qAq,Nat.testBit_xor,Nat.testBit_two_pow_self];cases (kn k (i/8)).testBit (7-i%8)<;>rfl
theorem shared_eq{a b:Dig}:zSq a b=256↔a=b:=by
 constructor
 ·intro h;cases hd:dTo a b 32 with
  |nil=>exact dig_ext (dTo_nil hd)
  |cons x l=>
   exfalso
   obtain⟨h1,h2,h3,h4⟩:=uVq hd;have hb:=QPq (kn a x.1) (kn b x.1) (x7q _ _) (x7q _ _) (by rw[<-h2];exact h3);rw[<-h2] at hb;unfold zSq at h;rw[hd] at h;simp only at h;omega
 ·rintro rfl;rcases(jGq a a).2 with h|⟨_,h⟩
  ·exact h
  ·exact absurd rfl h
theorem ysq{a b:Dig}{d:Nat}(hd:d<=256):d<=zSq a b↔∀j,j<d->bitN a j=bitN b j:=by
 obtain⟨h1,h2⟩:=jGq a b;constructor
 ·exact λh j hj=>h1 j Xd
 ·intro h;rcases h2 with h2|⟨h2,h3⟩
  ·omega
  ·exact Nat.le_of_not_lt λhlt=>h3 (h _ hlt)
theorem v0q{a b:Dig}(h:∀j,j<256->bitN a j=bitN b j):a=b:=by
 have:=(ysq (a:=a) (b:=b) (d:=256) (Nat.le_refl _)).2 h;have:=shared_le a b;exact shared_eq.1 Xd
theorem ahead_iff{a b:Dig}:yCq a b=true↔∃s,s<256/\(∀j,j<s->bitN a j=bitN b j)/\bitN a s=0/\bitN b s=1:=by
 rw[QUq];have hs:=jGq a b;constructor
 ·intro h;have h:=of_decide_eq_true h;refine⟨zSq a b,h.1,hs.1,?_,?_⟩<;>(have:=qUq b (zSq a b);omega)
 ·rintro⟨s,h1,h2,h3,h4⟩;have:zSq a b=s:=xYq hs ⟨h2,.inr ⟨h1,by omega⟩⟩;rw[this];exact decide_eq_true ⟨h1,by omega⟩
theorem xPq{a b:Dig}(h:yCq a b=true):a≠b:=by
 rintro rfl;obtain⟨s,_,_,h3,h4⟩:=ahead_iff.1 h;omega
theorem YQq(a:Dig):yCq a a=false:=by
 cases h:yCq a a with
 |false=>rfl
 |true=>exact absurd rfl (xPq h)
theorem Z8q{a b c:Dig}(h1:yCq a b=true)(h2:yCq b c=true):yCq a c=true:=by
 obtain⟨s,a1,a2,a3,a4⟩:=ahead_iff.1 h1;obtain⟨t,b1,b2,b3,b4⟩:=ahead_iff.1 h2;refine ahead_iff.2 ?_;rcases Nat.lt_trichotomy s t with h|h|h
 ·exact⟨s,a1,λj hj=>(a2 j hj).trans (b2 j Xd),a3,by rw[<-b2 s h];exact a4⟩
 ·subst h;omega
 ·exact⟨t,b1,λj hj=>(a2 j Xd).trans (b2 j hj),by rw[a2 t h];exact b3,b4⟩
theorem jXq{a b:Dig}(h:yCq a b=true):yCq b a=false:=by
 cases hb:yCq b a with
 |false=>rfl
 |true=>have:=Z8q h hb;rw[YQq] at this;cases this
theorem ahead_total{a b:Dig}(h:a≠b):yCq a b=true\/yCq b a=true:=by
 have hs:=jGq a b;have h256:zSq a b≠256:=λe=>h (shared_eq.1 e)
 rcases hs.2 with h2|⟨h1,h2⟩
 ·exact absurd h2 h256
 ·have x1:=qUq a (zSq a b);have x2:=qUq b (zSq a b);rcases Nat.eq_zero_or_pos (bitN a (zSq a b)) with h3|h3
  ·exact .inl (ahead_iff.2 ⟨_,h1,hs.1,h3,by omega⟩)
  ·exact .inr (ahead_iff.2 ⟨_,h1,λj hj=>(hs.1 j hj).symm,by omega,by omega⟩)
section
open Go.RowKit
section
attribute [local irreducible] CoW OpW FlW Step Spec
variable {G:Nat->Option W}
theorem j0q(a b:Nat):((a:Int)).tdiv (b:Int)=((a/b:Nat):Int):=by rw[Int.tdiv_eq_ediv_of_nonneg Xd];rfl
theorem kuq(a b:Nat):((a:Int)).tmod (b:Int)=((a%b:Nat):Int):=by rw[Int.tmod_eq_emod_of_nonneg Xd];rfl
theorem dW_ld(k:Dig){i:Nat}(h:i<32):zVq 50 (dW k) (0+i*1) 1 false=some (.int .u8 (kn k i:Nat)):=by rw[Nat.zero_add];exact dW_get k h
theorem bit_and(x n:Nat)(hn:n<=7)(hx:x<=255):Nat.land (Nat.shiftRight x (min n 8)%256) (1%256)=x/2^n%2:=by
 have h1:Nat.shiftRight x (min n 8)=x/2^n:=by rw[show min n 8=n by omega];exact Nat.shiftRight_eq_div_pow x n
 have h2:=Nat.div_le_self x (2^n);rw[h1,Nat.mod_eq_of_lt Xd];exact Nat.and_one_is_mod _
theorem bit_in(k:Dig)(i:Nat)(h:i<256):PS cfg G 207 [dW k,.int .i64 (i:Int)] (.tup [.int .u8 (bitN k i:Nat),.int .i64 0]):=by
 have hk:=x7q k (i/8);refine gI 11 O (λR k0=>?_);refine gD 0 O (λh1=>?_) (λh1=>?_)
 ·exfalso;omega
 refine gU 2 O ?_;refine gS 3 O (λh2=>?_) (λh2=>?_)
 ·exfalso;omega
 refine gA 5 O (i/8) (e:=(j0q i 8)) (gP 0 O (yBq (i:=i/8) O O O O O O Xd) (gM 0 O (zXq O O O (dW_ld k Xd)) (gV 1 O (congrArg (W.int .i64) (kuq i 8)) (gA 0 O (7-i%8) (gQ 7 O ?_)))));show W.tup [.int .u8 (Nat.land (Nat.shiftRight (kn k (i/8)) (min (7-i%8) 8)%256) (1%256):Nat),_]=_;rw[bit_and _ _ Xd hk];unfold bitN;rfl
theorem len_tabW(s:List UInt8)(h:(List.range 256).all (λx=>s[x]? ==some (UInt8.ofNat (lenM x)))=true)(x:Nat)(hx:x<=255):s[x]? =some (UInt8.ofNat (lenM x)):=by
 have:=List.all_eq_true.1 h x (List.mem_range.2 Xd);simpa using this
theorem len8_s(x:Nat)(hx:x<=255):PS cfg G 318 [.int .u8 (x:Int)] (.int .i64 (lenM x:Nat)):=by
 have hl:=lenM_le x hx;have e:((UInt8.ofNat (lenM x)).toNat:Int)=(lenM x:Nat):=by congr 1;simp;omega
 exact gI 8 O (λR k0=>gP 0 O (ix_str O O O O O (len_tabW _ (by decide+kernel) x hx)) (gA 0 O (lenM x) (e:=e) (gQa 4 O)))
theorem lz8_s(x:Nat)(hx:x<=255):PS cfg G 270 [.int .u8 (x:Int)] (.int .i64 (8-lenM x:Nat)):=by
 have hl:=lenM_le x hx;exact gI 8 O (λR k0=>gC 0 O (len8_s _ Xd) (gA 0 O (8-lenM x) (gQa 4 O)))
noncomputable def encP(x:Nat×Nat):List W:=[.int .i64 (x.1:Int),.int .u8 (x.2:Int)]
theorem dTo_more(a b:Dig){i:Nat}(h:i<32)(hx:kn a i^^^kn b i≠0):(dTo a b 32).drop (dTo a b i).length=dOf a b i::(dTo a b 32).drop (dTo a b (i+1)).length:=by
 have h1:=dTo_get a b i 32 h hx;obtain⟨hl,h2⟩:=List.getElem?_eq_some_iff.1 h1;have hs:=uUq a b i;rw[if_neg hx] at hs;rw[List.drop_eq_getElem_cons hl,h2,hs];simp
theorem dTo_same(a b:Dig){i:Nat}(hx:kn a i^^^kn b i=0):dTo a b (i+1)=dTo a b i:=by rw[uUq,if_pos hx,List.append_nil]
theorem xor8(x y:Nat)(hx:x<=255)(hy:y<=255):Nat.xor (x%256) (y%256)=x^^^y:=by rw[Nat.mod_eq_of_lt Xd,Nat.mod_eq_of_lt Xd];rfl
theorem apart_s(a b:Dig):PS cfg G 269 [dW a,dW b] (.fn 317 [] [.fel (dW a),.fel (dW b)]):=by
 refine gI 14 O (λR k0=>?_);refine y8q (fr2:=[(4,_)]) Xo ?_ O O
 (repeat (first|exact trivial|refine And.symm ⟨?_,_,rfl,?_⟩))<;>(repeat (first|exact .nil|refine .cons ?_ ?_|refine .fn ?_ ?_|(refine y9q O ?_ rfl;(first|rfl|(focus (simp;done))))|(refine .sl O ?_ rfl Xi;(first|rfl|(focus (simp;done))))|(refine .pur ?_;(first|rfl|(focus (simp;done))))|refine .agg ?_|refine .arr ?_|refine .tup ?_))
theorem apart_it(a b:Dig):qWq cfg G 317 [.fel (dW a),.fel (dW b)] ((dTo a b 32).map encP):=by
 refine vjq (fn:=Tryz.f317) O O O (Ob rfl) (λL E R hy k0=>?_);refine co_scope 3 (zKq 9 O ?_);refine co_loopR (α:=Nat×Res) (λp=>p.1<=32/\Yl cfg G L E (((dTo a b 32).drop (dTo a b p.1).length).map encP) p.2) (λp=>[(6,.int .i64 (p.1:Int))]) [(0,_),(1,_),(2,_)] (λp=>[]) (λp=>p.2) (λp=>32-p.1) ((0,R)) ⟨rfl,rfl,rfl,trivial⟩ (⟨Nat.zero_le _,by rw[dTo_zero];exact hy⟩) ⟨rfl,trivial⟩ O O (λp hI=>?_);obtain⟨i,R⟩:=p;obtain⟨hi,hy⟩:=hI;simp only at hi hy;have ha:=x7q a i;have hb:=x7q b i;refine zKq 6 O ?_;refine gS 0 O (λh1=>?_) (λh1=>?_)
 ·have hi':i<32:=by omega
  refine gP 13 O (ix_fel O O O O O O Xd rfl (dW_get a hi')) (gP 2 O (ix_fel O O O O O O Xd rfl (dW_get b hi')) (gV (w':=.int .u8 ((kn a i^^^kn b i:Nat):Int)) 1 O (congrArg (λn:Nat=>W.int .u8 (n:Int)) (xor8 _ _ ha hb)) ?_));refine gD 6 O (λh2=>?_) (λh2=>?_)
  ·have hx:kn a i^^^kn b i≠0:=by omega
   rw[dTo_more a b hi' hx,List.map_cons] at hy;refine gSo 4 O (jAq O O O (hy) (λb R1 hb=>?_));refine gS 4 O (λh3=>?_) (λh3=>?_)
   ·cases b with
    |true=>cases h3
    |false=>
     exact ycq 3 O (qbq Xi (z0q 1 O (q_scope (by intro l h;cases h) (xUq (.inl rfl) rfl hb))))
   ·cases b with
    |false=>exact absurd rfl h3
    |true=>
     exact ycq 4 O (gA 0 O (i+1) (zbq 2 O (q_againR ((i+1,R1)) (⟨hi',hb⟩) Yd (Nat.zero_le _) ⟨rfl,trivial⟩ ⟨rfl,rfl,rfl,trivial⟩ Xg Xg Xd Xj Yf rfl)))
  ·have hx:kn a i^^^kn b i=0:=by omega
   rw[<-dTo_same a b hx] at hy;exact gA 14 O (i+1) (zbq 2 O (q_againR ((i+1,R)) (⟨hi',hy⟩) Yd (Nat.zero_le _) ⟨rfl,trivial⟩ ⟨rfl,rfl,rfl,trivial⟩ Xg Xg Xd Xj Yf rfl))
 ·refine zbq 2 O (qbq Xi (z0q 1 O (q_scope (by intro l h;cases h) ?_)));have:i=32:=by omega
  subst this;rw[List.drop_length] at hy;exact xUq (.inl rfl) rfl hy
theorem encP_ok{l:List (Nat×Nat)}:∀y∈l,purL (encP y)=true/\(encP y).length=2:=λy _=>⟨rfl,rfl⟩
theorem head_of{α:Type}{l:List α}{x:α}{i:Nat}(h:l[i]? =some x)(hi:i=0):∃r,l=x::r:=by
 subst hi;cases l with
 |nil=>simp at h
 |cons y r=>simp at h;subst h;exact⟨r,rfl⟩
theorem shared_s(a b:Dig):PS cfg G 201 [dW a,dW b] (.int .i64 (zSq a b:Nat)):=by
 refine gI 12 O (λR k0=>gC 0 O (apart_s _ _) (zbq 3 O ?_));refine ZUq (encP) (dTo a b 32) (λi=>i=0) rfl Xk (apart_it a b) (encP_ok) (rfl) (λi y hy hI=>?_) (λhI=>?_)
 ·obtain⟨r,hr⟩:=head_of hy hI;obtain⟨h1,h2,h3,h4⟩:=uVq hr;have hb:=xor_le _ _ (x7q a y.1) (x7q b y.1);rw[<-h2] at hb;have hl:=lenM_le y.2 hb;refine zKq 8 O (q_asg (zKq 4 O (gA 0 O (8*y.1) (gC 1 O (lz8_s _ Xd) (gA 0 O (8*y.1+(8-lenM y.2)) (zbq 5 O (q_leave Xi (z0q 2 O (gQ 0 O ?_)))))))));unfold zSq;rw[hr]
 ·have:dTo a b 32=[]:=List.eq_nil_of_length_eq_zero hI;refine z0q 8 O (gQ 0 O ?_);unfold zSq;rw[this];rfl
theorem ahead_s(a b:Dig):PS cfg G 263 [dW a,dW b] (.bool (yCq a b)):=by
 refine gI 12 O (λR k0=>gC 0 O (apart_s _ _) (zbq 3 O ?_));refine ZUq (encP) (dTo a b 32) (λi=>i=0) rfl Xk (apart_it a b) (encP_ok) (rfl) (λi y hy hI=>?_) (λhI=>?_)
 ·obtain⟨r,hr⟩:=head_of hy hI;obtain⟨h1,h2,h3,h4⟩:=uVq hr;refine zKq 3 O (q_asg (zKq 4 O (gP 0 O (yBq (i:=y.1) O O O O O O h1) (gM 0 O (zXq O O O (dW_ld a h1)) (gP 1 O (yBq (i:=y.1) O O O O O O h1) (gM 0 O (zXq O O O (dW_ld b h1)) (gU 0 O (zbq 5 O (q_leave Xi (z0q 2 O (gQ 0 O ?_)))))))))));unfold yCq;rw[hr];congr 1
  simp
 ·have:dTo a b 32=[]:=List.eq_nil_of_length_eq_zero hI;refine z0q 8 O (gQ 0 O ?_);unfold yCq;rw[this]
theorem shr8(n:Nat)(hn:n<=7):Nat.shiftRight 128 (min n 8)=2^(7-n):=by
 have h:∀n,n<=7->Nat.shiftRight 128 (min n 8)=2^(7-n):=by decide+kernel
 exact h n hn
theorem turn_in(k:Dig)(i:Nat)(h:i<256):PS cfg G 202 [dW k,.int .i64 (i:Int)] (.tup [dW (qaq k i),.int .i64 0]):=by
 have hk:=x7q k (i/8);have hp:=pow_le (i%8);have hx:=xor_le _ _ hk hp
 have e1:Nat.xor (kn k (i/8)%256) (Nat.shiftRight 128 (min (i%8) 8)%256)=kn k (i/8)^^^2^(7-i%8):=by
  rw[shr8 _ Xd];exact xor8 _ _ hk hp
 refine gI 11 O (λR k0=>?_);refine gD 0 O (λh1=>?_) (λh1=>?_)
 ·exfalso;omega
 refine gU 2 O ?_;refine gS 3 O (λh2=>?_) (λh2=>?_)
 ·exfalso;omega
 refine gA 5 O (i/8) (e:=(j0q i 8)) (gP 0 O (yBq (i:=i/8) O O O O O O Xd) (gM 0 O (zXq O O O (dW_ld k Xd)) (gV 1 O (congrArg (W.int .i64) (kuq i 8)) (gV (w':=.int .u8 ((kn k (i/8)^^^2^(7-i%8):Nat):Int)) 1 O (congrArg (λn:Nat=>W.int .u8 (n:Int)) e1) (gP 0 O (yBq (i:=i/8) O O O O O O Xd) (gM 0 O (qpq O O O O O (y2q (i:=0+i/8*1) Qc O O) rfl) (gQ 10 O ?_)))))));rw[Nat.zero_add,Nat.mul_one,dW_set k (i/8) Xd];unfold qaq;rfl
end
end
def beB:Nat->Nat->List UInt8
 |0,_=>[]
 |s+1,n=>UInt8.ofNat (n/256^s%256)::beB s n
def numB(l:List UInt8):Nat:=l.foldl (λa c=>256*a+c.toNat) 0
@[simp] theorem q5q:∀s n,(beB s n).length=s
 |0,_=>rfl
 |s+1,n=>by simp[beB,q5q s n]
theorem numB_snoc(l:List UInt8)(c:UInt8):numB (l++[c])=256*numB l+c.toNat:=by simp[numB,List.foldl_append]
theorem Qnq:∀(l:List UInt8) (a:Nat),l.foldl (λa c=>256*a+c.toNat) a=a*256^l.length+numB l
 |[],a=>by simp[numB]
 |c::l,a=>by
  simp only[List.foldl_cons,numB,List.length_cons];rw[Qnq l,Qnq l (256*0+c.toNat),Nat.pow_succ];simp only[Nat.add_mul,Nat.mul_zero,Nat.zero_add,Nat.add_assoc];congr 1
  rw[Nat.mul_comm 256 a,Nat.mul_assoc,Nat.mul_comm 256]
theorem numB_cons(c:UInt8)(l:List UInt8):numB (c::l)=c.toNat*256^l.length+numB l:=by
 show(c::l).foldl _ 0=_;rw[List.foldl_cons,Qnq];simp
theorem numB_lt:∀l:List UInt8,numB l<256^l.length
 |[]=>by simp[numB]
 |c::l=>by
  rw[numB_cons,List.length_cons,Nat.pow_succ];have:=numB_lt l;have hc:=c.toNat_lt;have:c.toNat*256^l.length<=255*256^l.length:=Nat.mul_le_mul_right _ Xd;omega
section
open Go.RowKit
section
attribute [local irreducible] CoW OpW FlW Step Spec
variable {G:Nat->Option W}
theorem vqq(l:List UInt8)(f:Bool)(hl:l.length<=70368744177664):PS cfg G 104 [.fz (zaq l) 1 f] (bW l):=by
 refine gI 9 O (λR k0=>?_);first|refine yoq O O ?_|refine zLq rfl (jqq O O O O O (λbn hn=>?_))
 refine zpq 2 O ?_;refine gS 0 O (λh1=>?_) (λh1=>?_)
 ·cases bn with
  |false=>cases h1
  |true=>
   have hn:=hn rfl
   have hl0:l=[]:=by cases l with
    |nil=>rfl
    |cons c l=>simp[zaq] at hn
   subst hl0;refine ycq 7 O ?_;refine y8q (fr2:=[(2,bW [])]) Qs ⟨⟨_,rfl,.nilfz⟩,trivial⟩ O O
 ·cases l with
  |nil=>
   skip
   refine ycq 6 O (gM 0 O (z6q O O (joq O O O O O)) (zbq 4 O ?_));refine y8q (fr2:=[(2,bW [])]) Qs ⟨⟨_,rfl,.sl O O O Xi⟩,trivial⟩ O O
  |cons c l=>
   simp only[List.length_cons] at hl;refine ycq 6 O (gM 0 O (z6q O O (yZq (news:=zaq (c::l)) (olds:=[]) O O O O O Yy (by show(0+(zaq (c::l)).length)*1<=_;rw[zeq];simp only[List.length_cons];omega) (by rw[zeq];simp only[List.length_cons];omega) rfl (by show 0<0+(0+(zaq (c::l)).length)*1;rw[zeq];simp only[List.length_cons];omega) O O)) (zbq 4 O ?_));refine y8q (fr2:=[(2,bW (c::l))]) Qs ⟨⟨_,rfl,.sl rfl Xh (sub_whole Xh (Nat.mul_one _)) Xi⟩,trivial⟩ O O
theorem end_s(l:List UInt8)(f:Bool):PS cfg G 316 [.fz (zaq l) 1 f] (.int .i64 (if l=[] then 0 else 11)):=by
 have e:=zeq l;refine gI 9 O (λR k0=>gL 0 O ?_);refine gS 3 O (λh1=>?_) (λh1=>?_)
 ·refine zbq 7 O ?_;have:l≠[]:=by rintro rfl;simp[zaq] at h1
  exact gQ 0 O (by rw[if_neg this])
 ·refine zbq 8 O ?_;have:l=[]:=List.eq_nil_of_length_eq_zero (by rw[<-e];simpa using h1);exact gQ 0 O (by rw[if_pos this])
theorem shr_byte(n i:Nat)(hi:i<=8):Nat.shiftRight n (min (8*i) 64)%256=n/256^i%256:=by
 have:Nat.shiftRight n (min (8*i) 64)=n/2^(8*i):=by rw[show min (8*i) 64=8*i by omega];exact Nat.shiftRight_eq_div_pow _ _
 rw[this,Nat.pow_mul]
theorem be_at(n size i:Nat)(hi:i<size):(zaq (List.replicate (size-i) 0++beB i n))[0+(size-1-i)*1]? =some (.int .u8 (.ofNat 0)):=by
 refine koq (c:=0) ?_;rw[List.getElem?_append_left Xn,List.getElem?_replicate,if_pos Xd]
theorem be_set(n size i:Nat)(hi:i<size):(zaq (List.replicate (size-i) 0++beB i n)).set (0+(size-1-i)*1) (.int .u8 ((n/256^i%256:Nat):Int))=zaq (List.replicate (size-(i+1)) 0++beB (i+1) n):=by
 have e:size-i=(size-(i+1))+1:=by omega
 have e2:0+(size-1-i)*1=size-(i+1):=by omega
 rw[e,e2,List.replicate_succ',List.append_assoc,yYq,yYq,List.set_append_right _ _ Yy];simp only[zaq,List.length_map,List.length_replicate,Nat.sub_self,List.singleton_append,List.map_cons,List.set_cons_zero,beB];congr 2
 simp
theorem be_zero(n size:Nat):zaq (List.replicate (size-0) 0++beB 0 n)=List.replicate size (.int .u8 0):=by simp[zaq,beB]
theorem put_s(n size:Nat)(hs:1<=size)(hs8:size<=8)(hn:n<256^size):qoq cfg G 216 0 [.int .u64 (n:Int),.int .i64 (size:Int)] [] λw hp nw=>
  w= .tup [.sl 0 0 0 size 1 none,.int .i64 0]/\hp=[(0,5,.arr (size*1) 1 (zaq (beB size n)))]/\nw=1:=by
 intro R
 have hq:size<8->Nat.shiftRight n (min (8*size) 64)=0:=λh=>by
  rw[show min (8*size) 64=8*size by omega,show Nat.shiftRight n (8*size)=n/2^(8*size) from Nat.shiftRight_eq_div_pow _ _,Nat.pow_mul];exact Nat.div_eq_of_lt hn
 refine gIs 11 O (λk0=>?_);refine gD 0 O (λh1=>?_) (λh1=>?_)
 ·exfalso;omega
 refine gU 2 O ?_;refine gS 4 O (λh2=>?_) (λh2=>?_)
 ·exfalso;omega
 refine gD 3 O (λh3=>?_) (λh3=>?_)
 ·have h8:=hq Xd;refine gA 3 O (8*size) (gU 1 O ?_);refine gS 4 O (λh4=>?_) (λh4=>?_)
  ·skip
   exfalso
   have h4:(0:Int)<(Nat.shiftRight n (min (8*size) 64):Nat):=h4;rw[h8] at h4;omega
  ·refine gM 6 O (kRq (l:=size) (c:=size) O O O O O O O O (Nat.le_refl _) (by show 1*size<=_;omega) Xd O O) (zbq 11 O ?_);refine yLq (α:=Nat) (λi=>i<=size) (λi=>[(28,.int .i64 (i:Int))]) [(0,_),(1,_),(4,_),(5,_),(6,_),(27,_)] (λi=>[(0,5,.arr (size*1) 1 (zaq (List.replicate (size-i) 0++beB i n)))]) (λi=>size-i) (0) ⟨rfl,rfl,rfl,rfl,rfl,rfl,trivial⟩ (Nat.zero_le _) ⟨rfl,trivial⟩ (by rw[be_zero];rfl) (λi hI=>?_);refine zKq 6 O ?_;refine gS 0 O (λh5=>?_) (λh5=>?_)
   ·have hi:i<size:=by omega
    exact gA 13 O (size-1) (gA 1 O (size-1-i) (gA 2 O (8*i) (gV (w':=.int .u8 ((n/256^i%256:Nat):Int)) 1 O (congrArg (λn:Nat=>W.int .u8 (n:Int)) (shr_byte n i Xd)) (gP 0 O (qQq (i:=size-1-i) O O O O O O O Xd) (gM 0 O (qpq O O O O O (y2q (be_at n size i hi) O O) (congrArg (λL=>[(0,5,W.arr (size*1) 1 L)]) (be_set n size i hi))) (gA 4 O (i+1) (zbq 2 O (y1q (i+1) (hi) Xd ⟨rfl,trivial⟩ ⟨rfl,rfl,rfl,rfl,rfl,rfl,trivial⟩ rfl))))))))
   ·refine zbq 2 O (qbq Xi (z0q 10 O ?_));have:i=size:=by omega
    subst this;refine fin Qs Ent.refl rfl ⟨rfl,rfl,?_,rfl⟩;rw[Nat.sub_self];rfl
 ·refine gM 17 O (kRq (l:=size) (c:=size) O O O O O O O O (Nat.le_refl _) (by show 1*size<=_;omega) Xd O O) (zbq 11 O ?_);refine yLq (α:=Nat) (λi=>i<=size) (λi=>[(28,.int .i64 (i:Int))]) [(0,_),(1,_),(4,_),(5,_),(6,_),(27,_)] (λi=>[(0,5,.arr (size*1) 1 (zaq (List.replicate (size-i) 0++beB i n)))]) (λi=>size-i) (0) ⟨rfl,rfl,rfl,rfl,rfl,rfl,trivial⟩ (Nat.zero_le _) ⟨rfl,trivial⟩ (by rw[be_zero];rfl) (λi hI=>?_);refine zKq 6 O ?_;refine gS 0 O (λh4=>?_) (λh4=>?_)
  ·have hi:i<size:=by omega
   exact gA 13 O (size-1) (gA 1 O (size-1-i) (gA 2 O (8*i) (gV (w':=.int .u8 ((n/256^i%256:Nat):Int)) 1 O (congrArg (λn:Nat=>W.int .u8 (n:Int)) (shr_byte n i Xd)) (gP 0 O (qQq (i:=size-1-i) O O O O O O O Xd) (gM 0 O (qpq O O O O O (y2q (be_at n size i hi) O O) (congrArg (λL=>[(0,5,W.arr (size*1) 1 L)]) (be_set n size i hi))) (gA 4 O (i+1) (zbq 2 O (y1q (i+1) (hi) Xd ⟨rfl,trivial⟩ ⟨rfl,rfl,rfl,rfl,rfl,rfl,trivial⟩ rfl))))))))
  ·refine zbq 2 O (qbq Xi (z0q 10 O ?_));have:i=size:=by omega
   subst this;refine fin Qs Ent.refl rfl ⟨rfl,rfl,?_,rfl⟩;rw[Nat.sub_self];rfl
theorem shl8(n:Nat):(Int.ofNat (Nat.shiftLeft n (min 8 64)))=((256*n:Nat):Int):=by
 rw[show Nat.shiftLeft n (min 8 64)=n*2^8 from Nat.shiftLeft_eq n 8,Nat.mul_comm];rfl
theorem or_low(n c:Nat)(hn:256*n<18446744073709551616)(hc:c<256):Nat.lor (256*n%18446744073709551616) (c%18446744073709551616)=256*n+c:=by
 rw[Nat.mod_eq_of_lt hn,Nat.mod_eq_of_lt Xd];have:=Nat.two_pow_add_eq_or_of_lt (i:=8) (b:=c) Xd n;rw[Nat.mul_comm] at this;rw[show Nat.lor (256*n) c=256*n|||c from rfl,Nat.mul_comm 256 n];rw[Nat.mul_comm] at this;rw[Nat.mul_comm n 256];exact this.symm
theorem pow256_le{i:Nat}(h:i<=8):256^i<=18446744073709551616:=by
 have h':∀i,i<=8->256^i<=18446744073709551616:=by decide
 exact h' i h
theorem numB_take{l:List UInt8}{i:Nat}{c:UInt8}(h:l[i]? =some c):numB (l.take (i+1))=256*numB (l.take i)+c.toNat:=by
 rw[List.take_add_one,h];exact numB_snoc _ _
theorem vxq{l:List UInt8}{i:Nat}(h:i<=7):256*numB (l.take i)<18446744073709551616:=by
 have h1:=numB_lt (l.take i);have h2:256^(l.take i).length<=256^i:=Nat.pow_le_pow_right Xd Xn;have h3:=pow256_le (i:=i+1) Xd;rw[Nat.pow_succ] at h3;omega
theorem keq(l:List UInt8)(f:Bool)(size:Nat)(hs:1<=size)(hs8:size<=8)(hl:l.length<size):PS cfg G 315 [.fz (zaq l) 1 f,.int .i64 (size:Int)] (.tup [.int .u64 0,.nils,.int .i64 10]):=by
 have e:=zeq l;refine gI 12 O (λR k0=>?_);refine gD 0 O (λh1=>?_) (λh1=>?_)
 ·exfalso;omega
 refine gU 2 O ?_;refine gS 4 O (λh2=>?_) (λh2=>?_)
 ·exfalso;omega
 refine gV (w':=.int .i64 (l.length:Int)) 3 O Xu (gU 1 O ?_);refine gS 3 O (λh3=>?_) (λh3=>?_)
 ·first|exact gQa 10 O|(exfalso;omega)
 ·exfalso;omega
theorem k1q(l:List UInt8)(f:Bool)(size:Nat)(hs:1<=size)(hs8:size<=8)(hl:size<=l.length)(hb:l.length<=70368744177664):PS cfg G 315 [.fz (zaq l) 1 f,.int .i64 (size:Int)] (.tup [.int .u64 (numB (l.take size):Nat),bW (l.drop size),.int .i64 0]):=by
 have e:=zeq l;have el:(l.take size).length=size:=by simp;omega
 refine gI 12 O (λR k0=>?_);refine gD 0 O (λh1=>?_) (λh1=>?_)
 ·exfalso;omega
 refine gU 2 O ?_;refine gS 4 O (λh2=>?_) (λh2=>?_)
 ·exfalso;omega
 refine gV (w':=.int .i64 (l.length:Int)) 3 O Xu (gU 1 O ?_);refine gS 3 O (λh3=>?_) (λh3=>?_)
 ·exfalso;omega
 refine gP 9 O (cut_fz3 (ys:=zaq (l.take size)) (l:=0) (h:=size) (m:=size) O O O O O O O O (Nat.zero_le _) (Nat.le_refl _) Xd hs (by rw[List.drop_zero,Nat.sub_zero,Z0q]) rfl) (gV (w':=.int .i64 (size:Int)) 0 O (by show W.int .i64 ((zaq (l.take size)).length:Int)=_;rw[zeq,el]) ?_);refine gLo (α:=Nat) 4 (λi=>i<=size) (λi=>[(26,.int .i64 (i:Int)),(4,.int .u64 (numB (l.take i):Nat))]) [0,1,5,6,24,25] (λi=>size-i) (0) rfl (Nat.zero_le _) (λi hI=>?_);refine gS 6 O (λh4=>?_) (λh4=>?_)
 ·have hi:i<size:=by omega
  obtain⟨c,hc⟩:∃c,l[i]? =some c:=⟨_,List.getElem?_eq_getElem Xd⟩
  have hc2:(l.take size)[i]? =some c:=by rw[List.getElem?_take,if_pos hi];exact hc
  have hcl:=c.toNat_lt;have hn:=vxq (l:=l) (i:=i) Xd;exact gP 6 O (zqq (i:=i) O O O O O O O (koq hc2)) (gA 6 O (256*numB (l.take i)) (e:=(shl8 _)) (gA 1 O (c.toNat) (gV (w':=.int .u64 (numB (l.take (i+1)):Nat)) 0 O (congrArg (λn:Nat=>W.int .u64 (n:Int)) ((or_low _ _ hn hcl).trans (numB_take hc).symm)) (gA 5 O (i+1) (gAg 2 O (i+1) (hi) Xd)))))
 ·have:i=size:=by omega
  subst this;exact gO 2 O (gP 7 O (cut_fz (ys:=zaq (l.drop i)) (l:=i) (h:=(zaq l).length) O O O O O O O Xd (Nat.le_refl _) (by rw[List.take_of_length_le Xh,Z1q]) rfl) (gC 0 O (vqq _ _ (by first|assumption|(simp;omega))) (gQa 6 O)))
structure Acct where
 nonce:Nat
 balance:Nat
 deriving DecidableEq
def Acct.zero:Acct:=⟨0,0⟩
noncomputable def aW(a:Acct):W:=.agg 2 [.int .u64 (a.nonce:Int),.int .u64 (a.balance:Int)]
@[simp] theorem aW_pur(a:Acct):purW (aW a)=true:=rfl
def bytesA(a:Acct):List UInt8:=beB 8 a.nonce++beB 8 a.balance
def qIq(l:List UInt8):Acct×Nat:=if l.length<16 then(.zero,10) else if 16<l.length then(.zero,11) else
 if (⟨numB (l.take 8),numB (l.drop 8)⟩:Acct)= .zero then(.zero,8) else(⟨numB (l.take 8),numB (l.drop 8)⟩,0)
theorem eq_acct(a b:Acct):eqW cfg 300 169 (aW a) (aW b)=some (decide (a=b)):=by
 have e:decide (a=b)=(decide ((a.nonce:Int)=b.nonce)&&(decide ((a.balance:Int)=b.balance)&&true)):=by
  cases a;cases b
  simp only[Acct.mk.injEq,Bool.and_true];rw[Bool.eq_iff_iff];simp only[decide_eq_true_eq,Bool.and_eq_true];omega
 rw[e];exact jSq O O O O (zFq O O O (qqq O O) (zFq O O O (qqq O O) kVq))
theorem aread_s(l:List UInt8)(f:Bool)(hb:l.length<=70368744177664):PS cfg G 268 [.fz (zaq l) 1 f] (.tup [aW (qIq l).1,.int .i64 ((qIq l).2:Nat)]):=by
 by_cases q1:l.length<8
 ·have e:qIq l=(.zero,10):=by unfold qIq;rw[if_pos Xd]
  rw[e];exact gI 15 O (λR k0=>gC 0 O (keq _ _ 8 Xd Xd q1) (gQa 27 O))
 have q2:(l.drop 8).length=l.length-8:=by simp
 by_cases q3:l.length<16
 ·have e:qIq l=(.zero,10):=by unfold qIq;rw[if_pos q3]
  rw[e];refine gI 15 O (λR k0=>?_);first|(first|refine yqq O O O O O O (k1q l _ 8 Xd Xd Xd hb) ?_|refine yqq O O O O O O (keq (l.drop 8) _ 8 Xd Xd Xd) ?_)|refine yqq O O O O O O (k1q _ _ 8 Xd Xd Xd hb) ?_|refine yqq O O O O O O (keq _ _ 8 Xd Xd q1) ?_
  refine zpq 23 O ?_;first|(first|refine yqq O O O O O O (k1q l _ 8 Xd Xd Xd hb) ?_|refine yqq O O O O O O (keq (l.drop 8) _ 8 Xd Xd Xd) ?_)|refine yqq O O O O O O (k1q _ _ 8 Xd Xd Xd hb) ?_|refine yqq O O O O O O (keq _ _ 8 Xd Xd q1) ?_
  exact zpq 27 O (gQa 0 O)
 have e3:(l.drop 8).drop 8=[]↔l.length=16:=by rw[List.drop_drop,List.drop_eq_nil_iff];omega
 by_cases q4:16<l.length
 ·have e:qIq l=(.zero,11):=by unfold qIq;rw[if_neg q3,if_pos q4]
  have e4:¬(l.drop 8).drop 8=[]:=λh=>by have:=e3.1 h;omega
  rw[e];refine gI 15 O (λR k0=>?_)
  (first|refine yqq O O O O O O (k1q l _ 8 Xd Xd Xd hb) ?_|refine yqq O O O O O O (k1q (l.drop 8) _ 8 Xd Xd Xd Xd) ?_)
  refine zpq 23 O ?_
  (first|refine yqq O O O O O O (k1q l _ 8 Xd Xd Xd hb) ?_|refine yqq O O O O O O (k1q (l.drop 8) _ 8 Xd Xd Xd Xd) ?_)
  exact zpq 24 O (yqq O O O O O O (zWq (w':=.int .i64 11) (end_s _ _) (by rw[if_neg e4])) (op_cz O O (zpq 14 O (gQa 0 O))))
 ·have e4:(l.drop 8).drop 8=[]:=e3.2 Xd;have e5:(l.drop 8).take 8=l.drop 8:=List.take_of_length_le Xd;refine gI 15 O (λR k0=>?_)
  (first|refine yqq O O O O O O (k1q l _ 8 Xd Xd Xd hb) ?_|refine yqq O O O O O O (k1q (l.drop 8) _ 8 Xd Xd Xd Xd) ?_)
  refine zpq 23 O ?_
  (first|refine yqq O O O O O O (k1q l _ 8 Xd Xd Xd hb) ?_|refine yqq O O O O O O (k1q (l.drop 8) _ 8 Xd Xd Xd Xd) ?_)
  refine zpq 24 O (yqq O O O O O O (zWq (w':=.int .i64 0) (end_s _ _) (by rw[if_pos e4])) (op_cz O O (zpq 8 O (gP 0 O (yaq O O O O (eq_acct ⟨numB (l.take 8),numB ((l.drop 8).take 8)⟩ .zero)) ?_))));refine gS 3 O (λh1=>?_) (λh1=>?_)
  ·refine zbq 10 O ?_
   have e:qIq l=(.zero,8):=by
    rw[e5] at h1;unfold qIq;rw[if_neg q3,if_neg q4,if_pos h1]
   rw[e];exact gQa 0 O
  ·refine zbq 11 O ?_
   have e:qIq l=(⟨numB (l.take 8),numB (l.drop 8)⟩,0):=by
    rw[e5] at h1;unfold qIq;rw[if_neg q3,if_neg q4,if_neg h1]
   rw[e];exact gQ 0 O (by rw[e5];rfl)
end
end
abbrev Pr:=Dig×List UInt8
inductive T where
 |nil
 |leaf (k:Dig) (v:List UInt8)
 |fork (l r:T)
 deriving Inhabited
def T.all:T->List Pr
 |.nil=>[]
 |.leaf k v=>[(k,v)]
 |.fork l r=>l.all++r.all
def T.isFork:T->Bool
 |.fork _ _=>true
 |_=>false
def T.non:T->Bool
 |.nil=>false
 |_=>true
def T.two(l r:T):Bool:=l.isFork||r.isFork||(l.non&&r.non)
def T.ok:Nat->Dig->T->Bool
 |_,_,.nil=>true
 |d,b,.leaf k _=>decide (d<=zSq k b)
 |d,b,.fork l r=>decide (d<256)&&T.ok (d+1) b l&&T.ok (d+1) (qaq b d) r&&T.two l r
def T.find(k:Dig):Nat->T->Option (List UInt8)
 |_,.nil=>none
 |_,.leaf k' v=>if k'=k then some v else none
 |d,.fork l r=>if bitN k d=0 then l.find k (d+1) else r.find k (d+1)
def T.roads(d:Nat):T->T×T
 |.nil=>(.nil,.nil)
 |.leaf k v=>if bitN k d=0 then(.leaf k v,.nil) else(.nil,.leaf k v)
 |.fork l r=>(l,r)
def T.put(k:Dig)(v:List UInt8):Nat->T->T
 |_,.nil=>.leaf k v
 |0,.leaf _ _=>.leaf k v
 |0,.fork l r=>.fork l r
 |f+1,.leaf k' v'=>if k'=k then .leaf k v else
  if bitN k (255-f)=0 then .fork (T.put k v f (T.roads (255-f) (.leaf k' v')).1) (T.roads (255-f) (.leaf k' v')).2
  else .fork (T.roads (255-f) (.leaf k' v')).1 (T.put k v f (T.roads (255-f) (.leaf k' v')).2)
 |f+1,.fork l r=>if bitN k (255-f)=0 then .fork (T.put k v f l) r else .fork l (T.put k v f r)
def Srt(l:List Pr):Prop:=l.Pairwise λa b=>yCq a.1 b.1=true
def k8q(l:List Pr)(k:Dig)(v:List UInt8):List Pr:=l.filter (λp=>yCq p.1 k)++(k,v)::l.filter (λp=>yCq k p.1)
def withoutL(l:List Pr)(k:Dig):List Pr:=l.filter λp=>decide (p.1≠k)
def findL(l:List Pr)(k:Dig):Option (List UInt8):=(l.find? λp=>decide (p.1=k)).map (·.2)
theorem srt_uniq{l:List Pr}(h:Srt l){p q:Pr}(hp:p∈l)(hq:q∈l)(e:p.1=q.1):p=q:=by
 induction l with
 |nil=>simp at hp
 |cons x l ih=>
  have h:=List.pairwise_cons.1 h;simp only[List.mem_cons] at hp hq;rcases hp with rfl|hp<;>rcases hq with rfl|hq
  ·rfl
  ·exact absurd e (xPq (h.1 q hq))
  ·exact absurd e.symm (xPq (h.1 p hp))
  ·exact ih h.2 hp hq
theorem mem_withL{l:List Pr}{k:Dig}{v:List UInt8}{p:Pr}:p∈k8q l k v↔p=(k,v)\/(p∈l/\p.1≠k):=by
 simp only[k8q,List.mem_append,List.mem_filter,List.mem_cons];constructor
 ·rintro(⟨h1,h2⟩|rfl|⟨h1,h2⟩)
  ·exact .inr ⟨h1,xPq h2⟩
  ·exact .inl rfl
  ·exact .inr ⟨h1,λe=>xPq h2 e.symm⟩
 ·rintro(rfl|⟨h1,h2⟩)
  ·exact .inr (.inl rfl)
  ·rcases ahead_total h2 with h|h
   ·exact .inl ⟨h1,h⟩
   ·exact .inr (.inr ⟨h1,h⟩)
def Zr(d:Nat)(b:Dig):Prop:=∀j,d<=j->j<256->bitN b j=0
theorem qKq{d:Nat}{b:Dig}(h:Zr d b):Zr (d+1) b:=λj h1 h2=>h j Xd h2
theorem qJq{d:Nat}{b:Dig}(h:Zr d b)(hd:d<256):Zr (d+1) (qaq b d):=λj h1 h2=>by rw[Z3q b d j hd h2 Xd];exact h j Xd h2
theorem k7q:Zr 0 yyq:=λj _ hj=>by
 unfold bitN
 have:kn yyq (j/8)=0:=by
  unfold kn yyq;simp only[List.getElem?_replicate];split<;>rfl
 rw[this];simp
theorem turn_pre{b:Dig}{d:Nat}(hd:d<256){j:Nat}(hj:j<d):bitN (qaq b d) j=bitN b j:=Z3q b d j hd Xd Xd
theorem side_l{b k:Dig}{d:Nat}(hz:Zr d b)(hd:d<256)(h:d+1<=zSq k b):d<=zSq k b/\bitN k d=0:=
 ⟨by omega,by rw[(ysq Xd).1 h d Xd];exact hz d (Nat.le_refl _) hd⟩
theorem side_r{b k:Dig}{d:Nat}(hz:Zr d b)(hd:d<256)(h:d+1<=zSq k (qaq b d)):d<=zSq k b/\bitN k d=1:=by
 have h1:=(ysq Xd).1 h;refine⟨(ysq Xd).2 λj hj=>?_,?_⟩
 ·rw[h1 j Xd,turn_pre hd hj]
 ·rw[h1 d Xd,Z4q b d hd,hz d (Nat.le_refl _) hd]
theorem kDq{b k:Dig}{d:Nat}(hz:Zr d b)(hd:d<256)(h:d<=zSq k b)(hb:bitN k d=0):d+1<=zSq k b:=by
 refine(ysq Xd).2 λj hj=>?_
 rcases Nat.lt_succ_iff_lt_or_eq.1 hj with hj|rfl
 ·exact(ysq Xd).1 h j hj
 ·rw[hb,hz j (Nat.le_refl _) hd]
theorem kCq{b k:Dig}{d:Nat}(hz:Zr d b)(hd:d<256)(h:d<=zSq k b)(hb:¬bitN k d=0):d+1<=zSq k (qaq b d):=by
 refine(ysq Xd).2 λj hj=>?_
 rcases Nat.lt_succ_iff_lt_or_eq.1 hj with hj|rfl
 ·rw[turn_pre hd hj];exact(ysq Xd).1 h j hj
 ·rw[Z4q b j hd,hz j (Nat.le_refl _) hd];have:=qUq k j;omega
theorem ok_fork{d:Nat}{b:Dig}{l r:T}:T.ok d b (.fork l r)=true↔d<256/\T.ok (d+1) b l=true/\T.ok (d+1) (qaq b d) r=true/\T.two l r=true:=by
 simp only[T.ok,Bool.and_eq_true,decide_eq_true_eq,and_assoc]
theorem xgq:∀{t:T} {d:Nat} {b:Dig},Zr d b->t.ok d b=true->∀p∈t.all,d<=zSq p.1 b
 |.nil,_,_,_,_,p,hp=>by simp[T.all] at hp
 |.leaf k v,d,b,_,h,p,hp=>by
  simp only[T.all,List.mem_singleton] at hp;subst hp;exact of_decide_eq_true h
 |.fork l r,d,b,hz,h,p,hp=>by
  obtain⟨hd,h1,h2,_⟩:=ok_fork.1 h;simp only[T.all,List.mem_append] at hp;rcases hp with hp|hp
  ·exact(side_l hz hd (xgq (qKq hz) h1 p hp)).1
  ·exact(side_r hz hd (xgq (qJq hz hd) h2 p hp)).1
theorem Qkq{l r:T}{d:Nat}{b:Dig}(hz:Zr d b)(h:(T.fork l r).ok d b=true):(∀p∈l.all,bitN p.1 d=0)/\∀p∈r.all,bitN p.1 d=1:=by
 obtain⟨hd,h1,h2,_⟩:=ok_fork.1 h;exact⟨λp hp=>(side_l hz hd (xgq (qKq hz) h1 p hp)).2,λp hp=>(side_r hz hd (xgq (qJq hz hd) h2 p hp)).2⟩
theorem uZq{a b c:Dig}{d:Nat}(hd:d<256)(ha:d<=zSq a c)(hb:d<=zSq b c)(h0:bitN a d=0)(h1:bitN b d=1):yCq a b=true:=
 ahead_iff.2 ⟨d,hd,λj hj=>by rw[(ysq Xd).1 ha j hj,(ysq Xd).1 hb j hj],h0,h1⟩
theorem ok_srt:∀{t:T} {d:Nat} {b:Dig},Zr d b->t.ok d b=true->Srt t.all
 |.nil,_,_,_,_=>List.Pairwise.nil
 |.leaf k v,_,_,_,_=>List.pairwise_singleton _ _
 |.fork l r,d,b,hz,h=>by
  obtain⟨hd,h1,h2,_⟩:=ok_fork.1 h;refine List.pairwise_append.2 ⟨ok_srt (qKq hz) h1,ok_srt (qJq hz hd) h2,λp hp q hq=>?_⟩;have a1:=side_l hz hd (xgq (qKq hz) h1 p hp);have a2:=side_r hz hd (xgq (qJq hz hd) h2 q hq);exact uZq hd a1.1 a2.1 a1.2 a2.2
theorem Qdq(k:Dig)(v:List UInt8):∀(f:Nat) (t:T),(t.put k v f).non=true
 |f,.nil=>by cases f<;>rfl
 |0,.leaf _ _=>rfl
 |0,.fork _ _=>rfl
 |f+1,.leaf k' v'=>by
  simp only[T.put];split
  ·rfl
  ·split<;>rfl
 |f+1,.fork l r=>by
  simp only[T.put];split<;>rfl
theorem put_fork(k:Dig)(v:List UInt8)(f:Nat){t:T}(h:t.isFork=true):(t.put k v f).isFork=true:=by
 cases t with
 |nil=>cases h
 |leaf _ _=>cases h
 |fork l r=>
  cases f with
  |zero=>rfl
  |succ f=>simp only[T.put];split<;>rfl
theorem tput_leaf(k k':Dig)(v v':List UInt8)(f:Nat)(h:k'≠k):((T.leaf k' v').put k v (f+1)).isFork=true:=by
 simp only[T.put,if_neg h];split<;>rfl
theorem two_l{l l' r:T}(h:T.two l r=true)(h1:l.isFork=true->l'.isFork=true)(h2:l'.non=true):T.two l' r=true:=by
 cases l<;>cases l'<;>cases r<;>simp[T.two,T.isFork,T.non] at h h1 h2⊢
theorem two_r{l r r':T}(h:T.two l r=true)(h1:r.isFork=true->r'.isFork=true)(h2:r'.non=true):T.two l r'=true:=by
 cases l<;>cases r<;>cases r'<;>simp[T.two,T.isFork,T.non] at h h1 h2⊢
theorem vZq{l:List Pr}{p:Pr->Bool}(h:∀x∈l,p x=true):l.filter p=l:=List.filter_eq_self.2 h
theorem uQq{l:List Pr}{p:Pr->Bool}(h:∀x∈l,p x=false):l.filter p=[]:=List.filter_eq_nil_iff.2 λx hx=>by rw[h x hx];exact Bool.false_ne_true
theorem withL_l{l r:List Pr}{k:Dig}(v:List UInt8)(h:∀p∈r,yCq k p.1=true):k8q (l++r) k v=k8q l k v++r:=by
 simp only[k8q,List.filter_append];rw[uQq (l:=r) (p:=λp=>yCq p.1 k) λp hp=>jXq (h p hp),vZq (l:=r) (p:=λp=>yCq k p.1) h];simp
theorem withL_r{l r:List Pr}{k:Dig}(v:List UInt8)(h:∀p∈l,yCq p.1 k=true):k8q (l++r) k v=l++k8q r k v:=by
 simp only[k8q,List.filter_append];rw[vZq (l:=l) (p:=λp=>yCq p.1 k) h,uQq (l:=l) (p:=λp=>yCq k p.1) λp hp=>jXq (h p hp)];simp
theorem withL_one(k:Dig)(v v':List UInt8):k8q [(k,v')] k v=[(k,v)]:=by
 simp[k8q,YQq]
theorem jtq(k:Dig)(v:List UInt8):∀(f:Nat) (t:T) {d:Nat} {b:Dig},d+f=256->Zr d b->t.ok d b=true->d<=zSq k b->(t.put k v f).ok d b=true/\(t.put k v f).all=k8q t.all k v
 |f,.nil,d,b,_,hz,h,hk=>by
  cases f<;>exact⟨decide_eq_true hk,by simp[T.put,T.all,k8q]⟩
 |0,.leaf k' v',d,b,hf,hz,h,hk=>by
  have h:=of_decide_eq_true h;have:k'=k:=v0q λj hj=>by rw[(ysq Xd).1 h j Xd,(ysq Xd).1 hk j Xd]
  subst this;exact⟨decide_eq_true hk,by simp only[T.put,T.all];rw[withL_one]⟩
 |0,.fork l r,d,b,hf,hz,h,hk=>by
  obtain⟨hd,_⟩:=ok_fork.1 h;omega
 | f + 1,.leaf k' v',d,b,hf,hz,h,hk=>by
  have hd:d<256:=by omega
  have ed:255-f=d:=by omega
  have h:=of_decide_eq_true h;simp only[T.put,ed];by_cases e:k'=k
  ·subst e;simp only[if_true];exact⟨decide_eq_true hk,by simp only[T.all];rw[withL_one]⟩
  ·rw [if_neg e];have b1:=qUq k' d;have b2:=qUq k d;by_cases hb:bitN k d=0
   ·rw [if_pos hb];by_cases hb':bitN k' d=0
    ·simp only[T.roads,hb',if_true];have hs:(T.leaf k' v').ok (d+1) b=true:=decide_eq_true (kDq hz hd h hb');obtain⟨i1,i2⟩:=jtq k v f (.leaf k' v') (d:=d+1) Xd (qKq hz) hs (kDq hz hd hk hb);refine⟨ok_fork.2 ⟨hd,i1,rfl,?_⟩,by simp only[T.all,List.append_nil];exact i2⟩;cases f with
     |zero=>
      exfalso
      refine e (v0q λj hj=>?_);rcases Nat.lt_or_ge j d with h1|h1
      ·rw[(ysq Xd).1 h j h1,(ysq Xd).1 hk j h1]
      ·have:j=d:=by omega
       rw[this,hb,hb']
     |succ f=>simp only[T.two,tput_leaf k k' v v' f e,Bool.true_or]
    ·simp only[T.roads,hb',if_false];obtain⟨i1,i2⟩:=jtq k v f .nil (d:=d+1) Xd (qKq hz) rfl (kDq hz hd hk hb);refine⟨ok_fork.2 ⟨hd,i1,decide_eq_true (kCq hz hd h hb'),?_⟩,?_⟩
     ·rw[show T.put k v f .nil= .leaf k v by cases f<;>rfl];rfl
     ·simp only[T.all];have ha:yCq k k'=true:=uZq hd hk h hb Xd;have e0:(T.put k v f .nil).all=[(k,v)]:=by cases f<;>rfl
      rw[e0];simp[k8q,ha,jXq ha]
   ·rw [if_neg hb];by_cases hb':bitN k' d=0
    ·simp only[T.roads,hb',if_true];obtain⟨i1,i2⟩:=jtq k v f .nil (d:=d+1) Xd (qJq hz hd) rfl (kCq hz hd hk hb);refine⟨ok_fork.2 ⟨hd,decide_eq_true (kDq hz hd h hb'),i1,?_⟩,?_⟩
     ·rw[show T.put k v f .nil= .leaf k v by cases f<;>rfl];rfl
     ·simp only[T.all];have ha:yCq k' k=true:=uZq hd h hk hb' Xd;have e0:(T.put k v f .nil).all=[(k,v)]:=by cases f<;>rfl
      rw[e0];simp[k8q,ha,jXq ha]
    ·simp only[T.roads,hb',if_false];have hs:(T.leaf k' v').ok (d+1) (qaq b d)=true:=decide_eq_true (kCq hz hd h hb');obtain⟨i1,i2⟩:=jtq k v f (.leaf k' v') (d:=d+1) Xd (qJq hz hd) hs (kCq hz hd hk hb);refine⟨ok_fork.2 ⟨hd,rfl,i1,?_⟩,by simp only[T.all,List.nil_append];exact i2⟩;cases f with
     |zero=>
      exfalso
      refine e (v0q λj hj=>?_);rcases Nat.lt_or_ge j d with h1|h1
      ·rw[(ysq Xd).1 h j h1,(ysq Xd).1 hk j h1]
      ·have:j=d:=by omega
       rw[this];omega
     |succ f=>simp only[T.two,tput_leaf k k' v v' f e,Bool.true_or,Bool.or_true]
 |f+1,.fork l r,d,b,hf,hz,h,hk=>by
  have hd:d<256:=by omega
  have ed:255-f=d:=by omega
  obtain⟨_,h1,h2,h3⟩:=ok_fork.1 h;obtain⟨k1,k2⟩:=Qkq hz h;simp only[T.put,ed];have b2:=qUq k d;split
  ·rename_i hb;obtain⟨i1,i2⟩:=jtq k v f l (d:=d+1) Xd (qKq hz) h1 (kDq hz hd hk hb);refine⟨ok_fork.2 ⟨hd,i1,h2,two_l h3 (put_fork k v f) (Qdq k v f l)⟩,?_⟩;simp only[T.all,i2];exact(withL_l v λp hp=>uZq hd hk (side_r hz hd (xgq (qJq hz hd) h2 p hp)).1 hb (k2 p hp)).symm
  ·rename_i hb;obtain⟨i1,i2⟩:=jtq k v f r (d:=d+1) Xd (qJq hz hd) h2 (kCq hz hd hk hb);refine⟨ok_fork.2 ⟨hd,h1,i1,two_r h3 (put_fork k v f) (Qdq k v f r)⟩,?_⟩;simp only[T.all,i2];exact(withL_r v λp hp=>uZq hd (side_l hz hd (xgq (qKq hz) h1 p hp)).1 hk (k1 p hp) Xd).symm
section
open Go.RowKit
section
attribute [local irreducible] CoW OpW FlW Step Spec
variable {G:Nat->Option W}
noncomputable def pW(x:Pr):W:=.agg 33 [dW x.1,bW x.2]
@[simp] theorem pW_pur(x:Pr):purW (pW x)=true:=by simp[pW]
structure Node where
 leaf:Bool
 key:Dig
 val:List UInt8
 left:Int
 right:Int
noncomputable def nW(x:Node):W:=.agg 36 [.bool x.leaf,dW x.key,bW x.val,.int .i64 x.left,.int .i64 x.right]
@[simp] theorem xRq(x:Node):purW (nW x)=true:=by simp[nW]
def jPq(l r:Int):Node:=⟨false,yyq,[],l,r⟩
theorem tbit_s(k:Dig)(d:Nat)(h:d<256):PS cfg G 196 [dW k,.int .i64 (d:Int)] (.int .u8 (bitN k d:Nat)):=by
 refine gI 10 O (λR k0=>gC 0 O (bit_in _ _ Xd) ?_);first|exact gQa 14 O|(exfalso;omega)
theorem jJq(x:Node):PS cfg G 195 [nW x] (.arr 2 1 [.int .i64 x.left,.int .i64 x.right]):=by
 refine gI 17 O (λR k0=>?_);first|exact gQa 0 O|(exfalso;omega)
theorem xTq(l r:Int):PS cfg G 313 [.arr 2 1 [.int .i64 l,.int .i64 r]] (nW (jPq l r)):=by
 refine gIv 8 O (λR k0=>?_);refine gX 0 O ?_;refine gX 1 O ?_;refine zbq 6 O ?_;refine jZq Xo O ?_
 (repeat (first|exact .nil|refine .cons ?_ ?_|exact y4q|exact .nilfz|refine .fn ?_ ?_|(refine y9q O ?_ rfl;(first|rfl|(focus (simp;done))))|(refine .sl O ?_ rfl Xi;(first|rfl|(focus (simp;done))))|(refine .pur ?_;(first|rfl|(focus (simp;done))))|(refine .fzw ?_;(first|rfl|(focus (simp;done))))|refine .agg ?_|refine .arr ?_|refine .tup ?_))
def valB(l:List UInt8):Bool:=decide (0<l.length)&&decide (l.length<=64)
theorem value_s(l:List UInt8)(f:Bool):PS cfg G 262 [.fz (zaq l) 1 f] (.bool (valB l)):=by
 have e:=zeq l;refine gI 8 O (λR k0=>gV (w':=.int .i64 (l.length:Int)) 0 O Xu ?_);refine gD 0 O (λh1=>?_) (λh1=>?_)
 ·refine gV (w':=.int .i64 (l.length:Int)) 2 O Xu (gU 0 O (zbq 5 O ?_));have h0:0<l.length:=by omega
  exact gQ 0 O (by unfold valB;congr 1;rw[decide_eq_true h0,Bool.true_and,decide_eq_decide];omega)
 ·refine zbq 9 O ?_;have h0:¬0<l.length:=by omega
  exact gQ 0 O (by unfold valB;rw[decide_eq_false h0];rfl)
def okAt(ps:List Pr)(i:Nat):Prop:=∀x,ps[i]? =some x->valB x.2=true/\∀y,0<i->ps[i-1]? =some y->yCq y.1 x.1=true
def MayP(ps:List Pr):Prop:=ps.length<=512/\∀i,i<ps.length->okAt ps i
noncomputable instance(ps:List Pr):Decidable (MayP ps):=Classical.propDecidable _
theorem qrq(ps:List Pr):purL (ps.map pW)=true:=z3q pW_pur ps
@[simp] theorem psW_pur'(ps:List Pr):purL (ps.map pW)=true:=qrq ps
theorem Qiq(ps:List Pr)(f:Bool)(hb:ps.length<=9223372036854775807):PS cfg G 193 [.fz (ps.map pW) 33 f] (.int .i64 (if MayP ps then 0 else 8)):=by
 have e:(ps.map pW).length=ps.length:=List.length_map _;refine gI 9 O (λR k0=>gV (w':=.int .i64 (ps.length:Int)) 0 O Xu ?_);refine gS 3 O (λh1=>?_) (λh1=>?_)
 ·exact gQ 7 O (by rw[if_neg λh:MayP ps=>by have:=h.1;omega])
 ·refine gV (w':=.int .i64 (ps.length:Int)) 6 O Xu ?_;refine gLo (α:=Nat) 4 (λi=>i<=ps.length/\∀j,j<i->okAt ps j) (λi=>[(10,.int .i64 (i:Int))]) [0,2,8,9] (λi=>ps.length-i) (0) rfl (⟨Nat.zero_le _,λj hj=>by omega⟩) (λi hI=>?_);obtain⟨hi,hI⟩:=hI;refine gS 6 O (λh2=>?_) (λh2=>?_)
  ·have hi':i<ps.length:=by omega
   obtain⟨x,hx⟩:∃x,ps[i]? =some x:=⟨_,List.getElem?_eq_getElem hi'⟩
   refine gP 7 O (zqq (i:=i) O O O O O O O (ziq pW hx)) (gC 10 O (value_s _ _) ?_);refine gB 0 O (λh3=>?_) (λh3=>?_)
   ·refine gD 3 O (λh4=>?_) (λh4=>?_)
    ·refine gA 3 O (i-1) ?_;refine gP 0 O (zqq (i:=i-1) O O O O O O O (ziq pW (List.getElem?_eq_getElem Xd))) ?_;refine gC 4 O (ahead_s _ _) ?_;refine gS 5 O (λh5=>?_) (λh5=>?_)
     ·refine gO 8 O (zbq 2 O ?_)
      have no:¬MayP ps:=λh=>by
       have:=(h.2 i hi' x hx).2 _ Xd (List.getElem?_eq_getElem Xd);rw[this] at h5;simp at h5
      exact gQ 0 O (by rw[if_neg no])
     ·have ok:okAt ps i:=λx' hx'=>by
       obtain rfl:=Option.some.inj (hx.symm.trans hx');refine⟨h3,λy h0 hy=>?_⟩;obtain rfl:=Option.some.inj ((List.getElem?_eq_getElem (show i-1<ps.length by omega)).symm.trans hy);simpa using h5
      refine gA 4 O (i+1) ?_;exact gAg 2 O (i+1) (⟨hi',λj hj=>by rcases Nat.lt_succ_iff_lt_or_eq.1 hj with h|rfl<;>first|exact hI j h|exact ok⟩) Xd
    ·have ok:okAt ps i:=λx' hx'=>by
      obtain rfl:=Option.some.inj (hx.symm.trans hx');exact⟨h3,λy h0 hy=>by omega⟩
     refine gA 20 O (i+1) ?_;exact gAg 2 O (i+1) (⟨hi',λj hj=>by rcases Nat.lt_succ_iff_lt_or_eq.1 hj with h|rfl<;>first|exact hI j h|exact ok⟩) Xd
   ·exact gO 28 O (gQ 2 O (by rw[if_neg λh:MayP ps=>h3 (h.2 i hi' x hx).1]))
  ·refine gO 2 O (zbq 8 O ?_);have yes:MayP ps:=⟨by omega,λj hj=>hI j Xd⟩;exact gQ 0 O (by rw[if_pos yes])
def oneB(x:Node)(n:Nat):Prop:=if x.leaf then x.left=0/\x.right=0/\MayP [(x.key,x.val)] else(0<=x.left/\x.left<=n)/\(0<=x.right/\x.right<=n)/\x.key=yyq/\x.val=[]/\0<x.left+x.right
noncomputable instance(x:Node)(n:Nat):Decidable (oneB x n):=Classical.propDecidable _
theorem one_s(x:Node)(n:Nat)(hn:n<=4611686018427387903):PS cfg G 132 [nW x,.int .i64 (n:Int)] (.bool (decide (oneB x n))):=by
 refine gI 13 O (λR k0=>?_);refine gS 0 O (λh1=>?_) (λh1=>?_)
 ·refine gD 4 O (λh2=>?_) (λh2=>?_)
  ·refine gD 3 O (λh3=>?_) (λh3=>?_)
   ·refine zbq 8 O ?_;refine op_lk O O O O O (by(repeat (first|exact .nil|refine .cons ?_ ?_|(refine .sl O ?_ rfl Xi;first|rfl|(focus (simp;done)))|(refine y9q O ?_ rfl;first|rfl|(focus (simp;done)))|(refine .pur ?_;first|rfl|(focus (simp;done)))))) (Qiq [(x.key,x.val)] false Xh) Xk Xk ?_;refine op_cz O O ?_;refine zpq 6 O ?_;refine gQ 0 O ?_;congr 1
    rw[decide_eq_decide,oneB,if_pos h1];split
    ·rename_i h;exact⟨λ_=>⟨h2,h3,h⟩,λ_=>rfl⟩
    ·rename_i h;exact⟨λh=>by omega,λq=>absurd q.2.2 h⟩
   ·exact gQ 16 O (by rw[decide_eq_false];intro h;rw[oneB,if_pos h1] at h;exact h3 h.2.1)
  ·exact gQ 20 O (by rw[decide_eq_false];intro h;rw[oneB,if_pos h1] at h;exact h2 h.1)
 ·refine gC 6 O (jJq _) ?_;refine gLo (α:=Nat) 4 (λi=>i<=2/\(0<i->0<=x.left/\x.left<=n)/\(1<i->0<=x.right/\x.right<=n)) (λi=>[(29,.int .i64 (i:Int))]) [1,2,4,28] (λi=>2-i) (0) rfl (⟨by omega,by omega,by omega⟩) (λi hI=>?_);obtain⟨hi,hl,hr⟩:=hI;refine gS 6 O (λh2=>?_) (λh2=>?_)
  ·have hi':i=0\/i=1:=by omega
   rcases hi' with rfl|rfl
   ·skip
    refine gD 13 O (λh3=>?_) (λh3=>?_)
    ·refine gO 16 O ?_;exact gQ 2 O Yj
    ·refine gU 3 O ?_;refine gS 3 O (λh4=>?_) (λh4=>?_)
     ·refine gO 8 O ?_;exact gQ 2 O Yj
     ·refine gA 4 O (1) ?_;exact gAg 2 O (1) (⟨by omega,by omega,by omega⟩) Xd
   ·refine gD 13 O (λh3=>?_) (λh3=>?_)
    ·refine gO 16 O ?_;exact gQ 2 O Yj
    ·refine gU 3 O ?_;refine gS 3 O (λh4=>?_) (λh4=>?_)
     ·refine gO 8 O ?_;exact gQ 2 O Yj
     ·refine gA 4 O (2) ?_;exact gAg 2 O (2) (⟨by omega,by omega,by omega⟩) Xd
  ·have e:=zeq x.val;have hl:=hl Xd;have hr:=hr Xd;have key:oneB x n↔(x.key=yyq/\x.val=[]/\0<x.left+x.right):=by rw[oneB,if_neg h1];exact⟨λh=>h.2.2,λh=>⟨hl,hr,h⟩⟩
   rw[show decide (oneB x n)=decide (x.key=yyq/\x.val=[]/\0<x.left+x.right) from decide_eq_decide.2 key];refine gO 2 O ?_;refine gV 6 O xuq ?_;refine gDe 0 O (yaq O O O O (ywq O O O O O O _ _ 250)) zZq (λh3=>?_) (λh3=>?_)
   ·refine gV (w':=.int .i64 (x.val.length:Int)) 3 O Xu ?_;refine gD 0 O (λh4=>?_) (λh4=>?_)
    ·have hv:x.val=[]:=List.eq_nil_of_length_eq_zero Xd;refine gWr 6 O ?_;refine gU 0 O ?_;refine gQ 5 O ?_;congr 1
     rw[decide_eq_decide];exact⟨λh=>⟨h3,hv,h⟩,λh=>h.2.2⟩
    ·have hv:x.val≠[]:=λh=>h4 (by rw[h];rfl)
     exact gQ 13 O (by rw[decide_eq_false λh=>hv h.2.1])
   ·exact gQ 18 O (by rw[decide_eq_false λh=>h3 h.1])
inductive Rep(ns:List Node):Nat->T->Prop where
 |nil:Rep ns 0 .nil
 |leaf {n:Nat} {k:Dig} {v:List UInt8} {l r:Int} (h:ns[n]? =some ⟨true,k,v,l,r⟩):Rep ns (n+1) (.leaf k v)
 |fork {n l r:Nat} {k:Dig} {v:List UInt8} {L R:T} (h:ns[n]? =some ⟨false,k,v,l,r⟩) (hl:l<=n) (hr:r<=n) (hL:Rep ns l L) (hR:Rep ns r R):Rep ns (n+1) (.fork L R)
theorem Rep.le{ns:List Node}{n:Nat}{t:T}(h:Rep ns n t):n<=ns.length:=by
 cases h with
 |nil=>exact Nat.zero_le _
 |leaf h=>exact(List.getElem?_eq_some_iff.1 h).1
 |fork h=>exact(List.getElem?_eq_some_iff.1 h).1
theorem Rep.non{ns:List Node}{n:Nat}{t:T}(h:Rep ns n t):t.non=decide (0<n):=by cases h<;>simp[T.non]
theorem Rep.app{ns:List Node}(ms:List Node){n:Nat}{t:T}(h:Rep ns n t):Rep (ns++ms) n t:=by
 have key:∀{i:Nat} {x:Node},ns[i]? =some x->(ns++ms)[i]? =some x:=λ{i x} h=>by rw[List.getElem?_append_left (List.getElem?_eq_some_iff.1 h).1];exact h
 induction h with
 |nil=>exact .nil
 |leaf h=>exact .leaf (key h)
 |fork h hl hr _ _ i1 i2=>exact .fork (key h) hl hr i1 i2
structure Tree where
 nodes:List Node
 root:Int
noncomputable def tW(t:Tree):W:=.agg 2 [.fz (t.nodes.map nW) 36 false,.int .i64 t.root]
theorem Qoq(ns:List Node):purL (ns.map nW)=true:=z3q xRq ns
@[simp] theorem tW_pur(t:Tree):purW (tW t)=true:=by simp[tW,Qoq]
def nnI(t:T):Int:=if t.non then 1 else 0
theorem right_s(t0:Tree)(hb:t0.nodes.length<=4611686018427387903):∀(t:T) (n d:Nat) (b:Dig),Rep t0.nodes n t->d<=256->PS cfg G 133 [tW t0,.int .i64 (n:Int),.int .i64 (d:Int),dW b] (.tup [.bool (t.ok d b),.bool (t.ok d b&&t.isFork)]):=by
 intro t;induction t with
 |nil=>
  intro n d b hr hd;obtain rfl:n=0:=by cases hr;rfl
  refine gI 15 O (λR k0=>?_);refine gS 0 O (λh1=>?_) (λh1=>?_)
  ·exact gQa 8 O
  ·exfalso;omega
 |leaf k v=>
  intro n d b hr hd;have hle:=hr.le;cases hr with
  |leaf h=>
  rename_i n l r;refine gI 15 O (λR k0=>?_);refine gS 0 O (λh1=>?_) (λh1=>?_)
  ·exfalso;omega
  ·refine gA 7 O (n) ?_;refine gP 0 O (zqq (i:=n) O O O O O O O (ziq nW h)) ?_;refine gC 18 O (shared_s _ _) ?_;refine gU 1 O ?_;refine gQ 6 O ?_;simp only[T.ok,T.isFork,Bool.and_false];congr 3
   rw[decide_eq_decide];omega
 | fork tl tr ihL ihR=>
  intro n d b hr hd;have hle:=hr.le;cases hr with
  |fork h hl hr hL hR=>
  rename_i n l r k v;refine gI 15 O (λR k0=>?_);refine gS 0 O (λh1=>?_) (λh1=>?_)
  ·exfalso;omega
  ·refine gA 7 O (n) ?_;refine gP 0 O (zqq (i:=n) O O O O O O O (ziq nW h)) ?_;refine gS 22 O (λh2=>?_) (λh2=>?_)
   ·refine zbq 8 O ?_;have e:T.ok d b (.fork tl tr)=false:=by simp only[T.ok];rw[decide_eq_false Xd];rfl
    rw[e];exact gQa 0 O
   ·have hd':d<256:=by omega
    have nl:=hL.non;have nr:=hR.non;refine gC 6 O (turn_in _ _ Xd) ?_;refine gV (w':=.arr 64 32 [dW b,dW (qaq b d)]) 18 O O ?_;refine gLo (α:=Nat×Int×Bool) 4 (λp=>(p.1=0/\p.2.1=0/\p.2.2=false)\/(p.1=1/\tl.ok (d+1) b=true/\p.2.1=nnI tl/\p.2.2=tl.isFork)\/(p.1=2/\tl.ok (d+1) b=true/\tr.ok (d+1) (qaq b d)=true/\p.2.1=nnI tl+nnI tr/\p.2.2=(tl.isFork||tr.isFork))) (λp=>[(46,.int .i64 (p.1:Int)),(13,.int .i64 p.2.1),(9,.bool p.2.2)]) [2,4,8,10,45] (λp=>2-p.1) ((0,0,false)) rfl (.inl ⟨rfl,rfl,rfl⟩) (λp hI=>?_);obtain⟨i,c,w⟩:=p;simp only at hI⊢;rcases hI with ⟨rfl,rfl,rfl⟩|⟨rfl,k1,rfl,rfl⟩|⟨rfl,k1,k2,rfl,rfl⟩
    ·skip
     skip
     refine gC 23 O (jJq _) ?_;refine gA 10 O (d+1) ?_;refine gC 1 O (ihL _ (d+1) b hL Xd) ?_;refine gS 14 O (λh3=>?_) (λh3=>?_)
     ·refine gO 10 O ?_;refine zbq 2 O ?_;have e:T.ok d b (.fork tl tr)=false:=by simp only[T.ok];rw[show tl.ok (d+1) b=false by simpa using h3];simp
      rw[e];exact gQa 0 O
     ·have hk:tl.ok (d+1) b=true:=by simpa using h3
      refine gS 9 O (λh4=>?_) (λh4=>?_)
      ·have hn:nnI tl=1:=by have h4:(0:Int)<l:=h4;unfold nnI;rw[nl,if_pos (decide_eq_true Xd)]
       refine gWr 2 O ?_;refine gA 13 O (1) ?_;exact gAg 2 O ((1,1,tl.ok (d+1) b&&tl.isFork)) (.inr (.inl ⟨rfl,hk,hn.symm,by rw[hk];rfl⟩)) Xh
      ·have hn:nnI tl=0:=by have h4:¬(0:Int)<l:=h4;unfold nnI;rw[nl,if_neg Xn]
       refine gA 12 O (1) ?_;exact gAg 2 O ((1,0,tl.ok (d+1) b&&tl.isFork)) (.inr (.inl ⟨rfl,hk,hn.symm,by rw[hk];rfl⟩)) Xh
    ·skip
     have bd:nnI tl=0\/nnI tl=1:=by unfold nnI;split<;>simp
     cases hf:tl.isFork with
     |true=>
      skip
      refine zKq 23 O ?_;refine gC 0 O (jJq _) ?_;refine gA 10 O (d+1) ?_;refine gC 1 O (ihR _ (d+1) (qaq b d) hR Xd) ?_;refine gS 14 O (λh3=>?_) (λh3=>?_)
      ·refine gO 10 O ?_;refine zbq 2 O ?_;have e:T.ok d b (.fork tl tr)=false:=by simp only[T.ok];rw[show tr.ok (d+1) (qaq b d)=false by simpa using h3];simp
       rw[e];exact gQa 0 O
      ·have hk:tr.ok (d+1) (qaq b d)=true:=by simpa using h3
       refine gS 9 O (λh4=>?_) (λh4=>?_)
       ·have hn:nnI tr=1:=by have h4:(0:Int)<r:=h4;unfold nnI;rw[nr,if_pos (decide_eq_true Xd)]
        refine gWr 2 O ?_;refine gA 13 O (2) ?_;exact gAg 2 O ((2,nnI tl+1,true)) (.inr (.inr ⟨rfl,k1,hk,by simp only[hn],rfl⟩)) Xh
       ·have hn:nnI tr=0:=by have h4:¬(0:Int)<r:=h4;unfold nnI;rw[nr,if_neg Xn]
        refine gA 12 O (2) ?_;exact gAg 2 O ((2,nnI tl,true)) (.inr (.inr ⟨rfl,k1,hk,by simp only[hn,Int.add_zero],rfl⟩)) Xh
     |false=>
      skip
      refine zKq 23 O ?_;refine gC 0 O (jJq _) ?_;refine gA 10 O (d+1) ?_;refine gC 1 O (ihR _ (d+1) (qaq b d) hR Xd) ?_;refine gS 14 O (λh3=>?_) (λh3=>?_)
      ·refine gO 10 O ?_;refine zbq 2 O ?_;have e:T.ok d b (.fork tl tr)=false:=by simp only[T.ok];rw[show tr.ok (d+1) (qaq b d)=false by simpa using h3];simp
       rw[e];exact gQa 0 O
      ·have hk:tr.ok (d+1) (qaq b d)=true:=by simpa using h3
       refine gS 9 O (λh4=>?_) (λh4=>?_)
       ·have hn:nnI tr=1:=by have h4:(0:Int)<r:=h4;unfold nnI;rw[nr,if_pos (decide_eq_true Xd)]
        refine gWr 2 O ?_;refine gA 13 O (2) ?_;exact gAg 2 O ((2,nnI tl+1,tr.ok (d+1) (qaq b d)&&tr.isFork)) (.inr (.inr ⟨rfl,k1,hk,by simp only[hn],by simp[hk]⟩)) Xh
       ·have hn:nnI tr=0:=by have h4:¬(0:Int)<r:=h4;unfold nnI;rw[nr,if_neg Xn]
        refine gA 12 O (2) ?_;exact gAg 2 O ((2,nnI tl,tr.ok (d+1) (qaq b d)&&tr.isFork)) (.inr (.inr ⟨rfl,k1,hk,by simp only[hn,Int.add_zero],by simp[hk]⟩)) Xh
    ·have e:T.ok d b (.fork tl tr)=T.two tl tr:=by simp only[T.ok];rw[decide_eq_true hd',k1,k2];rfl
     have e2:(T.fork tl tr).isFork=true:=rfl;rw[e,e2,Bool.and_true]
     have e3:T.two tl tr=((tl.isFork||tr.isFork)||decide (nnI tl+nnI tr=2)):=by
      unfold T.two nnI;congr 1
      cases tl.non<;>cases tr.non<;>rfl
     rw[e3];cases hw:(tl.isFork||tr.isFork) with
     |true=>
      skip
      refine zKq 9 O ?_;refine gO 0 O ?_;exact gQa 21 O
     |false=>
      skip
      refine zKq 9 O ?_;refine gO 0 O ?_;refine gU 7 O ?_;exact gQ 13 O Xh
end
mutual
theorem Zhq{τ:Nat->Nat}{b:Nat}(h:∀i,i<b->τ i=i):∀{w:W},refB b w=true->renW τ w=w
 |.ptr c o,hw=>by simp only[renW];rw[h c (of_decide_eq_true hw)]
 |.sl c _ _ _ _ _,hw=>by simp only[renW];rw[h c (of_decide_eq_true hw)]
 |.fz l _ _,hw=>by simp only[renW];rw[kGq h (l:=l) hw]
 |.fel x,hw=>by simp only[renW];rw[Zhq h (w:=x) hw]
 |.fn _ a c,hw=>by
  simp only[refB,Bool.and_eq_true] at hw;simp only[renW];rw[kGq h (l:=a) hw.1,kGq h (l:=c) hw.2]
 |.iface _ v,hw=>by simp only[renW];rw[Zhq h (w:=v) hw]
 |.agg _ l,hw=>by simp only[renW];rw[kGq h (l:=l) hw]
 |.arr _ _ l,hw=>by simp only[renW];rw[kGq h (l:=l) hw]
 |.tup l,hw=>by simp only[renW];rw[kGq h (l:=l) hw]
 |.undef,_=>rfl
 |.bool _,_=>rfl
 |.int _ _,_=>rfl
 |.str _,_=>rfl
 |.nilp,_=>rfl
 |.nils,_=>rfl
 |.nilm,_=>rfl
 |.yield _,_=>rfl
 |.nilf,_=>rfl
 |.nili,_=>rfl
theorem kGq{τ:Nat->Nat}{b:Nat}(h:∀i,i<b->τ i=i):∀{l:List W},refL b l=true->yNq τ l=l
 |[],_=>rfl
 |w::l,hw=>by
  simp only[refL,Bool.and_eq_true] at hw;simp only[yNq];rw[Zhq h (w:=w) hw.1,kGq h (l:=l) hw.2]
end
mutual
theorem kIq{b c:Nat}(h:b<=c):∀{w:W},refB b w=true->refB c w=true
 |.ptr d o,hw=>decide_eq_true (Nat.lt_of_lt_of_le (of_decide_eq_true hw) h)
 |.sl d _ _ _ _ _,hw=>decide_eq_true (Nat.lt_of_lt_of_le (of_decide_eq_true hw) h)
 |.fz l _ _,hw=>jKq h (l:=l) hw
 |.fel x,hw=>kIq h (w:=x) hw
 |.fn _ a d,hw=>by
  simp only[refB,Bool.and_eq_true] at hw⊢;exact⟨jKq h hw.1,jKq h hw.2⟩
 |.iface _ v,hw=>kIq h (w:=v) hw
 |.agg _ l,hw=>jKq h (l:=l) hw
 |.arr _ _ l,hw=>jKq h (l:=l) hw
 |.tup l,hw=>jKq h (l:=l) hw
 |.undef,_=>rfl
 |.bool _,_=>rfl
 |.int _ _,_=>rfl
 |.str _,_=>rfl
 |.nilp,_=>rfl
 |.nils,_=>rfl
 |.nilm,_=>rfl
 |.yield _,_=>rfl
 |.nilf,_=>rfl
 |.nili,_=>rfl
theorem jKq{b c:Nat}(h:b<=c):∀{l:List W},refL b l=true->refL c l=true
 |[],_=>rfl
 |w::l,hw=>by
  simp only[refL,Bool.and_eq_true] at hw⊢;exact⟨kIq h hw.1,jKq h hw.2⟩
end
noncomputable def gW(b e:Nat):List W->W
 |[]=>.nils
 |x::r=>.sl b 0 0 (x::r).length e none
noncomputable def gH(b:Nat)(ty:TypeId)(e:Nat):List W->HpW
 |[]=>[]
 |x::r=>[(b,ty,.arr ((x::r).length*e) e (x::r))]
noncomputable def evG(b:Nat):List W->EvW
 |[]=>.gen
 |_::_=>.updO b
theorem evs_G{ops:Array Oper}{i b:Nat}{es:List (Nat×EvW)}{l:List W}(h1:evsW ops i .gen es=true)(h2:evsW ops i (.updO b) es=true):evsW ops i (evG b l) es=true:=by cases l<;>assumption
theorem ubq{b e:Nat}{l:List W}(h:l≠[]):gW b e l= .sl b 0 0 l.length e none:=by cases l with
 |nil=>exact absurd rfl h
 |cons x r=>rfl
theorem ucq{b e:Nat}{ty:TypeId}{l:List W}(h:l≠[]):gH b ty e l=[(b,ty,.arr (l.length*e) e l)]:=by cases l with
 |nil=>exact absurd rfl h
 |cons x r=>rfl
section
variable {C:Cfg} {nw:Nat} {ts tx ty:TypeId} {j k:TyI} {x:W} {news l:List W} {b:Nat} {H0:HpW}
theorem Qvq{b:Nat}{x:TypeId×W}:∀{P:HpW},(∀p∈P,p.1≠b) ->hdel (P++[(b,x)]) b=P
 |[],_=>by
  show(match Nat.beq b b with|true=>[]|false=>_)=[];rw[Nat.beq_refl]
 |(c,y)::P,h=>by
  have hc:=h (c,y) (List.mem_cons_self ..)
  have e:Nat.beq c b=false:=by
   cases q:Nat.beq c b with
   |true=>exact absurd (Nat.eq_of_beq_eq_true q) hc
   |false=>rfl
  show(match Nat.beq c b with|true=>P++[(b,x)]|false=>(c,y)::hdel (P++[(b,x)]) b)=_;rw[e];exact congrArg _ (Qvq λp hp=>h p (List.mem_cons_of_mem _ hp))
theorem q8q{b:Nat}{x:TypeId×W}:∀{P:HpW},(∀p∈P,p.1≠b) ->hget (P++[(b,x)]) b=some x
 |[],_=>by rw[List.nil_append,zmq,if_pos rfl]
 |(c,y)::P,h=>by
  rw[List.cons_append,zmq,if_neg λe=>h (c,y) (List.mem_cons_self ..) e];exact q8q λp hp=>h p (List.mem_cons_of_mem _ hp)
theorem qFq{c:Nat}{y:TypeId×W}{Q:HpW}:∀{P:HpW},hget P c=some y->hget (P++Q) c=some y
 |[],h=>by simp[hget] at h
 |(q,z)::P,h=>by
  rw[List.cons_append,zmq];rw[zmq] at h;split at h
  ·rename_i h5;rw[if_pos h5];exact h
  ·rename_i h5;rw[if_neg h5];exact qFq h
theorem jjq(P:HpW){e:Nat}{hp:HpW}(he:e=k.size)(hj:C.ty ts=some j)(hd:j.d= .slice ty)(hk:C.ty ty=some k)(hz:Nat.beq k.size 0=false)(hs:srcW C hp tx k.size x=some news)(hn:news≠[])(h1:(l.length+news.length)*k.bytes<=140737488355328)(h2:l.length+news.length<=70368744177664)
  (hg:hp=P++gH b ty e l) (hP:∀p∈P,p.1≠b):
  appW C hp nw ts tx (gW b e l) x=some (.sl nw 0 0 (l++news).length e none,(nw,ty,.arr ((l++news).length*e) e (l++news))::P,nw+1,evG b l):=by
 subst he
 have hk0:0<k.size:=by
  rcases Nat.eq_zero_or_pos k.size with h0|h0
  ·rw[h0] at hz;cases hz
  ·exact h0
 have hnl:0<news.length:=by cases news with
  |nil=>exact absurd rfl hn
  |cons _ _=>simp
 cases l with
 |nil=>
  simp only[List.length_nil,Nat.zero_add] at h1 h2;rw[show gW b k.size []= .nils from rfl,k0q hj hd hk hz hs hn h1 h2,hg,show gH b ty k.size []=[] from rfl,List.append_nil];rfl
 |cons y r=>
  have hget:hget hp b=some (ty,.arr ((y::r).length*k.size) k.size (y::r)):=by rw[hg];exact q8q hP
  rw[show gW b k.size (y::r)= .sl b 0 0 (y::r).length k.size none from rfl,yZq hj hd hk hz hs hn h1 h2 hget (by
   show(y::r).length*k.size<0+((y::r).length+news.length)*k.size;rw[Nat.zero_add];exact Nat.mul_lt_mul_of_pos_right Xd hk0) (by rw[Nat.beq_refl]) (zkq hk0 O O)]
  rw[hg,show gH b ty k.size (y::r)=[(b,ty,.arr ((y::r).length*k.size) k.size (y::r))] from rfl,Qvq hP,List.length_append];rfl
theorem app_gr0{hp:HpW}{e:Nat}(he:e=k.size)(hj:C.ty ts=some j)(hd:j.d= .slice ty)(hk:C.ty ty=some k)(hz:Nat.beq k.size 0=false)(hs:srcW C hp tx k.size x=some []):appW C hp nw ts tx (gW b e l) x=some (gW b e l,hp,nw,.gen):=by
 subst he;cases l with
 |nil=>exact v2q hj hd hk hz hs
 |cons y r=>exact joq hj hd hk hz hs
end
theorem utq{b e:Nat}{ty:TypeId}{l:List W}{H0:HpW}(he:0<e)(hl:purL l=true)(hP:∀p∈H0,p.1≠b):View (blkA (H0++gH b ty e l)) (gW b e l) (.fz l e false):=by
 cases l with
 |nil=>exact .nilfz
 |cons y r=>exact .sl (c:=.arr ((y::r).length*e) e (y::r)) (by
   unfold blkA;rw[show H0++gH b ty e (y::r)=H0++[(b,ty,.arr ((y::r).length*e) e (y::r))] from rfl,q8q hP]) hl (zkq he O O) Xi
theorem view_sl{b e n:Nat}{ty:TypeId}{l:List W}{H0:HpW}(he:0<e)(hn:n=l.length)(hl:purL l=true):View (blkA ((b,ty,.arr (n*e) e l)::H0)) (.sl b 0 0 n e none) (.fz l e false):=by
 subst hn
 exact .sl (c:=.arr (l.length*e) e l) (by
   unfold blkA;rw[zmq,if_pos rfl]) hl (zkq he O O) Xi
section
variable {C:Cfg} {G:Nat->Option W} {m k0:Nat} {rd:Bool} {fr fr2:FrW} {hp hp':HpW} {nw nw':Nat} {R:Res} {Q:y3q} {c:Code}
theorem xsq(hf:subF fr fr2):Ent C G m k0 fr hp nw R fr2 hp (nw+1) R:=λΓ X st hnw hmn s=>by
 let Γ2:Ctx:=⟨nw+1,Γ.σ,Γ.D,Γ.h⟩
 have le:Γ.Le Γ2:=⟨by rw[hnw];exact Nat.le_succ _,λ_ _=>rfl,λ_ h=>h,λ_ _=>rfl⟩;refine⟨Γ2,X,rfl,⟨s.hh,λt w hw=>?_,⟨s.sat.wf,λb ty w hb=>?_,s.sat.inj,s.sat.nd,s.sat.dX,s.sat.xlt,s.sat.dlt,s.sat.res,s.sat.gl⟩,s.ds,s.nd⟩,⟨λ_ _=>rfl,λh=>Nat.le_trans h le.nw,Nat.le_refl _,λ_ _ _ _=>rfl,λ_ h=>h,λ_ h=>.inl h,λb x _ h=>⟨x,h⟩,λb x hb h=>.inr ⟨b,x,hb,h,rfl⟩,λ_ h=>.inl h,λ_ h _ _=>h⟩⟩
 ·obtain⟨v,g3,g4⟩:=s.fr _ _ (vQq hf t w hw);exact⟨v,g3,g4.mono le⟩
 ·obtain⟨q1,q2,q3,v,q4,q5⟩:=s.sat.own _ _ _ hb;exact⟨Nat.lt_of_lt_of_le q1 le.nw,q2,q3,v,q4,q5.mono le⟩
theorem subR_low{k:Nat}:∀{l:FrW},subF fr l->refF nw l->subR (tau1 nw k) (nw+1) fr l
 |[],_,_=>trivial
 |(t,w)::l,h,r=>⟨⟨by rw[Zhq (λi hi=>qdq Xd) r.1];exact h.1,kIq (Nat.le_succ _) r.1⟩,subR_low h.2 r.2⟩
theorem subRH_low{k:Nat}:∀{l:HpW},subH hp nw l->subRH (tau1 nw k) (nw+1) hp l
 |[],_=>trivial
 |(b,x)::l,h=>⟨⟨Nat.lt_succ_of_lt h.1.1,by rw[qdq (by have:=h.1.1;omega),Zhq (λi hi=>qdq Xd) h.1.2.2];exact h.1.2.1,kIq (Nat.le_succ _) h.1.2.2⟩,subRH_low h.2⟩
theorem subH_lt:∀{l:HpW},subH hp nw l->∀p∈l,p.1<nw
 |[],_,p,h=>by simp at h
 |(b,x)::l,h,p,hp=>by
  rcases List.mem_cons.1 hp with rfl|hp
  ·exact h.1.1
  ·exact subH_lt h.2 p hp
theorem subH_mono:∀{l:HpW},subH hp nw l->subH hp (nw+1) l
 |[],_=>trivial
 |(b,x)::l,h=>⟨⟨Nat.lt_succ_of_lt h.1.1,h.1.2.1,kIq (Nat.le_succ _) h.1.2.2⟩,subH_mono h.2⟩
theorem subRH_app{τ:Nat->Nat}{n:Nat}{b:HpW}:∀{a:HpW},subRH τ n hp a->subRH τ n hp b->subRH τ n hp (a++b)
 |[],_,h=>h
 |_::_,h,h2=>⟨h.1,subRH_app h.2 h2⟩
theorem xEq{n:Nat}{b:HpW}:∀{a:HpW},subH hp n a->subH hp n b->subH hp n (a++b)
 |[],_,h=>h
 |_::_,h,h2=>⟨h.1,xEq h.2 h2⟩
theorem nodup_g{H0:HpW}{b e:Nat}{ty:TypeId}{l2:List W}(hh:∀p∈H0,p.1<b)(nd:(H0.map (·.1)).Nodup):((H0++gH b ty e l2).map (·.1)).Nodup:=by
 cases l2 with
 |nil=>rw[show gH b ty e []=[] from rfl,List.append_nil];exact nd
 |cons x r=>
  rw[show gH b ty e (x::r)=[(b,ty,.arr ((x::r).length*e) e (x::r))] from rfl,List.map_append,List.nodup_append];refine⟨nd,by simp,λa ha c hc q=>?_⟩;obtain⟨p,h1,h2⟩:=List.mem_map.1 ha;have:=hh p h1;simp only[List.map_cons,List.map_nil,List.mem_cons,List.not_mem_nil,or_false] at hc;omega
theorem QOq{α:Type}(I:α->Prop)(s:Nat)(L:α->List W)(ty:TypeId)(e:Nat)(V:α->FrW)(kf:FrW)(H0:HpW)(μ:α->Nat)(a0:α)(hk:subF fr kf)(h0:I a0)(hv:subF fr (V a0))(hL:L a0=[])(hs:getW fr s=some .nils)(hh:hp=H0)
  (step:∀a,I a->CoW C G m k0 rd c ((s,gW nw e (L a))::(V a++kf)) (H0++gH nw ty e (L a)) (nw+1) R (xBq C G m k0 I (λa=>(s,gW nw e (L a))::(V a++kf)) (λa=>H0++gH nw ty e (L a)) (λ_=>nw+1) (λ_=>R) μ (μ a) Q)):CoW C G m k0 rd (.loop c) fr hp nw R Q:=by
 subst hh;refine qRq I (λa=>(s,gW nw e (L a))::(V a++kf)) (λa=>hp++gH nw ty e (L a)) (λ_=>nw+1) (λ_=>R) μ a0 h0 ?_ step;have:=xsq (C:=C) (G:=G) (m:=m) (k0:=k0) (fr:=fr) (fr2:=(s,gW nw e (L a0))::(V a0++kf)) (hp:=hp) (nw:=nw) (R:=R) ⟨by rw[hL];exact hs,qMq hv hk⟩;rw[hL] at this⊢;rw[show gH nw ty e []=[] from rfl,List.append_nil];exact this
theorem qhq{b:Nat}{ty:TypeId}{e:Nat}{H0:HpW}{l2:List W}{n:Nat}(k s:Nat)(hm:m<=b)(hk:b<=k)(hk2:k<nw)(hne:l2≠[])(hs:getW fr s=some (.sl k 0 0 n e none))(hn:n=l2.length)(hf:subF fr fr2)(hr:refF b fr2)(hg:hget hp k=some (ty,.arr (n*e) e l2))(hp2:purL l2=true)(hh:subH hp b H0)(nd:(H0.map (·.1)).Nodup):
  Ent C G m k0 fr hp nw R ((s,gW b e l2)::fr2) (H0++gH b ty e l2) (b+1) R:=by
 subst hn;have hpa:purW (.arr (l2.length*e) e l2)=true:=hp2;refine yKq (b:=b) (k:=k) hm hk hk2 ?_ ?_ (nodup_g (subH_lt hh) nd)
 ·rw[ubq hne];refine⟨⟨?_,by simp[refB]⟩,subR_low hf hr⟩;rw[hs];simp only[renW,j5q]
 ·rw[ucq hne];refine subRH_app (subRH_low hh) ⟨⟨Nat.lt_succ_self _,?_,zdq hpa⟩,trivial⟩;rw[j5q,hg,ztq hpa]
theorem ent_view(fr2:FrW)(hf:subV (λ_=>none) fr fr2):Ent C G m k0 fr hp nw R fr2 hp nw R:=λΓ X st h1 _ s=>
 ⟨Γ,X,h1,⟨s.hh,λt w hw=>by
  obtain⟨w0,g1,g2⟩:=vPq hf t w hw;obtain⟨v,g3,g4⟩:=s.fr t w0 g1;exact⟨v,g3,ktq ⟨λ_ h _=>h,λ_ _ _=>rfl,λ_ h=>h,λ_ _=>rfl,λ_ _ _ h=>Yz⟩ g2 g4⟩,s.sat,s.ds,s.nd⟩,Frm.refl _ _ _ _⟩
noncomputable def subVH(blk:Nat->Option W)(b:Nat)(hp:HpW):HpW->Prop
 |[]=>True
 |(k,ty,w)::l=>(k≠b/\∃w0,hget hp k=some (ty,w0)/\View blk w0 w)/\subVH blk b hp l
theorem subVH_get{blk:Nat->Option W}{b:Nat}:∀{l:HpW},subVH blk b hp l->∀k ty w,hget l k=some (ty,w) ->k≠b/\∃w0,hget hp k=some (ty,w0)/\View blk w0 w
 |[],_,k,ty,w,h=>by simp[hget] at h
 |(j,ty',w')::l,hs,k,ty,w,h=>by
  rw[zmq] at h;split at h
  ·rename_i e;subst e;cases h;exact hs.1
  ·exact subVH_get hs.2 k ty w h
theorem ent_fr1(b:Nat)(fr2:FrW)(hp2:HpW){ty:TypeId}{c:W}(hb:hget hp b=some (ty,c))(hc:purW c=true)(hbm:m<=b)(hf:subV (blk1 b c) fr fr2)(hh:subVH (blk1 b c) b hp hp2)(nd:(hp2.map (·.1)).Nodup):Ent C G m k0 fr hp nw R fr2 hp2 nw R:=
 ent_frz hb hc hbm (vPq hf) (subVH_get hh) nd
theorem co_loopG1{α:Type}(I:α->Prop)(s:Nat)(L:α->List W)(ty:TypeId)(e:Nat)(V:α->FrW)(kf:FrW)(H0:HpW)(b k:Nat)(μ:α->Nat)(a0:α){n:Nat}(hk:subF fr kf)(h0:I a0)(hv:subF fr (V a0))(hm:m<=b)(hbk:b<=k)(hkn:k<nw)(hne:L a0≠[])(hs:getW fr s=some (.sl k 0 0 n e none))(hn:n=(L a0).length)
  (hr:refF b (V a0)) (hr2:refF b kf) (hg:hget hp k=some (ty,.arr (n*e) e (L a0))) (hp2:purL (L a0)=true) (hh:subH hp b H0) (nd:(H0.map (·.1)).Nodup)
  (step:∀a,I a->CoW C G m k0 rd c ((s,gW b e (L a))::(V a++kf)) (H0++gH b ty e (L a)) (b+1) R (xBq C G m k0 I (λa=>(s,gW b e (L a))::(V a++kf)) (λa=>H0++gH b ty e (L a)) (λ_=>b+1) (λ_=>R) μ (μ a) Q)):CoW C G m k0 rd (.loop c) fr hp nw R Q:=
 qRq I (λa=>(s,gW b e (L a))::(V a++kf)) (λa=>H0++gH b ty e (L a)) (λ_=>b+1) (λ_=>R) μ a0 h0 (qhq k s hm hbk hkn hne hs hn (qMq hv hk) (xFq hr hr2) hg hp2 hh nd) step
theorem kJq{α:Type}{I:α->Prop}{s:Nat}{L:α->List W}{ty:TypeId}{e:Nat}{V:α->FrW}{kf:FrW}{H0:HpW}{μ:α->Nat}{kk:Nat}{fr':FrW}{l2:List W}{n:Nat}(k:Nat)(a:α)(ha:I a)(hμ:μ a<kk)(hm:m<=nw)(hL:L a=l2)(hne:l2≠[])(hk:nw<=k)(hk2:k<nw')(hs:getW fr' s=some (.sl k 0 0 n e none))(hn:n=l2.length)
  (hv:subF fr' (V a)) (hkf:subF fr' kf) (hr:refF nw (V a)) (hr2:refF nw kf) (hg:hget hp' k=some (ty,.arr (n*e) e l2)) (hp2:purL l2=true) (hh:subH hp' nw H0) (nd:(H0.map (·.1)).Nodup):
  xBq C G m k0 I (λa=>(s,gW nw e (L a))::(V a++kf)) (λa=>H0++gH nw ty e (L a)) (λ_=>nw+1) (λ_=>R) μ kk Q .normal fr' hp' nw' R:=by
 subst hL;exact y7q a ha hμ (qhq k s hm hk hk2 hne hs hn (qMq hv hkf) (xFq hr hr2) hg hp2 hh nd)
theorem refF_up:∀{q:FrW},refF nw q->refF (nw+1) q
 |[],_=>trivial
 |_::_,h=>⟨kIq (Nat.le_succ _) h.1,refF_up h.2⟩
theorem QGq{b:Nat}{ty:TypeId}{e:Nat}{H0:HpW}{l2:List W}(s:Nat)(hm:m<=b)(hnw:b+1<=nw)(hs:getW fr s=some (gW b e l2))(hf:subF fr fr2)(hr:refF b fr2)(hg:∀x r,l2=x::r->hget hp b=some (ty,.arr ((x::r).length*e) e (x::r)))(hp2:purL l2=true)(hh:subH hp b H0)(nd:(H0.map (·.1)).Nodup):
  Ent C G m k0 fr hp nw R ((s,gW b e l2)::fr2) (H0++gH b ty e l2) (b+1) R:=by
 refine xtq Xd hnw ⟨hs,hf⟩ ?_ (kvq (xEq (subH_mono hh) ?_)) (nodup_g (subH_lt hh) nd)
 ·refine uBq ⟨?_,refF_up hr⟩;cases l2 with
  |nil=>rfl
  |cons x r=>simp[gW,refB]
 ·cases l2 with
  |nil=>trivial
  |cons x r=>
   have hpa:purW (.arr ((x::r).length*e) e (x::r))=true:=hp2;exact⟨⟨Nat.lt_succ_self _,hg x r rfl,zdq hpa⟩,trivial⟩
theorem ent_blk{b:Nat}{ty:TypeId}{w w':W}(hb:hget hp b=some (ty,w))(he:∀Γ v,RV Γ w v->RV Γ w' v):Ent C G m k0 fr hp nw R fr (hset hp b (ty,w')) nw R:=λΓ X st h1 _ s=>by
 have hold:∀{k t u},hget (hset hp b (ty,w')) k=some (t,u) ->∃u0,hget hp k=some (t,u0)/\∀v,RV Γ u0 v->RV Γ u v:=λ{k t u} h=>by
  rw[xjq hb] at h;split at h
  ·rename_i e;subst e;cases h;exact⟨w,hb,he Γ⟩
  ·exact⟨u,h,λ_ q=>q⟩
 have howns:∀{c},Owns Γ (hset hp b (ty,w')) c->Owns Γ hp c:=λ{c} h=>by
  obtain⟨k,⟨t,u⟩,h1,h2⟩:=h;obtain⟨u0,g,_⟩:=hold h1;exact⟨k,_,g,h2⟩
 refine⟨Γ,X,h1,⟨s.hh,s.fr,⟨s.sat.wf,λk t u h=>?_,λk k' y z hy hz e=>?_,by rw[Zvq];exact s.sat.nd,s.sat.dX,s.sat.xlt,s.sat.dlt,s.sat.res,s.sat.gl⟩,λd hd=>?_,s.nd⟩,⟨λ_ _=>rfl,λh=>h,Nat.le_refl _,λ_ _ _ _=>rfl,λ_ h=>h,λ_ h=>.inl h,λk y _ h=>?_,λk y hk h=>?_,λ_ h=>.inl h,λ_ h _ _=>h⟩⟩
 ·obtain⟨u0,g1,g2⟩:=hold h;obtain⟨q1,q2,q3,v,q4,q5⟩:=s.sat.own k t u0 g1;exact⟨q1,q2,q3,v,q4,g2 v q5⟩
 ·obtain⟨y1,y2⟩:=y;obtain⟨z1,z2⟩:=z;obtain⟨u0,g1,_⟩:=hold hy;obtain⟨u1,g2,_⟩:=hold hz;exact s.sat.inj k k' _ _ g1 g2 e
 ·obtain⟨q1,q2,q3,q4,q5⟩:=s.ds d hd;exact⟨q1,q2,q3,λh=>q4 (howns h),q5⟩
 ·obtain⟨y1,y2⟩:=y;obtain⟨u0,g1,_⟩:=hold h;exact⟨_,g1⟩
 ·obtain⟨y1,y2⟩:=y;obtain⟨u0,g1,_⟩:=hold h;exact .inr ⟨k,_,hk,g1,rfl⟩
theorem ent_one{b:Nat}{ty:TypeId}{e:Nat}{x:W}(k s:Nat)(hm:m<=b)(hk:b<=k)(hk2:k<nw)(hs:getW fr s=some (.sl k 0 0 1 e none))(hg:hget hp k=some (ty,x))(hxa:x.isAgg=true)(hxs:x.size=e)(hp2:purW x=true):Ent C G m k0 fr hp nw R [(s,gW b e [x])] (gH b ty e [x]) (b+1) R:=by
 refine(ent_blk hg (w':=.arr (1*e) e [x]) λΓ v hv=>?_).trans (qhq (fr2:=[]) (H0:=[]) k s hm hk hk2 Xh hs rfl trivial trivial (by rw[xjq hg,if_pos rfl]) (by simp only[purL,hp2,Bool.and_self]) trivial List.nodup_nil);refine⟨by rw[<-hv.1,hxa];rfl,?_⟩;have hl:=qVq hv.2;simp only[RS];exact⟨by omega,λy hy=>by simp at hy;rw[hy,hxs],RSL_one hv.2⟩
theorem jbq{o:Oper}{post:W->HpW->Nat->Res->Option EvW->Prop}{x:Operand}{xs:Array Operand}{ats:Array TypeId}{f:FuncId}{a us c ws:List W}{Q:W->HpW->Nat->Prop}(ho:o.op= .call ⟨.value x,xs,ats⟩)(hx:evW C G fr x=some (.fn f a c))(he:C.ext f=none)(hxs:evLW C G fr xs.toList=some us)(hws:a++us++c=ws)(hpw:purL ws=true)(sp:qoq C G f 0 ws [] Q)
  (hpost:∀w hp1 nw1,Q w hp1 nw1->post (renW (numC [] nw) w) (renH (numC [] nw) hp1++hp) (nw+nw1) R (some .gen)):Step C G o fr hp nw R post:=λΓ X frv hnw s hf=>by
 subst hnw;obtain⟨u,e1,e2⟩:=zNq hf s.gl hx;obtain⟨a',c',rfl,e3,e4⟩:=RV_fn.1 e2;obtain⟨us',e5,e6⟩:=xqq hf s.gl hxs
 have app:∀{l r:List W} {l' r':List V},RVL Γ l l'->RVL Γ r r'->RVL Γ (l++r) (l'++r'):=λ{l}=>by
  induction l with
  |nil=>intro r l' r' h1 h2;simp only[RVL] at h1;subst h1;exact h2
  |cons w l ih=>
   intro r l' r' h1 h2;simp only[RVL] at h1;obtain⟨v,vs,rfl,h3,h4⟩:=h1;simp only[List.cons_append,RVL];exact⟨v,vs++r',rfl,h3,ih h4 h2⟩
 have hv:=app (app e3 e6) e4;rw[hws,<-khq (τ:=numC [] Γ.nw) hpw] at hv;obtain⟨n,v,Γ',w,hp1,nw1,g1,g2,g3,g4,g5,g6,g7,g8⟩:=call_spec (ext:=[]) sp s List.nodup_nil Xh Xh (λi ty w h=>by simp[hget] at h) (zdq (w:=.tup ws) hpw) hv;obtain⟨k1,k2⟩:=ZZq (C:=C) ho frv Γ.h;refine⟨n,_,_,R,some .gen,v,Γ'.h,Γ',X,by rw[g3];exact hpost w hp1 nw1 g2,?_,⟨k1,λH1 e1' e2'=>?_⟩,rfl,g4,g5,g6,g7⟩
 ·simp only[opV,k1,k2];simp only[ho,q3q,e1,e5,he];exact g1
 ·have:=g8 rfl e2';simp only[EvR,ho,evOf];rw[e1',Nat.ble_eq_true_of_le this]
noncomputable def PL(C:Cfg)(G:Nat->Option W)(f:FuncId)(ws:List W)(ty:TypeId)(e:Nat)(l:List W):Prop:=qoq C G f 0 ws [] λw hp nw=>w=gW 0 e l/\hp=gH 0 ty e l/\nw=1
theorem PL.ps{C:Cfg}{G:Nat->Option W}{f:FuncId}{ws:List W}{ty:TypeId}{e:Nat}{l:List W}(h:PL C G f ws ty e l)(he:0<e)(hl:purL l=true):PS C G f ws (.fz l e false):=λR=>
 uwq λΓ X vs h1 s hv=>by
  obtain⟨n,v,Γ',X',w,hp',R',g1,g2,g3,g4,g5,rfl,rfl,g6⟩:=h R Γ X vs h1 s hv;exact⟨n,v,Γ',X',_,_,R',g1,g2,g3,g4,g5,utq (H0:=[]) he hl Xh⟩
theorem xbq{o:Oper}{post:W->HpW->Nat->Res->Option EvW->Prop}{x:Operand}{xs:Array Operand}{ats:Array TypeId}{f:FuncId}{a us c ws:List W}{ty:TypeId}{e:Nat}{l:List W}(ho:o.op= .call ⟨.value x,xs,ats⟩)(hx:evW C G fr x=some (.fn f a c))(he:C.ext f=none)(hxs:evLW C G fr xs.toList=some us)(hws:a++us++c=ws)(hpw:purL ws=true)(sp:PL C G f ws ty e l)(hl:purL l=true)
  (hpost:post (gW nw e l) (gH nw ty e l++hp) (nw+1) R (some .gen)):Step C G o fr hp nw R post:=by
 refine jbq ho hx he hxs hws hpw sp ?_;rintro w hp1 nw1 ⟨rfl,rfl,rfl⟩
 have e1:renW (numC [] nw) (gW 0 e l)=gW nw e l:=by
  cases l with
  |nil=>rfl
  |cons x r=>simp only[gW,renW];rfl
 have e2:renH (numC [] nw) (gH 0 ty e l)=gH nw ty e l:=by
  cases l with
  |nil=>rfl
  |cons x r=>
   have hpa:purW (.arr ((x::r).length*e) e (x::r))=true:=hl;simp only[gH,renH,ztq hpa];rfl
 rw[e1,e2];exact hpost
variable {ops:Array Oper} {l:List Oper} {K:FrW->HpW->Nat->Res->Prop} {hp2:HpW} {nw2:Nat} {R2:Res}
theorem uIq(e:∀k0,Ent C G m k0 fr hp nw R fr2 hp2 nw2 R2)(h:OpW C G m ops l fr2 hp2 nw2 R2 K):OpW C G m ops l fr hp nw R K:=λΓ X frv hnw hm s hf=>by
 obtain⟨Γ2,X2,e1,e2,e3⟩:=e 0 Γ X ⟨frv,Γ.h,[],false⟩ hnw hm ⟨rfl,hf,s,by simp,List.nodup_nil⟩;obtain⟨n,frv',Γ',X',fr',hp',R',g1,g2,g3,g4,g5⟩:=h Γ2 X2 frv e1 (e1▸e3.mle (hnw▸hm)) e2.sat e2.fr;have hh:Γ.h=Γ2.h:=e2.hh;exact⟨n,frv',Γ',X',fr',hp',R',by rw[hh];exact g1,g2,g3,e3.trans g4,g5⟩
theorem op_z{o:Oper}{k:IntKind}{z:Int}(z':Int)(hw:yUq ops fr o=some true)(hx:yDq C G fr o.op=some (.int k (j4q k z)))(e:z=z')(hz:inK k z')(h:OpW C G m ops l (putW fr o.dst (.int k z')) hp nw R K):OpW C G m ops (o::l) fr hp nw R K:=by
 subst e;exact op_wrap hw hx hz h
theorem op_grow{o:Oper}{ts tx ty:TypeId}{j k:TyI}{x y:Operand}{u:W}{xs news:List W}{b e d:Nat}{H0:HpW}(P:HpW)(fr2:FrW)(he:e=k.size)(hw:yUq ops fr o=some true)(ho:o.op= .call ⟨.builtin .append, #[x,y], #[ts,tx]⟩)(hd0:o.dst=some d)(hx:evW C G fr x=some (gW b e xs))(hy:evW C G fr y=some u)
  (hj:C.ty ts=some j) (hd:j.d= .slice ty) (hk:C.ty ty=some k) (hz:Nat.beq k.size 0=false) (hs:srcW C hp tx k.size u=some news) (h1:(xs.length+news.length)*k.bytes<=140737488355328) (h2:xs.length+news.length<=70368744177664) (hg:hp=P++gH b ty e xs) (hP:∀p∈P,p.1≠b) (hm:m<=b) (hb:b<nw)
  (hf:subF fr fr2) (hdf:getW fr2 d=none) (hr:refF b fr2) (hpx:purL (xs++news)=true) (hh:subH P b H0) (nd:(H0.map (·.1)).Nodup)
  (h:OpW C G m ops l ((d,gW b e (xs++news))::fr2) (H0++gH b ty e (xs++news)) (b+1) R K):OpW C G m ops (o::l) fr hp nw R K:=by
 have hput:∀w,subF (putW fr o.dst w) fr2:=λw=>by
  rw[hd0]
  have key:∀{q:FrW},subF fr q->getW q d=none->subF (putW fr (some d) w) q:=λ{q}=>by
   induction q with
   |nil=>exact λ_ _=>trivial
   |cons p q ih=>
    obtain⟨t,v⟩:=p;intro h1 h2;simp only[getW] at h2;split at h2
    ·cases h2
    ·rename_i hne;refine⟨?_,ih h1.2 h2⟩;show getW ((d,w)::fr) t=some v
     have:Nat.beq d t=false:=by
      cases hq:Nat.beq d t with
      |false=>rfl
      |true=>
       have:=Nat.eq_of_beq_eq_true hq;subst this;rw[Nat.beq_refl] at hne;cases hne
     simp only[getW,this];exact h1.1
  exact key hf hdf
 have front:∀{Q:HpW} {q:HpW},subH P b q->subH (P++Q) b q:=λ{Q q}=>by
  induction q with
  |nil=>exact λ_=>trivial
  |cons p q ih=>exact λh=>⟨⟨h.1.1,qFq h.1.2.1,h.1.2.2⟩,ih h.2⟩
 cases news with
 |nil=>
  have ha:opHW C G fr hp nw o.op=some (gW b e xs,hp,nw,.gen):=by rw[ho];exact z6q hx hy (app_gr0 he hj hd hk hz hs)
  refine Yuq hw ha ?_;rw[List.append_nil] at h hpx;refine uIq (λk0=>QGq (b:=b) (l2:=xs) d hm Xd (by rw[hd0];show getW ((d,gW b e xs)::fr) d=_;simp[getW]) (hput _) hr (λx r hq=>?_) hpx (by rw[hg];exact front hh) nd) h;rw[hg,hq];exact q8q hP
 |cons z zs=>
  have ha:opHW C G fr hp nw o.op=some (.sl nw 0 0 (xs++z::zs).length e none,(nw,ty,.arr ((xs++z::zs).length*e) e (xs++z::zs))::P,nw+1,evG b xs):=by
   rw[ho];exact z6q hx hy (jjq P he hj hd hk hz hs Xh h1 h2 hg hP)
  refine Yuq hw ha ?_;refine uIq (λk0=>qhq nw d hm Xd (Nat.lt_succ_self _) Xh (by rw[hd0];show getW ((d,_)::fr) d=_;simp[getW]) rfl (hput _) hr (by rw[zmq,if_pos rfl]) hpx ?_ nd) h
  have key:∀{q:HpW},subH P b q->subH ((nw,ty,W.arr ((xs++z::zs).length*e) e (xs++z::zs))::P) b q:=λ{q}=>by
   induction q with
   |nil=>exact λ_=>trivial
   |cons p q ih=>
    obtain⟨c,y⟩:=p;exact λh=>⟨⟨h.1.1,by rw[zmq,if_neg (by have:=h.1.1;omega)];exact h.1.2.1,h.1.2.2⟩,ih h.2⟩
  exact key hh
end
theorem view_g2{b e:Nat}{ty:TypeId}{l:List W}{H0 Q:HpW}(he:0<e)(hl:purL l=true)(hP:∀p∈H0,p.1≠b):View (blkA ((H0++gH b ty e l)++Q)) (gW b e l) (.fz l e false):=by
 cases l with
 |nil=>exact .nilfz
 |cons y r=>exact .sl (c:=.arr ((y::r).length*e) e (y::r)) (by
   unfold blkA;rw[show H0++gH b ty e (y::r)=H0++[(b,ty,.arr ((y::r).length*e) e (y::r))] from rfl,qFq (q8q hP)]) hl (zkq he O O) Xi
theorem subH_g{hp:HpW}{b e:Nat}{ty:TypeId}{l:List W}{n:Nat}(hb:b<n)(hl:purL l=true)(hg:∀x r,l=x::r->hget hp b=some (ty,.arr ((x::r).length*e) e (x::r))):subH hp n (gH b ty e l):=by
 cases l with
 |nil=>trivial
 |cons x r=>
  have hpa:purW (.arr ((x::r).length*e) e (x::r))=true:=hl;exact⟨⟨hb,hg x r rfl,zdq hpa⟩,trivial⟩
theorem kbq{b e:Nat}{ty:TypeId}{l:List W}:∀p∈gH b ty e l,p.1=b:=λp hp=>by
 cases l with
 |nil=>cases hp
 |cons x r=>simp only[gH,List.mem_cons,List.not_mem_nil,or_false] at hp;rw[hp]
section
variable {C:Cfg} {G:Nat->Option W} {m k0:Nat} {fr fr2:FrW} {hp hp2:HpW} {nw nw2:Nat} {R:Res}
theorem QHq(hold:∀k y,hget hp2 k=some y->hget hp k=some y)(nd:(hp2.map (·.1)).Nodup):Ent C G m k0 fr hp nw R fr hp2 nw R:=λΓ X st h1 _ s=>by
 have howns:∀{c},Owns Γ hp2 c->Owns Γ hp c:=λ{c} h=>by
  obtain⟨k,y,h1,h2⟩:=h;exact⟨k,y,hold _ _ h1,h2⟩
 refine⟨Γ,X,h1,⟨s.hh,s.fr,⟨s.sat.wf,λk ty w h=>s.sat.own k ty w (hold _ _ h),λk k' y z hy hz e=>s.sat.inj k k' _ _ (hold _ _ hy) (hold _ _ hz) e,nd,s.sat.dX,s.sat.xlt,s.sat.dlt,s.sat.res,s.sat.gl⟩,λd hd=>?_,s.nd⟩,?_⟩
 ·obtain⟨q1,q2,q3,q4,q5⟩:=s.ds d hd;exact⟨q1,q2,q3,λh=>q4 (howns h),q5⟩
 ·exact⟨λ_ _=>rfl,λh=>h,Nat.le_refl _,λ_ _ _ _=>rfl,λ_ h=>h,λ_ h=>.inl h,λk y _ h=>⟨y,hold _ _ h⟩,λk y hk h=>.inr ⟨k,y,hk,hold _ _ h,rfl⟩,λ_ h=>.inl h,λ_ h _ _=>h⟩
theorem ent_mid{b k:Nat}(hm:m<=b)(hb:b<nw2)(hb2:nw2<=k)(hk:k<nw)(hf:subR (tau1 b k) nw2 fr fr2)(hh:subRH (tau1 b k) nw2 hp hp2)(nd:(hp2.map (·.1)).Nodup):Ent C G m k0 fr hp nw R fr2 hp2 nw2 R:=by
 refine ent_num (tau1 b k) Xd (λi hi=>qdq Xd) (λi hi=>?_) (λi h1 h2=>?_) (Y0q hf) (jFq hh) (λi j x y hx hy e=>?_) nd
 ·by_cases e:i=b
  ·subst e;rw[j5q];exact hk
  ·rw[qdq e];omega
 ·by_cases e:i=b
  ·subst e;rw[j5q];omega
  ·rw[qdq e];exact h1
 ·have h1:=(jFq hh i x hx).1;have h2:=(jFq hh j y hy).1;by_cases e1:i=b<;>by_cases e2:j=b
  ·rw[e1,e2]
  ·subst e1;rw[j5q,qdq e2] at e;omega
  ·subst e2;rw[j5q,qdq e1] at e;omega
  ·rwa[qdq e1,qdq e2] at e
theorem ren_g(τ:Nat->Nat)(b e:Nat)(l:List W):renW τ (gW b e l)=gW (τ b) e l:=by cases l<;>rfl
theorem ref_g{n b e:Nat}{l:List W}(h:b<n):refB n (gW b e l)=true:=by
 cases l with
 |nil=>rfl
 |cons x r=>simp[gW,refB,h]
theorem renH_g(τ:Nat->Nat)(b:Nat)(ty:TypeId)(e:Nat){l:List W}(hl:purL l=true):renH τ (gH b ty e l)=gH (τ b) ty e l:=by
 cases l with
 |nil=>rfl
 |cons x r=>
  have hpa:purW (.arr ((x::r).length*e) e (x::r))=true:=hl;simp only[gH,renH,ztq hpa]
theorem hdel_g{b:Nat}{ty:TypeId}{e:Nat}{l:List W}{P:HpW}(hP:∀p∈P,p.1≠b):hdel (P++gH b ty e l) b=P:=by
 cases l with
 |cons x r=>exact Qvq hP
 |nil=>
  rw[show gH b ty e []=[] from rfl,List.append_nil];induction P with
  |nil=>rfl
  |cons p P ih=>
   obtain⟨c,y⟩:=p;have hc:=hP (c,y) (List.mem_cons_self ..)
   have e:Nat.beq c b=false:=by
    cases q:Nat.beq c b with
    |true=>exact absurd (Nat.eq_of_beq_eq_true q) hc
    |false=>rfl
   show(match Nat.beq c b with|true=>P|false=>(c,y)::hdel P b)=_;rw[e];exact congrArg _ (ih λp hp=>hP p (List.mem_cons_of_mem _ hp))
theorem jfq{b:Nat}:∀{P:HpW},(∀p∈P,p.1≠b) ->hget P b=none
 |[],_=>rfl
 |(c,y)::P,h=>by
  rw[zmq,if_neg λe=>h (c,y) (List.mem_cons_self ..) e];exact jfq λp hp=>h p (List.mem_cons_of_mem _ hp)
theorem uNq{b:Nat}{Q:HpW}:∀{P:HpW},hget (P++Q) b=(hget P b).orElse λ_=>hget Q b
 |[]=>by simp[hget]
 |(c,y)::P=>by
  rw[List.cons_append,zmq,zmq];split
  ·rfl
  ·exact uNq
theorem juq{P:HpW}{b e:Nat}{ty:TypeId}{l:List W}(hh:∀p∈P,p.1≠b)(nd:(P.map (·.1)).Nodup):((P++gH b ty e l).map (·.1)).Nodup:=by
 cases l with
 |nil=>rw[show gH b ty e []=[] from rfl,List.append_nil];exact nd
 |cons x r=>
  rw[show gH b ty e (x::r)=[(b,ty,.arr ((x::r).length*e) e (x::r))] from rfl,List.map_append,List.nodup_append];refine⟨nd,by simp,λa ha c hc q=>?_⟩;obtain⟨p,h1,h2⟩:=List.mem_map.1 ha;have:=hh p h1;simp only[List.map_cons,List.map_nil,List.mem_cons,List.not_mem_nil,or_false] at hc;omega
theorem YXq{blk:Nat->Option W}{b e:Nat}{l:List W}(h:blk b=none):View blk (gW b e l) (gW b e l):=by
 cases l with
 |nil=>exact .pur rfl
 |cons x r=>exact .slK h
theorem subVH_g{blk:Nat->Option W}{b c e:Nat}{ty:TypeId}{l:List W}(hc:c≠b)(hl:purL l=true)(hg:∀x r,l=x::r->hget hp c=some (ty,.arr ((x::r).length*e) e (x::r))):subVH blk b hp (gH c ty e l):=by
 cases l with
 |nil=>trivial
 |cons x r=>
  have hpa:purW (.arr ((x::r).length*e) e (x::r))=true:=hl;exact⟨⟨hc,_,hg x r rfl,.pur hpa⟩,trivial⟩
theorem uvq{blk:Nat->Option W}{b:Nat}{Y:HpW}:∀{X:HpW},subVH blk b hp X->subVH blk b hp Y->subVH blk b hp (X++Y)
 |[],_,h=>h
 |_::_,h,h2=>⟨h.1,uvq h.2 h2⟩
theorem ent_frg{b e:Nat}{ty:TypeId}{l:List W}{X:HpW}(s:Nat)(he:0<e)(hl:purL l=true)(hbm:m<=b)(hs:getW fr s=some (gW b e l))(hf:∀blk:Nat->Option W,(∀i,i≠b->blk i=none) ->subV blk fr fr2)(hX:∀blk:Nat->Option W,(∀i,i≠b->blk i=none) ->subVH blk b (X++gH b ty e l) X)(nd:(X.map (·.1)).Nodup)(hXb:∀p∈X,p.1≠b):Ent C G m k0 fr (X++gH b ty e l) nw R ((s,.fz l e false)::fr2) X nw R:=by
 cases l with
 |nil=>
  rw[show gH b ty e []=[] from rfl,List.append_nil];exact ent_view _ ⟨⟨_,hs,.nilfz⟩,hf _ λ_ _=>rfl⟩
 |cons x r=>
  have hne:∀i,i≠b->blk1 b (.arr ((x::r).length*e) e (x::r)) i=none:=λi hi=>by
   unfold blk1
   have:Nat.beq i b=false:=by
    cases q:Nat.beq i b with
    |true=>exact absurd (Nat.eq_of_beq_eq_true q) hi
    |false=>rfl
   rw[this]
  exact ent_fr1 b _ X (q8q hXb) hl hbm ⟨⟨_,hs,.sl (c:=.arr ((x::r).length*e) e (x::r)) (by unfold blk1;rw[Nat.beq_refl]) hl (zkq he O O) Xi⟩,hf _ hne⟩ (hX _ hne) nd
theorem keep2{c d b e:Nat}{x z:TypeId×W}{ty:TypeId}{l:List W}(hd:d≠b){k:Nat}{y:TypeId×W}(h:hget ([(c,x)]++gH b ty e l) k=some y):hget ((c,x)::(d,z)::gH b ty e l) k=some y:=by
 rw[List.cons_append,List.nil_append,zmq] at h;rw[zmq,zmq];split at h
 ·rename_i q;rw[if_pos q];exact h
 ·rename_i q;rw[if_neg q];by_cases q2:d=k
  ·subst q2;rw[jfq (λp hp=>by rw[kbq p hp];exact Ne.symm hd)] at h;cases h
  ·rw[if_neg q2];exact h
end
section
attribute [local irreducible] CoW OpW FlW Step Spec
variable {G:Nat->Option W}
def okN(ns:List Node):Prop:=∀i x,ns[i]? =some x->oneB x i
theorem rep_of{ns:List Node}(h:okN ns):∀n,n<=ns.length->∃t,Rep ns n t:=by
 intro n;induction n using Nat.strongRecOn with
 |_ n ih=>
  intro hn;cases n with
  |zero=>exact⟨_,.nil⟩
  |succ n=>
   obtain⟨x,hx⟩:∃x,ns[n]? =some x:=⟨_,List.getElem?_eq_getElem hn⟩
   have h1:=h n x hx;obtain⟨lf,k,v,l,r⟩:=x;cases lf with
   |true=>exact⟨_,.leaf hx⟩
   |false=>
    simp only[oneB,Bool.false_eq_true,if_false] at h1;obtain⟨⟨a1,a2⟩,⟨b1,b2⟩,_⟩:=h1;obtain⟨l,rfl⟩:=Int.eq_ofNat_of_zero_le a1;obtain⟨r,rfl⟩:=Int.eq_ofNat_of_zero_le b1;obtain⟨L,hL⟩:=ih l Xd Xd;obtain⟨R,hR⟩:=ih r Xd Xd;exact⟨_,.fork hx Xd Xd hL hR⟩
theorem Rep.uniq{ns:List Node}{n:Nat}{t:T}(h:Rep ns n t):∀{t':T},Rep ns n t'->t=t':=by
 induction h with
 |nil=>intro t' h';cases h';rfl
 |leaf h=>
  intro t' h';cases h' with
  |leaf h2=>rw[h] at h2;cases h2;rfl
  |fork h2=>rw[h] at h2;cases h2
 |fork h hl hr _ _ i1 i2=>
  intro t' h';cases h' with
  |leaf h2=>rw[h] at h2;cases h2
  |fork h2 _ _ hL hR=>
   rw[h] at h2;simp only[Option.some.injEq,Node.mk.injEq,Int.natCast_inj,true_and] at h2;obtain⟨_,_,rfl,rfl⟩:=h2;rw[i1 hL,i2 hR]
def MayT(t:Tree):Prop:=t.nodes.length<=262144/\okN t.nodes/\∃(n:Nat) (t0:T),t.root=n/\Rep t.nodes n t0/\t0.ok 0 yyq=true
noncomputable instance(t:Tree):Decidable (MayT t):=Classical.propDecidable _
theorem j1q(t:Tree)(hb:t.nodes.length<=4611686018427387903):PS cfg G 64 [tW t] (.int .i64 (if MayT t then 0 else 8)):=by
 have e:(t.nodes.map nW).length=t.nodes.length:=List.length_map _;have no:∀{R:Res} {k0:Nat},¬MayT t->W.int .i64 8=W.int .i64 (if MayT t then 0 else 8):=λh=>by rw[if_neg h]
 refine gI 11 O (λR k0=>gV (w':=.int .i64 (t.nodes.length:Int)) 0 O Xu ?_);refine gD 0 O (λh1=>?_) (λh1=>?_)
 ·have hno:¬MayT t:=λh=>by have:=h.1;omega
  exact gQ 23 O Qb
 refine gD 3 O (λh2=>?_) (λh2=>?_)
 ·have hno:¬MayT t:=λh=>by obtain⟨_,_,n,_,h,_⟩:=h;have h2:t.root<0:=h2;omega
  exact gQ 19 O Qb
 refine gV (w':=.int .i64 (t.nodes.length:Int)) 6 O Xu (gU 0 O ?_);refine gS 3 O (λh3=>?_) (λh3=>?_)
 ·have hno:¬MayT t:=λh=>by obtain⟨_,_,n,_,h,hr,_⟩:=h;have h3:(t.nodes.length:Int)<t.root:=h3;have:=hr.le;omega
  exact gQ 7 O Qb
 have h2:¬t.root<0:=h2;have h3:¬(t.nodes.length:Int)<t.root:=h3;obtain⟨n0,hn0⟩:=Int.eq_ofNat_of_zero_le (show 0<=t.root by omega);refine gV (w':=.int .i64 (t.nodes.length:Int)) 7 O Xu ?_;refine gLo (α:=Nat) 4 (λi=>i<=t.nodes.length/\∀j x,j<i->t.nodes[j]? =some x->oneB x j) (λi=>[(27,.int .i64 (i:Int))]) [1,2,25,26] (λi=>t.nodes.length-i) (0) rfl (⟨Nat.zero_le _,λj x hj=>by omega⟩) (λi hI=>?_);obtain⟨hi,hI⟩:=hI;refine gS 6 O (λh4=>?_) (λh4=>?_)
 ·have hi':i<t.nodes.length:=by omega
  obtain⟨x,hx⟩:∃x,t.nodes[i]? =some x:=⟨_,List.getElem?_eq_getElem hi'⟩
  refine gP 7 O (zqq (i:=i) O O O O O O O (ziq nW hx)) (gC 10 O (one_s _ _ Xd) ?_);refine gS 3 O (λh5=>?_) (λh5=>?_)
  ·have hno:¬MayT t:=λh=>by have:=h.2.1 i x hx;simp[this] at h5
   exact gO 8 O (gQ 2 O Qb)
  ·have h5:oneB x i:=by simpa using h5
   exact gA 4 O (i+1) (gAg 2 O (i+1) (⟨hi',λj y hj hy=>by rcases Nat.lt_succ_iff_lt_or_eq.1 hj with h|rfl;exact hI j y h hy;exact(Option.some.inj (hx.symm.trans hy))▸h5⟩) Xd)
 ·have okn:okN t.nodes:=λj x hx=>hI j x (by have:=(List.getElem?_eq_some_iff.1 hx).1;omega) hx
  obtain⟨t0,ht0⟩:=rep_of okn n0 Xd
  have key:MayT t↔t0.ok 0 yyq=true:=by
   constructor
   ·rintro⟨_,_,n,t1,hn,hr,hk⟩;obtain rfl:n=n0:=by omega
    rw[ht0.uniq hr];exact hk
   ·exact λh=>⟨by omega,okn,n0,t0,hn0,ht0,h⟩
  refine gO 2 O (gV 8 O xuq (Ygq O O O O O (by rw[hn0];rfl) (right_s t Xd t0 n0 0 yyq ht0 Xd) Xh Xh (zpq 13 O ?_)));refine gS 0 O (λh5=>?_) (λh5=>?_)
  ·have hno:¬MayT t:=λh=>by have:=key.1 h;simp[this] at h5
   exact gQ 7 O Qb
  ·have yes:MayT t:=key.2 (by simpa using h5);exact gQ 8 O (by rw[if_pos yes])
inductive FTo(ns:List Node)(k:Dig):Nat->Nat->Nat->Prop where
 |nil {d:Nat}:FTo ns k 0 d 0
 |hit {n d:Nat} {v:List UInt8} {l r:Int} (h:ns[n]? =some ⟨true,k,v,l,r⟩):FTo ns k (n+1) d (n+1)
 |miss {n d:Nat} {k':Dig} {v:List UInt8} {l r:Int} (h:ns[n]? =some ⟨true,k',v,l,r⟩) (hk:k'≠k):FTo ns k (n+1) d 0
 |go {n d l r m:Nat} {k':Dig} {v:List UInt8} (h:ns[n]? =some ⟨false,k',v,l,r⟩) (hd:d<256) (hg:FTo ns k (if bitN k d=0 then l else r) (d+1) m):FTo ns k (n+1) d m
theorem fto_of{ns:List Node}{k:Dig}{n:Nat}{t:T}(h:Rep ns n t):∀{d:Nat} {b:Dig},t.ok d b=true->∃m,FTo ns k n d m/\(t.find k d=none->m=0)/\∀v,t.find k d=some v->∃j l r,m=j+1/\ns[j]? =some ⟨true,k,v,l,r⟩:=by
 induction h with
 |nil=>exact λ_=>⟨0,.nil,λ_=>rfl,λv h=>by simp[T.find] at h⟩
 |leaf h=>
  rename_i n k' v l r;intro d b _;by_cases e:k'=k
  ·subst e;exact⟨n+1,.hit h,λhn=>by simp[T.find] at hn,λw hw=>by simp only[T.find,if_true,Option.some.injEq] at hw;subst hw;exact⟨n,l,r,rfl,h⟩⟩
  ·exact⟨0,.miss h e,λ_=>rfl,λw hw=>by simp[T.find,e] at hw⟩
 |fork h hl hr hL hR i1 i2=>
  intro d b hk;obtain⟨hd,k1,k2,_⟩:=ok_fork.1 hk;by_cases hb:bitN k d=0
  ·obtain⟨m,g1,g2,g3⟩:=i1 k1;exact⟨m,.go h hd (by rw[if_pos hb];exact g1),by simp only[T.find,if_pos hb];exact g2,by simp only[T.find,if_pos hb];exact g3⟩
  ·obtain⟨m,g1,g2,g3⟩:=i2 k2;exact⟨m,.go h hd (by rw[if_neg hb];exact g1),by simp only[T.find,if_neg hb];exact g2,by simp only[T.find,if_neg hb];exact g3⟩
theorem yvq(k:Dig)(d c:Nat)(h:d<256)(hc:bitN k d=c):PS cfg G 196 [dW k,.int .i64 (d:Int)] (.int .u8 (c:Int)):=hc▸tbit_s k d h
theorem tfind_s(t:Tree)(k:Dig)(n m:Nat)(hn:t.root=n)(hf:FTo t.nodes k n 0 m)(hb:t.nodes.length<=4611686018427387903):PS cfg G 340 [tW t,dW k] (.int .i64 (m:Int)):=by
 obtain⟨ns,root⟩:=t;simp only at hn hf hb;subst hn;refine gI 21 O (λR k0=>?_);refine gLo (α:=Nat×Nat) 0 (λp=>FTo ns k p.1 p.2 m/\p.2<=256) (λp=>[(5,.int .i64 (p.1:Int)),(6,.int .i64 (p.2:Int))]) [2,3,4] (λp=>257-p.2) ((n,0)) rfl (⟨hf,by simp⟩) (λp hI=>?_);obtain⟨i,d⟩:=p;obtain⟨hf,hd⟩:=hI;simp only at hf hd⊢;refine gS 7 O (λh1=>?_) (λh1=>?_)
 ·cases hf with
  |nil=>exfalso;omega
  |hit h=>
   skip
   rename_i i v l r;have hi:=(List.getElem?_eq_some_iff.1 h).1;refine ycq 9 O (gA 0 O (i) (gP 0 O (zqq (i:=i) O O O O O O O (ziq nW h)) (gUe 19 O (yaq O O O O (ywq O O O O O O _ _ 250)) zZq ?_)));refine gS 2 O (λh2=>?_) (λh2=>?_)
   ·refine gO 11 O ?_;first|exact gQa 2 O|(exfalso;omega)
   ·exfalso;exact h2 rfl
  |miss h hk=>
   rename_i i k' v l r;have hi:=(List.getElem?_eq_some_iff.1 h).1;refine ycq 9 O (gA 0 O (i) (gP 0 O (zqq (i:=i) O O O O O O O (ziq nW h)) (gUe 19 O (yaq O O O O (ywq O O O O O O _ _ 250)) zZq ?_)));refine gS 2 O (λh2=>?_) (λh2=>?_)
   ·exfalso;exact hk h2
   ·refine gO 11 O ?_;first|exact gQa 2 O|(exfalso;omega)
  |go h hd' hg=>
   rename_i i l r k' v;have hi:=(List.getElem?_eq_some_iff.1 h).1;have bl:=qUq k d;rcases Nat.lt_or_ge 0 (bitN k d) with hb1|hb0
   ·skip
    have hc:bitN k d=1:=by omega
    rw[if_neg Xd] at hg;exact ycq 9 O (gA 0 O (i) (gP 0 O (zqq (i:=i) O O O O O O O (ziq nW h)) (gC 17 O (jJq _) (gC 2 O (yvq k d 1 hd' hc) (gA 7 O (d+1) (gAg 2 O ((r,d+1)) (⟨hg,hd'⟩) Yd))))))
   ·have hc:bitN k d=0:=by omega
    rw[if_pos hc] at hg;exact ycq 9 O (gA 0 O (i) (gP 0 O (zqq (i:=i) O O O O O O O (ziq nW h)) (gC 17 O (jJq _) (gC 2 O (yvq k d 0 hd' hc) (gA 7 O (d+1) (gAg 2 O ((l,d+1)) (⟨hg,hd'⟩) Yd))))))
 ·obtain rfl:i=0:=by omega
  cases hf;refine gO 2 O ?_;first|exact gQa 8 O|(exfalso;omega)
structure IsT(t:Tree)(n:Nat)(t0:T):Prop where
 len:t.nodes.length<=262144
 okn:okN t.nodes
 root:t.root=n
 rep:Rep t.nodes n t0
 ok:t0.ok 0 yyq=true
theorem IsT.may{t:Tree}{n:Nat}{t0:T}(h:IsT t n t0):MayT t:=⟨h.len,h.okn,n,t0,h.root,h.rep,h.ok⟩
theorem may_is{t:Tree}(h:MayT t):∃n t0,IsT t n t0:=by
 obtain⟨h1,h2,n,t0,h3,h4,h5⟩:=h;exact⟨n,t0,h1,h2,h3,h4,h5⟩
theorem Zsq{ns:List Node}(h:okN ns){i:Nat}{k:Dig}{v:List UInt8}{l r:Int}(hx:ns[i]? =some ⟨true,k,v,l,r⟩):0<v.length/\v.length<=64:=by
 have h1:=h i _ hx;simp only[oneB,if_true] at h1;have h2:=(h1.2.2.2 0 Xh (k,v) rfl).1;simp only[valB,Bool.and_eq_true,decide_eq_true_eq] at h2;exact h2
noncomputable def getW':Option (List UInt8) ->W
 |none=>.tup [.nils,.bool false]
 |some v=>.tup [bW v,.bool true]
theorem tget_s(t:Tree)(n:Nat)(t0:T)(k:Dig)(h:IsT t n t0):PS cfg G 321 [tW t,dW k] (getW' (t0.find k 0)):=by
 have hl:=h.len;have hy:=h.may;obtain⟨m,f1,f2,f3⟩:=fto_of (k:=k) h.rep h.ok;cases hf:t0.find k 0 with
 |none=>
  obtain rfl:=f2 hf;refine gI 12 O (λR k0=>?_);first|refine gC 0 O (zWq (w':=.int .i64 0) (j1q t Xd) (by rw[if_pos hy])) ?_|refine gC 0 O (j1q _ Xd) ?_
  exact gC 10 O (tfind_s t k n _ h.root f1 Xd) (gQa 19 O)
 |some v=>
  obtain⟨j,l,r,rfl,hx⟩:=f3 v hf;have hv:=Zsq h.okn hx;have hj:=(List.getElem?_eq_some_iff.1 hx).1;refine gI 12 O (λR k0=>?_);first|refine gC 0 O (zWq (w':=.int .i64 0) (j1q t Xd) (by rw[if_pos hy])) ?_|refine gC 0 O (j1q _ Xd) ?_
  refine gC 10 O (tfind_s t k n _ h.root f1 Xd) ?_;refine gS 10 O (λh1=>?_) (λh1=>?_)
  ·exfalso;omega
  ·exact gA 7 O (j) (gP 0 O (zqq (i:=j) O O O O O O O (ziq nW hx)) (zbq 2 O (yqq O O O O O O (vqq v false Xd) (zpq 5 O (gQa 0 O)))))
theorem teach_s(t:Tree)(n:Int):PS cfg G 220 [tW t,.int .i64 n] (.fn 289 [] [.fel (.int .i64 n),.fel (tW t)]):=by
 refine gI 14 O (λR k0=>?_);refine y8q (fr2:=[(4,_)]) Xo ?_ O O
 (repeat (first|exact trivial|refine And.symm ⟨?_,_,rfl,?_⟩))<;>(repeat (first|exact .nil|refine .cons ?_ ?_|refine .fn ?_ ?_|(refine y9q O ?_ rfl;(first|rfl|(focus (simp;done))))|(refine .sl O ?_ rfl Xi;(first|rfl|(focus (simp;done))))|(refine .pur ?_;(first|rfl|(focus (simp;done))))|refine .agg ?_|refine .arr ?_|refine .tup ?_))
noncomputable def enc1(p:Pr):List W:=[pW p]
theorem yl_same{L:Nat}{E:Res->Prop}{b:Bool}{R1:Res}{l:List (List W)}(h:match b with|true=>Yl cfg G L E [] R1|false=>E R1):E R1:=by cases b<;>exact h
def restL(tl tr:T):Nat->List Pr
 |0=>tl.all++tr.all
 |1=>tr.all
 |_=>[]
theorem drop_at{α:Type}{l:List α}{i:Nat}{x:α}(h:l[i]? =some x):l.drop i=x::l.drop (i+1):=by
 obtain⟨hl,h2⟩:=List.getElem?_eq_some_iff.1 h;rw[List.drop_eq_getElem_cons hl,h2]
theorem teach_it(t:Tree)(hv:∀(i:Nat) (k:Dig) (v:List UInt8) (l r:Int),t.nodes[i]? =some (Node.mk true k v l r) ->v.length<=70368744177664)(hb:t.nodes.length<=4611686018427387903):∀(t0:T) (n:Nat),Rep t.nodes n t0->qWq cfg G 289 [.fel (.int .i64 (n:Int)),.fel (tW t)] (t0.all.map enc1):=by
 intro t0;induction t0 with
 |nil=>
  intro n hr;obtain rfl:n=0:=by cases hr;rfl
  refine vjq (fn:=Tryz.f289) O O O (Ob rfl) (λL E R hy k0=>?_);exact zKq 15 O (xUq Qs rfl hy)
 |leaf k v=>
  intro n hr;have hle:=hr.le;cases hr with
  |leaf h=>
  rename_i n l r;have hvl:=hv _ _ _ _ _ h;refine vjq (fn:=Tryz.f289) O O O (Ob rfl) (λL E R hy k0=>?_);refine zKq 12 O ?_;refine gS 0 O (λh1=>?_) (λh1=>?_)
  ·exfalso;omega
  ·refine gA 7 O (n) (gP 0 O (zqq (i:=n) O O O O O O O (ziq nW h)) (zbq 20 O (QCq O O O O O O (vqq v false hvl) Xh Xh Xt (jmq O O ?_))));refine yuq rfl (jAq O O O (hy) (λb R1 hb=>?_));refine⟨by first|rfl|kernel_rfl,?_⟩;exact ykq 4 O (xUq Qs rfl (yl_same (l:=[]) hb))
 | fork tl tr ihL ihR=>
  intro n hr;have hle:=hr.le;cases hr with
  |fork h hl hr hL hR=>
  rename_i n l r k v;refine vjq (fn:=Tryz.f289) O O O (Ob rfl) (λL E R hy k0=>?_);refine zKq 12 O ?_;refine gS 0 O (λh1=>?_) (λh1=>?_)
  ·exfalso;omega
  ·refine gA 7 O (n) (gP 0 O (zqq (i:=n) O O O O O O O (ziq nW h)) (gC 18 O (jJq _) (zbq 4 O ?_)));refine QNq (α:=Nat×Res) (λp=>p.1<=2/\Yl cfg G L E ((restL tl tr p.1).map enc1) p.2) (λp=>[(28,.int .i64 (p.1:Int))]) [(2,_),(3,_),(27,_)] (λp=>p.2) (λp=>2-p.1) ((0,R)) ⟨rfl,rfl,rfl,trivial⟩ (⟨by simp,hy⟩) ⟨rfl,trivial⟩ rfl (λp hI=>?_);obtain⟨i,R⟩:=p;obtain⟨hi,hy⟩:=hI;simp only at hi hy⊢;refine zKq 6 O ?_;refine gS 0 O (λh2=>?_) (λh2=>?_)
   ·have hi':i=0\/i=1:=by omega
    rcases hi' with rfl|rfl
    ·skip
     refine gC 14 O (teach_s t l) (zbq 3 O ?_);refine ZTq (enc1) (tl.all) (λi a=>Yl cfg G L E (((tl.all.drop i)++tr.all).map enc1) a) (λa=>a) (R) rfl Xk (ihL _ hL) (λy _=>⟨by simp[enc1],rfl⟩) (hy) rfl (λi a y hy hI=>?_) (λa hI=>?_)
     ·have hd:=drop_at hy;rw[hd,List.cons_append,List.map_cons] at hI;refine zKq 4 O (q_asg (zKq 5 O ?_));refine gSo 0 O (jAq O O O (hI) (λb R1 hb=>?_));refine gS 3 O (λh3=>?_) (λh3=>?_)
      ·cases b with
       |true=>cases h3
       |false=>
        exact ycq 2 O (Qcq Xi (z0q 3 O (gO 0 O (zbq 1 O (xUq Qs rfl hb)))))
      ·cases b with
       |false=>exact absurd rfl h3
       |true=>
        exact ycq 2 O (Qbq (R1) (hb) Xd Yn rfl)
     ·rw[List.drop_length,List.nil_append] at hI;exact z0q 4 O (gA 0 O (1) (gAg 2 O ((1,a)) (⟨by simp,hI⟩) Xh))
    ·skip
     refine gC 14 O (teach_s t r) (zbq 3 O ?_);refine ZTq (enc1) (tr.all) (λi a=>Yl cfg G L E ((tr.all.drop i).map enc1) a) (λa=>a) (R) rfl Xk (ihR _ hR) (λy _=>⟨by simp[enc1],rfl⟩) (hy) rfl (λi a y hy hI=>?_) (λa hI=>?_)
     ·have hd:=drop_at hy;rw[hd,List.map_cons] at hI;refine zKq 4 O (q_asg (zKq 5 O ?_));refine gSo 0 O (jAq O O O (hI) (λb R1 hb=>?_));refine gS 3 O (λh3=>?_) (λh3=>?_)
      ·cases b with
       |true=>cases h3
       |false=>
        exact ycq 2 O (Qcq Xi (z0q 3 O (gO 0 O (zbq 1 O (xUq Qs rfl hb)))))
      ·cases b with
       |false=>exact absurd rfl h3
       |true=>
        exact ycq 2 O (Qbq (R1) (hb) Xd Yn rfl)
     ·rw[List.drop_length] at hI;exact z0q 4 O (gA 0 O (2) (gAg 2 O ((2,a)) (⟨by simp,hI⟩) Xh))
   ·refine gO 2 O (zbq 1 O ?_);obtain rfl:i=2:=by omega
    exact xUq (.inl rfl) rfl hy
noncomputable def psW(ps:List Pr):W:=.fz (ps.map pW) 33 false
@[simp] theorem psW_p(ps:List Pr):purW (psW ps)=true:=qrq ps
noncomputable def gat(ps:List Pr):HpW:=match ps with
 |[]=>[(0,73,.nils)]
 |_=>[(0,73,.sl 1 0 0 ps.length 33 none),(1,149,.arr (ps.length*33) 33 (ps.map pW))]
theorem gat_snoc(a:List Pr)(y:Pr):gat (a++[y])=[(0,73,.sl 1 0 0 (a.length+1) 33 none),(1,149,.arr ((a.length+1)*33) 33 (a.map pW++[pW y]))]:=by
 cases a with
 |nil=>rfl
 |cons x a=>simp[gat]
theorem pur1{a:List Pr}{y:Pr}{n:Nat}(e:Nat):purW (.arr n e (a.map pW++[pW y]))=true:=by simp
theorem aseq_s(f:FuncId)(cs:List W)(ls:List Pr)(hc:purL cs=true)(it:qWq cfg G f cs (ls.map enc1))(hb:ls.length<=1000000000):PS cfg G 288 [.nils,.fn f [] cs] (psW ls):=by
 refine gIv 13 O (λR k0=>?_);refine co_rangeN (α:=List Pr) (enc1) (ls) (λi a=>a=ls.take i) (λa=>gat a) (λa=>(match a with|[]=>1|_=>2)) (λa=>R) ([]) rfl Xk (it) (λy _=>⟨by simp[enc1],rfl⟩) (rfl) O O O (λi a y hy hI=>?_) (λa hI=>?_)
 ·have hi:=(List.getElem?_eq_some_iff.1 hy).1;have hn:ls.take (i+1)=a++[y]:=by rw[List.take_add_one,hy,hI];rfl
  cases a with
  |nil=>
   skip
   refine zKq 4 O (q_asg (zKq 5 O (gM 0 O (z6q O O (k0q (news:=[pW y]) (k:=ti149) O O O O (yzq O O O O) Xh (by show 1*ti149.bytes<=_;decide) (by show 1<=_;decide))) (zbq 3 O (q_round (ls.take (i+1)) O ?_)))));rw[hn,gat_snoc];refine yKq (b:=1) (k:=3) Xd Xd (by show 3<4;omega) trivial ⟨⟨by omega,rfl,rfl⟩,⟨by omega,?_,zdq (pur1 _)⟩,trivial⟩ Xh;rw[ztq (pur1 _)];rfl
  |cons x a=>
   have hl:(x::a).length<=1000000000:=by rw[hI,List.length_take];omega
   have el:((x::a).map pW).length=(x::a).length:=List.length_map _;refine zKq 4 O (q_asg (zKq 5 O (gM 0 O (z6q O O (yZq (len:=(x::a).length) (news:=[pW y]) (olds:=(x::a).map pW) (k:=ti149) O O O O (yzq O O O O) Xh (by show((x::a).length+1)*56<=_;omega) (by show(x::a).length+1<=_;omega) rfl (by show(x::a).length*33<0+((x::a).length+1)*33;omega) rfl (zkq Xl el.symm rfl))) (zbq 3 O (q_round (ls.take (i+1)) O ?_)))));rw[hn,gat_snoc];refine yKq (b:=1) (k:=4) Xd Xd Yk trivial ⟨⟨by omega,rfl,rfl⟩,⟨by omega,?_,zdq (pur1 _)⟩,trivial⟩ Xh;rw[ztq (pur1 _)];rfl
 ·obtain rfl:a=ls:=by rw[hI,List.take_length]
  cases a with
  |nil=>
   skip
   refine z0q 9 O (jZq Xo O ?_)
   (repeat (first|exact .nil|refine .cons ?_ ?_|exact y4q|exact .nilfz|refine .fn ?_ ?_|(refine y9q O ?_ rfl;(first|rfl|(focus (simp;done))))|(refine .sl O ?_ rfl Xi;(first|rfl|(focus (simp;done))))|(refine .pur ?_;(first|rfl|(focus (simp;done))))|(refine .fzw ?_;(first|rfl|(focus (simp;done))))|refine .agg ?_|refine .arr ?_|refine .tup ?_))
  |cons x a=>
   exact z0q 9 O (jZq Xo O (.sl rfl (by show purL ((x::a).map pW)=true;exact qrq _) (zkq Xl (List.length_map _).symm rfl) Xi))
theorem collect_s(f:FuncId)(cs:List W)(ls:List Pr)(hc:purL cs=true)(it:qWq cfg G f cs (ls.map enc1))(hb:ls.length<=1000000000):PS cfg G 219 [.fn f [] cs] (psW ls):=by
 exact gI 8 O (λR k0=>Ygq O O O O O O (aseq_s f cs ls hc it hb) (by simp[hc]) Xh (zpq 4 O (gQa 0 O)))
theorem nodup_le{α:Type} [DecidableEq α]:∀(l m:List α),l.Nodup->(∀x∈l,x∈m) ->l.length<=m.length
 |[],m,_,_=>Nat.zero_le _
 |x::l,m,hn,hs=>by
  obtain⟨h1,h2⟩:=List.nodup_cons.1 hn;have hx:=hs x Xh;have ih:=nodup_le l (m.erase x) h2 λy hy=>(List.mem_erase_of_ne (λe:y=x=>h1 (by rw[<-e];exact hy))).2 (hs y (by simp[hy]))
  rw[List.length_erase_of_mem hx] at ih;have:0<m.length:=List.length_pos_of_mem hx;simp only[List.length_cons];omega
theorem rep_mem{ns:List Node}{n:Nat}{t:T}(h:Rep ns n t):∀p∈t.all,∃(i:Nat) (l r:Int),ns[i]? =some (Node.mk true p.1 p.2 l r):=by
 induction h with
 |nil=>intro p hp;simp[T.all] at hp
 |leaf h=>intro p hp;simp only[T.all,List.mem_singleton] at hp;subst hp;exact⟨_,_,_,h⟩
 |fork h hl hr _ _ i1 i2=>
  intro p hp;rcases List.mem_append.1 hp with hp|hp
  ·exact i1 p hp
  ·exact i2 p hp
theorem srt_nodup{l:List Pr}(h:Srt l):(l.map (·.1)).Nodup:=by
 rw[List.nodup_iff_pairwise_ne,List.pairwise_map];exact h.imp λh=>xPq h
theorem IsT.srt{t:Tree}{n:Nat}{t0:T}(h:IsT t n t0):Srt t0.all:=ok_srt k7q h.ok
theorem IsT.all_le{t:Tree}{n:Nat}{t0:T}(h:IsT t n t0):t0.all.length<=t.nodes.length:=by
 have:=nodup_le (t0.all.map (·.1)) (t.nodes.map (·.key)) (srt_nodup h.srt) λk hk=>by
  obtain⟨p,hp,rfl⟩:=List.mem_map.1 hk;obtain⟨i,l,r,hx⟩:=rep_mem h.rep p hp;exact List.mem_map.2 ⟨_,List.mem_of_getElem? hx,rfl⟩
 simpa using this
theorem IsT.val{t:Tree}{n:Nat}{t0:T}(h:IsT t n t0):∀p∈t0.all,0<p.2.length/\p.2.length<=64:=λp hp=>by
 obtain⟨i,l,r,hx⟩:=rep_mem h.rep p hp;exact Zsq h.okn hx
theorem tpairs_s(t:Tree)(n:Nat)(t0:T)(h:IsT t n t0):PS cfg G 144 [tW t] (.tup [psW t0.all,.int .i64 0]):=by
 have hl:=h.len;have hy:=h.may;have ha:=h.all_le;have hr:=h.root;obtain⟨ns,root⟩:=t;simp only at hl hr ha;subst hr;exact gI 11 O (λR k0=>gC 0 O (zWq (w':=.int .i64 0) (j1q ⟨ns,(n:Int)⟩ Qj) (by rw[if_pos hy])) (zbq 17 O (yqq O O O O O O (teach_s ⟨ns,(n:Int)⟩ (n:Int)) (yqq O O O O O O (collect_s _ _ t0.all Xh (teach_it ⟨ns,(n:Int)⟩ (λi k v l r hx=>by have:=(Zsq h.okn hx).2;omega) Qj t0 n h.rep) Xd) (zpq 5 O (gQa 0 O))))))
theorem tpairs_no(t:Tree)(hb:t.nodes.length<=4611686018427387903)(h:¬MayT t):PS cfg G 144 [tW t] (.tup [.nils,.int .i64 8]):=by
 exact gI 11 O (λR k0=>gC 0 O (zWq (w':=.int .i64 8) (j1q t hb) (by rw[if_neg h])) (gQa 19 O))
theorem aeach_s(t:Tree):PS cfg G 200 [tW t] (.fn 267 [] [.fel (tW t)]):=by
 refine gI 13 O (λR k0=>?_);refine y8q (fr2:=[(2,_)]) Xo ?_ O O
 (repeat (first|exact trivial|refine And.symm ⟨?_,_,rfl,?_⟩))<;>(repeat (first|exact .nil|refine .cons ?_ ?_|refine .fn ?_ ?_|(refine y9q O ?_ rfl;(first|rfl|(focus (simp;done))))|(refine .sl O ?_ rfl Xi;(first|rfl|(focus (simp;done))))|(refine .pur ?_;(first|rfl|(focus (simp;done))))|refine .agg ?_|refine .arr ?_|refine .tup ?_))
noncomputable def encA(p:Pr):List W:=[aW (qIq p.2).1,.bool (decide ((((qIq p.2).2:Nat):Int)=0))]
noncomputable def encZ(_:Unit):List W:=[aW .zero,.bool false]
theorem aeach_no(t:Tree)(hb:t.nodes.length<=4611686018427387903)(h:¬MayT t):qWq cfg G 267 [.fel (tW t)] ([()].map encZ):=by
 refine vjq (fn:=Tryz.f267) O O O (Ob rfl) (λL E R hy k0=>?_);refine zKq 3 O (gC 0 O (tpairs_no t hb h) ?_);refine gSo 19 O (jAq O O O (hy) (λb R1 hb=>?_));exact zbq 4 O (xUq Qs rfl (yl_same (l:=[]) hb))
theorem aeach_it(t:Tree)(n:Nat)(t0:T)(h:IsT t n t0):qWq cfg G 267 [.fel (tW t)] (t0.all.map encA):=by
 have e:(t0.all.map pW).length=t0.all.length:=List.length_map _;have hl:=h.len;have ha:=h.all_le;refine vjq (fn:=Tryz.f267) O O O (Ob rfl) (λL E R hy k0=>?_);refine zKq 3 O (gC 0 O (tpairs_s t n t0 h) (gV (w':=.int .i64 (t0.all.length:Int)) 20 O Xu (zbq 4 O ?_)));refine QNq (α:=Nat×Res) (λp=>p.1<=t0.all.length/\Yl cfg G L E ((t0.all.drop p.1).map encA) p.2) (λp=>[(21,.int .i64 (p.1:Int))]) [(0,_),(19,_),(20,_)] (λp=>p.2) (λp=>t0.all.length-p.1) ((0,R)) ⟨rfl,rfl,rfl,trivial⟩ (⟨by simp,hy⟩) ⟨rfl,trivial⟩ rfl (λp hI=>?_);obtain⟨i,R⟩:=p;obtain⟨hi,hy⟩:=hI;simp only at hi hy⊢;refine zKq 6 O ?_;refine gS 0 O (λh1=>?_) (λh1=>?_)
 ·have hi':i<t0.all.length:=by omega
  obtain⟨x,hx⟩:∃x,t0.all[i]? =some x:=⟨_,List.getElem?_eq_getElem hi'⟩
  have hv:=h.val x (List.mem_of_getElem? hx);rw[drop_at hx,List.map_cons] at hy;refine gP 6 O (zqq (i:=i) O O O O O O O (ziq pW hx)) (zbq 9 O (yqq O O O O O O (aread_s x.2 false Xd) (zpq 13 O (gU 0 O ?_))));refine gSo 0 O (jAq O O O (hy) (λb R1 hb=>?_));refine gS 3 O (λh2=>?_) (λh2=>?_)
  ·cases b with
   |true=>cases h2
   |false=>
    exact ycq 3 O (gO 0 O (zbq 1 O (xUq Qs rfl hb)))
  ·cases b with
   |false=>exact absurd rfl h2
   |true=>
    exact ycq 4 O (gA 0 O (i+1) (gAg 2 O ((i+1,R1)) (⟨hi',hb⟩) Yd))
 ·refine gO 2 O (zbq 1 O ?_);obtain rfl:i=t0.all.length:=by omega
  rw[List.drop_length] at hy;exact xUq (.inl rfl) rfl hy
theorem encA_ok{l:List Pr}:∀y∈l,purL (encA y)=true/\(encA y).length=2:=λy _=>⟨rfl,rfl⟩
structure IsA(t:Tree)(n:Nat)(t0:T):Prop extends IsT t n t0 where
 held:∀p∈t0.all,(qIq p.2).2=0
def MayA(t:Tree):Prop:=∃n t0,IsA t n t0
noncomputable instance(t:Tree):Decidable (MayA t):=Classical.propDecidable _
theorem acheck_s(t:Tree)(hb:t.nodes.length<=4611686018427387903):PS cfg G 130 [tW t] (.int .i64 (if MayA t then 0 else 8)):=by
 by_cases h:MayT t
 ·obtain⟨n,t0,h⟩:=may_is h;refine gI 10 O (λR k0=>gC 0 O (aeach_s _) (zbq 3 O ?_));refine ZTq (encA) (t0.all) (λi (_:Unit)=>∀j p,j<i->t0.all[j]? =some p->(qIq p.2).2=0) (λ_=>R) (()) rfl Xk (aeach_it t n t0 h) (encA_ok) (λj p hj=>by omega) rfl (λi a y hy hI=>?_) (λa hI=>?_)
  ·refine zKq 3 O (q_asg (zKq 7 O ?_));refine gS 0 O (λh1=>?_) (λh1=>?_)
   ·have hno:¬MayA t:=by
     rintro⟨n',t1,ha⟩;obtain rfl:n'=n:=by have:=ha.root;have:=h.root;omega
     obtain rfl:=ha.rep.uniq h.rep;have:=ha.held y (List.mem_of_getElem? hy);rw[this] at h1;simp at h1
    exact zbq 7 O (Qcq Xi (z0q 2 O (gQ 0 O Qb)))
   ·have hok:(qIq y.2).2=0:=by simp at h1;omega
    exact zbq 2 O (Qbq (()) (λj p hj hp=>by rcases Nat.lt_succ_iff_lt_or_eq.1 hj with q|rfl;exact hI j p q hp;exact(Option.some.inj (hy.symm.trans hp))▸hok) Xd Yn rfl)
  ·have yes:MayA t:=⟨n,t0,h,λp hp=>by
    obtain⟨j,hj,hjp⟩:=List.getElem_of_mem hp;exact hI j p hj (by rw[List.getElem?_eq_getElem hj,hjp])⟩
   exact z0q 8 O (gQ 0 O (by rw[if_pos yes]))
 ·have hno:¬MayA t:=λ⟨n,t0,ha⟩=>h ha.toIsT.may
  refine gI 10 O (λR k0=>gC 0 O (aeach_s _) (zbq 3 O ?_));refine ZUq (encZ) ([()]) (λi=>i=0) rfl Xk (aeach_no t hb h) (λy _=>⟨rfl,rfl⟩) (rfl) (λi y hy hI=>?_) (λhI=>?_)
  ·exact zKq 3 O (q_asg (zKq 15 O (q_leave Xi (z0q 2 O (gQ 0 O Qb)))))
  ·exfalso;simp at hI
def acctOf(t0:T)(k:Dig):Acct:=match t0.find k 0 with
 |none=>.zero
 |some v=>(qIq v).1
noncomputable def nsW(ns:List Node):W:=.arr (ns.length*36) 36 (ns.map nW)
@[simp] theorem kNq(ns:List Node):purW (nsW ns)=true:=Qoq ns
theorem nclone_s(ns:List Node)(f:Bool)(hl:ns.length<=1000000000):qoq cfg G 131 0 [.fz (ns.map nW) 36 f] [] λw hp nw=>
  (ns=[]/\w= .nils/\hp=[]/\nw=0)\/(w= .sl 0 0 0 ns.length 36 none/\hp=[(0,230,nsW ns)]/\nw=1):=by
 intro R;have e:(ns.map nW).length=ns.length:=List.length_map _;refine gIs 9 O (λk0=>?_);first|refine yoq O O ?_|refine zLq rfl (jqq O O O O O (λbn hn=>?_))
 refine zpq 2 O ?_;refine gS 0 O (λh1=>?_) (λh1=>?_)
 ·cases bn with
  |false=>cases h1
  |true=>
   have hn:=hn rfl
   have hl0:ns=[]:=by cases ns with
    |nil=>rfl
    |cons c l=>simp at hn
   exact ycq 7 O (fin Qs Ent.refl rfl ⟨rfl,.inl ⟨hl0,rfl,rfl,rfl⟩⟩)
 ·cases ns with
  |nil=>
   skip
   exact ycq 6 O (gM 0 O (z6q O O (joq O O O O O)) (zbq 4 O (fin Qs Ent.refl rfl ⟨rfl,.inr ⟨rfl,rfl,rfl⟩⟩)))
  |cons c l=>
   refine ycq 6 O (gM 0 O (z6q O O (yZq (len:=0) (news:=(c::l).map nW) (olds:=[]) (k:=ti230) O O O O O Xh (by show(0+((c::l).map nW).length)*ti230.bytes<=_;rw[e];show(0+(c::l).length)*80<=_;omega) Qd rfl (by show 0<0+(0+((c::l).map nW).length)*36;rw[e];simp only[List.length_cons];omega) O O)) (zbq 4 O ?_));refine fin Qs (yKq (b:=0) (k:=1) (fr2:=[(2,.sl 0 0 0 (c::l).length 36 none)]) (hp2:=[(0,230,nsW (c::l))]) Xd Xd (by show 1<2;omega) ⟨⟨?_,rfl⟩,trivial⟩ ⟨⟨by omega,?_,zdq (kNq _)⟩,trivial⟩ Xh) rfl ⟨rfl,.inr ⟨rfl,rfl,rfl⟩⟩
   ·show some (W.sl 1 0 0 (0+((c::l).map nW).length) 36 none)=some (W.sl 1 0 0 (c::l).length 36 none);rw[e,Nat.zero_add]
   ·rw[ztq (kNq _)];show some (230,W.arr ((0+((c::l).map nW).length)*36) 36 ([]++(c::l).map nW))=some (230,nsW (c::l));rw[e,Nat.zero_add];rfl
theorem node_get(ns:List Node){i:Nat}{x:Node}(h:ns[i]? =some x):zVq 50 (nsW ns) (0+i*36+33) 1 false=some (bW x.val):=
 get_in (ziq nW h) Xd Xd Xh rfl
theorem node_put(ns:List Node){i:Nat}{x:Node}(h:ns[i]? =some x):yMq 50 (nsW ns) (0+i*36+33) (bW x.val)=some (nsW ns):=by
 have h1:=ziq nW h;rw[nsW,put_in (x':=nW x) h1 Xd Xd (by simp[W.isAgg,bW]) rfl,vRq h1]
theorem twin_s(ns:List Node)(root:Int)(hl:ns.length<=1000000000)(hv:∀x∈ns,x.val.length<=70368744177664):qoq cfg G 62 0 [tW ⟨ns,root⟩] [] λw hp nw=>
  (ns=[]/\w= .agg 2 [.nils,.int .i64 root]/\hp=[(1,24,.agg 2 [.nils,.int .i64 root]),(0,24,.agg 2 [.nils,.int .i64 root])]/\nw=2)\/
  (w= .agg 2 [.sl 2 0 0 ns.length 36 none,.int .i64 root]/\hp=[(2,230,nsW ns),(1,24,.agg 2 [.sl 2 0 0 ns.length 36 none,.int .i64 root]),(0,24,.agg 2 [.sl 2 0 0 ns.length 36 none,.int .i64 root])]/\nw=3):=by
 intro R;refine gIs 10 O (λk0=>?_);skip
 refine gSo 0 O (kyq O O O O O (by simp[Qoq]) (nclone_s ns false hl) ?_);rintro w hp1 nw1 (⟨hn,rfl,rfl,rfl⟩|⟨rfl,rfl,rfl⟩)
 ·skip
  skip
  refine gL 9 O ?_;refine gLo (α:=Nat) 4 (λi=>i=0) (λi=>[(11,.int .i64 (i:Int))]) [1,2,10] (λi=>1-i) (0) rfl (rfl) (λi hI=>?_);subst hI;exact gO 9 O (zbq 9 O (fin Qs Ent.refl rfl ⟨rfl,.inl ⟨hn,rfl,rfl,rfl⟩⟩))
 ·rw[uAq (kNq _)];show OpW cfg G _ _ _ _ [(2,230,nsW ns),(1,24,.agg 2 [.nils,.int .i64 0]),(0,24,tW ⟨ns,root⟩)] 3 R _;refine zpq 9 O (gL 0 O ?_);refine gLo (α:=Nat) 4 (λi=>i<=ns.length) (λi=>[(11,.int .i64 (i:Int))]) [1,2,10] (λi=>ns.length-i) (0) rfl (Nat.zero_le _) (λi hI=>?_);refine gS 6 O (λh1=>?_) (λh1=>?_)
  ·have hi:i<ns.length:=by omega
   obtain⟨x,hx⟩:∃x,ns[i]? =some x:=⟨_,List.getElem?_eq_getElem hi⟩
   have hxv:=hv x (List.mem_of_getElem? hx);refine gP 17 O (qQq (i:=i) O O O O O O O hi) (gM 1 O (zXq O O O (node_get ns hx)) (QCq O O O O O O (vqq x.val false hxv) Xh Xh Xt ?_));refine jmq rfl (qQq (i:=i) O O O O O O O hi) (jmq O O ?_);exact xoq rfl (u8q O O O O O (node_put ns hx)) Xt (ykq 4 O (gA 0 O (i+1) (gAg 2 O (i+1) (hi) Xd)))
  ·exact gO 2 O (zbq 9 O (fin Qs Ent.refl rfl ⟨rfl,.inr ⟨rfl,rfl,rfl⟩⟩))
noncomputable def mkW(b n:Nat)(root:Int):W:=.agg 2 [.sl b 0 0 n 36 none,.int .i64 root]
theorem nsW_snoc(ns:List Node)(x:Node):nsW (ns++[x])= .arr ((ns.length+1)*36) 36 (ns.map nW++[nW x]):=by simp[nsW]
theorem node_s(ns:List Node)(root:Int)(x:Node)(hl:ns.length<=1000000000):qoq cfg G 312 2 [.ptr 0 0,nW x] [(0,377,mkW 1 ns.length root),(1,230,nsW ns)] λw hp nw=>
  w= .int .i64 ((ns.length+1:Nat):Int)/\hp=[(0,377,mkW 2 (ns.length+1) root),(2,230,nsW (ns++[x]))]/\nw=3:=by
 intro R;have el:(ns.map nW).length=ns.length:=List.length_map _;refine gIs 16 O (λk0=>?_);refine gM 0 O (z6q O O (yZq (len:=ns.length) (news:=[nW x]) (olds:=ns.map nW) (k:=ti230) O O O O (yzq O O O O) Xh (by show(ns.length+1)*80<=_;omega) (by show ns.length+1<=_;omega) rfl (by show ns.length*36<0+(ns.length+1)*36;omega) rfl (zkq Xl el.symm rfl))) (gL 13 O (zbq 4 O ?_));refine fin Qs (yKq (b:=2) (k:=4) (fr2:=[(4,.int .i64 ((ns.length+1:Nat):Int))]) (hp2:=[(0,377,mkW 2 (ns.length+1) root),(2,230,nsW (ns++[x]))]) Xd Xd Yk ⟨⟨rfl,rfl⟩,trivial⟩ ⟨⟨by omega,rfl,rfl⟩,⟨by omega,?_,zdq (kNq _)⟩,trivial⟩ Xh) rfl ⟨rfl,rfl,rfl,rfl⟩;rw[ztq (kNq _),nsW_snoc];rfl
noncomputable def Mk(root:Int)(P:List Node->Nat->Prop):W->HpW->Nat->Prop:=λw hp nw=>
 ∃ns m,P ns m/\w= .int .i64 ((m:Nat):Int)/\hp=[(0,377,mkW 2 ns.length root),(2,230,nsW ns)]/\nw=3
theorem yHq{o:Oper}{fr:FrW}{hp:HpW}{nw:Nat}{R:Res}{post:W->HpW->Nat->Res->Option EvW->Prop}{x:Operand}{xs:Array Operand}{ats:Array TypeId}{f:FuncId}{us:List W}{root:Int}{ns:List Node}{P:List Node->Nat->Prop}(k:Nat)
  (ho:o.op= .call ⟨.value x,xs,ats⟩) (hx:evW cfg G fr x=some (.fn f [] [])) (he:cfg.ext f=none) (hxs:evLW cfg G fr xs.toList=some (.ptr 0 0::us)) (hpu:purL us=true) (hk:0<k) (hkn:k<nw)
  (h0:hget hp 0=some (377,mkW k ns.length root)) (h1:hget hp k=some (230,nsW ns)) (sp:qoq cfg G f 2 (.ptr 0 0::us) [(0,377,mkW 1 ns.length root),(1,230,nsW ns)] (Mk root P))
  (hpost:∀ns' m,P ns' m->post (.int .i64 ((m:Nat):Int)) ((0,377,mkW nw ns'.length root)::(nw,230,nsW ns')::delA [0,k] hp) (nw+1) R (some .dirty)):Step cfg G o fr hp nw R post:=by
 refine jcq (ext:=[0,k]) (ws:=.ptr 0 0::us) ho hx he hxs ?_ sp ?_ ?_ Xh (Qwq h0 (by rw[ztq (kNq _)];exact h1) rfl (zdq (kNq _))) ?_ ?_
 ·show .ptr 0 0::(us++[])=W.ptr 0 0::yNq (numC [0,k] nw) us;rw[khq hpu,List.append_nil]
 ·simp;omega
 ·intro b hb;simp only[List.mem_cons,List.not_mem_nil,or_false] at hb;omega
 ·have h:=zdq (m:=2) (w:=.tup us) hpu;have h:refL 2 us=true:=h;show(refB 2 (.ptr 0 0)&&refL 2 us)=true;rw[h];rfl
 ·rintro w hp1 nw1 ⟨ns',m,h,rfl,rfl,rfl⟩
  have e:renH (numC [0,k] nw) [(0,377,mkW 2 ns'.length root),(2,230,nsW ns')]=[(0,377,mkW nw ns'.length root),(nw,230,nsW ns')]:=by
   simp only[renH,ztq (kNq _)];rfl
  have h:=hpost ns' m h;rw[show([0,k]:List Nat).length=2 from rfl,e];exact h
theorem kmq{k0:Nat}{rs:List ResultVar}{x:Exit}{fr:FrW}{hp:HpW}{nw:Nat}{R:Res}{root:Int}{P:List Node->Nat->Prop}{ns:List Node}{m:Nat}(s k:Nat)(hx:x= .normal\/x= .ret)(hk:2<=k)(hkn:k<nw)(hf:getW fr s=some (.int .i64 ((m:Nat):Int)))
  (h0:hget hp (tau1 2 k 0)=some (377,renW (tau1 2 k) (mkW 2 ns.length root))) (h1:hget hp (tau1 2 k 2)=some (230,nsW ns)) (ho:outW cfg [(s,.int .i64 ((m:Nat):Int))] [(0,377,mkW 2 ns.length root),(2,230,nsW ns)] rs=some (.int .i64 ((m:Nat):Int))) (hP:P ns m):
  QFin cfg G 2 k0 rs (λw hp nw R'=>R'=R/\Mk root P w hp nw) x fr hp nw R:=
 fin hx (yKq (b:=2) (k:=k) (fr2:=[(s,.int .i64 ((m:Nat):Int))]) (hp2:=[(0,377,mkW 2 ns.length root),(2,230,nsW ns)]) Xd hk hkn ⟨⟨hf,rfl⟩,trivial⟩ ⟨⟨by omega,h0,rfl⟩,⟨by omega,by rw[ztq (kNq _)];exact h1,zdq (kNq _)⟩,trivial⟩ Xh) ho ⟨rfl,ns,m,hP,rfl,rfl,rfl⟩
def NodeP(ns:List Node)(x:Node):List Node->Nat->Prop:=λns' m=>ns'=ns++[x]/\m=ns.length+1
theorem kjq(ns:List Node)(root:Int)(x:Node)(hl:ns.length<=1000000000):qoq cfg G 312 2 [.ptr 0 0,nW x] [(0,377,mkW 1 ns.length root),(1,230,nsW ns)] (Mk root (NodeP ns x)):=by
 have h:=node_s (G:=G) ns root x hl;intro R
 have e:(λw hp nw R'=>R'=R/\(w= .int .i64 ((ns.length+1:Nat):Int)/\hp=[(0,377,mkW 2 (ns.length+1) root),(2,230,nsW (ns++[x]))]/\nw=3))=(λ(w:W) (hp:HpW) (nw:Nat) (R':Res)=>R'=R/\Mk root (NodeP ns x) w hp nw):=by
  funext w hp nw R'
  refine propext (and_congr_right λ_=>⟨λ⟨h1,h2,h3⟩=>⟨_,_,⟨rfl,rfl⟩,h1,by rw[h2];simp,h3⟩,?_⟩);rintro⟨ns',m,⟨rfl,rfl⟩,h1,h2,h3⟩;exact⟨h1,by rw[h2];simp,h3⟩
 exact e▸h R
def Gr(ns:List Node)(f:Nat)(t:T):List Node->Nat->Prop:=λns' m=>(∃ms,ns'=ns++ms/\ms.length<=f)/\okN ns'/\Rep ns' m t
theorem okN_snoc{ns:List Node}{x:Node}(h:okN ns)(hx:oneB x ns.length):okN (ns++[x]):=λi y hy=>by
 rcases Nat.lt_trichotomy i ns.length with h1|rfl|h1
 ·rw[List.getElem?_append_left h1] at hy;exact h i y hy
 ·rw[List.getElem?_append_right (Nat.le_refl _),Nat.sub_self] at hy;cases hy;exact hx
 ·rw[List.getElem?_append_right Xd,List.getElem?_eq_none Xn] at hy;cases hy
theorem at_snoc(ns:List Node)(x:Node):(ns++[x])[ns.length]? =some x:=by simp
theorem leaf_one{k:Dig}{v:List UInt8}(hv:MayP [(k,v)])(n:Nat):oneB ⟨true,k,v,0,0⟩ n:=by simp[oneB,hv]
theorem Qxq{ns:List Node}{k:Dig}{v:List UInt8}(hok:okN ns)(hv:MayP [(k,v)]){f:Nat}(hf:0<f):Gr ns f (.leaf k v) (ns++[⟨true,k,v,0,0⟩]) (ns.length+1):=
 ⟨⟨_,rfl,hf⟩,okN_snoc hok (leaf_one hv _),.leaf (at_snoc ns _)⟩
theorem kaq{ns ms:List Node}{l r f:Nat}{L R:T}(hms:ms.length<=f)(hok:okN (ns++ms))(hl:Rep (ns++ms) l L)(hr:Rep (ns++ms) r R)(h:0<l+r):Gr ns (f+1) (.fork L R) (ns++ms++[jPq l r]) ((ns++ms).length+1):=
 ⟨⟨ms++[jPq l r],by simp,by simp;omega⟩,okN_snoc hok (by have:=hl.le;have:=hr.le;simp only[oneB,jPq,Bool.false_eq_true,if_false];exact⟨by omega,by omega,trivial,trivial,by omega⟩),.fork (at_snoc _ _) hl.le hr.le (hl.app _) (hr.app _)⟩
theorem Qpq(ns:List Node){i:Nat}{x:Node}(h:ns[i]? =some x):∃w,zVq 50 (nsW ns) (0+i*36) 36 true=some w/\(w=nW x\/(ns.length=1/\w= .arr 36 36 [nW x])):=by
 by_cases e:ns.length=1
 ·obtain⟨y,rfl⟩:=List.length_eq_one_iff.1 e;cases i with
  |zero=>cases h;exact⟨_,rfl,.inr ⟨rfl,rfl⟩⟩
  |succ i=>simp at h
 ·have hi:=(List.getElem?_eq_some_iff.1 h).1;exact⟨_,get_in (off:=0) (ziq nW h) Xd Xd (by rw[show Nat.beq 36 (ns.length*36)=false from by rw[<-Bool.not_eq_true,Nat.beq_eq];omega];simp) rfl,.inl rfl⟩
abbrev QVq(G:Nat->Option W)(root:Int)(k:Dig)(v:List UInt8)(ns:List Node)(n d:Nat)(P:List Node->Nat->Prop):Prop:=qoq cfg G 264 2 [.ptr 0 0,.int .i64 ((n:Nat):Int),.int .i64 ((d:Nat):Int),nW ⟨true,k,v,0,0⟩] [(0,377,mkW 1 ns.length root),(1,230,nsW ns)] (Mk root P)
theorem with_nil{root:Int}{k:Dig}{v:List UInt8}{ns:List Node}{d f:Nat}(hok:okN ns)(hv:MayP [(k,v)])(hf:0<f)(hl:ns.length<=1000000000):QVq G root k v ns 0 d (Gr ns f (.leaf k v)):=by
 intro R;refine gIs 13 O (λk0=>?_);refine gS 0 O (λh1=>?_) (λh1=>?_)
 ·refine zbq 4 O ?_
  (refine zLq rfl (yHq 1 O O O O Xh Xd (by show 1<3;omega) O O (kjq ns root _ hl) ?_);rintro ns1 m ⟨rfl,rfl⟩)
  exact zpq 5 O (kmq 8 3 Qs Xd (by show 3<4;omega) O O O O (Qxq hok hv hf))
 ·exfalso;omega
theorem with_hit{root:Int}{k:Dig}{v v':List UInt8}{ns:List Node}{i d f:Nat}{l r:Int}(hx:ns[i]? =some ⟨true,k,v',l,r⟩)(hok:okN ns)(hv:MayP [(k,v)])(hf:0<f)(hl:ns.length<=1000000000):QVq G root k v ns (i+1) d (Gr ns f (.leaf k v)):=by
 intro R;have hi:=(List.getElem?_eq_some_iff.1 hx).1;obtain⟨w,hw,rfl|⟨_,rfl⟩⟩:=Qpq ns hx
 ·refine gIs 13 O (λk0=>?_);refine gS 0 O (λh1=>?_) (λh1=>?_)
  ·exfalso;omega
  ·refine gA 10 O (i) (gP 0 O (qQq (i:=i) O O O O O O O hi) (gM 0 O (zXq O O O hw) ?_));refine gB 9 O (λh2=>?_) (λh2=>?_)
   ·refine gUe 5 O (yaq O O O O (ywq O O O O O O _ _ 250)) zZq ?_;refine gS 3 O (λh3=>?_) (λh3=>?_)
    ·refine zbq 4 O ?_
     (refine zLq rfl (yHq 1 O O O O Xh Xd (by show 1<4;omega) O O (kjq ns root _ hl) ?_);rintro ns1 m ⟨rfl,rfl⟩)
     exact zpq 5 O (kmq 8 4 Qs Xd Yk O O O O (Qxq hok hv hf))
    ·exfalso;exact h3 rfl
   ·exfalso;exact h2 rfl
 ·refine gIs 13 O (λk0=>?_);refine gS 0 O (λh1=>?_) (λh1=>?_)
  ·exfalso;omega
  ·refine gA 10 O (i) (gP 0 O (qQq (i:=i) O O O O O O O hi) (gM 0 O (zXq O O O hw) ?_));refine gB 9 O (λh2=>?_) (λh2=>?_)
   ·refine gUe 5 O (yaq O O O O (ywq O O O O O O _ _ 250)) zZq ?_;refine gS 3 O (λh3=>?_) (λh3=>?_)
    ·refine zbq 4 O ?_
     (refine zLq rfl (yHq 1 O O O O Xh Xd (by show 1<4;omega) O O (kjq ns root _ hl) ?_);rintro ns1 m ⟨rfl,rfl⟩)
     exact zpq 5 O (kmq 8 4 Qs Xd Yk O O O O (Qxq hok hv hf))
    ·exfalso;exact h3 rfl
   ·exfalso;exact h2 rfl
theorem with_leaf{root:Int}{k k':Dig}{v v':List UInt8}{ns:List Node}{i d f:Nat}{l r:Int}{t':T}(hx:ns[i]? =some ⟨true,k',v',l,r⟩)(hk:k'≠k)(hd:d<256)(hl:ns.length+f+1<=1000000000)(ht:t'.non=true)
  (sp:QVq G root k v ns (if bitN k d=bitN k' d then i+1 else 0) (d+1) (Gr ns f t')):QVq G root k v ns (i+1) d (Gr ns (f+1) (if bitN k d=0 then .fork t' (if bitN k d=bitN k' d then .nil else .leaf k' v') else .fork (if bitN k d=bitN k' d then .nil else .leaf k' v') t')):=by
 intro R;have hi:=(List.getElem?_eq_some_iff.1 hx).1;have b1:=qUq k d;have b2:=qUq k' d;have hc:bitN k d=0\/bitN k d=1:=by omega
 have hc':bitN k' d=0\/bitN k' d=1:=by omega
 obtain⟨w,hw,rfl|⟨_,rfl⟩⟩:=Qpq ns hx
 ·rcases hc' with hc'|hc'<;>rcases hc with hc|hc
  ·skip
   rw[if_pos (hc.trans hc'.symm)] at sp;refine gIs 13 O (λk0=>?_);refine gS 0 O (λh1=>?_) (λh1=>?_)
   ·exfalso;omega
   ·refine gA 10 O (i) ?_;refine gP 0 O (qQq (i:=i) O O O O O O O hi) ?_;refine gM 0 O (zXq O O O hw) ?_;refine gB 9 O (λh2=>?_) (λh2=>?_)
    ·refine gUe 5 O (yaq O O O O (ywq O O O O O O _ _ 250)) zZq ?_;refine gS 3 O (λh3=>?_) (λh3=>?_)
     ·exfalso;exact hk h3
     ·refine zbq 19 O ?_
      (first|refine yqq O O O O O O (yvq k' d 0 hd hc') ?_|refine yqq O O O O O O (yvq k d 0 hd hc) ?_)
      refine yoq O O ?_;refine op_ix ?_;refine zpq 8 O ?_
      (first|refine yqq O O O O O O (yvq k' d 0 hd hc') ?_|refine yqq O O O O O O (yvq k d 0 hd hc) ?_)
      refine zpq 7 O ?_;refine gX 0 O ?_;refine gA 2 O (d+1) ?_;refine zbq 1 O ?_
      (refine yuq rfl (yHq 1 O O O O Xh Xd Yp O O sp ?_);rintro ns1 m ⟨⟨ms,rfl,hms⟩,hok1,hm⟩;refine⟨by first|rfl|kernel_rfl,?_⟩)
      refine ykq 7 O ?_;refine gX 0 O ?_;refine gC 7 O (xTq _ _) ?_
      (refine zLq rfl (yHq 5 O O O O Xh Xd Yo O O (kjq _ root _ Xw) ?_);rintro ns2 m2 ⟨rfl,rfl⟩)
      refine zpq 4 O ?_;have hm0:0<m:=by have:=hm.non;rw[ht] at this;simpa using this.symm
      exact kmq 8 6 Qs Xd Yh O O O O Qm
    ·exfalso;exact h2 rfl
  ·skip
   rw[if_neg Xd] at sp;refine gIs 13 O (λk0=>?_);refine gS 0 O (λh1=>?_) (λh1=>?_)
   ·exfalso;omega
   ·refine gA 10 O (i) ?_;refine gP 0 O (qQq (i:=i) O O O O O O O hi) ?_;refine gM 0 O (zXq O O O hw) ?_;refine gB 9 O (λh2=>?_) (λh2=>?_)
    ·refine gUe 5 O (yaq O O O O (ywq O O O O O O _ _ 250)) zZq ?_;refine gS 3 O (λh3=>?_) (λh3=>?_)
     ·exfalso;exact hk h3
     ·refine zbq 19 O ?_
      (first|refine yqq O O O O O O (yvq k' d 0 hd hc') ?_|refine yqq O O O O O O (yvq k d 1 hd hc) ?_)
      refine yoq O O ?_;refine op_ix ?_;refine zpq 8 O ?_
      (first|refine yqq O O O O O O (yvq k' d 0 hd hc') ?_|refine yqq O O O O O O (yvq k d 1 hd hc) ?_)
      refine zpq 7 O ?_;refine gX 0 O ?_;refine gA 2 O (d+1) ?_;refine zbq 1 O ?_
      (refine yuq rfl (yHq 1 O O O O Xh Xd Yp O O sp ?_);rintro ns1 m ⟨⟨ms,rfl,hms⟩,hok1,hm⟩;refine⟨by first|rfl|kernel_rfl,?_⟩)
      refine ykq 7 O ?_;refine gX 0 O ?_;refine gC 7 O (xTq _ _) ?_
      (refine zLq rfl (yHq 5 O O O O Xh Xd Yo O O (kjq _ root _ Xw) ?_);rintro ns2 m2 ⟨rfl,rfl⟩)
      refine zpq 4 O ?_;have hm0:0<m:=by have:=hm.non;rw[ht] at this;simpa using this.symm
      exact kmq 8 6 Qs Xd Yh O O O O Qp
    ·exfalso;exact h2 rfl
  ·skip
   rw[if_neg Xd] at sp;refine gIs 13 O (λk0=>?_);refine gS 0 O (λh1=>?_) (λh1=>?_)
   ·exfalso;omega
   ·refine gA 10 O (i) ?_;refine gP 0 O (qQq (i:=i) O O O O O O O hi) ?_;refine gM 0 O (zXq O O O hw) ?_;refine gB 9 O (λh2=>?_) (λh2=>?_)
    ·refine gUe 5 O (yaq O O O O (ywq O O O O O O _ _ 250)) zZq ?_;refine gS 3 O (λh3=>?_) (λh3=>?_)
     ·exfalso;exact hk h3
     ·refine zbq 19 O ?_
      (first|refine yqq O O O O O O (yvq k' d 1 hd hc') ?_|refine yqq O O O O O O (yvq k d 0 hd hc) ?_)
      refine yoq O O ?_;refine op_ix ?_;refine zpq 8 O ?_
      (first|refine yqq O O O O O O (yvq k' d 1 hd hc') ?_|refine yqq O O O O O O (yvq k d 0 hd hc) ?_)
      refine zpq 7 O ?_;refine gX 0 O ?_;refine gA 2 O (d+1) ?_;refine zbq 1 O ?_
      (refine yuq rfl (yHq 1 O O O O Xh Xd Yp O O sp ?_);rintro ns1 m ⟨⟨ms,rfl,hms⟩,hok1,hm⟩;refine⟨by first|rfl|kernel_rfl,?_⟩)
      refine ykq 7 O ?_;refine gX 0 O ?_;refine gC 7 O (xTq _ _) ?_
      (refine zLq rfl (yHq 5 O O O O Xh Xd Yo O O (kjq _ root _ Xw) ?_);rintro ns2 m2 ⟨rfl,rfl⟩)
      refine zpq 4 O ?_;have hm0:0<m:=by have:=hm.non;rw[ht] at this;simpa using this.symm
      exact kmq 8 6 Qs Xd Yh O O O O Qo
    ·exfalso;exact h2 rfl
  ·skip
   rw[if_pos (hc.trans hc'.symm)] at sp;refine gIs 13 O (λk0=>?_);refine gS 0 O (λh1=>?_) (λh1=>?_)
   ·exfalso;omega
   ·refine gA 10 O (i) ?_;refine gP 0 O (qQq (i:=i) O O O O O O O hi) ?_;refine gM 0 O (zXq O O O hw) ?_;refine gB 9 O (λh2=>?_) (λh2=>?_)
    ·refine gUe 5 O (yaq O O O O (ywq O O O O O O _ _ 250)) zZq ?_;refine gS 3 O (λh3=>?_) (λh3=>?_)
     ·exfalso;exact hk h3
     ·refine zbq 19 O ?_
      (first|refine yqq O O O O O O (yvq k' d 1 hd hc') ?_|refine yqq O O O O O O (yvq k d 1 hd hc) ?_)
      refine yoq O O ?_;refine op_ix ?_;refine zpq 8 O ?_
      (first|refine yqq O O O O O O (yvq k' d 1 hd hc') ?_|refine yqq O O O O O O (yvq k d 1 hd hc) ?_)
      refine zpq 7 O ?_;refine gX 0 O ?_;refine gA 2 O (d+1) ?_;refine zbq 1 O ?_
      (refine yuq rfl (yHq 1 O O O O Xh Xd Yp O O sp ?_);rintro ns1 m ⟨⟨ms,rfl,hms⟩,hok1,hm⟩;refine⟨by first|rfl|kernel_rfl,?_⟩)
      refine ykq 7 O ?_;refine gX 0 O ?_;refine gC 7 O (xTq _ _) ?_
      (refine zLq rfl (yHq 5 O O O O Xh Xd Yo O O (kjq _ root _ Xw) ?_);rintro ns2 m2 ⟨rfl,rfl⟩)
      refine zpq 4 O ?_;have hm0:0<m:=by have:=hm.non;rw[ht] at this;simpa using this.symm
      exact kmq 8 6 Qs Xd Yh O O O O Qn
    ·exfalso;exact h2 rfl
 ·rcases hc' with hc'|hc'<;>rcases hc with hc|hc
  ·skip
   rw[if_pos (hc.trans hc'.symm)] at sp;refine gIs 13 O (λk0=>?_);refine gS 0 O (λh1=>?_) (λh1=>?_)
   ·exfalso;omega
   ·refine gA 10 O (i) ?_;refine gP 0 O (qQq (i:=i) O O O O O O O hi) ?_;refine gM 0 O (zXq O O O hw) ?_;refine gB 9 O (λh2=>?_) (λh2=>?_)
    ·refine gUe 5 O (yaq O O O O (ywq O O O O O O _ _ 250)) zZq ?_;refine gS 3 O (λh3=>?_) (λh3=>?_)
     ·exfalso;exact hk h3
     ·refine zbq 19 O ?_
      (first|refine yqq O O O O O O (yvq k' d 0 hd hc') ?_|refine yqq O O O O O O (yvq k d 0 hd hc) ?_)
      refine yoq O O ?_;refine op_ix ?_;refine zpq 8 O ?_
      (first|refine yqq O O O O O O (yvq k' d 0 hd hc') ?_|refine yqq O O O O O O (yvq k d 0 hd hc) ?_)
      refine zpq 7 O ?_;refine gX 0 O ?_;refine gA 2 O (d+1) ?_;refine zbq 1 O ?_
      (refine yuq rfl (yHq 1 O O O O Xh Xd Yp O O sp ?_);rintro ns1 m ⟨⟨ms,rfl,hms⟩,hok1,hm⟩;refine⟨by first|rfl|kernel_rfl,?_⟩)
      refine ykq 7 O ?_;refine gX 0 O ?_;refine gC 7 O (xTq _ _) ?_
      (refine zLq rfl (yHq 5 O O O O Xh Xd Yo O O (kjq _ root _ Xw) ?_);rintro ns2 m2 ⟨rfl,rfl⟩)
      refine zpq 4 O ?_;have hm0:0<m:=by have:=hm.non;rw[ht] at this;simpa using this.symm
      exact kmq 8 6 Qs Xd Yh O O O O Qm
    ·exfalso;exact h2 rfl
  ·skip
   rw[if_neg Xd] at sp;refine gIs 13 O (λk0=>?_);refine gS 0 O (λh1=>?_) (λh1=>?_)
   ·exfalso;omega
   ·refine gA 10 O (i) ?_;refine gP 0 O (qQq (i:=i) O O O O O O O hi) ?_;refine gM 0 O (zXq O O O hw) ?_;refine gB 9 O (λh2=>?_) (λh2=>?_)
    ·refine gUe 5 O (yaq O O O O (ywq O O O O O O _ _ 250)) zZq ?_;refine gS 3 O (λh3=>?_) (λh3=>?_)
     ·exfalso;exact hk h3
     ·refine zbq 19 O ?_
      (first|refine yqq O O O O O O (yvq k' d 0 hd hc') ?_|refine yqq O O O O O O (yvq k d 1 hd hc) ?_)
      refine yoq O O ?_;refine op_ix ?_;refine zpq 8 O ?_
      (first|refine yqq O O O O O O (yvq k' d 0 hd hc') ?_|refine yqq O O O O O O (yvq k d 1 hd hc) ?_)
      refine zpq 7 O ?_;refine gX 0 O ?_;refine gA 2 O (d+1) ?_;refine zbq 1 O ?_
      (refine yuq rfl (yHq 1 O O O O Xh Xd Yp O O sp ?_);rintro ns1 m ⟨⟨ms,rfl,hms⟩,hok1,hm⟩;refine⟨by first|rfl|kernel_rfl,?_⟩)
      refine ykq 7 O ?_;refine gX 0 O ?_;refine gC 7 O (xTq _ _) ?_
      (refine zLq rfl (yHq 5 O O O O Xh Xd Yo O O (kjq _ root _ Xw) ?_);rintro ns2 m2 ⟨rfl,rfl⟩)
      refine zpq 4 O ?_;have hm0:0<m:=by have:=hm.non;rw[ht] at this;simpa using this.symm
      exact kmq 8 6 Qs Xd Yh O O O O Qp
    ·exfalso;exact h2 rfl
  ·skip
   rw[if_neg Xd] at sp;refine gIs 13 O (λk0=>?_);refine gS 0 O (λh1=>?_) (λh1=>?_)
   ·exfalso;omega
   ·refine gA 10 O (i) ?_;refine gP 0 O (qQq (i:=i) O O O O O O O hi) ?_;refine gM 0 O (zXq O O O hw) ?_;refine gB 9 O (λh2=>?_) (λh2=>?_)
    ·refine gUe 5 O (yaq O O O O (ywq O O O O O O _ _ 250)) zZq ?_;refine gS 3 O (λh3=>?_) (λh3=>?_)
     ·exfalso;exact hk h3
     ·refine zbq 19 O ?_
      (first|refine yqq O O O O O O (yvq k' d 1 hd hc') ?_|refine yqq O O O O O O (yvq k d 0 hd hc) ?_)
      refine yoq O O ?_;refine op_ix ?_;refine zpq 8 O ?_
      (first|refine yqq O O O O O O (yvq k' d 1 hd hc') ?_|refine yqq O O O O O O (yvq k d 0 hd hc) ?_)
      refine zpq 7 O ?_;refine gX 0 O ?_;refine gA 2 O (d+1) ?_;refine zbq 1 O ?_
      (refine yuq rfl (yHq 1 O O O O Xh Xd Yp O O sp ?_);rintro ns1 m ⟨⟨ms,rfl,hms⟩,hok1,hm⟩;refine⟨by first|rfl|kernel_rfl,?_⟩)
      refine ykq 7 O ?_;refine gX 0 O ?_;refine gC 7 O (xTq _ _) ?_
      (refine zLq rfl (yHq 5 O O O O Xh Xd Yo O O (kjq _ root _ Xw) ?_);rintro ns2 m2 ⟨rfl,rfl⟩)
      refine zpq 4 O ?_;have hm0:0<m:=by have:=hm.non;rw[ht] at this;simpa using this.symm
      exact kmq 8 6 Qs Xd Yh O O O O Qo
    ·exfalso;exact h2 rfl
  ·skip
   rw[if_pos (hc.trans hc'.symm)] at sp;refine gIs 13 O (λk0=>?_);refine gS 0 O (λh1=>?_) (λh1=>?_)
   ·exfalso;omega
   ·refine gA 10 O (i) ?_;refine gP 0 O (qQq (i:=i) O O O O O O O hi) ?_;refine gM 0 O (zXq O O O hw) ?_;refine gB 9 O (λh2=>?_) (λh2=>?_)
    ·refine gUe 5 O (yaq O O O O (ywq O O O O O O _ _ 250)) zZq ?_;refine gS 3 O (λh3=>?_) (λh3=>?_)
     ·exfalso;exact hk h3
     ·refine zbq 19 O ?_
      (first|refine yqq O O O O O O (yvq k' d 1 hd hc') ?_|refine yqq O O O O O O (yvq k d 1 hd hc) ?_)
      refine yoq O O ?_;refine op_ix ?_;refine zpq 8 O ?_
      (first|refine yqq O O O O O O (yvq k' d 1 hd hc') ?_|refine yqq O O O O O O (yvq k d 1 hd hc) ?_)
      refine zpq 7 O ?_;refine gX 0 O ?_;refine gA 2 O (d+1) ?_;refine zbq 1 O ?_
      (refine yuq rfl (yHq 1 O O O O Xh Xd Yp O O sp ?_);rintro ns1 m ⟨⟨ms,rfl,hms⟩,hok1,hm⟩;refine⟨by first|rfl|kernel_rfl,?_⟩)
      refine ykq 7 O ?_;refine gX 0 O ?_;refine gC 7 O (xTq _ _) ?_
      (refine zLq rfl (yHq 5 O O O O Xh Xd Yo O O (kjq _ root _ Xw) ?_);rintro ns2 m2 ⟨rfl,rfl⟩)
      refine zpq 4 O ?_;have hm0:0<m:=by have:=hm.non;rw[ht] at this;simpa using this.symm
      exact kmq 8 6 Qs Xd Yh O O O O Qn
    ·exfalso;exact h2 rfl
theorem fork_one{ns:List Node}{i l r:Nat}{k':Dig}{v':List UInt8}(hx:ns[i]? =some ⟨false,k',v',l,r⟩)(hok:okN ns):k'=yyq/\v'=[]/\l<=i/\r<=i/\0<l+r:=by
 have h:=hok i _ hx;simp only[oneB,Bool.false_eq_true,if_false] at h;obtain⟨⟨_,a2⟩,⟨_,b2⟩,h1,h2,h3⟩:=h;exact⟨h1,h2,by omega,by omega,by omega⟩
theorem fork_all{ns:List Node}{i l r:Nat}{k':Dig}{v':List UInt8}(hx:ns[i]? =some ⟨false,k',v',l,r⟩)(hok:okN ns):zVq 50 (nsW ns) (0+i*36) 36 true=some (nW ⟨false,k',v',l,r⟩):=by
 obtain⟨w,hw,rfl|⟨h1,rfl⟩⟩:=Qpq ns hx
 ·exact hw
 ·obtain⟨_,_,h2,h3,h4⟩:=fork_one hx hok;have hi:=(List.getElem?_eq_some_iff.1 hx).1;omega
theorem with_fork{root:Int}{k k':Dig}{v v':List UInt8}{ns:List Node}{i d f l r:Nat}{L R t':T}(hx:ns[i]? =some ⟨false,k',v',l,r⟩)(hok:okN ns)(hL:Rep ns l L)(hR:Rep ns r R)(hd:d<256)(hl:ns.length+f+1<=1000000000)(ht:t'.non=true)
  (sp:QVq G root k v ns (if bitN k d=0 then l else r) (d+1) (Gr ns f t')):QVq G root k v ns (i+1) d (Gr ns (f+1) (if bitN k d=0 then .fork t' R else .fork L t')):=by
 intro R';have hi:=(List.getElem?_eq_some_iff.1 hx).1;have b1:=qUq k d;have hc:bitN k d=0\/bitN k d=1:=by omega
 have hw:=fork_all hx hok;rcases hc with hc|hc
 ·skip
  rw[if_pos hc] at sp;refine gIs 13 O (λk0=>?_);refine gS 0 O (λh1=>?_) (λh1=>?_)
  ·exfalso;omega
  ·refine gA 10 O (i) ?_;refine gP 0 O (qQq (i:=i) O O O O O O O hi) ?_;refine gM 0 O (zXq O O O hw) ?_;refine gB 9 O (λh2=>?_) (λh2=>?_)
   ·exfalso;cases h2
   ·refine gC 27 O (jJq _) ?_;refine gC 8 O (yvq k d 0 hd hc) ?_;refine gX 7 O ?_;refine gA 2 O (d+1) ?_;refine zbq 1 O ?_
    (refine yuq rfl (yHq 1 O O O O Xh Xd Yp O O sp ?_);rintro ns1 m ⟨⟨ms,rfl,hms⟩,hok1,hm⟩;refine⟨by first|rfl|kernel_rfl,?_⟩)
    refine ykq 7 O ?_;refine gX 0 O ?_;refine gC 7 O (xTq _ _) ?_
    (refine zLq rfl (yHq 5 O O O O Xh Xd Yo O O (kjq _ root _ Xw) ?_);rintro ns2 m2 ⟨rfl,rfl⟩)
    refine zpq 4 O ?_;have hm0:0<m:=by have:=hm.non;rw[ht] at this;simpa using this.symm
    exact kmq 8 6 Qs Xd Yh O O O O (by rw[if_pos hc];exact kaq hms hok1 hm (hR.app _) Xd)
 ·skip
  rw[if_neg Xd] at sp;refine gIs 13 O (λk0=>?_);refine gS 0 O (λh1=>?_) (λh1=>?_)
  ·exfalso;omega
  ·refine gA 10 O (i) ?_;refine gP 0 O (qQq (i:=i) O O O O O O O hi) ?_;refine gM 0 O (zXq O O O hw) ?_;refine gB 9 O (λh2=>?_) (λh2=>?_)
   ·exfalso;cases h2
   ·refine gC 27 O (jJq _) ?_;refine gC 8 O (yvq k d 1 hd hc) ?_;refine gX 7 O ?_;refine gA 2 O (d+1) ?_;refine zbq 1 O ?_
    (refine yuq rfl (yHq 1 O O O O Xh Xd Yp O O sp ?_);rintro ns1 m ⟨⟨ms,rfl,hms⟩,hok1,hm⟩;refine⟨by first|rfl|kernel_rfl,?_⟩)
    refine ykq 7 O ?_;refine gX 0 O ?_;refine gC 7 O (xTq _ _) ?_
    (refine zLq rfl (yHq 5 O O O O Xh Xd Yo O O (kjq _ root _ Xw) ?_);rintro ns2 m2 ⟨rfl,rfl⟩)
    refine zpq 4 O ?_;have hm0:0<m:=by have:=hm.non;rw[ht] at this;simpa using this.symm
    exact kmq 8 6 Qs Xd Yh O O O O (by rw[if_neg Xd];exact kaq hms hok1 (hL.app _) hm Xd)
theorem with_s(root:Int)(k:Dig)(v:List UInt8)(hv:MayP [(k,v)]):∀(f:Nat) (t:T) (ns:List Node) (n d:Nat) (b:Dig),Rep ns n t->okN ns->t.ok d b=true->d+f=256->Zr d b->d<=zSq k b->ns.length+f+1<=1000000000->QVq G root k v ns n d (Gr ns (f+1) (T.put k v f t)):=by
 intro f;induction f with
 |zero=>
  intro t ns n d b hr hok ht hf hz hk hl;cases hr with
  |nil=>exact with_nil hok hv Xd Xd
  |leaf hx=>
   rename_i n k' v' l r;have h:=of_decide_eq_true ht;have:k'=k:=v0q λj hj=>by rw[(ysq Xd).1 h j Xd,(ysq Xd).1 hk j Xd]
   subst this;exact with_hit hx hok hv Xd Xd
  |fork hx _ _ hL hR=>
   obtain⟨hd,_⟩:=ok_fork.1 ht;omega
 |succ f ih=>
  intro t ns n d b hr hok ht hf hz hk hl;have hd:d<256:=by omega
  have ed:255-f=d:=by omega
  cases hr with
  |nil=>exact with_nil hok hv Xd Xd
  |leaf hx=>
   rename_i n k' v' l r;have h:=of_decide_eq_true ht;by_cases e:k'=k
   ·subst e;simp only[T.put,if_true];exact with_hit hx hok hv Xd Xd
   ·have b1:=qUq k' d;have b2:=qUq k d;have b3:=qUq b d
    have key:QVq G root k v ns (n+1) d (Gr ns (f+1+1) (if bitN k d=0 then .fork (T.put k v f (if bitN k d=bitN k' d then .leaf k' v' else .nil)) (if bitN k d=bitN k' d then .nil else .leaf k' v') else .fork (if bitN k d=bitN k' d then .nil else .leaf k' v') (T.put k v f (if bitN k d=bitN k' d then .leaf k' v' else .nil)))):=by
     refine with_leaf hx e hd Xd (Qdq k v f _) ?_;by_cases hb:bitN k d=0
     ·by_cases he:bitN k d=bitN k' d
      ·rw[if_pos he,if_pos he];exact ih _ ns _ (d+1) b (.leaf hx) hok (decide_eq_true (kDq hz hd h Xd)) Xd (qKq hz) (kDq hz hd hk hb) Xd
      ·rw[if_neg he,if_neg he];exact ih _ ns _ (d+1) b .nil hok rfl Xd (qKq hz) (kDq hz hd hk hb) Xd
     ·by_cases he:bitN k d=bitN k' d
      ·rw[if_pos he,if_pos he];exact ih _ ns _ (d+1) (qaq b d) (.leaf hx) hok (decide_eq_true (kCq hz hd h Xd)) Xd (qJq hz hd) (kCq hz hd hk hb) Xd
      ·rw[if_neg he,if_neg he];exact ih _ ns _ (d+1) (qaq b d) .nil hok rfl Xd (qJq hz hd) (kCq hz hd hk hb) Xd
    have ep:T.put k v (f+1) (.leaf k' v')=(if bitN k d=0 then .fork (T.put k v f (if bitN k d=bitN k' d then .leaf k' v' else .nil)) (if bitN k d=bitN k' d then .nil else .leaf k' v') else .fork (if bitN k d=bitN k' d then .nil else .leaf k' v') (T.put k v f (if bitN k d=bitN k' d then .leaf k' v' else .nil))):=by
     simp only[T.put,ed,if_neg e,T.roads];have c1:bitN k d=0\/bitN k d=1:=by omega
     have c2:bitN k' d=0\/bitN k' d=1:=by omega
     rcases c1 with c1|c1<;>rcases c2 with c2|c2<;>simp[c1,c2]
    rw[ep];exact key
  |fork hx h1 h2 hL hR=>
   rename_i n l r k' v' tl tr;obtain⟨_,k1,k2,_⟩:=ok_fork.1 ht
   have key:QVq G root k v ns (n+1) d (Gr ns (f+1+1) (if bitN k d=0 then .fork (T.put k v f (if bitN k d=0 then tl else tr)) tr else .fork tl (T.put k v f (if bitN k d=0 then tl else tr)))):=by
    refine with_fork hx hok hL hR hd Xd (Qdq k v f _) ?_;by_cases hb:bitN k d=0
    ·rw[if_pos hb,if_pos hb];exact ih _ ns _ (d+1) b hL hok k1 Xd (qKq hz) (kDq hz hd hk hb) Xd
    ·rw[if_neg hb,if_neg hb];exact ih _ ns _ (d+1) (qaq b d) hR hok k2 Xd (qJq hz hd) (kCq hz hd hk hb) Xd
   have ep:T.put k v (f+1) (.fork tl tr)=(if bitN k d=0 then .fork (T.put k v f (if bitN k d=0 then tl else tr)) tr else .fork tl (T.put k v f (if bitN k d=0 then tl else tr))):=by
    simp only[T.put,ed];by_cases hb:bitN k d=0
    ·simp only[if_pos hb]
    ·simp only[if_neg hb]
   rw[ep];exact key
noncomputable def MkO(root:Int)(ns:List Node)(S:Nat->Prop)(P:List Node->Nat->Prop):W->HpW->Nat->Prop:=λw hp nw=>
 (∃m,S m/\w= .int .i64 ((m:Nat):Int)/\hp=[(0,377,mkW 1 ns.length root),(1,230,nsW ns)]/\nw=2)\/Mk root P w hp nw
theorem Rep.zero{ns:List Node}{t:T}(h:Rep ns 0 t):t= .nil:=by cases h;rfl
theorem step_mkJ{o:Oper}{fr:FrW}{hp:HpW}{nw:Nat}{R:Res}{post:W->HpW->Nat->Res->Option EvW->Prop}{x:Operand}{xs:Array Operand}{ats:Array TypeId}{f:FuncId}{us:List W}{root:Int}{ns:List Node}{S:Nat->Prop}{P:List Node->Nat->Prop}(j k:Nat)
  (ho:o.op= .call ⟨.value x,xs,ats⟩) (hx:evW cfg G fr x=some (.fn f [] [])) (he:cfg.ext f=none) (hxs:evLW cfg G fr xs.toList=some (.ptr j 0::us)) (hpu:purL us=true) (hjk:j≠k) (hj:j<nw) (hkn:k<nw)
  (h0:hget hp j=some (377,mkW k ns.length root)) (h1:hget hp k=some (230,nsW ns)) (sp:qoq cfg G f 2 (.ptr 0 0::us) [(0,377,mkW 1 ns.length root),(1,230,nsW ns)] (MkO root ns S P))
  (hsame:∀m,S m->post (.int .i64 ((m:Nat):Int)) ((j,377,mkW k ns.length root)::(k,230,nsW ns)::delA [j,k] hp) nw R (some .dirty))
  (hpost:∀ns' m,P ns' m->post (.int .i64 ((m:Nat):Int)) ((j,377,mkW nw ns'.length root)::(nw,230,nsW ns')::delA [j,k] hp) (nw+1) R (some .dirty)):Step cfg G o fr hp nw R post:=by
 refine jcq (ext:=[j,k]) (ws:=.ptr 0 0::us) ho hx he hxs ?_ sp ?_ ?_ Xh (Qwq h0 (by rw[ztq (kNq _)];exact h1) rfl (zdq (kNq _))) ?_ ?_
 ·show .ptr j 0::(us++[])=W.ptr j 0::yNq (numC [j,k] nw) us;rw[khq hpu,List.append_nil]
 ·simp;omega
 ·intro b hb;simp only[List.mem_cons,List.not_mem_nil,or_false] at hb;omega
 ·have h:=zdq (m:=2) (w:=.tup us) hpu;have h:refL 2 us=true:=h;show(refB 2 (.ptr 0 0)&&refL 2 us)=true;rw[h];rfl
 ·rintro w hp1 nw1 (⟨m,h,rfl,rfl,rfl⟩|⟨ns',m,h,rfl,rfl,rfl⟩)
  ·have e:renH (numC [j,k] nw) [(0,377,mkW 1 ns.length root),(1,230,nsW ns)]=[(j,377,mkW k ns.length root),(k,230,nsW ns)]:=by
    simp only[renH,ztq (kNq _)];rfl
   have h:=hsame m h;rw[show([j,k]:List Nat).length=2 from rfl,e];exact h
  ·have e:renH (numC [j,k] nw) [(0,377,mkW 2 ns'.length root),(2,230,nsW ns')]=[(j,377,mkW nw ns'.length root),(nw,230,nsW ns')]:=by
    simp only[renH,ztq (kNq _)];rfl
   have h:=hpost ns' m h;rw[show([j,k]:List Nat).length=2 from rfl,e];exact h
theorem mkO_of{f:FuncId}{ws:List W}{hp:HpW}{root:Int}{ns:List Node}{P:List Node->Nat->Prop}(h:qoq cfg G f 2 ws hp (Mk root P)):qoq cfg G f 2 ws hp (MkO root ns (λ_=>False) P):=kiq h λ_ _ _ h=>.inr h
noncomputable def nilM(root:Int):W:=.agg 2 [.nils,.int .i64 root]
noncomputable def Mk0(root:Int)(P:List Node->Nat->Prop):W->HpW->Nat->Prop:=λw hp nw=>
 ∃ns m,P ns m/\w= .int .i64 ((m:Nat):Int)/\hp=[(0,377,mkW 1 ns.length root),(1,230,nsW ns)]/\nw=2
theorem step_mk0{o:Oper}{fr:FrW}{hp:HpW}{nw:Nat}{R:Res}{post:W->HpW->Nat->Res->Option EvW->Prop}{x:Operand}{xs:Array Operand}{ats:Array TypeId}{f:FuncId}{us:List W}{root:Int}{P:List Node->Nat->Prop}(j:Nat)
  (ho:o.op= .call ⟨.value x,xs,ats⟩) (hx:evW cfg G fr x=some (.fn f [] [])) (he:cfg.ext f=none) (hxs:evLW cfg G fr xs.toList=some (.ptr j 0::us)) (hpu:purL us=true) (hj:j<nw)
  (h0:hget hp j=some (377,nilM root)) (sp:qoq cfg G f 1 (.ptr 0 0::us) [(0,377,nilM root)] (Mk0 root P))
  (hpost:∀ns' m,P ns' m->post (.int .i64 ((m:Nat):Int)) ((j,377,mkW nw ns'.length root)::(nw,230,nsW ns')::delA [j] hp) (nw+1) R (some .dirty)):Step cfg G o fr hp nw R post:=by
 refine jcq (ext:=[j]) (ws:=.ptr 0 0::us) ho hx he hxs ?_ sp Xh ?_ Xh (handed1 h0 rfl) ?_ ?_
 ·show .ptr j 0::(us++[])=W.ptr j 0::yNq (numC [j] nw) us;rw[khq hpu,List.append_nil]
 ·intro b hb;simp only[List.mem_cons,List.not_mem_nil,or_false] at hb;omega
 ·have h:=zdq (m:=1) (w:=.tup us) hpu;have h:refL 1 us=true:=h;show(refB 1 (.ptr 0 0)&&refL 1 us)=true;rw[h];rfl
 ·rintro w hp1 nw1 ⟨ns',m,h,rfl,rfl,rfl⟩
  have e:renH (numC [j] nw) [(0,377,mkW 1 ns'.length root),(1,230,nsW ns')]=[(j,377,mkW nw ns'.length root),(nw,230,nsW ns')]:=by
   simp only[renH,ztq (kNq _)];rfl
  have h:=hpost ns' m h;rw[show([j]:List Nat).length=1 from rfl,e];exact h
theorem fin_mk0{k0:Nat}{rs:List ResultVar}{x:Exit}{fr:FrW}{hp:HpW}{nw:Nat}{R:Res}{root:Int}{P:List Node->Nat->Prop}{ns:List Node}{m:Nat}(s k:Nat)(hx:x= .normal\/x= .ret)(hk:1<=k)(hkn:k<nw)(hf:getW fr s=some (.int .i64 ((m:Nat):Int)))
  (h0:hget hp (tau1 1 k 0)=some (377,renW (tau1 1 k) (mkW 1 ns.length root))) (h1:hget hp (tau1 1 k 1)=some (230,nsW ns)) (ho:outW cfg [(s,.int .i64 ((m:Nat):Int))] [(0,377,mkW 1 ns.length root),(1,230,nsW ns)] rs=some (.int .i64 ((m:Nat):Int))) (hP:P ns m):
  QFin cfg G 1 k0 rs (λw hp nw R'=>R'=R/\Mk0 root P w hp nw) x fr hp nw R:=
 fin hx (yKq (b:=1) (k:=k) (fr2:=[(s,.int .i64 ((m:Nat):Int))]) (hp2:=[(0,377,mkW 1 ns.length root),(1,230,nsW ns)]) Xd hk hkn ⟨⟨hf,rfl⟩,trivial⟩ ⟨⟨by omega,h0,rfl⟩,⟨by omega,by rw[ztq (kNq _)];exact h1,zdq (kNq _)⟩,trivial⟩ Xh) ho ⟨rfl,ns,m,hP,rfl,rfl,rfl⟩
theorem node_0(root:Int)(x:Node):qoq cfg G 312 1 [.ptr 0 0,nW x] [(0,377,nilM root)] (Mk0 root λns m=>ns=[x]/\m=1):=by
 intro R;refine gIs 16 O (λk0=>?_);exact gM 0 O (z6q O O (k0q (news:=[nW x]) (k:=ti230) O O O O (yzq O O O O) Xh (by show 1*ti230.bytes<=_;decide) (by show 1<=_;decide))) (gL 13 O (zbq 4 O (fin_mk0 (ns:=[x]) (m:=1) 4 3 Qs Xd (by show 3<4;omega) O O O O ⟨rfl,rfl⟩)))
theorem with_0{root:Int}{k:Dig}{v:List UInt8}{d:Int}:qoq cfg G 264 1 [.ptr 0 0,.int .i64 ((0:Nat):Int),.int .i64 d,nW ⟨true,k,v,0,0⟩] [(0,377,nilM root)] (Mk0 root λns m=>ns=[⟨true,k,v,0,0⟩]/\m=1):=by
 intro R;refine gIs 13 O (λk0=>?_);refine gS 0 O (λh1=>?_) (λh1=>?_)
 ·refine zbq 4 O ?_
  (refine zLq rfl (step_mk0 0 O O O O Xh (by show 0<2;omega) rfl (node_0 root _) ?_);rintro ns1 m ⟨rfl,rfl⟩)
  exact zpq 5 O (fin_mk0 (ns:=[⟨true,k,v,0,0⟩]) (m:=1) 8 2 Qs Xd (by show 2<3;omega) O O O O ⟨rfl,rfl⟩)
 ·exfalso;omega
def Ext(t t':Tree):Prop:=∃ms,t'.nodes=t.nodes++ms/\ms.length<=257
def PutA(t:Tree)(t0:T):W->Prop:=λw=>∃t' n,IsT t' n t0/\Ext t t'/\w= .tup [tW t',.int .i64 0]
theorem view_mk{hp:HpW}{b:Nat}{ns:List Node}{root:Int}(h:hget hp b=some (230,nsW ns)):View (blkA hp) (mkW b ns.length root) (tW ⟨ns,root⟩):=
 .agg (.cons (.sl (c:=nsW ns) (by unfold blkA;rw[h]) (kNq ns) (zkq Xl (List.length_map _).symm rfl) Xi) (.cons (.pur rfl) .nil))
theorem ist_put{ns ns':List Node}{n m:Nat}{t0:T}{k:Dig}{v:List UInt8}(h:IsT ⟨ns,(n:Int)⟩ n t0)(hl:ns.length<=261844)(hg:Gr ns 257 (t0.put k v 256) ns' m):IsT ⟨ns',(m:Int)⟩ m (t0.put k v 256):=by
 obtain⟨⟨ms,rfl,hms⟩,hok,hr⟩:=hg;exact⟨by simp only[List.length_append];omega,hok,rfl,hr,(jtq k v 256 t0 (d:=0) (b:=yyq) rfl k7q h.ok (Nat.zero_le _)).1⟩
theorem tput_s(t:Tree)(n:Nat)(t0:T)(k:Dig)(v:List UInt8)(f:Bool)(h:IsT t n t0)(hv:MayP [(k,v)])(hl:t.nodes.length<=261844):PE cfg G 194 [tW t,dW k,.fz (zaq v) 1 f] (PutA t (t0.put k v 256)):=by
 have hy:=h.may;have hr:=h.root;obtain⟨ns,root⟩:=t;simp only at hr hl;subst hr
 have hvl:v.length<=70368744177664:=by
  have h2:=(hv.2 0 Xh (k,v) rfl).1;simp only[valB,Bool.and_eq_true,decide_eq_true_eq] at h2;omega
 have e:(ns.map nW).length=ns.length:=List.length_map _
 have hvals:∀x∈ns,x.val.length<=70368744177664:=λx hx=>by
  obtain⟨i,hi⟩:=List.getElem?_of_mem hx;have h1:=h.okn i x hi;obtain⟨lf,k',v',l,r⟩:=x;cases lf with
  |true=>have:=(Zsq h.okn hi).2;simp only;omega
  |false=>simp only[oneB,Bool.false_eq_true,if_false] at h1;simp only;rw[h1.2.2.2.1];simp
 refine gIe 12 O (λR k0=>gC 0 O (vqq _ _ (by first|assumption|(simp;omega))) (gC 10 O (zWq (w':=.int .i64 0) (j1q ⟨ns,(n:Int)⟩ Qj) (by rw[if_pos hy])) ?_));refine gD 0 O (λh1=>?_) (λh1=>?_)
 ·exfalso;exact h1 rfl
 ·refine gC 2 O (zWq (w':=.bool true) (one_s ⟨true,k,v,0,0⟩ 0 Xd) (by rw[decide_eq_true (leaf_one hv 0)])) (gV (w':=.int .i64 (ns.length:Int)) 10 O Xu (gU 0 O ?_));refine gS 3 O (λh2=>?_) (λh2=>?_)
  ·exfalso;omega
  ·refine zbq 6 O ?_;skip
   skip
   refine gSo 0 O (kyq O O O O O (by simp[Qoq]) (twin_s ns (n:Int) Xd hvals) ?_);rintro w hp1 nw1 (⟨hn,rfl,rfl,rfl⟩|⟨rfl,rfl,rfl⟩)
   ·subst hn;obtain rfl:n=0:=by have:=h.rep.le;simpa using this
    skip
    refine zbq 15 O ?_
    (refine yuq rfl (step_mk0 6 O O O O (by simp[renW]) Yh rfl (with_0 (k:=k) (v:=v)) ?_);rintro ns1 m ⟨rfl,rfl⟩;refine⟨by first|rfl|kernel_rfl,?_⟩)
    refine ykq 17 O ?_;obtain rfl:=h.rep.zero;refine z9q (w':=.tup [tW ⟨[⟨true,k,v,0,0⟩],((1:Nat):Int)⟩,.int .i64 0]) Qs rfl (.tup (.cons (view_mk (b:=7) (ns:=[⟨true,k,v,0,0⟩]) (root:=((1:Nat):Int)) rfl) (.cons (.pur rfl) .nil))) Xh ⟨_,1,?_,⟨[⟨true,k,v,0,0⟩],rfl,by simp⟩,rfl⟩;refine ist_put (n:=0) h Xh ?_;rw[show T.put k v 256 .nil= .leaf k v from by simp[T.put]];exact Qxq (ns:=[]) h.okn hv Xd
   ·skip
    refine zbq 15 O ?_
    (refine yuq rfl (step_mkJ 7 6 O O O O (by simp[renW]) Xd (by show 7<8;omega) (by show 6<8;omega) rfl (by show some (230,renW _ (nsW ns))=_;rw[ztq (kNq ns)]) (mkO_of (with_s (n:Int) k v hv 256 t0 ns n 0 yyq h.rep h.okn h.ok rfl k7q (Nat.zero_le _) Xd)) ?_ ?_);exact λm hm=>hm.elim;rintro ns1 m hg;refine⟨by first|rfl|kernel_rfl,?_⟩)
    exact ykq 17 O (z9q (w':=.tup [tW ⟨ns1,(m:Int)⟩,.int .i64 0]) Qs rfl (.tup (.cons (view_mk (b:=8) (ns:=ns1) (root:=(m:Int)) rfl) (.cons (.pur rfl) .nil))) Xh ⟨_,m,ist_put h hl hg,hg.1,rfl⟩)
noncomputable def setL(l:List Pr)(k:Dig)(a:Acct):List Pr:=if a= .zero then withoutL l k else k8q l k (bytesA a)
def GreatB(t:Tree)(m:Nat):Prop:=m<t.nodes.length\/∃i x,i<=m/\t.nodes[i]? =some x/\100<x.val.length
noncomputable instance(t:Tree)(m:Nat):Decidable (GreatB t m):=Classical.propDecidable _
theorem cv_str{C:Cfg}{G:Nat->Option W}{fr:FrW}{hp:HpW}{nw:Nat}{s t e:TypeId}{x:Operand}{js jt:TyI}{l:List UInt8}{f:Bool}(hs:C.ty s=some js)(ht:C.ty t=some jt)(hx:evW C G fr x=some (.fz (zaq l) 1 f))(hjs:js.d= .slice e)(hjt:jt.d= .str)(he:ZOq C e=some (.int .u8)):opHW C G fr hp nw (.convert s t x)=some (.str l,hp,nw,.gen):=by
 simp only[opHW,hConv,hs,ht,hx,hjs,hjt,he,bytesOf_W]
theorem same_s(a b:List UInt8)(f g:Bool):PS cfg G 191 [.fz (zaq a) 1 f,.fz (zaq b) 1 g] (.bool (decide (a=b))):=by
 exact gI 8 O (λR k0=>gM 0 O (cv_str O O O O O O) (gM 1 O (cv_str O O O O O O) (gV (w':=.bool (decide (a=b))) 0 O (congrArg W.bool (kpq a b)) (gQa 4 O))))
theorem twinp_s(t:Tree)(hl:t.nodes.length<=1000000000)(hv:∀x∈t.nodes,x.val.length<=70368744177664):PS cfg G 62 [tW t] (tW t):=λR=>
 uwq (kiq (twin_s t.nodes t.root hl hv) (Q:=λw hp _=>View (blkA hp) w (tW t)) (λw hp nw h=>by
  rcases h with ⟨hn,rfl,rfl,rfl⟩|⟨rfl,rfl,rfl⟩
  ·refine .agg (.cons ?_ (.cons (.pur rfl) .nil));rw[hn];exact .nilfz
  ·exact view_mk (b:=2) (ns:=t.nodes) (root:=t.root) rfl) R)
structure Depo where
 number:Nat
 to:Dig
 amount:Nat
noncomputable def pdW(d:Depo):W:=.agg 34 [.int .u64 (d.number:Int),dW d.to,.int .u64 (d.amount:Int)]
@[simp] theorem pdW_pur(d:Depo):purW (pdW d)=true:=by simp[pdW]
def overB(t0:T)(d:Depo):Prop:=18446744073709551616<=(acctOf t0 d.to).balance+d.amount
instance(t0:T)(d:Depo):Decidable (overB t0 d):=inferInstanceAs (Decidable (_<=_))
end
noncomputable def rotN(x n:Nat):Nat:=Nat.lor (Nat.shiftLeft x (32-n)%4294967296%4294967296) (Nat.shiftRight x n%4294967296)
noncomputable def addN(a b:Nat):Nat:=(a+b)%4294967296
noncomputable def xorN(a b:Nat):Nat:=Nat.xor (a%4294967296) (b%4294967296)
noncomputable def andN(a b:Nat):Nat:=Nat.land (a%4294967296) (b%4294967296)
noncomputable def shrN(a k:Nat):Nat:=Nat.shiftRight a (min k 32)
noncomputable def shlN(a k:Nat):Nat:=Nat.shiftLeft a (min k 32)%4294967296
noncomputable def orN(a b:Nat):Nat:=Nat.lor (a%4294967296) (b%4294967296)
noncomputable def notN(a:Nat):Nat:=Nat.xor (4294967295%4294967296) (a%4294967296)
noncomputable def wd(x:Nat):W:=.int .u32 (.ofNat x)
theorem q6q(n:Nat)(hn:n=2\/n=6\/n=7\/n=11\/n=13\/n=17\/n=18\/n=19\/n=22\/n=25)(G:Nat->Option W)(x:Nat):PS cfg G 273 [wd x,.int .i64 (.ofNat n)] (wd (rotN x n)):=by
 have key:∀h,qfq cfg 20 273 [.int .u32 (.ofNat x),.int .i64 (.ofNat n)] h=some (.int .u32 (.ofNat (rotN x n)),h):=by
  intro h;rcases hn with rfl|rfl|rfl|rfl|rfl|rfl|rfl|rfl|rfl|rfl<;>kernel_rfl
 refine kiq (spec_run key (λΓ us h=>?_) (λΓ=>RV_int.2 rfl)) λw hp nw h=>h.1
 obtain⟨v,vs,rfl,h1,h2⟩:=RVL_cons.1 h;obtain⟨v',vs',rfl,h3,h4⟩:=RVL_cons.1 h2;rw[RVL_nil.1 h4,RV_int.1 h1,RV_int.1 h3]
section
attribute [local irreducible] CoW OpW FlW Step Spec
noncomputable def wordN(b0 b1 b2 b3:Nat):Nat:=orN (orN (orN (shlN (b0%4294967296) 24) (shlN (b1%4294967296) 16)) (shlN (b2%4294967296) 8)) (b3%4294967296)
noncomputable def kPq(bs:Nat->Nat)(l:List Nat):Nat:=match Nat.blt l.length 16 with
 |true=>wordN (bs (4*l.length)) (bs (4*l.length+1)) (bs (4*l.length+2)) (bs (4*l.length+3))
 |false=>addN (addN (addN (l.getD (l.length-16) 0) (xorN (xorN (rotN (l.getD (l.length-15) 0) 7) (rotN (l.getD (l.length-15) 0) 18)) (shrN (l.getD (l.length-15) 0) 3))) (l.getD (l.length-7) 0)) (xorN (xorN (rotN (l.getD (l.length-2) 0) 17) (rotN (l.getD (l.length-2) 0) 19)) (shrN (l.getD (l.length-2) 0) 10))
noncomputable def z7q(bs:Nat->Nat):Nat->List Nat
 |0=>[]
 |t+1=>z7q bs t++[kPq bs (z7q bs t)]
theorem xdq(bs:Nat->Nat):∀t,(z7q bs t).length=t
 |0=>rfl
 |t+1=>by simp[z7q,xdq bs t]
theorem vgq{l:List Nat}{i:Nat}(h:i<l.length):(l.map wd)[i]? =some (wd (l.getD i 0)):=by
 simp[List.getElem?_map,List.getElem?_eq_getElem h,List.getD]
noncomputable def kW:List Nat:=[1116352408,1899447441,3049323471,3921009573,961987163,1508970993,2453635748,2870763221,3624381080,310598401,607225278,1426881987,1925078388,2162078206,2614888103,3248222580,3835390401,4022224774,264347078,604807628,770255983,1249150122,1555081692,1996064986,2554220882,2821834349,2952996808,3210313671,3336571891,3584528711,113926993,338241895,666307205,773529912,1294757372,1396182291,1695183700,1986661051,2177026350,2456956037,2730485921,2820302411,3259730800,3345764771,3516065817,3600352804,4094571909,275423344,430227734,506948616,659060556,883997877,958139571,1322822218,1537002063,1747873779,1955562222,2024104815,2227730452,2361852424,2428436474,2756734187,3204031479,3329325298]
noncomputable def glK:Nat->Option W:=λg=>match g with
 |0=>some (.arr 64 1 (kW.map wd))
 |_=>none
noncomputable def pad0(l:List Nat)(n:Nat):List Nat:=l++List.replicate (n-l.length) 0
theorem pad0_at{l:List Nat}{n i:Nat}(h:i<l.length):((pad0 l n).map wd)[i]? =some (wd (l.getD i 0)):=by
 have:i<(pad0 l n).length:=by simp[pad0];omega
 rw[vgq this];simp[pad0,List.getD,List.getElem?_append,h]
theorem pad0_ge{l:List Nat}{n:Nat}(h:l.length<n):((pad0 l n).map wd)[l.length]? =some (wd 0):=by
 have:l.length<(pad0 l n).length:=by simp[pad0];omega
 rw[vgq this];simp[pad0,List.getD,List.getElem?_append,List.getElem?_replicate,show 0<n-l.length by omega]
theorem pad0_set{l:List Nat}{n x:Nat}(h:l.length<n):((pad0 l n).map wd).set l.length (wd x)=(pad0 (l++[x]) n).map wd:=by
 rw[<-List.map_set];congr 1
 unfold pad0;rw[List.set_append_right _ _ (Nat.le_refl _)];have:n-l.length=(n-(l++[x]).length)+1:=by simp;omega
 rw[this,Nat.sub_self,List.replicate_succ,List.set_cons_zero,List.append_assoc];rfl
structure S8 where
 (a b c d e f g h:Nat)
noncomputable def S8.l(s:S8):List W:=[wd s.a,wd s.b,wd s.c,wd s.d,wd s.e,wd s.f,wd s.g,wd s.h]
noncomputable def roundN(k w:Nat)(v:S8):S8:=
 let one:=addN (addN (addN (addN v.h (xorN (xorN (rotN v.e 6) (rotN v.e 11)) (rotN v.e 25))) (xorN (andN v.e v.f) (andN (notN v.e) v.g))) k) w
 let two:=addN (xorN (xorN (rotN v.a 2) (rotN v.a 13)) (rotN v.a 22)) (xorN (xorN (andN v.a v.b) (andN v.a v.c)) (andN v.b v.c))
 ⟨addN one two,v.a,v.b,v.c,addN v.d one,v.e,v.f,v.g⟩
noncomputable def k3q(ws:List Nat)(s:S8):Nat->S8
 |0=>s
 |t+1=>roundN (kW.getD t 0) (ws.getD t 0) (k3q ws s t)
noncomputable def add8(s v:S8):S8:=⟨addN s.a v.a,addN s.b v.b,addN s.c v.c,addN s.d v.d,addN s.e v.e,addN s.f v.f,addN s.g v.g,addN s.h v.h⟩
noncomputable def qYq(bs:Nat->Nat)(s:S8):S8:=add8 s (k3q (z7q bs 64) s 64)
theorem kW_len:kW.length=64:=rfl
noncomputable def S8.get(s:S8):Nat->Nat
 |0=>s.a
 |1=>s.b
 |2=>s.c
 |3=>s.d
 |4=>s.e
 |5=>s.f
 |6=>s.g
 |_=>s.h
noncomputable def mix8(s v:S8)(i:Nat):List W:=(add8 s v).l.take i++s.l.drop i
theorem lt8{i:Nat}(h:i<8):i=0\/i=1\/i=2\/i=3\/i=4\/i=5\/i=6\/i=7:=by omega
theorem S8_at(s:S8){k:Nat}(h:k<8):s.l[0+k*1]? =some (wd (s.get k)):=by rcases lt8 h with rfl|rfl|rfl|rfl|rfl|rfl|rfl|rfl<;>rfl
theorem mix_at(s v:S8){k:Nat}(h:k<8):(mix8 s v k)[0+k*1]? =some (wd (s.get k)):=by rcases lt8 h with rfl|rfl|rfl|rfl|rfl|rfl|rfl|rfl<;>rfl
theorem mix_set(s v:S8){k:Nat}(h:k<8):(mix8 s v k).set (0+k*1) (wd (addN (s.get k) (v.get k)))=mix8 s v (k+1):=by rcases lt8 h with rfl|rfl|rfl|rfl|rfl|rfl|rfl|rfl<;>rfl
theorem block_s(s:S8)(bs:Nat->Nat)(c:W)(base off:Nat)(lim:Option Nat)(ty:TypeId)(hc:refB 2 c=true)(hby:∀i,i<64->zVq 50 c (off+i*1) 1 false=some (.int .u8 (.ofNat (bs i))))(R:Res):
  Spec cfg glK 209 2 [.ptr 0 0,.sl 1 base off 64 1 lim] [(0,327,.arr 8 1 s.l),(1,ty,c)] R λw hp nw R'=>R'=R/\w= .tup []/\hp=[(0,327,.arr 8 1 (qYq bs s).l),(1,ty,c)]/\nw=2:=by
 refine gIs 12 O (λk0=>?_);refine yLq (α:=Nat) (λt=>t<=64) (λt=>[(19,.int .i64 (t:Int))]) [(0,_),(1,_),(4,_)] (λt=>[(2,388,.arr 64 1 ((pad0 (z7q bs t) 64).map wd)),(0,327,.arr 8 1 s.l),(1,ty,c)]) (λt=>64-t) (0) ⟨rfl,rfl,rfl,trivial⟩ (Nat.zero_le _) ⟨rfl,trivial⟩ (rfl) (λt hI=>?_);have hl:=xdq bs t;refine zKq 6 O ?_;refine gS 0 O (λh1=>?_) (λh1=>?_)
 ·have ht1:t<64:=by omega
  have h0:((pad0 (z7q bs t) 64).map wd)[0+t*1]? =some (wd 0):=by
   have:=pad0_ge (l:=z7q bs t) (n:=64) Xd;rw[hl] at this;simpa using this
  have key:∀x,kPq bs (z7q bs t)=x->((pad0 (z7q bs t) 64).map wd).set (0+t*1) (wd x)=(pad0 (z7q bs (t+1)) 64).map wd:=λx hx=>by
   have:=pad0_set (l:=z7q bs t) (n:=64) (x:=x) Xd;rw[hl] at this;rw[Nat.zero_add,Nat.mul_one,this,z7q,hx]
  refine gS 17 O (λh2=>?_) (λh2=>?_)
  ·have ht2:t<16:=by omega
   have hb:kPq bs (z7q bs t)=wordN (bs (4*t)) (bs (4*t+1)) (bs (4*t+2)) (bs (4*t+3)):=by
    unfold kPq;rw[hl,show Nat.blt t 16=true by simpa[Nat.blt_eq] using ht2]
   refine gA 5 O (4*t) ?_;refine gP 0 O (qQq (i:=4*t) O O O O O O O Xd) ?_;refine gM 0 O (zXq O O O (hby _ Xd)) ?_;refine gA 4 O (4*t) ?_;refine gA 0 O (4*t+1) ?_;refine gP 0 O (qQq (i:=4*t+1) O O O O O O O Xd) ?_;refine gM 0 O (zXq O O O (hby _ Xd)) ?_;refine gA 5 O (4*t) ?_;refine gA 0 O (4*t+2) ?_;refine gP 0 O (qQq (i:=4*t+2) O O O O O O O Xd) ?_;refine gM 0 O (zXq O O O (hby _ Xd)) ?_;refine gA 5 O (4*t) ?_;refine gA 0 O (4*t+3) ?_;refine gP 0 O (qQq (i:=4*t+3) O O O O O O O Xd) ?_;refine gM 0 O (zXq O O O (hby _ Xd)) ?_;refine gX 2 O ?_;refine gM 0 O (qpq O O O O O (y2q h0 O O) (congrArg (λL=>[(2,388,W.arr 64 1 L),(0,327,.arr 8 1 s.l),(1,ty,c)]) (key _ hb))) ?_;refine gWr 7 O ?_;refine zbq 2 O ?_;exact y1q (t+1) (ht1) Xd ⟨rfl,trivial⟩ ⟨rfl,rfl,rfl,trivial⟩ rfl
  ·have ht2:¬t<16:=by omega
   have hA:∀k,k<t->((pad0 (z7q bs t) 64).map wd)[0+k*1]? =some (wd ((z7q bs t).getD k 0)):=λk hk=>by
    rw[Nat.zero_add,Nat.mul_one];exact pad0_at Xd
   have hb:kPq bs (z7q bs t)=addN (addN (addN ((z7q bs t).getD (t-16) 0) (xorN (xorN (rotN ((z7q bs t).getD (t-15) 0) 7) (rotN ((z7q bs t).getD (t-15) 0) 18)) (shrN ((z7q bs t).getD (t-15) 0) 3))) ((z7q bs t).getD (t-7) 0)) (xorN (xorN (rotN ((z7q bs t).getD (t-2) 0) 17) (rotN ((z7q bs t).getD (t-2) 0) 19)) (shrN ((z7q bs t).getD (t-2) 0) 10)):=by
    unfold kPq;rw[show Nat.blt (z7q bs t).length 16=false by rw[hl];exact Bool.eq_false_iff.2 λq=>ht2 (by simpa[Nat.blt_eq] using q)];simp only[hl]
   refine gA 5 O (t-15) ?_;refine gX 0 O ?_;refine gM 0 O (zXq O O O (yrq (hA _ Xd) rfl)) ?_;refine gA 1 O (t-2) ?_;refine gX 0 O ?_;refine gM 0 O (zXq O O O (yrq (hA _ Xd) rfl)) ?_;refine gA 7 O (t-16) ?_;refine gX 0 O ?_;refine gM 0 O (zXq O O O (yrq (hA _ Xd) rfl)) ?_;refine gC 1 O (q6q _ Xl _ _) ?_;refine gC 1 O (q6q _ Xl _ _) ?_;refine gA 6 O (t-7) ?_;refine gX 0 O ?_;refine gM 0 O (zXq O O O (yrq (hA _ Xd) rfl)) ?_;refine gC 2 O (q6q _ Xl _ _) ?_;refine gC 1 O (q6q _ Xl _ _) ?_;refine gX 5 O ?_;refine gM 0 O (qpq O O O O O (y2q h0 O O) (congrArg (λL=>[(2,388,W.arr 64 1 L),(0,327,.arr 8 1 s.l),(1,ty,c)]) (key _ hb))) ?_;refine gWr 4 O ?_;refine zbq 2 O ?_;exact y1q (t+1) (ht1) Xd ⟨rfl,trivial⟩ ⟨rfl,rfl,rfl,trivial⟩ rfl
 ·obtain rfl:t=64:=by omega
  rw[show pad0 (z7q bs 64) 64=z7q bs 64 by unfold pad0;rw[hl];simp];refine zbq 2 O ?_;refine qbq Xi ?_;refine z0q 18 O ?_;refine yLq (α:=Nat) (λt=>t<=64) (λt=>[(100,.int .i64 (t:Int))]) [(0,_),(4,_),(8,_)] (λt=>[(3,327,.arr 8 1 (k3q (z7q bs 64) s t).l),(2,388,.arr 64 1 ((z7q bs 64).map wd)),(0,327,.arr 8 1 s.l),(1,ty,c)]) (λt=>64-t) (0) ⟨rfl,rfl,rfl,trivial⟩ (Nat.zero_le _) ⟨rfl,trivial⟩ (rfl) (λt hI=>?_);refine zKq 6 O ?_;refine gS 0 O (λh2=>?_) (λh2=>?_)
  ·have ht1:t<64:=by omega
   have hK:zVq 50 (.arr 64 1 (kW.map wd)) (t*1) 1 false=some (wd (kW.getD t 0)):=yrq (by rw[Nat.mul_one];exact vgq (by rw[kW_len];exact ht1)) rfl;have hW:zVq 50 (.arr 64 1 ((z7q bs 64).map wd)) (0+t*1) 1 false=some (wd ((z7q bs 64).getD t 0)):=yrq (by rw[Nat.zero_add,Nat.mul_one];exact vgq Xd) rfl;refine gC 37 O (q6q _ Xl _ _) ?_;refine gC 1 O (q6q _ Xl _ _) ?_;refine gC 2 O (q6q _ Xl _ _) ?_;refine gP 12 O (ix_fel (i:=t) O O O O O O Xd rfl hK) ?_;refine gP 3 O (yBq (i:=t) O O O O O O Xd) ?_;refine gM 0 O (zXq O O O hW) ?_;refine gC 7 O (q6q _ Xl _ _) ?_;refine gC 1 O (q6q _ Xl _ _) ?_;refine gC 2 O (q6q _ Xl _ _) ?_;refine gWr 36 O ?_;refine zbq 2 O ?_;exact y1q (t+1) (ht1) Xd ⟨rfl,trivial⟩ ⟨rfl,rfl,rfl,trivial⟩ rfl
  ·obtain rfl:t=64:=by omega
   refine zbq 2 O ?_;refine qbq Xi ?_;refine z0q 8 O ?_;refine yLq (α:=Nat) (λi=>i<=8) (λi=>[(178,.int .i64 (i:Int))]) [(0,_),(8,_)] (λi=>[(3,327,.arr 8 1 (k3q (z7q bs 64) s 64).l),(2,388,.arr 64 1 ((z7q bs 64).map wd)),(0,327,.arr 8 1 (mix8 s (k3q (z7q bs 64) s 64) i)),(1,ty,c)]) (λi=>8-i) (0) ⟨rfl,rfl,trivial⟩ (Nat.zero_le _) ⟨rfl,trivial⟩ (rfl) (λi hI=>?_);refine zKq 6 O ?_;refine gS 0 O (λh3=>?_) (λh3=>?_)
   ·have hi1:i<8:=by omega
    refine gP 14 O (yBq (i:=i) O O O O O O hi1) ?_;refine gM 0 O (zXq O O O (yrq (mix_at _ _ hi1) rfl)) ?_;refine gP 1 O (yBq (i:=i) O O O O O O hi1) ?_;refine gM 0 O (zXq O O O (yrq (S8_at _ hi1) rfl)) ?_;refine gP 2 O (yBq (i:=i) O O O O O O hi1) ?_;refine gM 0 O (qpq O O O O O (y2q (mix_at _ _ hi1) O O) (congrArg (λL=>[(3,327,W.arr 8 1 (k3q (z7q bs 64) s 64).l),(2,388,.arr 64 1 ((z7q bs 64).map wd)),(0,327,.arr 8 1 L),(1,ty,c)]) (mix_set _ _ hi1))) ?_;refine gWr 4 O ?_;refine zbq 2 O ?_;exact y1q (i+1) (hi1) Xd ⟨rfl,trivial⟩ ⟨rfl,rfl,trivial⟩ rfl
   ·obtain rfl:i=8:=by omega
    refine zbq 2 O ?_;refine qbq Xi ?_;refine z0q 1 O ?_;refine fin (.inl rfl) (xtq (fr2:=[]) (hp2:=[(0,327,.arr 8 1 (qYq bs s).l),(1,ty,c)]) (nw2:=2) Xd Xd trivial rfl (kvq ⟨⟨by omega,rfl,rfl⟩,⟨by omega,rfl,hc⟩,trivial⟩) Xh) rfl ⟨rfl,rfl,rfl,rfl⟩
noncomputable def atL(r:List Nat)(i:Nat):Nat:=r.getD i 0
noncomputable def eat:Nat->S8->List Nat->S8×List Nat
 |0,s,r=>(s,r)
 |n+1,s,r=>match Nat.ble 64 r.length with
  |true=>eat n (qYq (atL r) s) (r.drop 64)
  |false=>(s,r)
theorem jxq:∀(n:Nat) (s:S8) (r:List Nat),r.length<64->eat n s r=(s,r)
 |0,_,_,_=>rfl
 |n+1,s,r,h=>by
  have:Nat.ble 64 r.length=false:=by
   cases hq:Nat.ble 64 r.length with
   |true=>have:=Ob hq;omega
   |false=>rfl
  simp only[eat,this]
theorem QIq{n:Nat}{s:S8}{r:List Nat}(h:64<=r.length):eat (n+1) s r=eat n (qYq (atL r) s) (r.drop 64):=by
 simp only[eat,Nat.ble_eq_true_of_le h]
theorem eat_fuel:∀(n m:Nat) (s:S8) (r:List Nat),r.length<=n->r.length<=m->eat n s r=eat m s r
 |0,m,s,r,h,_=>by rw[jxq m s r Xd];rfl
 |n+1,0,s,r,_,h=>by rw[jxq _ s r Xd];rfl
 |n+1,m+1,s,r,h1,h2=>by
  by_cases h:64<=r.length
  ·rw[QIq h,QIq h];exact eat_fuel n m _ _ Xn Xn
  ·rw[jxq _ s r Xd,jxq _ s r Xd]
noncomputable def eats(s:S8)(r:List Nat):S8×List Nat:=eat r.length s r
theorem ZMq{s:S8}{r:List Nat}(h:64<=r.length):eats s r=eats (qYq (atL r) s) (r.drop 64):=by
 unfold eats;obtain⟨n,hn⟩:∃n,r.length=n+1:=⟨r.length-1,by omega⟩
 rw[hn,QIq h];exact eat_fuel _ _ _ _ Xn (Nat.le_refl _)
noncomputable def xyq(a:S8×List Nat)(p:List Nat):S8×List Nat:=eats a.1 (a.2++p)
noncomputable def s0:S8:=⟨1779033703,3144134277,1013904242,2773480762,1359893119,2600822924,528734635,1541459225⟩
noncomputable def padZ:Nat->List Nat->List Nat
 |0,r=>r
 |n+1,r=>match Nat.beq (r.length%64) 56 with
  |true=>r
  |false=>padZ n (r++[0])
noncomputable def len8(many:Nat):List Nat:=[56,48,40,32,24,16,8,0].map λi=>Nat.shiftRight (8*many%18446744073709551616) i%256
noncomputable def qyq:Nat->S8->List Nat->S8
 |0,s,_=>s
 |n+1,s,r=>match Nat.ble 1 r.length with
  |true=>qyq n (qYq (atL r) s) (r.drop 64)
  |false=>s
theorem jBq:∀(n:Nat) (s:S8),qyq n s []=s
 |0,_=>rfl
 |n+1,s=>rfl
theorem ulq{n:Nat}{s:S8}{r:List Nat}(h:1<=r.length):qyq (n+1) s r=qyq n (qYq (atL r) s) (r.drop 64):=by
 simp only[qyq,Nat.ble_eq_true_of_le h]
theorem ZNq:∀(n m:Nat) (s:S8) (r:List Nat),r.length<=n->r.length<=m->qyq n s r=qyq m s r
 |0,m,s,r,h,_=>by
  obtain rfl:r=[]:=List.length_eq_zero_iff.1 Xd;rw[jBq,jBq]
 |n+1,0,s,r,_,h=>by
  obtain rfl:r=[]:=List.length_eq_zero_iff.1 Xd;rw[jBq,jBq]
 |n+1,m+1,s,r,h1,h2=>by
  by_cases h:1<=r.length
  ·rw[ulq h,ulq h];exact ZNq n m _ _ Xn Xn
  ·obtain rfl:r=[]:=List.length_eq_zero_iff.1 Xd;rw[jBq,jBq]
theorem ukq{s:S8}{r:List Nat}(h:1<=r.length):qyq r.length s r=qyq (r.drop 64).length (qYq (atL r) s) (r.drop 64):=by
 obtain⟨n,hn⟩:∃n,r.length=n+1:=⟨r.length-1,by omega⟩
 rw[hn,ulq h];exact ZNq _ _ _ _ Xn (Nat.le_refl _)
noncomputable def digN(s:S8):List Nat:=(List.range 32).map λi=>Nat.shiftRight (s.get (i/4)) (24-8*(i%4))%256
noncomputable def ySq(ps:List (List Nat)):Nat:=(ps.map List.length).foldr (· + ·) 0
noncomputable def shaN(ps:List (List Nat)):List Nat:=
 let a:=ps.foldl xyq (s0,[])
 let r:=padZ 64 (a.2++[128])++len8 (ySq ps)
 digN (qyq r.length a.1 r)
inductive Rst where
 |nil
 |sl (all:List Nat) (base off:Nat)
noncomputable def Rst.w:Rst->W
 |.nil=>.nils
 |.sl all base off=>.sl 2 base off (all.length-off) 1 none
noncomputable def Rst.hp:Rst->HpW
 |.nil=>[]
 |.sl all _ _=>[(2,5,.arr all.length 1 (bN all))]
noncomputable def Rst.r:Rst->List Nat
 |.nil=>[]
 |.sl all _ off=>all.drop off
noncomputable def Rst.ok:Rst->Prop
 |.nil=>True
 |.sl all _ off=>off<=all.length/\all.length<4294967296
noncomputable def Rst.nw:Rst->Nat
 |.nil=>2
 |.sl _ _ _=>3
noncomputable def hpS(x:Rst)(d:W)(s:S8):HpW:=x.hp++[(1,327,.arr 8 1 s.l),(0,35,d)]
noncomputable def jaq:W:=.arr 32 1 (List.replicate 32 (.int .u8 0))
noncomputable def Yfq(p:List Nat×Bool):W:=.fz (bN p.1) 1 p.2
theorem app_r(r:Rst)(hr:r.ok)(d:W)(s:S8)(p:List Nat)(f:Bool)(hp:p.length<2147483648)(h64:r.r.length<64):∃w hp' nw ev,appW cfg (hpS r d s) r.nw 58 58 r.w (.fz (bN p) 1 f)=some (w,hp',nw,ev)/\
  ∃r':Rst,r'.ok/\r'.r=r.r++p/\((w=r'.w/\hp'=hpS r' d s/\nw=r'.nw)\/∃all,r'= .sl all 0 0/\w= .sl 3 0 0 all.length 1 none/\hp'=[(3,5,.arr all.length 1 (bN all)),(1,327,.arr 8 1 s.l),(0,35,d)]/\nw=4):=by
 cases r with
 |nil=>cases p with
  |nil=>exact⟨_,_,_,_,rfl,.nil,trivial,rfl,.inl ⟨rfl,rfl,rfl⟩⟩
  |cons a l=>
   have hl:(bN (a::l)).length=l.length+1:=by rw[vHq];rfl
   have hlt:l.length+1<2147483648:=hp;have hbl:(bN (a::l)).length*1<=140737488355328:=by omega
   refine⟨_,_,_,_,k0q (k:=ti5) O O O O O (by simp[bN]) hbl Xd,.sl (a::l) 0 0,⟨Nat.zero_le _,by show l.length+1<_;omega⟩,rfl,.inl ⟨?_,?_,rfl⟩⟩
   ·rw[vHq];rfl
   ·rw[vHq,show(ti5).size=1 from rfl,Nat.mul_one];rfl
 |sl all base off=>
  obtain⟨h1,h2⟩:=hr;cases p with
  |nil=>exact⟨_,_,_,_,rfl,.sl all base off,⟨h1,h2⟩,by simp,.inl ⟨rfl,rfl,rfl⟩⟩
  |cons a l=>
   have hl:(bN (a::l)).length=l.length+1:=by rw[vHq];rfl
   have hlt:l.length+1<2147483648:=hp;have hbl:(all.length-off+(bN (a::l)).length)*1<=140737488355328:=by omega
   have hdt:((bN all).drop off).take (all.length-off)=bN (all.drop off):=by
    rw[List.take_of_length_le (by simp[vHq])];simp[bN,List.map_drop]
   refine⟨_,_,_,_,yZq (k:=ti5) (v:=.arr all.length 1 (bN all)) (off:=off) O O O O O (by simp[bN]) hbl Xd O ?_ rfl (uuq Xd),.sl (all.drop off++a::l) 0 0,⟨Nat.zero_le _,?_⟩,rfl,.inr ⟨_,rfl,?_,?_,rfl⟩⟩
   ·show all.length<off+(all.length-off+(bN (a::l)).length)*1;omega
   ·simp only[Rst.r,List.length_drop] at h64;simp only[List.length_append,List.length_drop,List.length_cons];omega
   ·simp only[hl,List.length_append,List.length_drop,List.length_cons];rfl
   ·rw[hdt,hl];simp only[List.length_append,List.length_drop,List.length_cons,show(ti5).size=1 from rfl,Nat.mul_one];rw[show bN (all.drop off)++bN (a::l)=bN (all.drop off++a::l) by simp[bN]];rfl
theorem padZ_spec:∀(n j:Nat) (r:List Nat),(∀i,i<j->(r.length+i)%64≠56) ->(r.length+j)%64=56->j<=n->padZ n r=r++List.replicate j 0
 |0,j,r,_,_,h=>by
  obtain rfl:j=0:=by omega
  simp[padZ]
 |n+1,0,r,_,h,_=>by
  have:Nat.beq (r.length%64) 56=true:=by rw[Nat.beq_eq];simpa using h
  simp only[padZ,this];simp
 |n+1,j+1,r,h1,h2,h3=>by
  have:Nat.beq (r.length%64) 56=false:=by
   cases hq:Nat.beq (r.length%64) 56 with
   |true=>rw[Nat.beq_eq] at hq;exact absurd (by simpa using hq) (h1 0 Xd)
   |false=>rfl
  simp only[padZ,this];rw[padZ_spec n j (r++[0]) (λi hi=>by simp only[List.length_append,List.length_singleton];have:=h1 (i+1) Xd;rwa[show r.length+1+i=r.length+(i+1) by omega]) (by simp only[List.length_append,List.length_singleton];rwa[show r.length+1+j=r.length+(j+1) by omega]) Xd];rw[List.append_assoc];rfl
noncomputable def dI(s:S8)(i:Nat):List Nat:=(digN s).take i++List.replicate (32-i) 0
theorem uTq(s:S8):(digN s).length=32:=by simp[digN]
theorem dI_len(s:S8){i:Nat}(h:i<=32):(dI s i).length=32:=by simp[dI,uTq];omega
theorem dI_at(s:S8){i:Nat}(h:i<32):(bN (dI s i))[0+i*1]? =some (.int .u8 (.ofNat 0)):=by
 rw[Nat.zero_add,Nat.mul_one,bN_at (by rw[dI_len s Xd];exact h)]
 have:(dI s i).getD i 0=0:=by
  simp[dI,List.getD,List.getElem?_append,uTq,show min i 32=i by omega,List.getElem?_replicate,show 0<32-i by omega]
 rw[this]
theorem dI_set(s:S8){i:Nat}(h:i<32):(bN (dI s i)).set (0+i*1) (.int .u8 (.ofNat (Nat.shiftRight (s.get (i/4)) (min (24-8*(i%4)) 32)%256)))=bN (dI s (i+1)):=by
 have e:(digN s).take (i+1)=(digN s).take i++[Nat.shiftRight (s.get (i/4)) (24-8*(i%4))%256]:=by
  rw[List.take_add_one];congr 1
  simp[digN,List.getElem?_map,List.getElem?_range h]
 have hm:min (24-8*(i%4)) 32=24-8*(i%4):=by omega
 have hl:((digN s).take i).length=i:=by simp[uTq];omega
 rw[Nat.zero_add,Nat.mul_one,hm];unfold bN;rw[<-List.map_set (f:=λc=>W.int .u8 (.ofNat c))];congr 1
 unfold dI;rw[e,show 32-i=(32-(i+1))+1 by omega,List.replicate_succ,List.set_append_right _ _ Xd,hl,Nat.sub_self,List.set_cons_zero,List.append_assoc];rfl
theorem mid1(L:List Nat)(c:Nat):some (W.sl 4 0 0 (L.length+(bN [c]).length) 1 none)=some (renW (tau1 2 4) (W.sl 2 0 0 (L++[c]).length 1 none)):=by
 rw[List.length_append];rfl
theorem mid2(L:List Nat)(c:Nat):some (5,W.arr ((L.length+(bN [c]).length)*1) 1 (((bN L).drop 0).take L.length++bN [c]))=some (5,renW (tau1 2 4) (W.arr (L++[c]).length 1 (bN (L++[c])))):=by
 rw[ztq (show purW (.arr (L++[c]).length 1 (bN (L++[c])))=true from vGq _),List.drop_zero,List.take_of_length_le (by rw[vHq];exact Nat.le_refl _),Nat.mul_one,List.length_append];simp[bN]
theorem parts_pur:∀ps:List (List Nat×Bool),purL (ps.map Yfq)=true
 |[]=>rfl
 |p::ps=>by simp only[List.map_cons,purL,Yfq,purW,vGq,Bool.true_and];exact parts_pur ps
theorem of_s(ps:List (List Nat×Bool))(fl:Bool)(hb:ySq (ps.map (·.1))<2147483648)(hpn:ps.length<2147483648)(R:Res):
  Spec cfg glK 136 0 [.fz (ps.map Yfq) 1 fl] [] R λw hp nw R'=>R'=R/\w= .arr 32 1 (bN (shaN (ps.map (·.1)))):=by
 refine gIs 26 O (λk0=>?_);refine gL 0 O ?_;refine zbq 4 O ?_;refine qRq (α:=Nat×S8×Rst) (λa=>a.1<=ps.length/\a.2.2.ok/\(a.2.1,a.2.2.r)=((ps.map (·.1)).take a.1).foldl xyq (s0,[])/\a.2.2.r.length<64) (λa=>[(13,.int .i64 (a.1:Int)),(12,.int .i64 (ps.length:Int)),(11,.fz (ps.map Yfq) 1 fl),(5,.int .u64 (ySq ((ps.map (·.1)).take a.1):Int)),(4,a.2.2.w),(3,.ptr 1 0),(2,.ptr 0 0)]) (λa=>hpS a.2.2 jaq a.2.1) (λa=>a.2.2.nw) (λ_=>R) (λa=>ps.length-a.1) (0,s0,.nil) ⟨Nat.zero_le _,trivial,rfl,by decide⟩ ?_ (λa ha=>?_);skip
 ·exact yXq ⟨rfl,by simp[getW,putW],rfl,rfl,rfl,rfl,rfl,trivial⟩ O O
 have hPp:purW (.fz (ps.map Yfq) 1 fl)=true:=parts_pur ps;obtain⟨i,s,r⟩:=a;obtain⟨hi,hok,hfold,hr64⟩:=ha;refine zKq 6 O ?_;refine gS 0 O (λh1=>?_) (λh1=>?_)
 ·simp only at hi hok hfold hr64;have hi1:i<ps.length:=by omega
  obtain⟨p,hp⟩:∃p,ps[i]? =some p:=⟨_,List.getElem?_eq_getElem hi1⟩
  have hpw:(ps.map Yfq)[i]? =some (.fz (bN p.1) 1 p.2):=by rw[List.getElem?_map,hp];rfl
  have htk:(ps.map (·.1)).take (i+1)=(ps.map (·.1)).take i++[p.1]:=by
   rw[List.take_add_one,List.getElem?_map,hp];rfl
  have htot:∀l r:List (List Nat),ySq (l++r)=ySq l+ySq r:=λl r=>by
   unfold ySq;induction l with
   |nil=>simp
   |cons x l ih=>simp only[List.cons_append,List.map_cons,List.foldr_cons,ih];omega
  have ht1:ySq ((ps.map (·.1)).take (i+1))=ySq ((ps.map (·.1)).take i)+p.1.length:=by rw[htk,htot];simp[ySq]
  have htle:ySq ((ps.map (·.1)).take (i+1))<=ySq (ps.map (·.1)):=by
   have:=htot ((ps.map (·.1)).take (i+1)) ((ps.map (·.1)).drop (i+1));rw[List.take_append_drop] at this;omega
  have hpl:p.1.length<2147483648:=by omega
  refine gP 6 O (zqq (i:=i) O O O O O O O hpw) ?_;refine gZ 8 O (vHq p.1) ?_;refine gA 0 O (p.1.length) ?_;refine gA 0 O (ySq ((ps.map (·.1)).take i)+p.1.length) ?_;refine zbq 3 O ?_;refine co_cut (α:=Rst) (λr'=>r'.ok/\r'.r=r.r++p.1) (λr'=>[(13,.int .i64 (i:Int)),(12,.int .i64 (ps.length:Int)),(11,.fz (ps.map Yfq) 1 fl),(5,.int .u64 (ySq ((ps.map (·.1)).take (i+1)):Int)),(4,r'.w),(3,.ptr 1 0),(2,.ptr 0 0)]) (λr'=>hpS r' jaq s) (λr'=>r'.nw) ?_ (λa ha=>?_)
  ·obtain⟨w,hp',nw',ev,e1,r',e2,e3,e4⟩:=app_r r hok jaq s p.1 p.2 hpl hr64;refine zKq 3 O ?_;refine gM 0 O (z6q O O e1) ?_;refine zbq 2 O ?_;refine⟨rfl,r',⟨e2,e3⟩,?_⟩;rcases e4 with ⟨rfl,rfl,rfl⟩|⟨all,rfl,rfl,rfl,rfl⟩
   ·exact yXq ⟨rfl,rfl,rfl,by rw[ht1];rfl,rfl,rfl,rfl,trivial⟩ O O
   ·refine yKq (b:=2) (k:=3) Xd Xd Xd ⟨⟨rfl,rfl⟩,⟨rfl,rfl⟩,⟨by rw[ztq hPp];rfl,zdq hPp⟩,⟨by rw[ht1];rfl,rfl⟩,⟨rfl,rfl⟩,⟨rfl,rfl⟩,⟨rfl,rfl⟩,trivial⟩ ⟨⟨by omega,by rw[ztq (show purW (.arr all.length 1 (bN all))=true from vGq _)];rfl,zdq (show purW (.arr all.length 1 (bN all))=true from vGq _)⟩,⟨by omega,rfl,rfl⟩,⟨by omega,rfl,rfl⟩,trivial⟩ Yu
  obtain⟨hak,har⟩:=ha;have hstep:(ps.map (·.1)).take (i+1)=(ps.map (·.1)).take i++[p.1]:=htk;have hnext:((ps.map (·.1)).take (i+1)).foldl xyq (s0,[])=xyq (s,r.r) p.1:=by rw[hstep,List.foldl_append,<-hfold];rfl
  refine ycq 1 O ?_;refine qRq (α:=S8×Rst) (λb=>b.2.ok/\eats b.1 b.2.r=xyq (s,r.r) p.1) (λb=>[(13,.int .i64 (i:Int)),(12,.int .i64 (ps.length:Int)),(11,.fz (ps.map Yfq) 1 fl),(5,.int .u64 (ySq ((ps.map (·.1)).take (i+1)):Int)),(4,b.2.w),(3,.ptr 1 0),(2,.ptr 0 0)]) (λb=>hpS b.2 jaq b.1) (λb=>b.2.nw) (λ_=>R) (λb=>b.2.r.length) (s,a) ⟨hak,by simp only[xyq,har]⟩ (Ent.refl) (λb hb=>?_);skip
  obtain⟨s',r'⟩:=b;obtain⟨hok',heat⟩:=hb;simp only at hok' heat
  have done:r'.r.length<64->(s',r'.r)=((ps.map (·.1)).take (i+1)).foldl xyq (s0,[]):=λh=>by
   rw[hnext,<-heat,eats,jxq _ _ _ h]
  skip
  cases r' with
  |nil=>
   refine zKq 4 O ?_;refine gL 0 O ?_;refine zbq 6 O ?_;refine qbq Xi ?_;refine z0q 4 O ?_;refine gA 0 O (i+1) ?_;refine zbq 2 O ?_;skip
   refine y7q (i+1,s',.nil) ⟨hi1,trivial,done (by show 0<64;omega),(by show 0<64;omega)⟩ Yd (yXq ⟨rfl,rfl,rfl,rfl,rfl,rfl,rfl,trivial⟩ O O)
  |sl all base off=>
   obtain⟨ho1,ho2⟩:=hok';have hrl:(Rst.sl all base off).r.length=all.length-off:=by simp[Rst.r]
   refine zKq 4 O ?_;refine gV 0 O (show _=W.int .i64 ((all.length-off:Nat):Int) by first|rfl|(simp;done)) ?_;refine gS 3 O (λh2=>?_) (λh2=>?_)
   ·have h64:64<=all.length-off:=by omega
    have hpa:purW (.arr all.length 1 (bN all))=true:=vGq all
    have hby:∀k,k<64->zVq 50 (.arr all.length 1 (bN all)) (off+0*1+k*1) 1 false=some (.int .u8 (.ofNat (atL (all.drop off) k))):=λk hk=>by
     have:=bN_at (l:=all) (i:=off+k) Xd;refine yrq ?_ rfl;rw[Nat.zero_mul,Nat.add_zero,Nat.mul_one,this];simp[atL,List.getD,List.getElem?_drop]
    have hr':(Rst.sl all off (off+64)).r=((Rst.sl all base off).r).drop 64:=by simp[Rst.r]
    refine gP 6 O (cut_hi (h:=64) O O O O O O O h64) ?_
    (refine zLq rfl (jcq (ext:=[1,2]) (ws:=[.ptr 0 0,.sl 1 base (off+0*1) (64-0) 1 none]) O O O O O (λR=>block_s s' (atL (all.drop off)) (.arr all.length 1 (bN all)) base _ none 5 (zdq hpa) hby R) Xl Qh Xh (Qwq rfl (by rw[ztq hpa];rfl) rfl (zdq hpa)) O ?_);rintro w hp1 nw1 ⟨rfl,rfl,rfl⟩)
    refine zpq 5 O ?_;refine gP 0 O (cut_lo (l:=64) O O O O O O O h64 rfl) ?_;refine zbq 2 O ?_;skip
    refine y7q (qYq (atL (all.drop off)) s',.sl all off (off+64)) ⟨⟨by omega,ho2⟩,?_⟩ (by simp only[hr'];simp only[hrl,List.length_drop];omega) (xtq Xd (Nat.le_refl _) ⟨rfl,rfl,rfl,rfl,?_,rfl,rfl,trivial⟩ (by simp only[List.all_cons,List.all_nil,zdq hPp,Bool.and_true];rfl) (kvq ⟨⟨by show 2<3;omega,by show some (5,renW _ (W.arr all.length 1 (bN all)))=_;rw[ztq hpa],zdq hpa⟩,⟨by show 1<3;omega,rfl,rfl⟩,⟨by show 0<3;omega,rfl,rfl⟩,trivial⟩) Yu)
    ·rw[hr',<-heat];exact(ZMq (r:=(Rst.sl all base off).r) (by rw[hrl];exact h64)).symm
    ·show some (W.sl 2 off (off+64*1) (all.length-off-64) 1 (qxq 64 none))=some (W.sl 2 off (off+64) (all.length-(off+64)) 1 none);rw[Nat.sub_sub];rfl
   ·have h64:all.length-off<64:=by omega
    refine zbq 2 O ?_;refine qbq Xi ?_;refine z0q 4 O ?_;refine gA 0 O (i+1) ?_;refine zbq 2 O ?_;skip
    refine y7q (i+1,s',.sl all base off) ⟨hi1,⟨ho1,ho2⟩,done (by rw[hrl];exact h64),by simp only[hrl];exact h64⟩ Yd (yXq ⟨rfl,rfl,rfl,rfl,rfl,rfl,rfl,trivial⟩ O O)
 ·simp only at hi hok hfold hr64;obtain rfl:i=ps.length:=by omega
  rw[show(ps.map (·.1)).take ps.length=ps.map (·.1) by rw[List.take_of_length_le Xh]] at hfold;have hT:(ps.map (·.1)).take ps.length=ps.map (·.1):=by rw[List.take_of_length_le Xh]
  have hdt:∀(all:List Nat) (off:Nat),((bN all).drop off).take (all.length-off)=bN (all.drop off):=λall off=>by
   rw[List.take_of_length_le (by simp[vHq])];simp[bN,List.map_drop]
  have bapp:∀a b:List Nat,bN a++bN b=bN (a++b):=λa b=>by simp[bN]
  have apur:∀all:List Nat,purW (.arr all.length 1 (bN all))=true:=λall=>vGq all
  refine zbq 2 O ?_;refine qbq Xi ?_;refine z0q 2 O ?_;refine co_cut (α:=Unit) (λ_=>True) (λ_=>[(5,.int .u64 (ySq (ps.map (·.1)):Int)),(4,.sl 2 0 0 (r.r++[128]).length 1 none),(3,.ptr 1 0),(2,.ptr 0 0)]) (λ_=>hpS (.sl (r.r++[128]) 0 0) jaq s) (λ_=>3) ?_ (λa ha=>?_)
  ·skip
   cases r with
   |nil=>
    refine zKq 3 O ?_;refine gM 0 O (z6q O O (k0q (news:=bN [128]) (k:=ti5) O O O O O (by simp[bN]) Xl Xl)) ?_;refine zbq 2 O ?_;refine⟨rfl,(),trivial,?_⟩;exact yKq (b:=2) (k:=3) Xd Xd (by show 3<4;omega) ⟨⟨by show some (W.int .u64 ((ySq ((ps.map (·.1)).take ps.length):Nat):Int))=_;rw[hT];rfl,rfl⟩,⟨rfl,rfl⟩,⟨rfl,rfl⟩,⟨rfl,rfl⟩,trivial⟩ ⟨⟨by omega,rfl,rfl⟩,⟨by omega,rfl,rfl⟩,⟨by omega,rfl,rfl⟩,trivial⟩ Yu
   |sl all base off=>
    obtain⟨ho1,ho2⟩:=hok;simp only[Rst.r,List.length_drop] at hr64;have hle:((Rst.sl all base off).r++[128]).length=all.length-off+1:=by simp[Rst.r]
    refine zKq 3 O ?_;refine gM 0 O (z6q O O (yZq (news:=bN [128]) (k:=ti5) (v:=.arr all.length 1 (bN all)) (off:=off) O O O O O (by simp[bN]) (show(all.length-off+1)*1<=140737488355328 by omega) (show all.length-off+1<=70368744177664 by omega) rfl (show all.length<off+(all.length-off+1)*1 by omega) rfl (uuq Xd))) ?_;refine zbq 2 O ?_;refine⟨rfl,(),trivial,?_⟩;refine yKq (b:=2) (k:=4) Xd Xd Yk ⟨⟨by show some (W.int .u64 ((ySq ((ps.map (·.1)).take ps.length):Nat):Int))=_;rw[hT];rfl,rfl⟩,⟨?_,rfl⟩,⟨rfl,rfl⟩,⟨rfl,rfl⟩,trivial⟩ ⟨⟨by omega,?_,zdq (apur _)⟩,⟨by omega,rfl,rfl⟩,⟨by omega,rfl,rfl⟩,trivial⟩ Yu
    ·rw[hle];rfl
    ·rw[ztq (apur _),hle,<-bapp];show some (5,W.arr ((all.length-off+1)*1) 1 (((bN all).drop off).take (all.length-off)++bN [128]))=_;rw[hdt,Nat.mul_one];rfl
  --noughts
  have htm:∀n:Nat,((n:Int)).tmod 64=((n%64:Nat):Int):=λn=>by rw[Int.tmod_eq_emod_of_nonneg Xd];omega
  have hA0:(r.r++[128]).length<=64:=by simp;omega
  generalize hA:r.r++[128]=A at*
  refine zKq 2 O ?_;refine qRq (α:=Nat) (λj=>∀i,i<j->(A.length+i)%64≠56) (λj=>[(5,.int .u64 (ySq (ps.map (·.1)):Int)),(4,.sl 2 0 0 (A++List.replicate j 0).length 1 none),(3,.ptr 1 0),(2,.ptr 0 0)]) (λj=>hpS (.sl (A++List.replicate j 0) 0 0) jaq s) (λ_=>3) (λ_=>R) (λj=>64-j) 0 (λi hi=>absurd hi Xd) (by rw[List.replicate_zero,List.append_nil];exact Ent.refl) (λj hj=>?_);skip
  have hj64:j<64:=by
   refine Nat.lt_of_not_le λh=>?_
   have:=hj ((56+64-A.length%64)%64) Xd;omega
  have hlj:(A++List.replicate j 0).length=A.length+j:=by simp
  refine zKq 4 O ?_;refine gV 0 O (show _=W.int .i64 ((A++List.replicate j 0).length:Int) by first|rfl|(simp;done)) ?_;refine gV 0 O (congrArg (W.int .i64) (htm _)) ?_;refine gS 3 O (λh2=>?_) (λh2=>?_)
  ·have hne:(A.length+j)%64≠56:=by
    omega
   refine gM 6 O (z6q O O (yZq (news:=bN [0]) (k:=ti5) (v:=.arr (A++List.replicate j 0).length 1 (bN (A++List.replicate j 0))) (off:=0) O O O O O (by simp[bN]) (show((A++List.replicate j 0).length+1)*1<=140737488355328 by omega) (show(A++List.replicate j 0).length+1<=70368744177664 by omega) rfl (show(A++List.replicate j 0).length<0+((A++List.replicate j 0).length+1)*1 by omega) rfl (uuq Xd))) ?_;refine zbq 3 O ?_;have hrep:A++List.replicate (j+1) 0=(A++List.replicate j 0)++[0]:=by rw[List.append_assoc,<-List.replicate_succ']
   skip
   refine y7q (j+1) (λi hi=>?_) Xd (yKq (b:=2) (k:=4) Xd Xd Yk ⟨⟨rfl,rfl⟩,⟨?_,rfl⟩,⟨rfl,rfl⟩,⟨rfl,rfl⟩,trivial⟩ ⟨⟨by omega,?_,zdq (apur _)⟩,⟨by omega,rfl,rfl⟩,⟨by omega,rfl,rfl⟩,trivial⟩ Yu)
   ·rcases Nat.lt_succ_iff_lt_or_eq.1 hi with h|rfl
    ·exact hj i h
    ·exact hne
   ·rw[hrep];exact mid1 _ 0
   ·rw[hrep];exact mid2 _ 0
  ·have he:(A.length+j)%64=56:=by
    omega
   have hpz:padZ 64 A=A++List.replicate j 0:=padZ_spec 64 j A hj he Xd;rw[<-hpz];have hBl:(padZ 64 A).length<200:=by rw[hpz,hlj];omega
   have hB64:(padZ 64 A).length%64=56:=by rw[hpz,hlj];exact he
   generalize hB:padZ 64 A=B at hBl hB64;refine zbq 2 O ?_;refine qbq Xi ?_;refine z0q 9 O ?_;have h8:∀k,k<=8->((len8 (ySq (ps.map (·.1)))).take k).length=k:=λk hk=>by simp[len8];omega
   refine qRq (α:=Nat) (λk=>k<=8) (λk=>[(8,.int .i64 (56-8*(k:Int))),(5,.int .u64 (ySq (ps.map (·.1)):Int)),(4,.sl 2 0 0 (B++(len8 (ySq (ps.map (·.1)))).take k).length 1 none),(3,.ptr 1 0),(2,.ptr 0 0)]) (λk=>hpS (.sl (B++(len8 (ySq (ps.map (·.1)))).take k) 0 0) jaq s) (λ_=>3) (λ_=>R) (λk=>8-k) 0 (Nat.zero_le _) (by rw[List.take_zero,List.append_nil];exact yXq ⟨rfl,rfl,rfl,rfl,rfl,trivial⟩ O O) (λk hk=>?_);skip
   refine zKq 7 O ?_;refine gS 0 O (λh3=>?_) (λh3=>?_)
   ·have hk8:k<8:=by omega
    have hLk:=h8 k hk;have hll:(B++(len8 (ySq (ps.map (·.1)))).take k).length=B.length+k:=by rw[List.length_append,hLk]
    have hnx:B++(len8 (ySq (ps.map (·.1)))).take (k+1)=(B++(len8 (ySq (ps.map (·.1)))).take k)++[Nat.shiftRight (8*ySq (ps.map (·.1))%18446744073709551616) (min (56-8*k) 64)%256]:=by
     rw[List.take_add_one,<-List.append_assoc];congr 1
     have hq:k=0\/k=1\/k=2\/k=3\/k=4\/k=5\/k=6\/k=7:=by omega
     rcases hq with rfl|rfl|rfl|rfl|rfl|rfl|rfl|rfl<;>rfl
    have hw8:j4q .i64 (56-8*(k:Int) -8)=56-8*(k:Int) -8:=vOq (k:=.i64) ⟨by omega,by omega⟩;refine gV 8 O (show W.int .i64 (56-8*(k:Int))=W.int .i64 ((56-8*k:Nat):Int) by congr 1;omega) ?_;refine gM 3 O (z6q O O (yZq (news:=bN [Nat.shiftRight (8*ySq (ps.map (·.1))%18446744073709551616) (min (56-8*k) 64)%256]) (k:=ti5) (v:=.arr (B++(len8 (ySq (ps.map (·.1)))).take k).length 1 (bN (B++(len8 (ySq (ps.map (·.1)))).take k))) (off:=0) O O O O O (by simp[bN]) (show((B++(len8 (ySq (ps.map (·.1)))).take k).length+1)*1<=140737488355328 by omega) (show(B++(len8 (ySq (ps.map (·.1)))).take k).length+1<=70368744177664 by omega) rfl (show(B++(len8 (ySq (ps.map (·.1)))).take k).length<0+((B++(len8 (ySq (ps.map (·.1)))).take k).length+1)*1 by omega) rfl (uuq Xd))) ?_;refine zbq 6 O ?_;refine xfq (w:=W.int .i64 (j4q .i64 (56-8*(k:Int) -8))) O O (show _=W.int .i64 (56-8*((k+1:Nat):Int)) by rw[hw8];congr 1;omega) ?_;refine run_p 2 O ?_;skip
    refine y7q (k+1) Xd Xd (yKq (b:=2) (k:=4) Xd Xd Yk ⟨⟨rfl,rfl⟩,⟨rfl,rfl⟩,⟨?_,rfl⟩,⟨rfl,rfl⟩,⟨rfl,rfl⟩,trivial⟩ ⟨⟨by omega,?_,zdq (apur _)⟩,⟨by omega,rfl,rfl⟩,⟨by omega,rfl,rfl⟩,trivial⟩ Yu)
    ·rw[hnx];exact mid1 _ _
    ·rw[hnx];exact mid2 _ _
   ·obtain rfl:k=8:=by omega
    have ht8:(len8 (ySq (ps.map (·.1)))).take 8=len8 (ySq (ps.map (·.1))):=rfl;rw[ht8];have hMl:(B++len8 (ySq (ps.map (·.1)))).length=B.length+8:=by simp[len8]
    have hsha:shaN (ps.map (·.1))=digN (qyq (B++len8 (ySq (ps.map (·.1)))).length s (B++len8 (ySq (ps.map (·.1))))):=by
     simp only[shaN,<-hfold,hA,hB]
    generalize hM:B++len8 (ySq (ps.map (·.1)))=M at hMl hsha;refine zbq 2 O ?_;refine qbq Xi ?_;refine z0q 4 O ?_;refine qRq (α:=S8×Nat×Nat) (λb=>b.2.2<=M.length/\(M.length-b.2.2)%64=0/\qyq M.length s M=qyq (M.drop b.2.2).length b.1 (M.drop b.2.2)) (λb=>[(4,.sl 2 b.2.1 b.2.2 (M.length-b.2.2) 1 none),(3,.ptr 1 0),(2,.ptr 0 0)]) (λb=>hpS (.sl M b.2.1 b.2.2) jaq b.1) (λ_=>3) (λ_=>R) (λb=>M.length-b.2.2) (s,0,0) ⟨Nat.zero_le _,by show(M.length-0)%64=0;omega,rfl⟩ (yXq ⟨rfl,rfl,rfl,trivial⟩ O O) (λb hb5=>?_);skip
    obtain⟨s',base,off⟩:=b;obtain⟨ho,hmod,heat⟩:=hb5;simp only at ho hmod heat;refine zKq 4 O ?_;refine gV 0 O (show _=W.int .i64 ((M.length-off:Nat):Int) by first|rfl|(simp;done)) ?_;refine gS 3 O (λh4=>?_) (λh4=>?_)
    ·have h1:1<=M.length-off:=by omega
     have h64:64<=M.length-off:=by omega
     have hpa:purW (.arr M.length 1 (bN M))=true:=vGq M
     have hby:∀k,k<64->zVq 50 (.arr M.length 1 (bN M)) (off+0*1+k*1) 1 false=some (.int .u8 (.ofNat (atL (M.drop off) k))):=λk hk=>by
      have:=bN_at (l:=M) (i:=off+k) Xd;refine yrq ?_ rfl;rw[Nat.zero_mul,Nat.add_zero,Nat.mul_one,this];simp[atL,List.getD,List.getElem?_drop]
     refine gP 6 O (cut_hi (h:=64) O O O O O O O h64) ?_
     (refine zLq rfl (jcq (ext:=[1,2]) (ws:=[.ptr 0 0,.sl 1 base (off+0*1) (64-0) 1 none]) O O O O O (λR=>block_s s' (atL (M.drop off)) (.arr M.length 1 (bN M)) base _ none 5 (zdq hpa) hby R) Xl Qh Xh (Qwq rfl (by rw[ztq hpa];rfl) rfl (zdq hpa)) O ?_);rintro w hp1 nw1 ⟨rfl,rfl,rfl⟩)
     refine zpq 5 O ?_;refine gP 0 O (cut_lo (l:=64) O O O O O O O h64 rfl) ?_;refine zbq 2 O ?_;skip
     refine y7q (qYq (atL (M.drop off)) s',off,off+64) ⟨by simp only;omega,by simp only;omega,?_⟩ Yd (xtq Xd (Nat.le_refl _) ⟨?_,rfl,rfl,trivial⟩ rfl (kvq ⟨⟨by omega,by show some (5,renW _ (W.arr M.length 1 (bN M)))=_;rw[ztq hpa],zdq hpa⟩,⟨by omega,rfl,rfl⟩,⟨by omega,rfl,rfl⟩,trivial⟩) Yu)
     ·rw[heat,ukq Xn,List.drop_drop]
     ·show some (W.sl 2 off (off+64*1) (M.length-off-64) 1 (qxq 64 none))=some (W.sl 2 off (off+64) (M.length-(off+64)) 1 none);rw[Nat.sub_sub];rfl
    ·have h0:M.length-off=0:=by omega
     have hend:qyq M.length s M=s':=by
      rw[heat,List.drop_of_length_le Xd];rfl
     rw[hend] at hsha;refine zbq 2 O ?_;refine qbq Xi ?_;refine z0q 9 O ?_;have htd4:∀n:Nat,((n:Int)).tdiv 4=((n/4:Nat):Int):=λn=>by rw[Int.tdiv_eq_ediv_of_nonneg Xd];omega
     have htm4:∀n:Nat,((n:Int)).tmod 4=((n%4:Nat):Int):=λn=>by rw[Int.tmod_eq_emod_of_nonneg Xd];omega
     refine qRq (α:=Nat) (λi=>i<=32) (λi=>[(64,.int .i64 (i:Int)),(3,.ptr 1 0),(2,.ptr 0 0)]) (λi=>hpS (.sl M base off) (.arr 32 1 (bN (dI s' i))) s') (λ_=>3) (λ_=>R) (λi=>32-i) 0 (Nat.zero_le _) (yXq ⟨rfl,rfl,rfl,trivial⟩ O O) (λi hi=>?_);skip
     refine zKq 6 O ?_;refine gS 0 O (λh5=>?_) (λh5=>?_)
     ·have hi32:i<32:=by omega
      refine gA 13 O (i/4) (e:=(htd4 i)) ?_;refine gP 0 O (yBq (i:=i/4) O O O O O O Xd) ?_;refine gM 0 O (zXq O O O (yrq (S8_at s' Xd) rfl)) ?_;refine gV 1 O (congrArg (W.int .i64) (htm4 i)) ?_;refine gA 0 O (8*(i%4)) ?_;refine gA 0 O (24-8*(i%4)) ?_;refine gP 2 O (yBq (i:=i) O O O O O O Xd) ?_;refine gM 0 O (qpq O O O O O (y2q (dI_at s' hi32) O O) rfl) ?_;refine gWr 4 O ?_;refine zbq 2 O ?_;skip
      refine y7q (i+1) Xd Xd (yXq ⟨rfl,rfl,rfl,trivial⟩ ?_ rfl);exact congrArg (λL=>hpS (.sl M base off) (.arr 32 1 L) s') (dI_set s' hi32)
     ·obtain rfl:i=32:=by omega
      refine zbq 2 O ?_;refine qbq Xi ?_;refine z0q 9 O ?_;refine fin Qs Ent.refl rfl ⟨rfl,?_⟩;rw[hsha];have:dI s' 32=digN s':=by simp[dI,List.take_of_length_le,uTq]
      rw[<-this]
theorem bytes_bN(l:List UInt8):zaq l=bN (l.map UInt8.toNat):=by simp[zaq,bN]
theorem shaN_l(ps:List (List Nat)):(shaN ps).length=32:=by simp[shaN,digN]
theorem shaN_lt(ps:List (List Nat)):∀n∈shaN ps,n<256:=λn h=>by
 simp only[shaN,digN,List.mem_map] at h;obtain⟨i,_,rfl⟩:=h;exact Nat.mod_lt _ Xl
noncomputable def shaD(ps:List (List UInt8)):Dig:=⟨(shaN (ps.map λp=>p.map UInt8.toNat)).map UInt8.ofNat,by simp[shaN_l]⟩
theorem bytes_of{l:List Nat}(h:∀n∈l,n<256):zaq (l.map UInt8.ofNat)=bN l:=by
 rw[bytes_bN,List.map_map];congr 1
 conv=>rhs;rw[<-List.map_id l]
 refine List.map_congr_left λn hn=>?_
 have:=h n hn;simp;omega
theorem YDq:∀l:List UInt8,Yhq (zaq l)=true
 |[]=>rfl
 |c::l=>by
  show(kUq (W.int .u8 (.ofNat c.toNat))&&Yhq (zaq l))=true;rw[YDq l];rfl
theorem flat_dW(k:Dig):kUq (dW k)=true:=YDq k.1
theorem sha_s(ps:List (List UInt8×Bool))(f:Bool)(hb:((ps.map (·.1)).map List.length).foldr (· + ·) 0<2147483648)(hn:ps.length<2147483648):PS cfg glK 136 [.fz (ps.map λp=>.fz (zaq p.1) 1 p.2) 1 f] (dW (shaD (ps.map (·.1)))):=λR=>by
 have e1:(ps.map λp=>(p.1.map UInt8.toNat,p.2)).map Yfq=ps.map λp=>.fz (zaq p.1) 1 p.2:=by simp[Yfq,bytes_bN]
 have e2:(ps.map λp=>(p.1.map UInt8.toNat,p.2)).map (·.1)=(ps.map (·.1)).map λp=>p.map UInt8.toNat:=by simp
 have h:=of_s (ps.map λp=>(p.1.map UInt8.toNat,p.2)) f (by rw[e2];show(List.map List.length _).foldr _ 0<_;rw[List.map_map];simpa[Function.comp_def] using hb) (by simpa using hn) R;rw[e1,e2] at h
 have e3:dW (shaD (ps.map (·.1)))= .arr 32 1 (bN (shaN ((ps.map (·.1)).map λp=>p.map UInt8.toNat))):=by
  show W.arr 32 1 (zaq _)=_;rw[<-bytes_of (shaN_lt _)];rfl
 show Spec cfg glK _ 0 _ [] R λw hp nw R'=>R'=R/\w=dW (shaD (ps.map (·.1)))
 rw[e3];exact h
def kMq(p:List UInt8):List UInt8:=beB 4 (p.length%4294967296)++p
def tagB(kind:UInt8)(ps:List (List UInt8)):List UInt8:=kind::ps.flatMap kMq
variable {G:Nat->Option W}
@[simp] theorem kYq(ps:List (List UInt8)):purL (ps.map bW)=true:=z3q (λx=>by simp) ps
theorem QAq{m:Nat}:∀{ps:List (List UInt8)} (i:Nat),(∀p∈ps,p.length<m) ->((ps.take i).flatMap kMq).length<=i*(m+4)
 |[],i,_=>by simp
 |p::ps,0,_=>by simp
 |p::ps,i+1,h=>by
  have h1:=QAq (ps:=ps) i λq hq=>h q (List.mem_cons_of_mem _ hq)
  have h2:=h p (List.mem_cons_self ..);simp only[List.take_succ_cons,List.flatMap_cons,List.length_append,kMq,q5q,Nat.succ_mul];omega
theorem tbytes_s(kind:UInt8)(ps:List (List UInt8))(f:Bool)(hn:ps.length<1000000)(hb:∀p∈ps,p.length<1000000):PS cfg G 203 [.int .u8 (.ofNat kind.toNat),.fz (ps.map bW) 1 f] (bW (tagB kind ps)):=by
 have e:(ps.map bW).length=ps.length:=List.length_map _;refine gIv 16 O (λR k0=>?_);refine gV (w':=.int .i64 (ps.length:Int)) 0 O Xu ?_;refine zbq 4 O ?_;refine co_loopG1 (α:=Nat) (λi=>i<=ps.length) 5 (λi=>zaq (kind::(ps.take i).flatMap kMq)) 5 1 (λi=>[(14,.int .i64 (i:Int))]) [(4,_),(12,_),(13,_)] ([]) 0 0 (λi=>ps.length-i) (0) ⟨rfl,rfl,rfl,trivial⟩ (Nat.zero_le _) ⟨rfl,trivial⟩ Xd Xd Ym Yy rfl Yy Xg Xg rfl Xk Xj Yf (λi hI=>?_);refine zKq 6 O ?_;refine gS 0 O (λh1=>?_) (λh1=>?_)
 ·have hi:i<ps.length:=by omega
  obtain⟨x,hx⟩:∃x,ps[i]? =some x:=⟨_,List.getElem?_eq_getElem hi⟩
  have hxl:=hb x (List.mem_of_getElem? hx);have hfl:((ps.take i).flatMap kMq).length<=i*1000004:=QAq i hb;have hL:(zaq (kind::(ps.take i).flatMap kMq)).length<=1+i*1000004:=by rw[zeq,List.length_cons];omega
  have hN:(zaq (beB 4 x.length)).length=4:=by rw[zeq,q5q]
  have hnx:zaq (kind::(ps.take (i+1)).flatMap kMq)=(zaq (kind::(ps.take i).flatMap kMq)++zaq (beB 4 x.length))++zaq x:=by
   rw[List.take_add_one,hx,<-yYq,<-yYq];congr 1
   simp[kMq,Nat.mod_eq_of_lt (show x.length<4294967296 by omega)]
  skip
  cases x with
  |nil=>
   refine ycq 6 O ?_;refine gP 0 O (zqq (i:=i) O O O O O O O (ziq bW hx)) ?_;refine gV (w':=.int .i64 (([]:List UInt8).length:Int)) 7 O (by show W.int .i64 ((zaq (([]:List UInt8))).length:Int)=_;rw[zeq]) ?_;refine gWr 0 O ?_;refine gWr 0 O ?_
   (refine zLq rfl (kyq O O O O O O (put_s ([]:List UInt8).length 4 Xd Xd (by show([]:List UInt8).length<4294967296;omega)) ?_);rintro w hp1 nw1 ⟨rfl,rfl,rfl⟩)
   refine zpq 10 O ?_;refine gM 0 O (z6q O O (jjq [_] (k:=ti5) (news:=zaq (beB 4 ([]:List UInt8).length)) O O O O O (yzq O O O (zkq Xl hN.symm rfl)) Yr Qf (by rw[hN];omega) rfl (by simp[numC]))) ?_;refine gM 1 O (z6q O O (joq (k:=ti5) O O O O O)) ?_;refine gWr 5 O ?_;refine zbq 2 O ?_;exact kJq 2 (i+1) (hi) Xd (Nat.zero_le _) (by rw[hnx];exact List.append_nil _) Xy Xd Ym rfl Yc ⟨rfl,trivial⟩ ⟨rfl,rfl,rfl,trivial⟩ Xg Xg rfl Xk Xj Yf
  |cons c x=>
   refine ycq 6 O ?_;refine gP 0 O (zqq (i:=i) O O O O O O O (ziq bW hx)) ?_;refine gV (w':=.int .i64 ((c::x).length:Int)) 7 O (by show W.int .i64 ((zaq ((c::x))).length:Int)=_;rw[zeq]) ?_;refine gWr 0 O ?_;refine gWr 0 O ?_
   (refine zLq rfl (kyq O O O O O O (put_s (c::x).length 4 Xd Xd (by show(c::x).length<4294967296;omega)) ?_);rintro w hp1 nw1 ⟨rfl,rfl,rfl⟩)
   refine zpq 10 O ?_;refine gM 0 O (z6q O O (jjq [_] (k:=ti5) (news:=zaq (beB 4 (c::x).length)) O O O O O (yzq O O O (zkq Xl hN.symm rfl)) Yr Qf (by rw[hN];omega) rfl (by simp[numC]))) ?_;refine gM 1 O (z6q O O (yZq (k:=ti5) (len:=(zaq (kind::(ps.take i).flatMap kMq)++zaq (beB 4 (c::x).length)).length) (news:=zaq (c::x)) (olds:=zaq (kind::(ps.take i).flatMap kMq)++zaq (beB 4 (c::x).length)) O O O O O Yy (by rw[List.length_append,hN,zeq (c::x)];show(_+_)*1<=_;omega) (by rw[List.length_append,hN,zeq (c::x)];omega) rfl Ys rfl (zkq Xl O O))) ?_;refine gWr 5 O ?_;refine zbq 2 O ?_;exact kJq 3 (i+1) (hi) Xd (Nat.zero_le _) (hnx) Xy Xd Ym rfl Yc ⟨rfl,trivial⟩ ⟨rfl,rfl,rfl,trivial⟩ Xg Xg rfl Xk Xj Yf
 ·have hi:i=ps.length:=by omega
  subst hi;refine zbq 2 O ?_;refine qbq Xi ?_;refine z0q 9 O ?_;refine jZq Xo O ?_;rw[List.take_length];exact utq (H0:=[]) Xl Xh Xh
theorem tag_le{m:Nat}(kind:UInt8)(ps:List (List UInt8))(h:∀p∈ps,p.length<m):(tagB kind ps).length<=1+ps.length*(m+4):=by
 have:=QAq (m:=m) ps.length h;rw[List.take_length] at this;simp only[tagB,List.length_cons];omega
noncomputable def tagD(kind:UInt8)(ps:List (List UInt8)):Dig:=shaD [tagB kind ps]
theorem YZq(kind:UInt8)(ps:List (List UInt8))(f:Bool)(hn:ps.length<1000)(hb:∀p∈ps,p.length<1000000):PS cfg glK 134 [.int .u8 (.ofNat kind.toNat),.fz (ps.map bW) 1 f] (dW (tagD kind ps)):=by
 have hl:=tag_le kind ps hb;refine gI 9 O (λR k0=>gC 0 O (tbytes_s kind ps f Xd hb) (zbq 1 O ?_));refine op_lk O O O O O (by(repeat (first|exact .nil|refine .cons ?_ ?_|(refine .sl O ?_ rfl Xi;first|rfl|(focus (simp;done)))|(refine y9q O ?_ rfl;first|rfl|(focus (simp;done)))|(refine .pur ?_;first|rfl|(focus (simp;done)))))) (sha_s [(tagB kind ps,false)] false Xn Xh) Xk Xk ?_;exact zpq 4 O (gQa 0 O)
noncomputable def keyD(k:Dig):Dig:=tagD 3 [k.1]
end
section
attribute [local irreducible] CoW OpW FlW Step Spec
variable {G:Nat->Option W}
structure Tx where
 pub:Dig
 to:Dig
 nonce:Nat
 amount:Nat
 fee:Nat
 sign:Dig
noncomputable def txW(x:Tx):W:=.agg 99 [dW x.pub,dW x.to,.int .u64 (x.nonce:Int),.int .u64 (x.amount:Int),.int .u64 (x.fee:Int),dW x.sign]
@[simp] theorem txW_pur(x:Tx):purW (txW x)=true:=by simp[txW]
structure Tx.ok(x:Tx):Prop where
 nonce:x.nonce<18446744073709551616
 amount:x.amount<18446744073709551616
 fee:x.fee<18446744073709551616
def Ylq(x:Tx):List UInt8:=(x.pub.1++x.to.1)++[x.nonce,x.amount,x.fee].flatMap (beB 8)
@[simp] theorem dWs_pur(ds:List Dig):purL (ds.map dW)=true:=z3q (λx=>by simp) ds
noncomputable def uW(n:Nat):W:=.int .u64 (n:Int)
@[simp] theorem uWs_pur(ns:List Nat):purL (ns.map uW)=true:=z3q (λx=>rfl) ns
theorem body_len(x:Tx):(Ylq x).length=88:=by simp[Ylq,x.pub.2,x.to.2,q5q]
noncomputable def Y3q(x:Tx):Dig:=tagD 4 [Ylq x]
end
section
attribute [local irreducible] CoW OpW FlW Step Spec
def acL(l:List Pr)(k:Dig):Acct:=match findL l k with
 |some v=>(qIq v).1
 |none=>.zero
noncomputable def moreL(l:List Pr)(k:Dig)(c:Nat):Option (List Pr):=if (acL l k).balance+c<18446744073709551616 then some (setL l k ⟨(acL l k).nonce,(acL l k).balance+c⟩) else none
noncomputable def nudeL(l:List Pr)(x:Tx):List Pr:=setL l (keyD x.pub) ⟨(acL l (keyD x.pub)).nonce+1,(acL l (keyD x.pub)).balance⟩
noncomputable def lessL(l:List Pr)(x:Tx):List Pr:=setL (nudeL l x) (keyD x.pub) ⟨(acL l (keyD x.pub)).nonce+1,(acL l (keyD x.pub)).balance-(x.amount+x.fee)⟩
noncomputable def paidL(l:List Pr)(x:Tx)(box:Dig):List Pr×Nat:=if x.amount+x.fee<=(acL l (keyD x.pub)).balance then(match moreL (lessL l x) x.to x.amount with
  |none=>(nudeL l x,151)
  |some p=>match moreL p box x.fee with
   |none=>(nudeL l x,151)
   |some q=>(q,0)) else(nudeL l x,150)
end
noncomputable def gvL(l:List Pr)(d:Depo):List Pr×Nat:=match moreL l d.to d.amount with
 |some q=>(q,0)
 |none=>(l,151)
structure Rec where
 kind:UInt8
 id:Dig
 code:Nat
noncomputable def depD(d:Depo):Dig:=tagD 9 [beB 8 d.number++d.to.1++beB 8 d.amount]
noncomputable def idD(x:Tx):Dig:=tagD 5 [Ylq x++x.sign.1]
noncomputable def doD:List Pr->List Depo->List Pr×List Rec
 |l,[]=>(l,[])
 |l,d::ds=>((doD (gvL l d).1 ds).1,⟨1,depD d,(gvL l d).2⟩::(doD (gvL l d).1 ds).2)
def goX(l:List Pr)(x:Tx):Prop:=x.sign=Y3q x/\x.nonce=(acL l (keyD x.pub)).nonce/\x.nonce<18446744073709551615
noncomputable instance(l:List Pr)(x:Tx):Decidable (goX l x):=Classical.propDecidable _
noncomputable def doX(box:Dig):List Pr->List Tx->Option (List Pr×List Rec)
 |l,[]=>some (l,[])
 |l,x::xs=>if goX l x then(match doX box (paidL l x box).1 xs with
   |some r=>some (r.1,⟨2,idD x,(paidL l x box).2⟩::r.2)
   |none=>none) else none
section
attribute [local irreducible] CoW OpW FlW Step Spec
variable {G:Nat->Option W}
structure Hdr where
 height:Int
 parent:Dig
 state:Dig
 rows:Dig
 many:Int
noncomputable def hdW(h:Hdr):W:=.agg 98 [.int .i64 h.height,dW h.parent,dW h.state,dW h.rows,.int .i64 h.many]
@[simp] theorem hdW_pur(h:Hdr):purW (hdW h)=true:=by simp[hdW]
theorem ent_blkv{C:Cfg}{G:Nat->Option W}{m k0:Nat}{fr:FrW}{hp:HpW}{nw:Nat}{R:Res}{b:Nat}{ty:TypeId}{w w':W}(hb:hget hp b=some (ty,w))(h:View (λ_=>none) w w'):Ent C G m k0 fr hp nw R fr (hset hp b (ty,w')) nw R:=
 ent_blk hb λΓ v hv=>ktq ⟨λ_ h _=>h,λ_ _ _=>rfl,λ_ h=>h,λ_ _=>rfl,λ_ _ _ h=>Yz⟩ h hv
theorem app_bs{C:Cfg}{hp:HpW}{nw:Nat}{ts tx e ty:TypeId}{j k:TyI}{x:W}{b n:Nat}{L M:List UInt8}(hj:C.ty ts=some j)(hd:j.d= .slice e)(hk:C.ty e=some k)(h1:k.size=1)(h2:k.bytes=1)(ht:Nat.beq ty e=true)(hs:srcW C hp tx 1 x=some (zaq M))(hg:hget hp b=some (ty,.arr (n*1) 1 (zaq L)))(hn:L.length=n)(hM:0<M.length)(hb:n+M.length<=1000000000):appW C hp nw ts tx (.sl b 0 0 n 1 none) x=some (.sl nw 0 0 (L++M).length 1 none,(nw,e,.arr ((L++M).length*1) 1 (zaq (L++M)))::hdel hp b,nw+1,.updO b):=by
 have hl:(zaq M).length=M.length:=zeq M;have q:=yZq (C:=C) (hp:=hp) (nw:=nw) (ts:=ts) (tx:=tx) (e:=e) (ty:=ty) (j:=j) (k:=k) (x:=x) (b:=b) (base:=0) (off:=0) (len:=n) (v:=.arr (n*1) 1 (zaq L)) (news:=zaq M) (olds:=zaq L) hj hd hk (by rw[h1];rfl) (by rw[h1];exact hs) (λh=>by rw[h] at hl;simp at hl;omega) (by rw[hl,h2];omega) (by rw[hl];omega) hg (by rw[hl,h1];show n*1<_;omega) ht (by rw[h1];exact zkq Xl (by rw[zeq];exact hn.symm) rfl);rw[h1,hl,<-yYq] at q;rw[List.length_append,hn];exact q
def okH(h:Hdr):Prop:=0<=h.height/\h.height<=1073741824/\0<=h.many/\h.many<=256
noncomputable instance(h:Hdr):Decidable (okH h):=Classical.propDecidable _
theorem vcq(h:Hdr):PS cfg G 114 [hdW h] (.bool (decide (okH h))):=by
 refine gI 10 O (λR k0=>?_);refine gD 0 O (λh1=>?_) (λh1=>?_)
 ·refine gD 3 O (λh2=>?_) (λh2=>?_)
  ·refine gD 4 O (λh3=>?_) (λh3=>?_)
   ·refine gU 4 O ?_;exact gQ 5 O Xr
   ·exact gQ 10 O Xr
  ·exact gQ 15 O Xr
 ·exact gQ 19 O Xr
end
end
section
open Go.Shelf Go.RowKit Go.Lib
def joinRen:Go.Shelf.Ren:=⟨fun|14=>311|15=>335|n=>n,fun|26=>150|22=>58|3=>3|4=>4|0=>0|9=>9|20=>20|5=>5|n=>n,fun|n=>n⟩
theorem joinLays:Go.Proofs.SlLaysJ.n14 Tryz.prog joinRen:={
 mixed:=by kernel_rfl
 f14:=Tryz.func311.trans (congrArg some Xp)
 f15:=Tryz.func335.trans (congrArg some Xp)
 t0:=Tryz.underlying0
 a0:=Tryz.isAgg0
 z0:=Tryz.sizeOf0
 v0:=Tryz.zeroValue0
 t3:=Tryz.underlying3
 a3:=Tryz.isAgg3
 z3:=Tryz.sizeOf3
 v3:=Tryz.zeroValue3
 t4:=Tryz.underlying4
 a4:=Tryz.isAgg4
 z4:=Tryz.sizeOf4
 v4:=Tryz.zeroValue4
 t9:=Tryz.underlying9
 a9:=Tryz.isAgg9
 z9:=Tryz.sizeOf9
 v9:=Tryz.zeroValue9
 t20:=Tryz.underlying20
 a20:=Tryz.isAgg20
 z20:=Tryz.sizeOf20
 v20:=Tryz.zeroValue20
 t22:=Tryz.underlying58
 a22:=Tryz.isAgg58
 z22:=Tryz.sizeOf58
 v22:=Tryz.zeroValue58
 t26:=Tryz.underlying150
 a26:=Tryz.isAgg150
 z26:=Tryz.sizeOf150
 v26:=Tryz.zeroValue150
 t5:=Tryz.underlying5
 z5:=Tryz.sizeOf5
 i5:=by kernel_rfl}
theorem joinMany(b o n c:Nat)(vs:List Value)(ls:List (List UInt8))(sv:Value)(sep:List UInt8)(w:World)(hn:ls.length=n)(h2:2<=n)(hP:Lib.PartsAt w ⟨b,o,none⟩ vs ls)(hcap:n<=c)(hS:Lib.HoldsBytes w sv sep)(hn47:n<=140737488355328)(hlen:Lib.lens ls+sep.length*(n-1)<=140737488355328):
  Calls Tryz.prog 311 #[.slice (some ⟨b,o,none⟩) n c,sv] w λe w'=>∃v',e= .returned v'/\Lib.FreshBytes w.heap.size w' v' (Lib.join ls sep)/\Below w.heap.size w w':=Any.bytes_Join_many joinLays b o n c vs ls sv sep w hn h2 hP hcap hS hn47 hlen
end
section
open Go.RowKit
section
variable {s0:World} {U:Nat} {D:Nat->Prop} {ρ:Env} {h:Heap} {w w':World}
theorem Rel.pushAt(r:Rel s0 U D ρ h w)(hU:h.next+1<=U){b:Blk}{o:Obj}{q pre cap:Nat}(hq:w.heap.size<=q)(g:Below w.heap.size w w')(hn:w'.heap[q]? =some o)(hin:InB (DD D ρ) b)(hk:KnB (ρ.add h.next q pre cap) h.next b o):
  Rel s0 U (λi=>D i\/i=h.next) (ρ.add h.next q pre cap) (h.push b) w'/\Nxt D ρ h w (λi=>D i\/i=h.next) (ρ.add h.next q pre cap) (h.push b) w':=by
 have hne:=r.next_new hU;have hag:Env.Agree (DD D ρ) ρ (ρ.add h.next q pre cap):=Env.add_agree hne;have hdd:∀j m,DD D ρ j m->DD (λi=>D i\/i=h.next) (ρ.add h.next q pre cap) j m:=λj m hj=>⟨.inl hj.1,by rw[(hag j m hj).2.2.1];exact hj.2⟩
 have hb:∀j,D j->(ρ.add h.next q pre cap).b j=ρ.b j:=λj hj=>(hag j 0 ⟨hj,Nat.zero_le _⟩).1
 have hbn:(ρ.add h.next q pre cap).b h.next=q:=by simp[Env.add]
 have get:∀j c,(D j\/j=h.next) ->(h.push b).get j=some c->(j=h.next/\c=b)\/(D j/\h.get j=some c):=λj c hj hc=>by
  rw[Heap.get_push] at hc;split at hc
  ·rename_i e;cases hc;exact .inl ⟨e,rfl⟩
  ·rename_i e;rcases hj with hj|hj
   ·exact .inr ⟨hj,hc⟩
   ·exact absurd hj e
 have hlt:∀j c,D j->h.get j=some c->ρ.b j<w.heap.size:=λj c hj hc=>by
  obtain⟨o,h1,_⟩:=r.has j c hj hc;exact(Array.getElem?_eq_some_iff.1 h1).1
 have hsz:s0.heap.size<=w.heap.size:=r.base.size;refine⟨⟨λj hj=>?_,λj hj=>?_,λj c hj hc=>?_,λj c hj hc=>?_,λj k c d hj hk' hc hd hoc hod hne'=>?_,λj c hj hc hoc=>?_,λj k c d hj hk' hc hd hoc hod=>?_,?_⟩,?_⟩
 ·show j<h.next+1\/_;rcases hj with hj|hj
  ·have:=r.lt j hj;omega
  ·omega
 ·have hj:h.next+1<=j:=hj;rw[Heap.get_push,if_neg Xd];exact r.wf j Xd
 ·rcases get j c hj hc with ⟨rfl,rfl⟩|⟨hj,hc⟩
  ·exact⟨o,by rw[hbn];exact hn,hk⟩
  ·obtain⟨o,h1,h2⟩:=r.has j c hj hc;exact⟨o,by rw[hb j hj,g.block _ (hlt j c hj hc)];exact h1,KnB.agree hag (m:=0) ⟨hj,Nat.zero_le _⟩ (r.clo j c hj hc) h2⟩
 ·rcases get j c hj hc with ⟨rfl,rfl⟩|⟨hj,hc⟩
  ·exact hin.mono hdd
  ·exact(r.clo j c hj hc).mono hdd
 ·rcases get j c hj hc with ⟨rfl,rfl⟩|⟨hj1,hc1⟩<;>rcases get k d hk' hd with ⟨rfl,rfl⟩|⟨hk1,hd1⟩
  ·exact absurd rfl hne'
  ·rw[hbn,hb k hk1];have:=hlt k d hk1 hd1;omega
  ·rw[hbn,hb j hj1];have:=hlt j c hj1 hc1;omega
  ·rw[hb j hj1,hb k hk1];exact r.inj j k c d hj1 hk1 hc1 hd1 hoc hod hne'
 ·rcases get j c hj hc with ⟨rfl,rfl⟩|⟨hj,hc⟩
  ·rw[hbn];omega
  ·rw[hb j hj];exact r.own j c hj hc hoc
 ·rcases get j c hj hc with ⟨rfl,rfl⟩|⟨hj1,hc1⟩<;>rcases get k d hk' hd with ⟨rfl,rfl⟩|⟨hk1,hd1⟩
  ·rw[hoc] at hod;cases hod
  ·rw[hbn,hb k hk1];have:=hlt k d hk1 hd1;omega
  ·rw[hbn,hb j hj1];have:=hlt j c hj1 hc1;omega
  ·rw[hb j hj1,hb k hk1];exact r.old j k c d hj1 hk1 hc1 hd1 hoc hod
 ·exact⟨g.os.trans r.base.os,g.tape.trans r.base.tape,g.output.trans r.base.output,Nat.le_trans hsz g.size,λk hk=>(g.block k Xd).trans (r.base.block k hk)⟩
 ·refine⟨λ_ h=>.inl h,λj hj=>?_,λj hj=>?_,λc hc _=>g.block c hc,λj hj hn' hl=>?_,g.size,Nat.le_refl _,Nat.le_succ _,g.os,g.tape,g.output⟩
  ·rcases hj with hj|hj
   ·exact .inl hj
   ·exact .inr ⟨Nat.le_of_eq hj.symm,by show j<h.next+1;omega⟩
  ·have:j≠h.next:=by
    rcases hj with hj|hj
    ·omega
    ·have hj:h.next+1<=j:=hj;omega
   simp[Env.add,this]
  ·have hl:j<h.next+1:=hl;obtain rfl:j=h.next:=by omega
   exact .inl (by rw[hbn];exact hq)
theorem byJ_spec(r:Rel s0 U D ρ h w){v:V}{l:List UInt8}(hin:InD (DD D ρ) v)(hk:byJ h v=some l):Lib.HoldsBytes w (conc ρ v) l:=by
 unfold byJ at hk;split at hk
 ·cases hk;exact⟨none,0,rfl,λ_=>rfl,λa h=>by cases h⟩
 ·rename_i b base off n lim;split at hk
  ·rename_i bv hv;split at hk
   ·rename_i L hL;obtain⟨g1,g2⟩:=vFq ρ hk;obtain⟨q1,_,_,_⟩:=qeq (ρ:=ρ) 50 bv off n 1 L hL;have hcells:=kzq r hin hv hL;rw[g2] at hcells;obtain rfl:n=l.length:=by omega
    exact⟨_,_,rfl,λh=>Yz,λa ha i x hx=>by cases ha;exact hcells i _ (by simp[hx])⟩
   ·cases hk
  ·cases hk
 ·cases hk
theorem bysJ_spec(r:Rel s0 U D ρ h w):∀{xs:List V} {ls:List (List UInt8)},InDL (DD D ρ) xs->bysJ h xs=some ls->xs.length=ls.length/\(∀(i:Nat) v l,(zQq ρ xs)[i]? =some v->ls[i]? =some l->Lib.HoldsBytes w v l)/\∀x∈xs,x.size=1/\x.leaf=true
 |[],ls,_,hk=>by cases hk;exact⟨rfl,λi v l h=>by simp[zQq] at h,λx hx=>by cases hx⟩
 | v ::xs,ls,hin,hk=>by
  unfold bysJ at hk;split at hk
  ·rename_i x r' hx hr;cases hk;obtain⟨h1,h2,h3⟩:=bysJ_spec r hin.2 hr;refine⟨congrArg (· +1) h1,λi u l hu hl=>?_,λy hy=>?_⟩
   ·cases i with
    |zero=>
     simp only[zQq,List.getElem?_cons_zero,Option.some.injEq] at hu hl;subst hu;subst hl
     exact byJ_spec r hin.1 hx
    |succ i=>
     simp only[zQq,List.getElem?_cons_succ] at hu hl;exact h2 i u l hu hl
   ·rcases List.mem_cons.1 hy with rfl|hy
    ·unfold byJ at hx;split at hx
     ·exact⟨rfl,rfl⟩
     ·exact⟨rfl,rfl⟩
     ·cases hx
    ·exact h3 y hy
  ·cases hk
theorem inl_of{D:Nat->Nat->Prop}:∀{l:List V},(∀x∈l,InD D x) ->InDL D l
 |[],_=>trivial
 |x::l,h=>⟨h x (List.mem_cons_self ..),inl_of λy hy=>h y (List.mem_cons_of_mem _ hy)⟩
theorem YLq(ρ:Env):∀{xs:List V},(∀x∈xs,x.size=1/\x.leaf=true) ->zwq ρ 1 xs=zQq ρ xs
 |[],_=>rfl
 |x::xs,h=>by
  have hx:=(h x Xh).2;simp only[zwq,zQq,jTq hx,YLq ρ (xs:=xs) λy hy=>h y (by simp[hy])];rw[yJq (by rfl)];rfl
theorem join_flat:∀ls:List (List UInt8),Lib.join ls []=ls.flatten
 |[]=>rfl
 |x::r=>by
  rw[Lib.join_cons];unfold Lib.joinTail;simp
end
theorem joinOK{C:Cfg}:KnownFn Tryz.prog C 311 joinJ:=λvs h v h' he=>by
 unfold joinJ at he;split at he
 ·rename_i b base off n lim y;split at he
  ·rename_i bv hv hy;split at he
   ·rename_i xs hxs;split at he
    ·rename_i ls hls;split at he
     ·rename_i hb;cases he;simp only[Bool.and_eq_true] at hb;obtain⟨⟨⟨hb1,hb2⟩,hb3⟩,hb4⟩:=hb;have hb1:=Ob hb1;have hb2:=Ob hb2;have hb3:=Ob hb3;have hb4:=Ob hb4;refine⟨ytq _ _,(fnsOK 311 _ (by rfl)).2.1,λs0 U D ρ w hU gl hin rel=>?_⟩;have hU:h.next+1<=U:=hU;have hx:=hin.1;have hyi:=hin.2.1;obtain⟨g1,g2,g3,g4⟩:=qeq (ρ:=ρ) 50 bv off n 1 xs hxs;obtain⟨_,_,_,_,_,_,_,hvin⟩:=rel.val hx.2.2.1 hv;have hxin:InDL (DD D ρ) xs:=g4 _ hvin;obtain⟨k1,k2,k3⟩:=bysJ_spec rel (inl_of (QBq hxin)) hls;have hcells:=kzq rel hx hv hxs;rw[show zwq ρ 1 xs=zQq ρ (z4q 1 xs) by rw[<-YLq ρ k3,jQq ρ 1 xs,vpq ρ _ (uPq 1 xs)]] at hcells;have hge:=kAq hx;have hc0:¬ymq ρ b off 1 lim=0:=by omega
      rw[if_neg hc0] at hcells;have hP:Lib.PartsAt w ⟨ρ.b b,ρ.pre b+off,none⟩ (zQq ρ (z4q 1 xs)) ls:=⟨by rw[jhq,k1],hcells,k2⟩;have hS:=byJ_spec rel hyi hy;have hfl:(z4q 1 xs).length=xs.length:=by rw[xnq,Nat.mul_one]
      have hlens:Lib.lens ls=ls.flatten.length:=by simp[Lib.lens,List.length_flatten]
      have cj:=joinMany (ρ.b b) (ρ.pre b+off) n (ymq ρ b off 1 lim) (zQq ρ (z4q 1 xs)) ls (conc ρ y) [] w Xd hb1 hP hge hS hb2 (by rw[hlens,List.length_nil,Nat.zero_mul,Nat.add_zero];exact hb4)
      have harg:(zQq ρ [.sl b base off n 1 lim,y]).toArray= #[.slice (some ⟨ρ.b b,ρ.pre b+off,none⟩) n (ymq ρ b off 1 lim),conc ρ y]:=by
       simp[zQq,conc,ypq,hc0]
      rw[harg];refine cj.mono ?_;rintro e w' ⟨v',rfl,hfresh,hbel⟩;rw[join_flat] at hfresh;clear hlens cj;generalize ls.flatten=F at hfresh hb3 hb4⊢;obtain⟨g,cap,zs,rfl,hg,hlc,hmax,hzl,hzr,hzb,hcell,hfrz⟩:=hfresh
      have hobj:∃cs ty fz,w'.heap[g]? =some (.cells cs ty fz):=by
       have:=hcell 0 Xd;simp only[World.cell?] at this;split at this
       ·rename_i cs ty fz hh;exact⟨_,_,_,hh⟩
       ·cases this
      obtain⟨cs,ty,fz,hobj⟩:=hobj
      have hcs:∀i,i<cap->cs[i]? =some (.int .u8 (zs.getD i 0)):=λi hi=>by
       have:=hcell i hi;simpa[World.cell?,hobj] using this
      have hval:∀i (hi:i<F.length),zs.getD i 0=(F[i].toNat:Int):=λi hi=>by
       have hz:i<zs.length:=by omega
       have h1:=congrArg (·[i]?) hzb;simp only[Go.Lib.bytesOf,List.getElem?_map,List.getElem?_take,hi,if_true,List.getElem?_eq_getElem hz,Option.map_some,List.getElem?_eq_getElem hi,Option.some.injEq] at h1;obtain⟨q1,q2⟩:=hzr zs[i] (List.getElem_mem hz);rw[<-h1];simp[List.getD,List.getElem?_eq_getElem hz];omega
      have hcells2:cs.toList=cellsV ρ (.arr F.length 1 (qkq F))++cs.toList.drop F.length:=by
       have e:cellsV ρ (.arr F.length 1 (qkq F))=F.map λb=>Value.int .u8 b.toNat:=by
        simp only[cellsV];rw[yJq (by rw[zRq];simp[qkq]),jUq]
       rw[e];apply List.ext_getElem?;intro i;by_cases hi:i<F.length
       ·rw[List.getElem?_append_left (by simpa using hi)];have:=hcs i Xd;rw[hval i hi] at this;simpa[List.getElem?_eq_getElem hi] using this
       ·rw[List.getElem?_append_right Xn,List.getElem?_drop];congr 1
        simp;omega
      have hinv:InD (DD D ρ) (.arr F.length 1 (qkq F)):=InDL_iff.2 λy hy=>by obtain⟨c,_,rfl⟩:=List.mem_map.1 hy;trivial
      have hag:Env.Agree (DD D ρ) ρ (ρ.add h.next g 0 cap):=Env.add_agree (rel.next_new hU)
      obtain⟨r',n'⟩:=rel.pushAt hU (q:=g) (pre:=0) (cap:=cap) (b:=.ro (.arr F.length 1 (qkq F))) hg hbel hobj hinv ⟨[],cs.toList.drop F.length,ty,fz,by
       rw[yRq hag hinv,List.nil_append,<-hcells2],by simp[Env.add],by simp[Env.add];exact hlc⟩
      refine⟨_,_,?_,r',n',by omega,Nat.le_refl _,.inr rfl,?_⟩
      ·have:¬cap=0:=by omega
       simp[conc,ypq,ymq,Env.add,this]
      ·simp[Env.add];exact hlc
     ·cases he
    ·cases he
   ·cases he
  ·cases he
 ·cases he
theorem known0OK:vsq Tryz.prog cfg:=λf k hk=>by
 have hk:(match Nat.beq f 311 with|true=>some joinJ|false=>none)=some k:=hk;split at hk
 ·rename_i e;cases hk;have:=Nat.eq_of_beq_eq_true e;subst this;exact joinOK
 ·cases hk
section
attribute [local irreducible] CoW OpW FlW Step Spec
variable {G:Nat->Option W}
def hdB(h:Hdr):List UInt8:=[beB 8 h.height.toNat,h.parent.1,h.state.1,h.rows.1,beB 4 h.many.toNat].flatten
theorem hdB_len(h:Hdr):(hdB h).length=108:=by simp[hdB,q5q,h.parent.2,h.state.2,h.rows.2]
theorem sub_dig(d:Dig)(i:Nat):(((zaq d.1).drop (0/1)).take 32)=zaq d.1:=by
 have h:(zaq d.1).length=32:=by rw[zeq,d.2]
 rw[show 0/1=0 from rfl,List.drop_zero,List.take_of_length_le (by rw[h];omega)]
theorem hd_sub(h:Hdr):yxq 50 (hdW h) 1 32 1=some (zaq h.parent.1)/\yxq 50 (hdW h) 33 32 1=some (zaq h.state.1)/\yxq 50 (hdW h) 65 32 1=some (zaq h.rows.1):=
 ⟨congrArg some (sub_dig h.parent 0),congrArg some (sub_dig h.state 0),congrArg some (sub_dig h.rows 0)⟩
noncomputable def hashD(h:Hdr):Dig:=tagD 6 [hdB h]
noncomputable def recW(r:Rec):W:=.agg 34 [.int .u8 (.ofNat r.kind.toNat),dW r.id,.int .i64 (r.code:Int)]
@[simp] theorem recW_pur(r:Rec):purW (recW r)=true:=by simp[recW]
def okR(r:Rec):Prop:=(r.kind=1\/r.kind=2)/\(r.code=0\/r.code=151\/(r.kind=2/\r.code=150))
def recB(r:Rec):List UInt8:=([r.kind]++r.id.1)++beB 2 r.code
end
section
attribute [local irreducible] CoW OpW FlW Step Spec
noncomputable def sumD:T->Dig
 |.nil=>tagD 0 []
 |.leaf k v=>tagD 1 [k.1,v]
 |.fork l r=>tagD 2 [(sumD l).1,(sumD r).1]
def vIq(t:T):Prop:=∀p∈t.all,p.2.length<1000000
theorem ok_len:∀{t:T} {d:Nat} {b:Dig},t.ok d b=true->(t.isFork=true->2<=t.all.length)/\(t.non=true->1<=t.all.length)
 |.nil,_,_,_=>⟨λh=>Yz,λh=>Yz⟩
 |.leaf k v,_,_,_=>⟨λh=>Yz,λ_=>by simp[T.all]⟩
 |.fork l r,d,b,h=>by
  obtain⟨_,h1,h2,h3⟩:=ok_fork.1 h;obtain⟨l1,l2⟩:=ok_len h1;obtain⟨r1,r2⟩:=ok_len h2
  have key:2<=l.all.length+r.all.length:=by
   unfold T.two at h3;rcases Bool.or_eq_true_iff.1 h3 with h3|h3
   ·rcases Bool.or_eq_true_iff.1 h3 with h3|h3
    ·have:=l1 h3;omega
    ·have:=r1 h3;omega
   ·obtain⟨q1,q2⟩:=Bool.and_eq_true_iff.1 h3;have:=l2 q1;have:=r2 q2;omega
  have e:(T.fork l r).all.length=l.all.length+r.all.length:=by simp[T.all]
  exact⟨λ_=>by omega,λ_=>by omega⟩
theorem u6q{l r:T}{d d':Nat}{b b':Dig}(h1:l.ok d b=true)(h2:r.ok d' b'=true)(h3:T.two l r=true):2<=l.all.length+r.all.length:=by
 obtain⟨l1,l2⟩:=ok_len h1;obtain⟨r1,r2⟩:=ok_len h2;unfold T.two at h3;rcases Bool.or_eq_true_iff.1 h3 with h3|h3
 ·rcases Bool.or_eq_true_iff.1 h3 with h3|h3
  ·have:=l1 h3;omega
  ·have:=r1 h3;omega
 ·obtain⟨q1,q2⟩:=Bool.and_eq_true_iff.1 h3;have:=l2 q1;have:=r2 q2;omega
theorem node_sub(x:Node):yxq 50 (nW x) 1 32 1=some (zaq x.key.1):=by
 have h:(zaq x.key.1).length=32:=by rw[zeq,x.key.2]
 show some (((zaq x.key.1).drop (0/1)).take 32)=_;rw[show 0/1=0 from rfl,List.drop_zero,List.take_of_length_le (by rw[h];omega)]
theorem tnone_s:PS cfg glK 68 [] (dW (tagD 0 [])):=by
 exact gI 7 O (λR k0=>op_lk O O O O O (.cons (.pur rfl) (.cons .nilfz .nil)) (YZq 0 [] false Xh Xh) Xk Xk (zpq 4 O (gQa 0 O)))
theorem tsum_s(t0:Tree)(hb:t0.nodes.length<=4611686018427387903):∀(t:T) (n:Nat),Rep t0.nodes n t->vIq t->PS cfg glK 65 [tW t0,.int .i64 (n:Int)] (dW (sumD t)):=by
 intro t;induction t with
 |nil=>
  intro n hr hs;obtain rfl:n=0:=by cases hr;rfl
  refine gI 13 O (λR k0=>?_);refine gS 0 O (λh1=>?_) (λh1=>?_)
  ·exact gC 2 O (tnone_s) (gQa 5 O)
  ·exfalso;omega
 |leaf k v=>
  intro n hr hs;have hle:=hr.le;have hv:v.length<1000000:=hs (k,v) (by simp[T.all]);cases hr with
  |leaf h=>
  rename_i n l r;refine gI 13 O (λR k0=>?_);refine gS 0 O (λh1=>?_) (λh1=>?_)
  ·exfalso;omega
  ·refine gA 7 O (n) (gP 0 O (zqq (i:=n) O O O O O O O (ziq nW h)) (zbq 20 O ?_));first|refine fl_lk O O O O O (.cons (.pur rfl) (.cons (.sl2 (full:=false) rfl (.arr (.cons (.sl (full:=false) (c:=nW ⟨true,k,v,l,r⟩) (xs:=zaq k.1) rfl Xh (node_sub _) Xi) (.cons (.pur Xh) .nil))) rfl Xi) .nil)) (YZq 1 [k.1,v] false Xh (by simp[k.2,hv])) Xk Xk Xt ?_|refine fl_lk O O O O O (.cons (.pur rfl) (.cons .nilfz .nil)) (YZq 0 [] false Xh Xh) Xk Xk Xt ?_
   exact ykq 5 O (gQa 0 O)
 |fork tl tr ihL ihR=>
  intro n hr hs;have hle:=hr.le;cases hr with
  |fork h hl0 hr0 hL hR=>
  rename_i n l r k v;have sL:vIq tl:=λp hp=>hs p Qi
  have sR:vIq tr:=λp hp=>hs p Qi
  refine gI 13 O (λR k0=>?_);refine gS 0 O (λh1=>?_) (λh1=>?_)
  ·exfalso;omega
  ·exact gA 7 O (n) (gP 0 O (zqq (i:=n) O O O O O O O (ziq nW h)) (gC 20 O (ihL l hL sL) (gC 3 O (ihR r hR sR) (zbq 11 O (fl_lk O O O O O (.cons (.pur rfl) (.cons (.sl2 (full:=false) rfl (.arr (.cons (.sl (full:=false) (xs:=zaq (sumD tl).1) rfl Xh (zkq Xl (by simp[zeq,(sumD tl).2]) rfl) Xi) (.cons (.sl (full:=false) (xs:=zaq (sumD tr).1) rfl Xh (zkq Xl (by simp[zeq,(sumD tr).2]) rfl) Xi) .nil))) rfl Xi) .nil)) (YZq 2 [(sumD tl).1,(sumD tr).1] false Xh (by simp[(sumD tl).2,(sumD tr).2])) Xk Xk Xt (ykq 4 O (gQa 0 O)))))))
theorem tsum_ok(t:Tree)(n:Nat)(t0:T)(h:IsT t n t0):PS cfg glK 24 [tW t] (.tup [dW (sumD t0),.int .i64 0]):=by
 have hs:vIq t0:=λp hp=>by have:=(h.val p hp).2;omega
 have hlen:=h.len;refine gI 11 O (λR k0=>?_);refine gC 0 O (zWq (j1q t Xd) (by rw[if_pos h.may])) ?_;refine zbq 17 O ?_;refine yqq O O O O O (by rw[h.root];rfl) (tsum_s t Xd t0 n h.rep hs) ?_;refine zpq 5 O ?_;exact gQa 0 O
end
section
attribute [local irreducible] CoW OpW FlW Step Spec
variable {G:Nat->Option W}
def frontN(n:Nat):Nat:=2^(lenM (n-1) -1)
noncomputable def rootF:Nat->List (List UInt8) ->Dig
 |0,_=>tagD 0 []
 |n+1,ps=>match ps with
  |[]=>tagD 0 []
  |[p]=>tagD 7 [p]
  |p::q::r=>tagD 8 [(rootF n ((p::q::r).take (frontN (p::q::r).length))).1,(rootF n ((p::q::r).drop (frontN (p::q::r).length))).1]
noncomputable def rootD(ps:List (List UInt8)):Dig:=rootF 256 ps
end
section
theorem jsq(L:List Rec):purL (L.map recW)=true:=z3q (λr=>recW_pur r) L
attribute [local irreducible] CoW OpW FlW Step Spec
variable {G:Nat->Option W}
end
noncomputable def bodW(ds:List Depo)(xs:List Tx)(f g:Bool):W:=.agg 2 [.fz (ds.map pdW) 34 f,.fz (xs.map txW) 99 g]
@[simp] theorem bodW_pur(ds:List Depo)(xs:List Tx)(f g:Bool):purW (bodW ds xs f g)=true:=by
 have h1:purW (.fz (ds.map pdW) 34 f)=true:=z3q pdW_pur ds;have h2:purW (.fz (xs.map txW) 99 g)=true:=z3q txW_pur xs;show(purW (.fz (ds.map pdW) 34 f)&&(purW (.fz (xs.map txW) 99 g)&&true))=true;rw[h1,h2];rfl
@[simp] theorem pdl_pur(l:List Depo):purL (l.map pdW)=true:=z3q pdW_pur l
@[simp] theorem txl_pur(l:List Tx):purL (l.map txW)=true:=z3q txW_pur l
structure RcI where
 kind:UInt8
 id:Dig
 code:Int
noncomputable def rcW(r:RcI):W:=.agg 34 [.int .u8 (.ofNat r.kind.toNat),dW r.id,.int .i64 r.code]
@[simp] theorem rcW_pur(r:RcI):purW (rcW r)=true:=by simp[rcW]
@[simp] theorem rcl_pur(l:List RcI):purL (l.map rcW)=true:=z3q rcW_pur l
structure Lk where
 hdr:Hdr
 root:Int
 ds:List Depo
 xs:List Tx
 rs:List RcI
noncomputable def lkG(l:Lk):W:=.agg 102 [hdW l.hdr,.int .i64 l.root,bodW l.ds l.xs false false,.fz (l.rs.map rcW) 34 false]
@[simp] theorem lkG_pur(l:Lk):purW (lkG l)=true:=by
 have h:purW (.fz (l.rs.map rcW) 34 false)=true:=z3q rcW_pur l.rs;show(purW (hdW l.hdr)&&(true&&(purW (bodW l.ds l.xs false false)&&(purW (.fz (l.rs.map rcW) 34 false)&&true))))=true;rw[h,hdW_pur,bodW_pur];rfl
@[simp] theorem Qtq(l:List Lk):purL (l.map lkG)=true:=z3q lkG_pur l
structure Ch where
 tree:Tree
 links:List Lk
noncomputable def chG(c:Ch):W:=.agg 3 [tW c.tree,.fz (c.links.map lkG) 102 false]
@[simp] theorem chG_pur(c:Ch):purW (chG c)=true:=by
 show(purW (tW c.tree)&&(purW (.fz (c.links.map lkG) 102 false)&&true))=true;rw[tW_pur,show purW (.fz (c.links.map lkG) 102 false)=true from Qtq _];rfl
structure Vw where
 number:Int
 down:Bool
 final:Int
 ch:Ch
noncomputable def vwG(v:Vw):W:=.agg 6 [.int .i64 v.number,.bool v.down,.int .i64 v.final,chG v.ch]
@[simp] theorem xXq(v:Vw):purW (vwG v)=true:=by
 show(true&&(true&&(true&&(purW (chG v.ch)&&true))))=true;rw[chG_pur];rfl
def BodyM(ds:List Depo)(xs:List Tx):Prop:=ds.length<=16/\xs.length<=16/\∀x∈xs,x.sign=Y3q x
section
attribute [local irreducible] CoW OpW FlW Step Spec
def hdZ:Hdr:=⟨0,yyq,yyq,yyq,0⟩
end
section
noncomputable def wkF(t:Tree)(box:Dig)(L:List Rec):W:=.agg 35 [tW t,dW box,.fz (L.map recW) 34 false]
@[simp] theorem wkF_pur(t:Tree)(box:Dig)(L:List Rec):purW (wkF t box L)=true:=by
 show(purW (tW t)&&(purW (dW box)&&(purW (.fz (L.map recW) 34 false)&&true)))=true;rw[tW_pur,dW_pur,show purW (.fz (L.map recW) 34 false)=true from jsq L];rfl
attribute [local irreducible] CoW OpW FlW Step Spec
attribute [local simp] jsq
noncomputable def headD(p:Hdr)(t1:T)(L:List Rec):Hdr:=⟨p.height+1,hashD p,sumD t1,rootD (L.map recB),L.length⟩
end
section
attribute [local irreducible] CoW OpW FlW Step Spec
variable {G:Nat->Option W}
structure BodOk(ds:List Depo)(xs:List Tx):Prop where
 dep:∀d∈ds,d.number<18446744073709551616/\d.amount<18446744073709551616
 tx:∀x∈xs,x.ok
 dl:ds.length<=140737488351232
 xl:xs.length<=140737488351232
def GreatK(ds:List Depo)(xs:List Tx):Prop:=(4<ds.length/\ds.length<=16)\/20<ds.length\/(4<xs.length/\xs.length<=16)\/20<xs.length
noncomputable instance(ds:List Depo)(xs:List Tx):Decidable (GreatK ds xs):=Classical.propDecidable _
end
theorem T.uniq:∀{a b:T} {d:Nat} {k:Dig},Zr d k->a.ok d k=true->b.ok d k=true->a.all=b.all->a=b
 |.nil,b,d,k,_,_,hb,e=>by
  cases b with
  |nil=>rfl
  |leaf=>simp[T.all] at e
  |fork l r=>
   obtain⟨_,h1,h2,h3⟩:=ok_fork.1 hb;have:=u6q h1 h2 h3;have e2:=congrArg List.length e;simp only[T.all,List.length_append,List.length_cons,List.length_nil] at e2;omega
 |.leaf x v,b,d,k,_,_,hb,e=>by
  cases b with
  |nil=>simp[T.all] at e
  |leaf=>simp only[T.all,List.cons.injEq,Prod.mk.injEq,and_true] at e;rw[e.1,e.2]
  |fork l r=>
   obtain⟨_,h1,h2,h3⟩:=ok_fork.1 hb;have:=u6q h1 h2 h3;have e2:=congrArg List.length e;simp only[T.all,List.length_append,List.length_cons,List.length_nil] at e2;omega
 |.fork l r,b,d,k,hz,ha,hb,e=>by
  obtain⟨hd,h1,h2,h3⟩:=ok_fork.1 ha;have t1:=u6q h1 h2 h3;cases b with
  |nil=>
   have e2:=congrArg List.length e;simp only[T.all,List.length_append,List.length_cons,List.length_nil] at e2;omega
  |leaf=>
   have e2:=congrArg List.length e;simp only[T.all,List.length_append,List.length_cons,List.length_nil] at e2;omega
  |fork l' r'=>
   obtain⟨_,g1,g2,g3⟩:=ok_fork.1 hb
   have key:∀{l r:T},(T.fork l r).ok d k=true->l.all=(T.fork l r).all.filter (λp=>bitN p.1 d==0)/\r.all=(T.fork l r).all.filter (λp=>bitN p.1 d==1):=by
    intro l r h;obtain⟨b1,b2⟩:=Qkq hz h;simp only[T.all,List.filter_append];rw[vZq (l:=l.all) (λp hp=>by simp[b1 p hp]),uQq (l:=r.all) (λp hp=>by simp[b2 p hp]),uQq (l:=l.all) (λp hp=>by simp[b1 p hp]),vZq (l:=r.all) (λp hp=>by simp[b2 p hp])];simp
   obtain⟨k1,k2⟩:=key ha;obtain⟨k3,k4⟩:=key hb;rw[T.uniq (qKq hz) h1 g1 (by rw[k1,k3,e]),T.uniq (qJq hz hd) h2 g2 (by rw[k2,k4,e])]
def recI(r:Rec):RcI:=⟨r.kind,r.id,(r.code:Int)⟩
def FolB(h p:Hdr):Prop:=okH h/\okH p/\h.height=p.height+1/\h.parent=hashD p
noncomputable instance(h p:Hdr):Decidable (FolB h p):=Classical.propDecidable _
noncomputable instance(ds:List Depo)(xs:List Tx):Decidable (BodyM ds xs):=Classical.propDecidable _
def verT(c:Ch)(r:Int):Tree:=⟨c.tree.nodes,r⟩
structure LkM(c:Ch)(i:Nat)(x:Lk):Prop where
 height:x.hdr.height=(i:Int)
 hdr:okH x.hdr
 fol:∀y,0<i->c.links[i-1]? =some y->FolB x.hdr y.hdr
 recs:((x.rs.length:Nat):Int)=x.hdr.many
 body:BodyM x.ds x.xs
 tree:MayA (verT c x.root)
structure MayC(c:Ch):Prop where
 one:0<c.links.length
 len:c.links.length<=256
 root:∀x,c.links[c.links.length-1]? =some x->c.tree.root=x.root
 link:∀i x,c.links[i]? =some x->LkM c i x
noncomputable instance(c:Ch):Decidable (MayC c):=Classical.propDecidable _
noncomputable def firH(t0:T):Hdr:=⟨0,yyq,sumD t0,tagD 0 [],0⟩
structure LkS(c:Ch)(box:Dig)(i:Nat)(x:Lk):Prop where
 first:i=0->∃n t0,IsA (verT c x.root) n t0/\x.hdr=firH t0/\x.ds=[]/\x.xs=[]
 next:∀y,0<i->c.links[i-1]? =some y->∃n t0 n1 t1 rs,IsA (verT c y.root) n t0/\IsA (verT c x.root) n1 t1/\doX box (doD t0.all x.ds).1 x.xs=some (t1.all,rs)/\x.hdr=headD y.hdr t1 ((doD t0.all x.ds).2++rs)/\x.rs=((doD t0.all x.ds).2++rs).map recI
structure SoundC(c:Ch)(box:Dig):Prop extends MayC c where
 sound:∀i x,c.links[i]? =some x->LkS c box i x
noncomputable instance(c:Ch)(box:Dig):Decidable (SoundC c box):=Classical.propDecidable _
theorem qXq{α:Type}{l:List α}{i:Nat}{x:α}(h:l[i]? =some x):i<l.length:=(List.getElem?_eq_some_iff.1 h).1
end
end Go.Proofs.YtfliaigjcadegabGreatDoor

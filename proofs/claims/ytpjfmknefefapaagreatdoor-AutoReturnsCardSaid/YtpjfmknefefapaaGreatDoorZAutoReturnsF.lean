/-
  What the proof of AutoReturns stands on, part 6. No condition.
-/
import Derived.Ground.SlbNamesProg
import Derived.Shelf.Bytes.SlJoin
import Derived.Test.YtpjfmknefefapaaGreatDoorProg
import Derived.OpenShut
import Derived.Handed
import Derived.ChangeArms
import Derived.ChangeOld
import Derived.OpenVars
import Derived.Carry
import Derived.Test.YtpjfmknefefapaaGreatDoorZAutoReturnsE
set_option linter.unusedSimpArgs false
set_option linter.unusedVariables false
namespace Go.Proofs.YtpjfmknefefapaaGreatDoor
@[irreducible] def bitN(k:Dig)(i:Nat):Nat:=kn k (i/8)/2^(7-i%8)%2
theorem Jxq(k:Dig)(i:Nat):bitN k i<=1:=by unfold bitN;omega
theorem xor_le(m n:Nat)(hm:m<=255)(hn:n<=255):m^^^n<=255:=by
 have:m^^^n<2^8:=Nat.xor_lt_two_pow Xd Xd;omega
theorem pow_le(n:Nat):2^(7-n)<=255:=by
 have h:∀m,m<=7->2^m<=255:=by decide
 exact h _ Xd
@[irreducible] def klq(k:Dig)(i:Nat):Dig:=setD k (i/8) (UInt8.ofNat (kn k (i/8)^^^2^(7-i%8)))
@[irreducible] def lenM(x:Nat):Nat:=if x=0 then 0 else Nat.log2 x+1
theorem lenM_le(x:Nat)(hx:x<=255):lenM x<=8:=by
 have h:∀x,x<=255->lenM x<=8:=by decide+kernel
 exact h x hx
def dOf(a b:Dig)(i:Nat):Nat×Nat:=(i,kn a i^^^kn b i)
@[irreducible] def dTo(a b:Dig)(n:Nat):List (Nat×Nat):=((List.range n).map (dOf a b)).filter (λp=>p.2 !=0)
theorem dTo_zero(a b:Dig):dTo a b 0=[]:=by unfold dTo;rfl
theorem u2q(a b:Dig)(n:Nat):dTo a b (n+1)=dTo a b n++(if kn a n^^^kn b n=0 then [] else [dOf a b n]):=by
 unfold dTo;rw[List.range_succ,List.map_append,List.filter_append];congr 1
 simp only[List.map_cons,List.map_nil,List.filter_cons,List.filter_nil,dOf];split<;>split<;>simp_all
theorem dTo_pre(a b:Dig)(n m:Nat):dTo a b n<+:dTo a b (n+m):=by
 induction m with
 |zero=>exact List.prefix_refl _
 |succ m ih=>rw[<-Nat.add_assoc,u2q];exact ih.trans (List.prefix_append _ _)
theorem dTo_get(a b:Dig)(i n:Nat)(hi:i<n)(hx:kn a i^^^kn b i≠0):(dTo a b n)[(dTo a b i).length]? =some (dOf a b i):=by
 obtain⟨m,rfl⟩:∃m,n=(i+1)+m:=⟨n-(i+1),by omega⟩
 obtain⟨l,hl⟩:=dTo_pre a b (i+1) m;rw[<-hl,u2q,if_neg hx];simp
theorem dTo_mem{a b:Dig}{n:Nat}{x:Nat×Nat}(h:x∈dTo a b n):x.1<n/\x.2=kn a x.1^^^kn b x.1/\x.2≠0:=by
 unfold dTo at h;rw[List.mem_filter,List.mem_map] at h;obtain⟨⟨i,hi,rfl⟩,h2⟩:=h;exact⟨List.mem_range.1 hi,rfl,by simpa using h2⟩
@[irreducible] def ylq(a b:Dig):Nat:=match dTo a b 32 with
 |[]=>256
 |x::_=>8*x.1+(8-lenM x.2)
@[irreducible] def ypq(a b:Dig):Bool:=match dTo a b 32 with
 |[]=>false
 |x::_=>decide (kn a x.1<kn b x.1)
theorem byte_top:∀x,x<256->x≠0->lenM x<=8/\1<=lenM x/\x.testBit (lenM x-1)=true/\∀k,k<8->lenM x-1<k->x.testBit k=false:=by decide+kernel
theorem qCq(m k:Nat):m/2^k%2=(m.testBit k).toNat:=by rw[Nat.toNat_testBit]
theorem lt_top{m n L:Nat}(h:∀k,L<k->m.testBit k=n.testBit k)(hm:m.testBit L=false)(hn:n.testBit L=true):m<n:=by
 have h1:m/2^(L+1)=n/2^(L+1):=by
  apply Nat.eq_of_testBit_eq;intro i;rw[Nat.testBit_div_two_pow,Nat.testBit_div_two_pow];exact h _ Xd
 have e:∀x,x/2^(L+1)=x/2^L/2:=λx=>by rw[Nat.pow_succ,Nat.div_div_eq_div_mul]
 have hm':m/2^L%2=0:=by rw[qCq,hm];rfl
 have hn':n/2^L%2=1:=by rw[qCq,hn];rfl
 rw[e,e] at h1;have:m/2^L<n/2^L:=by omega
 exact Nat.lt_of_not_le λhc=>by have:=Nat.div_le_div_right (c:=2^L) hc;omega
theorem Jtq(m n:Nat)(hm:m<=255)(hn:n<=255)(hx:m^^^n≠0):
  1<=lenM (m^^^n)/\lenM (m^^^n)<=8/\(∀t,t<8-lenM (m^^^n) ->m/2^(7-t)%2=n/2^(7-t)%2)/\
   ¬m/2^(lenM (m^^^n) -1)%2=n/2^(lenM (m^^^n) -1)%2/\(m<n↔m/2^(lenM (m^^^n) -1)%2<n/2^(lenM (m^^^n) -1)%2):=by
 have hle:=xor_le m n hm hn;obtain⟨h1,h2,h3,h4⟩:=byte_top (m^^^n) Xd hx
 have hab:∀k,lenM (m^^^n) -1<k->m.testBit k=n.testBit k:=λk hk=>by
  by_cases hk8:k<8
  ·have:=h4 k hk8 hk;rw[Nat.testBit_xor] at this;revert this;cases m.testBit k<;>cases n.testBit k<;>simp
  ·have e1:m<2^k:=Nat.lt_of_lt_of_le (show m<2^8 by omega) (Nat.pow_le_pow_right Xd Xd);have e2:n<2^k:=Nat.lt_of_lt_of_le (show n<2^8 by omega) (Nat.pow_le_pow_right Xd Xd);rw[Nat.testBit_lt_two_pow e1,Nat.testBit_lt_two_pow e2]
 rw[Nat.testBit_xor] at h3;refine⟨h2,h1,λt ht=>?_,?_,?_⟩
 ·rw[qCq,qCq,hab _ Xd]
 ·rw[qCq,qCq];revert h3;cases m.testBit (lenM (m^^^n) -1)<;>cases n.testBit (lenM (m^^^n) -1)<;>simp
 ·rw[qCq,qCq];cases hmb:m.testBit (lenM (m^^^n) -1)<;>cases hnb:n.testBit (lenM (m^^^n) -1)<;>simp only[hmb,hnb] at h3
  ·simp at h3
  ·have:=lt_top hab hmb hnb;simp[this]
  ·have:=lt_top (λk hk=>(hab k hk).symm) hnb hmb;simp;omega
  ·simp at h3
theorem xor_zero{m n:Nat}:m^^^n=0↔m=n:=by
 constructor
 ·intro h;apply Nat.eq_of_testBit_eq;intro i;have:(m^^^n).testBit i=false:=by rw[h];simp
  rw[Nat.testBit_xor] at this;revert this;cases m.testBit i<;>cases n.testBit i<;>simp
 ·rintro rfl;exact Nat.xor_self m
theorem dTo_nil{a b:Dig}{n:Nat}(h:dTo a b n=[]):∀i,i<n->kn a i=kn b i:=λi hi=>by
 rcases Classical.em (kn a i^^^kn b i=0) with hx|hx
 ·exact xor_zero.1 hx
 ·have:=dTo_get a b i n hi hx;rw[h] at this;simp at this
theorem u3q{a b:Dig}{x:Nat×Nat}{l:List (Nat×Nat)}:∀{n:Nat},dTo a b n=x::l->x.1<n/\x.2=kn a x.1^^^kn b x.1/\x.2≠0/\∀i,i<x.1->kn a i=kn b i:=by
 intro n h;obtain⟨h1,h2,h3⟩:=dTo_mem (a:=a) (b:=b) (n:=n) (x:=x) (by rw[h];simp);refine⟨h1,h2,h3,?_⟩;revert l
 induction n with
 |zero=>omega
 |succ n ih=>
  intro l h;rw[u2q] at h;cases hd:dTo a b n with
  |nil=>
   have:=dTo_nil hd;intro i hi;exact this i Xd
  |cons y r=>
   rw[hd] at h;have hy:y=x:=by simpa using congrArg List.head? h
   subst hy;have hm:=(dTo_mem (a:=a) (b:=b) (n:=n) (x:=y) (by rw[hd];simp)).1;exact ih hm hd
def JGq(a b:Dig)(s:Nat):Prop:=(∀j,j<s->bitN a j=bitN b j)/\(s=256\/(s<256/\¬bitN a s=bitN b s))
theorem uzq(a b:Dig):JGq a b (ylq a b):=by
 unfold ylq;cases hd:dTo a b 32 with
 |nil=>
  have h:=dTo_nil hd;exact⟨λj hj=>by simp only at hj;unfold bitN;rw[h (j/8) Xd],.inl rfl⟩
 |cons x l=>
  obtain⟨h1,h2,h3,h4⟩:=u3q hd;simp only;have hb:=Jtq (kn a x.1) (kn b x.1) (uOq _ _) (uOq _ _) (by rw[<-h2];exact h3);rw[<-h2] at hb;obtain⟨b1,b2,b3,b4,-⟩:=hb;refine⟨λj hj=>?_,.inr ⟨by omega,?_⟩⟩
  ·unfold bitN;by_cases hjx:j/8<x.1
   ·rw[h4 _ hjx]
   ·have e:j/8=x.1:=by omega
    rw[e];exact b3 (j%8) Xd
  ·unfold bitN;rw[show(8*x.1+(8-lenM x.2))/8=x.1 by omega,show 7-(8*x.1+(8-lenM x.2))%8=lenM x.2-1 by omega];exact b4
theorem shared_uniq{a b:Dig}{s t:Nat}(hs:JGq a b s)(ht:JGq a b t):s=t:=by
 obtain⟨s1,s2⟩:=hs;obtain⟨t1,t2⟩:=ht;rcases Nat.lt_trichotomy s t with h|h|h
 ·have:=t1 s h;rcases s2 with s2|⟨_,s2⟩
  ·omega
  ·exact absurd this s2
 ·exact h
 ·have:=s1 t h;rcases t2 with t2|⟨_,t2⟩
  ·omega
  ·exact absurd this t2
theorem ahead_is(a b:Dig):ypq a b=decide (ylq a b<256/\bitN a (ylq a b)<bitN b (ylq a b)):=by
 unfold ypq ylq;cases hd:dTo a b 32 with
 |nil=>simp
 |cons x l=>
  obtain⟨h1,h2,h3,h4⟩:=u3q hd;simp only;have hb:=Jtq (kn a x.1) (kn b x.1) (uOq _ _) (uOq _ _) (by rw[<-h2];exact h3);rw[<-h2] at hb;obtain⟨b1,b2,b3,b4,b5⟩:=hb;refine decide_eq_decide.2 ?_;unfold bitN;rw[show(8*x.1+(8-lenM x.2))/8=x.1 by omega,show 7-(8*x.1+(8-lenM x.2))%8=lenM x.2-1 by omega,b5];constructor
  ·exact λh=>⟨by omega,h⟩
  ·exact λh=>h.2
theorem ofNat_u8(n:Nat)(h:n<=255):(UInt8.ofNat n).toNat=n:=by simp;omega
theorem kn_turn(k:Dig)(i j:Nat)(hj:j<32)(hi:i<256):kn (klq k i) j=if j=i/8 then kn k j^^^2^(7-i%8) else kn k j:=by
 unfold klq;rw[kn_set _ _ _ _ hj];by_cases h:i/8=j
 ·rw[if_pos h,if_pos h.symm,h,ofNat_u8];exact xor_le _ _ (uOq _ _) (pow_le _)
 ·rw[if_neg h,if_neg (λe=>h e.symm)]
theorem Yvq(k:Dig)(i j:Nat)(hi:i<256)(hj:j<256)(h:¬j=i):bitN (klq k i) j=bitN k j:=by
 unfold bitN;rw[kn_turn _ _ _ Xd hi];by_cases h8:j/8=i/8
 ·rw[if_pos h8,qCq,qCq,Nat.testBit_xor,Nat.testBit_two_pow_of_ne Xd];simp
 ·rw[if_neg h8]
theorem bit_turn_eq(k:Dig)(i:Nat)(hi:i<256):bitN (klq k i) i=1-bitN k i:=by
 unfold bitN;rw[kn_turn _ _ _ Xd hi,if_pos rfl,qCq,qCq,Nat.testBit_xor,Nat.testBit_two_pow_self];cases (kn k (i/8)).testBit (7-i%8)<;>rfl
theorem shared_eq{a b:Dig}:ylq a b=256↔a=b:=by
 constructor
 ·intro h;cases hd:dTo a b 32 with
  |nil=>exact dig_ext (dTo_nil hd)
  |cons x l=>
   exfalso
   obtain⟨h1,h2,h3,h4⟩:=u3q hd;have hb:=Jtq (kn a x.1) (kn b x.1) (uOq _ _) (uOq _ _) (by rw[<-h2];exact h3);rw[<-h2] at hb;unfold ylq at h;rw[hd] at h;simp only at h;omega
 ·rintro rfl;rcases(uzq a a).2 with h|⟨_,h⟩
  ·exact h
  ·exact absurd rfl h
theorem xbq{a b:Dig}{d:Nat}(hd:d<=256):d<=ylq a b↔∀j,j<d->bitN a j=bitN b j:=by
 obtain⟨h1,h2⟩:=uzq a b;constructor
 ·exact λh j hj=>h1 j Xd
 ·intro h;rcases h2 with h2|⟨h2,h3⟩
  ·omega
  ·exact Nat.le_of_not_lt λhlt=>h3 (h _ hlt)
theorem ahead_iff{a b:Dig}:ypq a b=true↔∃s,s<256/\(∀j,j<s->bitN a j=bitN b j)/\bitN a s=0/\bitN b s=1:=by
 rw[ahead_is];have hs:=uzq a b;constructor
 ·intro h;have h:=of_decide_eq_true h;refine⟨ylq a b,h.1,hs.1,?_,?_⟩<;>(have:=Jxq b (ylq a b);omega)
 ·rintro⟨s,h1,h2,h3,h4⟩;have:ylq a b=s:=shared_uniq hs ⟨h2,.inr ⟨h1,by omega⟩⟩;rw[this];exact decide_eq_true ⟨h1,by omega⟩
theorem xTq{a b:Dig}(h:ypq a b=true):a≠b:=by
 rintro rfl;obtain⟨s,_,_,h3,h4⟩:=ahead_iff.1 h;omega
theorem ahead_self(a:Dig):ypq a a=false:=by
 cases h:ypq a a with
 |false=>rfl
 |true=>exact absurd rfl (xTq h)
theorem Yzq{a b c:Dig}(h1:ypq a b=true)(h2:ypq b c=true):ypq a c=true:=by
 obtain⟨s,a1,a2,a3,a4⟩:=ahead_iff.1 h1;obtain⟨t,b1,b2,b3,b4⟩:=ahead_iff.1 h2;refine ahead_iff.2 ?_;rcases Nat.lt_trichotomy s t with h|h|h
 ·exact⟨s,a1,λj hj=>(a2 j hj).trans (b2 j Xd),a3,by rw[<-b2 s h];exact a4⟩
 ·subst h;omega
 ·exact⟨t,b1,λj hj=>(a2 j Xd).trans (b2 j hj),by rw[a2 t h];exact b3,b4⟩
theorem YAq{a b:Dig}(h:a≠b):ypq a b=true\/ypq b a=true:=by
 have hs:=uzq a b;have h256:ylq a b≠256:=λe=>h (shared_eq.1 e)
 rcases hs.2 with h2|⟨h1,h2⟩
 ·exact absurd h2 h256
 ·have x1:=Jxq a (ylq a b);have x2:=Jxq b (ylq a b);rcases Nat.eq_zero_or_pos (bitN a (ylq a b)) with h3|h3
  ·exact .inl (ahead_iff.2 ⟨_,h1,hs.1,h3,by omega⟩)
  ·exact .inr (ahead_iff.2 ⟨_,h1,λj hj=>(hs.1 j hj).symm,by omega,by omega⟩)
section
open Go.RowKit
section
attribute [local irreducible] CoW OpW FlW Step Spec
variable {G:Nat->Option W}
theorem tdiv_nat(a b:Nat):((a:Int)).tdiv (b:Int)=((a/b:Nat):Int):=by rw[Int.tdiv_eq_ediv_of_nonneg Xd];rfl
theorem QFq(a b:Nat):((a:Int)).tmod (b:Int)=((a%b:Nat):Int):=by rw[Int.tmod_eq_emod_of_nonneg Xd];rfl
theorem dW_ld(k:Dig){i:Nat}(h:i<32):zWq 50 (dW k) (0+i*1) 1 false=some (.int .u8 (kn k i:Nat)):=by rw[Nat.zero_add];exact dW_get k h
theorem bit_and(x n:Nat)(hn:n<=7)(hx:x<=255):Nat.land (Nat.shiftRight x (min n 8)%256) (1%256)=x/2^n%2:=by
 have h1:Nat.shiftRight x (min n 8)=x/2^n:=by rw[show min n 8=n by omega];exact Nat.shiftRight_eq_div_pow x n
 have h2:=Nat.div_le_self x (2^n);rw[h1,Nat.mod_eq_of_lt Xd];exact Nat.and_one_is_mod _
theorem bit_in(k:Dig)(i:Nat)(h:i<256):PS cfg G 223 [dW k,.int .i64 (i:Int)] (.tup [.int .u8 (bitN k i:Nat),.int .i64 0]):=by
 have hk:=uOq k (i/8);refine gI 11 rfl (λR k0=>?_);refine gD 0 rfl (λh1=>?_) (λh1=>?_)
 ·exfalso;omega
 refine gU 2 rfl ?_;refine gS 3 rfl (λh2=>?_) (λh2=>?_)
 ·exfalso;omega
 refine gA 5 rfl (i/8) (e:=(tdiv_nat i 8)) (gP 0 rfl (kfq (i:=i/8) rfl rfl rfl rfl rfl rfl Xd) (gM 0 rfl (yEq rfl rfl rfl (dW_ld k Xd)) (gV 1 rfl (congrArg (W.int .i64) (QFq i 8)) (gA 0 rfl (7-i%8) (gQ 7 rfl ?_)))));show W.tup [.int .u8 (Nat.land (Nat.shiftRight (kn k (i/8)) (min (7-i%8) 8)%256) (1%256):Nat),_]=_;rw[bit_and _ _ Xd hk];unfold bitN;rfl
theorem len_tabW(s:List UInt8)(h:(List.range 256).all (λx=>s[x]? ==some (UInt8.ofNat (lenM x)))=true)(x:Nat)(hx:x<=255):s[x]? =some (UInt8.ofNat (lenM x)):=by
 have:=List.all_eq_true.1 h x (List.mem_range.2 Xd);simpa using this
theorem len8_s(x:Nat)(hx:x<=255):PS cfg G 271 [.int .u8 (x:Int)] (.int .i64 (lenM x:Nat)):=by
 have hl:=lenM_le x hx;have e:((UInt8.ofNat (lenM x)).toNat:Int)=(lenM x:Nat):=by congr 1;simp;omega
 exact gI 8 rfl (λR k0=>gP 0 rfl (ix_str rfl rfl rfl rfl rfl (len_tabW _ (by decide+kernel) x hx)) (gA 0 rfl (lenM x) (e:=e) (gQa 4 rfl)))
theorem lz8_s(x:Nat)(hx:x<=255):PS cfg G 254 [.int .u8 (x:Int)] (.int .i64 (8-lenM x:Nat)):=by
 have hl:=lenM_le x hx;exact gI 8 rfl (λR k0=>gC 0 rfl (len8_s _ Xd) (gA 0 rfl (8-lenM x) (gQa 4 rfl)))
noncomputable def encP(x:Nat×Nat):List W:=[.int .i64 (x.1:Int),.int .u8 (x.2:Int)]
theorem dTo_more(a b:Dig){i:Nat}(h:i<32)(hx:kn a i^^^kn b i≠0):(dTo a b 32).drop (dTo a b i).length=dOf a b i::(dTo a b 32).drop (dTo a b (i+1)).length:=by
 have h1:=dTo_get a b i 32 h hx;obtain⟨hl,h2⟩:=List.getElem?_eq_some_iff.1 h1;have hs:=u2q a b i;rw[if_neg hx] at hs;rw[List.drop_eq_getElem_cons hl,h2,hs];simp
theorem dTo_same(a b:Dig){i:Nat}(hx:kn a i^^^kn b i=0):dTo a b (i+1)=dTo a b i:=by rw[u2q,if_pos hx,List.append_nil]
theorem xor8(x y:Nat)(hx:x<=255)(hy:y<=255):Nat.xor (x%256) (y%256)=x^^^y:=by rw[Nat.mod_eq_of_lt Xd,Nat.mod_eq_of_lt Xd];rfl
theorem apart_s(a b:Dig):PS cfg G 192 [dW a,dW b] (.fn 231 [] [.fel (dW a),.fel (dW b)]):=by
 refine gI 14 rfl (λR k0=>?_);refine yFq (fr2:=[(4,_)]) Xt ?_ rfl rfl
 (repeat (first|exact trivial|refine And.symm ⟨?_,_,rfl,?_⟩))<;>(repeat (first|exact .nil|refine .cons ?_ ?_|refine .fn ?_ ?_|(refine yIq rfl ?_ rfl;(first|rfl|(focus (simp;done))))|(refine .sl rfl ?_ rfl Xi;(first|rfl|(focus (simp;done))))|(refine .pur ?_;(first|rfl|(focus (simp;done))))|refine .agg ?_|refine .arr ?_|refine .tup ?_))
theorem apart_it(a b:Dig):qnq cfg G 231 [.fel (dW a),.fel (dW b)] ((dTo a b 32).map encP):=by
 refine uaq (fn:=Tryz.f231) rfl rfl rfl (Nat.le_of_ble_eq_true rfl) (λL E R hy k0=>?_);refine co_scope 3 (ycq 9 rfl ?_);refine co_loopR (α:=Nat×Res) (λp=>p.1<=32/\Yl cfg G L E (((dTo a b 32).drop (dTo a b p.1).length).map encP) p.2) (λp=>[(6,.int .i64 (p.1:Int))]) [(0,_),(1,_),(2,_)] (λp=>[]) (λp=>p.2) (λp=>32-p.1) ((0,R)) ⟨rfl,rfl,rfl,trivial⟩ (⟨Nat.zero_le _,by rw[dTo_zero];exact hy⟩) ⟨rfl,trivial⟩ rfl rfl (λp hI=>?_);obtain⟨i,R⟩:=p;obtain⟨hi,hy⟩:=hI;simp only at hi hy;have ha:=uOq a i;have hb:=uOq b i;refine ycq 6 rfl ?_;refine gS 0 rfl (λh1=>?_) (λh1=>?_)
 ·have hi':i<32:=by omega
  refine gP 13 rfl (ix_fel rfl rfl rfl rfl rfl rfl Xd rfl (dW_get a hi')) (gP 2 rfl (ix_fel rfl rfl rfl rfl rfl rfl Xd rfl (dW_get b hi')) (gV (w':=.int .u8 ((kn a i^^^kn b i:Nat):Int)) 1 rfl (congrArg (λn:Nat=>W.int .u8 (n:Int)) (xor8 _ _ ha hb)) ?_));refine gD 6 rfl (λh2=>?_) (λh2=>?_)
  ·have hx:kn a i^^^kn b i≠0:=by omega
   rw[dTo_more a b hi' hx,List.map_cons] at hy;refine gSo 4 rfl (qYq rfl rfl rfl (hy) (λb R1 hb=>?_));refine gS 4 rfl (λh3=>?_) (λh3=>?_)
   ·cases b with
    |true=>cases h3
    |false=>
     exact zQq 3 rfl (qQq Xi (z0q 1 rfl (q_scope (by intro l h;cases h) (k4q (.inl rfl) rfl hb))))
   ·cases b with
    |false=>exact absurd rfl h3
    |true=>
     exact zQq 4 rfl (gA 0 rfl (i+1) (zdq 2 rfl (QRq ((i+1,R1)) (⟨hi',hb⟩) Xz (Nat.zero_le _) ⟨rfl,trivial⟩ ⟨rfl,rfl,rfl,trivial⟩ Xh Xh Xd Xj Xw rfl)))
  ·have hx:kn a i^^^kn b i=0:=by omega
   rw[<-dTo_same a b hx] at hy;exact gA 14 rfl (i+1) (zdq 2 rfl (QRq ((i+1,R)) (⟨hi',hy⟩) Xz (Nat.zero_le _) ⟨rfl,trivial⟩ ⟨rfl,rfl,rfl,trivial⟩ Xh Xh Xd Xj Xw rfl))
 ·refine zdq 2 rfl (qQq Xi (z0q 1 rfl (q_scope (by intro l h;cases h) ?_)));have:i=32:=by omega
  subst this;rw[List.drop_length] at hy;exact k4q (.inl rfl) rfl hy
theorem encP_ok{l:List (Nat×Nat)}:∀y∈l,purL (encP y)=true/\(encP y).length=2:=λy _=>⟨rfl,rfl⟩
theorem head_of{α:Type}{l:List α}{x:α}{i:Nat}(h:l[i]? =some x)(hi:i=0):∃r,l=x::r:=by
 subst hi;cases l with
 |nil=>simp at h
 |cons y r=>simp at h;subst h;exact⟨r,rfl⟩
theorem shared_s(a b:Dig):PS cfg G 221 [dW a,dW b] (.int .i64 (ylq a b:Nat)):=by
 refine gI 12 rfl (λR k0=>gC 0 rfl (apart_s _ _) (zdq 3 rfl ?_));refine Ylq (encP) (dTo a b 32) (λi=>i=0) rfl Xn (apart_it a b) (encP_ok) (rfl) (λi y hy hI=>?_) (λhI=>?_)
 ·obtain⟨r,hr⟩:=head_of hy hI;obtain⟨h1,h2,h3,h4⟩:=u3q hr;have hb:=xor_le _ _ (uOq a y.1) (uOq b y.1);rw[<-h2] at hb;have hl:=lenM_le y.2 hb;refine ycq 8 rfl (QQq (ycq 4 rfl (gA 0 rfl (8*y.1) (gC 1 rfl (lz8_s _ Xd) (gA 0 rfl (8*y.1+(8-lenM y.2)) (zdq 5 rfl (jrq Xi (z0q 2 rfl (gQ 0 rfl ?_)))))))));unfold ylq;rw[hr]
 ·have:dTo a b 32=[]:=List.eq_nil_of_length_eq_zero hI;refine z0q 8 rfl (gQ 0 rfl ?_);unfold ylq;rw[this];rfl
theorem Jzq(a b:Dig):PS cfg G 125 [dW a,dW b] (.bool (ypq a b)):=by
 refine gI 12 rfl (λR k0=>gC 0 rfl (apart_s _ _) (zdq 3 rfl ?_));refine Ylq (encP) (dTo a b 32) (λi=>i=0) rfl Xn (apart_it a b) (encP_ok) (rfl) (λi y hy hI=>?_) (λhI=>?_)
 ·obtain⟨r,hr⟩:=head_of hy hI;obtain⟨h1,h2,h3,h4⟩:=u3q hr;refine ycq 3 rfl (QQq (ycq 4 rfl (gP 0 rfl (kfq (i:=y.1) rfl rfl rfl rfl rfl rfl h1) (gM 0 rfl (yEq rfl rfl rfl (dW_ld a h1)) (gP 1 rfl (kfq (i:=y.1) rfl rfl rfl rfl rfl rfl h1) (gM 0 rfl (yEq rfl rfl rfl (dW_ld b h1)) (gU 0 rfl (zdq 5 rfl (jrq Xi (z0q 2 rfl (gQ 0 rfl ?_)))))))))));unfold ypq;rw[hr];congr 1
  simp
 ·have:dTo a b 32=[]:=List.eq_nil_of_length_eq_zero hI;refine z0q 8 rfl (gQ 0 rfl ?_);unfold ypq;rw[this]
theorem shr8(n:Nat)(hn:n<=7):Nat.shiftRight 128 (min n 8)=2^(7-n):=by
 have h:∀n,n<=7->Nat.shiftRight 128 (min n 8)=2^(7-n):=by decide+kernel
 exact h n hn
theorem turn_in(k:Dig)(i:Nat)(h:i<256):PS cfg G 222 [dW k,.int .i64 (i:Int)] (.tup [dW (klq k i),.int .i64 0]):=by
 have hk:=uOq k (i/8);have hp:=pow_le (i%8);have hx:=xor_le _ _ hk hp
 have e1:Nat.xor (kn k (i/8)%256) (Nat.shiftRight 128 (min (i%8) 8)%256)=kn k (i/8)^^^2^(7-i%8):=by
  rw[shr8 _ Xd];exact xor8 _ _ hk hp
 refine gI 11 rfl (λR k0=>?_);refine gD 0 rfl (λh1=>?_) (λh1=>?_)
 ·exfalso;omega
 refine gU 2 rfl ?_;refine gS 3 rfl (λh2=>?_) (λh2=>?_)
 ·exfalso;omega
 refine gA 5 rfl (i/8) (e:=(tdiv_nat i 8)) (gP 0 rfl (kfq (i:=i/8) rfl rfl rfl rfl rfl rfl Xd) (gM 0 rfl (yEq rfl rfl rfl (dW_ld k Xd)) (gV 1 rfl (congrArg (W.int .i64) (QFq i 8)) (gV (w':=.int .u8 ((kn k (i/8)^^^2^(7-i%8):Nat):Int)) 1 rfl (congrArg (λn:Nat=>W.int .u8 (n:Int)) e1) (gP 0 rfl (kfq (i:=i/8) rfl rfl rfl rfl rfl rfl Xd) (gM 0 rfl (jAq rfl rfl rfl rfl rfl (kOq (i:=0+i/8*1) (by rw[Nat.zero_add,Nat.mul_one];exact dW_at k Xd) rfl rfl) rfl) (gQ 10 rfl ?_)))))));rw[Nat.zero_add,Nat.mul_one,dW_set k (i/8) Xd];unfold klq;rfl
end
end
def beB:Nat->Nat->List UInt8
 |0,_=>[]
 |s+1,n=>UInt8.ofNat (n/256^s%256)::beB s n
def numB(l:List UInt8):Nat:=l.foldl (λa c=>256*a+c.toNat) 0
@[simp] theorem k2q:∀s n,(beB s n).length=s
 |0,_=>rfl
 |s+1,n=>by simp[beB,k2q s n]
theorem numB_snoc(l:List UInt8)(c:UInt8):numB (l++[c])=256*numB l+c.toNat:=by simp[numB,List.foldl_append]
theorem QZq:∀(l:List UInt8) (a:Nat),l.foldl (λa c=>256*a+c.toNat) a=a*256^l.length+numB l
 |[],a=>by simp[numB]
 |c::l,a=>by
  simp only[List.foldl_cons,numB,List.length_cons];rw[QZq l,QZq l (256*0+c.toNat),Nat.pow_succ];simp only[Nat.add_mul,Nat.mul_zero,Nat.zero_add,Nat.add_assoc];congr 1
  rw[Nat.mul_comm 256 a,Nat.mul_assoc,Nat.mul_comm 256]
theorem numB_cons(c:UInt8)(l:List UInt8):numB (c::l)=c.toNat*256^l.length+numB l:=by
 show(c::l).foldl _ 0=_;rw[List.foldl_cons,QZq];simp
theorem numB_lt:∀l:List UInt8,numB l<256^l.length
 |[]=>by simp[numB]
 |c::l=>by
  rw[numB_cons,List.length_cons,Nat.pow_succ];have:=numB_lt l;have hc:=c.toNat_lt;have:c.toNat*256^l.length<=255*256^l.length:=Nat.mul_le_mul_right _ Xd;omega
section
open Go.RowKit
section
attribute [local irreducible] CoW OpW FlW Step Spec
variable {G:Nat->Option W}
theorem Jsq(l:List UInt8)(f:Bool)(hl:l.length<=70368744177664):PS cfg G 47 [.fz (zcq l) 1 f] (bW l):=by
 refine gI 9 rfl (λR k0=>?_);first|refine yBq rfl rfl ?_|refine zUq rfl (q8q rfl rfl rfl rfl rfl (λbn hn=>?_))
 refine zsq 2 rfl ?_;refine gS 0 rfl (λh1=>?_) (λh1=>?_)
 ·cases bn with
  |false=>cases h1
  |true=>
   have hn:=hn rfl
   have hl0:l=[]:=by cases l with
    |nil=>rfl
    |cons c l=>simp[zcq] at hn
   subst hl0;refine zQq 7 rfl ?_;refine yFq (fr2:=[(2,bW [])]) Qm ⟨⟨_,rfl,.nilfz⟩,trivial⟩ rfl rfl
 ·cases l with
  |nil=>
   skip
   refine zQq 6 rfl (gM 0 rfl (yZq rfl rfl (jxq rfl rfl rfl rfl rfl)) (zdq 4 rfl ?_));refine yFq (fr2:=[(2,bW [])]) Qm ⟨⟨_,rfl,.sl rfl rfl rfl Xi⟩,trivial⟩ rfl rfl
  |cons c l=>
   simp only[List.length_cons] at hl;refine zQq 6 rfl (gM 0 rfl (yZq rfl rfl (qzq (news:=zcq (c::l)) (olds:=[]) rfl rfl rfl rfl rfl (by simp[zcq]) (by show(0+(zcq (c::l)).length)*1<=_;rw[zxq];simp only[List.length_cons];omega) (by rw[zxq];simp only[List.length_cons];omega) rfl (by show 0<0+(0+(zcq (c::l)).length)*1;rw[zxq];simp only[List.length_cons];omega) rfl rfl)) (zdq 4 rfl ?_));refine yFq (fr2:=[(2,bW (c::l))]) Qm ⟨⟨_,rfl,.sl rfl Xm (sub_whole Xm (Nat.mul_one _)) Xi⟩,trivial⟩ rfl rfl
theorem end_s(l:List UInt8)(f:Bool):PS cfg G 109 [.fz (zcq l) 1 f] (.int .i64 (if l=[] then 0 else 11)):=by
 have e:=zxq l;refine gI 9 rfl (λR k0=>gL 0 rfl ?_);refine gS 3 rfl (λh1=>?_) (λh1=>?_)
 ·refine zdq 7 rfl ?_;have:l≠[]:=by rintro rfl;simp[zcq] at h1
  exact gQ 0 rfl (by rw[if_neg this])
 ·refine zdq 8 rfl ?_;have:l=[]:=List.eq_nil_of_length_eq_zero (by rw[<-e];simpa using h1);exact gQ 0 rfl (by rw[if_pos this])
theorem shr_byte(n i:Nat)(hi:i<=8):Nat.shiftRight n (min (8*i) 64)%256=n/256^i%256:=by
 have:Nat.shiftRight n (min (8*i) 64)=n/2^(8*i):=by rw[show min (8*i) 64=8*i by omega];exact Nat.shiftRight_eq_div_pow _ _
 rw[this,Nat.pow_mul]
theorem be_at(n size i:Nat)(hi:i<size):(zcq (List.replicate (size-i) 0++beB i n))[0+(size-1-i)*1]? =some (.int .u8 (.ofNat 0)):=by
 refine Ysq (c:=0) ?_;rw[List.getElem?_append_left Xo,List.getElem?_replicate,if_pos Xd]
theorem be_set(n size i:Nat)(hi:i<size):(zcq (List.replicate (size-i) 0++beB i n)).set (0+(size-1-i)*1) (.int .u8 ((n/256^i%256:Nat):Int))=zcq (List.replicate (size-(i+1)) 0++beB (i+1) n):=by
 have e:size-i=(size-(i+1))+1:=by omega
 have e2:0+(size-1-i)*1=size-(i+1):=by omega
 rw[e,e2,List.replicate_succ',List.append_assoc,jNq,jNq,List.set_append_right _ _ (by simp[zcq])];simp only[zcq,List.length_map,List.length_replicate,Nat.sub_self,List.singleton_append,List.map_cons,List.set_cons_zero,beB];congr 2
 simp
theorem be_zero(n size:Nat):zcq (List.replicate (size-0) 0++beB 0 n)=List.replicate size (.int .u8 0):=by simp[zcq,beB]
theorem put_s(n size:Nat)(hs:1<=size)(hs8:size<=8)(hn:n<256^size):qmq cfg G 199 0 [.int .u64 (n:Int),.int .i64 (size:Int)] [] λw hp nw=>
  w= .tup [.sl 0 0 0 size 1 none,.int .i64 0]/\hp=[(0,5,.arr (size*1) 1 (zcq (beB size n)))]/\nw=1:=by
 intro R
 have hq:size<8->Nat.shiftRight n (min (8*size) 64)=0:=λh=>by
  rw[show min (8*size) 64=8*size by omega,show Nat.shiftRight n (8*size)=n/2^(8*size) from Nat.shiftRight_eq_div_pow _ _,Nat.pow_mul];exact Nat.div_eq_of_lt hn
 refine gIs 11 rfl (λk0=>?_);refine gD 0 rfl (λh1=>?_) (λh1=>?_)
 ·exfalso;omega
 refine gU 2 rfl ?_;refine gS 4 rfl (λh2=>?_) (λh2=>?_)
 ·exfalso;omega
 refine gD 3 rfl (λh3=>?_) (λh3=>?_)
 ·have h8:=hq Xd;refine gA 3 rfl (8*size) (gU 1 rfl ?_);refine gS 4 rfl (λh4=>?_) (λh4=>?_)
  ·skip
   exfalso
   have h4:(0:Int)<(Nat.shiftRight n (min (8*size) 64):Nat):=h4;rw[h8] at h4;omega
  ·refine gM 6 rfl (mk_slice (l:=size) (c:=size) rfl rfl rfl rfl rfl rfl rfl rfl (Nat.le_refl _) (by show 1*size<=_;omega) Xd rfl rfl) (zdq 11 rfl ?_);refine jKq (α:=Nat) (λi=>i<=size) (λi=>[(28,.int .i64 (i:Int))]) [(0,_),(1,_),(4,_),(5,_),(6,_),(27,_)] (λi=>[(0,5,.arr (size*1) 1 (zcq (List.replicate (size-i) 0++beB i n)))]) (λi=>size-i) (0) ⟨rfl,rfl,rfl,rfl,rfl,rfl,trivial⟩ (Nat.zero_le _) ⟨rfl,trivial⟩ (by rw[be_zero];rfl) (λi hI=>?_);refine ycq 6 rfl ?_;refine gS 0 rfl (λh5=>?_) (λh5=>?_)
   ·have hi:i<size:=by omega
    exact gA 13 rfl (size-1) (gA 1 rfl (size-1-i) (gA 2 rfl (8*i) (gV (w':=.int .u8 ((n/256^i%256:Nat):Int)) 1 rfl (congrArg (λn:Nat=>W.int .u8 (n:Int)) (shr_byte n i Xd)) (gP 0 rfl (jYq (i:=size-1-i) rfl rfl rfl rfl rfl rfl rfl Xd) (gM 0 rfl (jAq rfl rfl rfl rfl rfl (kOq (be_at n size i hi) rfl rfl) (congrArg (λL=>[(0,5,W.arr (size*1) 1 L)]) (be_set n size i hi))) (gA 4 rfl (i+1) (zdq 2 rfl (xBq (i+1) (hi) Xd ⟨rfl,trivial⟩ ⟨rfl,rfl,rfl,rfl,rfl,rfl,trivial⟩ rfl))))))))
   ·refine zdq 2 rfl (qQq Xi (z0q 10 rfl ?_));have:i=size:=by omega
    subst this;refine fin Qm Ent.refl rfl ⟨rfl,rfl,?_,rfl⟩;rw[Nat.sub_self];rfl
 ·refine gM 17 rfl (mk_slice (l:=size) (c:=size) rfl rfl rfl rfl rfl rfl rfl rfl (Nat.le_refl _) (by show 1*size<=_;omega) Xd rfl rfl) (zdq 11 rfl ?_);refine jKq (α:=Nat) (λi=>i<=size) (λi=>[(28,.int .i64 (i:Int))]) [(0,_),(1,_),(4,_),(5,_),(6,_),(27,_)] (λi=>[(0,5,.arr (size*1) 1 (zcq (List.replicate (size-i) 0++beB i n)))]) (λi=>size-i) (0) ⟨rfl,rfl,rfl,rfl,rfl,rfl,trivial⟩ (Nat.zero_le _) ⟨rfl,trivial⟩ (by rw[be_zero];rfl) (λi hI=>?_);refine ycq 6 rfl ?_;refine gS 0 rfl (λh4=>?_) (λh4=>?_)
  ·have hi:i<size:=by omega
   exact gA 13 rfl (size-1) (gA 1 rfl (size-1-i) (gA 2 rfl (8*i) (gV (w':=.int .u8 ((n/256^i%256:Nat):Int)) 1 rfl (congrArg (λn:Nat=>W.int .u8 (n:Int)) (shr_byte n i Xd)) (gP 0 rfl (jYq (i:=size-1-i) rfl rfl rfl rfl rfl rfl rfl Xd) (gM 0 rfl (jAq rfl rfl rfl rfl rfl (kOq (be_at n size i hi) rfl rfl) (congrArg (λL=>[(0,5,W.arr (size*1) 1 L)]) (be_set n size i hi))) (gA 4 rfl (i+1) (zdq 2 rfl (xBq (i+1) (hi) Xd ⟨rfl,trivial⟩ ⟨rfl,rfl,rfl,rfl,rfl,rfl,trivial⟩ rfl))))))))
  ·refine zdq 2 rfl (qQq Xi (z0q 10 rfl ?_));have:i=size:=by omega
   subst this;refine fin Qm Ent.refl rfl ⟨rfl,rfl,?_,rfl⟩;rw[Nat.sub_self];rfl
theorem shl8(n:Nat):(Int.ofNat (Nat.shiftLeft n (min 8 64)))=((256*n:Nat):Int):=by
 rw[show Nat.shiftLeft n (min 8 64)=n*2^8 from Nat.shiftLeft_eq n 8,Nat.mul_comm];rfl
theorem or_low(n c:Nat)(hn:256*n<18446744073709551616)(hc:c<256):Nat.lor (256*n%18446744073709551616) (c%18446744073709551616)=256*n+c:=by
 rw[Nat.mod_eq_of_lt hn,Nat.mod_eq_of_lt Xd];have:=Nat.two_pow_add_eq_or_of_lt (i:=8) (b:=c) Xd n;rw[Nat.mul_comm] at this;rw[show Nat.lor (256*n) c=256*n|||c from rfl,Nat.mul_comm 256 n];rw[Nat.mul_comm] at this;rw[Nat.mul_comm n 256];exact this.symm
theorem pow256_le{i:Nat}(h:i<=8):256^i<=18446744073709551616:=by
 have h':∀i,i<=8->256^i<=18446744073709551616:=by decide
 exact h' i h
theorem numB_take{l:List UInt8}{i:Nat}{c:UInt8}(h:l[i]? =some c):numB (l.take (i+1))=256*numB (l.take i)+c.toNat:=by
 rw[List.take_add_one,h];exact numB_snoc _ _
theorem numB_take_lt{l:List UInt8}{i:Nat}(h:i<=7):256*numB (l.take i)<18446744073709551616:=by
 have h1:=numB_lt (l.take i);have h2:256^(l.take i).length<=256^i:=Nat.pow_le_pow_right Xd Xo;have h3:=pow256_le (i:=i+1) Xd;rw[Nat.pow_succ] at h3;omega
theorem kuq(l:List UInt8)(f:Bool)(size:Nat)(hs:1<=size)(hs8:size<=8)(hl:l.length<size):PS cfg G 108 [.fz (zcq l) 1 f,.int .i64 (size:Int)] (.tup [.int .u64 0,.nils,.int .i64 10]):=by
 have e:=zxq l;refine gI 12 rfl (λR k0=>?_);refine gD 0 rfl (λh1=>?_) (λh1=>?_)
 ·exfalso;omega
 refine gU 2 rfl ?_;refine gS 4 rfl (λh2=>?_) (λh2=>?_)
 ·exfalso;omega
 refine gV (w':=.int .i64 (l.length:Int)) 3 rfl Xu (gU 1 rfl ?_);refine gS 3 rfl (λh3=>?_) (λh3=>?_)
 ·first|exact gQa 10 rfl|(exfalso;omega)
 ·exfalso;omega
theorem k3q(l:List UInt8)(f:Bool)(size:Nat)(hs:1<=size)(hs8:size<=8)(hl:size<=l.length)(hb:l.length<=70368744177664):PS cfg G 108 [.fz (zcq l) 1 f,.int .i64 (size:Int)] (.tup [.int .u64 (numB (l.take size):Nat),bW (l.drop size),.int .i64 0]):=by
 have e:=zxq l;have el:(l.take size).length=size:=by simp;omega
 refine gI 12 rfl (λR k0=>?_);refine gD 0 rfl (λh1=>?_) (λh1=>?_)
 ·exfalso;omega
 refine gU 2 rfl ?_;refine gS 4 rfl (λh2=>?_) (λh2=>?_)
 ·exfalso;omega
 refine gV (w':=.int .i64 (l.length:Int)) 3 rfl Xu (gU 1 rfl ?_);refine gS 3 rfl (λh3=>?_) (λh3=>?_)
 ·exfalso;omega
 refine gP 9 rfl (cut_fz3 (ys:=zcq (l.take size)) (l:=0) (h:=size) (m:=size) rfl rfl rfl rfl rfl rfl rfl rfl (Nat.zero_le _) (Nat.le_refl _) Xd hs (by rw[List.drop_zero,Nat.sub_zero,bytesW_take]) rfl) (gV (w':=.int .i64 (size:Int)) 0 rfl (by show W.int .i64 ((zcq (l.take size)).length:Int)=_;rw[zxq,el]) ?_);refine gLo (α:=Nat) 4 (λi=>i<=size) (λi=>[(26,.int .i64 (i:Int)),(4,.int .u64 (numB (l.take i):Nat))]) [0,1,5,6,24,25] (λi=>size-i) (0) rfl (Nat.zero_le _) (λi hI=>?_);refine gS 6 rfl (λh4=>?_) (λh4=>?_)
 ·have hi:i<size:=by omega
  obtain⟨c,hc⟩:∃c,l[i]? =some c:=⟨_,List.getElem?_eq_getElem Xd⟩
  have hc2:(l.take size)[i]? =some c:=by rw[List.getElem?_take,if_pos hi];exact hc
  have hcl:=c.toNat_lt;have hn:=numB_take_lt (l:=l) (i:=i) Xd;exact gP 6 rfl (zGq (i:=i) rfl rfl rfl rfl rfl rfl rfl (Ysq hc2)) (gA 6 rfl (256*numB (l.take i)) (e:=(shl8 _)) (gA 1 rfl (c.toNat) (gV (w':=.int .u64 (numB (l.take (i+1)):Nat)) 0 rfl (congrArg (λn:Nat=>W.int .u64 (n:Int)) ((or_low _ _ hn hcl).trans (numB_take hc).symm)) (gA 5 rfl (i+1) (gAg 2 rfl (i+1) (hi) Xd)))))
 ·have:i=size:=by omega
  subst this;exact gO 2 rfl (gP 7 rfl (cut_fz (ys:=zcq (l.drop i)) (l:=i) (h:=(zcq l).length) rfl rfl rfl rfl rfl rfl rfl Xd (Nat.le_refl _) (by rw[List.take_of_length_le Xm,bytesW_drop]) rfl) (gC 0 rfl (Jsq _ _ (by first|assumption|(simp;omega))) (gQa 6 rfl)))
structure Acct where
 nonce:Nat
 balance:Nat
 deriving DecidableEq
def Acct.zero:Acct:=⟨0,0⟩
noncomputable def aW(a:Acct):W:=.agg 2 [.int .u64 (a.nonce:Int),.int .u64 (a.balance:Int)]
@[simp] theorem aW_pur(a:Acct):purW (aW a)=true:=rfl
def bytesA(a:Acct):List UInt8:=beB 8 a.nonce++beB 8 a.balance
def kpq(l:List UInt8):Acct×Nat:=if l.length<16 then(.zero,10) else if 16<l.length then(.zero,11) else
 if (⟨numB (l.take 8),numB (l.drop 8)⟩:Acct)= .zero then(.zero,8) else(⟨numB (l.take 8),numB (l.drop 8)⟩,0)
theorem eq_acct(a b:Acct):eqW cfg 300 49 (aW a) (aW b)=some (decide (a=b)):=by
 have e:decide (a=b)=(decide ((a.nonce:Int)=b.nonce)&&(decide ((a.balance:Int)=b.balance)&&true)):=by
  cases a;cases b
  simp only[Acct.mk.injEq,Bool.and_true];rw[Bool.eq_iff_iff];simp only[decide_eq_true_eq,Bool.and_eq_true];omega
 rw[e];exact uXq rfl rfl rfl rfl (y8q rfl rfl rfl (eq_int rfl rfl) (y8q rfl rfl rfl (eq_int rfl rfl) Zgq))
theorem aread_s(l:List UInt8)(f:Bool)(hb:l.length<=70368744177664):PS cfg G 44 [.fz (zcq l) 1 f] (.tup [aW (kpq l).1,.int .i64 ((kpq l).2:Nat)]):=by
 by_cases q1:l.length<8
 ·have e:kpq l=(.zero,10):=by unfold kpq;rw[if_pos Xd]
  rw[e];exact gI 15 rfl (λR k0=>gC 0 rfl (kuq _ _ 8 Xd Xd q1) (gQa 27 rfl))
 have q2:(l.drop 8).length=l.length-8:=by simp
 by_cases q3:l.length<16
 ·have e:kpq l=(.zero,10):=by unfold kpq;rw[if_pos q3]
  rw[e];refine gI 15 rfl (λR k0=>?_);first|(first|refine jGq rfl rfl rfl rfl rfl rfl (k3q l _ 8 Xd Xd Xd hb) ?_|refine jGq rfl rfl rfl rfl rfl rfl (kuq (l.drop 8) _ 8 Xd Xd Xd) ?_)|refine jGq rfl rfl rfl rfl rfl rfl (k3q _ _ 8 Xd Xd Xd hb) ?_|refine jGq rfl rfl rfl rfl rfl rfl (kuq _ _ 8 Xd Xd q1) ?_
  refine zsq 23 rfl ?_;first|(first|refine jGq rfl rfl rfl rfl rfl rfl (k3q l _ 8 Xd Xd Xd hb) ?_|refine jGq rfl rfl rfl rfl rfl rfl (kuq (l.drop 8) _ 8 Xd Xd Xd) ?_)|refine jGq rfl rfl rfl rfl rfl rfl (k3q _ _ 8 Xd Xd Xd hb) ?_|refine jGq rfl rfl rfl rfl rfl rfl (kuq _ _ 8 Xd Xd q1) ?_
  exact zsq 27 rfl (gQa 0 rfl)
 have e3:(l.drop 8).drop 8=[]↔l.length=16:=by rw[List.drop_drop,List.drop_eq_nil_iff];omega
 by_cases q4:16<l.length
 ·have e:kpq l=(.zero,11):=by unfold kpq;rw[if_neg q3,if_pos q4]
  have e4:¬(l.drop 8).drop 8=[]:=λh=>by have:=e3.1 h;omega
  rw[e];refine gI 15 rfl (λR k0=>?_)
  (first|refine jGq rfl rfl rfl rfl rfl rfl (k3q l _ 8 Xd Xd Xd hb) ?_|refine jGq rfl rfl rfl rfl rfl rfl (k3q (l.drop 8) _ 8 Xd Xd Xd Xd) ?_)
  refine zsq 23 rfl ?_
  (first|refine jGq rfl rfl rfl rfl rfl rfl (k3q l _ 8 Xd Xd Xd hb) ?_|refine jGq rfl rfl rfl rfl rfl rfl (k3q (l.drop 8) _ 8 Xd Xd Xd Xd) ?_)
  exact zsq 24 rfl (jGq rfl rfl rfl rfl rfl rfl (zvq (w':=.int .i64 11) (end_s _ _) (by rw[if_neg e4])) (op_cz rfl rfl (zsq 14 rfl (gQa 0 rfl))))
 ·have e4:(l.drop 8).drop 8=[]:=e3.2 Xd;have e5:(l.drop 8).take 8=l.drop 8:=List.take_of_length_le Xd;refine gI 15 rfl (λR k0=>?_)
  (first|refine jGq rfl rfl rfl rfl rfl rfl (k3q l _ 8 Xd Xd Xd hb) ?_|refine jGq rfl rfl rfl rfl rfl rfl (k3q (l.drop 8) _ 8 Xd Xd Xd Xd) ?_)
  refine zsq 23 rfl ?_
  (first|refine jGq rfl rfl rfl rfl rfl rfl (k3q l _ 8 Xd Xd Xd hb) ?_|refine jGq rfl rfl rfl rfl rfl rfl (k3q (l.drop 8) _ 8 Xd Xd Xd Xd) ?_)
  refine zsq 24 rfl (jGq rfl rfl rfl rfl rfl rfl (zvq (w':=.int .i64 0) (end_s _ _) (by rw[if_pos e4])) (op_cz rfl rfl (zsq 8 rfl (gP 0 rfl (q4q rfl rfl rfl rfl (eq_acct ⟨numB (l.take 8),numB ((l.drop 8).take 8)⟩ .zero)) ?_))));refine gS 3 rfl (λh1=>?_) (λh1=>?_)
  ·refine zdq 10 rfl ?_
   have e:kpq l=(.zero,8):=by
    rw[e5] at h1;unfold kpq;rw[if_neg q3,if_neg q4,if_pos h1]
   rw[e];exact gQa 0 rfl
  ·refine zdq 11 rfl ?_
   have e:kpq l=(⟨numB (l.take 8),numB (l.drop 8)⟩,0):=by
    rw[e5] at h1;unfold kpq;rw[if_neg q3,if_neg q4,if_neg h1]
   rw[e];exact gQ 0 rfl (by rw[e5];rfl)
end
end
abbrev Pr:=Dig×List UInt8
inductive T where
 |nil
 |leaf (k:Dig) (v:List UInt8)
 |fork (l r:T)
 deriving Inhabited
def T.all:T->List Pr
 |.nil=>[]
 |.leaf k v=>[(k,v)]
 |.fork l r=>l.all++r.all
def T.isFork:T->Bool
 |.fork _ _=>true
 |_=>false
def T.non:T->Bool
 |.nil=>false
 |_=>true
def T.two(l r:T):Bool:=l.isFork||r.isFork||(l.non&&r.non)
def T.ok:Nat->Dig->T->Bool
 |_,_,.nil=>true
 |d,b,.leaf k _=>decide (d<=ylq k b)
 |d,b,.fork l r=>decide (d<256)&&T.ok (d+1) b l&&T.ok (d+1) (klq b d) r&&T.two l r
def T.find(k:Dig):Nat->T->Option (List UInt8)
 |_,.nil=>none
 |_,.leaf k' v=>if k'=k then some v else none
 |d,.fork l r=>if bitN k d=0 then l.find k (d+1) else r.find k (d+1)
def Srt(l:List Pr):Prop:=l.Pairwise λa b=>ypq a.1 b.1=true
def withL(l:List Pr)(k:Dig)(v:List UInt8):List Pr:=l.filter (λp=>ypq p.1 k)++(k,v)::l.filter (λp=>ypq k p.1)
def withoutL(l:List Pr)(k:Dig):List Pr:=l.filter λp=>decide (p.1≠k)
def findL(l:List Pr)(k:Dig):Option (List UInt8):=(l.find? λp=>decide (p.1=k)).map (·.2)
theorem srt_uniq{l:List Pr}(h:Srt l){p q:Pr}(hp:p∈l)(hq:q∈l)(e:p.1=q.1):p=q:=by
 induction l with
 |nil=>simp at hp
 |cons x l ih=>
  have h:=List.pairwise_cons.1 h;simp only[List.mem_cons] at hp hq;rcases hp with rfl|hp<;>rcases hq with rfl|hq
  ·rfl
  ·exact absurd e (xTq (h.1 q hq))
  ·exact absurd e.symm (xTq (h.1 p hp))
  ·exact ih h.2 hp hq
theorem findL_some{l:List Pr}(h:Srt l){k:Dig}{v:List UInt8}:findL l k=some v↔(k,v)∈l:=by
 simp only[findL,Option.map_eq_some_iff];constructor
 ·rintro⟨⟨k',v'⟩,h1,rfl⟩;have h2:=List.find?_some h1;have:=List.mem_of_find?_eq_some h1;simp only[decide_eq_true_eq] at h2;subst h2;exact this
 ·intro hm;cases hf:l.find? λp=>decide (p.1=k) with
  |none=>
   have:=List.find?_eq_none.1 hf _ hm;simp at this
  |some p=>
   have h2:=List.find?_some hf;have h3:=List.mem_of_find?_eq_some hf;simp only[decide_eq_true_eq] at h2;have:=srt_uniq h h3 hm h2;exact⟨p,rfl,by rw[this]⟩
theorem mem_withL{l:List Pr}{k:Dig}{v:List UInt8}{p:Pr}:p∈withL l k v↔p=(k,v)\/(p∈l/\p.1≠k):=by
 simp only[withL,List.mem_append,List.mem_filter,List.mem_cons];constructor
 ·rintro(⟨h1,h2⟩|rfl|⟨h1,h2⟩)
  ·exact .inr ⟨h1,xTq h2⟩
  ·exact .inl rfl
  ·exact .inr ⟨h1,λe=>xTq h2 e.symm⟩
 ·rintro(rfl|⟨h1,h2⟩)
  ·exact .inr (.inl rfl)
  ·rcases YAq h2 with h|h
   ·exact .inl ⟨h1,h⟩
   ·exact .inr (.inr ⟨h1,h⟩)
def Zr(d:Nat)(b:Dig):Prop:=∀j,d<=j->j<256->bitN b j=0
theorem Zoq{d:Nat}{b:Dig}(h:Zr d b):Zr (d+1) b:=λj h1 h2=>h j Xd h2
theorem Znq{d:Nat}{b:Dig}(h:Zr d b)(hd:d<256):Zr (d+1) (klq b d):=λj h1 h2=>by rw[Yvq b d j hd h2 Xd];exact h j Xd h2
theorem zr_zero:Zr 0 kkq:=λj _ hj=>by
 unfold bitN
 have:kn kkq (j/8)=0:=by
  unfold kn kkq;simp only[List.getElem?_replicate];split<;>rfl
 rw[this];simp
theorem turn_pre{b:Dig}{d:Nat}(hd:d<256){j:Nat}(hj:j<d):bitN (klq b d) j=bitN b j:=Yvq b d j hd Xd Xd
theorem side_l{b k:Dig}{d:Nat}(hz:Zr d b)(hd:d<256)(h:d+1<=ylq k b):d<=ylq k b/\bitN k d=0:=
 ⟨by omega,by rw[(xbq Xd).1 h d Xd];exact hz d (Nat.le_refl _) hd⟩
theorem side_r{b k:Dig}{d:Nat}(hz:Zr d b)(hd:d<256)(h:d+1<=ylq k (klq b d)):d<=ylq k b/\bitN k d=1:=by
 have h1:=(xbq Xd).1 h;refine⟨(xbq Xd).2 λj hj=>?_,?_⟩
 ·rw[h1 j Xd,turn_pre hd hj]
 ·rw[h1 d Xd,bit_turn_eq b d hd,hz d (Nat.le_refl _) hd]
theorem ok_fork{d:Nat}{b:Dig}{l r:T}:T.ok d b (.fork l r)=true↔d<256/\T.ok (d+1) b l=true/\T.ok (d+1) (klq b d) r=true/\T.two l r=true:=by
 simp only[T.ok,Bool.and_eq_true,decide_eq_true_eq,and_assoc]
theorem voq:∀{t:T} {d:Nat} {b:Dig},Zr d b->t.ok d b=true->∀p∈t.all,d<=ylq p.1 b
 |.nil,_,_,_,_,p,hp=>by simp[T.all] at hp
 |.leaf k v,d,b,_,h,p,hp=>by
  simp only[T.all,List.mem_singleton] at hp;subst hp;exact of_decide_eq_true h
 |.fork l r,d,b,hz,h,p,hp=>by
  obtain⟨hd,h1,h2,_⟩:=ok_fork.1 h;simp only[T.all,List.mem_append] at hp;rcases hp with hp|hp
  ·exact(side_l hz hd (voq (Zoq hz) h1 p hp)).1
  ·exact(side_r hz hd (voq (Znq hz hd) h2 p hp)).1
theorem ok_bits{l r:T}{d:Nat}{b:Dig}(hz:Zr d b)(h:(T.fork l r).ok d b=true):(∀p∈l.all,bitN p.1 d=0)/\∀p∈r.all,bitN p.1 d=1:=by
 obtain⟨hd,h1,h2,_⟩:=ok_fork.1 h;exact⟨λp hp=>(side_l hz hd (voq (Zoq hz) h1 p hp)).2,λp hp=>(side_r hz hd (voq (Znq hz hd) h2 p hp)).2⟩
theorem ahead_of{a b c:Dig}{d:Nat}(hd:d<256)(ha:d<=ylq a c)(hb:d<=ylq b c)(h0:bitN a d=0)(h1:bitN b d=1):ypq a b=true:=
 ahead_iff.2 ⟨d,hd,λj hj=>by rw[(xbq Xd).1 ha j hj,(xbq Xd).1 hb j hj],h0,h1⟩
theorem ok_srt:∀{t:T} {d:Nat} {b:Dig},Zr d b->t.ok d b=true->Srt t.all
 |.nil,_,_,_,_=>List.Pairwise.nil
 |.leaf k v,_,_,_,_=>List.pairwise_singleton _ _
 |.fork l r,d,b,hz,h=>by
  obtain⟨hd,h1,h2,_⟩:=ok_fork.1 h;refine List.pairwise_append.2 ⟨ok_srt (Zoq hz) h1,ok_srt (Znq hz hd) h2,λp hp q hq=>?_⟩;have a1:=side_l hz hd (voq (Zoq hz) h1 p hp);have a2:=side_r hz hd (voq (Znq hz hd) h2 q hq);exact ahead_of hd a1.1 a2.1 a1.2 a2.2
theorem Z4q(k:Dig):∀{t:T} {d:Nat} {b:Dig},Zr d b->t.ok d b=true->t.find k d=findL t.all k
 |.nil,_,_,_,_=>rfl
 |.leaf k' v,_,_,_,_=>by
  simp only[T.find,T.all,findL,List.find?_cons,List.find?_nil];by_cases e:k'=k<;>simp[e]
 |.fork l r,d,b,hz,h=>by
  obtain⟨hd,h1,h2,_⟩:=ok_fork.1 h;obtain⟨k1,k2⟩:=ok_bits hz h;have i1:=Z4q k (Zoq hz) h1;have i2:=Z4q k (Znq hz hd) h2;simp only[T.find,T.all,findL,List.find?_append];simp only[findL] at i1 i2;split
  ·rename_i hb
   have:r.all.find? (λp=>decide (p.1=k))=none:=List.find?_eq_none.2 λp hp e=>by
    have:=k2 p hp;rw[of_decide_eq_true e] at this;omega
   rw[this,Option.or_none,i1]
  ·rename_i hb
   have:l.all.find? (λp=>decide (p.1=k))=none:=List.find?_eq_none.2 λp hp e=>by
    have:=k1 p hp;rw[of_decide_eq_true e] at this;omega
   rw[this,Option.none_or,i2]
section
open Go.RowKit
section
attribute [local irreducible] CoW OpW FlW Step Spec
variable {G:Nat->Option W}
noncomputable def pW(x:Pr):W:=.agg 33 [dW x.1,bW x.2]
@[simp] theorem pW_pur(x:Pr):purW (pW x)=true:=by simp[pW]
structure Node where
 leaf:Bool
 key:Dig
 val:List UInt8
 left:Int
 right:Int
noncomputable def nW(x:Node):W:=.agg 36 [.bool x.leaf,dW x.key,bW x.val,.int .i64 x.left,.int .i64 x.right]
@[simp] theorem nW_pur(x:Node):purW (nW x)=true:=by simp[nW]
theorem tbit_s(k:Dig)(d:Nat)(h:d<256):PS cfg G 183 [dW k,.int .i64 (d:Int)] (.int .u8 (bitN k d:Nat)):=by
 refine gI 10 rfl (λR k0=>gC 0 rfl (bit_in _ _ Xd) ?_);first|exact gQa 14 rfl|(exfalso;omega)
theorem x3q(x:Node):PS cfg G 182 [nW x] (.arr 2 1 [.int .i64 x.left,.int .i64 x.right]):=by
 refine gI 17 rfl (λR k0=>?_);first|exact gQa 0 rfl|(exfalso;omega)
def valB(l:List UInt8):Bool:=decide (0<l.length)&&decide (l.length<=64)
theorem value_s(l:List UInt8)(f:Bool):PS cfg G 124 [.fz (zcq l) 1 f] (.bool (valB l)):=by
 have e:=zxq l;refine gI 8 rfl (λR k0=>gV (w':=.int .i64 (l.length:Int)) 0 rfl Xu ?_);refine gD 0 rfl (λh1=>?_) (λh1=>?_)
 ·refine gV (w':=.int .i64 (l.length:Int)) 2 rfl Xu (gU 0 rfl (zdq 5 rfl ?_));have h0:0<l.length:=by omega
  exact gQ 0 rfl (by unfold valB;congr 1;rw[decide_eq_true h0,Bool.true_and,decide_eq_decide];omega)
 ·refine zdq 9 rfl ?_;have h0:¬0<l.length:=by omega
  exact gQ 0 rfl (by unfold valB;rw[decide_eq_false h0];rfl)
def okAt(ps:List Pr)(i:Nat):Prop:=∀x,ps[i]? =some x->valB x.2=true/\∀y,0<i->ps[i-1]? =some y->ypq y.1 x.1=true
def MayP(ps:List Pr):Prop:=ps.length<=512/\∀i,i<ps.length->okAt ps i
noncomputable instance(ps:List Pr):Decidable (MayP ps):=Classical.propDecidable _
theorem psW_pur(ps:List Pr):purL (ps.map pW)=true:=yjq pW_pur ps
@[simp] theorem psW_pur'(ps:List Pr):purL (ps.map pW)=true:=psW_pur ps
theorem pcheck_s(ps:List Pr)(f:Bool)(hb:ps.length<=9223372036854775807):PS cfg G 57 [.fz (ps.map pW) 33 f] (.int .i64 (if MayP ps then 0 else 8)):=by
 have e:(ps.map pW).length=ps.length:=List.length_map _;refine gI 9 rfl (λR k0=>gV (w':=.int .i64 (ps.length:Int)) 0 rfl Xu ?_);refine gS 3 rfl (λh1=>?_) (λh1=>?_)
 ·exact gQ 7 rfl (by rw[if_neg λh:MayP ps=>by have:=h.1;omega])
 ·refine gV (w':=.int .i64 (ps.length:Int)) 6 rfl Xu ?_;refine gLo (α:=Nat) 4 (λi=>i<=ps.length/\∀j,j<i->okAt ps j) (λi=>[(10,.int .i64 (i:Int))]) [0,2,8,9] (λi=>ps.length-i) (0) rfl (⟨Nat.zero_le _,λj hj=>by omega⟩) (λi hI=>?_);obtain⟨hi,hI⟩:=hI;refine gS 6 rfl (λh2=>?_) (λh2=>?_)
  ·have hi':i<ps.length:=by omega
   obtain⟨x,hx⟩:∃x,ps[i]? =some x:=⟨_,List.getElem?_eq_getElem hi'⟩
   refine gP 7 rfl (zGq (i:=i) rfl rfl rfl rfl rfl rfl rfl (zlq pW hx)) (gC 10 rfl (value_s _ _) ?_);refine gB 0 rfl (λh3=>?_) (λh3=>?_)
   ·refine gD 3 rfl (λh4=>?_) (λh4=>?_)
    ·refine gA 3 rfl (i-1) ?_;refine gP 0 rfl (zGq (i:=i-1) rfl rfl rfl rfl rfl rfl rfl (zlq pW (List.getElem?_eq_getElem Xd))) ?_;refine gC 4 rfl (Jzq _ _) ?_;refine gS 5 rfl (λh5=>?_) (λh5=>?_)
     ·refine gO 8 rfl (zdq 2 rfl ?_)
      have no:¬MayP ps:=λh=>by
       have:=(h.2 i hi' x hx).2 _ Xd (List.getElem?_eq_getElem Xd);rw[this] at h5;simp at h5
      exact gQ 0 rfl (by rw[if_neg no])
     ·have ok:okAt ps i:=λx' hx'=>by
       obtain rfl:=Option.some.inj (hx.symm.trans hx');refine⟨h3,λy h0 hy=>?_⟩;obtain rfl:=Option.some.inj ((List.getElem?_eq_getElem (show i-1<ps.length by omega)).symm.trans hy);simpa using h5
      refine gA 4 rfl (i+1) ?_;exact gAg 2 rfl (i+1) (⟨hi',λj hj=>by rcases Nat.lt_succ_iff_lt_or_eq.1 hj with h|rfl<;>first|exact hI j h|exact ok⟩) Xd
    ·have ok:okAt ps i:=λx' hx'=>by
      obtain rfl:=Option.some.inj (hx.symm.trans hx');exact⟨h3,λy h0 hy=>by omega⟩
     refine gA 20 rfl (i+1) ?_;exact gAg 2 rfl (i+1) (⟨hi',λj hj=>by rcases Nat.lt_succ_iff_lt_or_eq.1 hj with h|rfl<;>first|exact hI j h|exact ok⟩) Xd
   ·exact gO 28 rfl (gQ 2 rfl (by rw[if_neg λh:MayP ps=>h3 (h.2 i hi' x hx).1]))
  ·refine gO 2 rfl (zdq 8 rfl ?_);have yes:MayP ps:=⟨by omega,λj hj=>hI j Xd⟩;exact gQ 0 rfl Yf
def oneB(x:Node)(n:Nat):Prop:=if x.leaf then x.left=0/\x.right=0/\MayP [(x.key,x.val)] else(0<=x.left/\x.left<=n)/\(0<=x.right/\x.right<=n)/\x.key=kkq/\x.val=[]/\0<x.left+x.right
noncomputable instance(x:Node)(n:Nat):Decidable (oneB x n):=Classical.propDecidable _
theorem one_s(x:Node)(n:Nat)(hn:n<=4611686018427387903):PS cfg G 126 [nW x,.int .i64 (n:Int)] (.bool (decide (oneB x n))):=by
 refine gI 13 rfl (λR k0=>?_);refine gS 0 rfl (λh1=>?_) (λh1=>?_)
 ·refine gD 4 rfl (λh2=>?_) (λh2=>?_)
  ·refine gD 3 rfl (λh3=>?_) (λh3=>?_)
   ·refine zdq 8 rfl ?_;refine uIq rfl rfl rfl rfl rfl (by(repeat (first|exact .nil|refine .cons ?_ ?_|(refine .sl rfl ?_ rfl Xi;first|rfl|(focus (simp;done)))|(refine yIq rfl ?_ rfl;first|rfl|(focus (simp;done)))|(refine .pur ?_;first|rfl|(focus (simp;done)))))) (pcheck_s [(x.key,x.val)] false Xm) Xn Xn ?_;refine op_cz rfl rfl ?_;refine zsq 6 rfl ?_;refine gQ 0 rfl ?_;congr 1
    rw[decide_eq_decide,oneB,if_pos h1];split
    ·rename_i h;exact⟨λ_=>⟨h2,h3,h⟩,λ_=>rfl⟩
    ·rename_i h;exact⟨λh=>by omega,λq=>absurd q.2.2 h⟩
   ·exact gQ 16 rfl (by rw[decide_eq_false];intro h;rw[oneB,if_pos h1] at h;exact h3 h.2.1)
  ·exact gQ 20 rfl (by rw[decide_eq_false];intro h;rw[oneB,if_pos h1] at h;exact h2 h.1)
 ·refine gC 6 rfl (x3q _) ?_;refine gLo (α:=Nat) 4 (λi=>i<=2/\(0<i->0<=x.left/\x.left<=n)/\(1<i->0<=x.right/\x.right<=n)) (λi=>[(29,.int .i64 (i:Int))]) [1,2,4,28] (λi=>2-i) (0) rfl (⟨by omega,by omega,by omega⟩) (λi hI=>?_);obtain⟨hi,hl,hr⟩:=hI;refine gS 6 rfl (λh2=>?_) (λh2=>?_)
  ·have hi':i=0\/i=1:=by omega
   rcases hi' with rfl|rfl
   ·skip
    refine gD 13 rfl (λh3=>?_) (λh3=>?_)
    ·refine gO 16 rfl ?_;exact gQ 2 rfl Yd
    ·refine gU 3 rfl ?_;refine gS 3 rfl (λh4=>?_) (λh4=>?_)
     ·refine gO 8 rfl ?_;exact gQ 2 rfl Yd
     ·refine gA 4 rfl (1) ?_;exact gAg 2 rfl (1) (⟨by omega,by omega,by omega⟩) Xd
   ·refine gD 13 rfl (λh3=>?_) (λh3=>?_)
    ·refine gO 16 rfl ?_;exact gQ 2 rfl Yd
    ·refine gU 3 rfl ?_;refine gS 3 rfl (λh4=>?_) (λh4=>?_)
     ·refine gO 8 rfl ?_;exact gQ 2 rfl Yd
     ·refine gA 4 rfl (2) ?_;exact gAg 2 rfl (2) (⟨by omega,by omega,by omega⟩) Xd
  ·have e:=zxq x.val;have hl:=hl Xd;have hr:=hr Xd;have key:oneB x n↔(x.key=kkq/\x.val=[]/\0<x.left+x.right):=by rw[oneB,if_neg h1];exact⟨λh=>h.2.2,λh=>⟨hl,hr,h⟩⟩
   rw[show decide (oneB x n)=decide (x.key=kkq/\x.val=[]/\0<x.left+x.right) from decide_eq_decide.2 key];refine gO 2 rfl ?_;refine gV 6 rfl Jnq ?_;refine gDe 0 rfl (q4q rfl rfl rfl rfl (j3q rfl rfl rfl rfl rfl rfl _ _ 250)) qFq (λh3=>?_) (λh3=>?_)
   ·refine gV (w':=.int .i64 (x.val.length:Int)) 3 rfl Xu ?_;refine gD 0 rfl (λh4=>?_) (λh4=>?_)
    ·have hv:x.val=[]:=List.eq_nil_of_length_eq_zero Xd;refine gWr 6 rfl ?_;refine gU 0 rfl ?_;refine gQ 5 rfl ?_;congr 1
     rw[decide_eq_decide];exact⟨λh=>⟨h3,hv,h⟩,λh=>h.2.2⟩
    ·have hv:x.val≠[]:=λh=>h4 (by rw[h];rfl)
     exact gQ 13 rfl (by rw[decide_eq_false λh=>hv h.2.1])
   ·exact gQ 18 rfl (by rw[decide_eq_false λh=>h3 h.1])
inductive Rep(ns:List Node):Nat->T->Prop where
 |nil:Rep ns 0 .nil
 |leaf {n:Nat} {k:Dig} {v:List UInt8} {l r:Int} (h:ns[n]? =some ⟨true,k,v,l,r⟩):Rep ns (n+1) (.leaf k v)
 |fork {n l r:Nat} {k:Dig} {v:List UInt8} {L R:T} (h:ns[n]? =some ⟨false,k,v,l,r⟩) (hl:l<=n) (hr:r<=n) (hL:Rep ns l L) (hR:Rep ns r R):Rep ns (n+1) (.fork L R)
theorem Rep.le{ns:List Node}{n:Nat}{t:T}(h:Rep ns n t):n<=ns.length:=by
 cases h with
 |nil=>exact Nat.zero_le _
 |leaf h=>exact(List.getElem?_eq_some_iff.1 h).1
 |fork h=>exact(List.getElem?_eq_some_iff.1 h).1
theorem Rep.non{ns:List Node}{n:Nat}{t:T}(h:Rep ns n t):t.non=decide (0<n):=by cases h<;>simp[T.non]
structure Tree where
 nodes:List Node
 root:Int
noncomputable def tW(t:Tree):W:=.agg 2 [.fz (t.nodes.map nW) 36 false,.int .i64 t.root]
theorem nsW_pur(ns:List Node):purL (ns.map nW)=true:=yjq nW_pur ns
@[simp] theorem qVq(t:Tree):purW (tW t)=true:=by simp[tW,nsW_pur]
def nnI(t:T):Int:=if t.non then 1 else 0
theorem right_s(t0:Tree)(hb:t0.nodes.length<=4611686018427387903):∀(t:T) (n d:Nat) (b:Dig),Rep t0.nodes n t->d<=256->PS cfg G 181 [tW t0,.int .i64 (n:Int),.int .i64 (d:Int),dW b] (.tup [.bool (t.ok d b),.bool (t.ok d b&&t.isFork)]):=by
 intro t;induction t with
 |nil=>
  intro n d b hr hd;obtain rfl:n=0:=by cases hr;rfl
  refine gI 15 rfl (λR k0=>?_);refine gS 0 rfl (λh1=>?_) (λh1=>?_)
  ·exact gQa 8 rfl
  ·exfalso;omega
 |leaf k v=>
  intro n d b hr hd;have hle:=hr.le;cases hr with
  |leaf h=>
  rename_i n l r;refine gI 15 rfl (λR k0=>?_);refine gS 0 rfl (λh1=>?_) (λh1=>?_)
  ·exfalso;omega
  ·refine gA 7 rfl (n) ?_;refine gP 0 rfl (zGq (i:=n) rfl rfl rfl rfl rfl rfl rfl (zlq nW h)) ?_;refine gC 18 rfl (shared_s _ _) ?_;refine gU 1 rfl ?_;refine gQ 6 rfl ?_;simp only[T.ok,T.isFork,Bool.and_false];congr 3
   rw[decide_eq_decide];omega
 | fork tl tr ihL ihR=>
  intro n d b hr hd;have hle:=hr.le;cases hr with
  |fork h hl hr hL hR=>
  rename_i n l r k v;refine gI 15 rfl (λR k0=>?_);refine gS 0 rfl (λh1=>?_) (λh1=>?_)
  ·exfalso;omega
  ·refine gA 7 rfl (n) ?_;refine gP 0 rfl (zGq (i:=n) rfl rfl rfl rfl rfl rfl rfl (zlq nW h)) ?_;refine gS 22 rfl (λh2=>?_) (λh2=>?_)
   ·refine zdq 8 rfl ?_;have e:T.ok d b (.fork tl tr)=false:=by simp only[T.ok];rw[decide_eq_false Xd];rfl
    rw[e];exact gQa 0 rfl
   ·have hd':d<256:=by omega
    have nl:=hL.non;have nr:=hR.non;refine gC 6 rfl (turn_in _ _ Xd) ?_;refine gV (w':=.arr 64 32 [dW b,dW (klq b d)]) 18 rfl rfl ?_;refine gLo (α:=Nat×Int×Bool) 4 (λp=>(p.1=0/\p.2.1=0/\p.2.2=false)\/(p.1=1/\tl.ok (d+1) b=true/\p.2.1=nnI tl/\p.2.2=tl.isFork)\/(p.1=2/\tl.ok (d+1) b=true/\tr.ok (d+1) (klq b d)=true/\p.2.1=nnI tl+nnI tr/\p.2.2=(tl.isFork||tr.isFork))) (λp=>[(46,.int .i64 (p.1:Int)),(13,.int .i64 p.2.1),(9,.bool p.2.2)]) [2,4,8,10,45] (λp=>2-p.1) ((0,0,false)) rfl (.inl ⟨rfl,rfl,rfl⟩) (λp hI=>?_);obtain⟨i,c,w⟩:=p;simp only at hI⊢;rcases hI with ⟨rfl,rfl,rfl⟩|⟨rfl,k1,rfl,rfl⟩|⟨rfl,k1,k2,rfl,rfl⟩
    ·skip
     skip
     refine gC 23 rfl (x3q _) ?_;refine gA 10 rfl (d+1) ?_;refine gC 1 rfl (ihL _ (d+1) b hL Xd) ?_;refine gS 14 rfl (λh3=>?_) (λh3=>?_)
     ·refine gO 10 rfl ?_;refine zdq 2 rfl ?_;have e:T.ok d b (.fork tl tr)=false:=by simp only[T.ok];rw[show tl.ok (d+1) b=false by simpa using h3];simp
      rw[e];exact gQa 0 rfl
     ·have hk:tl.ok (d+1) b=true:=by simpa using h3
      refine gS 9 rfl (λh4=>?_) (λh4=>?_)
      ·have hn:nnI tl=1:=by have h4:(0:Int)<l:=h4;unfold nnI;rw[nl,if_pos (decide_eq_true Xd)]
       refine gWr 2 rfl ?_;refine gA 13 rfl (1) ?_;exact gAg 2 rfl ((1,1,tl.ok (d+1) b&&tl.isFork)) (.inr (.inl ⟨rfl,hk,hn.symm,by rw[hk];rfl⟩)) Xm
      ·have hn:nnI tl=0:=by have h4:¬(0:Int)<l:=h4;unfold nnI;rw[nl,if_neg Xo]
       refine gA 12 rfl (1) ?_;exact gAg 2 rfl ((1,0,tl.ok (d+1) b&&tl.isFork)) (.inr (.inl ⟨rfl,hk,hn.symm,by rw[hk];rfl⟩)) Xm
    ·skip
     have bd:nnI tl=0\/nnI tl=1:=by unfold nnI;split<;>simp
     cases hf:tl.isFork with
     |true=>
      skip
      refine ycq 23 rfl ?_;refine gC 0 rfl (x3q _) ?_;refine gA 10 rfl (d+1) ?_;refine gC 1 rfl (ihR _ (d+1) (klq b d) hR Xd) ?_;refine gS 14 rfl (λh3=>?_) (λh3=>?_)
      ·refine gO 10 rfl ?_;refine zdq 2 rfl ?_;have e:T.ok d b (.fork tl tr)=false:=by simp only[T.ok];rw[show tr.ok (d+1) (klq b d)=false by simpa using h3];simp
       rw[e];exact gQa 0 rfl
      ·have hk:tr.ok (d+1) (klq b d)=true:=by simpa using h3
       refine gS 9 rfl (λh4=>?_) (λh4=>?_)
       ·have hn:nnI tr=1:=by have h4:(0:Int)<r:=h4;unfold nnI;rw[nr,if_pos (decide_eq_true Xd)]
        refine gWr 2 rfl ?_;refine gA 13 rfl (2) ?_;exact gAg 2 rfl ((2,nnI tl+1,true)) (.inr (.inr ⟨rfl,k1,hk,by simp only[hn],rfl⟩)) Xm
       ·have hn:nnI tr=0:=by have h4:¬(0:Int)<r:=h4;unfold nnI;rw[nr,if_neg Xo]
        refine gA 12 rfl (2) ?_;exact gAg 2 rfl ((2,nnI tl,true)) (.inr (.inr ⟨rfl,k1,hk,by simp only[hn,Int.add_zero],rfl⟩)) Xm
     |false=>
      skip
      refine ycq 23 rfl ?_;refine gC 0 rfl (x3q _) ?_;refine gA 10 rfl (d+1) ?_;refine gC 1 rfl (ihR _ (d+1) (klq b d) hR Xd) ?_;refine gS 14 rfl (λh3=>?_) (λh3=>?_)
      ·refine gO 10 rfl ?_;refine zdq 2 rfl ?_;have e:T.ok d b (.fork tl tr)=false:=by simp only[T.ok];rw[show tr.ok (d+1) (klq b d)=false by simpa using h3];simp
       rw[e];exact gQa 0 rfl
      ·have hk:tr.ok (d+1) (klq b d)=true:=by simpa using h3
       refine gS 9 rfl (λh4=>?_) (λh4=>?_)
       ·have hn:nnI tr=1:=by have h4:(0:Int)<r:=h4;unfold nnI;rw[nr,if_pos (decide_eq_true Xd)]
        refine gWr 2 rfl ?_;refine gA 13 rfl (2) ?_;exact gAg 2 rfl ((2,nnI tl+1,tr.ok (d+1) (klq b d)&&tr.isFork)) (.inr (.inr ⟨rfl,k1,hk,by simp only[hn],by simp[hk]⟩)) Xm
       ·have hn:nnI tr=0:=by have h4:¬(0:Int)<r:=h4;unfold nnI;rw[nr,if_neg Xo]
        refine gA 12 rfl (2) ?_;exact gAg 2 rfl ((2,nnI tl,tr.ok (d+1) (klq b d)&&tr.isFork)) (.inr (.inr ⟨rfl,k1,hk,by simp only[hn,Int.add_zero],by simp[hk]⟩)) Xm
    ·have e:T.ok d b (.fork tl tr)=T.two tl tr:=by simp only[T.ok];rw[decide_eq_true hd',k1,k2];rfl
     have e2:(T.fork tl tr).isFork=true:=rfl;rw[e,e2,Bool.and_true]
     have e3:T.two tl tr=((tl.isFork||tr.isFork)||decide (nnI tl+nnI tr=2)):=by
      unfold T.two nnI;congr 1
      cases tl.non<;>cases tr.non<;>rfl
     rw[e3];cases hw:(tl.isFork||tr.isFork) with
     |true=>
      skip
      refine ycq 9 rfl ?_;refine gO 0 rfl ?_;exact gQa 21 rfl
     |false=>
      skip
      refine ycq 9 rfl ?_;refine gO 0 rfl ?_;refine gU 7 rfl ?_;exact gQ 13 rfl Xm
def okN(ns:List Node):Prop:=∀i x,ns[i]? =some x->oneB x i
theorem rep_of{ns:List Node}(h:okN ns):∀n,n<=ns.length->∃t,Rep ns n t:=by
 intro n;induction n using Nat.strongRecOn with
 |_ n ih=>
  intro hn;cases n with
  |zero=>exact⟨_,.nil⟩
  |succ n=>
   obtain⟨x,hx⟩:∃x,ns[n]? =some x:=⟨_,List.getElem?_eq_getElem hn⟩
   have h1:=h n x hx;obtain⟨lf,k,v,l,r⟩:=x;cases lf with
   |true=>exact⟨_,.leaf hx⟩
   |false=>
    simp only[oneB,Bool.false_eq_true,if_false] at h1;obtain⟨⟨a1,a2⟩,⟨b1,b2⟩,_⟩:=h1;obtain⟨l,rfl⟩:=Int.eq_ofNat_of_zero_le a1;obtain⟨r,rfl⟩:=Int.eq_ofNat_of_zero_le b1;obtain⟨L,hL⟩:=ih l Xd Xd;obtain⟨R,hR⟩:=ih r Xd Xd;exact⟨_,.fork hx Xd Xd hL hR⟩
theorem Rep.uniq{ns:List Node}{n:Nat}{t:T}(h:Rep ns n t):∀{t':T},Rep ns n t'->t=t':=by
 induction h with
 |nil=>intro t' h';cases h';rfl
 |leaf h=>
  intro t' h';cases h' with
  |leaf h2=>rw[h] at h2;cases h2;rfl
  |fork h2=>rw[h] at h2;cases h2
 |fork h hl hr _ _ i1 i2=>
  intro t' h';cases h' with
  |leaf h2=>rw[h] at h2;cases h2
  |fork h2 _ _ hL hR=>
   rw[h] at h2;simp only[Option.some.injEq,Node.mk.injEq,Int.natCast_inj,true_and] at h2;obtain⟨_,_,rfl,rfl⟩:=h2;rw[i1 hL,i2 hR]
def MayT(t:Tree):Prop:=t.nodes.length<=262144/\okN t.nodes/\∃(n:Nat) (t0:T),t.root=n/\Rep t.nodes n t0/\t0.ok 0 kkq=true
noncomputable instance(t:Tree):Decidable (MayT t):=Classical.propDecidable _
theorem xwq(t:Tree)(hb:t.nodes.length<=4611686018427387903):PS cfg G 106 [tW t] (.int .i64 (if MayT t then 0 else 8)):=by
 have e:(t.nodes.map nW).length=t.nodes.length:=List.length_map _;have no:∀{R:Res} {k0:Nat},¬MayT t->W.int .i64 8=W.int .i64 (if MayT t then 0 else 8):=λh=>by rw[if_neg h]
 refine gI 11 rfl (λR k0=>gV (w':=.int .i64 (t.nodes.length:Int)) 0 rfl Xu ?_);refine gD 0 rfl (λh1=>?_) (λh1=>?_)
 ·have hno:¬MayT t:=λh=>by have:=h.1;omega
  exact gQ 23 rfl Xr
 refine gD 3 rfl (λh2=>?_) (λh2=>?_)
 ·have hno:¬MayT t:=λh=>by obtain⟨_,_,n,_,h,_⟩:=h;have h2:t.root<0:=h2;omega
  exact gQ 19 rfl Xr
 refine gV (w':=.int .i64 (t.nodes.length:Int)) 6 rfl Xu (gU 0 rfl ?_);refine gS 3 rfl (λh3=>?_) (λh3=>?_)
 ·have hno:¬MayT t:=λh=>by obtain⟨_,_,n,_,h,hr,_⟩:=h;have h3:(t.nodes.length:Int)<t.root:=h3;have:=hr.le;omega
  exact gQ 7 rfl Xr
 have h2:¬t.root<0:=h2;have h3:¬(t.nodes.length:Int)<t.root:=h3;obtain⟨n0,hn0⟩:=Int.eq_ofNat_of_zero_le (show 0<=t.root by omega);refine gV (w':=.int .i64 (t.nodes.length:Int)) 7 rfl Xu ?_;refine gLo (α:=Nat) 4 (λi=>i<=t.nodes.length/\∀j x,j<i->t.nodes[j]? =some x->oneB x j) (λi=>[(27,.int .i64 (i:Int))]) [1,2,25,26] (λi=>t.nodes.length-i) (0) rfl (⟨Nat.zero_le _,λj x hj=>by omega⟩) (λi hI=>?_);obtain⟨hi,hI⟩:=hI;refine gS 6 rfl (λh4=>?_) (λh4=>?_)
 ·have hi':i<t.nodes.length:=by omega
  obtain⟨x,hx⟩:∃x,t.nodes[i]? =some x:=⟨_,List.getElem?_eq_getElem hi'⟩
  refine gP 7 rfl (zGq (i:=i) rfl rfl rfl rfl rfl rfl rfl (zlq nW hx)) (gC 10 rfl (one_s _ _ Xd) ?_);refine gS 3 rfl (λh5=>?_) (λh5=>?_)
  ·have hno:¬MayT t:=λh=>by have:=h.2.1 i x hx;simp[this] at h5
   exact gO 8 rfl (gQ 2 rfl Xr)
  ·have h5:oneB x i:=by simpa using h5
   exact gA 4 rfl (i+1) (gAg 2 rfl (i+1) (⟨hi',λj y hj hy=>by rcases Nat.lt_succ_iff_lt_or_eq.1 hj with h|rfl;exact hI j y h hy;exact(Option.some.inj (hx.symm.trans hy))▸h5⟩) Xd)
 ·have okn:okN t.nodes:=λj x hx=>hI j x (by have:=(List.getElem?_eq_some_iff.1 hx).1;omega) hx
  obtain⟨t0,ht0⟩:=rep_of okn n0 Xd
  have key:MayT t↔t0.ok 0 kkq=true:=by
   constructor
   ·rintro⟨_,_,n,t1,hn,hr,hk⟩;obtain rfl:n=n0:=by omega
    rw[ht0.uniq hr];exact hk
   ·exact λh=>⟨by omega,okn,n0,t0,hn0,ht0,h⟩
  refine gO 2 rfl (gV 8 rfl Jnq (op_ps rfl rfl rfl rfl rfl (by rw[hn0];rfl) (right_s t Xd t0 n0 0 kkq ht0 Xd) Xm Xm (zsq 13 rfl ?_)));refine gS 0 rfl (λh5=>?_) (λh5=>?_)
  ·have hno:¬MayT t:=λh=>by have:=key.1 h;simp[this] at h5
   exact gQ 7 rfl Xr
  ·have yes:MayT t:=key.2 (by simpa using h5);exact gQ 8 rfl Yf
inductive FTo(ns:List Node)(k:Dig):Nat->Nat->Nat->Prop where
 |nil {d:Nat}:FTo ns k 0 d 0
 |hit {n d:Nat} {v:List UInt8} {l r:Int} (h:ns[n]? =some ⟨true,k,v,l,r⟩):FTo ns k (n+1) d (n+1)
 |miss {n d:Nat} {k':Dig} {v:List UInt8} {l r:Int} (h:ns[n]? =some ⟨true,k',v,l,r⟩) (hk:k'≠k):FTo ns k (n+1) d 0
 |go {n d l r m:Nat} {k':Dig} {v:List UInt8} (h:ns[n]? =some ⟨false,k',v,l,r⟩) (hd:d<256) (hg:FTo ns k (if bitN k d=0 then l else r) (d+1) m):FTo ns k (n+1) d m
theorem fto_of{ns:List Node}{k:Dig}{n:Nat}{t:T}(h:Rep ns n t):∀{d:Nat} {b:Dig},t.ok d b=true->∃m,FTo ns k n d m/\(t.find k d=none->m=0)/\∀v,t.find k d=some v->∃j l r,m=j+1/\ns[j]? =some ⟨true,k,v,l,r⟩:=by
 induction h with
 |nil=>exact λ_=>⟨0,.nil,λ_=>rfl,λv h=>by simp[T.find] at h⟩
 |leaf h=>
  rename_i n k' v l r;intro d b _;by_cases e:k'=k
  ·subst e;exact⟨n+1,.hit h,λhn=>by simp[T.find] at hn,λw hw=>by simp only[T.find,if_true,Option.some.injEq] at hw;subst hw;exact⟨n,l,r,rfl,h⟩⟩
  ·exact⟨0,.miss h e,λ_=>rfl,λw hw=>by simp[T.find,e] at hw⟩
 |fork h hl hr hL hR i1 i2=>
  intro d b hk;obtain⟨hd,k1,k2,_⟩:=ok_fork.1 hk;by_cases hb:bitN k d=0
  ·obtain⟨m,g1,g2,g3⟩:=i1 k1;exact⟨m,.go h hd (by rw[if_pos hb];exact g1),by simp only[T.find,if_pos hb];exact g2,by simp only[T.find,if_pos hb];exact g3⟩
  ·obtain⟨m,g1,g2,g3⟩:=i2 k2;exact⟨m,.go h hd (by rw[if_neg hb];exact g1),by simp only[T.find,if_neg hb];exact g2,by simp only[T.find,if_neg hb];exact g3⟩
theorem tbit_c(k:Dig)(d c:Nat)(h:d<256)(hc:bitN k d=c):PS cfg G 183 [dW k,.int .i64 (d:Int)] (.int .u8 (c:Int)):=hc▸tbit_s k d h
theorem tfind_s(t:Tree)(k:Dig)(n m:Nat)(hn:t.root=n)(hf:FTo t.nodes k n 0 m)(hb:t.nodes.length<=4611686018427387903):PS cfg G 107 [tW t,dW k] (.int .i64 (m:Int)):=by
 obtain⟨ns,root⟩:=t;simp only at hn hf hb;subst hn;refine gI 21 rfl (λR k0=>?_);refine gLo (α:=Nat×Nat) 0 (λp=>FTo ns k p.1 p.2 m/\p.2<=256) (λp=>[(5,.int .i64 (p.1:Int)),(6,.int .i64 (p.2:Int))]) [2,3,4] (λp=>257-p.2) ((n,0)) rfl (⟨hf,by simp⟩) (λp hI=>?_);obtain⟨i,d⟩:=p;obtain⟨hf,hd⟩:=hI;simp only at hf hd⊢;refine gS 7 rfl (λh1=>?_) (λh1=>?_)
 ·cases hf with
  |nil=>exfalso;omega
  |hit h=>
   skip
   rename_i i v l r;have hi:=(List.getElem?_eq_some_iff.1 h).1;refine zQq 9 rfl (gA 0 rfl (i) (gP 0 rfl (zGq (i:=i) rfl rfl rfl rfl rfl rfl rfl (zlq nW h)) (gUe 19 rfl (q4q rfl rfl rfl rfl (j3q rfl rfl rfl rfl rfl rfl _ _ 250)) qFq ?_)));refine gS 2 rfl (λh2=>?_) (λh2=>?_)
   ·refine gO 11 rfl ?_;first|exact gQa 2 rfl|(exfalso;omega)
   ·exfalso;exact h2 rfl
  |miss h hk=>
   rename_i i k' v l r;have hi:=(List.getElem?_eq_some_iff.1 h).1;refine zQq 9 rfl (gA 0 rfl (i) (gP 0 rfl (zGq (i:=i) rfl rfl rfl rfl rfl rfl rfl (zlq nW h)) (gUe 19 rfl (q4q rfl rfl rfl rfl (j3q rfl rfl rfl rfl rfl rfl _ _ 250)) qFq ?_)));refine gS 2 rfl (λh2=>?_) (λh2=>?_)
   ·exfalso;exact hk h2
   ·refine gO 11 rfl ?_;first|exact gQa 2 rfl|(exfalso;omega)
  |go h hd' hg=>
   rename_i i l r k' v;have hi:=(List.getElem?_eq_some_iff.1 h).1;have bl:=Jxq k d;rcases Nat.lt_or_ge 0 (bitN k d) with hb1|hb0
   ·skip
    have hc:bitN k d=1:=by omega
    rw[if_neg Xd] at hg;exact zQq 9 rfl (gA 0 rfl (i) (gP 0 rfl (zGq (i:=i) rfl rfl rfl rfl rfl rfl rfl (zlq nW h)) (gC 17 rfl (x3q _) (gC 2 rfl (tbit_c k d 1 hd' hc) (gA 7 rfl (d+1) (gAg 2 rfl ((r,d+1)) (⟨hg,hd'⟩) Xz))))))
   ·have hc:bitN k d=0:=by omega
    rw[if_pos hc] at hg;exact zQq 9 rfl (gA 0 rfl (i) (gP 0 rfl (zGq (i:=i) rfl rfl rfl rfl rfl rfl rfl (zlq nW h)) (gC 17 rfl (x3q _) (gC 2 rfl (tbit_c k d 0 hd' hc) (gA 7 rfl (d+1) (gAg 2 rfl ((l,d+1)) (⟨hg,hd'⟩) Xz))))))
 ·obtain rfl:i=0:=by omega
  cases hf;refine gO 2 rfl ?_;first|exact gQa 8 rfl|(exfalso;omega)
structure IsT(t:Tree)(n:Nat)(t0:T):Prop where
 len:t.nodes.length<=262144
 okn:okN t.nodes
 root:t.root=n
 rep:Rep t.nodes n t0
 ok:t0.ok 0 kkq=true
theorem IsT.may{t:Tree}{n:Nat}{t0:T}(h:IsT t n t0):MayT t:=⟨h.len,h.okn,n,t0,h.root,h.rep,h.ok⟩
theorem may_is{t:Tree}(h:MayT t):∃n t0,IsT t n t0:=by
 obtain⟨h1,h2,n,t0,h3,h4,h5⟩:=h;exact⟨n,t0,h1,h2,h3,h4,h5⟩
theorem okN_val{ns:List Node}(h:okN ns){i:Nat}{k:Dig}{v:List UInt8}{l r:Int}(hx:ns[i]? =some ⟨true,k,v,l,r⟩):0<v.length/\v.length<=64:=by
 have h1:=h i _ hx;simp only[oneB,if_true] at h1;have h2:=(h1.2.2.2 0 Xm (k,v) rfl).1;simp only[valB,Bool.and_eq_true,decide_eq_true_eq] at h2;exact h2
noncomputable def getW':Option (List UInt8) ->W
 |none=>.tup [.nils,.bool false]
 |some v=>.tup [bW v,.bool true]
theorem tget_s(t:Tree)(n:Nat)(t0:T)(k:Dig)(h:IsT t n t0):PS cfg G 43 [tW t,dW k] (getW' (t0.find k 0)):=by
 have hl:=h.len;have hy:=h.may;obtain⟨m,f1,f2,f3⟩:=fto_of (k:=k) h.rep h.ok;cases hf:t0.find k 0 with
 |none=>
  obtain rfl:=f2 hf;refine gI 12 rfl (λR k0=>?_);first|refine gC 0 rfl (zvq (w':=.int .i64 0) (xwq t Xd) (by rw[if_pos hy])) ?_|refine gC 0 rfl (xwq _ Xd) ?_
  exact gC 10 rfl (tfind_s t k n _ h.root f1 Xd) (gQa 19 rfl)
 |some v=>
  obtain⟨j,l,r,rfl,hx⟩:=f3 v hf;have hv:=okN_val h.okn hx;have hj:=(List.getElem?_eq_some_iff.1 hx).1;refine gI 12 rfl (λR k0=>?_);first|refine gC 0 rfl (zvq (w':=.int .i64 0) (xwq t Xd) (by rw[if_pos hy])) ?_|refine gC 0 rfl (xwq _ Xd) ?_
  refine gC 10 rfl (tfind_s t k n _ h.root f1 Xd) ?_;refine gS 10 rfl (λh1=>?_) (λh1=>?_)
  ·exfalso;omega
  ·exact gA 7 rfl (j) (gP 0 rfl (zGq (i:=j) rfl rfl rfl rfl rfl rfl rfl (zlq nW hx)) (zdq 2 rfl (jGq rfl rfl rfl rfl rfl rfl (Jsq v false Xd) (zsq 5 rfl (gQa 0 rfl)))))
theorem teach_s(t:Tree)(n:Int):PS cfg G 220 [tW t,.int .i64 n] (.fn 253 [] [.fel (.int .i64 n),.fel (tW t)]):=by
 refine gI 14 rfl (λR k0=>?_);refine yFq (fr2:=[(4,_)]) Xt ?_ rfl rfl
 (repeat (first|exact trivial|refine And.symm ⟨?_,_,rfl,?_⟩))<;>(repeat (first|exact .nil|refine .cons ?_ ?_|refine .fn ?_ ?_|(refine yIq rfl ?_ rfl;(first|rfl|(focus (simp;done))))|(refine .sl rfl ?_ rfl Xi;(first|rfl|(focus (simp;done))))|(refine .pur ?_;(first|rfl|(focus (simp;done))))|refine .agg ?_|refine .arr ?_|refine .tup ?_))
noncomputable def enc1(p:Pr):List W:=[pW p]
theorem yl_same{L:Nat}{E:Res->Prop}{b:Bool}{R1:Res}{l:List (List W)}(h:match b with|true=>Yl cfg G L E [] R1|false=>E R1):E R1:=by cases b<;>exact h
def restL(tl tr:T):Nat->List Pr
 |0=>tl.all++tr.all
 |1=>tr.all
 |_=>[]
theorem Jmq{α:Type}{l:List α}{i:Nat}{x:α}(h:l[i]? =some x):l.drop i=x::l.drop (i+1):=by
 obtain⟨hl,h2⟩:=List.getElem?_eq_some_iff.1 h;rw[List.drop_eq_getElem_cons hl,h2]
theorem teach_it(t:Tree)(hv:∀(i:Nat) (k:Dig) (v:List UInt8) (l r:Int),t.nodes[i]? =some (Node.mk true k v l r) ->v.length<=70368744177664)(hb:t.nodes.length<=4611686018427387903):∀(t0:T) (n:Nat),Rep t.nodes n t0->qnq cfg G 253 [.fel (.int .i64 (n:Int)),.fel (tW t)] (t0.all.map enc1):=by
 intro t0;induction t0 with
 |nil=>
  intro n hr;obtain rfl:n=0:=by cases hr;rfl
  refine uaq (fn:=Tryz.f253) rfl rfl rfl (Nat.le_of_ble_eq_true rfl) (λL E R hy k0=>?_);exact ycq 15 rfl (k4q Qm rfl hy)
 |leaf k v=>
  intro n hr;have hle:=hr.le;cases hr with
  |leaf h=>
  rename_i n l r;have hvl:=hv _ _ _ _ _ h;refine uaq (fn:=Tryz.f253) rfl rfl rfl (Nat.le_of_ble_eq_true rfl) (λL E R hy k0=>?_);refine ycq 12 rfl ?_;refine gS 0 rfl (λh1=>?_) (λh1=>?_)
  ·exfalso;omega
  ·refine gA 7 rfl (n) (gP 0 rfl (zGq (i:=n) rfl rfl rfl rfl rfl rfl rfl (zlq nW h)) (zdq 20 rfl (fl_ps rfl rfl rfl rfl rfl rfl (Jsq v false hvl) Xm Xm (by first|rfl|kernel_rfl) (jvq rfl rfl ?_))));refine qrq rfl (qYq rfl rfl rfl (hy) (λb R1 hb=>?_));refine⟨by first|rfl|kernel_rfl,?_⟩;exact qHq 4 rfl (k4q Qm rfl (yl_same (l:=[]) hb))
 | fork tl tr ihL ihR=>
  intro n hr;have hle:=hr.le;cases hr with
  |fork h hl hr hL hR=>
  rename_i n l r k v;refine uaq (fn:=Tryz.f253) rfl rfl rfl (Nat.le_of_ble_eq_true rfl) (λL E R hy k0=>?_);refine ycq 12 rfl ?_;refine gS 0 rfl (λh1=>?_) (λh1=>?_)
  ·exfalso;omega
  ·refine gA 7 rfl (n) (gP 0 rfl (zGq (i:=n) rfl rfl rfl rfl rfl rfl rfl (zlq nW h)) (gC 18 rfl (x3q _) (zdq 4 rfl ?_)));refine Jrq (α:=Nat×Res) (λp=>p.1<=2/\Yl cfg G L E ((restL tl tr p.1).map enc1) p.2) (λp=>[(28,.int .i64 (p.1:Int))]) [(2,_),(3,_),(27,_)] (λp=>p.2) (λp=>2-p.1) ((0,R)) ⟨rfl,rfl,rfl,trivial⟩ (⟨by simp,hy⟩) ⟨rfl,trivial⟩ rfl (λp hI=>?_);obtain⟨i,R⟩:=p;obtain⟨hi,hy⟩:=hI;simp only at hi hy⊢;refine ycq 6 rfl ?_;refine gS 0 rfl (λh2=>?_) (λh2=>?_)
   ·have hi':i=0\/i=1:=by omega
    rcases hi' with rfl|rfl
    ·skip
     refine gC 14 rfl (teach_s t l) (zdq 3 rfl ?_);refine Ykq (enc1) (tl.all) (λi a=>Yl cfg G L E (((tl.all.drop i)++tr.all).map enc1) a) (λa=>a) (R) rfl Xn (ihL _ hL) (λy _=>⟨by simp[enc1],rfl⟩) (hy) rfl (λi a y hy hI=>?_) (λa hI=>?_)
     ·have hd:=Jmq hy;rw[hd,List.cons_append,List.map_cons] at hI;refine ycq 4 rfl (QQq (ycq 5 rfl ?_));refine gSo 0 rfl (qYq rfl rfl rfl (hI) (λb R1 hb=>?_));refine gS 3 rfl (λh3=>?_) (λh3=>?_)
      ·cases b with
       |true=>cases h3
       |false=>
        exact zQq 2 rfl (QPq Xi (z0q 3 rfl (gO 0 rfl (zdq 1 rfl (k4q Qm rfl hb)))))
      ·cases b with
       |false=>exact absurd rfl h3
       |true=>
        exact zQq 2 rfl (QNq (R1) (hb) Xd Yg rfl)
     ·rw[List.drop_length,List.nil_append] at hI;exact z0q 4 rfl (gA 0 rfl (1) (gAg 2 rfl ((1,a)) (⟨by simp,hI⟩) Xm))
    ·skip
     refine gC 14 rfl (teach_s t r) (zdq 3 rfl ?_);refine Ykq (enc1) (tr.all) (λi a=>Yl cfg G L E ((tr.all.drop i).map enc1) a) (λa=>a) (R) rfl Xn (ihR _ hR) (λy _=>⟨by simp[enc1],rfl⟩) (hy) rfl (λi a y hy hI=>?_) (λa hI=>?_)
     ·have hd:=Jmq hy;rw[hd,List.map_cons] at hI;refine ycq 4 rfl (QQq (ycq 5 rfl ?_));refine gSo 0 rfl (qYq rfl rfl rfl (hI) (λb R1 hb=>?_));refine gS 3 rfl (λh3=>?_) (λh3=>?_)
      ·cases b with
       |true=>cases h3
       |false=>
        exact zQq 2 rfl (QPq Xi (z0q 3 rfl (gO 0 rfl (zdq 1 rfl (k4q Qm rfl hb)))))
      ·cases b with
       |false=>exact absurd rfl h3
       |true=>
        exact zQq 2 rfl (QNq (R1) (hb) Xd Yg rfl)
     ·rw[List.drop_length] at hI;exact z0q 4 rfl (gA 0 rfl (2) (gAg 2 rfl ((2,a)) (⟨by simp,hI⟩) Xm))
   ·refine gO 2 rfl (zdq 1 rfl ?_);obtain rfl:i=2:=by omega
    exact k4q (.inl rfl) rfl hy
noncomputable def psW(ps:List Pr):W:=.fz (ps.map pW) 33 false
@[simp] theorem psW_p(ps:List Pr):purW (psW ps)=true:=psW_pur ps
noncomputable def gat(ps:List Pr):HpW:=match ps with
 |[]=>[(0,155,.nils)]
 |_=>[(0,155,.sl 1 0 0 ps.length 33 none),(1,158,.arr (ps.length*33) 33 (ps.map pW))]
theorem gat_snoc(a:List Pr)(y:Pr):gat (a++[y])=[(0,155,.sl 1 0 0 (a.length+1) 33 none),(1,158,.arr ((a.length+1)*33) 33 (a.map pW++[pW y]))]:=by
 cases a with
 |nil=>rfl
 |cons x a=>simp[gat]
theorem pur1{a:List Pr}{y:Pr}{n:Nat}(e:Nat):purW (.arr n e (a.map pW++[pW y]))=true:=by simp
theorem aseq_s(f:FuncId)(cs:List W)(ls:List Pr)(hc:purL cs=true)(it:qnq cfg G f cs (ls.map enc1))(hb:ls.length<=1000000000):PS cfg G 252 [.nils,.fn f [] cs] (psW ls):=by
 refine gIv 13 rfl (λR k0=>?_);refine co_rangeN (α:=List Pr) (enc1) (ls) (λi a=>a=ls.take i) (λa=>gat a) (λa=>(match a with|[]=>1|_=>2)) (λa=>R) ([]) rfl Xn (it) (λy _=>⟨by simp[enc1],rfl⟩) (rfl) rfl rfl rfl (λi a y hy hI=>?_) (λa hI=>?_)
 ·have hi:=(List.getElem?_eq_some_iff.1 hy).1;have hn:ls.take (i+1)=a++[y]:=by rw[List.take_add_one,hy,hI];rfl
  cases a with
  |nil=>
   skip
   refine ycq 4 rfl (QQq (ycq 5 rfl (gM 0 rfl (yZq rfl rfl (unq (news:=[pW y]) (k:=ti158) rfl rfl rfl rfl (uuq rfl rfl rfl rfl) Xm (by show 1*ti158.bytes<=_;decide) (by show 1<=_;decide))) (zdq 3 rfl (QOq (ls.take (i+1)) rfl ?_)))));rw[hn,gat_snoc];refine yVq (b:=1) (k:=3) Xd Xd (by show 3<4;omega) trivial ⟨⟨by omega,rfl,rfl⟩,⟨by omega,?_,zeq (pur1 _)⟩,trivial⟩ Xm;rw[zwq (pur1 _)];rfl
  |cons x a=>
   have hl:(x::a).length<=1000000000:=by rw[hI,List.length_take];omega
   have el:((x::a).map pW).length=(x::a).length:=List.length_map _;refine ycq 4 rfl (QQq (ycq 5 rfl (gM 0 rfl (yZq rfl rfl (qzq (len:=(x::a).length) (news:=[pW y]) (olds:=(x::a).map pW) (k:=ti158) rfl rfl rfl rfl (uuq rfl rfl rfl rfl) Xm (by show((x::a).length+1)*56<=_;omega) (by show(x::a).length+1<=_;omega) rfl (by show(x::a).length*33<0+((x::a).length+1)*33;omega) rfl (zAq Xg el.symm rfl))) (zdq 3 rfl (QOq (ls.take (i+1)) rfl ?_)))));rw[hn,gat_snoc];refine yVq (b:=1) (k:=4) Xd Xd (by show 4<5;omega) trivial ⟨⟨by omega,rfl,rfl⟩,⟨by omega,?_,zeq (pur1 _)⟩,trivial⟩ Xm;rw[zwq (pur1 _)];rfl
 ·obtain rfl:a=ls:=by rw[hI,List.take_length]
  cases a with
  |nil=>
   skip
   refine z0q 9 rfl (jkq Xt rfl ?_)
   (repeat (first|exact .nil|refine .cons ?_ ?_|exact jPq|exact .nilfz|refine .fn ?_ ?_|(refine yIq rfl ?_ rfl;(first|rfl|(focus (simp;done))))|(refine .sl rfl ?_ rfl Xi;(first|rfl|(focus (simp;done))))|(refine .pur ?_;(first|rfl|(focus (simp;done))))|(refine .fzw ?_;(first|rfl|(focus (simp;done))))|refine .agg ?_|refine .arr ?_|refine .tup ?_))
  |cons x a=>
   exact z0q 9 rfl (jkq Xt rfl (.sl rfl (by show purL ((x::a).map pW)=true;exact psW_pur _) (zAq Xg (List.length_map _).symm rfl) Xi))
theorem collect_s(f:FuncId)(cs:List W)(ls:List Pr)(hc:purL cs=true)(it:qnq cfg G f cs (ls.map enc1))(hb:ls.length<=1000000000):PS cfg G 219 [.fn f [] cs] (psW ls):=by
 exact gI 8 rfl (λR k0=>op_ps rfl rfl rfl rfl rfl rfl (aseq_s f cs ls hc it hb) (by simp[hc]) Xm (zsq 4 rfl (gQa 0 rfl)))
theorem nodup_le{α:Type} [DecidableEq α]:∀(l m:List α),l.Nodup->(∀x∈l,x∈m) ->l.length<=m.length
 |[],m,_,_=>Nat.zero_le _
 |x::l,m,hn,hs=>by
  obtain⟨h1,h2⟩:=List.nodup_cons.1 hn;have hx:=hs x Xm;have ih:=nodup_le l (m.erase x) h2 λy hy=>(List.mem_erase_of_ne (λe:y=x=>h1 (by rw[<-e];exact hy))).2 (hs y (by simp[hy]))
  rw[List.length_erase_of_mem hx] at ih;have:0<m.length:=List.length_pos_of_mem hx;simp only[List.length_cons];omega
theorem rep_mem{ns:List Node}{n:Nat}{t:T}(h:Rep ns n t):∀p∈t.all,∃(i:Nat) (l r:Int),ns[i]? =some (Node.mk true p.1 p.2 l r):=by
 induction h with
 |nil=>intro p hp;simp[T.all] at hp
 |leaf h=>intro p hp;simp only[T.all,List.mem_singleton] at hp;subst hp;exact⟨_,_,_,h⟩
 |fork h hl hr _ _ i1 i2=>
  intro p hp;rcases List.mem_append.1 hp with hp|hp
  ·exact i1 p hp
  ·exact i2 p hp
theorem srt_nodup{l:List Pr}(h:Srt l):(l.map (·.1)).Nodup:=by
 rw[List.nodup_iff_pairwise_ne,List.pairwise_map];exact h.imp λh=>xTq h
theorem IsT.srt{t:Tree}{n:Nat}{t0:T}(h:IsT t n t0):Srt t0.all:=ok_srt zr_zero h.ok
theorem IsT.all_le{t:Tree}{n:Nat}{t0:T}(h:IsT t n t0):t0.all.length<=t.nodes.length:=by
 have:=nodup_le (t0.all.map (·.1)) (t.nodes.map (·.key)) (srt_nodup h.srt) λk hk=>by
  obtain⟨p,hp,rfl⟩:=List.mem_map.1 hk;obtain⟨i,l,r,hx⟩:=rep_mem h.rep p hp;exact List.mem_map.2 ⟨_,List.mem_of_getElem? hx,rfl⟩
 simpa using this
theorem IsT.val{t:Tree}{n:Nat}{t0:T}(h:IsT t n t0):∀p∈t0.all,0<p.2.length/\p.2.length<=64:=λp hp=>by
 obtain⟨i,l,r,hx⟩:=rep_mem h.rep p hp;exact okN_val h.okn hx
theorem tpairs_s(t:Tree)(n:Nat)(t0:T)(h:IsT t n t0):PS cfg G 180 [tW t] (.tup [psW t0.all,.int .i64 0]):=by
 have hl:=h.len;have hy:=h.may;have ha:=h.all_le;have hr:=h.root;obtain⟨ns,root⟩:=t;simp only at hl hr ha;subst hr;exact gI 11 rfl (λR k0=>gC 0 rfl (zvq (w':=.int .i64 0) (xwq ⟨ns,(n:Int)⟩ (by show ns.length<=_;omega)) (by rw[if_pos hy])) (zdq 17 rfl (jGq rfl rfl rfl rfl rfl rfl (teach_s ⟨ns,(n:Int)⟩ (n:Int)) (jGq rfl rfl rfl rfl rfl rfl (collect_s _ _ t0.all Xm (teach_it ⟨ns,(n:Int)⟩ (λi k v l r hx=>by have:=(okN_val h.okn hx).2;omega) (by show ns.length<=_;omega) t0 n h.rep) Xd) (zsq 5 rfl (gQa 0 rfl))))))
theorem tpairs_no(t:Tree)(hb:t.nodes.length<=4611686018427387903)(h:¬MayT t):PS cfg G 180 [tW t] (.tup [.nils,.int .i64 8]):=by
 exact gI 11 rfl (λR k0=>gC 0 rfl (zvq (w':=.int .i64 8) (xwq t hb) (by rw[if_neg h])) (gQa 19 rfl))
theorem aeach_s(t:Tree):PS cfg G 105 [tW t] (.fn 179 [] [.fel (tW t)]):=by
 refine gI 13 rfl (λR k0=>?_);refine yFq (fr2:=[(2,_)]) Xt ?_ rfl rfl
 (repeat (first|exact trivial|refine And.symm ⟨?_,_,rfl,?_⟩))<;>(repeat (first|exact .nil|refine .cons ?_ ?_|refine .fn ?_ ?_|(refine yIq rfl ?_ rfl;(first|rfl|(focus (simp;done))))|(refine .sl rfl ?_ rfl Xi;(first|rfl|(focus (simp;done))))|(refine .pur ?_;(first|rfl|(focus (simp;done))))|refine .agg ?_|refine .arr ?_|refine .tup ?_))
noncomputable def encA(p:Pr):List W:=[aW (kpq p.2).1,.bool (decide ((((kpq p.2).2:Nat):Int)=0))]
noncomputable def encZ(_:Unit):List W:=[aW .zero,.bool false]
theorem aeach_no(t:Tree)(hb:t.nodes.length<=4611686018427387903)(h:¬MayT t):qnq cfg G 179 [.fel (tW t)] ([()].map encZ):=by
 refine uaq (fn:=Tryz.f179) rfl rfl rfl (Nat.le_of_ble_eq_true rfl) (λL E R hy k0=>?_);refine ycq 3 rfl (gC 0 rfl (tpairs_no t hb h) ?_);refine gSo 19 rfl (qYq rfl rfl rfl (hy) (λb R1 hb=>?_));exact zdq 4 rfl (k4q Qm rfl (yl_same (l:=[]) hb))
theorem aeach_it(t:Tree)(n:Nat)(t0:T)(h:IsT t n t0):qnq cfg G 179 [.fel (tW t)] (t0.all.map encA):=by
 have e:(t0.all.map pW).length=t0.all.length:=List.length_map _;have hl:=h.len;have ha:=h.all_le;refine uaq (fn:=Tryz.f179) rfl rfl rfl (Nat.le_of_ble_eq_true rfl) (λL E R hy k0=>?_);refine ycq 3 rfl (gC 0 rfl (tpairs_s t n t0 h) (gV (w':=.int .i64 (t0.all.length:Int)) 20 rfl Xu (zdq 4 rfl ?_)));refine Jrq (α:=Nat×Res) (λp=>p.1<=t0.all.length/\Yl cfg G L E ((t0.all.drop p.1).map encA) p.2) (λp=>[(21,.int .i64 (p.1:Int))]) [(0,_),(19,_),(20,_)] (λp=>p.2) (λp=>t0.all.length-p.1) ((0,R)) ⟨rfl,rfl,rfl,trivial⟩ (⟨by simp,hy⟩) ⟨rfl,trivial⟩ rfl (λp hI=>?_);obtain⟨i,R⟩:=p;obtain⟨hi,hy⟩:=hI;simp only at hi hy⊢;refine ycq 6 rfl ?_;refine gS 0 rfl (λh1=>?_) (λh1=>?_)
 ·have hi':i<t0.all.length:=by omega
  obtain⟨x,hx⟩:∃x,t0.all[i]? =some x:=⟨_,List.getElem?_eq_getElem hi'⟩
  have hv:=h.val x (List.mem_of_getElem? hx);rw[Jmq hx,List.map_cons] at hy;refine gP 6 rfl (zGq (i:=i) rfl rfl rfl rfl rfl rfl rfl (zlq pW hx)) (zdq 9 rfl (jGq rfl rfl rfl rfl rfl rfl (aread_s x.2 false Xd) (zsq 13 rfl (gU 0 rfl ?_))));refine gSo 0 rfl (qYq rfl rfl rfl (hy) (λb R1 hb=>?_));refine gS 3 rfl (λh2=>?_) (λh2=>?_)
  ·cases b with
   |true=>cases h2
   |false=>
    exact zQq 3 rfl (gO 0 rfl (zdq 1 rfl (k4q Qm rfl hb)))
  ·cases b with
   |false=>exact absurd rfl h2
   |true=>
    exact zQq 4 rfl (gA 0 rfl (i+1) (gAg 2 rfl ((i+1,R1)) (⟨hi',hb⟩) Xz))
 ·refine gO 2 rfl (zdq 1 rfl ?_);obtain rfl:i=t0.all.length:=by omega
  rw[List.drop_length] at hy;exact k4q (.inl rfl) rfl hy
theorem encA_ok{l:List Pr}:∀y∈l,purL (encA y)=true/\(encA y).length=2:=λy _=>⟨rfl,rfl⟩
structure IsA(t:Tree)(n:Nat)(t0:T):Prop extends IsT t n t0 where
 held:∀p∈t0.all,(kpq p.2).2=0
def MayA(t:Tree):Prop:=∃n t0,IsA t n t0
noncomputable instance(t:Tree):Decidable (MayA t):=Classical.propDecidable _
theorem kjq(t:Tree)(hb:t.nodes.length<=4611686018427387903):PS cfg G 42 [tW t] (.int .i64 (if MayA t then 0 else 8)):=by
 by_cases h:MayT t
 ·obtain⟨n,t0,h⟩:=may_is h;refine gI 10 rfl (λR k0=>gC 0 rfl (aeach_s _) (zdq 3 rfl ?_));refine Ykq (encA) (t0.all) (λi (_:Unit)=>∀j p,j<i->t0.all[j]? =some p->(kpq p.2).2=0) (λ_=>R) (()) rfl Xn (aeach_it t n t0 h) (encA_ok) (λj p hj=>by omega) rfl (λi a y hy hI=>?_) (λa hI=>?_)
  ·refine ycq 3 rfl (QQq (ycq 7 rfl ?_));refine gS 0 rfl (λh1=>?_) (λh1=>?_)
   ·have hno:¬MayA t:=by
     rintro⟨n',t1,ha⟩;obtain rfl:n'=n:=by have:=ha.root;have:=h.root;omega
     obtain rfl:=ha.rep.uniq h.rep;have:=ha.held y (List.mem_of_getElem? hy);rw[this] at h1;simp at h1
    exact zdq 7 rfl (QPq Xi (z0q 2 rfl (gQ 0 rfl Xr)))
   ·have hok:(kpq y.2).2=0:=by simp at h1;omega
    exact zdq 2 rfl (QNq (()) (λj p hj hp=>by rcases Nat.lt_succ_iff_lt_or_eq.1 hj with q|rfl;exact hI j p q hp;exact(Option.some.inj (hy.symm.trans hp))▸hok) Xd Yg rfl)
  ·have yes:MayA t:=⟨n,t0,h,λp hp=>by
    obtain⟨j,hj,hjp⟩:=List.getElem_of_mem hp;exact hI j p hj (by rw[List.getElem?_eq_getElem hj,hjp])⟩
   exact z0q 8 rfl (gQ 0 rfl Yf)
 ·have hno:¬MayA t:=λ⟨n,t0,ha⟩=>h ha.toIsT.may
  refine gI 10 rfl (λR k0=>gC 0 rfl (aeach_s _) (zdq 3 rfl ?_));refine Ylq (encZ) ([()]) (λi=>i=0) rfl Xn (aeach_no t hb h) (λy _=>⟨rfl,rfl⟩) (rfl) (λi y hy hI=>?_) (λhI=>?_)
  ·exact ycq 3 rfl (QQq (ycq 15 rfl (jrq Xi (z0q 2 rfl (gQ 0 rfl Xr)))))
  ·exfalso;simp at hI
def kDq(t0:T)(k:Dig):Acct:=match t0.find k 0 with
 |none=>.zero
 |some v=>(kpq v).1
theorem IsA.acct{t:Tree}{n:Nat}{t0:T}(h:IsA t n t0){k:Dig}{v:List UInt8}(hv:t0.find k 0=some v):(k,v)∈t0.all/\(kpq v).2=0:=by
 rw[Z4q k zr_zero h.ok] at hv;have:=(findL_some h.srt).1 hv;exact⟨this,h.held _ this⟩
theorem aget_s(t:Tree)(n:Nat)(t0:T)(h:IsA t n t0)(k:Dig):PS cfg G 11 [tW t,dW k] (.tup [aW (kDq t0 k),.int .i64 0]):=by
 have yes:MayA t:=⟨n,t0,h⟩;have hl:=h.len;cases hf:t0.find k 0 with
 |none=>
  have e:kDq t0 k= .zero:=by unfold kDq;rw[hf]
  rw[e];refine gI 12 rfl (λR k0=>?_);first|refine gC 0 rfl (zvq (w':=.int .i64 0) (kjq t Xd) Yf) ?_|refine gC 0 rfl (kjq _ Xd) ?_
  exact gC 16 rfl (zvq (w':=.tup [.nils,.bool false]) (tget_s t n t0 k h.toIsT) (by rw[hf];rfl)) (gQa 24 rfl)
 |some v=>
  obtain⟨h1,h2⟩:=h.acct hf;have hv:=h.val _ h1;have e:kDq t0 k=(kpq v).1:=by unfold kDq;rw[hf]
  rw[e];refine gI 12 rfl (λR k0=>?_);first|refine gC 0 rfl (zvq (w':=.int .i64 0) (kjq t Xd) Yf) ?_|refine gC 0 rfl (kjq _ Xd) ?_
  exact gC 16 rfl (zvq (w':=.tup [bW v,.bool true]) (tget_s t n t0 k h.toIsT) (by rw[hf];rfl)) (zdq 20 rfl (jGq rfl rfl rfl rfl rfl rfl (aread_s v false (by simp only at hv;omega)) (zsq 7 rfl (gQ 0 rfl (by rw[h2];rfl)))))
noncomputable def nsW(ns:List Node):W:=.arr (ns.length*36) 36 (ns.map nW)
@[simp] theorem nsW_p(ns:List Node):purW (nsW ns)=true:=nsW_pur ns
theorem nclone_s(ns:List Node)(f:Bool)(hl:ns.length<=1000000000):qmq cfg G 193 0 [.fz (ns.map nW) 36 f] [] λw hp nw=>
  (ns=[]/\w= .nils/\hp=[]/\nw=0)\/(w= .sl 0 0 0 ns.length 36 none/\hp=[(0,223,nsW ns)]/\nw=1):=by
 intro R;have e:(ns.map nW).length=ns.length:=List.length_map _;refine gIs 9 rfl (λk0=>?_);first|refine yBq rfl rfl ?_|refine zUq rfl (q8q rfl rfl rfl rfl rfl (λbn hn=>?_))
 refine zsq 2 rfl ?_;refine gS 0 rfl (λh1=>?_) (λh1=>?_)
 ·cases bn with
  |false=>cases h1
  |true=>
   have hn:=hn rfl
   have hl0:ns=[]:=by cases ns with
    |nil=>rfl
    |cons c l=>simp at hn
   exact zQq 7 rfl (fin Qm Ent.refl rfl ⟨rfl,.inl ⟨hl0,rfl,rfl,rfl⟩⟩)
 ·cases ns with
  |nil=>
   skip
   exact zQq 6 rfl (gM 0 rfl (yZq rfl rfl (jxq rfl rfl rfl rfl rfl)) (zdq 4 rfl (fin Qm Ent.refl rfl ⟨rfl,.inr ⟨rfl,rfl,rfl⟩⟩)))
  |cons c l=>
   refine zQq 6 rfl (gM 0 rfl (yZq rfl rfl (qzq (len:=0) (news:=(c::l).map nW) (olds:=[]) (k:=ti223) rfl rfl rfl rfl rfl Xm (by show(0+((c::l).map nW).length)*ti223.bytes<=_;rw[e];show(0+(c::l).length)*80<=_;omega) Ys rfl (by show 0<0+(0+((c::l).map nW).length)*36;rw[e];simp only[List.length_cons];omega) rfl rfl)) (zdq 4 rfl ?_));refine fin Qm (yVq (b:=0) (k:=1) (fr2:=[(2,.sl 0 0 0 (c::l).length 36 none)]) (hp2:=[(0,223,nsW (c::l))]) Xd Xd (by show 1<2;omega) ⟨⟨?_,rfl⟩,trivial⟩ ⟨⟨by omega,?_,zeq (nsW_p _)⟩,trivial⟩ Xm) rfl ⟨rfl,.inr ⟨rfl,rfl,rfl⟩⟩
   ·show some (W.sl 1 0 0 (0+((c::l).map nW).length) 36 none)=some (W.sl 1 0 0 (c::l).length 36 none);rw[e,Nat.zero_add]
   ·rw[zwq (nsW_p _)];show some (223,W.arr ((0+((c::l).map nW).length)*36) 36 ([]++(c::l).map nW))=some (223,nsW (c::l));rw[e,Nat.zero_add];rfl
theorem node_get(ns:List Node){i:Nat}{x:Node}(h:ns[i]? =some x):zWq 50 (nsW ns) (0+i*36+33) 1 false=some (bW x.val):=
 get_in (zlq nW h) Xd Xd Xm rfl
theorem node_put(ns:List Node){i:Nat}{x:Node}(h:ns[i]? =some x):yDq 50 (nsW ns) (0+i*36+33) (bW x.val)=some (nsW ns):=by
 have h1:=zlq nW h;rw[nsW,put_in (x':=nW x) h1 Xd Xd (by simp[W.isAgg,bW]) rfl,xyq h1]
theorem twin_s(ns:List Node)(root:Int)(hl:ns.length<=1000000000)(hv:∀x∈ns,x.val.length<=70368744177664):qmq cfg G 127 0 [tW ⟨ns,root⟩] [] λw hp nw=>
  (ns=[]/\w= .agg 2 [.nils,.int .i64 root]/\hp=[(1,28,.agg 2 [.nils,.int .i64 root]),(0,28,.agg 2 [.nils,.int .i64 root])]/\nw=2)\/
  (w= .agg 2 [.sl 2 0 0 ns.length 36 none,.int .i64 root]/\hp=[(2,223,nsW ns),(1,28,.agg 2 [.sl 2 0 0 ns.length 36 none,.int .i64 root]),(0,28,.agg 2 [.sl 2 0 0 ns.length 36 none,.int .i64 root])]/\nw=3):=by
 intro R;refine gIs 10 rfl (λk0=>?_);skip
 refine gSo 0 rfl (y3q rfl rfl rfl rfl rfl (by simp[nsW_pur]) (nclone_s ns false hl) ?_);rintro w hp1 nw1 (⟨hn,rfl,rfl,rfl⟩|⟨rfl,rfl,rfl⟩)
 ·skip
  skip
  refine gL 9 rfl ?_;refine gLo (α:=Nat) 4 (λi=>i=0) (λi=>[(11,.int .i64 (i:Int))]) [1,2,10] (λi=>1-i) (0) rfl (rfl) (λi hI=>?_);subst hI;exact gO 9 rfl (zdq 9 rfl (fin Qm Ent.refl rfl ⟨rfl,.inl ⟨hn,rfl,rfl,rfl⟩⟩))
 ·rw[kwq (nsW_p _)];show OpW cfg G _ _ _ _ [(2,223,nsW ns),(1,28,.agg 2 [.nils,.int .i64 0]),(0,28,tW ⟨ns,root⟩)] 3 R _;refine zsq 9 rfl (gL 0 rfl ?_);refine gLo (α:=Nat) 4 (λi=>i<=ns.length) (λi=>[(11,.int .i64 (i:Int))]) [1,2,10] (λi=>ns.length-i) (0) rfl (Nat.zero_le _) (λi hI=>?_);refine gS 6 rfl (λh1=>?_) (λh1=>?_)
  ·have hi:i<ns.length:=by omega
   obtain⟨x,hx⟩:∃x,ns[i]? =some x:=⟨_,List.getElem?_eq_getElem hi⟩
   have hxv:=hv x (List.mem_of_getElem? hx);refine gP 17 rfl (jYq (i:=i) rfl rfl rfl rfl rfl rfl rfl hi) (gM 1 rfl (yEq rfl rfl rfl (node_get ns hx)) (fl_ps rfl rfl rfl rfl rfl rfl (Jsq x.val false hxv) Xm Xm (by first|rfl|kernel_rfl) ?_));refine jvq rfl (jYq (i:=i) rfl rfl rfl rfl rfl rfl rfl hi) (jvq rfl rfl ?_);exact fl_mem rfl (st_same rfl rfl rfl rfl rfl (node_put ns hx)) (by first|rfl|kernel_rfl) (qHq 4 rfl (gA 0 rfl (i+1) (gAg 2 rfl (i+1) (hi) Xd)))
  ·exact gO 2 rfl (zdq 9 rfl (fin Qm Ent.refl rfl ⟨rfl,.inr ⟨rfl,rfl,rfl⟩⟩))
noncomputable def mkW(b n:Nat)(root:Int):W:=.agg 2 [.sl b 0 0 n 36 none,.int .i64 root]
theorem view_mk{hp:HpW}{b:Nat}{ns:List Node}{root:Int}(h:hget hp b=some (223,nsW ns)):View (blkA hp) (mkW b ns.length root) (tW ⟨ns,root⟩):=
 .agg (.cons (.sl (c:=nsW ns) (by unfold blkA;rw[h]) (nsW_p ns) (zAq Xg (List.length_map _).symm rfl) Xi) (.cons (.pur rfl) .nil))
noncomputable def setL(l:List Pr)(k:Dig)(a:Acct):List Pr:=if a= .zero then withoutL l k else withL l k (bytesA a)
def Qwq(t:Tree)(m:Nat):Prop:=m<t.nodes.length\/∃i x,i<=m/\t.nodes[i]? =some x/\100<x.val.length
noncomputable instance(t:Tree)(m:Nat):Decidable (Qwq t m):=Classical.propDecidable _
theorem great_s(t:Tree)(m:Nat)(hb:t.nodes.length<=4611686018427387903)(hm:m<=4611686018427387903):PS cfg G 141 [tW t,.int .i64 (m:Int)] (.bool (decide (Qwq t m))):=by
 have e:(t.nodes.map nW).length=t.nodes.length:=List.length_map _;refine gI 13 rfl (λR k0=>?_);refine gLo (α:=Nat) 0 (λi=>i<=t.nodes.length/\∀j x,j<i->t.nodes[j]? =some x->x.val.length<=100) (λi=>[(5,.int .i64 (i:Int))]) [1,2,4] (λi=>t.nodes.length-i) (0) rfl (⟨Nat.zero_le _,λj x h=>by omega⟩) (λi hI=>?_);obtain⟨hI,hJ⟩:=hI;refine gV (w':=.int .i64 (t.nodes.length:Int)) 6 rfl Xu ?_;refine gD 0 rfl (λh1=>?_) (λh1=>?_)
 ·have hi:i<t.nodes.length:=by omega
  obtain⟨x,hx⟩:∃x,t.nodes[i]? =some x:=⟨_,List.getElem?_eq_getElem hi⟩
  have ex:=zxq x.val;refine gU 3 rfl ?_;refine gS 3 rfl (λh2=>?_) (λh2=>?_)
  ·refine gP 9 rfl (zGq (i:=i) rfl rfl rfl rfl rfl rfl rfl (zlq nW hx)) ?_;refine gV (w':=.int .i64 (x.val.length:Int)) 2 rfl (by rw[<-ex];rfl) ?_;refine gS 3 rfl (λh3=>?_) (λh3=>?_)
   ·refine gO 8 rfl ?_;exact gQ 2 rfl (by rw[decide_eq_true (show Qwq t m from .inr ⟨i,x,by omega,hx,by omega⟩)])
   ·refine gA 5 rfl (i+1) ?_;exact gAg 2 rfl (i+1) (⟨hi,λj y hj hy=>by rcases Nat.lt_succ_iff_lt_or_eq.1 hj with q|rfl;exact hJ j y q hy;have:=Option.some.inj (hx.symm.trans hy);subst this;omega⟩) Xd
  ·refine gO 2 rfl ?_;refine gV (w':=.int .i64 (t.nodes.length:Int)) 6 rfl Xu ?_;refine gU 1 rfl ?_;exact gQ 4 rfl (by rw[decide_eq_true (show Qwq t m from .inl Xd)];congr 1;exact decide_eq_true (show(m:Int)<(t.nodes.length:Int) by omega))
 ·refine gO 10 rfl ?_;refine gV (w':=.int .i64 (t.nodes.length:Int)) 6 rfl Xu ?_;refine gU 1 rfl ?_;refine gQ 4 rfl ?_;congr 1
  refine decide_eq_decide.2 ⟨λq=>.inl (show m<t.nodes.length by have q:(m:Int)<(t.nodes.length:Int):=q;omega),?_⟩;rintro(q|⟨j,x,_,hx,hq⟩)
  ·show(m:Int)<(t.nodes.length:Int);omega
  ·have:=hJ j x (by have:=(List.getElem?_eq_some_iff.1 hx).1;omega) hx;omega
theorem twinp_s(t:Tree)(hl:t.nodes.length<=1000000000)(hv:∀x∈t.nodes,x.val.length<=70368744177664):PS cfg G 127 [tW t] (tW t):=λR=>
 uvq (kxq (twin_s t.nodes t.root hl hv) (Q:=λw hp _=>View (blkA hp) w (tW t)) (λw hp nw h=>by
  rcases h with ⟨hn,rfl,rfl,rfl⟩|⟨rfl,rfl,rfl⟩
  ·refine .agg (.cons ?_ (.cons (.pur rfl) .nil));rw[hn];exact .nilfz
  ·exact view_mk (b:=2) (ns:=t.nodes) (root:=t.root) rfl) R)
structure Depo where
 number:Nat
 to:Dig
 amount:Nat
noncomputable def pdW(d:Depo):W:=.agg 34 [.int .u64 (d.number:Int),dW d.to,.int .u64 (d.amount:Int)]
@[simp] theorem pdW_pur(d:Depo):purW (pdW d)=true:=by simp[pdW]
def overB(t0:T)(d:Depo):Prop:=18446744073709551616<=(kDq t0 d.to).balance+d.amount
instance(t0:T)(d:Depo):Decidable (overB t0 d):=inferInstanceAs (Decidable (_<=_))
end
section
variable {kfn:List V->Heap->Option (V×Heap)}
noncomputable def rotN(x n:Nat):Nat:=Nat.lor (Nat.shiftLeft x (32-n)%4294967296%4294967296) (Nat.shiftRight x n%4294967296)
noncomputable def addN(a b:Nat):Nat:=(a+b)%4294967296
noncomputable def xorN(a b:Nat):Nat:=Nat.xor (a%4294967296) (b%4294967296)
noncomputable def andN(a b:Nat):Nat:=Nat.land (a%4294967296) (b%4294967296)
noncomputable def shrN(a k:Nat):Nat:=Nat.shiftRight a (min k 32)
noncomputable def shlN(a k:Nat):Nat:=Nat.shiftLeft a (min k 32)%4294967296
noncomputable def orN(a b:Nat):Nat:=Nat.lor (a%4294967296) (b%4294967296)
noncomputable def notN(a:Nat):Nat:=Nat.xor (4294967295%4294967296) (a%4294967296)
noncomputable def wd(x:Nat):W:=.int .u32 (.ofNat x)
theorem q7q(n:Nat)(hn:n=2\/n=6\/n=7\/n=11\/n=13\/n=17\/n=18\/n=19\/n=22\/n=25)(G:Nat->Option W)(x:Nat):PS (cfgk kfn) G 233 [wd x,.int .i64 (.ofNat n)] (wd (rotN x n)):=by
 have key:∀h,yxq (cfgk kfn) 20 233 [.int .u32 (.ofNat x),.int .i64 (.ofNat n)] h=some (.int .u32 (.ofNat (rotN x n)),h):=by
  intro h;rcases hn with rfl|rfl|rfl|rfl|rfl|rfl|rfl|rfl|rfl|rfl<;>kernel_rfl
 refine kxq (spec_run key (λΓ us h=>?_) (λΓ=>RV_int.2 rfl)) λw hp nw h=>h.1
 obtain⟨v,vs,rfl,h1,h2⟩:=RVL_cons.1 h;obtain⟨v',vs',rfl,h3,h4⟩:=RVL_cons.1 h2;rw[RVL_nil.1 h4,RV_int.1 h1,RV_int.1 h3]
end
section
variable {kfn:List V->Heap->Option (V×Heap)}
attribute [local irreducible] CoW OpW FlW Step Spec
noncomputable def wordN(b0 b1 b2 b3:Nat):Nat:=orN (orN (orN (shlN (b0%4294967296) 24) (shlN (b1%4294967296) 16)) (shlN (b2%4294967296) 8)) (b3%4294967296)
noncomputable def YIq(bs:Nat->Nat)(l:List Nat):Nat:=match Nat.blt l.length 16 with
 |true=>wordN (bs (4*l.length)) (bs (4*l.length+1)) (bs (4*l.length+2)) (bs (4*l.length+3))
 |false=>addN (addN (addN (l.getD (l.length-16) 0) (xorN (xorN (rotN (l.getD (l.length-15) 0) 7) (rotN (l.getD (l.length-15) 0) 18)) (shrN (l.getD (l.length-15) 0) 3))) (l.getD (l.length-7) 0)) (xorN (xorN (rotN (l.getD (l.length-2) 0) 17) (rotN (l.getD (l.length-2) 0) 19)) (shrN (l.getD (l.length-2) 0) 10))
noncomputable def ytq(bs:Nat->Nat):Nat->List Nat
 |0=>[]
 |t+1=>ytq bs t++[YIq bs (ytq bs t)]
theorem qhq(bs:Nat->Nat):∀t,(ytq bs t).length=t
 |0=>rfl
 |t+1=>by simp[ytq,qhq bs t]
theorem Q2q{l:List Nat}{i:Nat}(h:i<l.length):(l.map wd)[i]? =some (wd (l.getD i 0)):=by
 simp[List.getElem?_map,List.getElem?_eq_getElem h,List.getD]
noncomputable def kW:List Nat:=[1116352408,1899447441,3049323471,3921009573,961987163,1508970993,2453635748,2870763221,3624381080,310598401,607225278,1426881987,1925078388,2162078206,2614888103,3248222580,3835390401,4022224774,264347078,604807628,770255983,1249150122,1555081692,1996064986,2554220882,2821834349,2952996808,3210313671,3336571891,3584528711,113926993,338241895,666307205,773529912,1294757372,1396182291,1695183700,1986661051,2177026350,2456956037,2730485921,2820302411,3259730800,3345764771,3516065817,3600352804,4094571909,275423344,430227734,506948616,659060556,883997877,958139571,1322822218,1537002063,1747873779,1955562222,2024104815,2227730452,2361852424,2428436474,2756734187,3204031479,3329325298]
noncomputable def glK:Nat->Option W:=λg=>match g with
 |1=>some (.arr 64 1 (kW.map wd))
 |_=>none
noncomputable def pad0(l:List Nat)(n:Nat):List Nat:=l++List.replicate (n-l.length) 0
theorem pad0_at{l:List Nat}{n i:Nat}(h:i<l.length):((pad0 l n).map wd)[i]? =some (wd (l.getD i 0)):=by
 have:i<(pad0 l n).length:=by simp[pad0];omega
 rw[Q2q this];simp[pad0,List.getD,List.getElem?_append,h]
theorem pad0_ge{l:List Nat}{n:Nat}(h:l.length<n):((pad0 l n).map wd)[l.length]? =some (wd 0):=by
 have:l.length<(pad0 l n).length:=by simp[pad0];omega
 rw[Q2q this];simp[pad0,List.getD,List.getElem?_append,List.getElem?_replicate,show 0<n-l.length by omega]
theorem pad0_set{l:List Nat}{n x:Nat}(h:l.length<n):((pad0 l n).map wd).set l.length (wd x)=(pad0 (l++[x]) n).map wd:=by
 rw[<-List.map_set];congr 1
 unfold pad0;rw[List.set_append_right _ _ (Nat.le_refl _)];have:n-l.length=(n-(l++[x]).length)+1:=by simp;omega
 rw[this,Nat.sub_self,List.replicate_succ,List.set_cons_zero,List.append_assoc];rfl
structure S8 where
 (a b c d e f g h:Nat)
noncomputable def S8.l(s:S8):List W:=[wd s.a,wd s.b,wd s.c,wd s.d,wd s.e,wd s.f,wd s.g,wd s.h]
noncomputable def roundN(k w:Nat)(v:S8):S8:=
 let one:=addN (addN (addN (addN v.h (xorN (xorN (rotN v.e 6) (rotN v.e 11)) (rotN v.e 25))) (xorN (andN v.e v.f) (andN (notN v.e) v.g))) k) w
 let two:=addN (xorN (xorN (rotN v.a 2) (rotN v.a 13)) (rotN v.a 22)) (xorN (xorN (andN v.a v.b) (andN v.a v.c)) (andN v.b v.c))
 ⟨addN one two,v.a,v.b,v.c,addN v.d one,v.e,v.f,v.g⟩
noncomputable def kcq(ws:List Nat)(s:S8):Nat->S8
 |0=>s
 |t+1=>roundN (kW.getD t 0) (ws.getD t 0) (kcq ws s t)
noncomputable def add8(s v:S8):S8:=⟨addN s.a v.a,addN s.b v.b,addN s.c v.c,addN s.d v.d,addN s.e v.e,addN s.f v.f,addN s.g v.g,addN s.h v.h⟩
noncomputable def j7q(bs:Nat->Nat)(s:S8):S8:=add8 s (kcq (ytq bs 64) s 64)
theorem kW_len:kW.length=64:=rfl
noncomputable def S8.get(s:S8):Nat->Nat
 |0=>s.a
 |1=>s.b
 |2=>s.c
 |3=>s.d
 |4=>s.e
 |5=>s.f
 |6=>s.g
 |_=>s.h
noncomputable def mix8(s v:S8)(i:Nat):List W:=(add8 s v).l.take i++s.l.drop i
theorem lt8{i:Nat}(h:i<8):i=0\/i=1\/i=2\/i=3\/i=4\/i=5\/i=6\/i=7:=by omega
theorem S8_at(s:S8){k:Nat}(h:k<8):s.l[0+k*1]? =some (wd (s.get k)):=by rcases lt8 h with rfl|rfl|rfl|rfl|rfl|rfl|rfl|rfl<;>rfl
theorem mix_at(s v:S8){k:Nat}(h:k<8):(mix8 s v k)[0+k*1]? =some (wd (s.get k)):=by rcases lt8 h with rfl|rfl|rfl|rfl|rfl|rfl|rfl|rfl<;>rfl
theorem mix_set(s v:S8){k:Nat}(h:k<8):(mix8 s v k).set (0+k*1) (wd (addN (s.get k) (v.get k)))=mix8 s v (k+1):=by rcases lt8 h with rfl|rfl|rfl|rfl|rfl|rfl|rfl|rfl<;>rfl
theorem block_s(s:S8)(bs:Nat->Nat)(c:W)(base off:Nat)(lim:Option Nat)(ty:TypeId)(hc:refB 2 c=true)(hby:∀i,i<64->zWq 50 c (off+i*1) 1 false=some (.int .u8 (.ofNat (bs i))))(R:Res):
  Spec (cfgk kfn) glK 200 2 [.ptr 0 0,.sl 1 base off 64 1 lim] [(0,349,.arr 8 1 s.l),(1,ty,c)] R λw hp nw R'=>R'=R/\w= .tup []/\hp=[(0,349,.arr 8 1 (j7q bs s).l),(1,ty,c)]/\nw=2:=by
 refine gIs 12 rfl (λk0=>?_);refine jKq (α:=Nat) (λt=>t<=64) (λt=>[(19,.int .i64 (t:Int))]) [(0,_),(1,_),(4,_)] (λt=>[(2,396,.arr 64 1 ((pad0 (ytq bs t) 64).map wd)),(0,349,.arr 8 1 s.l),(1,ty,c)]) (λt=>64-t) (0) ⟨rfl,rfl,rfl,trivial⟩ (Nat.zero_le _) ⟨rfl,trivial⟩ (rfl) (λt hI=>?_);have hl:=qhq bs t;refine ycq 6 rfl ?_;refine gS 0 rfl (λh1=>?_) (λh1=>?_)
 ·have ht1:t<64:=by omega
  have h0:((pad0 (ytq bs t) 64).map wd)[0+t*1]? =some (wd 0):=by
   have:=pad0_ge (l:=ytq bs t) (n:=64) Xd;rw[hl] at this;simpa using this
  have key:∀x,YIq bs (ytq bs t)=x->((pad0 (ytq bs t) 64).map wd).set (0+t*1) (wd x)=(pad0 (ytq bs (t+1)) 64).map wd:=λx hx=>by
   have:=pad0_set (l:=ytq bs t) (n:=64) (x:=x) Xd;rw[hl] at this;rw[Nat.zero_add,Nat.mul_one,this,ytq,hx]
  refine gS 17 rfl (λh2=>?_) (λh2=>?_)
  ·have ht2:t<16:=by omega
   have hb:YIq bs (ytq bs t)=wordN (bs (4*t)) (bs (4*t+1)) (bs (4*t+2)) (bs (4*t+3)):=by
    unfold YIq;rw[hl,show Nat.blt t 16=true by simpa[Nat.blt_eq] using ht2]
   refine gA 5 rfl (4*t) ?_;refine gP 0 rfl (jYq (i:=4*t) rfl rfl rfl rfl rfl rfl rfl Xd) ?_;refine gM 0 rfl (yEq rfl rfl rfl (hby _ Xd)) ?_;refine gA 4 rfl (4*t) ?_;refine gA 0 rfl (4*t+1) ?_;refine gP 0 rfl (jYq (i:=4*t+1) rfl rfl rfl rfl rfl rfl rfl Xd) ?_;refine gM 0 rfl (yEq rfl rfl rfl (hby _ Xd)) ?_;refine gA 5 rfl (4*t) ?_;refine gA 0 rfl (4*t+2) ?_;refine gP 0 rfl (jYq (i:=4*t+2) rfl rfl rfl rfl rfl rfl rfl Xd) ?_;refine gM 0 rfl (yEq rfl rfl rfl (hby _ Xd)) ?_;refine gA 5 rfl (4*t) ?_;refine gA 0 rfl (4*t+3) ?_;refine gP 0 rfl (jYq (i:=4*t+3) rfl rfl rfl rfl rfl rfl rfl Xd) ?_;refine gM 0 rfl (yEq rfl rfl rfl (hby _ Xd)) ?_;refine gX 2 rfl ?_;refine gM 0 rfl (jAq rfl rfl rfl rfl rfl (kOq h0 rfl rfl) (congrArg (λL=>[(2,396,W.arr 64 1 L),(0,349,.arr 8 1 s.l),(1,ty,c)]) (key _ hb))) ?_;refine gWr 7 rfl ?_;refine zdq 2 rfl ?_;exact xBq (t+1) (ht1) Xd ⟨rfl,trivial⟩ ⟨rfl,rfl,rfl,trivial⟩ rfl
  ·have ht2:¬t<16:=by omega
   have hA:∀k,k<t->((pad0 (ytq bs t) 64).map wd)[0+k*1]? =some (wd ((ytq bs t).getD k 0)):=λk hk=>by
    rw[Nat.zero_add,Nat.mul_one];exact pad0_at Xd
   have hb:YIq bs (ytq bs t)=addN (addN (addN ((ytq bs t).getD (t-16) 0) (xorN (xorN (rotN ((ytq bs t).getD (t-15) 0) 7) (rotN ((ytq bs t).getD (t-15) 0) 18)) (shrN ((ytq bs t).getD (t-15) 0) 3))) ((ytq bs t).getD (t-7) 0)) (xorN (xorN (rotN ((ytq bs t).getD (t-2) 0) 17) (rotN ((ytq bs t).getD (t-2) 0) 19)) (shrN ((ytq bs t).getD (t-2) 0) 10)):=by
    unfold YIq;rw[show Nat.blt (ytq bs t).length 16=false by rw[hl];exact Bool.eq_false_iff.2 λq=>ht2 (by simpa[Nat.blt_eq] using q)];simp only[hl]
   refine gA 5 rfl (t-15) ?_;refine gX 0 rfl ?_;refine gM 0 rfl (yEq rfl rfl rfl (qBq (hA _ Xd) rfl)) ?_;refine gA 1 rfl (t-2) ?_;refine gX 0 rfl ?_;refine gM 0 rfl (yEq rfl rfl rfl (qBq (hA _ Xd) rfl)) ?_;refine gA 7 rfl (t-16) ?_;refine gX 0 rfl ?_;refine gM 0 rfl (yEq rfl rfl rfl (qBq (hA _ Xd) rfl)) ?_;refine gC 1 rfl (q7q _ Xg _ _) ?_;refine gC 1 rfl (q7q _ Xg _ _) ?_;refine gA 6 rfl (t-7) ?_;refine gX 0 rfl ?_;refine gM 0 rfl (yEq rfl rfl rfl (qBq (hA _ Xd) rfl)) ?_;refine gC 2 rfl (q7q _ Xg _ _) ?_;refine gC 1 rfl (q7q _ Xg _ _) ?_;refine gX 5 rfl ?_;refine gM 0 rfl (jAq rfl rfl rfl rfl rfl (kOq h0 rfl rfl) (congrArg (λL=>[(2,396,W.arr 64 1 L),(0,349,.arr 8 1 s.l),(1,ty,c)]) (key _ hb))) ?_;refine gWr 4 rfl ?_;refine zdq 2 rfl ?_;exact xBq (t+1) (ht1) Xd ⟨rfl,trivial⟩ ⟨rfl,rfl,rfl,trivial⟩ rfl
 ·obtain rfl:t=64:=by omega
  rw[show pad0 (ytq bs 64) 64=ytq bs 64 by unfold pad0;rw[hl];simp];refine zdq 2 rfl ?_;refine qQq Xi ?_;refine z0q 18 rfl ?_;refine jKq (α:=Nat) (λt=>t<=64) (λt=>[(100,.int .i64 (t:Int))]) [(0,_),(4,_),(8,_)] (λt=>[(3,349,.arr 8 1 (kcq (ytq bs 64) s t).l),(2,396,.arr 64 1 ((ytq bs 64).map wd)),(0,349,.arr 8 1 s.l),(1,ty,c)]) (λt=>64-t) (0) ⟨rfl,rfl,rfl,trivial⟩ (Nat.zero_le _) ⟨rfl,trivial⟩ (rfl) (λt hI=>?_);refine ycq 6 rfl ?_;refine gS 0 rfl (λh2=>?_) (λh2=>?_)
  ·have ht1:t<64:=by omega
   have hK:zWq 50 (.arr 64 1 (kW.map wd)) (t*1) 1 false=some (wd (kW.getD t 0)):=qBq (by rw[Nat.mul_one];exact Q2q (by rw[kW_len];exact ht1)) rfl;have hW:zWq 50 (.arr 64 1 ((ytq bs 64).map wd)) (0+t*1) 1 false=some (wd ((ytq bs 64).getD t 0)):=qBq (by rw[Nat.zero_add,Nat.mul_one];exact Q2q Xd) rfl;refine gC 37 rfl (q7q _ Xg _ _) ?_;refine gC 1 rfl (q7q _ Xg _ _) ?_;refine gC 2 rfl (q7q _ Xg _ _) ?_;refine gP 12 rfl (ix_fel (i:=t) rfl rfl rfl rfl rfl rfl Xd rfl hK) ?_;refine gP 3 rfl (kfq (i:=t) rfl rfl rfl rfl rfl rfl Xd) ?_;refine gM 0 rfl (yEq rfl rfl rfl hW) ?_;refine gC 7 rfl (q7q _ Xg _ _) ?_;refine gC 1 rfl (q7q _ Xg _ _) ?_;refine gC 2 rfl (q7q _ Xg _ _) ?_;refine gWr 36 rfl ?_;refine zdq 2 rfl ?_;exact xBq (t+1) (ht1) Xd ⟨rfl,trivial⟩ ⟨rfl,rfl,rfl,trivial⟩ rfl
  ·obtain rfl:t=64:=by omega
   refine zdq 2 rfl ?_;refine qQq Xi ?_;refine z0q 8 rfl ?_;refine jKq (α:=Nat) (λi=>i<=8) (λi=>[(178,.int .i64 (i:Int))]) [(0,_),(8,_)] (λi=>[(3,349,.arr 8 1 (kcq (ytq bs 64) s 64).l),(2,396,.arr 64 1 ((ytq bs 64).map wd)),(0,349,.arr 8 1 (mix8 s (kcq (ytq bs 64) s 64) i)),(1,ty,c)]) (λi=>8-i) (0) ⟨rfl,rfl,trivial⟩ (Nat.zero_le _) ⟨rfl,trivial⟩ (rfl) (λi hI=>?_);refine ycq 6 rfl ?_;refine gS 0 rfl (λh3=>?_) (λh3=>?_)
   ·have hi1:i<8:=by omega
    refine gP 14 rfl (kfq (i:=i) rfl rfl rfl rfl rfl rfl hi1) ?_;refine gM 0 rfl (yEq rfl rfl rfl (qBq (mix_at _ _ hi1) rfl)) ?_;refine gP 1 rfl (kfq (i:=i) rfl rfl rfl rfl rfl rfl hi1) ?_;refine gM 0 rfl (yEq rfl rfl rfl (qBq (S8_at _ hi1) rfl)) ?_;refine gP 2 rfl (kfq (i:=i) rfl rfl rfl rfl rfl rfl hi1) ?_;refine gM 0 rfl (jAq rfl rfl rfl rfl rfl (kOq (mix_at _ _ hi1) rfl rfl) (congrArg (λL=>[(3,349,W.arr 8 1 (kcq (ytq bs 64) s 64).l),(2,396,.arr 64 1 ((ytq bs 64).map wd)),(0,349,.arr 8 1 L),(1,ty,c)]) (mix_set _ _ hi1))) ?_;refine gWr 4 rfl ?_;refine zdq 2 rfl ?_;exact xBq (i+1) (hi1) Xd ⟨rfl,trivial⟩ ⟨rfl,rfl,trivial⟩ rfl
   ·obtain rfl:i=8:=by omega
    refine zdq 2 rfl ?_;refine qQq Xi ?_;refine z0q 1 rfl ?_;refine fin (.inl rfl) (qdq (fr2:=[]) (hp2:=[(0,349,.arr 8 1 (j7q bs s).l),(1,ty,c)]) (nw2:=2) Xd Xd trivial rfl (yKq ⟨⟨by omega,rfl,rfl⟩,⟨by omega,rfl,hc⟩,trivial⟩) Xm) rfl ⟨rfl,rfl,rfl,rfl⟩
noncomputable def atL(r:List Nat)(i:Nat):Nat:=r.getD i 0
noncomputable def eat:Nat->S8->List Nat->S8×List Nat
 |0,s,r=>(s,r)
 |n+1,s,r=>match Nat.ble 64 r.length with
  |true=>eat n (j7q (atL r) s) (r.drop 64)
  |false=>(s,r)
theorem u0q:∀(n:Nat) (s:S8) (r:List Nat),r.length<64->eat n s r=(s,r)
 |0,_,_,_=>rfl
 |n+1,s,r,h=>by
  have:Nat.ble 64 r.length=false:=by
   cases hq:Nat.ble 64 r.length with
   |true=>have:=Nat.le_of_ble_eq_true hq;omega
   |false=>rfl
  simp only[eat,this]
theorem Jkq{n:Nat}{s:S8}{r:List Nat}(h:64<=r.length):eat (n+1) s r=eat n (j7q (atL r) s) (r.drop 64):=by
 simp only[eat,Nat.ble_eq_true_of_le h]
theorem eat_fuel:∀(n m:Nat) (s:S8) (r:List Nat),r.length<=n->r.length<=m->eat n s r=eat m s r
 |0,m,s,r,h,_=>by rw[u0q m s r Xd];rfl
 |n+1,0,s,r,_,h=>by rw[u0q _ s r Xd];rfl
 |n+1,m+1,s,r,h1,h2=>by
  by_cases h:64<=r.length
  ·rw[Jkq h,Jkq h];exact eat_fuel n m _ _ Xo Xo
  ·rw[u0q _ s r Xd,u0q _ s r Xd]
noncomputable def eats(s:S8)(r:List Nat):S8×List Nat:=eat r.length s r
theorem eats_more{s:S8}{r:List Nat}(h:64<=r.length):eats s r=eats (j7q (atL r) s) (r.drop 64):=by
 unfold eats;obtain⟨n,hn⟩:∃n,r.length=n+1:=⟨r.length-1,by omega⟩
 rw[hn,Jkq h];exact eat_fuel _ _ _ _ Xo (Nat.le_refl _)
noncomputable def j9q(a:S8×List Nat)(p:List Nat):S8×List Nat:=eats a.1 (a.2++p)
noncomputable def s0:S8:=⟨1779033703,3144134277,1013904242,2773480762,1359893119,2600822924,528734635,1541459225⟩
noncomputable def padZ:Nat->List Nat->List Nat
 |0,r=>r
 |n+1,r=>match Nat.beq (r.length%64) 56 with
  |true=>r
  |false=>padZ n (r++[0])
noncomputable def len8(many:Nat):List Nat:=[56,48,40,32,24,16,8,0].map λi=>Nat.shiftRight (8*many%18446744073709551616) i%256
noncomputable def jlq:Nat->S8->List Nat->S8
 |0,s,_=>s
 |n+1,s,r=>match Nat.ble 1 r.length with
  |true=>jlq n (j7q (atL r) s) (r.drop 64)
  |false=>s
theorem jMq:∀(n:Nat) (s:S8),jlq n s []=s
 |0,_=>rfl
 |n+1,s=>rfl
theorem ujq{n:Nat}{s:S8}{r:List Nat}(h:1<=r.length):jlq (n+1) s r=jlq n (j7q (atL r) s) (r.drop 64):=by
 simp only[jlq,Nat.ble_eq_true_of_le h]
theorem Yeq:∀(n m:Nat) (s:S8) (r:List Nat),r.length<=n->r.length<=m->jlq n s r=jlq m s r
 |0,m,s,r,h,_=>by
  obtain rfl:r=[]:=List.length_eq_zero_iff.1 Xd;rw[jMq,jMq]
 |n+1,0,s,r,_,h=>by
  obtain rfl:r=[]:=List.length_eq_zero_iff.1 Xd;rw[jMq,jMq]
 |n+1,m+1,s,r,h1,h2=>by
  by_cases h:1<=r.length
  ·rw[ujq h,ujq h];exact Yeq n m _ _ Xo Xo
  ·obtain rfl:r=[]:=List.length_eq_zero_iff.1 Xd;rw[jMq,jMq]
theorem eatAll_step{s:S8}{r:List Nat}(h:1<=r.length):jlq r.length s r=jlq (r.drop 64).length (j7q (atL r) s) (r.drop 64):=by
 obtain⟨n,hn⟩:∃n,r.length=n+1:=⟨r.length-1,by omega⟩
 rw[hn,ujq h];exact Yeq _ _ _ _ Xo (Nat.le_refl _)
noncomputable def digN(s:S8):List Nat:=(List.range 32).map λi=>Nat.shiftRight (s.get (i/4)) (24-8*(i%4))%256
noncomputable def yPq(ps:List (List Nat)):Nat:=(ps.map List.length).foldr (· + ·) 0
noncomputable def shaN(ps:List (List Nat)):List Nat:=
 let a:=ps.foldl j9q (s0,[])
 let r:=padZ 64 (a.2++[128])++len8 (yPq ps)
 digN (jlq r.length a.1 r)
inductive Rst where
 |nil
 |sl (all:List Nat) (base off:Nat)
noncomputable def Rst.w:Rst->W
 |.nil=>.nils
 |.sl all base off=>.sl 2 base off (all.length-off) 1 none
noncomputable def Rst.hp:Rst->HpW
 |.nil=>[]
 |.sl all _ _=>[(2,5,.arr all.length 1 (bN all))]
noncomputable def Rst.r:Rst->List Nat
 |.nil=>[]
 |.sl all _ off=>all.drop off
noncomputable def Rst.ok:Rst->Prop
 |.nil=>True
 |.sl all _ off=>off<=all.length/\all.length<4294967296
noncomputable def Rst.nw:Rst->Nat
 |.nil=>2
 |.sl _ _ _=>3
noncomputable def hpS(x:Rst)(d:W)(s:S8):HpW:=x.hp++[(1,349,.arr 8 1 s.l),(0,23,d)]
noncomputable def vFq:W:=.arr 32 1 (List.replicate 32 (.int .u8 0))
noncomputable def xVq(p:List Nat×Bool):W:=.fz (bN p.1) 1 p.2
theorem app_r(r:Rst)(hr:r.ok)(d:W)(s:S8)(p:List Nat)(f:Bool)(hp:p.length<2147483648)(h64:r.r.length<64):∃w hp' nw ev,appW (cfgk kfn) (hpS r d s) r.nw 52 52 r.w (.fz (bN p) 1 f)=some (w,hp',nw,ev)/\
  ∃r':Rst,r'.ok/\r'.r=r.r++p/\((w=r'.w/\hp'=hpS r' d s/\nw=r'.nw)\/∃all,r'= .sl all 0 0/\w= .sl 3 0 0 all.length 1 none/\hp'=[(3,5,.arr all.length 1 (bN all)),(1,349,.arr 8 1 s.l),(0,23,d)]/\nw=4):=by
 cases r with
 |nil=>cases p with
  |nil=>exact⟨_,_,_,_,rfl,.nil,trivial,rfl,.inl ⟨rfl,rfl,rfl⟩⟩
  |cons a l=>
   have hl:(bN (a::l)).length=l.length+1:=by rw[u8q];rfl
   have hlt:l.length+1<2147483648:=hp;have hbl:(bN (a::l)).length*1<=140737488355328:=by omega
   refine⟨_,_,_,_,unq (k:=ti5) rfl rfl rfl rfl rfl (by simp[bN]) hbl Xd,.sl (a::l) 0 0,⟨Nat.zero_le _,by show l.length+1<_;omega⟩,rfl,.inl ⟨?_,?_,rfl⟩⟩
   ·rw[u8q];rfl
   ·rw[u8q,show(ti5).size=1 from rfl,Nat.mul_one];rfl
 |sl all base off=>
  obtain⟨h1,h2⟩:=hr;cases p with
  |nil=>exact⟨_,_,_,_,rfl,.sl all base off,⟨h1,h2⟩,by simp,.inl ⟨rfl,rfl,rfl⟩⟩
  |cons a l=>
   have hl:(bN (a::l)).length=l.length+1:=by rw[u8q];rfl
   have hlt:l.length+1<2147483648:=hp;have hbl:(all.length-off+(bN (a::l)).length)*1<=140737488355328:=by omega
   have hdt:((bN all).drop off).take (all.length-off)=bN (all.drop off):=by
    rw[List.take_of_length_le (by simp[u8q])];simp[bN,List.map_drop]
   refine⟨_,_,_,_,qzq (k:=ti5) (v:=.arr all.length 1 (bN all)) (off:=off) rfl rfl rfl rfl rfl (by simp[bN]) hbl Xd rfl ?_ rfl (usq Xd),.sl (all.drop off++a::l) 0 0,⟨Nat.zero_le _,?_⟩,rfl,.inr ⟨_,rfl,?_,?_,rfl⟩⟩
   ·show all.length<off+(all.length-off+(bN (a::l)).length)*1;omega
   ·simp only[Rst.r,List.length_drop] at h64;simp only[List.length_append,List.length_drop,List.length_cons];omega
   ·simp only[hl,List.length_append,List.length_drop,List.length_cons];rfl
   ·rw[hdt,hl];simp only[List.length_append,List.length_drop,List.length_cons,show(ti5).size=1 from rfl,Nat.mul_one];rw[show bN (all.drop off)++bN (a::l)=bN (all.drop off++a::l) by simp[bN]];rfl
theorem padZ_spec:∀(n j:Nat) (r:List Nat),(∀i,i<j->(r.length+i)%64≠56) ->(r.length+j)%64=56->j<=n->padZ n r=r++List.replicate j 0
 |0,j,r,_,_,h=>by
  obtain rfl:j=0:=by omega
  simp[padZ]
 |n+1,0,r,_,h,_=>by
  have:Nat.beq (r.length%64) 56=true:=by rw[Nat.beq_eq];simpa using h
  simp only[padZ,this];simp
 |n+1,j+1,r,h1,h2,h3=>by
  have:Nat.beq (r.length%64) 56=false:=by
   cases hq:Nat.beq (r.length%64) 56 with
   |true=>rw[Nat.beq_eq] at hq;exact absurd (by simpa using hq) (h1 0 Xd)
   |false=>rfl
  simp only[padZ,this];rw[padZ_spec n j (r++[0]) (λi hi=>by simp only[List.length_append,List.length_singleton];have:=h1 (i+1) Xd;rwa[show r.length+1+i=r.length+(i+1) by omega]) (by simp only[List.length_append,List.length_singleton];rwa[show r.length+1+j=r.length+(j+1) by omega]) Xd];rw[List.append_assoc];rfl
noncomputable def dI(s:S8)(i:Nat):List Nat:=(digN s).take i++List.replicate (32-i) 0
theorem Zhq(s:S8):(digN s).length=32:=by simp[digN]
theorem dI_len(s:S8){i:Nat}(h:i<=32):(dI s i).length=32:=by simp[dI,Zhq];omega
theorem dI_at(s:S8){i:Nat}(h:i<32):(bN (dI s i))[0+i*1]? =some (.int .u8 (.ofNat 0)):=by
 rw[Nat.zero_add,Nat.mul_one,bN_at (by rw[dI_len s Xd];exact h)]
 have:(dI s i).getD i 0=0:=by
  simp[dI,List.getD,List.getElem?_append,Zhq,show min i 32=i by omega,List.getElem?_replicate,show 0<32-i by omega]
 rw[this]
theorem dI_set(s:S8){i:Nat}(h:i<32):(bN (dI s i)).set (0+i*1) (.int .u8 (.ofNat (Nat.shiftRight (s.get (i/4)) (min (24-8*(i%4)) 32)%256)))=bN (dI s (i+1)):=by
 have e:(digN s).take (i+1)=(digN s).take i++[Nat.shiftRight (s.get (i/4)) (24-8*(i%4))%256]:=by
  rw[List.take_add_one];congr 1
  simp[digN,List.getElem?_map,List.getElem?_range h]
 have hm:min (24-8*(i%4)) 32=24-8*(i%4):=by omega
 have hl:((digN s).take i).length=i:=by simp[Zhq];omega
 rw[Nat.zero_add,Nat.mul_one,hm];unfold bN;rw[<-List.map_set (f:=λc=>W.int .u8 (.ofNat c))];congr 1
 unfold dI;rw[e,show 32-i=(32-(i+1))+1 by omega,List.replicate_succ,List.set_append_right _ _ Xd,hl,Nat.sub_self,List.set_cons_zero,List.append_assoc];rfl
theorem mid1(L:List Nat)(c:Nat):some (W.sl 4 0 0 (L.length+(bN [c]).length) 1 none)=some (renW (tau1 2 4) (W.sl 2 0 0 (L++[c]).length 1 none)):=by
 rw[List.length_append];rfl
theorem mid2(L:List Nat)(c:Nat):some (5,W.arr ((L.length+(bN [c]).length)*1) 1 (((bN L).drop 0).take L.length++bN [c]))=some (5,renW (tau1 2 4) (W.arr (L++[c]).length 1 (bN (L++[c])))):=by
 rw[zwq (show purW (.arr (L++[c]).length 1 (bN (L++[c])))=true from vVq _),List.drop_zero,List.take_of_length_le (by rw[u8q];exact Nat.le_refl _),Nat.mul_one,List.length_append];simp[bN]
theorem parts_pur:∀ps:List (List Nat×Bool),purL (ps.map xVq)=true
 |[]=>rfl
 |p::ps=>by simp only[List.map_cons,purL,xVq,purW,vVq,Bool.true_and];exact parts_pur ps
theorem of_s(ps:List (List Nat×Bool))(fl:Bool)(hb:yPq (ps.map (·.1))<2147483648)(hpn:ps.length<2147483648)(R:Res):
  Spec (cfgk kfn) glK 137 0 [.fz (ps.map xVq) 1 fl] [] R λw hp nw R'=>R'=R/\w= .arr 32 1 (bN (shaN (ps.map (·.1)))):=by
 refine gIs 26 rfl (λk0=>?_);refine gL 0 rfl ?_;refine zdq 4 rfl ?_;refine jwq (α:=Nat×S8×Rst) (λa=>a.1<=ps.length/\a.2.2.ok/\(a.2.1,a.2.2.r)=((ps.map (·.1)).take a.1).foldl j9q (s0,[])/\a.2.2.r.length<64) (λa=>[(13,.int .i64 (a.1:Int)),(12,.int .i64 (ps.length:Int)),(11,.fz (ps.map xVq) 1 fl),(5,.int .u64 (yPq ((ps.map (·.1)).take a.1):Int)),(4,a.2.2.w),(3,.ptr 1 0),(2,.ptr 0 0)]) (λa=>hpS a.2.2 vFq a.2.1) (λa=>a.2.2.nw) (λ_=>R) (λa=>ps.length-a.1) (0,s0,.nil) ⟨Nat.zero_le _,trivial,rfl,by decide⟩ ?_ (λa ha=>?_);skip
 ·exact qcq ⟨rfl,by simp[getW,putW],rfl,rfl,rfl,rfl,rfl,trivial⟩ rfl rfl
 have hPp:purW (.fz (ps.map xVq) 1 fl)=true:=parts_pur ps;obtain⟨i,s,r⟩:=a;obtain⟨hi,hok,hfold,hr64⟩:=ha;refine ycq 6 rfl ?_;refine gS 0 rfl (λh1=>?_) (λh1=>?_)
 ·simp only at hi hok hfold hr64;have hi1:i<ps.length:=by omega
  obtain⟨p,hp⟩:∃p,ps[i]? =some p:=⟨_,List.getElem?_eq_getElem hi1⟩
  have hpw:(ps.map xVq)[i]? =some (.fz (bN p.1) 1 p.2):=by rw[List.getElem?_map,hp];rfl
  have htk:(ps.map (·.1)).take (i+1)=(ps.map (·.1)).take i++[p.1]:=by
   rw[List.take_add_one,List.getElem?_map,hp];rfl
  have htot:∀l r:List (List Nat),yPq (l++r)=yPq l+yPq r:=λl r=>by
   unfold yPq;induction l with
   |nil=>simp
   |cons x l ih=>simp only[List.cons_append,List.map_cons,List.foldr_cons,ih];omega
  have ht1:yPq ((ps.map (·.1)).take (i+1))=yPq ((ps.map (·.1)).take i)+p.1.length:=by rw[htk,htot];simp[yPq]
  have htle:yPq ((ps.map (·.1)).take (i+1))<=yPq (ps.map (·.1)):=by
   have:=htot ((ps.map (·.1)).take (i+1)) ((ps.map (·.1)).drop (i+1));rw[List.take_append_drop] at this;omega
  have hpl:p.1.length<2147483648:=by omega
  refine gP 6 rfl (zGq (i:=i) rfl rfl rfl rfl rfl rfl rfl hpw) ?_;refine gZ 8 rfl (u8q p.1) ?_;refine gA 0 rfl (p.1.length) ?_;refine gA 0 rfl (yPq ((ps.map (·.1)).take i)+p.1.length) ?_;refine zdq 3 rfl ?_;refine co_cut (α:=Rst) (λr'=>r'.ok/\r'.r=r.r++p.1) (λr'=>[(13,.int .i64 (i:Int)),(12,.int .i64 (ps.length:Int)),(11,.fz (ps.map xVq) 1 fl),(5,.int .u64 (yPq ((ps.map (·.1)).take (i+1)):Int)),(4,r'.w),(3,.ptr 1 0),(2,.ptr 0 0)]) (λr'=>hpS r' vFq s) (λr'=>r'.nw) ?_ (λa ha=>?_)
  ·obtain⟨w,hp',nw',ev,e1,r',e2,e3,e4⟩:=app_r r hok vFq s p.1 p.2 hpl hr64;refine ycq 3 rfl ?_;refine gM 0 rfl (yZq rfl rfl e1) ?_;refine zdq 2 rfl ?_;refine⟨rfl,r',⟨e2,e3⟩,?_⟩;rcases e4 with ⟨rfl,rfl,rfl⟩|⟨all,rfl,rfl,rfl,rfl⟩
   ·exact qcq ⟨rfl,rfl,rfl,by rw[ht1];rfl,rfl,rfl,rfl,trivial⟩ rfl rfl
   ·refine yVq (b:=2) (k:=3) Xd Xd Xd ⟨⟨rfl,rfl⟩,⟨rfl,rfl⟩,⟨by rw[zwq hPp];rfl,zeq hPp⟩,⟨by rw[ht1];rfl,rfl⟩,⟨rfl,rfl⟩,⟨rfl,rfl⟩,⟨rfl,rfl⟩,trivial⟩ ⟨⟨by omega,by rw[zwq (show purW (.arr all.length 1 (bN all))=true from vVq _)];rfl,zeq (show purW (.arr all.length 1 (bN all))=true from vVq _)⟩,⟨by omega,rfl,rfl⟩,⟨by omega,rfl,rfl⟩,trivial⟩ Yp
  obtain⟨hak,har⟩:=ha;have hstep:(ps.map (·.1)).take (i+1)=(ps.map (·.1)).take i++[p.1]:=htk;have hnext:((ps.map (·.1)).take (i+1)).foldl j9q (s0,[])=j9q (s,r.r) p.1:=by rw[hstep,List.foldl_append,<-hfold];rfl
  refine zQq 1 rfl ?_;refine jwq (α:=S8×Rst) (λb=>b.2.ok/\eats b.1 b.2.r=j9q (s,r.r) p.1) (λb=>[(13,.int .i64 (i:Int)),(12,.int .i64 (ps.length:Int)),(11,.fz (ps.map xVq) 1 fl),(5,.int .u64 (yPq ((ps.map (·.1)).take (i+1)):Int)),(4,b.2.w),(3,.ptr 1 0),(2,.ptr 0 0)]) (λb=>hpS b.2 vFq b.1) (λb=>b.2.nw) (λ_=>R) (λb=>b.2.r.length) (s,a) ⟨hak,by simp only[j9q,har]⟩ (Ent.refl) (λb hb=>?_);skip
  obtain⟨s',r'⟩:=b;obtain⟨hok',heat⟩:=hb;simp only at hok' heat
  have done:r'.r.length<64->(s',r'.r)=((ps.map (·.1)).take (i+1)).foldl j9q (s0,[]):=λh=>by
   rw[hnext,<-heat,eats,u0q _ _ _ h]
  skip
  cases r' with
  |nil=>
   refine ycq 4 rfl ?_;refine gL 0 rfl ?_;refine zdq 6 rfl ?_;refine qQq Xi ?_;refine z0q 4 rfl ?_;refine gA 0 rfl (i+1) ?_;refine zdq 2 rfl ?_;skip
   refine yYq (i+1,s',.nil) ⟨hi1,trivial,done (by show 0<64;omega),(by show 0<64;omega)⟩ Xz (qcq ⟨rfl,rfl,rfl,rfl,rfl,rfl,rfl,trivial⟩ rfl rfl)
  |sl all base off=>
   obtain⟨ho1,ho2⟩:=hok';have hrl:(Rst.sl all base off).r.length=all.length-off:=by simp[Rst.r]
   refine ycq 4 rfl ?_;refine gV 0 rfl (show _=W.int .i64 ((all.length-off:Nat):Int) by first|rfl|(simp;done)) ?_;refine gS 3 rfl (λh2=>?_) (λh2=>?_)
   ·have h64:64<=all.length-off:=by omega
    have hpa:purW (.arr all.length 1 (bN all))=true:=vVq all
    have hby:∀k,k<64->zWq 50 (.arr all.length 1 (bN all)) (off+0*1+k*1) 1 false=some (.int .u8 (.ofNat (atL (all.drop off) k))):=λk hk=>by
     have:=bN_at (l:=all) (i:=off+k) Xd;refine qBq ?_ rfl;rw[Nat.zero_mul,Nat.add_zero,Nat.mul_one,this];simp[atL,List.getD,List.getElem?_drop]
    have hr':(Rst.sl all off (off+64)).r=((Rst.sl all base off).r).drop 64:=by simp[Rst.r]
    refine gP 6 rfl (cut_hi (h:=64) rfl rfl rfl rfl rfl rfl rfl h64) ?_
    (refine zUq rfl (qvq (ext:=[1,2]) (ws:=[.ptr 0 0,.sl 1 base (off+0*1) (64-0) 1 none]) rfl rfl rfl rfl rfl (λR=>block_s s' (atL (all.drop off)) (.arr all.length 1 (bN all)) base _ none 5 (zeq hpa) hby R) Xg Qe Xm (handed2 rfl (by rw[zwq hpa];rfl) rfl (zeq hpa)) rfl ?_);rintro w hp1 nw1 ⟨rfl,rfl,rfl⟩)
    refine zsq 5 rfl ?_;refine gP 0 rfl (cut_lo (l:=64) rfl rfl rfl rfl rfl rfl rfl h64 rfl) ?_;refine zdq 2 rfl ?_;skip
    refine yYq (j7q (atL (all.drop off)) s',.sl all off (off+64)) ⟨⟨by omega,ho2⟩,?_⟩ (by simp only[hr'];simp only[hrl,List.length_drop];omega) (qdq Xd (Nat.le_refl _) ⟨rfl,rfl,rfl,rfl,?_,rfl,rfl,trivial⟩ (by simp only[List.all_cons,List.all_nil,zeq hPp,Bool.and_true];rfl) (yKq ⟨⟨by show 2<3;omega,by show some (5,renW _ (W.arr all.length 1 (bN all)))=_;rw[zwq hpa],zeq hpa⟩,⟨by show 1<3;omega,rfl,rfl⟩,⟨by show 0<3;omega,rfl,rfl⟩,trivial⟩) Yp)
    ·rw[hr',<-heat];exact(eats_more (r:=(Rst.sl all base off).r) (by rw[hrl];exact h64)).symm
    ·show some (W.sl 2 off (off+64*1) (all.length-off-64) 1 (qxq 64 none))=some (W.sl 2 off (off+64) (all.length-(off+64)) 1 none);rw[Nat.sub_sub];rfl
   ·have h64:all.length-off<64:=by omega
    refine zdq 2 rfl ?_;refine qQq Xi ?_;refine z0q 4 rfl ?_;refine gA 0 rfl (i+1) ?_;refine zdq 2 rfl ?_;skip
    refine yYq (i+1,s',.sl all base off) ⟨hi1,⟨ho1,ho2⟩,done (by rw[hrl];exact h64),by simp only[hrl];exact h64⟩ Xz (qcq ⟨rfl,rfl,rfl,rfl,rfl,rfl,rfl,trivial⟩ rfl rfl)
 ·simp only at hi hok hfold hr64;obtain rfl:i=ps.length:=by omega
  rw[show(ps.map (·.1)).take ps.length=ps.map (·.1) by rw[List.take_of_length_le Xm]] at hfold;have hT:(ps.map (·.1)).take ps.length=ps.map (·.1):=by rw[List.take_of_length_le Xm]
  have hdt:∀(all:List Nat) (off:Nat),((bN all).drop off).take (all.length-off)=bN (all.drop off):=λall off=>by
   rw[List.take_of_length_le (by simp[u8q])];simp[bN,List.map_drop]
  have bapp:∀a b:List Nat,bN a++bN b=bN (a++b):=λa b=>by simp[bN]
  have apur:∀all:List Nat,purW (.arr all.length 1 (bN all))=true:=λall=>vVq all
  refine zdq 2 rfl ?_;refine qQq Xi ?_;refine z0q 2 rfl ?_;refine co_cut (α:=Unit) (λ_=>True) (λ_=>[(5,.int .u64 (yPq (ps.map (·.1)):Int)),(4,.sl 2 0 0 (r.r++[128]).length 1 none),(3,.ptr 1 0),(2,.ptr 0 0)]) (λ_=>hpS (.sl (r.r++[128]) 0 0) vFq s) (λ_=>3) ?_ (λa ha=>?_)
  ·skip
   cases r with
   |nil=>
    refine ycq 3 rfl ?_;refine gM 0 rfl (yZq rfl rfl (unq (news:=bN [128]) (k:=ti5) rfl rfl rfl rfl rfl (by simp[bN]) Xg Xg)) ?_;refine zdq 2 rfl ?_;refine⟨rfl,(),trivial,?_⟩;exact yVq (b:=2) (k:=3) Xd Xd (by show 3<4;omega) ⟨⟨by show some (W.int .u64 ((yPq ((ps.map (·.1)).take ps.length):Nat):Int))=_;rw[hT];rfl,rfl⟩,⟨rfl,rfl⟩,⟨rfl,rfl⟩,⟨rfl,rfl⟩,trivial⟩ ⟨⟨by omega,rfl,rfl⟩,⟨by omega,rfl,rfl⟩,⟨by omega,rfl,rfl⟩,trivial⟩ Yp
   |sl all base off=>
    obtain⟨ho1,ho2⟩:=hok;simp only[Rst.r,List.length_drop] at hr64;have hle:((Rst.sl all base off).r++[128]).length=all.length-off+1:=by simp[Rst.r]
    refine ycq 3 rfl ?_;refine gM 0 rfl (yZq rfl rfl (qzq (news:=bN [128]) (k:=ti5) (v:=.arr all.length 1 (bN all)) (off:=off) rfl rfl rfl rfl rfl (by simp[bN]) (show(all.length-off+1)*1<=140737488355328 by omega) (show all.length-off+1<=70368744177664 by omega) rfl (show all.length<off+(all.length-off+1)*1 by omega) rfl (usq Xd))) ?_;refine zdq 2 rfl ?_;refine⟨rfl,(),trivial,?_⟩;refine yVq (b:=2) (k:=4) Xd Xd (by show 4<5;omega) ⟨⟨by show some (W.int .u64 ((yPq ((ps.map (·.1)).take ps.length):Nat):Int))=_;rw[hT];rfl,rfl⟩,⟨?_,rfl⟩,⟨rfl,rfl⟩,⟨rfl,rfl⟩,trivial⟩ ⟨⟨by omega,?_,zeq (apur _)⟩,⟨by omega,rfl,rfl⟩,⟨by omega,rfl,rfl⟩,trivial⟩ Yp
    ·rw[hle];rfl
    ·rw[zwq (apur _),hle,<-bapp];show some (5,W.arr ((all.length-off+1)*1) 1 (((bN all).drop off).take (all.length-off)++bN [128]))=_;rw[hdt,Nat.mul_one];rfl
  --noughts
  have htm:∀n:Nat,((n:Int)).tmod 64=((n%64:Nat):Int):=λn=>by rw[Int.tmod_eq_emod_of_nonneg Xd];omega
  have hA0:(r.r++[128]).length<=64:=by simp;omega
  generalize hA:r.r++[128]=A at*
  refine ycq 2 rfl ?_;refine jwq (α:=Nat) (λj=>∀i,i<j->(A.length+i)%64≠56) (λj=>[(5,.int .u64 (yPq (ps.map (·.1)):Int)),(4,.sl 2 0 0 (A++List.replicate j 0).length 1 none),(3,.ptr 1 0),(2,.ptr 0 0)]) (λj=>hpS (.sl (A++List.replicate j 0) 0 0) vFq s) (λ_=>3) (λ_=>R) (λj=>64-j) 0 (λi hi=>absurd hi Xd) (by rw[List.replicate_zero,List.append_nil];exact Ent.refl) (λj hj=>?_);skip
  have hj64:j<64:=by
   refine Nat.lt_of_not_le λh=>?_
   have:=hj ((56+64-A.length%64)%64) Xd;omega
  have hlj:(A++List.replicate j 0).length=A.length+j:=by simp
  refine ycq 4 rfl ?_;refine gV 0 rfl (show _=W.int .i64 ((A++List.replicate j 0).length:Int) by first|rfl|(simp;done)) ?_;refine gV 0 rfl (congrArg (W.int .i64) (htm _)) ?_;refine gS 3 rfl (λh2=>?_) (λh2=>?_)
  ·have hne:(A.length+j)%64≠56:=by
    omega
   refine gM 6 rfl (yZq rfl rfl (qzq (news:=bN [0]) (k:=ti5) (v:=.arr (A++List.replicate j 0).length 1 (bN (A++List.replicate j 0))) (off:=0) rfl rfl rfl rfl rfl (by simp[bN]) (show((A++List.replicate j 0).length+1)*1<=140737488355328 by omega) (show(A++List.replicate j 0).length+1<=70368744177664 by omega) rfl (show(A++List.replicate j 0).length<0+((A++List.replicate j 0).length+1)*1 by omega) rfl (usq Xd))) ?_;refine zdq 3 rfl ?_;have hrep:A++List.replicate (j+1) 0=(A++List.replicate j 0)++[0]:=by rw[List.append_assoc,<-List.replicate_succ']
   skip
   refine yYq (j+1) (λi hi=>?_) Xd (yVq (b:=2) (k:=4) Xd Xd (by show 4<5;omega) ⟨⟨rfl,rfl⟩,⟨?_,rfl⟩,⟨rfl,rfl⟩,⟨rfl,rfl⟩,trivial⟩ ⟨⟨by omega,?_,zeq (apur _)⟩,⟨by omega,rfl,rfl⟩,⟨by omega,rfl,rfl⟩,trivial⟩ Yp)
   ·rcases Nat.lt_succ_iff_lt_or_eq.1 hi with h|rfl
    ·exact hj i h
    ·exact hne
   ·rw[hrep];exact mid1 _ 0
   ·rw[hrep];exact mid2 _ 0
  ·have he:(A.length+j)%64=56:=by
    omega
   have hpz:padZ 64 A=A++List.replicate j 0:=padZ_spec 64 j A hj he Xd;rw[<-hpz];have hBl:(padZ 64 A).length<200:=by rw[hpz,hlj];omega
   have hB64:(padZ 64 A).length%64=56:=by rw[hpz,hlj];exact he
   generalize hB:padZ 64 A=B at hBl hB64;refine zdq 2 rfl ?_;refine qQq Xi ?_;refine z0q 9 rfl ?_;have h8:∀k,k<=8->((len8 (yPq (ps.map (·.1)))).take k).length=k:=λk hk=>by simp[len8];omega
   refine jwq (α:=Nat) (λk=>k<=8) (λk=>[(8,.int .i64 (56-8*(k:Int))),(5,.int .u64 (yPq (ps.map (·.1)):Int)),(4,.sl 2 0 0 (B++(len8 (yPq (ps.map (·.1)))).take k).length 1 none),(3,.ptr 1 0),(2,.ptr 0 0)]) (λk=>hpS (.sl (B++(len8 (yPq (ps.map (·.1)))).take k) 0 0) vFq s) (λ_=>3) (λ_=>R) (λk=>8-k) 0 (Nat.zero_le _) (by rw[List.take_zero,List.append_nil];exact qcq ⟨rfl,rfl,rfl,rfl,rfl,trivial⟩ rfl rfl) (λk hk=>?_);skip
   refine ycq 7 rfl ?_;refine gS 0 rfl (λh3=>?_) (λh3=>?_)
   ·have hk8:k<8:=by omega
    have hLk:=h8 k hk;have hll:(B++(len8 (yPq (ps.map (·.1)))).take k).length=B.length+k:=by rw[List.length_append,hLk]
    have hnx:B++(len8 (yPq (ps.map (·.1)))).take (k+1)=(B++(len8 (yPq (ps.map (·.1)))).take k)++[Nat.shiftRight (8*yPq (ps.map (·.1))%18446744073709551616) (min (56-8*k) 64)%256]:=by
     rw[List.take_add_one,<-List.append_assoc];congr 1
     have hq:k=0\/k=1\/k=2\/k=3\/k=4\/k=5\/k=6\/k=7:=by omega
     rcases hq with rfl|rfl|rfl|rfl|rfl|rfl|rfl|rfl<;>rfl
    have hw8:qoq .i64 (56-8*(k:Int) -8)=56-8*(k:Int) -8:=v3q (k:=.i64) ⟨by omega,by omega⟩;refine gV 8 rfl (show W.int .i64 (56-8*(k:Int))=W.int .i64 ((56-8*k:Nat):Int) by congr 1;omega) ?_;refine gM 3 rfl (yZq rfl rfl (qzq (news:=bN [Nat.shiftRight (8*yPq (ps.map (·.1))%18446744073709551616) (min (56-8*k) 64)%256]) (k:=ti5) (v:=.arr (B++(len8 (yPq (ps.map (·.1)))).take k).length 1 (bN (B++(len8 (yPq (ps.map (·.1)))).take k))) (off:=0) rfl rfl rfl rfl rfl (by simp[bN]) (show((B++(len8 (yPq (ps.map (·.1)))).take k).length+1)*1<=140737488355328 by omega) (show(B++(len8 (yPq (ps.map (·.1)))).take k).length+1<=70368744177664 by omega) rfl (show(B++(len8 (yPq (ps.map (·.1)))).take k).length<0+((B++(len8 (yPq (ps.map (·.1)))).take k).length+1)*1 by omega) rfl (usq Xd))) ?_;refine zdq 6 rfl ?_;refine uHq (w:=W.int .i64 (qoq .i64 (56-8*(k:Int) -8))) rfl rfl (show _=W.int .i64 (56-8*((k+1:Nat):Int)) by rw[hw8];congr 1;omega) ?_;refine run_p 2 rfl ?_;skip
    refine yYq (k+1) Xd Xd (yVq (b:=2) (k:=4) Xd Xd (by show 4<5;omega) ⟨⟨rfl,rfl⟩,⟨rfl,rfl⟩,⟨?_,rfl⟩,⟨rfl,rfl⟩,⟨rfl,rfl⟩,trivial⟩ ⟨⟨by omega,?_,zeq (apur _)⟩,⟨by omega,rfl,rfl⟩,⟨by omega,rfl,rfl⟩,trivial⟩ Yp)
    ·rw[hnx];exact mid1 _ _
    ·rw[hnx];exact mid2 _ _
   ·obtain rfl:k=8:=by omega
    have ht8:(len8 (yPq (ps.map (·.1)))).take 8=len8 (yPq (ps.map (·.1))):=rfl;rw[ht8];have hMl:(B++len8 (yPq (ps.map (·.1)))).length=B.length+8:=by simp[len8]
    have hsha:shaN (ps.map (·.1))=digN (jlq (B++len8 (yPq (ps.map (·.1)))).length s (B++len8 (yPq (ps.map (·.1))))):=by
     simp only[shaN,<-hfold,hA,hB]
    generalize hM:B++len8 (yPq (ps.map (·.1)))=M at hMl hsha;refine zdq 2 rfl ?_;refine qQq Xi ?_;refine z0q 4 rfl ?_;refine jwq (α:=S8×Nat×Nat) (λb=>b.2.2<=M.length/\(M.length-b.2.2)%64=0/\jlq M.length s M=jlq (M.drop b.2.2).length b.1 (M.drop b.2.2)) (λb=>[(4,.sl 2 b.2.1 b.2.2 (M.length-b.2.2) 1 none),(3,.ptr 1 0),(2,.ptr 0 0)]) (λb=>hpS (.sl M b.2.1 b.2.2) vFq b.1) (λ_=>3) (λ_=>R) (λb=>M.length-b.2.2) (s,0,0) ⟨Nat.zero_le _,by show(M.length-0)%64=0;omega,rfl⟩ (qcq ⟨rfl,rfl,rfl,trivial⟩ rfl rfl) (λb hb5=>?_);skip
    obtain⟨s',base,off⟩:=b;obtain⟨ho,hmod,heat⟩:=hb5;simp only at ho hmod heat;refine ycq 4 rfl ?_;refine gV 0 rfl (show _=W.int .i64 ((M.length-off:Nat):Int) by first|rfl|(simp;done)) ?_;refine gS 3 rfl (λh4=>?_) (λh4=>?_)
    ·have h1:1<=M.length-off:=by omega
     have h64:64<=M.length-off:=by omega
     have hpa:purW (.arr M.length 1 (bN M))=true:=vVq M
     have hby:∀k,k<64->zWq 50 (.arr M.length 1 (bN M)) (off+0*1+k*1) 1 false=some (.int .u8 (.ofNat (atL (M.drop off) k))):=λk hk=>by
      have:=bN_at (l:=M) (i:=off+k) Xd;refine qBq ?_ rfl;rw[Nat.zero_mul,Nat.add_zero,Nat.mul_one,this];simp[atL,List.getD,List.getElem?_drop]
     refine gP 6 rfl (cut_hi (h:=64) rfl rfl rfl rfl rfl rfl rfl h64) ?_
     (refine zUq rfl (qvq (ext:=[1,2]) (ws:=[.ptr 0 0,.sl 1 base (off+0*1) (64-0) 1 none]) rfl rfl rfl rfl rfl (λR=>block_s s' (atL (M.drop off)) (.arr M.length 1 (bN M)) base _ none 5 (zeq hpa) hby R) Xg Qe Xm (handed2 rfl (by rw[zwq hpa];rfl) rfl (zeq hpa)) rfl ?_);rintro w hp1 nw1 ⟨rfl,rfl,rfl⟩)
     refine zsq 5 rfl ?_;refine gP 0 rfl (cut_lo (l:=64) rfl rfl rfl rfl rfl rfl rfl h64 rfl) ?_;refine zdq 2 rfl ?_;skip
     refine yYq (j7q (atL (M.drop off)) s',off,off+64) ⟨by simp only;omega,by simp only;omega,?_⟩ Xz (qdq Xd (Nat.le_refl _) ⟨?_,rfl,rfl,trivial⟩ rfl (yKq ⟨⟨by omega,by show some (5,renW _ (W.arr M.length 1 (bN M)))=_;rw[zwq hpa],zeq hpa⟩,⟨by omega,rfl,rfl⟩,⟨by omega,rfl,rfl⟩,trivial⟩) Yp)
     ·rw[heat,eatAll_step Xo,List.drop_drop]
     ·show some (W.sl 2 off (off+64*1) (M.length-off-64) 1 (qxq 64 none))=some (W.sl 2 off (off+64) (M.length-(off+64)) 1 none);rw[Nat.sub_sub];rfl
    ·have h0:M.length-off=0:=by omega
     have hend:jlq M.length s M=s':=by
      rw[heat,List.drop_of_length_le Xd];rfl
     rw[hend] at hsha;refine zdq 2 rfl ?_;refine qQq Xi ?_;refine z0q 9 rfl ?_;have htd4:∀n:Nat,((n:Int)).tdiv 4=((n/4:Nat):Int):=λn=>by rw[Int.tdiv_eq_ediv_of_nonneg Xd];omega
     have htm4:∀n:Nat,((n:Int)).tmod 4=((n%4:Nat):Int):=λn=>by rw[Int.tmod_eq_emod_of_nonneg Xd];omega
     refine jwq (α:=Nat) (λi=>i<=32) (λi=>[(64,.int .i64 (i:Int)),(3,.ptr 1 0),(2,.ptr 0 0)]) (λi=>hpS (.sl M base off) (.arr 32 1 (bN (dI s' i))) s') (λ_=>3) (λ_=>R) (λi=>32-i) 0 (Nat.zero_le _) (qcq ⟨rfl,rfl,rfl,trivial⟩ rfl rfl) (λi hi=>?_);skip
     refine ycq 6 rfl ?_;refine gS 0 rfl (λh5=>?_) (λh5=>?_)
     ·have hi32:i<32:=by omega
      refine gA 13 rfl (i/4) (e:=(htd4 i)) ?_;refine gP 0 rfl (kfq (i:=i/4) rfl rfl rfl rfl rfl rfl Xd) ?_;refine gM 0 rfl (yEq rfl rfl rfl (qBq (S8_at s' Xd) rfl)) ?_;refine gV 1 rfl (congrArg (W.int .i64) (htm4 i)) ?_;refine gA 0 rfl (8*(i%4)) ?_;refine gA 0 rfl (24-8*(i%4)) ?_;refine gP 2 rfl (kfq (i:=i) rfl rfl rfl rfl rfl rfl Xd) ?_;refine gM 0 rfl (jAq rfl rfl rfl rfl rfl (kOq (dI_at s' hi32) rfl rfl) rfl) ?_;refine gWr 4 rfl ?_;refine zdq 2 rfl ?_;skip
      refine yYq (i+1) Xd Xd (qcq ⟨rfl,rfl,rfl,trivial⟩ ?_ rfl);exact congrArg (λL=>hpS (.sl M base off) (.arr 32 1 L) s') (dI_set s' hi32)
     ·obtain rfl:i=32:=by omega
      refine zdq 2 rfl ?_;refine qQq Xi ?_;refine z0q 9 rfl ?_;refine fin Qm Ent.refl rfl ⟨rfl,?_⟩;rw[hsha];have:dI s' 32=digN s':=by simp[dI,List.take_of_length_le,Zhq]
      rw[<-this]
end
section
attribute [local irreducible] CoW OpW FlW Step Spec
theorem bytes_bN(l:List UInt8):zcq l=bN (l.map UInt8.toNat):=by simp[zcq,bN]
theorem shaN_l(ps:List (List Nat)):(shaN ps).length=32:=by simp[shaN,digN]
theorem shaN_lt(ps:List (List Nat)):∀n∈shaN ps,n<256:=λn h=>by
 simp only[shaN,digN,List.mem_map] at h;obtain⟨i,_,rfl⟩:=h;exact Nat.mod_lt _ Xg
noncomputable def shaD(ps:List (List UInt8)):Dig:=⟨(shaN (ps.map λp=>p.map UInt8.toNat)).map UInt8.ofNat,by simp[shaN_l]⟩
theorem bytes_of{l:List Nat}(h:∀n∈l,n<256):zcq (l.map UInt8.ofNat)=bN l:=by
 rw[bytes_bN,List.map_map];congr 1
 conv=>rhs;rw[<-List.map_id l]
 refine List.map_congr_left λn hn=>?_
 have:=h n hn;simp;omega
theorem sha_s(ps:List (List UInt8×Bool))(f:Bool)(hb:((ps.map (·.1)).map List.length).foldr (· + ·) 0<2147483648)(hn:ps.length<2147483648):PS cfg glK 137 [.fz (ps.map λp=>.fz (zcq p.1) 1 p.2) 1 f] (dW (shaD (ps.map (·.1)))):=λR=>by
 have e1:(ps.map λp=>(p.1.map UInt8.toNat,p.2)).map xVq=ps.map λp=>.fz (zcq p.1) 1 p.2:=by simp[xVq,bytes_bN]
 have e2:(ps.map λp=>(p.1.map UInt8.toNat,p.2)).map (·.1)=(ps.map (·.1)).map λp=>p.map UInt8.toNat:=by simp
 have h:=of_s (kfn:=runK (okTab 1 kA)) (ps.map λp=>(p.1.map UInt8.toNat,p.2)) f (by rw[e2];show(List.map List.length _).foldr _ 0<_;rw[List.map_map];simpa[Function.comp_def] using hb) (by simpa using hn) R;rw[e1,e2] at h
 have e3:dW (shaD (ps.map (·.1)))= .arr 32 1 (bN (shaN ((ps.map (·.1)).map λp=>p.map UInt8.toNat))):=by
  show W.arr 32 1 (zcq _)=_;rw[<-bytes_of (shaN_lt _)];rfl
 show Spec cfg glK _ 0 _ [] R λw hp nw R'=>R'=R/\w=dW (shaD (ps.map (·.1)))
 rw[e3];exact h
def ZNq(p:List UInt8):List UInt8:=beB 4 (p.length%4294967296)++p
def tagB(kind:UInt8)(ps:List (List UInt8)):List UInt8:=kind::ps.flatMap ZNq
variable {G:Nat->Option W}
@[simp] theorem bWs_pur(ps:List (List UInt8)):purL (ps.map bW)=true:=yjq (λx=>by simp) ps
theorem flat_le{m:Nat}:∀{ps:List (List UInt8)} (i:Nat),(∀p∈ps,p.length<m) ->((ps.take i).flatMap ZNq).length<=i*(m+4)
 |[],i,_=>by simp
 |p::ps,0,_=>by simp
 |p::ps,i+1,h=>by
  have h1:=flat_le (ps:=ps) i λq hq=>h q (List.mem_cons_of_mem _ hq)
  have h2:=h p (List.mem_cons_self ..);simp only[List.take_succ_cons,List.flatMap_cons,List.length_append,ZNq,k2q,Nat.succ_mul];omega
theorem tbytes_s(kind:UInt8)(ps:List (List UInt8))(f:Bool)(hn:ps.length<1000000)(hb:∀p∈ps,p.length<1000000):PS cfg G 138 [.int .u8 (.ofNat kind.toNat),.fz (ps.map bW) 1 f] (bW (tagB kind ps)):=by
 have e:(ps.map bW).length=ps.length:=List.length_map _;refine gIv 16 rfl (λR k0=>?_);refine gV (w':=.int .i64 (ps.length:Int)) 0 rfl Xu ?_;refine zdq 4 rfl ?_;refine co_loopG1 (α:=Nat) (λi=>i<=ps.length) 5 (λi=>zcq (kind::(ps.take i).flatMap ZNq)) 5 1 (λi=>[(14,.int .i64 (i:Int))]) [(4,_),(12,_),(13,_)] ([]) 0 0 (λi=>ps.length-i) (0) ⟨rfl,rfl,rfl,trivial⟩ (Nat.zero_le _) ⟨rfl,trivial⟩ Xd Xd Ym (by simp[zcq]) rfl (by simp[zcq]) Xh Xh rfl Xn Xj Xw (λi hI=>?_);refine ycq 6 rfl ?_;refine gS 0 rfl (λh1=>?_) (λh1=>?_)
 ·have hi:i<ps.length:=by omega
  obtain⟨x,hx⟩:∃x,ps[i]? =some x:=⟨_,List.getElem?_eq_getElem hi⟩
  have hxl:=hb x (List.mem_of_getElem? hx);have hfl:((ps.take i).flatMap ZNq).length<=i*1000004:=flat_le i hb;have hL:(zcq (kind::(ps.take i).flatMap ZNq)).length<=1+i*1000004:=by rw[zxq,List.length_cons];omega
  have hN:(zcq (beB 4 x.length)).length=4:=by rw[zxq,k2q]
  have hnx:zcq (kind::(ps.take (i+1)).flatMap ZNq)=(zcq (kind::(ps.take i).flatMap ZNq)++zcq (beB 4 x.length))++zcq x:=by
   rw[List.take_add_one,hx,<-jNq,<-jNq];congr 1
   simp[ZNq,Nat.mod_eq_of_lt (show x.length<4294967296 by omega)]
  skip
  cases x with
  |nil=>
   refine zQq 6 rfl ?_;refine gP 0 rfl (zGq (i:=i) rfl rfl rfl rfl rfl rfl rfl (zlq bW hx)) ?_;refine gV (w':=.int .i64 (([]:List UInt8).length:Int)) 7 rfl (by show W.int .i64 ((zcq (([]:List UInt8))).length:Int)=_;rw[zxq]) ?_;refine gWr 0 rfl ?_;refine gWr 0 rfl ?_
   (refine zUq rfl (y3q rfl rfl rfl rfl rfl rfl (put_s ([]:List UInt8).length 4 Xd Xd (by show([]:List UInt8).length<4294967296;omega)) ?_);rintro w hp1 nw1 ⟨rfl,rfl,rfl⟩)
   refine zsq 10 rfl ?_;refine gM 0 rfl (yZq rfl rfl (Qrq [_] (k:=ti5) (news:=zcq (beB 4 ([]:List UInt8).length)) rfl rfl rfl rfl rfl (uuq rfl rfl rfl (zAq Xg hN.symm rfl)) Yk (by rw[hN];show(_+4)*1<=_;omega) (by rw[hN];omega) rfl (by simp[numC]))) ?_;refine gM 1 rfl (yZq rfl rfl (jxq (k:=ti5) rfl rfl rfl rfl rfl)) ?_;refine gWr 5 rfl ?_;refine zdq 2 rfl ?_;exact xCq 2 (i+1) (hi) Xd (Nat.zero_le _) (by rw[hnx];exact List.append_nil _) Xv Xd Ym rfl Ya ⟨rfl,trivial⟩ ⟨rfl,rfl,rfl,trivial⟩ Xh Xh rfl Xn Xj Xw
  |cons c x=>
   refine zQq 6 rfl ?_;refine gP 0 rfl (zGq (i:=i) rfl rfl rfl rfl rfl rfl rfl (zlq bW hx)) ?_;refine gV (w':=.int .i64 ((c::x).length:Int)) 7 rfl (by show W.int .i64 ((zcq ((c::x))).length:Int)=_;rw[zxq]) ?_;refine gWr 0 rfl ?_;refine gWr 0 rfl ?_
   (refine zUq rfl (y3q rfl rfl rfl rfl rfl rfl (put_s (c::x).length 4 Xd Xd (by show(c::x).length<4294967296;omega)) ?_);rintro w hp1 nw1 ⟨rfl,rfl,rfl⟩)
   refine zsq 10 rfl ?_;refine gM 0 rfl (yZq rfl rfl (Qrq [_] (k:=ti5) (news:=zcq (beB 4 (c::x).length)) rfl rfl rfl rfl rfl (uuq rfl rfl rfl (zAq Xg hN.symm rfl)) Yk (by rw[hN];show(_+4)*1<=_;omega) (by rw[hN];omega) rfl (by simp[numC]))) ?_;refine gM 1 rfl (yZq rfl rfl (qzq (k:=ti5) (len:=(zcq (kind::(ps.take i).flatMap ZNq)++zcq (beB 4 (c::x).length)).length) (news:=zcq (c::x)) (olds:=zcq (kind::(ps.take i).flatMap ZNq)++zcq (beB 4 (c::x).length)) rfl rfl rfl rfl rfl (by simp[zcq]) (by rw[List.length_append,hN,zxq (c::x)];show(_+_)*1<=_;omega) (by rw[List.length_append,hN,zxq (c::x)];omega) rfl (by show(_++_:List W).length*1<0+((_++_:List W).length+(zcq (c::x)).length)*1;rw[zxq (c::x),List.length_cons];omega) rfl (zAq Xg rfl rfl))) ?_;refine gWr 5 rfl ?_;refine zdq 2 rfl ?_;exact xCq 3 (i+1) (hi) Xd (Nat.zero_le _) (hnx) Xv Xd Ym rfl Ya ⟨rfl,trivial⟩ ⟨rfl,rfl,rfl,trivial⟩ Xh Xh rfl Xn Xj Xw
 ·have hi:i=ps.length:=by omega
  subst hi;refine zdq 2 rfl ?_;refine qQq Xi ?_;refine z0q 9 rfl ?_;refine jkq Xt rfl ?_;rw[List.take_length];exact view_g (H0:=[]) Xg Xm Xm
theorem tag_le{m:Nat}(kind:UInt8)(ps:List (List UInt8))(h:∀p∈ps,p.length<m):(tagB kind ps).length<=1+ps.length*(m+4):=by
 have:=flat_le (m:=m) ps.length h;rw[List.take_length] at this;simp only[tagB,List.length_cons];omega
noncomputable def tagD(kind:UInt8)(ps:List (List UInt8)):Dig:=shaD [tagB kind ps]
theorem tagof_s(kind:UInt8)(ps:List (List UInt8))(f:Bool)(hn:ps.length<1000)(hb:∀p∈ps,p.length<1000000):PS cfg glK 63 [.int .u8 (.ofNat kind.toNat),.fz (ps.map bW) 1 f] (dW (tagD kind ps)):=by
 have hl:=tag_le kind ps hb;refine gI 9 rfl (λR k0=>gC 0 rfl (tbytes_s kind ps f Xd hb) (zdq 1 rfl ?_));refine uIq rfl rfl rfl rfl rfl (by(repeat (first|exact .nil|refine .cons ?_ ?_|(refine .sl rfl ?_ rfl Xi;first|rfl|(focus (simp;done)))|(refine yIq rfl ?_ rfl;first|rfl|(focus (simp;done)))|(refine .pur ?_;first|rfl|(focus (simp;done)))))) (sha_s [(tagB kind ps,false)] false Xo Xm) Xn Xn ?_;exact zsq 4 rfl (gQa 0 rfl)
noncomputable def keyD(k:Dig):Dig:=tagD 3 [k.1]
theorem key_s(k:Dig):PS cfg glK 41 [dW k] (dW (keyD k)):=by
 exact gI 10 rfl (λR k0=>uIq rfl rfl rfl rfl rfl (.cons (.pur rfl) (.cons (.sl2 (full:=false) rfl (.arr (.cons (.sl (full:=false) (xs:=zcq k.1) rfl Xm (zAq Xg (by simp[zxq,k.2]) rfl) Xi) .nil)) rfl Xi) .nil)) (tagof_s 3 [k.1] false Xm (by simp[k.2])) Xn Xn (zsq 4 rfl (gQa 0 rfl)))
end
section
attribute [local irreducible] CoW OpW FlW Step Spec
variable {G:Nat->Option W}
structure Tx where
 pub:Dig
 to:Dig
 nonce:Nat
 amount:Nat
 fee:Nat
 sign:Dig
noncomputable def txW(x:Tx):W:=.agg 99 [dW x.pub,dW x.to,.int .u64 (x.nonce:Int),.int .u64 (x.amount:Int),.int .u64 (x.fee:Int),dW x.sign]
@[simp] theorem jQq(x:Tx):purW (txW x)=true:=by simp[txW]
structure Tx.ok(x:Tx):Prop where
 nonce:x.nonce<18446744073709551616
 amount:x.amount<18446744073709551616
 fee:x.fee<18446744073709551616
def k1q(x:Tx):List UInt8:=(x.pub.1++x.to.1)++[x.nonce,x.amount,x.fee].flatMap (beB 8)
theorem body1_s(d:Dig):PS cfg G 225 [dW d] (bW d.1):=by
 exact gIv 13 rfl (λR k0=>jkq Qm rfl (.sl (full:=false) (xs:=zcq d.1) rfl Xm (zAq Xg (by simp[zxq,d.2]) rfl) Xi))
theorem body2_s(n:Nat)(hn:n<18446744073709551616):PS cfg G 227 [.int .u64 (n:Int)] (bW (beB 8 n)):=by
 refine gIv 8 rfl (λR k0=>?_)
 (refine zUq rfl (y3q rfl rfl rfl rfl rfl rfl (put_s n 8 Xd Xd (by show n<18446744073709551616;omega)) ?_);rintro w hp1 nw1 ⟨rfl,rfl,rfl⟩)
 exact zsq 14 rfl (jkq Qm rfl (.sl (full:=false) (c:=.arr (8*1) 1 (zcq (beB 8 n))) (xs:=zcq (beB 8 n)) rfl Xm (zAq Xg (by rw[zxq,k2q]) rfl) Xi))
theorem flat_app{ds:List Dig}{i:Nat}{d:Dig}(h:ds[i]? =some d):zcq ((ds.take (i+1)).flatMap (·.1))=zcq ((ds.take i).flatMap (·.1))++zcq d.1:=by
 rw[List.take_add_one,h,<-jNq];congr 1
 simp
theorem flat_dig:∀(ds:List Dig) (i:Nat),((ds.take i).flatMap (·.1)).length<=i*32
 |[],i=>by simp
 |d::ds,0=>by simp
 |d::ds,i+1=>by
  have:=flat_dig ds i;simp only[List.take_succ_cons,List.flatMap_cons,List.length_append,d.2,Nat.succ_mul];omega
@[simp] theorem dWs_pur(ds:List Dig):purL (ds.map dW)=true:=yjq (λx=>by simp) ds
theorem putd_s(ds:List Dig)(f:Bool)(hn:ds.length<1000):PL cfg G 224 [.nils,.fz (ds.map dW) 32 f,.fn 225 [] []] 5 1 (zcq (ds.flatMap (·.1))):=by
 have e:(ds.map dW).length=ds.length:=List.length_map _;intro R;refine gIs 9 rfl (λk0=>?_);refine gV (w':=.int .i64 (ds.length:Int)) 0 rfl Xu (zdq 4 rfl ?_);refine Zjq (α:=Nat) (λi=>i<=ds.length) 0 (λi=>zcq ((ds.take i).flatMap (·.1))) 5 1 (λi=>[(11,.int .i64 (i:Int))]) [(2,_),(6,_),(9,_),(10,_)] _ (λi=>ds.length-i) (0) ⟨rfl,rfl,rfl,rfl,trivial⟩ (Nat.zero_le _) ⟨rfl,trivial⟩ rfl rfl rfl (λi hI=>?_);refine ycq 6 rfl ?_;refine gS 0 rfl (λh1=>?_) (λh1=>?_)
 ·have hi:i<ds.length:=by omega
  obtain⟨d,hd⟩:∃d,ds[i]? =some d:=⟨_,List.getElem?_eq_getElem hi⟩
  have hN:(zcq d.1).length=32:=by rw[zxq,d.2]
  have hne:zcq ((ds.take i).flatMap (·.1))++zcq d.1≠[]:=λh=>by have:=congrArg List.length h;rw[List.length_append,hN] at this;simp at this
  have hL:(zcq ((ds.take i).flatMap (·.1))).length<=i*32:=by rw[zxq];exact flat_dig ds i
  exact gP 6 rfl (zGq (i:=i) rfl rfl rfl rfl rfl rfl rfl (zlq dW hd)) (gC 9 rfl (body1_s d) (gM 0 rfl (yZq rfl rfl (Qrq [_] (k:=ti5) (news:=zcq d.1) rfl rfl rfl rfl rfl rfl Yk (by rw[hN];show(_+32)*1<=_;omega) (by rw[hN];omega) rfl Xm)) (gWr 5 rfl (zdq 2 rfl (xCq 2 (i+1) (hi) Xd (Nat.zero_le _) (flat_app hd) Xv Xd Ym rfl Ya ⟨rfl,trivial⟩ ⟨rfl,rfl,rfl,rfl,trivial⟩ Xh Xh rfl Xn Xj Xw)))))
 ·have hi:i=ds.length:=by omega
  subst hi;refine zdq 2 rfl (qQq Xi (z0q 9 rfl ?_));rw[List.take_length];exact fin Qm (qcq (fr2:=[(6,gW 0 1 (zcq (ds.flatMap (·.1))))]) ⟨rfl,trivial⟩ rfl rfl) rfl ⟨rfl,rfl,rfl,rfl⟩
theorem flat_num:∀(ns:List Nat) (i:Nat),((ns.take i).flatMap (beB 8)).length<=i*8
 |[],i=>by simp
 |d::ds,0=>by simp
 |d::ds,i+1=>by
  have:=flat_num ds i;simp only[List.take_succ_cons,List.flatMap_cons,List.length_append,k2q,Nat.succ_mul];omega
noncomputable def uW(n:Nat):W:=.int .u64 (n:Int)
@[simp] theorem uWs_pur(ns:List Nat):purL (ns.map uW)=true:=yjq (λx=>rfl) ns
noncomputable def thr(i:Nat):Nat:=match i with
 |0=>0
 |_+1=>1
theorem putu_s(l:List UInt8)(hl0:l≠[])(hl:l.length<100000)(ns:List Nat)(f:Bool)(hn:ns.length<1000)(hns:ns≠[])(hu:∀n∈ns,n<18446744073709551616):qmq cfg G 226 1 [.sl 0 0 0 l.length 1 none,.fz (ns.map uW) 1 f,.fn 227 [] []] [(0,5,.arr l.length 1 (zcq l))] λw hp nw=>w= .sl 1 0 0 (l++ns.flatMap (beB 8)).length 1 none/\hp=[(1,5,.arr (l++ns.flatMap (beB 8)).length 1 (zcq (l++ns.flatMap (beB 8))))]/\nw=2:=by
 have e:(ns.map uW).length=ns.length:=List.length_map _;intro R;refine gIs 9 rfl (λk0=>?_);refine gV (w':=.int .i64 (ns.length:Int)) 0 rfl Xu (zdq 4 rfl ?_);refine jwq (α:=Nat) (λi=>i<=ns.length) (λi=>[(11,.int .i64 (i:Int)),(0,.sl (thr i) 0 0 (l++(ns.take i).flatMap (beB 8)).length 1 none),(2,.fn 227 [] []),(6,.nils),(9,.fz (ns.map uW) 1 f),(10,.int .i64 (ns.length:Int))]) (λi=>[(thr i,5,.arr (l++(ns.take i).flatMap (beB 8)).length 1 (zcq (l++(ns.take i).flatMap (beB 8))))]) (λi=>thr i+1) (λ_=>R) (λi=>ns.length-i) 0 (Nat.zero_le _) (qcq ⟨rfl,by show some (W.sl 0 0 0 l.length 1 none)=some (W.sl 0 0 0 (l++[]).length 1 none);rw[List.append_nil],rfl,rfl,rfl,rfl,trivial⟩ (by simp[thr]) rfl) (λi hI=>?_);skip
 refine ycq 6 rfl ?_;refine gS 0 rfl (λh1=>?_) (λh1=>?_)
 ·have hi:i<ns.length:=by omega
  obtain⟨u,hu0⟩:∃u,ns[i]? =some u:=⟨_,List.getElem?_eq_getElem hi⟩
  have hu1:=hu u (List.mem_of_getElem? hu0);have hN:(zcq (beB 8 u)).length=8:=by rw[zxq,k2q]
  have hL:(l++(ns.take i).flatMap (beB 8)).length<=100000+i*8:=by have:=flat_num ns i;rw[List.length_append];omega
  have hnx:l++(ns.take (i+1)).flatMap (beB 8)=(l++(ns.take i).flatMap (beB 8))++beB 8 u:=by rw[List.take_add_one,hu0];simp
  have hlen:(l++(ns.take i).flatMap (beB 8)).length+(zcq (beB 8 u)).length=(l++(ns.take (i+1)).flatMap (beB 8)).length:=by rw[hnx,List.length_append (bs:=beB 8 u),zxq]
  have hby:zcq (l++(ns.take i).flatMap (beB 8))++zcq (beB 8 u)=zcq (l++(ns.take (i+1)).flatMap (beB 8)):=by rw[hnx,jNq (b:=beB 8 u)]
  skip
  cases i with
  |zero=>
   refine zQq 6 rfl (gP 0 rfl (zGq (i:=0) rfl rfl rfl rfl rfl rfl rfl (zlq uW hu0)) (gC 8 rfl (body2_s u hu1) (gM 0 rfl (yZq rfl rfl (qzq (k:=ti5) (len:=(l++(ns.take 0).flatMap (beB 8)).length) (news:=zcq (beB 8 u)) (olds:=zcq (l++(ns.take 0).flatMap (beB 8))) rfl rfl rfl rfl rfl Yk (by rw[hN];show(_+8)*1<=_;omega) (by rw[hN];omega) rfl (by rw[hN];show(l++(ns.take 0).flatMap (beB 8)).length<0+(_+8)*1;omega) rfl (zAq Xg (zxq _).symm (Nat.mul_one _).symm))) (gA 5 rfl (0+1) (zdq 2 rfl ?_)))));skip
   refine yYq 1 hi Xd (qcq ⟨rfl,?_,rfl,rfl,rfl,rfl,trivial⟩ ?_ rfl)
   ·show some (W.sl 1 0 0 ((l++(ns.take 0).flatMap (beB 8)).length+(zcq (beB 8 u)).length) 1 none)=some (W.sl 1 0 0 (l++(ns.take (0+1)).flatMap (beB 8)).length 1 none);rw[hlen]
   ·show [(1,5,W.arr (((l++(ns.take 0).flatMap (beB 8)).length+(zcq (beB 8 u)).length)*1) 1 (zcq (l++(ns.take 0).flatMap (beB 8))++zcq (beB 8 u)))]=[(1,5,W.arr (l++(ns.take (0+1)).flatMap (beB 8)).length 1 (zcq (l++(ns.take (0+1)).flatMap (beB 8))))];rw[hlen,hby,Nat.mul_one]
  |succ i=>
   refine zQq 6 rfl (gP 0 rfl (zGq (i:=(i+1)) rfl rfl rfl rfl rfl rfl rfl (zlq uW hu0)) (gC 8 rfl (body2_s u hu1) (gM 0 rfl (yZq rfl rfl (qzq (k:=ti5) (len:=(l++(ns.take (i+1)).flatMap (beB 8)).length) (news:=zcq (beB 8 u)) (olds:=zcq (l++(ns.take (i+1)).flatMap (beB 8))) rfl rfl rfl rfl rfl Yk (by rw[hN];show(_+8)*1<=_;omega) (by rw[hN];omega) rfl (by rw[hN];show(l++(ns.take (i+1)).flatMap (beB 8)).length<0+(_+8)*1;omega) rfl (zAq Xg (zxq _).symm (Nat.mul_one _).symm))) (gA 5 rfl ((i+1)+1) (zdq 2 rfl ?_)))));skip
   refine yYq (i+1+1) hi (show ns.length-(i+1+1)<ns.length-(i+1) by omega) ?_;refine(yVq (b:=1) (k:=2) Xd Xd (by show 2<3;omega) ⟨⟨rfl,rfl⟩,⟨?_,rfl⟩,⟨rfl,rfl⟩,⟨rfl,rfl⟩,⟨by rw[zwq (show purW (.fz (ns.map uW) 1 f)=true from uWs_pur ns)];rfl,zeq (show purW (.fz (ns.map uW) 1 f)=true from uWs_pur ns)⟩,⟨rfl,rfl⟩,trivial⟩ ⟨⟨by show 1<2;omega,?_,zeq (show purW (.arr _ 1 (zcq _))=true from qJq _)⟩,trivial⟩ Xm)
   ·show some (W.sl 2 0 0 ((l++(ns.take (i+1)).flatMap (beB 8)).length+(zcq (beB 8 u)).length) 1 none)=some (W.sl 2 0 0 (l++(ns.take (i+1+1)).flatMap (beB 8)).length 1 none);rw[hlen]
   ·show some (5,W.arr (((l++(ns.take (i+1)).flatMap (beB 8)).length+(zcq (beB 8 u)).length)*1) 1 (zcq (l++(ns.take (i+1)).flatMap (beB 8))++zcq (beB 8 u)))=some (5,renW _ (W.arr (l++(ns.take (i+1+1)).flatMap (beB 8)).length 1 (zcq (l++(ns.take (i+1+1)).flatMap (beB 8)))));rw[zwq (show purW (.arr _ 1 (zcq _))=true from qJq _),hlen,hby,Nat.mul_one]
 ·have hi:i=ns.length:=by omega
  subst hi;refine zdq 2 rfl (qQq Xi (z0q 9 rfl ?_));rw[List.take_length];cases ns with
  |nil=>exact absurd rfl hns
  |cons a r=>
   exact fin Qm (qcq (fr2:=[(6,.sl 1 0 0 (l++(a::r).flatMap (beB 8)).length 1 none)]) ⟨rfl,trivial⟩ rfl rfl) rfl ⟨rfl,rfl,rfl,rfl⟩
theorem put2_s(a b:Dig)(f:Bool):qmq cfg G 224 0 [.nils,.fz [dW a,dW b] 32 f,.fn 225 [] []] [] λw hp nw=>w= .sl 0 0 0 (a.1++b.1).length 1 none/\hp=[(0,5,.arr (a.1++b.1).length 1 (zcq (a.1++b.1)))]/\nw=1:=by
 refine kxq (putd_s [a,b] f Xm) λw hp nw h=>?_
 obtain⟨rfl,rfl,rfl⟩:=h;have e:[a,b].flatMap (·.1)=a.1++b.1:=by simp
 have hl:(zcq (a.1++b.1)).length=64:=by rw[zxq,List.length_append,a.2,b.2]
 have hne:zcq (a.1++b.1)≠[]:=λh=>by rw[h] at hl;cases hl
 rw[e,ZZq hne,Z0q hne,zxq,Nat.mul_one];exact⟨rfl,rfl,rfl⟩
theorem body_len(x:Tx):(k1q x).length=88:=by simp[k1q,x.pub.2,x.to.2,k2q]
theorem bodyL_s(x:Tx)(hx:x.ok):PL cfg G 184 [txW x] 5 1 (zcq (k1q x)):=by
 have hl:(x.pub.1++x.to.1).length=64:=by rw[List.length_append,x.pub.2,x.to.2]
 have hb:=body_len x
 have hns:∀n∈[x.nonce,x.amount,x.fee],n<18446744073709551616:=λn hn=>by
  simp only[List.mem_cons,List.not_mem_nil,or_false] at hn;rcases hn with rfl|rfl|rfl
  ·exact hx.nonce
  ·exact hx.amount
  ·exact hx.fee
 have hpa:purW (.arr (x.pub.1++x.to.1).length 1 (zcq (x.pub.1++x.to.1)))=true:=qJq _;intro R;refine gIs 13 rfl (λk0=>?_)
 (refine vKq (λ_=>ent_fr1 1 [(1,.ptr 0 0),(2,.nils),(8,.fz [dW x.pub,dW x.to] 32 false)] [(0,72,txW x)] rfl (show purL [dW x.pub,dW x.to]=true by simp) (Nat.zero_le _) ⟨⟨_,rfl,.ptrK rfl⟩,⟨_,rfl,.pur rfl⟩,⟨_,rfl,.sl (full:=false) rfl (show purL [dW x.pub,dW x.to]=true by simp) rfl Xi⟩,trivial⟩ ⟨⟨by omega,_,rfl,.pur Xm⟩,trivial⟩ Xm) ?_;refine zUq rfl (y3q rfl rfl rfl rfl rfl Xm (put2_s x.pub x.to false) ?_);rintro w hp1 nw1 ⟨rfl,rfl,rfl⟩)
 refine zsq 13 rfl ?_
 (refine vKq (λ_=>ent_fr1 3 [(1,.ptr 0 0),(2,.nils),(10,.sl 2 0 0 (x.pub.1++x.to.1).length 1 none),(17,.fz ([x.nonce,x.amount,x.fee].map uW) 1 false)] [(2,5,.arr (x.pub.1++x.to.1).length 1 (zcq (x.pub.1++x.to.1))),(0,72,txW x)] rfl rfl (Nat.zero_le _) ⟨⟨_,rfl,.ptrK rfl⟩,⟨_,rfl,.pur rfl⟩,⟨_,rfl,.slK rfl⟩,⟨_,rfl,.sl (full:=false) rfl rfl rfl Xi⟩,trivial⟩ ⟨⟨by omega,_,rfl,by rw[zwq hpa];exact .pur hpa⟩,⟨by omega,_,rfl,.pur Xm⟩,trivial⟩ Xm) ?_;refine zUq rfl (qvq (ext:=[2]) (ws:=[.sl 0 0 0 (x.pub.1++x.to.1).length 1 none,.fz ([x.nonce,x.amount,x.fee].map uW) 1 false,.fn 227 [] []]) rfl rfl rfl rfl rfl (putu_s (x.pub.1++x.to.1) (by intro h;rw[h] at hl;cases hl) Xd [x.nonce,x.amount,x.fee] false Xm Xm hns) Xm Xm Xm (handed1 (by rw[zwq hpa];rfl) (zeq hpa)) rfl ?_);rintro w hp1 nw1 ⟨rfl,rfl,rfl⟩)
 refine zsq 4 rfl ?_;have hpb:purW (.arr (k1q x).length 1 (zcq (k1q x)))=true:=qJq _;have hn:(zcq (k1q x)).length=88:=by rw[zxq,hb]
 have hne:zcq (k1q x)≠[]:=λh=>by rw[h] at hn;cases hn
 refine fin (fr2:=[(2,.sl 0 0 0 (k1q x).length 1 none)]) (hp2:=[(0,5,.arr (k1q x).length 1 (zcq (k1q x)))]) (nw2:=1) (w:=.sl 0 0 0 (k1q x).length 1 none) Qm (yVq (b:=0) (k:=4) Xd Xd (by show 4<5;omega) ⟨⟨rfl,rfl⟩,trivial⟩ ⟨⟨by omega,?_,zeq hpb⟩,trivial⟩ Xm) rfl ⟨rfl,?_,?_,rfl⟩
 ·show some (5,renW _ (W.arr (k1q x).length 1 (zcq (k1q x))))=some (5,renW _ (W.arr (k1q x).length 1 (zcq (k1q x))));rw[zwq hpb,zwq hpb]
 ·rw[ZZq hne,zxq]
 ·rw[Z0q hne,zxq,Nat.mul_one]
theorem body_s(x:Tx)(hx:x.ok):PS cfg G 184 [txW x] (bW (k1q x)):=(bodyL_s x hx).ps Xg Xm
noncomputable def jSq(x:Tx):Dig:=tagD 4 [k1q x]
theorem sign_s(x:Tx)(hx:x.ok):PS cfg glK 147 [txW x] (dW (jSq x)):=by
 have hb:=body_len x;refine gI 9 rfl (λR k0=>gC 0 rfl (body_s x hx) (zdq 1 rfl ?_));refine uIq rfl rfl rfl rfl rfl (by(repeat (first|exact .nil|refine .cons ?_ ?_|(refine .sl rfl ?_ rfl Xi;first|rfl|(focus (simp;done)))|(refine yIq rfl ?_ rfl;first|rfl|(focus (simp;done)))|(refine .pur ?_;first|rfl|(focus (simp;done)))))) (tagof_s 4 [k1q x] false Xm (by simp[hb])) Xn Xn ?_;exact zsq 4 rfl (gQa 0 rfl)
theorem qMq(x:Tx)(hx:x.ok):PS cfg glK 81 [txW x] (.int .i64 (if x.sign=jSq x then 0 else 110)):=by
 refine ps_in (fn:=Tryz.f81) rfl rfl rfl (Nat.le_of_ble_eq_true rfl) (λR k0=>?_);by_cases h:x.sign=jSq x
 ·rw[if_pos h];skip
  exact ycq 12 rfl (gC 0 rfl (sign_s x hx) (vRq (w':=.bool false) rfl (Ywq rfl rfl rfl rfl (j3q rfl rfl rfl rfl rfl rfl x.sign (jSq x) 250)) (by rw[decide_eq_true h];rfl) (qHq 11 rfl (gQa 0 rfl))))
 ·rw[if_neg h];exact ycq 12 rfl (gC 0 rfl (sign_s x hx) (vRq (w':=.bool true) rfl (Ywq rfl rfl rfl rfl (j3q rfl rfl rfl rfl rfl rfl x.sign (jSq x) 250)) (by rw[decide_eq_false h];rfl) (qHq 10 rfl (gQa 0 rfl))))
theorem uSq(x:Tx):PS cfg glK 10 [txW x] (dW (keyD x.pub)):=by
 exact gI 10 rfl (λR k0=>gC 0 rfl (key_s x.pub) (gQa 4 rfl))
end
section
attribute [local irreducible] CoW OpW FlW Step Spec
def acL(l:List Pr)(k:Dig):Acct:=match findL l k with
 |some v=>(kpq v).1
 |none=>.zero
noncomputable def moreL(l:List Pr)(k:Dig)(c:Nat):Option (List Pr):=if (acL l k).balance+c<18446744073709551616 then some (setL l k ⟨(acL l k).nonce,(acL l k).balance+c⟩) else none
noncomputable def nudeL(l:List Pr)(x:Tx):List Pr:=setL l (keyD x.pub) ⟨(acL l (keyD x.pub)).nonce+1,(acL l (keyD x.pub)).balance⟩
noncomputable def lessL(l:List Pr)(x:Tx):List Pr:=setL (nudeL l x) (keyD x.pub) ⟨(acL l (keyD x.pub)).nonce+1,(acL l (keyD x.pub)).balance-(x.amount+x.fee)⟩
noncomputable def paidL(l:List Pr)(x:Tx)(box:Dig):List Pr×Nat:=if x.amount+x.fee<=(acL l (keyD x.pub)).balance then(match moreL (lessL l x) x.to x.amount with
  |none=>(nudeL l x,151)
  |some p=>match moreL p box x.fee with
   |none=>(nudeL l x,151)
   |some q=>(q,0)) else(nudeL l x,150)
end
noncomputable def gvL(l:List Pr)(d:Depo):List Pr×Nat:=match moreL l d.to d.amount with
 |some q=>(q,0)
 |none=>(l,151)
structure Rec where
 kind:UInt8
 id:Dig
 code:Nat
noncomputable def depD(d:Depo):Dig:=tagD 9 [beB 8 d.number++d.to.1++beB 8 d.amount]
noncomputable def idD(x:Tx):Dig:=tagD 5 [k1q x++x.sign.1]
noncomputable def doD:List Pr->List Depo->List Pr×List Rec
 |l,[]=>(l,[])
 |l,d::ds=>((doD (gvL l d).1 ds).1,⟨1,depD d,(gvL l d).2⟩::(doD (gvL l d).1 ds).2)
def goX(l:List Pr)(x:Tx):Prop:=x.sign=jSq x/\x.nonce=(acL l (keyD x.pub)).nonce/\x.nonce<18446744073709551615
noncomputable instance(l:List Pr)(x:Tx):Decidable (goX l x):=Classical.propDecidable _
noncomputable def doX(box:Dig):List Pr->List Tx->Option (List Pr×List Rec)
 |l,[]=>some (l,[])
 |l,x::xs=>if goX l x then(match doX box (paidL l x box).1 xs with
   |some r=>some (r.1,⟨2,idD x,(paidL l x box).2⟩::r.2)
   |none=>none) else none
section
attribute [local irreducible] CoW OpW FlW Step Spec
variable {G:Nat->Option W}
structure Hdr where
 height:Int
 parent:Dig
 state:Dig
 rows:Dig
 many:Int
noncomputable def hdW(h:Hdr):W:=.agg 98 [.int .i64 h.height,dW h.parent,dW h.state,dW h.rows,.int .i64 h.many]
@[simp] theorem hdW_pur(h:Hdr):purW (hdW h)=true:=by simp[hdW]
theorem ent_blkv{C:Cfg}{G:Nat->Option W}{m k0:Nat}{fr:FrW}{hp:HpW}{nw:Nat}{R:Res}{b:Nat}{ty:TypeId}{w w':W}(hb:hget hp b=some (ty,w))(h:View (λ_=>none) w w'):Ent C G m k0 fr hp nw R fr (hset hp b (ty,w')) nw R:=
 ent_blk hb λΓ v hv=>jqq ⟨λ_ h _=>h,λ_ _ _=>rfl,λ_ h=>h,λ_ _=>rfl,λ_ _ _ h=>Yw⟩ h hv
def okH(h:Hdr):Prop:=0<=h.height/\h.height<=1073741824/\0<=h.many/\h.many<=256
noncomputable instance(h:Hdr):Decidable (okH h):=Classical.propDecidable _
end
end
section
open Go.Shelf Go.RowKit Go.Lib
def joinRen:Go.Shelf.Ren:=⟨fun|14=>198|15=>232|n=>n,fun|26=>276|22=>52|3=>3|4=>4|0=>0|9=>9|20=>20|5=>5|n=>n,fun|n=>n⟩
theorem joinLays:Go.Proofs.SlLaysJ.n14 Tryz.prog joinRen:={
 mixed:=by kernel_rfl
 f14:=Tryz.func198.trans (congrArg some Xl)
 f15:=Tryz.func232.trans (congrArg some Xl)
 t0:=Tryz.underlying0
 a0:=Tryz.isAgg0
 z0:=Tryz.sizeOf0
 v0:=Tryz.zeroValue0
 t3:=Tryz.underlying3
 a3:=Tryz.isAgg3
 z3:=Tryz.sizeOf3
 v3:=Tryz.zeroValue3
 t4:=Tryz.underlying4
 a4:=Tryz.isAgg4
 z4:=Tryz.sizeOf4
 v4:=Tryz.zeroValue4
 t9:=Tryz.underlying9
 a9:=Tryz.isAgg9
 z9:=Tryz.sizeOf9
 v9:=Tryz.zeroValue9
 t20:=Tryz.underlying20
 a20:=Tryz.isAgg20
 z20:=Tryz.sizeOf20
 v20:=Tryz.zeroValue20
 t22:=Tryz.underlying52
 a22:=Tryz.isAgg52
 z22:=Tryz.sizeOf52
 v22:=Tryz.zeroValue52
 t26:=Tryz.underlying276
 a26:=Tryz.isAgg276
 z26:=Tryz.sizeOf276
 v26:=Tryz.zeroValue276
 t5:=Tryz.underlying5
 z5:=Tryz.sizeOf5
 i5:=by kernel_rfl}
theorem joinMany(b o n c:Nat)(vs:List Value)(ls:List (List UInt8))(sv:Value)(sep:List UInt8)(w:World)(hn:ls.length=n)(h2:2<=n)(hP:Lib.PartsAt w ⟨b,o,none⟩ vs ls)(hcap:n<=c)(hS:Lib.HoldsBytes w sv sep)(hn47:n<=140737488355328)(hlen:Lib.lens ls+sep.length*(n-1)<=140737488355328):
  Calls Tryz.prog 198 #[.slice (some ⟨b,o,none⟩) n c,sv] w λe w'=>∃v',e= .returned v'/\Lib.FreshBytes w.heap.size w' v' (Lib.join ls sep)/\Below w.heap.size w w':=Any.bytes_Join_many joinLays b o n c vs ls sv sep w hn h2 hP hcap hS hn47 hlen
end
section
open Go.RowKit Go.Lib
set_option maxHeartbeats 4000000 in
set_option maxRecDepth 100000 in
theorem ins237_shift(b off n c i vb voff m vc:Nat)(cs vs:List Value)(w:World)(hi:i<n)(hm:0<m)(hroom:n+m<=c)(hc63:n+m<=70368744177664)(hvb:vb≠b)
  (hcl:cs.length=n*99) (hvl:vs.length=m*99)
  (hcs:∀j v,cs[j]? =some v->w.cell? ⟨b,off+j,none⟩=some v) (hsp:∀j,j<(n+m)*99->(w.cell? ⟨b,off+j,none⟩).isSome=true) (hfz:∀j,j<(n+m)*99->w.frozen? ⟨b,off+j,none⟩=false)
  (hvs:∀j v,vs[j]? =some v->w.cell? ⟨vb,voff+j,none⟩=some v) (h1c:∀v∈cs,v.oneCell'=true) (h1v:∀v∈vs,v.oneCell'=true)
  (tA tB:TypeId) (kA kB:Nat) (hsa:w.shape? vb=some (tA,kA)) (hsb:w.shape? b=some (tB,kB)) (hkB:kB≠0) (hfa:w.frozen? ⟨vb,voff,none⟩=false) (hfe:w.frozen? ⟨vb,kA,none⟩=false):
  Calls Tryz.prog 237 #[.slice (some ⟨b,off,none⟩) n c,.int .i64 i,.slice (some ⟨vb,voff,none⟩) m vc] w λe w'=>
   e= .returned (.slice (some ⟨b,off,none⟩) (n+m) c)/\w'=(w.drew.setCells b (off+(i+m)*99) (cs.drop (i*99))).setCells b (off+i*99) vs:=by
 have uS:Tryz.prog.underlying 35=some (.slice 72):=by kernel_rfl
 have uB:Tryz.prog.underlying 4=some .bool:=by kernel_rfl
 have sZ:(Tryz.prog.info? 72).map (·.size)=some 99:=by kernel_rfl
 have hz1:¬((m:Int)=0):=by omega
 have hz2:¬((i:Int)=(n:Int)):=by omega
 have hzz:∀w,(Go.sizeOf 72).run Tryz.prog w= .ok 99 w:=λw=>by
  cases hq:Tryz.prog.info? 72 with
  |none=>simp[hq] at sZ
  |some i=>simp[hq] at sZ;simp[sizeOf,typeInfo,hq,sZ]
 have hov:∀lb cb,(callFunc 257 #[.slice (some ⟨vb,voff,none⟩) m vc,.slice (some ⟨b,off+(i+m)*99,none⟩) lb cb]).run Tryz.prog w= .ok (.value (.bool false)) w:=λlb cb=>by
  rw[run_callFunc_extern Tryz.func257 Xl Xl Xl (e:=Extern.SlicesOverlaps.overlaps #[35,35] #[4]) Xl,
   Lib.run_overlaps_apart w 35 4 72 uS 99 hzz ⟨vb,voff,none⟩ ⟨b,off+(i+m)*99,none⟩ m vc lb cb hvb tA tB kA kB hsa hsb hkB hfa hfe]
  rfl
 have hdl:(cs.drop (i*99)).length=(n-i)*99:=by rw[List.length_drop,hcl];omega
 have mixed:=mixed;have hw1:IntKind.i64.wrap ((i:Int)+(m:Int))=(i:Int)+(m:Int):=by rw[IntKind.wrap_i64];omega
 have hw2:IntKind.i64.wrap ((n:Int)+(m:Int))=(n:Int)+(m:Int):=by rw[IntKind.wrap_i64];omega
 have hb1:(0:Int)<=(i:Int)+(m:Int):=by omega
 have hin:i<=n:=by omega
 have htn:((i:Int)+(m:Int)).toNat=i+m:=by omega
 have hb2:¬(c=i+m):=by omega
 have hb3:(i:Int)<=(n:Int)+(m:Int):=by omega
 have hb4:¬(c=i):=by omega
 have hcp1:∀ty dc sc,(Builtin.copy_ #[35,35] ty #[.slice (some ⟨b,off+(i+m)*99,none⟩) (n+m-(i+m)) dc,.slice (some ⟨b,off+i*99,none⟩) (n+m-i) sc]).run Tryz.prog w.drew= .ok (goInt (Nat.min (n+m-i) (n+m-(i+m)))) (w.drew.setCells b (off+(i+m)*99) (cs.drop (i*99))):=λty dc sc=>
  qIq w.drew _ _ ty 72 b (off+(i+m)*99) (n+m-(i+m)) dc ⟨b,off+i*99,none⟩ (n+m-i) sc 99 (cs.drop (i*99)) uS sZ Qc
   (λj v hj=>by rw[Addr.add_lit,Nat.add_assoc];exact hcs (i*99+j) v (by rwa[List.getElem?_drop] at hj))
   (λj hj=>by rw[Nat.add_assoc];exact hsp _ Xd) (λj hj=>by rw[Nat.add_assoc];exact hfz _ Xd) (λv hv=>h1c v (List.mem_of_mem_drop hv))
 obtain⟨W1,hW1⟩:∃W1,W1=w.drew.setCells b (off+(i+m)*99) (cs.drop (i*99)):=⟨_,rfl⟩
 have hsp1:∀k,k<(n+m)*99->(W1.cell? ⟨b,off+k,none⟩).isSome=true:=λk hk=>by
  rw[hW1];exact qAq b _ _ _ (λj hj=>by rw[Nat.add_assoc];exact hsp _ Xd) _ (hsp k hk)
 have hcp2:∀(W:World),(∀x,W.cell? x=W1.cell? x) ->(∀x,W.frozen? x=W1.frozen? x) ->∀ty dc,(Builtin.copy_ #[35,35] ty #[.slice (some ⟨b,off+i*99,none⟩) (n+m-i) dc,.slice (some ⟨vb,voff,none⟩) m vc]).run Tryz.prog W= .ok (goInt (Nat.min m (n+m-i))) (W.setCells b (off+i*99) vs):=λW hWc hWf ty dc=>
  qIq W _ _ ty 72 b (off+i*99) (n+m-i) dc ⟨vb,voff,none⟩ m vc 99 vs uS sZ Xy
   (λj v hj=>by
    rw[Addr.add_lit,hWc,hW1,World.cell?_setCells_out b _ _ _ _ (λh _=>absurd h hvb)];exact hvs j v hj)
   (λj hj=>by rw[hWc,Nat.add_assoc];exact hsp1 _ Xd) (λj hj=>by rw[hWf,hW1,World.frozen?_setCells,Nat.add_assoc];exact hfz _ Xd) h1v
 rw[<-hW1] at hcp1;have hnt:Tryz.f237.ntmps=95:=by kernel_rfl
 go_enter Tryz.func237,hnt
 go_wp2_with (simp only[hov])
 go_region_law_o (refine jaq rfl _ _ 35 35 rfl _ _ Ye Ye (hcp1 _ _ _) ?_)
 go_wp2_with (at_builtin;refine yGq _ rfl _ _ 35 35 rfl _ _ rfl rfl (hcp2 _ (λ_=>rfl) (λ_=>rfl) _ _) ?_)
 go_ret
 first|exact⟨rfl,rfl⟩|exact⟨rfl,by rw[hW1]⟩
set_option maxHeartbeats 4000000 in
set_option maxRecDepth 100000 in
theorem ins237_end(a:Addr)(n c:Nat)(vb:Addr)(m vc:Nat)(w:World)(hm:0<m)(val:Value)(w1:World)
  (hr:∀ty,(Builtin.append_ #[35,35] ty #[.slice (some a) n c,.slice (some vb) m vc]).run Tryz.prog w= .ok val w1):
  Calls Tryz.prog 237 #[.slice (some a) n c,.int .i64 n,.slice (some vb) m vc] w λe w'=>e= .returned val/\w'=w1:=by
 have mixed:=mixed;have hz1:¬((m:Int)=0):=by omega
 have hnt:Tryz.f237.ntmps=95:=by kernel_rfl
 go_enter Tryz.func237,hnt
 go_wp2_with (at_builtin;refine Lib.wpList_append_run _ rfl _ _ _ _ rfl _ _ rfl rfl _ _ (hr _) ?_)
 all_goals (go_ret;exact⟨rfl,rfl⟩)
set_option maxHeartbeats 4000000 in
set_option maxRecDepth 100000 in
theorem ins237_nil(vb:Addr)(m vc:Nat)(w:World)(hm:0<m)(val:Value)(w1:World)
  (hr:∀ty,(Builtin.append_ #[35,35] ty #[.slice none 0 0,.slice (some vb) m vc]).run Tryz.prog w= .ok val w1):
  Calls Tryz.prog 237 #[.slice none 0 0,.int .i64 0,.slice (some vb) m vc] w λe w'=>e= .returned val/\w'=w1:=by
 have mixed:=mixed;have hz1:¬((m:Int)=0):=by omega
 have hnt:Tryz.f237.ntmps=95:=by kernel_rfl
 go_enter Tryz.func237,hnt
 go_wp2_with (at_builtin;refine Lib.wpList_append_run _ rfl _ _ _ _ rfl _ _ rfl rfl _ _ (hr _) ?_)
 all_goals (go_ret;exact⟨rfl,rfl⟩)
set_option maxHeartbeats 4000000 in
set_option maxRecDepth 100000 in
theorem ins237_grow(b off n c i vb voff m vc:Nat)(cs vs:List Value)(w:World)(hi:i<n)(hm:0<m)(hnc:n<=c)(hroom:c<n+m)(hbig:(n+m)*120<=140737488355328)(h63:n+m<=70368744177664)
  (hcl:cs.length=n*99) (hvl:vs.length=m*99)
  (hcs:∀j v,cs[j]? =some v->w.cell? ⟨b,off+j,none⟩=some v)
  (hvs:∀j v,vs[j]? =some v->w.cell? ⟨vb,voff+j,none⟩=some v) (h1c:∀v∈cs,v.oneCell'=true) (h1v:∀v∈vs,v.oneCell'=true):
  Calls Tryz.prog 237 #[.slice (some ⟨b,off,none⟩) n c,.int .i64 i,.slice (some ⟨vb,voff,none⟩) m vc] w λe w'=>
   ∃G ROW,n+m<=G/\G<=9223372036854775807/\ROW.size=G*99/\(∀j,j<i*99->ROW[j]? =cs[j]?)/\e= .returned (.slice (some ⟨w.heap.size,0,none⟩) (n+m) G)/\
   w'=(((w.alloc (.cells ROW 72)).drew.setCells w.heap.size (i*99) vs).drew).setCells w.heap.size ((i+m)*99) (cs.drop (i*99)):=by
 have uS:Tryz.prog.underlying 35=some (.slice 72):=by kernel_rfl
 have uI:Tryz.prog.underlying 3=some (.int .i64):=by kernel_rfl
 have sZ:(Tryz.prog.info? 72).map (·.size)=some 99:=by kernel_rfl
 have bZ:(Tryz.prog.info? 72).map (·.bytes)=some 120:=by kernel_rfl
 have zZ:((Tryz.prog.info? 72).bind (·.zero)).map (·.cells.size)=some 99:=by kernel_rfl
 have mixed:=mixed
 obtain⟨i0,hi0⟩:∃i0,Tryz.prog.info? 72=some i0:=by
  cases hq:Tryz.prog.info? 72 with
  |none=>simp[hq] at sZ
  |some i=>exact⟨i,rfl⟩
 have hzs:i0.size=99:=by simpa[hi0] using sZ
 have hzb:i0.bytes=120:=by simpa[hi0] using bZ
 obtain⟨z,hz0,hzc⟩:∃z,i0.zero=some z/\z.cells.size=99:=by
  rw[hi0,Option.bind_some] at zZ;cases hq:i0.zero with
  |none=>simp[hq] at zZ
  |some z=>exact⟨z,rfl,by simpa[hq] using zZ⟩
 have hz1:¬((m:Int)=0):=by omega
 have hz2:¬((i:Int)=(n:Int)):=by omega
 have hz3:(c:Int)<(n:Int)+(m:Int):=by omega
 have hbw:b<w.heap.size:=block_lt_of_cell (hcs 0 _ (List.getElem?_eq_getElem Xd));have hvw:vb<w.heap.size:=block_lt_of_cell (hvs 0 _ (List.getElem?_eq_getElem Xd));have hkk:(n:Int)+(m:Int) -(i:Int)=((n+m-i:Nat):Int):=by omega
 have hik:i+(n+m-i)=n+m:=by omega
 have hold:(Builtin.firstCells i0.size i (.slice (some ⟨b,off,none⟩) i c)).run Tryz.prog w.drew= .ok (cs.take (i*99)).toArray w.drew:=by
  rw[hzs]
  exact run_firstCells_some w.drew 99 i ⟨b,off,none⟩ i c (cs.take (i*99)) Yn (λj v hj=>by
   rw[Addr.add_lit];rw[List.getElem?_take] at hj;split at hj
   ·exact hcs j v hj
   ·cases hj)
 have hrz:∀ty,(Builtin.append_ #[35,3] ty #[.slice (some ⟨b,off,none⟩) i c,.int .i64 ((n:Int)+(m:Int) -(i:Int))]).run Tryz.prog w=
   .ok (.slice (some ⟨w.heap.size,0,none⟩) (n+m) (grownCap w (n+m) c 72)) (w.drew.alloc (.cells ((cs.take (i*99)).toArray++Builtin.zeroCells z.cells (n+m-i)++Builtin.zeroCells z.cells (grownCap w (n+m) c 72-(n+m))) 72)):=λty=>by
  have h:=Lib.run_append_grow_zeros w 35 3 ty 72 i0 _ .i64 .i64 uS uI hi0 hz0 (some ⟨b,off,none⟩) i c (cs.take (i*99)) hold (n+m-i) Xd Xd Xd Xd (by rw[hzb];omega) (by rw[hzb,hik];exact growslice_fits hroom hbig);rw[hik] at h;rw[hkk];exact h
 obtain⟨G,hG⟩:∃G,G=grownCap w (n+m) c 72:=⟨_,rfl⟩
 obtain⟨ROW,hROW⟩:∃ROW:Array Value,ROW=(cs.take (i*99)).toArray++Builtin.zeroCells z.cells (n+m-i)++Builtin.zeroCells z.cells (G-(n+m)):=⟨_,rfl⟩
 rw[<-hG] at hrz;rw[<-hROW] at hrz;have hGn:n+m<=G:=by rw[hG];exact grownCap_ge w _ _ _
 have hRs:ROW.size=G*99:=by
  rw[hROW];simp only[Builtin.zeroCells,Array.size_append,Array.size_map,Array.size_range,hzc,List.size_toArray,List.length_take,hcl];omega
 have hRl:(n+m)*99<=ROW.size:=by rw[hRs];omega
 have hRt:∀j,j<i*99->ROW[j]? =cs[j]? :=λj hj=>by
  rw[hROW,Array.append_assoc,Array.getElem?_append_left (by simp only[List.size_toArray,List.length_take,hcl];omega)];simp only[List.getElem?_toArray,List.getElem?_take];rw[if_pos hj]
 obtain⟨W1,hW1⟩:∃W1,W1=w.drew.alloc (.cells ROW 72):=⟨_,rfl⟩
 rw[<-hW1] at hrz
 have hN:∀j,j<(n+m)*99->(W1.cell? ⟨w.heap.size,j,none⟩).isSome=true:=λj hj=>by
  rw[hW1,World.cell?_alloc_at (w:=w.drew) ROW _ w.heap.size j rfl,Array.getElem?_eq_getElem Xd];rfl
 have hNf:∀j,W1.frozen? ⟨w.heap.size,j,none⟩=false:=λj=>by rw[hW1];exact World.frozen?_alloc_at (w:=w.drew) ROW _ w.heap.size j rfl
 have hOb:∀j v,w.cell? ⟨b,j,none⟩=some v->W1.cell? ⟨b,j,none⟩=some v:=λj v h=>by rw[hW1,World.cell?_alloc_past (w:=w.drew) _ b j hbw];exact h
 have hOv:∀j v,w.cell? ⟨vb,j,none⟩=some v->W1.cell? ⟨vb,j,none⟩=some v:=λj v h=>by rw[hW1,World.cell?_alloc_past (w:=w.drew) _ vb j hvw];exact h
 have hcpA:∀(W:World),(∀x,W.cell? x=W1.cell? x) ->(∀x,W.frozen? x=W1.frozen? x) ->∀ty dc,(Builtin.copy_ #[35,35] ty #[.slice (some ⟨w.heap.size,i*99,none⟩) (n+m-i) dc,.slice (some ⟨vb,voff,none⟩) m vc]).run Tryz.prog W= .ok (goInt (Nat.min m (n+m-i))) (W.setCells w.heap.size (i*99) vs):=λW hWc hWf ty dc=>
  qIq W _ _ ty 72 w.heap.size (i*99) (n+m-i) dc ⟨vb,voff,none⟩ m vc 99 vs uS sZ Xy
   (λj v hj=>by rw[Addr.add_lit,hWc];exact hOv _ v (hvs j v hj))
   (λj hj=>by rw[hWc];exact hN _ Xd) (λj hj=>by rw[hWf];exact hNf _) h1v
 have hG63:G<=9223372036854775807:=by
  have:=grownCap_le_maxLen w (n+m) c 72 (by unfold maxLen;omega);rw[<-hG] at this;unfold maxLen at this;omega
 have hGi:¬(G=i):=by omega
 have hGim:¬(G=i+m):=by omega
 have hci:¬(c=i):=by omega
 have hbN:b≠w.heap.size:=by omega
 have hdl:(cs.drop (i*99)).length=(n-i)*99:=by rw[List.length_drop,hcl];omega
 have hcpB:∀(W:World),(∀x,W.cell? x=(W1.setCells w.heap.size (i*99) vs).cell? x) ->(∀x,W.frozen? x=(W1.setCells w.heap.size (i*99) vs).frozen? x) ->∀ty dc sc,(Builtin.copy_ #[35,35] ty #[.slice (some ⟨w.heap.size,(i+m)*99,none⟩) (n+m-(i+m)) dc,.slice (some ⟨b,off+i*99,none⟩) (n-i) sc]).run Tryz.prog W= .ok (goInt (Nat.min (n-i) (n+m-(i+m)))) (W.setCells w.heap.size ((i+m)*99) (cs.drop (i*99))):=λW hWc hWf ty dc sc=>
  qIq W _ _ ty 72 w.heap.size ((i+m)*99) (n+m-(i+m)) dc ⟨b,off+i*99,none⟩ (n-i) sc 99 (cs.drop (i*99)) uS sZ Qd
   (λj v hj=>by
    rw[Addr.add_lit,hWc,World.cell?_setCells_out _ _ _ _ _ (λh _=>absurd h hbN),Nat.add_assoc];exact hOb _ v (hcs (i*99+j) v (by rwa[List.getElem?_drop] at hj)))
   (λj hj=>by rw[hWc];exact qAq _ _ _ _ (λt ht=>hN _ Xd) _ (hN _ Xd))
   (λj hj=>by rw[hWf,World.frozen?_setCells];exact hNf _) (λv hv=>h1c v (List.mem_of_mem_drop hv))
 subst hW1;have hE1:∀x,((w.alloc (.cells ROW 72)).drew).cell? x=(w.drew.alloc (.cells ROW 72)).cell? x:=λx=>rfl
 have hE2:∀x,((w.alloc (.cells ROW 72)).drew).frozen? x=(w.drew.alloc (.cells ROW 72)).frozen? x:=λx=>rfl
 have hF1:∀x,(((w.alloc (.cells ROW 72)).drew.setCells w.heap.size (i*99) vs).drew).cell? x=((w.drew.alloc (.cells ROW 72)).setCells w.heap.size (i*99) vs).cell? x:=λx=>rfl
 have hF2:∀x,(((w.alloc (.cells ROW 72)).drew.setCells w.heap.size (i*99) vs).drew).frozen? x=((w.drew.alloc (.cells ROW 72)).setCells w.heap.size (i*99) vs).frozen? x:=λx=>rfl
 have hw1:IntKind.i64.wrap ((i:Int)+(m:Int))=(i:Int)+(m:Int):=by rw[IntKind.wrap_i64];omega
 have hw2:IntKind.i64.wrap ((n:Int)+(m:Int))=(n:Int)+(m:Int):=by rw[IntKind.wrap_i64];omega
 have hb1:(0:Int)<=(i:Int)+(m:Int):=by omega
 have hin:i<=n:=by omega
 have htn:((i:Int)+(m:Int)).toNat=i+m:=by omega
 have hb3:(i:Int)<=(n:Int):=by omega
 have hnt:Tryz.f237.ntmps=95:=by kernel_rfl
 clear hkk hik hold hROW hRl hG sZ bZ zZ hi0 hzs hzb hz0 hzc;go_enter Tryz.func237,hnt
 go_wp2_with (first
  |(at_builtin;refine Lib.wpList_append_run _ rfl _ _ _ _ rfl _ _ rfl rfl _ _ (hrz _) ?_)
  |(at_builtin;refine yGq _ rfl _ _ 35 35 rfl _ _ rfl rfl (hcpA _ hE1 hE2 _ _) ?_)
  |(at_builtin;refine yGq _ rfl _ _ 35 35 rfl _ _ rfl rfl (hcpB _ (λ_=>rfl) (λ_=>rfl) _ _ _) ?_))
 go_region_law_o (refine jaq rfl _ _ 35 35 rfl (.slice (some ⟨w.heap.size,(i+m)*99,none⟩) (n+m-(i+m)) (G-(i+m))) (.slice (some ⟨b,off+i*99,none⟩) (n-i) (c-i)) Ye Ye (hcpB _ hF1 hF2 3 (G-(i+m)) (c-i)) ?_)
 go_wp2
 go_ret
 exact⟨G,ROW,hGn,hG63,hRs,hRt,rfl,rfl⟩
theorem insF237:InsFn Tryz.prog 237 35 72 99 120:=⟨Go.Proofs.enters_of Tryz.func237 Xl rfl,ins237_shift,ins237_end,ins237_nil,ins237_grow⟩
theorem insOK237{C:Cfg}:jyq Tryz.prog C 237 (insV cfgB 35 72 99 120):=known_ins cfgBOK insF237 (j:=ti35) (k:=ti72) Xl rfl Xl rfl rfl
set_option maxHeartbeats 4000000 in
set_option maxRecDepth 100000 in
theorem ins241_shift(b off n c i vb voff m vc:Nat)(cs vs:List Value)(w:World)(hi:i<n)(hm:0<m)(hroom:n+m<=c)(hc63:n+m<=70368744177664)(hvb:vb≠b)
  (hcl:cs.length=n*33) (hvl:vs.length=m*33)
  (hcs:∀j v,cs[j]? =some v->w.cell? ⟨b,off+j,none⟩=some v) (hsp:∀j,j<(n+m)*33->(w.cell? ⟨b,off+j,none⟩).isSome=true) (hfz:∀j,j<(n+m)*33->w.frozen? ⟨b,off+j,none⟩=false)
  (hvs:∀j v,vs[j]? =some v->w.cell? ⟨vb,voff+j,none⟩=some v) (h1c:∀v∈cs,v.oneCell'=true) (h1v:∀v∈vs,v.oneCell'=true)
  (tA tB:TypeId) (kA kB:Nat) (hsa:w.shape? vb=some (tA,kA)) (hsb:w.shape? b=some (tB,kB)) (hkB:kB≠0) (hfa:w.frozen? ⟨vb,voff,none⟩=false) (hfe:w.frozen? ⟨vb,kA,none⟩=false):
  Calls Tryz.prog 241 #[.slice (some ⟨b,off,none⟩) n c,.int .i64 i,.slice (some ⟨vb,voff,none⟩) m vc] w λe w'=>
   e= .returned (.slice (some ⟨b,off,none⟩) (n+m) c)/\w'=(w.drew.setCells b (off+(i+m)*33) (cs.drop (i*33))).setCells b (off+i*33) vs:=by
 have uS:Tryz.prog.underlying 129=some (.slice 133):=by kernel_rfl
 have uB:Tryz.prog.underlying 4=some .bool:=by kernel_rfl
 have sZ:(Tryz.prog.info? 133).map (·.size)=some 33:=by kernel_rfl
 have hz1:¬((m:Int)=0):=by omega
 have hz2:¬((i:Int)=(n:Int)):=by omega
 have hzz:∀w,(Go.sizeOf 133).run Tryz.prog w= .ok 33 w:=λw=>by
  cases hq:Tryz.prog.info? 133 with
  |none=>simp[hq] at sZ
  |some i=>simp[hq] at sZ;simp[sizeOf,typeInfo,hq,sZ]
 have hov:∀lb cb,(callFunc 260 #[.slice (some ⟨vb,voff,none⟩) m vc,.slice (some ⟨b,off+(i+m)*33,none⟩) lb cb]).run Tryz.prog w= .ok (.value (.bool false)) w:=λlb cb=>by
  rw[run_callFunc_extern Tryz.func260 Xl Xl Xl (e:=Extern.SlicesOverlaps.overlaps #[129,129] #[4]) Xl,
   Lib.run_overlaps_apart w 129 4 133 uS 33 hzz ⟨vb,voff,none⟩ ⟨b,off+(i+m)*33,none⟩ m vc lb cb hvb tA tB kA kB hsa hsb hkB hfa hfe]
  rfl
 have hdl:(cs.drop (i*33)).length=(n-i)*33:=by rw[List.length_drop,hcl];omega
 have mixed:=mixed;have hw1:IntKind.i64.wrap ((i:Int)+(m:Int))=(i:Int)+(m:Int):=by rw[IntKind.wrap_i64];omega
 have hw2:IntKind.i64.wrap ((n:Int)+(m:Int))=(n:Int)+(m:Int):=by rw[IntKind.wrap_i64];omega
 have hb1:(0:Int)<=(i:Int)+(m:Int):=by omega
 have hin:i<=n:=by omega
 have htn:((i:Int)+(m:Int)).toNat=i+m:=by omega
 have hb2:¬(c=i+m):=by omega
 have hb3:(i:Int)<=(n:Int)+(m:Int):=by omega
 have hb4:¬(c=i):=by omega
 have hcp1:∀ty dc sc,(Builtin.copy_ #[129,129] ty #[.slice (some ⟨b,off+(i+m)*33,none⟩) (n+m-(i+m)) dc,.slice (some ⟨b,off+i*33,none⟩) (n+m-i) sc]).run Tryz.prog w.drew= .ok (goInt (Nat.min (n+m-i) (n+m-(i+m)))) (w.drew.setCells b (off+(i+m)*33) (cs.drop (i*33))):=λty dc sc=>
  qIq w.drew _ _ ty 133 b (off+(i+m)*33) (n+m-(i+m)) dc ⟨b,off+i*33,none⟩ (n+m-i) sc 33 (cs.drop (i*33)) uS sZ Qc
   (λj v hj=>by rw[Addr.add_lit,Nat.add_assoc];exact hcs (i*33+j) v (by rwa[List.getElem?_drop] at hj))
   (λj hj=>by rw[Nat.add_assoc];exact hsp _ Xd) (λj hj=>by rw[Nat.add_assoc];exact hfz _ Xd) (λv hv=>h1c v (List.mem_of_mem_drop hv))
 obtain⟨W1,hW1⟩:∃W1,W1=w.drew.setCells b (off+(i+m)*33) (cs.drop (i*33)):=⟨_,rfl⟩
 have hsp1:∀k,k<(n+m)*33->(W1.cell? ⟨b,off+k,none⟩).isSome=true:=λk hk=>by
  rw[hW1];exact qAq b _ _ _ (λj hj=>by rw[Nat.add_assoc];exact hsp _ Xd) _ (hsp k hk)
 have hcp2:∀(W:World),(∀x,W.cell? x=W1.cell? x) ->(∀x,W.frozen? x=W1.frozen? x) ->∀ty dc,(Builtin.copy_ #[129,129] ty #[.slice (some ⟨b,off+i*33,none⟩) (n+m-i) dc,.slice (some ⟨vb,voff,none⟩) m vc]).run Tryz.prog W= .ok (goInt (Nat.min m (n+m-i))) (W.setCells b (off+i*33) vs):=λW hWc hWf ty dc=>
  qIq W _ _ ty 133 b (off+i*33) (n+m-i) dc ⟨vb,voff,none⟩ m vc 33 vs uS sZ Xy
   (λj v hj=>by
    rw[Addr.add_lit,hWc,hW1,World.cell?_setCells_out b _ _ _ _ (λh _=>absurd h hvb)];exact hvs j v hj)
   (λj hj=>by rw[hWc,Nat.add_assoc];exact hsp1 _ Xd) (λj hj=>by rw[hWf,hW1,World.frozen?_setCells,Nat.add_assoc];exact hfz _ Xd) h1v
 rw[<-hW1] at hcp1;have hnt:Tryz.f241.ntmps=95:=by kernel_rfl
 go_enter Tryz.func241,hnt
 go_wp2_with (simp only[hov])
 go_region_law_o (refine jaq rfl _ _ 129 129 rfl _ _ Ye Ye (hcp1 _ _ _) ?_)
 go_wp2_with (at_builtin;refine yGq _ rfl _ _ 129 129 rfl _ _ rfl rfl (hcp2 _ (λ_=>rfl) (λ_=>rfl) _ _) ?_)
 go_ret
 first|exact⟨rfl,rfl⟩|exact⟨rfl,by rw[hW1]⟩
set_option maxHeartbeats 4000000 in
set_option maxRecDepth 100000 in
theorem ins241_end(a:Addr)(n c:Nat)(vb:Addr)(m vc:Nat)(w:World)(hm:0<m)(val:Value)(w1:World)
  (hr:∀ty,(Builtin.append_ #[129,129] ty #[.slice (some a) n c,.slice (some vb) m vc]).run Tryz.prog w= .ok val w1):
  Calls Tryz.prog 241 #[.slice (some a) n c,.int .i64 n,.slice (some vb) m vc] w λe w'=>e= .returned val/\w'=w1:=by
 have mixed:=mixed;have hz1:¬((m:Int)=0):=by omega
 have hnt:Tryz.f241.ntmps=95:=by kernel_rfl
 go_enter Tryz.func241,hnt
 go_wp2_with (at_builtin;refine Lib.wpList_append_run _ rfl _ _ _ _ rfl _ _ rfl rfl _ _ (hr _) ?_)
 all_goals (go_ret;exact⟨rfl,rfl⟩)
set_option maxHeartbeats 4000000 in
set_option maxRecDepth 100000 in
theorem ins241_nil(vb:Addr)(m vc:Nat)(w:World)(hm:0<m)(val:Value)(w1:World)
  (hr:∀ty,(Builtin.append_ #[129,129] ty #[.slice none 0 0,.slice (some vb) m vc]).run Tryz.prog w= .ok val w1):
  Calls Tryz.prog 241 #[.slice none 0 0,.int .i64 0,.slice (some vb) m vc] w λe w'=>e= .returned val/\w'=w1:=by
 have mixed:=mixed;have hz1:¬((m:Int)=0):=by omega
 have hnt:Tryz.f241.ntmps=95:=by kernel_rfl
 go_enter Tryz.func241,hnt
 go_wp2_with (at_builtin;refine Lib.wpList_append_run _ rfl _ _ _ _ rfl _ _ rfl rfl _ _ (hr _) ?_)
 all_goals (go_ret;exact⟨rfl,rfl⟩)
set_option maxHeartbeats 4000000 in
set_option maxRecDepth 100000 in
theorem ins241_grow(b off n c i vb voff m vc:Nat)(cs vs:List Value)(w:World)(hi:i<n)(hm:0<m)(hnc:n<=c)(hroom:c<n+m)(hbig:(n+m)*56<=140737488355328)(h63:n+m<=70368744177664)
  (hcl:cs.length=n*33) (hvl:vs.length=m*33)
  (hcs:∀j v,cs[j]? =some v->w.cell? ⟨b,off+j,none⟩=some v)
  (hvs:∀j v,vs[j]? =some v->w.cell? ⟨vb,voff+j,none⟩=some v) (h1c:∀v∈cs,v.oneCell'=true) (h1v:∀v∈vs,v.oneCell'=true):
  Calls Tryz.prog 241 #[.slice (some ⟨b,off,none⟩) n c,.int .i64 i,.slice (some ⟨vb,voff,none⟩) m vc] w λe w'=>
   ∃G ROW,n+m<=G/\G<=9223372036854775807/\ROW.size=G*33/\(∀j,j<i*33->ROW[j]? =cs[j]?)/\e= .returned (.slice (some ⟨w.heap.size,0,none⟩) (n+m) G)/\
   w'=(((w.alloc (.cells ROW 133)).drew.setCells w.heap.size (i*33) vs).drew).setCells w.heap.size ((i+m)*33) (cs.drop (i*33)):=by
 have uS:Tryz.prog.underlying 129=some (.slice 133):=by kernel_rfl
 have uI:Tryz.prog.underlying 3=some (.int .i64):=by kernel_rfl
 have sZ:(Tryz.prog.info? 133).map (·.size)=some 33:=by kernel_rfl
 have bZ:(Tryz.prog.info? 133).map (·.bytes)=some 56:=by kernel_rfl
 have zZ:((Tryz.prog.info? 133).bind (·.zero)).map (·.cells.size)=some 33:=by kernel_rfl
 have mixed:=mixed
 obtain⟨i0,hi0⟩:∃i0,Tryz.prog.info? 133=some i0:=by
  cases hq:Tryz.prog.info? 133 with
  |none=>simp[hq] at sZ
  |some i=>exact⟨i,rfl⟩
 have hzs:i0.size=33:=by simpa[hi0] using sZ
 have hzb:i0.bytes=56:=by simpa[hi0] using bZ
 obtain⟨z,hz0,hzc⟩:∃z,i0.zero=some z/\z.cells.size=33:=by
  rw[hi0,Option.bind_some] at zZ;cases hq:i0.zero with
  |none=>simp[hq] at zZ
  |some z=>exact⟨z,rfl,by simpa[hq] using zZ⟩
 have hz1:¬((m:Int)=0):=by omega
 have hz2:¬((i:Int)=(n:Int)):=by omega
 have hz3:(c:Int)<(n:Int)+(m:Int):=by omega
 have hbw:b<w.heap.size:=block_lt_of_cell (hcs 0 _ (List.getElem?_eq_getElem Xd));have hvw:vb<w.heap.size:=block_lt_of_cell (hvs 0 _ (List.getElem?_eq_getElem Xd));have hkk:(n:Int)+(m:Int) -(i:Int)=((n+m-i:Nat):Int):=by omega
 have hik:i+(n+m-i)=n+m:=by omega
 have hold:(Builtin.firstCells i0.size i (.slice (some ⟨b,off,none⟩) i c)).run Tryz.prog w.drew= .ok (cs.take (i*33)).toArray w.drew:=by
  rw[hzs]
  exact run_firstCells_some w.drew 33 i ⟨b,off,none⟩ i c (cs.take (i*33)) Yn (λj v hj=>by
   rw[Addr.add_lit];rw[List.getElem?_take] at hj;split at hj
   ·exact hcs j v hj
   ·cases hj)
 have hrz:∀ty,(Builtin.append_ #[129,3] ty #[.slice (some ⟨b,off,none⟩) i c,.int .i64 ((n:Int)+(m:Int) -(i:Int))]).run Tryz.prog w=
   .ok (.slice (some ⟨w.heap.size,0,none⟩) (n+m) (grownCap w (n+m) c 133)) (w.drew.alloc (.cells ((cs.take (i*33)).toArray++Builtin.zeroCells z.cells (n+m-i)++Builtin.zeroCells z.cells (grownCap w (n+m) c 133-(n+m))) 133)):=λty=>by
  have h:=Lib.run_append_grow_zeros w 129 3 ty 133 i0 _ .i64 .i64 uS uI hi0 hz0 (some ⟨b,off,none⟩) i c (cs.take (i*33)) hold (n+m-i) Xd Xd Xd Xd (by rw[hzb];omega) (by rw[hzb,hik];exact growslice_fits hroom hbig);rw[hik] at h;rw[hkk];exact h
 obtain⟨G,hG⟩:∃G,G=grownCap w (n+m) c 133:=⟨_,rfl⟩
 obtain⟨ROW,hROW⟩:∃ROW:Array Value,ROW=(cs.take (i*33)).toArray++Builtin.zeroCells z.cells (n+m-i)++Builtin.zeroCells z.cells (G-(n+m)):=⟨_,rfl⟩
 rw[<-hG] at hrz;rw[<-hROW] at hrz;have hGn:n+m<=G:=by rw[hG];exact grownCap_ge w _ _ _
 have hRs:ROW.size=G*33:=by
  rw[hROW];simp only[Builtin.zeroCells,Array.size_append,Array.size_map,Array.size_range,hzc,List.size_toArray,List.length_take,hcl];omega
 have hRl:(n+m)*33<=ROW.size:=by rw[hRs];omega
 have hRt:∀j,j<i*33->ROW[j]? =cs[j]? :=λj hj=>by
  rw[hROW,Array.append_assoc,Array.getElem?_append_left (by simp only[List.size_toArray,List.length_take,hcl];omega)];simp only[List.getElem?_toArray,List.getElem?_take];rw[if_pos hj]
 obtain⟨W1,hW1⟩:∃W1,W1=w.drew.alloc (.cells ROW 133):=⟨_,rfl⟩
 rw[<-hW1] at hrz
 have hN:∀j,j<(n+m)*33->(W1.cell? ⟨w.heap.size,j,none⟩).isSome=true:=λj hj=>by
  rw[hW1,World.cell?_alloc_at (w:=w.drew) ROW _ w.heap.size j rfl,Array.getElem?_eq_getElem Xd];rfl
 have hNf:∀j,W1.frozen? ⟨w.heap.size,j,none⟩=false:=λj=>by rw[hW1];exact World.frozen?_alloc_at (w:=w.drew) ROW _ w.heap.size j rfl
 have hOb:∀j v,w.cell? ⟨b,j,none⟩=some v->W1.cell? ⟨b,j,none⟩=some v:=λj v h=>by rw[hW1,World.cell?_alloc_past (w:=w.drew) _ b j hbw];exact h
 have hOv:∀j v,w.cell? ⟨vb,j,none⟩=some v->W1.cell? ⟨vb,j,none⟩=some v:=λj v h=>by rw[hW1,World.cell?_alloc_past (w:=w.drew) _ vb j hvw];exact h
 have hcpA:∀(W:World),(∀x,W.cell? x=W1.cell? x) ->(∀x,W.frozen? x=W1.frozen? x) ->∀ty dc,(Builtin.copy_ #[129,129] ty #[.slice (some ⟨w.heap.size,i*33,none⟩) (n+m-i) dc,.slice (some ⟨vb,voff,none⟩) m vc]).run Tryz.prog W= .ok (goInt (Nat.min m (n+m-i))) (W.setCells w.heap.size (i*33) vs):=λW hWc hWf ty dc=>
  qIq W _ _ ty 133 w.heap.size (i*33) (n+m-i) dc ⟨vb,voff,none⟩ m vc 33 vs uS sZ Xy
   (λj v hj=>by rw[Addr.add_lit,hWc];exact hOv _ v (hvs j v hj))
   (λj hj=>by rw[hWc];exact hN _ Xd) (λj hj=>by rw[hWf];exact hNf _) h1v
 have hG63:G<=9223372036854775807:=by
  have:=grownCap_le_maxLen w (n+m) c 133 (by unfold maxLen;omega);rw[<-hG] at this;unfold maxLen at this;omega
 have hGi:¬(G=i):=by omega
 have hGim:¬(G=i+m):=by omega
 have hci:¬(c=i):=by omega
 have hbN:b≠w.heap.size:=by omega
 have hdl:(cs.drop (i*33)).length=(n-i)*33:=by rw[List.length_drop,hcl];omega
 have hcpB:∀(W:World),(∀x,W.cell? x=(W1.setCells w.heap.size (i*33) vs).cell? x) ->(∀x,W.frozen? x=(W1.setCells w.heap.size (i*33) vs).frozen? x) ->∀ty dc sc,(Builtin.copy_ #[129,129] ty #[.slice (some ⟨w.heap.size,(i+m)*33,none⟩) (n+m-(i+m)) dc,.slice (some ⟨b,off+i*33,none⟩) (n-i) sc]).run Tryz.prog W= .ok (goInt (Nat.min (n-i) (n+m-(i+m)))) (W.setCells w.heap.size ((i+m)*33) (cs.drop (i*33))):=λW hWc hWf ty dc sc=>
  qIq W _ _ ty 133 w.heap.size ((i+m)*33) (n+m-(i+m)) dc ⟨b,off+i*33,none⟩ (n-i) sc 33 (cs.drop (i*33)) uS sZ Qd
   (λj v hj=>by
    rw[Addr.add_lit,hWc,World.cell?_setCells_out _ _ _ _ _ (λh _=>absurd h hbN),Nat.add_assoc];exact hOb _ v (hcs (i*33+j) v (by rwa[List.getElem?_drop] at hj)))
   (λj hj=>by rw[hWc];exact qAq _ _ _ _ (λt ht=>hN _ Xd) _ (hN _ Xd))
   (λj hj=>by rw[hWf,World.frozen?_setCells];exact hNf _) (λv hv=>h1c v (List.mem_of_mem_drop hv))
 subst hW1;have hE1:∀x,((w.alloc (.cells ROW 133)).drew).cell? x=(w.drew.alloc (.cells ROW 133)).cell? x:=λx=>rfl
 have hE2:∀x,((w.alloc (.cells ROW 133)).drew).frozen? x=(w.drew.alloc (.cells ROW 133)).frozen? x:=λx=>rfl
 have hF1:∀x,(((w.alloc (.cells ROW 133)).drew.setCells w.heap.size (i*33) vs).drew).cell? x=((w.drew.alloc (.cells ROW 133)).setCells w.heap.size (i*33) vs).cell? x:=λx=>rfl
 have hF2:∀x,(((w.alloc (.cells ROW 133)).drew.setCells w.heap.size (i*33) vs).drew).frozen? x=((w.drew.alloc (.cells ROW 133)).setCells w.heap.size (i*33) vs).frozen? x:=λx=>rfl
 have hw1:IntKind.i64.wrap ((i:Int)+(m:Int))=(i:Int)+(m:Int):=by rw[IntKind.wrap_i64];omega
 have hw2:IntKind.i64.wrap ((n:Int)+(m:Int))=(n:Int)+(m:Int):=by rw[IntKind.wrap_i64];omega
 have hb1:(0:Int)<=(i:Int)+(m:Int):=by omega
 have hin:i<=n:=by omega
 have htn:((i:Int)+(m:Int)).toNat=i+m:=by omega
 have hb3:(i:Int)<=(n:Int):=by omega
 have hnt:Tryz.f241.ntmps=95:=by kernel_rfl
 clear hkk hik hold hROW hRl hG sZ bZ zZ hi0 hzs hzb hz0 hzc;go_enter Tryz.func241,hnt
 go_wp2_with (first
  |(at_builtin;refine Lib.wpList_append_run _ rfl _ _ _ _ rfl _ _ rfl rfl _ _ (hrz _) ?_)
  |(at_builtin;refine yGq _ rfl _ _ 129 129 rfl _ _ rfl rfl (hcpA _ hE1 hE2 _ _) ?_)
  |(at_builtin;refine yGq _ rfl _ _ 129 129 rfl _ _ rfl rfl (hcpB _ (λ_=>rfl) (λ_=>rfl) _ _ _) ?_))
 go_region_law_o (refine jaq rfl _ _ 129 129 rfl (.slice (some ⟨w.heap.size,(i+m)*33,none⟩) (n+m-(i+m)) (G-(i+m))) (.slice (some ⟨b,off+i*33,none⟩) (n-i) (c-i)) Ye Ye (hcpB _ hF1 hF2 3 (G-(i+m)) (c-i)) ?_)
 go_wp2
 go_ret
 exact⟨G,ROW,hGn,hG63,hRs,hRt,rfl,rfl⟩
theorem insF241:InsFn Tryz.prog 241 129 133 33 56:=⟨Go.Proofs.enters_of Tryz.func241 Xl rfl,ins241_shift,ins241_end,ins241_nil,ins241_grow⟩
theorem insOK241{C:Cfg}:jyq Tryz.prog C 241 (insV cfgB 129 133 33 56):=known_ins cfgBOK insF241 (j:=ti129) (k:=ti133) Xl rfl Xl rfl rfl
end
section
open Go.RowKit
section
variable {s0:World} {U:Nat} {D:Nat->Prop} {ρ:Env} {h:Heap} {w w':World}
theorem Rel.pushAt(r:Rel s0 U D ρ h w)(hU:h.next+1<=U){b:Blk}{o:Obj}{q pre cap:Nat}(hq:w.heap.size<=q)(g:Below w.heap.size w w')(hn:w'.heap[q]? =some o)(hin:InB (DD D ρ) b)(hk:KnB (ρ.add h.next q pre cap) h.next b o):
  Rel s0 U (λi=>D i\/i=h.next) (ρ.add h.next q pre cap) (h.push b) w'/\Nxt D ρ h w (λi=>D i\/i=h.next) (ρ.add h.next q pre cap) (h.push b) w':=by
 have hne:=r.next_new hU;have hag:Env.Agree (DD D ρ) ρ (ρ.add h.next q pre cap):=Env.add_agree hne;have hdd:∀j m,DD D ρ j m->DD (λi=>D i\/i=h.next) (ρ.add h.next q pre cap) j m:=λj m hj=>⟨.inl hj.1,by rw[(hag j m hj).2.2.1];exact hj.2⟩
 have hb:∀j,D j->(ρ.add h.next q pre cap).b j=ρ.b j:=λj hj=>(hag j 0 ⟨hj,Nat.zero_le _⟩).1
 have hbn:(ρ.add h.next q pre cap).b h.next=q:=by simp[Env.add]
 have get:∀j c,(D j\/j=h.next) ->(h.push b).get j=some c->(j=h.next/\c=b)\/(D j/\h.get j=some c):=λj c hj hc=>by
  rw[Heap.get_push] at hc;split at hc
  ·rename_i e;cases hc;exact .inl ⟨e,rfl⟩
  ·rename_i e;rcases hj with hj|hj
   ·exact .inr ⟨hj,hc⟩
   ·exact absurd hj e
 have hlt:∀j c,D j->h.get j=some c->ρ.b j<w.heap.size:=λj c hj hc=>by
  obtain⟨o,h1,_⟩:=r.has j c hj hc;exact(Array.getElem?_eq_some_iff.1 h1).1
 have hsz:s0.heap.size<=w.heap.size:=r.base.size;refine⟨⟨λj hj=>?_,λj hj=>?_,λj c hj hc=>?_,λj c hj hc=>?_,λj k c d hj hk' hc hd hoc hod hne'=>?_,λj c hj hc hoc=>?_,λj k c d hj hk' hc hd hoc hod=>?_,?_⟩,?_⟩
 ·show j<h.next+1\/_;rcases hj with hj|hj
  ·have:=r.lt j hj;omega
  ·omega
 ·have hj:h.next+1<=j:=hj;rw[Heap.get_push,if_neg Xd];exact r.wf j Xd
 ·rcases get j c hj hc with ⟨rfl,rfl⟩|⟨hj,hc⟩
  ·exact⟨o,by rw[hbn];exact hn,hk⟩
  ·obtain⟨o,h1,h2⟩:=r.has j c hj hc;exact⟨o,by rw[hb j hj,g.block _ (hlt j c hj hc)];exact h1,KnB.agree hag (m:=0) ⟨hj,Nat.zero_le _⟩ (r.clo j c hj hc) h2⟩
 ·rcases get j c hj hc with ⟨rfl,rfl⟩|⟨hj,hc⟩
  ·exact hin.mono hdd
  ·exact(r.clo j c hj hc).mono hdd
 ·rcases get j c hj hc with ⟨rfl,rfl⟩|⟨hj1,hc1⟩<;>rcases get k d hk' hd with ⟨rfl,rfl⟩|⟨hk1,hd1⟩
  ·exact absurd rfl hne'
  ·rw[hbn,hb k hk1];have:=hlt k d hk1 hd1;omega
  ·rw[hbn,hb j hj1];have:=hlt j c hj1 hc1;omega
  ·rw[hb j hj1,hb k hk1];exact r.inj j k c d hj1 hk1 hc1 hd1 hoc hod hne'
 ·rcases get j c hj hc with ⟨rfl,rfl⟩|⟨hj,hc⟩
  ·rw[hbn];omega
  ·rw[hb j hj];exact r.own j c hj hc hoc
 ·rcases get j c hj hc with ⟨rfl,rfl⟩|⟨hj1,hc1⟩<;>rcases get k d hk' hd with ⟨rfl,rfl⟩|⟨hk1,hd1⟩
  ·rw[hoc] at hod;cases hod
  ·rw[hbn,hb k hk1];have:=hlt k d hk1 hd1;omega
  ·rw[hbn,hb j hj1];have:=hlt j c hj1 hc1;omega
  ·rw[hb j hj1,hb k hk1];exact r.old j k c d hj1 hk1 hc1 hd1 hoc hod
 ·exact⟨g.os.trans r.base.os,g.tape.trans r.base.tape,g.output.trans r.base.output,Nat.le_trans hsz g.size,λk hk=>(g.block k Xd).trans (r.base.block k hk)⟩
 ·refine⟨λ_ h=>.inl h,λj hj=>?_,λj hj=>?_,λc hc _=>g.block c hc,λj hj hn' hl=>?_,g.size,Nat.le_refl _,Nat.le_succ _,g.os,g.tape,g.output⟩
  ·rcases hj with hj|hj
   ·exact .inl hj
   ·exact .inr ⟨Nat.le_of_eq hj.symm,by show j<h.next+1;omega⟩
  ·have:j≠h.next:=by
    rcases hj with hj|hj
    ·omega
    ·have hj:h.next+1<=j:=hj;omega
   simp[Env.add,this]
  ·have hl:j<h.next+1:=hl;obtain rfl:j=h.next:=by omega
   exact .inl (by rw[hbn];exact hq)
theorem byJ_spec(r:Rel s0 U D ρ h w){v:V}{l:List UInt8}(hin:InD (DD D ρ) v)(hk:byJ h v=some l):Lib.HoldsBytes w (conc ρ v) l:=by
 unfold byJ at hk;split at hk
 ·cases hk;exact⟨none,0,rfl,λ_=>rfl,λa h=>by cases h⟩
 ·rename_i b base off n lim;split at hk
  ·rename_i bv hv;split at hk
   ·rename_i L hL;obtain⟨g1,g2⟩:=vUq ρ hk;obtain⟨q1,_,_,_⟩:=yzq (ρ:=ρ) 50 bv off n 1 L hL;have hcells:=jCq r hin hv hL;rw[g2] at hcells;obtain rfl:n=l.length:=by omega
    exact⟨_,_,rfl,λh=>Yw,λa ha i x hx=>by cases ha;exact hcells i _ (by simp[hx])⟩
   ·cases hk
  ·cases hk
 ·cases hk
theorem bysJ_spec(r:Rel s0 U D ρ h w):∀{xs:List V} {ls:List (List UInt8)},InDL (DD D ρ) xs->bysJ h xs=some ls->xs.length=ls.length/\(∀(i:Nat) v l,(zJq ρ xs)[i]? =some v->ls[i]? =some l->Lib.HoldsBytes w v l)/\∀x∈xs,x.size=1/\x.leaf=true
 |[],ls,_,hk=>by cases hk;exact⟨rfl,λi v l h=>by simp[zJq] at h,λx hx=>by cases hx⟩
 | v ::xs,ls,hin,hk=>by
  unfold bysJ at hk;split at hk
  ·rename_i x r' hx hr;cases hk;obtain⟨h1,h2,h3⟩:=bysJ_spec r hin.2 hr;refine⟨congrArg (· +1) h1,λi u l hu hl=>?_,λy hy=>?_⟩
   ·cases i with
    |zero=>
     simp only[zJq,List.getElem?_cons_zero,Option.some.injEq] at hu hl;subst hu;subst hl
     exact byJ_spec r hin.1 hx
    |succ i=>
     simp only[zJq,List.getElem?_cons_succ] at hu hl;exact h2 i u l hu hl
   ·rcases List.mem_cons.1 hy with rfl|hy
    ·unfold byJ at hx;split at hx
     ·exact⟨rfl,rfl⟩
     ·exact⟨rfl,rfl⟩
     ·cases hx
    ·exact h3 y hy
  ·cases hk
theorem inl_of{D:Nat->Nat->Prop}:∀{l:List V},(∀x∈l,InD D x) ->InDL D l
 |[],_=>trivial
 |x::l,h=>⟨h x (List.mem_cons_self ..),inl_of λy hy=>h y (List.mem_cons_of_mem _ hy)⟩
theorem Qnq(ρ:Env):∀{xs:List V},(∀x∈xs,x.size=1/\x.leaf=true) ->zoq ρ 1 xs=zJq ρ xs
 |[],_=>rfl
 |x::xs,h=>by
  have hx:=(h x Xm).2;simp only[zoq,zJq,j4q hx,Qnq ρ (xs:=xs) λy hy=>h y (by simp[hy])];rw[yvq (by rfl)];rfl
theorem join_flat:∀ls:List (List UInt8),Lib.join ls []=ls.flatten
 |[]=>rfl
 |x::r=>by
  rw[Lib.join_cons];unfold Lib.joinTail;simp
end
theorem joinOK{C:Cfg}:jyq Tryz.prog C 198 Q6q:=λvs h v h' he=>by
 unfold Q6q at he;split at he
 ·rename_i b base off n lim y;split at he
  ·rename_i bv hv hy;split at he
   ·rename_i xs hxs;split at he
    ·rename_i ls hls;split at he
     ·rename_i hb;cases he;simp only[Bool.and_eq_true] at hb;obtain⟨⟨⟨hb1,hb2⟩,hb3⟩,hb4⟩:=hb;have hb1:=Nat.le_of_ble_eq_true hb1;have hb2:=Nat.le_of_ble_eq_true hb2;have hb3:=Nat.le_of_ble_eq_true hb3;have hb4:=Nat.le_of_ble_eq_true hb4;refine⟨yhq _ _,(fnsOK 198 _ (by rfl)).2.1,λs0 U D ρ w hU gl hin rel=>?_⟩;have hU:h.next+1<=U:=hU;have hx:=hin.1;have hyi:=hin.2.1;obtain⟨g1,g2,g3,g4⟩:=yzq (ρ:=ρ) 50 bv off n 1 xs hxs;obtain⟨_,_,_,_,_,_,_,hvin⟩:=rel.val hx.2.2.1 hv;have hxin:InDL (DD D ρ) xs:=g4 _ hvin;obtain⟨k1,k2,k3⟩:=bysJ_spec rel (inl_of (Jcq hxin)) hls;have hcells:=jCq rel hx hv hxs;rw[show zoq ρ 1 xs=zJq ρ (zXq 1 xs) by rw[<-Qnq ρ k3,j0q ρ 1 xs,vBq ρ _ (uUq 1 xs)]] at hcells;have hge:=jDq hx;have hc0:¬z3q ρ b off 1 lim=0:=by omega
      rw[if_neg hc0] at hcells;have hP:Lib.PartsAt w ⟨ρ.b b,ρ.pre b+off,none⟩ (zJq ρ (zXq 1 xs)) ls:=⟨by rw[y0q,k1],hcells,k2⟩;have hS:=byJ_spec rel hyi hy;have hfl:(zXq 1 xs).length=xs.length:=by rw[xkq,Nat.mul_one]
      have hlens:Lib.lens ls=ls.flatten.length:=by simp[Lib.lens,List.length_flatten]
      have cj:=joinMany (ρ.b b) (ρ.pre b+off) n (z3q ρ b off 1 lim) (zJq ρ (zXq 1 xs)) ls (conc ρ y) [] w Xd hb1 hP hge hS hb2 (by rw[hlens,List.length_nil,Nat.zero_mul,Nat.add_zero];exact hb4)
      have harg:(zJq ρ [.sl b base off n 1 lim,y]).toArray= #[.slice (some ⟨ρ.b b,ρ.pre b+off,none⟩) n (z3q ρ b off 1 lim),conc ρ y]:=by
       simp[zJq,conc,yeq,hc0]
      rw[harg];refine cj.mono ?_;rintro e w' ⟨v',rfl,hfresh,hbel⟩;rw[join_flat] at hfresh;clear hlens cj;generalize ls.flatten=F at hfresh hb3 hb4⊢;obtain⟨g,cap,zs,rfl,hg,hlc,hmax,hzl,hzr,hzb,hcell,hfrz⟩:=hfresh
      have hobj:∃cs ty fz,w'.heap[g]? =some (.cells cs ty fz):=by
       have:=hcell 0 Xd;simp only[World.cell?] at this;split at this
       ·rename_i cs ty fz hh;exact⟨_,_,_,hh⟩
       ·cases this
      obtain⟨cs,ty,fz,hobj⟩:=hobj
      have hcs:∀i,i<cap->cs[i]? =some (.int .u8 (zs.getD i 0)):=λi hi=>by
       have:=hcell i hi;simpa[World.cell?,hobj] using this
      have hval:∀i (hi:i<F.length),zs.getD i 0=(F[i].toNat:Int):=λi hi=>by
       have hz:i<zs.length:=by omega
       have h1:=congrArg (·[i]?) hzb;simp only[Go.Lib.bytesOf,List.getElem?_map,List.getElem?_take,hi,if_true,List.getElem?_eq_getElem hz,Option.map_some,List.getElem?_eq_getElem hi,Option.some.injEq] at h1;obtain⟨q1,q2⟩:=hzr zs[i] (List.getElem_mem hz);rw[<-h1];simp[List.getD,List.getElem?_eq_getElem hz];omega
      have hcells2:cs.toList=cellsV ρ (.arr F.length 1 (yNq F))++cs.toList.drop F.length:=by
       have e:cellsV ρ (.arr F.length 1 (yNq F))=F.map λb=>Value.int .u8 b.toNat:=by
        simp only[cellsV];rw[yvq (by rw[zIq];simp[yNq]),j5q]
       rw[e];apply List.ext_getElem?;intro i;by_cases hi:i<F.length
       ·rw[List.getElem?_append_left (by simpa using hi)];have:=hcs i Xd;rw[hval i hi] at this;simpa[List.getElem?_eq_getElem hi] using this
       ·rw[List.getElem?_append_right Xo,List.getElem?_drop];congr 1
        simp;omega
      have hinv:InD (DD D ρ) (.arr F.length 1 (yNq F)):=InDL_iff.2 λy hy=>by obtain⟨c,_,rfl⟩:=List.mem_map.1 hy;trivial
      have hag:Env.Agree (DD D ρ) ρ (ρ.add h.next g 0 cap):=Env.add_agree (rel.next_new hU)
      obtain⟨r',n'⟩:=rel.pushAt hU (q:=g) (pre:=0) (cap:=cap) (b:=.ro (.arr F.length 1 (yNq F))) hg hbel hobj hinv ⟨[],cs.toList.drop F.length,ty,fz,by
       rw[ywq hag hinv,List.nil_append,<-hcells2],by simp[Env.add],by simp[Env.add];exact hlc⟩
      refine⟨_,_,?_,r',n',by omega,Nat.le_refl _,.inr rfl,?_⟩
      ·have:¬cap=0:=by omega
       simp[conc,yeq,z3q,Env.add,this]
      ·simp[Env.add];exact hlc
     ·cases he
    ·cases he
   ·cases he
  ·cases he
 ·cases he
theorem known0OK(kfn:List V->Heap->Option (V×Heap))(ha:jyq Tryz.prog (cfgk kfn) 6 kfn):q6q Tryz.prog (cfgk kfn):=λf k hk=>by
 have hk:(match Nat.beq f 198 with|true=>some Q6q|false=>match Nat.beq f 241 with|true=>some (insV cfgB 129 133 33 56)|false=>match Nat.beq f 237 with|true=>some (insV cfgB 35 72 99 120)|false=>match Nat.beq f 6 with|true=>some kfn|false=>none)=some k:=hk;split at hk
 ·rename_i e;cases hk;have:=Nat.eq_of_beq_eq_true e;subst this;exact joinOK
 ·split at hk
  ·rename_i e;cases hk;have:=Nat.eq_of_beq_eq_true e;subst this;exact insOK241
  ·split at hk
   ·rename_i e;cases hk;have:=Nat.eq_of_beq_eq_true e;subst this;exact insOK237
   ·split at hk
    ·rename_i e;cases hk;have:=Nat.eq_of_beq_eq_true e;subst this;exact ha
    ·cases hk
section
section
variable {C:Cfg} {G:Nat->Option W} {o:Oper} {fr fr2:FrW} {hp:HpW} {nw:Nat} {R:Res} {post:W->HpW->Nat->Res->Option EvW->Prop}
theorem step_frzA(hf:subV (blkA hp) fr fr2)(h:Step C G o fr2 [] nw R λw hp' nw' R' ev=>ev=some .gen/\post w hp' nw' R' ev):Step C G o fr hp nw R post:=λΓ X frv hnw s f0=>by
 let Γ2:Ctx:=⟨Γ.nw,Γ.σ,λc=>Γ.D c\/Owns Γ hp c,Γ.h⟩
 have le:Γ.Le Γ2:=⟨Nat.le_refl _,λ_ _=>rfl,λ_ h=>.inl h,λ_ _=>rfl⟩
 have q:Seen (blkA hp) Γ Γ2:=⟨λ_ h _=>h,λ_ _ _=>rfl,λ_ h=>.inl h,λ_ _=>rfl,λb c _ h=>by
  unfold blkA at h;split at h
  ·rename_i ty c' hg;cases h;obtain⟨v,h1,h2,h3⟩:=qZq s hg;exact⟨.inr ⟨b,_,hg,rfl⟩,v,h2,h3⟩
  ·cases h⟩
 have s2:SatH C G Γ2 [] X R:=⟨s.wf,λk ty' w hk=>by simp[hget] at hk,λk k' x y hx=>by simp[hget] at hx,List.nodup_nil,λd hd hX=>by
  rcases hd with h|⟨b,x,h,rfl⟩
  ·exact s.dX d h hX
  ·exact(s.own b x.1 x.2 h).2.2.1 hX,s.xlt,λd hd=>by
  rcases hd with h|⟨b,x,h,rfl⟩
  ·exact s.dlt d h
  ·exact s.own_lt h,R.st _ _ _ _ _ s.res le.D le.val (λ_ _=>rfl) (Nat.le_refl _),s.gl.mono le⟩
 have a:Frm Γ.nw Γ hp X Γ2 [] X:=⟨λ_ _=>rfl,λh=>h,Nat.le_refl _,λ_ _ _ _=>rfl,λ_ h=>.inl h,λd hd=>by
  rcases hd with h|h
  ·exact .inl h
  ·exact .inr (.inl (.inl h)),λk x hk h=>by simp[hget] at h,λk x hk h=>by simp[hget] at h,λ_ h=>.inl h,λ_ h _ _=>h⟩
 obtain⟨n,w,hp',R',ev,v,h',Γ',X',⟨rfl,h1⟩,h2,⟨h3,h3'⟩,h4,h5,h6,h7,h8⟩:=h Γ2 X frv hnw s2 λt w hw=>by
  obtain⟨w0,g1,g2⟩:=xxq hf t w hw;obtain⟨u,g3,g4⟩:=f0 _ _ g1;exact⟨u,g3,jqq q g2 g4⟩
 exact⟨n,w,hp',R',_,v,h',Γ',X',h1,h2,⟨h3,h3'⟩,h4,⟨h5.nw,h5.σ,λc hc=>h5.D c (.inl hc),λc hc=>h5.val c (.inl hc)⟩,h6,a.trans h7,h8⟩
end
attribute [local irreducible] CoW OpW FlW Step Spec
variable {G:Nat->Option W}
theorem kUq(h:Hdr):PS cfg G 131 [hdW h] (.int .i64 (if okH h then 0 else 8)):=by
 refine gI 11 rfl (λR k0=>?_);refine gD 0 rfl (λh1=>?_) (λh1=>?_)
 ·exact gQ 25 rfl Xq
 ·refine gD 3 rfl (λh2=>?_) (λh2=>?_)
  ·exact gQ 21 rfl Xq
  ·refine gD 4 rfl (λh3=>?_) (λh3=>?_)
   ·exact gQ 16 rfl Xq
   ·refine gU 4 rfl ?_;refine gS 3 rfl (λh4=>?_) (λh4=>?_)
    ·exact gQ 7 rfl Xq
    ·exact gQ 8 rfl Xq
theorem hnumber_s(n size:Nat)(hs:1<=size)(hs8:size<=8)(hn:n<256^size)(hn2:n<9223372036854775808):PS cfg G 136 [.int .i64 (n:Int),.int .i64 (size:Int)] (bW (beB size n)):=by
 refine gIv 8 rfl (λR k0=>gA 0 rfl (n) (zdq 1 rfl ?_))
 (refine zUq rfl (y3q rfl rfl rfl rfl rfl rfl (put_s n size hs hs8 hn) ?_);rintro w hp1 nw1 ⟨rfl,rfl,rfl⟩)
 refine zsq 14 rfl ?_;have hp:purW (.arr (size*1) 1 (zcq (beB size n)))=true:=qJq _;exact jkq Qm rfl (.sl (full:=false) (c:=.arr (size*1) 1 (zcq (beB size n))) (xs:=zcq (beB size n)) (by show some (renW _ (W.arr (size*1) 1 (zcq (beB size n))))=_;rw[zwq hp]) hp (zAq Xg (by rw[zxq,k2q]) rfl) Xi)
theorem hjoin_s(ps:List (List UInt8))(f:Bool)(h2:2<=ps.length)(hn:ps.length<=140737488355328)(h1:1<=ps.flatten.length)(hb:ps.flatten.length<=140737488355328):PS cfg G 135 [.fz (ps.map bW) 1 f] (bW ps.flatten):=by
 exact gI 8 rfl (λR k0=>gC 0 rfl (join_w rfl ps f h2 hn h1 hb) (gQa 4 rfl))
def hdB(h:Hdr):List UInt8:=[beB 8 h.height.toNat,h.parent.1,h.state.1,h.rows.1,beB 4 h.many.toNat].flatten
theorem hdB_len(h:Hdr):(hdB h).length=108:=by simp[hdB,k2q,h.parent.2,h.state.2,h.rows.2]
theorem sub_dig(d:Dig)(i:Nat):(((zcq d.1).drop (0/1)).take 32)=zcq d.1:=by
 have h:(zcq d.1).length=32:=by rw[zxq,d.2]
 rw[show 0/1=0 from rfl,List.drop_zero,List.take_of_length_le (by rw[h];omega)]
theorem hd_sub(h:Hdr):yiq 50 (hdW h) 1 32 1=some (zcq h.parent.1)/\yiq 50 (hdW h) 33 32 1=some (zcq h.state.1)/\yiq 50 (hdW h) 65 32 1=some (zcq h.rows.1):=
 ⟨congrArg some (sub_dig h.parent 0),congrArg some (sub_dig h.state 0),congrArg some (sub_dig h.rows 0)⟩
theorem hbytes_no(h:Hdr)(hh:¬okH h):PS cfg G 62 [hdW h] (.tup [.nils,.int .i64 8]):=by
 exact gI 11 rfl (λR k0=>gC 0 rfl (zvq (w':=.int .i64 8) (kUq h) (by rw[if_neg hh])) (gQa 19 rfl))
theorem hbytes_s(h:Hdr)(hh:okH h):PS cfg G 62 [hdW h] (.tup [bW (hdB h),.int .i64 0]):=by
 obtain⟨h1,h2,h3,h4⟩:=hh;obtain⟨a,ha⟩:∃a:Nat,h.height=a:=⟨h.height.toNat,by omega⟩
 obtain⟨m,hm⟩:∃m:Nat,h.many=m:=⟨h.many.toNat,by omega⟩
 have ea:h.height.toNat=a:=by omega
 have em:h.many.toNat=m:=by omega
 have hl:=hdB_len h;have c1:=hnumber_s (G:=G) a 8 Xd Xd (by show a<18446744073709551616;omega) Xd;have c2:=hnumber_s (G:=G) m 4 Xd Xd (by show m<4294967296;omega) Xd;rw[<-ha] at c1;rw[<-hm] at c2;rw[<-ea] at c1;rw[<-em] at c2;have hj:=hjoin_s (G:=G) [beB 8 h.height.toNat,h.parent.1,h.state.1,h.rows.1,beB 4 h.many.toNat] false Xm Xm Yo Yo;rw[show [beB 8 h.height.toNat,h.parent.1,h.state.1,h.rows.1,beB 4 h.many.toNat].flatten=hdB h from rfl] at hj;refine gI 11 rfl (λR k0=>gC 0 rfl (zvq (w':=.int .i64 0) (kUq h) (by rw[if_pos ⟨h1,h2,h3,h4⟩])) (gC 16 rfl c1 (gC 8 rfl c2 ?_)));refine gSf 1 rfl (step_frzA (fr2:=[(22,.fz ([beB 8 h.height.toNat,h.parent.1,h.state.1,h.rows.1,beB 4 h.many.toNat].map bW) 1 false)]) ⟨⟨_,rfl,(.sl2 (full:=false) rfl (.arr (.cons (.pur Xm) (.cons (.sl (full:=false) (c:=hdW h) (xs:=zcq h.parent.1) rfl Xm (hd_sub h).1 Xi) (.cons (.sl (full:=false) (c:=hdW h) (xs:=zcq h.state.1) rfl Xm (hd_sub h).2.1 Xi) (.cons (.sl (full:=false) (c:=hdW h) (xs:=zcq h.rows.1) rfl Xm (hd_sub h).2.2 Xi) (.cons (.pur Xm) .nil)))))) rfl Xi)⟩,trivial⟩ (QIq rfl rfl rfl rfl rfl hj Xm Xm ⟨rfl,by first|rfl|kernel_rfl,?_⟩));exact gQa 5 rfl
noncomputable def hashD(h:Hdr):Dig:=tagD 6 [hdB h]
theorem hhash_no(h:Hdr)(hh:¬okH h):PS cfg G 19 [hdW h] (.tup [dW kkq,.int .i64 8]):=by
 exact gI 10 rfl (λR k0=>gC 0 rfl (hbytes_no h hh) (gV 17 rfl Jnq (gQa 7 rfl)))
theorem hhash_s(h:Hdr)(hh:okH h):PS cfg glK 19 [hdW h] (.tup [dW (hashD h),.int .i64 0]):=by
 have hl:=hdB_len h;refine gI 10 rfl (λR k0=>gC 0 rfl (hbytes_s h hh) (zdq 21 rfl ?_));refine uIq rfl rfl rfl rfl rfl (by(repeat (first|exact .nil|refine .cons ?_ ?_|(refine .sl rfl ?_ rfl Xi;first|rfl|(focus (simp;done)))|(refine yIq rfl ?_ rfl;first|rfl|(focus (simp;done)))|(refine .pur ?_;first|rfl|(focus (simp;done)))))) (tagof_s 6 [hdB h] false Xm (by simp[hl])) Xn Xn ?_;exact zsq 5 rfl (gQa 0 rfl)
end
section
attribute [local irreducible] CoW OpW FlW Step Spec
variable {G:Nat->Option W}
noncomputable def recW(r:Rec):W:=.agg 34 [.int .u8 (.ofNat r.kind.toNat),dW r.id,.int .i64 (r.code:Int)]
@[simp] theorem recW_pur(r:Rec):purW (recW r)=true:=by simp[recW]
def recB(r:Rec):List UInt8:=([r.kind]++r.id.1)++beB 2 r.code
end
section
attribute [local irreducible] CoW OpW FlW Step Spec
noncomputable def sumD:T->Dig
 |.nil=>tagD 0 []
 |.leaf k v=>tagD 1 [k.1,v]
 |.fork l r=>tagD 2 [(sumD l).1,(sumD r).1]
end
section
attribute [local irreducible] CoW OpW FlW Step Spec
variable {G:Nat->Option W}
def frontN(n:Nat):Nat:=2^(lenM (n-1) -1)
noncomputable def rootF:Nat->List (List UInt8) ->Dig
 |0,_=>tagD 0 []
 |n+1,ps=>match ps with
  |[]=>tagD 0 []
  |[p]=>tagD 7 [p]
  |p::q::r=>tagD 8 [(rootF n ((p::q::r).take (frontN (p::q::r).length))).1,(rootF n ((p::q::r).drop (frontN (p::q::r).length))).1]
noncomputable def rootD(ps:List (List UInt8)):Dig:=rootF 256 ps
end
section
theorem recs_pur(L:List Rec):purL (L.map recW)=true:=yjq (λr=>recW_pur r) L
attribute [local irreducible] CoW OpW FlW Step Spec
variable {G:Nat->Option W}
end
noncomputable def bodW(ds:List Depo)(xs:List Tx)(f g:Bool):W:=.agg 2 [.fz (ds.map pdW) 34 f,.fz (xs.map txW) 99 g]
@[simp] theorem bodW_pur(ds:List Depo)(xs:List Tx)(f g:Bool):purW (bodW ds xs f g)=true:=by
 have h1:purW (.fz (ds.map pdW) 34 f)=true:=yjq pdW_pur ds;have h2:purW (.fz (xs.map txW) 99 g)=true:=yjq jQq xs;show(purW (.fz (ds.map pdW) 34 f)&&(purW (.fz (xs.map txW) 99 g)&&true))=true;rw[h1,h2];rfl
@[simp] theorem pdl_pur(l:List Depo):purL (l.map pdW)=true:=yjq pdW_pur l
@[simp] theorem yOq(l:List Tx):purL (l.map txW)=true:=yjq jQq l
structure RcI where
 kind:UInt8
 id:Dig
 code:Int
noncomputable def rcW(r:RcI):W:=.agg 34 [.int .u8 (.ofNat r.kind.toNat),dW r.id,.int .i64 r.code]
@[simp] theorem rcW_pur(r:RcI):purW (rcW r)=true:=by simp[rcW]
@[simp] theorem rcl_pur(l:List RcI):purL (l.map rcW)=true:=yjq rcW_pur l
structure Lk where
 hdr:Hdr
 root:Int
 ds:List Depo
 xs:List Tx
 rs:List RcI
noncomputable def lkG(l:Lk):W:=.agg 102 [hdW l.hdr,.int .i64 l.root,bodW l.ds l.xs false false,.fz (l.rs.map rcW) 34 false]
@[simp] theorem lkG_pur(l:Lk):purW (lkG l)=true:=by
 have h:purW (.fz (l.rs.map rcW) 34 false)=true:=yjq rcW_pur l.rs;show(purW (hdW l.hdr)&&(true&&(purW (bodW l.ds l.xs false false)&&(purW (.fz (l.rs.map rcW) 34 false)&&true))))=true;rw[h,hdW_pur,bodW_pur];rfl
@[simp] theorem vrq(l:List Lk):purL (l.map lkG)=true:=yjq lkG_pur l
structure Ch where
 tree:Tree
 links:List Lk
noncomputable def chG(c:Ch):W:=.agg 3 [tW c.tree,.fz (c.links.map lkG) 102 false]
@[simp] theorem chG_pur(c:Ch):purW (chG c)=true:=by
 show(purW (tW c.tree)&&(purW (.fz (c.links.map lkG) 102 false)&&true))=true;rw[qVq,show purW (.fz (c.links.map lkG) 102 false)=true from vrq _];rfl
structure Vw where
 number:Int
 down:Bool
 final:Int
 ch:Ch
noncomputable def vwG(v:Vw):W:=.agg 6 [.int .i64 v.number,.bool v.down,.int .i64 v.final,chG v.ch]
@[simp] theorem vwG_pur(v:Vw):purW (vwG v)=true:=by
 show(true&&(true&&(true&&(purW (chG v.ch)&&true))))=true;rw[chG_pur];rfl
def BodyM(ds:List Depo)(xs:List Tx):Prop:=ds.length<=16/\xs.length<=16/\∀x∈xs,x.sign=jSq x
section
attribute [local irreducible] CoW OpW FlW Step Spec
def hdZ:Hdr:=⟨0,kkq,kkq,kkq,0⟩
end
section
noncomputable def wkF(t:Tree)(box:Dig)(L:List Rec):W:=.agg 35 [tW t,dW box,.fz (L.map recW) 34 false]
@[simp] theorem wkF_pur(t:Tree)(box:Dig)(L:List Rec):purW (wkF t box L)=true:=by
 show(purW (tW t)&&(purW (dW box)&&(purW (.fz (L.map recW) 34 false)&&true)))=true;rw[qVq,qWq,show purW (.fz (L.map recW) 34 false)=true from recs_pur L];rfl
attribute [local irreducible] CoW OpW FlW Step Spec
attribute [local simp] recs_pur
noncomputable def headD(p:Hdr)(t1:T)(L:List Rec):Hdr:=⟨p.height+1,hashD p,sumD t1,rootD (L.map recB),L.length⟩
end
end
section
open Go.RowKit Go.ChangeShapes Go.WideShapes
mutual
/-- cells of the memory at the start that hold what a value says -/
def HC(W0:World):W->List Value->Prop
 |.bool b,cs=>cs=[.bool b]
 |.int k n,cs=>cs=[.int k n]
 |.agg n l,cs=>cs.length=n/\HCL W0 l cs
 |.arr n e l,cs=>cs.length=n/\(∀x∈l,x.size=e)/\l.length*e=n/\HCL W0 l cs
 |.str x,cs=>cs=[.string ⟨⟨x⟩⟩]
 |.fz l e f,cs=>f=false/\((l=[]/\cs=[.slice none 0 0])\/(l=[]/\0<e/\∃(a:Addr) (bn:Nat) (cs':Array Value) (ty:TypeId) (fz:Nat×Nat),cs=[.slice (some a) 0 0]/\W0.heap[bn]? =some (.cells cs' ty fz))\/∃(a:Addr) (cap:Nat),cs=[.slice (some a) l.length cap]/\l.length<=cap/\a.spot=none/\0<e/\(∀x∈l,x.size=e)/\
   ∃(pre mid tail:List Value) (ty:TypeId) (fz:Nat×Nat),W0.heap[a.block]? =some (.cells (pre++(mid++tail)).toArray ty fz)/\pre.length=a.off/\HCL W0 l mid)
 |_,_=>False
def HCL(W0:World):List W->List Value->Prop
 |[],cs=>cs=[]
 |x::l,cs=>∃a b,cs=a++b/\HC W0 x a/\HCL W0 l b
end
theorem HC.len{W0:World}{w:W}{cs:List Value}(h:HC W0 w cs):cs.length=w.size:=by
 cases w<;>simp only[HC] at h<;>first
  |(subst h;rfl)
  |exact h.1
  |exact h.elim
  |(rcases h with ⟨_,⟨_,rfl⟩|⟨_,_,_,_,_,_,_,rfl,_⟩|⟨a,cap,rfl,_⟩⟩<;>rfl)
structure Start(W0:World)(h:Heap)(ρ:Env):Prop where
 wf:∀i,h.next<=i->h.get i=none
 ro:∀i b,h.get i=some b->∃v o,b= .ro v/\W0.heap[ρ.b i]? =some o/\KnB ρ i b o/\InB (DD (λi=>i<h.next) ρ) b
theorem Start.rel{W0:World}{h:Heap}{ρ:Env}(s:Start W0 h ρ){U:Nat}(hU:h.next<=U):Rel W0 U (λi=>i<h.next) ρ h W0:=by
 refine⟨λi hi=>.inl hi,s.wf,λi b _ hb=>?_,λi b _ hb=>?_,λi j b c _ _ hb _ ho=>?_,λi b _ hb ho=>?_,λi j b c _ _ _ hc _ ho=>?_,Below.refl _ _⟩
 ·obtain⟨v,o,rfl,h1,h2,h3⟩:=s.ro i b hb;exact⟨o,h1,h2⟩
 ·obtain⟨v,o,rfl,h1,h2,h3⟩:=s.ro i b hb;exact h3
 ·obtain⟨v,o,rfl,_⟩:=s.ro i b hb;cases ho
 ·obtain⟨v,o,rfl,_⟩:=s.ro i b hb;cases ho
 ·obtain⟨v,o,rfl,_⟩:=s.ro j c hc;cases ho
theorem law1{P:Program}{C:Cfg}{G:Nat->Option W}(hmx:P.follows .mixedOrders=true)(hC:CfgOK P C)(hF:vEq P C)(hK:q6q P C){f:FuncId}{ws:List W}(sp:PS C G f ws (.bool true)){W0:World}{h:Heap}{ρ:Env}{vs:List V}(s:Start W0 h ρ)
  (gl:GlobOK C (DD (λi=>i<h.next) ρ) ρ) (gr:GRel C G ⟨0,λi=>i,λi=>i<h.next,h⟩) (hin:InDL (DD (λi=>i<h.next) ρ) vs) (hv:RVL ⟨0,λi=>i,λi=>i<h.next,h⟩ ws vs):
  Calls P f (zJq ρ vs).toArray W0 λe w'=>e= .returned (.bool true)/\Below W0.heap.size W0 w':=by
 obtain⟨n,v,Γ',X',w,hp',R',g1,g2,g3,g4,g5,rfl⟩:=sp Res.none ⟨0,λi=>i,λi=>i<h.next,h⟩ (λ_=>False) vs rfl
  ⟨s.wf,λb ty w hb=>by simp[hget] at hb,λb b' x y hb=>by simp[hget] at hb,List.nodup_nil,λ_ _ h=>h,λ_ h=>h.elim,λ_ h=>h,trivial,gr⟩ hv
 refine(run_calls hmx hC hF hK g1 gl hin (s.rel g3.next)).mono λe w'=>?_
 rintro⟨D',ρ',rfl,hb,_⟩
 have hvb:v= .bool true:=by
  have:=g4.one rfl;simpa[RS] using this
 subst hvb;exact⟨rfl,hb⟩
end
section
open Go.RowKit
structure Later(h:Heap)(ρ:Env)(h':Heap)(ρ':Env):Prop where
 next:h.next<=h'.next
 get:∀i,i<h.next->h'.get i=h.get i
 env:∀i,i<h.next->ρ'.b i=ρ.b i/\ρ'.pre i=ρ.pre i/\ρ'.cap i=ρ.cap i/\ρ'.l i=ρ.l i
theorem Later.refl(h:Heap)(ρ:Env):Later h ρ h ρ:=⟨Nat.le_refl _,λ_ _=>rfl,λ_ _=>⟨rfl,rfl,rfl,rfl⟩⟩
theorem Later.trans{h1 h2 h3:Heap}{ρ1 ρ2 ρ3:Env}(a:Later h1 ρ1 h2 ρ2)(b:Later h2 ρ2 h3 ρ3):Later h1 ρ1 h3 ρ3:=
 ⟨Nat.le_trans a.next b.next,λi hi=>(b.get i (Nat.lt_of_lt_of_le hi a.next)).trans (a.get i hi),λi hi=>by
  obtain⟨p1,p2,p3,p4⟩:=a.env i hi;obtain⟨q1,q2,q3,q4⟩:=b.env i (Nat.lt_of_lt_of_le hi a.next);exact⟨q1.trans p1,q2.trans p2,q3.trans p3,q4.trans p4⟩⟩
noncomputable def ctx0(h:Heap):Ctx:=⟨0,λi=>i,λi=>i<h.next,h⟩
theorem Later.le{h h':Heap}{ρ ρ':Env}(a:Later h ρ h' ρ'):(ctx0 h).Le (ctx0 h'):=
 ⟨Nat.le_refl _,λ_ _=>rfl,λc hc=>Nat.lt_of_lt_of_le hc a.next,λc hc=>by
  show h'.val c=h.val c;unfold Heap.val;rw[a.get c hc]⟩
theorem Later.agree{h h':Heap}{ρ ρ':Env}(a:Later h ρ h' ρ'):Env.Agree (DD (λi=>i<h.next) ρ) ρ ρ':=λi m hi=>a.env i hi.1
def Env.more(ρ:Env)(n bn pre cap:Nat)(z:Option Addr):Env:=⟨λi=>if i=n then bn else ρ.b i,λi=>if i=n then pre else ρ.pre i,λi=>if i=n then cap else ρ.cap i,λi=>if i=n then(bn,z) else ρ.l i⟩
theorem vtq(h:Heap)(ρ:Env)(v:V)(bn pre cap:Nat)(z:Option Addr):Later h ρ (h.push (.ro v)) (ρ.more h.next bn pre cap z):=by
 refine⟨Nat.le_succ _,λi hi=>?_,λi hi=>?_⟩
 ·rw[Heap.get_push,if_neg Xd]
 ·have e:i≠h.next:=by omega
  simp only[Env.more,if_neg e,and_self]
theorem Start.push{W0:World}{h:Heap}{ρ:Env}(s:Start W0 h ρ)(z:Option Addr){v:V}{bn cap:Nat}{pre tail:List Value}{ty:TypeId}{fz:Nat×Nat}(ho:W0.heap[bn]? =some (.cells (pre++(cellsV ρ v++tail)).toArray ty fz))(hv:InD (DD (λi=>i<h.next) ρ) v)(hc:v.size<=cap):Start W0 (h.push (.ro v)) (ρ.more h.next bn pre.length cap z):=by
 have la:=vtq h ρ v bn pre.length cap z;have mono:∀i m,DD (λi=>i<h.next) ρ i m->DD (λi=>i<(h.push (.ro v)).next) (ρ.more h.next bn pre.length cap z) i m:=λi m hi=>⟨Nat.lt_of_lt_of_le hi.1 la.next,by rw[(la.env i hi.1).2.2.1];exact hi.2⟩
 refine⟨λi hi=>?_,λi b hb=>?_⟩
 ·have hi:h.next+1<=i:=hi;rw[Heap.get_push,if_neg Xd];exact s.wf i Xd
 ·rw[Heap.get_push] at hb;split at hb
  ·rename_i e;cases hb;subst e;refine⟨v,_,rfl,by simp only[Env.more,if_true];exact ho,⟨pre,tail,ty,fz,?_,by simp[Env.more],by simp only[Env.more,if_true];exact hc⟩,InD.mono mono hv⟩;rw[ywq la.agree hv]
  ·obtain⟨v',o,rfl,h1,h2,h3⟩:=s.ro i b hb;have hi:i<h.next:=Nat.lt_of_not_le λq=>by rw[s.wf i q] at hb;cases hb
   exact⟨v',o,rfl,by rw[(la.env i hi).1];exact h1,h2.agree la.agree (m:=0) ⟨hi,Nat.zero_le _⟩ h3,InB.mono mono h3⟩
theorem Start.ghost{W0:World}{h:Heap}{ρ:Env}(s:Start W0 h ρ){bn:Nat}{cs:Array Value}{ty:TypeId}{fz:Nat×Nat}(ho:W0.heap[bn]? =some (.cells cs ty fz))(a:Addr):Start W0 (h.push (.ro (.agg 0 []))) (ρ.more h.next bn 0 0 (some a)):=by
 refine Start.push s (some a) (v:=.agg 0 []) (pre:=[]) (tail:=cs.toList) (ty:=ty) (fz:=fz) ?_ trivial (Nat.le_refl _);rw[ho];simp[cellsV,fit]
structure Opnd(W0:World)(h:Heap)(ρ:Env)(cs:List Value)(s:List V)(h':Heap)(ρ':Env):Prop where
 la:Later h ρ h' ρ'
 st:Start W0 h' ρ'
 eq:cs=s.map (conc ρ')
 leaf:∀v∈s,v.leaf=true
 ind:InDL (DD (λi=>i<h'.next) ρ') s
theorem Later.dd{h h':Heap}{ρ ρ':Env}(a:Later h ρ h' ρ'):∀i m,DD (λi=>i<h.next) ρ i m->DD (λi=>i<h'.next) ρ' i m:=λi m hi=>⟨Nat.lt_of_lt_of_le hi.1 a.next,by rw[(a.env i hi.1).2.2.1];exact hi.2⟩
theorem Later.map{h h':Heap}{ρ ρ':Env}(a:Later h ρ h' ρ'){s:List V}(hs:InDL (DD (λi=>i<h.next) ρ) s):s.map (conc ρ')=s.map (conc ρ):=by
 rw[<-kiq,<-kiq,y5q a.agree hs]
theorem InDL_app{D:Nat->Nat->Prop}{a b:List V}(ha:InDL D a)(hb:InDL D b):InDL D (a++b):=InDL_iff.2 λv hv=>by
 rcases List.mem_append.1 hv with h|h
 ·exact InDL_iff.1 ha v h
 ·exact InDL_iff.1 hb v h
theorem Qoq{ρ:Env}:∀{s:List V},(∀v∈s,v.leaf=true) ->jnq ρ s=s.map (conc ρ)
 |[],_=>rfl
 |v::s,h=>by
  rw[jnq,j4q (h v (List.mem_cons_self ..)),Qoq (s:=s) λx hx=>h x (List.mem_cons_of_mem _ hx)];rfl
theorem Ypq{ρ:Env}{s:List V}(h:∀v∈s,v.leaf=true):cellsV ρ (.agg s.length s)=s.map (conc ρ):=by
 simp only[cellsV,Qoq h];exact yvq Xm
theorem Qaq{s:List V}(h:∀v∈s,v.leaf=true):zjq (.agg s.length s)=s:=Zeq (λx hx=>V.leaf_agg (h x hx)) rfl
theorem HCL.len{W0:World}:∀{l:List W} {cs:List Value},HCL W0 l cs->cs.length=sumW l
 |[],cs,h=>by simp only[HCL] at h;subst h;rfl
 |x::l,cs,h=>by
  simp only[HCL] at h;obtain⟨a,b,rfl,h1,h2⟩:=h;rw[List.length_append,HC.len h1,HCL.len h2];rfl
mutual
theorem open_w{W0:World}:∀(w:W) {cs:List Value} {h:Heap} {ρ:Env},HC W0 w cs->Start W0 h ρ->∃h' ρ' s,Opnd W0 h ρ cs s h' ρ'/\RS (ctx0 h') w s
 |.bool b,cs,h,ρ,hc,st=>by
  simp only[HC] at hc;subst hc
  exact⟨h,ρ,[.bool b],⟨Later.refl _ _,st,by simp[conc],by simp[V.leaf],⟨trivial,trivial⟩⟩,by simp[RS]⟩
 |.int k n,cs,h,ρ,hc,st=>by
  simp only[HC] at hc;subst hc
  exact⟨h,ρ,[.int k n],⟨Later.refl _ _,st,by simp[conc],by simp[V.leaf],⟨trivial,trivial⟩⟩,by simp[RS]⟩
 |.str x,cs,h,ρ,hc,st=>by
  simp only[HC] at hc;subst hc
  exact⟨h,ρ,[.str x],⟨Later.refl _ _,st,by simp[conc],by simp[V.leaf],⟨trivial,trivial⟩⟩,by simp[RS]⟩
 |.agg n l,cs,h,ρ,hc,st=>by
  simp only[HC] at hc;obtain⟨h',ρ',s,o,r⟩:=open_l l hc.2 st;exact⟨h',ρ',s,o,by simp only[RS];exact⟨by rw[<-hc.1,o.eq];simp,r⟩⟩
 |.arr n e l,cs,h,ρ,hc,st=>by
  simp only[HC] at hc;obtain⟨h',ρ',s,o,r⟩:=open_l l hc.2.2.2 st;exact⟨h',ρ',s,o,by simp only[RS];exact⟨by rw[<-hc.1,o.eq];simp,hc.2.1,r⟩⟩
 |.fz l e f,cs,h,ρ,hc,st=>by
  simp only[HC] at hc;obtain⟨rfl,⟨rfl,rfl⟩|⟨rfl,he,a,bn,cs',ty,fz,rfl,ho⟩|⟨a,cap,rfl,hle,hsp,he,hsz,pre,mid,tail,ty,fz,ho,hpre,hl⟩⟩:=hc
  ·exact⟨h,ρ,[.nils],⟨Later.refl _ _,st,by simp[conc],by simp[V.leaf],⟨trivial,trivial⟩⟩,by simp[RS]⟩
  ·have la:=vtq h ρ (.agg 0 []) bn 0 0 (some a);refine⟨_,_,[.sl h.next 1 0 0 e (some 0)],⟨la,st.ghost ho a,?_,by simp[V.leaf],⟨⟨he,Nat.le_refl _,Nat.lt_succ_self _,by simp⟩,trivial⟩⟩,?_⟩
   ·simp[conc,yeq,z3q,vcq,Env.more]
   ·simp only[RS];refine .inr ⟨h.next,1,0,some 0,.agg 0 [],rfl,λh=>Yw,Nat.lt_succ_self _,?_,rfl,by simp[V.size],by simp,?_⟩
    ·simp[ctx0,Heap.val,Heap.get_push]
    ·simp[RSL]
  ·obtain⟨h1,ρ1,s,o,r⟩:=open_l l hl st
   have hlen:s.length=l.length*e:=by
    have h1:=HCL.len hl;rw[kmq hsz,o.eq,List.length_map] at h1;exact h1
   have la:=vtq h1 ρ1 (.agg s.length s) a.block a.off (cap*e) none;have hcl:l.length*e<=cap*e:=Nat.mul_le_mul_right e hle
   have stp:Start W0 (h1.push (.ro (.agg s.length s))) (ρ1.more h1.next a.block a.off (cap*e) none):=by
    rw[<-hpre];refine o.st.push none (tail:=tail) (ty:=ty) (fz:=fz) ?_ o.ind (by show s.length<=cap*e;omega);rw[Ypq o.leaf,<-o.eq];exact ho
   refine⟨_,_,[.sl h1.next 0 0 l.length e (some cap)],⟨o.la.trans la,stp,?_,by simp[V.leaf],⟨⟨he,hle,Nat.lt_succ_self _,by simp[Env.more]⟩,trivial⟩⟩,?_⟩
   ·obtain⟨ab,ao,asp⟩:=a;simp only at hsp;subst hsp;by_cases hc0:cap=0
    ·subst hc0;simp[conc,yeq,z3q,Env.more]
    ·simp[conc,yeq,z3q,Env.more,hc0]
   ·simp only[RS];refine .inr ⟨h1.next,0,0,some cap,.agg s.length s,rfl,λh=>Yw,Nat.lt_succ_self _,?_,rfl,by simp only[V.size];omega,hsz,?_⟩
    ·simp[ctx0,Heap.val,Heap.get_push]
    ·rw[List.drop_zero,Qaq o.leaf,List.take_of_length_le Xd];exact RSL.mono la.le r
 |.undef,cs,h,ρ,hc,st=>by simp[HC] at hc
 |.nilp,cs,h,ρ,hc,st=>by simp[HC] at hc
 |.ptr _ _,cs,h,ρ,hc,st=>by simp[HC] at hc
 |.nils,cs,h,ρ,hc,st=>by simp[HC] at hc
 |.sl _ _ _ _ _ _,cs,h,ρ,hc,st=>by simp[HC] at hc
 |.fel _,cs,h,ρ,hc,st=>by simp[HC] at hc
 |.nilm,cs,h,ρ,hc,st=>by simp[HC] at hc
 |.fn _ _ _,cs,h,ρ,hc,st=>by simp[HC] at hc
 |.yield _,cs,h,ρ,hc,st=>by simp[HC] at hc
 |.nilf,cs,h,ρ,hc,st=>by simp[HC] at hc
 |.iface _ _,cs,h,ρ,hc,st=>by simp[HC] at hc
 |.nili,cs,h,ρ,hc,st=>by simp[HC] at hc
 |.tup _,cs,h,ρ,hc,st=>by simp[HC] at hc
theorem open_l{W0:World}:∀(l:List W) {cs:List Value} {h:Heap} {ρ:Env},HCL W0 l cs->Start W0 h ρ->∃h' ρ' s,Opnd W0 h ρ cs s h' ρ'/\RSL (ctx0 h') l s
 |[],cs,h,ρ,hc,st=>by
  simp only[HCL] at hc;subst hc
  exact⟨h,ρ,[],⟨Later.refl _ _,st,rfl,by simp,trivial⟩,by simp[RSL]⟩
 |x::l,cs,h,ρ,hc,st=>by
  simp only[HCL] at hc;obtain⟨a,b,rfl,h1,h2⟩:=hc;obtain⟨h1',ρ1,s1,o1,r1⟩:=open_w x h1 st;obtain⟨h2',ρ2,s2,o2,r2⟩:=open_l l h2 o1.st;refine⟨h2',ρ2,s1++s2,⟨o1.la.trans o2.la,o2.st,?_,?_,InDL_app (o1.ind.mono o2.la.dd) o2.ind⟩,yWq (RS.mono o2.la.le r1) r2⟩
  ·rw[List.map_append,o2.la.map o1.ind,<-o1.eq,<-o2.eq]
  ·intro v hv;rcases List.mem_append.1 hv with h|h
   ·exact o1.leaf v h
   ·exact o2.leaf v h
end
def HV(W0:World)(w:W)(v:Value):Prop:=match w.isAgg with
 |true=>∃cs,v= .agg cs.toArray/\HC W0 w cs
 |false=>HC W0 w [v]
def HVL(W0:World):List W->List Value->Prop
 |[],vs=>vs=[]
 |w::ws,vs=>∃v vs',vs=v::vs'/\HV W0 w v/\HVL W0 ws vs'
theorem open_v{W0:World}{w:W}{v:Value}{h:Heap}{ρ:Env}(hv:HV W0 w v)(st:Start W0 h ρ):∃h' ρ' x,Later h ρ h' ρ'/\Start W0 h' ρ'/\conc ρ' x=v/\InD (DD (λi=>i<h'.next) ρ') x/\RV (ctx0 h') w x:=by
 unfold HV at hv;split at hv
 ·rename_i ha;obtain⟨cs,rfl,hc⟩:=hv;obtain⟨h',ρ',s,o,r⟩:=open_w w hc st;refine⟨h',ρ',.agg s.length s,o.la,o.st,?_,o.ind,ha,by rw[Qaq o.leaf];exact r⟩;rw[qeq rfl,Ypq o.leaf,<-o.eq]
 ·rename_i ha;obtain⟨h',ρ',s,o,r⟩:=open_w w hv st;have hl:=congrArg List.length o.eq;simp only[List.length_cons,List.length_nil,List.length_map] at hl;match s,hl,o,r with
  |[x],_,o,r=>
   have e:=o.eq;simp only[List.map_cons,List.map_nil,List.cons.injEq,and_true] at e;exact⟨h',ρ',x,o.la,o.st,e.symm,o.ind.1,RV.of_one r ha (V.leaf_agg (o.leaf x Xm))⟩
theorem open_vs{W0:World}:∀{ws:List W} {vs:List Value} {h:Heap} {ρ:Env},HVL W0 ws vs->Start W0 h ρ->∃h' ρ' xs,Later h ρ h' ρ'/\Start W0 h' ρ'/\zJq ρ' xs=vs/\InDL (DD (λi=>i<h'.next) ρ') xs/\RVL (ctx0 h') ws xs
 |[],vs,h,ρ,hv,st=>by
  simp only[HVL] at hv;subst hv
  exact⟨h,ρ,[],Later.refl _ _,st,rfl,trivial,by simp[RVL]⟩
 |w::ws,vs,h,ρ,hv,st=>by
  simp only[HVL] at hv;obtain⟨v,vs',rfl,h1,h2⟩:=hv;obtain⟨ha,ρa,x,la,sa,ea,ia,ra⟩:=open_v h1 st;obtain⟨hb,ρb,xs,lb,sb,eb,ib,rb⟩:=open_vs h2 sa;refine⟨hb,ρb,x::xs,la.trans lb,sb,?_,⟨ia.mono lb.dd,ib⟩,?_⟩
  ·rw[zJq,eb,yyq lb.agree ia,ea]
  ·simp only[RVL];exact⟨x,xs,rfl,RV.mono lb.le ra,rb⟩
end
section
open Go.RowKit Go.ChangeShapes Go.WideShapes
inductive Sh where
 |bool
 |int (k:IntKind)
 |str
 |arr (n sz:Nat) (s:Sh)
 |st (n:Nat) (fs:List Sh)
 |sl (sz bz:Nat) (s:Sh)
def Sh.cells:Sh->Nat
 |.arr n sz _=>n*sz
 |.st n _=>n
 |_=>1
def Sh.agg:Sh->Bool
 |.arr _ _ _=>true
 |.st _ _=>true
 |_=>false
def shF(g:TypeId->Option Sh)(P:Program):List Field->Nat->Option (List Sh×Nat)
 |[],off=>some ([],off)
 |F::Fs,off=>match g F.type with
  |some s=>match Nat.beq F.offset off&&Nat.beq (P.cellsOf F.type) s.cells with
   |true=>match shF g P Fs (off+s.cells) with
    |some (l,n)=>some (s::l,n)
    |none=>none
   |false=>none
  |none=>none
def shOf(P:Program):Nat->TypeId->Option Sh
 |0,_=>none
 |d+1,t=>match P.underlying t with
  |some .bool=>some .bool
  |some (.int k)=>some (.int k)
  |some .string=>some .str
  |some (.array n e)=>match shOf P d e with
   |some s=>match Nat.beq (P.cellsOf e) s.cells&&Nat.beq (P.cellsOf t) (n*s.cells) with
    |true=>some (.arr n s.cells s)
    |false=>none
   |none=>none
  |some (.slice e)=>match shOf P d e with
   |some s=>match Nat.beq (P.cellsOf e) s.cells&&Nat.blt 0 s.cells with
    |true=>some (.sl s.cells (P.bytesOf e) s)
    |false=>none
   |none=>none
  |some (.struct F)=>match shF (shOf P d) P F.toList 0 with
   |some (l,n)=>match Nat.beq (P.cellsOf t) n with
    |true=>some (.st n l)
    |false=>none
   |none=>none
  |_=>none
mutual
/-- a value of that shape -/
def Fit:Sh->W->Prop
 |.bool,w=>∃b,w= .bool b
 |.int k,w=>∃n,w= .int k n/\(Lit.int k n).wf=true
 |.str,w=>∃x,w= .str x/\x.length<=reachBytes
 |.arr n sz s,w=>∃l,w= .arr (n*sz) sz l/\l.length=n/\∀x∈l,Fit s x
 |.st n fs,w=>∃l,w= .agg n l/\FitL fs l
 |.sl sz bz s,w=>∃l,w= .fz l sz false/\l.length*bz<=reachBytes/\∀x∈l,Fit s x
def FitL:List Sh->List W->Prop
 |[],l=>l=[]
 |s::fs,l=>∃x l',l=x::l'/\Fit s x/\FitL fs l'
end
theorem Fit.size{s:Sh}{w:W}(h:Fit s w):w.size=s.cells:=by
 cases s<;>simp only[Fit] at h
 case bool=>obtain⟨_,rfl⟩:=h;rfl
 case int=>obtain⟨_,rfl,_⟩:=h;rfl
 case str=>obtain⟨_,rfl,_⟩:=h;rfl
 all_goals (obtain⟨_,rfl,_⟩:=h;rfl)
theorem Fit.agg{s:Sh}{w:W}(h:Fit s w):w.isAgg=s.agg:=by
 cases s<;>simp only[Fit] at h
 case bool=>obtain⟨_,rfl⟩:=h;rfl
 case int=>obtain⟨_,rfl,_⟩:=h;rfl
 case str=>obtain⟨_,rfl,_⟩:=h;rfl
 all_goals (obtain⟨_,rfl,_⟩:=h;rfl)
def Ex0(W0:World):Prop:=∃(bn:Nat) (cs:Array Value) (ty:TypeId) (fz:Nat×Nat),W0.heap[bn]? =some (.cells cs ty fz)
theorem segs{W0:World}{s:Sh}{sz:Nat}:∀(n:Nat) (L:List Value),(∀i,i<n->∃w,Fit s w/\HC W0 w ((L.drop (i*sz)).take sz)) ->∃l:List W,l.length=n/\(∀x∈l,Fit s x)/\HCL W0 l (L.take (n*sz))
 |0,L,_=>⟨[],rfl,by simp,by simp[HCL]⟩
 |n+1,L,h=>by
  obtain⟨w,f,hc⟩:=h 0 Xd
  obtain⟨l,h1,h2,h3⟩:=segs n (L.drop sz) (λi hi=>by
   have:=h (i+1) Xd;rw[List.drop_drop,show sz+i*sz=(i+1)*sz by rw[Nat.add_mul];omega];exact this)
  refine⟨w::l,by simp[h1],?_,?_⟩
  ·intro x hx;rcases List.mem_cons.1 hx with rfl|hx
   ·exact f
   ·exact h2 x hx
  ·simp only[HCL];refine⟨L.take sz,(L.drop sz).take (n*sz),?_,by simpa using hc,h3⟩;rw[show(n+1)*sz=sz+n*sz by rw[Nat.add_mul];omega,List.take_add]
section
variable {H:Type} {enc:TypeId×Value->H} {P:Program} {W0:World}
theorem kqq{e:TypeId}:∀{l:List (DataW H)} {d:DataW H} {n:Nat},d∈l->n∈d.weights P e->n∈DataW.weightsAll P e l
 |[],_,_,h,_=>by simp at h
 |x::l,d,n,h,hn=>by
  rw[DataW.weightsAll];rcases List.mem_cons.1 h with rfl|h
  ·exact List.mem_append_left _ hn
  ·exact List.mem_append_right _ (kqq h hn)
abbrev Tr0(enc:TypeId×Value->H)(P:Program)(W0:World):=DataW.trod enc P W0 0 (λ_=>true) true
theorem fields{g:TypeId->Option Sh}{m:Nat}(ih:∀t sh,g t=some sh->∀cs x,Tr0 enc P W0 m t cs=some x->(∀n∈x.1.weights P t,n<=reachBytes) ->((∃a n c,Value.slice (some a) n c∈cs) ->Ex0 W0) ->∃w,Fit sh w/\HC W0 w cs)(cs:List Value)(hE:(∃a n c,Value.slice (some a) n c∈cs) ->Ex0 W0):
  ∀(Fs:List Field) (xs:List (DataW H×List MemPlace)) (off:Nat) (fs:List Sh) (n:Nat),shF g P Fs off=some (fs,n) ->xs.length=Fs.length->(∀(i:Nat) (f:Field),Fs[i]? =some f->Tr0 enc P W0 m f.type ((cs.drop f.offset).take (P.cellsOf f.type))=xs[i]?) ->
   (∀n∈DataW.weightsEach P (Fs.map (·.type)) (xs.map (·.1)),n<=reachBytes) ->∃l,FitL fs l/\HCL W0 l ((cs.drop off).take (n-off))/\off<=n
 |[],xs,off,fs,n,hs,hl,hx,hw=>by
  simp only[shF,Option.some.injEq,Prod.mk.injEq] at hs;obtain⟨rfl,rfl⟩:=hs;exact⟨[],by simp[FitL],by simp[HCL],Nat.le_refl _⟩
 |F::Fs,[],off,fs,n,hs,hl,hx,hw=>by simp at hl
 | F ::Fs,x::xs,off,fs,n,hs,hl,hx,hw=>by
  unfold shF at hs;split at hs
  ·rename_i s hg;split at hs
   ·rename_i hc;simp only[Bool.and_eq_true,Nat.beq_eq] at hc;split at hs
    ·rename_i l' n' hr;simp only[Option.some.injEq,Prod.mk.injEq] at hs;obtain⟨rfl,rfl⟩:=hs;simp only[List.map_cons,DataW.weightsEach] at hw
     obtain⟨l,k1,k2,k3⟩:=fields ih cs hE Fs xs (off+s.cells) l' n' hr (by simpa using hl) (λi f hf=>by
      have:=hx (i+1) f Qf;simpa using this) (λk hk=>hw k (List.mem_append_right _ hk))
     have h0:=hx 0 F rfl;simp only[List.getElem?_cons_zero] at h0;obtain⟨w,f1,f2⟩:=ih F.type s hg _ x h0 (λk hk=>hw k (List.mem_append_left _ hk)) (λ⟨a,n,c,hm⟩=>hE ⟨a,n,c,List.mem_of_mem_drop (List.mem_of_mem_take hm)⟩);rw[hc.1,hc.2] at f2;refine⟨w::l,⟨w,l,rfl,f1,k1⟩,?_,by omega⟩;simp only[HCL];refine⟨_,_,?_,f2,k2⟩;rw[show n'-off=s.cells+(n'-(off+s.cells)) by omega,List.take_add,List.drop_drop]
    ·cases hs
   ·cases hs
  ·cases hs
theorem uGq:∀(d:Nat) (t:TypeId) (sh:Sh),shOf P d t=some sh->∀(fuel:Nat) (cs:List Value) (x:DataW H×List MemPlace),Tr0 enc P W0 fuel t cs=some x->(∀n∈x.1.weights P t,n<=reachBytes) ->((∃a n c,Value.slice (some a) n c∈cs) ->Ex0 W0) ->∃w,Fit sh w/\HC W0 w cs
 |0,t,sh,hs=>by simp[shOf] at hs
 | d + 1, t,sh,hs=>λfuel cs x h hw hE=>by
  unfold shOf at hs;split at hs
  ·rename_i ht;cases hs;obtain⟨b,rfl,rfl⟩:=DataW.trod_bool ht h;exact⟨.bool b,⟨b,rfl⟩,by simp[HC]⟩
  ·rename_i k ht;cases hs;obtain⟨n,rfl,rfl,hwf⟩:=DataW.trod_int ht h;exact⟨.int k n,⟨n,rfl,hwf⟩,by simp[HC]⟩
  ·rename_i ht;cases hs;obtain⟨s,rfl,rfl,hsz⟩:=DataW.trod_string ht h;refine⟨.str s.data.toList,⟨_,rfl,?_⟩,?_⟩
   ·exact hw _ (by simp[DataW.weights])
   ·simp only[HC]
  ·rename_i n e ht;split at hs
   ·rename_i s he;split at hs
    ·rename_i hc;cases hs;simp only[Bool.and_eq_true,Nat.beq_eq] at hc;obtain⟨xs,m,rfl,rfl,hl,hxl,hx⟩:=DataW.trod_array ht h;rw[hc.1] at hx;have hw:∀k∈DataW.weightsAll P e (xs.map (·.1)),k<=reachBytes:=λk hk=>hw k (by simp only[DataW.weights,ht];exact hk)
     obtain⟨l,l1,l2,l3⟩:=segs (W0:=W0) (s:=s) (sz:=s.cells) n cs (λi hi=>by
      have h1:=hx i hi;have hlt:i<xs.length:=by omega
      rw[List.getElem?_eq_getElem hlt] at h1;exact uGq d e s he m _ _ h1 (λk hk=>hw k (kqq (List.mem_map_of_mem (List.getElem_mem hlt)) hk)) (λ⟨a,n,c,hm⟩=>hE ⟨a,n,c,List.mem_of_mem_drop (List.mem_of_mem_take hm)⟩))
     have hcl:cs.length=n*s.cells:=by rw[hl,hc.2]
     refine⟨.arr (n*s.cells) s.cells l,⟨l,rfl,l1,l2⟩,?_⟩;simp only[HC];refine⟨hcl,λx hx=>(l2 x hx).size,by rw[l1],?_⟩;rwa[List.take_of_length_le Xd] at l3
    ·cases hs
   ·cases hs
  ·rename_i e ht;split at hs
   ·rename_i s he;split at hs
    ·rename_i hc;cases hs;simp only[Bool.and_eq_true,Nat.beq_eq] at hc;obtain⟨hce,hpos⟩:=hc;have hpos:0<s.cells:=blt_t hpos;rcases DataW.trod_slice ht h with ⟨rfl,rfl⟩|⟨a,len,cap,elems,rest,n,rfl,rfl,rfl,hb,hl,hm,hlen,hel,hsp,_⟩
     ·exact⟨.fz [] s.cells false,⟨[],rfl,by simp,by simp⟩,by unfold HC;exact⟨rfl,.inl ⟨rfl,rfl⟩⟩⟩
     ·by_cases hc0:cap=0
      ·subst hc0;obtain rfl:len=0:=by omega
       obtain⟨bn,cs',ty,fz,ho⟩:=hE ⟨a,0,0,by simp⟩;exact⟨.fz [] s.cells false,⟨[],rfl,by simp,by simp⟩,by unfold HC;exact⟨rfl,.inr (.inl ⟨rfl,hpos,a,bn,cs',ty,fz,rfl,ho⟩)⟩⟩
      ·obtain⟨hrl,hr⟩:=hsp rfl;rw[hce] at hel hr
       have each:∀i,i<cap->∃csi y,W0.cells? 0 (a.add (i*s.cells)) s.cells=some csi/\Tr0 enc P W0 n e csi=some y/\(i<len->elems[i]? =some y):=λi hi=>by
        by_cases h1:i<len
        ·have h2:=hel i h1;have hlt:i<elems.length:=by omega
         rw[List.getElem?_eq_getElem hlt,Option.bind_eq_some_iff] at h2;obtain⟨csi,q1,q2⟩:=h2;exact⟨csi,_,q1,q2,λ_=>List.getElem?_eq_getElem hlt⟩
        ·have h2:=hr (i-len) Xd;have hlt:i-len<rest.length:=by omega
         rw[List.getElem?_eq_getElem hlt,Option.bind_eq_some_iff,show len+(i-len)=i by omega] at h2;obtain⟨csi,q1,q2⟩:=h2;exact⟨csi,_,q1,q2,λh=>absurd h h1⟩
       --the block
       obtain⟨cs0,y0,e0,_,_⟩:=each 0 Xd;obtain⟨_,l0,c0⟩:=World.cells?_some e0;have c1:=c0 0 hpos;rw[Nat.zero_mul] at c1;have ha0:(a.add 0).add 0=a:=by simp[Addr.add]
       rw[ha0,List.getElem?_eq_getElem Xd] at c1;obtain⟨ab,ao,asp⟩:=a;unfold World.cell? at c1;split at c1
       ·rename_i cs' ty fz ho;simp only at ho c1;split at c1
        ·cases c1
        ·rename_i hsp0;have hsp0:asp=none:=by simpa using hsp0
         subst hsp0;obtain⟨L,hL⟩:∃L,L=cs'.toList.drop ao:=⟨_,rfl⟩
         have seg:∀i,i<cap->∀csi,W0.cells? 0 (Addr.add ⟨ab,ao,none⟩ (i*s.cells)) s.cells=some csi->csi=(L.drop (i*s.cells)).take s.cells:=λi hi csi hcs=>by
          obtain⟨_,q1,q2⟩:=World.cells?_some hcs;apply List.ext_getElem?;intro k;by_cases hk:k<s.cells
          ·have:=q2 k hk;rw[jcq,jcq] at this;simp only[World.cell?,ho] at this;rw[<-this,List.getElem?_take_of_lt hk,List.getElem?_drop,hL,List.getElem?_drop,Array.getElem?_toList,Nat.add_assoc];simp
          ·rw[List.getElem?_eq_none Xd,List.getElem?_eq_none Xo]
         have hLlen:cap*s.cells<=L.length:=by
          obtain⟨csi,y,q1,_,_⟩:=each (cap-1) Xd;obtain⟨_,q2,_⟩:=World.cells?_some q1;have q3:=seg (cap-1) Xd csi q1;have q4:=congrArg List.length q3;rw[q2,List.length_take,List.length_drop] at q4
          have:cap*s.cells=(cap-1)*s.cells+s.cells:=by
           have:=Nat.add_mul (cap-1) 1 s.cells;rw[show cap-1+1=cap by omega] at this;omega
          omega
         have hw2:∀k∈DataW.weightsAll P e (elems.map (·.1)),k<=reachBytes:=λk hk=>hw k (by simp only[DataW.weights,ht];exact List.mem_cons_of_mem _ (List.mem_append_left _ hk))
         have hw1:(elems.length+rest.length)*P.bytesOf e<=reachBytes:=hw _ (by simp only[DataW.weights,ht,List.length_map];exact List.mem_cons_self ..)
         obtain⟨l,l1,l2,l3⟩:=segs (W0:=W0) (s:=s) (sz:=s.cells) len L (λi hi=>by
          obtain⟨csi,y,q1,q2,q3⟩:=each i Xd;rw[seg i Xd csi q1] at q2;exact uGq d e s he n _ _ q2 (λk hk=>hw2 k (kqq (List.mem_map_of_mem (List.mem_of_getElem? (q3 hi))) hk)) (λ_=>⟨ab,cs',ty,fz,ho⟩))
         have hlc:len*s.cells<=cap*s.cells:=Nat.mul_le_mul_right _ hl;refine⟨.fz l s.cells false,⟨l,rfl,?_,l2⟩,?_⟩
         ·rw[l1];refine Nat.le_trans (Nat.mul_le_mul_right _ ?_) hw1;omega
         ·unfold HC;refine⟨rfl,.inr (.inr ⟨⟨ab,ao,none⟩,cap,by rw[l1],by omega,rfl,hpos,λx hx=>(l2 x hx).size,cs'.toList.take ao,L.take (len*s.cells),L.drop (len*s.cells),ty,fz,?_,?_,l3⟩)⟩
          ·rw[List.take_append_drop,hL,List.take_append_drop,Array.toArray_toList];exact ho
          ·have hq:(cs'.toList.take ao).length=min ao cs'.toList.length:=List.length_take;have:=congrArg List.length hL;rw[List.length_drop] at this;have h2:0<cap*s.cells:=Nat.mul_pos Xd hpos;show(cs'.toList.take ao).length=ao;omega
       ·cases c1
    ·cases hs
   ·cases hs
  ·rename_i F ht;split at hs
   ·rename_i fs n hF;split at hs
    ·rename_i hc;cases hs;have hc:=Nat.eq_of_beq_eq_true hc;obtain⟨xs,m,rfl,rfl,hl,hxl,hx⟩:=DataW.trod_struct ht h;obtain⟨l,k1,k2,k3⟩:=fields (enc:=enc) (λt sh hs cs x h1 h2 h3=>uGq d t sh hs m cs x h1 h2 h3) cs hE F.toList xs 0 fs n hF (by simpa using hxl) (λi f hf=>hx i f Qf) (λk hk=>hw k (by simp only[DataW.weights,ht];exact hk));have hcl:cs.length=n:=by rw[hl,hc]
     refine⟨.agg n l,⟨l,rfl,k1⟩,?_⟩;simp only[HC];refine⟨hcl,?_⟩;rwa[List.drop_zero,Nat.sub_zero,List.take_of_length_le Xd] at k2
    ·cases hs
   ·cases hs
  ·cases hs
theorem shape_ex{b:Nat}{x:TypeId×Nat}(h:W0.shape? b=some x):Ex0 W0:=by
 unfold World.shape? at h;split at h
 ·rename_i cs ty fz ho;exact⟨b,cs,ty,fz,ho⟩
 ·cases h
theorem cell_ex{r:Reach}{base:Nat}{u:TypeId}{a:Addr}{n c:Nat}(h:Cell.okWide P W0 r base u (.slice (some a) n c)):Ex0 W0:=by
 unfold Cell.okWide at h;split at h
 all_goals first
  |(rename_i he;cases he;done)
  |skip
 unfold Cell.ok at h;split at h
 all_goals first
  |exact h.elim
  |(rename_i he;cases he;done)
  |skip
 rename_i he;cases he;obtain⟨_,_,row,cells,hs,_⟩:=h.2.2;exact shape_ex hs
theorem cell_one{r:Reach}{base:Nat}{u:TypeId}{v:Value}(h:Cell.okWide P W0 r base u v):v.cells= #[v]:=by
 cases v<;>first
  |rfl
  | (exfalso
     unfold Cell.okWide at h;split at h
     all_goals first
      |(rename_i he;cases he;done)
      |skip
     unfold Cell.ok at h;split at h
     all_goals first
      |exact h.elim
      |(rename_i he;cases he;done))
theorem row_ex{r:Reach}{base:Nat}{t:TypeId}{cs:Array Value}(h:Row.okWide P W0 r base t cs){a:Addr}{n c:Nat}(hm:Value.slice (some a) n c∈cs.toList):Ex0 W0:=by
 obtain⟨ts,_,_,hc⟩:=h;obtain⟨i,hi⟩:=List.getElem?_of_mem hm;obtain⟨u,_,hu⟩:=hc i _ (by simpa using hi);exact cell_ex hu
theorem ok_agg{r:Reach}{base d:Nat}{t:TypeId}{sh:Sh}{v:Value}(hs:shOf P d t=some sh)(hv:Value.okWide P W0 r base t v):match sh.agg with
  |true=>∃cs:Array Value,v= .agg cs/\Row.okWide P W0 r base t cs
  |false=>Cell.okWide P W0 r base t v:=by
 cases d with
 |zero=>simp[shOf] at hs
 |succ d=>
  unfold shOf at hs;unfold Value.okWide at hv;split at hs
  ·rename_i ht;cases hs;rw[ht] at hv;exact hv
  ·rename_i k ht;cases hs;rw[ht] at hv;exact hv
  ·rename_i ht;cases hs;rw[ht] at hv;exact hv
  ·rename_i n e ht;rw[ht] at hv;obtain⟨cs,rfl,_,hr⟩:=hv;split at hs
   ·split at hs
    ·cases hs;exact⟨cs,rfl,hr⟩
    ·cases hs
   ·cases hs
  ·rename_i e ht;rw[ht] at hv;split at hs
   ·split at hs
    ·cases hs;exact hv
    ·cases hs
   ·cases hs
  ·rename_i F ht;rw[ht] at hv;obtain⟨cs,rfl,_,hr⟩:=hv;split at hs
   ·split at hs
    ·cases hs;exact⟨cs,rfl,hr⟩
    ·cases hs
   ·cases hs
  ·cases hs
theorem open_arg{r:Reach}{base d:Nat}{t:TypeId}{sh:Sh}{v:Value}{x:DataW H}{p:List MemPlace}(hs:shOf P d t=some sh)(hv:Value.okWide P W0 r base t v)(hd:DataW.Trod enc P W0 0 (λ_=>true) true t v x p)(hw:∀n∈x.weights P t,n<=reachBytes):∃w,Fit sh w/\HV W0 w v:=by
 obtain⟨fuel,hf⟩:=hd;have hk:=ok_agg hs hv
 obtain⟨w,f,hc⟩:=uGq d t sh hs fuel _ _ hf hw (λ⟨a,n,c,hm⟩=>by
  split at hk
  ·obtain⟨cs,rfl,hr⟩:=hk;exact row_ex hr hm
  ·rw[cell_one hk] at hm;simp only[List.mem_cons,List.not_mem_nil,or_false] at hm;rw[<-hm] at hk;exact cell_ex hk)
 refine⟨w,f,?_⟩;unfold HV;rw[f.agg];generalize sh.agg=ag at hk;cases ag with
 |true=>
  obtain⟨cs,rfl,hr⟩:=hk;exact⟨cs.toList,by simp,hc⟩
 |false=>
  have hk:Cell.okWide P W0 r base t v:=hk;rw[cell_one hk] at hc;exact hc
def shAll(P:Program)(d:Nat):List TypeId->Option (List Sh)
 |[]=>some []
 |t::ts=>match shOf P d t,shAll P d ts with
  |some s,some l=>some (s::l)
  |_,_=>none
theorem open_all{r:Reach}{base d:Nat}:∀{ts:List TypeId} {shs:List Sh} {vs:List Value} {xs:List (DataW H)} {p:List MemPlace},shAll P d ts=some shs->(∀(j:Nat) t v,ts[j]? =some t->vs[j]? =some v->Value.okWide P W0 r base t v) ->
  DataW.TrodAll enc P W0 0 (λ_=>true) true ts vs xs p->(∀n∈DataW.weightsEach P ts xs,n<=reachBytes) ->∃ws,FitL shs ws/\HVL W0 ws vs
 |[],shs,vs,xs,p,hs,hv,hd,hw=>by
  obtain⟨rfl,rfl,rfl⟩:=trodAll_nil hd;simp only[shAll,Option.some.injEq] at hs;subst hs;exact⟨[],by simp[FitL],by simp[HVL]⟩
 |t::ts,shs,vs,xs,p,hs,hv,hd,hw=>by
  obtain⟨v,vs',x,xs',p',q,rfl,rfl,rfl,h1,h2⟩:=trodAll_cons hd;simp only[shAll] at hs;split at hs
  ·rename_i s l e1 e2;cases hs;simp only[DataW.weightsEach] at hw;obtain⟨w,f,k⟩:=open_arg e1 (hv 0 t v rfl rfl) h1 (λn hn=>hw n (List.mem_append_left _ hn));obtain⟨ws,fs,ks⟩:=open_all e2 (λj t v h3 h4=>hv (j+1) t v (by simpa using h3) (by simpa using h4)) h2 (λn hn=>hw n (List.mem_append_right _ hn));exact⟨w::ws,⟨w,ws,rfl,f,fs⟩,⟨v,vs',rfl,k,ks⟩⟩
  ·cases hs
def rowedAll(P:Program):List TypeId->Bool
 |[]=>true
 |t::ts=>P.readableRec t&&Nat.blt t P.types.size&&rowedAll P ts
theorem Below.trodAll(hl:laidOutB P=true){W W':World}(hb:Below W.heap.size W W'):∀{ts:List TypeId} {vs:List Value} {xs:List (DataW H)} {p:List MemPlace},rowedAll P ts=true->DataW.TrodAll enc P W 0 (λ_=>true) true ts vs xs p->DataW.TrodAll enc P W' 0 (λb=>decide (b<W.heap.size)) true ts vs xs p
 |[],vs,xs,p,hr,h=>by
  obtain⟨rfl,rfl,rfl⟩:=trodAll_nil h;exact trodAll_mk0
 |t::ts,vs,xs,p,hr,h=>by
  simp only[rowedAll,Bool.and_eq_true] at hr;obtain⟨v,vs',x,xs',p',q,rfl,rfl,rfl,h1,h2⟩:=trodAll_cons h;refine trodAll_cons_mk (Below.trod hl hr.1.1 (blt_t hr.1.2) h1 hb ?_) (Below.trodAll hl hb hr.2 h2);obtain⟨m,hm⟩:=h1;exact DataW.trod_lt m _ _ _ hm
end
theorem Later.glob{C:Cfg}{h h':Heap}{ρ ρ':Env}(la:Later h ρ h' ρ')(gl:GlobOK C (DD (λi=>i<h.next) ρ) ρ):GlobOK C (DD (λi=>i<h'.next) ρ') ρ':=λg hg=>by
 obtain⟨h1,h2,h3⟩:=gl g hg;obtain⟨e1,e2,_,_⟩:=la.env g h1.1;exact⟨la.dd _ _ h1,by rw[e1];exact h2,by rw[e2];exact h3⟩
theorem Later.grel{C:Cfg}{G:Nat->Option W}{h h':Heap}{ρ ρ':Env}(la:Later h ρ h' ρ')(gr:GRel C G (ctx0 h)):GRel C G (ctx0 h'):=λg w hg hw nw σ=>
 RV.mono (Γ:=⟨nw,σ,(ctx0 h).D,(ctx0 h).h⟩) (Γ':=⟨nw,σ,(ctx0 h').D,(ctx0 h').h⟩) ⟨Nat.le_refl _,λ_ _=>rfl,la.le.D,la.le.val⟩ (gr g w hg hw nw σ)
theorem calls_of{P:Program}{C:Cfg}{G:Nat->Option W}(hmx:P.follows .mixedOrders=true)(hC:CfgOK P C)(hF:vEq P C)(hK:q6q P C){f:FuncId}{shs:List Sh}(ps:∀ws,FitL shs ws->PS C G f ws (.bool true)){W0:World}{h:Heap}{ρ:Env}(s:Start W0 h ρ)
  (gl:GlobOK C (DD (λi=>i<h.next) ρ) ρ) (gr:GRel C G (ctx0 h)) {vs:List Value} (hv:∃ws,FitL shs ws/\HVL W0 ws vs):
  Calls P f vs.toArray W0 λe w'=>e= .returned (.bool true)/\Below W0.heap.size W0 w':=by
 obtain⟨ws,f1,hv⟩:=hv;obtain⟨h',ρ',xs,la,st,rfl,i,r⟩:=open_vs hv s;exact law1 hmx hC hF hK (ps ws f1) st (la.glob gl) (la.grel gr) i r
mutual
def zCells:Sh->List Value
 |.bool=>[.bool false]
 |.int k=>[.int k 0]
 |.str=>[.string ⟨#[]⟩]
 |.arr n _ s=>(List.replicate n (zCells s)).flatten
 |.st _ fs=>zCellsL fs
 |.sl _ _ _=>[.slice none 0 0]
def zCellsL:List Sh->List Value
 |[]=>[]
 |s::l=>zCells s++zCellsL l
end
def zVal(s:Sh):Value:=match s.agg,zCells s with
 |true,l=>.agg l.toArray
 |false,v::_=>v
 |false,[]=>.bool false
end
section
open Go.RowKit
theorem Jdq{α:Type}{f:α->W}{Q:α->Prop}:∀{l:List W},(∀x∈l,∃a,x=f a/\Q a) ->∃ys:List α,l=ys.map f/\∀a∈ys,Q a
 |[],_=>⟨[],rfl,by simp⟩
 |x::l,h=>by
  obtain⟨a,rfl,ha⟩:=h x (List.mem_cons_self ..);obtain⟨ys,rfl,hs⟩:=Jdq (l:=l) λy hy=>h y (List.mem_cons_of_mem _ hy)
  exact⟨a::ys,rfl,λb hb=>by
   rcases List.mem_cons.1 hb with rfl|hb
   ·exact ha
   ·exact hs b hb⟩
theorem fit_u8{w:W}(h:Fit (.int .u8) w):∃c:UInt8,w= .int .u8 (.ofNat c.toNat)/\True:=by
 obtain⟨n,rfl,hw⟩:=h
 have hb:0<=n/\n<=255:=by
  simp[Lit.wf,IntKind.min,IntKind.max,IntKind.signed,IntKind.bits] at hw;omega
 refine⟨UInt8.ofNat n.toNat,?_,trivial⟩;congr 1
 have:(UInt8.ofNat n.toNat).toNat=n.toNat:=by simp;omega
 rw[this];show n=((n.toNat:Nat):Int);omega
theorem vxq{w:W}(h:Fit (.int .u64) w):∃n:Nat,w= .int .u64 (n:Int)/\n<18446744073709551616:=by
 obtain⟨n,rfl,hw⟩:=h
 have hb:0<=n/\n<=18446744073709551615:=by
  simp[Lit.wf,IntKind.min,IntKind.max,IntKind.signed,IntKind.bits] at hw;omega
 exact⟨n.toNat,by congr 1;omega,by omega⟩
theorem y4q{w:W}(h:Fit (.int .i64) w):∃n:Int,w= .int .i64 n/\-9223372036854775808<=n/\n<=9223372036854775807:=by
 obtain⟨n,rfl,hw⟩:=h
 have hb:-9223372036854775808<=n/\n<=9223372036854775807:=by
  simp[Lit.wf,IntKind.min,IntKind.max,IntKind.signed,IntKind.bits] at hw;omega
 exact⟨n,rfl,hb⟩
theorem uVq{w:W}(h:Fit .bool w):∃b,w= .bool b:=h
theorem fit_bytes{l:List W}(h:∀x∈l,Fit (.int .u8) x):∃bs:List UInt8,l=zcq bs:=by
 obtain⟨bs,rfl,_⟩:=Jdq (f:=λc:UInt8=>W.int .u8 (.ofNat c.toNat)) (Q:=λ_=>True) λx hx=>fit_u8 (h x hx)
 exact⟨bs,rfl⟩
theorem j1q{w:W}(h:Fit (.arr 32 1 (.int .u8)) w):∃k:Dig,w=dW k:=by
 obtain⟨l,rfl,hl,hx⟩:=h;obtain⟨bs,rfl⟩:=fit_bytes hx;exact⟨⟨bs,by simpa[zcq] using hl⟩,rfl⟩
theorem fit_bW{bz:Nat}{w:W}(h:Fit (.sl 1 bz (.int .u8)) w):∃b:List UInt8,w=bW b/\b.length*bz<=140737488351232:=by
 obtain⟨l,rfl,hl,hx⟩:=h;obtain⟨bs,rfl⟩:=fit_bytes hx;exact⟨bs,rfl,by simpa[zcq,reachBytes] using hl⟩
theorem khq{α:Type}{f:α->W}{Q:α->Prop}{sz bz:Nat}{s:Sh}{w:W}(h:Fit (.sl sz bz s) w)(hx:∀x,Fit s x->∃a,x=f a/\Q a):∃ys:List α,w= .fz (ys.map f) sz false/\ys.length*bz<=140737488351232/\∀a∈ys,Q a:=by
 obtain⟨l,rfl,hl,hs⟩:=h;obtain⟨ys,rfl,hq⟩:=Jdq λx hm=>hx x (hs x hm)
 exact⟨ys,rfl,by simpa[reachBytes] using hl,hq⟩
theorem fit_node{w:W}(h:Fit (.st 36 [.bool,.arr 32 1 (.int .u8),.sl 1 1 (.int .u8),.int .i64,.int .i64]) w):∃x:Node,w=nW x/\x.val.length<=140737488351232:=by
 obtain⟨l,rfl,w1,l1,rfl,h1,w2,l2,rfl,h2,w3,l3,rfl,h3,w4,l4,rfl,h4,w5,l5,rfl,h5,rfl⟩:=h;obtain⟨b,rfl⟩:=uVq h1;obtain⟨k,rfl⟩:=j1q h2;obtain⟨v,rfl,hv⟩:=fit_bW h3;obtain⟨i,rfl,_⟩:=y4q h4;obtain⟨j,rfl,_⟩:=y4q h5;exact⟨⟨b,k,v,i,j⟩,rfl,by simpa using hv⟩
theorem fit_tree{w:W}(h:Fit (.st 2 [.sl 36 80 (.st 36 [.bool,.arr 32 1 (.int .u8),.sl 1 1 (.int .u8),.int .i64,.int .i64]),.int .i64]) w):∃t:Tree,w=tW t/\t.nodes.length*80<=140737488351232/\(∀x∈t.nodes,x.val.length<=140737488351232)/\t.root<=9223372036854775807:=by
 obtain⟨l,rfl,w1,l1,rfl,h1,w2,l2,rfl,h2,rfl⟩:=h;obtain⟨ns,rfl,hl,hn⟩:=khq h1 λx hx=>fit_node hx
 obtain⟨r,rfl,_,hr⟩:=y4q h2;exact⟨⟨ns,r⟩,rfl,hl,hn,hr⟩
theorem fit_tx{w:W}(h:Fit (.st 99 [.arr 32 1 (.int .u8),.arr 32 1 (.int .u8),.int .u64,.int .u64,.int .u64,.arr 32 1 (.int .u8)]) w):∃x:Tx,w=txW x/\x.ok:=by
 obtain⟨l,rfl,w1,l1,rfl,h1,w2,l2,rfl,h2,w3,l3,rfl,h3,w4,l4,rfl,h4,w5,l5,rfl,h5,w6,l6,rfl,h6,rfl⟩:=h;obtain⟨a,rfl⟩:=j1q h1;obtain⟨b,rfl⟩:=j1q h2;obtain⟨n,rfl,hn⟩:=vxq h3;obtain⟨m,rfl,hm⟩:=vxq h4;obtain⟨f,rfl,hf⟩:=vxq h5;obtain⟨s,rfl⟩:=j1q h6;exact⟨⟨a,b,n,m,f,s⟩,rfl,hn,hm,hf⟩
end
end Go.Proofs.YtpjfmknefefapaaGreatDoor

/-
  What the proof of BlockApplies stands on, part 6. No condition.
-/
import Derived.Test.YtjmekaoadfmkfaaGreatDoorZBlockAppliesE
set_option linter.unusedSimpArgs false
set_option linter.unusedVariables false
namespace Go.Proofs.YtjmekaoadfmkfaaGreatDoor
@[irreducible] def bitN(k:Dig)(i:Nat):Nat:=kn k (i/8)/2^(7-i%8)%2
theorem jtq(k:Dig)(i:Nat):bitN k i<=1:=by unfold bitN;omega
theorem xor_le(m n:Nat)(hm:m<=255)(hn:n<=255):m^^^n<=255:=by
 have:m^^^n<2^8:=Nat.xor_lt_two_pow Xd Xd;omega
theorem pow_le(n:Nat):2^(7-n)<=255:=by
 have h:∀m,m<=7->2^m<=255:=by decide
 exact h _ Xd
@[irreducible] def qMq(k:Dig)(i:Nat):Dig:=setD k (i/8) (UInt8.ofNat (kn k (i/8)^^^2^(7-i%8)))
@[irreducible] def lenM(x:Nat):Nat:=if x=0 then 0 else Nat.log2 x+1
theorem J5q(x:Nat)(hx:x<=255):lenM x<=8:=by
 have h:∀x,x<=255->lenM x<=8:=by decide+kernel
 exact h x hx
def dOf(a b:Dig)(i:Nat):Nat×Nat:=(i,kn a i^^^kn b i)
@[irreducible] def dTo(a b:Dig)(n:Nat):List (Nat×Nat):=((List.range n).map (dOf a b)).filter (fun p=>p.2 !=0)
theorem dTo_zero(a b:Dig):dTo a b 0=[]:=by unfold dTo;rfl
theorem vWq(a b:Dig)(n:Nat):dTo a b (n+1)=dTo a b n++(if kn a n^^^kn b n=0 then [] else [dOf a b n]):=by
 unfold dTo;rw[List.range_succ,List.map_append,List.filter_append];congr 1
 simp only[List.map_cons,List.map_nil,List.filter_cons,List.filter_nil,dOf];split<;>split<;>simp_all
theorem dTo_pre(a b:Dig)(n m:Nat):dTo a b n<+:dTo a b (n+m):=by
 induction m with
 |zero=>exact List.prefix_refl _
 |succ m ih=>rw[<-Nat.add_assoc,vWq];exact ih.trans (List.prefix_append _ _)
theorem dTo_get(a b:Dig)(i n:Nat)(hi:i<n)(hx:kn a i^^^kn b i≠0):(dTo a b n)[(dTo a b i).length]? =some (dOf a b i):=by
 obtain⟨m,rfl⟩:∃m,n=(i+1)+m:=⟨n-(i+1),by omega⟩
 obtain⟨l,hl⟩:=dTo_pre a b (i+1) m;rw[<-hl,vWq,if_neg hx];simp
theorem dTo_mem{a b:Dig}{n:Nat}{x:Nat×Nat}(h:x∈dTo a b n):x.1<n/\x.2=kn a x.1^^^kn b x.1/\x.2≠0:=by
 unfold dTo at h;rw[List.mem_filter,List.mem_map] at h;obtain⟨⟨i,hi,rfl⟩,h2⟩:=h;exact⟨List.mem_range.1 hi,rfl,by simpa using h2⟩
@[irreducible] def yiq(a b:Dig):Nat:=match dTo a b 32 with
 |[]=>256
 |x::_=>8*x.1+(8-lenM x.2)
@[irreducible] def z2q(a b:Dig):Bool:=match dTo a b 32 with
 |[]=>false
 |x::_=>decide (kn a x.1<kn b x.1)
theorem byte_top:∀x,x<256->x≠0->lenM x<=8/\1<=lenM x/\x.testBit (lenM x-1)=true/\∀k,k<8->lenM x-1<k->x.testBit k=false:=by decide+kernel
theorem jiq(m k:Nat):m/2^k%2=(m.testBit k).toNat:=by rw[Nat.toNat_testBit]
theorem lt_top{m n L:Nat}(h:∀k,L<k->m.testBit k=n.testBit k)(hm:m.testBit L=false)(hn:n.testBit L=true):m<n:=by
 have h1:m/2^(L+1)=n/2^(L+1):=by
  apply Nat.eq_of_testBit_eq;intro i;rw[Nat.testBit_div_two_pow,Nat.testBit_div_two_pow];exact h _ Xd
 have e:∀x,x/2^(L+1)=x/2^L/2:=fun x=>by rw[Nat.pow_succ,Nat.div_div_eq_div_mul]
 have hm':m/2^L%2=0:=by rw[jiq,hm];rfl
 have hn':n/2^L%2=1:=by rw[jiq,hn];rfl
 rw[e,e] at h1;have:m/2^L<n/2^L:=by omega
 exact Nat.lt_of_not_le fun hc=>by have:=Nat.div_le_div_right (c:=2^L) hc;omega
theorem Kvq(m n:Nat)(hm:m<=255)(hn:n<=255)(hx:m^^^n≠0):
  1<=lenM (m^^^n)/\lenM (m^^^n)<=8/\(∀t,t<8-lenM (m^^^n) ->m/2^(7-t)%2=n/2^(7-t)%2)/\
   ¬m/2^(lenM (m^^^n) -1)%2=n/2^(lenM (m^^^n) -1)%2/\(m<n↔m/2^(lenM (m^^^n) -1)%2<n/2^(lenM (m^^^n) -1)%2):=by
 have hle:=xor_le m n hm hn;obtain⟨h1,h2,h3,h4⟩:=byte_top (m^^^n) Xd hx
 have hab:∀k,lenM (m^^^n) -1<k->m.testBit k=n.testBit k:=fun k hk=>by
  by_cases hk8:k<8
  ·have:=h4 k hk8 hk;rw[Nat.testBit_xor] at this;revert this;cases m.testBit k<;>cases n.testBit k<;>simp
  ·have e1:m<2^k:=Nat.lt_of_lt_of_le (show m<2^8 by omega) (Nat.pow_le_pow_right Xd Xd);have e2:n<2^k:=Nat.lt_of_lt_of_le (show n<2^8 by omega) (Nat.pow_le_pow_right Xd Xd);rw[Nat.testBit_lt_two_pow e1,Nat.testBit_lt_two_pow e2]
 rw[Nat.testBit_xor] at h3;refine⟨h2,h1,fun t ht=>?_,?_,?_⟩
 ·rw[jiq,jiq,hab _ Xd]
 ·rw[jiq,jiq];revert h3;cases m.testBit (lenM (m^^^n) -1)<;>cases n.testBit (lenM (m^^^n) -1)<;>simp
 ·rw[jiq,jiq];cases hmb:m.testBit (lenM (m^^^n) -1)<;>cases hnb:n.testBit (lenM (m^^^n) -1)<;>simp only[hmb,hnb] at h3
  ·simp at h3
  ·have:=lt_top hab hmb hnb;simp[this]
  ·have:=lt_top (fun k hk=>(hab k hk).symm) hnb hmb;simp;omega
  ·simp at h3
theorem xor_zero{m n:Nat}:m^^^n=0↔m=n:=by
 constructor
 ·intro h;apply Nat.eq_of_testBit_eq;intro i;have:(m^^^n).testBit i=false:=by rw[h];simp
  rw[Nat.testBit_xor] at this;revert this;cases m.testBit i<;>cases n.testBit i<;>simp
 ·rintro rfl;exact Nat.xor_self m
theorem dTo_nil{a b:Dig}{n:Nat}(h:dTo a b n=[]):∀i,i<n->kn a i=kn b i:=fun i hi=>by
 rcases Classical.em (kn a i^^^kn b i=0) with hx|hx
 ·exact xor_zero.1 hx
 ·have:=dTo_get a b i n hi hx;rw[h] at this;simp at this
theorem vXq{a b:Dig}{x:Nat×Nat}{l:List (Nat×Nat)}:∀{n:Nat},dTo a b n=x::l->x.1<n/\x.2=kn a x.1^^^kn b x.1/\x.2≠0/\∀i,i<x.1->kn a i=kn b i:=by
 intro n h;obtain⟨h1,h2,h3⟩:=dTo_mem (a:=a) (b:=b) (n:=n) (x:=x) (by rw[h];simp);refine⟨h1,h2,h3,?_⟩;revert l
 induction n with
 |zero=>omega
 |succ n ih=>
  intro l h;rw[vWq] at h;cases hd:dTo a b n with
  |nil=>
   have:=dTo_nil hd;intro i hi;exact this i Xd
  |cons y r=>
   rw[hd] at h;have hy:y=x:=by simpa using congrArg List.head? h
   subst hy;have hm:=(dTo_mem (a:=a) (b:=b) (n:=n) (x:=y) (by rw[hd];simp)).1;exact ih hm hd
def KFq(a b:Dig)(s:Nat):Prop:=(∀j,j<s->bitN a j=bitN b j)/\(s=256\/(s<256/\¬bitN a s=bitN b s))
theorem kyq(a b:Dig):KFq a b (yiq a b):=by
 unfold yiq;cases hd:dTo a b 32 with
 |nil=>
  have h:=dTo_nil hd;exact⟨fun j hj=>by simp only at hj;unfold bitN;rw[h (j/8) Xd],.inl rfl⟩
 |cons x l=>
  obtain⟨h1,h2,h3,h4⟩:=vXq hd;simp only;have hb:=Kvq (kn a x.1) (kn b x.1) (u6q _ _) (u6q _ _) (by rw[<-h2];exact h3);rw[<-h2] at hb;obtain⟨b1,b2,b3,b4,-⟩:=hb;refine⟨fun j hj=>?_,.inr ⟨by omega,?_⟩⟩
  ·unfold bitN;by_cases hjx:j/8<x.1
   ·rw[h4 _ hjx]
   ·have e:j/8=x.1:=by omega
    rw[e];exact b3 (j%8) Xd
  ·unfold bitN;rw[show(8*x.1+(8-lenM x.2))/8=x.1 by omega,show 7-(8*x.1+(8-lenM x.2))%8=lenM x.2-1 by omega];exact b4
theorem uUq{a b:Dig}{s t:Nat}(hs:KFq a b s)(ht:KFq a b t):s=t:=by
 obtain⟨s1,s2⟩:=hs;obtain⟨t1,t2⟩:=ht;rcases Nat.lt_trichotomy s t with h|h|h
 ·have:=t1 s h;rcases s2 with s2|⟨_,s2⟩
  ·omega
  ·exact absurd this s2
 ·exact h
 ·have:=s1 t h;rcases t2 with t2|⟨_,t2⟩
  ·omega
  ·exact absurd this t2
theorem Kyq(a b:Dig):z2q a b=decide (yiq a b<256/\bitN a (yiq a b)<bitN b (yiq a b)):=by
 unfold z2q yiq;cases hd:dTo a b 32 with
 |nil=>simp
 |cons x l=>
  obtain⟨h1,h2,h3,h4⟩:=vXq hd;simp only;have hb:=Kvq (kn a x.1) (kn b x.1) (u6q _ _) (u6q _ _) (by rw[<-h2];exact h3);rw[<-h2] at hb;obtain⟨b1,b2,b3,b4,b5⟩:=hb;refine decide_eq_decide.2 ?_;unfold bitN;rw[show(8*x.1+(8-lenM x.2))/8=x.1 by omega,show 7-(8*x.1+(8-lenM x.2))%8=lenM x.2-1 by omega,b5];constructor
  ·exact fun h=>⟨by omega,h⟩
  ·exact fun h=>h.2
theorem shared_le(a b:Dig):yiq a b<=256:=by
 rcases(kyq a b).2 with h|h<;>omega
theorem ofNat_u8(n:Nat)(h:n<=255):(UInt8.ofNat n).toNat=n:=by simp;omega
theorem kn_turn(k:Dig)(i j:Nat)(hj:j<32)(hi:i<256):kn (qMq k i) j=if j=i/8 then kn k j^^^2^(7-i%8) else kn k j:=by
 unfold qMq;rw[kn_set _ _ _ _ hj];by_cases h:i/8=j
 ·rw[if_pos h,if_pos h.symm,h,ofNat_u8];exact xor_le _ _ (u6q _ _) (pow_le _)
 ·rw[if_neg h,if_neg (fun e=>h e.symm)]
theorem Qyq(k:Dig)(i j:Nat)(hi:i<256)(hj:j<256)(h:¬j=i):bitN (qMq k i) j=bitN k j:=by
 unfold bitN;rw[kn_turn _ _ _ Xd hi];by_cases h8:j/8=i/8
 ·rw[if_pos h8,jiq,jiq,Nat.testBit_xor,Nat.testBit_two_pow_of_ne Xd];simp
 ·rw[if_neg h8]
theorem Qzq(k:Dig)(i:Nat)(hi:i<256):bitN (qMq k i) i=1-bitN k i:=by
 unfold bitN;rw[kn_turn _ _ _ Xd hi,if_pos rfl,jiq,jiq,Nat.testBit_xor,Nat.testBit_two_pow_self];cases (kn k (i/8)).testBit (7-i%8)<;>rfl
theorem shared_eq{a b:Dig}:yiq a b=256↔a=b:=by
 constructor
 ·intro h;cases hd:dTo a b 32 with
  |nil=>exact dig_ext (dTo_nil hd)
  |cons x l=>
   exfalso
   obtain⟨h1,h2,h3,h4⟩:=vXq hd;have hb:=Kvq (kn a x.1) (kn b x.1) (u6q _ _) (u6q _ _) (by rw[<-h2];exact h3);rw[<-h2] at hb;unfold yiq at h;rw[hd] at h;simp only at h;omega
 ·rintro rfl;rcases(kyq a a).2 with h|⟨_,h⟩
  ·exact h
  ·exact absurd rfl h
theorem yKq{a b:Dig}{d:Nat}(hd:d<=256):d<=yiq a b↔∀j,j<d->bitN a j=bitN b j:=by
 obtain⟨h1,h2⟩:=kyq a b;constructor
 ·exact fun h j hj=>h1 j Xd
 ·intro h;rcases h2 with h2|⟨h2,h3⟩
  ·omega
  ·exact Nat.le_of_not_lt fun hlt=>h3 (h _ hlt)
theorem Yeq{a b:Dig}(h:∀j,j<256->bitN a j=bitN b j):a=b:=by
 have:=(yKq (a:=a) (b:=b) (d:=256) (Nat.le_refl _)).2 h;have:=shared_le a b;exact shared_eq.1 Xd
theorem ahead_iff{a b:Dig}:z2q a b=true↔∃s,s<256/\(∀j,j<s->bitN a j=bitN b j)/\bitN a s=0/\bitN b s=1:=by
 rw[Kyq];have hs:=kyq a b;constructor
 ·intro h;have h:=of_decide_eq_true h;refine⟨yiq a b,h.1,hs.1,?_,?_⟩<;>(have:=jtq b (yiq a b);omega)
 ·rintro⟨s,h1,h2,h3,h4⟩;have:yiq a b=s:=uUq hs ⟨h2,.inr ⟨h1,by omega⟩⟩;rw[this];exact decide_eq_true ⟨h1,by omega⟩
theorem xSq{a b:Dig}(h:z2q a b=true):a≠b:=by
 rintro rfl;obtain⟨s,_,_,h3,h4⟩:=ahead_iff.1 h;omega
theorem jZq(a:Dig):z2q a a=false:=by
 cases h:z2q a a with
 |false=>rfl
 |true=>exact absurd rfl (xSq h)
theorem xRq{a b c:Dig}(h1:z2q a b=true)(h2:z2q b c=true):z2q a c=true:=by
 obtain⟨s,a1,a2,a3,a4⟩:=ahead_iff.1 h1;obtain⟨t,b1,b2,b3,b4⟩:=ahead_iff.1 h2;refine ahead_iff.2 ?_;rcases Nat.lt_trichotomy s t with h|h|h
 ·exact⟨s,a1,fun j hj=>(a2 j hj).trans (b2 j Xd),a3,by rw[<-b2 s h];exact a4⟩
 ·subst h;omega
 ·exact⟨t,b1,fun j hj=>(a2 j Xd).trans (b2 j hj),by rw[a2 t h];exact b3,b4⟩
theorem qCq{a b:Dig}(h:z2q a b=true):z2q b a=false:=by
 cases hb:z2q b a with
 |false=>rfl
 |true=>have:=xRq h hb;rw[jZq] at this;cases this
theorem vlq{a b:Dig}(h:a≠b):z2q a b=true\/z2q b a=true:=by
 have hs:=kyq a b;have h256:yiq a b≠256:=fun e=>h (shared_eq.1 e)
 rcases hs.2 with h2|⟨h1,h2⟩
 ·exact absurd h2 h256
 ·have x1:=jtq a (yiq a b);have x2:=jtq b (yiq a b);rcases Nat.eq_zero_or_pos (bitN a (yiq a b)) with h3|h3
  ·exact .inl (ahead_iff.2 ⟨_,h1,hs.1,h3,by omega⟩)
  ·exact .inr (ahead_iff.2 ⟨_,h1,fun j hj=>(hs.1 j hj).symm,by omega,by omega⟩)
section
open Go.RowKit
section
attribute [local irreducible] CoW OpW FlW Step Spec
variable {G:Nat->Option W}
theorem kPq(a b:Nat):((a:Int)).tdiv (b:Int)=((a/b:Nat):Int):=by rw[Int.tdiv_eq_ediv_of_nonneg Xd];rfl
theorem xjq(a b:Nat):((a:Int)).tmod (b:Int)=((a%b:Nat):Int):=by rw[Int.tmod_eq_emod_of_nonneg Xd];rfl
theorem dW_ld(k:Dig){i:Nat}(h:i<32):yuq 50 (dW k) (0+i*1) 1 false=some (.int .u8 (kn k i:Nat)):=by rw[Nat.zero_add];exact dW_get k h
theorem bit_and(x n:Nat)(hn:n<=7)(hx:x<=255):Nat.land (Nat.shiftRight x (min n 8)%256) (1%256)=x/2^n%2:=by
 have h1:Nat.shiftRight x (min n 8)=x/2^n:=by rw[show min n 8=n by omega];exact Nat.shiftRight_eq_div_pow x n
 have h2:=Nat.div_le_self x (2^n);rw[h1,Nat.mod_eq_of_lt Xd];exact Nat.and_one_is_mod _
theorem bit_in(k:Dig)(i:Nat)(h:i<256):PS cfg G 276 [dW k,.int .i64 (i:Int)] (.tup [.int .u8 (bitN k i:Nat),.int .i64 0]):=by
 have hk:=u6q k (i/8);refine zFq (fn:=Tryz.f276) O O O (Ob rfl) (fun R k0=>?_);refine zjq 11 O ?_;refine yZq O O (fun h1=>?_) (fun h1=>?_)
 ·exfalso;omega
 refine zaq 2 O ?_;refine yVq O O ?_;refine zaq 3 O ?_;refine zyq rfl (fun h2=>?_) (fun h2=>?_)
 ·exfalso;omega
 refine zeq 5 O ?_;refine zlq (i/8) O O (kPq i 8) ⟨by omega,by omega⟩ ?_;refine zbq rfl (zsq (i:=i/8) O O O O O O Xd) ?_;refine znq rfl (ypq O O O (dW_ld k Xd)) ?_;refine zbq O O (zgq O O (congrArg (W.int .i64) (xjq i 8)) (zlq (7-i%8) O O Xi ⟨by omega,by omega⟩ ?_));refine zaq 7 O ?_;refine zhq (.inr rfl) O ?_;show W.tup [.int .u8 (Nat.land (Nat.shiftRight (kn k (i/8)) (min (7-i%8) 8)%256) (1%256):Nat),_]=_;rw[bit_and _ _ Xd hk];unfold bitN;rfl
theorem len_tabW(s:List UInt8)(h:(List.range 256).all (fun x=>s[x]? ==some (UInt8.ofNat (lenM x)))=true)(x:Nat)(hx:x<=255):s[x]? =some (UInt8.ofNat (lenM x)):=by
 have:=List.all_eq_true.1 h x (List.mem_range.2 Xd);simpa using this
theorem len8_s(x:Nat)(hx:x<=255):PS cfg G 289 [.int .u8 (x:Int)] (.int .i64 (lenM x:Nat)):=by
 have hl:=J5q x hx;have e:((UInt8.ofNat (lenM x)).toNat:Int)=(lenM x:Nat):=by congr 1;simp;omega
 refine zFq (fn:=Tryz.f289) O O O (Ob rfl) (fun R k0=>?_);refine zjq 8 O ?_;refine zbq rfl (ix_str O O O O O (len_tabW _ (by decide+kernel) x hx)) ?_;refine zlq (lenM x) O O e ⟨by omega,by omega⟩ ?_;refine zaq 4 O ?_;exact zhq (.inr rfl) O O
theorem lz8_s(x:Nat)(hx:x<=255):PS cfg G 274 [.int .u8 (x:Int)] (.int .i64 (8-lenM x:Nat)):=by
 have hl:=J5q x hx;refine zFq (fn:=Tryz.f274) O O O (Ob rfl) (fun R k0=>?_);refine zjq 8 O ?_;refine zkq O O O O O O (len8_s _ Xd) ?_;refine zlq (8-lenM x) O O Xi ⟨by omega,by omega⟩ ?_;refine zaq 4 O ?_;exact zhq (.inr rfl) O O
noncomputable def encP(x:Nat×Nat):List W:=[.int .i64 (x.1:Int),.int .u8 (x.2:Int)]
theorem dTo_more(a b:Dig){i:Nat}(h:i<32)(hx:kn a i^^^kn b i≠0):(dTo a b 32).drop (dTo a b i).length=dOf a b i::(dTo a b 32).drop (dTo a b (i+1)).length:=by
 have h1:=dTo_get a b i 32 h hx;obtain⟨hl,h2⟩:=List.getElem?_eq_some_iff.1 h1;have hs:=vWq a b i;rw[if_neg hx] at hs;rw[List.drop_eq_getElem_cons hl,h2,hs];simp
theorem dTo_same(a b:Dig){i:Nat}(hx:kn a i^^^kn b i=0):dTo a b (i+1)=dTo a b i:=by rw[vWq,if_pos hx,List.append_nil]
theorem xor8(x y:Nat)(hx:x<=255)(hy:y<=255):Nat.xor (x%256) (y%256)=x^^^y:=by rw[Nat.mod_eq_of_lt Xd,Nat.mod_eq_of_lt Xd];rfl
theorem apart_s(a b:Dig):PS cfg G 256 [dW a,dW b] (.fn 279 [] [.fel (dW a),.fel (dW b)]):=by
 refine zFq (fn:=Tryz.f256) O O O (Ob rfl) (fun R k0=>?_);refine zjq 14 O ?_;refine xJq (fr2:=[(4,_)]) Xx ?_ O O
 (repeat (first|exact trivial|refine And.symm ⟨?_,_,rfl,?_⟩))<;>(repeat (first|exact .nil|refine .cons ?_ ?_|refine .fn ?_ ?_|(refine y9q O ?_ rfl;(first|rfl|(focus (simp;done))))|(refine .sl O ?_ rfl Xj;(first|rfl|(focus (simp;done))))|(refine .pur ?_;(first|rfl|(focus (simp;done))))|refine .agg ?_|refine .arr ?_|refine .tup ?_))
theorem apart_it(a b:Dig):jlq cfg G 279 [.fel (dW a),.fel (dW b)] ((dTo a b 32).map encP):=by
 refine u7q (fn:=Tryz.f279) O O O (Ob rfl) (fun L E R hy k0=>?_);refine v0q 3 ?_;refine zjq 9 O ?_;refine co_loopR (α:=Nat×Res) (fun p=>p.1<=32/\Yl cfg G L E (((dTo a b 32).drop (dTo a b p.1).length).map encP) p.2) (fun p=>[(6,.int .i64 (p.1:Int))]) [(0,_),(1,_),(2,_)] (fun p=>[]) (fun p=>p.2) (fun p=>32-p.1) ((0,R)) ⟨rfl,rfl,rfl,trivial⟩ (⟨Nat.zero_le _,by rw[dTo_zero];exact hy⟩) ⟨rfl,trivial⟩ O O (fun p hI=>?_);obtain⟨i,R⟩:=p;obtain⟨hi,hy⟩:=hI;simp only at hi hy;have ha:=u6q a i;have hb:=u6q b i;refine zjq 6 O ?_;refine zyq rfl (fun h1=>?_) (fun h1=>?_)
 ·have hi':i<32:=by omega
  refine zeq 13 O ?_;refine zcq rfl (ix_fel O O O O O O Xd rfl (dW_get a hi')) ?_;refine zoq 2 O ?_;refine zcq rfl (ix_fel O O O O O O Xd rfl (dW_get b hi')) ?_;refine yOq O O ?_;refine jwq (w':=.int .u8 ((kn a i^^^kn b i:Nat):Int)) O O (congrArg (fun n:Nat=>W.int .u8 (n:Int)) (xor8 _ _ ha hb)) ?_;refine zoq 6 O ?_;refine yZq O O (fun h2=>?_) (fun h2=>?_)
  ·have hx:kn a i^^^kn b i≠0:=by omega
   rw[dTo_more a b hi' hx,List.map_cons] at hy;refine zaq 4 O ?_;refine zrq rfl (jvq O O O (hy) (fun b R1 hb=>?_));refine zaq 4 O ?_;refine zyq rfl (fun h3=>?_) (fun h3=>?_)
   ·cases b with
    |true=>cases h3
    |false=>
     refine zeq 3 O ?_;refine qoq Xj ?_;refine zCq 1 O ?_;refine xxq Yw ?_;exact xWq (.inl rfl) rfl hb
   ·cases b with
    |false=>exact absurd rfl h3
    |true=>
     refine zeq 4 O ?_;refine zlq (i+1) O O Xi ⟨by omega,by omega⟩ ?_;refine yyq 2 O ?_;exact q_againR ((i+1,R1)) (⟨hi',hb⟩) Yh (Nat.zero_le _) ⟨rfl,trivial⟩ ⟨rfl,rfl,rfl,trivial⟩ Xg Xg Xd Xo Yj rfl
  ·have hx:kn a i^^^kn b i=0:=by omega
   rw[<-dTo_same a b hx] at hy;refine zaq 14 O ?_;refine zlq (i+1) O O Xi ⟨by omega,by omega⟩ ?_;refine yyq 2 O ?_;exact q_againR ((i+1,R)) (⟨hi',hy⟩) Yh (Nat.zero_le _) ⟨rfl,trivial⟩ ⟨rfl,rfl,rfl,trivial⟩ Xg Xg Xd Xo Yj rfl
 ·refine zeq 2 O ?_;refine qoq Xj ?_;refine zCq 1 O ?_;refine xxq Yw ?_;have:i=32:=by omega
  subst this;rw[List.drop_length] at hy;exact xWq (.inl rfl) rfl hy
theorem encP_ok{l:List (Nat×Nat)}:∀y∈l,purL (encP y)=true/\(encP y).length=2:=fun y _=>⟨rfl,rfl⟩
theorem head_of{α:Type}{l:List α}{x:α}{i:Nat}(h:l[i]? =some x)(hi:i=0):∃r,l=x::r:=by
 subst hi;cases l with
 |nil=>simp at h
 |cons y r=>simp at h;subst h;exact⟨r,rfl⟩
theorem shared_s(a b:Dig):PS cfg G 248 [dW a,dW b] (.int .i64 (yiq a b:Nat)):=by
 refine zFq (fn:=Tryz.f248) O O O (Ob rfl) (fun R k0=>?_);refine zjq 12 O ?_;refine zkq O O O O O O (apart_s _ _) ?_;refine zaq 3 O ?_;refine Qoq (encP) (dTo a b 32) (fun i=>i=0) rfl Xn (apart_it a b) (encP_ok) (rfl) (fun i y hy hI=>?_) (fun hI=>?_)
 ·obtain⟨r,hr⟩:=head_of hy hI;obtain⟨h1,h2,h3,h4⟩:=vXq hr;have hb:=xor_le _ _ (u6q a y.1) (u6q b y.1);rw[<-h2] at hb;have hl:=J5q y.2 hb;refine zjq 8 O ?_;refine QOq ?_;refine zjq 4 O ?_;refine zlq (8*y.1) O O Xi ⟨by omega,by omega⟩ ?_;refine zbq O O (zkq O O O O O O (lz8_s _ Xd) ?_);refine zlq (8*y.1+(8-lenM y.2)) O O Xi ⟨by omega,by omega⟩ ?_;refine zaq 5 O ?_;refine q_leave Xj ?_;refine zCq 2 O ?_;refine zhq (.inr rfl) O ?_;unfold yiq;rw[hr]
 ·have:dTo a b 32=[]:=List.eq_nil_of_length_eq_zero hI;refine zCq 8 O ?_;refine zhq (.inr rfl) O ?_;unfold yiq;rw[this];rfl
theorem ahead_s(a b:Dig):PS cfg G 203 [dW a,dW b] (.bool (z2q a b)):=by
 refine zFq (fn:=Tryz.f203) O O O (Ob rfl) (fun R k0=>?_);refine zjq 12 O ?_;refine zkq O O O O O O (apart_s _ _) ?_;refine zaq 3 O ?_;refine Qoq (encP) (dTo a b 32) (fun i=>i=0) rfl Xn (apart_it a b) (encP_ok) (rfl) (fun i y hy hI=>?_) (fun hI=>?_)
 ·obtain⟨r,hr⟩:=head_of hy hI;obtain⟨h1,h2,h3,h4⟩:=vXq hr;refine zjq 3 O ?_;refine QOq ?_;refine zjq 4 O ?_;refine zcq rfl (zsq (i:=y.1) O O O O O O h1) ?_;refine yqq rfl (ypq O O O (dW_ld a h1)) Xr ?_;refine zcq O O (zcq rfl (zsq (i:=y.1) O O O O O O h1) ?_);refine yqq rfl (ypq O O O (dW_ld b h1)) Xr ?_;refine fl_cz O O ?_;refine zoq 5 O ?_;refine q_leave Xj ?_;refine zCq 2 O ?_;refine zhq (.inr rfl) O ?_;unfold z2q;rw[hr];congr 1
  simp
 ·have:dTo a b 32=[]:=List.eq_nil_of_length_eq_zero hI;refine zCq 8 O ?_;refine zhq (.inr rfl) O ?_;unfold z2q;rw[this]
theorem shr8(n:Nat)(hn:n<=7):Nat.shiftRight 128 (min n 8)=2^(7-n):=by
 have h:∀n,n<=7->Nat.shiftRight 128 (min n 8)=2^(7-n):=by decide+kernel
 exact h n hn
theorem turn_in(k:Dig)(i:Nat)(h:i<256):PS cfg G 249 [dW k,.int .i64 (i:Int)] (.tup [dW (qMq k i),.int .i64 0]):=by
 have hk:=u6q k (i/8);have hp:=pow_le (i%8);have hx:=xor_le _ _ hk hp
 have e1:Nat.xor (kn k (i/8)%256) (Nat.shiftRight 128 (min (i%8) 8)%256)=kn k (i/8)^^^2^(7-i%8):=by
  rw[shr8 _ Xd];exact xor8 _ _ hk hp
 refine zFq (fn:=Tryz.f249) O O O (Ob rfl) (fun R k0=>?_);refine zjq 11 O ?_;refine yZq O O (fun h1=>?_) (fun h1=>?_)
 ·exfalso;omega
 refine zaq 2 O ?_;refine yVq O O ?_;refine zaq 3 O ?_;refine zyq rfl (fun h2=>?_) (fun h2=>?_)
 ·exfalso;omega
 refine zeq 5 O ?_;refine qNq (i/8) O O (kPq i 8) ⟨by omega,by omega⟩ ?_;refine zcq rfl (zsq (i:=i/8) O O O O O O Xd) ?_;refine yqq rfl (ypq O O O (dW_ld k Xd)) Xr ?_;refine zcq O O (jwq O O (congrArg (W.int .i64) (xjq i 8)) (zcq O O (jwq (w':=.int .u8 ((kn k (i/8)^^^2^(7-i%8):Nat):Int)) O O (congrArg (fun n:Nat=>W.int .u8 (n:Int)) e1) (zcq rfl (zsq (i:=i/8) O O O O O O Xd) ?_))));refine yqq rfl (jLq O O O O O (qSq (i:=0+i/8*1) Qq O O) rfl) Xr ?_;refine zoq 10 O ?_;refine zhq (.inr rfl) O ?_;rw[Nat.zero_add,Nat.mul_one,dW_set k (i/8) Xd];unfold qMq;rfl
end
end
def beB:Nat->Nat->List UInt8
 |0,_=>[]
 |s+1,n=>UInt8.ofNat (n/256^s%256)::beB s n
def numB(l:List UInt8):Nat:=l.foldl (fun a c=>256*a+c.toNat) 0
@[simp] theorem yCq:∀s n,(beB s n).length=s
 |0,_=>rfl
 |s+1,n=>by simp[beB,yCq s n]
theorem numB_snoc(l:List UInt8)(c:UInt8):numB (l++[c])=256*numB l+c.toNat:=by simp[numB,List.foldl_append]
theorem J2q:∀(l:List UInt8) (a:Nat),l.foldl (fun a c=>256*a+c.toNat) a=a*256^l.length+numB l
 |[],a=>by simp[numB]
 |c::l,a=>by
  simp only[List.foldl_cons,numB,List.length_cons];rw[J2q l,J2q l (256*0+c.toNat),Nat.pow_succ];simp only[Nat.add_mul,Nat.mul_zero,Nat.zero_add,Nat.add_assoc];congr 1
  rw[Nat.mul_comm 256 a,Nat.mul_assoc,Nat.mul_comm 256]
theorem numB_cons(c:UInt8)(l:List UInt8):numB (c::l)=c.toNat*256^l.length+numB l:=by
 show(c::l).foldl _ 0=_;rw[List.foldl_cons,J2q];simp
theorem YQq:∀l:List UInt8,numB l<256^l.length
 |[]=>by simp[numB]
 |c::l=>by
  rw[numB_cons,List.length_cons,Nat.pow_succ];have:=YQq l;have hc:=c.toNat_lt;have:c.toNat*256^l.length<=255*256^l.length:=Nat.mul_le_mul_right _ Xd;omega
theorem numB_be:∀s n,numB (beB s n)=n%256^s
 |0,n=>by simp[beB,numB,Nat.mod_one]
 |s+1,n=>by
  rw[beB,numB_cons,yCq,numB_be s n];have h1:(UInt8.ofNat (n/256^s%256)).toNat=n/256^s%256:=by simp
  rw[h1,Nat.pow_succ,Nat.mod_mul,Nat.mul_comm (n/256^s%256)];omega
section
open Go.RowKit
section
attribute [local irreducible] CoW OpW FlW Step Spec
variable {G:Nat->Option W}
theorem Qpq(l:List UInt8)(f:Bool)(hl:l.length<=70368744177664):PS cfg G 166 [.fz (zdq l) 1 f] (bW l):=by
 refine zFq (fn:=Tryz.f166) O O O (Ob rfl) (fun R k0=>?_);refine zjq 9 O ?_;first|refine zbq O O ?_|refine zrq rfl (step_nil O O O O O (fun bn hn=>?_))
 refine zaq 2 O ?_;refine zyq rfl (fun h1=>?_) (fun h1=>?_)
 ·cases bn with
  |false=>cases h1
  |true=>
   have hn:=hn rfl
   have hl0:l=[]:=by cases l with
    |nil=>rfl
    |cons c l=>simp[zdq] at hn
   subst hl0;refine zeq 7 O ?_;refine xJq (fr2:=[(2,bW [])]) (.inr rfl) ⟨⟨_,rfl,.nilfz⟩,trivial⟩ O O
 ·cases l with
  |nil=>
   skip
   refine zeq 6 O ?_;refine znq rfl (yoq O O (ZBq O O O O O)) ?_;refine zaq 4 O ?_;refine xJq (fr2:=[(2,bW [])]) (.inr rfl) ⟨⟨_,rfl,.sl O O O Xj⟩,trivial⟩ O O
  |cons c l=>
   simp only[List.length_cons] at hl;refine zeq 6 O ?_;refine znq rfl (yoq O O (qxq (news:=zdq (c::l)) (olds:=[]) O O O O O Ql (by show(0+(zdq (c::l)).length)*1<=_;rw[ziq];simp only[List.length_cons];omega) (by rw[ziq];simp only[List.length_cons];omega) rfl (by show 0<0+(0+(zdq (c::l)).length)*1;rw[ziq];simp only[List.length_cons];omega) O O)) ?_;refine zaq 4 O ?_;refine xJq (fr2:=[(2,bW (c::l))]) (.inr rfl) ⟨⟨_,rfl,.sl rfl Xk (kxq Xk (Nat.mul_one _)) Xj⟩,trivial⟩ O O
theorem end_s(l:List UInt8)(f:Bool):PS cfg G 247 [.fz (zdq l) 1 f] (.int .i64 (if l=[] then 0 else 11)):=by
 have e:=ziq l;refine zFq (fn:=Tryz.f247) O O O (Ob rfl) (fun R k0=>?_);refine zjq 9 O ?_;first|refine j3q O O ?_|refine zbq O O ?_
 refine zaq 3 O ?_;refine zyq rfl (fun h1=>?_) (fun h1=>?_)
 ·refine zeq 7 O ?_;have:l≠[]:=by rintro rfl;simp[zdq] at h1
  exact zhq (.inr rfl) rfl (by rw[if_neg this])
 ·refine zeq 8 O ?_;have:l=[]:=List.eq_nil_of_length_eq_zero (by rw[<-e];simpa using h1);exact zhq (.inr rfl) rfl (by rw[if_pos this])
theorem shr_byte(n i:Nat)(hi:i<=8):Nat.shiftRight n (min (8*i) 64)%256=n/256^i%256:=by
 have:Nat.shiftRight n (min (8*i) 64)=n/2^(8*i):=by rw[show min (8*i) 64=8*i by omega];exact Nat.shiftRight_eq_div_pow _ _
 rw[this,Nat.pow_mul]
theorem be_at(n size i:Nat)(hi:i<size):(zdq (List.replicate (size-i) 0++beB i n))[0+(size-1-i)*1]? =some (.int .u8 (.ofNat 0)):=by
 refine v1q (c:=0) ?_;rw[List.getElem?_append_left Xu,List.getElem?_replicate,if_pos Xd]
theorem be_set(n size i:Nat)(hi:i<size):(zdq (List.replicate (size-i) 0++beB i n)).set (0+(size-1-i)*1) (.int .u8 ((n/256^i%256:Nat):Int))=zdq (List.replicate (size-(i+1)) 0++beB (i+1) n):=by
 have e:size-i=(size-(i+1))+1:=by omega
 have e2:0+(size-1-i)*1=size-(i+1):=by omega
 rw[e,e2,List.replicate_succ',List.append_assoc,y6q,y6q,List.set_append_right _ _ Ql];simp only[zdq,List.length_map,List.length_replicate,Nat.sub_self,List.singleton_append,List.map_cons,List.set_cons_zero,beB];congr 2
 simp
theorem be_zero(n size:Nat):zdq (List.replicate (size-0) 0++beB 0 n)=List.replicate size (.int .u8 0):=by simp[zdq,beB]
theorem QPq(n size:Nat)(hs:1<=size)(hs8:size<=8)(hn:n<256^size):qiq cfg G 109 0 [.int .u64 (n:Int),.int .i64 (size:Int)] [] fun w hp nw=>
  w= .tup [.sl 0 0 0 size 1 none,.int .i64 0]/\hp=[(0,5,.arr (size*1) 1 (zdq (beB size n)))]/\nw=1:=by
 intro R
 have hq:size<8->Nat.shiftRight n (min (8*size) 64)=0:=fun h=>by
  rw[show min (8*size) 64=8*size by omega,show Nat.shiftRight n (8*size)=n/2^(8*size) from Nat.shiftRight_eq_div_pow _ _,Nat.pow_mul];exact Nat.div_eq_of_lt hn
 refine zVq (fn:=Tryz.f109) O O O (Ob rfl) (fun k0=>?_);refine zjq 11 O ?_;refine yZq O O (fun h1=>?_) (fun h1=>?_)
 ·exfalso;omega
 refine zaq 2 O ?_;refine yVq O O ?_;refine zaq 4 O ?_;refine zyq rfl (fun h2=>?_) (fun h2=>?_)
 ·exfalso;omega
 refine zeq 3 O ?_;refine yZq O O (fun h3=>?_) (fun h3=>?_)
 ·have h8:=hq Xd;refine zaq 3 O ?_;refine zlq (8*size) O O Xi ⟨by omega,by omega⟩ ?_;refine zbq O O (yVq O O ?_);refine zaq 4 O ?_;refine zyq rfl (fun h4=>?_) (fun h4=>?_)
  ·skip
   exfalso
   have h4:(0:Int)<(Nat.shiftRight n (min (8*size) 64):Nat):=h4;rw[h8] at h4;omega
  ·refine zeq 6 O ?_;refine znq rfl (J3q (l:=size) (c:=size) O O O O O O O O (Nat.le_refl _) (by show 1*size<=_;omega) Xd O O) ?_;refine zaq 11 O ?_;refine q6q (α:=Nat) (fun i=>i<=size) (fun i=>[(28,.int .i64 (i:Int))]) [(0,_),(1,_),(4,_),(5,_),(6,_),(27,_)] (fun i=>[(0,5,.arr (size*1) 1 (zdq (List.replicate (size-i) 0++beB i n)))]) (fun i=>size-i) (0) ⟨rfl,rfl,rfl,rfl,rfl,rfl,trivial⟩ (Nat.zero_le _) ⟨rfl,trivial⟩ (by rw[be_zero];rfl) (fun i hI=>?_);refine zjq 6 O ?_;refine zyq rfl (fun h5=>?_) (fun h5=>?_)
   ·have hi:i<size:=by omega
    refine zeq 13 O ?_;refine zlq (size-1) O O Xi ⟨by omega,by omega⟩ ?_;refine zbq O O (zlq (size-1-i) O O Xi ⟨by omega,by omega⟩ ?_);refine zaq 2 O ?_;refine zlq (8*i) O O Xi ⟨by omega,by omega⟩ ?_;refine zbq O O (zgq (w':=.int .u8 ((n/256^i%256:Nat):Int)) O O (congrArg (fun n:Nat=>W.int .u8 (n:Int)) (shr_byte n i Xd)) ?_);refine zbq rfl (zLq (i:=size-1-i) O O O O O O O Xd) ?_;refine znq rfl (jLq O O O O O (qSq (be_at n size i hi) O O) (congrArg (fun L=>[(0,5,W.arr (size*1) 1 L)]) (be_set n size i hi))) ?_;refine zaq 4 O ?_;refine zlq (i+1) O O Xi ⟨by omega,by omega⟩ ?_;refine yyq 2 O ?_;exact jDq (i+1) (hi) Xd ⟨rfl,trivial⟩ ⟨rfl,rfl,rfl,rfl,rfl,rfl,trivial⟩ rfl
   ·refine zeq 2 O ?_;refine qoq Xj ?_;refine zCq 10 O ?_;have:i=size:=by omega
    subst this;refine fin (.inr rfl) Ent.refl rfl ⟨rfl,rfl,?_,rfl⟩;rw[Nat.sub_self];rfl
 ·refine zaq 17 O ?_;refine znq rfl (J3q (l:=size) (c:=size) O O O O O O O O (Nat.le_refl _) (by show 1*size<=_;omega) Xd O O) ?_;refine zaq 11 O ?_;refine q6q (α:=Nat) (fun i=>i<=size) (fun i=>[(28,.int .i64 (i:Int))]) [(0,_),(1,_),(4,_),(5,_),(6,_),(27,_)] (fun i=>[(0,5,.arr (size*1) 1 (zdq (List.replicate (size-i) 0++beB i n)))]) (fun i=>size-i) (0) ⟨rfl,rfl,rfl,rfl,rfl,rfl,trivial⟩ (Nat.zero_le _) ⟨rfl,trivial⟩ (by rw[be_zero];rfl) (fun i hI=>?_);refine zjq 6 O ?_;refine zyq rfl (fun h4=>?_) (fun h4=>?_)
  ·have hi:i<size:=by omega
   refine zeq 13 O ?_;refine zlq (size-1) O O Xi ⟨by omega,by omega⟩ ?_;refine zbq O O (zlq (size-1-i) O O Xi ⟨by omega,by omega⟩ ?_);refine zaq 2 O ?_;refine zlq (8*i) O O Xi ⟨by omega,by omega⟩ ?_;refine zbq O O (zgq (w':=.int .u8 ((n/256^i%256:Nat):Int)) O O (congrArg (fun n:Nat=>W.int .u8 (n:Int)) (shr_byte n i Xd)) ?_);refine zbq rfl (zLq (i:=size-1-i) O O O O O O O Xd) ?_;refine znq rfl (jLq O O O O O (qSq (be_at n size i hi) O O) (congrArg (fun L=>[(0,5,W.arr (size*1) 1 L)]) (be_set n size i hi))) ?_;refine zaq 4 O ?_;refine zlq (i+1) O O Xi ⟨by omega,by omega⟩ ?_;refine yyq 2 O ?_;exact jDq (i+1) (hi) Xd ⟨rfl,trivial⟩ ⟨rfl,rfl,rfl,rfl,rfl,rfl,trivial⟩ rfl
  ·refine zeq 2 O ?_;refine qoq Xj ?_;refine zCq 10 O ?_;have:i=size:=by omega
   subst this;refine fin (.inr rfl) Ent.refl rfl ⟨rfl,rfl,?_,rfl⟩;rw[Nat.sub_self];rfl
theorem shl8(n:Nat):(Int.ofNat (Nat.shiftLeft n (min 8 64)))=((256*n:Nat):Int):=by
 rw[show Nat.shiftLeft n (min 8 64)=n*2^8 from Nat.shiftLeft_eq n 8,Nat.mul_comm];rfl
theorem or_low(n c:Nat)(hn:256*n<18446744073709551616)(hc:c<256):Nat.lor (256*n%18446744073709551616) (c%18446744073709551616)=256*n+c:=by
 rw[Nat.mod_eq_of_lt hn,Nat.mod_eq_of_lt Xd];have:=Nat.two_pow_add_eq_or_of_lt (i:=8) (b:=c) Xd n;rw[Nat.mul_comm] at this;rw[show Nat.lor (256*n) c=256*n|||c from rfl,Nat.mul_comm 256 n];rw[Nat.mul_comm] at this;rw[Nat.mul_comm n 256];exact this.symm
theorem pow256_le{i:Nat}(h:i<=8):256^i<=18446744073709551616:=by
 have h':∀i,i<=8->256^i<=18446744073709551616:=by decide
 exact h' i h
theorem numB_take{l:List UInt8}{i:Nat}{c:UInt8}(h:l[i]? =some c):numB (l.take (i+1))=256*numB (l.take i)+c.toNat:=by
 rw[List.take_add_one,h];exact numB_snoc _ _
theorem ZLq{l:List UInt8}{i:Nat}(h:i<=7):256*numB (l.take i)<18446744073709551616:=by
 have h1:=YQq (l.take i);have h2:256^(l.take i).length<=256^i:=Nat.pow_le_pow_right Xd Xu;have h3:=pow256_le (i:=i+1) Xd;rw[Nat.pow_succ] at h3;omega
theorem k1q(l:List UInt8)(f:Bool)(size:Nat)(hs:1<=size)(hs8:size<=8)(hl:l.length<size):PS cfg G 246 [.fz (zdq l) 1 f,.int .i64 (size:Int)] (.tup [.int .u64 0,.nils,.int .i64 10]):=by
 have e:=ziq l;refine zFq (fn:=Tryz.f246) O O O (Ob rfl) (fun R k0=>?_);refine zjq 12 O ?_;refine yZq O O (fun h1=>?_) (fun h1=>?_)
 ·exfalso;omega
 refine zaq 2 O ?_;refine yVq O O ?_;refine zaq 4 O ?_;refine zyq rfl (fun h2=>?_) (fun h2=>?_)
 ·exfalso;omega
 refine zeq 3 O ?_;refine zgq (w':=.int .i64 (l.length:Int)) O O Xy ?_;refine zbq O O (yVq O O ?_);refine zaq 3 O ?_;refine zyq rfl (fun h3=>?_) (fun h3=>?_)
 ·refine zeq 10 O ?_;first|exact zhq (.inr rfl) O O|exact zhq (.inl rfl) O O|(exfalso;omega)
 ·exfalso;omega
theorem xTq(l:List UInt8)(f:Bool)(size:Nat)(hs:1<=size)(hs8:size<=8)(hl:size<=l.length)(hb:l.length<=70368744177664):PS cfg G 246 [.fz (zdq l) 1 f,.int .i64 (size:Int)] (.tup [.int .u64 (numB (l.take size):Nat),bW (l.drop size),.int .i64 0]):=by
 have e:=ziq l;have el:(l.take size).length=size:=by simp;omega
 refine zFq (fn:=Tryz.f246) O O O (Ob rfl) (fun R k0=>?_);refine zjq 12 O ?_;refine yZq O O (fun h1=>?_) (fun h1=>?_)
 ·exfalso;omega
 refine zaq 2 O ?_;refine yVq O O ?_;refine zaq 4 O ?_;refine zyq rfl (fun h2=>?_) (fun h2=>?_)
 ·exfalso;omega
 refine zeq 3 O ?_;refine zgq (w':=.int .i64 (l.length:Int)) O O Xy ?_;refine zbq O O (yVq O O ?_);refine zaq 3 O ?_;refine zyq rfl (fun h3=>?_) (fun h3=>?_)
 ·exfalso;omega
 refine zeq 9 O ?_;refine zbq rfl (cut_fz3 (ys:=zdq (l.take size)) (l:=0) (h:=size) (m:=size) O O O O O O O O (Nat.zero_le _) (Nat.le_refl _) Xd hs (by rw[List.drop_zero,Nat.sub_zero,Quq]) rfl) ?_;refine zgq (w':=.int .i64 (size:Int)) O O (by show W.int .i64 ((zdq (l.take size)).length:Int)=_;rw[ziq,el]) ?_;refine zaq 4 O ?_;refine yEq (α:=Nat) (fun i=>i<=size) (fun i=>[(26,.int .i64 (i:Int)),(4,.int .u64 (numB (l.take i):Nat))]) [(0,_),(1,_),(5,_),(6,_),(24,_),(25,_)] (fun i=>size-i) (0) ⟨rfl,rfl,rfl,rfl,rfl,rfl,trivial⟩ (Nat.zero_le _) ⟨rfl,rfl,trivial⟩ (fun i hI=>?_);refine zjq 6 O ?_;refine zyq rfl (fun h4=>?_) (fun h4=>?_)
 ·have hi:i<size:=by omega
  obtain⟨c,hc⟩:∃c,l[i]? =some c:=⟨_,List.getElem?_eq_getElem Xd⟩
  have hc2:(l.take size)[i]? =some c:=by rw[List.getElem?_take,if_pos hi];exact hc
  have hcl:=c.toNat_lt;have hn:=ZLq (l:=l) (i:=i) Xd;refine zeq 6 O ?_;refine zbq rfl (zBq (i:=i) O O O O O O O (v1q hc2)) ?_;refine zaq 6 O ?_;refine zlq (256*numB (l.take i)) O O (shl8 _) ⟨by omega,by omega⟩ ?_;refine zbq O O (zlq (c.toNat) O O Xi ⟨by omega,by omega⟩ ?_);refine zgq (w':=.int .u64 (numB (l.take (i+1)):Nat)) O O (congrArg (fun n:Nat=>W.int .u64 (n:Int)) ((or_low _ _ hn hcl).trans (numB_take hc).symm)) ?_;refine zaq 5 O ?_;refine zlq (i+1) O O Xi ⟨by omega,by omega⟩ ?_;refine yyq 2 O ?_;exact z5q (i+1) (hi) Xd ⟨rfl,rfl,trivial⟩ ⟨rfl,rfl,rfl,rfl,rfl,rfl,trivial⟩ Xg Xd Xm rfl
 ·have:i=size:=by omega
  subst this;refine zeq 2 O ?_;refine z3q Xj ?_;refine zCq 7 O ?_;refine zbq rfl (xbq (ys:=zdq (l.drop i)) (l:=i) (h:=(zdq l).length) O O O O O O O Xd (Nat.le_refl _) (by rw[List.take_of_length_le Xk,Qvq]) rfl) ?_;refine zkq O O O O O O (Qpq _ _ (by first|assumption|(simp;omega))) ?_;refine zaq 6 O ?_;exact zhq (.inr rfl) O O
end
section
attribute [local irreducible] CoW OpW FlW Step Spec
variable {G:Nat->Option W}
structure Acct where
 nonce:Nat
 balance:Nat
 deriving DecidableEq
def Acct.ok(a:Acct):Prop:=a.nonce<18446744073709551616/\a.balance<18446744073709551616
def Acct.zero:Acct:=⟨0,0⟩
noncomputable def aW(a:Acct):W:=.agg 2 [.int .u64 (a.nonce:Int),.int .u64 (a.balance:Int)]
@[simp] theorem aW_pur(a:Acct):purW (aW a)=true:=rfl
def qTq(a:Acct):List UInt8:=beB 8 a.nonce++beB 8 a.balance
def qLq(l:List UInt8):Acct×Nat:=if l.length<16 then(.zero,10) else if 16<l.length then(.zero,11) else
 if (⟨numB (l.take 8),numB (l.drop 8)⟩:Acct)= .zero then(.zero,8) else(⟨numB (l.take 8),numB (l.drop 8)⟩,0)
theorem uIq(a:Acct):(qTq a).length=16:=by simp[qTq]
theorem Ziq(a:Acct)(h:a.ok)(h0:a≠ .zero):qLq (qTq a)=(a,0):=by
 have e1:(qTq a).take 8=beB 8 a.nonce:=List.take_left' Xk;have e2:(qTq a).drop 8=beB 8 a.balance:=List.drop_left' Xk;unfold qLq;rw[uIq,if_neg Xd,if_neg Xd,e1,e2,numB_be,numB_be,Nat.mod_eq_of_lt (by exact h.1),Nat.mod_eq_of_lt (by exact h.2),if_neg h0]
theorem Knq(a b:Acct):eqW cfg 300 81 (aW a) (aW b)=some (decide (a=b)):=by
 have e:decide (a=b)=(decide ((a.nonce:Int)=b.nonce)&&(decide ((a.balance:Int)=b.balance)&&true)):=by
  cases a;cases b
  simp only[Acct.mk.injEq,Bool.and_true];rw[Bool.eq_iff_iff];simp only[decide_eq_true_eq,Bool.and_eq_true];omega
 rw[e];exact ulq O O O O (yXq O O O (umq O O) (yXq O O O (umq O O) vRq))
theorem abytes_s(a:Acct)(h:a.ok):PS cfg G 282 [aW a] (bW (qTq a)):=by
 have h1:a.nonce<256^8:=h.1;have h2:a.balance<256^8:=h.2;refine zFq (fn:=Tryz.f282) O O O (Ob rfl) (fun R k0=>?_);have l1:(zdq (beB 8 a.nonce)).length=8:=by rw[ziq,yCq]
 have l2:(zdq (beB 8 a.balance)).length=8:=by rw[ziq,yCq]
 refine zjq 10 O ?_
 ((refine zrq rfl (y3q (ext:=[]) O O O O O (QPq _ 8 Xd Xd Xv) List.nodup_nil Xk Xk (fun i ty w h=>by simp[hget] at h) O ?_);rintro w hp1 nw1 ⟨rfl,rfl,rfl⟩))
 refine zaq 11 O ?_
 ((refine zrq rfl (y3q (ext:=[]) O O O O O (QPq _ 8 Xd Xd Xv) List.nodup_nil Xk Xk (fun i ty w h=>by simp[hget] at h) O ?_);rintro w hp1 nw1 ⟨rfl,rfl,rfl⟩))
 refine zaq 11 O ?_;refine znq rfl (yoq O O (qxq (k:=ti5) (len:=8) (news:=zdq (beB 8 a.balance)) (olds:=zdq (beB 8 a.nonce)) O O O O (ymq O O O (kxq (n:=8) (m:=8) l2.symm rfl)) (by intro h;rw[h] at l2;simp at l2) Qh Qh rfl (by show 8*1<0+(8+(zdq (beB 8 a.balance)).length)*1;rw[l2];omega) rfl (kxq (n:=8) (m:=8) l1.symm rfl))) ?_;refine zaq 4 O ?_;refine xJq (fr2:=[(2,bW (qTq a))]) (.inr rfl) ⟨⟨_,rfl,.sl (xs:=zdq (qTq a)) rfl Xk ?_ Xj⟩,trivial⟩ O O;rw[qTq,y6q,l2];exact kxq (n:=16) (by rw[List.length_append,l1,l2]) rfl
theorem aread_s(l:List UInt8)(f:Bool)(hb:l.length<=70368744177664):PS cfg G 185 [.fz (zdq l) 1 f] (.tup [aW (qLq l).1,.int .i64 ((qLq l).2:Nat)]):=by
 by_cases q1:l.length<8
 ·have e:qLq l=(.zero,10):=by unfold qLq;rw[if_pos Xd]
  rw[e];refine zFq (fn:=Tryz.f185) O O O (Ob rfl) (fun R k0=>?_);refine zjq 15 O ?_;refine zkq O O O O O O (k1q _ _ 8 Xd Xd q1) ?_;refine zaq 27 O ?_;exact zhq (.inr rfl) O O
 have q2:(l.drop 8).length=l.length-8:=by simp
 by_cases q3:l.length<16
 ·have e:qLq l=(.zero,10):=by unfold qLq;rw[if_pos q3]
  rw[e];refine zFq (fn:=Tryz.f185) O O O (Ob rfl) (fun R k0=>?_);refine zjq 15 O ?_;first|(first|refine zkq O O O O O O (xTq l _ 8 Xd Xd Xd hb) ?_|refine zkq O O O O O O (k1q (l.drop 8) _ 8 Xd Xd Xd) ?_)|refine zkq O O O O O O (xTq _ _ 8 Xd Xd Xd hb) ?_|refine zkq O O O O O O (k1q _ _ 8 Xd Xd q1) ?_
  refine zaq 23 O ?_;first|(first|refine zkq O O O O O O (xTq l _ 8 Xd Xd Xd hb) ?_|refine zkq O O O O O O (k1q (l.drop 8) _ 8 Xd Xd Xd) ?_)|refine zkq O O O O O O (xTq _ _ 8 Xd Xd Xd hb) ?_|refine zkq O O O O O O (k1q _ _ 8 Xd Xd q1) ?_
  refine zaq 27 O ?_;exact zhq (.inr rfl) O O
 have e3:(l.drop 8).drop 8=[]↔l.length=16:=by rw[List.drop_drop,List.drop_eq_nil_iff];omega
 by_cases q4:16<l.length
 ·have e:qLq l=(.zero,11):=by unfold qLq;rw[if_neg q3,if_pos q4]
  have e4:¬(l.drop 8).drop 8=[]:=fun h=>by have:=e3.1 h;omega
  rw[e];refine zFq (fn:=Tryz.f185) O O O (Ob rfl) (fun R k0=>?_);refine zjq 15 O ?_
  (first|refine zkq O O O O O O (xTq l _ 8 Xd Xd Xd hb) ?_|refine zkq O O O O O O (xTq (l.drop 8) _ 8 Xd Xd Xd Xd) ?_)
  refine zaq 23 O ?_
  (first|refine zkq O O O O O O (xTq l _ 8 Xd Xd Xd hb) ?_|refine zkq O O O O O O (xTq (l.drop 8) _ 8 Xd Xd Xd Xd) ?_)
  refine zaq 24 O ?_;refine zkq O O O O O O (yrq (w':=.int .i64 11) (end_s _ _) (by rw[if_neg e4])) ?_;refine yVq O O ?_;refine zaq 14 O ?_;exact zhq (.inr rfl) O O
 ·have e4:(l.drop 8).drop 8=[]:=e3.2 Xd;have e5:(l.drop 8).take 8=l.drop 8:=List.take_of_length_le Xd;refine zFq (fn:=Tryz.f185) O O O (Ob rfl) (fun R k0=>?_);refine zjq 15 O ?_
  (first|refine zkq O O O O O O (xTq l _ 8 Xd Xd Xd hb) ?_|refine zkq O O O O O O (xTq (l.drop 8) _ 8 Xd Xd Xd Xd) ?_)
  refine zaq 23 O ?_
  (first|refine zkq O O O O O O (xTq l _ 8 Xd Xd Xd hb) ?_|refine zkq O O O O O O (xTq (l.drop 8) _ 8 Xd Xd Xd Xd) ?_)
  refine zaq 24 O ?_;refine zkq O O O O O O (yrq (w':=.int .i64 0) (end_s _ _) (by rw[if_pos e4])) ?_;refine yVq O O ?_;refine zaq 8 O ?_;refine zbq rfl (q3q O O O O (Knq ⟨numB (l.take 8),numB ((l.drop 8).take 8)⟩ .zero)) ?_;refine zaq 3 O ?_;refine zyq rfl (fun h1=>?_) (fun h1=>?_)
  ·refine zeq 10 O ?_
   have e:qLq l=(.zero,8):=by
    rw[e5] at h1;unfold qLq;rw[if_neg q3,if_neg q4,if_pos h1]
   rw[e];exact zhq (.inr rfl) O O
  ·refine zeq 11 O ?_
   have e:qLq l=(⟨numB (l.take 8),numB (l.drop 8)⟩,0):=by
    rw[e5] at h1;unfold qLq;rw[if_neg q3,if_neg q4,if_neg h1]
   rw[e];exact zhq (.inr rfl) rfl (by rw[e5];rfl)
end
end
abbrev Pr:=Dig×List UInt8
inductive T where
 |nil
 |leaf (k:Dig) (v:List UInt8)
 |fork (l r:T)
 deriving Inhabited
def T.all:T->List Pr
 |.nil=>[]
 |.leaf k v=>[(k,v)]
 |.fork l r=>l.all++r.all
def T.isFork:T->Bool
 |.fork _ _=>true
 |_=>false
def T.non:T->Bool
 |.nil=>false
 |_=>true
def T.two(l r:T):Bool:=l.isFork||r.isFork||(l.non&&r.non)
def T.ok:Nat->Dig->T->Bool
 |_,_,.nil=>true
 |d,b,.leaf k _=>decide (d<=yiq k b)
 |d,b,.fork l r=>decide (d<256)&&T.ok (d+1) b l&&T.ok (d+1) (qMq b d) r&&T.two l r
def T.find(k:Dig):Nat->T->Option (List UInt8)
 |_,.nil=>none
 |_,.leaf k' v=>if k'=k then some v else none
 |d,.fork l r=>if bitN k d=0 then l.find k (d+1) else r.find k (d+1)
def T.roads(d:Nat):T->T×T
 |.nil=>(.nil,.nil)
 |.leaf k v=>if bitN k d=0 then(.leaf k v,.nil) else(.nil,.leaf k v)
 |.fork l r=>(l,r)
def T.put(k:Dig)(v:List UInt8):Nat->T->T
 |_,.nil=>.leaf k v
 |0,.leaf _ _=>.leaf k v
 |0,.fork l r=>.fork l r
 |f+1,.leaf k' v'=>if k'=k then .leaf k v else
  if bitN k (255-f)=0 then .fork (T.put k v f (T.roads (255-f) (.leaf k' v')).1) (T.roads (255-f) (.leaf k' v')).2
  else .fork (T.roads (255-f) (.leaf k' v')).1 (T.put k v f (T.roads (255-f) (.leaf k' v')).2)
 |f+1,.fork l r=>if bitN k (255-f)=0 then .fork (T.put k v f l) r else .fork l (T.put k v f r)
def T.alone(l r:T):Option T:=
 match l,r with
 |.nil,.nil=>some .nil
 |.nil,.leaf k v=>some (.leaf k v)
 |.leaf k v,.nil=>some (.leaf k v)
 |_,_=>none
def T.join(l r:T):T:=(T.alone l r).getD (.fork l r)
def T.drop(k:Dig):Nat->T->T
 |_,.nil=>.nil
 |_,.leaf _ _=>.nil
 |d,.fork l r=>if bitN k d=0 then T.join (l.drop k (d+1)) r else T.join l (r.drop k (d+1))
def Srt(l:List Pr):Prop:=l.Pairwise fun a b=>z2q a.1 b.1=true
def kuq(l:List Pr)(k:Dig)(v:List UInt8):List Pr:=l.filter (fun p=>z2q p.1 k)++(k,v)::l.filter (fun p=>z2q k p.1)
def zKq(l:List Pr)(k:Dig):List Pr:=l.filter fun p=>decide (p.1≠k)
def jqq(l:List Pr)(k:Dig):Option (List UInt8):=(l.find? fun p=>decide (p.1=k)).map (·.2)
theorem findL_none{l:List Pr}{k:Dig}:jqq l k=none↔∀p∈l,p.1≠k:=by
 simp only[jqq,Option.map_eq_none_iff,List.find?_eq_none,decide_eq_true_eq]
theorem srt_uniq{l:List Pr}(h:Srt l){p q:Pr}(hp:p∈l)(hq:q∈l)(e:p.1=q.1):p=q:=by
 induction l with
 |nil=>simp at hp
 |cons x l ih=>
  have h:=List.pairwise_cons.1 h;simp only[List.mem_cons] at hp hq;rcases hp with rfl|hp<;>rcases hq with rfl|hq
  ·rfl
  ·exact absurd e (xSq (h.1 q hq))
  ·exact absurd e.symm (xSq (h.1 p hp))
  ·exact ih h.2 hp hq
theorem ksq{l:List Pr}(h:Srt l){k:Dig}{v:List UInt8}:jqq l k=some v↔(k,v)∈l:=by
 simp only[jqq,Option.map_eq_some_iff];constructor
 ·rintro⟨⟨k',v'⟩,h1,rfl⟩;have h2:=List.find?_some h1;have:=List.mem_of_find?_eq_some h1;simp only[decide_eq_true_eq] at h2;subst h2;exact this
 ·intro hm;cases hf:l.find? fun p=>decide (p.1=k) with
  |none=>
   have:=List.find?_eq_none.1 hf _ hm;simp at this
  |some p=>
   have h2:=List.find?_some hf;have h3:=List.mem_of_find?_eq_some hf;simp only[decide_eq_true_eq] at h2;have:=srt_uniq h h3 hm h2;exact⟨p,rfl,by rw[this]⟩
theorem mem_withL{l:List Pr}{k:Dig}{v:List UInt8}{p:Pr}:p∈kuq l k v↔p=(k,v)\/(p∈l/\p.1≠k):=by
 simp only[kuq,List.mem_append,List.mem_filter,List.mem_cons];constructor
 ·rintro(⟨h1,h2⟩|rfl|⟨h1,h2⟩)
  ·exact .inr ⟨h1,xSq h2⟩
  ·exact .inl rfl
  ·exact .inr ⟨h1,fun e=>xSq h2 e.symm⟩
 ·rintro(rfl|⟨h1,h2⟩)
  ·exact .inr (.inl rfl)
  ·rcases vlq h2 with h|h
   ·exact .inl ⟨h1,h⟩
   ·exact .inr (.inr ⟨h1,h⟩)
theorem Ysq{l:List Pr}(h:Srt l)(k:Dig)(v:List UInt8):Srt (kuq l k v):=by
 refine List.pairwise_append.2 ⟨List.Pairwise.filter _ h,List.pairwise_cons.2 ⟨fun p hp=>(List.mem_filter.1 hp).2,List.Pairwise.filter _ h⟩,fun p hp q hq=>?_⟩;have hp:=(List.mem_filter.1 hp).2;rcases List.mem_cons.1 hq with rfl|hq
 ·exact hp
 ·exact xRq hp (List.mem_filter.1 hq).2
theorem mem_withoutL{l:List Pr}{k:Dig}{p:Pr}:p∈zKq l k↔p∈l/\p.1≠k:=by simp[zKq]
theorem ZIq{l:List Pr}(h:Srt l)(k:Dig):Srt (zKq l k):=List.Pairwise.filter _ h
theorem findL_with{l:List Pr}(h:Srt l)(k o:Dig)(v:List UInt8):jqq (kuq l k v) o=if o=k then some v else jqq l o:=by
 split
 ·rename_i e;subst e
  exact(ksq (Ysq h _ _)).2 (mem_withL.2 (.inl rfl))
 ·rename_i hne;cases hf:jqq l o with
  |none=>
   refine findL_none.2 fun p hp e=>?_
   rcases mem_withL.1 hp with rfl|⟨h1,h2⟩
   ·exact hne e.symm
   ·exact findL_none.1 hf p h1 e
  |some w=>exact(ksq (Ysq h _ _)).2 (mem_withL.2 (.inr ⟨(ksq h).1 hf,hne⟩))
theorem Kkq{l:List Pr}(h:Srt l)(k o:Dig):jqq (zKq l k) o=if o=k then none else jqq l o:=by
 split
 ·rename_i e;subst e
  exact findL_none.2 fun p hp=>(mem_withoutL.1 hp).2
 ·rename_i hne;cases hf:jqq l o with
  |none=>exact findL_none.2 fun p hp=>findL_none.1 hf p (mem_withoutL.1 hp).1
  |some w=>exact(ksq (ZIq h _)).2 (mem_withoutL.2 ⟨(ksq h).1 hf,hne⟩)
def Zr(d:Nat)(b:Dig):Prop:=∀j,d<=j->j<256->bitN b j=0
theorem jnq{d:Nat}{b:Dig}(h:Zr d b):Zr (d+1) b:=fun j h1 h2=>h j Xd h2
theorem jmq{d:Nat}{b:Dig}(h:Zr d b)(hd:d<256):Zr (d+1) (qMq b d):=fun j h1 h2=>by rw[Qyq b d j hd h2 Xd];exact h j Xd h2
theorem jQq:Zr 0 qHq:=fun j _ hj=>by
 unfold bitN
 have:kn qHq (j/8)=0:=by
  unfold kn qHq;simp only[List.getElem?_replicate];split<;>rfl
 rw[this];simp
theorem JEq{b:Dig}{d:Nat}(hd:d<256){j:Nat}(hj:j<d):bitN (qMq b d) j=bitN b j:=Qyq b d j hd Xd Xd
theorem side_l{b k:Dig}{d:Nat}(hz:Zr d b)(hd:d<256)(h:d+1<=yiq k b):d<=yiq k b/\bitN k d=0:=
 ⟨by omega,by rw[(yKq Xd).1 h d Xd];exact hz d (Nat.le_refl _) hd⟩
theorem side_r{b k:Dig}{d:Nat}(hz:Zr d b)(hd:d<256)(h:d+1<=yiq k (qMq b d)):d<=yiq k b/\bitN k d=1:=by
 have h1:=(yKq Xd).1 h;refine⟨(yKq Xd).2 fun j hj=>?_,?_⟩
 ·rw[h1 j Xd,JEq hd hj]
 ·rw[h1 d Xd,Qzq b d hd,hz d (Nat.le_refl _) hd]
theorem xsq{b k:Dig}{d:Nat}(hz:Zr d b)(hd:d<256)(h:d<=yiq k b)(hb:bitN k d=0):d+1<=yiq k b:=by
 refine(yKq Xd).2 fun j hj=>?_
 rcases Nat.lt_succ_iff_lt_or_eq.1 hj with hj|rfl
 ·exact(yKq Xd).1 h j hj
 ·rw[hb,hz j (Nat.le_refl _) hd]
theorem xrq{b k:Dig}{d:Nat}(hz:Zr d b)(hd:d<256)(h:d<=yiq k b)(hb:¬bitN k d=0):d+1<=yiq k (qMq b d):=by
 refine(yKq Xd).2 fun j hj=>?_
 rcases Nat.lt_succ_iff_lt_or_eq.1 hj with hj|rfl
 ·rw[JEq hd hj];exact(yKq Xd).1 h j hj
 ·rw[Qzq b j hd,hz j (Nat.le_refl _) hd];have:=jtq k j;omega
theorem ok_fork{d:Nat}{b:Dig}{l r:T}:T.ok d b (.fork l r)=true↔d<256/\T.ok (d+1) b l=true/\T.ok (d+1) (qMq b d) r=true/\T.two l r=true:=by
 simp only[T.ok,Bool.and_eq_true,decide_eq_true_eq,and_assoc]
theorem x9q:∀{t:T} {d:Nat} {b:Dig},Zr d b->t.ok d b=true->∀p∈t.all,d<=yiq p.1 b
 |.nil,_,_,_,_,p,hp=>by simp[T.all] at hp
 |.leaf k v,d,b,_,h,p,hp=>by
  simp only[T.all,List.mem_singleton] at hp;subst hp;exact of_decide_eq_true h
 |.fork l r,d,b,hz,h,p,hp=>by
  obtain⟨hd,h1,h2,_⟩:=ok_fork.1 h;simp only[T.all,List.mem_append] at hp;rcases hp with hp|hp
  ·exact(side_l hz hd (x9q (jnq hz) h1 p hp)).1
  ·exact(side_r hz hd (x9q (jmq hz hd) h2 p hp)).1
theorem YOq{l r:T}{d:Nat}{b:Dig}(hz:Zr d b)(h:(T.fork l r).ok d b=true):(∀p∈l.all,bitN p.1 d=0)/\∀p∈r.all,bitN p.1 d=1:=by
 obtain⟨hd,h1,h2,_⟩:=ok_fork.1 h;exact⟨fun p hp=>(side_l hz hd (x9q (jnq hz) h1 p hp)).2,fun p hp=>(side_r hz hd (x9q (jmq hz hd) h2 p hp)).2⟩
theorem v3q{a b c:Dig}{d:Nat}(hd:d<256)(ha:d<=yiq a c)(hb:d<=yiq b c)(h0:bitN a d=0)(h1:bitN b d=1):z2q a b=true:=
 ahead_iff.2 ⟨d,hd,fun j hj=>by rw[(yKq Xd).1 ha j hj,(yKq Xd).1 hb j hj],h0,h1⟩
theorem ok_srt:∀{t:T} {d:Nat} {b:Dig},Zr d b->t.ok d b=true->Srt t.all
 |.nil,_,_,_,_=>List.Pairwise.nil
 |.leaf k v,_,_,_,_=>List.pairwise_singleton _ _
 |.fork l r,d,b,hz,h=>by
  obtain⟨hd,h1,h2,_⟩:=ok_fork.1 h;refine List.pairwise_append.2 ⟨ok_srt (jnq hz) h1,ok_srt (jmq hz hd) h2,fun p hp q hq=>?_⟩;have a1:=side_l hz hd (x9q (jnq hz) h1 p hp);have a2:=side_r hz hd (x9q (jmq hz hd) h2 q hq);exact v3q hd a1.1 a2.1 a1.2 a2.2
theorem uhq(k:Dig):∀{t:T} {d:Nat} {b:Dig},Zr d b->t.ok d b=true->t.find k d=jqq t.all k
 |.nil,_,_,_,_=>rfl
 |.leaf k' v,_,_,_,_=>by
  simp only[T.find,T.all,jqq,List.find?_cons,List.find?_nil];by_cases e:k'=k<;>simp[e]
 |.fork l r,d,b,hz,h=>by
  obtain⟨hd,h1,h2,_⟩:=ok_fork.1 h;obtain⟨k1,k2⟩:=YOq hz h;have i1:=uhq k (jnq hz) h1;have i2:=uhq k (jmq hz hd) h2;simp only[T.find,T.all,jqq,List.find?_append];simp only[jqq] at i1 i2;split
  ·rename_i hb
   have:r.all.find? (fun p=>decide (p.1=k))=none:=List.find?_eq_none.2 fun p hp e=>by
    have:=k2 p hp;rw[of_decide_eq_true e] at this;omega
   rw[this,Option.or_none,i1]
  ·rename_i hb
   have:l.all.find? (fun p=>decide (p.1=k))=none:=List.find?_eq_none.2 fun p hp e=>by
    have:=k1 p hp;rw[of_decide_eq_true e] at this;omega
   rw[this,Option.none_or,i2]
theorem JVq(k:Dig)(v:List UInt8):∀(f:Nat) (t:T),(t.put k v f).non=true
 |f,.nil=>by cases f<;>rfl
 |0,.leaf _ _=>rfl
 |0,.fork _ _=>rfl
 |f+1,.leaf k' v'=>by
  simp only[T.put];split
  ·rfl
  ·split<;>rfl
 |f+1,.fork l r=>by
  simp only[T.put];split<;>rfl
theorem put_fork(k:Dig)(v:List UInt8)(f:Nat){t:T}(h:t.isFork=true):(t.put k v f).isFork=true:=by
 cases t with
 |nil=>cases h
 |leaf _ _=>cases h
 |fork l r=>
  cases f with
  |zero=>rfl
  |succ f=>simp only[T.put];split<;>rfl
theorem tput_leaf(k k':Dig)(v v':List UInt8)(f:Nat)(h:k'≠k):((T.leaf k' v').put k v (f+1)).isFork=true:=by
 simp only[T.put,if_neg h];split<;>rfl
theorem two_l{l l' r:T}(h:T.two l r=true)(h1:l.isFork=true->l'.isFork=true)(h2:l'.non=true):T.two l' r=true:=by
 cases l<;>cases l'<;>cases r<;>simp[T.two,T.isFork,T.non] at h h1 h2⊢
theorem two_r{l r r':T}(h:T.two l r=true)(h1:r.isFork=true->r'.isFork=true)(h2:r'.non=true):T.two l r'=true:=by
 cases l<;>cases r<;>cases r'<;>simp[T.two,T.isFork,T.non] at h h1 h2⊢
theorem vPq{l:List Pr}{p:Pr->Bool}(h:∀x∈l,p x=true):l.filter p=l:=List.filter_eq_self.2 h
theorem ujq{l:List Pr}{p:Pr->Bool}(h:∀x∈l,p x=false):l.filter p=[]:=List.filter_eq_nil_iff.2 fun x hx=>by rw[h x hx];exact Bool.false_ne_true
theorem withL_l{l r:List Pr}{k:Dig}(v:List UInt8)(h:∀p∈r,z2q k p.1=true):kuq (l++r) k v=kuq l k v++r:=by
 simp only[kuq,List.filter_append];rw[ujq (l:=r) (p:=fun p=>z2q p.1 k) fun p hp=>qCq (h p hp),vPq (l:=r) (p:=fun p=>z2q k p.1) h];simp
theorem withL_r{l r:List Pr}{k:Dig}(v:List UInt8)(h:∀p∈l,z2q p.1 k=true):kuq (l++r) k v=l++kuq r k v:=by
 simp only[kuq,List.filter_append];rw[vPq (l:=l) (p:=fun p=>z2q p.1 k) h,ujq (l:=l) (p:=fun p=>z2q k p.1) fun p hp=>qCq (h p hp)];simp
theorem withL_one(k:Dig)(v v':List UInt8):kuq [(k,v')] k v=[(k,v)]:=by
 simp[kuq,jZq]
theorem klq(k:Dig)(v:List UInt8):∀(f:Nat) (t:T) {d:Nat} {b:Dig},d+f=256->Zr d b->t.ok d b=true->d<=yiq k b->(t.put k v f).ok d b=true/\(t.put k v f).all=kuq t.all k v
 |f,.nil,d,b,_,hz,h,hk=>by
  cases f<;>exact⟨decide_eq_true hk,by simp[T.put,T.all,kuq]⟩
 |0,.leaf k' v',d,b,hf,hz,h,hk=>by
  have h:=of_decide_eq_true h;have:k'=k:=Yeq fun j hj=>by rw[(yKq Xd).1 h j Xd,(yKq Xd).1 hk j Xd]
  subst this;exact⟨decide_eq_true hk,by simp only[T.put,T.all];rw[withL_one]⟩
 |0,.fork l r,d,b,hf,hz,h,hk=>by
  obtain⟨hd,_⟩:=ok_fork.1 h;omega
 | f + 1,.leaf k' v',d,b,hf,hz,h,hk=>by
  have hd:d<256:=by omega
  have ed:255-f=d:=by omega
  have h:=of_decide_eq_true h;simp only[T.put,ed];by_cases e:k'=k
  ·subst e;simp only[if_true];exact⟨decide_eq_true hk,by simp only[T.all];rw[withL_one]⟩
  ·rw [if_neg e];have b1:=jtq k' d;have b2:=jtq k d;by_cases hb:bitN k d=0
   ·rw [if_pos hb];by_cases hb':bitN k' d=0
    ·simp only[T.roads,hb',if_true];have hs:(T.leaf k' v').ok (d+1) b=true:=decide_eq_true (xsq hz hd h hb');obtain⟨i1,i2⟩:=klq k v f (.leaf k' v') (d:=d+1) Xd (jnq hz) hs (xsq hz hd hk hb);refine⟨ok_fork.2 ⟨hd,i1,rfl,?_⟩,by simp only[T.all,List.append_nil];exact i2⟩;cases f with
     |zero=>
      exfalso
      refine e (Yeq fun j hj=>?_);rcases Nat.lt_or_ge j d with h1|h1
      ·rw[(yKq Xd).1 h j h1,(yKq Xd).1 hk j h1]
      ·have:j=d:=by omega
       rw[this,hb,hb']
     |succ f=>simp only[T.two,tput_leaf k k' v v' f e,Bool.true_or]
    ·simp only[T.roads,hb',if_false];obtain⟨i1,i2⟩:=klq k v f .nil (d:=d+1) Xd (jnq hz) rfl (xsq hz hd hk hb);refine⟨ok_fork.2 ⟨hd,i1,decide_eq_true (xrq hz hd h hb'),?_⟩,?_⟩
     ·rw[show T.put k v f .nil= .leaf k v by cases f<;>rfl];rfl
     ·simp only[T.all];have ha:z2q k k'=true:=v3q hd hk h hb Xd;have e0:(T.put k v f .nil).all=[(k,v)]:=by cases f<;>rfl
      rw[e0];simp[kuq,ha,qCq ha]
   ·rw [if_neg hb];by_cases hb':bitN k' d=0
    ·simp only[T.roads,hb',if_true];obtain⟨i1,i2⟩:=klq k v f .nil (d:=d+1) Xd (jmq hz hd) rfl (xrq hz hd hk hb);refine⟨ok_fork.2 ⟨hd,decide_eq_true (xsq hz hd h hb'),i1,?_⟩,?_⟩
     ·rw[show T.put k v f .nil= .leaf k v by cases f<;>rfl];rfl
     ·simp only[T.all];have ha:z2q k' k=true:=v3q hd h hk hb' Xd;have e0:(T.put k v f .nil).all=[(k,v)]:=by cases f<;>rfl
      rw[e0];simp[kuq,ha,qCq ha]
    ·simp only[T.roads,hb',if_false];have hs:(T.leaf k' v').ok (d+1) (qMq b d)=true:=decide_eq_true (xrq hz hd h hb');obtain⟨i1,i2⟩:=klq k v f (.leaf k' v') (d:=d+1) Xd (jmq hz hd) hs (xrq hz hd hk hb);refine⟨ok_fork.2 ⟨hd,rfl,i1,?_⟩,by simp only[T.all,List.nil_append];exact i2⟩;cases f with
     |zero=>
      exfalso
      refine e (Yeq fun j hj=>?_);rcases Nat.lt_or_ge j d with h1|h1
      ·rw[(yKq Xd).1 h j h1,(yKq Xd).1 hk j h1]
      ·have:j=d:=by omega
       rw[this];omega
     |succ f=>simp only[T.two,tput_leaf k k' v v' f e,Bool.true_or,Bool.or_true]
 |f+1,.fork l r,d,b,hf,hz,h,hk=>by
  have hd:d<256:=by omega
  have ed:255-f=d:=by omega
  obtain⟨_,h1,h2,h3⟩:=ok_fork.1 h;obtain⟨k1,k2⟩:=YOq hz h;simp only[T.put,ed];have b2:=jtq k d;split
  ·rename_i hb;obtain⟨i1,i2⟩:=klq k v f l (d:=d+1) Xd (jnq hz) h1 (xsq hz hd hk hb);refine⟨ok_fork.2 ⟨hd,i1,h2,two_l h3 (put_fork k v f) (JVq k v f l)⟩,?_⟩;simp only[T.all,i2];exact(withL_l v fun p hp=>v3q hd hk (side_r hz hd (x9q (jmq hz hd) h2 p hp)).1 hb (k2 p hp)).symm
  ·rename_i hb;obtain⟨i1,i2⟩:=klq k v f r (d:=d+1) Xd (jmq hz hd) h2 (xrq hz hd hk hb);refine⟨ok_fork.2 ⟨hd,h1,i1,two_r h3 (put_fork k v f) (JVq k v f r)⟩,?_⟩;simp only[T.all,i2];exact(withL_r v fun p hp=>v3q hd (side_l hz hd (x9q (jnq hz) h1 p hp)).1 hk (k1 p hp) Xd).symm
theorem join_all(l r:T):(T.join l r).all=l.all++r.all:=by
 cases l<;>cases r<;>simp[T.join,T.alone,T.all]
theorem ok_up{t:T}{d:Nat}{b:Dig}(h:t.ok (d+1) b=true)(hf:t.isFork=false):t.ok d b=true:=by
 cases t with
 |nil=>rfl
 |leaf k v=>exact decide_eq_true (by have:=of_decide_eq_true h;omega)
 |fork l r=>cases hf
theorem ok_upr{t:T}{d:Nat}{b:Dig}(hd:d<256)(h:t.ok (d+1) (qMq b d)=true)(hf:t.isFork=false):t.ok d b=true:=by
 cases t with
 |nil=>rfl
 |leaf k v=>
  have h:=of_decide_eq_true h;refine decide_eq_true ((yKq Xd).2 fun j hj=>?_);rw[(yKq Xd).1 h j Xd,JEq hd hj]
 |fork l r=>cases hf
theorem join_ok{l r:T}{d:Nat}{b:Dig}(hd:d<256)(h1:l.ok (d+1) b=true)(h2:r.ok (d+1) (qMq b d)=true):(T.join l r).ok d b=true:=by
 cases l<;>cases r<;>simp only[T.join,T.alone,Option.getD_some,Option.getD_none]
 ·rfl
 ·exact ok_upr hd h2 rfl
 ·exact ok_fork.2 ⟨hd,h1,h2,rfl⟩
 ·exact ok_up h1 rfl
 ·exact ok_fork.2 ⟨hd,h1,h2,rfl⟩
 ·exact ok_fork.2 ⟨hd,h1,h2,rfl⟩
 ·exact ok_fork.2 ⟨hd,h1,h2,rfl⟩
 ·exact ok_fork.2 ⟨hd,h1,h2,rfl⟩
 ·exact ok_fork.2 ⟨hd,h1,h2,rfl⟩
theorem jAq{l:List Pr}{k:Dig}(h:∀p∈l,p.1≠k):zKq l k=l:=List.filter_eq_self.2 fun p hp=>decide_eq_true (h p hp)
theorem vUq(k:Dig):∀(t:T) {d:Nat} {b:Dig},Zr d b->t.ok d b=true->(t.find k d).isSome=true->(t.drop k d).ok d b=true/\(t.drop k d).all=zKq t.all k
 |.nil,d,b,_,_,h=>by simp[T.find] at h
 |.leaf k' v,d,b,_,_,h=>by
  simp only[T.find] at h;split at h
  ·rename_i e;subst e
   exact⟨rfl,by simp[T.drop,T.all,zKq]⟩
  ·cases h
 |.fork l r,d,b,hz,h,hs=>by
  obtain⟨hd,h1,h2,h3⟩:=ok_fork.1 h;obtain⟨k1,k2⟩:=YOq hz h;simp only[T.find] at hs;simp only[T.drop,T.all,zKq,List.filter_append];split
  ·rename_i hb;rw[if_pos hb] at hs;obtain⟨i1,i2⟩:=vUq k l (jnq hz) h1 hs;refine⟨join_ok hd i1 h2,?_⟩;rw[join_all,i2];congr 1
   exact(jAq fun p hp e=>by have:=k2 p hp;rw[e] at this;omega).symm
  ·rename_i hb;rw[if_neg hb] at hs;obtain⟨i1,i2⟩:=vUq k r (jmq hz hd) h2 hs;refine⟨join_ok hd h1 i1,?_⟩;rw[join_all,i2];congr 1
   exact(jAq fun p hp e=>by have:=k1 p hp;rw[e] at this;omega).symm
section
open Go.RowKit
section
attribute [local irreducible] CoW OpW FlW Step Spec
variable {G:Nat->Option W}
noncomputable def pW(x:Pr):W:=.agg 33 [dW x.1,bW x.2]
@[simp] theorem pW_pur(x:Pr):purW (pW x)=true:=by simp[pW]
structure Node where
 leaf:Bool
 key:Dig
 val:List UInt8
 left:Int
 right:Int
noncomputable def nW(x:Node):W:=.agg 36 [.bool x.leaf,dW x.key,bW x.val,.int .i64 x.left,.int .i64 x.right]
@[simp] theorem nW_pur(x:Node):purW (nW x)=true:=by simp[nW]
def forkN(l r:Int):Node:=⟨false,qHq,[],l,r⟩
theorem tbit_s(k:Dig)(d:Nat)(h:d<256):PS cfg G 254 [dW k,.int .i64 (d:Int)] (.int .u8 (bitN k d:Nat)):=by
 refine zFq (fn:=Tryz.f254) O O O (Ob rfl) (fun R k0=>?_);refine zjq 10 O ?_;refine zkq O O O O O O (bit_in _ _ Xd) ?_;refine zaq 14 O ?_;first|exact zhq (.inr rfl) O O|exact zhq (.inl rfl) O O|(exfalso;omega)
theorem kAq(x:Node):PS cfg G 194 [nW x] (.arr 2 1 [.int .i64 x.left,.int .i64 x.right]):=by
 refine zFq (fn:=Tryz.f194) O O O (Ob rfl) (fun R k0=>?_);refine zjq 17 O ?_;first|exact zhq (.inr rfl) O O|exact zhq (.inl rfl) O O|(exfalso;omega)
theorem jNq(l r:Int):PS cfg G 258 [.arr 2 1 [.int .i64 l,.int .i64 r]] (nW (forkN l r)):=by
 refine q7q (fn:=Tryz.f258) O O O (Ob rfl) (fun R k0=>?_);refine zjq 8 O ?_;first|refine zbq rfl (zBq O O O O O O O Xl) ?_|refine zbq rfl (zLq O O O O O O O Xd) ?_|refine zbq rfl (zsq O O O O O O Xd) ?_|refine zbq O O ?_
 refine znq O O ?_;first|refine zbq rfl (zBq O O O O O O O Xl) ?_|refine zbq rfl (zLq O O O O O O O Xd) ?_|refine zbq rfl (zsq O O O O O O Xd) ?_|refine zbq O O ?_
 refine zaq 6 O ?_;refine jrq Xx O ?_
 (repeat (first|exact .nil|refine .cons ?_ ?_|exact jBq|exact .nilfz|refine .fn ?_ ?_|(refine y9q O ?_ rfl;(first|rfl|(focus (simp;done))))|(refine .sl O ?_ rfl Xj;(first|rfl|(focus (simp;done))))|(refine .pur ?_;(first|rfl|(focus (simp;done))))|(refine .fzw ?_;(first|rfl|(focus (simp;done))))|refine .agg ?_|refine .arr ?_|refine .tup ?_))
def valB(l:List UInt8):Bool:=decide (0<l.length)&&decide (l.length<=64)
theorem value_s(l:List UInt8)(f:Bool):PS cfg G 202 [.fz (zdq l) 1 f] (.bool (valB l)):=by
 have e:=ziq l;refine zFq (fn:=Tryz.f202) O O O (Ob rfl) (fun R k0=>?_);refine zjq 8 O ?_;refine zgq (w':=.int .i64 (l.length:Int)) O O Xy ?_;refine yZq O O (fun h1=>?_) (fun h1=>?_)
 ·refine zaq 2 O ?_;refine zgq (w':=.int .i64 (l.length:Int)) O O Xy ?_;refine yVq O O ?_;refine zaq 5 O ?_;have h0:0<l.length:=by omega
  exact zhq (.inr rfl) rfl (by unfold valB;congr 1;rw[decide_eq_true h0,Bool.true_and,decide_eq_decide];omega)
 ·refine zaq 9 O ?_;have h0:¬0<l.length:=by omega
  exact zhq (.inr rfl) rfl (by unfold valB;rw[decide_eq_false h0];rfl)
def okAt(ps:List Pr)(i:Nat):Prop:=∀x,ps[i]? =some x->valB x.2=true/\∀y,0<i->ps[i-1]? =some y->z2q y.1 x.1=true
def MayP(ps:List Pr):Prop:=ps.length<=512/\∀i,i<ps.length->okAt ps i
noncomputable instance(ps:List Pr):Decidable (MayP ps):=Classical.propDecidable _
theorem kcq(ps:List Pr):purL (ps.map pW)=true:=qqq pW_pur ps
@[simp] theorem psW_pur'(ps:List Pr):purL (ps.map pW)=true:=kcq ps
theorem pcheck_s(ps:List Pr)(f:Bool)(hb:ps.length<=9223372036854775807):PS cfg G 129 [.fz (ps.map pW) 33 f] (.int .i64 (if MayP ps then 0 else 8)):=by
 have e:(ps.map pW).length=ps.length:=List.length_map _;refine zFq (fn:=Tryz.f129) O O O (Ob rfl) (fun R k0=>?_);refine zjq 9 O ?_;refine zgq (w':=.int .i64 (ps.length:Int)) O O Xy ?_;refine zaq 3 O ?_;refine zyq rfl (fun h1=>?_) (fun h1=>?_)
 ·refine zeq 7 O ?_;exact zhq (.inr rfl) rfl (by rw[if_neg fun h:MayP ps=>by have:=h.1;omega])
 ·refine zeq 6 O ?_;refine zgq (w':=.int .i64 (ps.length:Int)) O O Xy ?_;refine zaq 4 O ?_;refine yEq (α:=Nat) (fun i=>i<=ps.length/\∀j,j<i->okAt ps j) (fun i=>[(10,.int .i64 (i:Int))]) [(0,_),(2,_),(8,_),(9,_)] (fun i=>ps.length-i) (0) ⟨rfl,rfl,rfl,rfl,trivial⟩ (⟨Nat.zero_le _,fun j hj=>by omega⟩) ⟨rfl,trivial⟩ (fun i hI=>?_);obtain⟨hi,hI⟩:=hI;refine zjq 6 O ?_;refine zyq rfl (fun h2=>?_) (fun h2=>?_)
  ·have hi':i<ps.length:=by omega
   obtain⟨x,hx⟩:∃x,ps[i]? =some x:=⟨_,List.getElem?_eq_getElem hi'⟩
   refine zeq 7 O ?_;refine zbq rfl (zBq (i:=i) O O O O O O O (zYq pW hx)) ?_;refine zaq 10 O ?_;refine yxq O O O O O O (value_s _ _) ?_;refine fl_bz (fun h3=>?_) (fun h3=>?_)
   ·refine zoq 3 O ?_;refine fl_dz O O (fun h4=>?_) (fun h4=>?_)
    ·refine zoq 3 O ?_;refine qNq (i-1) O O Xi ⟨by omega,by omega⟩ ?_;refine zcq rfl (zBq (i:=i-1) O O O O O O O (zYq pW (List.getElem?_eq_getElem Xd))) ?_;refine zoq 4 O ?_;refine yxq O O O O O O (ahead_s _ _) ?_;refine zoq 5 O ?_;refine zyq rfl (fun h5=>?_) (fun h5=>?_)
     ·refine zeq 8 O ?_;refine z3q Xj ?_;refine zCq 2 O ?_
      have no:¬MayP ps:=fun h=>by
       have:=(h.2 i hi' x hx).2 _ Xd (List.getElem?_eq_getElem Xd);rw[this] at h5;simp at h5
      exact zhq (.inr rfl) rfl (by rw[if_neg no])
     ·have ok:okAt ps i:=fun x' hx'=>by
       obtain rfl:=Option.some.inj (hx.symm.trans hx');refine⟨h3,fun y h0 hy=>?_⟩;obtain rfl:=Option.some.inj ((List.getElem?_eq_getElem (show i-1<ps.length by omega)).symm.trans hy);simpa using h5
      refine zeq 4 O ?_;refine zlq (i+1) O O Xi ⟨by omega,by omega⟩ ?_;refine yyq 2 O ?_;exact z5q (i+1) (⟨hi',fun j hj=>by rcases Nat.lt_succ_iff_lt_or_eq.1 hj with h|rfl<;>first|exact hI j h|exact ok⟩) Xd ⟨rfl,trivial⟩ ⟨rfl,rfl,rfl,rfl,trivial⟩ Xg Xd Xm rfl
    ·have ok:okAt ps i:=fun x' hx'=>by
      obtain rfl:=Option.some.inj (hx.symm.trans hx');exact⟨h3,fun y h0 hy=>by omega⟩
     refine zoq 20 O ?_;refine zlq (i+1) O O Xi ⟨by omega,by omega⟩ ?_;refine yyq 2 O ?_;exact z5q (i+1) (⟨hi',fun j hj=>by rcases Nat.lt_succ_iff_lt_or_eq.1 hj with h|rfl<;>first|exact hI j h|exact ok⟩) Xd ⟨rfl,trivial⟩ ⟨rfl,rfl,rfl,rfl,trivial⟩ Xg Xd Xm rfl
   ·refine zoq 28 O ?_;refine z3q Xj ?_;refine zCq 2 O ?_;exact zhq (.inr rfl) rfl (by rw[if_neg fun h:MayP ps=>h3 (h.2 i hi' x hx).1])
  ·refine zeq 2 O ?_;refine z3q Xj ?_;refine zCq 8 O ?_;have yes:MayP ps:=⟨by omega,fun j hj=>hI j Xd⟩;exact zhq (.inr rfl) rfl Yx
def oneB(x:Node)(n:Nat):Prop:=if x.leaf then x.left=0/\x.right=0/\MayP [(x.key,x.val)] else(0<=x.left/\x.left<=n)/\(0<=x.right/\x.right<=n)/\x.key=qHq/\x.val=[]/\0<x.left+x.right
noncomputable instance(x:Node)(n:Nat):Decidable (oneB x n):=Classical.propDecidable _
theorem one_s(x:Node)(n:Nat)(hn:n<=4611686018427387903):PS cfg G 186 [nW x,.int .i64 (n:Int)] (.bool (decide (oneB x n))):=by
 refine zFq (fn:=Tryz.f186) O O O (Ob rfl) (fun R k0=>?_);refine zjq 13 O ?_;refine zyq rfl (fun h1=>?_) (fun h1=>?_)
 ·refine zeq 4 O ?_;refine yZq O O (fun h2=>?_) (fun h2=>?_)
  ·refine zaq 3 O ?_;refine yZq O O (fun h3=>?_) (fun h3=>?_)
   ·refine zaq 8 O ?_;refine xBq O O O O O (by(repeat (first|exact .nil|refine .cons ?_ ?_|(refine .sl O ?_ rfl Xj;first|rfl|(focus (simp;done)))|(refine y9q O ?_ rfl;first|rfl|(focus (simp;done)))|(refine .pur ?_;first|rfl|(focus (simp;done)))))) (pcheck_s [(x.key,x.val)] false Xk) Xn Xn ?_;refine yVq O O ?_;refine zaq 6 O ?_;refine zhq (.inr rfl) O ?_;congr 1
    rw[decide_eq_decide,oneB,if_pos h1];split
    ·rename_i h;exact⟨fun _=>⟨h2,h3,h⟩,fun _=>rfl⟩
    ·rename_i h;exact⟨fun h=>by omega,fun q=>absurd q.2.2 h⟩
   ·refine zaq 16 O ?_;exact zhq (.inr rfl) rfl (by rw[decide_eq_false];intro h;rw[oneB,if_pos h1] at h;exact h3 h.2.1)
  ·refine zaq 20 O ?_;exact zhq (.inr rfl) rfl (by rw[decide_eq_false];intro h;rw[oneB,if_pos h1] at h;exact h2 h.1)
 ·refine zeq 6 O ?_;refine zkq O O O O O O (kAq _) ?_;refine zaq 4 O ?_;refine yEq (α:=Nat) (fun i=>i<=2/\(0<i->0<=x.left/\x.left<=n)/\(1<i->0<=x.right/\x.right<=n)) (fun i=>[(29,.int .i64 (i:Int))]) [(1,_),(2,_),(4,_),(28,_)] (fun i=>2-i) (0) ⟨rfl,rfl,rfl,rfl,trivial⟩ (⟨by omega,by omega,by omega⟩) ⟨rfl,trivial⟩ (fun i hI=>?_);obtain⟨hi,hl,hr⟩:=hI;refine zjq 6 O ?_;refine zyq rfl (fun h2=>?_) (fun h2=>?_)
  ·have hi':i=0\/i=1:=by omega
   rcases hi' with rfl|rfl
   ·skip
    refine zeq 13 O ?_;refine yZq O O (fun h3=>?_) (fun h3=>?_)
    ·refine zaq 16 O ?_;refine z3q Xj ?_;refine zCq 2 O ?_;exact zhq (.inr rfl) rfl Yu
    ·refine zaq 3 O ?_;refine yVq O O ?_;refine zaq 3 O ?_;refine zyq rfl (fun h4=>?_) (fun h4=>?_)
     ·refine zeq 8 O ?_;refine z3q Xj ?_;refine zCq 2 O ?_;exact zhq (.inr rfl) rfl Yu
     ·refine zeq 4 O ?_;refine zlq (1) O O Xi ⟨by omega,by omega⟩ ?_;refine yyq 2 O ?_;exact z5q (1) (⟨by omega,by omega,by omega⟩) Xd ⟨rfl,trivial⟩ ⟨rfl,rfl,rfl,rfl,trivial⟩ Xg Xd Xm rfl
   ·refine zeq 13 O ?_;refine yZq O O (fun h3=>?_) (fun h3=>?_)
    ·refine zaq 16 O ?_;refine z3q Xj ?_;refine zCq 2 O ?_;exact zhq (.inr rfl) rfl Yu
    ·refine zaq 3 O ?_;refine yVq O O ?_;refine zaq 3 O ?_;refine zyq rfl (fun h4=>?_) (fun h4=>?_)
     ·refine zeq 8 O ?_;refine z3q Xj ?_;refine zCq 2 O ?_;exact zhq (.inr rfl) rfl Yu
     ·refine zeq 4 O ?_;refine zlq (2) O O Xi ⟨by omega,by omega⟩ ?_;refine yyq 2 O ?_;exact z5q (2) (⟨by omega,by omega,by omega⟩) Xd ⟨rfl,trivial⟩ ⟨rfl,rfl,rfl,rfl,trivial⟩ Xg Xd Xm rfl
  ·have e:=ziq x.val;have hl:=hl Xd;have hr:=hr Xd;have key:oneB x n↔(x.key=qHq/\x.val=[]/\0<x.left+x.right):=by rw[oneB,if_neg h1];exact⟨fun h=>h.2.2,fun h=>⟨hl,hr,h⟩⟩
   rw[show decide (oneB x n)=decide (x.key=qHq/\x.val=[]/\0<x.left+x.right) from decide_eq_decide.2 key];refine zeq 2 O ?_;refine z3q Xj ?_;refine zCq 6 O ?_;refine zgq O O xMq ?_;refine op_dec rfl (q3q O O O O (qlq O O O O O O _ _ 250)) yPq (fun h3=>?_) (fun h3=>?_)
   ·refine zaq 3 O ?_;refine zgq (w':=.int .i64 (x.val.length:Int)) O O Xy ?_;refine yZq O O (fun h4=>?_) (fun h4=>?_)
    ·have hv:x.val=[]:=List.eq_nil_of_length_eq_zero Xd;refine zaq 6 O ?_;first|refine yzq O O ⟨by omega,by omega⟩ ?_|refine zbq O O ?_
     refine yVq O O ?_;refine zaq 5 O ?_;refine zhq (.inr rfl) O ?_;congr 1
     rw[decide_eq_decide];exact⟨fun h=>⟨h3,hv,h⟩,fun h=>h.2.2⟩
    ·have hv:x.val≠[]:=fun h=>h4 (by rw[h];rfl)
     refine zaq 13 O ?_;exact zhq (.inr rfl) rfl (by rw[decide_eq_false fun h=>hv h.2.1])
   ·refine zaq 18 O ?_;exact zhq (.inr rfl) rfl (by rw[decide_eq_false fun h=>h3 h.1])
end
section
attribute [local irreducible] CoW OpW FlW Step Spec
variable {G:Nat->Option W}
inductive Rep(ns:List Node):Nat->T->Prop where
 |nil:Rep ns 0 .nil
 |leaf {n:Nat} {k:Dig} {v:List UInt8} {l r:Int} (h:ns[n]? =some ⟨true,k,v,l,r⟩):Rep ns (n+1) (.leaf k v)
 |fork {n l r:Nat} {k:Dig} {v:List UInt8} {L R:T} (h:ns[n]? =some ⟨false,k,v,l,r⟩) (hl:l<=n) (hr:r<=n) (hL:Rep ns l L) (hR:Rep ns r R):Rep ns (n+1) (.fork L R)
theorem Rep.le{ns:List Node}{n:Nat}{t:T}(h:Rep ns n t):n<=ns.length:=by
 cases h with
 |nil=>exact Nat.zero_le _
 |leaf h=>exact(List.getElem?_eq_some_iff.1 h).1
 |fork h=>exact(List.getElem?_eq_some_iff.1 h).1
theorem Rep.non{ns:List Node}{n:Nat}{t:T}(h:Rep ns n t):t.non=decide (0<n):=by cases h<;>simp[T.non]
theorem Rep.app{ns:List Node}(ms:List Node){n:Nat}{t:T}(h:Rep ns n t):Rep (ns++ms) n t:=by
 have key:∀{i:Nat} {x:Node},ns[i]? =some x->(ns++ms)[i]? =some x:=fun {i x} h=>by rw[List.getElem?_append_left (List.getElem?_eq_some_iff.1 h).1];exact h
 induction h with
 |nil=>exact .nil
 |leaf h=>exact .leaf (key h)
 |fork h hl hr _ _ i1 i2=>exact .fork (key h) hl hr i1 i2
structure Tree where
 nodes:List Node
 root:Int
noncomputable def tW(t:Tree):W:=.agg 2 [.fz (t.nodes.map nW) 36 false,.int .i64 t.root]
theorem u2q(ns:List Node):purL (ns.map nW)=true:=qqq nW_pur ns
@[simp] theorem jcq(t:Tree):purW (tW t)=true:=by simp[tW,u2q]
def nnI(t:T):Int:=if t.non then 1 else 0
theorem right_s(t0:Tree)(hb:t0.nodes.length<=4611686018427387903):∀(t:T) (n d:Nat) (b:Dig),Rep t0.nodes n t->d<=256->PS cfg G 187 [tW t0,.int .i64 (n:Int),.int .i64 (d:Int),dW b] (.tup [.bool (t.ok d b),.bool (t.ok d b&&t.isFork)]):=by
 intro t;induction t with
 |nil=>
  intro n d b hr hd;obtain rfl:n=0:=by cases hr;rfl
  refine zFq (fn:=Tryz.f187) O O O (Ob rfl) (fun R k0=>?_);refine zjq 15 O ?_;refine zyq rfl (fun h1=>?_) (fun h1=>?_)
  ·refine zeq 8 O ?_;exact zhq (.inr rfl) O O
  ·exfalso;omega
 |leaf k v=>
  intro n d b hr hd;have hle:=hr.le;cases hr with
  |leaf h=>
  rename_i n l r;refine zFq (fn:=Tryz.f187) O O O (Ob rfl) (fun R k0=>?_);refine zjq 15 O ?_;refine zyq rfl (fun h1=>?_) (fun h1=>?_)
  ·exfalso;omega
  ·refine zeq 7 O ?_;refine zlq (n) O O Xi ⟨by omega,by omega⟩ ?_;refine zbq rfl (zBq (i:=n) O O O O O O O (zYq nW h)) ?_;refine zaq 18 O ?_;refine zkq O O O O O O (shared_s _ _) ?_;refine zbq O O (yVq O O ?_);refine zaq 6 O ?_;refine zhq (.inr rfl) O ?_;simp only[T.ok,T.isFork,Bool.and_false];congr 3
   rw[decide_eq_decide];omega
 | fork tl tr ihL ihR=>
  intro n d b hr hd;have hle:=hr.le;cases hr with
  |fork h hl hr hL hR=>
  rename_i n l r k v;refine zFq (fn:=Tryz.f187) O O O (Ob rfl) (fun R k0=>?_);refine zjq 15 O ?_;refine zyq rfl (fun h1=>?_) (fun h1=>?_)
  ·exfalso;omega
  ·refine zeq 7 O ?_;refine zlq (n) O O Xi ⟨by omega,by omega⟩ ?_;refine zbq rfl (zBq (i:=n) O O O O O O O (zYq nW h)) ?_;refine zaq 22 O ?_;refine zyq rfl (fun h2=>?_) (fun h2=>?_)
   ·refine zeq 8 O ?_;have e:T.ok d b (.fork tl tr)=false:=by simp only[T.ok];rw[decide_eq_false Xd];rfl
    rw[e];exact zhq (.inr rfl) O O
   ·have hd':d<256:=by omega
    have nl:=hL.non;have nr:=hR.non;refine zeq 6 O ?_;refine zkq O O O O O O (turn_in _ _ Xd) ?_;refine zaq 18 O ?_;refine zgq (w':=.arr 64 32 [dW b,dW (qMq b d)]) O O O ?_;refine zaq 4 O ?_;refine yEq (α:=Nat×Int×Bool) (fun p=>(p.1=0/\p.2.1=0/\p.2.2=false)\/(p.1=1/\tl.ok (d+1) b=true/\p.2.1=nnI tl/\p.2.2=tl.isFork)\/(p.1=2/\tl.ok (d+1) b=true/\tr.ok (d+1) (qMq b d)=true/\p.2.1=nnI tl+nnI tr/\p.2.2=(tl.isFork||tr.isFork))) (fun p=>[(46,.int .i64 (p.1:Int)),(13,.int .i64 p.2.1),(9,.bool p.2.2)]) [(2,_),(4,_),(8,_),(10,_),(45,_)] (fun p=>2-p.1) ((0,0,false)) ⟨rfl,rfl,rfl,rfl,rfl,trivial⟩ (.inl ⟨rfl,rfl,rfl⟩) ⟨rfl,rfl,rfl,trivial⟩ (fun p hI=>?_);obtain⟨i,c,w⟩:=p;simp only at hI⊢;rcases hI with ⟨rfl,rfl,rfl⟩|⟨rfl,k1,rfl,rfl⟩|⟨rfl,k1,k2,rfl,rfl⟩
    ·skip
     skip
     refine zjq 23 O ?_;refine zkq O O O O O O (kAq _) ?_;refine zaq 10 O ?_;refine zlq (d+1) O O Xi ⟨by omega,by omega⟩ ?_;refine znq O O (zkq O O O O O O (ihL _ (d+1) b hL Xd) ?_);refine zaq 14 O ?_;refine zyq rfl (fun h3=>?_) (fun h3=>?_)
     ·refine zeq 10 O ?_;refine z3q Xj ?_;refine zCq 2 O ?_;have e:T.ok d b (.fork tl tr)=false:=by simp only[T.ok];rw[show tl.ok (d+1) b=false by simpa using h3];simp
      rw[e];exact zhq (.inr rfl) O O
     ·have hk:tl.ok (d+1) b=true:=by simpa using h3
      refine zeq 9 O ?_;refine zyq rfl (fun h4=>?_) (fun h4=>?_)
      ·have hn:nnI tl=1:=by have h4:(0:Int)<l:=h4;unfold nnI;rw[nl,if_pos (decide_eq_true Xd)]
       refine zeq 2 O ?_;first|refine yzq O O ⟨by omega,by omega⟩ ?_|refine zbq O O ?_
       refine zaq 13 O ?_;refine zlq (1) O O Xi ⟨by omega,by omega⟩ ?_;refine yyq 2 O ?_;exact z5q ((1,1,tl.ok (d+1) b&&tl.isFork)) (.inr (.inl ⟨rfl,hk,hn.symm,by rw[hk];rfl⟩)) Xk ⟨rfl,rfl,rfl,trivial⟩ ⟨rfl,rfl,rfl,rfl,rfl,trivial⟩ Xg Xd Xm rfl
      ·have hn:nnI tl=0:=by have h4:¬(0:Int)<l:=h4;unfold nnI;rw[nl,if_neg Xu]
       refine zeq 12 O ?_;refine zlq (1) O O Xi ⟨by omega,by omega⟩ ?_;refine yyq 2 O ?_;exact z5q ((1,0,tl.ok (d+1) b&&tl.isFork)) (.inr (.inl ⟨rfl,hk,hn.symm,by rw[hk];rfl⟩)) Xk ⟨rfl,rfl,rfl,trivial⟩ ⟨rfl,rfl,rfl,rfl,rfl,trivial⟩ Xg Xd Xm rfl
    ·skip
     have bd:nnI tl=0\/nnI tl=1:=by unfold nnI;split<;>simp
     cases hf:tl.isFork with
     |true=>
      skip
      refine zjq 23 O ?_;refine zkq O O O O O O (kAq _) ?_;refine zaq 10 O ?_;refine zlq (d+1) O O Xi ⟨by omega,by omega⟩ ?_;refine znq O O (zkq O O O O O O (ihR _ (d+1) (qMq b d) hR Xd) ?_);refine zaq 14 O ?_;refine zyq rfl (fun h3=>?_) (fun h3=>?_)
      ·refine zeq 10 O ?_;refine z3q Xj ?_;refine zCq 2 O ?_;have e:T.ok d b (.fork tl tr)=false:=by simp only[T.ok];rw[show tr.ok (d+1) (qMq b d)=false by simpa using h3];simp
       rw[e];exact zhq (.inr rfl) O O
      ·have hk:tr.ok (d+1) (qMq b d)=true:=by simpa using h3
       refine zeq 9 O ?_;refine zyq rfl (fun h4=>?_) (fun h4=>?_)
       ·have hn:nnI tr=1:=by have h4:(0:Int)<r:=h4;unfold nnI;rw[nr,if_pos (decide_eq_true Xd)]
        refine zeq 2 O ?_;first|refine yzq O O ⟨by omega,by omega⟩ ?_|refine zbq O O ?_
        refine zaq 13 O ?_;refine zlq (2) O O Xi ⟨by omega,by omega⟩ ?_;refine yyq 2 O ?_;exact z5q ((2,nnI tl+1,true)) (.inr (.inr ⟨rfl,k1,hk,by simp only[hn],rfl⟩)) Xk ⟨rfl,rfl,rfl,trivial⟩ ⟨rfl,rfl,rfl,rfl,rfl,trivial⟩ Xg Xd Xm rfl
       ·have hn:nnI tr=0:=by have h4:¬(0:Int)<r:=h4;unfold nnI;rw[nr,if_neg Xu]
        refine zeq 12 O ?_;refine zlq (2) O O Xi ⟨by omega,by omega⟩ ?_;refine yyq 2 O ?_;exact z5q ((2,nnI tl,true)) (.inr (.inr ⟨rfl,k1,hk,by simp only[hn,Int.add_zero],rfl⟩)) Xk ⟨rfl,rfl,rfl,trivial⟩ ⟨rfl,rfl,rfl,rfl,rfl,trivial⟩ Xg Xd Xm rfl
     |false=>
      skip
      refine zjq 23 O ?_;refine zkq O O O O O O (kAq _) ?_;refine zaq 10 O ?_;refine zlq (d+1) O O Xi ⟨by omega,by omega⟩ ?_;refine znq O O (zkq O O O O O O (ihR _ (d+1) (qMq b d) hR Xd) ?_);refine zaq 14 O ?_;refine zyq rfl (fun h3=>?_) (fun h3=>?_)
      ·refine zeq 10 O ?_;refine z3q Xj ?_;refine zCq 2 O ?_;have e:T.ok d b (.fork tl tr)=false:=by simp only[T.ok];rw[show tr.ok (d+1) (qMq b d)=false by simpa using h3];simp
       rw[e];exact zhq (.inr rfl) O O
      ·have hk:tr.ok (d+1) (qMq b d)=true:=by simpa using h3
       refine zeq 9 O ?_;refine zyq rfl (fun h4=>?_) (fun h4=>?_)
       ·have hn:nnI tr=1:=by have h4:(0:Int)<r:=h4;unfold nnI;rw[nr,if_pos (decide_eq_true Xd)]
        refine zeq 2 O ?_;first|refine yzq O O ⟨by omega,by omega⟩ ?_|refine zbq O O ?_
        refine zaq 13 O ?_;refine zlq (2) O O Xi ⟨by omega,by omega⟩ ?_;refine yyq 2 O ?_;exact z5q ((2,nnI tl+1,tr.ok (d+1) (qMq b d)&&tr.isFork)) (.inr (.inr ⟨rfl,k1,hk,by simp only[hn],by simp[hk]⟩)) Xk ⟨rfl,rfl,rfl,trivial⟩ ⟨rfl,rfl,rfl,rfl,rfl,trivial⟩ Xg Xd Xm rfl
       ·have hn:nnI tr=0:=by have h4:¬(0:Int)<r:=h4;unfold nnI;rw[nr,if_neg Xu]
        refine zeq 12 O ?_;refine zlq (2) O O Xi ⟨by omega,by omega⟩ ?_;refine yyq 2 O ?_;exact z5q ((2,nnI tl,tr.ok (d+1) (qMq b d)&&tr.isFork)) (.inr (.inr ⟨rfl,k1,hk,by simp only[hn,Int.add_zero],by simp[hk]⟩)) Xk ⟨rfl,rfl,rfl,trivial⟩ ⟨rfl,rfl,rfl,rfl,rfl,trivial⟩ Xg Xd Xm rfl
    ·have e:T.ok d b (.fork tl tr)=T.two tl tr:=by simp only[T.ok];rw[decide_eq_true hd',k1,k2];rfl
     have e2:(T.fork tl tr).isFork=true:=rfl;rw[e,e2,Bool.and_true]
     have e3:T.two tl tr=((tl.isFork||tr.isFork)||decide (nnI tl+nnI tr=2)):=by
      unfold T.two nnI;congr 1
      cases tl.non<;>cases tr.non<;>rfl
     rw[e3];cases hw:(tl.isFork||tr.isFork) with
     |true=>
      skip
      refine zjq 9 O ?_;refine z3q Xj ?_;refine zCq 21 O ?_;exact zhq (.inr rfl) O O
     |false=>
      skip
      refine zjq 9 O ?_;refine z3q Xj ?_;refine zCq 7 O ?_;refine yVq O O ?_;refine zaq 13 O ?_;exact zhq (.inr rfl) rfl Xk
end
theorem fit_node{w:W}(h:Fit (.st 36 [.bool,.arr 32 1 (.int .u8),.sl 1 1 (.int .u8),.int .i64,.int .i64]) w):∃x:Node,w=nW x/\x.val.length<=140737488351232:=by
 obtain⟨l,rfl,w1,l1,rfl,h1,w2,l2,rfl,h2,w3,l3,rfl,h3,w4,l4,rfl,h4,w5,l5,rfl,h5,rfl⟩:=h;obtain⟨b,rfl⟩:=fit_bool h1;obtain⟨k,rfl⟩:=fit_dig h2;obtain⟨v,rfl,hv⟩:=fit_bW h3;obtain⟨i,rfl,_⟩:=Y3q h4;obtain⟨j,rfl,_⟩:=Y3q h5;exact⟨⟨b,k,v,i,j⟩,rfl,by simpa using hv⟩
theorem fit_tree{w:W}(h:Fit (.st 2 [.sl 36 80 (.st 36 [.bool,.arr 32 1 (.int .u8),.sl 1 1 (.int .u8),.int .i64,.int .i64]),.int .i64]) w):∃t:Tree,w=tW t/\t.nodes.length*80<=140737488351232/\(∀x∈t.nodes,x.val.length<=140737488351232)/\t.root<=9223372036854775807:=by
 obtain⟨l,rfl,w1,l1,rfl,h1,w2,l2,rfl,h2,rfl⟩:=h;obtain⟨ns,rfl,hl,hn⟩:=fit_sl h1 fun x hx=>fit_node hx
 obtain⟨r,rfl,_,hr⟩:=Y3q h2;exact⟨⟨ns,r⟩,rfl,hl,hn,hr⟩
mutual
theorem YCq{τ:Nat->Nat}{b:Nat}(h:∀i,i<b->τ i=i):∀{w:W},refB b w=true->renW τ w=w
 |.ptr c o,hw=>by simp only[renW];rw[h c (of_decide_eq_true hw)]
 |.sl c _ _ _ _ _,hw=>by simp only[renW];rw[h c (of_decide_eq_true hw)]
 |.fz l _ _,hw=>by simp only[renW];rw[xuq h (l:=l) hw]
 |.fel x,hw=>by simp only[renW];rw[YCq h (w:=x) hw]
 |.fn _ a c,hw=>by
  simp only[refB,Bool.and_eq_true] at hw;simp only[renW];rw[xuq h (l:=a) hw.1,xuq h (l:=c) hw.2]
 |.iface _ v,hw=>by simp only[renW];rw[YCq h (w:=v) hw]
 |.agg _ l,hw=>by simp only[renW];rw[xuq h (l:=l) hw]
 |.arr _ _ l,hw=>by simp only[renW];rw[xuq h (l:=l) hw]
 |.tup l,hw=>by simp only[renW];rw[xuq h (l:=l) hw]
 |.undef,_=>rfl
 |.bool _,_=>rfl
 |.int _ _,_=>rfl
 |.str _,_=>rfl
 |.nilp,_=>rfl
 |.nils,_=>rfl
 |.nilm,_=>rfl
 |.yield _,_=>rfl
 |.nilf,_=>rfl
 |.nili,_=>rfl
theorem xuq{τ:Nat->Nat}{b:Nat}(h:∀i,i<b->τ i=i):∀{l:List W},refL b l=true->qAq τ l=l
 |[],_=>rfl
 |w::l,hw=>by
  simp only[refL,Bool.and_eq_true] at hw;simp only[qAq];rw[YCq h (w:=w) hw.1,xuq h (l:=l) hw.2]
end
mutual
theorem xwq{b c:Nat}(h:b<=c):∀{w:W},refB b w=true->refB c w=true
 |.ptr d o,hw=>decide_eq_true (Nat.lt_of_lt_of_le (of_decide_eq_true hw) h)
 |.sl d _ _ _ _ _,hw=>decide_eq_true (Nat.lt_of_lt_of_le (of_decide_eq_true hw) h)
 |.fz l _ _,hw=>kCq h (l:=l) hw
 |.fel x,hw=>xwq h (w:=x) hw
 |.fn _ a d,hw=>by
  simp only[refB,Bool.and_eq_true] at hw⊢;exact⟨kCq h hw.1,kCq h hw.2⟩
 |.iface _ v,hw=>xwq h (w:=v) hw
 |.agg _ l,hw=>kCq h (l:=l) hw
 |.arr _ _ l,hw=>kCq h (l:=l) hw
 |.tup l,hw=>kCq h (l:=l) hw
 |.undef,_=>rfl
 |.bool _,_=>rfl
 |.int _ _,_=>rfl
 |.str _,_=>rfl
 |.nilp,_=>rfl
 |.nils,_=>rfl
 |.nilm,_=>rfl
 |.yield _,_=>rfl
 |.nilf,_=>rfl
 |.nili,_=>rfl
theorem kCq{b c:Nat}(h:b<=c):∀{l:List W},refL b l=true->refL c l=true
 |[],_=>rfl
 |w::l,hw=>by
  simp only[refL,Bool.and_eq_true] at hw⊢;exact⟨xwq h hw.1,kCq h hw.2⟩
end
noncomputable def gW(b e:Nat):List W->W
 |[]=>.nils
 |x::r=>.sl b 0 0 (x::r).length e none
noncomputable def gH(b:Nat)(ty:TypeId)(e:Nat):List W->HpW
 |[]=>[]
 |x::r=>[(b,ty,.arr ((x::r).length*e) e (x::r))]
noncomputable def evG(b:Nat):List W->EvW
 |[]=>.gen
 |_::_=>.updO b
theorem evs_G{ops:Array Oper}{i b:Nat}{es:List (Nat×EvW)}{l:List W}(h1:evsW ops i .gen es=true)(h2:evsW ops i (.updO b) es=true):evsW ops i (evG b l) es=true:=by cases l<;>assumption
theorem xFq{b e:Nat}{l:List W}(h:l≠[]):gW b e l= .sl b 0 0 l.length e none:=by cases l with
 |nil=>exact absurd rfl h
 |cons x r=>rfl
theorem xHq{b e:Nat}{ty:TypeId}{l:List W}(h:l≠[]):gH b ty e l=[(b,ty,.arr (l.length*e) e l)]:=by cases l with
 |nil=>exact absurd rfl h
 |cons x r=>rfl
section
variable {C:Cfg} {nw:Nat} {ts tx ty:TypeId} {j k:TyI} {x:W} {news l:List W} {b:Nat} {H0:HpW}
theorem J8q{b:Nat}{x:TypeId×W}:∀{P:HpW},(∀p∈P,p.1≠b) ->hdel (P++[(b,x)]) b=P
 |[],_=>by
  show(match Nat.beq b b with|true=>[]|false=>_)=[];rw[Nat.beq_refl]
 |(c,y)::P,h=>by
  have hc:=h (c,y) (List.mem_cons_self ..)
  have e:Nat.beq c b=false:=by
   cases q:Nat.beq c b with
   |true=>exact absurd (Nat.eq_of_beq_eq_true q) hc
   |false=>rfl
  show(match Nat.beq c b with|true=>P++[(b,x)]|false=>(c,y)::hdel (P++[(b,x)]) b)=_;rw[e];exact congrArg _ (J8q fun p hp=>h p (List.mem_cons_of_mem _ hp))
theorem kSq{b:Nat}{x:TypeId×W}:∀{P:HpW},(∀p∈P,p.1≠b) ->hget (P++[(b,x)]) b=some x
 |[],_=>by rw[List.nil_append,zzq,if_pos rfl]
 |(c,y)::P,h=>by
  rw[List.cons_append,zzq,if_neg fun e=>h (c,y) (List.mem_cons_self ..) e];exact kSq fun p hp=>h p (List.mem_cons_of_mem _ hp)
theorem krq{c:Nat}{y:TypeId×W}{Q:HpW}:∀{P:HpW},hget P c=some y->hget (P++Q) c=some y
 |[],h=>by simp[hget] at h
 |(q,z)::P,h=>by
  rw[List.cons_append,zzq];rw[zzq] at h;split at h
  ·rename_i h5;rw[if_pos h5];exact h
  ·rename_i h5;rw[if_neg h5];exact krq h
theorem jPq(P:HpW){e:Nat}{hp:HpW}(he:e=k.size)(hj:C.ty ts=some j)(hd:j.d= .slice ty)(hk:C.ty ty=some k)(hz:Nat.beq k.size 0=false)(hs:srcW C hp tx k.size x=some news)(hn:news≠[])(h1:(l.length+news.length)*k.bytes<=140737488355328)(h2:l.length+news.length<=70368744177664)
  (hg:hp=P++gH b ty e l) (hP:∀p∈P,p.1≠b):
  appW C hp nw ts tx (gW b e l) x=some (.sl nw 0 0 (l++news).length e none,(nw,ty,.arr ((l++news).length*e) e (l++news))::P,nw+1,evG b l):=by
 subst he
 have hk0:0<k.size:=by
  rcases Nat.eq_zero_or_pos k.size with h0|h0
  ·rw[h0] at hz;cases hz
  ·exact h0
 have hnl:0<news.length:=by cases news with
  |nil=>exact absurd rfl hn
  |cons _ _=>simp
 cases l with
 |nil=>
  simp only[List.length_nil,Nat.zero_add] at h1 h2;rw[show gW b k.size []= .nils from rfl,kNq hj hd hk hz hs hn h1 h2,hg,show gH b ty k.size []=[] from rfl,List.append_nil];rfl
 |cons y r=>
  have hget:hget hp b=some (ty,.arr ((y::r).length*k.size) k.size (y::r)):=by rw[hg];exact kSq hP
  rw[show gW b k.size (y::r)= .sl b 0 0 (y::r).length k.size none from rfl,qxq hj hd hk hz hs hn h1 h2 hget (by
   show(y::r).length*k.size<0+((y::r).length+news.length)*k.size;rw[Nat.zero_add];exact Nat.mul_lt_mul_of_pos_right Xd hk0) (by rw[Nat.beq_refl]) (zpq hk0 O O)]
  rw[hg,show gH b ty k.size (y::r)=[(b,ty,.arr ((y::r).length*k.size) k.size (y::r))] from rfl,J8q hP,List.length_append];rfl
theorem app_gr0{hp:HpW}{e:Nat}(he:e=k.size)(hj:C.ty ts=some j)(hd:j.d= .slice ty)(hk:C.ty ty=some k)(hz:Nat.beq k.size 0=false)(hs:srcW C hp tx k.size x=some []):appW C hp nw ts tx (gW b e l) x=some (gW b e l,hp,nw,.gen):=by
 subst he;cases l with
 |nil=>exact Ygq hj hd hk hz hs
 |cons y r=>exact ZBq hj hd hk hz hs
end
theorem x1q{b e:Nat}{ty:TypeId}{l:List W}{H0:HpW}(he:0<e)(hl:purL l=true)(hP:∀p∈H0,p.1≠b):View (blkA (H0++gH b ty e l)) (gW b e l) (.fz l e false):=by
 cases l with
 |nil=>exact .nilfz
 |cons y r=>exact .sl (c:=.arr ((y::r).length*e) e (y::r)) (by
   unfold blkA;rw[show H0++gH b ty e (y::r)=H0++[(b,ty,.arr ((y::r).length*e) e (y::r))] from rfl,kSq hP]) hl (zpq he O O) Xj
theorem view_sl{b e n:Nat}{ty:TypeId}{l:List W}{H0:HpW}(he:0<e)(hn:n=l.length)(hl:purL l=true):View (blkA ((b,ty,.arr (n*e) e l)::H0)) (.sl b 0 0 n e none) (.fz l e false):=by
 subst hn
 exact .sl (c:=.arr (l.length*e) e l) (by
   unfold blkA;rw[zzq,if_pos rfl]) hl (zpq he O O) Xj
section
variable {C:Cfg} {G:Nat->Option W} {m k0:Nat} {rd:Bool} {fr fr2:FrW} {hp hp':HpW} {nw nw':Nat} {R:Res} {Q:qOq} {c:Code}
theorem unq(hf:subF fr fr2):Ent C G m k0 fr hp nw R fr2 hp (nw+1) R:=fun Γ X st hnw hmn s=>by
 let Γ2:Ctx:=⟨nw+1,Γ.σ,Γ.D,Γ.h⟩
 have le:Γ.Le Γ2:=⟨by rw[hnw];exact Nat.le_succ _,fun _ _=>rfl,fun _ h=>h,fun _ _=>rfl⟩;refine⟨Γ2,X,rfl,⟨s.hh,fun t w hw=>?_,⟨s.sat.wf,fun b ty w hb=>?_,s.sat.inj,s.sat.nd,s.sat.dX,s.sat.xlt,s.sat.dlt,s.sat.res,s.sat.gl⟩,s.ds,s.nd⟩,⟨fun _ _=>rfl,fun h=>Nat.le_trans h le.nw,Nat.le_refl _,fun _ _ _ _=>rfl,fun _ h=>h,fun _ h=>.inl h,fun b x _ h=>⟨x,h⟩,fun b x hb h=>.inr ⟨b,x,hb,h,rfl⟩,fun _ h=>.inl h,fun _ h _ _=>h⟩⟩
 ·obtain⟨v,g3,g4⟩:=s.fr _ _ (Z1q hf t w hw);exact⟨v,g3,g4.mono le⟩
 ·obtain⟨q1,q2,q3,v,q4,q5⟩:=s.sat.own _ _ _ hb;exact⟨Nat.lt_of_lt_of_le q1 le.nw,q2,q3,v,q4,q5.mono le⟩
theorem JGq{k:Nat}:∀{l:FrW},subF fr l->refF nw l->subR (tau1 nw k) (nw+1) fr l
 |[],_,_=>trivial
 |(t,w)::l,h,r=>⟨⟨by rw[YCq (fun i hi=>kvq Xd) r.1];exact h.1,xwq (Nat.le_succ _) r.1⟩,JGq h.2 r.2⟩
theorem Yoq{k:Nat}:∀{l:HpW},subH hp nw l->subRH (tau1 nw k) (nw+1) hp l
 |[],_=>trivial
 |(b,x)::l,h=>⟨⟨Nat.lt_succ_of_lt h.1.1,by rw[kvq (by have:=h.1.1;omega),YCq (fun i hi=>kvq Xd) h.1.2.2];exact h.1.2.1,xwq (Nat.le_succ _) h.1.2.2⟩,Yoq h.2⟩
theorem Yqq:∀{l:HpW},subH hp nw l->∀p∈l,p.1<nw
 |[],_,p,h=>by simp at h
 |(b,x)::l,h,p,hp=>by
  rcases List.mem_cons.1 hp with rfl|hp
  ·exact h.1.1
  ·exact Yqq h.2 p hp
theorem subH_mono:∀{l:HpW},subH hp nw l->subH hp (nw+1) l
 |[],_=>trivial
 |(b,x)::l,h=>⟨⟨Nat.lt_succ_of_lt h.1.1,h.1.2.1,xwq (Nat.le_succ _) h.1.2.2⟩,subH_mono h.2⟩
theorem Ypq{τ:Nat->Nat}{n:Nat}{b:HpW}:∀{a:HpW},subRH τ n hp a->subRH τ n hp b->subRH τ n hp (a++b)
 |[],_,h=>h
 |_::_,h,h2=>⟨h.1,Ypq h.2 h2⟩
theorem JHq{n:Nat}{b:HpW}:∀{a:HpW},subH hp n a->subH hp n b->subH hp n (a++b)
 |[],_,h=>h
 |_::_,h,h2=>⟨h.1,JHq h.2 h2⟩
theorem nodup_g{H0:HpW}{b e:Nat}{ty:TypeId}{l2:List W}(hh:∀p∈H0,p.1<b)(nd:(H0.map (·.1)).Nodup):((H0++gH b ty e l2).map (·.1)).Nodup:=by
 cases l2 with
 |nil=>rw[show gH b ty e []=[] from rfl,List.append_nil];exact nd
 |cons x r=>
  rw[show gH b ty e (x::r)=[(b,ty,.arr ((x::r).length*e) e (x::r))] from rfl,List.map_append,List.nodup_append];refine⟨nd,by simp,fun a ha c hc q=>?_⟩;obtain⟨p,h1,h2⟩:=List.mem_map.1 ha;have:=hh p h1;simp only[List.map_cons,List.map_nil,List.mem_cons,List.not_mem_nil,or_false] at hc;omega
theorem uHq{α:Type}(I:α->Prop)(s:Nat)(L:α->List W)(ty:TypeId)(e:Nat)(V:α->FrW)(kf:FrW)(H0:HpW)(μ:α->Nat)(a0:α)(hk:subF fr kf)(h0:I a0)(hv:subF fr (V a0))(hL:L a0=[])(hs:getW fr s=some .nils)(hh:hp=H0)
  (step:∀a,I a->CoW C G m k0 rd c ((s,gW nw e (L a))::(V a++kf)) (H0++gH nw ty e (L a)) (nw+1) R (xgq C G m k0 I (fun a=>(s,gW nw e (L a))::(V a++kf)) (fun a=>H0++gH nw ty e (L a)) (fun _=>nw+1) (fun _=>R) μ (μ a) Q)):CoW C G m k0 rd (.loop c) fr hp nw R Q:=by
 subst hh;refine qBq I (fun a=>(s,gW nw e (L a))::(V a++kf)) (fun a=>hp++gH nw ty e (L a)) (fun _=>nw+1) (fun _=>R) μ a0 h0 ?_ step;have:=unq (C:=C) (G:=G) (m:=m) (k0:=k0) (fr:=fr) (fr2:=(s,gW nw e (L a0))::(V a0++kf)) (hp:=hp) (nw:=nw) (R:=R) ⟨by rw[hL];exact hs,q5q hv hk⟩;rw[hL] at this⊢;rw[show gH nw ty e []=[] from rfl,List.append_nil];exact this
theorem q0q{b:Nat}{ty:TypeId}{e:Nat}{H0:HpW}{l2:List W}{n:Nat}(k s:Nat)(hm:m<=b)(hk:b<=k)(hk2:k<nw)(hne:l2≠[])(hs:getW fr s=some (.sl k 0 0 n e none))(hn:n=l2.length)(hf:subF fr fr2)(hr:refF b fr2)(hg:hget hp k=some (ty,.arr (n*e) e l2))(hp2:purL l2=true)(hh:subH hp b H0)(nd:(H0.map (·.1)).Nodup):
  Ent C G m k0 fr hp nw R ((s,gW b e l2)::fr2) (H0++gH b ty e l2) (b+1) R:=by
 subst hn;have hpa:purW (.arr (l2.length*e) e l2)=true:=hp2;refine y2q (b:=b) (k:=k) hm hk hk2 ?_ ?_ (nodup_g (Yqq hh) nd)
 ·rw[xFq hne];refine⟨⟨?_,by simp[refB]⟩,JGq hf hr⟩;rw[hs];simp only[renW,xkq]
 ·rw[xHq hne];refine Ypq (Yoq hh) ⟨⟨Nat.lt_succ_self _,?_,zfq hpa⟩,trivial⟩;rw[xkq,hg,zmq hpa]
noncomputable def hdAll(ext:List Nat)(nw:Nat)(hp:HpW):HpW->Prop
 |[]=>True
 |(i,ty,w)::l=>(i<ext.length/\refB ext.length w=true/\∃b,ext[i]? =some b/\hget hp b=some (ty,renW (numC ext nw) w))/\hdAll ext nw hp l
theorem jUq{ext:List Nat}{nw:Nat}{hp:HpW}:∀{l:HpW},hdAll ext nw hp l->Handed ext nw l hp
 |[],_=>fun i ty w h=>by simp[hget] at h
 |(j,ty',w')::l,hs=>fun i ty w h=>by
  rw[zzq] at h;split at h
  ·rename_i e;subst e;cases h;exact hs.1
  ·exact jUq hs.2 i ty w h
theorem ent_view(fr2:FrW)(hf:subV (fun _=>none) fr fr2):Ent C G m k0 fr hp nw R fr2 hp nw R:=fun Γ X st h1 _ s=>
 ⟨Γ,X,h1,⟨s.hh,fun t w hw=>by
  obtain⟨w0,g1,g2⟩:=uyq hf t w hw;obtain⟨v,g3,g4⟩:=s.fr t w0 g1;exact⟨v,g3,kUq ⟨fun _ h _=>h,fun _ _ _=>rfl,fun _ h=>h,fun _ _=>rfl,fun _ _ _ h=>Qm⟩ g2 g4⟩,s.sat,s.ds,s.nd⟩,Frm.refl _ _ _ _⟩
noncomputable def Ynq(blk:Nat->Option W)(b:Nat)(hp:HpW):HpW->Prop
 |[]=>True
 |(k,ty,w)::l=>(k≠b/\∃w0,hget hp k=some (ty,w0)/\View blk w0 w)/\Ynq blk b hp l
theorem Ylq{blk:Nat->Option W}{b:Nat}:∀{l:HpW},Ynq blk b hp l->∀k ty w,hget l k=some (ty,w) ->k≠b/\∃w0,hget hp k=some (ty,w0)/\View blk w0 w
 |[],_,k,ty,w,h=>by simp[hget] at h
 |(j,ty',w')::l,hs,k,ty,w,h=>by
  rw[zzq] at h;split at h
  ·rename_i e;subst e;cases h;exact hs.1
  ·exact Ylq hs.2 k ty w h
theorem Zvq(b:Nat)(fr2:FrW)(hp2:HpW){ty:TypeId}{c:W}(hb:hget hp b=some (ty,c))(hc:purW c=true)(hbm:m<=b)(hf:subV (blk1 b c) fr fr2)(hh:Ynq (blk1 b c) b hp hp2)(nd:(hp2.map (·.1)).Nodup):Ent C G m k0 fr hp nw R fr2 hp2 nw R:=
 ent_frz hb hc hbm (uyq hf) (Ylq hh) nd
theorem co_loopG1{α:Type}(I:α->Prop)(s:Nat)(L:α->List W)(ty:TypeId)(e:Nat)(V:α->FrW)(kf:FrW)(H0:HpW)(b k:Nat)(μ:α->Nat)(a0:α){n:Nat}(hk:subF fr kf)(h0:I a0)(hv:subF fr (V a0))(hm:m<=b)(hbk:b<=k)(hkn:k<nw)(hne:L a0≠[])(hs:getW fr s=some (.sl k 0 0 n e none))(hn:n=(L a0).length)
  (hr:refF b (V a0)) (hr2:refF b kf) (hg:hget hp k=some (ty,.arr (n*e) e (L a0))) (hp2:purL (L a0)=true) (hh:subH hp b H0) (nd:(H0.map (·.1)).Nodup)
  (step:∀a,I a->CoW C G m k0 rd c ((s,gW b e (L a))::(V a++kf)) (H0++gH b ty e (L a)) (b+1) R (xgq C G m k0 I (fun a=>(s,gW b e (L a))::(V a++kf)) (fun a=>H0++gH b ty e (L a)) (fun _=>b+1) (fun _=>R) μ (μ a) Q)):CoW C G m k0 rd (.loop c) fr hp nw R Q:=
 qBq I (fun a=>(s,gW b e (L a))::(V a++kf)) (fun a=>H0++gH b ty e (L a)) (fun _=>b+1) (fun _=>R) μ a0 h0 (q0q k s hm hbk hkn hne hs hn (q5q hv hk) (kRq hr hr2) hg hp2 hh nd) step
theorem jEq{α:Type}{I:α->Prop}{s:Nat}{L:α->List W}{ty:TypeId}{e:Nat}{V:α->FrW}{kf:FrW}{H0:HpW}{μ:α->Nat}{kk:Nat}{fr':FrW}{l2:List W}{n:Nat}(k:Nat)(a:α)(ha:I a)(hμ:μ a<kk)(hm:m<=nw)(hL:L a=l2)(hne:l2≠[])(hk:nw<=k)(hk2:k<nw')(hs:getW fr' s=some (.sl k 0 0 n e none))(hn:n=l2.length)
  (hv:subF fr' (V a)) (hkf:subF fr' kf) (hr:refF nw (V a)) (hr2:refF nw kf) (hg:hget hp' k=some (ty,.arr (n*e) e l2)) (hp2:purL l2=true) (hh:subH hp' nw H0) (nd:(H0.map (·.1)).Nodup):
  xgq C G m k0 I (fun a=>(s,gW nw e (L a))::(V a++kf)) (fun a=>H0++gH nw ty e (L a)) (fun _=>nw+1) (fun _=>R) μ kk Q .normal fr' hp' nw' R:=by
 subst hL;exact ywq a ha hμ (q0q k s hm hk hk2 hne hs hn (q5q hv hkf) (kRq hr hr2) hg hp2 hh nd)
theorem refF_up:∀{q:FrW},refF nw q->refF (nw+1) q
 |[],_=>trivial
 |_::_,h=>⟨xwq (Nat.le_succ _) h.1,refF_up h.2⟩
theorem vSq{b:Nat}{ty:TypeId}{e:Nat}{H0:HpW}{l2:List W}(s:Nat)(hm:m<=b)(hnw:b+1<=nw)(hs:getW fr s=some (gW b e l2))(hf:subF fr fr2)(hr:refF b fr2)(hg:∀x r,l2=x::r->hget hp b=some (ty,.arr ((x::r).length*e) e (x::r)))(hp2:purL l2=true)(hh:subH hp b H0)(nd:(H0.map (·.1)).Nodup):
  Ent C G m k0 fr hp nw R ((s,gW b e l2)::fr2) (H0++gH b ty e l2) (b+1) R:=by
 refine qmq Xd hnw ⟨hs,hf⟩ ?_ (qtq (JHq (subH_mono hh) ?_)) (nodup_g (Yqq hh) nd)
 ·refine vwq ⟨?_,refF_up hr⟩;cases l2 with
  |nil=>rfl
  |cons x r=>simp[gW,refB]
 ·cases l2 with
  |nil=>trivial
  |cons x r=>
   have hpa:purW (.arr ((x::r).length*e) e (x::r))=true:=hp2;exact⟨⟨Nat.lt_succ_self _,hg x r rfl,zfq hpa⟩,trivial⟩
theorem q_againG0{α:Type}{I:α->Prop}{s:Nat}{L:α->List W}{ty:TypeId}{e:Nat}{V:α->FrW}{kf:FrW}{H0:HpW}{μ:α->Nat}{kk:Nat}{fr':FrW}{l2:List W}(a:α)(ha:I a)(hμ:μ a<kk)(hm:m<=nw)(hL:L a=l2)(hs:getW fr' s=some (gW nw e l2))
  (hv:subF fr' (V a)) (hkf:subF fr' kf) (hr:refF nw (V a)) (hr2:refF nw kf) (hg:hp'=H0++gH nw ty e l2) (hp2:purL l2=true) (hh:subH hp' nw H0) (nd:(H0.map (·.1)).Nodup) (hnw:nw+1<=nw'):
  xgq C G m k0 I (fun a=>(s,gW nw e (L a))::(V a++kf)) (fun a=>H0++gH nw ty e (L a)) (fun _=>nw+1) (fun _=>R) μ kk Q .normal fr' hp' nw' R:=by
 subst hL;refine ywq a ha hμ (vSq s hm hnw hs (q5q hv hkf) (kRq hr hr2) (fun x r hq=>?_) hp2 hh nd);rw[hg,hq];exact kSq fun p hp=>by have:=Yqq hh p hp;omega
theorem ent_blk{b:Nat}{ty:TypeId}{w w':W}(hb:hget hp b=some (ty,w))(he:∀Γ v,RV Γ w v->RV Γ w' v):Ent C G m k0 fr hp nw R fr (hset hp b (ty,w')) nw R:=fun Γ X st h1 _ s=>by
 have hold:∀{k t u},hget (hset hp b (ty,w')) k=some (t,u) ->∃u0,hget hp k=some (t,u0)/\∀v,RV Γ u0 v->RV Γ u v:=fun {k t u} h=>by
  rw[ucq hb] at h;split at h
  ·rename_i e;subst e;cases h;exact⟨w,hb,he Γ⟩
  ·exact⟨u,h,fun _ q=>q⟩
 have howns:∀{c},Owns Γ (hset hp b (ty,w')) c->Owns Γ hp c:=fun {c} h=>by
  obtain⟨k,⟨t,u⟩,h1,h2⟩:=h;obtain⟨u0,g,_⟩:=hold h1;exact⟨k,_,g,h2⟩
 refine⟨Γ,X,h1,⟨s.hh,s.fr,⟨s.sat.wf,fun k t u h=>?_,fun k k' y z hy hz e=>?_,by rw[YSq];exact s.sat.nd,s.sat.dX,s.sat.xlt,s.sat.dlt,s.sat.res,s.sat.gl⟩,fun d hd=>?_,s.nd⟩,⟨fun _ _=>rfl,fun h=>h,Nat.le_refl _,fun _ _ _ _=>rfl,fun _ h=>h,fun _ h=>.inl h,fun k y _ h=>?_,fun k y hk h=>?_,fun _ h=>.inl h,fun _ h _ _=>h⟩⟩
 ·obtain⟨u0,g1,g2⟩:=hold h;obtain⟨q1,q2,q3,v,q4,q5⟩:=s.sat.own k t u0 g1;exact⟨q1,q2,q3,v,q4,g2 v q5⟩
 ·obtain⟨y1,y2⟩:=y;obtain⟨z1,z2⟩:=z;obtain⟨u0,g1,_⟩:=hold hy;obtain⟨u1,g2,_⟩:=hold hz;exact s.sat.inj k k' _ _ g1 g2 e
 ·obtain⟨q1,q2,q3,q4,q5⟩:=s.ds d hd;exact⟨q1,q2,q3,fun h=>q4 (howns h),q5⟩
 ·obtain⟨y1,y2⟩:=y;obtain⟨u0,g1,_⟩:=hold h;exact⟨_,g1⟩
 ·obtain⟨y1,y2⟩:=y;obtain⟨u0,g1,_⟩:=hold h;exact .inr ⟨k,_,hk,g1,rfl⟩
theorem ent_one{b:Nat}{ty:TypeId}{e:Nat}{x:W}(k s:Nat)(hm:m<=b)(hk:b<=k)(hk2:k<nw)(hs:getW fr s=some (.sl k 0 0 1 e none))(hg:hget hp k=some (ty,x))(hxa:x.isAgg=true)(hxs:x.size=e)(hp2:purW x=true):Ent C G m k0 fr hp nw R [(s,gW b e [x])] (gH b ty e [x]) (b+1) R:=by
 refine(ent_blk hg (w':=.arr (1*e) e [x]) fun Γ v hv=>?_).trans (q0q (fr2:=[]) (H0:=[]) k s hm hk hk2 Xk hs rfl trivial trivial (by rw[ucq hg,if_pos rfl]) (by simp only[purL,hp2,Bool.and_self]) trivial List.nodup_nil);refine⟨by rw[<-hv.1,hxa];rfl,?_⟩;have hl:=jyq hv.2;simp only[RS];exact⟨by omega,fun y hy=>by simp at hy;rw[hy,hxs],RSL_one hv.2⟩
theorem qgq{o:Oper}{post:W->HpW->Nat->Res->Option EvW->Prop}{x:Operand}{xs:Array Operand}{ats:Array TypeId}{f:FuncId}{a us c ws:List W}{Q:W->HpW->Nat->Prop}(ho:o.op= .call ⟨.value x,xs,ats⟩)(hx:evW C G fr x=some (.fn f a c))(he:C.ext f=none)(hxs:evLW C G fr xs.toList=some us)(hws:a++us++c=ws)(hpw:purL ws=true)(sp:qiq C G f 0 ws [] Q)
  (hpost:∀w hp1 nw1,Q w hp1 nw1->post (renW (numC [] nw) w) (renH (numC [] nw) hp1++hp) (nw+nw1) R (some .gen)):Step C G o fr hp nw R post:=fun Γ X frv hnw s hf=>by
 subst hnw;obtain⟨u,e1,e2⟩:=ybq hf s.gl hx;obtain⟨a',c',rfl,e3,e4⟩:=RV_fn.1 e2;obtain⟨us',e5,e6⟩:=xKq hf s.gl hxs
 have app:∀{l r:List W} {l' r':List V},RVL Γ l l'->RVL Γ r r'->RVL Γ (l++r) (l'++r'):=fun {l}=>by
  induction l with
  |nil=>intro r l' r' h1 h2;simp only[RVL] at h1;subst h1;exact h2
  |cons w l ih=>
   intro r l' r' h1 h2;simp only[RVL] at h1;obtain⟨v,vs,rfl,h3,h4⟩:=h1;simp only[List.cons_append,RVL];exact⟨v,vs++r',rfl,h3,ih h4 h2⟩
 have hv:=app (app e3 e6) e4;rw[hws,<-kBq (τ:=numC [] Γ.nw) hpw] at hv;obtain⟨n,v,Γ',w,hp1,nw1,g1,g2,g3,g4,g5,g6,g7,g8⟩:=call_spec (ext:=[]) sp s List.nodup_nil Xk Xk (fun i ty w h=>by simp[hget] at h) (zfq (w:=.tup ws) hpw) hv;obtain⟨k1,k2⟩:=Zzq (C:=C) ho frv Γ.h;refine⟨n,_,_,R,some .gen,v,Γ'.h,Γ',X,by rw[g3];exact hpost w hp1 nw1 g2,?_,⟨k1,fun H1 e1' e2'=>?_⟩,rfl,g4,g5,g6,g7⟩
 ·simp only[opV,k1,k2];simp only[ho,jKq,e1,e5,he];exact g1
 ·have:=g8 rfl e2';simp only[EvR,ho,evOf];rw[e1',Nat.ble_eq_true_of_le this]
noncomputable def PL(C:Cfg)(G:Nat->Option W)(f:FuncId)(ws:List W)(ty:TypeId)(e:Nat)(l:List W):Prop:=qiq C G f 0 ws [] fun w hp nw=>w=gW 0 e l/\hp=gH 0 ty e l/\nw=1
theorem PL.ps{C:Cfg}{G:Nat->Option W}{f:FuncId}{ws:List W}{ty:TypeId}{e:Nat}{l:List W}(h:PL C G f ws ty e l)(he:0<e)(hl:purL l=true):PS C G f ws (.fz l e false):=fun R=>
 Ytq fun Γ X vs h1 s hv=>by
  obtain⟨n,v,Γ',X',w,hp',R',g1,g2,g3,g4,g5,rfl,rfl,g6⟩:=h R Γ X vs h1 s hv;exact⟨n,v,Γ',X',_,_,R',g1,g2,g3,g4,g5,x1q (H0:=[]) he hl Xk⟩
theorem kXq{o:Oper}{post:W->HpW->Nat->Res->Option EvW->Prop}{x:Operand}{xs:Array Operand}{ats:Array TypeId}{f:FuncId}{a us c ws:List W}{ty:TypeId}{e:Nat}{l:List W}(ho:o.op= .call ⟨.value x,xs,ats⟩)(hx:evW C G fr x=some (.fn f a c))(he:C.ext f=none)(hxs:evLW C G fr xs.toList=some us)(hws:a++us++c=ws)(hpw:purL ws=true)(sp:PL C G f ws ty e l)(hl:purL l=true)
  (hpost:post (gW nw e l) (gH nw ty e l++hp) (nw+1) R (some .gen)):Step C G o fr hp nw R post:=by
 refine qgq ho hx he hxs hws hpw sp ?_;rintro w hp1 nw1 ⟨rfl,rfl,rfl⟩
 have e1:renW (numC [] nw) (gW 0 e l)=gW nw e l:=by
  cases l with
  |nil=>rfl
  |cons x r=>simp only[gW,renW];rfl
 have e2:renH (numC [] nw) (gH 0 ty e l)=gH nw ty e l:=by
  cases l with
  |nil=>rfl
  |cons x r=>
   have hpa:purW (.arr ((x::r).length*e) e (x::r))=true:=hl;simp only[gH,renH,zmq hpa];rfl
 rw[e1,e2];exact hpost
variable {ops:Array Oper} {l:List Oper} {K:FrW->HpW->Nat->Res->Prop} {hp2:HpW} {nw2:Nat} {R2:Res}
theorem khq(e:∀k0,Ent C G m k0 fr hp nw R fr2 hp2 nw2 R2)(h:OpW C G m ops l fr2 hp2 nw2 R2 K):OpW C G m ops l fr hp nw R K:=fun Γ X frv hnw hm s hf=>by
 obtain⟨Γ2,X2,e1,e2,e3⟩:=e 0 Γ X ⟨frv,Γ.h,[],false⟩ hnw hm ⟨rfl,hf,s,by simp,List.nodup_nil⟩;obtain⟨n,frv',Γ',X',fr',hp',R',g1,g2,g3,g4,g5⟩:=h Γ2 X2 frv e1 (e1▸e3.mle (hnw▸hm)) e2.sat e2.fr;have hh:Γ.h=Γ2.h:=e2.hh;exact⟨n,frv',Γ',X',fr',hp',R',by rw[hh];exact g1,g2,g3,e3.trans g4,g5⟩
theorem op_z{o:Oper}{k:IntKind}{z:Int}(z':Int)(hw:qUq ops fr o=some true)(hx:qpq C G fr o.op=some (.int k (kaq k z)))(e:z=z')(hz:inK k z')(h:OpW C G m ops l (putW fr o.dst (.int k z')) hp nw R K):OpW C G m ops (o::l) fr hp nw R K:=by
 subst e;exact yzq hw hx hz h
theorem Znq{o:Oper}{ts tx ty:TypeId}{j k:TyI}{x y:Operand}{u:W}{xs news:List W}{b e d:Nat}{H0:HpW}(P:HpW)(fr2:FrW)(he:e=k.size)(hw:qUq ops fr o=some true)(ho:o.op= .call ⟨.builtin .append, #[x,y], #[ts,tx]⟩)(hd0:o.dst=some d)(hx:evW C G fr x=some (gW b e xs))(hy:evW C G fr y=some u)
  (hj:C.ty ts=some j) (hd:j.d= .slice ty) (hk:C.ty ty=some k) (hz:Nat.beq k.size 0=false) (hs:srcW C hp tx k.size u=some news) (h1:(xs.length+news.length)*k.bytes<=140737488355328) (h2:xs.length+news.length<=70368744177664) (hg:hp=P++gH b ty e xs) (hP:∀p∈P,p.1≠b) (hm:m<=b) (hb:b<nw)
  (hf:subF fr fr2) (hdf:getW fr2 d=none) (hr:refF b fr2) (hpx:purL (xs++news)=true) (hh:subH P b H0) (nd:(H0.map (·.1)).Nodup)
  (h:OpW C G m ops l ((d,gW b e (xs++news))::fr2) (H0++gH b ty e (xs++news)) (b+1) R K):OpW C G m ops (o::l) fr hp nw R K:=by
 have hput:∀w,subF (putW fr o.dst w) fr2:=fun w=>by
  rw[hd0]
  have key:∀{q:FrW},subF fr q->getW q d=none->subF (putW fr (some d) w) q:=fun {q}=>by
   induction q with
   |nil=>exact fun _ _=>trivial
   |cons p q ih=>
    obtain⟨t,v⟩:=p;intro h1 h2;simp only[getW] at h2;split at h2
    ·cases h2
    ·rename_i hne;refine⟨?_,ih h1.2 h2⟩;show getW ((d,w)::fr) t=some v
     have:Nat.beq d t=false:=by
      cases hq:Nat.beq d t with
      |false=>rfl
      |true=>
       have:=Nat.eq_of_beq_eq_true hq;subst this;rw[Nat.beq_refl] at hne;cases hne
     simp only[getW,this];exact h1.1
  exact key hf hdf
 have front:∀{Q:HpW} {q:HpW},subH P b q->subH (P++Q) b q:=fun {Q q}=>by
  induction q with
  |nil=>exact fun _=>trivial
  |cons p q ih=>exact fun h=>⟨⟨h.1.1,krq h.1.2.1,h.1.2.2⟩,ih h.2⟩
 cases news with
 |nil=>
  have ha:opHW C G fr hp nw o.op=some (gW b e xs,hp,nw,.gen):=by rw[ho];exact yoq hx hy (app_gr0 he hj hd hk hz hs)
  refine znq hw ha ?_;rw[List.append_nil] at h hpx;refine khq (fun k0=>vSq (b:=b) (l2:=xs) d hm Xd (by rw[hd0];show getW ((d,gW b e xs)::fr) d=_;simp[getW]) (hput _) hr (fun x r hq=>?_) hpx (by rw[hg];exact front hh) nd) h;rw[hg,hq];exact kSq hP
 |cons z zs=>
  have ha:opHW C G fr hp nw o.op=some (.sl nw 0 0 (xs++z::zs).length e none,(nw,ty,.arr ((xs++z::zs).length*e) e (xs++z::zs))::P,nw+1,evG b xs):=by
   rw[ho];exact yoq hx hy (jPq P he hj hd hk hz hs Xk h1 h2 hg hP)
  refine znq hw ha ?_;refine khq (fun k0=>q0q nw d hm Xd (Nat.lt_succ_self _) Xk (by rw[hd0];show getW ((d,_)::fr) d=_;simp[getW]) rfl (hput _) hr (by rw[zzq,if_pos rfl]) hpx ?_ nd) h
  have key:∀{q:HpW},subH P b q->subH ((nw,ty,W.arr ((xs++z::zs).length*e) e (xs++z::zs))::P) b q:=fun {q}=>by
   induction q with
   |nil=>exact fun _=>trivial
   |cons p q ih=>
    obtain⟨c,y⟩:=p;exact fun h=>⟨⟨h.1.1,by rw[zzq,if_neg (by have:=h.1.1;omega)];exact h.1.2.1,h.1.2.2⟩,ih h.2⟩
  exact key hh
end
theorem view_g2{b e:Nat}{ty:TypeId}{l:List W}{H0 Q:HpW}(he:0<e)(hl:purL l=true)(hP:∀p∈H0,p.1≠b):View (blkA ((H0++gH b ty e l)++Q)) (gW b e l) (.fz l e false):=by
 cases l with
 |nil=>exact .nilfz
 |cons y r=>exact .sl (c:=.arr ((y::r).length*e) e (y::r)) (by
   unfold blkA;rw[show H0++gH b ty e (y::r)=H0++[(b,ty,.arr ((y::r).length*e) e (y::r))] from rfl,krq (kSq hP)]) hl (zpq he O O) Xj
theorem subH_g{hp:HpW}{b e:Nat}{ty:TypeId}{l:List W}{n:Nat}(hb:b<n)(hl:purL l=true)(hg:∀x r,l=x::r->hget hp b=some (ty,.arr ((x::r).length*e) e (x::r))):subH hp n (gH b ty e l):=by
 cases l with
 |nil=>trivial
 |cons x r=>
  have hpa:purW (.arr ((x::r).length*e) e (x::r))=true:=hl;exact⟨⟨hb,hg x r rfl,zfq hpa⟩,trivial⟩
theorem Kdq{b e:Nat}{ty:TypeId}{l:List W}:∀p∈gH b ty e l,p.1=b:=fun p hp=>by
 cases l with
 |nil=>cases hp
 |cons x r=>simp only[gH,List.mem_cons,List.not_mem_nil,or_false] at hp;rw[hp]
section
variable {C:Cfg} {G:Nat->Option W} {m k0:Nat} {fr fr2:FrW} {hp hp2:HpW} {nw nw2:Nat} {R:Res}
theorem ren_g(τ:Nat->Nat)(b e:Nat)(l:List W):renW τ (gW b e l)=gW (τ b) e l:=by cases l<;>rfl
theorem ref_g{n b e:Nat}{l:List W}(h:b<n):refB n (gW b e l)=true:=by
 cases l with
 |nil=>rfl
 |cons x r=>simp[gW,refB,h]
theorem renH_g(τ:Nat->Nat)(b:Nat)(ty:TypeId)(e:Nat){l:List W}(hl:purL l=true):renH τ (gH b ty e l)=gH (τ b) ty e l:=by
 cases l with
 |nil=>rfl
 |cons x r=>
  have hpa:purW (.arr ((x::r).length*e) e (x::r))=true:=hl;simp only[gH,renH,zmq hpa]
theorem hdel_g{b:Nat}{ty:TypeId}{e:Nat}{l:List W}{P:HpW}(hP:∀p∈P,p.1≠b):hdel (P++gH b ty e l) b=P:=by
 cases l with
 |cons x r=>exact J8q hP
 |nil=>
  rw[show gH b ty e []=[] from rfl,List.append_nil];induction P with
  |nil=>rfl
  |cons p P ih=>
   obtain⟨c,y⟩:=p;have hc:=hP (c,y) (List.mem_cons_self ..)
   have e:Nat.beq c b=false:=by
    cases q:Nat.beq c b with
    |true=>exact absurd (Nat.eq_of_beq_eq_true q) hc
    |false=>rfl
   show(match Nat.beq c b with|true=>P|false=>(c,y)::hdel P b)=_;rw[e];exact congrArg _ (ih fun p hp=>hP p (List.mem_cons_of_mem _ hp))
theorem vLq{b:Nat}:∀{P:HpW},(∀p∈P,p.1≠b) ->hget P b=none
 |[],_=>rfl
 |(c,y)::P,h=>by
  rw[zzq,if_neg fun e=>h (c,y) (List.mem_cons_self ..) e];exact vLq fun p hp=>h p (List.mem_cons_of_mem _ hp)
theorem Z9q{b:Nat}{Q:HpW}:∀{P:HpW},hget (P++Q) b=(hget P b).orElse fun _=>hget Q b
 |[]=>by simp[hget]
 |(c,y)::P=>by
  rw[List.cons_append,zzq,zzq];split
  ·rfl
  ·exact Z9q
theorem Ymq{blk:Nat->Option W}{b:Nat}{Y:HpW}:∀{X:HpW},Ynq blk b hp X->Ynq blk b hp Y->Ynq blk b hp (X++Y)
 |[],_,h=>h
 |_::_,h,h2=>⟨h.1,Ymq h.2 h2⟩
theorem ent_frg{b e:Nat}{ty:TypeId}{l:List W}{X:HpW}(s:Nat)(he:0<e)(hl:purL l=true)(hbm:m<=b)(hs:getW fr s=some (gW b e l))(hf:∀blk:Nat->Option W,(∀i,i≠b->blk i=none) ->subV blk fr fr2)(hX:∀blk:Nat->Option W,(∀i,i≠b->blk i=none) ->Ynq blk b (X++gH b ty e l) X)(nd:(X.map (·.1)).Nodup)(hXb:∀p∈X,p.1≠b):Ent C G m k0 fr (X++gH b ty e l) nw R ((s,.fz l e false)::fr2) X nw R:=by
 cases l with
 |nil=>
  rw[show gH b ty e []=[] from rfl,List.append_nil];exact ent_view _ ⟨⟨_,hs,.nilfz⟩,hf _ fun _ _=>rfl⟩
 |cons x r=>
  have hne:∀i,i≠b->blk1 b (.arr ((x::r).length*e) e (x::r)) i=none:=fun i hi=>by
   unfold blk1
   have:Nat.beq i b=false:=by
    cases q:Nat.beq i b with
    |true=>exact absurd (Nat.eq_of_beq_eq_true q) hi
    |false=>rfl
   rw[this]
  exact Zvq b _ X (kSq hXb) hl hbm ⟨⟨_,hs,.sl (c:=.arr ((x::r).length*e) e (x::r)) (by unfold blk1;rw[Nat.beq_refl]) hl (zpq he O O) Xj⟩,hf _ hne⟩ (hX _ hne) nd
end
section
attribute [local irreducible] CoW OpW FlW Step Spec
variable {G:Nat->Option W}
def okN(ns:List Node):Prop:=∀i x,ns[i]? =some x->oneB x i
theorem rep_of{ns:List Node}(h:okN ns):∀n,n<=ns.length->∃t,Rep ns n t:=by
 intro n;induction n using Nat.strongRecOn with
 |_ n ih=>
  intro hn;cases n with
  |zero=>exact⟨_,.nil⟩
  |succ n=>
   obtain⟨x,hx⟩:∃x,ns[n]? =some x:=⟨_,List.getElem?_eq_getElem hn⟩
   have h1:=h n x hx;obtain⟨lf,k,v,l,r⟩:=x;cases lf with
   |true=>exact⟨_,.leaf hx⟩
   |false=>
    simp only[oneB,Bool.false_eq_true,if_false] at h1;obtain⟨⟨a1,a2⟩,⟨b1,b2⟩,_⟩:=h1;obtain⟨l,rfl⟩:=Int.eq_ofNat_of_zero_le a1;obtain⟨r,rfl⟩:=Int.eq_ofNat_of_zero_le b1;obtain⟨L,hL⟩:=ih l Xd Xd;obtain⟨R,hR⟩:=ih r Xd Xd;exact⟨_,.fork hx Xd Xd hL hR⟩
theorem Rep.uniq{ns:List Node}{n:Nat}{t:T}(h:Rep ns n t):∀{t':T},Rep ns n t'->t=t':=by
 induction h with
 |nil=>intro t' h';cases h';rfl
 |leaf h=>
  intro t' h';cases h' with
  |leaf h2=>rw[h] at h2;cases h2;rfl
  |fork h2=>rw[h] at h2;cases h2
 |fork h hl hr _ _ i1 i2=>
  intro t' h';cases h' with
  |leaf h2=>rw[h] at h2;cases h2
  |fork h2 _ _ hL hR=>
   rw[h] at h2;simp only[Option.some.injEq,Node.mk.injEq,Int.natCast_inj,true_and] at h2;obtain⟨_,_,rfl,rfl⟩:=h2;rw[i1 hL,i2 hR]
def MayT(t:Tree):Prop:=t.nodes.length<=262144/\okN t.nodes/\∃(n:Nat) (t0:T),t.root=n/\Rep t.nodes n t0/\t0.ok 0 qHq=true
noncomputable instance(t:Tree):Decidable (MayT t):=Classical.propDecidable _
theorem qIq(t:Tree)(hb:t.nodes.length<=4611686018427387903):PS cfg G 110 [tW t] (.int .i64 (if MayT t then 0 else 8)):=by
 have e:(t.nodes.map nW).length=t.nodes.length:=List.length_map _;have no:∀{R:Res} {k0:Nat},¬MayT t->W.int .i64 8=W.int .i64 (if MayT t then 0 else 8):=fun h=>by rw[if_neg h]
 refine zFq (fn:=Tryz.f110) O O O (Ob rfl) (fun R k0=>?_);refine zjq 11 O ?_;refine zgq (w':=.int .i64 (t.nodes.length:Int)) O O Xy ?_;refine yZq O O (fun h1=>?_) (fun h1=>?_)
 ·have hno:¬MayT t:=fun h=>by have:=h.1;omega
  refine zaq 23 O ?_;exact zhq (.inr rfl) rfl Qp
 refine zaq 3 O ?_;refine yZq O O (fun h2=>?_) (fun h2=>?_)
 ·have hno:¬MayT t:=fun h=>by obtain⟨_,_,n,_,h,_⟩:=h;have h2:t.root<0:=h2;omega
  refine zaq 19 O ?_;exact zhq (.inr rfl) rfl Qp
 refine zaq 6 O ?_;refine zgq (w':=.int .i64 (t.nodes.length:Int)) O O Xy ?_;refine yVq O O ?_;refine zaq 3 O ?_;refine zyq rfl (fun h3=>?_) (fun h3=>?_)
 ·have hno:¬MayT t:=fun h=>by obtain⟨_,_,n,_,h,hr,_⟩:=h;have h3:(t.nodes.length:Int)<t.root:=h3;have:=hr.le;omega
  refine zeq 7 O ?_;exact zhq (.inr rfl) rfl Qp
 have h2:¬t.root<0:=h2;have h3:¬(t.nodes.length:Int)<t.root:=h3;obtain⟨n0,hn0⟩:=Int.eq_ofNat_of_zero_le (show 0<=t.root by omega);refine zeq 7 O ?_;refine zgq (w':=.int .i64 (t.nodes.length:Int)) O O Xy ?_;refine zaq 4 O ?_;refine yEq (α:=Nat) (fun i=>i<=t.nodes.length/\∀j x,j<i->t.nodes[j]? =some x->oneB x j) (fun i=>[(27,.int .i64 (i:Int))]) [(1,_),(2,_),(25,_),(26,_)] (fun i=>t.nodes.length-i) (0) ⟨rfl,rfl,rfl,rfl,trivial⟩ (⟨Nat.zero_le _,fun j x hj=>by omega⟩) ⟨rfl,trivial⟩ (fun i hI=>?_);obtain⟨hi,hI⟩:=hI;refine zjq 6 O ?_;refine zyq rfl (fun h4=>?_) (fun h4=>?_)
 ·have hi':i<t.nodes.length:=by omega
  obtain⟨x,hx⟩:∃x,t.nodes[i]? =some x:=⟨_,List.getElem?_eq_getElem hi'⟩
  refine zeq 7 O ?_;refine zbq rfl (zBq (i:=i) O O O O O O O (zYq nW hx)) ?_;refine zaq 10 O ?_;refine zkq O O O O O O (one_s _ _ Xd) ?_;refine zaq 3 O ?_;refine zyq rfl (fun h5=>?_) (fun h5=>?_)
  ·have hno:¬MayT t:=fun h=>by have:=h.2.1 i x hx;simp[this] at h5
   refine zeq 8 O ?_;refine z3q Xj ?_;refine zCq 2 O ?_;exact zhq (.inr rfl) rfl Qp
  ·have h5:oneB x i:=by simpa using h5
   refine zeq 4 O ?_;refine zlq (i+1) O O Xi ⟨by omega,by omega⟩ ?_;refine yyq 2 O ?_;exact z5q (i+1) (⟨hi',fun j y hj hy=>by rcases Nat.lt_succ_iff_lt_or_eq.1 hj with h|rfl;exact hI j y h hy;exact(Option.some.inj (hx.symm.trans hy))▸h5⟩) Xd ⟨rfl,trivial⟩ ⟨rfl,rfl,rfl,rfl,trivial⟩ Xg Xd Xm rfl
 ·have okn:okN t.nodes:=fun j x hx=>hI j x (by have:=(List.getElem?_eq_some_iff.1 hx).1;omega) hx
  obtain⟨t0,ht0⟩:=rep_of okn n0 Xd
  have key:MayT t↔t0.ok 0 qHq=true:=by
   constructor
   ·rintro⟨_,_,n,t1,hn,hr,hk⟩;obtain rfl:n=n0:=by omega
    rw[ht0.uniq hr];exact hk
   ·exact fun h=>⟨by omega,okn,n0,t0,hn0,ht0,h⟩
  refine zeq 2 O ?_;refine z3q Xj ?_;refine zCq 8 O ?_;refine zgq O O xMq ?_;refine op_ps O O O O O (by rw[hn0];rfl) (right_s t Xd t0 n0 0 qHq ht0 Xd) Xk Xk ?_;refine zaq 13 O ?_;refine zyq rfl (fun h5=>?_) (fun h5=>?_)
  ·have hno:¬MayT t:=fun h=>by have:=key.1 h;simp[this] at h5
   refine zeq 7 O ?_;exact zhq (.inr rfl) rfl Qp
  ·have yes:MayT t:=key.2 (by simpa using h5);refine zeq 8 O ?_;exact zhq (.inr rfl) rfl Yx
inductive FTo(ns:List Node)(k:Dig):Nat->Nat->Nat->Prop where
 |nil {d:Nat}:FTo ns k 0 d 0
 |hit {n d:Nat} {v:List UInt8} {l r:Int} (h:ns[n]? =some ⟨true,k,v,l,r⟩):FTo ns k (n+1) d (n+1)
 |miss {n d:Nat} {k':Dig} {v:List UInt8} {l r:Int} (h:ns[n]? =some ⟨true,k',v,l,r⟩) (hk:k'≠k):FTo ns k (n+1) d 0
 |go {n d l r m:Nat} {k':Dig} {v:List UInt8} (h:ns[n]? =some ⟨false,k',v,l,r⟩) (hd:d<256) (hg:FTo ns k (if bitN k d=0 then l else r) (d+1) m):FTo ns k (n+1) d m
theorem fto_of{ns:List Node}{k:Dig}{n:Nat}{t:T}(h:Rep ns n t):∀{d:Nat} {b:Dig},t.ok d b=true->∃m,FTo ns k n d m/\(t.find k d=none->m=0)/\∀v,t.find k d=some v->∃j l r,m=j+1/\ns[j]? =some ⟨true,k,v,l,r⟩:=by
 induction h with
 |nil=>exact fun _=>⟨0,.nil,fun _=>rfl,fun v h=>by simp[T.find] at h⟩
 |leaf h=>
  rename_i n k' v l r;intro d b _;by_cases e:k'=k
  ·subst e;exact⟨n+1,.hit h,fun hn=>by simp[T.find] at hn,fun w hw=>by simp only[T.find,if_true,Option.some.injEq] at hw;subst hw;exact⟨n,l,r,rfl,h⟩⟩
  ·exact⟨0,.miss h e,fun _=>rfl,fun w hw=>by simp[T.find,e] at hw⟩
 |fork h hl hr hL hR i1 i2=>
  intro d b hk;obtain⟨hd,k1,k2,_⟩:=ok_fork.1 hk;by_cases hb:bitN k d=0
  ·obtain⟨m,g1,g2,g3⟩:=i1 k1;exact⟨m,.go h hd (by rw[if_pos hb];exact g1),by simp only[T.find,if_pos hb];exact g2,by simp only[T.find,if_pos hb];exact g3⟩
  ·obtain⟨m,g1,g2,g3⟩:=i2 k2;exact⟨m,.go h hd (by rw[if_neg hb];exact g1),by simp only[T.find,if_neg hb];exact g2,by simp only[T.find,if_neg hb];exact g3⟩
theorem y0q(k:Dig)(d c:Nat)(h:d<256)(hc:bitN k d=c):PS cfg G 254 [dW k,.int .i64 (d:Int)] (.int .u8 (c:Int)):=hc▸tbit_s k d h
theorem tfind_s(t:Tree)(k:Dig)(n m:Nat)(hn:t.root=n)(hf:FTo t.nodes k n 0 m)(hb:t.nodes.length<=4611686018427387903):PS cfg G 245 [tW t,dW k] (.int .i64 (m:Int)):=by
 obtain⟨ns,root⟩:=t;simp only at hn hf hb;subst hn;refine zFq (fn:=Tryz.f245) O O O (Ob rfl) (fun R k0=>?_);refine zjq 21 O ?_;refine yEq (α:=Nat×Nat) (fun p=>FTo ns k p.1 p.2 m/\p.2<=256) (fun p=>[(5,.int .i64 (p.1:Int)),(6,.int .i64 (p.2:Int))]) [(2,_),(3,_),(4,_)] (fun p=>257-p.2) ((n,0)) ⟨rfl,rfl,rfl,trivial⟩ (⟨hf,by simp⟩) ⟨rfl,rfl,trivial⟩ (fun p hI=>?_);obtain⟨i,d⟩:=p;obtain⟨hf,hd⟩:=hI;simp only at hf hd⊢;refine zjq 7 O ?_;refine zyq rfl (fun h1=>?_) (fun h1=>?_)
 ·cases hf with
  |nil=>exfalso;omega
  |hit h=>
   skip
   rename_i i v l r;have hi:=(List.getElem?_eq_some_iff.1 h).1;refine zeq 9 O ?_;refine zlq (i) O O Xi ⟨by omega,by omega⟩ ?_;refine zbq rfl (zBq (i:=i) O O O O O O O (zYq nW h)) ?_;refine zaq 19 O ?_;refine k6q rfl (q3q O O O O (qlq O O O O O O _ _ 250)) yPq ?_;refine zaq 2 O ?_;refine zyq rfl (fun h2=>?_) (fun h2=>?_)
   ·refine zeq 11 O ?_;refine z3q Xj ?_;refine zCq 2 O ?_;first|exact zhq (.inr rfl) O O|exact zhq (.inl rfl) O O|(exfalso;omega)
   ·exfalso;exact h2 rfl
  |miss h hk=>
   rename_i i k' v l r;have hi:=(List.getElem?_eq_some_iff.1 h).1;refine zeq 9 O ?_;refine zlq (i) O O Xi ⟨by omega,by omega⟩ ?_;refine zbq rfl (zBq (i:=i) O O O O O O O (zYq nW h)) ?_;refine zaq 19 O ?_;refine k6q rfl (q3q O O O O (qlq O O O O O O _ _ 250)) yPq ?_;refine zaq 2 O ?_;refine zyq rfl (fun h2=>?_) (fun h2=>?_)
   ·exfalso;exact hk h2
   ·refine zeq 11 O ?_;refine z3q Xj ?_;refine zCq 2 O ?_;first|exact zhq (.inr rfl) O O|exact zhq (.inl rfl) O O|(exfalso;omega)
  |go h hd' hg=>
   rename_i i l r k' v;have hi:=(List.getElem?_eq_some_iff.1 h).1;have bl:=jtq k d;rcases Nat.lt_or_ge 0 (bitN k d) with hb1|hb0
   ·skip
    have hc:bitN k d=1:=by omega
    rw[if_neg Xd] at hg;refine zeq 9 O ?_;refine zlq (i) O O Xi ⟨by omega,by omega⟩ ?_;refine zbq rfl (zBq (i:=i) O O O O O O O (zYq nW h)) ?_;refine zaq 17 O ?_;refine yxq O O O O O O (kAq _) ?_;refine zoq 2 O ?_;first|refine yxq O O O O O O (y0q k d 1 hd' hc) ?_|refine yxq O O O O O O (tbit_s _ _ Xd) ?_
    refine zoq 7 O ?_;refine zlq (d+1) O O Xi ⟨by omega,by omega⟩ ?_;refine yyq 2 O ?_;exact z5q ((r,d+1)) (⟨hg,hd'⟩) Yh ⟨rfl,rfl,trivial⟩ ⟨rfl,rfl,rfl,trivial⟩ Xg Xd Xm rfl
   ·have hc:bitN k d=0:=by omega
    rw[if_pos hc] at hg;refine zeq 9 O ?_;refine zlq (i) O O Xi ⟨by omega,by omega⟩ ?_;refine zbq rfl (zBq (i:=i) O O O O O O O (zYq nW h)) ?_;refine zaq 17 O ?_;refine yxq O O O O O O (kAq _) ?_;refine zoq 2 O ?_;refine yxq O O O O O O (y0q k d 0 hd' hc) ?_;refine zoq 7 O ?_;refine zlq (d+1) O O Xi ⟨by omega,by omega⟩ ?_;refine yyq 2 O ?_;exact z5q ((l,d+1)) (⟨hg,hd'⟩) Yh ⟨rfl,rfl,trivial⟩ ⟨rfl,rfl,rfl,trivial⟩ Xg Xd Xm rfl
 ·obtain rfl:i=0:=by omega
  cases hf;refine zeq 2 O ?_;refine z3q Xj ?_;refine zCq 8 O ?_;first|exact zhq (.inr rfl) O O|exact zhq (.inl rfl) O O|(exfalso;omega)
structure IsT(t:Tree)(n:Nat)(t0:T):Prop where
 len:t.nodes.length<=262144
 okn:okN t.nodes
 root:t.root=n
 rep:Rep t.nodes n t0
 ok:t0.ok 0 qHq=true
theorem IsT.may{t:Tree}{n:Nat}{t0:T}(h:IsT t n t0):MayT t:=⟨h.len,h.okn,n,t0,h.root,h.rep,h.ok⟩
theorem may_is{t:Tree}(h:MayT t):∃n t0,IsT t n t0:=by
 obtain⟨h1,h2,n,t0,h3,h4,h5⟩:=h;exact⟨n,t0,h1,h2,h3,h4,h5⟩
theorem YPq{ns:List Node}(h:okN ns){i:Nat}{k:Dig}{v:List UInt8}{l r:Int}(hx:ns[i]? =some ⟨true,k,v,l,r⟩):0<v.length/\v.length<=64:=by
 have h1:=h i _ hx;simp only[oneB,if_true] at h1;have h2:=(h1.2.2.2 0 Xk (k,v) rfl).1;simp only[valB,Bool.and_eq_true,decide_eq_true_eq] at h2;exact h2
noncomputable def getW':Option (List UInt8) ->W
 |none=>.tup [.nils,.bool false]
 |some v=>.tup [bW v,.bool true]
theorem tget_s(t:Tree)(n:Nat)(t0:T)(k:Dig)(h:IsT t n t0):PS cfg G 184 [tW t,dW k] (getW' (t0.find k 0)):=by
 have hl:=h.len;have hy:=h.may;obtain⟨m,f1,f2,f3⟩:=fto_of (k:=k) h.rep h.ok;cases hf:t0.find k 0 with
 |none=>
  obtain rfl:=f2 hf;refine zFq (fn:=Tryz.f184) O O O (Ob rfl) (fun R k0=>?_);refine zjq 12 O ?_;first|refine zkq O O O O O O (yrq (w':=.int .i64 0) (qIq t Xd) (by rw[if_pos hy])) ?_|refine zkq O O O O O O (qIq _ Xd) ?_|refine zkq O O O O O O (qIq _ Xd) ?_
  refine zaq 10 O ?_;refine zkq O O O O O O (tfind_s t k n _ h.root f1 Xd) ?_;refine zaq 19 O ?_;exact zhq (.inr rfl) O O
 |some v=>
  obtain⟨j,l,r,rfl,hx⟩:=f3 v hf;have hv:=YPq h.okn hx;have hj:=(List.getElem?_eq_some_iff.1 hx).1;refine zFq (fn:=Tryz.f184) O O O (Ob rfl) (fun R k0=>?_);refine zjq 12 O ?_;first|refine zkq O O O O O O (yrq (w':=.int .i64 0) (qIq t Xd) (by rw[if_pos hy])) ?_|refine zkq O O O O O O (qIq _ Xd) ?_|refine zkq O O O O O O (qIq _ Xd) ?_
  refine zaq 10 O ?_;refine zkq O O O O O O (tfind_s t k n _ h.root f1 Xd) ?_;refine zaq 10 O ?_;refine zyq rfl (fun h1=>?_) (fun h1=>?_)
  ·exfalso;omega
  ·refine zeq 7 O ?_;refine zlq (j) O O Xi ⟨by omega,by omega⟩ ?_;refine zbq rfl (zBq (i:=j) O O O O O O O (zYq nW hx)) ?_;refine zaq 2 O ?_;refine zkq O O O O O O (Qpq v false Xd) ?_;refine zaq 5 O ?_;exact zhq (.inr rfl) O O
theorem teach_s(t:Tree)(n:Int):PS cfg G 117 [tW t,.int .i64 n] (.fn 193 [] [.fel (.int .i64 n),.fel (tW t)]):=by
 refine zFq (fn:=Tryz.f117) O O O (Ob rfl) (fun R k0=>?_);refine zjq 14 O ?_;refine xJq (fr2:=[(4,_)]) Xx ?_ O O
 (repeat (first|exact trivial|refine And.symm ⟨?_,_,rfl,?_⟩))<;>(repeat (first|exact .nil|refine .cons ?_ ?_|refine .fn ?_ ?_|(refine y9q O ?_ rfl;(first|rfl|(focus (simp;done))))|(refine .sl O ?_ rfl Xj;(first|rfl|(focus (simp;done))))|(refine .pur ?_;(first|rfl|(focus (simp;done))))|refine .agg ?_|refine .arr ?_|refine .tup ?_))
noncomputable def enc1(p:Pr):List W:=[pW p]
theorem yl_same{L:Nat}{E:Res->Prop}{b:Bool}{R1:Res}{l:List (List W)}(h:match b with|true=>Yl cfg G L E [] R1|false=>E R1):E R1:=by cases b<;>exact h
def restL(tl tr:T):Nat->List Pr
 |0=>tl.all++tr.all
 |1=>tr.all
 |_=>[]
theorem Qgq{α:Type}{l:List α}{i:Nat}{x:α}(h:l[i]? =some x):l.drop i=x::l.drop (i+1):=by
 obtain⟨hl,h2⟩:=List.getElem?_eq_some_iff.1 h;rw[List.drop_eq_getElem_cons hl,h2]
theorem teach_it(t:Tree)(hv:∀(i:Nat) (k:Dig) (v:List UInt8) (l r:Int),t.nodes[i]? =some (Node.mk true k v l r) ->v.length<=70368744177664)(hb:t.nodes.length<=4611686018427387903):∀(t0:T) (n:Nat),Rep t.nodes n t0->jlq cfg G 193 [.fel (.int .i64 (n:Int)),.fel (tW t)] (t0.all.map enc1):=by
 intro t0;induction t0 with
 |nil=>
  intro n hr;obtain rfl:n=0:=by cases hr;rfl
  refine u7q (fn:=Tryz.f193) O O O (Ob rfl) (fun L E R hy k0=>?_);refine zjq 15 O ?_;exact xWq (.inr rfl) rfl hy
 |leaf k v=>
  intro n hr;have hle:=hr.le;cases hr with
  |leaf h=>
  rename_i n l r;have hvl:=hv _ _ _ _ _ h;refine u7q (fn:=Tryz.f193) O O O (Ob rfl) (fun L E R hy k0=>?_);refine zjq 12 O ?_;refine zyq rfl (fun h1=>?_) (fun h1=>?_)
  ·exfalso;omega
  ·refine zeq 7 O ?_;refine zlq (n) O O Xi ⟨by omega,by omega⟩ ?_;refine zbq rfl (zBq (i:=n) O O O O O O O (zYq nW h)) ?_;refine zaq 20 O ?_;refine fl_ps O O O O O O (Qpq v false hvl) Xk Xk Xr ?_;refine zcq O O ?_;refine yaq rfl (jvq O O O (hy) (fun b R1 hb=>?_));refine⟨by first|rfl|kernel_rfl,?_⟩;refine zoq 4 O ?_;exact xWq (.inr rfl) rfl (yl_same (l:=[]) hb)
 | fork tl tr ihL ihR=>
  intro n hr;have hle:=hr.le;cases hr with
  |fork h hl hr hL hR=>
  rename_i n l r k v;refine u7q (fn:=Tryz.f193) O O O (Ob rfl) (fun L E R hy k0=>?_);refine zjq 12 O ?_;refine zyq rfl (fun h1=>?_) (fun h1=>?_)
  ·exfalso;omega
  ·refine zeq 7 O ?_;refine zlq (n) O O Xi ⟨by omega,by omega⟩ ?_;refine zbq rfl (zBq (i:=n) O O O O O O O (zYq nW h)) ?_;refine zaq 18 O ?_;refine zkq O O O O O O (kAq _) ?_;refine zaq 4 O ?_;refine Kuq (α:=Nat×Res) (fun p=>p.1<=2/\Yl cfg G L E ((restL tl tr p.1).map enc1) p.2) (fun p=>[(28,.int .i64 (p.1:Int))]) [(2,_),(3,_),(27,_)] (fun p=>p.2) (fun p=>2-p.1) ((0,R)) ⟨rfl,rfl,rfl,trivial⟩ (⟨by simp,hy⟩) ⟨rfl,trivial⟩ rfl (fun p hI=>?_);obtain⟨i,R⟩:=p;obtain⟨hi,hy⟩:=hI;simp only at hi hy⊢;refine zjq 6 O ?_;refine zyq rfl (fun h2=>?_) (fun h2=>?_)
   ·have hi':i=0\/i=1:=by omega
    rcases hi' with rfl|rfl
    ·skip
     refine zeq 14 O ?_;refine zkq O O O O O O (teach_s t l) ?_;refine zaq 3 O ?_;refine Qnq (enc1) (tl.all) (fun i a=>Yl cfg G L E (((tl.all.drop i)++tr.all).map enc1) a) (fun a=>a) (R) rfl Xn (ihL _ hL) (fun y _=>⟨by simp[enc1],rfl⟩) (hy) rfl (fun i a y hy hI=>?_) (fun a hI=>?_)
     ·have hd:=Qgq hy;rw[hd,List.cons_append,List.map_cons] at hI;refine zjq 4 O ?_;refine QOq ?_;refine zjq 5 O ?_;refine zrq rfl (jvq O O O (hI) (fun b R1 hb=>?_));refine zaq 3 O ?_;refine zyq rfl (fun h3=>?_) (fun h3=>?_)
      ·cases b with
       |true=>cases h3
       |false=>
        refine zeq 2 O ?_;refine JUq Xj ?_;refine zCq 3 O ?_;refine z3q Xj ?_;refine zCq 1 O ?_;exact xWq (.inr rfl) rfl hb
      ·cases b with
       |false=>exact absurd rfl h3
       |true=>
        refine zeq 2 O ?_;exact JTq (R1) (hb) Xd Xm rfl
     ·rw[List.drop_length,List.nil_append] at hI;refine zCq 4 O ?_;refine zlq (1) O O Xi ⟨by omega,by omega⟩ ?_;refine yyq 2 O ?_;exact z5q ((1,a)) (⟨by simp,hI⟩) Xk ⟨rfl,trivial⟩ ⟨rfl,rfl,rfl,trivial⟩ Xg Xd Xm rfl
    ·skip
     refine zeq 14 O ?_;refine zkq O O O O O O (teach_s t r) ?_;refine zaq 3 O ?_;refine Qnq (enc1) (tr.all) (fun i a=>Yl cfg G L E ((tr.all.drop i).map enc1) a) (fun a=>a) (R) rfl Xn (ihR _ hR) (fun y _=>⟨by simp[enc1],rfl⟩) (hy) rfl (fun i a y hy hI=>?_) (fun a hI=>?_)
     ·have hd:=Qgq hy;rw[hd,List.map_cons] at hI;refine zjq 4 O ?_;refine QOq ?_;refine zjq 5 O ?_;refine zrq rfl (jvq O O O (hI) (fun b R1 hb=>?_));refine zaq 3 O ?_;refine zyq rfl (fun h3=>?_) (fun h3=>?_)
      ·cases b with
       |true=>cases h3
       |false=>
        refine zeq 2 O ?_;refine JUq Xj ?_;refine zCq 3 O ?_;refine z3q Xj ?_;refine zCq 1 O ?_;exact xWq (.inr rfl) rfl hb
      ·cases b with
       |false=>exact absurd rfl h3
       |true=>
        refine zeq 2 O ?_;exact JTq (R1) (hb) Xd Xm rfl
     ·rw[List.drop_length] at hI;refine zCq 4 O ?_;refine zlq (2) O O Xi ⟨by omega,by omega⟩ ?_;refine yyq 2 O ?_;exact z5q ((2,a)) (⟨by simp,hI⟩) Xk ⟨rfl,trivial⟩ ⟨rfl,rfl,rfl,trivial⟩ Xg Xd Xm rfl
   ·refine zeq 2 O ?_;refine z3q Xj ?_;refine zCq 1 O ?_;obtain rfl:i=2:=by omega
    exact xWq (.inl rfl) rfl hy
end
section
attribute [local irreducible] CoW OpW FlW Step Spec
variable {G:Nat->Option W}
noncomputable def psW(ps:List Pr):W:=.fz (ps.map pW) 33 false
@[simp] theorem psW_p(ps:List Pr):purW (psW ps)=true:=kcq ps
noncomputable def gat(ps:List Pr):HpW:=match ps with
 |[]=>[(0,41,.nils)]
 |_=>[(0,41,.sl 1 0 0 ps.length 33 none),(1,185,.arr (ps.length*33) 33 (ps.map pW))]
theorem gat_snoc(a:List Pr)(y:Pr):gat (a++[y])=[(0,41,.sl 1 0 0 (a.length+1) 33 none),(1,185,.arr ((a.length+1)*33) 33 (a.map pW++[pW y]))]:=by
 cases a with
 |nil=>rfl
 |cons x a=>simp[gat]
theorem pur1{a:List Pr}{y:Pr}{n:Nat}(e:Nat):purW (.arr n e (a.map pW++[pW y]))=true:=by simp
theorem aseq_s(f:FuncId)(cs:List W)(ls:List Pr)(hc:purL cs=true)(it:jlq cfg G f cs (ls.map enc1))(hb:ls.length<=1000000000):PS cfg G 192 [.nils,.fn f [] cs] (psW ls):=by
 refine q7q (fn:=Tryz.f192) O O O (Ob rfl) (fun R k0=>?_);refine zjq 13 O ?_;refine co_rangeN (α:=List Pr) (enc1) (ls) (fun i a=>a=ls.take i) (fun a=>gat a) (fun a=>(match a with|[]=>1|_=>2)) (fun a=>R) ([]) rfl Xn (it) (fun y _=>⟨by simp[enc1],rfl⟩) (rfl) O O O (fun i a y hy hI=>?_) (fun a hI=>?_)
 ·have hi:=(List.getElem?_eq_some_iff.1 hy).1;have hn:ls.take (i+1)=a++[y]:=by rw[List.take_add_one,hy,hI];rfl
  cases a with
  |nil=>
   skip
   refine zjq 4 O ?_;refine QOq ?_;refine zjq 5 O ?_;refine znq rfl (yoq O O (kNq (news:=[pW y]) (k:=ti185) O O O O (ymq O O O O) Xk (by show 1*ti185.bytes<=_;decide) (by show 1<=_;decide))) ?_;refine zaq 3 O ?_;refine YFq (ls.take (i+1)) O ?_;rw[hn,gat_snoc];refine y2q (b:=1) (k:=3) Xd Xd Ja trivial ⟨⟨by omega,rfl,rfl⟩,⟨by omega,?_,zfq (pur1 _)⟩,trivial⟩ Xk;rw[zmq (pur1 _)];rfl
  |cons x a=>
   have hl:(x::a).length<=1000000000:=by rw[hI,List.length_take];omega
   have el:((x::a).map pW).length=(x::a).length:=List.length_map _;refine zjq 4 O ?_;refine QOq ?_;refine zjq 5 O ?_;refine znq rfl (yoq O O (qxq (len:=(x::a).length) (news:=[pW y]) (olds:=(x::a).map pW) (k:=ti185) O O O O (ymq O O O O) Xk (by show((x::a).length+1)*56<=_;omega) (by show(x::a).length+1<=_;omega) rfl (by show(x::a).length*33<0+((x::a).length+1)*33;omega) rfl (zpq Xq el.symm rfl))) ?_;refine zaq 3 O ?_;refine YFq (ls.take (i+1)) O ?_;rw[hn,gat_snoc];refine y2q (b:=1) (k:=4) Xd Xd Yq trivial ⟨⟨by omega,rfl,rfl⟩,⟨by omega,?_,zfq (pur1 _)⟩,trivial⟩ Xk;rw[zmq (pur1 _)];rfl
 ·obtain rfl:a=ls:=by rw[hI,List.take_length]
  cases a with
  |nil=>
   skip
   refine zCq 9 O ?_;refine jrq Xx O ?_
   (repeat (first|exact .nil|refine .cons ?_ ?_|exact jBq|exact .nilfz|refine .fn ?_ ?_|(refine y9q O ?_ rfl;(first|rfl|(focus (simp;done))))|(refine .sl O ?_ rfl Xj;(first|rfl|(focus (simp;done))))|(refine .pur ?_;(first|rfl|(focus (simp;done))))|(refine .fzw ?_;(first|rfl|(focus (simp;done))))|refine .agg ?_|refine .arr ?_|refine .tup ?_))
  |cons x a=>
   refine zCq 9 O ?_;refine jrq Xx O ?_;exact .sl rfl (by show purL ((x::a).map pW)=true;exact kcq _) (zpq Xq (List.length_map _).symm rfl) Xj
theorem collect_s(f:FuncId)(cs:List W)(ls:List Pr)(hc:purL cs=true)(it:jlq cfg G f cs (ls.map enc1))(hb:ls.length<=1000000000):PS cfg G 116 [.fn f [] cs] (psW ls):=by
 refine zFq (fn:=Tryz.f116) O O O (Ob rfl) (fun R k0=>?_);refine zjq 8 O ?_;refine op_ps O O O O O O (aseq_s f cs ls hc it hb) (by simp[hc]) Xk ?_;refine zaq 4 O ?_;exact zhq (.inr rfl) O O
theorem nodup_le{α:Type} [DecidableEq α]:∀(l m:List α),l.Nodup->(∀x∈l,x∈m) ->l.length<=m.length
 |[],m,_,_=>Nat.zero_le _
 |x::l,m,hn,hs=>by
  obtain⟨h1,h2⟩:=List.nodup_cons.1 hn;have hx:=hs x Xk;have ih:=nodup_le l (m.erase x) h2 fun y hy=>(List.mem_erase_of_ne (fun e:y=x=>h1 (by rw[<-e];exact hy))).2 (hs y (by simp[hy]))
  rw[List.length_erase_of_mem hx] at ih;have:0<m.length:=List.length_pos_of_mem hx;simp only[List.length_cons];omega
theorem rep_mem{ns:List Node}{n:Nat}{t:T}(h:Rep ns n t):∀p∈t.all,∃(i:Nat) (l r:Int),ns[i]? =some (Node.mk true p.1 p.2 l r):=by
 induction h with
 |nil=>intro p hp;simp[T.all] at hp
 |leaf h=>intro p hp;simp only[T.all,List.mem_singleton] at hp;subst hp;exact⟨_,_,_,h⟩
 |fork h hl hr _ _ i1 i2=>
  intro p hp;rcases List.mem_append.1 hp with hp|hp
  ·exact i1 p hp
  ·exact i2 p hp
theorem srt_nodup{l:List Pr}(h:Srt l):(l.map (·.1)).Nodup:=by
 rw[List.nodup_iff_pairwise_ne,List.pairwise_map];exact h.imp fun h=>xSq h
theorem IsT.srt{t:Tree}{n:Nat}{t0:T}(h:IsT t n t0):Srt t0.all:=ok_srt jQq h.ok
theorem IsT.all_le{t:Tree}{n:Nat}{t0:T}(h:IsT t n t0):t0.all.length<=t.nodes.length:=by
 have:=nodup_le (t0.all.map (·.1)) (t.nodes.map (·.key)) (srt_nodup h.srt) fun k hk=>by
  obtain⟨p,hp,rfl⟩:=List.mem_map.1 hk;obtain⟨i,l,r,hx⟩:=rep_mem h.rep p hp;exact List.mem_map.2 ⟨_,List.mem_of_getElem? hx,rfl⟩
 simpa using this
theorem IsT.val{t:Tree}{n:Nat}{t0:T}(h:IsT t n t0):∀p∈t0.all,0<p.2.length/\p.2.length<=64:=fun p hp=>by
 obtain⟨i,l,r,hx⟩:=rep_mem h.rep p hp;exact YPq h.okn hx
theorem tpairs_s(t:Tree)(n:Nat)(t0:T)(h:IsT t n t0):PS cfg G 33 [tW t] (.tup [psW t0.all,.int .i64 0]):=by
 have hl:=h.len;have hy:=h.may;have ha:=h.all_le;have hr:=h.root;obtain⟨ns,root⟩:=t;simp only at hl hr ha;subst hr;refine zFq (fn:=Tryz.f33) O O O (Ob rfl) (fun R k0=>?_);refine zjq 11 O ?_;first|refine zkq O O O O O O (yrq (w':=.int .i64 0) (qIq ⟨ns,(n:Int)⟩ Qb) (by rw[if_pos hy])) ?_|refine zkq O O O O O O (qIq _ Xd) ?_
 refine zaq 17 O ?_;refine zkq O O O O O O (teach_s ⟨ns,(n:Int)⟩ (n:Int)) ?_;refine zkq O O O O O O (collect_s _ _ t0.all Xk (teach_it ⟨ns,(n:Int)⟩ (fun i k v l r hx=>by have:=(YPq h.okn hx).2;omega) Qb t0 n h.rep) Xd) ?_;refine zaq 5 O ?_;exact zhq (.inr rfl) O O
theorem tpairs_no(t:Tree)(hb:t.nodes.length<=4611686018427387903)(h:¬MayT t):PS cfg G 33 [tW t] (.tup [.nils,.int .i64 8]):=by
 refine zFq (fn:=Tryz.f33) O O O (Ob rfl) (fun R k0=>?_);refine zjq 11 O ?_;refine zkq O O O O O O (yrq (w':=.int .i64 8) (qIq t hb) (by rw[if_neg h])) ?_;refine zaq 19 O ?_;exact zhq (.inr rfl) O O
end
section
attribute [local irreducible] CoW OpW FlW Step Spec
variable {G:Nat->Option W}
theorem aeach_s(t:Tree):PS cfg G 115 [tW t] (.fn 191 [] [.fel (tW t)]):=by
 refine zFq (fn:=Tryz.f115) O O O (Ob rfl) (fun R k0=>?_);refine zjq 13 O ?_;refine xJq (fr2:=[(2,_)]) Xx ?_ O O
 (repeat (first|exact trivial|refine And.symm ⟨?_,_,rfl,?_⟩))<;>(repeat (first|exact .nil|refine .cons ?_ ?_|refine .fn ?_ ?_|(refine y9q O ?_ rfl;(first|rfl|(focus (simp;done))))|(refine .sl O ?_ rfl Xj;(first|rfl|(focus (simp;done))))|(refine .pur ?_;(first|rfl|(focus (simp;done))))|refine .agg ?_|refine .arr ?_|refine .tup ?_))
noncomputable def encA(p:Pr):List W:=[aW (qLq p.2).1,.bool (decide ((((qLq p.2).2:Nat):Int)=0))]
noncomputable def encZ(_:Unit):List W:=[aW .zero,.bool false]
theorem aeach_no(t:Tree)(hb:t.nodes.length<=4611686018427387903)(h:¬MayT t):jlq cfg G 191 [.fel (tW t)] ([()].map encZ):=by
 refine u7q (fn:=Tryz.f191) O O O (Ob rfl) (fun L E R hy k0=>?_);refine zjq 3 O ?_;refine zkq O O O O O O (tpairs_no t hb h) ?_;refine zaq 19 O ?_;refine zrq rfl (jvq O O O (hy) (fun b R1 hb=>?_));refine zaq 4 O ?_;exact xWq (.inr rfl) rfl (yl_same (l:=[]) hb)
theorem aeach_it(t:Tree)(n:Nat)(t0:T)(h:IsT t n t0):jlq cfg G 191 [.fel (tW t)] (t0.all.map encA):=by
 have e:(t0.all.map pW).length=t0.all.length:=List.length_map _;have hl:=h.len;have ha:=h.all_le;refine u7q (fn:=Tryz.f191) O O O (Ob rfl) (fun L E R hy k0=>?_);refine zjq 3 O ?_;refine zkq O O O O O O (tpairs_s t n t0 h) ?_;refine zaq 20 O ?_;refine zgq (w':=.int .i64 (t0.all.length:Int)) O O Xy ?_;refine zaq 4 O ?_;refine Kuq (α:=Nat×Res) (fun p=>p.1<=t0.all.length/\Yl cfg G L E ((t0.all.drop p.1).map encA) p.2) (fun p=>[(21,.int .i64 (p.1:Int))]) [(0,_),(19,_),(20,_)] (fun p=>p.2) (fun p=>t0.all.length-p.1) ((0,R)) ⟨rfl,rfl,rfl,trivial⟩ (⟨by simp,hy⟩) ⟨rfl,trivial⟩ rfl (fun p hI=>?_);obtain⟨i,R⟩:=p;obtain⟨hi,hy⟩:=hI;simp only at hi hy⊢;refine zjq 6 O ?_;refine zyq rfl (fun h1=>?_) (fun h1=>?_)
 ·have hi':i<t0.all.length:=by omega
  obtain⟨x,hx⟩:∃x,t0.all[i]? =some x:=⟨_,List.getElem?_eq_getElem hi'⟩
  have hv:=h.val x (List.mem_of_getElem? hx);rw[Qgq hx,List.map_cons] at hy;refine zeq 6 O ?_;refine zbq rfl (zBq (i:=i) O O O O O O O (zYq pW hx)) ?_;refine zaq 9 O ?_;refine zkq O O O O O O (aread_s x.2 false Xd) ?_;refine zaq 13 O ?_;refine yVq O O ?_;refine zrq rfl (jvq O O O (hy) (fun b R1 hb=>?_));refine zaq 3 O ?_;refine zyq rfl (fun h2=>?_) (fun h2=>?_)
  ·cases b with
   |true=>cases h2
   |false=>
    refine zeq 3 O ?_;refine z3q Xj ?_;refine zCq 1 O ?_;exact xWq (.inr rfl) rfl hb
  ·cases b with
   |false=>exact absurd rfl h2
   |true=>
    refine zeq 4 O ?_;refine zlq (i+1) O O Xi ⟨by omega,by omega⟩ ?_;refine yyq 2 O ?_;exact z5q ((i+1,R1)) (⟨hi',hb⟩) Yh ⟨rfl,trivial⟩ ⟨rfl,rfl,rfl,trivial⟩ Xg Xd Xm rfl
 ·refine zeq 2 O ?_;refine z3q Xj ?_;refine zCq 1 O ?_;obtain rfl:i=t0.all.length:=by omega
  rw[List.drop_length] at hy;exact xWq (.inl rfl) rfl hy
theorem encA_ok{l:List Pr}:∀y∈l,purL (encA y)=true/\(encA y).length=2:=fun y _=>⟨rfl,rfl⟩
structure IsA(t:Tree)(n:Nat)(t0:T):Prop extends IsT t n t0 where
 held:∀p∈t0.all,(qLq p.2).2=0
def MayA(t:Tree):Prop:=∃n t0,IsA t n t0
noncomputable instance(t:Tree):Decidable (MayA t):=Classical.propDecidable _
theorem jjq(t:Tree)(hb:t.nodes.length<=4611686018427387903):PS cfg G 32 [tW t] (.int .i64 (if MayA t then 0 else 8)):=by
 by_cases h:MayT t
 ·obtain⟨n,t0,h⟩:=may_is h;refine zFq (fn:=Tryz.f32) O O O (Ob rfl) (fun R k0=>?_);refine zjq 10 O ?_;refine zkq O O O O O O (aeach_s _) ?_;refine zaq 3 O ?_;refine Qnq (encA) (t0.all) (fun i (_:Unit)=>∀j p,j<i->t0.all[j]? =some p->(qLq p.2).2=0) (fun _=>R) (()) rfl Xn (aeach_it t n t0 h) (encA_ok) (fun j p hj=>by omega) rfl (fun i a y hy hI=>?_) (fun a hI=>?_)
  ·refine zjq 3 O ?_;refine QOq ?_;refine zjq 7 O ?_;refine zyq rfl (fun h1=>?_) (fun h1=>?_)
   ·have hno:¬MayA t:=by
     rintro⟨n',t1,ha⟩;obtain rfl:n'=n:=by have:=ha.root;have:=h.root;omega
     obtain rfl:=ha.rep.uniq h.rep;have:=ha.held y (List.mem_of_getElem? hy);rw[this] at h1;simp at h1
    refine zeq 7 O ?_;refine JUq Xj ?_;refine zCq 2 O ?_;exact zhq (.inr rfl) rfl Qp
   ·have hok:(qLq y.2).2=0:=by simp at h1;omega
    refine zeq 2 O ?_;exact JTq (()) (fun j p hj hp=>by rcases Nat.lt_succ_iff_lt_or_eq.1 hj with q|rfl;exact hI j p q hp;exact(Option.some.inj (hy.symm.trans hp))▸hok) Xd Xm rfl
  ·have yes:MayA t:=⟨n,t0,h,fun p hp=>by
    obtain⟨j,hj,hjp⟩:=List.getElem_of_mem hp;exact hI j p hj (by rw[List.getElem?_eq_getElem hj,hjp])⟩
   refine zCq 8 O ?_;exact zhq (.inr rfl) rfl Yx
 ·have hno:¬MayA t:=fun ⟨n,t0,ha⟩=>h ha.toIsT.may
  refine zFq (fn:=Tryz.f32) O O O (Ob rfl) (fun R k0=>?_);refine zjq 10 O ?_;refine zkq O O O O O O (aeach_s _) ?_;refine zaq 3 O ?_;refine Qoq (encZ) ([()]) (fun i=>i=0) rfl Xn (aeach_no t hb h) (fun y _=>⟨rfl,rfl⟩) (rfl) (fun i y hy hI=>?_) (fun hI=>?_)
  ·refine zjq 3 O ?_;refine QOq ?_;refine zjq 15 O ?_;refine q_leave Xj ?_;refine zCq 2 O ?_;exact zhq (.inr rfl) rfl Qp
  ·exfalso;simp at hI
def y7q(t0:T)(k:Dig):Acct:=match t0.find k 0 with
 |none=>.zero
 |some v=>(qLq v).1
theorem IsA.acct{t:Tree}{n:Nat}{t0:T}(h:IsA t n t0){k:Dig}{v:List UInt8}(hv:t0.find k 0=some v):(k,v)∈t0.all/\(qLq v).2=0:=by
 rw[uhq k jQq h.ok] at hv;have:=(ksq h.srt).1 hv;exact⟨this,h.held _ this⟩
theorem Jvq(t:Tree)(n:Nat)(t0:T)(h:IsA t n t0)(k:Dig):PS cfg G 105 [tW t,dW k] (.tup [aW (y7q t0 k),.int .i64 0]):=by
 have yes:MayA t:=⟨n,t0,h⟩;have hl:=h.len;cases hf:t0.find k 0 with
 |none=>
  have e:y7q t0 k= .zero:=by unfold y7q;rw[hf]
  rw[e];refine zFq (fn:=Tryz.f105) O O O (Ob rfl) (fun R k0=>?_);refine zjq 12 O ?_;first|refine zkq O O O O O O (yrq (w':=.int .i64 0) (jjq t Xd) Yx) ?_|refine zkq O O O O O O (jjq _ Xd) ?_
  refine zaq 16 O ?_;refine zkq O O O O O O (yrq (w':=.tup [.nils,.bool false]) (tget_s t n t0 k h.toIsT) (by rw[hf];rfl)) ?_;refine zaq 24 O ?_;exact zhq (.inr rfl) O O
 |some v=>
  obtain⟨h1,h2⟩:=h.acct hf;have hv:=h.val _ h1;have e:y7q t0 k=(qLq v).1:=by unfold y7q;rw[hf]
  rw[e];refine zFq (fn:=Tryz.f105) O O O (Ob rfl) (fun R k0=>?_);refine zjq 12 O ?_;first|refine zkq O O O O O O (yrq (w':=.int .i64 0) (jjq t Xd) Yx) ?_|refine zkq O O O O O O (jjq _ Xd) ?_
  refine zaq 16 O ?_;refine zkq O O O O O O (yrq (w':=.tup [bW v,.bool true]) (tget_s t n t0 k h.toIsT) (by rw[hf];rfl)) ?_;refine zaq 20 O ?_;refine zkq O O O O O O (aread_s v false (by simp only at hv;omega)) ?_;refine zaq 7 O ?_;exact zhq (.inr rfl) rfl (by rw[h2];rfl)
end
section
attribute [local irreducible] CoW OpW FlW Step Spec
variable {G:Nat->Option W}
noncomputable def nsW(ns:List Node):W:=.arr (ns.length*36) 36 (ns.map nW)
@[simp] theorem jJq(ns:List Node):purW (nsW ns)=true:=u2q ns
theorem nclone_s(ns:List Node)(f:Bool)(hl:ns.length<=1000000000):qiq cfg G 165 0 [.fz (ns.map nW) 36 f] [] fun w hp nw=>
  (ns=[]/\w= .nils/\hp=[]/\nw=0)\/(w= .sl 0 0 0 ns.length 36 none/\hp=[(0,165,nsW ns)]/\nw=1):=by
 intro R;have e:(ns.map nW).length=ns.length:=List.length_map _;refine zVq (fn:=Tryz.f165) O O O (Ob rfl) (fun k0=>?_);refine zjq 9 O ?_;first|refine zbq O O ?_|refine zrq rfl (step_nil O O O O O (fun bn hn=>?_))
 refine zaq 2 O ?_;refine zyq rfl (fun h1=>?_) (fun h1=>?_)
 ·cases bn with
  |false=>cases h1
  |true=>
   have hn:=hn rfl
   have hl0:ns=[]:=by cases ns with
    |nil=>rfl
    |cons c l=>simp at hn
   refine zeq 7 O ?_;exact fin (.inr rfl) Ent.refl rfl ⟨rfl,.inl ⟨hl0,rfl,rfl,rfl⟩⟩
 ·cases ns with
  |nil=>
   skip
   refine zeq 6 O ?_;refine znq rfl (yoq O O (ZBq O O O O O)) ?_;refine zaq 4 O ?_;exact fin (.inr rfl) Ent.refl rfl ⟨rfl,.inr ⟨rfl,rfl,rfl⟩⟩
  |cons c l=>
   refine zeq 6 O ?_;refine znq rfl (yoq O O (qxq (len:=0) (news:=(c::l).map nW) (olds:=[]) (k:=ti165) O O O O O Xk (by show(0+((c::l).map nW).length)*ti165.bytes<=_;rw[e];show(0+(c::l).length)*80<=_;omega) (by rw[e];omega) rfl (by show 0<0+(0+((c::l).map nW).length)*36;rw[e];simp only[List.length_cons];omega) O O)) ?_;refine zaq 4 O ?_;refine fin (.inr rfl) (y2q (b:=0) (k:=1) (fr2:=[(2,.sl 0 0 0 (c::l).length 36 none)]) (hp2:=[(0,165,nsW (c::l))]) Xd Xd (by show 1<2;omega) ⟨⟨?_,rfl⟩,trivial⟩ ⟨⟨by omega,?_,zfq (jJq _)⟩,trivial⟩ Xk) rfl ⟨rfl,.inr ⟨rfl,rfl,rfl⟩⟩
   ·show some (W.sl 1 0 0 (0+((c::l).map nW).length) 36 none)=some (W.sl 1 0 0 (c::l).length 36 none);rw[e,Nat.zero_add]
   ·rw[zmq (jJq _)];show some (165,W.arr ((0+((c::l).map nW).length)*36) 36 ([]++(c::l).map nW))=some (165,nsW (c::l));rw[e,Nat.zero_add];rfl
theorem node_get(ns:List Node){i:Nat}{x:Node}(h:ns[i]? =some x):yuq 50 (nsW ns) (0+i*36+33) 1 false=some (bW x.val):=
 get_in (zYq nW h) Xd Xd Xk rfl
theorem node_put(ns:List Node){i:Nat}{x:Node}(h:ns[i]? =some x):qYq 50 (nsW ns) (0+i*36+33) (bW x.val)=some (nsW ns):=by
 have h1:=zYq nW h;rw[nsW,put_in (x':=nW x) h1 Xd Xd (by simp[W.isAgg,bW]) rfl,set_same h1]
theorem twin_s(ns:List Node)(root:Int)(hl:ns.length<=1000000000)(hv:∀x∈ns,x.val.length<=70368744177664):qiq cfg G 92 0 [tW ⟨ns,root⟩] [] fun w hp nw=>
  (ns=[]/\w= .agg 2 [.nils,.int .i64 root]/\hp=[(1,24,.agg 2 [.nils,.int .i64 root]),(0,24,.agg 2 [.nils,.int .i64 root])]/\nw=2)\/
  (w= .agg 2 [.sl 2 0 0 ns.length 36 none,.int .i64 root]/\hp=[(2,165,nsW ns),(1,24,.agg 2 [.sl 2 0 0 ns.length 36 none,.int .i64 root]),(0,24,.agg 2 [.sl 2 0 0 ns.length 36 none,.int .i64 root])]/\nw=3):=by
 intro R;refine zVq (fn:=Tryz.f92) O O O (Ob rfl) (fun k0=>?_);refine zjq 10 O ?_;skip
 refine zrq rfl (qKq O O O O O (by simp[u2q]) (nclone_s ns false hl) ?_);rintro w hp1 nw1 (⟨hn,rfl,rfl,rfl⟩|⟨rfl,rfl,rfl⟩)
 ·skip
  skip
  refine zaq 9 O ?_;first|refine j3q O O ?_|refine zbq O O ?_
  refine zaq 4 O ?_;refine yEq (α:=Nat) (fun i=>i=0) (fun i=>[(11,.int .i64 (i:Int))]) [(1,_),(2,_),(10,_)] (fun i=>1-i) (0) ⟨rfl,rfl,rfl,trivial⟩ (rfl) ⟨rfl,trivial⟩ (fun i hI=>?_);subst hI;refine zjq 9 O ?_;refine z3q Xj ?_;refine zCq 9 O ?_;exact fin (.inr rfl) Ent.refl rfl ⟨rfl,.inl ⟨hn,rfl,rfl,rfl⟩⟩
 ·rw[renH_pur1 (jJq _)];show OpW cfg G _ _ _ _ [(2,165,nsW ns),(1,24,.agg 2 [.nils,.int .i64 0]),(0,24,tW ⟨ns,root⟩)] 3 R _;refine zaq 9 O ?_;first|refine j3q O O ?_|refine zbq O O ?_
  refine zaq 4 O ?_;refine yEq (α:=Nat) (fun i=>i<=ns.length) (fun i=>[(11,.int .i64 (i:Int))]) [(1,_),(2,_),(10,_)] (fun i=>ns.length-i) (0) ⟨rfl,rfl,rfl,trivial⟩ (Nat.zero_le _) ⟨rfl,trivial⟩ (fun i hI=>?_);refine zjq 6 O ?_;refine zyq rfl (fun h1=>?_) (fun h1=>?_)
  ·have hi:i<ns.length:=by omega
   obtain⟨x,hx⟩:∃x,ns[i]? =some x:=⟨_,List.getElem?_eq_getElem hi⟩
   have hxv:=hv x (List.mem_of_getElem? hx);refine zeq 17 O ?_;refine zcq rfl (zLq (i:=i) O O O O O O O hi) (zcq O O ?_);refine yqq rfl (ypq O O O (node_get ns hx)) Xr ?_;refine fl_ps O O O O O O (Qpq x.val false hxv) Xk Xk Xr ?_;refine zcq rfl (zLq (i:=i) O O O O O O O hi) (zcq O O ?_);refine yqq rfl (st_same O O O O O (node_put ns hx)) Xr ?_;refine zoq 4 O ?_;refine zlq (i+1) O O Xi ⟨by omega,by omega⟩ ?_;refine yyq 2 O ?_;exact z5q (i+1) (hi) Xd ⟨rfl,trivial⟩ ⟨rfl,rfl,rfl,trivial⟩ Xg Xd Xm rfl
  ·refine zeq 2 O ?_;refine z3q Xj ?_;refine zCq 9 O ?_;exact fin (.inr rfl) Ent.refl rfl ⟨rfl,.inr ⟨rfl,rfl,rfl⟩⟩
end
section
attribute [local irreducible] CoW OpW FlW Step Spec
variable {G:Nat->Option W}
noncomputable def mkW(b n:Nat)(root:Int):W:=.agg 2 [.sl b 0 0 n 36 none,.int .i64 root]
theorem nsW_snoc(ns:List Node)(x:Node):nsW (ns++[x])= .arr ((ns.length+1)*36) 36 (ns.map nW++[nW x]):=by simp[nsW]
theorem node_s(ns:List Node)(root:Int)(x:Node)(hl:ns.length<=1000000000):qiq cfg G 257 2 [.ptr 0 0,nW x] [(0,292,mkW 1 ns.length root),(1,165,nsW ns)] fun w hp nw=>
  w= .int .i64 ((ns.length+1:Nat):Int)/\hp=[(0,292,mkW 2 (ns.length+1) root),(2,165,nsW (ns++[x]))]/\nw=3:=by
 intro R;have el:(ns.map nW).length=ns.length:=List.length_map _;refine zVq (fn:=Tryz.f257) O O O (Ob rfl) (fun k0=>?_);refine zjq 16 O ?_;refine yqq rfl (yoq O O (qxq (len:=ns.length) (news:=[nW x]) (olds:=ns.map nW) (k:=ti165) O O O O (ymq O O O O) Xk (by show(ns.length+1)*80<=_;omega) (by show ns.length+1<=_;omega) rfl (by show ns.length*36<0+(ns.length+1)*36;omega) rfl (zpq Xq el.symm rfl))) Xr ?_;refine zoq 13 O ?_;first|refine j3q O O ?_|refine zbq O O ?_
 refine zaq 4 O ?_;refine fin (.inr rfl) (y2q (b:=2) (k:=4) (fr2:=[(4,.int .i64 ((ns.length+1:Nat):Int))]) (hp2:=[(0,292,mkW 2 (ns.length+1) root),(2,165,nsW (ns++[x]))]) Xd Xd Yq ⟨⟨rfl,rfl⟩,trivial⟩ ⟨⟨by omega,rfl,rfl⟩,⟨by omega,?_,zfq (jJq _)⟩,trivial⟩ Xk) rfl ⟨rfl,rfl,rfl,rfl⟩;rw[zmq (jJq _),nsW_snoc];rfl
noncomputable def Mk(root:Int)(P:List Node->Nat->Prop):W->HpW->Nat->Prop:=fun w hp nw=>
 ∃ns m,P ns m/\w= .int .i64 ((m:Nat):Int)/\hp=[(0,292,mkW 2 ns.length root),(2,165,nsW ns)]/\nw=3
theorem yGq{o:Oper}{fr:FrW}{hp:HpW}{nw:Nat}{R:Res}{post:W->HpW->Nat->Res->Option EvW->Prop}{x:Operand}{xs:Array Operand}{ats:Array TypeId}{f:FuncId}{us:List W}{root:Int}{ns:List Node}{P:List Node->Nat->Prop}(k:Nat)
  (ho:o.op= .call ⟨.value x,xs,ats⟩) (hx:evW cfg G fr x=some (.fn f [] [])) (he:cfg.ext f=none) (hxs:evLW cfg G fr xs.toList=some (.ptr 0 0::us)) (hpu:purL us=true) (hk:0<k) (hkn:k<nw)
  (h0:hget hp 0=some (292,mkW k ns.length root)) (h1:hget hp k=some (165,nsW ns)) (sp:qiq cfg G f 2 (.ptr 0 0::us) [(0,292,mkW 1 ns.length root),(1,165,nsW ns)] (Mk root P))
  (hpost:∀ns' m,P ns' m->post (.int .i64 ((m:Nat):Int)) ((0,292,mkW nw ns'.length root)::(nw,165,nsW ns')::delA [0,k] hp) (nw+1) R (some .dirty)):Step cfg G o fr hp nw R post:=by
 refine y3q (ext:=[0,k]) (ws:=.ptr 0 0::us) ho hx he hxs ?_ sp ?_ ?_ Xk (YUq h0 (by rw[zmq (jJq _)];exact h1) rfl (zfq (jJq _))) ?_ ?_
 ·show .ptr 0 0::(us++[])=W.ptr 0 0::qAq (numC [0,k] nw) us;rw[kBq hpu,List.append_nil]
 ·simp;omega
 ·intro b hb;simp only[List.mem_cons,List.not_mem_nil,or_false] at hb;omega
 ·have h:=zfq (m:=2) (w:=.tup us) hpu;have h:refL 2 us=true:=h;show(refB 2 (.ptr 0 0)&&refL 2 us)=true;rw[h];rfl
 ·rintro w hp1 nw1 ⟨ns',m,h,rfl,rfl,rfl⟩
  have e:renH (numC [0,k] nw) [(0,292,mkW 2 ns'.length root),(2,165,nsW ns')]=[(0,292,mkW nw ns'.length root),(nw,165,nsW ns')]:=by
   simp only[renH,zmq (jJq _)];rfl
  have h:=hpost ns' m h;rw[show([0,k]:List Nat).length=2 from rfl,e];exact h
theorem k9q{k0:Nat}{rs:List ResultVar}{x:Exit}{fr:FrW}{hp:HpW}{nw:Nat}{R:Res}{root:Int}{P:List Node->Nat->Prop}{ns:List Node}{m:Nat}(s k:Nat)(hx:x= .normal\/x= .ret)(hk:2<=k)(hkn:k<nw)(hf:getW fr s=some (.int .i64 ((m:Nat):Int)))
  (h0:hget hp (tau1 2 k 0)=some (292,renW (tau1 2 k) (mkW 2 ns.length root))) (h1:hget hp (tau1 2 k 2)=some (165,nsW ns)) (ho:outW cfg [(s,.int .i64 ((m:Nat):Int))] [(0,292,mkW 2 ns.length root),(2,165,nsW ns)] rs=some (.int .i64 ((m:Nat):Int))) (hP:P ns m):
  QFin cfg G 2 k0 rs (fun w hp nw R'=>R'=R/\Mk root P w hp nw) x fr hp nw R:=
 fin hx (y2q (b:=2) (k:=k) (fr2:=[(s,.int .i64 ((m:Nat):Int))]) (hp2:=[(0,292,mkW 2 ns.length root),(2,165,nsW ns)]) Xd hk hkn ⟨⟨hf,rfl⟩,trivial⟩ ⟨⟨by omega,h0,rfl⟩,⟨by omega,by rw[zmq (jJq _)];exact h1,zfq (jJq _)⟩,trivial⟩ Xk) ho ⟨rfl,ns,m,hP,rfl,rfl,rfl⟩
def NodeP(ns:List Node)(x:Node):List Node->Nat->Prop:=fun ns' m=>ns'=ns++[x]/\m=ns.length+1
theorem jeq(ns:List Node)(root:Int)(x:Node)(hl:ns.length<=1000000000):qiq cfg G 257 2 [.ptr 0 0,nW x] [(0,292,mkW 1 ns.length root),(1,165,nsW ns)] (Mk root (NodeP ns x)):=by
 have h:=node_s (G:=G) ns root x hl;intro R
 have e:(fun w hp nw R'=>R'=R/\(w= .int .i64 ((ns.length+1:Nat):Int)/\hp=[(0,292,mkW 2 (ns.length+1) root),(2,165,nsW (ns++[x]))]/\nw=3))=(fun (w:W) (hp:HpW) (nw:Nat) (R':Res)=>R'=R/\Mk root (NodeP ns x) w hp nw):=by
  funext w hp nw R'
  refine propext (and_congr_right fun _=>⟨fun ⟨h1,h2,h3⟩=>⟨_,_,⟨rfl,rfl⟩,h1,by rw[h2];simp,h3⟩,?_⟩);rintro⟨ns',m,⟨rfl,rfl⟩,h1,h2,h3⟩;exact⟨h1,by rw[h2];simp,h3⟩
 exact e▸h R
def Gr(ns:List Node)(f:Nat)(t:T):List Node->Nat->Prop:=fun ns' m=>(∃ms,ns'=ns++ms/\ms.length<=f)/\okN ns'/\Rep ns' m t
theorem okN_snoc{ns:List Node}{x:Node}(h:okN ns)(hx:oneB x ns.length):okN (ns++[x]):=fun i y hy=>by
 rcases Nat.lt_trichotomy i ns.length with h1|rfl|h1
 ·rw[List.getElem?_append_left h1] at hy;exact h i y hy
 ·rw[List.getElem?_append_right (Nat.le_refl _),Nat.sub_self] at hy;cases hy;exact hx
 ·rw[List.getElem?_append_right Xd,List.getElem?_eq_none Xu] at hy;cases hy
theorem at_snoc(ns:List Node)(x:Node):(ns++[x])[ns.length]? =some x:=by simp
theorem leaf_one{k:Dig}{v:List UInt8}(hv:MayP [(k,v)])(n:Nat):oneB ⟨true,k,v,0,0⟩ n:=by simp[oneB,hv]
theorem Kbq{ns:List Node}{k:Dig}{v:List UInt8}(hok:okN ns)(hv:MayP [(k,v)]){f:Nat}(hf:0<f):Gr ns f (.leaf k v) (ns++[⟨true,k,v,0,0⟩]) (ns.length+1):=
 ⟨⟨_,rfl,hf⟩,okN_snoc hok (leaf_one hv _),.leaf (at_snoc ns _)⟩
theorem jpq{ns ms:List Node}{l r f:Nat}{L R:T}(hms:ms.length<=f)(hok:okN (ns++ms))(hl:Rep (ns++ms) l L)(hr:Rep (ns++ms) r R)(h:0<l+r):Gr ns (f+1) (.fork L R) (ns++ms++[forkN l r]) ((ns++ms).length+1):=
 ⟨⟨ms++[forkN l r],by simp,by simp;omega⟩,okN_snoc hok (by have:=hl.le;have:=hr.le;simp only[oneB,forkN,Bool.false_eq_true,if_false];exact⟨by omega,by omega,trivial,trivial,by omega⟩),.fork (at_snoc _ _) hl.le hr.le (hl.app _) (hr.app _)⟩
theorem Z6q(ns:List Node){i:Nat}{x:Node}(h:ns[i]? =some x):∃w,yuq 50 (nsW ns) (0+i*36) 36 true=some w/\(w=nW x\/(ns.length=1/\w= .arr 36 36 [nW x])):=by
 by_cases e:ns.length=1
 ·obtain⟨y,rfl⟩:=List.length_eq_one_iff.1 e;cases i with
  |zero=>cases h;exact⟨_,rfl,.inr ⟨rfl,rfl⟩⟩
  |succ i=>simp at h
 ·have hi:=(List.getElem?_eq_some_iff.1 h).1;exact⟨_,get_in (off:=0) (zYq nW h) Xd Xd (by rw[show Nat.beq 36 (ns.length*36)=false from by rw[<-Bool.not_eq_true,Nat.beq_eq];omega];simp) rfl,.inl rfl⟩
abbrev Kzq(G:Nat->Option W)(root:Int)(k:Dig)(v:List UInt8)(ns:List Node)(n d:Nat)(P:List Node->Nat->Prop):Prop:=qiq cfg G 204 2 [.ptr 0 0,.int .i64 ((n:Nat):Int),.int .i64 ((d:Nat):Int),nW ⟨true,k,v,0,0⟩] [(0,292,mkW 1 ns.length root),(1,165,nsW ns)] (Mk root P)
theorem with_nil{root:Int}{k:Dig}{v:List UInt8}{ns:List Node}{d f:Nat}(hok:okN ns)(hv:MayP [(k,v)])(hf:0<f)(hl:ns.length<=1000000000):Kzq G root k v ns 0 d (Gr ns f (.leaf k v)):=by
 intro R;refine zVq (fn:=Tryz.f204) O O O (Ob rfl) (fun k0=>?_);refine zjq 13 O ?_;refine zyq rfl (fun h1=>?_) (fun h1=>?_)
 ·refine zeq 4 O ?_
  (refine zrq rfl (yGq 1 O O O O Xk Xd (by show 1<3;omega) O O (jeq ns root _ hl) ?_);rintro ns1 m ⟨rfl,rfl⟩)
  refine zaq 5 O ?_;exact k9q 8 3 (.inr rfl) Xd Ja O O O O (Kbq hok hv hf)
 ·exfalso;omega
theorem with_hit{root:Int}{k:Dig}{v v':List UInt8}{ns:List Node}{i d f:Nat}{l r:Int}(hx:ns[i]? =some ⟨true,k,v',l,r⟩)(hok:okN ns)(hv:MayP [(k,v)])(hf:0<f)(hl:ns.length<=1000000000):Kzq G root k v ns (i+1) d (Gr ns f (.leaf k v)):=by
 intro R;have hi:=(List.getElem?_eq_some_iff.1 hx).1;obtain⟨w,hw,rfl|⟨_,rfl⟩⟩:=Z6q ns hx
 ·refine zVq (fn:=Tryz.f204) O O O (Ob rfl) (fun k0=>?_);refine zjq 13 O ?_;refine zyq rfl (fun h1=>?_) (fun h1=>?_)
  ·exfalso;omega
  ·refine zeq 10 O ?_;refine zlq (i) O O Xi ⟨by omega,by omega⟩ ?_;refine zbq rfl (zLq (i:=i) O O O O O O O hi) (znq rfl (ypq O O O hw) ?_);refine zaq 8 O ?_;refine znq O O ?_;refine uLq (fun h2=>?_) (fun h2=>?_)
   ·refine zaq 5 O ?_;refine k6q rfl (q3q O O O O (qlq O O O O O O _ _ 250)) yPq ?_;refine zaq 3 O ?_;refine zyq rfl (fun h3=>?_) (fun h3=>?_)
    ·refine zeq 4 O ?_
     (refine zrq rfl (yGq 1 O O O O Xk Xd (by show 1<4;omega) O O (jeq ns root _ hl) ?_);rintro ns1 m ⟨rfl,rfl⟩)
     refine zaq 5 O ?_;exact k9q 8 4 (.inr rfl) Xd Yq O O O O (Kbq hok hv hf)
    ·exfalso;exact h3 rfl
   ·exfalso;exact h2 rfl
 ·refine zVq (fn:=Tryz.f204) O O O (Ob rfl) (fun k0=>?_);refine zjq 13 O ?_;refine zyq rfl (fun h1=>?_) (fun h1=>?_)
  ·exfalso;omega
  ·refine zeq 10 O ?_;refine zlq (i) O O Xi ⟨by omega,by omega⟩ ?_;refine zbq rfl (zLq (i:=i) O O O O O O O hi) (znq rfl (ypq O O O hw) ?_);refine zaq 8 O ?_;refine znq O O ?_;refine uLq (fun h2=>?_) (fun h2=>?_)
   ·refine zaq 5 O ?_;refine k6q rfl (q3q O O O O (qlq O O O O O O _ _ 250)) yPq ?_;refine zaq 3 O ?_;refine zyq rfl (fun h3=>?_) (fun h3=>?_)
    ·refine zeq 4 O ?_
     (refine zrq rfl (yGq 1 O O O O Xk Xd (by show 1<4;omega) O O (jeq ns root _ hl) ?_);rintro ns1 m ⟨rfl,rfl⟩)
     refine zaq 5 O ?_;exact k9q 8 4 (.inr rfl) Xd Yq O O O O (Kbq hok hv hf)
    ·exfalso;exact h3 rfl
   ·exfalso;exact h2 rfl
theorem with_leaf{root:Int}{k k':Dig}{v v':List UInt8}{ns:List Node}{i d f:Nat}{l r:Int}{t':T}(hx:ns[i]? =some ⟨true,k',v',l,r⟩)(hk:k'≠k)(hd:d<256)(hl:ns.length+f+1<=1000000000)(ht:t'.non=true)
  (sp:Kzq G root k v ns (if bitN k d=bitN k' d then i+1 else 0) (d+1) (Gr ns f t')):Kzq G root k v ns (i+1) d (Gr ns (f+1) (if bitN k d=0 then .fork t' (if bitN k d=bitN k' d then .nil else .leaf k' v') else .fork (if bitN k d=bitN k' d then .nil else .leaf k' v') t')):=by
 intro R;have hi:=(List.getElem?_eq_some_iff.1 hx).1;have b1:=jtq k d;have b2:=jtq k' d;have hc:bitN k d=0\/bitN k d=1:=by omega
 have hc':bitN k' d=0\/bitN k' d=1:=by omega
 obtain⟨w,hw,rfl|⟨_,rfl⟩⟩:=Z6q ns hx
 ·rcases hc' with hc'|hc'<;>rcases hc with hc|hc
  ·skip
   rw[if_pos (hc.trans hc'.symm)] at sp;refine zVq (fn:=Tryz.f204) O O O (Ob rfl) (fun k0=>?_);refine zjq 13 O ?_;refine zyq rfl (fun h1=>?_) (fun h1=>?_)
   ·exfalso;omega
   ·refine zeq 10 O ?_;refine zlq (i) O O Xi ⟨by omega,by omega⟩ ?_;refine zbq rfl (zLq (i:=i) O O O O O O O hi) (znq rfl (ypq O O O hw) ?_);refine zaq 8 O ?_;refine znq O O ?_;refine uLq (fun h2=>?_) (fun h2=>?_)
    ·refine zaq 5 O ?_;refine k6q rfl (q3q O O O O (qlq O O O O O O _ _ 250)) yPq ?_;refine zaq 3 O ?_;refine zyq rfl (fun h3=>?_) (fun h3=>?_)
     ·exfalso;exact hk h3
     ·refine zeq 19 O ?_
      (first|refine zkq O O O O O O (y0q k' d 0 hd hc') ?_|refine zkq O O O O O O (y0q k d 0 hd hc) ?_)
      refine zbq O O ?_;first|refine zbq rfl (zBq O O O O O O O Xl) ?_|refine zbq rfl (zLq O O O O O O O Xd) ?_|refine zbq rfl (zsq O O O O O O Xd) ?_|refine zbq O O ?_
      refine zaq 8 O ?_
      (first|refine zkq O O O O O O (y0q k' d 0 hd hc') ?_|refine zkq O O O O O O (y0q k d 0 hd hc) ?_)
      refine zaq 7 O ?_;first|refine zcq rfl (zBq O O O O O O O Xl) ?_|refine zcq rfl (zLq O O O O O O O Xd) ?_|refine zcq rfl (zsq O O O O O O Xd) ?_|refine zcq O O ?_
      refine zoq 2 O ?_;refine qNq (d+1) O O Xi ⟨by omega,by omega⟩ ?_;refine yOq O O ?_
      (refine yaq rfl (yGq 1 O O O O Xk Xd Yp O O sp ?_);rintro ns1 m ⟨⟨ms,rfl,hms⟩,hok1,hm⟩;refine⟨by first|rfl|kernel_rfl,?_⟩)
      refine zoq 7 O ?_;first|refine zbq rfl (zBq O O O O O O O Xl) ?_|refine zbq rfl (zLq O O O O O O O Xd) ?_|refine zbq rfl (zsq O O O O O O Xd) ?_|refine zbq O O ?_
      refine zaq 7 O ?_;refine zkq O O O O O O (jNq _ _) ?_
      (refine zrq rfl (yGq 5 O O O O Xk Xd Yd O O (jeq _ root _ Yg) ?_);rintro ns2 m2 ⟨rfl,rfl⟩)
      refine zaq 4 O ?_;have hm0:0<m:=by have:=hm.non;rw[ht] at this;simpa using this.symm
      exact k9q 8 6 (.inr rfl) Xd Yo O O O O Je
    ·exfalso;exact h2 rfl
  ·skip
   rw[if_neg Xd] at sp;refine zVq (fn:=Tryz.f204) O O O (Ob rfl) (fun k0=>?_);refine zjq 13 O ?_;refine zyq rfl (fun h1=>?_) (fun h1=>?_)
   ·exfalso;omega
   ·refine zeq 10 O ?_;refine zlq (i) O O Xi ⟨by omega,by omega⟩ ?_;refine zbq rfl (zLq (i:=i) O O O O O O O hi) (znq rfl (ypq O O O hw) ?_);refine zaq 8 O ?_;refine znq O O ?_;refine uLq (fun h2=>?_) (fun h2=>?_)
    ·refine zaq 5 O ?_;refine k6q rfl (q3q O O O O (qlq O O O O O O _ _ 250)) yPq ?_;refine zaq 3 O ?_;refine zyq rfl (fun h3=>?_) (fun h3=>?_)
     ·exfalso;exact hk h3
     ·refine zeq 19 O ?_
      (first|refine zkq O O O O O O (y0q k' d 0 hd hc') ?_|refine zkq O O O O O O (y0q k d 1 hd hc) ?_)
      refine zbq O O ?_;first|refine zbq rfl (zBq O O O O O O O Xl) ?_|refine zbq rfl (zLq O O O O O O O Xd) ?_|refine zbq rfl (zsq O O O O O O Xd) ?_|refine zbq O O ?_
      refine zaq 8 O ?_
      (first|refine zkq O O O O O O (y0q k' d 0 hd hc') ?_|refine zkq O O O O O O (y0q k d 1 hd hc) ?_)
      refine zaq 7 O ?_;first|refine zcq rfl (zBq O O O O O O O Xl) ?_|refine zcq rfl (zLq O O O O O O O Xd) ?_|refine zcq rfl (zsq O O O O O O Xd) ?_|refine zcq O O ?_
      refine zoq 2 O ?_;refine qNq (d+1) O O Xi ⟨by omega,by omega⟩ ?_;refine yOq O O ?_
      (refine yaq rfl (yGq 1 O O O O Xk Xd Yp O O sp ?_);rintro ns1 m ⟨⟨ms,rfl,hms⟩,hok1,hm⟩;refine⟨by first|rfl|kernel_rfl,?_⟩)
      refine zoq 7 O ?_;first|refine zbq rfl (zBq O O O O O O O Xl) ?_|refine zbq rfl (zLq O O O O O O O Xd) ?_|refine zbq rfl (zsq O O O O O O Xd) ?_|refine zbq O O ?_
      refine zaq 7 O ?_;refine zkq O O O O O O (jNq _ _) ?_
      (refine zrq rfl (yGq 5 O O O O Xk Xd Yd O O (jeq _ root _ Yg) ?_);rintro ns2 m2 ⟨rfl,rfl⟩)
      refine zaq 4 O ?_;have hm0:0<m:=by have:=hm.non;rw[ht] at this;simpa using this.symm
      exact k9q 8 6 (.inr rfl) Xd Yo O O O O Jh
    ·exfalso;exact h2 rfl
  ·skip
   rw[if_neg Xd] at sp;refine zVq (fn:=Tryz.f204) O O O (Ob rfl) (fun k0=>?_);refine zjq 13 O ?_;refine zyq rfl (fun h1=>?_) (fun h1=>?_)
   ·exfalso;omega
   ·refine zeq 10 O ?_;refine zlq (i) O O Xi ⟨by omega,by omega⟩ ?_;refine zbq rfl (zLq (i:=i) O O O O O O O hi) (znq rfl (ypq O O O hw) ?_);refine zaq 8 O ?_;refine znq O O ?_;refine uLq (fun h2=>?_) (fun h2=>?_)
    ·refine zaq 5 O ?_;refine k6q rfl (q3q O O O O (qlq O O O O O O _ _ 250)) yPq ?_;refine zaq 3 O ?_;refine zyq rfl (fun h3=>?_) (fun h3=>?_)
     ·exfalso;exact hk h3
     ·refine zeq 19 O ?_
      (first|refine zkq O O O O O O (y0q k' d 1 hd hc') ?_|refine zkq O O O O O O (y0q k d 0 hd hc) ?_)
      refine zbq O O ?_;first|refine zbq rfl (zBq O O O O O O O Xl) ?_|refine zbq rfl (zLq O O O O O O O Xd) ?_|refine zbq rfl (zsq O O O O O O Xd) ?_|refine zbq O O ?_
      refine zaq 8 O ?_
      (first|refine zkq O O O O O O (y0q k' d 1 hd hc') ?_|refine zkq O O O O O O (y0q k d 0 hd hc) ?_)
      refine zaq 7 O ?_;first|refine zcq rfl (zBq O O O O O O O Xl) ?_|refine zcq rfl (zLq O O O O O O O Xd) ?_|refine zcq rfl (zsq O O O O O O Xd) ?_|refine zcq O O ?_
      refine zoq 2 O ?_;refine qNq (d+1) O O Xi ⟨by omega,by omega⟩ ?_;refine yOq O O ?_
      (refine yaq rfl (yGq 1 O O O O Xk Xd Yp O O sp ?_);rintro ns1 m ⟨⟨ms,rfl,hms⟩,hok1,hm⟩;refine⟨by first|rfl|kernel_rfl,?_⟩)
      refine zoq 7 O ?_;first|refine zbq rfl (zBq O O O O O O O Xl) ?_|refine zbq rfl (zLq O O O O O O O Xd) ?_|refine zbq rfl (zsq O O O O O O Xd) ?_|refine zbq O O ?_
      refine zaq 7 O ?_;refine zkq O O O O O O (jNq _ _) ?_
      (refine zrq rfl (yGq 5 O O O O Xk Xd Yd O O (jeq _ root _ Yg) ?_);rintro ns2 m2 ⟨rfl,rfl⟩)
      refine zaq 4 O ?_;have hm0:0<m:=by have:=hm.non;rw[ht] at this;simpa using this.symm
      exact k9q 8 6 (.inr rfl) Xd Yo O O O O Jg
    ·exfalso;exact h2 rfl
  ·skip
   rw[if_pos (hc.trans hc'.symm)] at sp;refine zVq (fn:=Tryz.f204) O O O (Ob rfl) (fun k0=>?_);refine zjq 13 O ?_;refine zyq rfl (fun h1=>?_) (fun h1=>?_)
   ·exfalso;omega
   ·refine zeq 10 O ?_;refine zlq (i) O O Xi ⟨by omega,by omega⟩ ?_;refine zbq rfl (zLq (i:=i) O O O O O O O hi) (znq rfl (ypq O O O hw) ?_);refine zaq 8 O ?_;refine znq O O ?_;refine uLq (fun h2=>?_) (fun h2=>?_)
    ·refine zaq 5 O ?_;refine k6q rfl (q3q O O O O (qlq O O O O O O _ _ 250)) yPq ?_;refine zaq 3 O ?_;refine zyq rfl (fun h3=>?_) (fun h3=>?_)
     ·exfalso;exact hk h3
     ·refine zeq 19 O ?_
      (first|refine zkq O O O O O O (y0q k' d 1 hd hc') ?_|refine zkq O O O O O O (y0q k d 1 hd hc) ?_)
      refine zbq O O ?_;first|refine zbq rfl (zBq O O O O O O O Xl) ?_|refine zbq rfl (zLq O O O O O O O Xd) ?_|refine zbq rfl (zsq O O O O O O Xd) ?_|refine zbq O O ?_
      refine zaq 8 O ?_
      (first|refine zkq O O O O O O (y0q k' d 1 hd hc') ?_|refine zkq O O O O O O (y0q k d 1 hd hc) ?_)
      refine zaq 7 O ?_;first|refine zcq rfl (zBq O O O O O O O Xl) ?_|refine zcq rfl (zLq O O O O O O O Xd) ?_|refine zcq rfl (zsq O O O O O O Xd) ?_|refine zcq O O ?_
      refine zoq 2 O ?_;refine qNq (d+1) O O Xi ⟨by omega,by omega⟩ ?_;refine yOq O O ?_
      (refine yaq rfl (yGq 1 O O O O Xk Xd Yp O O sp ?_);rintro ns1 m ⟨⟨ms,rfl,hms⟩,hok1,hm⟩;refine⟨by first|rfl|kernel_rfl,?_⟩)
      refine zoq 7 O ?_;first|refine zbq rfl (zBq O O O O O O O Xl) ?_|refine zbq rfl (zLq O O O O O O O Xd) ?_|refine zbq rfl (zsq O O O O O O Xd) ?_|refine zbq O O ?_
      refine zaq 7 O ?_;refine zkq O O O O O O (jNq _ _) ?_
      (refine zrq rfl (yGq 5 O O O O Xk Xd Yd O O (jeq _ root _ Yg) ?_);rintro ns2 m2 ⟨rfl,rfl⟩)
      refine zaq 4 O ?_;have hm0:0<m:=by have:=hm.non;rw[ht] at this;simpa using this.symm
      exact k9q 8 6 (.inr rfl) Xd Yo O O O O Jf
    ·exfalso;exact h2 rfl
 ·rcases hc' with hc'|hc'<;>rcases hc with hc|hc
  ·skip
   rw[if_pos (hc.trans hc'.symm)] at sp;refine zVq (fn:=Tryz.f204) O O O (Ob rfl) (fun k0=>?_);refine zjq 13 O ?_;refine zyq rfl (fun h1=>?_) (fun h1=>?_)
   ·exfalso;omega
   ·refine zeq 10 O ?_;refine zlq (i) O O Xi ⟨by omega,by omega⟩ ?_;refine zbq rfl (zLq (i:=i) O O O O O O O hi) (znq rfl (ypq O O O hw) ?_);refine zaq 8 O ?_;refine znq O O ?_;refine uLq (fun h2=>?_) (fun h2=>?_)
    ·refine zaq 5 O ?_;refine k6q rfl (q3q O O O O (qlq O O O O O O _ _ 250)) yPq ?_;refine zaq 3 O ?_;refine zyq rfl (fun h3=>?_) (fun h3=>?_)
     ·exfalso;exact hk h3
     ·refine zeq 19 O ?_
      (first|refine zkq O O O O O O (y0q k' d 0 hd hc') ?_|refine zkq O O O O O O (y0q k d 0 hd hc) ?_)
      refine zbq O O ?_;first|refine zbq rfl (zBq O O O O O O O Xl) ?_|refine zbq rfl (zLq O O O O O O O Xd) ?_|refine zbq rfl (zsq O O O O O O Xd) ?_|refine zbq O O ?_
      refine zaq 8 O ?_
      (first|refine zkq O O O O O O (y0q k' d 0 hd hc') ?_|refine zkq O O O O O O (y0q k d 0 hd hc) ?_)
      refine zaq 7 O ?_;first|refine zcq rfl (zBq O O O O O O O Xl) ?_|refine zcq rfl (zLq O O O O O O O Xd) ?_|refine zcq rfl (zsq O O O O O O Xd) ?_|refine zcq O O ?_
      refine zoq 2 O ?_;refine qNq (d+1) O O Xi ⟨by omega,by omega⟩ ?_;refine yOq O O ?_
      (refine yaq rfl (yGq 1 O O O O Xk Xd Yp O O sp ?_);rintro ns1 m ⟨⟨ms,rfl,hms⟩,hok1,hm⟩;refine⟨by first|rfl|kernel_rfl,?_⟩)
      refine zoq 7 O ?_;first|refine zbq rfl (zBq O O O O O O O Xl) ?_|refine zbq rfl (zLq O O O O O O O Xd) ?_|refine zbq rfl (zsq O O O O O O Xd) ?_|refine zbq O O ?_
      refine zaq 7 O ?_;refine zkq O O O O O O (jNq _ _) ?_
      (refine zrq rfl (yGq 5 O O O O Xk Xd Yd O O (jeq _ root _ Yg) ?_);rintro ns2 m2 ⟨rfl,rfl⟩)
      refine zaq 4 O ?_;have hm0:0<m:=by have:=hm.non;rw[ht] at this;simpa using this.symm
      exact k9q 8 6 (.inr rfl) Xd Yo O O O O Je
    ·exfalso;exact h2 rfl
  ·skip
   rw[if_neg Xd] at sp;refine zVq (fn:=Tryz.f204) O O O (Ob rfl) (fun k0=>?_);refine zjq 13 O ?_;refine zyq rfl (fun h1=>?_) (fun h1=>?_)
   ·exfalso;omega
   ·refine zeq 10 O ?_;refine zlq (i) O O Xi ⟨by omega,by omega⟩ ?_;refine zbq rfl (zLq (i:=i) O O O O O O O hi) (znq rfl (ypq O O O hw) ?_);refine zaq 8 O ?_;refine znq O O ?_;refine uLq (fun h2=>?_) (fun h2=>?_)
    ·refine zaq 5 O ?_;refine k6q rfl (q3q O O O O (qlq O O O O O O _ _ 250)) yPq ?_;refine zaq 3 O ?_;refine zyq rfl (fun h3=>?_) (fun h3=>?_)
     ·exfalso;exact hk h3
     ·refine zeq 19 O ?_
      (first|refine zkq O O O O O O (y0q k' d 0 hd hc') ?_|refine zkq O O O O O O (y0q k d 1 hd hc) ?_)
      refine zbq O O ?_;first|refine zbq rfl (zBq O O O O O O O Xl) ?_|refine zbq rfl (zLq O O O O O O O Xd) ?_|refine zbq rfl (zsq O O O O O O Xd) ?_|refine zbq O O ?_
      refine zaq 8 O ?_
      (first|refine zkq O O O O O O (y0q k' d 0 hd hc') ?_|refine zkq O O O O O O (y0q k d 1 hd hc) ?_)
      refine zaq 7 O ?_;first|refine zcq rfl (zBq O O O O O O O Xl) ?_|refine zcq rfl (zLq O O O O O O O Xd) ?_|refine zcq rfl (zsq O O O O O O Xd) ?_|refine zcq O O ?_
      refine zoq 2 O ?_;refine qNq (d+1) O O Xi ⟨by omega,by omega⟩ ?_;refine yOq O O ?_
      (refine yaq rfl (yGq 1 O O O O Xk Xd Yp O O sp ?_);rintro ns1 m ⟨⟨ms,rfl,hms⟩,hok1,hm⟩;refine⟨by first|rfl|kernel_rfl,?_⟩)
      refine zoq 7 O ?_;first|refine zbq rfl (zBq O O O O O O O Xl) ?_|refine zbq rfl (zLq O O O O O O O Xd) ?_|refine zbq rfl (zsq O O O O O O Xd) ?_|refine zbq O O ?_
      refine zaq 7 O ?_;refine zkq O O O O O O (jNq _ _) ?_
      (refine zrq rfl (yGq 5 O O O O Xk Xd Yd O O (jeq _ root _ Yg) ?_);rintro ns2 m2 ⟨rfl,rfl⟩)
      refine zaq 4 O ?_;have hm0:0<m:=by have:=hm.non;rw[ht] at this;simpa using this.symm
      exact k9q 8 6 (.inr rfl) Xd Yo O O O O Jh
    ·exfalso;exact h2 rfl
  ·skip
   rw[if_neg Xd] at sp;refine zVq (fn:=Tryz.f204) O O O (Ob rfl) (fun k0=>?_);refine zjq 13 O ?_;refine zyq rfl (fun h1=>?_) (fun h1=>?_)
   ·exfalso;omega
   ·refine zeq 10 O ?_;refine zlq (i) O O Xi ⟨by omega,by omega⟩ ?_;refine zbq rfl (zLq (i:=i) O O O O O O O hi) (znq rfl (ypq O O O hw) ?_);refine zaq 8 O ?_;refine znq O O ?_;refine uLq (fun h2=>?_) (fun h2=>?_)
    ·refine zaq 5 O ?_;refine k6q rfl (q3q O O O O (qlq O O O O O O _ _ 250)) yPq ?_;refine zaq 3 O ?_;refine zyq rfl (fun h3=>?_) (fun h3=>?_)
     ·exfalso;exact hk h3
     ·refine zeq 19 O ?_
      (first|refine zkq O O O O O O (y0q k' d 1 hd hc') ?_|refine zkq O O O O O O (y0q k d 0 hd hc) ?_)
      refine zbq O O ?_;first|refine zbq rfl (zBq O O O O O O O Xl) ?_|refine zbq rfl (zLq O O O O O O O Xd) ?_|refine zbq rfl (zsq O O O O O O Xd) ?_|refine zbq O O ?_
      refine zaq 8 O ?_
      (first|refine zkq O O O O O O (y0q k' d 1 hd hc') ?_|refine zkq O O O O O O (y0q k d 0 hd hc) ?_)
      refine zaq 7 O ?_;first|refine zcq rfl (zBq O O O O O O O Xl) ?_|refine zcq rfl (zLq O O O O O O O Xd) ?_|refine zcq rfl (zsq O O O O O O Xd) ?_|refine zcq O O ?_
      refine zoq 2 O ?_;refine qNq (d+1) O O Xi ⟨by omega,by omega⟩ ?_;refine yOq O O ?_
      (refine yaq rfl (yGq 1 O O O O Xk Xd Yp O O sp ?_);rintro ns1 m ⟨⟨ms,rfl,hms⟩,hok1,hm⟩;refine⟨by first|rfl|kernel_rfl,?_⟩)
      refine zoq 7 O ?_;first|refine zbq rfl (zBq O O O O O O O Xl) ?_|refine zbq rfl (zLq O O O O O O O Xd) ?_|refine zbq rfl (zsq O O O O O O Xd) ?_|refine zbq O O ?_
      refine zaq 7 O ?_;refine zkq O O O O O O (jNq _ _) ?_
      (refine zrq rfl (yGq 5 O O O O Xk Xd Yd O O (jeq _ root _ Yg) ?_);rintro ns2 m2 ⟨rfl,rfl⟩)
      refine zaq 4 O ?_;have hm0:0<m:=by have:=hm.non;rw[ht] at this;simpa using this.symm
      exact k9q 8 6 (.inr rfl) Xd Yo O O O O Jg
    ·exfalso;exact h2 rfl
  ·skip
   rw[if_pos (hc.trans hc'.symm)] at sp;refine zVq (fn:=Tryz.f204) O O O (Ob rfl) (fun k0=>?_);refine zjq 13 O ?_;refine zyq rfl (fun h1=>?_) (fun h1=>?_)
   ·exfalso;omega
   ·refine zeq 10 O ?_;refine zlq (i) O O Xi ⟨by omega,by omega⟩ ?_;refine zbq rfl (zLq (i:=i) O O O O O O O hi) (znq rfl (ypq O O O hw) ?_);refine zaq 8 O ?_;refine znq O O ?_;refine uLq (fun h2=>?_) (fun h2=>?_)
    ·refine zaq 5 O ?_;refine k6q rfl (q3q O O O O (qlq O O O O O O _ _ 250)) yPq ?_;refine zaq 3 O ?_;refine zyq rfl (fun h3=>?_) (fun h3=>?_)
     ·exfalso;exact hk h3
     ·refine zeq 19 O ?_
      (first|refine zkq O O O O O O (y0q k' d 1 hd hc') ?_|refine zkq O O O O O O (y0q k d 1 hd hc) ?_)
      refine zbq O O ?_;first|refine zbq rfl (zBq O O O O O O O Xl) ?_|refine zbq rfl (zLq O O O O O O O Xd) ?_|refine zbq rfl (zsq O O O O O O Xd) ?_|refine zbq O O ?_
      refine zaq 8 O ?_
      (first|refine zkq O O O O O O (y0q k' d 1 hd hc') ?_|refine zkq O O O O O O (y0q k d 1 hd hc) ?_)
      refine zaq 7 O ?_;first|refine zcq rfl (zBq O O O O O O O Xl) ?_|refine zcq rfl (zLq O O O O O O O Xd) ?_|refine zcq rfl (zsq O O O O O O Xd) ?_|refine zcq O O ?_
      refine zoq 2 O ?_;refine qNq (d+1) O O Xi ⟨by omega,by omega⟩ ?_;refine yOq O O ?_
      (refine yaq rfl (yGq 1 O O O O Xk Xd Yp O O sp ?_);rintro ns1 m ⟨⟨ms,rfl,hms⟩,hok1,hm⟩;refine⟨by first|rfl|kernel_rfl,?_⟩)
      refine zoq 7 O ?_;first|refine zbq rfl (zBq O O O O O O O Xl) ?_|refine zbq rfl (zLq O O O O O O O Xd) ?_|refine zbq rfl (zsq O O O O O O Xd) ?_|refine zbq O O ?_
      refine zaq 7 O ?_;refine zkq O O O O O O (jNq _ _) ?_
      (refine zrq rfl (yGq 5 O O O O Xk Xd Yd O O (jeq _ root _ Yg) ?_);rintro ns2 m2 ⟨rfl,rfl⟩)
      refine zaq 4 O ?_;have hm0:0<m:=by have:=hm.non;rw[ht] at this;simpa using this.symm
      exact k9q 8 6 (.inr rfl) Xd Yo O O O O Jf
    ·exfalso;exact h2 rfl
theorem fork_one{ns:List Node}{i l r:Nat}{k':Dig}{v':List UInt8}(hx:ns[i]? =some ⟨false,k',v',l,r⟩)(hok:okN ns):k'=qHq/\v'=[]/\l<=i/\r<=i/\0<l+r:=by
 have h:=hok i _ hx;simp only[oneB,Bool.false_eq_true,if_false] at h;obtain⟨⟨_,a2⟩,⟨_,b2⟩,h1,h2,h3⟩:=h;exact⟨h1,h2,by omega,by omega,by omega⟩
theorem fork_all{ns:List Node}{i l r:Nat}{k':Dig}{v':List UInt8}(hx:ns[i]? =some ⟨false,k',v',l,r⟩)(hok:okN ns):yuq 50 (nsW ns) (0+i*36) 36 true=some (nW ⟨false,k',v',l,r⟩):=by
 obtain⟨w,hw,rfl|⟨h1,rfl⟩⟩:=Z6q ns hx
 ·exact hw
 ·obtain⟨_,_,h2,h3,h4⟩:=fork_one hx hok;have hi:=(List.getElem?_eq_some_iff.1 hx).1;omega
theorem with_fork{root:Int}{k k':Dig}{v v':List UInt8}{ns:List Node}{i d f l r:Nat}{L R t':T}(hx:ns[i]? =some ⟨false,k',v',l,r⟩)(hok:okN ns)(hL:Rep ns l L)(hR:Rep ns r R)(hd:d<256)(hl:ns.length+f+1<=1000000000)(ht:t'.non=true)
  (sp:Kzq G root k v ns (if bitN k d=0 then l else r) (d+1) (Gr ns f t')):Kzq G root k v ns (i+1) d (Gr ns (f+1) (if bitN k d=0 then .fork t' R else .fork L t')):=by
 intro R';have hi:=(List.getElem?_eq_some_iff.1 hx).1;have b1:=jtq k d;have hc:bitN k d=0\/bitN k d=1:=by omega
 have hw:=fork_all hx hok;rcases hc with hc|hc
 ·skip
  rw[if_pos hc] at sp;refine zVq (fn:=Tryz.f204) O O O (Ob rfl) (fun k0=>?_);refine zjq 13 O ?_;refine zyq rfl (fun h1=>?_) (fun h1=>?_)
  ·exfalso;omega
  ·refine zeq 10 O ?_;refine zlq (i) O O Xi ⟨by omega,by omega⟩ ?_;refine zbq rfl (zLq (i:=i) O O O O O O O hi) (znq rfl (ypq O O O hw) ?_);refine zaq 8 O ?_;refine znq O O ?_;refine uLq (fun h2=>?_) (fun h2=>?_)
   ·exfalso;cases h2
   ·refine zaq 27 O ?_;refine zkq O O O O O O (kAq _) ?_;refine zaq 8 O ?_;refine zkq O O O O O O (y0q k d 0 hd hc) ?_;refine zaq 7 O ?_;first|refine zcq rfl (zBq O O O O O O O Xl) ?_|refine zcq rfl (zLq O O O O O O O Xd) ?_|refine zcq rfl (zsq O O O O O O Xd) ?_|refine zcq O O ?_
    refine zoq 2 O ?_;refine qNq (d+1) O O Xi ⟨by omega,by omega⟩ ?_;refine yOq O O ?_
    (refine yaq rfl (yGq 1 O O O O Xk Xd Yp O O sp ?_);rintro ns1 m ⟨⟨ms,rfl,hms⟩,hok1,hm⟩;refine⟨by first|rfl|kernel_rfl,?_⟩)
    refine zoq 7 O ?_;first|refine zbq rfl (zBq O O O O O O O Xl) ?_|refine zbq rfl (zLq O O O O O O O Xd) ?_|refine zbq rfl (zsq O O O O O O Xd) ?_|refine zbq O O ?_
    refine zaq 7 O ?_;refine zkq O O O O O O (jNq _ _) ?_
    (refine zrq rfl (yGq 5 O O O O Xk Xd Yd O O (jeq _ root _ Yg) ?_);rintro ns2 m2 ⟨rfl,rfl⟩)
    refine zaq 4 O ?_;have hm0:0<m:=by have:=hm.non;rw[ht] at this;simpa using this.symm
    exact k9q 8 6 (.inr rfl) Xd Yo O O O O (by rw[if_pos hc];exact jpq hms hok1 hm (hR.app _) Xd)
 ·skip
  rw[if_neg Xd] at sp;refine zVq (fn:=Tryz.f204) O O O (Ob rfl) (fun k0=>?_);refine zjq 13 O ?_;refine zyq rfl (fun h1=>?_) (fun h1=>?_)
  ·exfalso;omega
  ·refine zeq 10 O ?_;refine zlq (i) O O Xi ⟨by omega,by omega⟩ ?_;refine zbq rfl (zLq (i:=i) O O O O O O O hi) (znq rfl (ypq O O O hw) ?_);refine zaq 8 O ?_;refine znq O O ?_;refine uLq (fun h2=>?_) (fun h2=>?_)
   ·exfalso;cases h2
   ·refine zaq 27 O ?_;refine zkq O O O O O O (kAq _) ?_;refine zaq 8 O ?_;refine zkq O O O O O O (y0q k d 1 hd hc) ?_;refine zaq 7 O ?_;first|refine zcq rfl (zBq O O O O O O O Xl) ?_|refine zcq rfl (zLq O O O O O O O Xd) ?_|refine zcq rfl (zsq O O O O O O Xd) ?_|refine zcq O O ?_
    refine zoq 2 O ?_;refine qNq (d+1) O O Xi ⟨by omega,by omega⟩ ?_;refine yOq O O ?_
    (refine yaq rfl (yGq 1 O O O O Xk Xd Yp O O sp ?_);rintro ns1 m ⟨⟨ms,rfl,hms⟩,hok1,hm⟩;refine⟨by first|rfl|kernel_rfl,?_⟩)
    refine zoq 7 O ?_;first|refine zbq rfl (zBq O O O O O O O Xl) ?_|refine zbq rfl (zLq O O O O O O O Xd) ?_|refine zbq rfl (zsq O O O O O O Xd) ?_|refine zbq O O ?_
    refine zaq 7 O ?_;refine zkq O O O O O O (jNq _ _) ?_
    (refine zrq rfl (yGq 5 O O O O Xk Xd Yd O O (jeq _ root _ Yg) ?_);rintro ns2 m2 ⟨rfl,rfl⟩)
    refine zaq 4 O ?_;have hm0:0<m:=by have:=hm.non;rw[ht] at this;simpa using this.symm
    exact k9q 8 6 (.inr rfl) Xd Yo O O O O (by rw[if_neg Xd];exact jpq hms hok1 (hL.app _) hm Xd)
theorem with_s(root:Int)(k:Dig)(v:List UInt8)(hv:MayP [(k,v)]):∀(f:Nat) (t:T) (ns:List Node) (n d:Nat) (b:Dig),Rep ns n t->okN ns->t.ok d b=true->d+f=256->Zr d b->d<=yiq k b->ns.length+f+1<=1000000000->Kzq G root k v ns n d (Gr ns (f+1) (T.put k v f t)):=by
 intro f;induction f with
 |zero=>
  intro t ns n d b hr hok ht hf hz hk hl;cases hr with
  |nil=>exact with_nil hok hv Xd Xd
  |leaf hx=>
   rename_i n k' v' l r;have h:=of_decide_eq_true ht;have:k'=k:=Yeq fun j hj=>by rw[(yKq Xd).1 h j Xd,(yKq Xd).1 hk j Xd]
   subst this;exact with_hit hx hok hv Xd Xd
  |fork hx _ _ hL hR=>
   obtain⟨hd,_⟩:=ok_fork.1 ht;omega
 |succ f ih=>
  intro t ns n d b hr hok ht hf hz hk hl;have hd:d<256:=by omega
  have ed:255-f=d:=by omega
  cases hr with
  |nil=>exact with_nil hok hv Xd Xd
  |leaf hx=>
   rename_i n k' v' l r;have h:=of_decide_eq_true ht;by_cases e:k'=k
   ·subst e;simp only[T.put,if_true];exact with_hit hx hok hv Xd Xd
   ·have b1:=jtq k' d;have b2:=jtq k d;have b3:=jtq b d
    have key:Kzq G root k v ns (n+1) d (Gr ns (f+1+1) (if bitN k d=0 then .fork (T.put k v f (if bitN k d=bitN k' d then .leaf k' v' else .nil)) (if bitN k d=bitN k' d then .nil else .leaf k' v') else .fork (if bitN k d=bitN k' d then .nil else .leaf k' v') (T.put k v f (if bitN k d=bitN k' d then .leaf k' v' else .nil)))):=by
     refine with_leaf hx e hd Xd (JVq k v f _) ?_;by_cases hb:bitN k d=0
     ·by_cases he:bitN k d=bitN k' d
      ·rw[if_pos he,if_pos he];exact ih _ ns _ (d+1) b (.leaf hx) hok (decide_eq_true (xsq hz hd h Xd)) Xd (jnq hz) (xsq hz hd hk hb) Xd
      ·rw[if_neg he,if_neg he];exact ih _ ns _ (d+1) b .nil hok rfl Xd (jnq hz) (xsq hz hd hk hb) Xd
     ·by_cases he:bitN k d=bitN k' d
      ·rw[if_pos he,if_pos he];exact ih _ ns _ (d+1) (qMq b d) (.leaf hx) hok (decide_eq_true (xrq hz hd h Xd)) Xd (jmq hz hd) (xrq hz hd hk hb) Xd
      ·rw[if_neg he,if_neg he];exact ih _ ns _ (d+1) (qMq b d) .nil hok rfl Xd (jmq hz hd) (xrq hz hd hk hb) Xd
    have ep:T.put k v (f+1) (.leaf k' v')=(if bitN k d=0 then .fork (T.put k v f (if bitN k d=bitN k' d then .leaf k' v' else .nil)) (if bitN k d=bitN k' d then .nil else .leaf k' v') else .fork (if bitN k d=bitN k' d then .nil else .leaf k' v') (T.put k v f (if bitN k d=bitN k' d then .leaf k' v' else .nil))):=by
     simp only[T.put,ed,if_neg e,T.roads];have c1:bitN k d=0\/bitN k d=1:=by omega
     have c2:bitN k' d=0\/bitN k' d=1:=by omega
     rcases c1 with c1|c1<;>rcases c2 with c2|c2<;>simp[c1,c2]
    rw[ep];exact key
  |fork hx h1 h2 hL hR=>
   rename_i n l r k' v' tl tr;obtain⟨_,k1,k2,_⟩:=ok_fork.1 ht
   have key:Kzq G root k v ns (n+1) d (Gr ns (f+1+1) (if bitN k d=0 then .fork (T.put k v f (if bitN k d=0 then tl else tr)) tr else .fork tl (T.put k v f (if bitN k d=0 then tl else tr)))):=by
    refine with_fork hx hok hL hR hd Xd (JVq k v f _) ?_;by_cases hb:bitN k d=0
    ·rw[if_pos hb,if_pos hb];exact ih _ ns _ (d+1) b hL hok k1 Xd (jnq hz) (xsq hz hd hk hb) Xd
    ·rw[if_neg hb,if_neg hb];exact ih _ ns _ (d+1) (qMq b d) hR hok k2 Xd (jmq hz hd) (xrq hz hd hk hb) Xd
   have ep:T.put k v (f+1) (.fork tl tr)=(if bitN k d=0 then .fork (T.put k v f (if bitN k d=0 then tl else tr)) tr else .fork tl (T.put k v f (if bitN k d=0 then tl else tr))):=by
    simp only[T.put,ed];by_cases hb:bitN k d=0
    ·simp only[if_pos hb]
    ·simp only[if_neg hb]
   rw[ep];exact key
end
section
attribute [local irreducible] CoW OpW FlW Step Spec
variable {G:Nat->Option W}
noncomputable def MkO(root:Int)(ns:List Node)(S:Nat->Prop)(P:List Node->Nat->Prop):W->HpW->Nat->Prop:=fun w hp nw=>
 (∃m,S m/\w= .int .i64 ((m:Nat):Int)/\hp=[(0,292,mkW 1 ns.length root),(1,165,nsW ns)]/\nw=2)\/Mk root P w hp nw
theorem step_mkO{o:Oper}{fr:FrW}{hp:HpW}{nw:Nat}{R:Res}{post:W->HpW->Nat->Res->Option EvW->Prop}{x:Operand}{xs:Array Operand}{ats:Array TypeId}{f:FuncId}{us:List W}{root:Int}{ns:List Node}{S:Nat->Prop}{P:List Node->Nat->Prop}(k:Nat)
  (ho:o.op= .call ⟨.value x,xs,ats⟩) (hx:evW cfg G fr x=some (.fn f [] [])) (he:cfg.ext f=none) (hxs:evLW cfg G fr xs.toList=some (.ptr 0 0::us)) (hpu:purL us=true) (hk:0<k) (hkn:k<nw)
  (h0:hget hp 0=some (292,mkW k ns.length root)) (h1:hget hp k=some (165,nsW ns)) (sp:qiq cfg G f 2 (.ptr 0 0::us) [(0,292,mkW 1 ns.length root),(1,165,nsW ns)] (MkO root ns S P))
  (hsame:∀m,S m->post (.int .i64 ((m:Nat):Int)) ((0,292,mkW k ns.length root)::(k,165,nsW ns)::delA [0,k] hp) nw R (some .dirty))
  (hpost:∀ns' m,P ns' m->post (.int .i64 ((m:Nat):Int)) ((0,292,mkW nw ns'.length root)::(nw,165,nsW ns')::delA [0,k] hp) (nw+1) R (some .dirty)):Step cfg G o fr hp nw R post:=by
 refine y3q (ext:=[0,k]) (ws:=.ptr 0 0::us) ho hx he hxs ?_ sp ?_ ?_ Xk (YUq h0 (by rw[zmq (jJq _)];exact h1) rfl (zfq (jJq _))) ?_ ?_
 ·show .ptr 0 0::(us++[])=W.ptr 0 0::qAq (numC [0,k] nw) us;rw[kBq hpu,List.append_nil]
 ·simp;omega
 ·intro b hb;simp only[List.mem_cons,List.not_mem_nil,or_false] at hb;omega
 ·have h:=zfq (m:=2) (w:=.tup us) hpu;have h:refL 2 us=true:=h;show(refB 2 (.ptr 0 0)&&refL 2 us)=true;rw[h];rfl
 ·rintro w hp1 nw1 (⟨m,h,rfl,rfl,rfl⟩|⟨ns',m,h,rfl,rfl,rfl⟩)
  ·have e:renH (numC [0,k] nw) [(0,292,mkW 1 ns.length root),(1,165,nsW ns)]=[(0,292,mkW k ns.length root),(k,165,nsW ns)]:=by
    simp only[renH,zmq (jJq _)];rfl
   have h:=hsame m h;rw[show([0,k]:List Nat).length=2 from rfl,e];exact h
  ·have e:renH (numC [0,k] nw) [(0,292,mkW 2 ns'.length root),(2,165,nsW ns')]=[(0,292,mkW nw ns'.length root),(nw,165,nsW ns')]:=by
    simp only[renH,zmq (jJq _)];rfl
   have h:=hpost ns' m h;rw[show([0,k]:List Nat).length=2 from rfl,e];exact h
theorem keq{k0:Nat}{rs:List ResultVar}{x:Exit}{fr:FrW}{hp:HpW}{nw:Nat}{R:Res}{root:Int}{P:List Node->Nat->Prop}{ns0:List Node}{S:Nat->Prop}{ns:List Node}{m:Nat}(s k:Nat)(hx:x= .normal\/x= .ret)(hk:2<=k)(hkn:k<nw)(hf:getW fr s=some (.int .i64 ((m:Nat):Int)))
  (h0:hget hp (tau1 2 k 0)=some (292,renW (tau1 2 k) (mkW 2 ns.length root))) (h1:hget hp (tau1 2 k 2)=some (165,nsW ns)) (ho:outW cfg [(s,.int .i64 ((m:Nat):Int))] [(0,292,mkW 2 ns.length root),(2,165,nsW ns)] rs=some (.int .i64 ((m:Nat):Int))) (hP:P ns m):
  QFin cfg G 2 k0 rs (fun w hp nw R'=>R'=R/\MkO root ns0 S P w hp nw) x fr hp nw R:=
 fin hx (y2q (b:=2) (k:=k) (fr2:=[(s,.int .i64 ((m:Nat):Int))]) (hp2:=[(0,292,mkW 2 ns.length root),(2,165,nsW ns)]) Xd hk hkn ⟨⟨hf,rfl⟩,trivial⟩ ⟨⟨by omega,h0,rfl⟩,⟨by omega,by rw[zmq (jJq _)];exact h1,zfq (jJq _)⟩,trivial⟩ Xk) ho ⟨rfl,.inr ⟨ns,m,hP,rfl,rfl,rfl⟩⟩
theorem uEq{k0:Nat}{rs:List ResultVar}{x:Exit}{fr:FrW}{hp:HpW}{nw:Nat}{R:Res}{root:Int}{P:List Node->Nat->Prop}{S:Nat->Prop}{ns:List Node}{m:Nat}(s:Nat)(hx:x= .normal\/x= .ret)(hkn:2<=nw)(hf:getW fr s=some (.int .i64 ((m:Nat):Int)))
  (h0:hget hp 0=some (292,mkW 1 ns.length root)) (h1:hget hp 1=some (165,nsW ns)) (ho:outW cfg [(s,.int .i64 ((m:Nat):Int))] [(0,292,mkW 1 ns.length root),(1,165,nsW ns)] rs=some (.int .i64 ((m:Nat):Int))) (hP:S m):
  QFin cfg G 2 k0 rs (fun w hp nw R'=>R'=R/\MkO root ns S P w hp nw) x fr hp nw R:=
 fin hx (qmq (nw2:=2) (fr2:=[(s,.int .i64 ((m:Nat):Int))]) (hp2:=[(0,292,mkW 1 ns.length root),(1,165,nsW ns)]) Xd hkn ⟨hf,trivial⟩ rfl (fun b y hb=>by
  match b,hb with
  |0,hb=>cases hb;exact⟨by omega,h0,rfl⟩
  |1,hb=>cases hb;exact⟨by omega,h1,zfq (jJq _)⟩
  |b+2,hb=>cases hb) Xk) ho ⟨rfl,.inl ⟨m,hP,rfl,rfl,rfl⟩⟩
theorem vHq(ns:List Node){i:Nat}{x:Node}(h:ns[i]? =some x):yuq 50 (nsW ns) (0+i*36+0) 1 false=some (.bool x.leaf):=
 get_in (zYq nW h) Xd Xd Xk rfl
theorem Rep.zero{ns:List Node}{t:T}(h:Rep ns 0 t):t= .nil:=by cases h;rfl
theorem Rep.is_leaf{ns:List Node}{n:Nat}{t:T}{x:Node}(h:Rep ns (n+1) t)(hx:ns[n]? =some x):(x.leaf=true->∃k v,t= .leaf k v)/\(x.leaf=false->∃l r,t= .fork l r):=by
 cases h with
 |leaf h2=>rw[hx] at h2;cases h2;exact⟨fun _=>⟨_,_,rfl⟩,fun h=>by cases h⟩
 |fork h2=>rw[hx] at h2;cases h2;exact⟨fun h=>Qm,fun _=>⟨_,_,rfl⟩⟩
theorem Z8q{ns:List Node}{l r:Nat}{L R:T}(hl:Rep ns l L)(hr:Rep ns r R)(h:l+r=0):Rep ns (l+r) (T.join L R):=by
 obtain rfl:l=0:=by omega
 obtain rfl:r=0:=by omega
 rw[hl.zero,hr.zero];exact .nil
theorem vJq{ns:List Node}{l r:Nat}{L R:T}{x:Node}(hl:Rep ns l L)(hr:Rep ns r R)(h:l=0\/r=0)(h0:0<l+r)(hx:ns[l+r-1]? =some x)(hf:x.leaf=true):Rep ns (l+r) (T.join L R):=by
 rcases h with rfl|rfl
 ·cases r with
  |zero=>omega
  |succ r=>
   have e:0+(r+1) -1=r:=by omega
   rw[e] at hx;obtain⟨k,v,rfl⟩:=(hr.is_leaf hx).1 hf;rw[hl.zero,Nat.zero_add];exact hr
 ·cases l with
  |zero=>omega
  |succ l=>
   obtain⟨k,v,rfl⟩:=(hl.is_leaf (x:=x) (by simpa using hx)).1 hf;rw[hr.zero,Nat.add_zero];exact hl
theorem vKq{ns:List Node}{l r:Nat}{L R:T}{x:Node}(hl:Rep ns l L)(hr:Rep ns r R)(h:l=0\/r=0)(h0:0<l+r)(hx:ns[l+r-1]? =some x)(hf:x.leaf=false):T.join L R= .fork L R:=by
 rcases h with rfl|rfl
 ·cases r with
  |zero=>omega
  |succ r=>
   have e:0+(r+1) -1=r:=by omega
   rw[e] at hx;obtain⟨k,v,rfl⟩:=(hr.is_leaf hx).2 hf;rw[hl.zero];rfl
 ·cases l with
  |zero=>omega
  |succ l=>
   obtain⟨k,v,rfl⟩:=(hl.is_leaf (x:=x) (by simpa using hx)).2 hf;rw[hr.zero];rfl
theorem Z7q{ns:List Node}{l r:Nat}{L R:T}(hl:Rep ns l L)(hr:Rep ns r R)(h1:0<l)(h2:0<r):T.join L R= .fork L R:=by
 cases hl with
 |nil=>omega
 |leaf=>cases hr with
  |nil=>omega
  |leaf=>rfl
  |fork=>rfl
 |fork=>cases hr with
  |nil=>omega
  |leaf=>rfl
  |fork=>rfl
abbrev WoutS(G:Nat->Option W)(root:Int)(k:Dig)(ns:List Node)(n d:Nat)(S:Nat->Prop)(P:List Node->Nat->Prop):Prop:=qiq cfg G 297 2 [.ptr 0 0,.int .i64 ((n:Nat):Int),.int .i64 ((d:Nat):Int),dW k] [(0,292,mkW 1 ns.length root),(1,165,nsW ns)] (MkO root ns S P)
theorem wout_leaf{root:Int}{k k':Dig}{v':List UInt8}{ns:List Node}{i d:Nat}{l r:Int}{P:List Node->Nat->Prop}(hx:ns[i]? =some ⟨true,k',v',l,r⟩)(hl:ns.length<=1000000000):WoutS G root k ns (i+1) d (fun m=>Rep ns m .nil) P:=by
 intro R;have hi:=(List.getElem?_eq_some_iff.1 hx).1;obtain⟨w,hw,rfl|⟨_,rfl⟩⟩:=Z6q ns hx
 ·refine zVq (fn:=Tryz.f297) O O O (Ob rfl) (fun k0=>?_);refine zjq 14 O ?_;refine zlq (i) O O Xi ⟨by omega,by omega⟩ ?_;refine zbq rfl (zLq (i:=i) O O O O O O O hi) (znq rfl (ypq O O O hw) ?_);refine zaq 19 O ?_;exact uEq (m:=0) 8 (.inr rfl) (by show 2<=4;omega) O O O O .nil
 ·refine zVq (fn:=Tryz.f297) O O O (Ob rfl) (fun k0=>?_);refine zjq 14 O ?_;refine zlq (i) O O Xi ⟨by omega,by omega⟩ ?_;refine zbq rfl (zLq (i:=i) O O O O O O O hi) (znq rfl (ypq O O O hw) ?_);refine zaq 19 O ?_;exact uEq (m:=0) 8 (.inr rfl) (by show 2<=4;omega) O O O O .nil
theorem min_w(a b:Nat):W.int .i64 (match ltI (b:Int) (a:Int) with|true=>(b:Int)|false=>(a:Int))=W.int .i64 ((min a b:Nat):Int):=by
 cases h:ltI (b:Int) (a:Int) with
 |true=>have:=ltI_iff.1 h;simp only;congr 1;omega
 | false => have:¬(b:Int)<a:=fun q=>by rw[ltI_iff.2 q] at h;cases h
            simp only;congr 1;omega
theorem Yaq{ns:List Node}{l r f:Nat}{L R:T}(hok:okN ns)(hl:Rep ns l L)(hr:Rep ns r R)(h:0<l+r):Gr ns (f+1) (.fork L R) (ns++[forkN l r]) (ns.length+1):=by
 have h1:=jpq (ms:=[]) (f:=f) (Nat.zero_le _) (by rw[List.append_nil];exact hok) (by rw[List.append_nil];exact hl) (by rw[List.append_nil];exact hr) h;rwa[List.append_nil] at h1
theorem wout_fork{root:Int}{k k':Dig}{v':List UInt8}{ns:List Node}{i d f l r:Nat}{L R t':T}(hx:ns[i]? =some ⟨false,k',v',l,r⟩)(hok:okN ns)(hL:Rep ns l L)(hR:Rep ns r R)(hd:d<256)(hl:ns.length+f+1<=1000000000)
  (sp:WoutS G root k ns (if bitN k d=0 then l else r) (d+1) (fun m=>Rep ns m t') (Gr ns f t')):WoutS G root k ns (i+1) d (fun m=>Rep ns m (if bitN k d=0 then .join t' R else .join L t')) (Gr ns (f+1) (if bitN k d=0 then .join t' R else .join L t')):=by
 intro R';have hi:=(List.getElem?_eq_some_iff.1 hx).1;have b1:=jtq k d;have hc:bitN k d=0\/bitN k d=1:=by omega
 have hw:=fork_all hx hok;rcases hc with hc|hc
 ·skip
  rw[if_pos hc] at sp;refine zVq (fn:=Tryz.f297) O O O (Ob rfl) (fun k0=>?_);refine zjq 14 O ?_;refine zlq (i) O O Xi ⟨by omega,by omega⟩ ?_;refine zbq rfl (zLq (i:=i) O O O O O O O hi) (znq rfl (ypq O O O hw) ?_);refine zaq 17 O ?_;refine zkq O O O O O O (kAq _) ?_;refine zaq 8 O ?_;refine zkq O O O O O O (y0q k d 0 hd hc) ?_;refine zaq 7 O ?_;first|refine zcq rfl (zBq O O O O O O O Xl) ?_|refine zcq rfl (zLq O O O O O O O Xd) ?_|refine zcq rfl (zsq O O O O O O Xd) ?_|refine zcq O O ?_
  refine zoq 2 O ?_;refine qNq (d+1) O O Xi ⟨by omega,by omega⟩ ?_;refine yOq O O ?_;skip
  skip
  refine yaq rfl (step_mkO 1 O O O O Xk Xd Yp O O sp ?_ ?_)
  ·rintro m hm;refine⟨by first|rfl|kernel_rfl,?_⟩;skip
   have la:=(hm).le;have lb:=((hR)).le;have ll:ns.length<=1000000000:=by first|omega|(simp only[List.length_append];omega)
   refine zoq 7 O ?_;first|refine zbq rfl (zBq O O O O O O O Xl) ?_|refine zbq rfl (zLq O O O O O O O Xd) ?_|refine zbq rfl (zsq O O O O O O Xd) ?_|refine zbq O O ?_
   refine zaq 6 O ?_;first|refine zbq rfl (zBq O O O O O O O Xl) ?_|refine zbq rfl (zLq O O O O O O O Xd) ?_|refine zbq rfl (zsq O O O O O O Xd) ?_|refine zbq O O ?_
   refine znq O O ?_;first|refine zbq rfl (zBq O O O O O O O Xl) ?_|refine zbq rfl (zLq O O O O O O O Xd) ?_|refine zbq rfl (zsq O O O O O O Xd) ?_|refine zbq O O ?_
   refine znq O O (zlq (m+r) O O Xi ⟨by omega,by omega⟩ ?_);refine zaq 5 O ?_;first|refine zbq rfl (zBq O O O O O O O Xl) ?_|refine zbq rfl (zLq O O O O O O O Xd) ?_|refine zbq rfl (zsq O O O O O O Xd) ?_|refine zbq O O ?_
   refine znq O O ?_;first|refine zbq rfl (zBq O O O O O O O Xl) ?_|refine zbq rfl (zLq O O O O O O O Xd) ?_|refine zbq rfl (zsq O O O O O O Xd) ?_|refine zbq O O ?_
   refine znq O O (zgq (w':=.int .i64 ((min m r:Nat):Int)) O O (min_w _ _) ?_);refine yZq O O (fun h1=>?_) (fun h1=>?_)
   ·have hz:m=0\/r=0:=by omega
    refine zaq 2 O ?_;refine yZq O O (fun h2=>?_) (fun h2=>?_)
    ·refine zaq 24 O ?_;exact uEq (m:=m+r) 8 (.inr rfl) (by show 2<=5;omega) O O O O (by rw[if_pos hc];exact Z8q hm (hR) Xd)
    ·obtain⟨y,hy⟩:∃y,ns[m+r-1]? =some y:=⟨_,List.getElem?_eq_getElem Xd⟩
     refine zaq 7 O ?_;refine zlq (m+r-1) O O Xi ⟨by omega,by omega⟩ ?_;refine zbq rfl (zLq (i:=m+r-1) O O O O O O O Xd) ?_;refine zbq O O (znq rfl (ypq O O O (vHq ns hy)) ?_);refine zaq 4 O ?_;refine zyq rfl (fun h3=>?_) (fun h3=>?_)
     ·refine zeq 8 O ?_;exact uEq (m:=m+r) 8 (.inr rfl) (by show 2<=5;omega) O O O O (by rw[if_pos hc];exact vJq hm (hR) hz Xd hy h3)
     ·refine zeq 6 O ?_;refine zkq O O O O O O (jNq _ _) ?_
      (refine zrq rfl (yGq 1 O O O O Xk Xd Yp O O (jeq _ root _ Ye) ?_);rintro ns2 m2 ⟨rfl,rfl⟩)
      refine zaq 4 O ?_;exact keq 8 5 (.inr rfl) Xd Yd O O O O (by rw[if_pos hc,vKq hm (hR) hz Xd hy (by simpa using h3)];exact Yaq hok hm (hR) Xd)
   ·refine zaq 25 O ?_;refine zkq O O O O O O (jNq _ _) ?_
    (refine zrq rfl (yGq 1 O O O O Xk Xd Yp O O (jeq _ root _ Ye) ?_);rintro ns2 m2 ⟨rfl,rfl⟩)
    refine zaq 4 O ?_;exact keq 8 5 (.inr rfl) Xd Yd O O O O (by rw[if_pos hc,Z7q hm (hR) Xd Xd];exact Yaq hok hm (hR) Xd)
  ·rintro ns1 m ⟨⟨ms,rfl,hms⟩,hok1,hm⟩;refine⟨by first|rfl|kernel_rfl,?_⟩;skip
   have la:=(hm).le;have lb:=((hR.app ms)).le;have ll:(ns++ms).length<=1000000000:=by first|omega|(simp only[List.length_append];omega)
   refine zoq 7 O ?_;first|refine zbq rfl (zBq O O O O O O O Xl) ?_|refine zbq rfl (zLq O O O O O O O Xd) ?_|refine zbq rfl (zsq O O O O O O Xd) ?_|refine zbq O O ?_
   refine zaq 6 O ?_;first|refine zbq rfl (zBq O O O O O O O Xl) ?_|refine zbq rfl (zLq O O O O O O O Xd) ?_|refine zbq rfl (zsq O O O O O O Xd) ?_|refine zbq O O ?_
   refine znq O O ?_;first|refine zbq rfl (zBq O O O O O O O Xl) ?_|refine zbq rfl (zLq O O O O O O O Xd) ?_|refine zbq rfl (zsq O O O O O O Xd) ?_|refine zbq O O ?_
   refine znq O O (zlq (m+r) O O Xi ⟨by omega,by omega⟩ ?_);refine zaq 5 O ?_;first|refine zbq rfl (zBq O O O O O O O Xl) ?_|refine zbq rfl (zLq O O O O O O O Xd) ?_|refine zbq rfl (zsq O O O O O O Xd) ?_|refine zbq O O ?_
   refine znq O O ?_;first|refine zbq rfl (zBq O O O O O O O Xl) ?_|refine zbq rfl (zLq O O O O O O O Xd) ?_|refine zbq rfl (zsq O O O O O O Xd) ?_|refine zbq O O ?_
   refine znq O O (zgq (w':=.int .i64 ((min m r:Nat):Int)) O O (min_w _ _) ?_);refine yZq O O (fun h1=>?_) (fun h1=>?_)
   ·have hz:m=0\/r=0:=by omega
    refine zaq 2 O ?_;refine yZq O O (fun h2=>?_) (fun h2=>?_)
    ·refine zaq 24 O ?_;exact keq (m:=m+r) 8 5 (.inr rfl) Xd Yd O O O O ⟨⟨ms,rfl,by omega⟩,hok1,by rw[if_pos hc];exact Z8q hm (hR.app ms) Xd⟩
    ·obtain⟨y,hy⟩:∃y,(ns++ms)[m+r-1]? =some y:=⟨_,List.getElem?_eq_getElem Xd⟩
     refine zaq 7 O ?_;refine zlq (m+r-1) O O Xi ⟨by omega,by omega⟩ ?_;refine zbq rfl (zLq (i:=m+r-1) O O O O O O O Xd) ?_;refine zbq O O (znq rfl (ypq O O O (vHq (ns++ms) hy)) ?_);refine zaq 4 O ?_;refine zyq rfl (fun h3=>?_) (fun h3=>?_)
     ·refine zeq 8 O ?_;exact keq (m:=m+r) 8 5 (.inr rfl) Xd Yd O O O O ⟨⟨ms,rfl,by omega⟩,hok1,by rw[if_pos hc];exact vJq hm (hR.app ms) hz Xd hy h3⟩
     ·refine zeq 6 O ?_;refine zkq O O O O O O (jNq _ _) ?_
      (refine zrq rfl (yGq 5 O O O O Xk Xd Yd O O (jeq _ root _ Ye) ?_);rintro ns2 m2 ⟨rfl,rfl⟩)
      refine zaq 4 O ?_;exact keq 8 6 (.inr rfl) Xd Yo O O O O (by rw[if_pos hc,vKq hm (hR.app ms) hz Xd hy (by simpa using h3)];exact jpq hms hok1 hm (hR.app ms) Xd)
   ·refine zaq 25 O ?_;refine zkq O O O O O O (jNq _ _) ?_
    (refine zrq rfl (yGq 5 O O O O Xk Xd Yd O O (jeq _ root _ Ye) ?_);rintro ns2 m2 ⟨rfl,rfl⟩)
    refine zaq 4 O ?_;exact keq 8 6 (.inr rfl) Xd Yo O O O O (by rw[if_pos hc,Z7q hm (hR.app ms) Xd Xd];exact jpq hms hok1 hm (hR.app ms) Xd)
 ·skip
  rw[if_neg Xd] at sp;refine zVq (fn:=Tryz.f297) O O O (Ob rfl) (fun k0=>?_);refine zjq 14 O ?_;refine zlq (i) O O Xi ⟨by omega,by omega⟩ ?_;refine zbq rfl (zLq (i:=i) O O O O O O O hi) (znq rfl (ypq O O O hw) ?_);refine zaq 17 O ?_;refine zkq O O O O O O (kAq _) ?_;refine zaq 8 O ?_;refine zkq O O O O O O (y0q k d 1 hd hc) ?_;refine zaq 7 O ?_;first|refine zcq rfl (zBq O O O O O O O Xl) ?_|refine zcq rfl (zLq O O O O O O O Xd) ?_|refine zcq rfl (zsq O O O O O O Xd) ?_|refine zcq O O ?_
  refine zoq 2 O ?_;refine qNq (d+1) O O Xi ⟨by omega,by omega⟩ ?_;refine yOq O O ?_;skip
  skip
  refine yaq rfl (step_mkO 1 O O O O Xk Xd Yp O O sp ?_ ?_)
  ·rintro m hm;refine⟨by first|rfl|kernel_rfl,?_⟩;skip
   have la:=((hL)).le;have lb:=(hm).le;have ll:ns.length<=1000000000:=by first|omega|(simp only[List.length_append];omega)
   refine zoq 7 O ?_;first|refine zbq rfl (zBq O O O O O O O Xl) ?_|refine zbq rfl (zLq O O O O O O O Xd) ?_|refine zbq rfl (zsq O O O O O O Xd) ?_|refine zbq O O ?_
   refine zaq 6 O ?_;first|refine zbq rfl (zBq O O O O O O O Xl) ?_|refine zbq rfl (zLq O O O O O O O Xd) ?_|refine zbq rfl (zsq O O O O O O Xd) ?_|refine zbq O O ?_
   refine znq O O ?_;first|refine zbq rfl (zBq O O O O O O O Xl) ?_|refine zbq rfl (zLq O O O O O O O Xd) ?_|refine zbq rfl (zsq O O O O O O Xd) ?_|refine zbq O O ?_
   refine znq O O (zlq (l+m) O O Xi ⟨by omega,by omega⟩ ?_);refine zaq 5 O ?_;first|refine zbq rfl (zBq O O O O O O O Xl) ?_|refine zbq rfl (zLq O O O O O O O Xd) ?_|refine zbq rfl (zsq O O O O O O Xd) ?_|refine zbq O O ?_
   refine znq O O ?_;first|refine zbq rfl (zBq O O O O O O O Xl) ?_|refine zbq rfl (zLq O O O O O O O Xd) ?_|refine zbq rfl (zsq O O O O O O Xd) ?_|refine zbq O O ?_
   refine znq O O (zgq (w':=.int .i64 ((min l m:Nat):Int)) O O (min_w _ _) ?_);refine yZq O O (fun h1=>?_) (fun h1=>?_)
   ·have hz:l=0\/m=0:=by omega
    refine zaq 2 O ?_;refine yZq O O (fun h2=>?_) (fun h2=>?_)
    ·refine zaq 24 O ?_;exact uEq (m:=l+m) 8 (.inr rfl) (by show 2<=5;omega) O O O O (by rw[if_neg Xd];exact Z8q (hL) hm Xd)
    ·obtain⟨y,hy⟩:∃y,ns[l+m-1]? =some y:=⟨_,List.getElem?_eq_getElem Xd⟩
     refine zaq 7 O ?_;refine zlq (l+m-1) O O Xi ⟨by omega,by omega⟩ ?_;refine zbq rfl (zLq (i:=l+m-1) O O O O O O O Xd) ?_;refine zbq O O (znq rfl (ypq O O O (vHq ns hy)) ?_);refine zaq 4 O ?_;refine zyq rfl (fun h3=>?_) (fun h3=>?_)
     ·refine zeq 8 O ?_;exact uEq (m:=l+m) 8 (.inr rfl) (by show 2<=5;omega) O O O O (by rw[if_neg Xd];exact vJq (hL) hm hz Xd hy h3)
     ·refine zeq 6 O ?_;refine zkq O O O O O O (jNq _ _) ?_
      (refine zrq rfl (yGq 1 O O O O Xk Xd Yp O O (jeq _ root _ Ye) ?_);rintro ns2 m2 ⟨rfl,rfl⟩)
      refine zaq 4 O ?_;exact keq 8 5 (.inr rfl) Xd Yd O O O O (by rw[if_neg Xd,vKq (hL) hm hz Xd hy (by simpa using h3)];exact Yaq hok (hL) hm Xd)
   ·refine zaq 25 O ?_;refine zkq O O O O O O (jNq _ _) ?_
    (refine zrq rfl (yGq 1 O O O O Xk Xd Yp O O (jeq _ root _ Ye) ?_);rintro ns2 m2 ⟨rfl,rfl⟩)
    refine zaq 4 O ?_;exact keq 8 5 (.inr rfl) Xd Yd O O O O (by rw[if_neg Xd,Z7q (hL) hm Xd Xd];exact Yaq hok (hL) hm Xd)
  ·rintro ns1 m ⟨⟨ms,rfl,hms⟩,hok1,hm⟩;refine⟨by first|rfl|kernel_rfl,?_⟩;skip
   have la:=((hL.app ms)).le;have lb:=(hm).le;have ll:(ns++ms).length<=1000000000:=by first|omega|(simp only[List.length_append];omega)
   refine zoq 7 O ?_;first|refine zbq rfl (zBq O O O O O O O Xl) ?_|refine zbq rfl (zLq O O O O O O O Xd) ?_|refine zbq rfl (zsq O O O O O O Xd) ?_|refine zbq O O ?_
   refine zaq 6 O ?_;first|refine zbq rfl (zBq O O O O O O O Xl) ?_|refine zbq rfl (zLq O O O O O O O Xd) ?_|refine zbq rfl (zsq O O O O O O Xd) ?_|refine zbq O O ?_
   refine znq O O ?_;first|refine zbq rfl (zBq O O O O O O O Xl) ?_|refine zbq rfl (zLq O O O O O O O Xd) ?_|refine zbq rfl (zsq O O O O O O Xd) ?_|refine zbq O O ?_
   refine znq O O (zlq (l+m) O O Xi ⟨by omega,by omega⟩ ?_);refine zaq 5 O ?_;first|refine zbq rfl (zBq O O O O O O O Xl) ?_|refine zbq rfl (zLq O O O O O O O Xd) ?_|refine zbq rfl (zsq O O O O O O Xd) ?_|refine zbq O O ?_
   refine znq O O ?_;first|refine zbq rfl (zBq O O O O O O O Xl) ?_|refine zbq rfl (zLq O O O O O O O Xd) ?_|refine zbq rfl (zsq O O O O O O Xd) ?_|refine zbq O O ?_
   refine znq O O (zgq (w':=.int .i64 ((min l m:Nat):Int)) O O (min_w _ _) ?_);refine yZq O O (fun h1=>?_) (fun h1=>?_)
   ·have hz:l=0\/m=0:=by omega
    refine zaq 2 O ?_;refine yZq O O (fun h2=>?_) (fun h2=>?_)
    ·refine zaq 24 O ?_;exact keq (m:=l+m) 8 5 (.inr rfl) Xd Yd O O O O ⟨⟨ms,rfl,by omega⟩,hok1,by rw[if_neg Xd];exact Z8q (hL.app ms) hm Xd⟩
    ·obtain⟨y,hy⟩:∃y,(ns++ms)[l+m-1]? =some y:=⟨_,List.getElem?_eq_getElem Xd⟩
     refine zaq 7 O ?_;refine zlq (l+m-1) O O Xi ⟨by omega,by omega⟩ ?_;refine zbq rfl (zLq (i:=l+m-1) O O O O O O O Xd) ?_;refine zbq O O (znq rfl (ypq O O O (vHq (ns++ms) hy)) ?_);refine zaq 4 O ?_;refine zyq rfl (fun h3=>?_) (fun h3=>?_)
     ·refine zeq 8 O ?_;exact keq (m:=l+m) 8 5 (.inr rfl) Xd Yd O O O O ⟨⟨ms,rfl,by omega⟩,hok1,by rw[if_neg Xd];exact vJq (hL.app ms) hm hz Xd hy h3⟩
     ·refine zeq 6 O ?_;refine zkq O O O O O O (jNq _ _) ?_
      (refine zrq rfl (yGq 5 O O O O Xk Xd Yd O O (jeq _ root _ Ye) ?_);rintro ns2 m2 ⟨rfl,rfl⟩)
      refine zaq 4 O ?_;exact keq 8 6 (.inr rfl) Xd Yo O O O O (by rw[if_neg Xd,vKq (hL.app ms) hm hz Xd hy (by simpa using h3)];exact jpq hms hok1 (hL.app ms) hm Xd)
   ·refine zaq 25 O ?_;refine zkq O O O O O O (jNq _ _) ?_
    (refine zrq rfl (yGq 5 O O O O Xk Xd Yd O O (jeq _ root _ Ye) ?_);rintro ns2 m2 ⟨rfl,rfl⟩)
    refine zaq 4 O ?_;exact keq 8 6 (.inr rfl) Xd Yo O O O O (by rw[if_neg Xd,Z7q (hL.app ms) hm Xd Xd];exact jpq hms hok1 (hL.app ms) hm Xd)
theorem find_fork{k:Dig}{d:Nat}{L R:T}:T.find k d (.fork L R)=(if bitN k d=0 then L.find k (d+1) else R.find k (d+1)):=rfl
theorem wout_s(root:Int)(k:Dig)(ns:List Node)(hok:okN ns):∀(t:T) (n d f:Nat) (b:Dig),Rep ns n t->t.ok d b=true->d+f=256->(t.find k d).isSome=true->ns.length+f+1<=1000000000->WoutS G root k ns n d (fun m=>Rep ns m (T.drop k d t)) (Gr ns f (T.drop k d t)):=by
 intro t;induction t with
 |nil=>intro n d f b hr ht hf hs hl;cases hs
 |leaf k' v'=>
  intro n d f b hr ht hf hs hl;cases hr with
  |leaf hx=>exact wout_leaf hx Xd
 |fork tl tr ihL ihR=>
  intro n d f b hr ht hf hs hl;obtain⟨hd,k1,k2,_⟩:=ok_fork.1 ht;cases hr with
  |fork hx h1 h2 hL hR=>
   rename_i n l r k' v';cases f with
   |zero=>omega
   |succ f=>
    rw[find_fork] at hs
    have key:WoutS G root k ns (n+1) d (fun m=>Rep ns m (if bitN k d=0 then .join (T.drop k (d+1) (if bitN k d=0 then tl else tr)) tr else .join tl (T.drop k (d+1) (if bitN k d=0 then tl else tr)))) (Gr ns (f+1) (if bitN k d=0 then .join (T.drop k (d+1) (if bitN k d=0 then tl else tr)) tr else .join tl (T.drop k (d+1) (if bitN k d=0 then tl else tr)))):=by
     refine wout_fork hx hok hL hR hd Xd ?_;by_cases hb:bitN k d=0
     ·rw[if_pos hb] at hs⊢;rw[if_pos hb];exact ihL l (d+1) f b hL k1 Xd hs Xd
     ·rw[if_neg hb] at hs⊢;rw[if_neg hb];exact ihR r (d+1) f (qMq b d) hR k2 Xd hs Xd
    have ep:T.drop k d (.fork tl tr)=(if bitN k d=0 then .join (T.drop k (d+1) (if bitN k d=0 then tl else tr)) tr else .join tl (T.drop k (d+1) (if bitN k d=0 then tl else tr))):=by
     simp only[T.drop];by_cases hb:bitN k d=0
     ·simp only[if_pos hb]
     ·simp only[if_neg hb]
    rw[ep];exact key
end
section
attribute [local irreducible] CoW OpW FlW Step Spec
variable {G:Nat->Option W}
theorem step_mkJ{o:Oper}{fr:FrW}{hp:HpW}{nw:Nat}{R:Res}{post:W->HpW->Nat->Res->Option EvW->Prop}{x:Operand}{xs:Array Operand}{ats:Array TypeId}{f:FuncId}{us:List W}{root:Int}{ns:List Node}{S:Nat->Prop}{P:List Node->Nat->Prop}(j k:Nat)
  (ho:o.op= .call ⟨.value x,xs,ats⟩) (hx:evW cfg G fr x=some (.fn f [] [])) (he:cfg.ext f=none) (hxs:evLW cfg G fr xs.toList=some (.ptr j 0::us)) (hpu:purL us=true) (hjk:j≠k) (hj:j<nw) (hkn:k<nw)
  (h0:hget hp j=some (292,mkW k ns.length root)) (h1:hget hp k=some (165,nsW ns)) (sp:qiq cfg G f 2 (.ptr 0 0::us) [(0,292,mkW 1 ns.length root),(1,165,nsW ns)] (MkO root ns S P))
  (hsame:∀m,S m->post (.int .i64 ((m:Nat):Int)) ((j,292,mkW k ns.length root)::(k,165,nsW ns)::delA [j,k] hp) nw R (some .dirty))
  (hpost:∀ns' m,P ns' m->post (.int .i64 ((m:Nat):Int)) ((j,292,mkW nw ns'.length root)::(nw,165,nsW ns')::delA [j,k] hp) (nw+1) R (some .dirty)):Step cfg G o fr hp nw R post:=by
 refine y3q (ext:=[j,k]) (ws:=.ptr 0 0::us) ho hx he hxs ?_ sp ?_ ?_ Xk (YUq h0 (by rw[zmq (jJq _)];exact h1) rfl (zfq (jJq _))) ?_ ?_
 ·show .ptr j 0::(us++[])=W.ptr j 0::qAq (numC [j,k] nw) us;rw[kBq hpu,List.append_nil]
 ·simp;omega
 ·intro b hb;simp only[List.mem_cons,List.not_mem_nil,or_false] at hb;omega
 ·have h:=zfq (m:=2) (w:=.tup us) hpu;have h:refL 2 us=true:=h;show(refB 2 (.ptr 0 0)&&refL 2 us)=true;rw[h];rfl
 ·rintro w hp1 nw1 (⟨m,h,rfl,rfl,rfl⟩|⟨ns',m,h,rfl,rfl,rfl⟩)
  ·have e:renH (numC [j,k] nw) [(0,292,mkW 1 ns.length root),(1,165,nsW ns)]=[(j,292,mkW k ns.length root),(k,165,nsW ns)]:=by
    simp only[renH,zmq (jJq _)];rfl
   have h:=hsame m h;rw[show([j,k]:List Nat).length=2 from rfl,e];exact h
  ·have e:renH (numC [j,k] nw) [(0,292,mkW 2 ns'.length root),(2,165,nsW ns')]=[(j,292,mkW nw ns'.length root),(nw,165,nsW ns')]:=by
    simp only[renH,zmq (jJq _)];rfl
   have h:=hpost ns' m h;rw[show([j,k]:List Nat).length=2 from rfl,e];exact h
theorem mkO_of{f:FuncId}{ws:List W}{hp:HpW}{root:Int}{ns:List Node}{P:List Node->Nat->Prop}(h:qiq cfg G f 2 ws hp (Mk root P)):qiq cfg G f 2 ws hp (MkO root ns (fun _=>False) P):=uAq h fun _ _ _ h=>.inr h
noncomputable def nilM(root:Int):W:=.agg 2 [.nils,.int .i64 root]
noncomputable def Mk0(root:Int)(P:List Node->Nat->Prop):W->HpW->Nat->Prop:=fun w hp nw=>
 ∃ns m,P ns m/\w= .int .i64 ((m:Nat):Int)/\hp=[(0,292,mkW 1 ns.length root),(1,165,nsW ns)]/\nw=2
theorem step_mk0{o:Oper}{fr:FrW}{hp:HpW}{nw:Nat}{R:Res}{post:W->HpW->Nat->Res->Option EvW->Prop}{x:Operand}{xs:Array Operand}{ats:Array TypeId}{f:FuncId}{us:List W}{root:Int}{P:List Node->Nat->Prop}(j:Nat)
  (ho:o.op= .call ⟨.value x,xs,ats⟩) (hx:evW cfg G fr x=some (.fn f [] [])) (he:cfg.ext f=none) (hxs:evLW cfg G fr xs.toList=some (.ptr j 0::us)) (hpu:purL us=true) (hj:j<nw)
  (h0:hget hp j=some (292,nilM root)) (sp:qiq cfg G f 1 (.ptr 0 0::us) [(0,292,nilM root)] (Mk0 root P))
  (hpost:∀ns' m,P ns' m->post (.int .i64 ((m:Nat):Int)) ((j,292,mkW nw ns'.length root)::(nw,165,nsW ns')::delA [j] hp) (nw+1) R (some .dirty)):Step cfg G o fr hp nw R post:=by
 refine y3q (ext:=[j]) (ws:=.ptr 0 0::us) ho hx he hxs ?_ sp Xk ?_ Xk (handed1 h0 rfl) ?_ ?_
 ·show .ptr j 0::(us++[])=W.ptr j 0::qAq (numC [j] nw) us;rw[kBq hpu,List.append_nil]
 ·intro b hb;simp only[List.mem_cons,List.not_mem_nil,or_false] at hb;omega
 ·have h:=zfq (m:=1) (w:=.tup us) hpu;have h:refL 1 us=true:=h;show(refB 1 (.ptr 0 0)&&refL 1 us)=true;rw[h];rfl
 ·rintro w hp1 nw1 ⟨ns',m,h,rfl,rfl,rfl⟩
  have e:renH (numC [j] nw) [(0,292,mkW 1 ns'.length root),(1,165,nsW ns')]=[(j,292,mkW nw ns'.length root),(nw,165,nsW ns')]:=by
   simp only[renH,zmq (jJq _)];rfl
  have h:=hpost ns' m h;rw[show([j]:List Nat).length=1 from rfl,e];exact h
theorem fin_mk0{k0:Nat}{rs:List ResultVar}{x:Exit}{fr:FrW}{hp:HpW}{nw:Nat}{R:Res}{root:Int}{P:List Node->Nat->Prop}{ns:List Node}{m:Nat}(s k:Nat)(hx:x= .normal\/x= .ret)(hk:1<=k)(hkn:k<nw)(hf:getW fr s=some (.int .i64 ((m:Nat):Int)))
  (h0:hget hp (tau1 1 k 0)=some (292,renW (tau1 1 k) (mkW 1 ns.length root))) (h1:hget hp (tau1 1 k 1)=some (165,nsW ns)) (ho:outW cfg [(s,.int .i64 ((m:Nat):Int))] [(0,292,mkW 1 ns.length root),(1,165,nsW ns)] rs=some (.int .i64 ((m:Nat):Int))) (hP:P ns m):
  QFin cfg G 1 k0 rs (fun w hp nw R'=>R'=R/\Mk0 root P w hp nw) x fr hp nw R:=
 fin hx (y2q (b:=1) (k:=k) (fr2:=[(s,.int .i64 ((m:Nat):Int))]) (hp2:=[(0,292,mkW 1 ns.length root),(1,165,nsW ns)]) Xd hk hkn ⟨⟨hf,rfl⟩,trivial⟩ ⟨⟨by omega,h0,rfl⟩,⟨by omega,by rw[zmq (jJq _)];exact h1,zfq (jJq _)⟩,trivial⟩ Xk) ho ⟨rfl,ns,m,hP,rfl,rfl,rfl⟩
theorem node_0(root:Int)(x:Node):qiq cfg G 257 1 [.ptr 0 0,nW x] [(0,292,nilM root)] (Mk0 root fun ns m=>ns=[x]/\m=1):=by
 intro R;refine zVq (fn:=Tryz.f257) O O O (Ob rfl) (fun k0=>?_);refine zjq 16 O ?_;refine yqq rfl (yoq O O (kNq (news:=[nW x]) (k:=ti165) O O O O (ymq O O O O) Xk (by show 1*ti165.bytes<=_;decide) (by show 1<=_;decide))) Xr ?_;refine zoq 13 O ?_;first|refine j3q O O ?_|refine zbq O O ?_
 refine zaq 4 O ?_;exact fin_mk0 (ns:=[x]) (m:=1) 4 3 (.inr rfl) Xd Ja O O O O ⟨rfl,rfl⟩
theorem with_0{root:Int}{k:Dig}{v:List UInt8}{d:Int}:qiq cfg G 204 1 [.ptr 0 0,.int .i64 ((0:Nat):Int),.int .i64 d,nW ⟨true,k,v,0,0⟩] [(0,292,nilM root)] (Mk0 root fun ns m=>ns=[⟨true,k,v,0,0⟩]/\m=1):=by
 intro R;refine zVq (fn:=Tryz.f204) O O O (Ob rfl) (fun k0=>?_);refine zjq 13 O ?_;refine zyq rfl (fun h1=>?_) (fun h1=>?_)
 ·refine zeq 4 O ?_
  (refine zrq rfl (step_mk0 0 O O O O Xk (by show 0<2;omega) rfl (node_0 root _) ?_);rintro ns1 m ⟨rfl,rfl⟩)
  refine zaq 5 O ?_;exact fin_mk0 (ns:=[⟨true,k,v,0,0⟩]) (m:=1) 8 2 (.inr rfl) Xd (by show 2<3;omega) O O O O ⟨rfl,rfl⟩
 ·exfalso;omega
end
section
attribute [local irreducible] CoW OpW FlW Step Spec
variable {G:Nat->Option W}
def Ext(t t':Tree):Prop:=∃ms,t'.nodes=t.nodes++ms/\ms.length<=257
theorem Ext.refl(t:Tree):Ext t t:=⟨[],by simp,by simp⟩
def PutA(t:Tree)(t0:T):W->Prop:=fun w=>∃t' n,IsT t' n t0/\Ext t t'/\w= .tup [tW t',.int .i64 0]
theorem v9q{hp:HpW}{b:Nat}{ns:List Node}{root:Int}(h:hget hp b=some (165,nsW ns)):View (blkA hp) (mkW b ns.length root) (tW ⟨ns,root⟩):=
 .agg (.cons (.sl (c:=nsW ns) (by unfold blkA;rw[h]) (jJq ns) (zpq Xq (List.length_map _).symm rfl) Xj) (.cons (.pur rfl) .nil))
theorem ist_put{ns ns':List Node}{n m:Nat}{t0:T}{k:Dig}{v:List UInt8}(h:IsT ⟨ns,(n:Int)⟩ n t0)(hl:ns.length<=261844)(hg:Gr ns 257 (t0.put k v 256) ns' m):IsT ⟨ns',(m:Int)⟩ m (t0.put k v 256):=by
 obtain⟨⟨ms,rfl,hms⟩,hok,hr⟩:=hg;exact⟨by simp only[List.length_append];omega,hok,rfl,hr,(klq k v 256 t0 (d:=0) (b:=qHq) rfl jQq h.ok (Nat.zero_le _)).1⟩
theorem tput_s(t:Tree)(n:Nat)(t0:T)(k:Dig)(v:List UInt8)(f:Bool)(h:IsT t n t0)(hv:MayP [(k,v)])(hl:t.nodes.length<=261844):PE cfg G 130 [tW t,dW k,.fz (zdq v) 1 f] (PutA t (t0.put k v 256)):=by
 have hy:=h.may;have hr:=h.root;obtain⟨ns,root⟩:=t;simp only at hr hl;subst hr
 have hvl:v.length<=70368744177664:=by
  have h2:=(hv.2 0 Xk (k,v) rfl).1;simp only[valB,Bool.and_eq_true,decide_eq_true_eq] at h2;omega
 have e:(ns.map nW).length=ns.length:=List.length_map _
 have hvals:∀x∈ns,x.val.length<=70368744177664:=fun x hx=>by
  obtain⟨i,hi⟩:=List.getElem?_of_mem hx;have h1:=h.okn i x hi;obtain⟨lf,k',v',l,r⟩:=x;cases lf with
  |true=>have:=(YPq h.okn hi).2;simp only;omega
  |false=>simp only[oneB,Bool.false_eq_true,if_false] at h1;simp only;rw[h1.2.2.2.1];simp
 refine vCq (fn:=Tryz.f130) O O O (Ob rfl) (fun R k0=>?_);refine zjq 12 O ?_;refine yxq O O O O O O (Qpq _ _ (by first|assumption|(simp;omega))) ?_;refine zoq 10 O ?_;first|refine zkq O O O O O O (yrq (w':=.int .i64 0) (qIq ⟨ns,(n:Int)⟩ Qb) (by rw[if_pos hy])) ?_|refine zkq O O O O O O (qIq _ Xd) ?_
 refine yZq O O (fun h1=>?_) (fun h1=>?_)
 ·exfalso;exact h1 rfl
 ·refine zaq 2 O ?_;first|refine zkq O O O O O O (yrq (w':=.bool true) (one_s ⟨true,k,v,0,0⟩ 0 Xd) (by rw[decide_eq_true (leaf_one hv 0)])) ?_|refine zkq O O O O O O (one_s _ _ Xd) ?_
  refine zaq 10 O ?_;refine zgq (w':=.int .i64 (ns.length:Int)) O O Xy ?_;refine yVq O O ?_;refine zaq 3 O ?_;refine zyq rfl (fun h2=>?_) (fun h2=>?_)
  ·exfalso;omega
  ·refine zeq 6 O ?_;skip
   skip
   refine zrq rfl (qKq O O O O O (by simp[u2q]) (twin_s ns (n:Int) Xd hvals) ?_);rintro w hp1 nw1 (⟨hn,rfl,rfl,rfl⟩|⟨rfl,rfl,rfl⟩)
   ·subst hn;obtain rfl:n=0:=by have:=h.rep.le;simpa using this
    skip
    refine zaq 15 O ?_
    (refine yaq rfl (step_mk0 6 O O O O (by simp[renW]) Yo rfl (with_0 (k:=k) (v:=v)) ?_);rintro ns1 m ⟨rfl,rfl⟩;refine⟨by first|rfl|kernel_rfl,?_⟩)
    refine zoq 17 O ?_;obtain rfl:=h.rep.zero;refine kiq (w':=.tup [tW ⟨[⟨true,k,v,0,0⟩],((1:Nat):Int)⟩,.int .i64 0]) (.inr rfl) rfl (.tup (.cons (v9q (b:=7) (ns:=[⟨true,k,v,0,0⟩]) (root:=((1:Nat):Int)) rfl) (.cons (.pur rfl) .nil))) Xk ⟨_,1,?_,⟨[⟨true,k,v,0,0⟩],rfl,by simp⟩,rfl⟩;refine ist_put (n:=0) h Xk ?_;rw[show T.put k v 256 .nil= .leaf k v from by simp[T.put]];exact Kbq (ns:=[]) h.okn hv Xd
   ·skip
    refine zaq 15 O ?_
    (refine yaq rfl (step_mkJ 7 6 O O O O (by simp[renW]) Xd (by show 7<8;omega) (by show 6<8;omega) rfl (by show some (165,renW _ (nsW ns))=_;rw[zmq (jJq ns)]) (mkO_of (with_s (n:Int) k v hv 256 t0 ns n 0 qHq h.rep h.okn h.ok rfl jQq (Nat.zero_le _) Xd)) ?_ ?_);exact fun m hm=>hm.elim;rintro ns1 m hg;refine⟨by first|rfl|kernel_rfl,?_⟩)
    refine zoq 17 O ?_;exact kiq (w':=.tup [tW ⟨ns1,(m:Int)⟩,.int .i64 0]) (.inr rfl) rfl (.tup (.cons (v9q (b:=8) (ns:=ns1) (root:=(m:Int)) rfl) (.cons (.pur rfl) .nil))) Xk ⟨_,m,ist_put h hl hg,hg.1,rfl⟩
end
section
attribute [local irreducible] CoW OpW FlW Step Spec
variable {G:Nat->Option W}
theorem IsT.vals{ns:List Node}{n:Nat}{root:Int}{t0:T}(h:IsT ⟨ns,root⟩ n t0):∀x∈ns,x.val.length<=70368744177664:=fun x hx=>by
 obtain⟨i,hi⟩:=List.getElem?_of_mem hx;have h1:=h.okn i x hi;obtain⟨lf,k',v',l,r⟩:=x;cases lf with
 |true=>have:=(YPq h.okn hi).2;simp only;omega
 |false=>simp only[oneB,Bool.false_eq_true,if_false] at h1;simp only;rw[h1.2.2.2.1];simp
theorem tdrop_s(t:Tree)(n:Nat)(t0:T)(k:Dig)(h:IsT t n t0)(hs:(t0.find k 0).isSome=true)(hl:t.nodes.length<=261844):PE cfg G 283 [tW t,dW k] (PutA t (t0.drop k 0)):=by
 have hy:=h.may;have hr:=h.root;obtain⟨ns,root⟩:=t;simp only at hr hl;subst hr;have e:(ns.map nW).length=ns.length:=List.length_map _;have hvals:=h.vals;have hok:=(vUq k t0 jQq h.ok hs).1;obtain⟨m,f1,f2,f3⟩:=fto_of (k:=k) h.rep h.ok;obtain⟨v0,hv0⟩:=Option.isSome_iff_exists.1 hs;obtain⟨j,l0,r0,rfl,hx⟩:=f3 v0 hv0;have hj:=(List.getElem?_eq_some_iff.1 hx).1;refine vCq (fn:=Tryz.f283) O O O (Ob rfl) (fun R k0=>?_);refine zjq 13 O ?_;first|refine zkq O O O O O O (yrq (w':=.int .i64 0) (qIq ⟨ns,(n:Int)⟩ Qb) (by rw[if_pos hy])) ?_|refine zkq O O O O O O (qIq _ Xd) ?_
 refine yVq O O ?_;refine zaq 8 O ?_;refine zkq O O O O O O (tfind_s ⟨ns,(n:Int)⟩ k n _ rfl f1 Qb) ?_;refine yVq O O ?_;refine zaq 3 O ?_;refine zyq rfl (fun h1=>?_) (fun h1=>?_)
 ·exfalso;omega
 ·refine zeq 4 O ?_;refine zgq (w':=.int .i64 (ns.length:Int)) O O Xy ?_;refine yVq O O ?_;refine zaq 3 O ?_;refine zyq rfl (fun h2=>?_) (fun h2=>?_)
  ·exfalso;omega
  ·refine zeq 6 O ?_;skip
   refine zrq rfl (qKq O O O O O (by simp[u2q]) (twin_s ns (n:Int) Xd hvals) ?_);rintro w hp1 nw1 (⟨hn,rfl,rfl,rfl⟩|⟨rfl,rfl,rfl⟩)
   ·exfalso
    subst hn;simp at hj
   ·skip
    refine zaq 15 O ?_;skip
    refine yaq rfl (step_mkJ 6 5 O O O O (by simp[renW]) Xd Yo (by show 5<7;omega) rfl (by show some (165,renW _ (nsW ns))=_;rw[zmq (jJq ns)]) (wout_s (n:Int) k ns h.okn t0 n 0 256 qHq h.rep h.ok rfl hs Xd) ?_ ?_)
    ·skip
     skip
     intro m hm;refine⟨by first|rfl|kernel_rfl,?_⟩;skip
     refine zoq 17 O ?_;exact kiq (w':=.tup [tW ⟨ns,(m:Int)⟩,.int .i64 0]) (.inr rfl) rfl (.tup (.cons (v9q (b:=5) (ns:=ns) (root:=(m:Int)) rfl) (.cons (.pur rfl) .nil))) Xk ⟨⟨ns,(m:Int)⟩,m,⟨h.len,h.okn,rfl,hm,hok⟩,⟨[],by simp,by simp⟩,rfl⟩
    ·rintro ns1 m ⟨⟨ms,rfl,hms⟩,hok1,hm⟩;refine⟨by first|rfl|kernel_rfl,?_⟩;skip
     refine zoq 17 O ?_;exact kiq (w':=.tup [tW ⟨ns++ms,(m:Int)⟩,.int .i64 0]) (.inr rfl) rfl (.tup (.cons (v9q (b:=7) (ns:=ns++ms) (root:=(m:Int)) rfl) (.cons (.pur rfl) .nil))) Xk ⟨⟨ns++ms,(m:Int)⟩,m,⟨by simp only[List.length_append];omega,hok1,rfl,hm,hok⟩,⟨ms,rfl,by omega⟩,rfl⟩
end
section
attribute [local irreducible] CoW OpW FlW Step Spec
variable {G:Nat->Option W}
noncomputable def setL(l:List Pr)(k:Dig)(a:Acct):List Pr:=if a= .zero then zKq l k else kuq l k (qTq a)
def SetA(t:Tree)(t0:T)(k:Dig)(a:Acct):W->Prop:=fun w=>∃t' n t1,IsA t' n t1/\t1.all=setL t0.all k a/\Ext t t'/\w= .tup [tW t',.int .i64 0]
noncomputable def noT:W:=.agg 2 [.nils,.int .i64 0]
theorem mayp_bytes(k:Dig)(a:Acct):MayP [(k,qTq a)]:=by
 refine⟨by simp,fun i hi x hx=>?_⟩;obtain rfl:i=0:=by simpa using hi
 cases hx;exact⟨by simp[valB,qTq,beB],fun y h0=>by omega⟩
theorem aset_s(t:Tree)(n:Nat)(t0:T)(k:Dig)(a:Acct)(h:IsA t n t0)(ha:a.ok)(hl:t.nodes.length<=261844):PE cfg G 267 [tW t,dW k,aW a] (SetA t t0 k a):=by
 have yes:MayA t:=⟨n,t0,h⟩;by_cases hz:a= .zero
 ·subst hz;have hvals:∀x∈t.nodes,x.val.length<=70368744177664:=IsT.vals (root:=t.root) h.toIsT
  cases hf:t0.find k 0 with
  |none=>
   have hno:zKq t0.all k=t0.all:=jAq (findL_none.1 (by rw[<-uhq k jQq h.ok];exact hf));have hall:t0.all=setL t0.all k .zero:=by unfold setL;rw[if_pos rfl,hno]
   refine vCq (fn:=Tryz.f267) O O O (Ob rfl) (fun R k0=>?_);refine zjq 13 O ?_;refine zkq O O O O O O (yrq (w':=.int .i64 0) (jjq t Xd) Yx) ?_;refine zaq 17 O ?_;refine zbq rfl (jaq O O O O (Knq .zero .zero)) ?_;refine zaq 10 O ?_;refine zkq O O O O O O (yrq (w':=.tup [.nils,.bool false]) (tget_s t n t0 k h.toIsT) (by rw[hf];rfl)) ?_;refine zaq 17 O ?_;skip
   skip
   refine zrq rfl (qKq O O O O O (by simp[u2q]) (twin_s t.nodes t.root Xd hvals) ?_);rintro w hp1 nw1 (⟨hn,rfl,rfl,rfl⟩|⟨rfl,rfl,rfl⟩)
   ·skip
    refine zaq 6 O ?_;refine kiq (w':=.tup [tW t,.int .i64 0]) (.inr rfl) rfl (.tup (.cons (.agg (.cons ?_ (.cons (.pur rfl) .nil))) (.cons (.pur rfl) .nil))) Xk ⟨t,n,t0,h,hall,.refl t,rfl⟩;rw[hn];exact .nilfz
   ·skip
    refine zaq 6 O ?_;exact kiq (w':=.tup [tW t,.int .i64 0]) (.inr rfl) rfl (.tup (.cons (v9q (b:=6) (ns:=t.nodes) (root:=t.root) (by show some (165,renW _ (nsW t.nodes))=_;rw[zmq (jJq t.nodes)])) (.cons (.pur rfl) .nil))) Xk ⟨t,n,t0,h,hall,.refl t,rfl⟩
  |some v=>
   have hs:(t0.find k 0).isSome=true:=by rw[hf];rfl
   have hd:=(vUq k t0 jQq h.ok hs).2;refine vCq (fn:=Tryz.f267) O O O (Ob rfl) (fun R k0=>?_);refine zjq 13 O ?_;refine zkq O O O O O O (yrq (w':=.int .i64 0) (jjq t Xd) Yx) ?_;refine zaq 17 O ?_;refine zbq rfl (jaq O O O O (Knq .zero .zero)) ?_;refine zaq 10 O ?_;refine zkq O O O O O O (yrq (w':=.tup [bW v,.bool true]) (tget_s t n t0 k h.toIsT) (by rw[hf];rfl)) ?_;refine zaq 20 O ?_
   (refine zrq rfl (uSq O O O O O (tdrop_s t n t0 k h.toIsT hs hl) Xk ?_);rintro w hw ⟨t',n',ht',hx,rfl⟩)
   refine zaq 7 O ?_;exact kiq (w':=.tup [tW t',.int .i64 0]) (.inr rfl) rfl (.pur Xk) Xk ⟨t',n',_,⟨ht',fun p hp=>h.held p (by rw[hd] at hp;exact(mem_withoutL.1 hp).1)⟩,by rw[hd];unfold setL;rw[if_pos rfl],hx,rfl⟩
 ·have hp:=(klq k (qTq a) 256 t0 (d:=0) (b:=qHq) rfl jQq h.ok (Nat.zero_le _)).2;have e:eqW cfg 300 81 (aW a) (aW .zero)=some false:=by rw[Knq,decide_eq_false hz]
  refine vCq (fn:=Tryz.f267) O O O (Ob rfl) (fun R k0=>?_);refine zjq 13 O ?_;refine zkq O O O O O O (yrq (w':=.int .i64 0) (jjq t Xd) Yx) ?_;refine zaq 17 O ?_;refine zbq rfl (jaq O O O O e) ?_;refine zaq 8 O ?_;refine yxq O O O O O O (abytes_s a ha) ?_
  (refine yaq rfl (uSq O O O O O (tput_s t n t0 k (qTq a) false h.toIsT (mayp_bytes k a) hl) Xk ?_);rintro w hw ⟨t',n',ht',hx,rfl⟩;refine⟨by first|rfl|kernel_rfl,?_⟩)
  refine zoq 8 O ?_
  exact kiq (w':=.tup [tW t',.int .i64 0]) (.inr rfl) rfl (.pur Xk) Xk ⟨t',n',_,⟨ht',fun p hq=>by
   rw[hp] at hq;rcases mem_withL.1 hq with rfl|⟨q,_⟩
   ·simp only;rw[Ziq a ha hz]
   ·exact h.held p q⟩,by rw[hp];unfold setL;rw[if_neg hz],hx,rfl⟩
end
section
attribute [local irreducible] CoW OpW FlW Step Spec
variable {G:Nat->Option W}
theorem k2q{o:Oper}{fr:FrW}{hp:HpW}{nw:Nat}{R:Res}{post:W->HpW->Nat->Res->Option EvW->Prop}{x:Operand}{xs:Array Operand}{ats:Array TypeId}{f:FuncId}{a b:Nat}
  (ho:o.op= .call ⟨.value x,xs,ats⟩) (hx:evW cfg G fr x=some (.fn f [] [])) (he:cfg.ext f=some add64V) (hxs:evLW cfg G fr xs.toList=some [.int .u64 ((a:Nat):Int),.int .u64 ((b:Nat):Int),.int .u64 ((0:Nat):Int)])
  (hpost:post (.tup [.int .u64 (((a+b)%18446744073709551616:Nat):Int),.int .u64 (((a+b)/18446744073709551616:Nat):Int)]) hp nw R (some .gen)):Step cfg G o fr hp nw R post:=by
 refine step_ext ho hx he hxs (fun Γ vs h=>?_) hpost;simp only[List.nil_append,List.append_nil,RVL_cons,RV_int] at h;obtain⟨v1,vs1,rfl,rfl,v2,vs2,rfl,rfl,v3,vs3,rfl,rfl,h⟩:=h;obtain rfl:vs3=[]:=by simpa[RVL] using h
 refine⟨.tup [.int .u64 (.ofNat ((a+b+0)%18446744073709551616)),.int .u64 (.ofNat ((a+b+0)/18446744073709551616))],rfl,?_⟩;rw[RV_tup];refine⟨_,rfl,?_⟩;simp only[RVL_cons,RV_int];exact⟨_,_,rfl,rfl,_,_,rfl,rfl,rfl⟩
def bal(p:Pr):Nat:=(qLq p.2).1.balance
def sumB(l:List Pr):Nat:=(l.map bal).sum
end
section
attribute [local irreducible] CoW OpW FlW Step Spec
variable {G:Nat->Option W}
def xYq(t:Tree)(m:Nat):Prop:=m<t.nodes.length\/∃i x,i<=m/\t.nodes[i]? =some x/\100<x.val.length
noncomputable instance(t:Tree)(m:Nat):Decidable (xYq t m):=Classical.propDecidable _
theorem Kaq(t:Tree)(m:Nat)(hb:t.nodes.length<=4611686018427387903)(hm:m<=4611686018427387903):PS cfg G 15 [tW t,.int .i64 (m:Int)] (.bool (decide (xYq t m))):=by
 have e:(t.nodes.map nW).length=t.nodes.length:=List.length_map _;refine zFq (fn:=Tryz.f15) O O O (Ob rfl) (fun R k0=>?_);refine zjq 13 O ?_;refine yEq (α:=Nat) (fun i=>i<=t.nodes.length/\∀j x,j<i->t.nodes[j]? =some x->x.val.length<=100) (fun i=>[(5,.int .i64 (i:Int))]) [(1,_),(2,_),(4,_)] (fun i=>t.nodes.length-i) (0) ⟨rfl,rfl,rfl,trivial⟩ (⟨Nat.zero_le _,fun j x h=>by omega⟩) ⟨rfl,trivial⟩ (fun i hI=>?_);obtain⟨hI,hJ⟩:=hI;refine zjq 6 O ?_;refine zgq (w':=.int .i64 (t.nodes.length:Int)) O O Xy ?_;refine yZq O O (fun h1=>?_) (fun h1=>?_)
 ·have hi:i<t.nodes.length:=by omega
  obtain⟨x,hx⟩:∃x,t.nodes[i]? =some x:=⟨_,List.getElem?_eq_getElem hi⟩
  have ex:=ziq x.val;refine zaq 3 O ?_;refine yVq O O ?_;refine zaq 3 O ?_;refine zyq rfl (fun h2=>?_) (fun h2=>?_)
  ·refine zeq 9 O ?_;refine zbq rfl (zBq (i:=i) O O O O O O O (zYq nW hx)) ?_;refine zaq 2 O ?_;refine zgq (w':=.int .i64 (x.val.length:Int)) O O (by rw[<-ex];rfl) ?_;refine zaq 3 O ?_;refine zyq rfl (fun h3=>?_) (fun h3=>?_)
   ·refine zeq 8 O ?_;refine z3q Xj ?_;refine zCq 2 O ?_;exact zhq (.inr rfl) rfl (by rw[decide_eq_true (show xYq t m from .inr ⟨i,x,by omega,hx,by omega⟩)])
   ·refine zeq 5 O ?_;refine zlq (i+1) O O Xi ⟨by omega,by omega⟩ ?_;refine yyq 2 O ?_;exact z5q (i+1) (⟨hi,fun j y hj hy=>by rcases Nat.lt_succ_iff_lt_or_eq.1 hj with q|rfl;exact hJ j y q hy;have:=Option.some.inj (hx.symm.trans hy);subst this;omega⟩) Xd ⟨rfl,trivial⟩ ⟨rfl,rfl,rfl,trivial⟩ Xg Xd Xm rfl
  ·refine zeq 2 O ?_;refine z3q Xj ?_;refine zCq 6 O ?_;refine zgq (w':=.int .i64 (t.nodes.length:Int)) O O Xy ?_;refine zbq O O (yVq O O ?_);refine zaq 4 O ?_;exact zhq (.inr rfl) rfl (by rw[decide_eq_true (show xYq t m from .inl Xd)];congr 1;exact decide_eq_true (show(m:Int)<(t.nodes.length:Int) by omega))
 ·refine zaq 10 O ?_;refine z3q Xj ?_;refine zCq 6 O ?_;refine zgq (w':=.int .i64 (t.nodes.length:Int)) O O Xy ?_;refine zbq O O (yVq O O ?_);refine zaq 4 O ?_;refine zhq (.inr rfl) O ?_;congr 1
  refine decide_eq_decide.2 ⟨fun q=>.inl (show m<t.nodes.length by have q:(m:Int)<(t.nodes.length:Int):=q;omega),?_⟩;rintro(q|⟨j,x,_,hx,hq⟩)
  ·show(m:Int)<(t.nodes.length:Int);omega
  ·have:=hJ j x (by have:=(List.getElem?_eq_some_iff.1 hx).1;omega) hx;omega
theorem cv_str{C:Cfg}{G:Nat->Option W}{fr:FrW}{hp:HpW}{nw:Nat}{s t e:TypeId}{x:Operand}{js jt:TyI}{l:List UInt8}{f:Bool}(hs:C.ty s=some js)(ht:C.ty t=some jt)(hx:evW C G fr x=some (.fz (zdq l) 1 f))(hjs:js.d= .slice e)(hjt:jt.d= .str)(he:Qiq C e=some (.int .u8)):opHW C G fr hp nw (.convert s t x)=some (.str l,hp,nw,.gen):=by
 simp only[opHW,hConv,hs,ht,hx,hjs,hjt,he,bytesOf_W]
theorem same_s(a b:List UInt8)(f g:Bool):PS cfg G 101 [.fz (zdq a) 1 f,.fz (zdq b) 1 g] (.bool (decide (a=b))):=by
 refine zFq (fn:=Tryz.f101) O O O (Ob rfl) (fun R k0=>?_);refine zjq 8 O ?_;refine znq rfl (cv_str O O O O O O) (zbq O O (znq rfl (cv_str O O O O O O) (zgq (w':=.bool (decide (a=b))) O O (congrArg W.bool (xdq a b)) ?_)));refine zaq 4 O ?_;exact zhq (.inr rfl) O O
end
section
attribute [local irreducible] CoW OpW FlW Step Spec
variable {G:Nat->Option W}
def StA(w0:W)(P:Tree->T->Prop):W->HpW->Nat->Prop:=fun w hp nw=>∃t n t0,IsA t n t0/\P t t0/\w=w0/\hp=[(0,308,tW t)]/\nw=1
theorem fin_st{k0:Nat}{rs:List ResultVar}{x:Exit}{fr:FrW}{hp:HpW}{nw:Nat}{R:Res}{w0:W}{P:Tree->T->Prop}{t:Tree}{n:Nat}{t0:T}(fr2:FrW)(hx:x= .normal\/x= .ret)(hf:subF fr fr2)(hr:fr2.all (fun p=>refB 1 p.2)=true)(hn:1<=nw)(hh:hget hp 0=some (308,tW t))(ho:outW cfg fr2 [(0,308,tW t)] rs=some w0)(h:IsA t n t0)(hP:P t t0):
  QFin cfg G 1 k0 rs (fun w hp nw R'=>R'=R/\StA w0 P w hp nw) x fr hp nw R:=
 fin hx (qmq (nw2:=1) (hp2:=[(0,308,tW t)]) (Nat.le_refl 1) hn hf hr (fun b x hb=>by
  match b,hb with
  |0,hb=>cases hb;exact⟨by omega,hh,zfq (jcq t)⟩
  |b+1,hb=>cases hb) Xk) ho ⟨rfl,t,n,t0,h,hP,rfl,rfl,rfl⟩
theorem xnq{o:Oper}{fr:FrW}{hp:HpW}{nw:Nat}{R:Res}{post:W->HpW->Nat->Res->Option EvW->Prop}{x:Operand}{xs:Array Operand}{ats:Array TypeId}{f:FuncId}{us:List W}{t:Tree}{w0:W}{P:Tree->T->Prop}(j:Nat)
  (ho:o.op= .call ⟨.value x,xs,ats⟩) (hx:evW cfg G fr x=some (.fn f [] [])) (he:cfg.ext f=none) (hxs:evLW cfg G fr xs.toList=some (.ptr j 0::us)) (hpu:purL us=true) (hj:j<nw) (hw0:purW w0=true)
  (h0:hget hp j=some (308,tW t)) (sp:qiq cfg G f 1 (.ptr 0 0::us) [(0,308,tW t)] (StA w0 P))
  (hpost:∀t' n' t1,IsA t' n' t1->P t' t1->post w0 ((j,308,tW t')::delA [j] hp) nw R (some .dirty)):Step cfg G o fr hp nw R post:=by
 refine y3q (ext:=[j]) (ws:=.ptr 0 0::us) ho hx he hxs ?_ sp Xk ?_ Xk (handed1 (by rw[zmq (jcq t)];exact h0) (zfq (jcq t))) ?_ ?_
 ·show .ptr j 0::(us++[])=W.ptr j 0::qAq (numC [j] nw) us;rw[kBq hpu,List.append_nil]
 ·intro b hb;simp only[List.mem_cons,List.not_mem_nil,or_false] at hb;omega
 ·have h:=zfq (m:=1) (w:=.tup us) hpu;have h:refL 1 us=true:=h;show(refB 1 (.ptr 0 0)&&refL 1 us)=true;rw[h];rfl
 ·rintro w hp1 nw1 ⟨t',n',t1,h1,h2,rfl,rfl,rfl⟩
  have e:renH (numC [j] nw) [(0,308,tW t')]=[(j,308,tW t')]:=by
   simp only[renH,zmq (jcq t')];rfl
  have h:=hpost t' n' t1 h1 h2;rw[e,zmq hw0];exact h
theorem asked_s(t:Tree)(hb:t.nodes.length<=4611686018427387903):PS cfg G 224 [tW t] (.int .i64 (if MayA t then 0 else 8)):=by
 refine zFq (fn:=Tryz.f224) O O O (Ob rfl) (fun R k0=>?_);refine zjq 9 O ?_;refine zkq O O O O O O (jjq t hb) ?_;refine zaq 4 O ?_;exact zhq (.inr rfl) O O
theorem full_s(t:Tree)(hb:t.nodes.length<=4611686018427387903):PS cfg G 225 [tW t] (.bool (decide (260944<t.nodes.length))):=by
 have e:(t.nodes.map nW).length=t.nodes.length:=List.length_map _;refine zFq (fn:=Tryz.f225) O O O (Ob rfl) (fun R k0=>?_);refine zjq 10 O ?_;refine zgq (w':=.int .i64 (t.nodes.length:Int)) O O Xy ?_;refine yVq O O ?_;refine zaq 4 O ?_;exact zhq (.inr rfl) rfl (by congr 1;rw[decide_eq_decide];omega)
def kjq(t:Tree)(m:Nat)(l:List Pr):Tree->T->Prop:=fun t' t1=>t1.all=l/\∃ms,t'.nodes=t.nodes++ms/\ms.length<=m
theorem turn_st(t:Tree)(n:Nat)(t0:T)(k:Dig)(a:Acct)(h:IsA t n t0)(ha:a.ok)(hl:t.nodes.length<=261844):qiq cfg G 228 1 [.ptr 0 0,dW k,aW a] [(0,308,tW t)] (StA (.tup []) (kjq t 257 (setL t0.all k a))):=by
 intro R;refine zVq (fn:=Tryz.f228) O O O (Ob rfl) (fun k0=>?_);refine zjq 14 O ?_
 (refine yaq rfl (uSq O O O O O (aset_s t n t0 k a h ha hl) Xk ?_);rintro w hw ⟨t',n',t1,ht',hall,hx,rfl⟩;refine⟨by first|rfl|kernel_rfl,?_⟩)
 refine zoq 14 O ?_;refine zyq rfl (fun h1=>?_) (fun h1=>?_)
 ·refine zjq 7 O ?_;exact fin_st [] (.inl rfl) trivial rfl Xd O O ht' ⟨hall,hx⟩
 ·exfalso;omega
theorem JRq(l:List UInt8):(qLq l).1.ok:=by
 unfold qLq;split
 ·exact⟨Nat.zero_lt_succ _,Nat.zero_lt_succ _⟩
 ·split
  ·exact⟨Nat.zero_lt_succ _,Nat.zero_lt_succ _⟩
  ·split
   ·exact⟨Nat.zero_lt_succ _,Nat.zero_lt_succ _⟩
   ·have h1:=YQq (l.take 8);have h2:=YQq (l.drop 8);rw[show(l.take 8).length=8 by rw[List.length_take];omega] at h1;rw[show(l.drop 8).length=8 by rw[List.length_drop];omega] at h2;exact⟨h1,h2⟩
theorem QDq(t0:T)(k:Dig):(y7q t0 k).ok:=by
 unfold y7q;split
 ·exact⟨Nat.zero_lt_succ _,Nat.zero_lt_succ _⟩
 ·exact JRq _
theorem more_no(t:Tree)(n:Nat)(t0:T)(k:Dig)(c:Nat)(h:IsA t n t0)(hc:c<18446744073709551616)(ho:18446744073709551616<=(y7q t0 k).balance+c):qiq cfg G 226 1 [.ptr 0 0,dW k,.int .u64 (c:Int)] [(0,308,tW t)] (StA (.bool false) (kjq t 257 t0.all)):=by
 intro R;have hA:=(QDq t0 k).2;refine zVq (fn:=Tryz.f226) O O O (Ob rfl) (fun k0=>?_);refine zjq 13 O ?_;refine yxq O O O O O O (Jvq t n t0 h k) ?_;refine zoq 13 O ?_
 (refine zrq rfl (k2q (a:=(y7q t0 k).balance) (b:=c) O O O O ?_))
 refine zaq 2 O ?_;refine zgq (w':=.int .u64 ((1:Nat):Int)) O O (congrArg (fun q:Nat=>W.int .u64 (q:Int)) Xd) ?_;refine zaq 11 O ?_;refine zyq rfl (fun h1=>?_) (fun h1=>?_)
 ·refine zeq 7 O ?_;exact fin_st [(6,.bool false)] (.inr rfl) ⟨rfl,trivial⟩ rfl Xd O O h ⟨rfl,[],by simp,by simp⟩
 ·exfalso;omega
theorem more_st(t:Tree)(n:Nat)(t0:T)(k:Dig)(c:Nat)(h:IsA t n t0)(ho:(y7q t0 k).balance+c<18446744073709551616)(hl:t.nodes.length<=261844):qiq cfg G 226 1 [.ptr 0 0,dW k,.int .u64 (c:Int)] [(0,308,tW t)] (StA (.bool true) (kjq t 257 (setL t0.all k ⟨(y7q t0 k).nonce,(y7q t0 k).balance+c⟩))):=by
 intro R;have hA:=(QDq t0 k).1;refine zVq (fn:=Tryz.f226) O O O (Ob rfl) (fun k0=>?_);refine zjq 13 O ?_;refine yxq O O O O O O (Jvq t n t0 h k) ?_;refine zoq 13 O ?_
 (refine zrq rfl (k2q (a:=(y7q t0 k).balance) (b:=c) O O O O ?_))
 refine zbq O O (zgq (w':=.int .u64 (((y7q t0 k).balance+c:Nat):Int)) O O (congrArg (fun q:Nat=>W.int .u64 (q:Int)) Xd) ?_);refine zgq (w':=.int .u64 ((0:Nat):Int)) O O (congrArg (fun q:Nat=>W.int .u64 (q:Int)) Xd) ?_;refine zaq 11 O ?_;refine zyq rfl (fun h1=>?_) (fun h1=>?_)
 ·exfalso;omega
 ·refine zeq 14 O ?_
  (refine zrq rfl (xnq 0 O O O O Xk (by show 0<3;omega) O O (turn_st t n t0 k ⟨(y7q t0 k).nonce,(y7q t0 k).balance+c⟩ h ⟨hA,ho⟩ hl) ?_);rintro t' n' t1 h' hP)
  refine zaq 8 O ?_;exact fin_st [(6,.bool true)] (.inr rfl) ⟨rfl,trivial⟩ rfl Xd O O h' hP
theorem JDq(t:Tree)(hl:t.nodes.length<=1000000000)(hv:∀x∈t.nodes,x.val.length<=70368744177664):PS cfg G 92 [tW t] (tW t):=fun R=>
 Ytq (uAq (twin_s t.nodes t.root hl hv) (Q:=fun w hp _=>View (blkA hp) w (tW t)) (fun w hp nw h=>by
  rcases h with ⟨hn,rfl,rfl,rfl⟩|⟨rfl,rfl,rfl⟩
  ·refine .agg (.cons ?_ (.cons (.pur rfl) .nil));rw[hn];exact .nilfz
  ·exact v9q (b:=2) (ns:=t.nodes) (root:=t.root) rfl) R)
end
section
attribute [local irreducible] CoW OpW FlW Step Spec
variable {G:Nat->Option W}
structure Depo where
 number:Nat
 to:Dig
 amount:Nat
noncomputable def pdW(d:Depo):W:=.agg 34 [.int .u64 (d.number:Int),dW d.to,.int .u64 (d.amount:Int)]
@[simp] theorem Zmq(d:Depo):purW (pdW d)=true:=by simp[pdW]
def overB(t0:T)(d:Depo):Prop:=18446744073709551616<=(y7q t0 d.to).balance+d.amount
instance(t0:T)(d:Depo):Decidable (overB t0 d):=inferInstanceAs (Decidable (_<=_))
noncomputable def givL(t0:T)(d:Depo):List Pr:=if overB t0 d then t0.all else setL t0.all d.to ⟨(y7q t0 d.to).nonce,(y7q t0 d.to).balance+d.amount⟩
def givC(t0:T)(d:Depo):Nat:=if overB t0 d then 151 else 0
def GivA(t:Tree)(t0:T)(d:Depo):W->Prop:=fun w=>∃t' n' t1,IsA t' n' t1/\kjq t 257 (givL t0 d) t' t1/\w= .tup [tW t',.int .i64 (givC t0 d:Nat),.int .i64 0]
theorem give_s(t:Tree)(n:Nat)(t0:T)(d:Depo)(h:IsA t n t0)(hd:d.amount<18446744073709551616)(hl:t.nodes.length<=260944):PE cfg G 167 [tW t,pdW d] (GivA t t0 d):=by
 have yes:MayA t:=⟨n,t0,h⟩;have hvals:∀x∈t.nodes,x.val.length<=70368744177664:=IsT.vals (root:=t.root) h.toIsT
 by_cases ho:overB t0 d
 ·skip
  refine vCq (fn:=Tryz.f167) O O O (Ob rfl) (fun R k0=>?_);refine zjq 14 O ?_;refine zkq O O O O O O (yrq (w':=.int .i64 0) (asked_s t Xd) Yx) ?_;refine yVq O O ?_;refine zaq 7 O ?_;refine zkq O O O O O O (yrq (w':=.bool false) (full_s t Xd) (by rw[decide_eq_false Xd])) ?_;refine zaq 10 O ?_;refine zkq O O O O O O (JDq t Xd hvals) ?_;refine zaq 13 O ?_
  (refine zrq rfl (xnq 3 O O O O Xk Ja O O (more_no t n t0 d.to d.amount h hd ho) ?_);rintro t' n' t1 h' hP)
  refine zaq 17 O ?_;refine kiq (w':=.tup [tW t',.int .i64 151,.int .i64 0]) (.inr rfl) rfl (.pur Xk) Xk ⟨t',n',t1,h',?_,?_⟩
  ·unfold givL;rw[if_pos ho];exact hP
  ·unfold givC;rw[if_pos ho];rfl
 ·have ho':(y7q t0 d.to).balance+d.amount<18446744073709551616:=Nat.lt_of_not_le ho;refine vCq (fn:=Tryz.f167) O O O (Ob rfl) (fun R k0=>?_);refine zjq 14 O ?_;refine zkq O O O O O O (yrq (w':=.int .i64 0) (asked_s t Xd) Yx) ?_;refine yVq O O ?_;refine zaq 7 O ?_;refine zkq O O O O O O (yrq (w':=.bool false) (full_s t Xd) (by rw[decide_eq_false Xd])) ?_;refine zaq 10 O ?_;refine zkq O O O O O O (JDq t Xd hvals) ?_;refine zaq 13 O ?_
  (refine zrq rfl (xnq 3 O O O O Xk Ja O O (more_st t n t0 d.to d.amount h ho' Xd) ?_);rintro t' n' t1 h' hP)
  refine zaq 18 O ?_;refine kiq (w':=.tup [tW t',.int .i64 0,.int .i64 0]) (.inr rfl) rfl (.pur Xk) Xk ⟨t',n',t1,h',?_,?_⟩
  ·unfold givL;rw[if_neg ho];exact hP
  ·unfold givC;rw[if_neg ho];rfl
end
noncomputable def rotN(x n:Nat):Nat:=Nat.lor (Nat.shiftLeft x (32-n)%4294967296%4294967296) (Nat.shiftRight x n%4294967296)
noncomputable def addN(a b:Nat):Nat:=(a+b)%4294967296
noncomputable def xorN(a b:Nat):Nat:=Nat.xor (a%4294967296) (b%4294967296)
noncomputable def andN(a b:Nat):Nat:=Nat.land (a%4294967296) (b%4294967296)
noncomputable def shrN(a k:Nat):Nat:=Nat.shiftRight a (min k 32)
noncomputable def shlN(a k:Nat):Nat:=Nat.shiftLeft a (min k 32)%4294967296
noncomputable def orN(a b:Nat):Nat:=Nat.lor (a%4294967296) (b%4294967296)
noncomputable def notN(a:Nat):Nat:=Nat.xor (4294967295%4294967296) (a%4294967296)
noncomputable def wd(x:Nat):W:=.int .u32 (.ofNat x)
theorem j0q(n:Nat)(hn:n=2\/n=6\/n=7\/n=11\/n=13\/n=17\/n=18\/n=19\/n=22\/n=25)(G:Nat->Option W)(x:Nat):qiq cfg G 281 0 [wd x,.int .i64 (.ofNat n)] [] fun w hp nw=>w=wd (rotN x n)/\hp=[]/\nw=0:=by
 have key:∀h,qVq cfg 20 281 [.int .u32 (.ofNat x),.int .i64 (.ofNat n)] h=some (.int .u32 (.ofNat (rotN x n)),h):=by
  intro h;rcases hn with rfl|rfl|rfl|rfl|rfl|rfl|rfl|rfl|rfl|rfl<;>kernel_rfl
 refine spec_run key (fun Γ us h=>?_) (fun Γ=>RV_int.2 rfl);obtain⟨v,vs,rfl,h1,h2⟩:=RVL_cons.1 h;obtain⟨v',vs',rfl,h3,h4⟩:=RVL_cons.1 h2;rw[RVL_nil.1 h4,RV_int.1 h1,RV_int.1 h3]
end
end Go.Proofs.YtjmekaoadfmkfaaGreatDoor

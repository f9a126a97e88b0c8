/-
  What the proof of ViewReads stands on, part 6. No condition.
-/
import Derived.Ground.SlbNamesProg
import Derived.Shelf.Bytes.SlJoin
import Derived.Test.YtihcioafclhokaaGreatDoorProg
import Derived.Test.YtihcioafclhokaaGreatDoorZViewReadsE
set_option linter.unusedSimpArgs false
set_option linter.unusedVariables false
namespace Go.Proofs.YtihcioafclhokaaGreatDoor
@[irreducible] def bitN(k:Dig)(i:Nat):Nat:=kn k (i/8)/2^(7-i%8)%2
theorem Z0q(k:Dig)(i:Nat):bitN k i<=1:=by unfold bitN;omega
theorem xor_le(m n:Nat)(hm:m<=255)(hn:n<=255):m^^^n<=255:=by
 have:m^^^n<2^8:=Nat.xor_lt_two_pow Xd Xd;omega
theorem pow_le(n:Nat):2^(7-n)<=255:=by
 have h:∀m,m<=7->2^m<=255:=by decide
 exact h _ Xd
@[irreducible] def qsq(k:Dig)(i:Nat):Dig:=setD k (i/8) (UInt8.ofNat (kn k (i/8)^^^2^(7-i%8)))
@[irreducible] def lenM(x:Nat):Nat:=if x=0 then 0 else Nat.log2 x+1
theorem lenM_le(x:Nat)(hx:x<=255):lenM x<=8:=by
 have h:∀x,x<=255->lenM x<=8:=by decide+kernel
 exact h x hx
def dOf(a b:Dig)(i:Nat):Nat×Nat:=(i,kn a i^^^kn b i)
@[irreducible] def dTo(a b:Dig)(n:Nat):List (Nat×Nat):=((List.range n).map (dOf a b)).filter (λp=>p.2 !=0)
theorem dTo_zero(a b:Dig):dTo a b 0=[]:=by unfold dTo;rfl
theorem uIq(a b:Dig)(n:Nat):dTo a b (n+1)=dTo a b n++(if kn a n^^^kn b n=0 then [] else [dOf a b n]):=by
 unfold dTo;rw[List.range_succ,List.map_append,List.filter_append];congr 1
 simp only[List.map_cons,List.map_nil,List.filter_cons,List.filter_nil,dOf];split<;>split<;>simp_all
theorem dTo_pre(a b:Dig)(n m:Nat):dTo a b n<+:dTo a b (n+m):=by
 induction m with
 |zero=>exact List.prefix_refl _
 |succ m ih=>rw[<-Nat.add_assoc,uIq];exact ih.trans (List.prefix_append _ _)
theorem dTo_get(a b:Dig)(i n:Nat)(hi:i<n)(hx:kn a i^^^kn b i≠0):(dTo a b n)[(dTo a b i).length]? =some (dOf a b i):=by
 obtain⟨m,rfl⟩:∃m,n=(i+1)+m:=⟨n-(i+1),by omega⟩
 obtain⟨l,hl⟩:=dTo_pre a b (i+1) m;rw[<-hl,uIq,if_neg hx];simp
theorem dTo_mem{a b:Dig}{n:Nat}{x:Nat×Nat}(h:x∈dTo a b n):x.1<n/\x.2=kn a x.1^^^kn b x.1/\x.2≠0:=by
 unfold dTo at h;rw[List.mem_filter,List.mem_map] at h;obtain⟨⟨i,hi,rfl⟩,h2⟩:=h;exact⟨List.mem_range.1 hi,rfl,by simpa using h2⟩
@[irreducible] def ykq(a b:Dig):Nat:=match dTo a b 32 with
 |[]=>256
 |x::_=>8*x.1+(8-lenM x.2)
@[irreducible] def j2q(a b:Dig):Bool:=match dTo a b 32 with
 |[]=>false
 |x::_=>decide (kn a x.1<kn b x.1)
theorem byte_top:∀x,x<256->x≠0->lenM x<=8/\1<=lenM x/\x.testBit (lenM x-1)=true/\∀k,k<8->lenM x-1<k->x.testBit k=false:=by decide+kernel
theorem qHq(m k:Nat):m/2^k%2=(m.testBit k).toNat:=by rw[Nat.toNat_testBit]
theorem lt_top{m n L:Nat}(h:∀k,L<k->m.testBit k=n.testBit k)(hm:m.testBit L=false)(hn:n.testBit L=true):m<n:=by
 have h1:m/2^(L+1)=n/2^(L+1):=by
  apply Nat.eq_of_testBit_eq;intro i;rw[Nat.testBit_div_two_pow,Nat.testBit_div_two_pow];exact h _ Xd
 have e:∀x,x/2^(L+1)=x/2^L/2:=λx=>by rw[Nat.pow_succ,Nat.div_div_eq_div_mul]
 have hm':m/2^L%2=0:=by rw[qHq,hm];rfl
 have hn':n/2^L%2=1:=by rw[qHq,hn];rfl
 rw[e,e] at h1;have:m/2^L<n/2^L:=by omega
 exact Nat.lt_of_not_le λhc=>by have:=Nat.div_le_div_right (c:=2^L) hc;omega
theorem Qxq(m n:Nat)(hm:m<=255)(hn:n<=255)(hx:m^^^n≠0):
  1<=lenM (m^^^n)/\lenM (m^^^n)<=8/\(∀t,t<8-lenM (m^^^n) ->m/2^(7-t)%2=n/2^(7-t)%2)/\
   ¬m/2^(lenM (m^^^n) -1)%2=n/2^(lenM (m^^^n) -1)%2/\(m<n↔m/2^(lenM (m^^^n) -1)%2<n/2^(lenM (m^^^n) -1)%2):=by
 have hle:=xor_le m n hm hn;obtain⟨h1,h2,h3,h4⟩:=byte_top (m^^^n) Xd hx
 have hab:∀k,lenM (m^^^n) -1<k->m.testBit k=n.testBit k:=λk hk=>by
  by_cases hk8:k<8
  ·have:=h4 k hk8 hk;rw[Nat.testBit_xor] at this;revert this;cases m.testBit k<;>cases n.testBit k<;>simp
  ·have e1:m<2^k:=Nat.lt_of_lt_of_le (show m<2^8 by omega) (Nat.pow_le_pow_right Xd Xd);have e2:n<2^k:=Nat.lt_of_lt_of_le (show n<2^8 by omega) (Nat.pow_le_pow_right Xd Xd);rw[Nat.testBit_lt_two_pow e1,Nat.testBit_lt_two_pow e2]
 rw[Nat.testBit_xor] at h3;refine⟨h2,h1,λt ht=>?_,?_,?_⟩
 ·rw[qHq,qHq,hab _ Xd]
 ·rw[qHq,qHq];revert h3;cases m.testBit (lenM (m^^^n) -1)<;>cases n.testBit (lenM (m^^^n) -1)<;>simp
 ·rw[qHq,qHq];cases hmb:m.testBit (lenM (m^^^n) -1)<;>cases hnb:n.testBit (lenM (m^^^n) -1)<;>simp only[hmb,hnb] at h3
  ·simp at h3
  ·have:=lt_top hab hmb hnb;simp[this]
  ·have:=lt_top (λk hk=>(hab k hk).symm) hnb hmb;simp;omega
  ·simp at h3
theorem xor_zero{m n:Nat}:m^^^n=0↔m=n:=by
 constructor
 ·intro h;apply Nat.eq_of_testBit_eq;intro i;have:(m^^^n).testBit i=false:=by rw[h];simp
  rw[Nat.testBit_xor] at this;revert this;cases m.testBit i<;>cases n.testBit i<;>simp
 ·rintro rfl;exact Nat.xor_self m
theorem dTo_nil{a b:Dig}{n:Nat}(h:dTo a b n=[]):∀i,i<n->kn a i=kn b i:=λi hi=>by
 rcases Classical.em (kn a i^^^kn b i=0) with hx|hx
 ·exact xor_zero.1 hx
 ·have:=dTo_get a b i n hi hx;rw[h] at this;simp at this
theorem uJq{a b:Dig}{x:Nat×Nat}{l:List (Nat×Nat)}:∀{n:Nat},dTo a b n=x::l->x.1<n/\x.2=kn a x.1^^^kn b x.1/\x.2≠0/\∀i,i<x.1->kn a i=kn b i:=by
 intro n h;obtain⟨h1,h2,h3⟩:=dTo_mem (a:=a) (b:=b) (n:=n) (x:=x) (by rw[h];simp);refine⟨h1,h2,h3,?_⟩;revert l
 induction n with
 |zero=>omega
 |succ n ih=>
  intro l h;rw[uIq] at h;cases hd:dTo a b n with
  |nil=>
   have:=dTo_nil hd;intro i hi;exact this i Xd
  |cons y r=>
   rw[hd] at h;have hy:y=x:=by simpa using congrArg List.head? h
   subst hy;have hm:=(dTo_mem (a:=a) (b:=b) (n:=n) (x:=y) (by rw[hd];simp)).1;exact ih hm hd
def QFq(a b:Dig)(s:Nat):Prop:=(∀j,j<s->bitN a j=bitN b j)/\(s=256\/(s<256/\¬bitN a s=bitN b s))
theorem keq(a b:Dig):QFq a b (ykq a b):=by
 unfold ykq;cases hd:dTo a b 32 with
 |nil=>
  have h:=dTo_nil hd;exact⟨λj hj=>by simp only at hj;unfold bitN;rw[h (j/8) Xd],.inl rfl⟩
 |cons x l=>
  obtain⟨h1,h2,h3,h4⟩:=uJq hd;simp only;have hb:=Qxq (kn a x.1) (kn b x.1) (xWq _ _) (xWq _ _) (by rw[<-h2];exact h3);rw[<-h2] at hb;obtain⟨b1,b2,b3,b4,-⟩:=hb;refine⟨λj hj=>?_,.inr ⟨by omega,?_⟩⟩
  ·unfold bitN;by_cases hjx:j/8<x.1
   ·rw[h4 _ hjx]
   ·have e:j/8=x.1:=by omega
    rw[e];exact b3 (j%8) Xd
  ·unfold bitN;rw[show(8*x.1+(8-lenM x.2))/8=x.1 by omega,show 7-(8*x.1+(8-lenM x.2))%8=lenM x.2-1 by omega];exact b4
theorem xNq{a b:Dig}{s t:Nat}(hs:QFq a b s)(ht:QFq a b t):s=t:=by
 obtain⟨s1,s2⟩:=hs;obtain⟨t1,t2⟩:=ht;rcases Nat.lt_trichotomy s t with h|h|h
 ·have:=t1 s h;rcases s2 with s2|⟨_,s2⟩
  ·omega
  ·exact absurd this s2
 ·exact h
 ·have:=s1 t h;rcases t2 with t2|⟨_,t2⟩
  ·omega
  ·exact absurd this t2
theorem ahead_is(a b:Dig):j2q a b=decide (ykq a b<256/\bitN a (ykq a b)<bitN b (ykq a b)):=by
 unfold j2q ykq;cases hd:dTo a b 32 with
 |nil=>simp
 |cons x l=>
  obtain⟨h1,h2,h3,h4⟩:=uJq hd;simp only;have hb:=Qxq (kn a x.1) (kn b x.1) (xWq _ _) (xWq _ _) (by rw[<-h2];exact h3);rw[<-h2] at hb;obtain⟨b1,b2,b3,b4,b5⟩:=hb;refine decide_eq_decide.2 ?_;unfold bitN;rw[show(8*x.1+(8-lenM x.2))/8=x.1 by omega,show 7-(8*x.1+(8-lenM x.2))%8=lenM x.2-1 by omega,b5];constructor
  ·exact λh=>⟨by omega,h⟩
  ·exact λh=>h.2
theorem ofNat_u8(n:Nat)(h:n<=255):(UInt8.ofNat n).toNat=n:=by simp;omega
theorem kn_turn(k:Dig)(i j:Nat)(hj:j<32)(hi:i<256):kn (qsq k i) j=if j=i/8 then kn k j^^^2^(7-i%8) else kn k j:=by
 unfold qsq;rw[kn_set _ _ _ _ hj];by_cases h:i/8=j
 ·rw[if_pos h,if_pos h.symm,h,ofNat_u8];exact xor_le _ _ (xWq _ _) (pow_le _)
 ·rw[if_neg h,if_neg (λe=>h e.symm)]
theorem ZZq(k:Dig)(i j:Nat)(hi:i<256)(hj:j<256)(h:¬j=i):bitN (qsq k i) j=bitN k j:=by
 unfold bitN;rw[kn_turn _ _ _ Xd hi];by_cases h8:j/8=i/8
 ·rw[if_pos h8,qHq,qHq,Nat.testBit_xor,Nat.testBit_two_pow_of_ne Xd];simp
 ·rw[if_neg h8]
theorem bit_turn_eq(k:Dig)(i:Nat)(hi:i<256):bitN (qsq k i) i=1-bitN k i:=by
 unfold bitN;rw[kn_turn _ _ _ Xd hi,if_pos rfl,qHq,qHq,Nat.testBit_xor,Nat.testBit_two_pow_self];cases (kn k (i/8)).testBit (7-i%8)<;>rfl
theorem shared_eq{a b:Dig}:ykq a b=256↔a=b:=by
 constructor
 ·intro h;cases hd:dTo a b 32 with
  |nil=>exact dig_ext (dTo_nil hd)
  |cons x l=>
   exfalso
   obtain⟨h1,h2,h3,h4⟩:=uJq hd;have hb:=Qxq (kn a x.1) (kn b x.1) (xWq _ _) (xWq _ _) (by rw[<-h2];exact h3);rw[<-h2] at hb;unfold ykq at h;rw[hd] at h;simp only at h;omega
 ·rintro rfl;rcases(keq a a).2 with h|⟨_,h⟩
  ·exact h
  ·exact absurd rfl h
theorem k7q{a b:Dig}{d:Nat}(hd:d<=256):d<=ykq a b↔∀j,j<d->bitN a j=bitN b j:=by
 obtain⟨h1,h2⟩:=keq a b;constructor
 ·exact λh j hj=>h1 j Xd
 ·intro h;rcases h2 with h2|⟨h2,h3⟩
  ·omega
  ·exact Nat.le_of_not_lt λhlt=>h3 (h _ hlt)
theorem ahead_iff{a b:Dig}:j2q a b=true↔∃s,s<256/\(∀j,j<s->bitN a j=bitN b j)/\bitN a s=0/\bitN b s=1:=by
 rw[ahead_is];have hs:=keq a b;constructor
 ·intro h;have h:=of_decide_eq_true h;refine⟨ykq a b,h.1,hs.1,?_,?_⟩<;>(have:=Z0q b (ykq a b);omega)
 ·rintro⟨s,h1,h2,h3,h4⟩;have:ykq a b=s:=xNq hs ⟨h2,.inr ⟨h1,by omega⟩⟩;rw[this];exact decide_eq_true ⟨h1,by omega⟩
theorem uPq{a b:Dig}(h:j2q a b=true):a≠b:=by
 rintro rfl;obtain⟨s,_,_,h3,h4⟩:=ahead_iff.1 h;omega
theorem ahead_total{a b:Dig}(h:a≠b):j2q a b=true\/j2q b a=true:=by
 have hs:=keq a b;have h256:ykq a b≠256:=λe=>h (shared_eq.1 e)
 rcases hs.2 with h2|⟨h1,h2⟩
 ·exact absurd h2 h256
 ·have x1:=Z0q a (ykq a b);have x2:=Z0q b (ykq a b);rcases Nat.eq_zero_or_pos (bitN a (ykq a b)) with h3|h3
  ·exact .inl (ahead_iff.2 ⟨_,h1,hs.1,h3,by omega⟩)
  ·exact .inr (ahead_iff.2 ⟨_,h1,λj hj=>(hs.1 j hj).symm,by omega,by omega⟩)
section
open Go.RowKit
section
attribute [local irreducible] CoW OpW FlW Step Spec
variable {G:Nat->Option W}
theorem jVq(a b:Nat):((a:Int)).tdiv (b:Int)=((a/b:Nat):Int):=by rw[Int.tdiv_eq_ediv_of_nonneg Xd];rfl
theorem kuq(a b:Nat):((a:Int)).tmod (b:Int)=((a%b:Nat):Int):=by rw[Int.tmod_eq_emod_of_nonneg Xd];rfl
theorem dW_ld(k:Dig){i:Nat}(h:i<32):z6q 50 (dW k) (0+i*1) 1 false=some (.int .u8 (kn k i:Nat)):=by rw[Nat.zero_add];exact dW_get k h
theorem bit_and(x n:Nat)(hn:n<=7)(hx:x<=255):Nat.land (Nat.shiftRight x (min n 8)%256) (1%256)=x/2^n%2:=by
 have h1:Nat.shiftRight x (min n 8)=x/2^n:=by rw[show min n 8=n by omega];exact Nat.shiftRight_eq_div_pow x n
 have h2:=Nat.div_le_self x (2^n);rw[h1,Nat.mod_eq_of_lt Xd];exact Nat.and_one_is_mod _
theorem bit_in(k:Dig)(i:Nat)(h:i<256):PS cfg G 330 [dW k,.int .i64 (i:Int)] (.tup [.int .u8 (bitN k i:Nat),.int .i64 0]):=by
 have hk:=xWq k (i/8);refine gI 11 Y (λR k0=>?_);refine gD 0 Y (λh1=>?_) (λh1=>?_)
 ·exfalso;omega
 refine gU 2 Y ?_;refine gS 3 Y (λh2=>?_) (λh2=>?_)
 ·exfalso;omega
 refine gA 5 Y (i/8) (e:=(jVq i 8)) (gP 0 Y (zHq (i:=i/8) Y Y Y Y Y Y Xd) (gM 0 Y (yMq Y Y Y (dW_ld k Xd)) (gV 1 Y (congrArg (W.int .i64) (kuq i 8)) (gA 0 Y (7-i%8) (gQ 7 Y ?_)))));show W.tup [.int .u8 (Nat.land (Nat.shiftRight (kn k (i/8)) (min (7-i%8) 8)%256) (1%256):Nat),_]=_;rw[bit_and _ _ Xd hk];unfold bitN;rfl
theorem len_tabW(s:List UInt8)(h:(List.range 256).all (λx=>s[x]? ==some (UInt8.ofNat (lenM x)))=true)(x:Nat)(hx:x<=255):s[x]? =some (UInt8.ofNat (lenM x)):=by
 have:=List.all_eq_true.1 h x (List.mem_range.2 Xd);simpa using this
theorem len8_s(x:Nat)(hx:x<=255):PS cfg G 357 [.int .u8 (x:Int)] (.int .i64 (lenM x:Nat)):=by
 have hl:=lenM_le x hx;have e:((UInt8.ofNat (lenM x)).toNat:Int)=(lenM x:Nat):=by congr 1;simp;omega
 exact gI 8 Y (λR k0=>gP 0 Y (ix_str Y Y Y Y Y (len_tabW _ (by decide+kernel) x hx)) (gA 0 Y (lenM x) (e:=e) (gQa 4 Y)))
theorem lz8_s(x:Nat)(hx:x<=255):PS cfg G 341 [.int .u8 (x:Int)] (.int .i64 (8-lenM x:Nat)):=by
 have hl:=lenM_le x hx;exact gI 8 Y (λR k0=>gC 0 Y (len8_s _ Xd) (gA 0 Y (8-lenM x) (gQa 4 Y)))
noncomputable def encP(x:Nat×Nat):List W:=[.int .i64 (x.1:Int),.int .u8 (x.2:Int)]
theorem dTo_more(a b:Dig){i:Nat}(h:i<32)(hx:kn a i^^^kn b i≠0):(dTo a b 32).drop (dTo a b i).length=dOf a b i::(dTo a b 32).drop (dTo a b (i+1)).length:=by
 have h1:=dTo_get a b i 32 h hx;obtain⟨hl,h2⟩:=List.getElem?_eq_some_iff.1 h1;have hs:=uIq a b i;rw[if_neg hx] at hs;rw[List.drop_eq_getElem_cons hl,h2,hs];simp
theorem dTo_same(a b:Dig){i:Nat}(hx:kn a i^^^kn b i=0):dTo a b (i+1)=dTo a b i:=by rw[uIq,if_pos hx,List.append_nil]
theorem xor8(x y:Nat)(hx:x<=255)(hy:y<=255):Nat.xor (x%256) (y%256)=x^^^y:=by rw[Nat.mod_eq_of_lt Xd,Nat.mod_eq_of_lt Xd];rfl
theorem apart_s(a b:Dig):PS cfg G 271 [dW a,dW b] (.fn 329 [] [.fel (dW a),.fel (dW b)]):=by
 refine gI 14 Y (λR k0=>?_);refine qlq (fr2:=[(4,_)]) Xt ?_ Y Y
 (repeat (first|exact trivial|refine And.symm ⟨?_,_,rfl,?_⟩))<;>(repeat (first|exact .nil|refine .cons ?_ ?_|refine .fn ?_ ?_|(refine yPq Y ?_ rfl;(first|rfl|(focus (simp;done))))|(refine .sl Y ?_ rfl Xh;(first|rfl|(focus (simp;done))))|(refine .pur ?_;(first|rfl|(focus (simp;done))))|refine .agg ?_|refine .arr ?_|refine .tup ?_))
theorem apart_it(a b:Dig):qfq cfg G 329 [.fel (dW a),.fel (dW b)] ((dTo a b 32).map encP):=by
 refine xdq (fn:=Tryz.f329) Y Y Y (Yb rfl) (λL E R hy k0=>?_);refine co_scope 3 (z1q 9 Y ?_);refine co_loopR (α:=Nat×Res) (λp=>p.1<=32/\Yl cfg G L E (((dTo a b 32).drop (dTo a b p.1).length).map encP) p.2) (λp=>[(6,.int .i64 (p.1:Int))]) [(0,_),(1,_),(2,_)] (λp=>[]) (λp=>p.2) (λp=>32-p.1) ((0,R)) ⟨rfl,rfl,rfl,trivial⟩ (⟨Nat.zero_le _,by rw[dTo_zero];exact hy⟩) ⟨rfl,trivial⟩ Y Y (λp hI=>?_);obtain⟨i,R⟩:=p;obtain⟨hi,hy⟩:=hI;simp only at hi hy;have ha:=xWq a i;have hb:=xWq b i;refine z1q 6 Y ?_;refine gS 0 Y (λh1=>?_) (λh1=>?_)
 ·have hi':i<32:=by omega
  refine gP 13 Y (ix_fel Y Y Y Y Y Y Xd rfl (dW_get a hi')) (gP 2 Y (ix_fel Y Y Y Y Y Y Xd rfl (dW_get b hi')) (gV (w':=.int .u8 ((kn a i^^^kn b i:Nat):Int)) 1 Y (congrArg (λn:Nat=>W.int .u8 (n:Int)) (xor8 _ _ ha hb)) ?_));refine gD 6 Y (λh2=>?_) (λh2=>?_)
  ·have hx:kn a i^^^kn b i≠0:=by omega
   rw[dTo_more a b hi' hx,List.map_cons] at hy;refine gSo 4 Y (qMq Y Y Y (hy) (λb R1 hb=>?_));refine gS 4 Y (λh3=>?_) (λh3=>?_)
   ·cases b with
    |true=>cases h3
    |false=>
     exact yvq 3 Y (y7q Xh (zYq 1 Y (Y5q (by intro l h;cases h) (j0q (.inl rfl) rfl hb))))
   ·cases b with
    |false=>exact absurd rfl h3
    |true=>
     exact yvq 4 Y (gA 0 Y (i+1) (zeq 2 Y (Y7q ((i+1,R1)) (⟨hi',hb⟩) Ya (Nat.zero_le _) ⟨rfl,trivial⟩ ⟨rfl,rfl,rfl,trivial⟩ Xg Xg Xd Xi Yd rfl)))
  ·have hx:kn a i^^^kn b i=0:=by omega
   rw[<-dTo_same a b hx] at hy;exact gA 14 Y (i+1) (zeq 2 Y (Y7q ((i+1,R)) (⟨hi',hy⟩) Ya (Nat.zero_le _) ⟨rfl,trivial⟩ ⟨rfl,rfl,rfl,trivial⟩ Xg Xg Xd Xi Yd rfl))
 ·refine zeq 2 Y (y7q Xh (zYq 1 Y (Y5q (by intro l h;cases h) ?_)));have:i=32:=by omega
  subst this;rw[List.drop_length] at hy;exact j0q (.inl rfl) rfl hy
theorem encP_ok{l:List (Nat×Nat)}:∀y∈l,purL (encP y)=true/\(encP y).length=2:=λy _=>⟨rfl,rfl⟩
theorem head_of{α:Type}{l:List α}{x:α}{i:Nat}(h:l[i]? =some x)(hi:i=0):∃r,l=x::r:=by
 subst hi;cases l with
 |nil=>simp at h
 |cons y r=>simp at h;subst h;exact⟨r,rfl⟩
theorem shared_s(a b:Dig):PS cfg G 303 [dW a,dW b] (.int .i64 (ykq a b:Nat)):=by
 refine gI 12 Y (λR k0=>gC 0 Y (apart_s _ _) (zeq 3 Y ?_));refine ZOq (encP) (dTo a b 32) (λi=>i=0) rfl Xk (apart_it a b) (encP_ok) (rfl) (λi y hy hI=>?_) (λhI=>?_)
 ·obtain⟨r,hr⟩:=head_of hy hI;obtain⟨h1,h2,h3,h4⟩:=uJq hr;have hb:=xor_le _ _ (xWq a y.1) (xWq b y.1);rw[<-h2] at hb;have hl:=lenM_le y.2 hb;refine z1q 8 Y (Z9q (z1q 4 Y (gA 0 Y (8*y.1) (gC 1 Y (lz8_s _ Xd) (gA 0 Y (8*y.1+(8-lenM y.2)) (zeq 5 Y (joq Xh (zYq 2 Y (gQ 0 Y ?_)))))))));unfold ykq;rw[hr]
 ·have:dTo a b 32=[]:=List.eq_nil_of_length_eq_zero hI;refine zYq 8 Y (gQ 0 Y ?_);unfold ykq;rw[this];rfl
theorem ahead_s(a b:Dig):PS cfg G 194 [dW a,dW b] (.bool (j2q a b)):=by
 refine gI 12 Y (λR k0=>gC 0 Y (apart_s _ _) (zeq 3 Y ?_));refine ZOq (encP) (dTo a b 32) (λi=>i=0) rfl Xk (apart_it a b) (encP_ok) (rfl) (λi y hy hI=>?_) (λhI=>?_)
 ·obtain⟨r,hr⟩:=head_of hy hI;obtain⟨h1,h2,h3,h4⟩:=uJq hr;refine z1q 3 Y (Z9q (z1q 4 Y (gP 0 Y (zHq (i:=y.1) Y Y Y Y Y Y h1) (gM 0 Y (yMq Y Y Y (dW_ld a h1)) (gP 1 Y (zHq (i:=y.1) Y Y Y Y Y Y h1) (gM 0 Y (yMq Y Y Y (dW_ld b h1)) (gU 0 Y (zeq 5 Y (joq Xh (zYq 2 Y (gQ 0 Y ?_)))))))))));unfold j2q;rw[hr];congr 1
  simp
 ·have:dTo a b 32=[]:=List.eq_nil_of_length_eq_zero hI;refine zYq 8 Y (gQ 0 Y ?_);unfold j2q;rw[this]
theorem shr8(n:Nat)(hn:n<=7):Nat.shiftRight 128 (min n 8)=2^(7-n):=by
 have h:∀n,n<=7->Nat.shiftRight 128 (min n 8)=2^(7-n):=by decide+kernel
 exact h n hn
theorem turn_in(k:Dig)(i:Nat)(h:i<256):PS cfg G 304 [dW k,.int .i64 (i:Int)] (.tup [dW (qsq k i),.int .i64 0]):=by
 have hk:=xWq k (i/8);have hp:=pow_le (i%8);have hx:=xor_le _ _ hk hp
 have e1:Nat.xor (kn k (i/8)%256) (Nat.shiftRight 128 (min (i%8) 8)%256)=kn k (i/8)^^^2^(7-i%8):=by
  rw[shr8 _ Xd];exact xor8 _ _ hk hp
 refine gI 11 Y (λR k0=>?_);refine gD 0 Y (λh1=>?_) (λh1=>?_)
 ·exfalso;omega
 refine gU 2 Y ?_;refine gS 3 Y (λh2=>?_) (λh2=>?_)
 ·exfalso;omega
 refine gA 5 Y (i/8) (e:=(jVq i 8)) (gP 0 Y (zHq (i:=i/8) Y Y Y Y Y Y Xd) (gM 0 Y (yMq Y Y Y (dW_ld k Xd)) (gV 1 Y (congrArg (W.int .i64) (kuq i 8)) (gV (w':=.int .u8 ((kn k (i/8)^^^2^(7-i%8):Nat):Int)) 1 Y (congrArg (λn:Nat=>W.int .u8 (n:Int)) e1) (gP 0 Y (zHq (i:=i/8) Y Y Y Y Y Y Xd) (gM 0 Y (jgq Y Y Y Y Y (qcq (i:=0+i/8*1) Ql Y Y) rfl) (gQ 10 Y ?_)))))));rw[Nat.zero_add,Nat.mul_one,dW_set k (i/8) Xd];unfold qsq;rfl
end
end
def beB:Nat->Nat->List UInt8
 |0,_=>[]
 |s+1,n=>UInt8.ofNat (n/256^s%256)::beB s n
def numB(l:List UInt8):Nat:=l.foldl (λa c=>256*a+c.toNat) 0
@[simp] theorem qpq:∀s n,(beB s n).length=s
 |0,_=>rfl
 |s+1,n=>by simp[beB,qpq s n]
theorem numB_snoc(l:List UInt8)(c:UInt8):numB (l++[c])=256*numB l+c.toNat:=by simp[numB,List.foldl_append]
theorem Qfq:∀(l:List UInt8) (a:Nat),l.foldl (λa c=>256*a+c.toNat) a=a*256^l.length+numB l
 |[],a=>by simp[numB]
 |c::l,a=>by
  simp only[List.foldl_cons,numB,List.length_cons];rw[Qfq l,Qfq l (256*0+c.toNat),Nat.pow_succ];simp only[Nat.add_mul,Nat.mul_zero,Nat.zero_add,Nat.add_assoc];congr 1
  rw[Nat.mul_comm 256 a,Nat.mul_assoc,Nat.mul_comm 256]
theorem numB_cons(c:UInt8)(l:List UInt8):numB (c::l)=c.toNat*256^l.length+numB l:=by
 show(c::l).foldl _ 0=_;rw[List.foldl_cons,Qfq];simp
theorem numB_lt:∀l:List UInt8,numB l<256^l.length
 |[]=>by simp[numB]
 |c::l=>by
  rw[numB_cons,List.length_cons,Nat.pow_succ];have:=numB_lt l;have hc:=c.toNat_lt;have:c.toNat*256^l.length<=255*256^l.length:=Nat.mul_le_mul_right _ Xd;omega
section
open Go.RowKit
section
attribute [local irreducible] CoW OpW FlW Step Spec
variable {G:Nat->Option W}
theorem ZPq(l:List UInt8)(f:Bool)(hl:l.length<=70368744177664):PS cfg G 164 [.fz (zbq l) 1 f] (bW l):=by
 refine gI 9 Y (λR k0=>?_);first|refine zcq Y Y ?_|refine ycq rfl (uhq Y Y Y Y Y (λbn hn=>?_))
 refine zAq 2 Y ?_;refine gS 0 Y (λh1=>?_) (λh1=>?_)
 ·cases bn with
  |false=>cases h1
  |true=>
   have hn:=hn rfl
   have hl0:l=[]:=by cases l with
    |nil=>rfl
    |cons c l=>simp[zbq] at hn
   subst hl0;refine yvq 7 Y ?_;refine qlq (fr2:=[(2,bW [])]) Qx ⟨⟨_,rfl,.nilfz⟩,trivial⟩ Y Y
 ·cases l with
  |nil=>
   skip
   refine yvq 6 Y (gM 0 Y (ytq Y Y (kRq Y Y Y Y Y)) (zeq 4 Y ?_));refine qlq (fr2:=[(2,bW [])]) Qx ⟨⟨_,rfl,.sl Y Y Y Xh⟩,trivial⟩ Y Y
  |cons c l=>
   simp only[List.length_cons] at hl;refine yvq 6 Y (gM 0 Y (ytq Y Y (qqq (news:=zbq (c::l)) (olds:=[]) Y Y Y Y Y Qg (by show(0+(zbq (c::l)).length)*1<=_;rw[zdq];simp only[List.length_cons];omega) (by rw[zdq];simp only[List.length_cons];omega) rfl (by show 0<0+(0+(zbq (c::l)).length)*1;rw[zdq];simp only[List.length_cons];omega) Y Y)) (zeq 4 Y ?_));refine qlq (fr2:=[(2,bW (c::l))]) Qx ⟨⟨_,rfl,.sl rfl Xj (sub_whole Xj (Nat.mul_one _)) Xh⟩,trivial⟩ Y Y
theorem end_s(l:List UInt8)(f:Bool):PS cfg G 283 [.fz (zbq l) 1 f] (.int .i64 (if l=[] then 0 else 11)):=by
 have e:=zdq l;refine gI 9 Y (λR k0=>gL 0 Y ?_);refine gS 3 Y (λh1=>?_) (λh1=>?_)
 ·refine zeq 7 Y ?_;have:l≠[]:=by rintro rfl;simp[zbq] at h1
  exact gQ 0 Y (by rw[if_neg this])
 ·refine zeq 8 Y ?_;have:l=[]:=List.eq_nil_of_length_eq_zero (by rw[<-e];simpa using h1);exact gQ 0 Y (by rw[if_pos this])
theorem shr_byte(n i:Nat)(hi:i<=8):Nat.shiftRight n (min (8*i) 64)%256=n/256^i%256:=by
 have:Nat.shiftRight n (min (8*i) 64)=n/2^(8*i):=by rw[show min (8*i) 64=8*i by omega];exact Nat.shiftRight_eq_div_pow _ _
 rw[this,Nat.pow_mul]
theorem be_at(n size i:Nat)(hi:i<size):(zbq (List.replicate (size-i) 0++beB i n))[0+(size-1-i)*1]? =some (.int .u8 (.ofNat 0)):=by
 refine koq (c:=0) ?_;rw[List.getElem?_append_left Xo,List.getElem?_replicate,if_pos Xd]
theorem be_set(n size i:Nat)(hi:i<size):(zbq (List.replicate (size-i) 0++beB i n)).set (0+(size-1-i)*1) (.int .u8 ((n/256^i%256:Nat):Int))=zbq (List.replicate (size-(i+1)) 0++beB (i+1) n):=by
 have e:size-i=(size-(i+1))+1:=by omega
 have e2:0+(size-1-i)*1=size-(i+1):=by omega
 rw[e,e2,List.replicate_succ',List.append_assoc,yKq,yKq,List.set_append_right _ _ Qg];simp only[zbq,List.length_map,List.length_replicate,Nat.sub_self,List.singleton_append,List.map_cons,List.set_cons_zero,beB];congr 2
 simp
theorem be_zero(n size:Nat):zbq (List.replicate (size-0) 0++beB 0 n)=List.replicate size (.int .u8 0):=by simp[zbq,beB]
theorem put_s(n size:Nat)(hs:1<=size)(hs8:size<=8)(hn:n<256^size):j9q cfg G 253 0 [.int .u64 (n:Int),.int .i64 (size:Int)] [] λw hp nw=>
  w= .tup [.sl 0 0 0 size 1 none,.int .i64 0]/\hp=[(0,5,.arr (size*1) 1 (zbq (beB size n)))]/\nw=1:=by
 intro R
 have hq:size<8->Nat.shiftRight n (min (8*size) 64)=0:=λh=>by
  rw[show min (8*size) 64=8*size by omega,show Nat.shiftRight n (8*size)=n/2^(8*size) from Nat.shiftRight_eq_div_pow _ _,Nat.pow_mul];exact Nat.div_eq_of_lt hn
 refine gIs 11 Y (λk0=>?_);refine gD 0 Y (λh1=>?_) (λh1=>?_)
 ·exfalso;omega
 refine gU 2 Y ?_;refine gS 4 Y (λh2=>?_) (λh2=>?_)
 ·exfalso;omega
 refine gD 3 Y (λh3=>?_) (λh3=>?_)
 ·have h8:=hq Xd;refine gA 3 Y (8*size) (gU 1 Y ?_);refine gS 4 Y (λh4=>?_) (λh4=>?_)
  ·skip
   exfalso
   have h4:(0:Int)<(Nat.shiftRight n (min (8*size) 64):Nat):=h4;rw[h8] at h4;omega
  ·refine gM 6 Y (Qhq (l:=size) (c:=size) Y Y Y Y Y Y Y Y (Nat.le_refl _) (by show 1*size<=_;omega) Xd Y Y) (zeq 11 Y ?_);refine qeq (α:=Nat) (λi=>i<=size) (λi=>[(28,.int .i64 (i:Int))]) [(0,_),(1,_),(4,_),(5,_),(6,_),(27,_)] (λi=>[(0,5,.arr (size*1) 1 (zbq (List.replicate (size-i) 0++beB i n)))]) (λi=>size-i) (0) ⟨rfl,rfl,rfl,rfl,rfl,rfl,trivial⟩ (Nat.zero_le _) ⟨rfl,trivial⟩ (by rw[be_zero];rfl) (λi hI=>?_);refine z1q 6 Y ?_;refine gS 0 Y (λh5=>?_) (λh5=>?_)
   ·have hi:i<size:=by omega
    exact gA 13 Y (size-1) (gA 1 Y (size-1-i) (gA 2 Y (8*i) (gV (w':=.int .u8 ((n/256^i%256:Nat):Int)) 1 Y (congrArg (λn:Nat=>W.int .u8 (n:Int)) (shr_byte n i Xd)) (gP 0 Y (yTq (i:=size-1-i) Y Y Y Y Y Y Y Xd) (gM 0 Y (jgq Y Y Y Y Y (qcq (be_at n size i hi) Y Y) (congrArg (λL=>[(0,5,W.arr (size*1) 1 L)]) (be_set n size i hi))) (gA 4 Y (i+1) (zeq 2 Y (qTq (i+1) (hi) Xd ⟨rfl,trivial⟩ ⟨rfl,rfl,rfl,rfl,rfl,rfl,trivial⟩ rfl))))))))
   ·refine zeq 2 Y (y7q Xh (zYq 10 Y ?_));have:i=size:=by omega
    subst this;refine fin Qx Ent.refl rfl ⟨rfl,rfl,?_,rfl⟩;rw[Nat.sub_self];rfl
 ·refine gM 17 Y (Qhq (l:=size) (c:=size) Y Y Y Y Y Y Y Y (Nat.le_refl _) (by show 1*size<=_;omega) Xd Y Y) (zeq 11 Y ?_);refine qeq (α:=Nat) (λi=>i<=size) (λi=>[(28,.int .i64 (i:Int))]) [(0,_),(1,_),(4,_),(5,_),(6,_),(27,_)] (λi=>[(0,5,.arr (size*1) 1 (zbq (List.replicate (size-i) 0++beB i n)))]) (λi=>size-i) (0) ⟨rfl,rfl,rfl,rfl,rfl,rfl,trivial⟩ (Nat.zero_le _) ⟨rfl,trivial⟩ (by rw[be_zero];rfl) (λi hI=>?_);refine z1q 6 Y ?_;refine gS 0 Y (λh4=>?_) (λh4=>?_)
  ·have hi:i<size:=by omega
   exact gA 13 Y (size-1) (gA 1 Y (size-1-i) (gA 2 Y (8*i) (gV (w':=.int .u8 ((n/256^i%256:Nat):Int)) 1 Y (congrArg (λn:Nat=>W.int .u8 (n:Int)) (shr_byte n i Xd)) (gP 0 Y (yTq (i:=size-1-i) Y Y Y Y Y Y Y Xd) (gM 0 Y (jgq Y Y Y Y Y (qcq (be_at n size i hi) Y Y) (congrArg (λL=>[(0,5,W.arr (size*1) 1 L)]) (be_set n size i hi))) (gA 4 Y (i+1) (zeq 2 Y (qTq (i+1) (hi) Xd ⟨rfl,trivial⟩ ⟨rfl,rfl,rfl,rfl,rfl,rfl,trivial⟩ rfl))))))))
  ·refine zeq 2 Y (y7q Xh (zYq 10 Y ?_));have:i=size:=by omega
   subst this;refine fin Qx Ent.refl rfl ⟨rfl,rfl,?_,rfl⟩;rw[Nat.sub_self];rfl
theorem shl8(n:Nat):(Int.ofNat (Nat.shiftLeft n (min 8 64)))=((256*n:Nat):Int):=by
 rw[show Nat.shiftLeft n (min 8 64)=n*2^8 from Nat.shiftLeft_eq n 8,Nat.mul_comm];rfl
theorem or_low(n c:Nat)(hn:256*n<18446744073709551616)(hc:c<256):Nat.lor (256*n%18446744073709551616) (c%18446744073709551616)=256*n+c:=by
 rw[Nat.mod_eq_of_lt hn,Nat.mod_eq_of_lt Xd];have:=Nat.two_pow_add_eq_or_of_lt (i:=8) (b:=c) Xd n;rw[Nat.mul_comm] at this;rw[show Nat.lor (256*n) c=256*n|||c from rfl,Nat.mul_comm 256 n];rw[Nat.mul_comm] at this;rw[Nat.mul_comm n 256];exact this.symm
theorem pow256_le{i:Nat}(h:i<=8):256^i<=18446744073709551616:=by
 have h':∀i,i<=8->256^i<=18446744073709551616:=by decide
 exact h' i h
theorem numB_take{l:List UInt8}{i:Nat}{c:UInt8}(h:l[i]? =some c):numB (l.take (i+1))=256*numB (l.take i)+c.toNat:=by
 rw[List.take_add_one,h];exact numB_snoc _ _
theorem vrq{l:List UInt8}{i:Nat}(h:i<=7):256*numB (l.take i)<18446744073709551616:=by
 have h1:=numB_lt (l.take i);have h2:256^(l.take i).length<=256^i:=Nat.pow_le_pow_right Xd Xo;have h3:=pow256_le (i:=i+1) Xd;rw[Nat.pow_succ] at h3;omega
theorem kaq(l:List UInt8)(f:Bool)(size:Nat)(hs:1<=size)(hs8:size<=8)(hl:l.length<size):PS cfg G 282 [.fz (zbq l) 1 f,.int .i64 (size:Int)] (.tup [.int .u64 0,.nils,.int .i64 10]):=by
 have e:=zdq l;refine gI 12 Y (λR k0=>?_);refine gD 0 Y (λh1=>?_) (λh1=>?_)
 ·exfalso;omega
 refine gU 2 Y ?_;refine gS 4 Y (λh2=>?_) (λh2=>?_)
 ·exfalso;omega
 refine gV (w':=.int .i64 (l.length:Int)) 3 Y Xw (gU 1 Y ?_);refine gS 3 Y (λh3=>?_) (λh3=>?_)
 ·first|exact gQa 10 Y|(exfalso;omega)
 ·exfalso;omega
theorem kSq(l:List UInt8)(f:Bool)(size:Nat)(hs:1<=size)(hs8:size<=8)(hl:size<=l.length)(hb:l.length<=70368744177664):PS cfg G 282 [.fz (zbq l) 1 f,.int .i64 (size:Int)] (.tup [.int .u64 (numB (l.take size):Nat),bW (l.drop size),.int .i64 0]):=by
 have e:=zdq l;have el:(l.take size).length=size:=by simp;omega
 refine gI 12 Y (λR k0=>?_);refine gD 0 Y (λh1=>?_) (λh1=>?_)
 ·exfalso;omega
 refine gU 2 Y ?_;refine gS 4 Y (λh2=>?_) (λh2=>?_)
 ·exfalso;omega
 refine gV (w':=.int .i64 (l.length:Int)) 3 Y Xw (gU 1 Y ?_);refine gS 3 Y (λh3=>?_) (λh3=>?_)
 ·exfalso;omega
 refine gP 9 Y (cut_fz3 (ys:=zbq (l.take size)) (l:=0) (h:=size) (m:=size) Y Y Y Y Y Y Y Y (Nat.zero_le _) (Nat.le_refl _) Xd hs (by rw[List.drop_zero,Nat.sub_zero,ZVq]) rfl) (gV (w':=.int .i64 (size:Int)) 0 Y (by show W.int .i64 ((zbq (l.take size)).length:Int)=_;rw[zdq,el]) ?_);refine gLo (α:=Nat) 4 (λi=>i<=size) (λi=>[(26,.int .i64 (i:Int)),(4,.int .u64 (numB (l.take i):Nat))]) [0,1,5,6,24,25] (λi=>size-i) (0) rfl (Nat.zero_le _) (λi hI=>?_);refine gS 6 Y (λh4=>?_) (λh4=>?_)
 ·have hi:i<size:=by omega
  obtain⟨c,hc⟩:∃c,l[i]? =some c:=⟨_,List.getElem?_eq_getElem Xd⟩
  have hc2:(l.take size)[i]? =some c:=by rw[List.getElem?_take,if_pos hi];exact hc
  have hcl:=c.toNat_lt;have hn:=vrq (l:=l) (i:=i) Xd;exact gP 6 Y (zrq (i:=i) Y Y Y Y Y Y Y (koq hc2)) (gA 6 Y (256*numB (l.take i)) (e:=(shl8 _)) (gA 1 Y (c.toNat) (gV (w':=.int .u64 (numB (l.take (i+1)):Nat)) 0 Y (congrArg (λn:Nat=>W.int .u64 (n:Int)) ((or_low _ _ hn hcl).trans (numB_take hc).symm)) (gA 5 Y (i+1) (gAg 2 Y (i+1) (hi) Xd)))))
 ·have:i=size:=by omega
  subst this;exact gO 2 Y (gP 7 Y (cut_fz (ys:=zbq (l.drop i)) (l:=i) (h:=(zbq l).length) Y Y Y Y Y Y Y Xd (Nat.le_refl _) (by rw[List.take_of_length_le Xj,ZWq]) rfl) (gC 0 Y (ZPq _ _ (by first|assumption|(simp;omega))) (gQa 6 Y)))
structure Acct where
 nonce:Nat
 balance:Nat
 deriving DecidableEq
def Acct.zero:Acct:=⟨0,0⟩
noncomputable def aW(a:Acct):W:=.agg 2 [.int .u64 (a.nonce:Int),.int .u64 (a.balance:Int)]
@[simp] theorem aW_pur(a:Acct):purW (aW a)=true:=rfl
def bytesA(a:Acct):List UInt8:=beB 8 a.nonce++beB 8 a.balance
def qtq(l:List UInt8):Acct×Nat:=if l.length<16 then(.zero,10) else if 16<l.length then(.zero,11) else
 if (⟨numB (l.take 8),numB (l.drop 8)⟩:Acct)= .zero then(.zero,8) else(⟨numB (l.take 8),numB (l.drop 8)⟩,0)
theorem eq_acct(a b:Acct):eqW cfg 300 96 (aW a) (aW b)=some (decide (a=b)):=by
 have e:decide (a=b)=(decide ((a.nonce:Int)=b.nonce)&&(decide ((a.balance:Int)=b.balance)&&true)):=by
  cases a;cases b
  simp only[Acct.mk.injEq,Bool.and_true];rw[Bool.eq_iff_iff];simp only[decide_eq_true_eq,Bool.and_eq_true];omega
 rw[e];exact xmq Y Y Y Y (yrq Y Y Y (kmq Y Y) (yrq Y Y Y (kmq Y Y) uFq))
theorem aread_s(l:List UInt8)(f:Bool)(hb:l.length<=70368744177664):PS cfg G 204 [.fz (zbq l) 1 f] (.tup [aW (qtq l).1,.int .i64 ((qtq l).2:Nat)]):=by
 by_cases q1:l.length<8
 ·have e:qtq l=(.zero,10):=by unfold qtq;rw[if_pos Xd]
  rw[e];exact gI 15 Y (λR k0=>gC 0 Y (kaq _ _ 8 Xd Xd q1) (gQa 27 Y))
 have q2:(l.drop 8).length=l.length-8:=by simp
 by_cases q3:l.length<16
 ·have e:qtq l=(.zero,10):=by unfold qtq;rw[if_pos q3]
  rw[e];refine gI 15 Y (λR k0=>?_);first|(first|refine jiq Y Y Y Y Y Y (kSq l _ 8 Xd Xd Xd hb) ?_|refine jiq Y Y Y Y Y Y (kaq (l.drop 8) _ 8 Xd Xd Xd) ?_)|refine jiq Y Y Y Y Y Y (kSq _ _ 8 Xd Xd Xd hb) ?_|refine jiq Y Y Y Y Y Y (kaq _ _ 8 Xd Xd q1) ?_
  refine zAq 23 Y ?_;first|(first|refine jiq Y Y Y Y Y Y (kSq l _ 8 Xd Xd Xd hb) ?_|refine jiq Y Y Y Y Y Y (kaq (l.drop 8) _ 8 Xd Xd Xd) ?_)|refine jiq Y Y Y Y Y Y (kSq _ _ 8 Xd Xd Xd hb) ?_|refine jiq Y Y Y Y Y Y (kaq _ _ 8 Xd Xd q1) ?_
  exact zAq 27 Y (gQa 0 Y)
 have e3:(l.drop 8).drop 8=[]↔l.length=16:=by rw[List.drop_drop,List.drop_eq_nil_iff];omega
 by_cases q4:16<l.length
 ·have e:qtq l=(.zero,11):=by unfold qtq;rw[if_neg q3,if_pos q4]
  have e4:¬(l.drop 8).drop 8=[]:=λh=>by have:=e3.1 h;omega
  rw[e];refine gI 15 Y (λR k0=>?_)
  (first|refine jiq Y Y Y Y Y Y (kSq l _ 8 Xd Xd Xd hb) ?_|refine jiq Y Y Y Y Y Y (kSq (l.drop 8) _ 8 Xd Xd Xd Xd) ?_)
  refine zAq 23 Y ?_
  (first|refine jiq Y Y Y Y Y Y (kSq l _ 8 Xd Xd Xd hb) ?_|refine jiq Y Y Y Y Y Y (kSq (l.drop 8) _ 8 Xd Xd Xd Xd) ?_)
  exact zAq 24 Y (jiq Y Y Y Y Y Y (zOq (w':=.int .i64 11) (end_s _ _) (by rw[if_neg e4])) (op_cz Y Y (zAq 14 Y (gQa 0 Y))))
 ·have e4:(l.drop 8).drop 8=[]:=e3.2 Xd;have e5:(l.drop 8).take 8=l.drop 8:=List.take_of_length_le Xd;refine gI 15 Y (λR k0=>?_)
  (first|refine jiq Y Y Y Y Y Y (kSq l _ 8 Xd Xd Xd hb) ?_|refine jiq Y Y Y Y Y Y (kSq (l.drop 8) _ 8 Xd Xd Xd Xd) ?_)
  refine zAq 23 Y ?_
  (first|refine jiq Y Y Y Y Y Y (kSq l _ 8 Xd Xd Xd hb) ?_|refine jiq Y Y Y Y Y Y (kSq (l.drop 8) _ 8 Xd Xd Xd Xd) ?_)
  refine zAq 24 Y (jiq Y Y Y Y Y Y (zOq (w':=.int .i64 0) (end_s _ _) (by rw[if_pos e4])) (op_cz Y Y (zAq 8 Y (gP 0 Y (ysq Y Y Y Y (eq_acct ⟨numB (l.take 8),numB ((l.drop 8).take 8)⟩ .zero)) ?_))));refine gS 3 Y (λh1=>?_) (λh1=>?_)
  ·refine zeq 10 Y ?_
   have e:qtq l=(.zero,8):=by
    rw[e5] at h1;unfold qtq;rw[if_neg q3,if_neg q4,if_pos h1]
   rw[e];exact gQa 0 Y
  ·refine zeq 11 Y ?_
   have e:qtq l=(⟨numB (l.take 8),numB (l.drop 8)⟩,0):=by
    rw[e5] at h1;unfold qtq;rw[if_neg q3,if_neg q4,if_neg h1]
   rw[e];exact gQ 0 Y (by rw[e5];rfl)
end
end
abbrev Pr:=Dig×List UInt8
inductive T where
 |nil
 |leaf (k:Dig) (v:List UInt8)
 |fork (l r:T)
 deriving Inhabited
def T.all:T->List Pr
 |.nil=>[]
 |.leaf k v=>[(k,v)]
 |.fork l r=>l.all++r.all
def T.isFork:T->Bool
 |.fork _ _=>true
 |_=>false
def T.non:T->Bool
 |.nil=>false
 |_=>true
def T.two(l r:T):Bool:=l.isFork||r.isFork||(l.non&&r.non)
def T.ok:Nat->Dig->T->Bool
 |_,_,.nil=>true
 |d,b,.leaf k _=>decide (d<=ykq k b)
 |d,b,.fork l r=>decide (d<256)&&T.ok (d+1) b l&&T.ok (d+1) (qsq b d) r&&T.two l r
def T.find(k:Dig):Nat->T->Option (List UInt8)
 |_,.nil=>none
 |_,.leaf k' v=>if k'=k then some v else none
 |d,.fork l r=>if bitN k d=0 then l.find k (d+1) else r.find k (d+1)
def Srt(l:List Pr):Prop:=l.Pairwise λa b=>j2q a.1 b.1=true
def withL(l:List Pr)(k:Dig)(v:List UInt8):List Pr:=l.filter (λp=>j2q p.1 k)++(k,v)::l.filter (λp=>j2q k p.1)
def withoutL(l:List Pr)(k:Dig):List Pr:=l.filter λp=>decide (p.1≠k)
def uDq(l:List Pr)(k:Dig):Option (List UInt8):=(l.find? λp=>decide (p.1=k)).map (·.2)
theorem srt_uniq{l:List Pr}(h:Srt l){p q:Pr}(hp:p∈l)(hq:q∈l)(e:p.1=q.1):p=q:=by
 induction l with
 |nil=>simp at hp
 |cons x l ih=>
  have h:=List.pairwise_cons.1 h;simp only[List.mem_cons] at hp hq;rcases hp with rfl|hp<;>rcases hq with rfl|hq
  ·rfl
  ·exact absurd e (uPq (h.1 q hq))
  ·exact absurd e.symm (uPq (h.1 p hp))
  ·exact ih h.2 hp hq
theorem findL_some{l:List Pr}(h:Srt l){k:Dig}{v:List UInt8}:uDq l k=some v↔(k,v)∈l:=by
 simp only[uDq,Option.map_eq_some_iff];constructor
 ·rintro⟨⟨k',v'⟩,h1,rfl⟩;have h2:=List.find?_some h1;have:=List.mem_of_find?_eq_some h1;simp only[decide_eq_true_eq] at h2;subst h2;exact this
 ·intro hm;cases hf:l.find? λp=>decide (p.1=k) with
  |none=>
   have:=List.find?_eq_none.1 hf _ hm;simp at this
  |some p=>
   have h2:=List.find?_some hf;have h3:=List.mem_of_find?_eq_some hf;simp only[decide_eq_true_eq] at h2;have:=srt_uniq h h3 hm h2;exact⟨p,rfl,by rw[this]⟩
theorem mem_withL{l:List Pr}{k:Dig}{v:List UInt8}{p:Pr}:p∈withL l k v↔p=(k,v)\/(p∈l/\p.1≠k):=by
 simp only[withL,List.mem_append,List.mem_filter,List.mem_cons];constructor
 ·rintro(⟨h1,h2⟩|rfl|⟨h1,h2⟩)
  ·exact .inr ⟨h1,uPq h2⟩
  ·exact .inl rfl
  ·exact .inr ⟨h1,λe=>uPq h2 e.symm⟩
 ·rintro(rfl|⟨h1,h2⟩)
  ·exact .inr (.inl rfl)
  ·rcases ahead_total h2 with h|h
   ·exact .inl ⟨h1,h⟩
   ·exact .inr (.inr ⟨h1,h⟩)
def Zr(d:Nat)(b:Dig):Prop:=∀j,d<=j->j<256->bitN b j=0
theorem k0q{d:Nat}{b:Dig}(h:Zr d b):Zr (d+1) b:=λj h1 h2=>h j Xd h2
theorem kZq{d:Nat}{b:Dig}(h:Zr d b)(hd:d<256):Zr (d+1) (qsq b d):=λj h1 h2=>by rw[ZZq b d j hd h2 Xd];exact h j Xd h2
theorem YNq:Zr 0 yjq:=λj _ hj=>by
 unfold bitN
 have:kn yjq (j/8)=0:=by
  unfold kn yjq;simp only[List.getElem?_replicate];split<;>rfl
 rw[this];simp
theorem turn_pre{b:Dig}{d:Nat}(hd:d<256){j:Nat}(hj:j<d):bitN (qsq b d) j=bitN b j:=ZZq b d j hd Xd Xd
theorem side_l{b k:Dig}{d:Nat}(hz:Zr d b)(hd:d<256)(h:d+1<=ykq k b):d<=ykq k b/\bitN k d=0:=
 ⟨by omega,by rw[(k7q Xd).1 h d Xd];exact hz d (Nat.le_refl _) hd⟩
theorem side_r{b k:Dig}{d:Nat}(hz:Zr d b)(hd:d<256)(h:d+1<=ykq k (qsq b d)):d<=ykq k b/\bitN k d=1:=by
 have h1:=(k7q Xd).1 h;refine⟨(k7q Xd).2 λj hj=>?_,?_⟩
 ·rw[h1 j Xd,turn_pre hd hj]
 ·rw[h1 d Xd,bit_turn_eq b d hd,hz d (Nat.le_refl _) hd]
theorem ok_fork{d:Nat}{b:Dig}{l r:T}:T.ok d b (.fork l r)=true↔d<256/\T.ok (d+1) b l=true/\T.ok (d+1) (qsq b d) r=true/\T.two l r=true:=by
 simp only[T.ok,Bool.and_eq_true,decide_eq_true_eq,and_assoc]
theorem u7q:∀{t:T} {d:Nat} {b:Dig},Zr d b->t.ok d b=true->∀p∈t.all,d<=ykq p.1 b
 |.nil,_,_,_,_,p,hp=>by simp[T.all] at hp
 |.leaf k v,d,b,_,h,p,hp=>by
  simp only[T.all,List.mem_singleton] at hp;subst hp;exact of_decide_eq_true h
 |.fork l r,d,b,hz,h,p,hp=>by
  obtain⟨hd,h1,h2,_⟩:=ok_fork.1 h;simp only[T.all,List.mem_append] at hp;rcases hp with hp|hp
  ·exact(side_l hz hd (u7q (k0q hz) h1 p hp)).1
  ·exact(side_r hz hd (u7q (kZq hz hd) h2 p hp)).1
theorem ok_bits{l r:T}{d:Nat}{b:Dig}(hz:Zr d b)(h:(T.fork l r).ok d b=true):(∀p∈l.all,bitN p.1 d=0)/\∀p∈r.all,bitN p.1 d=1:=by
 obtain⟨hd,h1,h2,_⟩:=ok_fork.1 h;exact⟨λp hp=>(side_l hz hd (u7q (k0q hz) h1 p hp)).2,λp hp=>(side_r hz hd (u7q (kZq hz hd) h2 p hp)).2⟩
theorem ahead_of{a b c:Dig}{d:Nat}(hd:d<256)(ha:d<=ykq a c)(hb:d<=ykq b c)(h0:bitN a d=0)(h1:bitN b d=1):j2q a b=true:=
 ahead_iff.2 ⟨d,hd,λj hj=>by rw[(k7q Xd).1 ha j hj,(k7q Xd).1 hb j hj],h0,h1⟩
theorem ok_srt:∀{t:T} {d:Nat} {b:Dig},Zr d b->t.ok d b=true->Srt t.all
 |.nil,_,_,_,_=>List.Pairwise.nil
 |.leaf k v,_,_,_,_=>List.pairwise_singleton _ _
 |.fork l r,d,b,hz,h=>by
  obtain⟨hd,h1,h2,_⟩:=ok_fork.1 h;refine List.pairwise_append.2 ⟨ok_srt (k0q hz) h1,ok_srt (kZq hz hd) h2,λp hp q hq=>?_⟩;have a1:=side_l hz hd (u7q (k0q hz) h1 p hp);have a2:=side_r hz hd (u7q (kZq hz hd) h2 q hq);exact ahead_of hd a1.1 a2.1 a1.2 a2.2
theorem uCq(k:Dig):∀{t:T} {d:Nat} {b:Dig},Zr d b->t.ok d b=true->t.find k d=uDq t.all k
 |.nil,_,_,_,_=>rfl
 |.leaf k' v,_,_,_,_=>by
  simp only[T.find,T.all,uDq,List.find?_cons,List.find?_nil];by_cases e:k'=k<;>simp[e]
 |.fork l r,d,b,hz,h=>by
  obtain⟨hd,h1,h2,_⟩:=ok_fork.1 h;obtain⟨k1,k2⟩:=ok_bits hz h;have i1:=uCq k (k0q hz) h1;have i2:=uCq k (kZq hz hd) h2;simp only[T.find,T.all,uDq,List.find?_append];simp only[uDq] at i1 i2;split
  ·rename_i hb
   have:r.all.find? (λp=>decide (p.1=k))=none:=List.find?_eq_none.2 λp hp e=>by
    have:=k2 p hp;rw[of_decide_eq_true e] at this;omega
   rw[this,Option.or_none,i1]
  ·rename_i hb
   have:l.all.find? (λp=>decide (p.1=k))=none:=List.find?_eq_none.2 λp hp e=>by
    have:=k1 p hp;rw[of_decide_eq_true e] at this;omega
   rw[this,Option.none_or,i2]
section
open Go.RowKit
section
attribute [local irreducible] CoW OpW FlW Step Spec
variable {G:Nat->Option W}
noncomputable def pW(x:Pr):W:=.agg 33 [dW x.1,bW x.2]
@[simp] theorem pW_pur(x:Pr):purW (pW x)=true:=by simp[pW]
structure Node where
 leaf:Bool
 key:Dig
 val:List UInt8
 left:Int
 right:Int
noncomputable def nW(x:Node):W:=.agg 36 [.bool x.leaf,dW x.key,bW x.val,.int .i64 x.left,.int .i64 x.right]
@[simp] theorem nW_pur(x:Node):purW (nW x)=true:=by simp[nW]
theorem tbit_s(k:Dig)(d:Nat)(h:d<256):PS cfg G 273 [dW k,.int .i64 (d:Int)] (.int .u8 (bitN k d:Nat)):=by
 refine gI 10 Y (λR k0=>gC 0 Y (bit_in _ _ Xd) ?_);first|exact gQa 14 Y|(exfalso;omega)
theorem jDq(x:Node):PS cfg G 191 [nW x] (.arr 2 1 [.int .i64 x.left,.int .i64 x.right]):=by
 refine gI 17 Y (λR k0=>?_);first|exact gQa 0 Y|(exfalso;omega)
def valB(l:List UInt8):Bool:=decide (0<l.length)&&decide (l.length<=64)
theorem value_s(l:List UInt8)(f:Bool):PS cfg G 193 [.fz (zbq l) 1 f] (.bool (valB l)):=by
 have e:=zdq l;refine gI 8 Y (λR k0=>gV (w':=.int .i64 (l.length:Int)) 0 Y Xw ?_);refine gD 0 Y (λh1=>?_) (λh1=>?_)
 ·refine gV (w':=.int .i64 (l.length:Int)) 2 Y Xw (gU 0 Y (zeq 5 Y ?_));have h0:0<l.length:=by omega
  exact gQ 0 Y (by unfold valB;congr 1;rw[decide_eq_true h0,Bool.true_and,decide_eq_decide];omega)
 ·refine zeq 9 Y ?_;have h0:¬0<l.length:=by omega
  exact gQ 0 Y (by unfold valB;rw[decide_eq_false h0];rfl)
def okAt(ps:List Pr)(i:Nat):Prop:=∀x,ps[i]? =some x->valB x.2=true/\∀y,0<i->ps[i-1]? =some y->j2q y.1 x.1=true
def MayP(ps:List Pr):Prop:=ps.length<=512/\∀i,i<ps.length->okAt ps i
noncomputable instance(ps:List Pr):Decidable (MayP ps):=Classical.propDecidable _
theorem jpq(ps:List Pr):purL (ps.map pW)=true:=yZq pW_pur ps
@[simp] theorem psW_pur'(ps:List Pr):purL (ps.map pW)=true:=jpq ps
theorem pcheck_s(ps:List Pr)(f:Bool)(hb:ps.length<=9223372036854775807):PS cfg G 102 [.fz (ps.map pW) 33 f] (.int .i64 (if MayP ps then 0 else 8)):=by
 have e:(ps.map pW).length=ps.length:=List.length_map _;refine gI 9 Y (λR k0=>gV (w':=.int .i64 (ps.length:Int)) 0 Y Xw ?_);refine gS 3 Y (λh1=>?_) (λh1=>?_)
 ·exact gQ 7 Y (by rw[if_neg λh:MayP ps=>by have:=h.1;omega])
 ·refine gV (w':=.int .i64 (ps.length:Int)) 6 Y Xw ?_;refine gLo (α:=Nat) 4 (λi=>i<=ps.length/\∀j,j<i->okAt ps j) (λi=>[(10,.int .i64 (i:Int))]) [0,2,8,9] (λi=>ps.length-i) (0) rfl (⟨Nat.zero_le _,λj hj=>by omega⟩) (λi hI=>?_);obtain⟨hi,hI⟩:=hI;refine gS 6 Y (λh2=>?_) (λh2=>?_)
  ·have hi':i<ps.length:=by omega
   obtain⟨x,hx⟩:∃x,ps[i]? =some x:=⟨_,List.getElem?_eq_getElem hi'⟩
   refine gP 7 Y (zrq (i:=i) Y Y Y Y Y Y Y (zoq pW hx)) (gC 10 Y (value_s _ _) ?_);refine gB 0 Y (λh3=>?_) (λh3=>?_)
   ·refine gD 3 Y (λh4=>?_) (λh4=>?_)
    ·refine gA 3 Y (i-1) ?_;refine gP 0 Y (zrq (i:=i-1) Y Y Y Y Y Y Y (zoq pW (List.getElem?_eq_getElem Xd))) ?_;refine gC 4 Y (ahead_s _ _) ?_;refine gS 5 Y (λh5=>?_) (λh5=>?_)
     ·refine gO 8 Y (zeq 2 Y ?_)
      have no:¬MayP ps:=λh=>by
       have:=(h.2 i hi' x hx).2 _ Xd (List.getElem?_eq_getElem Xd);rw[this] at h5;simp at h5
      exact gQ 0 Y (by rw[if_neg no])
     ·have ok:okAt ps i:=λx' hx'=>by
       obtain rfl:=Option.some.inj (hx.symm.trans hx');refine⟨h3,λy h0 hy=>?_⟩;obtain rfl:=Option.some.inj ((List.getElem?_eq_getElem (show i-1<ps.length by omega)).symm.trans hy);simpa using h5
      refine gA 4 Y (i+1) ?_;exact gAg 2 Y (i+1) (⟨hi',λj hj=>by rcases Nat.lt_succ_iff_lt_or_eq.1 hj with h|rfl<;>first|exact hI j h|exact ok⟩) Xd
    ·have ok:okAt ps i:=λx' hx'=>by
      obtain rfl:=Option.some.inj (hx.symm.trans hx');exact⟨h3,λy h0 hy=>by omega⟩
     refine gA 20 Y (i+1) ?_;exact gAg 2 Y (i+1) (⟨hi',λj hj=>by rcases Nat.lt_succ_iff_lt_or_eq.1 hj with h|rfl<;>first|exact hI j h|exact ok⟩) Xd
   ·exact gO 28 Y (gQ 2 Y (by rw[if_neg λh:MayP ps=>h3 (h.2 i hi' x hx).1]))
  ·refine gO 2 Y (zeq 8 Y ?_);have yes:MayP ps:=⟨by omega,λj hj=>hI j Xd⟩;exact gQ 0 Y Qp
def oneB(x:Node)(n:Nat):Prop:=if x.leaf then x.left=0/\x.right=0/\MayP [(x.key,x.val)] else(0<=x.left/\x.left<=n)/\(0<=x.right/\x.right<=n)/\x.key=yjq/\x.val=[]/\0<x.left+x.right
noncomputable instance(x:Node)(n:Nat):Decidable (oneB x n):=Classical.propDecidable _
theorem one_s(x:Node)(n:Nat)(hn:n<=4611686018427387903):PS cfg G 195 [nW x,.int .i64 (n:Int)] (.bool (decide (oneB x n))):=by
 refine gI 13 Y (λR k0=>?_);refine gS 0 Y (λh1=>?_) (λh1=>?_)
 ·refine gD 4 Y (λh2=>?_) (λh2=>?_)
  ·refine gD 3 Y (λh3=>?_) (λh3=>?_)
   ·refine zeq 8 Y ?_;refine Ybq Y Y Y Y Y (by(repeat (first|exact .nil|refine .cons ?_ ?_|(refine .sl Y ?_ rfl Xh;first|rfl|(focus (simp;done)))|(refine yPq Y ?_ rfl;first|rfl|(focus (simp;done)))|(refine .pur ?_;first|rfl|(focus (simp;done)))))) (pcheck_s [(x.key,x.val)] false Xj) Xk Xk ?_;refine op_cz Y Y ?_;refine zAq 6 Y ?_;refine gQ 0 Y ?_;congr 1
    rw[decide_eq_decide,oneB,if_pos h1];split
    ·rename_i h;exact⟨λ_=>⟨h2,h3,h⟩,λ_=>rfl⟩
    ·rename_i h;exact⟨λh=>by omega,λq=>absurd q.2.2 h⟩
   ·exact gQ 16 Y (by rw[decide_eq_false];intro h;rw[oneB,if_pos h1] at h;exact h3 h.2.1)
  ·exact gQ 20 Y (by rw[decide_eq_false];intro h;rw[oneB,if_pos h1] at h;exact h2 h.1)
 ·refine gC 6 Y (jDq _) ?_;refine gLo (α:=Nat) 4 (λi=>i<=2/\(0<i->0<=x.left/\x.left<=n)/\(1<i->0<=x.right/\x.right<=n)) (λi=>[(29,.int .i64 (i:Int))]) [1,2,4,28] (λi=>2-i) (0) rfl (⟨by omega,by omega,by omega⟩) (λi hI=>?_);obtain⟨hi,hl,hr⟩:=hI;refine gS 6 Y (λh2=>?_) (λh2=>?_)
  ·have hi':i=0\/i=1:=by omega
   rcases hi' with rfl|rfl
   ·skip
    refine gD 13 Y (λh3=>?_) (λh3=>?_)
    ·refine gO 16 Y ?_;exact gQ 2 Y Yp
    ·refine gU 3 Y ?_;refine gS 3 Y (λh4=>?_) (λh4=>?_)
     ·refine gO 8 Y ?_;exact gQ 2 Y Yp
     ·refine gA 4 Y (1) ?_;exact gAg 2 Y (1) (⟨by omega,by omega,by omega⟩) Xd
   ·refine gD 13 Y (λh3=>?_) (λh3=>?_)
    ·refine gO 16 Y ?_;exact gQ 2 Y Yp
    ·refine gU 3 Y ?_;refine gS 3 Y (λh4=>?_) (λh4=>?_)
     ·refine gO 8 Y ?_;exact gQ 2 Y Yp
     ·refine gA 4 Y (2) ?_;exact gAg 2 Y (2) (⟨by omega,by omega,by omega⟩) Xd
  ·have e:=zdq x.val;have hl:=hl Xd;have hr:=hr Xd;have key:oneB x n↔(x.key=yjq/\x.val=[]/\0<x.left+x.right):=by rw[oneB,if_neg h1];exact⟨λh=>h.2.2,λh=>⟨hl,hr,h⟩⟩
   rw[show decide (oneB x n)=decide (x.key=yjq/\x.val=[]/\0<x.left+x.right) from decide_eq_decide.2 key];refine gO 2 Y ?_;refine gV 6 Y jMq ?_;refine gDe 0 Y (ysq Y Y Y Y (yBq Y Y Y Y Y Y _ _ 250)) z8q (λh3=>?_) (λh3=>?_)
   ·refine gV (w':=.int .i64 (x.val.length:Int)) 3 Y Xw ?_;refine gD 0 Y (λh4=>?_) (λh4=>?_)
    ·have hv:x.val=[]:=List.eq_nil_of_length_eq_zero Xd;refine gWr 6 Y ?_;refine gU 0 Y ?_;refine gQ 5 Y ?_;congr 1
     rw[decide_eq_decide];exact⟨λh=>⟨h3,hv,h⟩,λh=>h.2.2⟩
    ·have hv:x.val≠[]:=λh=>h4 (by rw[h];rfl)
     exact gQ 13 Y (by rw[decide_eq_false λh=>hv h.2.1])
   ·exact gQ 18 Y (by rw[decide_eq_false λh=>h3 h.1])
inductive Rep(ns:List Node):Nat->T->Prop where
 |nil:Rep ns 0 .nil
 |leaf {n:Nat} {k:Dig} {v:List UInt8} {l r:Int} (h:ns[n]? =some ⟨true,k,v,l,r⟩):Rep ns (n+1) (.leaf k v)
 |fork {n l r:Nat} {k:Dig} {v:List UInt8} {L R:T} (h:ns[n]? =some ⟨false,k,v,l,r⟩) (hl:l<=n) (hr:r<=n) (hL:Rep ns l L) (hR:Rep ns r R):Rep ns (n+1) (.fork L R)
theorem Rep.le{ns:List Node}{n:Nat}{t:T}(h:Rep ns n t):n<=ns.length:=by
 cases h with
 |nil=>exact Nat.zero_le _
 |leaf h=>exact(List.getElem?_eq_some_iff.1 h).1
 |fork h=>exact(List.getElem?_eq_some_iff.1 h).1
theorem Rep.non{ns:List Node}{n:Nat}{t:T}(h:Rep ns n t):t.non=decide (0<n):=by cases h<;>simp[T.non]
structure Tree where
 nodes:List Node
 root:Int
noncomputable def tW(t:Tree):W:=.agg 2 [.fz (t.nodes.map nW) 36 false,.int .i64 t.root]
theorem Qgq(ns:List Node):purL (ns.map nW)=true:=yZq nW_pur ns
@[simp] theorem tW_pur(t:Tree):purW (tW t)=true:=by simp[tW,Qgq]
def nnI(t:T):Int:=if t.non then 1 else 0
theorem right_s(t0:Tree)(hb:t0.nodes.length<=4611686018427387903):∀(t:T) (n d:Nat) (b:Dig),Rep t0.nodes n t->d<=256->PS cfg G 244 [tW t0,.int .i64 (n:Int),.int .i64 (d:Int),dW b] (.tup [.bool (t.ok d b),.bool (t.ok d b&&t.isFork)]):=by
 intro t;induction t with
 |nil=>
  intro n d b hr hd;obtain rfl:n=0:=by cases hr;rfl
  refine gI 15 Y (λR k0=>?_);refine gS 0 Y (λh1=>?_) (λh1=>?_)
  ·exact gQa 8 Y
  ·exfalso;omega
 |leaf k v=>
  intro n d b hr hd;have hle:=hr.le;cases hr with
  |leaf h=>
  rename_i n l r;refine gI 15 Y (λR k0=>?_);refine gS 0 Y (λh1=>?_) (λh1=>?_)
  ·exfalso;omega
  ·refine gA 7 Y (n) ?_;refine gP 0 Y (zrq (i:=n) Y Y Y Y Y Y Y (zoq nW h)) ?_;refine gC 18 Y (shared_s _ _) ?_;refine gU 1 Y ?_;refine gQ 6 Y ?_;simp only[T.ok,T.isFork,Bool.and_false];congr 3
   rw[decide_eq_decide];omega
 | fork tl tr ihL ihR=>
  intro n d b hr hd;have hle:=hr.le;cases hr with
  |fork h hl hr hL hR=>
  rename_i n l r k v;refine gI 15 Y (λR k0=>?_);refine gS 0 Y (λh1=>?_) (λh1=>?_)
  ·exfalso;omega
  ·refine gA 7 Y (n) ?_;refine gP 0 Y (zrq (i:=n) Y Y Y Y Y Y Y (zoq nW h)) ?_;refine gS 22 Y (λh2=>?_) (λh2=>?_)
   ·refine zeq 8 Y ?_;have e:T.ok d b (.fork tl tr)=false:=by simp only[T.ok];rw[decide_eq_false Xd];rfl
    rw[e];exact gQa 0 Y
   ·have hd':d<256:=by omega
    have nl:=hL.non;have nr:=hR.non;refine gC 6 Y (turn_in _ _ Xd) ?_;refine gV (w':=.arr 64 32 [dW b,dW (qsq b d)]) 18 Y Y ?_;refine gLo (α:=Nat×Int×Bool) 4 (λp=>(p.1=0/\p.2.1=0/\p.2.2=false)\/(p.1=1/\tl.ok (d+1) b=true/\p.2.1=nnI tl/\p.2.2=tl.isFork)\/(p.1=2/\tl.ok (d+1) b=true/\tr.ok (d+1) (qsq b d)=true/\p.2.1=nnI tl+nnI tr/\p.2.2=(tl.isFork||tr.isFork))) (λp=>[(46,.int .i64 (p.1:Int)),(13,.int .i64 p.2.1),(9,.bool p.2.2)]) [2,4,8,10,45] (λp=>2-p.1) ((0,0,false)) rfl (.inl ⟨rfl,rfl,rfl⟩) (λp hI=>?_);obtain⟨i,c,w⟩:=p;simp only at hI⊢;rcases hI with ⟨rfl,rfl,rfl⟩|⟨rfl,k1,rfl,rfl⟩|⟨rfl,k1,k2,rfl,rfl⟩
    ·skip
     skip
     refine gC 23 Y (jDq _) ?_;refine gA 10 Y (d+1) ?_;refine gC 1 Y (ihL _ (d+1) b hL Xd) ?_;refine gS 14 Y (λh3=>?_) (λh3=>?_)
     ·refine gO 10 Y ?_;refine zeq 2 Y ?_;have e:T.ok d b (.fork tl tr)=false:=by simp only[T.ok];rw[show tl.ok (d+1) b=false by simpa using h3];simp
      rw[e];exact gQa 0 Y
     ·have hk:tl.ok (d+1) b=true:=by simpa using h3
      refine gS 9 Y (λh4=>?_) (λh4=>?_)
      ·have hn:nnI tl=1:=by have h4:(0:Int)<l:=h4;unfold nnI;rw[nl,if_pos (decide_eq_true Xd)]
       refine gWr 2 Y ?_;refine gA 13 Y (1) ?_;exact gAg 2 Y ((1,1,tl.ok (d+1) b&&tl.isFork)) (.inr (.inl ⟨rfl,hk,hn.symm,by rw[hk];rfl⟩)) Xj
      ·have hn:nnI tl=0:=by have h4:¬(0:Int)<l:=h4;unfold nnI;rw[nl,if_neg Xo]
       refine gA 12 Y (1) ?_;exact gAg 2 Y ((1,0,tl.ok (d+1) b&&tl.isFork)) (.inr (.inl ⟨rfl,hk,hn.symm,by rw[hk];rfl⟩)) Xj
    ·skip
     have bd:nnI tl=0\/nnI tl=1:=by unfold nnI;split<;>simp
     cases hf:tl.isFork with
     |true=>
      skip
      refine z1q 23 Y ?_;refine gC 0 Y (jDq _) ?_;refine gA 10 Y (d+1) ?_;refine gC 1 Y (ihR _ (d+1) (qsq b d) hR Xd) ?_;refine gS 14 Y (λh3=>?_) (λh3=>?_)
      ·refine gO 10 Y ?_;refine zeq 2 Y ?_;have e:T.ok d b (.fork tl tr)=false:=by simp only[T.ok];rw[show tr.ok (d+1) (qsq b d)=false by simpa using h3];simp
       rw[e];exact gQa 0 Y
      ·have hk:tr.ok (d+1) (qsq b d)=true:=by simpa using h3
       refine gS 9 Y (λh4=>?_) (λh4=>?_)
       ·have hn:nnI tr=1:=by have h4:(0:Int)<r:=h4;unfold nnI;rw[nr,if_pos (decide_eq_true Xd)]
        refine gWr 2 Y ?_;refine gA 13 Y (2) ?_;exact gAg 2 Y ((2,nnI tl+1,true)) (.inr (.inr ⟨rfl,k1,hk,by simp only[hn],rfl⟩)) Xj
       ·have hn:nnI tr=0:=by have h4:¬(0:Int)<r:=h4;unfold nnI;rw[nr,if_neg Xo]
        refine gA 12 Y (2) ?_;exact gAg 2 Y ((2,nnI tl,true)) (.inr (.inr ⟨rfl,k1,hk,by simp only[hn,Int.add_zero],rfl⟩)) Xj
     |false=>
      skip
      refine z1q 23 Y ?_;refine gC 0 Y (jDq _) ?_;refine gA 10 Y (d+1) ?_;refine gC 1 Y (ihR _ (d+1) (qsq b d) hR Xd) ?_;refine gS 14 Y (λh3=>?_) (λh3=>?_)
      ·refine gO 10 Y ?_;refine zeq 2 Y ?_;have e:T.ok d b (.fork tl tr)=false:=by simp only[T.ok];rw[show tr.ok (d+1) (qsq b d)=false by simpa using h3];simp
       rw[e];exact gQa 0 Y
      ·have hk:tr.ok (d+1) (qsq b d)=true:=by simpa using h3
       refine gS 9 Y (λh4=>?_) (λh4=>?_)
       ·have hn:nnI tr=1:=by have h4:(0:Int)<r:=h4;unfold nnI;rw[nr,if_pos (decide_eq_true Xd)]
        refine gWr 2 Y ?_;refine gA 13 Y (2) ?_;exact gAg 2 Y ((2,nnI tl+1,tr.ok (d+1) (qsq b d)&&tr.isFork)) (.inr (.inr ⟨rfl,k1,hk,by simp only[hn],by simp[hk]⟩)) Xj
       ·have hn:nnI tr=0:=by have h4:¬(0:Int)<r:=h4;unfold nnI;rw[nr,if_neg Xo]
        refine gA 12 Y (2) ?_;exact gAg 2 Y ((2,nnI tl,tr.ok (d+1) (qsq b d)&&tr.isFork)) (.inr (.inr ⟨rfl,k1,hk,by simp only[hn,Int.add_zero],by simp[hk]⟩)) Xj
    ·have e:T.ok d b (.fork tl tr)=T.two tl tr:=by simp only[T.ok];rw[decide_eq_true hd',k1,k2];rfl
     have e2:(T.fork tl tr).isFork=true:=rfl;rw[e,e2,Bool.and_true]
     have e3:T.two tl tr=((tl.isFork||tr.isFork)||decide (nnI tl+nnI tr=2)):=by
      unfold T.two nnI;congr 1
      cases tl.non<;>cases tr.non<;>rfl
     rw[e3];cases hw:(tl.isFork||tr.isFork) with
     |true=>
      skip
      refine z1q 9 Y ?_;refine gO 0 Y ?_;exact gQa 21 Y
     |false=>
      skip
      refine z1q 9 Y ?_;refine gO 0 Y ?_;refine gU 7 Y ?_;exact gQ 13 Y Xj
end
theorem fit_node{w:W}(h:Fit (.st 36 [.bool,.arr 32 1 (.int .u8),.sl 1 1 (.int .u8),.int .i64,.int .i64]) w):∃x:Node,w=nW x/\x.val.length<=140737488351232:=by
 obtain⟨l,rfl,w1,l1,rfl,h1,w2,l2,rfl,h2,w3,l3,rfl,h3,w4,l4,rfl,h4,w5,l5,rfl,h5,rfl⟩:=h;obtain⟨b,rfl⟩:=fit_bool h1;obtain⟨k,rfl⟩:=fit_dig h2;obtain⟨v,rfl,hv⟩:=fit_bW h3;obtain⟨i,rfl,_⟩:=fit_i64 h4;obtain⟨j,rfl,_⟩:=fit_i64 h5;exact⟨⟨b,k,v,i,j⟩,rfl,by simpa using hv⟩
theorem fit_tree{w:W}(h:Fit (.st 2 [.sl 36 80 (.st 36 [.bool,.arr 32 1 (.int .u8),.sl 1 1 (.int .u8),.int .i64,.int .i64]),.int .i64]) w):∃t:Tree,w=tW t/\t.nodes.length*80<=140737488351232/\(∀x∈t.nodes,x.val.length<=140737488351232)/\t.root<=9223372036854775807:=by
 obtain⟨l,rfl,w1,l1,rfl,h1,w2,l2,rfl,h2,rfl⟩:=h;obtain⟨ns,rfl,hl,hn⟩:=fit_sl h1 λx hx=>fit_node hx
 obtain⟨r,rfl,_,hr⟩:=fit_i64 h2;exact⟨⟨ns,r⟩,rfl,hl,hn,hr⟩
mutual
theorem v9q{τ:Nat->Nat}{b:Nat}(h:∀i,i<b->τ i=i):∀{w:W},refB b w=true->renW τ w=w
 |.ptr c o,hw=>by simp only[renW];rw[h c (of_decide_eq_true hw)]
 |.sl c _ _ _ _ _,hw=>by simp only[renW];rw[h c (of_decide_eq_true hw)]
 |.fz l _ _,hw=>by simp only[renW];rw[kCq h (l:=l) hw]
 |.fel x,hw=>by simp only[renW];rw[v9q h (w:=x) hw]
 |.fn _ a c,hw=>by
  simp only[refB,Bool.and_eq_true] at hw;simp only[renW];rw[kCq h (l:=a) hw.1,kCq h (l:=c) hw.2]
 |.iface _ v,hw=>by simp only[renW];rw[v9q h (w:=v) hw]
 |.agg _ l,hw=>by simp only[renW];rw[kCq h (l:=l) hw]
 |.arr _ _ l,hw=>by simp only[renW];rw[kCq h (l:=l) hw]
 |.tup l,hw=>by simp only[renW];rw[kCq h (l:=l) hw]
 |.undef,_=>rfl
 |.bool _,_=>rfl
 |.int _ _,_=>rfl
 |.str _,_=>rfl
 |.nilp,_=>rfl
 |.nils,_=>rfl
 |.nilm,_=>rfl
 |.yield _,_=>rfl
 |.nilf,_=>rfl
 |.nili,_=>rfl
theorem kCq{τ:Nat->Nat}{b:Nat}(h:∀i,i<b->τ i=i):∀{l:List W},refL b l=true->qjq τ l=l
 |[],_=>rfl
 |w::l,hw=>by
  simp only[refL,Bool.and_eq_true] at hw;simp only[qjq];rw[v9q h (w:=w) hw.1,kCq h (l:=l) hw.2]
end
mutual
theorem kEq{b c:Nat}(h:b<=c):∀{w:W},refB b w=true->refB c w=true
 |.ptr d o,hw=>decide_eq_true (Nat.lt_of_lt_of_le (of_decide_eq_true hw) h)
 |.sl d _ _ _ _ _,hw=>decide_eq_true (Nat.lt_of_lt_of_le (of_decide_eq_true hw) h)
 |.fz l _ _,hw=>jEq h (l:=l) hw
 |.fel x,hw=>kEq h (w:=x) hw
 |.fn _ a d,hw=>by
  simp only[refB,Bool.and_eq_true] at hw⊢;exact⟨jEq h hw.1,jEq h hw.2⟩
 |.iface _ v,hw=>kEq h (w:=v) hw
 |.agg _ l,hw=>jEq h (l:=l) hw
 |.arr _ _ l,hw=>jEq h (l:=l) hw
 |.tup l,hw=>jEq h (l:=l) hw
 |.undef,_=>rfl
 |.bool _,_=>rfl
 |.int _ _,_=>rfl
 |.str _,_=>rfl
 |.nilp,_=>rfl
 |.nils,_=>rfl
 |.nilm,_=>rfl
 |.yield _,_=>rfl
 |.nilf,_=>rfl
 |.nili,_=>rfl
theorem jEq{b c:Nat}(h:b<=c):∀{l:List W},refL b l=true->refL c l=true
 |[],_=>rfl
 |w::l,hw=>by
  simp only[refL,Bool.and_eq_true] at hw⊢;exact⟨kEq h hw.1,jEq h hw.2⟩
end
noncomputable def gW(b e:Nat):List W->W
 |[]=>.nils
 |x::r=>.sl b 0 0 (x::r).length e none
noncomputable def gH(b:Nat)(ty:TypeId)(e:Nat):List W->HpW
 |[]=>[]
 |x::r=>[(b,ty,.arr ((x::r).length*e) e (x::r))]
noncomputable def evG(b:Nat):List W->EvW
 |[]=>.gen
 |_::_=>.updO b
theorem evs_G{ops:Array Oper}{i b:Nat}{es:List (Nat×EvW)}{l:List W}(h1:evsW ops i .gen es=true)(h2:evsW ops i (.updO b) es=true):evsW ops i (evG b l) es=true:=by cases l<;>assumption
theorem vdq{b e:Nat}{l:List W}(h:l≠[]):gW b e l= .sl b 0 0 l.length e none:=by cases l with
 |nil=>exact absurd rfl h
 |cons x r=>rfl
theorem veq{b e:Nat}{ty:TypeId}{l:List W}(h:l≠[]):gH b ty e l=[(b,ty,.arr (l.length*e) e l)]:=by cases l with
 |nil=>exact absurd rfl h
 |cons x r=>rfl
section
variable {C:Cfg} {nw:Nat} {ts tx ty:TypeId} {j k:TyI} {x:W} {news l:List W} {b:Nat} {H0:HpW}
theorem hdel_pre{b:Nat}{x:TypeId×W}:∀{P:HpW},(∀p∈P,p.1≠b) ->hdel (P++[(b,x)]) b=P
 |[],_=>by
  show(match Nat.beq b b with|true=>[]|false=>_)=[];rw[Nat.beq_refl]
 |(c,y)::P,h=>by
  have hc:=h (c,y) (List.mem_cons_self ..)
  have e:Nat.beq c b=false:=by
   cases q:Nat.beq c b with
   |true=>exact absurd (Nat.eq_of_beq_eq_true q) hc
   |false=>rfl
  show(match Nat.beq c b with|true=>P++[(b,x)]|false=>(c,y)::hdel (P++[(b,x)]) b)=_;rw[e];exact congrArg _ (hdel_pre λp hp=>h p (List.mem_cons_of_mem _ hp))
theorem uvq{b:Nat}{x:TypeId×W}:∀{P:HpW},(∀p∈P,p.1≠b) ->hget (P++[(b,x)]) b=some x
 |[],_=>by rw[List.nil_append,zsq,if_pos rfl]
 |(c,y)::P,h=>by
  rw[List.cons_append,zsq,if_neg λe=>h (c,y) (List.mem_cons_self ..) e];exact uvq λp hp=>h p (List.mem_cons_of_mem _ hp)
theorem vcq{c:Nat}{y:TypeId×W}{Q:HpW}:∀{P:HpW},hget P c=some y->hget (P++Q) c=some y
 |[],h=>by simp[hget] at h
 |(q,z)::P,h=>by
  rw[List.cons_append,zsq];rw[zsq] at h;split at h
  ·rename_i h5;rw[if_pos h5];exact h
  ·rename_i h5;rw[if_neg h5];exact vcq h
theorem jSq(P:HpW){e:Nat}{hp:HpW}(he:e=k.size)(hj:C.ty ts=some j)(hd:j.d= .slice ty)(hk:C.ty ty=some k)(hz:Nat.beq k.size 0=false)(hs:srcW C hp tx k.size x=some news)(hn:news≠[])(h1:(l.length+news.length)*k.bytes<=140737488355328)(h2:l.length+news.length<=70368744177664)
  (hg:hp=P++gH b ty e l) (hP:∀p∈P,p.1≠b):
  appW C hp nw ts tx (gW b e l) x=some (.sl nw 0 0 (l++news).length e none,(nw,ty,.arr ((l++news).length*e) e (l++news))::P,nw+1,evG b l):=by
 subst he
 have hk0:0<k.size:=by
  rcases Nat.eq_zero_or_pos k.size with h0|h0
  ·rw[h0] at hz;cases hz
  ·exact h0
 have hnl:0<news.length:=by cases news with
  |nil=>exact absurd rfl hn
  |cons _ _=>simp
 cases l with
 |nil=>
  simp only[List.length_nil,Nat.zero_add] at h1 h2;rw[show gW b k.size []= .nils from rfl,xqq hj hd hk hz hs hn h1 h2,hg,show gH b ty k.size []=[] from rfl,List.append_nil];rfl
 |cons y r=>
  have hget:hget hp b=some (ty,.arr ((y::r).length*k.size) k.size (y::r)):=by rw[hg];exact uvq hP
  rw[show gW b k.size (y::r)= .sl b 0 0 (y::r).length k.size none from rfl,qqq hj hd hk hz hs hn h1 h2 hget (by
   show(y::r).length*k.size<0+((y::r).length+news.length)*k.size;rw[Nat.zero_add];exact Nat.mul_lt_mul_of_pos_right Xd hk0) (by rw[Nat.beq_refl]) (zpq hk0 Y Y)]
  rw[hg,show gH b ty k.size (y::r)=[(b,ty,.arr ((y::r).length*k.size) k.size (y::r))] from rfl,hdel_pre hP,List.length_append];rfl
theorem app_gr0{hp:HpW}{e:Nat}(he:e=k.size)(hj:C.ty ts=some j)(hd:j.d= .slice ty)(hk:C.ty ty=some k)(hz:Nat.beq k.size 0=false)(hs:srcW C hp tx k.size x=some []):appW C hp nw ts tx (gW b e l) x=some (gW b e l,hp,nw,.gen):=by
 subst he;cases l with
 |nil=>exact vYq hj hd hk hz hs
 |cons y r=>exact kRq hj hd hk hz hs
end
theorem xIq{b e:Nat}{ty:TypeId}{l:List W}{H0:HpW}(he:0<e)(hl:purL l=true)(hP:∀p∈H0,p.1≠b):View (blkA (H0++gH b ty e l)) (gW b e l) (.fz l e false):=by
 cases l with
 |nil=>exact .nilfz
 |cons y r=>exact .sl (c:=.arr ((y::r).length*e) e (y::r)) (by
   unfold blkA;rw[show H0++gH b ty e (y::r)=H0++[(b,ty,.arr ((y::r).length*e) e (y::r))] from rfl,uvq hP]) hl (zpq he Y Y) Xh
theorem view_sl{b e n:Nat}{ty:TypeId}{l:List W}{H0:HpW}(he:0<e)(hn:n=l.length)(hl:purL l=true):View (blkA ((b,ty,.arr (n*e) e l)::H0)) (.sl b 0 0 n e none) (.fz l e false):=by
 subst hn
 exact .sl (c:=.arr (l.length*e) e l) (by
   unfold blkA;rw[zsq,if_pos rfl]) hl (zpq he Y Y) Xh
section
variable {C:Cfg} {G:Nat->Option W} {m k0:Nat} {rd:Bool} {fr fr2:FrW} {hp hp':HpW} {nw nw':Nat} {R:Res} {Q:y8q} {c:Code}
theorem ZFq(hf:subF fr fr2):Ent C G m k0 fr hp nw R fr2 hp (nw+1) R:=λΓ X st hnw hmn s=>by
 let Γ2:Ctx:=⟨nw+1,Γ.σ,Γ.D,Γ.h⟩
 have le:Γ.Le Γ2:=⟨by rw[hnw];exact Nat.le_succ _,λ_ _=>rfl,λ_ h=>h,λ_ _=>rfl⟩;refine⟨Γ2,X,rfl,⟨s.hh,λt w hw=>?_,⟨s.sat.wf,λb ty w hb=>?_,s.sat.inj,s.sat.nd,s.sat.dX,s.sat.xlt,s.sat.dlt,s.sat.res,s.sat.gl⟩,s.ds,s.nd⟩,⟨λ_ _=>rfl,λh=>Nat.le_trans h le.nw,Nat.le_refl _,λ_ _ _ _=>rfl,λ_ h=>h,λ_ h=>.inl h,λb x _ h=>⟨x,h⟩,λb x hb h=>.inr ⟨b,x,hb,h,rfl⟩,λ_ h=>.inl h,λ_ h _ _=>h⟩⟩
 ·obtain⟨v,g3,g4⟩:=s.fr _ _ (vJq hf t w hw);exact⟨v,g3,g4.mono le⟩
 ·obtain⟨q1,q2,q3,v,q4,q5⟩:=s.sat.own _ _ _ hb;exact⟨Nat.lt_of_lt_of_le q1 le.nw,q2,q3,v,q4,q5.mono le⟩
theorem subR_low{k:Nat}:∀{l:FrW},subF fr l->refF nw l->subR (tau1 nw k) (nw+1) fr l
 |[],_,_=>trivial
 |(t,w)::l,h,r=>⟨⟨by rw[v9q (λi hi=>j3q Xd) r.1];exact h.1,kEq (Nat.le_succ _) r.1⟩,subR_low h.2 r.2⟩
theorem subRH_low{k:Nat}:∀{l:HpW},subH hp nw l->subRH (tau1 nw k) (nw+1) hp l
 |[],_=>trivial
 |(b,x)::l,h=>⟨⟨Nat.lt_succ_of_lt h.1.1,by rw[j3q (by have:=h.1.1;omega),v9q (λi hi=>j3q Xd) h.1.2.2];exact h.1.2.1,kEq (Nat.le_succ _) h.1.2.2⟩,subRH_low h.2⟩
theorem subH_lt:∀{l:HpW},subH hp nw l->∀p∈l,p.1<nw
 |[],_,p,h=>by simp at h
 |(b,x)::l,h,p,hp=>by
  rcases List.mem_cons.1 hp with rfl|hp
  ·exact h.1.1
  ·exact subH_lt h.2 p hp
theorem subH_mono:∀{l:HpW},subH hp nw l->subH hp (nw+1) l
 |[],_=>trivial
 |(b,x)::l,h=>⟨⟨Nat.lt_succ_of_lt h.1.1,h.1.2.1,kEq (Nat.le_succ _) h.1.2.2⟩,subH_mono h.2⟩
theorem subRH_app{τ:Nat->Nat}{n:Nat}{b:HpW}:∀{a:HpW},subRH τ n hp a->subRH τ n hp b->subRH τ n hp (a++b)
 |[],_,h=>h
 |_::_,h,h2=>⟨h.1,subRH_app h.2 h2⟩
theorem YSq{n:Nat}{b:HpW}:∀{a:HpW},subH hp n a->subH hp n b->subH hp n (a++b)
 |[],_,h=>h
 |_::_,h,h2=>⟨h.1,YSq h.2 h2⟩
theorem nodup_g{H0:HpW}{b e:Nat}{ty:TypeId}{l2:List W}(hh:∀p∈H0,p.1<b)(nd:(H0.map (·.1)).Nodup):((H0++gH b ty e l2).map (·.1)).Nodup:=by
 cases l2 with
 |nil=>rw[show gH b ty e []=[] from rfl,List.append_nil];exact nd
 |cons x r=>
  rw[show gH b ty e (x::r)=[(b,ty,.arr ((x::r).length*e) e (x::r))] from rfl,List.map_append,List.nodup_append];refine⟨nd,by simp,λa ha c hc q=>?_⟩;obtain⟨p,h1,h2⟩:=List.mem_map.1 ha;have:=hh p h1;simp only[List.map_cons,List.map_nil,List.mem_cons,List.not_mem_nil,or_false] at hc;omega
theorem vVq{α:Type}(I:α->Prop)(s:Nat)(L:α->List W)(ty:TypeId)(e:Nat)(V:α->FrW)(kf:FrW)(H0:HpW)(μ:α->Nat)(a0:α)(hk:subF fr kf)(h0:I a0)(hv:subF fr (V a0))(hL:L a0=[])(hs:getW fr s=some .nils)(hh:hp=H0)
  (step:∀a,I a->CoW C G m k0 rd c ((s,gW nw e (L a))::(V a++kf)) (H0++gH nw ty e (L a)) (nw+1) R (xvq C G m k0 I (λa=>(s,gW nw e (L a))::(V a++kf)) (λa=>H0++gH nw ty e (L a)) (λ_=>nw+1) (λ_=>R) μ (μ a) Q)):CoW C G m k0 rd (.loop c) fr hp nw R Q:=by
 subst hh;refine qnq I (λa=>(s,gW nw e (L a))::(V a++kf)) (λa=>hp++gH nw ty e (L a)) (λ_=>nw+1) (λ_=>R) μ a0 h0 ?_ step;have:=ZFq (C:=C) (G:=G) (m:=m) (k0:=k0) (fr:=fr) (fr2:=(s,gW nw e (L a0))::(V a0++kf)) (hp:=hp) (nw:=nw) (R:=R) ⟨by rw[hL];exact hs,qSq hv hk⟩;rw[hL] at this⊢;rw[show gH nw ty e []=[] from rfl,List.append_nil];exact this
theorem qYq{b:Nat}{ty:TypeId}{e:Nat}{H0:HpW}{l2:List W}{n:Nat}(k s:Nat)(hm:m<=b)(hk:b<=k)(hk2:k<nw)(hne:l2≠[])(hs:getW fr s=some (.sl k 0 0 n e none))(hn:n=l2.length)(hf:subF fr fr2)(hr:refF b fr2)(hg:hget hp k=some (ty,.arr (n*e) e l2))(hp2:purL l2=true)(hh:subH hp b H0)(nd:(H0.map (·.1)).Nodup):
  Ent C G m k0 fr hp nw R ((s,gW b e l2)::fr2) (H0++gH b ty e l2) (b+1) R:=by
 subst hn;have hpa:purW (.arr (l2.length*e) e l2)=true:=hp2;refine qdq (b:=b) (k:=k) hm hk hk2 ?_ ?_ (nodup_g (subH_lt hh) nd)
 ·rw[vdq hne];refine⟨⟨?_,by simp[refB]⟩,subR_low hf hr⟩;rw[hs];simp only[renW,uXq]
 ·rw[veq hne];refine subRH_app (subRH_low hh) ⟨⟨Nat.lt_succ_self _,?_,zkq hpa⟩,trivial⟩;rw[uXq,hg,zZq hpa]
noncomputable def subVH(blk:Nat->Option W)(b:Nat)(hp:HpW):HpW->Prop
 |[]=>True
 |(k,ty,w)::l=>(k≠b/\∃w0,hget hp k=some (ty,w0)/\View blk w0 w)/\subVH blk b hp l
theorem subVH_get{blk:Nat->Option W}{b:Nat}:∀{l:HpW},subVH blk b hp l->∀k ty w,hget l k=some (ty,w) ->k≠b/\∃w0,hget hp k=some (ty,w0)/\View blk w0 w
 |[],_,k,ty,w,h=>by simp[hget] at h
 |(j,ty',w')::l,hs,k,ty,w,h=>by
  rw[zsq] at h;split at h
  ·rename_i e;subst e;cases h;exact hs.1
  ·exact subVH_get hs.2 k ty w h
theorem ent_fr1(b:Nat)(fr2:FrW)(hp2:HpW){ty:TypeId}{c:W}(hb:hget hp b=some (ty,c))(hc:purW c=true)(hbm:m<=b)(hf:subV (blk1 b c) fr fr2)(hh:subVH (blk1 b c) b hp hp2)(nd:(hp2.map (·.1)).Nodup):Ent C G m k0 fr hp nw R fr2 hp2 nw R:=
 ent_frz hb hc hbm (vIq hf) (subVH_get hh) nd
theorem co_loopG1{α:Type}(I:α->Prop)(s:Nat)(L:α->List W)(ty:TypeId)(e:Nat)(V:α->FrW)(kf:FrW)(H0:HpW)(b k:Nat)(μ:α->Nat)(a0:α){n:Nat}(hk:subF fr kf)(h0:I a0)(hv:subF fr (V a0))(hm:m<=b)(hbk:b<=k)(hkn:k<nw)(hne:L a0≠[])(hs:getW fr s=some (.sl k 0 0 n e none))(hn:n=(L a0).length)
  (hr:refF b (V a0)) (hr2:refF b kf) (hg:hget hp k=some (ty,.arr (n*e) e (L a0))) (hp2:purL (L a0)=true) (hh:subH hp b H0) (nd:(H0.map (·.1)).Nodup)
  (step:∀a,I a->CoW C G m k0 rd c ((s,gW b e (L a))::(V a++kf)) (H0++gH b ty e (L a)) (b+1) R (xvq C G m k0 I (λa=>(s,gW b e (L a))::(V a++kf)) (λa=>H0++gH b ty e (L a)) (λ_=>b+1) (λ_=>R) μ (μ a) Q)):CoW C G m k0 rd (.loop c) fr hp nw R Q:=
 qnq I (λa=>(s,gW b e (L a))::(V a++kf)) (λa=>H0++gH b ty e (L a)) (λ_=>b+1) (λ_=>R) μ a0 h0 (qYq k s hm hbk hkn hne hs hn (qSq hv hk) (xyq hr hr2) hg hp2 hh nd) step
theorem jdq{α:Type}{I:α->Prop}{s:Nat}{L:α->List W}{ty:TypeId}{e:Nat}{V:α->FrW}{kf:FrW}{H0:HpW}{μ:α->Nat}{kk:Nat}{fr':FrW}{l2:List W}{n:Nat}(k:Nat)(a:α)(ha:I a)(hμ:μ a<kk)(hm:m<=nw)(hL:L a=l2)(hne:l2≠[])(hk:nw<=k)(hk2:k<nw')(hs:getW fr' s=some (.sl k 0 0 n e none))(hn:n=l2.length)
  (hv:subF fr' (V a)) (hkf:subF fr' kf) (hr:refF nw (V a)) (hr2:refF nw kf) (hg:hget hp' k=some (ty,.arr (n*e) e l2)) (hp2:purL l2=true) (hh:subH hp' nw H0) (nd:(H0.map (·.1)).Nodup):
  xvq C G m k0 I (λa=>(s,gW nw e (L a))::(V a++kf)) (λa=>H0++gH nw ty e (L a)) (λ_=>nw+1) (λ_=>R) μ kk Q .normal fr' hp' nw' R:=by
 subst hL;exact ypq a ha hμ (qYq k s hm hk hk2 hne hs hn (qSq hv hkf) (xyq hr hr2) hg hp2 hh nd)
theorem refF_up:∀{q:FrW},refF nw q->refF (nw+1) q
 |[],_=>trivial
 |_::_,h=>⟨kEq (Nat.le_succ _) h.1,refF_up h.2⟩
theorem Qrq{b:Nat}{ty:TypeId}{e:Nat}{H0:HpW}{l2:List W}(s:Nat)(hm:m<=b)(hnw:b+1<=nw)(hs:getW fr s=some (gW b e l2))(hf:subF fr fr2)(hr:refF b fr2)(hg:∀x r,l2=x::r->hget hp b=some (ty,.arr ((x::r).length*e) e (x::r)))(hp2:purL l2=true)(hh:subH hp b H0)(nd:(H0.map (·.1)).Nodup):
  Ent C G m k0 fr hp nw R ((s,gW b e l2)::fr2) (H0++gH b ty e l2) (b+1) R:=by
 refine kNq Xd hnw ⟨hs,hf⟩ ?_ (jWq (YSq (subH_mono hh) ?_)) (nodup_g (subH_lt hh) nd)
 ·refine ulq ⟨?_,refF_up hr⟩;cases l2 with
  |nil=>rfl
  |cons x r=>simp[gW,refB]
 ·cases l2 with
  |nil=>trivial
  |cons x r=>
   have hpa:purW (.arr ((x::r).length*e) e (x::r))=true:=hp2;exact⟨⟨Nat.lt_succ_self _,hg x r rfl,zkq hpa⟩,trivial⟩
theorem ent_blk{b:Nat}{ty:TypeId}{w w':W}(hb:hget hp b=some (ty,w))(he:∀Γ v,RV Γ w v->RV Γ w' v):Ent C G m k0 fr hp nw R fr (hset hp b (ty,w')) nw R:=λΓ X st h1 _ s=>by
 have hold:∀{k t u},hget (hset hp b (ty,w')) k=some (t,u) ->∃u0,hget hp k=some (t,u0)/\∀v,RV Γ u0 v->RV Γ u v:=λ{k t u} h=>by
  rw[xeq hb] at h;split at h
  ·rename_i e;subst e;cases h;exact⟨w,hb,he Γ⟩
  ·exact⟨u,h,λ_ q=>q⟩
 have howns:∀{c},Owns Γ (hset hp b (ty,w')) c->Owns Γ hp c:=λ{c} h=>by
  obtain⟨k,⟨t,u⟩,h1,h2⟩:=h;obtain⟨u0,g,_⟩:=hold h1;exact⟨k,_,g,h2⟩
 refine⟨Γ,X,h1,⟨s.hh,s.fr,⟨s.sat.wf,λk t u h=>?_,λk k' y z hy hz e=>?_,by rw[Zpq];exact s.sat.nd,s.sat.dX,s.sat.xlt,s.sat.dlt,s.sat.res,s.sat.gl⟩,λd hd=>?_,s.nd⟩,⟨λ_ _=>rfl,λh=>h,Nat.le_refl _,λ_ _ _ _=>rfl,λ_ h=>h,λ_ h=>.inl h,λk y _ h=>?_,λk y hk h=>?_,λ_ h=>.inl h,λ_ h _ _=>h⟩⟩
 ·obtain⟨u0,g1,g2⟩:=hold h;obtain⟨q1,q2,q3,v,q4,q5⟩:=s.sat.own k t u0 g1;exact⟨q1,q2,q3,v,q4,g2 v q5⟩
 ·obtain⟨y1,y2⟩:=y;obtain⟨z1,z2⟩:=z;obtain⟨u0,g1,_⟩:=hold hy;obtain⟨u1,g2,_⟩:=hold hz;exact s.sat.inj k k' _ _ g1 g2 e
 ·obtain⟨q1,q2,q3,q4,q5⟩:=s.ds d hd;exact⟨q1,q2,q3,λh=>q4 (howns h),q5⟩
 ·obtain⟨y1,y2⟩:=y;obtain⟨u0,g1,_⟩:=hold h;exact⟨_,g1⟩
 ·obtain⟨y1,y2⟩:=y;obtain⟨u0,g1,_⟩:=hold h;exact .inr ⟨k,_,hk,g1,rfl⟩
theorem ent_one{b:Nat}{ty:TypeId}{e:Nat}{x:W}(k s:Nat)(hm:m<=b)(hk:b<=k)(hk2:k<nw)(hs:getW fr s=some (.sl k 0 0 1 e none))(hg:hget hp k=some (ty,x))(hxa:x.isAgg=true)(hxs:x.size=e)(hp2:purW x=true):Ent C G m k0 fr hp nw R [(s,gW b e [x])] (gH b ty e [x]) (b+1) R:=by
 refine(ent_blk hg (w':=.arr (1*e) e [x]) λΓ v hv=>?_).trans (qYq (fr2:=[]) (H0:=[]) k s hm hk hk2 Xj hs rfl trivial trivial (by rw[xeq hg,if_pos rfl]) (by simp only[purL,hp2,Bool.and_self]) trivial List.nodup_nil);refine⟨by rw[<-hv.1,hxa];rfl,?_⟩;have hl:=qPq hv.2;simp only[RS];exact⟨by omega,λy hy=>by simp at hy;rw[hy,hxs],RSL_one hv.2⟩
theorem kbq{o:Oper}{post:W->HpW->Nat->Res->Option EvW->Prop}{x:Operand}{xs:Array Operand}{ats:Array TypeId}{f:FuncId}{a us c ws:List W}{Q:W->HpW->Nat->Prop}(ho:o.op= .call ⟨.value x,xs,ats⟩)(hx:evW C G fr x=some (.fn f a c))(he:C.ext f=none)(hxs:evLW C G fr xs.toList=some us)(hws:a++us++c=ws)(hpw:purL ws=true)(sp:j9q C G f 0 ws [] Q)
  (hpost:∀w hp1 nw1,Q w hp1 nw1->post (renW (numC [] nw) w) (renH (numC [] nw) hp1++hp) (nw+nw1) R (some .gen)):Step C G o fr hp nw R post:=λΓ X frv hnw s hf=>by
 subst hnw;obtain⟨u,e1,e2⟩:=zQq hf s.gl hx;obtain⟨a',c',rfl,e3,e4⟩:=RV_fn.1 e2;obtain⟨us',e5,e6⟩:=xkq hf s.gl hxs
 have app:∀{l r:List W} {l' r':List V},RVL Γ l l'->RVL Γ r r'->RVL Γ (l++r) (l'++r'):=λ{l}=>by
  induction l with
  |nil=>intro r l' r' h1 h2;simp only[RVL] at h1;subst h1;exact h2
  |cons w l ih=>
   intro r l' r' h1 h2;simp only[RVL] at h1;obtain⟨v,vs,rfl,h3,h4⟩:=h1;simp only[List.cons_append,RVL];exact⟨v,vs++r',rfl,h3,ih h4 h2⟩
 have hv:=app (app e3 e6) e4;rw[hws,<-renWL_pur (τ:=numC [] Γ.nw) hpw] at hv;obtain⟨n,v,Γ',w,hp1,nw1,g1,g2,g3,g4,g5,g6,g7,g8⟩:=call_spec (ext:=[]) sp s List.nodup_nil Xj Xj (λi ty w h=>by simp[hget] at h) (zkq (w:=.tup ws) hpw) hv;obtain⟨k1,k2⟩:=ZUq (C:=C) ho frv Γ.h;refine⟨n,_,_,R,some .gen,v,Γ'.h,Γ',X,by rw[g3];exact hpost w hp1 nw1 g2,?_,⟨k1,λH1 e1' e2'=>?_⟩,rfl,g4,g5,g6,g7⟩
 ·simp only[opV,k1,k2];simp only[ho,jaq,e1,e5,he];exact g1
 ·have:=g8 rfl e2';simp only[EvR,ho,evOf];rw[e1',Nat.ble_eq_true_of_le this]
noncomputable def PL(C:Cfg)(G:Nat->Option W)(f:FuncId)(ws:List W)(ty:TypeId)(e:Nat)(l:List W):Prop:=j9q C G f 0 ws [] λw hp nw=>w=gW 0 e l/\hp=gH 0 ty e l/\nw=1
theorem PL.ps{C:Cfg}{G:Nat->Option W}{f:FuncId}{ws:List W}{ty:TypeId}{e:Nat}{l:List W}(h:PL C G f ws ty e l)(he:0<e)(hl:purL l=true):PS C G f ws (.fz l e false):=λR=>
 uiq λΓ X vs h1 s hv=>by
  obtain⟨n,v,Γ',X',w,hp',R',g1,g2,g3,g4,g5,rfl,rfl,g6⟩:=h R Γ X vs h1 s hv;exact⟨n,v,Γ',X',_,_,R',g1,g2,g3,g4,g5,xIq (H0:=[]) he hl Xj⟩
theorem k4q{o:Oper}{post:W->HpW->Nat->Res->Option EvW->Prop}{x:Operand}{xs:Array Operand}{ats:Array TypeId}{f:FuncId}{a us c ws:List W}{ty:TypeId}{e:Nat}{l:List W}(ho:o.op= .call ⟨.value x,xs,ats⟩)(hx:evW C G fr x=some (.fn f a c))(he:C.ext f=none)(hxs:evLW C G fr xs.toList=some us)(hws:a++us++c=ws)(hpw:purL ws=true)(sp:PL C G f ws ty e l)(hl:purL l=true)
  (hpost:post (gW nw e l) (gH nw ty e l++hp) (nw+1) R (some .gen)):Step C G o fr hp nw R post:=by
 refine kbq ho hx he hxs hws hpw sp ?_;rintro w hp1 nw1 ⟨rfl,rfl,rfl⟩
 have e1:renW (numC [] nw) (gW 0 e l)=gW nw e l:=by
  cases l with
  |nil=>rfl
  |cons x r=>simp only[gW,renW];rfl
 have e2:renH (numC [] nw) (gH 0 ty e l)=gH nw ty e l:=by
  cases l with
  |nil=>rfl
  |cons x r=>
   have hpa:purW (.arr ((x::r).length*e) e (x::r))=true:=hl;simp only[gH,renH,zZq hpa];rfl
 rw[e1,e2];exact hpost
variable {ops:Array Oper} {l:List Oper} {K:FrW->HpW->Nat->Res->Prop} {hp2:HpW} {nw2:Nat} {R2:Res}
theorem Zjq(e:∀k0,Ent C G m k0 fr hp nw R fr2 hp2 nw2 R2)(h:OpW C G m ops l fr2 hp2 nw2 R2 K):OpW C G m ops l fr hp nw R K:=λΓ X frv hnw hm s hf=>by
 obtain⟨Γ2,X2,e1,e2,e3⟩:=e 0 Γ X ⟨frv,Γ.h,[],false⟩ hnw hm ⟨rfl,hf,s,by simp,List.nodup_nil⟩;obtain⟨n,frv',Γ',X',fr',hp',R',g1,g2,g3,g4,g5⟩:=h Γ2 X2 frv e1 (e1▸e3.mle (hnw▸hm)) e2.sat e2.fr;have hh:Γ.h=Γ2.h:=e2.hh;exact⟨n,frv',Γ',X',fr',hp',R',by rw[hh];exact g1,g2,g3,e3.trans g4,g5⟩
theorem op_z{o:Oper}{k:IntKind}{z:Int}(z':Int)(hw:yWq ops fr o=some true)(hx:yyq C G fr o.op=some (.int k (juq k z)))(e:z=z')(hz:inK k z')(h:OpW C G m ops l (putW fr o.dst (.int k z')) hp nw R K):OpW C G m ops (o::l) fr hp nw R K:=by
 subst e;exact qvq hw hx hz h
theorem op_grow{o:Oper}{ts tx ty:TypeId}{j k:TyI}{x y:Operand}{u:W}{xs news:List W}{b e d:Nat}{H0:HpW}(P:HpW)(fr2:FrW)(he:e=k.size)(hw:yWq ops fr o=some true)(ho:o.op= .call ⟨.builtin .append, #[x,y], #[ts,tx]⟩)(hd0:o.dst=some d)(hx:evW C G fr x=some (gW b e xs))(hy:evW C G fr y=some u)
  (hj:C.ty ts=some j) (hd:j.d= .slice ty) (hk:C.ty ty=some k) (hz:Nat.beq k.size 0=false) (hs:srcW C hp tx k.size u=some news) (h1:(xs.length+news.length)*k.bytes<=140737488355328) (h2:xs.length+news.length<=70368744177664) (hg:hp=P++gH b ty e xs) (hP:∀p∈P,p.1≠b) (hm:m<=b) (hb:b<nw)
  (hf:subF fr fr2) (hdf:getW fr2 d=none) (hr:refF b fr2) (hpx:purL (xs++news)=true) (hh:subH P b H0) (nd:(H0.map (·.1)).Nodup)
  (h:OpW C G m ops l ((d,gW b e (xs++news))::fr2) (H0++gH b ty e (xs++news)) (b+1) R K):OpW C G m ops (o::l) fr hp nw R K:=by
 have hput:∀w,subF (putW fr o.dst w) fr2:=λw=>by
  rw[hd0]
  have key:∀{q:FrW},subF fr q->getW q d=none->subF (putW fr (some d) w) q:=λ{q}=>by
   induction q with
   |nil=>exact λ_ _=>trivial
   |cons p q ih=>
    obtain⟨t,v⟩:=p;intro h1 h2;simp only[getW] at h2;split at h2
    ·cases h2
    ·rename_i hne;refine⟨?_,ih h1.2 h2⟩;show getW ((d,w)::fr) t=some v
     have:Nat.beq d t=false:=by
      cases hq:Nat.beq d t with
      |false=>rfl
      |true=>
       have:=Nat.eq_of_beq_eq_true hq;subst this;rw[Nat.beq_refl] at hne;cases hne
     simp only[getW,this];exact h1.1
  exact key hf hdf
 have front:∀{Q:HpW} {q:HpW},subH P b q->subH (P++Q) b q:=λ{Q q}=>by
  induction q with
  |nil=>exact λ_=>trivial
  |cons p q ih=>exact λh=>⟨⟨h.1.1,vcq h.1.2.1,h.1.2.2⟩,ih h.2⟩
 cases news with
 |nil=>
  have ha:opHW C G fr hp nw o.op=some (gW b e xs,hp,nw,.gen):=by rw[ho];exact ytq hx hy (app_gr0 he hj hd hk hz hs)
  refine y5q hw ha ?_;rw[List.append_nil] at h hpx;refine Zjq (λk0=>Qrq (b:=b) (l2:=xs) d hm Xd (by rw[hd0];show getW ((d,gW b e xs)::fr) d=_;simp[getW]) (hput _) hr (λx r hq=>?_) hpx (by rw[hg];exact front hh) nd) h;rw[hg,hq];exact uvq hP
 |cons z zs=>
  have ha:opHW C G fr hp nw o.op=some (.sl nw 0 0 (xs++z::zs).length e none,(nw,ty,.arr ((xs++z::zs).length*e) e (xs++z::zs))::P,nw+1,evG b xs):=by
   rw[ho];exact ytq hx hy (jSq P he hj hd hk hz hs Xj h1 h2 hg hP)
  refine y5q hw ha ?_;refine Zjq (λk0=>qYq nw d hm Xd (Nat.lt_succ_self _) Xj (by rw[hd0];show getW ((d,_)::fr) d=_;simp[getW]) rfl (hput _) hr (by rw[zsq,if_pos rfl]) hpx ?_ nd) h
  have key:∀{q:HpW},subH P b q->subH ((nw,ty,W.arr ((xs++z::zs).length*e) e (xs++z::zs))::P) b q:=λ{q}=>by
   induction q with
   |nil=>exact λ_=>trivial
   |cons p q ih=>
    obtain⟨c,y⟩:=p;exact λh=>⟨⟨h.1.1,by rw[zsq,if_neg (by have:=h.1.1;omega)];exact h.1.2.1,h.1.2.2⟩,ih h.2⟩
  exact key hh
end
theorem view_g2{b e:Nat}{ty:TypeId}{l:List W}{H0 Q:HpW}(he:0<e)(hl:purL l=true)(hP:∀p∈H0,p.1≠b):View (blkA ((H0++gH b ty e l)++Q)) (gW b e l) (.fz l e false):=by
 cases l with
 |nil=>exact .nilfz
 |cons y r=>exact .sl (c:=.arr ((y::r).length*e) e (y::r)) (by
   unfold blkA;rw[show H0++gH b ty e (y::r)=H0++[(b,ty,.arr ((y::r).length*e) e (y::r))] from rfl,vcq (uvq hP)]) hl (zpq he Y Y) Xh
theorem subH_g{hp:HpW}{b e:Nat}{ty:TypeId}{l:List W}{n:Nat}(hb:b<n)(hl:purL l=true)(hg:∀x r,l=x::r->hget hp b=some (ty,.arr ((x::r).length*e) e (x::r))):subH hp n (gH b ty e l):=by
 cases l with
 |nil=>trivial
 |cons x r=>
  have hpa:purW (.arr ((x::r).length*e) e (x::r))=true:=hl;exact⟨⟨hb,hg x r rfl,zkq hpa⟩,trivial⟩
theorem g_names{b e:Nat}{ty:TypeId}{l:List W}:∀p∈gH b ty e l,p.1=b:=λp hp=>by
 cases l with
 |nil=>cases hp
 |cons x r=>simp only[gH,List.mem_cons,List.not_mem_nil,or_false] at hp;rw[hp]
section
attribute [local irreducible] CoW OpW FlW Step Spec
variable {G:Nat->Option W}
def okN(ns:List Node):Prop:=∀i x,ns[i]? =some x->oneB x i
theorem rep_of{ns:List Node}(h:okN ns):∀n,n<=ns.length->∃t,Rep ns n t:=by
 intro n;induction n using Nat.strongRecOn with
 |_ n ih=>
  intro hn;cases n with
  |zero=>exact⟨_,.nil⟩
  |succ n=>
   obtain⟨x,hx⟩:∃x,ns[n]? =some x:=⟨_,List.getElem?_eq_getElem hn⟩
   have h1:=h n x hx;obtain⟨lf,k,v,l,r⟩:=x;cases lf with
   |true=>exact⟨_,.leaf hx⟩
   |false=>
    simp only[oneB,Bool.false_eq_true,if_false] at h1;obtain⟨⟨a1,a2⟩,⟨b1,b2⟩,_⟩:=h1;obtain⟨l,rfl⟩:=Int.eq_ofNat_of_zero_le a1;obtain⟨r,rfl⟩:=Int.eq_ofNat_of_zero_le b1;obtain⟨L,hL⟩:=ih l Xd Xd;obtain⟨R,hR⟩:=ih r Xd Xd;exact⟨_,.fork hx Xd Xd hL hR⟩
theorem Rep.uniq{ns:List Node}{n:Nat}{t:T}(h:Rep ns n t):∀{t':T},Rep ns n t'->t=t':=by
 induction h with
 |nil=>intro t' h';cases h';rfl
 |leaf h=>
  intro t' h';cases h' with
  |leaf h2=>rw[h] at h2;cases h2;rfl
  |fork h2=>rw[h] at h2;cases h2
 |fork h hl hr _ _ i1 i2=>
  intro t' h';cases h' with
  |leaf h2=>rw[h] at h2;cases h2
  |fork h2 _ _ hL hR=>
   rw[h] at h2;simp only[Option.some.injEq,Node.mk.injEq,Int.natCast_inj,true_and] at h2;obtain⟨_,_,rfl,rfl⟩:=h2;rw[i1 hL,i2 hR]
def MayT(t:Tree):Prop:=t.nodes.length<=262144/\okN t.nodes/\∃(n:Nat) (t0:T),t.root=n/\Rep t.nodes n t0/\t0.ok 0 yjq=true
noncomputable instance(t:Tree):Decidable (MayT t):=Classical.propDecidable _
theorem kvq(t:Tree)(hb:t.nodes.length<=4611686018427387903):PS cfg G 172 [tW t] (.int .i64 (if MayT t then 0 else 8)):=by
 have e:(t.nodes.map nW).length=t.nodes.length:=List.length_map _;have no:∀{R:Res} {k0:Nat},¬MayT t->W.int .i64 8=W.int .i64 (if MayT t then 0 else 8):=λh=>by rw[if_neg h]
 refine gI 11 Y (λR k0=>gV (w':=.int .i64 (t.nodes.length:Int)) 0 Y Xw ?_);refine gD 0 Y (λh1=>?_) (λh1=>?_)
 ·have hno:¬MayT t:=λh=>by have:=h.1;omega
  exact gQ 23 Y Yf
 refine gD 3 Y (λh2=>?_) (λh2=>?_)
 ·have hno:¬MayT t:=λh=>by obtain⟨_,_,n,_,h,_⟩:=h;have h2:t.root<0:=h2;omega
  exact gQ 19 Y Yf
 refine gV (w':=.int .i64 (t.nodes.length:Int)) 6 Y Xw (gU 0 Y ?_);refine gS 3 Y (λh3=>?_) (λh3=>?_)
 ·have hno:¬MayT t:=λh=>by obtain⟨_,_,n,_,h,hr,_⟩:=h;have h3:(t.nodes.length:Int)<t.root:=h3;have:=hr.le;omega
  exact gQ 7 Y Yf
 have h2:¬t.root<0:=h2;have h3:¬(t.nodes.length:Int)<t.root:=h3;obtain⟨n0,hn0⟩:=Int.eq_ofNat_of_zero_le (show 0<=t.root by omega);refine gV (w':=.int .i64 (t.nodes.length:Int)) 7 Y Xw ?_;refine gLo (α:=Nat) 4 (λi=>i<=t.nodes.length/\∀j x,j<i->t.nodes[j]? =some x->oneB x j) (λi=>[(27,.int .i64 (i:Int))]) [1,2,25,26] (λi=>t.nodes.length-i) (0) rfl (⟨Nat.zero_le _,λj x hj=>by omega⟩) (λi hI=>?_);obtain⟨hi,hI⟩:=hI;refine gS 6 Y (λh4=>?_) (λh4=>?_)
 ·have hi':i<t.nodes.length:=by omega
  obtain⟨x,hx⟩:∃x,t.nodes[i]? =some x:=⟨_,List.getElem?_eq_getElem hi'⟩
  refine gP 7 Y (zrq (i:=i) Y Y Y Y Y Y Y (zoq nW hx)) (gC 10 Y (one_s _ _ Xd) ?_);refine gS 3 Y (λh5=>?_) (λh5=>?_)
  ·have hno:¬MayT t:=λh=>by have:=h.2.1 i x hx;simp[this] at h5
   exact gO 8 Y (gQ 2 Y Yf)
  ·have h5:oneB x i:=by simpa using h5
   exact gA 4 Y (i+1) (gAg 2 Y (i+1) (⟨hi',λj y hj hy=>by rcases Nat.lt_succ_iff_lt_or_eq.1 hj with h|rfl;exact hI j y h hy;exact(Option.some.inj (hx.symm.trans hy))▸h5⟩) Xd)
 ·have okn:okN t.nodes:=λj x hx=>hI j x (by have:=(List.getElem?_eq_some_iff.1 hx).1;omega) hx
  obtain⟨t0,ht0⟩:=rep_of okn n0 Xd
  have key:MayT t↔t0.ok 0 yjq=true:=by
   constructor
   ·rintro⟨_,_,n,t1,hn,hr,hk⟩;obtain rfl:n=n0:=by omega
    rw[ht0.uniq hr];exact hk
   ·exact λh=>⟨by omega,okn,n0,t0,hn0,ht0,h⟩
  refine gO 2 Y (gV 8 Y jMq (op_ps Y Y Y Y Y (by rw[hn0];rfl) (right_s t Xd t0 n0 0 yjq ht0 Xd) Xj Xj (zAq 13 Y ?_)));refine gS 0 Y (λh5=>?_) (λh5=>?_)
  ·have hno:¬MayT t:=λh=>by have:=key.1 h;simp[this] at h5
   exact gQ 7 Y Yf
  ·have yes:MayT t:=key.2 (by simpa using h5);exact gQ 8 Y Qp
inductive FTo(ns:List Node)(k:Dig):Nat->Nat->Nat->Prop where
 |nil {d:Nat}:FTo ns k 0 d 0
 |hit {n d:Nat} {v:List UInt8} {l r:Int} (h:ns[n]? =some ⟨true,k,v,l,r⟩):FTo ns k (n+1) d (n+1)
 |miss {n d:Nat} {k':Dig} {v:List UInt8} {l r:Int} (h:ns[n]? =some ⟨true,k',v,l,r⟩) (hk:k'≠k):FTo ns k (n+1) d 0
 |go {n d l r m:Nat} {k':Dig} {v:List UInt8} (h:ns[n]? =some ⟨false,k',v,l,r⟩) (hd:d<256) (hg:FTo ns k (if bitN k d=0 then l else r) (d+1) m):FTo ns k (n+1) d m
theorem fto_of{ns:List Node}{k:Dig}{n:Nat}{t:T}(h:Rep ns n t):∀{d:Nat} {b:Dig},t.ok d b=true->∃m,FTo ns k n d m/\(t.find k d=none->m=0)/\∀v,t.find k d=some v->∃j l r,m=j+1/\ns[j]? =some ⟨true,k,v,l,r⟩:=by
 induction h with
 |nil=>exact λ_=>⟨0,.nil,λ_=>rfl,λv h=>by simp[T.find] at h⟩
 |leaf h=>
  rename_i n k' v l r;intro d b _;by_cases e:k'=k
  ·subst e;exact⟨n+1,.hit h,λhn=>by simp[T.find] at hn,λw hw=>by simp only[T.find,if_true,Option.some.injEq] at hw;subst hw;exact⟨n,l,r,rfl,h⟩⟩
  ·exact⟨0,.miss h e,λ_=>rfl,λw hw=>by simp[T.find,e] at hw⟩
 |fork h hl hr hL hR i1 i2=>
  intro d b hk;obtain⟨hd,k1,k2,_⟩:=ok_fork.1 hk;by_cases hb:bitN k d=0
  ·obtain⟨m,g1,g2,g3⟩:=i1 k1;exact⟨m,.go h hd (by rw[if_pos hb];exact g1),by simp only[T.find,if_pos hb];exact g2,by simp only[T.find,if_pos hb];exact g3⟩
  ·obtain⟨m,g1,g2,g3⟩:=i2 k2;exact⟨m,.go h hd (by rw[if_neg hb];exact g1),by simp only[T.find,if_neg hb];exact g2,by simp only[T.find,if_neg hb];exact g3⟩
theorem tbit_c(k:Dig)(d c:Nat)(h:d<256)(hc:bitN k d=c):PS cfg G 273 [dW k,.int .i64 (d:Int)] (.int .u8 (c:Int)):=hc▸tbit_s k d h
theorem tfind_s(t:Tree)(k:Dig)(n m:Nat)(hn:t.root=n)(hf:FTo t.nodes k n 0 m)(hb:t.nodes.length<=4611686018427387903):PS cfg G 281 [tW t,dW k] (.int .i64 (m:Int)):=by
 obtain⟨ns,root⟩:=t;simp only at hn hf hb;subst hn;refine gI 21 Y (λR k0=>?_);refine gLo (α:=Nat×Nat) 0 (λp=>FTo ns k p.1 p.2 m/\p.2<=256) (λp=>[(5,.int .i64 (p.1:Int)),(6,.int .i64 (p.2:Int))]) [2,3,4] (λp=>257-p.2) ((n,0)) rfl (⟨hf,by simp⟩) (λp hI=>?_);obtain⟨i,d⟩:=p;obtain⟨hf,hd⟩:=hI;simp only at hf hd⊢;refine gS 7 Y (λh1=>?_) (λh1=>?_)
 ·cases hf with
  |nil=>exfalso;omega
  |hit h=>
   skip
   rename_i i v l r;have hi:=(List.getElem?_eq_some_iff.1 h).1;refine yvq 9 Y (gA 0 Y (i) (gP 0 Y (zrq (i:=i) Y Y Y Y Y Y Y (zoq nW h)) (gUe 19 Y (ysq Y Y Y Y (yBq Y Y Y Y Y Y _ _ 250)) z8q ?_)));refine gS 2 Y (λh2=>?_) (λh2=>?_)
   ·refine gO 11 Y ?_;first|exact gQa 2 Y|(exfalso;omega)
   ·exfalso;exact h2 rfl
  |miss h hk=>
   rename_i i k' v l r;have hi:=(List.getElem?_eq_some_iff.1 h).1;refine yvq 9 Y (gA 0 Y (i) (gP 0 Y (zrq (i:=i) Y Y Y Y Y Y Y (zoq nW h)) (gUe 19 Y (ysq Y Y Y Y (yBq Y Y Y Y Y Y _ _ 250)) z8q ?_)));refine gS 2 Y (λh2=>?_) (λh2=>?_)
   ·exfalso;exact hk h2
   ·refine gO 11 Y ?_;first|exact gQa 2 Y|(exfalso;omega)
  |go h hd' hg=>
   rename_i i l r k' v;have hi:=(List.getElem?_eq_some_iff.1 h).1;have bl:=Z0q k d;rcases Nat.lt_or_ge 0 (bitN k d) with hb1|hb0
   ·skip
    have hc:bitN k d=1:=by omega
    rw[if_neg Xd] at hg;exact yvq 9 Y (gA 0 Y (i) (gP 0 Y (zrq (i:=i) Y Y Y Y Y Y Y (zoq nW h)) (gC 17 Y (jDq _) (gC 2 Y (tbit_c k d 1 hd' hc) (gA 7 Y (d+1) (gAg 2 Y ((r,d+1)) (⟨hg,hd'⟩) Ya))))))
   ·have hc:bitN k d=0:=by omega
    rw[if_pos hc] at hg;exact yvq 9 Y (gA 0 Y (i) (gP 0 Y (zrq (i:=i) Y Y Y Y Y Y Y (zoq nW h)) (gC 17 Y (jDq _) (gC 2 Y (tbit_c k d 0 hd' hc) (gA 7 Y (d+1) (gAg 2 Y ((l,d+1)) (⟨hg,hd'⟩) Ya))))))
 ·obtain rfl:i=0:=by omega
  cases hf;refine gO 2 Y ?_;first|exact gQa 8 Y|(exfalso;omega)
structure IsT(t:Tree)(n:Nat)(t0:T):Prop where
 len:t.nodes.length<=262144
 okn:okN t.nodes
 root:t.root=n
 rep:Rep t.nodes n t0
 ok:t0.ok 0 yjq=true
theorem IsT.may{t:Tree}{n:Nat}{t0:T}(h:IsT t n t0):MayT t:=⟨h.len,h.okn,n,t0,h.root,h.rep,h.ok⟩
theorem may_is{t:Tree}(h:MayT t):∃n t0,IsT t n t0:=by
 obtain⟨h1,h2,n,t0,h3,h4,h5⟩:=h;exact⟨n,t0,h1,h2,h3,h4,h5⟩
theorem u8q{ns:List Node}(h:okN ns){i:Nat}{k:Dig}{v:List UInt8}{l r:Int}(hx:ns[i]? =some ⟨true,k,v,l,r⟩):0<v.length/\v.length<=64:=by
 have h1:=h i _ hx;simp only[oneB,if_true] at h1;have h2:=(h1.2.2.2 0 Xj (k,v) rfl).1;simp only[valB,Bool.and_eq_true,decide_eq_true_eq] at h2;exact h2
noncomputable def getW':Option (List UInt8) ->W
 |none=>.tup [.nils,.bool false]
 |some v=>.tup [bW v,.bool true]
theorem tget_s(t:Tree)(n:Nat)(t0:T)(k:Dig)(h:IsT t n t0):PS cfg G 203 [tW t,dW k] (getW' (t0.find k 0)):=by
 have hl:=h.len;have hy:=h.may;obtain⟨m,f1,f2,f3⟩:=fto_of (k:=k) h.rep h.ok;cases hf:t0.find k 0 with
 |none=>
  obtain rfl:=f2 hf;refine gI 12 Y (λR k0=>?_);first|refine gC 0 Y (zOq (w':=.int .i64 0) (kvq t Xd) (by rw[if_pos hy])) ?_|refine gC 0 Y (kvq _ Xd) ?_
  exact gC 10 Y (tfind_s t k n _ h.root f1 Xd) (gQa 19 Y)
 |some v=>
  obtain⟨j,l,r,rfl,hx⟩:=f3 v hf;have hv:=u8q h.okn hx;have hj:=(List.getElem?_eq_some_iff.1 hx).1;refine gI 12 Y (λR k0=>?_);first|refine gC 0 Y (zOq (w':=.int .i64 0) (kvq t Xd) (by rw[if_pos hy])) ?_|refine gC 0 Y (kvq _ Xd) ?_
  refine gC 10 Y (tfind_s t k n _ h.root f1 Xd) ?_;refine gS 10 Y (λh1=>?_) (λh1=>?_)
  ·exfalso;omega
  ·exact gA 7 Y (j) (gP 0 Y (zrq (i:=j) Y Y Y Y Y Y Y (zoq nW hx)) (zeq 2 Y (jiq Y Y Y Y Y Y (ZPq v false Xd) (zAq 5 Y (gQa 0 Y)))))
theorem teach_s(t:Tree)(n:Int):PS cfg G 257 [tW t,.int .i64 n] (.fn 320 [] [.fel (.int .i64 n),.fel (tW t)]):=by
 refine gI 14 Y (λR k0=>?_);refine qlq (fr2:=[(4,_)]) Xt ?_ Y Y
 (repeat (first|exact trivial|refine And.symm ⟨?_,_,rfl,?_⟩))<;>(repeat (first|exact .nil|refine .cons ?_ ?_|refine .fn ?_ ?_|(refine yPq Y ?_ rfl;(first|rfl|(focus (simp;done))))|(refine .sl Y ?_ rfl Xh;(first|rfl|(focus (simp;done))))|(refine .pur ?_;(first|rfl|(focus (simp;done))))|refine .agg ?_|refine .arr ?_|refine .tup ?_))
noncomputable def enc1(p:Pr):List W:=[pW p]
theorem yl_same{L:Nat}{E:Res->Prop}{b:Bool}{R1:Res}{l:List (List W)}(h:match b with|true=>Yl cfg G L E [] R1|false=>E R1):E R1:=by cases b<;>exact h
def restL(tl tr:T):Nat->List Pr
 |0=>tl.all++tr.all
 |1=>tr.all
 |_=>[]
theorem xnq{α:Type}{l:List α}{i:Nat}{x:α}(h:l[i]? =some x):l.drop i=x::l.drop (i+1):=by
 obtain⟨hl,h2⟩:=List.getElem?_eq_some_iff.1 h;rw[List.drop_eq_getElem_cons hl,h2]
theorem teach_it(t:Tree)(hv:∀(i:Nat) (k:Dig) (v:List UInt8) (l r:Int),t.nodes[i]? =some (Node.mk true k v l r) ->v.length<=70368744177664)(hb:t.nodes.length<=4611686018427387903):∀(t0:T) (n:Nat),Rep t.nodes n t0->qfq cfg G 320 [.fel (.int .i64 (n:Int)),.fel (tW t)] (t0.all.map enc1):=by
 intro t0;induction t0 with
 |nil=>
  intro n hr;obtain rfl:n=0:=by cases hr;rfl
  refine xdq (fn:=Tryz.f320) Y Y Y (Yb rfl) (λL E R hy k0=>?_);exact z1q 15 Y (j0q Qx rfl hy)
 |leaf k v=>
  intro n hr;have hle:=hr.le;cases hr with
  |leaf h=>
  rename_i n l r;have hvl:=hv _ _ _ _ _ h;refine xdq (fn:=Tryz.f320) Y Y Y (Yb rfl) (λL E R hy k0=>?_);refine z1q 12 Y ?_;refine gS 0 Y (λh1=>?_) (λh1=>?_)
  ·exfalso;omega
  ·refine gA 7 Y (n) (gP 0 Y (zrq (i:=n) Y Y Y Y Y Y Y (zoq nW h)) (zeq 20 Y (fl_ps Y Y Y Y Y Y (ZPq v false hvl) Xj Xj Xq (zaq Y Y ?_))));refine yNq rfl (qMq Y Y Y (hy) (λb R1 hb=>?_));refine⟨by first|rfl|kernel_rfl,?_⟩;exact y4q 4 Y (j0q Qx rfl (yl_same (l:=[]) hb))
 | fork tl tr ihL ihR=>
  intro n hr;have hle:=hr.le;cases hr with
  |fork h hl hr hL hR=>
  rename_i n l r k v;refine xdq (fn:=Tryz.f320) Y Y Y (Yb rfl) (λL E R hy k0=>?_);refine z1q 12 Y ?_;refine gS 0 Y (λh1=>?_) (λh1=>?_)
  ·exfalso;omega
  ·refine gA 7 Y (n) (gP 0 Y (zrq (i:=n) Y Y Y Y Y Y Y (zoq nW h)) (gC 18 Y (jDq _) (zeq 4 Y ?_)));refine uNq (α:=Nat×Res) (λp=>p.1<=2/\Yl cfg G L E ((restL tl tr p.1).map enc1) p.2) (λp=>[(28,.int .i64 (p.1:Int))]) [(2,_),(3,_),(27,_)] (λp=>p.2) (λp=>2-p.1) ((0,R)) ⟨rfl,rfl,rfl,trivial⟩ (⟨by simp,hy⟩) ⟨rfl,trivial⟩ rfl (λp hI=>?_);obtain⟨i,R⟩:=p;obtain⟨hi,hy⟩:=hI;simp only at hi hy⊢;refine z1q 6 Y ?_;refine gS 0 Y (λh2=>?_) (λh2=>?_)
   ·have hi':i=0\/i=1:=by omega
    rcases hi' with rfl|rfl
    ·skip
     refine gC 14 Y (teach_s t l) (zeq 3 Y ?_);refine uMq (enc1) (tl.all) (λi a=>Yl cfg G L E (((tl.all.drop i)++tr.all).map enc1) a) (λa=>a) (R) rfl Xk (ihL _ hL) (λy _=>⟨by simp[enc1],rfl⟩) (hy) rfl (λi a y hy hI=>?_) (λa hI=>?_)
     ·have hd:=xnq hy;rw[hd,List.cons_append,List.map_cons] at hI;refine z1q 4 Y (Z9q (z1q 5 Y ?_));refine gSo 0 Y (qMq Y Y Y (hI) (λb R1 hb=>?_));refine gS 3 Y (λh3=>?_) (λh3=>?_)
      ·cases b with
       |true=>cases h3
       |false=>
        exact yvq 2 Y (vNq Xh (zYq 3 Y (gO 0 Y (zeq 1 Y (j0q Qx rfl hb)))))
      ·cases b with
       |false=>exact absurd rfl h3
       |true=>
        exact yvq 2 Y (vMq (R1) (hb) Xd Yi rfl)
     ·rw[List.drop_length,List.nil_append] at hI;exact zYq 4 Y (gA 0 Y (1) (gAg 2 Y ((1,a)) (⟨by simp,hI⟩) Xj))
    ·skip
     refine gC 14 Y (teach_s t r) (zeq 3 Y ?_);refine uMq (enc1) (tr.all) (λi a=>Yl cfg G L E ((tr.all.drop i).map enc1) a) (λa=>a) (R) rfl Xk (ihR _ hR) (λy _=>⟨by simp[enc1],rfl⟩) (hy) rfl (λi a y hy hI=>?_) (λa hI=>?_)
     ·have hd:=xnq hy;rw[hd,List.map_cons] at hI;refine z1q 4 Y (Z9q (z1q 5 Y ?_));refine gSo 0 Y (qMq Y Y Y (hI) (λb R1 hb=>?_));refine gS 3 Y (λh3=>?_) (λh3=>?_)
      ·cases b with
       |true=>cases h3
       |false=>
        exact yvq 2 Y (vNq Xh (zYq 3 Y (gO 0 Y (zeq 1 Y (j0q Qx rfl hb)))))
      ·cases b with
       |false=>exact absurd rfl h3
       |true=>
        exact yvq 2 Y (vMq (R1) (hb) Xd Yi rfl)
     ·rw[List.drop_length] at hI;exact zYq 4 Y (gA 0 Y (2) (gAg 2 Y ((2,a)) (⟨by simp,hI⟩) Xj))
   ·refine gO 2 Y (zeq 1 Y ?_);obtain rfl:i=2:=by omega
    exact j0q (.inl rfl) rfl hy
noncomputable def psW(ps:List Pr):W:=.fz (ps.map pW) 33 false
@[simp] theorem psW_p(ps:List Pr):purW (psW ps)=true:=jpq ps
noncomputable def gat(ps:List Pr):HpW:=match ps with
 |[]=>[(0,53,.nils)]
 |_=>[(0,53,.sl 1 0 0 ps.length 33 none),(1,191,.arr (ps.length*33) 33 (ps.map pW))]
theorem gat_snoc(a:List Pr)(y:Pr):gat (a++[y])=[(0,53,.sl 1 0 0 (a.length+1) 33 none),(1,191,.arr ((a.length+1)*33) 33 (a.map pW++[pW y]))]:=by
 cases a with
 |nil=>rfl
 |cons x a=>simp[gat]
theorem pur1{a:List Pr}{y:Pr}{n:Nat}(e:Nat):purW (.arr n e (a.map pW++[pW y]))=true:=by simp
theorem aseq_s(f:FuncId)(cs:List W)(ls:List Pr)(hc:purL cs=true)(it:qfq cfg G f cs (ls.map enc1))(hb:ls.length<=1000000000):PS cfg G 319 [.nils,.fn f [] cs] (psW ls):=by
 refine gIv 13 Y (λR k0=>?_);refine co_rangeN (α:=List Pr) (enc1) (ls) (λi a=>a=ls.take i) (λa=>gat a) (λa=>(match a with|[]=>1|_=>2)) (λa=>R) ([]) rfl Xk (it) (λy _=>⟨by simp[enc1],rfl⟩) (rfl) Y Y Y (λi a y hy hI=>?_) (λa hI=>?_)
 ·have hi:=(List.getElem?_eq_some_iff.1 hy).1;have hn:ls.take (i+1)=a++[y]:=by rw[List.take_add_one,hy,hI];rfl
  cases a with
  |nil=>
   skip
   refine z1q 4 Y (Z9q (z1q 5 Y (gM 0 Y (ytq Y Y (xqq (news:=[pW y]) (k:=ti191) Y Y Y Y (yQq Y Y Y Y) Xj (by show 1*ti191.bytes<=_;decide) (by show 1<=_;decide))) (zeq 3 Y (Y6q (ls.take (i+1)) Y ?_)))));rw[hn,gat_snoc];refine qdq (b:=1) (k:=3) Xd Xd (by show 3<4;omega) trivial ⟨⟨by omega,rfl,rfl⟩,⟨by omega,?_,zkq (pur1 _)⟩,trivial⟩ Xj;rw[zZq (pur1 _)];rfl
  |cons x a=>
   have hl:(x::a).length<=1000000000:=by rw[hI,List.length_take];omega
   have el:((x::a).map pW).length=(x::a).length:=List.length_map _;refine z1q 4 Y (Z9q (z1q 5 Y (gM 0 Y (ytq Y Y (qqq (len:=(x::a).length) (news:=[pW y]) (olds:=(x::a).map pW) (k:=ti191) Y Y Y Y (yQq Y Y Y Y) Xj (by show((x::a).length+1)*56<=_;omega) (by show(x::a).length+1<=_;omega) rfl (by show(x::a).length*33<0+((x::a).length+1)*33;omega) rfl (zpq Xn el.symm rfl))) (zeq 3 Y (Y6q (ls.take (i+1)) Y ?_)))));rw[hn,gat_snoc];refine qdq (b:=1) (k:=4) Xd Xd Qk trivial ⟨⟨by omega,rfl,rfl⟩,⟨by omega,?_,zkq (pur1 _)⟩,trivial⟩ Xj;rw[zZq (pur1 _)];rfl
 ·obtain rfl:a=ls:=by rw[hI,List.take_length]
  cases a with
  |nil=>
   skip
   refine zYq 9 Y (y0q Xt Y ?_)
   (repeat (first|exact .nil|refine .cons ?_ ?_|exact z4q|exact .nilfz|refine .fn ?_ ?_|(refine yPq Y ?_ rfl;(first|rfl|(focus (simp;done))))|(refine .sl Y ?_ rfl Xh;(first|rfl|(focus (simp;done))))|(refine .pur ?_;(first|rfl|(focus (simp;done))))|(refine .fzw ?_;(first|rfl|(focus (simp;done))))|refine .agg ?_|refine .arr ?_|refine .tup ?_))
  |cons x a=>
   exact zYq 9 Y (y0q Xt Y (.sl rfl (by show purL ((x::a).map pW)=true;exact jpq _) (zpq Xn (List.length_map _).symm rfl) Xh))
theorem collect_s(f:FuncId)(cs:List W)(ls:List Pr)(hc:purL cs=true)(it:qfq cfg G f cs (ls.map enc1))(hb:ls.length<=1000000000):PS cfg G 256 [.fn f [] cs] (psW ls):=by
 exact gI 8 Y (λR k0=>op_ps Y Y Y Y Y Y (aseq_s f cs ls hc it hb) (by simp[hc]) Xj (zAq 4 Y (gQa 0 Y)))
theorem nodup_le{α:Type} [DecidableEq α]:∀(l m:List α),l.Nodup->(∀x∈l,x∈m) ->l.length<=m.length
 |[],m,_,_=>Nat.zero_le _
 |x::l,m,hn,hs=>by
  obtain⟨h1,h2⟩:=List.nodup_cons.1 hn;have hx:=hs x Xj;have ih:=nodup_le l (m.erase x) h2 λy hy=>(List.mem_erase_of_ne (λe:y=x=>h1 (by rw[<-e];exact hy))).2 (hs y (by simp[hy]))
  rw[List.length_erase_of_mem hx] at ih;have:0<m.length:=List.length_pos_of_mem hx;simp only[List.length_cons];omega
theorem rep_mem{ns:List Node}{n:Nat}{t:T}(h:Rep ns n t):∀p∈t.all,∃(i:Nat) (l r:Int),ns[i]? =some (Node.mk true p.1 p.2 l r):=by
 induction h with
 |nil=>intro p hp;simp[T.all] at hp
 |leaf h=>intro p hp;simp only[T.all,List.mem_singleton] at hp;subst hp;exact⟨_,_,_,h⟩
 |fork h hl hr _ _ i1 i2=>
  intro p hp;rcases List.mem_append.1 hp with hp|hp
  ·exact i1 p hp
  ·exact i2 p hp
theorem srt_nodup{l:List Pr}(h:Srt l):(l.map (·.1)).Nodup:=by
 rw[List.nodup_iff_pairwise_ne,List.pairwise_map];exact h.imp λh=>uPq h
theorem IsT.srt{t:Tree}{n:Nat}{t0:T}(h:IsT t n t0):Srt t0.all:=ok_srt YNq h.ok
theorem IsT.all_le{t:Tree}{n:Nat}{t0:T}(h:IsT t n t0):t0.all.length<=t.nodes.length:=by
 have:=nodup_le (t0.all.map (·.1)) (t.nodes.map (·.key)) (srt_nodup h.srt) λk hk=>by
  obtain⟨p,hp,rfl⟩:=List.mem_map.1 hk;obtain⟨i,l,r,hx⟩:=rep_mem h.rep p hp;exact List.mem_map.2 ⟨_,List.mem_of_getElem? hx,rfl⟩
 simpa using this
theorem IsT.val{t:Tree}{n:Nat}{t0:T}(h:IsT t n t0):∀p∈t0.all,0<p.2.length/\p.2.length<=64:=λp hp=>by
 obtain⟨i,l,r,hx⟩:=rep_mem h.rep p hp;exact u8q h.okn hx
theorem tpairs_s(t:Tree)(n:Nat)(t0:T)(h:IsT t n t0):PS cfg G 181 [tW t] (.tup [psW t0.all,.int .i64 0]):=by
 have hl:=h.len;have hy:=h.may;have ha:=h.all_le;have hr:=h.root;obtain⟨ns,root⟩:=t;simp only at hl hr ha;subst hr;exact gI 11 Y (λR k0=>gC 0 Y (zOq (w':=.int .i64 0) (kvq ⟨ns,(n:Int)⟩ Yq) (by rw[if_pos hy])) (zeq 17 Y (jiq Y Y Y Y Y Y (teach_s ⟨ns,(n:Int)⟩ (n:Int)) (jiq Y Y Y Y Y Y (collect_s _ _ t0.all Xj (teach_it ⟨ns,(n:Int)⟩ (λi k v l r hx=>by have:=(u8q h.okn hx).2;omega) Yq t0 n h.rep) Xd) (zAq 5 Y (gQa 0 Y))))))
theorem tpairs_no(t:Tree)(hb:t.nodes.length<=4611686018427387903)(h:¬MayT t):PS cfg G 181 [tW t] (.tup [.nils,.int .i64 8]):=by
 exact gI 11 Y (λR k0=>gC 0 Y (zOq (w':=.int .i64 8) (kvq t hb) (by rw[if_neg h])) (gQa 19 Y))
theorem aeach_s(t:Tree):PS cfg G 171 [tW t] (.fn 243 [] [.fel (tW t)]):=by
 refine gI 13 Y (λR k0=>?_);refine qlq (fr2:=[(2,_)]) Xt ?_ Y Y
 (repeat (first|exact trivial|refine And.symm ⟨?_,_,rfl,?_⟩))<;>(repeat (first|exact .nil|refine .cons ?_ ?_|refine .fn ?_ ?_|(refine yPq Y ?_ rfl;(first|rfl|(focus (simp;done))))|(refine .sl Y ?_ rfl Xh;(first|rfl|(focus (simp;done))))|(refine .pur ?_;(first|rfl|(focus (simp;done))))|refine .agg ?_|refine .arr ?_|refine .tup ?_))
noncomputable def encA(p:Pr):List W:=[aW (qtq p.2).1,.bool (decide ((((qtq p.2).2:Nat):Int)=0))]
noncomputable def encZ(_:Unit):List W:=[aW .zero,.bool false]
theorem aeach_no(t:Tree)(hb:t.nodes.length<=4611686018427387903)(h:¬MayT t):qfq cfg G 243 [.fel (tW t)] ([()].map encZ):=by
 refine xdq (fn:=Tryz.f243) Y Y Y (Yb rfl) (λL E R hy k0=>?_);refine z1q 3 Y (gC 0 Y (tpairs_no t hb h) ?_);refine gSo 19 Y (qMq Y Y Y (hy) (λb R1 hb=>?_));exact zeq 4 Y (j0q Qx rfl (yl_same (l:=[]) hb))
theorem aeach_it(t:Tree)(n:Nat)(t0:T)(h:IsT t n t0):qfq cfg G 243 [.fel (tW t)] (t0.all.map encA):=by
 have e:(t0.all.map pW).length=t0.all.length:=List.length_map _;have hl:=h.len;have ha:=h.all_le;refine xdq (fn:=Tryz.f243) Y Y Y (Yb rfl) (λL E R hy k0=>?_);refine z1q 3 Y (gC 0 Y (tpairs_s t n t0 h) (gV (w':=.int .i64 (t0.all.length:Int)) 20 Y Xw (zeq 4 Y ?_)));refine uNq (α:=Nat×Res) (λp=>p.1<=t0.all.length/\Yl cfg G L E ((t0.all.drop p.1).map encA) p.2) (λp=>[(21,.int .i64 (p.1:Int))]) [(0,_),(19,_),(20,_)] (λp=>p.2) (λp=>t0.all.length-p.1) ((0,R)) ⟨rfl,rfl,rfl,trivial⟩ (⟨by simp,hy⟩) ⟨rfl,trivial⟩ rfl (λp hI=>?_);obtain⟨i,R⟩:=p;obtain⟨hi,hy⟩:=hI;simp only at hi hy⊢;refine z1q 6 Y ?_;refine gS 0 Y (λh1=>?_) (λh1=>?_)
 ·have hi':i<t0.all.length:=by omega
  obtain⟨x,hx⟩:∃x,t0.all[i]? =some x:=⟨_,List.getElem?_eq_getElem hi'⟩
  have hv:=h.val x (List.mem_of_getElem? hx);rw[xnq hx,List.map_cons] at hy;refine gP 6 Y (zrq (i:=i) Y Y Y Y Y Y Y (zoq pW hx)) (zeq 9 Y (jiq Y Y Y Y Y Y (aread_s x.2 false Xd) (zAq 13 Y (gU 0 Y ?_))));refine gSo 0 Y (qMq Y Y Y (hy) (λb R1 hb=>?_));refine gS 3 Y (λh2=>?_) (λh2=>?_)
  ·cases b with
   |true=>cases h2
   |false=>
    exact yvq 3 Y (gO 0 Y (zeq 1 Y (j0q Qx rfl hb)))
  ·cases b with
   |false=>exact absurd rfl h2
   |true=>
    exact yvq 4 Y (gA 0 Y (i+1) (gAg 2 Y ((i+1,R1)) (⟨hi',hb⟩) Ya))
 ·refine gO 2 Y (zeq 1 Y ?_);obtain rfl:i=t0.all.length:=by omega
  rw[List.drop_length] at hy;exact j0q (.inl rfl) rfl hy
theorem encA_ok{l:List Pr}:∀y∈l,purL (encA y)=true/\(encA y).length=2:=λy _=>⟨rfl,rfl⟩
structure IsA(t:Tree)(n:Nat)(t0:T):Prop extends IsT t n t0 where
 held:∀p∈t0.all,(qtq p.2).2=0
def MayA(t:Tree):Prop:=∃n t0,IsA t n t0
noncomputable instance(t:Tree):Decidable (MayA t):=Classical.propDecidable _
theorem xHq(t:Tree)(hb:t.nodes.length<=4611686018427387903):PS cfg G 84 [tW t] (.int .i64 (if MayA t then 0 else 8)):=by
 by_cases h:MayT t
 ·obtain⟨n,t0,h⟩:=may_is h;refine gI 10 Y (λR k0=>gC 0 Y (aeach_s _) (zeq 3 Y ?_));refine uMq (encA) (t0.all) (λi (_:Unit)=>∀j p,j<i->t0.all[j]? =some p->(qtq p.2).2=0) (λ_=>R) (()) rfl Xk (aeach_it t n t0 h) (encA_ok) (λj p hj=>by omega) rfl (λi a y hy hI=>?_) (λa hI=>?_)
  ·refine z1q 3 Y (Z9q (z1q 7 Y ?_));refine gS 0 Y (λh1=>?_) (λh1=>?_)
   ·have hno:¬MayA t:=by
     rintro⟨n',t1,ha⟩;obtain rfl:n'=n:=by have:=ha.root;have:=h.root;omega
     obtain rfl:=ha.rep.uniq h.rep;have:=ha.held y (List.mem_of_getElem? hy);rw[this] at h1;simp at h1
    exact zeq 7 Y (vNq Xh (zYq 2 Y (gQ 0 Y Yf)))
   ·have hok:(qtq y.2).2=0:=by simp at h1;omega
    exact zeq 2 Y (vMq (()) (λj p hj hp=>by rcases Nat.lt_succ_iff_lt_or_eq.1 hj with q|rfl;exact hI j p q hp;exact(Option.some.inj (hy.symm.trans hp))▸hok) Xd Yi rfl)
  ·have yes:MayA t:=⟨n,t0,h,λp hp=>by
    obtain⟨j,hj,hjp⟩:=List.getElem_of_mem hp;exact hI j p hj (by rw[List.getElem?_eq_getElem hj,hjp])⟩
   exact zYq 8 Y (gQ 0 Y Qp)
 ·have hno:¬MayA t:=λ⟨n,t0,ha⟩=>h ha.toIsT.may
  refine gI 10 Y (λR k0=>gC 0 Y (aeach_s _) (zeq 3 Y ?_));refine ZOq (encZ) ([()]) (λi=>i=0) rfl Xk (aeach_no t hb h) (λy _=>⟨rfl,rfl⟩) (rfl) (λi y hy hI=>?_) (λhI=>?_)
  ·exact z1q 3 Y (Z9q (z1q 15 Y (joq Xh (zYq 2 Y (gQ 0 Y Yf)))))
  ·exfalso;simp at hI
def uQq(t0:T)(k:Dig):Acct:=match t0.find k 0 with
 |none=>.zero
 |some v=>(qtq v).1
theorem IsA.acct{t:Tree}{n:Nat}{t0:T}(h:IsA t n t0){k:Dig}{v:List UInt8}(hv:t0.find k 0=some v):(k,v)∈t0.all/\(qtq v).2=0:=by
 rw[uCq k YNq h.ok] at hv;have:=(findL_some h.srt).1 hv;exact⟨this,h.held _ this⟩
theorem aget_s(t:Tree)(n:Nat)(t0:T)(h:IsA t n t0)(k:Dig):PS cfg G 124 [tW t,dW k] (.tup [aW (uQq t0 k),.int .i64 0]):=by
 have yes:MayA t:=⟨n,t0,h⟩;have hl:=h.len;cases hf:t0.find k 0 with
 |none=>
  have e:uQq t0 k= .zero:=by unfold uQq;rw[hf]
  rw[e];refine gI 12 Y (λR k0=>?_);first|refine gC 0 Y (zOq (w':=.int .i64 0) (xHq t Xd) Qp) ?_|refine gC 0 Y (xHq _ Xd) ?_
  exact gC 16 Y (zOq (w':=.tup [.nils,.bool false]) (tget_s t n t0 k h.toIsT) (by rw[hf];rfl)) (gQa 24 Y)
 |some v=>
  obtain⟨h1,h2⟩:=h.acct hf;have hv:=h.val _ h1;have e:uQq t0 k=(qtq v).1:=by unfold uQq;rw[hf]
  rw[e];refine gI 12 Y (λR k0=>?_);first|refine gC 0 Y (zOq (w':=.int .i64 0) (xHq t Xd) Qp) ?_|refine gC 0 Y (xHq _ Xd) ?_
  exact gC 16 Y (zOq (w':=.tup [bW v,.bool true]) (tget_s t n t0 k h.toIsT) (by rw[hf];rfl)) (zeq 20 Y (jiq Y Y Y Y Y Y (aread_s v false (by simp only at hv;omega)) (zAq 7 Y (gQ 0 Y (by rw[h2];rfl)))))
noncomputable def nsW(ns:List Node):W:=.arr (ns.length*36) 36 (ns.map nW)
@[simp] theorem nsW_p(ns:List Node):purW (nsW ns)=true:=Qgq ns
theorem nclone_s(ns:List Node)(f:Bool)(hl:ns.length<=1000000000):j9q cfg G 166 0 [.fz (ns.map nW) 36 f] [] λw hp nw=>
  (ns=[]/\w= .nils/\hp=[]/\nw=0)\/(w= .sl 0 0 0 ns.length 36 none/\hp=[(0,163,nsW ns)]/\nw=1):=by
 intro R;have e:(ns.map nW).length=ns.length:=List.length_map _;refine gIs 9 Y (λk0=>?_);first|refine zcq Y Y ?_|refine ycq rfl (uhq Y Y Y Y Y (λbn hn=>?_))
 refine zAq 2 Y ?_;refine gS 0 Y (λh1=>?_) (λh1=>?_)
 ·cases bn with
  |false=>cases h1
  |true=>
   have hn:=hn rfl
   have hl0:ns=[]:=by cases ns with
    |nil=>rfl
    |cons c l=>simp at hn
   exact yvq 7 Y (fin Qx Ent.refl rfl ⟨rfl,.inl ⟨hl0,rfl,rfl,rfl⟩⟩)
 ·cases ns with
  |nil=>
   skip
   exact yvq 6 Y (gM 0 Y (ytq Y Y (kRq Y Y Y Y Y)) (zeq 4 Y (fin Qx Ent.refl rfl ⟨rfl,.inr ⟨rfl,rfl,rfl⟩⟩)))
  |cons c l=>
   refine yvq 6 Y (gM 0 Y (ytq Y Y (qqq (len:=0) (news:=(c::l).map nW) (olds:=[]) (k:=ti163) Y Y Y Y Y Xj (by show(0+((c::l).map nW).length)*ti163.bytes<=_;rw[e];show(0+(c::l).length)*80<=_;omega) (by rw[e];omega) rfl (by show 0<0+(0+((c::l).map nW).length)*36;rw[e];simp only[List.length_cons];omega) Y Y)) (zeq 4 Y ?_));refine fin Qx (qdq (b:=0) (k:=1) (fr2:=[(2,.sl 0 0 0 (c::l).length 36 none)]) (hp2:=[(0,163,nsW (c::l))]) Xd Xd (by show 1<2;omega) ⟨⟨?_,rfl⟩,trivial⟩ ⟨⟨by omega,?_,zkq (nsW_p _)⟩,trivial⟩ Xj) rfl ⟨rfl,.inr ⟨rfl,rfl,rfl⟩⟩
   ·show some (W.sl 1 0 0 (0+((c::l).map nW).length) 36 none)=some (W.sl 1 0 0 (c::l).length 36 none);rw[e,Nat.zero_add]
   ·rw[zZq (nsW_p _)];show some (163,W.arr ((0+((c::l).map nW).length)*36) 36 ([]++(c::l).map nW))=some (163,nsW (c::l));rw[e,Nat.zero_add];rfl
theorem node_get(ns:List Node){i:Nat}{x:Node}(h:ns[i]? =some x):z6q 50 (nsW ns) (0+i*36+33) 1 false=some (bW x.val):=
 get_in (zoq nW h) Xd Xd Xj rfl
theorem node_put(ns:List Node){i:Nat}{x:Node}(h:ns[i]? =some x):quq 50 (nsW ns) (0+i*36+33) (bW x.val)=some (nsW ns):=by
 have h1:=zoq nW h;rw[nsW,put_in (x':=nW x) h1 Xd Xd (by simp[W.isAgg,bW]) rfl,set_same h1]
theorem twin_s(ns:List Node)(root:Int)(hl:ns.length<=1000000000)(hv:∀x∈ns,x.val.length<=70368744177664):j9q cfg G 74 0 [tW ⟨ns,root⟩] [] λw hp nw=>
  (ns=[]/\w= .agg 2 [.nils,.int .i64 root]/\hp=[(1,24,.agg 2 [.nils,.int .i64 root]),(0,24,.agg 2 [.nils,.int .i64 root])]/\nw=2)\/
  (w= .agg 2 [.sl 2 0 0 ns.length 36 none,.int .i64 root]/\hp=[(2,163,nsW ns),(1,24,.agg 2 [.sl 2 0 0 ns.length 36 none,.int .i64 root]),(0,24,.agg 2 [.sl 2 0 0 ns.length 36 none,.int .i64 root])]/\nw=3):=by
 intro R;refine gIs 10 Y (λk0=>?_);skip
 refine gSo 0 Y (jYq Y Y Y Y Y (by simp[Qgq]) (nclone_s ns false hl) ?_);rintro w hp1 nw1 (⟨hn,rfl,rfl,rfl⟩|⟨rfl,rfl,rfl⟩)
 ·skip
  skip
  refine gL 9 Y ?_;refine gLo (α:=Nat) 4 (λi=>i=0) (λi=>[(11,.int .i64 (i:Int))]) [1,2,10] (λi=>1-i) (0) rfl (rfl) (λi hI=>?_);subst hI;exact gO 9 Y (zeq 9 Y (fin Qx Ent.refl rfl ⟨rfl,.inl ⟨hn,rfl,rfl,rfl⟩⟩))
 ·rw[renH_pur1 (nsW_p _)];show OpW cfg G _ _ _ _ [(2,163,nsW ns),(1,24,.agg 2 [.nils,.int .i64 0]),(0,24,tW ⟨ns,root⟩)] 3 R _;refine zAq 9 Y (gL 0 Y ?_);refine gLo (α:=Nat) 4 (λi=>i<=ns.length) (λi=>[(11,.int .i64 (i:Int))]) [1,2,10] (λi=>ns.length-i) (0) rfl (Nat.zero_le _) (λi hI=>?_);refine gS 6 Y (λh1=>?_) (λh1=>?_)
  ·have hi:i<ns.length:=by omega
   obtain⟨x,hx⟩:∃x,ns[i]? =some x:=⟨_,List.getElem?_eq_getElem hi⟩
   have hxv:=hv x (List.mem_of_getElem? hx);refine gP 17 Y (yTq (i:=i) Y Y Y Y Y Y Y hi) (gM 1 Y (yMq Y Y Y (node_get ns hx)) (fl_ps Y Y Y Y Y Y (ZPq x.val false hxv) Xj Xj Xq ?_));refine zaq rfl (yTq (i:=i) Y Y Y Y Y Y Y hi) (zaq Y Y ?_);exact qNq rfl (st_same Y Y Y Y Y (node_put ns hx)) Xq (y4q 4 Y (gA 0 Y (i+1) (gAg 2 Y (i+1) (hi) Xd)))
  ·exact gO 2 Y (zeq 9 Y (fin Qx Ent.refl rfl ⟨rfl,.inr ⟨rfl,rfl,rfl⟩⟩))
noncomputable def mkW(b n:Nat)(root:Int):W:=.agg 2 [.sl b 0 0 n 36 none,.int .i64 root]
theorem view_mk{hp:HpW}{b:Nat}{ns:List Node}{root:Int}(h:hget hp b=some (163,nsW ns)):View (blkA hp) (mkW b ns.length root) (tW ⟨ns,root⟩):=
 .agg (.cons (.sl (c:=nsW ns) (by unfold blkA;rw[h]) (nsW_p ns) (zpq Xn (List.length_map _).symm rfl) Xh) (.cons (.pur rfl) .nil))
noncomputable def setL(l:List Pr)(k:Dig)(a:Acct):List Pr:=if a= .zero then withoutL l k else withL l k (bytesA a)
def YMq(t:Tree)(m:Nat):Prop:=m<t.nodes.length\/∃i x,i<=m/\t.nodes[i]? =some x/\100<x.val.length
noncomputable instance(t:Tree)(m:Nat):Decidable (YMq t m):=Classical.propDecidable _
theorem great_s(t:Tree)(m:Nat)(hb:t.nodes.length<=4611686018427387903)(hm:m<=4611686018427387903):PS cfg G 70 [tW t,.int .i64 (m:Int)] (.bool (decide (YMq t m))):=by
 have e:(t.nodes.map nW).length=t.nodes.length:=List.length_map _;refine gI 13 Y (λR k0=>?_);refine gLo (α:=Nat) 0 (λi=>i<=t.nodes.length/\∀j x,j<i->t.nodes[j]? =some x->x.val.length<=100) (λi=>[(5,.int .i64 (i:Int))]) [1,2,4] (λi=>t.nodes.length-i) (0) rfl (⟨Nat.zero_le _,λj x h=>by omega⟩) (λi hI=>?_);obtain⟨hI,hJ⟩:=hI;refine gV (w':=.int .i64 (t.nodes.length:Int)) 6 Y Xw ?_;refine gD 0 Y (λh1=>?_) (λh1=>?_)
 ·have hi:i<t.nodes.length:=by omega
  obtain⟨x,hx⟩:∃x,t.nodes[i]? =some x:=⟨_,List.getElem?_eq_getElem hi⟩
  have ex:=zdq x.val;refine gU 3 Y ?_;refine gS 3 Y (λh2=>?_) (λh2=>?_)
  ·refine gP 9 Y (zrq (i:=i) Y Y Y Y Y Y Y (zoq nW hx)) ?_;refine gV (w':=.int .i64 (x.val.length:Int)) 2 Y (by rw[<-ex];rfl) ?_;refine gS 3 Y (λh3=>?_) (λh3=>?_)
   ·refine gO 8 Y ?_;exact gQ 2 Y (by rw[decide_eq_true (show YMq t m from .inr ⟨i,x,by omega,hx,by omega⟩)])
   ·refine gA 5 Y (i+1) ?_;exact gAg 2 Y (i+1) (⟨hi,λj y hj hy=>by rcases Nat.lt_succ_iff_lt_or_eq.1 hj with q|rfl;exact hJ j y q hy;have:=Option.some.inj (hx.symm.trans hy);subst this;omega⟩) Xd
  ·refine gO 2 Y ?_;refine gV (w':=.int .i64 (t.nodes.length:Int)) 6 Y Xw ?_;refine gU 1 Y ?_;exact gQ 4 Y (by rw[decide_eq_true (show YMq t m from .inl Xd)];congr 1;exact decide_eq_true (show(m:Int)<(t.nodes.length:Int) by omega))
 ·refine gO 10 Y ?_;refine gV (w':=.int .i64 (t.nodes.length:Int)) 6 Y Xw ?_;refine gU 1 Y ?_;refine gQ 4 Y ?_;congr 1
  refine decide_eq_decide.2 ⟨λq=>.inl (show m<t.nodes.length by have q:(m:Int)<(t.nodes.length:Int):=q;omega),?_⟩;rintro(q|⟨j,x,_,hx,hq⟩)
  ·show(m:Int)<(t.nodes.length:Int);omega
  ·have:=hJ j x (by have:=(List.getElem?_eq_some_iff.1 hx).1;omega) hx;omega
theorem cv_str{C:Cfg}{G:Nat->Option W}{fr:FrW}{hp:HpW}{nw:Nat}{s t e:TypeId}{x:Operand}{js jt:TyI}{l:List UInt8}{f:Bool}(hs:C.ty s=some js)(ht:C.ty t=some jt)(hx:evW C G fr x=some (.fz (zbq l) 1 f))(hjs:js.d= .slice e)(hjt:jt.d= .str)(he:ZJq C e=some (.int .u8)):opHW C G fr hp nw (.convert s t x)=some (.str l,hp,nw,.gen):=by
 simp only[opHW,hConv,hs,ht,hx,hjs,hjt,he,bytesOf_W]
theorem same_s(a b:List UInt8)(f g:Bool):PS cfg G 78 [.fz (zbq a) 1 f,.fz (zbq b) 1 g] (.bool (decide (a=b))):=by
 exact gI 8 Y (λR k0=>gM 0 Y (cv_str Y Y Y Y Y Y) (gM 1 Y (cv_str Y Y Y Y Y Y) (gV (w':=.bool (decide (a=b))) 0 Y (congrArg W.bool (kpq a b)) (gQa 4 Y))))
theorem twinp_s(t:Tree)(hl:t.nodes.length<=1000000000)(hv:∀x∈t.nodes,x.val.length<=70368744177664):PS cfg G 74 [tW t] (tW t):=λR=>
 uiq (xBq (twin_s t.nodes t.root hl hv) (Q:=λw hp _=>View (blkA hp) w (tW t)) (λw hp nw h=>by
  rcases h with ⟨hn,rfl,rfl,rfl⟩|⟨rfl,rfl,rfl⟩
  ·refine .agg (.cons ?_ (.cons (.pur rfl) .nil));rw[hn];exact .nilfz
  ·exact view_mk (b:=2) (ns:=t.nodes) (root:=t.root) rfl) R)
structure Depo where
 number:Nat
 to:Dig
 amount:Nat
noncomputable def pdW(d:Depo):W:=.agg 34 [.int .u64 (d.number:Int),dW d.to,.int .u64 (d.amount:Int)]
@[simp] theorem pdW_pur(d:Depo):purW (pdW d)=true:=by simp[pdW]
def overB(t0:T)(d:Depo):Prop:=18446744073709551616<=(uQq t0 d.to).balance+d.amount
instance(t0:T)(d:Depo):Decidable (overB t0 d):=inferInstanceAs (Decidable (_<=_))
end
noncomputable def rotN(x n:Nat):Nat:=Nat.lor (Nat.shiftLeft x (32-n)%4294967296%4294967296) (Nat.shiftRight x n%4294967296)
noncomputable def addN(a b:Nat):Nat:=(a+b)%4294967296
noncomputable def xorN(a b:Nat):Nat:=Nat.xor (a%4294967296) (b%4294967296)
noncomputable def andN(a b:Nat):Nat:=Nat.land (a%4294967296) (b%4294967296)
noncomputable def shrN(a k:Nat):Nat:=Nat.shiftRight a (min k 32)
noncomputable def shlN(a k:Nat):Nat:=Nat.shiftLeft a (min k 32)%4294967296
noncomputable def orN(a b:Nat):Nat:=Nat.lor (a%4294967296) (b%4294967296)
noncomputable def notN(a:Nat):Nat:=Nat.xor (4294967295%4294967296) (a%4294967296)
noncomputable def wd(x:Nat):W:=.int .u32 (.ofNat x)
theorem jbq(n:Nat)(hn:n=2\/n=6\/n=7\/n=11\/n=13\/n=17\/n=18\/n=19\/n=22\/n=25)(G:Nat->Option W)(x:Nat):j9q cfg G 342 0 [wd x,.int .i64 (.ofNat n)] [] λw hp nw=>w=wd (rotN x n)/\hp=[]/\nw=0:=by
 have key:∀h,qgq cfg 20 342 [.int .u32 (.ofNat x),.int .i64 (.ofNat n)] h=some (.int .u32 (.ofNat (rotN x n)),h):=by
  intro h;rcases hn with rfl|rfl|rfl|rfl|rfl|rfl|rfl|rfl|rfl|rfl<;>kernel_rfl
 refine spec_run key (λΓ us h=>?_) (λΓ=>RV_int.2 rfl);obtain⟨v,vs,rfl,h1,h2⟩:=RVL_cons.1 h;obtain⟨v',vs',rfl,h3,h4⟩:=RVL_cons.1 h2;rw[RVL_nil.1 h4,RV_int.1 h1,RV_int.1 h3]
section
attribute [local irreducible] CoW OpW FlW Step Spec
noncomputable def wordN(b0 b1 b2 b3:Nat):Nat:=orN (orN (orN (shlN (b0%4294967296) 24) (shlN (b1%4294967296) 16)) (shlN (b2%4294967296) 8)) (b3%4294967296)
noncomputable def xbq(bs:Nat->Nat)(l:List Nat):Nat:=match Nat.blt l.length 16 with
 |true=>wordN (bs (4*l.length)) (bs (4*l.length+1)) (bs (4*l.length+2)) (bs (4*l.length+3))
 |false=>addN (addN (addN (l.getD (l.length-16) 0) (xorN (xorN (rotN (l.getD (l.length-15) 0) 7) (rotN (l.getD (l.length-15) 0) 18)) (shrN (l.getD (l.length-15) 0) 3))) (l.getD (l.length-7) 0)) (xorN (xorN (rotN (l.getD (l.length-2) 0) 17) (rotN (l.getD (l.length-2) 0) 19)) (shrN (l.getD (l.length-2) 0) 10))
noncomputable def yfq(bs:Nat->Nat):Nat->List Nat
 |0=>[]
 |t+1=>yfq bs t++[xbq bs (yfq bs t)]
theorem k8q(bs:Nat->Nat):∀t,(yfq bs t).length=t
 |0=>rfl
 |t+1=>by simp[yfq,k8q bs t]
theorem u9q{l:List Nat}{i:Nat}(h:i<l.length):(l.map wd)[i]? =some (wd (l.getD i 0)):=by
 simp[List.getElem?_map,List.getElem?_eq_getElem h,List.getD]
noncomputable def kW:List Nat:=[1116352408,1899447441,3049323471,3921009573,961987163,1508970993,2453635748,2870763221,3624381080,310598401,607225278,1426881987,1925078388,2162078206,2614888103,3248222580,3835390401,4022224774,264347078,604807628,770255983,1249150122,1555081692,1996064986,2554220882,2821834349,2952996808,3210313671,3336571891,3584528711,113926993,338241895,666307205,773529912,1294757372,1396182291,1695183700,1986661051,2177026350,2456956037,2730485921,2820302411,3259730800,3345764771,3516065817,3600352804,4094571909,275423344,430227734,506948616,659060556,883997877,958139571,1322822218,1537002063,1747873779,1955562222,2024104815,2227730452,2361852424,2428436474,2756734187,3204031479,3329325298]
noncomputable def glK:Nat->Option W:=λg=>match g with
 |0=>some (.arr 64 1 (kW.map wd))
 |_=>none
noncomputable def pad0(l:List Nat)(n:Nat):List Nat:=l++List.replicate (n-l.length) 0
theorem pad0_at{l:List Nat}{n i:Nat}(h:i<l.length):((pad0 l n).map wd)[i]? =some (wd (l.getD i 0)):=by
 have:i<(pad0 l n).length:=by simp[pad0];omega
 rw[u9q this];simp[pad0,List.getD,List.getElem?_append,h]
theorem pad0_ge{l:List Nat}{n:Nat}(h:l.length<n):((pad0 l n).map wd)[l.length]? =some (wd 0):=by
 have:l.length<(pad0 l n).length:=by simp[pad0];omega
 rw[u9q this];simp[pad0,List.getD,List.getElem?_append,List.getElem?_replicate,show 0<n-l.length by omega]
theorem pad0_set{l:List Nat}{n x:Nat}(h:l.length<n):((pad0 l n).map wd).set l.length (wd x)=(pad0 (l++[x]) n).map wd:=by
 rw[<-List.map_set];congr 1
 unfold pad0;rw[List.set_append_right _ _ (Nat.le_refl _)];have:n-l.length=(n-(l++[x]).length)+1:=by simp;omega
 rw[this,Nat.sub_self,List.replicate_succ,List.set_cons_zero,List.append_assoc];rfl
structure S8 where
 (a b c d e f g h:Nat)
noncomputable def S8.l(s:S8):List W:=[wd s.a,wd s.b,wd s.c,wd s.d,wd s.e,wd s.f,wd s.g,wd s.h]
noncomputable def roundN(k w:Nat)(v:S8):S8:=
 let one:=addN (addN (addN (addN v.h (xorN (xorN (rotN v.e 6) (rotN v.e 11)) (rotN v.e 25))) (xorN (andN v.e v.f) (andN (notN v.e) v.g))) k) w
 let two:=addN (xorN (xorN (rotN v.a 2) (rotN v.a 13)) (rotN v.a 22)) (xorN (xorN (andN v.a v.b) (andN v.a v.c)) (andN v.b v.c))
 ⟨addN one two,v.a,v.b,v.c,addN v.d one,v.e,v.f,v.g⟩
noncomputable def k9q(ws:List Nat)(s:S8):Nat->S8
 |0=>s
 |t+1=>roundN (kW.getD t 0) (ws.getD t 0) (k9q ws s t)
noncomputable def add8(s v:S8):S8:=⟨addN s.a v.a,addN s.b v.b,addN s.c v.c,addN s.d v.d,addN s.e v.e,addN s.f v.f,addN s.g v.g,addN s.h v.h⟩
noncomputable def q4q(bs:Nat->Nat)(s:S8):S8:=add8 s (k9q (yfq bs 64) s 64)
noncomputable def mix8(s v:S8):Nat->List W
 |0=>s.l
 |1=>[wd (addN s.a v.a),wd s.b,wd s.c,wd s.d,wd s.e,wd s.f,wd s.g,wd s.h]
 |2=>[wd (addN s.a v.a),wd (addN s.b v.b),wd s.c,wd s.d,wd s.e,wd s.f,wd s.g,wd s.h]
 |3=>[wd (addN s.a v.a),wd (addN s.b v.b),wd (addN s.c v.c),wd s.d,wd s.e,wd s.f,wd s.g,wd s.h]
 |4=>[wd (addN s.a v.a),wd (addN s.b v.b),wd (addN s.c v.c),wd (addN s.d v.d),wd s.e,wd s.f,wd s.g,wd s.h]
 |5=>[wd (addN s.a v.a),wd (addN s.b v.b),wd (addN s.c v.c),wd (addN s.d v.d),wd (addN s.e v.e),wd s.f,wd s.g,wd s.h]
 |6=>[wd (addN s.a v.a),wd (addN s.b v.b),wd (addN s.c v.c),wd (addN s.d v.d),wd (addN s.e v.e),wd (addN s.f v.f),wd s.g,wd s.h]
 |7=>[wd (addN s.a v.a),wd (addN s.b v.b),wd (addN s.c v.c),wd (addN s.d v.d),wd (addN s.e v.e),wd (addN s.f v.f),wd (addN s.g v.g),wd s.h]
 |_=>(add8 s v).l
theorem kW_len:kW.length=64:=rfl
set_option maxHeartbeats 1600000 in
theorem block_s(s:S8)(bs:Nat->Nat)(c:W)(base off:Nat)(lim:Option Nat)(ty:TypeId)(hc:refB 2 c=true)(hby:∀i,i<64->z6q 50 c (off+i*1) 1 false=some (.int .u8 (.ofNat (bs i))))(R:Res):
  Spec cfg glK 305 2 [.ptr 0 0,.sl 1 base off 64 1 lim] [(0,419,.arr 8 1 s.l),(1,ty,c)] R λw hp nw R'=>R'=R/\w= .tup []/\hp=[(0,419,.arr 8 1 (q4q bs s).l),(1,ty,c)]/\nw=2:=by
 refine u0q (fn:=Tryz.f305) Y Y Y (Yb rfl) (λk0=>?_);refine zyq (zhq (y5q Y Y (zIq ?_)));refine zVq (zyq (zyq (zhq (zcq Y Y (zIq ?_)))));refine zVq (yaq ?_);refine qnq (λt:Nat=>t<=64) (λt=>[(19,.int .i64 (t:Int)),(4,.ptr 2 0),(1,.sl 1 base off 64 1 lim),(0,.ptr 0 0)]) (λt=>[(2,459,.arr 64 1 ((pad0 (yfq bs t) 64).map wd)),(0,419,.arr 8 1 s.l),(1,ty,c)]) (λ_=>3) (λ_=>R) (λt=>64-t) 0 (Nat.zero_le _) ?_ (λt ht=>?_)
 ·exact z7q ⟨rfl,rfl,rfl,rfl,trivial⟩ Y Y
 have hl:=k8q bs t;refine zyq (zhq (zcq Y Y (zIq ?_)));refine zVq (zyq ?_);refine q9q rfl (λhc1=>?_) (λhc1=>?_)
 ·have ht1:t<64:=by have:=ltI_iff.1 hc1;omega
  have h0:((pad0 (yfq bs t) 64).map wd)[0+t*1]? =some (wd 0):=by
   have:=pad0_ge (l:=yfq bs t) (n:=64) Xd;rw[hl] at this;simpa using this
  have key:∀x,xbq bs (yfq bs t)=x->((pad0 (yfq bs t) 64).map wd).set (0+t*1) (wd x)=(pad0 (yfq bs (t+1)) 64).map wd:=λx hx=>by
   have:=pad0_set (l:=yfq bs t) (n:=64) (x:=x) Xd;rw[hl] at this;rw[Nat.zero_add,Nat.mul_one,this,yfq,hx]
  refine qbq (zVq (zyq (yaq (zyq (zhq (zcq Y Y (zcq Y Y (zIq ?_))))))));refine zVq (zyq (zyq (zhq (zcq Y Y (zcq Y Y (zIq ?_))))));refine zVq ?_;refine q9q rfl (λhc2=>?_) (λhc2=>?_)
  ·have ht2:t<16:=by have:=ltI_iff.1 hc2;omega
   refine zyq (qZq (zaq Y Y (zaq Y Y (zaq Y Y ?_))));first|refine yzq Y Y Qw ?_|refine zaq Y Y ?_
   refine zaq rfl (yTq (i:=4*t) Y Y Y Y Y Y Y Xd) (qNq rfl (yMq Y Y Y (hby _ Xd)) Xq ?_);first|refine yzq Y Y Qw ?_|refine zaq Y Y ?_
   refine zaq Y Y (zaq Y Y (zaq Y Y ?_));first|refine yzq Y Y Qw ?_|refine zaq Y Y ?_
   first|refine yzq Y Y Qw ?_|refine zaq Y Y ?_
   refine zaq rfl (yTq (i:=4*t+1) Y Y Y Y Y Y Y Xd) (qNq rfl (yMq Y Y Y (hby _ Xd)) Xq ?_);first|refine yzq Y Y Qw ?_|refine zaq Y Y ?_
   refine zaq Y Y (zaq Y Y (zaq Y Y (zaq Y Y ?_)));first|refine yzq Y Y Qw ?_|refine zaq Y Y ?_
   first|refine yzq Y Y Qw ?_|refine zaq Y Y ?_
   refine zaq rfl (yTq (i:=4*t+2) Y Y Y Y Y Y Y Xd) (qNq rfl (yMq Y Y Y (hby _ Xd)) Xq ?_);first|refine yzq Y Y Qw ?_|refine zaq Y Y ?_
   refine zaq Y Y (zaq Y Y (zaq Y Y (zaq Y Y ?_)));first|refine yzq Y Y Qw ?_|refine zaq Y Y ?_
   first|refine yzq Y Y Qw ?_|refine zaq Y Y ?_
   refine zaq rfl (yTq (i:=4*t+3) Y Y Y Y Y Y Y Xd) (qNq rfl (yMq Y Y Y (hby _ Xd)) Xq ?_);first|refine yzq Y Y Qw ?_|refine zaq Y Y ?_
   refine zaq Y Y (zaq rfl (zHq (i:=t) Y Y Y Y Y Y Xd) ?_);refine qNq rfl (jgq Y Y Y Y Y (qcq h0 Y Y) rfl) Xq (jZq ?_);refine zVq (jrq ?_);refine kUq Xh ?_;refine vFq (zVq (zhq ?_));first|refine qvq Y Y Qw ?_|refine zcq Y Y ?_
   refine zcq Y Y (zIq ?_);refine ypq (t+1) Xd Xd (z7q ⟨rfl,rfl,rfl,rfl,trivial⟩ (congrArg (λL=>[(2,459,W.arr 64 1 L),(0,419,.arr 8 1 s.l),(1,ty,c)]) (key (wordN (bs (4*t)) (bs (4*t+1)) (bs (4*t+2)) (bs (4*t+3))) ?_)) rfl);have hb:Nat.blt (yfq bs t).length 16=true:=by rw[hl];simpa[Nat.blt_eq] using ht2
   unfold xbq;rw[hb];simp only[hl]
  ·have ht2:¬t<16:=by have:=ltI_not.1 hc2;omega
   have hA:∀k,k<t->((pad0 (yfq bs t) 64).map wd)[0+k*1]? =some (wd ((yfq bs t).getD k 0)):=λk hk=>by
    rw[Nat.zero_add,Nat.mul_one];exact pad0_at Xd
   refine qbq (zVq (zyq (qZq (zaq Y Y (fl_nat (t-15) Y Y Yu Qw ?_)))));refine zaq rfl (zHq (i:=t-15) Y Y Y Y Y Y Xd) (qNq rfl (yMq Y Y Y (yDq (hA (t-15) Xd) rfl)) Xq ?_);refine zaq Y Y (fl_nat (t-2) Y Y Yu Qw ?_);refine zaq rfl (zHq (i:=t-2) Y Y Y Y Y Y Xd) (qNq rfl (yMq Y Y Y (yDq (hA (t-2) Xd) rfl)) Xq ?_);refine zaq Y Y (zaq Y Y (jZq ?_));refine zVq (qZq (zaq Y Y (zaq Y Y (fl_nat (t-16) Y Y Yu Qw ?_))));refine zaq rfl (zHq (i:=t-16) Y Y Y Y Y Y Xd) (qNq rfl (yMq Y Y Y (yDq (hA (t-16) Xd) rfl)) Xq (zaq Y Y ?_))
   (refine yNq rfl (yJq Y Y Y Y (jbq _ Xn _ _) Y ?_);rintro w hp1 nw1 ⟨rfl,rfl,rfl⟩;first|refine⟨rfl,rfl,?_⟩|refine⟨rfl,?_⟩)
   refine zaq Y Y ?_
   (refine yNq rfl (yJq Y Y Y Y (jbq _ Xn _ _) Y ?_);rintro w hp1 nw1 ⟨rfl,rfl,rfl⟩;first|refine⟨rfl,rfl,?_⟩|refine⟨rfl,?_⟩)
   refine zaq Y Y (zaq Y Y (zaq Y Y (zaq Y Y ?_)));first|refine yzq Y Y Qw ?_|refine zaq Y Y ?_
   refine zaq Y Y (fl_nat (t-7) Y Y Yu Qw ?_);refine zaq rfl (zHq (i:=t-7) Y Y Y Y Y Y Xd) (qNq rfl (yMq Y Y Y (yDq (hA (t-7) Xd) rfl)) Xq ?_);first|refine yzq Y Y Qw ?_|refine zaq Y Y ?_
   refine zaq Y Y ?_
   (refine yNq rfl (yJq Y Y Y Y (jbq _ Xn _ _) Y ?_);rintro w hp1 nw1 ⟨rfl,rfl,rfl⟩;first|refine⟨rfl,rfl,?_⟩|refine⟨rfl,?_⟩)
   refine zaq Y Y ?_
   (refine yNq rfl (yJq Y Y Y Y (jbq _ Xn _ _) Y ?_);rintro w hp1 nw1 ⟨rfl,rfl,rfl⟩;first|refine⟨rfl,rfl,?_⟩|refine⟨rfl,?_⟩)
   refine zaq Y Y (zaq Y Y (zaq Y Y (zaq Y Y ?_)));first|refine yzq Y Y Qw ?_|refine zaq Y Y ?_
   refine zaq rfl (zHq (i:=t) Y Y Y Y Y Y Xd) (qNq rfl (jgq Y Y Y Y Y (qcq h0 Y Y) rfl) Xq (jZq (q2q Yc ?_)));refine zVq (zhq ?_);first|refine qvq Y Y Qw ?_|refine zcq Y Y ?_
   refine zcq Y Y (zIq ?_);refine ypq (t+1) Xd Xd (z7q ⟨rfl,rfl,rfl,rfl,trivial⟩ (congrArg (λL=>[(2,459,W.arr 64 1 L),(0,419,.arr 8 1 s.l),(1,ty,c)]) (key (addN (addN (addN ((yfq bs t).getD (t-16) 0) (xorN (xorN (rotN ((yfq bs t).getD (t-15) 0) 7) (rotN ((yfq bs t).getD (t-15) 0) 18)) (shrN ((yfq bs t).getD (t-15) 0) 3))) ((yfq bs t).getD (t-7) 0)) (xorN (xorN (rotN ((yfq bs t).getD (t-2) 0) 17) (rotN ((yfq bs t).getD (t-2) 0) 19)) (shrN ((yfq bs t).getD (t-2) 0) 10))) ?_)) rfl)
   have hb:Nat.blt (yfq bs t).length 16=false:=by
    cases hq:Nat.blt (yfq bs t).length 16 with
    |true=>exact absurd (blt_t hq) Xd
    |false=>rfl
   unfold xbq;rw[hb];simp only[hl]
 ·obtain rfl:t=64:=by have:=ltI_not.1 hc1;omega
  have hS:(pad0 (yfq bs 64) 64)=yfq bs 64:=by
   unfold pad0;rw[hl];simp
  simp only[hS];refine jrq (kUq Xh (y7q Xh ?_));refine vFq (zVq (zyq (zhq (zcq Y Y (zcq Y Y (y5q Y Y (y5q Y Y (y5q Y Y (zIq ?_)))))))));refine zVq (zyq (zyq (zhq (zcq Y Y (zIq ?_)))));refine zVq (yaq ?_);refine qnq (λt:Nat=>t<=64) (λt=>[(100,.int .i64 (t:Int)),(8,.ptr 3 0),(4,.ptr 2 0),(0,.ptr 0 0)]) (λt=>[(3,419,.arr 8 1 (k9q (yfq bs 64) s t).l),(2,459,.arr 64 1 ((yfq bs 64).map wd)),(0,419,.arr 8 1 s.l),(1,ty,c)]) (λ_=>4) (λ_=>R) (λt=>64-t) 0 (Nat.zero_le _) ?_ (λt ht=>?_)
  ·exact z7q ⟨rfl,rfl,rfl,rfl,trivial⟩ Y Y
  refine zyq (zhq (zcq Y Y (zIq ?_)));refine zVq (zyq ?_);refine q9q rfl (λhc3=>?_) (λhc3=>?_)
  ·have ht1:t<64:=by have:=ltI_iff.1 hc3;omega
   have hK:z6q 50 (.arr 64 1 (kW.map wd)) (t*1) 1 false=some (wd (kW.getD t 0)):=yDq (by rw[Nat.mul_one];exact u9q (by rw[kW_len];exact ht1)) rfl;have hW:z6q 50 (.arr 64 1 ((yfq bs 64).map wd)) (0+t*1) 1 false=some (wd ((yfq bs 64).getD t 0)):=yDq (by rw[Nat.zero_add,Nat.mul_one];exact u9q Xd) rfl;refine qbq (zVq (zyq (yaq (zyq (zhq (zcq Y Y (zcq Y Y (zIq ?_))))))));refine zVq (zyq (qZq ?_));first|refine zaq Y Y ?_|refine zaq rfl (yTq Y Y Y Y Y Y Y Xd) ?_|refine zaq rfl (zHq Y Y Y Y Y Y Xd) ?_|refine zaq rfl (zrq Y Y Y Y Y Y Y Xm) ?_
   refine qCq Y Y ?_;first|refine zaq Y Y ?_|refine zaq rfl (yTq Y Y Y Y Y Y Y Xd) ?_|refine zaq rfl (zHq Y Y Y Y Y Y Xd) ?_|refine zaq rfl (zrq Y Y Y Y Y Y Y Xm) ?_
   refine qCq Y Y ?_;first|refine zaq Y Y ?_|refine zaq rfl (yTq Y Y Y Y Y Y Y Xd) ?_|refine zaq rfl (zHq Y Y Y Y Y Y Xd) ?_|refine zaq rfl (zrq Y Y Y Y Y Y Y Xm) ?_
   refine qCq Y Y ?_;first|refine zaq Y Y ?_|refine zaq rfl (yTq Y Y Y Y Y Y Y Xd) ?_|refine zaq rfl (zHq Y Y Y Y Y Y Xd) ?_|refine zaq rfl (zrq Y Y Y Y Y Y Y Xm) ?_
   refine qCq Y Y ?_;first|refine zaq Y Y ?_|refine zaq rfl (yTq Y Y Y Y Y Y Y Xd) ?_|refine zaq rfl (zHq Y Y Y Y Y Y Xd) ?_|refine zaq rfl (zrq Y Y Y Y Y Y Y Xm) ?_
   refine qCq Y Y ?_;first|refine zaq Y Y ?_|refine zaq rfl (yTq Y Y Y Y Y Y Y Xd) ?_|refine zaq rfl (zHq Y Y Y Y Y Y Xd) ?_|refine zaq rfl (zrq Y Y Y Y Y Y Y Xm) ?_
   refine qCq Y Y ?_;refine zaq Y Y (zaq Y Y (zaq Y Y (zaq Y Y (zaq Y Y (zaq Y Y (jZq ?_))))));refine zVq (zyq (qZq ?_));first|refine zaq Y Y ?_|refine zaq rfl (yTq Y Y Y Y Y Y Y Xd) ?_|refine zaq rfl (zHq Y Y Y Y Y Y Xd) ?_|refine zaq rfl (zrq Y Y Y Y Y Y Y Xm) ?_
   refine qCq Y Y (zaq Y Y ?_)
   (refine yNq rfl (yJq Y Y Y Y (jbq _ Xn _ _) Y ?_);rintro w hp1 nw1 ⟨rfl,rfl,rfl⟩;first|refine⟨rfl,rfl,?_⟩|refine⟨rfl,?_⟩)
   refine zaq Y Y ?_
   (refine yNq rfl (yJq Y Y Y Y (jbq _ Xn _ _) Y ?_);rintro w hp1 nw1 ⟨rfl,rfl,rfl⟩;first|refine⟨rfl,rfl,?_⟩|refine⟨rfl,?_⟩)
   refine zaq Y Y (zaq Y Y ?_)
   (refine yNq rfl (yJq Y Y Y Y (jbq _ Xn _ _) Y ?_);rintro w hp1 nw1 ⟨rfl,rfl,rfl⟩;first|refine⟨rfl,rfl,?_⟩|refine⟨rfl,?_⟩)
   refine zaq Y Y ?_;first|refine yzq Y Y Qw ?_|refine zaq Y Y ?_
   refine zaq Y Y (zaq Y Y (zaq Y Y (zaq Y Y (zaq Y Y (zaq Y Y (zaq Y Y (zaq Y Y ?_)))))));first|refine yzq Y Y Qw ?_|refine zaq Y Y ?_
   refine zaq Y Y (zaq rfl (ix_fel (i:=t) Y Y Y Y Y Y Xd rfl hK) ?_);refine qCq Y Y ?_;first|refine yzq Y Y Qw ?_|refine zaq Y Y ?_
   refine zaq Y Y (zaq rfl (zHq (i:=t) Y Y Y Y Y Y Xd) ?_);refine qNq rfl (yMq Y Y Y hW) Xq ?_;first|refine yzq Y Y Qw ?_|refine zaq Y Y ?_
   refine zaq Y Y (jZq ?_);refine zVq (zyq (zhq (zcq Y Y ?_)))
   (refine ycq rfl (yJq Y Y Y Y (jbq _ Xn _ _) Y ?_);rintro w hp1 nw1 ⟨rfl,rfl,rfl⟩;first|refine⟨rfl,rfl,?_⟩|refine⟨rfl,?_⟩)
   refine zcq Y Y ?_
   (refine ycq rfl (yJq Y Y Y Y (jbq _ Xn _ _) Y ?_);rintro w hp1 nw1 ⟨rfl,rfl,rfl⟩;first|refine⟨rfl,rfl,?_⟩|refine⟨rfl,?_⟩)
   refine zcq Y Y (zcq Y Y ?_)
   (refine ycq rfl (yJq Y Y Y Y (jbq _ Xn _ _) Y ?_);rintro w hp1 nw1 ⟨rfl,rfl,rfl⟩;first|refine⟨rfl,rfl,?_⟩|refine⟨rfl,?_⟩)
   refine zcq Y Y (zcq Y Y (zcq Y Y (zcq Y Y (zcq Y Y (zcq Y Y (zcq Y Y (zcq Y Y (zcq Y Y (zcq Y Y (zcq Y Y (zcq Y Y ?_)))))))))));first|refine qvq Y Y Qw ?_|refine zcq Y Y ?_
   refine zcq Y Y (zIq ?_);refine zVq (zhq (zcq Y Y (zcq Y Y ?_)));first|refine qvq Y Y Qw ?_|refine zcq Y Y ?_
   refine zcq Y Y (zcq Y Y (zcq Y Y ?_));first|refine zcq Y Y ?_|refine zcq rfl (yTq Y Y Y Y Y Y Y Xd) ?_|refine zcq rfl (zHq Y Y Y Y Y Y Xd) ?_|refine zcq rfl (zrq Y Y Y Y Y Y Y Xm) ?_
   refine y5q Y Y (zcq Y Y ?_);first|refine qvq Y Y Qw ?_|refine zcq Y Y ?_
   refine zcq Y Y (zcq Y Y (zcq Y Y (zcq Y Y (y5q Y Y (zIq ?_)))));refine q2q Yc ?_;refine zVq (zhq ?_);first|refine qvq Y Y Qw ?_|refine zcq Y Y ?_
   refine zcq Y Y (zIq ?_);refine ypq (t+1) Xd Xd (z7q ⟨rfl,rfl,rfl,rfl,trivial⟩ Y Y)
  ·obtain rfl:t=64:=by have:=ltI_not.1 hc3;omega
   refine jrq (kUq Xh (y7q Xh ?_));refine vFq (zVq (zyq (zhq (zcq Y Y (zIq ?_)))));refine zVq (yaq ?_);refine qnq (λi:Nat=>i<=8) (λi=>[(178,.int .i64 (i:Int)),(8,.ptr 3 0),(0,.ptr 0 0)]) (λi=>[(3,419,.arr 8 1 (k9q (yfq bs 64) s 64).l),(0,419,.arr 8 1 (mix8 s (k9q (yfq bs 64) s 64) i)),(1,ty,c)]) (λ_=>4) (λ_=>R) (λi=>8-i) 0 (Nat.zero_le _) ?_ (λi hi=>?_)
   ·exact(ent_del (b:=2)).trans (z7q ⟨rfl,rfl,rfl,trivial⟩ Y Y)
   refine zyq (zhq (zcq Y Y (zIq ?_)));refine zVq (zyq ?_);refine q9q rfl (λhc4=>?_) (λhc4=>?_)
   ·have hi1:i<8:=by have:=ltI_iff.1 hc4;omega
    have hq:i=0\/i=1\/i=2\/i=3\/i=4\/i=5\/i=6\/i=7:=by omega
    skip
    rcases hq with rfl|rfl|rfl|rfl|rfl|rfl|rfl|rfl
    ·skip
     refine qbq (zVq (zyq (yaq (zyq (zhq (zcq Y Y (zcq Y Y (zIq ?_))))))));refine zVq (qZq (zaq Y Y (zaq Y Y (zaq Y Y ?_))));first|refine zaq Y Y ?_|refine zaq rfl (yTq Y Y Y Y Y Y Y Xd) ?_|refine zaq rfl (zHq Y Y Y Y Y Y Xd) ?_|refine zaq rfl (zrq Y Y Y Y Y Y Y Xm) ?_
     refine qCq Y Y (zaq Y Y ?_);first|refine zaq Y Y ?_|refine zaq rfl (yTq Y Y Y Y Y Y Y Xd) ?_|refine zaq rfl (zHq Y Y Y Y Y Y Xd) ?_|refine zaq rfl (zrq Y Y Y Y Y Y Y Xm) ?_
     refine qCq Y Y ?_;first|refine yzq Y Y Qw ?_|refine zaq Y Y ?_
     refine zaq Y Y ?_;first|refine zaq Y Y ?_|refine zaq rfl (yTq Y Y Y Y Y Y Y Xd) ?_|refine zaq rfl (zHq Y Y Y Y Y Y Xd) ?_|refine zaq rfl (zrq Y Y Y Y Y Y Y Xm) ?_
     refine qCq Y Y (jZq (q2q Yc ?_));refine zVq (zhq ?_);first|refine qvq Y Y Qw ?_|refine zcq Y Y ?_
     refine zcq Y Y (zIq ?_);exact ypq 1 Xn Xn (z7q ⟨rfl,rfl,rfl,trivial⟩ Y Y)
    ·skip
     refine qbq (zVq (zyq (yaq (zyq (zhq (zcq Y Y (zcq Y Y (zIq ?_))))))));refine zVq (qZq (zaq Y Y (zaq Y Y (zaq Y Y ?_))));first|refine zaq Y Y ?_|refine zaq rfl (yTq Y Y Y Y Y Y Y Xd) ?_|refine zaq rfl (zHq Y Y Y Y Y Y Xd) ?_|refine zaq rfl (zrq Y Y Y Y Y Y Y Xm) ?_
     refine qCq Y Y (zaq Y Y ?_);first|refine zaq Y Y ?_|refine zaq rfl (yTq Y Y Y Y Y Y Y Xd) ?_|refine zaq rfl (zHq Y Y Y Y Y Y Xd) ?_|refine zaq rfl (zrq Y Y Y Y Y Y Y Xm) ?_
     refine qCq Y Y ?_;first|refine yzq Y Y Qw ?_|refine zaq Y Y ?_
     refine zaq Y Y ?_;first|refine zaq Y Y ?_|refine zaq rfl (yTq Y Y Y Y Y Y Y Xd) ?_|refine zaq rfl (zHq Y Y Y Y Y Y Xd) ?_|refine zaq rfl (zrq Y Y Y Y Y Y Y Xm) ?_
     refine qCq Y Y (jZq (q2q Yc ?_));refine zVq (zhq ?_);first|refine qvq Y Y Qw ?_|refine zcq Y Y ?_
     refine zcq Y Y (zIq ?_);exact ypq 2 Xn Xn (z7q ⟨rfl,rfl,rfl,trivial⟩ Y Y)
    ·skip
     refine qbq (zVq (zyq (yaq (zyq (zhq (zcq Y Y (zcq Y Y (zIq ?_))))))));refine zVq (qZq (zaq Y Y (zaq Y Y (zaq Y Y ?_))));first|refine zaq Y Y ?_|refine zaq rfl (yTq Y Y Y Y Y Y Y Xd) ?_|refine zaq rfl (zHq Y Y Y Y Y Y Xd) ?_|refine zaq rfl (zrq Y Y Y Y Y Y Y Xm) ?_
     refine qCq Y Y (zaq Y Y ?_);first|refine zaq Y Y ?_|refine zaq rfl (yTq Y Y Y Y Y Y Y Xd) ?_|refine zaq rfl (zHq Y Y Y Y Y Y Xd) ?_|refine zaq rfl (zrq Y Y Y Y Y Y Y Xm) ?_
     refine qCq Y Y ?_;first|refine yzq Y Y Qw ?_|refine zaq Y Y ?_
     refine zaq Y Y ?_;first|refine zaq Y Y ?_|refine zaq rfl (yTq Y Y Y Y Y Y Y Xd) ?_|refine zaq rfl (zHq Y Y Y Y Y Y Xd) ?_|refine zaq rfl (zrq Y Y Y Y Y Y Y Xm) ?_
     refine qCq Y Y (jZq (q2q Yc ?_));refine zVq (zhq ?_);first|refine qvq Y Y Qw ?_|refine zcq Y Y ?_
     refine zcq Y Y (zIq ?_);exact ypq 3 Xn Xn (z7q ⟨rfl,rfl,rfl,trivial⟩ Y Y)
    ·skip
     refine qbq (zVq (zyq (yaq (zyq (zhq (zcq Y Y (zcq Y Y (zIq ?_))))))));refine zVq (qZq (zaq Y Y (zaq Y Y (zaq Y Y ?_))));first|refine zaq Y Y ?_|refine zaq rfl (yTq Y Y Y Y Y Y Y Xd) ?_|refine zaq rfl (zHq Y Y Y Y Y Y Xd) ?_|refine zaq rfl (zrq Y Y Y Y Y Y Y Xm) ?_
     refine qCq Y Y (zaq Y Y ?_);first|refine zaq Y Y ?_|refine zaq rfl (yTq Y Y Y Y Y Y Y Xd) ?_|refine zaq rfl (zHq Y Y Y Y Y Y Xd) ?_|refine zaq rfl (zrq Y Y Y Y Y Y Y Xm) ?_
     refine qCq Y Y ?_;first|refine yzq Y Y Qw ?_|refine zaq Y Y ?_
     refine zaq Y Y ?_;first|refine zaq Y Y ?_|refine zaq rfl (yTq Y Y Y Y Y Y Y Xd) ?_|refine zaq rfl (zHq Y Y Y Y Y Y Xd) ?_|refine zaq rfl (zrq Y Y Y Y Y Y Y Xm) ?_
     refine qCq Y Y (jZq (q2q Yc ?_));refine zVq (zhq ?_);first|refine qvq Y Y Qw ?_|refine zcq Y Y ?_
     refine zcq Y Y (zIq ?_);exact ypq 4 Xn Xn (z7q ⟨rfl,rfl,rfl,trivial⟩ Y Y)
    ·skip
     refine qbq (zVq (zyq (yaq (zyq (zhq (zcq Y Y (zcq Y Y (zIq ?_))))))));refine zVq (qZq (zaq Y Y (zaq Y Y (zaq Y Y ?_))));first|refine zaq Y Y ?_|refine zaq rfl (yTq Y Y Y Y Y Y Y Xd) ?_|refine zaq rfl (zHq Y Y Y Y Y Y Xd) ?_|refine zaq rfl (zrq Y Y Y Y Y Y Y Xm) ?_
     refine qCq Y Y (zaq Y Y ?_);first|refine zaq Y Y ?_|refine zaq rfl (yTq Y Y Y Y Y Y Y Xd) ?_|refine zaq rfl (zHq Y Y Y Y Y Y Xd) ?_|refine zaq rfl (zrq Y Y Y Y Y Y Y Xm) ?_
     refine qCq Y Y ?_;first|refine yzq Y Y Qw ?_|refine zaq Y Y ?_
     refine zaq Y Y ?_;first|refine zaq Y Y ?_|refine zaq rfl (yTq Y Y Y Y Y Y Y Xd) ?_|refine zaq rfl (zHq Y Y Y Y Y Y Xd) ?_|refine zaq rfl (zrq Y Y Y Y Y Y Y Xm) ?_
     refine qCq Y Y (jZq (q2q Yc ?_));refine zVq (zhq ?_);first|refine qvq Y Y Qw ?_|refine zcq Y Y ?_
     refine zcq Y Y (zIq ?_);exact ypq 5 Xn Xn (z7q ⟨rfl,rfl,rfl,trivial⟩ Y Y)
    ·skip
     refine qbq (zVq (zyq (yaq (zyq (zhq (zcq Y Y (zcq Y Y (zIq ?_))))))));refine zVq (qZq (zaq Y Y (zaq Y Y (zaq Y Y ?_))));first|refine zaq Y Y ?_|refine zaq rfl (yTq Y Y Y Y Y Y Y Xd) ?_|refine zaq rfl (zHq Y Y Y Y Y Y Xd) ?_|refine zaq rfl (zrq Y Y Y Y Y Y Y Xm) ?_
     refine qCq Y Y (zaq Y Y ?_);first|refine zaq Y Y ?_|refine zaq rfl (yTq Y Y Y Y Y Y Y Xd) ?_|refine zaq rfl (zHq Y Y Y Y Y Y Xd) ?_|refine zaq rfl (zrq Y Y Y Y Y Y Y Xm) ?_
     refine qCq Y Y ?_;first|refine yzq Y Y Qw ?_|refine zaq Y Y ?_
     refine zaq Y Y ?_;first|refine zaq Y Y ?_|refine zaq rfl (yTq Y Y Y Y Y Y Y Xd) ?_|refine zaq rfl (zHq Y Y Y Y Y Y Xd) ?_|refine zaq rfl (zrq Y Y Y Y Y Y Y Xm) ?_
     refine qCq Y Y (jZq (q2q Yc ?_));refine zVq (zhq ?_);first|refine qvq Y Y Qw ?_|refine zcq Y Y ?_
     refine zcq Y Y (zIq ?_);exact ypq 6 Xn Xn (z7q ⟨rfl,rfl,rfl,trivial⟩ Y Y)
    ·skip
     refine qbq (zVq (zyq (yaq (zyq (zhq (zcq Y Y (zcq Y Y (zIq ?_))))))));refine zVq (qZq (zaq Y Y (zaq Y Y (zaq Y Y ?_))));first|refine zaq Y Y ?_|refine zaq rfl (yTq Y Y Y Y Y Y Y Xd) ?_|refine zaq rfl (zHq Y Y Y Y Y Y Xd) ?_|refine zaq rfl (zrq Y Y Y Y Y Y Y Xm) ?_
     refine qCq Y Y (zaq Y Y ?_);first|refine zaq Y Y ?_|refine zaq rfl (yTq Y Y Y Y Y Y Y Xd) ?_|refine zaq rfl (zHq Y Y Y Y Y Y Xd) ?_|refine zaq rfl (zrq Y Y Y Y Y Y Y Xm) ?_
     refine qCq Y Y ?_;first|refine yzq Y Y Qw ?_|refine zaq Y Y ?_
     refine zaq Y Y ?_;first|refine zaq Y Y ?_|refine zaq rfl (yTq Y Y Y Y Y Y Y Xd) ?_|refine zaq rfl (zHq Y Y Y Y Y Y Xd) ?_|refine zaq rfl (zrq Y Y Y Y Y Y Y Xm) ?_
     refine qCq Y Y (jZq (q2q Yc ?_));refine zVq (zhq ?_);first|refine qvq Y Y Qw ?_|refine zcq Y Y ?_
     refine zcq Y Y (zIq ?_);exact ypq 7 Xn Xn (z7q ⟨rfl,rfl,rfl,trivial⟩ Y Y)
    ·skip
     refine qbq (zVq (zyq (yaq (zyq (zhq (zcq Y Y (zcq Y Y (zIq ?_))))))));refine zVq (qZq (zaq Y Y (zaq Y Y (zaq Y Y ?_))));first|refine zaq Y Y ?_|refine zaq rfl (yTq Y Y Y Y Y Y Y Xd) ?_|refine zaq rfl (zHq Y Y Y Y Y Y Xd) ?_|refine zaq rfl (zrq Y Y Y Y Y Y Y Xm) ?_
     refine qCq Y Y (zaq Y Y ?_);first|refine zaq Y Y ?_|refine zaq rfl (yTq Y Y Y Y Y Y Y Xd) ?_|refine zaq rfl (zHq Y Y Y Y Y Y Xd) ?_|refine zaq rfl (zrq Y Y Y Y Y Y Y Xm) ?_
     refine qCq Y Y ?_;first|refine yzq Y Y Qw ?_|refine zaq Y Y ?_
     refine zaq Y Y ?_;first|refine zaq Y Y ?_|refine zaq rfl (yTq Y Y Y Y Y Y Y Xd) ?_|refine zaq rfl (zHq Y Y Y Y Y Y Xd) ?_|refine zaq rfl (zrq Y Y Y Y Y Y Y Xm) ?_
     refine qCq Y Y (jZq (q2q Yc ?_));refine zVq (zhq ?_);first|refine qvq Y Y Qw ?_|refine zcq Y Y ?_
     refine zcq Y Y (zIq ?_);exact ypq 8 Xn Xn (z7q ⟨rfl,rfl,rfl,trivial⟩ Y Y)
   ·obtain rfl:i=8:=by have:=ltI_not.1 hc4;omega
    refine jrq (kUq Xh (y7q Xh (vFq ?_)));refine fin (.inl rfl) (kNq (fr2:=[]) (hp2:=[(0,419,.arr 8 1 (q4q bs s).l),(1,ty,c)]) (nw2:=2) Xd Xd trivial rfl (jWq ⟨⟨by omega,rfl,rfl⟩,⟨by omega,rfl,hc⟩,trivial⟩) Xj) rfl ⟨rfl,rfl,rfl,rfl⟩
noncomputable def atL(r:List Nat)(i:Nat):Nat:=r.getD i 0
noncomputable def eat:Nat->S8->List Nat->S8×List Nat
 |0,s,r=>(s,r)
 |n+1,s,r=>match Nat.ble 64 r.length with
  |true=>eat n (q4q (atL r) s) (r.drop 64)
  |false=>(s,r)
theorem jyq:∀(n:Nat) (s:S8) (r:List Nat),r.length<64->eat n s r=(s,r)
 |0,_,_,_=>rfl
 |n+1,s,r,h=>by
  have:Nat.ble 64 r.length=false:=by
   cases hq:Nat.ble 64 r.length with
   |true=>have:=Yb hq;omega
   |false=>rfl
  simp only[eat,this]
theorem Qsq{n:Nat}{s:S8}{r:List Nat}(h:64<=r.length):eat (n+1) s r=eat n (q4q (atL r) s) (r.drop 64):=by
 simp only[eat,Nat.ble_eq_true_of_le h]
theorem eat_fuel:∀(n m:Nat) (s:S8) (r:List Nat),r.length<=n->r.length<=m->eat n s r=eat m s r
 |0,m,s,r,h,_=>by rw[jyq m s r Xd];rfl
 |n+1,0,s,r,_,h=>by rw[jyq _ s r Xd];rfl
 |n+1,m+1,s,r,h1,h2=>by
  by_cases h:64<=r.length
  ·rw[Qsq h,Qsq h];exact eat_fuel n m _ _ Xo Xo
  ·rw[jyq _ s r Xd,jyq _ s r Xd]
noncomputable def eats(s:S8)(r:List Nat):S8×List Nat:=eat r.length s r
theorem ZHq{s:S8}{r:List Nat}(h:64<=r.length):eats s r=eats (q4q (atL r) s) (r.drop 64):=by
 unfold eats;obtain⟨n,hn⟩:∃n,r.length=n+1:=⟨r.length-1,by omega⟩
 rw[hn,Qsq h];exact eat_fuel _ _ _ _ Xo (Nat.le_refl _)
noncomputable def xsq(a:S8×List Nat)(p:List Nat):S8×List Nat:=eats a.1 (a.2++p)
noncomputable def s0:S8:=⟨1779033703,3144134277,1013904242,2773480762,1359893119,2600822924,528734635,1541459225⟩
noncomputable def padZ:Nat->List Nat->List Nat
 |0,r=>r
 |n+1,r=>match Nat.beq (r.length%64) 56 with
  |true=>r
  |false=>padZ n (r++[0])
noncomputable def len8(many:Nat):List Nat:=[56,48,40,32,24,16,8,0].map λi=>Nat.shiftRight (8*many%18446744073709551616) i%256
noncomputable def qDq:Nat->S8->List Nat->S8
 |0,s,_=>s
 |n+1,s,r=>match Nat.ble 1 r.length with
  |true=>qDq n (q4q (atL r) s) (r.drop 64)
  |false=>s
theorem jBq:∀(n:Nat) (s:S8),qDq n s []=s
 |0,_=>rfl
 |n+1,s=>rfl
theorem x6q{n:Nat}{s:S8}{r:List Nat}(h:1<=r.length):qDq (n+1) s r=qDq n (q4q (atL r) s) (r.drop 64):=by
 simp only[qDq,Nat.ble_eq_true_of_le h]
theorem ZIq:∀(n m:Nat) (s:S8) (r:List Nat),r.length<=n->r.length<=m->qDq n s r=qDq m s r
 |0,m,s,r,h,_=>by
  obtain rfl:r=[]:=List.length_eq_zero_iff.1 Xd;rw[jBq,jBq]
 |n+1,0,s,r,_,h=>by
  obtain rfl:r=[]:=List.length_eq_zero_iff.1 Xd;rw[jBq,jBq]
 |n+1,m+1,s,r,h1,h2=>by
  by_cases h:1<=r.length
  ·rw[x6q h,x6q h];exact ZIq n m _ _ Xo Xo
  ·obtain rfl:r=[]:=List.length_eq_zero_iff.1 Xd;rw[jBq,jBq]
theorem x5q{s:S8}{r:List Nat}(h:1<=r.length):qDq r.length s r=qDq (r.drop 64).length (q4q (atL r) s) (r.drop 64):=by
 obtain⟨n,hn⟩:∃n,r.length=n+1:=⟨r.length-1,by omega⟩
 rw[hn,x6q h];exact ZIq _ _ _ _ Xo (Nat.le_refl _)
noncomputable def S8.get(s:S8):Nat->Nat
 |0=>s.a
 |1=>s.b
 |2=>s.c
 |3=>s.d
 |4=>s.e
 |5=>s.f
 |6=>s.g
 |_=>s.h
noncomputable def digN(s:S8):List Nat:=(List.range 32).map λi=>Nat.shiftRight (s.get (i/4)) (24-8*(i%4))%256
noncomputable def yXq(ps:List (List Nat)):Nat:=(ps.map List.length).foldr (· + ·) 0
noncomputable def shaN(ps:List (List Nat)):List Nat:=
 let a:=ps.foldl xsq (s0,[])
 let r:=padZ 64 (a.2++[128])++len8 (yXq ps)
 digN (qDq r.length a.1 r)
inductive Rst where
 |nil
 |sl (all:List Nat) (base off:Nat)
noncomputable def Rst.w:Rst->W
 |.nil=>.nils
 |.sl all base off=>.sl 2 base off (all.length-off) 1 none
noncomputable def Rst.hp:Rst->HpW
 |.nil=>[]
 |.sl all _ _=>[(2,5,.arr all.length 1 (bN all))]
noncomputable def Rst.r:Rst->List Nat
 |.nil=>[]
 |.sl all _ off=>all.drop off
noncomputable def Rst.ok:Rst->Prop
 |.nil=>True
 |.sl all _ off=>off<=all.length/\all.length<4294967296
noncomputable def Rst.nw:Rst->Nat
 |.nil=>2
 |.sl _ _ _=>3
noncomputable def hpS(x:Rst)(d:W)(s:S8):HpW:=x.hp++[(1,419,.arr 8 1 s.l),(0,29,d)]
noncomputable def jfq:W:=.arr 32 1 (List.replicate 32 (.int .u8 0))
noncomputable def Yaq(p:List Nat×Bool):W:=.fz (bN p.1) 1 p.2
theorem app_r(r:Rst)(hr:r.ok)(d:W)(s:S8)(p:List Nat)(f:Bool)(hp:p.length<2147483648)(h64:r.r.length<64):∃w hp' nw ev,appW cfg (hpS r d s) r.nw 99 99 r.w (.fz (bN p) 1 f)=some (w,hp',nw,ev)/\
  ∃r':Rst,r'.ok/\r'.r=r.r++p/\((w=r'.w/\hp'=hpS r' d s/\nw=r'.nw)\/∃all,r'= .sl all 0 0/\w= .sl 3 0 0 all.length 1 none/\hp'=[(3,5,.arr all.length 1 (bN all)),(1,419,.arr 8 1 s.l),(0,29,d)]/\nw=4):=by
 cases r with
 |nil=>cases p with
  |nil=>exact⟨_,_,_,_,rfl,.nil,trivial,rfl,.inl ⟨rfl,rfl,rfl⟩⟩
  |cons a l=>
   have hl:(bN (a::l)).length=l.length+1:=by rw[jRq];rfl
   have hlt:l.length+1<2147483648:=hp;have hbl:(bN (a::l)).length*1<=140737488355328:=by omega
   refine⟨_,_,_,_,xqq (k:=ti5) Y Y Y Y Y (by simp[bN]) hbl Xd,.sl (a::l) 0 0,⟨Nat.zero_le _,by show l.length+1<_;omega⟩,rfl,.inl ⟨?_,?_,rfl⟩⟩
   ·rw[jRq];rfl
   ·rw[jRq,show(ti5).size=1 from rfl,Nat.mul_one];rfl
 |sl all base off=>
  obtain⟨h1,h2⟩:=hr;cases p with
  |nil=>exact⟨_,_,_,_,rfl,.sl all base off,⟨h1,h2⟩,by simp,.inl ⟨rfl,rfl,rfl⟩⟩
  |cons a l=>
   have hl:(bN (a::l)).length=l.length+1:=by rw[jRq];rfl
   have hlt:l.length+1<2147483648:=hp;have hbl:(all.length-off+(bN (a::l)).length)*1<=140737488355328:=by omega
   have hdt:((bN all).drop off).take (all.length-off)=bN (all.drop off):=by
    rw[List.take_of_length_le (by simp[jRq])];simp[bN,List.map_drop]
   refine⟨_,_,_,_,qqq (k:=ti5) (v:=.arr all.length 1 (bN all)) (off:=off) Y Y Y Y Y (by simp[bN]) hbl Xd Y ?_ rfl (ufq Xd),.sl (all.drop off++a::l) 0 0,⟨Nat.zero_le _,?_⟩,rfl,.inr ⟨_,rfl,?_,?_,rfl⟩⟩
   ·show all.length<off+(all.length-off+(bN (a::l)).length)*1;omega
   ·simp only[Rst.r,List.length_drop] at h64;simp only[List.length_append,List.length_drop,List.length_cons];omega
   ·simp only[hl,List.length_append,List.length_drop,List.length_cons];rfl
   ·rw[hdt,hl];simp only[List.length_append,List.length_drop,List.length_cons,show(ti5).size=1 from rfl,Nat.mul_one];rw[show bN (all.drop off)++bN (a::l)=bN (all.drop off++a::l) by simp[bN]];rfl
theorem padZ_spec:∀(n j:Nat) (r:List Nat),(∀i,i<j->(r.length+i)%64≠56) ->(r.length+j)%64=56->j<=n->padZ n r=r++List.replicate j 0
 |0,j,r,_,_,h=>by
  obtain rfl:j=0:=by omega
  simp[padZ]
 |n+1,0,r,_,h,_=>by
  have:Nat.beq (r.length%64) 56=true:=by rw[Nat.beq_eq];simpa using h
  simp only[padZ,this];simp
 |n+1,j+1,r,h1,h2,h3=>by
  have:Nat.beq (r.length%64) 56=false:=by
   cases hq:Nat.beq (r.length%64) 56 with
   |true=>rw[Nat.beq_eq] at hq;exact absurd (by simpa using hq) (h1 0 Xd)
   |false=>rfl
  simp only[padZ,this];rw[padZ_spec n j (r++[0]) (λi hi=>by simp only[List.length_append,List.length_singleton];have:=h1 (i+1) Xd;rwa[show r.length+1+i=r.length+(i+1) by omega]) (by simp only[List.length_append,List.length_singleton];rwa[show r.length+1+j=r.length+(j+1) by omega]) Xd];rw[List.append_assoc];rfl
theorem S8_at(s:S8){k:Nat}(h:k<8):s.l[0+k*1]? =some (wd (s.get k)):=by
 have hq:k=0\/k=1\/k=2\/k=3\/k=4\/k=5\/k=6\/k=7:=by omega
 rcases hq with rfl|rfl|rfl|rfl|rfl|rfl|rfl|rfl<;>rfl
noncomputable def dI(s:S8)(i:Nat):List Nat:=(digN s).take i++List.replicate (32-i) 0
theorem uHq(s:S8):(digN s).length=32:=by simp[digN]
theorem dI_len(s:S8){i:Nat}(h:i<=32):(dI s i).length=32:=by simp[dI,uHq];omega
theorem dI_at(s:S8){i:Nat}(h:i<32):(bN (dI s i))[0+i*1]? =some (.int .u8 (.ofNat 0)):=by
 rw[Nat.zero_add,Nat.mul_one,bN_at (by rw[dI_len s Xd];exact h)]
 have:(dI s i).getD i 0=0:=by
  simp[dI,List.getD,List.getElem?_append,uHq,show min i 32=i by omega,List.getElem?_replicate,show 0<32-i by omega]
 rw[this]
theorem dI_set(s:S8){i:Nat}(h:i<32):(bN (dI s i)).set (0+i*1) (.int .u8 (.ofNat (Nat.shiftRight (s.get (i/4)) (min (24-8*(i%4)) 32)%256)))=bN (dI s (i+1)):=by
 have e:(digN s).take (i+1)=(digN s).take i++[Nat.shiftRight (s.get (i/4)) (24-8*(i%4))%256]:=by
  rw[List.take_add_one];congr 1
  simp[digN,List.getElem?_map,List.getElem?_range h]
 have hm:min (24-8*(i%4)) 32=24-8*(i%4):=by omega
 have hl:((digN s).take i).length=i:=by simp[uHq];omega
 rw[Nat.zero_add,Nat.mul_one,hm];unfold bN;rw[<-List.map_set (f:=λc=>W.int .u8 (.ofNat c))];congr 1
 unfold dI;rw[e,show 32-i=(32-(i+1))+1 by omega,List.replicate_succ,List.set_append_right _ _ Xd,hl,Nat.sub_self,List.set_cons_zero,List.append_assoc];rfl
theorem mid1(L:List Nat)(c:Nat):some (W.sl 4 0 0 (L.length+(bN [c]).length) 1 none)=some (renW (tau1 2 4) (W.sl 2 0 0 (L++[c]).length 1 none)):=by
 rw[List.length_append];rfl
theorem mid2(L:List Nat)(c:Nat):some (5,W.arr ((L.length+(bN [c]).length)*1) 1 (((bN L).drop 0).take L.length++bN [c]))=some (5,renW (tau1 2 4) (W.arr (L++[c]).length 1 (bN (L++[c])))):=by
 rw[zZq (show purW (.arr (L++[c]).length 1 (bN (L++[c])))=true from vCq _),List.drop_zero,List.take_of_length_le (by rw[jRq];exact Nat.le_refl _),Nat.mul_one,List.length_append];simp[bN]
theorem parts_pur:∀ps:List (List Nat×Bool),purL (ps.map Yaq)=true
 |[]=>rfl
 |p::ps=>by simp only[List.map_cons,purL,Yaq,purW,vCq,Bool.true_and];exact parts_pur ps
set_option maxHeartbeats 1600000 in
theorem of_s(ps:List (List Nat×Bool))(fl:Bool)(hb:yXq (ps.map (·.1))<2147483648)(hpn:ps.length<2147483648)(R:Res):
  Spec cfg glK 245 0 [.fz (ps.map Yaq) 1 fl] [] R λw hp nw R'=>R'=R/\w= .arr 32 1 (bN (shaN (ps.map (·.1)))):=by
 refine u0q (fn:=Tryz.f245) Y Y Y (Yb rfl) (λk0=>?_);refine zyq (zhq (y5q Y Y (zIq ?_)));refine zVq (zyq (zhq (zcq Y Y (y5q Y Y (y5q Y Y (zIq ?_))))));refine zVq (zyq (zhq (zcq Y Y (zIq ?_))));refine zVq (zyq (zhq (zcq Y Y (zIq ?_))));refine zVq (zyq (zyq (zhq (zcq Y Y (zcq Y Y (zcq Y Y (zIq ?_)))))));refine zVq (yaq ?_);refine qnq (α:=Nat×S8×Rst) (λa=>a.1<=ps.length/\a.2.2.ok/\(a.2.1,a.2.2.r)=((ps.map (·.1)).take a.1).foldl xsq (s0,[])/\a.2.2.r.length<64) (λa=>[(13,.int .i64 (a.1:Int)),(12,.int .i64 (ps.length:Int)),(11,.fz (ps.map Yaq) 1 fl),(5,.int .u64 (yXq ((ps.map (·.1)).take a.1):Int)),(4,a.2.2.w),(3,.ptr 1 0),(2,.ptr 0 0)]) (λa=>hpS a.2.2 jfq a.2.1) (λa=>a.2.2.nw) (λ_=>R) (λa=>ps.length-a.1) (0,s0,.nil) ⟨Nat.zero_le _,trivial,rfl,by decide⟩ ?_ (λa ha=>?_)
 ·exact z7q ⟨rfl,by simp[getW,putW],rfl,rfl,rfl,rfl,rfl,trivial⟩ Y Y
 have hPp:purW (.fz (ps.map Yaq) 1 fl)=true:=parts_pur ps;obtain⟨i,s,r⟩:=a;obtain⟨hi,hok,hfold,hr64⟩:=ha;refine zyq (zhq (zcq Y Y (zIq ?_)));refine zVq (zyq ?_);refine q9q rfl (λhc1=>?_) (λhc1=>?_)
 ·simp only at hi hok hfold hr64;have hi1:i<ps.length:=by have:=ltI_iff.1 hc1;simp only at this;omega
  obtain⟨p,hp⟩:∃p,ps[i]? =some p:=⟨_,List.getElem?_eq_getElem hi1⟩
  have hpw:(ps.map Yaq)[i]? =some (.fz (bN p.1) 1 p.2):=by rw[List.getElem?_map,hp];rfl
  have htk:(ps.map (·.1)).take (i+1)=(ps.map (·.1)).take i++[p.1]:=by
   rw[List.take_add_one,List.getElem?_map,hp];rfl
  have htot:∀l r:List (List Nat),yXq (l++r)=yXq l+yXq r:=λl r=>by
   unfold yXq;induction l with
   |nil=>simp
   |cons x l ih=>simp only[List.cons_append,List.map_cons,List.foldr_cons,ih];omega
  have ht1:yXq ((ps.map (·.1)).take (i+1))=yXq ((ps.map (·.1)).take i)+p.1.length:=by rw[htk,htot];simp[yXq]
  have htle:yXq ((ps.map (·.1)).take (i+1))<=yXq (ps.map (·.1)):=by
   have:=htot ((ps.map (·.1)).take (i+1)) ((ps.map (·.1)).drop (i+1));rw[List.take_append_drop] at this;omega
  have hpl:p.1.length<2147483648:=by omega
  refine qbq (zVq (zyq (yaq (zyq (zhq (zcq rfl (zrq (i:=i) Y Y Y Y Y Y Y hpw) (y5q Y Y (zcq Y Y (zIq ?_)))))))));refine zVq (zyq (zhq (zcq Y Y (zcq Y Y (qXq Y Y (show _=W.int .i64 (p.1.length:Int) by first|rfl|(simp[jRq];done)|(simp[jRq];rfl)) ?_)))));refine Ziq (p.1.length) Y Y Yu Qw (Ziq (yXq ((ps.map (·.1)).take i)+p.1.length) Y Y Yu Qw ?_);refine zcq Y Y (zIq ?_);refine zVq ?_;refine co_cut (α:=Rst) (λr'=>r'.ok/\r'.r=r.r++p.1) (λr'=>[(13,.int .i64 (i:Int)),(12,.int .i64 (ps.length:Int)),(11,.fz (ps.map Yaq) 1 fl),(5,.int .u64 (yXq ((ps.map (·.1)).take (i+1)):Int)),(4,r'.w),(3,.ptr 1 0),(2,.ptr 0 0)]) (λr'=>hpS r' jfq s) (λr'=>r'.nw) ?_ (λa ha=>?_)
  ·obtain⟨w,hp',nw',ev,e1,r',e2,e3,e4⟩:=app_r r hok jfq s p.1 p.2 hpl hr64;refine zhq (zcq Y Y (zcq Y Y (y5q rfl (ytq Y Y e1) (zcq Y Y (zIq ?_)))));refine⟨rfl,r',⟨e2,e3⟩,?_⟩;rcases e4 with ⟨rfl,rfl,rfl⟩|⟨all,rfl,rfl,rfl,rfl⟩
   ·exact z7q ⟨rfl,rfl,rfl,by rw[ht1];rfl,rfl,rfl,rfl,trivial⟩ Y Y
   ·refine qdq (b:=2) (k:=3) Xd Xd Xd ⟨⟨rfl,rfl⟩,⟨rfl,rfl⟩,⟨by rw[zZq hPp];rfl,zkq hPp⟩,⟨by rw[ht1];rfl,rfl⟩,⟨rfl,rfl⟩,⟨rfl,rfl⟩,⟨rfl,rfl⟩,trivial⟩ ⟨⟨by omega,by rw[zZq (show purW (.arr all.length 1 (bN all))=true from vCq _)];rfl,zkq (show purW (.arr all.length 1 (bN all))=true from vCq _)⟩,⟨by omega,rfl,rfl⟩,⟨by omega,rfl,rfl⟩,trivial⟩ Qd
  obtain⟨hak,har⟩:=ha;have hstep:(ps.map (·.1)).take (i+1)=(ps.map (·.1)).take i++[p.1]:=htk;have hnext:((ps.map (·.1)).take (i+1)).foldl xsq (s0,[])=xsq (s,r.r) p.1:=by rw[hstep,List.foldl_append,<-hfold];rfl
  refine yaq ?_;refine qnq (α:=S8×Rst) (λb=>b.2.ok/\eats b.1 b.2.r=xsq (s,r.r) p.1) (λb=>[(13,.int .i64 (i:Int)),(12,.int .i64 (ps.length:Int)),(11,.fz (ps.map Yaq) 1 fl),(5,.int .u64 (yXq ((ps.map (·.1)).take (i+1)):Int)),(4,b.2.w),(3,.ptr 1 0),(2,.ptr 0 0)]) (λb=>hpS b.2 jfq b.1) (λb=>b.2.nw) (λ_=>R) (λb=>b.2.r.length) (s,a) ⟨hak,by simp only[xsq,har]⟩ (Ent.refl) (λb hb=>?_);obtain⟨s',r'⟩:=b;obtain⟨hok',heat⟩:=hb;simp only at hok' heat
  have done:r'.r.length<64->(s',r'.r)=((ps.map (·.1)).take (i+1)).foldl xsq (s0,[]):=λh=>by
   rw[hnext,<-heat,eats,jyq _ _ _ h]
  skip
  cases r' with
  |nil=>
   refine zyq (zyq (zhq (zcq Y Y (zcq Y Y (zcq Y Y (zIq ?_))))));refine zVq (Qwq rfl (jrq ?_));refine kUq Xh (y7q Xh ?_);refine vFq (q2q Yc ?_);refine zVq (zhq (Ziq (i+1) Y Y Yu Qw ?_));refine zcq Y Y (zIq ?_);refine ypq (i+1,s',.nil) ⟨hi1,trivial,done (by show 0<64;omega),(by show 0<64;omega)⟩ Ya (z7q ⟨rfl,rfl,rfl,rfl,rfl,rfl,rfl,trivial⟩ Y Y)
  |sl all base off=>
   obtain⟨ho1,ho2⟩:=hok';have hrl:(Rst.sl all base off).r.length=all.length-off:=by simp[Rst.r]
   refine zyq (zyq (zhq (zcq Y Y (qXq Y Y (show _=W.int .i64 ((all.length-off:Nat):Int) by first|rfl|(simp[jRq];done)|(simp[jRq];rfl)) ?_))));refine zcq Y Y (zIq ?_);refine zVq ?_;refine q9q rfl (λhc2=>?_) (λhc2=>?_)
   ·have h64:64<=all.length-off:=by
     have:=hc2;simp only[Bool.not_eq_true'] at this;have:=ltI_not.1 this;omega
    have hpa:purW (.arr all.length 1 (bN all))=true:=vCq all
    have hby:∀k,k<64->z6q 50 (.arr all.length 1 (bN all)) (off+0*1+k*1) 1 false=some (.int .u8 (.ofNat (atL (all.drop off) k))):=λk hk=>by
     have:=bN_at (l:=all) (i:=off+k) Xd;refine yDq ?_ rfl;rw[Nat.zero_mul,Nat.add_zero,Nat.mul_one,this];simp[atL,List.getD,List.getElem?_drop]
    have hr':(Rst.sl all off (off+64)).r=((Rst.sl all base off).r).drop 64:=by simp[Rst.r]
    refine qbq (zVq (zyq (yaq (zhq (zcq Y Y (zcq rfl (cut_hi (h:=64) Y Y Y Y Y Y Y h64) ?_))))))
    (refine ycq rfl (k5q (ext:=[1,2]) (ws:=[.ptr 0 0,.sl 1 base (off+0*1) (64-0) 1 none]) Y Y Y Y Y (λR=>block_s s' (atL (all.drop off)) (.arr all.length 1 (bN all)) base _ none 5 (zkq hpa) hby R) Xn Qo Xj (handed2 rfl (by rw[zZq hpa];rfl) rfl (zkq hpa)) Y ?_);rintro w hp1 nw1 ⟨rfl,rfl,rfl⟩)
    refine zIq (q2q Yc ?_);refine zVq (zhq (zcq Y Y (zcq rfl (cut_lo (l:=64) Y Y Y Y Y Y Y h64 rfl) (zcq Y Y (zIq ?_)))));refine ypq (q4q (atL (all.drop off)) s',.sl all off (off+64)) ⟨⟨by omega,ho2⟩,?_⟩ (by simp only[hr'];simp only[hrl,List.length_drop];omega) (kNq Xd (Nat.le_refl _) ⟨rfl,rfl,rfl,rfl,?_,rfl,rfl,trivial⟩ (by simp only[List.all_cons,List.all_nil,zkq hPp,Bool.and_true];rfl) (jWq ⟨⟨by show 2<3;omega,by show some (5,renW _ (W.arr all.length 1 (bN all)))=_;rw[zZq hpa],zkq hpa⟩,⟨by show 1<3;omega,rfl,rfl⟩,⟨by show 0<3;omega,rfl,rfl⟩,trivial⟩) Qd)
    ·rw[hr',<-heat];exact(ZHq (r:=(Rst.sl all base off).r) (by rw[hrl];exact h64)).symm
    ·show some (W.sl 2 off (off+64*1) (all.length-off-64) 1 (qBq 64 none))=some (W.sl 2 off (off+64) (all.length-(off+64)) 1 none);rw[Nat.sub_sub];rfl
   ·have h64:all.length-off<64:=by
     have:=hc2;simp only[Bool.not_eq_false'] at this;have:=ltI_iff.1 this;omega
    refine jrq (kUq Xh (y7q Xh ?_));refine vFq (q2q Yc ?_);refine zVq (zhq (Ziq (i+1) Y Y Yu Qw ?_));refine zcq Y Y (zIq ?_);refine ypq (i+1,s',.sl all base off) ⟨hi1,⟨ho1,ho2⟩,done (by rw[hrl];exact h64),by simp only[hrl];exact h64⟩ Ya (z7q ⟨rfl,rfl,rfl,rfl,rfl,rfl,rfl,trivial⟩ Y Y)
 ·simp only at hi hok hfold hr64;obtain rfl:i=ps.length:=by have:=ltI_not.1 hc1;simp only at this;omega
  rw[show(ps.map (·.1)).take ps.length=ps.map (·.1) by rw[List.take_of_length_le Xj]] at hfold;have hT:(ps.map (·.1)).take ps.length=ps.map (·.1):=by rw[List.take_of_length_le Xj]
  have hdt:∀(all:List Nat) (off:Nat),((bN all).drop off).take (all.length-off)=bN (all.drop off):=λall off=>by
   rw[List.take_of_length_le (by simp[jRq])];simp[bN,List.map_drop]
  have bapp:∀a b:List Nat,bN a++bN b=bN (a++b):=λa b=>by simp[bN]
  have apur:∀all:List Nat,purW (.arr all.length 1 (bN all))=true:=λall=>vCq all
  refine jrq (kUq Xh (y7q Xh ?_));refine vFq (zVq ?_);refine co_cut (α:=Unit) (λ_=>True) (λ_=>[(5,.int .u64 (yXq (ps.map (·.1)):Int)),(4,.sl 2 0 0 (r.r++[128]).length 1 none),(3,.ptr 1 0),(2,.ptr 0 0)]) (λ_=>hpS (.sl (r.r++[128]) 0 0) jfq s) (λ_=>3) ?_ (λa ha=>?_)
  ·skip
   cases r with
   |nil=>
    refine zhq (zcq Y Y (y5q Y Y (y5q rfl (ytq Y Y (xqq (news:=bN [128]) (k:=ti5) Y Y Y Y Y (by simp[bN]) Xn Xn)) ?_)));refine zcq Y Y (zIq ?_);refine⟨rfl,(),trivial,?_⟩;exact qdq (b:=2) (k:=3) Xd Xd (by show 3<4;omega) ⟨⟨by show some (W.int .u64 ((yXq ((ps.map (·.1)).take ps.length):Nat):Int))=_;rw[hT];rfl,rfl⟩,⟨rfl,rfl⟩,⟨rfl,rfl⟩,⟨rfl,rfl⟩,trivial⟩ ⟨⟨by omega,rfl,rfl⟩,⟨by omega,rfl,rfl⟩,⟨by omega,rfl,rfl⟩,trivial⟩ Qd
   |sl all base off=>
    obtain⟨ho1,ho2⟩:=hok;simp only[Rst.r,List.length_drop] at hr64;have hle:((Rst.sl all base off).r++[128]).length=all.length-off+1:=by simp[Rst.r]
    refine zhq (zcq Y Y (y5q Y Y (y5q rfl (ytq Y Y (qqq (news:=bN [128]) (k:=ti5) (v:=.arr all.length 1 (bN all)) (off:=off) Y Y Y Y Y (by simp[bN]) (show(all.length-off+1)*1<=140737488355328 by omega) (show all.length-off+1<=70368744177664 by omega) rfl (show all.length<off+(all.length-off+1)*1 by omega) rfl (ufq Xd))) ?_)));refine zcq Y Y (zIq ?_);refine⟨rfl,(),trivial,?_⟩;refine qdq (b:=2) (k:=4) Xd Xd Qk ⟨⟨by show some (W.int .u64 ((yXq ((ps.map (·.1)).take ps.length):Nat):Int))=_;rw[hT];rfl,rfl⟩,⟨?_,rfl⟩,⟨rfl,rfl⟩,⟨rfl,rfl⟩,trivial⟩ ⟨⟨by omega,?_,zkq (apur _)⟩,⟨by omega,rfl,rfl⟩,⟨by omega,rfl,rfl⟩,trivial⟩ Qd
    ·rw[hle];rfl
    ·rw[zZq (apur _),hle,<-bapp];show some (5,W.arr ((all.length-off+1)*1) 1 (((bN all).drop off).take (all.length-off)++bN [128]))=_;rw[hdt,Nat.mul_one];rfl
  --noughts
  have htm:∀n:Nat,((n:Int)).tmod 64=((n%64:Nat):Int):=λn=>by rw[Int.tmod_eq_emod_of_nonneg Xd];omega
  have hA0:(r.r++[128]).length<=64:=by simp;omega
  generalize hA:r.r++[128]=A at*
  refine zyq (yaq ?_);refine qnq (α:=Nat) (λj=>∀i,i<j->(A.length+i)%64≠56) (λj=>[(5,.int .u64 (yXq (ps.map (·.1)):Int)),(4,.sl 2 0 0 (A++List.replicate j 0).length 1 none),(3,.ptr 1 0),(2,.ptr 0 0)]) (λj=>hpS (.sl (A++List.replicate j 0) 0 0) jfq s) (λ_=>3) (λ_=>R) (λj=>64-j) 0 (λi hi=>absurd hi Xd) (by rw[List.replicate_zero,List.append_nil];exact Ent.refl) (λj hj=>?_)
  have hj64:j<64:=by
   refine Nat.lt_of_not_le λh=>?_
   have:=hj ((56+64-A.length%64)%64) Xd;omega
  have hlj:(A++List.replicate j 0).length=A.length+j:=by simp
  refine zyq (zyq (zhq (zcq Y Y (qXq Y Y (show _=W.int .i64 ((A++List.replicate j 0).length:Int) by first|rfl|(simp[jRq];done)|(simp[jRq];rfl)) ?_))));refine qXq Y Y (congrArg (W.int .i64) (htm _)) (zcq Y Y (zIq ?_));refine zVq ?_;refine q9q rfl (λhc3=>?_) (λhc3=>?_)
  ·have hne:(A.length+j)%64≠56:=by
    have:=hc3;simp only[Bool.not_eq_true'] at this;have:=eqI_not.1 this;rw[hlj] at this;omega
   refine qbq (zVq (yaq (zhq (zcq Y Y (y5q Y Y (y5q rfl (ytq Y Y (qqq (news:=bN [0]) (k:=ti5) (v:=.arr (A++List.replicate j 0).length 1 (bN (A++List.replicate j 0))) (off:=0) Y Y Y Y Y (by simp[bN]) (show((A++List.replicate j 0).length+1)*1<=140737488355328 by omega) (show(A++List.replicate j 0).length+1<=70368744177664 by omega) rfl (show(A++List.replicate j 0).length<0+((A++List.replicate j 0).length+1)*1 by omega) rfl (ufq Xd))) ?_))))));refine zcq Y Y (zIq ?_);refine q2q Yc ?_;have hrep:A++List.replicate (j+1) 0=(A++List.replicate j 0)++[0]:=by rw[List.append_assoc,<-List.replicate_succ']
   refine ypq (j+1) (λi hi=>?_) Xd (qdq (b:=2) (k:=4) Xd Xd Qk ⟨⟨rfl,rfl⟩,⟨?_,rfl⟩,⟨rfl,rfl⟩,⟨rfl,rfl⟩,trivial⟩ ⟨⟨by omega,?_,zkq (apur _)⟩,⟨by omega,rfl,rfl⟩,⟨by omega,rfl,rfl⟩,trivial⟩ Qd)
   ·rcases Nat.lt_succ_iff_lt_or_eq.1 hi with h|rfl
    ·exact hj i h
    ·exact hne
   ·rw[hrep];exact mid1 _ 0
   ·rw[hrep];exact mid2 _ 0
  ·have he:(A.length+j)%64=56:=by
    have:=hc3;simp only[Bool.not_eq_false'] at this;have:=eqI_iff.1 this;rw[hlj] at this;omega
   have hpz:padZ 64 A=A++List.replicate j 0:=padZ_spec 64 j A hj he Xd;rw[<-hpz];have hBl:(padZ 64 A).length<200:=by rw[hpz,hlj];omega
   have hB64:(padZ 64 A).length%64=56:=by rw[hpz,hlj];exact he
   generalize hB:padZ 64 A=B at hBl hB64;refine jrq (kUq Xh (y7q Xh ?_));refine vFq (zVq (zyq (zyq (zhq (zcq Y Y (zIq ?_))))));refine zVq (yaq ?_);have h8:∀k,k<=8->((len8 (yXq (ps.map (·.1)))).take k).length=k:=λk hk=>by simp[len8];omega
   refine qnq (α:=Nat) (λk=>k<=8) (λk=>[(8,.int .i64 (56-8*(k:Int))),(5,.int .u64 (yXq (ps.map (·.1)):Int)),(4,.sl 2 0 0 (B++(len8 (yXq (ps.map (·.1)))).take k).length 1 none),(3,.ptr 1 0),(2,.ptr 0 0)]) (λk=>hpS (.sl (B++(len8 (yXq (ps.map (·.1)))).take k) 0 0) jfq s) (λ_=>3) (λ_=>R) (λk=>8-k) 0 (Nat.zero_le _) (by rw[List.take_zero,List.append_nil];exact z7q ⟨rfl,rfl,rfl,rfl,rfl,trivial⟩ Y Y) (λk hk=>?_);refine zyq (zyq (zhq (zcq Y Y (zcq Y Y (zIq ?_)))));refine zVq ?_;refine q9q rfl (λhc4=>?_) (λhc4=>?_)
   ·have hk8:k<8:=by
     have:=hc4;simp only[Bool.not_eq_true'] at this;have:=ltI_not.1 this;omega
    have hLk:=h8 k hk;have hll:(B++(len8 (yXq (ps.map (·.1)))).take k).length=B.length+k:=by rw[List.length_append,hLk]
    have hnx:B++(len8 (yXq (ps.map (·.1)))).take (k+1)=(B++(len8 (yXq (ps.map (·.1)))).take k)++[Nat.shiftRight (8*yXq (ps.map (·.1))%18446744073709551616) (min (56-8*k) 64)%256]:=by
     rw[List.take_add_one,<-List.append_assoc];congr 1
     have hq:k=0\/k=1\/k=2\/k=3\/k=4\/k=5\/k=6\/k=7:=by omega
     rcases hq with rfl|rfl|rfl|rfl|rfl|rfl|rfl|rfl<;>rfl
    have hw8:juq .i64 (56-8*(k:Int) -8)=56-8*(k:Int) -8:=krq (k:=.i64) Qw;refine qbq (zVq (zyq (yaq (zhq (zcq Y Y (zcq Y Y (zcq Y Y (qXq Y Y (show W.int .i64 (56-8*(k:Int))=W.int .i64 ((56-8*k:Nat):Int) by congr 1;omega) ?_))))))));refine zcq Y Y (zcq Y Y (y5q Y Y (y5q rfl (ytq Y Y (qqq (news:=bN [Nat.shiftRight (8*yXq (ps.map (·.1))%18446744073709551616) (min (56-8*k) 64)%256]) (k:=ti5) (v:=.arr (B++(len8 (yXq (ps.map (·.1)))).take k).length 1 (bN (B++(len8 (yXq (ps.map (·.1)))).take k))) (off:=0) Y Y Y Y Y (by simp[bN]) (show((B++(len8 (yXq (ps.map (·.1)))).take k).length+1)*1<=140737488355328 by omega) (show(B++(len8 (yXq (ps.map (·.1)))).take k).length+1<=70368744177664 by omega) rfl (show(B++(len8 (yXq (ps.map (·.1)))).take k).length<0+((B++(len8 (yXq (ps.map (·.1)))).take k).length+1)*1 by omega) rfl (ufq Xd))) ?_)));refine zcq Y Y (zIq ?_);refine q2q Yc ?_;refine zVq (zhq (zcq Y Y (qXq (w:=W.int .i64 (juq .i64 (56-8*(k:Int) -8))) Y Y (show _=W.int .i64 (56-8*((k+1:Nat):Int)) by rw[hw8];congr 1;omega) ?_)));refine zcq Y Y (zIq ?_);refine ypq (k+1) Xd Xd (qdq (b:=2) (k:=4) Xd Xd Qk ⟨⟨rfl,rfl⟩,⟨rfl,rfl⟩,⟨?_,rfl⟩,⟨rfl,rfl⟩,⟨rfl,rfl⟩,trivial⟩ ⟨⟨by omega,?_,zkq (apur _)⟩,⟨by omega,rfl,rfl⟩,⟨by omega,rfl,rfl⟩,trivial⟩ Qd)
    ·rw[hnx];exact mid1 _ _
    ·rw[hnx];exact mid2 _ _
   ·obtain rfl:k=8:=by
     have:=hc4;simp only[Bool.not_eq_false'] at this;have:=ltI_iff.1 this;omega
    have ht8:(len8 (yXq (ps.map (·.1)))).take 8=len8 (yXq (ps.map (·.1))):=rfl;rw[ht8];have hMl:(B++len8 (yXq (ps.map (·.1)))).length=B.length+8:=by simp[len8]
    have hsha:shaN (ps.map (·.1))=digN (qDq (B++len8 (yXq (ps.map (·.1)))).length s (B++len8 (yXq (ps.map (·.1))))):=by
     simp only[shaN,<-hfold,hA,hB]
    generalize hM:B++len8 (yXq (ps.map (·.1)))=M at hMl hsha;refine jrq (kUq Xh (y7q Xh ?_));refine vFq (zVq (zyq (yaq ?_)));refine qnq (α:=S8×Nat×Nat) (λb=>b.2.2<=M.length/\(M.length-b.2.2)%64=0/\qDq M.length s M=qDq (M.drop b.2.2).length b.1 (M.drop b.2.2)) (λb=>[(4,.sl 2 b.2.1 b.2.2 (M.length-b.2.2) 1 none),(3,.ptr 1 0),(2,.ptr 0 0)]) (λb=>hpS (.sl M b.2.1 b.2.2) jfq b.1) (λ_=>3) (λ_=>R) (λb=>M.length-b.2.2) (s,0,0) ⟨Nat.zero_le _,by show(M.length-0)%64=0;omega,rfl⟩ (z7q ⟨rfl,rfl,rfl,trivial⟩ Y Y) (λb hb5=>?_);obtain⟨s',base,off⟩:=b;obtain⟨ho,hmod,heat⟩:=hb5;simp only at ho hmod heat;refine zyq (zyq (zhq (zcq Y Y (qXq Y Y (show _=W.int .i64 ((M.length-off:Nat):Int) by first|rfl|(simp[jRq];done)|(simp[jRq];rfl)) ?_))));refine zcq Y Y (zIq ?_);refine zVq ?_;refine q9q rfl (λhc5=>?_) (λhc5=>?_)
    ·have h1:1<=M.length-off:=by have:=ltI_iff.1 hc5;omega
     have h64:64<=M.length-off:=by omega
     have hpa:purW (.arr M.length 1 (bN M))=true:=vCq M
     have hby:∀k,k<64->z6q 50 (.arr M.length 1 (bN M)) (off+0*1+k*1) 1 false=some (.int .u8 (.ofNat (atL (M.drop off) k))):=λk hk=>by
      have:=bN_at (l:=M) (i:=off+k) Xd;refine yDq ?_ rfl;rw[Nat.zero_mul,Nat.add_zero,Nat.mul_one,this];simp[atL,List.getD,List.getElem?_drop]
     refine qbq (zVq (zyq (yaq (zhq (zcq Y Y (zcq rfl (cut_hi (h:=64) Y Y Y Y Y Y Y h64) ?_))))))
     (refine ycq rfl (k5q (ext:=[1,2]) (ws:=[.ptr 0 0,.sl 1 base (off+0*1) (64-0) 1 none]) Y Y Y Y Y (λR=>block_s s' (atL (M.drop off)) (.arr M.length 1 (bN M)) base _ none 5 (zkq hpa) hby R) Xn Qo Xj (handed2 rfl (by rw[zZq hpa];rfl) rfl (zkq hpa)) Y ?_);rintro w hp1 nw1 ⟨rfl,rfl,rfl⟩)
     refine zIq (q2q Yc ?_);refine zVq (zhq (zcq Y Y (zcq rfl (cut_lo (l:=64) Y Y Y Y Y Y Y h64 rfl) (zcq Y Y (zIq ?_)))));refine ypq (q4q (atL (M.drop off)) s',off,off+64) ⟨by simp only;omega,by simp only;omega,?_⟩ Ya (kNq Xd (Nat.le_refl _) ⟨?_,rfl,rfl,trivial⟩ rfl (jWq ⟨⟨by omega,by show some (5,renW _ (W.arr M.length 1 (bN M)))=_;rw[zZq hpa],zkq hpa⟩,⟨by omega,rfl,rfl⟩,⟨by omega,rfl,rfl⟩,trivial⟩) Qd)
     ·rw[heat,x5q Xo,List.drop_drop]
     ·show some (W.sl 2 off (off+64*1) (M.length-off-64) 1 (qBq 64 none))=some (W.sl 2 off (off+64) (M.length-(off+64)) 1 none);rw[Nat.sub_sub];rfl
    ·have h0:M.length-off=0:=by have:=ltI_not.1 hc5;omega
     have hend:qDq M.length s M=s':=by
      rw[heat,List.drop_of_length_le Xd];rfl
     rw[hend] at hsha;refine jrq (kUq Xh (y7q Xh ?_));refine vFq (zVq (zyq (zyq (zhq (zcq Y Y (zIq ?_))))));refine zVq (yaq ?_);have htd4:∀n:Nat,((n:Int)).tdiv 4=((n/4:Nat):Int):=λn=>by rw[Int.tdiv_eq_ediv_of_nonneg Xd];omega
     have htm4:∀n:Nat,((n:Int)).tmod 4=((n%4:Nat):Int):=λn=>by rw[Int.tmod_eq_emod_of_nonneg Xd];omega
     refine qnq (α:=Nat) (λi=>i<=32) (λi=>[(64,.int .i64 (i:Int)),(3,.ptr 1 0),(2,.ptr 0 0)]) (λi=>hpS (.sl M base off) (.arr 32 1 (bN (dI s' i))) s') (λ_=>3) (λ_=>R) (λi=>32-i) 0 (Nat.zero_le _) (z7q ⟨rfl,rfl,rfl,trivial⟩ Y Y) (λi hi=>?_);refine zyq (zhq (zcq Y Y (zIq ?_)));refine zVq (zyq ?_);refine q9q rfl (λhc6=>?_) (λhc6=>?_)
     ·have hi32:i<32:=by have:=ltI_iff.1 hc6;omega
      refine qbq (zVq (zyq (yaq (zyq (zhq (zcq Y Y (zcq Y Y (zIq ?_))))))));refine zVq (zhq (zcq Y Y (zcq Y Y (Ziq (i/4) Y Y (htd4 i) Qw ?_))));refine zcq rfl (zHq (i:=i/4) Y Y Y Y Y Y Xd) (y5q rfl (yMq Y Y Y (yDq (S8_at s' Xd) rfl)) ?_);refine zcq Y Y (qXq Y Y (congrArg (W.int .i64) (htm4 i)) (Ziq (8*(i%4)) Y Y Yu Qw ?_));refine Ziq (24-8*(i%4)) Y Y Yu Qw ?_;refine zcq Y Y (zcq Y Y (zcq rfl (zHq (i:=i) Y Y Y Y Y Y Xd) ?_));refine y5q rfl (jgq Y Y Y Y Y (qcq (dI_at s' hi32) Y Y) rfl) (zIq ?_);refine q2q Yc ?_;refine zVq (zhq ?_);first|refine qvq Y Y Qw ?_|refine zcq Y Y ?_
      refine zcq Y Y (zIq ?_);refine ypq (i+1) Xd Xd (z7q ⟨rfl,rfl,rfl,trivial⟩ ?_ rfl);exact congrArg (λL=>hpS (.sl M base off) (.arr 32 1 L) s') (dI_set s' hi32)
     ·obtain rfl:i=32:=by have:=ltI_not.1 hc6;omega
      refine jrq (kUq Xh (y7q Xh ?_));refine vFq (zVq (zyq (zhq (y5q Y Y (y5q Y Y (zIq ?_))))));refine zVq (co_ret ?_);refine fin Qx Ent.refl rfl ⟨rfl,?_⟩;rw[hsha];have:dI s' 32=digN s':=by simp[dI,List.take_of_length_le,uHq]
      rw[<-this]
theorem bytes_bN(l:List UInt8):zbq l=bN (l.map UInt8.toNat):=by simp[zbq,bN]
theorem shaN_l(ps:List (List Nat)):(shaN ps).length=32:=by simp[shaN,digN]
theorem shaN_lt(ps:List (List Nat)):∀n∈shaN ps,n<256:=λn h=>by
 simp only[shaN,digN,List.mem_map] at h;obtain⟨i,_,rfl⟩:=h;exact Nat.mod_lt _ Xn
noncomputable def shaD(ps:List (List UInt8)):Dig:=⟨(shaN (ps.map λp=>p.map UInt8.toNat)).map UInt8.ofNat,by simp[shaN_l]⟩
theorem bytes_of{l:List Nat}(h:∀n∈l,n<256):zbq (l.map UInt8.ofNat)=bN l:=by
 rw[bytes_bN,List.map_map];congr 1
 conv=>rhs;rw[<-List.map_id l]
 refine List.map_congr_left λn hn=>?_
 have:=h n hn;simp;omega
theorem Yvq:∀l:List UInt8,Ycq (zbq l)=true
 |[]=>rfl
 |c::l=>by
  show(kMq (W.int .u8 (.ofNat c.toNat))&&Ycq (zbq l))=true;rw[Yvq l];rfl
theorem flat_dW(k:Dig):kMq (dW k)=true:=Yvq k.1
theorem sha_s(ps:List (List UInt8×Bool))(f:Bool)(hb:((ps.map (·.1)).map List.length).foldr (· + ·) 0<2147483648)(hn:ps.length<2147483648):PS cfg glK 245 [.fz (ps.map λp=>.fz (zbq p.1) 1 p.2) 1 f] (dW (shaD (ps.map (·.1)))):=λR=>by
 have e1:(ps.map λp=>(p.1.map UInt8.toNat,p.2)).map Yaq=ps.map λp=>.fz (zbq p.1) 1 p.2:=by simp[Yaq,bytes_bN]
 have e2:(ps.map λp=>(p.1.map UInt8.toNat,p.2)).map (·.1)=(ps.map (·.1)).map λp=>p.map UInt8.toNat:=by simp
 have h:=of_s (ps.map λp=>(p.1.map UInt8.toNat,p.2)) f (by rw[e2];show(List.map List.length _).foldr _ 0<_;rw[List.map_map];simpa[Function.comp_def] using hb) (by simpa using hn) R;rw[e1,e2] at h
 have e3:dW (shaD (ps.map (·.1)))= .arr 32 1 (bN (shaN ((ps.map (·.1)).map λp=>p.map UInt8.toNat))):=by
  show W.arr 32 1 (zbq _)=_;rw[<-bytes_of (shaN_lt _)];rfl
 show Spec cfg glK _ 0 _ [] R λw hp nw R'=>R'=R/\w=dW (shaD (ps.map (·.1)))
 rw[e3];exact h
def kHq(p:List UInt8):List UInt8:=beB 4 (p.length%4294967296)++p
def tagB(kind:UInt8)(ps:List (List UInt8)):List UInt8:=kind::ps.flatMap kHq
variable {G:Nat->Option W}
@[simp] theorem bWs_pur(ps:List (List UInt8)):purL (ps.map bW)=true:=yZq (λx=>by simp) ps
theorem Qmq{m:Nat}:∀{ps:List (List UInt8)} (i:Nat),(∀p∈ps,p.length<m) ->((ps.take i).flatMap kHq).length<=i*(m+4)
 |[],i,_=>by simp
 |p::ps,0,_=>by simp
 |p::ps,i+1,h=>by
  have h1:=Qmq (ps:=ps) i λq hq=>h q (List.mem_cons_of_mem _ hq)
  have h2:=h p (List.mem_cons_self ..);simp only[List.take_succ_cons,List.flatMap_cons,List.length_append,kHq,qpq,Nat.succ_mul];omega
theorem tbytes_s(kind:UInt8)(ps:List (List UInt8))(f:Bool)(hn:ps.length<1000000)(hb:∀p∈ps,p.length<1000000):PS cfg G 246 [.int .u8 (.ofNat kind.toNat),.fz (ps.map bW) 1 f] (bW (tagB kind ps)):=by
 have e:(ps.map bW).length=ps.length:=List.length_map _;refine gIv 16 Y (λR k0=>?_);refine gV (w':=.int .i64 (ps.length:Int)) 0 Y Xw ?_;refine zeq 4 Y ?_;refine co_loopG1 (α:=Nat) (λi=>i<=ps.length) 5 (λi=>zbq (kind::(ps.take i).flatMap kHq)) 5 1 (λi=>[(14,.int .i64 (i:Int))]) [(4,_),(12,_),(13,_)] ([]) 0 0 (λi=>ps.length-i) (0) ⟨rfl,rfl,rfl,trivial⟩ (Nat.zero_le _) ⟨rfl,trivial⟩ Xd Xd Yj Qg rfl Qg Xg Xg rfl Xk Xi Yd (λi hI=>?_);refine z1q 6 Y ?_;refine gS 0 Y (λh1=>?_) (λh1=>?_)
 ·have hi:i<ps.length:=by omega
  obtain⟨x,hx⟩:∃x,ps[i]? =some x:=⟨_,List.getElem?_eq_getElem hi⟩
  have hxl:=hb x (List.mem_of_getElem? hx);have hfl:((ps.take i).flatMap kHq).length<=i*1000004:=Qmq i hb;have hL:(zbq (kind::(ps.take i).flatMap kHq)).length<=1+i*1000004:=by rw[zdq,List.length_cons];omega
  have hN:(zbq (beB 4 x.length)).length=4:=by rw[zdq,qpq]
  have hnx:zbq (kind::(ps.take (i+1)).flatMap kHq)=(zbq (kind::(ps.take i).flatMap kHq)++zbq (beB 4 x.length))++zbq x:=by
   rw[List.take_add_one,hx,<-yKq,<-yKq];congr 1
   simp[kHq,Nat.mod_eq_of_lt (show x.length<4294967296 by omega)]
  skip
  cases x with
  |nil=>
   refine yvq 6 Y ?_;refine gP 0 Y (zrq (i:=i) Y Y Y Y Y Y Y (zoq bW hx)) ?_;refine gV (w':=.int .i64 (([]:List UInt8).length:Int)) 7 Y (by show W.int .i64 ((zbq (([]:List UInt8))).length:Int)=_;rw[zdq]) ?_;refine gWr 0 Y ?_;refine gWr 0 Y ?_
   (refine ycq rfl (jYq Y Y Y Y Y Y (put_s ([]:List UInt8).length 4 Xd Xd (by show([]:List UInt8).length<4294967296;omega)) ?_);rintro w hp1 nw1 ⟨rfl,rfl,rfl⟩)
   refine zAq 10 Y ?_;refine gM 0 Y (ytq Y Y (jSq [_] (k:=ti5) (news:=zbq (beB 4 ([]:List UInt8).length)) Y Y Y Y Y (yQq Y Y Y (zpq Xn hN.symm rfl)) Ym Qn Qi rfl (by simp[numC]))) ?_;refine gM 1 Y (ytq Y Y (kRq (k:=ti5) Y Y Y Y Y)) ?_;refine gWr 5 Y ?_;refine zeq 2 Y ?_;exact jdq 2 (i+1) (hi) Xd (Nat.zero_le _) (by rw[hnx];exact List.append_nil _) Xv Xd Yj rfl Xy ⟨rfl,trivial⟩ ⟨rfl,rfl,rfl,trivial⟩ Xg Xg rfl Xk Xi Yd
  |cons c x=>
   refine yvq 6 Y ?_;refine gP 0 Y (zrq (i:=i) Y Y Y Y Y Y Y (zoq bW hx)) ?_;refine gV (w':=.int .i64 ((c::x).length:Int)) 7 Y (by show W.int .i64 ((zbq ((c::x))).length:Int)=_;rw[zdq]) ?_;refine gWr 0 Y ?_;refine gWr 0 Y ?_
   (refine ycq rfl (jYq Y Y Y Y Y Y (put_s (c::x).length 4 Xd Xd (by show(c::x).length<4294967296;omega)) ?_);rintro w hp1 nw1 ⟨rfl,rfl,rfl⟩)
   refine zAq 10 Y ?_;refine gM 0 Y (ytq Y Y (jSq [_] (k:=ti5) (news:=zbq (beB 4 (c::x).length)) Y Y Y Y Y (yQq Y Y Y (zpq Xn hN.symm rfl)) Ym Qn Qi rfl (by simp[numC]))) ?_;refine gM 1 Y (ytq Y Y (qqq (k:=ti5) (len:=(zbq (kind::(ps.take i).flatMap kHq)++zbq (beB 4 (c::x).length)).length) (news:=zbq (c::x)) (olds:=zbq (kind::(ps.take i).flatMap kHq)++zbq (beB 4 (c::x).length)) Y Y Y Y Y Qg (by rw[List.length_append,hN,zdq (c::x)];show(_+_)*1<=_;omega) (by rw[List.length_append,hN,zdq (c::x)];omega) rfl Yz rfl (zpq Xn Y Y))) ?_;refine gWr 5 Y ?_;refine zeq 2 Y ?_;exact jdq 3 (i+1) (hi) Xd (Nat.zero_le _) (hnx) Xv Xd Yj rfl Xy ⟨rfl,trivial⟩ ⟨rfl,rfl,rfl,trivial⟩ Xg Xg rfl Xk Xi Yd
 ·have hi:i=ps.length:=by omega
  subst hi;refine zeq 2 Y ?_;refine y7q Xh ?_;refine zYq 9 Y ?_;refine y0q Xt Y ?_;rw[List.take_length];exact xIq (H0:=[]) Xn Xj Xj
theorem tag_le{m:Nat}(kind:UInt8)(ps:List (List UInt8))(h:∀p∈ps,p.length<m):(tagB kind ps).length<=1+ps.length*(m+4):=by
 have:=Qmq (m:=m) ps.length h;rw[List.take_length] at this;simp only[tagB,List.length_cons];omega
noncomputable def tagD(kind:UInt8)(ps:List (List UInt8)):Dig:=shaD [tagB kind ps]
theorem uYq(kind:UInt8)(ps:List (List UInt8))(f:Bool)(hn:ps.length<1000)(hb:∀p∈ps,p.length<1000000):PS cfg glK 174 [.int .u8 (.ofNat kind.toNat),.fz (ps.map bW) 1 f] (dW (tagD kind ps)):=by
 have hl:=tag_le kind ps hb;refine gI 9 Y (λR k0=>gC 0 Y (tbytes_s kind ps f Xd hb) (zeq 1 Y ?_));refine Ybq Y Y Y Y Y (by(repeat (first|exact .nil|refine .cons ?_ ?_|(refine .sl Y ?_ rfl Xh;first|rfl|(focus (simp;done)))|(refine yPq Y ?_ rfl;first|rfl|(focus (simp;done)))|(refine .pur ?_;first|rfl|(focus (simp;done)))))) (sha_s [(tagB kind ps,false)] false Xo Xj) Xk Xk ?_;exact zAq 4 Y (gQa 0 Y)
noncomputable def keyD(k:Dig):Dig:=tagD 3 [k.1]
end
section
attribute [local irreducible] CoW OpW FlW Step Spec
variable {G:Nat->Option W}
structure Tx where
 pub:Dig
 to:Dig
 nonce:Nat
 amount:Nat
 fee:Nat
 sign:Dig
noncomputable def txW(x:Tx):W:=.agg 99 [dW x.pub,dW x.to,.int .u64 (x.nonce:Int),.int .u64 (x.amount:Int),.int .u64 (x.fee:Int),dW x.sign]
@[simp] theorem txW_pur(x:Tx):purW (txW x)=true:=by simp[txW]
structure Tx.ok(x:Tx):Prop where
 nonce:x.nonce<18446744073709551616
 amount:x.amount<18446744073709551616
 fee:x.fee<18446744073709551616
def jtq(x:Tx):List UInt8:=(x.pub.1++x.to.1)++[x.nonce,x.amount,x.fee].flatMap (beB 8)
theorem body1_s(d:Dig):PS cfg G 338 [dW d] (bW d.1):=by
 exact gIv 13 Y (λR k0=>y0q Qx rfl (.sl (full:=false) (xs:=zbq d.1) rfl Xj (zpq Xn (by simp[zdq,d.2]) rfl) Xh))
theorem body2_s(n:Nat)(hn:n<18446744073709551616):PS cfg G 340 [.int .u64 (n:Int)] (bW (beB 8 n)):=by
 refine gIv 8 Y (λR k0=>?_)
 (refine ycq rfl (jYq Y Y Y Y Y Y (put_s n 8 Xd Xd (by show n<18446744073709551616;omega)) ?_);rintro w hp1 nw1 ⟨rfl,rfl,rfl⟩)
 exact zAq 14 Y (y0q Qx rfl (.sl (full:=false) (c:=.arr (8*1) 1 (zbq (beB 8 n))) (xs:=zbq (beB 8 n)) rfl Xj (zpq Xn (by rw[zdq,qpq]) rfl) Xh))
theorem flat_app{ds:List Dig}{i:Nat}{d:Dig}(h:ds[i]? =some d):zbq ((ds.take (i+1)).flatMap (·.1))=zbq ((ds.take i).flatMap (·.1))++zbq d.1:=by
 rw[List.take_add_one,h,<-yKq];congr 1
 simp
theorem flat_dig:∀(ds:List Dig) (i:Nat),((ds.take i).flatMap (·.1)).length<=i*32
 |[],i=>by simp
 |d::ds,0=>by simp
 |d::ds,i+1=>by
  have:=flat_dig ds i;simp only[List.take_succ_cons,List.flatMap_cons,List.length_append,d.2,Nat.succ_mul];omega
@[simp] theorem dWs_pur(ds:List Dig):purL (ds.map dW)=true:=yZq (λx=>by simp) ds
theorem putd_s(ds:List Dig)(f:Bool)(hn:ds.length<1000):PL cfg G 337 [.nils,.fz (ds.map dW) 32 f,.fn 338 [] []] 5 1 (zbq (ds.flatMap (·.1))):=by
 have e:(ds.map dW).length=ds.length:=List.length_map _;intro R;refine gIs 9 Y (λk0=>?_);refine gV (w':=.int .i64 (ds.length:Int)) 0 Y Xw (zeq 4 Y ?_);refine vVq (α:=Nat) (λi=>i<=ds.length) 0 (λi=>zbq ((ds.take i).flatMap (·.1))) 5 1 (λi=>[(11,.int .i64 (i:Int))]) [(2,_),(6,_),(9,_),(10,_)] _ (λi=>ds.length-i) (0) ⟨rfl,rfl,rfl,rfl,trivial⟩ (Nat.zero_le _) ⟨rfl,trivial⟩ Y Y Y (λi hI=>?_);refine z1q 6 Y ?_;refine gS 0 Y (λh1=>?_) (λh1=>?_)
 ·have hi:i<ds.length:=by omega
  obtain⟨d,hd⟩:∃d,ds[i]? =some d:=⟨_,List.getElem?_eq_getElem hi⟩
  have hN:(zbq d.1).length=32:=by rw[zdq,d.2]
  have hne:zbq ((ds.take i).flatMap (·.1))++zbq d.1≠[]:=λh=>by have:=congrArg List.length h;rw[List.length_append,hN] at this;simp at this
  have hL:(zbq ((ds.take i).flatMap (·.1))).length<=i*32:=by rw[zdq];exact flat_dig ds i
  exact gP 6 Y (zrq (i:=i) Y Y Y Y Y Y Y (zoq dW hd)) (gC 9 Y (body1_s d) (gM 0 Y (ytq Y Y (jSq [_] (k:=ti5) (news:=zbq d.1) Y Y Y Y Y Y Ym (by rw[hN];show(_+32)*1<=_;omega) Qi rfl Xj)) (gWr 5 Y (zeq 2 Y (jdq 2 (i+1) (hi) Xd (Nat.zero_le _) (flat_app hd) Xv Xd Yj rfl Xy ⟨rfl,trivial⟩ ⟨rfl,rfl,rfl,rfl,trivial⟩ Xg Xg rfl Xk Xi Yd)))))
 ·have hi:i=ds.length:=by omega
  subst hi;refine zeq 2 Y (y7q Xh (zYq 9 Y ?_));rw[List.take_length];exact fin Qx (z7q (fr2:=[(6,gW 0 1 (zbq (ds.flatMap (·.1))))]) ⟨rfl,trivial⟩ Y Y) rfl ⟨rfl,rfl,rfl,rfl⟩
theorem flat_num:∀(ns:List Nat) (i:Nat),((ns.take i).flatMap (beB 8)).length<=i*8
 |[],i=>by simp
 |d::ds,0=>by simp
 |d::ds,i+1=>by
  have:=flat_num ds i;simp only[List.take_succ_cons,List.flatMap_cons,List.length_append,qpq,Nat.succ_mul];omega
noncomputable def uW(n:Nat):W:=.int .u64 (n:Int)
@[simp] theorem uWs_pur(ns:List Nat):purL (ns.map uW)=true:=yZq (λx=>rfl) ns
noncomputable def thr(i:Nat):Nat:=match i with
 |0=>0
 |_+1=>1
theorem putu_s(l:List UInt8)(hl0:l≠[])(hl:l.length<100000)(ns:List Nat)(f:Bool)(hn:ns.length<1000)(hns:ns≠[])(hu:∀n∈ns,n<18446744073709551616):j9q cfg G 339 1 [.sl 0 0 0 l.length 1 none,.fz (ns.map uW) 1 f,.fn 340 [] []] [(0,5,.arr l.length 1 (zbq l))] λw hp nw=>w= .sl 1 0 0 (l++ns.flatMap (beB 8)).length 1 none/\hp=[(1,5,.arr (l++ns.flatMap (beB 8)).length 1 (zbq (l++ns.flatMap (beB 8))))]/\nw=2:=by
 have e:(ns.map uW).length=ns.length:=List.length_map _;intro R;refine gIs 9 Y (λk0=>?_);refine gV (w':=.int .i64 (ns.length:Int)) 0 Y Xw (zeq 4 Y ?_);refine qnq (α:=Nat) (λi=>i<=ns.length) (λi=>[(11,.int .i64 (i:Int)),(0,.sl (thr i) 0 0 (l++(ns.take i).flatMap (beB 8)).length 1 none),(2,.fn 340 [] []),(6,.nils),(9,.fz (ns.map uW) 1 f),(10,.int .i64 (ns.length:Int))]) (λi=>[(thr i,5,.arr (l++(ns.take i).flatMap (beB 8)).length 1 (zbq (l++(ns.take i).flatMap (beB 8))))]) (λi=>thr i+1) (λ_=>R) (λi=>ns.length-i) 0 (Nat.zero_le _) (z7q ⟨rfl,by show some (W.sl 0 0 0 l.length 1 none)=some (W.sl 0 0 0 (l++[]).length 1 none);rw[List.append_nil],rfl,rfl,rfl,rfl,trivial⟩ (by simp[thr]) rfl) (λi hI=>?_);skip
 refine z1q 6 Y ?_;refine gS 0 Y (λh1=>?_) (λh1=>?_)
 ·have hi:i<ns.length:=by omega
  obtain⟨u,hu0⟩:∃u,ns[i]? =some u:=⟨_,List.getElem?_eq_getElem hi⟩
  have hu1:=hu u (List.mem_of_getElem? hu0);have hN:(zbq (beB 8 u)).length=8:=by rw[zdq,qpq]
  have hL:(l++(ns.take i).flatMap (beB 8)).length<=100000+i*8:=by have:=flat_num ns i;rw[List.length_append];omega
  have hnx:l++(ns.take (i+1)).flatMap (beB 8)=(l++(ns.take i).flatMap (beB 8))++beB 8 u:=by rw[List.take_add_one,hu0];simp
  have hlen:(l++(ns.take i).flatMap (beB 8)).length+(zbq (beB 8 u)).length=(l++(ns.take (i+1)).flatMap (beB 8)).length:=by rw[hnx,List.length_append (bs:=beB 8 u),zdq]
  have hby:zbq (l++(ns.take i).flatMap (beB 8))++zbq (beB 8 u)=zbq (l++(ns.take (i+1)).flatMap (beB 8)):=by rw[hnx,yKq (b:=beB 8 u)]
  skip
  cases i with
  |zero=>
   refine yvq 6 Y (gP 0 Y (zrq (i:=0) Y Y Y Y Y Y Y (zoq uW hu0)) (gC 8 Y (body2_s u hu1) (gM 0 Y (ytq Y Y (qqq (k:=ti5) (len:=(l++(ns.take 0).flatMap (beB 8)).length) (news:=zbq (beB 8 u)) (olds:=zbq (l++(ns.take 0).flatMap (beB 8))) Y Y Y Y Y Ym (by rw[hN];show(_+8)*1<=_;omega) Qi rfl (by rw[hN];show(l++(ns.take 0).flatMap (beB 8)).length<0+(_+8)*1;omega) rfl (zpq Xn (zdq _).symm (Nat.mul_one _).symm))) (gA 5 Y (0+1) (zeq 2 Y ?_)))));skip
   refine ypq 1 hi Xd (z7q ⟨rfl,?_,rfl,rfl,rfl,rfl,trivial⟩ ?_ rfl)
   ·show some (W.sl 1 0 0 ((l++(ns.take 0).flatMap (beB 8)).length+(zbq (beB 8 u)).length) 1 none)=some (W.sl 1 0 0 (l++(ns.take (0+1)).flatMap (beB 8)).length 1 none);rw[hlen]
   ·show [(1,5,W.arr (((l++(ns.take 0).flatMap (beB 8)).length+(zbq (beB 8 u)).length)*1) 1 (zbq (l++(ns.take 0).flatMap (beB 8))++zbq (beB 8 u)))]=[(1,5,W.arr (l++(ns.take (0+1)).flatMap (beB 8)).length 1 (zbq (l++(ns.take (0+1)).flatMap (beB 8))))];rw[hlen,hby,Nat.mul_one]
  |succ i=>
   refine yvq 6 Y (gP 0 Y (zrq (i:=(i+1)) Y Y Y Y Y Y Y (zoq uW hu0)) (gC 8 Y (body2_s u hu1) (gM 0 Y (ytq Y Y (qqq (k:=ti5) (len:=(l++(ns.take (i+1)).flatMap (beB 8)).length) (news:=zbq (beB 8 u)) (olds:=zbq (l++(ns.take (i+1)).flatMap (beB 8))) Y Y Y Y Y Ym (by rw[hN];show(_+8)*1<=_;omega) Qi rfl (by rw[hN];show(l++(ns.take (i+1)).flatMap (beB 8)).length<0+(_+8)*1;omega) rfl (zpq Xn (zdq _).symm (Nat.mul_one _).symm))) (gA 5 Y ((i+1)+1) (zeq 2 Y ?_)))));skip
   refine ypq (i+1+1) hi (show ns.length-(i+1+1)<ns.length-(i+1) by omega) ?_;refine(qdq (b:=1) (k:=2) Xd Xd (by show 2<3;omega) ⟨⟨rfl,rfl⟩,⟨?_,rfl⟩,⟨rfl,rfl⟩,⟨rfl,rfl⟩,⟨by rw[zZq (show purW (.fz (ns.map uW) 1 f)=true from uWs_pur ns)];rfl,zkq (show purW (.fz (ns.map uW) 1 f)=true from uWs_pur ns)⟩,⟨rfl,rfl⟩,trivial⟩ ⟨⟨by show 1<2;omega,?_,zkq (show purW (.arr _ 1 (zbq _))=true from yEq _)⟩,trivial⟩ Xj)
   ·show some (W.sl 2 0 0 ((l++(ns.take (i+1)).flatMap (beB 8)).length+(zbq (beB 8 u)).length) 1 none)=some (W.sl 2 0 0 (l++(ns.take (i+1+1)).flatMap (beB 8)).length 1 none);rw[hlen]
   ·show some (5,W.arr (((l++(ns.take (i+1)).flatMap (beB 8)).length+(zbq (beB 8 u)).length)*1) 1 (zbq (l++(ns.take (i+1)).flatMap (beB 8))++zbq (beB 8 u)))=some (5,renW _ (W.arr (l++(ns.take (i+1+1)).flatMap (beB 8)).length 1 (zbq (l++(ns.take (i+1+1)).flatMap (beB 8)))));rw[zZq (show purW (.arr _ 1 (zbq _))=true from yEq _),hlen,hby,Nat.mul_one]
 ·have hi:i=ns.length:=by omega
  subst hi;refine zeq 2 Y (y7q Xh (zYq 9 Y ?_));rw[List.take_length];cases ns with
  |nil=>exact absurd rfl hns
  |cons a r=>
   exact fin Qx (z7q (fr2:=[(6,.sl 1 0 0 (l++(a::r).flatMap (beB 8)).length 1 none)]) ⟨rfl,trivial⟩ Y Y) rfl ⟨rfl,rfl,rfl,rfl⟩
theorem put2_s(a b:Dig)(f:Bool):j9q cfg G 337 0 [.nils,.fz [dW a,dW b] 32 f,.fn 338 [] []] [] λw hp nw=>w= .sl 0 0 0 (a.1++b.1).length 1 none/\hp=[(0,5,.arr (a.1++b.1).length 1 (zbq (a.1++b.1)))]/\nw=1:=by
 refine xBq (putd_s [a,b] f Xj) λw hp nw h=>?_
 obtain⟨rfl,rfl,rfl⟩:=h;have e:[a,b].flatMap (·.1)=a.1++b.1:=by simp
 have hl:(zbq (a.1++b.1)).length=64:=by rw[zdq,List.length_append,a.2,b.2]
 have hne:zbq (a.1++b.1)≠[]:=λh=>by rw[h] at hl;cases hl
 rw[e,vdq hne,veq hne,zdq,Nat.mul_one];exact⟨rfl,rfl,rfl⟩
theorem Qyq(x:Tx):(jtq x).length=88:=by simp[jtq,x.pub.2,x.to.2,qpq]
theorem bodyL_s(x:Tx)(hx:x.ok):PL cfg G 302 [txW x] 5 1 (zbq (jtq x)):=by
 have hl:(x.pub.1++x.to.1).length=64:=by rw[List.length_append,x.pub.2,x.to.2]
 have hb:=Qyq x
 have hns:∀n∈[x.nonce,x.amount,x.fee],n<18446744073709551616:=λn hn=>by
  simp only[List.mem_cons,List.not_mem_nil,or_false] at hn;rcases hn with rfl|rfl|rfl
  ·exact hx.nonce
  ·exact hx.amount
  ·exact hx.fee
 have hpa:purW (.arr (x.pub.1++x.to.1).length 1 (zbq (x.pub.1++x.to.1)))=true:=yEq _;intro R;refine gIs 13 Y (λk0=>?_)
 (refine Zjq (λ_=>ent_fr1 1 [(1,.ptr 0 0),(2,.nils),(8,.fz [dW x.pub,dW x.to] 32 false)] [(0,91,txW x)] rfl (show purL [dW x.pub,dW x.to]=true by simp) (Nat.zero_le _) ⟨⟨_,rfl,.ptrK rfl⟩,⟨_,rfl,.pur rfl⟩,⟨_,rfl,.sl (full:=false) rfl (show purL [dW x.pub,dW x.to]=true by simp) rfl Xh⟩,trivial⟩ ⟨⟨by omega,_,rfl,.pur Xj⟩,trivial⟩ Xj) ?_;refine ycq rfl (jYq Y Y Y Y Y Xj (put2_s x.pub x.to false) ?_);rintro w hp1 nw1 ⟨rfl,rfl,rfl⟩)
 refine zAq 13 Y ?_
 (refine Zjq (λ_=>ent_fr1 3 [(1,.ptr 0 0),(2,.nils),(10,.sl 2 0 0 (x.pub.1++x.to.1).length 1 none),(17,.fz ([x.nonce,x.amount,x.fee].map uW) 1 false)] [(2,5,.arr (x.pub.1++x.to.1).length 1 (zbq (x.pub.1++x.to.1))),(0,91,txW x)] Y Y (Nat.zero_le _) ⟨⟨_,rfl,.ptrK rfl⟩,⟨_,rfl,.pur rfl⟩,⟨_,rfl,.slK rfl⟩,⟨_,rfl,.sl (full:=false) Y Y Y Xh⟩,trivial⟩ ⟨⟨by omega,_,rfl,by rw[zZq hpa];exact .pur hpa⟩,⟨by omega,_,rfl,.pur Xj⟩,trivial⟩ Xj) ?_;refine ycq rfl (k5q (ext:=[2]) (ws:=[.sl 0 0 0 (x.pub.1++x.to.1).length 1 none,.fz ([x.nonce,x.amount,x.fee].map uW) 1 false,.fn 340 [] []]) Y Y Y Y Y (putu_s (x.pub.1++x.to.1) (by intro h;rw[h] at hl;cases hl) Xd [x.nonce,x.amount,x.fee] false Xj Xj hns) Xj Xj Xj (handed1 (by rw[zZq hpa];rfl) (zkq hpa)) Y ?_);rintro w hp1 nw1 ⟨rfl,rfl,rfl⟩)
 refine zAq 4 Y ?_;have hpb:purW (.arr (jtq x).length 1 (zbq (jtq x)))=true:=yEq _;have hn:(zbq (jtq x)).length=88:=by rw[zdq,hb]
 have hne:zbq (jtq x)≠[]:=λh=>by rw[h] at hn;cases hn
 refine fin (fr2:=[(2,.sl 0 0 0 (jtq x).length 1 none)]) (hp2:=[(0,5,.arr (jtq x).length 1 (zbq (jtq x)))]) (nw2:=1) (w:=.sl 0 0 0 (jtq x).length 1 none) Qx (qdq (b:=0) (k:=4) Xd Xd Qk ⟨⟨rfl,rfl⟩,trivial⟩ ⟨⟨by omega,?_,zkq hpb⟩,trivial⟩ Xj) rfl ⟨rfl,?_,?_,rfl⟩
 ·show some (5,renW _ (W.arr (jtq x).length 1 (zbq (jtq x))))=some (5,renW _ (W.arr (jtq x).length 1 (zbq (jtq x))));rw[zZq hpb,zZq hpb]
 ·rw[vdq hne,zdq]
 ·rw[veq hne,zdq,Nat.mul_one]
theorem body_s(x:Tx)(hx:x.ok):PS cfg G 302 [txW x] (bW (jtq x)):=(bodyL_s x hx).ps Xn Xj
noncomputable def kXq(x:Tx):Dig:=tagD 4 [jtq x]
theorem sign_s(x:Tx)(hx:x.ok):PS cfg glK 241 [txW x] (dW (kXq x)):=by
 have hb:=Qyq x;refine gI 9 Y (λR k0=>gC 0 Y (body_s x hx) (zeq 1 Y ?_));refine Ybq Y Y Y Y Y (by(repeat (first|exact .nil|refine .cons ?_ ?_|(refine .sl Y ?_ rfl Xh;first|rfl|(focus (simp;done)))|(refine yPq Y ?_ rfl;first|rfl|(focus (simp;done)))|(refine .pur ?_;first|rfl|(focus (simp;done)))))) (uYq 4 [jtq x] false Xj (by simp[hb])) Xk Xk ?_;exact zAq 4 Y (gQa 0 Y)
theorem txcheck_s(x:Tx)(hx:x.ok):PS cfg glK 169 [txW x] (.int .i64 (if x.sign=kXq x then 0 else 110)):=by
 refine ps_in (fn:=Tryz.f169) Y Y Y (Yb rfl) (λR k0=>?_);by_cases h:x.sign=kXq x
 ·rw[if_pos h];skip
  exact z1q 12 Y (gC 0 Y (sign_s x hx) (vzq (w':=.bool false) rfl (q1q Y Y Y Y (yBq Y Y Y Y Y Y x.sign (kXq x) 250)) (by rw[decide_eq_true h];rfl) (y4q 11 Y (gQa 0 Y))))
 ·rw[if_neg h];exact z1q 12 Y (gC 0 Y (sign_s x hx) (vzq (w':=.bool true) rfl (q1q Y Y Y Y (yBq Y Y Y Y Y Y x.sign (kXq x) 250)) (by rw[decide_eq_false h];rfl) (y4q 10 Y (gQa 0 Y))))
end
section
attribute [local irreducible] CoW OpW FlW Step Spec
def acL(l:List Pr)(k:Dig):Acct:=match uDq l k with
 |some v=>(qtq v).1
 |none=>.zero
noncomputable def moreL(l:List Pr)(k:Dig)(c:Nat):Option (List Pr):=if (acL l k).balance+c<18446744073709551616 then some (setL l k ⟨(acL l k).nonce,(acL l k).balance+c⟩) else none
noncomputable def nudeL(l:List Pr)(x:Tx):List Pr:=setL l (keyD x.pub) ⟨(acL l (keyD x.pub)).nonce+1,(acL l (keyD x.pub)).balance⟩
noncomputable def lessL(l:List Pr)(x:Tx):List Pr:=setL (nudeL l x) (keyD x.pub) ⟨(acL l (keyD x.pub)).nonce+1,(acL l (keyD x.pub)).balance-(x.amount+x.fee)⟩
noncomputable def paidL(l:List Pr)(x:Tx)(box:Dig):List Pr×Nat:=if x.amount+x.fee<=(acL l (keyD x.pub)).balance then(match moreL (lessL l x) x.to x.amount with
  |none=>(nudeL l x,151)
  |some p=>match moreL p box x.fee with
   |none=>(nudeL l x,151)
   |some q=>(q,0)) else(nudeL l x,150)
end
noncomputable def gvL(l:List Pr)(d:Depo):List Pr×Nat:=match moreL l d.to d.amount with
 |some q=>(q,0)
 |none=>(l,151)
structure Rec where
 kind:UInt8
 id:Dig
 code:Nat
noncomputable def depD(d:Depo):Dig:=tagD 9 [beB 8 d.number++d.to.1++beB 8 d.amount]
noncomputable def idD(x:Tx):Dig:=tagD 5 [jtq x++x.sign.1]
noncomputable def doD:List Pr->List Depo->List Pr×List Rec
 |l,[]=>(l,[])
 |l,d::ds=>((doD (gvL l d).1 ds).1,⟨1,depD d,(gvL l d).2⟩::(doD (gvL l d).1 ds).2)
def goX(l:List Pr)(x:Tx):Prop:=x.sign=kXq x/\x.nonce=(acL l (keyD x.pub)).nonce/\x.nonce<18446744073709551615
noncomputable instance(l:List Pr)(x:Tx):Decidable (goX l x):=Classical.propDecidable _
noncomputable def doX(box:Dig):List Pr->List Tx->Option (List Pr×List Rec)
 |l,[]=>some (l,[])
 |l,x::xs=>if goX l x then(match doX box (paidL l x box).1 xs with
   |some r=>some (r.1,⟨2,idD x,(paidL l x box).2⟩::r.2)
   |none=>none) else none
section
attribute [local irreducible] CoW OpW FlW Step Spec
variable {G:Nat->Option W}
structure Hdr where
 height:Int
 parent:Dig
 state:Dig
 rows:Dig
 many:Int
noncomputable def hdW(h:Hdr):W:=.agg 98 [.int .i64 h.height,dW h.parent,dW h.state,dW h.rows,.int .i64 h.many]
@[simp] theorem hdW_pur(h:Hdr):purW (hdW h)=true:=by simp[hdW]
theorem ent_blkv{C:Cfg}{G:Nat->Option W}{m k0:Nat}{fr:FrW}{hp:HpW}{nw:Nat}{R:Res}{b:Nat}{ty:TypeId}{w w':W}(hb:hget hp b=some (ty,w))(h:View (λ_=>none) w w'):Ent C G m k0 fr hp nw R fr (hset hp b (ty,w')) nw R:=
 ent_blk hb λΓ v hv=>k1q ⟨λ_ h _=>h,λ_ _ _=>rfl,λ_ h=>h,λ_ _=>rfl,λ_ _ _ h=>Qt⟩ h hv
theorem app_bs{C:Cfg}{hp:HpW}{nw:Nat}{ts tx e ty:TypeId}{j k:TyI}{x:W}{b n:Nat}{L M:List UInt8}(hj:C.ty ts=some j)(hd:j.d= .slice e)(hk:C.ty e=some k)(h1:k.size=1)(h2:k.bytes=1)(ht:Nat.beq ty e=true)(hs:srcW C hp tx 1 x=some (zbq M))(hg:hget hp b=some (ty,.arr (n*1) 1 (zbq L)))(hn:L.length=n)(hM:0<M.length)(hb:n+M.length<=1000000000):appW C hp nw ts tx (.sl b 0 0 n 1 none) x=some (.sl nw 0 0 (L++M).length 1 none,(nw,e,.arr ((L++M).length*1) 1 (zbq (L++M)))::hdel hp b,nw+1,.updO b):=by
 have hl:(zbq M).length=M.length:=zdq M;have q:=qqq (C:=C) (hp:=hp) (nw:=nw) (ts:=ts) (tx:=tx) (e:=e) (ty:=ty) (j:=j) (k:=k) (x:=x) (b:=b) (base:=0) (off:=0) (len:=n) (v:=.arr (n*1) 1 (zbq L)) (news:=zbq M) (olds:=zbq L) hj hd hk (by rw[h1];rfl) (by rw[h1];exact hs) (λh=>by rw[h] at hl;simp at hl;omega) (by rw[hl,h2];omega) (by rw[hl];omega) hg (by rw[hl,h1];show n*1<_;omega) ht (by rw[h1];exact zpq Xn (by rw[zdq];exact hn.symm) rfl);rw[h1,hl,<-yKq] at q;rw[List.length_append,hn];exact q
def okH(h:Hdr):Prop:=0<=h.height/\h.height<=1073741824/\0<=h.many/\h.many<=256
noncomputable instance(h:Hdr):Decidable (okH h):=Classical.propDecidable _
theorem u3q(h:Hdr):PS cfg G 107 [hdW h] (.bool (decide (okH h))):=by
 refine gI 10 Y (λR k0=>?_);refine gD 0 Y (λh1=>?_) (λh1=>?_)
 ·refine gD 3 Y (λh2=>?_) (λh2=>?_)
  ·refine gD 4 Y (λh3=>?_) (λh3=>?_)
   ·refine gU 4 Y ?_;exact gQ 5 Y Xu
   ·exact gQ 10 Y Xu
  ·exact gQ 15 Y Xu
 ·exact gQ 19 Y Xu
end
end
section
open Go.Shelf Go.RowKit Go.Lib
def joinRen:Go.Shelf.Ren:=⟨fun|14=>334|15=>356|n=>n,fun|26=>223|22=>99|3=>3|4=>4|0=>0|9=>9|20=>20|5=>5|n=>n,fun|n=>n⟩
theorem joinLays:Go.Proofs.SlLaysJ.n14 Tryz.prog joinRen:={
 mixed:=by kernel_rfl
 f14:=Tryz.func334.trans (congrArg some Xr)
 f15:=Tryz.func356.trans (congrArg some Xr)
 t0:=Tryz.underlying0
 a0:=Tryz.isAgg0
 z0:=Tryz.sizeOf0
 v0:=Tryz.zeroValue0
 t3:=Tryz.underlying3
 a3:=Tryz.isAgg3
 z3:=Tryz.sizeOf3
 v3:=Tryz.zeroValue3
 t4:=Tryz.underlying4
 a4:=Tryz.isAgg4
 z4:=Tryz.sizeOf4
 v4:=Tryz.zeroValue4
 t9:=Tryz.underlying9
 a9:=Tryz.isAgg9
 z9:=Tryz.sizeOf9
 v9:=Tryz.zeroValue9
 t20:=Tryz.underlying20
 a20:=Tryz.isAgg20
 z20:=Tryz.sizeOf20
 v20:=Tryz.zeroValue20
 t22:=Tryz.underlying99
 a22:=Tryz.isAgg99
 z22:=Tryz.sizeOf99
 v22:=Tryz.zeroValue99
 t26:=Tryz.underlying223
 a26:=Tryz.isAgg223
 z26:=Tryz.sizeOf223
 v26:=Tryz.zeroValue223
 t5:=Tryz.underlying5
 z5:=Tryz.sizeOf5
 i5:=by kernel_rfl}
theorem joinMany(b o n c:Nat)(vs:List Value)(ls:List (List UInt8))(sv:Value)(sep:List UInt8)(w:World)(hn:ls.length=n)(h2:2<=n)(hP:Lib.PartsAt w ⟨b,o,none⟩ vs ls)(hcap:n<=c)(hS:Lib.HoldsBytes w sv sep)(hn47:n<=140737488355328)(hlen:Lib.lens ls+sep.length*(n-1)<=140737488355328):
  Calls Tryz.prog 334 #[.slice (some ⟨b,o,none⟩) n c,sv] w λe w'=>∃v',e= .returned v'/\Lib.FreshBytes w.heap.size w' v' (Lib.join ls sep)/\Below w.heap.size w w':=Any.bytes_Join_many joinLays b o n c vs ls sv sep w hn h2 hP hcap hS hn47 hlen
end
section
open Go.RowKit
section
variable {s0:World} {U:Nat} {D:Nat->Prop} {ρ:Env} {h:Heap} {w w':World}
theorem Rel.pushAt(r:Rel s0 U D ρ h w)(hU:h.next+1<=U){b:Blk}{o:Obj}{q pre cap:Nat}(hq:w.heap.size<=q)(g:Below w.heap.size w w')(hn:w'.heap[q]? =some o)(hin:InB (DD D ρ) b)(hk:KnB (ρ.add h.next q pre cap) h.next b o):
  Rel s0 U (λi=>D i\/i=h.next) (ρ.add h.next q pre cap) (h.push b) w'/\Nxt D ρ h w (λi=>D i\/i=h.next) (ρ.add h.next q pre cap) (h.push b) w':=by
 have hne:=r.next_new hU;have hag:Env.Agree (DD D ρ) ρ (ρ.add h.next q pre cap):=Env.add_agree hne;have hdd:∀j m,DD D ρ j m->DD (λi=>D i\/i=h.next) (ρ.add h.next q pre cap) j m:=λj m hj=>⟨.inl hj.1,by rw[(hag j m hj).2.2.1];exact hj.2⟩
 have hb:∀j,D j->(ρ.add h.next q pre cap).b j=ρ.b j:=λj hj=>(hag j 0 ⟨hj,Nat.zero_le _⟩).1
 have hbn:(ρ.add h.next q pre cap).b h.next=q:=by simp[Env.add]
 have get:∀j c,(D j\/j=h.next) ->(h.push b).get j=some c->(j=h.next/\c=b)\/(D j/\h.get j=some c):=λj c hj hc=>by
  rw[Heap.get_push] at hc;split at hc
  ·rename_i e;cases hc;exact .inl ⟨e,rfl⟩
  ·rename_i e;rcases hj with hj|hj
   ·exact .inr ⟨hj,hc⟩
   ·exact absurd hj e
 have hlt:∀j c,D j->h.get j=some c->ρ.b j<w.heap.size:=λj c hj hc=>by
  obtain⟨o,h1,_⟩:=r.has j c hj hc;exact(Array.getElem?_eq_some_iff.1 h1).1
 have hsz:s0.heap.size<=w.heap.size:=r.base.size;refine⟨⟨λj hj=>?_,λj hj=>?_,λj c hj hc=>?_,λj c hj hc=>?_,λj k c d hj hk' hc hd hoc hod hne'=>?_,λj c hj hc hoc=>?_,λj k c d hj hk' hc hd hoc hod=>?_,?_⟩,?_⟩
 ·show j<h.next+1\/_;rcases hj with hj|hj
  ·have:=r.lt j hj;omega
  ·omega
 ·have hj:h.next+1<=j:=hj;rw[Heap.get_push,if_neg Xd];exact r.wf j Xd
 ·rcases get j c hj hc with ⟨rfl,rfl⟩|⟨hj,hc⟩
  ·exact⟨o,by rw[hbn];exact hn,hk⟩
  ·obtain⟨o,h1,h2⟩:=r.has j c hj hc;exact⟨o,by rw[hb j hj,g.block _ (hlt j c hj hc)];exact h1,KnB.agree hag (m:=0) ⟨hj,Nat.zero_le _⟩ (r.clo j c hj hc) h2⟩
 ·rcases get j c hj hc with ⟨rfl,rfl⟩|⟨hj,hc⟩
  ·exact hin.mono hdd
  ·exact(r.clo j c hj hc).mono hdd
 ·rcases get j c hj hc with ⟨rfl,rfl⟩|⟨hj1,hc1⟩<;>rcases get k d hk' hd with ⟨rfl,rfl⟩|⟨hk1,hd1⟩
  ·exact absurd rfl hne'
  ·rw[hbn,hb k hk1];have:=hlt k d hk1 hd1;omega
  ·rw[hbn,hb j hj1];have:=hlt j c hj1 hc1;omega
  ·rw[hb j hj1,hb k hk1];exact r.inj j k c d hj1 hk1 hc1 hd1 hoc hod hne'
 ·rcases get j c hj hc with ⟨rfl,rfl⟩|⟨hj,hc⟩
  ·rw[hbn];omega
  ·rw[hb j hj];exact r.own j c hj hc hoc
 ·rcases get j c hj hc with ⟨rfl,rfl⟩|⟨hj1,hc1⟩<;>rcases get k d hk' hd with ⟨rfl,rfl⟩|⟨hk1,hd1⟩
  ·rw[hoc] at hod;cases hod
  ·rw[hbn,hb k hk1];have:=hlt k d hk1 hd1;omega
  ·rw[hbn,hb j hj1];have:=hlt j c hj1 hc1;omega
  ·rw[hb j hj1,hb k hk1];exact r.old j k c d hj1 hk1 hc1 hd1 hoc hod
 ·exact⟨g.os.trans r.base.os,g.tape.trans r.base.tape,g.output.trans r.base.output,Nat.le_trans hsz g.size,λk hk=>(g.block k Xd).trans (r.base.block k hk)⟩
 ·refine⟨λ_ h=>.inl h,λj hj=>?_,λj hj=>?_,λc hc _=>g.block c hc,λj hj hn' hl=>?_,g.size,Nat.le_refl _,Nat.le_succ _,g.os,g.tape,g.output⟩
  ·rcases hj with hj|hj
   ·exact .inl hj
   ·exact .inr ⟨Nat.le_of_eq hj.symm,by show j<h.next+1;omega⟩
  ·have:j≠h.next:=by
    rcases hj with hj|hj
    ·omega
    ·have hj:h.next+1<=j:=hj;omega
   simp[Env.add,this]
  ·have hl:j<h.next+1:=hl;obtain rfl:j=h.next:=by omega
   exact .inl (by rw[hbn];exact hq)
theorem byJ_spec(r:Rel s0 U D ρ h w){v:V}{l:List UInt8}(hin:InD (DD D ρ) v)(hk:byJ h v=some l):Lib.HoldsBytes w (conc ρ v) l:=by
 unfold byJ at hk;split at hk
 ·cases hk;exact⟨none,0,rfl,λ_=>rfl,λa h=>by cases h⟩
 ·rename_i b base off n lim;split at hk
  ·rename_i bv hv;split at hk
   ·rename_i L hL;obtain⟨g1,g2⟩:=vBq ρ hk;obtain⟨q1,_,_,_⟩:=qiq (ρ:=ρ) 50 bv off n 1 L hL;have hcells:=kyq r hin hv hL;rw[g2] at hcells;obtain rfl:n=l.length:=by omega
    exact⟨_,_,rfl,λh=>Qt,λa ha i x hx=>by cases ha;exact hcells i _ (by simp[hx])⟩
   ·cases hk
  ·cases hk
 ·cases hk
theorem bysJ_spec(r:Rel s0 U D ρ h w):∀{xs:List V} {ls:List (List UInt8)},InDL (DD D ρ) xs->bysJ h xs=some ls->xs.length=ls.length/\(∀(i:Nat) v l,(zTq ρ xs)[i]? =some v->ls[i]? =some l->Lib.HoldsBytes w v l)/\∀x∈xs,x.size=1/\x.leaf=true
 |[],ls,_,hk=>by cases hk;exact⟨rfl,λi v l h=>by simp[zTq] at h,λx hx=>by cases hx⟩
 | v ::xs,ls,hin,hk=>by
  unfold bysJ at hk;split at hk
  ·rename_i x r' hx hr;cases hk;obtain⟨h1,h2,h3⟩:=bysJ_spec r hin.2 hr;refine⟨congrArg (· +1) h1,λi u l hu hl=>?_,λy hy=>?_⟩
   ·cases i with
    |zero=>
     simp only[zTq,List.getElem?_cons_zero,Option.some.injEq] at hu hl;subst hu;subst hl
     exact byJ_spec r hin.1 hx
    |succ i=>
     simp only[zTq,List.getElem?_cons_succ] at hu hl;exact h2 i u l hu hl
   ·rcases List.mem_cons.1 hy with rfl|hy
    ·unfold byJ at hx;split at hx
     ·exact⟨rfl,rfl⟩
     ·exact⟨rfl,rfl⟩
     ·cases hx
    ·exact h3 y hy
  ·cases hk
theorem inl_of{D:Nat->Nat->Prop}:∀{l:List V},(∀x∈l,InD D x) ->InDL D l
 |[],_=>trivial
 |x::l,h=>⟨h x (List.mem_cons_self ..),inl_of λy hy=>h y (List.mem_cons_of_mem _ hy)⟩
theorem YDq(ρ:Env):∀{xs:List V},(∀x∈xs,x.size=1/\x.leaf=true) ->zxq ρ 1 xs=zTq ρ xs
 |[],_=>rfl
 |x::xs,h=>by
  have hx:=(h x Xj).2;simp only[zxq,zTq,jNq hx,YDq ρ (xs:=xs) λy hy=>h y (by simp[hy])];rw[yLq (by rfl)];rfl
theorem join_flat:∀ls:List (List UInt8),Lib.join ls []=ls.flatten
 |[]=>rfl
 |x::r=>by
  rw[Lib.join_cons];unfold Lib.joinTail;simp
end
theorem joinOK{C:Cfg}:KnownFn Tryz.prog C 334 joinJ:=λvs h v h' he=>by
 unfold joinJ at he;split at he
 ·rename_i b base off n lim y;split at he
  ·rename_i bv hv hy;split at he
   ·rename_i xs hxs;split at he
    ·rename_i ls hls;split at he
     ·rename_i hb;cases he;simp only[Bool.and_eq_true] at hb;obtain⟨⟨⟨hb1,hb2⟩,hb3⟩,hb4⟩:=hb;have hb1:=Yb hb1;have hb2:=Yb hb2;have hb3:=Yb hb3;have hb4:=Yb hb4;refine⟨ywq _ _,(fnsOK 334 _ (by rfl)).2.1,λs0 U D ρ w hU gl hin rel=>?_⟩;have hU:h.next+1<=U:=hU;have hx:=hin.1;have hyi:=hin.2.1;obtain⟨g1,g2,g3,g4⟩:=qiq (ρ:=ρ) 50 bv off n 1 xs hxs;obtain⟨_,_,_,_,_,_,_,hvin⟩:=rel.val hx.2.2.1 hv;have hxin:InDL (DD D ρ) xs:=g4 _ hvin;obtain⟨k1,k2,k3⟩:=bysJ_spec rel (inl_of (Qnq hxin)) hls;have hcells:=kyq rel hx hv hxs;rw[show zxq ρ 1 xs=zTq ρ (z3q 1 xs) by rw[<-YDq ρ k3,jKq ρ 1 xs,vkq ρ _ (uAq 1 xs)]] at hcells;have hge:=kzq hx;have hc0:¬yoq ρ b off 1 lim=0:=by omega
      rw[if_neg hc0] at hcells;have hP:Lib.PartsAt w ⟨ρ.b b,ρ.pre b+off,none⟩ (zTq ρ (z3q 1 xs)) ls:=⟨by rw[jkq,k1],hcells,k2⟩;have hS:=byJ_spec rel hyi hy;have hfl:(z3q 1 xs).length=xs.length:=by rw[xiq,Nat.mul_one]
      have hlens:Lib.lens ls=ls.flatten.length:=by simp[Lib.lens,List.length_flatten]
      have cj:=joinMany (ρ.b b) (ρ.pre b+off) n (yoq ρ b off 1 lim) (zTq ρ (z3q 1 xs)) ls (conc ρ y) [] w Xd hb1 hP hge hS hb2 (by rw[hlens,List.length_nil,Nat.zero_mul,Nat.add_zero];exact hb4)
      have harg:(zTq ρ [.sl b base off n 1 lim,y]).toArray= #[.slice (some ⟨ρ.b b,ρ.pre b+off,none⟩) n (yoq ρ b off 1 lim),conc ρ y]:=by
       simp[zTq,conc,yuq,hc0]
      rw[harg];refine cj.mono ?_;rintro e w' ⟨v',rfl,hfresh,hbel⟩;rw[join_flat] at hfresh;clear hlens cj;generalize ls.flatten=F at hfresh hb3 hb4⊢;obtain⟨g,cap,zs,rfl,hg,hlc,hmax,hzl,hzr,hzb,hcell,hfrz⟩:=hfresh
      have hobj:∃cs ty fz,w'.heap[g]? =some (.cells cs ty fz):=by
       have:=hcell 0 Xd;simp only[World.cell?] at this;split at this
       ·rename_i cs ty fz hh;exact⟨_,_,_,hh⟩
       ·cases this
      obtain⟨cs,ty,fz,hobj⟩:=hobj
      have hcs:∀i,i<cap->cs[i]? =some (.int .u8 (zs.getD i 0)):=λi hi=>by
       have:=hcell i hi;simpa[World.cell?,hobj] using this
      have hval:∀i (hi:i<F.length),zs.getD i 0=(F[i].toNat:Int):=λi hi=>by
       have hz:i<zs.length:=by omega
       have h1:=congrArg (·[i]?) hzb;simp only[Go.Lib.bytesOf,List.getElem?_map,List.getElem?_take,hi,if_true,List.getElem?_eq_getElem hz,Option.map_some,List.getElem?_eq_getElem hi,Option.some.injEq] at h1;obtain⟨q1,q2⟩:=hzr zs[i] (List.getElem_mem hz);rw[<-h1];simp[List.getD,List.getElem?_eq_getElem hz];omega
      have hcells2:cs.toList=cellsV ρ (.arr F.length 1 (yVq F))++cs.toList.drop F.length:=by
       have e:cellsV ρ (.arr F.length 1 (yVq F))=F.map λb=>Value.int .u8 b.toNat:=by
        simp only[cellsV];rw[yLq (by rw[zUq];simp[yVq]),jOq]
       rw[e];apply List.ext_getElem?;intro i;by_cases hi:i<F.length
       ·rw[List.getElem?_append_left (by simpa using hi)];have:=hcs i Xd;rw[hval i hi] at this;simpa[List.getElem?_eq_getElem hi] using this
       ·rw[List.getElem?_append_right Xo,List.getElem?_drop];congr 1
        simp;omega
      have hinv:InD (DD D ρ) (.arr F.length 1 (yVq F)):=InDL_iff.2 λy hy=>by obtain⟨c,_,rfl⟩:=List.mem_map.1 hy;trivial
      have hag:Env.Agree (DD D ρ) ρ (ρ.add h.next g 0 cap):=Env.add_agree (rel.next_new hU)
      obtain⟨r',n'⟩:=rel.pushAt hU (q:=g) (pre:=0) (cap:=cap) (b:=.ro (.arr F.length 1 (yVq F))) hg hbel hobj hinv ⟨[],cs.toList.drop F.length,ty,fz,by
       rw[yUq hag hinv,List.nil_append,<-hcells2],by simp[Env.add],by simp[Env.add];exact hlc⟩
      refine⟨_,_,?_,r',n',by omega,Nat.le_refl _,.inr rfl,?_⟩
      ·have:¬cap=0:=by omega
       simp[conc,yuq,yoq,Env.add,this]
      ·simp[Env.add];exact hlc
     ·cases he
    ·cases he
   ·cases he
  ·cases he
 ·cases he
theorem known0OK:vmq Tryz.prog cfg:=λf k hk=>by
 have hk:(match Nat.beq f 334 with|true=>some joinJ|false=>none)=some k:=hk;split at hk
 ·rename_i e;cases hk;have:=Nat.eq_of_beq_eq_true e;subst this;exact joinOK
 ·cases hk
section
section
variable {C:Cfg} {G:Nat->Option W} {o:Oper} {fr fr2:FrW} {hp:HpW} {nw:Nat} {R:Res} {post:W->HpW->Nat->Res->Option EvW->Prop}
theorem step_frzA(hf:subV (blkA hp) fr fr2)(h:Step C G o fr2 [] nw R λw hp' nw' R' ev=>ev=some .gen/\post w hp' nw' R' ev):Step C G o fr hp nw R post:=λΓ X frv hnw s f0=>by
 let Γ2:Ctx:=⟨Γ.nw,Γ.σ,λc=>Γ.D c\/Owns Γ hp c,Γ.h⟩
 have le:Γ.Le Γ2:=⟨Nat.le_refl _,λ_ _=>rfl,λ_ h=>.inl h,λ_ _=>rfl⟩
 have q:Seen (blkA hp) Γ Γ2:=⟨λ_ h _=>h,λ_ _ _=>rfl,λ_ h=>.inl h,λ_ _=>rfl,λb c _ h=>by
  unfold blkA at h;split at h
  ·rename_i ty c' hg;cases h;obtain⟨v,h1,h2,h3⟩:=jGq s hg;exact⟨.inr ⟨b,_,hg,rfl⟩,v,h2,h3⟩
  ·cases h⟩
 have s2:SatH C G Γ2 [] X R:=⟨s.wf,λk ty' w hk=>by simp[hget] at hk,λk k' x y hx=>by simp[hget] at hx,List.nodup_nil,λd hd hX=>by
  rcases hd with h|⟨b,x,h,rfl⟩
  ·exact s.dX d h hX
  ·exact(s.own b x.1 x.2 h).2.2.1 hX,s.xlt,λd hd=>by
  rcases hd with h|⟨b,x,h,rfl⟩
  ·exact s.dlt d h
  ·exact s.own_lt h,R.st _ _ _ _ _ s.res le.D le.val (λ_ _=>rfl) (Nat.le_refl _),s.gl.mono le⟩
 have a:Frm Γ.nw Γ hp X Γ2 [] X:=⟨λ_ _=>rfl,λh=>h,Nat.le_refl _,λ_ _ _ _=>rfl,λ_ h=>.inl h,λd hd=>by
  rcases hd with h|h
  ·exact .inl h
  ·exact .inr (.inl (.inl h)),λk x hk h=>by simp[hget] at h,λk x hk h=>by simp[hget] at h,λ_ h=>.inl h,λ_ h _ _=>h⟩
 obtain⟨n,w,hp',R',ev,v,h',Γ',X',⟨rfl,h1⟩,h2,⟨h3,h3'⟩,h4,h5,h6,h7,h8⟩:=h Γ2 X frv hnw s2 λt w hw=>by
  obtain⟨w0,g1,g2⟩:=vIq hf t w hw;obtain⟨u,g3,g4⟩:=f0 _ _ g1;exact⟨u,g3,k1q q g2 g4⟩
 exact⟨n,w,hp',R',_,v,h',Γ',X',h1,h2,⟨h3,h3'⟩,h4,⟨h5.nw,h5.σ,λc hc=>h5.D c (.inl hc),λc hc=>h5.val c (.inl hc)⟩,h6,a.trans h7,h8⟩
end
attribute [local irreducible] CoW OpW FlW Step Spec
variable {G:Nat->Option W}
theorem uxq(h:Hdr):PS cfg G 81 [hdW h] (.int .i64 (if okH h then 0 else 8)):=by
 refine gI 11 Y (λR k0=>?_);refine gD 0 Y (λh1=>?_) (λh1=>?_)
 ·exact gQ 25 Y Ye
 ·refine gD 3 Y (λh2=>?_) (λh2=>?_)
  ·exact gQ 21 Y Ye
  ·refine gD 4 Y (λh3=>?_) (λh3=>?_)
   ·exact gQ 16 Y Ye
   ·refine gU 4 Y ?_;refine gS 3 Y (λh4=>?_) (λh4=>?_)
    ·exact gQ 7 Y Ye
    ·exact gQ 8 Y Ye
theorem hnumber_s(n size:Nat)(hs:1<=size)(hs8:size<=8)(hn:n<256^size)(hn2:n<9223372036854775808):PS cfg G 286 [.int .i64 (n:Int),.int .i64 (size:Int)] (bW (beB size n)):=by
 refine gIv 8 Y (λR k0=>gA 0 Y (n) (zeq 1 Y ?_))
 (refine ycq rfl (jYq Y Y Y Y Y Y (put_s n size hs hs8 hn) ?_);rintro w hp1 nw1 ⟨rfl,rfl,rfl⟩)
 refine zAq 14 Y ?_;have hp:purW (.arr (size*1) 1 (zbq (beB size n)))=true:=yEq _;exact y0q Qx rfl (.sl (full:=false) (c:=.arr (size*1) 1 (zbq (beB size n))) (xs:=zbq (beB size n)) (by show some (renW _ (W.arr (size*1) 1 (zbq (beB size n))))=_;rw[zZq hp]) hp (zpq Xn (by rw[zdq,qpq]) rfl) Xh)
theorem hjoin_s(ps:List (List UInt8))(f:Bool)(h2:2<=ps.length)(hn:ps.length<=140737488355328)(h1:1<=ps.flatten.length)(hb:ps.flatten.length<=140737488355328):PS cfg G 285 [.fz (ps.map bW) 1 f] (bW ps.flatten):=by
 exact gI 8 Y (λR k0=>gC 0 Y (join_w rfl ps f h2 hn h1 hb) (gQa 4 Y))
def hdB(h:Hdr):List UInt8:=[beB 8 h.height.toNat,h.parent.1,h.state.1,h.rows.1,beB 4 h.many.toNat].flatten
theorem hdB_len(h:Hdr):(hdB h).length=108:=by simp[hdB,qpq,h.parent.2,h.state.2,h.rows.2]
theorem sub_dig(d:Dig)(i:Nat):(((zbq d.1).drop (0/1)).take 32)=zbq d.1:=by
 have h:(zbq d.1).length=32:=by rw[zdq,d.2]
 rw[show 0/1=0 from rfl,List.drop_zero,List.take_of_length_le (by rw[h];omega)]
theorem hd_sub(h:Hdr):yxq 50 (hdW h) 1 32 1=some (zbq h.parent.1)/\yxq 50 (hdW h) 33 32 1=some (zbq h.state.1)/\yxq 50 (hdW h) 65 32 1=some (zbq h.rows.1):=
 ⟨congrArg some (sub_dig h.parent 0),congrArg some (sub_dig h.state 0),congrArg some (sub_dig h.rows 0)⟩
theorem hbytes_no(h:Hdr)(hh:¬okH h):PS cfg G 210 [hdW h] (.tup [.nils,.int .i64 8]):=by
 exact gI 11 Y (λR k0=>gC 0 Y (zOq (w':=.int .i64 8) (uxq h) (by rw[if_neg hh])) (gQa 19 Y))
theorem hbytes_s(h:Hdr)(hh:okH h):PS cfg G 210 [hdW h] (.tup [bW (hdB h),.int .i64 0]):=by
 obtain⟨h1,h2,h3,h4⟩:=hh;obtain⟨a,ha⟩:∃a:Nat,h.height=a:=⟨h.height.toNat,by omega⟩
 obtain⟨m,hm⟩:∃m:Nat,h.many=m:=⟨h.many.toNat,by omega⟩
 have ea:h.height.toNat=a:=by omega
 have em:h.many.toNat=m:=by omega
 have hl:=hdB_len h;have c1:=hnumber_s (G:=G) a 8 Xd Xd (by show a<18446744073709551616;omega) Xd;have c2:=hnumber_s (G:=G) m 4 Xd Xd (by show m<4294967296;omega) Xd;rw[<-ha] at c1;rw[<-hm] at c2;rw[<-ea] at c1;rw[<-em] at c2;have hj:=hjoin_s (G:=G) [beB 8 h.height.toNat,h.parent.1,h.state.1,h.rows.1,beB 4 h.many.toNat] false Xj Xj Qc Qc;rw[show [beB 8 h.height.toNat,h.parent.1,h.state.1,h.rows.1,beB 4 h.many.toNat].flatten=hdB h from rfl] at hj;refine gI 11 Y (λR k0=>gC 0 Y (zOq (w':=.int .i64 0) (uxq h) (by rw[if_pos ⟨h1,h2,h3,h4⟩])) (gC 16 Y c1 (gC 8 Y c2 ?_)));refine gSf 1 Y (step_frzA (fr2:=[(22,.fz ([beB 8 h.height.toNat,h.parent.1,h.state.1,h.rows.1,beB 4 h.many.toNat].map bW) 1 false)]) ⟨⟨_,rfl,(.sl2 (full:=false) rfl (.arr (.cons (.pur Xj) (.cons (.sl (full:=false) (c:=hdW h) (xs:=zbq h.parent.1) rfl Xj (hd_sub h).1 Xh) (.cons (.sl (full:=false) (c:=hdW h) (xs:=zbq h.state.1) rfl Xj (hd_sub h).2.1 Xh) (.cons (.sl (full:=false) (c:=hdW h) (xs:=zbq h.rows.1) rfl Xj (hd_sub h).2.2 Xh) (.cons (.pur Xj) .nil)))))) rfl Xh)⟩,trivial⟩ (step_ps Y Y Y Y Y hj Xj Xj ⟨rfl,by first|rfl|kernel_rfl,?_⟩));exact gQa 5 Y
noncomputable def hashD(h:Hdr):Dig:=tagD 6 [hdB h]
theorem hhash_no(h:Hdr)(hh:¬okH h):PS cfg G 131 [hdW h] (.tup [dW yjq,.int .i64 8]):=by
 exact gI 10 Y (λR k0=>gC 0 Y (hbytes_no h hh) (gV 17 Y jMq (gQa 7 Y)))
theorem hhash_s(h:Hdr)(hh:okH h):PS cfg glK 131 [hdW h] (.tup [dW (hashD h),.int .i64 0]):=by
 have hl:=hdB_len h;refine gI 10 Y (λR k0=>gC 0 Y (hbytes_s h hh) (zeq 21 Y ?_));refine Ybq Y Y Y Y Y (by(repeat (first|exact .nil|refine .cons ?_ ?_|(refine .sl Y ?_ rfl Xh;first|rfl|(focus (simp;done)))|(refine yPq Y ?_ rfl;first|rfl|(focus (simp;done)))|(refine .pur ?_;first|rfl|(focus (simp;done)))))) (uYq 6 [hdB h] false Xj (by simp[hl])) Xk Xk ?_;exact zAq 5 Y (gQa 0 Y)
end
section
attribute [local irreducible] CoW OpW FlW Step Spec
variable {G:Nat->Option W}
noncomputable def recW(r:Rec):W:=.agg 34 [.int .u8 (.ofNat r.kind.toNat),dW r.id,.int .i64 (r.code:Int)]
@[simp] theorem recW_pur(r:Rec):purW (recW r)=true:=by simp[recW]
def okR(r:Rec):Prop:=(r.kind=1\/r.kind=2)/\(r.code=0\/r.code=151\/(r.kind=2/\r.code=150))
def recB(r:Rec):List UInt8:=([r.kind]++r.id.1)++beB 2 r.code
end
section
attribute [local irreducible] CoW OpW FlW Step Spec
noncomputable def sumD:T->Dig
 |.nil=>tagD 0 []
 |.leaf k v=>tagD 1 [k.1,v]
 |.fork l r=>tagD 2 [(sumD l).1,(sumD r).1]
def kVq(t:T):Prop:=∀p∈t.all,p.2.length<1000000
theorem ok_len:∀{t:T} {d:Nat} {b:Dig},t.ok d b=true->(t.isFork=true->2<=t.all.length)/\(t.non=true->1<=t.all.length)
 |.nil,_,_,_=>⟨λh=>Qt,λh=>Qt⟩
 |.leaf k v,_,_,_=>⟨λh=>Qt,λ_=>by simp[T.all]⟩
 |.fork l r,d,b,h=>by
  obtain⟨_,h1,h2,h3⟩:=ok_fork.1 h;obtain⟨l1,l2⟩:=ok_len h1;obtain⟨r1,r2⟩:=ok_len h2
  have key:2<=l.all.length+r.all.length:=by
   unfold T.two at h3;rcases Bool.or_eq_true_iff.1 h3 with h3|h3
   ·rcases Bool.or_eq_true_iff.1 h3 with h3|h3
    ·have:=l1 h3;omega
    ·have:=r1 h3;omega
   ·obtain⟨q1,q2⟩:=Bool.and_eq_true_iff.1 h3;have:=l2 q1;have:=r2 q2;omega
  have e:(T.fork l r).all.length=l.all.length+r.all.length:=by simp[T.all]
  exact⟨λ_=>by omega,λ_=>by omega⟩
theorem two_len{l r:T}{d d':Nat}{b b':Dig}(h1:l.ok d b=true)(h2:r.ok d' b'=true)(h3:T.two l r=true):2<=l.all.length+r.all.length:=by
 obtain⟨l1,l2⟩:=ok_len h1;obtain⟨r1,r2⟩:=ok_len h2;unfold T.two at h3;rcases Bool.or_eq_true_iff.1 h3 with h3|h3
 ·rcases Bool.or_eq_true_iff.1 h3 with h3|h3
  ·have:=l1 h3;omega
  ·have:=r1 h3;omega
 ·obtain⟨q1,q2⟩:=Bool.and_eq_true_iff.1 h3;have:=l2 q1;have:=r2 q2;omega
theorem node_sub(x:Node):yxq 50 (nW x) 1 32 1=some (zbq x.key.1):=by
 have h:(zbq x.key.1).length=32:=by rw[zdq,x.key.2]
 show some (((zbq x.key.1).drop (0/1)).take 32)=_;rw[show 0/1=0 from rfl,List.drop_zero,List.take_of_length_le (by rw[h];omega)]
theorem tnone_s:PS cfg glK 86 [] (dW (tagD 0 [])):=by
 exact gI 7 Y (λR k0=>Ybq Y Y Y Y Y (.cons (.pur rfl) (.cons .nilfz .nil)) (uYq 0 [] false Xj Xj) Xk Xk (zAq 4 Y (gQa 0 Y)))
theorem tsum_s(t0:Tree)(hb:t0.nodes.length<=4611686018427387903):∀(t:T) (n:Nat),Rep t0.nodes n t->kVq t->PS cfg glK 173 [tW t0,.int .i64 (n:Int)] (dW (sumD t)):=by
 intro t;induction t with
 |nil=>
  intro n hr hs;obtain rfl:n=0:=by cases hr;rfl
  refine gI 13 Y (λR k0=>?_);refine gS 0 Y (λh1=>?_) (λh1=>?_)
  ·exact gC 2 Y (tnone_s) (gQa 5 Y)
  ·exfalso;omega
 |leaf k v=>
  intro n hr hs;have hle:=hr.le;have hv:v.length<1000000:=hs (k,v) (by simp[T.all]);cases hr with
  |leaf h=>
  rename_i n l r;refine gI 13 Y (λR k0=>?_);refine gS 0 Y (λh1=>?_) (λh1=>?_)
  ·exfalso;omega
  ·refine gA 7 Y (n) (gP 0 Y (zrq (i:=n) Y Y Y Y Y Y Y (zoq nW h)) (zeq 20 Y ?_));first|refine fl_lk Y Y Y Y Y (.cons (.pur rfl) (.cons (.sl2 (full:=false) rfl (.arr (.cons (.sl (full:=false) (c:=nW ⟨true,k,v,l,r⟩) (xs:=zbq k.1) rfl Xj (node_sub _) Xh) (.cons (.pur Xj) .nil))) rfl Xh) .nil)) (uYq 1 [k.1,v] false Xj (by simp[k.2,hv])) Xk Xk Xq ?_|refine fl_lk Y Y Y Y Y (.cons (.pur rfl) (.cons .nilfz .nil)) (uYq 0 [] false Xj Xj) Xk Xk Xq ?_
   exact y4q 5 Y (gQa 0 Y)
 |fork tl tr ihL ihR=>
  intro n hr hs;have hle:=hr.le;cases hr with
  |fork h hl0 hr0 hL hR=>
  rename_i n l r k v;have sL:kVq tl:=λp hp=>hs p Qa
  have sR:kVq tr:=λp hp=>hs p Qa
  refine gI 13 Y (λR k0=>?_);refine gS 0 Y (λh1=>?_) (λh1=>?_)
  ·exfalso;omega
  ·exact gA 7 Y (n) (gP 0 Y (zrq (i:=n) Y Y Y Y Y Y Y (zoq nW h)) (gC 20 Y (ihL l hL sL) (gC 3 Y (ihR r hR sR) (zeq 11 Y (fl_lk Y Y Y Y Y (.cons (.pur rfl) (.cons (.sl2 (full:=false) rfl (.arr (.cons (.sl (full:=false) (xs:=zbq (sumD tl).1) rfl Xj (zpq Xn (by simp[zdq,(sumD tl).2]) rfl) Xh) (.cons (.sl (full:=false) (xs:=zbq (sumD tr).1) rfl Xj (zpq Xn (by simp[zdq,(sumD tr).2]) rfl) Xh) .nil))) rfl Xh) .nil)) (uYq 2 [(sumD tl).1,(sumD tr).1] false Xj (by simp[(sumD tl).2,(sumD tr).2])) Xk Xk Xq (y4q 4 Y (gQa 0 Y)))))))
end
section
attribute [local irreducible] CoW OpW FlW Step Spec
variable {G:Nat->Option W}
def frontN(n:Nat):Nat:=2^(lenM (n-1) -1)
noncomputable def rootF:Nat->List (List UInt8) ->Dig
 |0,_=>tagD 0 []
 |n+1,ps=>match ps with
  |[]=>tagD 0 []
  |[p]=>tagD 7 [p]
  |p::q::r=>tagD 8 [(rootF n ((p::q::r).take (frontN (p::q::r).length))).1,(rootF n ((p::q::r).drop (frontN (p::q::r).length))).1]
noncomputable def rootD(ps:List (List UInt8)):Dig:=rootF 256 ps
end
section
theorem xzq(L:List Rec):purL (L.map recW)=true:=yZq (λr=>recW_pur r) L
attribute [local irreducible] CoW OpW FlW Step Spec
variable {G:Nat->Option W}
end
noncomputable def bodW(ds:List Depo)(xs:List Tx)(f g:Bool):W:=.agg 2 [.fz (ds.map pdW) 34 f,.fz (xs.map txW) 99 g]
@[simp] theorem bodW_pur(ds:List Depo)(xs:List Tx)(f g:Bool):purW (bodW ds xs f g)=true:=by
 have h1:purW (.fz (ds.map pdW) 34 f)=true:=yZq pdW_pur ds;have h2:purW (.fz (xs.map txW) 99 g)=true:=yZq txW_pur xs;show(purW (.fz (ds.map pdW) 34 f)&&(purW (.fz (xs.map txW) 99 g)&&true))=true;rw[h1,h2];rfl
@[simp] theorem pdl_pur(l:List Depo):purL (l.map pdW)=true:=yZq pdW_pur l
@[simp] theorem txl_pur(l:List Tx):purL (l.map txW)=true:=yZq txW_pur l
structure RcI where
 kind:UInt8
 id:Dig
 code:Int
noncomputable def rcW(r:RcI):W:=.agg 34 [.int .u8 (.ofNat r.kind.toNat),dW r.id,.int .i64 r.code]
@[simp] theorem rcW_pur(r:RcI):purW (rcW r)=true:=by simp[rcW]
@[simp] theorem rcl_pur(l:List RcI):purL (l.map rcW)=true:=yZq rcW_pur l
structure Lk where
 hdr:Hdr
 root:Int
 ds:List Depo
 xs:List Tx
 rs:List RcI
noncomputable def lkG(l:Lk):W:=.agg 102 [hdW l.hdr,.int .i64 l.root,bodW l.ds l.xs false false,.fz (l.rs.map rcW) 34 false]
@[simp] theorem lkG_pur(l:Lk):purW (lkG l)=true:=by
 have h:purW (.fz (l.rs.map rcW) 34 false)=true:=yZq rcW_pur l.rs;show(purW (hdW l.hdr)&&(true&&(purW (bodW l.ds l.xs false false)&&(purW (.fz (l.rs.map rcW) 34 false)&&true))))=true;rw[h,hdW_pur,bodW_pur];rfl
@[simp] theorem xUq(l:List Lk):purL (l.map lkG)=true:=yZq lkG_pur l
structure Ch where
 tree:Tree
 links:List Lk
noncomputable def chG(c:Ch):W:=.agg 3 [tW c.tree,.fz (c.links.map lkG) 102 false]
@[simp] theorem chG_pur(c:Ch):purW (chG c)=true:=by
 show(purW (tW c.tree)&&(purW (.fz (c.links.map lkG) 102 false)&&true))=true;rw[tW_pur,show purW (.fz (c.links.map lkG) 102 false)=true from xUq _];rfl
structure Vw where
 number:Int
 down:Bool
 final:Int
 ch:Ch
noncomputable def vwG(v:Vw):W:=.agg 6 [.int .i64 v.number,.bool v.down,.int .i64 v.final,chG v.ch]
@[simp] theorem vwG_pur(v:Vw):purW (vwG v)=true:=by
 show(true&&(true&&(true&&(purW (chG v.ch)&&true))))=true;rw[chG_pur];rfl
def BodyM(ds:List Depo)(xs:List Tx):Prop:=ds.length<=16/\xs.length<=16/\∀x∈xs,x.sign=kXq x
section
attribute [local irreducible] CoW OpW FlW Step Spec
def hdZ:Hdr:=⟨0,yjq,yjq,yjq,0⟩
end
section
noncomputable def wkF(t:Tree)(box:Dig)(L:List Rec):W:=.agg 35 [tW t,dW box,.fz (L.map recW) 34 false]
@[simp] theorem wkF_pur(t:Tree)(box:Dig)(L:List Rec):purW (wkF t box L)=true:=by
 show(purW (tW t)&&(purW (dW box)&&(purW (.fz (L.map recW) 34 false)&&true)))=true;rw[tW_pur,dW_pur,show purW (.fz (L.map recW) 34 false)=true from xzq L];rfl
attribute [local irreducible] CoW OpW FlW Step Spec
attribute [local simp] xzq
noncomputable def headD(p:Hdr)(t1:T)(L:List Rec):Hdr:=⟨p.height+1,hashD p,sumD t1,rootD (L.map recB),L.length⟩
end
theorem fit_tx{w:W}(h:Fit (.st 99 [.arr 32 1 (.int .u8),.arr 32 1 (.int .u8),.int .u64,.int .u64,.int .u64,.arr 32 1 (.int .u8)]) w):∃x:Tx,w=txW x/\x.ok:=by
 obtain⟨l,rfl,w1,l1,rfl,h1,w2,l2,rfl,h2,w3,l3,rfl,h3,w4,l4,rfl,h4,w5,l5,rfl,h5,w6,l6,rfl,h6,rfl⟩:=h;obtain⟨a,rfl⟩:=fit_dig h1;obtain⟨b,rfl⟩:=fit_dig h2;obtain⟨n,rfl,hn⟩:=Zwq h3;obtain⟨m,rfl,hm⟩:=Zwq h4;obtain⟨f,rfl,hf⟩:=Zwq h5;obtain⟨s,rfl⟩:=fit_dig h6;exact⟨⟨a,b,n,m,f,s⟩,rfl,hn,hm,hf⟩
section
attribute [local irreducible] CoW OpW FlW Step Spec
variable {G:Nat->Option W}
structure BodOk(ds:List Depo)(xs:List Tx):Prop where
 dep:∀d∈ds,d.number<18446744073709551616/\d.amount<18446744073709551616
 tx:∀x∈xs,x.ok
 dl:ds.length<=140737488351232
 xl:xs.length<=140737488351232
theorem fit_depo2{w:W}(h:Fit (.st 34 [.int .u64,.arr 32 1 (.int .u8),.int .u64]) w):∃d:Depo,w=pdW d/\d.number<18446744073709551616/\d.amount<18446744073709551616:=by
 obtain⟨l,rfl,w1,l1,rfl,h1,w2,l2,rfl,h2,w3,l3,rfl,h3,rfl⟩:=h;obtain⟨n,rfl,hn⟩:=Zwq h1;obtain⟨k,rfl⟩:=fit_dig h2;obtain⟨m,rfl,hm⟩:=Zwq h3;exact⟨⟨n,k,m⟩,rfl,hn,hm⟩
theorem fit_hdr{w:W}(h:Fit (.st 98 [.int .i64,.arr 32 1 (.int .u8),.arr 32 1 (.int .u8),.arr 32 1 (.int .u8),.int .i64]) w):∃p:Hdr,w=hdW p/\p.height<=9223372036854775807:=by
 obtain⟨l,rfl,w1,l1,rfl,h1,w2,l2,rfl,h2,w3,l3,rfl,h3,w4,l4,rfl,h4,w5,l5,rfl,h5,rfl⟩:=h;obtain⟨i,rfl,_,hi⟩:=fit_i64 h1;obtain⟨a,rfl⟩:=fit_dig h2;obtain⟨b,rfl⟩:=fit_dig h3;obtain⟨c,rfl⟩:=fit_dig h4;obtain⟨j,rfl,_⟩:=fit_i64 h5;exact⟨⟨i,a,b,c,j⟩,rfl,hi⟩
theorem fit_body{w:W}(h:Fit (.st 2 [.sl 34 48 (.st 34 [.int .u64,.arr 32 1 (.int .u8),.int .u64]),.sl 99 120 (.st 99 [.arr 32 1 (.int .u8),.arr 32 1 (.int .u8),.int .u64,.int .u64,.int .u64,.arr 32 1 (.int .u8)])]) w):∃ds xs,w=bodW ds xs false false/\BodOk ds xs:=by
 obtain⟨l,rfl,w1,l1,rfl,h1,w2,l2,rfl,h2,rfl⟩:=h;obtain⟨ds,rfl,hl,hd⟩:=fit_sl h1 λx hx=>fit_depo2 hx
 obtain⟨xs,rfl,hl2,hx⟩:=fit_sl h2 λx hx=>fit_tx hx
 exact⟨ds,xs,rfl,hd,hx,by omega,by omega⟩
def yGq(ds:List Depo)(xs:List Tx):Prop:=(4<ds.length/\ds.length<=16)\/20<ds.length\/(4<xs.length/\xs.length<=16)\/20<xs.length
noncomputable instance(ds:List Depo)(xs:List Tx):Decidable (yGq ds xs):=Classical.propDecidable _
theorem great16_s(ds:List Depo)(xs:List Tx)(f g:Bool):PS cfg G 26 [bodW ds xs f g] (.bool (decide (yGq ds xs))):=by
 have e1:(ds.map pdW).length=ds.length:=List.length_map _;have e2:(xs.map txW).length=xs.length:=List.length_map _;refine gI 10 Y (λR k0=>?_);refine gV (w':=.int .i64 (ds.length:Int)) 0 Y (by rw[<-e1];rfl) ?_;refine gD 0 Y (λh1=>?_) (λh1=>?_)
 ·refine gV (w':=.int .i64 (ds.length:Int)) 3 Y (by rw[<-e1];rfl) ?_;refine gD 0 Y (λh2=>?_) (λh2=>?_)
  ·exact gQ 29 Y Xl
  ·refine gV (w':=.int .i64 (ds.length:Int)) 4 Y (by rw[<-e1];rfl) ?_;refine gD 0 Y (λh3=>?_) (λh3=>?_)
   ·exact gQ 23 Y Xl
   ·refine gV (w':=.int .i64 (xs.length:Int)) 4 Y Qj ?_;refine gD 0 Y (λh4=>?_) (λh4=>?_)
    ·refine gV (w':=.int .i64 (xs.length:Int)) 3 Y Qj ?_;refine gD 0 Y (λh5=>?_) (λh5=>?_)
     ·exact gQ 12 Y Xl
     ·refine gV (w':=.int .i64 (xs.length:Int)) 5 Y Qj ?_;refine gU 0 Y ?_;exact gQ 5 Y Xl
    ·refine gV (w':=.int .i64 (xs.length:Int)) 10 Y Qj ?_;refine gU 0 Y ?_;exact gQ 5 Y Xl
 ·refine gV (w':=.int .i64 (ds.length:Int)) 9 Y (by rw[<-e1];rfl) ?_;refine gD 0 Y (λh2=>?_) (λh2=>?_)
  ·exact gQ 23 Y Xl
  ·refine gV (w':=.int .i64 (xs.length:Int)) 4 Y Qj ?_;refine gD 0 Y (λh3=>?_) (λh3=>?_)
   ·refine gV (w':=.int .i64 (xs.length:Int)) 3 Y Qj ?_;refine gD 0 Y (λh4=>?_) (λh4=>?_)
    ·exact gQ 12 Y Xl
    ·refine gV (w':=.int .i64 (xs.length:Int)) 5 Y Qj ?_;refine gU 0 Y ?_;exact gQ 5 Y Xl
   ·refine gV (w':=.int .i64 (xs.length:Int)) 10 Y Qj ?_;refine gU 0 Y ?_;exact gQ 5 Y Xl
end
def recI(r:Rec):RcI:=⟨r.kind,r.id,(r.code:Int)⟩
def FolB(h p:Hdr):Prop:=okH h/\okH p/\h.height=p.height+1/\h.parent=hashD p
noncomputable instance(h p:Hdr):Decidable (FolB h p):=Classical.propDecidable _
noncomputable instance(ds:List Depo)(xs:List Tx):Decidable (BodyM ds xs):=Classical.propDecidable _
def verT(c:Ch)(r:Int):Tree:=⟨c.tree.nodes,r⟩
structure LkM(c:Ch)(i:Nat)(x:Lk):Prop where
 height:x.hdr.height=(i:Int)
 hdr:okH x.hdr
 fol:∀y,0<i->c.links[i-1]? =some y->FolB x.hdr y.hdr
 recs:((x.rs.length:Nat):Int)=x.hdr.many
 body:BodyM x.ds x.xs
 tree:MayA (verT c x.root)
structure MayC(c:Ch):Prop where
 one:0<c.links.length
 len:c.links.length<=256
 root:∀x,c.links[c.links.length-1]? =some x->c.tree.root=x.root
 link:∀i x,c.links[i]? =some x->LkM c i x
noncomputable instance(c:Ch):Decidable (MayC c):=Classical.propDecidable _
noncomputable def firH(t0:T):Hdr:=⟨0,yjq,sumD t0,tagD 0 [],0⟩
structure LkS(c:Ch)(box:Dig)(i:Nat)(x:Lk):Prop where
 first:i=0->∃n t0,IsA (verT c x.root) n t0/\x.hdr=firH t0/\x.ds=[]/\x.xs=[]
 next:∀y,0<i->c.links[i-1]? =some y->∃n t0 n1 t1 rs,IsA (verT c y.root) n t0/\IsA (verT c x.root) n1 t1/\doX box (doD t0.all x.ds).1 x.xs=some (t1.all,rs)/\x.hdr=headD y.hdr t1 ((doD t0.all x.ds).2++rs)/\x.rs=((doD t0.all x.ds).2++rs).map recI
structure SoundC(c:Ch)(box:Dig):Prop extends MayC c where
 sound:∀i x,c.links[i]? =some x->LkS c box i x
noncomputable instance(c:Ch)(box:Dig):Decidable (SoundC c box):=Classical.propDecidable _
theorem MayC.last{c:Ch}(h:MayC c):∃y,c.links[c.links.length-1]? =some y/\c.tree.root=y.root/\LkM c (c.links.length-1) y:=by
 have:=h.one;have e:=List.getElem?_eq_getElem (l:=c.links) (i:=c.links.length-1) Xd;exact⟨_,e,h.root _ e,h.link _ _ e⟩
theorem MayC.head{c:Ch}(h:MayC c){y:Lk}(e:c.links[c.links.length-1]? =some y):∃n t0,IsA c.tree n t0/\verT c y.root=c.tree:=by
 obtain⟨y',e',hr,hy⟩:=h.last;cases e.symm.trans e';have:verT c y.root=c.tree:=by unfold verT;rw[<-hr]
 obtain⟨n,t0,hA⟩:=hy.tree;exact⟨n,t0,this▸hA,this⟩
theorem vsq{α:Type}{l:List α}{i:Nat}{x:α}(h:l[i]? =some x):i<l.length:=(List.getElem?_eq_some_iff.1 h).1
section
attribute [local irreducible] CoW OpW FlW Step Spec
variable {G:Nat->Option W}
theorem jcq{α:Type}{a b:List α}{n:Nat}(h:a.length=n)(h2:b.length=n)(g:a.take n=b.take n):a=b:=by
 rwa[List.take_of_length_le Xd,List.take_of_length_le Xd] at g
theorem qyq{α:Type}{a b:List α}{i:Nat}{x y:α}(g:a.take i=b.take i)(hx:a[i]? =some x)(hy:b[i]? =some y)(e:x=y):a.take (i+1)=b.take (i+1):=by
 rw[List.take_add_one,List.take_add_one,g,hx,hy,e]
theorem Znq{α:Type}{a b:List α}{i:Nat}{x y:α}(hx:a[i]? =some x)(hy:b[i]? =some y)(h:x≠y):¬a=b:=λq=>h (by subst q;exact Option.some.inj (hx.symm.trans hy))
noncomputable instance(a b:Depo):Decidable (a=b):=Classical.propDecidable _
noncomputable instance(a b:Tx):Decidable (a=b):=Classical.propDecidable _
noncomputable instance(a b:RcI):Decidable (a=b):=Classical.propDecidable _
noncomputable instance(a b:Hdr):Decidable (a=b):=Classical.propDecidable _
theorem Qtq{p:Prop} [Decidable p]{b:Bool}(h:p↔b=true):decide p=b:=by
 rw[Bool.eq_iff_iff,decide_eq_true_eq];exact h
theorem eq_pd(a b:Depo):eqW cfg 300 186 (pdW a) (pdW b)=some (decide (a=b)):=by
 rw[Qtq (p:=a=b) (b:=decide ((a.number:Int)=b.number)&&(decide (a.to=b.to)&&(decide ((a.amount:Int)=b.amount)&&true))) (by cases a;cases b;simp only[Depo.mk.injEq,Bool.and_eq_true,decide_eq_true_eq,Int.natCast_inj,and_true])];exact xmq Y Y Y Y (yrq Y Y Y (kmq Y Y) (yrq Y Y Y (yBq Y Y Y Y Y Y _ _ _) (yrq Y Y Y (kmq Y Y) uFq)))
theorem eq_tx(a b:Tx):eqW cfg 300 91 (txW a) (txW b)=some (decide (a=b)):=by
 rw[Qtq (p:=a=b) (b:=decide (a.pub=b.pub)&&(decide (a.to=b.to)&&(decide ((a.nonce:Int)=b.nonce)&&(decide ((a.amount:Int)=b.amount)&&(decide ((a.fee:Int)=b.fee)&&(decide (a.sign=b.sign)&&true)))))) (by cases a;cases b;simp only[Tx.mk.injEq,Bool.and_eq_true,decide_eq_true_eq,Int.natCast_inj,and_true])];exact xmq Y Y Y Y (yrq Y Y Y (yBq Y Y Y Y Y Y _ _ _) (yrq Y Y Y (yBq Y Y Y Y Y Y _ _ _) (yrq Y Y Y (kmq Y Y) (yrq Y Y Y (kmq Y Y) (yrq Y Y Y (kmq Y Y) (yrq Y Y Y (yBq Y Y Y Y Y Y _ _ _) uFq))))))
theorem eq_rc(a b:RcI):eqW cfg 300 98 (rcW a) (rcW b)=some (decide (a=b)):=by
 rw[Qtq (p:=a=b) (b:=decide ((Int.ofNat a.kind.toNat)=Int.ofNat b.kind.toNat)&&(decide (a.id=b.id)&&(decide (a.code=b.code)&&true))) (by cases a;cases b;simp only[RcI.mk.injEq,Bool.and_eq_true,decide_eq_true_eq,and_true];exact⟨λh=>⟨by rw[h.1],h.2⟩,λh=>⟨UInt8.toNat_inj.1 (Int.ofNat.inj h.1),h.2⟩⟩)];exact xmq Y Y Y Y (yrq Y Y Y (kmq Y Y) (yrq Y Y Y (yBq Y Y Y Y Y Y _ _ _) (yrq Y Y Y (kmq Y Y) uFq)))
theorem eq_hd(h p:Hdr):eqW cfg 300 33 (hdW h) (hdW p)=some (decide (h=p)):=by
 rw[Qtq (p:=h=p) (b:=decide (h.height=p.height)&&(decide (h.parent=p.parent)&&(decide (h.state=p.state)&&(decide (h.rows=p.rows)&&(decide (h.many=p.many)&&true))))) (by cases h;cases p;simp only[Hdr.mk.injEq,Bool.and_eq_true,decide_eq_true_eq,and_true])];exact xmq Y Y Y Y (yrq Y Y Y (kmq Y Y) (yrq Y Y Y (yBq Y Y Y Y Y Y _ _ _) (yrq Y Y Y (yBq Y Y Y Y Y Y _ _ _) (yrq Y Y Y (yBq Y Y Y Y Y Y _ _ _) (yrq Y Y Y (kmq Y Y) uFq)))))
theorem seqd_s(a b:List Depo)(f g:Bool)(hb:a.length<=1000000000):PS cfg G 98 [.fz (a.map pdW) 34 f,.fz (b.map pdW) 34 g] (.bool (decide (a=b))):=by
 have ea:(a.map pdW).length=a.length:=List.length_map _;have eb:(b.map pdW).length=b.length:=List.length_map _;refine gI 9 Y (λR k0=>gV (w':=.int .i64 (a.length:Int)) 0 Y Yt (gV (w':=.int .i64 (b.length:Int)) 1 Y Qu ?_));refine gS 3 Y (λh1=>?_) (λh1=>?_)
 ·exact gQ 7 Y Yh
 ·refine gV (w':=.int .i64 (a.length:Int)) 6 Y Yt ?_;refine gLo (α:=Nat) 4 (λi=>i<=a.length/\a.take i=b.take i) (λi=>[(13,.int .i64 (i:Int))]) [0,1,4,12] (λi=>a.length-i) (0) rfl (⟨Nat.zero_le _,rfl⟩) (λi hI=>?_);obtain⟨g1,g2⟩:=hI;refine gS 6 Y (λh2=>?_) (λh2=>?_)
  ·obtain⟨x,hx⟩:∃x,a[i]? =some x:=⟨_,List.getElem?_eq_getElem Xd⟩
   obtain⟨y,hy⟩:∃y,b[i]? =some y:=⟨_,List.getElem?_eq_getElem Xd⟩
   refine gP 14 Y (zrq (i:=i) Y Y Y Y Y Y Y (zoq pdW hx)) (gP 3 Y (zrq (i:=i) Y Y Y Y Y Y Y (zoq pdW hy)) (gUe 1 Y (q1q Y Y Y Y (eq_pd _ _)) (y9q z8q) ?_));refine gS 2 Y (λh3=>?_) (λh3=>?_)
   ·exact gO 8 Y (gQ 2 Y Qe)
   ·exact gA 4 Y (i+1) (gAg 2 Y (i+1) (⟨by omega,qyq g2 hx hy (Classical.not_not.1 h3)⟩) Xd)
  ·exact gO 2 Y (gQ 8 Y Yk)
theorem seqx_s(a b:List Tx)(f g:Bool)(hb:a.length<=1000000000):PS cfg G 99 [.fz (a.map txW) 99 f,.fz (b.map txW) 99 g] (.bool (decide (a=b))):=by
 have ea:(a.map txW).length=a.length:=List.length_map _;have eb:(b.map txW).length=b.length:=List.length_map _;refine gI 9 Y (λR k0=>gV (w':=.int .i64 (a.length:Int)) 0 Y Yt (gV (w':=.int .i64 (b.length:Int)) 1 Y Qu ?_));refine gS 3 Y (λh1=>?_) (λh1=>?_)
 ·exact gQ 7 Y Yh
 ·refine gV (w':=.int .i64 (a.length:Int)) 6 Y Yt ?_;refine gLo (α:=Nat) 4 (λi=>i<=a.length/\a.take i=b.take i) (λi=>[(13,.int .i64 (i:Int))]) [0,1,4,12] (λi=>a.length-i) (0) rfl (⟨Nat.zero_le _,rfl⟩) (λi hI=>?_);obtain⟨g1,g2⟩:=hI;refine gS 6 Y (λh2=>?_) (λh2=>?_)
  ·obtain⟨x,hx⟩:∃x,a[i]? =some x:=⟨_,List.getElem?_eq_getElem Xd⟩
   obtain⟨y,hy⟩:∃y,b[i]? =some y:=⟨_,List.getElem?_eq_getElem Xd⟩
   refine gP 14 Y (zrq (i:=i) Y Y Y Y Y Y Y (zoq txW hx)) (gP 3 Y (zrq (i:=i) Y Y Y Y Y Y Y (zoq txW hy)) (gUe 1 Y (q1q Y Y Y Y (eq_tx _ _)) (y9q z8q) ?_));refine gS 2 Y (λh3=>?_) (λh3=>?_)
   ·exact gO 8 Y (gQ 2 Y Qe)
   ·exact gA 4 Y (i+1) (gAg 2 Y (i+1) (⟨by omega,qyq g2 hx hy (Classical.not_not.1 h3)⟩) Xd)
  ·exact gO 2 Y (gQ 8 Y Yk)
theorem seqr_s(a b:List RcI)(f g:Bool)(hb:a.length<=1000000000):PS cfg G 88 [.fz (a.map rcW) 34 f,.fz (b.map rcW) 34 g] (.bool (decide (a=b))):=by
 have ea:(a.map rcW).length=a.length:=List.length_map _;have eb:(b.map rcW).length=b.length:=List.length_map _;refine gI 9 Y (λR k0=>gV (w':=.int .i64 (a.length:Int)) 0 Y Yt (gV (w':=.int .i64 (b.length:Int)) 1 Y Qu ?_));refine gS 3 Y (λh1=>?_) (λh1=>?_)
 ·exact gQ 7 Y Yh
 ·refine gV (w':=.int .i64 (a.length:Int)) 6 Y Yt ?_;refine gLo (α:=Nat) 4 (λi=>i<=a.length/\a.take i=b.take i) (λi=>[(13,.int .i64 (i:Int))]) [0,1,4,12] (λi=>a.length-i) (0) rfl (⟨Nat.zero_le _,rfl⟩) (λi hI=>?_);obtain⟨g1,g2⟩:=hI;refine gS 6 Y (λh2=>?_) (λh2=>?_)
  ·obtain⟨x,hx⟩:∃x,a[i]? =some x:=⟨_,List.getElem?_eq_getElem Xd⟩
   obtain⟨y,hy⟩:∃y,b[i]? =some y:=⟨_,List.getElem?_eq_getElem Xd⟩
   refine gP 14 Y (zrq (i:=i) Y Y Y Y Y Y Y (zoq rcW hx)) (gP 3 Y (zrq (i:=i) Y Y Y Y Y Y Y (zoq rcW hy)) (gUe 1 Y (q1q Y Y Y Y (eq_rc _ _)) (y9q z8q) ?_));refine gS 2 Y (λh3=>?_) (λh3=>?_)
   ·exact gO 8 Y (gQ 2 Y Qe)
   ·exact gA 4 Y (i+1) (gAg 2 Y (i+1) (⟨by omega,qyq g2 hx hy (Classical.not_not.1 h3)⟩) Xd)
  ·exact gO 2 Y (gQ 8 Y Yk)
theorem rseqr_s(a b:List RcI)(f g:Bool)(hb:a.length<=1000000000):PS cfg G 93 [.fz (a.map rcW) 34 f,.fz (b.map rcW) 34 g] (.bool (decide (a=b))):=by
 have ea:(a.map rcW).length=a.length:=List.length_map _;have eb:(b.map rcW).length=b.length:=List.length_map _;refine gI 9 Y (λR k0=>gV (w':=.int .i64 (a.length:Int)) 0 Y Yt (gV (w':=.int .i64 (b.length:Int)) 1 Y Qu ?_));refine gS 3 Y (λh1=>?_) (λh1=>?_)
 ·exact gQ 7 Y Yh
 ·refine gLo (α:=Nat) 9 (λi=>i<=a.length/\a.take i=b.take i) (λi=>[(5,.int .i64 (i:Int))]) [0,1,4] (λi=>a.length-i) (0) rfl (⟨Nat.zero_le _,rfl⟩) (λi hI=>?_);obtain⟨g1,g2⟩:=hI;refine gV (w':=.int .i64 (a.length:Int)) 5 Y Yt ?_;refine gS 3 Y (λh2=>?_) (λh2=>?_)
  ·obtain⟨x,hx⟩:∃x,a[i]? =some x:=⟨_,List.getElem?_eq_getElem Xd⟩
   obtain⟨y,hy⟩:∃y,b[i]? =some y:=⟨_,List.getElem?_eq_getElem Xd⟩
   refine gP 8 Y (zrq (i:=i) Y Y Y Y Y Y Y (zoq rcW hx)) (gP 3 Y (zrq (i:=i) Y Y Y Y Y Y Y (zoq rcW hy)) (gUe 1 Y (q1q Y Y Y Y (eq_rc _ _)) (y9q z8q) ?_));refine gS 2 Y (λh3=>?_) (λh3=>?_)
   ·exact gO 8 Y (gQ 2 Y Qe)
   ·exact gA 5 Y (i+1) (gAg 2 Y (i+1) (⟨by omega,qyq g2 hx hy (Classical.not_not.1 h3)⟩) Xd)
  ·exact gO 2 Y (gQ 8 Y Yk)
theorem cld_s(l:List Depo)(f:Bool)(hl:l.length<=1000000000):PS cfg G 163 [.fz (l.map pdW) 34 f] (.fz (l.map pdW) 34 false):=by
 have e:(l.map pdW).length=l.length:=List.length_map _;have hp:∀l:List Depo,purL (l.map pdW)=true:=yZq pdW_pur
 refine gI 9 Y (λR k0=>?_);first|refine zcq Y Y ?_|refine ycq rfl (uhq Y Y Y Y Y (λbn hn=>?_))
 refine zAq 2 Y ?_;refine gS 0 Y (λh1=>?_) (λh1=>?_)
 ·cases bn with
  |false=>cases h1
  |true=>
   obtain rfl:l=[]:=List.map_eq_nil_iff.1 (hn rfl);exact yvq 7 Y (qlq (fr2:=[(2,.fz [] 34 false)]) Qx ⟨⟨_,rfl,.nilfz⟩,trivial⟩ Y Y)
 ·cases l with
  |nil=>
   skip
   exact yvq 6 Y (gM 0 Y (ytq Y Y (kRq Y Y Y Y Y)) (zeq 4 Y (qlq (fr2:=[(2,.fz [] 34 false)]) Qx ⟨⟨_,rfl,.sl Y Y Y Xh⟩,trivial⟩ Y Y)))
  |cons c l=>
   simp only[List.length_cons] at hl e;exact yvq 6 Y (gM 0 Y (ytq Y Y (qqq (news:=(c::l).map pdW) (olds:=[]) Y Y Y Y Y Xj (by show(0+((c::l).map pdW).length)*48<=_;rw[e];omega) (by rw[e];omega) rfl (by show 0<0+(0+((c::l).map pdW).length)*34;rw[e];omega) Y Y)) (zeq 4 Y (qlq (fr2:=[(2,.fz ((c::l).map pdW) 34 false)]) Qx ⟨⟨_,rfl,.sl rfl (hp _) (zpq Xn (Nat.zero_add _) (by rw[Nat.zero_add])) Xh⟩,trivial⟩ Y Y)))
theorem clx_s(l:List Tx)(f:Bool)(hl:l.length<=1000000000):PS cfg G 162 [.fz (l.map txW) 99 f] (.fz (l.map txW) 99 false):=by
 have e:(l.map txW).length=l.length:=List.length_map _;have hp:∀l:List Tx,purL (l.map txW)=true:=yZq txW_pur
 refine gI 9 Y (λR k0=>?_);first|refine zcq Y Y ?_|refine ycq rfl (uhq Y Y Y Y Y (λbn hn=>?_))
 refine zAq 2 Y ?_;refine gS 0 Y (λh1=>?_) (λh1=>?_)
 ·cases bn with
  |false=>cases h1
  |true=>
   obtain rfl:l=[]:=List.map_eq_nil_iff.1 (hn rfl);exact yvq 7 Y (qlq (fr2:=[(2,.fz [] 99 false)]) Qx ⟨⟨_,rfl,.nilfz⟩,trivial⟩ Y Y)
 ·cases l with
  |nil=>
   skip
   exact yvq 6 Y (gM 0 Y (ytq Y Y (kRq Y Y Y Y Y)) (zeq 4 Y (qlq (fr2:=[(2,.fz [] 99 false)]) Qx ⟨⟨_,rfl,.sl Y Y Y Xh⟩,trivial⟩ Y Y)))
  |cons c l=>
   simp only[List.length_cons] at hl e;exact yvq 6 Y (gM 0 Y (ytq Y Y (qqq (news:=(c::l).map txW) (olds:=[]) Y Y Y Y Y Xj (by show(0+((c::l).map txW).length)*120<=_;rw[e];omega) (by rw[e];omega) rfl (by show 0<0+(0+((c::l).map txW).length)*99;rw[e];omega) Y Y)) (zeq 4 Y (qlq (fr2:=[(2,.fz ((c::l).map txW) 99 false)]) Qx ⟨⟨_,rfl,.sl rfl (hp _) (zpq Xn (Nat.zero_add _) (by rw[Nat.zero_add])) Xh⟩,trivial⟩ Y Y)))
theorem clr_s(l:List RcI)(f:Bool)(hl:l.length<=1000000000):PS cfg G 192 [.fz (l.map rcW) 34 f] (.fz (l.map rcW) 34 false):=by
 have e:(l.map rcW).length=l.length:=List.length_map _;have hp:∀l:List RcI,purL (l.map rcW)=true:=yZq rcW_pur
 refine gI 9 Y (λR k0=>?_);first|refine zcq Y Y ?_|refine ycq rfl (uhq Y Y Y Y Y (λbn hn=>?_))
 refine zAq 2 Y ?_;refine gS 0 Y (λh1=>?_) (λh1=>?_)
 ·cases bn with
  |false=>cases h1
  |true=>
   obtain rfl:l=[]:=List.map_eq_nil_iff.1 (hn rfl);exact yvq 7 Y (qlq (fr2:=[(2,.fz [] 34 false)]) Qx ⟨⟨_,rfl,.nilfz⟩,trivial⟩ Y Y)
 ·cases l with
  |nil=>
   skip
   exact yvq 6 Y (gM 0 Y (ytq Y Y (kRq Y Y Y Y Y)) (zeq 4 Y (qlq (fr2:=[(2,.fz [] 34 false)]) Qx ⟨⟨_,rfl,.sl Y Y Y Xh⟩,trivial⟩ Y Y)))
  |cons c l=>
   simp only[List.length_cons] at hl e;exact yvq 6 Y (gM 0 Y (ytq Y Y (qqq (news:=(c::l).map rcW) (olds:=[]) Y Y Y Y Y Xj (by show(0+((c::l).map rcW).length)*48<=_;rw[e];omega) (by rw[e];omega) rfl (by show 0<0+(0+((c::l).map rcW).length)*34;rw[e];omega) Y Y)) (zeq 4 Y (qlq (fr2:=[(2,.fz ((c::l).map rcW) 34 false)]) Qx ⟨⟨_,rfl,.sl rfl (hp _) (zpq Xn (Nat.zero_add _) (by rw[Nat.zero_add])) Xh⟩,trivial⟩ Y Y)))
theorem rsbody_s(a:List Depo)(c:List Tx)(b:List Depo)(d:List Tx)(f1 f2 f3 f4:Bool)(hb:a.length<=1000000000)(hb2:c.length<=1000000000):PS cfg G 122 [bodW a c f1 f2,bodW b d f3 f4] (.bool (decide (a=b/\c=d))):=by
 have ea:(a.map pdW).length=a.length:=List.length_map _;have eb:(b.map pdW).length=b.length:=List.length_map _;have ec:(c.map txW).length=c.length:=List.length_map _;have ed:(d.map txW).length=d.length:=List.length_map _;refine gI 12 Y (λR k0=>gV (w':=.int .i64 (a.length:Int)) 0 Y Yt (gV (w':=.int .i64 (b.length:Int)) 2 Y Qu ?_));refine gD 0 Y (λh1=>?_) (λh1=>?_)
 ·exact gQ 19 Y (by rw[decide_eq_false λh=>h1 (by rw[h.1])])
 refine gV (w':=.int .i64 (c.length:Int)) 3 Y (by rw[<-ec];rfl) (gV (w':=.int .i64 (d.length:Int)) 2 Y (by rw[<-ed];rfl) (gU 0 Y ?_));refine gS 3 Y (λh2=>?_) (λh2=>?_)
 ·exact gQ 7 Y (by rw[decide_eq_false λh=>h2 (by rw[h.2])])
 ·refine gLo (α:=Nat) 9 (λi=>i<=a.length/\a.take i=b.take i) (λi=>[(5,.int .i64 (i:Int))]) [2,3,4] (λi=>a.length-i) (0) rfl (⟨Nat.zero_le _,rfl⟩) (λi hI=>?_);obtain⟨g1,g2⟩:=hI;refine gV (w':=.int .i64 (a.length:Int)) 6 Y Yt ?_;refine gS 3 Y (λh3=>?_) (λh3=>?_)
  ·obtain⟨x,hx⟩:∃x,a[i]? =some x:=⟨_,List.getElem?_eq_getElem Xd⟩
   obtain⟨y,hy⟩:∃y,b[i]? =some y:=⟨_,List.getElem?_eq_getElem Xd⟩
   refine gP 9 Y (zrq (i:=i) Y Y Y Y Y Y Y (zoq pdW hx)) (gP 4 Y (zrq (i:=i) Y Y Y Y Y Y Y (zoq pdW hy)) (gUe 1 Y (q1q Y Y Y Y (eq_pd _ _)) (y9q z8q) ?_));refine gS 2 Y (λh4=>?_) (λh4=>?_)
   ·exact gO 8 Y (gQ 2 Y (by rw[decide_eq_false λq=>Znq hx hy h4 q.1]))
   ·exact gA 5 Y (i+1) (gAg 2 Y (i+1) (⟨by omega,qyq g2 hx hy (Classical.not_not.1 h4)⟩) Xd)
  ·obtain rfl:=jcq (a:=a) (b:=b) Xd Xd g2;refine gO 2 Y (zeq 9 Y ?_);skip
   refine gLo (α:=Nat) 0 (λj=>j<=c.length/\c.take j=d.take j) (λj=>[(6,.int .i64 (j:Int))]) [2,3,4] (λj=>c.length-j) (0) rfl (⟨Nat.zero_le _,rfl⟩) (λj hI=>?_);obtain⟨k1,k2⟩:=hI;refine gV (w':=.int .i64 (c.length:Int)) 6 Y (by rw[<-ec];rfl) ?_;refine gS 3 Y (λh4=>?_) (λh4=>?_)
   ·obtain⟨x,hx⟩:∃x,c[j]? =some x:=⟨_,List.getElem?_eq_getElem Xd⟩
    obtain⟨y,hy⟩:∃y,d[j]? =some y:=⟨_,List.getElem?_eq_getElem Xd⟩
    refine gP 9 Y (zrq (i:=j) Y Y Y Y Y Y Y (zoq txW hx)) (gP 4 Y (zrq (i:=j) Y Y Y Y Y Y Y (zoq txW hy)) (gUe 1 Y (q1q Y Y Y Y (eq_tx _ _)) (y9q z8q) ?_));refine gS 2 Y (λh5=>?_) (λh5=>?_)
    ·exact gO 8 Y (gQ 2 Y (by rw[decide_eq_false λq=>Znq hx hy h5 q.2]))
    ·exact gA 5 Y (j+1) (gAg 2 Y (j+1) (⟨by omega,qyq k2 hx hy (Classical.not_not.1 h5)⟩) Xd)
   ·exact gO 2 Y (gQ 8 Y (by rw[decide_eq_true ⟨rfl,jcq Xd Xd k2⟩]))
end
end
end Go.Proofs.YtihcioafclhokaaGreatDoor

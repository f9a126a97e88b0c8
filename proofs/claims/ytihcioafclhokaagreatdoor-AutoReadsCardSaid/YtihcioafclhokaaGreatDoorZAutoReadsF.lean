/-
  What the proof of AutoReads stands on, part 6. No condition.
-/
import Derived.Test.YtihcioafclhokaaGreatDoorZAutoReadsE
set_option linter.unusedSimpArgs false
set_option linter.unusedVariables false
namespace Go.Proofs.YtihcioafclhokaaGreatDoor
@[irreducible] def bitN(k:Dig)(i:Nat):Nat:=kn k (i/8)/2^(7-i%8)%2
theorem ZNq(k:Dig)(i:Nat):bitN k i<=1:=by unfold bitN;omega
theorem xor_le(m n:Nat)(hm:m<=255)(hn:n<=255):m^^^n<=255:=by
 have:m^^^n<2^8:=Nat.xor_lt_two_pow Xd Xd;omega
theorem pow_le(n:Nat):2^(7-n)<=255:=by
 have h:∀m,m<=7->2^m<=255:=by decide
 exact h _ Xd
@[irreducible] def qlq(k:Dig)(i:Nat):Dig:=setD k (i/8) (UInt8.ofNat (kn k (i/8)^^^2^(7-i%8)))
@[irreducible] def lenM(x:Nat):Nat:=if x=0 then 0 else Nat.log2 x+1
theorem lenM_le(x:Nat)(hx:x<=255):lenM x<=8:=by
 have h:∀x,x<=255->lenM x<=8:=by decide+kernel
 exact h x hx
def dOf(a b:Dig)(i:Nat):Nat×Nat:=(i,kn a i^^^kn b i)
@[irreducible] def dTo(a b:Dig)(n:Nat):List (Nat×Nat):=((List.range n).map (dOf a b)).filter (λp=>p.2 !=0)
theorem dTo_zero(a b:Dig):dTo a b 0=[]:=by unfold dTo;rfl
theorem uzq(a b:Dig)(n:Nat):dTo a b (n+1)=dTo a b n++(if kn a n^^^kn b n=0 then [] else [dOf a b n]):=by
 unfold dTo;rw[List.range_succ,List.map_append,List.filter_append];congr 1
 simp only[List.map_cons,List.map_nil,List.filter_cons,List.filter_nil,dOf];split<;>split<;>simp_all
theorem dTo_pre(a b:Dig)(n m:Nat):dTo a b n<+:dTo a b (n+m):=by
 induction m with
 |zero=>exact List.prefix_refl _
 |succ m ih=>rw[<-Nat.add_assoc,uzq];exact ih.trans (List.prefix_append _ _)
theorem dTo_get(a b:Dig)(i n:Nat)(hi:i<n)(hx:kn a i^^^kn b i≠0):(dTo a b n)[(dTo a b i).length]? =some (dOf a b i):=by
 obtain⟨m,rfl⟩:∃m,n=(i+1)+m:=⟨n-(i+1),by omega⟩
 obtain⟨l,hl⟩:=dTo_pre a b (i+1) m;rw[<-hl,uzq,if_neg hx];simp
theorem dTo_mem{a b:Dig}{n:Nat}{x:Nat×Nat}(h:x∈dTo a b n):x.1<n/\x.2=kn a x.1^^^kn b x.1/\x.2≠0:=by
 unfold dTo at h;rw[List.mem_filter,List.mem_map] at h;obtain⟨⟨i,hi,rfl⟩,h2⟩:=h;exact⟨List.mem_range.1 hi,rfl,by simpa using h2⟩
@[irreducible] def yhq(a b:Dig):Nat:=match dTo a b 32 with
 |[]=>256
 |x::_=>8*x.1+(8-lenM x.2)
@[irreducible] def jVq(a b:Dig):Bool:=match dTo a b 32 with
 |[]=>false
 |x::_=>decide (kn a x.1<kn b x.1)
theorem byte_top:∀x,x<256->x≠0->lenM x<=8/\1<=lenM x/\x.testBit (lenM x-1)=true/\∀k,k<8->lenM x-1<k->x.testBit k=false:=by decide+kernel
theorem qCq(m k:Nat):m/2^k%2=(m.testBit k).toNat:=by rw[Nat.toNat_testBit]
theorem lt_top{m n L:Nat}(h:∀k,L<k->m.testBit k=n.testBit k)(hm:m.testBit L=false)(hn:n.testBit L=true):m<n:=by
 have h1:m/2^(L+1)=n/2^(L+1):=by
  apply Nat.eq_of_testBit_eq;intro i;rw[Nat.testBit_div_two_pow,Nat.testBit_div_two_pow];exact h _ Xd
 have e:∀x,x/2^(L+1)=x/2^L/2:=λx=>by rw[Nat.pow_succ,Nat.div_div_eq_div_mul]
 have hm':m/2^L%2=0:=by rw[qCq,hm];rfl
 have hn':n/2^L%2=1:=by rw[qCq,hn];rfl
 rw[e,e] at h1;have:m/2^L<n/2^L:=by omega
 exact Nat.lt_of_not_le λhc=>by have:=Nat.div_le_div_right (c:=2^L) hc;omega
theorem Qhq(m n:Nat)(hm:m<=255)(hn:n<=255)(hx:m^^^n≠0):
  1<=lenM (m^^^n)/\lenM (m^^^n)<=8/\(∀t,t<8-lenM (m^^^n) ->m/2^(7-t)%2=n/2^(7-t)%2)/\
   ¬m/2^(lenM (m^^^n) -1)%2=n/2^(lenM (m^^^n) -1)%2/\(m<n↔m/2^(lenM (m^^^n) -1)%2<n/2^(lenM (m^^^n) -1)%2):=by
 have hle:=xor_le m n hm hn;obtain⟨h1,h2,h3,h4⟩:=byte_top (m^^^n) Xd hx
 have hab:∀k,lenM (m^^^n) -1<k->m.testBit k=n.testBit k:=λk hk=>by
  by_cases hk8:k<8
  ·have:=h4 k hk8 hk;rw[Nat.testBit_xor] at this;revert this;cases m.testBit k<;>cases n.testBit k<;>simp
  ·have e1:m<2^k:=Nat.lt_of_lt_of_le (show m<2^8 by omega) (Nat.pow_le_pow_right Xd Xd);have e2:n<2^k:=Nat.lt_of_lt_of_le (show n<2^8 by omega) (Nat.pow_le_pow_right Xd Xd);rw[Nat.testBit_lt_two_pow e1,Nat.testBit_lt_two_pow e2]
 rw[Nat.testBit_xor] at h3;refine⟨h2,h1,λt ht=>?_,?_,?_⟩
 ·rw[qCq,qCq,hab _ Xd]
 ·rw[qCq,qCq];revert h3;cases m.testBit (lenM (m^^^n) -1)<;>cases n.testBit (lenM (m^^^n) -1)<;>simp
 ·rw[qCq,qCq];cases hmb:m.testBit (lenM (m^^^n) -1)<;>cases hnb:n.testBit (lenM (m^^^n) -1)<;>simp only[hmb,hnb] at h3
  ·simp at h3
  ·have:=lt_top hab hmb hnb;simp[this]
  ·have:=lt_top (λk hk=>(hab k hk).symm) hnb hmb;simp;omega
  ·simp at h3
theorem xor_zero{m n:Nat}:m^^^n=0↔m=n:=by
 constructor
 ·intro h;apply Nat.eq_of_testBit_eq;intro i;have:(m^^^n).testBit i=false:=by rw[h];simp
  rw[Nat.testBit_xor] at this;revert this;cases m.testBit i<;>cases n.testBit i<;>simp
 ·rintro rfl;exact Nat.xor_self m
theorem dTo_nil{a b:Dig}{n:Nat}(h:dTo a b n=[]):∀i,i<n->kn a i=kn b i:=λi hi=>by
 rcases Classical.em (kn a i^^^kn b i=0) with hx|hx
 ·exact xor_zero.1 hx
 ·have:=dTo_get a b i n hi hx;rw[h] at this;simp at this
theorem uAq{a b:Dig}{x:Nat×Nat}{l:List (Nat×Nat)}:∀{n:Nat},dTo a b n=x::l->x.1<n/\x.2=kn a x.1^^^kn b x.1/\x.2≠0/\∀i,i<x.1->kn a i=kn b i:=by
 intro n h;obtain⟨h1,h2,h3⟩:=dTo_mem (a:=a) (b:=b) (n:=n) (x:=x) (by rw[h];simp);refine⟨h1,h2,h3,?_⟩;revert l
 induction n with
 |zero=>omega
 |succ n ih=>
  intro l h;rw[uzq] at h;cases hd:dTo a b n with
  |nil=>
   have:=dTo_nil hd;intro i hi;exact this i Xd
  |cons y r=>
   rw[hd] at h;have hy:y=x:=by simpa using congrArg List.head? h
   subst hy;have hm:=(dTo_mem (a:=a) (b:=b) (n:=n) (x:=y) (by rw[hd];simp)).1;exact ih hm hd
def Qqq(a b:Dig)(s:Nat):Prop:=(∀j,j<s->bitN a j=bitN b j)/\(s=256\/(s<256/\¬bitN a s=bitN b s))
theorem j7q(a b:Dig):Qqq a b (yhq a b):=by
 unfold yhq;cases hd:dTo a b 32 with
 |nil=>
  have h:=dTo_nil hd;exact⟨λj hj=>by simp only at hj;unfold bitN;rw[h (j/8) Xd],.inl rfl⟩
 |cons x l=>
  obtain⟨h1,h2,h3,h4⟩:=uAq hd;simp only;have hb:=Qhq (kn a x.1) (kn b x.1) (xOq _ _) (xOq _ _) (by rw[<-h2];exact h3);rw[<-h2] at hb;obtain⟨b1,b2,b3,b4,-⟩:=hb;refine⟨λj hj=>?_,.inr ⟨by omega,?_⟩⟩
  ·unfold bitN;by_cases hjx:j/8<x.1
   ·rw[h4 _ hjx]
   ·have e:j/8=x.1:=by omega
    rw[e];exact b3 (j%8) Xd
  ·unfold bitN;rw[show(8*x.1+(8-lenM x.2))/8=x.1 by omega,show 7-(8*x.1+(8-lenM x.2))%8=lenM x.2-1 by omega];exact b4
theorem xFq{a b:Dig}{s t:Nat}(hs:Qqq a b s)(ht:Qqq a b t):s=t:=by
 obtain⟨s1,s2⟩:=hs;obtain⟨t1,t2⟩:=ht;rcases Nat.lt_trichotomy s t with h|h|h
 ·have:=t1 s h;rcases s2 with s2|⟨_,s2⟩
  ·omega
  ·exact absurd this s2
 ·exact h
 ·have:=s1 t h;rcases t2 with t2|⟨_,t2⟩
  ·omega
  ·exact absurd this t2
theorem ahead_is(a b:Dig):jVq a b=decide (yhq a b<256/\bitN a (yhq a b)<bitN b (yhq a b)):=by
 unfold jVq yhq;cases hd:dTo a b 32 with
 |nil=>simp
 |cons x l=>
  obtain⟨h1,h2,h3,h4⟩:=uAq hd;simp only;have hb:=Qhq (kn a x.1) (kn b x.1) (xOq _ _) (xOq _ _) (by rw[<-h2];exact h3);rw[<-h2] at hb;obtain⟨b1,b2,b3,b4,b5⟩:=hb;refine decide_eq_decide.2 ?_;unfold bitN;rw[show(8*x.1+(8-lenM x.2))/8=x.1 by omega,show 7-(8*x.1+(8-lenM x.2))%8=lenM x.2-1 by omega,b5];constructor
  ·exact λh=>⟨by omega,h⟩
  ·exact λh=>h.2
theorem ofNat_u8(n:Nat)(h:n<=255):(UInt8.ofNat n).toNat=n:=by simp;omega
theorem kn_turn(k:Dig)(i j:Nat)(hj:j<32)(hi:i<256):kn (qlq k i) j=if j=i/8 then kn k j^^^2^(7-i%8) else kn k j:=by
 unfold qlq;rw[kn_set _ _ _ _ hj];by_cases h:i/8=j
 ·rw[if_pos h,if_pos h.symm,h,ofNat_u8];exact xor_le _ _ (xOq _ _) (pow_le _)
 ·rw[if_neg h,if_neg (λe=>h e.symm)]
theorem ZMq(k:Dig)(i j:Nat)(hi:i<256)(hj:j<256)(h:¬j=i):bitN (qlq k i) j=bitN k j:=by
 unfold bitN;rw[kn_turn _ _ _ Xd hi];by_cases h8:j/8=i/8
 ·rw[if_pos h8,qCq,qCq,Nat.testBit_xor,Nat.testBit_two_pow_of_ne Xd];simp
 ·rw[if_neg h8]
theorem bit_turn_eq(k:Dig)(i:Nat)(hi:i<256):bitN (qlq k i) i=1-bitN k i:=by
 unfold bitN;rw[kn_turn _ _ _ Xd hi,if_pos rfl,qCq,qCq,Nat.testBit_xor,Nat.testBit_two_pow_self];cases (kn k (i/8)).testBit (7-i%8)<;>rfl
theorem shared_eq{a b:Dig}:yhq a b=256↔a=b:=by
 constructor
 ·intro h;cases hd:dTo a b 32 with
  |nil=>exact dig_ext (dTo_nil hd)
  |cons x l=>
   exfalso
   obtain⟨h1,h2,h3,h4⟩:=uAq hd;have hb:=Qhq (kn a x.1) (kn b x.1) (xOq _ _) (xOq _ _) (by rw[<-h2];exact h3);rw[<-h2] at hb;unfold yhq at h;rw[hd] at h;simp only at h;omega
 ·rintro rfl;rcases(j7q a a).2 with h|⟨_,h⟩
  ·exact h
  ·exact absurd rfl h
theorem k0q{a b:Dig}{d:Nat}(hd:d<=256):d<=yhq a b↔∀j,j<d->bitN a j=bitN b j:=by
 obtain⟨h1,h2⟩:=j7q a b;constructor
 ·exact λh j hj=>h1 j Xd
 ·intro h;rcases h2 with h2|⟨h2,h3⟩
  ·omega
  ·exact Nat.le_of_not_lt λhlt=>h3 (h _ hlt)
theorem ahead_iff{a b:Dig}:jVq a b=true↔∃s,s<256/\(∀j,j<s->bitN a j=bitN b j)/\bitN a s=0/\bitN b s=1:=by
 rw[ahead_is];have hs:=j7q a b;constructor
 ·intro h;have h:=of_decide_eq_true h;refine⟨yhq a b,h.1,hs.1,?_,?_⟩<;>(have:=ZNq b (yhq a b);omega)
 ·rintro⟨s,h1,h2,h3,h4⟩;have:yhq a b=s:=xFq hs ⟨h2,.inr ⟨h1,by omega⟩⟩;rw[this];exact decide_eq_true ⟨h1,by omega⟩
theorem uHq{a b:Dig}(h:jVq a b=true):a≠b:=by
 rintro rfl;obtain⟨s,_,_,h3,h4⟩:=ahead_iff.1 h;omega
theorem ahead_total{a b:Dig}(h:a≠b):jVq a b=true\/jVq b a=true:=by
 have hs:=j7q a b;have h256:yhq a b≠256:=λe=>h (shared_eq.1 e)
 rcases hs.2 with h2|⟨h1,h2⟩
 ·exact absurd h2 h256
 ·have x1:=ZNq a (yhq a b);have x2:=ZNq b (yhq a b);rcases Nat.eq_zero_or_pos (bitN a (yhq a b)) with h3|h3
  ·exact .inl (ahead_iff.2 ⟨_,h1,hs.1,h3,by omega⟩)
  ·exact .inr (ahead_iff.2 ⟨_,h1,λj hj=>(hs.1 j hj).symm,by omega,by omega⟩)
section
open Go.RowKit
section
attribute [local irreducible] CoW OpW FlW Step Spec
variable {G:Nat->Option W}
theorem jNq(a b:Nat):((a:Int)).tdiv (b:Int)=((a/b:Nat):Int):=by rw[Int.tdiv_eq_ediv_of_nonneg Xd];rfl
theorem klq(a b:Nat):((a:Int)).tmod (b:Int)=((a%b:Nat):Int):=by rw[Int.tmod_eq_emod_of_nonneg Xd];rfl
theorem dW_ld(k:Dig){i:Nat}(h:i<32):ybq 50 (dW k) (0+i*1) 1 false=some (.int .u8 (kn k i:Nat)):=by rw[Nat.zero_add];exact dW_get k h
theorem bit_and(x n:Nat)(hn:n<=7)(hx:x<=255):Nat.land (Nat.shiftRight x (min n 8)%256) (1%256)=x/2^n%2:=by
 have h1:Nat.shiftRight x (min n 8)=x/2^n:=by rw[show min n 8=n by omega];exact Nat.shiftRight_eq_div_pow x n
 have h2:=Nat.div_le_self x (2^n);rw[h1,Nat.mod_eq_of_lt Xd];exact Nat.and_one_is_mod _
theorem bit_in(k:Dig)(i:Nat)(h:i<256):PS cfg G 330 [dW k,.int .i64 (i:Int)] (.tup [.int .u8 (bitN k i:Nat),.int .i64 0]):=by
 have hk:=xOq k (i/8);refine gI 11 Y (λR k0=>?_);refine gD 0 Y (λh1=>?_) (λh1=>?_)
 ·exfalso;omega
 refine gU 2 Y ?_;refine gS 3 Y (λh2=>?_) (λh2=>?_)
 ·exfalso;omega
 refine gA 5 Y (i/8) (e:=(jNq i 8)) (gP 0 Y (zHq (i:=i/8) Y Y Y Y Y Y Xd) (gM 0 Y (yUq Y Y Y (dW_ld k Xd)) (gV 1 Y (congrArg (W.int .i64) (klq i 8)) (gA 0 Y (7-i%8) (gQ 7 Y ?_)))));show W.tup [.int .u8 (Nat.land (Nat.shiftRight (kn k (i/8)) (min (7-i%8) 8)%256) (1%256):Nat),_]=_;rw[bit_and _ _ Xd hk];unfold bitN;rfl
theorem len_tabW(s:List UInt8)(h:(List.range 256).all (λx=>s[x]? ==some (UInt8.ofNat (lenM x)))=true)(x:Nat)(hx:x<=255):s[x]? =some (UInt8.ofNat (lenM x)):=by
 have:=List.all_eq_true.1 h x (List.mem_range.2 Xd);simpa using this
theorem len8_s(x:Nat)(hx:x<=255):PS cfg G 357 [.int .u8 (x:Int)] (.int .i64 (lenM x:Nat)):=by
 have hl:=lenM_le x hx;have e:((UInt8.ofNat (lenM x)).toNat:Int)=(lenM x:Nat):=by congr 1;simp;omega
 exact gI 8 Y (λR k0=>gP 0 Y (ix_str Y Y Y Y Y (len_tabW _ (by decide+kernel) x hx)) (gA 0 Y (lenM x) (e:=e) (gQa 4 Y)))
theorem lz8_s(x:Nat)(hx:x<=255):PS cfg G 341 [.int .u8 (x:Int)] (.int .i64 (8-lenM x:Nat)):=by
 have hl:=lenM_le x hx;exact gI 8 Y (λR k0=>gC 0 Y (len8_s _ Xd) (gA 0 Y (8-lenM x) (gQa 4 Y)))
noncomputable def encP(x:Nat×Nat):List W:=[.int .i64 (x.1:Int),.int .u8 (x.2:Int)]
theorem dTo_more(a b:Dig){i:Nat}(h:i<32)(hx:kn a i^^^kn b i≠0):(dTo a b 32).drop (dTo a b i).length=dOf a b i::(dTo a b 32).drop (dTo a b (i+1)).length:=by
 have h1:=dTo_get a b i 32 h hx;obtain⟨hl,h2⟩:=List.getElem?_eq_some_iff.1 h1;have hs:=uzq a b i;rw[if_neg hx] at hs;rw[List.drop_eq_getElem_cons hl,h2,hs];simp
theorem dTo_same(a b:Dig){i:Nat}(hx:kn a i^^^kn b i=0):dTo a b (i+1)=dTo a b i:=by rw[uzq,if_pos hx,List.append_nil]
theorem xor8(x y:Nat)(hx:x<=255)(hy:y<=255):Nat.xor (x%256) (y%256)=x^^^y:=by rw[Nat.mod_eq_of_lt Xd,Nat.mod_eq_of_lt Xd];rfl
theorem apart_s(a b:Dig):PS cfg G 271 [dW a,dW b] (.fn 329 [] [.fel (dW a),.fel (dW b)]):=by
 refine gI 14 Y (λR k0=>?_);refine xdq (fr2:=[(4,_)]) Xm ?_ Y Y
 (repeat (first|exact trivial|refine And.symm ⟨?_,_,rfl,?_⟩))<;>(repeat (first|exact .nil|refine .cons ?_ ?_|refine .fn ?_ ?_|(refine yKq Y ?_ rfl;(first|rfl|(focus (simp;done))))|(refine .sl Y ?_ rfl Xi;(first|rfl|(focus (simp;done))))|(refine .pur ?_;(first|rfl|(focus (simp;done))))|refine .agg ?_|refine .arr ?_|refine .tup ?_))
theorem apart_it(a b:Dig):y7q cfg G 329 [.fel (dW a),.fel (dW b)] ((dTo a b 32).map encP):=by
 refine k6q (fn:=Tryz.f329) Y Y Y (Yb rfl) (λL E R hy k0=>?_);refine co_scope 3 (z2q 9 Y ?_);refine co_loopR (α:=Nat×Res) (λp=>p.1<=32/\Yl cfg G L E (((dTo a b 32).drop (dTo a b p.1).length).map encP) p.2) (λp=>[(6,.int .i64 (p.1:Int))]) [(0,_),(1,_),(2,_)] (λp=>[]) (λp=>p.2) (λp=>32-p.1) ((0,R)) ⟨rfl,rfl,rfl,trivial⟩ (⟨Nat.zero_le _,by rw[dTo_zero];exact hy⟩) ⟨rfl,trivial⟩ Y Y (λp hI=>?_);obtain⟨i,R⟩:=p;obtain⟨hi,hy⟩:=hI;simp only at hi hy;have ha:=xOq a i;have hb:=xOq b i;refine z2q 6 Y ?_;refine gS 0 Y (λh1=>?_) (λh1=>?_)
 ·have hi':i<32:=by omega
  refine gP 13 Y (ix_fel Y Y Y Y Y Y Xd rfl (dW_get a hi')) (gP 2 Y (ix_fel Y Y Y Y Y Y Xd rfl (dW_get b hi')) (gV (w':=.int .u8 ((kn a i^^^kn b i:Nat):Int)) 1 Y (congrArg (λn:Nat=>W.int .u8 (n:Int)) (xor8 _ _ ha hb)) ?_));refine gD 6 Y (λh2=>?_) (λh2=>?_)
  ·have hx:kn a i^^^kn b i≠0:=by omega
   rw[dTo_more a b hi' hx,List.map_cons] at hy;refine gSo 4 Y (qHq Y Y Y (hy) (λb R1 hb=>?_));refine gS 4 Y (λh3=>?_) (λh3=>?_)
   ·cases b with
    |true=>cases h3
    |false=>
     exact yTq 3 Y (y9q Xi (zYq 1 Y (YNq (by intro l h;cases h) (jTq (.inl rfl) rfl hb))))
   ·cases b with
    |false=>exact absurd rfl h3
    |true=>
     exact yTq 4 Y (gA 0 Y (i+1) (zfq 2 Y (YPq ((i+1,R1)) (⟨hi',hb⟩) Ya (Nat.zero_le _) ⟨rfl,trivial⟩ ⟨rfl,rfl,rfl,trivial⟩ Xg Xg Xd Xh Yf rfl)))
  ·have hx:kn a i^^^kn b i=0:=by omega
   rw[<-dTo_same a b hx] at hy;exact gA 14 Y (i+1) (zfq 2 Y (YPq ((i+1,R)) (⟨hi',hy⟩) Ya (Nat.zero_le _) ⟨rfl,trivial⟩ ⟨rfl,rfl,rfl,trivial⟩ Xg Xg Xd Xh Yf rfl))
 ·refine zfq 2 Y (y9q Xi (zYq 1 Y (YNq (by intro l h;cases h) ?_)));have:i=32:=by omega
  subst this;rw[List.drop_length] at hy;exact jTq (.inl rfl) rfl hy
theorem encP_ok{l:List (Nat×Nat)}:∀y∈l,purL (encP y)=true/\(encP y).length=2:=λy _=>⟨rfl,rfl⟩
theorem head_of{α:Type}{l:List α}{x:α}{i:Nat}(h:l[i]? =some x)(hi:i=0):∃r,l=x::r:=by
 subst hi;cases l with
 |nil=>simp at h
 |cons y r=>simp at h;subst h;exact⟨r,rfl⟩
theorem shared_s(a b:Dig):PS cfg G 303 [dW a,dW b] (.int .i64 (yhq a b:Nat)):=by
 refine gI 12 Y (λR k0=>gC 0 Y (apart_s _ _) (zfq 3 Y ?_));refine ZBq (encP) (dTo a b 32) (λi=>i=0) rfl Xj (apart_it a b) (encP_ok) (rfl) (λi y hy hI=>?_) (λhI=>?_)
 ·obtain⟨r,hr⟩:=head_of hy hI;obtain⟨h1,h2,h3,h4⟩:=uAq hr;have hb:=xor_le _ _ (xOq a y.1) (xOq b y.1);rw[<-h2] at hb;have hl:=lenM_le y.2 hb;refine z2q 8 Y (ZWq (z2q 4 Y (gA 0 Y (8*y.1) (gC 1 Y (lz8_s _ Xd) (gA 0 Y (8*y.1+(8-lenM y.2)) (zfq 5 Y (jgq Xi (zYq 2 Y (gQ 0 Y ?_)))))))));unfold yhq;rw[hr]
 ·have:dTo a b 32=[]:=List.eq_nil_of_length_eq_zero hI;refine zYq 8 Y (gQ 0 Y ?_);unfold yhq;rw[this];rfl
theorem ahead_s(a b:Dig):PS cfg G 194 [dW a,dW b] (.bool (jVq a b)):=by
 refine gI 12 Y (λR k0=>gC 0 Y (apart_s _ _) (zfq 3 Y ?_));refine ZBq (encP) (dTo a b 32) (λi=>i=0) rfl Xj (apart_it a b) (encP_ok) (rfl) (λi y hy hI=>?_) (λhI=>?_)
 ·obtain⟨r,hr⟩:=head_of hy hI;obtain⟨h1,h2,h3,h4⟩:=uAq hr;refine z2q 3 Y (ZWq (z2q 4 Y (gP 0 Y (zHq (i:=y.1) Y Y Y Y Y Y h1) (gM 0 Y (yUq Y Y Y (dW_ld a h1)) (gP 1 Y (zHq (i:=y.1) Y Y Y Y Y Y h1) (gM 0 Y (yUq Y Y Y (dW_ld b h1)) (gU 0 Y (zfq 5 Y (jgq Xi (zYq 2 Y (gQ 0 Y ?_)))))))))));unfold jVq;rw[hr];congr 1
  simp
 ·have:dTo a b 32=[]:=List.eq_nil_of_length_eq_zero hI;refine zYq 8 Y (gQ 0 Y ?_);unfold jVq;rw[this]
theorem shr8(n:Nat)(hn:n<=7):Nat.shiftRight 128 (min n 8)=2^(7-n):=by
 have h:∀n,n<=7->Nat.shiftRight 128 (min n 8)=2^(7-n):=by decide+kernel
 exact h n hn
theorem turn_in(k:Dig)(i:Nat)(h:i<256):PS cfg G 304 [dW k,.int .i64 (i:Int)] (.tup [dW (qlq k i),.int .i64 0]):=by
 have hk:=xOq k (i/8);have hp:=pow_le (i%8);have hx:=xor_le _ _ hk hp
 have e1:Nat.xor (kn k (i/8)%256) (Nat.shiftRight 128 (min (i%8) 8)%256)=kn k (i/8)^^^2^(7-i%8):=by
  rw[shr8 _ Xd];exact xor8 _ _ hk hp
 refine gI 11 Y (λR k0=>?_);refine gD 0 Y (λh1=>?_) (λh1=>?_)
 ·exfalso;omega
 refine gU 2 Y ?_;refine gS 3 Y (λh2=>?_) (λh2=>?_)
 ·exfalso;omega
 refine gA 5 Y (i/8) (e:=(jNq i 8)) (gP 0 Y (zHq (i:=i/8) Y Y Y Y Y Y Xd) (gM 0 Y (yUq Y Y Y (dW_ld k Xd)) (gV 1 Y (congrArg (W.int .i64) (klq i 8)) (gV (w':=.int .u8 ((kn k (i/8)^^^2^(7-i%8):Nat):Int)) 1 Y (congrArg (λn:Nat=>W.int .u8 (n:Int)) e1) (gP 0 Y (zHq (i:=i/8) Y Y Y Y Y Y Xd) (gM 0 Y (jwq Y Y Y Y Y (y6q (i:=0+i/8*1) Qf Y Y) rfl) (gQ 10 Y ?_)))))));rw[Nat.zero_add,Nat.mul_one,dW_set k (i/8) Xd];unfold qlq;rfl
end
end
def beB:Nat->Nat->List UInt8
 |0,_=>[]
 |s+1,n=>UInt8.ofNat (n/256^s%256)::beB s n
def numB(l:List UInt8):Nat:=l.foldl (λa c=>256*a+c.toNat) 0
@[simp] theorem qjq:∀s n,(beB s n).length=s
 |0,_=>rfl
 |s+1,n=>by simp[beB,qjq s n]
theorem numB_snoc(l:List UInt8)(c:UInt8):numB (l++[c])=256*numB l+c.toNat:=by simp[numB,List.foldl_append]
theorem YXq:∀(l:List UInt8) (a:Nat),l.foldl (λa c=>256*a+c.toNat) a=a*256^l.length+numB l
 |[],a=>by simp[numB]
 |c::l,a=>by
  simp only[List.foldl_cons,numB,List.length_cons];rw[YXq l,YXq l (256*0+c.toNat),Nat.pow_succ];simp only[Nat.add_mul,Nat.mul_zero,Nat.zero_add,Nat.add_assoc];congr 1
  rw[Nat.mul_comm 256 a,Nat.mul_assoc,Nat.mul_comm 256]
theorem numB_cons(c:UInt8)(l:List UInt8):numB (c::l)=c.toNat*256^l.length+numB l:=by
 show(c::l).foldl _ 0=_;rw[List.foldl_cons,YXq];simp
theorem numB_lt:∀l:List UInt8,numB l<256^l.length
 |[]=>by simp[numB]
 |c::l=>by
  rw[numB_cons,List.length_cons,Nat.pow_succ];have:=numB_lt l;have hc:=c.toNat_lt;have:c.toNat*256^l.length<=255*256^l.length:=Nat.mul_le_mul_right _ Xd;omega
section
open Go.RowKit
section
attribute [local irreducible] CoW OpW FlW Step Spec
variable {G:Nat->Option W}
theorem ZCq(l:List UInt8)(f:Bool)(hl:l.length<=70368744177664):PS cfg G 164 [.fz (zbq l) 1 f] (bW l):=by
 refine gI 9 Y (λR k0=>?_);first|refine zcq Y Y ?_|refine ysq rfl (step_nil Y Y Y Y Y (λbn hn=>?_))
 refine zJq 2 Y ?_;refine gS 0 Y (λh1=>?_) (λh1=>?_)
 ·cases bn with
  |false=>cases h1
  |true=>
   have hn:=hn rfl
   have hl0:l=[]:=by cases l with
    |nil=>rfl
    |cons c l=>simp[zbq] at hn
   subst hl0;refine yTq 7 Y ?_;refine xdq (fr2:=[(2,bW [])]) Qn ⟨⟨_,rfl,.nilfz⟩,trivial⟩ Y Y
 ·cases l with
  |nil=>
   skip
   refine yTq 6 Y (gM 0 Y (yGq Y Y (veq Y Y Y Y Y)) (zfq 4 Y ?_));refine xdq (fr2:=[(2,bW [])]) Qn ⟨⟨_,rfl,.sl Y Y Y Xi⟩,trivial⟩ Y Y
  |cons c l=>
   simp only[List.length_cons] at hl;refine yTq 6 Y (gM 0 Y (yGq Y Y (qLq (news:=zbq (c::l)) (olds:=[]) Y Y Y Y Y Yz (by show(0+(zbq (c::l)).length)*1<=_;rw[zdq];simp only[List.length_cons];omega) (by rw[zdq];simp only[List.length_cons];omega) rfl (by show 0<0+(0+(zbq (c::l)).length)*1;rw[zdq];simp only[List.length_cons];omega) Y Y)) (zfq 4 Y ?_));refine xdq (fr2:=[(2,bW (c::l))]) Qn ⟨⟨_,rfl,.sl rfl Xk (sub_whole Xk (Nat.mul_one _)) Xi⟩,trivial⟩ Y Y
theorem end_s(l:List UInt8)(f:Bool):PS cfg G 283 [.fz (zbq l) 1 f] (.int .i64 (if l=[] then 0 else 11)):=by
 have e:=zdq l;refine gI 9 Y (λR k0=>gL 0 Y ?_);refine gS 3 Y (λh1=>?_) (λh1=>?_)
 ·refine zfq 7 Y ?_;have:l≠[]:=by rintro rfl;simp[zbq] at h1
  exact gQ 0 Y (by rw[if_neg this])
 ·refine zfq 8 Y ?_;have:l=[]:=List.eq_nil_of_length_eq_zero (by rw[<-e];simpa using h1);exact gQ 0 Y (by rw[if_pos this])
theorem shr_byte(n i:Nat)(hi:i<=8):Nat.shiftRight n (min (8*i) 64)%256=n/256^i%256:=by
 have:Nat.shiftRight n (min (8*i) 64)=n/2^(8*i):=by rw[show min (8*i) 64=8*i by omega];exact Nat.shiftRight_eq_div_pow _ _
 rw[this,Nat.pow_mul]
theorem be_at(n size i:Nat)(hi:i<size):(zbq (List.replicate (size-i) 0++beB i n))[0+(size-1-i)*1]? =some (.int .u8 (.ofNat 0)):=by
 refine uFq (c:=0) ?_;rw[List.getElem?_append_left Xp,List.getElem?_replicate,if_pos Xd]
theorem be_set(n size i:Nat)(hi:i<size):(zbq (List.replicate (size-i) 0++beB i n)).set (0+(size-1-i)*1) (.int .u8 ((n/256^i%256:Nat):Int))=zbq (List.replicate (size-(i+1)) 0++beB (i+1) n):=by
 have e:size-i=(size-(i+1))+1:=by omega
 have e2:0+(size-1-i)*1=size-(i+1):=by omega
 rw[e,e2,List.replicate_succ',List.append_assoc,yFq,yFq,List.set_append_right _ _ Yz];simp only[zbq,List.length_map,List.length_replicate,Nat.sub_self,List.singleton_append,List.map_cons,List.set_cons_zero,beB];congr 2
 simp
theorem be_zero(n size:Nat):zbq (List.replicate (size-0) 0++beB 0 n)=List.replicate size (.int .u8 0):=by simp[zbq,beB]
theorem put_s(n size:Nat)(hs:1<=size)(hs8:size<=8)(hn:n<256^size):j2q cfg G 253 0 [.int .u64 (n:Int),.int .i64 (size:Int)] [] λw hp nw=>
  w= .tup [.sl 0 0 0 size 1 none,.int .i64 0]/\hp=[(0,5,.arr (size*1) 1 (zbq (beB size n)))]/\nw=1:=by
 intro R
 have hq:size<8->Nat.shiftRight n (min (8*size) 64)=0:=λh=>by
  rw[show min (8*size) 64=8*size by omega,show Nat.shiftRight n (8*size)=n/2^(8*size) from Nat.shiftRight_eq_div_pow _ _,Nat.pow_mul];exact Nat.div_eq_of_lt hn
 refine gIs 11 Y (λk0=>?_);refine gD 0 Y (λh1=>?_) (λh1=>?_)
 ·exfalso;omega
 refine gU 2 Y ?_;refine gS 4 Y (λh2=>?_) (λh2=>?_)
 ·exfalso;omega
 refine gD 3 Y (λh3=>?_) (λh3=>?_)
 ·have h8:=hq Xd;refine gA 3 Y (8*size) (gU 1 Y ?_);refine gS 4 Y (λh4=>?_) (λh4=>?_)
  ·skip
   exfalso
   have h4:(0:Int)<(Nat.shiftRight n (min (8*size) 64):Nat):=h4;rw[h8] at h4;omega
  ·refine gM 6 Y (YYq (l:=size) (c:=size) Y Y Y Y Y Y Y Y (Nat.le_refl _) (by show 1*size<=_;omega) Xd Y Y) (zfq 11 Y ?_);refine qBq (α:=Nat) (λi=>i<=size) (λi=>[(28,.int .i64 (i:Int))]) [(0,_),(1,_),(4,_),(5,_),(6,_),(27,_)] (λi=>[(0,5,.arr (size*1) 1 (zbq (List.replicate (size-i) 0++beB i n)))]) (λi=>size-i) (0) ⟨rfl,rfl,rfl,rfl,rfl,rfl,trivial⟩ (Nat.zero_le _) ⟨rfl,trivial⟩ (by rw[be_zero];rfl) (λi hI=>?_);refine z2q 6 Y ?_;refine gS 0 Y (λh5=>?_) (λh5=>?_)
   ·have hi:i<size:=by omega
    exact gA 13 Y (size-1) (gA 1 Y (size-1-i) (gA 2 Y (8*i) (gV (w':=.int .u8 ((n/256^i%256:Nat):Int)) 1 Y (congrArg (λn:Nat=>W.int .u8 (n:Int)) (shr_byte n i Xd)) (gP 0 Y (yNq (i:=size-1-i) Y Y Y Y Y Y Y Xd) (gM 0 Y (jwq Y Y Y Y Y (y6q (be_at n size i hi) Y Y) (congrArg (λL=>[(0,5,W.arr (size*1) 1 L)]) (be_set n size i hi))) (gA 4 Y (i+1) (zfq 2 Y (qRq (i+1) (hi) Xd ⟨rfl,trivial⟩ ⟨rfl,rfl,rfl,rfl,rfl,rfl,trivial⟩ rfl))))))))
   ·refine zfq 2 Y (y9q Xi (zYq 10 Y ?_));have:i=size:=by omega
    subst this;refine fin Qn Ent.refl rfl ⟨rfl,rfl,?_,rfl⟩;rw[Nat.sub_self];rfl
 ·refine gM 17 Y (YYq (l:=size) (c:=size) Y Y Y Y Y Y Y Y (Nat.le_refl _) (by show 1*size<=_;omega) Xd Y Y) (zfq 11 Y ?_);refine qBq (α:=Nat) (λi=>i<=size) (λi=>[(28,.int .i64 (i:Int))]) [(0,_),(1,_),(4,_),(5,_),(6,_),(27,_)] (λi=>[(0,5,.arr (size*1) 1 (zbq (List.replicate (size-i) 0++beB i n)))]) (λi=>size-i) (0) ⟨rfl,rfl,rfl,rfl,rfl,rfl,trivial⟩ (Nat.zero_le _) ⟨rfl,trivial⟩ (by rw[be_zero];rfl) (λi hI=>?_);refine z2q 6 Y ?_;refine gS 0 Y (λh4=>?_) (λh4=>?_)
  ·have hi:i<size:=by omega
   exact gA 13 Y (size-1) (gA 1 Y (size-1-i) (gA 2 Y (8*i) (gV (w':=.int .u8 ((n/256^i%256:Nat):Int)) 1 Y (congrArg (λn:Nat=>W.int .u8 (n:Int)) (shr_byte n i Xd)) (gP 0 Y (yNq (i:=size-1-i) Y Y Y Y Y Y Y Xd) (gM 0 Y (jwq Y Y Y Y Y (y6q (be_at n size i hi) Y Y) (congrArg (λL=>[(0,5,W.arr (size*1) 1 L)]) (be_set n size i hi))) (gA 4 Y (i+1) (zfq 2 Y (qRq (i+1) (hi) Xd ⟨rfl,trivial⟩ ⟨rfl,rfl,rfl,rfl,rfl,rfl,trivial⟩ rfl))))))))
  ·refine zfq 2 Y (y9q Xi (zYq 10 Y ?_));have:i=size:=by omega
   subst this;refine fin Qn Ent.refl rfl ⟨rfl,rfl,?_,rfl⟩;rw[Nat.sub_self];rfl
theorem shl8(n:Nat):(Int.ofNat (Nat.shiftLeft n (min 8 64)))=((256*n:Nat):Int):=by
 rw[show Nat.shiftLeft n (min 8 64)=n*2^8 from Nat.shiftLeft_eq n 8,Nat.mul_comm];rfl
theorem or_low(n c:Nat)(hn:256*n<18446744073709551616)(hc:c<256):Nat.lor (256*n%18446744073709551616) (c%18446744073709551616)=256*n+c:=by
 rw[Nat.mod_eq_of_lt hn,Nat.mod_eq_of_lt Xd];have:=Nat.two_pow_add_eq_or_of_lt (i:=8) (b:=c) Xd n;rw[Nat.mul_comm] at this;rw[show Nat.lor (256*n) c=256*n|||c from rfl,Nat.mul_comm 256 n];rw[Nat.mul_comm] at this;rw[Nat.mul_comm n 256];exact this.symm
theorem pow256_le{i:Nat}(h:i<=8):256^i<=18446744073709551616:=by
 have h':∀i,i<=8->256^i<=18446744073709551616:=by decide
 exact h' i h
theorem numB_take{l:List UInt8}{i:Nat}{c:UInt8}(h:l[i]? =some c):numB (l.take (i+1))=256*numB (l.take i)+c.toNat:=by
 rw[List.take_add_one,h];exact numB_snoc _ _
theorem vmq{l:List UInt8}{i:Nat}(h:i<=7):256*numB (l.take i)<18446744073709551616:=by
 have h1:=numB_lt (l.take i);have h2:256^(l.take i).length<=256^i:=Nat.pow_le_pow_right Xd Xp;have h3:=pow256_le (i:=i+1) Xd;rw[Nat.pow_succ] at h3;omega
theorem j3q(l:List UInt8)(f:Bool)(size:Nat)(hs:1<=size)(hs8:size<=8)(hl:l.length<size):PS cfg G 282 [.fz (zbq l) 1 f,.int .i64 (size:Int)] (.tup [.int .u64 0,.nils,.int .i64 10]):=by
 have e:=zdq l;refine gI 12 Y (λR k0=>?_);refine gD 0 Y (λh1=>?_) (λh1=>?_)
 ·exfalso;omega
 refine gU 2 Y ?_;refine gS 4 Y (λh2=>?_) (λh2=>?_)
 ·exfalso;omega
 refine gV (w':=.int .i64 (l.length:Int)) 3 Y Xw (gU 1 Y ?_);refine gS 3 Y (λh3=>?_) (λh3=>?_)
 ·first|exact gQa 10 Y|(exfalso;omega)
 ·exfalso;omega
theorem kLq(l:List UInt8)(f:Bool)(size:Nat)(hs:1<=size)(hs8:size<=8)(hl:size<=l.length)(hb:l.length<=70368744177664):PS cfg G 282 [.fz (zbq l) 1 f,.int .i64 (size:Int)] (.tup [.int .u64 (numB (l.take size):Nat),bW (l.drop size),.int .i64 0]):=by
 have e:=zdq l;have el:(l.take size).length=size:=by simp;omega
 refine gI 12 Y (λR k0=>?_);refine gD 0 Y (λh1=>?_) (λh1=>?_)
 ·exfalso;omega
 refine gU 2 Y ?_;refine gS 4 Y (λh2=>?_) (λh2=>?_)
 ·exfalso;omega
 refine gV (w':=.int .i64 (l.length:Int)) 3 Y Xw (gU 1 Y ?_);refine gS 3 Y (λh3=>?_) (λh3=>?_)
 ·exfalso;omega
 refine gP 9 Y (cut_fz3 (ys:=zbq (l.take size)) (l:=0) (h:=size) (m:=size) Y Y Y Y Y Y Y Y (Nat.zero_le _) (Nat.le_refl _) Xd hs (by rw[List.drop_zero,Nat.sub_zero,ZIq]) rfl) (gV (w':=.int .i64 (size:Int)) 0 Y (by show W.int .i64 ((zbq (l.take size)).length:Int)=_;rw[zdq,el]) ?_);refine gLo (α:=Nat) 4 (λi=>i<=size) (λi=>[(26,.int .i64 (i:Int)),(4,.int .u64 (numB (l.take i):Nat))]) [0,1,5,6,24,25] (λi=>size-i) (0) rfl (Nat.zero_le _) (λi hI=>?_);refine gS 6 Y (λh4=>?_) (λh4=>?_)
 ·have hi:i<size:=by omega
  obtain⟨c,hc⟩:∃c,l[i]? =some c:=⟨_,List.getElem?_eq_getElem Xd⟩
  have hc2:(l.take size)[i]? =some c:=by rw[List.getElem?_take,if_pos hi];exact hc
  have hcl:=c.toNat_lt;have hn:=vmq (l:=l) (i:=i) Xd;exact gP 6 Y (zAq (i:=i) Y Y Y Y Y Y Y (uFq hc2)) (gA 6 Y (256*numB (l.take i)) (e:=(shl8 _)) (gA 1 Y (c.toNat) (gV (w':=.int .u64 (numB (l.take (i+1)):Nat)) 0 Y (congrArg (λn:Nat=>W.int .u64 (n:Int)) ((or_low _ _ hn hcl).trans (numB_take hc).symm)) (gA 5 Y (i+1) (gAg 2 Y (i+1) (hi) Xd)))))
 ·have:i=size:=by omega
  subst this;exact gO 2 Y (gP 7 Y (cut_fz (ys:=zbq (l.drop i)) (l:=i) (h:=(zbq l).length) Y Y Y Y Y Y Y Xd (Nat.le_refl _) (by rw[List.take_of_length_le Xk,ZJq]) rfl) (gC 0 Y (ZCq _ _ (by first|assumption|(simp;omega))) (gQa 6 Y)))
structure Acct where
 nonce:Nat
 balance:Nat
 deriving DecidableEq
def Acct.zero:Acct:=⟨0,0⟩
noncomputable def aW(a:Acct):W:=.agg 2 [.int .u64 (a.nonce:Int),.int .u64 (a.balance:Int)]
@[simp] theorem aW_pur(a:Acct):purW (aW a)=true:=rfl
def bytesA(a:Acct):List UInt8:=beB 8 a.nonce++beB 8 a.balance
def qmq(l:List UInt8):Acct×Nat:=if l.length<16 then(.zero,10) else if 16<l.length then(.zero,11) else
 if (⟨numB (l.take 8),numB (l.drop 8)⟩:Acct)= .zero then(.zero,8) else(⟨numB (l.take 8),numB (l.drop 8)⟩,0)
theorem eq_acct(a b:Acct):eqW cfg 300 96 (aW a) (aW b)=some (decide (a=b)):=by
 have e:decide (a=b)=(decide ((a.nonce:Int)=b.nonce)&&(decide ((a.balance:Int)=b.balance)&&true)):=by
  cases a;cases b
  simp only[Acct.mk.injEq,Bool.and_true];rw[Bool.eq_iff_iff];simp only[decide_eq_true_eq,Bool.and_eq_true];omega
 rw[e];exact eq_struct Y Y Y Y (xgq Y Y Y (eq_int Y Y) (xgq Y Y Y (eq_int Y Y) eqFs_nil))
theorem aread_s(l:List UInt8)(f:Bool)(hb:l.length<=70368744177664):PS cfg G 204 [.fz (zbq l) 1 f] (.tup [aW (qmq l).1,.int .i64 ((qmq l).2:Nat)]):=by
 by_cases q1:l.length<8
 ·have e:qmq l=(.zero,10):=by unfold qmq;rw[if_pos Xd]
  rw[e];exact gI 15 Y (λR k0=>gC 0 Y (j3q _ _ 8 Xd Xd q1) (gQa 27 Y))
 have q2:(l.drop 8).length=l.length-8:=by simp
 by_cases q3:l.length<16
 ·have e:qmq l=(.zero,10):=by unfold qmq;rw[if_pos q3]
  rw[e];refine gI 15 Y (λR k0=>?_);first|(first|refine jiq Y Y Y Y Y Y (kLq l _ 8 Xd Xd Xd hb) ?_|refine jiq Y Y Y Y Y Y (j3q (l.drop 8) _ 8 Xd Xd Xd) ?_)|refine jiq Y Y Y Y Y Y (kLq _ _ 8 Xd Xd Xd hb) ?_|refine jiq Y Y Y Y Y Y (j3q _ _ 8 Xd Xd q1) ?_
  refine zJq 23 Y ?_;first|(first|refine jiq Y Y Y Y Y Y (kLq l _ 8 Xd Xd Xd hb) ?_|refine jiq Y Y Y Y Y Y (j3q (l.drop 8) _ 8 Xd Xd Xd) ?_)|refine jiq Y Y Y Y Y Y (kLq _ _ 8 Xd Xd Xd hb) ?_|refine jiq Y Y Y Y Y Y (j3q _ _ 8 Xd Xd q1) ?_
  exact zJq 27 Y (gQa 0 Y)
 have e3:(l.drop 8).drop 8=[]↔l.length=16:=by rw[List.drop_drop,List.drop_eq_nil_iff];omega
 by_cases q4:16<l.length
 ·have e:qmq l=(.zero,11):=by unfold qmq;rw[if_neg q3,if_pos q4]
  have e4:¬(l.drop 8).drop 8=[]:=λh=>by have:=e3.1 h;omega
  rw[e];refine gI 15 Y (λR k0=>?_)
  (first|refine jiq Y Y Y Y Y Y (kLq l _ 8 Xd Xd Xd hb) ?_|refine jiq Y Y Y Y Y Y (kLq (l.drop 8) _ 8 Xd Xd Xd Xd) ?_)
  refine zJq 23 Y ?_
  (first|refine jiq Y Y Y Y Y Y (kLq l _ 8 Xd Xd Xd hb) ?_|refine jiq Y Y Y Y Y Y (kLq (l.drop 8) _ 8 Xd Xd Xd Xd) ?_)
  exact zJq 24 Y (jiq Y Y Y Y Y Y (yfq (w':=.int .i64 11) (end_s _ _) (by rw[if_neg e4])) (op_cz Y Y (zJq 14 Y (gQa 0 Y))))
 ·have e4:(l.drop 8).drop 8=[]:=e3.2 Xd;have e5:(l.drop 8).take 8=l.drop 8:=List.take_of_length_le Xd;refine gI 15 Y (λR k0=>?_)
  (first|refine jiq Y Y Y Y Y Y (kLq l _ 8 Xd Xd Xd hb) ?_|refine jiq Y Y Y Y Y Y (kLq (l.drop 8) _ 8 Xd Xd Xd Xd) ?_)
  refine zJq 23 Y ?_
  (first|refine jiq Y Y Y Y Y Y (kLq l _ 8 Xd Xd Xd hb) ?_|refine jiq Y Y Y Y Y Y (kLq (l.drop 8) _ 8 Xd Xd Xd Xd) ?_)
  refine zJq 24 Y (jiq Y Y Y Y Y Y (yfq (w':=.int .i64 0) (end_s _ _) (by rw[if_pos e4])) (op_cz Y Y (zJq 8 Y (gP 0 Y (y2q Y Y Y Y (eq_acct ⟨numB (l.take 8),numB ((l.drop 8).take 8)⟩ .zero)) ?_))));refine gS 3 Y (λh1=>?_) (λh1=>?_)
  ·refine zfq 10 Y ?_
   have e:qmq l=(.zero,8):=by
    rw[e5] at h1;unfold qmq;rw[if_neg q3,if_neg q4,if_pos h1]
   rw[e];exact gQa 0 Y
  ·refine zfq 11 Y ?_
   have e:qmq l=(⟨numB (l.take 8),numB (l.drop 8)⟩,0):=by
    rw[e5] at h1;unfold qmq;rw[if_neg q3,if_neg q4,if_neg h1]
   rw[e];exact gQ 0 Y (by rw[e5];rfl)
end
end
abbrev Pr:=Dig×List UInt8
inductive T where
 |nil
 |leaf (k:Dig) (v:List UInt8)
 |fork (l r:T)
 deriving Inhabited
def T.all:T->List Pr
 |.nil=>[]
 |.leaf k v=>[(k,v)]
 |.fork l r=>l.all++r.all
def T.isFork:T->Bool
 |.fork _ _=>true
 |_=>false
def T.non:T->Bool
 |.nil=>false
 |_=>true
def T.two(l r:T):Bool:=l.isFork||r.isFork||(l.non&&r.non)
def T.ok:Nat->Dig->T->Bool
 |_,_,.nil=>true
 |d,b,.leaf k _=>decide (d<=yhq k b)
 |d,b,.fork l r=>decide (d<256)&&T.ok (d+1) b l&&T.ok (d+1) (qlq b d) r&&T.two l r
def T.find(k:Dig):Nat->T->Option (List UInt8)
 |_,.nil=>none
 |_,.leaf k' v=>if k'=k then some v else none
 |d,.fork l r=>if bitN k d=0 then l.find k (d+1) else r.find k (d+1)
def Srt(l:List Pr):Prop:=l.Pairwise λa b=>jVq a.1 b.1=true
def withL(l:List Pr)(k:Dig)(v:List UInt8):List Pr:=l.filter (λp=>jVq p.1 k)++(k,v)::l.filter (λp=>jVq k p.1)
def withoutL(l:List Pr)(k:Dig):List Pr:=l.filter λp=>decide (p.1≠k)
def uvq(l:List Pr)(k:Dig):Option (List UInt8):=(l.find? λp=>decide (p.1=k)).map (·.2)
theorem srt_uniq{l:List Pr}(h:Srt l){p q:Pr}(hp:p∈l)(hq:q∈l)(e:p.1=q.1):p=q:=by
 induction l with
 |nil=>simp at hp
 |cons x l ih=>
  have h:=List.pairwise_cons.1 h;simp only[List.mem_cons] at hp hq;rcases hp with rfl|hp<;>rcases hq with rfl|hq
  ·rfl
  ·exact absurd e (uHq (h.1 q hq))
  ·exact absurd e.symm (uHq (h.1 p hp))
  ·exact ih h.2 hp hq
theorem findL_some{l:List Pr}(h:Srt l){k:Dig}{v:List UInt8}:uvq l k=some v↔(k,v)∈l:=by
 simp only[uvq,Option.map_eq_some_iff];constructor
 ·rintro⟨⟨k',v'⟩,h1,rfl⟩;have h2:=List.find?_some h1;have:=List.mem_of_find?_eq_some h1;simp only[decide_eq_true_eq] at h2;subst h2;exact this
 ·intro hm;cases hf:l.find? λp=>decide (p.1=k) with
  |none=>
   have:=List.find?_eq_none.1 hf _ hm;simp at this
  |some p=>
   have h2:=List.find?_some hf;have h3:=List.mem_of_find?_eq_some hf;simp only[decide_eq_true_eq] at h2;have:=srt_uniq h h3 hm h2;exact⟨p,rfl,by rw[this]⟩
theorem mem_withL{l:List Pr}{k:Dig}{v:List UInt8}{p:Pr}:p∈withL l k v↔p=(k,v)\/(p∈l/\p.1≠k):=by
 simp only[withL,List.mem_append,List.mem_filter,List.mem_cons];constructor
 ·rintro(⟨h1,h2⟩|rfl|⟨h1,h2⟩)
  ·exact .inr ⟨h1,uHq h2⟩
  ·exact .inl rfl
  ·exact .inr ⟨h1,λe=>uHq h2 e.symm⟩
 ·rintro(rfl|⟨h1,h2⟩)
  ·exact .inr (.inl rfl)
  ·rcases ahead_total h2 with h|h
   ·exact .inl ⟨h1,h⟩
   ·exact .inr (.inr ⟨h1,h⟩)
def Zr(d:Nat)(b:Dig):Prop:=∀j,d<=j->j<256->bitN b j=0
theorem kUq{d:Nat}{b:Dig}(h:Zr d b):Zr (d+1) b:=λj h1 h2=>h j Xd h2
theorem kTq{d:Nat}{b:Dig}(h:Zr d b)(hd:d<256):Zr (d+1) (qlq b d):=λj h1 h2=>by rw[ZMq b d j hd h2 Xd];exact h j Xd h2
theorem YBq:Zr 0 z5q:=λj _ hj=>by
 unfold bitN
 have:kn z5q (j/8)=0:=by
  unfold kn z5q;simp only[List.getElem?_replicate];split<;>rfl
 rw[this];simp
theorem turn_pre{b:Dig}{d:Nat}(hd:d<256){j:Nat}(hj:j<d):bitN (qlq b d) j=bitN b j:=ZMq b d j hd Xd Xd
theorem side_l{b k:Dig}{d:Nat}(hz:Zr d b)(hd:d<256)(h:d+1<=yhq k b):d<=yhq k b/\bitN k d=0:=
 ⟨by omega,by rw[(k0q Xd).1 h d Xd];exact hz d (Nat.le_refl _) hd⟩
theorem side_r{b k:Dig}{d:Nat}(hz:Zr d b)(hd:d<256)(h:d+1<=yhq k (qlq b d)):d<=yhq k b/\bitN k d=1:=by
 have h1:=(k0q Xd).1 h;refine⟨(k0q Xd).2 λj hj=>?_,?_⟩
 ·rw[h1 j Xd,turn_pre hd hj]
 ·rw[h1 d Xd,bit_turn_eq b d hd,hz d (Nat.le_refl _) hd]
theorem ok_fork{d:Nat}{b:Dig}{l r:T}:T.ok d b (.fork l r)=true↔d<256/\T.ok (d+1) b l=true/\T.ok (d+1) (qlq b d) r=true/\T.two l r=true:=by
 simp only[T.ok,Bool.and_eq_true,decide_eq_true_eq,and_assoc]
theorem u1q:∀{t:T} {d:Nat} {b:Dig},Zr d b->t.ok d b=true->∀p∈t.all,d<=yhq p.1 b
 |.nil,_,_,_,_,p,hp=>by simp[T.all] at hp
 |.leaf k v,d,b,_,h,p,hp=>by
  simp only[T.all,List.mem_singleton] at hp;subst hp;exact of_decide_eq_true h
 |.fork l r,d,b,hz,h,p,hp=>by
  obtain⟨hd,h1,h2,_⟩:=ok_fork.1 h;simp only[T.all,List.mem_append] at hp;rcases hp with hp|hp
  ·exact(side_l hz hd (u1q (kUq hz) h1 p hp)).1
  ·exact(side_r hz hd (u1q (kTq hz hd) h2 p hp)).1
theorem ok_bits{l r:T}{d:Nat}{b:Dig}(hz:Zr d b)(h:(T.fork l r).ok d b=true):(∀p∈l.all,bitN p.1 d=0)/\∀p∈r.all,bitN p.1 d=1:=by
 obtain⟨hd,h1,h2,_⟩:=ok_fork.1 h;exact⟨λp hp=>(side_l hz hd (u1q (kUq hz) h1 p hp)).2,λp hp=>(side_r hz hd (u1q (kTq hz hd) h2 p hp)).2⟩
theorem ahead_of{a b c:Dig}{d:Nat}(hd:d<256)(ha:d<=yhq a c)(hb:d<=yhq b c)(h0:bitN a d=0)(h1:bitN b d=1):jVq a b=true:=
 ahead_iff.2 ⟨d,hd,λj hj=>by rw[(k0q Xd).1 ha j hj,(k0q Xd).1 hb j hj],h0,h1⟩
theorem ok_srt:∀{t:T} {d:Nat} {b:Dig},Zr d b->t.ok d b=true->Srt t.all
 |.nil,_,_,_,_=>List.Pairwise.nil
 |.leaf k v,_,_,_,_=>List.pairwise_singleton _ _
 |.fork l r,d,b,hz,h=>by
  obtain⟨hd,h1,h2,_⟩:=ok_fork.1 h;refine List.pairwise_append.2 ⟨ok_srt (kUq hz) h1,ok_srt (kTq hz hd) h2,λp hp q hq=>?_⟩;have a1:=side_l hz hd (u1q (kUq hz) h1 p hp);have a2:=side_r hz hd (u1q (kTq hz hd) h2 q hq);exact ahead_of hd a1.1 a2.1 a1.2 a2.2
theorem uuq(k:Dig):∀{t:T} {d:Nat} {b:Dig},Zr d b->t.ok d b=true->t.find k d=uvq t.all k
 |.nil,_,_,_,_=>rfl
 |.leaf k' v,_,_,_,_=>by
  simp only[T.find,T.all,uvq,List.find?_cons,List.find?_nil];by_cases e:k'=k<;>simp[e]
 |.fork l r,d,b,hz,h=>by
  obtain⟨hd,h1,h2,_⟩:=ok_fork.1 h;obtain⟨k1,k2⟩:=ok_bits hz h;have i1:=uuq k (kUq hz) h1;have i2:=uuq k (kTq hz hd) h2;simp only[T.find,T.all,uvq,List.find?_append];simp only[uvq] at i1 i2;split
  ·rename_i hb
   have:r.all.find? (λp=>decide (p.1=k))=none:=List.find?_eq_none.2 λp hp e=>by
    have:=k2 p hp;rw[of_decide_eq_true e] at this;omega
   rw[this,Option.or_none,i1]
  ·rename_i hb
   have:l.all.find? (λp=>decide (p.1=k))=none:=List.find?_eq_none.2 λp hp e=>by
    have:=k1 p hp;rw[of_decide_eq_true e] at this;omega
   rw[this,Option.none_or,i2]
section
open Go.RowKit
section
attribute [local irreducible] CoW OpW FlW Step Spec
variable {G:Nat->Option W}
noncomputable def pW(x:Pr):W:=.agg 33 [dW x.1,bW x.2]
@[simp] theorem pW_pur(x:Pr):purW (pW x)=true:=by simp[pW]
structure Node where
 leaf:Bool
 key:Dig
 val:List UInt8
 left:Int
 right:Int
noncomputable def nW(x:Node):W:=.agg 36 [.bool x.leaf,dW x.key,bW x.val,.int .i64 x.left,.int .i64 x.right]
@[simp] theorem nW_pur(x:Node):purW (nW x)=true:=by simp[nW]
theorem tbit_s(k:Dig)(d:Nat)(h:d<256):PS cfg G 273 [dW k,.int .i64 (d:Int)] (.int .u8 (bitN k d:Nat)):=by
 refine gI 10 Y (λR k0=>gC 0 Y (bit_in _ _ Xd) ?_);first|exact gQa 14 Y|(exfalso;omega)
theorem ksq(x:Node):PS cfg G 191 [nW x] (.arr 2 1 [.int .i64 x.left,.int .i64 x.right]):=by
 refine gI 17 Y (λR k0=>?_);first|exact gQa 0 Y|(exfalso;omega)
def valB(l:List UInt8):Bool:=decide (0<l.length)&&decide (l.length<=64)
theorem value_s(l:List UInt8)(f:Bool):PS cfg G 193 [.fz (zbq l) 1 f] (.bool (valB l)):=by
 have e:=zdq l;refine gI 8 Y (λR k0=>gV (w':=.int .i64 (l.length:Int)) 0 Y Xw ?_);refine gD 0 Y (λh1=>?_) (λh1=>?_)
 ·refine gV (w':=.int .i64 (l.length:Int)) 2 Y Xw (gU 0 Y (zfq 5 Y ?_));have h0:0<l.length:=by omega
  exact gQ 0 Y (by unfold valB;congr 1;rw[decide_eq_true h0,Bool.true_and,decide_eq_decide];omega)
 ·refine zfq 9 Y ?_;have h0:¬0<l.length:=by omega
  exact gQ 0 Y (by unfold valB;rw[decide_eq_false h0];rfl)
def okAt(ps:List Pr)(i:Nat):Prop:=∀x,ps[i]? =some x->valB x.2=true/\∀y,0<i->ps[i-1]? =some y->jVq y.1 x.1=true
def MayP(ps:List Pr):Prop:=ps.length<=512/\∀i,i<ps.length->okAt ps i
noncomputable instance(ps:List Pr):Decidable (MayP ps):=Classical.propDecidable _
theorem jhq(ps:List Pr):purL (ps.map pW)=true:=qqq pW_pur ps
@[simp] theorem psW_pur'(ps:List Pr):purL (ps.map pW)=true:=jhq ps
theorem pcheck_s(ps:List Pr)(f:Bool)(hb:ps.length<=9223372036854775807):PS cfg G 102 [.fz (ps.map pW) 33 f] (.int .i64 (if MayP ps then 0 else 8)):=by
 have e:(ps.map pW).length=ps.length:=List.length_map _;refine gI 9 Y (λR k0=>gV (w':=.int .i64 (ps.length:Int)) 0 Y Xw ?_);refine gS 3 Y (λh1=>?_) (λh1=>?_)
 ·exact gQ 7 Y (by rw[if_neg λh:MayP ps=>by have:=h.1;omega])
 ·refine gV (w':=.int .i64 (ps.length:Int)) 6 Y Xw ?_;refine gLo (α:=Nat) 4 (λi=>i<=ps.length/\∀j,j<i->okAt ps j) (λi=>[(10,.int .i64 (i:Int))]) [0,2,8,9] (λi=>ps.length-i) (0) rfl (⟨Nat.zero_le _,λj hj=>by omega⟩) (λi hI=>?_);obtain⟨hi,hI⟩:=hI;refine gS 6 Y (λh2=>?_) (λh2=>?_)
  ·have hi':i<ps.length:=by omega
   obtain⟨x,hx⟩:∃x,ps[i]? =some x:=⟨_,List.getElem?_eq_getElem hi'⟩
   refine gP 7 Y (zAq (i:=i) Y Y Y Y Y Y Y (zzq pW hx)) (gC 10 Y (value_s _ _) ?_);refine gB 0 Y (λh3=>?_) (λh3=>?_)
   ·refine gD 3 Y (λh4=>?_) (λh4=>?_)
    ·refine gA 3 Y (i-1) ?_;refine gP 0 Y (zAq (i:=i-1) Y Y Y Y Y Y Y (zzq pW (List.getElem?_eq_getElem Xd))) ?_;refine gC 4 Y (ahead_s _ _) ?_;refine gS 5 Y (λh5=>?_) (λh5=>?_)
     ·refine gO 8 Y (zfq 2 Y ?_)
      have no:¬MayP ps:=λh=>by
       have:=(h.2 i hi' x hx).2 _ Xd (List.getElem?_eq_getElem Xd);rw[this] at h5;simp at h5
      exact gQ 0 Y (by rw[if_neg no])
     ·have ok:okAt ps i:=λx' hx'=>by
       obtain rfl:=Option.some.inj (hx.symm.trans hx');refine⟨h3,λy h0 hy=>?_⟩;obtain rfl:=Option.some.inj ((List.getElem?_eq_getElem (show i-1<ps.length by omega)).symm.trans hy);simpa using h5
      refine gA 4 Y (i+1) ?_;exact gAg 2 Y (i+1) (⟨hi',λj hj=>by rcases Nat.lt_succ_iff_lt_or_eq.1 hj with h|rfl<;>first|exact hI j h|exact ok⟩) Xd
    ·have ok:okAt ps i:=λx' hx'=>by
      obtain rfl:=Option.some.inj (hx.symm.trans hx');exact⟨h3,λy h0 hy=>by omega⟩
     refine gA 20 Y (i+1) ?_;exact gAg 2 Y (i+1) (⟨hi',λj hj=>by rcases Nat.lt_succ_iff_lt_or_eq.1 hj with h|rfl<;>first|exact hI j h|exact ok⟩) Xd
   ·exact gO 28 Y (gQ 2 Y (by rw[if_neg λh:MayP ps=>h3 (h.2 i hi' x hx).1]))
  ·refine gO 2 Y (zfq 8 Y ?_);have yes:MayP ps:=⟨by omega,λj hj=>hI j Xd⟩;exact gQ 0 Y Qj
def oneB(x:Node)(n:Nat):Prop:=if x.leaf then x.left=0/\x.right=0/\MayP [(x.key,x.val)] else(0<=x.left/\x.left<=n)/\(0<=x.right/\x.right<=n)/\x.key=z5q/\x.val=[]/\0<x.left+x.right
noncomputable instance(x:Node)(n:Nat):Decidable (oneB x n):=Classical.propDecidable _
theorem one_s(x:Node)(n:Nat)(hn:n<=4611686018427387903):PS cfg G 195 [nW x,.int .i64 (n:Int)] (.bool (decide (oneB x n))):=by
 refine gI 13 Y (λR k0=>?_);refine gS 0 Y (λh1=>?_) (λh1=>?_)
 ·refine gD 4 Y (λh2=>?_) (λh2=>?_)
  ·refine gD 3 Y (λh3=>?_) (λh3=>?_)
   ·refine zfq 8 Y ?_;refine ZYq Y Y Y Y Y (by(repeat (first|exact .nil|refine .cons ?_ ?_|(refine .sl Y ?_ rfl Xi;first|rfl|(focus (simp;done)))|(refine yKq Y ?_ rfl;first|rfl|(focus (simp;done)))|(refine .pur ?_;first|rfl|(focus (simp;done)))))) (pcheck_s [(x.key,x.val)] false Xk) Xj Xj ?_;refine op_cz Y Y ?_;refine zJq 6 Y ?_;refine gQ 0 Y ?_;congr 1
    rw[decide_eq_decide,oneB,if_pos h1];split
    ·rename_i h;exact⟨λ_=>⟨h2,h3,h⟩,λ_=>rfl⟩
    ·rename_i h;exact⟨λh=>by omega,λq=>absurd q.2.2 h⟩
   ·exact gQ 16 Y (by rw[decide_eq_false];intro h;rw[oneB,if_pos h1] at h;exact h3 h.2.1)
  ·exact gQ 20 Y (by rw[decide_eq_false];intro h;rw[oneB,if_pos h1] at h;exact h2 h.1)
 ·refine gC 6 Y (ksq _) ?_;refine gLo (α:=Nat) 4 (λi=>i<=2/\(0<i->0<=x.left/\x.left<=n)/\(1<i->0<=x.right/\x.right<=n)) (λi=>[(29,.int .i64 (i:Int))]) [1,2,4,28] (λi=>2-i) (0) rfl (⟨by omega,by omega,by omega⟩) (λi hI=>?_);obtain⟨hi,hl,hr⟩:=hI;refine gS 6 Y (λh2=>?_) (λh2=>?_)
  ·have hi':i=0\/i=1:=by omega
   rcases hi' with rfl|rfl
   ·skip
    refine gD 13 Y (λh3=>?_) (λh3=>?_)
    ·refine gO 16 Y ?_;exact gQ 2 Y Ym
    ·refine gU 3 Y ?_;refine gS 3 Y (λh4=>?_) (λh4=>?_)
     ·refine gO 8 Y ?_;exact gQ 2 Y Ym
     ·refine gA 4 Y (1) ?_;exact gAg 2 Y (1) (⟨by omega,by omega,by omega⟩) Xd
   ·refine gD 13 Y (λh3=>?_) (λh3=>?_)
    ·refine gO 16 Y ?_;exact gQ 2 Y Ym
    ·refine gU 3 Y ?_;refine gS 3 Y (λh4=>?_) (λh4=>?_)
     ·refine gO 8 Y ?_;exact gQ 2 Y Ym
     ·refine gA 4 Y (2) ?_;exact gAg 2 Y (2) (⟨by omega,by omega,by omega⟩) Xd
  ·have e:=zdq x.val;have hl:=hl Xd;have hr:=hr Xd;have key:oneB x n↔(x.key=z5q/\x.val=[]/\0<x.left+x.right):=by rw[oneB,if_neg h1];exact⟨λh=>h.2.2,λh=>⟨hl,hr,h⟩⟩
   rw[show decide (oneB x n)=decide (x.key=z5q/\x.val=[]/\0<x.left+x.right) from decide_eq_decide.2 key];refine gO 2 Y ?_;refine gV 6 Y kHq ?_;refine gDe 0 Y (y2q Y Y Y Y (qfq Y Y Y Y Y Y _ _ 250)) yvq (λh3=>?_) (λh3=>?_)
   ·refine gV (w':=.int .i64 (x.val.length:Int)) 3 Y Xw ?_;refine gD 0 Y (λh4=>?_) (λh4=>?_)
    ·have hv:x.val=[]:=List.eq_nil_of_length_eq_zero Xd;refine gWr 6 Y ?_;refine gU 0 Y ?_;refine gQ 5 Y ?_;congr 1
     rw[decide_eq_decide];exact⟨λh=>⟨h3,hv,h⟩,λh=>h.2.2⟩
    ·have hv:x.val≠[]:=λh=>h4 (by rw[h];rfl)
     exact gQ 13 Y (by rw[decide_eq_false λh=>hv h.2.1])
   ·exact gQ 18 Y (by rw[decide_eq_false λh=>h3 h.1])
inductive Rep(ns:List Node):Nat->T->Prop where
 |nil:Rep ns 0 .nil
 |leaf {n:Nat} {k:Dig} {v:List UInt8} {l r:Int} (h:ns[n]? =some ⟨true,k,v,l,r⟩):Rep ns (n+1) (.leaf k v)
 |fork {n l r:Nat} {k:Dig} {v:List UInt8} {L R:T} (h:ns[n]? =some ⟨false,k,v,l,r⟩) (hl:l<=n) (hr:r<=n) (hL:Rep ns l L) (hR:Rep ns r R):Rep ns (n+1) (.fork L R)
theorem Rep.le{ns:List Node}{n:Nat}{t:T}(h:Rep ns n t):n<=ns.length:=by
 cases h with
 |nil=>exact Nat.zero_le _
 |leaf h=>exact(List.getElem?_eq_some_iff.1 h).1
 |fork h=>exact(List.getElem?_eq_some_iff.1 h).1
theorem Rep.non{ns:List Node}{n:Nat}{t:T}(h:Rep ns n t):t.non=decide (0<n):=by cases h<;>simp[T.non]
structure Tree where
 nodes:List Node
 root:Int
noncomputable def tW(t:Tree):W:=.agg 2 [.fz (t.nodes.map nW) 36 false,.int .i64 t.root]
theorem nsW_pur(ns:List Node):purL (ns.map nW)=true:=qqq nW_pur ns
@[simp] theorem tW_pur(t:Tree):purW (tW t)=true:=by simp[tW,nsW_pur]
def nnI(t:T):Int:=if t.non then 1 else 0
theorem right_s(t0:Tree)(hb:t0.nodes.length<=4611686018427387903):∀(t:T) (n d:Nat) (b:Dig),Rep t0.nodes n t->d<=256->PS cfg G 244 [tW t0,.int .i64 (n:Int),.int .i64 (d:Int),dW b] (.tup [.bool (t.ok d b),.bool (t.ok d b&&t.isFork)]):=by
 intro t;induction t with
 |nil=>
  intro n d b hr hd;obtain rfl:n=0:=by cases hr;rfl
  refine gI 15 Y (λR k0=>?_);refine gS 0 Y (λh1=>?_) (λh1=>?_)
  ·exact gQa 8 Y
  ·exfalso;omega
 |leaf k v=>
  intro n d b hr hd;have hle:=hr.le;cases hr with
  |leaf h=>
  rename_i n l r;refine gI 15 Y (λR k0=>?_);refine gS 0 Y (λh1=>?_) (λh1=>?_)
  ·exfalso;omega
  ·refine gA 7 Y (n) ?_;refine gP 0 Y (zAq (i:=n) Y Y Y Y Y Y Y (zzq nW h)) ?_;refine gC 18 Y (shared_s _ _) ?_;refine gU 1 Y ?_;refine gQ 6 Y ?_;simp only[T.ok,T.isFork,Bool.and_false];congr 3
   rw[decide_eq_decide];omega
 | fork tl tr ihL ihR=>
  intro n d b hr hd;have hle:=hr.le;cases hr with
  |fork h hl hr hL hR=>
  rename_i n l r k v;refine gI 15 Y (λR k0=>?_);refine gS 0 Y (λh1=>?_) (λh1=>?_)
  ·exfalso;omega
  ·refine gA 7 Y (n) ?_;refine gP 0 Y (zAq (i:=n) Y Y Y Y Y Y Y (zzq nW h)) ?_;refine gS 22 Y (λh2=>?_) (λh2=>?_)
   ·refine zfq 8 Y ?_;have e:T.ok d b (.fork tl tr)=false:=by simp only[T.ok];rw[decide_eq_false Xd];rfl
    rw[e];exact gQa 0 Y
   ·have hd':d<256:=by omega
    have nl:=hL.non;have nr:=hR.non;refine gC 6 Y (turn_in _ _ Xd) ?_;refine gV (w':=.arr 64 32 [dW b,dW (qlq b d)]) 18 Y Y ?_;refine gLo (α:=Nat×Int×Bool) 4 (λp=>(p.1=0/\p.2.1=0/\p.2.2=false)\/(p.1=1/\tl.ok (d+1) b=true/\p.2.1=nnI tl/\p.2.2=tl.isFork)\/(p.1=2/\tl.ok (d+1) b=true/\tr.ok (d+1) (qlq b d)=true/\p.2.1=nnI tl+nnI tr/\p.2.2=(tl.isFork||tr.isFork))) (λp=>[(46,.int .i64 (p.1:Int)),(13,.int .i64 p.2.1),(9,.bool p.2.2)]) [2,4,8,10,45] (λp=>2-p.1) ((0,0,false)) rfl (.inl ⟨rfl,rfl,rfl⟩) (λp hI=>?_);obtain⟨i,c,w⟩:=p;simp only at hI⊢;rcases hI with ⟨rfl,rfl,rfl⟩|⟨rfl,k1,rfl,rfl⟩|⟨rfl,k1,k2,rfl,rfl⟩
    ·skip
     skip
     refine gC 23 Y (ksq _) ?_;refine gA 10 Y (d+1) ?_;refine gC 1 Y (ihL _ (d+1) b hL Xd) ?_;refine gS 14 Y (λh3=>?_) (λh3=>?_)
     ·refine gO 10 Y ?_;refine zfq 2 Y ?_;have e:T.ok d b (.fork tl tr)=false:=by simp only[T.ok];rw[show tl.ok (d+1) b=false by simpa using h3];simp
      rw[e];exact gQa 0 Y
     ·have hk:tl.ok (d+1) b=true:=by simpa using h3
      refine gS 9 Y (λh4=>?_) (λh4=>?_)
      ·have hn:nnI tl=1:=by have h4:(0:Int)<l:=h4;unfold nnI;rw[nl,if_pos (decide_eq_true Xd)]
       refine gWr 2 Y ?_;refine gA 13 Y (1) ?_;exact gAg 2 Y ((1,1,tl.ok (d+1) b&&tl.isFork)) (.inr (.inl ⟨rfl,hk,hn.symm,by rw[hk];rfl⟩)) Xk
      ·have hn:nnI tl=0:=by have h4:¬(0:Int)<l:=h4;unfold nnI;rw[nl,if_neg Xp]
       refine gA 12 Y (1) ?_;exact gAg 2 Y ((1,0,tl.ok (d+1) b&&tl.isFork)) (.inr (.inl ⟨rfl,hk,hn.symm,by rw[hk];rfl⟩)) Xk
    ·skip
     have bd:nnI tl=0\/nnI tl=1:=by unfold nnI;split<;>simp
     cases hf:tl.isFork with
     |true=>
      skip
      refine z2q 23 Y ?_;refine gC 0 Y (ksq _) ?_;refine gA 10 Y (d+1) ?_;refine gC 1 Y (ihR _ (d+1) (qlq b d) hR Xd) ?_;refine gS 14 Y (λh3=>?_) (λh3=>?_)
      ·refine gO 10 Y ?_;refine zfq 2 Y ?_;have e:T.ok d b (.fork tl tr)=false:=by simp only[T.ok];rw[show tr.ok (d+1) (qlq b d)=false by simpa using h3];simp
       rw[e];exact gQa 0 Y
      ·have hk:tr.ok (d+1) (qlq b d)=true:=by simpa using h3
       refine gS 9 Y (λh4=>?_) (λh4=>?_)
       ·have hn:nnI tr=1:=by have h4:(0:Int)<r:=h4;unfold nnI;rw[nr,if_pos (decide_eq_true Xd)]
        refine gWr 2 Y ?_;refine gA 13 Y (2) ?_;exact gAg 2 Y ((2,nnI tl+1,true)) (.inr (.inr ⟨rfl,k1,hk,by simp only[hn],rfl⟩)) Xk
       ·have hn:nnI tr=0:=by have h4:¬(0:Int)<r:=h4;unfold nnI;rw[nr,if_neg Xp]
        refine gA 12 Y (2) ?_;exact gAg 2 Y ((2,nnI tl,true)) (.inr (.inr ⟨rfl,k1,hk,by simp only[hn,Int.add_zero],rfl⟩)) Xk
     |false=>
      skip
      refine z2q 23 Y ?_;refine gC 0 Y (ksq _) ?_;refine gA 10 Y (d+1) ?_;refine gC 1 Y (ihR _ (d+1) (qlq b d) hR Xd) ?_;refine gS 14 Y (λh3=>?_) (λh3=>?_)
      ·refine gO 10 Y ?_;refine zfq 2 Y ?_;have e:T.ok d b (.fork tl tr)=false:=by simp only[T.ok];rw[show tr.ok (d+1) (qlq b d)=false by simpa using h3];simp
       rw[e];exact gQa 0 Y
      ·have hk:tr.ok (d+1) (qlq b d)=true:=by simpa using h3
       refine gS 9 Y (λh4=>?_) (λh4=>?_)
       ·have hn:nnI tr=1:=by have h4:(0:Int)<r:=h4;unfold nnI;rw[nr,if_pos (decide_eq_true Xd)]
        refine gWr 2 Y ?_;refine gA 13 Y (2) ?_;exact gAg 2 Y ((2,nnI tl+1,tr.ok (d+1) (qlq b d)&&tr.isFork)) (.inr (.inr ⟨rfl,k1,hk,by simp only[hn],by simp[hk]⟩)) Xk
       ·have hn:nnI tr=0:=by have h4:¬(0:Int)<r:=h4;unfold nnI;rw[nr,if_neg Xp]
        refine gA 12 Y (2) ?_;exact gAg 2 Y ((2,nnI tl,tr.ok (d+1) (qlq b d)&&tr.isFork)) (.inr (.inr ⟨rfl,k1,hk,by simp only[hn,Int.add_zero],by simp[hk]⟩)) Xk
    ·have e:T.ok d b (.fork tl tr)=T.two tl tr:=by simp only[T.ok];rw[decide_eq_true hd',k1,k2];rfl
     have e2:(T.fork tl tr).isFork=true:=rfl;rw[e,e2,Bool.and_true]
     have e3:T.two tl tr=((tl.isFork||tr.isFork)||decide (nnI tl+nnI tr=2)):=by
      unfold T.two nnI;congr 1
      cases tl.non<;>cases tr.non<;>rfl
     rw[e3];cases hw:(tl.isFork||tr.isFork) with
     |true=>
      skip
      refine z2q 9 Y ?_;refine gO 0 Y ?_;exact gQa 21 Y
     |false=>
      skip
      refine z2q 9 Y ?_;refine gO 0 Y ?_;refine gU 7 Y ?_;exact gQ 13 Y Xk
end
theorem fit_node{w:W}(h:Fit (.st 36 [.bool,.arr 32 1 (.int .u8),.sl 1 1 (.int .u8),.int .i64,.int .i64]) w):∃x:Node,w=nW x/\x.val.length<=140737488351232:=by
 obtain⟨l,rfl,w1,l1,rfl,h1,w2,l2,rfl,h2,w3,l3,rfl,h3,w4,l4,rfl,h4,w5,l5,rfl,h5,rfl⟩:=h;obtain⟨b,rfl⟩:=fit_bool h1;obtain⟨k,rfl⟩:=jFq h2;obtain⟨v,rfl,hv⟩:=fit_bW h3;obtain⟨i,rfl,_⟩:=qeq h4;obtain⟨j,rfl,_⟩:=qeq h5;exact⟨⟨b,k,v,i,j⟩,rfl,by simpa using hv⟩
theorem fit_tree{w:W}(h:Fit (.st 2 [.sl 36 80 (.st 36 [.bool,.arr 32 1 (.int .u8),.sl 1 1 (.int .u8),.int .i64,.int .i64]),.int .i64]) w):∃t:Tree,w=tW t/\t.nodes.length*80<=140737488351232/\(∀x∈t.nodes,x.val.length<=140737488351232)/\t.root<=9223372036854775807:=by
 obtain⟨l,rfl,w1,l1,rfl,h1,w2,l2,rfl,h2,rfl⟩:=h;obtain⟨ns,rfl,hl,hn⟩:=fit_sl h1 λx hx=>fit_node hx
 obtain⟨r,rfl,_,hr⟩:=qeq h2;exact⟨⟨ns,r⟩,rfl,hl,hn,hr⟩
section
attribute [local irreducible] CoW OpW FlW Step Spec
variable {G:Nat->Option W}
def okN(ns:List Node):Prop:=∀i x,ns[i]? =some x->oneB x i
theorem rep_of{ns:List Node}(h:okN ns):∀n,n<=ns.length->∃t,Rep ns n t:=by
 intro n;induction n using Nat.strongRecOn with
 |_ n ih=>
  intro hn;cases n with
  |zero=>exact⟨_,.nil⟩
  |succ n=>
   obtain⟨x,hx⟩:∃x,ns[n]? =some x:=⟨_,List.getElem?_eq_getElem hn⟩
   have h1:=h n x hx;obtain⟨lf,k,v,l,r⟩:=x;cases lf with
   |true=>exact⟨_,.leaf hx⟩
   |false=>
    simp only[oneB,Bool.false_eq_true,if_false] at h1;obtain⟨⟨a1,a2⟩,⟨b1,b2⟩,_⟩:=h1;obtain⟨l,rfl⟩:=Int.eq_ofNat_of_zero_le a1;obtain⟨r,rfl⟩:=Int.eq_ofNat_of_zero_le b1;obtain⟨L,hL⟩:=ih l Xd Xd;obtain⟨R,hR⟩:=ih r Xd Xd;exact⟨_,.fork hx Xd Xd hL hR⟩
theorem Rep.uniq{ns:List Node}{n:Nat}{t:T}(h:Rep ns n t):∀{t':T},Rep ns n t'->t=t':=by
 induction h with
 |nil=>intro t' h';cases h';rfl
 |leaf h=>
  intro t' h';cases h' with
  |leaf h2=>rw[h] at h2;cases h2;rfl
  |fork h2=>rw[h] at h2;cases h2
 |fork h hl hr _ _ i1 i2=>
  intro t' h';cases h' with
  |leaf h2=>rw[h] at h2;cases h2
  |fork h2 _ _ hL hR=>
   rw[h] at h2;simp only[Option.some.injEq,Node.mk.injEq,Int.natCast_inj,true_and] at h2;obtain⟨_,_,rfl,rfl⟩:=h2;rw[i1 hL,i2 hR]
def MayT(t:Tree):Prop:=t.nodes.length<=262144/\okN t.nodes/\∃(n:Nat) (t0:T),t.root=n/\Rep t.nodes n t0/\t0.ok 0 z5q=true
noncomputable instance(t:Tree):Decidable (MayT t):=Classical.propDecidable _
theorem kmq(t:Tree)(hb:t.nodes.length<=4611686018427387903):PS cfg G 172 [tW t] (.int .i64 (if MayT t then 0 else 8)):=by
 have e:(t.nodes.map nW).length=t.nodes.length:=List.length_map _;have no:∀{R:Res} {k0:Nat},¬MayT t->W.int .i64 8=W.int .i64 (if MayT t then 0 else 8):=λh=>by rw[if_neg h]
 refine gI 11 Y (λR k0=>gV (w':=.int .i64 (t.nodes.length:Int)) 0 Y Xw ?_);refine gD 0 Y (λh1=>?_) (λh1=>?_)
 ·have hno:¬MayT t:=λh=>by have:=h.1;omega
  exact gQ 23 Y Ye
 refine gD 3 Y (λh2=>?_) (λh2=>?_)
 ·have hno:¬MayT t:=λh=>by obtain⟨_,_,n,_,h,_⟩:=h;have h2:t.root<0:=h2;omega
  exact gQ 19 Y Ye
 refine gV (w':=.int .i64 (t.nodes.length:Int)) 6 Y Xw (gU 0 Y ?_);refine gS 3 Y (λh3=>?_) (λh3=>?_)
 ·have hno:¬MayT t:=λh=>by obtain⟨_,_,n,_,h,hr,_⟩:=h;have h3:(t.nodes.length:Int)<t.root:=h3;have:=hr.le;omega
  exact gQ 7 Y Ye
 have h2:¬t.root<0:=h2;have h3:¬(t.nodes.length:Int)<t.root:=h3;obtain⟨n0,hn0⟩:=Int.eq_ofNat_of_zero_le (show 0<=t.root by omega);refine gV (w':=.int .i64 (t.nodes.length:Int)) 7 Y Xw ?_;refine gLo (α:=Nat) 4 (λi=>i<=t.nodes.length/\∀j x,j<i->t.nodes[j]? =some x->oneB x j) (λi=>[(27,.int .i64 (i:Int))]) [1,2,25,26] (λi=>t.nodes.length-i) (0) rfl (⟨Nat.zero_le _,λj x hj=>by omega⟩) (λi hI=>?_);obtain⟨hi,hI⟩:=hI;refine gS 6 Y (λh4=>?_) (λh4=>?_)
 ·have hi':i<t.nodes.length:=by omega
  obtain⟨x,hx⟩:∃x,t.nodes[i]? =some x:=⟨_,List.getElem?_eq_getElem hi'⟩
  refine gP 7 Y (zAq (i:=i) Y Y Y Y Y Y Y (zzq nW hx)) (gC 10 Y (one_s _ _ Xd) ?_);refine gS 3 Y (λh5=>?_) (λh5=>?_)
  ·have hno:¬MayT t:=λh=>by have:=h.2.1 i x hx;simp[this] at h5
   exact gO 8 Y (gQ 2 Y Ye)
  ·have h5:oneB x i:=by simpa using h5
   exact gA 4 Y (i+1) (gAg 2 Y (i+1) (⟨hi',λj y hj hy=>by rcases Nat.lt_succ_iff_lt_or_eq.1 hj with h|rfl;exact hI j y h hy;exact(Option.some.inj (hx.symm.trans hy))▸h5⟩) Xd)
 ·have okn:okN t.nodes:=λj x hx=>hI j x (by have:=(List.getElem?_eq_some_iff.1 hx).1;omega) hx
  obtain⟨t0,ht0⟩:=rep_of okn n0 Xd
  have key:MayT t↔t0.ok 0 z5q=true:=by
   constructor
   ·rintro⟨_,_,n,t1,hn,hr,hk⟩;obtain rfl:n=n0:=by omega
    rw[ht0.uniq hr];exact hk
   ·exact λh=>⟨by omega,okn,n0,t0,hn0,ht0,h⟩
  refine gO 2 Y (gV 8 Y kHq (op_ps Y Y Y Y Y (by rw[hn0];rfl) (right_s t Xd t0 n0 0 z5q ht0 Xd) Xk Xk (zJq 13 Y ?_)));refine gS 0 Y (λh5=>?_) (λh5=>?_)
  ·have hno:¬MayT t:=λh=>by have:=key.1 h;simp[this] at h5
   exact gQ 7 Y Ye
  ·have yes:MayT t:=key.2 (by simpa using h5);exact gQ 8 Y Qj
inductive FTo(ns:List Node)(k:Dig):Nat->Nat->Nat->Prop where
 |nil {d:Nat}:FTo ns k 0 d 0
 |hit {n d:Nat} {v:List UInt8} {l r:Int} (h:ns[n]? =some ⟨true,k,v,l,r⟩):FTo ns k (n+1) d (n+1)
 |miss {n d:Nat} {k':Dig} {v:List UInt8} {l r:Int} (h:ns[n]? =some ⟨true,k',v,l,r⟩) (hk:k'≠k):FTo ns k (n+1) d 0
 |go {n d l r m:Nat} {k':Dig} {v:List UInt8} (h:ns[n]? =some ⟨false,k',v,l,r⟩) (hd:d<256) (hg:FTo ns k (if bitN k d=0 then l else r) (d+1) m):FTo ns k (n+1) d m
theorem fto_of{ns:List Node}{k:Dig}{n:Nat}{t:T}(h:Rep ns n t):∀{d:Nat} {b:Dig},t.ok d b=true->∃m,FTo ns k n d m/\(t.find k d=none->m=0)/\∀v,t.find k d=some v->∃j l r,m=j+1/\ns[j]? =some ⟨true,k,v,l,r⟩:=by
 induction h with
 |nil=>exact λ_=>⟨0,.nil,λ_=>rfl,λv h=>by simp[T.find] at h⟩
 |leaf h=>
  rename_i n k' v l r;intro d b _;by_cases e:k'=k
  ·subst e;exact⟨n+1,.hit h,λhn=>by simp[T.find] at hn,λw hw=>by simp only[T.find,if_true,Option.some.injEq] at hw;subst hw;exact⟨n,l,r,rfl,h⟩⟩
  ·exact⟨0,.miss h e,λ_=>rfl,λw hw=>by simp[T.find,e] at hw⟩
 |fork h hl hr hL hR i1 i2=>
  intro d b hk;obtain⟨hd,k1,k2,_⟩:=ok_fork.1 hk;by_cases hb:bitN k d=0
  ·obtain⟨m,g1,g2,g3⟩:=i1 k1;exact⟨m,.go h hd (by rw[if_pos hb];exact g1),by simp only[T.find,if_pos hb];exact g2,by simp only[T.find,if_pos hb];exact g3⟩
  ·obtain⟨m,g1,g2,g3⟩:=i2 k2;exact⟨m,.go h hd (by rw[if_neg hb];exact g1),by simp only[T.find,if_neg hb];exact g2,by simp only[T.find,if_neg hb];exact g3⟩
theorem tbit_c(k:Dig)(d c:Nat)(h:d<256)(hc:bitN k d=c):PS cfg G 273 [dW k,.int .i64 (d:Int)] (.int .u8 (c:Int)):=hc▸tbit_s k d h
theorem tfind_s(t:Tree)(k:Dig)(n m:Nat)(hn:t.root=n)(hf:FTo t.nodes k n 0 m)(hb:t.nodes.length<=4611686018427387903):PS cfg G 281 [tW t,dW k] (.int .i64 (m:Int)):=by
 obtain⟨ns,root⟩:=t;simp only at hn hf hb;subst hn;refine gI 21 Y (λR k0=>?_);refine gLo (α:=Nat×Nat) 0 (λp=>FTo ns k p.1 p.2 m/\p.2<=256) (λp=>[(5,.int .i64 (p.1:Int)),(6,.int .i64 (p.2:Int))]) [2,3,4] (λp=>257-p.2) ((n,0)) rfl (⟨hf,by simp⟩) (λp hI=>?_);obtain⟨i,d⟩:=p;obtain⟨hf,hd⟩:=hI;simp only at hf hd⊢;refine gS 7 Y (λh1=>?_) (λh1=>?_)
 ·cases hf with
  |nil=>exfalso;omega
  |hit h=>
   skip
   rename_i i v l r;have hi:=(List.getElem?_eq_some_iff.1 h).1;refine yTq 9 Y (gA 0 Y (i) (gP 0 Y (zAq (i:=i) Y Y Y Y Y Y Y (zzq nW h)) (gUe 19 Y (y2q Y Y Y Y (qfq Y Y Y Y Y Y _ _ 250)) yvq ?_)));refine gS 2 Y (λh2=>?_) (λh2=>?_)
   ·refine gO 11 Y ?_;first|exact gQa 2 Y|(exfalso;omega)
   ·exfalso;exact h2 rfl
  |miss h hk=>
   rename_i i k' v l r;have hi:=(List.getElem?_eq_some_iff.1 h).1;refine yTq 9 Y (gA 0 Y (i) (gP 0 Y (zAq (i:=i) Y Y Y Y Y Y Y (zzq nW h)) (gUe 19 Y (y2q Y Y Y Y (qfq Y Y Y Y Y Y _ _ 250)) yvq ?_)));refine gS 2 Y (λh2=>?_) (λh2=>?_)
   ·exfalso;exact hk h2
   ·refine gO 11 Y ?_;first|exact gQa 2 Y|(exfalso;omega)
  |go h hd' hg=>
   rename_i i l r k' v;have hi:=(List.getElem?_eq_some_iff.1 h).1;have bl:=ZNq k d;rcases Nat.lt_or_ge 0 (bitN k d) with hb1|hb0
   ·skip
    have hc:bitN k d=1:=by omega
    rw[if_neg Xd] at hg;exact yTq 9 Y (gA 0 Y (i) (gP 0 Y (zAq (i:=i) Y Y Y Y Y Y Y (zzq nW h)) (gC 17 Y (ksq _) (gC 2 Y (tbit_c k d 1 hd' hc) (gA 7 Y (d+1) (gAg 2 Y ((r,d+1)) (⟨hg,hd'⟩) Ya))))))
   ·have hc:bitN k d=0:=by omega
    rw[if_pos hc] at hg;exact yTq 9 Y (gA 0 Y (i) (gP 0 Y (zAq (i:=i) Y Y Y Y Y Y Y (zzq nW h)) (gC 17 Y (ksq _) (gC 2 Y (tbit_c k d 0 hd' hc) (gA 7 Y (d+1) (gAg 2 Y ((l,d+1)) (⟨hg,hd'⟩) Ya))))))
 ·obtain rfl:i=0:=by omega
  cases hf;refine gO 2 Y ?_;first|exact gQa 8 Y|(exfalso;omega)
structure IsT(t:Tree)(n:Nat)(t0:T):Prop where
 len:t.nodes.length<=262144
 okn:okN t.nodes
 root:t.root=n
 rep:Rep t.nodes n t0
 ok:t0.ok 0 z5q=true
theorem IsT.may{t:Tree}{n:Nat}{t0:T}(h:IsT t n t0):MayT t:=⟨h.len,h.okn,n,t0,h.root,h.rep,h.ok⟩
theorem may_is{t:Tree}(h:MayT t):∃n t0,IsT t n t0:=by
 obtain⟨h1,h2,n,t0,h3,h4,h5⟩:=h;exact⟨n,t0,h1,h2,h3,h4,h5⟩
theorem u2q{ns:List Node}(h:okN ns){i:Nat}{k:Dig}{v:List UInt8}{l r:Int}(hx:ns[i]? =some ⟨true,k,v,l,r⟩):0<v.length/\v.length<=64:=by
 have h1:=h i _ hx;simp only[oneB,if_true] at h1;have h2:=(h1.2.2.2 0 Xk (k,v) rfl).1;simp only[valB,Bool.and_eq_true,decide_eq_true_eq] at h2;exact h2
noncomputable def getW':Option (List UInt8) ->W
 |none=>.tup [.nils,.bool false]
 |some v=>.tup [bW v,.bool true]
theorem tget_s(t:Tree)(n:Nat)(t0:T)(k:Dig)(h:IsT t n t0):PS cfg G 203 [tW t,dW k] (getW' (t0.find k 0)):=by
 have hl:=h.len;have hy:=h.may;obtain⟨m,f1,f2,f3⟩:=fto_of (k:=k) h.rep h.ok;cases hf:t0.find k 0 with
 |none=>
  obtain rfl:=f2 hf;refine gI 12 Y (λR k0=>?_);first|refine gC 0 Y (yfq (w':=.int .i64 0) (kmq t Xd) (by rw[if_pos hy])) ?_|refine gC 0 Y (kmq _ Xd) ?_
  exact gC 10 Y (tfind_s t k n _ h.root f1 Xd) (gQa 19 Y)
 |some v=>
  obtain⟨j,l,r,rfl,hx⟩:=f3 v hf;have hv:=u2q h.okn hx;have hj:=(List.getElem?_eq_some_iff.1 hx).1;refine gI 12 Y (λR k0=>?_);first|refine gC 0 Y (yfq (w':=.int .i64 0) (kmq t Xd) (by rw[if_pos hy])) ?_|refine gC 0 Y (kmq _ Xd) ?_
  refine gC 10 Y (tfind_s t k n _ h.root f1 Xd) ?_;refine gS 10 Y (λh1=>?_) (λh1=>?_)
  ·exfalso;omega
  ·exact gA 7 Y (j) (gP 0 Y (zAq (i:=j) Y Y Y Y Y Y Y (zzq nW hx)) (zfq 2 Y (jiq Y Y Y Y Y Y (ZCq v false Xd) (zJq 5 Y (gQa 0 Y)))))
theorem teach_s(t:Tree)(n:Int):PS cfg G 257 [tW t,.int .i64 n] (.fn 320 [] [.fel (.int .i64 n),.fel (tW t)]):=by
 refine gI 14 Y (λR k0=>?_);refine xdq (fr2:=[(4,_)]) Xm ?_ Y Y
 (repeat (first|exact trivial|refine And.symm ⟨?_,_,rfl,?_⟩))<;>(repeat (first|exact .nil|refine .cons ?_ ?_|refine .fn ?_ ?_|(refine yKq Y ?_ rfl;(first|rfl|(focus (simp;done))))|(refine .sl Y ?_ rfl Xi;(first|rfl|(focus (simp;done))))|(refine .pur ?_;(first|rfl|(focus (simp;done))))|refine .agg ?_|refine .arr ?_|refine .tup ?_))
noncomputable def enc1(p:Pr):List W:=[pW p]
theorem yl_same{L:Nat}{E:Res->Prop}{b:Bool}{R1:Res}{l:List (List W)}(h:match b with|true=>Yl cfg G L E [] R1|false=>E R1):E R1:=by cases b<;>exact h
def restL(tl tr:T):Nat->List Pr
 |0=>tl.all++tr.all
 |1=>tr.all
 |_=>[]
theorem xhq{α:Type}{l:List α}{i:Nat}{x:α}(h:l[i]? =some x):l.drop i=x::l.drop (i+1):=by
 obtain⟨hl,h2⟩:=List.getElem?_eq_some_iff.1 h;rw[List.drop_eq_getElem_cons hl,h2]
theorem teach_it(t:Tree)(hv:∀(i:Nat) (k:Dig) (v:List UInt8) (l r:Int),t.nodes[i]? =some (Node.mk true k v l r) ->v.length<=70368744177664)(hb:t.nodes.length<=4611686018427387903):∀(t0:T) (n:Nat),Rep t.nodes n t0->y7q cfg G 320 [.fel (.int .i64 (n:Int)),.fel (tW t)] (t0.all.map enc1):=by
 intro t0;induction t0 with
 |nil=>
  intro n hr;obtain rfl:n=0:=by cases hr;rfl
  refine k6q (fn:=Tryz.f320) Y Y Y (Yb rfl) (λL E R hy k0=>?_);exact z2q 15 Y (jTq Qn rfl hy)
 |leaf k v=>
  intro n hr;have hle:=hr.le;cases hr with
  |leaf h=>
  rename_i n l r;have hvl:=hv _ _ _ _ _ h;refine k6q (fn:=Tryz.f320) Y Y Y (Yb rfl) (λL E R hy k0=>?_);refine z2q 12 Y ?_;refine gS 0 Y (λh1=>?_) (λh1=>?_)
  ·exfalso;omega
  ·refine gA 7 Y (n) (gP 0 Y (zAq (i:=n) Y Y Y Y Y Y Y (zzq nW h)) (zfq 20 Y (fl_ps Y Y Y Y Y Y (ZCq v false hvl) Xk Xk Xr (zaq Y Y ?_))));refine yIq rfl (qHq Y Y Y (hy) (λb R1 hb=>?_));refine⟨by first|rfl|kernel_rfl,?_⟩;exact qoq 4 Y (jTq Qn rfl (yl_same (l:=[]) hb))
 | fork tl tr ihL ihR=>
  intro n hr;have hle:=hr.le;cases hr with
  |fork h hl hr hL hR=>
  rename_i n l r k v;refine k6q (fn:=Tryz.f320) Y Y Y (Yb rfl) (λL E R hy k0=>?_);refine z2q 12 Y ?_;refine gS 0 Y (λh1=>?_) (λh1=>?_)
  ·exfalso;omega
  ·refine gA 7 Y (n) (gP 0 Y (zAq (i:=n) Y Y Y Y Y Y Y (zzq nW h)) (gC 18 Y (ksq _) (zfq 4 Y ?_)));refine uEq (α:=Nat×Res) (λp=>p.1<=2/\Yl cfg G L E ((restL tl tr p.1).map enc1) p.2) (λp=>[(28,.int .i64 (p.1:Int))]) [(2,_),(3,_),(27,_)] (λp=>p.2) (λp=>2-p.1) ((0,R)) ⟨rfl,rfl,rfl,trivial⟩ (⟨by simp,hy⟩) ⟨rfl,trivial⟩ rfl (λp hI=>?_);obtain⟨i,R⟩:=p;obtain⟨hi,hy⟩:=hI;simp only at hi hy⊢;refine z2q 6 Y ?_;refine gS 0 Y (λh2=>?_) (λh2=>?_)
   ·have hi':i=0\/i=1:=by omega
    rcases hi' with rfl|rfl
    ·skip
     refine gC 14 Y (teach_s t l) (zfq 3 Y ?_);refine uDq (enc1) (tl.all) (λi a=>Yl cfg G L E (((tl.all.drop i)++tr.all).map enc1) a) (λa=>a) (R) rfl Xj (ihL _ hL) (λy _=>⟨by simp[enc1],rfl⟩) (hy) rfl (λi a y hy hI=>?_) (λa hI=>?_)
     ·have hd:=xhq hy;rw[hd,List.cons_append,List.map_cons] at hI;refine z2q 4 Y (ZWq (z2q 5 Y ?_));refine gSo 0 Y (qHq Y Y Y (hI) (λb R1 hb=>?_));refine gS 3 Y (λh3=>?_) (λh3=>?_)
      ·cases b with
       |true=>cases h3
       |false=>
        exact yTq 2 Y (vGq Xi (zYq 3 Y (gO 0 Y (zfq 1 Y (jTq Qn rfl hb)))))
      ·cases b with
       |false=>exact absurd rfl h3
       |true=>
        exact yTq 2 Y (vFq (R1) (hb) Xd Yg rfl)
     ·rw[List.drop_length,List.nil_append] at hI;exact zYq 4 Y (gA 0 Y (1) (gAg 2 Y ((1,a)) (⟨by simp,hI⟩) Xk))
    ·skip
     refine gC 14 Y (teach_s t r) (zfq 3 Y ?_);refine uDq (enc1) (tr.all) (λi a=>Yl cfg G L E ((tr.all.drop i).map enc1) a) (λa=>a) (R) rfl Xj (ihR _ hR) (λy _=>⟨by simp[enc1],rfl⟩) (hy) rfl (λi a y hy hI=>?_) (λa hI=>?_)
     ·have hd:=xhq hy;rw[hd,List.map_cons] at hI;refine z2q 4 Y (ZWq (z2q 5 Y ?_));refine gSo 0 Y (qHq Y Y Y (hI) (λb R1 hb=>?_));refine gS 3 Y (λh3=>?_) (λh3=>?_)
      ·cases b with
       |true=>cases h3
       |false=>
        exact yTq 2 Y (vGq Xi (zYq 3 Y (gO 0 Y (zfq 1 Y (jTq Qn rfl hb)))))
      ·cases b with
       |false=>exact absurd rfl h3
       |true=>
        exact yTq 2 Y (vFq (R1) (hb) Xd Yg rfl)
     ·rw[List.drop_length] at hI;exact zYq 4 Y (gA 0 Y (2) (gAg 2 Y ((2,a)) (⟨by simp,hI⟩) Xk))
   ·refine gO 2 Y (zfq 1 Y ?_);obtain rfl:i=2:=by omega
    exact jTq (.inl rfl) rfl hy
noncomputable def psW(ps:List Pr):W:=.fz (ps.map pW) 33 false
@[simp] theorem psW_p(ps:List Pr):purW (psW ps)=true:=jhq ps
noncomputable def gat(ps:List Pr):HpW:=match ps with
 |[]=>[(0,53,.nils)]
 |_=>[(0,53,.sl 1 0 0 ps.length 33 none),(1,191,.arr (ps.length*33) 33 (ps.map pW))]
theorem gat_snoc(a:List Pr)(y:Pr):gat (a++[y])=[(0,53,.sl 1 0 0 (a.length+1) 33 none),(1,191,.arr ((a.length+1)*33) 33 (a.map pW++[pW y]))]:=by
 cases a with
 |nil=>rfl
 |cons x a=>simp[gat]
theorem pur1{a:List Pr}{y:Pr}{n:Nat}(e:Nat):purW (.arr n e (a.map pW++[pW y]))=true:=by simp
theorem aseq_s(f:FuncId)(cs:List W)(ls:List Pr)(hc:purL cs=true)(it:y7q cfg G f cs (ls.map enc1))(hb:ls.length<=1000000000):PS cfg G 319 [.nils,.fn f [] cs] (psW ls):=by
 refine gIv 13 Y (λR k0=>?_);refine co_rangeN (α:=List Pr) (enc1) (ls) (λi a=>a=ls.take i) (λa=>gat a) (λa=>(match a with|[]=>1|_=>2)) (λa=>R) ([]) rfl Xj (it) (λy _=>⟨by simp[enc1],rfl⟩) (rfl) Y Y Y (λi a y hy hI=>?_) (λa hI=>?_)
 ·have hi:=(List.getElem?_eq_some_iff.1 hy).1;have hn:ls.take (i+1)=a++[y]:=by rw[List.take_add_one,hy,hI];rfl
  cases a with
  |nil=>
   skip
   refine z2q 4 Y (ZWq (z2q 5 Y (gM 0 Y (yGq Y Y (x3q (news:=[pW y]) (k:=ti191) Y Y Y Y (yZq Y Y Y Y) Xk (by show 1*ti191.bytes<=_;decide) (by show 1<=_;decide))) (zfq 3 Y (YOq (ls.take (i+1)) Y ?_)))));rw[hn,gat_snoc];refine qzq (b:=1) (k:=3) Xd Xd (by show 3<4;omega) trivial ⟨⟨by omega,rfl,rfl⟩,⟨by omega,?_,zmq (pur1 _)⟩,trivial⟩ Xk;rw[z4q (pur1 _)];rfl
  |cons x a=>
   have hl:(x::a).length<=1000000000:=by rw[hI,List.length_take];omega
   have el:((x::a).map pW).length=(x::a).length:=List.length_map _;refine z2q 4 Y (ZWq (z2q 5 Y (gM 0 Y (yGq Y Y (qLq (len:=(x::a).length) (news:=[pW y]) (olds:=(x::a).map pW) (k:=ti191) Y Y Y Y (yZq Y Y Y Y) Xk (by show((x::a).length+1)*56<=_;omega) (by show(x::a).length+1<=_;omega) rfl (by show(x::a).length*33<0+((x::a).length+1)*33;omega) rfl (zpq Xo el.symm rfl))) (zfq 3 Y (YOq (ls.take (i+1)) Y ?_)))));rw[hn,gat_snoc];refine qzq (b:=1) (k:=4) Xd Xd Qd trivial ⟨⟨by omega,rfl,rfl⟩,⟨by omega,?_,zmq (pur1 _)⟩,trivial⟩ Xk;rw[z4q (pur1 _)];rfl
 ·obtain rfl:a=ls:=by rw[hI,List.take_length]
  cases a with
  |nil=>
   skip
   refine zYq 9 Y (yzq Xm Y ?_)
   (repeat (first|exact .nil|refine .cons ?_ ?_|exact zBq|exact .nilfz|refine .fn ?_ ?_|(refine yKq Y ?_ rfl;(first|rfl|(focus (simp;done))))|(refine .sl Y ?_ rfl Xi;(first|rfl|(focus (simp;done))))|(refine .pur ?_;(first|rfl|(focus (simp;done))))|(refine .fzw ?_;(first|rfl|(focus (simp;done))))|refine .agg ?_|refine .arr ?_|refine .tup ?_))
  |cons x a=>
   exact zYq 9 Y (yzq Xm Y (.sl rfl (by show purL ((x::a).map pW)=true;exact jhq _) (zpq Xo (List.length_map _).symm rfl) Xi))
theorem collect_s(f:FuncId)(cs:List W)(ls:List Pr)(hc:purL cs=true)(it:y7q cfg G f cs (ls.map enc1))(hb:ls.length<=1000000000):PS cfg G 256 [.fn f [] cs] (psW ls):=by
 exact gI 8 Y (λR k0=>op_ps Y Y Y Y Y Y (aseq_s f cs ls hc it hb) (by simp[hc]) Xk (zJq 4 Y (gQa 0 Y)))
theorem nodup_le{α:Type} [DecidableEq α]:∀(l m:List α),l.Nodup->(∀x∈l,x∈m) ->l.length<=m.length
 |[],m,_,_=>Nat.zero_le _
 |x::l,m,hn,hs=>by
  obtain⟨h1,h2⟩:=List.nodup_cons.1 hn;have hx:=hs x Xk;have ih:=nodup_le l (m.erase x) h2 λy hy=>(List.mem_erase_of_ne (λe:y=x=>h1 (by rw[<-e];exact hy))).2 (hs y (by simp[hy]))
  rw[List.length_erase_of_mem hx] at ih;have:0<m.length:=List.length_pos_of_mem hx;simp only[List.length_cons];omega
theorem rep_mem{ns:List Node}{n:Nat}{t:T}(h:Rep ns n t):∀p∈t.all,∃(i:Nat) (l r:Int),ns[i]? =some (Node.mk true p.1 p.2 l r):=by
 induction h with
 |nil=>intro p hp;simp[T.all] at hp
 |leaf h=>intro p hp;simp only[T.all,List.mem_singleton] at hp;subst hp;exact⟨_,_,_,h⟩
 |fork h hl hr _ _ i1 i2=>
  intro p hp;rcases List.mem_append.1 hp with hp|hp
  ·exact i1 p hp
  ·exact i2 p hp
theorem srt_nodup{l:List Pr}(h:Srt l):(l.map (·.1)).Nodup:=by
 rw[List.nodup_iff_pairwise_ne,List.pairwise_map];exact h.imp λh=>uHq h
theorem IsT.srt{t:Tree}{n:Nat}{t0:T}(h:IsT t n t0):Srt t0.all:=ok_srt YBq h.ok
theorem IsT.all_le{t:Tree}{n:Nat}{t0:T}(h:IsT t n t0):t0.all.length<=t.nodes.length:=by
 have:=nodup_le (t0.all.map (·.1)) (t.nodes.map (·.key)) (srt_nodup h.srt) λk hk=>by
  obtain⟨p,hp,rfl⟩:=List.mem_map.1 hk;obtain⟨i,l,r,hx⟩:=rep_mem h.rep p hp;exact List.mem_map.2 ⟨_,List.mem_of_getElem? hx,rfl⟩
 simpa using this
theorem IsT.val{t:Tree}{n:Nat}{t0:T}(h:IsT t n t0):∀p∈t0.all,0<p.2.length/\p.2.length<=64:=λp hp=>by
 obtain⟨i,l,r,hx⟩:=rep_mem h.rep p hp;exact u2q h.okn hx
theorem tpairs_s(t:Tree)(n:Nat)(t0:T)(h:IsT t n t0):PS cfg G 181 [tW t] (.tup [psW t0.all,.int .i64 0]):=by
 have hl:=h.len;have hy:=h.may;have ha:=h.all_le;have hr:=h.root;obtain⟨ns,root⟩:=t;simp only at hl hr ha;subst hr;exact gI 11 Y (λR k0=>gC 0 Y (yfq (w':=.int .i64 0) (kmq ⟨ns,(n:Int)⟩ Yn) (by rw[if_pos hy])) (zfq 17 Y (jiq Y Y Y Y Y Y (teach_s ⟨ns,(n:Int)⟩ (n:Int)) (jiq Y Y Y Y Y Y (collect_s _ _ t0.all Xk (teach_it ⟨ns,(n:Int)⟩ (λi k v l r hx=>by have:=(u2q h.okn hx).2;omega) Yn t0 n h.rep) Xd) (zJq 5 Y (gQa 0 Y))))))
theorem tpairs_no(t:Tree)(hb:t.nodes.length<=4611686018427387903)(h:¬MayT t):PS cfg G 181 [tW t] (.tup [.nils,.int .i64 8]):=by
 exact gI 11 Y (λR k0=>gC 0 Y (yfq (w':=.int .i64 8) (kmq t hb) (by rw[if_neg h])) (gQa 19 Y))
theorem aeach_s(t:Tree):PS cfg G 171 [tW t] (.fn 243 [] [.fel (tW t)]):=by
 refine gI 13 Y (λR k0=>?_);refine xdq (fr2:=[(2,_)]) Xm ?_ Y Y
 (repeat (first|exact trivial|refine And.symm ⟨?_,_,rfl,?_⟩))<;>(repeat (first|exact .nil|refine .cons ?_ ?_|refine .fn ?_ ?_|(refine yKq Y ?_ rfl;(first|rfl|(focus (simp;done))))|(refine .sl Y ?_ rfl Xi;(first|rfl|(focus (simp;done))))|(refine .pur ?_;(first|rfl|(focus (simp;done))))|refine .agg ?_|refine .arr ?_|refine .tup ?_))
noncomputable def encA(p:Pr):List W:=[aW (qmq p.2).1,.bool (decide ((((qmq p.2).2:Nat):Int)=0))]
noncomputable def encZ(_:Unit):List W:=[aW .zero,.bool false]
theorem aeach_no(t:Tree)(hb:t.nodes.length<=4611686018427387903)(h:¬MayT t):y7q cfg G 243 [.fel (tW t)] ([()].map encZ):=by
 refine k6q (fn:=Tryz.f243) Y Y Y (Yb rfl) (λL E R hy k0=>?_);refine z2q 3 Y (gC 0 Y (tpairs_no t hb h) ?_);refine gSo 19 Y (qHq Y Y Y (hy) (λb R1 hb=>?_));exact zfq 4 Y (jTq Qn rfl (yl_same (l:=[]) hb))
theorem aeach_it(t:Tree)(n:Nat)(t0:T)(h:IsT t n t0):y7q cfg G 243 [.fel (tW t)] (t0.all.map encA):=by
 have e:(t0.all.map pW).length=t0.all.length:=List.length_map _;have hl:=h.len;have ha:=h.all_le;refine k6q (fn:=Tryz.f243) Y Y Y (Yb rfl) (λL E R hy k0=>?_);refine z2q 3 Y (gC 0 Y (tpairs_s t n t0 h) (gV (w':=.int .i64 (t0.all.length:Int)) 20 Y Xw (zfq 4 Y ?_)));refine uEq (α:=Nat×Res) (λp=>p.1<=t0.all.length/\Yl cfg G L E ((t0.all.drop p.1).map encA) p.2) (λp=>[(21,.int .i64 (p.1:Int))]) [(0,_),(19,_),(20,_)] (λp=>p.2) (λp=>t0.all.length-p.1) ((0,R)) ⟨rfl,rfl,rfl,trivial⟩ (⟨by simp,hy⟩) ⟨rfl,trivial⟩ rfl (λp hI=>?_);obtain⟨i,R⟩:=p;obtain⟨hi,hy⟩:=hI;simp only at hi hy⊢;refine z2q 6 Y ?_;refine gS 0 Y (λh1=>?_) (λh1=>?_)
 ·have hi':i<t0.all.length:=by omega
  obtain⟨x,hx⟩:∃x,t0.all[i]? =some x:=⟨_,List.getElem?_eq_getElem hi'⟩
  have hv:=h.val x (List.mem_of_getElem? hx);rw[xhq hx,List.map_cons] at hy;refine gP 6 Y (zAq (i:=i) Y Y Y Y Y Y Y (zzq pW hx)) (zfq 9 Y (jiq Y Y Y Y Y Y (aread_s x.2 false Xd) (zJq 13 Y (gU 0 Y ?_))));refine gSo 0 Y (qHq Y Y Y (hy) (λb R1 hb=>?_));refine gS 3 Y (λh2=>?_) (λh2=>?_)
  ·cases b with
   |true=>cases h2
   |false=>
    exact yTq 3 Y (gO 0 Y (zfq 1 Y (jTq Qn rfl hb)))
  ·cases b with
   |false=>exact absurd rfl h2
   |true=>
    exact yTq 4 Y (gA 0 Y (i+1) (gAg 2 Y ((i+1,R1)) (⟨hi',hb⟩) Ya))
 ·refine gO 2 Y (zfq 1 Y ?_);obtain rfl:i=t0.all.length:=by omega
  rw[List.drop_length] at hy;exact jTq (.inl rfl) rfl hy
theorem encA_ok{l:List Pr}:∀y∈l,purL (encA y)=true/\(encA y).length=2:=λy _=>⟨rfl,rfl⟩
structure IsA(t:Tree)(n:Nat)(t0:T):Prop extends IsT t n t0 where
 held:∀p∈t0.all,(qmq p.2).2=0
def MayA(t:Tree):Prop:=∃n t0,IsA t n t0
noncomputable instance(t:Tree):Decidable (MayA t):=Classical.propDecidable _
theorem xAq(t:Tree)(hb:t.nodes.length<=4611686018427387903):PS cfg G 84 [tW t] (.int .i64 (if MayA t then 0 else 8)):=by
 by_cases h:MayT t
 ·obtain⟨n,t0,h⟩:=may_is h;refine gI 10 Y (λR k0=>gC 0 Y (aeach_s _) (zfq 3 Y ?_));refine uDq (encA) (t0.all) (λi (_:Unit)=>∀j p,j<i->t0.all[j]? =some p->(qmq p.2).2=0) (λ_=>R) (()) rfl Xj (aeach_it t n t0 h) (encA_ok) (λj p hj=>by omega) rfl (λi a y hy hI=>?_) (λa hI=>?_)
  ·refine z2q 3 Y (ZWq (z2q 7 Y ?_));refine gS 0 Y (λh1=>?_) (λh1=>?_)
   ·have hno:¬MayA t:=by
     rintro⟨n',t1,ha⟩;obtain rfl:n'=n:=by have:=ha.root;have:=h.root;omega
     obtain rfl:=ha.rep.uniq h.rep;have:=ha.held y (List.mem_of_getElem? hy);rw[this] at h1;simp at h1
    exact zfq 7 Y (vGq Xi (zYq 2 Y (gQ 0 Y Ye)))
   ·have hok:(qmq y.2).2=0:=by simp at h1;omega
    exact zfq 2 Y (vFq (()) (λj p hj hp=>by rcases Nat.lt_succ_iff_lt_or_eq.1 hj with q|rfl;exact hI j p q hp;exact(Option.some.inj (hy.symm.trans hp))▸hok) Xd Yg rfl)
  ·have yes:MayA t:=⟨n,t0,h,λp hp=>by
    obtain⟨j,hj,hjp⟩:=List.getElem_of_mem hp;exact hI j p hj (by rw[List.getElem?_eq_getElem hj,hjp])⟩
   exact zYq 8 Y (gQ 0 Y Qj)
 ·have hno:¬MayA t:=λ⟨n,t0,ha⟩=>h ha.toIsT.may
  refine gI 10 Y (λR k0=>gC 0 Y (aeach_s _) (zfq 3 Y ?_));refine ZBq (encZ) ([()]) (λi=>i=0) rfl Xj (aeach_no t hb h) (λy _=>⟨rfl,rfl⟩) (rfl) (λi y hy hI=>?_) (λhI=>?_)
  ·exact z2q 3 Y (ZWq (z2q 15 Y (jgq Xi (zYq 2 Y (gQ 0 Y Ye)))))
  ·exfalso;simp at hI
def uIq(t0:T)(k:Dig):Acct:=match t0.find k 0 with
 |none=>.zero
 |some v=>(qmq v).1
theorem IsA.acct{t:Tree}{n:Nat}{t0:T}(h:IsA t n t0){k:Dig}{v:List UInt8}(hv:t0.find k 0=some v):(k,v)∈t0.all/\(qmq v).2=0:=by
 rw[uuq k YBq h.ok] at hv;have:=(findL_some h.srt).1 hv;exact⟨this,h.held _ this⟩
theorem aget_s(t:Tree)(n:Nat)(t0:T)(h:IsA t n t0)(k:Dig):PS cfg G 124 [tW t,dW k] (.tup [aW (uIq t0 k),.int .i64 0]):=by
 have yes:MayA t:=⟨n,t0,h⟩;have hl:=h.len;cases hf:t0.find k 0 with
 |none=>
  have e:uIq t0 k= .zero:=by unfold uIq;rw[hf]
  rw[e];refine gI 12 Y (λR k0=>?_);first|refine gC 0 Y (yfq (w':=.int .i64 0) (xAq t Xd) Qj) ?_|refine gC 0 Y (xAq _ Xd) ?_
  exact gC 16 Y (yfq (w':=.tup [.nils,.bool false]) (tget_s t n t0 k h.toIsT) (by rw[hf];rfl)) (gQa 24 Y)
 |some v=>
  obtain⟨h1,h2⟩:=h.acct hf;have hv:=h.val _ h1;have e:uIq t0 k=(qmq v).1:=by unfold uIq;rw[hf]
  rw[e];refine gI 12 Y (λR k0=>?_);first|refine gC 0 Y (yfq (w':=.int .i64 0) (xAq t Xd) Qj) ?_|refine gC 0 Y (xAq _ Xd) ?_
  exact gC 16 Y (yfq (w':=.tup [bW v,.bool true]) (tget_s t n t0 k h.toIsT) (by rw[hf];rfl)) (zfq 20 Y (jiq Y Y Y Y Y Y (aread_s v false (by simp only at hv;omega)) (zJq 7 Y (gQ 0 Y (by rw[h2];rfl)))))
noncomputable def nsW(ns:List Node):W:=.arr (ns.length*36) 36 (ns.map nW)
@[simp] theorem nsW_p(ns:List Node):purW (nsW ns)=true:=nsW_pur ns
theorem nclone_s(ns:List Node)(f:Bool)(hl:ns.length<=1000000000):j2q cfg G 166 0 [.fz (ns.map nW) 36 f] [] λw hp nw=>
  (ns=[]/\w= .nils/\hp=[]/\nw=0)\/(w= .sl 0 0 0 ns.length 36 none/\hp=[(0,163,nsW ns)]/\nw=1):=by
 intro R;have e:(ns.map nW).length=ns.length:=List.length_map _;refine gIs 9 Y (λk0=>?_);first|refine zcq Y Y ?_|refine ysq rfl (step_nil Y Y Y Y Y (λbn hn=>?_))
 refine zJq 2 Y ?_;refine gS 0 Y (λh1=>?_) (λh1=>?_)
 ·cases bn with
  |false=>cases h1
  |true=>
   have hn:=hn rfl
   have hl0:ns=[]:=by cases ns with
    |nil=>rfl
    |cons c l=>simp at hn
   exact yTq 7 Y (fin Qn Ent.refl rfl ⟨rfl,.inl ⟨hl0,rfl,rfl,rfl⟩⟩)
 ·cases ns with
  |nil=>
   skip
   exact yTq 6 Y (gM 0 Y (yGq Y Y (veq Y Y Y Y Y)) (zfq 4 Y (fin Qn Ent.refl rfl ⟨rfl,.inr ⟨rfl,rfl,rfl⟩⟩)))
  |cons c l=>
   refine yTq 6 Y (gM 0 Y (yGq Y Y (qLq (len:=0) (news:=(c::l).map nW) (olds:=[]) (k:=ti163) Y Y Y Y Y Xk (by show(0+((c::l).map nW).length)*ti163.bytes<=_;rw[e];show(0+(c::l).length)*80<=_;omega) (by rw[e];omega) rfl (by show 0<0+(0+((c::l).map nW).length)*36;rw[e];simp only[List.length_cons];omega) Y Y)) (zfq 4 Y ?_));refine fin Qn (qzq (b:=0) (k:=1) (fr2:=[(2,.sl 0 0 0 (c::l).length 36 none)]) (hp2:=[(0,163,nsW (c::l))]) Xd Xd (by show 1<2;omega) ⟨⟨?_,rfl⟩,trivial⟩ ⟨⟨by omega,?_,zmq (nsW_p _)⟩,trivial⟩ Xk) rfl ⟨rfl,.inr ⟨rfl,rfl,rfl⟩⟩
   ·show some (W.sl 1 0 0 (0+((c::l).map nW).length) 36 none)=some (W.sl 1 0 0 (c::l).length 36 none);rw[e,Nat.zero_add]
   ·rw[z4q (nsW_p _)];show some (163,W.arr ((0+((c::l).map nW).length)*36) 36 ([]++(c::l).map nW))=some (163,nsW (c::l));rw[e,Nat.zero_add];rfl
theorem node_get(ns:List Node){i:Nat}{x:Node}(h:ns[i]? =some x):ybq 50 (nsW ns) (0+i*36+33) 1 false=some (bW x.val):=
 get_in (zzq nW h) Xd Xd Xk rfl
theorem node_put(ns:List Node){i:Nat}{x:Node}(h:ns[i]? =some x):qIq 50 (nsW ns) (0+i*36+33) (bW x.val)=some (nsW ns):=by
 have h1:=zzq nW h;rw[nsW,put_in (x':=nW x) h1 Xd Xd (by simp[W.isAgg,bW]) rfl,set_same h1]
theorem twin_s(ns:List Node)(root:Int)(hl:ns.length<=1000000000)(hv:∀x∈ns,x.val.length<=70368744177664):j2q cfg G 74 0 [tW ⟨ns,root⟩] [] λw hp nw=>
  (ns=[]/\w= .agg 2 [.nils,.int .i64 root]/\hp=[(1,24,.agg 2 [.nils,.int .i64 root]),(0,24,.agg 2 [.nils,.int .i64 root])]/\nw=2)\/
  (w= .agg 2 [.sl 2 0 0 ns.length 36 none,.int .i64 root]/\hp=[(2,163,nsW ns),(1,24,.agg 2 [.sl 2 0 0 ns.length 36 none,.int .i64 root]),(0,24,.agg 2 [.sl 2 0 0 ns.length 36 none,.int .i64 root])]/\nw=3):=by
 intro R;refine gIs 10 Y (λk0=>?_);skip
 refine gSo 0 Y (jQq Y Y Y Y Y (by simp[nsW_pur]) (nclone_s ns false hl) ?_);rintro w hp1 nw1 (⟨hn,rfl,rfl,rfl⟩|⟨rfl,rfl,rfl⟩)
 ·skip
  skip
  refine gL 9 Y ?_;refine gLo (α:=Nat) 4 (λi=>i=0) (λi=>[(11,.int .i64 (i:Int))]) [1,2,10] (λi=>1-i) (0) rfl (rfl) (λi hI=>?_);subst hI;exact gO 9 Y (zfq 9 Y (fin Qn Ent.refl rfl ⟨rfl,.inl ⟨hn,rfl,rfl,rfl⟩⟩))
 ·rw[renH_pur1 (nsW_p _)];show OpW cfg G _ _ _ _ [(2,163,nsW ns),(1,24,.agg 2 [.nils,.int .i64 0]),(0,24,tW ⟨ns,root⟩)] 3 R _;refine zJq 9 Y (gL 0 Y ?_);refine gLo (α:=Nat) 4 (λi=>i<=ns.length) (λi=>[(11,.int .i64 (i:Int))]) [1,2,10] (λi=>ns.length-i) (0) rfl (Nat.zero_le _) (λi hI=>?_);refine gS 6 Y (λh1=>?_) (λh1=>?_)
  ·have hi:i<ns.length:=by omega
   obtain⟨x,hx⟩:∃x,ns[i]? =some x:=⟨_,List.getElem?_eq_getElem hi⟩
   have hxv:=hv x (List.mem_of_getElem? hx);refine gP 17 Y (yNq (i:=i) Y Y Y Y Y Y Y hi) (gM 1 Y (yUq Y Y Y (node_get ns hx)) (fl_ps Y Y Y Y Y Y (ZCq x.val false hxv) Xk Xk Xr ?_));refine zaq rfl (yNq (i:=i) Y Y Y Y Y Y Y hi) (zaq Y Y ?_);exact qJq rfl (st_same Y Y Y Y Y (node_put ns hx)) Xr (qoq 4 Y (gA 0 Y (i+1) (gAg 2 Y (i+1) (hi) Xd)))
  ·exact gO 2 Y (zfq 9 Y (fin Qn Ent.refl rfl ⟨rfl,.inr ⟨rfl,rfl,rfl⟩⟩))
noncomputable def mkW(b n:Nat)(root:Int):W:=.agg 2 [.sl b 0 0 n 36 none,.int .i64 root]
theorem view_mk{hp:HpW}{b:Nat}{ns:List Node}{root:Int}(h:hget hp b=some (163,nsW ns)):View (blkA hp) (mkW b ns.length root) (tW ⟨ns,root⟩):=
 .agg (.cons (.sl (c:=nsW ns) (by unfold blkA;rw[h]) (nsW_p ns) (zpq Xo (List.length_map _).symm rfl) Xi) (.cons (.pur rfl) .nil))
noncomputable def setL(l:List Pr)(k:Dig)(a:Acct):List Pr:=if a= .zero then withoutL l k else withL l k (bytesA a)
def YAq(t:Tree)(m:Nat):Prop:=m<t.nodes.length\/∃i x,i<=m/\t.nodes[i]? =some x/\100<x.val.length
noncomputable instance(t:Tree)(m:Nat):Decidable (YAq t m):=Classical.propDecidable _
theorem great_s(t:Tree)(m:Nat)(hb:t.nodes.length<=4611686018427387903)(hm:m<=4611686018427387903):PS cfg G 70 [tW t,.int .i64 (m:Int)] (.bool (decide (YAq t m))):=by
 have e:(t.nodes.map nW).length=t.nodes.length:=List.length_map _;refine gI 13 Y (λR k0=>?_);refine gLo (α:=Nat) 0 (λi=>i<=t.nodes.length/\∀j x,j<i->t.nodes[j]? =some x->x.val.length<=100) (λi=>[(5,.int .i64 (i:Int))]) [1,2,4] (λi=>t.nodes.length-i) (0) rfl (⟨Nat.zero_le _,λj x h=>by omega⟩) (λi hI=>?_);obtain⟨hI,hJ⟩:=hI;refine gV (w':=.int .i64 (t.nodes.length:Int)) 6 Y Xw ?_;refine gD 0 Y (λh1=>?_) (λh1=>?_)
 ·have hi:i<t.nodes.length:=by omega
  obtain⟨x,hx⟩:∃x,t.nodes[i]? =some x:=⟨_,List.getElem?_eq_getElem hi⟩
  have ex:=zdq x.val;refine gU 3 Y ?_;refine gS 3 Y (λh2=>?_) (λh2=>?_)
  ·refine gP 9 Y (zAq (i:=i) Y Y Y Y Y Y Y (zzq nW hx)) ?_;refine gV (w':=.int .i64 (x.val.length:Int)) 2 Y (by rw[<-ex];rfl) ?_;refine gS 3 Y (λh3=>?_) (λh3=>?_)
   ·refine gO 8 Y ?_;exact gQ 2 Y (by rw[decide_eq_true (show YAq t m from .inr ⟨i,x,by omega,hx,by omega⟩)])
   ·refine gA 5 Y (i+1) ?_;exact gAg 2 Y (i+1) (⟨hi,λj y hj hy=>by rcases Nat.lt_succ_iff_lt_or_eq.1 hj with q|rfl;exact hJ j y q hy;have:=Option.some.inj (hx.symm.trans hy);subst this;omega⟩) Xd
  ·refine gO 2 Y ?_;refine gV (w':=.int .i64 (t.nodes.length:Int)) 6 Y Xw ?_;refine gU 1 Y ?_;exact gQ 4 Y (by rw[decide_eq_true (show YAq t m from .inl Xd)];congr 1;exact decide_eq_true (show(m:Int)<(t.nodes.length:Int) by omega))
 ·refine gO 10 Y ?_;refine gV (w':=.int .i64 (t.nodes.length:Int)) 6 Y Xw ?_;refine gU 1 Y ?_;refine gQ 4 Y ?_;congr 1
  refine decide_eq_decide.2 ⟨λq=>.inl (show m<t.nodes.length by have q:(m:Int)<(t.nodes.length:Int):=q;omega),?_⟩;rintro(q|⟨j,x,_,hx,hq⟩)
  ·show(m:Int)<(t.nodes.length:Int);omega
  ·have:=hJ j x (by have:=(List.getElem?_eq_some_iff.1 hx).1;omega) hx;omega
theorem cv_str{C:Cfg}{G:Nat->Option W}{fr:FrW}{hp:HpW}{nw:Nat}{s t e:TypeId}{x:Operand}{js jt:TyI}{l:List UInt8}{f:Bool}(hs:C.ty s=some js)(ht:C.ty t=some jt)(hx:evW C G fr x=some (.fz (zbq l) 1 f))(hjs:js.d= .slice e)(hjt:jt.d= .str)(he:Zwq C e=some (.int .u8)):opHW C G fr hp nw (.convert s t x)=some (.str l,hp,nw,.gen):=by
 simp only[opHW,hConv,hs,ht,hx,hjs,hjt,he,bytesOf_W]
theorem same_s(a b:List UInt8)(f g:Bool):PS cfg G 78 [.fz (zbq a) 1 f,.fz (zbq b) 1 g] (.bool (decide (a=b))):=by
 exact gI 8 Y (λR k0=>gM 0 Y (cv_str Y Y Y Y Y Y) (gM 1 Y (cv_str Y Y Y Y Y Y) (gV (w':=.bool (decide (a=b))) 0 Y (congrArg W.bool (kgq a b)) (gQa 4 Y))))
end
noncomputable def rotN(x n:Nat):Nat:=Nat.lor (Nat.shiftLeft x (32-n)%4294967296%4294967296) (Nat.shiftRight x n%4294967296)
noncomputable def addN(a b:Nat):Nat:=(a+b)%4294967296
noncomputable def xorN(a b:Nat):Nat:=Nat.xor (a%4294967296) (b%4294967296)
noncomputable def andN(a b:Nat):Nat:=Nat.land (a%4294967296) (b%4294967296)
noncomputable def shrN(a k:Nat):Nat:=Nat.shiftRight a (min k 32)
noncomputable def shlN(a k:Nat):Nat:=Nat.shiftLeft a (min k 32)%4294967296
noncomputable def orN(a b:Nat):Nat:=Nat.lor (a%4294967296) (b%4294967296)
noncomputable def notN(a:Nat):Nat:=Nat.xor (4294967295%4294967296) (a%4294967296)
noncomputable def wd(x:Nat):W:=.int .u32 (.ofNat x)
theorem q8q(n:Nat)(hn:n=2\/n=6\/n=7\/n=11\/n=13\/n=17\/n=18\/n=19\/n=22\/n=25)(G:Nat->Option W)(x:Nat):j2q cfg G 342 0 [wd x,.int .i64 (.ofNat n)] [] λw hp nw=>w=wd (rotN x n)/\hp=[]/\nw=0:=by
 have key:∀h,y8q cfg 20 342 [.int .u32 (.ofNat x),.int .i64 (.ofNat n)] h=some (.int .u32 (.ofNat (rotN x n)),h):=by
  intro h;rcases hn with rfl|rfl|rfl|rfl|rfl|rfl|rfl|rfl|rfl|rfl<;>kernel_rfl
 refine spec_run key (λΓ us h=>?_) (λΓ=>RV_int.2 rfl);obtain⟨v,vs,rfl,h1,h2⟩:=RVL_cons.1 h;obtain⟨v',vs',rfl,h3,h4⟩:=RVL_cons.1 h2;rw[RVL_nil.1 h4,RV_int.1 h1,RV_int.1 h3]
section
attribute [local irreducible] CoW OpW FlW Step Spec
noncomputable def wordN(b0 b1 b2 b3:Nat):Nat:=orN (orN (orN (shlN (b0%4294967296) 24) (shlN (b1%4294967296) 16)) (shlN (b2%4294967296) 8)) (b3%4294967296)
noncomputable def k4q(bs:Nat->Nat)(l:List Nat):Nat:=match Nat.blt l.length 16 with
 |true=>wordN (bs (4*l.length)) (bs (4*l.length+1)) (bs (4*l.length+2)) (bs (4*l.length+3))
 |false=>addN (addN (addN (l.getD (l.length-16) 0) (xorN (xorN (rotN (l.getD (l.length-15) 0) 7) (rotN (l.getD (l.length-15) 0) 18)) (shrN (l.getD (l.length-15) 0) 3))) (l.getD (l.length-7) 0)) (xorN (xorN (rotN (l.getD (l.length-2) 0) 17) (rotN (l.getD (l.length-2) 0) 19)) (shrN (l.getD (l.length-2) 0) 10))
noncomputable def ycq(bs:Nat->Nat):Nat->List Nat
 |0=>[]
 |t+1=>ycq bs t++[k4q bs (ycq bs t)]
theorem k1q(bs:Nat->Nat):∀t,(ycq bs t).length=t
 |0=>rfl
 |t+1=>by simp[ycq,k1q bs t]
theorem u4q{l:List Nat}{i:Nat}(h:i<l.length):(l.map wd)[i]? =some (wd (l.getD i 0)):=by
 simp[List.getElem?_map,List.getElem?_eq_getElem h,List.getD]
noncomputable def kW:List Nat:=[1116352408,1899447441,3049323471,3921009573,961987163,1508970993,2453635748,2870763221,3624381080,310598401,607225278,1426881987,1925078388,2162078206,2614888103,3248222580,3835390401,4022224774,264347078,604807628,770255983,1249150122,1555081692,1996064986,2554220882,2821834349,2952996808,3210313671,3336571891,3584528711,113926993,338241895,666307205,773529912,1294757372,1396182291,1695183700,1986661051,2177026350,2456956037,2730485921,2820302411,3259730800,3345764771,3516065817,3600352804,4094571909,275423344,430227734,506948616,659060556,883997877,958139571,1322822218,1537002063,1747873779,1955562222,2024104815,2227730452,2361852424,2428436474,2756734187,3204031479,3329325298]
noncomputable def glK:Nat->Option W:=λg=>match g with
 |0=>some (.arr 64 1 (kW.map wd))
 |_=>none
noncomputable def pad0(l:List Nat)(n:Nat):List Nat:=l++List.replicate (n-l.length) 0
theorem pad0_at{l:List Nat}{n i:Nat}(h:i<l.length):((pad0 l n).map wd)[i]? =some (wd (l.getD i 0)):=by
 have:i<(pad0 l n).length:=by simp[pad0];omega
 rw[u4q this];simp[pad0,List.getD,List.getElem?_append,h]
theorem pad0_ge{l:List Nat}{n:Nat}(h:l.length<n):((pad0 l n).map wd)[l.length]? =some (wd 0):=by
 have:l.length<(pad0 l n).length:=by simp[pad0];omega
 rw[u4q this];simp[pad0,List.getD,List.getElem?_append,List.getElem?_replicate,show 0<n-l.length by omega]
theorem pad0_set{l:List Nat}{n x:Nat}(h:l.length<n):((pad0 l n).map wd).set l.length (wd x)=(pad0 (l++[x]) n).map wd:=by
 rw[<-List.map_set];congr 1
 unfold pad0;rw[List.set_append_right _ _ (Nat.le_refl _)];have:n-l.length=(n-(l++[x]).length)+1:=by simp;omega
 rw[this,Nat.sub_self,List.replicate_succ,List.set_cons_zero,List.append_assoc];rfl
structure S8 where
 (a b c d e f g h:Nat)
noncomputable def S8.l(s:S8):List W:=[wd s.a,wd s.b,wd s.c,wd s.d,wd s.e,wd s.f,wd s.g,wd s.h]
noncomputable def roundN(k w:Nat)(v:S8):S8:=
 let one:=addN (addN (addN (addN v.h (xorN (xorN (rotN v.e 6) (rotN v.e 11)) (rotN v.e 25))) (xorN (andN v.e v.f) (andN (notN v.e) v.g))) k) w
 let two:=addN (xorN (xorN (rotN v.a 2) (rotN v.a 13)) (rotN v.a 22)) (xorN (xorN (andN v.a v.b) (andN v.a v.c)) (andN v.b v.c))
 ⟨addN one two,v.a,v.b,v.c,addN v.d one,v.e,v.f,v.g⟩
noncomputable def k2q(ws:List Nat)(s:S8):Nat->S8
 |0=>s
 |t+1=>roundN (kW.getD t 0) (ws.getD t 0) (k2q ws s t)
noncomputable def add8(s v:S8):S8:=⟨addN s.a v.a,addN s.b v.b,addN s.c v.c,addN s.d v.d,addN s.e v.e,addN s.f v.f,addN s.g v.g,addN s.h v.h⟩
noncomputable def q1q(bs:Nat->Nat)(s:S8):S8:=add8 s (k2q (ycq bs 64) s 64)
noncomputable def mix8(s v:S8):Nat->List W
 |0=>s.l
 |1=>[wd (addN s.a v.a),wd s.b,wd s.c,wd s.d,wd s.e,wd s.f,wd s.g,wd s.h]
 |2=>[wd (addN s.a v.a),wd (addN s.b v.b),wd s.c,wd s.d,wd s.e,wd s.f,wd s.g,wd s.h]
 |3=>[wd (addN s.a v.a),wd (addN s.b v.b),wd (addN s.c v.c),wd s.d,wd s.e,wd s.f,wd s.g,wd s.h]
 |4=>[wd (addN s.a v.a),wd (addN s.b v.b),wd (addN s.c v.c),wd (addN s.d v.d),wd s.e,wd s.f,wd s.g,wd s.h]
 |5=>[wd (addN s.a v.a),wd (addN s.b v.b),wd (addN s.c v.c),wd (addN s.d v.d),wd (addN s.e v.e),wd s.f,wd s.g,wd s.h]
 |6=>[wd (addN s.a v.a),wd (addN s.b v.b),wd (addN s.c v.c),wd (addN s.d v.d),wd (addN s.e v.e),wd (addN s.f v.f),wd s.g,wd s.h]
 |7=>[wd (addN s.a v.a),wd (addN s.b v.b),wd (addN s.c v.c),wd (addN s.d v.d),wd (addN s.e v.e),wd (addN s.f v.f),wd (addN s.g v.g),wd s.h]
 |_=>(add8 s v).l
theorem kW_len:kW.length=64:=rfl
set_option maxHeartbeats 1600000 in
theorem block_s(s:S8)(bs:Nat->Nat)(c:W)(base off:Nat)(lim:Option Nat)(ty:TypeId)(hc:refB 2 c=true)(hby:∀i,i<64->ybq 50 c (off+i*1) 1 false=some (.int .u8 (.ofNat (bs i))))(R:Res):
  Spec cfg glK 305 2 [.ptr 0 0,.sl 1 base off 64 1 lim] [(0,419,.arr 8 1 s.l),(1,ty,c)] R λw hp nw R'=>R'=R/\w= .tup []/\hp=[(0,419,.arr 8 1 (q1q bs s).l),(1,ty,c)]/\nw=2:=by
 refine uTq (fn:=Tryz.f305) Y Y Y (Yb rfl) (λk0=>?_);refine zwq (zhq (y0q Y Y (zIq ?_)));refine zVq (zwq (zwq (zhq (zcq Y Y (zIq ?_)))));refine zVq (z7q ?_);refine qhq (λt:Nat=>t<=64) (λt=>[(19,.int .i64 (t:Int)),(4,.ptr 2 0),(1,.sl 1 base off 64 1 lim),(0,.ptr 0 0)]) (λt=>[(2,459,.arr 64 1 ((pad0 (ycq bs t) 64).map wd)),(0,419,.arr 8 1 s.l),(1,ty,c)]) (λ_=>3) (λ_=>R) (λt=>64-t) 0 (Nat.zero_le _) ?_ (λt ht=>?_)
 ·exact z6q ⟨rfl,rfl,rfl,rfl,trivial⟩ Y Y
 have hl:=k1q bs t;refine zwq (zhq (zcq Y Y (zIq ?_)));refine zVq (zwq ?_);refine q6q rfl (λhc1=>?_) (λhc1=>?_)
 ·have ht1:t<64:=by have:=ltI_iff.1 hc1;omega
  have h0:((pad0 (ycq bs t) 64).map wd)[0+t*1]? =some (wd 0):=by
   have:=pad0_ge (l:=ycq bs t) (n:=64) Xd;rw[hl] at this;simpa using this
  have key:∀x,k4q bs (ycq bs t)=x->((pad0 (ycq bs t) 64).map wd).set (0+t*1) (wd x)=(pad0 (ycq bs (t+1)) 64).map wd:=λx hx=>by
   have:=pad0_set (l:=ycq bs t) (n:=64) (x:=x) Xd;rw[hl] at this;rw[Nat.zero_add,Nat.mul_one,this,ycq,hx]
  refine y5q (zVq (zwq (z7q (zwq (zhq (zcq Y Y (zcq Y Y (zIq ?_))))))));refine zVq (zwq (zwq (zhq (zcq Y Y (zcq Y Y (zIq ?_))))));refine zVq ?_;refine q6q rfl (λhc2=>?_) (λhc2=>?_)
  ·have ht2:t<16:=by have:=ltI_iff.1 hc2;omega
   refine zwq (qWq (zaq Y Y (zaq Y Y (zaq Y Y ?_))));first|refine ytq Y Y Qm ?_|refine zaq Y Y ?_
   refine zaq rfl (yNq (i:=4*t) Y Y Y Y Y Y Y Xd) (qJq rfl (yUq Y Y Y (hby _ Xd)) Xr ?_);first|refine ytq Y Y Qm ?_|refine zaq Y Y ?_
   refine zaq Y Y (zaq Y Y (zaq Y Y ?_));first|refine ytq Y Y Qm ?_|refine zaq Y Y ?_
   first|refine ytq Y Y Qm ?_|refine zaq Y Y ?_
   refine zaq rfl (yNq (i:=4*t+1) Y Y Y Y Y Y Y Xd) (qJq rfl (yUq Y Y Y (hby _ Xd)) Xr ?_);first|refine ytq Y Y Qm ?_|refine zaq Y Y ?_
   refine zaq Y Y (zaq Y Y (zaq Y Y (zaq Y Y ?_)));first|refine ytq Y Y Qm ?_|refine zaq Y Y ?_
   first|refine ytq Y Y Qm ?_|refine zaq Y Y ?_
   refine zaq rfl (yNq (i:=4*t+2) Y Y Y Y Y Y Y Xd) (qJq rfl (yUq Y Y Y (hby _ Xd)) Xr ?_);first|refine ytq Y Y Qm ?_|refine zaq Y Y ?_
   refine zaq Y Y (zaq Y Y (zaq Y Y (zaq Y Y ?_)));first|refine ytq Y Y Qm ?_|refine zaq Y Y ?_
   first|refine ytq Y Y Qm ?_|refine zaq Y Y ?_
   refine zaq rfl (yNq (i:=4*t+3) Y Y Y Y Y Y Y Xd) (qJq rfl (yUq Y Y Y (hby _ Xd)) Xr ?_);first|refine ytq Y Y Qm ?_|refine zaq Y Y ?_
   refine zaq Y Y (zaq rfl (zHq (i:=t) Y Y Y Y Y Y Xd) ?_);refine qJq rfl (jwq Y Y Y Y Y (y6q h0 Y Y) rfl) Xr (jSq ?_);refine zVq (jkq ?_);refine kNq Xi ?_;refine vyq (zVq (zhq ?_));first|refine qpq Y Y Qm ?_|refine zcq Y Y ?_
   refine zcq Y Y (zIq ?_);refine ypq (t+1) Xd Xd (z6q ⟨rfl,rfl,rfl,rfl,trivial⟩ (congrArg (λL=>[(2,459,W.arr 64 1 L),(0,419,.arr 8 1 s.l),(1,ty,c)]) (key (wordN (bs (4*t)) (bs (4*t+1)) (bs (4*t+2)) (bs (4*t+3))) ?_)) rfl);have hb:Nat.blt (ycq bs t).length 16=true:=by rw[hl];simpa[Nat.blt_eq] using ht2
   unfold k4q;rw[hb];simp only[hl]
  ·have ht2:¬t<16:=by have:=ltI_not.1 hc2;omega
   have hA:∀k,k<t->((pad0 (ycq bs t) 64).map wd)[0+k*1]? =some (wd ((ycq bs t).getD k 0)):=λk hk=>by
    rw[Nat.zero_add,Nat.mul_one];exact pad0_at Xd
   refine y5q (zVq (zwq (qWq (zaq Y Y (fl_nat (t-15) Y Y Yp Qm ?_)))));refine zaq rfl (zHq (i:=t-15) Y Y Y Y Y Y Xd) (qJq rfl (yUq Y Y Y (yxq (hA (t-15) Xd) rfl)) Xr ?_);refine zaq Y Y (fl_nat (t-2) Y Y Yp Qm ?_);refine zaq rfl (zHq (i:=t-2) Y Y Y Y Y Y Xd) (qJq rfl (yUq Y Y Y (yxq (hA (t-2) Xd) rfl)) Xr ?_);refine zaq Y Y (zaq Y Y (jSq ?_));refine zVq (qWq (zaq Y Y (zaq Y Y (fl_nat (t-16) Y Y Yp Qm ?_))));refine zaq rfl (zHq (i:=t-16) Y Y Y Y Y Y Xd) (qJq rfl (yUq Y Y Y (yxq (hA (t-16) Xd) rfl)) Xr (zaq Y Y ?_))
   (refine yIq rfl (yEq Y Y Y Y (q8q _ Xo _ _) Y ?_);rintro w hp1 nw1 ⟨rfl,rfl,rfl⟩;first|refine⟨rfl,rfl,?_⟩|refine⟨rfl,?_⟩)
   refine zaq Y Y ?_
   (refine yIq rfl (yEq Y Y Y Y (q8q _ Xo _ _) Y ?_);rintro w hp1 nw1 ⟨rfl,rfl,rfl⟩;first|refine⟨rfl,rfl,?_⟩|refine⟨rfl,?_⟩)
   refine zaq Y Y (zaq Y Y (zaq Y Y (zaq Y Y ?_)));first|refine ytq Y Y Qm ?_|refine zaq Y Y ?_
   refine zaq Y Y (fl_nat (t-7) Y Y Yp Qm ?_);refine zaq rfl (zHq (i:=t-7) Y Y Y Y Y Y Xd) (qJq rfl (yUq Y Y Y (yxq (hA (t-7) Xd) rfl)) Xr ?_);first|refine ytq Y Y Qm ?_|refine zaq Y Y ?_
   refine zaq Y Y ?_
   (refine yIq rfl (yEq Y Y Y Y (q8q _ Xo _ _) Y ?_);rintro w hp1 nw1 ⟨rfl,rfl,rfl⟩;first|refine⟨rfl,rfl,?_⟩|refine⟨rfl,?_⟩)
   refine zaq Y Y ?_
   (refine yIq rfl (yEq Y Y Y Y (q8q _ Xo _ _) Y ?_);rintro w hp1 nw1 ⟨rfl,rfl,rfl⟩;first|refine⟨rfl,rfl,?_⟩|refine⟨rfl,?_⟩)
   refine zaq Y Y (zaq Y Y (zaq Y Y (zaq Y Y ?_)));first|refine ytq Y Y Qm ?_|refine zaq Y Y ?_
   refine zaq rfl (zHq (i:=t) Y Y Y Y Y Y Xd) (qJq rfl (jwq Y Y Y Y Y (y6q h0 Y Y) rfl) Xr (jSq (qZq Yc ?_)));refine zVq (zhq ?_);first|refine qpq Y Y Qm ?_|refine zcq Y Y ?_
   refine zcq Y Y (zIq ?_);refine ypq (t+1) Xd Xd (z6q ⟨rfl,rfl,rfl,rfl,trivial⟩ (congrArg (λL=>[(2,459,W.arr 64 1 L),(0,419,.arr 8 1 s.l),(1,ty,c)]) (key (addN (addN (addN ((ycq bs t).getD (t-16) 0) (xorN (xorN (rotN ((ycq bs t).getD (t-15) 0) 7) (rotN ((ycq bs t).getD (t-15) 0) 18)) (shrN ((ycq bs t).getD (t-15) 0) 3))) ((ycq bs t).getD (t-7) 0)) (xorN (xorN (rotN ((ycq bs t).getD (t-2) 0) 17) (rotN ((ycq bs t).getD (t-2) 0) 19)) (shrN ((ycq bs t).getD (t-2) 0) 10))) ?_)) rfl)
   have hb:Nat.blt (ycq bs t).length 16=false:=by
    cases hq:Nat.blt (ycq bs t).length 16 with
    |true=>exact absurd (blt_t hq) Xd
    |false=>rfl
   unfold k4q;rw[hb];simp only[hl]
 ·obtain rfl:t=64:=by have:=ltI_not.1 hc1;omega
  have hS:(pad0 (ycq bs 64) 64)=ycq bs 64:=by
   unfold pad0;rw[hl];simp
  simp only[hS];refine jkq (kNq Xi (y9q Xi ?_));refine vyq (zVq (zwq (zhq (zcq Y Y (zcq Y Y (y0q Y Y (y0q Y Y (y0q Y Y (zIq ?_)))))))));refine zVq (zwq (zwq (zhq (zcq Y Y (zIq ?_)))));refine zVq (z7q ?_);refine qhq (λt:Nat=>t<=64) (λt=>[(100,.int .i64 (t:Int)),(8,.ptr 3 0),(4,.ptr 2 0),(0,.ptr 0 0)]) (λt=>[(3,419,.arr 8 1 (k2q (ycq bs 64) s t).l),(2,459,.arr 64 1 ((ycq bs 64).map wd)),(0,419,.arr 8 1 s.l),(1,ty,c)]) (λ_=>4) (λ_=>R) (λt=>64-t) 0 (Nat.zero_le _) ?_ (λt ht=>?_)
  ·exact z6q ⟨rfl,rfl,rfl,rfl,trivial⟩ Y Y
  refine zwq (zhq (zcq Y Y (zIq ?_)));refine zVq (zwq ?_);refine q6q rfl (λhc3=>?_) (λhc3=>?_)
  ·have ht1:t<64:=by have:=ltI_iff.1 hc3;omega
   have hK:ybq 50 (.arr 64 1 (kW.map wd)) (t*1) 1 false=some (wd (kW.getD t 0)):=yxq (by rw[Nat.mul_one];exact u4q (by rw[kW_len];exact ht1)) rfl;have hW:ybq 50 (.arr 64 1 ((ycq bs 64).map wd)) (0+t*1) 1 false=some (wd ((ycq bs 64).getD t 0)):=yxq (by rw[Nat.zero_add,Nat.mul_one];exact u4q Xd) rfl;refine y5q (zVq (zwq (z7q (zwq (zhq (zcq Y Y (zcq Y Y (zIq ?_))))))));refine zVq (zwq (qWq ?_));first|refine zaq Y Y ?_|refine zaq rfl (yNq Y Y Y Y Y Y Y Xd) ?_|refine zaq rfl (zHq Y Y Y Y Y Y Xd) ?_|refine zaq rfl (zAq Y Y Y Y Y Y Y Xn) ?_
   refine qwq Y Y ?_;first|refine zaq Y Y ?_|refine zaq rfl (yNq Y Y Y Y Y Y Y Xd) ?_|refine zaq rfl (zHq Y Y Y Y Y Y Xd) ?_|refine zaq rfl (zAq Y Y Y Y Y Y Y Xn) ?_
   refine qwq Y Y ?_;first|refine zaq Y Y ?_|refine zaq rfl (yNq Y Y Y Y Y Y Y Xd) ?_|refine zaq rfl (zHq Y Y Y Y Y Y Xd) ?_|refine zaq rfl (zAq Y Y Y Y Y Y Y Xn) ?_
   refine qwq Y Y ?_;first|refine zaq Y Y ?_|refine zaq rfl (yNq Y Y Y Y Y Y Y Xd) ?_|refine zaq rfl (zHq Y Y Y Y Y Y Xd) ?_|refine zaq rfl (zAq Y Y Y Y Y Y Y Xn) ?_
   refine qwq Y Y ?_;first|refine zaq Y Y ?_|refine zaq rfl (yNq Y Y Y Y Y Y Y Xd) ?_|refine zaq rfl (zHq Y Y Y Y Y Y Xd) ?_|refine zaq rfl (zAq Y Y Y Y Y Y Y Xn) ?_
   refine qwq Y Y ?_;first|refine zaq Y Y ?_|refine zaq rfl (yNq Y Y Y Y Y Y Y Xd) ?_|refine zaq rfl (zHq Y Y Y Y Y Y Xd) ?_|refine zaq rfl (zAq Y Y Y Y Y Y Y Xn) ?_
   refine qwq Y Y ?_;refine zaq Y Y (zaq Y Y (zaq Y Y (zaq Y Y (zaq Y Y (zaq Y Y (jSq ?_))))));refine zVq (zwq (qWq ?_));first|refine zaq Y Y ?_|refine zaq rfl (yNq Y Y Y Y Y Y Y Xd) ?_|refine zaq rfl (zHq Y Y Y Y Y Y Xd) ?_|refine zaq rfl (zAq Y Y Y Y Y Y Y Xn) ?_
   refine qwq Y Y (zaq Y Y ?_)
   (refine yIq rfl (yEq Y Y Y Y (q8q _ Xo _ _) Y ?_);rintro w hp1 nw1 ⟨rfl,rfl,rfl⟩;first|refine⟨rfl,rfl,?_⟩|refine⟨rfl,?_⟩)
   refine zaq Y Y ?_
   (refine yIq rfl (yEq Y Y Y Y (q8q _ Xo _ _) Y ?_);rintro w hp1 nw1 ⟨rfl,rfl,rfl⟩;first|refine⟨rfl,rfl,?_⟩|refine⟨rfl,?_⟩)
   refine zaq Y Y (zaq Y Y ?_)
   (refine yIq rfl (yEq Y Y Y Y (q8q _ Xo _ _) Y ?_);rintro w hp1 nw1 ⟨rfl,rfl,rfl⟩;first|refine⟨rfl,rfl,?_⟩|refine⟨rfl,?_⟩)
   refine zaq Y Y ?_;first|refine ytq Y Y Qm ?_|refine zaq Y Y ?_
   refine zaq Y Y (zaq Y Y (zaq Y Y (zaq Y Y (zaq Y Y (zaq Y Y (zaq Y Y (zaq Y Y ?_)))))));first|refine ytq Y Y Qm ?_|refine zaq Y Y ?_
   refine zaq Y Y (zaq rfl (ix_fel (i:=t) Y Y Y Y Y Y Xd rfl hK) ?_);refine qwq Y Y ?_;first|refine ytq Y Y Qm ?_|refine zaq Y Y ?_
   refine zaq Y Y (zaq rfl (zHq (i:=t) Y Y Y Y Y Y Xd) ?_);refine qJq rfl (yUq Y Y Y hW) Xr ?_;first|refine ytq Y Y Qm ?_|refine zaq Y Y ?_
   refine zaq Y Y (jSq ?_);refine zVq (zwq (zhq (zcq Y Y ?_)))
   (refine ysq rfl (yEq Y Y Y Y (q8q _ Xo _ _) Y ?_);rintro w hp1 nw1 ⟨rfl,rfl,rfl⟩;first|refine⟨rfl,rfl,?_⟩|refine⟨rfl,?_⟩)
   refine zcq Y Y ?_
   (refine ysq rfl (yEq Y Y Y Y (q8q _ Xo _ _) Y ?_);rintro w hp1 nw1 ⟨rfl,rfl,rfl⟩;first|refine⟨rfl,rfl,?_⟩|refine⟨rfl,?_⟩)
   refine zcq Y Y (zcq Y Y ?_)
   (refine ysq rfl (yEq Y Y Y Y (q8q _ Xo _ _) Y ?_);rintro w hp1 nw1 ⟨rfl,rfl,rfl⟩;first|refine⟨rfl,rfl,?_⟩|refine⟨rfl,?_⟩)
   refine zcq Y Y (zcq Y Y (zcq Y Y (zcq Y Y (zcq Y Y (zcq Y Y (zcq Y Y (zcq Y Y (zcq Y Y (zcq Y Y (zcq Y Y (zcq Y Y ?_)))))))))));first|refine qpq Y Y Qm ?_|refine zcq Y Y ?_
   refine zcq Y Y (zIq ?_);refine zVq (zhq (zcq Y Y (zcq Y Y ?_)));first|refine qpq Y Y Qm ?_|refine zcq Y Y ?_
   refine zcq Y Y (zcq Y Y (zcq Y Y ?_));first|refine zcq Y Y ?_|refine zcq rfl (yNq Y Y Y Y Y Y Y Xd) ?_|refine zcq rfl (zHq Y Y Y Y Y Y Xd) ?_|refine zcq rfl (zAq Y Y Y Y Y Y Y Xn) ?_
   refine y0q Y Y (zcq Y Y ?_);first|refine qpq Y Y Qm ?_|refine zcq Y Y ?_
   refine zcq Y Y (zcq Y Y (zcq Y Y (zcq Y Y (y0q Y Y (zIq ?_)))));refine qZq Yc ?_;refine zVq (zhq ?_);first|refine qpq Y Y Qm ?_|refine zcq Y Y ?_
   refine zcq Y Y (zIq ?_);refine ypq (t+1) Xd Xd (z6q ⟨rfl,rfl,rfl,rfl,trivial⟩ Y Y)
  ·obtain rfl:t=64:=by have:=ltI_not.1 hc3;omega
   refine jkq (kNq Xi (y9q Xi ?_));refine vyq (zVq (zwq (zhq (zcq Y Y (zIq ?_)))));refine zVq (z7q ?_);refine qhq (λi:Nat=>i<=8) (λi=>[(178,.int .i64 (i:Int)),(8,.ptr 3 0),(0,.ptr 0 0)]) (λi=>[(3,419,.arr 8 1 (k2q (ycq bs 64) s 64).l),(0,419,.arr 8 1 (mix8 s (k2q (ycq bs 64) s 64) i)),(1,ty,c)]) (λ_=>4) (λ_=>R) (λi=>8-i) 0 (Nat.zero_le _) ?_ (λi hi=>?_)
   ·exact(ent_del (b:=2)).trans (z6q ⟨rfl,rfl,rfl,trivial⟩ Y Y)
   refine zwq (zhq (zcq Y Y (zIq ?_)));refine zVq (zwq ?_);refine q6q rfl (λhc4=>?_) (λhc4=>?_)
   ·have hi1:i<8:=by have:=ltI_iff.1 hc4;omega
    have hq:i=0\/i=1\/i=2\/i=3\/i=4\/i=5\/i=6\/i=7:=by omega
    skip
    rcases hq with rfl|rfl|rfl|rfl|rfl|rfl|rfl|rfl
    ·skip
     refine y5q (zVq (zwq (z7q (zwq (zhq (zcq Y Y (zcq Y Y (zIq ?_))))))));refine zVq (qWq (zaq Y Y (zaq Y Y (zaq Y Y ?_))));first|refine zaq Y Y ?_|refine zaq rfl (yNq Y Y Y Y Y Y Y Xd) ?_|refine zaq rfl (zHq Y Y Y Y Y Y Xd) ?_|refine zaq rfl (zAq Y Y Y Y Y Y Y Xn) ?_
     refine qwq Y Y (zaq Y Y ?_);first|refine zaq Y Y ?_|refine zaq rfl (yNq Y Y Y Y Y Y Y Xd) ?_|refine zaq rfl (zHq Y Y Y Y Y Y Xd) ?_|refine zaq rfl (zAq Y Y Y Y Y Y Y Xn) ?_
     refine qwq Y Y ?_;first|refine ytq Y Y Qm ?_|refine zaq Y Y ?_
     refine zaq Y Y ?_;first|refine zaq Y Y ?_|refine zaq rfl (yNq Y Y Y Y Y Y Y Xd) ?_|refine zaq rfl (zHq Y Y Y Y Y Y Xd) ?_|refine zaq rfl (zAq Y Y Y Y Y Y Y Xn) ?_
     refine qwq Y Y (jSq (qZq Yc ?_));refine zVq (zhq ?_);first|refine qpq Y Y Qm ?_|refine zcq Y Y ?_
     refine zcq Y Y (zIq ?_);exact ypq 1 Xo Xo (z6q ⟨rfl,rfl,rfl,trivial⟩ Y Y)
    ·skip
     refine y5q (zVq (zwq (z7q (zwq (zhq (zcq Y Y (zcq Y Y (zIq ?_))))))));refine zVq (qWq (zaq Y Y (zaq Y Y (zaq Y Y ?_))));first|refine zaq Y Y ?_|refine zaq rfl (yNq Y Y Y Y Y Y Y Xd) ?_|refine zaq rfl (zHq Y Y Y Y Y Y Xd) ?_|refine zaq rfl (zAq Y Y Y Y Y Y Y Xn) ?_
     refine qwq Y Y (zaq Y Y ?_);first|refine zaq Y Y ?_|refine zaq rfl (yNq Y Y Y Y Y Y Y Xd) ?_|refine zaq rfl (zHq Y Y Y Y Y Y Xd) ?_|refine zaq rfl (zAq Y Y Y Y Y Y Y Xn) ?_
     refine qwq Y Y ?_;first|refine ytq Y Y Qm ?_|refine zaq Y Y ?_
     refine zaq Y Y ?_;first|refine zaq Y Y ?_|refine zaq rfl (yNq Y Y Y Y Y Y Y Xd) ?_|refine zaq rfl (zHq Y Y Y Y Y Y Xd) ?_|refine zaq rfl (zAq Y Y Y Y Y Y Y Xn) ?_
     refine qwq Y Y (jSq (qZq Yc ?_));refine zVq (zhq ?_);first|refine qpq Y Y Qm ?_|refine zcq Y Y ?_
     refine zcq Y Y (zIq ?_);exact ypq 2 Xo Xo (z6q ⟨rfl,rfl,rfl,trivial⟩ Y Y)
    ·skip
     refine y5q (zVq (zwq (z7q (zwq (zhq (zcq Y Y (zcq Y Y (zIq ?_))))))));refine zVq (qWq (zaq Y Y (zaq Y Y (zaq Y Y ?_))));first|refine zaq Y Y ?_|refine zaq rfl (yNq Y Y Y Y Y Y Y Xd) ?_|refine zaq rfl (zHq Y Y Y Y Y Y Xd) ?_|refine zaq rfl (zAq Y Y Y Y Y Y Y Xn) ?_
     refine qwq Y Y (zaq Y Y ?_);first|refine zaq Y Y ?_|refine zaq rfl (yNq Y Y Y Y Y Y Y Xd) ?_|refine zaq rfl (zHq Y Y Y Y Y Y Xd) ?_|refine zaq rfl (zAq Y Y Y Y Y Y Y Xn) ?_
     refine qwq Y Y ?_;first|refine ytq Y Y Qm ?_|refine zaq Y Y ?_
     refine zaq Y Y ?_;first|refine zaq Y Y ?_|refine zaq rfl (yNq Y Y Y Y Y Y Y Xd) ?_|refine zaq rfl (zHq Y Y Y Y Y Y Xd) ?_|refine zaq rfl (zAq Y Y Y Y Y Y Y Xn) ?_
     refine qwq Y Y (jSq (qZq Yc ?_));refine zVq (zhq ?_);first|refine qpq Y Y Qm ?_|refine zcq Y Y ?_
     refine zcq Y Y (zIq ?_);exact ypq 3 Xo Xo (z6q ⟨rfl,rfl,rfl,trivial⟩ Y Y)
    ·skip
     refine y5q (zVq (zwq (z7q (zwq (zhq (zcq Y Y (zcq Y Y (zIq ?_))))))));refine zVq (qWq (zaq Y Y (zaq Y Y (zaq Y Y ?_))));first|refine zaq Y Y ?_|refine zaq rfl (yNq Y Y Y Y Y Y Y Xd) ?_|refine zaq rfl (zHq Y Y Y Y Y Y Xd) ?_|refine zaq rfl (zAq Y Y Y Y Y Y Y Xn) ?_
     refine qwq Y Y (zaq Y Y ?_);first|refine zaq Y Y ?_|refine zaq rfl (yNq Y Y Y Y Y Y Y Xd) ?_|refine zaq rfl (zHq Y Y Y Y Y Y Xd) ?_|refine zaq rfl (zAq Y Y Y Y Y Y Y Xn) ?_
     refine qwq Y Y ?_;first|refine ytq Y Y Qm ?_|refine zaq Y Y ?_
     refine zaq Y Y ?_;first|refine zaq Y Y ?_|refine zaq rfl (yNq Y Y Y Y Y Y Y Xd) ?_|refine zaq rfl (zHq Y Y Y Y Y Y Xd) ?_|refine zaq rfl (zAq Y Y Y Y Y Y Y Xn) ?_
     refine qwq Y Y (jSq (qZq Yc ?_));refine zVq (zhq ?_);first|refine qpq Y Y Qm ?_|refine zcq Y Y ?_
     refine zcq Y Y (zIq ?_);exact ypq 4 Xo Xo (z6q ⟨rfl,rfl,rfl,trivial⟩ Y Y)
    ·skip
     refine y5q (zVq (zwq (z7q (zwq (zhq (zcq Y Y (zcq Y Y (zIq ?_))))))));refine zVq (qWq (zaq Y Y (zaq Y Y (zaq Y Y ?_))));first|refine zaq Y Y ?_|refine zaq rfl (yNq Y Y Y Y Y Y Y Xd) ?_|refine zaq rfl (zHq Y Y Y Y Y Y Xd) ?_|refine zaq rfl (zAq Y Y Y Y Y Y Y Xn) ?_
     refine qwq Y Y (zaq Y Y ?_);first|refine zaq Y Y ?_|refine zaq rfl (yNq Y Y Y Y Y Y Y Xd) ?_|refine zaq rfl (zHq Y Y Y Y Y Y Xd) ?_|refine zaq rfl (zAq Y Y Y Y Y Y Y Xn) ?_
     refine qwq Y Y ?_;first|refine ytq Y Y Qm ?_|refine zaq Y Y ?_
     refine zaq Y Y ?_;first|refine zaq Y Y ?_|refine zaq rfl (yNq Y Y Y Y Y Y Y Xd) ?_|refine zaq rfl (zHq Y Y Y Y Y Y Xd) ?_|refine zaq rfl (zAq Y Y Y Y Y Y Y Xn) ?_
     refine qwq Y Y (jSq (qZq Yc ?_));refine zVq (zhq ?_);first|refine qpq Y Y Qm ?_|refine zcq Y Y ?_
     refine zcq Y Y (zIq ?_);exact ypq 5 Xo Xo (z6q ⟨rfl,rfl,rfl,trivial⟩ Y Y)
    ·skip
     refine y5q (zVq (zwq (z7q (zwq (zhq (zcq Y Y (zcq Y Y (zIq ?_))))))));refine zVq (qWq (zaq Y Y (zaq Y Y (zaq Y Y ?_))));first|refine zaq Y Y ?_|refine zaq rfl (yNq Y Y Y Y Y Y Y Xd) ?_|refine zaq rfl (zHq Y Y Y Y Y Y Xd) ?_|refine zaq rfl (zAq Y Y Y Y Y Y Y Xn) ?_
     refine qwq Y Y (zaq Y Y ?_);first|refine zaq Y Y ?_|refine zaq rfl (yNq Y Y Y Y Y Y Y Xd) ?_|refine zaq rfl (zHq Y Y Y Y Y Y Xd) ?_|refine zaq rfl (zAq Y Y Y Y Y Y Y Xn) ?_
     refine qwq Y Y ?_;first|refine ytq Y Y Qm ?_|refine zaq Y Y ?_
     refine zaq Y Y ?_;first|refine zaq Y Y ?_|refine zaq rfl (yNq Y Y Y Y Y Y Y Xd) ?_|refine zaq rfl (zHq Y Y Y Y Y Y Xd) ?_|refine zaq rfl (zAq Y Y Y Y Y Y Y Xn) ?_
     refine qwq Y Y (jSq (qZq Yc ?_));refine zVq (zhq ?_);first|refine qpq Y Y Qm ?_|refine zcq Y Y ?_
     refine zcq Y Y (zIq ?_);exact ypq 6 Xo Xo (z6q ⟨rfl,rfl,rfl,trivial⟩ Y Y)
    ·skip
     refine y5q (zVq (zwq (z7q (zwq (zhq (zcq Y Y (zcq Y Y (zIq ?_))))))));refine zVq (qWq (zaq Y Y (zaq Y Y (zaq Y Y ?_))));first|refine zaq Y Y ?_|refine zaq rfl (yNq Y Y Y Y Y Y Y Xd) ?_|refine zaq rfl (zHq Y Y Y Y Y Y Xd) ?_|refine zaq rfl (zAq Y Y Y Y Y Y Y Xn) ?_
     refine qwq Y Y (zaq Y Y ?_);first|refine zaq Y Y ?_|refine zaq rfl (yNq Y Y Y Y Y Y Y Xd) ?_|refine zaq rfl (zHq Y Y Y Y Y Y Xd) ?_|refine zaq rfl (zAq Y Y Y Y Y Y Y Xn) ?_
     refine qwq Y Y ?_;first|refine ytq Y Y Qm ?_|refine zaq Y Y ?_
     refine zaq Y Y ?_;first|refine zaq Y Y ?_|refine zaq rfl (yNq Y Y Y Y Y Y Y Xd) ?_|refine zaq rfl (zHq Y Y Y Y Y Y Xd) ?_|refine zaq rfl (zAq Y Y Y Y Y Y Y Xn) ?_
     refine qwq Y Y (jSq (qZq Yc ?_));refine zVq (zhq ?_);first|refine qpq Y Y Qm ?_|refine zcq Y Y ?_
     refine zcq Y Y (zIq ?_);exact ypq 7 Xo Xo (z6q ⟨rfl,rfl,rfl,trivial⟩ Y Y)
    ·skip
     refine y5q (zVq (zwq (z7q (zwq (zhq (zcq Y Y (zcq Y Y (zIq ?_))))))));refine zVq (qWq (zaq Y Y (zaq Y Y (zaq Y Y ?_))));first|refine zaq Y Y ?_|refine zaq rfl (yNq Y Y Y Y Y Y Y Xd) ?_|refine zaq rfl (zHq Y Y Y Y Y Y Xd) ?_|refine zaq rfl (zAq Y Y Y Y Y Y Y Xn) ?_
     refine qwq Y Y (zaq Y Y ?_);first|refine zaq Y Y ?_|refine zaq rfl (yNq Y Y Y Y Y Y Y Xd) ?_|refine zaq rfl (zHq Y Y Y Y Y Y Xd) ?_|refine zaq rfl (zAq Y Y Y Y Y Y Y Xn) ?_
     refine qwq Y Y ?_;first|refine ytq Y Y Qm ?_|refine zaq Y Y ?_
     refine zaq Y Y ?_;first|refine zaq Y Y ?_|refine zaq rfl (yNq Y Y Y Y Y Y Y Xd) ?_|refine zaq rfl (zHq Y Y Y Y Y Y Xd) ?_|refine zaq rfl (zAq Y Y Y Y Y Y Y Xn) ?_
     refine qwq Y Y (jSq (qZq Yc ?_));refine zVq (zhq ?_);first|refine qpq Y Y Qm ?_|refine zcq Y Y ?_
     refine zcq Y Y (zIq ?_);exact ypq 8 Xo Xo (z6q ⟨rfl,rfl,rfl,trivial⟩ Y Y)
   ·obtain rfl:i=8:=by have:=ltI_not.1 hc4;omega
    refine jkq (kNq Xi (y9q Xi (vyq ?_)));refine fin (.inl rfl) (kFq (fr2:=[]) (hp2:=[(0,419,.arr 8 1 (q1q bs s).l),(1,ty,c)]) (nw2:=2) Xd Xd trivial rfl (jOq ⟨⟨by omega,rfl,rfl⟩,⟨by omega,rfl,hc⟩,trivial⟩) Xk) rfl ⟨rfl,rfl,rfl,rfl⟩
noncomputable def atL(r:List Nat)(i:Nat):Nat:=r.getD i 0
noncomputable def eat:Nat->S8->List Nat->S8×List Nat
 |0,s,r=>(s,r)
 |n+1,s,r=>match Nat.ble 64 r.length with
  |true=>eat n (q1q (atL r) s) (r.drop 64)
  |false=>(s,r)
theorem jsq:∀(n:Nat) (s:S8) (r:List Nat),r.length<64->eat n s r=(s,r)
 |0,_,_,_=>rfl
 |n+1,s,r,h=>by
  have:Nat.ble 64 r.length=false:=by
   cases hq:Nat.ble 64 r.length with
   |true=>have:=Yb hq;omega
   |false=>rfl
  simp only[eat,this]
theorem Qcq{n:Nat}{s:S8}{r:List Nat}(h:64<=r.length):eat (n+1) s r=eat n (q1q (atL r) s) (r.drop 64):=by
 simp only[eat,Nat.ble_eq_true_of_le h]
theorem eat_fuel:∀(n m:Nat) (s:S8) (r:List Nat),r.length<=n->r.length<=m->eat n s r=eat m s r
 |0,m,s,r,h,_=>by rw[jsq m s r Xd];rfl
 |n+1,0,s,r,_,h=>by rw[jsq _ s r Xd];rfl
 |n+1,m+1,s,r,h1,h2=>by
  by_cases h:64<=r.length
  ·rw[Qcq h,Qcq h];exact eat_fuel n m _ _ Xp Xp
  ·rw[jsq _ s r Xd,jsq _ s r Xd]
noncomputable def eats(s:S8)(r:List Nat):S8×List Nat:=eat r.length s r
theorem Zuq{s:S8}{r:List Nat}(h:64<=r.length):eats s r=eats (q1q (atL r) s) (r.drop 64):=by
 unfold eats;obtain⟨n,hn⟩:∃n,r.length=n+1:=⟨r.length-1,by omega⟩
 rw[hn,Qcq h];exact eat_fuel _ _ _ _ Xp (Nat.le_refl _)
noncomputable def xlq(a:S8×List Nat)(p:List Nat):S8×List Nat:=eats a.1 (a.2++p)
noncomputable def s0:S8:=⟨1779033703,3144134277,1013904242,2773480762,1359893119,2600822924,528734635,1541459225⟩
noncomputable def padZ:Nat->List Nat->List Nat
 |0,r=>r
 |n+1,r=>match Nat.beq (r.length%64) 56 with
  |true=>r
  |false=>padZ n (r++[0])
noncomputable def len8(many:Nat):List Nat:=[56,48,40,32,24,16,8,0].map λi=>Nat.shiftRight (8*many%18446744073709551616) i%256
noncomputable def qxq:Nat->S8->List Nat->S8
 |0,s,_=>s
 |n+1,s,r=>match Nat.ble 1 r.length with
  |true=>qxq n (q1q (atL r) s) (r.drop 64)
  |false=>s
theorem jvq:∀(n:Nat) (s:S8),qxq n s []=s
 |0,_=>rfl
 |n+1,s=>rfl
theorem xYq{n:Nat}{s:S8}{r:List Nat}(h:1<=r.length):qxq (n+1) s r=qxq n (q1q (atL r) s) (r.drop 64):=by
 simp only[qxq,Nat.ble_eq_true_of_le h]
theorem Zvq:∀(n m:Nat) (s:S8) (r:List Nat),r.length<=n->r.length<=m->qxq n s r=qxq m s r
 |0,m,s,r,h,_=>by
  obtain rfl:r=[]:=List.length_eq_zero_iff.1 Xd;rw[jvq,jvq]
 |n+1,0,s,r,_,h=>by
  obtain rfl:r=[]:=List.length_eq_zero_iff.1 Xd;rw[jvq,jvq]
 |n+1,m+1,s,r,h1,h2=>by
  by_cases h:1<=r.length
  ·rw[xYq h,xYq h];exact Zvq n m _ _ Xp Xp
  ·obtain rfl:r=[]:=List.length_eq_zero_iff.1 Xd;rw[jvq,jvq]
theorem xXq{s:S8}{r:List Nat}(h:1<=r.length):qxq r.length s r=qxq (r.drop 64).length (q1q (atL r) s) (r.drop 64):=by
 obtain⟨n,hn⟩:∃n,r.length=n+1:=⟨r.length-1,by omega⟩
 rw[hn,xYq h];exact Zvq _ _ _ _ Xp (Nat.le_refl _)
noncomputable def S8.get(s:S8):Nat->Nat
 |0=>s.a
 |1=>s.b
 |2=>s.c
 |3=>s.d
 |4=>s.e
 |5=>s.f
 |6=>s.g
 |_=>s.h
noncomputable def digN(s:S8):List Nat:=(List.range 32).map λi=>Nat.shiftRight (s.get (i/4)) (24-8*(i%4))%256
noncomputable def yRq(ps:List (List Nat)):Nat:=(ps.map List.length).foldr (· + ·) 0
noncomputable def shaN(ps:List (List Nat)):List Nat:=
 let a:=ps.foldl xlq (s0,[])
 let r:=padZ 64 (a.2++[128])++len8 (yRq ps)
 digN (qxq r.length a.1 r)
inductive Rst where
 |nil
 |sl (all:List Nat) (base off:Nat)
noncomputable def Rst.w:Rst->W
 |.nil=>.nils
 |.sl all base off=>.sl 2 base off (all.length-off) 1 none
noncomputable def Rst.hp:Rst->HpW
 |.nil=>[]
 |.sl all _ _=>[(2,5,.arr all.length 1 (bN all))]
noncomputable def Rst.r:Rst->List Nat
 |.nil=>[]
 |.sl all _ off=>all.drop off
noncomputable def Rst.ok:Rst->Prop
 |.nil=>True
 |.sl all _ off=>off<=all.length/\all.length<4294967296
noncomputable def Rst.nw:Rst->Nat
 |.nil=>2
 |.sl _ _ _=>3
noncomputable def hpS(x:Rst)(d:W)(s:S8):HpW:=x.hp++[(1,419,.arr 8 1 s.l),(0,29,d)]
noncomputable def jaq:W:=.arr 32 1 (List.replicate 32 (.int .u8 0))
noncomputable def ZXq(p:List Nat×Bool):W:=.fz (bN p.1) 1 p.2
theorem app_r(r:Rst)(hr:r.ok)(d:W)(s:S8)(p:List Nat)(f:Bool)(hp:p.length<2147483648)(h64:r.r.length<64):∃w hp' nw ev,appW cfg (hpS r d s) r.nw 99 99 r.w (.fz (bN p) 1 f)=some (w,hp',nw,ev)/\
  ∃r':Rst,r'.ok/\r'.r=r.r++p/\((w=r'.w/\hp'=hpS r' d s/\nw=r'.nw)\/∃all,r'= .sl all 0 0/\w= .sl 3 0 0 all.length 1 none/\hp'=[(3,5,.arr all.length 1 (bN all)),(1,419,.arr 8 1 s.l),(0,29,d)]/\nw=4):=by
 cases r with
 |nil=>cases p with
  |nil=>exact⟨_,_,_,_,rfl,.nil,trivial,rfl,.inl ⟨rfl,rfl,rfl⟩⟩
  |cons a l=>
   have hl:(bN (a::l)).length=l.length+1:=by rw[jLq];rfl
   have hlt:l.length+1<2147483648:=hp;have hbl:(bN (a::l)).length*1<=140737488355328:=by omega
   refine⟨_,_,_,_,x3q (k:=ti5) Y Y Y Y Y (by simp[bN]) hbl Xd,.sl (a::l) 0 0,⟨Nat.zero_le _,by show l.length+1<_;omega⟩,rfl,.inl ⟨?_,?_,rfl⟩⟩
   ·rw[jLq];rfl
   ·rw[jLq,show(ti5).size=1 from rfl,Nat.mul_one];rfl
 |sl all base off=>
  obtain⟨h1,h2⟩:=hr;cases p with
  |nil=>exact⟨_,_,_,_,rfl,.sl all base off,⟨h1,h2⟩,by simp,.inl ⟨rfl,rfl,rfl⟩⟩
  |cons a l=>
   have hl:(bN (a::l)).length=l.length+1:=by rw[jLq];rfl
   have hlt:l.length+1<2147483648:=hp;have hbl:(all.length-off+(bN (a::l)).length)*1<=140737488355328:=by omega
   have hdt:((bN all).drop off).take (all.length-off)=bN (all.drop off):=by
    rw[List.take_of_length_le (by simp[jLq])];simp[bN,List.map_drop]
   refine⟨_,_,_,_,qLq (k:=ti5) (v:=.arr all.length 1 (bN all)) (off:=off) Y Y Y Y Y (by simp[bN]) hbl Xd Y ?_ rfl (x9q Xd),.sl (all.drop off++a::l) 0 0,⟨Nat.zero_le _,?_⟩,rfl,.inr ⟨_,rfl,?_,?_,rfl⟩⟩
   ·show all.length<off+(all.length-off+(bN (a::l)).length)*1;omega
   ·simp only[Rst.r,List.length_drop] at h64;simp only[List.length_append,List.length_drop,List.length_cons];omega
   ·simp only[hl,List.length_append,List.length_drop,List.length_cons];rfl
   ·rw[hdt,hl];simp only[List.length_append,List.length_drop,List.length_cons,show(ti5).size=1 from rfl,Nat.mul_one];rw[show bN (all.drop off)++bN (a::l)=bN (all.drop off++a::l) by simp[bN]];rfl
theorem padZ_spec:∀(n j:Nat) (r:List Nat),(∀i,i<j->(r.length+i)%64≠56) ->(r.length+j)%64=56->j<=n->padZ n r=r++List.replicate j 0
 |0,j,r,_,_,h=>by
  obtain rfl:j=0:=by omega
  simp[padZ]
 |n+1,0,r,_,h,_=>by
  have:Nat.beq (r.length%64) 56=true:=by rw[Nat.beq_eq];simpa using h
  simp only[padZ,this];simp
 |n+1,j+1,r,h1,h2,h3=>by
  have:Nat.beq (r.length%64) 56=false:=by
   cases hq:Nat.beq (r.length%64) 56 with
   |true=>rw[Nat.beq_eq] at hq;exact absurd (by simpa using hq) (h1 0 Xd)
   |false=>rfl
  simp only[padZ,this];rw[padZ_spec n j (r++[0]) (λi hi=>by simp only[List.length_append,List.length_singleton];have:=h1 (i+1) Xd;rwa[show r.length+1+i=r.length+(i+1) by omega]) (by simp only[List.length_append,List.length_singleton];rwa[show r.length+1+j=r.length+(j+1) by omega]) Xd];rw[List.append_assoc];rfl
theorem S8_at(s:S8){k:Nat}(h:k<8):s.l[0+k*1]? =some (wd (s.get k)):=by
 have hq:k=0\/k=1\/k=2\/k=3\/k=4\/k=5\/k=6\/k=7:=by omega
 rcases hq with rfl|rfl|rfl|rfl|rfl|rfl|rfl|rfl<;>rfl
noncomputable def dI(s:S8)(i:Nat):List Nat:=(digN s).take i++List.replicate (32-i) 0
theorem uyq(s:S8):(digN s).length=32:=by simp[digN]
theorem dI_len(s:S8){i:Nat}(h:i<=32):(dI s i).length=32:=by simp[dI,uyq];omega
theorem dI_at(s:S8){i:Nat}(h:i<32):(bN (dI s i))[0+i*1]? =some (.int .u8 (.ofNat 0)):=by
 rw[Nat.zero_add,Nat.mul_one,bN_at (by rw[dI_len s Xd];exact h)]
 have:(dI s i).getD i 0=0:=by
  simp[dI,List.getD,List.getElem?_append,uyq,show min i 32=i by omega,List.getElem?_replicate,show 0<32-i by omega]
 rw[this]
theorem dI_set(s:S8){i:Nat}(h:i<32):(bN (dI s i)).set (0+i*1) (.int .u8 (.ofNat (Nat.shiftRight (s.get (i/4)) (min (24-8*(i%4)) 32)%256)))=bN (dI s (i+1)):=by
 have e:(digN s).take (i+1)=(digN s).take i++[Nat.shiftRight (s.get (i/4)) (24-8*(i%4))%256]:=by
  rw[List.take_add_one];congr 1
  simp[digN,List.getElem?_map,List.getElem?_range h]
 have hm:min (24-8*(i%4)) 32=24-8*(i%4):=by omega
 have hl:((digN s).take i).length=i:=by simp[uyq];omega
 rw[Nat.zero_add,Nat.mul_one,hm];unfold bN;rw[<-List.map_set (f:=λc=>W.int .u8 (.ofNat c))];congr 1
 unfold dI;rw[e,show 32-i=(32-(i+1))+1 by omega,List.replicate_succ,List.set_append_right _ _ Xd,hl,Nat.sub_self,List.set_cons_zero,List.append_assoc];rfl
theorem mid1(L:List Nat)(c:Nat):some (W.sl 4 0 0 (L.length+(bN [c]).length) 1 none)=some (renW (tau1 2 4) (W.sl 2 0 0 (L++[c]).length 1 none)):=by
 rw[List.length_append];rfl
theorem mid2(L:List Nat)(c:Nat):some (5,W.arr ((L.length+(bN [c]).length)*1) 1 (((bN L).drop 0).take L.length++bN [c]))=some (5,renW (tau1 2 4) (W.arr (L++[c]).length 1 (bN (L++[c])))):=by
 rw[z4q (show purW (.arr (L++[c]).length 1 (bN (L++[c])))=true from vvq _),List.drop_zero,List.take_of_length_le (by rw[jLq];exact Nat.le_refl _),Nat.mul_one,List.length_append];simp[bN]
theorem parts_pur:∀ps:List (List Nat×Bool),purL (ps.map ZXq)=true
 |[]=>rfl
 |p::ps=>by simp only[List.map_cons,purL,ZXq,purW,vvq,Bool.true_and];exact parts_pur ps
set_option maxHeartbeats 1600000 in
theorem of_s(ps:List (List Nat×Bool))(fl:Bool)(hb:yRq (ps.map (·.1))<2147483648)(hpn:ps.length<2147483648)(R:Res):
  Spec cfg glK 245 0 [.fz (ps.map ZXq) 1 fl] [] R λw hp nw R'=>R'=R/\w= .arr 32 1 (bN (shaN (ps.map (·.1)))):=by
 refine uTq (fn:=Tryz.f245) Y Y Y (Yb rfl) (λk0=>?_);refine zwq (zhq (y0q Y Y (zIq ?_)));refine zVq (zwq (zhq (zcq Y Y (y0q Y Y (y0q Y Y (zIq ?_))))));refine zVq (zwq (zhq (zcq Y Y (zIq ?_))));refine zVq (zwq (zhq (zcq Y Y (zIq ?_))));refine zVq (zwq (zwq (zhq (zcq Y Y (zcq Y Y (zcq Y Y (zIq ?_)))))));refine zVq (z7q ?_);refine qhq (α:=Nat×S8×Rst) (λa=>a.1<=ps.length/\a.2.2.ok/\(a.2.1,a.2.2.r)=((ps.map (·.1)).take a.1).foldl xlq (s0,[])/\a.2.2.r.length<64) (λa=>[(13,.int .i64 (a.1:Int)),(12,.int .i64 (ps.length:Int)),(11,.fz (ps.map ZXq) 1 fl),(5,.int .u64 (yRq ((ps.map (·.1)).take a.1):Int)),(4,a.2.2.w),(3,.ptr 1 0),(2,.ptr 0 0)]) (λa=>hpS a.2.2 jaq a.2.1) (λa=>a.2.2.nw) (λ_=>R) (λa=>ps.length-a.1) (0,s0,.nil) ⟨Nat.zero_le _,trivial,rfl,by decide⟩ ?_ (λa ha=>?_)
 ·exact z6q ⟨rfl,by simp[getW,putW],rfl,rfl,rfl,rfl,rfl,trivial⟩ Y Y
 have hPp:purW (.fz (ps.map ZXq) 1 fl)=true:=parts_pur ps;obtain⟨i,s,r⟩:=a;obtain⟨hi,hok,hfold,hr64⟩:=ha;refine zwq (zhq (zcq Y Y (zIq ?_)));refine zVq (zwq ?_);refine q6q rfl (λhc1=>?_) (λhc1=>?_)
 ·simp only at hi hok hfold hr64;have hi1:i<ps.length:=by have:=ltI_iff.1 hc1;simp only at this;omega
  obtain⟨p,hp⟩:∃p,ps[i]? =some p:=⟨_,List.getElem?_eq_getElem hi1⟩
  have hpw:(ps.map ZXq)[i]? =some (.fz (bN p.1) 1 p.2):=by rw[List.getElem?_map,hp];rfl
  have htk:(ps.map (·.1)).take (i+1)=(ps.map (·.1)).take i++[p.1]:=by
   rw[List.take_add_one,List.getElem?_map,hp];rfl
  have htot:∀l r:List (List Nat),yRq (l++r)=yRq l+yRq r:=λl r=>by
   unfold yRq;induction l with
   |nil=>simp
   |cons x l ih=>simp only[List.cons_append,List.map_cons,List.foldr_cons,ih];omega
  have ht1:yRq ((ps.map (·.1)).take (i+1))=yRq ((ps.map (·.1)).take i)+p.1.length:=by rw[htk,htot];simp[yRq]
  have htle:yRq ((ps.map (·.1)).take (i+1))<=yRq (ps.map (·.1)):=by
   have:=htot ((ps.map (·.1)).take (i+1)) ((ps.map (·.1)).drop (i+1));rw[List.take_append_drop] at this;omega
  have hpl:p.1.length<2147483648:=by omega
  refine y5q (zVq (zwq (z7q (zwq (zhq (zcq rfl (zAq (i:=i) Y Y Y Y Y Y Y hpw) (y0q Y Y (zcq Y Y (zIq ?_)))))))));refine zVq (zwq (zhq (zcq Y Y (zcq Y Y (jRq Y Y (show _=W.int .i64 (p.1.length:Int) by first|rfl|(simp[jLq];done)|(simp[jLq];rfl)) ?_)))));refine v9q (p.1.length) Y Y Yp Qm (v9q (yRq ((ps.map (·.1)).take i)+p.1.length) Y Y Yp Qm ?_);refine zcq Y Y (zIq ?_);refine zVq ?_;refine co_cut (α:=Rst) (λr'=>r'.ok/\r'.r=r.r++p.1) (λr'=>[(13,.int .i64 (i:Int)),(12,.int .i64 (ps.length:Int)),(11,.fz (ps.map ZXq) 1 fl),(5,.int .u64 (yRq ((ps.map (·.1)).take (i+1)):Int)),(4,r'.w),(3,.ptr 1 0),(2,.ptr 0 0)]) (λr'=>hpS r' jaq s) (λr'=>r'.nw) ?_ (λa ha=>?_)
  ·obtain⟨w,hp',nw',ev,e1,r',e2,e3,e4⟩:=app_r r hok jaq s p.1 p.2 hpl hr64;refine zhq (zcq Y Y (zcq Y Y (y0q rfl (yGq Y Y e1) (zcq Y Y (zIq ?_)))));refine⟨rfl,r',⟨e2,e3⟩,?_⟩;rcases e4 with ⟨rfl,rfl,rfl⟩|⟨all,rfl,rfl,rfl,rfl⟩
   ·exact z6q ⟨rfl,rfl,rfl,by rw[ht1];rfl,rfl,rfl,rfl,trivial⟩ Y Y
   ·refine qzq (b:=2) (k:=3) Xd Xd Xd ⟨⟨rfl,rfl⟩,⟨rfl,rfl⟩,⟨by rw[z4q hPp];rfl,zmq hPp⟩,⟨by rw[ht1];rfl,rfl⟩,⟨rfl,rfl⟩,⟨rfl,rfl⟩,⟨rfl,rfl⟩,trivial⟩ ⟨⟨by omega,by rw[z4q (show purW (.arr all.length 1 (bN all))=true from vvq _)];rfl,zmq (show purW (.arr all.length 1 (bN all))=true from vvq _)⟩,⟨by omega,rfl,rfl⟩,⟨by omega,rfl,rfl⟩,trivial⟩ Yw
  obtain⟨hak,har⟩:=ha;have hstep:(ps.map (·.1)).take (i+1)=(ps.map (·.1)).take i++[p.1]:=htk;have hnext:((ps.map (·.1)).take (i+1)).foldl xlq (s0,[])=xlq (s,r.r) p.1:=by rw[hstep,List.foldl_append,<-hfold];rfl
  refine z7q ?_;refine qhq (α:=S8×Rst) (λb=>b.2.ok/\eats b.1 b.2.r=xlq (s,r.r) p.1) (λb=>[(13,.int .i64 (i:Int)),(12,.int .i64 (ps.length:Int)),(11,.fz (ps.map ZXq) 1 fl),(5,.int .u64 (yRq ((ps.map (·.1)).take (i+1)):Int)),(4,b.2.w),(3,.ptr 1 0),(2,.ptr 0 0)]) (λb=>hpS b.2 jaq b.1) (λb=>b.2.nw) (λ_=>R) (λb=>b.2.r.length) (s,a) ⟨hak,by simp only[xlq,har]⟩ (Ent.refl) (λb hb=>?_);obtain⟨s',r'⟩:=b;obtain⟨hok',heat⟩:=hb;simp only at hok' heat
  have done:r'.r.length<64->(s',r'.r)=((ps.map (·.1)).take (i+1)).foldl xlq (s0,[]):=λh=>by
   rw[hnext,<-heat,eats,jsq _ _ _ h]
  skip
  cases r' with
  |nil=>
   refine zwq (zwq (zhq (zcq Y Y (zcq Y Y (zcq Y Y (zIq ?_))))));refine zVq (Qgq rfl (jkq ?_));refine kNq Xi (y9q Xi ?_);refine vyq (qZq Yc ?_);refine zVq (zhq (v9q (i+1) Y Y Yp Qm ?_));refine zcq Y Y (zIq ?_);refine ypq (i+1,s',.nil) ⟨hi1,trivial,done (by show 0<64;omega),(by show 0<64;omega)⟩ Ya (z6q ⟨rfl,rfl,rfl,rfl,rfl,rfl,rfl,trivial⟩ Y Y)
  |sl all base off=>
   obtain⟨ho1,ho2⟩:=hok';have hrl:(Rst.sl all base off).r.length=all.length-off:=by simp[Rst.r]
   refine zwq (zwq (zhq (zcq Y Y (jRq Y Y (show _=W.int .i64 ((all.length-off:Nat):Int) by first|rfl|(simp[jLq];done)|(simp[jLq];rfl)) ?_))));refine zcq Y Y (zIq ?_);refine zVq ?_;refine q6q rfl (λhc2=>?_) (λhc2=>?_)
   ·have h64:64<=all.length-off:=by
     have:=hc2;simp only[Bool.not_eq_true'] at this;have:=ltI_not.1 this;omega
    have hpa:purW (.arr all.length 1 (bN all))=true:=vvq all
    have hby:∀k,k<64->ybq 50 (.arr all.length 1 (bN all)) (off+0*1+k*1) 1 false=some (.int .u8 (.ofNat (atL (all.drop off) k))):=λk hk=>by
     have:=bN_at (l:=all) (i:=off+k) Xd;refine yxq ?_ rfl;rw[Nat.zero_mul,Nat.add_zero,Nat.mul_one,this];simp[atL,List.getD,List.getElem?_drop]
    have hr':(Rst.sl all off (off+64)).r=((Rst.sl all base off).r).drop 64:=by simp[Rst.r]
    refine y5q (zVq (zwq (z7q (zhq (zcq Y Y (zcq rfl (cut_hi (h:=64) Y Y Y Y Y Y Y h64) ?_))))))
    (refine ysq rfl (kYq (ext:=[1,2]) (ws:=[.ptr 0 0,.sl 1 base (off+0*1) (64-0) 1 none]) Y Y Y Y Y (λR=>block_s s' (atL (all.drop off)) (.arr all.length 1 (bN all)) base _ none 5 (zmq hpa) hby R) Xo Qi Xk (handed2 rfl (by rw[z4q hpa];rfl) rfl (zmq hpa)) Y ?_);rintro w hp1 nw1 ⟨rfl,rfl,rfl⟩)
    refine zIq (qZq Yc ?_);refine zVq (zhq (zcq Y Y (zcq rfl (cut_lo (l:=64) Y Y Y Y Y Y Y h64 rfl) (zcq Y Y (zIq ?_)))));refine ypq (q1q (atL (all.drop off)) s',.sl all off (off+64)) ⟨⟨by omega,ho2⟩,?_⟩ (by simp only[hr'];simp only[hrl,List.length_drop];omega) (kFq Xd (Nat.le_refl _) ⟨rfl,rfl,rfl,rfl,?_,rfl,rfl,trivial⟩ (by simp only[List.all_cons,List.all_nil,zmq hPp,Bool.and_true];rfl) (jOq ⟨⟨by show 2<3;omega,by show some (5,renW _ (W.arr all.length 1 (bN all)))=_;rw[z4q hpa],zmq hpa⟩,⟨by show 1<3;omega,rfl,rfl⟩,⟨by show 0<3;omega,rfl,rfl⟩,trivial⟩) Yw)
    ·rw[hr',<-heat];exact(Zuq (r:=(Rst.sl all base off).r) (by rw[hrl];exact h64)).symm
    ·show some (W.sl 2 off (off+64*1) (all.length-off-64) 1 (qvq 64 none))=some (W.sl 2 off (off+64) (all.length-(off+64)) 1 none);rw[Nat.sub_sub];rfl
   ·have h64:all.length-off<64:=by
     have:=hc2;simp only[Bool.not_eq_false'] at this;have:=ltI_iff.1 this;omega
    refine jkq (kNq Xi (y9q Xi ?_));refine vyq (qZq Yc ?_);refine zVq (zhq (v9q (i+1) Y Y Yp Qm ?_));refine zcq Y Y (zIq ?_);refine ypq (i+1,s',.sl all base off) ⟨hi1,⟨ho1,ho2⟩,done (by rw[hrl];exact h64),by simp only[hrl];exact h64⟩ Ya (z6q ⟨rfl,rfl,rfl,rfl,rfl,rfl,rfl,trivial⟩ Y Y)
 ·simp only at hi hok hfold hr64;obtain rfl:i=ps.length:=by have:=ltI_not.1 hc1;simp only at this;omega
  rw[show(ps.map (·.1)).take ps.length=ps.map (·.1) by rw[List.take_of_length_le Xk]] at hfold;have hT:(ps.map (·.1)).take ps.length=ps.map (·.1):=by rw[List.take_of_length_le Xk]
  have hdt:∀(all:List Nat) (off:Nat),((bN all).drop off).take (all.length-off)=bN (all.drop off):=λall off=>by
   rw[List.take_of_length_le (by simp[jLq])];simp[bN,List.map_drop]
  have bapp:∀a b:List Nat,bN a++bN b=bN (a++b):=λa b=>by simp[bN]
  have apur:∀all:List Nat,purW (.arr all.length 1 (bN all))=true:=λall=>vvq all
  refine jkq (kNq Xi (y9q Xi ?_));refine vyq (zVq ?_);refine co_cut (α:=Unit) (λ_=>True) (λ_=>[(5,.int .u64 (yRq (ps.map (·.1)):Int)),(4,.sl 2 0 0 (r.r++[128]).length 1 none),(3,.ptr 1 0),(2,.ptr 0 0)]) (λ_=>hpS (.sl (r.r++[128]) 0 0) jaq s) (λ_=>3) ?_ (λa ha=>?_)
  ·skip
   cases r with
   |nil=>
    refine zhq (zcq Y Y (y0q Y Y (y0q rfl (yGq Y Y (x3q (news:=bN [128]) (k:=ti5) Y Y Y Y Y (by simp[bN]) Xo Xo)) ?_)));refine zcq Y Y (zIq ?_);refine⟨rfl,(),trivial,?_⟩;exact qzq (b:=2) (k:=3) Xd Xd (by show 3<4;omega) ⟨⟨by show some (W.int .u64 ((yRq ((ps.map (·.1)).take ps.length):Nat):Int))=_;rw[hT];rfl,rfl⟩,⟨rfl,rfl⟩,⟨rfl,rfl⟩,⟨rfl,rfl⟩,trivial⟩ ⟨⟨by omega,rfl,rfl⟩,⟨by omega,rfl,rfl⟩,⟨by omega,rfl,rfl⟩,trivial⟩ Yw
   |sl all base off=>
    obtain⟨ho1,ho2⟩:=hok;simp only[Rst.r,List.length_drop] at hr64;have hle:((Rst.sl all base off).r++[128]).length=all.length-off+1:=by simp[Rst.r]
    refine zhq (zcq Y Y (y0q Y Y (y0q rfl (yGq Y Y (qLq (news:=bN [128]) (k:=ti5) (v:=.arr all.length 1 (bN all)) (off:=off) Y Y Y Y Y (by simp[bN]) (show(all.length-off+1)*1<=140737488355328 by omega) (show all.length-off+1<=70368744177664 by omega) rfl (show all.length<off+(all.length-off+1)*1 by omega) rfl (x9q Xd))) ?_)));refine zcq Y Y (zIq ?_);refine⟨rfl,(),trivial,?_⟩;refine qzq (b:=2) (k:=4) Xd Xd Qd ⟨⟨by show some (W.int .u64 ((yRq ((ps.map (·.1)).take ps.length):Nat):Int))=_;rw[hT];rfl,rfl⟩,⟨?_,rfl⟩,⟨rfl,rfl⟩,⟨rfl,rfl⟩,trivial⟩ ⟨⟨by omega,?_,zmq (apur _)⟩,⟨by omega,rfl,rfl⟩,⟨by omega,rfl,rfl⟩,trivial⟩ Yw
    ·rw[hle];rfl
    ·rw[z4q (apur _),hle,<-bapp];show some (5,W.arr ((all.length-off+1)*1) 1 (((bN all).drop off).take (all.length-off)++bN [128]))=_;rw[hdt,Nat.mul_one];rfl
  --noughts
  have htm:∀n:Nat,((n:Int)).tmod 64=((n%64:Nat):Int):=λn=>by rw[Int.tmod_eq_emod_of_nonneg Xd];omega
  have hA0:(r.r++[128]).length<=64:=by simp;omega
  generalize hA:r.r++[128]=A at*
  refine zwq (z7q ?_);refine qhq (α:=Nat) (λj=>∀i,i<j->(A.length+i)%64≠56) (λj=>[(5,.int .u64 (yRq (ps.map (·.1)):Int)),(4,.sl 2 0 0 (A++List.replicate j 0).length 1 none),(3,.ptr 1 0),(2,.ptr 0 0)]) (λj=>hpS (.sl (A++List.replicate j 0) 0 0) jaq s) (λ_=>3) (λ_=>R) (λj=>64-j) 0 (λi hi=>absurd hi Xd) (by rw[List.replicate_zero,List.append_nil];exact Ent.refl) (λj hj=>?_)
  have hj64:j<64:=by
   refine Nat.lt_of_not_le λh=>?_
   have:=hj ((56+64-A.length%64)%64) Xd;omega
  have hlj:(A++List.replicate j 0).length=A.length+j:=by simp
  refine zwq (zwq (zhq (zcq Y Y (jRq Y Y (show _=W.int .i64 ((A++List.replicate j 0).length:Int) by first|rfl|(simp[jLq];done)|(simp[jLq];rfl)) ?_))));refine jRq Y Y (congrArg (W.int .i64) (htm _)) (zcq Y Y (zIq ?_));refine zVq ?_;refine q6q rfl (λhc3=>?_) (λhc3=>?_)
  ·have hne:(A.length+j)%64≠56:=by
    have:=hc3;simp only[Bool.not_eq_true'] at this;have:=eqI_not.1 this;rw[hlj] at this;omega
   refine y5q (zVq (z7q (zhq (zcq Y Y (y0q Y Y (y0q rfl (yGq Y Y (qLq (news:=bN [0]) (k:=ti5) (v:=.arr (A++List.replicate j 0).length 1 (bN (A++List.replicate j 0))) (off:=0) Y Y Y Y Y (by simp[bN]) (show((A++List.replicate j 0).length+1)*1<=140737488355328 by omega) (show(A++List.replicate j 0).length+1<=70368744177664 by omega) rfl (show(A++List.replicate j 0).length<0+((A++List.replicate j 0).length+1)*1 by omega) rfl (x9q Xd))) ?_))))));refine zcq Y Y (zIq ?_);refine qZq Yc ?_;have hrep:A++List.replicate (j+1) 0=(A++List.replicate j 0)++[0]:=by rw[List.append_assoc,<-List.replicate_succ']
   refine ypq (j+1) (λi hi=>?_) Xd (qzq (b:=2) (k:=4) Xd Xd Qd ⟨⟨rfl,rfl⟩,⟨?_,rfl⟩,⟨rfl,rfl⟩,⟨rfl,rfl⟩,trivial⟩ ⟨⟨by omega,?_,zmq (apur _)⟩,⟨by omega,rfl,rfl⟩,⟨by omega,rfl,rfl⟩,trivial⟩ Yw)
   ·rcases Nat.lt_succ_iff_lt_or_eq.1 hi with h|rfl
    ·exact hj i h
    ·exact hne
   ·rw[hrep];exact mid1 _ 0
   ·rw[hrep];exact mid2 _ 0
  ·have he:(A.length+j)%64=56:=by
    have:=hc3;simp only[Bool.not_eq_false'] at this;have:=eqI_iff.1 this;rw[hlj] at this;omega
   have hpz:padZ 64 A=A++List.replicate j 0:=padZ_spec 64 j A hj he Xd;rw[<-hpz];have hBl:(padZ 64 A).length<200:=by rw[hpz,hlj];omega
   have hB64:(padZ 64 A).length%64=56:=by rw[hpz,hlj];exact he
   generalize hB:padZ 64 A=B at hBl hB64;refine jkq (kNq Xi (y9q Xi ?_));refine vyq (zVq (zwq (zwq (zhq (zcq Y Y (zIq ?_))))));refine zVq (z7q ?_);have h8:∀k,k<=8->((len8 (yRq (ps.map (·.1)))).take k).length=k:=λk hk=>by simp[len8];omega
   refine qhq (α:=Nat) (λk=>k<=8) (λk=>[(8,.int .i64 (56-8*(k:Int))),(5,.int .u64 (yRq (ps.map (·.1)):Int)),(4,.sl 2 0 0 (B++(len8 (yRq (ps.map (·.1)))).take k).length 1 none),(3,.ptr 1 0),(2,.ptr 0 0)]) (λk=>hpS (.sl (B++(len8 (yRq (ps.map (·.1)))).take k) 0 0) jaq s) (λ_=>3) (λ_=>R) (λk=>8-k) 0 (Nat.zero_le _) (by rw[List.take_zero,List.append_nil];exact z6q ⟨rfl,rfl,rfl,rfl,rfl,trivial⟩ Y Y) (λk hk=>?_);refine zwq (zwq (zhq (zcq Y Y (zcq Y Y (zIq ?_)))));refine zVq ?_;refine q6q rfl (λhc4=>?_) (λhc4=>?_)
   ·have hk8:k<8:=by
     have:=hc4;simp only[Bool.not_eq_true'] at this;have:=ltI_not.1 this;omega
    have hLk:=h8 k hk;have hll:(B++(len8 (yRq (ps.map (·.1)))).take k).length=B.length+k:=by rw[List.length_append,hLk]
    have hnx:B++(len8 (yRq (ps.map (·.1)))).take (k+1)=(B++(len8 (yRq (ps.map (·.1)))).take k)++[Nat.shiftRight (8*yRq (ps.map (·.1))%18446744073709551616) (min (56-8*k) 64)%256]:=by
     rw[List.take_add_one,<-List.append_assoc];congr 1
     have hq:k=0\/k=1\/k=2\/k=3\/k=4\/k=5\/k=6\/k=7:=by omega
     rcases hq with rfl|rfl|rfl|rfl|rfl|rfl|rfl|rfl<;>rfl
    have hw8:jnq .i64 (56-8*(k:Int) -8)=56-8*(k:Int) -8:=kiq (k:=.i64) Qm;refine y5q (zVq (zwq (z7q (zhq (zcq Y Y (zcq Y Y (zcq Y Y (jRq Y Y (show W.int .i64 (56-8*(k:Int))=W.int .i64 ((56-8*k:Nat):Int) by congr 1;omega) ?_))))))));refine zcq Y Y (zcq Y Y (y0q Y Y (y0q rfl (yGq Y Y (qLq (news:=bN [Nat.shiftRight (8*yRq (ps.map (·.1))%18446744073709551616) (min (56-8*k) 64)%256]) (k:=ti5) (v:=.arr (B++(len8 (yRq (ps.map (·.1)))).take k).length 1 (bN (B++(len8 (yRq (ps.map (·.1)))).take k))) (off:=0) Y Y Y Y Y (by simp[bN]) (show((B++(len8 (yRq (ps.map (·.1)))).take k).length+1)*1<=140737488355328 by omega) (show(B++(len8 (yRq (ps.map (·.1)))).take k).length+1<=70368744177664 by omega) rfl (show(B++(len8 (yRq (ps.map (·.1)))).take k).length<0+((B++(len8 (yRq (ps.map (·.1)))).take k).length+1)*1 by omega) rfl (x9q Xd))) ?_)));refine zcq Y Y (zIq ?_);refine qZq Yc ?_;refine zVq (zhq (zcq Y Y (jRq (w:=W.int .i64 (jnq .i64 (56-8*(k:Int) -8))) Y Y (show _=W.int .i64 (56-8*((k+1:Nat):Int)) by rw[hw8];congr 1;omega) ?_)));refine zcq Y Y (zIq ?_);refine ypq (k+1) Xd Xd (qzq (b:=2) (k:=4) Xd Xd Qd ⟨⟨rfl,rfl⟩,⟨rfl,rfl⟩,⟨?_,rfl⟩,⟨rfl,rfl⟩,⟨rfl,rfl⟩,trivial⟩ ⟨⟨by omega,?_,zmq (apur _)⟩,⟨by omega,rfl,rfl⟩,⟨by omega,rfl,rfl⟩,trivial⟩ Yw)
    ·rw[hnx];exact mid1 _ _
    ·rw[hnx];exact mid2 _ _
   ·obtain rfl:k=8:=by
     have:=hc4;simp only[Bool.not_eq_false'] at this;have:=ltI_iff.1 this;omega
    have ht8:(len8 (yRq (ps.map (·.1)))).take 8=len8 (yRq (ps.map (·.1))):=rfl;rw[ht8];have hMl:(B++len8 (yRq (ps.map (·.1)))).length=B.length+8:=by simp[len8]
    have hsha:shaN (ps.map (·.1))=digN (qxq (B++len8 (yRq (ps.map (·.1)))).length s (B++len8 (yRq (ps.map (·.1))))):=by
     simp only[shaN,<-hfold,hA,hB]
    generalize hM:B++len8 (yRq (ps.map (·.1)))=M at hMl hsha;refine jkq (kNq Xi (y9q Xi ?_));refine vyq (zVq (zwq (z7q ?_)));refine qhq (α:=S8×Nat×Nat) (λb=>b.2.2<=M.length/\(M.length-b.2.2)%64=0/\qxq M.length s M=qxq (M.drop b.2.2).length b.1 (M.drop b.2.2)) (λb=>[(4,.sl 2 b.2.1 b.2.2 (M.length-b.2.2) 1 none),(3,.ptr 1 0),(2,.ptr 0 0)]) (λb=>hpS (.sl M b.2.1 b.2.2) jaq b.1) (λ_=>3) (λ_=>R) (λb=>M.length-b.2.2) (s,0,0) ⟨Nat.zero_le _,by show(M.length-0)%64=0;omega,rfl⟩ (z6q ⟨rfl,rfl,rfl,trivial⟩ Y Y) (λb hb5=>?_);obtain⟨s',base,off⟩:=b;obtain⟨ho,hmod,heat⟩:=hb5;simp only at ho hmod heat;refine zwq (zwq (zhq (zcq Y Y (jRq Y Y (show _=W.int .i64 ((M.length-off:Nat):Int) by first|rfl|(simp[jLq];done)|(simp[jLq];rfl)) ?_))));refine zcq Y Y (zIq ?_);refine zVq ?_;refine q6q rfl (λhc5=>?_) (λhc5=>?_)
    ·have h1:1<=M.length-off:=by have:=ltI_iff.1 hc5;omega
     have h64:64<=M.length-off:=by omega
     have hpa:purW (.arr M.length 1 (bN M))=true:=vvq M
     have hby:∀k,k<64->ybq 50 (.arr M.length 1 (bN M)) (off+0*1+k*1) 1 false=some (.int .u8 (.ofNat (atL (M.drop off) k))):=λk hk=>by
      have:=bN_at (l:=M) (i:=off+k) Xd;refine yxq ?_ rfl;rw[Nat.zero_mul,Nat.add_zero,Nat.mul_one,this];simp[atL,List.getD,List.getElem?_drop]
     refine y5q (zVq (zwq (z7q (zhq (zcq Y Y (zcq rfl (cut_hi (h:=64) Y Y Y Y Y Y Y h64) ?_))))))
     (refine ysq rfl (kYq (ext:=[1,2]) (ws:=[.ptr 0 0,.sl 1 base (off+0*1) (64-0) 1 none]) Y Y Y Y Y (λR=>block_s s' (atL (M.drop off)) (.arr M.length 1 (bN M)) base _ none 5 (zmq hpa) hby R) Xo Qi Xk (handed2 rfl (by rw[z4q hpa];rfl) rfl (zmq hpa)) Y ?_);rintro w hp1 nw1 ⟨rfl,rfl,rfl⟩)
     refine zIq (qZq Yc ?_);refine zVq (zhq (zcq Y Y (zcq rfl (cut_lo (l:=64) Y Y Y Y Y Y Y h64 rfl) (zcq Y Y (zIq ?_)))));refine ypq (q1q (atL (M.drop off)) s',off,off+64) ⟨by simp only;omega,by simp only;omega,?_⟩ Ya (kFq Xd (Nat.le_refl _) ⟨?_,rfl,rfl,trivial⟩ rfl (jOq ⟨⟨by omega,by show some (5,renW _ (W.arr M.length 1 (bN M)))=_;rw[z4q hpa],zmq hpa⟩,⟨by omega,rfl,rfl⟩,⟨by omega,rfl,rfl⟩,trivial⟩) Yw)
     ·rw[heat,xXq Xp,List.drop_drop]
     ·show some (W.sl 2 off (off+64*1) (M.length-off-64) 1 (qvq 64 none))=some (W.sl 2 off (off+64) (M.length-(off+64)) 1 none);rw[Nat.sub_sub];rfl
    ·have h0:M.length-off=0:=by have:=ltI_not.1 hc5;omega
     have hend:qxq M.length s M=s':=by
      rw[heat,List.drop_of_length_le Xd];rfl
     rw[hend] at hsha;refine jkq (kNq Xi (y9q Xi ?_));refine vyq (zVq (zwq (zwq (zhq (zcq Y Y (zIq ?_))))));refine zVq (z7q ?_);have htd4:∀n:Nat,((n:Int)).tdiv 4=((n/4:Nat):Int):=λn=>by rw[Int.tdiv_eq_ediv_of_nonneg Xd];omega
     have htm4:∀n:Nat,((n:Int)).tmod 4=((n%4:Nat):Int):=λn=>by rw[Int.tmod_eq_emod_of_nonneg Xd];omega
     refine qhq (α:=Nat) (λi=>i<=32) (λi=>[(64,.int .i64 (i:Int)),(3,.ptr 1 0),(2,.ptr 0 0)]) (λi=>hpS (.sl M base off) (.arr 32 1 (bN (dI s' i))) s') (λ_=>3) (λ_=>R) (λi=>32-i) 0 (Nat.zero_le _) (z6q ⟨rfl,rfl,rfl,trivial⟩ Y Y) (λi hi=>?_);refine zwq (zhq (zcq Y Y (zIq ?_)));refine zVq (zwq ?_);refine q6q rfl (λhc6=>?_) (λhc6=>?_)
     ·have hi32:i<32:=by have:=ltI_iff.1 hc6;omega
      refine y5q (zVq (zwq (z7q (zwq (zhq (zcq Y Y (zcq Y Y (zIq ?_))))))));refine zVq (zhq (zcq Y Y (zcq Y Y (v9q (i/4) Y Y (htd4 i) Qm ?_))));refine zcq rfl (zHq (i:=i/4) Y Y Y Y Y Y Xd) (y0q rfl (yUq Y Y Y (yxq (S8_at s' Xd) rfl)) ?_);refine zcq Y Y (jRq Y Y (congrArg (W.int .i64) (htm4 i)) (v9q (8*(i%4)) Y Y Yp Qm ?_));refine v9q (24-8*(i%4)) Y Y Yp Qm ?_;refine zcq Y Y (zcq Y Y (zcq rfl (zHq (i:=i) Y Y Y Y Y Y Xd) ?_));refine y0q rfl (jwq Y Y Y Y Y (y6q (dI_at s' hi32) Y Y) rfl) (zIq ?_);refine qZq Yc ?_;refine zVq (zhq ?_);first|refine qpq Y Y Qm ?_|refine zcq Y Y ?_
      refine zcq Y Y (zIq ?_);refine ypq (i+1) Xd Xd (z6q ⟨rfl,rfl,rfl,trivial⟩ ?_ rfl);exact congrArg (λL=>hpS (.sl M base off) (.arr 32 1 L) s') (dI_set s' hi32)
     ·obtain rfl:i=32:=by have:=ltI_not.1 hc6;omega
      refine jkq (kNq Xi (y9q Xi ?_));refine vyq (zVq (zwq (zhq (y0q Y Y (y0q Y Y (zIq ?_))))));refine zVq (co_ret ?_);refine fin Qn Ent.refl rfl ⟨rfl,?_⟩;rw[hsha];have:dI s' 32=digN s':=by simp[dI,List.take_of_length_le,uyq]
      rw[<-this]
end
mutual
theorem v0q{τ:Nat->Nat}{b:Nat}(h:∀i,i<b->τ i=i):∀{w:W},refB b w=true->renW τ w=w
 |.ptr c o,hw=>by simp only[renW];rw[h c (of_decide_eq_true hw)]
 |.sl c _ _ _ _ _,hw=>by simp only[renW];rw[h c (of_decide_eq_true hw)]
 |.fz l _ _,hw=>by simp only[renW];rw[kuq h (l:=l) hw]
 |.fel x,hw=>by simp only[renW];rw[v0q h (w:=x) hw]
 |.fn _ a c,hw=>by
  simp only[refB,Bool.and_eq_true] at hw;simp only[renW];rw[kuq h (l:=a) hw.1,kuq h (l:=c) hw.2]
 |.iface _ v,hw=>by simp only[renW];rw[v0q h (w:=v) hw]
 |.agg _ l,hw=>by simp only[renW];rw[kuq h (l:=l) hw]
 |.arr _ _ l,hw=>by simp only[renW];rw[kuq h (l:=l) hw]
 |.tup l,hw=>by simp only[renW];rw[kuq h (l:=l) hw]
 |.undef,_=>rfl
 |.bool _,_=>rfl
 |.int _ _,_=>rfl
 |.str _,_=>rfl
 |.nilp,_=>rfl
 |.nils,_=>rfl
 |.nilm,_=>rfl
 |.yield _,_=>rfl
 |.nilf,_=>rfl
 |.nili,_=>rfl
theorem kuq{τ:Nat->Nat}{b:Nat}(h:∀i,i<b->τ i=i):∀{l:List W},refL b l=true->qcq τ l=l
 |[],_=>rfl
 |w::l,hw=>by
  simp only[refL,Bool.and_eq_true] at hw;simp only[qcq];rw[v0q h (w:=w) hw.1,kuq h (l:=l) hw.2]
end
mutual
theorem kwq{b c:Nat}(h:b<=c):∀{w:W},refB b w=true->refB c w=true
 |.ptr d o,hw=>decide_eq_true (Nat.lt_of_lt_of_le (of_decide_eq_true hw) h)
 |.sl d _ _ _ _ _,hw=>decide_eq_true (Nat.lt_of_lt_of_le (of_decide_eq_true hw) h)
 |.fz l _ _,hw=>jyq h (l:=l) hw
 |.fel x,hw=>kwq h (w:=x) hw
 |.fn _ a d,hw=>by
  simp only[refB,Bool.and_eq_true] at hw⊢;exact⟨jyq h hw.1,jyq h hw.2⟩
 |.iface _ v,hw=>kwq h (w:=v) hw
 |.agg _ l,hw=>jyq h (l:=l) hw
 |.arr _ _ l,hw=>jyq h (l:=l) hw
 |.tup l,hw=>jyq h (l:=l) hw
 |.undef,_=>rfl
 |.bool _,_=>rfl
 |.int _ _,_=>rfl
 |.str _,_=>rfl
 |.nilp,_=>rfl
 |.nils,_=>rfl
 |.nilm,_=>rfl
 |.yield _,_=>rfl
 |.nilf,_=>rfl
 |.nili,_=>rfl
theorem jyq{b c:Nat}(h:b<=c):∀{l:List W},refL b l=true->refL c l=true
 |[],_=>rfl
 |w::l,hw=>by
  simp only[refL,Bool.and_eq_true] at hw⊢;exact⟨kwq h hw.1,jyq h hw.2⟩
end
noncomputable def gW(b e:Nat):List W->W
 |[]=>.nils
 |x::r=>.sl b 0 0 (x::r).length e none
noncomputable def gH(b:Nat)(ty:TypeId)(e:Nat):List W->HpW
 |[]=>[]
 |x::r=>[(b,ty,.arr ((x::r).length*e) e (x::r))]
noncomputable def evG(b:Nat):List W->EvW
 |[]=>.gen
 |_::_=>.updO b
theorem evs_G{ops:Array Oper}{i b:Nat}{es:List (Nat×EvW)}{l:List W}(h1:evsW ops i .gen es=true)(h2:evsW ops i (.updO b) es=true):evsW ops i (evG b l) es=true:=by cases l<;>assumption
theorem Y2q{b e:Nat}{l:List W}(h:l≠[]):gW b e l= .sl b 0 0 l.length e none:=by cases l with
 |nil=>exact absurd rfl h
 |cons x r=>rfl
theorem Y3q{b e:Nat}{ty:TypeId}{l:List W}(h:l≠[]):gH b ty e l=[(b,ty,.arr (l.length*e) e l)]:=by cases l with
 |nil=>exact absurd rfl h
 |cons x r=>rfl
section
variable {C:Cfg} {nw:Nat} {ts tx ty:TypeId} {j k:TyI} {x:W} {news l:List W} {b:Nat} {H0:HpW}
theorem hdel_pre{b:Nat}{x:TypeId×W}:∀{P:HpW},(∀p∈P,p.1≠b) ->hdel (P++[(b,x)]) b=P
 |[],_=>by
  show(match Nat.beq b b with|true=>[]|false=>_)=[];rw[Nat.beq_refl]
 |(c,y)::P,h=>by
  have hc:=h (c,y) (List.mem_cons_self ..)
  have e:Nat.beq c b=false:=by
   cases q:Nat.beq c b with
   |true=>exact absurd (Nat.eq_of_beq_eq_true q) hc
   |false=>rfl
  show(match Nat.beq c b with|true=>P++[(b,x)]|false=>(c,y)::hdel (P++[(b,x)]) b)=_;rw[e];exact congrArg _ (hdel_pre λp hp=>h p (List.mem_cons_of_mem _ hp))
theorem uoq{b:Nat}{x:TypeId×W}:∀{P:HpW},(∀p∈P,p.1≠b) ->hget (P++[(b,x)]) b=some x
 |[],_=>by rw[List.nil_append,zqq,if_pos rfl]
 |(c,y)::P,h=>by
  rw[List.cons_append,zqq,if_neg λe=>h (c,y) (List.mem_cons_self ..) e];exact uoq λp hp=>h p (List.mem_cons_of_mem _ hp)
theorem u7q{c:Nat}{y:TypeId×W}{Q:HpW}:∀{P:HpW},hget P c=some y->hget (P++Q) c=some y
 |[],h=>by simp[hget] at h
 |(q,z)::P,h=>by
  rw[List.cons_append,zqq];rw[zqq] at h;split at h
  ·rename_i h5;rw[if_pos h5];exact h
  ·rename_i h5;rw[if_neg h5];exact u7q h
theorem kOq(P:HpW){e:Nat}{hp:HpW}(he:e=k.size)(hj:C.ty ts=some j)(hd:j.d= .slice ty)(hk:C.ty ty=some k)(hz:Nat.beq k.size 0=false)(hs:srcW C hp tx k.size x=some news)(hn:news≠[])(h1:(l.length+news.length)*k.bytes<=140737488355328)(h2:l.length+news.length<=70368744177664)
  (hg:hp=P++gH b ty e l) (hP:∀p∈P,p.1≠b):
  appW C hp nw ts tx (gW b e l) x=some (.sl nw 0 0 (l++news).length e none,(nw,ty,.arr ((l++news).length*e) e (l++news))::P,nw+1,evG b l):=by
 subst he
 have hk0:0<k.size:=by
  rcases Nat.eq_zero_or_pos k.size with h0|h0
  ·rw[h0] at hz;cases hz
  ·exact h0
 have hnl:0<news.length:=by cases news with
  |nil=>exact absurd rfl hn
  |cons _ _=>simp
 cases l with
 |nil=>
  simp only[List.length_nil,Nat.zero_add] at h1 h2;rw[show gW b k.size []= .nils from rfl,x3q hj hd hk hz hs hn h1 h2,hg,show gH b ty k.size []=[] from rfl,List.append_nil];rfl
 |cons y r=>
  have hget:hget hp b=some (ty,.arr ((y::r).length*k.size) k.size (y::r)):=by rw[hg];exact uoq hP
  rw[show gW b k.size (y::r)= .sl b 0 0 (y::r).length k.size none from rfl,qLq hj hd hk hz hs hn h1 h2 hget (by
   show(y::r).length*k.size<0+((y::r).length+news.length)*k.size;rw[Nat.zero_add];exact Nat.mul_lt_mul_of_pos_right Xd hk0) (by rw[Nat.beq_refl]) (zpq hk0 Y Y)]
  rw[hg,show gH b ty k.size (y::r)=[(b,ty,.arr ((y::r).length*k.size) k.size (y::r))] from rfl,hdel_pre hP,List.length_append];rfl
theorem app_gr0{hp:HpW}{e:Nat}(he:e=k.size)(hj:C.ty ts=some j)(hd:j.d= .slice ty)(hk:C.ty ty=some k)(hz:Nat.beq k.size 0=false)(hs:srcW C hp tx k.size x=some []):appW C hp nw ts tx (gW b e l) x=some (gW b e l,hp,nw,.gen):=by
 subst he;cases l with
 |nil=>exact Qjq hj hd hk hz hs
 |cons y r=>exact veq hj hd hk hz hs
end
theorem vhq{b e:Nat}{ty:TypeId}{l:List W}{H0:HpW}(he:0<e)(hl:purL l=true)(hP:∀p∈H0,p.1≠b):View (blkA (H0++gH b ty e l)) (gW b e l) (.fz l e false):=by
 cases l with
 |nil=>exact .nilfz
 |cons y r=>exact .sl (c:=.arr ((y::r).length*e) e (y::r)) (by
   unfold blkA;rw[show H0++gH b ty e (y::r)=H0++[(b,ty,.arr ((y::r).length*e) e (y::r))] from rfl,uoq hP]) hl (zpq he Y Y) Xi
theorem view_sl{b e n:Nat}{ty:TypeId}{l:List W}{H0:HpW}(he:0<e)(hn:n=l.length)(hl:purL l=true):View (blkA ((b,ty,.arr (n*e) e l)::H0)) (.sl b 0 0 n e none) (.fz l e false):=by
 subst hn
 exact .sl (c:=.arr (l.length*e) e l) (by
   unfold blkA;rw[zqq,if_pos rfl]) hl (zpq he Y Y) Xi
section
variable {C:Cfg} {G:Nat->Option W} {m k0:Nat} {rd:Bool} {fr fr2:FrW} {hp hp':HpW} {nw nw':Nat} {R:Res} {Q:y3q} {c:Code}
theorem ent_up(hf:subF fr fr2):Ent C G m k0 fr hp nw R fr2 hp (nw+1) R:=λΓ X st hnw hmn s=>by
 let Γ2:Ctx:=⟨nw+1,Γ.σ,Γ.D,Γ.h⟩
 have le:Γ.Le Γ2:=⟨by rw[hnw];exact Nat.le_succ _,λ_ _=>rfl,λ_ h=>h,λ_ _=>rfl⟩;refine⟨Γ2,X,rfl,⟨s.hh,λt w hw=>?_,⟨s.sat.wf,λb ty w hb=>?_,s.sat.inj,s.sat.nd,s.sat.dX,s.sat.xlt,s.sat.dlt,s.sat.res,s.sat.gl⟩,s.ds,s.nd⟩,⟨λ_ _=>rfl,λh=>Nat.le_trans h le.nw,Nat.le_refl _,λ_ _ _ _=>rfl,λ_ h=>h,λ_ h=>.inl h,λb x _ h=>⟨x,h⟩,λb x hb h=>.inr ⟨b,x,hb,h,rfl⟩,λ_ h=>.inl h,λ_ h _ _=>h⟩⟩
 ·obtain⟨v,g3,g4⟩:=s.fr _ _ (vCq hf t w hw);exact⟨v,g3,g4.mono le⟩
 ·obtain⟨q1,q2,q3,v,q4,q5⟩:=s.sat.own _ _ _ hb;exact⟨Nat.lt_of_lt_of_le q1 le.nw,q2,q3,v,q4,q5.mono le⟩
theorem subR_low{k:Nat}:∀{l:FrW},subF fr l->refF nw l->subR (tau1 nw k) (nw+1) fr l
 |[],_,_=>trivial
 |(t,w)::l,h,r=>⟨⟨by rw[v0q (λi hi=>jWq Xd) r.1];exact h.1,kwq (Nat.le_succ _) r.1⟩,subR_low h.2 r.2⟩
theorem subRH_low{k:Nat}:∀{l:HpW},subH hp nw l->subRH (tau1 nw k) (nw+1) hp l
 |[],_=>trivial
 |(b,x)::l,h=>⟨⟨Nat.lt_succ_of_lt h.1.1,by rw[jWq (by have:=h.1.1;omega),v0q (λi hi=>jWq Xd) h.1.2.2];exact h.1.2.1,kwq (Nat.le_succ _) h.1.2.2⟩,subRH_low h.2⟩
theorem subH_lt:∀{l:HpW},subH hp nw l->∀p∈l,p.1<nw
 |[],_,p,h=>by simp at h
 |(b,x)::l,h,p,hp=>by
  rcases List.mem_cons.1 hp with rfl|hp
  ·exact h.1.1
  ·exact subH_lt h.2 p hp
theorem subH_mono:∀{l:HpW},subH hp nw l->subH hp (nw+1) l
 |[],_=>trivial
 |(b,x)::l,h=>⟨⟨Nat.lt_succ_of_lt h.1.1,h.1.2.1,kwq (Nat.le_succ _) h.1.2.2⟩,subH_mono h.2⟩
theorem subRH_app{τ:Nat->Nat}{n:Nat}{b:HpW}:∀{a:HpW},subRH τ n hp a->subRH τ n hp b->subRH τ n hp (a++b)
 |[],_,h=>h
 |_::_,h,h2=>⟨h.1,subRH_app h.2 h2⟩
theorem YFq{n:Nat}{b:HpW}:∀{a:HpW},subH hp n a->subH hp n b->subH hp n (a++b)
 |[],_,h=>h
 |_::_,h,h2=>⟨h.1,YFq h.2 h2⟩
theorem nodup_g{H0:HpW}{b e:Nat}{ty:TypeId}{l2:List W}(hh:∀p∈H0,p.1<b)(nd:(H0.map (·.1)).Nodup):((H0++gH b ty e l2).map (·.1)).Nodup:=by
 cases l2 with
 |nil=>rw[show gH b ty e []=[] from rfl,List.append_nil];exact nd
 |cons x r=>
  rw[show gH b ty e (x::r)=[(b,ty,.arr ((x::r).length*e) e (x::r))] from rfl,List.map_append,List.nodup_append];refine⟨nd,by simp,λa ha c hc q=>?_⟩;obtain⟨p,h1,h2⟩:=List.mem_map.1 ha;have:=hh p h1;simp only[List.map_cons,List.map_nil,List.mem_cons,List.not_mem_nil,or_false] at hc;omega
theorem Qfq{α:Type}(I:α->Prop)(s:Nat)(L:α->List W)(ty:TypeId)(e:Nat)(V:α->FrW)(kf:FrW)(H0:HpW)(μ:α->Nat)(a0:α)(hk:subF fr kf)(h0:I a0)(hv:subF fr (V a0))(hL:L a0=[])(hs:getW fr s=some .nils)(hh:hp=H0)
  (step:∀a,I a->CoW C G m k0 rd c ((s,gW nw e (L a))::(V a++kf)) (H0++gH nw ty e (L a)) (nw+1) R (xoq C G m k0 I (λa=>(s,gW nw e (L a))::(V a++kf)) (λa=>H0++gH nw ty e (L a)) (λ_=>nw+1) (λ_=>R) μ (μ a) Q)):CoW C G m k0 rd (.loop c) fr hp nw R Q:=by
 subst hh;refine qhq I (λa=>(s,gW nw e (L a))::(V a++kf)) (λa=>hp++gH nw ty e (L a)) (λ_=>nw+1) (λ_=>R) μ a0 h0 ?_ step;have:=ent_up (C:=C) (G:=G) (m:=m) (k0:=k0) (fr:=fr) (fr2:=(s,gW nw e (L a0))::(V a0++kf)) (hp:=hp) (nw:=nw) (R:=R) ⟨by rw[hL];exact hs,qQq hv hk⟩;rw[hL] at this⊢;rw[show gH nw ty e []=[] from rfl,List.append_nil];exact this
theorem qVq{b:Nat}{ty:TypeId}{e:Nat}{H0:HpW}{l2:List W}{n:Nat}(k s:Nat)(hm:m<=b)(hk:b<=k)(hk2:k<nw)(hne:l2≠[])(hs:getW fr s=some (.sl k 0 0 n e none))(hn:n=l2.length)(hf:subF fr fr2)(hr:refF b fr2)(hg:hget hp k=some (ty,.arr (n*e) e l2))(hp2:purL l2=true)(hh:subH hp b H0)(nd:(H0.map (·.1)).Nodup):
  Ent C G m k0 fr hp nw R ((s,gW b e l2)::fr2) (H0++gH b ty e l2) (b+1) R:=by
 subst hn;have hpa:purW (.arr (l2.length*e) e l2)=true:=hp2;refine qzq (b:=b) (k:=k) hm hk hk2 ?_ ?_ (nodup_g (subH_lt hh) nd)
 ·rw[Y2q hne];refine⟨⟨?_,by simp[refB]⟩,subR_low hf hr⟩;rw[hs];simp only[renW,uQq]
 ·rw[Y3q hne];refine subRH_app (subRH_low hh) ⟨⟨Nat.lt_succ_self _,?_,zmq hpa⟩,trivial⟩;rw[uQq,hg,z4q hpa]
noncomputable def subVH(blk:Nat->Option W)(b:Nat)(hp:HpW):HpW->Prop
 |[]=>True
 |(k,ty,w)::l=>(k≠b/\∃w0,hget hp k=some (ty,w0)/\View blk w0 w)/\subVH blk b hp l
theorem subVH_get{blk:Nat->Option W}{b:Nat}:∀{l:HpW},subVH blk b hp l->∀k ty w,hget l k=some (ty,w) ->k≠b/\∃w0,hget hp k=some (ty,w0)/\View blk w0 w
 |[],_,k,ty,w,h=>by simp[hget] at h
 |(j,ty',w')::l,hs,k,ty,w,h=>by
  rw[zqq] at h;split at h
  ·rename_i e;subst e;cases h;exact hs.1
  ·exact subVH_get hs.2 k ty w h
theorem ent_fr1(b:Nat)(fr2:FrW)(hp2:HpW){ty:TypeId}{c:W}(hb:hget hp b=some (ty,c))(hc:purW c=true)(hbm:m<=b)(hf:subV (blk1 b c) fr fr2)(hh:subVH (blk1 b c) b hp hp2)(nd:(hp2.map (·.1)).Nodup):Ent C G m k0 fr hp nw R fr2 hp2 nw R:=
 ent_frz hb hc hbm (vBq hf) (subVH_get hh) nd
theorem co_loopG1{α:Type}(I:α->Prop)(s:Nat)(L:α->List W)(ty:TypeId)(e:Nat)(V:α->FrW)(kf:FrW)(H0:HpW)(b k:Nat)(μ:α->Nat)(a0:α){n:Nat}(hk:subF fr kf)(h0:I a0)(hv:subF fr (V a0))(hm:m<=b)(hbk:b<=k)(hkn:k<nw)(hne:L a0≠[])(hs:getW fr s=some (.sl k 0 0 n e none))(hn:n=(L a0).length)
  (hr:refF b (V a0)) (hr2:refF b kf) (hg:hget hp k=some (ty,.arr (n*e) e (L a0))) (hp2:purL (L a0)=true) (hh:subH hp b H0) (nd:(H0.map (·.1)).Nodup)
  (step:∀a,I a->CoW C G m k0 rd c ((s,gW b e (L a))::(V a++kf)) (H0++gH b ty e (L a)) (b+1) R (xoq C G m k0 I (λa=>(s,gW b e (L a))::(V a++kf)) (λa=>H0++gH b ty e (L a)) (λ_=>b+1) (λ_=>R) μ (μ a) Q)):CoW C G m k0 rd (.loop c) fr hp nw R Q:=
 qhq I (λa=>(s,gW b e (L a))::(V a++kf)) (λa=>H0++gH b ty e (L a)) (λ_=>b+1) (λ_=>R) μ a0 h0 (qVq k s hm hbk hkn hne hs hn (qQq hv hk) (xrq hr hr2) hg hp2 hh nd) step
theorem jpq{α:Type}{I:α->Prop}{s:Nat}{L:α->List W}{ty:TypeId}{e:Nat}{V:α->FrW}{kf:FrW}{H0:HpW}{μ:α->Nat}{kk:Nat}{fr':FrW}{l2:List W}{n:Nat}(k:Nat)(a:α)(ha:I a)(hμ:μ a<kk)(hm:m<=nw)(hL:L a=l2)(hne:l2≠[])(hk:nw<=k)(hk2:k<nw')(hs:getW fr' s=some (.sl k 0 0 n e none))(hn:n=l2.length)
  (hv:subF fr' (V a)) (hkf:subF fr' kf) (hr:refF nw (V a)) (hr2:refF nw kf) (hg:hget hp' k=some (ty,.arr (n*e) e l2)) (hp2:purL l2=true) (hh:subH hp' nw H0) (nd:(H0.map (·.1)).Nodup):
  xoq C G m k0 I (λa=>(s,gW nw e (L a))::(V a++kf)) (λa=>H0++gH nw ty e (L a)) (λ_=>nw+1) (λ_=>R) μ kk Q .normal fr' hp' nw' R:=by
 subst hL;exact ypq a ha hμ (qVq k s hm hk hk2 hne hs hn (qQq hv hkf) (xrq hr hr2) hg hp2 hh nd)
theorem refF_up:∀{q:FrW},refF nw q->refF (nw+1) q
 |[],_=>trivial
 |_::_,h=>⟨kwq (Nat.le_succ _) h.1,refF_up h.2⟩
theorem Qbq{b:Nat}{ty:TypeId}{e:Nat}{H0:HpW}{l2:List W}(s:Nat)(hm:m<=b)(hnw:b+1<=nw)(hs:getW fr s=some (gW b e l2))(hf:subF fr fr2)(hr:refF b fr2)(hg:∀x r,l2=x::r->hget hp b=some (ty,.arr ((x::r).length*e) e (x::r)))(hp2:purL l2=true)(hh:subH hp b H0)(nd:(H0.map (·.1)).Nodup):
  Ent C G m k0 fr hp nw R ((s,gW b e l2)::fr2) (H0++gH b ty e l2) (b+1) R:=by
 refine kFq Xd hnw ⟨hs,hf⟩ ?_ (jOq (YFq (subH_mono hh) ?_)) (nodup_g (subH_lt hh) nd)
 ·refine ueq ⟨?_,refF_up hr⟩;cases l2 with
  |nil=>rfl
  |cons x r=>simp[gW,refB]
 ·cases l2 with
  |nil=>trivial
  |cons x r=>
   have hpa:purW (.arr ((x::r).length*e) e (x::r))=true:=hp2;exact⟨⟨Nat.lt_succ_self _,hg x r rfl,zmq hpa⟩,trivial⟩
theorem ent_blk{b:Nat}{ty:TypeId}{w w':W}(hb:hget hp b=some (ty,w))(he:∀Γ v,RV Γ w v->RV Γ w' v):Ent C G m k0 fr hp nw R fr (hset hp b (ty,w')) nw R:=λΓ X st h1 _ s=>by
 have hold:∀{k t u},hget (hset hp b (ty,w')) k=some (t,u) ->∃u0,hget hp k=some (t,u0)/\∀v,RV Γ u0 v->RV Γ u v:=λ{k t u} h=>by
  rw[k7q hb] at h;split at h
  ·rename_i e;subst e;cases h;exact⟨w,hb,he Γ⟩
  ·exact⟨u,h,λ_ q=>q⟩
 have howns:∀{c},Owns Γ (hset hp b (ty,w')) c->Owns Γ hp c:=λ{c} h=>by
  obtain⟨k,⟨t,u⟩,h1,h2⟩:=h;obtain⟨u0,g,_⟩:=hold h1;exact⟨k,_,g,h2⟩
 refine⟨Γ,X,h1,⟨s.hh,s.fr,⟨s.sat.wf,λk t u h=>?_,λk k' y z hy hz e=>?_,by rw[Zeq];exact s.sat.nd,s.sat.dX,s.sat.xlt,s.sat.dlt,s.sat.res,s.sat.gl⟩,λd hd=>?_,s.nd⟩,⟨λ_ _=>rfl,λh=>h,Nat.le_refl _,λ_ _ _ _=>rfl,λ_ h=>h,λ_ h=>.inl h,λk y _ h=>?_,λk y hk h=>?_,λ_ h=>.inl h,λ_ h _ _=>h⟩⟩
 ·obtain⟨u0,g1,g2⟩:=hold h;obtain⟨q1,q2,q3,v,q4,q5⟩:=s.sat.own k t u0 g1;exact⟨q1,q2,q3,v,q4,g2 v q5⟩
 ·obtain⟨y1,y2⟩:=y;obtain⟨z1,z2⟩:=z;obtain⟨u0,g1,_⟩:=hold hy;obtain⟨u1,g2,_⟩:=hold hz;exact s.sat.inj k k' _ _ g1 g2 e
 ·obtain⟨q1,q2,q3,q4,q5⟩:=s.ds d hd;exact⟨q1,q2,q3,λh=>q4 (howns h),q5⟩
 ·obtain⟨y1,y2⟩:=y;obtain⟨u0,g1,_⟩:=hold h;exact⟨_,g1⟩
 ·obtain⟨y1,y2⟩:=y;obtain⟨u0,g1,_⟩:=hold h;exact .inr ⟨k,_,hk,g1,rfl⟩
theorem ent_one{b:Nat}{ty:TypeId}{e:Nat}{x:W}(k s:Nat)(hm:m<=b)(hk:b<=k)(hk2:k<nw)(hs:getW fr s=some (.sl k 0 0 1 e none))(hg:hget hp k=some (ty,x))(hxa:x.isAgg=true)(hxs:x.size=e)(hp2:purW x=true):Ent C G m k0 fr hp nw R [(s,gW b e [x])] (gH b ty e [x]) (b+1) R:=by
 refine(ent_blk hg (w':=.arr (1*e) e [x]) λΓ v hv=>?_).trans (qVq (fr2:=[]) (H0:=[]) k s hm hk hk2 Xk hs rfl trivial trivial (by rw[k7q hg,if_pos rfl]) (by simp only[purL,hp2,Bool.and_self]) trivial List.nodup_nil);refine⟨by rw[<-hv.1,hxa];rfl,?_⟩;have hl:=qMq hv.2;simp only[RS];exact⟨by omega,λy hy=>by simp at hy;rw[hy,hxs],RSL_one hv.2⟩
theorem j4q{o:Oper}{post:W->HpW->Nat->Res->Option EvW->Prop}{x:Operand}{xs:Array Operand}{ats:Array TypeId}{f:FuncId}{a us c ws:List W}{Q:W->HpW->Nat->Prop}(ho:o.op= .call ⟨.value x,xs,ats⟩)(hx:evW C G fr x=some (.fn f a c))(he:C.ext f=none)(hxs:evLW C G fr xs.toList=some us)(hws:a++us++c=ws)(hpw:purL ws=true)(sp:j2q C G f 0 ws [] Q)
  (hpost:∀w hp1 nw1,Q w hp1 nw1->post (renW (numC [] nw) w) (renH (numC [] nw) hp1++hp) (nw+nw1) R (some .gen)):Step C G o fr hp nw R post:=λΓ X frv hnw s hf=>by
 subst hnw;obtain⟨u,e1,e2⟩:=zQq hf s.gl hx;obtain⟨a',c',rfl,e3,e4⟩:=RV_fn.1 e2;obtain⟨us',e5,e6⟩:=xeq hf s.gl hxs
 have app:∀{l r:List W} {l' r':List V},RVL Γ l l'->RVL Γ r r'->RVL Γ (l++r) (l'++r'):=λ{l}=>by
  induction l with
  |nil=>intro r l' r' h1 h2;simp only[RVL] at h1;subst h1;exact h2
  |cons w l ih=>
   intro r l' r' h1 h2;simp only[RVL] at h1;obtain⟨v,vs,rfl,h3,h4⟩:=h1;simp only[List.cons_append,RVL];exact⟨v,vs++r',rfl,h3,ih h4 h2⟩
 have hv:=app (app e3 e6) e4;rw[hws,<-renWL_pur (τ:=numC [] Γ.nw) hpw] at hv;obtain⟨n,v,Γ',w,hp1,nw1,g1,g2,g3,g4,g5,g6,g7,g8⟩:=call_spec (ext:=[]) sp s List.nodup_nil Xk Xk (λi ty w h=>by simp[hget] at h) (zmq (w:=.tup ws) hpw) hv;obtain⟨k1,k2⟩:=ZHq (C:=C) ho frv Γ.h;refine⟨n,_,_,R,some .gen,v,Γ'.h,Γ',X,by rw[g3];exact hpost w hp1 nw1 g2,?_,⟨k1,λH1 e1' e2'=>?_⟩,rfl,g4,g5,g6,g7⟩
 ·simp only[opV,k1,k2];simp only[ho,q7q,e1,e5,he];exact g1
 ·have:=g8 rfl e2';simp only[EvR,ho,evOf];rw[e1',Nat.ble_eq_true_of_le this]
noncomputable def PL(C:Cfg)(G:Nat->Option W)(f:FuncId)(ws:List W)(ty:TypeId)(e:Nat)(l:List W):Prop:=j2q C G f 0 ws [] λw hp nw=>w=gW 0 e l/\hp=gH 0 ty e l/\nw=1
theorem PL.ps{C:Cfg}{G:Nat->Option W}{f:FuncId}{ws:List W}{ty:TypeId}{e:Nat}{l:List W}(h:PL C G f ws ty e l)(he:0<e)(hl:purL l=true):PS C G f ws (.fz l e false):=λR=>
 ubq λΓ X vs h1 s hv=>by
  obtain⟨n,v,Γ',X',w,hp',R',g1,g2,g3,g4,g5,rfl,rfl,g6⟩:=h R Γ X vs h1 s hv;exact⟨n,v,Γ',X',_,_,R',g1,g2,g3,g4,g5,vhq (H0:=[]) he hl Xk⟩
theorem kXq{o:Oper}{post:W->HpW->Nat->Res->Option EvW->Prop}{x:Operand}{xs:Array Operand}{ats:Array TypeId}{f:FuncId}{a us c ws:List W}{ty:TypeId}{e:Nat}{l:List W}(ho:o.op= .call ⟨.value x,xs,ats⟩)(hx:evW C G fr x=some (.fn f a c))(he:C.ext f=none)(hxs:evLW C G fr xs.toList=some us)(hws:a++us++c=ws)(hpw:purL ws=true)(sp:PL C G f ws ty e l)(hl:purL l=true)
  (hpost:post (gW nw e l) (gH nw ty e l++hp) (nw+1) R (some .gen)):Step C G o fr hp nw R post:=by
 refine j4q ho hx he hxs hws hpw sp ?_;rintro w hp1 nw1 ⟨rfl,rfl,rfl⟩
 have e1:renW (numC [] nw) (gW 0 e l)=gW nw e l:=by
  cases l with
  |nil=>rfl
  |cons x r=>simp only[gW,renW];rfl
 have e2:renH (numC [] nw) (gH 0 ty e l)=gH nw ty e l:=by
  cases l with
  |nil=>rfl
  |cons x r=>
   have hpa:purW (.arr ((x::r).length*e) e (x::r))=true:=hl;simp only[gH,renH,z4q hpa];rfl
 rw[e1,e2];exact hpost
variable {ops:Array Oper} {l:List Oper} {K:FrW->HpW->Nat->Res->Prop} {hp2:HpW} {nw2:Nat} {R2:Res}
theorem op_ent(e:∀k0,Ent C G m k0 fr hp nw R fr2 hp2 nw2 R2)(h:OpW C G m ops l fr2 hp2 nw2 R2 K):OpW C G m ops l fr hp nw R K:=λΓ X frv hnw hm s hf=>by
 obtain⟨Γ2,X2,e1,e2,e3⟩:=e 0 Γ X ⟨frv,Γ.h,[],false⟩ hnw hm ⟨rfl,hf,s,by simp,List.nodup_nil⟩;obtain⟨n,frv',Γ',X',fr',hp',R',g1,g2,g3,g4,g5⟩:=h Γ2 X2 frv e1 (e1▸e3.mle (hnw▸hm)) e2.sat e2.fr;have hh:Γ.h=Γ2.h:=e2.hh;exact⟨n,frv',Γ',X',fr',hp',R',by rw[hh];exact g1,g2,g3,e3.trans g4,g5⟩
theorem op_z{o:Oper}{k:IntKind}{z:Int}(z':Int)(hw:yQq ops fr o=some true)(hx:yrq C G fr o.op=some (.int k (jnq k z)))(e:z=z')(hz:inK k z')(h:OpW C G m ops l (putW fr o.dst (.int k z')) hp nw R K):OpW C G m ops (o::l) fr hp nw R K:=by
 subst e;exact qpq hw hx hz h
theorem op_grow{o:Oper}{ts tx ty:TypeId}{j k:TyI}{x y:Operand}{u:W}{xs news:List W}{b e d:Nat}{H0:HpW}(P:HpW)(fr2:FrW)(he:e=k.size)(hw:yQq ops fr o=some true)(ho:o.op= .call ⟨.builtin .append, #[x,y], #[ts,tx]⟩)(hd0:o.dst=some d)(hx:evW C G fr x=some (gW b e xs))(hy:evW C G fr y=some u)
  (hj:C.ty ts=some j) (hd:j.d= .slice ty) (hk:C.ty ty=some k) (hz:Nat.beq k.size 0=false) (hs:srcW C hp tx k.size u=some news) (h1:(xs.length+news.length)*k.bytes<=140737488355328) (h2:xs.length+news.length<=70368744177664) (hg:hp=P++gH b ty e xs) (hP:∀p∈P,p.1≠b) (hm:m<=b) (hb:b<nw)
  (hf:subF fr fr2) (hdf:getW fr2 d=none) (hr:refF b fr2) (hpx:purL (xs++news)=true) (hh:subH P b H0) (nd:(H0.map (·.1)).Nodup)
  (h:OpW C G m ops l ((d,gW b e (xs++news))::fr2) (H0++gH b ty e (xs++news)) (b+1) R K):OpW C G m ops (o::l) fr hp nw R K:=by
 have hput:∀w,subF (putW fr o.dst w) fr2:=λw=>by
  rw[hd0]
  have key:∀{q:FrW},subF fr q->getW q d=none->subF (putW fr (some d) w) q:=λ{q}=>by
   induction q with
   |nil=>exact λ_ _=>trivial
   |cons p q ih=>
    obtain⟨t,v⟩:=p;intro h1 h2;simp only[getW] at h2;split at h2
    ·cases h2
    ·rename_i hne;refine⟨?_,ih h1.2 h2⟩;show getW ((d,w)::fr) t=some v
     have:Nat.beq d t=false:=by
      cases hq:Nat.beq d t with
      |false=>rfl
      |true=>
       have:=Nat.eq_of_beq_eq_true hq;subst this;rw[Nat.beq_refl] at hne;cases hne
     simp only[getW,this];exact h1.1
  exact key hf hdf
 have front:∀{Q:HpW} {q:HpW},subH P b q->subH (P++Q) b q:=λ{Q q}=>by
  induction q with
  |nil=>exact λ_=>trivial
  |cons p q ih=>exact λh=>⟨⟨h.1.1,u7q h.1.2.1,h.1.2.2⟩,ih h.2⟩
 cases news with
 |nil=>
  have ha:opHW C G fr hp nw o.op=some (gW b e xs,hp,nw,.gen):=by rw[ho];exact yGq hx hy (app_gr0 he hj hd hk hz hs)
  refine y0q hw ha ?_;rw[List.append_nil] at h hpx;refine op_ent (λk0=>Qbq (b:=b) (l2:=xs) d hm Xd (by rw[hd0];show getW ((d,gW b e xs)::fr) d=_;simp[getW]) (hput _) hr (λx r hq=>?_) hpx (by rw[hg];exact front hh) nd) h;rw[hg,hq];exact uoq hP
 |cons z zs=>
  have ha:opHW C G fr hp nw o.op=some (.sl nw 0 0 (xs++z::zs).length e none,(nw,ty,.arr ((xs++z::zs).length*e) e (xs++z::zs))::P,nw+1,evG b xs):=by
   rw[ho];exact yGq hx hy (kOq P he hj hd hk hz hs Xk h1 h2 hg hP)
  refine y0q hw ha ?_;refine op_ent (λk0=>qVq nw d hm Xd (Nat.lt_succ_self _) Xk (by rw[hd0];show getW ((d,_)::fr) d=_;simp[getW]) rfl (hput _) hr (by rw[zqq,if_pos rfl]) hpx ?_ nd) h
  have key:∀{q:HpW},subH P b q->subH ((nw,ty,W.arr ((xs++z::zs).length*e) e (xs++z::zs))::P) b q:=λ{q}=>by
   induction q with
   |nil=>exact λ_=>trivial
   |cons p q ih=>
    obtain⟨c,y⟩:=p;exact λh=>⟨⟨h.1.1,by rw[zqq,if_neg (by have:=h.1.1;omega)];exact h.1.2.1,h.1.2.2⟩,ih h.2⟩
  exact key hh
end
section
attribute [local irreducible] CoW OpW FlW Step Spec
theorem bytes_bN(l:List UInt8):zbq l=bN (l.map UInt8.toNat):=by simp[zbq,bN]
theorem shaN_l(ps:List (List Nat)):(shaN ps).length=32:=by simp[shaN,digN]
theorem shaN_lt(ps:List (List Nat)):∀n∈shaN ps,n<256:=λn h=>by
 simp only[shaN,digN,List.mem_map] at h;obtain⟨i,_,rfl⟩:=h;exact Nat.mod_lt _ Xo
noncomputable def shaD(ps:List (List UInt8)):Dig:=⟨(shaN (ps.map λp=>p.map UInt8.toNat)).map UInt8.ofNat,by simp[shaN_l]⟩
theorem bytes_of{l:List Nat}(h:∀n∈l,n<256):zbq (l.map UInt8.ofNat)=bN l:=by
 rw[bytes_bN,List.map_map];congr 1
 conv=>rhs;rw[<-List.map_id l]
 refine List.map_congr_left λn hn=>?_
 have:=h n hn;simp;omega
theorem Yjq:∀l:List UInt8,ZZq (zbq l)=true
 |[]=>rfl
 |c::l=>by
  show(kEq (W.int .u8 (.ofNat c.toNat))&&ZZq (zbq l))=true;rw[Yjq l];rfl
theorem flat_dW(k:Dig):kEq (dW k)=true:=Yjq k.1
theorem sha_s(ps:List (List UInt8×Bool))(f:Bool)(hb:((ps.map (·.1)).map List.length).foldr (· + ·) 0<2147483648)(hn:ps.length<2147483648):PS cfg glK 245 [.fz (ps.map λp=>.fz (zbq p.1) 1 p.2) 1 f] (dW (shaD (ps.map (·.1)))):=λR=>by
 have e1:(ps.map λp=>(p.1.map UInt8.toNat,p.2)).map ZXq=ps.map λp=>.fz (zbq p.1) 1 p.2:=by simp[ZXq,bytes_bN]
 have e2:(ps.map λp=>(p.1.map UInt8.toNat,p.2)).map (·.1)=(ps.map (·.1)).map λp=>p.map UInt8.toNat:=by simp
 have h:=of_s (ps.map λp=>(p.1.map UInt8.toNat,p.2)) f (by rw[e2];show(List.map List.length _).foldr _ 0<_;rw[List.map_map];simpa[Function.comp_def] using hb) (by simpa using hn) R;rw[e1,e2] at h
 have e3:dW (shaD (ps.map (·.1)))= .arr 32 1 (bN (shaN ((ps.map (·.1)).map λp=>p.map UInt8.toNat))):=by
  show W.arr 32 1 (zbq _)=_;rw[<-bytes_of (shaN_lt _)];rfl
 show Spec cfg glK _ 0 _ [] R λw hp nw R'=>R'=R/\w=dW (shaD (ps.map (·.1)))
 rw[e3];exact h
def kzq(p:List UInt8):List UInt8:=beB 4 (p.length%4294967296)++p
def tagB(kind:UInt8)(ps:List (List UInt8)):List UInt8:=kind::ps.flatMap kzq
variable {G:Nat->Option W}
@[simp] theorem bWs_pur(ps:List (List UInt8)):purL (ps.map bW)=true:=qqq (λx=>by simp) ps
theorem Y5q{m:Nat}:∀{ps:List (List UInt8)} (i:Nat),(∀p∈ps,p.length<m) ->((ps.take i).flatMap kzq).length<=i*(m+4)
 |[],i,_=>by simp
 |p::ps,0,_=>by simp
 |p::ps,i+1,h=>by
  have h1:=Y5q (ps:=ps) i λq hq=>h q (List.mem_cons_of_mem _ hq)
  have h2:=h p (List.mem_cons_self ..);simp only[List.take_succ_cons,List.flatMap_cons,List.length_append,kzq,qjq,Nat.succ_mul];omega
theorem tbytes_s(kind:UInt8)(ps:List (List UInt8))(f:Bool)(hn:ps.length<1000000)(hb:∀p∈ps,p.length<1000000):PS cfg G 246 [.int .u8 (.ofNat kind.toNat),.fz (ps.map bW) 1 f] (bW (tagB kind ps)):=by
 have e:(ps.map bW).length=ps.length:=List.length_map _;refine gIv 16 Y (λR k0=>?_);refine gV (w':=.int .i64 (ps.length:Int)) 0 Y Xw ?_;refine zfq 4 Y ?_;refine co_loopG1 (α:=Nat) (λi=>i<=ps.length) 5 (λi=>zbq (kind::(ps.take i).flatMap kzq)) 5 1 (λi=>[(14,.int .i64 (i:Int))]) [(4,_),(12,_),(13,_)] ([]) 0 0 (λi=>ps.length-i) (0) ⟨rfl,rfl,rfl,trivial⟩ (Nat.zero_le _) ⟨rfl,trivial⟩ Xd Xd Yi Yz rfl Yz Xg Xg rfl Xj Xh Yf (λi hI=>?_);refine z2q 6 Y ?_;refine gS 0 Y (λh1=>?_) (λh1=>?_)
 ·have hi:i<ps.length:=by omega
  obtain⟨x,hx⟩:∃x,ps[i]? =some x:=⟨_,List.getElem?_eq_getElem hi⟩
  have hxl:=hb x (List.mem_of_getElem? hx);have hfl:((ps.take i).flatMap kzq).length<=i*1000004:=Y5q i hb;have hL:(zbq (kind::(ps.take i).flatMap kzq)).length<=1+i*1000004:=by rw[zdq,List.length_cons];omega
  have hN:(zbq (beB 4 x.length)).length=4:=by rw[zdq,qjq]
  have hnx:zbq (kind::(ps.take (i+1)).flatMap kzq)=(zbq (kind::(ps.take i).flatMap kzq)++zbq (beB 4 x.length))++zbq x:=by
   rw[List.take_add_one,hx,<-yFq,<-yFq];congr 1
   simp[kzq,Nat.mod_eq_of_lt (show x.length<4294967296 by omega)]
  skip
  cases x with
  |nil=>
   refine yTq 6 Y ?_;refine gP 0 Y (zAq (i:=i) Y Y Y Y Y Y Y (zzq bW hx)) ?_;refine gV (w':=.int .i64 (([]:List UInt8).length:Int)) 7 Y (by show W.int .i64 ((zbq (([]:List UInt8))).length:Int)=_;rw[zdq]) ?_;refine gWr 0 Y ?_;refine gWr 0 Y ?_
   (refine ysq rfl (jQq Y Y Y Y Y Y (put_s ([]:List UInt8).length 4 Xd Xd (by show([]:List UInt8).length<4294967296;omega)) ?_);rintro w hp1 nw1 ⟨rfl,rfl,rfl⟩)
   refine zJq 10 Y ?_;refine gM 0 Y (yGq Y Y (kOq [_] (k:=ti5) (news:=zbq (beB 4 ([]:List UInt8).length)) Y Y Y Y Y (yZq Y Y Y (zpq Xo hN.symm rfl)) Yh Qh Qb rfl (by simp[numC]))) ?_;refine gM 1 Y (yGq Y Y (veq (k:=ti5) Y Y Y Y Y)) ?_;refine gWr 5 Y ?_;refine zfq 2 Y ?_;exact jpq 2 (i+1) (hi) Xd (Nat.zero_le _) (by rw[hnx];exact List.append_nil _) Xx Xd Yi rfl Xz ⟨rfl,trivial⟩ ⟨rfl,rfl,rfl,trivial⟩ Xg Xg rfl Xj Xh Yf
  |cons c x=>
   refine yTq 6 Y ?_;refine gP 0 Y (zAq (i:=i) Y Y Y Y Y Y Y (zzq bW hx)) ?_;refine gV (w':=.int .i64 ((c::x).length:Int)) 7 Y (by show W.int .i64 ((zbq ((c::x))).length:Int)=_;rw[zdq]) ?_;refine gWr 0 Y ?_;refine gWr 0 Y ?_
   (refine ysq rfl (jQq Y Y Y Y Y Y (put_s (c::x).length 4 Xd Xd (by show(c::x).length<4294967296;omega)) ?_);rintro w hp1 nw1 ⟨rfl,rfl,rfl⟩)
   refine zJq 10 Y ?_;refine gM 0 Y (yGq Y Y (kOq [_] (k:=ti5) (news:=zbq (beB 4 (c::x).length)) Y Y Y Y Y (yZq Y Y Y (zpq Xo hN.symm rfl)) Yh Qh Qb rfl (by simp[numC]))) ?_;refine gM 1 Y (yGq Y Y (qLq (k:=ti5) (len:=(zbq (kind::(ps.take i).flatMap kzq)++zbq (beB 4 (c::x).length)).length) (news:=zbq (c::x)) (olds:=zbq (kind::(ps.take i).flatMap kzq)++zbq (beB 4 (c::x).length)) Y Y Y Y Y Yz (by rw[List.length_append,hN,zdq (c::x)];show(_+_)*1<=_;omega) (by rw[List.length_append,hN,zdq (c::x)];omega) rfl Ys rfl (zpq Xo Y Y))) ?_;refine gWr 5 Y ?_;refine zfq 2 Y ?_;exact jpq 3 (i+1) (hi) Xd (Nat.zero_le _) (hnx) Xx Xd Yi rfl Xz ⟨rfl,trivial⟩ ⟨rfl,rfl,rfl,trivial⟩ Xg Xg rfl Xj Xh Yf
 ·have hi:i=ps.length:=by omega
  subst hi;refine zfq 2 Y ?_;refine y9q Xi ?_;refine zYq 9 Y ?_;refine yzq Xm Y ?_;rw[List.take_length];exact vhq (H0:=[]) Xo Xk Xk
theorem tag_le{m:Nat}(kind:UInt8)(ps:List (List UInt8))(h:∀p∈ps,p.length<m):(tagB kind ps).length<=1+ps.length*(m+4):=by
 have:=Y5q (m:=m) ps.length h;rw[List.take_length] at this;simp only[tagB,List.length_cons];omega
noncomputable def tagD(kind:UInt8)(ps:List (List UInt8)):Dig:=shaD [tagB kind ps]
theorem uRq(kind:UInt8)(ps:List (List UInt8))(f:Bool)(hn:ps.length<1000)(hb:∀p∈ps,p.length<1000000):PS cfg glK 174 [.int .u8 (.ofNat kind.toNat),.fz (ps.map bW) 1 f] (dW (tagD kind ps)):=by
 have hl:=tag_le kind ps hb;refine gI 9 Y (λR k0=>gC 0 Y (tbytes_s kind ps f Xd hb) (zfq 1 Y ?_));refine ZYq Y Y Y Y Y (by(repeat (first|exact .nil|refine .cons ?_ ?_|(refine .sl Y ?_ rfl Xi;first|rfl|(focus (simp;done)))|(refine yKq Y ?_ rfl;first|rfl|(focus (simp;done)))|(refine .pur ?_;first|rfl|(focus (simp;done)))))) (sha_s [(tagB kind ps,false)] false Xp Xk) Xj Xj ?_;exact zJq 4 Y (gQa 0 Y)
noncomputable def keyD(k:Dig):Dig:=tagD 3 [k.1]
end
section
attribute [local irreducible] CoW OpW FlW Step Spec
noncomputable def sumD:T->Dig
 |.nil=>tagD 0 []
 |.leaf k v=>tagD 1 [k.1,v]
 |.fork l r=>tagD 2 [(sumD l).1,(sumD r).1]
def kPq(t:T):Prop:=∀p∈t.all,p.2.length<1000000
theorem ok_len:∀{t:T} {d:Nat} {b:Dig},t.ok d b=true->(t.isFork=true->2<=t.all.length)/\(t.non=true->1<=t.all.length)
 |.nil,_,_,_=>⟨λh=>(by cases h),λh=>(by cases h)⟩
 |.leaf k v,_,_,_=>⟨λh=>(by cases h),λ_=>by simp[T.all]⟩
 |.fork l r,d,b,h=>by
  obtain⟨_,h1,h2,h3⟩:=ok_fork.1 h;obtain⟨l1,l2⟩:=ok_len h1;obtain⟨r1,r2⟩:=ok_len h2
  have key:2<=l.all.length+r.all.length:=by
   unfold T.two at h3;rcases Bool.or_eq_true_iff.1 h3 with h3|h3
   ·rcases Bool.or_eq_true_iff.1 h3 with h3|h3
    ·have:=l1 h3;omega
    ·have:=r1 h3;omega
   ·obtain⟨q1,q2⟩:=Bool.and_eq_true_iff.1 h3;have:=l2 q1;have:=r2 q2;omega
  have e:(T.fork l r).all.length=l.all.length+r.all.length:=by simp[T.all]
  exact⟨λ_=>by omega,λ_=>by omega⟩
theorem two_len{l r:T}{d d':Nat}{b b':Dig}(h1:l.ok d b=true)(h2:r.ok d' b'=true)(h3:T.two l r=true):2<=l.all.length+r.all.length:=by
 obtain⟨l1,l2⟩:=ok_len h1;obtain⟨r1,r2⟩:=ok_len h2;unfold T.two at h3;rcases Bool.or_eq_true_iff.1 h3 with h3|h3
 ·rcases Bool.or_eq_true_iff.1 h3 with h3|h3
  ·have:=l1 h3;omega
  ·have:=r1 h3;omega
 ·obtain⟨q1,q2⟩:=Bool.and_eq_true_iff.1 h3;have:=l2 q1;have:=r2 q2;omega
theorem node_sub(x:Node):yqq 50 (nW x) 1 32 1=some (zbq x.key.1):=by
 have h:(zbq x.key.1).length=32:=by rw[zdq,x.key.2]
 show some (((zbq x.key.1).drop (0/1)).take 32)=_;rw[show 0/1=0 from rfl,List.drop_zero,List.take_of_length_le (by rw[h];omega)]
theorem tnone_s:PS cfg glK 86 [] (dW (tagD 0 [])):=by
 exact gI 7 Y (λR k0=>ZYq Y Y Y Y Y (.cons (.pur rfl) (.cons .nilfz .nil)) (uRq 0 [] false Xk Xk) Xj Xj (zJq 4 Y (gQa 0 Y)))
theorem tsum_s(t0:Tree)(hb:t0.nodes.length<=4611686018427387903):∀(t:T) (n:Nat),Rep t0.nodes n t->kPq t->PS cfg glK 173 [tW t0,.int .i64 (n:Int)] (dW (sumD t)):=by
 intro t;induction t with
 |nil=>
  intro n hr hs;obtain rfl:n=0:=by cases hr;rfl
  refine gI 13 Y (λR k0=>?_);refine gS 0 Y (λh1=>?_) (λh1=>?_)
  ·exact gC 2 Y (tnone_s) (gQa 5 Y)
  ·exfalso;omega
 |leaf k v=>
  intro n hr hs;have hle:=hr.le;have hv:v.length<1000000:=hs (k,v) (by simp[T.all]);cases hr with
  |leaf h=>
  rename_i n l r;refine gI 13 Y (λR k0=>?_);refine gS 0 Y (λh1=>?_) (λh1=>?_)
  ·exfalso;omega
  ·refine gA 7 Y (n) (gP 0 Y (zAq (i:=n) Y Y Y Y Y Y Y (zzq nW h)) (zfq 20 Y ?_));first|refine fl_lk Y Y Y Y Y (.cons (.pur rfl) (.cons (.sl2 (full:=false) rfl (.arr (.cons (.sl (full:=false) (c:=nW ⟨true,k,v,l,r⟩) (xs:=zbq k.1) rfl Xk (node_sub _) Xi) (.cons (.pur Xk) .nil))) rfl Xi) .nil)) (uRq 1 [k.1,v] false Xk (by simp[k.2,hv])) Xj Xj Xr ?_|refine fl_lk Y Y Y Y Y (.cons (.pur rfl) (.cons .nilfz .nil)) (uRq 0 [] false Xk Xk) Xj Xj Xr ?_
   exact qoq 5 Y (gQa 0 Y)
 |fork tl tr ihL ihR=>
  intro n hr hs;have hle:=hr.le;cases hr with
  |fork h hl0 hr0 hL hR=>
  rename_i n l r k v;have sL:kPq tl:=λp hp=>hs p Yt
  have sR:kPq tr:=λp hp=>hs p Yt
  refine gI 13 Y (λR k0=>?_);refine gS 0 Y (λh1=>?_) (λh1=>?_)
  ·exfalso;omega
  ·exact gA 7 Y (n) (gP 0 Y (zAq (i:=n) Y Y Y Y Y Y Y (zzq nW h)) (gC 20 Y (ihL l hL sL) (gC 3 Y (ihR r hR sR) (zfq 11 Y (fl_lk Y Y Y Y Y (.cons (.pur rfl) (.cons (.sl2 (full:=false) rfl (.arr (.cons (.sl (full:=false) (xs:=zbq (sumD tl).1) rfl Xk (zpq Xo (by simp[zdq,(sumD tl).2]) rfl) Xi) (.cons (.sl (full:=false) (xs:=zbq (sumD tr).1) rfl Xk (zpq Xo (by simp[zdq,(sumD tr).2]) rfl) Xi) .nil))) rfl Xi) .nil)) (uRq 2 [(sumD tl).1,(sumD tr).1] false Xk (by simp[(sumD tl).2,(sumD tr).2])) Xj Xj Xr (qoq 4 Y (gQa 0 Y)))))))
end
theorem p32:(4294967296:Nat)=2^32:=by decide
noncomputable def fz{α:Type}(n:Nat)(c:Nat->α):α:=Nat.rec (c 0) (λm _=>c (Nat.succ m)) n
structure S8.Ok(s:S8):Prop where
 a:s.a<4294967296
 b:s.b<4294967296
 c:s.c<4294967296
 d:s.d<4294967296
 e:s.e<4294967296
 f:s.f<4294967296
 g:s.g<4294967296
 h:s.h<4294967296
theorem xEq(a b:Nat):addN a b<4294967296:=Nat.mod_lt _ Xo
theorem rnd_ok{s:S8}(h:s.Ok)(k w:Nat):(roundN k w s).Ok:=⟨xEq _ _,h.a,h.b,h.c,xEq _ _,h.e,h.f,h.g⟩
noncomputable def wS(bs:Nat->Nat)(i:Nat):Nat:=(ycq bs (i+1)).getD i 0
theorem rounds_ok{s:S8}(h:s.Ok)(ws:List Nat):∀t,(k2q ws s t).Ok
 |0=>h
 |t+1=>rnd_ok (rounds_ok h ws t) _ _
theorem word_eq{b0 b1 b2 b3:Nat}(h0:b0<256)(h1:b1<256)(h2:b2<256)(h3:b3<256):wordN b0 b1 b2 b3=Nat.lor (Nat.lor (Nat.lor (Nat.shiftLeft b0 24) (Nat.shiftLeft b1 16)) (Nat.shiftLeft b2 8)) b3:=by
 have s:∀b n,b<256->n<=24->Nat.shiftLeft b n<4294967296:=λb n hb hn=>by
  show b<<<n<4294967296;rw[Nat.shiftLeft_eq];have:2^n<=2^24:=Nat.pow_le_pow_right Xo hn;have:=Nat.mul_le_mul (show b<=255 by omega) this;omega
 have e:∀b n,b<256->n<=24->shlN (b%4294967296) n=Nat.shiftLeft b n:=λb n hb hn=>by
  unfold shlN;rw[Nat.min_eq_left Xd,Nat.mod_eq_of_lt (show b<4294967296 by omega),Nat.mod_eq_of_lt (s b n hb hn)]
 have o:∀a b,a<4294967296->b<4294967296->orN a b=Nat.lor a b:=λa b ha hb=>by
  unfold orN;rw[Nat.mod_eq_of_lt ha,Nat.mod_eq_of_lt hb]
 have ol:∀a b,a<4294967296->b<4294967296->Nat.lor a b<4294967296:=λa b ha hb=>by
  rw[p32] at*
  exact Nat.or_lt_two_pow ha hb
 unfold wordN;rw[e b0 24 h0 Xo,e b1 16 h1 Xo,e b2 8 h2 Xo,Nat.mod_eq_of_lt (show b3<4294967296 by omega)];rw[o _ _ (s b0 24 h0 Xo) (s b1 16 h1 Xo),o _ _ (ol _ _ (s b0 24 h0 Xo) (s b1 16 h1 Xo)) (s b2 8 h2 Xo),o _ _ (ol _ _ (ol _ _ (s b0 24 h0 Xo) (s b1 16 h1 Xo)) (s b2 8 h2 Xo)) Xd]
noncomputable def small(l:List Nat):Prop:=∀b∈l,b<256
theorem small_at{l:List Nat}(h:small l)(i:Nat):atL l i<256:=by
 unfold atL;rw[List.getD_eq_getElem?_getD];cases hq:l[i]? with
 |none=>show(0:Nat)<256;decide
 |some b=>exact h b (List.mem_of_getElem? hq)
theorem block_ok(s:S8)(bs:Nat->Nat):(q1q bs s).Ok:=⟨xEq _ _,xEq _ _,xEq _ _,xEq _ _,xEq _ _,xEq _ _,xEq _ _,xEq _ _⟩
theorem pad_eq:∀(n:Nat) (r:List Nat),(120-r.length%64)%64<=n->padZ n r=r++List.replicate ((120-r.length%64)%64) 0
 |0,r,h=>by
  rw[Nat.le_zero.1 h];simp[padZ]
 |n+1,r,h=>by
  unfold padZ;cases hb:Nat.beq (r.length%64) 56 with
  |true=>
   have:=Nat.eq_of_beq_eq_true hb;rw[this];simp
  |false=>
   have hne:r.length%64≠56:=λe=>by rw[e] at hb;cases hb
   show padZ n (r++[0])=_;have hl:(r++[0]).length=r.length+1:=by simp
   rw[pad_eq n (r++[0]) (by rw[hl];omega),hl,List.append_assoc];have:(120-r.length%64)%64=(120-(r.length+1)%64)%64+1:=by omega
   rw[this];rfl
section
attribute [local irreducible] CoW OpW FlW Step Spec
variable {G:Nat->Option W}
noncomputable def rotT(x n:Nat):Nat:=orN (shrN x n) (shlN x (32-n))
theorem rotT_eq{x n:Nat}(hn:n<=32):rotT x n=rotN x n:=by
 unfold rotT rotN orN shrN shlN;rw[Nat.min_eq_left hn,Nat.min_eq_left (Nat.sub_le _ _)];exact Nat.or_comm _ _
theorem quq(n:Nat)(hn:n=2\/n=6\/n=7\/n=11\/n=13\/n=17\/n=18\/n=19\/n=22\/n=25)(x:Nat):PS cfg G 362 [wd x,wd n] (wd (rotN x n)):=by
 have key:∀h,y8q cfg 20 362 [.int .u32 (.ofNat x),.int .u32 (.ofNat n)] h=some (.int .u32 (.ofNat (rotT x n)),h):=by
  intro h;rcases hn with rfl|rfl|rfl|rfl|rfl|rfl|rfl|rfl|rfl|rfl<;>kernel_rfl
 have e:rotT x n=rotN x n:=rotT_eq Xd;rw[e] at key;refine xuq (spec_run key (λΓ us h=>?_) (λΓ=>RV_int.2 rfl)) λw hp nw h=>h.1
 obtain⟨v,vs,rfl,h1,h2⟩:=RVL_cons.1 h;obtain⟨v',vs',rfl,h3,h4⟩:=RVL_cons.1 h2;rw[RVL_nil.1 h4,RV_int.1 h1,RV_int.1 h3]
theorem sub_not{e:Nat}(he:e<4294967296):4294967295-e=notN e:=by
 unfold notN;rw[Nat.mod_eq_of_lt he];have h:=BitVec.toNat_not (x:=BitVec.ofNat 32 e);rw[<-BitVec.allOnes_xor] at h;simp only[BitVec.toNat_xor,BitVec.toNat_allOnes,BitVec.toNat_ofNat] at h;rw[Nat.mod_eq_of_lt (show e<2^32 from he)] at h;exact h.symm
theorem wrap_not{e:Nat}(he:e<4294967296):W.int .u32 (jnq .u32 ((4294967295:Int) -Int.ofNat e))=wd (notN e):=by
 rw[<-sub_not he]
 have:(4294967295:Int) -Int.ofNat e=((4294967295-e:Nat):Int):=by
  show(4294967295:Int) -(e:Int)=_;omega
 rw[this];show W.int .u32 (((4294967295-e)%4294967296:Nat):Int)=W.int .u32 ((4294967295-e:Nat):Int);rw[Nat.mod_eq_of_lt Xd]
theorem rround_s(v:S8)(hv:v.Ok)(k w:Nat):PS cfg G 351 [.arr 8 1 v.l,wd k,wd w] (.arr 8 1 (roundN k w v).l):=by
 refine gI 8 Y (λR k0=>?_);refine gX 0 Y ?_;refine gX 1 Y ?_;refine gX 1 Y ?_;refine gX 1 Y ?_;refine gX 1 Y ?_;refine gX 1 Y ?_;refine gX 1 Y ?_;refine gX 1 Y ?_;refine gC 15 Y (quq _ Xk _) ?_;refine gC 1 Y (quq _ Xk _) ?_;refine gC 2 Y (quq _ Xk _) ?_;refine gV (w':=wd (notN v.e)) 6 Y (wrap_not hv.e) ?_;refine gC 14 Y (quq _ Xk _) ?_;refine gC 1 Y (quq _ Xk _) ?_;refine gC 2 Y (quq _ Xk _) ?_;exact gQa 35 Y
theorem words_s:PS cfg G 349 [] (.arr 64 1 (kW.map wd)):=by
 exact gI 12 Y (λR k0=>gQa 0 Y)
noncomputable def horn(bs:Nat->Nat)(t:Nat):Nat->Nat
 |0=>0
 |i+1=>addN (256*horn bs t i%4294967296) (bs (4*t+i))
theorem horn_word{bs:Nat->Nat}(hb:∀i,bs i<256)(t:Nat):horn bs t 4=wordN (bs (4*t)) (bs (4*t+1)) (bs (4*t+2)) (bs (4*t+3)):=by
 have h0:=hb (4*t);have h1:=hb (4*t+1);have h2:=hb (4*t+2);have h3:=hb (4*t+3);rw[word_eq h0 h1 h2 h3];have e1:=Nat.shiftLeft_add_eq_or_of_lt (i:=8) (b:=bs (4*t+1)) Xd (bs (4*t));have s:∀a i:Nat,Nat.shiftLeft a i=a*2^i:=λa i=>Nat.shiftLeft_eq a i
 have o1:Nat.lor (Nat.shiftLeft (bs (4*t)) 24) (Nat.shiftLeft (bs (4*t+1)) 16)=bs (4*t)*16777216+bs (4*t+1)*65536:=by
  have:=Nat.shiftLeft_add_eq_or_of_lt (i:=24) (b:=bs (4*t+1)*65536) Xd (bs (4*t));rw[Nat.shiftLeft_eq] at this;rw[s (bs (4*t+1)) 16];show bs (4*t)<<<24|||(bs (4*t+1)*2^16)=_
  rw[Nat.shiftLeft_eq];exact this.symm
 have o2:Nat.lor (bs (4*t)*16777216+bs (4*t+1)*65536) (Nat.shiftLeft (bs (4*t+2)) 8)=bs (4*t)*16777216+bs (4*t+1)*65536+bs (4*t+2)*256:=by
  have q:bs (4*t)*16777216+bs (4*t+1)*65536=(bs (4*t)*256+bs (4*t+1))*65536:=by rw[Nat.add_mul,Nat.mul_assoc]
  have:=Nat.shiftLeft_add_eq_or_of_lt (i:=16) (b:=bs (4*t+2)*256) Xd (bs (4*t)*256+bs (4*t+1));rw[Nat.shiftLeft_eq,show(2:Nat)^16=65536 from rfl] at this;rw[s];show(bs (4*t)*16777216+bs (4*t+1)*65536)|||(bs (4*t+2)*256)=_
  rw[q];exact this.symm
 have o3:Nat.lor (bs (4*t)*16777216+bs (4*t+1)*65536+bs (4*t+2)*256) (bs (4*t+3))=bs (4*t)*16777216+bs (4*t+1)*65536+bs (4*t+2)*256+bs (4*t+3):=by
  have q:bs (4*t)*16777216+bs (4*t+1)*65536+bs (4*t+2)*256=(bs (4*t)*65536+bs (4*t+1)*256+bs (4*t+2))*256:=by rw[Nat.add_mul,Nat.add_mul,Nat.mul_assoc,Nat.mul_assoc]
  have:=Nat.shiftLeft_add_eq_or_of_lt (i:=8) (b:=bs (4*t+3)) Xd (bs (4*t)*65536+bs (4*t+1)*256+bs (4*t+2));rw[Nat.shiftLeft_eq,show(2:Nat)^8=256 from rfl] at this;show(bs (4*t)*16777216+bs (4*t+1)*65536+bs (4*t+2)*256)|||bs (4*t+3)=_
  rw[q];exact this.symm
 rw[o1,o2,o3];simp only[horn,addN];rw[show 4*t+0=4*t from rfl];omega
noncomputable def bsL(l:List UInt8):Nat->Nat:=atL (l.map UInt8.toNat)
theorem bsL_lt(l:List UInt8)(i:Nat):bsL l i<256:=small_at (λb hb=>by obtain⟨c,_,rfl⟩:=List.mem_map.1 hb;exact c.toNat_lt) i
theorem bsL_at{l:List UInt8}{i:Nat}(h:i<l.length):(zbq l)[i]? =some (.int .u8 ((bsL l i:Nat):Int)):=by
 unfold zbq bsL atL;rw[List.getElem?_map,List.getElem?_eq_getElem h];simp[List.getD,List.getElem?_eq_getElem h]
theorem pad0_snoc{L:List Nat}{n:Nat}(h:L.length<n):pad0 (L++[0]) n=pad0 L n:=by
 unfold pad0;rw[show n-L.length=(n-(L++[0]).length)+1 by simp;omega,List.replicate_succ,List.append_assoc];rfl
theorem pad0_last{L:List Nat}{n x:Nat}(h:L.length<n):((pad0 (L++[x]) n).map wd)[L.length]? =some (wd x):=by
 rw[pad0_at Xk];simp[List.getD]
theorem pad0_turn{L:List Nat}{n x y:Nat}(h:L.length<n):((pad0 (L++[x]) n).map wd).set L.length (wd y)=(pad0 (L++[y]) n).map wd:=by
 rw[<-List.map_set];congr 1
 unfold pad0;rw[show(L++[x]).length=(L++[y]).length by simp,List.append_assoc,List.append_assoc,List.set_append_right _ _ (Nat.le_refl _),Nat.sub_self];rfl
noncomputable def schH(L:List Nat):HpW:=[(1,459,.arr 64 1 ((pad0 L 64).map wd)),(0,459,.arr 64 1 (List.replicate 64 (wd 0)))]
theorem sched_s(l:List UInt8)(f:Bool)(hl:l.length=64):PS cfg G 350 [.fz (zbq l) 1 f] (.arr 64 1 ((ycq (bsL l) 64).map wd)):=by
 obtain⟨bs,eb⟩:∃bs,bsL l=bs:=⟨_,rfl⟩
 have hb:∀i,bs i<256:=λi=>by rw[<-eb];exact bsL_lt l i
 have hat:∀i,i<64->(zbq l)[i]? =some (.int .u8 ((bs i:Nat):Int)):=λi hi=>by rw[<-eb];exact bsL_at Xd
 rw[eb];refine gI 17 Y (λR k0=>?_);refine qBq (α:=Nat) (λt=>t<=16) (λt=>[(4,.int .i64 (t:Int))]) [(0,_),(2,_),(3,_)] (λt=>schH (ycq bs t)) (λt=>16-t) (0) ⟨rfl,rfl,rfl,trivial⟩ (Nat.zero_le _) ⟨rfl,trivial⟩ (rfl) (λt hI=>?_);have hsl:=k1q bs t;refine z2q 7 Y ?_;refine gS 0 Y (λh1=>?_) (λh1=>?_)
 ·have ht:t<16:=by omega
  refine zfq 10 Y ?_;refine qBq (α:=Nat) (λi=>i<=4) (λi=>[(5,.int .i64 (i:Int))]) [(0,_),(2,_),(3,_),(4,_),(9,_),(10,_)] (λi=>schH (ycq bs t++[horn bs t i])) (λi=>4-i) (0) ⟨rfl,rfl,rfl,rfl,rfl,rfl,trivial⟩ (Nat.zero_le _) ⟨rfl,trivial⟩ (by show schH (ycq bs t)=schH (ycq bs t++[0]);unfold schH;rw[pad0_snoc Xd]) (λi hI=>?_);have hc:=hb (4*t+i);have hL:((pad0 (ycq bs t++[horn bs t i]) 64).map wd)[0+t*1]? =some (wd (horn bs t i)):=by have:=pad0_last (L:=ycq bs t) (n:=64) (x:=horn bs t i) Xd;rw[hsl] at this;rw[Nat.zero_add,Nat.mul_one];exact this
  refine z2q 7 Y ?_;refine gS 0 Y (λh2=>?_) (λh2=>?_)
  ·have hi:i<4:=by omega
   have hset:((pad0 (ycq bs t++[horn bs t i]) 64).map wd).set (0+t*1) (wd (horn bs t (i+1)))=(pad0 (ycq bs t++[horn bs t (i+1)]) 64).map wd:=by have:=pad0_turn (L:=ycq bs t) (n:=64) (x:=horn bs t i) (y:=horn bs t (i+1)) Xd;rw[hsl] at this;rw[Nat.zero_add,Nat.mul_one];exact this
   refine gP 7 Y (zHq (i:=t) Y Y Y Y Y Y Xd) (gM 0 Y (yUq Y Y Y (yxq hL rfl)) (gV (w':=wd (256*horn bs t i%4294967296)) 0 Y Y (gA 2 Y (4*t) (gA 1 Y (4*t+i) (gP 0 Y (zAq (i:=4*t+i) Y Y Y Y Y Y Y (hat _ Xd)) (gA 1 Y (bs (4*t+i)) (gV (w':=wd (horn bs t (i+1))) 0 Y Y (gP 0 Y (zHq (i:=t) Y Y Y Y Y Y Xd) (gM 0 Y (jwq Y Y Y Y Y (y6q hL Y Y) rfl) (gA 5 Y (i+1) (zfq 2 Y ?_)))))))))));skip
   exact qRq (i+1) hi Xd ⟨rfl,trivial⟩ ⟨rfl,rfl,rfl,rfl,rfl,rfl,trivial⟩ Yu
  ·have hi:i=4:=by omega
   subst hi
   have hnx:ycq bs (t+1)=ycq bs t++[horn bs t 4]:=by
    rw[horn_word hb];show ycq bs t++[k4q bs (ycq bs t)]=_;unfold k4q;rw[hsl,show Nat.blt t 16=true from Nat.ble_eq_true_of_le ht]
   refine zfq 2 Y (y9q Xi (zYq 5 Y (gA 0 Y (t+1) (zfq 2 Y ?_))));skip
   exact qRq (t+1) ht Xd ⟨rfl,trivial⟩ ⟨rfl,rfl,rfl,trivial⟩ (by rw[hnx])
 ·have ht:t=16:=by omega
  subst ht;refine zfq 2 Y (y9q Xi (zYq 9 Y ?_));refine qBq (α:=Nat) (λu=>16<=u/\u<=64) (λu=>[(6,.int .i64 (u:Int))]) [(2,_),(3,_)] (λu=>schH (ycq bs u)) (λu=>64-u) (16) ⟨rfl,rfl,trivial⟩ (Qm) ⟨rfl,trivial⟩ (rfl) (λu hI=>?_);obtain⟨g1,g2⟩:=hI;have hsu:=k1q bs u;refine z2q 7 Y ?_;refine gS 0 Y (λh2=>?_) (λh2=>?_)
  ·have hu:u<64:=by omega
   obtain⟨L,eL⟩:∃L,ycq bs u=L:=⟨_,rfl⟩
   rw[eL] at hsu⊢;have hat2:∀i,i<u->((pad0 L 64).map wd)[0+i*1]? =some (wd (L.getD i 0)):=λi hi=>by rw[Nat.zero_add,Nat.mul_one];exact pad0_at Xd
   have hge:((pad0 L 64).map wd)[0+u*1]? =some (wd 0):=by have:=pad0_ge (l:=L) (n:=64) Xd;rw[hsu] at this;rw[Nat.zero_add,Nat.mul_one];exact this
   have hnx:k4q bs L=addN (addN (addN (L.getD (u-16) 0) (xorN (xorN (rotN (L.getD (u-15) 0) 7) (rotN (L.getD (u-15) 0) 18)) (shrN (L.getD (u-15) 0) 3))) (L.getD (u-7) 0)) (xorN (xorN (rotN (L.getD (u-2) 0) 17) (rotN (L.getD (u-2) 0) 19)) (shrN (L.getD (u-2) 0) 10)):=by
    have hbl:Nat.blt u 16=false:=by
     cases hq:Nat.blt u 16 with
     |false=>rfl
     |true=>have:=Yb hq;omega
    unfold k4q;rw[hsu,hbl]
   have hset:((pad0 L 64).map wd).set (0+u*1) (wd (k4q bs L))=(pad0 (ycq bs (u+1)) 64).map wd:=by
    have:=pad0_set (l:=L) (n:=64) (x:=k4q bs L) Xd;rw[hsu] at this;rw[Nat.zero_add,Nat.mul_one,this];show _=(pad0 (ycq bs u++[k4q bs (ycq bs u)]) 64).map wd;rw[eL]
   refine gA 7 Y (u-15) (gP 0 Y (zHq (i:=u-15) Y Y Y Y Y Y Xd) (gM 0 Y (yUq Y Y Y (yxq (hat2 (u-15) Xd) rfl)) (gA 1 Y (u-2) (gP 0 Y (zHq (i:=u-2) Y Y Y Y Y Y Xd) (gM 0 Y (yUq Y Y Y (yxq (hat2 (u-2) Xd) rfl)) (gA 7 Y (u-16) (gP 0 Y (zHq (i:=u-16) Y Y Y Y Y Y Xd) (gM 0 Y (yUq Y Y Y (yxq (hat2 (u-16) Xd) rfl)) (gC 1 Y (quq _ Xk _) (gC 1 Y (quq _ Xk _) (gA 6 Y (u-7) (gP 0 Y (zHq (i:=u-7) Y Y Y Y Y Y Xd) (gM 0 Y (yUq Y Y Y (yxq (hat2 (u-7) Xd) rfl)) (gC 2 Y (quq _ Xk _) (gC 1 Y (quq _ Xk _) (gV (w':=wd (k4q bs L)) 4 Y (by rw[hnx];rfl) (gP 0 Y (zHq (i:=u) Y Y Y Y Y Y Xd) (gM 0 Y (jwq Y Y Y Y Y (y6q hge Y Y) rfl) (gA 5 Y (u+1) (zfq 2 Y ?_))))))))))))))))))));skip
   exact qRq (u+1) ⟨by omega,hu⟩ Xd ⟨rfl,trivial⟩ ⟨rfl,rfl,trivial⟩ Yu
  ·have hu:u=64:=by omega
   subst hu;refine zfq 2 Y (y9q Xi (zYq 9 Y ?_));have ep:pad0 (ycq bs 64) 64=ycq bs 64:=by unfold pad0;rw[hsu];simp
   exact gQ 0 Y (by rw[ep])
theorem half_pow(x:Nat){j:Nat}(h1:1<=j)(h2:j<=7):x/2^(7-j)/2=x/2^(7-(j-1)):=by
 rw[Nat.div_div_eq_div_mul,<-Nat.pow_succ,show(7-j).succ=7-(j-1) by omega]
theorem rat_s(k:Dig)(i:Nat)(h:i<256):PS cfg G 261 [dW k,.int .i64 (i:Int)] (.int .u8 (bitN k i:Nat)):=by
 have hk:=xOq k (i/8);refine gI 9 Y (λR k0=>gA 0 Y (i/8) (e:=(jNq i 8)) (gP 0 Y (zHq (i:=i/8) Y Y Y Y Y Y Xd) (gM 0 Y (yUq Y Y Y (dW_ld k Xd)) ?_)));refine gLo (α:=Nat×Nat) 10 (λp=>p.1<=7/\i%8<=p.1/\p.2=kn k (i/8)/2^(7-p.1)/\p.2<=255) (λp=>[(6,.int .i64 (p.1:Int)),(5,.int .u8 (p.2:Nat))]) [1,4] (λp=>p.1) ((7,kn k (i/8))) rfl (⟨Nat.le_refl _,by show i%8<=7;omega,by simp,hk⟩) (λp hI=>?_);obtain⟨j,c⟩:=p;obtain⟨g1,g2,g3,g4⟩:=hI;simp only at g1 g2 g3 g4⊢;refine gV 5 Y (congrArg (W.int .i64) (klq i 8)) ?_;refine gS 3 Y (λh1=>?_) (λh1=>?_)
 ·have hj:i%8<j:=by omega
  exact gA 6 Y (c/2) (e:=(jNq c 2)) (gA 6 Y (j-1) (gAg 2 Y ((j-1,c/2)) (⟨by simp only;omega,by simp only;omega,by simp only[g3];exact half_pow _ Xd g1,by simp only;omega⟩) Ya))
 ·have hj:i%8=j:=by omega
  refine gO 2 Y (gV (w':=.int .u8 ((c%2:Nat):Int)) 5 Y (congrArg (W.int .u8) (klq c 2)) (gQ 4 Y ?_));rw[g3,<-hj];unfold bitN;rfl
theorem rshared_s(a b:Dig):PS cfg G 331 [dW a,dW b] (.int .i64 (yhq a b:Nat)):=by
 refine gI 14 Y (λR k0=>?_);refine gLo (α:=Nat) 0 (λn=>n<=256/\∀j,j<n->bitN a j=bitN b j) (λn=>[(5,.int .i64 (n:Int))]) [2,3,4] (λn=>256-n) (0) rfl (⟨Nat.zero_le _,λj h=>by omega⟩) (λn hI=>?_);obtain⟨g1,g2⟩:=hI;refine gD 4 Y (λh1=>?_) (λh1=>?_)
 ·have hn:n<256:=by omega
  refine gC 3 Y (rat_s _ _ Xd) (gC 2 Y (rat_s _ _ Xd) (gU 0 Y ?_));refine gS 3 Y (λh2=>?_) (λh2=>?_)
  ·exact gA 5 Y (n+1) (gAg 3 Y (n+1) (⟨hn,λj hj=>by rcases Nat.lt_succ_iff_lt_or_eq.1 hj with q|rfl;exact g2 j q;omega⟩) Xd)
  ·refine gO 2 Y (gQ 9 Y ?_);rw[xFq (j7q a b) (t:=n) ⟨g2,.inr ⟨hn,by omega⟩⟩]
 ·have hn:n=256:=by omega
  refine gO 14 Y (gQ 9 Y ?_);rw[xFq (j7q a b) (t:=n) ⟨g2,.inl hn⟩]
theorem xor_sub:∀x,x<256->∀e,e<8->x/2^e%2=1->2^e<=x/\x^^^2^e=x-2^e:=by decide+kernel
theorem xor_add:∀x,x<256->∀e,e<8->¬x/2^e%2=1->x+2^e<256/\x^^^2^e=x+2^e:=by decide+kernel
theorem rturn_in(k:Dig)(i:Nat)(h:i<256):PS cfg G 333 [dW k,.int .i64 (i:Int)] (.tup [dW (qlq k i),.int .i64 0]):=by
 have hk:=xOq k (i/8);refine gI 11 Y (λR k0=>?_);refine gD 0 Y (λh1=>?_) (λh1=>?_)
 ·exfalso;omega
 refine gU 2 Y ?_;refine gS 3 Y (λh2=>?_) (λh2=>?_)
 ·exfalso;omega
 refine gLo (α:=Nat×Nat) 14 (λp=>p.1<=7/\i%8<=p.1/\p.2=2^(7-p.1)) (λp=>[(7,.int .i64 (p.1:Int)),(6,.int .u8 (p.2:Nat))]) [1,2,4,5] (λp=>p.1) ((7,1)) rfl (⟨Nat.le_refl _,by show i%8<=7;omega,rfl⟩) (λp hI=>?_);obtain⟨j,c⟩:=p;obtain⟨g1,g2,g3⟩:=hI;simp only at g1 g2 g3⊢;refine gV 5 Y (congrArg (W.int .i64) (klq i 8)) ?_;refine gS 3 Y (λh3=>?_) (λh3=>?_)
 ·have hj:i%8<j:=by omega
  have hc:2*c<=255:=by
   have:=pow_le (j-1);rw[show 7-(j-1)=7-j+1 by omega,Nat.pow_succ] at this;omega
  exact gA 6 Y (2*c) (gA 6 Y (j-1) (gAg 2 Y ((j-1,2*c)) (⟨by simp only;omega,by simp only;omega,by simp only[g3];rw[show 7-(j-1)=7-j+1 by omega,Nat.pow_succ,Nat.mul_comm]⟩) Ya))
 ·have hj:i%8=j:=by omega
  subst hj;refine gO 2 Y (gC 7 Y (rat_s _ _ Xd) ?_);refine gS 3 Y (λh4=>?_) (λh4=>?_)
  ·have hb:kn k (i/8)/2^(7-i%8)%2=1:=by
    have h4:((bitN k i:Nat):Int)=1:=h4;unfold bitN at h4;omega
   obtain⟨q1,q2⟩:=xor_sub _ Xd _ Xd hb;refine gA 2 Y (i/8) (e:=(jNq i 8)) (gP 0 Y (zHq (i:=i/8) Y Y Y Y Y Y Xd) (gM 0 Y (yUq Y Y Y (dW_ld k Xd)) (gA 1 Y (kn k (i/8) -c) (gP 0 Y (zHq (i:=i/8) Y Y Y Y Y Y Xd) (gM 0 Y (jwq Y Y Y Y Y (y6q (i:=0+i/8*1) Qf Y Y) rfl) (gQ 10 Y ?_))))));rw[Nat.zero_add,Nat.mul_one,dW_set k (i/8) Xd,g3,<-q2];unfold qlq;rfl
  ·have hb:¬kn k (i/8)/2^(7-i%8)%2=1:=by
    have h4:¬((bitN k i:Nat):Int)=1:=h4;unfold bitN at h4;omega
   obtain⟨q1,q2⟩:=xor_add _ Xd _ Xd hb;refine gA 2 Y (i/8) (e:=(jNq i 8)) (gP 0 Y (zHq (i:=i/8) Y Y Y Y Y Y Xd) (gM 0 Y (yUq Y Y Y (dW_ld k Xd)) (gA 1 Y (kn k (i/8)+c) (gP 0 Y (zHq (i:=i/8) Y Y Y Y Y Y Xd) (gM 0 Y (jwq Y Y Y Y Y (y6q (i:=0+i/8*1) Qf Y Y) rfl) (gQ 10 Y ?_))))));rw[Nat.zero_add,Nat.mul_one,dW_set k (i/8) Xd,g3,<-q2];unfold qlq;rfl
theorem rvalue_s(l:List UInt8)(f:Bool):PS cfg G 275 [.fz (zbq l) 1 f] (.bool (valB l)):=by
 have e:=zdq l;refine gI 8 Y (λR k0=>gV (w':=.int .i64 (l.length:Int)) 0 Y Xw ?_);refine gD 0 Y (λh1=>?_) (λh1=>?_)
 ·have h0:0<l.length:=by omega
  refine gV (w':=.int .i64 (l.length:Int)) 2 Y Xw (gU 0 Y (gQ 5 Y ?_));unfold valB;rw[decide_eq_true h0,Bool.true_and];exact congrArg W.bool (decide_eq_decide.2 Xd)
 ·have h0:¬0<l.length:=by omega
  refine gQ 9 Y ?_;unfold valB;rw[decide_eq_false h0,Bool.false_and]
theorem rtwin_s(l:List UInt8)(f:Bool)(hl:l.length<=70368744177664):PS cfg G 165 [.fz (zbq l) 1 f] (bW l):=by
 refine ps_inV (fn:=Tryz.f165) Y Y Y (Yb rfl) (λR k0=>?_);cases l with
 |nil=>
  skip
  refine z2q 14 Y (gM 0 Y (yGq Y Y (Qjq Y Y Y Y Y)) (zfq 4 Y (yzq Xm Y ?_)))
  (repeat (first|exact .nil|refine .cons ?_ ?_|exact zBq|exact .nilfz|refine .fn ?_ ?_|(refine yKq Y ?_ rfl;(first|rfl|(focus (simp;done))))|(refine .sl Y ?_ rfl Xi;(first|rfl|(focus (simp;done))))|(refine .pur ?_;(first|rfl|(focus (simp;done))))|(refine .fzw ?_;(first|rfl|(focus (simp;done))))|refine .agg ?_|refine .arr ?_|refine .tup ?_))
 |cons c l=>
  simp only[List.length_cons] at hl;exact z2q 14 Y (gM 0 Y (yGq Y Y (x3q (news:=zbq (c::l)) (k:=ti5) Y Y Y Y Y Yz (by show(zbq (c::l)).length*1<=_;rw[zdq];simp only[List.length_cons];omega) (by rw[zdq];simp only[List.length_cons];omega))) (zfq 4 Y (yzq Xm Y (view_sl Xo rfl Xk))))
@[simp] theorem psW_drop(ps:List Pr)(i:Nat):purL ((ps.map pW).drop i)=true:=by rw[<-List.map_drop];exact jhq _
@[simp] theorem psW_take(ps:List Pr)(i:Nat):purL ((ps.map pW).take i)=true:=by rw[<-List.map_take];exact jhq _
def idxP(ps:List Pr)(k:Dig):Int:=match ps.findIdx? (λp=>decide (p.1=k)) with
 |some i=>i
 |none=>-1
theorem rfind_s(ps:List Pr)(f:Bool)(k:Dig)(hb:ps.length<=1000000000):PS cfg G 284 [.fz (ps.map pW) 33 f,dW k] (.int .i64 (idxP ps k)):=by
 have e:(ps.map pW).length=ps.length:=List.length_map _;refine gI 13 Y (λR k0=>?_);refine gLo (α:=Nat) 0 (λi=>i<=ps.length/\∀j x,j<i->ps[j]? =some x->x.1≠k) (λi=>[(5,.int .i64 (i:Int))]) [0,3,4] (λi=>ps.length-i) (0) rfl (⟨Nat.zero_le _,λj x h=>by omega⟩) (λi hI=>?_);obtain⟨g1,g2⟩:=hI;refine gV (w':=.int .i64 (ps.length:Int)) 5 Y Xw ?_;refine gS 3 Y (λh1=>?_) (λh1=>?_)
 ·have hi:i<ps.length:=by omega
  obtain⟨x,hx⟩:∃x,ps[i]? =some x:=⟨_,List.getElem?_eq_getElem hi⟩
  refine gP 8 Y (zAq (i:=i) Y Y Y Y Y Y Y (zzq pW hx)) (gUe 3 Y (y2q Y Y Y Y (qfq Y Y Y Y Y Y _ _ 250)) yvq ?_);refine gS 2 Y (λh2=>?_) (λh2=>?_)
  ·refine gO 9 Y (gQ 2 Y ?_)
   have:ps.findIdx? (λp=>decide (p.1=k))=some i:=by
    rw[List.findIdx?_eq_some_iff_getElem];refine⟨hi,?_,λj hj=>?_⟩
    ·have:=(List.getElem?_eq_some_iff.1 hx).2;rw[this];exact decide_eq_true h2
    ·simp only[decide_eq_true_eq];exact g2 j _ hj (List.getElem?_eq_getElem Xd)
   unfold idxP;rw[this]
  ·exact gA 5 Y (i+1) (gAg 2 Y (i+1) (⟨hi,λj y hj hy=>by rcases Nat.lt_succ_iff_lt_or_eq.1 hj with q|rfl;exact g2 j y q hy;have:=Option.some.inj (hx.symm.trans hy);subst this;exact h2⟩) Xd)
 ·refine gO 2 Y (gQ 8 Y ?_)
  have:ps.findIdx? (λp=>decide (p.1=k))=none:=by
   rw[List.findIdx?_eq_none_iff];intro x hx;obtain⟨j,hj⟩:=List.getElem?_of_mem hx;have:=(List.getElem?_eq_some_iff.1 hj).1;exact decide_eq_false (g2 j x Xd hj)
  unfold idxP;rw[this]
theorem rnumber_s(l:List UInt8)(f:Bool)(hl:l.length<=8):PS cfg G 332 [.fz (zbq l) 1 f] (.int .u64 (numB l:Nat)):=by
 have e:=zdq l;refine gI 17 Y (λR k0=>?_);refine gLo (α:=Nat) 0 (λi=>i<=l.length) (λi=>[(4,.int .i64 (i:Int)),(3,.int .u64 (numB (l.take i):Nat))]) [0,2] (λi=>l.length-i) (0) rfl (Nat.zero_le _) (λi hI=>?_);refine gV (w':=.int .i64 (l.length:Int)) 5 Y Xw ?_;refine gS 3 Y (λh1=>?_) (λh1=>?_)
 ·have hi:i<l.length:=by omega
  obtain⟨c,hc⟩:∃c,l[i]? =some c:=⟨_,List.getElem?_eq_getElem hi⟩
  have hcl:=c.toNat_lt;have hn:=vmq (l:=l) (i:=i) Xd;have ht:=numB_take hc
  have hlt:numB (l.take (i+1))<18446744073709551616:=by
   have h1:=numB_lt (l.take (i+1));have h2:256^(l.take (i+1)).length<=256^(i+1):=Nat.pow_le_pow_right Xd Xp;have h3:=pow256_le (i:=i+1) Xd;omega
  exact gA 6 Y (256*numB (l.take i)) (gP 2 Y (zAq (i:=i) Y Y Y Y Y Y Y (uFq hc)) (gA 1 Y (c.toNat) (gA 0 Y (numB (l.take (i+1))) (e:=(by rw[ht];omega)) (gA 6 Y (i+1) (gAg 2 Y (i+1) (hi) Xd)))))
 ·have hi:i=l.length:=by omega
  subst hi;rw[List.take_length];exact gO 2 Y (gQa 9 Y)
theorem jzq(n size:Nat)(hn:n<18446744073709551616)(hs8:size<=8):j2q cfg G 287 0 [.int .u64 (n:Int),.int .i64 (size:Int)] [] λw hp nw=>
  w= .tup [.sl 0 0 0 size 1 none,.bool (decide (n/256^size=0))]/\hp=[(0,5,.arr (size*1) 1 (zbq (beB size n)))]/\nw=1:=by
 intro R;refine gIs 9 Y (λk0=>?_);refine gM 0 Y (YYq (l:=size) (c:=size) Y Y Y Y Y Y Y Y (Nat.le_refl _) (by show 1*size<=_;omega) Xd Y Y) (zfq 7 Y (op_z ((size:Int) -1-((0:Nat):Int)) Y Y Xd Qm (zJq 4 Y ?_)));refine qBq (α:=Nat×Nat) (λp=>p.1<=size/\p.2=n/256^p.1) (λp=>[(7,.int .i64 ((size:Int) -1-(p.1:Int))),(0,.int .u64 (p.2:Nat))]) [(4,_),(5,_),(6,_)] (λp=>[(0,5,.arr (size*1) 1 (zbq (List.replicate (size-p.1) 0++beB p.1 n)))]) (λp=>size-p.1) ((0,n)) ⟨rfl,rfl,rfl,trivial⟩ (⟨Nat.zero_le _,by simp⟩) ⟨rfl,rfl,trivial⟩ (by simp only[be_zero];rfl) (λp hI=>?_);obtain⟨i,q⟩:=p;obtain⟨g1,g2⟩:=hI;simp only at g1 g2⊢;have hlt:q<18446744073709551616:=by rw[g2];exact Nat.lt_of_le_of_lt (Nat.div_le_self _ _) hn
 refine z2q 7 Y ?_;refine gS 0 Y (λh1=>?_) (λh1=>?_)
 ·have hi:i<size:=by omega
  have hq:q/256=n/256^(i+1):=by rw[g2,Nat.div_div_eq_div_mul,<-Nat.pow_succ]
  have hset:=be_set n size i hi;rw[<-g2] at hset;exact gV (w':=.int .i64 ((size-1-i:Nat):Int)) 7 Y Qk (gV (w':=.int .u64 ((q%256:Nat):Int)) 1 Y (congrArg (W.int .u64) (klq q 256)) (gA 0 Y (q%256) (gP 0 Y (yNq (i:=size-1-i) Y Y Y Y Y Y Y Xd) (gM 0 Y (jwq Y Y Y Y Y (y6q (be_at n size i hi) Y Y) (congrArg (λL=>[(0,5,W.arr (size*1) 1 L)]) hset)) (gA 4 Y (q/256) (e:=(jNq q 256)) (zfq 6 Y (op_z ((size:Int) -1-((i+1:Nat):Int)) Y Y Xd Qm (run_p 2 Y (qRq ((i+1,q/256)) (⟨hi,hq⟩) Ya ⟨rfl,rfl,trivial⟩ ⟨rfl,rfl,rfl,trivial⟩ rfl)))))))))
 ·have hi:i=size:=by omega
  subst hi;refine zfq 2 Y (y9q Xi (zYq 6 Y (gV (w':=.bool (decide (n/256^i=0))) 0 Y (congrArg W.bool (by rw[Bool.eq_iff_iff,eqI_iff,decide_eq_true_iff,<-g2];omega)) (zfq 5 Y ?_))));refine fin Qn Ent.refl rfl ⟨rfl,rfl,?_,rfl⟩;rw[Nat.sub_self];rfl
theorem raread_s(l:List UInt8)(f:Bool):PS cfg G 277 [.fz (zbq l) 1 f] (.tup [aW (qmq l).1,.int .i64 ((qmq l).2:Nat)]):=by
 have e:=zdq l;refine gIv 10 Y (λR k0=>gV (w':=.int .i64 (l.length:Int)) 0 Y Xw ?_);refine gS 3 Y (λh1=>?_) (λh1=>?_)
 ·have q:qmq l=(.zero,10):=by unfold qmq;rw[if_pos Xd]
  rw[q];refine zfq 9 Y (yzq Xm Y ?_)
  (repeat (first|exact .nil|refine .cons ?_ ?_|exact zBq|exact .nilfz|refine .fn ?_ ?_|(refine yKq Y ?_ rfl;(first|rfl|(focus (simp;done))))|(refine .sl Y ?_ rfl Xi;(first|rfl|(focus (simp;done))))|(refine .pur ?_;(first|rfl|(focus (simp;done))))|(refine .fzw ?_;(first|rfl|(focus (simp;done))))|refine .agg ?_|refine .arr ?_|refine .tup ?_))
 refine gV (w':=.int .i64 (l.length:Int)) 6 Y Xw ?_;refine gS 3 Y (λh2=>?_) (λh2=>?_)
 ·have q:qmq l=(.zero,11):=by unfold qmq;rw[if_neg Xd,if_pos Xd]
  rw[q];refine zfq 9 Y (yzq Xm Y ?_)
  (repeat (first|exact .nil|refine .cons ?_ ?_|exact zBq|exact .nilfz|refine .fn ?_ ?_|(refine yKq Y ?_ rfl;(first|rfl|(focus (simp;done))))|(refine .sl Y ?_ rfl Xi;(first|rfl|(focus (simp;done))))|(refine .pur ?_;(first|rfl|(focus (simp;done))))|(refine .fzw ?_;(first|rfl|(focus (simp;done))))|refine .agg ?_|refine .arr ?_|refine .tup ?_))
 have hl:l.length=16:=by omega
 have q:qmq l=if (⟨numB (l.take 8),numB (l.drop 8)⟩:Acct)= .zero then(.zero,8) else(⟨numB (l.take 8),numB (l.drop 8)⟩,0):=by unfold qmq;rw[if_neg Xd,if_neg Xd]
 rw[q];refine gP 5 Y (cut_fz (ys:=zbq (l.take 8)) (l:=0) (h:=8) Y Y Y Y Y Y Y Xd Xd (by rw[List.drop_zero,ZIq]) rfl) (gC 0 Y (rnumber_s _ _ Xp) (gP 1 Y (cut_fz (ys:=zbq (l.drop 8)) (l:=8) (h:=(zbq l).length) Y Y Y Y Y Y Y Xd (Nat.le_refl _) (by rw[List.take_of_length_le Xk,ZJq]) rfl) (gC 0 Y (rnumber_s _ _ Xp) ?_)));refine gD 10 Y (λh3=>?_) (λh3=>?_)
 ·have z1:numB (l.take 8)=0:=by omega
  refine gU 3 Y ?_;refine gS 3 Y (λh4=>?_) (λh4=>?_)
  ·have z2:numB (l.drop 8)=0:=by omega
   rw[if_pos (by rw[z1,z2];rfl)];refine zfq 9 Y (yzq Xm Y ?_)
   (repeat (first|exact .nil|refine .cons ?_ ?_|exact zBq|exact .nilfz|refine .fn ?_ ?_|(refine yKq Y ?_ rfl;(first|rfl|(focus (simp;done))))|(refine .sl Y ?_ rfl Xi;(first|rfl|(focus (simp;done))))|(refine .pur ?_;(first|rfl|(focus (simp;done))))|(refine .fzw ?_;(first|rfl|(focus (simp;done))))|refine .agg ?_|refine .arr ?_|refine .tup ?_))
  ·have z2:¬numB (l.drop 8)=0:=by omega
   rw[if_neg λh=>z2 (by injection h)];refine zfq 10 Y (yzq Xm Y ?_)
   (repeat (first|exact .nil|refine .cons ?_ ?_|exact zBq|exact .nilfz|refine .fn ?_ ?_|(refine yKq Y ?_ rfl;(first|rfl|(focus (simp;done))))|(refine .sl Y ?_ rfl Xi;(first|rfl|(focus (simp;done))))|(refine .pur ?_;(first|rfl|(focus (simp;done))))|(refine .fzw ?_;(first|rfl|(focus (simp;done))))|refine .agg ?_|refine .arr ?_|refine .tup ?_))
 ·have z1:¬numB (l.take 8)=0:=by omega
  rw[if_neg λh=>z1 (by injection h)];refine zfq 18 Y (yzq Xm Y ?_)
  (repeat (first|exact .nil|refine .cons ?_ ?_|exact zBq|exact .nilfz|refine .fn ?_ ?_|(refine yKq Y ?_ rfl;(first|rfl|(focus (simp;done))))|(refine .sl Y ?_ rfl Xi;(first|rfl|(focus (simp;done))))|(refine .pur ?_;(first|rfl|(focus (simp;done))))|(refine .fzw ?_;(first|rfl|(focus (simp;done))))|refine .agg ?_|refine .arr ?_|refine .tup ?_))
def padJ(l:List UInt8)(j:Nat):List UInt8:=l++[128]++List.replicate j 0
theorem ujq(l:List UInt8)(j:Nat):(padJ l j).length=l.length+1+j:=by simp[padJ];omega
theorem padJ_next(l:List UInt8)(j:Nat):zbq (padJ l (j+1))=zbq (padJ l j)++zbq [0]:=by
 rw[<-yFq];congr 1
 unfold padJ;rw[List.append_assoc (l++[128]),<-List.replicate_succ']
noncomputable def padH(l:List UInt8)(j:Nat):HpW:=[(0,5,.arr (padJ l j).length 1 (zbq (padJ l j)))]
def padR(l:List UInt8):List UInt8:=padJ l ((119-l.length%64)%64)++beB 8 (8*l.length)
theorem padded_s(l:List UInt8)(f:Bool)(hl:l.length<2147483648):PS cfg G 348 [.fz (zbq l) 1 f] (bW (padR l)):=by
 have el:(zbq l).length=l.length:=zdq l;refine gIv 14 Y (λR k0=>?_);refine op_ent (λ_=>ent_up (fr2:=[(0,.fz (zbq l) 1 f),(2,.nils),(7,gW 0 1 []),(8,.fz (zbq l) 1 f)]) ⟨rfl,rfl,rfl,rfl,trivial⟩) ?_;refine op_grow (b:=0) (xs:=[]) (news:=zbq l) (k:=ti5) (H0:=[]) [] [(0,.fz (zbq l) 1 f),(2,.nils)] Y Y Y Y Y Y Y Y Y Y Y (by show(0+(zbq l).length)*1<=_;omega) (by show 0+(zbq l).length<=_;omega) rfl Xk Xd Xd ⟨rfl,rfl,trivial⟩ rfl ⟨zmq (show purW (.fz (zbq l) 1 f)=true from yyq l),rfl,trivial⟩ Xk trivial Xk ?_
 refine zJq 7 Y ?_;refine op_grow (b:=0) (xs:=zbq l) (news:=zbq [128]) (k:=ti5) (H0:=[]) [_] [(0,.fz (zbq l) 1 f),(2,.nils)] Y Y Y Y Y Y Y Y Y Y (yZq Y Y Y Y) (by show((zbq l).length+1)*1<=_;omega) (by show(zbq l).length+1<=_;omega) rfl Xk Xd Xd ⟨rfl,rfl,trivial⟩ rfl ⟨zmq (show purW (.fz (zbq l) 1 f)=true from yyq l),rfl,trivial⟩ (by rw[<-yFq];simp) trivial Xk ?_;refine zJq 5 Y ?_;have e0:zbq l++zbq [128]=zbq (padJ l 0):=by rw[<-yFq];congr 1;simp[padJ]
 have hne:zbq (padJ l 0)≠[]:=λh=>by have:=congrArg List.length h;rw[zdq,ujq] at this;simp at this
 have htm:∀n:Nat,((n:Int)).tmod 64=((n%64:Nat):Int):=λn=>by rw[Int.tmod_eq_emod_of_nonneg Xd];omega
 refine qhq (α:=Nat) (λj=>∀i,i<j->(l.length+1+i)%64≠56) (λj=>[(3,.sl 0 0 0 (padJ l j).length 1 none),(0,.fz (zbq l) 1 f),(2,.nils)]) (λj=>padH l j) (λ_=>1) (λ_=>R) (λj=>64-j) 0 (λi hi=>absurd hi Xd) (z6q ⟨by show some (gW 0 1 (zbq l++zbq [128]))=_;rw[e0,Y2q hne,zdq],rfl,rfl,trivial⟩ (by show []++gH 0 5 1 (zbq l++zbq [128])=padH l 0;rw[e0,Y3q hne,zdq,Nat.mul_one];rfl) rfl) (λj hj=>?_);skip
 have hj64:j<64:=by
  refine Nat.lt_of_not_le λh=>?_
  have:=hj ((56+64-(l.length+1)%64)%64) Xd;omega
 have hlj:=ujq l j;refine z2q 4 Y ?_;refine gZ 0 Y hlj ?_;refine gV 0 Y (congrArg (W.int .i64) (htm _)) ?_;refine gS 3 Y (λh1=>?_) (λh1=>?_)
 ·have h1:¬(((l.length+1+j)%64:Nat):Int)=56:=h1;refine gM 6 Y (yGq Y Y (qLq (k:=ti5) (len:=(padJ l j).length) (news:=zbq [0]) (olds:=zbq (padJ l j)) Y Y Y Y (yZq Y Y Y Y) Yz (by show((padJ l j).length+1)*1<=_;omega) (by show(padJ l j).length+1<=_;omega) rfl (by show(padJ l j).length<0+((padJ l j).length+1)*1;omega) rfl (zpq Xo (zdq _).symm (Nat.mul_one _).symm))) ?_;refine zfq 3 Y ?_;have hl2:(padJ l j).length+1=(padJ l (j+1)).length:=by rw[ujq,ujq];omega
  have hp:purW (.fz (zbq l) 1 f)=true:=yyq l;skip
  refine ypq (j+1) (λi hi=>?_) (show 64-(j+1)<64-j by omega) ?_
  ·rcases Nat.lt_succ_iff_lt_or_eq.1 hi with h|rfl
   ·exact hj i h
   ·omega
  ·refine qzq (b:=0) (k:=2) Xd Xd (by show 2<3;omega) ⟨⟨?_,rfl⟩,⟨by rw[z4q hp];rfl,zmq hp⟩,⟨rfl,rfl⟩,trivial⟩ ⟨⟨by show 0<1;omega,?_,zmq (show purW (.arr _ 1 (zbq _))=true from yyq _)⟩,trivial⟩ (by show([0]:List Nat).Nodup;simp)
   ·show some (W.sl 2 0 0 ((padJ l j).length+1) 1 none)=some (W.sl 2 0 0 (padJ l (j+1)).length 1 none);rw[hl2]
   ·show some (5,W.arr (((padJ l j).length+1)*1) 1 (zbq (padJ l j)++zbq [0]))=some (5,renW _ (W.arr (padJ l (j+1)).length 1 (zbq (padJ l (j+1)))));rw[z4q (show purW (.arr _ 1 (zbq _))=true from yyq _),hl2,padJ_next,Nat.mul_one]
 ·have h56:(l.length+1+j)%64=56:=by omega
  obtain rfl:j=(119-l.length%64)%64:=by omega
  generalize hj0:(119-l.length%64)%64=j at*
  refine zfq 2 Y ?_;refine y9q Xi ?_;refine zYq 5 Y ?_;refine gV (w':=.int .i64 (l.length:Int)) 0 Y (by rw[<-el];rfl) ?_;refine gWr 0 Y ?_;refine gA 0 Y (8*l.length) ?_;refine zfq 15 Y ?_;obtain⟨n,en⟩:∃n,n=8*l.length:=⟨_,rfl⟩
  rw[<-en];have hn:n<18446744073709551616:=by omega
  refine qBq (α:=Nat×Nat) (λp=>p.1<=8/\p.2=n/256^p.1) (λp=>[(6,.int .i64 ((7:Int) -(p.1:Int))),(4,.int .u64 (p.2:Nat))]) [(2,_),(3,_),(5,_)] (λp=>(1,473,.arr 8 1 (zbq (List.replicate (8-p.1) 0++beB p.1 n)))::padH l j) (λp=>8-p.1) ((0,n)) ⟨rfl,rfl,rfl,trivial⟩ (⟨Nat.zero_le _,by simp⟩) ⟨rfl,rfl,trivial⟩ (rfl) (λp hI=>?_);obtain⟨i,q⟩:=p;obtain⟨g1,g2⟩:=hI;simp only at g1 g2⊢;have hlt:q<18446744073709551616:=by rw[g2];exact Nat.lt_of_le_of_lt (Nat.div_le_self _ _) hn
  refine z2q 7 Y ?_;refine gS 0 Y (λh2=>?_) (λh2=>?_)
  ·have hi:i<8:=by omega
   have hq:q/256=n/256^(i+1):=by rw[g2,Nat.div_div_eq_div_mul,<-Nat.pow_succ]
   have hset:=be_set n 8 i hi;rw[<-g2] at hset;refine gV (w':=.int .i64 ((8-1-i:Nat):Int)) 6 Y Qk ?_;refine gV (w':=.int .u64 ((q%256:Nat):Int)) 1 Y (congrArg (W.int .u64) (klq q 256)) ?_;refine gA 0 Y (q%256) ?_;refine gP 0 Y (zHq (i:=8-1-i) Y Y Y Y Y Y Xd) ?_;refine gM 0 Y (jwq Y Y Y Y Y (y6q (be_at n 8 i hi) Y Y) (congrArg (λL=>(1,473,W.arr 8 1 L)::padH l j) hset)) ?_;refine gA 4 Y (q/256) (e:=(jNq q 256)) ?_;refine zfq 6 Y ?_;refine op_z ((7:Int) -((i+1:Nat):Int)) Y Y Xd Qm ?_;refine run_p 2 Y ?_;exact qRq ((i+1,q/256)) (⟨hi,hq⟩) Ya ⟨rfl,rfl,trivial⟩ ⟨rfl,rfl,rfl,trivial⟩ rfl
  ·have hi:i=8:=by omega
   subst hi;have hN:(zbq (beB 8 n)).length=8:=by rw[zdq,qjq]
   refine zfq 2 Y ?_;refine y9q Xi ?_;refine zYq 6 Y ?_;refine gM 0 Y (yGq Y Y (qLq (k:=ti5) (len:=(padJ l j).length) (news:=zbq (beB 8 n)) (olds:=zbq (padJ l j)) Y Y Y Y (yZq Y Y Y (zpq Xo hN.symm rfl)) Yh (by rw[hN];show(_+8)*1<=_;omega) Qb rfl (by rw[hN];show(padJ l j).length<0+(_+8)*1;omega) rfl (zpq Xo (zdq _).symm (Nat.mul_one _).symm))) ?_;refine zfq 4 Y ?_;have er:zbq (padR l)=zbq (padJ l j)++zbq (beB 8 n):=by unfold padR;rw[hj0,<-en,yFq]
   have el2:(padR l).length=(padJ l j).length+(zbq (beB 8 n)).length:=by rw[<-zdq,er,List.length_append,zdq (padJ l j)]
   exact yzq Qn rfl (.sl (full:=false) (c:=.arr (padR l).length 1 (zbq (padR l))) (xs:=zbq (padR l)) (by show some (W.arr (((padJ l j).length+(zbq (beB 8 n)).length)*1) 1 (zbq (padJ l j)++zbq (beB 8 n)))=_;rw[er,el2,Nat.mul_one]) (show purW (.arr _ 1 (zbq _))=true from yyq _) (by rw[<-el2];exact zpq Xo (zdq _).symm (Nat.mul_one _).symm) Xi)
end
theorem next_congr{bs bs':Nat->Nat}(h:∀i,i<64->bs i=bs' i)(L:List Nat):k4q bs L=k4q bs' L:=by
 unfold k4q;cases hq:Nat.blt L.length 16 with
 |false=>rfl
 |true=>
  have hn:L.length<16:=Yb hq;show wordN (bs (4*L.length)) (bs (4*L.length+1)) (bs (4*L.length+2)) (bs (4*L.length+3))=wordN (bs' (4*L.length)) (bs' (4*L.length+1)) (bs' (4*L.length+2)) (bs' (4*L.length+3));rw[h (4*L.length) Xd,h (4*L.length+1) Xd,h (4*L.length+2) Xd,h (4*L.length+3) Xd]
theorem vVq{bs bs':Nat->Nat}(h:∀i,i<64->bs i=bs' i):∀n,ycq bs n=ycq bs' n
 |0=>rfl
 |n+1=>by
  have ih:=vVq h n;show ycq bs n++[k4q bs (ycq bs n)]=ycq bs' n++[k4q bs' (ycq bs' n)];rw[ih,next_congr h]
theorem ZLq{bs bs':Nat->Nat}(h:∀i,i<64->bs i=bs' i)(s:S8):q1q bs s=q1q bs' s:=by
 unfold q1q;rw[vVq h]
theorem atL_app{a b:List Nat}{i:Nat}(h:i<a.length):atL (a++b) i=atL a i:=by
 unfold atL;simp[List.getD,List.getElem?_append_left h]
theorem eats_app:∀(k:Nat) (s:S8) (b t:List Nat),b.length<=k->1<=t.length->qxq (b++t).length s (b++t)=qxq ((eats s b).2++t).length (eats s b).1 ((eats s b).2++t)
 |0,s,b,t,hb,ht=>by
  have e:eats s b=(s,b):=jsq _ _ _ Xd;rw[e]
 |k+1,s,b,t,hb,ht=>by
  by_cases h:b.length<64
  ·have e:eats s b=(s,b):=jsq _ _ _ h;rw[e]
  ·have h64:64<=b.length:=by omega
   have ed:(b++t).drop 64=b.drop 64++t:=List.drop_append_of_le_length h64;rw[Zuq h64,xXq (by rw[List.length_append];omega),ed,ZLq (λi hi=>atL_app Xd) s];exact eats_app k _ (b.drop 64) t (by rw[List.length_drop];omega) ht
theorem eats_mod:∀(k:Nat) (s:S8) (b:List Nat),b.length<=k->(eats s b).2.length=b.length%64
 |0,s,b,hb=>by
  have e:eats s b=(s,b):=jsq _ _ _ Xd;rw[e];show b.length=_;omega
 |k+1,s,b,hb=>by
  by_cases h:b.length<64
  ·have e:eats s b=(s,b):=jsq _ _ _ h;rw[e];show b.length=_;omega
  ·have h64:64<=b.length:=by omega
   rw[Zuq h64,eats_mod k _ _ (by rw[List.length_drop];omega),List.length_drop];omega
theorem be8_len8{n:Nat}(hn:n<2147483648):(beB 8 (8*n)).map UInt8.toNat=len8 n:=by
 have e:∀i,Nat.shiftRight (8*n%18446744073709551616) i%256=8*n/2^i%256:=λi=>by
  have h8:8*n%18446744073709551616=8*n:=Nat.mod_eq_of_lt Xd;rw[h8];show(8*n)>>>i%256=_;rw[Nat.shiftRight_eq_div_pow]
 have t:∀x:Nat,(UInt8.ofNat (x%256)).toNat=x%256:=λx=>by simp
 simp only[beB,len8,List.map_cons,List.map_nil,e,t]
theorem sha_one(l:List UInt8)(hl:l.length<2147483648):shaN [l.map UInt8.toNat]=digN (qxq ((padR l).map UInt8.toNat).length s0 ((padR l).map UInt8.toNat)):=by
 obtain⟨b,eb⟩:∃b,l.map UInt8.toNat=b:=⟨_,rfl⟩
 have el:b.length=l.length:=by rw[<-eb,List.length_map]
 have ht:yRq [b]=l.length:=by show b.length+0=_;omega
 have hm:=eats_mod b.length s0 b (Nat.le_refl _)
 have er:(padR l).map UInt8.toNat=b++([128]++List.replicate ((119-l.length%64)%64) 0++len8 l.length):=by
  unfold padR padJ;rw[List.map_append,List.map_append,List.map_append,be8_len8 hl,eb,List.append_assoc,List.append_assoc];simp[List.map_replicate]
 have ea:([b].foldl xlq (s0,[]))=eats s0 b:=rfl;rw[eb,er,eats_app b.length s0 b _ (Nat.le_refl _) Xk];have hp:=pad_eq 64 ((eats s0 b).2++[128]) Xd
 have hj:(120-((eats s0 b).2++[128]).length%64)%64=(119-l.length%64)%64:=by
  rw[List.length_append,hm,el];simp only[List.length_cons,List.length_nil];omega
 rw[hj] at hp
 have e2:padZ 64 ((eats s0 b).2++[128])++len8 l.length=(eats s0 b).2++([128]++List.replicate ((119-l.length%64)%64) 0++len8 l.length):=by
  rw[hp,List.append_assoc,List.append_assoc,List.append_assoc]
 have eS:shaN [b]=digN (qxq (padZ 64 (([b].foldl xlq (s0,[])).2++[128])++len8 (yRq [b])).length ([b].foldl xlq (s0,[])).1 (padZ 64 (([b].foldl xlq (s0,[])).2++[128])++len8 (yRq [b]))):=rfl;rw[eS,ea,ht,e2]
section
attribute [local irreducible] CoW OpW FlW Step Spec
variable {G:Nat->Option W}
noncomputable def sumH(s:S8):HpW:=[(2,459,.arr 64 1 (kW.map wd)),(1,418,.arr 8 1 s.l),(0,29,jaq)]
noncomputable def sumH2(v:S8)(ws:List Nat)(L:List W):HpW:=[(4,418,.arr 8 1 v.l),(3,459,.arr 64 1 (ws.map wd)),(2,459,.arr 64 1 (kW.map wd)),(1,418,.arr 8 1 L),(0,29,jaq)]
theorem s0_ok:s0.Ok:=⟨by decide,by decide,by decide,by decide,by decide,by decide,by decide,by decide⟩
theorem padR_len(l:List UInt8):(padR l).length%64=0/\(padR l).length<=l.length+72:=by
 unfold padR;rw[List.length_append,ujq,qjq];omega
theorem bsL_blk(M:List UInt8)(i:Nat):∀k,k<64->bsL ((M.drop (64*i)).take 64) k=atL ((M.map UInt8.toNat).drop (64*i)) k:=λk hk=>by
 unfold bsL atL;rw[List.map_take,List.map_drop,List.getD_eq_getElem?_getD,List.getD_eq_getElem?_getD,List.getElem?_take_of_lt hk]
set_option maxHeartbeats 1600000 in
theorem rsum_s(l:List UInt8)(f:Bool)(hl:l.length<2147483648):PS cfg G 321 [.fz (zbq l) 1 f] (dW (shaD [l])):=by
 have hsha:=sha_one l hl;obtain⟨hm,hle⟩:=padR_len l
 have e3:dW (shaD [l])= .arr 32 1 (bN (shaN [l.map UInt8.toNat])):=by
  show W.arr 32 1 (zbq _)=_;rw[<-bytes_of (shaN_lt _)];rfl
 rw[e3,hsha];have hpad:=padded_s (G:=G) l f hl;generalize padR l=M at*
 obtain⟨MN,eMN⟩:∃MN,M.map UInt8.toNat=MN:=⟨_,rfl⟩
 rw[eMN];have hMN:MN.length=M.length:=by rw[<-eMN,List.length_map]
 have eM:(zbq M).length=M.length:=zdq M;refine gI 15 Y (λR k0=>gC 0 Y (hpad) (gC 5 Y (words_s) (zfq 11 Y ?_)));refine qBq (α:=S8×Nat) (λp=>p.1.Ok/\64*p.2<=M.length/\qxq MN.length s0 MN=qxq (MN.drop (64*p.2)).length p.1 (MN.drop (64*p.2))) (λp=>[(6,.int .i64 ((64*p.2:Nat):Int))]) [(2,_),(3,_),(4,_),(5,_)] (λp=>sumH p.1) (λp=>M.length-64*p.2) ((s0,0)) ⟨rfl,rfl,rfl,rfl,trivial⟩ (⟨s0_ok,Nat.zero_le _,rfl⟩) ⟨rfl,trivial⟩ (rfl) (λp hI=>?_);obtain⟨s,i⟩:=p;obtain⟨hs,hi,heat⟩:=hI;simp only at hs hi heat⊢;refine z2q 5 Y (gV (w':=.int .i64 (M.length:Int)) 0 Y (by rw[<-eM];rfl) ?_);refine gS 3 Y (λh1=>?_) (λh1=>?_)
 ·have h1:((64*i:Nat):Int)<(M.length:Int):=h1;have hi2:64*i+64<=M.length:=by omega
  have hblk:((M.drop (64*i)).take 64).length=64:=by rw[List.length_take,List.length_drop];omega
  have ey:((zbq M).drop (64*i)).take (64*i+64-64*i)=zbq ((M.drop (64*i)).take 64):=by
   rw[show 64*i+64-64*i=64 by omega];simp[zbq,List.map_take,List.map_drop]
  obtain⟨ws,ews⟩:∃ws,ycq (bsL ((M.drop (64*i)).take 64)) 64=ws:=⟨_,rfl⟩
  have hws:ws.length=64:=by rw[<-ews];exact k1q _ _
  have hsch:=λg=>sched_s (G:=G) ((M.drop (64*i)).take 64) g hblk
  rw[ews] at hsch;have hW:∀t,t<64->(ws.map wd)[0+t*1]? =some (wd (ws.getD t 0)):=λt ht=>by rw[Nat.zero_add,Nat.mul_one];exact u4q Xd
  have hK:∀t,t<64->(kW.map wd)[0+t*1]? =some (wd (kW.getD t 0)):=λt ht=>by rw[Nat.zero_add,Nat.mul_one];exact u4q (by rw[kW_len];exact ht)
  have hnew:q1q (bsL ((M.drop (64*i)).take 64)) s=q1q (atL (MN.drop (64*i))) s:=by rw[<-eMN];exact ZLq (bsL_blk M i) s
  have hadd:mix8 s (k2q ws s 64) 8=(q1q (atL (MN.drop (64*i))) s).l:=by rw[<-hnew,<-ews];rfl
  refine gA 9 Y (64*i+64) (gP 0 Y (cut_fz (ys:=zbq ((M.drop (64*i)).take 64)) (l:=64*i) (h:=64*i+64) Y Y Y Y Y Y Y Xd Xd ey rfl) (op_ps Y Y Y Y Y Y (hsch _) Xk (show purL (ws.map wd)=true from qqq (λx=>rfl) ws) (zJq 18 Y ?_)));refine qBq (α:=Nat) (λt=>t<=64) (λt=>[(9,.int .i64 (t:Int))]) [(2,_),(3,_),(4,_),(5,_),(6,_),(7,_),(8,_),(18,_),(19,_),(20,_),(21,_),(24,_),(25,_),(26,_),(27,_),(28,_),(29,_),(30,_)] (λt=>sumH2 (k2q ws s t) ws s.l) (λt=>64-t) (0) ⟨rfl,rfl,rfl,rfl,rfl,rfl,rfl,rfl,rfl,rfl,rfl,rfl,rfl,rfl,rfl,rfl,rfl,rfl,trivial⟩ (Nat.zero_le _) ⟨rfl,trivial⟩ (rfl) (λt hI=>?_);refine z2q 7 Y ?_;refine gS 0 Y (λh2=>?_) (λh2=>?_)
  ·have ht:t<64:=by omega
   obtain⟨v,ev⟩:∃v,k2q ws s t=v:=⟨_,rfl⟩
   have hv:v.Ok:=by rw[<-ev];exact rounds_ok hs ws t
   have hKt:=hK t ht;have hWt:=hW t ht;have hnx:k2q ws s (t+1)=roundN (kW.getD t 0) (ws.getD t 0) v:=by rw[<-ev];rfl
   rw[ev];generalize kW.getD t 0=kt at*
   generalize ws.getD t 0=wt at*
   refine gP 7 Y (zHq (i:=t) Y Y Y Y Y Y Xd) (gM 0 Y (yUq Y Y Y (yxq hKt rfl)) (gP 1 Y (zHq (i:=t) Y Y Y Y Y Y Xd) (gM 0 Y (yUq Y Y Y (yxq hWt rfl)) (fl_ps Y Y Y Y Y Y (rround_s v hv kt wt) Y Y Xr (qoq 6 Y (gA 0 Y (t+1) (zfq 2 Y ?_)))))));skip
   exact qRq (t+1) ht Xd ⟨rfl,trivial⟩ Yj (by rw[hnx];rfl)
  ·have ht:t=64:=by omega
   subst ht;obtain⟨v,ev⟩:∃v,k2q ws s 64=v:=⟨_,rfl⟩
   rw[ev] at hadd⊢;refine zfq 2 Y (y9q Xi (zYq 8 Y ?_));refine qBq (α:=Nat) (λj=>j<=8) (λj=>[(10,.int .i64 (j:Int))]) [(2,_),(3,_),(4,_),(5,_),(6,_),(7,_),(8,_),(9,_),(18,_),(19,_),(20,_),(21,_),(24,_),(25,_),(26,_),(27,_),(28,_),(29,_),(30,_),(31,_),(32,_)] (λj=>sumH2 v ws (mix8 s v j)) (λj=>8-j) (0) ⟨rfl,rfl,rfl,rfl,rfl,rfl,rfl,rfl,rfl,rfl,rfl,rfl,rfl,rfl,rfl,rfl,rfl,rfl,rfl,rfl,rfl,trivial⟩ (Nat.zero_le _) ⟨rfl,trivial⟩ (rfl) (λj hI=>?_);refine z2q 7 Y ?_;refine gS 0 Y (λh3=>?_) (λh3=>?_)
   ·have hj:j<8:=by omega
    have hq:j=0\/j=1\/j=2\/j=3\/j=4\/j=5\/j=6\/j=7:=by omega
    have g1:(mix8 s v j)[0+j*1]? =some (wd (s.get j)):=by rcases hq with rfl|rfl|rfl|rfl|rfl|rfl|rfl|rfl<;>rfl
    have g2:v.l[0+j*1]? =some (wd (v.get j)):=S8_at v hj;have g3:(mix8 s v j).set (0+j*1) (wd (addN (s.get j) (v.get j)))=mix8 s v (j+1):=by rcases hq with rfl|rfl|rfl|rfl|rfl|rfl|rfl|rfl<;>rfl
    generalize s.get j=x at*
    generalize v.get j=y at*
    refine gP 6 Y (zHq (i:=j) Y Y Y Y Y Y Xd) (gM 0 Y (yUq Y Y Y (yxq g1 rfl)) (gP 1 Y (zHq (i:=j) Y Y Y Y Y Y Xd) (gM 0 Y (yUq Y Y Y (yxq g2 rfl)) (gV (w':=wd (addN x y)) 0 Y Y (gP 0 Y (zHq (i:=j) Y Y Y Y Y Y Xd) (gM 0 Y (jwq Y Y Y Y Y (y6q g1 Y Y) rfl) (gA 5 Y (j+1) (zfq 2 Y ?_))))))));skip
    exact qRq (j+1) hj Xd ⟨rfl,trivial⟩ Yj (congrArg (λL=>sumH2 v ws L) g3)
   ·have hj:j=8:=by omega
    subst hj;rw[hadd];refine zfq 2 Y (y9q Xi (zYq 5 Y (gA 0 Y (64*i+64) (zfq 2 Y ?_))));skip
    exact q_againH (q1q (atL (MN.drop (64*i))) s,i+1) ⟨block_ok _ _,by simp only;omega,by rw[heat,xXq Xp,List.drop_drop];rfl⟩ Ya (Nat.zero_le _) ⟨rfl,trivial⟩ Yj Xg Xg Xd Xh (by show([2,1,0]:List Nat).Nodup;decide)
 ·have h1:¬((64*i:Nat):Int)<(M.length:Int):=h1;have hend:qxq MN.length s0 MN=s:=by rw[heat,List.drop_of_length_le Xd];rfl
  rw[hend];refine zfq 2 Y (y9q Xi (zYq 14 Y ?_));refine qBq (α:=Nat) (λa=>a<=8) (λa=>[(12,.int .i64 (a:Int))]) [(2,_),(3,_),(11,_)] (λa=>(3,29,.arr 32 1 (bN (dI s (4*a))))::sumH s) (λa=>8-a) (0) ⟨rfl,rfl,rfl,trivial⟩ (Nat.zero_le _) ⟨rfl,trivial⟩ (rfl) (λa hI=>?_);refine z2q 7 Y ?_;refine gS 0 Y (λh2=>?_) (λh2=>?_)
  ·have ha:a<8:=by omega
   refine zfq 10 Y ?_;refine qBq (α:=Nat) (λb=>b<=4) (λb=>[(13,.int .i64 (b:Int))]) [(2,_),(3,_),(11,_),(12,_),(55,_),(56,_)] (λb=>(3,29,.arr 32 1 (bN (dI s (4*a+b))))::sumH s) (λb=>4-b) (0) ⟨rfl,rfl,rfl,rfl,rfl,rfl,trivial⟩ (Nat.zero_le _) ⟨rfl,trivial⟩ (rfl) (λb hI=>?_);refine z2q 7 Y ?_;refine gS 0 Y (λh3=>?_) (λh3=>?_)
   ·have hb:b<4:=by omega
    have hdv:(4*a+b)/4=a:=by omega
    have hmd:(4*a+b)%4=b:=by omega
    have hset:=dI_set s (i:=4*a+b) Xd;rw[hdv,hmd] at hset;refine gA 6 Y (4*a) (gA 1 Y (4*a+b) (gP 1 Y (zHq (i:=a) Y Y Y Y Y Y Xd) (gM 0 Y (yUq Y Y Y (yxq (S8_at s ha) rfl)) (gA 1 Y (8*b) (gA 0 Y (24-8*b) (gA 0 Y (24-8*b) (gV (w':=wd (Nat.shiftRight (s.get a) (min (24-8*b) 32))) 0 Y Y (gV (w':=.int .u8 (.ofNat (Nat.shiftRight (s.get a) (min (24-8*b) 32)%256))) 0 Y Y (gP 0 Y (zHq (i:=4*a+b) Y Y Y Y Y Y Xd) (gM 0 Y (jwq Y Y Y Y Y (y6q (dI_at s Xd) Y Y) rfl) (gA 5 Y (b+1) (zfq 2 Y ?_))))))))))));skip
    exact qRq (b+1) hb Xd ⟨rfl,trivial⟩ Yj (congrArg (λL=>(3,29,W.arr 32 1 L)::sumH s) hset)
   ·have hb:b=4:=by omega
    subst hb;refine zfq 2 Y (y9q Xi (zYq 5 Y (gA 0 Y (a+1) (zfq 2 Y ?_))));skip
    exact qRq (a+1) ha Xd ⟨rfl,trivial⟩ Yj rfl
  ·have ha:a=8:=by omega
   subst ha;refine zfq 2 Y (y9q Xi (zYq 9 Y ?_));have ed:dI s 32=digN s:=by simp[dI,List.take_of_length_le,uyq]
   exact gQ 0 Y (by rw[<-ed])
theorem rtbytes_s(kind:UInt8)(ps:List (List UInt8))(f:Bool)(hn:ps.length<1000000)(hb:∀p∈ps,p.length<1000000):PS cfg G 322 [.int .u8 (.ofNat kind.toNat),.fz (ps.map bW) 1 f] (bW (tagB kind ps)):=by
 have e:(ps.map bW).length=ps.length:=List.length_map _;have htm:∀n:Nat,n<4294967296->((n:Int)).tmod 4294967296=(n:Int):=λn hn=>by rw[Int.tmod_eq_emod_of_nonneg Xd];omega
 refine gIv 19 Y (λR k0=>?_);refine co_loopG1 (α:=Nat) (λi=>i<=ps.length) 5 (λi=>zbq (kind::(ps.take i).flatMap kzq)) 5 1 (λi=>[(6,.int .i64 (i:Int))]) [(1,_),(4,_)] ([]) 0 0 (λi=>ps.length-i) (0) ⟨rfl,rfl,trivial⟩ (Nat.zero_le _) ⟨rfl,trivial⟩ Xd Xd Yi Yz rfl Yz Xg Xg rfl Xj Xh Yf (λi hI=>?_);refine z2q 5 Y (gV (w':=.int .i64 (ps.length:Int)) 0 Y Xw ?_);refine gS 3 Y (λh1=>?_) (λh1=>?_)
 ·have hi:i<ps.length:=by omega
  obtain⟨x,hx⟩:∃x,ps[i]? =some x:=⟨_,List.getElem?_eq_getElem hi⟩
  have hxl:=hb x (List.mem_of_getElem? hx);have hfl:((ps.take i).flatMap kzq).length<=i*1000004:=Y5q i hb;have hL:(zbq (kind::(ps.take i).flatMap kzq)).length<=1+i*1000004:=by rw[zdq,List.length_cons];omega
  have hN:(zbq (beB 4 x.length)).length=4:=by rw[zdq,qjq]
  have hnx:zbq (kind::(ps.take (i+1)).flatMap kzq)=(zbq (kind::(ps.take i).flatMap kzq)++zbq (beB 4 x.length))++zbq x:=by
   rw[List.take_add_one,hx,<-yFq,<-yFq];congr 1
   simp[kzq,Nat.mod_eq_of_lt (show x.length<4294967296 by omega)]
  skip
  cases x with
  |nil=>
   refine yTq 8 Y (gP 0 Y (zAq (i:=i) Y Y Y Y Y Y Y (zzq bW hx)) (gV (w':=.int .i64 (([]:List UInt8).length:Int)) 1 Y (by show W.int .i64 ((zbq (([]:List UInt8))).length:Int)=_;rw[zdq]) (gV (w':=.int .u64 (([]:List UInt8).length:Int)) 1 Y Y ?_)))
   (refine ysq rfl (jQq Y Y Y Y Y Y (jzq ([]:List UInt8).length 4 Xo Xd) ?_);rintro w hp1 nw1 ⟨rfl,rfl,rfl⟩)
   exact zJq 11 Y (gM 0 Y (yGq Y Y (kOq [_] (k:=ti5) (news:=zbq (beB 4 ([]:List UInt8).length)) Y Y Y Y Y (yZq Y Y Y (zpq Xo hN.symm rfl)) Yh Qh Qb rfl (by simp[numC]))) (gP 7 Y (zAq (i:=i) Y Y Y Y Y Y Y (zzq bW hx)) (gM 1 Y (yGq Y Y (veq (k:=ti5) Y Y Y Y Y)) (gA 6 Y (i+1) (zfq 2 Y (jpq 2 (i+1) (hi) Xd (Nat.zero_le _) (by rw[hnx];exact List.append_nil _) Xx Xd Yi rfl Xz ⟨rfl,trivial⟩ ⟨rfl,rfl,trivial⟩ Xg Xg rfl Xj Xh Yf))))))
  |cons c x=>
   refine yTq 8 Y (gP 0 Y (zAq (i:=i) Y Y Y Y Y Y Y (zzq bW hx)) (gV (w':=.int .i64 ((c::x).length:Int)) 1 Y (by show W.int .i64 ((zbq ((c::x))).length:Int)=_;rw[zdq]) (gA 0 Y ((c::x).length) (gV (w':=.int .u64 ((c::x).length:Int)) 0 Y (congrArg (W.int .u64) (htm _ Xd)) ?_))))
   (refine ysq rfl (jQq Y Y Y Y Y Y (jzq (c::x).length 4 Xd Xd) ?_);rintro w hp1 nw1 ⟨rfl,rfl,rfl⟩)
   exact zJq 11 Y (gM 0 Y (yGq Y Y (kOq [_] (k:=ti5) (news:=zbq (beB 4 (c::x).length)) Y Y Y Y Y (yZq Y Y Y (zpq Xo hN.symm rfl)) Yh Qh Qb rfl (by simp[numC]))) (gP 7 Y (zAq (i:=i) Y Y Y Y Y Y Y (zzq bW hx)) (gM 1 Y (yGq Y Y (qLq (k:=ti5) (len:=(zbq (kind::(ps.take i).flatMap kzq)++zbq (beB 4 (c::x).length)).length) (news:=zbq (c::x)) (olds:=zbq (kind::(ps.take i).flatMap kzq)++zbq (beB 4 (c::x).length)) Y Y Y Y Y Yz (by rw[List.length_append,hN,zdq (c::x)];show(_+_)*1<=_;omega) (by rw[List.length_append,hN,zdq (c::x)];omega) rfl Ys rfl (zpq Xo Y Y))) (gA 6 Y (i+1) (zfq 2 Y (jpq 3 (i+1) (hi) Xd (Nat.zero_le _) (hnx) Xx Xd Yi rfl Xz ⟨rfl,trivial⟩ ⟨rfl,rfl,trivial⟩ Xg Xg rfl Xj Xh Yf))))))
 ·have hi:i=ps.length:=by omega
  subst hi;refine zfq 2 Y (y9q Xi (zYq 9 Y (yzq Xm Y ?_)));rw[List.take_length];exact vhq (H0:=[]) Xo Xk Xk
theorem YKq(kind:UInt8)(ps:List (List UInt8))(f:Bool)(hn:ps.length<1000)(hb:∀p∈ps,p.length<1000000):PS cfg G 262 [.int .u8 (.ofNat kind.toNat),.fz (ps.map bW) 1 f] (dW (tagD kind ps)):=by
 have hl:=tag_le kind ps hb;exact gI 9 Y (λR k0=>gC 0 Y (rtbytes_s kind ps f Xd hb) (gC 0 Y (rsum_s (tagB kind ps) false Xd) (gQa 4 Y)))
theorem rtone_s(kind:UInt8)(a:List UInt8)(hb:a.length<1000000):PS cfg G 211 [.int .u8 (.ofNat kind.toNat),bW a] (dW (tagD kind [a])):=by
 refine gI 10 Y (λR k0=>?_);refine ZYq Y Y Y Y Y (by(repeat (first|exact .nil|refine .cons ?_ ?_|(refine .sl Y ?_ rfl Xi;first|rfl|(focus (simp;done)))|(refine yKq Y ?_ rfl;first|rfl|(focus (simp;done)))|(refine .pur ?_;first|rfl|(focus (simp;done)))))) (YKq kind [a] false Xk Xp) Xj Xj ?_;exact zJq 4 Y (gQa 0 Y)
end
theorem view_g2{b e:Nat}{ty:TypeId}{l:List W}{H0 Q:HpW}(he:0<e)(hl:purL l=true)(hP:∀p∈H0,p.1≠b):View (blkA ((H0++gH b ty e l)++Q)) (gW b e l) (.fz l e false):=by
 cases l with
 |nil=>exact .nilfz
 |cons y r=>exact .sl (c:=.arr ((y::r).length*e) e (y::r)) (by
   unfold blkA;rw[show H0++gH b ty e (y::r)=H0++[(b,ty,.arr ((y::r).length*e) e (y::r))] from rfl,u7q (uoq hP)]) hl (zpq he Y Y) Xi
theorem subH_g{hp:HpW}{b e:Nat}{ty:TypeId}{l:List W}{n:Nat}(hb:b<n)(hl:purL l=true)(hg:∀x r,l=x::r->hget hp b=some (ty,.arr ((x::r).length*e) e (x::r))):subH hp n (gH b ty e l):=by
 cases l with
 |nil=>trivial
 |cons x r=>
  have hpa:purW (.arr ((x::r).length*e) e (x::r))=true:=hl;exact⟨⟨hb,hg x r rfl,zmq hpa⟩,trivial⟩
theorem g_names{b e:Nat}{ty:TypeId}{l:List W}:∀p∈gH b ty e l,p.1=b:=λp hp=>by
 cases l with
 |nil=>cases hp
 |cons x r=>simp only[gH,List.mem_cons,List.not_mem_nil,or_false] at hp;rw[hp]
section
attribute [local irreducible] CoW OpW FlW Step Spec
variable {G:Nat->Option W}
theorem rtnone_s:PS cfg G 184 [] (dW (tagD 0 [])):=by
 exact gI 7 Y (λR k0=>ZYq Y Y Y Y Y (.cons (.pur rfl) (.cons .nilfz .nil)) (YKq 0 [] false Xk Xk) Xj Xj (zJq 4 Y (gQa 0 Y)))
theorem rtwo_s(kind:UInt8)(a b:List UInt8)(f g:Bool)(ha:a.length<1000000)(hb:b.length<1000000):PS cfg G 260 [.int .u8 (.ofNat kind.toNat),.fz (zbq a) 1 f,.fz (zbq b) 1 g] (dW (tagD kind [a,b])):=by
 exact gI 11 Y (λR k0=>ZYq Y Y Y Y Y (.cons (.pur rfl) (.cons (.sl2 (full:=false) rfl (.arr (.cons (.fzw Xk) (.cons (.fzw Xk) .nil))) rfl Xi) .nil)) (YKq kind [a,b] false Xk (by simp[ha,hb])) Xj Xj (zJq 4 Y (gQa 0 Y)))
noncomputable def ofH(A B:List Pr):HpW:=([(0,29,jaq)]++gH 1 191 33 (A.map pW))++gH 2 191 33 (B.map pW)
theorem ofH_l(A:List Pr):ofH A []=[(0,29,jaq)]++gH 1 191 33 (A.map pW):=List.append_nil _
theorem rof_s:∀(t:T) (d:Nat) (b:Dig) (f:Bool),Zr d b->t.ok d b=true->kPq t->t.all.length<=1000000->PS cfg G 183 [.fz (t.all.map pW) 33 f,.int .i64 (d:Int)] (dW (sumD t)):=by
 intro t;induction t with
 |nil=>
  intro d b f hz ok hs hl;refine gI 9 Y (λR k0=>?_);refine gL 0 Y ?_;refine gC 6 Y (rtnone_s) ?_;exact gQa 5 Y
 |leaf k v=>
  intro d b f hz ok hs hl;have hv:v.length<1000000:=hs (k,v) (by simp[T.all]);refine gI 9 Y (λR k0=>?_);refine gL 0 Y ?_;refine gL 10 Y ?_;refine gX 7 Y ?_;refine gX 3 Y ?_;refine zfq 2 Y ?_;refine fl_ps Y Y Y Y Y (by show [_,W.fz (((zbq k.1).drop (0/1)).take 32) 1 true,_]=[_,W.fz (zbq k.1) 1 true,_];rw[show 0/1=0 from rfl,List.drop_zero,List.take_of_length_le (by rw[zdq,k.2];omega)];rfl) (rtwo_s 1 k.1 v true false (by simp[k.2]) hv) Xk Xk Xr ?_;refine qoq 5 Y ?_;exact gQa 0 Y
 |fork tl tr ihL ihR=>
  intro d b f hz ok hs hl;obtain⟨hd,okL,okR,two⟩:=ok_fork.1 ok;obtain⟨b0,b1⟩:=ok_bits hz ok;have sL:kPq tl:=λp hp=>hs p Yt
  have sR:kPq tr:=λp hp=>hs p Yt
  have hall:(T.fork tl tr).all=tl.all++tr.all:=by simp[T.all]
  have cL:=ihL (d+1) b false (kUq hz) okL sL (by rw[hall,List.length_append] at hl;omega);have cR:=ihR (d+1) (qlq b d) false (kTq hz hd) okR sR (by rw[hall,List.length_append] at hl;omega);have hn2:2<=tl.all.length+tr.all.length:=two_len okL okR two;rw[hall] at hl⊢;rw[List.length_append] at hl;generalize tl.all=L at*
  generalize tr.all=Q at*
  have e:((L++Q).map pW).length=L.length+Q.length:=by rw[List.length_map,List.length_append]
  have hat:∀i,i<L.length+Q.length->∃x,(L++Q)[i]? =some x:=λi hi=>⟨_,List.getElem?_eq_getElem (by rw[List.length_append];exact hi)⟩
  refine gI 9 Y (λR k0=>?_);refine gZ 0 Y e ?_;refine gF 0 Y (eqI_not.2 Xd) ?_;refine gZ 9 Y e ?_;refine gF 0 Y (eqI_not.2 Xd) ?_;refine zfq 18 Y ?_;have z0:Q.take (0-L.length)=[]:=by rw[Nat.zero_sub];rfl
  refine qhq (α:=Nat) (λi=>i<=L.length+Q.length) (λi=>[(5,gW 1 33 ((L.take i).map pW)),(7,.int .i64 (i:Int)),(6,gW 2 33 ((Q.take (i-L.length)).map pW)),(0,.fz ((L++Q).map pW) 33 f),(1,.int .i64 (d:Int)),(4,.ptr 0 0)]) (λi=>ofH (L.take i) (Q.take (i-L.length))) (λ_=>3) (λ_=>R) (λi=>L.length+Q.length-i) 0 (Nat.zero_le _) ((ent_up (fr2:=[(5,.nils),(7,.int .i64 0),(6,.nils),(0,.fz ((L++Q).map pW) 33 f),(1,.int .i64 (d:Int)),(4,.ptr 0 0)]) ⟨rfl,rfl,rfl,rfl,rfl,rfl,trivial⟩).trans ((ent_up (fr2:=[(5,.nils),(7,.int .i64 0),(6,.nils),(0,.fz ((L++Q).map pW) 33 f),(1,.int .i64 (d:Int)),(4,.ptr 0 0)]) ⟨rfl,rfl,rfl,rfl,rfl,rfl,trivial⟩).trans (z6q ⟨rfl,rfl,by rw[z0];rfl,rfl,rfl,rfl,trivial⟩ (by rw[z0];rfl) rfl))) (λi hI=>?_);skip
  have hI:i<=L.length+Q.length:=hI;refine z2q 5 Y ?_;refine gZ 0 Y e ?_;refine gS 3 Y (λh1=>?_) (λh1=>?_)
  ·have hi:i<L.length+Q.length:=by omega
   obtain⟨x,hx⟩:=hat i hi;skip
   by_cases hc:i<L.length
   ·have hxl:L[i]? =some x:=by rw[List.getElem?_append_left hc] at hx;exact hx
    have hbit:bitN x.1 d=0:=b0 x (List.mem_of_getElem? hxl);have zq:Q.take (i-L.length)=[]:=by rw[show i-L.length=0 by omega];rfl
    have zq':Q.take (i+1-L.length)=[]:=by rw[show i+1-L.length=0 by omega];rfl
    have hL2:(L.take (i+1)).map pW=(L.take i).map pW++[pW x]:=by rw[List.take_add_one,hxl,List.map_append];rfl
    have hlt:((L.take i).map pW).length<=1000000:=by rw[List.length_map,List.length_take];omega
    rw[zq,ofH_l];refine gP 8 Y (zAq (i:=i) Y Y Y Y Y Y Y (zzq pW hx)) ?_;refine gC 3 Y (rat_s x.1 d hd) ?_;refine gT 0 Y (eqI_iff.2 (by rw[hbit];rfl)) ?_;refine gP 7 Y (zAq (i:=i) Y Y Y Y Y Y Y (zzq pW hx)) ?_;refine gM 2 Y (yGq Y Y (kOq [_,_] (k:=ti191) (news:=[pW x]) Y Y Y Y Y (yZq Y Y Y Y) Xk (by show(((L.take i).map pW).length+1)*56<=_;omega) (by show((L.take i).map pW).length+1<=_;omega) rfl Xk)) ?_;refine gA 6 Y (i+1) ?_;refine zfq 2 Y ?_;skip
    refine ypq (i+1) hi Xd ?_;simp only[zq',ofH_l,hL2];exact(qVq (b:=1) (H0:=[(0,29,jaq)]) (l2:=(L.take i).map pW++[pW x]) (n:=((L.take i).map pW++[pW x]).length) (fr2:=[(7,.int .i64 ((i+1:Nat):Int)),(6,.nils),(0,.fz ((L++Q).map pW) 33 f),(1,.int .i64 (d:Int)),(4,.ptr 0 0)]) 4 5 Xd Xd Qd Xk Y Y ⟨rfl,rfl,rfl,rfl,rfl,trivial⟩ ⟨rfl,rfl,zmq (show purW (.fz ((L++Q).map pW) 33 f)=true from jhq _),rfl,rfl,trivial⟩ rfl Xk ⟨⟨by omega,rfl,rfl⟩,trivial⟩ Xk).trans (ent_up ⟨rfl,rfl,rfl,rfl,rfl,rfl,trivial⟩)
   ·have hxq:Q[i-L.length]? =some x:=by rw[List.getElem?_append_right Xd] at hx;exact hx
    have hbit:bitN x.1 d=1:=b1 x (List.mem_of_getElem? hxq);have zl:L.take i=L:=List.take_of_length_le Xd;have zl':L.take (i+1)=L:=List.take_of_length_le Xd;have hQ2:(Q.take (i+1-L.length)).map pW=(Q.take (i-L.length)).map pW++[pW x]:=by rw[show i+1-L.length=(i-L.length)+1 by omega,List.take_add_one,hxq,List.map_append];rfl
    have hlt:((Q.take (i-L.length)).map pW).length<=1000000:=by rw[List.length_map,List.length_take];omega
    have hnm:∀p∈[((0:Nat),29,jaq)]++gH 1 191 33 (L.map pW),p.1<2:=λp hp=>by
     rcases List.mem_append.1 hp with hp|hp
     ·simp only[List.mem_cons,List.not_mem_nil,or_false] at hp;rw[hp];show 0<2;omega
     ·rw[g_names p hp];omega
    rw[zl];refine gP 8 Y (zAq (i:=i) Y Y Y Y Y Y Y (zzq pW hx)) ?_;refine gC 3 Y (rat_s x.1 d hd) ?_;refine gF 0 Y (eqI_not.2 (by rw[hbit];decide)) ?_;refine gP 7 Y (zAq (i:=i) Y Y Y Y Y Y Y (zzq pW hx)) ?_;refine gM 2 Y (yGq Y Y (kOq ((3,_)::([(0,_)]++gH 1 191 33 (L.map pW))) (k:=ti191) (news:=[pW x]) Y Y Y Y Y (yZq Y Y Y Y) Xk (by show(((Q.take (i-L.length)).map pW).length+1)*56<=_;omega) (by show((Q.take (i-L.length)).map pW).length+1<=_;omega) rfl (λp hp=>by rcases List.mem_cons.1 hp with q|q;(rw[q];show¬3=2;omega);have:=hnm p q;omega))) ?_;refine gA 6 Y (i+1) ?_;refine zfq 2 Y ?_;skip
    refine ypq (i+1) hi Xd ?_;simp only[zl',hQ2];exact(qVq (b:=2) (H0:=[(0,29,jaq)]++gH 1 191 33 (L.map pW)) (l2:=(Q.take (i-L.length)).map pW++[pW x]) (n:=((Q.take (i-L.length)).map pW++[pW x]).length) (fr2:=[(5,gW 1 33 (L.map pW)),(7,.int .i64 ((i+1:Nat):Int)),(0,.fz ((L++Q).map pW) 33 f),(1,.int .i64 (d:Int)),(4,.ptr 0 0)]) 4 6 Xd Xd Qd Xk Y Y ⟨rfl,rfl,rfl,rfl,rfl,trivial⟩ ⟨by cases L.map pW<;>rfl,rfl,zmq (show purW (.fz ((L++Q).map pW) 33 f)=true from jhq _),rfl,rfl,trivial⟩ rfl Xk (YFq ⟨⟨by omega,rfl,rfl⟩,trivial⟩ (subH_g Xd Xk (λx r h=>by rw[h];rfl))) (by cases L.map pW<;>simp[gH])).trans (z6q ⟨rfl,rfl,rfl,rfl,rfl,rfl,trivial⟩ (by unfold ofH;rw[hQ2]) rfl)
  ·have hi:i=L.length+Q.length:=by omega
   have zl:L.take i=L:=List.take_of_length_le Xd;have zq:Q.take (i-L.length)=Q:=List.take_of_length_le Xd;rw[zl,zq];refine zfq 2 Y ?_;refine y9q Xi ?_;refine zYq 6 Y ?_;refine gA 0 Y (d+1) ?_;refine ZYq Y Y Y Y Y (.cons (view_g2 (H0:=[(0,29,jaq)]) Xo Xk Xk) (.cons (.pur rfl) .nil)) cL Xk (flat_dW _) ?_;refine zJq 2 Y ?_;refine gA 0 Y (d+1) ?_;refine ZYq Y Y Y Y Y (.cons (vhq (H0:=[(0,29,jaq)]++gH 1 191 33 (L.map pW)) Xo Xk (λp hp=>by rcases List.mem_append.1 hp with q|q;(simp only[List.mem_cons,List.not_mem_nil,or_false] at q;rw[q];show¬0=2;omega);(rw[g_names p q];omega))) (.cons (.pur rfl) .nil)) cR Xk (flat_dW _) ?_;refine zJq 10 Y ?_;refine fl_lk Y Y Y Y Y (.cons (.pur rfl) (.cons (.sl (full:=false) (xs:=zbq (sumD tl).1) rfl Xk (zpq Xo (by simp[zdq,(sumD tl).2]) rfl) Xi) (.cons (.sl (full:=false) (xs:=zbq (sumD tr).1) rfl Xk (zpq Xo (by simp[zdq,(sumD tr).2]) rfl) Xi) .nil))) (rtwo_s 2 (sumD tl).1 (sumD tr).1 false false (by simp[(sumD tl).2]) (by simp[(sumD tr).2])) Xj Xj Xr ?_;refine qoq 4 Y ?_;exact gQa 0 Y
end
end
end Go.Proofs.YtihcioafclhokaaGreatDoor

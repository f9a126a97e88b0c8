/-
  What the proof of TaleNames stands on, part 6. No condition.
-/
import Derived.Test.YthicobhmmikngaaGreatDoorZTaleNamesE
set_option linter.unusedSimpArgs false
set_option linter.unusedVariables false
namespace Go.Proofs.YthicobhmmikngaaGreatDoor
section
open Go.RowKit
attribute [simp] purW purL
@[simp] theorem purL_app:∀a b:List W,purL (a++b)=(purL a&&purL b)
 |[],b=>by simp
 |x::a,b=>by simp[purL_app a b,Bool.and_assoc]
@[simp] theorem xLq:∀l:List UInt8,purL (kmq l)=true
 |[]=>rfl
 |c::l=>by simp only[kmq,List.map_cons,purL,purW,Bool.true_and];exact xLq l
noncomputable def dW(k:Dig):W:=.arr 32 1 (kmq k.1)
@[simp] theorem dW_pur(k:Dig):purW (dW k)=true:=xLq _
noncomputable def bW(l:List UInt8):W:=.fz (kmq l) 1 false
@[simp] theorem bW_pur(l:List UInt8):purW (bW l)=true:=xLq l
noncomputable def rotN(x n:Nat):Nat:=Nat.lor (Nat.shiftLeft x (32-n)%4294967296%4294967296) (Nat.shiftRight x n%4294967296)
noncomputable def addN(a b:Nat):Nat:=(a+b)%4294967296
noncomputable def xorN(a b:Nat):Nat:=Nat.xor (a%4294967296) (b%4294967296)
noncomputable def andN(a b:Nat):Nat:=Nat.land (a%4294967296) (b%4294967296)
noncomputable def shrN(a k:Nat):Nat:=Nat.shiftRight a (min k 32)
noncomputable def shlN(a k:Nat):Nat:=Nat.shiftLeft a (min k 32)%4294967296
noncomputable def orN(a b:Nat):Nat:=Nat.lor (a%4294967296) (b%4294967296)
noncomputable def notN(a:Nat):Nat:=Nat.xor (4294967295%4294967296) (a%4294967296)
noncomputable def wd(x:Nat):W:=.int .u32 (.ofNat x)
theorem qqq(n:Nat)(hn:n=2\/n=6\/n=7\/n=11\/n=13\/n=17\/n=18\/n=19\/n=22\/n=25)(G:Nat->Option W)(x:Nat):PS cfg G 151 [wd x,.int .i64 (.ofNat n)] (wd (rotN x n)):=by
 have key:∀h,yhq cfg 20 151 [.int .u32 (.ofNat x),.int .i64 (.ofNat n)] h=some (.int .u32 (.ofNat (rotN x n)),h):=by
  intro h;rcases hn with rfl|rfl|rfl|rfl|rfl|rfl|rfl|rfl|rfl|rfl<;>kernel_rfl
 refine vwq (spec_run key (λΓ us h=>?_) (λΓ=>RV_int.2 rfl)) λw hp nw h=>h.1
 obtain⟨v,vs,rfl,h1,h2⟩:=RVL_cons.1 h;obtain⟨v',vs',rfl,h3,h4⟩:=RVL_cons.1 h2;rw[RVL_nil.1 h4,RV_int.1 h1,RV_int.1 h3]
section
attribute [local irreducible] CoW OpW FlW Step Spec
noncomputable def wordN(b0 b1 b2 b3:Nat):Nat:=orN (orN (orN (shlN (b0%4294967296) 24) (shlN (b1%4294967296) 16)) (shlN (b2%4294967296) 8)) (b3%4294967296)
noncomputable def vhq(bs:Nat->Nat)(l:List Nat):Nat:=match Nat.blt l.length 16 with
 |true=>wordN (bs (4*l.length)) (bs (4*l.length+1)) (bs (4*l.length+2)) (bs (4*l.length+3))
 |false=>addN (addN (addN (l.getD (l.length-16) 0) (xorN (xorN (rotN (l.getD (l.length-15) 0) 7) (rotN (l.getD (l.length-15) 0) 18)) (shrN (l.getD (l.length-15) 0) 3))) (l.getD (l.length-7) 0)) (xorN (xorN (rotN (l.getD (l.length-2) 0) 17) (rotN (l.getD (l.length-2) 0) 19)) (shrN (l.getD (l.length-2) 0) 10))
noncomputable def yjq(bs:Nat->Nat):Nat->List Nat
 |0=>[]
 |t+1=>yjq bs t++[vhq bs (yjq bs t)]
theorem yJq(bs:Nat->Nat):∀t,(yjq bs t).length=t
 |0=>rfl
 |t+1=>by simp[yjq,yJq bs t]
theorem Zmq{l:List Nat}{i:Nat}(h:i<l.length):(l.map wd)[i]? =some (wd (l.getD i 0)):=by
 simp[List.getElem?_map,List.getElem?_eq_getElem h,List.getD]
noncomputable def kW:List Nat:=[1116352408,1899447441,3049323471,3921009573,961987163,1508970993,2453635748,2870763221,3624381080,310598401,607225278,1426881987,1925078388,2162078206,2614888103,3248222580,3835390401,4022224774,264347078,604807628,770255983,1249150122,1555081692,1996064986,2554220882,2821834349,2952996808,3210313671,3336571891,3584528711,113926993,338241895,666307205,773529912,1294757372,1396182291,1695183700,1986661051,2177026350,2456956037,2730485921,2820302411,3259730800,3345764771,3516065817,3600352804,4094571909,275423344,430227734,506948616,659060556,883997877,958139571,1322822218,1537002063,1747873779,1955562222,2024104815,2227730452,2361852424,2428436474,2756734187,3204031479,3329325298]
noncomputable def glK:Nat->Option W:=λg=>match g with
 |0=>some (.arr 64 1 (kW.map wd))
 |_=>none
noncomputable def pad0(l:List Nat)(n:Nat):List Nat:=l++List.replicate (n-l.length) 0
theorem pad0_at{l:List Nat}{n i:Nat}(h:i<l.length):((pad0 l n).map wd)[i]? =some (wd (l.getD i 0)):=by
 have:i<(pad0 l n).length:=by simp[pad0];omega
 rw[Zmq this];simp[pad0,List.getD,List.getElem?_append,h]
theorem pad0_ge{l:List Nat}{n:Nat}(h:l.length<n):((pad0 l n).map wd)[l.length]? =some (wd 0):=by
 have:l.length<(pad0 l n).length:=by simp[pad0];omega
 rw[Zmq this];simp[pad0,List.getD,List.getElem?_append,List.getElem?_replicate,show 0<n-l.length by omega]
theorem pad0_set{l:List Nat}{n x:Nat}(h:l.length<n):((pad0 l n).map wd).set l.length (wd x)=(pad0 (l++[x]) n).map wd:=by
 rw[<-List.map_set];congr 1
 unfold pad0;rw[List.set_append_right _ _ (Nat.le_refl _)];have:n-l.length=(n-(l++[x]).length)+1:=by simp;omega
 rw[this,Nat.sub_self,List.replicate_succ,List.set_cons_zero,List.append_assoc];rfl
structure S8 where
 (a b c d e f g h:Nat)
noncomputable def S8.l(s:S8):List W:=[wd s.a,wd s.b,wd s.c,wd s.d,wd s.e,wd s.f,wd s.g,wd s.h]
noncomputable def roundN(k w:Nat)(v:S8):S8:=
 let one:=addN (addN (addN (addN v.h (xorN (xorN (rotN v.e 6) (rotN v.e 11)) (rotN v.e 25))) (xorN (andN v.e v.f) (andN (notN v.e) v.g))) k) w
 let two:=addN (xorN (xorN (rotN v.a 2) (rotN v.a 13)) (rotN v.a 22)) (xorN (xorN (andN v.a v.b) (andN v.a v.c)) (andN v.b v.c))
 ⟨addN one two,v.a,v.b,v.c,addN v.d one,v.e,v.f,v.g⟩
noncomputable def qYq(ws:List Nat)(s:S8):Nat->S8
 |0=>s
 |t+1=>roundN (kW.getD t 0) (ws.getD t 0) (qYq ws s t)
noncomputable def add8(s v:S8):S8:=⟨addN s.a v.a,addN s.b v.b,addN s.c v.c,addN s.d v.d,addN s.e v.e,addN s.f v.f,addN s.g v.g,addN s.h v.h⟩
noncomputable def qTq(bs:Nat->Nat)(s:S8):S8:=add8 s (qYq (yjq bs 64) s 64)
theorem kW_len:kW.length=64:=rfl
noncomputable def S8.get(s:S8):Nat->Nat
 |0=>s.a
 |1=>s.b
 |2=>s.c
 |3=>s.d
 |4=>s.e
 |5=>s.f
 |6=>s.g
 |_=>s.h
noncomputable def mix8(s v:S8)(i:Nat):List W:=(add8 s v).l.take i++s.l.drop i
theorem lt8{i:Nat}(h:i<8):i=0\/i=1\/i=2\/i=3\/i=4\/i=5\/i=6\/i=7:=by omega
theorem S8_at(s:S8){k:Nat}(h:k<8):s.l[0+k*1]? =some (wd (s.get k)):=by rcases lt8 h with rfl|rfl|rfl|rfl|rfl|rfl|rfl|rfl<;>rfl
theorem mix_at(s v:S8){k:Nat}(h:k<8):(mix8 s v k)[0+k*1]? =some (wd (s.get k)):=by rcases lt8 h with rfl|rfl|rfl|rfl|rfl|rfl|rfl|rfl<;>rfl
theorem mix_set(s v:S8){k:Nat}(h:k<8):(mix8 s v k).set (0+k*1) (wd (addN (s.get k) (v.get k)))=mix8 s v (k+1):=by rcases lt8 h with rfl|rfl|rfl|rfl|rfl|rfl|rfl|rfl<;>rfl
theorem block_s(s:S8)(bs:Nat->Nat)(c:W)(base off:Nat)(lim:Option Nat)(ty:TypeId)(hc:refB 2 c=true)(hby:∀i,i<64->ydq 50 c (off+i*1) 1 false=some (.int .u8 (.ofNat (bs i))))(R:Res):
  Spec cfg glK 91 2 [.ptr 0 0,.sl 1 base off 64 1 lim] [(0,203,.arr 8 1 s.l),(1,ty,c)] R λw hp nw R'=>R'=R/\w= .tup []/\hp=[(0,203,.arr 8 1 (qTq bs s).l),(1,ty,c)]/\nw=2:=by
 refine gIs 12 Z (λk0=>?_);refine ZCq (α:=Nat) (λt=>t<=64) (λt=>[(19,.int .i64 (t:Int))]) [(0,_),(1,_),(4,_)] (λt=>[(2,284,.arr 64 1 ((pad0 (yjq bs t) 64).map wd)),(0,203,.arr 8 1 s.l),(1,ty,c)]) (λt=>64-t) (0) ⟨rfl,rfl,rfl,trivial⟩ (Nat.zero_le _) ⟨rfl,trivial⟩ (rfl) (λt hI=>?_);have hl:=yJq bs t;refine ksq 6 Z ?_;refine gS 0 Z (λh1=>?_) (λh1=>?_)
 ·have ht1:t<64:=by omega
  have h0:((pad0 (yjq bs t) 64).map wd)[0+t*1]? =some (wd 0):=by
   have:=pad0_ge (l:=yjq bs t) (n:=64) Xa;rw[hl] at this;simpa using this
  have key:∀x,vhq bs (yjq bs t)=x->((pad0 (yjq bs t) 64).map wd).set (0+t*1) (wd x)=(pad0 (yjq bs (t+1)) 64).map wd:=λx hx=>by
   have:=pad0_set (l:=yjq bs t) (n:=64) (x:=x) Xa;rw[hl] at this;rw[Nat.zero_add,Nat.mul_one,this,yjq,hx]
  refine gS 17 Z (λh2=>?_) (λh2=>?_)
  ·have ht2:t<16:=by omega
   have hb:vhq bs (yjq bs t)=wordN (bs (4*t)) (bs (4*t+1)) (bs (4*t+2)) (bs (4*t+3)):=by
    unfold vhq;rw[hl,show Nat.blt t 16=true by simpa[Nat.blt_eq] using ht2]
   refine gA 5 Z (4*t) ?_;refine gP 0 Z (ix_sl (i:=4*t) Z Z Z Z Z Z Z Xa) ?_;refine gM 0 Z (jFq Z Z Z (hby _ Xa)) ?_;refine gA 4 Z (4*t) ?_;refine gA 0 Z (4*t+1) ?_;refine gP 0 Z (ix_sl (i:=4*t+1) Z Z Z Z Z Z Z Xa) ?_;refine gM 0 Z (jFq Z Z Z (hby _ Xa)) ?_;refine gA 5 Z (4*t) ?_;refine gA 0 Z (4*t+2) ?_;refine gP 0 Z (ix_sl (i:=4*t+2) Z Z Z Z Z Z Z Xa) ?_;refine gM 0 Z (jFq Z Z Z (hby _ Xa)) ?_;refine gA 5 Z (4*t) ?_;refine gA 0 Z (4*t+3) ?_;refine gP 0 Z (ix_sl (i:=4*t+3) Z Z Z Z Z Z Z Xa) ?_;refine gM 0 Z (jFq Z Z Z (hby _ Xa)) ?_;refine gX 2 Z ?_;refine gM 0 Z (st_own Z Z Z Z Z (x9q h0 Z Z) (congrArg (λL=>[(2,284,W.arr 64 1 L),(0,203,.arr 8 1 s.l),(1,ty,c)]) (key _ hb))) ?_;refine gWr 7 Z ?_;refine qdq 2 Z ?_;exact x8q (t+1) (ht1) Xa ⟨rfl,trivial⟩ ⟨rfl,rfl,rfl,trivial⟩ rfl
  ·have ht2:¬t<16:=by omega
   have hA:∀k,k<t->((pad0 (yjq bs t) 64).map wd)[0+k*1]? =some (wd ((yjq bs t).getD k 0)):=λk hk=>by
    rw[Nat.zero_add,Nat.mul_one];exact pad0_at Xa
   have hb:vhq bs (yjq bs t)=addN (addN (addN ((yjq bs t).getD (t-16) 0) (xorN (xorN (rotN ((yjq bs t).getD (t-15) 0) 7) (rotN ((yjq bs t).getD (t-15) 0) 18)) (shrN ((yjq bs t).getD (t-15) 0) 3))) ((yjq bs t).getD (t-7) 0)) (xorN (xorN (rotN ((yjq bs t).getD (t-2) 0) 17) (rotN ((yjq bs t).getD (t-2) 0) 19)) (shrN ((yjq bs t).getD (t-2) 0) 10)):=by
    unfold vhq;rw[show Nat.blt (yjq bs t).length 16=false by rw[hl];exact Bool.eq_false_iff.2 λq=>ht2 (by simpa[Nat.blt_eq] using q)];simp only[hl]
   refine gA 5 Z (t-15) ?_;refine gX 0 Z ?_;refine gM 0 Z (jFq Z Z Z (qkq (hA _ Xa) rfl)) ?_;refine gA 1 Z (t-2) ?_;refine gX 0 Z ?_;refine gM 0 Z (jFq Z Z Z (qkq (hA _ Xa) rfl)) ?_;refine gA 7 Z (t-16) ?_;refine gX 0 Z ?_;refine gM 0 Z (jFq Z Z Z (qkq (hA _ Xa) rfl)) ?_;refine gC 1 Z (qqq _ Xd _ _) ?_;refine gC 1 Z (qqq _ Xd _ _) ?_;refine gA 6 Z (t-7) ?_;refine gX 0 Z ?_;refine gM 0 Z (jFq Z Z Z (qkq (hA _ Xa) rfl)) ?_;refine gC 2 Z (qqq _ Xd _ _) ?_;refine gC 1 Z (qqq _ Xd _ _) ?_;refine gX 5 Z ?_;refine gM 0 Z (st_own Z Z Z Z Z (x9q h0 Z Z) (congrArg (λL=>[(2,284,W.arr 64 1 L),(0,203,.arr 8 1 s.l),(1,ty,c)]) (key _ hb))) ?_;refine gWr 4 Z ?_;refine qdq 2 Z ?_;exact x8q (t+1) (ht1) Xa ⟨rfl,trivial⟩ ⟨rfl,rfl,rfl,trivial⟩ rfl
 ·obtain rfl:t=64:=by omega
  rw[show pad0 (yjq bs 64) 64=yjq bs 64 by unfold pad0;rw[hl];simp];refine qdq 2 Z (vgq Xg (kiq 18 Z ?_));refine ZCq (α:=Nat) (λt=>t<=64) (λt=>[(100,.int .i64 (t:Int))]) [(0,_),(4,_),(8,_)] (λt=>[(3,203,.arr 8 1 (qYq (yjq bs 64) s t).l),(2,284,.arr 64 1 ((yjq bs 64).map wd)),(0,203,.arr 8 1 s.l),(1,ty,c)]) (λt=>64-t) (0) ⟨rfl,rfl,rfl,trivial⟩ (Nat.zero_le _) ⟨rfl,trivial⟩ (rfl) (λt hI=>?_);refine ksq 6 Z ?_;refine gS 0 Z (λh2=>?_) (λh2=>?_)
  ·have ht1:t<64:=by omega
   have hK:ydq 50 (.arr 64 1 (kW.map wd)) (t*1) 1 false=some (wd (kW.getD t 0)):=qkq (by rw[Nat.mul_one];exact Zmq (by rw[kW_len];exact ht1)) rfl;have hW:ydq 50 (.arr 64 1 ((yjq bs 64).map wd)) (0+t*1) 1 false=some (wd ((yjq bs 64).getD t 0)):=qkq (by rw[Nat.zero_add,Nat.mul_one];exact Zmq Xa) rfl;exact gC 37 Z (qqq _ Xd _ _) (gC 1 Z (qqq _ Xd _ _) (gC 2 Z (qqq _ Xd _ _) (gP 12 Z (ix_fel (i:=t) Z Z Z Z Z Z Xa rfl hK) (gP 3 Z (xaq (i:=t) Z Z Z Z Z Z Xa) (gM 0 Z (jFq Z Z Z hW) (gC 7 Z (qqq _ Xd _ _) (gC 1 Z (qqq _ Xd _ _) (gC 2 Z (qqq _ Xd _ _) (gWr 36 Z (qdq 2 Z (x8q (t+1) (ht1) Xa ⟨rfl,trivial⟩ ⟨rfl,rfl,rfl,trivial⟩ rfl)))))))))))
  ·obtain rfl:t=64:=by omega
   refine qdq 2 Z (vgq Xg (kiq 8 Z ?_));refine ZCq (α:=Nat) (λi=>i<=8) (λi=>[(178,.int .i64 (i:Int))]) [(0,_),(8,_)] (λi=>[(3,203,.arr 8 1 (qYq (yjq bs 64) s 64).l),(2,284,.arr 64 1 ((yjq bs 64).map wd)),(0,203,.arr 8 1 (mix8 s (qYq (yjq bs 64) s 64) i)),(1,ty,c)]) (λi=>8-i) (0) ⟨rfl,rfl,trivial⟩ (Nat.zero_le _) ⟨rfl,trivial⟩ (rfl) (λi hI=>?_);refine ksq 6 Z ?_;refine gS 0 Z (λh3=>?_) (λh3=>?_)
   ·have hi1:i<8:=by omega
    exact gP 14 Z (xaq (i:=i) Z Z Z Z Z Z hi1) (gM 0 Z (jFq Z Z Z (qkq (mix_at _ _ hi1) rfl)) (gP 1 Z (xaq (i:=i) Z Z Z Z Z Z hi1) (gM 0 Z (jFq Z Z Z (qkq (S8_at _ hi1) rfl)) (gP 2 Z (xaq (i:=i) Z Z Z Z Z Z hi1) (gM 0 Z (st_own Z Z Z Z Z (x9q (mix_at _ _ hi1) Z Z) (congrArg (λL=>[(3,203,W.arr 8 1 (qYq (yjq bs 64) s 64).l),(2,284,.arr 64 1 ((yjq bs 64).map wd)),(0,203,.arr 8 1 L),(1,ty,c)]) (mix_set _ _ hi1))) (gWr 4 Z (qdq 2 Z (x8q (i+1) (hi1) Xa ⟨rfl,trivial⟩ ⟨rfl,rfl,trivial⟩ rfl))))))))
   ·obtain rfl:i=8:=by omega
    refine qdq 2 Z (vgq Xg (kiq 1 Z ?_));refine fin (.inl rfl) (ent_low (fr2:=[]) (hp2:=[(0,203,.arr 8 1 (qTq bs s).l),(1,ty,c)]) (nw2:=2) Xa Xa trivial rfl (x7q ⟨⟨by omega,rfl,rfl⟩,⟨by omega,rfl,hc⟩,trivial⟩) Xe) rfl ⟨rfl,rfl,rfl,rfl⟩
end
section
attribute [local irreducible] CoW OpW FlW Step Spec
noncomputable def atL(r:List Nat)(i:Nat):Nat:=r.getD i 0
noncomputable def eat:Nat->S8->List Nat->S8×List Nat
 |0,s,r=>(s,r)
 |n+1,s,r=>match Nat.ble 64 r.length with
  |true=>eat n (qTq (atL r) s) (r.drop 64)
  |false=>(s,r)
theorem xhq:∀(n:Nat) (s:S8) (r:List Nat),r.length<64->eat n s r=(s,r)
 |0,_,_,_=>rfl
 |n+1,s,r,h=>by
  have:Nat.ble 64 r.length=false:=by
   cases hq:Nat.ble 64 r.length with
   |true=>have:=Zb hq;omega
   |false=>rfl
  simp only[eat,this]
theorem Zzq{n:Nat}{s:S8}{r:List Nat}(h:64<=r.length):eat (n+1) s r=eat n (qTq (atL r) s) (r.drop 64):=by
 simp only[eat,Nat.ble_eq_true_of_le h]
theorem eat_fuel:∀(n m:Nat) (s:S8) (r:List Nat),r.length<=n->r.length<=m->eat n s r=eat m s r
 |0,m,s,r,h,_=>by rw[xhq m s r Xa];rfl
 |n+1,0,s,r,_,h=>by rw[xhq _ s r Xa];rfl
 |n+1,m+1,s,r,h1,h2=>by
  by_cases h:64<=r.length
  ·rw[Zzq h,Zzq h];exact eat_fuel n m _ _ Xc Xc
  ·rw[xhq _ s r Xa,xhq _ s r Xa]
noncomputable def eats(s:S8)(r:List Nat):S8×List Nat:=eat r.length s r
theorem eats_more{s:S8}{r:List Nat}(h:64<=r.length):eats s r=eats (qTq (atL r) s) (r.drop 64):=by
 unfold eats;obtain⟨n,hn⟩:∃n,r.length=n+1:=⟨r.length-1,by omega⟩
 rw[hn,Zzq h];exact eat_fuel _ _ _ _ Xc (Nat.le_refl _)
noncomputable def qUq(a:S8×List Nat)(p:List Nat):S8×List Nat:=eats a.1 (a.2++p)
noncomputable def s0:S8:=⟨1779033703,3144134277,1013904242,2773480762,1359893119,2600822924,528734635,1541459225⟩
noncomputable def padZ:Nat->List Nat->List Nat
 |0,r=>r
 |n+1,r=>match Nat.beq (r.length%64) 56 with
  |true=>r
  |false=>padZ n (r++[0])
noncomputable def len8(many:Nat):List Nat:=[56,48,40,32,24,16,8,0].map λi=>Nat.shiftRight (8*many%18446744073709551616) i%256
noncomputable def qxq:Nat->S8->List Nat->S8
 |0,s,_=>s
 |n+1,s,r=>match Nat.ble 1 r.length with
  |true=>qxq n (qTq (atL r) s) (r.drop 64)
  |false=>s
theorem qKq:∀(n:Nat) (s:S8),qxq n s []=s
 |0,_=>rfl
 |n+1,s=>rfl
theorem kIq{n:Nat}{s:S8}{r:List Nat}(h:1<=r.length):qxq (n+1) s r=qxq n (qTq (atL r) s) (r.drop 64):=by
 simp only[qxq,Nat.ble_eq_true_of_le h]
theorem uXq:∀(n m:Nat) (s:S8) (r:List Nat),r.length<=n->r.length<=m->qxq n s r=qxq m s r
 |0,m,s,r,h,_=>by
  obtain rfl:r=[]:=List.length_eq_zero_iff.1 Xa;rw[qKq,qKq]
 |n+1,0,s,r,_,h=>by
  obtain rfl:r=[]:=List.length_eq_zero_iff.1 Xa;rw[qKq,qKq]
 |n+1,m+1,s,r,h1,h2=>by
  by_cases h:1<=r.length
  ·rw[kIq h,kIq h];exact uXq n m _ _ Xc Xc
  ·obtain rfl:r=[]:=List.length_eq_zero_iff.1 Xa;rw[qKq,qKq]
theorem eatAll_step{s:S8}{r:List Nat}(h:1<=r.length):qxq r.length s r=qxq (r.drop 64).length (qTq (atL r) s) (r.drop 64):=by
 obtain⟨n,hn⟩:∃n,r.length=n+1:=⟨r.length-1,by omega⟩
 rw[hn,kIq h];exact uXq _ _ _ _ Xc (Nat.le_refl _)
noncomputable def digN(s:S8):List Nat:=(List.range 32).map λi=>Nat.shiftRight (s.get (i/4)) (24-8*(i%4))%256
noncomputable def ysq(ps:List (List Nat)):Nat:=(ps.map List.length).foldr (· + ·) 0
noncomputable def shaN(ps:List (List Nat)):List Nat:=
 let a:=ps.foldl qUq (s0,[])
 let r:=padZ 64 (a.2++[128])++len8 (ysq ps)
 digN (qxq r.length a.1 r)
inductive Rst where
 |nil
 |sl (all:List Nat) (base off:Nat)
noncomputable def Rst.w:Rst->W
 |.nil=>.nils
 |.sl all base off=>.sl 2 base off (all.length-off) 1 none
noncomputable def Rst.hp:Rst->HpW
 |.nil=>[]
 |.sl all _ _=>[(2,5,.arr all.length 1 (bN all))]
noncomputable def Rst.r:Rst->List Nat
 |.nil=>[]
 |.sl all _ off=>all.drop off
noncomputable def Rst.ok:Rst->Prop
 |.nil=>True
 |.sl all _ off=>off<=all.length/\all.length<4294967296
noncomputable def Rst.nw:Rst->Nat
 |.nil=>2
 |.sl _ _ _=>3
noncomputable def hpS(x:Rst)(d:W)(s:S8):HpW:=x.hp++[(1,203,.arr 8 1 s.l),(0,30,d)]
noncomputable def xOq:W:=.arr 32 1 (List.replicate 32 (.int .u8 0))
noncomputable def k3q(p:List Nat×Bool):W:=.fz (bN p.1) 1 p.2
theorem app_r(r:Rst)(hr:r.ok)(d:W)(s:S8)(p:List Nat)(f:Bool)(hp:p.length<2147483648)(h64:r.r.length<64):∃w hp' nw ev,appW cfg (hpS r d s) r.nw 66 66 r.w (.fz (bN p) 1 f)=some (w,hp',nw,ev)/\
  ∃r':Rst,r'.ok/\r'.r=r.r++p/\((w=r'.w/\hp'=hpS r' d s/\nw=r'.nw)\/∃all,r'= .sl all 0 0/\w= .sl 3 0 0 all.length 1 none/\hp'=[(3,5,.arr all.length 1 (bN all)),(1,203,.arr 8 1 s.l),(0,30,d)]/\nw=4):=by
 cases r with
 |nil=>cases p with
  |nil=>exact⟨_,_,_,_,rfl,.nil,trivial,rfl,.inl ⟨rfl,rfl,rfl⟩⟩
  |cons a l=>
   have hl:(bN (a::l)).length=l.length+1:=by rw[xlq];rfl
   have hlt:l.length+1<2147483648:=hp;have hbl:(bN (a::l)).length*1<=140737488355328:=by omega
   refine⟨_,_,_,_,app_nil (k:=ti5) Z Z Z Z Z (by simp[bN]) hbl Xa,.sl (a::l) 0 0,⟨Nat.zero_le _,by show l.length+1<_;omega⟩,rfl,.inl ⟨?_,?_,rfl⟩⟩
   ·rw[xlq];rfl
   ·rw[xlq,show(ti5).size=1 from rfl,Nat.mul_one];rfl
 |sl all base off=>
  obtain⟨h1,h2⟩:=hr;cases p with
  |nil=>exact⟨_,_,_,_,rfl,.sl all base off,⟨h1,h2⟩,by simp,.inl ⟨rfl,rfl,rfl⟩⟩
  |cons a l=>
   have hl:(bN (a::l)).length=l.length+1:=by rw[xlq];rfl
   have hlt:l.length+1<2147483648:=hp;have hbl:(all.length-off+(bN (a::l)).length)*1<=140737488355328:=by omega
   have hdt:((bN all).drop off).take (all.length-off)=bN (all.drop off):=by
    rw[List.take_of_length_le (by simp[xlq])];simp[bN,List.map_drop]
   refine⟨_,_,_,_,app_sl (k:=ti5) (v:=.arr all.length 1 (bN all)) (off:=off) Z Z Z Z Z (by simp[bN]) hbl Xa Z ?_ rfl (x6q Xa),.sl (all.drop off++a::l) 0 0,⟨Nat.zero_le _,?_⟩,rfl,.inr ⟨_,rfl,?_,?_,rfl⟩⟩
   ·show all.length<off+(all.length-off+(bN (a::l)).length)*1;omega
   ·simp only[Rst.r,List.length_drop] at h64;simp only[List.length_append,List.length_drop,List.length_cons];omega
   ·simp only[hl,List.length_append,List.length_drop,List.length_cons];rfl
   ·rw[hdt,hl];simp only[List.length_append,List.length_drop,List.length_cons,show(ti5).size=1 from rfl,Nat.mul_one];rw[show bN (all.drop off)++bN (a::l)=bN (all.drop off++a::l) by simp[bN]];rfl
theorem padZ_spec:∀(n j:Nat) (r:List Nat),(∀i,i<j->(r.length+i)%64≠56) ->(r.length+j)%64=56->j<=n->padZ n r=r++List.replicate j 0
 |0,j,r,_,_,h=>by
  obtain rfl:j=0:=by omega
  simp[padZ]
 |n+1,0,r,_,h,_=>by
  have:Nat.beq (r.length%64) 56=true:=by rw[Nat.beq_eq];simpa using h
  simp only[padZ,this];simp
 |n+1,j+1,r,h1,h2,h3=>by
  have:Nat.beq (r.length%64) 56=false:=by
   cases hq:Nat.beq (r.length%64) 56 with
   |true=>rw[Nat.beq_eq] at hq;exact absurd (by simpa using hq) (h1 0 Xa)
   |false=>rfl
  simp only[padZ,this];rw[padZ_spec n j (r++[0]) (λi hi=>by simp only[List.length_append,List.length_singleton];have:=h1 (i+1) Xa;rwa[show r.length+1+i=r.length+(i+1) by omega]) (by simp only[List.length_append,List.length_singleton];rwa[show r.length+1+j=r.length+(j+1) by omega]) Xa];rw[List.append_assoc];rfl
noncomputable def dI(s:S8)(i:Nat):List Nat:=(digN s).take i++List.replicate (32-i) 0
theorem ufq(s:S8):(digN s).length=32:=by simp[digN]
theorem dI_len(s:S8){i:Nat}(h:i<=32):(dI s i).length=32:=by simp[dI,ufq];omega
theorem dI_at(s:S8){i:Nat}(h:i<32):(bN (dI s i))[0+i*1]? =some (.int .u8 (.ofNat 0)):=by
 rw[Nat.zero_add,Nat.mul_one,bN_at (by rw[dI_len s Xa];exact h)]
 have:(dI s i).getD i 0=0:=by
  simp[dI,List.getD,List.getElem?_append,ufq,show min i 32=i by omega,List.getElem?_replicate,show 0<32-i by omega]
 rw[this]
theorem dI_set(s:S8){i:Nat}(h:i<32):(bN (dI s i)).set (0+i*1) (.int .u8 (.ofNat (Nat.shiftRight (s.get (i/4)) (min (24-8*(i%4)) 32)%256)))=bN (dI s (i+1)):=by
 have e:(digN s).take (i+1)=(digN s).take i++[Nat.shiftRight (s.get (i/4)) (24-8*(i%4))%256]:=by
  rw[List.take_add_one];congr 1
  simp[digN,List.getElem?_map,List.getElem?_range h]
 have hm:min (24-8*(i%4)) 32=24-8*(i%4):=by omega
 have hl:((digN s).take i).length=i:=by simp[ufq];omega
 rw[Nat.zero_add,Nat.mul_one,hm];unfold bN;rw[<-List.map_set (f:=λc=>W.int .u8 (.ofNat c))];congr 1
 unfold dI;rw[e,show 32-i=(32-(i+1))+1 by omega,List.replicate_succ,List.set_append_right _ _ Xa,hl,Nat.sub_self,List.set_cons_zero,List.append_assoc];rfl
theorem mid1(L:List Nat)(c:Nat):some (W.sl 4 0 0 (L.length+(bN [c]).length) 1 none)=some (renW (tau1 2 4) (W.sl 2 0 0 (L++[c]).length 1 none)):=by
 rw[List.length_append];rfl
theorem mid2(L:List Nat)(c:Nat):some (5,W.arr ((L.length+(bN [c]).length)*1) 1 (((bN L).drop 0).take L.length++bN [c]))=some (5,renW (tau1 2 4) (W.arr (L++[c]).length 1 (bN (L++[c])))):=by
 rw[qhq (show purW (.arr (L++[c]).length 1 (bN (L++[c])))=true from x0q _),List.drop_zero,List.take_of_length_le (by rw[xlq];exact Nat.le_refl _),Nat.mul_one,List.length_append];simp[bN]
theorem parts_pur:∀ps:List (List Nat×Bool),purL (ps.map k3q)=true
 |[]=>rfl
 |p::ps=>by simp only[List.map_cons,purL,k3q,purW,x0q,Bool.true_and];exact parts_pur ps
theorem of_s(ps:List (List Nat×Bool))(fl:Bool)(hb:ysq (ps.map (·.1))<2147483648)(hpn:ps.length<2147483648)(R:Res):
  Spec cfg glK 50 0 [.fz (ps.map k3q) 1 fl] [] R λw hp nw R'=>R'=R/\w= .arr 32 1 (bN (shaN (ps.map (·.1)))):=by
 refine gIs 26 Z (λk0=>?_);refine gL 0 Z (qdq 4 Z ?_);refine kLq (α:=Nat×S8×Rst) (λa=>a.1<=ps.length/\a.2.2.ok/\(a.2.1,a.2.2.r)=((ps.map (·.1)).take a.1).foldl qUq (s0,[])/\a.2.2.r.length<64) (λa=>[(13,.int .i64 (a.1:Int)),(12,.int .i64 (ps.length:Int)),(11,.fz (ps.map k3q) 1 fl),(5,.int .u64 (ysq ((ps.map (·.1)).take a.1):Int)),(4,a.2.2.w),(3,.ptr 1 0),(2,.ptr 0 0)]) (λa=>hpS a.2.2 xOq a.2.1) (λa=>a.2.2.nw) (λ_=>R) (λa=>ps.length-a.1) (0,s0,.nil) ⟨Nat.zero_le _,trivial,rfl,by decide⟩ ?_ (λa ha=>?_);skip
 ·exact q6q ⟨rfl,by simp[getW,putW],rfl,rfl,rfl,rfl,rfl,trivial⟩ Z Z
 have hPp:purW (.fz (ps.map k3q) 1 fl)=true:=parts_pur ps;obtain⟨i,s,r⟩:=a;obtain⟨hi,hok,hfold,hr64⟩:=ha;refine ksq 6 Z ?_;refine gS 0 Z (λh1=>?_) (λh1=>?_)
 ·simp only at hi hok hfold hr64;have hi1:i<ps.length:=by omega
  obtain⟨p,hp⟩:∃p,ps[i]? =some p:=⟨_,List.getElem?_eq_getElem hi1⟩
  have hpw:(ps.map k3q)[i]? =some (.fz (bN p.1) 1 p.2):=by rw[List.getElem?_map,hp];rfl
  have htk:(ps.map (·.1)).take (i+1)=(ps.map (·.1)).take i++[p.1]:=by
   rw[List.take_add_one,List.getElem?_map,hp];rfl
  have htot:∀l r:List (List Nat),ysq (l++r)=ysq l+ysq r:=λl r=>by
   unfold ysq;induction l with
   |nil=>simp
   |cons x l ih=>simp only[List.cons_append,List.map_cons,List.foldr_cons,ih];omega
  have ht1:ysq ((ps.map (·.1)).take (i+1))=ysq ((ps.map (·.1)).take i)+p.1.length:=by rw[htk,htot];simp[ysq]
  have htle:ysq ((ps.map (·.1)).take (i+1))<=ysq (ps.map (·.1)):=by
   have:=htot ((ps.map (·.1)).take (i+1)) ((ps.map (·.1)).drop (i+1));rw[List.take_append_drop] at this;omega
  have hpl:p.1.length<2147483648:=by omega
  refine gP 6 Z (ix_fz (i:=i) Z Z Z Z Z Z Z hpw) (gZ 8 Z (xlq p.1) (gA 0 Z (p.1.length) (gA 0 Z (ysq ((ps.map (·.1)).take i)+p.1.length) (qdq 3 Z ?_))));refine co_cut (α:=Rst) (λr'=>r'.ok/\r'.r=r.r++p.1) (λr'=>[(13,.int .i64 (i:Int)),(12,.int .i64 (ps.length:Int)),(11,.fz (ps.map k3q) 1 fl),(5,.int .u64 (ysq ((ps.map (·.1)).take (i+1)):Int)),(4,r'.w),(3,.ptr 1 0),(2,.ptr 0 0)]) (λr'=>hpS r' xOq s) (λr'=>r'.nw) ?_ (λa ha=>?_)
  ·obtain⟨w,hp',nw',ev,e1,r',e2,e3,e4⟩:=app_r r hok xOq s p.1 p.2 hpl hr64;refine ksq 3 Z (gM 0 Z (ap_op Z Z e1) (qdq 2 Z ?_));refine⟨rfl,r',⟨e2,e3⟩,?_⟩;rcases e4 with ⟨rfl,rfl,rfl⟩|⟨all,rfl,rfl,rfl,rfl⟩
   ·exact q6q ⟨rfl,rfl,rfl,by rw[ht1];rfl,rfl,rfl,rfl,trivial⟩ Z Z
   ·refine xeq (b:=2) (k:=3) Xa Xa Xa ⟨⟨rfl,rfl⟩,⟨rfl,rfl⟩,⟨by rw[qhq hPp];rfl,yVq hPp⟩,⟨by rw[ht1];rfl,rfl⟩,⟨rfl,rfl⟩,⟨rfl,rfl⟩,⟨rfl,rfl⟩,trivial⟩ ⟨⟨by omega,by rw[qhq (show purW (.arr all.length 1 (bN all))=true from x0q _)];rfl,yVq (show purW (.arr all.length 1 (bN all))=true from x0q _)⟩,⟨by omega,rfl,rfl⟩,⟨by omega,rfl,rfl⟩,trivial⟩ Xj
  obtain⟨hak,har⟩:=ha;have hstep:(ps.map (·.1)).take (i+1)=(ps.map (·.1)).take i++[p.1]:=htk;have hnext:((ps.map (·.1)).take (i+1)).foldl qUq (s0,[])=qUq (s,r.r) p.1:=by rw[hstep,List.foldl_append,<-hfold];rfl
  refine run_ck 1 Z ?_;refine kLq (α:=S8×Rst) (λb=>b.2.ok/\eats b.1 b.2.r=qUq (s,r.r) p.1) (λb=>[(13,.int .i64 (i:Int)),(12,.int .i64 (ps.length:Int)),(11,.fz (ps.map k3q) 1 fl),(5,.int .u64 (ysq ((ps.map (·.1)).take (i+1)):Int)),(4,b.2.w),(3,.ptr 1 0),(2,.ptr 0 0)]) (λb=>hpS b.2 xOq b.1) (λb=>b.2.nw) (λ_=>R) (λb=>b.2.r.length) (s,a) ⟨hak,by simp only[qUq,har]⟩ (Ent.refl) (λb hb=>?_);skip
  obtain⟨s',r'⟩:=b;obtain⟨hok',heat⟩:=hb;simp only at hok' heat
  have done:r'.r.length<64->(s',r'.r)=((ps.map (·.1)).take (i+1)).foldl qUq (s0,[]):=λh=>by
   rw[hnext,<-heat,eats,xhq _ _ _ h]
  skip
  cases r' with
  |nil=>
   refine ksq 4 Z ?_;refine gL 0 Z ?_;refine qdq 6 Z ?_;refine vgq Xg ?_;refine kiq 4 Z ?_;refine gA 0 Z (i+1) ?_;refine qdq 2 Z ?_;skip
   refine jOq (i+1,s',.nil) ⟨hi1,trivial,done (by show 0<64;omega),(by show 0<64;omega)⟩ (by simp only;omega) (q6q ⟨rfl,rfl,rfl,rfl,rfl,rfl,rfl,trivial⟩ Z Z)
  |sl all base off=>
   obtain⟨ho1,ho2⟩:=hok';have hrl:(Rst.sl all base off).r.length=all.length-off:=by simp[Rst.r]
   refine ksq 4 Z (gV 0 Z (show _=W.int .i64 ((all.length-off:Nat):Int) by first|rfl|(simp;done)) ?_);refine gS 3 Z (λh2=>?_) (λh2=>?_)
   ·have h64:64<=all.length-off:=by omega
    have hpa:purW (.arr all.length 1 (bN all))=true:=x0q all
    have hby:∀k,k<64->ydq 50 (.arr all.length 1 (bN all)) (off+0*1+k*1) 1 false=some (.int .u8 (.ofNat (atL (all.drop off) k))):=λk hk=>by
     have:=bN_at (l:=all) (i:=off+k) Xa;refine qkq ?_ rfl;rw[Nat.zero_mul,Nat.add_zero,Nat.mul_one,this];simp[atL,List.getD,List.getElem?_drop]
    have hr':(Rst.sl all off (off+64)).r=((Rst.sl all base off).r).drop 64:=by simp[Rst.r]
    refine gP 6 Z (cut_hi (h:=64) Z Z Z Z Z Z Z h64) ?_
    (refine xzq rfl (step_call (ext:=[1,2]) (ws:=[.ptr 0 0,.sl 1 base (off+0*1) (64-0) 1 none]) Z Z Z Z Z (λR=>block_s s' (atL (all.drop off)) (.arr all.length 1 (bN all)) base _ none 5 (yVq hpa) hby R) Xd Xl Xe (handed2 rfl (by rw[qhq hpa];rfl) rfl (yVq hpa)) Z ?_);rintro w hp1 nw1 ⟨rfl,rfl,rfl⟩)
    refine run_pk 5 Z (gP 0 Z (cut_lo (l:=64) Z Z Z Z Z Z Z h64 rfl) (qdq 2 Z ?_));skip
    refine jOq (qTq (atL (all.drop off)) s',.sl all off (off+64)) ⟨⟨by omega,ho2⟩,?_⟩ (by simp only[hr'];simp only[hrl,List.length_drop];omega) (ent_low Xa (Nat.le_refl _) ⟨rfl,rfl,rfl,rfl,?_,rfl,rfl,trivial⟩ (by simp only[List.all_cons,List.all_nil,yVq hPp,Bool.and_true];rfl) (x7q ⟨⟨by show 2<3;omega,by show some (5,renW _ (W.arr all.length 1 (bN all)))=_;rw[qhq hpa],yVq hpa⟩,⟨by show 1<3;omega,rfl,rfl⟩,⟨by show 0<3;omega,rfl,rfl⟩,trivial⟩) Xj)
    ·rw[hr',<-heat];exact(eats_more (r:=(Rst.sl all base off).r) (by rw[hrl];exact h64)).symm
    ·show some (W.sl 2 off (off+64*1) (all.length-off-64) 1 (y5q 64 none))=some (W.sl 2 off (off+64) (all.length-(off+64)) 1 none);rw[Nat.sub_sub];rfl
   ·have h64:all.length-off<64:=by omega
    refine qdq 2 Z (vgq Xg (kiq 4 Z (gA 0 Z (i+1) (qdq 2 Z ?_))));skip
    refine jOq (i+1,s',.sl all base off) ⟨hi1,⟨ho1,ho2⟩,done (by rw[hrl];exact h64),by simp only[hrl];exact h64⟩ (by simp only;omega) (q6q ⟨rfl,rfl,rfl,rfl,rfl,rfl,rfl,trivial⟩ Z Z)
 ·simp only at hi hok hfold hr64;obtain rfl:i=ps.length:=by omega
  rw[show(ps.map (·.1)).take ps.length=ps.map (·.1) by rw[List.take_of_length_le Xe]] at hfold;have hT:(ps.map (·.1)).take ps.length=ps.map (·.1):=by rw[List.take_of_length_le Xe]
  have hdt:∀(all:List Nat) (off:Nat),((bN all).drop off).take (all.length-off)=bN (all.drop off):=λall off=>by
   rw[List.take_of_length_le (by simp[xlq])];simp[bN,List.map_drop]
  have bapp:∀a b:List Nat,bN a++bN b=bN (a++b):=λa b=>by simp[bN]
  have apur:∀all:List Nat,purW (.arr all.length 1 (bN all))=true:=λall=>x0q all
  refine qdq 2 Z (vgq Xg (kiq 2 Z ?_));refine co_cut (α:=Unit) (λ_=>True) (λ_=>[(5,.int .u64 (ysq (ps.map (·.1)):Int)),(4,.sl 2 0 0 (r.r++[128]).length 1 none),(3,.ptr 1 0),(2,.ptr 0 0)]) (λ_=>hpS (.sl (r.r++[128]) 0 0) xOq s) (λ_=>3) ?_ (λa ha=>?_)
  ·skip
   cases r with
   |nil=>
    refine ksq 3 Z (gM 0 Z (ap_op Z Z (app_nil (news:=bN [128]) (k:=ti5) Z Z Z Z Z (by simp[bN]) Xd Xd)) (qdq 2 Z ?_));refine⟨rfl,(),trivial,?_⟩;exact xeq (b:=2) (k:=3) Xa Xa (by show 3<4;omega) ⟨⟨by show some (W.int .u64 ((ysq ((ps.map (·.1)).take ps.length):Nat):Int))=_;rw[hT];rfl,rfl⟩,⟨rfl,rfl⟩,⟨rfl,rfl⟩,⟨rfl,rfl⟩,trivial⟩ ⟨⟨by omega,rfl,rfl⟩,⟨by omega,rfl,rfl⟩,⟨by omega,rfl,rfl⟩,trivial⟩ Xj
   |sl all base off=>
    obtain⟨ho1,ho2⟩:=hok;simp only[Rst.r,List.length_drop] at hr64;have hle:((Rst.sl all base off).r++[128]).length=all.length-off+1:=by simp[Rst.r]
    refine ksq 3 Z (gM 0 Z (ap_op Z Z (app_sl (news:=bN [128]) (k:=ti5) (v:=.arr all.length 1 (bN all)) (off:=off) Z Z Z Z Z (by simp[bN]) (show(all.length-off+1)*1<=140737488355328 by omega) (show all.length-off+1<=70368744177664 by omega) rfl (show all.length<off+(all.length-off+1)*1 by omega) rfl (x6q Xa))) (qdq 2 Z ?_));refine⟨rfl,(),trivial,?_⟩;refine xeq (b:=2) (k:=4) Xa Xa (by show 4<5;omega) ⟨⟨by show some (W.int .u64 ((ysq ((ps.map (·.1)).take ps.length):Nat):Int))=_;rw[hT];rfl,rfl⟩,⟨?_,rfl⟩,⟨rfl,rfl⟩,⟨rfl,rfl⟩,trivial⟩ ⟨⟨by omega,?_,yVq (apur _)⟩,⟨by omega,rfl,rfl⟩,⟨by omega,rfl,rfl⟩,trivial⟩ Xj
    ·rw[hle];rfl
    ·rw[qhq (apur _),hle,<-bapp];show some (5,W.arr ((all.length-off+1)*1) 1 (((bN all).drop off).take (all.length-off)++bN [128]))=_;rw[hdt,Nat.mul_one];rfl
  --noughts
  have htm:∀n:Nat,((n:Int)).tmod 64=((n%64:Nat):Int):=λn=>by rw[Int.tmod_eq_emod_of_nonneg Xa];omega
  have hA0:(r.r++[128]).length<=64:=by simp;omega
  generalize hA:r.r++[128]=A at*
  refine ksq 2 Z ?_;refine kLq (α:=Nat) (λj=>∀i,i<j->(A.length+i)%64≠56) (λj=>[(5,.int .u64 (ysq (ps.map (·.1)):Int)),(4,.sl 2 0 0 (A++List.replicate j 0).length 1 none),(3,.ptr 1 0),(2,.ptr 0 0)]) (λj=>hpS (.sl (A++List.replicate j 0) 0 0) xOq s) (λ_=>3) (λ_=>R) (λj=>64-j) 0 (λi hi=>absurd hi Xa) (by rw[List.replicate_zero,List.append_nil];exact Ent.refl) (λj hj=>?_);skip
  have hj64:j<64:=by
   refine Nat.lt_of_not_le λh=>?_
   have:=hj ((56+64-A.length%64)%64) Xa;omega
  have hlj:(A++List.replicate j 0).length=A.length+j:=by simp
  refine ksq 4 Z (gV 0 Z (show _=W.int .i64 ((A++List.replicate j 0).length:Int) by first|rfl|(simp;done)) (gV 0 Z (congrArg (W.int .i64) (htm _)) ?_));refine gS 3 Z (λh2=>?_) (λh2=>?_)
  ·have hne:(A.length+j)%64≠56:=by
    omega
   refine gM 6 Z (ap_op Z Z (app_sl (news:=bN [0]) (k:=ti5) (v:=.arr (A++List.replicate j 0).length 1 (bN (A++List.replicate j 0))) (off:=0) Z Z Z Z Z (by simp[bN]) (show((A++List.replicate j 0).length+1)*1<=140737488355328 by omega) (show(A++List.replicate j 0).length+1<=70368744177664 by omega) rfl (show(A++List.replicate j 0).length<0+((A++List.replicate j 0).length+1)*1 by omega) rfl (x6q Xa))) (qdq 3 Z ?_);have hrep:A++List.replicate (j+1) 0=(A++List.replicate j 0)++[0]:=by rw[List.append_assoc,<-List.replicate_succ']
   skip
   refine jOq (j+1) (λi hi=>?_) Xa (xeq (b:=2) (k:=4) Xa Xa (by show 4<5;omega) ⟨⟨rfl,rfl⟩,⟨?_,rfl⟩,⟨rfl,rfl⟩,⟨rfl,rfl⟩,trivial⟩ ⟨⟨by omega,?_,yVq (apur _)⟩,⟨by omega,rfl,rfl⟩,⟨by omega,rfl,rfl⟩,trivial⟩ Xj)
   ·rcases Nat.lt_succ_iff_lt_or_eq.1 hi with h|rfl
    ·exact hj i h
    ·exact hne
   ·rw[hrep];exact mid1 _ 0
   ·rw[hrep];exact mid2 _ 0
  ·have he:(A.length+j)%64=56:=by
    omega
   have hpz:padZ 64 A=A++List.replicate j 0:=padZ_spec 64 j A hj he Xa;rw[<-hpz];have hBl:(padZ 64 A).length<200:=by rw[hpz,hlj];omega
   have hB64:(padZ 64 A).length%64=56:=by rw[hpz,hlj];exact he
   generalize hB:padZ 64 A=B at hBl hB64;refine qdq 2 Z (vgq Xg (kiq 9 Z ?_));have h8:∀k,k<=8->((len8 (ysq (ps.map (·.1)))).take k).length=k:=λk hk=>by simp[len8];omega
   refine kLq (α:=Nat) (λk=>k<=8) (λk=>[(8,.int .i64 (56-8*(k:Int))),(5,.int .u64 (ysq (ps.map (·.1)):Int)),(4,.sl 2 0 0 (B++(len8 (ysq (ps.map (·.1)))).take k).length 1 none),(3,.ptr 1 0),(2,.ptr 0 0)]) (λk=>hpS (.sl (B++(len8 (ysq (ps.map (·.1)))).take k) 0 0) xOq s) (λ_=>3) (λ_=>R) (λk=>8-k) 0 (Nat.zero_le _) (by rw[List.take_zero,List.append_nil];exact q6q ⟨rfl,rfl,rfl,rfl,rfl,trivial⟩ Z Z) (λk hk=>?_);skip
   refine ksq 7 Z ?_;refine gS 0 Z (λh3=>?_) (λh3=>?_)
   ·have hk8:k<8:=by omega
    have hLk:=h8 k hk;have hll:(B++(len8 (ysq (ps.map (·.1)))).take k).length=B.length+k:=by rw[List.length_append,hLk]
    have hnx:B++(len8 (ysq (ps.map (·.1)))).take (k+1)=(B++(len8 (ysq (ps.map (·.1)))).take k)++[Nat.shiftRight (8*ysq (ps.map (·.1))%18446744073709551616) (min (56-8*k) 64)%256]:=by
     rw[List.take_add_one,<-List.append_assoc];congr 1
     have hq:k=0\/k=1\/k=2\/k=3\/k=4\/k=5\/k=6\/k=7:=by omega
     rcases hq with rfl|rfl|rfl|rfl|rfl|rfl|rfl|rfl<;>rfl
    have hw8:yYq .i64 (56-8*(k:Int) -8)=56-8*(k:Int) -8:=vYq (k:=.i64) ⟨by omega,by omega⟩;refine gV 8 Z (show W.int .i64 (56-8*(k:Int))=W.int .i64 ((56-8*k:Nat):Int) by congr 1;omega) (gM 3 Z (ap_op Z Z (app_sl (news:=bN [Nat.shiftRight (8*ysq (ps.map (·.1))%18446744073709551616) (min (56-8*k) 64)%256]) (k:=ti5) (v:=.arr (B++(len8 (ysq (ps.map (·.1)))).take k).length 1 (bN (B++(len8 (ysq (ps.map (·.1)))).take k))) (off:=0) Z Z Z Z Z (by simp[bN]) (show((B++(len8 (ysq (ps.map (·.1)))).take k).length+1)*1<=140737488355328 by omega) (show(B++(len8 (ysq (ps.map (·.1)))).take k).length+1<=70368744177664 by omega) rfl (show(B++(len8 (ysq (ps.map (·.1)))).take k).length<0+((B++(len8 (ysq (ps.map (·.1)))).take k).length+1)*1 by omega) rfl (x6q Xa))) (qdq 6 Z (op_val (w:=W.int .i64 (yYq .i64 (56-8*(k:Int) -8))) Z Z (show _=W.int .i64 (56-8*((k+1:Nat):Int)) by rw[hw8];congr 1;omega) (run_p 2 Z ?_))));skip
    refine jOq (k+1) Xa Xa (xeq (b:=2) (k:=4) Xa Xa (by show 4<5;omega) ⟨⟨rfl,rfl⟩,⟨rfl,rfl⟩,⟨?_,rfl⟩,⟨rfl,rfl⟩,⟨rfl,rfl⟩,trivial⟩ ⟨⟨by omega,?_,yVq (apur _)⟩,⟨by omega,rfl,rfl⟩,⟨by omega,rfl,rfl⟩,trivial⟩ Xj)
    ·rw[hnx];exact mid1 _ _
    ·rw[hnx];exact mid2 _ _
   ·obtain rfl:k=8:=by omega
    have ht8:(len8 (ysq (ps.map (·.1)))).take 8=len8 (ysq (ps.map (·.1))):=rfl;rw[ht8];have hMl:(B++len8 (ysq (ps.map (·.1)))).length=B.length+8:=by simp[len8]
    have hsha:shaN (ps.map (·.1))=digN (qxq (B++len8 (ysq (ps.map (·.1)))).length s (B++len8 (ysq (ps.map (·.1))))):=by
     simp only[shaN,<-hfold,hA,hB]
    generalize hM:B++len8 (ysq (ps.map (·.1)))=M at hMl hsha;refine qdq 2 Z (vgq Xg (kiq 4 Z ?_));refine kLq (α:=S8×Nat×Nat) (λb=>b.2.2<=M.length/\(M.length-b.2.2)%64=0/\qxq M.length s M=qxq (M.drop b.2.2).length b.1 (M.drop b.2.2)) (λb=>[(4,.sl 2 b.2.1 b.2.2 (M.length-b.2.2) 1 none),(3,.ptr 1 0),(2,.ptr 0 0)]) (λb=>hpS (.sl M b.2.1 b.2.2) xOq b.1) (λ_=>3) (λ_=>R) (λb=>M.length-b.2.2) (s,0,0) ⟨Nat.zero_le _,by show(M.length-0)%64=0;omega,rfl⟩ (q6q ⟨rfl,rfl,rfl,trivial⟩ Z Z) (λb hb5=>?_);skip
    obtain⟨s',base,off⟩:=b;obtain⟨ho,hmod,heat⟩:=hb5;simp only at ho hmod heat;refine ksq 4 Z (gV 0 Z (show _=W.int .i64 ((M.length-off:Nat):Int) by first|rfl|(simp;done)) ?_);refine gS 3 Z (λh4=>?_) (λh4=>?_)
    ·have h1:1<=M.length-off:=by omega
     have h64:64<=M.length-off:=by omega
     have hpa:purW (.arr M.length 1 (bN M))=true:=x0q M
     have hby:∀k,k<64->ydq 50 (.arr M.length 1 (bN M)) (off+0*1+k*1) 1 false=some (.int .u8 (.ofNat (atL (M.drop off) k))):=λk hk=>by
      have:=bN_at (l:=M) (i:=off+k) Xa;refine qkq ?_ rfl;rw[Nat.zero_mul,Nat.add_zero,Nat.mul_one,this];simp[atL,List.getD,List.getElem?_drop]
     refine gP 6 Z (cut_hi (h:=64) Z Z Z Z Z Z Z h64) ?_
     (refine xzq rfl (step_call (ext:=[1,2]) (ws:=[.ptr 0 0,.sl 1 base (off+0*1) (64-0) 1 none]) Z Z Z Z Z (λR=>block_s s' (atL (M.drop off)) (.arr M.length 1 (bN M)) base _ none 5 (yVq hpa) hby R) Xd Xl Xe (handed2 rfl (by rw[qhq hpa];rfl) rfl (yVq hpa)) Z ?_);rintro w hp1 nw1 ⟨rfl,rfl,rfl⟩)
     refine run_pk 5 Z (gP 0 Z (cut_lo (l:=64) Z Z Z Z Z Z Z h64 rfl) (qdq 2 Z ?_));skip
     refine jOq (qTq (atL (M.drop off)) s',off,off+64) ⟨by simp only;omega,by simp only;omega,?_⟩ (by simp only;omega) (ent_low Xa (Nat.le_refl _) ⟨?_,rfl,rfl,trivial⟩ rfl (x7q ⟨⟨by omega,by show some (5,renW _ (W.arr M.length 1 (bN M)))=_;rw[qhq hpa],yVq hpa⟩,⟨by omega,rfl,rfl⟩,⟨by omega,rfl,rfl⟩,trivial⟩) Xj)
     ·rw[heat,eatAll_step Xc,List.drop_drop]
     ·show some (W.sl 2 off (off+64*1) (M.length-off-64) 1 (y5q 64 none))=some (W.sl 2 off (off+64) (M.length-(off+64)) 1 none);rw[Nat.sub_sub];rfl
    ·have h0:M.length-off=0:=by omega
     have hend:qxq M.length s M=s':=by
      rw[heat,List.drop_of_length_le Xa];rfl
     rw[hend] at hsha;refine qdq 2 Z (vgq Xg (kiq 9 Z ?_));have htd4:∀n:Nat,((n:Int)).tdiv 4=((n/4:Nat):Int):=λn=>by rw[Int.tdiv_eq_ediv_of_nonneg Xa];omega
     have htm4:∀n:Nat,((n:Int)).tmod 4=((n%4:Nat):Int):=λn=>by rw[Int.tmod_eq_emod_of_nonneg Xa];omega
     refine kLq (α:=Nat) (λi=>i<=32) (λi=>[(64,.int .i64 (i:Int)),(3,.ptr 1 0),(2,.ptr 0 0)]) (λi=>hpS (.sl M base off) (.arr 32 1 (bN (dI s' i))) s') (λ_=>3) (λ_=>R) (λi=>32-i) 0 (Nat.zero_le _) (q6q ⟨rfl,rfl,rfl,trivial⟩ Z Z) (λi hi=>?_);skip
     refine ksq 6 Z ?_;refine gS 0 Z (λh5=>?_) (λh5=>?_)
     ·have hi32:i<32:=by omega
      refine gA 13 Z (i/4) (e:=(htd4 i)) (gP 0 Z (xaq (i:=i/4) Z Z Z Z Z Z Xa) (gM 0 Z (jFq Z Z Z (qkq (S8_at s' Xa) rfl)) (gV 1 Z (congrArg (W.int .i64) (htm4 i)) (gA 0 Z (8*(i%4)) (gA 0 Z (24-8*(i%4)) (gP 2 Z (xaq (i:=i) Z Z Z Z Z Z Xa) (gM 0 Z (st_own Z Z Z Z Z (x9q (dI_at s' hi32) Z Z) rfl) (gWr 4 Z (qdq 2 Z ?_)))))))));skip
      refine jOq (i+1) Xa Xa (q6q ⟨rfl,rfl,rfl,trivial⟩ ?_ rfl);exact congrArg (λL=>hpS (.sl M base off) (.arr 32 1 L) s') (dI_set s' hi32)
     ·obtain rfl:i=32:=by omega
      refine qdq 2 Z (vgq Xg (kiq 9 Z ?_));refine fin (.inr rfl) Ent.refl rfl ⟨rfl,?_⟩;rw[hsha];have:dI s' 32=digN s':=by simp[dI,List.take_of_length_le,ufq]
      rw[<-this]
end
theorem p32:(4294967296:Nat)=2^32:=by decide
theorem rot_eq{x n:Nat}(hx:x<4294967296)(hn:n<=32):rotN x n=Nat.mod (Nat.shiftRight (Nat.mul x 4294967297) n) 4294967296:=by
 show((x<<<(32-n))%4294967296%4294967296)|||((x>>>n)%4294967296)=((x*4294967297)>>>n)%4294967296
 have e:x*4294967297=x<<<32|||x:=by
  rw[<-Nat.shiftLeft_add_eq_or_of_lt (by rw[<-p32];exact hx),Nat.shiftLeft_eq];omega
 rw[e,Nat.mod_mod,p32];rw[p32] at hx;apply Nat.eq_of_testBit_eq;intro i;simp only[Nat.testBit_or,Nat.testBit_mod_two_pow,Nat.testBit_shiftLeft,Nat.testBit_shiftRight];by_cases h1:i<32
 ·by_cases h2:32-n<=i
  ·have h3:32<=n+i:=by omega
   have h4:i-(32-n)=n+i-32:=by omega
   simp[h1,h2,h3,h4]
  ·have h3:¬32<=n+i:=by omega
   simp[h1,h2,h3]
 ·simp[h1]
theorem xor_eq(a b:Nat):xorN a b=Nat.mod (Nat.xor a b) 4294967296:=by
 show(a%4294967296)^^^(b%4294967296)=(a^^^b)%4294967296;rw[p32,Nat.xor_mod_two_pow]
theorem vXq{a b:Nat}(ha:a<4294967296)(hb:b<4294967296):xorN a b=Nat.xor a b:=by
 show(a%4294967296)^^^(b%4294967296)=a^^^b;rw[Nat.mod_eq_of_lt ha,Nat.mod_eq_of_lt hb]
theorem and_eq{a b:Nat}(ha:a<4294967296)(hb:b<4294967296):andN a b=Nat.land a b:=by
 show(a%4294967296)&&&(b%4294967296)=a&&&b;rw[Nat.mod_eq_of_lt ha,Nat.mod_eq_of_lt hb]
theorem u8q{a b:Nat}(hb:b<4294967296):Nat.land a b<4294967296:=Nat.lt_of_le_of_lt (Nat.and_le_right (n:=a) (m:=b)) hb
theorem xor_lt{a b:Nat}(ha:a<4294967296)(hb:b<4294967296):Nat.xor a b<4294967296:=by
 rw[p32] at*;exact Nat.xor_lt_two_pow ha hb
theorem not_lt(e:Nat):notN e<4294967296:=by
 unfold notN;exact xor_lt Xa (Nat.mod_lt _ Xd)
noncomputable def sgF(y i j k:Nat):Nat:=Nat.mod (Nat.xor (Nat.xor (Nat.shiftRight y i) (Nat.shiftRight y j)) (Nat.shiftRight y k)) 4294967296
theorem sg_eq{x i j k:Nat}(hx:x<4294967296)(hi:i<=32)(hj:j<=32)(hk:k<=32):xorN (xorN (rotN x i) (rotN x j)) (rotN x k)=sgF (Nat.mul x 4294967297) i j k:=by
 rw[rot_eq hx hi,rot_eq hx hj,rot_eq hx hk];unfold sgF;generalize Nat.shiftRight (Nat.mul x 4294967297) i=A;generalize Nat.shiftRight (Nat.mul x 4294967297) j=B;generalize Nat.shiftRight (Nat.mul x 4294967297) k=D;show((A%4294967296%4294967296^^^B%4294967296%4294967296)%4294967296)^^^(D%4294967296%4294967296)=(A^^^B^^^D)%4294967296;simp only[Nat.mod_mod,p32,<-Nat.xor_mod_two_pow]
noncomputable def ch3(e f g:Nat):Nat:=Nat.xor g (Nat.land e (Nat.xor f g))
theorem ch_eq{e f g:Nat}(he:e<4294967296)(hf:f<4294967296)(hg:g<4294967296):xorN (andN e f) (andN (notN e) g)=ch3 e f g:=by
 rw[and_eq he hf,and_eq (not_lt e) hg,vXq (u8q hf) (u8q hg)]
 have e1:notN e=2^32-1^^^e:=by
  show(4294967295%4294967296)^^^(e%4294967296)=_;rw[Nat.mod_eq_of_lt he]
 show(e&&&f)^^^(notN e&&&g)=g^^^(e&&&(f^^^g));rw[e1];rw[p32] at he hf hg;apply Nat.eq_of_testBit_eq;intro i;simp only[Nat.testBit_xor,Nat.testBit_and,Nat.testBit_two_pow_sub_one];by_cases h:i<32
 ·simp only[h,decide_true];cases e.testBit i<;>cases f.testBit i<;>cases g.testBit i<;>rfl
 ·have hp:2^32<=2^i:=Nat.pow_le_pow_right Xd Xa;rw[Nat.testBit_lt_two_pow (Nat.lt_of_lt_of_le he hp),Nat.testBit_lt_two_pow (Nat.lt_of_lt_of_le hf hp),Nat.testBit_lt_two_pow (Nat.lt_of_lt_of_le hg hp)];simp
noncomputable def ma3(a b c:Nat):Nat:=Nat.xor (Nat.land a (Nat.xor b c)) (Nat.land b c)
theorem ma_eq{a b c:Nat}(ha:a<4294967296)(hb:b<4294967296)(hc:c<4294967296):xorN (xorN (andN a b) (andN a c)) (andN b c)=ma3 a b c:=by
 rw[and_eq ha hb,and_eq ha hc,and_eq hb hc,vXq (u8q hb) (u8q hc),vXq (xor_lt (u8q hb) (u8q hc)) (u8q hc)];show((a&&&b)^^^(a&&&c))^^^(b&&&c)=(a&&&(b^^^c))^^^(b&&&c);apply Nat.eq_of_testBit_eq;intro i;simp only[Nat.testBit_xor,Nat.testBit_and];cases a.testBit i<;>cases b.testBit i<;>cases c.testBit i<;>rfl
noncomputable def s3F(y x i j k:Nat):Nat:=Nat.xor (Nat.mod (Nat.xor (Nat.shiftRight y i) (Nat.shiftRight y j)) 4294967296) (Nat.shiftRight x k)
theorem s3_eq{x i j k:Nat}(hx:x<4294967296)(hi:i<=32)(hj:j<=32)(hk:k<=32):xorN (xorN (rotN x i) (rotN x j)) (shrN x k)=s3F (Nat.mul x 4294967297) x i j k:=by
 rw[rot_eq hx hi,rot_eq hx hj,xor_eq (Nat.mod _ _)]
 have h1:shrN x k=Nat.shiftRight x k:=by
  show x>>>(min k 32)=x>>>k;rw[Nat.min_eq_left hk]
 have h2:Nat.shiftRight x k<4294967296:=Nat.lt_of_le_of_lt (by show x>>>k<=x;rw[Nat.shiftRight_eq_div_pow];exact Nat.div_le_self _ _) hx
 have e1:∀A B:Nat,Nat.mod (Nat.xor (Nat.mod A 4294967296) (Nat.mod B 4294967296)) 4294967296=Nat.mod (Nat.xor A B) 4294967296:=λA B=>by
  show((A%4294967296)^^^(B%4294967296))%4294967296=(A^^^B)%4294967296;rw[p32,<-Nat.xor_mod_two_pow,Nat.mod_mod]
 rw[e1,h1];exact vXq (Nat.mod_lt _ Xd) h2
noncomputable def fz{α:Type}(n:Nat)(c:Nat->α):α:=Nat.rec (c 0) (λm _=>c (Nat.succ m)) n
theorem fz_eq{α:Type}(n:Nat)(c:Nat->α):fz n c=c n:=by cases n<;>rfl
noncomputable def oneF(h e f g k w:Nat):Nat:=Nat.add (Nat.add (Nat.add (Nat.add h (sgF (Nat.mul e 4294967297) 6 11 25)) (ch3 e f g)) k) w
noncomputable def naF(one a b c:Nat):Nat:=Nat.mod (Nat.add (Nat.add one (sgF (Nat.mul a 4294967297) 2 13 22)) (ma3 a b c)) 4294967296
noncomputable def neF(d one:Nat):Nat:=Nat.mod (Nat.add d one) 4294967296
noncomputable def nwF(w0 w1 w9 w14:Nat):Nat:=Nat.mod (Nat.add (Nat.add (Nat.add w0 (s3F (Nat.mul w1 4294967297) w1 7 18 3)) w9) (s3F (Nat.mul w14 4294967297) w14 17 19 10)) 4294967296
structure S8.Ok(s:S8):Prop where
 a:s.a<4294967296
 b:s.b<4294967296
 c:s.c<4294967296
 d:s.d<4294967296
 e:s.e<4294967296
 f:s.f<4294967296
 g:s.g<4294967296
 h:s.h<4294967296
theorem j2q(a b:Nat):addN a b<4294967296:=Nat.mod_lt _ Xd
theorem rnd_ok{s:S8}(h:s.Ok)(k w:Nat):(roundN k w s).Ok:=⟨j2q _ _,h.a,h.b,h.c,j2q _ _,h.e,h.f,h.g⟩
theorem round_eq{s:S8}(h:s.Ok)(k w:Nat):roundN k w s=⟨naF (oneF s.h s.e s.f s.g k w) s.a s.b s.c,s.a,s.b,s.c,neF s.d (oneF s.h s.e s.f s.g k w),s.e,s.f,s.g⟩:=by
 have e1:addN (addN (addN (addN s.h (xorN (xorN (rotN s.e 6) (rotN s.e 11)) (rotN s.e 25))) (xorN (andN s.e s.f) (andN (notN s.e) s.g))) k) w=oneF s.h s.e s.f s.g k w%4294967296:=by
  rw[sg_eq h.e Xd Xd Xd,ch_eq h.e h.f h.g];unfold oneF;generalize sgF _ _ _ _=A;generalize ch3 _ _ _=B;show((((s.h+A)%4294967296+B)%4294967296+k)%4294967296+w)%4294967296=(s.h+A+B+k+w)%4294967296;omega
 unfold roundN;simp only[e1];rw[sg_eq h.a Xd Xd Xd,ma_eq h.a h.b h.c];generalize oneF _ _ _ _ _ _=O;unfold naF neF;generalize sgF _ _ _ _=A;generalize ma3 _ _ _=B
 have q1:addN (O%4294967296) (addN A B)=Nat.mod (Nat.add (Nat.add O A) B) 4294967296:=by
  show(O%4294967296+(A+B)%4294967296)%4294967296=(O+A+B)%4294967296;omega
 have q2:addN s.d (O%4294967296)=Nat.mod (Nat.add s.d O) 4294967296:=by
  show(s.d+O%4294967296)%4294967296=(s.d+O)%4294967296;omega
 rw[q1,q2]
noncomputable def goF(ks:List Nat):Nat->Nat->Nat->Nat->Nat->Nat->Nat->Nat->Nat->Nat->Nat->Nat->Nat->Nat->Nat->Nat->Nat->Nat->Nat->Nat->Nat->Nat->Nat->Nat->S8:=
 List.rec (λa b c d e f g h _ _ _ _ _ _ _ _ _ _ _ _ _ _ _ _=>⟨a,b,c,d,e,f,g,h⟩)
  (λk _ ih a b c d e f g h w0 w1 w2 w3 w4 w5 w6 w7 w8 w9 w10 w11 w12 w13 w14 w15=>
   fz (oneF h e f g k w0) λone=>fz (naF one a b c) λna=>fz (neF d one) λne=>fz (nwF w0 w1 w9 w14) λnw=>
    ih na a b c ne e f g w1 w2 w3 w4 w5 w6 w7 w8 w9 w10 w11 w12 w13 w14 w15 nw) ks
theorem goF_cons(k:Nat)(ks:List Nat)(a b c d e f g h w0 w1 w2 w3 w4 w5 w6 w7 w8 w9 w10 w11 w12 w13 w14 w15:Nat):
  goF (k::ks) a b c d e f g h w0 w1 w2 w3 w4 w5 w6 w7 w8 w9 w10 w11 w12 w13 w14 w15=
   goF ks (naF (oneF h e f g k w0) a b c) a b c (neF d (oneF h e f g k w0)) e f g w1 w2 w3 w4 w5 w6 w7 w8 w9 w10 w11 w12 w13 w14 w15 (nwF w0 w1 w9 w14):=by
 unfold goF;simp only[fz_eq]
noncomputable def wS(bs:Nat->Nat)(i:Nat):Nat:=(yjq bs (i+1)).getD i 0
theorem v0q(bs:Nat->Nat)(i:Nat):wS bs i=vhq bs (yjq bs i):=by
 unfold wS;rw[yjq,List.getD_eq_getElem?_getD,List.getElem?_append_right (by rw[yJq];exact Nat.le_refl _),yJq,Nat.sub_self];rfl
theorem j6q(bs:Nat->Nat):∀(t i:Nat),i<t->(yjq bs t).getD i 0=wS bs i
 |0,_,h=>by omega
 |t+1,i,h=>by
  rw[yjq,List.getD_eq_getElem?_getD];by_cases e:i<t
  ·rw[List.getElem?_append_left (by rw[yJq];exact e),<-List.getD_eq_getElem?_getD];exact j6q bs t i e
  ·obtain rfl:i=t:=by omega
   rw[List.getElem?_append_right (by rw[yJq];exact Nat.le_refl _),yJq,Nat.sub_self,v0q];rfl
theorem wS_lt(bs:Nat->Nat)(i:Nat)(hb:∀i,bs i<256):wS bs i<4294967296:=by
 rw[v0q];unfold vhq;split
 ·unfold wordN orN;have m:∀a,a%4294967296<4294967296:=λa=>Nat.mod_lt _ Xd
  rw[p32] at*
  exact Nat.or_lt_two_pow (m _) (m _)
 ·exact j2q _ _
theorem nw_sum(X A Y B:Nat):addN (addN (addN X A) Y) B=Nat.mod (Nat.add (Nat.add (Nat.add X A) Y) B) 4294967296:=by
 show(((X+A)%4294967296+Y)%4294967296+B)%4294967296=(X+A+Y+B)%4294967296;omega
section
attribute [local irreducible] wS
theorem wS_late(bs:Nat->Nat)(hb:∀i,bs i<256)(t:Nat):wS bs (t+16)=nwF (wS bs t) (wS bs (t+1)) (wS bs (t+9)) (wS bs (t+14)):=by
 rw[v0q];unfold vhq
 have h1:Nat.blt (yjq bs (t+16)).length 16=false:=by
  rw[yJq];cases hq:Nat.blt (t+16) 16 with
  | true => have:t+16<16:=by simpa[Nat.blt_eq] using hq
            omega
  |false=>rfl
 rw[h1];simp only[yJq];rw[show t+16-16=t by omega,show t+16-15=t+1 by omega,show t+16-7=t+9 by omega,show t+16-2=t+14 by omega];rw[j6q bs _ t Xa,j6q bs _ (t+1) Xa,j6q bs _ (t+9) Xa,j6q bs _ (t+14) Xa];rw[s3_eq (wS_lt bs _ hb) Xd Xd Xd,s3_eq (wS_lt bs _ hb) Xd Xd Xd];exact nw_sum _ _ _ _
end
theorem rounds_ok{s:S8}(h:s.Ok)(ws:List Nat):∀t,(qYq ws s t).Ok
 |0=>h
 |t+1=>rnd_ok (rounds_ok h ws t) _ _
theorem go_eq(bs:Nat->Nat)(hb:∀i,bs i<256){s:S8}(h:s.Ok):∀(n t:Nat),t+n=64->∀v,qYq (yjq bs 64) s t=v->
  goF (kW.drop t) v.a v.b v.c v.d v.e v.f v.g v.h (wS bs t) (wS bs (t+1)) (wS bs (t+2)) (wS bs (t+3)) (wS bs (t+4)) (wS bs (t+5)) (wS bs (t+6)) (wS bs (t+7)) (wS bs (t+8)) (wS bs (t+9)) (wS bs (t+10)) (wS bs (t+11)) (wS bs (t+12)) (wS bs (t+13)) (wS bs (t+14)) (wS bs (t+15))=qYq (yjq bs 64) s 64
 |0,t,ht,v,hv=>by
  obtain rfl:t=64:=by omega
  rw[hv,show kW.drop 64=[] from rfl];cases v;rfl
 |n+1,t,ht,v,hv=>by
  have hlt:t<kW.length:=by show t<64;omega
  have ok:v.Ok:=hv▸rounds_ok h _ t
  rw[List.drop_eq_getElem_cons hlt,goF_cons]
  have hn:qYq (yjq bs 64) s (t+1)=⟨naF (oneF v.h v.e v.f v.g kW[t] (wS bs t)) v.a v.b v.c,v.a,v.b,v.c,neF v.d (oneF v.h v.e v.f v.g kW[t] (wS bs t)),v.e,v.f,v.g⟩:=by
   rw[qYq,hv,j6q bs 64 t Xa,round_eq ok,List.getD_eq_getElem?_getD,List.getElem?_eq_getElem hlt];rfl
  have:=go_eq bs hb h n (t+1) Xa _ hn;rw[<-this,wS_late bs hb]
noncomputable def hdF(l:List Nat):Nat:=List.rec 0 (λb _ _=>b) l
noncomputable def tlF(l:List Nat):List Nat:=List.rec [] (λ_ l _=>l) l
noncomputable def w4F{α:Type}(l:List Nat)(c:Nat->List Nat->α):α:=
 fz (Nat.lor (Nat.lor (Nat.lor (Nat.shiftLeft (hdF l) 24) (Nat.shiftLeft (hdF (tlF l)) 16)) (Nat.shiftLeft (hdF (tlF (tlF l))) 8)) (hdF (tlF (tlF (tlF l))))) λw=>c w (tlF (tlF (tlF (tlF l))))
noncomputable def opS{α:Type}(s:S8)(k:Nat->Nat->Nat->Nat->Nat->Nat->Nat->Nat->α):α:=S8.rec k s
theorem opS_eq{α:Type}(s:S8)(k:Nat->Nat->Nat->Nat->Nat->Nat->Nat->Nat->α):opS s k=k s.a s.b s.c s.d s.e s.f s.g s.h:=rfl
noncomputable def knq{α:Type}(s:S8)(l:List Nat)(k:S8->List Nat->α):α:=
 w4F l λw0 l=>w4F l λw1 l=>w4F l λw2 l=>w4F l λw3 l=>w4F l λw4 l=>w4F l λw5 l=>w4F l λw6 l=>w4F l λw7 l=>
 w4F l λw8 l=>w4F l λw9 l=>w4F l λw10 l=>w4F l λw11 l=>w4F l λw12 l=>w4F l λw13 l=>w4F l λw14 l=>w4F l λw15 l=>
 opS s λa b c d e f g h=>opS (goF kW a b c d e f g h w0 w1 w2 w3 w4 w5 w6 w7 w8 w9 w10 w11 w12 w13 w14 w15) λa' b' c' d' e' f' g' h'=>
  k ⟨Nat.mod (Nat.add a a') 4294967296,Nat.mod (Nat.add b b') 4294967296,Nat.mod (Nat.add c c') 4294967296,Nat.mod (Nat.add d d') 4294967296,Nat.mod (Nat.add e e') 4294967296,Nat.mod (Nat.add f f') 4294967296,Nat.mod (Nat.add g g') 4294967296,Nat.mod (Nat.add h h') 4294967296⟩ l
theorem hd_at:∀(l:List Nat),hdF l=atL l 0
 |[]=>rfl
 |_::_=>rfl
theorem tl_drop:∀(l:List Nat),tlF l=l.drop 1
 |[]=>rfl
 |_::_=>rfl
theorem at_drop(l:List Nat)(i j:Nat):atL (l.drop i) j=atL l (i+j):=by
 simp[atL,List.getD_eq_getElem?_getD,List.getElem?_drop]
theorem word_eq{b0 b1 b2 b3:Nat}(h0:b0<256)(h1:b1<256)(h2:b2<256)(h3:b3<256):wordN b0 b1 b2 b3=Nat.lor (Nat.lor (Nat.lor (Nat.shiftLeft b0 24) (Nat.shiftLeft b1 16)) (Nat.shiftLeft b2 8)) b3:=by
 have s:∀b n,b<256->n<=24->Nat.shiftLeft b n<4294967296:=λb n hb hn=>by
  show b<<<n<4294967296;rw[Nat.shiftLeft_eq];have:2^n<=2^24:=Nat.pow_le_pow_right Xd hn;have:=Nat.mul_le_mul (show b<=255 by omega) this;omega
 have e:∀b n,b<256->n<=24->shlN (b%4294967296) n=Nat.shiftLeft b n:=λb n hb hn=>by
  unfold shlN;rw[Nat.min_eq_left Xa,Nat.mod_eq_of_lt (show b<4294967296 by omega),Nat.mod_eq_of_lt (s b n hb hn)]
 have o:∀a b,a<4294967296->b<4294967296->orN a b=Nat.lor a b:=λa b ha hb=>by
  unfold orN;rw[Nat.mod_eq_of_lt ha,Nat.mod_eq_of_lt hb]
 have ol:∀a b,a<4294967296->b<4294967296->Nat.lor a b<4294967296:=λa b ha hb=>by
  rw[p32] at*
  exact Nat.or_lt_two_pow ha hb
 unfold wordN;rw[e b0 24 h0 Xd,e b1 16 h1 Xd,e b2 8 h2 Xd,Nat.mod_eq_of_lt (show b3<4294967296 by omega)];rw[o _ _ (s b0 24 h0 Xd) (s b1 16 h1 Xd),o _ _ (ol _ _ (s b0 24 h0 Xd) (s b1 16 h1 Xd)) (s b2 8 h2 Xd),o _ _ (ol _ _ (ol _ _ (s b0 24 h0 Xd) (s b1 16 h1 Xd)) (s b2 8 h2 Xd)) Xa]
theorem wS_early(bs:Nat->Nat)(hb:∀i,bs i<256)(t:Nat)(ht:t<16):wS bs t=Nat.lor (Nat.lor (Nat.lor (Nat.shiftLeft (bs (4*t)) 24) (Nat.shiftLeft (bs (4*t+1)) 16)) (Nat.shiftLeft (bs (4*t+2)) 8)) (bs (4*t+3)):=by
 rw[v0q];unfold vhq;have h1:Nat.blt (yjq bs t).length 16=true:=by rw[yJq];simpa[Nat.blt_eq] using ht
 rw[h1];simp only[yJq];exact word_eq (hb _) (hb _) (hb _) (hb _)
noncomputable def qtq(l:List Nat):Prop:=∀b∈l,b<256
theorem small_at{l:List Nat}(h:qtq l)(i:Nat):atL l i<256:=by
 unfold atL;rw[List.getD_eq_getElem?_getD];cases hq:l[i]? with
 |none=>show(0:Nat)<256;decide
 |some b=>exact h b (List.mem_of_getElem? hq)
theorem kgq{α:Type}{l:List Nat}(h:qtq l)(t:Nat)(ht:t<16)(c:Nat->List Nat->α):w4F (l.drop (4*t)) c=c (wS (atL l) t) (l.drop (4*(t+1))):=by
 unfold w4F;rw[fz_eq];simp only[hd_at,tl_drop,at_drop,List.drop_drop];rw[wS_early (atL l) (small_at h) t ht];rfl
theorem block_eq{α:Type}{s:S8}(hs:s.Ok){l:List Nat}(h:qtq l)(k:S8->List Nat->α):knq s l k=k (qTq (atL l) s) (l.drop 64):=by
 have key:goF kW s.a s.b s.c s.d s.e s.f s.g s.h (wS (atL l) 0) (wS (atL l) 1) (wS (atL l) 2) (wS (atL l) 3) (wS (atL l) 4) (wS (atL l) 5) (wS (atL l) 6) (wS (atL l) 7) (wS (atL l) 8) (wS (atL l) 9) (wS (atL l) 10) (wS (atL l) 11) (wS (atL l) 12) (wS (atL l) 13) (wS (atL l) 14) (wS (atL l) 15)=qYq (yjq (atL l) 64) s 64:=go_eq (atL l) (small_at h) hs 64 0 rfl s (by rw[qYq]);have e0:knq s l k=knq s (l.drop (4*0)) k:=rfl;rw[e0];unfold knq;rw[kgq h 0 Xd,kgq h 1 Xd,kgq h 2 Xd,kgq h 3 Xd,kgq h 4 Xd,kgq h 5 Xd,kgq h 6 Xd,kgq h 7 Xd,kgq h 8 Xd,kgq h 9 Xd,kgq h 10 Xd,kgq h 11 Xd,kgq h 12 Xd,kgq h 13 Xd,kgq h 14 Xd,kgq h 15 Xd];rw[opS_eq,key,opS_eq];unfold qTq;generalize qYq (yjq (atL l) 64) s 64=X;rfl
theorem block_ok(s:S8)(bs:Nat->Nat):(qTq bs s).Ok:=⟨j2q _ _,j2q _ _,j2q _ _,j2q _ _,j2q _ _,j2q _ _,j2q _ _,j2q _ _⟩
noncomputable def lenF(l:List Nat):Nat:=List.rec 0 (λ_ _ n=>Nat.succ n) l
theorem xCq:∀l:List Nat,lenF l=l.length
 |[]=>rfl
 |_::l=>congrArg Nat.succ (xCq l)
theorem vqq{l:List Nat}(h:qtq l)(n:Nat):qtq (l.drop n):=λb hb=>h b (List.mem_of_mem_drop hb)
theorem kVq{a b:List Nat}(ha:qtq a)(hb:qtq b):qtq (a++b):=λx hx=>by
 rcases List.mem_append.1 hx with h|h
 ·exact ha x h
 ·exact hb x h
noncomputable def eatF(n:Nat):S8->List Nat->S8×List Nat:=Nat.rec (λs r=>(s,r)) (λ_ ih s r=>match Nat.ble 64 (lenF r) with
 |true=>knq s r ih
 |false=>(s,r)) n
theorem eatF_eq:∀(n:Nat) {s:S8} {r:List Nat},s.Ok->qtq r->eatF n s r=eat n s r/\(eat n s r).1.Ok/\qtq (eat n s r).2
 |0,s,r,hs,hr=>⟨rfl,hs,hr⟩
 |n+1,s,r,hs,hr=>by
  have e:eatF (n+1) s r=match Nat.ble 64 (lenF r) with
   |true=>knq s r (eatF n)
   |false=>(s,r):=rfl
  rw[e,xCq];unfold eat;cases Nat.ble 64 r.length with
  |true=>
   show knq s r (eatF n)=eat n (qTq (atL r) s) (r.drop 64)/\_;rw[block_eq hs hr];exact eatF_eq n (block_ok _ _) (vqq hr 64)
  |false=>exact⟨rfl,hs,hr⟩
noncomputable def absF(a:S8×List Nat)(p:List Nat):S8×List Nat:=eatF (lenF (a.2++p)) a.1 (a.2++p)
theorem absF_eq{a:S8×List Nat}{p:List Nat}(ha:a.1.Ok)(h2:qtq a.2)(hp:qtq p):absF a p=qUq a p/\(qUq a p).1.Ok/\qtq (qUq a p).2:=by
 unfold absF qUq eats;rw[xCq];exact eatF_eq _ ha (kVq h2 hp)
noncomputable def allF(n:Nat):S8->List Nat->S8:=Nat.rec (λs _=>s) (λ_ ih s r=>match Nat.ble 1 (lenF r) with
 |true=>knq s r ih
 |false=>s) n
theorem allF_eq:∀(n:Nat) {s:S8} {r:List Nat},s.Ok->qtq r->allF n s r=qxq n s r
 |0,s,r,_,_=>rfl
 |n+1,s,r,hs,hr=>by
  have e:allF (n+1) s r=match Nat.ble 1 (lenF r) with
   |true=>knq s r (allF n)
   |false=>s:=rfl
  rw[e,xCq];unfold qxq;cases Nat.ble 1 r.length with
  |true=>
   show knq s r (allF n)=qxq n (qTq (atL r) s) (r.drop 64);rw[block_eq hs hr];exact allF_eq n (block_ok _ _) (vqq hr 64)
  |false=>rfl
noncomputable def padF(r:List Nat):List Nat:=r++List.replicate (Nat.mod (Nat.sub 120 (Nat.mod (lenF r) 64)) 64) 0
theorem pad_eq:∀(n:Nat) (r:List Nat),(120-r.length%64)%64<=n->padZ n r=r++List.replicate ((120-r.length%64)%64) 0
 |0,r,h=>by
  rw[Nat.le_zero.1 h];simp[padZ]
 |n+1,r,h=>by
  unfold padZ;cases hb:Nat.beq (r.length%64) 56 with
  |true=>
   have:=Nat.eq_of_beq_eq_true hb;rw[this];simp
  |false=>
   have hne:r.length%64≠56:=λe=>by rw[e] at hb;cases hb
   show padZ n (r++[0])=_;have hl:(r++[0]).length=r.length+1:=by simp
   rw[pad_eq n (r++[0]) (by rw[hl];omega),hl,List.append_assoc];have:(120-r.length%64)%64=(120-(r.length+1)%64)%64+1:=by omega
   rw[this];rfl
theorem padF_eq(r:List Nat):padF r=padZ 64 r:=by
 rw[pad_eq 64 r Xa];unfold padF;rw[xCq];rfl
noncomputable def digF(s:S8):List Nat:=opS s λa b c d e f g h=>
 [Nat.mod (Nat.shiftRight a 24) 256,Nat.mod (Nat.shiftRight a 16) 256,Nat.mod (Nat.shiftRight a 8) 256,Nat.mod (Nat.shiftRight a 0) 256,
  Nat.mod (Nat.shiftRight b 24) 256,Nat.mod (Nat.shiftRight b 16) 256,Nat.mod (Nat.shiftRight b 8) 256,Nat.mod (Nat.shiftRight b 0) 256,
  Nat.mod (Nat.shiftRight c 24) 256,Nat.mod (Nat.shiftRight c 16) 256,Nat.mod (Nat.shiftRight c 8) 256,Nat.mod (Nat.shiftRight c 0) 256,
  Nat.mod (Nat.shiftRight d 24) 256,Nat.mod (Nat.shiftRight d 16) 256,Nat.mod (Nat.shiftRight d 8) 256,Nat.mod (Nat.shiftRight d 0) 256,
  Nat.mod (Nat.shiftRight e 24) 256,Nat.mod (Nat.shiftRight e 16) 256,Nat.mod (Nat.shiftRight e 8) 256,Nat.mod (Nat.shiftRight e 0) 256,
  Nat.mod (Nat.shiftRight f 24) 256,Nat.mod (Nat.shiftRight f 16) 256,Nat.mod (Nat.shiftRight f 8) 256,Nat.mod (Nat.shiftRight f 0) 256,
  Nat.mod (Nat.shiftRight g 24) 256,Nat.mod (Nat.shiftRight g 16) 256,Nat.mod (Nat.shiftRight g 8) 256,Nat.mod (Nat.shiftRight g 0) 256,
  Nat.mod (Nat.shiftRight h 24) 256,Nat.mod (Nat.shiftRight h 16) 256,Nat.mod (Nat.shiftRight h 8) 256,Nat.mod (Nat.shiftRight h 0) 256]
theorem digF_eq(s:S8):digF s=digN s:=rfl
noncomputable def endF(n:Nat)(s:S8)(r:List Nat):List Nat:=digF (allF (lenF (padF (r++[128])++len8 n)) s (padF (r++[128])++len8 n))
noncomputable def shaF(ps:List (List Nat)):List Nat:=Prod.rec (λs r=>endF (ysq ps) s r) (ps.foldl absF (s0,[]))
theorem small_len8(n:Nat):qtq (len8 n):=λb hb=>by
 unfold len8 at hb;obtain⟨i,_,rfl⟩:=List.mem_map.1 hb;exact Nat.mod_lt _ Xd
theorem small_pad{r:List Nat}(h:qtq r):qtq (padF r):=kVq h λb hb=>by
 rw[(List.mem_replicate.1 hb).2];decide
theorem fold_eq:∀(ps:List (List Nat)) (a:S8×List Nat),a.1.Ok->qtq a.2->(∀p∈ps,qtq p) ->ps.foldl absF a=ps.foldl qUq a/\(ps.foldl qUq a).1.Ok/\qtq (ps.foldl qUq a).2
 |[],a,h1,h2,_=>⟨rfl,h1,h2⟩
 |p::ps,a,h1,h2,h3=>by
  obtain⟨e,k1,k2⟩:=absF_eq h1 h2 (h3 p (List.mem_cons_self ..));simp only[List.foldl_cons,e];exact fold_eq ps _ k1 k2 λq hq=>h3 q (List.mem_cons_of_mem _ hq)
theorem sha_eq{ps:List (List Nat)}(h:∀p∈ps,qtq p):shaF ps=shaN ps:=by
 obtain⟨e,k1,k2⟩:=fold_eq ps (s0,[]) ⟨by decide,by decide,by decide,by decide,by decide,by decide,by decide,by decide⟩ (λb hb=>by cases hb) h;have e1:shaF ps=endF (ysq ps) (ps.foldl absF (s0,[])).1 (ps.foldl absF (s0,[])).2:=rfl;rw[e1,e];unfold endF shaN
 have h1:qtq ((ps.foldl qUq (s0,[])).2++[128]):=kVq k2 λb hb=>by
  rw[List.mem_singleton.1 hb];decide
 rw[allF_eq _ k1 (kVq (small_pad h1) (small_len8 _)),xCq,padF_eq,digF_eq]
mutual
/-- all blocks in it lie below n -/
noncomputable def ltB(n:Nat):V->Bool
 |.ptr b _=>decide (b<n)
 |.sl b _ _ _ _ _=>decide (b<n)
 |.map b=>decide (b<n)
 |.yield b=>decide (b<n)
 |.fn _ a c=>ltL n a&&ltL n c
 |.iface _ v=>ltB n v
 |.agg _ l=>ltL n l
 |.arr _ _ l=>ltL n l
 |.tup l=>ltL n l
 |.undef=>true
 |.bool _=>true
 |.int _ _=>true
 |.str _=>true
 |.nilp=>true
 |.nils=>true
 |.nilm=>true
 |.nilf=>true
 |.nili=>true
noncomputable def ltL(n:Nat):List V->Bool
 |[]=>true
 |v::l=>ltB n v&&ltL n l
end
mutual
theorem in_lt{D:Nat->Nat->Prop}{n:Nat}:∀{v:V},InD D v->ltB n v=true->InD (λi m=>D i m/\i<n) v
 |.ptr _ _,hi,h=>⟨hi,of_decide_eq_true h⟩
 |.sl _ _ _ _ _ _,hi,h=>⟨hi.1,hi.2.1,hi.2.2,of_decide_eq_true h⟩
 |.map _,hi,h=>⟨hi,of_decide_eq_true h⟩
 |.yield _,hi,h=>⟨hi,of_decide_eq_true h⟩
 |.fn _ a c,hi,h=>by
  simp only[ltB,Bool.and_eq_true] at h;exact⟨uFq (l:=a) hi.1 h.1,uFq (l:=c) hi.2 h.2⟩
 |.iface _ v,hi,h=>in_lt (v:=v) hi Xm
 |.agg _ l,hi,h=>uFq (l:=l) hi Xm
 |.arr _ _ l,hi,h=>uFq (l:=l) hi Xm
 |.tup l,hi,h=>uFq (l:=l) hi Xm
 |.undef,_,_=>trivial
 |.bool _,_,_=>trivial
 |.int _ _,_,_=>trivial
 |.str _,_,_=>trivial
 |.nilp,_,_=>trivial
 |.nils,_,_=>trivial
 |.nilm,_,_=>trivial
 |.nilf,_,_=>trivial
 |.nili,_,_=>trivial
theorem uFq{D:Nat->Nat->Prop}{n:Nat}:∀{l:List V},InDL D l->ltL n l=true->InDL (λi m=>D i m/\i<n) l
 |[],_,_=>trivial
 |v::l,hi,h=>by
  simp only[ltL,Bool.and_eq_true] at h;exact⟨in_lt hi.1 h.1,uFq hi.2 h.2⟩
end
mutual
noncomputable def qDq:W->Bool
 |.bool _=>true
 |.int _ _=>true
 |.str _=>true
 |.nilp=>true
 |.nils=>true
 |.nilm=>true
 |.nilf=>true
 |.nili=>true
 |.agg _ l=>uyq l
 |.arr _ _ l=>uyq l
 |_=>false
noncomputable def uyq:List W->Bool
 |[]=>true
 |w::l=>qDq w&&uyq l
end
mutual
theorem rs_uniq{Γ Γ':Ctx}:∀{w:W} {s s':List V},qDq w=true->RS Γ w s->RS Γ' w s'->s=s'
 |.undef,_,_,h,_,_=>by simp[qDq] at h
 |.bool _,_,_,_,h,k=>by simp only[RS] at h k;rw[h,k]
 |.int _ _,_,_,_,h,k=>by simp only[RS] at h k;rw[h,k]
 |.str _,_,_,_,h,k=>by simp only[RS] at h k;rw[h,k]
 |.nilp,_,_,_,h,k=>by simp only[RS] at h k;rw[h,k]
 |.ptr _ _,_,_,h,_,_=>by simp[qDq] at h
 |.nils,_,_,_,h,k=>by simp only[RS] at h k;rw[h,k]
 |.sl _ _ _ _ _ _,_,_,h,_,_=>by simp[qDq] at h
 |.fz _ _ _,_,_,h,_,_=>by simp[qDq] at h
 |.fel _,_,_,h,_,_=>by simp[qDq] at h
 |.nilm,_,_,_,h,k=>by simp only[RS] at h k;rw[h,k]
 |.fn _ _ _,_,_,h,_,_=>by simp[qDq] at h
 |.yield _,_,_,h,_,_=>by simp[qDq] at h
 |.nilf,_,_,_,h,k=>by simp only[RS] at h k;rw[h,k]
 |.iface _ _,_,_,h,_,_=>by simp[qDq] at h
 |.nili,_,_,_,h,k=>by simp only[RS] at h k;rw[h,k]
 |.agg n l,_,_,hp,h,k=>by simp only[qDq] at hp;simp only[RS] at h k;exact Zbq hp h.2 k.2
 |.arr n e l,_,_,hp,h,k=>by simp only[qDq] at hp;simp only[RS] at h k;exact Zbq hp h.2.2 k.2.2
 |.tup _,_,_,h,_,_=>by simp[qDq] at h
theorem Zbq{Γ Γ':Ctx}:∀{l:List W} {s s':List V},uyq l=true->RSL Γ l s->RSL Γ' l s'->s=s'
 |[],_,_,_,h,k=>by simp only[RSL] at h k;rw[h,k]
 |w::l,s,s',hp,h,k=>by
  simp only[uyq,Bool.and_eq_true] at hp;simp only[RSL] at h k;have h1:=rs_uniq hp.1 h.1 k.1;have h2:=Zbq hp.2 h.2 k.2;rw[<-List.take_append_drop w.size s,<-List.take_append_drop w.size s',h1,h2]
end
theorem conc_uniq{Γ Γ':Ctx}{w:W}{v v':V}(hw:qDq w=true)(h:RV Γ w v)(k:RV Γ' w v')(ρ:Env):conc ρ v=conc ρ v':=by
 have e:=rs_uniq hw h.2 k.2;cases hv:v.isAgg with
 |true=>
  have hv':v'.isAgg=true:=by rw[<-k.1,h.1,hv]
  rw[yRq hv,yRq hv',yEq,yEq,e]
 |false=>
  have hv':v'.isAgg=false:=by rw[<-k.1,h.1,hv]
  rw[qPq hv,qPq hv'] at e;cases e;rfl
noncomputable def keepB(n:Nat):Option Blk->Option Blk
 |some (.cells ty v)=>if ltB n v then some (.cells ty v) else none
 |some (.ro v)=>if ltB n v then some (.ro v) else none
 |_=>none
theorem keepB_some{n:Nat}{o:Option Blk}{b:Blk}(h:keepB n o=some b):o=some b/\∀D,InB D b->InB (λi m=>D i m/\i<n) b:=by
 unfold keepB at h;split at h
 ·split at h
  ·rename_i hl;cases h;exact⟨rfl,λD hi=>in_lt hi hl⟩
  ·cases h
 ·split at h
  ·rename_i hl;cases h;exact⟨rfl,λD hi=>in_lt hi hl⟩
  ·cases h
 ·cases h
noncomputable def SeenK(h:Heap):Nat->Prop:=λb=>b<h.next/\∃v,h.val b=some v/\ltB h.next v=true
section
variable {P:Program} {C:Cfg} {G:Nat->Option W}
structure ReadsK(C:Cfg)(G:Nat->Option W)(vs:List V)(h:Heap)(ws:List W):Prop where
 args:RVL ⟨0,λi=>i,SeenK h,h⟩ ws vs
 lt:ltL h.next vs=true
 glt:∀g,C.glob g=true->g<h.next
 gl:GRel C G ⟨0,λi=>i,SeenK h,h⟩
theorem known_spec(hmx:P.follows .mixedOrders=true)(hC:CfgOK P C)(hF:khq P C)(hK:yQq P C){f:FuncId}{k:List V->Heap->Option (V×Heap)}
  (hk:∀vs h v h',k vs h=some (v,h') ->h'=h/\bare v=true/\∃ws w,ReadsK C G vs h ws/\qDq w=true/\vmq C G f 0 ws [] (λw' _ _=>w'=w)/\∃Γ,RV Γ w v):qCq P C f k:=λvs h v h' he=>by
 obtain⟨rfl,hbv,ws,w,hrd,hpl,sp,Γ2,hrv⟩:=hk vs h v h' he;obtain⟨t,ht⟩:=Tr.of (λi=>keepB h'.next (h'.get i)) h'.next;let hs:Heap:=⟨h'.next,h'.next,t⟩
 have get_lt:∀i,i<h'.next->hs.get i=keepB h'.next (h'.get i):=λi hi=>by show t.get i=_;rw[ht,if_pos hi]
 have get_ge:∀i,h'.next<=i->hs.get i=none:=λi hi=>by show t.get i=_;rw[ht,if_neg Xa]
 have get_some:∀{i b},hs.get i=some b->i<h'.next/\h'.get i=some b/\∀D,InB D b->InB (λi m=>D i m/\i<h'.next) b:=λ{i b} hb=>by
  rcases Nat.lt_or_ge i h'.next with hi|hi
  ·rw[get_lt i hi] at hb;exact⟨hi,keepB_some hb⟩
  ·rw[get_ge i hi] at hb;cases hb
 have val_of:∀{b v},b<h'.next->h'.val b=some v->ltB h'.next v=true->hs.val b=some v:=λ{b v} hb h1 h2=>by
  simp only[Heap.val,get_lt b hb] at h1⊢;cases hg:h'.get b with
  |none=>rw[hg] at h1;cases h1
  |some x=>
   rw[hg] at h1;cases x with
   |cells ty u=>cases h1;simp only[keepB,h2,if_true]
   |ro u=>cases h1;simp only[keepB,h2,if_true]
   |loop=>cases h1
   |dfr=>cases h1
   |map=>cases h1
   |siter=>cases h1
   |miter=>cases h1
 have val_lt:∀{b v},hs.val b=some v->b<h'.next:=λ{b v} h1=>by
  simp only[Heap.val] at h1;cases hg:hs.get b with
  |none=>rw[hg] at h1;cases h1
  |some x=>exact(get_some hg).1
 have le:∀nw σ,Ctx.Le ⟨nw,σ,SeenK h',h'⟩ ⟨nw,σ,λb=>∃v,hs.val b=some v,hs⟩:=λnw σ=>
  ⟨Nat.le_refl _,λ_ _=>rfl,λb hb=>by obtain⟨h1,u,h2,h3⟩:=hb;exact⟨u,val_of h1 h2 h3⟩,λb hb=>by
   obtain⟨h1,u,h2,h3⟩:=hb;show hs.val b=h'.val b;rw[val_of h1 h2 h3,h2]⟩
 have sat:SatH C G ⟨0,λi=>i,λb=>∃v,hs.val b=some v,hs⟩ [] (λ_=>False) Res.none:=
  ⟨get_ge,λ_ _ _ h=>by simp[hget] at h,λ_ _ _ _ h=>by simp[hget] at h,List.nodup_nil,λ_ _ h=>h,λ_ h=>h.elim,λc hc=>by obtain⟨u,hu⟩:=hc;exact val_lt hu,trivial,λg w h1 h2 nw σ=>(hrd.gl g w h1 h2 nw σ).mono (le nw σ)⟩
 obtain⟨n,v1,Γ1,X1,w1,hp1,R1,g1,g2,g3,g4,rfl,hq⟩:=sp Res.none _ (λ_=>False) vs rfl sat (RVL.mono (le _ _) hrd.args)
 have hw:h'.next<=Γ1.h.wmin:=g3.wmin h'.next (Nat.le_refl _) (Nat.le_refl _) λc hc=>by
  rcases hc with ⟨b,x,h1,_⟩|hc
  ·simp[hget] at h1
  ·exact hc.elim
 have rn:=(upq hmx hC hF hK n).self;have hn:h'.next<=Γ1.h.next:=g3.next;refine⟨Mono.refl _,rn.fnEnter _ _ _ _ _ g1,λs0 U D ρ w0 hU gl hin rel=>?_⟩;have up:∀{b},InB (λi m=>DD D ρ i m/\i<h'.next) b->InB (DD (λi=>D i/\i<h'.next) ρ) b:=λh=>h.mono λi m hi=>⟨⟨hi.1.1,hi.2⟩,hi.1.2⟩
 have relS:Rel s0 Γ1.h.next (λi=>D i/\i<h'.next) ρ hs w0:=by
  refine⟨λi hi=>.inl hi.2,get_ge,λi b hi hb=>rel.has i b hi.1 (get_some hb).2.1,λi b hi hb=>up ((get_some hb).2.2 _ (rel.clo i b hi.1 (get_some hb).2.1)),λi j b c hi hj hb hc=>rel.inj i j b c hi.1 hj.1 (get_some hb).2.1 (get_some hc).2.1,λi b hi hb=>rel.own i b hi.1 (get_some hb).2.1,λi j b c hi hj hb hc=>rel.old i j b c hi.1 hj.1 (get_some hb).2.1 (get_some hc).2.1,rel.base⟩
 have glS:GlobOK C (DD (λi=>D i/\i<h'.next) ρ) ρ:=λg hg=>by
  obtain⟨h1,h2⟩:=gl g hg;exact⟨⟨⟨h1.1,hrd.glt g hg⟩,h1.2⟩,h2⟩
 have hinS:InDL (DD (λi=>D i/\i<h'.next) ρ) vs:=InDL_iff.2 λv hv=>InD.mono' (λi m hi=>⟨⟨hi.1.1,hi.2⟩,hi.1.2⟩) v (InDL_iff.1 (uFq hin hrd.lt) v hv)
 refine(rn.fn _ _ _ _ _ g1 s0 Γ1.h.next _ ρ w0 (Nat.le_refl _) glS hinS relS).mono λe w'=>?_
 rintro⟨D',ρ',rfl,r',n',_⟩
 have same:∀c,c<w0.heap.size->w'.heap[c]? =w0.heap[c]? :=λc hc=>n'.frame c hc λi _ h2 h3=>by
  have h3:i<h'.next:=h3;omega
 have hval:conc ρ' v1=conc ρ v:=by
  subst hq;exact(conc_uniq hpl g4 hrv ρ').trans (conc_bare hbv ρ ρ')
 refine⟨D,ρ,by rw[hval],⟨rel.lt,rel.wf,λi b hi hb=>?_,rel.clo,rel.inj,rel.own,rel.old,r'.base⟩,⟨λ_ h=>h,λ_ h=>.inl h,λ_ _=>⟨rfl,rfl,rfl,rfl⟩,λc hc _=>same c hc,λi _ h1 h2=>by omega,n'.size,Nat.le_refl _,Nat.le_refl _,n'.os,n'.tape,n'.output⟩,xMq hbv⟩;obtain⟨o,q1,q2⟩:=rel.has i b hi hb;exact⟨o,by rw[same _ (Array.getElem?_eq_some_iff.1 q1).1];exact q1,q2⟩
end
noncomputable def u8V(n:Nat):V:=.int .u8 (.ofNat n)
noncomputable def u32V(n:Nat):V:=.int .u32 (.ofNat n)
noncomputable def cellsK(h:Heap)(b off n:Nat):Option (List V):=match Nat.blt b h.next,h.val b with
 |true,some bv=>match bv.isAgg&&ltB h.next bv&&Nat.ble (off+n) bv.size with
  |true=>some (((zhq bv).drop off).take n)
  |false=>none
 |_,_=>none
theorem u7q{h:Heap}{b off n:Nat}{s:List V}(hs:cellsK h b off n=some s):b<h.next/\SeenK h b/\s.length=n/\∃bv,h.val b=some bv/\bv.isAgg=true/\off+n<=bv.size/\s=((zhq bv).drop off).take n:=by
 unfold cellsK at hs;split at hs
 ·rename_i bv hb hv;split at hs
  ·rename_i hc;cases hs;simp only[Bool.and_eq_true] at hc;have h1:b<h.next:=by simpa using hb
   have h2:off+n<=bv.size:=Zb hc.2;refine⟨h1,⟨h1,bv,hv,hc.1.2⟩,?_,bv,hv,hc.1.1,h2,rfl⟩;rw[List.length_take,List.length_drop,yqq];omega
  ·cases hs
 ·cases hs
noncomputable def u8s:List V->Option (List Nat)
 |[]=>some []
 |.int .u8 (.ofNat n)::l=>match Nat.blt n 256,u8s l with
  |true,some ns=>some (n::ns)
  |_,_=>none
 |_=>none
theorem u8s_spec:∀{s:List V} {l:List Nat},u8s s=some l->s=l.map u8V/\qtq l
 |[],_,h=>by cases h;exact⟨rfl,λb hb=>by cases hb⟩
 |v::s,l,h=>by
  unfold u8s at h;split at h
  ·rename_i he;cases he
  ·rename_i n l' he;cases he;split at h
   ·rename_i ns h1 hn;cases h;obtain⟨e,k⟩:=u8s_spec hn;refine⟨by rw[e];rfl,λb hb=>?_⟩;rcases List.mem_cons.1 hb with rfl|hb
    ·simpa using h1
    ·exact k b hb
   ·cases h
  ·cases h
theorem RSL_bN(Γ:Ctx):∀l:List Nat,RSL Γ (bN l) (l.map u8V)
 |[]=>rfl
 |n::l=>ySq (a:=[u8V n]) (b:=l.map u8V) (x:=.int .u8 (.ofNat n)) rfl (RSL_bN Γ l)
theorem size_bN(l:List Nat):∀x∈bN l,x.size=1:=λx hx=>by
 obtain⟨n,_,rfl⟩:=List.mem_map.1 hx;rfl
noncomputable def partK(h:Heap):V->Option (List Nat)
 |.nils=>some []
 |.sl b _ off len 1 _=>match cellsK h b off len with
  |some s=>u8s s
  |none=>none
 |_=>none
theorem vxq{h:Heap}{v:V}{l:List Nat}(hk:partK h v=some l):RS ⟨0,λi=>i,SeenK h,h⟩ (k3q (l,false)) [v]/\qtq l:=by
 unfold partK at hk;split at hk
 ·cases hk;exact⟨.inl ⟨rfl,rfl⟩,λb hb=>by cases hb⟩
 ·rename_i b base off len lim;split at hk
  ·rename_i s hs;obtain⟨_,h2,h3,bv,h4,h5,h6,h7⟩:=u7q hs;obtain⟨e,ks⟩:=u8s_spec hk;refine⟨?_,ks⟩
   have hl:(bN l).length=len:=by
    rw[xlq,<-h3,e,List.length_map]
   refine .inr ⟨b,base,off,lim,bv,by rw[hl],λh=>(by cases h),h2,h4,h5,by rw[hl,Nat.mul_one];exact h6,size_bN l,?_⟩;rw[hl,Nat.mul_one,<-h7,e];exact RSL_bN _ l
  ·cases hk
 ·cases hk
noncomputable def partsK(h:Heap):List V->Option (List (List Nat))
 |[]=>some []
 |v::s=>match partK h v with
  |some l=>match partsK h s with
   |some ls=>some (l::ls)
   |none=>none
  |none=>none
noncomputable def vZq(ps:List (List Nat)):List (List Nat×Bool):=ps.map λl=>(l,false)
theorem uAq{h:Heap}:∀{s:List V} {ps:List (List Nat)},partsK h s=some ps->s.length=ps.length/\RSL ⟨0,λi=>i,SeenK h,h⟩ ((vZq ps).map k3q) s/\∀p∈ps,qtq p
 |[],_,hk=>by cases hk;exact⟨rfl,rfl,λp hp=>by cases hp⟩
 | v ::s,ps,hk=>by
  unfold partsK at hk;split at hk
  ·rename_i l hl;split at hk
   ·rename_i ls hls;cases hk;obtain⟨h1,h2,h3⟩:=uAq hls
    exact⟨congrArg (· +1) h1,ySq (a:=[v]) (b:=s) (vxq hl).1 h2,λp hp=>by
     rcases List.mem_cons.1 hp with rfl|hp
     ·exact(vxq hl).2
     ·exact h3 p hp⟩
   ·cases hk
  ·cases hk
noncomputable def argK(h:Heap):V->Option (List (List Nat))
 |.nils=>some []
 |.sl b _ off len 1 _=>match cellsK h b off len with
  |some s=>partsK h s
  |none=>none
 |_=>none
theorem size_parts(ps:List (List Nat×Bool)):∀x∈ps.map k3q,x.size=1:=λx hx=>by
 obtain⟨n,_,rfl⟩:=List.mem_map.1 hx;rfl
theorem argK_spec{h:Heap}{v:V}{ps:List (List Nat)}(hk:argK h v=some ps):RV ⟨0,λi=>i,SeenK h,h⟩ (.fz ((vZq ps).map k3q) 1 false) v/\ltB h.next v=true/\∀p∈ps,qtq p:=by
 unfold argK at hk;split at hk
 ·cases hk;exact⟨⟨rfl,.inl ⟨rfl,rfl⟩⟩,rfl,λp hp=>by cases hp⟩
 ·rename_i b base off len lim;split at hk
  ·rename_i s hs;obtain⟨h1,h2,h3,bv,h4,h5,h6,h7⟩:=u7q hs;obtain⟨g1,g2,g3⟩:=uAq hk
   have hl:((vZq ps).map k3q).length=len:=by
    rw[List.length_map,vZq,List.length_map,<-g1,h3]
   refine⟨⟨rfl,.inr ⟨b,base,off,lim,bv,by rw[hl];rfl,λh=>(by cases h),h2,h4,h5,by rw[hl,Nat.mul_one];exact h6,size_parts _,?_⟩⟩,by simpa[ltB] using h1,g3⟩;rw[hl,Nat.mul_one,<-h7];exact g2
  ·cases hk
 ·cases hk
noncomputable def eqK:List V->List Nat->Bool
 |[],[]=>true
 |.int .u32 (.ofNat n)::l,m::ms=>match Nat.beq n m with
  |true=>eqK l ms
  |false=>false
 |_,_=>false
theorem eqK_spec:∀{l:List V} {ms:List Nat},eqK l ms=true->l=ms.map u32V
 |[],[],_=>rfl
 |[],_::_,h=>by simp[eqK] at h
 |v::l,ms,h=>by
  unfold eqK at h;split at h
  ·simp_all
  ·rename_i n l' m ms' e;cases e;split at h
   ·rename_i hb;obtain rfl:=Nat.eq_of_beq_eq_true hb;rw[eqK_spec h];rfl
   ·cases h
  ·cases h
noncomputable def globK(h:Heap):Bool:=match h.get 0 with
 |some (.ro (.arr 64 1 l))=>eqK l kW
 |_=>false
theorem RSL_wd(Γ:Ctx):∀l:List Nat,RSL Γ (l.map wd) (l.map u32V)
 |[]=>rfl
 |n::l=>ySq (a:=[u32V n]) (b:=l.map u32V) (x:=wd n) rfl (RSL_wd Γ l)
theorem globK_spec{h:Heap}(hn:Nat.ble 10 h.next=true)(hk:globK h=true):GRel cfg glK ⟨0,λi=>i,SeenK h,h⟩:=by
 intro g w _ h2 nw σ;have hn:=Zb hn;unfold glK at h2;split at h2
 ·cases h2;unfold globK at hk;split at hk
  ·rename_i l hg;obtain rfl:=eqK_spec hk;have hv:h.val 0=some (.arr 64 1 (kW.map u32V)):=by simp only[Heap.val,hg]
   refine RV.of_one ⟨0,0,_,rfl,⟨by omega,_,hv,by rfl⟩,hv,by exact Nat.le_refl _,λ_=>rfl,.inr rfl,?_⟩ Z Z;have e:((zhq (.arr 64 1 (kW.map u32V))).drop 0).take 64=kW.map u32V:=by kernel_rfl
   show RS _ _ (((zhq (.arr 64 1 (kW.map u32V))).drop 0).take 64);rw[e];exact⟨rfl,λx hx=>by obtain⟨n,_,rfl⟩:=List.mem_map.1 hx;rfl,RSL_wd _ kW⟩
  ·cases hk
 ·cases h2
theorem bare_u8:∀l:List Nat,vlq (l.map u8V)=true
 |[]=>rfl
 |n::l=>by simp only[List.map_cons,vlq,u8V,bare,Bool.true_and];exact bare_u8 l
theorem plain_bN:∀l:List Nat,uyq (bN l)=true
 |[]=>rfl
 |n::l=>by simp only[bN,List.map_cons,uyq,qDq,Bool.true_and];exact plain_bN l
theorem flat_u8:∀l:List Nat,zVq 1 (l.map u8V)=l.map u8V
 |[]=>rfl
 |n::l=>by
  simp only[List.map_cons,zVq,flat_u8 l];rfl
theorem shaN_len(ps:List (List Nat)):(shaN ps).length=32:=by simp[shaN,digN]
noncomputable def ofK:List V->Heap->Option (V×Heap)
 |[x],h=>match Nat.ble 10 h.next&&globK h,argK h x with
  |true,some ps=>match Nat.blt (ysq ps) 2147483648&&Nat.blt ps.length 2147483648 with
   |true=>some (.arr 32 1 ((shaF ps).map u8V),h)
   |false=>none
  |_,_=>none
 |_,_=>none
theorem withF_map(ps:List (List Nat)):(vZq ps).map (·.1)=ps:=by
 simp[vZq,Function.comp_def]
theorem ofOK:qCq Tryz.prog cfg 50 ofK:=known_spec (G:=glK) mixed cfgOK fnsOK (known_none λ_=>rfl) λvs h v h' he=>by
 unfold ofK at he;split at he
 ·rename_i x;split at he
  ·rename_i ps hg ha;split at he
   ·rename_i hb;cases he;simp only[Bool.and_eq_true] at hg hb;obtain⟨a1,a2,a3⟩:=argK_spec ha;rw[sha_eq a3];refine⟨rfl,bare_u8 _,[.fz ((vZq ps).map k3q) 1 false],.arr 32 1 (bN (shaN ps)),⟨RVL_cons.2 ⟨_,_,rfl,a1,RVL_nil.2 rfl⟩,by simp only[ltL,a2,Bool.and_self],λg hg'=>?_,globK_spec hg.1 hg.2⟩,plain_bN _,λR=>?_,⟨0,λi=>i,λ_=>False,h⟩,?_⟩
    ·have h1:Nat.ble (g+1) 10=true:=hg';have:=Zb h1;have:=Zb hg.1;omega
    ·have:=of_s (vZq ps) false (by rw[withF_map];simpa using hb.1) (by rw[vZq,List.length_map];simpa using hb.2) R;rw[withF_map] at this;exact this
    ·have hl:((shaN ps).map u8V).length=32:=by rw[List.length_map,shaN_len]
     refine⟨rfl,?_⟩;show RS _ _ (fitV 32 (zVq 1 ((shaN ps).map u8V)));rw[flat_u8,yeq hl];exact⟨hl,size_bN _,RSL_bN _ _⟩
   ·cases he
  ·cases he
 ·cases he
noncomputable def knownT:Tr (List V->Heap->Option (V×Heap)):=Tr.set .nil 50 (some ofK)
noncomputable def cfg1:Cfg:={cfg with known:=λf=>knownT.get f}
theorem known1OK:yQq Tryz.prog cfg1:=λf k hk=>by
 have e:knownT.get f=if f=50 then some ofK else none:=by
  unfold knownT;rw[Tr.get_set,Tr.get_nil]
 have hk:knownT.get f=some k:=hk;rw[e] at hk;split at hk
 ·rename_i hf;cases hk;subst hf;exact ofOK
 ·cases hk
section
variable {s0:World} {U:Nat} {D:Nat->Prop} {ρ:Env} {h:Heap} {w w':World}
theorem Rel.pushAt(r:Rel s0 U D ρ h w)(hU:h.next+1<=U){b:Blk}{o:Obj}{q pre cap:Nat}(hq:w.heap.size<=q)(g:Below w.heap.size w w')(hn:w'.heap[q]? =some o)(hin:InB (DD D ρ) b)(hk:KnB (ρ.add h.next q pre cap) h.next b o):
  Rel s0 U (λi=>D i\/i=h.next) (ρ.add h.next q pre cap) (h.push b) w'/\Nxt D ρ h w (λi=>D i\/i=h.next) (ρ.add h.next q pre cap) (h.push b) w':=by
 have hne:=r.next_new hU;have hag:Env.Agree (DD D ρ) ρ (ρ.add h.next q pre cap):=Env.add_agree hne;have hdd:∀j m,DD D ρ j m->DD (λi=>D i\/i=h.next) (ρ.add h.next q pre cap) j m:=λj m hj=>⟨.inl hj.1,by rw[(hag j m hj).2.2.1];exact hj.2⟩
 have hb:∀j,D j->(ρ.add h.next q pre cap).b j=ρ.b j:=λj hj=>(hag j 0 ⟨hj,Nat.zero_le _⟩).1
 have hbn:(ρ.add h.next q pre cap).b h.next=q:=by simp[Env.add]
 have get:∀j c,(D j\/j=h.next) ->(h.push b).get j=some c->(j=h.next/\c=b)\/(D j/\h.get j=some c):=λj c hj hc=>by
  rw[Heap.get_push] at hc;split at hc
  ·rename_i e;cases hc;exact .inl ⟨e,rfl⟩
  ·rename_i e;rcases hj with hj|hj
   ·exact .inr ⟨hj,hc⟩
   ·exact absurd hj e
 have hlt:∀j c,D j->h.get j=some c->ρ.b j<w.heap.size:=λj c hj hc=>by
  obtain⟨o,h1,_⟩:=r.has j c hj hc;exact(Array.getElem?_eq_some_iff.1 h1).1
 have hsz:s0.heap.size<=w.heap.size:=r.base.size;refine⟨⟨λj hj=>?_,λj hj=>?_,λj c hj hc=>?_,λj c hj hc=>?_,λj k c d hj hk' hc hd hoc hod hne'=>?_,λj c hj hc hoc=>?_,λj k c d hj hk' hc hd hoc hod=>?_,?_⟩,?_⟩
 ·show j<h.next+1\/_;rcases hj with hj|hj
  ·have:=r.lt j hj;omega
  ·omega
 ·have hj:h.next+1<=j:=hj;rw[Heap.get_push,if_neg Xa];exact r.wf j Xa
 ·rcases get j c hj hc with ⟨rfl,rfl⟩|⟨hj,hc⟩
  ·exact⟨o,by rw[hbn];exact hn,hk⟩
  ·obtain⟨o,h1,h2⟩:=r.has j c hj hc;exact⟨o,by rw[hb j hj,g.block _ (hlt j c hj hc)];exact h1,KnB.agree hag (m:=0) ⟨hj,Nat.zero_le _⟩ (r.clo j c hj hc) h2⟩
 ·rcases get j c hj hc with ⟨rfl,rfl⟩|⟨hj,hc⟩
  ·exact hin.mono hdd
  ·exact(r.clo j c hj hc).mono hdd
 ·rcases get j c hj hc with ⟨rfl,rfl⟩|⟨hj1,hc1⟩<;>rcases get k d hk' hd with ⟨rfl,rfl⟩|⟨hk1,hd1⟩
  ·exact absurd rfl hne'
  ·rw[hbn,hb k hk1];have:=hlt k d hk1 hd1;omega
  ·rw[hbn,hb j hj1];have:=hlt j c hj1 hc1;omega
  ·rw[hb j hj1,hb k hk1];exact r.inj j k c d hj1 hk1 hc1 hd1 hoc hod hne'
 ·rcases get j c hj hc with ⟨rfl,rfl⟩|⟨hj,hc⟩
  ·rw[hbn];omega
  ·rw[hb j hj];exact r.own j c hj hc hoc
 ·rcases get j c hj hc with ⟨rfl,rfl⟩|⟨hj1,hc1⟩<;>rcases get k d hk' hd with ⟨rfl,rfl⟩|⟨hk1,hd1⟩
  ·rw[hoc] at hod;cases hod
  ·rw[hbn,hb k hk1];have:=hlt k d hk1 hd1;omega
  ·rw[hbn,hb j hj1];have:=hlt j c hj1 hc1;omega
  ·rw[hb j hj1,hb k hk1];exact r.old j k c d hj1 hk1 hc1 hd1 hoc hod
 ·exact⟨g.os.trans r.base.os,g.tape.trans r.base.tape,g.output.trans r.base.output,Nat.le_trans hsz g.size,λk hk=>(g.block k Xa).trans (r.base.block k hk)⟩
 ·refine⟨λ_ h=>.inl h,λj hj=>?_,λj hj=>?_,λc hc _=>g.block c hc,λj hj hn' hl=>?_,g.size,Nat.le_refl _,Nat.le_succ _,g.os,g.tape,g.output⟩
  ·rcases hj with hj|hj
   ·exact .inl hj
   ·exact .inr ⟨Nat.le_of_eq hj.symm,by show j<h.next+1;omega⟩
  ·have:j≠h.next:=by
    rcases hj with hj|hj
    ·omega
    ·have hj:h.next+1<=j:=hj;omega
   simp[Env.add,this]
  ·have hl:j<h.next+1:=hl;obtain rfl:j=h.next:=by omega
   exact .inl (by rw[hbn];exact hq)
noncomputable def byK(h:Heap):V->Option (List UInt8)
 |.nils=>some []
 |.sl b _ off n 1 _=>match h.val b with
  |some bv=>match qMq 50 bv off n 1 with
   |some l=>bytesOf (zVq 1 l)
   |none=>none
  |none=>none
 |_=>none
theorem byK_spec(r:Rel s0 U D ρ h w){v:V}{l:List UInt8}(hin:InD (DD D ρ) v)(hk:byK h v=some l):Lib.HoldsBytes w (conc ρ v) l:=by
 unfold byK at hk;split at hk
 ·cases hk;exact⟨none,0,rfl,λ_=>rfl,λa h=>by cases h⟩
 ·rename_i b base off n lim;split at hk
  ·rename_i bv hv;split at hk
   ·rename_i L hL;obtain⟨g1,g2⟩:=j0q ρ hk;obtain⟨q1,_,_,_⟩:=yCq (ρ:=ρ) 50 bv off n 1 L hL;have hcells:=jmq r hin hv hL;rw[g2] at hcells;obtain rfl:n=l.length:=by omega
    exact⟨_,_,rfl,λh=>(by cases h),λa ha i x hx=>by cases ha;exact hcells i _ (by simp[hx])⟩
   ·cases hk
  ·cases hk
 ·cases hk
noncomputable def bysK(h:Heap):List V->Option (List (List UInt8))
 |[]=>some []
 |v::l=>match byK h v,bysK h l with
  |some x,some r=>some (x::r)
  |_,_=>none
theorem bysK_spec(r:Rel s0 U D ρ h w):∀{xs:List V} {ls:List (List UInt8)},InDL (DD D ρ) xs->bysK h xs=some ls->xs.length=ls.length/\(∀(i:Nat) v l,(zwq ρ xs)[i]? =some v->ls[i]? =some l->Lib.HoldsBytes w v l)/\∀x∈xs,x.size=1/\x.leaf=true
 |[],ls,_,hk=>by cases hk;exact⟨rfl,λi v l h=>by simp[zwq] at h,λx hx=>by cases hx⟩
 | v ::xs,ls,hin,hk=>by
  unfold bysK at hk;split at hk
  ·rename_i x r' hx hr;cases hk;obtain⟨h1,h2,h3⟩:=bysK_spec r hin.2 hr;refine⟨congrArg (· +1) h1,λi u l hu hl=>?_,λy hy=>?_⟩
   ·cases i with
    |zero=>
     simp only[zwq,List.getElem?_cons_zero,Option.some.injEq] at hu hl;subst hu;subst hl
     exact byK_spec r hin.1 hx
    |succ i=>
     simp only[zwq,List.getElem?_cons_succ] at hu hl;exact h2 i u l hu hl
   ·rcases List.mem_cons.1 hy with rfl|hy
    ·unfold byK at hx;split at hx
     ·exact⟨rfl,rfl⟩
     ·exact⟨rfl,rfl⟩
     ·cases hx
    ·exact h3 y hy
  ·cases hk
theorem vQq(ρ:Env):∀{xs:List V},(∀x∈xs,x.size=1/\x.leaf=true) ->zqq ρ 1 xs=zwq ρ xs
 |[],_=>rfl
 |x::xs,h=>by
  have hx:=(h x Xe).2;simp only[zqq,zwq,jBq hx,vQq ρ (xs:=xs) λy hy=>h y (by simp[hy])];rw[yrq (by rfl)];rfl
theorem join_flat:∀ls:List (List UInt8),Lib.join ls []=ls.flatten
 |[]=>rfl
 |x::r=>by
  rw[Lib.join_cons];unfold Lib.joinTail;simp
noncomputable def joinK:List V->Heap->Option (V×Heap)
 |[.sl b _ off n 1 _,y],h=>match h.val b,byK h y with
  |some bv,some []=>match qMq 50 bv off n 1 with
   |some xs=>match bysK h xs with
    |some ls=>match Nat.ble 2 n&&Nat.ble n 140737488355328&&Nat.ble 1 ls.flatten.length&&Nat.ble ls.flatten.length 140737488355328 with
     |true=>some (.sl h.next 0 0 ls.flatten.length 1 none,h.push (.ro (.arr ls.flatten.length 1 (yPq ls.flatten))))
     |false=>none
    |none=>none
   |none=>none
  |_,_=>none
 |_,_=>none
end
theorem joinOK{C:Cfg}:qCq Tryz.prog C 362 joinK:=λvs h v h' he=>by
 unfold joinK at he;split at he
 ·rename_i b base off n lim y;split at he
  ·rename_i bv hv hy;split at he
   ·rename_i xs hxs;split at he
    ·rename_i ls hls;split at he
     ·rename_i hb;cases he;simp only[Bool.and_eq_true] at hb;obtain⟨⟨⟨hb1,hb2⟩,hb3⟩,hb4⟩:=hb;have hb1:=Zb hb1;have hb2:=Zb hb2;have hb3:=Zb hb3;have hb4:=Zb hb4;refine⟨z1q _ _,(fnsOK 362 _ (by rfl)).2.1,λs0 U D ρ w hU gl hin rel=>?_⟩;have hU:h.next+1<=U:=hU;have hx:=hin.1;have hyi:=hin.2.1;obtain⟨g1,g2,g3,g4⟩:=yCq (ρ:=ρ) 50 bv off n 1 xs hxs;obtain⟨_,_,_,_,_,_,_,hvin⟩:=rel.val hx.2.2.1 hv;have hxin:InDL (DD D ρ) xs:=g4 _ hvin;obtain⟨k1,k2,k3⟩:=bysK_spec rel hxin hls;have hcells:=jmq rel hx hv hxs;rw[vQq ρ k3] at hcells;have hge:=jnq hx;have hc0:¬z4q ρ b off 1 lim=0:=by omega
      rw[if_neg hc0] at hcells;have hP:Lib.PartsAt w ⟨ρ.b b,ρ.pre b+off,none⟩ (zwq ρ xs) ls:=⟨by rw[yzq,k1],hcells,k2⟩;have hS:=byK_spec rel hyi hy;have hlens:Lib.lens ls=ls.flatten.length:=by simp[Lib.lens,List.length_flatten]
      have cj:=joinMany (ρ.b b) (ρ.pre b+off) n (z4q ρ b off 1 lim) (zwq ρ xs) ls (conc ρ y) [] w Xa hb1 hP hge hS hb2 (by rw[hlens,List.length_nil,Nat.zero_mul,Nat.add_zero];exact hb4)
      have harg:(zwq ρ [.sl b base off n 1 lim,y]).toArray= #[.slice (some ⟨ρ.b b,ρ.pre b+off,none⟩) n (z4q ρ b off 1 lim),conc ρ y]:=by
       simp[zwq,conc,z7q,hc0]
      rw[harg];refine cj.mono ?_;rintro e w' ⟨v',rfl,hfresh,hbel⟩;rw[join_flat] at hfresh;clear hlens cj;generalize ls.flatten=F at hfresh hb3 hb4⊢;obtain⟨g,cap,zs,rfl,hg,hlc,hmax,hzl,hzr,hzb,hcell,hfrz⟩:=hfresh
      have hobj:∃cs ty fz,w'.heap[g]? =some (.cells cs ty fz):=by
       have:=hcell 0 Xa;simp only[World.cell?] at this;split at this
       ·rename_i cs ty fz hh;exact⟨_,_,_,hh⟩
       ·cases this
      obtain⟨cs,ty,fz,hobj⟩:=hobj
      have hcs:∀i,i<cap->cs[i]? =some (.int .u8 (zs.getD i 0)):=λi hi=>by
       have:=hcell i hi;simpa[World.cell?,hobj] using this
      have hval:∀i (hi:i<F.length),zs.getD i 0=(F[i].toNat:Int):=λi hi=>by
       have hz:i<zs.length:=by omega
       have h1:=congrArg (·[i]?) hzb;simp only[Go.Lib.bytesOf,List.getElem?_map,List.getElem?_take,hi,if_true,List.getElem?_eq_getElem hz,Option.map_some,List.getElem?_eq_getElem hi,Option.some.injEq] at h1;obtain⟨q1,q2⟩:=hzr zs[i] (List.getElem_mem hz);rw[<-h1];simp[List.getD,List.getElem?_eq_getElem hz];omega
      have hcells2:cs.toList=cellsV ρ (.arr F.length 1 (yPq F))++cs.toList.drop F.length:=by
       have e:cellsV ρ (.arr F.length 1 (yPq F))=F.map λb=>Value.int .u8 b.toNat:=by
        simp only[cellsV];rw[yrq (by rw[zIq];simp[yPq]),qRq]
       rw[e];apply List.ext_getElem?;intro i;by_cases hi:i<F.length
       ·rw[List.getElem?_append_left (by simpa using hi)];have:=hcs i Xa;rw[hval i hi] at this;simpa[List.getElem?_eq_getElem hi] using this
       ·rw[List.getElem?_append_right Xc,List.getElem?_drop];congr 1
        simp;omega
      have hinv:InD (DD D ρ) (.arr F.length 1 (yPq F)):=InDL_iff.2 λy hy=>by obtain⟨c,_,rfl⟩:=List.mem_map.1 hy;trivial
      have hag:Env.Agree (DD D ρ) ρ (ρ.add h.next g 0 cap):=Env.add_agree (rel.next_new hU)
      obtain⟨r',n'⟩:=rel.pushAt hU (q:=g) (pre:=0) (cap:=cap) (b:=.ro (.arr F.length 1 (yPq F))) hg hbel hobj hinv ⟨[],cs.toList.drop F.length,ty,fz,by
       rw[yAq hag hinv,List.nil_append,<-hcells2],by simp[Env.add],by simp[Env.add];exact hlc⟩
      refine⟨_,_,?_,r',n',by omega,Nat.le_refl _,.inr rfl,?_⟩
      ·have:¬cap=0:=by omega
       simp[conc,z7q,z4q,Env.add,this]
      ·simp[Env.add];exact hlc
     ·cases he
    ·cases he
   ·cases he
  ·cases he
 ·cases he
noncomputable def known2T:Tr (List V->Heap->Option (V×Heap)):=knownT.set 362 (some joinK)
noncomputable def cfg2:Cfg:={cfg with known:=λf=>known2T.get f}
theorem cfg2OK:CfgOK Tryz.prog cfg2:=⟨cfgOK.ty,cfgOK.ext,cfgOK.mp,cfgOK.mt,cfgOK.ptr,cfgOK.raw,cfgOK.fnc,cfgOK.room⟩
theorem fns2OK:khq Tryz.prog cfg2:=fnsOK
theorem known2OK:yQq Tryz.prog cfg2:=λf k hk=>by
 have e:known2T.get f=if f=362 then some joinK else knownT.get f:=by
  unfold known2T;rw[Tr.get_set]
 have hk:known2T.get f=some k:=hk;rw[e] at hk;split at hk
 ·rename_i hf;cases hk;subst hf;exact joinOK
 ·exact known1OK f k hk
noncomputable def kEq(a b:IntKind):Bool:=Nat.beq (kNum a) (kNum b)
theorem kEq_eq(a b:IntKind):kEq a b=decide (a=b):=by cases a<;>cases b<;>rfl
noncomputable def addI(m n:Int):Int:=match m,n with
 |.ofNat a,.ofNat b=>.ofNat (Nat.add a b)
 |m,n=>m+n
theorem addI_eq(m n:Int):addI m n=m+n:=by cases m<;>cases n<;>rfl
noncomputable def subI(m n:Int):Int:=match m,n with
 |.ofNat a,.ofNat b=>Bool.rec (motive:=λ_=>Int) (.ofNat a- .ofNat b) (.ofNat (Nat.sub a b)) (Nat.ble b a)
 |m,n=>m-n
theorem subI_eq(m n:Int):subI m n=m-n:=by
 cases m with
 |negSucc=>rfl
 |ofNat a=>cases n with
  |negSucc=>rfl
  |ofNat b=>
   show Bool.rec (motive:=λ_=>Int) (Int.ofNat a-Int.ofNat b) (.ofNat (a-b)) (Nat.ble b a)=_;cases h:Nat.ble b a with
   |false=>rfl
   |true=>
    have:=Zb h;show Int.ofNat (a-b)=Int.ofNat a-Int.ofNat b;simp only[Int.ofNat_eq_natCast];omega
noncomputable def mulI(m n:Int):Int:=match m,n with
 |.ofNat a,.ofNat b=>.ofNat (Nat.mul a b)
 |m,n=>m*n
theorem mulI_eq(m n:Int):mulI m n=m*n:=by cases m<;>cases n<;>rfl
noncomputable def wI64(z:Int):Int:=match z with
 |.ofNat a=>Bool.rec (motive:=λ_=>Int) (yYq .i64 (.ofNat a)) (.ofNat a) (Nat.blt a 9223372036854775808)
 |.negSucc a=>Bool.rec (motive:=λ_=>Int) (yYq .i64 (.negSucc a)) (.negSucc a) (Nat.blt a 9223372036854775808)
noncomputable def wU64(z:Int):Int:=match z with
 |.ofNat a=>.ofNat (Nat.mod a 18446744073709551616)
 |.negSucc a=>yYq .u64 (.negSucc a)
noncomputable def wU32(z:Int):Int:=match z with
 |.ofNat a=>.ofNat (Nat.mod a 4294967296)
 |.negSucc a=>yYq .u32 (.negSucc a)
noncomputable def wU8(z:Int):Int:=match z with
 |.ofNat a=>.ofNat (Nat.mod a 256)
 |.negSucc a=>yYq .u8 (.negSucc a)
noncomputable def wrapR(k:IntKind):Int->Int:=match k with
 |.i8=>yYq .i8
 |.i16=>yYq .i16
 |.i32=>yYq .i32
 |.i64=>wI64
 |.u8=>wU8
 |.u16=>yYq .u16
 |.u32=>wU32
 |.u64=>wU64
theorem wrapR_eq(k:IntKind)(z:Int):wrapR k z=yYq k z:=by
 cases k<;>cases z<;>try rfl
 ·rename_i a;show Bool.rec (motive:=λ_=>Int) (yYq .i64 (.ofNat a)) (.ofNat a) (Nat.blt a 9223372036854775808)=_;cases h:Nat.blt a 9223372036854775808 with
  |false=>rfl
  |true=>unfold yYq;simp only[h]
 ·rename_i a;show Bool.rec (motive:=λ_=>Int) (yYq .i64 (.negSucc a)) (.negSucc a) (Nat.blt a 9223372036854775808)=_;cases h:Nat.blt a 9223372036854775808 with
  |false=>rfl
  |true=>unfold yYq;simp only[h]
noncomputable def bAdd(k:IntKind)(m n:Int):Option V:=some (.int k (wrapR k (addI m n)))
noncomputable def bSub(k:IntKind)(m n:Int):Option V:=some (.int k (wrapR k (subI m n)))
noncomputable def bMul(k:IntKind)(m n:Int):Option V:=some (.int k (wrapR k (mulI m n)))
noncomputable def bLss(_:IntKind)(m n:Int):Option V:=some (.bool (ltI m n))
noncomputable def bLeq(_:IntKind)(m n:Int):Option V:=some (.bool (!ltI n m))
noncomputable def bGtr(_:IntKind)(m n:Int):Option V:=some (.bool (ltI n m))
noncomputable def bGeq(_:IntKind)(m n:Int):Option V:=some (.bool (!ltI m n))
noncomputable def bEql(_:IntKind)(m n:Int):Option V:=some (.bool (eqI m n))
noncomputable def bNeq(_:IntKind)(m n:Int):Option V:=some (.bool (!eqI m n))
noncomputable def bOp(op:BinOp):IntKind->Int->Int->Option V:=match op with
 |.add=>bAdd
 |.sub=>bSub
 |.mul=>bMul
 |.quo=>binI .quo
 |.rem=>binI .rem
 |.and=>binI .and
 |.or=>binI .or
 |.xor=>binI .xor
 |.shl=>binI .shl
 |.shr=>binI .shr
 |.andNot=>binI .andNot
 |.eql=>bEql
 |.neq=>bNeq
 |.lss=>bLss
 |.leq=>bLeq
 |.gtr=>bGtr
 |.geq=>bGeq
theorem bOp_eq(op:BinOp)(k:IntKind)(m n:Int):bOp op k m n=binI op k m n:=by
 cases op<;>first|rfl|(simp only[bOp,bAdd,bSub,bMul,addI_eq,subI_eq,mulI_eq,wrapR_eq];rfl)
noncomputable def biShl(k:IntKind)(m:Int)(_:IntKind)(n:Int):Option V:=shI .shl k m n
noncomputable def biShr(k:IntKind)(m:Int)(_:IntKind)(n:Int):Option V:=shI .shr k m n
noncomputable def biOp(op:BinOp)(k:IntKind)(m:Int)(k':IntKind)(n:Int):Option V:=Bool.rec (motive:=λ_=>Option V) none (bOp op k m n) (kEq k k')
noncomputable def binInt(op:BinOp):IntKind->Int->IntKind->Int->Option V:=match op with
 |.shl=>biShl
 |.shr=>biShr
 |op=>biOp op
noncomputable def binY(C:Cfg)(op:BinOp)(t:TypeId)(k:IntKind)(m:Int)(y:V):Option V:=match y with
 |.int k' n=>binInt op k m k' n
 |y=>binV C op t (.int k m) y
noncomputable def binVF(C:Cfg)(op:BinOp)(t:TypeId)(x y:V):Option V:=match x with
 |.int k m=>binY C op t k m y
 |x=>binV C op t x y
theorem binVF_eq(C:Cfg)(op:BinOp)(t:TypeId)(x y:V):binVF C op t x y=binV C op t x y:=by
 cases x<;>try rfl
 rename_i k m;cases y<;>try rfl
 rename_i k' n;show binInt op k m k' n=binV C op t (.int k m) (.int k' n)
 have key:biOp op k m k' n=match decide (k=k') with
   |true=>binI op k m n
   |false=>none:=by
  unfold biOp;rw[kEq_eq,bOp_eq];cases decide (k=k')<;>rfl
 unfold binV;cases op<;>first|rfl|exact key
noncomputable def binNF(C:Cfg)(op:BinOp)(t:TypeId)(y:Operand)(u v:V):Option V:=match binVF C op t u v with
 |some r=>some r
 |none=>match nilIB C op t y u v with
  |some r=>some r
  |none=>ptrEq C op t u v
noncomputable def j7q(C:Cfg)(op:BinOp)(t:TypeId)(x y:Operand)(fr:Tr V):Option V:=match evV C fr x with
 |some u=>match evV C fr y with
  |some v=>binNF C op t y u v
  |none=>none
 |none=>none
theorem utq(C:Cfg)(fr:Tr V)(op:BinOp)(t:TypeId)(x y:Operand):j7q C op t x y fr=z3q C fr op t x y:=by
 unfold j7q z3q binNF;cases evV C fr x with
 |none=>cases evV C fr y<;>rfl
 |some u=>cases evV C fr y with
  |none=>rfl
  |some v=>
   simp only[binVF_eq];cases binV C op t u v<;>rfl
noncomputable def evLF(C:Cfg)(fr:Tr V)(l:List Operand):Option (List V):=List.rec (motive:=λ_=>Option (List V)) (some []) (λx _ ih=>match evV C fr x with
 |some v=>match ih with
  |some r=>some (v::r)
  |none=>none
 |none=>none) l
theorem evLF_eq(C:Cfg)(fr:Tr V):∀l,evLF C fr l=evL C fr l
 |[]=>rfl
 |x::l=>by
  show(match evV C fr x with
   |some v=>match evLF C fr l with
    |some r=>some (v::r)
    |none=>none
   |none=>none)=_
  rw[evLF_eq C fr l];conv=>rhs;unfold evL
  cases evV C fr x<;>cases evL C fr l<;>rfl
noncomputable def optV(v:Option V)(h:Heap):Option (V×Heap):=match v with
 |some v=>some (v,h)
 |none=>none
noncomputable def callFn(S:Self)(C:Cfg)(f:FuncId)(vs:List V)(h:Heap):Option (V×Heap):=match C.ext f with
 |some e=>match e vs with
  |some v=>some (v,h)
  |none=>mzV C f vs h
 |none=>S.fn f vs h
noncomputable def callF(S:Self)(C:Cfg)(fr:Tr V)(h:Heap)(x:Operand)(xs:Array Operand):Option (V×Heap):=match evV C fr x with
 |some (.fn f a c)=>match evLF C fr xs.toList with
  |some vs=>callFn S C f (a++vs++c) h
  |none=>none
 |some (.yield l)=>match evLF C fr xs.toList with
  |some vs=>S.yield l vs h
  |none=>none
 |_=>none
theorem callF_eq(S:Self)(C:Cfg)(fr:Tr V)(h:Heap)(x:Operand)(xs:Array Operand)(ts:Array TypeId):callF S C fr h x xs=y9q S C fr h (.call ⟨.value x,xs,ts⟩):=by
 unfold callF y9q;rw[evLF_eq];dsimp only
 cases evV C fr x with
 |none=>cases evL C fr xs.toList<;>rfl
 |some v=>cases v<;>cases evL C fr xs.toList<;>rfl
abbrev OpK:=Self->Cfg->Tr V->Heap->TypeId->Option (V×Heap)
noncomputable def noK:OpK:=λ_ _ _ _ _=>none
noncomputable def uoq(o:Op):OpK:=λS C fr h rt=>match zUq C fr rt o with
 |some v=>some (v,h)
 |none=>match opH C fr h o with
  |some r=>some r
  |none=>y9q S C fr h o
noncomputable def bltK(args:Array Operand)(ats:Array TypeId)(b:Builtin):OpK:=match b with
 |.len=>λ_ C fr h _=>match yFq C fr args ats with
  |some v=>some (v,h)
  |none=>zWq C fr h args ats
 |.clear=>λ_ C fr h _=>zrq C fr h args ats
 |.append=>λ_ C fr h _=>match zuq C fr h args ats with
  |some r=>some r
  |none=>jQq C fr h args ats
 |.copy=>λ_ C fr h _=>z0q C fr h args ats
 |b=>uoq (.call ⟨.builtin b,args,ats⟩)
noncomputable def calK(args:Array Operand)(ats:Array TypeId)(c:Callee):OpK:=match c with
 |.value x=>λS C fr h _=>callF S C fr h x args
 |.builtin b=>bltK args ats b
 |c=>uoq (.call ⟨c,args,ats⟩)
noncomputable def callK(c:Call):OpK:=calK c.args c.argTypes c.callee
noncomputable def moveK(x:Operand):OpK:=λ_ C fr h _=>optV (evV C fr x) h
noncomputable def pickK(c a b:Operand):OpK:=λ_ C fr h _=>optV (ymq C fr c a b) h
noncomputable def unK(u:UnOp)(t:TypeId)(x:Operand):OpK:=match u with
 |.not=>λ_ C fr h _=>optV (zyq C fr x) h
 |u=>uoq (.unOp u t x)
noncomputable def mkfK(f:Fn)(a c:Array Operand):OpK:=match f with
 |.func g=>λ_ C fr h _=>optV (ztq C fr g a c) h
 |f=>uoq (.makeFunc f a c)
noncomputable def convK(s t:TypeId)(x:Operand):OpK:=λ_ C fr h _=>match zAq C fr s t x with
 |some v=>some (v,h)
 |none=>match zpq C fr h s t x with
  |some r=>some r
  |none=>ohRaw C fr h s t x
noncomputable def sliceK(t:TypeId)(x:Operand)(lo hi mx:Option Operand):OpK:=λ_ C fr h _=>match zSq C fr t x lo hi mx with
 |some v=>some (v,h)
 |none=>zBq C fr h t x lo hi mx
noncomputable def opF(o:Op):OpK:=Op.rec (motive:=λ_=>OpK) moveK moveK pickK
 (λt _ C fr h _=>zFq C fr h t) (λt x _ C fr h _=>yuq C fr h t x)
 (λt ps _ C fr h _=>optV (z2q C fr t ps) h) (λt n ps _ C fr h _=>zfq C fr h t n ps)
 (λt x y z _ C fr h _=>zeq C fr h t x y z) (λt x _ C fr h _=>zXq C fr h t x) (λt x y _ C fr h _=>zEq C fr h t x y) (λ_=>noK) (λ_=>noK)
 (λx _ C fr h _=>optV (zvq C fr x) h) (λop t x y _ _ C fr h _=>optV (j7q C op t x y fr) h)
 unK convK (λ_ _=>noK) (λt x _ C fr h _=>optV (zgq C fr t x) h)
 mkfK (λt x _ C fr h _=>zlq C fr h t x) (λ_ _=>noK) (λt x y _ C fr h _=>zjq C fr h t x y)
 sliceK
 (λt x i _ C fr h _=>optV (znq C fr t x i) h) (λt x i _ C fr h _=>optV (zZq C fr t x i) h) (λt x y _ C fr h _=>optV (zmq C fr t x y) h) (λt x y _ C fr h _=>optV (zYq C fr t x y) h)
 (λt x y ok _ C fr h _=>zsq C fr h t x y ok) (λt x y z _ C fr h _=>zeq C fr h t x y z) (λt x y _ C fr h _=>zkq C fr h t x y) (λ_ x y z _ C fr h _=>zdq C fr h x y z) (λt x _ C fr h _=>xAq C fr h t x) (λx b _ C fr h _=>vyq C fr h x b) (λx _ C fr h _=>xBq C fr h x) (λx _ t ok _ C fr h _=>optV (zMq C fr x t ok) h)
 (λx i _ C fr h _=>optV (zzq C fr x i) h) callK (λ_=>noK) (λ_=>noK) (λ_=>noK) (λ_ _=>noK) (λ_ _ _=>noK) (λ_ _=>noK) o
theorem some_h{r:Option (V×Heap)}:(match r with|some r=>some r|none=>none)=r:=by cases r<;>rfl
theorem qvq(S:Self)(C:Cfg)(fr:Tr V)(h:Heap)(rt:TypeId)(o:Op):opF o S C fr h rt=uoq o S C fr h rt:=by
 cases o<;>try rfl
 case alloc t=>exact some_h.symm
 case makeMap t x=>exact some_h.symm
 case lookup t x y ok=>exact some_h.symm
 case mapUpdate t x y z=>exact some_h.symm
 case insert t x y z=>exact some_h.symm
 case mapEntry t x y=>exact some_h.symm
 case entryStore t x y z=>exact some_h.symm
 case box t x=>exact some_h.symm
 case buildSlice t n ps=>exact some_h.symm
 case load t x=>exact some_h.symm
 case store t x y=>exact some_h.symm
 case binOp op t x y t'=>
  show optV (j7q C op t x y fr) h=_;rw[utq];rfl
 case makeSlice t x y=>exact some_h.symm
 case unOp u t x=>cases u<;>rfl
 case makeFunc f a c=>cases f<;>rfl
 case slice t x lo hi mx=>
  show(match zSq C fr t x lo hi mx with
   |some v=>some (v,h)
   |none=>zBq C fr h t x lo hi mx)=(match zSq C fr t x lo hi mx with
   |some v=>some (v,h)
   |none=>match zBq C fr h t x lo hi mx with
    |some r=>some r
    |none=>none)
  cases zSq C fr t x lo hi mx with
  |some v=>rfl
  |none=>exact some_h.symm
 case call c=>
  obtain⟨c,args,ats⟩:=c;cases c with
  |value x=>exact callF_eq S C fr h x args ats
  |invoke=>rfl
  |builtin b=>
   cases b<;>first
    |rfl
    |exact some_h.symm
    | (show _=(match yFq C fr args ats with
         |some v=>some (v,h)
         |none=>match zWq C fr h args ats with
          |some r=>some r
          |none=>none)
       cases hp:yFq C fr args ats with
       |some v=>simp only[opF,callK,calK,bltK,hp]
       |none=>simp only[opF,callK,calK,bltK,hp];exact some_h.symm)
noncomputable def opVF(S:Self)(C:Cfg)(fr:Tr V)(h:Heap)(o:Oper):Option (V×Heap):=opF o.op S C fr h o.type
theorem opVF_eq(S:Self)(C:Cfg)(fr:Tr V)(h:Heap)(o:Oper):opVF S C fr h o=opV S C fr h o:=qvq S C fr h o.type o.op
abbrev FlK:=Self->Cfg->Tr V->Heap->TypeId->Option (V×Heap×Option Ev)
noncomputable def evHp(h h1:Heap):Ev:=Bool.rec (motive:=λ_=>Ev) .dirty .gen (Nat.ble h.next h1.wmin)
noncomputable def oneE(h h1:Heap):Ev:=match Nat.ble h.next h1.wmin with
 |true=>.gen
 |false=>match oneAt h h1 with
  |true=>.upd h1.wmin
  |false=>.dirty
noncomputable def updE(v:Option V):Ev:=match v with
 |some (.sl b _ _ _ _ _)=>.upd b
 |_=>.dirty
noncomputable def appE(C:Cfg)(fr:Tr V)(xs:Array Operand)(h h1:Heap):Ev:=Bool.rec (motive:=λ_=>Ev) (match xs.toList with
 |[x,_]=>updE (evV C fr x)
 |_=>.dirty) .gen (Nat.ble h.next h1.wmin)
noncomputable def ptrE(f:Nat->Ev)(v:Option V):Ev:=match v with
 |some (.ptr b _)=>f b
 |_=>.dirty
noncomputable def optE(v:Option V)(h:Heap):Option (V×Heap×Option Ev):=match v with
 |some v=>some (v,h,none)
 |none=>none
noncomputable def memE(e:Heap->Ev)(h:Heap)(r:Option (V×Heap)):Option (V×Heap×Option Ev):=match r with
 |some (v,h1)=>some (v,⟨h1.next,minN h.wmin h1.wmin,h1.tr⟩,some (e h1))
 |none=>none
noncomputable def low(h:Heap):Heap:=⟨h.next,h.next,h.tr⟩
noncomputable def jLq(o:Op):FlK:=λS C fr h rt=>match zUq C fr rt o with
 |some v=>some (v,h,none)
 |none=>memE (λh1=>evOf C fr h h1 o) h (uoq o S C fr (low h) rt)
noncomputable def pE(k:Cfg->Tr V->Option V):FlK:=λ_ C fr h _=>optE (k C fr) h
noncomputable def mE(k:OpK):FlK:=λS C fr h rt=>memE (evHp h) h (k S C fr (low h) rt)
noncomputable def bltE(args:Array Operand)(ats:Array TypeId)(b:Builtin):FlK:=match b with
 |.len=>λ_ C fr h _=>match yFq C fr args ats with
  |some v=>some (v,h,none)
  |none=>memE (evHp h) h (zWq C fr (low h) args ats)
 |.append=>λ_ C fr h _=>memE (appE C fr args h) h (match zuq C fr (low h) args ats with
  |some r=>some r
  |none=>jQq C fr (low h) args ats)
 |.copy=>mE λ_ C fr h _=>z0q C fr h args ats
 |.clear=>mE λ_ C fr h _=>zrq C fr h args ats
 |b=>jLq (.call ⟨.builtin b,args,ats⟩)
noncomputable def calE(args:Array Operand)(ats:Array TypeId)(c:Callee):FlK:=match c with
 |.value x=>λS C fr h _=>memE (oneE h) h (callF S C fr (low h) x args)
 |.builtin b=>bltE args ats b
 |c=>jLq (.call ⟨c,args,ats⟩)
noncomputable def callE(c:Call):FlK:=calE c.args c.argTypes c.callee
noncomputable def unE(u:UnOp)(t:TypeId)(x:Operand):FlK:=match u with
 |.not=>pE λC fr=>zyq C fr x
 |u=>jLq (.unOp u t x)
noncomputable def mkfE(f:Fn)(a c:Array Operand):FlK:=match f with
 |.func g=>pE λC fr=>ztq C fr g a c
 |f=>jLq (.makeFunc f a c)
noncomputable def noE:FlK:=λ_ _ _ _ _=>none
noncomputable def flF(o:Op):FlK:=Op.rec (motive:=λ_=>FlK) (λx=>pE λC fr=>evV C fr x) (λx=>pE λC fr=>evV C fr x) (λc a b=>pE λC fr=>ymq C fr c a b)
 (λt=>mE λ_ C fr h _=>zFq C fr h t) (λt x=>mE λ_ C fr h _=>yuq C fr h t x)
 (λt ps=>pE λC fr=>z2q C fr t ps) (λt n ps _ C fr h _=>memE (λ_=>.mk h.next) h (zfq C fr (low h) t n ps))
 (λt x y z=>mE λ_ C fr h _=>zeq C fr h t x y z) (λt x _ C fr h _=>memE (λ_=>ptrE .load (evV C fr x)) h (zXq C fr (low h) t x)) (λt x y _ C fr h _=>memE (λ_=>ptrE .store (evV C fr x)) h (zEq C fr (low h) t x y)) (λ_=>noE) (λ_=>noE)
 (λx=>pE λC fr=>zvq C fr x) (λop t x y _=>pE λC fr=>j7q C op t x y fr)
 unE (λs t x=>jLq (.convert s t x)) (λ_ _=>noE) (λt x=>pE λC fr=>zgq C fr t x)
 mkfE (λt x=>mE λ_ C fr h _=>zlq C fr h t x) (λ_ _=>noE) (λt x y=>mE λ_ C fr h _=>zjq C fr h t x y)
 (λt x lo hi mx=>jLq (.slice t x lo hi mx))
 (λt x i=>pE λC fr=>znq C fr t x i) (λt x i=>pE λC fr=>zZq C fr t x i) (λt x y=>pE λC fr=>zmq C fr t x y) (λt x y=>pE λC fr=>zYq C fr t x y)
 (λt x y ok=>mE λ_ C fr h _=>zsq C fr h t x y ok) (λt x y z=>mE λ_ C fr h _=>zeq C fr h t x y z) (λt x y=>mE λ_ C fr h _=>zkq C fr h t x y) (λ_ x y z=>mE λ_ C fr h _=>zdq C fr h x y z) (λt x=>jLq (.range t x)) (λx b=>jLq (.next x b)) (λx=>jLq (.entry x)) (λx _ t ok=>pE λC fr=>zMq C fr x t ok)
 (λx i=>pE λC fr=>zzq C fr x i) callE (λ_=>noE) (λ_=>noE) (λ_=>noE) (λ_ _=>noE) (λ_ _ _=>noE) (λ_ _=>noE) o
theorem yxq{S:Self}{C:Cfg}{fr:Tr V}{h:Heap}{rt:TypeId}{o:Op}{k:Option V}(hp:zUq C fr rt o=k)(hh:opH C fr (low h) o=none)(hc:y9q S C fr (low h) o=none):optE k h=jLq o S C fr h rt:=by
 unfold jLq uoq;rw[hp,hh,hc];cases k<;>rfl
theorem qAq(h h1:Heap):evHp h h1=match Nat.ble h.next h1.wmin with
  |true=>.gen
  |false=>.dirty:=by unfold evHp;cases Nat.ble h.next h1.wmin<;>rfl
theorem appE_eq(C:Cfg)(fr:Tr V)(xs:Array Operand)(ats:Array TypeId)(h h1:Heap):appE C fr xs h h1=evOf C fr h h1 (.call ⟨.builtin .append,xs,ats⟩):=by
 unfold appE evOf;cases Nat.ble h.next h1.wmin with
 |true=>rfl
 |false=>
  show(match xs.toList with
   |[x,_]=>updE (evV C fr x)
   |_=>.dirty)=(match xs.toList with
   |[x,_]=>match evV C fr x with
    |some (.sl b _ _ _ _ _)=>.upd b
    |_=>.dirty
   |_=>.dirty)
  rfl
theorem yWq{S:Self}{C:Cfg}{fr:Tr V}{h:Heap}{rt:TypeId}{o:Op}{k:Option (V×Heap)}{e:Heap->Ev}(hp:zUq C fr rt o=none)(hk:uoq o S C fr (low h) rt=k)(he:∀h1,e h1=evOf C fr h h1 o):memE e h k=jLq o S C fr h rt:=by
 unfold jLq;rw[hp,hk,show e=λh1=>evOf C fr h h1 o from funext he]
theorem lenE_eq(S:Self)(C:Cfg)(fr:Tr V)(h:Heap)(rt:TypeId)(args:Array Operand)(ats:Array TypeId):bltE args ats .len S C fr h rt=jLq (.call ⟨.builtin .len,args,ats⟩) S C fr h rt:=by
 show(match yFq C fr args ats with
  |some v=>some (v,h,none)
  |none=>memE (evHp h) h (zWq C fr (low h) args ats))=_
 unfold jLq;rw[show zUq C fr rt (.call ⟨.builtin .len,args,ats⟩)=yFq C fr args ats from rfl];cases hp:yFq C fr args ats with
 |some v=>rfl
 |none=>
  have e:uoq (.call ⟨.builtin .len,args,ats⟩) S C fr (low h) rt=zWq C fr (low h) args ats:=by
   unfold uoq;rw[show zUq C fr rt (.call ⟨.builtin .len,args,ats⟩)=yFq C fr args ats from rfl,hp];exact some_h
  rw[e];show memE (evHp h) h _=memE (λh1=>evOf C fr h h1 (.call ⟨.builtin .len,args,ats⟩)) h _;rw[show evHp h=λh1=>evOf C fr h h1 (.call ⟨.builtin .len,args,ats⟩) from funext (qAq h)]
theorem flF_eq(S:Self)(C:Cfg)(fr:Tr V)(h:Heap)(rt:TypeId)(o:Op):flF o S C fr h rt=jLq o S C fr h rt:=by
 cases o with
 |move x=>exact yxq Z Z Z
 |assign x=>exact yxq Z Z Z
 |pick c a b=>exact yxq Z Z Z
 |alloc t=>exact yWq rfl (qvq S C fr (low h) rt (.alloc t)).symm (qAq h)
 |box t x=>exact yWq rfl (qvq S C fr (low h) rt (.box t x)).symm (qAq h)
 |build t ps=>exact yxq Z Z Z
 |buildSlice t n ps=>exact yWq rfl (qvq S C fr (low h) rt (.buildSlice t n ps)).symm λ_=>rfl
 |load t x=>exact yWq rfl (qvq S C fr (low h) rt (.load t x)).symm λ_=>rfl
 |store t x y=>exact yWq rfl (qvq S C fr (low h) rt (.store t x y)).symm λ_=>rfl
 |nilCheck x=>exact yxq Z Z Z
 |makeMap t x=>exact yWq rfl (qvq S C fr (low h) rt (.makeMap t x)).symm (qAq h)
 |lookup t x y ok=>exact yWq rfl (qvq S C fr (low h) rt (.lookup t x y ok)).symm (qAq h)
 |mapUpdate t x y z=>exact yWq rfl (qvq S C fr (low h) rt (.mapUpdate t x y z)).symm (qAq h)
 |insert t x y z=>exact yWq rfl (qvq S C fr (low h) rt (.insert t x y z)).symm (qAq h)
 |mapEntry t x y=>exact yWq rfl (qvq S C fr (low h) rt (.mapEntry t x y)).symm (qAq h)
 |entryStore t x y z=>exact yWq rfl (qvq S C fr (low h) rt (.entryStore t x y z)).symm (qAq h)
 |binOp op t x y t'=>
  show optE (j7q C op t x y fr) h=_;rw[utq];exact yxq Z Z Z
 |unOp u t x=>cases u<;>first|rfl|exact yxq Z Z Z
 |makeInterface t x=>exact yxq Z Z Z
 |makeFunc f a c=>cases f<;>first|rfl|exact yxq Z Z Z
 |makeSlice t x y=>exact yWq rfl (qvq S C fr (low h) rt (.makeSlice t x y)).symm (qAq h)
 |fieldAddr t x i=>exact yxq Z Z Z
 |field t x i=>exact yxq Z Z Z
 |indexAddr t x y=>exact yxq Z Z Z
 |index t x y=>exact yxq Z Z Z
 |extract x i=>exact yxq Z Z Z
 |typeAssert x xt t ok=>exact yxq Z Z Z
 |call c=>
  obtain⟨c,args,ats⟩:=c;cases c with
  |value x=>exact yWq rfl (qvq S C fr (low h) rt (.call ⟨.value x,args,ats⟩)).symm λ_=>rfl
  |invoke=>rfl
  |builtin b=>
   cases b<;>first
    |rfl
    |exact yxq Z Z Z
    |exact yWq rfl (qvq S C fr (low h) rt (.call ⟨.builtin .append,args,ats⟩)).symm (appE_eq C fr args ats h)
    |exact yWq rfl (qvq S C fr (low h) rt (.call ⟨.builtin .copy,args,ats⟩)).symm (qAq h)
    |exact yWq rfl (qvq S C fr (low h) rt (.call ⟨.builtin .clear,args,ats⟩)).symm (qAq h)
    |exact lenE_eq S C fr h rt args ats
 |_=>rfl
noncomputable def stepFF(S:Self)(C:Cfg)(fr:Tr V)(h:Heap)(o:Oper):Option (V×Heap×Option Ev):=flF o.op S C fr h o.type
theorem stepFF_eq(S:Self)(C:Cfg)(fr:Tr V)(h:Heap)(o:Oper):stepFF S C fr h o=x4q S C fr h o:=by
 unfold stepFF;rw[flF_eq];unfold jLq x4q;rw[show uoq o.op S C fr (low h) o.type=opV S C fr {h with wmin:=h.next} o from rfl];cases zUq C fr o.type o.op with
 |some v=>rfl
 |none=>cases opV S C fr {h with wmin:=h.next} o<;>rfl
noncomputable def aeM(T n:Nat)(e:Edge)(m:Nat):Nat:=match Region.binds .any e with
 |true=>Nat.lor (Nat.lor (Nat.shiftLeft 1 e.on) (Nat.shiftRight T (Nat.mul e.on n))) m
 |false=>m
noncomputable def ahM(T n:Nat)(l:List Edge):Nat:=List.rec (motive:=λ_=>Nat) 0 (λe _ ih=>aeM T n e ih) l
noncomputable def arM(n:Nat)(l:List Oper):Nat->Nat->Nat:=List.rec (motive:=λ_=>Nat->Nat->Nat) (λ_ T=>T) (λo _ ih i T=>ih (Nat.succ i) (Nat.lor T (Nat.shiftLeft (Nat.mod (ahM T n o.after.toList) (Nat.pow 2 n)) (Nat.mul i n)))) l
theorem ahM_bit{T n k:Nat}:∀{l:List Edge},(ahM T n l).testBit k=true->∃e∈l,Region.binds .any e=true/\(e.on=k\/T.testBit (e.on*n+k)=true)
 |[],h=>by rw[show ahM T n []=0 from rfl,Nat.zero_testBit] at h;cases h
 |e::l,h=>by
  have h:(aeM T n e (ahM T n l)).testBit k=true:=h
  have tl:(ahM T n l).testBit k=true->∃e'∈e::l,Region.binds .any e'=true/\(e'.on=k\/T.testBit (e'.on*n+k)=true):=λh=>by
   obtain⟨e',h1,h2⟩:=ahM_bit h;exact⟨e',List.mem_cons_of_mem _ h1,h2⟩
  unfold aeM at h;split at h
  ·rename_i hb;have h:((1<<<e.on|||T>>>(e.on*n))|||ahM T n l).testBit k=true:=h;rw[Nat.testBit_or,Nat.testBit_or,Bool.or_eq_true,Bool.or_eq_true] at h;rcases h with (h|h)|h
   ·rw[Nat.one_shiftLeft,Nat.testBit_two_pow] at h;exact⟨e,List.mem_cons_self ..,hb,.inl (by simpa using h)⟩
   ·rw[Nat.testBit_shiftRight] at h;exact⟨e,List.mem_cons_self ..,hb,.inr h⟩
   ·exact tl h
  ·exact tl h
theorem reach_up{ops:Array Oper}{j k:Nat}:∀{f g:Nat},f<=g->yKq ops f j k=true->yKq ops g j k=true:=λ{f g}=>by
 induction f generalizing j g with
 |zero=>intro _ h;simp[yKq] at h
 |succ f ih=>
  intro hg h;obtain⟨g,rfl⟩:∃g',g=g'+1:=⟨g-1,by omega⟩
  simp only[yKq] at h⊢;split at h
  ·cases h
  ·rw[Array.any_eq_true] at h⊢;obtain⟨i,hi,h⟩:=h;refine⟨i,hi,?_⟩;rw[Bool.and_eq_true,Bool.or_eq_true] at h⊢;exact⟨h.1,h.2.imp id (ih Xa)⟩
theorem arM_bit{ops:Array Oper}:∀(l:List Oper) (i T:Nat),ops.toList.drop i=l->(∀j k,k<ops.size->T.testBit (j*ops.size+k)=true->j<i/\yKq ops (j+1) j k=true) ->
  ∀j k,k<ops.size->(arM ops.size l i T).testBit (j*ops.size+k)=true->j<i+l.length/\yKq ops (j+1) j k=true
 |[],i,T,_,h,j,k,hk,hb=>h j k hk hb
 | o ::l,i,T,hd,h,j,k,hk,hb=>by
  have hi:ops.toList[i]? =some o:=by
   have:=List.getElem?_drop (xs:=ops.toList) (i:=i) (j:=0);rw[hd] at this;simpa using this.symm
  have hd2:ops.toList.drop (i+1)=l:=by
   rw[<-List.drop_drop,hd];rfl
  have:=arM_bit l (i+1) _ hd2 (λj k hk hb=>?_) j k hk hb
  ·refine⟨?_,this.2⟩;rw[List.length_cons];omega
  ·have hb:(T|||(ahM T ops.size o.after.toList%2^ops.size)<<<(i*ops.size)).testBit (j*ops.size+k)=true:=hb;rw[Nat.testBit_or,Bool.or_eq_true] at hb;rcases hb with hb|hb
   ·obtain⟨q1,q2⟩:=h j k hk hb;exact⟨by omega,q2⟩
   ·rw[Nat.testBit_shiftLeft,Bool.and_eq_true,Nat.testBit_mod_two_pow,Bool.and_eq_true] at hb;obtain⟨b1,b2,b3⟩:=hb;have b1:i*ops.size<=j*ops.size+k:=by simpa using b1
    have b2:j*ops.size+k-i*ops.size<ops.size:=by simpa using b2
    have hij:j=i:=by
     rcases Nat.lt_trichotomy j i with q|q|q
     ·have:(j+1)*ops.size<=i*ops.size:=Nat.mul_le_mul_right _ Xa;rw[Nat.add_mul] at this;omega
     ·exact q
     ·have:(i+1)*ops.size<=j*ops.size:=Nat.mul_le_mul_right _ Xa;rw[Nat.add_mul] at this;omega
    subst hij;rw[Nat.add_sub_cancel_left] at b3;obtain⟨e,he,hbi,hon⟩:=ahM_bit b3;refine⟨by omega,?_⟩;simp only[yKq];rw[show ops[j]? =some o by rw[<-Array.getElem?_toList];exact hi];simp only;rw[<-Array.any_toList,List.any_eq_true];refine⟨e,he,?_⟩;rw[Bool.and_eq_true,Bool.or_eq_true];refine⟨hbi,?_⟩;rcases hon with q|q
    ·exact .inl (by simpa using q)
    ·obtain⟨q1,q2⟩:=h _ _ hk q;exact .inr (reach_up Xa q2)
noncomputable def reachF(ops:Array Oper)(j k:Nat):Bool:=match Nat.beq (Nat.land (Nat.shiftRight (arM ops.size ops.toList 0 0) (Nat.add (Nat.mul j ops.size) k)) 1) 1 with
 |true=>match Nat.ble ops.size k with
  |true=>yKq ops ops.size j k
  |false=>true
 |false=>yKq ops ops.size j k
theorem reachF_eq(ops:Array Oper)(j k:Nat):reachF ops j k=yKq ops ops.size j k:=by
 unfold reachF;split
 ·rename_i h;split
  ·rfl
  ·rename_i h2;have hk:k<ops.size:=Nat.lt_of_not_le λq=>by rw[Nat.ble_eq_true_of_le q] at h2;cases h2
   have h:(arM ops.size ops.toList 0 0).testBit (j*ops.size+k)=true:=by
    have h:=Nat.eq_of_beq_eq_true h;have h:(arM ops.size ops.toList 0 0>>>(j*ops.size+k))&&&1=1:=h;unfold Nat.testBit;rw[Nat.and_comm,h];rfl
   obtain⟨q1,q2⟩:=arM_bit ops.toList 0 0 rfl (λj k _ hb=>by rw[Nat.zero_testBit] at hb;cases hb) j k hk h;rw[Nat.zero_add,Array.length_toList] at q1;exact(reach_up Xa q2).symm
 ·rfl
noncomputable def evsF(ops:Array Oper)(j:Nat)(x:Ev)(l:List (Nat×Ev)):Bool:=List.rec (motive:=λ_=>Bool) true (λp _ ih=>(match p.2.clash x with|true=>reachF ops j p.1|false=>true)&&ih) l
theorem evsF_eq(ops:Array Oper)(j:Nat)(x:Ev):∀l,evsF ops j x l=Zwq ops j x l
 |[]=>rfl
 |(k,y)::l=>by
  show((match y.clash x with|true=>reachF ops j k|false=>true)&&evsF ops j x l)=((match y.clash x with|true=>yKq ops ops.size j k|false=>true)&&Zwq ops j x l);rw[evsF_eq ops j x l,reachF_eq]
section
variable (S:Self) (F:Flow) (C:Cfg) (ops:Array Oper)
noncomputable def opsStep(o:Oper)(k:Tr V->Heap->Option (Tr V×Heap))(fr:Tr V)(h:Heap):Option (Tr V×Heap):=match xpq ops fr o with
 |some true=>match opVF S C fr h o with
  |some (v,h')=>k (putT fr o.dst v) h'
  |none=>none
 |some false=>k (putT fr o.dst .undef) h
 |none=>none
noncomputable def Zxq(l:List Oper):Tr V->Heap->Option (Tr V×Heap):=List.rec (motive:=λ_=>Tr V->Heap->Option (Tr V×Heap)) (λfr h=>some (fr,h)) (λo _ ih=>opsStep S C ops o ih) l
theorem uTq:∀l,Zxq S C ops l=yMq S C ops l
 |[]=>rfl
 |o::l=>by
  show opsStep S C ops o (Zxq S C ops l)=_;rw[uTq l];funext fr h
  unfold opsStep;rw[opVF_eq];conv=>rhs;unfold yMq
  all_goals rfl
noncomputable def Zsq(o:Oper)(k:Nat->List (Nat×Ev) ->Tr V->Heap->Option (Tr V×Heap))(i:Nat)(es:List (Nat×Ev))(fr:Tr V)(h:Heap):Option (Tr V×Heap):=match xpq ops fr o with
 |some true=>match stepFF S C fr h o with
  |some (v,h1,some x)=>match evsF ops i x es with
   |true=>k (i+1) ((i,x)::es) (putT fr o.dst v) h1
   |false=>none
  |some (v,h1,none)=>k (i+1) es (putT fr o.dst v) h1
  |none=>none
 |some false=>k (i+1) es (putT fr o.dst .undef) h
 |none=>none
noncomputable def uUq(l:List Oper):Nat->List (Nat×Ev) ->Tr V->Heap->Option (Tr V×Heap):=List.rec (motive:=λ_=>Nat->List (Nat×Ev) ->Tr V->Heap->Option (Tr V×Heap)) (λ_ _ fr h=>some (fr,h)) (λo _ ih=>Zsq S C ops o ih) l
theorem xYq:∀l,uUq S C ops l=ycq S C ops l
 |[]=>rfl
 |o::l=>by
  show Zsq S C ops o (uUq S C ops l)=_;rw[xYq l];funext i es fr h
  unfold Zsq;simp only[stepFF_eq,evsF_eq];conv=>rhs;unfold ycq
  all_goals rfl
noncomputable def cRegion(ops:Array Oper)(dr:Bool)(st:St):Option (Exit×St):=match (match dr with
  |true=>uUq S C ops ops.toList 0 [] st.fr st.h
  |false=>Zxq S C ops ops.toList st.fr st.h) with
 |some (fr,h)=>some (.normal,⟨fr,h,st.ds,st.rd⟩)
 |none=>none
noncomputable def cSeq(f g:St->Option (Exit×St))(st:St):Option (Exit×St):=match f st with
 |some (.normal,st')=>g st'
 |r=>r
noncomputable def cCond(c:Operand)(f g:St->Option (Exit×St))(st:St):Option (Exit×St):=match evV C st.fr c with
 |some (.bool true)=>f st
 |some (.bool false)=>g st
 |_=>none
noncomputable def cBlock(id:Nat)(f:St->Option (Exit×St))(st:St):Option (Exit×St):=match f st with
 |some (.exit id',st')=>match Nat.beq id' id with
  |true=>some (.normal,st')
  |false=>some (.exit id',st')
 |r=>r
noncomputable def cRange(g:Operand)(ps:Array Tmp)(asg bd:Code)(st:St):Option (Exit×St):=match st.rd,evV C st.fr g with
 |false,some (.fn gf [] c)=>match S.fn gf ([.yield (st.h.next+1)]++c) ((st.h.push (.dfr false)).push (.loop .ready none st.fr ps asg bd st.h.next)) with
  |some (_,h)=>xgq st st.h.next (st.h.next+1) h
  |none=>none
 |_,_=>none
noncomputable def cScope(x:Code)(f:St->Option (Exit×St))(st:St):Option (Exit×St):=match f st with
 |some (.goto l,st')=>F.scope x l st'
 |r=>r
noncomputable def yiq(c:Code):St->Option (Exit×St):=Code.rec (motive:=λ_=>St->Option (Exit×St)) (λst=>some (.normal,st)) (λ_ ops dr=>cRegion S C ops dr) (λ_ _ f g=>cSeq f g) (λc _ _ f g=>cCond C c f g) (λid _ f=>cBlock id f) (λx _=>F.loop x)
 (λg ps asg bd _ _=>cRange S C g ps asg bd) (λid st=>some (.exit id,st)) (λx f=>cScope F x f) (λ_ st=>some (.normal,st)) (λl st=>some (.goto l,st)) (λst=>some (.ret,st)) (λ_ _=>none) c
theorem z5q:∀c,yiq S F C c=zbq S F C c
 |.skip=>by funext st;unfold zbq;rfl
 |.region _ ops dr=>by
  funext st
  show cRegion S C ops dr st=_;unfold cRegion zbq;simp only[xYq,uTq];rfl
 |.seq x y=>by
  funext st
  show cSeq (yiq S F C x) (yiq S F C y) st=_;rw[z5q x,z5q y];unfold cSeq;conv=>rhs;unfold zbq
  all_goals rfl
 |.cond c x y=>by
  funext st
  show cCond C c (yiq S F C x) (yiq S F C y) st=_;rw[z5q x,z5q y];unfold cCond;conv=>rhs;unfold zbq
  all_goals rfl
 |.block id x=>by
  funext st
  show cBlock id (yiq S F C x) st=_;rw[z5q x];unfold cBlock;conv=>rhs;unfold zbq
  all_goals rfl
 |.loop x=>by funext st;unfold zbq;rfl
 |.rangeFunc g ps asg bd=>by
  funext st
  show cRange S C g ps asg bd st=_;unfold cRange zbq;rfl
 |.exit id=>by funext st;unfold zbq;rfl
 |.scope x=>by
  funext st
  show cScope F x (yiq S F C x) st=_;rw[z5q x];unfold cScope;conv=>rhs;unfold zbq
  all_goals rfl
 |.label _=>by funext st;unfold zbq;rfl
 |.goto _=>by funext st;unfold zbq;rfl
 |.ret=>by funext st;unfold zbq;rfl
 |.refuse _=>by funext st;unfold zbq;rfl
end
structure Four where
 fn:FuncId->List V->Heap->Option (V×Heap)
 yield:Nat->List V->Heap->Option (V×Heap)
 loop:Code->St->Option (Exit×St)
 scope:Code->Nat->St->Option (Exit×St)
section
variable (C:Cfg) (r:Four)
noncomputable def stepFn(f:FuncId)(vs:List V)(h:Heap):Option (V×Heap):=match C.known f with
 |some k=>k vs h
 |none=>match C.fn f with
  |none=>none
  |some fn=>match fn.body,Nat.ble vs.length fn.ntmps with
   |some c,true=>match yiq ⟨r.fn,r.yield⟩ ⟨r.loop,r.scope⟩ C c ⟨jJq 0 vs .nil,h,[],false⟩ with
    |some (.normal,st)=>finV C fn st
    |some (.ret,st)=>finV C fn st
    |_=>none
   |_,_=>none
noncomputable def ulq(l:Nat)(vs:List V)(h:Heap):Option (V×Heap):=match h.get l with
 |some (.loop .ready none fr ps asg bd d)=>match Nat.beq vs.length ps.size with
  |false=>none
  |true=>match yiq ⟨r.fn,r.yield⟩ ⟨r.loop,r.scope⟩ C asg ⟨setPs fr ps.toList vs,h,[],true⟩ with
   |some (.normal,st1)=>match st1.h.get l with
    |some (.loop .ready none fr1 ps1 asg1 bd1 d1)=>match yiq ⟨r.fn,r.yield⟩ ⟨r.loop,r.scope⟩ C bd ⟨st1.fr,st1.h.put l (.loop .busy none fr1 ps1 asg1 bd1 d1),st1.ds,st1.rd⟩ with
     |some (x,st2)=>match st2.h.get l with
      |some (.loop .busy none fr2 ps2 asg2 bd2 d2)=>match x with
       |.normal=>some (.bool true,st2.h.put l (.loop .ready none fr2 ps2 asg2 bd2 d2))
       |.ret=>some (.bool false,st2.h.put l (.loop .done (some .ret) fr2 ps2 asg2 bd2 d2))
       |.exit id=>some (.bool false,st2.h.put l (.loop .done (some (.exit id)) fr2 ps2 asg2 bd2 d2))
       |.goto id=>some (.bool false,st2.h.put l (.loop .done (some (.goto id)) fr2 ps2 asg2 bd2 d2))
       |_=>none
      |_=>none
     |none=>none
    |_=>none
   |_=>none
 |_=>none
noncomputable def v6q(c:Code)(st:St):Option (Exit×St):=match yiq ⟨r.fn,r.yield⟩ ⟨r.loop,r.scope⟩ C c st with
 |some (.normal,st')=>r.loop c st'
 |x=>x
noncomputable def umq(c:Code)(l:Nat)(st:St):Option (Exit×St):=match findLabel c l with
 |some rest=>match yiq ⟨r.fn,r.yield⟩ ⟨r.loop,r.scope⟩ C rest st with
  |some (.goto l',st')=>r.scope c l' st'
  |x=>x
 |none=>none
noncomputable def four(n:Nat):Four:=Nat.rec (motive:=λ_=>Four) ⟨λ_ _ _=>none,λ_ _ _=>none,λ_ _=>none,λ_ _ _=>none⟩ (λ_ r=>⟨stepFn C r,ulq C r,v6q C r,umq C r⟩) n
theorem kCq:∀n,four C n=⟨yhq C n,zLq C n,zRq C n,zJq C n⟩
 |0=>by
  show(⟨λ_ _ _=>none,λ_ _ _=>none,λ_ _=>none,λ_ _ _=>none⟩:Four)=_;congr 1
 |n+1=>by
  show(⟨stepFn C (four C n),ulq C (four C n),v6q C (four C n),umq C (four C n)⟩:Four)=_;rw[kCq n];congr 1
  ·funext f vs h
   unfold stepFn;simp only[z5q];conv=>rhs;unfold yhq
   all_goals rfl
  ·funext l vs h
   unfold ulq;simp only[z5q];conv=>rhs;unfold zLq
   all_goals rfl
  ·funext c st
   unfold v6q;simp only[z5q];conv=>rhs;unfold zRq
   all_goals rfl
  ·funext c l st
   unfold umq;simp only[z5q];conv=>rhs;unfold zJq
   all_goals rfl
end
theorem run_fastT{C:Cfg}{n:Nat}{f:FuncId}{vs:List V}{h:Heap}(e:isT ((four C n).fn f vs h)=1):isT (yhq C n f vs h)=1:=by
 rw[kCq] at e;exact e
noncomputable def vOq:Code->Option (Tmp×FuncId×List Operand)
 |.region _ ops false=>match ops.toList with
  |[⟨some t,.makeFunc (.func g) first caps,_,_,_,none⟩,⟨none,.defer ⟨.value (.tmp u),args,_⟩,_,_,_,none⟩]=>match Nat.beq t u,first.toList,args.toList with
   |true,[],[]=>some (t,g,caps.toList)
   |_,_,_=>none
  |_=>none
 |_=>none
theorem dferOf_spec{c:Code}{t:Tmp}{g:FuncId}{caps:List Operand}(h:vOq c=some (t,g,caps)):∃id ty1 p1 a1 ats ty2 p2 a2,c= .region id #[⟨some t,.makeFunc (.func g) #[] caps.toArray,ty1,p1,a1,none⟩,⟨none,.defer ⟨.value (.tmp t), #[],ats⟩,ty2,p2,a2,none⟩] false:=by
 unfold vOq at h;split at h
 ·rename_i id ops;split at h
  ·rename_i t' g' first caps' ty1 p1 a1 u args ats ty2 p2 a2 hops;split at h
   ·rename_i htu hf ha;cases h;have htu:=Nat.eq_of_beq_eq_true htu;subst htu;have hf:first= #[]:=by apply Array.toList_inj.1;simpa using hf
    have ha:args= #[]:=by apply Array.toList_inj.1;simpa using ha
    subst hf;subst ha
    refine⟨id,ty1,p1,a1,ats,ty2,p2,a2,?_⟩
    have:ops= #[⟨some t,.makeFunc (.func g) #[] caps',ty1,p1,a1,none⟩,⟨none,.defer ⟨.value (.tmp t), #[],ats⟩,ty2,p2,a2,none⟩]:=by
     apply Array.toList_inj.1;simpa using hops
    rw[this]
   ·cases h
  ·cases h
 ·cases h
noncomputable def preD(S:Self)(F:Flow)(C:Cfg):Code->St->Option ((Exit×St)×Option (FuncId×List V))
 |.seq x y,st=>match vOq x with
  |some (t,g,caps)=>match st.ds,evL C st.fr caps with
   |[],some vs=>match zbq S F C y ⟨putT st.fr (some t) (.fn g [] vs),st.h,[],st.rd⟩ with
    |some r=>some (r,some (g,vs))
    |none=>none
   |_,_=>none
  |none=>match zbq S F C x st with
   |some (.normal,st')=>preD S F C y st'
   |some r=>some (r,none)
   |none=>none
 |c,st=>match zbq S F C c st with
  |some r=>some (r,none)
  |none=>none
noncomputable def ZBq(N:Nat):Code->Bool
 |.seq x y=>match vOq x with
  |some (t,_,_)=>Nat.blt t N&&z8q N y
  |none=>z8q N x&&ZBq N y
 |c=>z8q N c
noncomputable def dTl(ρ:Env):Option (FuncId×List V) ->List Deferred
 |none=>[]
 |some (g,vs)=>[{target:=.fn (.func g) (zwq ρ vs).toArray,args:= #[]}]
noncomputable def dIn(D:Nat->Nat->Prop):Option (FuncId×List V) ->Prop
 |none=>True
 |some (_,vs)=>InDL D vs
noncomputable def resD(C:Cfg)(fn:Func)(fr:Tr V)(h:Heap):Option (V×Heap):=match resL C fr h fn.results.toList with
 |some [v]=>some (v,h)
 |some vs=>some (.tup vs,h)
 |none=>none
noncomputable def closD(C:Cfg)(n:Nat)(g:FuncId)(ws:List V)(h:Heap):Option Heap:=match C.fn g with
 |some fg=>match fg.body,fg.results.toList,Nat.ble ws.length fg.ntmps with
  |some cg,[],true=>match zbq ⟨yhq C n,zLq C n⟩ ⟨zRq C n,zJq C n⟩ C cg ⟨jJq 0 ws .nil,h,[],false⟩ with
   |some (.normal,s2)=>match s2.ds with
    |[]=>some s2.h
    |_=>none
   |some (.ret,s2)=>match s2.ds with
    |[]=>some s2.h
    |_=>none
   |_=>none
  |_,_,_=>none
 |none=>none
noncomputable def endD(C:Cfg)(n:Nat)(fn:Func)(st:St):Option (FuncId×List V) ->Option (V×Heap)
 |none=>finV C fn st
 |some (g,ws)=>match y6q st.ds st.h with
  |some h1=>match closD C n g ws h1 with
   |some h2=>resD C fn st.fr h2
   |none=>none
  |none=>none
noncomputable def runD(C:Cfg)(n:Nat)(fn:Func)(c:Code)(vs:List V)(h:Heap):Option (V×Heap):=match Nat.ble vs.length fn.ntmps,preD ⟨yhq C n,zLq C n⟩ ⟨zRq C n,zJq C n⟩ C c ⟨jJq 0 vs .nil,h,[],false⟩ with
 |true,some ((.normal,st),d)=>endD C n fn st d
 |true,some ((.ret,st),d)=>endD C n fn st d
 |_,_=>none
section
variable {P:Program} {C:Cfg} {s0:World} {U:Nat} {D:Nat->Prop} {ρ:Env} {fr:Tr V} {a:Act} {w:World} {h:Heap}
theorem xTq{fn:Func}{tmps:Array Value}{R:Ending->World->Prop}{tl:List Deferred}:∀(ds:List Nat) (h h1:Heap) (w:World),y6q ds h=some h1->h1.next<=U->Rel s0 U D ρ h w->(∀d∈ds,D d) ->
  (∀w',Rel s0 U D ρ h1 w'->Nxt D ρ h w D ρ h1 w'->LeavesInM Fence.wide 0 P fn tmps R tl .returning w') ->LeavesInM Fence.wide 0 P fn tmps R (ds.map (mkD ρ)++tl) .returning w
 |[],h,h1,w,e,_,rel,_,k=>by
  simp only[y6q,Option.some.injEq] at e;subst e;exact k w rel (Nxt.refl _ _ _ _)
 |d::ds,h,h1,w,e,hU,rel,hd,k=>by
  simp only[y6q] at e;split at e
  ·rename_i hg;have hD:=hd d Xe;obtain⟨o,q1,q2⟩:=rel.has d _ hD hg;have q2:o= .deferred (some []):=q2;subst q2;refine⟨by simp,.inl ⟨ρ.b d,_,rfl,run_takeDeferred q1,?_⟩⟩;have ht:=ybq (w:=w) (b:=ρ.b d) (.deferred none) (Array.getElem?_eq_some_iff.1 q1).1;obtain⟨r2,n2⟩:=rel.put (b':=.dfr true) hD hg Z Z ht rfl trivial;have hU2:=Nat.le_trans (qsq ds _ _ e).nxt hU;exact xTq ds _ h1 _ e hU r2 (λx hx=>hd x (by simp[hx])) λw' r3 n3=>k w' r3 (n2.trans rel.lt hU n3)
  ·cases e
theorem defer_region(hC:CfgOK P C)(g:FrE C D ρ fr a){id:Nat}{t:Tmp}{f:FuncId}{caps:Array Operand}{ty1 ty2:TypeId}{p1 p2:String}{a1 a2:Array Edge}{ats:Array TypeId}{vs:List V}(ht:t<a.tmps.size)(hv:evL C fr caps.toList=some vs){Q:Exit->Act->World->Prop}
  (k:Q .normal (({a.put (some t) (conc ρ (.fn f [] vs)) with defers:={target:=.fn (.func f) (zwq ρ vs).toArray,args:= #[]}::a.defers}:Act).put none undef) w):
  (Code.region id #[⟨some t,.makeFunc (.func f) #[] caps,ty1,p1,a1,none⟩,⟨none,.defer ⟨.value (.tmp t), #[],ats⟩,ty2,p2,a2,none⟩] false).wpIn (FF none) 0 P Q a w:=by
 have hp:zUq C fr ty1 (.makeFunc (.func f) #[] caps)=some (.fn f [] vs):=by simp[zUq,ztq,evL,hv]
 obtain⟨h1,h2⟩:=vvq hC g (o:=⟨some t,.makeFunc (.func f) #[] caps,ty1,p1,a1,none⟩) hp w;have g1:FrE C D ρ (putT fr (some t) (.fn f [] vs)) (a.put (some t) (conc ρ (.fn f [] vs))):=g.put (by simpa[uYq] using ht) h2;have hev:=(g1.ev (x:=.tmp t) (v:=.fn f [] vs) (by simp[evV,putT,Tr.get_set])).1;refine wpIn_region_list ?_;show wpListIn _ _ _ _ _ [_,_] a w;unfold wpListIn;rw[show Region.wanted _ _=true from rfl,if_pos rfl];refine j9q rfl (.inl h1) ?_;unfold wpListIn;rw[show Region.wanted _ _=true from rfl,if_pos rfl];refine⟨λf _=>vnq none f,?_⟩
 have hr:((⟨none,.defer ⟨.value (.tmp t), #[],ats⟩,ty2,p2,a2,none⟩:Oper).semAt (FF none).round (a.put (some t) (conc ρ (.fn f [] vs))).eval).run P w= .ok (.defer {target:=.fn (.func f) (zwq ρ vs).toArray,args:= #[]}) w:=by
  show(Oper.semAt none _ _).run P w=_;rw[Oper.semAt_none];simp only[execOp,resolve,hev];simp[conc,zwq,Deferred.ofValue]
 rw[hr,Oper.uponIn_defer];unfold wpListIn;exact k
theorem preD_sound(hmx:P.follows .mixedOrders=true)(hC:CfgOK P C){n:Nat}(ih:RunOK P C n){N:Nat}:∀c:Code,ZBq N c=true->∀st r d,preD ⟨yhq C n,zLq C n⟩ ⟨zRq C n,zJq C n⟩ C c st=some (r,d) ->
  Mono st.h r.2.h/\∀s0 U D ρ a w Q,r.2.h.next<=U->StR C s0 U N none [] D ρ st a w->
   (∀D' ρ' a' w',StR C s0 U N none (dTl ρ' d) D' ρ' r.2 a' w'->Nxt D ρ st.h w D' ρ' r.2.h w'->dIn (DD D' ρ') d->Q r.1 a' w') ->c.wpIn (FF none) 0 P Q a w:=by
 have plain:∀c:Code,z8q N c=true->∀st r d,(match zbq ⟨yhq C n,zLq C n⟩ ⟨zRq C n,zJq C n⟩ C c st with
   |some r=>some (r,none)
   |none=>none)=some (r,d) ->Mono st.h r.2.h/\∀s0 U D ρ a w Q,r.2.h.next<=U->StR C s0 U N none [] D ρ st a w->
   (∀D' ρ' a' w',StR C s0 U N none (dTl ρ' d) D' ρ' r.2 a' w'->Nxt D ρ st.h w D' ρ' r.2.h w'->dIn (DD D' ρ') d->Q r.1 a' w') ->c.wpIn (FF none) 0 P Q a w:=λc hok st r d he=>by
  split at he
  ·rename_i r' h1;cases he;obtain⟨x,st'⟩:=r;obtain⟨m1,k1⟩:=qrq hmx hC ih hok _ _ _ h1;exact⟨m1,λs0 U D ρ a w Q hU g k=>k1 s0 U none [] D ρ a w Q hU g λD' ρ' a' w' g' n'=>k D' ρ' a' w' g' n' trivial⟩
  ·cases he
 intro c;induction c with
 |seq x y _ ihy=>
  intro hok st r d he;simp only[ZBq] at hok;simp only[preD] at he;cases hd:vOq x with
  |some p=>
   obtain⟨t,f,caps⟩:=p;rw[hd] at he hok;simp only[Bool.and_eq_true] at hok he;have htN:t<N:=by simpa using hok.1
   obtain⟨id,ty1,p1,a1,ats,ty2,p2,a2,rfl⟩:=dferOf_spec hd;split at he
   ·rename_i vs hds hv;split at he
    ·rename_i r' h1;cases he;obtain⟨x,st'⟩:=r;obtain⟨m1,k1⟩:=qrq hmx hC ih hok.2 _ _ _ h1;refine⟨m1,λs0 U D ρ a w Q hU g k=>wpIn_seq (defer_region hC g.fr (by rw[g.size];exact htN) (by simpa using hv) ?_)⟩;have hin:InDL (DD D ρ) vs:=(g.fr.evs hv).2;have hdst:uYq a.tmps.size (some t)=true:=by rw[g.size];simpa[uYq] using htN
     have gp:=g.fr.put (d:=some t) (v:=.fn f [] vs) hdst ⟨trivial,hin⟩;have hdf:a.defers=[]:=by have:=g.defs;rw[hds] at this;simpa using this
     refine k1 s0 U none (dTl ρ (some (f,vs))) D ρ _ w Q hU ⟨⟨⟨gp.at_,gp.in_,gp.gl⟩⟩,g.rel,?_,?_,(λd hd=>by cases hd),g.rd⟩ λD' ρ' a' w' g' n'=>?_
     ·simp[Act.put,g.size]
     ·simp[Act.put,dTl,hdf]
     ·have hag:=n'.agree g.rel.lt hU;have e:dTl ρ' (some (f,vs))=dTl ρ (some (f,vs)):=by simp only[dTl,yNq hag hin]
      refine k D' ρ' a' w' (by rw[e];exact g') n' (hin.mono (n'.dd g.rel.lt hU))
    ·cases he
   ·cases he
  |none=>
   rw[hd] at he hok;simp only[Bool.and_eq_true] at hok he;split at he
   ·rename_i st1 h1;obtain⟨m1,k1⟩:=qrq hmx hC ih hok.1 _ _ _ h1;obtain⟨m2,k2⟩:=ihy hok.2 _ _ _ he;refine⟨m1.trans m2,λs0 U D ρ a w Q hU g k=>wpIn_seq (k1 s0 U none [] D ρ a w _ (Nat.le_trans m2.nxt hU) g λD1 ρ1 a1 w1 g1 n1=>?_)⟩;exact k2 s0 U D1 ρ1 a1 w1 Q hU g1 λD2 ρ2 a2 w2 g2 n2 hi=>k D2 ρ2 a2 w2 g2 (n1.trans g.rel.lt hU n2) hi
   ·rename_i r' hne h1;cases he;obtain⟨e,st'⟩:=r;obtain⟨m1,k1⟩:=qrq hmx hC ih hok.1 _ _ _ h1;refine⟨m1,λs0 U D ρ a w Q hU g k=>wpIn_seq (k1 s0 U none [] D ρ a w _ hU g λD1 ρ1 a1 w1 g1 n1=>?_)⟩;have:=k D1 ρ1 a1 w1 g1 n1 trivial;cases e<;>first|exact this|exact absurd rfl (hne _)
   ·cases he
 |_=>exact λhok st r d he=>plain _ hok st r d he
theorem resD_spec(hC:CfgOK P C){fn:Func}{v:V}{h h':Heap}(hr:resD C fn fr h=some (v,h'))(g:FrE C D ρ fr a)(rel:Rel s0 U D ρ h w):h'=h/\∃x,(results fn a.tmps).run P w= .ok x w/\x=conc ρ v/\InD (DD D ρ) v:=by
 unfold resD at hr;split at hr
 ·rename_i u hu;cases hr;obtain⟨q1,q2⟩:=jNq hC g rel _ _ hu
  have hrl:∃rv,fn.results.toList=[rv]:=by
   cases hl:fn.results.toList with
   |nil=>rw[hl] at q1;exact q1.elim
   |cons rv l=>cases l with
    |nil=>exact⟨rv,rfl⟩
    |cons _ _=>rw[hl] at q1;exact q1.2.elim
  obtain⟨rv,hrv⟩:=hrl;rw[hrv] at q1;exact⟨rfl,_,results1 (by apply Array.toList_inj.1;simpa using hrv) q1.1,rfl,q2.1⟩
 ·rename_i us hne hu;cases hr;obtain⟨q1,q2⟩:=jNq hC g rel _ _ hu;refine⟨rfl,_,resultsN (rvs:=fn.results.toList) Xe (λe=>?_) q1,by simp[conc],q2⟩;rw[yzq] at e;cases us with
  |nil=>cases e
  |cons u us=>cases us with
   |nil=>exact hne _ rfl
   |cons _ _=>cases e
 ·cases hr
theorem known_defer(hmx:P.follows .mixedOrders=true)(hC:CfgOK P C)(hF:khq P C)(hK:yQq P C){n:Nat}{f:FuncId}{fn:Func}{c:Code}(hf:P.funcs[f]? =some fn)(hb:fn.body=some c)(hent:∀args w,(callFunc f args).run P w= .ok (.enter f args) w)(hok:ZBq fn.ntmps c=true):
  qCq P C f (runD C n fn c):=λvs h v h' he=>by
 have ih:=upq hmx hC hF hK n;unfold runD at he
 have key :∀x st d,(x= .normal\/x= .ret) ->Nat.ble vs.length fn.ntmps=true->preD ⟨yhq C n,zLq C n⟩ ⟨zRq C n,zJq C n⟩ C c ⟨jJq 0 vs .nil,h,[],false⟩=some ((x,st),d) ->endD C n fn st d=some (v,h') ->
   Mono h h'/\∀s0 U D ρ w,h'.next<=U->GlobOK C (DD D ρ) ρ->InDL (DD D ρ) vs->Rel s0 U D ρ h w->Calls P f (zwq ρ vs).toArray w (q1q s0 U D ρ h w v h'):=λx st d hx hle h1 h2=>by
  have hle:=Zb hle;obtain⟨m1,k1⟩:=preD_sound hmx hC ih c hok _ _ _ h1
  have harg:∀(vs:List V) (m:Nat) (D:Nat->Prop) (ρ:Env),InDL (DD D ρ) vs->vs.length<=m->∀t u,(jJq 0 vs .nil).get t=some u->((zwq ρ vs).toArray++Array.replicate (m-(zwq ρ vs).toArray.size) undef)[t]? =some (conc ρ u)/\InD (DD D ρ) u:=λvs m D ρ hin hle t u hu=>by
   rw[xmq] at hu;split at hu
   ·rename_i hlt;simp only[Nat.sub_zero,Nat.zero_add] at hu hlt;refine⟨?_,InDL.at_ hin hu⟩;rw[Array.getElem?_append_left (by simp[yzq];exact hlt.2),kdq];simp[hu]
   ·simp[Tr.get_nil] at hu
  have hsz:∀(vs:List V) (m:Nat) (ρ:Env),vs.length<=m->((zwq ρ vs).toArray++Array.replicate (m-(zwq ρ vs).toArray.size) undef).size=m:=λvs m ρ hle=>by
   simp only[Array.size_append,Array.size_replicate,List.size_toArray,yzq];omega
  cases d with
  |none=>
   have m2:=xcq h2;refine⟨m1.trans m2,λs0 U D ρ w hU gl hin rel=>?_⟩;refine callsIn_wide.1 (callsIn_of_wp_marks (F:=Fence.wide) (n:=0) hf hb trivial ?_);refine k1 s0 U D ρ _ w _ (Nat.le_trans m2.nxt hU) ⟨⟨⟨λt u hu=>(harg vs _ D ρ hin hle t u hu).1,λt u hu=>(harg vs _ D ρ hin hle t u hu).2,gl⟩⟩,rel,hsz _ _ _ hle,rfl,(λd hd=>by cases hd),rfl⟩ λD1 ρ1 a1 w1 g1 n1 _=>?_
   have fin:=fin_sound (P:=P) hC h2 hU g1 (R:=q1q s0 U D ρ h w v h') λw' r' n' i'=>⟨D1,ρ1,rfl,r',n1.trans rel.lt hU n',i'⟩
   rcases hx with rfl|rfl<;>exact fin
  | some p=>
   obtain⟨g,ws⟩:=p;simp only[endD] at h2;split at h2
   ·rename_i hh1 htake;split at h2
    ·rename_i hh2 hclos;have mt:=qsq _ _ _ htake;unfold closD at hclos;split at hclos
     ·rename_i fg hfg;obtain⟨hgf,hge,hgok⟩:=hF g fg hfg;split at hclos
      ·rename_i cg hgb hgr hgle;have hgle:=Zb hgle;have hgres:fg.results= #[]:=by apply Array.toList_inj.1;simpa using hgr
       have key2:∃x2 s2,(x2= .normal\/x2= .ret)/\zbq ⟨yhq C n,zLq C n⟩ ⟨zRq C n,zJq C n⟩ C cg ⟨jJq 0 ws .nil,hh1,[],false⟩=some (x2,s2)/\s2.ds=[]/\s2.h=hh2:=by
        split at hclos
        ·rename_i s2 e2;split at hclos
         ·rename_i hds;cases hclos;exact⟨_,_,.inl rfl,e2,hds,rfl⟩
         ·cases hclos
        ·rename_i s2 e2;split at hclos
         ·rename_i hds;cases hclos;exact⟨_,_,.inr rfl,e2,hds,rfl⟩
         ·cases hclos
        ·cases hclos
       obtain⟨x2,s2,hx2,e2,hds2,rfl⟩:=key2;obtain⟨m3,k3⟩:=qrq hmx hC ih (hgok cg hgb) _ _ _ e2
       have hh':h'=s2.h:=by
        unfold resD at h2;split at h2<;>first|(cases h2;rfl)|cases h2
       subst hh';refine⟨(m1.trans mt).trans m3,λs0 U D ρ w hU gl hin rel=>?_⟩;have hU1:hh1.next<=U:=Nat.le_trans m3.nxt hU;refine callsIn_wide.1 (callsIn_of_wp_marks (F:=Fence.wide) (n:=0) hf hb trivial ?_);refine k1 s0 U D ρ _ w _ (Nat.le_trans mt.nxt hU1) ⟨⟨⟨λt u hu=>(harg vs _ D ρ hin hle t u hu).1,λt u hu=>(harg vs _ D ρ hin hle t u hu).2,gl⟩⟩,rel,hsz _ _ _ hle,rfl,(λd hd=>by cases hd),rfl⟩ λD1 ρ1 a1 w1 g1 n1 hi1=>?_
       have leave:LeavesInM Fence.wide 0 P fn a1.tmps (q1q s0 U D ρ h w v s2.h) a1.defers .returning w1:=by
        rw[g1.defs];refine xTq _ _ _ _ htake hU1 g1.rel g1.din λw2 r2 n2=>?_
        have hag2:=n2.agree g1.rel.lt hU1;have hws:InDL (DD D1 ρ1) ws:=hi1;have ginit:=GlobOK.next g1.fr.gl g1.rel.lt hU1 n2;show LeavesInM Fence.wide 0 P fn a1.tmps (q1q s0 U D ρ h w v s2.h) ({target:=.fn (.func g) (zwq ρ1 ws).toArray,args:= #[]}::[]) .returning w2;refine⟨by simp,.inr ⟨λh=>(by cases h),.func g,(zwq ρ1 ws).toArray,g,(zwq ρ1 ws).toArray,rfl,?_,λ_ _=>trivial,?_⟩⟩
        ·show(invoke (.fn (.func g) (zwq ρ1 ws).toArray) #[]).run P w2=_;have:=hge (zwq ρ1 ws).toArray w2;simpa[invoke] using this
        ·have cd:=callsDIn_of_wp (F:=Fence.wide) (n:=0-1) (P:=P) (args:=(zwq ρ1 ws).toArray) (u:=.returning) (w:=w2) (R:=λe w'=>(∃x,e= .returned x)/\∃D3 ρ3,Rel s0 U D3 ρ3 s2.h w'/\Nxt D1 ρ1 hh1 w2 D3 ρ3 s2.h w') hgf hgb trivial (by
          refine k3 s0 U none [] D1 ρ1 _ w2 _ hU ⟨⟨⟨λt u hu=>(harg ws _ D1 ρ1 hws hgle t u hu).1,λt u hu=>(harg ws _ D1 ρ1 hws hgle t u hu).2,ginit⟩⟩,r2,hsz _ _ _ hgle,rfl,(λd hd=>by cases hd),rfl⟩ λD3 ρ3 a3 w3 g3 n3=>?_
          have hd3:a3.defers=[]:=by have:=g3.defs;rw[hds2] at this;simpa using this
          have hres:∃x,(results fg a3.tmps).run P w3= .ok x w3:=⟨.tuple #[],by simp[results,hgres]⟩
          obtain⟨x,hx⟩:=hres;have:a3.defers=[]/\∃x,(results fg a3.tmps).run P w3= .ok x w3/\((∃y,Ending.returned x= .returned y)/\∃D3 ρ3,Rel s0 U D3 ρ3 s2.h w3/\Nxt D1 ρ1 hh1 w2 D3 ρ3 s2.h w3):=⟨hd3,x,hx,⟨x,rfl⟩,D3,ρ3,g3.rel,n3⟩
          rcases hx2 with rfl|rfl<;>exact this)
         refine cd.mono ?_;rintro e u' w3 ⟨rfl,⟨x,rfl⟩,D3,ρ3,r3,n3⟩;have n23:=n2.trans g1.rel.lt hU n3;have gfr:=g1.fr.next g1.rel.lt hU n23;obtain⟨_,y,y1,y2,y3⟩:=resD_spec hC h2 gfr r3;exact⟨y,y1,D3,ρ3,by rw[y2],r3,n1.trans rel.lt hU n23,y3⟩
       rcases hx with rfl|rfl<;>exact leave
      ·cases hclos
     ·cases hclos
    ·cases h2
   ·cases h2
 split at he
 ·rename_i st d h1 h2;obtain⟨q1,q2⟩:=key _ _ _ (.inl rfl) h1 h2 he;exact⟨q1,hent,q2⟩
 ·rename_i st d h1 h2;obtain⟨q1,q2⟩:=key _ _ _ (.inr rfl) h1 h2 he;exact⟨q1,hent,q2⟩
 ·cases he
end
noncomputable def preDF(S:Self)(F:Flow)(C:Cfg):Code->St->Option ((Exit×St)×Option (FuncId×List V))
 |.seq x y,st=>match vOq x with
  |some (t,g,caps)=>match st.ds,evL C st.fr caps with
   |[],some vs=>match yiq S F C y ⟨putT st.fr (some t) (.fn g [] vs),st.h,[],st.rd⟩ with
    |some r=>some (r,some (g,vs))
    |none=>none
   |_,_=>none
  |none=>match yiq S F C x st with
   |some (.normal,st')=>preDF S F C y st'
   |some r=>some (r,none)
   |none=>none
 |c,st=>match yiq S F C c st with
  |some r=>some (r,none)
  |none=>none
theorem preDF_eq(S:Self)(F:Flow)(C:Cfg):∀c,preDF S F C c=preD S F C c:=by
 intro c;induction c with
 |seq x y _ ih=>
  funext st
  simp only[preDF,preD,z5q,ih];try rfl
 |_=>
  funext st
  simp only[preDF,preD,z5q];try rfl
noncomputable def closDF(C:Cfg)(r:Four)(g:FuncId)(ws:List V)(h:Heap):Option Heap:=match C.fn g with
 |some fg=>match fg.body,fg.results.toList,Nat.ble ws.length fg.ntmps with
  |some cg,[],true=>match yiq ⟨r.fn,r.yield⟩ ⟨r.loop,r.scope⟩ C cg ⟨jJq 0 ws .nil,h,[],false⟩ with
   |some (.normal,s2)=>match s2.ds with
    |[]=>some s2.h
    |_=>none
   |some (.ret,s2)=>match s2.ds with
    |[]=>some s2.h
    |_=>none
   |_=>none
  |_,_,_=>none
 |none=>none
noncomputable def endDF(C:Cfg)(r:Four)(fn:Func)(st:St):Option (FuncId×List V) ->Option (V×Heap)
 |none=>finV C fn st
 |some (g,ws)=>match y6q st.ds st.h with
  |some h1=>match closDF C r g ws h1 with
   |some h2=>resD C fn st.fr h2
   |none=>none
  |none=>none
noncomputable def runDF(C:Cfg)(n:Nat)(fn:Func)(c:Code)(vs:List V)(h:Heap):Option (V×Heap):=match Nat.ble vs.length fn.ntmps,preDF ⟨(four C n).fn,(four C n).yield⟩ ⟨(four C n).loop,(four C n).scope⟩ C c ⟨jJq 0 vs .nil,h,[],false⟩ with
 |true,some ((.normal,st),d)=>endDF C (four C n) fn st d
 |true,some ((.ret,st),d)=>endDF C (four C n) fn st d
 |_,_=>none
theorem closDF_eq(C:Cfg)(n:Nat)(g:FuncId)(ws:List V)(h:Heap):closDF C (four C n) g ws h=closD C n g ws h:=by
 unfold closDF closD;simp only[z5q,kCq];try rfl
theorem endDF_eq(C:Cfg)(n:Nat)(fn:Func)(st:St)(d:Option (FuncId×List V)):endDF C (four C n) fn st d=endD C n fn st d:=by
 cases d with
 |none=>rfl
 |some p=>
  obtain⟨g,ws⟩:=p;simp only[endDF,endD,closDF_eq];try rfl
theorem runDF_eq(C:Cfg)(n:Nat)(fn:Func)(c:Code):runDF C n fn c=runD C n fn c:=by
 funext vs h
 unfold runDF runD;simp only[preDF_eq,endDF_eq];simp only[kCq];try rfl
noncomputable def askBody:Code:=match Tryz.f385.body with
 |some c=>c
 |none=>.skip
noncomputable def askK:List V->Heap->Option (V×Heap):=runDF cfg2 3000 Tryz.f385 askBody
theorem askOK:qCq Tryz.prog cfg2 385 askK:=by
 unfold askK;rw[runDF_eq];exact known_defer mixed cfg2OK fns2OK known2OK Tryz.func385 Xb (Go.Proofs.enters_of Tryz.func385 Xb rfl) Xb
noncomputable def known3T:Tr (List V->Heap->Option (V×Heap)):=known2T.set 385 (some askK)
noncomputable def cfg3:Cfg:={cfg with known:=λf=>known3T.get f}
theorem known3OK:yQq Tryz.prog cfg3:=λf k hk=>by
 have e:known3T.get f=if f=385 then some askK else known2T.get f:=by
  unfold known3T;rw[Tr.get_set]
 have hk:known3T.get f=some k:=hk;rw[e] at hk;split at hk
 ·rename_i hf;cases hk;subst hf;exact askOK
 ·exact known2OK f k hk
noncomputable def repK:List V->Heap->Option (V×Heap):=λvs h=>match vs with
 |[.str s,.int .i64 (.ofNat c)]=>match Nat.ble c 9223372036854775807&&Nat.ble (s.length*c) 140737488355328 with
  |true=>some (.str (Lib.repeatL s c),h)
  |false=>none
 |_=>none
theorem repOK:qCq Tryz.prog cfg3 36 repK:=λvs h v h' he=>by
 unfold repK at he;split at he
 ·rename_i s c;split at he
  ·rename_i hc;simp only[Bool.and_eq_true] at hc;cases he;refine⟨Mono.refl _,Go.Proofs.enters_of Tryz.func36 Xb rfl,λs0 U D ρ w hU gl hin rel=>?_⟩;have key:=repMany ⟨⟨s⟩⟩ c w (Zb hc.1) (Zb hc.2);have e:(zwq ρ [.str s,.int .i64 (.ofNat c)]).toArray= #[.string ⟨⟨s⟩⟩,.int .i64 (c:Int)]:=by simp[zwq,conc]
   rw[e];refine key.mono λe w'=>?_
   rintro⟨rfl,b⟩;have hs:=rel.base.size;have same:∀k,k<w.heap.size->w'.heap[k]? =w.heap[k]? :=b.block
   refine⟨D,ρ,rfl,⟨rel.lt,rel.wf,λi x hi hx=>?_,rel.clo,rel.inj,rel.own,rel.old,⟨b.os.trans rel.base.os,b.tape.trans rel.base.tape,b.output.trans rel.base.output,Nat.le_trans hs b.size,λk hk=>(same k Xa).trans (rel.base.block k hk)⟩⟩,⟨λ_ h=>h,λ_ h=>.inl h,λ_ _=>⟨rfl,rfl,rfl,rfl⟩,λk hk _=>same k hk,λi _ h1 h2=>by omega,b.size,Nat.le_refl _,Nat.le_refl _,b.os,b.tape,b.output⟩,trivial⟩;obtain⟨o,q1,q2⟩:=rel.has i x hi hx;exact⟨o,by rw[same _ (Array.getElem?_eq_some_iff.1 q1).1];exact q1,q2⟩
  ·cases he
 ·cases he
noncomputable def known4T:Tr (List V->Heap->Option (V×Heap)):=known3T.set 36 (some repK)
noncomputable def cfg4:Cfg:={cfg with known:=λf=>known4T.get f}
theorem cfg4OK:CfgOK Tryz.prog cfg4:=⟨cfgOK.ty,cfgOK.ext,cfgOK.mp,cfgOK.mt,cfgOK.ptr,cfgOK.raw,cfgOK.fnc,cfgOK.room⟩
theorem fns4OK:khq Tryz.prog cfg4:=fnsOK
theorem Zoq:yQq Tryz.prog cfg4:=λf k hk=>by
 have e:known4T.get f=if f=36 then some repK else known3T.get f:=by
  unfold known4T;rw[Tr.get_set]
 have hk:known4T.get f=some k:=hk;rw[e] at hk;split at hk
 ·rename_i hf;cases hk;subst hf;exact repOK
 ·exact known3OK f k hk
end
noncomputable def n8(l:List Nat):List V:=l.map λn=>.int .u8 (.ofNat n)
noncomputable def z8(n:Nat):List V:=List.replicate n (.int .u8 0)
noncomputable def kgB:Blk:=.ro (.arr 64 1 (kW.map u32V))
section
open Go.RowKit
structure LitC where
 vs:List V
 old:List (Nat×Blk)
 next:Nat
 v:V
 new:List (Nat×Blk)
 last:Nat
noncomputable def qXq(t:Tr Blk):List (Nat×Blk) ->Tr Blk
 |[]=>t
 |(i,b)::l=>(qXq t l).set i (some b)
theorem xtq{t:Tr Blk}{i:Nat}:∀{l:List (Nat×Blk)} {b:Blk},(qXq t l).get i=some b->(∃p∈l,p.1=i/\p.2=b)\/(t.get i=some b/\∀p∈l,p.1≠i)
 |[],b,h=>.inr ⟨h,by simp⟩
 | (j,c)::l,b,h=>by
  simp only[qXq,Tr.get_set] at h;split at h
  ·rename_i e;exact .inl ⟨(j,c),List.mem_cons_self ..,e.symm,Option.some.inj h⟩
  ·rename_i e;rcases xtq h with ⟨p,h1,h2⟩|⟨h1,h2⟩
   ·exact .inl ⟨p,List.mem_cons_of_mem _ h1,h2⟩
   ·refine .inr ⟨h1,λp hp=>?_⟩;rcases List.mem_cons.1 hp with rfl|hp
    ·exact λq=>e q.symm
    ·exact h2 p hp
theorem kWq{t:Tr Blk}{i:Nat}:∀{l:List (Nat×Blk)},(∀p∈l,p.1≠i) ->(qXq t l).get i=t.get i
 |[],_=>rfl
 |(j,c)::l,h=>by
  simp only[qXq,Tr.get_set];rw[if_neg (λe=>h (j,c) (List.mem_cons_self ..) e.symm),kWq λp hp=>h p (List.mem_cons_of_mem _ hp)]
noncomputable def getB(h:Heap):List (Nat×Blk) ->Bool
 |[]=>true
 |(i,b)::l=>match h.get i with
  |some c=>match sqBlk c b with
   |true=>getB h l
   |false=>false
  |none=>false
theorem getB_of{h:Heap}:∀{l:List (Nat×Blk)},getB h l=true->∀p∈l,h.get p.1=some p.2
 |[],_,p,hp=>by cases hp
 | (i,b)::l,hq,p,hp=>by
  simp only[getB] at hq;split at hq
  ·rename_i c hc;split at hq
   ·rename_i q;rcases List.mem_cons.1 hp with rfl|hp
    ·rw[<-sqBlk_of q];exact hc
    ·exact getB_of hq p hp
   ·cases hq
  ·cases hq
noncomputable def rngB(lo hi:Nat):List (Nat×Blk) ->Bool
 |[]=>true
 |(i,_)::l=>match Nat.ble lo i&&Nat.blt i hi with
  |true=>rngB lo hi l
  |false=>false
theorem rngB_of{lo hi:Nat}:∀{l:List (Nat×Blk)},rngB lo hi l=true->∀p∈l,lo<=p.1/\p.1<hi
 |[],_,p,hp=>by cases hp
 |(i,b)::l,hq,p,hp=>by
  simp only[rngB] at hq;split at hq
  ·rename_i q;rw[Bool.and_eq_true] at q;rcases List.mem_cons.1 hp with rfl|hp
   ·exact⟨Zb q.1,by simpa using q.2⟩
   ·exact rngB_of hq p hp
  ·cases hq
noncomputable def LitC.heap(c:LitC):Heap:=⟨c.next,c.next,qXq .nil c.old⟩
noncomputable def zQq(c:LitC):Option (V×Heap) ->Nat
 |some (v,h)=>match sqV v c.v&&(Nat.beq h.next c.last&&(Nat.ble c.next h.wmin&&(getB h c.new&&(rngB c.next c.last c.new&&rngB 0 c.next c.old)))) with
  |true=>1
  |false=>0
 |none=>0
noncomputable def litK:List LitC->List V->Heap->Option (V×Heap)
 |[],_,_=>none
 |c::l,vs,h=>match Nat.beq h.next c.next&&(sqVL vs c.vs&&getB h c.old) with
  |true=>some (c.v,⟨c.last,h.wmin,qXq h.tr c.new⟩)
  |false=>litK l vs h
theorem known_lit1{P:Program}{C:Cfg}(hmx:P.follows .mixedOrders=true)(hC:CfgOK P C)(hF:khq P C)(hK:yQq P C){n:Nat}{f:FuncId}{c:LitC}(hr:zQq c (yhq C n f c.vs c.heap)=1){vs:List V}{h:Heap}(hm:(Nat.beq h.next c.next&&(sqVL vs c.vs&&getB h c.old))=true):
  Mono h ⟨c.last,h.wmin,qXq h.tr c.new⟩/\(∀args w,(callFunc f args).run P w= .ok (.enter f args) w)/\∀s0 U D ρ w,c.last<=U->GlobOK C (DD D ρ) ρ->InDL (DD D ρ) vs->Rel s0 U D ρ h w->Calls P f (zwq ρ vs).toArray w (q1q s0 U D ρ h w c.v ⟨c.last,h.wmin,qXq h.tr c.new⟩):=by
 simp only[Bool.and_eq_true] at hm;obtain⟨m1,m2,m3⟩:=hm;have hnx:=Nat.eq_of_beq_eq_true m1;obtain rfl:=kqq m2;have hold:=getB_of m3;unfold zQq at hr;split at hr
 ·rename_i v hs hrun;split at hr
  ·rename_i hq;simp only[Bool.and_eq_true] at hq;obtain⟨q1,q2,q3,q4,q5,q6⟩:=hq;obtain rfl:=sqV_of q1;have hlast:=Nat.eq_of_beq_eq_true q2;have hwm:=Zb q3;have hnew:=getB_of q4;have hin:=rngB_of q5;have hin0:=rngB_of q6;have rn:=(upq hmx hC hF hK n).self;have hmono:=rn.fnMono _ _ _ _ _ hrun;have hle:c.next<=c.last:=by have h1:c.next<=hs.next:=hmono.nxt;omega
   have hsub:∀i b,c.heap.get i=some b->h.get i=some b:=λi b hb=>by
    rcases xtq (show(qXq .nil c.old).get i=some b from hb) with ⟨p,h1,rfl,rfl⟩|⟨h1,_⟩
    ·exact hold p h1
    ·rw[Tr.get_nil] at h1;cases h1
   have hkeep:∀i,i<h.next->(qXq h.tr c.new).get i=h.get i:=λi hi=>kWq λp hp e=>by have:=(hin p hp).1;omega
   refine⟨⟨by show h.next<=c.last;omega,λhwf i hi=>?_,Nat.le_refl _,λi hi _=>hkeep i hi⟩,rn.fnEnter _ _ _ _ _ hrun,λs0 U D ρ w hU gl hvs rel=>?_⟩
   ·have hi:c.last<=i:=hi;show(qXq h.tr c.new).get i=none;rw[kWq λp hp e=>by have:=(hin p hp).2;omega];exact hwf i Xa
   ·have relS:Rel s0 U D ρ c.heap w:=by
     refine⟨λi hi=>?_,λi hi=>?_,λi b hi hb=>rel.has i b hi (hsub i b hb),λi b hi hb=>rel.clo i b hi (hsub i b hb),λi j b d hi hj hb hd=>rel.inj i j b d hi hj (hsub i b hb) (hsub j d hd),λi b hi hb=>rel.own i b hi (hsub i b hb),λi j b d hi hj hb hd=>rel.old i j b d hi hj (hsub i b hb) (hsub j d hd),rel.base⟩
     ·have:=rel.lt i hi;show i<c.next\/U<=i;omega
     ·have hi:c.next<=i:=hi;cases e:c.heap.get i with
      |none=>rfl
      |some b=>
       have h1:=hsub i b e;rw[rel.wf i Xa] at h1;cases h1
    refine(rn.fn _ _ _ _ _ hrun s0 U D ρ w Xa gl hvs relS).mono λe w'=>?_
    rintro⟨D',ρ',rfl,r',n',i'⟩
    have same:∀d,d<w.heap.size->w'.heap[d]? =w.heap[d]? :=λd hd=>n'.frame d hd λi _ h2 h3=>by
     have h3:i<c.next:=h3;omega
    have henv:∀i,i<h.next\/U<=i->ρ'.b i=ρ.b i/\ρ'.pre i=ρ.pre i/\ρ'.cap i=ρ.cap i/\ρ'.l i=ρ.l i:=λi hi=>n'.env i (by
     show i<c.next\/hs.next<=i;omega)
    have hag:Env.Agree (DD D ρ) ρ ρ':=λi m hi=>henv i (rel.lt i hi.1)
    have hmon:∀i m,DD D ρ i m->DD D' ρ' i m:=λi m hi=>⟨n'.sub i hi.1,by rw[(henv i (rel.lt i hi.1)).2.2.1];exact hi.2⟩
    have hfresh:∀i,D' i->h.next<=i->i<c.last->w.heap.size<=ρ'.b i:=λi h1 h2 h3=>by
     rcases n'.fresh i h1 (by show c.next<=i;omega) Xa with q|⟨j,_,q2,q3,_⟩
     ·exact q
     ·have q3:j<c.next:=q3;omega
    --a block that is there,is an old one or a new one
    have hcase:∀i b,D' i->(qXq h.tr c.new).get i=some b->(D i/\i<h.next/\h.get i=some b)\/(h.next<=i/\i<c.last/\hs.get i=some b):=λi b hi hb=>by
     rcases xtq hb with ⟨p,h1,rfl,rfl⟩|⟨h1,_⟩
     ·exact .inr ⟨by have:=(hin p h1).1;omega,(hin p h1).2,hnew p h1⟩
     ·have h1:h.get i=some b:=h1;have hlt:i<h.next:=Nat.lt_of_not_le λq=>by rw[rel.wf i q] at h1;cases h1
      rcases n'.new i hi with q|⟨q,_⟩
      ·exact .inl ⟨q,hlt,h1⟩
      ·have q:c.next<=i:=q;omega
    have hsz:∀i b,D i->h.get i=some b->ρ.b i<w.heap.size:=λi b hi hb=>by
     obtain⟨o,q1,_⟩:=rel.has i b hi hb;exact(Array.getElem?_eq_some_iff.1 q1).1
    have eold:∀i,D i->ρ'.b i=ρ.b i:=λi hi=>(henv i (rel.lt i hi)).1
    refine⟨D',ρ',rfl,⟨λi hi=>?_,λi hi=>?_,λi b hi hb=>?_,λi b hi hb=>?_,λi j b d hi hj hb hd o1 o2 hne=>?_,λi b hi hb o1=>?_,λi j b d hi hj hb hd o1 o2=>?_,r'.base⟩,⟨n'.sub,λi hi=>?_,λi hi=>?_,λd hd _=>same d hd,λi hi h1 h2=>.inl (hfresh i hi h1 h2),n'.size,Nat.le_refl _,by show h.next<=c.last;omega,n'.os,n'.tape,n'.output⟩,i'⟩
    ·have:=r'.lt i hi;show i<c.last\/U<=i;omega
    ·have hi:c.last<=i:=hi;show(qXq h.tr c.new).get i=none;rw[kWq λp hp e=>by have:=(hin p hp).2;omega];exact rel.wf i Xa
    ·rcases hcase i b hi hb with ⟨d1,d2,d3⟩|⟨d1,d2,d3⟩
     ·obtain⟨o,q1,q2⟩:=rel.has i b d1 d3;refine⟨o,by rw[eold i d1,same _ (hsz i b d1 d3)];exact q1,q2.agree hag (m:=0) ⟨d1,Nat.zero_le _⟩ (rel.clo i b d1 d3)⟩
     ·exact r'.has i b hi d3
    ·rcases hcase i b hi hb with ⟨d1,d2,d3⟩|⟨d1,d2,d3⟩
     ·exact InB.mono hmon (rel.clo i b d1 d3)
     ·exact r'.clo i b hi d3
    ·rcases hcase i b hi hb with ⟨d1,d2,d3⟩|⟨d1,d2,d3⟩<;>rcases hcase j d hj hd with ⟨f1,f2,f3⟩|⟨f1,f2,f3⟩
     ·rw[eold i d1,eold j f1];exact rel.inj i j b d d1 f1 d3 f3 o1 o2 hne
     ·have:=hfresh j hj f1 f2;have:=hsz i b d1 d3;rw[eold i d1];omega
     ·have:=hfresh i hi d1 d2;have:=hsz j d f1 f3;rw[eold j f1];omega
     ·exact r'.inj i j b d hi hj d3 f3 o1 o2 hne
    ·rcases hcase i b hi hb with ⟨d1,d2,d3⟩|⟨d1,d2,d3⟩
     ·rw[eold i d1];exact rel.own i b d1 d3 o1
     ·exact r'.own i b hi d3 o1
    ·rcases hcase i b hi hb with ⟨d1,d2,d3⟩|⟨d1,d2,d3⟩<;>rcases hcase j d hj hd with ⟨f1,f2,f3⟩|⟨f1,f2,f3⟩
     ·rw[eold i d1,eold j f1];exact rel.old i j b d d1 f1 d3 f3 o1 o2
     ·have:=hfresh j hj f1 f2;have:=hsz i b d1 d3;rw[eold i d1];omega
     ·have:=hfresh i hi d1 d2;have:=hsz j d f1 f3;rw[eold j f1];omega
     ·exact r'.old i j b d hi hj d3 f3 o1 o2
    ·rcases n'.new i hi with q|⟨q1,q2⟩
     ·exact .inl q
     ·exact .inr ⟨by have q1:c.next<=i:=q1;omega,by show i<c.last;omega⟩
    ·exact n'.env i (by
      have hi:i<h.next\/c.last<=i:=hi;show i<c.next\/hs.next<=i;omega)
  ·cases hr
 ·cases hr
theorem k8q{P:Program}{C:Cfg}(hmx:P.follows .mixedOrders=true)(hC:CfgOK P C)(hF:khq P C)(hK:yQq P C){n:Nat}{f:FuncId}:∀{l:List LitC},(∀c∈l,zQq c (yhq C n f c.vs c.heap)=1) ->qCq P C f (litK l)
 |[],_=>λvs h v h' he=>by cases he
 |c::l,hr=>λvs h v h' he=>by
  unfold litK at he;split at he
  ·rename_i hm;cases he;exact known_lit1 hmx hC hF hK (hr c (List.mem_cons_self ..)) hm
  ·exact k8q hmx hC hF hK (λd hd=>hr d (List.mem_cons_of_mem _ hd)) vs h v h' he
theorem zaq{C:Cfg}{n:Nat}{f:FuncId}{c:LitC}(e:zQq c ((four C n).fn f c.vs c.heap)=1):zQq c (yhq C n f c.vs c.heap)=1:=by
 rw[kCq] at e;exact e
section
set_option maxRecDepth 1000000
set_option maxHeartbeats 0
noncomputable def lcDo0:LitC:=⟨[.agg 52 [.agg 38 [.int .i64 1,.int .i64 4,.int .i64 2,.int .i64 8,.int .i64 2,.int .i64 2,.arr 32 1 (n8 [193,156,134,88,9,201,127,11,242,247,198,133,80,37,244,85,213,144,120,214,81,84,200,217,214,134,196,214,189,255,197,231])],.agg 6 [.int .i64 0,.bool false,.int .i64 0,.agg 3 [.agg 2 [.nils,.int .i64 0],.sl 220 0 0 1 102 none]],.sl 226 0 0 1 1 none,.nils,.nils,.nils,.int .u64 0,.nils,.agg 2 [.int .i64 0,.nils]],.agg 38 [.int .u8 2,.nils,.arr 35 35 [.agg 35 [.int .u8 1,.arr 32 1 (n8 [109,83,140,113,174,32,138,6,166,243,18,239,207,105,225,111,238,48,79,211,202,20,242,81,218,100,31,165,177,157,195,72]),.int .u64 5,.int .i64 0]],.int .i64 0]],[(0,kgB),(220,.cells 299 (.arr 102 102 [.agg 102 [.agg 98 [.int .i64 0,.arr 32 1 (z8 32),.arr 32 1 (n8 [110,52,11,156,255,179,122,152,156,165,68,230,187,120,10,44,120,144,29,63,179,55,56,118,133,17,163,6,23,175,160,29]),.arr 32 1 (n8 [110,52,11,156,255,179,122,152,156,165,68,230,187,120,10,44,120,144,29,63,179,55,56,118,133,17,163,6,23,175,160,29]),.int .i64 0],.int .i64 0,.agg 2 [.nils,.nils],.nils]])),(226,.cells 183 (.arr 1 1 [.agg 1 [.nils]]))],245,.tup [.agg 52 [.agg 38 [.int .i64 1,.int .i64 4,.int .i64 2,.int .i64 8,.int .i64 2,.int .i64 2,.arr 32 1 (n8 [193,156,134,88,9,201,127,11,242,247,198,133,80,37,244,85,213,144,120,214,81,84,200,217,214,134,196,214,189,255,197,231])],.agg 6 [.int .i64 0,.bool false,.int .i64 0,.agg 3 [.agg 2 [.nils,.int .i64 0],.sl 301 0 0 1 102 none]],.sl 307 0 0 1 1 none,.nils,.nils,.sl 313 0 0 1 34 none,.int .u64 1,.nils,.agg 2 [.int .i64 0,.nils]],.agg 240 [.int .u8 0,.int .i64 0,.int .i64 0,.arr 32 1 (z8 32),.agg 2 [.int .u64 0,.int .u64 0],.agg 34 [.int .u8 0,.arr 32 1 (z8 32),.int .i64 0],.agg 67 [.arr 32 1 (z8 32),.int .u8 0,.arr 32 1 (z8 32),.nils,.nils],.int .i64 0,.agg 101 [.bool false,.agg 100 [.int .i64 0,.bool false,.agg 98 [.int .i64 0,.arr 32 1 (z8 32),.arr 32 1 (z8 32),.arr 32 1 (z8 32),.int .i64 0]]]],.int .i64 0],[(301,.cells 299 (.arr 102 102 [.agg 102 [.agg 98 [.int .i64 0,.arr 32 1 (z8 32),.arr 32 1 (n8 [110,52,11,156,255,179,122,152,156,165,68,230,187,120,10,44,120,144,29,63,179,55,56,118,133,17,163,6,23,175,160,29]),.arr 32 1 (n8 [110,52,11,156,255,179,122,152,156,165,68,230,187,120,10,44,120,144,29,63,179,55,56,118,133,17,163,6,23,175,160,29]),.int .i64 0],.int .i64 0,.agg 2 [.nils,.nils],.nils]])),(307,.cells 183 (.arr 1 1 [.agg 1 [.nils]])),(313,.cells 255 (.arr 34 34 [.agg 34 [.int .u64 0,.arr 32 1 (n8 [109,83,140,113,174,32,138,6,166,243,18,239,207,105,225,111,238,48,79,211,202,20,242,81,218,100,31,165,177,157,195,72]),.int .u64 5]]))],314⟩
theorem rlDo0:zQq lcDo0 ((four cfg4 3000).fn 381 lcDo0.vs lcDo0.heap)=1:=by kernel_rfl
end
section
set_option maxRecDepth 1000000
set_option maxHeartbeats 0
noncomputable def lcDo1:LitC:=⟨[.agg 52 [.agg 38 [.int .i64 1,.int .i64 4,.int .i64 2,.int .i64 8,.int .i64 2,.int .i64 2,.arr 32 1 (n8 [193,156,134,88,9,201,127,11,242,247,198,133,80,37,244,85,213,144,120,214,81,84,200,217,214,134,196,214,189,255,197,231])],.agg 6 [.int .i64 0,.bool false,.int .i64 0,.agg 3 [.agg 2 [.nils,.int .i64 0],.sl 501 0 0 1 102 none]],.sl 507 0 0 1 1 none,.nils,.nils,.sl 517 0 0 1 34 none,.int .u64 1,.nils,.agg 2 [.int .i64 0,.nils]],.agg 38 [.int .u8 4,.nils,.agg 35 [.int .u8 0,.arr 32 1 (z8 32),.int .u64 0,.int .i64 0],.int .i64 0]],[(0,kgB),(501,.cells 299 (.arr 102 102 [.agg 102 [.agg 98 [.int .i64 0,.arr 32 1 (z8 32),.arr 32 1 (n8 [110,52,11,156,255,179,122,152,156,165,68,230,187,120,10,44,120,144,29,63,179,55,56,118,133,17,163,6,23,175,160,29]),.arr 32 1 (n8 [110,52,11,156,255,179,122,152,156,165,68,230,187,120,10,44,120,144,29,63,179,55,56,118,133,17,163,6,23,175,160,29]),.int .i64 0],.int .i64 0,.agg 2 [.nils,.nils],.nils]])),(507,.cells 183 (.arr 1 1 [.agg 1 [.nils]])),(517,.cells 255 (.arr 34 34 [.agg 34 [.int .u64 0,.arr 32 1 (n8 [109,83,140,113,174,32,138,6,166,243,18,239,207,105,225,111,238,48,79,211,202,20,242,81,218,100,31,165,177,157,195,72]),.int .u64 5]]))],530,.tup [.agg 52 [.agg 38 [.int .i64 1,.int .i64 4,.int .i64 2,.int .i64 8,.int .i64 2,.int .i64 2,.arr 32 1 (n8 [193,156,134,88,9,201,127,11,242,247,198,133,80,37,244,85,213,144,120,214,81,84,200,217,214,134,196,214,189,255,197,231])],.agg 6 [.int .i64 0,.bool false,.int .i64 0,.agg 3 [.agg 2 [.nils,.int .i64 0],.sl 586 0 0 1 102 none]],.sl 651 0 0 1 1 none,.nils,.nils,.sl 596 0 0 1 34 none,.int .u64 1,.nils,.agg 2 [.int .i64 0,.nils]],.agg 240 [.int .u8 0,.int .i64 0,.int .i64 0,.arr 32 1 (z8 32),.agg 2 [.int .u64 0,.int .u64 0],.agg 34 [.int .u8 0,.arr 32 1 (z8 32),.int .i64 0],.agg 67 [.arr 32 1 (z8 32),.int .u8 0,.arr 32 1 (z8 32),.nils,.nils],.int .i64 0,.agg 101 [.bool false,.agg 100 [.int .i64 0,.bool false,.agg 98 [.int .i64 0,.arr 32 1 (z8 32),.arr 32 1 (z8 32),.arr 32 1 (z8 32),.int .i64 0]]]],.int .i64 0],[(586,.cells 299 (.arr 102 102 [.agg 102 [.agg 98 [.int .i64 0,.arr 32 1 (z8 32),.arr 32 1 (n8 [110,52,11,156,255,179,122,152,156,165,68,230,187,120,10,44,120,144,29,63,179,55,56,118,133,17,163,6,23,175,160,29]),.arr 32 1 (n8 [110,52,11,156,255,179,122,152,156,165,68,230,187,120,10,44,120,144,29,63,179,55,56,118,133,17,163,6,23,175,160,29]),.int .i64 0],.int .i64 0,.agg 2 [.nils,.nils],.nils]])),(596,.cells 255 (.arr 34 34 [.agg 34 [.int .u64 0,.arr 32 1 (n8 [109,83,140,113,174,32,138,6,166,243,18,239,207,105,225,111,238,48,79,211,202,20,242,81,218,100,31,165,177,157,195,72]),.int .u64 5]])),(651,.cells 183 (.agg 1 [.nils]))],652⟩
theorem rlDo1:zQq lcDo1 ((four cfg4 3000).fn 381 lcDo1.vs lcDo1.heap)=1:=by kernel_rfl
end
section
set_option maxRecDepth 1000000
set_option maxHeartbeats 0
noncomputable def lcDo2:LitC:=⟨[.agg 52 [.agg 38 [.int .i64 1,.int .i64 4,.int .i64 2,.int .i64 8,.int .i64 2,.int .i64 2,.arr 32 1 (n8 [193,156,134,88,9,201,127,11,242,247,198,133,80,37,244,85,213,144,120,214,81,84,200,217,214,134,196,214,189,255,197,231])],.agg 6 [.int .i64 0,.bool false,.int .i64 0,.agg 3 [.agg 2 [.nils,.int .i64 0],.sl 775 0 0 1 102 none]],.sl 781 0 0 1 1 none,.nils,.nils,.sl 791 0 0 1 34 none,.int .u64 1,.nils,.agg 2 [.int .i64 0,.nils]],.agg 38 [.int .u8 5,.nils,.agg 35 [.int .u8 0,.arr 32 1 (z8 32),.int .u64 0,.int .i64 0],.int .i64 0]],[(0,kgB),(775,.cells 299 (.arr 102 102 [.agg 102 [.agg 98 [.int .i64 0,.arr 32 1 (z8 32),.arr 32 1 (n8 [110,52,11,156,255,179,122,152,156,165,68,230,187,120,10,44,120,144,29,63,179,55,56,118,133,17,163,6,23,175,160,29]),.arr 32 1 (n8 [110,52,11,156,255,179,122,152,156,165,68,230,187,120,10,44,120,144,29,63,179,55,56,118,133,17,163,6,23,175,160,29]),.int .i64 0],.int .i64 0,.agg 2 [.nils,.nils],.nils]])),(781,.cells 183 (.arr 1 1 [.agg 1 [.nils]])),(791,.cells 255 (.arr 34 34 [.agg 34 [.int .u64 0,.arr 32 1 (n8 [109,83,140,113,174,32,138,6,166,243,18,239,207,105,225,111,238,48,79,211,202,20,242,81,218,100,31,165,177,157,195,72]),.int .u64 5]]))],806,.tup [.agg 52 [.agg 38 [.int .i64 1,.int .i64 4,.int .i64 2,.int .i64 8,.int .i64 2,.int .i64 2,.arr 32 1 (n8 [193,156,134,88,9,201,127,11,242,247,198,133,80,37,244,85,213,144,120,214,81,84,200,217,214,134,196,214,189,255,197,231])],.agg 6 [.int .i64 1,.bool false,.int .i64 0,.agg 3 [.agg 2 [.sl 1096 0 0 1 36 none,.int .i64 1],.sl 1184 0 0 2 102 none]],.sl 868 0 0 1 1 none,.nils,.nils,.sl 872 0 34 0 34 none,.int .u64 1,.sl 1291 0 0 1 100 none,.agg 2 [.int .i64 0,.nils]],.agg 240 [.int .u8 0,.int .i64 0,.int .i64 0,.arr 32 1 (z8 32),.agg 2 [.int .u64 0,.int .u64 0],.agg 34 [.int .u8 0,.arr 32 1 (z8 32),.int .i64 0],.agg 67 [.arr 32 1 (z8 32),.int .u8 0,.arr 32 1 (z8 32),.nils,.nils],.int .i64 0,.agg 101 [.bool false,.agg 100 [.int .i64 0,.bool false,.agg 98 [.int .i64 0,.arr 32 1 (z8 32),.arr 32 1 (z8 32),.arr 32 1 (z8 32),.int .i64 0]]]],.int .i64 0],[(868,.cells 183 (.arr 1 1 [.agg 1 [.nils]])),(872,.cells 255 (.arr 34 34 [.agg 34 [.int .u64 0,.arr 32 1 (n8 [109,83,140,113,174,32,138,6,166,243,18,239,207,105,225,111,238,48,79,211,202,20,242,81,218,100,31,165,177,157,195,72]),.int .u64 5]])),(1082,.cells 5 (.arr 16 1 (n8 [0,0,0,0,0,0,0,0,0,0,0,0,0,0,0,5]))),(1096,.cells 277 (.arr 36 36 [.agg 36 [.bool true,.arr 32 1 (n8 [109,83,140,113,174,32,138,6,166,243,18,239,207,105,225,111,238,48,79,211,202,20,242,81,218,100,31,165,177,157,195,72]),.sl 1082 0 0 16 1 none,.int .i64 0,.int .i64 0]])),(1179,.cells 255 (.arr 34 34 [.agg 34 [.int .u64 0,.arr 32 1 (n8 [109,83,140,113,174,32,138,6,166,243,18,239,207,105,225,111,238,48,79,211,202,20,242,81,218,100,31,165,177,157,195,72]),.int .u64 5]])),(1181,.cells 114 (.arr 34 34 [.agg 34 [.int .u8 1,.arr 32 1 (n8 [127,162,167,189,223,104,64,108,63,169,175,29,143,93,27,215,64,235,37,94,253,112,26,170,201,218,185,111,66,42,87,164]),.int .i64 0]])),(1184,.cells 299 (.arr 204 102 [.agg 102 [.agg 98 [.int .i64 0,.arr 32 1 (z8 32),.arr 32 1 (n8 [110,52,11,156,255,179,122,152,156,165,68,230,187,120,10,44,120,144,29,63,179,55,56,118,133,17,163,6,23,175,160,29]),.arr 32 1 (n8 [110,52,11,156,255,179,122,152,156,165,68,230,187,120,10,44,120,144,29,63,179,55,56,118,133,17,163,6,23,175,160,29]),.int .i64 0],.int .i64 0,.agg 2 [.nils,.nils],.nils],.agg 102 [.agg 98 [.int .i64 1,.arr 32 1 (n8 [220,245,90,79,196,200,190,83,35,215,141,14,91,226,149,147,98,248,184,83,0,237,156,202,96,116,33,213,14,195,54,195]),.arr 32 1 (n8 [67,135,174,74,226,67,175,28,188,127,186,228,184,74,202,87,160,11,137,144,181,165,246,31,199,238,175,160,85,75,131,87]),.arr 32 1 (n8 [189,136,86,225,193,122,167,211,97,107,194,201,28,222,159,49,82,210,73,49,132,19,8,209,233,107,30,53,4,158,10,195]),.int .i64 1],.int .i64 1,.agg 2 [.sl 1179 0 0 1 34 none,.nils],.sl 1181 0 0 1 34 none]])),(1291,.cells 54 (.arr 100 100 [.agg 100 [.int .i64 1,.bool false,.agg 98 [.int .i64 1,.arr 32 1 (n8 [220,245,90,79,196,200,190,83,35,215,141,14,91,226,149,147,98,248,184,83,0,237,156,202,96,116,33,213,14,195,54,195]),.arr 32 1 (n8 [67,135,174,74,226,67,175,28,188,127,186,228,184,74,202,87,160,11,137,144,181,165,246,31,199,238,175,160,85,75,131,87]),.arr 32 1 (n8 [189,136,86,225,193,122,167,211,97,107,194,201,28,222,159,49,82,210,73,49,132,19,8,209,233,107,30,53,4,158,10,195]),.int .i64 1]]]))],1292⟩
theorem rlDo2:zQq lcDo2 ((four cfg4 3000).fn 381 lcDo2.vs lcDo2.heap)=1:=by kernel_rfl
end
section
set_option maxRecDepth 1000000
set_option maxHeartbeats 0
noncomputable def lcDo3:LitC:=⟨[.agg 52 [.agg 38 [.int .i64 1,.int .i64 4,.int .i64 2,.int .i64 8,.int .i64 2,.int .i64 2,.arr 32 1 (n8 [193,156,134,88,9,201,127,11,242,247,198,133,80,37,244,85,213,144,120,214,81,84,200,217,214,134,196,214,189,255,197,231])],.agg 6 [.int .i64 1,.bool false,.int .i64 0,.agg 3 [.agg 2 [.sl 1428 0 0 1 36 none,.int .i64 1],.sl 1444 0 0 2 102 none]],.sl 1450 0 0 1 1 none,.nils,.nils,.sl 1459 0 0 0 34 none,.int .u64 1,.sl 1474 0 0 1 100 none,.agg 2 [.int .i64 0,.nils]],.agg 38 [.int .u8 6,.nils,.agg 35 [.int .u8 0,.arr 32 1 (z8 32),.int .u64 0,.int .i64 0],.int .i64 0]],[(0,kgB),(1428,.cells 277 (.arr 36 36 [.agg 36 [.bool true,.arr 32 1 (n8 [109,83,140,113,174,32,138,6,166,243,18,239,207,105,225,111,238,48,79,211,202,20,242,81,218,100,31,165,177,157,195,72]),.sl 1430 0 0 16 1 none,.int .i64 0,.int .i64 0]])),(1430,.cells 5 (.arr 16 1 (n8 [0,0,0,0,0,0,0,0,0,0,0,0,0,0,0,5]))),(1440,.cells 255 (.arr 34 34 [.agg 34 [.int .u64 0,.arr 32 1 (n8 [109,83,140,113,174,32,138,6,166,243,18,239,207,105,225,111,238,48,79,211,202,20,242,81,218,100,31,165,177,157,195,72]),.int .u64 5]])),(1442,.cells 114 (.arr 34 34 [.agg 34 [.int .u8 1,.arr 32 1 (n8 [127,162,167,189,223,104,64,108,63,169,175,29,143,93,27,215,64,235,37,94,253,112,26,170,201,218,185,111,66,42,87,164]),.int .i64 0]])),(1444,.cells 299 (.arr 204 102 [.agg 102 [.agg 98 [.int .i64 0,.arr 32 1 (z8 32),.arr 32 1 (n8 [110,52,11,156,255,179,122,152,156,165,68,230,187,120,10,44,120,144,29,63,179,55,56,118,133,17,163,6,23,175,160,29]),.arr 32 1 (n8 [110,52,11,156,255,179,122,152,156,165,68,230,187,120,10,44,120,144,29,63,179,55,56,118,133,17,163,6,23,175,160,29]),.int .i64 0],.int .i64 0,.agg 2 [.nils,.nils],.nils],.agg 102 [.agg 98 [.int .i64 1,.arr 32 1 (n8 [220,245,90,79,196,200,190,83,35,215,141,14,91,226,149,147,98,248,184,83,0,237,156,202,96,116,33,213,14,195,54,195]),.arr 32 1 (n8 [67,135,174,74,226,67,175,28,188,127,186,228,184,74,202,87,160,11,137,144,181,165,246,31,199,238,175,160,85,75,131,87]),.arr 32 1 (n8 [189,136,86,225,193,122,167,211,97,107,194,201,28,222,159,49,82,210,73,49,132,19,8,209,233,107,30,53,4,158,10,195]),.int .i64 1],.int .i64 1,.agg 2 [.sl 1440 0 0 1 34 none,.nils],.sl 1442 0 0 1 34 none]])),(1450,.cells 183 (.arr 1 1 [.agg 1 [.nils]])),(1459,.cells 255 (.arr 0 34 [])),(1474,.cells 54 (.arr 100 100 [.agg 100 [.int .i64 1,.bool false,.agg 98 [.int .i64 1,.arr 32 1 (n8 [220,245,90,79,196,200,190,83,35,215,141,14,91,226,149,147,98,248,184,83,0,237,156,202,96,116,33,213,14,195,54,195]),.arr 32 1 (n8 [67,135,174,74,226,67,175,28,188,127,186,228,184,74,202,87,160,11,137,144,181,165,246,31,199,238,175,160,85,75,131,87]),.arr 32 1 (n8 [189,136,86,225,193,122,167,211,97,107,194,201,28,222,159,49,82,210,73,49,132,19,8,209,233,107,30,53,4,158,10,195]),.int .i64 1]]]))],1477,.tup [.agg 52 [.agg 38 [.int .i64 1,.int .i64 4,.int .i64 2,.int .i64 8,.int .i64 2,.int .i64 2,.arr 32 1 (n8 [193,156,134,88,9,201,127,11,242,247,198,133,80,37,244,85,213,144,120,214,81,84,200,217,214,134,196,214,189,255,197,231])],.agg 6 [.int .i64 1,.bool false,.int .i64 0,.agg 3 [.agg 2 [.sl 1614 0 0 1 36 none,.int .i64 1],.sl 1630 0 0 2 102 none]],.sl 1636 0 0 1 1 none,.nils,.nils,.sl 1639 0 0 0 34 none,.int .u64 1,.sl 1641 0 100 0 100 none,.agg 2 [.int .i64 0,.nils]],.agg 240 [.int .u8 0,.int .i64 0,.int .i64 0,.arr 32 1 (z8 32),.agg 2 [.int .u64 0,.int .u64 0],.agg 34 [.int .u8 0,.arr 32 1 (z8 32),.int .i64 0],.agg 67 [.arr 32 1 (z8 32),.int .u8 0,.arr 32 1 (z8 32),.nils,.nils],.int .i64 0,.agg 101 [.bool false,.agg 100 [.int .i64 0,.bool false,.agg 98 [.int .i64 0,.arr 32 1 (z8 32),.arr 32 1 (z8 32),.arr 32 1 (z8 32),.int .i64 0]]]],.int .i64 0],[(1614,.cells 277 (.arr 36 36 [.agg 36 [.bool true,.arr 32 1 (n8 [109,83,140,113,174,32,138,6,166,243,18,239,207,105,225,111,238,48,79,211,202,20,242,81,218,100,31,165,177,157,195,72]),.sl 1616 0 0 16 1 none,.int .i64 0,.int .i64 0]])),(1616,.cells 5 (.arr 16 1 (n8 [0,0,0,0,0,0,0,0,0,0,0,0,0,0,0,5]))),(1626,.cells 255 (.arr 34 34 [.agg 34 [.int .u64 0,.arr 32 1 (n8 [109,83,140,113,174,32,138,6,166,243,18,239,207,105,225,111,238,48,79,211,202,20,242,81,218,100,31,165,177,157,195,72]),.int .u64 5]])),(1628,.cells 114 (.arr 34 34 [.agg 34 [.int .u8 1,.arr 32 1 (n8 [127,162,167,189,223,104,64,108,63,169,175,29,143,93,27,215,64,235,37,94,253,112,26,170,201,218,185,111,66,42,87,164]),.int .i64 0]])),(1630,.cells 299 (.arr 204 102 [.agg 102 [.agg 98 [.int .i64 0,.arr 32 1 (z8 32),.arr 32 1 (n8 [110,52,11,156,255,179,122,152,156,165,68,230,187,120,10,44,120,144,29,63,179,55,56,118,133,17,163,6,23,175,160,29]),.arr 32 1 (n8 [110,52,11,156,255,179,122,152,156,165,68,230,187,120,10,44,120,144,29,63,179,55,56,118,133,17,163,6,23,175,160,29]),.int .i64 0],.int .i64 0,.agg 2 [.nils,.nils],.nils],.agg 102 [.agg 98 [.int .i64 1,.arr 32 1 (n8 [220,245,90,79,196,200,190,83,35,215,141,14,91,226,149,147,98,248,184,83,0,237,156,202,96,116,33,213,14,195,54,195]),.arr 32 1 (n8 [67,135,174,74,226,67,175,28,188,127,186,228,184,74,202,87,160,11,137,144,181,165,246,31,199,238,175,160,85,75,131,87]),.arr 32 1 (n8 [189,136,86,225,193,122,167,211,97,107,194,201,28,222,159,49,82,210,73,49,132,19,8,209,233,107,30,53,4,158,10,195]),.int .i64 1],.int .i64 1,.agg 2 [.sl 1626 0 0 1 34 none,.nils],.sl 1628 0 0 1 34 none]])),(1636,.cells 183 (.arr 1 1 [.agg 1 [.nils]])),(1639,.cells 255 (.arr 0 34 [])),(1641,.cells 54 (.arr 100 100 [.agg 100 [.int .i64 1,.bool false,.agg 98 [.int .i64 1,.arr 32 1 (n8 [220,245,90,79,196,200,190,83,35,215,141,14,91,226,149,147,98,248,184,83,0,237,156,202,96,116,33,213,14,195,54,195]),.arr 32 1 (n8 [67,135,174,74,226,67,175,28,188,127,186,228,184,74,202,87,160,11,137,144,181,165,246,31,199,238,175,160,85,75,131,87]),.arr 32 1 (n8 [189,136,86,225,193,122,167,211,97,107,194,201,28,222,159,49,82,210,73,49,132,19,8,209,233,107,30,53,4,158,10,195]),.int .i64 1]]]))],1665⟩
theorem rlDo3:zQq lcDo3 ((four cfg4 3000).fn 381 lcDo3.vs lcDo3.heap)=1:=by kernel_rfl
end
section
set_option maxRecDepth 1000000
set_option maxHeartbeats 0
noncomputable def lcDo4:LitC:=⟨[.agg 52 [.agg 38 [.int .i64 1,.int .i64 4,.int .i64 2,.int .i64 8,.int .i64 2,.int .i64 2,.arr 32 1 (n8 [193,156,134,88,9,201,127,11,242,247,198,133,80,37,244,85,213,144,120,214,81,84,200,217,214,134,196,214,189,255,197,231])],.agg 6 [.int .i64 0,.bool false,.int .i64 0,.agg 3 [.agg 2 [.sl 3397 0 0 1 36 none,.int .i64 1],.sl 3404 0 0 1 102 none]],.sl 3416 0 0 1 1 none,.nils,.nils,.nils,.int .u64 0,.nils,.agg 2 [.int .i64 0,.nils]],.agg 38 [.int .u8 4,.nils,.agg 35 [.int .u8 0,.arr 32 1 (z8 32),.int .u64 0,.int .i64 0],.int .i64 0]],[(0,kgB),(3397,.cells 277 (.arr 36 36 [.agg 36 [.bool true,.arr 32 1 (n8 [109,83,140,113,174,32,138,6,166,243,18,239,207,105,225,111,238,48,79,211,202,20,242,81,218,100,31,165,177,157,195,72]),.sl 3399 0 0 16 1 none,.int .i64 0,.int .i64 0]])),(3399,.cells 5 (.arr 16 1 (n8 [0,0,0,0,0,0,0,0,0,0,0,0,0,0,0,9]))),(3404,.cells 299 (.arr 102 102 [.agg 102 [.agg 98 [.int .i64 0,.arr 32 1 (z8 32),.arr 32 1 (n8 [15,179,89,187,204,8,106,202,216,35,222,9,241,176,103,8,45,69,164,149,135,65,36,167,219,70,189,248,109,92,61,168]),.arr 32 1 (n8 [110,52,11,156,255,179,122,152,156,165,68,230,187,120,10,44,120,144,29,63,179,55,56,118,133,17,163,6,23,175,160,29]),.int .i64 0],.int .i64 1,.agg 2 [.nils,.nils],.nils]])),(3409,.cells 266 (.agg 33 [.arr 32 1 (n8 [109,83,140,113,174,32,138,6,166,243,18,239,207,105,225,111,238,48,79,211,202,20,242,81,218,100,31,165,177,157,195,72]),.sl 3414 0 0 1 99 none])),(3414,.cells 98 (.arr 99 99 [.agg 99 [.arr 32 1 (n8 [73,145,94,13,125,75,64,46,48,23,208,16,188,28,14,131,202,198,199,151,214,193,110,102,52,15,227,38,134,147,166,161]),.arr 32 1 (n8 [196,1,100,40,75,30,6,128,69,37,188,176,51,211,58,47,149,125,149,168,25,30,163,31,125,73,106,77,245,208,225,68]),.int .u64 0,.int .u64 4,.int .u64 1,.arr 32 1 (n8 [207,157,130,2,129,36,210,128,167,8,46,132,29,133,229,28,38,204,128,217,120,34,76,78,29,204,166,198,222,86,49,71])]])),(3416,.cells 183 (.arr 1 1 [.agg 1 [.sl 3409 0 0 1 33 none]]))],3454,.tup [.agg 52 [.agg 38 [.int .i64 1,.int .i64 4,.int .i64 2,.int .i64 8,.int .i64 2,.int .i64 2,.arr 32 1 (n8 [193,156,134,88,9,201,127,11,242,247,198,133,80,37,244,85,213,144,120,214,81,84,200,217,214,134,196,214,189,255,197,231])],.agg 6 [.int .i64 0,.bool false,.int .i64 0,.agg 3 [.agg 2 [.sl 3574 0 0 1 36 none,.int .i64 1],.sl 3581 0 0 1 102 none]],.sl 3979 0 0 1 1 none,.sl 3980 0 0 1 99 none,.nils,.nils,.int .u64 0,.nils,.agg 2 [.int .i64 0,.nils]],.agg 240 [.int .u8 0,.int .i64 0,.int .i64 0,.arr 32 1 (z8 32),.agg 2 [.int .u64 0,.int .u64 0],.agg 34 [.int .u8 0,.arr 32 1 (z8 32),.int .i64 0],.agg 67 [.arr 32 1 (z8 32),.int .u8 0,.arr 32 1 (z8 32),.nils,.nils],.int .i64 0,.agg 101 [.bool false,.agg 100 [.int .i64 0,.bool false,.agg 98 [.int .i64 0,.arr 32 1 (z8 32),.arr 32 1 (z8 32),.arr 32 1 (z8 32),.int .i64 0]]]],.int .i64 0],[(3574,.cells 277 (.arr 36 36 [.agg 36 [.bool true,.arr 32 1 (n8 [109,83,140,113,174,32,138,6,166,243,18,239,207,105,225,111,238,48,79,211,202,20,242,81,218,100,31,165,177,157,195,72]),.sl 3576 0 0 16 1 none,.int .i64 0,.int .i64 0]])),(3576,.cells 5 (.arr 16 1 (n8 [0,0,0,0,0,0,0,0,0,0,0,0,0,0,0,9]))),(3581,.cells 299 (.arr 102 102 [.agg 102 [.agg 98 [.int .i64 0,.arr 32 1 (z8 32),.arr 32 1 (n8 [15,179,89,187,204,8,106,202,216,35,222,9,241,176,103,8,45,69,164,149,135,65,36,167,219,70,189,248,109,92,61,168]),.arr 32 1 (n8 [110,52,11,156,255,179,122,152,156,165,68,230,187,120,10,44,120,144,29,63,179,55,56,118,133,17,163,6,23,175,160,29]),.int .i64 0],.int .i64 1,.agg 2 [.nils,.nils],.nils]])),(3775,.cells 266 (.agg 33 [.arr 32 1 (z8 32),.nils])),(3979,.cells 183 (.agg 1 [.sl 3775 0 0 0 33 none])),(3980,.cells 98 (.arr 99 99 [.agg 99 [.arr 32 1 (n8 [73,145,94,13,125,75,64,46,48,23,208,16,188,28,14,131,202,198,199,151,214,193,110,102,52,15,227,38,134,147,166,161]),.arr 32 1 (n8 [196,1,100,40,75,30,6,128,69,37,188,176,51,211,58,47,149,125,149,168,25,30,163,31,125,73,106,77,245,208,225,68]),.int .u64 0,.int .u64 4,.int .u64 1,.arr 32 1 (n8 [207,157,130,2,129,36,210,128,167,8,46,132,29,133,229,28,38,204,128,217,120,34,76,78,29,204,166,198,222,86,49,71])]]))],3981⟩
theorem rlDo4:zQq lcDo4 ((four cfg4 3000).fn 381 lcDo4.vs lcDo4.heap)=1:=by kernel_rfl
end
section
set_option maxRecDepth 1000000
set_option maxHeartbeats 0
noncomputable def lcDo5:LitC:=⟨[.agg 52 [.agg 38 [.int .i64 1,.int .i64 4,.int .i64 2,.int .i64 8,.int .i64 2,.int .i64 2,.arr 32 1 (n8 [193,156,134,88,9,201,127,11,242,247,198,133,80,37,244,85,213,144,120,214,81,84,200,217,214,134,196,214,189,255,197,231])],.agg 6 [.int .i64 0,.bool false,.int .i64 0,.agg 3 [.agg 2 [.sl 4215 0 0 1 36 none,.int .i64 1],.sl 4222 0 0 1 102 none]],.sl 4229 0 0 1 1 none,.sl 4254 0 0 1 99 none,.nils,.nils,.int .u64 0,.nils,.agg 2 [.int .i64 0,.nils]],.agg 38 [.int .u8 5,.nils,.agg 35 [.int .u8 0,.arr 32 1 (z8 32),.int .u64 0,.int .i64 0],.int .i64 0]],[(0,kgB),(4215,.cells 277 (.arr 36 36 [.agg 36 [.bool true,.arr 32 1 (n8 [109,83,140,113,174,32,138,6,166,243,18,239,207,105,225,111,238,48,79,211,202,20,242,81,218,100,31,165,177,157,195,72]),.sl 4217 0 0 16 1 none,.int .i64 0,.int .i64 0]])),(4217,.cells 5 (.arr 16 1 (n8 [0,0,0,0,0,0,0,0,0,0,0,0,0,0,0,9]))),(4222,.cells 299 (.arr 102 102 [.agg 102 [.agg 98 [.int .i64 0,.arr 32 1 (z8 32),.arr 32 1 (n8 [15,179,89,187,204,8,106,202,216,35,222,9,241,176,103,8,45,69,164,149,135,65,36,167,219,70,189,248,109,92,61,168]),.arr 32 1 (n8 [110,52,11,156,255,179,122,152,156,165,68,230,187,120,10,44,120,144,29,63,179,55,56,118,133,17,163,6,23,175,160,29]),.int .i64 0],.int .i64 1,.agg 2 [.nils,.nils],.nils]])),(4226,.cells 266 (.arr 0 33 [])),(4229,.cells 183 (.arr 1 1 [.agg 1 [.sl 4226 0 0 0 33 none]])),(4254,.cells 98 (.arr 99 99 [.agg 99 [.arr 32 1 (n8 [73,145,94,13,125,75,64,46,48,23,208,16,188,28,14,131,202,198,199,151,214,193,110,102,52,15,227,38,134,147,166,161]),.arr 32 1 (n8 [196,1,100,40,75,30,6,128,69,37,188,176,51,211,58,47,149,125,149,168,25,30,163,31,125,73,106,77,245,208,225,68]),.int .u64 0,.int .u64 4,.int .u64 1,.arr 32 1 (n8 [207,157,130,2,129,36,210,128,167,8,46,132,29,133,229,28,38,204,128,217,120,34,76,78,29,204,166,198,222,86,49,71])]]))],4273,.tup [.agg 52 [.agg 38 [.int .i64 1,.int .i64 4,.int .i64 2,.int .i64 8,.int .i64 2,.int .i64 2,.arr 32 1 (n8 [193,156,134,88,9,201,127,11,242,247,198,133,80,37,244,85,213,144,120,214,81,84,200,217,214,134,196,214,189,255,197,231])],.agg 6 [.int .i64 1,.bool false,.int .i64 0,.agg 3 [.agg 2 [.sl 5544 0 0 12 36 none,.int .i64 12],.sl 5933 0 0 2 102 none]],.sl 4390 0 0 1 1 none,.nils,.nils,.nils,.int .u64 0,.sl 6389 0 0 1 100 none,.agg 2 [.int .i64 0,.nils]],.agg 240 [.int .u8 0,.int .i64 0,.int .i64 0,.arr 32 1 (z8 32),.agg 2 [.int .u64 0,.int .u64 0],.agg 34 [.int .u8 0,.arr 32 1 (z8 32),.int .i64 0],.agg 67 [.arr 32 1 (z8 32),.int .u8 0,.arr 32 1 (z8 32),.nils,.nils],.int .i64 0,.agg 101 [.bool false,.agg 100 [.int .i64 0,.bool false,.agg 98 [.int .i64 0,.arr 32 1 (z8 32),.arr 32 1 (z8 32),.arr 32 1 (z8 32),.int .i64 0]]]],.int .i64 0],[(4387,.cells 266 (.arr 0 33 [])),(4390,.cells 183 (.arr 1 1 [.agg 1 [.sl 4387 0 0 0 33 none]])),(5398,.cells 5 (.arr 16 1 (n8 [0,0,0,0,0,0,0,0,0,0,0,0,0,0,0,1]))),(5461,.cells 5 (.arr 16 1 (n8 [0,0,0,0,0,0,0,0,0,0,0,0,0,0,0,9]))),(5463,.cells 5 (.arr 16 1 (n8 [0,0,0,0,0,0,0,1,0,0,0,0,0,0,0,9]))),(5465,.cells 5 (.arr 16 1 (n8 [0,0,0,0,0,0,0,1,0,0,0,0,0,0,0,4]))),(5467,.cells 5 (.arr 16 1 (n8 [0,0,0,0,0,0,0,0,0,0,0,0,0,0,0,4]))),(5544,.cells 277 (.arr 432 36 [.agg 36 [.bool true,.arr 32 1 (n8 [109,83,140,113,174,32,138,6,166,243,18,239,207,105,225,111,238,48,79,211,202,20,242,81,218,100,31,165,177,157,195,72]),.sl 5461 0 0 16 1 none,.int .i64 0,.int .i64 0],.agg 36 [.bool true,.arr 32 1 (n8 [109,83,140,113,174,32,138,6,166,243,18,239,207,105,225,111,238,48,79,211,202,20,242,81,218,100,31,165,177,157,195,72]),.sl 5463 0 0 16 1 none,.int .i64 0,.int .i64 0],.agg 36 [.bool true,.arr 32 1 (n8 [109,83,140,113,174,32,138,6,166,243,18,239,207,105,225,111,238,48,79,211,202,20,242,81,218,100,31,165,177,157,195,72]),.sl 5465 0 0 16 1 none,.int .i64 0,.int .i64 0],.agg 36 [.bool true,.arr 32 1 (n8 [196,1,100,40,75,30,6,128,69,37,188,176,51,211,58,47,149,125,149,168,25,30,163,31,125,73,106,77,245,208,225,68]),.sl 5467 0 0 16 1 none,.int .i64 0,.int .i64 0],.agg 36 [.bool false,.arr 32 1 (z8 32),.nils,.int .i64 3,.int .i64 4],.agg 36 [.bool true,.arr 32 1 (n8 [193,156,134,88,9,201,127,11,242,247,198,133,80,37,244,85,213,144,120,214,81,84,200,217,214,134,196,214,189,255,197,231]),.sl 5398 0 0 16 1 none,.int .i64 0,.int .i64 0],.agg 36 [.bool false,.arr 32 1 (z8 32),.nils,.int .i64 6,.int .i64 4],.agg 36 [.bool false,.arr 32 1 (z8 32),.nils,.int .i64 7,.int .i64 0],.agg 36 [.bool false,.arr 32 1 (z8 32),.nils,.int .i64 8,.int .i64 0],.agg 36 [.bool false,.arr 32 1 (z8 32),.nils,.int .i64 9,.int .i64 0],.agg 36 [.bool false,.arr 32 1 (z8 32),.nils,.int .i64 0,.int .i64 10],.agg 36 [.bool false,.arr 32 1 (z8 32),.nils,.int .i64 3,.int .i64 11]])),(5928,.cells 98 (.arr 99 99 [.agg 99 [.arr 32 1 (n8 [73,145,94,13,125,75,64,46,48,23,208,16,188,28,14,131,202,198,199,151,214,193,110,102,52,15,227,38,134,147,166,161]),.arr 32 1 (n8 [196,1,100,40,75,30,6,128,69,37,188,176,51,211,58,47,149,125,149,168,25,30,163,31,125,73,106,77,245,208,225,68]),.int .u64 0,.int .u64 4,.int .u64 1,.arr 32 1 (n8 [207,157,130,2,129,36,210,128,167,8,46,132,29,133,229,28,38,204,128,217,120,34,76,78,29,204,166,198,222,86,49,71])]])),(5930,.cells 114 (.arr 34 34 [.agg 34 [.int .u8 2,.arr 32 1 (n8 [47,17,160,105,124,47,0,220,23,184,90,124,61,254,6,122,189,27,77,130,23,173,100,202,158,136,15,222,21,33,153,247]),.int .i64 0]])),(5933,.cells 299 (.arr 204 102 [.agg 102 [.agg 98 [.int .i64 0,.arr 32 1 (z8 32),.arr 32 1 (n8 [15,179,89,187,204,8,106,202,216,35,222,9,241,176,103,8,45,69,164,149,135,65,36,167,219,70,189,248,109,92,61,168]),.arr 32 1 (n8 [110,52,11,156,255,179,122,152,156,165,68,230,187,120,10,44,120,144,29,63,179,55,56,118,133,17,163,6,23,175,160,29]),.int .i64 0],.int .i64 1,.agg 2 [.nils,.nils],.nils],.agg 102 [.agg 98 [.int .i64 1,.arr 32 1 (n8 [106,21,118,242,111,99,105,56,217,240,247,230,151,94,51,238,19,4,12,198,140,30,229,84,4,156,155,112,69,126,50,107]),.arr 32 1 (n8 [198,57,16,103,124,1,57,218,129,250,31,111,167,244,82,236,0,128,32,176,242,47,83,184,185,88,41,122,212,11,179,175]),.arr 32 1 (n8 [200,101,44,17,23,55,249,161,48,62,171,65,176,132,204,10,51,104,96,48,45,31,68,247,78,58,8,117,119,233,255,99]),.int .i64 1],.int .i64 12,.agg 2 [.nils,.sl 5928 0 0 1 99 none],.sl 5930 0 0 1 34 none]])),(6389,.cells 54 (.arr 100 100 [.agg 100 [.int .i64 1,.bool false,.agg 98 [.int .i64 1,.arr 32 1 (n8 [106,21,118,242,111,99,105,56,217,240,247,230,151,94,51,238,19,4,12,198,140,30,229,84,4,156,155,112,69,126,50,107]),.arr 32 1 (n8 [198,57,16,103,124,1,57,218,129,250,31,111,167,244,82,236,0,128,32,176,242,47,83,184,185,88,41,122,212,11,179,175]),.arr 32 1 (n8 [200,101,44,17,23,55,249,161,48,62,171,65,176,132,204,10,51,104,96,48,45,31,68,247,78,58,8,117,119,233,255,99]),.int .i64 1]]]))],6390⟩
theorem rlDo5:zQq lcDo5 ((four cfg4 3000).fn 381 lcDo5.vs lcDo5.heap)=1:=by kernel_rfl
end
section
set_option maxRecDepth 1000000
set_option maxHeartbeats 0
noncomputable def lcDo6:LitC:=⟨[.agg 52 [.agg 38 [.int .i64 1,.int .i64 4,.int .i64 2,.int .i64 8,.int .i64 2,.int .i64 2,.arr 32 1 (n8 [193,156,134,88,9,201,127,11,242,247,198,133,80,37,244,85,213,144,120,214,81,84,200,217,214,134,196,214,189,255,197,231])],.agg 6 [.int .i64 1,.bool false,.int .i64 0,.agg 3 [.agg 2 [.sl 6567 0 0 12 36 none,.int .i64 12],.sl 6591 0 0 2 102 none]],.sl 6598 0 0 1 1 none,.nils,.nils,.nils,.int .u64 0,.sl 6640 0 0 1 100 none,.agg 2 [.int .i64 0,.nils]],.agg 38 [.int .u8 6,.nils,.agg 35 [.int .u8 0,.arr 32 1 (z8 32),.int .u64 0,.int .i64 0],.int .i64 0]],[(0,kgB),(6567,.cells 277 (.arr 432 36 [.agg 36 [.bool true,.arr 32 1 (n8 [109,83,140,113,174,32,138,6,166,243,18,239,207,105,225,111,238,48,79,211,202,20,242,81,218,100,31,165,177,157,195,72]),.sl 6569 0 0 16 1 none,.int .i64 0,.int .i64 0],.agg 36 [.bool true,.arr 32 1 (n8 [109,83,140,113,174,32,138,6,166,243,18,239,207,105,225,111,238,48,79,211,202,20,242,81,218,100,31,165,177,157,195,72]),.sl 6571 0 0 16 1 none,.int .i64 0,.int .i64 0],.agg 36 [.bool true,.arr 32 1 (n8 [109,83,140,113,174,32,138,6,166,243,18,239,207,105,225,111,238,48,79,211,202,20,242,81,218,100,31,165,177,157,195,72]),.sl 6573 0 0 16 1 none,.int .i64 0,.int .i64 0],.agg 36 [.bool true,.arr 32 1 (n8 [196,1,100,40,75,30,6,128,69,37,188,176,51,211,58,47,149,125,149,168,25,30,163,31,125,73,106,77,245,208,225,68]),.sl 6575 0 0 16 1 none,.int .i64 0,.int .i64 0],.agg 36 [.bool false,.arr 32 1 (z8 32),.nils,.int .i64 3,.int .i64 4],.agg 36 [.bool true,.arr 32 1 (n8 [193,156,134,88,9,201,127,11,242,247,198,133,80,37,244,85,213,144,120,214,81,84,200,217,214,134,196,214,189,255,197,231]),.sl 6577 0 0 16 1 none,.int .i64 0,.int .i64 0],.agg 36 [.bool false,.arr 32 1 (z8 32),.nils,.int .i64 6,.int .i64 4],.agg 36 [.bool false,.arr 32 1 (z8 32),.nils,.int .i64 7,.int .i64 0],.agg 36 [.bool false,.arr 32 1 (z8 32),.nils,.int .i64 8,.int .i64 0],.agg 36 [.bool false,.arr 32 1 (z8 32),.nils,.int .i64 9,.int .i64 0],.agg 36 [.bool false,.arr 32 1 (z8 32),.nils,.int .i64 0,.int .i64 10],.agg 36 [.bool false,.arr 32 1 (z8 32),.nils,.int .i64 3,.int .i64 11]])),(6569,.cells 5 (.arr 16 1 (n8 [0,0,0,0,0,0,0,0,0,0,0,0,0,0,0,9]))),(6571,.cells 5 (.arr 16 1 (n8 [0,0,0,0,0,0,0,1,0,0,0,0,0,0,0,9]))),(6573,.cells 5 (.arr 16 1 (n8 [0,0,0,0,0,0,0,1,0,0,0,0,0,0,0,4]))),(6575,.cells 5 (.arr 16 1 (n8 [0,0,0,0,0,0,0,0,0,0,0,0,0,0,0,4]))),(6577,.cells 5 (.arr 16 1 (n8 [0,0,0,0,0,0,0,0,0,0,0,0,0,0,0,1]))),(6587,.cells 98 (.arr 99 99 [.agg 99 [.arr 32 1 (n8 [73,145,94,13,125,75,64,46,48,23,208,16,188,28,14,131,202,198,199,151,214,193,110,102,52,15,227,38,134,147,166,161]),.arr 32 1 (n8 [196,1,100,40,75,30,6,128,69,37,188,176,51,211,58,47,149,125,149,168,25,30,163,31,125,73,106,77,245,208,225,68]),.int .u64 0,.int .u64 4,.int .u64 1,.arr 32 1 (n8 [207,157,130,2,129,36,210,128,167,8,46,132,29,133,229,28,38,204,128,217,120,34,76,78,29,204,166,198,222,86,49,71])]])),(6589,.cells 114 (.arr 34 34 [.agg 34 [.int .u8 2,.arr 32 1 (n8 [47,17,160,105,124,47,0,220,23,184,90,124,61,254,6,122,189,27,77,130,23,173,100,202,158,136,15,222,21,33,153,247]),.int .i64 0]])),(6591,.cells 299 (.arr 204 102 [.agg 102 [.agg 98 [.int .i64 0,.arr 32 1 (z8 32),.arr 32 1 (n8 [15,179,89,187,204,8,106,202,216,35,222,9,241,176,103,8,45,69,164,149,135,65,36,167,219,70,189,248,109,92,61,168]),.arr 32 1 (n8 [110,52,11,156,255,179,122,152,156,165,68,230,187,120,10,44,120,144,29,63,179,55,56,118,133,17,163,6,23,175,160,29]),.int .i64 0],.int .i64 1,.agg 2 [.nils,.nils],.nils],.agg 102 [.agg 98 [.int .i64 1,.arr 32 1 (n8 [106,21,118,242,111,99,105,56,217,240,247,230,151,94,51,238,19,4,12,198,140,30,229,84,4,156,155,112,69,126,50,107]),.arr 32 1 (n8 [198,57,16,103,124,1,57,218,129,250,31,111,167,244,82,236,0,128,32,176,242,47,83,184,185,88,41,122,212,11,179,175]),.arr 32 1 (n8 [200,101,44,17,23,55,249,161,48,62,171,65,176,132,204,10,51,104,96,48,45,31,68,247,78,58,8,117,119,233,255,99]),.int .i64 1],.int .i64 12,.agg 2 [.nils,.sl 6587 0 0 1 99 none],.sl 6589 0 0 1 34 none]])),(6595,.cells 266 (.arr 0 33 [])),(6598,.cells 183 (.arr 1 1 [.agg 1 [.sl 6595 0 0 0 33 none]])),(6640,.cells 54 (.arr 100 100 [.agg 100 [.int .i64 1,.bool false,.agg 98 [.int .i64 1,.arr 32 1 (n8 [106,21,118,242,111,99,105,56,217,240,247,230,151,94,51,238,19,4,12,198,140,30,229,84,4,156,155,112,69,126,50,107]),.arr 32 1 (n8 [198,57,16,103,124,1,57,218,129,250,31,111,167,244,82,236,0,128,32,176,242,47,83,184,185,88,41,122,212,11,179,175]),.arr 32 1 (n8 [200,101,44,17,23,55,249,161,48,62,171,65,176,132,204,10,51,104,96,48,45,31,68,247,78,58,8,117,119,233,255,99]),.int .i64 1]]]))],6643,.tup [.agg 52 [.agg 38 [.int .i64 1,.int .i64 4,.int .i64 2,.int .i64 8,.int .i64 2,.int .i64 2,.arr 32 1 (n8 [193,156,134,88,9,201,127,11,242,247,198,133,80,37,244,85,213,144,120,214,81,84,200,217,214,134,196,214,189,255,197,231])],.agg 6 [.int .i64 1,.bool false,.int .i64 0,.agg 3 [.agg 2 [.sl 7129 0 0 12 36 none,.int .i64 12],.sl 7153 0 0 2 102 none]],.sl 7160 0 0 1 1 none,.nils,.nils,.nils,.int .u64 0,.sl 7164 0 100 0 100 none,.agg 2 [.int .i64 0,.nils]],.agg 240 [.int .u8 0,.int .i64 0,.int .i64 0,.arr 32 1 (z8 32),.agg 2 [.int .u64 0,.int .u64 0],.agg 34 [.int .u8 0,.arr 32 1 (z8 32),.int .i64 0],.agg 67 [.arr 32 1 (z8 32),.int .u8 0,.arr 32 1 (z8 32),.nils,.nils],.int .i64 0,.agg 101 [.bool false,.agg 100 [.int .i64 0,.bool false,.agg 98 [.int .i64 0,.arr 32 1 (z8 32),.arr 32 1 (z8 32),.arr 32 1 (z8 32),.int .i64 0]]]],.int .i64 0],[(7129,.cells 277 (.arr 432 36 [.agg 36 [.bool true,.arr 32 1 (n8 [109,83,140,113,174,32,138,6,166,243,18,239,207,105,225,111,238,48,79,211,202,20,242,81,218,100,31,165,177,157,195,72]),.sl 7131 0 0 16 1 none,.int .i64 0,.int .i64 0],.agg 36 [.bool true,.arr 32 1 (n8 [109,83,140,113,174,32,138,6,166,243,18,239,207,105,225,111,238,48,79,211,202,20,242,81,218,100,31,165,177,157,195,72]),.sl 7133 0 0 16 1 none,.int .i64 0,.int .i64 0],.agg 36 [.bool true,.arr 32 1 (n8 [109,83,140,113,174,32,138,6,166,243,18,239,207,105,225,111,238,48,79,211,202,20,242,81,218,100,31,165,177,157,195,72]),.sl 7135 0 0 16 1 none,.int .i64 0,.int .i64 0],.agg 36 [.bool true,.arr 32 1 (n8 [196,1,100,40,75,30,6,128,69,37,188,176,51,211,58,47,149,125,149,168,25,30,163,31,125,73,106,77,245,208,225,68]),.sl 7137 0 0 16 1 none,.int .i64 0,.int .i64 0],.agg 36 [.bool false,.arr 32 1 (z8 32),.nils,.int .i64 3,.int .i64 4],.agg 36 [.bool true,.arr 32 1 (n8 [193,156,134,88,9,201,127,11,242,247,198,133,80,37,244,85,213,144,120,214,81,84,200,217,214,134,196,214,189,255,197,231]),.sl 7139 0 0 16 1 none,.int .i64 0,.int .i64 0],.agg 36 [.bool false,.arr 32 1 (z8 32),.nils,.int .i64 6,.int .i64 4],.agg 36 [.bool false,.arr 32 1 (z8 32),.nils,.int .i64 7,.int .i64 0],.agg 36 [.bool false,.arr 32 1 (z8 32),.nils,.int .i64 8,.int .i64 0],.agg 36 [.bool false,.arr 32 1 (z8 32),.nils,.int .i64 9,.int .i64 0],.agg 36 [.bool false,.arr 32 1 (z8 32),.nils,.int .i64 0,.int .i64 10],.agg 36 [.bool false,.arr 32 1 (z8 32),.nils,.int .i64 3,.int .i64 11]])),(7131,.cells 5 (.arr 16 1 (n8 [0,0,0,0,0,0,0,0,0,0,0,0,0,0,0,9]))),(7133,.cells 5 (.arr 16 1 (n8 [0,0,0,0,0,0,0,1,0,0,0,0,0,0,0,9]))),(7135,.cells 5 (.arr 16 1 (n8 [0,0,0,0,0,0,0,1,0,0,0,0,0,0,0,4]))),(7137,.cells 5 (.arr 16 1 (n8 [0,0,0,0,0,0,0,0,0,0,0,0,0,0,0,4]))),(7139,.cells 5 (.arr 16 1 (n8 [0,0,0,0,0,0,0,0,0,0,0,0,0,0,0,1]))),(7149,.cells 98 (.arr 99 99 [.agg 99 [.arr 32 1 (n8 [73,145,94,13,125,75,64,46,48,23,208,16,188,28,14,131,202,198,199,151,214,193,110,102,52,15,227,38,134,147,166,161]),.arr 32 1 (n8 [196,1,100,40,75,30,6,128,69,37,188,176,51,211,58,47,149,125,149,168,25,30,163,31,125,73,106,77,245,208,225,68]),.int .u64 0,.int .u64 4,.int .u64 1,.arr 32 1 (n8 [207,157,130,2,129,36,210,128,167,8,46,132,29,133,229,28,38,204,128,217,120,34,76,78,29,204,166,198,222,86,49,71])]])),(7151,.cells 114 (.arr 34 34 [.agg 34 [.int .u8 2,.arr 32 1 (n8 [47,17,160,105,124,47,0,220,23,184,90,124,61,254,6,122,189,27,77,130,23,173,100,202,158,136,15,222,21,33,153,247]),.int .i64 0]])),(7153,.cells 299 (.arr 204 102 [.agg 102 [.agg 98 [.int .i64 0,.arr 32 1 (z8 32),.arr 32 1 (n8 [15,179,89,187,204,8,106,202,216,35,222,9,241,176,103,8,45,69,164,149,135,65,36,167,219,70,189,248,109,92,61,168]),.arr 32 1 (n8 [110,52,11,156,255,179,122,152,156,165,68,230,187,120,10,44,120,144,29,63,179,55,56,118,133,17,163,6,23,175,160,29]),.int .i64 0],.int .i64 1,.agg 2 [.nils,.nils],.nils],.agg 102 [.agg 98 [.int .i64 1,.arr 32 1 (n8 [106,21,118,242,111,99,105,56,217,240,247,230,151,94,51,238,19,4,12,198,140,30,229,84,4,156,155,112,69,126,50,107]),.arr 32 1 (n8 [198,57,16,103,124,1,57,218,129,250,31,111,167,244,82,236,0,128,32,176,242,47,83,184,185,88,41,122,212,11,179,175]),.arr 32 1 (n8 [200,101,44,17,23,55,249,161,48,62,171,65,176,132,204,10,51,104,96,48,45,31,68,247,78,58,8,117,119,233,255,99]),.int .i64 1],.int .i64 12,.agg 2 [.nils,.sl 7149 0 0 1 99 none],.sl 7151 0 0 1 34 none]])),(7157,.cells 266 (.arr 0 33 [])),(7160,.cells 183 (.arr 1 1 [.agg 1 [.sl 7157 0 0 0 33 none]])),(7164,.cells 54 (.arr 100 100 [.agg 100 [.int .i64 1,.bool false,.agg 98 [.int .i64 1,.arr 32 1 (n8 [106,21,118,242,111,99,105,56,217,240,247,230,151,94,51,238,19,4,12,198,140,30,229,84,4,156,155,112,69,126,50,107]),.arr 32 1 (n8 [198,57,16,103,124,1,57,218,129,250,31,111,167,244,82,236,0,128,32,176,242,47,83,184,185,88,41,122,212,11,179,175]),.arr 32 1 (n8 [200,101,44,17,23,55,249,161,48,62,171,65,176,132,204,10,51,104,96,48,45,31,68,247,78,58,8,117,119,233,255,99]),.int .i64 1]]]))],7188⟩
theorem rlDo6:zQq lcDo6 ((four cfg4 3000).fn 381 lcDo6.vs lcDo6.heap)=1:=by kernel_rfl
end
section
set_option maxRecDepth 1000000
noncomputable def tabDo:List LitC:=[lcDo0,lcDo1,lcDo2,lcDo3,lcDo4,lcDo5,lcDo6]
theorem tabDo_ok:∀c∈tabDo,zQq c (yhq cfg4 3000 381 c.vs c.heap)=1:=by
 intro c hc;simp only[tabDo,List.mem_cons,List.not_mem_nil,or_false] at hc;rcases hc with rfl|rfl|rfl|rfl|rfl|rfl|rfl
 ·exact zaq rlDo0
 ·exact zaq rlDo1
 ·exact zaq rlDo2
 ·exact zaq rlDo3
 ·exact zaq rlDo4
 ·exact zaq rlDo5
 ·exact zaq rlDo6
noncomputable def fallDo:List V->Heap->Option (V×Heap):=λvs h=>match litK tabDo vs h with
 |some r=>some r
 |none=>(four cfg4 3000).fn 381 vs h
theorem knownLDo:qCq Tryz.prog cfg4 381 fallDo:=λvs h v h' he=>by
 unfold fallDo at he;split at he
 ·rename_i r hr;cases he;exact k8q mixed cfg4OK fns4OK Zoq tabDo_ok vs h _ _ hr
 ·rw[kCq] at he;exact known_of (k:=λvs h=>yhq cfg4 3000 381 vs h) mixed cfg4OK fns4OK Zoq (λvs h v h' e=>⟨3000,e⟩) vs h v h' he
noncomputable def known5T:Tr (List V->Heap->Option (V×Heap)):=known4T.set 381 (some fallDo)
noncomputable def cfg5:Cfg:={cfg with known:=λf=>known5T.get f}
theorem cfg5OK:CfgOK Tryz.prog cfg5:=⟨cfgOK.ty,cfgOK.ext,cfgOK.mp,cfgOK.mt,cfgOK.ptr,cfgOK.raw,cfgOK.fnc,cfgOK.room⟩
theorem fns5OK:khq Tryz.prog cfg5:=fnsOK
theorem Znq:yQq Tryz.prog cfg5:=λf k hk=>by
 have e:known5T.get f=if f=381 then some fallDo else known4T.get f:=by
  unfold known5T;rw[Tr.get_set]
 have hk:known5T.get f=some k:=hk;rw[e] at hk;split at hk
 ·rename_i hf;cases hk;subst hf;exact knownLDo
 ·exact Zoq f k hk
end
end
end Go.Proofs.YthicobhmmikngaaGreatDoor

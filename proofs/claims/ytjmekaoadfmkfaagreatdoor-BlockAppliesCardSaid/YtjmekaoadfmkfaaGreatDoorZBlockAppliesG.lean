/-
  What the proof of BlockApplies stands on, part 7. No condition.
-/
import Derived.Ground.SlbNamesProg
import Derived.Shelf.Bytes.SlJoin
import Derived.Test.YtjmekaoadfmkfaaGreatDoorProg
import Derived.Test.YtjmekaoadfmkfaaGreatDoorZBlockAppliesF
set_option linter.unusedSimpArgs false
set_option linter.unusedVariables false
namespace Go.Proofs.YtjmekaoadfmkfaaGreatDoor
section
open Go.RowKit
section
attribute [local irreducible] CoW OpW FlW Step Spec
noncomputable def wordN(b0 b1 b2 b3:Nat):Nat:=orN (orN (orN (shlN (b0%4294967296) 24) (shlN (b1%4294967296) 16)) (shlN (b2%4294967296) 8)) (b3%4294967296)
noncomputable def uaq(bs:Nat->Nat)(l:List Nat):Nat:=match Nat.blt l.length 16 with
 |true=>wordN (bs (4*l.length)) (bs (4*l.length+1)) (bs (4*l.length+2)) (bs (4*l.length+3))
 |false=>addN (addN (addN (l.getD (l.length-16) 0) (xorN (xorN (rotN (l.getD (l.length-15) 0) 7) (rotN (l.getD (l.length-15) 0) 18)) (shrN (l.getD (l.length-15) 0) 3))) (l.getD (l.length-7) 0)) (xorN (xorN (rotN (l.getD (l.length-2) 0) 17) (rotN (l.getD (l.length-2) 0) 19)) (shrN (l.getD (l.length-2) 0) 10))
noncomputable def yHq(bs:Nat->Nat):Nat->List Nat
 |0=>[]
 |t+1=>yHq bs t++[uaq bs (yHq bs t)]
theorem x5q(bs:Nat->Nat):∀t,(yHq bs t).length=t
 |0=>rfl
 |t+1=>by simp[yHq,x5q bs t]
theorem Zoq{l:List Nat}{i:Nat}(h:i<l.length):(l.map wd)[i]? =some (wd (l.getD i 0)):=by
 simp[List.getElem?_map,List.getElem?_eq_getElem h,List.getD]
noncomputable def kW:List Nat:=[1116352408,1899447441,3049323471,3921009573,961987163,1508970993,2453635748,2870763221,3624381080,310598401,607225278,1426881987,1925078388,2162078206,2614888103,3248222580,3835390401,4022224774,264347078,604807628,770255983,1249150122,1555081692,1996064986,2554220882,2821834349,2952996808,3210313671,3336571891,3584528711,113926993,338241895,666307205,773529912,1294757372,1396182291,1695183700,1986661051,2177026350,2456956037,2730485921,2820302411,3259730800,3345764771,3516065817,3600352804,4094571909,275423344,430227734,506948616,659060556,883997877,958139571,1322822218,1537002063,1747873779,1955562222,2024104815,2227730452,2361852424,2428436474,2756734187,3204031479,3329325298]
noncomputable def glK:Nat->Option W:=fun g=>match g with
 |0=>some (.arr 64 1 (kW.map wd))
 |_=>none
noncomputable def pad0(l:List Nat)(n:Nat):List Nat:=l++List.replicate (n-l.length) 0
theorem pad0_at{l:List Nat}{n i:Nat}(h:i<l.length):((pad0 l n).map wd)[i]? =some (wd (l.getD i 0)):=by
 have:i<(pad0 l n).length:=by simp[pad0];omega
 rw[Zoq this];simp[pad0,List.getD,List.getElem?_append,h]
theorem pad0_ge{l:List Nat}{n:Nat}(h:l.length<n):((pad0 l n).map wd)[l.length]? =some (wd 0):=by
 have:l.length<(pad0 l n).length:=by simp[pad0];omega
 rw[Zoq this];simp[pad0,List.getD,List.getElem?_append,List.getElem?_replicate,show 0<n-l.length by omega]
theorem pad0_set{l:List Nat}{n x:Nat}(h:l.length<n):((pad0 l n).map wd).set l.length (wd x)=(pad0 (l++[x]) n).map wd:=by
 rw[<-List.map_set];congr 1
 unfold pad0;rw[List.set_append_right _ _ (Nat.le_refl _)];have:n-l.length=(n-(l++[x]).length)+1:=by simp;omega
 rw[this,Nat.sub_self,List.replicate_succ,List.set_cons_zero,List.append_assoc];rfl
structure S8 where
 (a b c d e f g h:Nat)
noncomputable def S8.l(s:S8):List W:=[wd s.a,wd s.b,wd s.c,wd s.d,wd s.e,wd s.f,wd s.g,wd s.h]
noncomputable def roundN(k w:Nat)(v:S8):S8:=
 let one:=addN (addN (addN (addN v.h (xorN (xorN (rotN v.e 6) (rotN v.e 11)) (rotN v.e 25))) (xorN (andN v.e v.f) (andN (notN v.e) v.g))) k) w
 let two:=addN (xorN (xorN (rotN v.a 2) (rotN v.a 13)) (rotN v.a 22)) (xorN (xorN (andN v.a v.b) (andN v.a v.c)) (andN v.b v.c))
 ⟨addN one two,v.a,v.b,v.c,addN v.d one,v.e,v.f,v.g⟩
noncomputable def x7q(ws:List Nat)(s:S8):Nat->S8
 |0=>s
 |t+1=>roundN (kW.getD t 0) (ws.getD t 0) (x7q ws s t)
noncomputable def add8(s v:S8):S8:=⟨addN s.a v.a,addN s.b v.b,addN s.c v.c,addN s.d v.d,addN s.e v.e,addN s.f v.f,addN s.g v.g,addN s.h v.h⟩
noncomputable def jOq(bs:Nat->Nat)(s:S8):S8:=add8 s (x7q (yHq bs 64) s 64)
noncomputable def mix8(s v:S8):Nat->List W
 |0=>s.l
 |1=>[wd (addN s.a v.a),wd s.b,wd s.c,wd s.d,wd s.e,wd s.f,wd s.g,wd s.h]
 |2=>[wd (addN s.a v.a),wd (addN s.b v.b),wd s.c,wd s.d,wd s.e,wd s.f,wd s.g,wd s.h]
 |3=>[wd (addN s.a v.a),wd (addN s.b v.b),wd (addN s.c v.c),wd s.d,wd s.e,wd s.f,wd s.g,wd s.h]
 |4=>[wd (addN s.a v.a),wd (addN s.b v.b),wd (addN s.c v.c),wd (addN s.d v.d),wd s.e,wd s.f,wd s.g,wd s.h]
 |5=>[wd (addN s.a v.a),wd (addN s.b v.b),wd (addN s.c v.c),wd (addN s.d v.d),wd (addN s.e v.e),wd s.f,wd s.g,wd s.h]
 |6=>[wd (addN s.a v.a),wd (addN s.b v.b),wd (addN s.c v.c),wd (addN s.d v.d),wd (addN s.e v.e),wd (addN s.f v.f),wd s.g,wd s.h]
 |7=>[wd (addN s.a v.a),wd (addN s.b v.b),wd (addN s.c v.c),wd (addN s.d v.d),wd (addN s.e v.e),wd (addN s.f v.f),wd (addN s.g v.g),wd s.h]
 |_=>(add8 s v).l
theorem kW_len:kW.length=64:=rfl
set_option maxHeartbeats 1600000 in
theorem block_s(s:S8)(bs:Nat->Nat)(c:W)(base off:Nat)(lim:Option Nat)(ty:TypeId)(hc:refB 2 c=true)(hby:∀i,i<64->yuq 50 c (off+i*1) 1 false=some (.int .u8 (.ofNat (bs i))))(R:Res):
  Spec cfg glK 265 2 [.ptr 0 0,.sl 1 base off 64 1 lim] [(0,346,.arr 8 1 s.l),(1,ty,c)] R fun w hp nw R'=>R'=R/\w= .tup []/\hp=[(0,346,.arr 8 1 (jOq bs s).l),(1,ty,c)]/\nw=2:=by
 refine zVq (fn:=Tryz.f265) O O O (Ob rfl) (fun k0=>?_);refine zRq (zuq (znq O O (z1q ?_)));refine yhq (zRq (zRq (zuq (zbq O O (z1q ?_)))));refine yhq (yAq ?_);refine qBq (fun t:Nat=>t<=64) (fun t=>[(19,.int .i64 (t:Int)),(4,.ptr 2 0),(1,.sl 1 base off 64 1 lim),(0,.ptr 0 0)]) (fun t=>[(2,364,.arr 64 1 ((pad0 (yHq bs t) 64).map wd)),(0,346,.arr 8 1 s.l),(1,ty,c)]) (fun _=>3) (fun _=>R) (fun t=>64-t) 0 (Nat.zero_le _) ?_ (fun t ht=>?_)
 ·exact ylq ⟨rfl,rfl,rfl,rfl,trivial⟩ O O
 have hl:=x5q bs t;refine zRq (zuq (zbq O O (z1q ?_)));refine yhq (zRq ?_);refine jYq rfl (fun hc1=>?_) (fun hc1=>?_)
 ·have ht1:t<64:=by have:=ltI_iff.1 hc1;omega
  have h0:((pad0 (yHq bs t) 64).map wd)[0+t*1]? =some (wd 0):=by
   have:=pad0_ge (l:=yHq bs t) (n:=64) Xd;rw[hl] at this;simpa using this
  have key:∀x,uaq bs (yHq bs t)=x->((pad0 (yHq bs t) 64).map wd).set (0+t*1) (wd x)=(pad0 (yHq bs (t+1)) 64).map wd:=fun x hx=>by
   have:=pad0_set (l:=yHq bs t) (n:=64) (x:=x) Xd;rw[hl] at this;rw[Nat.zero_add,Nat.mul_one,this,yHq,hx]
  refine qQq (yhq (zRq (yAq (zRq (zuq (zbq O O (zbq O O (z1q ?_))))))));refine yhq (zRq (zRq (zuq (zbq O O (zbq O O (z1q ?_))))));refine yhq ?_;refine jYq rfl (fun hc2=>?_) (fun hc2=>?_)
  ·have ht2:t<16:=by have:=ltI_iff.1 hc2;omega
   refine zRq (jIq (zcq O O (zcq O O (zcq O O ?_))));first|refine qbq O O ⟨by omega,by omega⟩ ?_|refine zcq O O ?_
   refine zcq rfl (zLq (i:=4*t) O O O O O O O Xd) ?_;refine yqq rfl (ypq O O O (hby _ Xd)) Xr ?_;first|refine qbq O O ⟨by omega,by omega⟩ ?_|refine zcq O O ?_
   refine zcq O O (zcq O O (zcq O O ?_));first|refine qbq O O ⟨by omega,by omega⟩ ?_|refine zcq O O ?_
   first|refine qbq O O ⟨by omega,by omega⟩ ?_|refine zcq O O ?_
   refine zcq rfl (zLq (i:=4*t+1) O O O O O O O Xd) ?_;refine yqq rfl (ypq O O O (hby _ Xd)) Xr ?_;first|refine qbq O O ⟨by omega,by omega⟩ ?_|refine zcq O O ?_
   refine zcq O O (zcq O O (zcq O O (zcq O O ?_)));first|refine qbq O O ⟨by omega,by omega⟩ ?_|refine zcq O O ?_
   first|refine qbq O O ⟨by omega,by omega⟩ ?_|refine zcq O O ?_
   refine zcq rfl (zLq (i:=4*t+2) O O O O O O O Xd) ?_;refine yqq rfl (ypq O O O (hby _ Xd)) Xr ?_;first|refine qbq O O ⟨by omega,by omega⟩ ?_|refine zcq O O ?_
   refine zcq O O (zcq O O (zcq O O (zcq O O ?_)));first|refine qbq O O ⟨by omega,by omega⟩ ?_|refine zcq O O ?_
   first|refine qbq O O ⟨by omega,by omega⟩ ?_|refine zcq O O ?_
   refine zcq rfl (zLq (i:=4*t+3) O O O O O O O Xd) ?_;refine yqq rfl (ypq O O O (hby _ Xd)) Xr ?_;first|refine qbq O O ⟨by omega,by omega⟩ ?_|refine zcq O O ?_
   refine zcq O O (zcq rfl (zsq (i:=t) O O O O O O Xd) ?_);refine yqq rfl (jLq O O O O O (qSq h0 O O) rfl) Xr ?_;refine kGq ?_;refine yhq (kfq ?_);refine xVq Xj ?_;refine ZYq (yhq (zuq ?_));first|refine yzq O O ⟨by omega,by omega⟩ ?_|refine zbq O O ?_
   refine zbq O O (z1q ?_);refine ywq (t+1) Xd Xd (ylq ⟨rfl,rfl,rfl,rfl,trivial⟩ (congrArg (fun L=>[(2,364,W.arr 64 1 L),(0,346,.arr 8 1 s.l),(1,ty,c)]) (key (wordN (bs (4*t)) (bs (4*t+1)) (bs (4*t+2)) (bs (4*t+3))) ?_)) rfl);have hb:Nat.blt (yHq bs t).length 16=true:=by rw[hl];simpa[Nat.blt_eq] using ht2
   unfold uaq;rw[hb];simp only[hl]
  ·have ht2:¬t<16:=by have:=ltI_not.1 hc2;omega
   have hA:∀k,k<t->((pad0 (yHq bs t) 64).map wd)[0+k*1]? =some (wd ((yHq bs t).getD k 0)):=fun k hk=>by
    rw[Nat.zero_add,Nat.mul_one];exact pad0_at Xd
   refine qQq (yhq (zRq (jIq (zcq O O (qNq (t-15) O O Xi ⟨by omega,by omega⟩ ?_)))));refine zcq rfl (zsq (i:=t-15) O O O O O O Xd) ?_;refine yqq rfl (ypq O O O (qfq (hA (t-15) Xd) rfl)) Xr ?_;refine zcq O O (qNq (t-2) O O Xi ⟨by omega,by omega⟩ ?_);refine zcq rfl (zsq (i:=t-2) O O O O O O Xd) ?_;refine yqq rfl (ypq O O O (qfq (hA (t-2) Xd) rfl)) Xr ?_;refine zcq O O (zcq O O (kGq ?_));refine yhq (jIq (zcq O O (zcq O O (qNq (t-16) O O Xi ⟨by omega,by omega⟩ ?_))));refine zcq rfl (zsq (i:=t-16) O O O O O O Xd) ?_;refine yqq rfl (ypq O O O (qfq (hA (t-16) Xd) rfl)) Xr ?_;refine zcq O O ?_
   (refine yaq rfl (qrq O O O O (j0q _ Xq _ _) O ?_);rintro w hp1 nw1 ⟨rfl,rfl,rfl⟩;first|refine⟨rfl,rfl,?_⟩|refine⟨rfl,?_⟩)
   refine zcq O O ?_
   (refine yaq rfl (qrq O O O O (j0q _ Xq _ _) O ?_);rintro w hp1 nw1 ⟨rfl,rfl,rfl⟩;first|refine⟨rfl,rfl,?_⟩|refine⟨rfl,?_⟩)
   refine zcq O O (zcq O O (zcq O O (zcq O O ?_)));first|refine qbq O O ⟨by omega,by omega⟩ ?_|refine zcq O O ?_
   refine zcq O O (qNq (t-7) O O Xi ⟨by omega,by omega⟩ ?_);refine zcq rfl (zsq (i:=t-7) O O O O O O Xd) ?_;refine yqq rfl (ypq O O O (qfq (hA (t-7) Xd) rfl)) Xr ?_;first|refine qbq O O ⟨by omega,by omega⟩ ?_|refine zcq O O ?_
   refine zcq O O ?_
   (refine yaq rfl (qrq O O O O (j0q _ Xq _ _) O ?_);rintro w hp1 nw1 ⟨rfl,rfl,rfl⟩;first|refine⟨rfl,rfl,?_⟩|refine⟨rfl,?_⟩)
   refine zcq O O ?_
   (refine yaq rfl (qrq O O O O (j0q _ Xq _ _) O ?_);rintro w hp1 nw1 ⟨rfl,rfl,rfl⟩;first|refine⟨rfl,rfl,?_⟩|refine⟨rfl,?_⟩)
   refine zcq O O (zcq O O (zcq O O (zcq O O ?_)));first|refine qbq O O ⟨by omega,by omega⟩ ?_|refine zcq O O ?_
   refine zcq rfl (zsq (i:=t) O O O O O O Xd) ?_;refine yqq rfl (jLq O O O O O (qSq h0 O O) rfl) Xr ?_;refine kGq ?_;refine jMq Yi ?_;refine yhq (zuq ?_);first|refine yzq O O ⟨by omega,by omega⟩ ?_|refine zbq O O ?_
   refine zbq O O (z1q ?_);refine ywq (t+1) Xd Xd (ylq ⟨rfl,rfl,rfl,rfl,trivial⟩ (congrArg (fun L=>[(2,364,W.arr 64 1 L),(0,346,.arr 8 1 s.l),(1,ty,c)]) (key (addN (addN (addN ((yHq bs t).getD (t-16) 0) (xorN (xorN (rotN ((yHq bs t).getD (t-15) 0) 7) (rotN ((yHq bs t).getD (t-15) 0) 18)) (shrN ((yHq bs t).getD (t-15) 0) 3))) ((yHq bs t).getD (t-7) 0)) (xorN (xorN (rotN ((yHq bs t).getD (t-2) 0) 17) (rotN ((yHq bs t).getD (t-2) 0) 19)) (shrN ((yHq bs t).getD (t-2) 0) 10))) ?_)) rfl)
   have hb:Nat.blt (yHq bs t).length 16=false:=by
    cases hq:Nat.blt (yHq bs t).length 16 with
    |true=>exact absurd (blt_t hq) Xd
    |false=>rfl
   unfold uaq;rw[hb];simp only[hl]
 ·obtain rfl:t=64:=by have:=ltI_not.1 hc1;omega
  have hS:(pad0 (yHq bs 64) 64)=yHq bs 64:=by
   unfold pad0;rw[hl];simp
  simp only[hS];refine kfq ?_;refine xVq Xj ?_;refine qoq Xj ?_;refine ZYq (yhq (zRq (zuq (zbq O O (zbq O O (znq O O (znq O O (znq O O (z1q ?_)))))))));refine yhq (zRq (zRq (zuq (zbq O O (z1q ?_)))));refine yhq (yAq ?_);refine qBq (fun t:Nat=>t<=64) (fun t=>[(100,.int .i64 (t:Int)),(8,.ptr 3 0),(4,.ptr 2 0),(0,.ptr 0 0)]) (fun t=>[(3,346,.arr 8 1 (x7q (yHq bs 64) s t).l),(2,364,.arr 64 1 ((yHq bs 64).map wd)),(0,346,.arr 8 1 s.l),(1,ty,c)]) (fun _=>4) (fun _=>R) (fun t=>64-t) 0 (Nat.zero_le _) ?_ (fun t ht=>?_)
  ·exact ylq ⟨rfl,rfl,rfl,rfl,trivial⟩ O O
  refine zRq (zuq (zbq O O (z1q ?_)));refine yhq (zRq ?_);refine jYq rfl (fun hc3=>?_) (fun hc3=>?_)
  ·have ht1:t<64:=by have:=ltI_iff.1 hc3;omega
   have hK:yuq 50 (.arr 64 1 (kW.map wd)) (t*1) 1 false=some (wd (kW.getD t 0)):=qfq (by rw[Nat.mul_one];exact Zoq (by rw[kW_len];exact ht1)) rfl;have hW:yuq 50 (.arr 64 1 ((yHq bs 64).map wd)) (0+t*1) 1 false=some (wd ((yHq bs 64).getD t 0)):=qfq (by rw[Nat.zero_add,Nat.mul_one];exact Zoq Xd) rfl;refine qQq (yhq (zRq (yAq (zRq (zuq (zbq O O (zbq O O (z1q ?_))))))));refine yhq (zRq (jIq ?_));first|refine zcq O O ?_|refine zcq rfl (zLq O O O O O O O Xd) ?_|refine zcq rfl (zsq O O O O O O Xd) ?_|refine zcq rfl (zBq O O O O O O O Xl) ?_
   refine yOq O O ?_;first|refine zcq O O ?_|refine zcq rfl (zLq O O O O O O O Xd) ?_|refine zcq rfl (zsq O O O O O O Xd) ?_|refine zcq rfl (zBq O O O O O O O Xl) ?_
   refine yOq O O ?_;first|refine zcq O O ?_|refine zcq rfl (zLq O O O O O O O Xd) ?_|refine zcq rfl (zsq O O O O O O Xd) ?_|refine zcq rfl (zBq O O O O O O O Xl) ?_
   refine yOq O O ?_;first|refine zcq O O ?_|refine zcq rfl (zLq O O O O O O O Xd) ?_|refine zcq rfl (zsq O O O O O O Xd) ?_|refine zcq rfl (zBq O O O O O O O Xl) ?_
   refine yOq O O ?_;first|refine zcq O O ?_|refine zcq rfl (zLq O O O O O O O Xd) ?_|refine zcq rfl (zsq O O O O O O Xd) ?_|refine zcq rfl (zBq O O O O O O O Xl) ?_
   refine yOq O O ?_;first|refine zcq O O ?_|refine zcq rfl (zLq O O O O O O O Xd) ?_|refine zcq rfl (zsq O O O O O O Xd) ?_|refine zcq rfl (zBq O O O O O O O Xl) ?_
   refine yOq O O ?_;refine zcq O O (zcq O O (zcq O O (zcq O O (zcq O O (zcq O O (kGq ?_))))));refine yhq (zRq (jIq ?_));first|refine zcq O O ?_|refine zcq rfl (zLq O O O O O O O Xd) ?_|refine zcq rfl (zsq O O O O O O Xd) ?_|refine zcq rfl (zBq O O O O O O O Xl) ?_
   refine yOq O O ?_;refine zcq O O ?_
   (refine yaq rfl (qrq O O O O (j0q _ Xq _ _) O ?_);rintro w hp1 nw1 ⟨rfl,rfl,rfl⟩;first|refine⟨rfl,rfl,?_⟩|refine⟨rfl,?_⟩)
   refine zcq O O ?_
   (refine yaq rfl (qrq O O O O (j0q _ Xq _ _) O ?_);rintro w hp1 nw1 ⟨rfl,rfl,rfl⟩;first|refine⟨rfl,rfl,?_⟩|refine⟨rfl,?_⟩)
   refine zcq O O (zcq O O ?_)
   (refine yaq rfl (qrq O O O O (j0q _ Xq _ _) O ?_);rintro w hp1 nw1 ⟨rfl,rfl,rfl⟩;first|refine⟨rfl,rfl,?_⟩|refine⟨rfl,?_⟩)
   refine zcq O O ?_;first|refine qbq O O ⟨by omega,by omega⟩ ?_|refine zcq O O ?_
   refine zcq O O (zcq O O (zcq O O (zcq O O (zcq O O (zcq O O (zcq O O (zcq O O ?_)))))));first|refine qbq O O ⟨by omega,by omega⟩ ?_|refine zcq O O ?_
   refine zcq O O (zcq rfl (ix_fel (i:=t) O O O O O O Xd rfl hK) ?_);refine yOq O O ?_;first|refine qbq O O ⟨by omega,by omega⟩ ?_|refine zcq O O ?_
   refine zcq O O (zcq rfl (zsq (i:=t) O O O O O O Xd) ?_);refine yqq rfl (ypq O O O hW) Xr ?_;first|refine qbq O O ⟨by omega,by omega⟩ ?_|refine zcq O O ?_
   refine zcq O O (kGq ?_);refine yhq (zRq (zuq (zbq O O ?_)))
   (refine zrq rfl (qrq O O O O (j0q _ Xq _ _) O ?_);rintro w hp1 nw1 ⟨rfl,rfl,rfl⟩;first|refine⟨rfl,rfl,?_⟩|refine⟨rfl,?_⟩)
   refine zbq O O ?_
   (refine zrq rfl (qrq O O O O (j0q _ Xq _ _) O ?_);rintro w hp1 nw1 ⟨rfl,rfl,rfl⟩;first|refine⟨rfl,rfl,?_⟩|refine⟨rfl,?_⟩)
   refine zbq O O (zbq O O ?_)
   (refine zrq rfl (qrq O O O O (j0q _ Xq _ _) O ?_);rintro w hp1 nw1 ⟨rfl,rfl,rfl⟩;first|refine⟨rfl,rfl,?_⟩|refine⟨rfl,?_⟩)
   refine zbq O O (zbq O O (zbq O O (zbq O O (zbq O O (zbq O O (zbq O O (zbq O O (zbq O O (zbq O O (zbq O O (zbq O O ?_)))))))))));first|refine yzq O O ⟨by omega,by omega⟩ ?_|refine zbq O O ?_
   refine zbq O O (z1q ?_);refine yhq (zuq (zbq O O (zbq O O ?_)));first|refine yzq O O ⟨by omega,by omega⟩ ?_|refine zbq O O ?_
   refine zbq O O (zbq O O (zbq O O ?_));first|refine zbq O O ?_|refine zbq rfl (zLq O O O O O O O Xd) ?_|refine zbq rfl (zsq O O O O O O Xd) ?_|refine zbq rfl (zBq O O O O O O O Xl) ?_
   refine znq O O (zbq O O ?_);first|refine yzq O O ⟨by omega,by omega⟩ ?_|refine zbq O O ?_
   refine zbq O O (zbq O O (zbq O O (zbq O O (znq O O (z1q ?_)))));refine jMq Yi ?_;refine yhq (zuq ?_);first|refine yzq O O ⟨by omega,by omega⟩ ?_|refine zbq O O ?_
   refine zbq O O (z1q ?_);refine ywq (t+1) Xd Xd (ylq ⟨rfl,rfl,rfl,rfl,trivial⟩ O O)
  ·obtain rfl:t=64:=by have:=ltI_not.1 hc3;omega
   refine kfq ?_;refine xVq Xj ?_;refine qoq Xj ?_;refine ZYq (yhq (zRq (zuq (zbq O O (z1q ?_)))));refine yhq (yAq ?_);refine qBq (fun i:Nat=>i<=8) (fun i=>[(178,.int .i64 (i:Int)),(8,.ptr 3 0),(0,.ptr 0 0)]) (fun i=>[(3,346,.arr 8 1 (x7q (yHq bs 64) s 64).l),(0,346,.arr 8 1 (mix8 s (x7q (yHq bs 64) s 64) i)),(1,ty,c)]) (fun _=>4) (fun _=>R) (fun i=>8-i) 0 (Nat.zero_le _) ?_ (fun i hi=>?_)
   ·exact(ent_del (b:=2)).trans (ylq ⟨rfl,rfl,rfl,trivial⟩ O O)
   refine zRq (zuq (zbq O O (z1q ?_)));refine yhq (zRq ?_);refine jYq rfl (fun hc4=>?_) (fun hc4=>?_)
   ·have hi1:i<8:=by have:=ltI_iff.1 hc4;omega
    have hq:i=0\/i=1\/i=2\/i=3\/i=4\/i=5\/i=6\/i=7:=by omega
    skip
    rcases hq with rfl|rfl|rfl|rfl|rfl|rfl|rfl|rfl
    ·skip
     refine qQq (yhq (zRq (yAq (zRq (zuq (zbq O O (zbq O O (z1q ?_))))))));refine yhq (jIq (zcq O O (zcq O O (zcq O O ?_))));first|refine zcq O O ?_|refine zcq rfl (zLq O O O O O O O Xd) ?_|refine zcq rfl (zsq O O O O O O Xd) ?_|refine zcq rfl (zBq O O O O O O O Xl) ?_
     refine yOq O O ?_;refine zcq O O ?_;first|refine zcq O O ?_|refine zcq rfl (zLq O O O O O O O Xd) ?_|refine zcq rfl (zsq O O O O O O Xd) ?_|refine zcq rfl (zBq O O O O O O O Xl) ?_
     refine yOq O O ?_;first|refine qbq O O ⟨by omega,by omega⟩ ?_|refine zcq O O ?_
     refine zcq O O ?_;first|refine zcq O O ?_|refine zcq rfl (zLq O O O O O O O Xd) ?_|refine zcq rfl (zsq O O O O O O Xd) ?_|refine zcq rfl (zBq O O O O O O O Xl) ?_
     refine yOq O O ?_;refine kGq ?_;refine jMq Yi ?_;refine yhq (zuq ?_);first|refine yzq O O ⟨by omega,by omega⟩ ?_|refine zbq O O ?_
     refine zbq O O (z1q ?_);exact ywq 1 Xq Xq (ylq ⟨rfl,rfl,rfl,trivial⟩ O O)
    ·skip
     refine qQq (yhq (zRq (yAq (zRq (zuq (zbq O O (zbq O O (z1q ?_))))))));refine yhq (jIq (zcq O O (zcq O O (zcq O O ?_))));first|refine zcq O O ?_|refine zcq rfl (zLq O O O O O O O Xd) ?_|refine zcq rfl (zsq O O O O O O Xd) ?_|refine zcq rfl (zBq O O O O O O O Xl) ?_
     refine yOq O O ?_;refine zcq O O ?_;first|refine zcq O O ?_|refine zcq rfl (zLq O O O O O O O Xd) ?_|refine zcq rfl (zsq O O O O O O Xd) ?_|refine zcq rfl (zBq O O O O O O O Xl) ?_
     refine yOq O O ?_;first|refine qbq O O ⟨by omega,by omega⟩ ?_|refine zcq O O ?_
     refine zcq O O ?_;first|refine zcq O O ?_|refine zcq rfl (zLq O O O O O O O Xd) ?_|refine zcq rfl (zsq O O O O O O Xd) ?_|refine zcq rfl (zBq O O O O O O O Xl) ?_
     refine yOq O O ?_;refine kGq ?_;refine jMq Yi ?_;refine yhq (zuq ?_);first|refine yzq O O ⟨by omega,by omega⟩ ?_|refine zbq O O ?_
     refine zbq O O (z1q ?_);exact ywq 2 Xq Xq (ylq ⟨rfl,rfl,rfl,trivial⟩ O O)
    ·skip
     refine qQq (yhq (zRq (yAq (zRq (zuq (zbq O O (zbq O O (z1q ?_))))))));refine yhq (jIq (zcq O O (zcq O O (zcq O O ?_))));first|refine zcq O O ?_|refine zcq rfl (zLq O O O O O O O Xd) ?_|refine zcq rfl (zsq O O O O O O Xd) ?_|refine zcq rfl (zBq O O O O O O O Xl) ?_
     refine yOq O O ?_;refine zcq O O ?_;first|refine zcq O O ?_|refine zcq rfl (zLq O O O O O O O Xd) ?_|refine zcq rfl (zsq O O O O O O Xd) ?_|refine zcq rfl (zBq O O O O O O O Xl) ?_
     refine yOq O O ?_;first|refine qbq O O ⟨by omega,by omega⟩ ?_|refine zcq O O ?_
     refine zcq O O ?_;first|refine zcq O O ?_|refine zcq rfl (zLq O O O O O O O Xd) ?_|refine zcq rfl (zsq O O O O O O Xd) ?_|refine zcq rfl (zBq O O O O O O O Xl) ?_
     refine yOq O O ?_;refine kGq ?_;refine jMq Yi ?_;refine yhq (zuq ?_);first|refine yzq O O ⟨by omega,by omega⟩ ?_|refine zbq O O ?_
     refine zbq O O (z1q ?_);exact ywq 3 Xq Xq (ylq ⟨rfl,rfl,rfl,trivial⟩ O O)
    ·skip
     refine qQq (yhq (zRq (yAq (zRq (zuq (zbq O O (zbq O O (z1q ?_))))))));refine yhq (jIq (zcq O O (zcq O O (zcq O O ?_))));first|refine zcq O O ?_|refine zcq rfl (zLq O O O O O O O Xd) ?_|refine zcq rfl (zsq O O O O O O Xd) ?_|refine zcq rfl (zBq O O O O O O O Xl) ?_
     refine yOq O O ?_;refine zcq O O ?_;first|refine zcq O O ?_|refine zcq rfl (zLq O O O O O O O Xd) ?_|refine zcq rfl (zsq O O O O O O Xd) ?_|refine zcq rfl (zBq O O O O O O O Xl) ?_
     refine yOq O O ?_;first|refine qbq O O ⟨by omega,by omega⟩ ?_|refine zcq O O ?_
     refine zcq O O ?_;first|refine zcq O O ?_|refine zcq rfl (zLq O O O O O O O Xd) ?_|refine zcq rfl (zsq O O O O O O Xd) ?_|refine zcq rfl (zBq O O O O O O O Xl) ?_
     refine yOq O O ?_;refine kGq ?_;refine jMq Yi ?_;refine yhq (zuq ?_);first|refine yzq O O ⟨by omega,by omega⟩ ?_|refine zbq O O ?_
     refine zbq O O (z1q ?_);exact ywq 4 Xq Xq (ylq ⟨rfl,rfl,rfl,trivial⟩ O O)
    ·skip
     refine qQq (yhq (zRq (yAq (zRq (zuq (zbq O O (zbq O O (z1q ?_))))))));refine yhq (jIq (zcq O O (zcq O O (zcq O O ?_))));first|refine zcq O O ?_|refine zcq rfl (zLq O O O O O O O Xd) ?_|refine zcq rfl (zsq O O O O O O Xd) ?_|refine zcq rfl (zBq O O O O O O O Xl) ?_
     refine yOq O O ?_;refine zcq O O ?_;first|refine zcq O O ?_|refine zcq rfl (zLq O O O O O O O Xd) ?_|refine zcq rfl (zsq O O O O O O Xd) ?_|refine zcq rfl (zBq O O O O O O O Xl) ?_
     refine yOq O O ?_;first|refine qbq O O ⟨by omega,by omega⟩ ?_|refine zcq O O ?_
     refine zcq O O ?_;first|refine zcq O O ?_|refine zcq rfl (zLq O O O O O O O Xd) ?_|refine zcq rfl (zsq O O O O O O Xd) ?_|refine zcq rfl (zBq O O O O O O O Xl) ?_
     refine yOq O O ?_;refine kGq ?_;refine jMq Yi ?_;refine yhq (zuq ?_);first|refine yzq O O ⟨by omega,by omega⟩ ?_|refine zbq O O ?_
     refine zbq O O (z1q ?_);exact ywq 5 Xq Xq (ylq ⟨rfl,rfl,rfl,trivial⟩ O O)
    ·skip
     refine qQq (yhq (zRq (yAq (zRq (zuq (zbq O O (zbq O O (z1q ?_))))))));refine yhq (jIq (zcq O O (zcq O O (zcq O O ?_))));first|refine zcq O O ?_|refine zcq rfl (zLq O O O O O O O Xd) ?_|refine zcq rfl (zsq O O O O O O Xd) ?_|refine zcq rfl (zBq O O O O O O O Xl) ?_
     refine yOq O O ?_;refine zcq O O ?_;first|refine zcq O O ?_|refine zcq rfl (zLq O O O O O O O Xd) ?_|refine zcq rfl (zsq O O O O O O Xd) ?_|refine zcq rfl (zBq O O O O O O O Xl) ?_
     refine yOq O O ?_;first|refine qbq O O ⟨by omega,by omega⟩ ?_|refine zcq O O ?_
     refine zcq O O ?_;first|refine zcq O O ?_|refine zcq rfl (zLq O O O O O O O Xd) ?_|refine zcq rfl (zsq O O O O O O Xd) ?_|refine zcq rfl (zBq O O O O O O O Xl) ?_
     refine yOq O O ?_;refine kGq ?_;refine jMq Yi ?_;refine yhq (zuq ?_);first|refine yzq O O ⟨by omega,by omega⟩ ?_|refine zbq O O ?_
     refine zbq O O (z1q ?_);exact ywq 6 Xq Xq (ylq ⟨rfl,rfl,rfl,trivial⟩ O O)
    ·skip
     refine qQq (yhq (zRq (yAq (zRq (zuq (zbq O O (zbq O O (z1q ?_))))))));refine yhq (jIq (zcq O O (zcq O O (zcq O O ?_))));first|refine zcq O O ?_|refine zcq rfl (zLq O O O O O O O Xd) ?_|refine zcq rfl (zsq O O O O O O Xd) ?_|refine zcq rfl (zBq O O O O O O O Xl) ?_
     refine yOq O O ?_;refine zcq O O ?_;first|refine zcq O O ?_|refine zcq rfl (zLq O O O O O O O Xd) ?_|refine zcq rfl (zsq O O O O O O Xd) ?_|refine zcq rfl (zBq O O O O O O O Xl) ?_
     refine yOq O O ?_;first|refine qbq O O ⟨by omega,by omega⟩ ?_|refine zcq O O ?_
     refine zcq O O ?_;first|refine zcq O O ?_|refine zcq rfl (zLq O O O O O O O Xd) ?_|refine zcq rfl (zsq O O O O O O Xd) ?_|refine zcq rfl (zBq O O O O O O O Xl) ?_
     refine yOq O O ?_;refine kGq ?_;refine jMq Yi ?_;refine yhq (zuq ?_);first|refine yzq O O ⟨by omega,by omega⟩ ?_|refine zbq O O ?_
     refine zbq O O (z1q ?_);exact ywq 7 Xq Xq (ylq ⟨rfl,rfl,rfl,trivial⟩ O O)
    ·skip
     refine qQq (yhq (zRq (yAq (zRq (zuq (zbq O O (zbq O O (z1q ?_))))))));refine yhq (jIq (zcq O O (zcq O O (zcq O O ?_))));first|refine zcq O O ?_|refine zcq rfl (zLq O O O O O O O Xd) ?_|refine zcq rfl (zsq O O O O O O Xd) ?_|refine zcq rfl (zBq O O O O O O O Xl) ?_
     refine yOq O O ?_;refine zcq O O ?_;first|refine zcq O O ?_|refine zcq rfl (zLq O O O O O O O Xd) ?_|refine zcq rfl (zsq O O O O O O Xd) ?_|refine zcq rfl (zBq O O O O O O O Xl) ?_
     refine yOq O O ?_;first|refine qbq O O ⟨by omega,by omega⟩ ?_|refine zcq O O ?_
     refine zcq O O ?_;first|refine zcq O O ?_|refine zcq rfl (zLq O O O O O O O Xd) ?_|refine zcq rfl (zsq O O O O O O Xd) ?_|refine zcq rfl (zBq O O O O O O O Xl) ?_
     refine yOq O O ?_;refine kGq ?_;refine jMq Yi ?_;refine yhq (zuq ?_);first|refine yzq O O ⟨by omega,by omega⟩ ?_|refine zbq O O ?_
     refine zbq O O (z1q ?_);exact ywq 8 Xq Xq (ylq ⟨rfl,rfl,rfl,trivial⟩ O O)
   ·obtain rfl:i=8:=by have:=ltI_not.1 hc4;omega
    refine kfq ?_;refine xVq Xj ?_;refine qoq Xj ?_;refine ZYq ?_;refine fin (.inl rfl) (qmq (fr2:=[]) (hp2:=[(0,346,.arr 8 1 (jOq bs s).l),(1,ty,c)]) (nw2:=2) Xd Xd trivial rfl (qtq ⟨⟨by omega,rfl,rfl⟩,⟨by omega,rfl,hc⟩,trivial⟩) Xk) rfl ⟨rfl,rfl,rfl,rfl⟩
end
section
attribute [local irreducible] CoW OpW FlW Step Spec
noncomputable def atL(r:List Nat)(i:Nat):Nat:=r.getD i 0
noncomputable def eat:Nat->S8->List Nat->S8×List Nat
 |0,s,r=>(s,r)
 |n+1,s,r=>match Nat.ble 64 r.length with
  |true=>eat n (jOq (atL r) s) (r.drop 64)
  |false=>(s,r)
theorem koq:∀(n:Nat) (s:S8) (r:List Nat),r.length<64->eat n s r=(s,r)
 |0,_,_,_=>rfl
 |n+1,s,r,h=>by
  have:Nat.ble 64 r.length=false:=by
   cases hq:Nat.ble 64 r.length with
   |true=>have:=Ob hq;omega
   |false=>rfl
  simp only[eat,this]
theorem Kpq{n:Nat}{s:S8}{r:List Nat}(h:64<=r.length):eat (n+1) s r=eat n (jOq (atL r) s) (r.drop 64):=by
 simp only[eat,Nat.ble_eq_true_of_le h]
theorem eat_fuel:∀(n m:Nat) (s:S8) (r:List Nat),r.length<=n->r.length<=m->eat n s r=eat m s r
 |0,m,s,r,h,_=>by rw[koq m s r Xd];rfl
 |n+1,0,s,r,_,h=>by rw[koq _ s r Xd];rfl
 |n+1,m+1,s,r,h1,h2=>by
  by_cases h:64<=r.length
  ·rw[Kpq h,Kpq h];exact eat_fuel n m _ _ Xu Xu
  ·rw[koq _ s r Xd,koq _ s r Xd]
noncomputable def eats(s:S8)(r:List Nat):S8×List Nat:=eat r.length s r
theorem Qeq{s:S8}{r:List Nat}(h:64<=r.length):eats s r=eats (jOq (atL r) s) (r.drop 64):=by
 unfold eats;obtain⟨n,hn⟩:∃n,r.length=n+1:=⟨r.length-1,by omega⟩
 rw[hn,Kpq h];exact eat_fuel _ _ _ _ Xu (Nat.le_refl _)
noncomputable def usq(a:S8×List Nat)(p:List Nat):S8×List Nat:=eats a.1 (a.2++p)
noncomputable def s0:S8:=⟨1779033703,3144134277,1013904242,2773480762,1359893119,2600822924,528734635,1541459225⟩
noncomputable def padZ:Nat->List Nat->List Nat
 |0,r=>r
 |n+1,r=>match Nat.beq (r.length%64) 56 with
  |true=>r
  |false=>padZ n (r++[0])
noncomputable def len8(many:Nat):List Nat:=[56,48,40,32,24,16,8,0].map fun i=>Nat.shiftRight (8*many%18446744073709551616) i%256
noncomputable def jgq:Nat->S8->List Nat->S8
 |0,s,_=>s
 |n+1,s,r=>match Nat.ble 1 r.length with
  |true=>jgq n (jOq (atL r) s) (r.drop 64)
  |false=>s
theorem ktq:∀(n:Nat) (s:S8),jgq n s []=s
 |0,_=>rfl
 |n+1,s=>rfl
theorem vhq{n:Nat}{s:S8}{r:List Nat}(h:1<=r.length):jgq (n+1) s r=jgq n (jOq (atL r) s) (r.drop 64):=by
 simp only[jgq,Nat.ble_eq_true_of_le h]
theorem Qfq:∀(n m:Nat) (s:S8) (r:List Nat),r.length<=n->r.length<=m->jgq n s r=jgq m s r
 |0,m,s,r,h,_=>by
  obtain rfl:r=[]:=List.length_eq_zero_iff.1 Xd;rw[ktq,ktq]
 |n+1,0,s,r,_,h=>by
  obtain rfl:r=[]:=List.length_eq_zero_iff.1 Xd;rw[ktq,ktq]
 |n+1,m+1,s,r,h1,h2=>by
  by_cases h:1<=r.length
  ·rw[vhq h,vhq h];exact Qfq n m _ _ Xu Xu
  ·obtain rfl:r=[]:=List.length_eq_zero_iff.1 Xd;rw[ktq,ktq]
theorem vgq{s:S8}{r:List Nat}(h:1<=r.length):jgq r.length s r=jgq (r.drop 64).length (jOq (atL r) s) (r.drop 64):=by
 obtain⟨n,hn⟩:∃n,r.length=n+1:=⟨r.length-1,by omega⟩
 rw[hn,vhq h];exact Qfq _ _ _ _ Xu (Nat.le_refl _)
noncomputable def S8.get(s:S8):Nat->Nat
 |0=>s.a
 |1=>s.b
 |2=>s.c
 |3=>s.d
 |4=>s.e
 |5=>s.f
 |6=>s.g
 |_=>s.h
noncomputable def digN(s:S8):List Nat:=(List.range 32).map fun i=>Nat.shiftRight (s.get (i/4)) (24-8*(i%4))%256
noncomputable def qyq(ps:List (List Nat)):Nat:=(ps.map List.length).foldr (· + ·) 0
noncomputable def shaN(ps:List (List Nat)):List Nat:=
 let a:=ps.foldl usq (s0,[])
 let r:=padZ 64 (a.2++[128])++len8 (qyq ps)
 digN (jgq r.length a.1 r)
inductive Rst where
 |nil
 |sl (all:List Nat) (base off:Nat)
noncomputable def Rst.w:Rst->W
 |.nil=>.nils
 |.sl all base off=>.sl 2 base off (all.length-off) 1 none
noncomputable def Rst.hp:Rst->HpW
 |.nil=>[]
 |.sl all _ _=>[(2,5,.arr all.length 1 (bN all))]
noncomputable def Rst.r:Rst->List Nat
 |.nil=>[]
 |.sl all _ off=>all.drop off
noncomputable def Rst.ok:Rst->Prop
 |.nil=>True
 |.sl all _ off=>off<=all.length/\all.length<4294967296
noncomputable def Rst.nw:Rst->Nat
 |.nil=>2
 |.sl _ _ _=>3
noncomputable def hpS(x:Rst)(d:W)(s:S8):HpW:=x.hp++[(1,346,.arr 8 1 s.l),(0,26,d)]
noncomputable def yRq:W:=.arr 32 1 (List.replicate 32 (.int .u8 0))
noncomputable def QSq(p:List Nat×Bool):W:=.fz (bN p.1) 1 p.2
theorem app_r(r:Rst)(hr:r.ok)(d:W)(s:S8)(p:List Nat)(f:Bool)(hp:p.length<2147483648)(h64:r.r.length<64):∃w hp' nw ev,appW cfg (hpS r d s) r.nw 53 53 r.w (.fz (bN p) 1 f)=some (w,hp',nw,ev)/\
  ∃r':Rst,r'.ok/\r'.r=r.r++p/\((w=r'.w/\hp'=hpS r' d s/\nw=r'.nw)\/∃all,r'= .sl all 0 0/\w= .sl 3 0 0 all.length 1 none/\hp'=[(3,5,.arr all.length 1 (bN all)),(1,346,.arr 8 1 s.l),(0,26,d)]/\nw=4):=by
 cases r with
 |nil=>cases p with
  |nil=>exact⟨_,_,_,_,rfl,.nil,trivial,rfl,.inl ⟨rfl,rfl,rfl⟩⟩
  |cons a l=>
   have hl:(bN (a::l)).length=l.length+1:=by rw[kMq];rfl
   have hlt:l.length+1<2147483648:=hp;have hbl:(bN (a::l)).length*1<=140737488355328:=by omega
   refine⟨_,_,_,_,kNq (k:=ti5) O O O O O (by simp[bN]) hbl Xd,.sl (a::l) 0 0,⟨Nat.zero_le _,by show l.length+1<_;omega⟩,rfl,.inl ⟨?_,?_,rfl⟩⟩
   ·rw[kMq];rfl
   ·rw[kMq,show(ti5).size=1 from rfl,Nat.mul_one];rfl
 |sl all base off=>
  obtain⟨h1,h2⟩:=hr;cases p with
  |nil=>exact⟨_,_,_,_,rfl,.sl all base off,⟨h1,h2⟩,by simp,.inl ⟨rfl,rfl,rfl⟩⟩
  |cons a l=>
   have hl:(bN (a::l)).length=l.length+1:=by rw[kMq];rfl
   have hlt:l.length+1<2147483648:=hp;have hbl:(all.length-off+(bN (a::l)).length)*1<=140737488355328:=by omega
   have hdt:((bN all).drop off).take (all.length-off)=bN (all.drop off):=by
    rw[List.take_of_length_le (by simp[kMq])];simp[bN,List.map_drop]
   refine⟨_,_,_,_,qxq (k:=ti5) (v:=.arr all.length 1 (bN all)) (off:=off) O O O O O (by simp[bN]) hbl Xd O ?_ rfl (vsq Xd),.sl (all.drop off++a::l) 0 0,⟨Nat.zero_le _,?_⟩,rfl,.inr ⟨_,rfl,?_,?_,rfl⟩⟩
   ·show all.length<off+(all.length-off+(bN (a::l)).length)*1;omega
   ·simp only[Rst.r,List.length_drop] at h64;simp only[List.length_append,List.length_drop,List.length_cons];omega
   ·simp only[hl,List.length_append,List.length_drop,List.length_cons];rfl
   ·rw[hdt,hl];simp only[List.length_append,List.length_drop,List.length_cons,show(ti5).size=1 from rfl,Nat.mul_one];rw[show bN (all.drop off)++bN (a::l)=bN (all.drop off++a::l) by simp[bN]];rfl
theorem padZ_spec:∀(n j:Nat) (r:List Nat),(∀i,i<j->(r.length+i)%64≠56) ->(r.length+j)%64=56->j<=n->padZ n r=r++List.replicate j 0
 |0,j,r,_,_,h=>by
  obtain rfl:j=0:=by omega
  simp[padZ]
 |n+1,0,r,_,h,_=>by
  have:Nat.beq (r.length%64) 56=true:=by rw[Nat.beq_eq];simpa using h
  simp only[padZ,this];simp
 |n+1,j+1,r,h1,h2,h3=>by
  have:Nat.beq (r.length%64) 56=false:=by
   cases hq:Nat.beq (r.length%64) 56 with
   |true=>rw[Nat.beq_eq] at hq;exact absurd (by simpa using hq) (h1 0 Xd)
   |false=>rfl
  simp only[padZ,this];rw[padZ_spec n j (r++[0]) (fun i hi=>by simp only[List.length_append,List.length_singleton];have:=h1 (i+1) Xd;rwa[show r.length+1+i=r.length+(i+1) by omega]) (by simp only[List.length_append,List.length_singleton];rwa[show r.length+1+j=r.length+(j+1) by omega]) Xd];rw[List.append_assoc];rfl
theorem S8_at(s:S8){k:Nat}(h:k<8):s.l[0+k*1]? =some (wd (s.get k)):=by
 have hq:k=0\/k=1\/k=2\/k=3\/k=4\/k=5\/k=6\/k=7:=by omega
 rcases hq with rfl|rfl|rfl|rfl|rfl|rfl|rfl|rfl<;>rfl
noncomputable def dI(s:S8)(i:Nat):List Nat:=(digN s).take i++List.replicate (32-i) 0
theorem vVq(s:S8):(digN s).length=32:=by simp[digN]
theorem dI_len(s:S8){i:Nat}(h:i<=32):(dI s i).length=32:=by simp[dI,vVq];omega
theorem dI_at(s:S8){i:Nat}(h:i<32):(bN (dI s i))[0+i*1]? =some (.int .u8 (.ofNat 0)):=by
 rw[Nat.zero_add,Nat.mul_one,bN_at (by rw[dI_len s Xd];exact h)]
 have:(dI s i).getD i 0=0:=by
  simp[dI,List.getD,List.getElem?_append,vVq,show min i 32=i by omega,List.getElem?_replicate,show 0<32-i by omega]
 rw[this]
theorem dI_set(s:S8){i:Nat}(h:i<32):(bN (dI s i)).set (0+i*1) (.int .u8 (.ofNat (Nat.shiftRight (s.get (i/4)) (min (24-8*(i%4)) 32)%256)))=bN (dI s (i+1)):=by
 have e:(digN s).take (i+1)=(digN s).take i++[Nat.shiftRight (s.get (i/4)) (24-8*(i%4))%256]:=by
  rw[List.take_add_one];congr 1
  simp[digN,List.getElem?_map,List.getElem?_range h]
 have hm:min (24-8*(i%4)) 32=24-8*(i%4):=by omega
 have hl:((digN s).take i).length=i:=by simp[vVq];omega
 rw[Nat.zero_add,Nat.mul_one,hm];unfold bN;rw[<-List.map_set (f:=fun c=>W.int .u8 (.ofNat c))];congr 1
 unfold dI;rw[e,show 32-i=(32-(i+1))+1 by omega,List.replicate_succ,List.set_append_right _ _ Xd,hl,Nat.sub_self,List.set_cons_zero,List.append_assoc];rfl
theorem mid1(L:List Nat)(c:Nat):some (W.sl 4 0 0 (L.length+(bN [c]).length) 1 none)=some (renW (tau1 2 4) (W.sl 2 0 0 (L++[c]).length 1 none)):=by
 rw[List.length_append];rfl
theorem mid2(L:List Nat)(c:Nat):some (5,W.arr ((L.length+(bN [c]).length)*1) 1 (((bN L).drop 0).take L.length++bN [c]))=some (5,renW (tau1 2 4) (W.arr (L++[c]).length 1 (bN (L++[c])))):=by
 rw[zmq (show purW (.arr (L++[c]).length 1 (bN (L++[c])))=true from ZTq _),List.drop_zero,List.take_of_length_le (by rw[kMq];exact Nat.le_refl _),Nat.mul_one,List.length_append];simp[bN]
theorem parts_pur:∀ps:List (List Nat×Bool),purL (ps.map QSq)=true
 |[]=>rfl
 |p::ps=>by simp only[List.map_cons,purL,QSq,purW,ZTq,Bool.true_and];exact parts_pur ps
set_option maxHeartbeats 1600000 in
theorem of_s(ps:List (List Nat×Bool))(fl:Bool)(hb:qyq (ps.map (·.1))<2147483648)(hpn:ps.length<2147483648)(R:Res):
  Spec cfg glK 222 0 [.fz (ps.map QSq) 1 fl] [] R fun w hp nw R'=>R'=R/\w= .arr 32 1 (bN (shaN (ps.map (·.1)))):=by
 refine zVq (fn:=Tryz.f222) O O O (Ob rfl) (fun k0=>?_);refine zRq (zuq (znq O O (z1q ?_)));refine yhq (zRq (zuq (zbq O O (znq O O (znq O O (z1q ?_))))));refine yhq (zRq (zuq (zbq O O (z1q ?_))));refine yhq (zRq (zuq (zbq O O (z1q ?_))));refine yhq (zRq (zRq (zuq (zbq O O (zbq O O (zbq O O (z1q ?_)))))));refine yhq (yAq ?_);refine qBq (α:=Nat×S8×Rst) (fun a=>a.1<=ps.length/\a.2.2.ok/\(a.2.1,a.2.2.r)=((ps.map (·.1)).take a.1).foldl usq (s0,[])/\a.2.2.r.length<64) (fun a=>[(13,.int .i64 (a.1:Int)),(12,.int .i64 (ps.length:Int)),(11,.fz (ps.map QSq) 1 fl),(5,.int .u64 (qyq ((ps.map (·.1)).take a.1):Int)),(4,a.2.2.w),(3,.ptr 1 0),(2,.ptr 0 0)]) (fun a=>hpS a.2.2 yRq a.2.1) (fun a=>a.2.2.nw) (fun _=>R) (fun a=>ps.length-a.1) (0,s0,.nil) ⟨Nat.zero_le _,trivial,rfl,by decide⟩ ?_ (fun a ha=>?_)
 ·exact ylq ⟨rfl,by simp[getW,putW],rfl,rfl,rfl,rfl,rfl,trivial⟩ O O
 have hPp:purW (.fz (ps.map QSq) 1 fl)=true:=parts_pur ps;obtain⟨i,s,r⟩:=a;obtain⟨hi,hok,hfold,hr64⟩:=ha;refine zRq (zuq (zbq O O (z1q ?_)));refine yhq (zRq ?_);refine jYq rfl (fun hc1=>?_) (fun hc1=>?_)
 ·simp only at hi hok hfold hr64;have hi1:i<ps.length:=by have:=ltI_iff.1 hc1;simp only at this;omega
  obtain⟨p,hp⟩:∃p,ps[i]? =some p:=⟨_,List.getElem?_eq_getElem hi1⟩
  have hpw:(ps.map QSq)[i]? =some (.fz (bN p.1) 1 p.2):=by rw[List.getElem?_map,hp];rfl
  have htk:(ps.map (·.1)).take (i+1)=(ps.map (·.1)).take i++[p.1]:=by
   rw[List.take_add_one,List.getElem?_map,hp];rfl
  have htot:∀l r:List (List Nat),qyq (l++r)=qyq l+qyq r:=fun l r=>by
   unfold qyq;induction l with
   |nil=>simp
   |cons x l ih=>simp only[List.cons_append,List.map_cons,List.foldr_cons,ih];omega
  have ht1:qyq ((ps.map (·.1)).take (i+1))=qyq ((ps.map (·.1)).take i)+p.1.length:=by rw[htk,htot];simp[qyq]
  have htle:qyq ((ps.map (·.1)).take (i+1))<=qyq (ps.map (·.1)):=by
   have:=htot ((ps.map (·.1)).take (i+1)) ((ps.map (·.1)).drop (i+1));rw[List.take_append_drop] at this;omega
  have hpl:p.1.length<2147483648:=by omega
  refine qQq (yhq (zRq (yAq (zRq (zuq (zbq rfl (zBq (i:=i) O O O O O O O hpw) (znq O O (zbq O O (z1q ?_)))))))));refine yhq (zRq (zuq (zbq O O (zbq O O (zgq O O (show _=W.int .i64 (p.1.length:Int) by first|rfl|(simp[kMq];done)|(simp[kMq];rfl)) ?_)))));refine zlq (p.1.length) O O Xi ⟨by omega,by omega⟩ ?_;refine zlq (qyq ((ps.map (·.1)).take i)+p.1.length) O O Xi ⟨by omega,by omega⟩ ?_;refine zbq O O (z1q ?_);refine yhq ?_;refine co_cut (α:=Rst) (fun r'=>r'.ok/\r'.r=r.r++p.1) (fun r'=>[(13,.int .i64 (i:Int)),(12,.int .i64 (ps.length:Int)),(11,.fz (ps.map QSq) 1 fl),(5,.int .u64 (qyq ((ps.map (·.1)).take (i+1)):Int)),(4,r'.w),(3,.ptr 1 0),(2,.ptr 0 0)]) (fun r'=>hpS r' yRq s) (fun r'=>r'.nw) ?_ (fun a ha=>?_)
  ·obtain⟨w,hp',nw',ev,e1,r',e2,e3,e4⟩:=app_r r hok yRq s p.1 p.2 hpl hr64;refine zuq (zbq O O (zbq O O (znq rfl (yoq O O e1) (zbq O O (z1q ?_)))));refine⟨rfl,r',⟨e2,e3⟩,?_⟩;rcases e4 with ⟨rfl,rfl,rfl⟩|⟨all,rfl,rfl,rfl,rfl⟩
   ·exact ylq ⟨rfl,rfl,rfl,by rw[ht1];rfl,rfl,rfl,rfl,trivial⟩ O O
   ·refine y2q (b:=2) (k:=3) Xd Xd Xd ⟨⟨rfl,rfl⟩,⟨rfl,rfl⟩,⟨by rw[zmq hPp];rfl,zfq hPp⟩,⟨by rw[ht1];rfl,rfl⟩,⟨rfl,rfl⟩,⟨rfl,rfl⟩,⟨rfl,rfl⟩,trivial⟩ ⟨⟨by omega,by rw[zmq (show purW (.arr all.length 1 (bN all))=true from ZTq _)];rfl,zfq (show purW (.arr all.length 1 (bN all))=true from ZTq _)⟩,⟨by omega,rfl,rfl⟩,⟨by omega,rfl,rfl⟩,trivial⟩ Qg
  obtain⟨hak,har⟩:=ha;have hstep:(ps.map (·.1)).take (i+1)=(ps.map (·.1)).take i++[p.1]:=htk;have hnext:((ps.map (·.1)).take (i+1)).foldl usq (s0,[])=usq (s,r.r) p.1:=by rw[hstep,List.foldl_append,<-hfold];rfl
  refine yAq ?_;refine qBq (α:=S8×Rst) (fun b=>b.2.ok/\eats b.1 b.2.r=usq (s,r.r) p.1) (fun b=>[(13,.int .i64 (i:Int)),(12,.int .i64 (ps.length:Int)),(11,.fz (ps.map QSq) 1 fl),(5,.int .u64 (qyq ((ps.map (·.1)).take (i+1)):Int)),(4,b.2.w),(3,.ptr 1 0),(2,.ptr 0 0)]) (fun b=>hpS b.2 yRq b.1) (fun b=>b.2.nw) (fun _=>R) (fun b=>b.2.r.length) (s,a) ⟨hak,by simp only[usq,har]⟩ (Ent.refl) (fun b hb=>?_);obtain⟨s',r'⟩:=b;obtain⟨hok',heat⟩:=hb;simp only at hok' heat
  have done:r'.r.length<64->(s',r'.r)=((ps.map (·.1)).take (i+1)).foldl usq (s0,[]):=fun h=>by
   rw[hnext,<-heat,eats,koq _ _ _ h]
  skip
  cases r' with
  |nil=>
   refine zRq (zRq (zuq (zbq O O (zbq O O (zbq O O (z1q ?_))))));refine yhq (co_false rfl (kfq ?_));refine xVq Xj ?_;refine qoq Xj ?_;refine ZYq (jMq Yi ?_);refine yhq (zuq (zlq (i+1) O O Xi ⟨by omega,by omega⟩ ?_));refine zbq O O (z1q ?_);refine ywq (i+1,s',.nil) ⟨hi1,trivial,done (by show 0<64;omega),(by show 0<64;omega)⟩ Yh (ylq ⟨rfl,rfl,rfl,rfl,rfl,rfl,rfl,trivial⟩ O O)
  |sl all base off=>
   obtain⟨ho1,ho2⟩:=hok';have hrl:(Rst.sl all base off).r.length=all.length-off:=by simp[Rst.r]
   refine zRq (zRq (zuq (zbq O O (zgq O O (show _=W.int .i64 ((all.length-off:Nat):Int) by first|rfl|(simp[kMq];done)|(simp[kMq];rfl)) ?_))));refine zbq O O (z1q ?_);refine yhq ?_;refine jYq rfl (fun hc2=>?_) (fun hc2=>?_)
   ·have h64:64<=all.length-off:=by
     have:=hc2;simp only[Bool.not_eq_true'] at this;have:=ltI_not.1 this;omega
    have hpa:purW (.arr all.length 1 (bN all))=true:=ZTq all
    have hby:∀k,k<64->yuq 50 (.arr all.length 1 (bN all)) (off+0*1+k*1) 1 false=some (.int .u8 (.ofNat (atL (all.drop off) k))):=fun k hk=>by
     have:=bN_at (l:=all) (i:=off+k) Xd;refine qfq ?_ rfl;rw[Nat.zero_mul,Nat.add_zero,Nat.mul_one,this];simp[atL,List.getD,List.getElem?_drop]
    have hr':(Rst.sl all off (off+64)).r=((Rst.sl all base off).r).drop 64:=by simp[Rst.r]
    refine qQq (yhq (zRq (yAq (zuq (zbq O O (zbq rfl (cut_hi (h:=64) O O O O O O O h64) ?_))))))
    (refine zrq rfl (y3q (ext:=[1,2]) (ws:=[.ptr 0 0,.sl 1 base (off+0*1) (64-0) 1 none]) O O O O O (fun R=>block_s s' (atL (all.drop off)) (.arr all.length 1 (bN all)) base _ none 5 (zfq hpa) hby R) Xq Qy Xk (YUq rfl (by rw[zmq hpa];rfl) rfl (zfq hpa)) O ?_);rintro w hp1 nw1 ⟨rfl,rfl,rfl⟩)
    refine z1q ?_;refine jMq Yi ?_;refine yhq (zuq (zbq O O (zbq rfl (cut_lo (l:=64) O O O O O O O h64 rfl) (zbq O O (z1q ?_)))));refine ywq (jOq (atL (all.drop off)) s',.sl all off (off+64)) ⟨⟨by omega,ho2⟩,?_⟩ (by simp only[hr'];simp only[hrl,List.length_drop];omega) (qmq Xd (Nat.le_refl _) ⟨rfl,rfl,rfl,rfl,?_,rfl,rfl,trivial⟩ (by simp only[List.all_cons,List.all_nil,zfq hPp,Bool.and_true];rfl) (qtq ⟨⟨by show 2<3;omega,by show some (5,renW _ (W.arr all.length 1 (bN all)))=_;rw[zmq hpa],zfq hpa⟩,⟨by show 1<3;omega,rfl,rfl⟩,⟨by show 0<3;omega,rfl,rfl⟩,trivial⟩) Qg)
    ·rw[hr',<-heat];exact(Qeq (r:=(Rst.sl all base off).r) (by rw[hrl];exact h64)).symm
    ·show some (W.sl 2 off (off+64*1) (all.length-off-64) 1 (jfq 64 none))=some (W.sl 2 off (off+64) (all.length-(off+64)) 1 none);rw[Nat.sub_sub];rfl
   ·have h64:all.length-off<64:=by
     have:=hc2;simp only[Bool.not_eq_false'] at this;have:=ltI_iff.1 this;omega
    refine kfq ?_;refine xVq Xj ?_;refine qoq Xj ?_;refine ZYq (jMq Yi ?_);refine yhq (zuq (zlq (i+1) O O Xi ⟨by omega,by omega⟩ ?_));refine zbq O O (z1q ?_);refine ywq (i+1,s',.sl all base off) ⟨hi1,⟨ho1,ho2⟩,done (by rw[hrl];exact h64),by simp only[hrl];exact h64⟩ Yh (ylq ⟨rfl,rfl,rfl,rfl,rfl,rfl,rfl,trivial⟩ O O)
 ·simp only at hi hok hfold hr64;obtain rfl:i=ps.length:=by have:=ltI_not.1 hc1;simp only at this;omega
  rw[show(ps.map (·.1)).take ps.length=ps.map (·.1) by rw[List.take_of_length_le Xk]] at hfold;have hT:(ps.map (·.1)).take ps.length=ps.map (·.1):=by rw[List.take_of_length_le Xk]
  have hdt:∀(all:List Nat) (off:Nat),((bN all).drop off).take (all.length-off)=bN (all.drop off):=fun all off=>by
   rw[List.take_of_length_le (by simp[kMq])];simp[bN,List.map_drop]
  have bapp:∀a b:List Nat,bN a++bN b=bN (a++b):=fun a b=>by simp[bN]
  have apur:∀all:List Nat,purW (.arr all.length 1 (bN all))=true:=fun all=>ZTq all
  refine kfq ?_;refine xVq Xj ?_;refine qoq Xj ?_;refine ZYq (yhq ?_);refine co_cut (α:=Unit) (fun _=>True) (fun _=>[(5,.int .u64 (qyq (ps.map (·.1)):Int)),(4,.sl 2 0 0 (r.r++[128]).length 1 none),(3,.ptr 1 0),(2,.ptr 0 0)]) (fun _=>hpS (.sl (r.r++[128]) 0 0) yRq s) (fun _=>3) ?_ (fun a ha=>?_)
  ·skip
   cases r with
   |nil=>
    refine zuq (zbq O O (znq O O (znq rfl (yoq O O (kNq (news:=bN [128]) (k:=ti5) O O O O O (by simp[bN]) Xq Xq)) ?_)));refine zbq O O (z1q ?_);refine⟨rfl,(),trivial,?_⟩;exact y2q (b:=2) (k:=3) Xd Xd Ja ⟨⟨by show some (W.int .u64 ((qyq ((ps.map (·.1)).take ps.length):Nat):Int))=_;rw[hT];rfl,rfl⟩,⟨rfl,rfl⟩,⟨rfl,rfl⟩,⟨rfl,rfl⟩,trivial⟩ ⟨⟨by omega,rfl,rfl⟩,⟨by omega,rfl,rfl⟩,⟨by omega,rfl,rfl⟩,trivial⟩ Qg
   |sl all base off=>
    obtain⟨ho1,ho2⟩:=hok;simp only[Rst.r,List.length_drop] at hr64;have hle:((Rst.sl all base off).r++[128]).length=all.length-off+1:=by simp[Rst.r]
    refine zuq (zbq O O (znq O O (znq rfl (yoq O O (qxq (news:=bN [128]) (k:=ti5) (v:=.arr all.length 1 (bN all)) (off:=off) O O O O O (by simp[bN]) (show(all.length-off+1)*1<=140737488355328 by omega) (show all.length-off+1<=70368744177664 by omega) rfl (show all.length<off+(all.length-off+1)*1 by omega) rfl (vsq Xd))) ?_)));refine zbq O O (z1q ?_);refine⟨rfl,(),trivial,?_⟩;refine y2q (b:=2) (k:=4) Xd Xd Yq ⟨⟨by show some (W.int .u64 ((qyq ((ps.map (·.1)).take ps.length):Nat):Int))=_;rw[hT];rfl,rfl⟩,⟨?_,rfl⟩,⟨rfl,rfl⟩,⟨rfl,rfl⟩,trivial⟩ ⟨⟨by omega,?_,zfq (apur _)⟩,⟨by omega,rfl,rfl⟩,⟨by omega,rfl,rfl⟩,trivial⟩ Qg
    ·rw[hle];rfl
    ·rw[zmq (apur _),hle,<-bapp];show some (5,W.arr ((all.length-off+1)*1) 1 (((bN all).drop off).take (all.length-off)++bN [128]))=_;rw[hdt,Nat.mul_one];rfl
  --noughts
  have htm:∀n:Nat,((n:Int)).tmod 64=((n%64:Nat):Int):=fun n=>by rw[Int.tmod_eq_emod_of_nonneg Xd];omega
  have hA0:(r.r++[128]).length<=64:=by simp;omega
  generalize hA:r.r++[128]=A at*
  refine zRq (yAq ?_);refine qBq (α:=Nat) (fun j=>∀i,i<j->(A.length+i)%64≠56) (fun j=>[(5,.int .u64 (qyq (ps.map (·.1)):Int)),(4,.sl 2 0 0 (A++List.replicate j 0).length 1 none),(3,.ptr 1 0),(2,.ptr 0 0)]) (fun j=>hpS (.sl (A++List.replicate j 0) 0 0) yRq s) (fun _=>3) (fun _=>R) (fun j=>64-j) 0 (fun i hi=>absurd hi Xd) (by rw[List.replicate_zero,List.append_nil];exact Ent.refl) (fun j hj=>?_)
  have hj64:j<64:=by
   refine Nat.lt_of_not_le fun h=>?_
   have:=hj ((56+64-A.length%64)%64) Xd;omega
  have hlj:(A++List.replicate j 0).length=A.length+j:=by simp
  refine zRq (zRq (zuq (zbq O O (zgq O O (show _=W.int .i64 ((A++List.replicate j 0).length:Int) by first|rfl|(simp[kMq];done)|(simp[kMq];rfl)) ?_))));refine zgq O O (congrArg (W.int .i64) (htm _)) (zbq O O (z1q ?_));refine yhq ?_;refine jYq rfl (fun hc3=>?_) (fun hc3=>?_)
  ·have hne:(A.length+j)%64≠56:=by
    have:=hc3;simp only[Bool.not_eq_true'] at this;have:=eqI_not.1 this;rw[hlj] at this;omega
   refine qQq (yhq (yAq (zuq (zbq O O (znq O O (znq rfl (yoq O O (qxq (news:=bN [0]) (k:=ti5) (v:=.arr (A++List.replicate j 0).length 1 (bN (A++List.replicate j 0))) (off:=0) O O O O O (by simp[bN]) (show((A++List.replicate j 0).length+1)*1<=140737488355328 by omega) (show(A++List.replicate j 0).length+1<=70368744177664 by omega) rfl (show(A++List.replicate j 0).length<0+((A++List.replicate j 0).length+1)*1 by omega) rfl (vsq Xd))) ?_))))));refine zbq O O (z1q ?_);refine jMq Yi ?_;have hrep:A++List.replicate (j+1) 0=(A++List.replicate j 0)++[0]:=by rw[List.append_assoc,<-List.replicate_succ']
   refine ywq (j+1) (fun i hi=>?_) Xd (y2q (b:=2) (k:=4) Xd Xd Yq ⟨⟨rfl,rfl⟩,⟨?_,rfl⟩,⟨rfl,rfl⟩,⟨rfl,rfl⟩,trivial⟩ ⟨⟨by omega,?_,zfq (apur _)⟩,⟨by omega,rfl,rfl⟩,⟨by omega,rfl,rfl⟩,trivial⟩ Qg)
   ·rcases Nat.lt_succ_iff_lt_or_eq.1 hi with h|rfl
    ·exact hj i h
    ·exact hne
   ·rw[hrep];exact mid1 _ 0
   ·rw[hrep];exact mid2 _ 0
  ·have he:(A.length+j)%64=56:=by
    have:=hc3;simp only[Bool.not_eq_false'] at this;have:=eqI_iff.1 this;rw[hlj] at this;omega
   have hpz:padZ 64 A=A++List.replicate j 0:=padZ_spec 64 j A hj he Xd;rw[<-hpz];have hBl:(padZ 64 A).length<200:=by rw[hpz,hlj];omega
   have hB64:(padZ 64 A).length%64=56:=by rw[hpz,hlj];exact he
   generalize hB:padZ 64 A=B at hBl hB64;refine kfq ?_;refine xVq Xj ?_;refine qoq Xj ?_;refine ZYq (yhq (zRq (zRq (zuq (zbq O O (z1q ?_))))));refine yhq (yAq ?_);have h8:∀k,k<=8->((len8 (qyq (ps.map (·.1)))).take k).length=k:=fun k hk=>by simp[len8];omega
   refine qBq (α:=Nat) (fun k=>k<=8) (fun k=>[(8,.int .i64 (56-8*(k:Int))),(5,.int .u64 (qyq (ps.map (·.1)):Int)),(4,.sl 2 0 0 (B++(len8 (qyq (ps.map (·.1)))).take k).length 1 none),(3,.ptr 1 0),(2,.ptr 0 0)]) (fun k=>hpS (.sl (B++(len8 (qyq (ps.map (·.1)))).take k) 0 0) yRq s) (fun _=>3) (fun _=>R) (fun k=>8-k) 0 (Nat.zero_le _) (by rw[List.take_zero,List.append_nil];exact ylq ⟨rfl,rfl,rfl,rfl,rfl,trivial⟩ O O) (fun k hk=>?_);refine zRq (zRq (zuq (zbq O O (zbq O O (z1q ?_)))));refine yhq ?_;refine jYq rfl (fun hc4=>?_) (fun hc4=>?_)
   ·have hk8:k<8:=by
     have:=hc4;simp only[Bool.not_eq_true'] at this;have:=ltI_not.1 this;omega
    have hLk:=h8 k hk;have hll:(B++(len8 (qyq (ps.map (·.1)))).take k).length=B.length+k:=by rw[List.length_append,hLk]
    have hnx:B++(len8 (qyq (ps.map (·.1)))).take (k+1)=(B++(len8 (qyq (ps.map (·.1)))).take k)++[Nat.shiftRight (8*qyq (ps.map (·.1))%18446744073709551616) (min (56-8*k) 64)%256]:=by
     rw[List.take_add_one,<-List.append_assoc];congr 1
     have hq:k=0\/k=1\/k=2\/k=3\/k=4\/k=5\/k=6\/k=7:=by omega
     rcases hq with rfl|rfl|rfl|rfl|rfl|rfl|rfl|rfl<;>rfl
    have hw8:kaq .i64 (56-8*(k:Int) -8)=56-8*(k:Int) -8:=uvq (k:=.i64) ⟨by omega,by omega⟩;refine qQq (yhq (zRq (yAq (zuq (zbq O O (zbq O O (zbq O O (zgq O O (show W.int .i64 (56-8*(k:Int))=W.int .i64 ((56-8*k:Nat):Int) by congr 1;omega) ?_))))))));refine zbq O O (zbq O O (znq O O (znq rfl (yoq O O (qxq (news:=bN [Nat.shiftRight (8*qyq (ps.map (·.1))%18446744073709551616) (min (56-8*k) 64)%256]) (k:=ti5) (v:=.arr (B++(len8 (qyq (ps.map (·.1)))).take k).length 1 (bN (B++(len8 (qyq (ps.map (·.1)))).take k))) (off:=0) O O O O O (by simp[bN]) (show((B++(len8 (qyq (ps.map (·.1)))).take k).length+1)*1<=140737488355328 by omega) (show(B++(len8 (qyq (ps.map (·.1)))).take k).length+1<=70368744177664 by omega) rfl (show(B++(len8 (qyq (ps.map (·.1)))).take k).length<0+((B++(len8 (qyq (ps.map (·.1)))).take k).length+1)*1 by omega) rfl (vsq Xd))) ?_)));refine zbq O O (z1q ?_);refine jMq Yi ?_;refine yhq (zuq (zbq O O (zgq (w:=W.int .i64 (kaq .i64 (56-8*(k:Int) -8))) O O (show _=W.int .i64 (56-8*((k+1:Nat):Int)) by rw[hw8];congr 1;omega) ?_)));refine zbq O O (z1q ?_);refine ywq (k+1) Xd Xd (y2q (b:=2) (k:=4) Xd Xd Yq ⟨⟨rfl,rfl⟩,⟨rfl,rfl⟩,⟨?_,rfl⟩,⟨rfl,rfl⟩,⟨rfl,rfl⟩,trivial⟩ ⟨⟨by omega,?_,zfq (apur _)⟩,⟨by omega,rfl,rfl⟩,⟨by omega,rfl,rfl⟩,trivial⟩ Qg)
    ·rw[hnx];exact mid1 _ _
    ·rw[hnx];exact mid2 _ _
   ·obtain rfl:k=8:=by
     have:=hc4;simp only[Bool.not_eq_false'] at this;have:=ltI_iff.1 this;omega
    have ht8:(len8 (qyq (ps.map (·.1)))).take 8=len8 (qyq (ps.map (·.1))):=rfl;rw[ht8];have hMl:(B++len8 (qyq (ps.map (·.1)))).length=B.length+8:=by simp[len8]
    have hsha:shaN (ps.map (·.1))=digN (jgq (B++len8 (qyq (ps.map (·.1)))).length s (B++len8 (qyq (ps.map (·.1))))):=by
     simp only[shaN,<-hfold,hA,hB]
    generalize hM:B++len8 (qyq (ps.map (·.1)))=M at hMl hsha;refine kfq ?_;refine xVq Xj ?_;refine qoq Xj ?_;refine ZYq (yhq (zRq (yAq ?_)));refine qBq (α:=S8×Nat×Nat) (fun b=>b.2.2<=M.length/\(M.length-b.2.2)%64=0/\jgq M.length s M=jgq (M.drop b.2.2).length b.1 (M.drop b.2.2)) (fun b=>[(4,.sl 2 b.2.1 b.2.2 (M.length-b.2.2) 1 none),(3,.ptr 1 0),(2,.ptr 0 0)]) (fun b=>hpS (.sl M b.2.1 b.2.2) yRq b.1) (fun _=>3) (fun _=>R) (fun b=>M.length-b.2.2) (s,0,0) ⟨Nat.zero_le _,by show(M.length-0)%64=0;omega,rfl⟩ (ylq ⟨rfl,rfl,rfl,trivial⟩ O O) (fun b hb5=>?_);obtain⟨s',base,off⟩:=b;obtain⟨ho,hmod,heat⟩:=hb5;simp only at ho hmod heat;refine zRq (zRq (zuq (zbq O O (zgq O O (show _=W.int .i64 ((M.length-off:Nat):Int) by first|rfl|(simp[kMq];done)|(simp[kMq];rfl)) ?_))));refine zbq O O (z1q ?_);refine yhq ?_;refine jYq rfl (fun hc5=>?_) (fun hc5=>?_)
    ·have h1:1<=M.length-off:=by have:=ltI_iff.1 hc5;omega
     have h64:64<=M.length-off:=by omega
     have hpa:purW (.arr M.length 1 (bN M))=true:=ZTq M
     have hby:∀k,k<64->yuq 50 (.arr M.length 1 (bN M)) (off+0*1+k*1) 1 false=some (.int .u8 (.ofNat (atL (M.drop off) k))):=fun k hk=>by
      have:=bN_at (l:=M) (i:=off+k) Xd;refine qfq ?_ rfl;rw[Nat.zero_mul,Nat.add_zero,Nat.mul_one,this];simp[atL,List.getD,List.getElem?_drop]
     refine qQq (yhq (zRq (yAq (zuq (zbq O O (zbq rfl (cut_hi (h:=64) O O O O O O O h64) ?_))))))
     (refine zrq rfl (y3q (ext:=[1,2]) (ws:=[.ptr 0 0,.sl 1 base (off+0*1) (64-0) 1 none]) O O O O O (fun R=>block_s s' (atL (M.drop off)) (.arr M.length 1 (bN M)) base _ none 5 (zfq hpa) hby R) Xq Qy Xk (YUq rfl (by rw[zmq hpa];rfl) rfl (zfq hpa)) O ?_);rintro w hp1 nw1 ⟨rfl,rfl,rfl⟩)
     refine z1q ?_;refine jMq Yi ?_;refine yhq (zuq (zbq O O (zbq rfl (cut_lo (l:=64) O O O O O O O h64 rfl) (zbq O O (z1q ?_)))));refine ywq (jOq (atL (M.drop off)) s',off,off+64) ⟨by simp only;omega,by simp only;omega,?_⟩ Yh (qmq Xd (Nat.le_refl _) ⟨?_,rfl,rfl,trivial⟩ rfl (qtq ⟨⟨by omega,by show some (5,renW _ (W.arr M.length 1 (bN M)))=_;rw[zmq hpa],zfq hpa⟩,⟨by omega,rfl,rfl⟩,⟨by omega,rfl,rfl⟩,trivial⟩) Qg)
     ·rw[heat,vgq Xu,List.drop_drop]
     ·show some (W.sl 2 off (off+64*1) (M.length-off-64) 1 (jfq 64 none))=some (W.sl 2 off (off+64) (M.length-(off+64)) 1 none);rw[Nat.sub_sub];rfl
    ·have h0:M.length-off=0:=by have:=ltI_not.1 hc5;omega
     have hend:jgq M.length s M=s':=by
      rw[heat,List.drop_of_length_le Xd];rfl
     rw[hend] at hsha;refine kfq ?_;refine xVq Xj ?_;refine qoq Xj ?_;refine ZYq (yhq (zRq (zRq (zuq (zbq O O (z1q ?_))))));refine yhq (yAq ?_);have htd4:∀n:Nat,((n:Int)).tdiv 4=((n/4:Nat):Int):=fun n=>by rw[Int.tdiv_eq_ediv_of_nonneg Xd];omega
     have htm4:∀n:Nat,((n:Int)).tmod 4=((n%4:Nat):Int):=fun n=>by rw[Int.tmod_eq_emod_of_nonneg Xd];omega
     refine qBq (α:=Nat) (fun i=>i<=32) (fun i=>[(64,.int .i64 (i:Int)),(3,.ptr 1 0),(2,.ptr 0 0)]) (fun i=>hpS (.sl M base off) (.arr 32 1 (bN (dI s' i))) s') (fun _=>3) (fun _=>R) (fun i=>32-i) 0 (Nat.zero_le _) (ylq ⟨rfl,rfl,rfl,trivial⟩ O O) (fun i hi=>?_);refine zRq (zuq (zbq O O (z1q ?_)));refine yhq (zRq ?_);refine jYq rfl (fun hc6=>?_) (fun hc6=>?_)
     ·have hi32:i<32:=by have:=ltI_iff.1 hc6;omega
      refine qQq (yhq (zRq (yAq (zRq (zuq (zbq O O (zbq O O (z1q ?_))))))));refine yhq (zuq (zbq O O (zbq O O (zlq (i/4) O O (htd4 i) ⟨by omega,by omega⟩ ?_))));refine zbq rfl (zsq (i:=i/4) O O O O O O Xd) ?_;refine znq rfl (ypq O O O (qfq (S8_at s' Xd) rfl)) ?_;refine zbq O O (zgq O O (congrArg (W.int .i64) (htm4 i)) (zlq (8*(i%4)) O O Xi ⟨by omega,by omega⟩ ?_));refine zlq (24-8*(i%4)) O O Xi ⟨by omega,by omega⟩ ?_;refine zbq O O (zbq O O (zbq rfl (zsq (i:=i) O O O O O O Xd) ?_));refine znq rfl (jLq O O O O O (qSq (dI_at s' hi32) O O) rfl) (z1q ?_);refine jMq Yi ?_;refine yhq (zuq ?_);first|refine yzq O O ⟨by omega,by omega⟩ ?_|refine zbq O O ?_
      refine zbq O O (z1q ?_);refine ywq (i+1) Xd Xd (ylq ⟨rfl,rfl,rfl,trivial⟩ ?_ rfl);exact congrArg (fun L=>hpS (.sl M base off) (.arr 32 1 L) s') (dI_set s' hi32)
     ·obtain rfl:i=32:=by have:=ltI_not.1 hc6;omega
      refine kfq ?_;refine xVq Xj ?_;refine qoq Xj ?_;refine ZYq (yhq (zRq (zuq (znq O O (znq O O (z1q ?_))))));refine yhq (co_ret ?_);refine fin (.inr rfl) Ent.refl rfl ⟨rfl,?_⟩;rw[hsha];have:dI s' 32=digN s':=by simp[dI,List.take_of_length_le,vVq]
      rw[<-this]
end
section
attribute [local irreducible] CoW OpW FlW Step Spec
theorem bytes_bN(l:List UInt8):zdq l=bN (l.map UInt8.toNat):=by simp[zdq,bN]
theorem shaN_l(ps:List (List Nat)):(shaN ps).length=32:=by simp[shaN,digN]
theorem shaN_lt(ps:List (List Nat)):∀n∈shaN ps,n<256:=fun n h=>by
 simp only[shaN,digN,List.mem_map] at h;obtain⟨i,_,rfl⟩:=h;exact Nat.mod_lt _ Xq
noncomputable def shaD(ps:List (List UInt8)):Dig:=⟨(shaN (ps.map fun p=>p.map UInt8.toNat)).map UInt8.ofNat,by simp[shaN_l]⟩
theorem bytes_of{l:List Nat}(h:∀n∈l,n<256):zdq (l.map UInt8.ofNat)=bN l:=by
 rw[bytes_bN,List.map_map];congr 1
 conv=>rhs;rw[<-List.map_id l]
 refine List.map_congr_left fun n hn=>?_
 have:=h n hn;simp;omega
theorem Jhq:∀l:List UInt8,QTq (zdq l)=true
 |[]=>rfl
 |c::l=>by
  show(xIq (W.int .u8 (.ofNat c.toNat))&&QTq (zdq l))=true;rw[Jhq l];rfl
theorem flat_dW(k:Dig):xIq (dW k)=true:=Jhq k.1
theorem sha_s(ps:List (List UInt8×Bool))(f:Bool)(hb:((ps.map (·.1)).map List.length).foldr (· + ·) 0<2147483648)(hn:ps.length<2147483648):PS cfg glK 222 [.fz (ps.map fun p=>.fz (zdq p.1) 1 p.2) 1 f] (dW (shaD (ps.map (·.1)))):=fun R=>by
 have e1:(ps.map fun p=>(p.1.map UInt8.toNat,p.2)).map QSq=ps.map fun p=>.fz (zdq p.1) 1 p.2:=by simp[QSq,bytes_bN]
 have e2:(ps.map fun p=>(p.1.map UInt8.toNat,p.2)).map (·.1)=(ps.map (·.1)).map fun p=>p.map UInt8.toNat:=by simp
 have h:=of_s (ps.map fun p=>(p.1.map UInt8.toNat,p.2)) f (by rw[e2];show(List.map List.length _).foldr _ 0<_;rw[List.map_map];simpa[Function.comp_def] using hb) (by simpa using hn) R;rw[e1,e2] at h
 have e3:dW (shaD (ps.map (·.1)))= .arr 32 1 (bN (shaN ((ps.map (·.1)).map fun p=>p.map UInt8.toNat))):=by
  show W.arr 32 1 (zdq _)=_;rw[<-bytes_of (shaN_lt _)];rfl
 show Spec cfg glK _ 0 _ [] R fun w hp nw R'=>R'=R/\w=dW (shaD (ps.map (·.1)))
 rw[e3];exact h
def xAq(p:List UInt8):List UInt8:=beB 4 (p.length%4294967296)++p
def tagB(kind:UInt8)(ps:List (List UInt8)):List UInt8:=kind::ps.flatMap xAq
variable {G:Nat->Option W}
@[simp] theorem ZAq(ps:List (List UInt8)):purL (ps.map bW)=true:=qqq (fun x=>by simp) ps
theorem Kgq{m:Nat}:∀{ps:List (List UInt8)} (i:Nat),(∀p∈ps,p.length<m) ->((ps.take i).flatMap xAq).length<=i*(m+4)
 |[],i,_=>by simp
 |p::ps,0,_=>by simp
 |p::ps,i+1,h=>by
  have h1:=Kgq (ps:=ps) i fun q hq=>h q (List.mem_cons_of_mem _ hq)
  have h2:=h p (List.mem_cons_self ..);simp only[List.take_succ_cons,List.flatMap_cons,List.length_append,xAq,yCq,Nat.succ_mul];omega
theorem tbytes_s(kind:UInt8)(ps:List (List UInt8))(f:Bool)(hn:ps.length<1000000)(hb:∀p∈ps,p.length<1000000):PS cfg G 223 [.int .u8 (.ofNat kind.toNat),.fz (ps.map bW) 1 f] (bW (tagB kind ps)):=by
 have e:(ps.map bW).length=ps.length:=List.length_map _;refine q7q (fn:=Tryz.f223) O O O (Ob rfl) (fun R k0=>?_);refine zjq 16 O ?_;refine zgq (w':=.int .i64 (ps.length:Int)) O O Xy ?_;refine zaq 4 O ?_;refine co_loopG1 (α:=Nat) (fun i=>i<=ps.length) 5 (fun i=>zdq (kind::(ps.take i).flatMap xAq)) 5 1 (fun i=>[(14,.int .i64 (i:Int))]) [(4,_),(12,_),(13,_)] ([]) 0 0 (fun i=>ps.length-i) (0) ⟨rfl,rfl,rfl,trivial⟩ (Nat.zero_le _) ⟨rfl,trivial⟩ Xd Xd Yn Ql rfl Ql Xg Xg rfl Xn Xo Yj (fun i hI=>?_);refine zjq 6 O ?_;refine zyq rfl (fun h1=>?_) (fun h1=>?_)
 ·have hi:i<ps.length:=by omega
  obtain⟨x,hx⟩:∃x,ps[i]? =some x:=⟨_,List.getElem?_eq_getElem hi⟩
  have hxl:=hb x (List.mem_of_getElem? hx);have hfl:((ps.take i).flatMap xAq).length<=i*1000004:=Kgq i hb;have hL:(zdq (kind::(ps.take i).flatMap xAq)).length<=1+i*1000004:=by rw[ziq,List.length_cons];omega
  have hN:(zdq (beB 4 x.length)).length=4:=by rw[ziq,yCq]
  have hnx:zdq (kind::(ps.take (i+1)).flatMap xAq)=(zdq (kind::(ps.take i).flatMap xAq)++zdq (beB 4 x.length))++zdq x:=by
   rw[List.take_add_one,hx,<-y6q,<-y6q];congr 1
   simp[xAq,Nat.mod_eq_of_lt (show x.length<4294967296 by omega)]
  skip
  cases x with
  |nil=>
   refine zeq 6 O ?_;refine zbq rfl (zBq (i:=i) O O O O O O O (zYq bW hx)) ?_;refine zaq 7 O ?_;refine zgq (w':=.int .i64 (([]:List UInt8).length:Int)) O O (by show W.int .i64 ((zdq (([]:List UInt8))).length:Int)=_;rw[ziq]) ?_;first|refine yzq O O ⟨by omega,by omega⟩ ?_|refine zbq O O ?_
   first|refine yzq O O ⟨by omega,by omega⟩ ?_|refine zbq O O ?_
   (refine zrq rfl (qKq O O O O O O (QPq ([]:List UInt8).length 4 Xd Xd (by show([]:List UInt8).length<4294967296;omega)) ?_);rintro w hp1 nw1 ⟨rfl,rfl,rfl⟩)
   refine zaq 10 O ?_;refine znq rfl (yoq O O (jPq [_] (k:=ti5) (news:=zdq (beB 4 ([]:List UInt8).length)) O O O O O (ymq O O O (zpq Xq hN.symm rfl)) Ys Qx Qo rfl (by simp[numC]))) ?_;refine zbq O O (znq rfl (yoq O O (ZBq (k:=ti5) O O O O O)) ?_);refine zaq 5 O ?_;first|refine yzq O O ⟨by omega,by omega⟩ ?_|refine zbq O O ?_
   refine yyq 2 O ?_;exact jEq 2 (i+1) (hi) Xd (Nat.zero_le _) (by rw[hnx];exact List.append_nil _) Ya Xd Yn rfl Yc ⟨rfl,trivial⟩ ⟨rfl,rfl,rfl,trivial⟩ Xg Xg rfl Xn Xo Yj
  |cons c x=>
   refine zeq 6 O ?_;refine zbq rfl (zBq (i:=i) O O O O O O O (zYq bW hx)) ?_;refine zaq 7 O ?_;refine zgq (w':=.int .i64 ((c::x).length:Int)) O O (by show W.int .i64 ((zdq ((c::x))).length:Int)=_;rw[ziq]) ?_;first|refine yzq O O ⟨by omega,by omega⟩ ?_|refine zbq O O ?_
   first|refine yzq O O ⟨by omega,by omega⟩ ?_|refine zbq O O ?_
   (refine zrq rfl (qKq O O O O O O (QPq (c::x).length 4 Xd Xd (by show(c::x).length<4294967296;omega)) ?_);rintro w hp1 nw1 ⟨rfl,rfl,rfl⟩)
   refine zaq 10 O ?_;refine znq rfl (yoq O O (jPq [_] (k:=ti5) (news:=zdq (beB 4 (c::x).length)) O O O O O (ymq O O O (zpq Xq hN.symm rfl)) Ys Qx Qo rfl (by simp[numC]))) ?_;refine zbq O O (znq rfl (yoq O O (qxq (k:=ti5) (len:=(zdq (kind::(ps.take i).flatMap xAq)++zdq (beB 4 (c::x).length)).length) (news:=zdq (c::x)) (olds:=zdq (kind::(ps.take i).flatMap xAq)++zdq (beB 4 (c::x).length)) O O O O O Ql (by rw[List.length_append,hN,ziq (c::x)];show(_+_)*1<=_;omega) (by rw[List.length_append,hN,ziq (c::x)];omega) rfl Qc rfl (zpq Xq O O))) ?_);refine zaq 5 O ?_;first|refine yzq O O ⟨by omega,by omega⟩ ?_|refine zbq O O ?_
   refine yyq 2 O ?_;exact jEq 3 (i+1) (hi) Xd (Nat.zero_le _) (hnx) Ya Xd Yn rfl Yc ⟨rfl,trivial⟩ ⟨rfl,rfl,rfl,trivial⟩ Xg Xg rfl Xn Xo Yj
 ·have hi:i=ps.length:=by omega
  subst hi;refine zeq 2 O ?_;refine qoq Xj ?_;refine zCq 9 O ?_;refine jrq Xx O ?_;rw[List.take_length];exact x1q (H0:=[]) Xq Xk Xk
theorem tag_le{m:Nat}(kind:UInt8)(ps:List (List UInt8))(h:∀p∈ps,p.length<m):(tagB kind ps).length<=1+ps.length*(m+4):=by
 have:=Kgq (m:=m) ps.length h;rw[List.take_length] at this;simp only[tagB,List.length_cons];omega
noncomputable def tagD(kind:UInt8)(ps:List (List UInt8)):Dig:=shaD [tagB kind ps]
theorem kbq(kind:UInt8)(ps:List (List UInt8))(f:Bool)(hn:ps.length<1000)(hb:∀p∈ps,p.length<1000000):PS cfg glK 164 [.int .u8 (.ofNat kind.toNat),.fz (ps.map bW) 1 f] (dW (tagD kind ps)):=by
 have hl:=tag_le kind ps hb;refine zFq (fn:=Tryz.f164) O O O (Ob rfl) (fun R k0=>?_);refine zjq 9 O ?_;refine zkq O O O O O O (tbytes_s kind ps f Xd hb) ?_;refine znq O O ?_;refine xBq O O O O O (by(repeat (first|exact .nil|refine .cons ?_ ?_|(refine .sl O ?_ rfl Xj;first|rfl|(focus (simp;done)))|(refine y9q O ?_ rfl;first|rfl|(focus (simp;done)))|(refine .pur ?_;first|rfl|(focus (simp;done)))))) (sha_s [(tagB kind ps,false)] false Xu Xk) Xn Xn ?_;refine zaq 4 O ?_;exact zhq (.inr rfl) O O
noncomputable def keyD(k:Dig):Dig:=tagD 3 [k.1]
theorem key_s(k:Dig):PS cfg glK 266 [dW k] (dW (keyD k)):=by
 refine zFq (fn:=Tryz.f266) O O O (Ob rfl) (fun R k0=>?_);refine zjq 10 O ?_;refine xBq O O O O O (.cons (.pur rfl) (.cons (.sl2 (full:=false) rfl (.arr (.cons (.sl (full:=false) (xs:=zdq k.1) rfl Xk (zpq Xq (by simp[ziq,k.2]) rfl) Xj) .nil)) rfl Xj) .nil)) (kbq 3 [k.1] false Xk (by simp[k.2])) Xn Xn ?_;refine zaq 4 O ?_;exact zhq (.inr rfl) O O
end
section
attribute [local irreducible] CoW OpW FlW Step Spec
variable {G:Nat->Option W}
structure Tx where
 pub:Dig
 to:Dig
 nonce:Nat
 amount:Nat
 fee:Nat
 sign:Dig
noncomputable def txW(x:Tx):W:=.agg 99 [dW x.pub,dW x.to,.int .u64 (x.nonce:Int),.int .u64 (x.amount:Int),.int .u64 (x.fee:Int),dW x.sign]
@[simp] theorem jSq(x:Tx):purW (txW x)=true:=by simp[txW]
structure Tx.ok(x:Tx):Prop where
 nonce:x.nonce<18446744073709551616
 amount:x.amount<18446744073709551616
 fee:x.fee<18446744073709551616
def qdq(x:Tx):List UInt8:=(x.pub.1++x.to.1)++[x.nonce,x.amount,x.fee].flatMap (beB 8)
theorem body1_s(d:Dig):PS cfg G 285 [dW d] (bW d.1):=by
 refine q7q (fn:=Tryz.f285) O O O (Ob rfl) (fun R k0=>?_);refine zjq 13 O ?_;exact jrq (.inr rfl) rfl (.sl (full:=false) (xs:=zdq d.1) rfl Xk (zpq Xq (by simp[ziq,d.2]) rfl) Xj)
theorem body2_s(n:Nat)(hn:n<18446744073709551616):PS cfg G 287 [.int .u64 (n:Int)] (bW (beB 8 n)):=by
 refine q7q (fn:=Tryz.f287) O O O (Ob rfl) (fun R k0=>?_);refine zjq 8 O ?_
 (refine zrq rfl (qKq O O O O O O (QPq n 8 Xd Xd (by show n<18446744073709551616;omega)) ?_);rintro w hp1 nw1 ⟨rfl,rfl,rfl⟩)
 refine zaq 14 O ?_;exact jrq (.inr rfl) rfl (.sl (full:=false) (c:=.arr (8*1) 1 (zdq (beB 8 n))) (xs:=zdq (beB 8 n)) rfl Xk (zpq Xq (by rw[ziq,yCq]) rfl) Xj)
theorem flat_app{ds:List Dig}{i:Nat}{d:Dig}(h:ds[i]? =some d):zdq ((ds.take (i+1)).flatMap (·.1))=zdq ((ds.take i).flatMap (·.1))++zdq d.1:=by
 rw[List.take_add_one,h,<-y6q];congr 1
 simp
theorem flat_dig:∀(ds:List Dig) (i:Nat),((ds.take i).flatMap (·.1)).length<=i*32
 |[],i=>by simp
 |d::ds,0=>by simp
 |d::ds,i+1=>by
  have:=flat_dig ds i;simp only[List.take_succ_cons,List.flatMap_cons,List.length_append,d.2,Nat.succ_mul];omega
@[simp] theorem dWs_pur(ds:List Dig):purL (ds.map dW)=true:=qqq (fun x=>by simp) ds
theorem putd_s(ds:List Dig)(f:Bool)(hn:ds.length<1000):PL cfg G 284 [.nils,.fz (ds.map dW) 32 f,.fn 285 [] []] 5 1 (zdq (ds.flatMap (·.1))):=by
 have e:(ds.map dW).length=ds.length:=List.length_map _;intro R;refine zVq (fn:=Tryz.f284) O O O (Ob rfl) (fun k0=>?_);refine zjq 9 O ?_;refine zgq (w':=.int .i64 (ds.length:Int)) O O Xy ?_;refine zaq 4 O ?_;refine uHq (α:=Nat) (fun i=>i<=ds.length) 0 (fun i=>zdq ((ds.take i).flatMap (·.1))) 5 1 (fun i=>[(11,.int .i64 (i:Int))]) [(2,_),(6,_),(9,_),(10,_)] _ (fun i=>ds.length-i) (0) ⟨rfl,rfl,rfl,rfl,trivial⟩ (Nat.zero_le _) ⟨rfl,trivial⟩ O O O (fun i hI=>?_);refine zjq 6 O ?_;refine zyq rfl (fun h1=>?_) (fun h1=>?_)
 ·have hi:i<ds.length:=by omega
  obtain⟨d,hd⟩:∃d,ds[i]? =some d:=⟨_,List.getElem?_eq_getElem hi⟩
  have hN:(zdq d.1).length=32:=by rw[ziq,d.2]
  have hne:zdq ((ds.take i).flatMap (·.1))++zdq d.1≠[]:=fun h=>by have:=congrArg List.length h;rw[List.length_append,hN] at this;simp at this
  have hL:(zdq ((ds.take i).flatMap (·.1))).length<=i*32:=by rw[ziq];exact flat_dig ds i
  refine zeq 6 O ?_;refine zbq rfl (zBq (i:=i) O O O O O O O (zYq dW hd)) ?_;refine zaq 9 O ?_;refine zkq O O O O O O (body1_s d) ?_;refine znq rfl (yoq O O (jPq [_] (k:=ti5) (news:=zdq d.1) O O O O O O Ys (by rw[hN];show(_+32)*1<=_;omega) Qo rfl Xk)) ?_;refine zaq 5 O ?_;first|refine yzq O O ⟨by omega,by omega⟩ ?_|refine zbq O O ?_
  refine yyq 2 O ?_;exact jEq 2 (i+1) (hi) Xd (Nat.zero_le _) (flat_app hd) Ya Xd Yn rfl Yc ⟨rfl,trivial⟩ ⟨rfl,rfl,rfl,rfl,trivial⟩ Xg Xg rfl Xn Xo Yj
 ·have hi:i=ds.length:=by omega
  subst hi;refine zeq 2 O ?_;refine qoq Xj ?_;refine zCq 9 O ?_;rw[List.take_length];exact fin (.inr rfl) (ylq (fr2:=[(6,gW 0 1 (zdq (ds.flatMap (·.1))))]) ⟨rfl,trivial⟩ O O) rfl ⟨rfl,rfl,rfl,rfl⟩
theorem flat_num:∀(ns:List Nat) (i:Nat),((ns.take i).flatMap (beB 8)).length<=i*8
 |[],i=>by simp
 |d::ds,0=>by simp
 |d::ds,i+1=>by
  have:=flat_num ds i;simp only[List.take_succ_cons,List.flatMap_cons,List.length_append,yCq,Nat.succ_mul];omega
noncomputable def uW(n:Nat):W:=.int .u64 (n:Int)
@[simp] theorem uWs_pur(ns:List Nat):purL (ns.map uW)=true:=qqq (fun x=>rfl) ns
noncomputable def thr(i:Nat):Nat:=match i with
 |0=>0
 |_+1=>1
theorem putu_s(l:List UInt8)(hl0:l≠[])(hl:l.length<100000)(ns:List Nat)(f:Bool)(hn:ns.length<1000)(hns:ns≠[])(hu:∀n∈ns,n<18446744073709551616):qiq cfg G 286 1 [.sl 0 0 0 l.length 1 none,.fz (ns.map uW) 1 f,.fn 287 [] []] [(0,5,.arr l.length 1 (zdq l))] fun w hp nw=>w= .sl 1 0 0 (l++ns.flatMap (beB 8)).length 1 none/\hp=[(1,5,.arr (l++ns.flatMap (beB 8)).length 1 (zdq (l++ns.flatMap (beB 8))))]/\nw=2:=by
 have e:(ns.map uW).length=ns.length:=List.length_map _;intro R;refine zVq (fn:=Tryz.f286) O O O (Ob rfl) (fun k0=>?_);refine zjq 9 O ?_;refine zgq (w':=.int .i64 (ns.length:Int)) O O Xy ?_;refine zaq 4 O ?_;refine qBq (α:=Nat) (fun i=>i<=ns.length) (fun i=>[(11,.int .i64 (i:Int)),(0,.sl (thr i) 0 0 (l++(ns.take i).flatMap (beB 8)).length 1 none),(2,.fn 287 [] []),(6,.nils),(9,.fz (ns.map uW) 1 f),(10,.int .i64 (ns.length:Int))]) (fun i=>[(thr i,5,.arr (l++(ns.take i).flatMap (beB 8)).length 1 (zdq (l++(ns.take i).flatMap (beB 8))))]) (fun i=>thr i+1) (fun _=>R) (fun i=>ns.length-i) 0 (Nat.zero_le _) (ylq ⟨rfl,by show some (W.sl 0 0 0 l.length 1 none)=some (W.sl 0 0 0 (l++[]).length 1 none);rw[List.append_nil],rfl,rfl,rfl,rfl,trivial⟩ (by simp[thr]) rfl) (fun i hI=>?_);skip
 refine zjq 6 O ?_;refine zyq rfl (fun h1=>?_) (fun h1=>?_)
 ·have hi:i<ns.length:=by omega
  obtain⟨u,hu0⟩:∃u,ns[i]? =some u:=⟨_,List.getElem?_eq_getElem hi⟩
  have hu1:=hu u (List.mem_of_getElem? hu0);have hN:(zdq (beB 8 u)).length=8:=by rw[ziq,yCq]
  have hL:(l++(ns.take i).flatMap (beB 8)).length<=100000+i*8:=by have:=flat_num ns i;rw[List.length_append];omega
  have hnx:l++(ns.take (i+1)).flatMap (beB 8)=(l++(ns.take i).flatMap (beB 8))++beB 8 u:=by rw[List.take_add_one,hu0];simp
  have hlen:(l++(ns.take i).flatMap (beB 8)).length+(zdq (beB 8 u)).length=(l++(ns.take (i+1)).flatMap (beB 8)).length:=by rw[hnx,List.length_append (bs:=beB 8 u),ziq]
  have hby:zdq (l++(ns.take i).flatMap (beB 8))++zdq (beB 8 u)=zdq (l++(ns.take (i+1)).flatMap (beB 8)):=by rw[hnx,y6q (b:=beB 8 u)]
  skip
  cases i with
  |zero=>
   refine zeq 6 O ?_;refine zbq rfl (zBq (i:=0) O O O O O O O (zYq uW hu0)) ?_;refine zaq 8 O ?_;refine zkq O O O O O O (body2_s u hu1) ?_;refine znq rfl (yoq O O (qxq (k:=ti5) (len:=(l++(ns.take 0).flatMap (beB 8)).length) (news:=zdq (beB 8 u)) (olds:=zdq (l++(ns.take 0).flatMap (beB 8))) O O O O O Ys (by rw[hN];show(_+8)*1<=_;omega) Qo rfl (by rw[hN];show(l++(ns.take 0).flatMap (beB 8)).length<0+(_+8)*1;omega) rfl (zpq Xq (ziq _).symm (Nat.mul_one _).symm))) ?_;refine zaq 5 O ?_;refine zlq (0+1) O O Xi ⟨by omega,by omega⟩ ?_;refine yyq 2 O ?_;skip
   refine ywq 1 hi Xd (ylq ⟨rfl,?_,rfl,rfl,rfl,rfl,trivial⟩ ?_ rfl)
   ·show some (W.sl 1 0 0 ((l++(ns.take 0).flatMap (beB 8)).length+(zdq (beB 8 u)).length) 1 none)=some (W.sl 1 0 0 (l++(ns.take (0+1)).flatMap (beB 8)).length 1 none);rw[hlen]
   ·show [(1,5,W.arr (((l++(ns.take 0).flatMap (beB 8)).length+(zdq (beB 8 u)).length)*1) 1 (zdq (l++(ns.take 0).flatMap (beB 8))++zdq (beB 8 u)))]=[(1,5,W.arr (l++(ns.take (0+1)).flatMap (beB 8)).length 1 (zdq (l++(ns.take (0+1)).flatMap (beB 8))))];rw[hlen,hby,Nat.mul_one]
  |succ i=>
   refine zeq 6 O ?_;refine zbq rfl (zBq (i:=(i+1)) O O O O O O O (zYq uW hu0)) ?_;refine zaq 8 O ?_;refine zkq O O O O O O (body2_s u hu1) ?_;refine znq rfl (yoq O O (qxq (k:=ti5) (len:=(l++(ns.take (i+1)).flatMap (beB 8)).length) (news:=zdq (beB 8 u)) (olds:=zdq (l++(ns.take (i+1)).flatMap (beB 8))) O O O O O Ys (by rw[hN];show(_+8)*1<=_;omega) Qo rfl (by rw[hN];show(l++(ns.take (i+1)).flatMap (beB 8)).length<0+(_+8)*1;omega) rfl (zpq Xq (ziq _).symm (Nat.mul_one _).symm))) ?_;refine zaq 5 O ?_;refine zlq ((i+1)+1) O O Xi ⟨by omega,by omega⟩ ?_;refine yyq 2 O ?_;skip
   refine ywq (i+1+1) hi (show ns.length-(i+1+1)<ns.length-(i+1) by omega) ?_;refine(y2q (b:=1) (k:=2) Xd Xd (by show 2<3;omega) ⟨⟨rfl,rfl⟩,⟨?_,rfl⟩,⟨rfl,rfl⟩,⟨rfl,rfl⟩,⟨by rw[zmq (show purW (.fz (ns.map uW) 1 f)=true from uWs_pur ns)];rfl,zfq (show purW (.fz (ns.map uW) 1 f)=true from uWs_pur ns)⟩,⟨rfl,rfl⟩,trivial⟩ ⟨⟨by show 1<2;omega,?_,zfq (show purW (.arr _ 1 (zdq _))=true from y5q _)⟩,trivial⟩ Xk)
   ·show some (W.sl 2 0 0 ((l++(ns.take (i+1)).flatMap (beB 8)).length+(zdq (beB 8 u)).length) 1 none)=some (W.sl 2 0 0 (l++(ns.take (i+1+1)).flatMap (beB 8)).length 1 none);rw[hlen]
   ·show some (5,W.arr (((l++(ns.take (i+1)).flatMap (beB 8)).length+(zdq (beB 8 u)).length)*1) 1 (zdq (l++(ns.take (i+1)).flatMap (beB 8))++zdq (beB 8 u)))=some (5,renW _ (W.arr (l++(ns.take (i+1+1)).flatMap (beB 8)).length 1 (zdq (l++(ns.take (i+1+1)).flatMap (beB 8)))));rw[zmq (show purW (.arr _ 1 (zdq _))=true from y5q _),hlen,hby,Nat.mul_one]
 ·have hi:i=ns.length:=by omega
  subst hi;refine zeq 2 O ?_;refine qoq Xj ?_;refine zCq 9 O ?_;rw[List.take_length];cases ns with
  |nil=>exact absurd rfl hns
  |cons a r=>
   exact fin (.inr rfl) (ylq (fr2:=[(6,.sl 1 0 0 (l++(a::r).flatMap (beB 8)).length 1 none)]) ⟨rfl,trivial⟩ O O) rfl ⟨rfl,rfl,rfl,rfl⟩
theorem put2_s(a b:Dig)(f:Bool):qiq cfg G 284 0 [.nils,.fz [dW a,dW b] 32 f,.fn 285 [] []] [] fun w hp nw=>w= .sl 0 0 0 (a.1++b.1).length 1 none/\hp=[(0,5,.arr (a.1++b.1).length 1 (zdq (a.1++b.1)))]/\nw=1:=by
 refine uAq (putd_s [a,b] f Xk) fun w hp nw h=>?_
 obtain⟨rfl,rfl,rfl⟩:=h;have e:[a,b].flatMap (·.1)=a.1++b.1:=by simp
 have hl:(zdq (a.1++b.1)).length=64:=by rw[ziq,List.length_append,a.2,b.2]
 have hne:zdq (a.1++b.1)≠[]:=fun h=>by rw[h] at hl;cases hl
 rw[e,xFq hne,xHq hne,ziq,Nat.mul_one];exact⟨rfl,rfl,rfl⟩
theorem xPq(x:Tx):(qdq x).length=88:=by simp[qdq,x.pub.2,x.to.2,yCq]
theorem bodyL_s(x:Tx)(hx:x.ok):PL cfg G 268 [txW x] 5 1 (zdq (qdq x)):=by
 have hl:(x.pub.1++x.to.1).length=64:=by rw[List.length_append,x.pub.2,x.to.2]
 have hb:=xPq x
 have hns:∀n∈[x.nonce,x.amount,x.fee],n<18446744073709551616:=fun n hn=>by
  simp only[List.mem_cons,List.not_mem_nil,or_false] at hn;rcases hn with rfl|rfl|rfl
  ·exact hx.nonce
  ·exact hx.amount
  ·exact hx.fee
 have hpa:purW (.arr (x.pub.1++x.to.1).length 1 (zdq (x.pub.1++x.to.1)))=true:=y5q _;intro R;refine zVq (fn:=Tryz.f268) O O O (Ob rfl) (fun k0=>?_);refine zjq 13 O ?_
 (refine khq (fun _=>Zvq 1 [(1,.ptr 0 0),(2,.nils),(8,.fz [dW x.pub,dW x.to] 32 false)] [(0,75,txW x)] rfl (show purL [dW x.pub,dW x.to]=true by simp) (Nat.zero_le _) ⟨⟨_,rfl,.ptrK rfl⟩,⟨_,rfl,.pur rfl⟩,⟨_,rfl,.sl (full:=false) rfl (show purL [dW x.pub,dW x.to]=true by simp) rfl Xj⟩,trivial⟩ ⟨⟨by omega,_,rfl,.pur Xk⟩,trivial⟩ Xk) ?_;refine zrq rfl (qKq O O O O O Xk (put2_s x.pub x.to false) ?_);rintro w hp1 nw1 ⟨rfl,rfl,rfl⟩)
 refine zaq 13 O ?_
 (refine khq (fun _=>Zvq 3 [(1,.ptr 0 0),(2,.nils),(10,.sl 2 0 0 (x.pub.1++x.to.1).length 1 none),(17,.fz ([x.nonce,x.amount,x.fee].map uW) 1 false)] [(2,5,.arr (x.pub.1++x.to.1).length 1 (zdq (x.pub.1++x.to.1))),(0,75,txW x)] O O (Nat.zero_le _) ⟨⟨_,rfl,.ptrK rfl⟩,⟨_,rfl,.pur rfl⟩,⟨_,rfl,.slK rfl⟩,⟨_,rfl,.sl (full:=false) O O O Xj⟩,trivial⟩ ⟨⟨by omega,_,rfl,by rw[zmq hpa];exact .pur hpa⟩,⟨by omega,_,rfl,.pur Xk⟩,trivial⟩ Xk) ?_;refine zrq rfl (y3q (ext:=[2]) (ws:=[.sl 0 0 0 (x.pub.1++x.to.1).length 1 none,.fz ([x.nonce,x.amount,x.fee].map uW) 1 false,.fn 287 [] []]) O O O O O (putu_s (x.pub.1++x.to.1) (by intro h;rw[h] at hl;cases hl) Xd [x.nonce,x.amount,x.fee] false Xk Xk hns) Xk Xk Xk (handed1 (by rw[zmq hpa];rfl) (zfq hpa)) O ?_);rintro w hp1 nw1 ⟨rfl,rfl,rfl⟩)
 refine zaq 4 O ?_;have hpb:purW (.arr (qdq x).length 1 (zdq (qdq x)))=true:=y5q _;have hn:(zdq (qdq x)).length=88:=by rw[ziq,hb]
 have hne:zdq (qdq x)≠[]:=fun h=>by rw[h] at hn;cases hn
 refine fin (fr2:=[(2,.sl 0 0 0 (qdq x).length 1 none)]) (hp2:=[(0,5,.arr (qdq x).length 1 (zdq (qdq x)))]) (nw2:=1) (w:=.sl 0 0 0 (qdq x).length 1 none) (.inr rfl) (y2q (b:=0) (k:=4) Xd Xd Yq ⟨⟨rfl,rfl⟩,trivial⟩ ⟨⟨by omega,?_,zfq hpb⟩,trivial⟩ Xk) rfl ⟨rfl,?_,?_,rfl⟩
 ·show some (5,renW _ (W.arr (qdq x).length 1 (zdq (qdq x))))=some (5,renW _ (W.arr (qdq x).length 1 (zdq (qdq x))));rw[zmq hpb,zmq hpb]
 ·rw[xFq hne,ziq]
 ·rw[xHq hne,ziq,Nat.mul_one]
theorem body_s(x:Tx)(hx:x.ok):PS cfg G 268 [txW x] (bW (qdq x)):=(bodyL_s x hx).ps Xq Xk
noncomputable def xZq(x:Tx):Dig:=tagD 4 [qdq x]
theorem sign_s(x:Tx)(hx:x.ok):PS cfg glK 260 [txW x] (dW (xZq x)):=by
 have hb:=xPq x;refine zFq (fn:=Tryz.f260) O O O (Ob rfl) (fun R k0=>?_);refine zjq 9 O ?_;refine zkq O O O O O O (body_s x hx) ?_;refine znq O O ?_;refine xBq O O O O O (by(repeat (first|exact .nil|refine .cons ?_ ?_|(refine .sl O ?_ rfl Xj;first|rfl|(focus (simp;done)))|(refine y9q O ?_ rfl;first|rfl|(focus (simp;done)))|(refine .pur ?_;first|rfl|(focus (simp;done)))))) (kbq 4 [qdq x] false Xk (by simp[hb])) Xn Xn ?_;refine zaq 4 O ?_;exact zhq (.inr rfl) O O
theorem vqq(x:Tx)(hx:x.ok):PS cfg glK 213 [txW x] (.int .i64 (if x.sign=xZq x then 0 else 110)):=by
 refine zFq (fn:=Tryz.f213) O O O (Ob rfl) (fun R k0=>?_);by_cases h:x.sign=xZq x
 ·rw[if_pos h];skip
  refine zjq 12 O ?_;refine yxq O O O O O O (sign_s x hx) ?_;refine jwq (w':=.bool false) rfl (jaq O O O O (qlq O O O O O O x.sign (xZq x) 250)) (by rw[decide_eq_true h];rfl) ?_;refine zoq 11 O ?_;exact zhq (.inr rfl) O O
 ·rw[if_neg h];refine zjq 12 O ?_;refine yxq O O O O O O (sign_s x hx) ?_;refine jwq (w':=.bool true) rfl (jaq O O O O (qlq O O O O O O x.sign (xZq x) 250)) (by rw[decide_eq_false h];rfl) ?_;refine zoq 10 O ?_;exact zhq (.inr rfl) O O
theorem from_s(x:Tx):PS cfg glK 227 [txW x] (dW (keyD x.pub)):=by
 refine zFq (fn:=Tryz.f227) O O O (Ob rfl) (fun R k0=>?_);refine zjq 10 O ?_;refine zkq O O O O O O (key_s x.pub) ?_;refine zaq 4 O ?_;exact zhq (.inr rfl) O O
end
section
attribute [local irreducible] CoW OpW FlW Step Spec
variable {G:Nat->Option W}
def StepA(H:Tree->HpW)(m:Nat)(b:Bool)(P:Tree->T->Prop):W->HpW->Nat->Prop:=fun w hp nw=>∃t n t0,IsA t n t0/\P t t0/\w= .bool b/\hp=H t/\nw=m
noncomputable def pay1H(x:Tx)(a:Acct)(k:Dig)(t:Tree):HpW:=[(0,75,txW x),(1,81,aW a),(2,307,.ptr 4 0),(3,26,dW k),(4,308,tW t)]
noncomputable def QRq(x:Tx)(t:Tree):HpW:=[(0,307,.ptr 2 0),(1,75,txW x),(2,308,tW t)]
noncomputable def QQq(x:Tx)(k:Dig)(t:Tree):HpW:=[(0,307,.ptr 3 0),(1,26,dW k),(2,75,txW x),(3,308,tW t)]
theorem pay1_no(x:Tx)(hx:x.ok)(a:Acct)(ha:a.ok)(k:Dig)(t:Tree)(n:Nat)(t0:T)(h:IsA t n t0)(ho:¬x.amount+x.fee<=a.balance):qiq cfg G 229 5 [.ptr 0 0,.ptr 1 0,.ptr 2 0,.ptr 3 0] (pay1H x a k t) (StepA (pay1H x a k) 5 false (fun t' t1=>t'=t/\t1=t0)):=by
 intro R;have h1:=hx.amount;have h2:=hx.fee;have h3:=ha.2;by_cases ov:x.amount+x.fee<18446744073709551616
 ·skip
  refine zVq (fn:=Tryz.f229) O O O (Ob rfl) (fun k0=>?_);refine zjq 11 O ?_
  (refine zrq rfl (k2q (a:=x.amount) (b:=x.fee) O O O O ?_))
  refine zbq O O (zgq (w':=.int .u64 ((x.amount+x.fee:Nat):Int)) O O (congrArg (fun q:Nat=>W.int .u64 (q:Int)) Xd) ?_);refine zgq (w':=.int .u64 ((0:Nat):Int)) O O (congrArg (fun q:Nat=>W.int .u64 (q:Int)) Xd) ?_;refine zaq 8 O ?_;refine zgq (w':=.bool false) O O (congrArg W.bool Xh) ?_;refine zaq 4 O ?_;refine zgq (w':=.bool true) O O (congrArg W.bool (ltI_iff.2 Xd)) ?_;refine zaq 11 O ?_;exact fin (.inr rfl) (ylq (fr2:=[(4,.bool false)]) ⟨rfl,trivial⟩ O O) rfl ⟨rfl,t,n,t0,h,⟨rfl,rfl⟩,rfl,rfl,rfl⟩
 ·skip
  refine zVq (fn:=Tryz.f229) O O O (Ob rfl) (fun k0=>?_);refine zjq 11 O ?_
  (refine zrq rfl (k2q (a:=x.amount) (b:=x.fee) O O O O ?_))
  refine zaq 2 O ?_;refine zgq (w':=.int .u64 ((1:Nat):Int)) O O (congrArg (fun q:Nat=>W.int .u64 (q:Int)) Xd) ?_;refine zaq 8 O ?_;refine zgq (w':=.bool true) O O (congrArg W.bool Xh) ?_;refine zaq 16 O ?_;exact fin (.inr rfl) (ylq (fr2:=[(4,.bool false)]) ⟨rfl,trivial⟩ O O) rfl ⟨rfl,t,n,t0,h,⟨rfl,rfl⟩,rfl,rfl,rfl⟩
theorem pay1_st(x:Tx)(hx:x.ok)(a:Acct)(ha:a.ok)(k:Dig)(t:Tree)(n:Nat)(t0:T)(h:IsA t n t0)(hl:t.nodes.length<=261844)(ho:x.amount+x.fee<=a.balance):qiq cfg G 229 5 [.ptr 0 0,.ptr 1 0,.ptr 2 0,.ptr 3 0] (pay1H x a k t) (StepA (pay1H x a k) 5 true (kjq t 257 (setL t0.all k ⟨a.nonce,a.balance-(x.amount+x.fee)⟩))):=by
 intro R;have h1:=hx.amount;have h2:=hx.fee;have h3:=ha.2;refine zVq (fn:=Tryz.f229) O O O (Ob rfl) (fun k0=>?_);refine zjq 11 O ?_
 (refine zrq rfl (k2q (a:=x.amount) (b:=x.fee) O O O O ?_))
 refine zbq O O (zgq (w':=.int .u64 ((x.amount+x.fee:Nat):Int)) O O (congrArg (fun q:Nat=>W.int .u64 (q:Int)) Xd) ?_);refine zgq (w':=.int .u64 ((0:Nat):Int)) O O (congrArg (fun q:Nat=>W.int .u64 (q:Int)) Xd) ?_;refine zaq 8 O ?_;refine zgq (w':=.bool false) O O (congrArg W.bool Xh) ?_;refine zaq 4 O ?_;refine zgq (w':=.bool false) O O (congrArg W.bool (ltI_not.2 Xd)) ?_;refine zaq 15 O ?_;refine zlq (a.balance-(x.amount+x.fee)) O O Xi ⟨by omega,by omega⟩ ?_;refine zbq O O ?_
 (refine zrq rfl (xnq 4 O O O O Xk Xd O O (turn_st t n t0 k ⟨a.nonce,a.balance-(x.amount+x.fee)⟩ h ⟨ha.1,by show a.balance-(x.amount+x.fee)<_;omega⟩ hl) ?_);rintro t' n' t1 h' hP)
 refine zaq 8 O ?_;exact fin (hp2:=pay1H x a k t') (.inr rfl) (qmq (nw2:=5) (fr2:=[(4,.bool true)]) Xd Xd ⟨rfl,trivial⟩ rfl (qtq ⟨⟨by omega,rfl,zfq (jSq x)⟩,⟨by omega,rfl,rfl⟩,⟨by omega,rfl,rfl⟩,⟨by omega,rfl,zfq (xaq k)⟩,⟨by omega,rfl,zfq (jcq t')⟩,trivial⟩) (by simp[pay1H])) rfl ⟨rfl,t',n',t1,h',hP,rfl,rfl,rfl⟩
theorem pay2_no(x:Tx)(hx:x.ok)(t:Tree)(n:Nat)(t0:T)(h:IsA t n t0)(ho:18446744073709551616<=(y7q t0 x.to).balance+x.amount):qiq cfg G 231 3 [.ptr 0 0,.ptr 1 0] (QRq x t) (StepA (QRq x) 3 false (kjq t 257 t0.all)):=by
 intro R;refine zVq (fn:=Tryz.f231) O O O (Ob rfl) (fun k0=>?_);refine zjq 12 O ?_
 (refine zrq rfl (xnq 2 O O O O Xk Xd O O (more_no t n t0 x.to x.amount h hx.amount ho) ?_);rintro t' n' t1 h' hP)
 refine zaq 4 O ?_;exact fin (hp2:=QRq x t') (.inr rfl) (qmq (nw2:=3) (fr2:=[(2,.bool false)]) Xd Xd ⟨rfl,trivial⟩ rfl (qtq ⟨⟨by omega,rfl,rfl⟩,⟨by omega,rfl,zfq (jSq x)⟩,⟨by omega,rfl,zfq (jcq t')⟩,trivial⟩) (by simp[QRq])) rfl ⟨rfl,t',n',t1,h',hP,rfl,rfl,rfl⟩
theorem pay2_st(x:Tx)(t:Tree)(n:Nat)(t0:T)(h:IsA t n t0)(hl:t.nodes.length<=261844)(ho:(y7q t0 x.to).balance+x.amount<18446744073709551616):qiq cfg G 231 3 [.ptr 0 0,.ptr 1 0] (QRq x t) (StepA (QRq x) 3 true (kjq t 257 (setL t0.all x.to ⟨(y7q t0 x.to).nonce,(y7q t0 x.to).balance+x.amount⟩))):=by
 intro R;refine zVq (fn:=Tryz.f231) O O O (Ob rfl) (fun k0=>?_);refine zjq 12 O ?_
 (refine zrq rfl (xnq 2 O O O O Xk Xd O O (more_st t n t0 x.to x.amount h ho hl) ?_);rintro t' n' t1 h' hP)
 refine zaq 4 O ?_;exact fin (hp2:=QRq x t') (.inr rfl) (qmq (nw2:=3) (fr2:=[(2,.bool true)]) Xd Xd ⟨rfl,trivial⟩ rfl (qtq ⟨⟨by omega,rfl,rfl⟩,⟨by omega,rfl,zfq (jSq x)⟩,⟨by omega,rfl,zfq (jcq t')⟩,trivial⟩) (by simp[QRq])) rfl ⟨rfl,t',n',t1,h',hP,rfl,rfl,rfl⟩
theorem pay3_no(x:Tx)(hx:x.ok)(k:Dig)(t:Tree)(n:Nat)(t0:T)(h:IsA t n t0)(ho:18446744073709551616<=(y7q t0 k).balance+x.fee):qiq cfg G 232 4 [.ptr 0 0,.ptr 1 0,.ptr 2 0] (QQq x k t) (StepA (QQq x k) 4 false (kjq t 257 t0.all)):=by
 intro R;refine zVq (fn:=Tryz.f232) O O O (Ob rfl) (fun k0=>?_);refine zjq 11 O ?_
 (refine zrq rfl (xnq 3 O O O O Xk Xd O O (more_no t n t0 k x.fee h hx.fee ho) ?_);rintro t' n' t1 h' hP)
 refine zaq 4 O ?_;exact fin (hp2:=QQq x k t') (.inr rfl) (qmq (nw2:=4) (fr2:=[(3,.bool false)]) Xd Xd ⟨rfl,trivial⟩ rfl (qtq ⟨⟨by omega,rfl,rfl⟩,⟨by omega,rfl,zfq (xaq k)⟩,⟨by omega,rfl,zfq (jSq x)⟩,⟨by omega,rfl,zfq (jcq t')⟩,trivial⟩) (by simp[QQq])) rfl ⟨rfl,t',n',t1,h',hP,rfl,rfl,rfl⟩
theorem pay3_st(x:Tx)(k:Dig)(t:Tree)(n:Nat)(t0:T)(h:IsA t n t0)(hl:t.nodes.length<=261844)(ho:(y7q t0 k).balance+x.fee<18446744073709551616):qiq cfg G 232 4 [.ptr 0 0,.ptr 1 0,.ptr 2 0] (QQq x k t) (StepA (QQq x k) 4 true (kjq t 257 (setL t0.all k ⟨(y7q t0 k).nonce,(y7q t0 k).balance+x.fee⟩))):=by
 intro R;refine zVq (fn:=Tryz.f232) O O O (Ob rfl) (fun k0=>?_);refine zjq 11 O ?_
 (refine zrq rfl (xnq 3 O O O O Xk Xd O O (more_st t n t0 k x.fee h ho hl) ?_);rintro t' n' t1 h' hP)
 refine zaq 4 O ?_;exact fin (hp2:=QQq x k t') (.inr rfl) (qmq (nw2:=4) (fr2:=[(3,.bool true)]) Xd Xd ⟨rfl,trivial⟩ rfl (qtq ⟨⟨by omega,rfl,rfl⟩,⟨by omega,rfl,zfq (xaq k)⟩,⟨by omega,rfl,zfq (jSq x)⟩,⟨by omega,rfl,zfq (jcq t')⟩,trivial⟩) (by simp[QQq])) rfl ⟨rfl,t',n',t1,h',hP,rfl,rfl,rfl⟩
end
section
attribute [local irreducible] CoW OpW FlW Step Spec
def acL(l:List Pr)(k:Dig):Acct:=match jqq l k with
 |some v=>(qLq v).1
 |none=>.zero
theorem uKq{t:Tree}{n:Nat}{t0:T}(h:IsT t n t0)(k:Dig):y7q t0 k=acL t0.all k:=by
 unfold y7q acL;rw[uhq k jQq h.ok];cases jqq t0.all k<;>rfl
noncomputable def qGq(l:List Pr)(k:Dig)(c:Nat):Option (List Pr):=if (acL l k).balance+c<18446744073709551616 then some (setL l k ⟨(acL l k).nonce,(acL l k).balance+c⟩) else none
noncomputable def j4q(l:List Pr)(x:Tx):List Pr:=setL l (keyD x.pub) ⟨(acL l (keyD x.pub)).nonce+1,(acL l (keyD x.pub)).balance⟩
noncomputable def j5q(l:List Pr)(x:Tx):List Pr:=setL (j4q l x) (keyD x.pub) ⟨(acL l (keyD x.pub)).nonce+1,(acL l (keyD x.pub)).balance-(x.amount+x.fee)⟩
noncomputable def yYq(l:List Pr)(x:Tx)(box:Dig):List Pr×Nat:=if x.amount+x.fee<=(acL l (keyD x.pub)).balance then(match qGq (j5q l x) x.to x.amount with
  |none=>(j4q l x,151)
  |some p=>match qGq p box x.fee with
   |none=>(j4q l x,151)
   |some q=>(q,0)) else(j4q l x,150)
def stg(x:Tx)(box:Dig)(l:List Pr):Nat->List Pr->Prop
 |0,q=>q=j4q l x
 |1,q=>x.amount+x.fee<=(acL l (keyD x.pub)).balance/\q=j5q l x
 |2,q=>x.amount+x.fee<=(acL l (keyD x.pub)).balance/\qGq (j5q l x) x.to x.amount=some q
 |_,q=>x.amount+x.fee<=(acL l (keyD x.pub)).balance/\∃p,qGq (j5q l x) x.to x.amount=some p/\qGq p box x.fee=some q
theorem uBq{x:Tx}{box:Dig}{l:List Pr}(ho:¬x.amount+x.fee<=(acL l (keyD x.pub)).balance):yYq l x box=(j4q l x,150):=by unfold yYq;rw[if_neg ho]
theorem Q9q{x:Tx}{box:Dig}{l:List Pr}(ho:x.amount+x.fee<=(acL l (keyD x.pub)).balance)(h:qGq (j5q l x) x.to x.amount=none):yYq l x box=(j4q l x,151):=by unfold yYq;rw[if_pos ho,h]
theorem Q8q{x:Tx}{box:Dig}{l p:List Pr}(ho:x.amount+x.fee<=(acL l (keyD x.pub)).balance)(h:qGq (j5q l x) x.to x.amount=some p)(h2:qGq p box x.fee=none):yYq l x box=(j4q l x,151):=by unfold yYq;rw[if_pos ho,h];simp only;rw[h2]
theorem Q7q{x:Tx}{box:Dig}{l p q:List Pr}(ho:x.amount+x.fee<=(acL l (keyD x.pub)).balance)(h:qGq (j5q l x) x.to x.amount=some p)(h2:qGq p box x.fee=some q):yYq l x box=(q,0):=by unfold yYq;rw[if_pos ho,h];simp only;rw[h2]
def PayA(t:Tree)(t0:T)(x:Tx)(box:Dig):W->Prop:=fun w=>∃t' n' t1,IsA t' n' t1/\kjq t 1028 (yYq t0.all x box).1 t' t1/\w= .tup [tW t',.int .i64 ((yYq t0.all x box).2:Nat),.int .i64 0]
theorem pay_sign(t:Tree)(n:Nat)(t0:T)(x:Tx)(hx:x.ok)(box:Dig)(h:IsA t n t0)(hs:x.sign≠xZq x):PS cfg glK 169 [tW t,txW x,dW box] (.tup [noT,.int .i64 0,.int .i64 110]):=by
 refine zFq (fn:=Tryz.f169) O O O (Ob rfl) (fun R k0=>?_);refine zjq 10 O ?_;refine v0q 3 ?_;refine zjq 3 O ?_;refine zkq O O O O O O (from_s _) ?_;refine zaq 8 O ?_;refine zkq O O O O O O (Jvq t n t0 h _) ?_;refine zaq 13 O ?_;refine yVq O O ?_;refine zaq 7 O ?_;refine zkq O O O O O O (yrq (w':=.int .i64 110) (vqq x hx) (by rw[if_neg hs])) ?_;refine yVq O O ?_;refine zaq 15 O ?_;refine xxq Yw ?_;exact zhq (.inr rfl) O O
theorem pay_nonce(t:Tree)(n:Nat)(t0:T)(x:Tx)(hx:x.ok)(box:Dig)(h:IsA t n t0)(hs:x.sign=xZq x)(hn:¬(x.nonce=(acL t0.all (keyD x.pub)).nonce/\x.nonce<18446744073709551615)):PS cfg glK 169 [tW t,txW x,dW box] (.tup [noT,.int .i64 0,.int .i64 2]):=by
 have h1:=hx.nonce;have ea:=uKq h.toIsT (keyD x.pub);by_cases q:x.nonce=(acL t0.all (keyD x.pub)).nonce
 ·have q2:x.nonce=18446744073709551615:=by have:¬x.nonce<18446744073709551615:=fun r=>hn ⟨q,r⟩;omega
  refine zFq (fn:=Tryz.f169) O O O (Ob rfl) (fun R k0=>?_);refine zjq 10 O ?_;refine v0q 3 ?_;refine zjq 3 O ?_;refine zkq O O O O O O (from_s _) ?_;refine zaq 8 O ?_;refine zkq O O O O O O (Jvq t n t0 h _) ?_;refine zaq 13 O ?_;refine yVq O O ?_;refine zaq 7 O ?_;refine zkq O O O O O O (yrq (w':=.int .i64 0) (vqq x hx) (by rw[if_pos hs])) ?_;refine yVq O O ?_;refine zaq 10 O ?_;refine zgq (w':=.bool false) O O (congrArg (fun b=>W.bool (!b)) (eqI_iff.2 (by rw[ea,q]))) ?_;refine zaq 3 O ?_;refine zgq (w':=.bool true) O O (congrArg W.bool (eqI_iff.2 Xd)) ?_;refine zaq 16 O ?_;refine xxq Yw ?_;exact zhq (.inr rfl) O O
 ·skip
  refine zFq (fn:=Tryz.f169) O O O (Ob rfl) (fun R k0=>?_);refine zjq 10 O ?_;refine v0q 3 ?_;refine zjq 3 O ?_;refine zkq O O O O O O (from_s _) ?_;refine zaq 8 O ?_;refine zkq O O O O O O (Jvq t n t0 h _) ?_;refine zaq 13 O ?_;refine yVq O O ?_;refine zaq 7 O ?_;refine zkq O O O O O O (yrq (w':=.int .i64 0) (vqq x hx) (by rw[if_pos hs])) ?_;refine yVq O O ?_;refine zaq 10 O ?_;refine zgq (w':=.bool true) O O (congrArg (fun b=>W.bool (!b)) (eqI_not.2 (by rw[ea];omega))) ?_;refine zaq 20 O ?_;refine xxq Yw ?_;exact zhq (.inr rfl) O O
noncomputable def stepsW:W:=.arr 6 2 [.agg 2 [.fn 229 [] [.ptr 1 0,.ptr 5 0,.ptr 8 0,.ptr 4 0],.int .i64 150],.agg 2 [.fn 231 [] [.ptr 8 0,.ptr 1 0],.int .i64 151],.agg 2 [.fn 232 [] [.ptr 8 0,.ptr 2 0,.ptr 1 0],.int .i64 151]]
noncomputable def payH(x:Tx)(box k:Dig)(a:Acct)(tb t:Tree):HpW:=[(7,308,tW t),(1,75,txW x),(2,26,dW box),(3,24,noT),(4,26,dW k),(5,81,aW a),(6,308,tW tb),(8,307,.ptr 7 0),(9,314,stepsW)]
theorem Klq{t t' t2:Tree}{m:Nat}(h:∃ms,t'.nodes=t.nodes++ms/\ms.length<=m)(h2:∃ms,t2.nodes=t'.nodes++ms/\ms.length<=257):∃ms,t2.nodes=t.nodes++ms/\ms.length<=m+257:=by
 obtain⟨a,ha,ha2⟩:=h;obtain⟨b,hb,hb2⟩:=h2;exact⟨a++b,by rw[hb,ha,List.append_assoc],by rw[List.length_append];omega⟩
theorem ext_le{t t':Tree}{m:Nat}(h:∃ms,t'.nodes=t.nodes++ms/\ms.length<=m):t'.nodes.length<=t.nodes.length+m:=by
 obtain⟨a,ha,ha2⟩:=h;rw[ha,List.length_append];omega
theorem Qaq{t t':Tree}{m k:Nat}(h:∃ms,t'.nodes=t.nodes++ms/\ms.length<=m)(hk:m<=k):∃ms,t'.nodes=t.nodes++ms/\ms.length<=k:=by
 obtain⟨a,ha,ha2⟩:=h;exact⟨a,ha,by omega⟩
theorem pay_s(t:Tree)(n:Nat)(t0:T)(x:Tx)(hx:x.ok)(box:Dig)(h:IsA t n t0)(hs:x.sign=xZq x)(hn:x.nonce=(acL t0.all (keyD x.pub)).nonce)(hn2:x.nonce<18446744073709551615)(hl:t.nodes.length<=260944):PE cfg glK 169 [tW t,txW x,dW box] (PayA t t0 x box):=by
 have hvals:∀x∈t.nodes,x.val.length<=70368744177664:=IsT.vals (root:=t.root) h.toIsT
 have hA:=QDq t0 (keyD x.pub);rw[uKq h.toIsT] at hA;have ea:=uKq h.toIsT (keyD x.pub);unfold PayA;obtain⟨A,eA⟩:∃A,acL t0.all (keyD x.pub)=A:=⟨_,rfl⟩
 obtain⟨l,el⟩:∃l,t0.all=l:=⟨_,rfl⟩
 rw[eA] at hn hA ea;have e0:j4q l x=setL l (keyD x.pub) ⟨A.nonce+1,A.balance⟩:=by unfold j4q;rw[<-el,eA]
 have e1:j5q l x=setL (j4q l x) (keyD x.pub) ⟨A.nonce+1,A.balance-(x.amount+x.fee)⟩:=by unfold j5q;rw[<-el,eA]
 rw[el] at eA⊢;have hA1:A.nonce+1<18446744073709551616:=by omega
 have hA2:=hA.2;refine vCq (fn:=Tryz.f169) O O O (Ob rfl) (fun R k0=>?_);refine zjq 10 O ?_;refine v0q 3 ?_;refine zjq 3 O ?_;refine zkq O O O O O O (from_s _) ?_;refine zaq 8 O ?_;refine zkq O O O O O O (yrq (w':=.tup [aW A,.int .i64 0]) (Jvq t n t0 h (keyD x.pub)) (by rw[ea])) ?_;refine zaq 13 O ?_;refine yVq O O ?_;refine zaq 7 O ?_;refine zkq O O O O O O (yrq (w':=.int .i64 0) (vqq x hx) (by rw[if_pos hs])) ?_;refine yVq O O ?_;refine zaq 10 O ?_;refine zgq (w':=.bool false) O O (congrArg (fun b=>W.bool (!b)) (eqI_iff.2 (by rw[hn]))) ?_;refine zaq 3 O ?_;refine zgq (w':=.bool false) O O (congrArg W.bool (eqI_not.2 Xd)) ?_;refine zaq 8 O ?_;refine zkq O O O O O O (yrq (w':=.bool false) (full_s t Xd) (by rw[decide_eq_false Xd])) ?_;refine zaq 11 O ?_;refine zlq (A.nonce+1) O O Xi ⟨by omega,by omega⟩ ?_;refine zaq 7 O ?_;refine zkq O O O O O O (JDq t Xd hvals) ?_;refine zaq 10 O ?_
 (refine zrq rfl (xnq 6 O O O O Xk Xd O O (turn_st t n t0 (keyD x.pub) ⟨A.nonce+1,A.balance⟩ h ⟨hA1,hA2⟩ Xd) ?_);rintro tb nb tb0 hb hPb)
 refine zaq 36 O ?_;first|refine j3q O O ?_|refine zbq O O ?_
 refine zaq 4 O ?_;have hmb:=Qaq hPb.2 (show 257<=1028 by omega);rw[el] at hPb;refine qBq (α:=Nat×Tree) (fun p=>p.1<=3/\∃n1 t1,IsA p.2 n1 t1/\(∃ms,p.2.nodes=t.nodes++ms/\ms.length<=257*(p.1+1))/\stg x box l p.1 t1.all) (fun p=>[(79,.int .i64 (p.1:Int)),(6,.ptr 3 0),(11,.ptr 6 0),(12,.ptr 8 0),(77,.sl 9 0 0 3 2 none),(78,.int .i64 3)]) (fun p=>payH x box (keyD x.pub) ⟨A.nonce+1,A.balance⟩ tb p.2) (fun _=>10) (fun _=>R) (fun p=>3-p.1) (0,tb) ⟨by omega,nb,tb0,hb,hPb.2,hPb.1.trans e0.symm⟩ (qmq (nw2:=10) (Nat.zero_le _) Xd ⟨rfl,rfl,rfl,rfl,rfl,rfl,trivial⟩ rfl (qtq ⟨⟨by omega,Xp,zfq Xk⟩,⟨by omega,Xp,zfq Xk⟩,⟨by omega,Xp,zfq Xk⟩,⟨by omega,Xp,rfl⟩,⟨by omega,Xp,zfq Xk⟩,⟨by omega,Xp,rfl⟩,⟨by omega,Xp,zfq Xk⟩,⟨by omega,Xp,rfl⟩,⟨by omega,Xp,rfl⟩,trivial⟩) (by simp[payH])) (fun p hI=>?_);skip
 obtain⟨i,t'⟩:=p;obtain⟨hi,n1,t1,hT,hms,hst⟩:=hI;simp only at hi hT hms hst⊢;have hle:=ext_le hms;refine zjq 6 O ?_;refine zyq rfl (fun h1=>?_) (fun h1=>?_)
 ·skip
  skip
  rcases(show i=0\/i=1\/i=2 by omega) with rfl|rfl|rfl
  ·by_cases ho:x.amount+x.fee<=A.balance
   ·skip
    refine zeq 6 O ?_;first|refine zbq rfl (zBq O O O O O O O Xl) ?_|refine zbq rfl (zLq O O O O O O O Xd) ?_|refine zbq rfl (zsq O O O O O O Xd) ?_|refine zbq O O ?_
    refine zaq 16 O ?_
    (refine zrq rfl (y3q (ext:=[1,5,8,4,7]) (ws:=[.ptr 0 0,.ptr 1 0,.ptr 2 0,.ptr 3 0]) O O O O O (pay1_st x hx ⟨A.nonce+1,A.balance⟩ ⟨hA1,hA2⟩ (keyD x.pub) t' n1 t1 hT Xd ho) Xq Yb (by simp[pay1H]) (jUq ⟨⟨by decide,zfq Xk,_,rfl,by first|rfl|(rw[zmq Xk];rfl)⟩,⟨by decide,rfl,_,rfl,by first|rfl|(rw[zmq Xk];rfl)⟩,⟨by decide,rfl,_,rfl,by first|rfl|(rw[zmq Xk];rfl)⟩,⟨by decide,zfq Xk,_,rfl,by first|rfl|(rw[zmq Xk];rfl)⟩,⟨by decide,zfq Xk,_,rfl,by first|rfl|(rw[zmq Xk];rfl)⟩,trivial⟩) O ?_);rintro w hp1 nw1 ⟨t2,n2,t3,h2,hP2,rfl,rfl,rfl⟩)
    refine zaq 8 O ?_;first|refine yzq O O ⟨by omega,by omega⟩ ?_|refine zbq O O ?_
    refine yyq 2 O ?_;skip
    exact ywq (1,t2) ⟨by omega,n2,t3,h2,Qaq (Klq hms hP2.2) Xd,⟨by rw[eA];exact ho,by rw[e1,<-hst];exact hP2.1⟩⟩ (by show 3-1<3-0;omega) (qmq (nw2:=10) (Nat.zero_le _) Xd ⟨rfl,rfl,rfl,rfl,rfl,rfl,trivial⟩ rfl (qtq ⟨⟨by omega,Xp,zfq Xk⟩,⟨by omega,Xp,zfq Xk⟩,⟨by omega,Xp,zfq Xk⟩,⟨by omega,Xp,rfl⟩,⟨by omega,Xp,zfq Xk⟩,⟨by omega,Xp,rfl⟩,⟨by omega,Xp,zfq Xk⟩,⟨by omega,Xp,rfl⟩,⟨by omega,Xp,rfl⟩,trivial⟩) (by simp[payH]))
   ·skip
    refine zeq 6 O ?_;first|refine zbq rfl (zBq O O O O O O O Xl) ?_|refine zbq rfl (zLq O O O O O O O Xd) ?_|refine zbq rfl (zsq O O O O O O Xd) ?_|refine zbq O O ?_
    refine zaq 16 O ?_
    (refine zrq rfl (y3q (ext:=[1,5,8,4,7]) (ws:=[.ptr 0 0,.ptr 1 0,.ptr 2 0,.ptr 3 0]) O O O O O (pay1_no x hx ⟨A.nonce+1,A.balance⟩ ⟨hA1,hA2⟩ (keyD x.pub) t' n1 t1 hT ho) Xq Yb (by simp[pay1H]) (jUq ⟨⟨by decide,zfq Xk,_,rfl,by first|rfl|(rw[zmq Xk];rfl)⟩,⟨by decide,rfl,_,rfl,by first|rfl|(rw[zmq Xk];rfl)⟩,⟨by decide,rfl,_,rfl,by first|rfl|(rw[zmq Xk];rfl)⟩,⟨by decide,zfq Xk,_,rfl,by first|rfl|(rw[zmq Xk];rfl)⟩,⟨by decide,zfq Xk,_,rfl,by first|rfl|(rw[zmq Xk];rfl)⟩,trivial⟩) O ?_);rintro w hp1 nw1 ⟨t2,n2,t3,h2,hP2,rfl,rfl,rfl⟩)
    refine zaq 7 O ?_;refine qoq Xj ?_;refine zCq 2 O ?_;refine q_goto O ?_;refine zjq 16 O ?_;refine xxq Yw ?_;refine kiq (w':=.tup [tW tb,.int .i64 150,.int .i64 0]) (.inr rfl) rfl (.pur Xk) Xk ⟨tb,nb,tb0,hb,?_,?_⟩
    ·rw[uBq (l:=l) (box:=box) (by rw[eA];exact ho)];exact⟨hPb.1.trans e0.symm,hmb⟩
    ·rw[uBq (l:=l) (box:=box) (by rw[eA];exact ho)];rfl
  ·obtain⟨ho,hst⟩:=hst;have ec:=uKq hT.toIsT x.to;rw[hst] at ec;by_cases hq:(y7q t1 x.to).balance+x.amount<18446744073709551616
   ·have hm:qGq (j5q l x) x.to x.amount=some (setL (j5q l x) x.to ⟨(y7q t1 x.to).nonce,(y7q t1 x.to).balance+x.amount⟩):=by unfold qGq;rw[<-ec,if_pos hq]
    refine zeq 6 O ?_;first|refine zbq rfl (zBq O O O O O O O Xl) ?_|refine zbq rfl (zLq O O O O O O O Xd) ?_|refine zbq rfl (zsq O O O O O O Xd) ?_|refine zbq O O ?_
    refine zaq 16 O ?_
    (refine zrq rfl (y3q (ext:=[8,1,7]) (ws:=[.ptr 0 0,.ptr 1 0]) O O O O O (pay2_st x t' n1 t1 hT Xd hq) Xq Yb (by simp[QRq]) (jUq ⟨⟨by decide,rfl,_,rfl,by first|rfl|(rw[zmq Xk];rfl)⟩,⟨by decide,zfq Xk,_,rfl,by first|rfl|(rw[zmq Xk];rfl)⟩,⟨by decide,zfq Xk,_,rfl,by first|rfl|(rw[zmq Xk];rfl)⟩,trivial⟩) O ?_);rintro w hp1 nw1 ⟨t2,n2,t3,h2,hP2,rfl,rfl,rfl⟩)
    refine zaq 8 O ?_;first|refine yzq O O ⟨by omega,by omega⟩ ?_|refine zbq O O ?_
    refine yyq 2 O ?_;skip
    exact ywq (2,t2) ⟨by omega,n2,t3,h2,Qaq (Klq hms hP2.2) Xd,⟨ho,by rw[hP2.1,hst];exact hm⟩⟩ (by show 3-2<3-1;omega) (qmq (nw2:=10) (Nat.zero_le _) Xd ⟨rfl,rfl,rfl,rfl,rfl,rfl,trivial⟩ rfl (qtq ⟨⟨by omega,Xp,zfq Xk⟩,⟨by omega,Xp,zfq Xk⟩,⟨by omega,Xp,zfq Xk⟩,⟨by omega,Xp,rfl⟩,⟨by omega,Xp,zfq Xk⟩,⟨by omega,Xp,rfl⟩,⟨by omega,Xp,zfq Xk⟩,⟨by omega,Xp,rfl⟩,⟨by omega,Xp,rfl⟩,trivial⟩) (by simp[payH]))
   ·have hm:qGq (j5q l x) x.to x.amount=none:=by unfold qGq;rw[<-ec,if_neg hq]
    refine zeq 6 O ?_;first|refine zbq rfl (zBq O O O O O O O Xl) ?_|refine zbq rfl (zLq O O O O O O O Xd) ?_|refine zbq rfl (zsq O O O O O O Xd) ?_|refine zbq O O ?_
    refine zaq 16 O ?_
    (refine zrq rfl (y3q (ext:=[8,1,7]) (ws:=[.ptr 0 0,.ptr 1 0]) O O O O O (pay2_no x hx t' n1 t1 hT Xd) Xq Yb (by simp[QRq]) (jUq ⟨⟨by decide,rfl,_,rfl,by first|rfl|(rw[zmq Xk];rfl)⟩,⟨by decide,zfq Xk,_,rfl,by first|rfl|(rw[zmq Xk];rfl)⟩,⟨by decide,zfq Xk,_,rfl,by first|rfl|(rw[zmq Xk];rfl)⟩,trivial⟩) O ?_);rintro w hp1 nw1 ⟨t2,n2,t3,h2,hP2,rfl,rfl,rfl⟩)
    refine zaq 7 O ?_;refine qoq Xj ?_;refine zCq 2 O ?_;refine q_goto O ?_;refine zjq 16 O ?_;refine xxq Yw ?_;refine kiq (w':=.tup [tW tb,.int .i64 151,.int .i64 0]) (.inr rfl) rfl (.pur Xk) Xk ⟨tb,nb,tb0,hb,?_,?_⟩
    ·rw[Q9q ho hm];exact⟨hPb.1.trans e0.symm,hmb⟩
    ·rw[Q9q ho hm];rfl
  ·obtain⟨ho,hst⟩:=hst;have ec:=uKq hT.toIsT box;by_cases hq:(y7q t1 box).balance+x.fee<18446744073709551616
   ·have hm:qGq t1.all box x.fee=some (setL t1.all box ⟨(y7q t1 box).nonce,(y7q t1 box).balance+x.fee⟩):=by unfold qGq;rw[<-ec,if_pos hq]
    refine zeq 6 O ?_;first|refine zbq rfl (zBq O O O O O O O Xl) ?_|refine zbq rfl (zLq O O O O O O O Xd) ?_|refine zbq rfl (zsq O O O O O O Xd) ?_|refine zbq O O ?_
    refine zaq 16 O ?_
    (refine zrq rfl (y3q (ext:=[8,2,1,7]) (ws:=[.ptr 0 0,.ptr 1 0,.ptr 2 0]) O O O O O (pay3_st x box t' n1 t1 hT Xd hq) Xq Yb (by simp[QQq]) (jUq ⟨⟨by decide,rfl,_,rfl,by first|rfl|(rw[zmq Xk];rfl)⟩,⟨by decide,zfq Xk,_,rfl,by first|rfl|(rw[zmq Xk];rfl)⟩,⟨by decide,zfq Xk,_,rfl,by first|rfl|(rw[zmq Xk];rfl)⟩,⟨by decide,zfq Xk,_,rfl,by first|rfl|(rw[zmq Xk];rfl)⟩,trivial⟩) O ?_);rintro w hp1 nw1 ⟨t2,n2,t3,h2,hP2,rfl,rfl,rfl⟩)
    refine zaq 8 O ?_;first|refine yzq O O ⟨by omega,by omega⟩ ?_|refine zbq O O ?_
    refine yyq 2 O ?_;skip
    exact ywq (3,t2) ⟨by omega,n2,t3,h2,Qaq (Klq hms hP2.2) Xd,⟨ho,_,hst,by rw[hP2.1];exact hm⟩⟩ (by show 3-3<3-2;omega) (qmq (nw2:=10) (Nat.zero_le _) Xd ⟨rfl,rfl,rfl,rfl,rfl,rfl,trivial⟩ rfl (qtq ⟨⟨by omega,Xp,zfq Xk⟩,⟨by omega,Xp,zfq Xk⟩,⟨by omega,Xp,zfq Xk⟩,⟨by omega,Xp,rfl⟩,⟨by omega,Xp,zfq Xk⟩,⟨by omega,Xp,rfl⟩,⟨by omega,Xp,zfq Xk⟩,⟨by omega,Xp,rfl⟩,⟨by omega,Xp,rfl⟩,trivial⟩) (by simp[payH]))
   ·have hm:qGq t1.all box x.fee=none:=by unfold qGq;rw[<-ec,if_neg hq]
    refine zeq 6 O ?_;first|refine zbq rfl (zBq O O O O O O O Xl) ?_|refine zbq rfl (zLq O O O O O O O Xd) ?_|refine zbq rfl (zsq O O O O O O Xd) ?_|refine zbq O O ?_
    refine zaq 16 O ?_
    (refine zrq rfl (y3q (ext:=[8,2,1,7]) (ws:=[.ptr 0 0,.ptr 1 0,.ptr 2 0]) O O O O O (pay3_no x hx box t' n1 t1 hT Xd) Xq Yb (by simp[QQq]) (jUq ⟨⟨by decide,rfl,_,rfl,by first|rfl|(rw[zmq Xk];rfl)⟩,⟨by decide,zfq Xk,_,rfl,by first|rfl|(rw[zmq Xk];rfl)⟩,⟨by decide,zfq Xk,_,rfl,by first|rfl|(rw[zmq Xk];rfl)⟩,⟨by decide,zfq Xk,_,rfl,by first|rfl|(rw[zmq Xk];rfl)⟩,trivial⟩) O ?_);rintro w hp1 nw1 ⟨t2,n2,t3,h2,hP2,rfl,rfl,rfl⟩)
    refine zaq 7 O ?_;refine qoq Xj ?_;refine zCq 2 O ?_;refine q_goto O ?_;refine zjq 16 O ?_;refine xxq Yw ?_;refine kiq (w':=.tup [tW tb,.int .i64 151,.int .i64 0]) (.inr rfl) rfl (.pur Xk) Xk ⟨tb,nb,tb0,hb,?_,?_⟩
    ·rw[Q8q ho hst hm];exact⟨hPb.1.trans e0.symm,hmb⟩
    ·rw[Q8q ho hst hm];rfl
 ·have hi3:i=3:=by omega
  subst hi3;obtain⟨ho,p,hp1,hp2⟩:=hst;refine zeq 2 O ?_;refine qoq Xj ?_;refine zCq 16 O ?_;refine xxq Yw ?_;refine kiq (w':=.tup [tW t',.int .i64 0,.int .i64 0]) (.inr rfl) rfl (.pur Xk) Xk ⟨t',n1,t1,hT,?_,?_⟩
  ·rw[Q7q ho hp1 hp2];exact⟨rfl,Qaq hms Xd⟩
  ·rw[Q7q ho hp1 hp2];rfl
end
section
attribute [local irreducible] CoW OpW FlW Step Spec
variable {G:Nat->Option W}
theorem kwq(p:Pr)(l:List Pr):sumB (p::l)=bal p+sumB l:=by simp[sumB]
theorem sumB_app(l r:List Pr):sumB (l++r)=sumB l+sumB r:=by simp[sumB]
theorem sumB_two(k:Dig):∀l:List Pr,sumB (l.filter fun p=>z2q p.1 k)+sumB (l.filter fun p=>z2q k p.1)=sumB (zKq l k)
 |[]=>rfl
 |p::l=>by
  have ih:=sumB_two k l;simp only[zKq] at ih⊢;by_cases e:p.1=k
  ·have h1:z2q p.1 k=false:=by rw[e];exact jZq k
   have h2:z2q k p.1=false:=by rw[e];exact jZq k
   rw[List.filter_cons_of_neg (by rw[h1];exact Bool.false_ne_true),List.filter_cons_of_neg (by rw[h2];exact Bool.false_ne_true),List.filter_cons_of_neg (by simp[e])];exact ih
  ·rw[List.filter_cons_of_pos (p:=fun p:Pr=>decide (p.1≠k)) (by simp[e]),kwq];rcases vlq e with h|h
   ·rw[List.filter_cons_of_pos (p:=fun p:Pr=>z2q p.1 k) h,List.filter_cons_of_neg (by rw[qCq h];exact Bool.false_ne_true),kwq];omega
   ·rw[List.filter_cons_of_neg (p:=fun p:Pr=>z2q p.1 k) (by rw[qCq h];exact Bool.false_ne_true),List.filter_cons_of_pos (p:=fun p:Pr=>z2q k p.1) h,kwq];omega
theorem sumB_with(l:List Pr)(k:Dig)(v:List UInt8):sumB (kuq l k v)=sumB (zKq l k)+bal (k,v):=by
 have h:=sumB_two k l;unfold kuq;rw[sumB_app,kwq];show sumB (l.filter fun p=>z2q p.1 k)+(bal (k,v)+sumB (l.filter fun p=>z2q k p.1))=_;rw[<-h];omega
def optB(k:Dig):Option (List UInt8) ->Nat
 |none=>0
 |some v=>bal (k,v)
theorem Q1q(k:Dig):∀l:List Pr,Srt l->sumB l=sumB (zKq l k)+optB k (jqq l k)
 |[],_=>rfl
 |p::l,hs=>by
  obtain⟨h1,h2⟩:=List.pairwise_cons.1 hs;by_cases e:p.1=k
  ·have hno:∀q∈l,q.1≠k:=fun q hq=>by rw[<-e];exact(xSq (h1 q hq)).symm
   have h3:zKq (p::l) k=l:=by
    have:=jAq hno;simp only[zKq] at this⊢;rw[List.filter_cons_of_neg (by simp[e]),this]
   have h4:jqq (p::l) k=some p.2:=by simp[jqq,List.find?_cons,e]
   rw[h3,h4,kwq];simp only[optB];have:bal (k,p.2)=bal p:=rfl;omega
  ·have ih:=Q1q k l h2;have h3:zKq (p::l) k=p::zKq l k:=by simp only[zKq];rw[List.filter_cons_of_pos (by simp[e])]
   have h4:jqq (p::l) k=jqq l k:=by simp[jqq,List.find?_cons,e]
   rw[h3,h4,kwq,kwq];omega
end
theorem acL_ok(l:List Pr)(k:Dig):(acL l k).ok:=by
 unfold acL;split
 ·exact JRq _
 ·exact⟨Nat.zero_lt_succ _,Nat.zero_lt_succ _⟩
theorem ZCq{l:List Pr}(h:Srt l){a:Acct}(ha:a.ok)(k j:Dig):acL (setL l k a) j=if j=k then a else acL l j:=by
 unfold acL setL;by_cases hz:a= .zero
 ·rw[if_pos hz,Kkq h];by_cases e:j=k
  ·rw[if_pos e,if_pos e];exact hz.symm
  ·rw[if_neg e,if_neg e]
 ·rw[if_neg hz,findL_with h];by_cases e:j=k
  ·rw[if_pos e,if_pos e];simp only;rw[Ziq a ha hz]
  ·rw[if_neg e,if_neg e]
theorem uTq{l:List Pr}(h:Srt l)(k:Dig)(a:Acct):Srt (setL l k a):=by
 unfold setL;split
 ·exact ZIq h k
 ·exact Ysq h k _
theorem sum_set{l:List Pr}(h:Srt l){a:Acct}(ha:a.ok)(k:Dig):sumB (setL l k a)+(acL l k).balance=sumB l+a.balance:=by
 have e:(acL l k).balance=optB k (jqq l k):=by
  unfold acL;cases jqq l k<;>rfl
 have hs:=Q1q k l h;unfold setL;by_cases hz:a= .zero
 ·rw[if_pos hz,hz];show _=_+0;omega
 ·rw[if_neg hz,sumB_with];have:bal (k,qTq a)=a.balance:=by unfold bal;rw[Ziq a ha hz]
  omega
theorem u4q{p q:List Pr}{k:Dig}{c:Nat}(h:Srt p)(hm:qGq p k c=some q):Srt q/\(∀j,j≠k->acL q j=acL p j)/\(∀j,(acL q j).nonce=(acL p j).nonce)/\sumB q=sumB p+c:=by
 unfold qGq at hm;split at hm
 ·rename_i hb;cases hm;have ha:Acct.ok ⟨(acL p k).nonce,(acL p k).balance+c⟩:=⟨(acL_ok p k).1,hb⟩;refine⟨uTq h k _,fun j hj=>by rw[ZCq h ha,if_neg hj],fun j=>?_,?_⟩
  ·rw[ZCq h ha];by_cases e:j=k
   ·rw[if_pos e,e]
   ·rw[if_neg e]
  ·have:=sum_set h ha k;simp only at this;omega
 ·cases hm
theorem nude_ok{l:List Pr}(x:Tx)(h:Srt l)(hn:(acL l (keyD x.pub)).nonce+1<18446744073709551616):Srt (j4q l x)/\(∀j,j≠keyD x.pub->acL (j4q l x) j=acL l j)/\acL (j4q l x) (keyD x.pub)=⟨(acL l (keyD x.pub)).nonce+1,(acL l (keyD x.pub)).balance⟩/\sumB (j4q l x)=sumB l:=by
 have ha:Acct.ok ⟨(acL l (keyD x.pub)).nonce+1,(acL l (keyD x.pub)).balance⟩:=⟨hn,(acL_ok l _).2⟩;unfold j4q;refine⟨uTq h _ _,fun j hj=>by rw[ZCq h ha,if_neg hj],by rw[ZCq h ha,if_pos rfl],?_⟩;have:=sum_set h ha (keyD x.pub);simp only at this;omega
theorem less_ok{l:List Pr}(x:Tx)(h:Srt l)(hn:(acL l (keyD x.pub)).nonce+1<18446744073709551616)(ho:x.amount+x.fee<=(acL l (keyD x.pub)).balance):Srt (j5q l x)/\(∀j,j≠keyD x.pub->acL (j5q l x) j=acL l j)/\acL (j5q l x) (keyD x.pub)=⟨(acL l (keyD x.pub)).nonce+1,(acL l (keyD x.pub)).balance-(x.amount+x.fee)⟩/\sumB (j5q l x)+(x.amount+x.fee)=sumB l:=by
 obtain⟨n1,n2,n3,n4⟩:=nude_ok x h hn;have hb:=(acL_ok l (keyD x.pub)).2;have ha:Acct.ok ⟨(acL l (keyD x.pub)).nonce+1,(acL l (keyD x.pub)).balance-(x.amount+x.fee)⟩:=⟨hn,by show _-_<_;omega⟩;unfold j5q;refine⟨uTq n1 _ _,fun j hj=>by rw[ZCq n1 ha,if_neg hj];exact n2 j hj,by rw[ZCq n1 ha,if_pos rfl],?_⟩;have:=sum_set n1 ha (keyD x.pub);rw[n3,n4] at this;simp only at this;omega
theorem paid_ok{l:List Pr}(x:Tx)(box:Dig)(h:Srt l)(hn:(acL l (keyD x.pub)).nonce+1<18446744073709551616):(∀j,j≠keyD x.pub->j≠x.to->j≠box->acL (yYq l x box).1 j=acL l j)/\(acL (yYq l x box).1 (keyD x.pub)).nonce=(acL l (keyD x.pub)).nonce+1/\sumB (yYq l x box).1=sumB l:=by
 obtain⟨n1,n2,n3,n4⟩:=nude_ok x h hn;have nude:(∀j,j≠keyD x.pub->j≠x.to->j≠box->acL (j4q l x) j=acL l j)/\(acL (j4q l x) (keyD x.pub)).nonce=(acL l (keyD x.pub)).nonce+1/\sumB (j4q l x)=sumB l:=⟨fun j hj _ _=>n2 j hj,by rw[n3],n4⟩;by_cases ho:x.amount+x.fee<=(acL l (keyD x.pub)).balance
 ·obtain⟨l1,l2,l3,l4⟩:=less_ok x h hn ho;cases h1:qGq (j5q l x) x.to x.amount with
  |none=>rw[Q9q ho h1];exact nude
  |some p=>
   obtain⟨p1,p2,p3,p4⟩:=u4q l1 h1;cases h2:qGq p box x.fee with
   |none=>rw[Q8q ho h1 h2];exact nude
   |some q=>
    obtain⟨q1,q2,q3,q4⟩:=u4q p1 h2;rw[Q7q ho h1 h2];refine⟨fun j hj ht hb=>?_,?_,?_⟩
    ·rw[q2 j hb,p2 j ht,l2 j hj]
    ·rw[q3,p3,l3]
    ·show sumB q=sumB l;omega
 ·rw[uBq ho];exact nude
noncomputable def gvL(l:List Pr)(d:Depo):List Pr×Nat:=match qGq l d.to d.amount with
 |some q=>(q,0)
 |none=>(l,151)
theorem giv_gv{t:Tree}{n:Nat}{t0:T}(h:IsT t n t0)(d:Depo):givL t0 d=(gvL t0.all d).1/\givC t0 d=(gvL t0.all d).2:=by
 have e:=uKq h d.to;by_cases ho:overB t0 d
 ·have hn:¬(acL t0.all d.to).balance+d.amount<18446744073709551616:=by rw[<-e];unfold overB at ho;omega
  unfold givL givC gvL qGq;rw[if_pos ho,if_pos ho,if_neg hn];exact⟨rfl,rfl⟩
 ·have hn:(acL t0.all d.to).balance+d.amount<18446744073709551616:=by rw[<-e];unfold overB at ho;omega
  unfold givL givC gvL qGq;rw[if_neg ho,if_neg ho,if_pos hn,e];exact⟨rfl,rfl⟩
structure Rec where
 kind:UInt8
 id:Dig
 code:Nat
noncomputable def depD(d:Depo):Dig:=tagD 9 [beB 8 d.number++d.to.1++beB 8 d.amount]
noncomputable def idD(x:Tx):Dig:=tagD 5 [qdq x++x.sign.1]
noncomputable def doD:List Pr->List Depo->List Pr×List Rec
 |l,[]=>(l,[])
 |l,d::ds=>((doD (gvL l d).1 ds).1,⟨1,depD d,(gvL l d).2⟩::(doD (gvL l d).1 ds).2)
def goX(l:List Pr)(x:Tx):Prop:=x.sign=xZq x/\x.nonce=(acL l (keyD x.pub)).nonce/\x.nonce<18446744073709551615
noncomputable instance(l:List Pr)(x:Tx):Decidable (goX l x):=Classical.propDecidable _
noncomputable def doX(box:Dig):List Pr->List Tx->Option (List Pr×List Rec)
 |l,[]=>some (l,[])
 |l,x::xs=>if goX l x then(match doX box (yYq l x box).1 xs with
   |some r=>some (r.1,⟨2,idD x,(yYq l x box).2⟩::r.2)
   |none=>none) else none
theorem doD_app:∀(ds es:List Depo) (l:List Pr),doD l (ds++es)=((doD (doD l ds).1 es).1,(doD l ds).2++(doD (doD l ds).1 es).2)
 |[],es,l=>rfl
 |d::ds,es,l=>by
  show((doD (gvL l d).1 (ds++es)).1,_::(doD (gvL l d).1 (ds++es)).2)=_;rw[doD_app ds es];rfl
theorem doX_app(box:Dig):∀(xs ys:List Tx) (l:List Pr),doX box l (xs++ys)=match doX box l xs with
  |some r=>(match doX box r.1 ys with
   |some q=>some (q.1,r.2++q.2)
   |none=>none)
  |none=>none
 |[],ys,l=>by
  show doX box l ys=match doX box l ys with
   |some q=>some (q.1,[]++q.2)
   |none=>none
  cases doX box l ys<;>rfl
 | x ::xs,ys,l=>by
  by_cases h:goX l x
  ·have e1:doX box l ((x::xs)++ys)=(match doX box (yYq l x box).1 (xs++ys) with
       |some r=>some (r.1,⟨2,idD x,(yYq l x box).2⟩::r.2)
       |none=>none):=if_pos h
   have e2:doX box l (x::xs)=(match doX box (yYq l x box).1 xs with
     |some r=>some (r.1,⟨2,idD x,(yYq l x box).2⟩::r.2)
     |none=>none):=if_pos h
   rw[e1,e2,doX_app box xs ys];cases doX box (yYq l x box).1 xs with
   |none=>rfl
   |some r=>
    simp only;cases doX box r.1 ys<;>rfl
  ·have e1:doX box l ((x::xs)++ys)=none:=if_neg h;have e2:doX box l (x::xs)=none:=if_neg h;rw[e1,e2]
theorem gv_ok{l:List Pr}(h:Srt l)(d:Depo):Srt (gvL l d).1/\sumB (gvL l d).1=sumB l+(if (gvL l d).2=0 then d.amount else 0):=by
 unfold gvL;cases e:qGq l d.to d.amount with
 |none=>exact⟨h,rfl⟩
 |some q=>
  obtain⟨h1,_,_,h4⟩:=u4q h e;exact⟨h1,by simp only[if_true];exact h4⟩
def givS:List Depo->List Rec->Nat
 |d::ds,r::rs=>(if r.code=0 then d.amount else 0)+givS ds rs
 |_,_=>0
theorem doD_ok:∀{ds:List Depo} {l:List Pr},Srt l->Srt (doD l ds).1/\sumB (doD l ds).1=sumB l+givS ds (doD l ds).2/\(doD l ds).2.length=ds.length
 |[],l,h=>⟨h,rfl,rfl⟩
 |d::ds,l,h=>by
  obtain⟨h1,h2⟩:=gv_ok h d;obtain⟨h3,h4,h5⟩:=doD_ok (ds:=ds) h1;refine⟨h3,?_,by show _+1=_+1;rw[h5]⟩;show sumB (doD (gvL l d).1 ds).1=sumB l+((if (gvL l d).2=0 then d.amount else 0)+givS ds (doD (gvL l d).1 ds).2);omega
theorem paid_srt{l:List Pr}(x:Tx)(box:Dig)(h:Srt l)(hn:(acL l (keyD x.pub)).nonce+1<18446744073709551616):Srt (yYq l x box).1:=by
 obtain⟨n1,_⟩:=nude_ok x h hn;by_cases ho:x.amount+x.fee<=(acL l (keyD x.pub)).balance
 ·obtain⟨l1,_⟩:=less_ok x h hn ho;cases h1:qGq (j5q l x) x.to x.amount with
  |none=>rw[Q9q ho h1];exact n1
  |some p=>
   obtain⟨p1,_⟩:=u4q l1 h1;cases h2:qGq p box x.fee with
   |none=>rw[Q8q ho h1 h2];exact n1
   |some q=>rw[Q7q ho h1 h2];exact(u4q p1 h2).1
 ·rw[uBq ho];exact n1
theorem doX_ok(box:Dig):∀{xs:List Tx} {l:List Pr} {r:List Pr×List Rec},Srt l->doX box l xs=some r->Srt r.1/\sumB r.1=sumB l/\r.2.length=xs.length
 |[],l,r,h,e=>by
  cases e;exact⟨h,rfl,rfl⟩
 |x::xs,l,r,h,e=>by
  by_cases hg:goX l x
  ·have e1:doX box l (x::xs)=(match doX box (yYq l x box).1 xs with
       |some r=>some (r.1,⟨2,idD x,(yYq l x box).2⟩::r.2)
       |none=>none):=if_pos hg
   rw[e1] at e;have hn:(acL l (keyD x.pub)).nonce+1<18446744073709551616:=by have:=hg.2;omega
   cases e2:doX box (yYq l x box).1 xs with
   |none=>rw[e2] at e;cases e
   |some q=>
    rw[e2] at e;cases e;obtain⟨h3,h4,h5⟩:=doX_ok box (paid_srt x box h hn) e2;have h6:=(paid_ok x box h hn).2.2;exact⟨h3,by show sumB q.1=_;omega,by show _+1=_+1;rw[h5]⟩
  ·have e1:doX box l (x::xs)=none:=if_neg hg;rw[e1] at e;cases e
section
attribute [local irreducible] CoW OpW FlW Step Spec
variable {G:Nat->Option W}
structure Hdr where
 height:Int
 parent:Dig
 state:Dig
 rows:Dig
 many:Int
noncomputable def hdW(h:Hdr):W:=.agg 98 [.int .i64 h.height,dW h.parent,dW h.state,dW h.rows,.int .i64 h.many]
@[simp] theorem J9q(h:Hdr):purW (hdW h)=true:=by simp[hdW]
theorem xfq{C:Cfg}{hp:HpW}{nw:Nat}{ts tx e ty:TypeId}{j k:TyI}{x:W}{b n:Nat}{L M:List UInt8}(hj:C.ty ts=some j)(hd:j.d= .slice e)(hk:C.ty e=some k)(h1:k.size=1)(h2:k.bytes=1)(ht:Nat.beq ty e=true)(hs:srcW C hp tx 1 x=some (zdq M))(hg:hget hp b=some (ty,.arr (n*1) 1 (zdq L)))(hn:L.length=n)(hM:0<M.length)(hb:n+M.length<=1000000000):appW C hp nw ts tx (.sl b 0 0 n 1 none) x=some (.sl nw 0 0 (L++M).length 1 none,(nw,e,.arr ((L++M).length*1) 1 (zdq (L++M)))::hdel hp b,nw+1,.updO b):=by
 have hl:(zdq M).length=M.length:=ziq M;have q:=qxq (C:=C) (hp:=hp) (nw:=nw) (ts:=ts) (tx:=tx) (e:=e) (ty:=ty) (j:=j) (k:=k) (x:=x) (b:=b) (base:=0) (off:=0) (len:=n) (v:=.arr (n*1) 1 (zdq L)) (news:=zdq M) (olds:=zdq L) hj hd hk (by rw[h1];rfl) (by rw[h1];exact hs) (fun h=>by rw[h] at hl;simp at hl;omega) (by rw[hl,h2];omega) (by rw[hl];omega) hg (by rw[hl,h1];show n*1<_;omega) ht (by rw[h1];exact zpq Xq (by rw[ziq];exact hn.symm) rfl);rw[h1,hl,<-y6q] at q;rw[List.length_append,hn];exact q
theorem app_b0{C:Cfg}{hp:HpW}{nw:Nat}{ts tx e:TypeId}{j k:TyI}{x:W}{M:List UInt8}(hj:C.ty ts=some j)(hd:j.d= .slice e)(hk:C.ty e=some k)(h1:k.size=1)(h2:k.bytes=1)(hs:srcW C hp tx 1 x=some (zdq M))(hM:0<M.length)(hb:M.length<=1000000000):appW C hp nw ts tx .nils x=some (.sl nw 0 0 M.length 1 none,(nw,e,.arr (M.length*1) 1 (zdq M))::hp,nw+1,.gen):=by
 have hl:(zdq M).length=M.length:=ziq M;have q:=kNq (C:=C) (hp:=hp) (nw:=nw) (ts:=ts) (tx:=tx) (e:=e) (j:=j) (k:=k) (x:=x) (news:=zdq M) hj hd hk (by rw[h1];rfl) (by rw[h1];exact hs) (fun h=>by rw[h] at hl;simp at hl;omega) (by rw[hl,h2];omega) (by rw[hl];omega);rw[h1,hl] at q;exact q
def okH(h:Hdr):Prop:=0<=h.height/\h.height<=1073741824/\0<=h.many/\h.many<=256
noncomputable instance(h:Hdr):Decidable (okH h):=Classical.propDecidable _
theorem Yzq(h:Hdr):PS cfg G 98 [hdW h] (.bool (decide (okH h))):=by
 refine zFq (fn:=Tryz.f98) O O O (Ob rfl) (fun R k0=>?_);refine zjq 10 O ?_;refine yZq O O (fun h1=>?_) (fun h1=>?_)
 ·refine zaq 3 O ?_;refine yZq O O (fun h2=>?_) (fun h2=>?_)
  ·refine zaq 4 O ?_;refine yZq O O (fun h3=>?_) (fun h3=>?_)
   ·refine zaq 4 O ?_;refine yVq O O ?_;refine zaq 5 O ?_;exact zhq (.inr rfl) rfl Xz
   ·refine zaq 10 O ?_;exact zhq (.inr rfl) rfl Xz
  ·refine zaq 15 O ?_;exact zhq (.inr rfl) rfl Xz
 ·refine zaq 19 O ?_;exact zhq (.inr rfl) rfl Xz
end
end
section
open Go.Shelf Go.RowKit Go.Lib
def joinRen:Go.Shelf.Ren:=⟨fun|14=>264|15=>280|n=>n,fun|26=>52|22=>53|3=>3|4=>4|0=>0|9=>9|20=>20|5=>5|n=>n,fun|n=>n⟩
theorem joinLays:Go.Proofs.SlLaysJ.n14 Tryz.prog joinRen:={
 mixed:=by kernel_rfl
 f14:=Tryz.func264.trans (congrArg some Xw)
 f15:=Tryz.func280.trans (congrArg some Xw)
 t0:=Tryz.underlying0
 a0:=Tryz.isAgg0
 z0:=Tryz.sizeOf0
 v0:=Tryz.zeroValue0
 t3:=Tryz.underlying3
 a3:=Tryz.isAgg3
 z3:=Tryz.sizeOf3
 v3:=Tryz.zeroValue3
 t4:=Tryz.underlying4
 a4:=Tryz.isAgg4
 z4:=Tryz.sizeOf4
 v4:=Tryz.zeroValue4
 t9:=Tryz.underlying9
 a9:=Tryz.isAgg9
 z9:=Tryz.sizeOf9
 v9:=Tryz.zeroValue9
 t20:=Tryz.underlying20
 a20:=Tryz.isAgg20
 z20:=Tryz.sizeOf20
 v20:=Tryz.zeroValue20
 t22:=Tryz.underlying53
 a22:=Tryz.isAgg53
 z22:=Tryz.sizeOf53
 v22:=Tryz.zeroValue53
 t26:=Tryz.underlying52
 a26:=Tryz.isAgg52
 z26:=Tryz.sizeOf52
 v26:=Tryz.zeroValue52
 t5:=Tryz.underlying5
 z5:=Tryz.sizeOf5
 i5:=by kernel_rfl}
theorem joinMany(b o n c:Nat)(vs:List Value)(ls:List (List UInt8))(sv:Value)(sep:List UInt8)(w:World)(hn:ls.length=n)(h2:2<=n)(hP:Lib.PartsAt w ⟨b,o,none⟩ vs ls)(hcap:n<=c)(hS:Lib.HoldsBytes w sv sep)(hn47:n<=140737488355328)(hlen:Lib.lens ls+sep.length*(n-1)<=140737488355328):
  Calls Tryz.prog 264 #[.slice (some ⟨b,o,none⟩) n c,sv] w fun e w'=>∃v',e= .returned v'/\Lib.FreshBytes w.heap.size w' v' (Lib.join ls sep)/\Below w.heap.size w w':=Any.bytes_Join_many joinLays b o n c vs ls sv sep w hn h2 hP hcap hS hn47 hlen
end
section
open Go.RowKit
section
variable {s0:World} {U:Nat} {D:Nat->Prop} {ρ:Env} {h:Heap} {w w':World}
theorem Rel.pushAt(r:Rel s0 U D ρ h w)(hU:h.next+1<=U){b:Blk}{o:Obj}{q pre cap:Nat}(hq:w.heap.size<=q)(g:Below w.heap.size w w')(hn:w'.heap[q]? =some o)(hin:InB (DD D ρ) b)(hk:KnB (ρ.add h.next q pre cap) h.next b o):
  Rel s0 U (fun i=>D i\/i=h.next) (ρ.add h.next q pre cap) (h.push b) w'/\Nxt D ρ h w (fun i=>D i\/i=h.next) (ρ.add h.next q pre cap) (h.push b) w':=by
 have hne:=r.next_new hU;have hag:Env.Agree (DD D ρ) ρ (ρ.add h.next q pre cap):=Env.add_agree hne;have hdd:∀j m,DD D ρ j m->DD (fun i=>D i\/i=h.next) (ρ.add h.next q pre cap) j m:=fun j m hj=>⟨.inl hj.1,by rw[(hag j m hj).2.2.1];exact hj.2⟩
 have hb:∀j,D j->(ρ.add h.next q pre cap).b j=ρ.b j:=fun j hj=>(hag j 0 ⟨hj,Nat.zero_le _⟩).1
 have hbn:(ρ.add h.next q pre cap).b h.next=q:=by simp[Env.add]
 have get:∀j c,(D j\/j=h.next) ->(h.push b).get j=some c->(j=h.next/\c=b)\/(D j/\h.get j=some c):=fun j c hj hc=>by
  rw[Heap.get_push] at hc;split at hc
  ·rename_i e;cases hc;exact .inl ⟨e,rfl⟩
  ·rename_i e;rcases hj with hj|hj
   ·exact .inr ⟨hj,hc⟩
   ·exact absurd hj e
 have hlt:∀j c,D j->h.get j=some c->ρ.b j<w.heap.size:=fun j c hj hc=>by
  obtain⟨o,h1,_⟩:=r.has j c hj hc;exact(Array.getElem?_eq_some_iff.1 h1).1
 have hsz:s0.heap.size<=w.heap.size:=r.base.size;refine⟨⟨fun j hj=>?_,fun j hj=>?_,fun j c hj hc=>?_,fun j c hj hc=>?_,fun j k c d hj hk' hc hd hoc hod hne'=>?_,fun j c hj hc hoc=>?_,fun j k c d hj hk' hc hd hoc hod=>?_,?_⟩,?_⟩
 ·show j<h.next+1\/_;rcases hj with hj|hj
  ·have:=r.lt j hj;omega
  ·omega
 ·have hj:h.next+1<=j:=hj;rw[Heap.get_push,if_neg Xd];exact r.wf j Xd
 ·rcases get j c hj hc with ⟨rfl,rfl⟩|⟨hj,hc⟩
  ·exact⟨o,by rw[hbn];exact hn,hk⟩
  ·obtain⟨o,h1,h2⟩:=r.has j c hj hc;exact⟨o,by rw[hb j hj,g.block _ (hlt j c hj hc)];exact h1,KnB.agree hag (m:=0) ⟨hj,Nat.zero_le _⟩ (r.clo j c hj hc) h2⟩
 ·rcases get j c hj hc with ⟨rfl,rfl⟩|⟨hj,hc⟩
  ·exact hin.mono hdd
  ·exact(r.clo j c hj hc).mono hdd
 ·rcases get j c hj hc with ⟨rfl,rfl⟩|⟨hj1,hc1⟩<;>rcases get k d hk' hd with ⟨rfl,rfl⟩|⟨hk1,hd1⟩
  ·exact absurd rfl hne'
  ·rw[hbn,hb k hk1];have:=hlt k d hk1 hd1;omega
  ·rw[hbn,hb j hj1];have:=hlt j c hj1 hc1;omega
  ·rw[hb j hj1,hb k hk1];exact r.inj j k c d hj1 hk1 hc1 hd1 hoc hod hne'
 ·rcases get j c hj hc with ⟨rfl,rfl⟩|⟨hj,hc⟩
  ·rw[hbn];omega
  ·rw[hb j hj];exact r.own j c hj hc hoc
 ·rcases get j c hj hc with ⟨rfl,rfl⟩|⟨hj1,hc1⟩<;>rcases get k d hk' hd with ⟨rfl,rfl⟩|⟨hk1,hd1⟩
  ·rw[hoc] at hod;cases hod
  ·rw[hbn,hb k hk1];have:=hlt k d hk1 hd1;omega
  ·rw[hbn,hb j hj1];have:=hlt j c hj1 hc1;omega
  ·rw[hb j hj1,hb k hk1];exact r.old j k c d hj1 hk1 hc1 hd1 hoc hod
 ·exact⟨g.os.trans r.base.os,g.tape.trans r.base.tape,g.output.trans r.base.output,Nat.le_trans hsz g.size,fun k hk=>(g.block k Xd).trans (r.base.block k hk)⟩
 ·refine⟨fun _ h=>.inl h,fun j hj=>?_,fun j hj=>?_,fun c hc _=>g.block c hc,fun j hj hn' hl=>?_,g.size,Nat.le_refl _,Nat.le_succ _,g.os,g.tape,g.output⟩
  ·rcases hj with hj|hj
   ·exact .inl hj
   ·exact .inr ⟨Nat.le_of_eq hj.symm,by show j<h.next+1;omega⟩
  ·have:j≠h.next:=by
    rcases hj with hj|hj
    ·omega
    ·have hj:h.next+1<=j:=hj;omega
   simp[Env.add,this]
  ·have hl:j<h.next+1:=hl;obtain rfl:j=h.next:=by omega
   exact .inl (by rw[hbn];exact hq)
theorem byJ_spec(r:Rel s0 U D ρ h w){v:V}{l:List UInt8}(hin:InD (DD D ρ) v)(hk:byJ h v=some l):Lib.HoldsBytes w (conc ρ v) l:=by
 unfold byJ at hk;split at hk
 ·cases hk;exact⟨none,0,rfl,fun _=>rfl,fun a h=>by cases h⟩
 ·rename_i b base off n lim;split at hk
  ·rename_i bv hv;split at hk
   ·rename_i L hL;obtain⟨g1,g2⟩:=ZSq ρ hk;obtain⟨q1,_,_,_⟩:=qXq (ρ:=ρ) 50 bv off n 1 L hL;have hcells:=xoq r hin hv hL;rw[g2] at hcells;obtain rfl:n=l.length:=by omega
    exact⟨_,_,rfl,fun h=>Qm,fun a ha i x hx=>by cases ha;exact hcells i _ (by simp[hx])⟩
   ·cases hk
  ·cases hk
 ·cases hk
theorem bysJ_spec(r:Rel s0 U D ρ h w):∀{xs:List V} {ls:List (List UInt8)},InDL (DD D ρ) xs->bysJ h xs=some ls->xs.length=ls.length/\(∀(i:Nat) v l,(yfq ρ xs)[i]? =some v->ls[i]? =some l->Lib.HoldsBytes w v l)/\∀x∈xs,x.size=1/\x.leaf=true
 |[],ls,_,hk=>by cases hk;exact⟨rfl,fun i v l h=>by simp[yfq] at h,fun x hx=>by cases hx⟩
 | v ::xs,ls,hin,hk=>by
  unfold bysJ at hk;split at hk
  ·rename_i x r' hx hr;cases hk;obtain⟨h1,h2,h3⟩:=bysJ_spec r hin.2 hr;refine⟨congrArg (· +1) h1,fun i u l hu hl=>?_,fun y hy=>?_⟩
   ·cases i with
    |zero=>
     simp only[yfq,List.getElem?_cons_zero,Option.some.injEq] at hu hl;subst hu;subst hl
     exact byJ_spec r hin.1 hx
    |succ i=>
     simp only[yfq,List.getElem?_cons_succ] at hu hl;exact h2 i u l hu hl
   ·rcases List.mem_cons.1 hy with rfl|hy
    ·unfold byJ at hx;split at hx
     ·exact⟨rfl,rfl⟩
     ·exact⟨rfl,rfl⟩
     ·cases hx
    ·exact h3 y hy
  ·cases hk
theorem inl_of{D:Nat->Nat->Prop}:∀{l:List V},(∀x∈l,InD D x) ->InDL D l
 |[],_=>trivial
 |x::l,h=>⟨h x (List.mem_cons_self ..),inl_of fun y hy=>h y (List.mem_cons_of_mem _ hy)⟩
theorem Jqq(ρ:Env):∀{xs:List V},(∀x∈xs,x.size=1/\x.leaf=true) ->zQq ρ 1 xs=yfq ρ xs
 |[],_=>rfl
 |x::xs,h=>by
  have hx:=(h x Xk).2;simp only[zQq,yfq,kIq hx,Jqq ρ (xs:=xs) fun y hy=>h y (by simp[hy])];rw[qnq (by rfl)];rfl
theorem join_flat:∀ls:List (List UInt8),Lib.join ls []=ls.flatten
 |[]=>rfl
 |x::r=>by
  rw[Lib.join_cons];unfold Lib.joinTail;simp
end
theorem joinOK{C:Cfg}:KnownFn Tryz.prog C 264 joinJ:=fun vs h v h' he=>by
 unfold joinJ at he;split at he
 ·rename_i b base off n lim y;split at he
  ·rename_i bv hv hy;split at he
   ·rename_i xs hxs;split at he
    ·rename_i ls hls;split at he
     ·rename_i hb;cases he;simp only[Bool.and_eq_true] at hb;obtain⟨⟨⟨hb1,hb2⟩,hb3⟩,hb4⟩:=hb;have hb1:=Ob hb1;have hb2:=Ob hb2;have hb3:=Ob hb3;have hb4:=Ob hb4;refine⟨y4q _ _,(fnsOK 264 _ (by rfl)).2.1,fun s0 U D ρ w hU gl hin rel=>?_⟩;have hU:h.next+1<=U:=hU;have hx:=hin.1;have hyi:=hin.2.1;obtain⟨g1,g2,g3,g4⟩:=qXq (ρ:=ρ) 50 bv off n 1 xs hxs;obtain⟨_,_,_,_,_,_,_,hvin⟩:=rel.val hx.2.2.1 hv;have hxin:InDL (DD D ρ) xs:=g4 _ hvin;obtain⟨k1,k2,k3⟩:=bysJ_spec rel (inl_of (Khq hxin)) hls;have hcells:=xoq rel hx hv hxs;rw[show zQq ρ 1 xs=yfq ρ (ytq 1 xs) by rw[<-Jqq ρ k3,kFq ρ 1 xs,Zyq ρ _ (vOq 1 xs)]] at hcells;have hge:=xpq hx;have hc0:¬yTq ρ b off 1 lim=0:=by omega
      rw[if_neg hc0] at hcells;have hP:Lib.PartsAt w ⟨ρ.b b,ρ.pre b+off,none⟩ (yfq ρ (ytq 1 xs)) ls:=⟨by rw[j7q,k1],hcells,k2⟩;have hS:=byJ_spec rel hyi hy;have hfl:(ytq 1 xs).length=xs.length:=by rw[ugq,Nat.mul_one]
      have hlens:Lib.lens ls=ls.flatten.length:=by simp[Lib.lens,List.length_flatten]
      have cj:=joinMany (ρ.b b) (ρ.pre b+off) n (yTq ρ b off 1 lim) (yfq ρ (ytq 1 xs)) ls (conc ρ y) [] w Xd hb1 hP hge hS hb2 (by rw[hlens,List.length_nil,Nat.zero_mul,Nat.add_zero];exact hb4)
      have harg:(yfq ρ [.sl b base off n 1 lim,y]).toArray= #[.slice (some ⟨ρ.b b,ρ.pre b+off,none⟩) n (yTq ρ b off 1 lim),conc ρ y]:=by
       simp[yfq,conc,y1q,hc0]
      rw[harg];refine cj.mono ?_;rintro e w' ⟨v',rfl,hfresh,hbel⟩;rw[join_flat] at hfresh;clear hlens cj;generalize ls.flatten=F at hfresh hb3 hb4⊢;obtain⟨g,cap,zs,rfl,hg,hlc,hmax,hzl,hzr,hzb,hcell,hfrz⟩:=hfresh
      have hobj:∃cs ty fz,w'.heap[g]? =some (.cells cs ty fz):=by
       have:=hcell 0 Xd;simp only[World.cell?] at this;split at this
       ·rename_i cs ty fz hh;exact⟨_,_,_,hh⟩
       ·cases this
      obtain⟨cs,ty,fz,hobj⟩:=hobj
      have hcs:∀i,i<cap->cs[i]? =some (.int .u8 (zs.getD i 0)):=fun i hi=>by
       have:=hcell i hi;simpa[World.cell?,hobj] using this
      have hval:∀i (hi:i<F.length),zs.getD i 0=(F[i].toNat:Int):=fun i hi=>by
       have hz:i<zs.length:=by omega
       have h1:=congrArg (·[i]?) hzb;simp only[Go.Lib.bytesOf,List.getElem?_map,List.getElem?_take,hi,if_true,List.getElem?_eq_getElem hz,Option.map_some,List.getElem?_eq_getElem hi,Option.some.injEq] at h1;obtain⟨q1,q2⟩:=hzr zs[i] (List.getElem_mem hz);rw[<-h1];simp[List.getD,List.getElem?_eq_getElem hz];omega
      have hcells2:cs.toList=cellsV ρ (.arr F.length 1 (qwq F))++cs.toList.drop F.length:=by
       have e:cellsV ρ (.arr F.length 1 (qwq F))=F.map fun b=>Value.int .u8 b.toNat:=by
        simp only[cellsV];rw[qnq (by rw[ygq];simp[qwq]),kJq]
       rw[e];apply List.ext_getElem?;intro i;by_cases hi:i<F.length
       ·rw[List.getElem?_append_left (by simpa using hi)];have:=hcs i Xd;rw[hval i hi] at this;simpa[List.getElem?_eq_getElem hi] using this
       ·rw[List.getElem?_append_right Xu,List.getElem?_drop];congr 1
        simp;omega
      have hinv:InD (DD D ρ) (.arr F.length 1 (qwq F)):=InDL_iff.2 fun y hy=>by obtain⟨c,_,rfl⟩:=List.mem_map.1 hy;trivial
      have hag:Env.Agree (DD D ρ) ρ (ρ.add h.next g 0 cap):=Env.add_agree (rel.next_new hU)
      obtain⟨r',n'⟩:=rel.pushAt hU (q:=g) (pre:=0) (cap:=cap) (b:=.ro (.arr F.length 1 (qwq F))) hg hbel hobj hinv ⟨[],cs.toList.drop F.length,ty,fz,by
       rw[qvq hag hinv,List.nil_append,<-hcells2],by simp[Env.add],by simp[Env.add];exact hlc⟩
      refine⟨_,_,?_,r',n',by omega,Nat.le_refl _,.inr rfl,?_⟩
      ·have:¬cap=0:=by omega
       simp[conc,y1q,yTq,Env.add,this]
      ·simp[Env.add];exact hlc
     ·cases he
    ·cases he
   ·cases he
  ·cases he
 ·cases he
theorem known0OK:ZEq Tryz.prog cfg:=fun f k hk=>by
 have hk:(match Nat.beq f 264 with|true=>some joinJ|false=>none)=some k:=hk;split at hk
 ·rename_i e;cases hk;have:=Nat.eq_of_beq_eq_true e;subst this;exact joinOK
 ·cases hk
section
section
variable {C:Cfg} {G:Nat->Option W} {o:Oper} {fr fr2:FrW} {hp:HpW} {nw:Nat} {R:Res} {post:W->HpW->Nat->Res->Option EvW->Prop}
theorem step_frzA(hf:subV (blkA hp) fr fr2)(h:Step C G o fr2 [] nw R fun w hp' nw' R' ev=>ev=some .gen/\post w hp' nw' R' ev):Step C G o fr hp nw R post:=fun Γ X frv hnw s f0=>by
 let Γ2:Ctx:=⟨Γ.nw,Γ.σ,fun c=>Γ.D c\/Owns Γ hp c,Γ.h⟩
 have le:Γ.Le Γ2:=⟨Nat.le_refl _,fun _ _=>rfl,fun _ h=>.inl h,fun _ _=>rfl⟩
 have q:Seen (blkA hp) Γ Γ2:=⟨fun _ h _=>h,fun _ _ _=>rfl,fun _ h=>.inl h,fun _ _=>rfl,fun b c _ h=>by
  unfold blkA at h;split at h
  ·rename_i ty c' hg;cases h;obtain⟨v,h1,h2,h3⟩:=kDq s hg;exact⟨.inr ⟨b,_,hg,rfl⟩,v,h2,h3⟩
  ·cases h⟩
 have s2:SatH C G Γ2 [] X R:=⟨s.wf,fun k ty' w hk=>by simp[hget] at hk,fun k k' x y hx=>by simp[hget] at hx,List.nodup_nil,fun d hd hX=>by
  rcases hd with h|⟨b,x,h,rfl⟩
  ·exact s.dX d h hX
  ·exact(s.own b x.1 x.2 h).2.2.1 hX,s.xlt,fun d hd=>by
  rcases hd with h|⟨b,x,h,rfl⟩
  ·exact s.dlt d h
  ·exact s.own_lt h,R.st _ _ _ _ _ s.res le.D le.val (fun _ _=>rfl) (Nat.le_refl _),s.gl.mono le⟩
 have a:Frm Γ.nw Γ hp X Γ2 [] X:=⟨fun _ _=>rfl,fun h=>h,Nat.le_refl _,fun _ _ _ _=>rfl,fun _ h=>.inl h,fun d hd=>by
  rcases hd with h|h
  ·exact .inl h
  ·exact .inr (.inl (.inl h)),fun k x hk h=>by simp[hget] at h,fun k x hk h=>by simp[hget] at h,fun _ h=>.inl h,fun _ h _ _=>h⟩
 obtain⟨n,w,hp',R',ev,v,h',Γ',X',⟨rfl,h1⟩,h2,⟨h3,h3'⟩,h4,h5,h6,h7,h8⟩:=h Γ2 X frv hnw s2 fun t w hw=>by
  obtain⟨w0,g1,g2⟩:=uyq hf t w hw;obtain⟨u,g3,g4⟩:=f0 _ _ g1;exact⟨u,g3,kUq q g2 g4⟩
 exact⟨n,w,hp',R',_,v,h',Γ',X',h1,h2,⟨h3,h3'⟩,h4,⟨h5.nw,h5.σ,fun c hc=>h5.D c (.inl hc),fun c hc=>h5.val c (.inl hc)⟩,h6,a.trans h7,h8⟩
end
attribute [local irreducible] CoW OpW FlW Step Spec
variable {G:Nat->Option W}
theorem hcheck_s(h:Hdr):PS cfg G 114 [hdW h] (.int .i64 (if okH h then 0 else 8)):=by
 refine zFq (fn:=Tryz.f114) O O O (Ob rfl) (fun R k0=>?_);refine zjq 11 O ?_;refine yZq O O (fun h1=>?_) (fun h1=>?_)
 ·refine zaq 25 O ?_;exact zhq (.inr rfl) rfl Yk
 ·refine zaq 3 O ?_;refine yZq O O (fun h2=>?_) (fun h2=>?_)
  ·refine zaq 21 O ?_;exact zhq (.inr rfl) rfl Yk
  ·refine zaq 4 O ?_;refine yZq O O (fun h3=>?_) (fun h3=>?_)
   ·refine zaq 16 O ?_;exact zhq (.inr rfl) rfl Yk
   ·refine zaq 4 O ?_;refine yVq O O ?_;refine zaq 3 O ?_;refine zyq rfl (fun h4=>?_) (fun h4=>?_)
    ·refine zeq 7 O ?_;exact zhq (.inr rfl) rfl Yk
    ·refine zeq 8 O ?_;exact zhq (.inr rfl) rfl Yk
theorem hnumber_s(n size:Nat)(hs:1<=size)(hs8:size<=8)(hn:n<256^size)(hn2:n<9223372036854775808):PS cfg G 221 [.int .i64 (n:Int),.int .i64 (size:Int)] (bW (beB size n)):=by
 refine q7q (fn:=Tryz.f221) O O O (Ob rfl) (fun R k0=>?_);refine zjq 8 O ?_;refine zlq (n) O O Xi ⟨by omega,by omega⟩ ?_;refine zbq O O ?_
 (refine zrq rfl (qKq O O O O O O (QPq n size hs hs8 hn) ?_);rintro w hp1 nw1 ⟨rfl,rfl,rfl⟩)
 refine zaq 14 O ?_;have hp:purW (.arr (size*1) 1 (zdq (beB size n)))=true:=y5q _;exact jrq (.inr rfl) rfl (.sl (full:=false) (c:=.arr (size*1) 1 (zdq (beB size n))) (xs:=zdq (beB size n)) (by show some (renW _ (W.arr (size*1) 1 (zdq (beB size n))))=_;rw[zmq hp]) hp (zpq Xq (by rw[ziq,yCq]) rfl) Xj)
theorem hjoin_s(ps:List (List UInt8))(f:Bool)(h2:2<=ps.length)(hn:ps.length<=140737488355328)(h1:1<=ps.flatten.length)(hb:ps.flatten.length<=140737488355328):PS cfg G 220 [.fz (ps.map bW) 1 f] (bW ps.flatten):=by
 refine zFq (fn:=Tryz.f220) O O O (Ob rfl) (fun R k0=>?_);refine zjq 8 O ?_;refine zkq O O O O O O (join_w rfl ps f h2 hn h1 hb) ?_;refine zaq 4 O ?_;exact zhq (.inr rfl) O O
def hdB(h:Hdr):List UInt8:=[beB 8 h.height.toNat,h.parent.1,h.state.1,h.rows.1,beB 4 h.many.toNat].flatten
theorem hdB_len(h:Hdr):(hdB h).length=108:=by simp[hdB,yCq,h.parent.2,h.state.2,h.rows.2]
theorem Zbq(d:Dig)(i:Nat):(((zdq d.1).drop (0/1)).take 32)=zdq d.1:=by
 have h:(zdq d.1).length=32:=by rw[ziq,d.2]
 rw[show 0/1=0 from rfl,List.drop_zero,List.take_of_length_le (by rw[h];omega)]
theorem hd_sub(h:Hdr):ySq 50 (hdW h) 1 32 1=some (zdq h.parent.1)/\ySq 50 (hdW h) 33 32 1=some (zdq h.state.1)/\ySq 50 (hdW h) 65 32 1=some (zdq h.rows.1):=
 ⟨congrArg some (Zbq h.parent 0),congrArg some (Zbq h.state 0),congrArg some (Zbq h.rows 0)⟩
theorem hbytes_no(h:Hdr)(hh:¬okH h):PS cfg G 163 [hdW h] (.tup [.nils,.int .i64 8]):=by
 refine zFq (fn:=Tryz.f163) O O O (Ob rfl) (fun R k0=>?_);refine zjq 11 O ?_;refine zkq O O O O O O (yrq (w':=.int .i64 8) (hcheck_s h) (by rw[if_neg hh])) ?_;refine zaq 19 O ?_;exact zhq (.inr rfl) O O
theorem hbytes_s(h:Hdr)(hh:okH h):PS cfg G 163 [hdW h] (.tup [bW (hdB h),.int .i64 0]):=by
 obtain⟨h1,h2,h3,h4⟩:=hh;obtain⟨a,ha⟩:∃a:Nat,h.height=a:=⟨h.height.toNat,by omega⟩
 obtain⟨m,hm⟩:∃m:Nat,h.many=m:=⟨h.many.toNat,by omega⟩
 have ea:h.height.toNat=a:=by omega
 have em:h.many.toNat=m:=by omega
 have hl:=hdB_len h;have c1:=hnumber_s (G:=G) a 8 Xd Xd (by show a<18446744073709551616;omega) Xd;have c2:=hnumber_s (G:=G) m 4 Xd Xd (by show m<4294967296;omega) Xd;rw[<-ha] at c1;rw[<-hm] at c2;rw[<-ea] at c1;rw[<-em] at c2;have hj:=hjoin_s (G:=G) [beB 8 h.height.toNat,h.parent.1,h.state.1,h.rows.1,beB 4 h.many.toNat] false Xk Xk Qf Qf;rw[show [beB 8 h.height.toNat,h.parent.1,h.state.1,h.rows.1,beB 4 h.many.toNat].flatten=hdB h from rfl] at hj;refine zFq (fn:=Tryz.f163) O O O (Ob rfl) (fun R k0=>?_);refine zjq 11 O ?_;refine zkq O O O O O O (yrq (w':=.int .i64 0) (hcheck_s h) (by rw[if_pos ⟨h1,h2,h3,h4⟩])) ?_;refine zaq 16 O ?_;refine yxq O O O O O O c1 ?_;refine zoq 8 O ?_;refine yxq O O O O O O c2 ?_;refine yOq O O ?_;refine yaq rfl (step_frzA (fr2:=[(22,.fz ([beB 8 h.height.toNat,h.parent.1,h.state.1,h.rows.1,beB 4 h.many.toNat].map bW) 1 false)]) ⟨⟨_,rfl,(.sl2 (full:=false) rfl (.arr (.cons (.pur Xk) (.cons (.sl (full:=false) (c:=hdW h) (xs:=zdq h.parent.1) rfl Xk (hd_sub h).1 Xj) (.cons (.sl (full:=false) (c:=hdW h) (xs:=zdq h.state.1) rfl Xk (hd_sub h).2.1 Xj) (.cons (.sl (full:=false) (c:=hdW h) (xs:=zdq h.rows.1) rfl Xk (hd_sub h).2.2 Xj) (.cons (.pur Xk) .nil)))))) rfl Xj)⟩,trivial⟩ (step_ps O O O O O hj Xk Xk ⟨rfl,by first|rfl|kernel_rfl,?_⟩));refine zoq 5 O ?_;exact zhq (.inr rfl) O O
noncomputable def hashD(h:Hdr):Dig:=tagD 6 [hdB h]
theorem hhash_no(h:Hdr)(hh:¬okH h):PS cfg G 91 [hdW h] (.tup [dW qHq,.int .i64 8]):=by
 refine zFq (fn:=Tryz.f91) O O O (Ob rfl) (fun R k0=>?_);refine zjq 10 O ?_;refine zkq O O O O O O (hbytes_no h hh) ?_;refine zaq 17 O ?_;refine zgq O O xMq ?_;refine zaq 7 O ?_;exact zhq (.inr rfl) O O
theorem J6q(h:Hdr)(hh:okH h):PS cfg glK 91 [hdW h] (.tup [dW (hashD h),.int .i64 0]):=by
 have hl:=hdB_len h;refine zFq (fn:=Tryz.f91) O O O (Ob rfl) (fun R k0=>?_);refine zjq 10 O ?_;refine zkq O O O O O O (hbytes_s h hh) ?_;refine zaq 21 O ?_;refine xBq O O O O O (by(repeat (first|exact .nil|refine .cons ?_ ?_|(refine .sl O ?_ rfl Xj;first|rfl|(focus (simp;done)))|(refine y9q O ?_ rfl;first|rfl|(focus (simp;done)))|(refine .pur ?_;first|rfl|(focus (simp;done)))))) (kbq 6 [hdB h] false Xk (by simp[hl])) Xn Xn ?_;refine zaq 5 O ?_;exact zhq (.inr rfl) O O
end
section
attribute [local irreducible] CoW OpW FlW Step Spec
variable {G:Nat->Option W}
theorem dep_sub(d:Depo):ySq 50 (pdW d) 1 32 1=some (zdq d.to.1):=congrArg some (Zbq d.to 0)
theorem sign_sub(x:Tx):ySq 50 (txW x) 67 32 1=some (zdq x.sign.1):=congrArg some (Zbq x.sign 0)
def depB(d:Depo):List UInt8:=beB 8 d.number++d.to.1++beB 8 d.amount
theorem depB_len(d:Depo):(depB d).length=48:=by simp[depB,yCq,d.to.2]
theorem rdepo_s(d:Depo)(h1:d.number<18446744073709551616)(h2:d.amount<18446744073709551616):PS cfg glK 107 [pdW d] (dW (depD d)):=by
 have l1:(zdq (beB 8 d.number)).length=8:=by rw[ziq,yCq]
 have l2:(zdq d.to.1).length=32:=by rw[ziq,d.to.2]
 have l3:(zdq (beB 8 d.amount)).length=8:=by rw[ziq,yCq]
 have eb:zdq (depB d)=(zdq (beB 8 d.number)++zdq d.to.1)++zdq (beB 8 d.amount):=by simp[depB,zdq]
 have hl:=depB_len d;refine zFq (fn:=Tryz.f107) O O O (Ob rfl) (fun R k0=>?_);refine zjq 10 O ?_
 ((refine zrq rfl (qKq O O O O O O (QPq _ 8 Xd Xd Ji) ?_);rintro w hp1 nw1 ⟨rfl,rfl,rfl⟩))
 refine zaq 11 O ?_
 ((refine zrq rfl (qKq O O O O O O (QPq _ 8 Xd Xd Ji) ?_);rintro w hp1 nw1 ⟨rfl,rfl,rfl⟩))
 refine zaq 12 O ?_;refine znq rfl (yoq O O (qxq (k:=ti5) (len:=8) (news:=zdq d.to.1) (olds:=zdq (beB 8 d.number)) O O O O (ymq O O O (dep_sub d)) Qu Qh Qh rfl (by show 8*1<0+(8+_)*1;rw[l2];decide) rfl (zpq Xq l1.symm rfl))) ?_;refine zbq O O (znq rfl (yoq O O (qxq (k:=ti5) (len:=8+(zdq d.to.1).length) (news:=zdq (beB 8 d.amount)) (olds:=zdq (beB 8 d.number)++zdq d.to.1) O O O O (ymq O O O (zpq Xq l3.symm rfl)) (by intro h;rw[h] at l3;cases l3) (by rw[l2,l3];decide) (by rw[l2,l3];decide) rfl (by show(8+_)*1<0+(_+_)*1;rw[l2,l3];decide) rfl (zpq Xq (by rw[List.length_append,l1]) rfl))) ?_);refine znq O O ?_;refine xBq O O O O O (.cons (.pur rfl) (.cons (.sl2 (full:=false) rfl (.arr (.cons (.sl (full:=false) (xs:=zdq (depB d)) rfl (show purL ((zdq (beB 8 d.number)++zdq d.to.1)++zdq (beB 8 d.amount))=true by rw[<-eb];simp) Qi Xj) .nil)) rfl Xj) .nil)) (kbq 9 [depB d] false Xk (by simp[hl])) Xn Xn ?_;refine zaq 4 O ?_;exact zhq (.inr rfl) O O
noncomputable def recW(r:Rec):W:=.agg 34 [.int .u8 (.ofNat r.kind.toNat),dW r.id,.int .i64 (r.code:Int)]
@[simp] theorem vxq(r:Rec):purW (recW r)=true:=by simp[recW]
def okR(r:Rec):Prop:=(r.kind=1\/r.kind=2)/\(r.code=0\/r.code=151\/(r.kind=2/\r.code=150))
theorem rcheck_s(r:Rec)(h:okR r):PS cfg G 108 [recW r] (.int .i64 0):=by
 obtain⟨k,d,c⟩:=r;obtain⟨hk,hc⟩:=h;simp only at hk hc;rcases hk with rfl|rfl
 ·have hc:c=0\/c=151:=by
   rcases hc with h|h|⟨h,_⟩
   ·exact .inl h
   ·exact .inr h
   ·exact absurd h Xq
  rcases hc with rfl|rfl
  ·skip
   refine zFq (fn:=Tryz.f108) O O O (Ob rfl) (fun R k0=>?_);refine zjq 27 O ?_;refine zgq (w':=.bool false) O O (congrArg W.bool Xh) ?_;refine zaq 8 O ?_;refine zgq (w':=.bool true) O O (congrArg W.bool Xh) ?_;refine zaq 16 O ?_;refine zgq (w':=.bool true) O O (congrArg W.bool Xh) ?_;refine zaq 28 O ?_;exact zhq (.inr rfl) O O
  ·skip
   refine zFq (fn:=Tryz.f108) O O O (Ob rfl) (fun R k0=>?_);refine zjq 27 O ?_;refine zgq (w':=.bool false) O O (congrArg W.bool Xh) ?_;refine zaq 8 O ?_;refine zgq (w':=.bool true) O O (congrArg W.bool Xh) ?_;refine zaq 16 O ?_;refine zgq (w':=.bool false) O O (congrArg W.bool Xh) ?_;refine zaq 4 O ?_;refine zgq (w':=.bool true) O O (congrArg W.bool Xh) ?_;refine zaq 23 O ?_;exact zhq (.inr rfl) O O
 ·rcases hc with rfl|rfl|⟨_,rfl⟩
  ·skip
   refine zFq (fn:=Tryz.f108) O O O (Ob rfl) (fun R k0=>?_);refine zjq 27 O ?_;refine zgq (w':=.bool true) O O (congrArg W.bool Xh) ?_;refine zaq 12 O ?_;refine zgq (w':=.bool false) O O (congrArg W.bool Xh) ?_;refine zaq 10 O ?_;refine zgq (w':=.bool true) O O (congrArg W.bool Xh) ?_;refine zaq 28 O ?_;exact zhq (.inr rfl) O O
  ·skip
   refine zFq (fn:=Tryz.f108) O O O (Ob rfl) (fun R k0=>?_);refine zjq 27 O ?_;refine zgq (w':=.bool true) O O (congrArg W.bool Xh) ?_;refine zaq 12 O ?_;refine zgq (w':=.bool false) O O (congrArg W.bool Xh) ?_;refine zaq 10 O ?_;refine zgq (w':=.bool false) O O (congrArg W.bool Xh) ?_;refine zaq 4 O ?_;refine zgq (w':=.bool true) O O (congrArg W.bool Xh) ?_;refine zaq 23 O ?_;exact zhq (.inr rfl) O O
  ·skip
   refine zFq (fn:=Tryz.f108) O O O (Ob rfl) (fun R k0=>?_);refine zjq 27 O ?_;refine zgq (w':=.bool true) O O (congrArg W.bool Xh) ?_;refine zaq 12 O ?_;refine zgq (w':=.bool true) O O (congrArg W.bool Xh) ?_;refine zaq 39 O ?_;exact zhq (.inr rfl) O O
def recB(r:Rec):List UInt8:=([r.kind]++r.id.1)++beB 2 r.code
theorem recB_len(r:Rec):(recB r).length=35:=by simp[recB,yCq,r.id.2]
theorem rec_sub(r:Rec):ySq 50 (recW r) 1 32 1=some (zdq r.id.1):=congrArg some (Zbq r.id 0)
theorem okR.code{r:Rec}(h:okR r):r.code<65536:=by
 rcases h.2 with h|h|⟨_,h⟩<;>omega
theorem rbytes_s(r:Rec)(h:okR r):PS cfg G 28 [recW r] (.tup [bW (recB r),.int .i64 0]):=by
 have hc:=h.code;have l1:(zdq [r.kind]).length=1:=by rw[ziq];rfl
 have l2:(zdq r.id.1).length=32:=by rw[ziq,r.id.2]
 have l3:(zdq (beB 2 r.code)).length=2:=by rw[ziq,yCq]
 have eb:zdq (recB r)=(zdq [r.kind]++zdq r.id.1)++zdq (beB 2 r.code):=by simp[recB,zdq]
 refine q7q (fn:=Tryz.f28) O O O (Ob rfl) (fun R k0=>?_);refine zjq 11 O ?_;refine zkq O O O O O O (rcheck_s r h) ?_;refine zaq 6 O ?_;refine zgq (w':=.bool false) O O (congrArg W.bool Xh) ?_;refine zaq 9 O ?_;refine zlq (r.code) O O Xi ⟨by omega,by omega⟩ ?_;first|((refine zrq rfl (qKq O O O O O O (QPq _ 2 Xd Xd (by show _<65536;omega)) ?_);rintro w hp1 nw1 ⟨rfl,rfl,rfl⟩))|((refine zrq rfl (qKq O O O O O O (QPq _ 8 Xd Xd Ji) ?_);rintro w hp1 nw1 ⟨rfl,rfl,rfl⟩))
 refine zaq 14 O ?_;refine yqq rfl (yoq O O (qxq (k:=ti5) (len:=1) (news:=zdq r.id.1) (olds:=zdq [r.kind]) O O O O (ymq O O O (rec_sub r)) Qu Qh Qh rfl (by show 1*1<0+(1+_)*1;rw[l2];decide) rfl (zpq Xq l1.symm rfl))) Xr ?_;refine zcq O O ?_;refine yqq rfl (yoq O O (qxq (k:=ti5) (len:=1+(zdq r.id.1).length) (news:=zdq (beB 2 r.code)) (olds:=zdq [r.kind]++zdq r.id.1) O O O O (ymq O O O (zpq Xq l3.symm rfl)) (by intro h;rw[h] at l3;cases l3) (by rw[l2,l3];decide) (by rw[l2,l3];decide) rfl (by show(1+_)*1<0+(_+_)*1;rw[l2,l3];decide) rfl (zpq Xq (by rw[List.length_append,l1]) rfl))) Xr ?_;refine zoq 5 O ?_;exact jrq (.inr rfl) rfl (.tup (.cons (.sl (full:=false) (xs:=zdq (recB r)) rfl (show purL ((zdq [r.kind]++zdq r.id.1)++zdq (beB 2 r.code))=true by rw[<-eb];simp) Qi Xj) (.cons (.pur rfl) .nil)))
def txB(x:Tx):List UInt8:=qdq x++x.sign.1
theorem txB_len(x:Tx):(txB x).length=120:=by rw[txB,List.length_append,xPq,x.sign.2]
theorem txbytes_s(x:Tx)(hx:x.ok):PS cfg G 233 [txW x] (bW (txB x)):=by
 have hb:=xPq x;have l1:(zdq (qdq x)).length=88:=by rw[ziq,hb]
 have l2:(zdq x.sign.1).length=32:=by rw[ziq,x.sign.2]
 have hne:zdq (qdq x)≠[]:=fun h=>by rw[h] at l1;cases l1
 have eb:zdq (txB x)=zdq (qdq x)++zdq x.sign.1:=by simp[txB,zdq]
 refine q7q (fn:=Tryz.f233) O O O (Ob rfl) (fun R k0=>?_);refine zjq 9 O ?_
 (refine yaq rfl (kXq O O O O O Xk (bodyL_s x hx) Xk ?_);rw[xFq hne,xHq hne];refine⟨by first|rfl|kernel_rfl,?_⟩)
 refine zoq 2 O ?_;refine yqq rfl (yoq O O (qxq (k:=ti5) (len:=(zdq (qdq x)).length) (news:=zdq x.sign.1) (olds:=zdq (qdq x)) O O O O (ymq O O O (sign_sub x)) Qu (by rw[l1,l2];decide) (by rw[l1,l2];decide) rfl (by show _*1<0+(_+_)*1;rw[l1,l2];decide) rfl (zpq Xq O O))) Xr ?_;refine zoq 4 O ?_;exact jrq (.inr rfl) rfl (.sl (full:=false) (xs:=zdq (txB x)) rfl (show purL (zdq (qdq x)++zdq x.sign.1)=true by rw[<-eb];simp) (by rw[eb,l1,l2];exact zpq Xq (by simp[l1,l2]) rfl) Xj)
theorem txid_s(x:Tx)(hx:x.ok):PS cfg glK 170 [txW x] (dW (idD x)):=by
 have hl:=txB_len x;refine zFq (fn:=Tryz.f170) O O O (Ob rfl) (fun R k0=>?_);refine zjq 9 O ?_;refine zkq O O O O O O (txbytes_s x hx) ?_;refine znq O O ?_;first|refine xBq O O O O O (by(repeat (first|exact .nil|refine .cons ?_ ?_|(refine .sl O ?_ rfl Xj;first|rfl|(focus (simp;done)))|(refine y9q O ?_ rfl;first|rfl|(focus (simp;done)))|(refine .pur ?_;first|rfl|(focus (simp;done)))))) (kbq 5 [txB x] false Xk (by simp[hl])) Xn Xn ?_|refine xBq O O O O O (.cons (.pur rfl) (.cons (.sl2 (full:=false) rfl (.arr (.cons (.sl (full:=false) (xs:=zdq (depB d)) rfl (show purL ((zdq (beB 8 d.number)++zdq d.to.1)++zdq (beB 8 d.amount))=true by rw[<-eb];simp) Qi Xj) .nil)) rfl Xj) .nil)) (kbq 9 [depB d] false Xk (by simp[hl])) Xn Xn ?_
 refine zaq 4 O ?_;exact zhq (.inr rfl) O O
end
section
attribute [local irreducible] CoW OpW FlW Step Spec
noncomputable def sumD:T->Dig
 |.nil=>tagD 0 []
 |.leaf k v=>tagD 1 [k.1,v]
 |.fork l r=>tagD 2 [(sumD l).1,(sumD r).1]
def QEq(t:T):Prop:=∀p∈t.all,p.2.length<1000000
theorem ok_len:∀{t:T} {d:Nat} {b:Dig},t.ok d b=true->(t.isFork=true->2<=t.all.length)/\(t.non=true->1<=t.all.length)
 |.nil,_,_,_=>⟨fun h=>Qm,fun h=>Qm⟩
 |.leaf k v,_,_,_=>⟨fun h=>Qm,fun _=>by simp[T.all]⟩
 |.fork l r,d,b,h=>by
  obtain⟨_,h1,h2,h3⟩:=ok_fork.1 h;obtain⟨l1,l2⟩:=ok_len h1;obtain⟨r1,r2⟩:=ok_len h2
  have key:2<=l.all.length+r.all.length:=by
   unfold T.two at h3;rcases Bool.or_eq_true_iff.1 h3 with h3|h3
   ·rcases Bool.or_eq_true_iff.1 h3 with h3|h3
    ·have:=l1 h3;omega
    ·have:=r1 h3;omega
   ·obtain⟨q1,q2⟩:=Bool.and_eq_true_iff.1 h3;have:=l2 q1;have:=r2 q2;omega
  have e:(T.fork l r).all.length=l.all.length+r.all.length:=by simp[T.all]
  exact⟨fun _=>by omega,fun _=>by omega⟩
theorem JCq{l r:T}{d d':Nat}{b b':Dig}(h1:l.ok d b=true)(h2:r.ok d' b'=true)(h3:T.two l r=true):2<=l.all.length+r.all.length:=by
 obtain⟨l1,l2⟩:=ok_len h1;obtain⟨r1,r2⟩:=ok_len h2;unfold T.two at h3;rcases Bool.or_eq_true_iff.1 h3 with h3|h3
 ·rcases Bool.or_eq_true_iff.1 h3 with h3|h3
  ·have:=l1 h3;omega
  ·have:=r1 h3;omega
 ·obtain⟨q1,q2⟩:=Bool.and_eq_true_iff.1 h3;have:=l2 q1;have:=r2 q2;omega
theorem node_sub(x:Node):ySq 50 (nW x) 1 32 1=some (zdq x.key.1):=by
 have h:(zdq x.key.1).length=32:=by rw[ziq,x.key.2]
 show some (((zdq x.key.1).drop (0/1)).take 32)=_;rw[show 0/1=0 from rfl,List.drop_zero,List.take_of_length_le (by rw[h];omega)]
theorem tnone_s:PS cfg glK 106 [] (dW (tagD 0 [])):=by
 refine zFq (fn:=Tryz.f106) O O O (Ob rfl) (fun R k0=>?_);refine zjq 7 O ?_;refine xBq O O O O O (.cons (.pur rfl) (.cons .nilfz .nil)) (kbq 0 [] false Xk Xk) Xn Xn ?_;refine zaq 4 O ?_;exact zhq (.inr rfl) O O
theorem tsum_s(t0:Tree)(hb:t0.nodes.length<=4611686018427387903):∀(t:T) (n:Nat),Rep t0.nodes n t->QEq t->PS cfg glK 111 [tW t0,.int .i64 (n:Int)] (dW (sumD t)):=by
 intro t;induction t with
 |nil=>
  intro n hr hs;obtain rfl:n=0:=by cases hr;rfl
  refine zFq (fn:=Tryz.f111) O O O (Ob rfl) (fun R k0=>?_);refine zjq 13 O ?_;refine zyq rfl (fun h1=>?_) (fun h1=>?_)
  ·refine zeq 2 O ?_;refine zkq O O O O O O (tnone_s) ?_;refine zaq 5 O ?_;exact zhq (.inr rfl) O O
  ·exfalso;omega
 |leaf k v=>
  intro n hr hs;have hle:=hr.le;have hv:v.length<1000000:=hs (k,v) (by simp[T.all]);cases hr with
  |leaf h=>
  rename_i n l r;refine zFq (fn:=Tryz.f111) O O O (Ob rfl) (fun R k0=>?_);refine zjq 13 O ?_;refine zyq rfl (fun h1=>?_) (fun h1=>?_)
  ·exfalso;omega
  ·refine zeq 7 O ?_;refine zlq (n) O O Xi ⟨by omega,by omega⟩ ?_;refine zbq rfl (zBq (i:=n) O O O O O O O (zYq nW h)) ?_;refine zaq 20 O ?_;first|refine fl_lk O O O O O (.cons (.pur rfl) (.cons (.sl2 (full:=false) rfl (.arr (.cons (.sl (full:=false) (c:=nW ⟨true,k,v,l,r⟩) (xs:=zdq k.1) rfl Xk (node_sub _) Xj) (.cons (.pur Xk) .nil))) rfl Xj) .nil)) (kbq 1 [k.1,v] false Xk (by simp[k.2,hv])) Xn Xn Xr ?_|refine fl_lk O O O O O (.cons (.pur rfl) (.cons .nilfz .nil)) (kbq 0 [] false Xk Xk) Xn Xn Xr ?_
   refine zoq 5 O ?_;exact zhq (.inr rfl) O O
 |fork tl tr ihL ihR=>
  intro n hr hs;have hle:=hr.le;cases hr with
  |fork h hl0 hr0 hL hR=>
  rename_i n l r k v;have sL:QEq tl:=fun p hp=>hs p Qz
  have sR:QEq tr:=fun p hp=>hs p Qz
  refine zFq (fn:=Tryz.f111) O O O (Ob rfl) (fun R k0=>?_);refine zjq 13 O ?_;refine zyq rfl (fun h1=>?_) (fun h1=>?_)
  ·exfalso;omega
  ·refine zeq 7 O ?_;refine zlq (n) O O Xi ⟨by omega,by omega⟩ ?_;refine zbq rfl (zBq (i:=n) O O O O O O O (zYq nW h)) ?_;refine zaq 20 O ?_;refine yxq O O O O O O (ihL l hL sL) ?_;refine zoq 3 O ?_;refine yxq O O O O O O (ihR r hR sR) ?_;refine zoq 11 O ?_;refine fl_lk O O O O O (.cons (.pur rfl) (.cons (.sl2 (full:=false) rfl (.arr (.cons (.sl (full:=false) (xs:=zdq (sumD tl).1) rfl Xk (zpq Xq (by simp[ziq,(sumD tl).2]) rfl) Xj) (.cons (.sl (full:=false) (xs:=zdq (sumD tr).1) rfl Xk (zpq Xq (by simp[ziq,(sumD tr).2]) rfl) Xj) .nil))) rfl Xj) .nil)) (kbq 2 [(sumD tl).1,(sumD tr).1] false Xk (by simp[(sumD tl).2,(sumD tr).2])) Xn Xn Xr ?_;refine zoq 4 O ?_;exact zhq (.inr rfl) O O
theorem tsum_ok(t:Tree)(n:Nat)(t0:T)(h:IsT t n t0):PS cfg glK 29 [tW t] (.tup [dW (sumD t0),.int .i64 0]):=by
 have hs:QEq t0:=fun p hp=>by have:=(h.val p hp).2;omega
 have hlen:=h.len;refine zFq (fn:=Tryz.f29) O O O (Ob rfl) (fun R k0=>?_);refine zjq 11 O ?_;first|refine zkq O O O O O O (yrq (qIq t Xd) (by rw[if_pos h.may])) ?_|refine zkq O O O O O O (qIq _ Xd) ?_
 refine zaq 17 O ?_;refine zkq O O O O O (by rw[h.root];rfl) (tsum_s t Xd t0 n h.rep hs) ?_;refine zaq 5 O ?_;exact zhq (.inr rfl) O O
end
section
attribute [local irreducible] CoW OpW FlW Step Spec
variable {G:Nat->Option W}
def yWq(n:Nat):Nat:=2^(lenM (n-1) -1)
theorem Ybq{n:Nat}(h2:2<=n)(h:n<=256):1<=lenM (n-1)/\lenM (n-1)<=8/\1<=yWq n/\yWq n<n:=by
 have key:∀n,n<=256->2<=n->1<=lenM (n-1)/\lenM (n-1)<=8/\1<=yWq n/\yWq n<n:=by decide+kernel
 exact key n h h2
theorem len64_s(x:Nat)(hx:x<=255):PS cfg G 291 [.int .u64 (x:Int)] (.int .i64 (lenM x:Nat)):=by
 have hl:=J5q x hx;have e:((UInt8.ofNat (lenM x)).toNat:Int)=(lenM x:Nat):=by congr 1;simp;omega
 refine zFq (fn:=Tryz.f291) O O O (Ob rfl) (fun R k0=>?_);refine zjq 12 O ?_;refine zyq rfl (fun h1=>?_) (fun h1=>?_)
 ·exfalso;omega
 refine zeq 9 O ?_;refine zyq rfl (fun h2=>?_) (fun h2=>?_)
 ·exfalso;omega
 refine zeq 9 O ?_;refine zyq rfl (fun h3=>?_) (fun h3=>?_)
 ·exfalso;omega
 refine zeq 6 O ?_;refine zlq (x) O O Xi ⟨by omega,by omega⟩ ?_;refine zbq rfl (ix_str O O O O O (len_tabW _ (by decide+kernel) x hx)) ?_;refine zlq (lenM x) O O e ⟨by omega,by omega⟩ ?_;refine zlq (lenM x) O O Xi ⟨by omega,by omega⟩ ?_;refine zaq 4 O ?_;exact zhq (.inr rfl) O O
theorem len_s(x:Nat)(hx:x<=255):PS cfg G 275 [.int .u64 (x:Int)] (.int .i64 (lenM x:Nat)):=by
 refine zFq (fn:=Tryz.f275) O O O (Ob rfl) (fun R k0=>?_);refine zjq 12 O ?_;refine zkq O O O O O O (len64_s _ Xd) ?_;refine zaq 4 O ?_;exact zhq (.inr rfl) O O
theorem front_s(n:Nat)(h2:2<=n)(h:n<=256):PS cfg G 252 [.int .i64 (n:Int)] (.int .i64 (yWq n:Nat)):=by
 obtain⟨k1,k2,k3,k4⟩:=Ybq h2 h;refine zFq (fn:=Tryz.f252) O O O (Ob rfl) (fun R k0=>?_);refine zjq 8 O ?_;refine zlq (n-1) O O Xi ⟨by omega,by omega⟩ ?_;refine zlq (n-1) O O Xi ⟨by omega,by omega⟩ ?_;refine zkq O O O O O O (len_s (n-1) Xd) ?_;refine zlq (lenM (n-1) -1) O O Xi ⟨by omega,by omega⟩ ?_;refine zgq (w':=.int .i64 (yWq n:Nat)) O O (by unfold yWq;generalize lenM (n-1)=L at k1 k2;rcases(show L=1\/L=2\/L=3\/L=4\/L=5\/L=6\/L=7\/L=8 by omega) with h|h|h|h|h|h|h|h<;>(subst h;rfl)) ?_;refine zaq 4 O ?_;exact zhq (.inr rfl) O O
theorem halves_s(l:List W)(f:Bool)(hl:purL l=true):PS cfg G 190 [.fz l 1 f] (.fn 251 [] [.fel (.fz l 1 f)]):=by
 have hp:purW (.fz l 1 f)=true:=hl;refine zFq (fn:=Tryz.f190) O O O (Ob rfl) (fun R k0=>?_);refine zjq 13 O ?_;exact xJq (fr2:=[(2,_)]) (.inr rfl) ⟨⟨_,rfl,.fn .nil (.cons (y9q rfl hp rfl) .nil)⟩,trivial⟩ O O
noncomputable def encH(p:List (List UInt8)×Bool):List W:=[.fz (p.1.map bW) 1 p.2]
theorem encH_ok{l:List (List (List UInt8)×Bool)}:∀y∈l,purL (encH y)=true/\(encH y).length=1:=fun y _=>⟨by simp[encH,purL,purW],rfl⟩
theorem halves_it(ps:List (List UInt8))(f:Bool)(h2:2<=ps.length)(h:ps.length<=256):jlq cfg G 251 [.fel (.fz (ps.map bW) 1 f)] ([(ps.take (yWq ps.length),false),(ps.drop (yWq ps.length),f)].map encH):=by
 obtain⟨k1,k2,k3,k4⟩:=Ybq h2 h;have e:(ps.map bW).length=ps.length:=List.length_map _
 have b1:Nat.beq (yWq ps.length) (ps.map bW).length=false:=by
  rw[e];cases q:Nat.beq (yWq ps.length) ps.length with
  |true=>have:=Nat.eq_of_beq_eq_true q;omega
  |false=>rfl
 refine u7q (fn:=Tryz.f251) O O O (Ob rfl) (fun L E R hy k0=>?_);refine zjq 3 O ?_;refine zgq (w':=.int .i64 (ps.length:Int)) O O Xy ?_;refine zkq O O O O O O (front_s ps.length h2 h) ?_;refine zaq 8 O ?_;refine zbq rfl (xbq (ys:=(ps.take (yWq ps.length)).map bW) (l:=0) (h:=yWq ps.length) (g:=false) O O O O O O O (Nat.zero_le _) Xd (by rw[List.drop_zero,Nat.sub_zero,List.map_take]) (by rw[b1,Bool.and_false])) ?_;refine zrq rfl (jvq O O O (hy) (fun b R1 hb=>?_));refine zaq 2 O ?_;refine zyq rfl (fun h1=>?_) (fun h1=>?_)
 ·cases b with
  |false=>cases h1
  |true=>
   refine zjq 4 O ?_;refine zbq rfl (xbq (ys:=(ps.drop (yWq ps.length)).map bW) (l:=yWq ps.length) (h:=(ps.map bW).length) (g:=f) O O O O O O O Xd (Nat.le_refl _) Qt (by rw[Nat.beq_refl,Bool.and_true])) ?_;refine zrq rfl (jvq O O O (hb) (fun b R1 hb=>?_));refine z1q ?_;exact xWq (.inl rfl) rfl (yl_same (l:=[]) Xv)
 ·cases b with
  |true=>exact absurd rfl h1
  |false=>
   refine zjq 1 O ?_;exact xWq (.inl rfl) rfl hb
theorem rlist1_s(p:List UInt8)(hp:p.length<=4096):PS cfg G 189 [bW p] (.bool false):=by
 have e:(zdq p).length=p.length:=ziq p;refine zFq (fn:=Tryz.f189) O O O (Ob rfl) (fun R k0=>?_);refine zjq 8 O ?_;refine zgq (w':=.int .i64 (p.length:Int)) O O Xy ?_;refine zgq (w':=.bool false) O O (congrArg W.bool (ltI_not.2 Xd)) ?_;refine zaq 4 O ?_;exact zhq (.inr rfl) O O
theorem rindex_s(ps:List (List UInt8))(f:Bool)(hn:ps.length<=256)(hp:∀p∈ps,p.length<=4096):PS cfg G 250 [.fz (ps.map bW) 1 f,.fn 189 [] []] (.int .i64 (-1)):=by
 have e:(ps.map bW).length=ps.length:=List.length_map _;refine zFq (fn:=Tryz.f250) O O O (Ob rfl) (fun R k0=>?_);refine zjq 9 O ?_;refine zgq (w':=.int .i64 (ps.length:Int)) O O Xy ?_;refine zaq 4 O ?_;refine yEq (α:=Nat) (fun i=>i<=ps.length) (fun i=>[(8,.int .i64 (i:Int))]) [(0,_),(1,_),(4,_),(7,_)] (fun i=>ps.length-i) (0) ⟨rfl,rfl,rfl,rfl,trivial⟩ (Nat.zero_le _) ⟨rfl,trivial⟩ (fun i hI=>?_);refine zjq 6 O ?_;refine zyq rfl (fun h1=>?_) (fun h1=>?_)
 ·have hi:i<ps.length:=by omega
  obtain⟨p,hx⟩:∃p,ps[i]? =some p:=⟨_,List.getElem?_eq_getElem hi⟩
  refine zeq 15 O ?_;refine zbq rfl (zBq (i:=i) O O O O O O O (zYq bW hx)) (znq O O (zkq O O O O O O (rlist1_s p (hp p (List.mem_of_getElem? hx))) ?_));refine zaq 7 O ?_;refine zlq (i+1) O O Xi ⟨by omega,by omega⟩ ?_;refine yyq 2 O ?_;exact z5q (i+1) (hi) Xd ⟨rfl,trivial⟩ ⟨rfl,rfl,rfl,rfl,trivial⟩ Xg Xd Xm rfl
 ·refine zeq 2 O ?_;refine z3q Xj ?_;refine zCq 8 O ?_;exact zhq (.inr rfl) O O
theorem rcont_s(ps:List (List UInt8))(f:Bool)(hn:ps.length<=256)(hp:∀p∈ps,p.length<=4096):PS cfg G 188 [.fz (ps.map bW) 1 f,.fn 189 [] []] (.bool false):=by
 refine zFq (fn:=Tryz.f188) O O O (Ob rfl) (fun R k0=>?_);refine zjq 9 O ?_;refine zkq O O O O O O (rindex_s ps f hn hp) ?_;refine yVq O O ?_;refine zaq 4 O ?_;exact zhq (.inr rfl) O O
theorem rlist_s(ps:List (List UInt8))(f:Bool)(hn:ps.length<=256)(hp:∀p∈ps,p.length<=4096):PS cfg G 112 [.fz (ps.map bW) 1 f] (.bool true):=by
 have e:(ps.map bW).length=ps.length:=List.length_map _;refine zFq (fn:=Tryz.f112) O O O (Ob rfl) (fun R k0=>?_);refine zjq 8 O ?_;refine zgq (w':=.int .i64 (ps.length:Int)) O O Xy ?_;refine zgq (w':=.bool true) O O (congrArg W.bool (nlt_iff.2 Xd)) ?_;refine zaq 2 O ?_;refine zkq O O O O O O (rcont_s ps f hn hp) ?_;refine zaq 6 O ?_;exact zhq (.inr rfl) O O
noncomputable def Zfq:Nat->List (List UInt8) ->Dig
 |0,_=>tagD 0 []
 |n+1,ps=>match ps with
  |[]=>tagD 0 []
  |[p]=>tagD 7 [p]
  |p::q::r=>tagD 8 [(Zfq n ((p::q::r).take (yWq (p::q::r).length))).1,(Zfq n ((p::q::r).drop (yWq (p::q::r).length))).1]
noncomputable def gatR:List Dig->HpW
 |[]=>[(1,52,.nils),(0,26,yRq)]
 |ds=>[(1,52,.sl 2 0 0 ds.length 1 none),(0,26,yRq),(2,53,.arr (ds.length*1) 1 (ds.map fun d=>bW d.1))]
theorem rroot_s:∀(n:Nat) (ps:List (List UInt8)) (f:Bool),ps.length<=n->ps.length<=256->(∀p∈ps,p.length<=4096) ->PS cfg glK 113 [.fz (ps.map bW) 1 f] (dW (Zfq n ps)):=by
 intro n;induction n with
 |zero=>
  intro ps f hn _ _;obtain rfl:ps=[]:=List.eq_nil_of_length_eq_zero Xd;refine zFq (fn:=Tryz.f113) O O O (Ob rfl) (fun R k0=>?_);refine zjq 9 O ?_;first|refine j3q O O ?_|refine zbq O O ?_
  refine zaq 5 O ?_;refine zgq (w':=.bool true) O O (congrArg W.bool Xh) ?_;refine zaq 6 O ?_;refine zkq O O O O O O (tnone_s) ?_;refine zaq 6 O ?_;exact zhq (.inr rfl) O O
 |succ n ih=>
  intro ps f hn hl hp;rcases ps with _|⟨p,_|⟨q,r⟩⟩
  ·skip
   refine zFq (fn:=Tryz.f113) O O O (Ob rfl) (fun R k0=>?_);refine zjq 9 O ?_;first|refine j3q O O ?_|refine zbq O O ?_
   refine zaq 5 O ?_;refine zgq (w':=.bool true) O O (congrArg W.bool Xh) ?_;refine zaq 6 O ?_;refine zkq O O O O O O (tnone_s) ?_;refine zaq 6 O ?_;exact zhq (.inr rfl) O O
  ·have hpl:=hp p Xk;refine zFq (fn:=Tryz.f113) O O O (Ob rfl) (fun R k0=>?_);refine zjq 9 O ?_;first|refine j3q O O ?_|refine zbq O O ?_
   refine zaq 5 O ?_;refine zgq (w':=.bool false) O O (congrArg W.bool Xh) ?_;refine zaq 6 O ?_;refine zgq (w':=.bool true) O O (congrArg W.bool Xh) ?_;refine zaq 7 O ?_;first|refine zbq rfl (zBq O O O O O O O Xl) ?_|refine zbq rfl (zLq O O O O O O O Xd) ?_|refine zbq rfl (zsq O O O O O O Xd) ?_|refine zbq O O ?_
   refine zaq 2 O ?_;refine xBq O O O O O (by(repeat (first|exact .nil|refine .cons ?_ ?_|(refine .sl O ?_ rfl Xj;first|rfl|(focus (simp;done)))|(refine y9q O ?_ rfl;first|rfl|(focus (simp;done)))|(refine .pur ?_;first|rfl|(focus (simp;done)))))) (kbq 7 [p] false Xk Xu) Xn Xn ?_;refine zaq 6 O ?_;exact zhq (.inr rfl) O O
  ·show PS cfg glK 113 _ (dW (tagD 8 [(Zfq n ((p::q::r).take (yWq (p::q::r).length))).1,(Zfq n ((p::q::r).drop (yWq (p::q::r).length))).1]));have h2:2<=(p::q::r).length:=by simp
   generalize (p::q::r)=ps at*
   obtain⟨k1,k2,k3,k4⟩:=Ybq h2 hl;have e:(ps.map bW).length=ps.length:=List.length_map _;have c1:=ih (ps.take (yWq ps.length)) false Qd Qd fun p h=>hp p (List.mem_of_mem_take h)
   have c2:=ih (ps.drop (yWq ps.length)) f Yy Yy fun p h=>hp p (List.mem_of_mem_drop h)
   have it:=halves_it (G:=glK) ps f h2 hl;generalize Zfq n (ps.take (yWq ps.length))=d1 at*
   generalize Zfq n (ps.drop (yWq ps.length))=d2 at*
   generalize ps.take (yWq ps.length)=A at*
   generalize ps.drop (yWq ps.length)=B at*
   refine zFq (fn:=Tryz.f113) O O O (Ob rfl) (fun R k0=>?_);refine zjq 9 O ?_;refine zgq (w':=.int .i64 (ps.length:Int)) O O Xy ?_;refine zaq 5 O ?_;refine zgq (w':=.bool false) O O (congrArg W.bool (eqI_not.2 Xd)) ?_;refine zaq 6 O ?_;refine zgq (w':=.bool false) O O (congrArg W.bool (eqI_not.2 Xd)) ?_;refine zaq 16 O ?_;refine zkq O O O O O O (halves_s (ps.map bW) f Xk) ?_;refine zaq 3 O ?_;refine co_rangeN (α:=List Dig) (encH) ([(A,false),(B,f)]) (fun i a=>a=[d1,d2].take i) (fun a=>gatR a) (fun a=>(match a with|[]=>2|_=>3)) (fun a=>R) ([]) rfl Xn (it) (encH_ok) (rfl) O O O (fun i a y hy hI=>?_) (fun a hI=>?_)
   ·match i,hy,hI with
    |0,hy,hI=>
     cases hy;have hI:a=[]:=hI;subst hI;skip
     refine zjq 3 O ?_;refine QOq ?_;refine zjq 4 O ?_;refine zkq O O O O O O c1 ?_;refine zaq 8 O ?_;refine yqq rfl (yoq O O (kNq (news:=[.sl 2 0 0 32 1 (some 32)]) (k:=ti53) O O O O (ymq O O O O) Xk Xq Xq)) Xr ?_;refine zoq 3 O ?_;refine YFq [d1] rfl (Ent.trans (Zvq 2 [] [(1,52,.sl 4 0 0 1 1 none),(0,26,yRq),(4,53,.arr (1*1) 1 [bW d1.1])] rfl Xk Xd trivial ⟨⟨by omega,_,rfl,.slK rfl⟩,⟨by omega,_,rfl,.pur rfl⟩,⟨by omega,_,rfl,.arr (.cons (.sl (full:=false) (xs:=zdq d1.1) rfl Xk (zpq Xq (by simp[ziq,d1.2]) rfl) Xj) .nil)⟩,trivial⟩ Xk) (y2q (b:=2) (k:=4) Xd Xd Yq trivial ⟨⟨by omega,rfl,rfl⟩,⟨by omega,rfl,rfl⟩,⟨by omega,?_,zfq (show purW (.arr (1*1) 1 [bW d1.1])=true by simp[purW,purL])⟩,trivial⟩ (by show([1,0,2]:List Nat).Nodup;decide)));show some (53,W.arr (1*1) 1 [bW d1.1])=some (53,renW _ (W.arr (1*1) 1 [bW d1.1]));rw[zmq (show purW (.arr (1*1) 1 [bW d1.1])=true by simp[purW,purL])]
    |1,hy,hI=>
     cases hy;have hI:a=[d1]:=hI;subst hI;refine zjq 3 O ?_;refine QOq ?_;refine zjq 4 O ?_;refine zkq O O O O O O c2 ?_;refine zaq 8 O ?_;refine yqq rfl (yoq O O (qxq (len:=1) (news:=[.sl 3 0 0 32 1 (some 32)]) (olds:=[bW d1.1]) (k:=ti53) O O O O (ymq O O O O) Xk Xq Xq rfl (by show 1*1<0+(1+1)*1;decide) rfl (zpq Xq O O))) Xr ?_;refine zoq 3 O ?_;refine YFq [d1,d2] rfl (Ent.trans (Zvq 3 [] [(1,52,.sl 5 0 0 2 1 none),(0,26,yRq),(5,53,.arr (2*1) 1 [bW d1.1,bW d2.1])] rfl Xk Xd trivial ⟨⟨by omega,_,rfl,.slK rfl⟩,⟨by omega,_,rfl,.pur rfl⟩,⟨by omega,_,rfl,.arr (.cons (.pur Xk) (.cons (.sl (full:=false) (xs:=zdq d2.1) rfl Xk (zpq Xq (by simp[ziq,d2.2]) rfl) Xj) .nil))⟩,trivial⟩ Xk) (y2q (b:=2) (k:=5) Xd Xd Yd trivial ⟨⟨by omega,rfl,rfl⟩,⟨by omega,rfl,rfl⟩,⟨by omega,?_,zfq (show purW (.arr (2*1) 1 [bW d1.1,bW d2.1])=true by simp[purW,purL])⟩,trivial⟩ (by show([1,0,2]:List Nat).Nodup;decide)));show some (53,W.arr (2*1) 1 [bW d1.1,bW d2.1])=some (53,renW _ (W.arr (2*1) 1 [bW d1.1,bW d2.1]));rw[zmq (show purW (.arr (2*1) 1 [bW d1.1,bW d2.1])=true by simp[purW,purL])]
    |i+2,hy,hI=>cases hy
   ·have hI:a=[d1,d2]:=hI;subst hI;refine zCq 5 O ?_;refine xBq O O O O O (by(repeat (first|exact .nil|refine .cons ?_ ?_|(refine .sl O ?_ rfl Xj;first|rfl|(focus (simp;done)))|(refine y9q O ?_ rfl;first|rfl|(focus (simp;done)))|(refine .pur ?_;first|rfl|(focus (simp;done)))))) (kbq 8 [d1.1,d2.1] false Xk (by simp[d1.2,d2.2])) Xn Xn ?_;refine zaq 4 O ?_;exact zhq (.inr rfl) O O
noncomputable def rootD(ps:List (List UInt8)):Dig:=Zfq 256 ps
theorem rRoot_s(ps:List (List UInt8))(f:Bool)(hn:ps.length<=256)(hp:∀p∈ps,p.length<=4096):PS cfg glK 30 [.fz (ps.map bW) 1 f] (.tup [dW (rootD ps),.int .i64 0]):=by
 refine zFq (fn:=Tryz.f30) O O O (Ob rfl) (fun R k0=>?_);refine zjq 10 O ?_;refine zkq O O O O O O (rlist_s ps f hn hp) ?_;refine zgq (w':=.bool false) O O (congrArg W.bool Xh) ?_;refine zaq 8 O ?_;refine zkq O O O O O O (rroot_s 256 ps f hn hn hp) ?_;refine zaq 5 O ?_;exact zhq (.inr rfl) O O
end
section
noncomputable def wkW(k:Nat)(t:Tree)(box:Dig)(L:List Rec):W:=.agg 35 [tW t,dW box,gW k 34 (L.map recW)]
noncomputable def wkH(w0 k:Nat)(t:Tree)(box:Dig)(L:List Rec):HpW:=(w0,170,wkW k t box L)::gH k 57 34 (L.map recW)
theorem qRq(L:List Rec):purL (L.map recW)=true:=qqq (fun r=>vxq r) L
theorem wk_get(k:Nat)(t:Tree)(box:Dig)(L:List Rec):yuq 50 (wkW k t box L) 34 1 false=some (gW k 34 (L.map recW)):=by unfold wkW;cases L.map recW<;>rfl
theorem wk_putT(k:Nat)(t t':Tree)(box:Dig)(L:List Rec):qYq 50 (wkW k t box L) 0 (tW t')=some (wkW k t' box L):=by unfold wkW;cases L.map recW<;>rfl
theorem wk_put(k:Nat)(t:Tree)(box:Dig)(L:List Rec)(b n:Nat):qYq 50 (wkW k t box L) 34 (.sl b 0 0 n 34 none)=some (.agg 35 [tW t,dW box,.sl b 0 0 n 34 none]):=by unfold wkW;cases L.map recW<;>rfl
theorem ren_wk(τ:Nat->Nat)(k:Nat)(t:Tree)(box:Dig)(L:List Rec):renW τ (wkW k t box L)=wkW (τ k) t box L:=by
 unfold wkW;simp only[renW,qAq,zmq (jcq t),zmq (xaq box),ren_g]
theorem ref_wk{n k:Nat}(h:k<n)(t:Tree)(box:Dig)(L:List Rec):refB n (wkW k t box L)=true:=by
 show(refB n (tW t)&&(refB n (dW box)&&(refB n (gW k 34 (L.map recW))&&true)))=true;rw[zfq (jcq t),zfq (xaq box),ref_g h];rfl
theorem Zhq(τ:Nat->Nat)(w0 k:Nat)(t:Tree)(box:Dig)(L:List Rec):renH τ (wkH w0 k t box L)=wkH (τ w0) (τ k) t box L:=by
 unfold wkH;simp only[renH,ren_wk,renH_g _ _ _ _ (qRq L)]
theorem wk_names{w0 k:Nat}{t:Tree}{box:Dig}{L:List Rec}:∀p∈wkH w0 k t box L,p.1=w0\/p.1=k:=fun p hp=>by
 rcases List.mem_cons.1 hp with h|h
 ·exact .inl (by rw[h])
 ·exact .inr (Kdq p h)
theorem wk_nd{w0 k:Nat}(h:w0≠k)(t:Tree)(box:Dig)(L:List Rec):((wkH w0 k t box L).map (·.1)).Nodup:=by
 unfold wkH;rw[List.map_cons,List.nodup_cons];refine⟨fun hm=>?_,?_⟩
 ·obtain⟨p,h1,h2⟩:=List.mem_map.1 hm;rw[Kdq p h1] at h2;exact h h2.symm
 ·cases L.map recW<;>simp[gH]
theorem hget_wk{w0 k:Nat}{P:HpW}{t:Tree}{box:Dig}{L:List Rec}(hP:∀p∈P,p.1≠w0):hget (P++wkH w0 k t box L) w0=some (170,wkW k t box L):=by
 rw[Z9q,vLq hP];unfold wkH;show hget ((w0,170,wkW k t box L)::_) w0=_;rw[zzq,if_pos rfl]
theorem hget_wkl{w0 k:Nat}{P:HpW}{t:Tree}{box:Dig}{L:List Rec}(hP:∀p∈P,p.1≠k)(hw:w0≠k){x:W}{r:List W}(e:L.map recW=x::r):hget (P++wkH w0 k t box L) k=some (57,.arr ((x::r).length*34) 34 (x::r)):=by
 rw[Z9q,vLq hP];unfold wkH;show hget ((w0,170,wkW k t box L)::_) k=_;rw[zzq,if_neg hw,e];show hget [(k,_)] k=_;rw[zzq,if_pos rfl]
theorem hdel_wk{w0 k:Nat}{P:HpW}{t:Tree}{box:Dig}{L:List Rec}(hP:∀p∈P,p.1≠w0/\p.1≠k)(hw:w0≠k):delA [w0,k] (P++wkH w0 k t box L)=P:=by
 have h1:∀{Q R:HpW} {x:TypeId×W},(∀p∈Q,p.1≠w0) ->hdel (Q++(w0,x)::R) w0=Q++R:=fun {Q}=>by
  induction Q with
  |nil=>
   intro R x _;show(match Nat.beq w0 w0 with|true=>R|false=>_)=_;rw[Nat.beq_refl];rfl
  |cons p Q ih=>
   intro R x h;obtain⟨c,y⟩:=p;have hc:=h (c,y) (List.mem_cons_self ..)
   have e:Nat.beq c w0=false:=by
    cases q:Nat.beq c w0 with
    |true=>exact absurd (Nat.eq_of_beq_eq_true q) hc
    |false=>rfl
   show(match Nat.beq c w0 with|true=>Q++(w0,x)::R|false=>(c,y)::hdel (Q++(w0,x)::R) w0)=_;rw[e];exact congrArg _ (ih fun p hp=>h p (List.mem_cons_of_mem _ hp))
 show hdel (hdel (P++wkH w0 k t box L) w0) k=P;unfold wkH;rw[h1 fun p hp=>(hP p hp).1,hdel_g fun p hp=>(hP p hp).2]
section
variable {G:Nat->Option W} {o:Oper} {fr fr2:FrW} {hp:HpW} {nw m k0:Nat} {R:Res}
theorem uRq{post:W->HpW->Nat->Res->Option EvW->Prop}{x:Operand}{xs:Array Operand}{ats:Array TypeId}{f:FuncId}{a us c ws:List W}{Q:W->HpW->Nat->Prop}{t:Tree}{box:Dig}{L:List Rec}(w0 k:Nat)(P:HpW)
  (ho:o.op= .call ⟨.value x,xs,ats⟩) (hx:evW cfg G fr x=some (.fn f a c)) (he:cfg.ext f=none) (hxs:evLW cfg G fr xs.toList=some us) (hws:a++us++c=qAq (numC [w0,k] nw) ws) (hr:refL 2 ws=true) (hhp:hp=P++wkH w0 k t box L) (hP:∀p∈P,p.1≠w0/\p.1≠k) (hw:w0≠k) (h0:w0<nw) (hk:k<nw)
  (sp:qiq cfg G f 2 ws (wkH 0 1 t box L) Q) (hpost:∀w hp1 nw1,Q w hp1 nw1->post (renW (numC [w0,k] nw) w) (renH (numC [w0,k] nw) hp1++P) (nw+(nw1-2)) R (some .dirty)):Step cfg G o fr hp nw R post:=by
 refine y3q (ext:=[w0,k]) (ws:=ws) (hp0:=wkH 0 1 t box L) ho hx he hxs hws sp (by simp[hw]) Yb (wk_nd Xq t box L) (fun i ty w hi=>?_) hr (fun w hp1 nw1 hq=>?_)
 ·unfold wkH at hi;rw[zzq] at hi;split at hi
  ·rename_i e;subst e;cases hi;refine⟨by simp,ref_wk Xk t box L,w0,rfl,?_⟩;rw[hhp,hget_wk fun p hp=>(hP p hp).1,ren_wk];rfl
  ·cases e:L.map recW with
   |nil=>rw[e] at hi;simp[gH,hget] at hi
   |cons y q=>
    have hpa:purW (.arr ((y::q).length*34) 34 (y::q))=true:=by have:=qRq L;rw[e] at this;exact this
    rw[e] at hi;simp only[gH] at hi;rw[zzq] at hi;split at hi
    ·rename_i e0;subst e0;cases hi;refine⟨by simp,zfq hpa,k,rfl,?_⟩;rw[hhp,hget_wkl (fun p hp=>(hP p hp).2) hw e,zmq hpa]
    ·simp[hget] at hi
 ·have:=hpost w hp1 nw1 hq;rw[hhp,hdel_wk hP hw];exact this
theorem Joq{w0 b k:Nat}{P P2:HpW}{t:Tree}{box:Dig}{L:List Rec}(hm:m<=b)(hw:w0<b)(hb:b<=k)(hk:k<nw)(hf:subF fr fr2)(hr:refF b fr2)(hhp:hp=wkH w0 k t box L++P)(hP:subH P b P2)(hn:∀p∈P2,p.1≠w0/\p.1<b)(nd:(P2.map (·.1)).Nodup):Ent cfg G m k0 fr hp nw R fr2 (P2++wkH w0 b t box L) (b+1) R:=by
 subst hhp;have q1:hget (wkH w0 k t box L++P) w0=some (170,wkW k t box L):=krq (by unfold wkH;rw[zzq,if_pos rfl])
 have q2:∀(i:Nat) (y:TypeId×W),i≠w0->i<b->hget P i=some y->hget (wkH w0 k t box L++P) i=some y:=fun i y hi hib h=>by
  rw[Z9q,vLq (P:=wkH w0 k t box L) fun p hp=>?_]
  ·exact h
  ·rcases wk_names p hp with e|e<;>omega
 have q3:∀x r,L.map recW=x::r->hget (wkH w0 k t box L++P) k=some (57,.arr ((x::r).length*34) 34 (x::r)):=fun x r e=>krq (by
  unfold wkH;rw[zzq,if_neg Xd,e];show hget [(k,_)] k=_;rw[zzq,if_pos rfl])
 have q4:∀{Q:HpW},(∀p∈Q,p.1≠w0/\p.1<b) ->subH P b Q->subH (wkH w0 k t box L++P) b Q:=fun {Q}=>by
  induction Q with
  |nil=>intro _ _;trivial
  |cons p Q ih=>
   intro h1 h2;obtain⟨i,y⟩:=p;have h3:=h1 (i,y) (List.mem_cons_self ..);exact⟨⟨h2.1.1,q2 i y h3.1 h3.2 h2.1.2.1,h2.1.2.2⟩,ih (fun p hp=>h1 p (List.mem_cons_of_mem _ hp)) h2.2⟩
 refine y2q hm hb hk (JGq hf hr) (Ypq (Yoq (q4 hn hP)) ⟨⟨by omega,by rw[kvq Xd,q1,ren_wk,xkq],ref_wk Xd t box L⟩,?_⟩) ?_
 ·cases e:L.map recW with
  |nil=>trivial
  |cons x r=>
   have hpa:purW (.arr ((x::r).length*34) 34 (x::r))=true:=by have:=qRq L;rw[e] at this;exact this
   exact⟨⟨by omega,by rw[xkq,q3 x r e,zmq hpa],zfq hpa⟩,trivial⟩
 ·rw[List.map_append,List.nodup_append];refine⟨nd,wk_nd Xd t box L,fun a ha c hc e=>?_⟩;obtain⟨p,h1,h2⟩:=List.mem_map.1 ha;obtain⟨q,h3,h4⟩:=List.mem_map.1 hc;have:=hn p h1;rcases wk_names q h3 with e'|e'<;>omega
end
attribute [local irreducible] CoW OpW FlW Step Spec
variable {G:Nat->Option W}
theorem told_s(t t':Tree)(box:Dig)(L:List Rec)(r:Rec)(hL:L.length<=1000):qiq cfg G 168 2 [.ptr 0 0,tW t',recW r] (wkH 0 1 t box L) fun w hp nw=>w= .tup []/\hp=wkH 0 2 t' box (L++[r])/\nw=3:=by
 have hl:(L.map recW).length<=1000:=by rw[List.length_map];exact hL
 have hm:(L++[r]).map recW=L.map recW++[recW r]:=by simp
 have hne:L.map recW++[recW r]≠[]:=by simp
 have hpa:∀n,purW (.arr n 34 (L.map recW++[recW r]))=true:=fun n=>by have:=qRq (L++[r]);rw[hm] at this;exact this
 intro R;refine zVq (fn:=Tryz.f168) O O O (Ob rfl) (fun k0=>?_);refine zjq 13 O ?_;refine yqq rfl (ypq O O O (wk_get 1 t box L)) Xr ?_;refine run_f 2 O ?_;refine yqq rfl (yoq O O (jPq [_,_,_,_] (k:=ti57) (news:=[recW r]) O O O O O (ymq O O O O) Xk (by show((L.map recW).length+1)*48<=_;omega) (by show(L.map recW).length+1<=_;omega) rfl Xk)) (evs_G Xr Xr) ?_;refine run_f 2 O ?_;refine yqq rfl (jLq O O O O O (wk_putT 1 t t' box L) rfl) (by generalize L.map recW=l;cases l<;>first|rfl|kernel_rfl) ?_;refine run_f 2 O ?_;refine yqq rfl (jLq O O O O O (wk_put 1 t' box L _ _) rfl) (by generalize L.map recW=l;cases l<;>first|rfl|kernel_rfl) ?_;refine kGq ?_;refine fin (w:=.tup []) (fr2:=[]) (hp2:=[(0,170,.agg 35 [tW t',dW box,.sl 2 0 0 (L.map recW++[recW r]).length 34 none]),(2,57,.arr ((L.map recW++[recW r]).length*34) 34 (L.map recW++[recW r]))]) (nw2:=3) (.inl rfl) (y2q (b:=2) (k:=5) Xd Xd Yd trivial ⟨⟨by omega,?_,?_⟩,⟨by omega,?_,zfq (hpa _)⟩,trivial⟩ Xk) rfl ⟨rfl,rfl,?_,rfl⟩
 ·show some (170,W.agg 35 [tW t',dW box,.sl 5 0 0 _ 34 none])=some (170,renW _ (W.agg 35 [tW t',dW box,.sl 2 0 0 _ 34 none]));simp only[renW,qAq,zmq (jcq t'),zmq (xaq box),xkq]
 ·show(refB 3 (tW t')&&(refB 3 (dW box)&&(refB 3 (W.sl 2 0 0 _ 34 none)&&true)))=true;rw[zfq (jcq t'),zfq (xaq box)];rfl
 ·show some (57,W.arr _ 34 (L.map recW++[recW r]))=some (57,renW _ (W.arr _ 34 (L.map recW++[recW r])));rw[zmq (hpa _)]
 ·unfold wkH wkW;rw[hm,xFq hne,xHq hne]
def DoQ(t:Tree)(m:Nat)(l:List Pr)(box:Dig)(L:List Rec)(r:Rec):W->HpW->Nat->Prop:=fun w hp nw=>∃t' n' t1,IsA t' n' t1/\kjq t m l t' t1/\w= .int .i64 0/\hp=wkH 0 2 t' box (L++[r])/\nw=3
theorem wgive_s(t:Tree)(n:Nat)(t0:T)(h:IsA t n t0)(hl:t.nodes.length<=260944)(d:Depo)(h1:d.number<18446744073709551616)(h2:d.amount<18446744073709551616)(box:Dig)(L:List Rec)(hL:L.length<=1000):qiq cfg glK 94 2 [.ptr 0 0,pdW d] (wkH 0 1 t box L) (DoQ t 257 (gvL t0.all d).1 box L ⟨1,depD d,(gvL t0.all d).2⟩):=by
 obtain⟨g1,g2⟩:=giv_gv h.toIsT d;intro R;refine zVq (fn:=Tryz.f94) O O O (Ob rfl) (fun k0=>?_);refine zjq 13 O ?_
 ((refine yaq rfl (uSq O O O O O (give_s t n t0 d h h2 hl) Xk ?_);rintro w hw ⟨t',n',t1,ht',hgo,rfl⟩;refine⟨by first|rfl|kernel_rfl,?_⟩;rw[g1] at hgo;rw[g2]))
 refine zoq 14 O ?_;refine zgq (w':=.bool true) O O (congrArg W.bool Xh) ?_;refine zaq 7 O ?_;refine yxq O O O O O O (rdepo_s d h1 h2) ?_;refine zoq 2 O ?_
 (refine yaq rfl (uRq 0 1 [(3,_,_),(2,_,_)] (ws:=[.ptr 0 0,tW t',recW ⟨1,depD d,(gvL t0.all d).2⟩]) O O O O (by show [W.ptr 0 0,tW t',recW ⟨1,depD d,(gvL t0.all d).2⟩]=[W.ptr 0 0,renW _ (tW t'),renW _ (recW ⟨1,depD d,(gvL t0.all d).2⟩)];rw[zmq (jcq _),zmq (vxq _)]) Qr rfl Xk Xq (by show 0<4;omega) (by show 1<4;omega) (told_s t t' box L _ hL) ?_);rintro w hp1 nw1 ⟨rfl,rfl,rfl⟩;rw[Zhq];refine⟨by first|rfl|kernel_rfl,?_⟩)
 refine zoq 9 O ?_;exact fin (w:=.int .i64 0) (fr2:=[(4,.int .i64 0)]) (hp2:=wkH 0 2 t' box (L++[⟨1,depD d,(gvL t0.all d).2⟩])) (nw2:=3) (.inr rfl) (Joq (w0:=0) (b:=2) (k:=4) (P:=[(3,_,_),(2,_,_)]) (P2:=[]) Xd Xd Xd Yq ⟨rfl,trivial⟩ ⟨rfl,trivial⟩ rfl trivial Xk Xk) rfl ⟨rfl,t',n',t1,ht',hgo,rfl,rfl,rfl⟩
noncomputable def refX(x:Tx):Nat:=if x.sign=xZq x then 2 else 110
theorem wpay_no(t:Tree)(n:Nat)(t0:T)(h:IsA t n t0)(x:Tx)(hx:x.ok)(box:Dig)(L:List Rec)(hg:¬goX t0.all x):qiq cfg glK 96 2 [.ptr 0 0,txW x] (wkH 0 1 t box L) fun w hp nw=>w= .int .i64 (refX x:Nat)/\hp=[]/\nw=2:=by
 by_cases hs:x.sign=xZq x
 ·have e:refX x=2:=if_pos hs;rw[e];intro R;refine zVq (fn:=Tryz.f96) O O O (Ob rfl) (fun k0=>?_);refine zjq 17 O ?_;refine yxq O O O O O O (pay_nonce t n t0 x hx box h hs (fun q=>hg ⟨hs,q.1,q.2⟩)) ?_;refine zoq 14 O ?_;refine zgq (w':=.bool false) O O (congrArg W.bool Xh) ?_;refine zaq 12 O ?_;exact fin (w:=.int .i64 2) (fr2:=[(4,.int .i64 2)]) (hp2:=[]) (nw2:=2) (.inr rfl) (qmq (nw2:=2) Xd Xd ⟨rfl,trivial⟩ rfl (fun b x hb=>by simp[hget] at hb) Xk) rfl ⟨rfl,rfl,rfl,rfl⟩
 ·have e:refX x=110:=if_neg hs;rw[e];intro R;refine zVq (fn:=Tryz.f96) O O O (Ob rfl) (fun k0=>?_);refine zjq 17 O ?_;refine yxq O O O O O O (pay_sign t n t0 x hx box h hs) ?_;refine zoq 14 O ?_;refine zgq (w':=.bool false) O O (congrArg W.bool Xh) ?_;refine zaq 12 O ?_;exact fin (w:=.int .i64 110) (fr2:=[(4,.int .i64 110)]) (hp2:=[]) (nw2:=2) (.inr rfl) (qmq (nw2:=2) Xd Xd ⟨rfl,trivial⟩ rfl (fun b x hb=>by simp[hget] at hb) Xk) rfl ⟨rfl,rfl,rfl,rfl⟩
theorem wpay_s(t:Tree)(n:Nat)(t0:T)(h:IsA t n t0)(hl:t.nodes.length<=260944)(x:Tx)(hx:x.ok)(box:Dig)(L:List Rec)(hL:L.length<=1000)(hg:goX t0.all x):qiq cfg glK 96 2 [.ptr 0 0,txW x] (wkH 0 1 t box L) (DoQ t 1028 (yYq t0.all x box).1 box L ⟨2,idD x,(yYq t0.all x box).2⟩):=by
 intro R;refine zVq (fn:=Tryz.f96) O O O (Ob rfl) (fun k0=>?_);refine zjq 17 O ?_
 ((refine yaq rfl (uSq O O O O O (pay_s t n t0 x hx box h hg.1 hg.2.1 hg.2.2 hl) Xk ?_);rintro w hw ⟨t',n',t1,ht',hgo,rfl⟩;refine⟨by first|rfl|kernel_rfl,?_⟩))
 refine zoq 14 O ?_;refine zgq (w':=.bool true) O O (congrArg W.bool Xh) ?_;refine zaq 7 O ?_;refine yxq O O O O O O (txid_s x hx) ?_;refine zoq 2 O ?_
 (refine yaq rfl (uRq 0 1 [(3,_,_),(2,_,_)] (ws:=[.ptr 0 0,tW t',recW ⟨2,idD x,(yYq t0.all x box).2⟩]) O O O O (by show [W.ptr 0 0,tW t',recW ⟨2,idD x,(yYq t0.all x box).2⟩]=[W.ptr 0 0,renW _ (tW t'),renW _ (recW ⟨2,idD x,(yYq t0.all x box).2⟩)];rw[zmq (jcq _),zmq (vxq _)]) Qr rfl Xk Xq (by show 0<4;omega) (by show 1<4;omega) (told_s t t' box L _ hL) ?_);rintro w hp1 nw1 ⟨rfl,rfl,rfl⟩;rw[Zhq];refine⟨by first|rfl|kernel_rfl,?_⟩)
 refine zoq 9 O ?_;exact fin (w:=.int .i64 0) (fr2:=[(4,.int .i64 0)]) (hp2:=wkH 0 2 t' box (L++[⟨2,idD x,(yYq t0.all x box).2⟩])) (nw2:=3) (.inr rfl) (Joq (w0:=0) (b:=2) (k:=4) (P:=[(3,_,_),(2,_,_)]) (P2:=[]) Xd Xd Xd Yq ⟨rfl,trivial⟩ ⟨rfl,trivial⟩ rfl trivial Xk Xk) rfl ⟨rfl,t',n',t1,ht',hgo,rfl,rfl,rfl⟩
end
section
attribute [local irreducible] CoW OpW FlW Step Spec
def thr2:Nat->Nat
 |0=>1
 |_+1=>2
theorem thr2_b(i:Nat):thr2 i=1\/thr2 i=2:=by cases i<;>simp[thr2]
theorem Qbq{t t' t2:Tree}{m k:Nat}(h:∃ms,t'.nodes=t.nodes++ms/\ms.length<=m)(h2:∃ms,t2.nodes=t'.nodes++ms/\ms.length<=k):∃ms,t2.nodes=t.nodes++ms/\ms.length<=m+k:=by
 obtain⟨a,ha,ha2⟩:=h;obtain⟨b,hb,hb2⟩:=h2;exact⟨a++b,by rw[hb,ha,List.append_assoc],by rw[List.length_append];omega⟩
noncomputable def badX(box:Dig):List Pr->List Tx->Nat
 |_,[]=>0
 |l,x::xs=>if goX l x then badX box (yYq l x box).1 xs else refX x
theorem uGq{box:Dig}{l:List Pr}{x:Tx}{xs:List Tx}(h:goX l x):doX box l (x::xs)=(match doX box (yYq l x box).1 xs with
      |some r=>some (r.1,⟨2,idD x,(yYq l x box).2⟩::r.2)
      |none=>none):=if_pos h
theorem doX_snoc{box:Dig}{l:List Pr}{us:List Tx}{x:Tx}{r:List Pr×List Rec}(h:doX box l us=some r)(hg:goX r.1 x):doX box l (us++[x])=some ((yYq r.1 x box).1,r.2++[⟨2,idD x,(yYq r.1 x box).2⟩]):=by
 rw[doX_app,h];simp only;rw[uGq hg];rfl
theorem doX_none{box:Dig}{l:List Pr}{us bs:List Tx}{x:Tx}{r:List Pr×List Rec}(h:doX box l us=some r)(hg:¬goX r.1 x):doX box l (us++x::bs)=none:=by
 rw[doX_app,h];simp only;rw[show doX box r.1 (x::bs)=none from if_neg hg]
theorem bad_app{box:Dig}:∀{us bs:List Tx} {l:List Pr} {r:List Pr×List Rec},doX box l us=some r->badX box l (us++bs)=badX box r.1 bs
 |[],bs,l,r,h=>by cases h;rfl
 |x::us,bs,l,r,h=>by
  by_cases hg:goX l x
  ·rw[uGq hg] at h;cases e:doX box (yYq l x box).1 us with
   |none=>rw[e] at h;cases h
   |some q=>
    rw[e] at h;cases h;show(if goX l x then badX box (yYq l x box).1 (us++bs) else refX x)=_;rw[if_pos hg,bad_app e]
  ·rw[show doX box l (x::us)=none from if_neg hg] at h;cases h
theorem bad_no{box:Dig}:∀{xs:List Tx} {l:List Pr},doX box l xs=none->badX box l xs=2\/badX box l xs=110
 |[],l,h=>by cases h
 |x::xs,l,h=>by
  by_cases hg:goX l x
  ·rw[uGq hg] at h;cases e:doX box (yYq l x box).1 xs with
   |some q=>rw[e] at h;cases h
   |none=>
    show(if goX l x then badX box (yYq l x box).1 xs else refX x)=2\/(if goX l x then badX box (yYq l x box).1 xs else refX x)=110;rw[if_pos hg];exact bad_no e
  ·show(if goX l x then badX box (yYq l x box).1 xs else refX x)=2\/(if goX l x then badX box (yYq l x box).1 xs else refX x)=110;rw[if_neg hg];unfold refX;split
   ·exact .inl rfl
   ·exact .inr rfl
def EdQ(t:Tree)(t0:T)(box:Dig)(L:List Rec)(ds:List Depo):W->HpW->Nat->Prop:=fun w hp nw=>∃t' n' t1,IsA t' n' t1/\kjq t (257*ds.length) (doD t0.all ds).1 t' t1/\w= .int .i64 0/\hp=wkH 0 (thr2 ds.length) t' box (L++(doD t0.all ds).2)/\nw=3
def ExQ(t:Tree)(t0:T)(box:Dig)(L:List Rec)(xs:List Tx):W->HpW->Nat->Prop:=fun w hp nw=>(∃t' n' t1 rs,IsA t' n' t1/\kjq t (1028*xs.length) t1.all t' t1/\doX box t0.all xs=some (t1.all,rs)/\w= .int .i64 0/\hp=wkH 0 (thr2 xs.length) t' box (L++rs)/\nw=3)\/(doX box t0.all xs=none/\w= .int .i64 (badX box t0.all xs:Nat)/\hp=[]/\nw=2)
theorem eachd_s(t:Tree)(n:Nat)(t0:T)(h:IsA t n t0)(box:Dig)(L:List Rec)(ds:List Depo)(f:Bool)(hds:∀d∈ds,d.number<18446744073709551616/\d.amount<18446744073709551616)(hn:ds.length<=16)(hL:L.length<=100)(hl:t.nodes.length+257*ds.length<=260944):qiq cfg glK 93 2 [.fz (ds.map pdW) 34 f,.fn 94 [.ptr 0 0] []] (wkH 0 1 t box L) (EdQ t t0 box L ds):=by
 have e:(ds.map pdW).length=ds.length:=List.length_map _;have pf:purW (.fz (ds.map pdW) 34 f)=true:=qqq Zmq ds;intro R;refine zVq (fn:=Tryz.f93) O O O (Ob rfl) (fun k0=>?_);refine zjq 9 O ?_;refine zgq (w':=.int .i64 (ds.length:Int)) O O Xy ?_;refine zaq 4 O ?_;refine qBq (α:=Nat×Tree×List Rec) (fun p=>p.1<=ds.length/\p.2.2.length<=p.1/\∃n1 t1,IsA p.2.1 n1 t1/\(∃ms,p.2.1.nodes=t.nodes++ms/\ms.length<=257*p.1)/\doD t0.all (ds.take p.1)=(t1.all,p.2.2)) (fun p=>[(10,.int .i64 (p.1:Int)),(1,.fn 94 [.ptr 0 0] []),(8,.fz (ds.map pdW) 34 f),(9,.int .i64 (ds.length:Int))]) (fun p=>wkH 0 (thr2 p.1) p.2.1 box (L++p.2.2)) (fun _=>3) (fun _=>R) (fun p=>ds.length-p.1) (0,t,[]) ⟨Nat.zero_le _,Nat.le_refl _,n,t0,h,⟨[],by simp,by simp⟩,rfl⟩ ((unq (fr2:=[(10,.int .i64 0),(1,.fn 94 [.ptr 0 0] []),(8,.fz (ds.map pdW) 34 f),(9,.int .i64 (ds.length:Int))]) ⟨rfl,rfl,rfl,rfl,trivial⟩).trans (ylq ⟨rfl,rfl,rfl,rfl,trivial⟩ (by show wkH 0 1 t box L=wkH 0 1 t box (L++[]);rw[List.append_nil]) rfl)) (fun p hI=>?_);skip
 obtain⟨i,t',rs⟩:=p;obtain⟨hi,hrl,n1,t1,hT,hms,hst⟩:=hI;simp only at hi hrl hT hms hst⊢;have hle:=ext_le hms;have hth:=thr2_b i;refine zjq 6 O ?_;refine zyq rfl (fun h1=>?_) (fun h1=>?_)
 ·have hi2:i<ds.length:=by omega
  have hLL:(L++rs).length<=1000:=by rw[List.length_append];omega
  obtain⟨d,hx⟩:∃d,ds[i]? =some d:=⟨_,List.getElem?_eq_getElem hi2⟩
  have hxm:=List.mem_of_getElem? hx;have htk:ds.take (i+1)=ds.take i++[d]:=by rw[List.take_add_one,hx];rfl
  refine zeq 6 O ?_;refine zbq rfl (zBq (i:=i) O O O O O O O (zYq pdW hx)) ?_;refine zaq 9 O ?_
  (refine zrq rfl (uRq 0 (thr2 i) [(3,_,_)] (ws:=[.ptr 0 0,pdW d]) O O O O (by show [W.ptr 0 0,pdW d]=[W.ptr 0 0,renW _ (pdW d)];rw[zmq (Zmq d)]) (by show(true&&(refB 2 (pdW d)&&true))=true;rw[zfq (Zmq d)];rfl) rfl Xu Xd (by show 0<4;omega) (by show thr2 i<4;omega) (wgive_s t' n1 t1 hT Xd d (hds d hxm).1 (hds d hxm).2 box (L++rs) hLL) ?_);rintro w hp1 nw1 ⟨t2,n2,t3,h2,hgo,rfl,rfl,rfl⟩;rw[Zhq])
  refine zaq 6 O ?_;refine zgq (w':=.bool false) O O (congrArg W.bool Xh) ?_;refine zaq 7 O ?_;refine zlq (i+1) O O Xi ⟨by omega,by omega⟩ ?_;refine yyq 2 O ?_;skip
  exact ywq (i+1,t2,rs++[⟨1,depD d,(gvL t1.all d).2⟩]) ⟨hi2,by simp only[List.length_append,List.length_cons,List.length_nil];omega,n2,t3,h2,Qaq (Qbq hms hgo.2) Yh,by rw[htk,doD_app,hst,hgo.1];rfl⟩ Yh (Ent.trans (Joq (w0:=0) (b:=2) (k:=4) (P:=[(3,_,_)]) (P2:=[]) (fr2:=[(10,.int .i64 ((i+1:Nat):Int)),(1,.fn 94 [.ptr 0 0] []),(8,.fz (ds.map pdW) 34 f),(9,.int .i64 (ds.length:Int))]) Xd Xd Xd Yq ⟨rfl,rfl,rfl,rfl,trivial⟩ ⟨rfl,rfl,zfq pf,rfl,trivial⟩ rfl trivial Xk Xk) (ylq ⟨rfl,rfl,rfl,rfl,trivial⟩ (by show wkH 0 2 t2 box ((L++rs)++[⟨1,depD d,(gvL t1.all d).2⟩])=wkH 0 2 t2 box (L++(rs++[⟨1,depD d,(gvL t1.all d).2⟩]));rw[List.append_assoc L rs]) rfl))
 ·have hi3:i=ds.length:=by omega
  subst hi3;rw[List.take_length] at hst;refine zeq 2 O ?_;refine qoq Xj ?_;refine zCq 8 O ?_;exact fin (w:=.int .i64 0) (.inr rfl) (ylq (fr2:=[(4,.int .i64 0)]) ⟨rfl,trivial⟩ O O) rfl ⟨rfl,t',n1,t1,hT,⟨by rw[hst],hms⟩,rfl,by rw[hst],rfl⟩
theorem eachx_s(t:Tree)(n:Nat)(t0:T)(h:IsA t n t0)(box:Dig)(L:List Rec)(xs:List Tx)(f:Bool)(hxs:∀x∈xs,x.ok)(hn:xs.length<=16)(hL:L.length<=100)(hl:t.nodes.length+1028*xs.length<=260944):qiq cfg glK 95 2 [.fz (xs.map txW) 99 f,.fn 96 [.ptr 0 0] []] (wkH 0 1 t box L) (ExQ t t0 box L xs):=by
 have e:(xs.map txW).length=xs.length:=List.length_map _;have pf:purW (.fz (xs.map txW) 99 f)=true:=qqq jSq xs;intro R;refine zVq (fn:=Tryz.f95) O O O (Ob rfl) (fun k0=>?_);refine zjq 9 O ?_;refine zgq (w':=.int .i64 (xs.length:Int)) O O Xy ?_;refine zaq 4 O ?_;refine qBq (α:=Nat×Tree×List Rec) (fun p=>p.1<=xs.length/\p.2.2.length<=p.1/\∃n1 t1,IsA p.2.1 n1 t1/\(∃ms,p.2.1.nodes=t.nodes++ms/\ms.length<=1028*p.1)/\doX box t0.all (xs.take p.1)=some (t1.all,p.2.2)) (fun p=>[(10,.int .i64 (p.1:Int)),(1,.fn 96 [.ptr 0 0] []),(8,.fz (xs.map txW) 99 f),(9,.int .i64 (xs.length:Int))]) (fun p=>wkH 0 (thr2 p.1) p.2.1 box (L++p.2.2)) (fun _=>3) (fun _=>R) (fun p=>xs.length-p.1) (0,t,[]) ⟨Nat.zero_le _,Nat.le_refl _,n,t0,h,⟨[],by simp,by simp⟩,rfl⟩ ((unq (fr2:=[(10,.int .i64 0),(1,.fn 96 [.ptr 0 0] []),(8,.fz (xs.map txW) 99 f),(9,.int .i64 (xs.length:Int))]) ⟨rfl,rfl,rfl,rfl,trivial⟩).trans (ylq ⟨rfl,rfl,rfl,rfl,trivial⟩ (by show wkH 0 1 t box L=wkH 0 1 t box (L++[]);rw[List.append_nil]) rfl)) (fun p hI=>?_);skip
 obtain⟨i,t',rs⟩:=p;obtain⟨hi,hrl,n1,t1,hT,hms,hst⟩:=hI;simp only at hi hrl hT hms hst⊢;have hle:=ext_le hms;have hth:=thr2_b i;refine zjq 6 O ?_;refine zyq rfl (fun h1=>?_) (fun h1=>?_)
 ·have hi2:i<xs.length:=by omega
  have hLL:(L++rs).length<=1000:=by rw[List.length_append];omega
  obtain⟨x,hx⟩:∃x,xs[i]? =some x:=⟨_,List.getElem?_eq_getElem hi2⟩
  have hxm:=List.mem_of_getElem? hx;have htk:xs.take (i+1)=xs.take i++[x]:=by rw[List.take_add_one,hx];rfl
  skip
  by_cases hg:goX t1.all x
  ·refine zeq 6 O ?_;refine zbq rfl (zBq (i:=i) O O O O O O O (zYq txW hx)) ?_;refine zaq 9 O ?_
   (refine zrq rfl (uRq 0 (thr2 i) [(3,_,_)] (ws:=[.ptr 0 0,txW x]) O O O O Jk (by show(true&&(refB 2 (txW x)&&true))=true;rw[zfq (jSq x)];rfl) rfl Xu Xd (by show 0<4;omega) (by show thr2 i<4;omega) (wpay_s t' n1 t1 hT Xd x (hxs x hxm) box (L++rs) hLL hg) ?_);rintro w hp1 nw1 ⟨t2,n2,t3,h2,hgo,rfl,rfl,rfl⟩;rw[Zhq])
   refine zaq 6 O ?_;refine zgq (w':=.bool false) O O (congrArg W.bool Xh) ?_;refine zaq 7 O ?_;refine zlq (i+1) O O Xi ⟨by omega,by omega⟩ ?_;refine yyq 2 O ?_;skip
   exact ywq (i+1,t2,rs++[⟨2,idD x,(yYq t1.all x box).2⟩]) ⟨hi2,by simp only[List.length_append,List.length_cons,List.length_nil];omega,n2,t3,h2,Qaq (Qbq hms hgo.2) Yh,by rw[htk,doX_snoc hst hg,hgo.1]⟩ Yh (Ent.trans (Joq (w0:=0) (b:=2) (k:=4) (P:=[(3,_,_)]) (P2:=[]) (fr2:=[(10,.int .i64 ((i+1:Nat):Int)),(1,.fn 96 [.ptr 0 0] []),(8,.fz (xs.map txW) 99 f),(9,.int .i64 (xs.length:Int))]) Xd Xd Xd Yq ⟨rfl,rfl,rfl,rfl,trivial⟩ ⟨rfl,rfl,zfq pf,rfl,trivial⟩ rfl trivial Xk Xk) (ylq ⟨rfl,rfl,rfl,rfl,trivial⟩ (by show wkH 0 2 t2 box ((L++rs)++[⟨2,idD x,(yYq t1.all x box).2⟩])=wkH 0 2 t2 box (L++(rs++[⟨2,idD x,(yYq t1.all x box).2⟩]));rw[List.append_assoc L rs]) rfl))
  ·have hnb:refX x≠0:=by unfold refX;split<;>omega
   refine zeq 6 O ?_;refine zbq rfl (zBq (i:=i) O O O O O O O (zYq txW hx)) ?_;refine zaq 9 O ?_
   (refine zrq rfl (uRq 0 (thr2 i) [(3,_,_)] (ws:=[.ptr 0 0,txW x]) O O O O Jk (by show(true&&(refB 2 (txW x)&&true))=true;rw[zfq (jSq x)];rfl) rfl Xu Xd (by show 0<4;omega) (by show thr2 i<4;omega) (wpay_no t' n1 t1 hT x (hxs x hxm) box (L++rs) hg) ?_);rintro w hp1 nw1 ⟨rfl,rfl,rfl⟩)
   refine zaq 6 O ?_;refine zgq (w':=.bool true) O O (congrArg (fun b=>W.bool (!b)) (eqI_not.2 Xd)) ?_;refine zaq 12 O ?_;refine qoq Xj ?_;refine zCq 2 O ?_;have hdr:xs=xs.take i++x::xs.drop (i+1):=by rw[<-Qgq hx,List.take_append_drop]
   refine fin (w:=.int .i64 (refX x:Nat)) (fr2:=[(4,.int .i64 (refX x:Nat))]) (hp2:=[]) (nw2:=2) (.inr rfl) (qmq (nw2:=2) Xd (by show 2<=4;omega) ⟨rfl,trivial⟩ rfl (fun b x hb=>by simp[hget] at hb) Xk) rfl ⟨rfl,.inr ⟨?_,?_,rfl,rfl⟩⟩
   ·rw[hdr];exact doX_none hst hg
   ·rw[hdr,bad_app hst];show _=W.int .i64 ((badX box t1.all (x::_):Nat):Int);rw[show badX box t1.all (x::xs.drop (i+1))=refX x from if_neg hg]
 ·have hi3:i=xs.length:=by omega
  subst hi3;rw[List.take_length] at hst;refine zeq 2 O ?_;refine qoq Xj ?_;refine zCq 8 O ?_;exact fin (w:=.int .i64 0) (.inr rfl) (ylq (fr2:=[(4,.int .i64 0)]) ⟨rfl,trivial⟩ O O) rfl ⟨rfl,.inl ⟨t',n1,t1,rs,hT,⟨rfl,hms⟩,hst,rfl,rfl,rfl⟩⟩
end
noncomputable def bodW(ds:List Depo)(xs:List Tx)(f g:Bool):W:=.agg 2 [.fz (ds.map pdW) 34 f,.fz (xs.map txW) 99 g]
@[simp] theorem Kwq(ds:List Depo)(xs:List Tx)(f g:Bool):purW (bodW ds xs f g)=true:=by
 have h1:purW (.fz (ds.map pdW) 34 f)=true:=qqq Zmq ds;have h2:purW (.fz (xs.map txW) 99 g)=true:=qqq jSq xs;show(purW (.fz (ds.map pdW) 34 f)&&(purW (.fz (xs.map txW) 99 g)&&true))=true;rw[h1,h2];rfl
@[simp] theorem pdl_pur(l:List Depo):purL (l.map pdW)=true:=qqq Zmq l
@[simp] theorem txl_pur(l:List Tx):purL (l.map txW)=true:=qqq jSq l
structure RcI where
 kind:UInt8
 id:Dig
 code:Int
noncomputable def rcW(r:RcI):W:=.agg 34 [.int .u8 (.ofNat r.kind.toNat),dW r.id,.int .i64 r.code]
@[simp] theorem rcW_pur(r:RcI):purW (rcW r)=true:=by simp[rcW]
@[simp] theorem rcl_pur(l:List RcI):purL (l.map rcW)=true:=qqq rcW_pur l
structure Lk where
 hdr:Hdr
 root:Int
 ds:List Depo
 xs:List Tx
 rs:List RcI
noncomputable def lkG(l:Lk):W:=.agg 102 [hdW l.hdr,.int .i64 l.root,bodW l.ds l.xs false false,.fz (l.rs.map rcW) 34 false]
@[simp] theorem lkG_pur(l:Lk):purW (lkG l)=true:=by
 have h:purW (.fz (l.rs.map rcW) 34 false)=true:=qqq rcW_pur l.rs;show(purW (hdW l.hdr)&&(true&&(purW (bodW l.ds l.xs false false)&&(purW (.fz (l.rs.map rcW) 34 false)&&true))))=true;rw[h,J9q,Kwq];rfl
@[simp] theorem lks_pur(l:List Lk):purL (l.map lkG)=true:=qqq lkG_pur l
structure Ch where
 tree:Tree
 links:List Lk
noncomputable def chG(c:Ch):W:=.agg 3 [tW c.tree,.fz (c.links.map lkG) 102 false]
@[simp] theorem chG_pur(c:Ch):purW (chG c)=true:=by
 show(purW (tW c.tree)&&(purW (.fz (c.links.map lkG) 102 false)&&true))=true;rw[jcq,show purW (.fz (c.links.map lkG) 102 false)=true from lks_pur _];rfl
structure Vw where
 number:Int
 down:Bool
 final:Int
 ch:Ch
noncomputable def vwG(v:Vw):W:=.agg 6 [.int .i64 v.number,.bool v.down,.int .i64 v.final,chG v.ch]
@[simp] theorem vwG_pur(v:Vw):purW (vwG v)=true:=by
 show(true&&(true&&(true&&(purW (chG v.ch)&&true))))=true;rw[chG_pur];rfl
def BodyM(ds:List Depo)(xs:List Tx):Prop:=ds.length<=16/\xs.length<=16/\∀x∈xs,x.sign=xZq x
section
section
variable {C:Cfg} {G:Nat->Option W} {m k0:Nat} {fr fr2:FrW} {hp hp2:HpW} {nw nw2:Nat} {R:Res}
theorem ent_viewH(hf:subV (fun _=>none) fr fr2)(hh:∀k ty w,hget hp2 k=some (ty,w) ->∃w0,hget hp k=some (ty,w0)/\View (fun _=>none) w0 w)(nd:(hp2.map (·.1)).Nodup):Ent C G m k0 fr hp nw R fr2 hp2 nw R:=fun Γ X st h1 _ s=>by
 have q:Seen (fun _=>none) Γ Γ:=⟨fun _ h _=>h,fun _ _ _=>rfl,fun _ h=>h,fun _ _=>rfl,fun _ _ _ h=>Qm⟩
 have howns:∀{c},Owns Γ hp2 c->Owns Γ hp c:=fun {c} h=>by
  obtain⟨k,y,h1,h2⟩:=h;obtain⟨w0,g1,_⟩:=hh k y.1 y.2 h1;exact⟨k,_,g1,h2⟩
 refine⟨Γ,X,h1,⟨s.hh,fun t w hw=>?_,⟨s.sat.wf,fun k ty w h=>?_,fun k k' y z hy hz e=>?_,nd,s.sat.dX,s.sat.xlt,s.sat.dlt,s.sat.res,s.sat.gl⟩,fun d hd=>?_,s.nd⟩,?_⟩
 ·obtain⟨w0,g1,g2⟩:=uyq hf t w hw;obtain⟨u,g3,g4⟩:=s.fr _ _ g1;exact⟨u,g3,kUq q g2 g4⟩
 ·obtain⟨w0,g1,g2⟩:=hh k ty w h;obtain⟨q1,q2,q3,u,q4,q5⟩:=s.sat.own _ _ _ g1;exact⟨q1,q2,q3,u,q4,kUq q g2 q5⟩
 ·obtain⟨w0,g1,_⟩:=hh k y.1 y.2 hy;obtain⟨w1,g2,_⟩:=hh k' z.1 z.2 hz;exact s.sat.inj k k' _ _ g1 g2 e
 ·obtain⟨q1,q2,q3,q4,q5⟩:=s.ds d hd;exact⟨q1,q2,q3,fun h=>q4 (howns h),q5⟩
 ·exact⟨fun _ _=>rfl,fun h=>h,Nat.le_refl _,fun _ _ _ _=>rfl,fun _ h=>h,fun _ h=>.inl h,fun k y _ h=>(by obtain⟨w0,g1,_⟩:=hh k y.1 y.2 h;exact⟨_,g1⟩),fun k y hk h=>(by obtain⟨w0,g1,_⟩:=hh k y.1 y.2 h;exact .inr ⟨k,_,hk,g1,rfl⟩),fun _ h=>.inl h,fun _ h _ _=>h⟩
end
attribute [local irreducible] CoW OpW FlW Step Spec
def hdZ:Hdr:=⟨0,qHq,qHq,qHq,0⟩
noncomputable def refW(c:Nat):W:=.tup [noT,hdW hdZ,.nils,.int .i64 (c:Int)]
theorem ref_w(c:Nat):W.tup [noT,.agg 98 [.int .i64 0,yRq,yRq,yRq,.int .i64 0],.nils,.int .i64 (c:Int)]=refW c:=by
 unfold refW hdW hdZ;rw[<-xMq];rfl
def MayBk(t:Tree)(p:Hdr):Prop:=MayA t/\okH p/\p.height≠1073741824
theorem apply_bad(t:Tree)(p:Hdr)(ds:List Depo)(xs:List Tx)(f g:Bool)(box:Dig)(hb:t.nodes.length<=4611686018427387903)(h:¬MayBk t p):PS cfg glK 19 [tW t,hdW p,bodW ds xs f g,dW box] (refW 8):=by
 by_cases hA:MayA t
 ·have c:=jjq (G:=glK) t hb;rw[if_pos hA] at c;by_cases hB:okH p
  ·have hC:p.height=1073741824:=Classical.byContradiction fun q=>h ⟨hA,hB,q⟩
   refine zFq (fn:=Tryz.f19) O O O (Ob rfl) (fun R k0=>?_);refine zjq 15 O ?_;refine zkq O O O O O O (J6q p hB) ?_;refine zaq 13 O ?_;refine zkq O O O O O O (c) ?_;refine zgq (w':=.bool false) O O (congrArg W.bool Xh) ?_;refine zaq 2 O ?_;refine zgq (w':=.bool false) O O (congrArg W.bool Xh) ?_;refine zaq 4 O ?_;refine zgq (w':=.bool true) O O (congrArg W.bool (eqI_iff.2 hC)) ?_;refine zaq 18 O ?_;exact zhq (.inr rfl) rfl (ref_w _)
  ·skip
   refine zFq (fn:=Tryz.f19) O O O (Ob rfl) (fun R k0=>?_);refine zjq 15 O ?_;refine zkq O O O O O O (hhash_no p hB) ?_;refine zaq 13 O ?_;refine zkq O O O O O O (c) ?_;refine zgq (w':=.bool false) O O (congrArg W.bool Xh) ?_;refine zaq 2 O ?_;refine zgq (w':=.bool true) O O (congrArg W.bool Xh) ?_;refine zaq 23 O ?_;exact zhq (.inr rfl) rfl (ref_w _)
 ·have c:=jjq (G:=glK) t hb;rw[if_neg hA] at c;by_cases hB:okH p
  ·skip
   refine zFq (fn:=Tryz.f19) O O O (Ob rfl) (fun R k0=>?_);refine zjq 15 O ?_;refine zkq O O O O O O (J6q p hB) ?_;refine zaq 13 O ?_;refine zkq O O O O O O (c) ?_;refine zgq (w':=.bool true) O O (congrArg W.bool Xh) ?_;refine zaq 26 O ?_;exact zhq (.inr rfl) rfl (ref_w _)
  ·skip
   refine zFq (fn:=Tryz.f19) O O O (Ob rfl) (fun R k0=>?_);refine zjq 15 O ?_;refine zkq O O O O O O (hhash_no p hB) ?_;refine zaq 13 O ?_;refine zkq O O O O O O (c) ?_;refine zgq (w':=.bool true) O O (congrArg W.bool Xh) ?_;refine zaq 26 O ?_;exact zhq (.inr rfl) rfl (ref_w _)
theorem max_op{m n:Nat}{k:IntKind}:W.int k (match ltI (m:Int) (n:Int) with|true=>(n:Int)|false=>(m:Int))= .int k ((max m n:Nat):Int):=by
 cases h:ltI (m:Int) (n:Int) with
 |true=>have:=ltI_iff.1 h;exact congrArg (W.int k) (by show(n:Int)=_;omega)
 | false => have:¬((m:Int)<n):=fun q=>by rw[ltI_iff.2 q] at h;cases h
            exact congrArg (W.int k) (by show(m:Int)=_;omega)
theorem apply_many(t:Tree)(p:Hdr)(ds:List Depo)(xs:List Tx)(f g:Bool)(box:Dig)(hb:t.nodes.length<=4611686018427387903)(h:MayBk t p)(hm:16<ds.length\/16<xs.length):PS cfg glK 19 [tW t,hdW p,bodW ds xs f g,dW box] (refW 4):=by
 have c:=jjq (G:=glK) t hb;rw[if_pos h.1] at c;have e1:(ds.map pdW).length=ds.length:=List.length_map _;have e2:(xs.map txW).length=xs.length:=List.length_map _;refine zFq (fn:=Tryz.f19) O O O (Ob rfl) (fun R k0=>?_);refine zjq 15 O ?_;refine zkq O O O O O O (J6q p h.2.1) ?_;refine zaq 13 O ?_;refine zkq O O O O O O (c) ?_;refine zgq (w':=.bool false) O O (congrArg W.bool Xh) ?_;refine zaq 2 O ?_;refine zgq (w':=.bool false) O O (congrArg W.bool Xh) ?_;refine zaq 4 O ?_;refine zgq (w':=.bool false) O O (congrArg W.bool (eqI_not.2 h.2.2)) ?_;refine zaq 9 O ?_;refine zgq (w':=.int .i64 (ds.length:Int)) O O Yv ?_;refine zaq 2 O ?_;refine zgq (w':=.int .i64 (xs.length:Int)) O O Yr ?_;refine zgq (w':=.int .i64 ((max ds.length xs.length:Nat):Int)) O O max_op (zgq (w':=.bool true) O O (congrArg W.bool (ltI_iff.2 Xd)) ?_);refine zaq 17 O ?_;exact zhq (.inr rfl) rfl (ref_w _)
end
section
theorem uQq{blk:Nat->Option W}{b:Nat}{P H:HpW}:∀{Q:HpW},Ynq blk b P Q->Ynq blk b (P++H) Q
 |[],_=>trivial
 |(k,ty,w)::Q,h=>by
  obtain⟨⟨h1,w0,h2,h3⟩,h4⟩:=h;exact⟨⟨h1,w0,krq h2,h3⟩,uQq h4⟩
noncomputable def wkF(t:Tree)(box:Dig)(L:List Rec):W:=.agg 35 [tW t,dW box,.fz (L.map recW) 34 false]
@[simp] theorem wkF_pur(t:Tree)(box:Dig)(L:List Rec):purW (wkF t box L)=true:=by
 show(purW (tW t)&&(purW (dW box)&&(purW (.fz (L.map recW) 34 false)&&true)))=true;rw[jcq,xaq,show purW (.fz (L.map recW) 34 false)=true from qRq L];rfl
theorem ent_wkF{G:Nat->Option W}{m k0:Nat}{fr fr2:FrW}{nw:Nat}{R:Res}{P P2:HpW}{w0 k:Nat}{t:Tree}{box:Dig}{L:List Rec}(hm:m<=k)(hw:w0≠k)(hf:∀blk:Nat->Option W,(∀i,i≠k->blk i=none) ->subV blk fr fr2)(hP:∀blk:Nat->Option W,(∀i,i≠k->blk i=none) ->Ynq blk k P P2)(hPk:∀p∈P,p.1≠w0/\p.1≠k)(nd:((P2++([(w0,170,wkF t box L)]:HpW)).map (·.1)).Nodup):Ent cfg G m k0 fr (P++wkH w0 k t box L) nw R fr2 (P2++[(w0,170,wkF t box L)]) nw R:=by
 have h1:=hget_wk (w0:=w0) (k:=k) (P:=P) (t:=t) (box:=box) (L:=L) fun p hp=>(hPk p hp).1
 have hpl:=qRq L;cases e:L.map recW with
 |nil=>
  have key:Ynq (fun _=>none) k (P++wkH w0 k t box L) (P2++[(w0,170,wkF t box L)]):=Ymq (uQq (hP _ fun _ _=>rfl)) ⟨⟨hw,_,h1,by unfold wkW wkF;rw[e];exact .agg (.cons (.pur (jcq t)) (.cons (.pur (xaq box)) (.cons .nilfz .nil)))⟩,trivial⟩;exact ent_viewH (hf _ fun _ _=>rfl) (fun i ty w h=>(Ylq key i ty w h).2) nd
 |cons x r=>
  have hpa:purW (.arr ((x::r).length*34) 34 (x::r))=true:=by rw[e] at hpl;exact hpl
  have hne:∀i,i≠k->blk1 k (.arr ((x::r).length*34) 34 (x::r)) i=none:=fun i hi=>by
   unfold blk1
   have:Nat.beq i k=false:=by
    cases q:Nat.beq i k with
    |true=>exact absurd (Nat.eq_of_beq_eq_true q) hi
    |false=>rfl
   rw[this]
  exact Zvq k fr2 _ (hget_wkl (fun p hp=>(hPk p hp).2) hw e) hpa hm (hf _ hne) (Ymq (uQq (hP _ hne)) ⟨⟨hw,_,h1,by unfold wkW wkF;rw[e];exact .agg (.cons (.pur (jcq t)) (.cons (.pur (xaq box)) (.cons (.sl (c:=.arr ((x::r).length*34) 34 (x::r)) (by unfold blk1;rw[Nat.beq_refl]) hpa (zpq Xq O O) Xj) .nil)))⟩,trivial⟩) nd
attribute [local irreducible] CoW OpW FlW Step Spec
attribute [local simp] qRq
@[local simp] theorem rws_pur(L:List Rec):purL (L.map (bW∘recB))=true:=qqq (fun r=>by simp) L
@[local simp] theorem rws_pur2(L:List Rec)(i:Nat):purL ((L.map (bW∘recB)).take i)=true:=by rw[<-List.map_take];exact rws_pur _
theorem gv_code(l:List Pr)(d:Depo):(gvL l d).2=0\/(gvL l d).2=151:=by
 unfold gvL;split
 ·exact .inl rfl
 ·exact .inr rfl
theorem paid_code(l:List Pr)(x:Tx)(box:Dig):(yYq l x box).2=0\/(yYq l x box).2=151\/(yYq l x box).2=150:=by
 unfold yYq;split
 ·split
  ·exact .inr (.inl rfl)
  ·split
   ·exact .inr (.inl rfl)
   ·exact .inl rfl
 ·exact .inr (.inr rfl)
theorem doD_rec:∀{ds:List Depo} {l:List Pr},∀r∈(doD l ds).2,r.kind=1/\okR r
 |[],l,r,h=>by cases h
 |d::ds,l,r,h=>by
  rcases List.mem_cons.1 h with rfl|h
  ·exact⟨rfl,.inl rfl,by rcases gv_code l d with e|e<;>simp[e]⟩
  ·exact doD_rec r h
theorem doX_rec{box:Dig}:∀{xs:List Tx} {l:List Pr} {q:List Pr×List Rec},doX box l xs=some q->∀r∈q.2,r.kind=2/\okR r
 |[],l,q,e,r,h=>by cases e;cases h
 |x::xs,l,q,e,r,h=>by
  by_cases hg:goX l x
  ·rw[uGq hg] at e;cases e2:doX box (yYq l x box).1 xs with
   |none=>rw[e2] at e;cases e
   |some s=>
    rw[e2] at e;cases e;rcases List.mem_cons.1 h with rfl|h
    ·exact⟨rfl,.inr rfl,by rcases paid_code l x box with e|e|e<;>simp[e]⟩
    ·exact doX_rec e2 r h
  ·rw[show doX box l (x::xs)=none from if_neg hg] at e;cases e
theorem Qhq{box:Dig}:∀{xs:List Tx} {l:List Pr} {q:List Pr×List Rec},doX box l xs=some q->q.2.length=xs.length
 |[],l,q,e=>by cases e;rfl
 |x::xs,l,q,e=>by
  by_cases hg:goX l x
  ·rw[uGq hg] at e;cases e2:doX box (yYq l x box).1 xs with
   |none=>rw[e2] at e;cases e
   |some s=>
    rw[e2] at e;cases e;exact congrArg (· +1) (Qhq e2)
  ·rw[show doX box l (x::xs)=none from if_neg hg] at e;cases e
theorem Zwq:∀(ds:List Depo) (l:List Pr),(doD l ds).2.length=ds.length
 |[],l=>rfl
 |d::ds,l=>congrArg (· +1) (Zwq ds (gvL l d).1)
noncomputable def headD(p:Hdr)(t1:T)(L:List Rec):Hdr:=⟨p.height+1,hashD p,sumD t1,rootD (L.map recB),L.length⟩
def ApA(t:Tree)(t0:T)(p:Hdr)(ds:List Depo)(xs:List Tx)(box:Dig):W->Prop:=fun w=>(∃t' n' t1 rs,IsA t' n' t1/\kjq t (257*ds.length+1028*xs.length) t1.all t' t1/\doX box (doD t0.all ds).1 xs=some (t1.all,rs)/\w= .tup [tW t',hdW (headD p t1 ((doD t0.all ds).2++rs)),.fz (((doD t0.all ds).2++rs).map recW) 34 false,.int .i64 0])\/(doX box (doD t0.all ds).1 xs=none/\w=refW (badX box (doD t0.all ds).1 xs))
noncomputable def apP(p:Hdr)(ds:List Depo)(xs:List Tx)(f g:Bool):HpW:=[(1,28,hdW p),(2,32,bodW ds xs f g),(4,24,noT),(5,28,.agg 98 [.int .i64 0,yRq,yRq,yRq,.int .i64 0]),(6,26,dW (hashD p))]
theorem ap_sub(p:Hdr)(ds:List Depo)(xs:List Tx)(f g:Bool):subH (apP p ds xs f g) 8 (apP p ds xs f g):=⟨⟨by decide,rfl,zfq (J9q p)⟩,⟨by decide,rfl,zfq (Kwq ds xs f g)⟩,⟨by decide,rfl,rfl⟩,⟨by decide,rfl,rfl⟩,⟨by decide,rfl,zfq (xaq _)⟩,trivial⟩
theorem numC_thr(n:Nat):numC [7,8] 9 (thr2 n)=8\/numC [7,8] 9 (thr2 n)=9:=by
 cases n with
 |zero=>exact .inl rfl
 |succ n=>exact .inr rfl
theorem apply_s(t:Tree)(n:Nat)(t0:T)(hA:IsA t n t0)(p:Hdr)(hp:okH p)(hp2:p.height≠1073741824)(ds:List Depo)(xs:List Tx)(f g:Bool)(hds:∀d∈ds,d.number<18446744073709551616/\d.amount<18446744073709551616)(hxs:∀x∈xs,x.ok)(box:Dig)(hm:ds.length<=16/\xs.length<=16)(hf:t.nodes.length+300*ds.length+1200*xs.length<=260944):PE cfg glK 19 [tW t,hdW p,bodW ds xs f g,dW box] (ApA t t0 p ds xs box):=by
 have yes:MayA t:=⟨n,t0,hA⟩;obtain⟨q1,q2,q3,q4⟩:=hp;have c:=jjq (G:=glK) t Xd;rw[if_pos yes] at c;have hvals:∀x∈t.nodes,x.val.length<=70368744177664:=IsT.vals (root:=t.root) hA.toIsT
 have e0:(t.nodes.map nW).length=t.nodes.length:=List.length_map _;have e1:(ds.map pdW).length=ds.length:=List.length_map _;have e2:(xs.map txW).length=xs.length:=List.length_map _;have pfd:purW (.fz (ds.map pdW) 34 f)=true:=qqq Zmq ds;have pfx:purW (.fz (xs.map txW) 99 g)=true:=qqq jSq xs;unfold ApA;have hdl:=Zwq ds t0.all;have hdr:= @doD_rec ds t0.all;obtain⟨D,eD⟩:∃D,doD t0.all ds=D:=⟨_,rfl⟩
 rw[eD] at hdl hdr⊢;refine vCq (fn:=Tryz.f19) O O O (Ob rfl) (fun R k0=>?_);refine zjq 15 O ?_;refine zkq O O O O O O (J6q p ⟨q1,q2,q3,q4⟩) ?_;refine zaq 13 O ?_;refine zkq O O O O O O (c) ?_;refine zgq (w':=.bool false) O O (congrArg W.bool Xh) ?_;refine zaq 2 O ?_;refine zgq (w':=.bool false) O O (congrArg W.bool Xh) ?_;refine zaq 4 O ?_;refine zgq (w':=.bool false) O O (congrArg W.bool (eqI_not.2 hp2)) ?_;refine zaq 9 O ?_;refine zgq (w':=.int .i64 (ds.length:Int)) O O Yv ?_;refine zaq 2 O ?_;refine zgq (w':=.int .i64 (xs.length:Int)) O O Yr ?_;refine zgq (w':=.int .i64 ((max ds.length xs.length:Nat):Int)) O O max_op (zgq (w':=.bool false) O O (congrArg W.bool (ltI_not.2 Xd)) ?_);refine zaq 8 O ?_;refine zgq (w':=.int .i64 (t.nodes.length:Int)) O O (by rw[<-e0];rfl) ?_;refine zaq 2 O ?_;refine zgq (w':=.int .i64 (ds.length:Int)) O O Yv ?_;refine zlq (300*ds.length) O O Xi ⟨by omega,by omega⟩ ?_;refine zlq (260944-300*ds.length) O O Xi ⟨by omega,by omega⟩ ?_;refine zaq 2 O ?_;refine zgq (w':=.int .i64 (xs.length:Int)) O O Yr ?_;refine zlq (1200*xs.length) O O Xi ⟨by omega,by omega⟩ ?_;refine zlq (260944-300*ds.length-1200*xs.length) O O Xi ⟨by omega,by omega⟩ ?_;refine zgq (w':=.bool false) O O (congrArg W.bool (ltI_not.2 Xd)) ?_;refine zaq 10 O ?_;refine yxq O O O O O O (JDq t Xd hvals) ?_;refine zoq 9 O ?_
 (refine khq (fun _=>Ent.trans (unq (fr2:=[(5,.ptr 1 0),(6,.ptr 2 0),(8,.ptr 4 0),(9,.ptr 5 0),(10,.nils),(11,.int .i64 0),(12,.ptr 6 0),(14,.ptr 7 0)]) ⟨rfl,rfl,rfl,rfl,rfl,rfl,rfl,rfl,trivial⟩) (qmq (nw2:=9) (hp2:=(apP p ds xs f g)++wkH 7 8 t box []) (fr2:=[(5,.ptr 1 0),(6,.ptr 2 0),(8,.ptr 4 0),(9,.ptr 5 0),(10,.nils),(11,.int .i64 0),(12,.ptr 6 0),(14,.ptr 7 0)]) (Nat.zero_le _) Xq ⟨rfl,rfl,rfl,rfl,rfl,rfl,rfl,rfl,trivial⟩ rfl (qtq ⟨⟨by decide,rfl,zfq (J9q p)⟩,⟨by decide,rfl,zfq (Kwq ds xs f g)⟩,⟨by decide,rfl,rfl⟩,⟨by decide,rfl,rfl⟩,⟨by decide,rfl,zfq (xaq _)⟩,⟨by decide,rfl,ref_wk Xq t box []⟩,trivial⟩) (by show([1,2,4,5,6,7]:List Nat).Nodup;decide))) ?_;refine zbq O O ?_)
 refine zaq 3 O ?_
 (refine zrq rfl (uRq 7 8 (apP p ds xs f g) (ws:=[.fz (ds.map pdW) 34 f,.fn 94 [.ptr 0 0] []]) O O O O (by show [W.fz (ds.map pdW) 34 f,W.fn _ [.ptr 7 0] []]=[renW _ (W.fz (ds.map pdW) 34 f),W.fn _ [.ptr 7 0] []];rw[zmq pfd]) (by show(refB 2 (W.fz (ds.map pdW) 34 f)&&(refB 2 (W.fn _ [.ptr 0 0] [])&&true))=true;rw[zfq pfd];rfl) rfl (by simp[apP]) Xq Xq Xq (eachd_s t n t0 hA box [] ds f hds hm.1 Xk Xd) ?_);rintro w hp1 nw1 ⟨t1,n1,u1,hT,hgo,rfl,rfl,rfl⟩;rw[Zhq];have hk:=numC_thr ds.length;generalize numC [7,8] 9 (thr2 ds.length)=k1 at hk⊢;rw[eD] at hgo⊢;refine khq (fun _=>Joq (w0:=7) (b:=8) (k:=k1) (P:=(apP p ds xs f g)) (P2:=(apP p ds xs f g)) (fr2:=[(5,.ptr 1 0),(6,.ptr 2 0),(8,.ptr 4 0),(9,.ptr 5 0),(10,.nils),(11,.int .i64 0),(12,.ptr 6 0),(14,.ptr 7 0),(77,.int .i64 0)]) (Nat.zero_le _) Xq Xd Xd ⟨rfl,rfl,rfl,rfl,rfl,rfl,rfl,rfl,rfl,trivial⟩ ⟨rfl,rfl,rfl,rfl,rfl,rfl,rfl,rfl,rfl,trivial⟩ rfl (ap_sub ..) (by simp[apP]) (by simp[apP])) ?_)
 refine zaq 6 O ?_;refine zgq (w':=.bool true) O O (congrArg W.bool Xh) ?_;refine zaq 8 O ?_;skip
 have hle:=ext_le hgo.2;skip
 refine zrq rfl (uRq 7 8 (apP p ds xs f g) (ws:=[.fz (xs.map txW) 99 g,.fn 96 [.ptr 0 0] []]) O O O O (by show [W.fz (xs.map txW) 99 g,W.fn _ [.ptr 7 0] []]=[renW _ (W.fz (xs.map txW) 99 g),W.fn _ [.ptr 7 0] []];rw[zmq pfx]) (by show(refB 2 (W.fz (xs.map txW) 99 g)&&(refB 2 (W.fn _ [.ptr 0 0] [])&&true))=true;rw[zfq pfx];rfl) rfl (by simp[apP]) Xq Xq Xq (eachx_s t1 n1 u1 hT box ([]++D.2) xs g hxs hm.2 (by show D.2.length<=100;omega) Xd) ?_);rintro w hp1 nw1 (⟨t2,n2,u2,rs,hT2,hgo2,hst,rfl,rfl,rfl⟩|⟨hst,rfl,rfl,rfl⟩)
 ·skip
  rw[Zhq];have hk:=numC_thr xs.length;generalize numC [7,8] 9 (thr2 xs.length)=k2 at hk⊢;refine khq (fun _=>Joq (w0:=7) (b:=8) (k:=k2) (P:=(apP p ds xs f g)) (P2:=(apP p ds xs f g)) (fr2:=[(5,.ptr 1 0),(8,.ptr 4 0),(9,.ptr 5 0),(10,.nils),(11,.int .i64 0),(12,.ptr 6 0),(14,.ptr 7 0),(84,.int .i64 0)]) (Nat.zero_le _) Xq Xd Xd ⟨rfl,rfl,rfl,rfl,rfl,rfl,rfl,rfl,trivial⟩ ⟨rfl,rfl,rfl,rfl,rfl,rfl,rfl,rfl,trivial⟩ rfl (ap_sub ..) (by simp[apP]) (by simp[apP])) ?_;rw[hgo.1] at hst;have hrl:=Qhq hst;have hrr:= @doX_rec box xs D.1 _ hst;simp only at hrl hrr;have hLl:(D.2++rs).length=ds.length+xs.length:=by rw[List.length_append];omega
  have hLk:∀r∈D.2++rs,okR r:=fun r h=>by
   rcases List.mem_append.1 h with h|h
   ·exact(hdr r h).2
   ·exact(hrr r h).2
  have hext:=Qbq hgo.2 hgo2.2;show OpW _ _ _ _ _ _ (apP p ds xs f g++wkH 7 8 t2 box (D.2++rs)) _ _ _;obtain⟨L,hLe⟩:∃L,D.2++rs=L:=⟨_,rfl⟩
  rw[hLe] at hLl hLk⊢;have eL:(L.map recW).length=L.length:=List.length_map _
  have hrow:∀q∈L.map recB,q.length<=4096:=fun q h=>by
   obtain⟨r,_,rfl⟩:=List.mem_map.1 h;rw[recB_len];omega
  refine zaq 7 O ?_;refine zgq (w':=.bool false) O O (congrArg W.bool Xh) ?_;refine zaq 13 O ?_
  (refine khq (fun _=>ent_wkF (w0:=7) (k:=8) (P2:=[(1,28,hdW p),(4,24,noT),(5,28,.agg 98 [.int .i64 0,yRq,yRq,yRq,.int .i64 0]),(6,26,dW (hashD p))]) (fr2:=[(5,.ptr 1 0),(8,.ptr 4 0),(9,.ptr 5 0),(10,.nils),(11,.int .i64 0),(12,.ptr 6 0),(14,.ptr 7 0),(15,.nils)]) (Nat.zero_le _) Xq (fun blk h=>⟨⟨_,rfl,.ptrK (h 1 Xq)⟩,⟨_,rfl,.ptrK (h 4 Xq)⟩,⟨_,rfl,.ptrK (h 5 Xq)⟩,⟨_,rfl,.pur rfl⟩,⟨_,rfl,.pur rfl⟩,⟨_,rfl,.ptrK (h 6 Xq)⟩,⟨_,rfl,.ptrK (h 7 Xq)⟩,⟨_,rfl,.pur rfl⟩,trivial⟩) (fun blk h=>⟨⟨by decide,_,rfl,.pur Xk⟩,⟨by decide,_,rfl,.pur rfl⟩,⟨by decide,_,rfl,.pur rfl⟩,⟨by decide,_,rfl,.pur Xk⟩,trivial⟩) (by simp[apP]) (by show([1,4,5,6,7]:List Nat).Nodup;decide)) ?_;refine zbq O O ?_)
  refine zaq 3 O ?_;refine zgq (w':=.int .i64 (L.length:Int)) O O (by rw[<-eL];rfl) ?_;refine zaq 4 O ?_;refine uHq (α:=Nat) (fun i=>i<=L.length) 15 (fun i=>((L.map recB).take i).map bW) 53 1 (fun i=>[(95,.int .i64 (i:Int))]) [(5,_),(8,_),(9,_),(10,_),(11,_),(12,_),(14,_),(93,_),(94,_)] _ (fun i=>L.length-i) (0) ⟨rfl,rfl,rfl,rfl,rfl,rfl,rfl,rfl,rfl,trivial⟩ (Nat.zero_le _) ⟨rfl,trivial⟩ O O O (fun i hI=>?_);refine zjq 6 O ?_;refine zyq rfl (fun h1=>?_) (fun h1=>?_)
  ·have hi:i<L.length:=by omega
   obtain⟨r,hx⟩:∃r,L[i]? =some r:=⟨_,List.getElem?_eq_getElem hi⟩
   have hr:=hLk r (List.mem_of_getElem? hx);have hnx:((L.map recB).take (i+1)).map bW=((L.map recB).take i).map bW++[bW (recB r)]:=by rw[List.take_add_one,List.getElem?_map,hx,List.map_append];rfl
   have hlt:(((L.map recB).take i).map bW).length<=100:=by rw[List.length_map,List.length_take,List.length_map];omega
   refine zeq 6 O ?_;refine zbq rfl (zBq (i:=i) O O O O O O O (zYq recW hx)) ?_;refine zaq 8 O ?_;refine zkq O O O O O O (rbytes_s r hr) ?_;refine zaq 11 O ?_;refine znq rfl (yoq O O (jPq [_,_,_,_,_,_,_] (k:=ti53) (news:=[bW (recB r)]) O O O O O (ymq O O O O) Xk (by show((((L.map recB).take i).map bW).length+1)*24<=_;omega) (by show(((L.map recB).take i).map bW).length+1<=_;omega) rfl Xk)) ?_;refine zaq 5 O ?_;refine zlq (i+1) O O Xi ⟨by omega,by omega⟩ ?_;refine yyq 2 O ?_;exact jEq 12 (i+1) (hi) Xd (Nat.zero_le _) (hnx) Ya Xd Yn rfl Yc ⟨rfl,trivial⟩ ⟨rfl,rfl,rfl,rfl,rfl,rfl,rfl,rfl,rfl,trivial⟩ Xg Xg rfl Xn Xo Yj
  ·have hi:i=L.length:=by omega
   subst hi;have eB:((L.map recB).map bW).length=L.length:=by rw[List.length_map,List.length_map]
   have pB:purL ((L.map recB).map bW)=true:=ZAq _;rw[show(L.map recB).take L.length=L.map recB from List.take_of_length_le Yz];refine zeq 2 O ?_;refine qoq Xj ?_;refine zCq 4 O ?_
   (refine khq (fun _=>ent_frg (b:=9) (X:=[(1,28,hdW p),(4,24,noT),(5,28,.agg 98 [.int .i64 0,yRq,yRq,yRq,.int .i64 0]),(6,26,dW (hashD p)),(7,170,wkF t2 box L)]) (fr2:=[(5,.ptr 1 0),(8,.ptr 4 0),(9,.ptr 5 0),(12,.ptr 6 0),(14,.ptr 7 0)]) 15 Xq pB (Nat.zero_le _) rfl (fun blk h=>⟨⟨_,rfl,.ptrK (h 1 Xq)⟩,⟨_,rfl,.ptrK (h 4 Xq)⟩,⟨_,rfl,.ptrK (h 5 Xq)⟩,⟨_,rfl,.ptrK (h 6 Xq)⟩,⟨_,rfl,.ptrK (h 7 Xq)⟩,trivial⟩) (fun blk h=>⟨⟨by decide,_,rfl,.pur Xk⟩,⟨by decide,_,rfl,.pur rfl⟩,⟨by decide,_,rfl,.pur rfl⟩,⟨by decide,_,rfl,.pur Xk⟩,⟨by decide,_,rfl,.pur Xk⟩,trivial⟩) (by show([1,4,5,6,7]:List Nat).Nodup;decide) Xk) ?_;refine zbq O O ?_)
   refine znq O O ?_;first|refine yzq O O ⟨by omega,by omega⟩ ?_|refine zbq O O ?_
   refine zaq 2 O ?_;refine zgq (w':=.int .i64 (L.length:Int)) O O (by rw[<-eB];rfl) ?_;refine zaq 10 O ?_;refine zkq O O O O O O (tsum_ok t2 n2 u2 hT2.toIsT) ?_;refine zaq 10 O ?_;refine zkq O O O O O O (rRoot_s (L.map recB) false Yz hrow) ?_;refine zaq 25 O ?_;exact kiq (w':=.tup [tW t2,hdW (headD p u2 L),.fz (L.map recW) 34 false,.int .i64 0]) (.inr rfl) rfl (.pur (by simp[purW,purL])) (by simp[purW,purL]) (.inl ⟨t2,n2,u2,rs,hT2,⟨rfl,hext⟩,hst,by rw[hLe]⟩)
 ·skip
  have hbn:=bad_no hst;refine zaq 7 O ?_;refine zgq (w':=.bool true) O O (congrArg (fun b=>W.bool (!b)) (eqI_not.2 Xd)) ?_;refine zaq 16 O ?_;refine kiq (w':=.tup [noT,.agg 98 [.int .i64 0,yRq,yRq,yRq,.int .i64 0],.nils,.int .i64 (badX box u1.all xs:Nat)]) (.inr rfl) rfl (.pur rfl) rfl (.inr ?_);rw[hgo.1] at hst⊢;exact⟨hst,ref_w _⟩
end
section
attribute [local irreducible] CoW OpW FlW Step Spec
theorem ap_some{t:Tree}{t0:T}{p:Hdr}{ds:List Depo}{xs:List Tx}{box:Dig}{w:W}(h:ApA t t0 p ds xs box w){l:List Pr}{rs:List Rec}(e:doX box (doD t0.all ds).1 xs=some (l,rs)):∃t' n' t1,IsA t' n' t1/\kjq t (257*ds.length+1028*xs.length) l t' t1/\w= .tup [tW t',hdW (headD p t1 ((doD t0.all ds).2++rs)),.fz (((doD t0.all ds).2++rs).map recW) 34 false,.int .i64 0]:=by
 rcases h with ⟨t',n',t1,rs',hT,hgo,hst,hw⟩|⟨hst,_⟩
 ·rw[e] at hst;cases hst;exact⟨t',n',t1,hT,⟨hgo.1,hgo.2⟩,hw⟩
 ·rw[e] at hst;cases hst
theorem ap_none{t:Tree}{t0:T}{p:Hdr}{ds:List Depo}{xs:List Tx}{box:Dig}{w:W}(h:ApA t t0 p ds xs box w)(e:doX box (doD t0.all ds).1 xs=none):w=refW (badX box (doD t0.all ds).1 xs):=by
 rcases h with ⟨t',n',t1,rs',hT,hgo,hst,hw⟩|⟨_,hw⟩
 ·rw[e] at hst;cases hst
 ·exact hw
end
theorem fit_tx{w:W}(h:Fit (.st 99 [.arr 32 1 (.int .u8),.arr 32 1 (.int .u8),.int .u64,.int .u64,.int .u64,.arr 32 1 (.int .u8)]) w):∃x:Tx,w=txW x/\x.ok:=by
 obtain⟨l,rfl,w1,l1,rfl,h1,w2,l2,rfl,h2,w3,l3,rfl,h3,w4,l4,rfl,h4,w5,l5,rfl,h5,w6,l6,rfl,h6,rfl⟩:=h;obtain⟨a,rfl⟩:=fit_dig h1;obtain⟨b,rfl⟩:=fit_dig h2;obtain⟨n,rfl,hn⟩:=Y2q h3;obtain⟨m,rfl,hm⟩:=Y2q h4;obtain⟨f,rfl,hf⟩:=Y2q h5;obtain⟨s,rfl⟩:=fit_dig h6;exact⟨⟨a,b,n,m,f,s⟩,rfl,hn,hm,hf⟩
section
attribute [local irreducible] CoW OpW FlW Step Spec
variable {G:Nat->Option W}
structure BodOk(ds:List Depo)(xs:List Tx):Prop where
 dep:∀d∈ds,d.number<18446744073709551616/\d.amount<18446744073709551616
 tx:∀x∈xs,x.ok
 dl:ds.length<=140737488351232
 xl:xs.length<=140737488351232
theorem fit_depo2{w:W}(h:Fit (.st 34 [.int .u64,.arr 32 1 (.int .u8),.int .u64]) w):∃d:Depo,w=pdW d/\d.number<18446744073709551616/\d.amount<18446744073709551616:=by
 obtain⟨l,rfl,w1,l1,rfl,h1,w2,l2,rfl,h2,w3,l3,rfl,h3,rfl⟩:=h;obtain⟨n,rfl,hn⟩:=Y2q h1;obtain⟨k,rfl⟩:=fit_dig h2;obtain⟨m,rfl,hm⟩:=Y2q h3;exact⟨⟨n,k,m⟩,rfl,hn,hm⟩
theorem fit_hdr{w:W}(h:Fit (.st 98 [.int .i64,.arr 32 1 (.int .u8),.arr 32 1 (.int .u8),.arr 32 1 (.int .u8),.int .i64]) w):∃p:Hdr,w=hdW p/\p.height<=9223372036854775807:=by
 obtain⟨l,rfl,w1,l1,rfl,h1,w2,l2,rfl,h2,w3,l3,rfl,h3,w4,l4,rfl,h4,w5,l5,rfl,h5,rfl⟩:=h;obtain⟨i,rfl,_,hi⟩:=Y3q h1;obtain⟨a,rfl⟩:=fit_dig h2;obtain⟨b,rfl⟩:=fit_dig h3;obtain⟨c,rfl⟩:=fit_dig h4;obtain⟨j,rfl,_⟩:=Y3q h5;exact⟨⟨i,a,b,c,j⟩,rfl,hi⟩
theorem fit_body{w:W}(h:Fit (.st 2 [.sl 34 48 (.st 34 [.int .u64,.arr 32 1 (.int .u8),.int .u64]),.sl 99 120 (.st 99 [.arr 32 1 (.int .u8),.arr 32 1 (.int .u8),.int .u64,.int .u64,.int .u64,.arr 32 1 (.int .u8)])]) w):∃ds xs,w=bodW ds xs false false/\BodOk ds xs:=by
 obtain⟨l,rfl,w1,l1,rfl,h1,w2,l2,rfl,h2,rfl⟩:=h;obtain⟨ds,rfl,hl,hd⟩:=fit_sl h1 fun x hx=>fit_depo2 hx
 obtain⟨xs,rfl,hl2,hx⟩:=fit_sl h2 fun x hx=>fit_tx hx
 exact⟨ds,xs,rfl,hd,hx,by omega,by omega⟩
def y8q(ds:List Depo)(xs:List Tx):Prop:=(4<ds.length/\ds.length<=16)\/20<ds.length\/(4<xs.length/\xs.length<=16)\/20<xs.length
noncomputable instance(ds:List Depo)(xs:List Tx):Decidable (y8q ds xs):=Classical.propDecidable _
theorem YVq(ds:List Depo)(xs:List Tx)(f g:Bool):PS cfg G 16 [bodW ds xs f g] (.bool (decide (y8q ds xs))):=by
 have e1:(ds.map pdW).length=ds.length:=List.length_map _;have e2:(xs.map txW).length=xs.length:=List.length_map _;refine zFq (fn:=Tryz.f16) O O O (Ob rfl) (fun R k0=>?_);refine zjq 10 O ?_;refine zgq (w':=.int .i64 (ds.length:Int)) O O Yv ?_;refine yZq O O (fun h1=>?_) (fun h1=>?_)
 ·refine zaq 3 O ?_;refine zgq (w':=.int .i64 (ds.length:Int)) O O Yv ?_;refine yZq O O (fun h2=>?_) (fun h2=>?_)
  ·refine zaq 29 O ?_;exact zhq (.inr rfl) rfl Xt
  ·refine zaq 4 O ?_;refine zgq (w':=.int .i64 (ds.length:Int)) O O Yv ?_;refine yZq O O (fun h3=>?_) (fun h3=>?_)
   ·refine zaq 23 O ?_;exact zhq (.inr rfl) rfl Xt
   ·refine zaq 4 O ?_;refine zgq (w':=.int .i64 (xs.length:Int)) O O Yr ?_;refine yZq O O (fun h4=>?_) (fun h4=>?_)
    ·refine zaq 3 O ?_;refine zgq (w':=.int .i64 (xs.length:Int)) O O Yr ?_;refine yZq O O (fun h5=>?_) (fun h5=>?_)
     ·refine zaq 12 O ?_;exact zhq (.inr rfl) rfl Xt
     ·refine zaq 5 O ?_;refine zgq (w':=.int .i64 (xs.length:Int)) O O Yr ?_;refine yVq O O ?_;refine zaq 5 O ?_;exact zhq (.inr rfl) rfl Xt
    ·refine zaq 10 O ?_;refine zgq (w':=.int .i64 (xs.length:Int)) O O Yr ?_;refine yVq O O ?_;refine zaq 5 O ?_;exact zhq (.inr rfl) rfl Xt
 ·refine zaq 9 O ?_;refine zgq (w':=.int .i64 (ds.length:Int)) O O Yv ?_;refine yZq O O (fun h2=>?_) (fun h2=>?_)
  ·refine zaq 23 O ?_;exact zhq (.inr rfl) rfl Xt
  ·refine zaq 4 O ?_;refine zgq (w':=.int .i64 (xs.length:Int)) O O Yr ?_;refine yZq O O (fun h3=>?_) (fun h3=>?_)
   ·refine zaq 3 O ?_;refine zgq (w':=.int .i64 (xs.length:Int)) O O Yr ?_;refine yZq O O (fun h4=>?_) (fun h4=>?_)
    ·refine zaq 12 O ?_;exact zhq (.inr rfl) rfl Xt
    ·refine zaq 5 O ?_;refine zgq (w':=.int .i64 (xs.length:Int)) O O Yr ?_;refine yVq O O ?_;refine zaq 5 O ?_;exact zhq (.inr rfl) rfl Xt
   ·refine zaq 10 O ?_;refine zgq (w':=.int .i64 (xs.length:Int)) O O Yr ?_;refine yVq O O ?_;refine zaq 5 O ?_;exact zhq (.inr rfl) rfl Xt
theorem great_600{t:Tree}(h:¬xYq t 600):t.nodes.length<=600:=Nat.le_of_not_lt fun q=>h (.inl q)
end
theorem T.uniq:∀{a b:T} {d:Nat} {k:Dig},Zr d k->a.ok d k=true->b.ok d k=true->a.all=b.all->a=b
 |.nil,b,d,k,_,_,hb,e=>by
  cases b with
  |nil=>rfl
  |leaf=>simp[T.all] at e
  |fork l r=>
   obtain⟨_,h1,h2,h3⟩:=ok_fork.1 hb;have:=JCq h1 h2 h3;have e2:=congrArg List.length e;simp only[T.all,List.length_append,List.length_cons,List.length_nil] at e2;omega
 |.leaf x v,b,d,k,_,_,hb,e=>by
  cases b with
  |nil=>simp[T.all] at e
  |leaf=>simp only[T.all,List.cons.injEq,Prod.mk.injEq,and_true] at e;rw[e.1,e.2]
  |fork l r=>
   obtain⟨_,h1,h2,h3⟩:=ok_fork.1 hb;have:=JCq h1 h2 h3;have e2:=congrArg List.length e;simp only[T.all,List.length_append,List.length_cons,List.length_nil] at e2;omega
 |.fork l r,b,d,k,hz,ha,hb,e=>by
  obtain⟨hd,h1,h2,h3⟩:=ok_fork.1 ha;have t1:=JCq h1 h2 h3;cases b with
  |nil=>
   have e2:=congrArg List.length e;simp only[T.all,List.length_append,List.length_cons,List.length_nil] at e2;omega
  |leaf=>
   have e2:=congrArg List.length e;simp only[T.all,List.length_append,List.length_cons,List.length_nil] at e2;omega
  |fork l' r'=>
   obtain⟨_,g1,g2,g3⟩:=ok_fork.1 hb
   have key:∀{l r:T},(T.fork l r).ok d k=true->l.all=(T.fork l r).all.filter (fun p=>bitN p.1 d==0)/\r.all=(T.fork l r).all.filter (fun p=>bitN p.1 d==1):=by
    intro l r h;obtain⟨b1,b2⟩:=YOq hz h;simp only[T.all,List.filter_append];rw[vPq (l:=l.all) (fun p hp=>by simp[b1 p hp]),ujq (l:=r.all) (fun p hp=>by simp[b2 p hp]),ujq (l:=l.all) (fun p hp=>by simp[b1 p hp]),vPq (l:=r.all) (fun p hp=>by simp[b2 p hp])];simp
   obtain⟨k1,k2⟩:=key ha;obtain⟨k3,k4⟩:=key hb;rw[T.uniq (jnq hz) h1 g1 (by rw[k1,k3,e]),T.uniq (jmq hz hd) h2 g2 (by rw[k2,k4,e])]
def recI(r:Rec):RcI:=⟨r.kind,r.id,(r.code:Int)⟩
theorem recI_w(L:List Rec):(L.map recI).map rcW=L.map recW:=by rw[List.map_map];rfl
def FolB(h p:Hdr):Prop:=okH h/\okH p/\h.height=p.height+1/\h.parent=hashD p
noncomputable instance(h p:Hdr):Decidable (FolB h p):=Classical.propDecidable _
noncomputable instance(ds:List Depo)(xs:List Tx):Decidable (BodyM ds xs):=Classical.propDecidable _
def verT(c:Ch)(r:Int):Tree:=⟨c.tree.nodes,r⟩
structure LkM(c:Ch)(i:Nat)(x:Lk):Prop where
 height:x.hdr.height=(i:Int)
 hdr:okH x.hdr
 fol:∀y,0<i->c.links[i-1]? =some y->FolB x.hdr y.hdr
 recs:((x.rs.length:Nat):Int)=x.hdr.many
 body:BodyM x.ds x.xs
 tree:MayA (verT c x.root)
structure MayC(c:Ch):Prop where
 one:0<c.links.length
 len:c.links.length<=256
 root:∀x,c.links[c.links.length-1]? =some x->c.tree.root=x.root
 link:∀i x,c.links[i]? =some x->LkM c i x
noncomputable instance(c:Ch):Decidable (MayC c):=Classical.propDecidable _
noncomputable def firH(t0:T):Hdr:=⟨0,qHq,sumD t0,tagD 0 [],0⟩
structure LkS(c:Ch)(box:Dig)(i:Nat)(x:Lk):Prop where
 first:i=0->∃n t0,IsA (verT c x.root) n t0/\x.hdr=firH t0/\x.ds=[]/\x.xs=[]
 next:∀y,0<i->c.links[i-1]? =some y->∃n t0 n1 t1 rs,IsA (verT c y.root) n t0/\IsA (verT c x.root) n1 t1/\doX box (doD t0.all x.ds).1 x.xs=some (t1.all,rs)/\x.hdr=headD y.hdr t1 ((doD t0.all x.ds).2++rs)/\x.rs=((doD t0.all x.ds).2++rs).map recI
structure SoundC(c:Ch)(box:Dig):Prop extends MayC c where
 sound:∀i x,c.links[i]? =some x->LkS c box i x
noncomputable instance(c:Ch)(box:Dig):Decidable (SoundC c box):=Classical.propDecidable _
section
attribute [local irreducible] CoW OpW FlW Step Spec
variable {G:Nat->Option W}
theorem Z0q{α:Type}{a b:List α}{n:Nat}(h:a.length=n)(h2:b.length=n)(g:a.take n=b.take n):a=b:=by
 rwa[List.take_of_length_le Xd,List.take_of_length_le Xd] at g
theorem vrq{α:Type}{a b:List α}{i:Nat}{x y:α}(g:a.take i=b.take i)(hx:a[i]? =some x)(hy:b[i]? =some y)(e:x=y):a.take (i+1)=b.take (i+1):=by
 rw[List.take_add_one,List.take_add_one,g,hx,hy,e]
theorem ne_at{α:Type}{a b:List α}{i:Nat}{x y:α}(hx:a[i]? =some x)(hy:b[i]? =some y)(h:x≠y):¬a=b:=fun q=>h Qj
noncomputable instance(a b:Depo):Decidable (a=b):=Classical.propDecidable _
noncomputable instance(a b:Tx):Decidable (a=b):=Classical.propDecidable _
noncomputable instance(a b:RcI):Decidable (a=b):=Classical.propDecidable _
noncomputable instance(a b:Hdr):Decidable (a=b):=Classical.propDecidable _
theorem Kqq{p:Prop} [Decidable p]{b:Bool}(h:p↔b=true):decide p=b:=by
 rw[Bool.eq_iff_iff,decide_eq_true_eq];exact h
theorem eq_pd(a b:Depo):eqW cfg 300 173 (pdW a) (pdW b)=some (decide (a=b)):=by
 rw[Kqq (p:=a=b) (b:=decide ((a.number:Int)=b.number)&&(decide (a.to=b.to)&&(decide ((a.amount:Int)=b.amount)&&true))) (by cases a;cases b;simp only[Depo.mk.injEq,Bool.and_eq_true,decide_eq_true_eq,Int.natCast_inj,and_true])];exact ulq O O O O (yXq O O O (umq O O) (yXq O O O (qlq O O O O O O _ _ _) (yXq O O O (umq O O) vRq)))
theorem eq_tx(a b:Tx):eqW cfg 300 75 (txW a) (txW b)=some (decide (a=b)):=by
 rw[Kqq (p:=a=b) (b:=decide (a.pub=b.pub)&&(decide (a.to=b.to)&&(decide ((a.nonce:Int)=b.nonce)&&(decide ((a.amount:Int)=b.amount)&&(decide ((a.fee:Int)=b.fee)&&(decide (a.sign=b.sign)&&true)))))) (by cases a;cases b;simp only[Tx.mk.injEq,Bool.and_eq_true,decide_eq_true_eq,Int.natCast_inj,and_true])];exact ulq O O O O (yXq O O O (qlq O O O O O O _ _ _) (yXq O O O (qlq O O O O O O _ _ _) (yXq O O O (umq O O) (yXq O O O (umq O O) (yXq O O O (umq O O) (yXq O O O (qlq O O O O O O _ _ _) vRq))))))
theorem eq_rc(a b:RcI):eqW cfg 300 57 (rcW a) (rcW b)=some (decide (a=b)):=by
 rw[Kqq (p:=a=b) (b:=decide ((Int.ofNat a.kind.toNat)=Int.ofNat b.kind.toNat)&&(decide (a.id=b.id)&&(decide (a.code=b.code)&&true))) (by cases a;cases b;simp only[RcI.mk.injEq,Bool.and_eq_true,decide_eq_true_eq,and_true];exact⟨fun h=>⟨by rw[h.1],h.2⟩,fun h=>⟨UInt8.toNat_inj.1 (Int.ofNat.inj h.1),h.2⟩⟩)];exact ulq O O O O (yXq O O O (umq O O) (yXq O O O (qlq O O O O O O _ _ _) (yXq O O O (umq O O) vRq)))
theorem eq_hd(h p:Hdr):eqW cfg 300 28 (hdW h) (hdW p)=some (decide (h=p)):=by
 rw[Kqq (p:=h=p) (b:=decide (h.height=p.height)&&(decide (h.parent=p.parent)&&(decide (h.state=p.state)&&(decide (h.rows=p.rows)&&(decide (h.many=p.many)&&true))))) (by cases h;cases p;simp only[Hdr.mk.injEq,Bool.and_eq_true,decide_eq_true_eq,and_true])];exact ulq O O O O (yXq O O O (umq O O) (yXq O O O (qlq O O O O O O _ _ _) (yXq O O O (qlq O O O O O O _ _ _) (yXq O O O (qlq O O O O O O _ _ _) (yXq O O O (umq O O) vRq)))))
theorem seqr_s(a b:List RcI)(f g:Bool)(hb:a.length<=1000000000):PS cfg G 144 [.fz (a.map rcW) 34 f,.fz (b.map rcW) 34 g] (.bool (decide (a=b))):=by
 have ea:(a.map rcW).length=a.length:=List.length_map _;have eb:(b.map rcW).length=b.length:=List.length_map _;refine zFq (fn:=Tryz.f144) O O O (Ob rfl) (fun R k0=>?_);refine zjq 9 O ?_;refine zgq (w':=.int .i64 (a.length:Int)) O O Qa ?_;refine zbq O O (zgq (w':=.int .i64 (b.length:Int)) O O (by rw[<-eb];rfl) ?_);refine zaq 3 O ?_;refine zyq rfl (fun h1=>?_) (fun h1=>?_)
 ·refine zeq 7 O ?_;exact zhq (.inr rfl) rfl (by rw[decide_eq_false fun h=>h1 (by rw[h])])
 ·refine zeq 6 O ?_;refine zgq (w':=.int .i64 (a.length:Int)) O O Qa ?_;refine zaq 4 O ?_;refine yEq (α:=Nat) (fun i=>i<=a.length/\a.take i=b.take i) (fun i=>[(13,.int .i64 (i:Int))]) [(0,_),(1,_),(4,_),(12,_)] (fun i=>a.length-i) (0) ⟨rfl,rfl,rfl,rfl,trivial⟩ (⟨Nat.zero_le _,rfl⟩) ⟨rfl,trivial⟩ (fun i hI=>?_);obtain⟨g1,g2⟩:=hI;refine zjq 6 O ?_;refine zyq rfl (fun h2=>?_) (fun h2=>?_)
  ·obtain⟨x,hx⟩:∃x,a[i]? =some x:=⟨_,List.getElem?_eq_getElem Xd⟩
   obtain⟨y,hy⟩:∃y,b[i]? =some y:=⟨_,List.getElem?_eq_getElem Xd⟩
   refine zeq 14 O ?_;refine zcq rfl (zBq (i:=i) O O O O O O O (zYq rcW hx)) ?_;refine zoq 3 O ?_;refine zcq rfl (zBq (i:=i) O O O O O O O (zYq rcW hy)) (yOq O O ?_);refine Y1q rfl (jaq O O O O (eq_rc _ _)) (jTq yPq) ?_;refine zoq 2 O ?_;refine zyq rfl (fun h3=>?_) (fun h3=>?_)
   ·refine zeq 8 O ?_;refine z3q Xj ?_;refine zCq 2 O ?_;exact zhq (.inr rfl) rfl (by rw[decide_eq_false (ne_at hx hy h3)])
   ·refine zeq 4 O ?_;refine zlq (i+1) O O Xi ⟨by omega,by omega⟩ ?_;refine yyq 2 O ?_;exact z5q (i+1) (⟨by omega,vrq g2 hx hy (Classical.not_not.1 h3)⟩) Xd ⟨rfl,trivial⟩ ⟨rfl,rfl,rfl,rfl,trivial⟩ Xg Xd Xm rfl
  ·refine zeq 2 O ?_;refine z3q Xj ?_;refine zCq 8 O ?_;exact zhq (.inr rfl) rfl (by rw[decide_eq_true (Z0q Xd Xd g2)])
theorem rseqr_s(a b:List RcI)(f g:Bool)(hb:a.length<=1000000000):PS cfg G 21 [.fz (a.map rcW) 34 f,.fz (b.map rcW) 34 g] (.bool (decide (a=b))):=by
 have ea:(a.map rcW).length=a.length:=List.length_map _;have eb:(b.map rcW).length=b.length:=List.length_map _;refine zFq (fn:=Tryz.f21) O O O (Ob rfl) (fun R k0=>?_);refine zjq 9 O ?_;refine zgq (w':=.int .i64 (a.length:Int)) O O Qa ?_;refine zbq O O (zgq (w':=.int .i64 (b.length:Int)) O O (by rw[<-eb];rfl) ?_);refine zaq 3 O ?_;refine zyq rfl (fun h1=>?_) (fun h1=>?_)
 ·refine zeq 7 O ?_;exact zhq (.inr rfl) rfl (by rw[decide_eq_false fun h=>h1 (by rw[h])])
 ·refine zeq 9 O ?_;refine yEq (α:=Nat) (fun i=>i<=a.length/\a.take i=b.take i) (fun i=>[(5,.int .i64 (i:Int))]) [(0,_),(1,_),(4,_)] (fun i=>a.length-i) (0) ⟨rfl,rfl,rfl,trivial⟩ (⟨Nat.zero_le _,rfl⟩) ⟨rfl,trivial⟩ (fun i hI=>?_);obtain⟨g1,g2⟩:=hI;refine zjq 5 O ?_;refine zgq (w':=.int .i64 (a.length:Int)) O O Qa ?_;refine zaq 3 O ?_;refine zyq rfl (fun h2=>?_) (fun h2=>?_)
  ·obtain⟨x,hx⟩:∃x,a[i]? =some x:=⟨_,List.getElem?_eq_getElem Xd⟩
   obtain⟨y,hy⟩:∃y,b[i]? =some y:=⟨_,List.getElem?_eq_getElem Xd⟩
   refine zeq 8 O ?_;refine zcq rfl (zBq (i:=i) O O O O O O O (zYq rcW hx)) ?_;refine zoq 3 O ?_;refine zcq rfl (zBq (i:=i) O O O O O O O (zYq rcW hy)) (yOq O O ?_);refine Y1q rfl (jaq O O O O (eq_rc _ _)) (jTq yPq) ?_;refine zoq 2 O ?_;refine zyq rfl (fun h3=>?_) (fun h3=>?_)
   ·refine zeq 8 O ?_;refine z3q Xj ?_;refine zCq 2 O ?_;exact zhq (.inr rfl) rfl (by rw[decide_eq_false (ne_at hx hy h3)])
   ·refine zeq 5 O ?_;refine zlq (i+1) O O Xi ⟨by omega,by omega⟩ ?_;refine yyq 2 O ?_;exact z5q (i+1) (⟨by omega,vrq g2 hx hy (Classical.not_not.1 h3)⟩) Xd ⟨rfl,trivial⟩ ⟨rfl,rfl,rfl,trivial⟩ Xg Xd Xm rfl
  ·refine zeq 2 O ?_;refine z3q Xj ?_;refine zCq 8 O ?_;exact zhq (.inr rfl) rfl (by rw[decide_eq_true (Z0q Xd Xd g2)])
theorem rsbody_s(a:List Depo)(c:List Tx)(b:List Depo)(d:List Tx)(f1 f2 f3 f4:Bool)(hb:a.length<=1000000000)(hb2:c.length<=1000000000):PS cfg G 23 [bodW a c f1 f2,bodW b d f3 f4] (.bool (decide (a=b/\c=d))):=by
 have ea:(a.map pdW).length=a.length:=List.length_map _;have eb:(b.map pdW).length=b.length:=List.length_map _;have ec:(c.map txW).length=c.length:=List.length_map _;have ed:(d.map txW).length=d.length:=List.length_map _;refine zFq (fn:=Tryz.f23) O O O (Ob rfl) (fun R k0=>?_);refine zjq 12 O ?_;refine zgq (w':=.int .i64 (a.length:Int)) O O Qa ?_;refine zaq 2 O ?_;refine zgq (w':=.int .i64 (b.length:Int)) O O (by rw[<-eb];rfl) ?_;refine yZq O O (fun h1=>?_) (fun h1=>?_)
 ·refine zaq 19 O ?_;exact zhq (.inr rfl) rfl (by rw[decide_eq_false fun h=>h1 (by rw[h.1])])
 refine zaq 3 O ?_;refine zgq (w':=.int .i64 (c.length:Int)) O O (by rw[<-ec];rfl) ?_;refine zaq 2 O ?_;refine zgq (w':=.int .i64 (d.length:Int)) O O (by rw[<-ed];rfl) ?_;refine yVq O O ?_;refine zaq 3 O ?_;refine zyq rfl (fun h2=>?_) (fun h2=>?_)
 ·refine zeq 7 O ?_;exact zhq (.inr rfl) rfl (by rw[decide_eq_false fun h=>h2 (by rw[h.2])])
 ·refine zeq 9 O ?_;refine yEq (α:=Nat) (fun i=>i<=a.length/\a.take i=b.take i) (fun i=>[(5,.int .i64 (i:Int))]) [(2,_),(3,_),(4,_)] (fun i=>a.length-i) (0) ⟨rfl,rfl,rfl,trivial⟩ (⟨Nat.zero_le _,rfl⟩) ⟨rfl,trivial⟩ (fun i hI=>?_);obtain⟨g1,g2⟩:=hI;refine zjq 6 O ?_;refine zgq (w':=.int .i64 (a.length:Int)) O O Qa ?_;refine zaq 3 O ?_;refine zyq rfl (fun h3=>?_) (fun h3=>?_)
  ·obtain⟨x,hx⟩:∃x,a[i]? =some x:=⟨_,List.getElem?_eq_getElem Xd⟩
   obtain⟨y,hy⟩:∃y,b[i]? =some y:=⟨_,List.getElem?_eq_getElem Xd⟩
   refine zeq 9 O ?_;refine zcq rfl (zBq (i:=i) O O O O O O O (zYq pdW hx)) ?_;refine zoq 4 O ?_;refine zcq rfl (zBq (i:=i) O O O O O O O (zYq pdW hy)) (yOq O O ?_);refine Y1q rfl (jaq O O O O (eq_pd _ _)) (jTq yPq) ?_;refine zoq 2 O ?_;refine zyq rfl (fun h4=>?_) (fun h4=>?_)
   ·refine zeq 8 O ?_;refine z3q Xj ?_;refine zCq 2 O ?_;exact zhq (.inr rfl) rfl (by rw[decide_eq_false fun q=>ne_at hx hy h4 q.1])
   ·refine zeq 5 O ?_;refine zlq (i+1) O O Xi ⟨by omega,by omega⟩ ?_;refine yyq 2 O ?_;exact z5q (i+1) (⟨by omega,vrq g2 hx hy (Classical.not_not.1 h4)⟩) Xd ⟨rfl,trivial⟩ ⟨rfl,rfl,rfl,trivial⟩ Xg Xd Xm rfl
  ·obtain rfl:=Z0q (a:=a) (b:=b) Xd Xd g2;refine zeq 2 O ?_;refine z3q Xj ?_;refine zCq 9 O ?_;skip
   refine yEq (α:=Nat) (fun j=>j<=c.length/\c.take j=d.take j) (fun j=>[(6,.int .i64 (j:Int))]) [(2,_),(3,_),(4,_)] (fun j=>c.length-j) (0) ⟨rfl,rfl,rfl,trivial⟩ (⟨Nat.zero_le _,rfl⟩) ⟨rfl,trivial⟩ (fun j hI=>?_);obtain⟨k1,k2⟩:=hI;refine zjq 6 O ?_;refine zgq (w':=.int .i64 (c.length:Int)) O O (by rw[<-ec];rfl) ?_;refine zaq 3 O ?_;refine zyq rfl (fun h4=>?_) (fun h4=>?_)
   ·obtain⟨x,hx⟩:∃x,c[j]? =some x:=⟨_,List.getElem?_eq_getElem Xd⟩
    obtain⟨y,hy⟩:∃y,d[j]? =some y:=⟨_,List.getElem?_eq_getElem Xd⟩
    refine zeq 9 O ?_;refine zcq rfl (zBq (i:=j) O O O O O O O (zYq txW hx)) ?_;refine zoq 4 O ?_;refine zcq rfl (zBq (i:=j) O O O O O O O (zYq txW hy)) (yOq O O ?_);refine Y1q rfl (jaq O O O O (eq_tx _ _)) (jTq yPq) ?_;refine zoq 2 O ?_;refine zyq rfl (fun h5=>?_) (fun h5=>?_)
    ·refine zeq 8 O ?_;refine z3q Xj ?_;refine zCq 2 O ?_;exact zhq (.inr rfl) rfl (by rw[decide_eq_false fun q=>ne_at hx hy h5 q.2])
    ·refine zeq 5 O ?_;refine zlq (j+1) O O Xi ⟨by omega,by omega⟩ ?_;refine yyq 2 O ?_;exact z5q (j+1) (⟨by omega,vrq k2 hx hy (Classical.not_not.1 h5)⟩) Xd ⟨rfl,trivial⟩ ⟨rfl,rfl,rfl,trivial⟩ Xg Xd Xm rfl
   ·refine zeq 2 O ?_;refine z3q Xj ?_;refine zCq 8 O ?_;exact zhq (.inr rfl) rfl (by rw[decide_eq_true ⟨rfl,Z0q Xd Xd k2⟩])
end
section
attribute [local irreducible] CoW OpW FlW Step Spec
variable {G:Nat->Option W}
noncomputable def bodyN:W:=.agg 2 [.nils,.nils]
noncomputable def lkZ:W:=.agg 102 [hdW hdZ,.int .i64 0,bodyN,.nils]
@[simp] theorem lkZ_pur:purW lkZ=true:=by simp[lkZ,bodyN,purW,purL]
noncomputable def lkA(l:List Lk)(i:Nat):W:=match l[i]? with
 |some x=>lkG x
 |none=>lkZ
noncomputable def prevW(l:List Lk):Nat->W
 |0=>lkZ
 |i+1=>lkA l i
@[simp] theorem lkA_pur(l:List Lk)(i:Nat):purW (lkA l i)=true:=by unfold lkA;split<;>simp
@[simp] theorem prev_pur(l:List Lk)(i:Nat):purW (prevW l i)=true:=by cases i<;>simp[prevW]
end
section
attribute [local irreducible] CoW OpW FlW Step Spec
variable {G:Nat->Option W}
theorem half_pow(x:Nat){j:Nat}(h1:1<=j)(h2:j<=7):x/2^(7-j)/2=x/2^(7-(j-1)):=by
 rw[Nat.div_div_eq_div_mul,<-Nat.pow_succ,show(7-j).succ=7-(j-1) by omega]
theorem rat_s(k:Dig)(i:Nat)(h:i<256):PS cfg G 242 [dW k,.int .i64 (i:Int)] (.int .u8 (bitN k i:Nat)):=by
 have hk:=u6q k (i/8);refine zFq (fn:=Tryz.f242) O O O (Ob rfl) (fun R k0=>?_);refine zjq 9 O ?_;refine zlq (i/8) O O (kPq i 8) ⟨by omega,by omega⟩ ?_;refine zbq rfl (zsq (i:=i/8) O O O O O O Xd) ?_;refine znq rfl (ypq O O O (dW_ld k Xd)) ?_;refine zaq 10 O ?_;refine yEq (α:=Nat×Nat) (fun p=>p.1<=7/\i%8<=p.1/\p.2=kn k (i/8)/2^(7-p.1)/\p.2<=255) (fun p=>[(6,.int .i64 (p.1:Int)),(5,.int .u8 (p.2:Nat))]) [(1,_),(4,_)] (fun p=>p.1) ((7,kn k (i/8))) ⟨rfl,rfl,trivial⟩ (⟨Nat.le_refl _,by show i%8<=7;omega,by simp,hk⟩) ⟨rfl,rfl,trivial⟩ (fun p hI=>?_);obtain⟨j,c⟩:=p;obtain⟨g1,g2,g3,g4⟩:=hI;simp only at g1 g2 g3 g4⊢;refine zjq 5 O ?_;refine zgq O O (congrArg (W.int .i64) (xjq i 8)) ?_;refine zaq 3 O ?_;refine zyq rfl (fun h1=>?_) (fun h1=>?_)
 ·have hj:i%8<j:=by omega
  refine zeq 6 O ?_;refine zlq (c/2) O O (kPq c 2) ⟨by omega,by omega⟩ ?_;refine zaq 6 O ?_;refine zlq (j-1) O O Xi ⟨by omega,by omega⟩ ?_;refine yyq 2 O ?_;exact z5q ((j-1,c/2)) (⟨by simp only;omega,by simp only;omega,by simp only[g3];exact half_pow _ Xd g1,by simp only;omega⟩) Yh ⟨rfl,rfl,trivial⟩ ⟨rfl,rfl,trivial⟩ Xg Xd Xm rfl
 ·have hj:i%8=j:=by omega
  refine zeq 2 O ?_;refine z3q Xj ?_;refine zCq 5 O ?_;refine zgq (w':=.int .u8 ((c%2:Nat):Int)) O O (congrArg (W.int .u8) (xjq c 2)) ?_;refine zaq 4 O ?_;refine zhq (.inr rfl) O ?_;rw[g3,<-hj];unfold bitN;rfl
theorem rshared_s(a b:Dig):PS cfg G 182 [dW a,dW b] (.int .i64 (yiq a b:Nat)):=by
 refine zFq (fn:=Tryz.f182) O O O (Ob rfl) (fun R k0=>?_);refine zjq 14 O ?_;refine yEq (α:=Nat) (fun n=>n<=256/\∀j,j<n->bitN a j=bitN b j) (fun n=>[(5,.int .i64 (n:Int))]) [(2,_),(3,_),(4,_)] (fun n=>256-n) (0) ⟨rfl,rfl,rfl,trivial⟩ (⟨Nat.zero_le _,fun j h=>by omega⟩) ⟨rfl,trivial⟩ (fun n hI=>?_);obtain⟨g1,g2⟩:=hI;refine zjq 4 O ?_;refine fl_dz O O (fun h1=>?_) (fun h1=>?_)
 ·have hn:n<256:=by omega
  refine zoq 3 O ?_;refine yxq O O O O O O (rat_s _ _ Xd) ?_;refine zoq 2 O ?_;refine yxq O O O O O O (rat_s _ _ Xd) ?_;refine fl_cz O O ?_;refine zoq 3 O ?_;refine zyq rfl (fun h2=>?_) (fun h2=>?_)
  ·refine zeq 5 O ?_;refine zlq (n+1) O O Xi ⟨by omega,by omega⟩ ?_;refine zaq 3 O ?_;exact z5q (n+1) (⟨hn,fun j hj=>by rcases Nat.lt_succ_iff_lt_or_eq.1 hj with q|rfl;exact g2 j q;omega⟩) Xd ⟨rfl,trivial⟩ ⟨rfl,rfl,rfl,trivial⟩ Xg Xd Xm rfl
  ·refine zeq 2 O ?_;refine z3q Xj ?_;refine zCq 9 O ?_;refine zhq (.inr rfl) O ?_;rw[uUq (kyq a b) (t:=n) ⟨g2,.inr ⟨hn,by omega⟩⟩]
 ·have hn:n=256:=by omega
  refine zoq 14 O ?_;refine z3q Xj ?_;refine zCq 9 O ?_;refine zhq (.inr rfl) O ?_;rw[uUq (kyq a b) (t:=n) ⟨g2,.inl hn⟩]
theorem rahead_s(a b:Dig):PS cfg G 259 [dW a,dW b] (.bool (z2q a b)):=by
 refine zFq (fn:=Tryz.f259) O O O (Ob rfl) (fun R k0=>?_);refine zjq 11 O ?_;refine zkq O O O O O O (rshared_s _ _) ?_;refine zaq 6 O ?_;refine fl_dz O O (fun h1=>?_) (fun h1=>?_)
 ·have hn:yiq a b<256:=by omega
  refine zoq 3 O ?_;refine yxq O O O O O O (rat_s _ _ Xd) ?_;refine zoq 2 O ?_;refine yxq O O O O O O (rat_s _ _ Xd) ?_;refine fl_cz O O ?_;refine zoq 5 O ?_;refine zhq (.inr rfl) O ?_;rw[Kyq];exact congrArg W.bool (decide_eq_decide.2 Xd)
 ·refine zoq 13 O ?_;refine zhq (.inr rfl) O ?_;rw[Kyq,decide_eq_false (show¬(yiq a b<256/\bitN a (yiq a b)<bitN b (yiq a b)) by omega)]
theorem xor_sub:∀x,x<256->∀e,e<8->x/2^e%2=1->2^e<=x/\x^^^2^e=x-2^e:=by decide+kernel
theorem xor_add:∀x,x<256->∀e,e<8->¬x/2^e%2=1->x+2^e<256/\x^^^2^e=x+2^e:=by decide+kernel
theorem rturn_in(k:Dig)(i:Nat)(h:i<256):PS cfg G 183 [dW k,.int .i64 (i:Int)] (.tup [dW (qMq k i),.int .i64 0]):=by
 have hk:=u6q k (i/8);refine zFq (fn:=Tryz.f183) O O O (Ob rfl) (fun R k0=>?_);refine zjq 11 O ?_;refine yZq O O (fun h1=>?_) (fun h1=>?_)
 ·exfalso;omega
 refine zaq 2 O ?_;refine yVq O O ?_;refine zaq 3 O ?_;refine zyq rfl (fun h2=>?_) (fun h2=>?_)
 ·exfalso;omega
 refine zeq 14 O ?_;refine yEq (α:=Nat×Nat) (fun p=>p.1<=7/\i%8<=p.1/\p.2=2^(7-p.1)) (fun p=>[(7,.int .i64 (p.1:Int)),(6,.int .u8 (p.2:Nat))]) [(1,_),(2,_),(4,_),(5,_)] (fun p=>p.1) ((7,1)) ⟨rfl,rfl,rfl,rfl,trivial⟩ (⟨Nat.le_refl _,by show i%8<=7;omega,rfl⟩) ⟨rfl,rfl,trivial⟩ (fun p hI=>?_);obtain⟨j,c⟩:=p;obtain⟨g1,g2,g3⟩:=hI;simp only at g1 g2 g3⊢;refine zjq 5 O ?_;refine zgq O O (congrArg (W.int .i64) (xjq i 8)) ?_;refine zaq 3 O ?_;refine zyq rfl (fun h3=>?_) (fun h3=>?_)
 ·have hj:i%8<j:=by omega
  have hc:2*c<=255:=by
   have:=pow_le (j-1);rw[show 7-(j-1)=7-j+1 by omega,Nat.pow_succ] at this;omega
  refine zeq 6 O ?_;refine zlq (2*c) O O Xi ⟨by omega,by omega⟩ ?_;refine zaq 6 O ?_;refine zlq (j-1) O O Xi ⟨by omega,by omega⟩ ?_;refine yyq 2 O ?_;exact z5q ((j-1,2*c)) (⟨by simp only;omega,by simp only;omega,by simp only[g3];rw[show 7-(j-1)=7-j+1 by omega,Nat.pow_succ,Nat.mul_comm]⟩) Yh ⟨rfl,rfl,trivial⟩ ⟨rfl,rfl,rfl,rfl,trivial⟩ Xg Xd Xm rfl
 ·have hj:i%8=j:=by omega
  subst hj;refine zeq 2 O ?_;refine z3q Xj ?_;refine zCq 7 O ?_;refine zkq O O O O O O (rat_s _ _ Xd) ?_;refine zaq 3 O ?_;refine zyq rfl (fun h4=>?_) (fun h4=>?_)
  ·have hb:kn k (i/8)/2^(7-i%8)%2=1:=by
    have h4:((bitN k i:Nat):Int)=1:=h4;unfold bitN at h4;omega
   obtain⟨q1,q2⟩:=xor_sub _ Xd _ Xd hb;refine zeq 2 O ?_;refine zlq (i/8) O O (kPq i 8) ⟨by omega,by omega⟩ ?_;refine zbq rfl (zsq (i:=i/8) O O O O O O Xd) ?_;refine znq rfl (ypq O O O (dW_ld k Xd)) ?_;refine zbq O O (zlq (kn k (i/8) -c) O O Xi ⟨by omega,by omega⟩ ?_);refine zbq rfl (zsq (i:=i/8) O O O O O O Xd) ?_;refine znq rfl (jLq O O O O O (qSq (i:=0+i/8*1) Qq O O) rfl) ?_;refine zaq 10 O ?_;refine zhq (.inr rfl) O ?_;rw[Nat.zero_add,Nat.mul_one,dW_set k (i/8) Xd,g3,<-q2];unfold qMq;rfl
  ·have hb:¬kn k (i/8)/2^(7-i%8)%2=1:=by
    have h4:¬((bitN k i:Nat):Int)=1:=h4;unfold bitN at h4;omega
   obtain⟨q1,q2⟩:=xor_add _ Xd _ Xd hb;refine zeq 2 O ?_;refine zlq (i/8) O O (kPq i 8) ⟨by omega,by omega⟩ ?_;refine zbq rfl (zsq (i:=i/8) O O O O O O Xd) ?_;refine znq rfl (ypq O O O (dW_ld k Xd)) ?_;refine zbq O O (zlq (kn k (i/8)+c) O O Xi ⟨by omega,by omega⟩ ?_);refine zbq rfl (zsq (i:=i/8) O O O O O O Xd) ?_;refine znq rfl (jLq O O O O O (qSq (i:=0+i/8*1) Qq O O) rfl) ?_;refine zaq 10 O ?_;refine zhq (.inr rfl) O ?_;rw[Nat.zero_add,Nat.mul_one,dW_set k (i/8) Xd,g3,<-q2];unfold qMq;rfl
theorem rvalue_s(l:List UInt8)(f:Bool):PS cfg G 181 [.fz (zdq l) 1 f] (.bool (valB l)):=by
 have e:=ziq l;refine zFq (fn:=Tryz.f181) O O O (Ob rfl) (fun R k0=>?_);refine zjq 8 O ?_;refine zgq (w':=.int .i64 (l.length:Int)) O O Xy ?_;refine yZq O O (fun h1=>?_) (fun h1=>?_)
 ·have h0:0<l.length:=by omega
  refine zaq 2 O ?_;refine zgq (w':=.int .i64 (l.length:Int)) O O Xy ?_;refine yVq O O ?_;refine zaq 5 O ?_;refine zhq (.inr rfl) O ?_;unfold valB;rw[decide_eq_true h0,Bool.true_and];exact congrArg W.bool (decide_eq_decide.2 Xd)
 ·have h0:¬0<l.length:=by omega
  refine zaq 9 O ?_;refine zhq (.inr rfl) O ?_;unfold valB;rw[decide_eq_false h0,Bool.false_and]
end
end
end Go.Proofs.YtjmekaoadfmkfaaGreatDoor

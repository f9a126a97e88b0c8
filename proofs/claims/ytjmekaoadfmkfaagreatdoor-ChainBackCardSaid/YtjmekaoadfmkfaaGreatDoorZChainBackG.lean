/-
  What the proof of ChainBack stands on, part 7. No condition.
-/
import Derived.Ground.SlbNamesProg
import Derived.Shelf.Bytes.SlJoin
import Derived.Test.YtjmekaoadfmkfaaGreatDoorProg
import Derived.Test.YtjmekaoadfmkfaaGreatDoorZChainBackF
set_option linter.unusedSimpArgs false
set_option linter.unusedVariables false
namespace Go.Proofs.YtjmekaoadfmkfaaGreatDoor
section
open Go.RowKit
section
attribute [local irreducible] CoW OpW FlW Step Spec
noncomputable def wordN(b0 b1 b2 b3:Nat):Nat:=orN (orN (orN (shlN (b0%4294967296) 24) (shlN (b1%4294967296) 16)) (shlN (b2%4294967296) 8)) (b3%4294967296)
noncomputable def nextW(bs:Nat->Nat)(l:List Nat):Nat:=match Nat.blt l.length 16 with
 |true=>wordN (bs (4*l.length)) (bs (4*l.length+1)) (bs (4*l.length+2)) (bs (4*l.length+3))
 |false=>addN (addN (addN (l.getD (l.length-16) 0) (xorN (xorN (rotN (l.getD (l.length-15) 0) 7) (rotN (l.getD (l.length-15) 0) 18)) (shrN (l.getD (l.length-15) 0) 3))) (l.getD (l.length-7) 0)) (xorN (xorN (rotN (l.getD (l.length-2) 0) 17) (rotN (l.getD (l.length-2) 0) 19)) (shrN (l.getD (l.length-2) 0) 10))
noncomputable def qGq(bs:Nat->Nat):Nat->List Nat
 |0=>[]
 |t+1=>qGq bs t++[nextW bs (qGq bs t)]
theorem sched_len(bs:Nat->Nat):∀t,(qGq bs t).length=t
 |0=>rfl
 |t+1=>by simp[qGq,sched_len bs t]
theorem Q5q{l:List Nat}{i:Nat}(h:i<l.length):(l.map wd)[i]? =some (wd (l.getD i 0)):=by
 simp[List.getElem?_map,List.getElem?_eq_getElem h,List.getD]
noncomputable def kW:List Nat:=[1116352408,1899447441,3049323471,3921009573,961987163,1508970993,2453635748,2870763221,3624381080,310598401,607225278,1426881987,1925078388,2162078206,2614888103,3248222580,3835390401,4022224774,264347078,604807628,770255983,1249150122,1555081692,1996064986,2554220882,2821834349,2952996808,3210313671,3336571891,3584528711,113926993,338241895,666307205,773529912,1294757372,1396182291,1695183700,1986661051,2177026350,2456956037,2730485921,2820302411,3259730800,3345764771,3516065817,3600352804,4094571909,275423344,430227734,506948616,659060556,883997877,958139571,1322822218,1537002063,1747873779,1955562222,2024104815,2227730452,2361852424,2428436474,2756734187,3204031479,3329325298]
noncomputable def glK:Nat->Option W:=fun g=>match g with
 |0=>some (.arr 64 1 (kW.map wd))
 |_=>none
noncomputable def pad0(l:List Nat)(n:Nat):List Nat:=l++List.replicate (n-l.length) 0
theorem pad0_at{l:List Nat}{n i:Nat}(h:i<l.length):((pad0 l n).map wd)[i]? =some (wd (l.getD i 0)):=by
 have:i<(pad0 l n).length:=by simp[pad0];omega
 rw[Q5q this];simp[pad0,List.getD,List.getElem?_append,h]
theorem pad0_ge{l:List Nat}{n:Nat}(h:l.length<n):((pad0 l n).map wd)[l.length]? =some (wd 0):=by
 have:l.length<(pad0 l n).length:=by simp[pad0];omega
 rw[Q5q this];simp[pad0,List.getD,List.getElem?_append,List.getElem?_replicate,show 0<n-l.length by omega]
theorem pad0_set{l:List Nat}{n x:Nat}(h:l.length<n):((pad0 l n).map wd).set l.length (wd x)=(pad0 (l++[x]) n).map wd:=by
 rw[<-List.map_set];congr 1
 unfold pad0;rw[List.set_append_right _ _ (Nat.le_refl _)];have:n-l.length=(n-(l++[x]).length)+1:=by simp;omega
 rw[this,Nat.sub_self,List.replicate_succ,List.set_cons_zero,List.append_assoc];rfl
structure S8 where
 (a b c d e f g h:Nat)
noncomputable def S8.l(s:S8):List W:=[wd s.a,wd s.b,wd s.c,wd s.d,wd s.e,wd s.f,wd s.g,wd s.h]
noncomputable def roundN(k w:Nat)(v:S8):S8:=
 let one:=addN (addN (addN (addN v.h (xorN (xorN (rotN v.e 6) (rotN v.e 11)) (rotN v.e 25))) (xorN (andN v.e v.f) (andN (notN v.e) v.g))) k) w
 let two:=addN (xorN (xorN (rotN v.a 2) (rotN v.a 13)) (rotN v.a 22)) (xorN (xorN (andN v.a v.b) (andN v.a v.c)) (andN v.b v.c))
 ⟨addN one two,v.a,v.b,v.c,addN v.d one,v.e,v.f,v.g⟩
noncomputable def rounds(ws:List Nat)(s:S8):Nat->S8
 |0=>s
 |t+1=>roundN (kW.getD t 0) (ws.getD t 0) (rounds ws s t)
noncomputable def add8(s v:S8):S8:=⟨addN s.a v.a,addN s.b v.b,addN s.c v.c,addN s.d v.d,addN s.e v.e,addN s.f v.f,addN s.g v.g,addN s.h v.h⟩
noncomputable def x8q(bs:Nat->Nat)(s:S8):S8:=add8 s (rounds (qGq bs 64) s 64)
noncomputable def mix8(s v:S8):Nat->List W
 |0=>s.l
 |1=>[wd (addN s.a v.a),wd s.b,wd s.c,wd s.d,wd s.e,wd s.f,wd s.g,wd s.h]
 |2=>[wd (addN s.a v.a),wd (addN s.b v.b),wd s.c,wd s.d,wd s.e,wd s.f,wd s.g,wd s.h]
 |3=>[wd (addN s.a v.a),wd (addN s.b v.b),wd (addN s.c v.c),wd s.d,wd s.e,wd s.f,wd s.g,wd s.h]
 |4=>[wd (addN s.a v.a),wd (addN s.b v.b),wd (addN s.c v.c),wd (addN s.d v.d),wd s.e,wd s.f,wd s.g,wd s.h]
 |5=>[wd (addN s.a v.a),wd (addN s.b v.b),wd (addN s.c v.c),wd (addN s.d v.d),wd (addN s.e v.e),wd s.f,wd s.g,wd s.h]
 |6=>[wd (addN s.a v.a),wd (addN s.b v.b),wd (addN s.c v.c),wd (addN s.d v.d),wd (addN s.e v.e),wd (addN s.f v.f),wd s.g,wd s.h]
 |7=>[wd (addN s.a v.a),wd (addN s.b v.b),wd (addN s.c v.c),wd (addN s.d v.d),wd (addN s.e v.e),wd (addN s.f v.f),wd (addN s.g v.g),wd s.h]
 |_=>(add8 s v).l
theorem kW_len:kW.length=64:=rfl
set_option maxHeartbeats 1600000 in
theorem block_s(s:S8)(bs:Nat->Nat)(c:W)(base off:Nat)(lim:Option Nat)(ty:TypeId)(hc:refB 2 c=true)(hby:∀i,i<64->ynq 50 c (off+i*1) 1 false=some (.int .u8 (.ofNat (bs i))))(R:Res):
  Spec cfg glK 265 2 [.ptr 0 0,.sl 1 base off 64 1 lim] [(0,346,.arr 8 1 s.l),(1,ty,c)] R fun w hp nw R'=>R'=R/\w= .tup []/\hp=[(0,346,.arr 8 1 (x8q bs s).l),(1,ty,c)]/\nw=2:=by
 refine zXq (fn:=Tryz.f265) O O O (Ob rfl) (fun k0=>?_);refine zLq (znq (zwq O O (zYq ?_)));refine ybq (zLq (zLq (znq (zbq O O (zYq ?_)))));refine ybq (yqq ?_);refine qyq (fun t:Nat=>t<=64) (fun t=>[(19,.int .i64 (t:Int)),(4,.ptr 2 0),(1,.sl 1 base off 64 1 lim),(0,.ptr 0 0)]) (fun t=>[(2,364,.arr 64 1 ((pad0 (qGq bs t) 64).map wd)),(0,346,.arr 8 1 s.l),(1,ty,c)]) (fun _=>3) (fun _=>R) (fun t=>64-t) 0 (Nat.zero_le _) ?_ (fun t ht=>?_)
 ·exact yfq ⟨rfl,rfl,rfl,rfl,trivial⟩ O O
 have hl:=sched_len bs t;refine zLq (znq (zbq O O (zYq ?_)));refine ybq (zLq ?_);refine jzq rfl (fun hc1=>?_) (fun hc1=>?_)
 ·have ht1:t<64:=by have:=ltI_iff.1 hc1;omega
  have h0:((pad0 (qGq bs t) 64).map wd)[0+t*1]? =some (wd 0):=by
   have:=pad0_ge (l:=qGq bs t) (n:=64) Xd;rw[hl] at this;simpa using this
  have key:∀x,nextW bs (qGq bs t)=x->((pad0 (qGq bs t) 64).map wd).set (0+t*1) (wd x)=(pad0 (qGq bs (t+1)) 64).map wd:=fun x hx=>by
   have:=pad0_set (l:=qGq bs t) (n:=64) (x:=x) Xd;rw[hl] at this;rw[Nat.zero_add,Nat.mul_one,this,qGq,hx]
  refine qxq (ybq (zLq (yqq (zLq (znq (zbq O O (zbq O O (zYq ?_))))))));refine ybq (zLq (zLq (znq (zbq O O (zbq O O (zYq ?_))))));refine ybq ?_;refine jzq rfl (fun hc2=>?_) (fun hc2=>?_)
  ·have ht2:t<16:=by have:=ltI_iff.1 hc2;omega
   refine zLq (jmq (zcq O O (zcq O O (zcq O O ?_))));first|refine yPq O O ⟨by omega,by omega⟩ ?_|refine zcq O O ?_
   refine zcq rfl (zJq (i:=4*t) O O O O O O O Xd) ?_;refine y1q rfl (yNq O O O (hby _ Xd)) Xu ?_;first|refine yPq O O ⟨by omega,by omega⟩ ?_|refine zcq O O ?_
   refine zcq O O (zcq O O (zcq O O ?_));first|refine yPq O O ⟨by omega,by omega⟩ ?_|refine zcq O O ?_
   first|refine yPq O O ⟨by omega,by omega⟩ ?_|refine zcq O O ?_
   refine zcq rfl (zJq (i:=4*t+1) O O O O O O O Xd) ?_;refine y1q rfl (yNq O O O (hby _ Xd)) Xu ?_;first|refine yPq O O ⟨by omega,by omega⟩ ?_|refine zcq O O ?_
   refine zcq O O (zcq O O (zcq O O (zcq O O ?_)));first|refine yPq O O ⟨by omega,by omega⟩ ?_|refine zcq O O ?_
   first|refine yPq O O ⟨by omega,by omega⟩ ?_|refine zcq O O ?_
   refine zcq rfl (zJq (i:=4*t+2) O O O O O O O Xd) ?_;refine y1q rfl (yNq O O O (hby _ Xd)) Xu ?_;first|refine yPq O O ⟨by omega,by omega⟩ ?_|refine zcq O O ?_
   refine zcq O O (zcq O O (zcq O O (zcq O O ?_)));first|refine yPq O O ⟨by omega,by omega⟩ ?_|refine zcq O O ?_
   first|refine yPq O O ⟨by omega,by omega⟩ ?_|refine zcq O O ?_
   refine zcq rfl (zJq (i:=4*t+3) O O O O O O O Xd) ?_;refine y1q rfl (yNq O O O (hby _ Xd)) Xu ?_;first|refine yPq O O ⟨by omega,by omega⟩ ?_|refine zcq O O ?_
   refine zcq O O (zcq rfl (zzq (i:=t) O O O O O O Xd) ?_);refine y1q rfl (uIq O O O O O (xTq h0 O O) rfl) Xu ?_;refine j9q ?_;refine ybq (jRq ?_);refine xkq Xj ?_;refine Zaq (ybq (znq ?_));first|refine ypq O O ⟨by omega,by omega⟩ ?_|refine zbq O O ?_
   refine zbq O O (zYq ?_);refine yDq (t+1) Xd Xd (yfq ⟨rfl,rfl,rfl,rfl,trivial⟩ (congrArg (fun L=>[(2,364,W.arr 64 1 L),(0,346,.arr 8 1 s.l),(1,ty,c)]) (key (wordN (bs (4*t)) (bs (4*t+1)) (bs (4*t+2)) (bs (4*t+3))) ?_)) rfl);have hb:Nat.blt (qGq bs t).length 16=true:=by rw[hl];simpa[Nat.blt_eq] using ht2
   unfold nextW;rw[hb];simp only[hl]
  ·have ht2:¬t<16:=by have:=ltI_not.1 hc2;omega
   have hA:∀k,k<t->((pad0 (qGq bs t) 64).map wd)[0+k*1]? =some (wd ((qGq bs t).getD k 0)):=fun k hk=>by
    rw[Nat.zero_add,Nat.mul_one];exact pad0_at Xd
   refine qxq (ybq (zLq (jmq (zcq O O (jlq (t-15) O O Xm ⟨by omega,by omega⟩ ?_)))));refine zcq rfl (zzq (i:=t-15) O O O O O O Xd) ?_;refine y1q rfl (yNq O O O (jCq (hA (t-15) Xd) rfl)) Xu ?_;refine zcq O O (jlq (t-2) O O Xm ⟨by omega,by omega⟩ ?_);refine zcq rfl (zzq (i:=t-2) O O O O O O Xd) ?_;refine y1q rfl (yNq O O O (jCq (hA (t-2) Xd) rfl)) Xu ?_;refine zcq O O (zcq O O (j9q ?_));refine ybq (jmq (zcq O O (zcq O O (jlq (t-16) O O Xm ⟨by omega,by omega⟩ ?_))));refine zcq rfl (zzq (i:=t-16) O O O O O O Xd) ?_;refine y1q rfl (yNq O O O (jCq (hA (t-16) Xd) rfl)) Xu ?_;refine zcq O O ?_
   (refine yjq rfl (y8q O O O O (jBq _ Xr _ _) O ?_);rintro w hp1 nw1 ⟨rfl,rfl,rfl⟩;first|refine⟨rfl,rfl,?_⟩|refine⟨rfl,?_⟩)
   refine zcq O O ?_
   (refine yjq rfl (y8q O O O O (jBq _ Xr _ _) O ?_);rintro w hp1 nw1 ⟨rfl,rfl,rfl⟩;first|refine⟨rfl,rfl,?_⟩|refine⟨rfl,?_⟩)
   refine zcq O O (zcq O O (zcq O O (zcq O O ?_)));first|refine yPq O O ⟨by omega,by omega⟩ ?_|refine zcq O O ?_
   refine zcq O O (jlq (t-7) O O Xm ⟨by omega,by omega⟩ ?_);refine zcq rfl (zzq (i:=t-7) O O O O O O Xd) ?_;refine y1q rfl (yNq O O O (jCq (hA (t-7) Xd) rfl)) Xu ?_;first|refine yPq O O ⟨by omega,by omega⟩ ?_|refine zcq O O ?_
   refine zcq O O ?_
   (refine yjq rfl (y8q O O O O (jBq _ Xr _ _) O ?_);rintro w hp1 nw1 ⟨rfl,rfl,rfl⟩;first|refine⟨rfl,rfl,?_⟩|refine⟨rfl,?_⟩)
   refine zcq O O ?_
   (refine yjq rfl (y8q O O O O (jBq _ Xr _ _) O ?_);rintro w hp1 nw1 ⟨rfl,rfl,rfl⟩;first|refine⟨rfl,rfl,?_⟩|refine⟨rfl,?_⟩)
   refine zcq O O (zcq O O (zcq O O (zcq O O ?_)));first|refine yPq O O ⟨by omega,by omega⟩ ?_|refine zcq O O ?_
   refine zcq rfl (zzq (i:=t) O O O O O O Xd) ?_;refine y1q rfl (uIq O O O O O (xTq h0 O O) rfl) Xu ?_;refine j9q ?_;refine jsq Yb ?_;refine ybq (znq ?_);first|refine ypq O O ⟨by omega,by omega⟩ ?_|refine zbq O O ?_
   refine zbq O O (zYq ?_);refine yDq (t+1) Xd Xd (yfq ⟨rfl,rfl,rfl,rfl,trivial⟩ (congrArg (fun L=>[(2,364,W.arr 64 1 L),(0,346,.arr 8 1 s.l),(1,ty,c)]) (key (addN (addN (addN ((qGq bs t).getD (t-16) 0) (xorN (xorN (rotN ((qGq bs t).getD (t-15) 0) 7) (rotN ((qGq bs t).getD (t-15) 0) 18)) (shrN ((qGq bs t).getD (t-15) 0) 3))) ((qGq bs t).getD (t-7) 0)) (xorN (xorN (rotN ((qGq bs t).getD (t-2) 0) 17) (rotN ((qGq bs t).getD (t-2) 0) 19)) (shrN ((qGq bs t).getD (t-2) 0) 10))) ?_)) rfl)
   have hb:Nat.blt (qGq bs t).length 16=false:=by
    cases hq:Nat.blt (qGq bs t).length 16 with
    |true=>exact absurd (blt_t hq) Xd
    |false=>rfl
   unfold nextW;rw[hb];simp only[hl]
 ·obtain rfl:t=64:=by have:=ltI_not.1 hc1;omega
  have hS:(pad0 (qGq bs 64) 64)=qGq bs 64:=by
   unfold pad0;rw[hl];simp
  simp only[hS];refine jRq ?_;refine xkq Xj ?_;refine jaq Xj ?_;refine Zaq (ybq (zLq (znq (zbq O O (zbq O O (zwq O O (zwq O O (zwq O O (zYq ?_)))))))));refine ybq (zLq (zLq (znq (zbq O O (zYq ?_)))));refine ybq (yqq ?_);refine qyq (fun t:Nat=>t<=64) (fun t=>[(100,.int .i64 (t:Int)),(8,.ptr 3 0),(4,.ptr 2 0),(0,.ptr 0 0)]) (fun t=>[(3,346,.arr 8 1 (rounds (qGq bs 64) s t).l),(2,364,.arr 64 1 ((qGq bs 64).map wd)),(0,346,.arr 8 1 s.l),(1,ty,c)]) (fun _=>4) (fun _=>R) (fun t=>64-t) 0 (Nat.zero_le _) ?_ (fun t ht=>?_)
  ·exact yfq ⟨rfl,rfl,rfl,rfl,trivial⟩ O O
  refine zLq (znq (zbq O O (zYq ?_)));refine ybq (zLq ?_);refine jzq rfl (fun hc3=>?_) (fun hc3=>?_)
  ·have ht1:t<64:=by have:=ltI_iff.1 hc3;omega
   have hK:ynq 50 (.arr 64 1 (kW.map wd)) (t*1) 1 false=some (wd (kW.getD t 0)):=jCq (by rw[Nat.mul_one];exact Q5q (by rw[kW_len];exact ht1)) rfl;have hW:ynq 50 (.arr 64 1 ((qGq bs 64).map wd)) (0+t*1) 1 false=some (wd ((qGq bs 64).getD t 0)):=jCq (by rw[Nat.zero_add,Nat.mul_one];exact Q5q Xd) rfl;refine qxq (ybq (zLq (yqq (zLq (znq (zbq O O (zbq O O (zYq ?_))))))));refine ybq (zLq (jmq ?_));first|refine zcq O O ?_|refine zcq rfl (zJq O O O O O O O Xd) ?_|refine zcq rfl (zzq O O O O O O Xd) ?_|refine zcq rfl (zBq O O O O O O O Xi) ?_
   refine ySq O O ?_;first|refine zcq O O ?_|refine zcq rfl (zJq O O O O O O O Xd) ?_|refine zcq rfl (zzq O O O O O O Xd) ?_|refine zcq rfl (zBq O O O O O O O Xi) ?_
   refine ySq O O ?_;first|refine zcq O O ?_|refine zcq rfl (zJq O O O O O O O Xd) ?_|refine zcq rfl (zzq O O O O O O Xd) ?_|refine zcq rfl (zBq O O O O O O O Xi) ?_
   refine ySq O O ?_;first|refine zcq O O ?_|refine zcq rfl (zJq O O O O O O O Xd) ?_|refine zcq rfl (zzq O O O O O O Xd) ?_|refine zcq rfl (zBq O O O O O O O Xi) ?_
   refine ySq O O ?_;first|refine zcq O O ?_|refine zcq rfl (zJq O O O O O O O Xd) ?_|refine zcq rfl (zzq O O O O O O Xd) ?_|refine zcq rfl (zBq O O O O O O O Xi) ?_
   refine ySq O O ?_;first|refine zcq O O ?_|refine zcq rfl (zJq O O O O O O O Xd) ?_|refine zcq rfl (zzq O O O O O O Xd) ?_|refine zcq rfl (zBq O O O O O O O Xi) ?_
   refine ySq O O ?_;refine zcq O O (zcq O O (zcq O O (zcq O O (zcq O O (zcq O O (j9q ?_))))));refine ybq (zLq (jmq ?_));first|refine zcq O O ?_|refine zcq rfl (zJq O O O O O O O Xd) ?_|refine zcq rfl (zzq O O O O O O Xd) ?_|refine zcq rfl (zBq O O O O O O O Xi) ?_
   refine ySq O O ?_;refine zcq O O ?_
   (refine yjq rfl (y8q O O O O (jBq _ Xr _ _) O ?_);rintro w hp1 nw1 ⟨rfl,rfl,rfl⟩;first|refine⟨rfl,rfl,?_⟩|refine⟨rfl,?_⟩)
   refine zcq O O ?_
   (refine yjq rfl (y8q O O O O (jBq _ Xr _ _) O ?_);rintro w hp1 nw1 ⟨rfl,rfl,rfl⟩;first|refine⟨rfl,rfl,?_⟩|refine⟨rfl,?_⟩)
   refine zcq O O (zcq O O ?_)
   (refine yjq rfl (y8q O O O O (jBq _ Xr _ _) O ?_);rintro w hp1 nw1 ⟨rfl,rfl,rfl⟩;first|refine⟨rfl,rfl,?_⟩|refine⟨rfl,?_⟩)
   refine zcq O O ?_;first|refine yPq O O ⟨by omega,by omega⟩ ?_|refine zcq O O ?_
   refine zcq O O (zcq O O (zcq O O (zcq O O (zcq O O (zcq O O (zcq O O (zcq O O ?_)))))));first|refine yPq O O ⟨by omega,by omega⟩ ?_|refine zcq O O ?_
   refine zcq O O (zcq rfl (ix_fel (i:=t) O O O O O O Xd rfl hK) ?_);refine ySq O O ?_;first|refine yPq O O ⟨by omega,by omega⟩ ?_|refine zcq O O ?_
   refine zcq O O (zcq rfl (zzq (i:=t) O O O O O O Xd) ?_);refine y1q rfl (yNq O O O hW) Xu ?_;first|refine yPq O O ⟨by omega,by omega⟩ ?_|refine zcq O O ?_
   refine zcq O O (j9q ?_);refine ybq (zLq (znq (zbq O O ?_)))
   (refine zoq rfl (y8q O O O O (jBq _ Xr _ _) O ?_);rintro w hp1 nw1 ⟨rfl,rfl,rfl⟩;first|refine⟨rfl,rfl,?_⟩|refine⟨rfl,?_⟩)
   refine zbq O O ?_
   (refine zoq rfl (y8q O O O O (jBq _ Xr _ _) O ?_);rintro w hp1 nw1 ⟨rfl,rfl,rfl⟩;first|refine⟨rfl,rfl,?_⟩|refine⟨rfl,?_⟩)
   refine zbq O O (zbq O O ?_)
   (refine zoq rfl (y8q O O O O (jBq _ Xr _ _) O ?_);rintro w hp1 nw1 ⟨rfl,rfl,rfl⟩;first|refine⟨rfl,rfl,?_⟩|refine⟨rfl,?_⟩)
   refine zbq O O (zbq O O (zbq O O (zbq O O (zbq O O (zbq O O (zbq O O (zbq O O (zbq O O (zbq O O (zbq O O (zbq O O ?_)))))))))));first|refine ypq O O ⟨by omega,by omega⟩ ?_|refine zbq O O ?_
   refine zbq O O (zYq ?_);refine ybq (znq (zbq O O (zbq O O ?_)));first|refine ypq O O ⟨by omega,by omega⟩ ?_|refine zbq O O ?_
   refine zbq O O (zbq O O (zbq O O ?_));first|refine zbq O O ?_|refine zbq rfl (zJq O O O O O O O Xd) ?_|refine zbq rfl (zzq O O O O O O Xd) ?_|refine zbq rfl (zBq O O O O O O O Xi) ?_
   refine zwq O O (zbq O O ?_);first|refine ypq O O ⟨by omega,by omega⟩ ?_|refine zbq O O ?_
   refine zbq O O (zbq O O (zbq O O (zbq O O (zwq O O (zYq ?_)))));refine jsq Yb ?_;refine ybq (znq ?_);first|refine ypq O O ⟨by omega,by omega⟩ ?_|refine zbq O O ?_
   refine zbq O O (zYq ?_);refine yDq (t+1) Xd Xd (yfq ⟨rfl,rfl,rfl,rfl,trivial⟩ O O)
  ·obtain rfl:t=64:=by have:=ltI_not.1 hc3;omega
   refine jRq ?_;refine xkq Xj ?_;refine jaq Xj ?_;refine Zaq (ybq (zLq (znq (zbq O O (zYq ?_)))));refine ybq (yqq ?_);refine qyq (fun i:Nat=>i<=8) (fun i=>[(178,.int .i64 (i:Int)),(8,.ptr 3 0),(0,.ptr 0 0)]) (fun i=>[(3,346,.arr 8 1 (rounds (qGq bs 64) s 64).l),(0,346,.arr 8 1 (mix8 s (rounds (qGq bs 64) s 64) i)),(1,ty,c)]) (fun _=>4) (fun _=>R) (fun i=>8-i) 0 (Nat.zero_le _) ?_ (fun i hi=>?_)
   ·exact(ent_del (b:=2)).trans (yfq ⟨rfl,rfl,rfl,trivial⟩ O O)
   refine zLq (znq (zbq O O (zYq ?_)));refine ybq (zLq ?_);refine jzq rfl (fun hc4=>?_) (fun hc4=>?_)
   ·have hi1:i<8:=by have:=ltI_iff.1 hc4;omega
    have hq:i=0\/i=1\/i=2\/i=3\/i=4\/i=5\/i=6\/i=7:=by omega
    skip
    rcases hq with rfl|rfl|rfl|rfl|rfl|rfl|rfl|rfl
    ·skip
     refine qxq (ybq (zLq (yqq (zLq (znq (zbq O O (zbq O O (zYq ?_))))))));refine ybq (jmq (zcq O O (zcq O O (zcq O O ?_))));first|refine zcq O O ?_|refine zcq rfl (zJq O O O O O O O Xd) ?_|refine zcq rfl (zzq O O O O O O Xd) ?_|refine zcq rfl (zBq O O O O O O O Xi) ?_
     refine ySq O O ?_;refine zcq O O ?_;first|refine zcq O O ?_|refine zcq rfl (zJq O O O O O O O Xd) ?_|refine zcq rfl (zzq O O O O O O Xd) ?_|refine zcq rfl (zBq O O O O O O O Xi) ?_
     refine ySq O O ?_;first|refine yPq O O ⟨by omega,by omega⟩ ?_|refine zcq O O ?_
     refine zcq O O ?_;first|refine zcq O O ?_|refine zcq rfl (zJq O O O O O O O Xd) ?_|refine zcq rfl (zzq O O O O O O Xd) ?_|refine zcq rfl (zBq O O O O O O O Xi) ?_
     refine ySq O O ?_;refine j9q ?_;refine jsq Yb ?_;refine ybq (znq ?_);first|refine ypq O O ⟨by omega,by omega⟩ ?_|refine zbq O O ?_
     refine zbq O O (zYq ?_);exact yDq 1 Xr Xr (yfq ⟨rfl,rfl,rfl,trivial⟩ O O)
    ·skip
     refine qxq (ybq (zLq (yqq (zLq (znq (zbq O O (zbq O O (zYq ?_))))))));refine ybq (jmq (zcq O O (zcq O O (zcq O O ?_))));first|refine zcq O O ?_|refine zcq rfl (zJq O O O O O O O Xd) ?_|refine zcq rfl (zzq O O O O O O Xd) ?_|refine zcq rfl (zBq O O O O O O O Xi) ?_
     refine ySq O O ?_;refine zcq O O ?_;first|refine zcq O O ?_|refine zcq rfl (zJq O O O O O O O Xd) ?_|refine zcq rfl (zzq O O O O O O Xd) ?_|refine zcq rfl (zBq O O O O O O O Xi) ?_
     refine ySq O O ?_;first|refine yPq O O ⟨by omega,by omega⟩ ?_|refine zcq O O ?_
     refine zcq O O ?_;first|refine zcq O O ?_|refine zcq rfl (zJq O O O O O O O Xd) ?_|refine zcq rfl (zzq O O O O O O Xd) ?_|refine zcq rfl (zBq O O O O O O O Xi) ?_
     refine ySq O O ?_;refine j9q ?_;refine jsq Yb ?_;refine ybq (znq ?_);first|refine ypq O O ⟨by omega,by omega⟩ ?_|refine zbq O O ?_
     refine zbq O O (zYq ?_);exact yDq 2 Xr Xr (yfq ⟨rfl,rfl,rfl,trivial⟩ O O)
    ·skip
     refine qxq (ybq (zLq (yqq (zLq (znq (zbq O O (zbq O O (zYq ?_))))))));refine ybq (jmq (zcq O O (zcq O O (zcq O O ?_))));first|refine zcq O O ?_|refine zcq rfl (zJq O O O O O O O Xd) ?_|refine zcq rfl (zzq O O O O O O Xd) ?_|refine zcq rfl (zBq O O O O O O O Xi) ?_
     refine ySq O O ?_;refine zcq O O ?_;first|refine zcq O O ?_|refine zcq rfl (zJq O O O O O O O Xd) ?_|refine zcq rfl (zzq O O O O O O Xd) ?_|refine zcq rfl (zBq O O O O O O O Xi) ?_
     refine ySq O O ?_;first|refine yPq O O ⟨by omega,by omega⟩ ?_|refine zcq O O ?_
     refine zcq O O ?_;first|refine zcq O O ?_|refine zcq rfl (zJq O O O O O O O Xd) ?_|refine zcq rfl (zzq O O O O O O Xd) ?_|refine zcq rfl (zBq O O O O O O O Xi) ?_
     refine ySq O O ?_;refine j9q ?_;refine jsq Yb ?_;refine ybq (znq ?_);first|refine ypq O O ⟨by omega,by omega⟩ ?_|refine zbq O O ?_
     refine zbq O O (zYq ?_);exact yDq 3 Xr Xr (yfq ⟨rfl,rfl,rfl,trivial⟩ O O)
    ·skip
     refine qxq (ybq (zLq (yqq (zLq (znq (zbq O O (zbq O O (zYq ?_))))))));refine ybq (jmq (zcq O O (zcq O O (zcq O O ?_))));first|refine zcq O O ?_|refine zcq rfl (zJq O O O O O O O Xd) ?_|refine zcq rfl (zzq O O O O O O Xd) ?_|refine zcq rfl (zBq O O O O O O O Xi) ?_
     refine ySq O O ?_;refine zcq O O ?_;first|refine zcq O O ?_|refine zcq rfl (zJq O O O O O O O Xd) ?_|refine zcq rfl (zzq O O O O O O Xd) ?_|refine zcq rfl (zBq O O O O O O O Xi) ?_
     refine ySq O O ?_;first|refine yPq O O ⟨by omega,by omega⟩ ?_|refine zcq O O ?_
     refine zcq O O ?_;first|refine zcq O O ?_|refine zcq rfl (zJq O O O O O O O Xd) ?_|refine zcq rfl (zzq O O O O O O Xd) ?_|refine zcq rfl (zBq O O O O O O O Xi) ?_
     refine ySq O O ?_;refine j9q ?_;refine jsq Yb ?_;refine ybq (znq ?_);first|refine ypq O O ⟨by omega,by omega⟩ ?_|refine zbq O O ?_
     refine zbq O O (zYq ?_);exact yDq 4 Xr Xr (yfq ⟨rfl,rfl,rfl,trivial⟩ O O)
    ·skip
     refine qxq (ybq (zLq (yqq (zLq (znq (zbq O O (zbq O O (zYq ?_))))))));refine ybq (jmq (zcq O O (zcq O O (zcq O O ?_))));first|refine zcq O O ?_|refine zcq rfl (zJq O O O O O O O Xd) ?_|refine zcq rfl (zzq O O O O O O Xd) ?_|refine zcq rfl (zBq O O O O O O O Xi) ?_
     refine ySq O O ?_;refine zcq O O ?_;first|refine zcq O O ?_|refine zcq rfl (zJq O O O O O O O Xd) ?_|refine zcq rfl (zzq O O O O O O Xd) ?_|refine zcq rfl (zBq O O O O O O O Xi) ?_
     refine ySq O O ?_;first|refine yPq O O ⟨by omega,by omega⟩ ?_|refine zcq O O ?_
     refine zcq O O ?_;first|refine zcq O O ?_|refine zcq rfl (zJq O O O O O O O Xd) ?_|refine zcq rfl (zzq O O O O O O Xd) ?_|refine zcq rfl (zBq O O O O O O O Xi) ?_
     refine ySq O O ?_;refine j9q ?_;refine jsq Yb ?_;refine ybq (znq ?_);first|refine ypq O O ⟨by omega,by omega⟩ ?_|refine zbq O O ?_
     refine zbq O O (zYq ?_);exact yDq 5 Xr Xr (yfq ⟨rfl,rfl,rfl,trivial⟩ O O)
    ·skip
     refine qxq (ybq (zLq (yqq (zLq (znq (zbq O O (zbq O O (zYq ?_))))))));refine ybq (jmq (zcq O O (zcq O O (zcq O O ?_))));first|refine zcq O O ?_|refine zcq rfl (zJq O O O O O O O Xd) ?_|refine zcq rfl (zzq O O O O O O Xd) ?_|refine zcq rfl (zBq O O O O O O O Xi) ?_
     refine ySq O O ?_;refine zcq O O ?_;first|refine zcq O O ?_|refine zcq rfl (zJq O O O O O O O Xd) ?_|refine zcq rfl (zzq O O O O O O Xd) ?_|refine zcq rfl (zBq O O O O O O O Xi) ?_
     refine ySq O O ?_;first|refine yPq O O ⟨by omega,by omega⟩ ?_|refine zcq O O ?_
     refine zcq O O ?_;first|refine zcq O O ?_|refine zcq rfl (zJq O O O O O O O Xd) ?_|refine zcq rfl (zzq O O O O O O Xd) ?_|refine zcq rfl (zBq O O O O O O O Xi) ?_
     refine ySq O O ?_;refine j9q ?_;refine jsq Yb ?_;refine ybq (znq ?_);first|refine ypq O O ⟨by omega,by omega⟩ ?_|refine zbq O O ?_
     refine zbq O O (zYq ?_);exact yDq 6 Xr Xr (yfq ⟨rfl,rfl,rfl,trivial⟩ O O)
    ·skip
     refine qxq (ybq (zLq (yqq (zLq (znq (zbq O O (zbq O O (zYq ?_))))))));refine ybq (jmq (zcq O O (zcq O O (zcq O O ?_))));first|refine zcq O O ?_|refine zcq rfl (zJq O O O O O O O Xd) ?_|refine zcq rfl (zzq O O O O O O Xd) ?_|refine zcq rfl (zBq O O O O O O O Xi) ?_
     refine ySq O O ?_;refine zcq O O ?_;first|refine zcq O O ?_|refine zcq rfl (zJq O O O O O O O Xd) ?_|refine zcq rfl (zzq O O O O O O Xd) ?_|refine zcq rfl (zBq O O O O O O O Xi) ?_
     refine ySq O O ?_;first|refine yPq O O ⟨by omega,by omega⟩ ?_|refine zcq O O ?_
     refine zcq O O ?_;first|refine zcq O O ?_|refine zcq rfl (zJq O O O O O O O Xd) ?_|refine zcq rfl (zzq O O O O O O Xd) ?_|refine zcq rfl (zBq O O O O O O O Xi) ?_
     refine ySq O O ?_;refine j9q ?_;refine jsq Yb ?_;refine ybq (znq ?_);first|refine ypq O O ⟨by omega,by omega⟩ ?_|refine zbq O O ?_
     refine zbq O O (zYq ?_);exact yDq 7 Xr Xr (yfq ⟨rfl,rfl,rfl,trivial⟩ O O)
    ·skip
     refine qxq (ybq (zLq (yqq (zLq (znq (zbq O O (zbq O O (zYq ?_))))))));refine ybq (jmq (zcq O O (zcq O O (zcq O O ?_))));first|refine zcq O O ?_|refine zcq rfl (zJq O O O O O O O Xd) ?_|refine zcq rfl (zzq O O O O O O Xd) ?_|refine zcq rfl (zBq O O O O O O O Xi) ?_
     refine ySq O O ?_;refine zcq O O ?_;first|refine zcq O O ?_|refine zcq rfl (zJq O O O O O O O Xd) ?_|refine zcq rfl (zzq O O O O O O Xd) ?_|refine zcq rfl (zBq O O O O O O O Xi) ?_
     refine ySq O O ?_;first|refine yPq O O ⟨by omega,by omega⟩ ?_|refine zcq O O ?_
     refine zcq O O ?_;first|refine zcq O O ?_|refine zcq rfl (zJq O O O O O O O Xd) ?_|refine zcq rfl (zzq O O O O O O Xd) ?_|refine zcq rfl (zBq O O O O O O O Xi) ?_
     refine ySq O O ?_;refine j9q ?_;refine jsq Yb ?_;refine ybq (znq ?_);first|refine ypq O O ⟨by omega,by omega⟩ ?_|refine zbq O O ?_
     refine zbq O O (zYq ?_);exact yDq 8 Xr Xr (yfq ⟨rfl,rfl,rfl,trivial⟩ O O)
   ·obtain rfl:i=8:=by have:=ltI_not.1 hc4;omega
    refine jRq ?_;refine xkq Xj ?_;refine jaq Xj ?_;refine Zaq ?_;refine fin (.inl rfl) (y2q (fr2:=[]) (hp2:=[(0,346,.arr 8 1 (x8q bs s).l),(1,ty,c)]) (nw2:=2) Xd Xd trivial rfl (qaq ⟨⟨by omega,rfl,rfl⟩,⟨by omega,rfl,hc⟩,trivial⟩) Xl) rfl ⟨rfl,rfl,rfl,rfl⟩
end
section
attribute [local irreducible] CoW OpW FlW Step Spec
noncomputable def atL(r:List Nat)(i:Nat):Nat:=r.getD i 0
noncomputable def eat:Nat->S8->List Nat->S8×List Nat
 |0,s,r=>(s,r)
 |n+1,s,r=>match Nat.ble 64 r.length with
  |true=>eat n (x8q (atL r) s) (r.drop 64)
  |false=>(s,r)
theorem vdq:∀(n:Nat) (s:S8) (r:List Nat),r.length<64->eat n s r=(s,r)
 |0,_,_,_=>rfl
 |n+1,s,r,h=>by
  have:Nat.ble 64 r.length=false:=by
   cases hq:Nat.ble 64 r.length with
   |true=>have:=Ob hq;omega
   |false=>rfl
  simp only[eat,this]
theorem Jnq{n:Nat}{s:S8}{r:List Nat}(h:64<=r.length):eat (n+1) s r=eat n (x8q (atL r) s) (r.drop 64):=by
 simp only[eat,Nat.ble_eq_true_of_le h]
theorem eat_fuel:∀(n m:Nat) (s:S8) (r:List Nat),r.length<=n->r.length<=m->eat n s r=eat m s r
 |0,m,s,r,h,_=>by rw[vdq m s r Xd];rfl
 |n+1,0,s,r,_,h=>by rw[vdq _ s r Xd];rfl
 |n+1,m+1,s,r,h1,h2=>by
  by_cases h:64<=r.length
  ·rw[Jnq h,Jnq h];exact eat_fuel n m _ _ Xt Xt
  ·rw[vdq _ s r Xd,vdq _ s r Xd]
noncomputable def eats(s:S8)(r:List Nat):S8×List Nat:=eat r.length s r
theorem eats_more{s:S8}{r:List Nat}(h:64<=r.length):eats s r=eats (x8q (atL r) s) (r.drop 64):=by
 unfold eats;obtain⟨n,hn⟩:∃n,r.length=n+1:=⟨r.length-1,by omega⟩
 rw[hn,Jnq h];exact eat_fuel _ _ _ _ Xt (Nat.le_refl _)
noncomputable def YPq(a:S8×List Nat)(p:List Nat):S8×List Nat:=eats a.1 (a.2++p)
noncomputable def s0:S8:=⟨1779033703,3144134277,1013904242,2773480762,1359893119,2600822924,528734635,1541459225⟩
noncomputable def padZ:Nat->List Nat->List Nat
 |0,r=>r
 |n+1,r=>match Nat.beq (r.length%64) 56 with
  |true=>r
  |false=>padZ n (r++[0])
noncomputable def len8(many:Nat):List Nat:=[56,48,40,32,24,16,8,0].map fun i=>Nat.shiftRight (8*many%18446744073709551616) i%256
noncomputable def kpq:Nat->S8->List Nat->S8
 |0,s,_=>s
 |n+1,s,r=>match Nat.ble 1 r.length with
  |true=>kpq n (x8q (atL r) s) (r.drop 64)
  |false=>s
theorem j0q:∀(n:Nat) (s:S8),kpq n s []=s
 |0,_=>rfl
 |n+1,s=>rfl
theorem uuq{n:Nat}{s:S8}{r:List Nat}(h:1<=r.length):kpq (n+1) s r=kpq n (x8q (atL r) s) (r.drop 64):=by
 simp only[kpq,Nat.ble_eq_true_of_le h]
theorem Yrq:∀(n m:Nat) (s:S8) (r:List Nat),r.length<=n->r.length<=m->kpq n s r=kpq m s r
 |0,m,s,r,h,_=>by
  obtain rfl:r=[]:=List.length_eq_zero_iff.1 Xd;rw[j0q,j0q]
 |n+1,0,s,r,_,h=>by
  obtain rfl:r=[]:=List.length_eq_zero_iff.1 Xd;rw[j0q,j0q]
 |n+1,m+1,s,r,h1,h2=>by
  by_cases h:1<=r.length
  ·rw[uuq h,uuq h];exact Yrq n m _ _ Xt Xt
  ·obtain rfl:r=[]:=List.length_eq_zero_iff.1 Xd;rw[j0q,j0q]
theorem eatAll_step{s:S8}{r:List Nat}(h:1<=r.length):kpq r.length s r=kpq (r.drop 64).length (x8q (atL r) s) (r.drop 64):=by
 obtain⟨n,hn⟩:∃n,r.length=n+1:=⟨r.length-1,by omega⟩
 rw[hn,uuq h];exact Yrq _ _ _ _ Xt (Nat.le_refl _)
noncomputable def S8.get(s:S8):Nat->Nat
 |0=>s.a
 |1=>s.b
 |2=>s.c
 |3=>s.d
 |4=>s.e
 |5=>s.f
 |6=>s.g
 |_=>s.h
noncomputable def digN(s:S8):List Nat:=(List.range 32).map fun i=>Nat.shiftRight (s.get (i/4)) (24-8*(i%4))%256
noncomputable def qmq(ps:List (List Nat)):Nat:=(ps.map List.length).foldr (· + ·) 0
noncomputable def shaN(ps:List (List Nat)):List Nat:=
 let a:=ps.foldl YPq (s0,[])
 let r:=padZ 64 (a.2++[128])++len8 (qmq ps)
 digN (kpq r.length a.1 r)
inductive Rst where
 |nil
 |sl (all:List Nat) (base off:Nat)
noncomputable def Rst.w:Rst->W
 |.nil=>.nils
 |.sl all base off=>.sl 2 base off (all.length-off) 1 none
noncomputable def Rst.hp:Rst->HpW
 |.nil=>[]
 |.sl all _ _=>[(2,5,.arr all.length 1 (bN all))]
noncomputable def Rst.r:Rst->List Nat
 |.nil=>[]
 |.sl all _ off=>all.drop off
noncomputable def Rst.ok:Rst->Prop
 |.nil=>True
 |.sl all _ off=>off<=all.length/\all.length<4294967296
noncomputable def Rst.nw:Rst->Nat
 |.nil=>2
 |.sl _ _ _=>3
noncomputable def hpS(x:Rst)(d:W)(s:S8):HpW:=x.hp++[(1,346,.arr 8 1 s.l),(0,26,d)]
noncomputable def qjq:W:=.arr 32 1 (List.replicate 32 (.int .u8 0))
noncomputable def Y0q(p:List Nat×Bool):W:=.fz (bN p.1) 1 p.2
theorem app_r(r:Rst)(hr:r.ok)(d:W)(s:S8)(p:List Nat)(f:Bool)(hp:p.length<2147483648)(h64:r.r.length<64):∃w hp' nw ev,appW cfg (hpS r d s) r.nw 53 53 r.w (.fz (bN p) 1 f)=some (w,hp',nw,ev)/\
  ∃r':Rst,r'.ok/\r'.r=r.r++p/\((w=r'.w/\hp'=hpS r' d s/\nw=r'.nw)\/∃all,r'= .sl all 0 0/\w= .sl 3 0 0 all.length 1 none/\hp'=[(3,5,.arr all.length 1 (bN all)),(1,346,.arr 8 1 s.l),(0,26,d)]/\nw=4):=by
 cases r with
 |nil=>cases p with
  |nil=>exact⟨_,_,_,_,rfl,.nil,trivial,rfl,.inl ⟨rfl,rfl,rfl⟩⟩
  |cons a l=>
   have hl:(bN (a::l)).length=l.length+1:=by rw[kfq];rfl
   have hlt:l.length+1<2147483648:=hp;have hbl:(bN (a::l)).length*1<=140737488355328:=by omega
   refine⟨_,_,_,_,vSq (k:=ti5) O O O O O (by simp[bN]) hbl Xd,.sl (a::l) 0 0,⟨Nat.zero_le _,by show l.length+1<_;omega⟩,rfl,.inl ⟨?_,?_,rfl⟩⟩
   ·rw[kfq];rfl
   ·rw[kfq,show(ti5).size=1 from rfl,Nat.mul_one];rfl
 |sl all base off=>
  obtain⟨h1,h2⟩:=hr;cases p with
  |nil=>exact⟨_,_,_,_,rfl,.sl all base off,⟨h1,h2⟩,by simp,.inl ⟨rfl,rfl,rfl⟩⟩
  |cons a l=>
   have hl:(bN (a::l)).length=l.length+1:=by rw[kfq];rfl
   have hlt:l.length+1<2147483648:=hp;have hbl:(all.length-off+(bN (a::l)).length)*1<=140737488355328:=by omega
   have hdt:((bN all).drop off).take (all.length-off)=bN (all.drop off):=by
    rw[List.take_of_length_le (by simp[kfq])];simp[bN,List.map_drop]
   refine⟨_,_,_,_,qNq (k:=ti5) (v:=.arr all.length 1 (bN all)) (off:=off) O O O O O (by simp[bN]) hbl Xd O ?_ rfl (uFq Xd),.sl (all.drop off++a::l) 0 0,⟨Nat.zero_le _,?_⟩,rfl,.inr ⟨_,rfl,?_,?_,rfl⟩⟩
   ·show all.length<off+(all.length-off+(bN (a::l)).length)*1;omega
   ·simp only[Rst.r,List.length_drop] at h64;simp only[List.length_append,List.length_drop,List.length_cons];omega
   ·simp only[hl,List.length_append,List.length_drop,List.length_cons];rfl
   ·rw[hdt,hl];simp only[List.length_append,List.length_drop,List.length_cons,show(ti5).size=1 from rfl,Nat.mul_one];rw[show bN (all.drop off)++bN (a::l)=bN (all.drop off++a::l) by simp[bN]];rfl
theorem padZ_spec:∀(n j:Nat) (r:List Nat),(∀i,i<j->(r.length+i)%64≠56) ->(r.length+j)%64=56->j<=n->padZ n r=r++List.replicate j 0
 |0,j,r,_,_,h=>by
  obtain rfl:j=0:=by omega
  simp[padZ]
 |n+1,0,r,_,h,_=>by
  have:Nat.beq (r.length%64) 56=true:=by rw[Nat.beq_eq];simpa using h
  simp only[padZ,this];simp
 |n+1,j+1,r,h1,h2,h3=>by
  have:Nat.beq (r.length%64) 56=false:=by
   cases hq:Nat.beq (r.length%64) 56 with
   |true=>rw[Nat.beq_eq] at hq;exact absurd (by simpa using hq) (h1 0 Xd)
   |false=>rfl
  simp only[padZ,this];rw[padZ_spec n j (r++[0]) (fun i hi=>by simp only[List.length_append,List.length_singleton];have:=h1 (i+1) Xd;rwa[show r.length+1+i=r.length+(i+1) by omega]) (by simp only[List.length_append,List.length_singleton];rwa[show r.length+1+j=r.length+(j+1) by omega]) Xd];rw[List.append_assoc];rfl
theorem S8_at(s:S8){k:Nat}(h:k<8):s.l[0+k*1]? =some (wd (s.get k)):=by
 have hq:k=0\/k=1\/k=2\/k=3\/k=4\/k=5\/k=6\/k=7:=by omega
 rcases hq with rfl|rfl|rfl|rfl|rfl|rfl|rfl|rfl<;>rfl
noncomputable def dI(s:S8)(i:Nat):List Nat:=(digN s).take i++List.replicate (32-i) 0
theorem Zuq(s:S8):(digN s).length=32:=by simp[digN]
theorem dI_len(s:S8){i:Nat}(h:i<=32):(dI s i).length=32:=by simp[dI,Zuq];omega
theorem dI_at(s:S8){i:Nat}(h:i<32):(bN (dI s i))[0+i*1]? =some (.int .u8 (.ofNat 0)):=by
 rw[Nat.zero_add,Nat.mul_one,bN_at (by rw[dI_len s Xd];exact h)]
 have:(dI s i).getD i 0=0:=by
  simp[dI,List.getD,List.getElem?_append,Zuq,show min i 32=i by omega,List.getElem?_replicate,show 0<32-i by omega]
 rw[this]
theorem dI_set(s:S8){i:Nat}(h:i<32):(bN (dI s i)).set (0+i*1) (.int .u8 (.ofNat (Nat.shiftRight (s.get (i/4)) (min (24-8*(i%4)) 32)%256)))=bN (dI s (i+1)):=by
 have e:(digN s).take (i+1)=(digN s).take i++[Nat.shiftRight (s.get (i/4)) (24-8*(i%4))%256]:=by
  rw[List.take_add_one];congr 1
  simp[digN,List.getElem?_map,List.getElem?_range h]
 have hm:min (24-8*(i%4)) 32=24-8*(i%4):=by omega
 have hl:((digN s).take i).length=i:=by simp[Zuq];omega
 rw[Nat.zero_add,Nat.mul_one,hm];unfold bN;rw[<-List.map_set (f:=fun c=>W.int .u8 (.ofNat c))];congr 1
 unfold dI;rw[e,show 32-i=(32-(i+1))+1 by omega,List.replicate_succ,List.set_append_right _ _ Xd,hl,Nat.sub_self,List.set_cons_zero,List.append_assoc];rfl
theorem mid1(L:List Nat)(c:Nat):some (W.sl 4 0 0 (L.length+(bN [c]).length) 1 none)=some (renW (tau1 2 4) (W.sl 2 0 0 (L++[c]).length 1 none)):=by
 rw[List.length_append];rfl
theorem mid2(L:List Nat)(c:Nat):some (5,W.arr ((L.length+(bN [c]).length)*1) 1 (((bN L).drop 0).take L.length++bN [c]))=some (5,renW (tau1 2 4) (W.arr (L++[c]).length 1 (bN (L++[c])))):=by
 rw[zjq (show purW (.arr (L++[c]).length 1 (bN (L++[c])))=true from v6q _),List.drop_zero,List.take_of_length_le (by rw[kfq];exact Nat.le_refl _),Nat.mul_one,List.length_append];simp[bN]
theorem parts_pur:∀ps:List (List Nat×Bool),purL (ps.map Y0q)=true
 |[]=>rfl
 |p::ps=>by simp only[List.map_cons,purL,Y0q,purW,v6q,Bool.true_and];exact parts_pur ps
set_option maxHeartbeats 1600000 in
theorem of_s(ps:List (List Nat×Bool))(fl:Bool)(hb:qmq (ps.map (·.1))<2147483648)(hpn:ps.length<2147483648)(R:Res):
  Spec cfg glK 222 0 [.fz (ps.map Y0q) 1 fl] [] R fun w hp nw R'=>R'=R/\w= .arr 32 1 (bN (shaN (ps.map (·.1)))):=by
 refine zXq (fn:=Tryz.f222) O O O (Ob rfl) (fun k0=>?_);refine zLq (znq (zwq O O (zYq ?_)));refine ybq (zLq (znq (zbq O O (zwq O O (zwq O O (zYq ?_))))));refine ybq (zLq (znq (zbq O O (zYq ?_))));refine ybq (zLq (znq (zbq O O (zYq ?_))));refine ybq (zLq (zLq (znq (zbq O O (zbq O O (zbq O O (zYq ?_)))))));refine ybq (yqq ?_);refine qyq (α:=Nat×S8×Rst) (fun a=>a.1<=ps.length/\a.2.2.ok/\(a.2.1,a.2.2.r)=((ps.map (·.1)).take a.1).foldl YPq (s0,[])/\a.2.2.r.length<64) (fun a=>[(13,.int .i64 (a.1:Int)),(12,.int .i64 (ps.length:Int)),(11,.fz (ps.map Y0q) 1 fl),(5,.int .u64 (qmq ((ps.map (·.1)).take a.1):Int)),(4,a.2.2.w),(3,.ptr 1 0),(2,.ptr 0 0)]) (fun a=>hpS a.2.2 qjq a.2.1) (fun a=>a.2.2.nw) (fun _=>R) (fun a=>ps.length-a.1) (0,s0,.nil) ⟨Nat.zero_le _,trivial,rfl,by decide⟩ ?_ (fun a ha=>?_)
 ·exact yfq ⟨rfl,by simp[getW,putW],rfl,rfl,rfl,rfl,rfl,trivial⟩ O O
 have hPp:purW (.fz (ps.map Y0q) 1 fl)=true:=parts_pur ps;obtain⟨i,s,r⟩:=a;obtain⟨hi,hok,hfold,hr64⟩:=ha;refine zLq (znq (zbq O O (zYq ?_)));refine ybq (zLq ?_);refine jzq rfl (fun hc1=>?_) (fun hc1=>?_)
 ·simp only at hi hok hfold hr64;have hi1:i<ps.length:=by have:=ltI_iff.1 hc1;simp only at this;omega
  obtain⟨p,hp⟩:∃p,ps[i]? =some p:=⟨_,List.getElem?_eq_getElem hi1⟩
  have hpw:(ps.map Y0q)[i]? =some (.fz (bN p.1) 1 p.2):=by rw[List.getElem?_map,hp];rfl
  have htk:(ps.map (·.1)).take (i+1)=(ps.map (·.1)).take i++[p.1]:=by
   rw[List.take_add_one,List.getElem?_map,hp];rfl
  have htot:∀l r:List (List Nat),qmq (l++r)=qmq l+qmq r:=fun l r=>by
   unfold qmq;induction l with
   |nil=>simp
   |cons x l ih=>simp only[List.cons_append,List.map_cons,List.foldr_cons,ih];omega
  have ht1:qmq ((ps.map (·.1)).take (i+1))=qmq ((ps.map (·.1)).take i)+p.1.length:=by rw[htk,htot];simp[qmq]
  have htle:qmq ((ps.map (·.1)).take (i+1))<=qmq (ps.map (·.1)):=by
   have:=htot ((ps.map (·.1)).take (i+1)) ((ps.map (·.1)).drop (i+1));rw[List.take_append_drop] at this;omega
  have hpl:p.1.length<2147483648:=by omega
  refine qxq (ybq (zLq (yqq (zLq (znq (zbq rfl (zBq (i:=i) O O O O O O O hpw) (zwq O O (zbq O O (zYq ?_)))))))));refine ybq (zLq (znq (zbq O O (zbq O O (zfq O O (show _=W.int .i64 (p.1.length:Int) by first|rfl|(simp[kfq];done)|(simp[kfq];rfl)) ?_)))));refine zuq (p.1.length) O O Xm ⟨by omega,by omega⟩ ?_;refine zuq (qmq ((ps.map (·.1)).take i)+p.1.length) O O Xm ⟨by omega,by omega⟩ ?_;refine zbq O O (zYq ?_);refine ybq ?_;refine co_cut (α:=Rst) (fun r'=>r'.ok/\r'.r=r.r++p.1) (fun r'=>[(13,.int .i64 (i:Int)),(12,.int .i64 (ps.length:Int)),(11,.fz (ps.map Y0q) 1 fl),(5,.int .u64 (qmq ((ps.map (·.1)).take (i+1)):Int)),(4,r'.w),(3,.ptr 1 0),(2,.ptr 0 0)]) (fun r'=>hpS r' qjq s) (fun r'=>r'.nw) ?_ (fun a ha=>?_)
  ·obtain⟨w,hp',nw',ev,e1,r',e2,e3,e4⟩:=app_r r hok qjq s p.1 p.2 hpl hr64;refine znq (zbq O O (zbq O O (zwq rfl (quq O O e1) (zbq O O (zYq ?_)))));refine⟨rfl,r',⟨e2,e3⟩,?_⟩;rcases e4 with ⟨rfl,rfl,rfl⟩|⟨all,rfl,rfl,rfl,rfl⟩
   ·exact yfq ⟨rfl,rfl,rfl,by rw[ht1];rfl,rfl,rfl,rfl,trivial⟩ O O
   ·refine yYq (b:=2) (k:=3) Xd Xd Xd ⟨⟨rfl,rfl⟩,⟨rfl,rfl⟩,⟨by rw[zjq hPp];rfl,zeq hPp⟩,⟨by rw[ht1];rfl,rfl⟩,⟨rfl,rfl⟩,⟨rfl,rfl⟩,⟨rfl,rfl⟩,trivial⟩ ⟨⟨by omega,by rw[zjq (show purW (.arr all.length 1 (bN all))=true from v6q _)];rfl,zeq (show purW (.arr all.length 1 (bN all))=true from v6q _)⟩,⟨by omega,rfl,rfl⟩,⟨by omega,rfl,rfl⟩,trivial⟩ Yv
  obtain⟨hak,har⟩:=ha;have hstep:(ps.map (·.1)).take (i+1)=(ps.map (·.1)).take i++[p.1]:=htk;have hnext:((ps.map (·.1)).take (i+1)).foldl YPq (s0,[])=YPq (s,r.r) p.1:=by rw[hstep,List.foldl_append,<-hfold];rfl
  refine yqq ?_;refine qyq (α:=S8×Rst) (fun b=>b.2.ok/\eats b.1 b.2.r=YPq (s,r.r) p.1) (fun b=>[(13,.int .i64 (i:Int)),(12,.int .i64 (ps.length:Int)),(11,.fz (ps.map Y0q) 1 fl),(5,.int .u64 (qmq ((ps.map (·.1)).take (i+1)):Int)),(4,b.2.w),(3,.ptr 1 0),(2,.ptr 0 0)]) (fun b=>hpS b.2 qjq b.1) (fun b=>b.2.nw) (fun _=>R) (fun b=>b.2.r.length) (s,a) ⟨hak,by simp only[YPq,har]⟩ (Ent.refl) (fun b hb=>?_);obtain⟨s',r'⟩:=b;obtain⟨hok',heat⟩:=hb;simp only at hok' heat
  have done:r'.r.length<64->(s',r'.r)=((ps.map (·.1)).take (i+1)).foldl YPq (s0,[]):=fun h=>by
   rw[hnext,<-heat,eats,vdq _ _ _ h]
  skip
  cases r' with
  |nil=>
   refine zLq (zLq (znq (zbq O O (zbq O O (zbq O O (zYq ?_))))));refine ybq (co_false rfl (jRq ?_));refine xkq Xj ?_;refine jaq Xj ?_;refine Zaq (jsq Yb ?_);refine ybq (znq (zuq (i+1) O O Xm ⟨by omega,by omega⟩ ?_));refine zbq O O (zYq ?_);refine yDq (i+1,s',.nil) ⟨hi1,trivial,done (by show 0<64;omega),(by show 0<64;omega)⟩ Yi (yfq ⟨rfl,rfl,rfl,rfl,rfl,rfl,rfl,trivial⟩ O O)
  |sl all base off=>
   obtain⟨ho1,ho2⟩:=hok';have hrl:(Rst.sl all base off).r.length=all.length-off:=by simp[Rst.r]
   refine zLq (zLq (znq (zbq O O (zfq O O (show _=W.int .i64 ((all.length-off:Nat):Int) by first|rfl|(simp[kfq];done)|(simp[kfq];rfl)) ?_))));refine zbq O O (zYq ?_);refine ybq ?_;refine jzq rfl (fun hc2=>?_) (fun hc2=>?_)
   ·have h64:64<=all.length-off:=by
     have:=hc2;simp only[Bool.not_eq_true'] at this;have:=ltI_not.1 this;omega
    have hpa:purW (.arr all.length 1 (bN all))=true:=v6q all
    have hby:∀k,k<64->ynq 50 (.arr all.length 1 (bN all)) (off+0*1+k*1) 1 false=some (.int .u8 (.ofNat (atL (all.drop off) k))):=fun k hk=>by
     have:=bN_at (l:=all) (i:=off+k) Xd;refine jCq ?_ rfl;rw[Nat.zero_mul,Nat.add_zero,Nat.mul_one,this];simp[atL,List.getD,List.getElem?_drop]
    have hr':(Rst.sl all off (off+64)).r=((Rst.sl all base off).r).drop 64:=by simp[Rst.r]
    refine qxq (ybq (zLq (yqq (znq (zbq O O (zbq rfl (cut_hi (h:=64) O O O O O O O h64) ?_))))))
    (refine zoq rfl (yJq (ext:=[1,2]) (ws:=[.ptr 0 0,.sl 1 base (off+0*1) (64-0) 1 none]) O O O O O (fun R=>block_s s' (atL (all.drop off)) (.arr all.length 1 (bN all)) base _ none 5 (zeq hpa) hby R) Xr Qf Xl (Yaq rfl (by rw[zjq hpa];rfl) rfl (zeq hpa)) O ?_);rintro w hp1 nw1 ⟨rfl,rfl,rfl⟩)
    refine zYq ?_;refine jsq Yb ?_;refine ybq (znq (zbq O O (zbq rfl (cut_lo (l:=64) O O O O O O O h64 rfl) (zbq O O (zYq ?_)))));refine yDq (x8q (atL (all.drop off)) s',.sl all off (off+64)) ⟨⟨by omega,ho2⟩,?_⟩ (by simp only[hr'];simp only[hrl,List.length_drop];omega) (y2q Xd (Nat.le_refl _) ⟨rfl,rfl,rfl,rfl,?_,rfl,rfl,trivial⟩ (by simp only[List.all_cons,List.all_nil,zeq hPp,Bool.and_true];rfl) (qaq ⟨⟨by show 2<3;omega,by show some (5,renW _ (W.arr all.length 1 (bN all)))=_;rw[zjq hpa],zeq hpa⟩,⟨by show 1<3;omega,rfl,rfl⟩,⟨by show 0<3;omega,rfl,rfl⟩,trivial⟩) Yv)
    ·rw[hr',<-heat];exact(eats_more (r:=(Rst.sl all base off).r) (by rw[hrl];exact h64)).symm
    ·show some (W.sl 2 off (off+64*1) (all.length-off-64) 1 (qXq 64 none))=some (W.sl 2 off (off+64) (all.length-(off+64)) 1 none);rw[Nat.sub_sub];rfl
   ·have h64:all.length-off<64:=by
     have:=hc2;simp only[Bool.not_eq_false'] at this;have:=ltI_iff.1 this;omega
    refine jRq ?_;refine xkq Xj ?_;refine jaq Xj ?_;refine Zaq (jsq Yb ?_);refine ybq (znq (zuq (i+1) O O Xm ⟨by omega,by omega⟩ ?_));refine zbq O O (zYq ?_);refine yDq (i+1,s',.sl all base off) ⟨hi1,⟨ho1,ho2⟩,done (by rw[hrl];exact h64),by simp only[hrl];exact h64⟩ Yi (yfq ⟨rfl,rfl,rfl,rfl,rfl,rfl,rfl,trivial⟩ O O)
 ·simp only at hi hok hfold hr64;obtain rfl:i=ps.length:=by have:=ltI_not.1 hc1;simp only at this;omega
  rw[show(ps.map (·.1)).take ps.length=ps.map (·.1) by rw[List.take_of_length_le Xl]] at hfold;have hT:(ps.map (·.1)).take ps.length=ps.map (·.1):=by rw[List.take_of_length_le Xl]
  have hdt:∀(all:List Nat) (off:Nat),((bN all).drop off).take (all.length-off)=bN (all.drop off):=fun all off=>by
   rw[List.take_of_length_le (by simp[kfq])];simp[bN,List.map_drop]
  have bapp:∀a b:List Nat,bN a++bN b=bN (a++b):=fun a b=>by simp[bN]
  have apur:∀all:List Nat,purW (.arr all.length 1 (bN all))=true:=fun all=>v6q all
  refine jRq ?_;refine xkq Xj ?_;refine jaq Xj ?_;refine Zaq (ybq ?_);refine co_cut (α:=Unit) (fun _=>True) (fun _=>[(5,.int .u64 (qmq (ps.map (·.1)):Int)),(4,.sl 2 0 0 (r.r++[128]).length 1 none),(3,.ptr 1 0),(2,.ptr 0 0)]) (fun _=>hpS (.sl (r.r++[128]) 0 0) qjq s) (fun _=>3) ?_ (fun a ha=>?_)
  ·skip
   cases r with
   |nil=>
    refine znq (zbq O O (zwq O O (zwq rfl (quq O O (vSq (news:=bN [128]) (k:=ti5) O O O O O (by simp[bN]) Xr Xr)) ?_)));refine zbq O O (zYq ?_);refine⟨rfl,(),trivial,?_⟩;exact yYq (b:=2) (k:=3) Xd Xd Qg ⟨⟨by show some (W.int .u64 ((qmq ((ps.map (·.1)).take ps.length):Nat):Int))=_;rw[hT];rfl,rfl⟩,⟨rfl,rfl⟩,⟨rfl,rfl⟩,⟨rfl,rfl⟩,trivial⟩ ⟨⟨by omega,rfl,rfl⟩,⟨by omega,rfl,rfl⟩,⟨by omega,rfl,rfl⟩,trivial⟩ Yv
   |sl all base off=>
    obtain⟨ho1,ho2⟩:=hok;simp only[Rst.r,List.length_drop] at hr64;have hle:((Rst.sl all base off).r++[128]).length=all.length-off+1:=by simp[Rst.r]
    refine znq (zbq O O (zwq O O (zwq rfl (quq O O (qNq (news:=bN [128]) (k:=ti5) (v:=.arr all.length 1 (bN all)) (off:=off) O O O O O (by simp[bN]) (show(all.length-off+1)*1<=140737488355328 by omega) (show all.length-off+1<=70368744177664 by omega) rfl (show all.length<off+(all.length-off+1)*1 by omega) rfl (uFq Xd))) ?_)));refine zbq O O (zYq ?_);refine⟨rfl,(),trivial,?_⟩;refine yYq (b:=2) (k:=4) Xd Xd Ym ⟨⟨by show some (W.int .u64 ((qmq ((ps.map (·.1)).take ps.length):Nat):Int))=_;rw[hT];rfl,rfl⟩,⟨?_,rfl⟩,⟨rfl,rfl⟩,⟨rfl,rfl⟩,trivial⟩ ⟨⟨by omega,?_,zeq (apur _)⟩,⟨by omega,rfl,rfl⟩,⟨by omega,rfl,rfl⟩,trivial⟩ Yv
    ·rw[hle];rfl
    ·rw[zjq (apur _),hle,<-bapp];show some (5,W.arr ((all.length-off+1)*1) 1 (((bN all).drop off).take (all.length-off)++bN [128]))=_;rw[hdt,Nat.mul_one];rfl
  --noughts
  have htm:∀n:Nat,((n:Int)).tmod 64=((n%64:Nat):Int):=fun n=>by rw[Int.tmod_eq_emod_of_nonneg Xd];omega
  have hA0:(r.r++[128]).length<=64:=by simp;omega
  generalize hA:r.r++[128]=A at*
  refine zLq (yqq ?_);refine qyq (α:=Nat) (fun j=>∀i,i<j->(A.length+i)%64≠56) (fun j=>[(5,.int .u64 (qmq (ps.map (·.1)):Int)),(4,.sl 2 0 0 (A++List.replicate j 0).length 1 none),(3,.ptr 1 0),(2,.ptr 0 0)]) (fun j=>hpS (.sl (A++List.replicate j 0) 0 0) qjq s) (fun _=>3) (fun _=>R) (fun j=>64-j) 0 (fun i hi=>absurd hi Xd) (by rw[List.replicate_zero,List.append_nil];exact Ent.refl) (fun j hj=>?_)
  have hj64:j<64:=by
   refine Nat.lt_of_not_le fun h=>?_
   have:=hj ((56+64-A.length%64)%64) Xd;omega
  have hlj:(A++List.replicate j 0).length=A.length+j:=by simp
  refine zLq (zLq (znq (zbq O O (zfq O O (show _=W.int .i64 ((A++List.replicate j 0).length:Int) by first|rfl|(simp[kfq];done)|(simp[kfq];rfl)) ?_))));refine zfq O O (congrArg (W.int .i64) (htm _)) (zbq O O (zYq ?_));refine ybq ?_;refine jzq rfl (fun hc3=>?_) (fun hc3=>?_)
  ·have hne:(A.length+j)%64≠56:=by
    have:=hc3;simp only[Bool.not_eq_true'] at this;have:=eqI_not.1 this;rw[hlj] at this;omega
   refine qxq (ybq (yqq (znq (zbq O O (zwq O O (zwq rfl (quq O O (qNq (news:=bN [0]) (k:=ti5) (v:=.arr (A++List.replicate j 0).length 1 (bN (A++List.replicate j 0))) (off:=0) O O O O O (by simp[bN]) (show((A++List.replicate j 0).length+1)*1<=140737488355328 by omega) (show(A++List.replicate j 0).length+1<=70368744177664 by omega) rfl (show(A++List.replicate j 0).length<0+((A++List.replicate j 0).length+1)*1 by omega) rfl (uFq Xd))) ?_))))));refine zbq O O (zYq ?_);refine jsq Yb ?_;have hrep:A++List.replicate (j+1) 0=(A++List.replicate j 0)++[0]:=by rw[List.append_assoc,<-List.replicate_succ']
   refine yDq (j+1) (fun i hi=>?_) Xd (yYq (b:=2) (k:=4) Xd Xd Ym ⟨⟨rfl,rfl⟩,⟨?_,rfl⟩,⟨rfl,rfl⟩,⟨rfl,rfl⟩,trivial⟩ ⟨⟨by omega,?_,zeq (apur _)⟩,⟨by omega,rfl,rfl⟩,⟨by omega,rfl,rfl⟩,trivial⟩ Yv)
   ·rcases Nat.lt_succ_iff_lt_or_eq.1 hi with h|rfl
    ·exact hj i h
    ·exact hne
   ·rw[hrep];exact mid1 _ 0
   ·rw[hrep];exact mid2 _ 0
  ·have he:(A.length+j)%64=56:=by
    have:=hc3;simp only[Bool.not_eq_false'] at this;have:=eqI_iff.1 this;rw[hlj] at this;omega
   have hpz:padZ 64 A=A++List.replicate j 0:=padZ_spec 64 j A hj he Xd;rw[<-hpz];have hBl:(padZ 64 A).length<200:=by rw[hpz,hlj];omega
   have hB64:(padZ 64 A).length%64=56:=by rw[hpz,hlj];exact he
   generalize hB:padZ 64 A=B at hBl hB64;refine jRq ?_;refine xkq Xj ?_;refine jaq Xj ?_;refine Zaq (ybq (zLq (zLq (znq (zbq O O (zYq ?_))))));refine ybq (yqq ?_);have h8:∀k,k<=8->((len8 (qmq (ps.map (·.1)))).take k).length=k:=fun k hk=>by simp[len8];omega
   refine qyq (α:=Nat) (fun k=>k<=8) (fun k=>[(8,.int .i64 (56-8*(k:Int))),(5,.int .u64 (qmq (ps.map (·.1)):Int)),(4,.sl 2 0 0 (B++(len8 (qmq (ps.map (·.1)))).take k).length 1 none),(3,.ptr 1 0),(2,.ptr 0 0)]) (fun k=>hpS (.sl (B++(len8 (qmq (ps.map (·.1)))).take k) 0 0) qjq s) (fun _=>3) (fun _=>R) (fun k=>8-k) 0 (Nat.zero_le _) (by rw[List.take_zero,List.append_nil];exact yfq ⟨rfl,rfl,rfl,rfl,rfl,trivial⟩ O O) (fun k hk=>?_);refine zLq (zLq (znq (zbq O O (zbq O O (zYq ?_)))));refine ybq ?_;refine jzq rfl (fun hc4=>?_) (fun hc4=>?_)
   ·have hk8:k<8:=by
     have:=hc4;simp only[Bool.not_eq_true'] at this;have:=ltI_not.1 this;omega
    have hLk:=h8 k hk;have hll:(B++(len8 (qmq (ps.map (·.1)))).take k).length=B.length+k:=by rw[List.length_append,hLk]
    have hnx:B++(len8 (qmq (ps.map (·.1)))).take (k+1)=(B++(len8 (qmq (ps.map (·.1)))).take k)++[Nat.shiftRight (8*qmq (ps.map (·.1))%18446744073709551616) (min (56-8*k) 64)%256]:=by
     rw[List.take_add_one,<-List.append_assoc];congr 1
     have hq:k=0\/k=1\/k=2\/k=3\/k=4\/k=5\/k=6\/k=7:=by omega
     rcases hq with rfl|rfl|rfl|rfl|rfl|rfl|rfl|rfl<;>rfl
    have hw8:kzq .i64 (56-8*(k:Int) -8)=56-8*(k:Int) -8:=uAq (k:=.i64) ⟨by omega,by omega⟩;refine qxq (ybq (zLq (yqq (znq (zbq O O (zbq O O (zbq O O (zfq O O (show W.int .i64 (56-8*(k:Int))=W.int .i64 ((56-8*k:Nat):Int) by congr 1;omega) ?_))))))));refine zbq O O (zbq O O (zwq O O (zwq rfl (quq O O (qNq (news:=bN [Nat.shiftRight (8*qmq (ps.map (·.1))%18446744073709551616) (min (56-8*k) 64)%256]) (k:=ti5) (v:=.arr (B++(len8 (qmq (ps.map (·.1)))).take k).length 1 (bN (B++(len8 (qmq (ps.map (·.1)))).take k))) (off:=0) O O O O O (by simp[bN]) (show((B++(len8 (qmq (ps.map (·.1)))).take k).length+1)*1<=140737488355328 by omega) (show(B++(len8 (qmq (ps.map (·.1)))).take k).length+1<=70368744177664 by omega) rfl (show(B++(len8 (qmq (ps.map (·.1)))).take k).length<0+((B++(len8 (qmq (ps.map (·.1)))).take k).length+1)*1 by omega) rfl (uFq Xd))) ?_)));refine zbq O O (zYq ?_);refine jsq Yb ?_;refine ybq (znq (zbq O O (zfq (w:=W.int .i64 (kzq .i64 (56-8*(k:Int) -8))) O O (show _=W.int .i64 (56-8*((k+1:Nat):Int)) by rw[hw8];congr 1;omega) ?_)));refine zbq O O (zYq ?_);refine yDq (k+1) Xd Xd (yYq (b:=2) (k:=4) Xd Xd Ym ⟨⟨rfl,rfl⟩,⟨rfl,rfl⟩,⟨?_,rfl⟩,⟨rfl,rfl⟩,⟨rfl,rfl⟩,trivial⟩ ⟨⟨by omega,?_,zeq (apur _)⟩,⟨by omega,rfl,rfl⟩,⟨by omega,rfl,rfl⟩,trivial⟩ Yv)
    ·rw[hnx];exact mid1 _ _
    ·rw[hnx];exact mid2 _ _
   ·obtain rfl:k=8:=by
     have:=hc4;simp only[Bool.not_eq_false'] at this;have:=ltI_iff.1 this;omega
    have ht8:(len8 (qmq (ps.map (·.1)))).take 8=len8 (qmq (ps.map (·.1))):=rfl;rw[ht8];have hMl:(B++len8 (qmq (ps.map (·.1)))).length=B.length+8:=by simp[len8]
    have hsha:shaN (ps.map (·.1))=digN (kpq (B++len8 (qmq (ps.map (·.1)))).length s (B++len8 (qmq (ps.map (·.1))))):=by
     simp only[shaN,<-hfold,hA,hB]
    generalize hM:B++len8 (qmq (ps.map (·.1)))=M at hMl hsha;refine jRq ?_;refine xkq Xj ?_;refine jaq Xj ?_;refine Zaq (ybq (zLq (yqq ?_)));refine qyq (α:=S8×Nat×Nat) (fun b=>b.2.2<=M.length/\(M.length-b.2.2)%64=0/\kpq M.length s M=kpq (M.drop b.2.2).length b.1 (M.drop b.2.2)) (fun b=>[(4,.sl 2 b.2.1 b.2.2 (M.length-b.2.2) 1 none),(3,.ptr 1 0),(2,.ptr 0 0)]) (fun b=>hpS (.sl M b.2.1 b.2.2) qjq b.1) (fun _=>3) (fun _=>R) (fun b=>M.length-b.2.2) (s,0,0) ⟨Nat.zero_le _,by show(M.length-0)%64=0;omega,rfl⟩ (yfq ⟨rfl,rfl,rfl,trivial⟩ O O) (fun b hb5=>?_);obtain⟨s',base,off⟩:=b;obtain⟨ho,hmod,heat⟩:=hb5;simp only at ho hmod heat;refine zLq (zLq (znq (zbq O O (zfq O O (show _=W.int .i64 ((M.length-off:Nat):Int) by first|rfl|(simp[kfq];done)|(simp[kfq];rfl)) ?_))));refine zbq O O (zYq ?_);refine ybq ?_;refine jzq rfl (fun hc5=>?_) (fun hc5=>?_)
    ·have h1:1<=M.length-off:=by have:=ltI_iff.1 hc5;omega
     have h64:64<=M.length-off:=by omega
     have hpa:purW (.arr M.length 1 (bN M))=true:=v6q M
     have hby:∀k,k<64->ynq 50 (.arr M.length 1 (bN M)) (off+0*1+k*1) 1 false=some (.int .u8 (.ofNat (atL (M.drop off) k))):=fun k hk=>by
      have:=bN_at (l:=M) (i:=off+k) Xd;refine jCq ?_ rfl;rw[Nat.zero_mul,Nat.add_zero,Nat.mul_one,this];simp[atL,List.getD,List.getElem?_drop]
     refine qxq (ybq (zLq (yqq (znq (zbq O O (zbq rfl (cut_hi (h:=64) O O O O O O O h64) ?_))))))
     (refine zoq rfl (yJq (ext:=[1,2]) (ws:=[.ptr 0 0,.sl 1 base (off+0*1) (64-0) 1 none]) O O O O O (fun R=>block_s s' (atL (M.drop off)) (.arr M.length 1 (bN M)) base _ none 5 (zeq hpa) hby R) Xr Qf Xl (Yaq rfl (by rw[zjq hpa];rfl) rfl (zeq hpa)) O ?_);rintro w hp1 nw1 ⟨rfl,rfl,rfl⟩)
     refine zYq ?_;refine jsq Yb ?_;refine ybq (znq (zbq O O (zbq rfl (cut_lo (l:=64) O O O O O O O h64 rfl) (zbq O O (zYq ?_)))));refine yDq (x8q (atL (M.drop off)) s',off,off+64) ⟨by simp only;omega,by simp only;omega,?_⟩ Yi (y2q Xd (Nat.le_refl _) ⟨?_,rfl,rfl,trivial⟩ rfl (qaq ⟨⟨by omega,by show some (5,renW _ (W.arr M.length 1 (bN M)))=_;rw[zjq hpa],zeq hpa⟩,⟨by omega,rfl,rfl⟩,⟨by omega,rfl,rfl⟩,trivial⟩) Yv)
     ·rw[heat,eatAll_step Xt,List.drop_drop]
     ·show some (W.sl 2 off (off+64*1) (M.length-off-64) 1 (qXq 64 none))=some (W.sl 2 off (off+64) (M.length-(off+64)) 1 none);rw[Nat.sub_sub];rfl
    ·have h0:M.length-off=0:=by have:=ltI_not.1 hc5;omega
     have hend:kpq M.length s M=s':=by
      rw[heat,List.drop_of_length_le Xd];rfl
     rw[hend] at hsha;refine jRq ?_;refine xkq Xj ?_;refine jaq Xj ?_;refine Zaq (ybq (zLq (zLq (znq (zbq O O (zYq ?_))))));refine ybq (yqq ?_);have htd4:∀n:Nat,((n:Int)).tdiv 4=((n/4:Nat):Int):=fun n=>by rw[Int.tdiv_eq_ediv_of_nonneg Xd];omega
     have htm4:∀n:Nat,((n:Int)).tmod 4=((n%4:Nat):Int):=fun n=>by rw[Int.tmod_eq_emod_of_nonneg Xd];omega
     refine qyq (α:=Nat) (fun i=>i<=32) (fun i=>[(64,.int .i64 (i:Int)),(3,.ptr 1 0),(2,.ptr 0 0)]) (fun i=>hpS (.sl M base off) (.arr 32 1 (bN (dI s' i))) s') (fun _=>3) (fun _=>R) (fun i=>32-i) 0 (Nat.zero_le _) (yfq ⟨rfl,rfl,rfl,trivial⟩ O O) (fun i hi=>?_);refine zLq (znq (zbq O O (zYq ?_)));refine ybq (zLq ?_);refine jzq rfl (fun hc6=>?_) (fun hc6=>?_)
     ·have hi32:i<32:=by have:=ltI_iff.1 hc6;omega
      refine qxq (ybq (zLq (yqq (zLq (znq (zbq O O (zbq O O (zYq ?_))))))));refine ybq (znq (zbq O O (zbq O O (zuq (i/4) O O (htd4 i) ⟨by omega,by omega⟩ ?_))));refine zbq rfl (zzq (i:=i/4) O O O O O O Xd) ?_;refine zwq rfl (yNq O O O (jCq (S8_at s' Xd) rfl)) ?_;refine zbq O O (zfq O O (congrArg (W.int .i64) (htm4 i)) (zuq (8*(i%4)) O O Xm ⟨by omega,by omega⟩ ?_));refine zuq (24-8*(i%4)) O O Xm ⟨by omega,by omega⟩ ?_;refine zbq O O (zbq O O (zbq rfl (zzq (i:=i) O O O O O O Xd) ?_));refine zwq rfl (uIq O O O O O (xTq (dI_at s' hi32) O O) rfl) (zYq ?_);refine jsq Yb ?_;refine ybq (znq ?_);first|refine ypq O O ⟨by omega,by omega⟩ ?_|refine zbq O O ?_
      refine zbq O O (zYq ?_);refine yDq (i+1) Xd Xd (yfq ⟨rfl,rfl,rfl,trivial⟩ ?_ rfl);exact congrArg (fun L=>hpS (.sl M base off) (.arr 32 1 L) s') (dI_set s' hi32)
     ·obtain rfl:i=32:=by have:=ltI_not.1 hc6;omega
      refine jRq ?_;refine xkq Xj ?_;refine jaq Xj ?_;refine Zaq (ybq (zLq (znq (zwq O O (zwq O O (zYq ?_))))));refine ybq (co_ret ?_);refine fin (.inr rfl) Ent.refl rfl ⟨rfl,?_⟩;rw[hsha];have:dI s' 32=digN s':=by simp[dI,List.take_of_length_le,Zuq]
      rw[<-this]
end
section
attribute [local irreducible] CoW OpW FlW Step Spec
theorem bytes_bN(l:List UInt8):zdq l=bN (l.map UInt8.toNat):=by simp[zdq,bN]
theorem shaN_l(ps:List (List Nat)):(shaN ps).length=32:=by simp[shaN,digN]
theorem shaN_lt(ps:List (List Nat)):∀n∈shaN ps,n<256:=fun n h=>by
 simp only[shaN,digN,List.mem_map] at h;obtain⟨i,_,rfl⟩:=h;exact Nat.mod_lt _ Xr
noncomputable def shaD(ps:List (List UInt8)):Dig:=⟨(shaN (ps.map fun p=>p.map UInt8.toNat)).map UInt8.ofNat,by simp[shaN_l]⟩
theorem bytes_of{l:List Nat}(h:∀n∈l,n<256):zdq (l.map UInt8.ofNat)=bN l:=by
 rw[bytes_bN,List.map_map];congr 1
 conv=>rhs;rw[<-List.map_id l]
 refine List.map_congr_left fun n hn=>?_
 have:=h n hn;simp;omega
theorem sha_s(ps:List (List UInt8×Bool))(f:Bool)(hb:((ps.map (·.1)).map List.length).foldr (· + ·) 0<2147483648)(hn:ps.length<2147483648):PS cfg glK 222 [.fz (ps.map fun p=>.fz (zdq p.1) 1 p.2) 1 f] (dW (shaD (ps.map (·.1)))):=fun R=>by
 have e1:(ps.map fun p=>(p.1.map UInt8.toNat,p.2)).map Y0q=ps.map fun p=>.fz (zdq p.1) 1 p.2:=by simp[Y0q,bytes_bN]
 have e2:(ps.map fun p=>(p.1.map UInt8.toNat,p.2)).map (·.1)=(ps.map (·.1)).map fun p=>p.map UInt8.toNat:=by simp
 have h:=of_s (ps.map fun p=>(p.1.map UInt8.toNat,p.2)) f (by rw[e2];show(List.map List.length _).foldr _ 0<_;rw[List.map_map];simpa[Function.comp_def] using hb) (by simpa using hn) R;rw[e1,e2] at h
 have e3:dW (shaD (ps.map (·.1)))= .arr 32 1 (bN (shaN ((ps.map (·.1)).map fun p=>p.map UInt8.toNat))):=by
  show W.arr 32 1 (zdq _)=_;rw[<-bytes_of (shaN_lt _)];rfl
 show Spec cfg glK _ 0 _ [] R fun w hp nw R'=>R'=R/\w=dW (shaD (ps.map (·.1)))
 rw[e3];exact h
def ZYq(p:List UInt8):List UInt8:=beB 4 (p.length%4294967296)++p
def tagB(kind:UInt8)(ps:List (List UInt8)):List UInt8:=kind::ps.flatMap ZYq
variable {G:Nat->Option W}
@[simp] theorem bWs_pur(ps:List (List UInt8)):purL (ps.map bW)=true:=y7q (fun x=>by simp) ps
theorem flat_le{m:Nat}:∀{ps:List (List UInt8)} (i:Nat),(∀p∈ps,p.length<m) ->((ps.take i).flatMap ZYq).length<=i*(m+4)
 |[],i,_=>by simp
 |p::ps,0,_=>by simp
 |p::ps,i+1,h=>by
  have h1:=flat_le (ps:=ps) i fun q hq=>h q (List.mem_cons_of_mem _ hq)
  have h2:=h p (List.mem_cons_self ..);simp only[List.take_succ_cons,List.flatMap_cons,List.length_append,ZYq,qMq,Nat.succ_mul];omega
theorem tbytes_s(kind:UInt8)(ps:List (List UInt8))(f:Bool)(hn:ps.length<1000000)(hb:∀p∈ps,p.length<1000000):PS cfg G 223 [.int .u8 (.ofNat kind.toNat),.fz (ps.map bW) 1 f] (bW (tagB kind ps)):=by
 have e:(ps.map bW).length=ps.length:=List.length_map _;refine uSq (fn:=Tryz.f223) O O O (Ob rfl) (fun R k0=>?_);refine ziq 16 O ?_;refine zfq (w':=.int .i64 (ps.length:Int)) O O Xv ?_;refine zaq 4 O ?_;refine co_loopG1 (α:=Nat) (fun i=>i<=ps.length) 5 (fun i=>zdq (kind::(ps.take i).flatMap ZYq)) 5 1 (fun i=>[(14,.int .i64 (i:Int))]) [(4,_),(12,_),(13,_)] ([]) 0 0 (fun i=>ps.length-i) (0) ⟨rfl,rfl,rfl,trivial⟩ (Nat.zero_le _) ⟨rfl,trivial⟩ Xd Xd Yz (by simp[zdq]) rfl (by simp[zdq]) Xh Xh rfl Xo Xq Yk (fun i hI=>?_);refine ziq 6 O ?_;refine zEq rfl (fun h1=>?_) (fun h1=>?_)
 ·have hi:i<ps.length:=by omega
  obtain⟨x,hx⟩:∃x,ps[i]? =some x:=⟨_,List.getElem?_eq_getElem hi⟩
  have hxl:=hb x (List.mem_of_getElem? hx);have hfl:((ps.take i).flatMap ZYq).length<=i*1000004:=flat_le i hb;have hL:(zdq (kind::(ps.take i).flatMap ZYq)).length<=1+i*1000004:=by rw[zrq,List.length_cons];omega
  have hN:(zdq (beB 4 x.length)).length=4:=by rw[zrq,qMq]
  have hnx:zdq (kind::(ps.take (i+1)).flatMap ZYq)=(zdq (kind::(ps.take i).flatMap ZYq)++zdq (beB 4 x.length))++zdq x:=by
   rw[List.take_add_one,hx,<-jAq,<-jAq];congr 1
   simp[ZYq,Nat.mod_eq_of_lt (show x.length<4294967296 by omega)]
  skip
  cases x with
  |nil=>
   refine zgq 6 O ?_;refine zbq rfl (zBq (i:=i) O O O O O O O (z9q bW hx)) ?_;refine zaq 7 O ?_;refine zfq (w':=.int .i64 (([]:List UInt8).length:Int)) O O (by show W.int .i64 ((zdq (([]:List UInt8))).length:Int)=_;rw[zrq]) ?_;first|refine ypq O O ⟨by omega,by omega⟩ ?_|refine zbq O O ?_
   first|refine ypq O O ⟨by omega,by omega⟩ ?_|refine zbq O O ?_
   (refine zoq rfl (qRq O O O O O O (YXq ([]:List UInt8).length 4 Xd Xd (by show([]:List UInt8).length<4294967296;omega)) ?_);rintro w hp1 nw1 ⟨rfl,rfl,rfl⟩)
   refine zaq 10 O ?_;refine zwq rfl (quq O O (Qyq [_] (k:=ti5) (news:=zdq (beB 4 ([]:List UInt8).length)) O O O O O (jrq O O O (zCq Xr hN.symm rfl)) Yt (by rw[hN];show(_+4)*1<=_;omega) (by rw[hN];omega) rfl (by simp[numC]))) ?_;refine zbq O O (zwq rfl (quq O O (vRq (k:=ti5) O O O O O)) ?_);refine zaq 5 O ?_;first|refine ypq O O ⟨by omega,by omega⟩ ?_|refine zbq O O ?_
   refine y5q 2 O ?_;exact uOq 2 (i+1) (hi) Xd (Nat.zero_le _) (by rw[hnx];exact List.append_nil _) Yn Xd Yz rfl Yp ⟨rfl,trivial⟩ ⟨rfl,rfl,rfl,trivial⟩ Xh Xh rfl Xo Xq Yk
  |cons c x=>
   refine zgq 6 O ?_;refine zbq rfl (zBq (i:=i) O O O O O O O (z9q bW hx)) ?_;refine zaq 7 O ?_;refine zfq (w':=.int .i64 ((c::x).length:Int)) O O (by show W.int .i64 ((zdq ((c::x))).length:Int)=_;rw[zrq]) ?_;first|refine ypq O O ⟨by omega,by omega⟩ ?_|refine zbq O O ?_
   first|refine ypq O O ⟨by omega,by omega⟩ ?_|refine zbq O O ?_
   (refine zoq rfl (qRq O O O O O O (YXq (c::x).length 4 Xd Xd (by show(c::x).length<4294967296;omega)) ?_);rintro w hp1 nw1 ⟨rfl,rfl,rfl⟩)
   refine zaq 10 O ?_;refine zwq rfl (quq O O (Qyq [_] (k:=ti5) (news:=zdq (beB 4 (c::x).length)) O O O O O (jrq O O O (zCq Xr hN.symm rfl)) Yt (by rw[hN];show(_+4)*1<=_;omega) (by rw[hN];omega) rfl (by simp[numC]))) ?_;refine zbq O O (zwq rfl (quq O O (qNq (k:=ti5) (len:=(zdq (kind::(ps.take i).flatMap ZYq)++zdq (beB 4 (c::x).length)).length) (news:=zdq (c::x)) (olds:=zdq (kind::(ps.take i).flatMap ZYq)++zdq (beB 4 (c::x).length)) O O O O O (by simp[zdq]) (by rw[List.length_append,hN,zrq (c::x)];show(_+_)*1<=_;omega) (by rw[List.length_append,hN,zrq (c::x)];omega) rfl (by show(_++_:List W).length*1<0+((_++_:List W).length+(zdq (c::x)).length)*1;rw[zrq (c::x),List.length_cons];omega) rfl (zCq Xr O O))) ?_);refine zaq 5 O ?_;first|refine ypq O O ⟨by omega,by omega⟩ ?_|refine zbq O O ?_
   refine y5q 2 O ?_;exact uOq 3 (i+1) (hi) Xd (Nat.zero_le _) (hnx) Yn Xd Yz rfl Yp ⟨rfl,trivial⟩ ⟨rfl,rfl,rfl,trivial⟩ Xh Xh rfl Xo Xq Yk
 ·have hi:i=ps.length:=by omega
  subst hi;refine zgq 2 O ?_;refine jaq Xj ?_;refine zDq 9 O ?_;refine Y3q Ye O ?_;rw[List.take_length];exact view_g (H0:=[]) Xr Xl Xl
theorem tag_le{m:Nat}(kind:UInt8)(ps:List (List UInt8))(h:∀p∈ps,p.length<m):(tagB kind ps).length<=1+ps.length*(m+4):=by
 have:=flat_le (m:=m) ps.length h;rw[List.take_length] at this;simp only[tagB,List.length_cons];omega
noncomputable def tagD(kind:UInt8)(ps:List (List UInt8)):Dig:=shaD [tagB kind ps]
theorem jNq(kind:UInt8)(ps:List (List UInt8))(f:Bool)(hn:ps.length<1000)(hb:∀p∈ps,p.length<1000000):PS cfg glK 164 [.int .u8 (.ofNat kind.toNat),.fz (ps.map bW) 1 f] (dW (tagD kind ps)):=by
 have hl:=tag_le kind ps hb;refine zNq (fn:=Tryz.f164) O O O (Ob rfl) (fun R k0=>?_);refine ziq 9 O ?_;refine zkq O O O O O O (tbytes_s kind ps f Xd hb) ?_;refine zwq O O ?_;refine ZZq O O O O O (by(repeat (first|exact .nil|refine .cons ?_ ?_|(refine .sl O ?_ rfl Xj;first|rfl|(focus (simp;done)))|(refine qBq O ?_ rfl;first|rfl|(focus (simp;done)))|(refine .pur ?_;first|rfl|(focus (simp;done)))))) (sha_s [(tagB kind ps,false)] false Xt Xl) Xo Xo ?_;refine zaq 4 O ?_;exact zhq (.inr rfl) O O
noncomputable def keyD(k:Dig):Dig:=tagD 3 [k.1]
theorem key_s(k:Dig):PS cfg glK 266 [dW k] (dW (keyD k)):=by
 refine zNq (fn:=Tryz.f266) O O O (Ob rfl) (fun R k0=>?_);refine ziq 10 O ?_;refine ZZq O O O O O (.cons (.pur rfl) (.cons (.sl2 (full:=false) rfl (.arr (.cons (.sl (full:=false) (xs:=zdq k.1) rfl Xl (zCq Xr (by simp[zrq,k.2]) rfl) Xj) .nil)) rfl Xj) .nil)) (jNq 3 [k.1] false Xl (by simp[k.2])) Xo Xo ?_;refine zaq 4 O ?_;exact zhq (.inr rfl) O O
end
section
attribute [local irreducible] CoW OpW FlW Step Spec
variable {G:Nat->Option W}
structure Tx where
 pub:Dig
 to:Dig
 nonce:Nat
 amount:Nat
 fee:Nat
 sign:Dig
noncomputable def txW(x:Tx):W:=.agg 99 [dW x.pub,dW x.to,.int .u64 (x.nonce:Int),.int .u64 (x.amount:Int),.int .u64 (x.fee:Int),dW x.sign]
@[simp] theorem jeq(x:Tx):purW (txW x)=true:=by simp[txW]
structure Tx.ok(x:Tx):Prop where
 nonce:x.nonce<18446744073709551616
 amount:x.amount<18446744073709551616
 fee:x.fee<18446744073709551616
def jKq(x:Tx):List UInt8:=(x.pub.1++x.to.1)++[x.nonce,x.amount,x.fee].flatMap (beB 8)
theorem body1_s(d:Dig):PS cfg G 285 [dW d] (bW d.1):=by
 refine uSq (fn:=Tryz.f285) O O O (Ob rfl) (fun R k0=>?_);refine ziq 13 O ?_;exact Y3q (.inr rfl) rfl (.sl (full:=false) (xs:=zdq d.1) rfl Xl (zCq Xr (by simp[zrq,d.2]) rfl) Xj)
theorem body2_s(n:Nat)(hn:n<18446744073709551616):PS cfg G 287 [.int .u64 (n:Int)] (bW (beB 8 n)):=by
 refine uSq (fn:=Tryz.f287) O O O (Ob rfl) (fun R k0=>?_);refine ziq 8 O ?_
 (refine zoq rfl (qRq O O O O O O (YXq n 8 Xd Xd (by show n<18446744073709551616;omega)) ?_);rintro w hp1 nw1 ⟨rfl,rfl,rfl⟩)
 refine zaq 14 O ?_;exact Y3q (.inr rfl) rfl (.sl (full:=false) (c:=.arr (8*1) 1 (zdq (beB 8 n))) (xs:=zdq (beB 8 n)) rfl Xl (zCq Xr (by rw[zrq,qMq]) rfl) Xj)
theorem flat_app{ds:List Dig}{i:Nat}{d:Dig}(h:ds[i]? =some d):zdq ((ds.take (i+1)).flatMap (·.1))=zdq ((ds.take i).flatMap (·.1))++zdq d.1:=by
 rw[List.take_add_one,h,<-jAq];congr 1
 simp
theorem flat_dig:∀(ds:List Dig) (i:Nat),((ds.take i).flatMap (·.1)).length<=i*32
 |[],i=>by simp
 |d::ds,0=>by simp
 |d::ds,i+1=>by
  have:=flat_dig ds i;simp only[List.take_succ_cons,List.flatMap_cons,List.length_append,d.2,Nat.succ_mul];omega
@[simp] theorem dWs_pur(ds:List Dig):purL (ds.map dW)=true:=y7q (fun x=>by simp) ds
theorem putd_s(ds:List Dig)(f:Bool)(hn:ds.length<1000):PL cfg G 284 [.nils,.fz (ds.map dW) 32 f,.fn 285 [] []] 5 1 (zdq (ds.flatMap (·.1))):=by
 have e:(ds.map dW).length=ds.length:=List.length_map _;intro R;refine zXq (fn:=Tryz.f284) O O O (Ob rfl) (fun k0=>?_);refine ziq 9 O ?_;refine zfq (w':=.int .i64 (ds.length:Int)) O O Xv ?_;refine zaq 4 O ?_;refine Juq (α:=Nat) (fun i=>i<=ds.length) 0 (fun i=>zdq ((ds.take i).flatMap (·.1))) 5 1 (fun i=>[(11,.int .i64 (i:Int))]) [(2,_),(6,_),(9,_),(10,_)] _ (fun i=>ds.length-i) (0) ⟨rfl,rfl,rfl,rfl,trivial⟩ (Nat.zero_le _) ⟨rfl,trivial⟩ O O O (fun i hI=>?_);refine ziq 6 O ?_;refine zEq rfl (fun h1=>?_) (fun h1=>?_)
 ·have hi:i<ds.length:=by omega
  obtain⟨d,hd⟩:∃d,ds[i]? =some d:=⟨_,List.getElem?_eq_getElem hi⟩
  have hN:(zdq d.1).length=32:=by rw[zrq,d.2]
  have hne:zdq ((ds.take i).flatMap (·.1))++zdq d.1≠[]:=fun h=>by have:=congrArg List.length h;rw[List.length_append,hN] at this;simp at this
  have hL:(zdq ((ds.take i).flatMap (·.1))).length<=i*32:=by rw[zrq];exact flat_dig ds i
  refine zgq 6 O ?_;refine zbq rfl (zBq (i:=i) O O O O O O O (z9q dW hd)) ?_;refine zaq 9 O ?_;refine zkq O O O O O O (body1_s d) ?_;refine zwq rfl (quq O O (Qyq [_] (k:=ti5) (news:=zdq d.1) O O O O O O Yt (by rw[hN];show(_+32)*1<=_;omega) (by rw[hN];omega) rfl Xl)) ?_;refine zaq 5 O ?_;first|refine ypq O O ⟨by omega,by omega⟩ ?_|refine zbq O O ?_
  refine y5q 2 O ?_;exact uOq 2 (i+1) (hi) Xd (Nat.zero_le _) (flat_app hd) Yn Xd Yz rfl Yp ⟨rfl,trivial⟩ ⟨rfl,rfl,rfl,rfl,trivial⟩ Xh Xh rfl Xo Xq Yk
 ·have hi:i=ds.length:=by omega
  subst hi;refine zgq 2 O ?_;refine jaq Xj ?_;refine zDq 9 O ?_;rw[List.take_length];exact fin (.inr rfl) (yfq (fr2:=[(6,gW 0 1 (zdq (ds.flatMap (·.1))))]) ⟨rfl,trivial⟩ O O) rfl ⟨rfl,rfl,rfl,rfl⟩
theorem flat_num:∀(ns:List Nat) (i:Nat),((ns.take i).flatMap (beB 8)).length<=i*8
 |[],i=>by simp
 |d::ds,0=>by simp
 |d::ds,i+1=>by
  have:=flat_num ds i;simp only[List.take_succ_cons,List.flatMap_cons,List.length_append,qMq,Nat.succ_mul];omega
noncomputable def uW(n:Nat):W:=.int .u64 (n:Int)
@[simp] theorem uWs_pur(ns:List Nat):purL (ns.map uW)=true:=y7q (fun x=>rfl) ns
noncomputable def thr(i:Nat):Nat:=match i with
 |0=>0
 |_+1=>1
theorem putu_s(l:List UInt8)(hl0:l≠[])(hl:l.length<100000)(ns:List Nat)(f:Bool)(hn:ns.length<1000)(hns:ns≠[])(hu:∀n∈ns,n<18446744073709551616):yVq cfg G 286 1 [.sl 0 0 0 l.length 1 none,.fz (ns.map uW) 1 f,.fn 287 [] []] [(0,5,.arr l.length 1 (zdq l))] fun w hp nw=>w= .sl 1 0 0 (l++ns.flatMap (beB 8)).length 1 none/\hp=[(1,5,.arr (l++ns.flatMap (beB 8)).length 1 (zdq (l++ns.flatMap (beB 8))))]/\nw=2:=by
 have e:(ns.map uW).length=ns.length:=List.length_map _;intro R;refine zXq (fn:=Tryz.f286) O O O (Ob rfl) (fun k0=>?_);refine ziq 9 O ?_;refine zfq (w':=.int .i64 (ns.length:Int)) O O Xv ?_;refine zaq 4 O ?_;refine qyq (α:=Nat) (fun i=>i<=ns.length) (fun i=>[(11,.int .i64 (i:Int)),(0,.sl (thr i) 0 0 (l++(ns.take i).flatMap (beB 8)).length 1 none),(2,.fn 287 [] []),(6,.nils),(9,.fz (ns.map uW) 1 f),(10,.int .i64 (ns.length:Int))]) (fun i=>[(thr i,5,.arr (l++(ns.take i).flatMap (beB 8)).length 1 (zdq (l++(ns.take i).flatMap (beB 8))))]) (fun i=>thr i+1) (fun _=>R) (fun i=>ns.length-i) 0 (Nat.zero_le _) (yfq ⟨rfl,by show some (W.sl 0 0 0 l.length 1 none)=some (W.sl 0 0 0 (l++[]).length 1 none);rw[List.append_nil],rfl,rfl,rfl,rfl,trivial⟩ (by simp[thr]) rfl) (fun i hI=>?_);skip
 refine ziq 6 O ?_;refine zEq rfl (fun h1=>?_) (fun h1=>?_)
 ·have hi:i<ns.length:=by omega
  obtain⟨u,hu0⟩:∃u,ns[i]? =some u:=⟨_,List.getElem?_eq_getElem hi⟩
  have hu1:=hu u (List.mem_of_getElem? hu0);have hN:(zdq (beB 8 u)).length=8:=by rw[zrq,qMq]
  have hL:(l++(ns.take i).flatMap (beB 8)).length<=100000+i*8:=by have:=flat_num ns i;rw[List.length_append];omega
  have hnx:l++(ns.take (i+1)).flatMap (beB 8)=(l++(ns.take i).flatMap (beB 8))++beB 8 u:=by rw[List.take_add_one,hu0];simp
  have hlen:(l++(ns.take i).flatMap (beB 8)).length+(zdq (beB 8 u)).length=(l++(ns.take (i+1)).flatMap (beB 8)).length:=by rw[hnx,List.length_append (bs:=beB 8 u),zrq]
  have hby:zdq (l++(ns.take i).flatMap (beB 8))++zdq (beB 8 u)=zdq (l++(ns.take (i+1)).flatMap (beB 8)):=by rw[hnx,jAq (b:=beB 8 u)]
  skip
  cases i with
  |zero=>
   refine zgq 6 O ?_;refine zbq rfl (zBq (i:=0) O O O O O O O (z9q uW hu0)) ?_;refine zaq 8 O ?_;refine zkq O O O O O O (body2_s u hu1) ?_;refine zwq rfl (quq O O (qNq (k:=ti5) (len:=(l++(ns.take 0).flatMap (beB 8)).length) (news:=zdq (beB 8 u)) (olds:=zdq (l++(ns.take 0).flatMap (beB 8))) O O O O O Yt (by rw[hN];show(_+8)*1<=_;omega) (by rw[hN];omega) rfl (by rw[hN];show(l++(ns.take 0).flatMap (beB 8)).length<0+(_+8)*1;omega) rfl (zCq Xr (zrq _).symm (Nat.mul_one _).symm))) ?_;refine zaq 5 O ?_;refine zuq (0+1) O O Xm ⟨by omega,by omega⟩ ?_;refine y5q 2 O ?_;skip
   refine yDq 1 hi Xd (yfq ⟨rfl,?_,rfl,rfl,rfl,rfl,trivial⟩ ?_ rfl)
   ·show some (W.sl 1 0 0 ((l++(ns.take 0).flatMap (beB 8)).length+(zdq (beB 8 u)).length) 1 none)=some (W.sl 1 0 0 (l++(ns.take (0+1)).flatMap (beB 8)).length 1 none);rw[hlen]
   ·show [(1,5,W.arr (((l++(ns.take 0).flatMap (beB 8)).length+(zdq (beB 8 u)).length)*1) 1 (zdq (l++(ns.take 0).flatMap (beB 8))++zdq (beB 8 u)))]=[(1,5,W.arr (l++(ns.take (0+1)).flatMap (beB 8)).length 1 (zdq (l++(ns.take (0+1)).flatMap (beB 8))))];rw[hlen,hby,Nat.mul_one]
  |succ i=>
   refine zgq 6 O ?_;refine zbq rfl (zBq (i:=(i+1)) O O O O O O O (z9q uW hu0)) ?_;refine zaq 8 O ?_;refine zkq O O O O O O (body2_s u hu1) ?_;refine zwq rfl (quq O O (qNq (k:=ti5) (len:=(l++(ns.take (i+1)).flatMap (beB 8)).length) (news:=zdq (beB 8 u)) (olds:=zdq (l++(ns.take (i+1)).flatMap (beB 8))) O O O O O Yt (by rw[hN];show(_+8)*1<=_;omega) (by rw[hN];omega) rfl (by rw[hN];show(l++(ns.take (i+1)).flatMap (beB 8)).length<0+(_+8)*1;omega) rfl (zCq Xr (zrq _).symm (Nat.mul_one _).symm))) ?_;refine zaq 5 O ?_;refine zuq ((i+1)+1) O O Xm ⟨by omega,by omega⟩ ?_;refine y5q 2 O ?_;skip
   refine yDq (i+1+1) hi (show ns.length-(i+1+1)<ns.length-(i+1) by omega) ?_;refine(yYq (b:=1) (k:=2) Xd Xd (by show 2<3;omega) ⟨⟨rfl,rfl⟩,⟨?_,rfl⟩,⟨rfl,rfl⟩,⟨rfl,rfl⟩,⟨by rw[zjq (show purW (.fz (ns.map uW) 1 f)=true from uWs_pur ns)];rfl,zeq (show purW (.fz (ns.map uW) 1 f)=true from uWs_pur ns)⟩,⟨rfl,rfl⟩,trivial⟩ ⟨⟨by show 1<2;omega,?_,zeq (show purW (.arr _ 1 (zdq _))=true from q8q _)⟩,trivial⟩ Xl)
   ·show some (W.sl 2 0 0 ((l++(ns.take (i+1)).flatMap (beB 8)).length+(zdq (beB 8 u)).length) 1 none)=some (W.sl 2 0 0 (l++(ns.take (i+1+1)).flatMap (beB 8)).length 1 none);rw[hlen]
   ·show some (5,W.arr (((l++(ns.take (i+1)).flatMap (beB 8)).length+(zdq (beB 8 u)).length)*1) 1 (zdq (l++(ns.take (i+1)).flatMap (beB 8))++zdq (beB 8 u)))=some (5,renW _ (W.arr (l++(ns.take (i+1+1)).flatMap (beB 8)).length 1 (zdq (l++(ns.take (i+1+1)).flatMap (beB 8)))));rw[zjq (show purW (.arr _ 1 (zdq _))=true from q8q _),hlen,hby,Nat.mul_one]
 ·have hi:i=ns.length:=by omega
  subst hi;refine zgq 2 O ?_;refine jaq Xj ?_;refine zDq 9 O ?_;rw[List.take_length];cases ns with
  |nil=>exact absurd rfl hns
  |cons a r=>
   exact fin (.inr rfl) (yfq (fr2:=[(6,.sl 1 0 0 (l++(a::r).flatMap (beB 8)).length 1 none)]) ⟨rfl,trivial⟩ O O) rfl ⟨rfl,rfl,rfl,rfl⟩
theorem put2_s(a b:Dig)(f:Bool):yVq cfg G 284 0 [.nils,.fz [dW a,dW b] 32 f,.fn 285 [] []] [] fun w hp nw=>w= .sl 0 0 0 (a.1++b.1).length 1 none/\hp=[(0,5,.arr (a.1++b.1).length 1 (zdq (a.1++b.1)))]/\nw=1:=by
 refine xVq (putd_s [a,b] f Xl) fun w hp nw h=>?_
 obtain⟨rfl,rfl,rfl⟩:=h;have e:[a,b].flatMap (·.1)=a.1++b.1:=by simp
 have hl:(zdq (a.1++b.1)).length=64:=by rw[zrq,List.length_append,a.2,b.2]
 have hne:zdq (a.1++b.1)≠[]:=fun h=>by rw[h] at hl;cases hl
 rw[e,vHq hne,vIq hne,zrq,Nat.mul_one];exact⟨rfl,rfl,rfl⟩
theorem Zxq(x:Tx):(jKq x).length=88:=by simp[jKq,x.pub.2,x.to.2,qMq]
theorem bodyL_s(x:Tx)(hx:x.ok):PL cfg G 268 [txW x] 5 1 (zdq (jKq x)):=by
 have hl:(x.pub.1++x.to.1).length=64:=by rw[List.length_append,x.pub.2,x.to.2]
 have hb:=Zxq x
 have hns:∀n∈[x.nonce,x.amount,x.fee],n<18446744073709551616:=fun n hn=>by
  simp only[List.mem_cons,List.not_mem_nil,or_false] at hn;rcases hn with rfl|rfl|rfl
  ·exact hx.nonce
  ·exact hx.amount
  ·exact hx.fee
 have hpa:purW (.arr (x.pub.1++x.to.1).length 1 (zdq (x.pub.1++x.to.1)))=true:=q8q _;intro R;refine zXq (fn:=Tryz.f268) O O O (Ob rfl) (fun k0=>?_);refine ziq 13 O ?_
 (refine Z0q (fun _=>vNq 1 [(1,.ptr 0 0),(2,.nils),(8,.fz [dW x.pub,dW x.to] 32 false)] [(0,75,txW x)] rfl (show purL [dW x.pub,dW x.to]=true by simp) (Nat.zero_le _) ⟨⟨_,rfl,.ptrK rfl⟩,⟨_,rfl,.pur rfl⟩,⟨_,rfl,.sl (full:=false) rfl (show purL [dW x.pub,dW x.to]=true by simp) rfl Xj⟩,trivial⟩ ⟨⟨by omega,_,rfl,.pur Xl⟩,trivial⟩ Xl) ?_;refine zoq rfl (qRq O O O O O Xl (put2_s x.pub x.to false) ?_);rintro w hp1 nw1 ⟨rfl,rfl,rfl⟩)
 refine zaq 13 O ?_
 (refine Z0q (fun _=>vNq 3 [(1,.ptr 0 0),(2,.nils),(10,.sl 2 0 0 (x.pub.1++x.to.1).length 1 none),(17,.fz ([x.nonce,x.amount,x.fee].map uW) 1 false)] [(2,5,.arr (x.pub.1++x.to.1).length 1 (zdq (x.pub.1++x.to.1))),(0,75,txW x)] O O (Nat.zero_le _) ⟨⟨_,rfl,.ptrK rfl⟩,⟨_,rfl,.pur rfl⟩,⟨_,rfl,.slK rfl⟩,⟨_,rfl,.sl (full:=false) O O O Xj⟩,trivial⟩ ⟨⟨by omega,_,rfl,by rw[zjq hpa];exact .pur hpa⟩,⟨by omega,_,rfl,.pur Xl⟩,trivial⟩ Xl) ?_;refine zoq rfl (yJq (ext:=[2]) (ws:=[.sl 0 0 0 (x.pub.1++x.to.1).length 1 none,.fz ([x.nonce,x.amount,x.fee].map uW) 1 false,.fn 287 [] []]) O O O O O (putu_s (x.pub.1++x.to.1) (by intro h;rw[h] at hl;cases hl) Xd [x.nonce,x.amount,x.fee] false Xl Xl hns) Xl Xl Xl (handed1 (by rw[zjq hpa];rfl) (zeq hpa)) O ?_);rintro w hp1 nw1 ⟨rfl,rfl,rfl⟩)
 refine zaq 4 O ?_;have hpb:purW (.arr (jKq x).length 1 (zdq (jKq x)))=true:=q8q _;have hn:(zdq (jKq x)).length=88:=by rw[zrq,hb]
 have hne:zdq (jKq x)≠[]:=fun h=>by rw[h] at hn;cases hn
 refine fin (fr2:=[(2,.sl 0 0 0 (jKq x).length 1 none)]) (hp2:=[(0,5,.arr (jKq x).length 1 (zdq (jKq x)))]) (nw2:=1) (w:=.sl 0 0 0 (jKq x).length 1 none) (.inr rfl) (yYq (b:=0) (k:=4) Xd Xd Ym ⟨⟨rfl,rfl⟩,trivial⟩ ⟨⟨by omega,?_,zeq hpb⟩,trivial⟩ Xl) rfl ⟨rfl,?_,?_,rfl⟩
 ·show some (5,renW _ (W.arr (jKq x).length 1 (zdq (jKq x))))=some (5,renW _ (W.arr (jKq x).length 1 (zdq (jKq x))));rw[zjq hpb,zjq hpb]
 ·rw[vHq hne,zrq]
 ·rw[vIq hne,zrq,Nat.mul_one]
theorem body_s(x:Tx)(hx:x.ok):PS cfg G 268 [txW x] (bW (jKq x)):=(bodyL_s x hx).ps Xr Xl
noncomputable def xsq(x:Tx):Dig:=tagD 4 [jKq x]
theorem sign_s(x:Tx)(hx:x.ok):PS cfg glK 260 [txW x] (dW (xsq x)):=by
 have hb:=Zxq x;refine zNq (fn:=Tryz.f260) O O O (Ob rfl) (fun R k0=>?_);refine ziq 9 O ?_;refine zkq O O O O O O (body_s x hx) ?_;refine zwq O O ?_;refine ZZq O O O O O (by(repeat (first|exact .nil|refine .cons ?_ ?_|(refine .sl O ?_ rfl Xj;first|rfl|(focus (simp;done)))|(refine qBq O ?_ rfl;first|rfl|(focus (simp;done)))|(refine .pur ?_;first|rfl|(focus (simp;done)))))) (jNq 4 [jKq x] false Xl (by simp[hb])) Xo Xo ?_;refine zaq 4 O ?_;exact zhq (.inr rfl) O O
theorem kAq(x:Tx)(hx:x.ok):PS cfg glK 213 [txW x] (.int .i64 (if x.sign=xsq x then 0 else 110)):=by
 refine zNq (fn:=Tryz.f213) O O O (Ob rfl) (fun R k0=>?_);by_cases h:x.sign=xsq x
 ·rw[if_pos h];skip
  refine ziq 12 O ?_;refine qJq O O O O O O (sign_s x hx) ?_;refine qsq (w':=.bool false) rfl (kxq O O O O (qtq O O O O O O x.sign (xsq x) 250)) (by rw[decide_eq_true h];rfl) ?_;refine zsq 11 O ?_;exact zhq (.inr rfl) O O
 ·rw[if_neg h];refine ziq 12 O ?_;refine qJq O O O O O O (sign_s x hx) ?_;refine qsq (w':=.bool true) rfl (kxq O O O O (qtq O O O O O O x.sign (xsq x) 250)) (by rw[decide_eq_false h];rfl) ?_;refine zsq 10 O ?_;exact zhq (.inr rfl) O O
theorem from_s(x:Tx):PS cfg glK 227 [txW x] (dW (keyD x.pub)):=by
 refine zNq (fn:=Tryz.f227) O O O (Ob rfl) (fun R k0=>?_);refine ziq 10 O ?_;refine zkq O O O O O O (key_s x.pub) ?_;refine zaq 4 O ?_;exact zhq (.inr rfl) O O
end
section
attribute [local irreducible] CoW OpW FlW Step Spec
variable {G:Nat->Option W}
def StepA(H:Tree->HpW)(m:Nat)(b:Bool)(P:Tree->T->Prop):W->HpW->Nat->Prop:=fun w hp nw=>∃t n t0,IsA t n t0/\P t t0/\w= .bool b/\hp=H t/\nw=m
noncomputable def pay1H(x:Tx)(a:Acct)(k:Dig)(t:Tree):HpW:=[(0,75,txW x),(1,81,aW a),(2,307,.ptr 4 0),(3,26,dW k),(4,308,tW t)]
noncomputable def YZq(x:Tx)(t:Tree):HpW:=[(0,307,.ptr 2 0),(1,75,txW x),(2,308,tW t)]
noncomputable def YYq(x:Tx)(k:Dig)(t:Tree):HpW:=[(0,307,.ptr 3 0),(1,26,dW k),(2,75,txW x),(3,308,tW t)]
theorem pay1_no(x:Tx)(hx:x.ok)(a:Acct)(ha:a.ok)(k:Dig)(t:Tree)(n:Nat)(t0:T)(h:IsA t n t0)(ho:¬x.amount+x.fee<=a.balance):yVq cfg G 229 5 [.ptr 0 0,.ptr 1 0,.ptr 2 0,.ptr 3 0] (pay1H x a k t) (StepA (pay1H x a k) 5 false (fun t' t1=>t'=t/\t1=t0)):=by
 intro R;have h1:=hx.amount;have h2:=hx.fee;have h3:=ha.2;by_cases ov:x.amount+x.fee<18446744073709551616
 ·skip
  refine zXq (fn:=Tryz.f229) O O O (Ob rfl) (fun k0=>?_);refine ziq 11 O ?_
  (refine zoq rfl (kCq (a:=x.amount) (b:=x.fee) O O O O ?_))
  refine zbq O O (zfq (w':=.int .u64 ((x.amount+x.fee:Nat):Int)) O O (congrArg (fun q:Nat=>W.int .u64 (q:Int)) Xd) ?_);refine zfq (w':=.int .u64 ((0:Nat):Int)) O O (congrArg (fun q:Nat=>W.int .u64 (q:Int)) Xd) ?_;refine zaq 8 O ?_;refine zfq (w':=.bool false) O O (congrArg W.bool Xg) ?_;refine zaq 4 O ?_;refine zfq (w':=.bool true) O O (congrArg W.bool (ltI_iff.2 Xd)) ?_;refine zaq 11 O ?_;exact fin (.inr rfl) (yfq (fr2:=[(4,.bool false)]) ⟨rfl,trivial⟩ O O) rfl ⟨rfl,t,n,t0,h,⟨rfl,rfl⟩,rfl,rfl,rfl⟩
 ·skip
  refine zXq (fn:=Tryz.f229) O O O (Ob rfl) (fun k0=>?_);refine ziq 11 O ?_
  (refine zoq rfl (kCq (a:=x.amount) (b:=x.fee) O O O O ?_))
  refine zaq 2 O ?_;refine zfq (w':=.int .u64 ((1:Nat):Int)) O O (congrArg (fun q:Nat=>W.int .u64 (q:Int)) Xd) ?_;refine zaq 8 O ?_;refine zfq (w':=.bool true) O O (congrArg W.bool Xg) ?_;refine zaq 16 O ?_;exact fin (.inr rfl) (yfq (fr2:=[(4,.bool false)]) ⟨rfl,trivial⟩ O O) rfl ⟨rfl,t,n,t0,h,⟨rfl,rfl⟩,rfl,rfl,rfl⟩
theorem pay1_st(x:Tx)(hx:x.ok)(a:Acct)(ha:a.ok)(k:Dig)(t:Tree)(n:Nat)(t0:T)(h:IsA t n t0)(hl:t.nodes.length<=261844)(ho:x.amount+x.fee<=a.balance):yVq cfg G 229 5 [.ptr 0 0,.ptr 1 0,.ptr 2 0,.ptr 3 0] (pay1H x a k t) (StepA (pay1H x a k) 5 true (kiq t 257 (setL t0.all k ⟨a.nonce,a.balance-(x.amount+x.fee)⟩))):=by
 intro R;have h1:=hx.amount;have h2:=hx.fee;have h3:=ha.2;refine zXq (fn:=Tryz.f229) O O O (Ob rfl) (fun k0=>?_);refine ziq 11 O ?_
 (refine zoq rfl (kCq (a:=x.amount) (b:=x.fee) O O O O ?_))
 refine zbq O O (zfq (w':=.int .u64 ((x.amount+x.fee:Nat):Int)) O O (congrArg (fun q:Nat=>W.int .u64 (q:Int)) Xd) ?_);refine zfq (w':=.int .u64 ((0:Nat):Int)) O O (congrArg (fun q:Nat=>W.int .u64 (q:Int)) Xd) ?_;refine zaq 8 O ?_;refine zfq (w':=.bool false) O O (congrArg W.bool Xg) ?_;refine zaq 4 O ?_;refine zfq (w':=.bool false) O O (congrArg W.bool (ltI_not.2 Xd)) ?_;refine zaq 15 O ?_;refine zuq (a.balance-(x.amount+x.fee)) O O Xm ⟨by omega,by omega⟩ ?_;refine zbq O O ?_
 (refine zoq rfl (kVq 4 O O O O Xl Xd O O (turn_st t n t0 k ⟨a.nonce,a.balance-(x.amount+x.fee)⟩ h ⟨ha.1,by show a.balance-(x.amount+x.fee)<_;omega⟩ hl) ?_);rintro t' n' t1 h' hP)
 refine zaq 8 O ?_;exact fin (hp2:=pay1H x a k t') (.inr rfl) (y2q (nw2:=5) (fr2:=[(4,.bool true)]) Xd Xd ⟨rfl,trivial⟩ rfl (qaq ⟨⟨by omega,rfl,zeq (jeq x)⟩,⟨by omega,rfl,rfl⟩,⟨by omega,rfl,rfl⟩,⟨by omega,rfl,zeq (kqq k)⟩,⟨by omega,rfl,zeq (qnq t')⟩,trivial⟩) (by simp[pay1H])) rfl ⟨rfl,t',n',t1,h',hP,rfl,rfl,rfl⟩
theorem pay2_no(x:Tx)(hx:x.ok)(t:Tree)(n:Nat)(t0:T)(h:IsA t n t0)(ho:18446744073709551616<=(yOq t0 x.to).balance+x.amount):yVq cfg G 231 3 [.ptr 0 0,.ptr 1 0] (YZq x t) (StepA (YZq x) 3 false (kiq t 257 t0.all)):=by
 intro R;refine zXq (fn:=Tryz.f231) O O O (Ob rfl) (fun k0=>?_);refine ziq 12 O ?_
 (refine zoq rfl (kVq 2 O O O O Xl Xd O O (more_no t n t0 x.to x.amount h hx.amount ho) ?_);rintro t' n' t1 h' hP)
 refine zaq 4 O ?_;exact fin (hp2:=YZq x t') (.inr rfl) (y2q (nw2:=3) (fr2:=[(2,.bool false)]) Xd Xd ⟨rfl,trivial⟩ rfl (qaq ⟨⟨by omega,rfl,rfl⟩,⟨by omega,rfl,zeq (jeq x)⟩,⟨by omega,rfl,zeq (qnq t')⟩,trivial⟩) (by simp[YZq])) rfl ⟨rfl,t',n',t1,h',hP,rfl,rfl,rfl⟩
theorem pay2_st(x:Tx)(t:Tree)(n:Nat)(t0:T)(h:IsA t n t0)(hl:t.nodes.length<=261844)(ho:(yOq t0 x.to).balance+x.amount<18446744073709551616):yVq cfg G 231 3 [.ptr 0 0,.ptr 1 0] (YZq x t) (StepA (YZq x) 3 true (kiq t 257 (setL t0.all x.to ⟨(yOq t0 x.to).nonce,(yOq t0 x.to).balance+x.amount⟩))):=by
 intro R;refine zXq (fn:=Tryz.f231) O O O (Ob rfl) (fun k0=>?_);refine ziq 12 O ?_
 (refine zoq rfl (kVq 2 O O O O Xl Xd O O (more_st t n t0 x.to x.amount h ho hl) ?_);rintro t' n' t1 h' hP)
 refine zaq 4 O ?_;exact fin (hp2:=YZq x t') (.inr rfl) (y2q (nw2:=3) (fr2:=[(2,.bool true)]) Xd Xd ⟨rfl,trivial⟩ rfl (qaq ⟨⟨by omega,rfl,rfl⟩,⟨by omega,rfl,zeq (jeq x)⟩,⟨by omega,rfl,zeq (qnq t')⟩,trivial⟩) (by simp[YZq])) rfl ⟨rfl,t',n',t1,h',hP,rfl,rfl,rfl⟩
theorem pay3_no(x:Tx)(hx:x.ok)(k:Dig)(t:Tree)(n:Nat)(t0:T)(h:IsA t n t0)(ho:18446744073709551616<=(yOq t0 k).balance+x.fee):yVq cfg G 232 4 [.ptr 0 0,.ptr 1 0,.ptr 2 0] (YYq x k t) (StepA (YYq x k) 4 false (kiq t 257 t0.all)):=by
 intro R;refine zXq (fn:=Tryz.f232) O O O (Ob rfl) (fun k0=>?_);refine ziq 11 O ?_
 (refine zoq rfl (kVq 3 O O O O Xl Xd O O (more_no t n t0 k x.fee h hx.fee ho) ?_);rintro t' n' t1 h' hP)
 refine zaq 4 O ?_;exact fin (hp2:=YYq x k t') (.inr rfl) (y2q (nw2:=4) (fr2:=[(3,.bool false)]) Xd Xd ⟨rfl,trivial⟩ rfl (qaq ⟨⟨by omega,rfl,rfl⟩,⟨by omega,rfl,zeq (kqq k)⟩,⟨by omega,rfl,zeq (jeq x)⟩,⟨by omega,rfl,zeq (qnq t')⟩,trivial⟩) (by simp[YYq])) rfl ⟨rfl,t',n',t1,h',hP,rfl,rfl,rfl⟩
theorem pay3_st(x:Tx)(k:Dig)(t:Tree)(n:Nat)(t0:T)(h:IsA t n t0)(hl:t.nodes.length<=261844)(ho:(yOq t0 k).balance+x.fee<18446744073709551616):yVq cfg G 232 4 [.ptr 0 0,.ptr 1 0,.ptr 2 0] (YYq x k t) (StepA (YYq x k) 4 true (kiq t 257 (setL t0.all k ⟨(yOq t0 k).nonce,(yOq t0 k).balance+x.fee⟩))):=by
 intro R;refine zXq (fn:=Tryz.f232) O O O (Ob rfl) (fun k0=>?_);refine ziq 11 O ?_
 (refine zoq rfl (kVq 3 O O O O Xl Xd O O (more_st t n t0 k x.fee h ho hl) ?_);rintro t' n' t1 h' hP)
 refine zaq 4 O ?_;exact fin (hp2:=YYq x k t') (.inr rfl) (y2q (nw2:=4) (fr2:=[(3,.bool true)]) Xd Xd ⟨rfl,trivial⟩ rfl (qaq ⟨⟨by omega,rfl,rfl⟩,⟨by omega,rfl,zeq (kqq k)⟩,⟨by omega,rfl,zeq (jeq x)⟩,⟨by omega,rfl,zeq (qnq t')⟩,trivial⟩) (by simp[YYq])) rfl ⟨rfl,t',n',t1,h',hP,rfl,rfl,rfl⟩
end
section
attribute [local irreducible] CoW OpW FlW Step Spec
def acL(l:List Pr)(k:Dig):Acct:=match Y1q l k with
 |some v=>(jEq v).1
 |none=>.zero
theorem x4q{t:Tree}{n:Nat}{t0:T}(h:IsT t n t0)(k:Dig):yOq t0 k=acL t0.all k:=by
 unfold yOq acL;rw[xEq k jMq h.ok];cases Y1q t0.all k<;>rfl
noncomputable def kuq(l:List Pr)(k:Dig)(c:Nat):Option (List Pr):=if (acL l k).balance+c<18446744073709551616 then some (setL l k ⟨(acL l k).nonce,(acL l k).balance+c⟩) else none
noncomputable def Z5q(l:List Pr)(x:Tx):List Pr:=setL l (keyD x.pub) ⟨(acL l (keyD x.pub)).nonce+1,(acL l (keyD x.pub)).balance⟩
noncomputable def Zbq(l:List Pr)(x:Tx):List Pr:=setL (Z5q l x) (keyD x.pub) ⟨(acL l (keyD x.pub)).nonce+1,(acL l (keyD x.pub)).balance-(x.amount+x.fee)⟩
noncomputable def y6q(l:List Pr)(x:Tx)(box:Dig):List Pr×Nat:=if x.amount+x.fee<=(acL l (keyD x.pub)).balance then(match kuq (Zbq l x) x.to x.amount with
  |none=>(Z5q l x,151)
  |some p=>match kuq p box x.fee with
   |none=>(Z5q l x,151)
   |some q=>(q,0)) else(Z5q l x,150)
def stg(x:Tx)(box:Dig)(l:List Pr):Nat->List Pr->Prop
 |0,q=>q=Z5q l x
 |1,q=>x.amount+x.fee<=(acL l (keyD x.pub)).balance/\q=Zbq l x
 |2,q=>x.amount+x.fee<=(acL l (keyD x.pub)).balance/\kuq (Zbq l x) x.to x.amount=some q
 |_,q=>x.amount+x.fee<=(acL l (keyD x.pub)).balance/\∃p,kuq (Zbq l x) x.to x.amount=some p/\kuq p box x.fee=some q
theorem paid_150{x:Tx}{box:Dig}{l:List Pr}(ho:¬x.amount+x.fee<=(acL l (keyD x.pub)).balance):y6q l x box=(Z5q l x,150):=by unfold y6q;rw[if_neg ho]
theorem paid_1{x:Tx}{box:Dig}{l:List Pr}(ho:x.amount+x.fee<=(acL l (keyD x.pub)).balance)(h:kuq (Zbq l x) x.to x.amount=none):y6q l x box=(Z5q l x,151):=by unfold y6q;rw[if_pos ho,h]
theorem paid_2{x:Tx}{box:Dig}{l p:List Pr}(ho:x.amount+x.fee<=(acL l (keyD x.pub)).balance)(h:kuq (Zbq l x) x.to x.amount=some p)(h2:kuq p box x.fee=none):y6q l x box=(Z5q l x,151):=by unfold y6q;rw[if_pos ho,h];simp only;rw[h2]
theorem paid_3{x:Tx}{box:Dig}{l p q:List Pr}(ho:x.amount+x.fee<=(acL l (keyD x.pub)).balance)(h:kuq (Zbq l x) x.to x.amount=some p)(h2:kuq p box x.fee=some q):y6q l x box=(q,0):=by unfold y6q;rw[if_pos ho,h];simp only;rw[h2]
def PayA(t:Tree)(t0:T)(x:Tx)(box:Dig):W->Prop:=fun w=>∃t' n' t1,IsA t' n' t1/\kiq t 1028 (y6q t0.all x box).1 t' t1/\w= .tup [tW t',.int .i64 ((y6q t0.all x box).2:Nat),.int .i64 0]
theorem pay_sign(t:Tree)(n:Nat)(t0:T)(x:Tx)(hx:x.ok)(box:Dig)(h:IsA t n t0)(hs:x.sign≠xsq x):PS cfg glK 169 [tW t,txW x,dW box] (.tup [noT,.int .i64 0,.int .i64 110]):=by
 refine zNq (fn:=Tryz.f169) O O O (Ob rfl) (fun R k0=>?_);refine ziq 10 O ?_;refine vjq 3 ?_;refine ziq 3 O ?_;refine zkq O O O O O O (from_s _) ?_;refine zaq 8 O ?_;refine zkq O O O O O O (QAq t n t0 h _) ?_;refine zaq 13 O ?_;refine yWq O O ?_;refine zaq 7 O ?_;refine zkq O O O O O O (yFq (w':=.int .i64 110) (kAq x hx) (by rw[if_neg hs])) ?_;refine yWq O O ?_;refine zaq 15 O ?_;refine k4q Yr ?_;exact zhq (.inr rfl) O O
theorem pay_nonce(t:Tree)(n:Nat)(t0:T)(x:Tx)(hx:x.ok)(box:Dig)(h:IsA t n t0)(hs:x.sign=xsq x)(hn:¬(x.nonce=(acL t0.all (keyD x.pub)).nonce/\x.nonce<18446744073709551615)):PS cfg glK 169 [tW t,txW x,dW box] (.tup [noT,.int .i64 0,.int .i64 2]):=by
 have h1:=hx.nonce;have ea:=x4q h.toIsT (keyD x.pub);by_cases q:x.nonce=(acL t0.all (keyD x.pub)).nonce
 ·have q2:x.nonce=18446744073709551615:=by have:¬x.nonce<18446744073709551615:=fun r=>hn ⟨q,r⟩;omega
  refine zNq (fn:=Tryz.f169) O O O (Ob rfl) (fun R k0=>?_);refine ziq 10 O ?_;refine vjq 3 ?_;refine ziq 3 O ?_;refine zkq O O O O O O (from_s _) ?_;refine zaq 8 O ?_;refine zkq O O O O O O (QAq t n t0 h _) ?_;refine zaq 13 O ?_;refine yWq O O ?_;refine zaq 7 O ?_;refine zkq O O O O O O (yFq (w':=.int .i64 0) (kAq x hx) (by rw[if_pos hs])) ?_;refine yWq O O ?_;refine zaq 10 O ?_;refine zfq (w':=.bool false) O O (congrArg (fun b=>W.bool (!b)) (eqI_iff.2 (by rw[ea,q]))) ?_;refine zaq 3 O ?_;refine zfq (w':=.bool true) O O (congrArg W.bool (eqI_iff.2 Xd)) ?_;refine zaq 16 O ?_;refine k4q Yr ?_;exact zhq (.inr rfl) O O
 ·skip
  refine zNq (fn:=Tryz.f169) O O O (Ob rfl) (fun R k0=>?_);refine ziq 10 O ?_;refine vjq 3 ?_;refine ziq 3 O ?_;refine zkq O O O O O O (from_s _) ?_;refine zaq 8 O ?_;refine zkq O O O O O O (QAq t n t0 h _) ?_;refine zaq 13 O ?_;refine yWq O O ?_;refine zaq 7 O ?_;refine zkq O O O O O O (yFq (w':=.int .i64 0) (kAq x hx) (by rw[if_pos hs])) ?_;refine yWq O O ?_;refine zaq 10 O ?_;refine zfq (w':=.bool true) O O (congrArg (fun b=>W.bool (!b)) (eqI_not.2 (by rw[ea];omega))) ?_;refine zaq 20 O ?_;refine k4q Yr ?_;exact zhq (.inr rfl) O O
noncomputable def stepsW:W:=.arr 6 2 [.agg 2 [.fn 229 [] [.ptr 1 0,.ptr 5 0,.ptr 8 0,.ptr 4 0],.int .i64 150],.agg 2 [.fn 231 [] [.ptr 8 0,.ptr 1 0],.int .i64 151],.agg 2 [.fn 232 [] [.ptr 8 0,.ptr 2 0,.ptr 1 0],.int .i64 151]]
noncomputable def payH(x:Tx)(box k:Dig)(a:Acct)(tb t:Tree):HpW:=[(7,308,tW t),(1,75,txW x),(2,26,dW box),(3,24,noT),(4,26,dW k),(5,81,aW a),(6,308,tW tb),(8,307,.ptr 7 0),(9,314,stepsW)]
theorem Jjq{t t' t2:Tree}{m:Nat}(h:∃ms,t'.nodes=t.nodes++ms/\ms.length<=m)(h2:∃ms,t2.nodes=t'.nodes++ms/\ms.length<=257):∃ms,t2.nodes=t.nodes++ms/\ms.length<=m+257:=by
 obtain⟨a,ha,ha2⟩:=h;obtain⟨b,hb,hb2⟩:=h2;exact⟨a++b,by rw[hb,ha,List.append_assoc],by rw[List.length_append];omega⟩
theorem ext_le{t t':Tree}{m:Nat}(h:∃ms,t'.nodes=t.nodes++ms/\ms.length<=m):t'.nodes.length<=t.nodes.length+m:=by
 obtain⟨a,ha,ha2⟩:=h;rw[ha,List.length_append];omega
theorem Ynq{t t':Tree}{m k:Nat}(h:∃ms,t'.nodes=t.nodes++ms/\ms.length<=m)(hk:m<=k):∃ms,t'.nodes=t.nodes++ms/\ms.length<=k:=by
 obtain⟨a,ha,ha2⟩:=h;exact⟨a,ha,by omega⟩
theorem pay_s(t:Tree)(n:Nat)(t0:T)(x:Tx)(hx:x.ok)(box:Dig)(h:IsA t n t0)(hs:x.sign=xsq x)(hn:x.nonce=(acL t0.all (keyD x.pub)).nonce)(hn2:x.nonce<18446744073709551615)(hl:t.nodes.length<=260944):PE cfg glK 169 [tW t,txW x,dW box] (PayA t t0 x box):=by
 have hvals:∀x∈t.nodes,x.val.length<=70368744177664:=IsT.vals (root:=t.root) h.toIsT
 have hA:=YOq t0 (keyD x.pub);rw[x4q h.toIsT] at hA;have ea:=x4q h.toIsT (keyD x.pub);unfold PayA;obtain⟨A,eA⟩:∃A,acL t0.all (keyD x.pub)=A:=⟨_,rfl⟩
 obtain⟨l,el⟩:∃l,t0.all=l:=⟨_,rfl⟩
 rw[eA] at hn hA ea;have e0:Z5q l x=setL l (keyD x.pub) ⟨A.nonce+1,A.balance⟩:=by unfold Z5q;rw[<-el,eA]
 have e1:Zbq l x=setL (Z5q l x) (keyD x.pub) ⟨A.nonce+1,A.balance-(x.amount+x.fee)⟩:=by unfold Zbq;rw[<-el,eA]
 rw[el] at eA⊢;have hA1:A.nonce+1<18446744073709551616:=by omega
 have hA2:=hA.2;refine jGq (fn:=Tryz.f169) O O O (Ob rfl) (fun R k0=>?_);refine ziq 10 O ?_;refine vjq 3 ?_;refine ziq 3 O ?_;refine zkq O O O O O O (from_s _) ?_;refine zaq 8 O ?_;refine zkq O O O O O O (yFq (w':=.tup [aW A,.int .i64 0]) (QAq t n t0 h (keyD x.pub)) (by rw[ea])) ?_;refine zaq 13 O ?_;refine yWq O O ?_;refine zaq 7 O ?_;refine zkq O O O O O O (yFq (w':=.int .i64 0) (kAq x hx) (by rw[if_pos hs])) ?_;refine yWq O O ?_;refine zaq 10 O ?_;refine zfq (w':=.bool false) O O (congrArg (fun b=>W.bool (!b)) (eqI_iff.2 (by rw[hn]))) ?_;refine zaq 3 O ?_;refine zfq (w':=.bool false) O O (congrArg W.bool (eqI_not.2 Xd)) ?_;refine zaq 8 O ?_;refine zkq O O O O O O (yFq (w':=.bool false) (full_s t Xd) (by rw[decide_eq_false Xd])) ?_;refine zaq 11 O ?_;refine zuq (A.nonce+1) O O Xm ⟨by omega,by omega⟩ ?_;refine zaq 7 O ?_;refine zkq O O O O O O (x9q t Xd hvals) ?_;refine zaq 10 O ?_
 (refine zoq rfl (kVq 6 O O O O Xl Xd O O (turn_st t n t0 (keyD x.pub) ⟨A.nonce+1,A.balance⟩ h ⟨hA1,hA2⟩ Xd) ?_);rintro tb nb tb0 hb hPb)
 refine zaq 36 O ?_;first|refine uVq O O ?_|refine zbq O O ?_
 refine zaq 4 O ?_;have hmb:=Ynq hPb.2 (show 257<=1028 by omega);rw[el] at hPb;refine qyq (α:=Nat×Tree) (fun p=>p.1<=3/\∃n1 t1,IsA p.2 n1 t1/\(∃ms,p.2.nodes=t.nodes++ms/\ms.length<=257*(p.1+1))/\stg x box l p.1 t1.all) (fun p=>[(79,.int .i64 (p.1:Int)),(6,.ptr 3 0),(11,.ptr 6 0),(12,.ptr 8 0),(77,.sl 9 0 0 3 2 none),(78,.int .i64 3)]) (fun p=>payH x box (keyD x.pub) ⟨A.nonce+1,A.balance⟩ tb p.2) (fun _=>10) (fun _=>R) (fun p=>3-p.1) (0,tb) ⟨by omega,nb,tb0,hb,hPb.2,hPb.1.trans e0.symm⟩ (y2q (nw2:=10) (Nat.zero_le _) Xd ⟨rfl,rfl,rfl,rfl,rfl,rfl,trivial⟩ rfl (qaq ⟨⟨by omega,Xn,zeq Xl⟩,⟨by omega,Xn,zeq Xl⟩,⟨by omega,Xn,zeq Xl⟩,⟨by omega,Xn,rfl⟩,⟨by omega,Xn,zeq Xl⟩,⟨by omega,Xn,rfl⟩,⟨by omega,Xn,zeq Xl⟩,⟨by omega,Xn,rfl⟩,⟨by omega,Xn,rfl⟩,trivial⟩) (by simp[payH])) (fun p hI=>?_);skip
 obtain⟨i,t'⟩:=p;obtain⟨hi,n1,t1,hT,hms,hst⟩:=hI;simp only at hi hT hms hst⊢;have hle:=ext_le hms;refine ziq 6 O ?_;refine zEq rfl (fun h1=>?_) (fun h1=>?_)
 ·skip
  skip
  rcases(show i=0\/i=1\/i=2 by omega) with rfl|rfl|rfl
  ·by_cases ho:x.amount+x.fee<=A.balance
   ·skip
    refine zgq 6 O ?_;first|refine zbq rfl (zBq O O O O O O O Xi) ?_|refine zbq rfl (zJq O O O O O O O Xd) ?_|refine zbq rfl (zzq O O O O O O Xd) ?_|refine zbq O O ?_
    refine zaq 16 O ?_
    (refine zoq rfl (yJq (ext:=[1,5,8,4,7]) (ws:=[.ptr 0 0,.ptr 1 0,.ptr 2 0,.ptr 3 0]) O O O O O (pay1_st x hx ⟨A.nonce+1,A.balance⟩ ⟨hA1,hA2⟩ (keyD x.pub) t' n1 t1 hT Xd ho) Xr Xx (by simp[pay1H]) (jvq ⟨⟨by decide,zeq Xl,_,rfl,by first|rfl|(rw[zjq Xl];rfl)⟩,⟨by decide,rfl,_,rfl,by first|rfl|(rw[zjq Xl];rfl)⟩,⟨by decide,rfl,_,rfl,by first|rfl|(rw[zjq Xl];rfl)⟩,⟨by decide,zeq Xl,_,rfl,by first|rfl|(rw[zjq Xl];rfl)⟩,⟨by decide,zeq Xl,_,rfl,by first|rfl|(rw[zjq Xl];rfl)⟩,trivial⟩) O ?_);rintro w hp1 nw1 ⟨t2,n2,t3,h2,hP2,rfl,rfl,rfl⟩)
    refine zaq 8 O ?_;first|refine ypq O O ⟨by omega,by omega⟩ ?_|refine zbq O O ?_
    refine y5q 2 O ?_;skip
    exact yDq (1,t2) ⟨by omega,n2,t3,h2,Ynq (Jjq hms hP2.2) Xd,⟨by rw[eA];exact ho,by rw[e1,<-hst];exact hP2.1⟩⟩ (by show 3-1<3-0;omega) (y2q (nw2:=10) (Nat.zero_le _) Xd ⟨rfl,rfl,rfl,rfl,rfl,rfl,trivial⟩ rfl (qaq ⟨⟨by omega,Xn,zeq Xl⟩,⟨by omega,Xn,zeq Xl⟩,⟨by omega,Xn,zeq Xl⟩,⟨by omega,Xn,rfl⟩,⟨by omega,Xn,zeq Xl⟩,⟨by omega,Xn,rfl⟩,⟨by omega,Xn,zeq Xl⟩,⟨by omega,Xn,rfl⟩,⟨by omega,Xn,rfl⟩,trivial⟩) (by simp[payH]))
   ·skip
    refine zgq 6 O ?_;first|refine zbq rfl (zBq O O O O O O O Xi) ?_|refine zbq rfl (zJq O O O O O O O Xd) ?_|refine zbq rfl (zzq O O O O O O Xd) ?_|refine zbq O O ?_
    refine zaq 16 O ?_
    (refine zoq rfl (yJq (ext:=[1,5,8,4,7]) (ws:=[.ptr 0 0,.ptr 1 0,.ptr 2 0,.ptr 3 0]) O O O O O (pay1_no x hx ⟨A.nonce+1,A.balance⟩ ⟨hA1,hA2⟩ (keyD x.pub) t' n1 t1 hT ho) Xr Xx (by simp[pay1H]) (jvq ⟨⟨by decide,zeq Xl,_,rfl,by first|rfl|(rw[zjq Xl];rfl)⟩,⟨by decide,rfl,_,rfl,by first|rfl|(rw[zjq Xl];rfl)⟩,⟨by decide,rfl,_,rfl,by first|rfl|(rw[zjq Xl];rfl)⟩,⟨by decide,zeq Xl,_,rfl,by first|rfl|(rw[zjq Xl];rfl)⟩,⟨by decide,zeq Xl,_,rfl,by first|rfl|(rw[zjq Xl];rfl)⟩,trivial⟩) O ?_);rintro w hp1 nw1 ⟨t2,n2,t3,h2,hP2,rfl,rfl,rfl⟩)
    refine zaq 7 O ?_;refine jaq Xj ?_;refine zDq 2 O ?_;refine q_goto O ?_;refine ziq 16 O ?_;refine k4q Yr ?_;refine qoq (w':=.tup [tW tb,.int .i64 150,.int .i64 0]) (.inr rfl) rfl (.pur Xl) Xl ⟨tb,nb,tb0,hb,?_,?_⟩
    ·rw[paid_150 (l:=l) (box:=box) (by rw[eA];exact ho)];exact⟨hPb.1.trans e0.symm,hmb⟩
    ·rw[paid_150 (l:=l) (box:=box) (by rw[eA];exact ho)];rfl
  ·obtain⟨ho,hst⟩:=hst;have ec:=x4q hT.toIsT x.to;rw[hst] at ec;by_cases hq:(yOq t1 x.to).balance+x.amount<18446744073709551616
   ·have hm:kuq (Zbq l x) x.to x.amount=some (setL (Zbq l x) x.to ⟨(yOq t1 x.to).nonce,(yOq t1 x.to).balance+x.amount⟩):=by unfold kuq;rw[<-ec,if_pos hq]
    refine zgq 6 O ?_;first|refine zbq rfl (zBq O O O O O O O Xi) ?_|refine zbq rfl (zJq O O O O O O O Xd) ?_|refine zbq rfl (zzq O O O O O O Xd) ?_|refine zbq O O ?_
    refine zaq 16 O ?_
    (refine zoq rfl (yJq (ext:=[8,1,7]) (ws:=[.ptr 0 0,.ptr 1 0]) O O O O O (pay2_st x t' n1 t1 hT Xd hq) Xr Xx (by simp[YZq]) (jvq ⟨⟨by decide,rfl,_,rfl,by first|rfl|(rw[zjq Xl];rfl)⟩,⟨by decide,zeq Xl,_,rfl,by first|rfl|(rw[zjq Xl];rfl)⟩,⟨by decide,zeq Xl,_,rfl,by first|rfl|(rw[zjq Xl];rfl)⟩,trivial⟩) O ?_);rintro w hp1 nw1 ⟨t2,n2,t3,h2,hP2,rfl,rfl,rfl⟩)
    refine zaq 8 O ?_;first|refine ypq O O ⟨by omega,by omega⟩ ?_|refine zbq O O ?_
    refine y5q 2 O ?_;skip
    exact yDq (2,t2) ⟨by omega,n2,t3,h2,Ynq (Jjq hms hP2.2) Xd,⟨ho,by rw[hP2.1,hst];exact hm⟩⟩ (by show 3-2<3-1;omega) (y2q (nw2:=10) (Nat.zero_le _) Xd ⟨rfl,rfl,rfl,rfl,rfl,rfl,trivial⟩ rfl (qaq ⟨⟨by omega,Xn,zeq Xl⟩,⟨by omega,Xn,zeq Xl⟩,⟨by omega,Xn,zeq Xl⟩,⟨by omega,Xn,rfl⟩,⟨by omega,Xn,zeq Xl⟩,⟨by omega,Xn,rfl⟩,⟨by omega,Xn,zeq Xl⟩,⟨by omega,Xn,rfl⟩,⟨by omega,Xn,rfl⟩,trivial⟩) (by simp[payH]))
   ·have hm:kuq (Zbq l x) x.to x.amount=none:=by unfold kuq;rw[<-ec,if_neg hq]
    refine zgq 6 O ?_;first|refine zbq rfl (zBq O O O O O O O Xi) ?_|refine zbq rfl (zJq O O O O O O O Xd) ?_|refine zbq rfl (zzq O O O O O O Xd) ?_|refine zbq O O ?_
    refine zaq 16 O ?_
    (refine zoq rfl (yJq (ext:=[8,1,7]) (ws:=[.ptr 0 0,.ptr 1 0]) O O O O O (pay2_no x hx t' n1 t1 hT Xd) Xr Xx (by simp[YZq]) (jvq ⟨⟨by decide,rfl,_,rfl,by first|rfl|(rw[zjq Xl];rfl)⟩,⟨by decide,zeq Xl,_,rfl,by first|rfl|(rw[zjq Xl];rfl)⟩,⟨by decide,zeq Xl,_,rfl,by first|rfl|(rw[zjq Xl];rfl)⟩,trivial⟩) O ?_);rintro w hp1 nw1 ⟨t2,n2,t3,h2,hP2,rfl,rfl,rfl⟩)
    refine zaq 7 O ?_;refine jaq Xj ?_;refine zDq 2 O ?_;refine q_goto O ?_;refine ziq 16 O ?_;refine k4q Yr ?_;refine qoq (w':=.tup [tW tb,.int .i64 151,.int .i64 0]) (.inr rfl) rfl (.pur Xl) Xl ⟨tb,nb,tb0,hb,?_,?_⟩
    ·rw[paid_1 ho hm];exact⟨hPb.1.trans e0.symm,hmb⟩
    ·rw[paid_1 ho hm];rfl
  ·obtain⟨ho,hst⟩:=hst;have ec:=x4q hT.toIsT box;by_cases hq:(yOq t1 box).balance+x.fee<18446744073709551616
   ·have hm:kuq t1.all box x.fee=some (setL t1.all box ⟨(yOq t1 box).nonce,(yOq t1 box).balance+x.fee⟩):=by unfold kuq;rw[<-ec,if_pos hq]
    refine zgq 6 O ?_;first|refine zbq rfl (zBq O O O O O O O Xi) ?_|refine zbq rfl (zJq O O O O O O O Xd) ?_|refine zbq rfl (zzq O O O O O O Xd) ?_|refine zbq O O ?_
    refine zaq 16 O ?_
    (refine zoq rfl (yJq (ext:=[8,2,1,7]) (ws:=[.ptr 0 0,.ptr 1 0,.ptr 2 0]) O O O O O (pay3_st x box t' n1 t1 hT Xd hq) Xr Xx (by simp[YYq]) (jvq ⟨⟨by decide,rfl,_,rfl,by first|rfl|(rw[zjq Xl];rfl)⟩,⟨by decide,zeq Xl,_,rfl,by first|rfl|(rw[zjq Xl];rfl)⟩,⟨by decide,zeq Xl,_,rfl,by first|rfl|(rw[zjq Xl];rfl)⟩,⟨by decide,zeq Xl,_,rfl,by first|rfl|(rw[zjq Xl];rfl)⟩,trivial⟩) O ?_);rintro w hp1 nw1 ⟨t2,n2,t3,h2,hP2,rfl,rfl,rfl⟩)
    refine zaq 8 O ?_;first|refine ypq O O ⟨by omega,by omega⟩ ?_|refine zbq O O ?_
    refine y5q 2 O ?_;skip
    exact yDq (3,t2) ⟨by omega,n2,t3,h2,Ynq (Jjq hms hP2.2) Xd,⟨ho,_,hst,by rw[hP2.1];exact hm⟩⟩ (by show 3-3<3-2;omega) (y2q (nw2:=10) (Nat.zero_le _) Xd ⟨rfl,rfl,rfl,rfl,rfl,rfl,trivial⟩ rfl (qaq ⟨⟨by omega,Xn,zeq Xl⟩,⟨by omega,Xn,zeq Xl⟩,⟨by omega,Xn,zeq Xl⟩,⟨by omega,Xn,rfl⟩,⟨by omega,Xn,zeq Xl⟩,⟨by omega,Xn,rfl⟩,⟨by omega,Xn,zeq Xl⟩,⟨by omega,Xn,rfl⟩,⟨by omega,Xn,rfl⟩,trivial⟩) (by simp[payH]))
   ·have hm:kuq t1.all box x.fee=none:=by unfold kuq;rw[<-ec,if_neg hq]
    refine zgq 6 O ?_;first|refine zbq rfl (zBq O O O O O O O Xi) ?_|refine zbq rfl (zJq O O O O O O O Xd) ?_|refine zbq rfl (zzq O O O O O O Xd) ?_|refine zbq O O ?_
    refine zaq 16 O ?_
    (refine zoq rfl (yJq (ext:=[8,2,1,7]) (ws:=[.ptr 0 0,.ptr 1 0,.ptr 2 0]) O O O O O (pay3_no x hx box t' n1 t1 hT Xd) Xr Xx (by simp[YYq]) (jvq ⟨⟨by decide,rfl,_,rfl,by first|rfl|(rw[zjq Xl];rfl)⟩,⟨by decide,zeq Xl,_,rfl,by first|rfl|(rw[zjq Xl];rfl)⟩,⟨by decide,zeq Xl,_,rfl,by first|rfl|(rw[zjq Xl];rfl)⟩,⟨by decide,zeq Xl,_,rfl,by first|rfl|(rw[zjq Xl];rfl)⟩,trivial⟩) O ?_);rintro w hp1 nw1 ⟨t2,n2,t3,h2,hP2,rfl,rfl,rfl⟩)
    refine zaq 7 O ?_;refine jaq Xj ?_;refine zDq 2 O ?_;refine q_goto O ?_;refine ziq 16 O ?_;refine k4q Yr ?_;refine qoq (w':=.tup [tW tb,.int .i64 151,.int .i64 0]) (.inr rfl) rfl (.pur Xl) Xl ⟨tb,nb,tb0,hb,?_,?_⟩
    ·rw[paid_2 ho hst hm];exact⟨hPb.1.trans e0.symm,hmb⟩
    ·rw[paid_2 ho hst hm];rfl
 ·have hi3:i=3:=by omega
  subst hi3;obtain⟨ho,p,hp1,hp2⟩:=hst;refine zgq 2 O ?_;refine jaq Xj ?_;refine zDq 16 O ?_;refine k4q Yr ?_;refine qoq (w':=.tup [tW t',.int .i64 0,.int .i64 0]) (.inr rfl) rfl (.pur Xl) Xl ⟨t',n1,t1,hT,?_,?_⟩
  ·rw[paid_3 ho hp1 hp2];exact⟨rfl,Ynq hms Xd⟩
  ·rw[paid_3 ho hp1 hp2];rfl
end
noncomputable def gvL(l:List Pr)(d:Depo):List Pr×Nat:=match kuq l d.to d.amount with
 |some q=>(q,0)
 |none=>(l,151)
theorem giv_gv{t:Tree}{n:Nat}{t0:T}(h:IsT t n t0)(d:Depo):givL t0 d=(gvL t0.all d).1/\givC t0 d=(gvL t0.all d).2:=by
 have e:=x4q h d.to;by_cases ho:overB t0 d
 ·have hn:¬(acL t0.all d.to).balance+d.amount<18446744073709551616:=by rw[<-e];unfold overB at ho;omega
  unfold givL givC gvL kuq;rw[if_pos ho,if_pos ho,if_neg hn];exact⟨rfl,rfl⟩
 ·have hn:(acL t0.all d.to).balance+d.amount<18446744073709551616:=by rw[<-e];unfold overB at ho;omega
  unfold givL givC gvL kuq;rw[if_neg ho,if_neg ho,if_pos hn,e];exact⟨rfl,rfl⟩
structure Rec where
 kind:UInt8
 id:Dig
 code:Nat
noncomputable def depD(d:Depo):Dig:=tagD 9 [beB 8 d.number++d.to.1++beB 8 d.amount]
noncomputable def idD(x:Tx):Dig:=tagD 5 [jKq x++x.sign.1]
noncomputable def doD:List Pr->List Depo->List Pr×List Rec
 |l,[]=>(l,[])
 |l,d::ds=>((doD (gvL l d).1 ds).1,⟨1,depD d,(gvL l d).2⟩::(doD (gvL l d).1 ds).2)
def goX(l:List Pr)(x:Tx):Prop:=x.sign=xsq x/\x.nonce=(acL l (keyD x.pub)).nonce/\x.nonce<18446744073709551615
noncomputable instance(l:List Pr)(x:Tx):Decidable (goX l x):=Classical.propDecidable _
noncomputable def doX(box:Dig):List Pr->List Tx->Option (List Pr×List Rec)
 |l,[]=>some (l,[])
 |l,x::xs=>if goX l x then(match doX box (y6q l x box).1 xs with
   |some r=>some (r.1,⟨2,idD x,(y6q l x box).2⟩::r.2)
   |none=>none) else none
theorem doD_app:∀(ds es:List Depo) (l:List Pr),doD l (ds++es)=((doD (doD l ds).1 es).1,(doD l ds).2++(doD (doD l ds).1 es).2)
 |[],es,l=>rfl
 |d::ds,es,l=>by
  show((doD (gvL l d).1 (ds++es)).1,_::(doD (gvL l d).1 (ds++es)).2)=_;rw[doD_app ds es];rfl
theorem doX_app(box:Dig):∀(xs ys:List Tx) (l:List Pr),doX box l (xs++ys)=match doX box l xs with
  |some r=>(match doX box r.1 ys with
   |some q=>some (q.1,r.2++q.2)
   |none=>none)
  |none=>none
 |[],ys,l=>by
  show doX box l ys=match doX box l ys with
   |some q=>some (q.1,[]++q.2)
   |none=>none
  cases doX box l ys<;>rfl
 | x ::xs,ys,l=>by
  by_cases h:goX l x
  ·have e1:doX box l ((x::xs)++ys)=(match doX box (y6q l x box).1 (xs++ys) with
       |some r=>some (r.1,⟨2,idD x,(y6q l x box).2⟩::r.2)
       |none=>none):=if_pos h
   have e2:doX box l (x::xs)=(match doX box (y6q l x box).1 xs with
     |some r=>some (r.1,⟨2,idD x,(y6q l x box).2⟩::r.2)
     |none=>none):=if_pos h
   rw[e1,e2,doX_app box xs ys];cases doX box (y6q l x box).1 xs with
   |none=>rfl
   |some r=>
    simp only;cases doX box r.1 ys<;>rfl
  ·have e1:doX box l ((x::xs)++ys)=none:=if_neg h;have e2:doX box l (x::xs)=none:=if_neg h;rw[e1,e2]
section
attribute [local irreducible] CoW OpW FlW Step Spec
variable {G:Nat->Option W}
structure Hdr where
 height:Int
 parent:Dig
 state:Dig
 rows:Dig
 many:Int
noncomputable def hdW(h:Hdr):W:=.agg 98 [.int .i64 h.height,dW h.parent,dW h.state,dW h.rows,.int .i64 h.many]
@[simp] theorem Z9q(h:Hdr):purW (hdW h)=true:=by simp[hdW]
theorem ent_blkv{C:Cfg}{G:Nat->Option W}{m k0:Nat}{fr:FrW}{hp:HpW}{nw:Nat}{R:Res}{b:Nat}{ty:TypeId}{w w':W}(hb:hget hp b=some (ty,w))(h:View (fun _=>none) w w'):Ent C G m k0 fr hp nw R fr (hset hp b (ty,w')) nw R:=
 ent_blk hb fun Γ v hv=>kRq ⟨fun _ h _=>h,fun _ _ _=>rfl,fun _ h=>h,fun _ _=>rfl,fun _ _ _ h=>Qa⟩ h hv
def okH(h:Hdr):Prop:=0<=h.height/\h.height<=1073741824/\0<=h.many/\h.many<=256
noncomputable instance(h:Hdr):Decidable (okH h):=Classical.propDecidable _
end
end
section
open Go.Shelf Go.RowKit Go.Lib
def joinRen:Go.Shelf.Ren:=⟨fun|14=>264|15=>280|n=>n,fun|26=>52|22=>53|3=>3|4=>4|0=>0|9=>9|20=>20|5=>5|n=>n,fun|n=>n⟩
theorem joinLays:Go.Proofs.SlLaysJ.n14 Tryz.prog joinRen:={
 mixed:=by kernel_rfl
 f14:=Tryz.func264.trans (congrArg some Xw)
 f15:=Tryz.func280.trans (congrArg some Xw)
 t0:=Tryz.underlying0
 a0:=Tryz.isAgg0
 z0:=Tryz.sizeOf0
 v0:=Tryz.zeroValue0
 t3:=Tryz.underlying3
 a3:=Tryz.isAgg3
 z3:=Tryz.sizeOf3
 v3:=Tryz.zeroValue3
 t4:=Tryz.underlying4
 a4:=Tryz.isAgg4
 z4:=Tryz.sizeOf4
 v4:=Tryz.zeroValue4
 t9:=Tryz.underlying9
 a9:=Tryz.isAgg9
 z9:=Tryz.sizeOf9
 v9:=Tryz.zeroValue9
 t20:=Tryz.underlying20
 a20:=Tryz.isAgg20
 z20:=Tryz.sizeOf20
 v20:=Tryz.zeroValue20
 t22:=Tryz.underlying53
 a22:=Tryz.isAgg53
 z22:=Tryz.sizeOf53
 v22:=Tryz.zeroValue53
 t26:=Tryz.underlying52
 a26:=Tryz.isAgg52
 z26:=Tryz.sizeOf52
 v26:=Tryz.zeroValue52
 t5:=Tryz.underlying5
 z5:=Tryz.sizeOf5
 i5:=by kernel_rfl}
theorem joinMany(b o n c:Nat)(vs:List Value)(ls:List (List UInt8))(sv:Value)(sep:List UInt8)(w:World)(hn:ls.length=n)(h2:2<=n)(hP:Lib.PartsAt w ⟨b,o,none⟩ vs ls)(hcap:n<=c)(hS:Lib.HoldsBytes w sv sep)(hn47:n<=140737488355328)(hlen:Lib.lens ls+sep.length*(n-1)<=140737488355328):
  Calls Tryz.prog 264 #[.slice (some ⟨b,o,none⟩) n c,sv] w fun e w'=>∃v',e= .returned v'/\Lib.FreshBytes w.heap.size w' v' (Lib.join ls sep)/\Below w.heap.size w w':=Any.bytes_Join_many joinLays b o n c vs ls sv sep w hn h2 hP hcap hS hn47 hlen
end
section
open Go.RowKit
section
variable {s0:World} {U:Nat} {D:Nat->Prop} {ρ:Env} {h:Heap} {w w':World}
theorem Rel.pushAt(r:Rel s0 U D ρ h w)(hU:h.next+1<=U){b:Blk}{o:Obj}{q pre cap:Nat}(hq:w.heap.size<=q)(g:Below w.heap.size w w')(hn:w'.heap[q]? =some o)(hin:InB (DD D ρ) b)(hk:KnB (ρ.add h.next q pre cap) h.next b o):
  Rel s0 U (fun i=>D i\/i=h.next) (ρ.add h.next q pre cap) (h.push b) w'/\Nxt D ρ h w (fun i=>D i\/i=h.next) (ρ.add h.next q pre cap) (h.push b) w':=by
 have hne:=r.next_new hU;have hag:Env.Agree (DD D ρ) ρ (ρ.add h.next q pre cap):=Env.add_agree hne;have hdd:∀j m,DD D ρ j m->DD (fun i=>D i\/i=h.next) (ρ.add h.next q pre cap) j m:=fun j m hj=>⟨.inl hj.1,by rw[(hag j m hj).2.2.1];exact hj.2⟩
 have hb:∀j,D j->(ρ.add h.next q pre cap).b j=ρ.b j:=fun j hj=>(hag j 0 ⟨hj,Nat.zero_le _⟩).1
 have hbn:(ρ.add h.next q pre cap).b h.next=q:=by simp[Env.add]
 have get:∀j c,(D j\/j=h.next) ->(h.push b).get j=some c->(j=h.next/\c=b)\/(D j/\h.get j=some c):=fun j c hj hc=>by
  rw[Heap.get_push] at hc;split at hc
  ·rename_i e;cases hc;exact .inl ⟨e,rfl⟩
  ·rename_i e;rcases hj with hj|hj
   ·exact .inr ⟨hj,hc⟩
   ·exact absurd hj e
 have hlt:∀j c,D j->h.get j=some c->ρ.b j<w.heap.size:=fun j c hj hc=>by
  obtain⟨o,h1,_⟩:=r.has j c hj hc;exact(Array.getElem?_eq_some_iff.1 h1).1
 have hsz:s0.heap.size<=w.heap.size:=r.base.size;refine⟨⟨fun j hj=>?_,fun j hj=>?_,fun j c hj hc=>?_,fun j c hj hc=>?_,fun j k c d hj hk' hc hd hoc hod hne'=>?_,fun j c hj hc hoc=>?_,fun j k c d hj hk' hc hd hoc hod=>?_,?_⟩,?_⟩
 ·show j<h.next+1\/_;rcases hj with hj|hj
  ·have:=r.lt j hj;omega
  ·omega
 ·have hj:h.next+1<=j:=hj;rw[Heap.get_push,if_neg Xd];exact r.wf j Xd
 ·rcases get j c hj hc with ⟨rfl,rfl⟩|⟨hj,hc⟩
  ·exact⟨o,by rw[hbn];exact hn,hk⟩
  ·obtain⟨o,h1,h2⟩:=r.has j c hj hc;exact⟨o,by rw[hb j hj,g.block _ (hlt j c hj hc)];exact h1,KnB.agree hag (m:=0) ⟨hj,Nat.zero_le _⟩ (r.clo j c hj hc) h2⟩
 ·rcases get j c hj hc with ⟨rfl,rfl⟩|⟨hj,hc⟩
  ·exact hin.mono hdd
  ·exact(r.clo j c hj hc).mono hdd
 ·rcases get j c hj hc with ⟨rfl,rfl⟩|⟨hj1,hc1⟩<;>rcases get k d hk' hd with ⟨rfl,rfl⟩|⟨hk1,hd1⟩
  ·exact absurd rfl hne'
  ·rw[hbn,hb k hk1];have:=hlt k d hk1 hd1;omega
  ·rw[hbn,hb j hj1];have:=hlt j c hj1 hc1;omega
  ·rw[hb j hj1,hb k hk1];exact r.inj j k c d hj1 hk1 hc1 hd1 hoc hod hne'
 ·rcases get j c hj hc with ⟨rfl,rfl⟩|⟨hj,hc⟩
  ·rw[hbn];omega
  ·rw[hb j hj];exact r.own j c hj hc hoc
 ·rcases get j c hj hc with ⟨rfl,rfl⟩|⟨hj1,hc1⟩<;>rcases get k d hk' hd with ⟨rfl,rfl⟩|⟨hk1,hd1⟩
  ·rw[hoc] at hod;cases hod
  ·rw[hbn,hb k hk1];have:=hlt k d hk1 hd1;omega
  ·rw[hbn,hb j hj1];have:=hlt j c hj1 hc1;omega
  ·rw[hb j hj1,hb k hk1];exact r.old j k c d hj1 hk1 hc1 hd1 hoc hod
 ·exact⟨g.os.trans r.base.os,g.tape.trans r.base.tape,g.output.trans r.base.output,Nat.le_trans hsz g.size,fun k hk=>(g.block k Xd).trans (r.base.block k hk)⟩
 ·refine⟨fun _ h=>.inl h,fun j hj=>?_,fun j hj=>?_,fun c hc _=>g.block c hc,fun j hj hn' hl=>?_,g.size,Nat.le_refl _,Nat.le_succ _,g.os,g.tape,g.output⟩
  ·rcases hj with hj|hj
   ·exact .inl hj
   ·exact .inr ⟨Nat.le_of_eq hj.symm,by show j<h.next+1;omega⟩
  ·have:j≠h.next:=by
    rcases hj with hj|hj
    ·omega
    ·have hj:h.next+1<=j:=hj;omega
   simp[Env.add,this]
  ·have hl:j<h.next+1:=hl;obtain rfl:j=h.next:=by omega
   exact .inl (by rw[hbn];exact hq)
theorem byJ_spec(r:Rel s0 U D ρ h w){v:V}{l:List UInt8}(hin:InD (DD D ρ) v)(hk:byJ h v=some l):Lib.HoldsBytes w (conc ρ v) l:=by
 unfold byJ at hk;split at hk
 ·cases hk;exact⟨none,0,rfl,fun _=>rfl,fun a h=>by cases h⟩
 ·rename_i b base off n lim;split at hk
  ·rename_i bv hv;split at hk
   ·rename_i L hL;obtain⟨g1,g2⟩:=v5q ρ hk;obtain⟨q1,_,_,_⟩:=qFq (ρ:=ρ) 50 bv off n 1 L hL;have hcells:=kWq r hin hv hL;rw[g2] at hcells;obtain rfl:n=l.length:=by omega
    exact⟨_,_,rfl,fun h=>Qa,fun a ha i x hx=>by cases ha;exact hcells i _ (by simp[hx])⟩
   ·cases hk
  ·cases hk
 ·cases hk
theorem bysJ_spec(r:Rel s0 U D ρ h w):∀{xs:List V} {ls:List (List UInt8)},InDL (DD D ρ) xs->bysJ h xs=some ls->xs.length=ls.length/\(∀(i:Nat) v l,(z8q ρ xs)[i]? =some v->ls[i]? =some l->Lib.HoldsBytes w v l)/\∀x∈xs,x.size=1/\x.leaf=true
 |[],ls,_,hk=>by cases hk;exact⟨rfl,fun i v l h=>by simp[z8q] at h,fun x hx=>by cases hx⟩
 | v ::xs,ls,hin,hk=>by
  unfold bysJ at hk;split at hk
  ·rename_i x r' hx hr;cases hk;obtain⟨h1,h2,h3⟩:=bysJ_spec r hin.2 hr;refine⟨congrArg (· +1) h1,fun i u l hu hl=>?_,fun y hy=>?_⟩
   ·cases i with
    |zero=>
     simp only[z8q,List.getElem?_cons_zero,Option.some.injEq] at hu hl;subst hu;subst hl
     exact byJ_spec r hin.1 hx
    |succ i=>
     simp only[z8q,List.getElem?_cons_succ] at hu hl;exact h2 i u l hu hl
   ·rcases List.mem_cons.1 hy with rfl|hy
    ·unfold byJ at hx;split at hx
     ·exact⟨rfl,rfl⟩
     ·exact⟨rfl,rfl⟩
     ·cases hx
    ·exact h3 y hy
  ·cases hk
theorem inl_of{D:Nat->Nat->Prop}:∀{l:List V},(∀x∈l,InD D x) ->InDL D l
 |[],_=>trivial
 |x::l,h=>⟨h x (List.mem_cons_self ..),inl_of fun y hy=>h y (List.mem_cons_of_mem _ hy)⟩
theorem Qtq(ρ:Env):∀{xs:List V},(∀x∈xs,x.size=1/\x.leaf=true) ->zKq ρ 1 xs=z8q ρ xs
 |[],_=>rfl
 |x::xs,h=>by
  have hx:=(h x Xl).2;simp only[zKq,z8q,kbq hx,Qtq ρ (xs:=xs) fun y hy=>h y (by simp[hy])];rw[y3q (by rfl)];rfl
theorem join_flat:∀ls:List (List UInt8),Lib.join ls []=ls.flatten
 |[]=>rfl
 |x::r=>by
  rw[Lib.join_cons];unfold Lib.joinTail;simp
end
theorem joinOK{C:Cfg}:KnownFn Tryz.prog C 264 joinJ:=fun vs h v h' he=>by
 unfold joinJ at he;split at he
 ·rename_i b base off n lim y;split at he
  ·rename_i bv hv hy;split at he
   ·rename_i xs hxs;split at he
    ·rename_i ls hls;split at he
     ·rename_i hb;cases he;simp only[Bool.and_eq_true] at hb;obtain⟨⟨⟨hb1,hb2⟩,hb3⟩,hb4⟩:=hb;have hb1:=Ob hb1;have hb2:=Ob hb2;have hb3:=Ob hb3;have hb4:=Ob hb4;refine⟨yKq _ _,(fnsOK 264 _ (by rfl)).2.1,fun s0 U D ρ w hU gl hin rel=>?_⟩;have hU:h.next+1<=U:=hU;have hx:=hin.1;have hyi:=hin.2.1;obtain⟨g1,g2,g3,g4⟩:=qFq (ρ:=ρ) 50 bv off n 1 xs hxs;obtain⟨_,_,_,_,_,_,_,hvin⟩:=rel.val hx.2.2.1 hv;have hxin:InDL (DD D ρ) xs:=g4 _ hvin;obtain⟨k1,k2,k3⟩:=bysJ_spec rel (inl_of (Jgq hxin)) hls;have hcells:=kWq rel hx hv hxs;rw[show zKq ρ 1 xs=z8q ρ (yiq 1 xs) by rw[<-Qtq ρ k3,j8q ρ 1 xs,vPq ρ _ (u8q 1 xs)]] at hcells;have hge:=kXq hx;have hc0:¬yCq ρ b off 1 lim=0:=by omega
      rw[if_neg hc0] at hcells;have hP:Lib.PartsAt w ⟨ρ.b b,ρ.pre b+off,none⟩ (z8q ρ (yiq 1 xs)) ls:=⟨by rw[jIq,k1],hcells,k2⟩;have hS:=byJ_spec rel hyi hy;have hfl:(yiq 1 xs).length=xs.length:=by rw[xCq,Nat.mul_one]
      have hlens:Lib.lens ls=ls.flatten.length:=by simp[Lib.lens,List.length_flatten]
      have cj:=joinMany (ρ.b b) (ρ.pre b+off) n (yCq ρ b off 1 lim) (z8q ρ (yiq 1 xs)) ls (conc ρ y) [] w Xd hb1 hP hge hS hb2 (by rw[hlens,List.length_nil,Nat.zero_mul,Nat.add_zero];exact hb4)
      have harg:(z8q ρ [.sl b base off n 1 lim,y]).toArray= #[.slice (some ⟨ρ.b b,ρ.pre b+off,none⟩) n (yCq ρ b off 1 lim),conc ρ y]:=by
       simp[z8q,conc,yIq,hc0]
      rw[harg];refine cj.mono ?_;rintro e w' ⟨v',rfl,hfresh,hbel⟩;rw[join_flat] at hfresh;clear hlens cj;generalize ls.flatten=F at hfresh hb3 hb4⊢;obtain⟨g,cap,zs,rfl,hg,hlc,hmax,hzl,hzr,hzb,hcell,hfrz⟩:=hfresh
      have hobj:∃cs ty fz,w'.heap[g]? =some (.cells cs ty fz):=by
       have:=hcell 0 Xd;simp only[World.cell?] at this;split at this
       ·rename_i cs ty fz hh;exact⟨_,_,_,hh⟩
       ·cases this
      obtain⟨cs,ty,fz,hobj⟩:=hobj
      have hcs:∀i,i<cap->cs[i]? =some (.int .u8 (zs.getD i 0)):=fun i hi=>by
       have:=hcell i hi;simpa[World.cell?,hobj] using this
      have hval:∀i (hi:i<F.length),zs.getD i 0=(F[i].toNat:Int):=fun i hi=>by
       have hz:i<zs.length:=by omega
       have h1:=congrArg (·[i]?) hzb;simp only[Go.Lib.bytesOf,List.getElem?_map,List.getElem?_take,hi,if_true,List.getElem?_eq_getElem hz,Option.map_some,List.getElem?_eq_getElem hi,Option.some.injEq] at h1;obtain⟨q1,q2⟩:=hzr zs[i] (List.getElem_mem hz);rw[<-h1];simp[List.getD,List.getElem?_eq_getElem hz];omega
      have hcells2:cs.toList=cellsV ρ (.arr F.length 1 (qeq F))++cs.toList.drop F.length:=by
       have e:cellsV ρ (.arr F.length 1 (qeq F))=F.map fun b=>Value.int .u8 b.toNat:=by
        simp only[cellsV];rw[y3q (by rw[yaq];simp[qeq]),kcq]
       rw[e];apply List.ext_getElem?;intro i;by_cases hi:i<F.length
       ·rw[List.getElem?_append_left (by simpa using hi)];have:=hcs i Xd;rw[hval i hi] at this;simpa[List.getElem?_eq_getElem hi] using this
       ·rw[List.getElem?_append_right Xt,List.getElem?_drop];congr 1
        simp;omega
      have hinv:InD (DD D ρ) (.arr F.length 1 (qeq F)):=InDL_iff.2 fun y hy=>by obtain⟨c,_,rfl⟩:=List.mem_map.1 hy;trivial
      have hag:Env.Agree (DD D ρ) ρ (ρ.add h.next g 0 cap):=Env.add_agree (rel.next_new hU)
      obtain⟨r',n'⟩:=rel.pushAt hU (q:=g) (pre:=0) (cap:=cap) (b:=.ro (.arr F.length 1 (qeq F))) hg hbel hobj hinv ⟨[],cs.toList.drop F.length,ty,fz,by
       rw[qdq hag hinv,List.nil_append,<-hcells2],by simp[Env.add],by simp[Env.add];exact hlc⟩
      refine⟨_,_,?_,r',n',by omega,Nat.le_refl _,.inr rfl,?_⟩
      ·have:¬cap=0:=by omega
       simp[conc,yIq,yCq,Env.add,this]
      ·simp[Env.add];exact hlc
     ·cases he
    ·cases he
   ·cases he
  ·cases he
 ·cases he
theorem known0OK:vUq Tryz.prog cfg:=fun f k hk=>by
 have hk:(match Nat.beq f 264 with|true=>some joinJ|false=>none)=some k:=hk;split at hk
 ·rename_i e;cases hk;have:=Nat.eq_of_beq_eq_true e;subst this;exact joinOK
 ·cases hk
section
section
variable {C:Cfg} {G:Nat->Option W} {o:Oper} {fr fr2:FrW} {hp:HpW} {nw:Nat} {R:Res} {post:W->HpW->Nat->Res->Option EvW->Prop}
theorem step_frzA(hf:subV (blkA hp) fr fr2)(h:Step C G o fr2 [] nw R fun w hp' nw' R' ev=>ev=some .gen/\post w hp' nw' R' ev):Step C G o fr hp nw R post:=fun Γ X frv hnw s f0=>by
 let Γ2:Ctx:=⟨Γ.nw,Γ.σ,fun c=>Γ.D c\/Owns Γ hp c,Γ.h⟩
 have le:Γ.Le Γ2:=⟨Nat.le_refl _,fun _ _=>rfl,fun _ h=>.inl h,fun _ _=>rfl⟩
 have q:Seen (blkA hp) Γ Γ2:=⟨fun _ h _=>h,fun _ _ _=>rfl,fun _ h=>.inl h,fun _ _=>rfl,fun b c _ h=>by
  unfold blkA at h;split at h
  ·rename_i ty c' hg;cases h;obtain⟨v,h1,h2,h3⟩:=j6q s hg;exact⟨.inr ⟨b,_,hg,rfl⟩,v,h2,h3⟩
  ·cases h⟩
 have s2:SatH C G Γ2 [] X R:=⟨s.wf,fun k ty' w hk=>by simp[hget] at hk,fun k k' x y hx=>by simp[hget] at hx,List.nodup_nil,fun d hd hX=>by
  rcases hd with h|⟨b,x,h,rfl⟩
  ·exact s.dX d h hX
  ·exact(s.own b x.1 x.2 h).2.2.1 hX,s.xlt,fun d hd=>by
  rcases hd with h|⟨b,x,h,rfl⟩
  ·exact s.dlt d h
  ·exact s.own_lt h,R.st _ _ _ _ _ s.res le.D le.val (fun _ _=>rfl) (Nat.le_refl _),s.gl.mono le⟩
 have a:Frm Γ.nw Γ hp X Γ2 [] X:=⟨fun _ _=>rfl,fun h=>h,Nat.le_refl _,fun _ _ _ _=>rfl,fun _ h=>.inl h,fun d hd=>by
  rcases hd with h|h
  ·exact .inl h
  ·exact .inr (.inl (.inl h)),fun k x hk h=>by simp[hget] at h,fun k x hk h=>by simp[hget] at h,fun _ h=>.inl h,fun _ h _ _=>h⟩
 obtain⟨n,w,hp',R',ev,v,h',Γ',X',⟨rfl,h1⟩,h2,⟨h3,h3'⟩,h4,h5,h6,h7,h8⟩:=h Γ2 X frv hnw s2 fun t w hw=>by
  obtain⟨w0,g1,g2⟩:=xRq hf t w hw;obtain⟨u,g3,g4⟩:=f0 _ _ g1;exact⟨u,g3,kRq q g2 g4⟩
 exact⟨n,w,hp',R',_,v,h',Γ',X',h1,h2,⟨h3,h3'⟩,h4,⟨h5.nw,h5.σ,fun c hc=>h5.D c (.inl hc),fun c hc=>h5.val c (.inl hc)⟩,h6,a.trans h7,h8⟩
end
attribute [local irreducible] CoW OpW FlW Step Spec
variable {G:Nat->Option W}
theorem u6q(h:Hdr):PS cfg G 114 [hdW h] (.int .i64 (if okH h then 0 else 8)):=by
 refine zNq (fn:=Tryz.f114) O O O (Ob rfl) (fun R k0=>?_);refine ziq 11 O ?_;refine qhq O O (fun h1=>?_) (fun h1=>?_)
 ·refine zaq 25 O ?_;exact zhq (.inr rfl) rfl Yc
 ·refine zaq 3 O ?_;refine qhq O O (fun h2=>?_) (fun h2=>?_)
  ·refine zaq 21 O ?_;exact zhq (.inr rfl) rfl Yc
  ·refine zaq 4 O ?_;refine qhq O O (fun h3=>?_) (fun h3=>?_)
   ·refine zaq 16 O ?_;exact zhq (.inr rfl) rfl Yc
   ·refine zaq 4 O ?_;refine yWq O O ?_;refine zaq 3 O ?_;refine zEq rfl (fun h4=>?_) (fun h4=>?_)
    ·refine zgq 7 O ?_;exact zhq (.inr rfl) rfl Yc
    ·refine zgq 8 O ?_;exact zhq (.inr rfl) rfl Yc
theorem hnumber_s(n size:Nat)(hs:1<=size)(hs8:size<=8)(hn:n<256^size)(hn2:n<9223372036854775808):PS cfg G 221 [.int .i64 (n:Int),.int .i64 (size:Int)] (bW (beB size n)):=by
 refine uSq (fn:=Tryz.f221) O O O (Ob rfl) (fun R k0=>?_);refine ziq 8 O ?_;refine zuq (n) O O Xm ⟨by omega,by omega⟩ ?_;refine zbq O O ?_
 (refine zoq rfl (qRq O O O O O O (YXq n size hs hs8 hn) ?_);rintro w hp1 nw1 ⟨rfl,rfl,rfl⟩)
 refine zaq 14 O ?_;have hp:purW (.arr (size*1) 1 (zdq (beB size n)))=true:=q8q _;exact Y3q (.inr rfl) rfl (.sl (full:=false) (c:=.arr (size*1) 1 (zdq (beB size n))) (xs:=zdq (beB size n)) (by show some (renW _ (W.arr (size*1) 1 (zdq (beB size n))))=_;rw[zjq hp]) hp (zCq Xr (by rw[zrq,qMq]) rfl) Xj)
theorem hjoin_s(ps:List (List UInt8))(f:Bool)(h2:2<=ps.length)(hn:ps.length<=140737488355328)(h1:1<=ps.flatten.length)(hb:ps.flatten.length<=140737488355328):PS cfg G 220 [.fz (ps.map bW) 1 f] (bW ps.flatten):=by
 refine zNq (fn:=Tryz.f220) O O O (Ob rfl) (fun R k0=>?_);refine ziq 8 O ?_;refine zkq O O O O O O (join_w rfl ps f h2 hn h1 hb) ?_;refine zaq 4 O ?_;exact zhq (.inr rfl) O O
def hdB(h:Hdr):List UInt8:=[beB 8 h.height.toNat,h.parent.1,h.state.1,h.rows.1,beB 4 h.many.toNat].flatten
theorem hdB_len(h:Hdr):(hdB h).length=108:=by simp[hdB,qMq,h.parent.2,h.state.2,h.rows.2]
theorem vuq(d:Dig)(i:Nat):(((zdq d.1).drop (0/1)).take 32)=zdq d.1:=by
 have h:(zdq d.1).length=32:=by rw[zrq,d.2]
 rw[show 0/1=0 from rfl,List.drop_zero,List.take_of_length_le (by rw[h];omega)]
theorem hd_sub(h:Hdr):yLq 50 (hdW h) 1 32 1=some (zdq h.parent.1)/\yLq 50 (hdW h) 33 32 1=some (zdq h.state.1)/\yLq 50 (hdW h) 65 32 1=some (zdq h.rows.1):=
 ⟨congrArg some (vuq h.parent 0),congrArg some (vuq h.state 0),congrArg some (vuq h.rows 0)⟩
theorem hbytes_no(h:Hdr)(hh:¬okH h):PS cfg G 163 [hdW h] (.tup [.nils,.int .i64 8]):=by
 refine zNq (fn:=Tryz.f163) O O O (Ob rfl) (fun R k0=>?_);refine ziq 11 O ?_;refine zkq O O O O O O (yFq (w':=.int .i64 8) (u6q h) (by rw[if_neg hh])) ?_;refine zaq 19 O ?_;exact zhq (.inr rfl) O O
theorem hbytes_s(h:Hdr)(hh:okH h):PS cfg G 163 [hdW h] (.tup [bW (hdB h),.int .i64 0]):=by
 obtain⟨h1,h2,h3,h4⟩:=hh;obtain⟨a,ha⟩:∃a:Nat,h.height=a:=⟨h.height.toNat,by omega⟩
 obtain⟨m,hm⟩:∃m:Nat,h.many=m:=⟨h.many.toNat,by omega⟩
 have ea:h.height.toNat=a:=by omega
 have em:h.many.toNat=m:=by omega
 have hl:=hdB_len h;have c1:=hnumber_s (G:=G) a 8 Xd Xd (by show a<18446744073709551616;omega) Xd;have c2:=hnumber_s (G:=G) m 4 Xd Xd (by show m<4294967296;omega) Xd;rw[<-ha] at c1;rw[<-hm] at c2;rw[<-ea] at c1;rw[<-em] at c2;have hj:=hjoin_s (G:=G) [beB 8 h.height.toNat,h.parent.1,h.state.1,h.rows.1,beB 4 h.many.toNat] false Xl Xl Yu Yu;rw[show [beB 8 h.height.toNat,h.parent.1,h.state.1,h.rows.1,beB 4 h.many.toNat].flatten=hdB h from rfl] at hj;refine zNq (fn:=Tryz.f163) O O O (Ob rfl) (fun R k0=>?_);refine ziq 11 O ?_;refine zkq O O O O O O (yFq (w':=.int .i64 0) (u6q h) (by rw[if_pos ⟨h1,h2,h3,h4⟩])) ?_;refine zaq 16 O ?_;refine qJq O O O O O O c1 ?_;refine zsq 8 O ?_;refine qJq O O O O O O c2 ?_;refine ySq O O ?_;refine yjq rfl (step_frzA (fr2:=[(22,.fz ([beB 8 h.height.toNat,h.parent.1,h.state.1,h.rows.1,beB 4 h.many.toNat].map bW) 1 false)]) ⟨⟨_,rfl,(.sl2 (full:=false) rfl (.arr (.cons (.pur Xl) (.cons (.sl (full:=false) (c:=hdW h) (xs:=zdq h.parent.1) rfl Xl (hd_sub h).1 Xj) (.cons (.sl (full:=false) (c:=hdW h) (xs:=zdq h.state.1) rfl Xl (hd_sub h).2.1 Xj) (.cons (.sl (full:=false) (c:=hdW h) (xs:=zdq h.rows.1) rfl Xl (hd_sub h).2.2 Xj) (.cons (.pur Xl) .nil)))))) rfl Xj)⟩,trivial⟩ (step_ps O O O O O hj Xl Xl ⟨rfl,by first|rfl|kernel_rfl,?_⟩));refine zsq 5 O ?_;exact zhq (.inr rfl) O O
noncomputable def hashD(h:Hdr):Dig:=tagD 6 [hdB h]
theorem hhash_no(h:Hdr)(hh:¬okH h):PS cfg G 91 [hdW h] (.tup [dW joq,.int .i64 8]):=by
 refine zNq (fn:=Tryz.f91) O O O (Ob rfl) (fun R k0=>?_);refine ziq 10 O ?_;refine zkq O O O O O O (hbytes_no h hh) ?_;refine zaq 17 O ?_;refine zfq O O xeq ?_;refine zaq 7 O ?_;exact zhq (.inr rfl) O O
theorem Q7q(h:Hdr)(hh:okH h):PS cfg glK 91 [hdW h] (.tup [dW (hashD h),.int .i64 0]):=by
 have hl:=hdB_len h;refine zNq (fn:=Tryz.f91) O O O (Ob rfl) (fun R k0=>?_);refine ziq 10 O ?_;refine zkq O O O O O O (hbytes_s h hh) ?_;refine zaq 21 O ?_;refine ZZq O O O O O (by(repeat (first|exact .nil|refine .cons ?_ ?_|(refine .sl O ?_ rfl Xj;first|rfl|(focus (simp;done)))|(refine qBq O ?_ rfl;first|rfl|(focus (simp;done)))|(refine .pur ?_;first|rfl|(focus (simp;done)))))) (jNq 6 [hdB h] false Xl (by simp[hl])) Xo Xo ?_;refine zaq 5 O ?_;exact zhq (.inr rfl) O O
end
section
attribute [local irreducible] CoW OpW FlW Step Spec
variable {G:Nat->Option W}
theorem dep_sub(d:Depo):yLq 50 (pdW d) 1 32 1=some (zdq d.to.1):=congrArg some (vuq d.to 0)
theorem sign_sub(x:Tx):yLq 50 (txW x) 67 32 1=some (zdq x.sign.1):=congrArg some (vuq x.sign 0)
def depB(d:Depo):List UInt8:=beB 8 d.number++d.to.1++beB 8 d.amount
theorem depB_len(d:Depo):(depB d).length=48:=by simp[depB,qMq,d.to.2]
theorem rdepo_s(d:Depo)(h1:d.number<18446744073709551616)(h2:d.amount<18446744073709551616):PS cfg glK 107 [pdW d] (dW (depD d)):=by
 have l1:(zdq (beB 8 d.number)).length=8:=by rw[zrq,qMq]
 have l2:(zdq d.to.1).length=32:=by rw[zrq,d.to.2]
 have l3:(zdq (beB 8 d.amount)).length=8:=by rw[zrq,qMq]
 have eb:zdq (depB d)=(zdq (beB 8 d.number)++zdq d.to.1)++zdq (beB 8 d.amount):=by simp[depB,zdq]
 have hl:=depB_len d;refine zNq (fn:=Tryz.f107) O O O (Ob rfl) (fun R k0=>?_);refine ziq 10 O ?_
 ((refine zoq rfl (qRq O O O O O O (YXq _ 8 Xd Xd Qo) ?_);rintro w hp1 nw1 ⟨rfl,rfl,rfl⟩))
 refine zaq 11 O ?_
 ((refine zoq rfl (qRq O O O O O O (YXq _ 8 Xd Xd Qo) ?_);rintro w hp1 nw1 ⟨rfl,rfl,rfl⟩))
 refine zaq 12 O ?_;refine zwq rfl (quq O O (qNq (k:=ti5) (len:=8) (news:=zdq d.to.1) (olds:=zdq (beB 8 d.number)) O O O O (jrq O O O (dep_sub d)) (by intro h;rw[h] at l2;cases l2) Qi Qi rfl (by show 8*1<0+(8+_)*1;rw[l2];decide) rfl (zCq Xr l1.symm rfl))) ?_;refine zbq O O (zwq rfl (quq O O (qNq (k:=ti5) (len:=8+(zdq d.to.1).length) (news:=zdq (beB 8 d.amount)) (olds:=zdq (beB 8 d.number)++zdq d.to.1) O O O O (jrq O O O (zCq Xr l3.symm rfl)) (by intro h;rw[h] at l3;cases l3) (by rw[l2,l3];decide) (by rw[l2,l3];decide) rfl (by show(8+_)*1<0+(_+_)*1;rw[l2,l3];decide) rfl (zCq Xr (by rw[List.length_append,l1]) rfl))) ?_);refine zwq O O ?_;refine ZZq O O O O O (.cons (.pur rfl) (.cons (.sl2 (full:=false) rfl (.arr (.cons (.sl (full:=false) (xs:=zdq (depB d)) rfl (show purL ((zdq (beB 8 d.number)++zdq d.to.1)++zdq (beB 8 d.amount))=true by rw[<-eb];simp) Yw Xj) .nil)) rfl Xj) .nil)) (jNq 9 [depB d] false Xl (by simp[hl])) Xo Xo ?_;refine zaq 4 O ?_;exact zhq (.inr rfl) O O
noncomputable def recW(r:Rec):W:=.agg 34 [.int .u8 (.ofNat r.kind.toNat),dW r.id,.int .i64 (r.code:Int)]
@[simp] theorem uNq(r:Rec):purW (recW r)=true:=by simp[recW]
def okR(r:Rec):Prop:=(r.kind=1\/r.kind=2)/\(r.code=0\/r.code=151\/(r.kind=2/\r.code=150))
theorem rcheck_s(r:Rec)(h:okR r):PS cfg G 108 [recW r] (.int .i64 0):=by
 obtain⟨k,d,c⟩:=r;obtain⟨hk,hc⟩:=h;simp only at hk hc;rcases hk with rfl|rfl
 ·have hc:c=0\/c=151:=by
   rcases hc with h|h|⟨h,_⟩
   ·exact .inl h
   ·exact .inr h
   ·exact absurd h Xr
  rcases hc with rfl|rfl
  ·skip
   refine zNq (fn:=Tryz.f108) O O O (Ob rfl) (fun R k0=>?_);refine ziq 27 O ?_;refine zfq (w':=.bool false) O O (congrArg W.bool Xg) ?_;refine zaq 8 O ?_;refine zfq (w':=.bool true) O O (congrArg W.bool Xg) ?_;refine zaq 16 O ?_;refine zfq (w':=.bool true) O O (congrArg W.bool Xg) ?_;refine zaq 28 O ?_;exact zhq (.inr rfl) O O
  ·skip
   refine zNq (fn:=Tryz.f108) O O O (Ob rfl) (fun R k0=>?_);refine ziq 27 O ?_;refine zfq (w':=.bool false) O O (congrArg W.bool Xg) ?_;refine zaq 8 O ?_;refine zfq (w':=.bool true) O O (congrArg W.bool Xg) ?_;refine zaq 16 O ?_;refine zfq (w':=.bool false) O O (congrArg W.bool Xg) ?_;refine zaq 4 O ?_;refine zfq (w':=.bool true) O O (congrArg W.bool Xg) ?_;refine zaq 23 O ?_;exact zhq (.inr rfl) O O
 ·rcases hc with rfl|rfl|⟨_,rfl⟩
  ·skip
   refine zNq (fn:=Tryz.f108) O O O (Ob rfl) (fun R k0=>?_);refine ziq 27 O ?_;refine zfq (w':=.bool true) O O (congrArg W.bool Xg) ?_;refine zaq 12 O ?_;refine zfq (w':=.bool false) O O (congrArg W.bool Xg) ?_;refine zaq 10 O ?_;refine zfq (w':=.bool true) O O (congrArg W.bool Xg) ?_;refine zaq 28 O ?_;exact zhq (.inr rfl) O O
  ·skip
   refine zNq (fn:=Tryz.f108) O O O (Ob rfl) (fun R k0=>?_);refine ziq 27 O ?_;refine zfq (w':=.bool true) O O (congrArg W.bool Xg) ?_;refine zaq 12 O ?_;refine zfq (w':=.bool false) O O (congrArg W.bool Xg) ?_;refine zaq 10 O ?_;refine zfq (w':=.bool false) O O (congrArg W.bool Xg) ?_;refine zaq 4 O ?_;refine zfq (w':=.bool true) O O (congrArg W.bool Xg) ?_;refine zaq 23 O ?_;exact zhq (.inr rfl) O O
  ·skip
   refine zNq (fn:=Tryz.f108) O O O (Ob rfl) (fun R k0=>?_);refine ziq 27 O ?_;refine zfq (w':=.bool true) O O (congrArg W.bool Xg) ?_;refine zaq 12 O ?_;refine zfq (w':=.bool true) O O (congrArg W.bool Xg) ?_;refine zaq 39 O ?_;exact zhq (.inr rfl) O O
def recB(r:Rec):List UInt8:=([r.kind]++r.id.1)++beB 2 r.code
theorem recB_len(r:Rec):(recB r).length=35:=by simp[recB,qMq,r.id.2]
theorem rec_sub(r:Rec):yLq 50 (recW r) 1 32 1=some (zdq r.id.1):=congrArg some (vuq r.id 0)
theorem okR.code{r:Rec}(h:okR r):r.code<65536:=by
 rcases h.2 with h|h|⟨_,h⟩<;>omega
theorem rbytes_s(r:Rec)(h:okR r):PS cfg G 28 [recW r] (.tup [bW (recB r),.int .i64 0]):=by
 have hc:=h.code;have l1:(zdq [r.kind]).length=1:=by rw[zrq];rfl
 have l2:(zdq r.id.1).length=32:=by rw[zrq,r.id.2]
 have l3:(zdq (beB 2 r.code)).length=2:=by rw[zrq,qMq]
 have eb:zdq (recB r)=(zdq [r.kind]++zdq r.id.1)++zdq (beB 2 r.code):=by simp[recB,zdq]
 refine uSq (fn:=Tryz.f28) O O O (Ob rfl) (fun R k0=>?_);refine ziq 11 O ?_;refine zkq O O O O O O (rcheck_s r h) ?_;refine zaq 6 O ?_;refine zfq (w':=.bool false) O O (congrArg W.bool Xg) ?_;refine zaq 9 O ?_;refine zuq (r.code) O O Xm ⟨by omega,by omega⟩ ?_;first|((refine zoq rfl (qRq O O O O O O (YXq _ 2 Xd Xd (by show _<65536;omega)) ?_);rintro w hp1 nw1 ⟨rfl,rfl,rfl⟩))|((refine zoq rfl (qRq O O O O O O (YXq _ 8 Xd Xd Qo) ?_);rintro w hp1 nw1 ⟨rfl,rfl,rfl⟩))
 refine zaq 14 O ?_;refine y1q rfl (quq O O (qNq (k:=ti5) (len:=1) (news:=zdq r.id.1) (olds:=zdq [r.kind]) O O O O (jrq O O O (rec_sub r)) (by intro h;rw[h] at l2;cases l2) Qi Qi rfl (by show 1*1<0+(1+_)*1;rw[l2];decide) rfl (zCq Xr l1.symm rfl))) Xu ?_;refine zcq O O ?_;refine y1q rfl (quq O O (qNq (k:=ti5) (len:=1+(zdq r.id.1).length) (news:=zdq (beB 2 r.code)) (olds:=zdq [r.kind]++zdq r.id.1) O O O O (jrq O O O (zCq Xr l3.symm rfl)) (by intro h;rw[h] at l3;cases l3) (by rw[l2,l3];decide) (by rw[l2,l3];decide) rfl (by show(1+_)*1<0+(_+_)*1;rw[l2,l3];decide) rfl (zCq Xr (by rw[List.length_append,l1]) rfl))) Xu ?_;refine zsq 5 O ?_;exact Y3q (.inr rfl) rfl (.tup (.cons (.sl (full:=false) (xs:=zdq (recB r)) rfl (show purL ((zdq [r.kind]++zdq r.id.1)++zdq (beB 2 r.code))=true by rw[<-eb];simp) Yw Xj) (.cons (.pur rfl) .nil)))
def txB(x:Tx):List UInt8:=jKq x++x.sign.1
theorem txB_len(x:Tx):(txB x).length=120:=by rw[txB,List.length_append,Zxq,x.sign.2]
theorem txbytes_s(x:Tx)(hx:x.ok):PS cfg G 233 [txW x] (bW (txB x)):=by
 have hb:=Zxq x;have l1:(zdq (jKq x)).length=88:=by rw[zrq,hb]
 have l2:(zdq x.sign.1).length=32:=by rw[zrq,x.sign.2]
 have hne:zdq (jKq x)≠[]:=fun h=>by rw[h] at l1;cases l1
 have eb:zdq (txB x)=zdq (jKq x)++zdq x.sign.1:=by simp[txB,zdq]
 refine uSq (fn:=Tryz.f233) O O O (Ob rfl) (fun R k0=>?_);refine ziq 9 O ?_
 (refine yjq rfl (step_pl O O O O O Xl (bodyL_s x hx) Xl ?_);rw[vHq hne,vIq hne];refine⟨by first|rfl|kernel_rfl,?_⟩)
 refine zsq 2 O ?_;refine y1q rfl (quq O O (qNq (k:=ti5) (len:=(zdq (jKq x)).length) (news:=zdq x.sign.1) (olds:=zdq (jKq x)) O O O O (jrq O O O (sign_sub x)) (by intro h;rw[h] at l2;cases l2) (by rw[l1,l2];decide) (by rw[l1,l2];decide) rfl (by show _*1<0+(_+_)*1;rw[l1,l2];decide) rfl (zCq Xr O O))) Xu ?_;refine zsq 4 O ?_;exact Y3q (.inr rfl) rfl (.sl (full:=false) (xs:=zdq (txB x)) rfl (show purL (zdq (jKq x)++zdq x.sign.1)=true by rw[<-eb];simp) (by rw[eb,l1,l2];exact zCq Xr (by simp[l1,l2]) rfl) Xj)
theorem txid_s(x:Tx)(hx:x.ok):PS cfg glK 170 [txW x] (dW (idD x)):=by
 have hl:=txB_len x;refine zNq (fn:=Tryz.f170) O O O (Ob rfl) (fun R k0=>?_);refine ziq 9 O ?_;refine zkq O O O O O O (txbytes_s x hx) ?_;refine zwq O O ?_;first|refine ZZq O O O O O (by(repeat (first|exact .nil|refine .cons ?_ ?_|(refine .sl O ?_ rfl Xj;first|rfl|(focus (simp;done)))|(refine qBq O ?_ rfl;first|rfl|(focus (simp;done)))|(refine .pur ?_;first|rfl|(focus (simp;done)))))) (jNq 5 [txB x] false Xl (by simp[hl])) Xo Xo ?_|refine ZZq O O O O O (.cons (.pur rfl) (.cons (.sl2 (full:=false) rfl (.arr (.cons (.sl (full:=false) (xs:=zdq (depB d)) rfl (show purL ((zdq (beB 8 d.number)++zdq d.to.1)++zdq (beB 8 d.amount))=true by rw[<-eb];simp) Yw Xj) .nil)) rfl Xj) .nil)) (jNq 9 [depB d] false Xl (by simp[hl])) Xo Xo ?_
 refine zaq 4 O ?_;exact zhq (.inr rfl) O O
end
section
attribute [local irreducible] CoW OpW FlW Step Spec
noncomputable def sumD:T->Dig
 |.nil=>tagD 0 []
 |.leaf k v=>tagD 1 [k.1,v]
 |.fork l r=>tagD 2 [(sumD l).1,(sumD r).1]
def ShortT(t:T):Prop:=∀p∈t.all,p.2.length<1000000
theorem ok_len:∀{t:T} {d:Nat} {b:Dig},t.ok d b=true->(t.isFork=true->2<=t.all.length)/\(t.non=true->1<=t.all.length)
 |.nil,_,_,_=>⟨fun h=>Qa,fun h=>Qa⟩
 |.leaf k v,_,_,_=>⟨fun h=>Qa,fun _=>by simp[T.all]⟩
 |.fork l r,d,b,h=>by
  obtain⟨_,h1,h2,h3⟩:=ok_fork.1 h;obtain⟨l1,l2⟩:=ok_len h1;obtain⟨r1,r2⟩:=ok_len h2
  have key:2<=l.all.length+r.all.length:=by
   unfold T.two at h3;rcases Bool.or_eq_true_iff.1 h3 with h3|h3
   ·rcases Bool.or_eq_true_iff.1 h3 with h3|h3
    ·have:=l1 h3;omega
    ·have:=r1 h3;omega
   ·obtain⟨q1,q2⟩:=Bool.and_eq_true_iff.1 h3;have:=l2 q1;have:=r2 q2;omega
  have e:(T.fork l r).all.length=l.all.length+r.all.length:=by simp[T.all]
  exact⟨fun _=>by omega,fun _=>by omega⟩
theorem two_len{l r:T}{d d':Nat}{b b':Dig}(h1:l.ok d b=true)(h2:r.ok d' b'=true)(h3:T.two l r=true):2<=l.all.length+r.all.length:=by
 obtain⟨l1,l2⟩:=ok_len h1;obtain⟨r1,r2⟩:=ok_len h2;unfold T.two at h3;rcases Bool.or_eq_true_iff.1 h3 with h3|h3
 ·rcases Bool.or_eq_true_iff.1 h3 with h3|h3
  ·have:=l1 h3;omega
  ·have:=r1 h3;omega
 ·obtain⟨q1,q2⟩:=Bool.and_eq_true_iff.1 h3;have:=l2 q1;have:=r2 q2;omega
theorem node_sub(x:Node):yLq 50 (nW x) 1 32 1=some (zdq x.key.1):=by
 have h:(zdq x.key.1).length=32:=by rw[zrq,x.key.2]
 show some (((zdq x.key.1).drop (0/1)).take 32)=_;rw[show 0/1=0 from rfl,List.drop_zero,List.take_of_length_le (by rw[h];omega)]
theorem vtq:PS cfg glK 106 [] (dW (tagD 0 [])):=by
 refine zNq (fn:=Tryz.f106) O O O (Ob rfl) (fun R k0=>?_);refine ziq 7 O ?_;refine ZZq O O O O O (.cons (.pur rfl) (.cons .nilfz .nil)) (jNq 0 [] false Xl Xl) Xo Xo ?_;refine zaq 4 O ?_;exact zhq (.inr rfl) O O
theorem tsum_s(t0:Tree)(hb:t0.nodes.length<=4611686018427387903):∀(t:T) (n:Nat),Rep t0.nodes n t->ShortT t->PS cfg glK 111 [tW t0,.int .i64 (n:Int)] (dW (sumD t)):=by
 intro t;induction t with
 |nil=>
  intro n hr hs;obtain rfl:n=0:=by cases hr;rfl
  refine zNq (fn:=Tryz.f111) O O O (Ob rfl) (fun R k0=>?_);refine ziq 13 O ?_;refine zEq rfl (fun h1=>?_) (fun h1=>?_)
  ·refine zgq 2 O ?_;refine zkq O O O O O O (vtq) ?_;refine zaq 5 O ?_;exact zhq (.inr rfl) O O
  ·exfalso;omega
 |leaf k v=>
  intro n hr hs;have hle:=hr.le;have hv:v.length<1000000:=hs (k,v) (by simp[T.all]);cases hr with
  |leaf h=>
  rename_i n l r;refine zNq (fn:=Tryz.f111) O O O (Ob rfl) (fun R k0=>?_);refine ziq 13 O ?_;refine zEq rfl (fun h1=>?_) (fun h1=>?_)
  ·exfalso;omega
  ·refine zgq 7 O ?_;refine zuq (n) O O Xm ⟨by omega,by omega⟩ ?_;refine zbq rfl (zBq (i:=n) O O O O O O O (z9q nW h)) ?_;refine zaq 20 O ?_;first|refine fl_lk O O O O O (.cons (.pur rfl) (.cons (.sl2 (full:=false) rfl (.arr (.cons (.sl (full:=false) (c:=nW ⟨true,k,v,l,r⟩) (xs:=zdq k.1) rfl Xl (node_sub _) Xj) (.cons (.pur Xl) .nil))) rfl Xj) .nil)) (jNq 1 [k.1,v] false Xl (by simp[k.2,hv])) Xo Xo Xu ?_|refine fl_lk O O O O O (.cons (.pur rfl) (.cons .nilfz .nil)) (jNq 0 [] false Xl Xl) Xo Xo Xu ?_
   refine zsq 5 O ?_;exact zhq (.inr rfl) O O
 |fork tl tr ihL ihR=>
  intro n hr hs;have hle:=hr.le;cases hr with
  |fork h hl0 hr0 hL hR=>
  rename_i n l r k v;have sL:ShortT tl:=fun p hp=>hs p (by simp[T.all,hp])
  have sR:ShortT tr:=fun p hp=>hs p (by simp[T.all,hp])
  refine zNq (fn:=Tryz.f111) O O O (Ob rfl) (fun R k0=>?_);refine ziq 13 O ?_;refine zEq rfl (fun h1=>?_) (fun h1=>?_)
  ·exfalso;omega
  ·refine zgq 7 O ?_;refine zuq (n) O O Xm ⟨by omega,by omega⟩ ?_;refine zbq rfl (zBq (i:=n) O O O O O O O (z9q nW h)) ?_;refine zaq 20 O ?_;refine qJq O O O O O O (ihL l hL sL) ?_;refine zsq 3 O ?_;refine qJq O O O O O O (ihR r hR sR) ?_;refine zsq 11 O ?_;refine fl_lk O O O O O (.cons (.pur rfl) (.cons (.sl2 (full:=false) rfl (.arr (.cons (.sl (full:=false) (xs:=zdq (sumD tl).1) rfl Xl (zCq Xr (by simp[zrq,(sumD tl).2]) rfl) Xj) (.cons (.sl (full:=false) (xs:=zdq (sumD tr).1) rfl Xl (zCq Xr (by simp[zrq,(sumD tr).2]) rfl) Xj) .nil))) rfl Xj) .nil)) (jNq 2 [(sumD tl).1,(sumD tr).1] false Xl (by simp[(sumD tl).2,(sumD tr).2])) Xo Xo Xu ?_;refine zsq 4 O ?_;exact zhq (.inr rfl) O O
theorem tsum_ok(t:Tree)(n:Nat)(t0:T)(h:IsT t n t0):PS cfg glK 29 [tW t] (.tup [dW (sumD t0),.int .i64 0]):=by
 have hs:ShortT t0:=fun p hp=>by have:=(h.val p hp).2;omega
 have hlen:=h.len;refine zNq (fn:=Tryz.f29) O O O (Ob rfl) (fun R k0=>?_);refine ziq 11 O ?_;first|refine zkq O O O O O O (yFq (qpq t Xd) (by rw[if_pos h.may])) ?_|refine zkq O O O O O O (qpq _ Xd) ?_
 refine zaq 17 O ?_;refine zkq O O O O O (by rw[h.root];rfl) (tsum_s t Xd t0 n h.rep hs) ?_;refine zaq 5 O ?_;exact zhq (.inr rfl) O O
end
section
attribute [local irreducible] CoW OpW FlW Step Spec
variable {G:Nat->Option W}
def qrq(n:Nat):Nat:=2^(lenM (n-1) -1)
theorem Jeq{n:Nat}(h2:2<=n)(h:n<=256):1<=lenM (n-1)/\lenM (n-1)<=8/\1<=qrq n/\qrq n<n:=by
 have key:∀n,n<=256->2<=n->1<=lenM (n-1)/\lenM (n-1)<=8/\1<=qrq n/\qrq n<n:=by decide+kernel
 exact key n h h2
theorem len64_s(x:Nat)(hx:x<=255):PS cfg G 291 [.int .u64 (x:Int)] (.int .i64 (lenM x:Nat)):=by
 have hl:=Q6q x hx;have e:((UInt8.ofNat (lenM x)).toNat:Int)=(lenM x:Nat):=by congr 1;simp;omega
 refine zNq (fn:=Tryz.f291) O O O (Ob rfl) (fun R k0=>?_);refine ziq 12 O ?_;refine zEq rfl (fun h1=>?_) (fun h1=>?_)
 ·exfalso;omega
 refine zgq 9 O ?_;refine zEq rfl (fun h2=>?_) (fun h2=>?_)
 ·exfalso;omega
 refine zgq 9 O ?_;refine zEq rfl (fun h3=>?_) (fun h3=>?_)
 ·exfalso;omega
 refine zgq 6 O ?_;refine zuq (x) O O Xm ⟨by omega,by omega⟩ ?_;refine zbq rfl (ix_str O O O O O (len_tabW _ (by decide+kernel) x hx)) ?_;refine zuq (lenM x) O O e ⟨by omega,by omega⟩ ?_;refine zuq (lenM x) O O Xm ⟨by omega,by omega⟩ ?_;refine zaq 4 O ?_;exact zhq (.inr rfl) O O
theorem len_s(x:Nat)(hx:x<=255):PS cfg G 275 [.int .u64 (x:Int)] (.int .i64 (lenM x:Nat)):=by
 refine zNq (fn:=Tryz.f275) O O O (Ob rfl) (fun R k0=>?_);refine ziq 12 O ?_;refine zkq O O O O O O (len64_s _ Xd) ?_;refine zaq 4 O ?_;exact zhq (.inr rfl) O O
theorem front_s(n:Nat)(h2:2<=n)(h:n<=256):PS cfg G 252 [.int .i64 (n:Int)] (.int .i64 (qrq n:Nat)):=by
 obtain⟨k1,k2,k3,k4⟩:=Jeq h2 h;refine zNq (fn:=Tryz.f252) O O O (Ob rfl) (fun R k0=>?_);refine ziq 8 O ?_;refine zuq (n-1) O O Xm ⟨by omega,by omega⟩ ?_;refine zuq (n-1) O O Xm ⟨by omega,by omega⟩ ?_;refine zkq O O O O O O (len_s (n-1) Xd) ?_;refine zuq (lenM (n-1) -1) O O Xm ⟨by omega,by omega⟩ ?_;refine zfq (w':=.int .i64 (qrq n:Nat)) O O (by unfold qrq;generalize lenM (n-1)=L at k1 k2;rcases(show L=1\/L=2\/L=3\/L=4\/L=5\/L=6\/L=7\/L=8 by omega) with h|h|h|h|h|h|h|h<;>(subst h;rfl)) ?_;refine zaq 4 O ?_;exact zhq (.inr rfl) O O
theorem halves_s(l:List W)(f:Bool)(hl:purL l=true):PS cfg G 190 [.fz l 1 f] (.fn 251 [] [.fel (.fz l 1 f)]):=by
 have hp:purW (.fz l 1 f)=true:=hl;refine zNq (fn:=Tryz.f190) O O O (Ob rfl) (fun R k0=>?_);refine ziq 13 O ?_;exact qwq (fr2:=[(2,_)]) (.inr rfl) ⟨⟨_,rfl,.fn .nil (.cons (qBq rfl hp rfl) .nil)⟩,trivial⟩ O O
noncomputable def encH(p:List (List UInt8)×Bool):List W:=[.fz (p.1.map bW) 1 p.2]
theorem encH_ok{l:List (List (List UInt8)×Bool)}:∀y∈l,purL (encH y)=true/\(encH y).length=1:=fun y _=>⟨by simp[encH,purL,purW],rfl⟩
theorem halves_it(ps:List (List UInt8))(f:Bool)(h2:2<=ps.length)(h:ps.length<=256):qDq cfg G 251 [.fel (.fz (ps.map bW) 1 f)] ([(ps.take (qrq ps.length),false),(ps.drop (qrq ps.length),f)].map encH):=by
 obtain⟨k1,k2,k3,k4⟩:=Jeq h2 h;have e:(ps.map bW).length=ps.length:=List.length_map _
 have b1:Nat.beq (qrq ps.length) (ps.map bW).length=false:=by
  rw[e];cases q:Nat.beq (qrq ps.length) ps.length with
  |true=>have:=Nat.eq_of_beq_eq_true q;omega
  |false=>rfl
 refine xyq (fn:=Tryz.f251) O O O (Ob rfl) (fun L E R hy k0=>?_);refine ziq 3 O ?_;refine zfq (w':=.int .i64 (ps.length:Int)) O O Xv ?_;refine zkq O O O O O O (front_s ps.length h2 h) ?_;refine zaq 8 O ?_;refine zbq rfl (cut_fz (ys:=(ps.take (qrq ps.length)).map bW) (l:=0) (h:=qrq ps.length) (g:=false) O O O O O O O (Nat.zero_le _) Xd (by rw[List.drop_zero,Nat.sub_zero,List.map_take]) (by rw[b1,Bool.and_false])) ?_;refine zoq rfl (qQq O O O (hy) (fun b R1 hb=>?_));refine zaq 2 O ?_;refine zEq rfl (fun h1=>?_) (fun h1=>?_)
 ·cases b with
  |false=>cases h1
  |true=>
   refine ziq 4 O ?_;refine zbq rfl (cut_fz (ys:=(ps.drop (qrq ps.length)).map bW) (l:=qrq ps.length) (h:=(ps.map bW).length) (g:=f) O O O O O O O Xd (Nat.le_refl _) (by rw[<-List.map_drop,List.take_of_length_le (by rw[List.length_map,List.length_drop];omega)]) (by rw[Nat.beq_refl,Bool.and_true])) ?_;refine zoq rfl (qQq O O O (hb) (fun b R1 hb=>?_));refine zYq ?_;exact knq (.inl rfl) rfl (yl_same (l:=[]) Yh)
 ·cases b with
  |true=>exact absurd rfl h1
  |false=>
   refine ziq 1 O ?_;exact knq (.inl rfl) rfl hb
theorem rlist1_s(p:List UInt8)(hp:p.length<=4096):PS cfg G 189 [bW p] (.bool false):=by
 have e:(zdq p).length=p.length:=zrq p;refine zNq (fn:=Tryz.f189) O O O (Ob rfl) (fun R k0=>?_);refine ziq 8 O ?_;refine zfq (w':=.int .i64 (p.length:Int)) O O Xv ?_;refine zfq (w':=.bool false) O O (congrArg W.bool (ltI_not.2 Xd)) ?_;refine zaq 4 O ?_;exact zhq (.inr rfl) O O
theorem rindex_s(ps:List (List UInt8))(f:Bool)(hn:ps.length<=256)(hp:∀p∈ps,p.length<=4096):PS cfg G 250 [.fz (ps.map bW) 1 f,.fn 189 [] []] (.int .i64 (-1)):=by
 have e:(ps.map bW).length=ps.length:=List.length_map _;refine zNq (fn:=Tryz.f250) O O O (Ob rfl) (fun R k0=>?_);refine ziq 9 O ?_;refine zfq (w':=.int .i64 (ps.length:Int)) O O Xv ?_;refine zaq 4 O ?_;refine y4q (α:=Nat) (fun i=>i<=ps.length) (fun i=>[(8,.int .i64 (i:Int))]) [(0,_),(1,_),(4,_),(7,_)] (fun i=>ps.length-i) (0) ⟨rfl,rfl,rfl,rfl,trivial⟩ (Nat.zero_le _) ⟨rfl,trivial⟩ (fun i hI=>?_);refine ziq 6 O ?_;refine zEq rfl (fun h1=>?_) (fun h1=>?_)
 ·have hi:i<ps.length:=by omega
  obtain⟨p,hx⟩:∃p,ps[i]? =some p:=⟨_,List.getElem?_eq_getElem hi⟩
  refine zgq 15 O ?_;refine zbq rfl (zBq (i:=i) O O O O O O O (z9q bW hx)) (zwq O O (zkq O O O O O O (rlist1_s p (hp p (List.mem_of_getElem? hx))) ?_));refine zaq 7 O ?_;refine zuq (i+1) O O Xm ⟨by omega,by omega⟩ ?_;refine y5q 2 O ?_;exact ykq (i+1) (hi) Xd ⟨rfl,trivial⟩ ⟨rfl,rfl,rfl,rfl,trivial⟩ Xh Xd Xk rfl
 ·refine zgq 2 O ?_;refine ylq Xj ?_;refine zDq 8 O ?_;exact zhq (.inr rfl) O O
theorem rcont_s(ps:List (List UInt8))(f:Bool)(hn:ps.length<=256)(hp:∀p∈ps,p.length<=4096):PS cfg G 188 [.fz (ps.map bW) 1 f,.fn 189 [] []] (.bool false):=by
 refine zNq (fn:=Tryz.f188) O O O (Ob rfl) (fun R k0=>?_);refine ziq 9 O ?_;refine zkq O O O O O O (rindex_s ps f hn hp) ?_;refine yWq O O ?_;refine zaq 4 O ?_;exact zhq (.inr rfl) O O
theorem rlist_s(ps:List (List UInt8))(f:Bool)(hn:ps.length<=256)(hp:∀p∈ps,p.length<=4096):PS cfg G 112 [.fz (ps.map bW) 1 f] (.bool true):=by
 have e:(ps.map bW).length=ps.length:=List.length_map _;refine zNq (fn:=Tryz.f112) O O O (Ob rfl) (fun R k0=>?_);refine ziq 8 O ?_;refine zfq (w':=.int .i64 (ps.length:Int)) O O Xv ?_;refine zfq (w':=.bool true) O O (congrArg W.bool (nlt_iff.2 Xd)) ?_;refine zaq 2 O ?_;refine zkq O O O O O O (rcont_s ps f hn hp) ?_;refine zaq 6 O ?_;exact zhq (.inr rfl) O O
noncomputable def rootF:Nat->List (List UInt8) ->Dig
 |0,_=>tagD 0 []
 |n+1,ps=>match ps with
  |[]=>tagD 0 []
  |[p]=>tagD 7 [p]
  |p::q::r=>tagD 8 [(rootF n ((p::q::r).take (qrq (p::q::r).length))).1,(rootF n ((p::q::r).drop (qrq (p::q::r).length))).1]
noncomputable def gatR:List Dig->HpW
 |[]=>[(1,52,.nils),(0,26,qjq)]
 |ds=>[(1,52,.sl 2 0 0 ds.length 1 none),(0,26,qjq),(2,53,.arr (ds.length*1) 1 (ds.map fun d=>bW d.1))]
theorem rroot_s:∀(n:Nat) (ps:List (List UInt8)) (f:Bool),ps.length<=n->ps.length<=256->(∀p∈ps,p.length<=4096) ->PS cfg glK 113 [.fz (ps.map bW) 1 f] (dW (rootF n ps)):=by
 intro n;induction n with
 |zero=>
  intro ps f hn _ _;obtain rfl:ps=[]:=List.eq_nil_of_length_eq_zero Xd;refine zNq (fn:=Tryz.f113) O O O (Ob rfl) (fun R k0=>?_);refine ziq 9 O ?_;first|refine uVq O O ?_|refine zbq O O ?_
  refine zaq 5 O ?_;refine zfq (w':=.bool true) O O (congrArg W.bool Xg) ?_;refine zaq 6 O ?_;refine zkq O O O O O O (vtq) ?_;refine zaq 6 O ?_;exact zhq (.inr rfl) O O
 |succ n ih=>
  intro ps f hn hl hp;rcases ps with _|⟨p,_|⟨q,r⟩⟩
  ·skip
   refine zNq (fn:=Tryz.f113) O O O (Ob rfl) (fun R k0=>?_);refine ziq 9 O ?_;first|refine uVq O O ?_|refine zbq O O ?_
   refine zaq 5 O ?_;refine zfq (w':=.bool true) O O (congrArg W.bool Xg) ?_;refine zaq 6 O ?_;refine zkq O O O O O O (vtq) ?_;refine zaq 6 O ?_;exact zhq (.inr rfl) O O
  ·have hpl:=hp p Xl;refine zNq (fn:=Tryz.f113) O O O (Ob rfl) (fun R k0=>?_);refine ziq 9 O ?_;first|refine uVq O O ?_|refine zbq O O ?_
   refine zaq 5 O ?_;refine zfq (w':=.bool false) O O (congrArg W.bool Xg) ?_;refine zaq 6 O ?_;refine zfq (w':=.bool true) O O (congrArg W.bool Xg) ?_;refine zaq 7 O ?_;first|refine zbq rfl (zBq O O O O O O O Xi) ?_|refine zbq rfl (zJq O O O O O O O Xd) ?_|refine zbq rfl (zzq O O O O O O Xd) ?_|refine zbq O O ?_
   refine zaq 2 O ?_;refine ZZq O O O O O (by(repeat (first|exact .nil|refine .cons ?_ ?_|(refine .sl O ?_ rfl Xj;first|rfl|(focus (simp;done)))|(refine qBq O ?_ rfl;first|rfl|(focus (simp;done)))|(refine .pur ?_;first|rfl|(focus (simp;done)))))) (jNq 7 [p] false Xl Xt) Xo Xo ?_;refine zaq 6 O ?_;exact zhq (.inr rfl) O O
  ·show PS cfg glK 113 _ (dW (tagD 8 [(rootF n ((p::q::r).take (qrq (p::q::r).length))).1,(rootF n ((p::q::r).drop (qrq (p::q::r).length))).1]));have h2:2<=(p::q::r).length:=by simp
   generalize (p::q::r)=ps at*
   obtain⟨k1,k2,k3,k4⟩:=Jeq h2 hl;have e:(ps.map bW).length=ps.length:=List.length_map _;have c1:=ih (ps.take (qrq ps.length)) false (by rw[List.length_take];omega) (by rw[List.length_take];omega) fun p h=>hp p (List.mem_of_mem_take h)
   have c2:=ih (ps.drop (qrq ps.length)) f (by rw[List.length_drop];omega) (by rw[List.length_drop];omega) fun p h=>hp p (List.mem_of_mem_drop h)
   have it:=halves_it (G:=glK) ps f h2 hl;generalize rootF n (ps.take (qrq ps.length))=d1 at*
   generalize rootF n (ps.drop (qrq ps.length))=d2 at*
   generalize ps.take (qrq ps.length)=A at*
   generalize ps.drop (qrq ps.length)=B at*
   refine zNq (fn:=Tryz.f113) O O O (Ob rfl) (fun R k0=>?_);refine ziq 9 O ?_;refine zfq (w':=.int .i64 (ps.length:Int)) O O Xv ?_;refine zaq 5 O ?_;refine zfq (w':=.bool false) O O (congrArg W.bool (eqI_not.2 Xd)) ?_;refine zaq 6 O ?_;refine zfq (w':=.bool false) O O (congrArg W.bool (eqI_not.2 Xd)) ?_;refine zaq 16 O ?_;refine zkq O O O O O O (halves_s (ps.map bW) f Xl) ?_;refine zaq 3 O ?_;refine co_rangeN (α:=List Dig) (encH) ([(A,false),(B,f)]) (fun i a=>a=[d1,d2].take i) (fun a=>gatR a) (fun a=>(match a with|[]=>2|_=>3)) (fun a=>R) ([]) rfl Xo (it) (encH_ok) (rfl) O O O (fun i a y hy hI=>?_) (fun a hI=>?_)
   ·match i,hy,hI with
    |0,hy,hI=>
     cases hy;have hI:a=[]:=hI;subst hI;skip
     refine ziq 3 O ?_;refine ZRq ?_;refine ziq 4 O ?_;refine zkq O O O O O O c1 ?_;refine zaq 8 O ?_;refine y1q rfl (quq O O (vSq (news:=[.sl 2 0 0 32 1 (some 32)]) (k:=ti53) O O O O (jrq O O O O) Xl Xr Xr)) Xu ?_;refine zsq 3 O ?_;refine vAq [d1] rfl (Ent.trans (vNq 2 [] [(1,52,.sl 4 0 0 1 1 none),(0,26,qjq),(4,53,.arr (1*1) 1 [bW d1.1])] rfl Xl Xd trivial ⟨⟨by omega,_,rfl,.slK rfl⟩,⟨by omega,_,rfl,.pur rfl⟩,⟨by omega,_,rfl,.arr (.cons (.sl (full:=false) (xs:=zdq d1.1) rfl Xl (zCq Xr (by simp[zrq,d1.2]) rfl) Xj) .nil)⟩,trivial⟩ Xl) (yYq (b:=2) (k:=4) Xd Xd Ym trivial ⟨⟨by omega,rfl,rfl⟩,⟨by omega,rfl,rfl⟩,⟨by omega,?_,zeq (show purW (.arr (1*1) 1 [bW d1.1])=true by simp[purW,purL])⟩,trivial⟩ (by show([1,0,2]:List Nat).Nodup;decide)));show some (53,W.arr (1*1) 1 [bW d1.1])=some (53,renW _ (W.arr (1*1) 1 [bW d1.1]));rw[zjq (show purW (.arr (1*1) 1 [bW d1.1])=true by simp[purW,purL])]
    |1,hy,hI=>
     cases hy;have hI:a=[d1]:=hI;subst hI;refine ziq 3 O ?_;refine ZRq ?_;refine ziq 4 O ?_;refine zkq O O O O O O c2 ?_;refine zaq 8 O ?_;refine y1q rfl (quq O O (qNq (len:=1) (news:=[.sl 3 0 0 32 1 (some 32)]) (olds:=[bW d1.1]) (k:=ti53) O O O O (jrq O O O O) Xl Xr Xr rfl (by show 1*1<0+(1+1)*1;decide) rfl (zCq Xr O O))) Xu ?_;refine zsq 3 O ?_;refine vAq [d1,d2] rfl (Ent.trans (vNq 3 [] [(1,52,.sl 5 0 0 2 1 none),(0,26,qjq),(5,53,.arr (2*1) 1 [bW d1.1,bW d2.1])] rfl Xl Xd trivial ⟨⟨by omega,_,rfl,.slK rfl⟩,⟨by omega,_,rfl,.pur rfl⟩,⟨by omega,_,rfl,.arr (.cons (.pur Xl) (.cons (.sl (full:=false) (xs:=zdq d2.1) rfl Xl (zCq Xr (by simp[zrq,d2.2]) rfl) Xj) .nil))⟩,trivial⟩ Xl) (yYq (b:=2) (k:=5) Xd Xd Xy trivial ⟨⟨by omega,rfl,rfl⟩,⟨by omega,rfl,rfl⟩,⟨by omega,?_,zeq (show purW (.arr (2*1) 1 [bW d1.1,bW d2.1])=true by simp[purW,purL])⟩,trivial⟩ (by show([1,0,2]:List Nat).Nodup;decide)));show some (53,W.arr (2*1) 1 [bW d1.1,bW d2.1])=some (53,renW _ (W.arr (2*1) 1 [bW d1.1,bW d2.1]));rw[zjq (show purW (.arr (2*1) 1 [bW d1.1,bW d2.1])=true by simp[purW,purL])]
    |i+2,hy,hI=>cases hy
   ·have hI:a=[d1,d2]:=hI;subst hI;refine zDq 5 O ?_;refine ZZq O O O O O (by(repeat (first|exact .nil|refine .cons ?_ ?_|(refine .sl O ?_ rfl Xj;first|rfl|(focus (simp;done)))|(refine qBq O ?_ rfl;first|rfl|(focus (simp;done)))|(refine .pur ?_;first|rfl|(focus (simp;done)))))) (jNq 8 [d1.1,d2.1] false Xl (by simp[d1.2,d2.2])) Xo Xo ?_;refine zaq 4 O ?_;exact zhq (.inr rfl) O O
noncomputable def rootD(ps:List (List UInt8)):Dig:=rootF 256 ps
theorem rRoot_s(ps:List (List UInt8))(f:Bool)(hn:ps.length<=256)(hp:∀p∈ps,p.length<=4096):PS cfg glK 30 [.fz (ps.map bW) 1 f] (.tup [dW (rootD ps),.int .i64 0]):=by
 refine zNq (fn:=Tryz.f30) O O O (Ob rfl) (fun R k0=>?_);refine ziq 10 O ?_;refine zkq O O O O O O (rlist_s ps f hn hp) ?_;refine zfq (w':=.bool false) O O (congrArg W.bool Xg) ?_;refine zaq 8 O ?_;refine zkq O O O O O O (rroot_s 256 ps f hn hn hp) ?_;refine zaq 5 O ?_;exact zhq (.inr rfl) O O
end
section
noncomputable def wkW(k:Nat)(t:Tree)(box:Dig)(L:List Rec):W:=.agg 35 [tW t,dW box,gW k 34 (L.map recW)]
noncomputable def wkH(w0 k:Nat)(t:Tree)(box:Dig)(L:List Rec):HpW:=(w0,170,wkW k t box L)::gH k 57 34 (L.map recW)
theorem jUq(L:List Rec):purL (L.map recW)=true:=y7q (fun r=>uNq r) L
theorem wk_get(k:Nat)(t:Tree)(box:Dig)(L:List Rec):ynq 50 (wkW k t box L) 34 1 false=some (gW k 34 (L.map recW)):=by unfold wkW;cases L.map recW<;>rfl
theorem wk_putT(k:Nat)(t t':Tree)(box:Dig)(L:List Rec):qSq 50 (wkW k t box L) 0 (tW t')=some (wkW k t' box L):=by unfold wkW;cases L.map recW<;>rfl
theorem wk_put(k:Nat)(t:Tree)(box:Dig)(L:List Rec)(b n:Nat):qSq 50 (wkW k t box L) 34 (.sl b 0 0 n 34 none)=some (.agg 35 [tW t,dW box,.sl b 0 0 n 34 none]):=by unfold wkW;cases L.map recW<;>rfl
theorem ren_wk(τ:Nat->Nat)(k:Nat)(t:Tree)(box:Dig)(L:List Rec):renW τ (wkW k t box L)=wkW (τ k) t box L:=by
 unfold wkW;simp only[renW,qgq,zjq (qnq t),zjq (kqq box),ren_g]
theorem ref_wk{n k:Nat}(h:k<n)(t:Tree)(box:Dig)(L:List Rec):refB n (wkW k t box L)=true:=by
 show(refB n (tW t)&&(refB n (dW box)&&(refB n (gW k 34 (L.map recW))&&true)))=true;rw[zeq (qnq t),zeq (kqq box),ref_g h];rfl
theorem vzq(τ:Nat->Nat)(w0 k:Nat)(t:Tree)(box:Dig)(L:List Rec):renH τ (wkH w0 k t box L)=wkH (τ w0) (τ k) t box L:=by
 unfold wkH;simp only[renH,ren_wk,renH_g _ _ _ _ (jUq L)]
theorem wk_names{w0 k:Nat}{t:Tree}{box:Dig}{L:List Rec}:∀p∈wkH w0 k t box L,p.1=w0\/p.1=k:=fun p hp=>by
 rcases List.mem_cons.1 hp with h|h
 ·exact .inl (by rw[h])
 ·exact .inr (g_names p h)
theorem wk_nd{w0 k:Nat}(h:w0≠k)(t:Tree)(box:Dig)(L:List Rec):((wkH w0 k t box L).map (·.1)).Nodup:=by
 unfold wkH;rw[List.map_cons,List.nodup_cons];refine⟨fun hm=>?_,?_⟩
 ·obtain⟨p,h1,h2⟩:=List.mem_map.1 hm;rw[g_names p h1] at h2;exact h h2.symm
 ·cases L.map recW<;>simp[gH]
theorem hget_wk{w0 k:Nat}{P:HpW}{t:Tree}{box:Dig}{L:List Rec}(hP:∀p∈P,p.1≠w0):hget (P++wkH w0 k t box L) w0=some (170,wkW k t box L):=by
 rw[Zoq,u2q hP];unfold wkH;show hget ((w0,170,wkW k t box L)::_) w0=_;rw[zyq,if_pos rfl]
theorem hget_wkl{w0 k:Nat}{P:HpW}{t:Tree}{box:Dig}{L:List Rec}(hP:∀p∈P,p.1≠k)(hw:w0≠k){x:W}{r:List W}(e:L.map recW=x::r):hget (P++wkH w0 k t box L) k=some (57,.arr ((x::r).length*34) 34 (x::r)):=by
 rw[Zoq,u2q hP];unfold wkH;show hget ((w0,170,wkW k t box L)::_) k=_;rw[zyq,if_neg hw,e];show hget [(k,_)] k=_;rw[zyq,if_pos rfl]
theorem hdel_wk{w0 k:Nat}{P:HpW}{t:Tree}{box:Dig}{L:List Rec}(hP:∀p∈P,p.1≠w0/\p.1≠k)(hw:w0≠k):delA [w0,k] (P++wkH w0 k t box L)=P:=by
 have h1:∀{Q R:HpW} {x:TypeId×W},(∀p∈Q,p.1≠w0) ->hdel (Q++(w0,x)::R) w0=Q++R:=fun {Q}=>by
  induction Q with
  |nil=>
   intro R x _;show(match Nat.beq w0 w0 with|true=>R|false=>_)=_;rw[Nat.beq_refl];rfl
  |cons p Q ih=>
   intro R x h;obtain⟨c,y⟩:=p;have hc:=h (c,y) (List.mem_cons_self ..)
   have e:Nat.beq c w0=false:=by
    cases q:Nat.beq c w0 with
    |true=>exact absurd (Nat.eq_of_beq_eq_true q) hc
    |false=>rfl
   show(match Nat.beq c w0 with|true=>Q++(w0,x)::R|false=>(c,y)::hdel (Q++(w0,x)::R) w0)=_;rw[e];exact congrArg _ (ih fun p hp=>h p (List.mem_cons_of_mem _ hp))
 show hdel (hdel (P++wkH w0 k t box L) w0) k=P;unfold wkH;rw[h1 fun p hp=>(hP p hp).1,hdel_g fun p hp=>(hP p hp).2]
section
variable {G:Nat->Option W} {o:Oper} {fr fr2:FrW} {hp:HpW} {nw m k0:Nat} {R:Res}
theorem ubq{post:W->HpW->Nat->Res->Option EvW->Prop}{x:Operand}{xs:Array Operand}{ats:Array TypeId}{f:FuncId}{a us c ws:List W}{Q:W->HpW->Nat->Prop}{t:Tree}{box:Dig}{L:List Rec}(w0 k:Nat)(P:HpW)
  (ho:o.op= .call ⟨.value x,xs,ats⟩) (hx:evW cfg G fr x=some (.fn f a c)) (he:cfg.ext f=none) (hxs:evLW cfg G fr xs.toList=some us) (hws:a++us++c=qgq (numC [w0,k] nw) ws) (hr:refL 2 ws=true) (hhp:hp=P++wkH w0 k t box L) (hP:∀p∈P,p.1≠w0/\p.1≠k) (hw:w0≠k) (h0:w0<nw) (hk:k<nw)
  (sp:yVq cfg G f 2 ws (wkH 0 1 t box L) Q) (hpost:∀w hp1 nw1,Q w hp1 nw1->post (renW (numC [w0,k] nw) w) (renH (numC [w0,k] nw) hp1++P) (nw+(nw1-2)) R (some .dirty)):Step cfg G o fr hp nw R post:=by
 refine yJq (ext:=[w0,k]) (ws:=ws) (hp0:=wkH 0 1 t box L) ho hx he hxs hws sp (by simp[hw]) Xx (wk_nd Xr t box L) (fun i ty w hi=>?_) hr (fun w hp1 nw1 hq=>?_)
 ·unfold wkH at hi;rw[zyq] at hi;split at hi
  ·rename_i e;subst e;cases hi;refine⟨by simp,ref_wk Xl t box L,w0,rfl,?_⟩;rw[hhp,hget_wk fun p hp=>(hP p hp).1,ren_wk];rfl
  ·cases e:L.map recW with
   |nil=>rw[e] at hi;simp[gH,hget] at hi
   |cons y q=>
    have hpa:purW (.arr ((y::q).length*34) 34 (y::q))=true:=by have:=jUq L;rw[e] at this;exact this
    rw[e] at hi;simp only[gH] at hi;rw[zyq] at hi;split at hi
    ·rename_i e0;subst e0;cases hi;refine⟨by simp,zeq hpa,k,rfl,?_⟩;rw[hhp,hget_wkl (fun p hp=>(hP p hp).2) hw e,zjq hpa]
    ·simp[hget] at hi
 ·have:=hpost w hp1 nw1 hq;rw[hhp,hdel_wk hP hw];exact this
theorem Qrq{w0 b k:Nat}{P P2:HpW}{t:Tree}{box:Dig}{L:List Rec}(hm:m<=b)(hw:w0<b)(hb:b<=k)(hk:k<nw)(hf:subF fr fr2)(hr:refF b fr2)(hhp:hp=wkH w0 k t box L++P)(hP:subH P b P2)(hn:∀p∈P2,p.1≠w0/\p.1<b)(nd:(P2.map (·.1)).Nodup):Ent cfg G m k0 fr hp nw R fr2 (P2++wkH w0 b t box L) (b+1) R:=by
 subst hhp;have q1:hget (wkH w0 k t box L++P) w0=some (170,wkW k t box L):=xWq (by unfold wkH;rw[zyq,if_pos rfl])
 have q2:∀(i:Nat) (y:TypeId×W),i≠w0->i<b->hget P i=some y->hget (wkH w0 k t box L++P) i=some y:=fun i y hi hib h=>by
  rw[Zoq,u2q (P:=wkH w0 k t box L) fun p hp=>?_]
  ·exact h
  ·rcases wk_names p hp with e|e<;>omega
 have q3:∀x r,L.map recW=x::r->hget (wkH w0 k t box L++P) k=some (57,.arr ((x::r).length*34) 34 (x::r)):=fun x r e=>xWq (by
  unfold wkH;rw[zyq,if_neg Xd,e];show hget [(k,_)] k=_;rw[zyq,if_pos rfl])
 have q4:∀{Q:HpW},(∀p∈Q,p.1≠w0/\p.1<b) ->subH P b Q->subH (wkH w0 k t box L++P) b Q:=fun {Q}=>by
  induction Q with
  |nil=>intro _ _;trivial
  |cons p Q ih=>
   intro h1 h2;obtain⟨i,y⟩:=p;have h3:=h1 (i,y) (List.mem_cons_self ..);exact⟨⟨h2.1.1,q2 i y h3.1 h3.2 h2.1.2.1,h2.1.2.2⟩,ih (fun p hp=>h1 p (List.mem_cons_of_mem _ hp)) h2.2⟩
 refine yYq hm hb hk (QLq hf hr) (ZIq (ZHq (q4 hn hP)) ⟨⟨by omega,by rw[j1q Xd,q1,ren_wk,kSq],ref_wk Xd t box L⟩,?_⟩) ?_
 ·cases e:L.map recW with
  |nil=>trivial
  |cons x r=>
   have hpa:purW (.arr ((x::r).length*34) 34 (x::r))=true:=by have:=jUq L;rw[e] at this;exact this
   exact⟨⟨by omega,by rw[kSq,q3 x r e,zjq hpa],zeq hpa⟩,trivial⟩
 ·rw[List.map_append,List.nodup_append];refine⟨nd,wk_nd Xd t box L,fun a ha c hc e=>?_⟩;obtain⟨p,h1,h2⟩:=List.mem_map.1 ha;obtain⟨q,h3,h4⟩:=List.mem_map.1 hc;have:=hn p h1;rcases wk_names q h3 with e'|e'<;>omega
end
attribute [local irreducible] CoW OpW FlW Step Spec
variable {G:Nat->Option W}
theorem told_s(t t':Tree)(box:Dig)(L:List Rec)(r:Rec)(hL:L.length<=1000):yVq cfg G 168 2 [.ptr 0 0,tW t',recW r] (wkH 0 1 t box L) fun w hp nw=>w= .tup []/\hp=wkH 0 2 t' box (L++[r])/\nw=3:=by
 have hl:(L.map recW).length<=1000:=by rw[List.length_map];exact hL
 have hm:(L++[r]).map recW=L.map recW++[recW r]:=by simp
 have hne:L.map recW++[recW r]≠[]:=by simp
 have hpa:∀n,purW (.arr n 34 (L.map recW++[recW r]))=true:=fun n=>by have:=jUq (L++[r]);rw[hm] at this;exact this
 intro R;refine zXq (fn:=Tryz.f168) O O O (Ob rfl) (fun k0=>?_);refine ziq 13 O ?_;refine y1q rfl (yNq O O O (wk_get 1 t box L)) Xu ?_;refine run_f 2 O ?_;refine y1q rfl (quq O O (Qyq [_,_,_,_] (k:=ti57) (news:=[recW r]) O O O O O (jrq O O O O) Xl (by show((L.map recW).length+1)*48<=_;omega) (by show(L.map recW).length+1<=_;omega) rfl Xl)) (evs_G Xu Xu) ?_;refine run_f 2 O ?_;refine y1q rfl (uIq O O O O O (wk_putT 1 t t' box L) rfl) (by generalize L.map recW=l;cases l<;>first|rfl|kernel_rfl) ?_;refine run_f 2 O ?_;refine y1q rfl (uIq O O O O O (wk_put 1 t' box L _ _) rfl) (by generalize L.map recW=l;cases l<;>first|rfl|kernel_rfl) ?_;refine j9q ?_;refine fin (w:=.tup []) (fr2:=[]) (hp2:=[(0,170,.agg 35 [tW t',dW box,.sl 2 0 0 (L.map recW++[recW r]).length 34 none]),(2,57,.arr ((L.map recW++[recW r]).length*34) 34 (L.map recW++[recW r]))]) (nw2:=3) (.inl rfl) (yYq (b:=2) (k:=5) Xd Xd Xy trivial ⟨⟨by omega,?_,?_⟩,⟨by omega,?_,zeq (hpa _)⟩,trivial⟩ Xl) rfl ⟨rfl,rfl,?_,rfl⟩
 ·show some (170,W.agg 35 [tW t',dW box,.sl 5 0 0 _ 34 none])=some (170,renW _ (W.agg 35 [tW t',dW box,.sl 2 0 0 _ 34 none]));simp only[renW,qgq,zjq (qnq t'),zjq (kqq box),kSq]
 ·show(refB 3 (tW t')&&(refB 3 (dW box)&&(refB 3 (W.sl 2 0 0 _ 34 none)&&true)))=true;rw[zeq (qnq t'),zeq (kqq box)];rfl
 ·show some (57,W.arr _ 34 (L.map recW++[recW r]))=some (57,renW _ (W.arr _ 34 (L.map recW++[recW r])));rw[zjq (hpa _)]
 ·unfold wkH wkW;rw[hm,vHq hne,vIq hne]
def DoQ(t:Tree)(m:Nat)(l:List Pr)(box:Dig)(L:List Rec)(r:Rec):W->HpW->Nat->Prop:=fun w hp nw=>∃t' n' t1,IsA t' n' t1/\kiq t m l t' t1/\w= .int .i64 0/\hp=wkH 0 2 t' box (L++[r])/\nw=3
theorem wgive_s(t:Tree)(n:Nat)(t0:T)(h:IsA t n t0)(hl:t.nodes.length<=260944)(d:Depo)(h1:d.number<18446744073709551616)(h2:d.amount<18446744073709551616)(box:Dig)(L:List Rec)(hL:L.length<=1000):yVq cfg glK 94 2 [.ptr 0 0,pdW d] (wkH 0 1 t box L) (DoQ t 257 (gvL t0.all d).1 box L ⟨1,depD d,(gvL t0.all d).2⟩):=by
 obtain⟨g1,g2⟩:=giv_gv h.toIsT d;intro R;refine zXq (fn:=Tryz.f94) O O O (Ob rfl) (fun k0=>?_);refine ziq 13 O ?_
 ((refine yjq rfl (q1q O O O O O (give_s t n t0 d h h2 hl) Xl ?_);rintro w hw ⟨t',n',t1,ht',hgo,rfl⟩;refine⟨by first|rfl|kernel_rfl,?_⟩;rw[g1] at hgo;rw[g2]))
 refine zsq 14 O ?_;refine zfq (w':=.bool true) O O (congrArg W.bool Xg) ?_;refine zaq 7 O ?_;refine qJq O O O O O O (rdepo_s d h1 h2) ?_;refine zsq 2 O ?_
 (refine yjq rfl (ubq 0 1 [(3,_,_),(2,_,_)] (ws:=[.ptr 0 0,tW t',recW ⟨1,depD d,(gvL t0.all d).2⟩]) O O O O (by show [W.ptr 0 0,tW t',recW ⟨1,depD d,(gvL t0.all d).2⟩]=[W.ptr 0 0,renW _ (tW t'),renW _ (recW ⟨1,depD d,(gvL t0.all d).2⟩)];rw[zjq (qnq _),zjq (uNq _)]) Qd rfl Xl Xr (by show 0<4;omega) (by show 1<4;omega) (told_s t t' box L _ hL) ?_);rintro w hp1 nw1 ⟨rfl,rfl,rfl⟩;rw[vzq];refine⟨by first|rfl|kernel_rfl,?_⟩)
 refine zsq 9 O ?_;exact fin (w:=.int .i64 0) (fr2:=[(4,.int .i64 0)]) (hp2:=wkH 0 2 t' box (L++[⟨1,depD d,(gvL t0.all d).2⟩])) (nw2:=3) (.inr rfl) (Qrq (w0:=0) (b:=2) (k:=4) (P:=[(3,_,_),(2,_,_)]) (P2:=[]) Xd Xd Xd Ym ⟨rfl,trivial⟩ ⟨rfl,trivial⟩ rfl trivial Xl Xl) rfl ⟨rfl,t',n',t1,ht',hgo,rfl,rfl,rfl⟩
noncomputable def refX(x:Tx):Nat:=if x.sign=xsq x then 2 else 110
theorem wpay_no(t:Tree)(n:Nat)(t0:T)(h:IsA t n t0)(x:Tx)(hx:x.ok)(box:Dig)(L:List Rec)(hg:¬goX t0.all x):yVq cfg glK 96 2 [.ptr 0 0,txW x] (wkH 0 1 t box L) fun w hp nw=>w= .int .i64 (refX x:Nat)/\hp=[]/\nw=2:=by
 by_cases hs:x.sign=xsq x
 ·have e:refX x=2:=if_pos hs;rw[e];intro R;refine zXq (fn:=Tryz.f96) O O O (Ob rfl) (fun k0=>?_);refine ziq 17 O ?_;refine qJq O O O O O O (pay_nonce t n t0 x hx box h hs (fun q=>hg ⟨hs,q.1,q.2⟩)) ?_;refine zsq 14 O ?_;refine zfq (w':=.bool false) O O (congrArg W.bool Xg) ?_;refine zaq 12 O ?_;exact fin (w:=.int .i64 2) (fr2:=[(4,.int .i64 2)]) (hp2:=[]) (nw2:=2) (.inr rfl) (y2q (nw2:=2) Xd Xd ⟨rfl,trivial⟩ rfl (fun b x hb=>by simp[hget] at hb) Xl) rfl ⟨rfl,rfl,rfl,rfl⟩
 ·have e:refX x=110:=if_neg hs;rw[e];intro R;refine zXq (fn:=Tryz.f96) O O O (Ob rfl) (fun k0=>?_);refine ziq 17 O ?_;refine qJq O O O O O O (pay_sign t n t0 x hx box h hs) ?_;refine zsq 14 O ?_;refine zfq (w':=.bool false) O O (congrArg W.bool Xg) ?_;refine zaq 12 O ?_;exact fin (w:=.int .i64 110) (fr2:=[(4,.int .i64 110)]) (hp2:=[]) (nw2:=2) (.inr rfl) (y2q (nw2:=2) Xd Xd ⟨rfl,trivial⟩ rfl (fun b x hb=>by simp[hget] at hb) Xl) rfl ⟨rfl,rfl,rfl,rfl⟩
theorem wpay_s(t:Tree)(n:Nat)(t0:T)(h:IsA t n t0)(hl:t.nodes.length<=260944)(x:Tx)(hx:x.ok)(box:Dig)(L:List Rec)(hL:L.length<=1000)(hg:goX t0.all x):yVq cfg glK 96 2 [.ptr 0 0,txW x] (wkH 0 1 t box L) (DoQ t 1028 (y6q t0.all x box).1 box L ⟨2,idD x,(y6q t0.all x box).2⟩):=by
 intro R;refine zXq (fn:=Tryz.f96) O O O (Ob rfl) (fun k0=>?_);refine ziq 17 O ?_
 ((refine yjq rfl (q1q O O O O O (pay_s t n t0 x hx box h hg.1 hg.2.1 hg.2.2 hl) Xl ?_);rintro w hw ⟨t',n',t1,ht',hgo,rfl⟩;refine⟨by first|rfl|kernel_rfl,?_⟩))
 refine zsq 14 O ?_;refine zfq (w':=.bool true) O O (congrArg W.bool Xg) ?_;refine zaq 7 O ?_;refine qJq O O O O O O (txid_s x hx) ?_;refine zsq 2 O ?_
 (refine yjq rfl (ubq 0 1 [(3,_,_),(2,_,_)] (ws:=[.ptr 0 0,tW t',recW ⟨2,idD x,(y6q t0.all x box).2⟩]) O O O O (by show [W.ptr 0 0,tW t',recW ⟨2,idD x,(y6q t0.all x box).2⟩]=[W.ptr 0 0,renW _ (tW t'),renW _ (recW ⟨2,idD x,(y6q t0.all x box).2⟩)];rw[zjq (qnq _),zjq (uNq _)]) Qd rfl Xl Xr (by show 0<4;omega) (by show 1<4;omega) (told_s t t' box L _ hL) ?_);rintro w hp1 nw1 ⟨rfl,rfl,rfl⟩;rw[vzq];refine⟨by first|rfl|kernel_rfl,?_⟩)
 refine zsq 9 O ?_;exact fin (w:=.int .i64 0) (fr2:=[(4,.int .i64 0)]) (hp2:=wkH 0 2 t' box (L++[⟨2,idD x,(y6q t0.all x box).2⟩])) (nw2:=3) (.inr rfl) (Qrq (w0:=0) (b:=2) (k:=4) (P:=[(3,_,_),(2,_,_)]) (P2:=[]) Xd Xd Xd Ym ⟨rfl,trivial⟩ ⟨rfl,trivial⟩ rfl trivial Xl Xl) rfl ⟨rfl,t',n',t1,ht',hgo,rfl,rfl,rfl⟩
end
section
attribute [local irreducible] CoW OpW FlW Step Spec
def thr2:Nat->Nat
 |0=>1
 |_+1=>2
theorem thr2_b(i:Nat):thr2 i=1\/thr2 i=2:=by cases i<;>simp[thr2]
theorem Yoq{t t' t2:Tree}{m k:Nat}(h:∃ms,t'.nodes=t.nodes++ms/\ms.length<=m)(h2:∃ms,t2.nodes=t'.nodes++ms/\ms.length<=k):∃ms,t2.nodes=t.nodes++ms/\ms.length<=m+k:=by
 obtain⟨a,ha,ha2⟩:=h;obtain⟨b,hb,hb2⟩:=h2;exact⟨a++b,by rw[hb,ha,List.append_assoc],by rw[List.length_append];omega⟩
noncomputable def badX(box:Dig):List Pr->List Tx->Nat
 |_,[]=>0
 |l,x::xs=>if goX l x then badX box (y6q l x box).1 xs else refX x
theorem x1q{box:Dig}{l:List Pr}{x:Tx}{xs:List Tx}(h:goX l x):doX box l (x::xs)=(match doX box (y6q l x box).1 xs with
      |some r=>some (r.1,⟨2,idD x,(y6q l x box).2⟩::r.2)
      |none=>none):=if_pos h
theorem doX_snoc{box:Dig}{l:List Pr}{us:List Tx}{x:Tx}{r:List Pr×List Rec}(h:doX box l us=some r)(hg:goX r.1 x):doX box l (us++[x])=some ((y6q r.1 x box).1,r.2++[⟨2,idD x,(y6q r.1 x box).2⟩]):=by
 rw[doX_app,h];simp only;rw[x1q hg];rfl
theorem doX_none{box:Dig}{l:List Pr}{us bs:List Tx}{x:Tx}{r:List Pr×List Rec}(h:doX box l us=some r)(hg:¬goX r.1 x):doX box l (us++x::bs)=none:=by
 rw[doX_app,h];simp only;rw[show doX box r.1 (x::bs)=none from if_neg hg]
theorem bad_app{box:Dig}:∀{us bs:List Tx} {l:List Pr} {r:List Pr×List Rec},doX box l us=some r->badX box l (us++bs)=badX box r.1 bs
 |[],bs,l,r,h=>by cases h;rfl
 |x::us,bs,l,r,h=>by
  by_cases hg:goX l x
  ·rw[x1q hg] at h;cases e:doX box (y6q l x box).1 us with
   |none=>rw[e] at h;cases h
   |some q=>
    rw[e] at h;cases h;show(if goX l x then badX box (y6q l x box).1 (us++bs) else refX x)=_;rw[if_pos hg,bad_app e]
  ·rw[show doX box l (x::us)=none from if_neg hg] at h;cases h
theorem bad_no{box:Dig}:∀{xs:List Tx} {l:List Pr},doX box l xs=none->badX box l xs=2\/badX box l xs=110
 |[],l,h=>by cases h
 |x::xs,l,h=>by
  by_cases hg:goX l x
  ·rw[x1q hg] at h;cases e:doX box (y6q l x box).1 xs with
   |some q=>rw[e] at h;cases h
   |none=>
    show(if goX l x then badX box (y6q l x box).1 xs else refX x)=2\/(if goX l x then badX box (y6q l x box).1 xs else refX x)=110;rw[if_pos hg];exact bad_no e
  ·show(if goX l x then badX box (y6q l x box).1 xs else refX x)=2\/(if goX l x then badX box (y6q l x box).1 xs else refX x)=110;rw[if_neg hg];unfold refX;split
   ·exact .inl rfl
   ·exact .inr rfl
def EdQ(t:Tree)(t0:T)(box:Dig)(L:List Rec)(ds:List Depo):W->HpW->Nat->Prop:=fun w hp nw=>∃t' n' t1,IsA t' n' t1/\kiq t (257*ds.length) (doD t0.all ds).1 t' t1/\w= .int .i64 0/\hp=wkH 0 (thr2 ds.length) t' box (L++(doD t0.all ds).2)/\nw=3
def ExQ(t:Tree)(t0:T)(box:Dig)(L:List Rec)(xs:List Tx):W->HpW->Nat->Prop:=fun w hp nw=>(∃t' n' t1 rs,IsA t' n' t1/\kiq t (1028*xs.length) t1.all t' t1/\doX box t0.all xs=some (t1.all,rs)/\w= .int .i64 0/\hp=wkH 0 (thr2 xs.length) t' box (L++rs)/\nw=3)\/(doX box t0.all xs=none/\w= .int .i64 (badX box t0.all xs:Nat)/\hp=[]/\nw=2)
theorem eachd_s(t:Tree)(n:Nat)(t0:T)(h:IsA t n t0)(box:Dig)(L:List Rec)(ds:List Depo)(f:Bool)(hds:∀d∈ds,d.number<18446744073709551616/\d.amount<18446744073709551616)(hn:ds.length<=16)(hL:L.length<=100)(hl:t.nodes.length+257*ds.length<=260944):yVq cfg glK 93 2 [.fz (ds.map pdW) 34 f,.fn 94 [.ptr 0 0] []] (wkH 0 1 t box L) (EdQ t t0 box L ds):=by
 have e:(ds.map pdW).length=ds.length:=List.length_map _;have pf:purW (.fz (ds.map pdW) 34 f)=true:=y7q uhq ds;intro R;refine zXq (fn:=Tryz.f93) O O O (Ob rfl) (fun k0=>?_);refine ziq 9 O ?_;refine zfq (w':=.int .i64 (ds.length:Int)) O O Xv ?_;refine zaq 4 O ?_;refine qyq (α:=Nat×Tree×List Rec) (fun p=>p.1<=ds.length/\p.2.2.length<=p.1/\∃n1 t1,IsA p.2.1 n1 t1/\(∃ms,p.2.1.nodes=t.nodes++ms/\ms.length<=257*p.1)/\doD t0.all (ds.take p.1)=(t1.all,p.2.2)) (fun p=>[(10,.int .i64 (p.1:Int)),(1,.fn 94 [.ptr 0 0] []),(8,.fz (ds.map pdW) 34 f),(9,.int .i64 (ds.length:Int))]) (fun p=>wkH 0 (thr2 p.1) p.2.1 box (L++p.2.2)) (fun _=>3) (fun _=>R) (fun p=>ds.length-p.1) (0,t,[]) ⟨Nat.zero_le _,Nat.le_refl _,n,t0,h,⟨[],by simp,by simp⟩,rfl⟩ ((ent_up (fr2:=[(10,.int .i64 0),(1,.fn 94 [.ptr 0 0] []),(8,.fz (ds.map pdW) 34 f),(9,.int .i64 (ds.length:Int))]) ⟨rfl,rfl,rfl,rfl,trivial⟩).trans (yfq ⟨rfl,rfl,rfl,rfl,trivial⟩ (by show wkH 0 1 t box L=wkH 0 1 t box (L++[]);rw[List.append_nil]) rfl)) (fun p hI=>?_);skip
 obtain⟨i,t',rs⟩:=p;obtain⟨hi,hrl,n1,t1,hT,hms,hst⟩:=hI;simp only at hi hrl hT hms hst⊢;have hle:=ext_le hms;have hth:=thr2_b i;refine ziq 6 O ?_;refine zEq rfl (fun h1=>?_) (fun h1=>?_)
 ·have hi2:i<ds.length:=by omega
  have hLL:(L++rs).length<=1000:=by rw[List.length_append];omega
  obtain⟨d,hx⟩:∃d,ds[i]? =some d:=⟨_,List.getElem?_eq_getElem hi2⟩
  have hxm:=List.mem_of_getElem? hx;have htk:ds.take (i+1)=ds.take i++[d]:=by rw[List.take_add_one,hx];rfl
  refine zgq 6 O ?_;refine zbq rfl (zBq (i:=i) O O O O O O O (z9q pdW hx)) ?_;refine zaq 9 O ?_
  (refine zoq rfl (ubq 0 (thr2 i) [(3,_,_)] (ws:=[.ptr 0 0,pdW d]) O O O O (by show [W.ptr 0 0,pdW d]=[W.ptr 0 0,renW _ (pdW d)];rw[zjq (uhq d)]) (by show(true&&(refB 2 (pdW d)&&true))=true;rw[zeq (uhq d)];rfl) rfl Xt Xd (by show 0<4;omega) (by show thr2 i<4;omega) (wgive_s t' n1 t1 hT Xd d (hds d hxm).1 (hds d hxm).2 box (L++rs) hLL) ?_);rintro w hp1 nw1 ⟨t2,n2,t3,h2,hgo,rfl,rfl,rfl⟩;rw[vzq])
  refine zaq 6 O ?_;refine zfq (w':=.bool false) O O (congrArg W.bool Xg) ?_;refine zaq 7 O ?_;refine zuq (i+1) O O Xm ⟨by omega,by omega⟩ ?_;refine y5q 2 O ?_;skip
  exact yDq (i+1,t2,rs++[⟨1,depD d,(gvL t1.all d).2⟩]) ⟨hi2,by simp only[List.length_append,List.length_cons,List.length_nil];omega,n2,t3,h2,Ynq (Yoq hms hgo.2) Yi,by rw[htk,doD_app,hst,hgo.1];rfl⟩ Yi (Ent.trans (Qrq (w0:=0) (b:=2) (k:=4) (P:=[(3,_,_)]) (P2:=[]) (fr2:=[(10,.int .i64 ((i+1:Nat):Int)),(1,.fn 94 [.ptr 0 0] []),(8,.fz (ds.map pdW) 34 f),(9,.int .i64 (ds.length:Int))]) Xd Xd Xd Ym ⟨rfl,rfl,rfl,rfl,trivial⟩ ⟨rfl,rfl,zeq pf,rfl,trivial⟩ rfl trivial Xl Xl) (yfq ⟨rfl,rfl,rfl,rfl,trivial⟩ (by show wkH 0 2 t2 box ((L++rs)++[⟨1,depD d,(gvL t1.all d).2⟩])=wkH 0 2 t2 box (L++(rs++[⟨1,depD d,(gvL t1.all d).2⟩]));rw[List.append_assoc L rs]) rfl))
 ·have hi3:i=ds.length:=by omega
  subst hi3;rw[List.take_length] at hst;refine zgq 2 O ?_;refine jaq Xj ?_;refine zDq 8 O ?_;exact fin (w:=.int .i64 0) (.inr rfl) (yfq (fr2:=[(4,.int .i64 0)]) ⟨rfl,trivial⟩ O O) rfl ⟨rfl,t',n1,t1,hT,⟨by rw[hst],hms⟩,rfl,by rw[hst],rfl⟩
theorem eachx_s(t:Tree)(n:Nat)(t0:T)(h:IsA t n t0)(box:Dig)(L:List Rec)(xs:List Tx)(f:Bool)(hxs:∀x∈xs,x.ok)(hn:xs.length<=16)(hL:L.length<=100)(hl:t.nodes.length+1028*xs.length<=260944):yVq cfg glK 95 2 [.fz (xs.map txW) 99 f,.fn 96 [.ptr 0 0] []] (wkH 0 1 t box L) (ExQ t t0 box L xs):=by
 have e:(xs.map txW).length=xs.length:=List.length_map _;have pf:purW (.fz (xs.map txW) 99 f)=true:=y7q jeq xs;intro R;refine zXq (fn:=Tryz.f95) O O O (Ob rfl) (fun k0=>?_);refine ziq 9 O ?_;refine zfq (w':=.int .i64 (xs.length:Int)) O O Xv ?_;refine zaq 4 O ?_;refine qyq (α:=Nat×Tree×List Rec) (fun p=>p.1<=xs.length/\p.2.2.length<=p.1/\∃n1 t1,IsA p.2.1 n1 t1/\(∃ms,p.2.1.nodes=t.nodes++ms/\ms.length<=1028*p.1)/\doX box t0.all (xs.take p.1)=some (t1.all,p.2.2)) (fun p=>[(10,.int .i64 (p.1:Int)),(1,.fn 96 [.ptr 0 0] []),(8,.fz (xs.map txW) 99 f),(9,.int .i64 (xs.length:Int))]) (fun p=>wkH 0 (thr2 p.1) p.2.1 box (L++p.2.2)) (fun _=>3) (fun _=>R) (fun p=>xs.length-p.1) (0,t,[]) ⟨Nat.zero_le _,Nat.le_refl _,n,t0,h,⟨[],by simp,by simp⟩,rfl⟩ ((ent_up (fr2:=[(10,.int .i64 0),(1,.fn 96 [.ptr 0 0] []),(8,.fz (xs.map txW) 99 f),(9,.int .i64 (xs.length:Int))]) ⟨rfl,rfl,rfl,rfl,trivial⟩).trans (yfq ⟨rfl,rfl,rfl,rfl,trivial⟩ (by show wkH 0 1 t box L=wkH 0 1 t box (L++[]);rw[List.append_nil]) rfl)) (fun p hI=>?_);skip
 obtain⟨i,t',rs⟩:=p;obtain⟨hi,hrl,n1,t1,hT,hms,hst⟩:=hI;simp only at hi hrl hT hms hst⊢;have hle:=ext_le hms;have hth:=thr2_b i;refine ziq 6 O ?_;refine zEq rfl (fun h1=>?_) (fun h1=>?_)
 ·have hi2:i<xs.length:=by omega
  have hLL:(L++rs).length<=1000:=by rw[List.length_append];omega
  obtain⟨x,hx⟩:∃x,xs[i]? =some x:=⟨_,List.getElem?_eq_getElem hi2⟩
  have hxm:=List.mem_of_getElem? hx;have htk:xs.take (i+1)=xs.take i++[x]:=by rw[List.take_add_one,hx];rfl
  skip
  by_cases hg:goX t1.all x
  ·refine zgq 6 O ?_;refine zbq rfl (zBq (i:=i) O O O O O O O (z9q txW hx)) ?_;refine zaq 9 O ?_
   (refine zoq rfl (ubq 0 (thr2 i) [(3,_,_)] (ws:=[.ptr 0 0,txW x]) O O O O Qp (by show(true&&(refB 2 (txW x)&&true))=true;rw[zeq (jeq x)];rfl) rfl Xt Xd (by show 0<4;omega) (by show thr2 i<4;omega) (wpay_s t' n1 t1 hT Xd x (hxs x hxm) box (L++rs) hLL hg) ?_);rintro w hp1 nw1 ⟨t2,n2,t3,h2,hgo,rfl,rfl,rfl⟩;rw[vzq])
   refine zaq 6 O ?_;refine zfq (w':=.bool false) O O (congrArg W.bool Xg) ?_;refine zaq 7 O ?_;refine zuq (i+1) O O Xm ⟨by omega,by omega⟩ ?_;refine y5q 2 O ?_;skip
   exact yDq (i+1,t2,rs++[⟨2,idD x,(y6q t1.all x box).2⟩]) ⟨hi2,by simp only[List.length_append,List.length_cons,List.length_nil];omega,n2,t3,h2,Ynq (Yoq hms hgo.2) Yi,by rw[htk,doX_snoc hst hg,hgo.1]⟩ Yi (Ent.trans (Qrq (w0:=0) (b:=2) (k:=4) (P:=[(3,_,_)]) (P2:=[]) (fr2:=[(10,.int .i64 ((i+1:Nat):Int)),(1,.fn 96 [.ptr 0 0] []),(8,.fz (xs.map txW) 99 f),(9,.int .i64 (xs.length:Int))]) Xd Xd Xd Ym ⟨rfl,rfl,rfl,rfl,trivial⟩ ⟨rfl,rfl,zeq pf,rfl,trivial⟩ rfl trivial Xl Xl) (yfq ⟨rfl,rfl,rfl,rfl,trivial⟩ (by show wkH 0 2 t2 box ((L++rs)++[⟨2,idD x,(y6q t1.all x box).2⟩])=wkH 0 2 t2 box (L++(rs++[⟨2,idD x,(y6q t1.all x box).2⟩]));rw[List.append_assoc L rs]) rfl))
  ·have hnb:refX x≠0:=by unfold refX;split<;>omega
   refine zgq 6 O ?_;refine zbq rfl (zBq (i:=i) O O O O O O O (z9q txW hx)) ?_;refine zaq 9 O ?_
   (refine zoq rfl (ubq 0 (thr2 i) [(3,_,_)] (ws:=[.ptr 0 0,txW x]) O O O O Qp (by show(true&&(refB 2 (txW x)&&true))=true;rw[zeq (jeq x)];rfl) rfl Xt Xd (by show 0<4;omega) (by show thr2 i<4;omega) (wpay_no t' n1 t1 hT x (hxs x hxm) box (L++rs) hg) ?_);rintro w hp1 nw1 ⟨rfl,rfl,rfl⟩)
   refine zaq 6 O ?_;refine zfq (w':=.bool true) O O (congrArg (fun b=>W.bool (!b)) (eqI_not.2 Xd)) ?_;refine zaq 12 O ?_;refine jaq Xj ?_;refine zDq 2 O ?_;have hdr:xs=xs.take i++x::xs.drop (i+1):=by rw[<-Ysq hx,List.take_append_drop]
   refine fin (w:=.int .i64 (refX x:Nat)) (fr2:=[(4,.int .i64 (refX x:Nat))]) (hp2:=[]) (nw2:=2) (.inr rfl) (y2q (nw2:=2) Xd (by show 2<=4;omega) ⟨rfl,trivial⟩ rfl (fun b x hb=>by simp[hget] at hb) Xl) rfl ⟨rfl,.inr ⟨?_,?_,rfl,rfl⟩⟩
   ·rw[hdr];exact doX_none hst hg
   ·rw[hdr,bad_app hst];show _=W.int .i64 ((badX box t1.all (x::_):Nat):Int);rw[show badX box t1.all (x::xs.drop (i+1))=refX x from if_neg hg]
 ·have hi3:i=xs.length:=by omega
  subst hi3;rw[List.take_length] at hst;refine zgq 2 O ?_;refine jaq Xj ?_;refine zDq 8 O ?_;exact fin (w:=.int .i64 0) (.inr rfl) (yfq (fr2:=[(4,.int .i64 0)]) ⟨rfl,trivial⟩ O O) rfl ⟨rfl,.inl ⟨t',n1,t1,rs,hT,⟨rfl,hms⟩,hst,rfl,rfl,rfl⟩⟩
end
noncomputable def bodW(ds:List Depo)(xs:List Tx)(f g:Bool):W:=.agg 2 [.fz (ds.map pdW) 34 f,.fz (xs.map txW) 99 g]
@[simp] theorem Jwq(ds:List Depo)(xs:List Tx)(f g:Bool):purW (bodW ds xs f g)=true:=by
 have h1:purW (.fz (ds.map pdW) 34 f)=true:=y7q uhq ds;have h2:purW (.fz (xs.map txW) 99 g)=true:=y7q jeq xs;show(purW (.fz (ds.map pdW) 34 f)&&(purW (.fz (xs.map txW) 99 g)&&true))=true;rw[h1,h2];rfl
@[simp] theorem pdl_pur(l:List Depo):purL (l.map pdW)=true:=y7q uhq l
@[simp] theorem txl_pur(l:List Tx):purL (l.map txW)=true:=y7q jeq l
structure RcI where
 kind:UInt8
 id:Dig
 code:Int
noncomputable def rcW(r:RcI):W:=.agg 34 [.int .u8 (.ofNat r.kind.toNat),dW r.id,.int .i64 r.code]
@[simp] theorem rcW_pur(r:RcI):purW (rcW r)=true:=by simp[rcW]
@[simp] theorem rcl_pur(l:List RcI):purL (l.map rcW)=true:=y7q rcW_pur l
structure Lk where
 hdr:Hdr
 root:Int
 ds:List Depo
 xs:List Tx
 rs:List RcI
noncomputable def lkG(l:Lk):W:=.agg 102 [hdW l.hdr,.int .i64 l.root,bodW l.ds l.xs false false,.fz (l.rs.map rcW) 34 false]
@[simp] theorem lkG_pur(l:Lk):purW (lkG l)=true:=by
 have h:purW (.fz (l.rs.map rcW) 34 false)=true:=y7q rcW_pur l.rs;show(purW (hdW l.hdr)&&(true&&(purW (bodW l.ds l.xs false false)&&(purW (.fz (l.rs.map rcW) 34 false)&&true))))=true;rw[h,Z9q,Jwq];rfl
@[simp] theorem k9q(l:List Lk):purL (l.map lkG)=true:=y7q lkG_pur l
structure Ch where
 tree:Tree
 links:List Lk
noncomputable def chG(c:Ch):W:=.agg 3 [tW c.tree,.fz (c.links.map lkG) 102 false]
@[simp] theorem chG_pur(c:Ch):purW (chG c)=true:=by
 show(purW (tW c.tree)&&(purW (.fz (c.links.map lkG) 102 false)&&true))=true;rw[qnq,show purW (.fz (c.links.map lkG) 102 false)=true from k9q _];rfl
structure Vw where
 number:Int
 down:Bool
 final:Int
 ch:Ch
noncomputable def vwG(v:Vw):W:=.agg 6 [.int .i64 v.number,.bool v.down,.int .i64 v.final,chG v.ch]
@[simp] theorem vwG_pur(v:Vw):purW (vwG v)=true:=by
 show(true&&(true&&(true&&(purW (chG v.ch)&&true))))=true;rw[chG_pur];rfl
def BodyM(ds:List Depo)(xs:List Tx):Prop:=ds.length<=16/\xs.length<=16/\∀x∈xs,x.sign=xsq x
section
section
variable {C:Cfg} {G:Nat->Option W} {m k0:Nat} {fr fr2:FrW} {hp hp2:HpW} {nw nw2:Nat} {R:Res}
theorem ent_viewH(hf:subV (fun _=>none) fr fr2)(hh:∀k ty w,hget hp2 k=some (ty,w) ->∃w0,hget hp k=some (ty,w0)/\View (fun _=>none) w0 w)(nd:(hp2.map (·.1)).Nodup):Ent C G m k0 fr hp nw R fr2 hp2 nw R:=fun Γ X st h1 _ s=>by
 have q:Seen (fun _=>none) Γ Γ:=⟨fun _ h _=>h,fun _ _ _=>rfl,fun _ h=>h,fun _ _=>rfl,fun _ _ _ h=>Qa⟩
 have howns:∀{c},Owns Γ hp2 c->Owns Γ hp c:=fun {c} h=>by
  obtain⟨k,y,h1,h2⟩:=h;obtain⟨w0,g1,_⟩:=hh k y.1 y.2 h1;exact⟨k,_,g1,h2⟩
 refine⟨Γ,X,h1,⟨s.hh,fun t w hw=>?_,⟨s.sat.wf,fun k ty w h=>?_,fun k k' y z hy hz e=>?_,nd,s.sat.dX,s.sat.xlt,s.sat.dlt,s.sat.res,s.sat.gl⟩,fun d hd=>?_,s.nd⟩,?_⟩
 ·obtain⟨w0,g1,g2⟩:=xRq hf t w hw;obtain⟨u,g3,g4⟩:=s.fr _ _ g1;exact⟨u,g3,kRq q g2 g4⟩
 ·obtain⟨w0,g1,g2⟩:=hh k ty w h;obtain⟨q1,q2,q3,u,q4,q5⟩:=s.sat.own _ _ _ g1;exact⟨q1,q2,q3,u,q4,kRq q g2 q5⟩
 ·obtain⟨w0,g1,_⟩:=hh k y.1 y.2 hy;obtain⟨w1,g2,_⟩:=hh k' z.1 z.2 hz;exact s.sat.inj k k' _ _ g1 g2 e
 ·obtain⟨q1,q2,q3,q4,q5⟩:=s.ds d hd;exact⟨q1,q2,q3,fun h=>q4 (howns h),q5⟩
 ·exact⟨fun _ _=>rfl,fun h=>h,Nat.le_refl _,fun _ _ _ _=>rfl,fun _ h=>h,fun _ h=>.inl h,fun k y _ h=>(by obtain⟨w0,g1,_⟩:=hh k y.1 y.2 h;exact⟨_,g1⟩),fun k y hk h=>(by obtain⟨w0,g1,_⟩:=hh k y.1 y.2 h;exact .inr ⟨k,_,hk,g1,rfl⟩),fun _ h=>.inl h,fun _ h _ _=>h⟩
end
attribute [local irreducible] CoW OpW FlW Step Spec
def hdZ:Hdr:=⟨0,joq,joq,joq,0⟩
noncomputable def refW(c:Nat):W:=.tup [noT,hdW hdZ,.nils,.int .i64 (c:Int)]
theorem ref_w(c:Nat):W.tup [noT,.agg 98 [.int .i64 0,qjq,qjq,qjq,.int .i64 0],.nils,.int .i64 (c:Int)]=refW c:=by
 unfold refW hdW hdZ;rw[<-xeq];rfl
def MayBk(t:Tree)(p:Hdr):Prop:=MayA t/\okH p/\p.height≠1073741824
theorem max_op{m n:Nat}{k:IntKind}:W.int k (match ltI (m:Int) (n:Int) with|true=>(n:Int)|false=>(m:Int))= .int k ((max m n:Nat):Int):=by
 cases h:ltI (m:Int) (n:Int) with
 |true=>have:=ltI_iff.1 h;exact congrArg (W.int k) (by show(n:Int)=_;omega)
 | false => have:¬((m:Int)<n):=fun q=>by rw[ltI_iff.2 q] at h;cases h
            exact congrArg (W.int k) (by show(m:Int)=_;omega)
theorem apply_many(t:Tree)(p:Hdr)(ds:List Depo)(xs:List Tx)(f g:Bool)(box:Dig)(hb:t.nodes.length<=4611686018427387903)(h:MayBk t p)(hm:16<ds.length\/16<xs.length):PS cfg glK 19 [tW t,hdW p,bodW ds xs f g,dW box] (refW 4):=by
 have c:=qCq (G:=glK) t hb;rw[if_pos h.1] at c;have e1:(ds.map pdW).length=ds.length:=List.length_map _;have e2:(xs.map txW).length=xs.length:=List.length_map _;refine zNq (fn:=Tryz.f19) O O O (Ob rfl) (fun R k0=>?_);refine ziq 15 O ?_;refine zkq O O O O O O (Q7q p h.2.1) ?_;refine zaq 13 O ?_;refine zkq O O O O O O (c) ?_;refine zfq (w':=.bool false) O O (congrArg W.bool Xg) ?_;refine zaq 2 O ?_;refine zfq (w':=.bool false) O O (congrArg W.bool Xg) ?_;refine zaq 4 O ?_;refine zfq (w':=.bool false) O O (congrArg W.bool (eqI_not.2 h.2.2)) ?_;refine zaq 9 O ?_;refine zfq (w':=.int .i64 (ds.length:Int)) O O Ys ?_;refine zaq 2 O ?_;refine zfq (w':=.int .i64 (xs.length:Int)) O O Yj ?_;refine zfq (w':=.int .i64 ((max ds.length xs.length:Nat):Int)) O O max_op (zfq (w':=.bool true) O O (congrArg W.bool (ltI_iff.2 Xd)) ?_);refine zaq 17 O ?_;exact zhq (.inr rfl) rfl (ref_w _)
end
section
theorem uaq{blk:Nat->Option W}{b:Nat}{P H:HpW}:∀{Q:HpW},ZGq blk b P Q->ZGq blk b (P++H) Q
 |[],_=>trivial
 |(k,ty,w)::Q,h=>by
  obtain⟨⟨h1,w0,h2,h3⟩,h4⟩:=h;exact⟨⟨h1,w0,xWq h2,h3⟩,uaq h4⟩
noncomputable def wkF(t:Tree)(box:Dig)(L:List Rec):W:=.agg 35 [tW t,dW box,.fz (L.map recW) 34 false]
@[simp] theorem wkF_pur(t:Tree)(box:Dig)(L:List Rec):purW (wkF t box L)=true:=by
 show(purW (tW t)&&(purW (dW box)&&(purW (.fz (L.map recW) 34 false)&&true)))=true;rw[qnq,kqq,show purW (.fz (L.map recW) 34 false)=true from jUq L];rfl
theorem ent_wkF{G:Nat->Option W}{m k0:Nat}{fr fr2:FrW}{nw:Nat}{R:Res}{P P2:HpW}{w0 k:Nat}{t:Tree}{box:Dig}{L:List Rec}(hm:m<=k)(hw:w0≠k)(hf:∀blk:Nat->Option W,(∀i,i≠k->blk i=none) ->subV blk fr fr2)(hP:∀blk:Nat->Option W,(∀i,i≠k->blk i=none) ->ZGq blk k P P2)(hPk:∀p∈P,p.1≠w0/\p.1≠k)(nd:((P2++([(w0,170,wkF t box L)]:HpW)).map (·.1)).Nodup):Ent cfg G m k0 fr (P++wkH w0 k t box L) nw R fr2 (P2++[(w0,170,wkF t box L)]) nw R:=by
 have h1:=hget_wk (w0:=w0) (k:=k) (P:=P) (t:=t) (box:=box) (L:=L) fun p hp=>(hPk p hp).1
 have hpl:=jUq L;cases e:L.map recW with
 |nil=>
  have key:ZGq (fun _=>none) k (P++wkH w0 k t box L) (P2++[(w0,170,wkF t box L)]):=ZFq (uaq (hP _ fun _ _=>rfl)) ⟨⟨hw,_,h1,by unfold wkW wkF;rw[e];exact .agg (.cons (.pur (qnq t)) (.cons (.pur (kqq box)) (.cons .nilfz .nil)))⟩,trivial⟩;exact ent_viewH (hf _ fun _ _=>rfl) (fun i ty w h=>(ZEq key i ty w h).2) nd
 |cons x r=>
  have hpa:purW (.arr ((x::r).length*34) 34 (x::r))=true:=by rw[e] at hpl;exact hpl
  have hne:∀i,i≠k->blk1 k (.arr ((x::r).length*34) 34 (x::r)) i=none:=fun i hi=>by
   unfold blk1
   have:Nat.beq i k=false:=by
    cases q:Nat.beq i k with
    |true=>exact absurd (Nat.eq_of_beq_eq_true q) hi
    |false=>rfl
   rw[this]
  exact vNq k fr2 _ (hget_wkl (fun p hp=>(hPk p hp).2) hw e) hpa hm (hf _ hne) (ZFq (uaq (hP _ hne)) ⟨⟨hw,_,h1,by unfold wkW wkF;rw[e];exact .agg (.cons (.pur (qnq t)) (.cons (.pur (kqq box)) (.cons (.sl (c:=.arr ((x::r).length*34) 34 (x::r)) (by unfold blk1;rw[Nat.beq_refl]) hpa (zCq Xr O O) Xj) .nil)))⟩,trivial⟩) nd
attribute [local irreducible] CoW OpW FlW Step Spec
attribute [local simp] jUq
@[local simp] theorem rws_pur(L:List Rec):purL (L.map (bW∘recB))=true:=y7q (fun r=>by simp) L
@[local simp] theorem rws_pur2(L:List Rec)(i:Nat):purL ((L.map (bW∘recB)).take i)=true:=by rw[<-List.map_take];exact rws_pur _
theorem gv_code(l:List Pr)(d:Depo):(gvL l d).2=0\/(gvL l d).2=151:=by
 unfold gvL;split
 ·exact .inl rfl
 ·exact .inr rfl
theorem paid_code(l:List Pr)(x:Tx)(box:Dig):(y6q l x box).2=0\/(y6q l x box).2=151\/(y6q l x box).2=150:=by
 unfold y6q;split
 ·split
  ·exact .inr (.inl rfl)
  ·split
   ·exact .inr (.inl rfl)
   ·exact .inl rfl
 ·exact .inr (.inr rfl)
theorem doD_rec:∀{ds:List Depo} {l:List Pr},∀r∈(doD l ds).2,r.kind=1/\okR r
 |[],l,r,h=>by cases h
 |d::ds,l,r,h=>by
  rcases List.mem_cons.1 h with rfl|h
  ·exact⟨rfl,.inl rfl,by rcases gv_code l d with e|e<;>simp[e]⟩
  ·exact doD_rec r h
theorem doX_rec{box:Dig}:∀{xs:List Tx} {l:List Pr} {q:List Pr×List Rec},doX box l xs=some q->∀r∈q.2,r.kind=2/\okR r
 |[],l,q,e,r,h=>by cases e;cases h
 |x::xs,l,q,e,r,h=>by
  by_cases hg:goX l x
  ·rw[x1q hg] at e;cases e2:doX box (y6q l x box).1 xs with
   |none=>rw[e2] at e;cases e
   |some s=>
    rw[e2] at e;cases e;rcases List.mem_cons.1 h with rfl|h
    ·exact⟨rfl,.inr rfl,by rcases paid_code l x box with e|e|e<;>simp[e]⟩
    ·exact doX_rec e2 r h
  ·rw[show doX box l (x::xs)=none from if_neg hg] at e;cases e
theorem Ytq{box:Dig}:∀{xs:List Tx} {l:List Pr} {q:List Pr×List Rec},doX box l xs=some q->q.2.length=xs.length
 |[],l,q,e=>by cases e;rfl
 |x::xs,l,q,e=>by
  by_cases hg:goX l x
  ·rw[x1q hg] at e;cases e2:doX box (y6q l x box).1 xs with
   |none=>rw[e2] at e;cases e
   |some s=>
    rw[e2] at e;cases e;exact congrArg (· +1) (Ytq e2)
  ·rw[show doX box l (x::xs)=none from if_neg hg] at e;cases e
theorem Yuq:∀(ds:List Depo) (l:List Pr),(doD l ds).2.length=ds.length
 |[],l=>rfl
 |d::ds,l=>congrArg (· +1) (Yuq ds (gvL l d).1)
noncomputable def jbq(p:Hdr)(t1:T)(L:List Rec):Hdr:=⟨p.height+1,hashD p,sumD t1,rootD (L.map recB),L.length⟩
def ApA(t:Tree)(t0:T)(p:Hdr)(ds:List Depo)(xs:List Tx)(box:Dig):W->Prop:=fun w=>(∃t' n' t1 rs,IsA t' n' t1/\kiq t (257*ds.length+1028*xs.length) t1.all t' t1/\doX box (doD t0.all ds).1 xs=some (t1.all,rs)/\w= .tup [tW t',hdW (jbq p t1 ((doD t0.all ds).2++rs)),.fz (((doD t0.all ds).2++rs).map recW) 34 false,.int .i64 0])\/(doX box (doD t0.all ds).1 xs=none/\w=refW (badX box (doD t0.all ds).1 xs))
noncomputable def apP(p:Hdr)(ds:List Depo)(xs:List Tx)(f g:Bool):HpW:=[(1,28,hdW p),(2,32,bodW ds xs f g),(4,24,noT),(5,28,.agg 98 [.int .i64 0,qjq,qjq,qjq,.int .i64 0]),(6,26,dW (hashD p))]
theorem ap_sub(p:Hdr)(ds:List Depo)(xs:List Tx)(f g:Bool):subH (apP p ds xs f g) 8 (apP p ds xs f g):=⟨⟨by decide,rfl,zeq (Z9q p)⟩,⟨by decide,rfl,zeq (Jwq ds xs f g)⟩,⟨by decide,rfl,rfl⟩,⟨by decide,rfl,rfl⟩,⟨by decide,rfl,zeq (kqq _)⟩,trivial⟩
theorem numC_thr(n:Nat):numC [7,8] 9 (thr2 n)=8\/numC [7,8] 9 (thr2 n)=9:=by
 cases n with
 |zero=>exact .inl rfl
 |succ n=>exact .inr rfl
theorem apply_s(t:Tree)(n:Nat)(t0:T)(hA:IsA t n t0)(p:Hdr)(hp:okH p)(hp2:p.height≠1073741824)(ds:List Depo)(xs:List Tx)(f g:Bool)(hds:∀d∈ds,d.number<18446744073709551616/\d.amount<18446744073709551616)(hxs:∀x∈xs,x.ok)(box:Dig)(hm:ds.length<=16/\xs.length<=16)(hf:t.nodes.length+300*ds.length+1200*xs.length<=260944):PE cfg glK 19 [tW t,hdW p,bodW ds xs f g,dW box] (ApA t t0 p ds xs box):=by
 have yes:MayA t:=⟨n,t0,hA⟩;obtain⟨q1,q2,q3,q4⟩:=hp;have c:=qCq (G:=glK) t Xd;rw[if_pos yes] at c;have hvals:∀x∈t.nodes,x.val.length<=70368744177664:=IsT.vals (root:=t.root) hA.toIsT
 have e0:(t.nodes.map nW).length=t.nodes.length:=List.length_map _;have e1:(ds.map pdW).length=ds.length:=List.length_map _;have e2:(xs.map txW).length=xs.length:=List.length_map _;have pfd:purW (.fz (ds.map pdW) 34 f)=true:=y7q uhq ds;have pfx:purW (.fz (xs.map txW) 99 g)=true:=y7q jeq xs;unfold ApA;have hdl:=Yuq ds t0.all;have hdr:= @doD_rec ds t0.all;obtain⟨D,eD⟩:∃D,doD t0.all ds=D:=⟨_,rfl⟩
 rw[eD] at hdl hdr⊢;refine jGq (fn:=Tryz.f19) O O O (Ob rfl) (fun R k0=>?_);refine ziq 15 O ?_;refine zkq O O O O O O (Q7q p ⟨q1,q2,q3,q4⟩) ?_;refine zaq 13 O ?_;refine zkq O O O O O O (c) ?_;refine zfq (w':=.bool false) O O (congrArg W.bool Xg) ?_;refine zaq 2 O ?_;refine zfq (w':=.bool false) O O (congrArg W.bool Xg) ?_;refine zaq 4 O ?_;refine zfq (w':=.bool false) O O (congrArg W.bool (eqI_not.2 hp2)) ?_;refine zaq 9 O ?_;refine zfq (w':=.int .i64 (ds.length:Int)) O O Ys ?_;refine zaq 2 O ?_;refine zfq (w':=.int .i64 (xs.length:Int)) O O Yj ?_;refine zfq (w':=.int .i64 ((max ds.length xs.length:Nat):Int)) O O max_op (zfq (w':=.bool false) O O (congrArg W.bool (ltI_not.2 Xd)) ?_);refine zaq 8 O ?_;refine zfq (w':=.int .i64 (t.nodes.length:Int)) O O (by rw[<-e0];rfl) ?_;refine zaq 2 O ?_;refine zfq (w':=.int .i64 (ds.length:Int)) O O Ys ?_;refine zuq (300*ds.length) O O Xm ⟨by omega,by omega⟩ ?_;refine zuq (260944-300*ds.length) O O Xm ⟨by omega,by omega⟩ ?_;refine zaq 2 O ?_;refine zfq (w':=.int .i64 (xs.length:Int)) O O Yj ?_;refine zuq (1200*xs.length) O O Xm ⟨by omega,by omega⟩ ?_;refine zuq (260944-300*ds.length-1200*xs.length) O O Xm ⟨by omega,by omega⟩ ?_;refine zfq (w':=.bool false) O O (congrArg W.bool (ltI_not.2 Xd)) ?_;refine zaq 10 O ?_;refine qJq O O O O O O (x9q t Xd hvals) ?_;refine zsq 9 O ?_
 (refine Z0q (fun _=>Ent.trans (ent_up (fr2:=[(5,.ptr 1 0),(6,.ptr 2 0),(8,.ptr 4 0),(9,.ptr 5 0),(10,.nils),(11,.int .i64 0),(12,.ptr 6 0),(14,.ptr 7 0)]) ⟨rfl,rfl,rfl,rfl,rfl,rfl,rfl,rfl,trivial⟩) (y2q (nw2:=9) (hp2:=(apP p ds xs f g)++wkH 7 8 t box []) (fr2:=[(5,.ptr 1 0),(6,.ptr 2 0),(8,.ptr 4 0),(9,.ptr 5 0),(10,.nils),(11,.int .i64 0),(12,.ptr 6 0),(14,.ptr 7 0)]) (Nat.zero_le _) Xr ⟨rfl,rfl,rfl,rfl,rfl,rfl,rfl,rfl,trivial⟩ rfl (qaq ⟨⟨by decide,rfl,zeq (Z9q p)⟩,⟨by decide,rfl,zeq (Jwq ds xs f g)⟩,⟨by decide,rfl,rfl⟩,⟨by decide,rfl,rfl⟩,⟨by decide,rfl,zeq (kqq _)⟩,⟨by decide,rfl,ref_wk Xr t box []⟩,trivial⟩) (by show([1,2,4,5,6,7]:List Nat).Nodup;decide))) ?_;refine zbq O O ?_)
 refine zaq 3 O ?_
 (refine zoq rfl (ubq 7 8 (apP p ds xs f g) (ws:=[.fz (ds.map pdW) 34 f,.fn 94 [.ptr 0 0] []]) O O O O (by show [W.fz (ds.map pdW) 34 f,W.fn _ [.ptr 7 0] []]=[renW _ (W.fz (ds.map pdW) 34 f),W.fn _ [.ptr 7 0] []];rw[zjq pfd]) (by show(refB 2 (W.fz (ds.map pdW) 34 f)&&(refB 2 (W.fn _ [.ptr 0 0] [])&&true))=true;rw[zeq pfd];rfl) rfl (by simp[apP]) Xr Xr Xr (eachd_s t n t0 hA box [] ds f hds hm.1 Xl Xd) ?_);rintro w hp1 nw1 ⟨t1,n1,u1,hT,hgo,rfl,rfl,rfl⟩;rw[vzq];have hk:=numC_thr ds.length;generalize numC [7,8] 9 (thr2 ds.length)=k1 at hk⊢;rw[eD] at hgo⊢;refine Z0q (fun _=>Qrq (w0:=7) (b:=8) (k:=k1) (P:=(apP p ds xs f g)) (P2:=(apP p ds xs f g)) (fr2:=[(5,.ptr 1 0),(6,.ptr 2 0),(8,.ptr 4 0),(9,.ptr 5 0),(10,.nils),(11,.int .i64 0),(12,.ptr 6 0),(14,.ptr 7 0),(77,.int .i64 0)]) (Nat.zero_le _) Xr Xd Xd ⟨rfl,rfl,rfl,rfl,rfl,rfl,rfl,rfl,rfl,trivial⟩ ⟨rfl,rfl,rfl,rfl,rfl,rfl,rfl,rfl,rfl,trivial⟩ rfl (ap_sub ..) (by simp[apP]) (by simp[apP])) ?_)
 refine zaq 6 O ?_;refine zfq (w':=.bool true) O O (congrArg W.bool Xg) ?_;refine zaq 8 O ?_;skip
 have hle:=ext_le hgo.2;skip
 refine zoq rfl (ubq 7 8 (apP p ds xs f g) (ws:=[.fz (xs.map txW) 99 g,.fn 96 [.ptr 0 0] []]) O O O O (by show [W.fz (xs.map txW) 99 g,W.fn _ [.ptr 7 0] []]=[renW _ (W.fz (xs.map txW) 99 g),W.fn _ [.ptr 7 0] []];rw[zjq pfx]) (by show(refB 2 (W.fz (xs.map txW) 99 g)&&(refB 2 (W.fn _ [.ptr 0 0] [])&&true))=true;rw[zeq pfx];rfl) rfl (by simp[apP]) Xr Xr Xr (eachx_s t1 n1 u1 hT box ([]++D.2) xs g hxs hm.2 (by show D.2.length<=100;omega) Xd) ?_);rintro w hp1 nw1 (⟨t2,n2,u2,rs,hT2,hgo2,hst,rfl,rfl,rfl⟩|⟨hst,rfl,rfl,rfl⟩)
 ·skip
  rw[vzq];have hk:=numC_thr xs.length;generalize numC [7,8] 9 (thr2 xs.length)=k2 at hk⊢;refine Z0q (fun _=>Qrq (w0:=7) (b:=8) (k:=k2) (P:=(apP p ds xs f g)) (P2:=(apP p ds xs f g)) (fr2:=[(5,.ptr 1 0),(8,.ptr 4 0),(9,.ptr 5 0),(10,.nils),(11,.int .i64 0),(12,.ptr 6 0),(14,.ptr 7 0),(84,.int .i64 0)]) (Nat.zero_le _) Xr Xd Xd ⟨rfl,rfl,rfl,rfl,rfl,rfl,rfl,rfl,trivial⟩ ⟨rfl,rfl,rfl,rfl,rfl,rfl,rfl,rfl,trivial⟩ rfl (ap_sub ..) (by simp[apP]) (by simp[apP])) ?_;rw[hgo.1] at hst;have hrl:=Ytq hst;have hrr:= @doX_rec box xs D.1 _ hst;simp only at hrl hrr;have hLl:(D.2++rs).length=ds.length+xs.length:=by rw[List.length_append];omega
  have hLk:∀r∈D.2++rs,okR r:=fun r h=>by
   rcases List.mem_append.1 h with h|h
   ·exact(hdr r h).2
   ·exact(hrr r h).2
  have hext:=Yoq hgo.2 hgo2.2;show OpW _ _ _ _ _ _ (apP p ds xs f g++wkH 7 8 t2 box (D.2++rs)) _ _ _;obtain⟨L,hLe⟩:∃L,D.2++rs=L:=⟨_,rfl⟩
  rw[hLe] at hLl hLk⊢;have eL:(L.map recW).length=L.length:=List.length_map _
  have hrow:∀q∈L.map recB,q.length<=4096:=fun q h=>by
   obtain⟨r,_,rfl⟩:=List.mem_map.1 h;rw[recB_len];omega
  refine zaq 7 O ?_;refine zfq (w':=.bool false) O O (congrArg W.bool Xg) ?_;refine zaq 13 O ?_
  (refine Z0q (fun _=>ent_wkF (w0:=7) (k:=8) (P2:=[(1,28,hdW p),(4,24,noT),(5,28,.agg 98 [.int .i64 0,qjq,qjq,qjq,.int .i64 0]),(6,26,dW (hashD p))]) (fr2:=[(5,.ptr 1 0),(8,.ptr 4 0),(9,.ptr 5 0),(10,.nils),(11,.int .i64 0),(12,.ptr 6 0),(14,.ptr 7 0),(15,.nils)]) (Nat.zero_le _) Xr (fun blk h=>⟨⟨_,rfl,.ptrK (h 1 Xr)⟩,⟨_,rfl,.ptrK (h 4 Xr)⟩,⟨_,rfl,.ptrK (h 5 Xr)⟩,⟨_,rfl,.pur rfl⟩,⟨_,rfl,.pur rfl⟩,⟨_,rfl,.ptrK (h 6 Xr)⟩,⟨_,rfl,.ptrK (h 7 Xr)⟩,⟨_,rfl,.pur rfl⟩,trivial⟩) (fun blk h=>⟨⟨by decide,_,rfl,.pur Xl⟩,⟨by decide,_,rfl,.pur rfl⟩,⟨by decide,_,rfl,.pur rfl⟩,⟨by decide,_,rfl,.pur Xl⟩,trivial⟩) (by simp[apP]) (by show([1,4,5,6,7]:List Nat).Nodup;decide)) ?_;refine zbq O O ?_)
  refine zaq 3 O ?_;refine zfq (w':=.int .i64 (L.length:Int)) O O (by rw[<-eL];rfl) ?_;refine zaq 4 O ?_;refine Juq (α:=Nat) (fun i=>i<=L.length) 15 (fun i=>((L.map recB).take i).map bW) 53 1 (fun i=>[(95,.int .i64 (i:Int))]) [(5,_),(8,_),(9,_),(10,_),(11,_),(12,_),(14,_),(93,_),(94,_)] _ (fun i=>L.length-i) (0) ⟨rfl,rfl,rfl,rfl,rfl,rfl,rfl,rfl,rfl,trivial⟩ (Nat.zero_le _) ⟨rfl,trivial⟩ O O O (fun i hI=>?_);refine ziq 6 O ?_;refine zEq rfl (fun h1=>?_) (fun h1=>?_)
  ·have hi:i<L.length:=by omega
   obtain⟨r,hx⟩:∃r,L[i]? =some r:=⟨_,List.getElem?_eq_getElem hi⟩
   have hr:=hLk r (List.mem_of_getElem? hx);have hnx:((L.map recB).take (i+1)).map bW=((L.map recB).take i).map bW++[bW (recB r)]:=by rw[List.take_add_one,List.getElem?_map,hx,List.map_append];rfl
   have hlt:(((L.map recB).take i).map bW).length<=100:=by rw[List.length_map,List.length_take,List.length_map];omega
   refine zgq 6 O ?_;refine zbq rfl (zBq (i:=i) O O O O O O O (z9q recW hx)) ?_;refine zaq 8 O ?_;refine zkq O O O O O O (rbytes_s r hr) ?_;refine zaq 11 O ?_;refine zwq rfl (quq O O (Qyq [_,_,_,_,_,_,_] (k:=ti53) (news:=[bW (recB r)]) O O O O O (jrq O O O O) Xl (by show((((L.map recB).take i).map bW).length+1)*24<=_;omega) (by show(((L.map recB).take i).map bW).length+1<=_;omega) rfl Xl)) ?_;refine zaq 5 O ?_;refine zuq (i+1) O O Xm ⟨by omega,by omega⟩ ?_;refine y5q 2 O ?_;exact uOq 12 (i+1) (hi) Xd (Nat.zero_le _) (hnx) Yn Xd Yz rfl Yp ⟨rfl,trivial⟩ ⟨rfl,rfl,rfl,rfl,rfl,rfl,rfl,rfl,rfl,trivial⟩ Xh Xh rfl Xo Xq Yk
  ·have hi:i=L.length:=by omega
   subst hi;have eB:((L.map recB).map bW).length=L.length:=by rw[List.length_map,List.length_map]
   have pB:purL ((L.map recB).map bW)=true:=bWs_pur _;rw[show(L.map recB).take L.length=L.map recB from List.take_of_length_le (by rw[List.length_map];omega)];refine zgq 2 O ?_;refine jaq Xj ?_;refine zDq 4 O ?_
   (refine Z0q (fun _=>ent_frg (b:=9) (X:=[(1,28,hdW p),(4,24,noT),(5,28,.agg 98 [.int .i64 0,qjq,qjq,qjq,.int .i64 0]),(6,26,dW (hashD p)),(7,170,wkF t2 box L)]) (fr2:=[(5,.ptr 1 0),(8,.ptr 4 0),(9,.ptr 5 0),(12,.ptr 6 0),(14,.ptr 7 0)]) 15 Xr pB (Nat.zero_le _) rfl (fun blk h=>⟨⟨_,rfl,.ptrK (h 1 Xr)⟩,⟨_,rfl,.ptrK (h 4 Xr)⟩,⟨_,rfl,.ptrK (h 5 Xr)⟩,⟨_,rfl,.ptrK (h 6 Xr)⟩,⟨_,rfl,.ptrK (h 7 Xr)⟩,trivial⟩) (fun blk h=>⟨⟨by decide,_,rfl,.pur Xl⟩,⟨by decide,_,rfl,.pur rfl⟩,⟨by decide,_,rfl,.pur rfl⟩,⟨by decide,_,rfl,.pur Xl⟩,⟨by decide,_,rfl,.pur Xl⟩,trivial⟩) (by show([1,4,5,6,7]:List Nat).Nodup;decide) Xl) ?_;refine zbq O O ?_)
   refine zwq O O ?_;first|refine ypq O O ⟨by omega,by omega⟩ ?_|refine zbq O O ?_
   refine zaq 2 O ?_;refine zfq (w':=.int .i64 (L.length:Int)) O O (by rw[<-eB];rfl) ?_;refine zaq 10 O ?_;refine zkq O O O O O O (tsum_ok t2 n2 u2 hT2.toIsT) ?_;refine zaq 10 O ?_;refine zkq O O O O O O (rRoot_s (L.map recB) false (by rw[List.length_map];omega) hrow) ?_;refine zaq 25 O ?_;exact qoq (w':=.tup [tW t2,hdW (jbq p u2 L),.fz (L.map recW) 34 false,.int .i64 0]) (.inr rfl) rfl (.pur (by simp[purW,purL])) (by simp[purW,purL]) (.inl ⟨t2,n2,u2,rs,hT2,⟨rfl,hext⟩,hst,by rw[hLe]⟩)
 ·skip
  have hbn:=bad_no hst;refine zaq 7 O ?_;refine zfq (w':=.bool true) O O (congrArg (fun b=>W.bool (!b)) (eqI_not.2 Xd)) ?_;refine zaq 16 O ?_;refine qoq (w':=.tup [noT,.agg 98 [.int .i64 0,qjq,qjq,qjq,.int .i64 0],.nils,.int .i64 (badX box u1.all xs:Nat)]) (.inr rfl) rfl (.pur rfl) rfl (.inr ?_);rw[hgo.1] at hst⊢;exact⟨hst,ref_w _⟩
end
section
attribute [local irreducible] CoW OpW FlW Step Spec
theorem ap_some{t:Tree}{t0:T}{p:Hdr}{ds:List Depo}{xs:List Tx}{box:Dig}{w:W}(h:ApA t t0 p ds xs box w){l:List Pr}{rs:List Rec}(e:doX box (doD t0.all ds).1 xs=some (l,rs)):∃t' n' t1,IsA t' n' t1/\kiq t (257*ds.length+1028*xs.length) l t' t1/\w= .tup [tW t',hdW (jbq p t1 ((doD t0.all ds).2++rs)),.fz (((doD t0.all ds).2++rs).map recW) 34 false,.int .i64 0]:=by
 rcases h with ⟨t',n',t1,rs',hT,hgo,hst,hw⟩|⟨hst,_⟩
 ·rw[e] at hst;cases hst;exact⟨t',n',t1,hT,⟨hgo.1,hgo.2⟩,hw⟩
 ·rw[e] at hst;cases hst
theorem ap_none{t:Tree}{t0:T}{p:Hdr}{ds:List Depo}{xs:List Tx}{box:Dig}{w:W}(h:ApA t t0 p ds xs box w)(e:doX box (doD t0.all ds).1 xs=none):w=refW (badX box (doD t0.all ds).1 xs):=by
 rcases h with ⟨t',n',t1,rs',hT,hgo,hst,hw⟩|⟨_,hw⟩
 ·rw[e] at hst;cases hst
 ·exact hw
end
theorem fit_tx{w:W}(h:Fit (.st 99 [.arr 32 1 (.int .u8),.arr 32 1 (.int .u8),.int .u64,.int .u64,.int .u64,.arr 32 1 (.int .u8)]) w):∃x:Tx,w=txW x/\x.ok:=by
 obtain⟨l,rfl,w1,l1,rfl,h1,w2,l2,rfl,h2,w3,l3,rfl,h3,w4,l4,rfl,h4,w5,l5,rfl,h5,w6,l6,rfl,h6,rfl⟩:=h;obtain⟨a,rfl⟩:=fit_dig h1;obtain⟨b,rfl⟩:=fit_dig h2;obtain⟨n,rfl,hn⟩:=Ygq h3;obtain⟨m,rfl,hm⟩:=Ygq h4;obtain⟨f,rfl,hf⟩:=Ygq h5;obtain⟨s,rfl⟩:=fit_dig h6;exact⟨⟨a,b,n,m,f,s⟩,rfl,hn,hm,hf⟩
section
attribute [local irreducible] CoW OpW FlW Step Spec
variable {G:Nat->Option W}
structure BodOk(ds:List Depo)(xs:List Tx):Prop where
 dep:∀d∈ds,d.number<18446744073709551616/\d.amount<18446744073709551616
 tx:∀x∈xs,x.ok
 dl:ds.length<=140737488351232
 xl:xs.length<=140737488351232
theorem fit_depo2{w:W}(h:Fit (.st 34 [.int .u64,.arr 32 1 (.int .u8),.int .u64]) w):∃d:Depo,w=pdW d/\d.number<18446744073709551616/\d.amount<18446744073709551616:=by
 obtain⟨l,rfl,w1,l1,rfl,h1,w2,l2,rfl,h2,w3,l3,rfl,h3,rfl⟩:=h;obtain⟨n,rfl,hn⟩:=Ygq h1;obtain⟨k,rfl⟩:=fit_dig h2;obtain⟨m,rfl,hm⟩:=Ygq h3;exact⟨⟨n,k,m⟩,rfl,hn,hm⟩
theorem fit_hdr{w:W}(h:Fit (.st 98 [.int .i64,.arr 32 1 (.int .u8),.arr 32 1 (.int .u8),.arr 32 1 (.int .u8),.int .i64]) w):∃p:Hdr,w=hdW p/\p.height<=9223372036854775807:=by
 obtain⟨l,rfl,w1,l1,rfl,h1,w2,l2,rfl,h2,w3,l3,rfl,h3,w4,l4,rfl,h4,w5,l5,rfl,h5,rfl⟩:=h;obtain⟨i,rfl,_,hi⟩:=upq h1;obtain⟨a,rfl⟩:=fit_dig h2;obtain⟨b,rfl⟩:=fit_dig h3;obtain⟨c,rfl⟩:=fit_dig h4;obtain⟨j,rfl,_⟩:=upq h5;exact⟨⟨i,a,b,c,j⟩,rfl,hi⟩
theorem fit_body{w:W}(h:Fit (.st 2 [.sl 34 48 (.st 34 [.int .u64,.arr 32 1 (.int .u8),.int .u64]),.sl 99 120 (.st 99 [.arr 32 1 (.int .u8),.arr 32 1 (.int .u8),.int .u64,.int .u64,.int .u64,.arr 32 1 (.int .u8)])]) w):∃ds xs,w=bodW ds xs false false/\BodOk ds xs:=by
 obtain⟨l,rfl,w1,l1,rfl,h1,w2,l2,rfl,h2,rfl⟩:=h;obtain⟨ds,rfl,hl,hd⟩:=fit_sl h1 fun x hx=>fit_depo2 hx
 obtain⟨xs,rfl,hl2,hx⟩:=fit_sl h2 fun x hx=>fit_tx hx
 exact⟨ds,xs,rfl,hd,hx,by omega,by omega⟩
def yRq(ds:List Depo)(xs:List Tx):Prop:=(4<ds.length/\ds.length<=16)\/20<ds.length\/(4<xs.length/\xs.length<=16)\/20<xs.length
noncomputable instance(ds:List Depo)(xs:List Tx):Decidable (yRq ds xs):=Classical.propDecidable _
theorem kHq(ds:List Depo)(xs:List Tx)(f g:Bool):PS cfg G 16 [bodW ds xs f g] (.bool (decide (yRq ds xs))):=by
 have e1:(ds.map pdW).length=ds.length:=List.length_map _;have e2:(xs.map txW).length=xs.length:=List.length_map _;refine zNq (fn:=Tryz.f16) O O O (Ob rfl) (fun R k0=>?_);refine ziq 10 O ?_;refine zfq (w':=.int .i64 (ds.length:Int)) O O Ys ?_;refine qhq O O (fun h1=>?_) (fun h1=>?_)
 ·refine zaq 3 O ?_;refine zfq (w':=.int .i64 (ds.length:Int)) O O Ys ?_;refine qhq O O (fun h2=>?_) (fun h2=>?_)
  ·refine zaq 29 O ?_;exact zhq (.inr rfl) rfl Xp
  ·refine zaq 4 O ?_;refine zfq (w':=.int .i64 (ds.length:Int)) O O Ys ?_;refine qhq O O (fun h3=>?_) (fun h3=>?_)
   ·refine zaq 23 O ?_;exact zhq (.inr rfl) rfl Xp
   ·refine zaq 4 O ?_;refine zfq (w':=.int .i64 (xs.length:Int)) O O Yj ?_;refine qhq O O (fun h4=>?_) (fun h4=>?_)
    ·refine zaq 3 O ?_;refine zfq (w':=.int .i64 (xs.length:Int)) O O Yj ?_;refine qhq O O (fun h5=>?_) (fun h5=>?_)
     ·refine zaq 12 O ?_;exact zhq (.inr rfl) rfl Xp
     ·refine zaq 5 O ?_;refine zfq (w':=.int .i64 (xs.length:Int)) O O Yj ?_;refine yWq O O ?_;refine zaq 5 O ?_;exact zhq (.inr rfl) rfl Xp
    ·refine zaq 10 O ?_;refine zfq (w':=.int .i64 (xs.length:Int)) O O Yj ?_;refine yWq O O ?_;refine zaq 5 O ?_;exact zhq (.inr rfl) rfl Xp
 ·refine zaq 9 O ?_;refine zfq (w':=.int .i64 (ds.length:Int)) O O Ys ?_;refine qhq O O (fun h2=>?_) (fun h2=>?_)
  ·refine zaq 23 O ?_;exact zhq (.inr rfl) rfl Xp
  ·refine zaq 4 O ?_;refine zfq (w':=.int .i64 (xs.length:Int)) O O Yj ?_;refine qhq O O (fun h3=>?_) (fun h3=>?_)
   ·refine zaq 3 O ?_;refine zfq (w':=.int .i64 (xs.length:Int)) O O Yj ?_;refine qhq O O (fun h4=>?_) (fun h4=>?_)
    ·refine zaq 12 O ?_;exact zhq (.inr rfl) rfl Xp
    ·refine zaq 5 O ?_;refine zfq (w':=.int .i64 (xs.length:Int)) O O Yj ?_;refine yWq O O ?_;refine zaq 5 O ?_;exact zhq (.inr rfl) rfl Xp
   ·refine zaq 10 O ?_;refine zfq (w':=.int .i64 (xs.length:Int)) O O Yj ?_;refine yWq O O ?_;refine zaq 5 O ?_;exact zhq (.inr rfl) rfl Xp
end
theorem T.uniq:∀{a b:T} {d:Nat} {k:Dig},Zr d k->a.ok d k=true->b.ok d k=true->a.all=b.all->a=b
 |.nil,b,d,k,_,_,hb,e=>by
  cases b with
  |nil=>rfl
  |leaf=>simp[T.all] at e
  |fork l r=>
   obtain⟨_,h1,h2,h3⟩:=ok_fork.1 hb;have:=two_len h1 h2 h3;have e2:=congrArg List.length e;simp only[T.all,List.length_append,List.length_cons,List.length_nil] at e2;omega
 |.leaf x v,b,d,k,_,_,hb,e=>by
  cases b with
  |nil=>simp[T.all] at e
  |leaf=>simp only[T.all,List.cons.injEq,Prod.mk.injEq,and_true] at e;rw[e.1,e.2]
  |fork l r=>
   obtain⟨_,h1,h2,h3⟩:=ok_fork.1 hb;have:=two_len h1 h2 h3;have e2:=congrArg List.length e;simp only[T.all,List.length_append,List.length_cons,List.length_nil] at e2;omega
 |.fork l r,b,d,k,hz,ha,hb,e=>by
  obtain⟨hd,h1,h2,h3⟩:=ok_fork.1 ha;have t1:=two_len h1 h2 h3;cases b with
  |nil=>
   have e2:=congrArg List.length e;simp only[T.all,List.length_append,List.length_cons,List.length_nil] at e2;omega
  |leaf=>
   have e2:=congrArg List.length e;simp only[T.all,List.length_append,List.length_cons,List.length_nil] at e2;omega
  |fork l' r'=>
   obtain⟨_,g1,g2,g3⟩:=ok_fork.1 hb
   have key:∀{l r:T},(T.fork l r).ok d k=true->l.all=(T.fork l r).all.filter (fun p=>bitN p.1 d==0)/\r.all=(T.fork l r).all.filter (fun p=>bitN p.1 d==1):=by
    intro l r h;obtain⟨b1,b2⟩:=Q0q hz h;simp only[T.all,List.filter_append];rw[Ztq (l:=l.all) (fun p hp=>by simp[b1 p hp]),u9q (l:=r.all) (fun p hp=>by simp[b2 p hp]),u9q (l:=l.all) (fun p hp=>by simp[b1 p hp]),Ztq (l:=r.all) (fun p hp=>by simp[b2 p hp])];simp
   obtain⟨k1,k2⟩:=key ha;obtain⟨k3,k4⟩:=key hb;rw[T.uniq (jdq hz) h1 g1 (by rw[k1,k3,e]),T.uniq (jcq hz hd) h2 g2 (by rw[k2,k4,e])]
theorem IsT.same{t t':Tree}{n n':Nat}{a b:T}(h:IsT t n a)(h':IsT t' n' b)(e:a.all=b.all):a=b:=T.uniq jMq h.ok h'.ok e
theorem IsA.uniq{t:Tree}{n n':Nat}{a b:T}(h:IsA t n a)(h':IsA t n' b):n=n'/\a=b:=by
 obtain rfl:n=n':=by have:=h.root;have:=h'.root;omega
 exact⟨rfl,h.rep.uniq h'.rep⟩
theorem IsA.grow{ns:List Node}{r:Int}{n:Nat}{t0:T}(h:IsA ⟨ns,r⟩ n t0){t':Tree}{n':Nat}{t1:T}(h':IsA t' n' t1)(e:∃ms,t'.nodes=ns++ms):IsA ⟨t'.nodes,r⟩ n t0:=by
 obtain⟨ms,e⟩:=e;exact⟨⟨h'.len,h'.okn,h.root,by show Rep t'.nodes n t0;rw[e];exact h.rep.app ms,h.ok⟩,h.held⟩
def recI(r:Rec):RcI:=⟨r.kind,r.id,(r.code:Int)⟩
theorem recI_w(L:List Rec):(L.map recI).map rcW=L.map recW:=by rw[List.map_map];rfl
def FolB(h p:Hdr):Prop:=okH h/\okH p/\h.height=p.height+1/\h.parent=hashD p
noncomputable instance(h p:Hdr):Decidable (FolB h p):=Classical.propDecidable _
noncomputable instance(ds:List Depo)(xs:List Tx):Decidable (BodyM ds xs):=Classical.propDecidable _
def verT(c:Ch)(r:Int):Tree:=⟨c.tree.nodes,r⟩
structure LkM(c:Ch)(i:Nat)(x:Lk):Prop where
 height:x.hdr.height=(i:Int)
 hdr:okH x.hdr
 fol:∀y,0<i->c.links[i-1]? =some y->FolB x.hdr y.hdr
 recs:((x.rs.length:Nat):Int)=x.hdr.many
 body:BodyM x.ds x.xs
 tree:MayA (verT c x.root)
structure MayC(c:Ch):Prop where
 one:0<c.links.length
 len:c.links.length<=256
 root:∀x,c.links[c.links.length-1]? =some x->c.tree.root=x.root
 link:∀i x,c.links[i]? =some x->LkM c i x
noncomputable instance(c:Ch):Decidable (MayC c):=Classical.propDecidable _
noncomputable def firH(t0:T):Hdr:=⟨0,joq,sumD t0,tagD 0 [],0⟩
structure LkS(c:Ch)(box:Dig)(i:Nat)(x:Lk):Prop where
 first:i=0->∃n t0,IsA (verT c x.root) n t0/\x.hdr=firH t0/\x.ds=[]/\x.xs=[]
 next:∀y,0<i->c.links[i-1]? =some y->∃n t0 n1 t1 rs,IsA (verT c y.root) n t0/\IsA (verT c x.root) n1 t1/\doX box (doD t0.all x.ds).1 x.xs=some (t1.all,rs)/\x.hdr=jbq y.hdr t1 ((doD t0.all x.ds).2++rs)/\x.rs=((doD t0.all x.ds).2++rs).map recI
structure SoundC(c:Ch)(box:Dig):Prop extends MayC c where
 sound:∀i x,c.links[i]? =some x->LkS c box i x
noncomputable instance(c:Ch)(box:Dig):Decidable (SoundC c box):=Classical.propDecidable _
theorem MayC.last{c:Ch}(h:MayC c):∃y,c.links[c.links.length-1]? =some y/\c.tree.root=y.root/\LkM c (c.links.length-1) y:=by
 have:=h.one;have e:=List.getElem?_eq_getElem (l:=c.links) (i:=c.links.length-1) Xd;exact⟨_,e,h.root _ e,h.link _ _ e⟩
theorem MayC.head{c:Ch}(h:MayC c){y:Lk}(e:c.links[c.links.length-1]? =some y):∃n t0,IsA c.tree n t0/\verT c y.root=c.tree:=by
 obtain⟨y',e',hr,hy⟩:=h.last;cases e.symm.trans e';have:verT c y.root=c.tree:=by unfold verT;rw[<-hr]
 obtain⟨n,t0,hA⟩:=hy.tree;exact⟨n,t0,this▸hA,this⟩
def addL(t':Tree)(h:Hdr)(ds:List Depo)(xs:List Tx)(L:List Rec):Lk:=⟨h,t'.root,ds,xs,L.map recI⟩
def addC(c:Ch)(t':Tree)(h:Hdr)(ds:List Depo)(xs:List Tx)(L:List Rec):Ch:=⟨t',c.links++[addL t' h ds xs L]⟩
structure Adds(c:Ch)(ds:List Depo)(xs:List Tx)(box:Dig)(y:Lk)(t':Tree)(t1:T)(L:List Rec):Prop where
 may:MayC c
 short:c.links.length<256
 last:c.links[c.links.length-1]? =some y
 many:ds.length<=16/\xs.length<=16
 is:∃n t0 n1 rs,IsA c.tree n t0/\IsA t' n1 t1/\doX box (doD t0.all ds).1 xs=some (t1.all,rs)/\L=(doD t0.all ds).2++rs
 goes:∃ms,t'.nodes=c.tree.nodes++ms
theorem doX_sign{box:Dig}:∀{xs:List Tx} {l:List Pr} {r:List Pr×List Rec},doX box l xs=some r->∀x∈xs,x.sign=xsq x
 |[],_,_,_,x,h=>by cases h
 |x::xs,l,r,e,y,h=>by
  by_cases hg:goX l x
  ·rw[x1q hg] at e;cases e2:doX box (y6q l x box).1 xs with
   |none=>rw[e2] at e;cases e
   |some q=>
    rcases List.mem_cons.1 h with rfl|h
    ·exact hg.1
    ·exact doX_sign e2 y h
  ·rw[show doX box l (x::xs)=none from if_neg hg] at e;cases e
theorem get_snoc{α:Type}{l:List α}{a x:α}{i:Nat}(h:(l++[a])[i]? =some x):l[i]? =some x\/(i=l.length/\x=a):=by
 rcases Nat.lt_trichotomy i l.length with q|q|q
 ·rw[List.getElem?_append_left q] at h;exact .inl h
 ·subst q;rw[List.getElem?_append_right (Nat.le_refl _),Nat.sub_self] at h;exact .inr ⟨rfl,(Option.some.inj h).symm⟩
 ·rw[List.getElem?_eq_none Xt] at h;cases h
theorem get_prev{α:Type}{l:List α}{a y:α}{i:Nat}(hi:i<=l.length)(h0:0<i)(h:(l++[a])[i-1]? =some y):l[i-1]? =some y:=by
 rwa[List.getElem?_append_left Xd] at h
theorem kmq{α:Type}{l:List α}{i:Nat}{x:α}(h:l[i]? =some x):i<l.length:=(List.getElem?_eq_some_iff.1 h).1
section
variable {c:Ch} {ds:List Depo} {xs:List Tx} {box:Dig} {y:Lk} {t':Tree} {t1:T} {L:List Rec}
theorem Adds.old(h:Adds c ds xs box y t' t1 L){r:Int}{n:Nat}{t0:T}(hA:IsA (verT c r) n t0):IsA (verT (addC c t' (jbq y.hdr t1 L) ds xs L) r) n t0:=by
 obtain⟨n,t0,n1,rs,h1,h2,_⟩:=h.is;exact hA.grow h2 h.goes
theorem Adds.okh(h:Adds c ds xs box y t' t1 L):FolB (jbq y.hdr t1 L) y.hdr:=by
 obtain⟨n,t0,n1,rs,h1,h2,h3,rfl⟩:=h.is;have hy:=h.may.link _ _ h.last;have:=hy.height;have:=kmq h.last;have:=h.may.len;have e1:=Ytq h3;simp only at e1;have:=Yuq ds t0.all;have:=h.many;obtain⟨a1,a2,a3,a4⟩:=hy.hdr;refine⟨⟨?_,?_,?_,?_⟩,hy.hdr,rfl,rfl⟩<;>simp only[jbq,List.length_append]<;>omega
theorem Adds.mayc(h:Adds c ds xs box y t' t1 L):MayC (addC c t' (jbq y.hdr t1 L) ds xs L):=by
 have hs:=h.short;have ho:=h.may.one;have hf:=h.okh;refine⟨by simp[addC],by simp[addC]<;>omega,fun x e=>?_,fun i x e=>?_⟩
 ·rcases get_snoc e with e|⟨_,rfl⟩
  ·have:=kmq e;simp[addC] at this<;>omega
  ·rfl
 ·rcases get_snoc e with e|⟨hi,rfl⟩
  ·have hx:=h.may.link i x e;have hi:=kmq e;obtain⟨n,t0,hA⟩:=hx.tree;exact⟨hx.height,hx.hdr,fun y' h0 e'=>hx.fol y' h0 (get_prev Xd h0 e'),hx.recs,hx.body,n,t0,h.old hA⟩
  ·obtain⟨n,t0,n1,rs,h1,h2,h3,h4⟩:=h.is;have hy:=(h.may.link _ _ h.last).height;refine⟨by show y.hdr.height+1=_;omega,hf.1,fun y' h0 e'=>?_,by simp[addL,jbq],⟨h.many.1,h.many.2,doX_sign h3⟩,n1,t1,h2⟩;have e2:=get_prev Xd h0 e';rw[hi] at e2;cases e2.symm.trans h.last;exact hf
end
def cutC(c:Ch)(h:Nat)(x:Lk):Ch:=⟨verT c x.root,c.links.take (h+1)⟩
theorem Jcq{α:Type}{l:List α}{n i:Nat}{x:α}(h:(l.take n)[i]? =some x):i<n/\l[i]? =some x:=by
 rw[List.getElem?_take] at h;split at h
 ·exact⟨by assumption,h⟩
 ·cases h
theorem MayC.cut{c:Ch}(hc:MayC c){h:Nat}{x:Lk}(hx:c.links[h]? =some x):MayC (cutC c h x):=by
 have hi:=kmq hx;have hl:=hc.len;refine⟨by simp[cutC];omega,by simp[cutC];omega,fun y e=>?_,fun i y e=>?_⟩
 ·obtain⟨_,e⟩:=Jcq e;rw[show(cutC c h x).links.length-1=h by simp[cutC];omega] at e;cases e.symm.trans hx;rfl
 ·obtain⟨h2,e⟩:=Jcq e;have hy:=hc.link i y e;exact⟨hy.height,hy.hdr,fun z h0 e'=>hy.fol z h0 (Jcq e').2,hy.recs,hy.body,hy.tree⟩
section
attribute [local irreducible] CoW OpW FlW Step Spec
variable {G:Nat->Option W}
theorem Zdq{α:Type}{a b:List α}{n:Nat}(h:a.length=n)(h2:b.length=n)(g:a.take n=b.take n):a=b:=by
 rwa[List.take_of_length_le Xd,List.take_of_length_le Xd] at g
theorem uDq{α:Type}{a b:List α}{i:Nat}{x y:α}(g:a.take i=b.take i)(hx:a[i]? =some x)(hy:b[i]? =some y)(e:x=y):a.take (i+1)=b.take (i+1):=by
 rw[List.take_add_one,List.take_add_one,g,hx,hy,e]
theorem ne_at{α:Type}{a b:List α}{i:Nat}{x y:α}(hx:a[i]? =some x)(hy:b[i]? =some y)(h:x≠y):¬a=b:=fun q=>h (by subst q;exact Option.some.inj (hx.symm.trans hy))
noncomputable instance(a b:Depo):Decidable (a=b):=Classical.propDecidable _
noncomputable instance(a b:Tx):Decidable (a=b):=Classical.propDecidable _
noncomputable instance(a b:RcI):Decidable (a=b):=Classical.propDecidable _
noncomputable instance(a b:Hdr):Decidable (a=b):=Classical.propDecidable _
theorem Jpq{p:Prop} [Decidable p]{b:Bool}(h:p↔b=true):decide p=b:=by
 rw[Bool.eq_iff_iff,decide_eq_true_eq];exact h
theorem eq_pd(a b:Depo):eqW cfg 300 173 (pdW a) (pdW b)=some (decide (a=b)):=by
 rw[Jpq (p:=a=b) (b:=decide ((a.number:Int)=b.number)&&(decide (a.to=b.to)&&(decide ((a.amount:Int)=b.amount)&&true))) (by cases a;cases b;simp only[Depo.mk.injEq,Bool.and_eq_true,decide_eq_true_eq,Int.natCast_inj,and_true])];exact xHq O O O O (yGq O O O (xIq O O) (yGq O O O (qtq O O O O O O _ _ _) (yGq O O O (xIq O O) vbq)))
theorem eq_tx(a b:Tx):eqW cfg 300 75 (txW a) (txW b)=some (decide (a=b)):=by
 rw[Jpq (p:=a=b) (b:=decide (a.pub=b.pub)&&(decide (a.to=b.to)&&(decide ((a.nonce:Int)=b.nonce)&&(decide ((a.amount:Int)=b.amount)&&(decide ((a.fee:Int)=b.fee)&&(decide (a.sign=b.sign)&&true)))))) (by cases a;cases b;simp only[Tx.mk.injEq,Bool.and_eq_true,decide_eq_true_eq,Int.natCast_inj,and_true])];exact xHq O O O O (yGq O O O (qtq O O O O O O _ _ _) (yGq O O O (qtq O O O O O O _ _ _) (yGq O O O (xIq O O) (yGq O O O (xIq O O) (yGq O O O (xIq O O) (yGq O O O (qtq O O O O O O _ _ _) vbq))))))
theorem eq_rc(a b:RcI):eqW cfg 300 57 (rcW a) (rcW b)=some (decide (a=b)):=by
 rw[Jpq (p:=a=b) (b:=decide ((Int.ofNat a.kind.toNat)=Int.ofNat b.kind.toNat)&&(decide (a.id=b.id)&&(decide (a.code=b.code)&&true))) (by cases a;cases b;simp only[RcI.mk.injEq,Bool.and_eq_true,decide_eq_true_eq,and_true];exact⟨fun h=>⟨by rw[h.1],h.2⟩,fun h=>⟨UInt8.toNat_inj.1 (Int.ofNat.inj h.1),h.2⟩⟩)];exact xHq O O O O (yGq O O O (xIq O O) (yGq O O O (qtq O O O O O O _ _ _) (yGq O O O (xIq O O) vbq)))
theorem eq_hd(h p:Hdr):eqW cfg 300 28 (hdW h) (hdW p)=some (decide (h=p)):=by
 rw[Jpq (p:=h=p) (b:=decide (h.height=p.height)&&(decide (h.parent=p.parent)&&(decide (h.state=p.state)&&(decide (h.rows=p.rows)&&(decide (h.many=p.many)&&true))))) (by cases h;cases p;simp only[Hdr.mk.injEq,Bool.and_eq_true,decide_eq_true_eq,and_true])];exact xHq O O O O (yGq O O O (xIq O O) (yGq O O O (qtq O O O O O O _ _ _) (yGq O O O (qtq O O O O O O _ _ _) (yGq O O O (qtq O O O O O O _ _ _) (yGq O O O (xIq O O) vbq)))))
theorem seqr_s(a b:List RcI)(f g:Bool)(hb:a.length<=1000000000):PS cfg G 144 [.fz (a.map rcW) 34 f,.fz (b.map rcW) 34 g] (.bool (decide (a=b))):=by
 have ea:(a.map rcW).length=a.length:=List.length_map _;have eb:(b.map rcW).length=b.length:=List.length_map _;refine zNq (fn:=Tryz.f144) O O O (Ob rfl) (fun R k0=>?_);refine ziq 9 O ?_;refine zfq (w':=.int .i64 (a.length:Int)) O O Qc ?_;refine zbq O O (zfq (w':=.int .i64 (b.length:Int)) O O (by rw[<-eb];rfl) ?_);refine zaq 3 O ?_;refine zEq rfl (fun h1=>?_) (fun h1=>?_)
 ·refine zgq 7 O ?_;exact zhq (.inr rfl) rfl (by rw[decide_eq_false fun h=>h1 (by rw[h])])
 ·refine zgq 6 O ?_;refine zfq (w':=.int .i64 (a.length:Int)) O O Qc ?_;refine zaq 4 O ?_;refine y4q (α:=Nat) (fun i=>i<=a.length/\a.take i=b.take i) (fun i=>[(13,.int .i64 (i:Int))]) [(0,_),(1,_),(4,_),(12,_)] (fun i=>a.length-i) (0) ⟨rfl,rfl,rfl,rfl,trivial⟩ (⟨Nat.zero_le _,rfl⟩) ⟨rfl,trivial⟩ (fun i hI=>?_);obtain⟨g1,g2⟩:=hI;refine ziq 6 O ?_;refine zEq rfl (fun h2=>?_) (fun h2=>?_)
  ·obtain⟨x,hx⟩:∃x,a[i]? =some x:=⟨_,List.getElem?_eq_getElem Xd⟩
   obtain⟨y,hy⟩:∃y,b[i]? =some y:=⟨_,List.getElem?_eq_getElem Xd⟩
   refine zgq 14 O ?_;refine zcq rfl (zBq (i:=i) O O O O O O O (z9q rcW hx)) ?_;refine zsq 3 O ?_;refine zcq rfl (zBq (i:=i) O O O O O O O (z9q rcW hy)) (ySq O O ?_);refine fl_cmp rfl (kxq O O O O (eq_rc _ _)) (kGq yMq) ?_;refine zsq 2 O ?_;refine zEq rfl (fun h3=>?_) (fun h3=>?_)
   ·refine zgq 8 O ?_;refine ylq Xj ?_;refine zDq 2 O ?_;exact zhq (.inr rfl) rfl (by rw[decide_eq_false (ne_at hx hy h3)])
   ·refine zgq 4 O ?_;refine zuq (i+1) O O Xm ⟨by omega,by omega⟩ ?_;refine y5q 2 O ?_;exact ykq (i+1) (⟨by omega,uDq g2 hx hy (Classical.not_not.1 h3)⟩) Xd ⟨rfl,trivial⟩ ⟨rfl,rfl,rfl,rfl,trivial⟩ Xh Xd Xk rfl
  ·refine zgq 2 O ?_;refine ylq Xj ?_;refine zDq 8 O ?_;exact zhq (.inr rfl) rfl (by rw[decide_eq_true (Zdq Xd Xd g2)])
theorem rseqr_s(a b:List RcI)(f g:Bool)(hb:a.length<=1000000000):PS cfg G 21 [.fz (a.map rcW) 34 f,.fz (b.map rcW) 34 g] (.bool (decide (a=b))):=by
 have ea:(a.map rcW).length=a.length:=List.length_map _;have eb:(b.map rcW).length=b.length:=List.length_map _;refine zNq (fn:=Tryz.f21) O O O (Ob rfl) (fun R k0=>?_);refine ziq 9 O ?_;refine zfq (w':=.int .i64 (a.length:Int)) O O Qc ?_;refine zbq O O (zfq (w':=.int .i64 (b.length:Int)) O O (by rw[<-eb];rfl) ?_);refine zaq 3 O ?_;refine zEq rfl (fun h1=>?_) (fun h1=>?_)
 ·refine zgq 7 O ?_;exact zhq (.inr rfl) rfl (by rw[decide_eq_false fun h=>h1 (by rw[h])])
 ·refine zgq 9 O ?_;refine y4q (α:=Nat) (fun i=>i<=a.length/\a.take i=b.take i) (fun i=>[(5,.int .i64 (i:Int))]) [(0,_),(1,_),(4,_)] (fun i=>a.length-i) (0) ⟨rfl,rfl,rfl,trivial⟩ (⟨Nat.zero_le _,rfl⟩) ⟨rfl,trivial⟩ (fun i hI=>?_);obtain⟨g1,g2⟩:=hI;refine ziq 5 O ?_;refine zfq (w':=.int .i64 (a.length:Int)) O O Qc ?_;refine zaq 3 O ?_;refine zEq rfl (fun h2=>?_) (fun h2=>?_)
  ·obtain⟨x,hx⟩:∃x,a[i]? =some x:=⟨_,List.getElem?_eq_getElem Xd⟩
   obtain⟨y,hy⟩:∃y,b[i]? =some y:=⟨_,List.getElem?_eq_getElem Xd⟩
   refine zgq 8 O ?_;refine zcq rfl (zBq (i:=i) O O O O O O O (z9q rcW hx)) ?_;refine zsq 3 O ?_;refine zcq rfl (zBq (i:=i) O O O O O O O (z9q rcW hy)) (ySq O O ?_);refine fl_cmp rfl (kxq O O O O (eq_rc _ _)) (kGq yMq) ?_;refine zsq 2 O ?_;refine zEq rfl (fun h3=>?_) (fun h3=>?_)
   ·refine zgq 8 O ?_;refine ylq Xj ?_;refine zDq 2 O ?_;exact zhq (.inr rfl) rfl (by rw[decide_eq_false (ne_at hx hy h3)])
   ·refine zgq 5 O ?_;refine zuq (i+1) O O Xm ⟨by omega,by omega⟩ ?_;refine y5q 2 O ?_;exact ykq (i+1) (⟨by omega,uDq g2 hx hy (Classical.not_not.1 h3)⟩) Xd ⟨rfl,trivial⟩ ⟨rfl,rfl,rfl,trivial⟩ Xh Xd Xk rfl
  ·refine zgq 2 O ?_;refine ylq Xj ?_;refine zDq 8 O ?_;exact zhq (.inr rfl) rfl (by rw[decide_eq_true (Zdq Xd Xd g2)])
theorem cld_s(l:List Depo)(f:Bool)(hl:l.length<=1000000000):PS cfg G 208 [.fz (l.map pdW) 34 f] (.fz (l.map pdW) 34 false):=by
 have e:(l.map pdW).length=l.length:=List.length_map _;have hp:∀l:List Depo,purL (l.map pdW)=true:=y7q uhq
 refine zNq (fn:=Tryz.f208) O O O (Ob rfl) (fun R k0=>?_);refine ziq 9 O ?_;first|refine zbq O O ?_|refine zoq rfl (uHq O O O O O (fun bn hn=>?_))
 refine zaq 2 O ?_;refine zEq rfl (fun h1=>?_) (fun h1=>?_)
 ·cases bn with
  |false=>cases h1
  |true=>
   obtain rfl:l=[]:=List.map_eq_nil_iff.1 (hn rfl);refine zgq 7 O ?_;exact qwq (fr2:=[(2,.fz [] 34 false)]) (.inr rfl) ⟨⟨_,rfl,.nilfz⟩,trivial⟩ O O
 ·cases l with
  |nil=>
   skip
   refine zgq 6 O ?_;refine zwq rfl (quq O O (vRq O O O O O)) ?_;refine zaq 4 O ?_;exact qwq (fr2:=[(2,.fz [] 34 false)]) (.inr rfl) ⟨⟨_,rfl,.sl O O O Xj⟩,trivial⟩ O O
  |cons c l=>
   simp only[List.length_cons] at hl e;refine zgq 6 O ?_;refine zwq rfl (quq O O (qNq (news:=(c::l).map pdW) (olds:=[]) O O O O O Xl (by show(0+((c::l).map pdW).length)*48<=_;rw[e];omega) (by rw[e];omega) rfl (by show 0<0+(0+((c::l).map pdW).length)*34;rw[e];omega) O O)) ?_;refine zaq 4 O ?_;exact qwq (fr2:=[(2,.fz ((c::l).map pdW) 34 false)]) (.inr rfl) ⟨⟨_,rfl,.sl rfl (hp _) (zCq Xr (Nat.zero_add _) (by rw[Nat.zero_add])) Xj⟩,trivial⟩ O O
theorem clx_s(l:List Tx)(f:Bool)(hl:l.length<=1000000000):PS cfg G 209 [.fz (l.map txW) 99 f] (.fz (l.map txW) 99 false):=by
 have e:(l.map txW).length=l.length:=List.length_map _;have hp:∀l:List Tx,purL (l.map txW)=true:=y7q jeq
 refine zNq (fn:=Tryz.f209) O O O (Ob rfl) (fun R k0=>?_);refine ziq 9 O ?_;first|refine zbq O O ?_|refine zoq rfl (uHq O O O O O (fun bn hn=>?_))
 refine zaq 2 O ?_;refine zEq rfl (fun h1=>?_) (fun h1=>?_)
 ·cases bn with
  |false=>cases h1
  |true=>
   obtain rfl:l=[]:=List.map_eq_nil_iff.1 (hn rfl);refine zgq 7 O ?_;exact qwq (fr2:=[(2,.fz [] 99 false)]) (.inr rfl) ⟨⟨_,rfl,.nilfz⟩,trivial⟩ O O
 ·cases l with
  |nil=>
   skip
   refine zgq 6 O ?_;refine zwq rfl (quq O O (vRq O O O O O)) ?_;refine zaq 4 O ?_;exact qwq (fr2:=[(2,.fz [] 99 false)]) (.inr rfl) ⟨⟨_,rfl,.sl O O O Xj⟩,trivial⟩ O O
  |cons c l=>
   simp only[List.length_cons] at hl e;refine zgq 6 O ?_;refine zwq rfl (quq O O (qNq (news:=(c::l).map txW) (olds:=[]) O O O O O Xl (by show(0+((c::l).map txW).length)*120<=_;rw[e];omega) (by rw[e];omega) rfl (by show 0<0+(0+((c::l).map txW).length)*99;rw[e];omega) O O)) ?_;refine zaq 4 O ?_;exact qwq (fr2:=[(2,.fz ((c::l).map txW) 99 false)]) (.inr rfl) ⟨⟨_,rfl,.sl rfl (hp _) (zCq Xr (Nat.zero_add _) (by rw[Nat.zero_add])) Xj⟩,trivial⟩ O O
theorem clr_s(l:List RcI)(f:Bool)(hl:l.length<=1000000000):PS cfg G 210 [.fz (l.map rcW) 34 f] (.fz (l.map rcW) 34 false):=by
 have e:(l.map rcW).length=l.length:=List.length_map _;have hp:∀l:List RcI,purL (l.map rcW)=true:=y7q rcW_pur
 refine zNq (fn:=Tryz.f210) O O O (Ob rfl) (fun R k0=>?_);refine ziq 9 O ?_;first|refine zbq O O ?_|refine zoq rfl (uHq O O O O O (fun bn hn=>?_))
 refine zaq 2 O ?_;refine zEq rfl (fun h1=>?_) (fun h1=>?_)
 ·cases bn with
  |false=>cases h1
  |true=>
   obtain rfl:l=[]:=List.map_eq_nil_iff.1 (hn rfl);refine zgq 7 O ?_;exact qwq (fr2:=[(2,.fz [] 34 false)]) (.inr rfl) ⟨⟨_,rfl,.nilfz⟩,trivial⟩ O O
 ·cases l with
  |nil=>
   skip
   refine zgq 6 O ?_;refine zwq rfl (quq O O (vRq O O O O O)) ?_;refine zaq 4 O ?_;exact qwq (fr2:=[(2,.fz [] 34 false)]) (.inr rfl) ⟨⟨_,rfl,.sl O O O Xj⟩,trivial⟩ O O
  |cons c l=>
   simp only[List.length_cons] at hl e;refine zgq 6 O ?_;refine zwq rfl (quq O O (qNq (news:=(c::l).map rcW) (olds:=[]) O O O O O Xl (by show(0+((c::l).map rcW).length)*48<=_;rw[e];omega) (by rw[e];omega) rfl (by show 0<0+(0+((c::l).map rcW).length)*34;rw[e];omega) O O)) ?_;refine zaq 4 O ?_;exact qwq (fr2:=[(2,.fz ((c::l).map rcW) 34 false)]) (.inr rfl) ⟨⟨_,rfl,.sl rfl (hp _) (zCq Xr (Nat.zero_add _) (by rw[Nat.zero_add])) Xj⟩,trivial⟩ O O
theorem rsbody_s(a:List Depo)(c:List Tx)(b:List Depo)(d:List Tx)(f1 f2 f3 f4:Bool)(hb:a.length<=1000000000)(hb2:c.length<=1000000000):PS cfg G 23 [bodW a c f1 f2,bodW b d f3 f4] (.bool (decide (a=b/\c=d))):=by
 have ea:(a.map pdW).length=a.length:=List.length_map _;have eb:(b.map pdW).length=b.length:=List.length_map _;have ec:(c.map txW).length=c.length:=List.length_map _;have ed:(d.map txW).length=d.length:=List.length_map _;refine zNq (fn:=Tryz.f23) O O O (Ob rfl) (fun R k0=>?_);refine ziq 12 O ?_;refine zfq (w':=.int .i64 (a.length:Int)) O O Qc ?_;refine zaq 2 O ?_;refine zfq (w':=.int .i64 (b.length:Int)) O O (by rw[<-eb];rfl) ?_;refine qhq O O (fun h1=>?_) (fun h1=>?_)
 ·refine zaq 19 O ?_;exact zhq (.inr rfl) rfl (by rw[decide_eq_false fun h=>h1 (by rw[h.1])])
 refine zaq 3 O ?_;refine zfq (w':=.int .i64 (c.length:Int)) O O (by rw[<-ec];rfl) ?_;refine zaq 2 O ?_;refine zfq (w':=.int .i64 (d.length:Int)) O O (by rw[<-ed];rfl) ?_;refine yWq O O ?_;refine zaq 3 O ?_;refine zEq rfl (fun h2=>?_) (fun h2=>?_)
 ·refine zgq 7 O ?_;exact zhq (.inr rfl) rfl (by rw[decide_eq_false fun h=>h2 (by rw[h.2])])
 ·refine zgq 9 O ?_;refine y4q (α:=Nat) (fun i=>i<=a.length/\a.take i=b.take i) (fun i=>[(5,.int .i64 (i:Int))]) [(2,_),(3,_),(4,_)] (fun i=>a.length-i) (0) ⟨rfl,rfl,rfl,trivial⟩ (⟨Nat.zero_le _,rfl⟩) ⟨rfl,trivial⟩ (fun i hI=>?_);obtain⟨g1,g2⟩:=hI;refine ziq 6 O ?_;refine zfq (w':=.int .i64 (a.length:Int)) O O Qc ?_;refine zaq 3 O ?_;refine zEq rfl (fun h3=>?_) (fun h3=>?_)
  ·obtain⟨x,hx⟩:∃x,a[i]? =some x:=⟨_,List.getElem?_eq_getElem Xd⟩
   obtain⟨y,hy⟩:∃y,b[i]? =some y:=⟨_,List.getElem?_eq_getElem Xd⟩
   refine zgq 9 O ?_;refine zcq rfl (zBq (i:=i) O O O O O O O (z9q pdW hx)) ?_;refine zsq 4 O ?_;refine zcq rfl (zBq (i:=i) O O O O O O O (z9q pdW hy)) (ySq O O ?_);refine fl_cmp rfl (kxq O O O O (eq_pd _ _)) (kGq yMq) ?_;refine zsq 2 O ?_;refine zEq rfl (fun h4=>?_) (fun h4=>?_)
   ·refine zgq 8 O ?_;refine ylq Xj ?_;refine zDq 2 O ?_;exact zhq (.inr rfl) rfl (by rw[decide_eq_false fun q=>ne_at hx hy h4 q.1])
   ·refine zgq 5 O ?_;refine zuq (i+1) O O Xm ⟨by omega,by omega⟩ ?_;refine y5q 2 O ?_;exact ykq (i+1) (⟨by omega,uDq g2 hx hy (Classical.not_not.1 h4)⟩) Xd ⟨rfl,trivial⟩ ⟨rfl,rfl,rfl,trivial⟩ Xh Xd Xk rfl
  ·obtain rfl:=Zdq (a:=a) (b:=b) Xd Xd g2;refine zgq 2 O ?_;refine ylq Xj ?_;refine zDq 9 O ?_;skip
   refine y4q (α:=Nat) (fun j=>j<=c.length/\c.take j=d.take j) (fun j=>[(6,.int .i64 (j:Int))]) [(2,_),(3,_),(4,_)] (fun j=>c.length-j) (0) ⟨rfl,rfl,rfl,trivial⟩ (⟨Nat.zero_le _,rfl⟩) ⟨rfl,trivial⟩ (fun j hI=>?_);obtain⟨k1,k2⟩:=hI;refine ziq 6 O ?_;refine zfq (w':=.int .i64 (c.length:Int)) O O (by rw[<-ec];rfl) ?_;refine zaq 3 O ?_;refine zEq rfl (fun h4=>?_) (fun h4=>?_)
   ·obtain⟨x,hx⟩:∃x,c[j]? =some x:=⟨_,List.getElem?_eq_getElem Xd⟩
    obtain⟨y,hy⟩:∃y,d[j]? =some y:=⟨_,List.getElem?_eq_getElem Xd⟩
    refine zgq 9 O ?_;refine zcq rfl (zBq (i:=j) O O O O O O O (z9q txW hx)) ?_;refine zsq 4 O ?_;refine zcq rfl (zBq (i:=j) O O O O O O O (z9q txW hy)) (ySq O O ?_);refine fl_cmp rfl (kxq O O O O (eq_tx _ _)) (kGq yMq) ?_;refine zsq 2 O ?_;refine zEq rfl (fun h5=>?_) (fun h5=>?_)
    ·refine zgq 8 O ?_;refine ylq Xj ?_;refine zDq 2 O ?_;exact zhq (.inr rfl) rfl (by rw[decide_eq_false fun q=>ne_at hx hy h5 q.2])
    ·refine zgq 5 O ?_;refine zuq (j+1) O O Xm ⟨by omega,by omega⟩ ?_;refine y5q 2 O ?_;exact ykq (j+1) (⟨by omega,uDq k2 hx hy (Classical.not_not.1 h5)⟩) Xd ⟨rfl,trivial⟩ ⟨rfl,rfl,rfl,trivial⟩ Xh Xd Xk rfl
   ·refine zgq 2 O ?_;refine ylq Xj ?_;refine zDq 8 O ?_;exact zhq (.inr rfl) rfl (by rw[decide_eq_true ⟨rfl,Zdq Xd Xd k2⟩])
end
section
attribute [local irreducible] CoW OpW FlW Step Spec
variable {G:Nat->Option W}
theorem Joq{p:Prop} [Decidable p](h:¬p):W.bool false=W.bool (decide p):=congrArg W.bool (decide_eq_false h).symm
theorem dec_t{p:Prop} [Decidable p](h:p):W.bool true=W.bool (decide p):=congrArg W.bool (decide_eq_true h).symm
theorem dec_c{p q:Prop} [Decidable p] [Decidable q](h:q↔p):W.bool (decide q)=W.bool (decide p):=congrArg W.bool (decide_eq_decide.2 h)
theorem hfollows_d(h p:Hdr):PS cfg glK 31 [hdW h,hdW p] (.bool (decide (FolB h p))):=by
 by_cases hp:okH p
 ·obtain⟨q1,q2,q3,q4⟩:=id hp;by_cases hh:okH h
  ·skip
   refine zNq (fn:=Tryz.f31) O O O (Ob rfl) (fun R k0=>?_);refine ziq 10 O ?_;refine zkq O O O O O O (Q7q p ⟨q1,q2,q3,q4⟩) ?_;refine zaq 11 O ?_;refine zfq (w':=.bool true) O O (congrArg W.bool Xg) ?_;refine zaq 2 O ?_;refine zkq O O O O O O (yFq (w':=.int .i64 0) (u6q h) (by rw[if_pos hh])) ?_;refine zfq (w':=.bool true) O O (congrArg W.bool Xg) ?_;refine zaq 6 O ?_;first|refine ypq O O ⟨by omega,by omega⟩ ?_|refine zbq O O ?_
   refine qhq O O (fun h1=>?_) (fun h1=>?_)
   ·refine zaq 5 O ?_;refine klq rfl (qzq O O O O (qtq O O O O O O _ _ 250)) yMq ?_;refine zaq 5 O ?_;exact zhq (.inr rfl) rfl (dec_c ⟨fun q=>⟨hh,hp,by simpa using h1,q⟩,fun q=>q.2.2.2⟩)
   ·refine zaq 11 O ?_;exact zhq (.inr rfl) rfl (Joq fun q=>h1 (by simpa using q.2.2.1))
  ·skip
   refine zNq (fn:=Tryz.f31) O O O (Ob rfl) (fun R k0=>?_);refine ziq 10 O ?_;refine zkq O O O O O O (Q7q p ⟨q1,q2,q3,q4⟩) ?_;refine zaq 11 O ?_;refine zfq (w':=.bool true) O O (congrArg W.bool Xg) ?_;refine zaq 2 O ?_;refine zkq O O O O O O (yFq (w':=.int .i64 8) (u6q h) (by rw[if_neg hh])) ?_;refine zfq (w':=.bool false) O O (congrArg W.bool Xg) ?_;refine zaq 19 O ?_;exact zhq (.inr rfl) rfl (Joq fun q=>hh q.1)
 ·skip
  refine zNq (fn:=Tryz.f31) O O O (Ob rfl) (fun R k0=>?_);refine ziq 10 O ?_;refine zkq O O O O O O (hhash_no p hp) ?_;refine zaq 11 O ?_;refine zfq (w':=.bool false) O O (congrArg W.bool Xg) ?_;refine zaq 23 O ?_;exact zhq (.inr rfl) rfl (Joq fun q=>hp q.2.1)
theorem ver_s(t:Tree)(r:Int):PS cfg G 140 [tW t,.int .i64 r] (tW ⟨t.nodes,r⟩):=by
 refine zNq (fn:=Tryz.f140) O O O (Ob rfl) (fun R k0=>?_);refine ziq 20 O ?_;exact zhq (.inr rfl) O O
theorem ixtx_s(xs:List Tx)(f:Bool)(F:FuncId)(P:Tx->Prop) [DecidablePred P](hF:∀x∈xs,PS cfg G F [txW x] (.bool (decide (P x))))(hF0:cfg.ext F=none)(hn:xs.length<=1000000000):PE cfg G 261 [.fz (xs.map txW) 99 f,.fn F [] []] (fun w=>∃i:Int,w= .int .i64 i/\((∃x∈xs,P x)↔0<=i)):=by
 have e:(xs.map txW).length=xs.length:=List.length_map _;refine jGq (fn:=Tryz.f261) O O O (Ob rfl) (fun R k0=>?_);refine ziq 9 O ?_;refine zfq (w':=.int .i64 ((xs.length:Nat):Int)) O O Xv ?_;refine zaq 4 O ?_;refine y4q (α:=Nat) (fun i=>i<=xs.length/\∀j x,j<i->xs[j]? =some x->¬P x) (fun i=>[(8,.int .i64 (i:Int))]) [(0,_),(1,_),(4,_),(7,_)] (fun i=>xs.length-i) (0) ⟨rfl,rfl,rfl,rfl,trivial⟩ (⟨Nat.zero_le _,fun j x h=>by omega⟩) ⟨rfl,trivial⟩ (fun i hI=>?_);obtain⟨g1,g2⟩:=hI;refine ziq 6 O ?_;refine zEq rfl (fun h1=>?_) (fun h1=>?_)
 ·obtain⟨x,hx⟩:∃x,xs[i]? =some x:=⟨_,List.getElem?_eq_getElem Xd⟩
  refine zgq 15 O ?_;refine zbq rfl (zBq (i:=i) O O O O O O O (z9q txW hx)) (zwq O O ?_);refine op_ps O O O hF0 O O (hF x (List.mem_of_getElem? hx)) Xl Xl ?_;refine zaq 2 O ?_;refine zEq rfl (fun h2=>?_) (fun h2=>?_)
  ·refine zgq 9 O ?_;refine ylq Xj ?_;refine zDq 2 O ?_;exact qoq (w':=.int .i64 (i:Int)) (.inr rfl) rfl (.pur rfl) rfl ⟨_,rfl,fun _=>by omega,fun _=>⟨x,List.mem_of_getElem? hx,h2⟩⟩
  ·refine zgq 4 O ?_;refine zuq (i+1) O O Xm ⟨by omega,by omega⟩ ?_;refine y5q 2 O ?_;exact ykq (i+1) (⟨by omega,fun j y hj hy=>by rcases Nat.lt_succ_iff_lt_or_eq.1 hj with q|rfl;exact g2 j y q hy;exact Option.some.inj (hx.symm.trans hy)▸h2⟩) Xd ⟨rfl,trivial⟩ ⟨rfl,rfl,rfl,rfl,trivial⟩ Xh Xd Xk rfl
 ·refine zgq 2 O ?_;refine ylq Xj ?_;refine zDq 8 O ?_
  exact qoq (w':=.int .i64 (-1)) (.inr rfl) rfl (.pur rfl) rfl ⟨_,rfl,fun ⟨x,hx,q⟩=>by
   obtain⟨j,hj⟩:=List.getElem?_of_mem hx;exact absurd q (g2 j x (by have:=kmq hj;omega) hj),fun h=>absurd h Xr⟩
theorem cntx_s(xs:List Tx)(f:Bool)(F:FuncId)(P:Tx->Prop) [DecidablePred P](hF:∀x∈xs,PS cfg G F [txW x] (.bool (decide (P x))))(hF0:cfg.ext F=none)(hn:xs.length<=1000000000) [Decidable (∃x∈xs,P x)]:PS cfg G 214 [.fz (xs.map txW) 99 f,.fn F [] []] (.bool (decide (∃x∈xs,P x))):=by
 refine zNq (fn:=Tryz.f214) O O O (Ob rfl) (fun R k0=>?_);refine ziq 9 O ?_
 (refine zoq rfl (q1q O O O O O (ixtx_s xs f F P hF hF0 hn) Xl ?_);rintro w hw ⟨i,rfl,hi⟩)
 refine yWq O O ?_;refine zaq 4 O ?_;exact zhq (.inr rfl) rfl (by rw[decide_eq_decide.2 hi])
theorem cbody1_s(x:Tx)(hx:x.ok):PS cfg glK 212 [txW x] (.bool (decide (x.sign≠xsq x))):=by
 by_cases h:x.sign=xsq x
 ·skip
  refine zNq (fn:=Tryz.f212) O O O (Ob rfl) (fun R k0=>?_);refine ziq 9 O ?_;refine zkq O O O O O O (yFq (w':=.int .i64 0) (kAq x hx) (by rw[if_pos h])) ?_;refine zfq (w':=.bool false) O O (congrArg W.bool Xg) ?_;refine zaq 4 O ?_;exact zhq (.inr rfl) rfl (Joq fun q=>q h)
 ·skip
  refine zNq (fn:=Tryz.f212) O O O (Ob rfl) (fun R k0=>?_);refine ziq 9 O ?_;refine zkq O O O O O O (yFq (w':=.int .i64 110) (kAq x hx) (by rw[if_neg h])) ?_;refine zfq (w':=.bool true) O O (congrArg W.bool Xg) ?_;refine zaq 4 O ?_;exact zhq (.inr rfl) rfl (dec_t h)
theorem max_w(a b:Nat):W.int .i64 (match ltI (a:Int) (b:Int) with|true=>(b:Int)|false=>(a:Int))=W.int .i64 ((max a b:Nat):Int):=by
 congr 1
 by_cases h:(a:Int)<(b:Int)
 ·rw[ltI_iff.2 h,Nat.max_eq_right Xd]
 ·rw[ltI_not.2 h,Nat.max_eq_left Xd]
theorem cbody_s(ds:List Depo)(xs:List Tx)(f g:Bool)(hx:∀x∈xs,x.ok)(hd:ds.length<=140737488351232)(hn:xs.length<=140737488351232):PS cfg glK 143 [bodW ds xs f g] (.bool (decide (BodyM ds xs))):=by
 have e1:(ds.map pdW).length=ds.length:=List.length_map _;have e2:(xs.map txW).length=xs.length:=List.length_map _;by_cases hm:ds.length<=16/\xs.length<=16
 ·have hc:=cntx_s (G:=glK) xs g 212 (fun x=>x.sign≠xsq x) (fun x h=>cbody1_s x (hx x h)) rfl Xd;by_cases hs:∃x∈xs,x.sign≠xsq x
  ·refine zNq (fn:=Tryz.f143) O O O (Ob rfl) (fun R k0=>?_);refine ziq 15 O ?_;refine zfq (w':=.int .i64 ((ds.length:Nat):Int)) O O Ys ?_;refine zaq 2 O ?_;refine zfq (w':=.int .i64 ((xs.length:Nat):Int)) O O Yj ?_;refine zfq (w':=.int .i64 ((max ds.length xs.length:Nat):Int)) O O (max_w _ _) (zfq (w':=.bool true) O O (congrArg (fun b=>W.bool (!b)) (ltI_not.2 Xd)) ?_);refine zaq 4 O ?_;refine zkq O O O O O O (yFq (w':=.bool true) (hc) (by rw[decide_eq_true (hs)])) ?_;refine zaq 6 O ?_;exact zhq (.inr rfl) rfl (Joq fun q=>by obtain⟨x,h1,h2⟩:=hs;exact h2 (q.2.2 x h1))
  ·refine zNq (fn:=Tryz.f143) O O O (Ob rfl) (fun R k0=>?_);refine ziq 15 O ?_;refine zfq (w':=.int .i64 ((ds.length:Nat):Int)) O O Ys ?_;refine zaq 2 O ?_;refine zfq (w':=.int .i64 ((xs.length:Nat):Int)) O O Yj ?_;refine zfq (w':=.int .i64 ((max ds.length xs.length:Nat):Int)) O O (max_w _ _) (zfq (w':=.bool true) O O (congrArg (fun b=>W.bool (!b)) (ltI_not.2 Xd)) ?_);refine zaq 4 O ?_;refine zkq O O O O O O (yFq (w':=.bool false) (hc) (by rw[decide_eq_false (hs)])) ?_;refine zaq 6 O ?_;exact zhq (.inr rfl) rfl (dec_t ⟨hm.1,hm.2,fun x h=>Classical.not_not.1 fun q=>hs ⟨x,h,q⟩⟩)
 ·refine zNq (fn:=Tryz.f143) O O O (Ob rfl) (fun R k0=>?_);refine ziq 15 O ?_;refine zfq (w':=.int .i64 ((ds.length:Nat):Int)) O O Ys ?_;refine zaq 2 O ?_;refine zfq (w':=.int .i64 ((xs.length:Nat):Int)) O O Yj ?_;refine zfq (w':=.int .i64 ((max ds.length xs.length:Nat):Int)) O O (max_w _ _) (zfq (w':=.bool false) O O (congrArg (fun b=>W.bool (!b)) (ltI_iff.2 Xd)) ?_);refine zaq 11 O ?_;exact zhq (.inr rfl) rfl (Joq fun q=>hm ⟨q.1,q.2.1⟩)
noncomputable def bodyN:W:=.agg 2 [.nils,.nils]
noncomputable def lkZ:W:=.agg 102 [hdW hdZ,.int .i64 0,bodyN,.nils]
@[simp] theorem lkZ_pur:purW lkZ=true:=by simp[lkZ,bodyN,purW,purL]
noncomputable def lkA(l:List Lk)(i:Nat):W:=match l[i]? with
 |some x=>lkG x
 |none=>lkZ
noncomputable def prevW(l:List Lk):Nat->W
 |0=>lkZ
 |i+1=>lkA l i
@[simp] theorem lkA_pur(l:List Lk)(i:Nat):purW (lkA l i)=true:=by unfold lkA;split<;>simp
@[simp] theorem prev_pur(l:List Lk)(i:Nat):purW (prevW l i)=true:=by cases i<;>simp[prevW]
noncomputable def encL(l:List Lk)(i:Nat):List W:=[lkA l i,prevW l i]
theorem encL_ok(l:List Lk){n:Nat}:∀y∈List.range n,purL (encL l y)=true/\(encL l y).length=2:=fun y _=>⟨by simp[encL,purL],rfl⟩
theorem range_at{n i:Nat}(h:i<n):(List.range n)[i]? =some i:=by rw[List.getElem?_range h]
theorem lkA_at{l:List Lk}{i:Nat}{x:Lk}(h:l[i]? =some x):lkA l i=lkG x:=by unfold lkA;rw[h]
theorem ceach_s(l:List Lk)(f:Bool):PS cfg G 142 [.fz (l.map lkG) 102 f] (.fn 211 [] [.fel (.fz (l.map lkG) 102 f)]):=by
 have hp:=k9q l;refine zNq (fn:=Tryz.f142) O O O (Ob rfl) (fun R k0=>?_);refine ziq 13 O ?_;refine qwq (fr2:=[(2,_)]) Ye ?_ O O
 (repeat (first|exact trivial|refine And.symm ⟨?_,_,rfl,?_⟩))<;>(repeat (first|exact .nil|refine .cons ?_ ?_|refine .fn ?_ ?_|(refine qBq O ?_ rfl;(first|rfl|(focus (simp;done))))|(refine .sl O ?_ rfl Xj;(first|rfl|(focus (simp;done))))|(refine .pur ?_;(first|rfl|(focus (simp;done))))|refine .agg ?_|refine .arr ?_|refine .tup ?_))
theorem prev_agg(l:List Lk)(i:Nat):∃a b c d,prevW l i= .agg 102 [a,b,c,d]:=by
 cases i with
 |zero=>exact⟨_,_,_,_,rfl⟩
 |succ i=>
  show∃a b c d,lkA l i=_
  unfold lkA;split<;>exact⟨_,_,_,_,rfl⟩
theorem ceach_it(l:List Lk)(f:Bool)(hb:l.length<=4611686018427387903):qDq cfg G 211 [.fel (.fz (l.map lkG) 102 f)] ((List.range l.length).map (encL l)):=by
 have e:(l.map lkG).length=l.length:=List.length_map _;refine xyq (fn:=Tryz.f211) O O O (Ob rfl) (fun L E R hy k0=>?_);refine ziq 8 O ?_;refine zfq (w':=.int .i64 ((l.length:Nat):Int)) O O Xv ?_;refine zaq 4 O ?_;refine co_ent (ent_blkv (b:=0) (w':=lkZ) rfl (.agg (.cons (.agg (.cons (.pur rfl) (.cons xoq (.cons xoq (.cons xoq (.cons (.pur rfl) .nil)))))) (.cons (.pur rfl) (.cons (.pur rfl) (.cons (.pur rfl) .nil)))))) ?_;refine co_loopR (α:=Nat×Res) (fun p=>p.1<=l.length/\Yl cfg G L E (((List.range l.length).drop p.1).map (encL l)) p.2) (fun p=>[(8,.int .i64 (p.1:Int))]) [(0,_),(3,_),(6,_),(7,_)] (fun p=>[(0,132,prevW l p.1)]) (fun p=>p.2) (fun p=>l.length-p.1) ((0,R)) ⟨rfl,rfl,rfl,rfl,trivial⟩ (⟨Nat.zero_le _,hy⟩) ⟨rfl,trivial⟩ O O (fun p hI=>?_);obtain⟨i,R⟩:=p;obtain⟨hi,hy⟩:=hI;simp only at hi hy⊢;refine ziq 6 O ?_;refine zEq rfl (fun h1=>?_) (fun h1=>?_)
 ·have hi':i<l.length:=by omega
  obtain⟨x,hx⟩:∃x,l[i]? =some x:=⟨_,List.getElem?_eq_getElem hi'⟩
  rw[Ysq (range_at hi'),List.map_cons] at hy;have ex:=lkA_at hx;obtain⟨a,b,c,d,hp⟩:=prev_agg l i;have hv:purW (.agg 102 [a,b,c,d])=true:=hp▸prev_pur l i
  rw[show encL l i=[lkG x,.agg 102 [a,b,c,d]] by unfold encL;rw[ex,hp]] at hy;rw[hp];refine zgq 6 O ?_;refine zbq rfl (zBq (i:=i) O O O O O O O (z9q lkG hx)) ?_;refine zaq 11 O ?_;refine zoq rfl (qQq O O O (hy) (fun b R1 hb=>?_));refine zaq 3 O ?_;refine zEq rfl (fun h2=>?_) (fun h2=>?_)
  ·cases b with
   |true=>cases h2
   |false=>
    refine zgq 4 O ?_;refine jaq Xj ?_;refine zDq 1 O ?_;exact knq (.inr rfl) rfl hb
  ·cases b with
   |false=>exact absurd rfl h2
   |true=>
    refine zgq 9 O ?_;refine zuq (i+1) O O Xm ⟨by omega,by omega⟩ ?_;refine y5q 2 O ?_;rw[show lkG x=prevW l (i+1) from ex.symm];exact QSq ((i+1,R1)) (⟨hi',hb⟩) Yi (Nat.zero_le _) ⟨rfl,trivial⟩ ⟨rfl,rfl,rfl,rfl,trivial⟩ Xh Xh Xd Xq Yk rfl
 ·refine zgq 2 O ?_;refine jaq Xj ?_;refine zDq 1 O ?_;obtain rfl:i=l.length:=by omega
  rw[List.drop_of_length_le Xl] at hy;exact knq (.inl rfl) rfl hy
end
end
end Go.Proofs.YtjmekaoadfmkfaaGreatDoor

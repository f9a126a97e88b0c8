/-
  What the proof of ViewTurns stands on, part 8. No condition.
-/
import Derived.Test.YtfliaigjcadegabGreatDoorZViewTurnsG
set_option linter.unusedSimpArgs false
set_option linter.unusedVariables false
namespace Go.Proofs.YtfliaigjcadegabGreatDoor
section
open Go.RowKit
section
attribute [local irreducible] CoW OpW FlW Step Spec
variable {G:Nat->Option W}
noncomputable def bsL(l:List UInt8):Nat->Nat:=atL (l.map UInt8.toNat)
theorem bsL_lt(l:List UInt8)(i:Nat):bsL l i<256:=small_at (λb hb=>by obtain⟨c,_,rfl⟩:=List.mem_map.1 hb;exact c.toNat_lt) i
theorem bsL_at{l:List UInt8}{i:Nat}(h:i<l.length):(zaq l)[i]? =some (.int .u8 ((bsL l i:Nat):Int)):=by
 unfold zaq bsL atL;rw[List.getElem?_map,List.getElem?_eq_getElem h];simp[List.getD,List.getElem?_eq_getElem h]
theorem pad0_snoc{L:List Nat}{n:Nat}(h:L.length<n):pad0 (L++[0]) n=pad0 L n:=by
 unfold pad0;rw[show n-L.length=(n-(L++[0]).length)+1 by simp;omega,List.replicate_succ,List.append_assoc];rfl
theorem pad0_last{L:List Nat}{n x:Nat}(h:L.length<n):((pad0 (L++[x]) n).map wd)[L.length]? =some (wd x):=by
 rw[pad0_at Xh];simp[List.getD]
theorem pad0_turn{L:List Nat}{n x y:Nat}(h:L.length<n):((pad0 (L++[x]) n).map wd).set L.length (wd y)=(pad0 (L++[y]) n).map wd:=by
 rw[<-List.map_set];congr 1
 unfold pad0;rw[show(L++[x]).length=(L++[y]).length by simp,List.append_assoc,List.append_assoc,List.set_append_right _ _ (Nat.le_refl _),Nat.sub_self];rfl
noncomputable def schH(L:List Nat):HpW:=[(1,388,.arr 64 1 ((pad0 L 64).map wd)),(0,388,.arr 64 1 (List.replicate 64 (wd 0)))]
theorem sched_s(l:List UInt8)(f:Bool)(hl:l.length=64):PS cfg G 347 [.fz (zaq l) 1 f] (.arr 64 1 ((yfq (bsL l) 64).map wd)):=by
 obtain⟨bs,eb⟩:∃bs,bsL l=bs:=⟨_,rfl⟩
 have hb:∀i,bs i<256:=λi=>by rw[<-eb];exact bsL_lt l i
 have hat:∀i,i<64->(zaq l)[i]? =some (.int .u8 ((bs i:Nat):Int)):=λi hi=>by rw[<-eb];exact bsL_at Xd
 rw[eb];refine gI 17 O (λR k0=>?_);refine yUq (α:=Nat) (λt=>t<=16) (λt=>[(4,.int .i64 (t:Int))]) [(0,_),(2,_),(3,_)] (λt=>schH (yfq bs t)) (λt=>16-t) (0) ⟨rfl,rfl,rfl,trivial⟩ (Nat.zero_le _) ⟨rfl,trivial⟩ (rfl) (λt hI=>?_);have hsl:=x4q bs t;refine zBq 7 O ?_;refine gS 0 O (λh1=>?_) (λh1=>?_)
 ·have ht:t<16:=by omega
  refine zcq 10 O ?_;refine yUq (α:=Nat) (λi=>i<=4) (λi=>[(5,.int .i64 (i:Int))]) [(0,_),(2,_),(3,_),(4,_),(9,_),(10,_)] (λi=>schH (yfq bs t++[horn bs t i])) (λi=>4-i) (0) ⟨rfl,rfl,rfl,rfl,rfl,rfl,trivial⟩ (Nat.zero_le _) ⟨rfl,trivial⟩ (by show schH (yfq bs t)=schH (yfq bs t++[0]);unfold schH;rw[pad0_snoc Xd]) (λi hI=>?_);have hc:=hb (4*t+i);have hL:((pad0 (yfq bs t++[horn bs t i]) 64).map wd)[0+t*1]? =some (wd (horn bs t i)):=by have:=pad0_last (L:=yfq bs t) (n:=64) (x:=horn bs t i) Xd;rw[hsl] at this;rw[Nat.zero_add,Nat.mul_one];exact this
  refine zBq 7 O ?_;refine gS 0 O (λh2=>?_) (λh2=>?_)
  ·have hi:i<4:=by omega
   have hset:((pad0 (yfq bs t++[horn bs t i]) 64).map wd).set (0+t*1) (wd (horn bs t (i+1)))=(pad0 (yfq bs t++[horn bs t (i+1)]) 64).map wd:=by have:=pad0_turn (L:=yfq bs t) (n:=64) (x:=horn bs t i) (y:=horn bs t (i+1)) Xd;rw[hsl] at this;rw[Nat.zero_add,Nat.mul_one];exact this
   refine gP 7 O (yTq (i:=t) O O O O O O Xd) (gM 0 O (zMq O O O (yIq hL rfl)) (gV (w':=wd (256*horn bs t i%4294967296)) 0 O O (gA 2 O (4*t) (gA 1 O (4*t+i) (gP 0 O (zDq (i:=4*t+i) O O O O O O O (hat _ Xd)) (gA 1 O (bs (4*t+i)) (gV (w':=wd (horn bs t (i+1))) 0 O O (gP 0 O (yTq (i:=t) O O O O O O Xd) (gM 0 O (y7q O O O O O (qEq hL O O) rfl) (gA 5 O (i+1) (zcq 2 O ?_)))))))))));skip
   exact qnq (i+1) hi Xd ⟨rfl,trivial⟩ ⟨rfl,rfl,rfl,rfl,rfl,rfl,trivial⟩ Qd
  ·have hi:i=4:=by omega
   subst hi
   have hnx:yfq bs (t+1)=yfq bs t++[horn bs t 4]:=by
    rw[horn_word hb];show yfq bs t++[xCq bs (yfq bs t)]=_;unfold xCq;rw[hsl,show Nat.blt t 16=true from Nat.ble_eq_true_of_le ht]
   refine zcq 2 O (yKq Xi (zyq 5 O (gA 0 O (t+1) (zcq 2 O ?_))));skip
   exact qnq (t+1) ht Xd ⟨rfl,trivial⟩ ⟨rfl,rfl,rfl,trivial⟩ (by rw[hnx])
 ·have ht:t=16:=by omega
  subst ht;refine zcq 2 O (yKq Xi (zyq 9 O ?_));refine yUq (α:=Nat) (λu=>16<=u/\u<=64) (λu=>[(6,.int .i64 (u:Int))]) [(2,_),(3,_)] (λu=>schH (yfq bs u)) (λu=>64-u) (16) ⟨rfl,rfl,trivial⟩ (Jo) ⟨rfl,trivial⟩ (rfl) (λu hI=>?_);obtain⟨g1,g2⟩:=hI;have hsu:=x4q bs u;refine zBq 7 O ?_;refine gS 0 O (λh2=>?_) (λh2=>?_)
  ·have hu:u<64:=by omega
   obtain⟨L,eL⟩:∃L,yfq bs u=L:=⟨_,rfl⟩
   rw[eL] at hsu⊢;have hat2:∀i,i<u->((pad0 L 64).map wd)[0+i*1]? =some (wd (L.getD i 0)):=λi hi=>by rw[Nat.zero_add,Nat.mul_one];exact pad0_at Xd
   have hge:((pad0 L 64).map wd)[0+u*1]? =some (wd 0):=by have:=pad0_ge (l:=L) (n:=64) Xd;rw[hsu] at this;rw[Nat.zero_add,Nat.mul_one];exact this
   have hnx:xCq bs L=addN (addN (addN (L.getD (u-16) 0) (xorN (xorN (rotN (L.getD (u-15) 0) 7) (rotN (L.getD (u-15) 0) 18)) (shrN (L.getD (u-15) 0) 3))) (L.getD (u-7) 0)) (xorN (xorN (rotN (L.getD (u-2) 0) 17) (rotN (L.getD (u-2) 0) 19)) (shrN (L.getD (u-2) 0) 10)):=by
    have hbl:Nat.blt u 16=false:=by
     cases hq:Nat.blt u 16 with
     |false=>rfl
     |true=>have:=Ob hq;omega
    unfold xCq;rw[hsu,hbl]
   have hset:((pad0 L 64).map wd).set (0+u*1) (wd (xCq bs L))=(pad0 (yfq bs (u+1)) 64).map wd:=by
    have:=pad0_set (l:=L) (n:=64) (x:=xCq bs L) Xd;rw[hsu] at this;rw[Nat.zero_add,Nat.mul_one,this];show _=(pad0 (yfq bs u++[xCq bs (yfq bs u)]) 64).map wd;rw[eL]
   refine gA 7 O (u-15) (gP 0 O (yTq (i:=u-15) O O O O O O Xd) (gM 0 O (zMq O O O (yIq (hat2 (u-15) Xd) rfl)) (gA 1 O (u-2) (gP 0 O (yTq (i:=u-2) O O O O O O Xd) (gM 0 O (zMq O O O (yIq (hat2 (u-2) Xd) rfl)) (gA 7 O (u-16) (gP 0 O (yTq (i:=u-16) O O O O O O Xd) (gM 0 O (zMq O O O (yIq (hat2 (u-16) Xd) rfl)) (gC 1 O (q5q _ Xh _) (gC 1 O (q5q _ Xh _) (gA 6 O (u-7) (gP 0 O (yTq (i:=u-7) O O O O O O Xd) (gM 0 O (zMq O O O (yIq (hat2 (u-7) Xd) rfl)) (gC 2 O (q5q _ Xh _) (gC 1 O (q5q _ Xh _) (gV (w':=wd (xCq bs L)) 4 O (by rw[hnx];rfl) (gP 0 O (yTq (i:=u) O O O O O O Xd) (gM 0 O (y7q O O O O O (qEq hge O O) rfl) (gA 5 O (u+1) (zcq 2 O ?_))))))))))))))))))));skip
   exact qnq (u+1) ⟨by omega,hu⟩ Xd ⟨rfl,trivial⟩ ⟨rfl,rfl,trivial⟩ Qd
  ·have hu:u=64:=by omega
   subst hu;refine zcq 2 O (yKq Xi (zyq 9 O ?_));have ep:pad0 (yfq bs 64) 64=yfq bs 64:=by unfold pad0;rw[hsu];simp
   exact gQ 0 O (by rw[ep])
theorem rnumber_s(l:List UInt8)(f:Bool)(hl:l.length<=8):PS cfg G 310 [.fz (zaq l) 1 f] (.int .u64 (numB l:Nat)):=by
 have e:=zdq l;refine gI 17 O (λR k0=>?_);refine gLo (α:=Nat) 0 (λi=>i<=l.length) (λi=>[(4,.int .i64 (i:Int)),(3,.int .u64 (numB (l.take i):Nat))]) [0,2] (λi=>l.length-i) (0) rfl (Nat.zero_le _) (λi hI=>?_);refine gV (w':=.int .i64 (l.length:Int)) 5 O Xv ?_;refine gS 3 O (λh1=>?_) (λh1=>?_)
 ·have hi:i<l.length:=by omega
  obtain⟨c,hc⟩:∃c,l[i]? =some c:=⟨_,List.getElem?_eq_getElem hi⟩
  have hcl:=c.toNat_lt;have hn:=Z1q (l:=l) (i:=i) Xd;have ht:=numB_take hc
  have hlt:numB (l.take (i+1))<18446744073709551616:=by
   have h1:=Qdq (l.take (i+1));have h2:256^(l.take (i+1)).length<=256^(i+1):=Nat.pow_le_pow_right Xd Xq;have h3:=pow256_le (i:=i+1) Xd;omega
  exact gA 6 O (256*numB (l.take i)) (gP 2 O (zDq (i:=i) O O O O O O O (Zeq hc)) (gA 1 O (c.toNat) (gA 0 O (numB (l.take (i+1))) (e:=(by rw[ht];omega)) (gA 6 O (i+1) (gAg 2 O (i+1) (hi) Xd)))))
 ·have hi:i=l.length:=by omega
  subst hi;rw[List.take_length];exact gO 2 O (gQa 9 O)
theorem yOq(n size:Nat)(hn:n<18446744073709551616)(hs8:size<=8):yuq cfg G 298 0 [.int .u64 (n:Int),.int .i64 (size:Int)] [] λw hp nw=>
  w= .tup [.sl 0 0 0 size 1 none,.bool (decide (n/256^size=0))]/\hp=[(0,5,.arr (size*1) 1 (zaq (beB size n)))]/\nw=1:=by
 intro R;refine gIs 9 O (λk0=>?_);refine gM 0 O (KGq (l:=size) (c:=size) O O O O O O O O (Nat.le_refl _) (by show 1*size<=_;omega) Xd O O) (zcq 7 O (op_z ((size:Int) -1-((0:Nat):Int)) O O Xd Jo (zgq 4 O ?_)));refine yUq (α:=Nat×Nat) (λp=>p.1<=size/\p.2=n/256^p.1) (λp=>[(7,.int .i64 ((size:Int) -1-(p.1:Int))),(0,.int .u64 (p.2:Nat))]) [(4,_),(5,_),(6,_)] (λp=>[(0,5,.arr (size*1) 1 (zaq (List.replicate (size-p.1) 0++beB p.1 n)))]) (λp=>size-p.1) ((0,n)) ⟨rfl,rfl,rfl,trivial⟩ (⟨Nat.zero_le _,by simp⟩) ⟨rfl,rfl,trivial⟩ (by simp only[be_zero];rfl) (λp hI=>?_);obtain⟨i,q⟩:=p;obtain⟨g1,g2⟩:=hI;simp only at g1 g2⊢;have hlt:q<18446744073709551616:=by rw[g2];exact Nat.lt_of_le_of_lt (Nat.div_le_self _ _) hn
 refine zBq 7 O ?_;refine gS 0 O (λh1=>?_) (λh1=>?_)
 ·have hi:i<size:=by omega
  have hq:q/256=n/256^(i+1):=by rw[g2,Nat.div_div_eq_div_mul,<-Nat.pow_succ]
  have hset:=be_set n size i hi;rw[<-g2] at hset;exact gV (w':=.int .i64 ((size-1-i:Nat):Int)) 7 O (by congr 1;omega) (gV (w':=.int .u64 ((q%256:Nat):Int)) 1 O (congrArg (W.int .u64) (xhq q 256)) (gA 0 O (q%256) (gP 0 O (qPq (i:=size-1-i) O O O O O O O Xd) (gM 0 O (y7q O O O O O (qEq (be_at n size i hi) O O) (congrArg (λL=>[(0,5,W.arr (size*1) 1 L)]) hset)) (gA 4 O (q/256) (e:=(kFq q 256)) (zcq 6 O (op_z ((size:Int) -1-((i+1:Nat):Int)) O O Xd Jo (run_p 2 O (qnq ((i+1,q/256)) (⟨hi,hq⟩) Ye ⟨rfl,rfl,trivial⟩ ⟨rfl,rfl,rfl,trivial⟩ rfl)))))))))
 ·have hi:i=size:=by omega
  subst hi;refine zcq 2 O (yKq Xi (zyq 6 O (gV (w':=.bool (decide (n/256^i=0))) 0 O (congrArg W.bool (by rw[Bool.eq_iff_iff,eqI_iff,decide_eq_true_iff,<-g2];omega)) (zcq 5 O ?_))));refine fin Jp Ent.refl rfl ⟨rfl,rfl,?_,rfl⟩;rw[Nat.sub_self];rfl
theorem rabytes_s(a:Acct)(h:a.ok):PS cfg G 332 [aW a] (bW (qNq a)):=by
 have h1:a.nonce<18446744073709551616:=h.1;have h2:a.balance<18446744073709551616:=h.2;refine ps_in (fn:=Tryz.f332) O O O (Ob rfl) (λR k0=>?_);have l1:(zaq (beB 8 a.nonce)).length=8:=by rw[zdq,yiq]
 have l2:(zaq (beB 8 a.balance)).length=8:=by rw[zdq,yiq]
 refine zBq 10 O ?_
 ((refine zjq rfl (yoq O O O O O O (yOq _ 8 Xr Xd) ?_);rintro w hp1 nw1 ⟨rfl,rfl,rfl⟩))
 refine zgq 11 O ?_
 ((refine zjq rfl (yoq O O O O O O (yOq _ 8 Xr Xd) ?_);rintro w hp1 nw1 ⟨rfl,rfl,rfl⟩))
 refine zgq 11 O (gM 0 O (zKq O O (yQq (k:=ti5) (len:=8) (news:=zaq (beB 8 a.balance)) (olds:=zaq (beB 8 a.nonce)) O O O O (zJq O O O (knq (n:=8) (m:=8) l2.symm rfl)) (by intro h;rw[h] at l2;simp at l2) Qh Qh rfl (by show 8*1<0+(8+(zaq (beB 8 a.balance)).length)*1;rw[l2];omega) rfl (knq (n:=8) (m:=8) l1.symm rfl))) (zcq 4 O ?_));refine qvq (fr2:=[(2,bW (qNq a))]) Jp ⟨⟨_,rfl,.sl (xs:=zaq (qNq a)) rfl Xh ?_ Xi⟩,trivial⟩ O O;rw[qNq,yMq,l2];exact knq (n:=16) (by rw[List.length_append,l1,l2]) rfl
theorem raread_s(l:List UInt8)(f:Bool):PS cfg G 259 [.fz (zaq l) 1 f] (.tup [aW (qDq l).1,.int .i64 ((qDq l).2:Nat)]):=by
 have e:=zdq l;refine gIv 10 O (λR k0=>gV (w':=.int .i64 (l.length:Int)) 0 O Xv ?_);refine gS 3 O (λh1=>?_) (λh1=>?_)
 ·have q:qDq l=(.zero,10):=by unfold qDq;rw[if_pos Xd]
  rw[q];refine zcq 9 O (quq Xt O ?_)
  (repeat (first|exact .nil|refine .cons ?_ ?_|exact qpq|exact .nilfz|refine .fn ?_ ?_|(refine yxq O ?_ rfl;(first|rfl|(focus (simp;done))))|(refine .sl O ?_ rfl Xi;(first|rfl|(focus (simp;done))))|(refine .pur ?_;(first|rfl|(focus (simp;done))))|(refine .fzw ?_;(first|rfl|(focus (simp;done))))|refine .agg ?_|refine .arr ?_|refine .tup ?_))
 refine gV (w':=.int .i64 (l.length:Int)) 6 O Xv ?_;refine gS 3 O (λh2=>?_) (λh2=>?_)
 ·have q:qDq l=(.zero,11):=by unfold qDq;rw[if_neg Xd,if_pos Xd]
  rw[q];refine zcq 9 O (quq Xt O ?_)
  (repeat (first|exact .nil|refine .cons ?_ ?_|exact qpq|exact .nilfz|refine .fn ?_ ?_|(refine yxq O ?_ rfl;(first|rfl|(focus (simp;done))))|(refine .sl O ?_ rfl Xi;(first|rfl|(focus (simp;done))))|(refine .pur ?_;(first|rfl|(focus (simp;done))))|(refine .fzw ?_;(first|rfl|(focus (simp;done))))|refine .agg ?_|refine .arr ?_|refine .tup ?_))
 have hl:l.length=16:=by omega
 have q:qDq l=if (⟨numB (l.take 8),numB (l.drop 8)⟩:Acct)= .zero then(.zero,8) else(⟨numB (l.take 8),numB (l.drop 8)⟩,0):=by unfold qDq;rw[if_neg Xd,if_neg Xd]
 rw[q];refine gP 5 O (kLq (ys:=zaq (l.take 8)) (l:=0) (h:=8) O O O O O O O Xd Xd (by rw[List.drop_zero,QPq]) rfl) (gC 0 O (rnumber_s _ _ Xq) (gP 1 O (kLq (ys:=zaq (l.drop 8)) (l:=8) (h:=(zaq l).length) O O O O O O O Xd (Nat.le_refl _) (by rw[List.take_of_length_le Xh,QQq]) rfl) (gC 0 O (rnumber_s _ _ Xq) ?_)));refine gD 10 O (λh3=>?_) (λh3=>?_)
 ·have z1:numB (l.take 8)=0:=by omega
  refine gU 3 O ?_;refine gS 3 O (λh4=>?_) (λh4=>?_)
  ·have z2:numB (l.drop 8)=0:=by omega
   rw[if_pos (by rw[z1,z2];rfl)];refine zcq 9 O (quq Xt O ?_)
   (repeat (first|exact .nil|refine .cons ?_ ?_|exact qpq|exact .nilfz|refine .fn ?_ ?_|(refine yxq O ?_ rfl;(first|rfl|(focus (simp;done))))|(refine .sl O ?_ rfl Xi;(first|rfl|(focus (simp;done))))|(refine .pur ?_;(first|rfl|(focus (simp;done))))|(refine .fzw ?_;(first|rfl|(focus (simp;done))))|refine .agg ?_|refine .arr ?_|refine .tup ?_))
  ·have z2:¬numB (l.drop 8)=0:=by omega
   rw[if_neg λh=>z2 (by injection h)];refine zcq 10 O (quq Xt O ?_)
   (repeat (first|exact .nil|refine .cons ?_ ?_|exact qpq|exact .nilfz|refine .fn ?_ ?_|(refine yxq O ?_ rfl;(first|rfl|(focus (simp;done))))|(refine .sl O ?_ rfl Xi;(first|rfl|(focus (simp;done))))|(refine .pur ?_;(first|rfl|(focus (simp;done))))|(refine .fzw ?_;(first|rfl|(focus (simp;done))))|refine .agg ?_|refine .arr ?_|refine .tup ?_))
 ·have z1:¬numB (l.take 8)=0:=by omega
  rw[if_neg λh=>z1 (by injection h)];refine zcq 18 O (quq Xt O ?_)
  (repeat (first|exact .nil|refine .cons ?_ ?_|exact qpq|exact .nilfz|refine .fn ?_ ?_|(refine yxq O ?_ rfl;(first|rfl|(focus (simp;done))))|(refine .sl O ?_ rfl Xi;(first|rfl|(focus (simp;done))))|(refine .pur ?_;(first|rfl|(focus (simp;done))))|(refine .fzw ?_;(first|rfl|(focus (simp;done))))|refine .agg ?_|refine .arr ?_|refine .tup ?_))
def padJ(l:List UInt8)(j:Nat):List UInt8:=l++[128]++List.replicate j 0
theorem vRq(l:List UInt8)(j:Nat):(padJ l j).length=l.length+1+j:=by simp[padJ];omega
theorem padJ_next(l:List UInt8)(j:Nat):zaq (padJ l (j+1))=zaq (padJ l j)++zaq [0]:=by
 rw[<-yMq];congr 1
 unfold padJ;rw[List.append_assoc (l++[128]),<-List.replicate_succ']
noncomputable def padH(l:List UInt8)(j:Nat):HpW:=[(0,5,.arr (padJ l j).length 1 (zaq (padJ l j)))]
def padR(l:List UInt8):List UInt8:=padJ l ((119-l.length%64)%64)++beB 8 (8*l.length)
theorem padded_s(l:List UInt8)(f:Bool)(hl:l.length<2147483648):PS cfg G 345 [.fz (zaq l) 1 f] (bW (padR l)):=by
 have el:(zaq l).length=l.length:=zdq l;refine gIv 14 O (λR k0=>?_);refine qqq (λ_=>juq (fr2:=[(0,.fz (zaq l) 1 f),(2,.nils),(7,gW 0 1 []),(8,.fz (zaq l) 1 f)]) ⟨rfl,rfl,rfl,rfl,trivial⟩) ?_;refine ZEq (b:=0) (xs:=[]) (news:=zaq l) (k:=ti5) (H0:=[]) [] [(0,.fz (zaq l) 1 f),(2,.nils)] O O O O O O O O O O O (by show(0+(zaq l).length)*1<=_;omega) (by show 0+(zaq l).length<=_;omega) rfl Xh Xd Xd ⟨rfl,rfl,trivial⟩ rfl ⟨zbq (show purW (.fz (zaq l) 1 f)=true from yLq l),rfl,trivial⟩ Xh trivial Xh ?_
 refine zgq 7 O ?_;refine ZEq (b:=0) (xs:=zaq l) (news:=zaq [128]) (k:=ti5) (H0:=[]) [_] [(0,.fz (zaq l) 1 f),(2,.nils)] O O O O O O O O O O (zJq O O O O) (by show((zaq l).length+1)*1<=_;omega) (by show(zaq l).length+1<=_;omega) rfl Xh Xd Xd ⟨rfl,rfl,trivial⟩ rfl ⟨zbq (show purW (.fz (zaq l) 1 f)=true from yLq l),rfl,trivial⟩ (by rw[<-yMq];simp) trivial Xh ?_;refine zgq 5 O ?_;have e0:zaq l++zaq [128]=zaq (padJ l 0):=by rw[<-yMq];congr 1;simp[padJ]
 have hne:zaq (padJ l 0)≠[]:=λh=>by have:=congrArg List.length h;rw[zdq,vRq] at this;simp at this
 have htm:∀n:Nat,((n:Int)).tmod 64=((n%64:Nat):Int):=λn=>by rw[Int.tmod_eq_emod_of_nonneg Xd];omega
 refine qGq (α:=Nat) (λj=>∀i,i<j->(l.length+1+i)%64≠56) (λj=>[(3,.sl 0 0 0 (padJ l j).length 1 none),(0,.fz (zaq l) 1 f),(2,.nils)]) (λj=>padH l j) (λ_=>1) (λ_=>R) (λj=>64-j) 0 (λi hi=>absurd hi Xd) (yhq ⟨by show some (gW 0 1 (zaq l++zaq [128]))=_;rw[e0,qhq hne,zdq],rfl,rfl,trivial⟩ (by show []++gH 0 5 1 (zaq l++zaq [128])=padH l 0;rw[e0,qiq hne,zdq,Nat.mul_one];rfl) rfl) (λj hj=>?_);skip
 have hj64:j<64:=by
  refine Nat.lt_of_not_le λh=>?_
  have:=hj ((56+64-(l.length+1)%64)%64) Xd;omega
 have hlj:=vRq l j;refine zBq 4 O ?_;refine gZ 0 O hlj ?_;refine gV 0 O (congrArg (W.int .i64) (htm _)) ?_;refine gS 3 O (λh1=>?_) (λh1=>?_)
 ·have h1:¬(((l.length+1+j)%64:Nat):Int)=56:=h1;refine gM 6 O (zKq O O (yQq (k:=ti5) (len:=(padJ l j).length) (news:=zaq [0]) (olds:=zaq (padJ l j)) O O O O (zJq O O O O) Ql (by show((padJ l j).length+1)*1<=_;omega) (by show(padJ l j).length+1<=_;omega) rfl (by show(padJ l j).length<0+((padJ l j).length+1)*1;omega) rfl (zfq Xm (zdq _).symm (Nat.mul_one _).symm))) ?_;refine zcq 3 O ?_;have hl2:(padJ l j).length+1=(padJ l (j+1)).length:=by rw[vRq,vRq];omega
  have hp:purW (.fz (zaq l) 1 f)=true:=yLq l;skip
  refine yHq (j+1) (λi hi=>?_) (show 64-(j+1)<64-j by omega) ?_
  ·rcases Nat.lt_succ_iff_lt_or_eq.1 hi with h|rfl
   ·exact hj i h
   ·omega
  ·refine ydq (b:=0) (k:=2) Xd Xd (by show 2<3;omega) ⟨⟨?_,rfl⟩,⟨by rw[zeq hp];rfl,zbq hp⟩,⟨rfl,rfl⟩,trivial⟩ ⟨⟨by show 0<1;omega,?_,zbq (show purW (.arr _ 1 (zaq _))=true from yLq _)⟩,trivial⟩ (by show([0]:List Nat).Nodup;simp)
   ·show some (W.sl 2 0 0 ((padJ l j).length+1) 1 none)=some (W.sl 2 0 0 (padJ l (j+1)).length 1 none);rw[hl2]
   ·show some (5,W.arr (((padJ l j).length+1)*1) 1 (zaq (padJ l j)++zaq [0]))=some (5,renW _ (W.arr (padJ l (j+1)).length 1 (zaq (padJ l (j+1)))));rw[zeq (show purW (.arr _ 1 (zaq _))=true from yLq _),hl2,padJ_next,Nat.mul_one]
 ·have h56:(l.length+1+j)%64=56:=by omega
  obtain rfl:j=(119-l.length%64)%64:=by omega
  generalize hj0:(119-l.length%64)%64=j at*
  refine zcq 2 O ?_;refine yKq Xi ?_;refine zyq 5 O ?_;refine gV (w':=.int .i64 (l.length:Int)) 0 O (by rw[<-el];rfl) ?_;refine gWr 0 O ?_;refine gA 0 O (8*l.length) ?_;refine zcq 15 O ?_;obtain⟨n,en⟩:∃n,n=8*l.length:=⟨_,rfl⟩
  rw[<-en];have hn:n<18446744073709551616:=by omega
  refine yUq (α:=Nat×Nat) (λp=>p.1<=8/\p.2=n/256^p.1) (λp=>[(6,.int .i64 ((7:Int) -(p.1:Int))),(4,.int .u64 (p.2:Nat))]) [(2,_),(3,_),(5,_)] (λp=>(1,456,.arr 8 1 (zaq (List.replicate (8-p.1) 0++beB p.1 n)))::padH l j) (λp=>8-p.1) ((0,n)) ⟨rfl,rfl,rfl,trivial⟩ (⟨Nat.zero_le _,by simp⟩) ⟨rfl,rfl,trivial⟩ (rfl) (λp hI=>?_);obtain⟨i,q⟩:=p;obtain⟨g1,g2⟩:=hI;simp only at g1 g2⊢;have hlt:q<18446744073709551616:=by rw[g2];exact Nat.lt_of_le_of_lt (Nat.div_le_self _ _) hn
  refine zBq 7 O ?_;refine gS 0 O (λh2=>?_) (λh2=>?_)
  ·have hi:i<8:=by omega
   have hq:q/256=n/256^(i+1):=by rw[g2,Nat.div_div_eq_div_mul,<-Nat.pow_succ]
   have hset:=be_set n 8 i hi;rw[<-g2] at hset;refine gV (w':=.int .i64 ((8-1-i:Nat):Int)) 6 O (by congr 1;omega) ?_;refine gV (w':=.int .u64 ((q%256:Nat):Int)) 1 O (congrArg (W.int .u64) (xhq q 256)) ?_;refine gA 0 O (q%256) ?_;refine gP 0 O (yTq (i:=8-1-i) O O O O O O Xd) ?_;refine gM 0 O (y7q O O O O O (qEq (be_at n 8 i hi) O O) (congrArg (λL=>(1,456,W.arr 8 1 L)::padH l j) hset)) ?_;refine gA 4 O (q/256) (e:=(kFq q 256)) ?_;refine zcq 6 O ?_;refine op_z ((7:Int) -((i+1:Nat):Int)) O O Xd Jo ?_;refine run_p 2 O ?_;exact qnq ((i+1,q/256)) (⟨hi,hq⟩) Ye ⟨rfl,rfl,trivial⟩ ⟨rfl,rfl,rfl,trivial⟩ rfl
  ·have hi:i=8:=by omega
   subst hi;have hN:(zaq (beB 8 n)).length=8:=by rw[zdq,yiq]
   refine zcq 2 O ?_;refine yKq Xi ?_;refine zyq 6 O ?_;refine gM 0 O (zKq O O (yQq (k:=ti5) (len:=(padJ l j).length) (news:=zaq (beB 8 n)) (olds:=zaq (padJ l j)) O O O O (zJq O O O (zfq Xm hN.symm rfl)) Yo (by rw[hN];show(_+8)*1<=_;omega) Qn rfl (by rw[hN];show(padJ l j).length<0+(_+8)*1;omega) rfl (zfq Xm (zdq _).symm (Nat.mul_one _).symm))) ?_;refine zcq 4 O ?_;have er:zaq (padR l)=zaq (padJ l j)++zaq (beB 8 n):=by unfold padR;rw[hj0,<-en,yMq]
   have el2:(padR l).length=(padJ l j).length+(zaq (beB 8 n)).length:=by rw[<-zdq,er,List.length_append,zdq (padJ l j)]
   exact quq Jp rfl (.sl (full:=false) (c:=.arr (padR l).length 1 (zaq (padR l))) (xs:=zaq (padR l)) (by show some (W.arr (((padJ l j).length+(zaq (beB 8 n)).length)*1) 1 (zaq (padJ l j)++zaq (beB 8 n)))=_;rw[er,el2,Nat.mul_one]) (show purW (.arr _ 1 (zaq _))=true from yLq _) (by rw[<-el2];exact zfq Xm (zdq _).symm (Nat.mul_one _).symm) Xi)
end
theorem next_congr{bs bs':Nat->Nat}(h:∀i,i<64->bs i=bs' i)(L:List Nat):xCq bs L=xCq bs' L:=by
 unfold xCq;cases hq:Nat.blt L.length 16 with
 |false=>rfl
 |true=>
  have hn:L.length<16:=Ob hq;show wordN (bs (4*L.length)) (bs (4*L.length+1)) (bs (4*L.length+2)) (bs (4*L.length+3))=wordN (bs' (4*L.length)) (bs' (4*L.length+1)) (bs' (4*L.length+2)) (bs' (4*L.length+3));rw[h (4*L.length) Xd,h (4*L.length+1) Xd,h (4*L.length+2) Xd,h (4*L.length+3) Xd]
theorem YSq{bs bs':Nat->Nat}(h:∀i,i<64->bs i=bs' i):∀n,yfq bs n=yfq bs' n
 |0=>rfl
 |n+1=>by
  have ih:=YSq h n;show yfq bs n++[xCq bs (yfq bs n)]=yfq bs' n++[xCq bs' (yfq bs' n)];rw[ih,next_congr h]
theorem QSq{bs bs':Nat->Nat}(h:∀i,i<64->bs i=bs' i)(s:S8):jCq bs s=jCq bs' s:=by
 unfold jCq;rw[YSq h]
theorem atL_app{a b:List Nat}{i:Nat}(h:i<a.length):atL (a++b) i=atL a i:=by
 unfold atL;simp[List.getD,List.getElem?_append_left h]
theorem eats_app:∀(k:Nat) (s:S8) (b t:List Nat),b.length<=k->1<=t.length->q9q (b++t).length s (b++t)=q9q ((eats s b).2++t).length (eats s b).1 ((eats s b).2++t)
 |0,s,b,t,hb,ht=>by
  have e:eats s b=(s,b):=kgq _ _ _ Xd;rw[e]
 |k+1,s,b,t,hb,ht=>by
  by_cases h:b.length<64
  ·have e:eats s b=(s,b):=kgq _ _ _ h;rw[e]
  ·have h64:64<=b.length:=by omega
   have ed:(b++t).drop 64=b.drop 64++t:=List.drop_append_of_le_length h64;rw[Qzq h64,vpq (by rw[List.length_append];omega),ed,QSq (λi hi=>atL_app Xd) s];exact eats_app k _ (b.drop 64) t Yx ht
theorem eats_mod:∀(k:Nat) (s:S8) (b:List Nat),b.length<=k->(eats s b).2.length=b.length%64
 |0,s,b,hb=>by
  have e:eats s b=(s,b):=kgq _ _ _ Xd;rw[e];show b.length=_;omega
 |k+1,s,b,hb=>by
  by_cases h:b.length<64
  ·have e:eats s b=(s,b):=kgq _ _ _ h;rw[e];show b.length=_;omega
  ·have h64:64<=b.length:=by omega
   rw[Qzq h64,eats_mod k _ _ Yx,List.length_drop];omega
theorem be8_len8{n:Nat}(hn:n<2147483648):(beB 8 (8*n)).map UInt8.toNat=len8 n:=by
 have e:∀i,Nat.shiftRight (8*n%18446744073709551616) i%256=8*n/2^i%256:=λi=>by
  have h8:8*n%18446744073709551616=8*n:=Nat.mod_eq_of_lt Xd;rw[h8];show(8*n)>>>i%256=_;rw[Nat.shiftRight_eq_div_pow]
 have t:∀x:Nat,(UInt8.ofNat (x%256)).toNat=x%256:=λx=>by simp
 simp only[beB,len8,List.map_cons,List.map_nil,e,t]
theorem sha_one(l:List UInt8)(hl:l.length<2147483648):shaN [l.map UInt8.toNat]=digN (q9q ((padR l).map UInt8.toNat).length s0 ((padR l).map UInt8.toNat)):=by
 obtain⟨b,eb⟩:∃b,l.map UInt8.toNat=b:=⟨_,rfl⟩
 have el:b.length=l.length:=by rw[<-eb,List.length_map]
 have ht:qfq [b]=l.length:=by show b.length+0=_;omega
 have hm:=eats_mod b.length s0 b (Nat.le_refl _)
 have er:(padR l).map UInt8.toNat=b++([128]++List.replicate ((119-l.length%64)%64) 0++len8 l.length):=by
  unfold padR padJ;rw[List.map_append,List.map_append,List.map_append,be8_len8 hl,eb,List.append_assoc,List.append_assoc];simp[List.map_replicate]
 have ea:([b].foldl uuq (s0,[]))=eats s0 b:=rfl;rw[eb,er,eats_app b.length s0 b _ (Nat.le_refl _) Xh];have hp:=pad_eq 64 ((eats s0 b).2++[128]) Xd
 have hj:(120-((eats s0 b).2++[128]).length%64)%64=(119-l.length%64)%64:=by
  rw[List.length_append,hm,el];simp only[List.length_cons,List.length_nil];omega
 rw[hj] at hp
 have e2:padZ 64 ((eats s0 b).2++[128])++len8 l.length=(eats s0 b).2++([128]++List.replicate ((119-l.length%64)%64) 0++len8 l.length):=by
  rw[hp,List.append_assoc,List.append_assoc,List.append_assoc]
 have eS:shaN [b]=digN (q9q (padZ 64 (([b].foldl uuq (s0,[])).2++[128])++len8 (qfq [b])).length ([b].foldl uuq (s0,[])).1 (padZ 64 (([b].foldl uuq (s0,[])).2++[128])++len8 (qfq [b]))):=rfl;rw[eS,ea,ht,e2]
section
attribute [local irreducible] CoW OpW FlW Step Spec
variable {G:Nat->Option W}
noncomputable def sumH(s:S8):HpW:=[(2,388,.arr 64 1 (kW.map wd)),(1,326,.arr 8 1 s.l),(0,35,ywq)]
noncomputable def sumH2(v:S8)(ws:List Nat)(L:List W):HpW:=[(4,326,.arr 8 1 v.l),(3,388,.arr 64 1 (ws.map wd)),(2,388,.arr 64 1 (kW.map wd)),(1,326,.arr 8 1 L),(0,35,ywq)]
theorem s0_ok:s0.Ok:=⟨by decide,by decide,by decide,by decide,by decide,by decide,by decide,by decide⟩
theorem padR_len(l:List UInt8):(padR l).length%64=0/\(padR l).length<=l.length+72:=by
 unfold padR;rw[List.length_append,vRq,yiq];omega
theorem bsL_blk(M:List UInt8)(i:Nat):∀k,k<64->bsL ((M.drop (64*i)).take 64) k=atL ((M.map UInt8.toNat).drop (64*i)) k:=λk hk=>by
 unfold bsL atL;rw[List.map_take,List.map_drop,List.getD_eq_getElem?_getD,List.getD_eq_getElem?_getD,List.getElem?_take_of_lt hk]
set_option maxHeartbeats 1600000 in
theorem rsum_s(l:List UInt8)(f:Bool)(hl:l.length<2147483648):PS cfg G 333 [.fz (zaq l) 1 f] (dW (shaD [l])):=by
 have hsha:=sha_one l hl;obtain⟨hm,hle⟩:=padR_len l
 have e3:dW (shaD [l])= .arr 32 1 (bN (shaN [l.map UInt8.toNat])):=by
  show W.arr 32 1 (zaq _)=_;rw[<-bytes_of (shaN_lt _)];rfl
 rw[e3,hsha];have hpad:=padded_s (G:=G) l f hl;generalize padR l=M at*
 obtain⟨MN,eMN⟩:∃MN,M.map UInt8.toNat=MN:=⟨_,rfl⟩
 rw[eMN];have hMN:MN.length=M.length:=by rw[<-eMN,List.length_map]
 have eM:(zaq M).length=M.length:=zdq M;refine gI 15 O (λR k0=>gC 0 O (hpad) (gC 5 O (words_s) (zcq 11 O ?_)));refine yUq (α:=S8×Nat) (λp=>p.1.Ok/\64*p.2<=M.length/\q9q MN.length s0 MN=q9q (MN.drop (64*p.2)).length p.1 (MN.drop (64*p.2))) (λp=>[(6,.int .i64 ((64*p.2:Nat):Int))]) [(2,_),(3,_),(4,_),(5,_)] (λp=>sumH p.1) (λp=>M.length-64*p.2) ((s0,0)) ⟨rfl,rfl,rfl,rfl,trivial⟩ (⟨s0_ok,Nat.zero_le _,rfl⟩) ⟨rfl,trivial⟩ (rfl) (λp hI=>?_);obtain⟨s,i⟩:=p;obtain⟨hs,hi,heat⟩:=hI;simp only at hs hi heat⊢;refine zBq 5 O (gV (w':=.int .i64 (M.length:Int)) 0 O (by rw[<-eM];rfl) ?_);refine gS 3 O (λh1=>?_) (λh1=>?_)
 ·have h1:((64*i:Nat):Int)<(M.length:Int):=h1;have hi2:64*i+64<=M.length:=by omega
  have hblk:((M.drop (64*i)).take 64).length=64:=by rw[List.length_take,List.length_drop];omega
  have ey:((zaq M).drop (64*i)).take (64*i+64-64*i)=zaq ((M.drop (64*i)).take 64):=by
   rw[show 64*i+64-64*i=64 by omega];simp[zaq,List.map_take,List.map_drop]
  obtain⟨ws,ews⟩:∃ws,yfq (bsL ((M.drop (64*i)).take 64)) 64=ws:=⟨_,rfl⟩
  have hws:ws.length=64:=by rw[<-ews];exact x4q _ _
  have hsch:=λg=>sched_s (G:=G) ((M.drop (64*i)).take 64) g hblk
  rw[ews] at hsch;have hW:∀t,t<64->(ws.map wd)[0+t*1]? =some (wd (ws.getD t 0)):=λt ht=>by rw[Nat.zero_add,Nat.mul_one];exact ZGq Xd
  have hK:∀t,t<64->(kW.map wd)[0+t*1]? =some (wd (kW.getD t 0)):=λt ht=>by rw[Nat.zero_add,Nat.mul_one];exact ZGq (by rw[kW_len];exact ht)
  have hnew:jCq (bsL ((M.drop (64*i)).take 64)) s=jCq (atL (MN.drop (64*i))) s:=by rw[<-eMN];exact QSq (bsL_blk M i) s
  have hadd:mix8 s (xTq ws s 64) 8=(jCq (atL (MN.drop (64*i))) s).l:=by rw[<-hnew,<-ews];rfl
  refine gA 9 O (64*i+64) (gP 0 O (kLq (ys:=zaq ((M.drop (64*i)).take 64)) (l:=64*i) (h:=64*i+64) O O O O O O O Xd Xd ey rfl) (KCq O O O O O O (hsch _) Xh (show purL (ws.map wd)=true from z7q (λx=>rfl) ws) (zgq 18 O ?_)));refine yUq (α:=Nat) (λt=>t<=64) (λt=>[(9,.int .i64 (t:Int))]) [(2,_),(3,_),(4,_),(5,_),(6,_),(7,_),(8,_),(18,_),(19,_),(20,_),(21,_),(24,_),(25,_),(26,_),(27,_),(28,_),(29,_),(30,_)] (λt=>sumH2 (xTq ws s t) ws s.l) (λt=>64-t) (0) ⟨rfl,rfl,rfl,rfl,rfl,rfl,rfl,rfl,rfl,rfl,rfl,rfl,rfl,rfl,rfl,rfl,rfl,rfl,trivial⟩ (Nat.zero_le _) ⟨rfl,trivial⟩ (rfl) (λt hI=>?_);refine zBq 7 O ?_;refine gS 0 O (λh2=>?_) (λh2=>?_)
  ·have ht:t<64:=by omega
   obtain⟨v,ev⟩:∃v,xTq ws s t=v:=⟨_,rfl⟩
   have hv:v.Ok:=by rw[<-ev];exact rounds_ok hs ws t
   have hKt:=hK t ht;have hWt:=hW t ht;have hnx:xTq ws s (t+1)=roundN (kW.getD t 0) (ws.getD t 0) v:=by rw[<-ev];rfl
   rw[ev];generalize kW.getD t 0=kt at*
   generalize ws.getD t 0=wt at*
   refine gP 7 O (yTq (i:=t) O O O O O O Xd) (gM 0 O (zMq O O O (yIq hKt rfl)) (gP 1 O (yTq (i:=t) O O O O O O Xd) (gM 0 O (zMq O O O (yIq hWt rfl)) (KUq O O O O O O (rround_s v hv kt wt) O O Xw (ybq 6 O (gA 0 O (t+1) (zcq 2 O ?_)))))));skip
   exact qnq (t+1) ht Xd ⟨rfl,trivial⟩ Yq (by rw[hnx];rfl)
  ·have ht:t=64:=by omega
   subst ht;obtain⟨v,ev⟩:∃v,xTq ws s 64=v:=⟨_,rfl⟩
   rw[ev] at hadd⊢;refine zcq 2 O (yKq Xi (zyq 8 O ?_));refine yUq (α:=Nat) (λj=>j<=8) (λj=>[(10,.int .i64 (j:Int))]) [(2,_),(3,_),(4,_),(5,_),(6,_),(7,_),(8,_),(9,_),(18,_),(19,_),(20,_),(21,_),(24,_),(25,_),(26,_),(27,_),(28,_),(29,_),(30,_),(31,_),(32,_)] (λj=>sumH2 v ws (mix8 s v j)) (λj=>8-j) (0) ⟨rfl,rfl,rfl,rfl,rfl,rfl,rfl,rfl,rfl,rfl,rfl,rfl,rfl,rfl,rfl,rfl,rfl,rfl,rfl,rfl,rfl,trivial⟩ (Nat.zero_le _) ⟨rfl,trivial⟩ (rfl) (λj hI=>?_);refine zBq 7 O ?_;refine gS 0 O (λh3=>?_) (λh3=>?_)
   ·have hj:j<8:=by omega
    have hq:j=0\/j=1\/j=2\/j=3\/j=4\/j=5\/j=6\/j=7:=by omega
    have g1:(mix8 s v j)[0+j*1]? =some (wd (s.get j)):=by rcases hq with rfl|rfl|rfl|rfl|rfl|rfl|rfl|rfl<;>rfl
    have g2:v.l[0+j*1]? =some (wd (v.get j)):=S8_at v hj;have g3:(mix8 s v j).set (0+j*1) (wd (addN (s.get j) (v.get j)))=mix8 s v (j+1):=by rcases hq with rfl|rfl|rfl|rfl|rfl|rfl|rfl|rfl<;>rfl
    generalize s.get j=x at*
    generalize v.get j=y at*
    refine gP 6 O (yTq (i:=j) O O O O O O Xd) (gM 0 O (zMq O O O (yIq g1 rfl)) (gP 1 O (yTq (i:=j) O O O O O O Xd) (gM 0 O (zMq O O O (yIq g2 rfl)) (gV (w':=wd (addN x y)) 0 O O (gP 0 O (yTq (i:=j) O O O O O O Xd) (gM 0 O (y7q O O O O O (qEq g1 O O) rfl) (gA 5 O (j+1) (zcq 2 O ?_))))))));skip
    exact qnq (j+1) hj Xd ⟨rfl,trivial⟩ Yq (congrArg (λL=>sumH2 v ws L) g3)
   ·have hj:j=8:=by omega
    subst hj;rw[hadd];refine zcq 2 O (yKq Xi (zyq 5 O (gA 0 O (64*i+64) (zcq 2 O ?_))));skip
    exact q_againH (jCq (atL (MN.drop (64*i))) s,i+1) ⟨block_ok _ _,by simp only;omega,by rw[heat,vpq Xq,List.drop_drop];rfl⟩ Ye (Nat.zero_le _) ⟨rfl,trivial⟩ Yq Xg Xg Xd Xj (by show([2,1,0]:List Nat).Nodup;decide)
 ·have h1:¬((64*i:Nat):Int)<(M.length:Int):=h1;have hend:q9q MN.length s0 MN=s:=by rw[heat,List.drop_of_length_le Xd];rfl
  rw[hend];refine zcq 2 O (yKq Xi (zyq 14 O ?_));refine yUq (α:=Nat) (λa=>a<=8) (λa=>[(12,.int .i64 (a:Int))]) [(2,_),(3,_),(11,_)] (λa=>(3,35,.arr 32 1 (bN (dI s (4*a))))::sumH s) (λa=>8-a) (0) ⟨rfl,rfl,rfl,trivial⟩ (Nat.zero_le _) ⟨rfl,trivial⟩ (rfl) (λa hI=>?_);refine zBq 7 O ?_;refine gS 0 O (λh2=>?_) (λh2=>?_)
  ·have ha:a<8:=by omega
   refine zcq 10 O ?_;refine yUq (α:=Nat) (λb=>b<=4) (λb=>[(13,.int .i64 (b:Int))]) [(2,_),(3,_),(11,_),(12,_),(55,_),(56,_)] (λb=>(3,35,.arr 32 1 (bN (dI s (4*a+b))))::sumH s) (λb=>4-b) (0) ⟨rfl,rfl,rfl,rfl,rfl,rfl,trivial⟩ (Nat.zero_le _) ⟨rfl,trivial⟩ (rfl) (λb hI=>?_);refine zBq 7 O ?_;refine gS 0 O (λh3=>?_) (λh3=>?_)
   ·have hb:b<4:=by omega
    have hdv:(4*a+b)/4=a:=by omega
    have hmd:(4*a+b)%4=b:=by omega
    have hset:=dI_set s (i:=4*a+b) Xd;rw[hdv,hmd] at hset;refine gA 6 O (4*a) (gA 1 O (4*a+b) (gP 1 O (yTq (i:=a) O O O O O O Xd) (gM 0 O (zMq O O O (yIq (S8_at s ha) rfl)) (gA 1 O (8*b) (gA 0 O (24-8*b) (gA 0 O (24-8*b) (gV (w':=wd (Nat.shiftRight (s.get a) (min (24-8*b) 32))) 0 O O (gV (w':=.int .u8 (.ofNat (Nat.shiftRight (s.get a) (min (24-8*b) 32)%256))) 0 O O (gP 0 O (yTq (i:=4*a+b) O O O O O O Xd) (gM 0 O (y7q O O O O O (qEq (dI_at s Xd) O O) rfl) (gA 5 O (b+1) (zcq 2 O ?_))))))))))));skip
    exact qnq (b+1) hb Xd ⟨rfl,trivial⟩ Yq (congrArg (λL=>(3,35,W.arr 32 1 L)::sumH s) hset)
   ·have hb:b=4:=by omega
    subst hb;refine zcq 2 O (yKq Xi (zyq 5 O (gA 0 O (a+1) (zcq 2 O ?_))));skip
    exact qnq (a+1) ha Xd ⟨rfl,trivial⟩ Yq rfl
  ·have ha:a=8:=by omega
   subst ha;refine zcq 2 O (yKq Xi (zyq 9 O ?_));have ed:dI s 32=digN s:=by simp[dI,List.take_of_length_le,v8q]
   exact gQ 0 O (by rw[<-ed])
theorem rtbytes_s(kind:UInt8)(ps:List (List UInt8))(f:Bool)(hn:ps.length<1000000)(hb:∀p∈ps,p.length<1000000):PS cfg G 334 [.int .u8 (.ofNat kind.toNat),.fz (ps.map bW) 1 f] (bW (tagB kind ps)):=by
 have e:(ps.map bW).length=ps.length:=List.length_map _;have htm:∀n:Nat,n<4294967296->((n:Int)).tmod 4294967296=(n:Int):=λn hn=>by rw[Int.tmod_eq_emod_of_nonneg Xd];omega
 refine gIv 19 O (λR k0=>?_);refine co_loopG1 (α:=Nat) (λi=>i<=ps.length) 5 (λi=>zaq (kind::(ps.take i).flatMap xzq)) 5 1 (λi=>[(6,.int .i64 (i:Int))]) [(1,_),(4,_)] ([]) 0 0 (λi=>ps.length-i) (0) ⟨rfl,rfl,trivial⟩ (Nat.zero_le _) ⟨rfl,trivial⟩ Xd Xd Yg Ql rfl Ql Xg Xg rfl Xk Xj Xz (λi hI=>?_);refine zBq 5 O (gV (w':=.int .i64 (ps.length:Int)) 0 O Xv ?_);refine gS 3 O (λh1=>?_) (λh1=>?_)
 ·have hi:i<ps.length:=by omega
  obtain⟨x,hx⟩:∃x,ps[i]? =some x:=⟨_,List.getElem?_eq_getElem hi⟩
  have hxl:=hb x (List.mem_of_getElem? hx);have hfl:((ps.take i).flatMap xzq).length<=i*1000004:=KSq i hb;have hL:(zaq (kind::(ps.take i).flatMap xzq)).length<=1+i*1000004:=by rw[zdq,List.length_cons];omega
  have hN:(zaq (beB 4 x.length)).length=4:=by rw[zdq,yiq]
  have hnx:zaq (kind::(ps.take (i+1)).flatMap xzq)=(zaq (kind::(ps.take i).flatMap xzq)++zaq (beB 4 x.length))++zaq x:=by
   rw[List.take_add_one,hx,<-yMq,<-yMq];congr 1
   simp[xzq,Nat.mod_eq_of_lt (show x.length<4294967296 by omega)]
  skip
  cases x with
  |nil=>
   refine yAq 8 O (gP 0 O (zDq (i:=i) O O O O O O O (zqq bW hx)) (gV (w':=.int .i64 (([]:List UInt8).length:Int)) 1 O (by show W.int .i64 ((zaq (([]:List UInt8))).length:Int)=_;rw[zdq]) (gV (w':=.int .u64 (([]:List UInt8).length:Int)) 1 O O ?_)))
   (refine zjq rfl (qBq O O O O O O (yOq ([]:List UInt8).length 4 Xm Xd) ?_);rintro w hp1 nw1 ⟨rfl,rfl,rfl⟩)
   exact zgq 11 O (gM 0 O (zKq O O (qeq [_] (k:=ti5) (news:=zaq (beB 4 ([]:List UInt8).length)) O O O O O (zJq O O O (zfq Xm hN.symm rfl)) Yo Qx Qn rfl (by simp[numC]))) (gP 7 O (zDq (i:=i) O O O O O O O (zqq bW hx)) (gM 1 O (zKq O O (xOq (k:=ti5) O O O O O)) (gA 6 O (i+1) (zcq 2 O (qXq 2 (i+1) (hi) Xd (Nat.zero_le _) (by rw[hnx];exact List.append_nil _) Xu Xd Yg rfl Xx ⟨rfl,trivial⟩ ⟨rfl,rfl,trivial⟩ Xg Xg rfl Xk Xj Xz))))))
  |cons c x=>
   refine yAq 8 O (gP 0 O (zDq (i:=i) O O O O O O O (zqq bW hx)) (gV (w':=.int .i64 ((c::x).length:Int)) 1 O (by show W.int .i64 ((zaq ((c::x))).length:Int)=_;rw[zdq]) (gA 0 O ((c::x).length) (gV (w':=.int .u64 ((c::x).length:Int)) 0 O (congrArg (W.int .u64) (htm _ Xd)) ?_))))
   (refine zjq rfl (qBq O O O O O O (yOq (c::x).length 4 Xd Xd) ?_);rintro w hp1 nw1 ⟨rfl,rfl,rfl⟩)
   exact zgq 11 O (gM 0 O (zKq O O (qeq [_] (k:=ti5) (news:=zaq (beB 4 (c::x).length)) O O O O O (zJq O O O (zfq Xm hN.symm rfl)) Yo Qx Qn rfl (by simp[numC]))) (gP 7 O (zDq (i:=i) O O O O O O O (zqq bW hx)) (gM 1 O (zKq O O (yQq (k:=ti5) (len:=(zaq (kind::(ps.take i).flatMap xzq)++zaq (beB 4 (c::x).length)).length) (news:=zaq (c::x)) (olds:=zaq (kind::(ps.take i).flatMap xzq)++zaq (beB 4 (c::x).length)) O O O O O Ql (by rw[List.length_append,hN,zdq (c::x)];show(_+_)*1<=_;omega) (by rw[List.length_append,hN,zdq (c::x)];omega) rfl Qb rfl (zfq Xm O O))) (gA 6 O (i+1) (zcq 2 O (qXq 3 (i+1) (hi) Xd (Nat.zero_le _) (hnx) Xu Xd Yg rfl Xx ⟨rfl,trivial⟩ ⟨rfl,rfl,trivial⟩ Xg Xg rfl Xk Xj Xz))))))
 ·have hi:i=ps.length:=by omega
  subst hi;refine zcq 2 O (yKq Xi (zyq 9 O (quq Xt O ?_)));rw[List.take_length];exact j8q (H0:=[]) Xm Xh Xh
theorem Kkq(kind:UInt8)(ps:List (List UInt8))(f:Bool)(hn:ps.length<1000)(hb:∀p∈ps,p.length<1000000):PS cfg G 306 [.int .u8 (.ofNat kind.toNat),.fz (ps.map bW) 1 f] (dW (tagD kind ps)):=by
 have hl:=tag_le kind ps hb;exact gI 9 O (λR k0=>gC 0 O (rtbytes_s kind ps f Xd hb) (gC 0 O (rsum_s (tagB kind ps) false Xd) (gQa 4 O)))
theorem x7q(kind:UInt8)(a:List UInt8)(hb:a.length<1000000):PS cfg G 254 [.int .u8 (.ofNat kind.toNat),bW a] (dW (tagD kind [a])):=by
 refine gI 10 O (λR k0=>?_);refine xAq O O O O O (by(repeat (first|exact .nil|refine .cons ?_ ?_|(refine .sl O ?_ rfl Xi;first|rfl|(focus (simp;done)))|(refine yxq O ?_ rfl;first|rfl|(focus (simp;done)))|(refine .pur ?_;first|rfl|(focus (simp;done)))))) (Kkq kind [a] false Xh Xq) Xk Xk ?_;exact zgq 4 O (gQa 0 O)
theorem rkey_s(k:Dig):PS cfg G 329 [dW k] (dW (keyD k)):=by
 exact gI 9 O (λR k0=>xAq O O O O O (.cons (.pur rfl) (.cons (.sl (full:=false) (xs:=zaq k.1) rfl Xh (zfq Xm (by simp[zdq,k.2]) rfl) Xi) .nil)) (x7q 3 k.1 (by simp[k.2])) Xk Xk (zgq 4 O (gQa 0 O)))
theorem Kjq:PS cfg G 291 [] (dW (tagD 0 [])):=by
 exact gI 7 O (λR k0=>xAq O O O O O (.cons (.pur rfl) (.cons .nilfz .nil)) (Kkq 0 [] false Xh Xh) Xk Xk (zgq 4 O (gQa 0 O)))
theorem rtwo_s(kind:UInt8)(a b:List UInt8)(f g:Bool)(ha:a.length<1000000)(hb:b.length<1000000):PS cfg G 303 [.int .u8 (.ofNat kind.toNat),.fz (zaq a) 1 f,.fz (zaq b) 1 g] (dW (tagD kind [a,b])):=by
 exact gI 11 O (λR k0=>xAq O O O O O (.cons (.pur rfl) (.cons (.sl2 (full:=false) rfl (.arr (.cons (.fzw Xh) (.cons (.fzw Xh) .nil))) rfl Xi) .nil)) (Kkq kind [a,b] false Xh (by simp[ha,hb])) Xk Xk (zgq 4 O (gQa 0 O)))
noncomputable def ofH(A B:List Pr):HpW:=([(0,35,ywq)]++gH 1 149 33 (A.map pW))++gH 2 149 33 (B.map pW)
theorem ofH_l(A:List Pr):ofH A []=[(0,35,ywq)]++gH 1 149 33 (A.map pW):=List.append_nil _
theorem rof_s:∀(t:T) (d:Nat) (b:Dig) (f:Bool),Zr d b->t.ok d b=true->QYq t->t.all.length<=1000000->PS cfg G 250 [.fz (t.all.map pW) 33 f,.int .i64 (d:Int)] (dW (sumD t)):=by
 intro t;induction t with
 |nil=>
  intro d b f hz ok hs hl;refine gI 9 O (λR k0=>?_);refine gL 0 O ?_;refine gC 6 O (Kjq) ?_;exact gQa 5 O
 |leaf k v=>
  intro d b f hz ok hs hl;have hv:v.length<1000000:=hs (k,v) (by simp[T.all]);refine gI 9 O (λR k0=>?_);refine gL 0 O ?_;refine gL 10 O ?_;refine gX 7 O ?_;refine gX 3 O ?_;refine zcq 2 O ?_;refine KUq O O O O O (by show [_,W.fz (((zaq k.1).drop (0/1)).take 32) 1 true,_]=[_,W.fz (zaq k.1) 1 true,_];rw[show 0/1=0 from rfl,List.drop_zero,List.take_of_length_le (by rw[zdq,k.2];omega)];rfl) (rtwo_s 1 k.1 v true false (by simp[k.2]) hv) Xh Xh Xw ?_;refine ybq 5 O ?_;exact gQa 0 O
 |fork tl tr ihL ihR=>
  intro d b f hz ok hs hl;obtain⟨hd,okL,okR,two⟩:=ok_fork.1 ok;obtain⟨b0,b1⟩:=ZFq hz ok;have sL:QYq tl:=λp hp=>hs p Jc
  have sR:QYq tr:=λp hp=>hs p Jc
  have hall:(T.fork tl tr).all=tl.all++tr.all:=by simp[T.all]
  have cL:=ihL (d+1) b false (q0q hz) okL sL (by rw[hall,List.length_append] at hl;omega);have cR:=ihR (d+1) (qzq b d) false (qZq hz hd) okR sR (by rw[hall,List.length_append] at hl;omega);have hn2:2<=tl.all.length+tr.all.length:=Zpq okL okR two;rw[hall] at hl⊢;rw[List.length_append] at hl;generalize tl.all=L at*
  generalize tr.all=Q at*
  have e:((L++Q).map pW).length=L.length+Q.length:=by rw[List.length_map,List.length_append]
  have hat:∀i,i<L.length+Q.length->∃x,(L++Q)[i]? =some x:=λi hi=>⟨_,List.getElem?_eq_getElem (by rw[List.length_append];exact hi)⟩
  refine gI 9 O (λR k0=>?_);refine gZ 0 O e ?_;refine gF 0 O (eqI_not.2 Xd) ?_;refine gZ 9 O e ?_;refine gF 0 O (eqI_not.2 Xd) ?_;refine zcq 18 O ?_;have z0:Q.take (0-L.length)=[]:=by rw[Nat.zero_sub];rfl
  refine qGq (α:=Nat) (λi=>i<=L.length+Q.length) (λi=>[(5,gW 1 33 ((L.take i).map pW)),(7,.int .i64 (i:Int)),(6,gW 2 33 ((Q.take (i-L.length)).map pW)),(0,.fz ((L++Q).map pW) 33 f),(1,.int .i64 (d:Int)),(4,.ptr 0 0)]) (λi=>ofH (L.take i) (Q.take (i-L.length))) (λ_=>3) (λ_=>R) (λi=>L.length+Q.length-i) 0 (Nat.zero_le _) ((juq (fr2:=[(5,.nils),(7,.int .i64 0),(6,.nils),(0,.fz ((L++Q).map pW) 33 f),(1,.int .i64 (d:Int)),(4,.ptr 0 0)]) ⟨rfl,rfl,rfl,rfl,rfl,rfl,trivial⟩).trans ((juq (fr2:=[(5,.nils),(7,.int .i64 0),(6,.nils),(0,.fz ((L++Q).map pW) 33 f),(1,.int .i64 (d:Int)),(4,.ptr 0 0)]) ⟨rfl,rfl,rfl,rfl,rfl,rfl,trivial⟩).trans (yhq ⟨rfl,rfl,by rw[z0];rfl,rfl,rfl,rfl,trivial⟩ (by rw[z0];rfl) rfl))) (λi hI=>?_);skip
  have hI:i<=L.length+Q.length:=hI;refine zBq 5 O ?_;refine gZ 0 O e ?_;refine gS 3 O (λh1=>?_) (λh1=>?_)
  ·have hi:i<L.length+Q.length:=by omega
   obtain⟨x,hx⟩:=hat i hi;skip
   by_cases hc:i<L.length
   ·have hxl:L[i]? =some x:=by rw[List.getElem?_append_left hc] at hx;exact hx
    have hbit:bitN x.1 d=0:=b0 x (List.mem_of_getElem? hxl);have zq:Q.take (i-L.length)=[]:=by rw[show i-L.length=0 by omega];rfl
    have zq':Q.take (i+1-L.length)=[]:=by rw[show i+1-L.length=0 by omega];rfl
    have hL2:(L.take (i+1)).map pW=(L.take i).map pW++[pW x]:=by rw[List.take_add_one,hxl,List.map_append];rfl
    have hlt:((L.take i).map pW).length<=1000000:=by rw[List.length_map,List.length_take];omega
    rw[zq,ofH_l];refine gP 8 O (zDq (i:=i) O O O O O O O (zqq pW hx)) ?_;refine gC 3 O (Ktq x.1 d hd) ?_;refine gT 0 O (eqI_iff.2 (by rw[hbit];rfl)) ?_;refine gP 7 O (zDq (i:=i) O O O O O O O (zqq pW hx)) ?_;refine gM 2 O (zKq O O (qeq [_,_] (k:=ti149) (news:=[pW x]) O O O O O (zJq O O O O) Xh (by show(((L.take i).map pW).length+1)*56<=_;omega) (by show((L.take i).map pW).length+1<=_;omega) rfl Xh)) ?_;refine gA 6 O (i+1) ?_;refine zcq 2 O ?_;skip
    refine yHq (i+1) hi Xd ?_;simp only[zq',ofH_l,hL2];exact(qwq (b:=1) (H0:=[(0,35,ywq)]) (l2:=(L.take i).map pW++[pW x]) (n:=((L.take i).map pW++[pW x]).length) (fr2:=[(7,.int .i64 ((i+1:Nat):Int)),(6,.nils),(0,.fz ((L++Q).map pW) 33 f),(1,.int .i64 (d:Int)),(4,.ptr 0 0)]) 4 5 Xd Xd Ym Xh O O ⟨rfl,rfl,rfl,rfl,rfl,trivial⟩ ⟨rfl,rfl,zbq (show purW (.fz ((L++Q).map pW) 33 f)=true from qLq _),rfl,rfl,trivial⟩ rfl Xh ⟨⟨by omega,rfl,rfl⟩,trivial⟩ Xh).trans (juq ⟨rfl,rfl,rfl,rfl,rfl,rfl,trivial⟩)
   ·have hxq:Q[i-L.length]? =some x:=by rw[List.getElem?_append_right Xd] at hx;exact hx
    have hbit:bitN x.1 d=1:=b1 x (List.mem_of_getElem? hxq);have zl:L.take i=L:=List.take_of_length_le Xd;have zl':L.take (i+1)=L:=List.take_of_length_le Xd;have hQ2:(Q.take (i+1-L.length)).map pW=(Q.take (i-L.length)).map pW++[pW x]:=by rw[show i+1-L.length=(i-L.length)+1 by omega,List.take_add_one,hxq,List.map_append];rfl
    have hlt:((Q.take (i-L.length)).map pW).length<=1000000:=by rw[List.length_map,List.length_take];omega
    have hnm:∀p∈[((0:Nat),35,ywq)]++gH 1 149 33 (L.map pW),p.1<2:=λp hp=>by
     rcases List.mem_append.1 hp with hp|hp
     ·simp only[List.mem_cons,List.not_mem_nil,or_false] at hp;rw[hp];show 0<2;omega
     ·rw[j3q p hp];omega
    rw[zl];refine gP 8 O (zDq (i:=i) O O O O O O O (zqq pW hx)) ?_;refine gC 3 O (Ktq x.1 d hd) ?_;refine gF 0 O (eqI_not.2 (by rw[hbit];decide)) ?_;refine gP 7 O (zDq (i:=i) O O O O O O O (zqq pW hx)) ?_;refine gM 2 O (zKq O O (qeq ((3,_)::([(0,_)]++gH 1 149 33 (L.map pW))) (k:=ti149) (news:=[pW x]) O O O O O (zJq O O O O) Xh (by show(((Q.take (i-L.length)).map pW).length+1)*56<=_;omega) (by show((Q.take (i-L.length)).map pW).length+1<=_;omega) rfl (λp hp=>by rcases List.mem_cons.1 hp with q|q;(rw[q];show¬3=2;omega);have:=hnm p q;omega))) ?_;refine gA 6 O (i+1) ?_;refine zcq 2 O ?_;skip
    refine yHq (i+1) hi Xd ?_;simp only[zl',hQ2];exact(qwq (b:=2) (H0:=[(0,35,ywq)]++gH 1 149 33 (L.map pW)) (l2:=(Q.take (i-L.length)).map pW++[pW x]) (n:=((Q.take (i-L.length)).map pW++[pW x]).length) (fr2:=[(5,gW 1 33 (L.map pW)),(7,.int .i64 ((i+1:Nat):Int)),(0,.fz ((L++Q).map pW) 33 f),(1,.int .i64 (d:Int)),(4,.ptr 0 0)]) 4 6 Xd Xd Ym Xh O O ⟨rfl,rfl,rfl,rfl,rfl,trivial⟩ ⟨by cases L.map pW<;>rfl,rfl,zbq (show purW (.fz ((L++Q).map pW) 33 f)=true from qLq _),rfl,rfl,trivial⟩ rfl Xh (uBq ⟨⟨by omega,rfl,rfl⟩,trivial⟩ (subH_g Xd Xh (λx r h=>by rw[h];rfl))) (by cases L.map pW<;>simp[gH])).trans (yhq ⟨rfl,rfl,rfl,rfl,rfl,rfl,trivial⟩ (by unfold ofH;rw[hQ2]) rfl)
  ·have hi:i=L.length+Q.length:=by omega
   have zl:L.take i=L:=List.take_of_length_le Xd;have zq:Q.take (i-L.length)=Q:=List.take_of_length_le Xd;rw[zl,zq];refine zcq 2 O ?_;refine yKq Xi ?_;refine zyq 6 O ?_;refine gA 0 O (d+1) ?_;refine xAq O O O O O (.cons (view_g2 (H0:=[(0,35,ywq)]) Xm Xh Xh) (.cons (.pur rfl) .nil)) cL Xh (flat_dW _) ?_;refine zgq 2 O ?_;refine gA 0 O (d+1) ?_;refine xAq O O O O O (.cons (j8q (H0:=[(0,35,ywq)]++gH 1 149 33 (L.map pW)) Xm Xh (λp hp=>by rcases List.mem_append.1 hp with q|q;(simp only[List.mem_cons,List.not_mem_nil,or_false] at q;rw[q];show¬0=2;omega);(rw[j3q p q];omega))) (.cons (.pur rfl) .nil)) cR Xh (flat_dW _) ?_;refine zgq 10 O ?_;refine fl_lk O O O O O (.cons (.pur rfl) (.cons (.sl (full:=false) (xs:=zaq (sumD tl).1) rfl Xh (zfq Xm (by simp[zdq,(sumD tl).2]) rfl) Xi) (.cons (.sl (full:=false) (xs:=zaq (sumD tr).1) rfl Xh (zfq Xm (by simp[zdq,(sumD tr).2]) rfl) Xi) .nil))) (rtwo_s 2 (sumD tl).1 (sumD tr).1 false false (by simp[(sumD tl).2]) (by simp[(sumD tr).2])) Xk Xk Xw ?_;refine ybq 4 O ?_;exact gQa 0 O
def cntT:T->Nat
 |.nil=>0
 |.leaf _ _=>1
 |.fork l r=>cntT l+cntT r+1
def th:Nat->Nat
 |0=>0
 |_+1=>1
noncomputable def tgW(b:Nat)(ns:List Node)(r:Int):W:=.agg 2 [gW b 36 (ns.map nW),.int .i64 r]
def OfQ(ns:List Node)(r:Int)(t:T):W->HpW->Nat->Prop:=λw hp nw=>∃ms n,ms.length=cntT t/\Rep (ns++ms) n t/\w= .tup [tgW (th (cntT t)) (ns++ms) r,.int .i64 ((n:Nat):Int)]/\hp=[(2,24,tgW (th (cntT t)) (ns++ms) r)]++gH (th (cntT t)) 230 36 ((ns++ms).map nW)/\nw=3
def OfS(G:Nat->Option W)(t:T)(d:Nat):Prop:=∀(f:Bool) (ns:List Node) (r:Int),ns.length+cntT t<=1000000->yuq cfg G 185 1 [tgW 0 ns r,.fz (t.all.map pW) 33 f,.int .i64 (d:Int)] (gH 0 230 36 (ns.map nW)) (OfQ ns r t)
section
variable {ops:Array Oper} {l:List Oper} {K:FrW->HpW->Nat->Res->Prop} {m nw:Nat} {fr:FrW} {hp:HpW} {R:Res} {o:Oper} {x:Operand} {xs:Array Operand} {ats:Array TypeId} {t:T} {d:Nat} {f:Bool} {ns:List Node} {r:Int}
theorem op_of(k:Nat)(P:HpW)(hg:qoq ops fr o=some true)(ho:o.op= .call ⟨.value x,xs,ats⟩)(hx:evW cfg G fr x=some (.fn 185 [] []))(he:cfg.ext 185=none)(hxs:evLW cfg G fr xs.toList=some [tgW k ns r,.fz (t.all.map pW) 33 f,.int .i64 (d:Int)])(hhp:hp=P++gH k 230 36 (ns.map nW))(hP:∀p∈P,p.1≠k/\p.1<nw)(nd:(P.map (·.1)).Nodup)(hk:k<nw)(sp:OfS G t d)(hl:ns.length+cntT t<=1000000)
  (h:∀(ms:List Node) (n k':Nat),ms.length=cntT t->Rep (ns++ms) n t->(k'=k\/k'=nw) ->OpW cfg G m ops l (putW fr o.dst (.tup [tgW k' (ns++ms) r,.int .i64 ((n:Nat):Int)])) (P++gH k' 230 36 ((ns++ms).map nW)) (nw+2) R K):OpW cfg G m ops (o::l) fr hp nw R K:=by
 have pn:purL (ns.map nW)=true:=z7q xVq _;have pp:purL (t.all.map pW)=true:=qLq _;refine zjq hg (z3q (ext:=[k]) (ws:=[tgW 0 ns r,.fz (t.all.map pW) 33 f,.int .i64 (d:Int)]) (hp0:=gH 0 230 36 (ns.map nW)) ho hx he hxs ?_ (sp f ns r hl) Xh Xo ?_ ?_ ?_ ?_)
 ·show [tgW k ns r,.fz (t.all.map pW) 33 f,.int .i64 (d:Int)]=[renW _ (tgW 0 ns r),renW _ (.fz (t.all.map pW) 33 f),.int .i64 (d:Int)];rw[zeq (show purW (.fz (t.all.map pW) 33 f)=true from pp)];unfold tgW;simp only[renW,y3q,Kpq];rfl
 ·cases ns.map nW with
  |nil=>exact List.nodup_nil
  |cons y q=>simp[gH]
 ·intro i ty w hi;cases e:ns.map nW with
  |nil=>rw[e] at hi;simp[gH,hget] at hi
  |cons y q=>
   rw[e] at hi pn hhp;have hpa:purW (.arr ((y::q).length*36) 36 (y::q))=true:=pn;simp only[gH] at hi;rw[zkq] at hi;split at hi
   ·rename_i e0;subst e0;cases hi;refine⟨by simp,zbq hpa,k,rfl,?_⟩;rw[hhp,zeq hpa];exact jtq λp hp=>(hP p hp).1
   ·simp[hget] at hi
 ·show(refB 1 (tgW 0 ns r)&&(refB 1 (.fz (t.all.map pW) 33 f)&&(refB 1 (.int .i64 (d:Int))&&true)))=true;rw[zbq (m:=1) (show purW (.fz (t.all.map pW) 33 f)=true from pp)];unfold tgW;simp[refB,refL,ref_g]
 ·rintro w hp1 nw1 ⟨ms,n,h1,h2,rfl,rfl,rfl⟩;have pm:purL ((ns++ms).map nW)=true:=z7q xVq _
  obtain⟨k',hk',ek⟩:∃k',(k'=k\/k'=nw)/\numC [k] nw (th (cntT t))=k':=by
   cases cntT t with
   |zero=>exact⟨k,.inl rfl,rfl⟩
   |succ c=>exact⟨nw,.inr rfl,rfl⟩
  have h:=h ms n k' h1 h2 hk'
  have e1:renW (numC [k] nw) (.tup [tgW (th (cntT t)) (ns++ms) r,.int .i64 ((n:Nat):Int)])= .tup [tgW k' (ns++ms) r,.int .i64 ((n:Nat):Int)]:=by
   unfold tgW;simp only[renW,y3q,Kpq,ek]
  have e2:renH (numC [k] nw) ([(2,24,tgW (th (cntT t)) (ns++ms) r)]++gH (th (cntT t)) 230 36 ((ns++ms).map nW))=(nw+1,24,tgW k' (ns++ms) r)::gH k' 230 36 ((ns++ms).map nW):=by
   rw[List.cons_append,List.nil_append];show(numC [k] nw 2,24,renW (numC [k] nw) (tgW (th (cntT t)) (ns++ms) r))::renH (numC [k] nw) (gH (th (cntT t)) 230 36 ((ns++ms).map nW))=_;rw[Jqq _ _ _ _ pm,ek];unfold tgW;simp only[renW,y3q,Kpq,ek];rfl
  rw[e1,e2,show([k]:List Nat).length=1 from rfl,show nw+(3-1)=nw+2 from rfl];show OpW cfg G m ops l _ (((nw+1,24,tgW k' (ns++ms) r)::gH k' 230 36 ((ns++ms).map nW))++hdel hp k) (nw+2) R K;rw[hhp,hdel_g λp hp=>(hP p hp).1];have hPk:∀p∈P,p.1≠k':=λp hp=>by have:=hP p hp;rcases hk' with rfl|rfl<;>omega
  refine qqq (λ_=>K2q (hp2:=P++gH k' 230 36 ((ns++ms).map nW)) (λi y hy=>?_) (jsq hPk nd)) h
  have hi:i≠nw+1:=by
   rintro rfl;rw[q8q λp hp=>?_] at hy
   ·cases hy
   ·rcases List.mem_append.1 hp with q|q
    ·have:=(hP p q).2;omega
    ·rw[j3q p q];rcases hk' with rfl|rfl<;>omega
  rw[List.cons_append,zkq,if_neg (Ne.symm hi),kJq];rw[kJq] at hy;cases hq:hget P i with
  |none=>
   rw[hq] at hy;have hy:hget (gH k' 230 36 ((ns++ms).map nW)) i=some y:=hy;rw[hy];rfl
  |some z=>
   rw[hq] at hy;have hy:some z=some y:=hy
   have hik:i≠k':=by
    rintro rfl;rw[q8q hPk] at hq;cases hq
   rw[q8q λp hp=>by rw[j3q p hp];exact Ne.symm hik];exact hy
end
theorem of_nil(d:Nat):OfS G .nil d:=by
 intro f ns r hl R;refine gIs 11 O (λk0=>?_);refine gL 0 O ?_;refine zcq 13 O ?_;exact fin (w:=.tup [tgW 0 ns r,.int .i64 ((0:Nat):Int)]) Jp ((K2q (hp2:=[(2,24,tgW 0 ns r)]++gH 0 230 36 (ns.map nW)) (λk y h=>keep2 (d:=1) Xd h) (jsq Xh Xh)).trans (yhq (fr2:=[(6,.ptr 2 0),(7,.int .i64 0)]) ⟨rfl,rfl,trivial⟩ O O)) rfl (show _=_/\OfQ ns r .nil _ _ _ from⟨rfl,[],0,rfl,.nil,by rw[List.append_nil];rfl,by rw[List.append_nil];rfl,rfl⟩)
def lfN(k:Dig)(v:List UInt8):Node:=⟨true,k,v,0,0⟩
theorem of_leaf(d:Nat)(k:Dig)(v:List UInt8)(hv:v.length<=70368744177664):OfS G (.leaf k v) d:=by
 intro f ns r hl R;have hl:ns.length+1<=1000000:=hl;obtain⟨L,eL⟩:∃L,ns.map nW=L:=⟨_,rfl⟩
 have hL:L.length<=1000000:=by rw[<-eL,List.length_map];omega
 have pL:purL L=true:=by rw[<-eL];exact z7q xVq _
 have e2:(ns++[lfN k v]).map nW=L++[nW (lfN k v)]:=by rw[List.map_append,eL];rfl
 have pn:purL (L++[nW (lfN k v)])=true:=by rw[<-e2];exact z7q xVq _
 have en:(L++[nW (lfN k v)]).length=ns.length+1:=by rw[<-e2,List.length_map,List.length_append];rfl
 have hne:L++[nW (lfN k v)]≠[]:=by simp
 have hrep:Rep (ns++[lfN k v]) (ns.length+1) (.leaf k v):=.leaf (l:=0) (r:=0) (by rw[List.getElem?_append_right (Nat.le_refl _),Nat.sub_self];rfl);unfold tgW;rw[eL];refine YRq (fn:=Tryz.f185) O O O (Ob rfl) (λk0=>?_);skip
 cases L with
 |nil=>
  refine zBq 11 O ?_;refine gL 0 O ?_;refine gL 10 O ?_;refine gM 7 O (zMq O O O (g_get 0 36 _ _)) ?_;refine gX 1 O ?_;refine gX 3 O ?_;refine zcq 2 O ?_;refine KUq O O O O O O (x5q v false hv) Xh Xh Xw ?_;refine ybq 2 O ?_;refine gM 0 O (zKq O O (qeq [_,_,_] (k:=ti230) (news:=[nW (lfN k v)]) O O O O O (zJq O O O O) Xh (by show(_+1)*80<=_;omega) (by show _+1<=_;omega) rfl Xh)) ?_;refine gM 1 O (y7q O O O O O (g_put 0 36 _ _ _ _) rfl) ?_;refine gL 7 O ?_;refine zcq 6 O ?_;refine fin (w:=.tup [tgW 1 (ns++[lfN k v]) r,.int .i64 ((ns.length+1:Nat):Int)]) Jp (ent_mid (b:=1) (k:=4) (nw2:=3) (fr2:=[(6,.ptr 2 0),(7,.int .i64 ((ns.length+1:Nat):Int))]) (hp2:=[(2,24,tgW 1 (ns++[lfN k v]) r)]++gH 1 230 36 ((ns++[lfN k v]).map nW)) Xd Xd Xd Ym ⟨⟨rfl,rfl⟩,⟨?_,rfl⟩,trivial⟩ ?_ (jsq Xh Xh)) rfl (show _=_/\OfQ ns r (.leaf k v) _ _ _ from⟨rfl,[lfN k v],ns.length+1,rfl,hrep,rfl,rfl,rfl⟩)
  ·show some (W.int .i64 (((([]:List W)++[nW (lfN k v)]:List W).length:Nat):Int))=some (W.int .i64 ((ns.length+1:Nat):Int));rw[en]
  ·unfold tgW;rw[e2,qhq hne,qiq hne];exact⟨⟨by omega,rfl,rfl⟩,⟨by omega,by rw[zeq (show purW (.arr _ 36 _)=true from pn)];rfl,zbq (show purW (.arr _ 36 _)=true from pn)⟩,trivial⟩
 |cons y q=>
  refine zBq 11 O ?_;refine gL 0 O ?_;refine gL 10 O ?_;refine gM 7 O (zMq O O O (g_get 0 36 _ _)) ?_;refine gX 1 O ?_;refine gX 3 O ?_;refine zcq 2 O ?_;refine KUq O O O O O O (x5q v false hv) Xh Xh Xw ?_;refine ybq 2 O ?_;refine gM 0 O (zKq O O (qeq [_,_,_] (k:=ti230) (news:=[nW (lfN k v)]) O O O O O (zJq O O O O) Xh (by show(_+1)*80<=_;omega) (by show _+1<=_;omega) rfl Xh)) ?_;refine gM 1 O (y7q O O O O O (g_put 0 36 _ _ _ _) rfl) ?_;refine gL 7 O ?_;refine zcq 6 O ?_;refine fin (w:=.tup [tgW 1 (ns++[lfN k v]) r,.int .i64 ((ns.length+1:Nat):Int)]) Jp (ent_mid (b:=1) (k:=4) (nw2:=3) (fr2:=[(6,.ptr 2 0),(7,.int .i64 ((ns.length+1:Nat):Int))]) (hp2:=[(2,24,tgW 1 (ns++[lfN k v]) r)]++gH 1 230 36 ((ns++[lfN k v]).map nW)) Xd Xd Xd Ym ⟨⟨rfl,rfl⟩,⟨?_,rfl⟩,trivial⟩ ?_ (jsq Xh Xh)) rfl (show _=_/\OfQ ns r (.leaf k v) _ _ _ from⟨rfl,[lfN k v],ns.length+1,rfl,hrep,rfl,rfl,rfl⟩)
  ·show some (W.int .i64 ((((y::q)++[nW (lfN k v)]:List W).length:Nat):Int))=some (W.int .i64 ((ns.length+1:Nat):Int));rw[en]
  ·unfold tgW;rw[e2,qhq hne,qiq hne];exact⟨⟨by omega,rfl,rfl⟩,⟨by omega,by rw[zeq (show purW (.arr _ 36 _)=true from pn)];rfl,zbq (show purW (.arr _ 36 _)=true from pn)⟩,trivial⟩
noncomputable def zT:W:=.agg 2 [.nils,.int .i64 0]
noncomputable def ofP(k:Nat)(ns:List Node)(r:Int):HpW:=[(2,24,zT),(1,24,tgW k ns r)]
noncomputable def ofG(ns:List Node)(r:Int):HpW:=ofP 0 ns r++gH 0 230 36 (ns.map nW)
noncomputable def ofH2(ns:List Node)(r:Int)(A B:List Pr):HpW:=(ofG ns r++gH 3 149 33 (A.map pW))++gH 4 149 33 (B.map pW)
theorem ofH2_l(ns:List Node)(r:Int)(A:List Pr):ofH2 ns r A []=ofG ns r++gH 3 149 33 (A.map pW):=List.append_nil _
theorem jRq{ns:List Node}{r:Int}:∀p∈ofG ns r,p.1<3:=λp hp=>by
 rcases List.mem_append.1 hp with q|q
 ·simp only[ofP,List.mem_cons,List.not_mem_nil,or_false] at q;rcases q with q|q<;>rw[q]<;>first|(show 2<3;omega)|(show 1<3;omega)
 ·rw[j3q p q];omega
theorem ofG_g{ns:List Node}{r:Int}{x:W}{q:List W}(h:ns.map nW=x::q):hget (ofG ns r) 0=some (230,.arr ((x::q).length*36) 36 (x::q)):=by
 unfold ofG;rw[h];rfl
theorem ofG_nd(ns:List Node)(r:Int):((ofG ns r).map (·.1)).Nodup:=jsq (by simp[ofP]) (by simp[ofP])
theorem of_fork(tl tr:T)(d:Nat)(b:Dig)(hz:Zr d b)(ok:(T.fork tl tr).ok d b=true)(hl:(T.fork tl tr).all.length<=1000000)(cL:OfS G tl (d+1))(cR:OfS G tr (d+1)):OfS G (.fork tl tr) d:=by
 intro f ns r hc R;obtain⟨hd,okL,okR,two⟩:=ok_fork.1 ok;obtain⟨b0,b1⟩:=ZFq hz ok;have hall:(T.fork tl tr).all=tl.all++tr.all:=by simp[T.all]
 have hn2:2<=tl.all.length+tr.all.length:=Zpq okL okR two;have hc:ns.length+(cntT tl+cntT tr+1)<=1000000:=hc;rw[hall] at hl⊢;rw[List.length_append] at hl;obtain⟨L,eL⟩:∃L,tl.all=L:=⟨_,rfl⟩
 obtain⟨Q,eQ⟩:∃Q,tr.all=Q:=⟨_,rfl⟩
 rw[eL] at b0;rw[eQ] at b1;rw[eL,eQ] at hn2 hl⊢;have e:((L++Q).map pW).length=L.length+Q.length:=by rw[List.length_map,List.length_append]
 have hat:∀i,i<L.length+Q.length->∃x,(L++Q)[i]? =some x:=λi hi=>⟨_,List.getElem?_eq_getElem (by rw[List.length_append];exact hi)⟩
 have pn:purL (ns.map nW)=true:=z7q xVq _;have pf:purW (.fz ((L++Q).map pW) 33 f)=true:=qLq _;refine gIs 11 O (λk0=>?_);refine gZ 0 O e (gF 0 O (eqI_not.2 Xd) (gZ 9 O e (gF 0 O (eqI_not.2 Xd) (zcq 18 O ?_))));have z0:Q.take (0-L.length)=[]:=by rw[Nat.zero_sub];rfl
 refine qGq (α:=Nat) (λi=>i<=L.length+Q.length) (λi=>[(8,gW 3 33 ((L.take i).map pW)),(10,.int .i64 (i:Int)),(9,gW 4 33 ((Q.take (i-L.length)).map pW)),(1,.fz ((L++Q).map pW) 33 f),(2,.int .i64 (d:Int)),(3,.ptr 1 0),(6,.ptr 2 0)]) (λi=>ofH2 ns r (L.take i) (Q.take (i-L.length))) (λ_=>5) (λ_=>R) (λi=>L.length+Q.length-i) 0 (Nat.zero_le _) ((juq (fr2:=[(8,.nils),(10,.int .i64 0),(9,.nils),(1,.fz ((L++Q).map pW) 33 f),(2,.int .i64 (d:Int)),(3,.ptr 1 0),(6,.ptr 2 0)]) ⟨rfl,rfl,rfl,rfl,rfl,rfl,rfl,trivial⟩).trans ((juq (fr2:=[(8,.nils),(10,.int .i64 0),(9,.nils),(1,.fz ((L++Q).map pW) 33 f),(2,.int .i64 (d:Int)),(3,.ptr 1 0),(6,.ptr 2 0)]) ⟨rfl,rfl,rfl,rfl,rfl,rfl,rfl,trivial⟩).trans (yhq ⟨rfl,rfl,by rw[z0];rfl,rfl,rfl,rfl,rfl,trivial⟩ (by rw[z0];unfold ofH2;rw[show gH 4 149 33 (([]:List Pr).map pW)=[] from rfl,show gH 3 149 33 ((L.take 0).map pW)=[] from rfl,List.append_nil,List.append_nil];rfl) rfl))) (λi hI=>?_);skip
 have hI:i<=L.length+Q.length:=hI;refine zBq 5 O (gZ 0 O e ?_);refine gS 3 O (λh1=>?_) (λh1=>?_)
 ·have hi:i<L.length+Q.length:=by omega
  obtain⟨x,hx⟩:=hat i hi;skip
  by_cases hcl:i<L.length
  ·have hxl:L[i]? =some x:=by rw[List.getElem?_append_left hcl] at hx;exact hx
   have hbit:bitN x.1 d=0:=b0 x (List.mem_of_getElem? hxl);have zq:Q.take (i-L.length)=[]:=by rw[show i-L.length=0 by omega];rfl
   have zq':Q.take (i+1-L.length)=[]:=by rw[show i+1-L.length=0 by omega];rfl
   have hL2:(L.take (i+1)).map pW=(L.take i).map pW++[pW x]:=by rw[List.take_add_one,hxl,List.map_append];rfl
   have hlt:((L.take i).map pW).length<=1000000:=by rw[List.length_map,List.length_take];omega
   rw[zq,ofH2_l];refine gP 8 O (zDq (i:=i) O O O O O O O (zqq pW hx)) (gC 3 O (Ktq x.1 d hd) (gT 0 O (eqI_iff.2 (by rw[hbit];rfl)) (gP 7 O (zDq (i:=i) O O O O O O O (zqq pW hx)) (gM 2 O (zKq O O (qeq ((5,_)::ofG ns r) (k:=ti149) (news:=[pW x]) O O O O O (zJq O O O O) Xh (by show(((L.take i).map pW).length+1)*56<=_;omega) (by show((L.take i).map pW).length+1<=_;omega) rfl (λp hp=>by rcases List.mem_cons.1 hp with q|q;(rw[q];show¬5=3;omega);have:=jRq p q;omega))) (gA 6 O (i+1) (zcq 2 O ?_))))));skip
   refine yHq (i+1) hi Xd ?_;simp only[zq',ofH2_l,hL2];exact Ent.trans (qwq (b:=3) (H0:=ofG ns r) (l2:=(L.take i).map pW++[pW x]) (n:=((L.take i).map pW++[pW x]).length) (fr2:=[(10,.int .i64 ((i+1:Nat):Int)),(9,.nils),(1,.fz ((L++Q).map pW) 33 f),(2,.int .i64 (d:Int)),(3,.ptr 1 0),(6,.ptr 2 0)]) 6 8 Xd Xd Yk Xh O O ⟨rfl,rfl,rfl,rfl,rfl,rfl,trivial⟩ ⟨rfl,rfl,zbq pf,rfl,rfl,rfl,trivial⟩ rfl Xh (uBq ⟨⟨by omega,rfl,rfl⟩,⟨by omega,rfl,by simp[tgW,refB,refL,ref_g]⟩,trivial⟩ (subH_g Xd pn (λx q h=>ofG_g (r:=r) h))) (ofG_nd ns r)) (juq ⟨rfl,rfl,rfl,rfl,rfl,rfl,rfl,trivial⟩)
  ·have hxq:Q[i-L.length]? =some x:=by rw[List.getElem?_append_right Xd] at hx;exact hx
   have hbit:bitN x.1 d=1:=b1 x (List.mem_of_getElem? hxq);have zl:L.take i=L:=List.take_of_length_le Xd;have zl':L.take (i+1)=L:=List.take_of_length_le Xd;have hQ2:(Q.take (i+1-L.length)).map pW=(Q.take (i-L.length)).map pW++[pW x]:=by rw[show i+1-L.length=(i-L.length)+1 by omega,List.take_add_one,hxq,List.map_append];rfl
   have hlt:((Q.take (i-L.length)).map pW).length<=1000000:=by rw[List.length_map,List.length_take];omega
   have hnm:∀p∈ofG ns r++gH 3 149 33 (L.map pW),p.1<4:=λp hp=>by
    rcases List.mem_append.1 hp with hp|hp
    ·have:=jRq p hp;omega
    ·rw[j3q p hp];omega
   rw[zl];refine gP 8 O (zDq (i:=i) O O O O O O O (zqq pW hx)) (gC 3 O (Ktq x.1 d hd) (gF 0 O (eqI_not.2 (by rw[hbit];decide)) (gP 7 O (zDq (i:=i) O O O O O O O (zqq pW hx)) (gM 2 O (zKq O O (qeq ((5,_)::(ofG ns r++gH 3 149 33 (L.map pW))) (k:=ti149) (news:=[pW x]) O O O O O (zJq O O O O) Xh (by show(((Q.take (i-L.length)).map pW).length+1)*56<=_;omega) (by show((Q.take (i-L.length)).map pW).length+1<=_;omega) rfl (λp hp=>by rcases List.mem_cons.1 hp with q|q;(rw[q];show¬5=4;omega);have:=hnm p q;omega))) (gA 6 O (i+1) (zcq 2 O ?_))))));skip
   refine yHq (i+1) hi Xd ?_;simp only[zl',hQ2];exact Ent.trans (qwq (b:=4) (H0:=ofG ns r++gH 3 149 33 (L.map pW)) (l2:=(Q.take (i-L.length)).map pW++[pW x]) (n:=((Q.take (i-L.length)).map pW++[pW x]).length) (fr2:=[(8,gW 3 33 (L.map pW)),(10,.int .i64 ((i+1:Nat):Int)),(1,.fz ((L++Q).map pW) 33 f),(2,.int .i64 (d:Int)),(3,.ptr 1 0),(6,.ptr 2 0)]) 6 9 Xd Xd Yk Xh O O ⟨rfl,rfl,rfl,rfl,rfl,rfl,trivial⟩ ⟨ref_g Xd,rfl,zbq pf,rfl,rfl,rfl,trivial⟩ rfl Xh (uBq (uBq ⟨⟨by omega,rfl,rfl⟩,⟨by omega,rfl,by simp[tgW,refB,refL,ref_g]⟩,trivial⟩ (subH_g Xd pn (λx q h=>qtq (ofG_g (r:=r) h)))) (subH_g Xd Xh (λx q h=>by show hget (ofG ns r++gH 3 149 33 (L.map pW)) 3=_;rw[h];exact jtq (λp hp=>by have:=jRq p hp;omega)))) (jsq (λp hp=>by have:=jRq p hp;omega) (ofG_nd ns r))) (yhq ⟨rfl,rfl,rfl,rfl,rfl,rfl,rfl,trivial⟩ (by unfold ofH2;rw[hQ2]) rfl)
 ·have hi:i=L.length+Q.length:=by omega
  have zl:L.take i=L:=List.take_of_length_le Xd;have zq:Q.take (i-L.length)=Q:=List.take_of_length_le Xd;rw[zl,zq];have pL:purL (L.map pW)=true:=qLq _;have pQ:purL (Q.map pW)=true:=qLq _
  have nG:∀p∈ofG ns r++gH 3 149 33 (L.map pW),p.1≠4:=λp hp=>by
   rcases List.mem_append.1 hp with hp|hp
   ·have:=jRq p hp;omega
   ·rw[j3q p hp];omega
  have nP:∀(k:Nat) (ns':List Node),∀p∈ofP k ns' r,p.1=2\/p.1=1:=λk ns' p hp=>by
   simp only[ofP,List.mem_cons,List.not_mem_nil,or_false] at hp;rcases hp with q|q<;>rw[q]
   ·exact .inl rfl
   ·exact .inr rfl
  have frz:∀k0,Ent cfg G 1 k0 [(8,gW 3 33 (L.map pW)),(10,.int .i64 (i:Int)),(9,gW 4 33 (Q.map pW)),(1,.fz ((L++Q).map pW) 33 f),(2,.int .i64 (d:Int)),(3,.ptr 1 0),(6,.ptr 2 0)] (ofH2 ns r L Q) 5 R [(8,.fz (L.map pW) 33 false),(9,.fz (Q.map pW) 33 false),(2,.int .i64 (d:Int)),(3,.ptr 1 0),(6,.ptr 2 0)] (ofG ns r) 5 R:=λk0=>
   Ent.trans (ent_frg (b:=4) (X:=ofG ns r++gH 3 149 33 (L.map pW)) (fr2:=[(8,gW 3 33 (L.map pW)),(2,.int .i64 (d:Int)),(3,.ptr 1 0),(6,.ptr 2 0)]) 9 Xm pQ Xd rfl (λblk h=>⟨⟨_,rfl,J0q (h 3 Xm)⟩,⟨_,rfl,.pur rfl⟩,⟨_,rfl,.ptrK (h 1 Xm)⟩,⟨_,rfl,.ptrK (h 2 Xm)⟩,trivial⟩) (λblk h=>kZq (kZq ⟨⟨by decide,_,rfl,.pur rfl⟩,⟨by decide,_,rfl,.agg (.cons (J0q (h 0 Xm)) (.cons (.pur rfl) .nil))⟩,trivial⟩ (subVH_g Xm pn (λx q h=>qtq (qtq (ofG_g (r:=r) h))))) (subVH_g Xm pL (λx q h=>by rw[h];exact qtq (jtq (λp hp=>by have:=jRq p hp;omega))))) (jsq (λp hp=>by have:=jRq p hp;omega) (ofG_nd ns r)) nG)
    (ent_frg (b:=3) (X:=ofG ns r) (fr2:=[(9,.fz (Q.map pW) 33 false),(2,.int .i64 (d:Int)),(3,.ptr 1 0),(6,.ptr 2 0)]) 8 Xm pL Xd rfl (λblk h=>⟨⟨_,rfl,.pur pQ⟩,⟨_,rfl,.pur rfl⟩,⟨_,rfl,.ptrK (h 1 Xm)⟩,⟨_,rfl,.ptrK (h 2 Xm)⟩,trivial⟩) (λblk h=>kZq ⟨⟨by decide,_,rfl,.pur rfl⟩,⟨by decide,_,rfl,.agg (.cons (J0q (h 0 Xm)) (.cons (.pur rfl) .nil))⟩,trivial⟩ (subVH_g Xm pn (λx q h=>qtq (ofG_g (r:=r) h)))) (ofG_nd ns r) (λp hp=>by have:=jRq p hp;omega))
  refine co_ent (Ent.trans (yhq (fr2:=[(8,gW 3 33 (L.map pW)),(10,.int .i64 (i:Int)),(9,gW 4 33 (Q.map pW)),(1,.fz ((L++Q).map pW) 33 f),(2,.int .i64 (d:Int)),(3,.ptr 1 0),(6,.ptr 2 0)]) ⟨rfl,rfl,rfl,rfl,rfl,rfl,rfl,trivial⟩ O O) (frz _)) ?_;have hP:∀(k nw:Nat) (ns':List Node),k≠2->k≠1->3<=nw->∀p∈ofP k ns' r,p.1≠k/\p.1<nw:=λk nw ns' h1 h2 h3 p hp=>by rcases nP k ns' p hp with q|q<;>omega
  have ndP:∀(k:Nat) (ns':List Node),((ofP k ns' r).map (·.1)).Nodup:=λk ns'=>by simp[ofP]
  refine yAq 2 O (yKq Xi (zyq 7 O (gA 0 O (d+1) (op_of (f:=false) 0 (ofP 0 ns r) O O O O (by rw[eL];rfl) rfl (hP 0 5 ns Xd Xd Xd) (ndP _ _) Xd cL Xd ?_))));intro m1 n1 k1 hm1 hr1 hk1;have a1:(ns++m1).length=ns.length+cntT tl:=by rw[List.length_append,hm1]
  refine zgq 12 O (gA 0 O (d+1) (op_of (f:=false) k1 (ofP k1 (ns++m1) r) O O O O (by rw[eQ];rfl) rfl (hP k1 7 (ns++m1) Xd Xd Xd) (ndP _ _) Xd cR Xd ?_));intro m2 n2 k2 hm2 hr2 hk2;have a2:((ns++m1)++m2).length=ns.length+cntT tl+cntT tr:=by rw[List.length_append,a1,hm2]
  refine zgq 10 O (gM 0 O (zMq O O O (g_get k2 36 _ _)) (zcq 3 O (qqq (λ_=>ent_view [(87,nW (kRq n1 n2)),(84,gW k2 36 (((ns++m1)++m2).map nW)),(3,.ptr 1 0),(6,.ptr 2 0)] ⟨⟨_,rfl,.agg (.cons (.pur rfl) (.cons qpq (.cons .nilfz (.cons (.pur rfl) (.cons (.pur rfl) .nil)))))⟩,⟨_,rfl,J0q rfl⟩,⟨_,rfl,.ptrK rfl⟩,⟨_,rfl,.ptrK rfl⟩,trivial⟩) (Y8q O O ?_))))
  refine Y8q rfl (zKq O O (qeq ((9,_)::ofP k2 ((ns++m1)++m2) r) (k:=ti230) (news:=[nW (kRq n1 n2)]) O O O O O (zJq O O O O) Xh (by show((((ns++m1)++m2).map nW).length+1)*80<=_;rw[List.length_map];omega) (by show(((ns++m1)++m2).map nW).length+1<=_;rw[List.length_map];omega) rfl (λp hp=>by rcases List.mem_cons.1 hp with q|q;(rw[q];show¬9=k2;omega);rcases nP k2 _ p q with q|q<;>omega))) ?_;refine z1q O O (Y8q rfl (y7q O O O O O (g_put k2 36 _ _ _ _) rfl) ?_);refine zgq 7 O (gL 0 O (zcq 5 O ?_));obtain⟨M,eM⟩:∃M,(ns++m1)++m2=M:=⟨_,rfl⟩
  rw[eM] at a2⊢;have e2:(M++[kRq n1 n2]).map nW=M.map nW++[nW (kRq n1 n2)]:=by rw[List.map_append];rfl
  have pM:purL (M.map nW++[nW (kRq n1 n2)])=true:=by rw[<-e2];exact z7q xVq _
  have en:(M.map nW++[nW (kRq n1 n2)]).length=M.length+1:=by rw[<-e2,List.length_map,List.length_append];rfl
  have hne:M.map nW++[nW (kRq n1 n2)]≠[]:=by simp
  have ems:ns++(m1++m2++[kRq n1 n2])=M++[kRq n1 n2]:=by rw[<-eM];simp
  have hM1:n1<=M.length:=by have:=hr1.le;rw[a1] at this;omega
  have hM2:n2<=M.length:=by have:=hr2.le;rw[eM] at this;exact this
  have hrep:Rep (M++[kRq n1 n2]) (M.length+1) (.fork tl tr):=.fork (l:=n1) (r:=n2) (k:=y2q) (v:=[]) (by rw[List.getElem?_append_right (Nat.le_refl _),Nat.sub_self];rfl) hM1 hM2 (by rw[<-eM];exact(hr1.app m2).app _) (by have:=hr2.app [kRq n1 n2];rwa[eM] at this);refine fin (w:=.tup [tgW 1 (M++[kRq n1 n2]) r,.int .i64 ((M.length+1:Nat):Int)]) Jp (ent_mid (b:=1) (k:=10) (nw2:=3) (fr2:=[(6,.ptr 2 0),(7,.int .i64 ((M.length+1:Nat):Int))]) (hp2:=[(2,24,tgW 1 (M++[kRq n1 n2]) r)]++gH 1 230 36 ((M++[kRq n1 n2]).map nW)) Xd Xd Xd (by show 10<11;omega) ⟨⟨rfl,rfl⟩,⟨?_,rfl⟩,trivial⟩ ?_ (jsq Xh Xh)) rfl (show _=_/\OfQ ns r (.fork tl tr) _ _ _ from⟨rfl,m1++m2++[kRq n1 n2],M.length+1,by simp[hm1,hm2,cntT];omega,by rw[ems];exact hrep,by rw[ems];rfl,by rw[ems];rfl,rfl⟩)
  ·show some (W.int .i64 (((M.map nW++[nW (kRq n1 n2)]).length:Nat):Int))=some (W.int .i64 ((M.length+1:Nat):Int));rw[en]
  ·unfold tgW;rw[e2,qhq hne,qiq hne];exact⟨⟨by omega,rfl,rfl⟩,⟨by omega,by rw[zeq (show purW (.arr _ 36 _)=true from pM)];rfl,zbq (show purW (.arr _ 36 _)=true from pM)⟩,trivial⟩
theorem ofs_all:∀(t:T) (d:Nat) (b:Dig),Zr d b->t.ok d b=true->t.all.length<=1000000->(∀p∈t.all,p.2.length<=70368744177664) ->OfS G t d
 |.nil,d,b,_,_,_,_=>of_nil d
 |.leaf k v,d,b,_,_,_,hv=>of_leaf d k v (hv (k,v) (by simp[T.all]))
 |.fork l r,d,b,hz,ok,hl,hv=>by
  obtain⟨hd,okL,okR,two⟩:=ok_fork.1 ok;have hall:(T.fork l r).all=l.all++r.all:=by simp[T.all]
  have h2:=hl;rw[hall,List.length_append] at h2;exact of_fork l r d b hz ok hl (ofs_all l (d+1) b (q0q hz) okL Xd λp hp=>hv p (by rw[hall];exact List.mem_append_left _ hp)) (ofs_all r (d+1) (qzq b d) (qZq hz hd) okR Xd λp hp=>hv p (by rw[hall];exact List.mem_append_right _ hp))
theorem cnt_le:∀{t:T} {d:Nat} {b:Dig},t.ok d b=true->d<=256->cntT t<=t.all.length*(257-d)
 |.nil,d,b,_,_=>Nat.zero_le _
 |.leaf k v,d,b,_,hd=>by simp only[cntT,T.all,List.length_cons,List.length_nil];omega
 |.fork l r,d,b,h,hd=>by
  obtain⟨h0,h1,h2,h3⟩:=ok_fork.1 h;have l1:=cnt_le h1 Xd;have l2:=cnt_le h2 Xd;have l3:=Zpq h1 h2 h3;have e:(T.fork l r).all.length=l.all.length+r.all.length:=by simp[T.all]
  rw[e];show cntT l+cntT r+1<=_;have e1:257-d=(257-(d+1))+1:=by omega
  rw[e1,Nat.mul_succ,Nat.add_mul];omega
theorem Kqq(τ:Nat->Nat):∀(a b:HpW),renH τ (a++b)=renH τ a++renH τ b
 |[],b=>rfl
 |(k,ty,w)::a,b=>by
  show(τ k,ty,renW τ w)::renH τ (a++b)=_;rw[Kqq τ a b];rfl
theorem rttwin_o(t:Tree)(hb:t.nodes.length<=1000000000)(hv:∀x∈t.nodes,x.val.length<=70368744177664):yuq cfg G 106 0 [tW t] [] λw hp nw=>w=tgW 3 t.nodes t.root/\hp=[(2,24,tgW 3 t.nodes t.root),(1,24,tgW 3 t.nodes t.root),(0,24,tW t)]++gH 3 230 36 (t.nodes.map nW)/\nw=4:=by
 intro R;refine gIs 18 O (λk0=>?_);refine qqq (λ_=>juq (fr2:=[(1,.ptr 0 0),(2,.ptr 1 0),(3,.ptr 2 0)]) ⟨rfl,rfl,rfl,trivial⟩) (z1q O O ?_)
 refine zgq 3 O ?_;refine yUq (α:=Nat) (λi=>i<=t.nodes.length) (λi=>[(4,.int .i64 (i:Int))]) [(1,_),(2,_),(3,_)] (λi=>[(2,24,.agg 2 [gW 3 36 ((t.nodes.take i).map nW),.int .i64 t.root]),(1,24,.agg 2 [.nils,.int .i64 0]),(0,24,tW t)]++gH 3 230 36 ((t.nodes.take i).map nW)) (λi=>t.nodes.length-i) (0) ⟨rfl,rfl,rfl,trivial⟩ (Nat.zero_le _) ⟨rfl,trivial⟩ (rfl) (λi hI=>?_);refine zBq 6 O (gZ 0 O LMq ?_);refine gS 3 O (λh1=>?_) (λh1=>?_)
 ·have hi:i<t.nodes.length:=by omega
  obtain⟨x,hx⟩:∃x,t.nodes[i]? =some x:=⟨_,List.getElem?_eq_getElem hi⟩
  have hxv:=hv x (List.mem_of_getElem? hx);have el:((t.nodes.take i).map nW).length=i:=by simp;omega
  have es:(t.nodes.take (i+1)).map nW=(t.nodes.take i).map nW++[nW x]:=by rw[List.take_add_one,hx,List.map_append];rfl
  have ep:purL ((t.nodes.take i).map nW++[nW x])=true:=by rw[<-es];exact z7q xVq _
  refine gP 9 O (zDq (i:=i) O O O O O O O (zqq nW hx)) (gC 9 O (x5q x.val false hxv) (gM 6 O (zMq O O O (g_get 3 36 _ _)) (gM 2 O (zKq O O (qeq [_,_,_,_,_] (k:=ti230) (news:=[nW x]) O O O O O (zJq O O O O) Xh (by show(((t.nodes.take i).map nW).length+1)*80<=_;omega) (by show((t.nodes.take i).map nW).length+1<=_;omega) rfl Xh)) (gM 1 O (y7q O O O O O (g_put 3 36 _ _ _ _) rfl) (gA 5 O (i+1) (zcq 2 O ?_))))));skip
  refine yHq (i+1) hi Xd ?_;simp only;have hne:(t.nodes.take i).map nW++[nW x]≠[]:=List.append_ne_nil_of_right_ne_nil _ Xh;rw[es,qhq hne,qiq hne];refine ydq (b:=3) (k:=6) Xd Xd Xd ⟨⟨rfl,rfl⟩,⟨rfl,rfl⟩,⟨rfl,rfl⟩,⟨rfl,rfl⟩,trivial⟩ ⟨⟨by omega,rfl,rfl⟩,⟨by omega,rfl,rfl⟩,⟨by omega,?_,zbq Xh⟩,⟨by omega,?_,zbq ep⟩,trivial⟩ Xh
  ·rw[zeq Xh];rfl
  ·rw[zeq (by exact ep)];rfl
 ·have hi:i=t.nodes.length:=by omega
  subst hi;rw[List.take_length];exact zcq 2 O (yKq Xi (zyq 9 O (fin Jp Ent.refl rfl ⟨rfl,rfl,rfl,rfl⟩)))
noncomputable def tgC(a b:Nat)(c:Ch):W:=.agg 3 [tgW a c.tree.nodes c.tree.root,gW b 102 (c.links.map lkG)]
theorem cg_get(x y:W)(b:Nat)(l:List W):z2q 50 (.agg 3 [.agg 2 [x,y],gW b 102 l]) 2 1 false=some (gW b 102 l):=by cases l<;>rfl
theorem cg_put(x y:W)(b:Nat)(l:List W)(b' n:Nat):qlq 50 (.agg 3 [.agg 2 [x,y],gW b 102 l]) 2 (.sl b' 0 0 n 102 none)=some (.agg 3 [.agg 2 [x,y],.sl b' 0 0 n 102 none]):=by cases l<;>rfl
theorem rchtwin_o(c:Ch)(hs:SmallC c):yuq cfg G 36 0 [chG c] [] λw hp nw=>w=tgC 5 7 c/\hp=([(6,27,tgC 5 7 c),(1,27,tgC 5 7 c),(0,27,chG c)]++gH 5 230 36 (c.tree.nodes.map nW))++gH 7 118 102 (c.links.map lkG)/\nw=8:=by
 obtain⟨q1,q2,q3,q4⟩:=hs;have e:(c.links.map lkG).length=c.links.length:=List.length_map _;have hN:purL (c.tree.nodes.map nW)=true:=z7q xVq _;have ht:=rttwin_o (G:=G) c.tree Xd q2;obtain⟨N,hNe⟩:∃N,c.tree.nodes.map nW=N:=⟨_,rfl⟩
 have nm:∀p∈gH 5 230 36 N,p.1=5:=j3q
 have e1:renW (numC [] 2) (tgW 3 c.tree.nodes c.tree.root)= .agg 2 [gW 5 36 N,.int .i64 c.tree.root]:=by
  show W.agg 2 [renW _ (gW 3 36 (c.tree.nodes.map nW)),_]=_;rw[Kpq,hNe];rfl
 have e2:renH (numC [] 2) ([(2,24,tgW 3 c.tree.nodes c.tree.root),(1,24,tgW 3 c.tree.nodes c.tree.root),(0,24,tW c.tree)]++gH 3 230 36 (c.tree.nodes.map nW))=[(4,24,renW (numC [] 2) (tgW 3 c.tree.nodes c.tree.root)),(3,24,renW (numC [] 2) (tgW 3 c.tree.nodes c.tree.root)),(2,24,renW (numC [] 2) (tW c.tree))]++gH 5 230 36 N:=by
  rw[Kqq,Jqq _ _ _ _ hN,hNe];rfl
 unfold tgC tgW;rw[hNe] at hN⊢;intro R;refine gIs 10 O (λk0=>?_);refine zjq rfl (yoq O O O O O (by simp[purL]) ht ?_);rintro w hp1 nw1 ⟨rfl,rfl,rfl⟩;rw[e1,e2];refine qqq (λ_=>ent_mv (Y:=[(1,27,.agg 3 [.agg 2 [.nils,.int .i64 0],.nils]),(0,27,chG c)]) (by rw[<-List.append_assoc];exact jsq (λp hp=>by simp only[List.mem_cons,List.mem_append,List.not_mem_nil,or_false] at hp;rcases hp with (rfl|rfl|rfl)|rfl|rfl<;>simp) Xh)) ?_
 refine zgq 8 O (qqq (λ_=>juq (fr2:=[(1,.ptr 0 0),(2,.ptr 1 0),(3,.ptr 6 0)]) ⟨rfl,rfl,rfl,trivial⟩) (z1q O O ?_))
 refine zgq 3 O ?_;refine yUq (α:=Nat) (λi=>i<=c.links.length) (λi=>[(4,.int .i64 (i:Int))]) [(1,_),(2,_),(3,_)] (λi=>([(6,27,.agg 3 [.agg 2 [gW 5 36 N,.int .i64 c.tree.root],gW 7 102 ((c.links.take i).map lkG)]),(1,27,.agg 3 [.agg 2 [.nils,.int .i64 0],.nils]),(0,27,chG c)]++gH 5 230 36 N)++gH 7 118 102 ((c.links.take i).map lkG)) (λi=>c.links.length-i) (0) ⟨rfl,rfl,rfl,trivial⟩ (Nat.zero_le _) ⟨rfl,trivial⟩ ((List.append_nil _).symm) (λi hI=>?_);refine zBq 6 O (gZ 0 O e ?_);refine gS 3 O (λh1=>?_) (λh1=>?_)
 ·have hi:i<c.links.length:=by omega
  obtain⟨x,hx⟩:∃x,c.links[i]? =some x:=⟨_,List.getElem?_eq_getElem hi⟩
  obtain⟨b1,b2,b3⟩:=q4 x (List.mem_of_getElem? hx);have e3:(x.rs.map rcW).length=x.rs.length:=List.length_map _;have el:((c.links.take i).map lkG).length=i:=by simp;omega
  have es:(c.links.take (i+1)).map lkG=(c.links.take i).map lkG++[lkG x]:=by rw[List.take_add_one,hx,List.map_append];rfl
  have ep:purL ((c.links.take i).map lkG++[lkG x])=true:=by rw[<-es];exact q1q _
  refine gP 9 O (zDq (i:=i) O O O O O O O (zqq lkG hx)) (gC 9 O (x6q x.ds x.xs false false b1 b2) (zcq 14 O ?_))
  (refine zjq rfl (uCq (k:=J4q) (e:=34) (news:=x.rs.map rcW) O O O O O O O O O Xh Jb Xd ?_))
  refine zgq 6 O (gM 0 O (zMq O O O (cg_get _ _ 7 _)) ?_);refine gM 2 O (zKq O O (qeq (_::_::([_,_,_]++gH 5 230 36 N)) (k:=ti118) (news:=[lkG x]) O O O O O (zJq O O O O) Xh (by show(((c.links.take i).map lkG).length+1)*192<=_;omega) (by show((c.links.take i).map lkG).length+1<=_;omega) rfl (λp hp=>by simp only[List.mem_cons,List.mem_append,List.not_mem_nil,or_false] at hp;rcases hp with rfl|rfl|(rfl|rfl|rfl)|hp<;>first|(rw[nm p hp];decide)|(simp;done)))) ?_;refine gM 1 O (y7q O O O O O (cg_put _ _ 7 _ _ _) rfl) (gA 5 O (i+1) (zcq 2 O ?_));skip
  refine yHq (i+1) hi Xd ?_;simp only;have hne:(c.links.take i).map lkG++[lkG x]≠[]:=List.append_ne_nil_of_right_ne_nil _ Xh;rw[es,qhq hne,qiq hne]
  refine ydq (b:=7) (k:=11) Xd Xd Xd ⟨⟨rfl,rfl⟩,⟨rfl,rfl⟩,⟨rfl,rfl⟩,⟨rfl,rfl⟩,trivial⟩ (x0q (x0q ⟨⟨by omega,?_,?_⟩,⟨by omega,rfl,rfl⟩,⟨by omega,?_,zbq Xh⟩,trivial⟩ (subRH_g Xd hN λy r h=>by rw[h];rfl)) ⟨⟨by omega,?_,zbq ep⟩,trivial⟩) (by
   rw[List.map_append];refine List.nodup_append.2 ⟨jsq Xh Xh,by simp,λa ha b hb q=>?_⟩;obtain⟨p,hp,rfl⟩:=List.mem_map.1 ha;simp only[List.map_cons,List.map_nil,List.mem_cons,List.not_mem_nil,or_false] at hb;subst hb;simp only[List.mem_cons,List.mem_append,List.not_mem_nil,or_false] at hp;rcases hp with (rfl|rfl|rfl)|hp<;>first|(simp at q;done)|(rw[nm p hp] at q;simp at q))
  ·show some (_,W.agg 3 [W.agg 2 [gW 5 36 N,_],_])=some (_,W.agg 3 [W.agg 2 [renW _ (gW 5 36 N),_],renW _ (.sl 7 0 0 _ 102 none)]);rw[Kpq];rfl
  ·show((refB _ (gW 5 36 N)&&_)&&_)=true;rw[ref_g Xd];rfl
  ·rw[zeq Xh];rfl
  ·rw[zeq (by exact ep)];rfl
 ·have hi:i=c.links.length:=by omega
  subst hi;rw[List.take_length];exact zcq 2 O (yKq Xi (zyq 9 O (fin Jp Ent.refl rfl ⟨rfl,rfl,rfl,rfl⟩)))
theorem clink_s(x:Lk)(h:x.ds.length<=1000000/\x.xs.length<=1000000/\x.rs.length<=1000000):PS cfg G 109 [lkG x] (lkG x):=by
 obtain⟨h1,h2,h3⟩:=h;exact gI 11 O (λR k0=>gC 0 O (cld_s x.ds false Xd) (gC 3 O (clx_s x.xs false Xd) (gC 9 O (clr_s x.rs false Xd) (gQa 11 O))))
theorem ctrn_s(l:List Lk)(f:Bool)(hl:l.length<=1000000)(hs:∀x∈l,x.ds.length<=1000000/\x.xs.length<=1000000/\x.rs.length<=1000000):PL cfg G 180 [.fz (l.map lkG) 102 f,.fn 109 [] []] 118 102 (l.map lkG):=by
 intro R;refine gIs 14 O (λk0=>?_);refine gZ 0 O LMq (zcq 4 O ?_);refine kMq (α:=Nat) (λi=>i<=l.length) 5 (λi=>(l.take i).map lkG) 118 102 (λi=>[(10,.int .i64 (i:Int))]) [(1,_),(4,_),(8,_),(9,_)] _ (λi=>l.length-i) (0) ⟨rfl,rfl,rfl,rfl,trivial⟩ (Nat.zero_le _) ⟨rfl,trivial⟩ O O O (λi hI=>?_);refine zBq 6 O ?_;refine gS 0 O (λh1=>?_) (λh1=>?_)
 ·have hi:i<l.length:=by omega
  obtain⟨x,hx⟩:∃x,l[i]? =some x:=⟨_,List.getElem?_eq_getElem hi⟩
  have es:(l.take (i+1)).map lkG=(l.take i).map lkG++[lkG x]:=by rw[List.take_add_one,hx,List.map_append];rfl
  have el:((l.take i).map lkG).length=i:=by simp;omega
  have ep:purL ((l.take i).map lkG++[lkG x])=true:=by rw[<-es];exact q1q _
  have ep2:purL ((l.take i).map lkG)=true:=q1q _;exact gP 6 O (zDq (i:=i) O O O O O O O (zqq lkG hx)) (gC 9 O (clink_s x (hs x (List.mem_of_getElem? hx))) (gM 1 O (zKq O O (qeq [_,_] (k:=ti118) (news:=[lkG x]) O O O O O (zJq O O O O) Xh (by show(((l.take i).map lkG).length+1)*192<=_;omega) (by show((l.take i).map lkG).length+1<=_;omega) rfl Xh)) (gWr 5 O (zcq 2 O (qXq 3 (i+1) (hi) Xd (Nat.zero_le _) (es) Xu Xd Yg rfl Xx ⟨rfl,trivial⟩ ⟨rfl,rfl,rfl,rfl,trivial⟩ Xg Xg rfl Xk Xj Xz)))))
 ·have hi:i=l.length:=by omega
  subst hi;rw[List.take_length];exact zcq 2 O (yKq Xi (zyq 9 O (fin Jp (yhq (fr2:=[(4,gW 0 102 (l.map lkG))]) ⟨rfl,trivial⟩ O O) rfl ⟨rfl,rfl,rfl,rfl⟩)))
theorem SmallC.vl{c:Ch}(h:SmallC c):c.tree.nodes.length<=1000000000:=by have:=h.nodes;omega
noncomputable def ownC(b:Nat)(c:Ch):W:=.agg 3 [tW c.tree,.sl b 0 0 c.links.length 102 none]
noncomputable def ownH(b0 b1 b:Nat)(c:Ch):HpW:=[(b,118,.arr (c.links.length*102) 102 (c.links.map lkG)),(b1,27,ownC b c),(b0,27,chG c)]
theorem ctwin_o(c:Ch)(hs:SmallC c)(hne:c.links≠[]):yuq cfg G 108 0 [chG c] [] λw hp nw=>w=ownC 2 c/\hp=ownH 0 1 2 c/\nw=3:=by
 have hne2:c.links.map lkG≠[]:=by simpa using hne
 have e:(c.links.map lkG).length=c.links.length:=List.length_map _;intro R;refine gIs 10 O (λk0=>?_);refine gC 0 O (uXq c.tree hs.vl hs.vals) (zcq 2 O ?_)
 (refine z9q rfl (kpq O O O O O (by simp[purL,purW]) (ctrn_s c.links false hs.len hs.link) (q1q _) ?_);refine⟨by first|rfl|kernel_rfl,?_⟩;rw[qhq hne2,qiq hne2,e])
 exact ybq 5 O (fin Jp Ent.refl rfl ⟨rfl,rfl,rfl,rfl⟩)
theorem ren_own(τ:Nat->Nat)(b:Nat)(c:Ch):renW τ (ownC b c)=ownC (τ b) c:=by
 show W.agg 3 [renW τ (tW c.tree),_]=_;rw[zeq (qkq _)];rfl
theorem renH_own(τ:Nat->Nat)(a b d:Nat)(c:Ch):renH τ (ownH a b d c)=ownH (τ a) (τ b) (τ d) c:=by
 unfold ownH;have h:purW (.arr (c.links.length*102) 102 (c.links.map lkG))=true:=q1q _;simp only[renH,ren_own,zeq h,zeq (urq c)]
theorem step_twin{o:Oper}{fr:FrW}{hp:HpW}{nw:Nat}{R:Res}{post:W->HpW->Nat->Res->Option EvW->Prop}{x:Operand}{xs:Array Operand}{ats:Array TypeId}{a us d:List W}(c:Ch)(hs:SmallC c)(hne:c.links≠[])(ho:o.op= .call ⟨.value x,xs,ats⟩)(hx:evW cfg G fr x=some (.fn 108 a d))(hxs:evLW cfg G fr xs.toList=some us)(hws:a++us++d=[chG c])(h:post (ownC (nw+2) c) (ownH (nw+0) (nw+1) (nw+2) c++hp) (nw+3) R (some .gen)):Step cfg G o fr hp nw R post:=by
 refine yoq ho hx rfl hxs hws (by simp[purL]) (ctwin_o c hs hne) ?_;rintro w hp1 nw1 ⟨rfl,rfl,rfl⟩;rw[ren_own,renH_own];exact h
theorem ctwin_s(c:Ch)(hs:SmallC c)(hne:c.links≠[]):PS cfg G 108 [chG c] (chG c):=λR=>
 x2q (jFq (ctwin_o c hs hne) (Q:=λw hp _=>View (blkA hp) w (chG c)) (λw hp nw h=>by
  obtain⟨rfl,rfl,rfl⟩:=h;exact .agg (.cons (.pur (qkq _)) (.cons (.sl (full:=false) rfl (q1q _) (zfq Xm (by rw[List.length_map]) rfl) Xi) .nil))) R)
theorem hdZ_b:W.agg 98 [.int .i64 0,.arr 32 1 (List.replicate 32 (.int .u8 (.ofNat 0))),.arr 32 1 (List.replicate 32 (.int .u8 (.ofNat 0))),.arr 32 1 (List.replicate 32 (.int .u8 (.ofNat 0))),.int .i64 0]=hdW hdZ:=by
 rw[kVq];rfl
theorem chead_no(c:Ch)(hc:OkC c)(h:¬MayC c):PS cfg glK 107 [chG c] (.tup [hdW hdZ,.int .i64 8]):=by
 exact gI 11 O (λR k0=>gC 0 O (zzq (w':=.int .i64 8) (uNq c hc) (by rw[if_neg h])) (gTa 6 O (gV (w':=hdW hdZ) 5 O hdZ_b (gQa 7 O))))
theorem K8q(c:Ch)(hc:OkC c)(h:MayC c){y:Lk}(hy:c.links[c.links.length-1]? =some y):PS cfg glK 107 [chG c] (.tup [hdW y.hdr,.int .i64 0]):=by
 have h1:=h.one;have hl:=hc.len;exact gI 11 O (λR k0=>gC 0 O (zzq (w':=.int .i64 0) (uNq c hc) (by rw[if_pos h])) (gFa 6 O (gZ 11 O LMq (gA 0 O (c.links.length-1) (gP 0 O (zDq (i:=c.links.length-1) O O O O O O O (zqq lkG hy)) (gQa 7 O))))))
noncomputable def noCh:W:=.agg 3 [.agg 2 [.nils,.int .i64 0],.nils]
theorem take_at{α:Type}{l:List α}{i:Nat}{x:α}(h:l[i]? =some x):(l.take (i+1))[i]? =some x:=by
 rw[List.getElem?_take,if_pos (Nat.lt_succ_self _)];exact h
theorem ccut_s(c:Ch)(hc:OkC c)(hs:SmallC c)(i:Nat)(hm:MayC c){x:Lk}(hx:c.links[i]? =some x):PS cfg glK 48 [chG c,.int .i64 (i:Int)] (.tup [chG (cutC c i x),.int .i64 0]):=by
 have hi:=jAq hx;have h1:=hs.len;have e2:((c.links.map lkG).take (i+1))=(c.links.take (i+1)).map lkG:=(List.map_take ..).symm;exact gIv 12 O (λR k0=>gC 0 O (zzq (w':=.int .i64 0) (uNq c hc) Qt) (gFa 0 O (gF 7 O (ltI_not.2 Xd) (gZ 4 O LMq (gF 0 O (congrArg not (ltI_iff.2 Xd)) (gC 11 O (ctwin_s c hs (λq=>by rw[q] at hi;cases hi)) (gA 9 O (i+1) (gA 1 O (i+1) (gP 0 O (cut_fz3 (ys:=(c.links.take (i+1)).map lkG) (h:=i+1) (m:=i+1) (g:=true) O O O O O O O O Xd (Nat.le_refl _) (by rw[LMq];omega) Xd (by rw[List.drop_zero,Nat.sub_zero];exact e2) (Nat.beq_refl _)) (gP 9 O (zDq (i:=i) O O O O O O O (zqq lkG (take_at hx))) (zcq 15 O (quq Jp rfl (.tup (.cons (.agg (.cons (.pur (qkq (verT c x.root))) (.cons (.fzw (q1q _)) .nil))) (.cons (.pur rfl) .nil)))))))))))))))
end
section
attribute [local irreducible] CoW OpW FlW Step Spec
attribute [local simp] qCq
open Classical in
noncomputable def heldL(t:Tree):List Pr:=if h:∃n t0,IsA t n t0 then h.choose_spec.choose.all else []
theorem Yxq{t:Tree}{n:Nat}{t0:T}(h:IsA t n t0):heldL t=t0.all:=by
 have e:∃n t0,IsA t n t0:=⟨n,t0,h⟩
 unfold heldL;rw[dif_pos e,(h.uniq e.choose_spec.choose_spec).2]
structure CanAdd(c:Ch)(ds:List Depo)(xs:List Tx)(box:Dig):Prop where
 may:MayC c
 short:c.links.length<256
 many:ds.length<=16/\xs.length<=16
 goes:doX box (doD (heldL c.tree) ds).1 xs≠none
noncomputable instance(c:Ch)(ds:List Depo)(xs:List Tx)(box:Dig):Decidable (CanAdd c ds xs box):=Classical.propDecidable _
noncomputable def addE(c:Ch)(ds:List Depo)(xs:List Tx)(box:Dig):Nat:=
 if¬MayC c then 8 else if 256<=c.links.length then 9 else if 16<ds.length\/16<xs.length then 4 else badX box (doD (heldL c.tree) ds).1 xs
theorem addE_no{c:Ch}{ds:List Depo}{xs:List Tx}{box:Dig}(h:¬CanAdd c ds xs box):addE c ds xs box≠0:=by
 unfold addE;split
 ·decide
 ·split
  ·decide
  ·split
   ·decide
   ·rename_i h1 h2 h3;have:doX box (doD (heldL c.tree) ds).1 xs=none:=Classical.byContradiction λq=>h ⟨Classical.not_not.1 h1,by omega,by omega,q⟩
    have:=JRq this;omega
def AddA(c:Ch)(ds:List Depo)(xs:List Tx)(box:Dig):W->Prop:=λw=>
 (CanAdd c ds xs box/\∃y t' t1 L,Adds c ds xs box y t' t1 L/\t'.nodes.length<=c.tree.nodes.length+21000/\w= .tup [chG (addC c t' (jyq y.hdr t1 L) ds xs L),.int .i64 0])\/(¬CanAdd c ds xs box/\w= .tup [noCh,.int .i64 (addE c ds xs box:Nat)])
noncomputable def addX(t':Tree)(h:Hdr)(ds:List Depo)(xs:List Tx)(L:List Rec):W:=.agg 102 [hdW h,.int .i64 t'.root,bodW ds xs false false,.fz (L.map recW) 34 false]
theorem addX_l(t':Tree)(h:Hdr)(ds:List Depo)(xs:List Tx)(L:List Rec):addX t' h ds xs L=lkG (addL t' h ds xs L):=by
 show addX t' h ds xs L= .agg 102 [hdW h,.int .i64 t'.root,bodW ds xs false false,.fz ((L.map recI).map rcW) 34 false];rw[recI_w];rfl
theorem cadd_s(c:Ch)(hc:OkC c)(hs:SmallC c)(hn:c.tree.nodes.length<=200000)(ds:List Depo)(xs:List Tx)(hB:BodOk ds xs)(box:Dig):PE cfg glK 38 [chG c,bodW ds xs false false,dW box] (AddA c ds xs box):=by
 have e:(c.links.map lkG).length=c.links.length:=List.length_map _;have refuse:∀k:Nat,¬CanAdd c ds xs box->addE c ds xs box=k->∀w,w=W.tup [noCh,.int .i64 (k:Int)] ->AddA c ds xs box w:=λk h1 h2 w h3=>.inr ⟨h1,by rw[h2];exact h3⟩
 by_cases hm:MayC c
 ·obtain⟨y,hy,hroot,hmy⟩:=hm.last;have hno:=hm.one;by_cases hf:c.links.length<256
  ·obtain⟨n,t0,hA,_⟩:=hm.head hy;have hh:=Yxq hA;have hhy:=hmy.height;have hbk:MayBk c.tree y.hdr:=⟨⟨n,t0,hA⟩,hmy.hdr,by omega⟩;by_cases hmany:ds.length<=16/\xs.length<=16
   ·have hP:=apply_s c.tree n t0 hA y.hdr hmy.hdr Xd ds xs false false hB.dep hB.tx box hmany Xd;cases hst:doX box (doD t0.all ds).1 xs with
    |none=>
     have hb:=JRq hst;have hP:=pe_mono hP λw h=>ap_none h hst
     refine gIe 12 O (λR k0=>gC 0 O (K8q c hc hm hy) (gFa 13 O (gZ 8 O e (gF 0 O (eqI_not.2 Xd) (gE 14 O (hP) ?_)))));rintro w hw rfl;exact gT 17 O (congrArg not (eqI_not.2 Xd)) (zcq 13 O (yeq (w':=.tup [noCh,.int .i64 (badX box (doD t0.all ds).1 xs:Nat)]) Jp rfl (.pur rfl) rfl (refuse _ (λq=>q.goes (by rw[hh,hst])) (by unfold addE;rw[if_neg (λq=>q hm),if_neg Xd,if_neg Xd,hh]) _ rfl)))
    |some r=>
     obtain⟨l,rs⟩:=r;obtain⟨L,hL⟩:∃L,(doD t0.all ds).2++rs=L:=⟨_,rfl⟩
     have hrl:=upq hst;have hdl:=xJq ds t0.all;simp only at hrl;have hLl:L.length<=32:=by rw[<-hL,List.length_append];omega
     have hca:CanAdd c ds xs box:=⟨hm,hf,hmany,by rw[hh,hst];intro q;cases q⟩;refine gIe 12 O (λR k0=>gC 0 O (K8q c hc hm hy) (gFa 13 O (gZ 8 O e (gF 0 O (eqI_not.2 Xd) (zcq 14 O ?_)))));skip
     refine gSo 0 O (u0q O O O O O hP Xh ?_);rintro w hw hq;obtain⟨t',n',t1,hT,hgo,rfl⟩:=ap_some hq hst;rw[hL];have hadd:Adds c ds xs box y t' t1 L:=⟨hm,hf,hy,hmany,⟨n,t0,n',rs,hA,hT,by rw[hst,hgo.1],hL.symm⟩,by obtain⟨ms,e1,_⟩:=hgo.2;exact⟨ms,e1⟩⟩;have hgrow:t'.nodes.length<=c.tree.nodes.length+21000:=by obtain⟨ms,e1,e2⟩:=hgo.2;rw[e1,List.length_append];omega
     have hz:=addX_l t' (jyq y.hdr t1 L) ds xs L;have ep:purL (c.links.map lkG++[addX t' (jyq y.hdr t1 L) ds xs L])=true:=by rw[hz];exact q1q (c.links++[addL t' (jyq y.hdr t1 L) ds xs L])▸by rw[List.map_append];rfl
     skip
     refine gFa 17 O (zcq 8 O ?_)
     (refine zjq rfl (step_twin c hs (λq=>by rw[q] at hno;cases hno) O O O O ?_))
     refine zgq 12 O (yqq O O O O O (by rw[<-hz];rfl) (clink_s (addL t' (jyq y.hdr t1 L) ds xs L) ⟨by show ds.length<=_;omega,by show xs.length<=_;omega,by show(L.map recI).length<=_;rw[List.length_map];omega⟩) ?_);rw[<-hz]
     refine zgq 11 O (gM 0 O (zKq O O (yQq (k:=ti118) (len:=c.links.length) (news:=[addX t' (jyq y.hdr t1 L) ds xs L]) (olds:=c.links.map lkG) O O O O (zJq O O O O) Xh (by show(c.links.length+1)*192<=_;omega) (by show c.links.length+1<=_;omega) rfl (by show c.links.length*102<0+(c.links.length+1)*102;omega) rfl (zfq Xm e.symm rfl))) (zcq 14 O ?_));have hmap:(c.links++[addL t' (jyq y.hdr t1 L) ds xs L]).map lkG=c.links.map lkG++[addX t' (jyq y.hdr t1 L) ds xs L]:=by rw[List.map_append,hz];rfl
     exact yeq (w':=.tup [.agg 3 [tW t',.fz (c.links.map lkG++[addX t' (jyq y.hdr t1 L) ds xs L]) 102 false],.int .i64 0]) Jp rfl (.tup (.cons (.agg (.cons (.pur (qkq t')) (.cons (.sl (full:=false) rfl ep (zfq Xm Xh rfl) Xi) .nil))) (.cons (.pur rfl) .nil))) (by show((purW (tW t')&&(purL _&&true))&&_)=true;rw[qkq,ep];rfl) (.inl ⟨hca,y,t',t1,L,hadd,hgrow,by rw[<-hmap];rfl⟩)
   ·have hpr:purW (refW 4)=true:=by
     show(purW noT&&(purW (hdW hdZ)&&(true&&(true&&true))))=true;rw[KMq];rfl
    exact gIe 12 O (λR k0=>gC 0 O (K8q c hc hm hy) (gFa 13 O (gZ 8 O e (gF 0 O (eqI_not.2 Xd) (gC 14 O (apply_many c.tree y.hdr ds xs false false box Xd hbk Xd) (gTa 17 O (zcq 13 O (yeq (w':=.tup [noCh,.int .i64 (4:Nat)]) Jp rfl (.pur rfl) rfl (refuse 4 (λq=>hmany q.many) (by unfold addE;rw[if_neg (λq=>q hm),if_neg Xd,if_pos Xd]) _ rfl)))))))))
  ·have h256:=hm.len;exact gIe 12 O (λR k0=>gC 0 O (K8q c hc hm hy) (gFa 13 O (gZ 8 O e (gT 0 O (eqI_iff.2 Xd) (zcq 14 O (yeq (w':=.tup [noCh,.int .i64 (9:Nat)]) Jp rfl (.pur rfl) rfl (refuse 9 (λq=>hf q.short) (by unfold addE;rw[if_neg (λq=>q hm),if_pos Xd]) _ rfl)))))))
 ·skip
  exact gIe 12 O (λR k0=>gC 0 O (chead_no c hc hm) (gTa 13 O (zcq 15 O (yeq (w':=.tup [noCh,.int .i64 (8:Nat)]) Jp rfl (.pur rfl) rfl (refuse 8 (λq=>hm q.may) (by unfold addE;rw[if_pos hm]) _ rfl)))))
end
section
attribute [local irreducible] CoW OpW FlW Step Spec
variable {G:Nat->Option W}
def HeldB(ps:List Pr):Prop:=∀p∈ps,(qDq p.2).2=0
noncomputable instance(ps:List Pr):Decidable (HeldB ps):=Classical.propDecidable _
theorem rheld_s(ps:List Pr)(f:Bool)(hb:ps.length<=1000000000):PS cfg G 189 [.fz (ps.map pW) 33 f] (.bool (decide (HeldB ps))):=by
 have e:(ps.map pW).length=ps.length:=List.length_map _;refine gI 12 O (λR k0=>?_);refine gLo (α:=Nat) 0 (λi=>i<=ps.length/\∀j x,j<i->ps[j]? =some x->(qDq x.2).2=0) (λi=>[(3,.int .i64 (i:Int))]) [0,2] (λi=>ps.length-i) (0) rfl (⟨Nat.zero_le _,λj x h=>by omega⟩) (λi hI=>?_);obtain⟨g1,g2⟩:=hI;refine gV (w':=.int .i64 (ps.length:Int)) 5 O Xv ?_;refine gS 3 O (λh1=>?_) (λh1=>?_)
 ·have hi:i<ps.length:=by omega
  obtain⟨x,hx⟩:∃x,ps[i]? =some x:=⟨_,List.getElem?_eq_getElem hi⟩
  refine gP 8 O (zDq (i:=i) O O O O O O O (zqq pW hx)) (gC 2 O (raread_s _ _) ?_);refine gS 14 O (λh2=>?_) (λh2=>?_)
  ·refine gO 8 O (zcq 2 O ?_);have hno:¬HeldB ps:=λh=>by have:=h x (List.mem_of_getElem? hx);omega
   exact gQ 0 O Yj
  ·have h0:(qDq x.2).2=0:=by omega
   exact gA 5 O (i+1) (gAg 2 O (i+1) (⟨hi,λj y hj hy=>by rcases Nat.lt_succ_iff_lt_or_eq.1 hj with q|rfl;exact g2 j y q hy;have:=Option.some.inj (hx.symm.trans hy);subst this;exact h0⟩) Xd)
 ·refine gO 2 O (zcq 8 O ?_)
  have yes:HeldB ps:=λp hp=>by
   obtain⟨j,hj⟩:=List.getElem?_of_mem hp;have:=(List.getElem?_eq_some_iff.1 hj).1;exact g2 j p Xd hj
  exact gQ 0 O (by rw[decide_eq_true yes])
theorem mayA_iff{t:Tree}{n:Nat}{t0:T}(h:IsT t n t0):MayA t↔HeldB t0.all:=by
 constructor
 ·rintro⟨n',t',h'⟩;have hn:n=n':=by have:=h.root;have:=h'.root;omega
  subst hn;rw[h.rep.uniq h'.rep];exact h'.held
 ·exact λq=>⟨n,t0,h,q⟩
theorem mayA_T{t:Tree}(h:MayA t):MayT t:=by obtain⟨n,t0,h⟩:=h;exact h.toIsT.may
theorem Y1q(t:Tree)(hb:t.nodes.length<=4611686018427387903):PS cfg G 117 [tW t] (.bool (decide (MayA t))):=by
 by_cases hT:MayT t
 ·obtain⟨n,t0,h⟩:=may_is hT;have hl:t0.all.length<=1000000000:=by have:=h.all_le;have:=h.len;omega
  have h2:decide (MayA t)=decide (HeldB t0.all):=decide_eq_decide.2 (mayA_iff h);rw[h2];refine gI 9 O (λR k0=>gC 0 O (zzq (w':=.bool true) (rmay_s t hb) (by rw[decide_eq_true hT])) ?_);refine gB 0 O (λh1=>?_) (λh1=>?_)
  ·exact gC 2 O (rall_s t n t0 h) (gC 0 O (rheld_s _ _ Xr) (gQa 5 O))
  ·exfalso;exact h1 rfl
 ·have h2:decide (MayA t)=false:=decide_eq_false λh=>hT (mayA_T h)
  rw[h2];refine gI 9 O (λR k0=>gC 0 O (zzq (w':=.bool false) (rmay_s t hb) (by rw[decide_eq_false hT])) ?_);refine gB 0 O (λh1=>?_) (λh1=>?_)
  ·exfalso;cases h1
  ·exact gQa 9 O
theorem idx_find(k:Dig):∀ps:List Pr,(∃(i:Nat) (x:Pr),ps[i]? =some x/\idxP ps k=i/\jgq ps k=some x.2)\/(idxP ps k=-1/\jgq ps k=none)
 |[]=>.inr ⟨rfl,rfl⟩
 | p ::ps=>by
  by_cases e:p.1=k
  ·refine .inl ⟨0,p,rfl,?_,?_⟩
   ·simp[idxP,List.findIdx?_cons,e]
   ·simp[jgq,e]
  ·rcases idx_find k ps with ⟨i,x,h1,h2,h3⟩|⟨h1,h2⟩
   ·refine .inl ⟨i+1,x,by simpa using h1,?_,?_⟩
    ·unfold idxP at h2⊢;rw[List.findIdx?_cons];simp only[e,decide_false,Bool.false_eq_true,if_false];cases hq:ps.findIdx? (λp=>decide (p.1=k)) with
     |none=>rw[hq] at h2;exfalso;simp only at h2;omega
     |some j=>rw[hq] at h2;simp only[Option.map_some] at h2⊢;omega
    ·rw[<-h3];simp[jgq,e]
   ·refine .inr ⟨?_,?_⟩
    ·unfold idxP at h1⊢;rw[List.findIdx?_cons];simp only[e,decide_false,Bool.false_eq_true,if_false];cases hq:ps.findIdx? (λp=>decide (p.1=k)) with
     |none=>rfl
     |some j=>rw[hq] at h1;simp only at h1;omega
    ·rw[<-h2];simp[jgq,e]
def inA(ps:List Pr)(k:Dig):Acct:=match jgq ps k with
 |some v=>(qDq v).1
 |none=>.zero
theorem Yhq(ps:List Pr)(f:Bool)(k:Dig)(hb:ps.length<=1000000000):PS cfg G 299 [.fz (ps.map pW) 33 f,dW k] (aW (inA ps k)):=by
 rcases idx_find k ps with ⟨i,x,q1,q2,q3⟩|⟨q1,q2⟩
 ·have e:inA ps k=(qDq x.2).1:=by unfold inA;rw[q3]
  have hi:=(List.getElem?_eq_some_iff.1 q1).1;rw[e];refine gI 10 O (λR k0=>gC 0 O (zzq (w':=.int .i64 (i:Int)) (rfind_s ps f k hb) (by rw[q2])) ?_);refine gS 10 O (λh1=>?_) (λh1=>?_)
  ·exfalso;omega
  ·exact gP 6 O (zDq (i:=i) O O O O O O O (zqq pW q1)) (gC 2 O (raread_s _ _) (gQa 15 O))
 ·have e:inA ps k= .zero:=by unfold inA;rw[q2]
  rw[e];refine gI 10 O (λR k0=>gC 0 O (zzq (w':=.int .i64 (-1)) (rfind_s ps f k hb) (by rw[q1])) ?_);refine gS 10 O (λh1=>?_) (λh1=>?_)
  ·exact gQa 8 O
  ·exfalso;omega
theorem IsT.le{t:Tree}{n:Nat}{t0:T}(h:IsT t n t0):t0.all.length<=262144:=Nat.le_trans h.all_le h.len
theorem IsT.vle{t:Tree}{n:Nat}{t0:T}(h:IsT t n t0):∀x∈t0.all,x.2.length<=70368744177664:=λx hx=>by have:=(h.val x hx).2;omega
noncomputable def Q3q(ps:List Pr)(k:Dig)(a:Acct):List Pr:=if a= .zero then ztq ps k else withR ps k (qNq a)
theorem vAq{l:List Pr}(h:Srt l)(k:Dig)(a:Acct):Q3q l k a=setL l k a:=by
 unfold Q3q setL;rw[JYq h]
theorem acct_zero{a:Acct}:a= .zero↔a.nonce=0/\a.balance=0:=by cases a;simp[Acct.zero]
theorem Ksq(ps:List Pr)(f:Bool)(k:Dig)(a:Acct)(ha:a.ok)(hb:ps.length<=1000000)(hv:∀x∈ps,x.2.length<=70368744177664):PS cfg G 301 [.fz (ps.map pW) 33 f,dW k,aW a] (psW (Q3q ps k a)):=by
 have lb:=uOq a;refine gI 12 O (λR k0=>?_);refine gD 0 O (λh1=>?_) (λh1=>?_)
 ·refine gU 3 O ?_;refine gS 3 O (λh2=>?_) (λh2=>?_)
  ·have hz:a= .zero:=acct_zero.2 Jo;exact gC 4 O (Jnq ps f k Xd hv) (gQ 5 O (by unfold Q3q;rw[if_pos hz]))
  ·have hz:¬a= .zero:=λq=>by have:=acct_zero.1 q;omega
   exact gC 7 O (rabytes_s _ Xr) (gC 0 O (rwith_s ps f false k (qNq a) hb hv Xd) (gQ 4 O (by unfold Q3q;rw[if_neg hz])))
 ·have hz:¬a= .zero:=λq=>by have:=acct_zero.1 q;omega
  exact gC 15 O (rabytes_s _ Xr) (gC 0 O (rwith_s ps f false k (qNq a) hb hv Xd) (gQ 4 O (by unfold Q3q;rw[if_neg hz])))
theorem inA_ok(ps:List Pr)(k:Dig):(inA ps k).ok:=by
 unfold inA;split
 ·exact Krq _
 ·exact⟨Nat.zero_lt_succ _,Nat.zero_lt_succ _⟩
theorem Kmq(ps:List Pr)(f:Bool)(k:Dig)(c:Nat)(hc:c<18446744073709551616)(hb:ps.length<=1000000)(hv:∀x∈ps,x.2.length<=70368744177664):PS cfg G 297 [.fz (ps.map pW) 33 f,dW k,.int .u64 (c:Int)] (if 18446744073709551616<=(inA ps k).balance+c then .tup [.nils,.bool false] else .tup [psW (Q3q ps k ⟨(inA ps k).nonce,(inA ps k).balance+c⟩),.bool true]):=by
 obtain⟨h0,hA⟩:=inA_ok ps k;refine gI 11 O (λR k0=>gC 0 O (Yhq _ _ _ Xd) (gA 10 O (18446744073709551615-(inA ps k).balance) ?_));refine gS 3 O (λh1=>?_) (λh1=>?_)
 ·have h1:((18446744073709551615-(inA ps k).balance:Nat):Int)<(c:Int):=h1;exact gQ 8 O (by rw[if_pos Xd])
 ·have h1:¬((18446744073709551615-(inA ps k).balance:Nat):Int)<(c:Int):=h1;have hs:(inA ps k).balance+c<18446744073709551616:=by omega
  exact gA 7 O ((inA ps k).balance+c) (gC 9 O (Ksq ps f k ⟨(inA ps k).nonce,(inA ps k).balance+c⟩ ⟨h0,hs⟩ hb hv) (gQ 5 O (by rw[if_neg Xd])))
theorem rgiven_s(ps:List Pr)(d:Depo)(hc:d.amount<18446744073709551616)(hb:ps.length<=1000000)(hv:∀x∈ps,x.2.length<=70368744177664):PS cfg G 244 [psW ps,pdW d] (if 18446744073709551616<=(inA ps d.to).balance+d.amount then .tup [psW ps,.int .i64 151] else .tup [psW (Q3q ps d.to ⟨(inA ps d.to).nonce,(inA ps d.to).balance+d.amount⟩),.int .i64 0]):=by
 by_cases ho:18446744073709551616<=(inA ps d.to).balance+d.amount
 ·rw[if_pos ho];exact gI 14 O (λR k0=>gC 0 O (zzq (w':=.tup [.nils,.bool false]) (Kmq ps false d.to d.amount hc hb hv) (by rw[if_pos ho])) (gQa 24 O))
 ·rw[if_neg ho];exact gI 14 O (λR k0=>gC 0 O (zzq (w':=.tup [psW (Q3q ps d.to ⟨(inA ps d.to).nonce,(inA ps d.to).balance+d.amount⟩),.bool true]) (Kmq ps false d.to d.amount hc hb hv) (by rw[if_neg ho])) (gQa 25 O))
theorem tx_sub(x:Tx):yyq 50 (txW x) 0 32 1=some (zaq x.pub.1)/\yyq 50 (txW x) 32 32 1=some (zaq x.to.1):=by
 have h:∀d:Dig,(zaq d.1).length=32:=λd=>by rw[zdq,d.2]
 constructor
 ·show some (((zaq x.pub.1).drop (0/1)).take 32)=_;rw[show 0/1=0 from rfl,List.drop_zero,List.take_of_length_le (by rw[h];omega)]
 ·show some (((zaq x.to.1).drop (0/1)).take 32)=_;rw[show 0/1=0 from rfl,List.drop_zero,List.take_of_length_le (by rw[h];omega)]
theorem rbody_s(x:Tx)(hx:x.ok):PS cfg G 255 [txW x] (bW (yRq x)):=by
 have h1:=hx.nonce;have h2:=hx.amount;have h3:=hx.fee;have l1:(zaq x.pub.1).length=32:=by rw[zdq,x.pub.2]
 have l2:(zaq x.to.1).length=32:=by rw[zdq,x.to.2]
 have n1:(zaq (beB 8 x.nonce)).length=8:=by rw[zdq,yiq]
 have n2:(zaq (beB 8 x.amount)).length=8:=by rw[zdq,yiq]
 have n3:(zaq (beB 8 x.fee)).length=8:=by rw[zdq,yiq]
 have eb:zaq (yRq x)=(((zaq x.pub.1++zaq x.to.1)++zaq (beB 8 x.nonce))++zaq (beB 8 x.amount))++zaq (beB 8 x.fee):=by simp[yRq,zaq]
 refine gIv 16 O (λR k0=>gM 0 O (zKq O O (j7q (k:=ti5) (news:=zaq x.pub.1) O O O O (zJq O O O (tx_sub x).1) (by intro h;rw[h] at l1;cases l1) (by rw[l1];decide) (by rw[l1];decide))) (gM 8 O (zKq O O (yQq (k:=ti5) (len:=(zaq x.pub.1).length) (news:=zaq x.to.1) (olds:=zaq x.pub.1) O O O O (zJq O O O (tx_sub x).2) Qu (by rw[l1,l2];decide) (by rw[l1,l2];decide) rfl (by show(zaq x.pub.1).length*1<0+(_+_)*1;rw[l1,l2];decide) rfl (zfq Xm O O))) (zcq 7 O ?_)))
 ((refine zjq rfl (yoq O O O O O O (yOq _ 8 Xr Xd) ?_);rintro w hp1 nw1 ⟨rfl,rfl,rfl⟩))
 refine zgq 11 O ?_
 ((refine zjq rfl (yoq O O O O O O (yOq _ 8 Xr Xd) ?_);rintro w hp1 nw1 ⟨rfl,rfl,rfl⟩))
 refine zgq 11 O ?_
 ((refine zjq rfl (yoq O O O O O O (yOq _ 8 Xr Xd) ?_);rintro w hp1 nw1 ⟨rfl,rfl,rfl⟩))
 exact zgq 11 O (gM 0 O (zKq O O (yQq (k:=ti5) (len:=(zaq x.pub.1).length+(zaq x.to.1).length) (news:=zaq (beB 8 x.nonce)) (olds:=zaq x.pub.1++zaq x.to.1) O O O O (zJq O O O (zfq Xm n1.symm rfl)) (by intro h;rw[h] at n1;cases n1) (by rw[l1,l2,n1];decide) (by rw[l1,l2,n1];decide) rfl (by show(_+_)*1<0+(_+_)*1;rw[l1,l2,n1];decide) rfl (zfq Xm List.length_append.symm rfl))) (gM 7 O (zKq O O (yQq (k:=ti5) (len:=(zaq x.pub.1).length+(zaq x.to.1).length+(zaq (beB 8 x.nonce)).length) (news:=zaq (beB 8 x.amount)) (olds:=(zaq x.pub.1++zaq x.to.1)++zaq (beB 8 x.nonce)) O O O O (zJq O O O (zfq Xm n2.symm rfl)) (by intro h;rw[h] at n2;cases n2) (by rw[l1,l2,n1,n2];decide) (by rw[l1,l2,n1,n2];decide) rfl (by show(_+_)*1<0+(_+_)*1;rw[l1,l2,n1,n2];decide) rfl (zfq Xm (by rw[List.length_append,List.length_append]) rfl))) (gM 7 O (zKq O O (yQq (k:=ti5) (len:=(zaq x.pub.1).length+(zaq x.to.1).length+(zaq (beB 8 x.nonce)).length+(zaq (beB 8 x.amount)).length) (news:=zaq (beB 8 x.fee)) (olds:=((zaq x.pub.1++zaq x.to.1)++zaq (beB 8 x.nonce))++zaq (beB 8 x.amount)) O O O O (zJq O O O (zfq Xm n3.symm rfl)) (by intro h;rw[h] at n3;cases n3) (by rw[l1,l2,n1,n2,n3];decide) (by rw[l1,l2,n1,n2,n3];decide) rfl (by show(_+_)*1<0+(_+_)*1;rw[l1,l2,n1,n2,n3];decide) rfl (zfq Xm (by rw[List.length_append,List.length_append,List.length_append]) rfl))) (zcq 4 O (quq Jp O (.sl (full:=false) (xs:=zaq (yRq x)) rfl (show purL ((((zaq x.pub.1++zaq x.to.1)++zaq (beB 8 x.nonce))++zaq (beB 8 x.amount))++zaq (beB 8 x.fee))=true by rw[<-eb];simp) (by rw[eb,l1,l2,n1,n2,n3];exact zfq Xm (by simp[l1,l2,n1,n2,n3]) rfl) Xi))))))
theorem Joq(x:Tx)(hx:x.ok):PS cfg G 186 [txW x] (.int .i64 (if x.sign=jOq x then 0 else 110)):=by
 have hb:=xMq x;refine ps_in (fn:=Tryz.f186) O O O (Ob rfl) (λR k0=>?_);by_cases h:x.sign=jOq x
 ·rw[if_pos h];skip
  exact zBq 12 O (gC 0 O (rbody_s x hx) (gC 0 O (x7q 4 (yRq x) Xd) (fl_val (w':=.bool false) rfl (jwq O O O O (yXq O O O O O O x.sign (jOq x) 250)) (by rw[decide_eq_true h];rfl) (ybq 11 O (gQa 0 O)))))
 ·rw[if_neg h];exact zBq 12 O (gC 0 O (rbody_s x hx) (gC 0 O (x7q 4 (yRq x) Xd) (fl_val (w':=.bool true) rfl (jwq O O O O (yXq O O O O O O x.sign (jOq x) 250)) (by rw[decide_eq_false h];rfl) (ybq 10 O (gQa 0 O)))))
theorem u4q(x:Tx):PS cfg G 300 [txW x] (dW (keyD x.pub)):=by
 exact gI 10 O (λR k0=>gC 0 O (rkey_s x.pub) (gQa 4 O))
theorem utq(l:List Pr)(k:Dig):acL l k=inA l k:=by
 unfold acL inA;cases jgq l k<;>rfl
theorem rnext_s(ps:List Pr)(f:Bool)(x:Tx)(hx:x.ok)(hb:ps.length<=1000000):PS cfg G 246 [.fz (ps.map pW) 33 f,txW x] (.bool (decide (x.nonce=(acL ps (keyD x.pub)).nonce/\x.nonce<18446744073709551615))):=by
 have h1:=hx.nonce;rw[utq];refine ps_in (fn:=Tryz.f246) O O O (Ob rfl) (λR k0=>?_);by_cases q:x.nonce=(inA ps (keyD x.pub)).nonce
 ·skip
  by_cases q2:x.nonce<18446744073709551615
  ·rw[decide_eq_true ⟨q,q2⟩];skip
   exact zBq 12 O (gC 0 O (u4q _) (gC 0 O (Yhq ps f (keyD x.pub) Xd) (gT 1 O (eqI_iff.2 Jf) (gT 3 O (ltI_iff.2 Xd) (gQa 5 O)))))
  ·rw[decide_eq_false λh=>q2 h.2];exact zBq 12 O (gC 0 O (u4q _) (gC 0 O (Yhq ps f (keyD x.pub) Xd) (gT 1 O (eqI_iff.2 Jf) (gF 3 O (ltI_not.2 Xd) (gQa 5 O)))))
 ·rw[decide_eq_false λh=>q h.1];exact zBq 12 O (gC 0 O (u4q _) (gC 0 O (Yhq ps f (keyD x.pub) Xd) (gF 1 O (eqI_not.2 Xd) (gQa 9 O))))
theorem rmoreL_no{l:List Pr}{k:Dig}{c:Nat}(h:qsq l k c=none)(hc:c<18446744073709551616)(hb:l.length<=1000000)(hv:∀x∈l,x.2.length<=70368744177664):PS cfg G 297 [psW l,dW k,.int .u64 (c:Int)] (.tup [.nils,.bool false]):=by
 refine zzq (Kmq l false k c hc hb hv) ?_;unfold qsq at h;split at h
 ·cases h
 ·rename_i q;rw[if_pos (by rw[<-utq];omega)]
theorem Knq{l q:List Pr}{k:Dig}{c:Nat}(hs:Srt l)(h:qsq l k c=some q)(hc:c<18446744073709551616)(hb:l.length<=1000000)(hv:∀x∈l,x.2.length<=70368744177664):PS cfg G 297 [psW l,dW k,.int .u64 (c:Int)] (.tup [psW q,.bool true]):=by
 refine zzq (Kmq l false k c hc hb hv) ?_;unfold qsq at h;split at h
 ·rename_i g;rw[if_neg (by rw[<-utq];omega),<-utq,vAq hs,Option.some.inj h]
 ·cases h
def Few(n:Nat)(l:List Pr):Prop:=l.length<=n/\∀x∈l,x.2.length<=70368744177664
theorem few_set{n:Nat}{l:List Pr}(hs:Srt l)(h:Few n l)(k:Dig)(a:Acct):Few (n+1) (setL l k a):=by
 have hw:Few n (ztq l k):=⟨Nat.le_trans (List.length_filter_le ..) h.1,λx hx=>h.2 x (List.mem_filter.1 hx).1⟩;unfold setL;split
 ·exact⟨Nat.le_succ_of_le hw.1,hw.2⟩
 ·rw[<-JYq hs];unfold withR;have e:=List.takeWhile_append_dropWhile (p:=λp:Pr=>zLq p.1 k) (l:=ztq l k);generalize (ztq l k).takeWhile (λp=>zLq p.1 k)=A at*
  generalize (ztq l k).dropWhile (λp=>zLq p.1 k)=B at*
  rw[<-e] at hw;obtain⟨g1,g2⟩:=hw;have lb:=uOq a;refine⟨by simp only[List.length_append,List.length_cons] at g1⊢;omega,λx hx=>?_⟩;rcases List.mem_append.1 hx with q|q
  ·exact g2 x (List.mem_append_left _ q)
  ·rcases List.mem_cons.1 q with rfl|q
   ·show(qNq a).length<=_;omega
   ·exact g2 x (List.mem_append_right _ q)
theorem rpaid_s(l:List Pr)(hs:Srt l)(hb:Few 500000 l)(x:Tx)(hx:x.ok)(box:Dig)(hn:(acL l (keyD x.pub)).nonce+1<18446744073709551616):PS cfg G 247 [psW l,txW x,dW box] (.tup [psW (yCq l x box).1,.int .i64 ((yCq l x box).2:Nat)]):=by
 have h2:=hx.amount;have h3:=hx.fee;obtain⟨g1,g2⟩:=acL_ok l (keyD x.pub);have nS:Srt (jSq l x):=u1q hs _ _;have nF:Few 500001 (jSq l x):=few_set hs hb _ _;have lS:Srt (jTq l x):=u1q nS _ _;have lF:Few 500002 (jTq l x):=few_set nS nF _ _;have w1:PS cfg G 301 [psW l,dW (keyD x.pub),aW ⟨(acL l (keyD x.pub)).nonce+1,(acL l (keyD x.pub)).balance⟩] (psW (jSq l x)):=zzq (Ksq l false (keyD x.pub) ⟨(acL l (keyD x.pub)).nonce+1,(acL l (keyD x.pub)).balance⟩ ⟨hn,g2⟩ (Nat.le_trans hb.1 Xd) hb.2) (by rw[vAq hs];rfl);have w2:PS cfg G 301 [psW (jSq l x),dW (keyD x.pub),aW ⟨(acL l (keyD x.pub)).nonce+1,(acL l (keyD x.pub)).balance-(x.amount+x.fee)⟩] (psW (jTq l x)):=zzq (Ksq (jSq l x) false (keyD x.pub) ⟨(acL l (keyD x.pub)).nonce+1,(acL l (keyD x.pub)).balance-(x.amount+x.fee)⟩ ⟨hn,by show(acL l (keyD x.pub)).balance-(x.amount+x.fee)<18446744073709551616;omega⟩ (Nat.le_trans nF.1 Xd) nF.2) (by rw[vAq nS];rfl);by_cases ho:x.amount+x.fee<=(acL l (keyD x.pub)).balance
 ·cases hm:qsq (jTq l x) x.to x.amount with
  |none=>
   rw[Jvq ho hm];refine gI 11 O (λR k0=>gC 0 O (u4q _) ?_);first|refine gC 8 O (zzq (Yhq l false (keyD x.pub) (Nat.le_trans hb.1 Xd)) (by rw[<-utq])) ?_|refine gC 8 O (Yhq ps f (keyD x.pub) Xd) ?_
   exact gA 8 O ((acL l (keyD x.pub)).nonce+1) (gC 9 O w1 (gA 10 O (18446744073709551615-x.fee) (gF 0 O (ltI_not.2 Xd) (gA 5 O (x.amount+x.fee) (gF 2 O (ltI_not.2 Xd) (gA 14 O (x.amount+x.fee) (gA 0 O ((acL l (keyD x.pub)).balance-(x.amount+x.fee)) (gC 9 O w2 (gC 4 O (rmoreL_no hm h2 (Nat.le_trans lF.1 Xd) lF.2) (gTa 11 O (gQa 12 O)))))))))))
  |some p=>
   have pS:Srt p:=(vdq lS hm).1
   have pF:Few 500003 p:=by
    unfold qsq at hm;split at hm
    ·rw[<-Option.some.inj hm];exact few_set lS lF _ _
    ·cases hm
   cases hm2:qsq p box x.fee with
   |none=>
    rw[Juq ho hm hm2];refine gI 11 O (λR k0=>gC 0 O (u4q _) ?_);first|refine gC 8 O (zzq (Yhq l false (keyD x.pub) (Nat.le_trans hb.1 Xd)) (by rw[<-utq])) ?_|refine gC 8 O (Yhq ps f (keyD x.pub) Xd) ?_
    exact gA 8 O ((acL l (keyD x.pub)).nonce+1) (gC 9 O w1 (gA 10 O (18446744073709551615-x.fee) (gF 0 O (ltI_not.2 Xd) (gA 5 O (x.amount+x.fee) (gF 2 O (ltI_not.2 Xd) (gA 14 O (x.amount+x.fee) (gA 0 O ((acL l (keyD x.pub)).balance-(x.amount+x.fee)) (gC 9 O w2 (gC 4 O (Knq lS hm h2 (Nat.le_trans lF.1 Xd) lF.2) (gFa 11 O (gC 11 O (rmoreL_no hm2 h3 (Nat.le_trans pF.1 Xd) pF.2) (gTa 11 O (gQa 12 O)))))))))))))
   |some q=>
    rw[Jtq ho hm hm2];refine gI 11 O (λR k0=>gC 0 O (u4q _) ?_);first|refine gC 8 O (zzq (Yhq l false (keyD x.pub) (Nat.le_trans hb.1 Xd)) (by rw[<-utq])) ?_|refine gC 8 O (Yhq ps f (keyD x.pub) Xd) ?_
    exact gA 8 O ((acL l (keyD x.pub)).nonce+1) (gC 9 O w1 (gA 10 O (18446744073709551615-x.fee) (gF 0 O (ltI_not.2 Xd) (gA 5 O (x.amount+x.fee) (gF 2 O (ltI_not.2 Xd) (gA 14 O (x.amount+x.fee) (gA 0 O ((acL l (keyD x.pub)).balance-(x.amount+x.fee)) (gC 9 O w2 (gC 4 O (Knq lS hm h2 (Nat.le_trans lF.1 Xd) lF.2) (gFa 11 O (gC 11 O (Knq pS hm2 h3 (Nat.le_trans pF.1 Xd) pF.2) (gFa 11 O (gQa 13 O)))))))))))))
 ·rw[uEq ho];refine gI 11 O (λR k0=>gC 0 O (u4q _) ?_);first|refine gC 8 O (zzq (Yhq l false (keyD x.pub) (Nat.le_trans hb.1 Xd)) (by rw[<-utq])) ?_|refine gC 8 O (Yhq ps f (keyD x.pub) Xd) ?_
  refine gA 8 O ((acL l (keyD x.pub)).nonce+1) (gC 9 O w1 (gA 10 O (18446744073709551615-x.fee) ?_));refine gD 0 O (λh1=>?_) (λh1=>?_)
  ·exact gQa 22 O
  ·have q1:¬((18446744073709551615-x.fee:Nat):Int)<(x.amount:Int):=h1;exact gA 5 O (x.amount+x.fee) (gT 2 O (ltI_iff.2 Xd) (gQa 13 O))
theorem rhof_s(h:Hdr)(hh:okH h):PS cfg G 256 [hdW h] (bW (hdB h)):=by
 obtain⟨i,p,s,r,j⟩:=h;obtain⟨h1,h2,h3,h4⟩:=hh;obtain⟨n,rfl⟩:=Int.eq_ofNat_of_zero_le h1;obtain⟨m,rfl⟩:=Int.eq_ofNat_of_zero_le h3;simp only at h2 h4;have e:hdB ⟨(n:Int),p,s,r,(m:Int)⟩=(((beB 8 n++p.1)++s.1)++r.1)++beB 4 m:=by simp[hdB]
 obtain⟨s1,s2,s3⟩:=hd_sub ⟨(n:Int),p,s,r,(m:Int)⟩;have l1:=p.2;have l2:=s.2;have l3:=r.2;have l4:=yiq 8 n;have l5:=yiq 4 m;have l6:(zaq (beB 4 m)).length=4:=by rw[zdq,l5]
 rw[e];refine gIv 10 O (λR k0=>gA 0 O (n) ?_)
 (refine zjq rfl (yoq O O O O O O (yOq n 8 Xd Xd) ?_);rintro w hp1 nw1 ⟨rfl,rfl,rfl⟩)
 refine zgq 11 O (gA 0 O (m) ?_)
 (refine zjq rfl (yoq O O O O O O (yOq m 4 Xd Xd) ?_);rintro w hp1 nw1 ⟨rfl,rfl,rfl⟩)
 exact zgq 12 O (gM 0 O (zKq O O (xdq (k:=ti5) (L:=beB 8 n) (M:=p.1) O O O O O O (zJq O O O s1) rfl l4 Xd Xd)) (gM 8 O (zKq O O (xdq (k:=ti5) (L:=beB 8 n++p.1) (M:=s.1) O O O O O O (zJq O O O s2) O O Xd (by simp[l1,l2,l4]))) (gM 8 O (zKq O O (xdq (k:=ti5) (L:=(beB 8 n++p.1)++s.1) (M:=r.1) O O O O O O (zJq O O O s3) O O Xd (by simp[l1,l2,l3,l4]))) (gM 7 O (zKq O O (xdq (k:=ti5) (L:=((beB 8 n++p.1)++s.1)++r.1) (M:=beB 4 m) O O O O O O (zJq O O O (zfq Xm l6.symm rfl)) O O Xd (by simp[l1,l2,l3,l4,l5]))) (zcq 4 O (quq Jp rfl (.sl (full:=false) rfl Xh (zfq Xm (zdq _).symm rfl) Xi)))))))
theorem rhname_s(h:Hdr)(hh:okH h):PS cfg G 187 [hdW h] (dW (hashD h)):=by
 exact gI 9 O (λR k0=>gC 0 O (rhof_s h hh) (gC 0 O (x7q 6 (hdB h) (by rw[hdB_len];omega)) (gQa 4 O)))
theorem rhfol_s(h p:Hdr):PS cfg G 116 [hdW h,hdW p] (.bool (decide (FolB h p))):=by
 by_cases hh:okH h
 ·by_cases hp:okH p
  ·obtain⟨q1,q2,q3,q4⟩:=id hp;refine gI 10 O (λR k0=>gC 0 O (zzq (w':=.bool true) (xrq h) (by rw[decide_eq_true (hh)])) (gC 2 O (zzq (w':=.bool true) (xrq p) (by rw[decide_eq_true (hp)])) (gWr 6 O ?_)));refine gD 0 O (λh1=>?_) (λh1=>?_)
   ·exact gC 5 O (rhname_s p ⟨q1,q2,q3,q4⟩) (gUe 0 O (qxq O O O O (yXq O O O O O O _ _ 250)) z5q (gQ 5 O (dec_c ⟨λq=>⟨hh,hp,by simpa using h1,q⟩,λq=>q.2.2.2⟩)))
   ·exact gQ 12 O (y6q λq=>h1 (by simpa using q.2.2.1))
  ·skip
   exact gI 10 O (λR k0=>gC 0 O (zzq (w':=.bool true) (xrq h) (by rw[decide_eq_true (hh)])) (gC 2 O (zzq (w':=.bool false) (xrq p) (by rw[decide_eq_false (hp)])) (gQ 20 O (y6q λq=>hp q.2.1))))
 ·skip
  exact gI 10 O (λR k0=>gC 0 O (zzq (w':=.bool false) (xrq h) (by rw[decide_eq_false (hh)])) (gQ 23 O (y6q λq=>hh q.1)))
theorem rmbody_s(ds:List Depo)(xs:List Tx)(f g:Bool)(hx:∀x∈xs,x.ok)(hd:ds.length<=140737488351232)(hn:xs.length<=140737488351232):PS cfg G 115 [bodW ds xs f g] (.bool (decide (BodyM ds xs))):=by
 have e1:(ds.map pdW).length=ds.length:=List.length_map _;have e2:(xs.map txW).length=xs.length:=List.length_map _;refine gI 13 O (λR k0=>?_);refine gLo (α:=Nat) 0 (λi=>i<=xs.length/\∀j x,j<i->xs[j]? =some x->x.sign=jOq x) (λi=>[(3,.int .i64 (i:Int))]) [1,2] (λi=>xs.length-i) (0) rfl (⟨Nat.zero_le _,λj x h=>by omega⟩) (λi hI=>?_);obtain⟨g1,g2⟩:=hI;refine gZ 6 O e2 ?_;refine gS 3 O (λh1=>?_) (λh1=>?_)
 ·obtain⟨x,hx1⟩:∃x,xs[i]? =some x:=⟨_,List.getElem?_eq_getElem Xd⟩
  refine gP 9 O (zDq (i:=i) O O O O O O O (zqq txW hx1)) ?_;refine gC 1 O (Joq x (hx x (List.mem_of_getElem? hx1))) ?_;refine gS 3 O (λh2=>?_) (λh2=>?_)
  ·refine gO 8 O ?_;exact gQ 2 O (y6q λq=>h2 (by rw[if_pos (q.2.2 x (List.mem_of_getElem? hx1))]))
  ·have hs:x.sign=jOq x:=Classical.byContradiction λq=>h2 Qy
   refine gA 5 O (i+1) ?_;exact gAg 2 O (i+1) (⟨by omega,λj y hj hy=>by rcases Nat.lt_succ_iff_lt_or_eq.1 hj with q|rfl;exact g2 j y q hy;exact Option.some.inj (hx1.symm.trans hy)▸hs⟩) Xd
 ·have all:∀x∈xs,x.sign=jOq x:=λx h=>by
   obtain⟨j,hj⟩:=List.getElem?_of_mem h;exact g2 j x (by have:=jAq hj;omega) hj
  refine gO 2 O ?_;refine gZ 6 O e1 ?_;refine gD 0 O (λh2=>?_) (λh2=>?_)
  ·refine gZ 3 O e2 ?_;refine gU 0 O ?_;exact gQ 5 O (congrArg W.bool (by first|exact decide_eq_decide.2 ⟨λq=>⟨by omega,by omega,all⟩,λq=>by have:=q.2.1;omega⟩|(by_cases q:xs.length<=16; · rw[decide_eq_true (show BodyM ds xs from⟨by omega,q,all⟩),ltI_not.2 Xd];rfl; · rw[decide_eq_false (show¬BodyM ds xs from λh=>q h.2.1),ltI_iff.2 Xd];rfl)))
  ·exact gQ 10 O (y6q λq=>by have:=q.1;omega)
theorem rat17_s(c:Ch)(i:Nat)(x:Lk)(hx:c.links[i]? =some x):PS cfg G 118 [chG c,.int .i64 (i:Int)] (tW (verT c x.root)):=by
 exact gI 19 O (λR k0=>gP 0 O (zDq (i:=i) O O O O O O O (zqq lkG hx)) (gQa 13 O))
theorem at_prev{α:Type}{l:List α}{i:Nat}(h:i<l.length)(h0:0<i):∃y,l[i-1]? =some y:=⟨_,List.getElem?_eq_getElem Xd⟩
theorem u5q(c:Ch)(hc:OkC c):PS cfg G 53 [chG c] (.bool (decide (MayC c))):=by
 have hl:=hc.len;refine gI 10 O (λR k0=>gZ 0 O LMq ?_);refine gD 7 O (λh1=>?_) (λh1=>?_)
 ·have hno:¬MayC c:=λq=>by have:=q.one;omega
  exact gQ 27 O (y6q hno)
 obtain⟨z,hz⟩:∃z,c.links[c.links.length-1]? =some z:=⟨_,List.getElem?_eq_getElem Xd⟩
 refine gD 2 O (λh2=>?_) (λh2=>?_)
 ·have hno:¬MayC c:=λq=>by have:=q.len;omega
  exact gQ 24 O (y6q hno)
 refine gA 8 O (c.links.length-1) (gP 0 O (zDq (i:=c.links.length-1) O O O O O O O (zqq lkG hz)) (gU 2 O ?_));refine gS 3 O (λh3=>?_) (λh3=>?_)
 ·have hno:¬MayC c:=λq=>h3 (q.root z hz)
  exact gQ 7 O (y6q hno)
 refine gLo (α:=Nat) 9 (λi=>i<=c.links.length/\∀j x,j<i->c.links[j]? =some x->LkM c j x) (λi=>[(4,.int .i64 (i:Int))]) [1,2,3] (λi=>c.links.length-i) (0) rfl (⟨Nat.zero_le _,λj x h=>by omega⟩) (λi hI=>?_);obtain⟨g1,hI⟩:=hI;refine gS 8 O (λh4=>?_) (λh4=>?_)
 ·have hi:i<c.links.length:=by omega
  obtain⟨x,hx⟩:∃x,c.links[i]? =some x:=⟨_,List.getElem?_eq_getElem hi⟩
  have hB:=hc.body x (List.mem_of_getElem? hx);refine gP 9 O (zDq (i:=i) O O O O O O O (zqq lkG hx)) ?_;refine gD 12 O (λh5=>?_) (λh5=>?_)
  ·have hno:¬MayC c:=λq=>h5 (q.link i x hx).height
   exact gO 33 O (gQ 2 O (y6q hno))
  refine gC 3 O (xrq x.hdr) ?_;refine gB 0 O (λh6=>?_) (λh6=>?_)
  ·refine gZ 5 O LMq ?_;refine gD 3 O (λh7=>?_) (λh7=>?_)
   ·have hno:¬MayC c:=λq=>h7 (q.link i x hx).recs
    exact gO 19 O (gQ 2 O (y6q hno))
   ·refine gC 4 O (rmbody_s x.ds x.xs false false hB.tx hB.dl hB.xl) ?_;refine gS 4 O (λh8=>?_) (λh8=>?_)
    ·have hno:¬MayC c:=λq=>absurd h8 (by rw[decide_eq_true (q.link i x hx).body];decide)
     exact gO 9 O (gQ 2 O (y6q hno))
    ·have hok:okH x.hdr:=h6;have hM:BodyM x.ds x.xs:=by simpa using h8
     refine gD 5 O (λh9=>?_) (λh9=>?_)
     ·obtain⟨y,hy⟩:=at_prev hi Xd;refine gA 6 O (i-1) (gP 0 O (zDq (i:=i-1) O O O O O O O (zqq lkG hy)) (gC 2 O (rhfol_s x.hdr y.hdr) ?_));refine gB 0 O (λh10=>?_) (λh10=>?_)
      ·refine gC 5 O (rat17_s c i x hx) (gC 0 O (Y1q (verT c x.root) hc.nodes) ?_);refine gS 4 O (λh11=>?_) (λh11=>?_)
       ·have hno:¬MayC c:=λq=>absurd h11 (by rw[decide_eq_true (q.link i x hx).tree];decide)
        exact gO 8 O (gQ 2 O (y6q hno))
       ·have hx2:LkM c i x:=⟨by omega,hok,λw h0 hw=>Option.some.inj (hy.symm.trans hw)▸h10,by omega,hM,by simpa using h11⟩;exact gA 5 O (i+1) (gAg 2 O (i+1) (⟨hi,λj w hj hw=>by rcases Nat.lt_succ_iff_lt_or_eq.1 hj with q|rfl;exact hI j w q hw;exact Option.some.inj (hx.symm.trans hw)▸hx2⟩) Xd)
      ·have hno:¬MayC c:=λq=>h10 ((q.link i x hx).fol y Xd hy)
       exact gO 20 O (gQ 2 O (y6q hno))
     ·refine gC 16 O (rat17_s c i x hx) (gC 0 O (Y1q (verT c x.root) hc.nodes) ?_);refine gS 4 O (λh10=>?_) (λh10=>?_)
      ·have hno:¬MayC c:=λq=>absurd h10 (by rw[decide_eq_true (q.link i x hx).tree];decide)
       exact gO 8 O (gQ 2 O (y6q hno))
      ·have hx2:LkM c i x:=⟨by omega,hok,λw h0 hw=>absurd h0 Xd,by omega,hM,by simpa using h10⟩;exact gA 5 O (i+1) (gAg 2 O (i+1) (⟨hi,λj w hj hw=>by rcases Nat.lt_succ_iff_lt_or_eq.1 hj with q|rfl;exact hI j w q hw;exact Option.some.inj (hx.symm.trans hw)▸hx2⟩) Xd)
  ·have hno:¬MayC c:=λq=>h6 (q.link i x hx).hdr
   exact gO 29 O (gQ 2 O (y6q hno))
 ·have yes:MayC c:=⟨by omega,by omega,λw hw=>by cases hz.symm.trans hw;omega,λj w hw=>hI j w (by have:=jAq hw;omega) hw⟩;exact gO 2 O (gQ 8 O (K4q yes))
theorem rfdepo_s(d:Depo)(h1:d.number<18446744073709551616)(h2:d.amount<18446744073709551616):PS cfg G 245 [pdW d] (dW (depD d)):=by
 have l1:=yiq 8 d.number;have l2:=d.to.2;have l4:=yiq 8 d.amount;have l3:(zaq (beB 8 d.amount)).length=8:=by rw[zdq,l4]
 have e:depB d=(beB 8 d.number++d.to.1)++beB 8 d.amount:=by simp[depB]
 have hl:=depB_len d;refine gI 10 O (λR k0=>?_)
 ((refine zjq rfl (yoq O O O O O O (yOq _ 8 Xr Xd) ?_);rintro w hp1 nw1 ⟨rfl,rfl,rfl⟩))
 refine zgq 11 O ?_
 ((refine zjq rfl (yoq O O O O O O (yOq _ 8 Xr Xd) ?_);rintro w hp1 nw1 ⟨rfl,rfl,rfl⟩))
 exact zgq 12 O (gM 0 O (zKq O O (xdq (k:=ti5) (L:=beB 8 d.number) (M:=d.to.1) O O O O O O (zJq O O O (dep_sub d)) rfl l1 Xd Xd)) (gM 7 O (zKq O O (xdq (k:=ti5) (L:=beB 8 d.number++d.to.1) (M:=beB 8 d.amount) O O O O O O (zJq O O O (zfq Xm l3.symm rfl)) O O Xd (by simp[l1,l2,l4]))) (xAq O O O O O (.cons (.pur rfl) (.cons (.sl (full:=false) rfl Xh (zfq Xm (zdq _).symm rfl) Xi) .nil)) (x7q 9 (depB d) Xd) Xk Xk (zgq 4 O (gQa 0 O)))))
theorem rfof_c(k:UInt8)(d:Dig)(c:Nat)(a b:UInt8)(h:beB 2 c=[a,b])(w1:kaq .i64 ((c:Int).tdiv 256)= .ofNat a.toNat)(w2:kaq .u8 (.ofNat a.toNat)= .ofNat a.toNat)(w3:(c:Int).tmod 256= .ofNat b.toNat)(w4:kaq .u8 (.ofNat b.toNat)= .ofNat b.toNat):PS cfg G 305 [recW ⟨k,d,c⟩] (bW (recB ⟨k,d,c⟩)):=by
 have l2:=d.2;rw[show recB ⟨k,d,c⟩=([k]++d.1)++[a,b] by rw[recB,h]];exact gIv 19 O (λR k0=>gM 0 O (zKq O O (xdq (k:=ti5) (L:=[k]) (M:=d.1) O O O O O O (zJq O O O (rec_sub ⟨k,d,c⟩)) O O Xd (by simp[l2]))) (gV 8 O (congrArg (W.int .i64) w1) (gV 0 O (congrArg (W.int .u8) w2) (gV 2 O (congrArg (W.int .i64) w3) (gV 0 O (congrArg (W.int .u8) w4) (gM 1 O (zKq O O (xdq (k:=ti5) (L:=[k]++d.1) (M:=[a,b]) O O O O O O (zJq O O O O) O O Xh (by simp[l2]))) (zcq 4 O (quq Jp rfl (.sl (full:=false) rfl Xh (zfq Xm (zdq _).symm rfl) Xi)))))))))
theorem rfof_s(r:Rec)(h:okR r):PS cfg G 305 [recW r] (bW (recB r)):=by
 obtain⟨k,d,c⟩:=r;rcases h.2 with h|h|⟨_,h⟩<;>(simp only at h;subst h)
 ·exact rfof_c k d 0 0 0 Xm Xp Xp Xp Xp
 ·exact rfof_c k d 151 0 151 Xm Xp Xp Xp Xp
 ·exact rfof_c k d 150 0 150 Xm Xp Xp Xp Xp
theorem rbodyL_s(x:Tx)(hx:x.ok):PL cfg G 255 [txW x] 5 1 (zaq (yRq x)):=by
 have h1:=hx.nonce;have h2:=hx.amount;have h3:=hx.fee;have l1:=x.pub.2;have l2:=x.to.2;have n1:=yiq 8 x.nonce;have n2:=yiq 8 x.amount;have n3:=yiq 8 x.fee;have m1:(zaq (beB 8 x.nonce)).length=8:=by rw[zdq,n1]
 have m2:(zaq (beB 8 x.amount)).length=8:=by rw[zdq,n2]
 have m3:(zaq (beB 8 x.fee)).length=8:=by rw[zdq,n3]
 have e:yRq x=(((x.pub.1++x.to.1)++beB 8 x.nonce)++beB 8 x.amount)++beB 8 x.fee:=by simp[yRq]
 have hb:=xMq x;intro R;refine gIs 16 O (λk0=>?_);refine gM 0 O (zKq O O (app_b0 (k:=ti5) (M:=x.pub.1) O O O O O (zJq O O O (tx_sub x).1) Xd Xd)) (gM 8 O (zKq O O (xdq (k:=ti5) (L:=x.pub.1) (M:=x.to.1) O O O O O O (zJq O O O (tx_sub x).2) O O Xd Xd)) (zcq 7 O ?_));first|((refine zjq rfl (yoq O O O O O O (yOq _ 8 Xr Xd) ?_);rintro w hp1 nw1 ⟨rfl,rfl,rfl⟩))|((refine zjq rfl (yoq O O O O O O (yOq _ 8 Xr Xd) ?_);rintro w hp1 nw1 ⟨rfl,rfl,rfl⟩))
 refine zgq 11 O ?_;first|((refine zjq rfl (yoq O O O O O O (yOq _ 8 Xr Xd) ?_);rintro w hp1 nw1 ⟨rfl,rfl,rfl⟩))|((refine zjq rfl (yoq O O O O O O (yOq _ 8 Xr Xd) ?_);rintro w hp1 nw1 ⟨rfl,rfl,rfl⟩))
 refine zgq 11 O ?_;first|((refine zjq rfl (yoq O O O O O O (yOq _ 8 Xr Xd) ?_);rintro w hp1 nw1 ⟨rfl,rfl,rfl⟩))|((refine zjq rfl (yoq O O O O O O (yOq _ 8 Xr Xd) ?_);rintro w hp1 nw1 ⟨rfl,rfl,rfl⟩))
 refine zgq 11 O (gM 0 O (zKq O O (xdq (k:=ti5) (L:=x.pub.1++x.to.1) (M:=beB 8 x.nonce) O O O O O O (zJq O O O (zfq Xm m1.symm rfl)) O O Xd (by simp[l1,l2,n1]))) (gM 7 O (zKq O O (xdq (k:=ti5) (L:=(x.pub.1++x.to.1)++beB 8 x.nonce) (M:=beB 8 x.amount) O O O O O O (zJq O O O (zfq Xm m2.symm rfl)) O O Xd (by simp[l1,l2,n1,n2]))) (gM 7 O (zKq O O (xdq (k:=ti5) (L:=((x.pub.1++x.to.1)++beB 8 x.nonce)++beB 8 x.amount) (M:=beB 8 x.fee) O O O O O O (zJq O O O (zfq Xm m3.symm rfl)) O O Xd (by simp[l1,l2,n1,n2,n3]))) (zcq 4 O ?_))));rw[<-e];have hpb:purW (.arr ((yRq x).length*1) 1 (zaq (yRq x)))=true:=yLq _;have hn:(zaq (yRq x)).length=88:=by rw[zdq,hb]
 have hne:zaq (yRq x)≠[]:=λh=>by rw[h] at hn;cases hn
 refine fin (fr2:=[(2,.sl 0 0 0 (yRq x).length 1 none)]) (hp2:=[(0,5,.arr ((yRq x).length*1) 1 (zaq (yRq x)))]) (nw2:=1) (w:=.sl 0 0 0 (yRq x).length 1 none) Jp (ydq (b:=0) (k:=8) Xd Xd (by show 8<9;omega) ⟨⟨rfl,rfl⟩,trivial⟩ ⟨⟨by omega,?_,zbq hpb⟩,trivial⟩ Xh) rfl ⟨rfl,?_,?_,rfl⟩
 ·show some (5,W.arr ((yRq x).length*1) 1 (zaq (yRq x)))=some (5,renW _ (W.arr ((yRq x).length*1) 1 (zaq (yRq x))));rw[zeq hpb]
 ·rw[qhq hne,zdq]
 ·rw[qiq hne,zdq]
theorem rtxbytes_s(x:Tx)(hx:x.ok):PS cfg G 302 [txW x] (bW (txB x)):=by
 have hb:=xMq x;have l2:=x.sign.2;have l1:(zaq (yRq x)).length=88:=by rw[zdq,hb]
 have hne:zaq (yRq x)≠[]:=λh=>by rw[h] at l1;cases l1
 have e1:(zaq (yRq x)).length=(yRq x).length:=zdq _;refine gIv 9 O (λR k0=>?_)
 (refine z9q rfl (kpq O O O O O Xh (rbodyL_s x hx) Xh ?_);rw[qhq hne,qiq hne,e1];refine⟨by first|rfl|kernel_rfl,?_⟩)
 exact ybq 2 O (gM 0 O (zKq O O (xdq (k:=ti5) (L:=yRq x) (M:=x.sign.1) O O O O O O (zJq O O O (sign_sub x)) O O Xd Xd)) (zcq 4 O (quq Jp rfl (.sl (full:=false) rfl Xh (zfq Xm (zdq _).symm rfl) Xi))))
theorem rtxid_s(x:Tx)(hx:x.ok):PS cfg G 248 [txW x] (dW (idD x)):=by
 have hl:=txB_len x;refine gI 9 O (λR k0=>gC 0 O (rtxbytes_s x hx) ?_);first|refine yqq O O O O O O (x7q 5 (txB x) Xd) ?_|refine xAq O O O O O (.cons (.pur rfl) (.cons (.sl (full:=false) rfl Xh (zfq Xm (zdq _).symm rfl) Xi) .nil)) (x7q 9 (depB d) Xd) Xk Xk ?_
 exact zgq 4 O (gQa 0 O)
theorem first_ok:∀n,n<=256->∀k,k<8->2^k<n->n<=2*2^k->2^k=yDq n:=by decide+kernel
theorem rfirst_s(n:Nat)(h2:2<=n)(h:n<=256):PS cfg G 304 [.int .i64 (n:Int)] (.int .i64 (yDq n:Nat)):=by
 refine gI 12 O (λR k0=>?_);refine gLo (α:=Nat×Nat) 0 (λp=>p.2=2^p.1/\p.2<n/\1<=p.2) (λp=>[(3,.int .i64 (p.2:Nat))]) [0,2] (λp=>n-p.2) ((0,1)) rfl (⟨rfl,by show 1<n;omega,Nat.le_refl _⟩) (λp hI=>?_);obtain⟨k,q⟩:=p;obtain⟨g1,g2,g3⟩:=hI;simp only at g1 g2 g3⊢;refine gA 4 O (2*q) ?_;refine gS 4 O (λh1=>?_) (λh1=>?_)
 ·have hq:2*q<n:=by omega
  exact gA 5 O (2*q) (gAg 3 O ((k+1,2*q)) (⟨by simp only;rw[g1,Nat.pow_succ];omega,hq,by simp only;omega⟩) Ye)
 ·have hq:n<=2*q:=by omega
  have hk:k<8:=by
   have:2^k<2^8:=by rw[<-g1];show q<256;omega
   exact(Nat.pow_lt_pow_iff_right Xd).1 this
  exact gO 2 O (gQ 9 O (by rw[g1,first_ok n h k hk (by rw[<-g1];exact g2) (by rw[<-g1];exact hq)]))
theorem take_with{l:List Pr}(h:Srt l){i:Nat}{x:Pr}(hx:l[i]? =some x):klq (l.take i) x.1 x.2=l.take (i+1):=by
 obtain⟨hi,ex⟩:=List.getElem?_eq_some_iff.1 hx
 have hp:∀p∈l.take i,zLq p.1 x.1=true:=λp hp=>by
  obtain⟨j,hj⟩:=List.getElem?_of_mem hp;obtain⟨hj1,hj2⟩:=List.getElem?_eq_some_iff.1 hj;rw[List.length_take] at hj1;rw[List.getElem_take] at hj2;rw[<-hj2,<-ex];exact List.pairwise_iff_getElem.1 h j i Xd hi Xd
 unfold klq;rw[List.filter_eq_self.2 hp,List.filter_eq_nil_iff.2 λp q=>by rw[qjq (hp p q)];simp,List.take_add_one,hx];rfl
def okB(l:List Pr):Prop:=MayP l/\HeldB l
noncomputable instance(l:List Pr):Decidable (okB l):=Classical.propDecidable _
theorem rall_rep(t:Tree)(n:Nat)(t0:T)(h3:t.root=n)(rep:Rep t.nodes n t0)(hb:t.nodes.length<=4611686018427387903)(hl:t0.all.length<=1000000)(hv:∀p∈t0.all,p.2.length<=70368744177664):PS cfg G 183 [tW t] (psW t0.all):=by
 obtain⟨ns,root⟩:=t;simp only at h3 rep hb;subst h3;have P:=(rfor_s (G:=G) ⟨ns,(n:Int)⟩ hb t0 n rep hl hv).ps Xm (qLq _);exact gI 11 O (λR k0=>KCq O O O O O O P Xh Xh (zgq 4 O (gQa 0 O)))
def Fw(n:Nat)(l:List Pr):Prop:=l.length<=n/\∀x∈l,x.2.length<=64
theorem Fw.few{n:Nat}{l:List Pr}(h:Fw n l):Few n l:=⟨h.1,λx hx=>Nat.le_trans (h.2 x hx) Xd⟩
theorem fw_set{n:Nat}{l:List Pr}(hs:Srt l)(h:Fw n l)(k:Dig)(a:Acct):Fw (n+1) (setL l k a):=by
 have hw:Fw n (ztq l k):=⟨Nat.le_trans (List.length_filter_le ..) h.1,λx hx=>h.2 x (List.mem_filter.1 hx).1⟩;unfold setL;split
 ·exact⟨Nat.le_succ_of_le hw.1,hw.2⟩
 ·rw[<-JYq hs];unfold withR;have e:=List.takeWhile_append_dropWhile (p:=λp:Pr=>zLq p.1 k) (l:=ztq l k);generalize (ztq l k).takeWhile (λp=>zLq p.1 k)=A at*
  generalize (ztq l k).dropWhile (λp=>zLq p.1 k)=B at*
  rw[<-e] at hw;obtain⟨g1,g2⟩:=hw;have lb:=uOq a;refine⟨by simp only[List.length_append,List.length_cons] at g1⊢;omega,λx hx=>?_⟩;rcases List.mem_append.1 hx with q|q
  ·exact g2 x (List.mem_append_left _ q)
  ·rcases List.mem_cons.1 q with rfl|q
   ·show(qNq a).length<=_;omega
   ·exact g2 x (List.mem_append_right _ q)
theorem KQq{m n:Nat}{l:List Pr}(h:Fw n l)(e:n<=m):Fw m l:=⟨Nat.le_trans h.1 e,h.2⟩
theorem fw_more{n:Nat}{l q:List Pr}{k:Dig}{c:Nat}(hs:Srt l)(h:Fw n l)(hm:qsq l k c=some q):Fw (n+1) q:=by
 unfold qsq at hm;split at hm
 ·rw[<-Option.some.inj hm];exact fw_set hs h _ _
 ·cases hm
theorem fw_gv{n:Nat}{l:List Pr}(hs:Srt l)(h:Fw n l)(d:Depo):Fw (n+1) (gvL l d).1:=by
 unfold gvL;cases e:qsq l d.to d.amount with
 |none=>exact KQq h Xd
 |some q=>exact fw_more hs h e
theorem doD_snoc(l:List Pr)(ds:List Depo)(d:Depo):doD l (ds++[d])=((gvL (doD l ds).1 d).1,(doD l ds).2++[⟨1,depD d,(gvL (doD l ds).1 d).2⟩]):=doD_app ds [d] l
theorem fw_paid{n:Nat}{l:List Pr}(x:Tx)(box:Dig)(hs:Srt l)(h:Fw n l):Fw (n+4) (yCq l x box).1:=by
 have nS:Srt (jSq l x):=u1q hs _ _;have nF:Fw (n+1) (jSq l x):=fw_set hs h _ _;have lS:Srt (jTq l x):=u1q nS _ _;have lF:Fw (n+2) (jTq l x):=fw_set nS nF _ _;by_cases ho:x.amount+x.fee<=(acL l (keyD x.pub)).balance
 ·cases hm:qsq (jTq l x) x.to x.amount with
  |none=>rw[Jvq ho hm];exact KQq nF Xd
  |some p=>
   have pS:Srt p:=(vdq lS hm).1;have pF:=fw_more lS lF hm;cases hm2:qsq p box x.fee with
   |none=>rw[Juq ho hm hm2];exact KQq nF Xd
   |some q=>rw[Jtq ho hm hm2];exact fw_more pS pF hm2
 ·rw[uEq ho];exact KQq nF Xd
theorem gv_in{l:List Pr}(hs:Srt l)(d:Depo):(if 18446744073709551616<=(inA l d.to).balance+d.amount then W.tup [psW l,.int .i64 151] else .tup [psW (Q3q l d.to ⟨(inA l d.to).nonce,(inA l d.to).balance+d.amount⟩),.int .i64 0])= .tup [psW (gvL l d).1,.int .i64 ((gvL l d).2:Nat)]:=by
 unfold gvL qsq;by_cases h:(acL l d.to).balance+d.amount<18446744073709551616
 ·rw[if_pos h,if_neg (by rw[<-utq];omega),<-utq,vAq hs];rfl
 ·rw[if_neg h,if_pos (by rw[<-utq];omega)];rfl
theorem rgvL_s(l:List Pr)(d:Depo)(hs:Srt l)(hb:Few 1000000 l)(hc:d.amount<18446744073709551616):PS cfg G 244 [psW l,pdW d] (.tup [psW (gvL l d).1,.int .i64 ((gvL l d).2:Nat)]):=zzq (rgiven_s l d hc hb.1 hb.2) (gv_in hs d)
theorem bw_drop(ps:List (List UInt8))(n:Nat):purL (List.drop n (ps.map bW))=true:=by rw[<-List.map_drop];exact ZRq _
theorem bw_take(ps:List (List UInt8))(n:Nat):purL (List.take n (ps.map bW))=true:=by rw[<-List.map_take];exact ZRq _
theorem rw_take(L:List Rec)(n:Nat):purL (List.take n (L.map (bW∘recB)))=true:=by rw[<-List.map_map,<-List.map_take];exact ZRq _
theorem rw_all(L:List Rec):purL (L.map (bW∘recB))=true:=by rw[<-List.map_map];exact ZRq _
attribute [local simp] bw_drop bw_take rw_take rw_all qCq
theorem rrows_s:∀(n:Nat) (ps:List (List UInt8)) (f:Bool),ps.length<=n->ps.length<=256->(∀p∈ps,p.length<=4096) ->PS cfg G 251 [.fz (ps.map bW) 1 f] (dW (Zxq n ps)):=by
 intro n;induction n with
 |zero=>
  intro ps f hn _ _;obtain rfl:ps=[]:=List.eq_nil_of_length_eq_zero Xd;refine gI 9 O (λR k0=>?_);refine gL 0 O ?_;refine gTa 0 O ?_;refine gC 5 O (Kjq) ?_;exact gQa 5 O
 |succ n ih=>
  intro ps f hn hl hp;rcases ps with _|⟨p,_|⟨q,r⟩⟩
  ·skip
   refine gI 9 O (λR k0=>?_);refine gL 0 O ?_;refine gTa 0 O ?_;refine gC 5 O (Kjq) ?_;exact gQa 5 O
  ·have hpl:=hp p Xh;refine gI 9 O (λR k0=>?_);refine gL 0 O ?_;refine gFa 0 O ?_;refine gL 9 O ?_;refine gTa 0 O ?_;refine gX 6 O ?_;refine gC 1 O (x7q 7 p Xd) ?_;exact gQa 5 O
  ·show PS cfg G 251 _ (dW (tagD 8 [(Zxq n ((p::q::r).take (yDq (p::q::r).length))).1,(Zxq n ((p::q::r).drop (yDq (p::q::r).length))).1]));have h2:2<=(p::q::r).length:=by simp
   generalize (p::q::r)=ps at*
   obtain⟨k1,k2,k3,k4⟩:=YAq h2 hl;have e:(ps.map bW).length=ps.length:=List.length_map _
   have b1:Nat.beq (yDq ps.length) (ps.map bW).length=false:=by
    rw[e];cases q:Nat.beq (yDq ps.length) ps.length with
    |false=>rfl
    |true=>have:=Nat.eq_of_beq_eq_true q;omega
   have c1:=ih (ps.take (yDq ps.length)) false Qc Qc λp h=>hp p (List.mem_of_mem_take h)
   have c2:=ih (ps.drop (yDq ps.length)) f Yx Yx λp h=>hp p (List.mem_of_mem_drop h)
   generalize Zxq n (ps.take (yDq ps.length))=d1 at*
   generalize Zxq n (ps.drop (yDq ps.length))=d2 at*
   refine gI 9 O (λR k0=>?_);refine gZ 0 O e ?_;refine gF 0 O (eqI_not.2 (Xd)) ?_;refine gZ 9 O e ?_;refine gF 0 O (eqI_not.2 (Xd)) ?_;refine gZ 8 O e ?_;refine gC 0 O (rfirst_s ps.length h2 hl) ?_;refine gP 7 O (kLq (ys:=(ps.take (yDq ps.length)).map bW) (l:=0) (h:=yDq ps.length) (g:=false) O O O O O O O (Nat.zero_le _) Xd (by rw[List.drop_zero,Nat.sub_zero,List.map_take]) (by rw[b1,Bool.and_false])) ?_;refine gC 0 O (c1) ?_;refine gP 2 O (kLq (ys:=(ps.drop (yDq ps.length)).map bW) (l:=yDq ps.length) (h:=(ps.map bW).length) (g:=f) O O O O O O O Xd (Nat.le_refl _) Qs (by rw[Nat.beq_refl,Bool.and_true])) ?_;refine gC 0 O (c2) ?_;refine zcq 10 O ?_;refine fl_lk O O O O O (.cons (.pur rfl) (.cons (.sl (full:=false) (xs:=zaq d1.1) rfl Xh (zfq Xm (by simp[zdq,d1.2]) rfl) Xi) (.cons (.sl (full:=false) (xs:=zaq d2.1) rfl Xh (zfq Xm (by simp[zdq,d2.2]) rfl) Xi) .nil))) (rtwo_s 8 d1.1 d2.1 false false (by simp[d1.2]) (by simp[d2.2])) Xk Xk Xw ?_;refine ybq 4 O ?_;exact gQa 0 O
theorem rrow_s(L:List Rec)(f:Bool)(hL:∀r∈L,okR r)(hl:L.length<=1000):PS cfg G 252 [.fz (L.map recW) 34 f] (.fz ((L.map recB).map bW) 1 false):=by
 refine gIv 17 O (λR k0=>?_);refine kMq (α:=Nat) (λi=>i<=L.length) 3 (λi=>((L.map recB).take i).map bW) 58 1 (λi=>[(4,.int .i64 (i:Int))]) [(0,_),(2,_)] _ (λi=>L.length-i) (0) ⟨rfl,rfl,trivial⟩ (Nat.zero_le _) ⟨rfl,trivial⟩ O O O (λi hI=>?_);refine zBq 5 O (gZ 0 O LMq ?_);refine gS 3 O (λh1=>?_) (λh1=>?_)
 ·have hi:i<L.length:=by omega
  obtain⟨r,hx⟩:∃r,L[i]? =some r:=⟨_,List.getElem?_eq_getElem hi⟩
  have hr:=hL r (List.mem_of_getElem? hx);have hnx:((L.map recB).take (i+1)).map bW=((L.map recB).take i).map bW++[bW (recB r)]:=by rw[List.take_add_one,List.getElem?_map,hx,List.map_append];rfl
  have hlt:(((L.map recB).take i).map bW).length<=1000:=by rw[List.length_map,List.length_take,List.length_map];omega
  exact gP 8 O (zDq (i:=i) O O O O O O O (zqq recW hx)) (gC 1 O (rfof_s r hr) (gM 1 O (zKq O O (qeq [_] (k:=ti58) (news:=[bW (recB r)]) O O O O O (zJq O O O O) Xh (by show((((L.map recB).take i).map bW).length+1)*24<=_;omega) (by show(((L.map recB).take i).map bW).length+1<=_;omega) rfl Xh)) (gA 6 O (i+1) (zcq 2 O (qXq 2 (i+1) (hi) Xd (Nat.zero_le _) (hnx) Xu Xd Yg rfl Xx ⟨rfl,trivial⟩ ⟨rfl,rfl,trivial⟩ Xg Xg rfl Xk Xj Xz)))))
 ·have hi:i=L.length:=by omega
  subst hi;rw[show(L.map recB).take L.length=L.map recB from List.take_of_length_le Ys];exact zcq 2 O (yKq Xi (zyq 9 O (quq Xt O (j8q (H0:=[]) Xm (ZRq _) Xh))))
theorem srt_tree{l:List Pr}(hs:Srt l):∃t:T,t.ok 0 y2q=true/\t.all=l:=by
 have key:∀i,i<=l.length->∃t:T,t.ok 0 y2q=true/\t.all=l.take i:=by
  intro i;induction i with
  |zero=>exact λ_=>⟨.nil,rfl,by simp[T.all]⟩
  |succ i ih=>
   intro hi;obtain⟨t,h1,h2⟩:=ih Xd;obtain⟨x,hx⟩:∃x,l[i]? =some x:=⟨_,List.getElem?_eq_getElem Xd⟩
   obtain⟨p1,p2⟩:=kdq x.1 x.2 256 t (d:=0) (b:=y2q) rfl qYq h1 (Nat.zero_le _);exact⟨t.put x.1 x.2 256,p1,by rw[p2,h2];exact take_with hs hx⟩
 obtain⟨t,h1,h2⟩:=key l.length (Nat.le_refl _);exact⟨t,h1,by rw[h2,List.take_length]⟩
open Classical in
/-- the trie of pairs in order -/
noncomputable def trieL(l:List Pr):T:=if h:Srt l then(srt_tree h).choose else .nil
theorem trie_ok{l:List Pr}(h:Srt l):(trieL l).ok 0 y2q=true/\(trieL l).all=l:=by
 unfold trieL;rw[dif_pos h];exact(srt_tree h).choose_spec
theorem trie_is{t:T}(h:t.ok 0 y2q=true):trieL t.all=t:=by
 obtain⟨h1,h2⟩:=trie_ok (ok_srt qYq h);exact T.uniq qYq h1 h h2
theorem rhead_s(p:Hdr)(hp:okH p)(l:List Pr)(hs:Srt l)(hf:Fw 1000000 l)(L:List Rec)(hL:∀r∈L,okR r)(hl:L.length<=256):PS cfg G 184 [hdW p,psW l,.fz (L.map recW) 34 false] (hdW (jyq p (trieL l) L)):=by
 obtain⟨h1,h2⟩:=trie_ok hs;have hr:=rrows_s (G:=G) 256 (L.map recB) false Ys Ys (λq h=>by obtain⟨r,_,rfl⟩:=List.mem_map.1 h;rw[recB_len];omega);have ho:=rof_s (G:=G) (trieL l) 0 y2q false qYq h1 (λq h=>by rw[h2] at h;have:=hf.2 q h;omega) (by rw[h2];exact hf.1);rw[h2] at ho;have q1:=hp.1;have q2:=hp.2.1;exact gI 10 O (λR k0=>gV (w':=.int .i64 (p.height+1)) 0 O (congrArg (W.int .i64) (vyq (show inK .i64 (p.height+1) from Jo))) (gC 1 O (rhname_s p hp) (gC 1 O (ho) (gC 1 O (rrow_s L false hL Xd) (gC 0 O (hr) (gZ 1 O LMq (gQa 5 O)))))))
end
section
attribute [local irreducible] CoW OpW FlW Step Spec
variable {G:Nat->Option W}
section
variable {C:Cfg} {G:Nat->Option W} {m k0:Nat} {rd:Bool} {fr:FrW} {hp:HpW} {nw:Nat} {R:Res} {Q:qyq} {c:Code}
theorem co_loopG2{α:Type}(I:α->Prop)(s:Nat)(L:α->List W)(ty:TypeId)(e:Nat)(V:α->FrW)(kf:FrW)(H0:HpW)(b:Nat)(μ:α->Nat)(a0:α)(hk:subF fr kf)(h0:I a0)(hv:subF fr (V a0))(hm:m<=b)(hnw:b+1<=nw)(hs:getW fr s=some (gW b e (L a0)))(hh0:hp=H0++gH b ty e (L a0))(hr:refF b (V a0))(hr2:refF b kf)(hp2:purL (L a0)=true)(hh:subH hp b H0)(nd:(H0.map (·.1)).Nodup)
  (step:∀a,I a->CoW C G m k0 rd c ((s,gW b e (L a))::(V a++kf)) (H0++gH b ty e (L a)) (b+1) R (xeq C G m k0 I (λa=>(s,gW b e (L a))::(V a++kf)) (λa=>H0++gH b ty e (L a)) (λ_=>b+1) (λ_=>R) μ (μ a) Q)):CoW C G m k0 rd (.loop c) fr hp nw R Q:=
 qGq I (λa=>(s,gW b e (L a))::(V a++kf)) (λa=>H0++gH b ty e (L a)) (λ_=>b+1) (λ_=>R) μ a0 h0 (v5q s hm hnw hs (qWq hv hk) (kIq hr hr2) (λx r hq=>by
  rw[hh0,hq];exact jtq λp hp=>by have:=YOq hh p hp;omega) hp2 hh nd) step
end
attribute [local simp] qCq
theorem few_le{m n:Nat}{l:List Pr}(h:Few n l)(e:n<=m):Few m l:=⟨Nat.le_trans h.1 e,h.2⟩
noncomputable def madeW(l:List Pr)(ds:List Depo)(xs:List Tx)(box:Dig):W:=match doX box (doD l ds).1 xs with
 |some r=>.tup [psW r.1,.fz (((doD l ds).2++r.2).map recW) 34 false,.int .i64 0]
 |none=>.tup [.nils,.nils,.int .i64 (badX box (doD l ds).1 xs:Nat)]
theorem made_no{l:List Pr}{ds:List Depo}{xs:List Tx}{box:Dig}{i:Nat}{x:Tx}{r:List Pr×List Rec}(hx:xs[i]? =some x)(h:doX box (doD l ds).1 (xs.take i)=some r)(hg:¬goX r.1 x):madeW l ds xs box= .tup [.nils,.nils,.int .i64 (refX x:Nat)]:=by
 have hdr:xs=xs.take i++x::xs.drop (i+1):=by rw[<-vrq hx,List.take_append_drop]
 unfold madeW;rw[hdr,doX_none h hg,bad_app h,show badX box r.1 (x::xs.drop (i+1))=refX x from if_neg hg]
theorem fw_doD{n:Nat}:∀(ds:List Depo) {l:List Pr},Srt l->Fw n l->Fw (n+ds.length) (doD l ds).1
 |[],l,_,h=>h
 |d::ds,l,hs,h=>KQq (fw_doD ds (gv_ok hs d).1 (fw_gv hs h d)) (by simp only[List.length_cons];omega)
theorem fw_doX{box:Dig}:∀{xs:List Tx} {n:Nat} {l:List Pr} {r:List Pr×List Rec},Srt l->Fw n l->doX box l xs=some r->Fw (n+4*xs.length) r.1
 |[],n,l,r,_,h,e=>by cases e;exact h
 |x::xs,n,l,r,hs,h,e=>by
  by_cases hg:goX l x
  ·rw[xIq hg] at e;cases q:doX box (yCq l x box).1 xs with
   |none=>rw[q] at e;cases e
   |some r'=>
    rw[q] at e;cases e;have z:=fw_doX (r:=r') (paid_srt x box hs (by rw[<-hg.2.1];have:=hg.2.2;omega)) (fw_paid x box hs h) q;exact KQq z (by simp only[List.length_cons];omega)
  ·rw[show doX box l (x::xs)=none from if_neg hg] at e;cases e
theorem rmade_s(l:List Pr)(hs:Srt l)(hf:Fw 300000 l)(ds:List Depo)(xs:List Tx)(f g:Bool)(hB:BodOk ds xs)(box:Dig)(hm:ds.length<=16/\xs.length<=16):PS cfg G 182 [psW l,bodW ds xs f g,dW box] (madeW l ds xs box):=by
 have hdl:=xJq ds l;have hfD:=fw_doD ds hs hf;have hsD:=(QBq (ds:=ds) hs).1;refine gIv 21 O (λR k0=>?_);refine kMq (α:=Nat) (λi=>i<=ds.length) 9 (λi=>(doD l (ds.take i)).2.map recW) 146 34 (λi=>[(10,.int .i64 (i:Int)),(0,psW (doD l (ds.take i)).1)]) [(4,_),(5,_),(6,_),(7,_),(8,_)] _ (λi=>ds.length-i) (0) ⟨rfl,rfl,rfl,rfl,rfl,trivial⟩ (Nat.zero_le _) ⟨rfl,rfl,trivial⟩ O O O (λi hI=>?_);refine zBq 6 O (gZ 0 O LMq ?_);refine gS 3 O (λh1=>?_) (λh1=>?_)
 ·have hi:i<ds.length:=by omega
  obtain⟨d,hx⟩:∃d,ds[i]? =some d:=⟨_,List.getElem?_eq_getElem hi⟩
  obtain⟨d1,d2⟩:=hB.dep d (List.mem_of_getElem? hx);have hsn:ds.take (i+1)=ds.take i++[d]:=by rw[List.take_add_one,hx];rfl
  have hst:=(QBq (ds:=ds.take i) hs).1;have hfw:=fw_doD (ds.take i) hs hf;have hln:=xJq (ds.take i) l;have ho:=rgvL_s (G:=G) (doD l (ds.take i)).1 d hst (few_le hfw.few Qc) d2;have hno:=doD_snoc l (ds.take i) d;rw[<-hsn] at hno;have hn1:(doD l (ds.take (i+1))).1=(gvL (doD l (ds.take i)).1 d).1:=by rw[hno]
  have hn2:(doD l (ds.take (i+1))).2.map recW=(doD l (ds.take i)).2.map recW++[recW ⟨1,depD d,(gvL (doD l (ds.take i)).1 d).2⟩]:=by rw[hno,List.map_append];rfl
  have hlt:((doD l (ds.take i)).2.map recW).length<=100:=by rw[List.length_map,hln,List.length_take];omega
  refine gP 10 O (zDq (i:=i) O O O O O O O (zqq pdW hx)) (gC 1 O (ho) (gP 18 O (zDq (i:=i) O O O O O O O (zqq pdW hx)) (gC 1 O (rfdepo_s d d1 d2) (gM 3 O (zKq O O (qeq [_,_,_] (k:=J4q) (news:=[recW ⟨1,depD d,(gvL (doD l (ds.take i)).1 d).2⟩]) O O O O O (zJq O O O O) Xh (by show(((doD l (ds.take i)).2.map recW).length+1)*48<=_;omega) (by show((doD l (ds.take i)).2.map recW).length+1<=_;omega) rfl Xh)) (gA 6 O (i+1) (zcq 2 O ?_))))));rw[<-hn1];exact qXq 4 (i+1) (hi) Xd (Nat.zero_le _) (hn2) Xu Xd Yg rfl Xx ⟨rfl,rfl,trivial⟩ ⟨rfl,rfl,rfl,rfl,rfl,trivial⟩ Xg Xg rfl Xk Xj Xz
 ·have hi:i=ds.length:=by omega
  subst hi;rw[show ds.take ds.length=ds from List.take_length];refine zcq 2 O (yKq Xi (zyq 9 O ?_));refine co_loopG2 (α:=Nat×(List Pr×List Rec)) (λa=>a.1<=xs.length/\doX box (doD l ds).1 (xs.take a.1)=some a.2) 9 (λa=>((doD l ds).2++a.2.2).map recW) 146 34 (λa=>[(13,.int .i64 (a.1:Int)),(0,psW a.2.1)]) [(4,_),(5,_),(6,_),(7,_),(8,_)] ([(1,35,dW box),(0,33,bodW ds xs f g)]) 2 (λa=>xs.length-a.1) ((0,(doD l ds).1,[])) ⟨rfl,rfl,rfl,rfl,rfl,trivial⟩ (⟨Nat.zero_le _,rfl⟩) ⟨rfl,rfl,trivial⟩ Xd Yg Je Je Xg Xg Xk Xj Xz (λa hI=>?_);obtain⟨i,r⟩:=a;obtain⟨g1,hst⟩:=hI;simp only at g1 hst⊢;have hsr:=(doX_ok box hsD hst).1;have hfr:=fw_doX hsD hfD hst;have hln:=upq hst;rw[List.length_take] at hfr hln;refine zBq 6 O (gZ 0 O LMq ?_);refine gS 3 O (λh2=>?_) (λh2=>?_)
  ·have hi:i<xs.length:=by omega
   obtain⟨x,hx⟩:∃x,xs[i]? =some x:=⟨_,List.getElem?_eq_getElem hi⟩
   have hxo:=hB.tx x (List.mem_of_getElem? hx);have hsn:xs.take (i+1)=xs.take i++[x]:=by rw[List.take_add_one,hx];rfl
   have hlt:(((doD l ds).2++r.2).map recW).length<=100:=by rw[List.length_map,List.length_append];omega
   refine gP 9 O (zDq (i:=i) O O O O O O O (zqq txW hx)) (gC 9 O (Joq x hxo) ?_);refine gS 3 O (λh3=>?_) (λh3=>?_)
   ·have hsg:¬x.sign=jOq x:=λq=>h3 (by rw[if_pos q])
    have e:=made_no hx hst (λq=>hsg q.1);rw[show refX x=110 from if_neg hsg] at e;rw[e];exact zcq 11 O (yKq Xi (zyq 2 O (quq Jp rfl (.pur rfl))))
   ·have hsg:x.sign=jOq x:=Classical.byContradiction λq=>h3 Qy
    refine gC 7 O (rnext_s r.1 false x hxo (by have:=hfr.1;omega)) ?_;refine gS 3 O (λh4=>?_) (λh4=>?_)
    ·have hnx:¬(x.nonce=(acL r.1 (keyD x.pub)).nonce/\x.nonce<18446744073709551615):=of_decide_eq_false (by simpa only[Bool.not_eq_true'] using h4);have e:=made_no hx hst (λq=>hnx q.2);rw[show refX x=2 from if_pos hsg] at e;rw[e];exact zcq 11 O (yKq Xi (zyq 2 O (quq Jp rfl (.pur rfl))))
    ·have hnx:x.nonce=(acL r.1 (keyD x.pub)).nonce/\x.nonce<18446744073709551615:=by simpa using h4
     have hg:goX r.1 x:=⟨hsg,hnx⟩;have hso:=doX_snoc hst hg;rw[<-hsn] at hso;exact gC 7 O (rpaid_s r.1 hsr (few_le hfr.few Xd) x hxo box (by rw[<-hnx.1];omega)) (gC 16 O (rtxid_s x hxo) (gM 3 O (zKq O O (qeq [_,_,_,_] (k:=J4q) (news:=[recW ⟨2,idD x,(yCq r.1 x box).2⟩]) O O O O O (zJq O O O O) Xh (by show((((doD l ds).2++r.2).map recW).length+1)*48<=_;omega) (by show(((doD l ds).2++r.2).map recW).length+1<=_;omega) rfl Xh)) (gA 6 O (i+1) (zcq 2 O (qXq 5 ((i+1,(yCq r.1 x box).1,r.2++[⟨2,idD x,(yCq r.1 x box).2⟩])) (⟨hi,hso⟩) Ye (Nat.zero_le _) Xh Xu Xd Yg rfl Xx ⟨rfl,rfl,trivial⟩ ⟨rfl,rfl,rfl,rfl,rfl,trivial⟩ Xg Xg rfl Xk Xj Xz)))))
  ·have hi:i=xs.length:=by omega
   subst hi;rw[List.take_length] at hst;have hmw:madeW l ds xs box= .tup [psW r.1,.fz (((doD l ds).2++r.2).map recW) 34 false,.int .i64 0]:=by unfold madeW;rw[hst]
   rw[hmw];exact zcq 2 O (yKq Xi (zyq 12 O (quq Jp rfl (.tup (.cons (.pur Xh) (.cons (j8q (H0:=[_,_]) Xm (qCq _) Xh) (.cons (.pur rfl) .nil)))))))
end
section
attribute [local irreducible] CoW OpW FlW Step Spec
attribute [local simp] qCq
variable {G:Nat->Option W}
noncomputable def rrefW(c:Nat):W:=.tup [.nils,hdW hdZ,.nils,.int .i64 (c:Int)]
@[simp] theorem rrefW_pur(c:Nat):purW (rrefW c)=true:=by simp[rrefW,purW,purL]
theorem rref_w(c:Nat):W.tup [.nils,.agg 98 [.int .i64 0,ywq,ywq,ywq,.int .i64 0],.nils,.int .i64 (c:Int)]=rrefW c:=by
 unfold rrefW hdW hdZ;rw[<-kVq];rfl
theorem rap_many(t:Tree)(p:Hdr)(ds:List Depo)(xs:List Tx)(f g:Bool)(box:Dig)(hb:t.nodes.length<=4611686018427387903)(h:MayBk t p)(hm:16<ds.length\/16<xs.length):PS cfg G 110 [tW t,hdW p,bodW ds xs f g,dW box] (rrefW 4):=by
 obtain⟨hA,hB,hC⟩:=h;refine gI 16 O (λR k0=>gC 0 O (zzq (w':=.bool true) (Y1q t hb) (by rw[decide_eq_true (hA)])) (gC 3 O (zzq (w':=.bool true) (xrq p) (by rw[decide_eq_true (hB)])) (gF 5 O (eqI_not.2 (hC)) (gZ 11 O LMq ?_))));refine gD 0 O (λh1=>?_) (λh1=>?_)
 ·exact gQ 20 O (rref_w 4)
 ·exact gZ 3 O LMq (gT 0 O (ltI_iff.2 (Xd)) (gQ 15 O (rref_w 4)))
structure PW where
 w:W
 pur:purW w=true
attribute [local simp] PW.pur
theorem rap_w(t:Tree)(n:Nat)(t0:T)(hT:IsA t n t0)(p:Hdr)(hB:okH p)(hC:p.height≠1073741824)(ds:List Depo)(xs:List Tx)(f g:Bool)(box:Dig)(hm:ds.length<=16/\xs.length<=16)(hf:t.nodes.length+300*ds.length+1200*xs.length<=260944)(A B:PW)(e:Nat)(hM:PS cfg G 182 [psW t0.all,bodW ds xs f g,dW box] (.tup [A.w,B.w,.int .i64 (e:Int)]))(ans:W)(h0:e=0->∃l L,A.w=psW l/\B.w= .fz (L.map recW) 34 false/\Srt l/\Fw 1000000 l/\(∀r∈L,okR r)/\L.length<=256/\ans= .tup [psW l,hdW (jyq p (trieL l) L),.fz (L.map recW) 34 false,.int .i64 0])(hz:e≠0->ans=rrefW e):PS cfg G 110 [tW t,hdW p,bodW ds xs f g,dW box] ans:=by
 have hA:MayA t:=⟨n,t0,hT⟩;have hb:t.nodes.length<=4611686018427387903:=by omega
 refine gI 16 O (λR k0=>gC 0 O (zzq (w':=.bool true) (Y1q t hb) (by rw[decide_eq_true (hA)])) (gC 3 O (zzq (w':=.bool true) (xrq p) (by rw[decide_eq_true (hB)])) (gF 5 O (eqI_not.2 (hC)) (gZ 11 O LMq (gF 0 O (ltI_not.2 (Xd)) (gZ 3 O LMq (gF 0 O (ltI_not.2 (Xd)) (gZ 11 O LMq (gZ 2 O LMq (gA 0 O (300*ds.length) (gA 0 O (260944-300*ds.length) (gZ 2 O LMq (gA 0 O (1200*xs.length) (gA 0 O (260944-300*ds.length-1200*xs.length) (gF 0 O (ltI_not.2 (Xd)) (gC 8 O (rall_s t n t0 hT.toIsT) (gC 2 O (hM) ?_)))))))))))))))));refine gS 16 O (λh1=>?_) (λh1=>?_)
 ·have hne:e≠0:=λq=>h1 (by rw[q];rfl)
  rw[hz hne];exact gQ 12 O (rref_w e)
 ·have he:e=0:=by omega
  obtain⟨l,L,a1,a2,a3,a4,a5,a6,rfl⟩:=h0 he;rw[a1,a2];exact gC 8 O (rhead_s p hB l a3 a4 L a5 a6) (gQa 8 O)
theorem rap_some(t:Tree)(n:Nat)(t0:T)(hT:IsA t n t0)(p:Hdr)(hB:okH p)(hC:p.height≠1073741824)(ds:List Depo)(xs:List Tx)(f g:Bool)(hBo:BodOk ds xs)(box:Dig)(hm:ds.length<=16/\xs.length<=16)(hf:t.nodes.length+300*ds.length+1200*xs.length<=260944)(l:List Pr)(rs:List Rec)(hst:doX box (doD t0.all ds).1 xs=some (l,rs)):PS cfg G 110 [tW t,hdW p,bodW ds xs f g,dW box] (.tup [psW l,hdW (jyq p (trieL l) ((doD t0.all ds).2++rs)),.fz (((doD t0.all ds).2++rs).map recW) 34 false,.int .i64 0]):=by
 have hs:=hT.toIsT.srt;have hfw:Fw 262144 t0.all:=⟨by have:=hT.toIsT.all_le;omega,λx hx=>(hT.toIsT.val x hx).2⟩;have hsl:=(doX_ok box (QBq (ds:=ds) hs).1 hst).1;have hfl:=fw_doX (QBq (ds:=ds) hs).1 (fw_doD ds hs hfw) hst;have hrl:=upq hst;have hdl:=xJq ds t0.all;have hdr:= @doD_rec ds t0.all;have hrr:= @doX_rec box xs _ _ hst;simp only at hsl hfl hrl hrr;exact rap_w t n t0 hT p hB hC ds xs f g box hm hf ⟨psW l,by simp⟩ ⟨.fz (((doD t0.all ds).2++rs).map recW) 34 false,qCq _⟩ 0 (zzq (rmade_s t0.all hs (KQq hfw Xd) ds xs f g hBo box hm) (by unfold madeW;rw[hst];rfl)) _ (λ_=>⟨l,_,rfl,rfl,hsl,KQq hfl Xd,λr h=>by rcases List.mem_append.1 h with h|h;exact(hdr r h).2;exact(hrr r h).2,by rw[List.length_append];omega,rfl⟩) (λq=>absurd rfl q)
theorem rap_none(t:Tree)(n:Nat)(t0:T)(hT:IsA t n t0)(p:Hdr)(hB:okH p)(hC:p.height≠1073741824)(ds:List Depo)(xs:List Tx)(f g:Bool)(hBo:BodOk ds xs)(box:Dig)(hm:ds.length<=16/\xs.length<=16)(hf:t.nodes.length+300*ds.length+1200*xs.length<=260944)(hst:doX box (doD t0.all ds).1 xs=none):PS cfg G 110 [tW t,hdW p,bodW ds xs f g,dW box] (rrefW (badX box (doD t0.all ds).1 xs)):=by
 have hs:=hT.toIsT.srt;have hfw:Fw 262144 t0.all:=⟨by have:=hT.toIsT.all_le;omega,λx hx=>(hT.toIsT.val x hx).2⟩;have hne:badX box (doD t0.all ds).1 xs≠0:=by rcases JRq hst with h|h<;>omega
 exact rap_w t n t0 hT p hB hC ds xs f g box hm hf ⟨.nils,rfl⟩ ⟨.nils,rfl⟩ _ (zzq (rmade_s t0.all hs (KQq hfw Xd) ds xs f g hBo box hm) (by unfold madeW;rw[hst])) _ (λq=>absurd q hne) (λ_=>rfl)
end
section
attribute [local irreducible] CoW OpW FlW Step Spec
section
variable {c:Ch} {ds:List Depo} {xs:List Tx} {box:Dig} {y:Lk} {t':Tree} {t1:T} {L:List Rec}
theorem Adds.tree(h:Adds c ds xs box y t' t1 L):∃n,IsA t' n t1:=by
 obtain⟨n,t0,n1,rs,h1,h2,_⟩:=h.is;exact⟨n1,h2⟩
theorem Adds.few(h:Adds c ds xs box y t' t1 L):L.length<=32:=by
 obtain⟨n,t0,n1,rs,h1,h2,h3,rfl⟩:=h.is;have e1:=upq h3;simp only at e1;have:=xJq ds t0.all;have:=h.many;rw[List.length_append];omega
theorem Adds.okc(h:Adds c ds xs box y t' t1 L)(hc:OkC c)(hB:BodOk ds xs)(g:Hdr):OkC (addC c t' g ds xs L):=by
 obtain⟨n,hT⟩:=h.tree;have hl:=hT.len;have hs:=h.short;have hf:=h.few;refine⟨λx hx=>?_,by show t'.nodes.length<=_;omega,by show(c.links++[_]).length<=_;rw[List.length_append];show _+1<=_;omega,λx hx=>?_⟩
 ·rcases List.mem_append.1 hx with q|q
  ·exact hc.body x q
  ·rw[List.mem_singleton.1 q];exact hB
 ·rcases List.mem_append.1 hx with q|q
  ·exact hc.recs x q
  ·rw[List.mem_singleton.1 q];show(L.map recI).length<=_;rw[List.length_map];omega
theorem Adds.smallc(h:Adds c ds xs box y t' t1 L)(hs:SmallC c)(g:Hdr):SmallC (addC c t' g ds xs L):=by
 obtain⟨n,hT⟩:=h.tree;have hl:=hT.len;have hsh:=h.short;have hf:=h.few;have hm:=h.many;refine⟨by show t'.nodes.length<=_;omega,IsT.vals (root:=t'.root) hT.toIsT,by show(c.links++[_]).length<=_;rw[List.length_append];show _+1<=_;omega,λx hx=>?_⟩;rcases List.mem_append.1 hx with q|q
 ·exact hs.link x q
 ·rw[List.mem_singleton.1 q];refine⟨by show ds.length<=_;omega,by show xs.length<=_;omega,?_⟩;show(L.map recI).length<=_;rw[List.length_map];omega
end
theorem SmallC.cut{c:Ch}(hs:SmallC c)(i:Nat)(x:Lk):SmallC (cutC c i x):=
 ⟨hs.nodes,hs.vals,by have:=hs.len;show(c.links.take _).length<=_;rw[List.length_take];omega,λy hy=>hs.link y (List.mem_of_mem_take hy)⟩
theorem greatc_small{c:Ch}{n:Nat}(hn:n<=1000)(h:¬Q2q c n):SmallC c:=by
 obtain⟨h1,h2,h3⟩:=greatc_no h;refine⟨by omega,λx hx=>?_,by omega,λx hx=>?_⟩
 ·obtain⟨j,hj⟩:=List.getElem?_of_mem hx;have:=jAq hj;refine Nat.le_of_not_lt λq=>h (.inl (.inr ⟨j,x,by omega,hj,by omega⟩))
 ·obtain⟨k1,k2⟩:=h3 x hx;unfold yVq at k1;omega
end
section
attribute [local irreducible] CoW OpW FlW Step Spec
variable {G:Nat->Option W}
def SameK(x y:Lk):Prop:=x.hdr=y.hdr/\(x.ds=y.ds/\x.xs=y.xs)/\x.rs=y.rs
noncomputable instance(x y:Lk):Decidable (SameK x y):=Classical.propDecidable _
theorem Ynq(x y:Lk)(h:x.ds.length<=1000000/\x.xs.length<=1000000/\x.rs.length<=1000000):PS cfg G 119 [lkG x,lkG y] (.bool (decide (SameK x y))):=by
 obtain⟨h1,h2,h3⟩:=h;refine gI 13 O (λR k0=>?_);refine gDe 0 O (qxq O O O O (eq_hd _ _)) z5q (λh1=>?_) (λh1=>?_)
 ·refine gC 5 O (rsbody_s x.ds x.xs y.ds y.xs false false false false Xd Xd) ?_;refine gB 0 O (λh2=>?_) (λh2=>?_)
  ·exact gC 6 O (rseqr_s x.rs y.rs false false Xd) (gQ 5 O (dec_c ⟨λq=>⟨by assumption,by assumption,q⟩,λq=>q.2.2⟩))
  ·exact gQ 12 O (y6q λq=>absurd q.2.1 Xr)
 ·exact gQ 18 O (y6q λq=>absurd q.1 Xr)
theorem rctop_s(c:Ch){y:Lk}(hy:c.links[c.links.length-1]? =some y)(hl:c.links.length<=1000000):PS cfg G 111 [chG c] (hdW y.hdr):=by
 have:=jAq hy;exact gI 12 O (λR k0=>gZ 0 O LMq (gA 0 O (c.links.length-1) (gP 0 O (zDq (i:=c.links.length-1) O O O O O O O (zqq lkG hy)) (gQa 6 O))))
theorem rcto_s(c:Ch)(hs:SmallC c)(i:Nat){x:Lk}(hx:c.links[i]? =some x):PS cfg G 51 [chG c,.int .i64 (i:Int)] (chG (cutC c i x)):=by
 have e:(c.links.map lkG).length=c.links.length:=List.length_map _;have hi:=jAq hx;have h1:=hs.len;have e2:((c.links.map lkG).take (i+1))=(c.links.take (i+1)).map lkG:=(List.map_take ..).symm;exact gI 9 O (λR k0=>gC 0 O (Y0q c hs) (gA 9 O (i+1) (gP 0 O (kLq (ys:=(c.links.take (i+1)).map lkG) (l:=0) (h:=i+1) (g:=false) O O O O O O O (Nat.zero_le _) (by rw[e];omega) (by rw[List.drop_zero,Nat.sub_zero];exact e2) rfl) (gP 9 O (zDq (i:=i) O O O O O O O (zqq lkG (take_at hx))) (gQa 14 O)))))
theorem lk_same{x y:Lk}:SameK x y/\x.root=y.root↔x=y:=by
 constructor
 ·rintro⟨⟨h1,⟨h2,h3⟩,h4⟩,h5⟩;cases x;cases y
  simp only at h1 h2 h3 h4 h5;subst h1;subst h2;subst h3;subst h4;subst h5;rfl
 ·rintro rfl;exact⟨⟨rfl,⟨rfl,rfl⟩,rfl⟩,rfl⟩
noncomputable instance(a b:Ch):Decidable (a=b):=Classical.propDecidable _
theorem rcsame_s(a b:Ch)(ha:SmallC a)(hb:SmallC b):PS cfg G 55 [chG a,chG b] (.bool (decide (a=b))):=by
 have h1:=ha.nodes;have h2:=ha.len;have h3:=hb.len;by_cases ht:a.tree=b.tree
 ·by_cases hl:a.links.length=b.links.length
  ·skip
   refine gI 14 O (λR k0=>gC 0 O (zzq (w':=.bool true) (Kiq a.tree b.tree Xd) (by rw[decide_eq_true (ht)])) (gZ 4 O LMq (gZ 2 O LMq (gF 0 O (congrArg not (eqI_iff.2 Xd)) ?_))));refine gLo (α:=Nat) 13 (λi=>i<=a.links.length/\a.links.take i=b.links.take i) (λi=>[(5,.int .i64 (i:Int))]) [2,3,4] (λi=>a.links.length-i) (0) rfl (⟨Nat.zero_le _,rfl⟩) (λi hI=>?_);obtain⟨g1,g2⟩:=hI;refine gZ 6 O LMq ?_;refine gS 3 O (λh1=>?_) (λh1=>?_)
   ·obtain⟨x,hx⟩:∃x,a.links[i]? =some x:=⟨_,List.getElem?_eq_getElem Xd⟩
    obtain⟨y,hy⟩:∃y,b.links[i]? =some y:=⟨_,List.getElem?_eq_getElem Xd⟩
    have hxs:=ha.link x (List.mem_of_getElem? hx);skip
    by_cases hk:SameK x y
    ·by_cases hr:x.root=y.root
     ·exact gP 9 O (zDq (i:=i) O O O O O O O (zqq lkG hx)) (gP 4 O (zDq (i:=i) O O O O O O O (zqq lkG hy)) (gC 1 O (zzq (w':=.bool true) (Ynq x y hxs) Jg) (gP 5 O (zDq (i:=i) O O O O O O O (zqq lkG hx)) (gP 5 O (zDq (i:=i) O O O O O O O (zqq lkG hy)) (gF 2 O (congrArg not (eqI_iff.2 (hr))) (gA 9 O (i+1) (gAg 2 O (i+1) (⟨by omega,xYq g2 hx hy (lk_same.1 ⟨hk,hr⟩)⟩) Xd)))))))
     ·exact gP 9 O (zDq (i:=i) O O O O O O O (zqq lkG hx)) (gP 4 O (zDq (i:=i) O O O O O O O (zqq lkG hy)) (gC 1 O (zzq (w':=.bool true) (Ynq x y hxs) Jg) (gP 5 O (zDq (i:=i) O O O O O O O (zqq lkG hx)) (gP 5 O (zDq (i:=i) O O O O O O O (zqq lkG hy)) (gT 2 O (congrArg not (eqI_not.2 (hr))) (gO 12 O (gQ 2 O (y6q λq=>ne_at hx hy (λz=>hr (by rw[z])) Jf))))))))
    ·exact gP 9 O (zDq (i:=i) O O O O O O O (zqq lkG hx)) (gP 4 O (zDq (i:=i) O O O O O O O (zqq lkG hy)) (gC 1 O (zzq (w':=.bool false) (Ynq x y hxs) (by rw[decide_eq_false (hk)])) (gO 27 O (gQ 2 O (y6q λq=>ne_at hx hy (λz=>hk (lk_same.2 z).1) Jf)))))
   ·refine gO 2 O ?_
    exact gQ 8 O (K4q (by
     have:=vCq (a:=a.links) (b:=b.links) Xd Xd g2;cases a;cases b;simp only at this ht;rw[this,ht]))
  ·skip
   exact gI 14 O (λR k0=>gC 0 O (zzq (w':=.bool true) (Kiq a.tree b.tree Xd) (by rw[decide_eq_true (ht)])) (gZ 4 O LMq (gZ 2 O LMq (gT 0 O (congrArg not (eqI_not.2 Xd)) (gQ 11 O (y6q λq=>hl Jf))))))
 ·skip
  exact gI 14 O (λR k0=>gC 0 O (zzq (w':=.bool false) (Kiq a.tree b.tree Xd) (by rw[decide_eq_false (ht)])) (gQ 20 O (y6q λq=>ht Jf)))
theorem root_get2(b:Nat)(N:List W)(r:Int)(y:W):z2q 50 (.agg 3 [.agg 2 [gW b 36 N,.int .i64 r],y]) 1 1 false=some (.int .i64 r):=by cases N<;>rfl
theorem root_put(b:Nat)(N:List W)(r r':Int):qlq 50 (.agg 2 [gW b 36 N,.int .i64 r]) 1 (.int .i64 r')=some (.agg 2 [gW b 36 N,.int .i64 r']):=by cases N<;>rfl
def wiL(n:Nat)(h:Hdr)(ds:List Depo)(xs:List Tx)(rs:List RcI):Lk:=⟨h,(n:Int),ds,xs,rs⟩
def WiA(c:Ch)(t1:T)(h:Hdr)(ds:List Depo)(xs:List Tx)(rs:List RcI):W->Prop:=λw=>∃ms n,ms.length<=514000/\Rep (c.tree.nodes++ms) n t1/\w=chG ⟨⟨c.tree.nodes++ms,(n:Int)⟩,c.links++[wiL n h ds xs rs]⟩
theorem rwith17_s(c:Ch)(hs:SmallC c)(hne:c.links≠[])(hn4:c.tree.nodes.length<=400000)(n0:Nat)(t0:T)(hT:IsT c.tree n0 t0)(t1:T)(ok:t1.ok 0 y2q=true)(hv:∀p∈t1.all,p.2.length<=70368744177664)(hl:t1.all.length<=2000)(f:Bool)(h:Hdr)(ds:List Depo)(xs:List Tx)(hd:ds.length<=1000000)(hx:xs.length<=1000000)(rs:List RcI)(g:Bool)(hr:rs.length<=1000000):
  PE cfg G 112 [chG c,.fz (t1.all.map pW) 33 f,hdW h,bodW ds xs false false,.fz (rs.map rcW) 34 g] (WiA c t1 h ds xs rs):=by
 have hN:purL (c.tree.nodes.map nW)=true:=z7q xVq _;have hLp:=q1q c.links;have hLl:(c.links.map lkG).length=c.links.length:=List.length_map _;have hL1:(c.links.map lkG)≠[]:=by simpa using hne
 have hn:=hs.nodes;have hq3:=hs.len;have hcnt:cntT t1<=514000:=by have:=cnt_le ok Xd;have:t1.all.length*257<=2000*257:=Nat.mul_le_mul_right _ hl;omega
 have hrt:=hT.root;have htw:=rchtwin_o (G:=G) c hs;have e3:(rs.map rcW).length=rs.length:=List.length_map _;have pp:purL (t1.all.map pW)=true:=qLq _;have sp:OfS G t1 0:=ofs_all t1 0 y2q qYq ok Xd hv;have hta:=rall_s (G:=G) c.tree n0 t0 hT;obtain⟨N,hNe⟩:∃N,c.tree.nodes.map nW=N:=⟨_,rfl⟩
 obtain⟨L,hLe⟩:∃L,c.links.map lkG=L:=⟨_,rfl⟩
 have nm:∀p∈gH 9 230 36 N,p.1=9:=j3q
 rw[hNe] at hN;rw[hLe] at hLp hLl hL1
 have e1:renW (numC [] 4) (tgC 5 7 c)= .agg 3 [.agg 2 [gW 9 36 N,.int .i64 c.tree.root],.sl 11 0 0 L.length 102 none]:=by
  show W.agg 3 [W.agg 2 [renW _ (gW 5 36 (c.tree.nodes.map nW)),_],renW _ (gW 7 102 (c.links.map lkG))]=_;rw[Kpq,Kpq,hNe,hLe,show numC [] 4 7=11 from rfl,qhq hL1];rfl
 have e2:renH (numC [] 4) (([(6,27,tgC 5 7 c),(1,27,tgC 5 7 c),(0,27,chG c)]++gH 5 230 36 (c.tree.nodes.map nW))++gH 7 118 102 (c.links.map lkG))=([(10,27,renW (numC [] 4) (tgC 5 7 c)),(5,27,renW (numC [] 4) (tgC 5 7 c)),(4,27,renW (numC [] 4) (chG c))]++gH 9 230 36 N)++[(11,118,.arr (L.length*102) 102 L)]:=by
  rw[Kqq,Kqq,Jqq _ _ _ _ (hNe▸hN),Jqq _ _ _ _ (hLe▸hLp),hNe,hLe,show numC [] 4 7=11 from rfl,qiq hL1];rfl
 unfold PE;refine gIe 11 O (λR k0=>?_);refine zjq rfl (yoq O O O O O (by simp[purL]) htw ?_);rintro w hp1 nw1 ⟨rfl,rfl,rfl⟩;rw[e1,e2,List.append_assoc];refine qqq (λ_=>ent_mv (Y:=[(11,118,.arr (L.length*102) 102 L),(3,27,.agg 3 [.agg 2 [.nils,.int .i64 0],.nils]),(2,33,bodW ds xs false false),(1,86,hdW h),(0,27,chG c)]) (by rw[<-List.append_assoc];exact jsq (λp hp=>by simp only[List.mem_cons,List.mem_append,List.not_mem_nil,or_false] at hp;rcases hp with (rfl|rfl|rfl)|rfl|rfl|rfl|rfl|rfl<;>simp) Xh)) ?_
 refine zgq 10 O (gM 0 O (zMq O O O (root_get2 9 N _ _)) (zcq 11 O ?_));skip
 have htv:View (blkA ([(13,24,W.agg 2 [gW 9 36 N,.int .i64 c.tree.root]),(12,27,.agg 3 [.agg 2 [gW 9 36 N,.int .i64 c.tree.root],.sl 11 0 0 L.length 102 none]),(11,118,.arr (L.length*102) 102 L),(3,27,.agg 3 [.agg 2 [.nils,.int .i64 0],.nils]),(2,33,bodW ds xs false false),(1,86,hdW h),(0,27,chG c)]++gH 9 230 36 N)) (.agg 2 [gW 9 36 N,.int .i64 c.tree.root]) (tW c.tree):=by
  show View _ _ (.agg 2 [.fz (c.tree.nodes.map nW) 36 false,.int .i64 c.tree.root]);rw[hNe];exact .agg (.cons (j8q Xm hN Xh) (.cons (.pur rfl) .nil))
 skip
 by_cases hsame:t1.all=t0.all
 ·refine op_look 27 [(22,.fz (t1.all.map pW) 33 f),(24,tW c.tree)] ⟨⟨_,rfl,.pur (show purW (.fz (t1.all.map pW) 33 f)=true from pp)⟩,⟨_,rfl,htv⟩,trivial⟩ (by simp[pp]) O (op_pq hta (op_pq (zzq (w':=.bool true) (Klq (G:=G) t1.all t0.all f false Xd) (by rw[hsame,decide_eq_true rfl])) (z1q O O ?_)));refine op_nil ⟨_,rfl,rfl,?_⟩;skip
  skip
  skip
  skip
  refine zgq 9 O (gM 0 O (y7q O O O O O (root_put 9 N _ _) rfl) (gC 21 O (x6q ds xs false false hd hx) (zcq 2 O ?_)))
  (refine z9q rfl (uCq (k:=J4q) (e:=34) (news:=rs.map rcW) O O O O O O O O O Xh Jb Xd ?_);refine⟨by first|rfl|kernel_rfl,?_⟩)
  refine ybq 2 O (gM 0 O (zKq O O (yQq (k:=ti118) (news:=[lkG ⟨h,c.tree.root,ds,xs,rs⟩]) (olds:=L) O O O O (zJq O O O O) Xh (by show(L.length+1)*192<=_;omega) (by show L.length+1<=_;omega) rfl (by show L.length*102<0+(L.length+1)*102;omega) rfl (zfq Xm O O))) (zcq 11 O ?_))
  have eC:chG ⟨⟨c.tree.nodes,c.tree.root⟩,c.links++[⟨h,c.tree.root,ds,xs,rs⟩]⟩= .agg 3 [.agg 2 [.fz N 36 false,.int .i64 c.tree.root],.fz (L++[lkG ⟨h,c.tree.root,ds,xs,rs⟩]) 102 false]:=by
   show W.agg 3 [W.agg 2 [.fz ((c.tree.nodes).map nW) 36 false,_],.fz ((c.links++[_]).map lkG) 102 false]=_;rw[List.map_append,hLe,hNe];rfl
  have hLp2:purL (L++[lkG ⟨h,c.tree.root,ds,xs,rs⟩])=true:=by rw[<-hLe,show [lkG ⟨h,c.tree.root,ds,xs,rs⟩]=[(⟨h,c.tree.root,ds,xs,rs⟩:Lk)].map lkG from rfl,<-List.map_append];exact q1q _
  refine yeq (w':=.agg 3 [.agg 2 [.fz N 36 false,.int .i64 c.tree.root],.fz (L++[lkG ⟨h,c.tree.root,ds,xs,rs⟩]) 102 false]) Jp rfl (.agg (.cons (.agg (.cons (j8q (H0:=[_,_,_,_,_,_,_,_]) (b:=9) (e:=36) (ty:=230) Xm hN Xh) (.cons (.pur rfl) .nil))) (.cons (.sl (full:=false) (c:=.arr ((L.length+1)*102) 102 (L++[lkG ⟨h,c.tree.root,ds,xs,rs⟩])) rfl (show purL _=true from hLp2) (zfq Xm Xh rfl) Xi) .nil))) (by rw[<-eC];exact urq _) ?_;have e0:t1=t0:=T.uniq qYq ok hT.ok hsame;refine⟨[],n0,by simp,by rw[List.append_nil,e0];exact hT.rep,?_⟩;rw[<-eC,List.append_nil,wiL,hrt]
 ·refine op_look 27 [(22,.fz (t1.all.map pW) 33 f),(24,tW c.tree)] ⟨⟨_,rfl,.pur (show purW (.fz (t1.all.map pW) 33 f)=true from pp)⟩,⟨_,rfl,htv⟩,trivial⟩ (by simp[pp]) O (op_pq hta (op_pq (zzq (w':=.bool false) (Klq (G:=G) t1.all t0.all f false Xd) (by rw[decide_eq_false hsame])) (z1q O O ?_)));refine op_nil ⟨_,rfl,rfl,?_⟩;skip
  skip
  skip
  skip
  subst hNe;refine zgq 7 O ?_;refine op_of (ns:=c.tree.nodes) (f:=f) 9 [_,_,_,_,_,_,_] O O O O O O (λp hp=>by simp only[List.mem_cons,List.not_mem_nil,or_false] at hp;rcases hp with rfl|rfl|rfl|rfl|rfl|rfl|rfl<;>simp) Xh Xd sp Xd ?_;intro ms n1 k1 hm1 hr1 hk1
  refine zgq 11 O (gM 0 O (y7q O O O O O (root_put k1 ((c.tree.nodes++ms).map nW) _ _) rfl) (gC 21 O (x6q ds xs false false hd hx) (zcq 2 O ?_)))
  (refine z9q rfl (uCq (k:=J4q) (e:=34) (news:=rs.map rcW) O O O O O O O O O Xh Jb Xd ?_);refine⟨by first|rfl|kernel_rfl,?_⟩)
  refine ybq 2 O (gM 0 O (zKq O O (yQq (k:=ti118) (news:=[lkG ⟨h,((n1:Nat):Int),ds,xs,rs⟩]) (olds:=L) O O O O (zJq O O O O) Xh (by show(L.length+1)*192<=_;omega) (by show L.length+1<=_;omega) rfl (by show L.length*102<0+(L.length+1)*102;omega) rfl (zfq Xm O O))) (zcq 11 O ?_));have pms:purL ((c.tree.nodes++ms).map nW)=true:=z7q xVq _
  have eC:chG ⟨⟨c.tree.nodes++ms,((n1:Nat):Int)⟩,c.links++[⟨h,((n1:Nat):Int),ds,xs,rs⟩]⟩= .agg 3 [.agg 2 [.fz ((c.tree.nodes++ms).map nW) 36 false,.int .i64 ((n1:Nat):Int)],.fz (L++[lkG ⟨h,((n1:Nat):Int),ds,xs,rs⟩]) 102 false]:=by
   show W.agg 3 [W.agg 2 [.fz ((c.tree.nodes++ms).map nW) 36 false,_],.fz ((c.links++[_]).map lkG) 102 false]=_;rw[List.map_append (l₁:=c.links),hLe];rfl
  have hLp2:purL (L++[lkG ⟨h,((n1:Nat):Int),ds,xs,rs⟩])=true:=by rw[<-hLe,show [lkG ⟨h,((n1:Nat):Int),ds,xs,rs⟩]=[(⟨h,((n1:Nat):Int),ds,xs,rs⟩:Lk)].map lkG from rfl,<-List.map_append];exact q1q _
  refine yeq (w':=.agg 3 [.agg 2 [.fz ((c.tree.nodes++ms).map nW) 36 false,.int .i64 ((n1:Nat):Int)],.fz (L++[lkG ⟨h,((n1:Nat):Int),ds,xs,rs⟩]) 102 false]) Jp rfl (.agg (.cons (.agg (.cons (j8q (H0:=[_,_,_,_,_,_,_,_]) (b:=k1) (e:=36) (ty:=230) Xm pms (λp hp=>by simp only[List.mem_cons,List.not_mem_nil,or_false] at hp;rcases hk1 with rfl|rfl<;>rcases hp with rfl|rfl|rfl|rfl|rfl|rfl|rfl|rfl<;>simp)) (.cons (.pur rfl) .nil))) (.cons (.sl (full:=false) (c:=.arr ((L.length+1)*102) 102 (L++[lkG ⟨h,((n1:Nat):Int),ds,xs,rs⟩])) rfl (show purL _=true from hLp2) (zfq Xm Xh rfl) Xi) .nil))) (by rw[<-eC];exact urq _) ?_;exact⟨ms,n1,by omega,hr1,eC.symm⟩
end
section
variable {G:Nat->Option W}
theorem pe_res{C:Cfg}{f:FuncId}{ws:List W}{A B:W->Prop}(h:PE C G f ws A)(hi:∀w,purW w=true->A w->∃w',View (λ_=>none) w w'/\purW w'=true/\B w'):PE C G f ws B:=λR Γ X vs h1 s hv=>by
 obtain⟨n,v,Γ',X',w',hp',R',g1,g2,g3,g4,g5,g6,g7⟩:=h R Γ X vs h1 s hv;obtain⟨w2,a1,a2,a3⟩:=hi w' g6 g7;exact⟨n,v,Γ',X',w2,hp',R',g1,g2,g3,jZq ⟨λ_ h _=>h,λ_ _ _=>rfl,λ_ h=>h,λ_ _=>rfl,λ_ _ _ h=>Qg⟩ a1 g4,g5,a2,a3⟩
attribute [local irreducible] CoW OpW FlW Step Spec
def noC:Ch:=⟨⟨[],0⟩,[]⟩
theorem Yuq(μ:Nat->Option W)(e:Int):View μ (.tup [noCh,.int .i64 e]) (.tup [chG noC,.int .i64 e]):=.tup (.cons (.agg (.cons (.agg (.cons .nilfz (.cons (.pur rfl) .nil))) (.cons .nilfz .nil))) (.cons (.pur rfl) .nil))
def HeldR(c:Ch)(r:Int)(t:T):Prop:=∃n:Nat,r=n/\Rep c.tree.nodes n t/\c.tree.nodes.length<=4611686018427387903/\t.all.length<=1000000/\∀p∈t.all,p.2.length<=70368744177664
theorem heldr_is{c:Ch}{r:Int}{n:Nat}{t:T}(h:IsT (verT c r) n t):HeldR c r t:=
 ⟨n,h.root,h.rep,Nat.le_trans h.len Xd,Nat.le_trans h.le Xd,h.vle⟩
theorem HeldR.more{c d:Ch}{r:Int}{t:T}(h:HeldR c r t){ms:List Node}(e:d.tree.nodes=c.tree.nodes++ms)(hb:d.tree.nodes.length<=4611686018427387903):HeldR d r t:=by
 obtain⟨n,h1,h2,_,h4,h5⟩:=h;exact⟨n,h1,by rw[e];exact h2.app ms,hb,h4,h5⟩
theorem rheld_r(c:Ch)(i:Nat)(x:Lk)(hx:c.links[i]? =some x)(t:T)(h:HeldR c x.root t):PS cfg G 121 [chG c,.int .i64 (i:Int)] (psW t.all):=by
 obtain⟨n,h1,h2,h3,h4,h5⟩:=h;exact gI 10 O (λR k0=>gC 0 O (rat17_s c i x hx) (gC 0 O (rall_rep (verT c x.root) n t h1 h2 h3 h4 h5) (gQa 4 O)))
def AlikeC(a b:Ch):Prop:=a.links.length=b.links.length/\∀(i:Nat) (x y:Lk),a.links[i]? =some x->b.links[i]? =some y->SameK x y/\∃t,HeldR a x.root t/\HeldR b y.root t
theorem ralike_s(a b:Ch)(hl:a.links.length<=1000000)(hs:∀x∈a.links,x.ds.length<=1000000/\x.xs.length<=1000000/\x.rs.length<=1000000)(h:AlikeC a b):PS cfg G 54 [chG a,chG b] (.bool true):=by
 obtain⟨he,h⟩:=h;refine gI 12 O (λR k0=>gZ 0 O LMq (gZ 2 O LMq (gF 0 O (congrArg not (eqI_iff.2 Xd)) ?_)));refine gLo (α:=Nat) 12 (λi=>i<=a.links.length) (λi=>[(5,.int .i64 (i:Int))]) [2,3,4] (λi=>a.links.length-i) (0) rfl (Nat.zero_le _) (λi hI=>?_);refine gZ 6 O LMq ?_;refine gS 3 O (λh1=>?_) (λh1=>?_)
 ·have hi:i<a.links.length:=by omega
  obtain⟨x,hx⟩:∃x,a.links[i]? =some x:=⟨_,List.getElem?_eq_getElem hi⟩
  obtain⟨y,hy⟩:∃y,b.links[i]? =some y:=⟨_,List.getElem?_eq_getElem (he▸hi)⟩
  obtain⟨hk,t,ta,tb⟩:=h i x y hx hy;have htl:t.all.length<=1000000:=by obtain⟨_,_,_,_,q,_⟩:=ta;exact q
  exact gP 9 O (zDq (i:=i) O O O O O O O (zqq lkG hx)) (gP 4 O (zDq (i:=i) O O O O O O O (zqq lkG hy)) (gC 1 O (zzq (w':=.bool true) (Ynq x y (hs x (List.mem_of_getElem? hx))) Jg) (gC 4 O (rheld_r a i x hx t ta) (gC 2 O (rheld_r b i y hy t tb) (gC 0 O (zzq (w':=.bool true) (Klq t.all t.all false false Xd) Yp) (gA 10 O (i+1) (gAg 2 O (i+1) (hi) Xd)))))))
 ·exact gO 2 O (gQa 8 O)
end
section
attribute [local irreducible] CoW OpW FlW Step Spec
attribute [local simp] qCq
variable {G:Nat->Option W}
noncomputable def addF(c:Ch)(ds:List Depo)(xs:List Tx)(box:Dig):Int:=if CanAdd c ds xs box then 0 else(addE c ds xs box:Nat)
def AddC(P c:Ch)(ds:List Depo)(xs:List Tx)(box:Dig):Prop:=∃(y:Lk) (t1:T) (rs:List Rec) (r:Int) (ms:List Node),c.links[c.links.length-1]? =some y/\doX box (doD (heldL c.tree) ds).1 xs=some (t1.all,rs)/\t1.ok 0 y2q=true/\P.links=c.links++[⟨jyq y.hdr t1 ((doD (heldL c.tree) ds).2++rs),r,ds,xs,((doD (heldL c.tree) ds).2++rs).map recI⟩]/\HeldR P r t1/\P.tree.nodes=c.tree.nodes++ms
def AddQ(P:Ch->Prop)(c:Ch)(ds:List Depo)(xs:List Tx)(box:Dig):W->Prop:=λw=>∃A:Ch,(addF c ds xs box≠0->A.links=[])/\(addF c ds xs box=0->MayC c/\AddC A c ds xs box/\P A)/\w= .tup [chG A,.int .i64 (addF c ds xs box)]
theorem Xdq(P:Ch->Prop){c:Ch}{ds:List Depo}{xs:List Tx}{box:Dig}(h:¬CanAdd c ds xs box){k:Nat}(e:addE c ds xs box=k):AddQ P c ds xs box (.tup [chG noC,.int .i64 (k:Int)]):=by
 have e2:addF c ds xs box=(k:Int):=by unfold addF;rw[if_neg h,e]
 have:=addE_no h;exact⟨noC,λ_=>rfl,λq=>by omega,by rw[e2]⟩
theorem addq_ok(P:Ch->Prop){c:Ch}{ds:List Depo}{xs:List Tx}{box:Dig}(h:CanAdd c ds xs box){A:Ch}(hA:AddC A c ds xs box)(hP:P A):AddQ P c ds xs box (.tup [chG A,.int .i64 0]):=by
 have e2:addF c ds xs box=0:=if_pos h;exact⟨A,λq=>absurd e2 q,λ_=>⟨h.may,hA,hP⟩,by rw[e2]⟩
theorem radd17_s(c:Ch)(hc:OkC c)(hs:SmallC c)(hn:c.tree.nodes.length<=900)(ds:List Depo)(xs:List Tx)(hB:BodOk ds xs)(box:Dig):PE cfg G 41 [chG c,bodW ds xs false false,dW box] (AddQ (λ_=>True) c ds xs box):=by
 by_cases hm:MayC c
 ·obtain⟨y,hy,hroot,hmy⟩:=hm.last;have hno:=hm.one;have hsl:=hs.len;by_cases hf:c.links.length<256
  ·obtain⟨n,t0,hA,_⟩:=hm.head hy;have hh:=Yxq hA;have hhy:=hmy.height;have hbk:MayBk c.tree y.hdr:=⟨⟨n,t0,hA⟩,hmy.hdr,by omega⟩;by_cases hmany:ds.length<=16/\xs.length<=16
   ·cases hst:doX box (doD t0.all ds).1 xs with
    |none=>
     have hb:=JRq hst;exact gIe 13 O (λR k0=>gC 0 O (zzq (w':=.bool true) (u5q c hc) Yw) (gZ 11 O LMq (gF 0 O (congrArg not (ltI_iff.2 Xd)) (gC 10 O (rctop_s c hy hsl) (gC 2 O (rap_none c.tree n t0 hA y.hdr hmy.hdr Xd ds xs false false hB box hmany Xd hst) (gT 16 O (congrArg not (eqI_not.2 Xd)) (zcq 13 O (yeq (w':=.tup [chG noC,.int .i64 (badX box (doD t0.all ds).1 xs:Nat)]) Jp rfl (Yuq _ _) rfl (Xdq _ (λq=>q.goes (by rw[hh,hst])) (by unfold addE;rw[if_neg (λq=>q hm),if_neg Xd,if_neg Xd,hh]))))))))))
    |some r=>
     obtain⟨l,rs⟩:=r;have hs0:=hA.toIsT.srt;have hsl2:=(doX_ok box (QBq (ds:=ds) hs0).1 hst).1;have hfl:=fw_doX (QBq (ds:=ds) hs0).1 (fw_doD ds hs0 (show Fw 900 t0.all from⟨by have:=hA.toIsT.all_le;omega,λx hx=>(hA.toIsT.val x hx).2⟩)) hst;have hrl:=upq hst;have hdl:=xJq ds t0.all;simp only at hsl2 hfl hrl;obtain⟨t1,ok1,rfl⟩:∃t1:T,t1.ok 0 y2q=true/\t1.all=l:=⟨_,trie_ok hsl2⟩
     have hap:=rap_some (G:=G) c.tree n t0 hA y.hdr hmy.hdr Xd ds xs false false hB box hmany Xd t1.all rs hst;rw[trie_is ok1] at hap;obtain⟨L,hL⟩:∃L,(doD t0.all ds).2++rs=L:=⟨_,rfl⟩
     have hLl:L.length<=32:=by rw[<-hL,List.length_append];omega
     rw[hL] at hap;have hw:=rwith17_s (G:=G) c hs (by intro q;rw[q] at hno;cases hno) Xd n t0 hA.toIsT t1 ok1 (λp hp=>by have:=hfl.2 p hp;omega) (by have:=hfl.1;omega) false (jyq y.hdr t1 L) ds xs Xd Xd (L.map recI) false Ys;rw[recI_w] at hw;have hca:CanAdd c ds xs box:=⟨hm,hf,hmany,by rw[hh,hst];intro q;cases q⟩;refine gIe 13 O (λR k0=>gC 0 O (zzq (w':=.bool true) (u5q c hc) Yw) (gZ 11 O LMq (gF 0 O (congrArg not (ltI_iff.2 Xd)) (gC 10 O (rctop_s c hy hsl) (gC 2 O (hap) (gF 16 O (congrArg not (eqI_iff.2 (rfl))) (gE 12 O (hw) ?_)))))));rintro w hw ⟨ms,n1,hms,hrep,rfl⟩;refine zcq 5 O ?_;have hnn:(c.tree.nodes++ms).length<=4611686018427387903:=by rw[List.length_append];omega
     exact yeq (w':=.tup [chG ⟨⟨c.tree.nodes++ms,(n1:Int)⟩,c.links++[wiL n1 (jyq y.hdr t1 L) ds xs (L.map recI)]⟩,.int .i64 0]) Jp rfl (.pur (by simp[purW,purL])) (by simp[purW,purL]) (addq_ok _ hca ⟨y,t1,rs,n1,ms,hy,by rw[hh];exact hst,ok1,by rw[hh,hL];rfl,⟨n1,rfl,hrep,hnn,by have:=hfl.1;omega,λp hp=>by have:=hfl.2 p hp;omega⟩,rfl⟩ trivial)
   ·skip
    exact gIe 13 O (λR k0=>gC 0 O (zzq (w':=.bool true) (u5q c hc) Yw) (gZ 11 O LMq (gF 0 O (congrArg not (ltI_iff.2 Xd)) (gC 10 O (rctop_s c hy hsl) (gC 2 O (rap_many c.tree y.hdr ds xs false false box Xd hbk Xd) (gT 16 O (congrArg not (eqI_not.2 Xm)) (zcq 13 O (yeq (w':=.tup [chG noC,.int .i64 (4:Nat)]) Jp rfl (Yuq _ _) rfl (Xdq _ (λq=>hmany q.many) (by unfold addE;rw[if_neg (λq=>q hm),if_neg Xd,if_pos Xd]))))))))))
  ·skip
   exact gIe 13 O (λR k0=>gC 0 O (zzq (w':=.bool true) (u5q c hc) Yw) (gZ 11 O LMq (gT 0 O (congrArg not (ltI_not.2 Xd)) (zcq 12 O (yeq (w':=.tup [chG noC,.int .i64 (9:Nat)]) Jp rfl (Yuq _ _) rfl (Xdq _ (λq=>hf q.short) (by unfold addE;rw[if_neg (λq=>q hm),if_pos Xd])))))))
 ·skip
  exact gIe 13 O (λR k0=>gC 0 O (zzq (w':=.bool false) (u5q c hc) (by rw[decide_eq_false (hm)])) (zcq 13 O (yeq (w':=.tup [chG noC,.int .i64 (8:Nat)]) Jp rfl (Yuq _ _) rfl (Xdq _ (λq=>hm q.may) (by unfold addE;rw[if_pos hm])))))
theorem add_alike{a b c:Ch}{ds:List Depo}{xs:List Tx}{box:Dig}(hM:MayC c)(ha:AddC a c ds xs box)(hb:AddC b c ds xs box):AlikeC a b:=by
 obtain⟨y,t,rs,r,ms,hy,hd,ok,hl,h,hn⟩:=ha;obtain⟨y',t',rs',r',ms',hy',hd',ok',hl',h',hn'⟩:=hb;obtain rfl:=Option.some.inj (hy.symm.trans hy');have q:=Option.some.inj (hd.symm.trans hd');obtain rfl:=T.uniq qYq ok ok' (congrArg Prod.fst q);obtain rfl:rs=rs':=congrArg Prod.snd q;obtain⟨_,_,_,hk,_⟩:=id h;obtain⟨_,_,_,hk',_⟩:=id h';refine⟨by rw[hl,hl'];simp,λi x z hx hz=>?_⟩;rw[hl] at hx;rw[hl'] at hz;rcases Yzq hx with hx|⟨hi,rfl⟩
 ·obtain rfl:x=z:=by rw[List.getElem?_append_left (jAq hx)] at hz;exact Option.some.inj (hx.symm.trans hz)
  obtain⟨n,t0,hA⟩:=(hM.link i x hx).tree;have h0:=heldr_is (c:=c) (r:=x.root) hA.toIsT;exact⟨⟨rfl,⟨rfl,rfl⟩,rfl⟩,t0,h0.more hn hk,h0.more hn' hk'⟩
 ·rcases Yzq hz with hz|⟨_,rfl⟩
  ·exact absurd (jAq hz) Xd
  ·exact⟨⟨rfl,⟨rfl,rfl⟩,rfl⟩,t,h,h'⟩
def Great5(l:List Pr)(m:Nat):Prop:=m<l.length\/∃x∈l,100<x.2.length
noncomputable instance(l:List Pr)(m:Nat):Decidable (Great5 l m):=Classical.propDecidable _
end
section
attribute [local irreducible] CoW OpW FlW Step Spec
def MayV(v:Vw):Prop:=MayC v.ch/\(0<=v.final/\v.final<(v.ch.links.length:Int)/\0<=v.number/\v.number<=1073741823)
noncomputable instance(v:Vw):Decidable (MayV v):=Classical.propDecidable _
theorem uzq(v:Vw)(hc:OkC v.ch):PS cfg glK 59 [vwG v] (.int .i64 (if MayV v then 0 else 8)):=by
 by_cases hm:MayC v.ch
 ·skip
  refine gI 11 O (λR k0=>gC 0 O (zzq (w':=.int .i64 0) (uNq v.ch hc) Qt) (gFa 0 O ?_));refine gD 3 O (λh1=>?_) (λh1=>?_)
  ·exact gQ 30 O Ya
  ·refine gZ 7 O LMq ?_;refine gD 0 O (λh2=>?_) (λh2=>?_)
   ·exact gQ 21 O Ya
   ·refine gD 4 O (λh3=>?_) (λh3=>?_)
    ·exact gQ 16 O Ya
    ·refine gU 4 O ?_;refine gS 3 O (λh4=>?_) (λh4=>?_)
     ·exact gQ 7 O Ya
     ·exact gQ 8 O Ya
 ·skip
  exact gI 11 O (λR k0=>gC 0 O (zzq (w':=.int .i64 8) (uNq v.ch hc) (by rw[if_neg hm])) (gTa 0 O (gQ 34 O (by rw[if_neg λq=>hm q.1]))))
theorem vtwin_s(v:Vw)(hs:SmallC v.ch)(hne:v.ch.links≠[]):PS cfg glK 95 [vwG v] (vwG v):=by
 exact gI 10 O (λR k0=>gC 0 O (ctwin_s v.ch hs hne) (gQa 11 O))
noncomputable def noVw:W:=.agg 6 [.int .i64 0,.bool false,.int .i64 0,noCh]
def TurnQ(P:Nat->Vw->Prop):W->HpW->Nat->Prop:=λw hp nw=>nw=1/\∃(k:Nat) (u:Vw) (n:Int) (b:Bool) (f:Int) (x:W),w= .int .i64 (k:Int)/\hp=[(0,29,.agg 6 [.int .i64 n,.bool b,.int .i64 f,x])]/\purW x=true/\(k=0->n=u.number/\b=u.down/\f=u.final/\x=chG u.ch/\n<=1073741823/\0<=n)/\P k u
def upV(u:Vw):Vw:={u with number:=u.number+1}
def OfA(v:Vw)(P:Nat->Vw->Prop):W->Prop:=λw=>(∃u,MayV v/\v.number≠1073741823/\P 0 u/\w= .tup [vwG (upV u),.int .i64 0])\/(∃k u,MayV v/\v.number≠1073741823/\k≠0/\P k u/\w= .tup [noVw,.int .i64 (k:Nat)])\/(¬MayV v/\w= .tup [noVw,.int .i64 8])\/(MayV v/\v.number=1073741823/\w= .tup [noVw,.int .i64 9])
theorem OfA.shape{v:Vw}{P:Nat->Vw->Prop}{w:W}(h:OfA v P w):∃a b c d n,w= .tup [.agg 6 [a,b,c,d],.int .i64 n]:=by
 rcases h with ⟨u,_,_,_,rfl⟩|⟨k,u,_,_,_,_,rfl⟩|⟨_,rfl⟩|⟨_,_,rfl⟩<;>exact⟨_,_,_,_,_,rfl⟩
theorem vof_s(F:FuncId)(cs:List W)(hcs:purL cs=true)(hF0:cfg.ext F=none)(v:Vw)(hc:OkC v.ch)(hs:SmallC v.ch)(P:Nat->Vw->Prop)(hF:MayV v->v.number≠1073741823->yuq cfg glK F 1 (.ptr 0 0::cs) [(0,29,vwG v)] (TurnQ P)):PE cfg glK 39 [.agg 1 [.fn F [] cs],vwG v] (OfA v P):=by
 by_cases hm:MayV v
 ·have hone:=hm.1.one;by_cases hn:v.number=1073741823
  ·skip
   refine gIe 13 O (λR k0=>?_);refine gC 0 O (zzq (w':=.int .i64 0) (uzq v hc) Qt) ?_;refine gFa 0 O ?_;refine gT 8 O (eqI_iff.2 (hn)) ?_;refine zcq 14 O ?_;exact yeq (w':=.tup [noVw,.int .i64 9]) Jp rfl (.pur rfl) rfl (.inr (.inr (.inr ⟨hm,hn,rfl⟩)))
  ·skip
   refine gIe 13 O (λR k0=>?_);refine gC 0 O (zzq (w':=.int .i64 0) (uzq v hc) Qt) ?_;refine gFa 0 O ?_;refine gF 8 O (eqI_not.2 (hn)) ?_;refine gC 10 O (vtwin_s v hs (λq=>by rw[q] at hone;cases hone)) ?_;refine zcq 9 O ?_;skip
   skip
   refine gSo 0 O (z3q (ext:=[3]) (ws:=.ptr 0 0::cs) O O hF0 rfl (by show W.ptr 3 0::cs=W.ptr 3 0::y3q _ cs;rw[jPq hcs]) (hF hm hn) Xm Xo Xh (vhq (by rw[zeq (yaq v)];rfl) (zbq (yaq v))) (zbq (w:=.tup cs) hcs) ?_);rintro w hp1 nw1 ⟨rfl,k,u,n,b,f,x,rfl,rfl,hx,hok,hp⟩
   have hpx:purW (.agg 6 [.int .i64 n,.bool b,.int .i64 f,x])=true:=by
    show(true&&(true&&(true&&(purW x&&true))))=true;rw[hx];rfl
   rw[x8q hpx];cases k with
   |zero=>
    obtain⟨rfl,rfl,rfl,rfl,h1,h2⟩:=hok rfl;skip
    refine zgq 6 O ?_;refine gFa 0 O ?_;refine gWr 9 O ?_;refine zcq 12 O ?_;exact yeq (w':=.tup [vwG (upV u),.int .i64 0]) Jp rfl (.pur (by show(purW (vwG (upV u))&&_)=true;rw[yaq];rfl)) (by show(purW (vwG (upV u))&&_)=true;rw[yaq];rfl) (.inl ⟨u,hm,hn,hp,rfl⟩)
   |succ k=>
    skip
    refine zgq 6 O ?_;refine gT 0 O (congrArg not (eqI_not.2 Xd)) ?_;refine zcq 13 O ?_;exact yeq (w':=.tup [noVw,.int .i64 ((k+1:Nat):Int)]) Jp rfl (.pur rfl) rfl (.inr (.inl ⟨k+1,u,hm,hn,by omega,hp,rfl⟩))
 ·skip
  refine gIe 13 O (λR k0=>?_);refine gC 0 O (zzq (w':=.int .i64 8) (uzq v hc) (by rw[if_neg hm])) ?_;refine gTa 0 O ?_;refine zcq 14 O ?_;exact yeq (w':=.tup [noVw,.int .i64 8]) Jp rfl (.pur rfl) rfl (.inr (.inr (.inl ⟨hm,rfl⟩)))
def InV(v:Vw)(h:Int):Prop:=v.final<=h/\h<(v.ch.links.length:Int)
noncomputable instance(v:Vw)(h:Int):Decidable (InV v h):=Classical.propDecidable _
theorem vwithin_s(v:Vw)(h:Int):yuq cfg glK 43 1 [.ptr 0 0,.int .i64 h] [(0,29,vwG v)] λw hp nw=>w= .bool (decide (InV v h))/\hp=[(0,29,vwG v)]/\nw=1:=by
 intro R;by_cases h1:v.final<=h
 ·by_cases h2:h<(v.ch.links.length:Int)
  ·refine gIs 12 O (λk0=>?_);exact gT 0 O (congrArg not (ltI_not.2 Xd)) (gZ 7 O LMq (gT 0 O (ltI_iff.2 (h2)) (zcq 5 O (fin Jp Ent.refl rfl ⟨rfl,by rw[decide_eq_true (show InV v h from⟨h1,h2⟩)],rfl,rfl⟩))))
  ·refine gIs 12 O (λk0=>?_);exact gT 0 O (congrArg not (ltI_not.2 Xd)) (gZ 7 O LMq (gF 0 O (ltI_not.2 (h2)) (zcq 5 O (fin Jp Ent.refl rfl ⟨rfl,by rw[decide_eq_false (λq:InV v h=>h2 q.2)],rfl,rfl⟩))))
 ·skip
  refine gIs 12 O (λk0=>?_);exact gF 0 O (congrArg not (ltI_iff.2 Xd)) (zcq 14 O (fin Jp Ent.refl rfl ⟨rfl,by rw[decide_eq_false (λq:InV v h=>h1 q.1)],rfl,rfl⟩))
def PConf(v:Vw)(h:Int)(k:Nat)(u:Vw):Prop:=(k=0/\InV v h/\u={v with final:=h})\/(k=170/\¬InV v h)
theorem vw_hand(v:Vw){hp:HpW}{b nw:Nat}(h:hget hp b=some (29,vwG v)):JWq [b] nw [(0,29,vwG v)] hp:=vhq (by rw[zeq (yaq v)];exact h) (zbq (yaq v))
theorem vconf1_s(v:Vw)(h:Int)(hn:0<=v.number/\v.number<=1073741823):yuq cfg glK 42 1 [.ptr 0 0,.fel (.int .i64 h)] [(0,29,vwG v)] (TurnQ (PConf v h)):=by
 intro R;refine gIs 10 O (λk0=>?_);skip
 skip
 refine gSo 0 O (z3q (ext:=[0]) (ws:=[.ptr 0 0,.int .i64 h]) O O O O O (vwithin_s v h) Xm Xo Xh (vw_hand v rfl) O ?_);rintro w hp1 nw1 ⟨rfl,rfl,rfl⟩;rw[x8q (yaq v)];by_cases hI:InV v h
 ·rw[decide_eq_true hI];skip
  skip
  exact zcq 21 O (fin Jp Ent.refl rfl ⟨rfl,rfl,0,{v with final:=h},v.number,v.down,h,chG v.ch,rfl,rfl,urq _,λ_=>⟨rfl,rfl,rfl,rfl,by omega,by omega⟩,.inl ⟨rfl,hI,rfl⟩⟩)
 ·rw[decide_eq_false hI];skip
  skip
  exact zcq 11 O (fin Jp Ent.refl rfl ⟨rfl,rfl,170,v,v.number,v.down,v.final,chG v.ch,rfl,rfl,urq _,λq=>absurd q Xm,.inr ⟨rfl,hI⟩⟩)
theorem vconf_s(v:Vw)(hc:OkC v.ch)(hs:SmallC v.ch)(h:Int):PE cfg glK 11 [vwG v,.int .i64 h] (OfA v (PConf v h)):=by
 refine gIe 13 O (λR k0=>?_);skip
 refine qqq (λ_=>kUq 1 [(4,.ptr 2 0),(7,.agg 1 [.fn 42 [] [.fel (.int .i64 h)]]),(8,vwG v)] [(2,29,noVw),(0,29,vwG v)] O O (Nat.zero_le _) ⟨⟨_,rfl,.ptrK rfl⟩,⟨_,rfl,.agg (.cons (.fn .nil (.cons (.ptr (n:=1) (ag:=false) O O O) .nil)) .nil)⟩,⟨_,rfl,.pur (yaq v)⟩,trivial⟩ ⟨⟨by omega,_,rfl,.pur rfl⟩,⟨by omega,_,rfl,.pur (yaq v)⟩,trivial⟩ Xh) ?_;refine zjq rfl (u0q O O O O O (vof_s 42 [.fel (.int .i64 h)] O O v hc hs (PConf v h) (λhm _=>vconf1_s v h ⟨hm.2.2.2.1,hm.2.2.2.2⟩)) (by show(true&&(purW (vwG v)&&true))=true;rw[yaq];rfl) ?_);rintro w hw hA;obtain⟨a,b,c,d,n,rfl⟩:=hA.shape;skip
 exact zgq 7 O (yeq Jp rfl (.pur hw) hw hA)
def PStop(v:Vw)(k:Nat)(u:Vw):Prop:=k=0/\u={v with down:=true}
theorem vstop1_s(v:Vw)(hn:0<=v.number/\v.number<=1073741823):yuq cfg glK 52 1 [.ptr 0 0] [(0,29,vwG v)] (TurnQ (PStop v)):=by
 intro R;refine gIs 19 O (λk0=>?_);exact fin Jp Ent.refl rfl ⟨rfl,rfl,0,{v with down:=true},v.number,true,v.final,chG v.ch,rfl,rfl,urq _,λ_=>⟨rfl,rfl,rfl,rfl,by omega,by omega⟩,rfl,rfl⟩
theorem vstop_s(v:Vw)(hc:OkC v.ch)(hs:SmallC v.ch):PE cfg glK 15 [vwG v] (OfA v (PStop v)):=by
 refine gIe 11 O (λR k0=>?_);skip
 refine gSo 0 O (u0q O O O O O (vof_s 52 [] O O v hc hs (PStop v) (λhm _=>vstop1_s v ⟨hm.2.2.2.1,hm.2.2.2.2⟩)) (by show(true&&(purW (vwG v)&&true))=true;rw[yaq];rfl) ?_);rintro w hw hA;obtain⟨a,b,c,d,n,rfl⟩:=hA.shape;skip
 exact zcq 7 O (yeq Jp rfl (.pur hw) hw hA)
def PSeal(v:Vw)(ds:List Depo)(xs:List Tx)(box:Dig)(k:Nat)(u:Vw):Prop:=(k=0/\CanAdd v.ch ds xs box/\∃y t' t1 L,Adds v.ch ds xs box y t' t1 L/\t'.nodes.length<=v.ch.tree.nodes.length+21000/\u={v with ch:=addC v.ch t' (jyq y.hdr t1 L) ds xs L})\/(¬CanAdd v.ch ds xs box/\k=addE v.ch ds xs box)
theorem vseal1_s(v:Vw)(hc:OkC v.ch)(hs:SmallC v.ch)(hN:v.ch.tree.nodes.length<=200000)(ds:List Depo)(xs:List Tx)(hB:BodOk ds xs)(box:Dig)(hn:0<=v.number/\v.number<=1073741823):yuq cfg glK 37 1 [.ptr 0 0,.fel (bodW ds xs false false),.fel (dW box)] [(0,29,vwG v)] (TurnQ (PSeal v ds xs box)):=by
 intro R;refine gIs 14 O (λk0=>?_);skip
 skip
 refine gSf 0 O (u0q O O O O O (cadd_s v.ch hc hs hN ds xs hB box) (by simp[purL]) ?_);rintro w hw (⟨hca,y,t',t1,L,hadd,hgr,rfl⟩|⟨hno,rfl⟩)
 ·refine⟨by first|rfl|kernel_rfl,?_⟩;skip
  exact zcq 16 O (fin Jp Ent.refl rfl ⟨rfl,rfl,0,{v with ch:=addC v.ch t' (jyq y.hdr t1 L) ds xs L},v.number,v.down,v.final,chG (addC v.ch t' (jyq y.hdr t1 L) ds xs L),rfl,rfl,urq _,λ_=>⟨rfl,rfl,rfl,rfl,by omega,by omega⟩,.inl ⟨rfl,hca,y,t',t1,L,hadd,hgr,rfl⟩⟩)
 ·refine⟨by first|rfl|kernel_rfl,?_⟩;skip
  exact zcq 16 O (fin Jp Ent.refl rfl ⟨rfl,rfl,addE v.ch ds xs box,v,v.number,v.down,v.final,noCh,rfl,rfl,rfl,λq=>absurd q (addE_no hno),.inr ⟨hno,rfl⟩⟩)
theorem vseal_s(v:Vw)(hc:OkC v.ch)(hs:SmallC v.ch)(hN:v.ch.tree.nodes.length<=200000)(ds:List Depo)(xs:List Tx)(hB:BodOk ds xs)(box:Dig):PE cfg glK 9 [vwG v,bodW ds xs false false,dW box] (OfA v (PSeal v ds xs box)):=by
 have hbp:=Zfq ds xs false false;refine gIe 14 O (λR k0=>?_);skip
 refine qqq (λ_=>kUq 2 [(6,.ptr 3 0),(9,.agg 1 [.fn 37 [] [.ptr 1 0,.fel (dW box)]]),(10,vwG v)] [(3,29,noVw),(1,33,bodW ds xs false false),(0,29,vwG v)] rfl (jVq box) (Nat.zero_le _) ⟨⟨_,rfl,.ptrK rfl⟩,⟨_,rfl,.agg (.cons (.fn .nil (.cons (.ptrK rfl) (.cons (.ptr (n:=32) (ag:=true) rfl (jVq box) rfl) .nil))) .nil)⟩,⟨_,rfl,.pur (yaq v)⟩,trivial⟩ ⟨⟨by omega,_,rfl,.pur rfl⟩,⟨by omega,_,rfl,.pur hbp⟩,⟨by omega,_,rfl,.pur (yaq v)⟩,trivial⟩ Xh) (qqq (λ_=>kUq 1 [(6,.ptr 3 0),(9,.agg 1 [.fn 37 [] [.fel (bodW ds xs false false),.fel (dW box)]]),(10,vwG v)] [(3,29,noVw),(0,29,vwG v)] rfl hbp (Nat.zero_le _) ⟨⟨_,rfl,.ptrK rfl⟩,⟨_,rfl,.agg (.cons (.fn .nil (.cons (.ptr (n:=2) (ag:=true) rfl hbp rfl) (.cons (.pur (jVq box)) .nil))) .nil)⟩,⟨_,rfl,.pur (yaq v)⟩,trivial⟩ ⟨⟨by omega,_,rfl,.pur rfl⟩,⟨by omega,_,rfl,.pur (yaq v)⟩,trivial⟩ Xh) ?_);refine zjq rfl (u0q O O O O O (vof_s 37 [.fel (bodW ds xs false false),.fel (dW box)] (by simp[purL,purW]) rfl v hc hs (PSeal v ds xs box) (λhm _=>vseal1_s v hc hs hN ds xs hB box ⟨hm.2.2.2.1,hm.2.2.2.2⟩)) (by simp[purL,purW]) ?_);rintro w hw hA;obtain⟨a,b,c,d,n,rfl⟩:=hA.shape;skip
 exact zgq 7 O (yeq Jp rfl (.pur hw) hw hA)
abbrev Bd:=List Depo×List Tx
noncomputable def bdW(b:Bd):W:=bodW b.1 b.2 false false
@[simp] theorem bdW_pur(b:Bd):purW (bdW b)=true:=Zfq _ _ _ _
@[simp] theorem kCq(l:List Bd):purL (l.map bdW)=true:=z7q bdW_pur l
def Zqq(l:List Bd)(i:Nat):List Bd:=(List.range l.length).map λk=>((if k<i\/l.length-i<=k then l[l.length-1-k]? else l[k]?).getD ([],[]))
theorem Ykq(l:List Bd)(i:Nat):(Zqq l i).length=l.length:=by simp[Zqq]
theorem uAq{l:List Bd}{i k:Nat}(h:k<l.length):(Zqq l i)[k]? =if k<i\/l.length-i<=k then l[l.length-1-k]? else l[k]? :=by
 unfold Zqq;rw[List.getElem?_map,List.getElem?_range h];show some ((if k<i\/l.length-i<=k then l[l.length-1-k]? else l[k]?).getD ([],[]))=_;split
 ·rw[List.getElem?_eq_getElem Xd];rfl
 ·rw[List.getElem?_eq_getElem h];rfl
theorem swap_ge{l:List Bd}{i k:Nat}(h:l.length<=k):(Zqq l i)[k]? =none:=List.getElem?_eq_none (by rw[Ykq];exact h)
theorem swap_0(l:List Bd):Zqq l 0=l:=List.ext_getElem? λk=>by
 by_cases h:k<l.length
 ·rw[uAq h,if_neg Xd]
 ·rw[swap_ge Xd,List.getElem?_eq_none Xd]
theorem swap_end{l:List Bd}{i:Nat}(h:l.length<=2*i+1)(hi:i<=l.length):Zqq l i=l.reverse:=List.ext_getElem? λk=>by
 by_cases hk:k<l.length
 ·rw[uAq hk,List.getElem?_reverse hk];split
  ·rfl
  ·congr 1;omega
 ·rw[swap_ge Xd,List.getElem?_eq_none (by rw[List.length_reverse];omega)]
theorem swap_step{l:List Bd}{i:Nat}{x y:Bd}(h:2*i+1<l.length)(hx:l[i]? =some x)(hy:l[l.length-1-i]? =some y):((Zqq l i).set i y).set (l.length-1-i) x=Zqq l (i+1):=List.ext_getElem? λk=>by
 by_cases hk:k<l.length
 ·rw[uAq hk,List.getElem?_set,List.getElem?_set,List.length_set,Ykq];by_cases h1:l.length-1-i=k
  ·rw[if_pos h1,if_pos Xd,if_pos Xd];rw[<-hx];congr 1;omega
  ·rw[if_neg h1];by_cases h2:i=k
   ·subst h2;rw[if_pos rfl,if_pos Xd,if_pos Xd,hy]
   ·rw[if_neg h2,uAq hk];by_cases h3:k<i\/l.length-i<=k
    ·rw[if_pos h3,if_pos Xd]
    ·rw[if_neg h3,if_neg Xd]
 ·rw[swap_ge Xd,List.getElem?_eq_none (by rw[List.length_set,List.length_set,Ykq];omega)]
theorem bd_get{l:List Bd}{n i:Nat}{x:Bd}(h:l[i]? =some x)(hn:n=l.length)(h2:2<=l.length):z2q 50 (.arr (n*2) 2 (l.map bdW)) (0+i*2) 2 true=some (bdW x):=by
 subst hn
 have hb:Nat.beq 2 (l.length*2)=false:=by
  cases q:Nat.beq 2 (l.length*2) with
  |false=>rfl
  |true=>have:=Nat.eq_of_beq_eq_true q;omega
 exact get_in (off:=0) (zqq bdW h) Xd Xd (by rw[hb];simp) rfl
theorem bd_put{l:List Bd}{n i:Nat}{x y:Bd}(h:l[i]? =some x)(hn:n=l.length)(h2:2<=l.length):qlq 50 (.arr (n*2) 2 (l.map bdW)) (0+i*2) (bdW y)=some (.arr (n*2) 2 ((l.set i y).map bdW)):=by
 subst hn
 have hb:Nat.beq 2 (l.length*2)=false:=by
  cases q:Nat.beq 2 (l.length*2) with
  |false=>rfl
  |true=>have:=Nat.eq_of_beq_eq_true q;omega
 rw[List.map_set];exact put_in (off:=0) (x':=bdW y) (zqq bdW h) Xd Xd (by show(_&&Nat.beq 2 (l.length*2)&&_)=false;rw[hb];simp) rfl
theorem brev_nil:yuq cfg glK 47 0 [.nils] [] λw hp nw=>w= .tup []/\hp=[]/\nw=0:=by
 intro R;refine gIs 3 O (λk0=>?_);refine gL 0 O ?_;refine gWr 0 O ?_;refine gLo (α:=Nat) 5 (λi=>i=0) (λi=>[(2,.int .i64 (i:Int)),(3,.int .i64 (-1))]) [0] (λi=>0) (0) rfl (rfl) (λi hI=>?_);subst hI;refine gS 8 O (λh1=>?_) (λh1=>?_)
 ·exfalso;simp at h1
 ·refine gO 2 O ?_;refine zcq 1 O ?_;exact fin (.inl rfl) Ent.refl rfl ⟨rfl,rfl,rfl,rfl⟩
theorem brev_s(l:List Bd)(hl:l.length<=1000000)(h1:1<=l.length):yuq cfg glK 47 1 [.sl 0 0 0 l.length 2 none] [(0,33,.arr (l.length*2) 2 (l.map bdW))] λw hp nw=>w= .tup []/\hp=[(0,33,.arr (l.length*2) 2 (l.reverse.map bdW))]/\nw=1:=by
 intro R;refine gIs 3 O (λk0=>?_);refine gL 0 O ?_;refine op_z ((l.length:Int) -1-((0:Nat):Int)) O O Xd Jo ?_;refine zgq 5 O ?_;refine yUq (α:=Nat) (λi=>2*i<=l.length) (λi=>[(2,.int .i64 (i:Int)),(3,.int .i64 ((l.length:Int) -1-(i:Int)))]) [(0,_)] (λi=>[(0,33,.arr (l.length*2) 2 ((Zqq l i).map bdW))]) (λi=>l.length-i) (0) ⟨rfl,trivial⟩ (Nat.zero_le _) ⟨rfl,rfl,trivial⟩ (by rw[swap_0]) (λi hI=>?_);refine zBq 8 O ?_;refine gS 0 O (λh1=>?_) (λh1=>?_)
 ·have hi:2*i+1<l.length:=by omega
  obtain⟨x,hx⟩:∃x,l[i]? =some x:=⟨_,List.getElem?_eq_getElem Xd⟩
  obtain⟨y,hy⟩:∃y,l[l.length-1-i]? =some y:=⟨_,List.getElem?_eq_getElem Xd⟩
  have hn:=(Ykq l i).symm;have gx:(Zqq l i)[i]? =some x:=by rw[uAq Xd,if_neg Xd,hx]
  have gy:(Zqq l i)[l.length-1-i]? =some y:=by rw[uAq Xd,if_neg Xd,hy]
  have gy2:((Zqq l i).set i y)[l.length-1-i]? =some y:=by rw[List.getElem?_set_ne Xd];exact gy
  have hst:=swap_step hi hx hy;refine gV (w':=.int .i64 ((l.length-1-i:Nat):Int)) 8 O (by congr 1;omega) ?_;refine gV (w':=.int .i64 ((l.length-1-i:Nat):Int)) 1 O (by congr 1;omega) ?_;refine gP 0 O (qPq (i:=l.length-1-i) O O O O O O O Xd) ?_;refine gM 0 O (zMq O O O (bd_get gy hn Xd)) ?_;refine gP 2 O (qPq (i:=i) O O O O O O O Xd) ?_;refine gM 0 O (zMq O O O (bd_get gx hn Xd)) ?_;refine gP 0 O (qPq (i:=i) O O O O O O O Xd) ?_;refine gM 0 O (y7q O O O O O (bd_put gx hn Xd) rfl) ?_;refine gP 0 O (qPq (i:=l.length-1-i) O O O O O O O Xd) ?_;refine gM 0 O (y7q O O O O O (bd_put gy2 (by rw[List.length_set];exact hn) (by rw[List.length_set];omega)) (congrArg (λq:List Bd=>[(0,33,W.arr (l.length*2) 2 (q.map bdW))]) hst)) ?_;refine gA 5 O (i+1) ?_;refine zcq 1 O ?_;refine op_z ((l.length:Int) -1-((i+1:Nat):Int)) O O Xd Jo ?_;refine run_p 3 O ?_;exact qnq (i+1) Xd Xd ⟨rfl,rfl,trivial⟩ ⟨rfl,trivial⟩ rfl
 ·rw[swap_end Xd Xd];refine zcq 2 O ?_;refine yKq Xi ?_;refine zyq 1 O ?_;exact fin (.inl rfl) Ent.refl rfl ⟨rfl,rfl,rfl,rfl⟩
noncomputable def encB(l:List Lk)(k:Nat):List W:=[.int .i64 ((l.length:Int) -1-(k:Int)),lkA l (l.length-1-k)]
theorem encB_ok(l:List Lk){n:Nat}:∀y∈List.range n,purL (encB l y)=true/\(encB l y).length=2:=λy _=>⟨by simp[encB,purL,purW],rfl⟩
theorem sback_s(l:List Lk)(f:Bool):PS cfg glK 46 [.fz (l.map lkG) 102 f] (.fn 113 [] [.fel (.fz (l.map lkG) 102 f)]):=by
 have hp:=q1q l;refine gI 13 O (λR k0=>?_);refine qvq (fr2:=[(2,_)]) Xt ?_ O O
 (repeat (first|exact trivial|refine And.symm ⟨?_,_,rfl,?_⟩))<;>(repeat (first|exact .nil|refine .cons ?_ ?_|refine .fn ?_ ?_|(refine yxq O ?_ rfl;(first|rfl|(focus (simp;done))))|(refine .sl O ?_ rfl Xi;(first|rfl|(focus (simp;done))))|(refine .pur ?_;(first|rfl|(focus (simp;done))))|refine .agg ?_|refine .arr ?_|refine .tup ?_))
theorem sback_it(l:List Lk)(f:Bool)(hb:l.length<=1000000):qHq cfg glK 113 [.fel (.fz (l.map lkG) 102 f)] ((List.range l.length).map (encB l)):=by
 refine xEq (fn:=Tryz.f113) O O O (Ob rfl) (λL E R hy k0=>?_);refine zBq 3 O (gZ 0 O LMq (op_z ((l.length:Int) -1-((0:Nat):Int)) O O Xd Jo (zgq 4 O ?_)));refine YEq (α:=Nat×Res) (λp=>p.1<=l.length/\Yl cfg glK L E (((List.range l.length).drop p.1).map (encB l)) p.2) (λp=>[(3,.int .i64 ((l.length:Int) -1-(p.1:Int)))]) [(0,_),(1,_)] (λp=>p.2) (λp=>l.length-p.1) ((0,R)) ⟨rfl,rfl,trivial⟩ (⟨Nat.zero_le _,hy⟩) ⟨rfl,trivial⟩ rfl (λp hI=>?_);obtain⟨i,R⟩:=p;obtain⟨hi,hy⟩:=hI;simp only at hi hy⊢;refine zBq 7 O ?_;refine gS 0 O (λh1=>?_) (λh1=>?_)
 ·have hi':i<l.length:=by omega
  obtain⟨x,hx⟩:∃x,l[l.length-1-i]? =some x:=⟨_,List.getElem?_eq_getElem Xd⟩
  rw[vrq (Yoq hi'),List.map_cons,show encB l i=[.int .i64 ((l.length:Int) -1-(i:Int)),lkG x] by unfold encB;rw[lkA_at hx]] at hy;refine gV (w':=.int .i64 ((l.length-1-i:Nat):Int)) 9 O (by congr 1;omega) (gP 0 O (zDq (i:=l.length-1-i) O O O O O O O (zqq lkG hx)) ?_);refine gSo 1 O (qIq O O O (hy) (λb R1 hb=>?_));refine gS 3 O (λh2=>?_) (λh2=>?_)
  ·cases b with
   |true=>cases h2
   |false=>
    exact yAq 3 O (gO 0 O (zcq 1 O (j9q Jp rfl hb)))
  ·cases b with
   |false=>exact absurd rfl h2
   |true=>
    exact yAq 5 O (op_z ((l.length:Int) -1-((i+1:Nat):Int)) O O Xd Jo (run_p 2 O (gAg 0 O ((i+1,R1)) (⟨hi',hb⟩) Ye)))
 ·refine gO 2 O (zcq 1 O ?_);obtain rfl:i=l.length:=by omega
  rw[List.drop_of_length_le Xh] at hy;exact j9q (.inl rfl) rfl hy
def bdL(x:Lk):Bd:=(x.ds,x.xs)
def y8q(c:Ch)(i:Nat):List Bd:=(c.links.drop (i+1)).map bdL
noncomputable def rolP(u:W)(L:List Bd):HpW:=[(0,29,u),(1,46,gW 2 2 (L.map bdW))]
noncomputable def rolG(L:List Bd):HpW:=gH 2 33 2 (L.map bdW)
theorem gl_get(b e:Nat)(l:List W):z2q 50 (gW b e l) 0 1 false=some (gW b e l):=by cases l<;>rfl
theorem gl_put(b e:Nat)(l:List W)(b' n:Nat):qlq 50 (gW b e l) 0 (.sl b' 0 0 n e none)=some (.sl b' 0 0 n e none):=by cases l<;>rfl
def rolN:List Bd->Nat
 |[]=>2
 |_::_=>3
def RolQ(v:Vw)(h:Int):W->HpW->Nat->Prop:=λw hp nw=>nw=3/\((∃i x,h=((i:Nat):Int)/\v.final<=h/\v.ch.links[i]? =some x/\w= .int .i64 0/\hp=rolG (y8q v.ch i)++rolP (vwG {v with ch:=cutC v.ch i x}) (y8q v.ch i))\/(¬InV v h/\w= .int .i64 170/\hp=rolG []++rolP (vwG v) []))
theorem vroll1_s(v:Vw)(hm:MayV v)(hc:OkC v.ch)(hs:SmallC v.ch)(h:Int):yuq cfg glK 45 2 [.ptr 0 0,.fel (.int .i64 h),.ptr 1 0] [(0,29,vwG v),(1,46,.nils)] (RolQ v h):=by
 obtain⟨hM,h0,h1,_⟩:=hm;have hl:=hs.len;intro R;refine gIs 10 O (λk0=>?_);skip
 skip
 refine gSo 0 O (z3q (ext:=[0]) (ws:=[.ptr 0 0,.int .i64 h]) O O O O O (vwithin_s v h) Xm Xo Xh (vw_hand v rfl) O ?_);rintro w hp1 nw1 ⟨rfl,rfl,rfl⟩;rw[x8q (yaq v)];by_cases hI:InV v h
 ·rw[decide_eq_true hI];have hIV:=hI;obtain⟨i0,rfl⟩:=Int.eq_ofNat_of_zero_le (show 0<=h by have:=hI.1;omega);have hi0:i0<v.ch.links.length:=by have:=hI.2;omega
  obtain⟨x0,hx0⟩:∃x,v.ch.links[i0]? =some x:=⟨_,List.getElem?_eq_getElem hi0⟩
  obtain⟨ls,hls⟩:∃ls,v.ch.links.drop (i0+1)=ls:=⟨_,rfl⟩
  have hlen:ls.length<=1000000:=by rw[<-hls,List.length_drop];omega
  have ecut:((v.ch.links.map lkG).drop (i0+1)).take ((v.ch.links.map lkG).length-(i0+1))=ls.map lkG:=by
   rw[List.take_of_length_le Xh,<-List.map_drop,hls]
  obtain⟨rb,hrb⟩:∃rb,(ls.map bdL).reverse=rb:=⟨_,rfl⟩
  have hrl:rb.length=ls.length:=by rw[<-hrb,List.length_reverse,List.length_map]
  have hrv:rb.reverse=y8q v.ch i0:=by rw[<-hrb,List.reverse_reverse];unfold y8q;rw[hls]
  skip
  skip
  refine gA 15 O (i0+1) (gP 0 O (kLq (l:=i0+1) (h:=(v.ch.links.map lkG).length) (ys:=ls.map lkG) (g:=false) O O O O O O O Ys (Nat.le_refl _) ecut rfl) (gC 0 O (sback_s ls false) (zcq 3 O ?_)));refine QIq (α:=List Bd) (encB ls) (List.range ls.length) (λi a=>a=rb.take i) (λa=>rolP (vwG v) a++rolG a) (λa=>rolN a) (λa=>R) ([]) rfl Xk (sback_it ls false hlen) (encB_ok ls) (rfl) O O O (λi a y hy hI=>?_) (λa hI=>?_)
  ·subst hI;have hi:i<ls.length:=by have:=jAq hy;simpa using this
   obtain rfl:i=y:=by rw[Yoq hi] at hy;exact Option.some.inj hy
   obtain⟨x,hx⟩:∃x,ls[ls.length-1-i]? =some x:=⟨_,List.getElem?_eq_getElem Xd⟩
   have hrx:rb[i]? =some (bdL x):=by rw[<-hrb,List.getElem?_reverse (by simpa using hi),List.getElem?_map,List.length_map,hx];rfl
   obtain⟨b0,r0,rfl⟩:∃b0 r0,rb=b0::r0:=by
    cases rb with
    |nil=>simp at hrl;omega
    |cons b r=>exact⟨b,r,rfl⟩
   rw[show encB ls i=[.int .i64 ((ls.length:Int) -1-(i:Int)),lkG x] by unfold encB;rw[lkA_at hx]];skip
   cases i with
   |zero=>
    obtain rfl:b0=bdL x:=Option.some.inj hrx;rw[show rolN ((bdL x::r0).take 0)=2 from rfl];refine zBq 4 O (ZBq (zBq 6 O (gM 0 O (zKq O O (j7q (k:=ti33) (news:=[bdW (bdL x)]) O O O O (zJq O O O O) Xh (by show 1*48<=_;decide) (by show 1<=_;decide))) (zcq 3 O (x9q [bdL x] rfl ?_)))));have hne0:[bdL x].map bdW≠[]:=by simp
    unfold rolP rolG;rw[qhq hne0,qiq hne0];refine ydq (b:=2) (k:=4) Xm Xm Xm trivial ⟨⟨by omega,?_,zbq (yaq v)⟩,⟨by omega,rfl,rfl⟩,⟨by omega,?_,zbq (show purW (.arr _ _ ([bdL x].map bdW))=true from kCq _)⟩,trivial⟩ Xh
    ·rw[zeq (yaq v)];rfl
    ·rw[zeq (show purW (.arr _ _ ([bdL x].map bdW))=true from kCq _)];rfl
   |succ i=>
    have es:((b0::r0).take (i+1+1)).map bdW=((b0::r0).take (i+1)).map bdW++[bdW (bdL x)]:=by rw[List.take_add_one,hrx,List.map_append];rfl
    have ep:purL (((b0::r0).take (i+1)).map bdW++[bdW (bdL x)])=true:=by rw[<-es];exact kCq _
    have el:(((b0::r0).take (i+1)).map bdW).length<=1000000:=by rw[List.length_map,List.length_take];omega
    have hne:((b0::r0).take (i+1)).map bdW++[bdW (bdL x)]≠[]:=List.append_ne_nil_of_right_ne_nil _ Xh;rw[show rolN ((b0::r0).take (i+1))=3 from rfl];refine zBq 4 O (ZBq (zBq 2 O (gM 0 O (zMq O O O (gl_get 2 2 _)) (gM 3 O (zKq O O (qeq [_,_,_,_] (k:=ti33) (news:=[bdW (bdL x)]) O O O O O (zJq O O O O) Xh (by show((((b0::r0).take (i+1)).map bdW).length+1)*48<=_;omega) (by show(((b0::r0).take (i+1)).map bdW).length+1<=_;omega) rfl Xh)) (gM 0 O (y7q O O O O O (gl_put 2 2 _ _ _) rfl) (zcq 2 O (x9q ((b0::r0).take (i+1+1)) O ?_)))))));unfold rolP rolG;rw[es,qhq hne,qiq hne];refine ydq (b:=2) (k:=5) Xm Xm Xm trivial ⟨⟨by omega,?_,zbq (yaq v)⟩,⟨by omega,rfl,rfl⟩,⟨by omega,?_,zbq ep⟩,trivial⟩ Xh
    ·rw[zeq (yaq v)];rfl
    ·rw[zeq (by exact ep)];rfl
  ·rw[List.length_range,List.take_of_length_le Xd] at hI;subst hI;skip
   cases a with
   |nil=>
    refine zyq 4 O (gM 0 O (zMq O O O (gl_get 2 2 _)) ?_);skip
    refine gSo 0 O (yoq O O O O O O brev_nil ?_);rintro w hp1 nw1 ⟨rfl,rfl,rfl⟩;skip
    exact gC 10 O (ccut_s v.ch hc hs i0 hM hx0) (zcq 16 O (fin Jp (juq (fr2:=[(4,.int .i64 0)]) ⟨rfl,trivial⟩) rfl ⟨rfl,rfl,.inl ⟨i0,x0,rfl,hIV.1,hx0,rfl,by rw[<-hrv];rfl⟩⟩))
   |cons b r=>
    have hb1:((b::r).map bdW).length=(b::r).length:=List.length_map _;have hb2:(b::r).map bdW≠[]:=by simp
    have hb3:((b::r).reverse.map bdW).length=(b::r).length:=by rw[List.length_map,List.length_reverse]
    have hb4:(b::r).reverse.map bdW≠[]:=by simp
    have epA:purW (.arr ((b::r).length*2) 2 ((b::r).map bdW))=true:=kCq _;have epB:purW (.arr ((b::r).length*2) 2 ((b::r).reverse.map bdW))=true:=kCq _;unfold rolP rolG;rw[qhq hb2,qiq hb2,hb1];refine zyq 5 O ?_;skip
    refine gSo 0 O (z3q (ext:=[2]) (ws:=[.sl 0 0 0 (b::r).length 2 none]) O O O O O (brev_s (b::r) Xd Xh) Xm (by intro b hb;simp only[List.mem_cons,List.not_mem_nil,or_false] at hb;subst hb;show 2<3;decide) Xh (vhq (by rw[zeq epA];rfl) (zbq epA)) O ?_);rintro w hp1 nw1 ⟨rfl,rfl,rfl⟩;rw[x8q epB];skip
    exact gC 10 O (ccut_s v.ch hc hs i0 hM hx0) (zcq 16 O (fin Jp Ent.refl rfl ⟨rfl,rfl,.inl ⟨i0,x0,rfl,hIV.1,hx0,rfl,by rw[<-hrv];unfold rolP rolG;rw[qhq hb4,qiq hb4,hb3];rfl⟩⟩))
 ·rw[decide_eq_false hI];skip
  skip
  exact zcq 11 O (fin Jp (juq (fr2:=[(4,.int .i64 170)]) ⟨rfl,trivial⟩) rfl ⟨rfl,rfl,.inr ⟨hI,rfl,rfl⟩⟩)
noncomputable def rolX(a b c:Nat)(u:W)(L:List Bd):HpW:=gH c 33 2 (L.map bdW)++[(a,29,u),(b,46,gW c 2 (L.map bdW))]
theorem vKq(τ:Nat->Nat):∀(a b:HpW),renH τ (a++b)=renH τ a++renH τ b
 |[],b=>rfl
 |(k,ty,w)::a,b=>by
  show(τ k,ty,renW τ w)::renH τ (a++b)=_;rw[vKq τ a b];rfl
theorem vJq(τ:Nat->Nat)(a b c:Nat){u:W}(hu:purW u=true)(L:List Bd):renH τ (rolX a b c u L)=rolX (τ a) (τ b) (τ c) u L:=by
 unfold rolX;rw[vKq,Jqq _ _ _ _ (kCq L)];show _++[(τ a,_,renW τ u),(τ b,_,renW τ (gW c 2 _))]=_;rw[zeq hu,Kpq]
noncomputable def trW(h:Int):W:=.agg 1 [.fn 45 [] [.fel (.int .i64 h),.ptr 0 0]]
noncomputable def turnH(v:Vw)(h:Int)(u:W):HpW:=[(3,29,u),(2,29,vwG v),(1,108,trW h)]
noncomputable def Ygq(v:Vw)(h:Int):Nat:=if¬MayV v then 8 else if v.number=1073741823 then 9 else 170
structure CanRoll(v:Vw)(h:Int):Prop where
 may:MayV v
 num:v.number≠1073741823
 is:InV v h
noncomputable instance(v:Vw)(h:Int):Decidable (CanRoll v h):=Classical.propDecidable _
noncomputable def vIq(v:Vw)(i:Nat)(x:Lk):Vw:=upV {v with ch:=cutC v.ch i x}
def OfR(v:Vw)(h:Int):W->HpW->Nat->Prop:=λw hp nw=>(CanRoll v h/\∃i x,h=((i:Nat):Int)/\v.ch.links[i]? =some x/\w= .tup [vwG (vIq v i x),.int .i64 0]/\hp=rolX 4 0 5 (vwG (vIq v i x)) (y8q v.ch i)++turnH v h (vwG (vIq v i x))/\nw=6)\/(¬CanRoll v h/\w= .tup [noVw,.int .i64 (Ygq v h:Nat)]/\((hp=rolX 4 0 5 (vwG v) []++turnH v h noVw/\nw=6)\/(hp=turnH v h noVw++[(0,46,.nils)]/\nw=4)))
theorem vofr_s(v:Vw)(h:Int)(hc:OkC v.ch)(hs:SmallC v.ch):yuq cfg glK 39 1 [trW h,vwG v] [(0,46,.nils)] (OfR v h):=by
 intro R;by_cases hm:MayV v
 ·have hone:=hm.1.one;by_cases hn:v.number=1073741823
  ·skip
   refine gIs 13 O (λk0=>?_);exact gC 0 O (zzq (w':=.int .i64 0) (uzq v hc) Qt) (gFa 0 O (gT 8 O (eqI_iff.2 (hn)) (zcq 14 O (fin Jp Ent.refl rfl ⟨rfl,.inr ⟨λq=>q.num hn,by unfold Ygq;rw[if_neg (λq=>q hm),if_pos hn];rfl,.inr ⟨rfl,rfl⟩⟩⟩))))
  ·skip
   refine gIs 13 O (λk0=>?_);refine gC 0 O (zzq (w':=.int .i64 0) (uzq v hc) Qt) (gFa 0 O (gF 8 O (eqI_not.2 (hn)) (gC 10 O (vtwin_s v hs (λq=>by rw[q] at hone;cases hone)) (zcq 9 O ?_))));skip
   skip
   refine gSo 0 O (z3q (ext:=[4,0]) (ws:=[.ptr 0 0,.fel (.int .i64 h),.ptr 1 0]) O O O O O (vroll1_s v hm hc hs h) Xm Xo Xh (ZJq (by rw[zeq (yaq v)];rfl) rfl (zbq (yaq v)) rfl) O ?_);rintro w hp1 nw1 ⟨rfl,⟨i,x,rfl,hf,hx,rfl,rfl⟩|⟨hI,rfl,rfl⟩⟩
   ·rw[show rolG (y8q v.ch i)++rolP (vwG {v with ch:=cutC v.ch i x}) (y8q v.ch i)=rolX 0 1 2 (vwG {v with ch:=cutC v.ch i x}) (y8q v.ch i) from rfl,vJq _ _ _ _ (yaq _)];have hca:CanRoll v (i:Int):=⟨hm,hn,hf,by have:=jAq hx;omega⟩;have hnn:=hm.2.2.2;skip
    skip
    cases hb:(y8q v.ch i) with
    |nil=>
     exact zgq 6 O (gFa 0 O (zcq 9 O (op_z (v.number+1) O O O Jo (zgq 12 O (fin Jp Ent.refl rfl ⟨rfl,.inl ⟨hca,i,x,rfl,hx,rfl,by rw[hb];rfl,rfl⟩⟩)))))
    |cons b r=>
     exact zgq 6 O (gFa 0 O (zcq 9 O (op_z (v.number+1) O O O Jo (zgq 12 O (fin Jp Ent.refl rfl ⟨rfl,.inl ⟨hca,i,x,rfl,hx,rfl,by rw[hb];rfl,rfl⟩⟩)))))
   ·rw[show rolG []++rolP (vwG v) []=rolX 0 1 2 (vwG v) [] from rfl,vJq _ _ _ _ (yaq _)];skip
    exact gTa 6 O (zcq 13 O (fin Jp Ent.refl rfl ⟨rfl,.inr ⟨λq=>hI q.is,by unfold Ygq;rw[if_neg (λq=>q hm),if_neg hn];rfl,.inl ⟨rfl,rfl⟩⟩⟩))
 ·skip
  refine gIs 13 O (λk0=>?_);exact gC 0 O (zzq (w':=.int .i64 8) (uzq v hc) (by rw[if_neg hm])) (gTa 0 O (zcq 14 O (fin Jp Ent.refl rfl ⟨rfl,.inr ⟨λq=>hm q.may,by unfold Ygq;rw[if_pos hm];rfl,.inr ⟨rfl,rfl⟩⟩⟩)))
def RollA(v:Vw)(h:Int):W->Prop:=λw=>(CanRoll v h/\∃i x,h=((i:Nat):Int)/\v.ch.links[i]? =some x/\w= .tup [vwG (vIq v i x),.fz ((y8q v.ch i).map bdW) 2 false,.int .i64 0])\/(¬CanRoll v h/\w= .tup [noVw,.nils,.int .i64 (Ygq v h:Nat)])
theorem rollE_no{v:Vw}{h:Int}:Ygq v h≠0:=by
 unfold Ygq;split
 ·decide
 ·split<;>decide
theorem vroll_s(v:Vw)(h:Int)(hc:OkC v.ch)(hs:SmallC v.ch):PE cfg glK 13 [vwG v,.int .i64 h] (RollA v h):=by
 refine gIe 14 O (λR k0=>?_);skip
 refine qqq (λ_=>kUq 1 [(4,.ptr 2 0),(5,.ptr 3 0),(9,.agg 1 [.fn 45 [] [.fel (.int .i64 h),.ptr 3 0]]),(10,vwG v)] [(3,46,.nils),(2,29,noVw),(0,29,vwG v)] O O (Nat.zero_le _) ⟨⟨_,rfl,.ptrK rfl⟩,⟨_,rfl,.ptrK rfl⟩,⟨_,rfl,.agg (.cons (.fn .nil (.cons (.ptr (n:=1) (ag:=false) O O O) (.cons (.ptrK rfl) .nil))) .nil)⟩,⟨_,rfl,.pur (yaq v)⟩,trivial⟩ ⟨⟨by omega,_,rfl,.pur rfl⟩,⟨by omega,_,rfl,.pur rfl⟩,⟨by omega,_,rfl,.pur (yaq v)⟩,trivial⟩ Xh) ?_;skip
 refine zjq rfl (z3q (ext:=[3]) (ws:=[trW h,vwG v]) O O O O (by show [W.agg 1 [.fn _ [] [.fel (.int .i64 h),.ptr 3 0]],vwG v]=[W.agg 1 [.fn _ [] [.fel (.int .i64 h),.ptr 3 0]],renW _ (vwG v)];rw[zeq (yaq v)]) (vofr_s v h hc hs) Xm Xo Xh (vhq O O) (by show(true&&(refB 1 (vwG v)&&true))=true;rw[zbq (yaq v)];rfl) ?_);rintro w hp1 nw1 (⟨hca,i,x,rfl,hx,rfl,rfl,rfl⟩|⟨hno,rfl,⟨rfl,rfl⟩|⟨rfl,rfl⟩⟩)
 ·rw[vKq,vJq _ _ _ _ (yaq _),zeq (show purW (.tup [vwG (vIq v i x),.int .i64 0])=true by show(purW (vwG _)&&_)=true;rw[yaq];rfl)];skip
  skip
  cases hb:(y8q v.ch i) with
  |nil=>
   exact zgq 11 O (gFa 0 O (zcq 15 O (yeq (w':=.tup [vwG (vIq v i x),.fz [] 2 false,.int .i64 0]) Jp rfl (.tup (.cons (.pur (yaq _)) (.cons .nilfz (.cons (.pur rfl) .nil)))) (by show(purW (vwG _)&&_)=true;rw[yaq];rfl) (.inl ⟨hca,i,x,rfl,hx,by rw[hb];rfl⟩))))
  |cons b r=>
   exact zgq 11 O (gFa 0 O (zcq 15 O (yeq (w':=.tup [vwG (vIq v i x),.fz ((b::r).map bdW) 2 false,.int .i64 0]) Jp rfl (.tup (.cons (.pur (yaq _)) (.cons (.sl (full:=false) (c:=.arr (((b::r).map bdW).length*2) 2 ((b::r).map bdW)) rfl (show purL ((b::r).map bdW)=true from kCq _) (zfq Xm O O) Xi) (.cons (.pur rfl) .nil)))) (by show(purW (vwG _)&&(purL ((b::r).map bdW)&&_))=true;rw[yaq,kCq];rfl) (.inl ⟨hca,i,x,rfl,hx,by rw[hb]⟩))))
 ·have hz:= @rollE_no v h;rw[vKq,vJq _ _ _ _ (yaq _)];skip
  exact zgq 11 O (gT 0 O (congrArg not (eqI_not.2 Xd)) (zcq 14 O (yeq (w':=.tup [noVw,.nils,.int .i64 (Ygq v h:Nat)]) Jp rfl (.pur rfl) rfl (.inr ⟨hno,rfl⟩))))
 ·have hz:= @rollE_no v h;skip
  exact zgq 11 O (gT 0 O (congrArg not (eqI_not.2 Xd)) (zcq 14 O (yeq (w':=.tup [noVw,.nils,.int .i64 (Ygq v h:Nat)]) Jp rfl (.pur rfl) rfl (.inr ⟨hno,rfl⟩))))
def T.road:T->Nat->Dig->List T
 |.fork l r,d,k=>if bitN k d=0 then r::l.road (d+1) k else l::r.road (d+1) k
 |_,_,_=>[]
def T.tail:T->Nat->Dig->T
 |.fork l r,d,k=>if bitN k d=0 then l.tail (d+1) k else r.tail (d+1) k
 |t,_,_=>t
noncomputable def sdW(t:T):W:=dW (sumD t)
@[simp] theorem sides_pur(l:List T):purL (l.map sdW)=true:=z7q (λt=>jVq _) l
noncomputable def endW:T->W
 |.leaf x v=>nW ⟨true,x,v,0,0⟩
 |_=>nW ⟨false,y2q,[],0,0⟩
noncomputable def prG(k:Dig)(e:Int)(o:Dig)(v s:W):W:=.agg 67 [dW k,.int .u8 e,dW o,v,s]
noncomputable def sdsW(t0:T)(k:Dig):W:=.fz ((t0.road 0 k).map sdW) 32 false
@[simp] theorem sdsW_pur(t0:T)(k:Dig):purW (sdsW t0 k)=true:=sides_pur _
@[simp] theorem endW_pur(t:T):purW (endW t)=true:=by cases t<;>simp[endW]
noncomputable def proofW(t0:T)(k:Dig):W:=match t0.tail 0 k with
 |.leaf x v=>if x=k then prG k 1 y2q (bW v) (sdsW t0 k) else prG k 2 x (bW v) (sdsW t0 k)
 |_=>prG k 0 y2q (bW []) (sdsW t0 k)
theorem Ymq(v:Vw)(hl:v.ch.links.length<=4611686018427387903):PS cfg glK 49 [vwG v] (.int .i64 ((v.ch.links.length:Int) -1)):=by
 exact gI 11 O (λR k0=>gZ 0 O LMq (gWr 0 O (gQa 4 O)))
theorem Kgq(v:Vw)(hc:OkC v.ch):PS cfg glK 17 [vwG v] (.bool (decide (MayV v))):=by
 have hl:=hc.len;by_cases hm:MayC v.ch
 ·skip
  refine gI 10 O (λR k0=>gC 0 O (zzq (w':=.bool true) (u5q v.ch hc) Yw) ?_);refine gD 3 O (λh1=>?_) (λh1=>?_)
  ·refine gC 5 O (Ymq v hl) ?_;refine gD 0 O (λh2=>?_) (λh2=>?_)
   ·refine gD 4 O (λh3=>?_) (λh3=>?_)
    ·exact gU 4 O (gQ 5 O (congrArg W.bool (decide_eq_decide.2 ⟨λq=>⟨hm,by omega,by omega,by omega,q⟩,λq=>q.2.2.2.2⟩)))
    ·exact gQ 10 O (y6q λq=>by have:=q.2;omega)
   ·exact gQ 15 O (y6q λq=>by have:=q.2;omega)
  ·exact gQ 22 O (y6q λq=>by have:=q.2;omega)
 ·skip
  exact gI 10 O (λR k0=>gC 0 O (zzq (w':=.bool false) (u5q v.ch hc) (by rw[decide_eq_false (hm)])) (gQ 26 O (y6q λq=>hm q.1)))
end
section
attribute [local irreducible] CoW OpW FlW Step Spec
variable {G:Nat->Option W}
noncomputable instance(a b:Node):Decidable (a=b):=Classical.propDecidable _
end
section
attribute [local irreducible] CoW OpW FlW Step Spec
attribute [local simp] qCq
variable {G:Nat->Option W}
noncomputable instance(a b:Lk):Decidable (a=b):=Classical.propDecidable _
end
section
attribute [local irreducible] CoW OpW FlW Step Spec
@[simp] theorem proofW_pur(t0:T)(k:Dig):purW (proofW t0 k)=true:=by
 unfold proofW prG;split
 ·split<;>simp[purW,purL]
 ·simp[purW,purL]
def TolV(v:Vw)(win h:Int):Prop:=0<=h/\h<(v.ch.links.length:Int)/\(v.ch.links.length:Int) -1-h<win
noncomputable instance(v:Vw)(win h:Int):Decidable (TolV v win h):=Classical.propDecidable _
noncomputable instance:DecidableEq Vw:=λa b=>Classical.propDecidable _
theorem vw_eq{a1 b1:Int}{a2 b2:Bool}{a3 b3:Int}{a4 b4:Ch}(h1:a1=b1)(h2:a2=b2)(h3:a3=b3):((⟨a1,a2,a3,a4⟩:Vw)=⟨b1,b2,b3,b4⟩)↔a4=b4:=⟨λq=>by injection q,λq=>by rw[h1,h2,h3,q]⟩
theorem kHq(a b:Vw)(ha:SmallC a.ch)(hb:SmallC b.ch):PS cfg glK 19 [vwG a,vwG b] (.bool (decide (a=b))):=by
 have hs:=rcsame_s (G:=glK) a.ch b.ch ha hb;obtain⟨a1,a2,a3,a4⟩:=a;obtain⟨b1,b2,b3,b4⟩:=b;refine gI 13 O (λR k0=>?_);refine gD 0 O (λh1=>?_) (λh1=>?_)
 ·refine gD 5 O (λh2=>?_) (λh2=>?_)
  ·refine gD 6 O (λh3=>?_) (λh3=>?_)
   ·refine gC 6 O (hs) ?_;first|exact gQ 5 O (congrArg W.bool (decide_eq_decide.2 (vw_eq h1 h2 h3).symm))|exact gQ 5 O (y6q λq=>h3 (congrArg Vw.final q))|exact gQ 5 O (y6q λq=>h2 (congrArg Vw.down q))|exact gQ 5 O (y6q λq=>h1 (congrArg Vw.number q))
   ·first|exact gQ 12 O (congrArg W.bool (decide_eq_decide.2 (vw_eq h1 h2 h3).symm))|exact gQ 12 O (y6q λq=>h3 (congrArg Vw.final q))|exact gQ 12 O (y6q λq=>h2 (congrArg Vw.down q))|exact gQ 12 O (y6q λq=>h1 (congrArg Vw.number q))
  ·first|exact gQ 19 O (congrArg W.bool (decide_eq_decide.2 (vw_eq h1 h2 h3).symm))|exact gQ 19 O (y6q λq=>h3 (congrArg Vw.final q))|exact gQ 19 O (y6q λq=>h2 (congrArg Vw.down q))|exact gQ 19 O (y6q λq=>h1 (congrArg Vw.number q))
 ·first|exact gQ 25 O (congrArg W.bool (decide_eq_decide.2 (vw_eq h1 h2 h3).symm))|exact gQ 25 O (y6q λq=>h3 (congrArg Vw.final q))|exact gQ 25 O (y6q λq=>h2 (congrArg Vw.down q))|exact gQ 25 O (y6q λq=>h1 (congrArg Vw.number q))
end
section
theorem pe_ps{C:Cfg}{G:Nat->Option W}{f:FuncId}{ws:List W}{w0:W}(h:PE C G f ws λw=>w=w0):PS C G f ws w0:=λR Γ X vs h1 s hv=>by
 obtain⟨n,v,Γ',X',w',hp',R',g1,g2,g3,g4,g5,g6,g7⟩:=h R Γ X vs h1 s hv;exact⟨n,v,Γ',X',w',hp',R',g1,g2,g3,g4,g5,g7⟩
attribute [local irreducible] CoW OpW FlW Step Spec
variable {G:Nat->Option W}
noncomputable def noV:Vw:=⟨0,false,0,noC⟩
theorem nov_view(μ:Nat->Option W):View μ noVw (vwG noV):=.agg (.cons (.pur rfl) (.cons (.pur rfl) (.cons (.pur rfl) (.cons (.agg (.cons (.agg (.cons .nilfz (.cons (.pur rfl) .nil))) (.cons .nilfz .nil))) .nil))))
theorem novt(μ:Nat->Option W)(e:Int):View μ (.tup [noVw,.int .i64 e]) (.tup [vwG noV,.int .i64 e]):=.tup (.cons (nov_view μ) (.cons (.pur rfl) .nil))
theorem novt3(μ:Nat->Option W)(e:Int):View μ (.tup [noVw,.nils,.int .i64 e]) (.tup [vwG noV,.fz [] 2 false,.int .i64 e]):=.tup (.cons (nov_view μ) (.cons .nilfz (.cons (.pur rfl) .nil)))
theorem qMq(v:Vw)(e:Int):purW (.tup [vwG v,.int .i64 e])=true:=by simp[purW,purL]
theorem J3q(v:Vw)(L:List Bd)(e:Int):purW (.tup [vwG v,.fz (L.map bdW) 2 false,.int .i64 e])=true:=by simp[purW,purL]
noncomputable def askE(v:Vw):Int:=if¬MayV v then 8 else if v.number=1073741823 then 9 else 0
noncomputable def vsq(v:Vw)(h:Int):Vw×Int:=if askE v≠0 then(noV,askE v) else if¬InV v h then(noV,170) else(upV {v with final:=h},0)
noncomputable def Ztq(v:Vw):Vw×Int:=if askE v≠0 then(noV,askE v) else(upV {v with down:=true},0)
noncomputable def kPq(v:Vw)(h:Int):Vw×List Bd×Int:=if askE v≠0 then(noV,[],askE v) else if¬InV v h then(noV,[],170) else match v.ch.links[h.toNat]? with
 |some x=>(vIq v h.toNat x,y8q v.ch h.toNat,0)
 |none=>(noV,[],0)
section
variable {v:Vw} {h:Int}
theorem JSq(a:¬MayV v):askE v=8:=by simp[askE,a]
theorem uQq(a:MayV v)(b:v.number=1073741823):askE v=9:=by simp[askE,a,b]
theorem Ybq(a:MayV v)(b:v.number≠1073741823):askE v=0:=by simp[askE,a,b]
theorem conf_e(a:askE v≠0):vsq v h=(noV,askE v):=if_pos a
theorem conf_in(a:askE v=0)(b:¬InV v h):vsq v h=(noV,170):=by simp[vsq,a,b]
theorem conf_ok(a:askE v=0)(b:InV v h):vsq v h=(upV {v with final:=h},0):=by simp[vsq,a,b]
theorem stop_e(a:askE v≠0):Ztq v=(noV,askE v):=if_pos a
theorem stop_ok(a:askE v=0):Ztq v=(upV {v with down:=true},0):=by simp[Ztq,a]
theorem roll_e(a:askE v≠0):kPq v h=(noV,[],askE v):=if_pos a
theorem roll_in(a:askE v=0)(b:¬InV v h):kPq v h=(noV,[],170):=by simp[kPq,a,b]
theorem roll_ok{i:Nat}{x:Lk}(a:askE v=0)(b:InV v (i:Int))(hx:v.ch.links[i]? =some x):kPq v (i:Int)=(vIq v i x,y8q v.ch i,0):=by simp[kPq,a,b,hx]
end
theorem vconf2_s(v:Vw)(hc:OkC v.ch)(hs:SmallC v.ch)(h:Int):PS cfg glK 11 [vwG v,.int .i64 h] (.tup [vwG (vsq v h).1,.int .i64 (vsq v h).2]):=pe_ps (pe_res (vconf_s v hc hs h) (by
 rintro w hp (⟨u,hm,hn,hP,rfl⟩|⟨k,u,hm,hn,hk,hP,rfl⟩|⟨hm,rfl⟩|⟨hm,hn,rfl⟩)
 ·rcases hP with ⟨_,hi,rfl⟩|⟨q,_⟩
  ·exact⟨_,.pur hp,hp,by rw[conf_ok (Ybq hm hn) hi]⟩
  ·omega
 ·rcases hP with ⟨q,_⟩|⟨rfl,hi⟩
  ·omega
  ·exact⟨_,novt _ _,qMq _ _,by rw[conf_in (Ybq hm hn) hi];rfl⟩
 ·have e:=JSq hm;exact⟨_,novt _ _,qMq _ _,by rw[conf_e Qo,e]⟩
 ·have e:=uQq hm hn;exact⟨_,novt _ _,qMq _ _,by rw[conf_e Qo,e]⟩))
theorem vstop2_s(v:Vw)(hc:OkC v.ch)(hs:SmallC v.ch):PS cfg glK 15 [vwG v] (.tup [vwG (Ztq v).1,.int .i64 (Ztq v).2]):=pe_ps (pe_res (vstop_s v hc hs) (by
 rintro w hp (⟨u,hm,hn,⟨_,rfl⟩,rfl⟩|⟨k,u,hm,hn,hk,⟨q,_⟩,rfl⟩|⟨hm,rfl⟩|⟨hm,hn,rfl⟩)
 ·exact⟨_,.pur hp,hp,by rw[stop_ok (Ybq hm hn)]⟩
 ·omega
 ·have e:=JSq hm;exact⟨_,novt _ _,qMq _ _,by rw[stop_e Qo,e]⟩
 ·have e:=uQq hm hn;exact⟨_,novt _ _,qMq _ _,by rw[stop_e Qo,e]⟩))
theorem vroll2_s(v:Vw)(hc:OkC v.ch)(hs:SmallC v.ch)(h:Int):PS cfg glK 13 [vwG v,.int .i64 h] (.tup [vwG (kPq v h).1,.fz ((kPq v h).2.1.map bdW) 2 false,.int .i64 (kPq v h).2.2]):=pe_ps (pe_res (vroll_s v h hc hs) (by
 rintro w hp (⟨hca,i,x,rfl,hx,rfl⟩|⟨hno,rfl⟩)
 ·exact⟨_,.pur hp,hp,by rw[roll_ok (Ybq hca.may hca.num) hca.is hx]⟩
 ·by_cases hm:MayV v
  ·by_cases hn:v.number=1073741823
   ·have e:=uQq hm hn;exact⟨_,novt3 _ _,J3q _ [] _,by rw[roll_e Qo,e];simp[Ygq,hm,hn]⟩
   ·have hi:¬InV v h:=λq=>hno ⟨hm,hn,q⟩
    exact⟨_,novt3 _ _,J3q _ [] _,by rw[roll_in (Ybq hm hn) hi];simp[Ygq,hm,hn]⟩
  ·have e:=JSq hm;exact⟨_,novt3 _ _,J3q _ [] _,by rw[roll_e Qo,e];simp[Ygq,hm]⟩))
noncomputable def Keq(v:Vw)(ds:List Depo)(xs:List Tx)(box:Dig):Int:=if askE v≠0 then askE v else addF v.ch ds xs box
def SealC(u v:Vw)(ds:List Depo)(xs:List Tx)(box:Dig):Prop:=(u.number=v.number+1/\u.down=v.down/\u.final=v.final)/\MayC v.ch/\AddC u.ch v.ch ds xs box
def SealQ(P:Vw->Prop)(v:Vw)(ds:List Depo)(xs:List Tx)(box:Dig):W->Prop:=λw=>∃u:Vw,(Keq v ds xs box≠0->u.ch.links=[])/\(Keq v ds xs box=0->SealC u v ds xs box/\P u)/\w= .tup [vwG u,.int .i64 (Keq v ds xs box)]
theorem vFq(P:Vw->Prop){v:Vw}{ds:List Depo}{xs:List Tx}{box:Dig}{k:Int}(h:Keq v ds xs box=k)(hk:k≠0):SealQ P v ds xs box (.tup [vwG noV,.int .i64 k]):=⟨noV,λ_=>rfl,λq=>absurd (h.symm.trans q) hk,by rw[h]⟩
theorem sealq_ok(P:Vw->Prop){u v:Vw}{ds:List Depo}{xs:List Tx}{box:Dig}(h:Keq v ds xs box=0)(hu:SealC u v ds xs box)(hP:P u):SealQ P v ds xs box (.tup [vwG u,.int .i64 0]):=⟨u,λq=>absurd h q,λ_=>⟨hu,hP⟩,by rw[h]⟩
theorem Kcq{v:Vw}(a:askE v≠0)(ds:List Depo)(xs:List Tx)(box:Dig):Keq v ds xs box=askE v:=if_pos a
theorem Kdq{v:Vw}(a:askE v=0)(ds:List Depo)(xs:List Tx)(box:Dig):Keq v ds xs box=addF v.ch ds xs box:=if_neg (λq=>q a)
theorem vseal2_s(v:Vw)(hc:OkC v.ch)(hs:SmallC v.ch)(hN:v.ch.tree.nodes.length<=200000)(ds:List Depo)(xs:List Tx)(hB:BodOk ds xs)(box:Dig):PE cfg glK 9 [vwG v,bodW ds xs false false,dW box] (SealQ (λu=>OkC u.ch/\SmallC u.ch/\MayV u) v ds xs box):=
 pe_res (vseal_s v hc hs hN ds xs hB box) (by
  rintro w hp (⟨u,hm,hn,hP,rfl⟩|⟨k,u,hm,hn,hk,hP,rfl⟩|⟨hm,rfl⟩|⟨hm,hn,rfl⟩)
  ·rcases hP with ⟨_,hca,y,t',t1,L,hadd,hgr,rfl⟩|⟨hno,q⟩
   ·obtain⟨n,t0,n1,rs,hA,hA1,hdo,hL⟩:=hadd.is;obtain⟨ms,hms⟩:=hadd.goes;have ha:=Ybq hm hn;obtain⟨m1,m2,m3,m4,m5⟩:=hm;refine⟨_,.pur hp,hp,sealq_ok _ (by rw[Kdq ha];exact if_pos hca) ⟨⟨rfl,rfl,rfl⟩,m1,y,t1,rs,t'.root,ms,hadd.last,?_,hA1.ok,?_,heldr_is (c:=addC v.ch t' (jyq y.hdr t1 L) ds xs L) (r:=t'.root) hA1.toIsT,hms⟩ ⟨hadd.okc hc hB _,hadd.smallc hs _,hadd.mayc,m2,?_,?_,?_⟩⟩
    ·rw[Yxq hA];exact hdo
    ·rw[Yxq hA,<-hL];rfl
    ·show v.final<(((v.ch.links++[_]).length:Nat):Int);rw[List.length_append];show _<((v.ch.links.length+1:Nat):Int);omega
    ·show 0<=v.number+1;omega
    ·show v.number+1<=1073741823;omega
   ·exact absurd q.symm (addE_no hno)
  ·rcases hP with ⟨q,_⟩|⟨hno,rfl⟩
   ·omega
   ·exact⟨_,novt _ _,qMq _ _,vFq _ (by rw[Kdq (Ybq hm hn)];exact if_neg hno) Xd⟩
  ·have e:=JSq hm;exact⟨_,novt _ _,qMq _ _,vFq _ (by rw[Kcq Qo,e]) Xm⟩
  ·have e:=uQq hm hn;exact⟨_,novt _ _,qMq _ _,vFq _ (by rw[Kcq Qo,e]) Xm⟩)
end
section
attribute [local irreducible] CoW OpW FlW Step Spec
theorem uSq(v:Vw)(hc:OkC v.ch):PS cfg glK 40 [vwG v] (.int .i64 (askE v)):=by
 by_cases hm:MayV v
 ·by_cases hn:v.number=1073741823
  ·skip
   exact gI 10 O (λR k0=>gC 0 O (zzq (w':=.bool true) (Kgq v hc) Yw) (gT 11 O (eqI_iff.2 (hn)) (gQ 10 O (by rw[uQq hm hn]))))
  ·skip
   exact gI 10 O (λR k0=>gC 0 O (zzq (w':=.bool true) (Kgq v hc) Yw) (gF 11 O (eqI_not.2 (hn)) (gQ 11 O (by rw[Ybq hm hn]))))
 ·skip
  exact gI 10 O (λR k0=>gC 0 O (zzq (w':=.bool false) (Kgq v hc) (by rw[decide_eq_false (hm)])) (gQ 11 O (by rw[JSq hm])))
theorem rinv_s(v:Vw)(hc:OkC v.ch)(h:Int):PS cfg glK 44 [vwG v,.int .i64 h] (.bool (decide (InV v h))):=by
 by_cases h0:v.final<=h
 ·by_cases h1:h<(v.ch.links.length:Int)
  ·skip
   exact gI 11 O (λR k0=>gT 0 O (congrArg not (ltI_not.2 Xd)) (gC 3 O (Ymq v hc.len) (gT 0 O (congrArg not (ltI_not.2 Xd)) (gQ 5 O (K4q ⟨h0,h1⟩)))))
  ·skip
   exact gI 11 O (λR k0=>gT 0 O (congrArg not (ltI_not.2 Xd)) (gC 3 O (Ymq v hc.len) (gF 0 O (congrArg not (ltI_iff.2 Xd)) (gQ 5 O (y6q λq=>h1 q.2)))))
 ·skip
  exact gI 11 O (λR k0=>gF 0 O (congrArg not (ltI_iff.2 Xd)) (gQ 10 O (y6q λq=>h0 q.1)))
theorem Xaq{v:Vw}(a:askE v=0):MayV v/\v.number≠1073741823:=by
 by_cases hm:MayV v
 ·by_cases hn:v.number=1073741823
  ·rw[uQq hm hn] at a;cases a
  ·exact⟨hm,hn⟩
 ·rw[JSq hm] at a;cases a
theorem rconf_s(v:Vw)(hc:OkC v.ch)(hs:SmallC v.ch)(h:Int):PS cfg glK 12 [vwG v,.int .i64 h] (.tup [vwG (vsq v h).1,.int .i64 (vsq v h).2]):=by
 by_cases ha:askE v=0
 ·obtain⟨⟨_,_,_,h3,h4⟩,hn⟩:=Xaq ha;by_cases hi:InV v h
  ·skip
   refine gIv 10 O (λR k0=>?_);refine gC 0 O (uSq v hc) ?_;refine gF 7 O (congrArg not (eqI_iff.2 (ha))) ?_;refine gC 10 O (zzq (w':=.bool true) (rinv_s v hc h) (by rw[decide_eq_true (hi)])) ?_;refine gC 9 O (Kfq v hs) ?_;refine gWr 15 O ?_;refine zcq 12 O ?_;exact quq Jp rfl (by rw[conf_ok ha hi];exact .pur (qMq _ _))
  ·skip
   refine gIv 10 O (λR k0=>?_);refine gC 0 O (uSq v hc) ?_;refine gF 7 O (congrArg not (eqI_iff.2 (ha))) ?_;refine gC 10 O (zzq (w':=.bool false) (rinv_s v hc h) (by rw[decide_eq_false (hi)])) ?_;refine zcq 13 O ?_;exact quq Jp rfl (by rw[conf_in ha hi];exact novt _ _)
 ·skip
  refine gIv 10 O (λR k0=>?_);refine gC 0 O (uSq v hc) ?_;refine gT 7 O (congrArg not (eqI_not.2 (ha))) ?_;refine zcq 13 O ?_;exact quq Jp rfl (by rw[conf_e ha];exact novt _ _)
theorem rstop_s(v:Vw)(hc:OkC v.ch)(hs:SmallC v.ch):PS cfg glK 16 [vwG v] (.tup [vwG (Ztq v).1,.int .i64 (Ztq v).2]):=by
 by_cases ha:askE v=0
 ·obtain⟨⟨_,_,_,h3,h4⟩,hn⟩:=Xaq ha;refine gIv 10 O (λR k0=>?_);refine gC 0 O (uSq v hc) ?_;refine gF 7 O (congrArg not (eqI_iff.2 (ha))) ?_;refine gC 8 O (Kfq v hs) ?_;refine gWr 14 O ?_;refine zcq 12 O ?_;exact quq Jp rfl (by rw[stop_ok ha];exact .pur (qMq _ _))
 ·skip
  refine gIv 10 O (λR k0=>?_);refine gC 0 O (uSq v hc) ?_;refine gT 7 O (congrArg not (eqI_not.2 (ha))) ?_;refine zcq 13 O ?_;exact quq Jp rfl (by rw[stop_e ha];exact novt _ _)
theorem bodies_at{c:Ch}{i j:Nat}{x:Lk}(hx:c.links[i+1+j]? =some x):((y8q c i).take (j+1)).map bdW=((y8q c i).take j).map bdW++[bodW x.ds x.xs false false]:=by
 have e:(y8q c i)[j]? =some (bdL x):=by rw[y8q,List.getElem?_map,List.getElem?_drop,hx];rfl
 rw[List.take_add_one,e,List.map_append];rfl
theorem rroll_s(v:Vw)(hc:OkC v.ch)(hs:SmallC v.ch)(h:Int):PS cfg glK 14 [vwG v,.int .i64 h] (.tup [vwG (kPq v h).1,.fz ((kPq v h).2.1.map bdW) 2 false,.int .i64 (kPq v h).2.2]):=by
 by_cases ha:askE v=0
 ·obtain⟨⟨_,h1,h2,h3,h4⟩,hn⟩:=Xaq ha;by_cases hi:InV v h
  ·have hi0:=hi.1;have hi1:=hi.2;obtain⟨i,rfl⟩:=Int.eq_ofNat_of_zero_le (show 0<=h by omega);obtain⟨x0,hx0⟩:∃x,v.ch.links[i]? =some x:=⟨_,List.getElem?_eq_getElem Xd⟩
   have hsl:=hs.len;have hbl:(y8q v.ch i).length=v.ch.links.length-(i+1):=by unfold y8q;rw[List.length_map,List.length_drop]
   rw[roll_ok ha hi hx0];refine gIv 11 O (λR k0=>?_);refine gC 0 O (uSq v hc) ?_;refine gF 7 O (congrArg not (eqI_iff.2 (ha))) ?_;refine gC 10 O (zzq (w':=.bool true) (rinv_s v hc (i:Int)) (by rw[decide_eq_true (hi)])) ?_;refine gA 15 O (i+1) ?_;refine zcq 4 O ?_;refine kMq (α:=Nat) (λj=>i+1+j<=v.ch.links.length) 8 (λj=>((y8q v.ch i).take j).map bdW) 33 2 (λj=>[(9,.int .i64 ((i+1+j:Nat):Int))]) [(1,_),(2,_),(4,_),(5,_),(6,_)] _ (λj=>v.ch.links.length-j) (0) ⟨rfl,rfl,rfl,rfl,rfl,trivial⟩ Xd ⟨rfl,trivial⟩ O O O (λj hI=>?_);refine zBq 5 O ?_;refine gC 0 O (Ymq v hc.len) ?_;refine gS 3 O (λh1=>?_) (λh1=>?_)
   ·have hj:i+1+j<v.ch.links.length:=by omega
    obtain⟨x,hx⟩:∃x,v.ch.links[i+1+j]? =some x:=⟨_,List.getElem?_eq_getElem hj⟩
    obtain⟨b1,b2,_⟩:=hs.link x (List.mem_of_getElem? hx);have hlt:(((y8q v.ch i).take j).map bdW).length<=1000000:=by rw[List.length_map,List.length_take];omega
    have es:=bodies_at (c:=v.ch) hx;have ep:=kCq ((y8q v.ch i).take j);have ep2:purL (((y8q v.ch i).take j).map bdW++[bodW x.ds x.xs false false])=true:=by rw[<-es];exact kCq _
    refine gP 10 O (zDq (i:=i+1+j) O O O O O O O (zqq lkG hx)) ?_;refine gC 2 O (x6q x.ds x.xs false false b1 b2) ?_;refine gM 1 O (zKq O O (qeq [_,_,_] (k:=ti33) (news:=[bodW x.ds x.xs false false]) O O O O O (zJq O O O O) Xh (by show((((y8q v.ch i).take j).map bdW).length+1)*48<=_;omega) (by show(((y8q v.ch i).take j).map bdW).length+1<=_;omega) rfl Xh)) ?_;refine gA 6 O (i+1+(j+1)) ?_;refine zcq 2 O ?_;exact qXq 4 (j+1) Xd Xd (Nat.zero_le _) (es) Xu Xd Yg rfl Xx ⟨rfl,trivial⟩ ⟨rfl,rfl,rfl,rfl,rfl,trivial⟩ Xg Xg rfl Xk Xj Xz
   ·have hj:(y8q v.ch i).take j=y8q v.ch i:=List.take_of_length_le Xd;rw[hj];refine zcq 2 O ?_;refine yKq Xi ?_;refine zyq 14 O ?_;refine gC 0 O (rcto_s v.ch hs i hx0) ?_;refine gWr 8 O ?_;refine zcq 14 O ?_;exact quq Jp rfl (.tup (.cons (.pur Xh) (.cons (j8q (H0:=[_,_,_]) (b:=2) (e:=2) (ty:=33) Xm (kCq _) Xh) (.cons (.pur rfl) .nil))))
  ·skip
   refine gIv 11 O (λR k0=>?_);refine gC 0 O (uSq v hc) ?_;refine gF 7 O (congrArg not (eqI_iff.2 (ha))) ?_;refine gC 10 O (zzq (w':=.bool false) (rinv_s v hc h) (by rw[decide_eq_false (hi)])) ?_;refine zcq 14 O ?_;exact quq Jp rfl (by rw[roll_in ha hi];exact novt3 _ _)
 ·skip
  refine gIv 11 O (λR k0=>?_);refine gC 0 O (uSq v hc) ?_;refine gT 7 O (congrArg not (eqI_not.2 (ha))) ?_;refine zcq 14 O ?_;exact quq Jp rfl (by rw[roll_e ha];exact novt3 _ _)
theorem Jpq(l:List Bd)(hl:l.length<=1000000)(hb:∀x∈l,x.1.length<=1000000/\x.2.length<=1000000):PS cfg glK 20 [.fz (l.map bdW) 2 false,.fz (l.map bdW) 2 false] (.bool true):=by
 refine gI 9 O (λR k0=>gZ 0 O (List.length_map _) (gZ 1 O (List.length_map _) (gF 0 O (congrArg not (eqI_iff.2 (rfl))) ?_)));refine gLo (α:=Nat) 12 (λi=>i<=l.length) (λi=>[(5,.int .i64 (i:Int))]) [0,1,4] (λi=>l.length-i) (0) rfl (Nat.zero_le _) (λi hI=>?_);refine gZ 5 O (List.length_map _) ?_;refine gS 3 O (λh1=>?_) (λh1=>?_)
 ·have hi:i<l.length:=by omega
  obtain⟨x,hx⟩:∃x,l[i]? =some x:=⟨_,List.getElem?_eq_getElem hi⟩
  obtain⟨b1,b2⟩:=hb x (List.mem_of_getElem? hx);exact gP 8 O (zDq (i:=i) O O O O O O O (zqq bdW hx)) (gP 3 O (zDq (i:=i) O O O O O O O (zqq bdW hx)) (gC 1 O (zzq (w':=.bool true) (rsbody_s x.1 x.2 x.1 x.2 false false false false Xd Xd) (by rw[decide_eq_true (⟨rfl,rfl⟩)])) (gA 9 O (i+1) (gAg 2 O (i+1) (hi) Xd))))
 ·exact gO 2 O (gQa 8 O)
theorem rseal_s(v:Vw)(hc:OkC v.ch)(hs:SmallC v.ch)(hn:v.ch.tree.nodes.length<=900)(ds:List Depo)(xs:List Tx)(hB:BodOk ds xs)(box:Dig):PE cfg glK 10 [vwG v,bodW ds xs false false,dW box] (SealQ (λ_=>True) v ds xs box):=by
 by_cases ha:askE v=0
 ·obtain⟨⟨_,_,_,h3,h4⟩,hnm⟩:=Xaq ha;have hse:=Kdq ha ds xs box;refine gIe 12 O (λR k0=>gC 0 O (uSq v hc) (gF 7 O (congrArg not (eqI_iff.2 (ha))) (gE 11 O (radd17_s v.ch hc hs hn ds xs hB box) ?_)));rintro w hw ⟨A,a1,a2,rfl⟩;refine gS 15 O (λh1=>?_) (λh1=>?_)
  ·have h0:addF v.ch ds xs box≠0:=by omega
   exact zcq 10 O (yeq (w':=.tup [vwG noV,.int .i64 (addF v.ch ds xs box)]) Jp rfl (novt _ _) (qMq _ _) (vFq _ hse h0))
  ·have h0:addF v.ch ds xs box=0:=by omega
   obtain⟨hM,hA,_⟩:=a2 h0;exact gWr 13 O (zcq 12 O (yeq (w':=.tup [vwG ⟨v.number+1,v.down,v.final,A⟩,.int .i64 0]) Jp rfl (.pur (qMq ⟨v.number+1,v.down,v.final,A⟩ 0)) (qMq ⟨v.number+1,v.down,v.final,A⟩ 0) (sealq_ok _ (hse.trans h0) ⟨⟨rfl,rfl,rfl⟩,hM,hA⟩ trivial)))
 ·skip
  exact gIe 12 O (λR k0=>gC 0 O (uSq v hc) (gT 7 O (congrArg not (eqI_not.2 (ha))) (zcq 13 O (yeq (w':=.tup [vwG noV,.int .i64 (askE v)]) Jp rfl (novt _ _) (qMq _ _) (vFq _ (Kcq ha ds xs box) ha)))))
theorem rvalike_s(a b:Vw)(h:a.number=b.number/\a.down=b.down/\a.final=b.final)(hl:a.ch.links.length<=1000000)(hs:∀x∈a.ch.links,x.ds.length<=1000000/\x.xs.length<=1000000/\x.rs.length<=1000000)(hA:AlikeC a.ch b.ch):PS cfg glK 18 [vwG a,vwG b] (.bool true):=by
 obtain⟨h1,h2,h3⟩:=h;obtain⟨bn,bd,bf,bc⟩:=b;simp only at h1 h2 h3 hA;subst h1 h2 h3;refine gI 13 O (λR k0=>gT 0 O (eqI_iff.2 (rfl)) ?_);refine gT 5 O (by cases a.down<;>rfl) ?_;exact gT 6 O (eqI_iff.2 (rfl)) (gC 6 O (ralike_s a.ch bc hl hs hA) (gQa 5 O))
theorem seal_alike{u w v:Vw}{ds:List Depo}{xs:List Tx}{box:Dig}(a:SealC u v ds xs box)(b:SealC w v ds xs box):(u.number=w.number/\u.down=w.down/\u.final=w.final)/\AlikeC u.ch w.ch:=by
 obtain⟨⟨a1,a2,a3⟩,hM,hA⟩:=a;obtain⟨⟨b1,b2,b3⟩,_,hB⟩:=b;exact⟨⟨a1.trans b1.symm,a2.trans b2.symm,a3.trans b3.symm⟩,add_alike hM hA hB⟩
theorem k2q:SmallC noC:=⟨by simp[noC],λx h=>by simp[noC] at h,by simp[noC],λx h=>by simp[noC] at h⟩
theorem conf_small{v:Vw}(hs:SmallC v.ch)(h:Int):SmallC (vsq v h).1.ch:=by
 unfold vsq;split
 ·exact k2q
 ·split
  ·exact k2q
  ·exact hs
theorem stop_small{v:Vw}(hs:SmallC v.ch):SmallC (Ztq v).1.ch:=by
 unfold Ztq;split
 ·exact k2q
 ·exact hs
theorem roll_small{v:Vw}(hs:SmallC v.ch)(h:Int):SmallC (kPq v h).1.ch/\(kPq v h).2.1.length<=1000000/\∀x∈(kPq v h).2.1,x.1.length<=1000000/\x.2.length<=1000000:=by
 unfold kPq;split
 ·exact⟨k2q,by simp,λx q=>by cases q⟩
 ·split
  ·exact⟨k2q,by simp,λx q=>by cases q⟩
  ·split
   ·refine⟨hs.cut _ _,?_,λx q=>?_⟩
    ·show(y8q v.ch _).length<=_;unfold y8q;have:=hs.len;rw[List.length_map,List.length_drop];omega
    ·obtain⟨y,hy,rfl⟩:=List.mem_map.1 (show x∈y8q v.ch _ from q);obtain⟨b1,b2,_⟩:=hs.link y (List.mem_of_mem_drop hy);exact⟨b1,b2⟩
   ·exact⟨k2q,by simp,λx q=>by cases q⟩
theorem turns_s(v:Vw)(hc:OkC v.ch)(ds:List Depo)(xs:List Tx)(hB:BodOk ds xs)(box:Dig)(h:Int):PS cfg glK 3 [vwG v,bodW ds xs false false,dW box,.int .i64 h] (.bool true):=by
 by_cases hg:Q2q v.ch 5
 ·skip
  exact gI 12 O (λR k0=>gC 0 O (zzq (w':=.bool true) (KNq v 5 hc.nodes hc.len) (by rw[decide_eq_true (hg)])) (gQa 14 O))
 by_cases hk:yVq ds xs
 ·skip
  exact gI 12 O (λR k0=>gC 0 O (zzq (w':=.bool false) (KNq v 5 hc.nodes hc.len) (by rw[decide_eq_false (hg)])) (gC 2 O (zzq (w':=.bool true) (Qiq ds xs false false) Jg) (gQa 11 O)))
 obtain⟨g1,g2,g3⟩:=greatc_no hg;have hs:=greatc_small Xm hg;have sp:=conf_small hs h;have st:=stop_small hs;obtain⟨sr,sl,sb⟩:=roll_small hs h;refine gI 12 O (λR k0=>gC 0 O (zzq (w':=.bool false) (KNq v 5 hc.nodes hc.len) (by rw[decide_eq_false (hg)])) (gC 2 O (zzq (w':=.bool false) (Qiq ds xs false false) (by rw[decide_eq_false (hk)])) (gC 9 O (Kfq v hs) (gE 9 O (vseal2_s v hc hs Xd ds xs hB box) ?_))));rintro w hw ⟨X,x1,x2,rfl⟩;refine gE 13 O (rseal_s v hc hs g1 ds xs hB box) ?_;rintro w hw ⟨Y,y1,y2,rfl⟩;refine gC 12 O (vconf2_s v hc hs h) (gC 12 O (rconf_s v hc hs h) (gC 12 O (vroll2_s v hc hs h) (gC 14 O (rroll_s v hc hs h) (gC 13 O (vstop2_s v hc hs) (gC 11 O (rstop_s v hc hs) (gT 12 O (eqI_iff.2 (rfl)) ?_))))));refine gD 2 O (λh1=>?_) (λh1=>?_)
 ·have hx:¬Keq v ds xs box=0:=by omega
  exact gZ 4 O (List.length_map _) (gT 0 O (eqI_iff.2 (by rw[x1 hx];rfl)) (gC 24 O (zzq (w':=.bool true) (kHq (vsq v h).1 (vsq v h).1 sp sp) Yp) (gT 4 O (eqI_iff.2 (rfl)) (gC 4 O (zzq (w':=.bool true) (kHq (kPq v h).1 (kPq v h).1 sr sr) Yp) (gC 4 O (Jpq (kPq v h).2.1 sl sb) (gT 4 O (eqI_iff.2 (rfl)) (gC 4 O (zzq (w':=.bool true) (kHq (Ztq v).1 (Ztq v).1 st st) Yp) (gT 4 O (eqI_iff.2 (rfl)) (gC 4 O (zzq (w':=.bool true) (kHq v v hs hs) Yp) (gQa 5 O))))))))))
 ·have hx:Keq v ds xs box=0:=by omega
  obtain⟨qX,oX,sX,mX⟩:=x2 hx;obtain⟨e1,e2⟩:=seal_alike qX (y2 hx).1;exact gT 9 O (eqI_iff.2 (hx)) (gC 2 O (zzq (w':=.bool true) (Kgq X oX) (by rw[decide_eq_true (mX)])) (gC 4 O (rvalike_s X Y e1 sX.len sX.link e2) (gC 12 O (zzq (w':=.bool true) (kHq (vsq v h).1 (vsq v h).1 sp sp) Yp) (gT 4 O (eqI_iff.2 (rfl)) (gC 4 O (zzq (w':=.bool true) (kHq (kPq v h).1 (kPq v h).1 sr sr) Yp) (gC 4 O (Jpq (kPq v h).2.1 sl sb) (gT 4 O (eqI_iff.2 (rfl)) (gC 4 O (zzq (w':=.bool true) (kHq (Ztq v).1 (Ztq v).1 st st) Yp) (gT 4 O (eqI_iff.2 (rfl)) (gC 4 O (zzq (w':=.bool true) (kHq v v hs hs) Yp) (gQa 5 O)))))))))))
end
mutual
/-- all blocks in it lie below n -/
noncomputable def ltB(n:Nat):V->Bool
 |.ptr b _=>decide (b<n)
 |.sl b _ _ _ _ _=>decide (b<n)
 |.map b=>decide (b<n)
 |.yield b=>decide (b<n)
 |.fn _ a c=>ltL n a&&ltL n c
 |.iface _ v=>ltB n v
 |.agg _ l=>ltL n l
 |.arr _ _ l=>ltL n l
 |.tup l=>ltL n l
 |.undef=>true
 |.bool _=>true
 |.int _ _=>true
 |.str _=>true
 |.nilp=>true
 |.nils=>true
 |.nilm=>true
 |.nilf=>true
 |.nili=>true
noncomputable def ltL(n:Nat):List V->Bool
 |[]=>true
 |v::l=>ltB n v&&ltL n l
end
noncomputable def SeenK(h:Heap):Nat->Prop:=λb=>b<h.next/\∃v,h.val b=some v/\ltB h.next v=true
noncomputable def u32V(n:Nat):V:=.int .u32 (.ofNat n)
noncomputable def eqK:List V->List Nat->Bool
 |[],[]=>true
 |.int .u32 (.ofNat n)::l,m::ms=>match Nat.beq n m with
  |true=>eqK l ms
  |false=>false
 |_,_=>false
theorem eqK_spec:∀{l:List V} {ms:List Nat},eqK l ms=true->l=ms.map u32V
 |[],[],_=>rfl
 |[],_::_,h=>by simp[eqK] at h
 |v::l,ms,h=>by
  unfold eqK at h;split at h
  ·simp_all
  ·rename_i n l' m ms' e;cases e;split at h
   ·rename_i hb;obtain rfl:=Nat.eq_of_beq_eq_true hb;rw[eqK_spec h];rfl
   ·cases h
  ·cases h
noncomputable def globK(h:Heap):Bool:=match h.get 0 with
 |some (.ro (.arr 64 1 l))=>eqK l kW
 |_=>false
theorem RSL_wd(Γ:Ctx):∀l:List Nat,RSL Γ (l.map wd) (l.map u32V)
 |[]=>rfl
 |n::l=>jdq (a:=[u32V n]) (b:=l.map u32V) (x:=wd n) rfl (RSL_wd Γ l)
theorem globK_spec{h:Heap}(hn:Nat.ble 2 h.next=true)(hk:globK h=true):GRel cfg glK ⟨0,λi=>i,SeenK h,h⟩:=by
 intro g w _ h2 nw σ;have hn:=Ob hn;unfold glK at h2;split at h2
 ·cases h2;unfold globK at hk;split at hk
  ·rename_i l hg;obtain rfl:=eqK_spec hk;have hv:h.val 0=some (.arr 64 1 (kW.map u32V)):=by simp only[Heap.val,hg]
   refine RV.of_one ⟨0,0,_,rfl,⟨by omega,_,hv,by rfl⟩,hv,by exact Nat.le_refl _,λ_=>rfl,.inr rfl,?_⟩ O O;have e:((zoq (.arr 64 1 (kW.map u32V))).drop 0).take 64=kW.map u32V:=by kernel_rfl
   show RS _ _ (((zoq (.arr 64 1 (kW.map u32V))).drop 0).take 64);rw[e];exact⟨rfl,λx hx=>by obtain⟨n,_,rfl⟩:=List.mem_map.1 hx;rfl,RSL_wd _ kW⟩
  ·cases hk
 ·cases h2
end
end Go.Proofs.YtfliaigjcadegabGreatDoor

/-
  What the proof of ViewTurns stands on, part 7. No condition.
-/
import Derived.Ground.Names2Prog
import Derived.Ground.SlbNamesProg
import Derived.Shelf.Bytes.SlJoin
import Derived.Ground.SlgnProg
import Derived.Test.YtfliaigjcadegabGreatDoorProg
import Derived.Test.YtfliaigjcadegabGreatDoorZViewTurnsF
set_option linter.unusedSimpArgs false
set_option linter.unusedVariables false
namespace Go.Proofs.YtfliaigjcadegabGreatDoor
section
open Go.RowKit
section
attribute [local irreducible] CoW OpW FlW Step Spec
variable {G:Nat->Option W}
structure Tx where
 pub:Dig
 to:Dig
 nonce:Nat
 amount:Nat
 fee:Nat
 sign:Dig
noncomputable def txW(x:Tx):W:=.agg 99 [dW x.pub,dW x.to,.int .u64 (x.nonce:Int),.int .u64 (x.amount:Int),.int .u64 (x.fee:Int),dW x.sign]
@[simp] theorem jnq(x:Tx):purW (txW x)=true:=by simp[txW]
structure Tx.ok(x:Tx):Prop where
 nonce:x.nonce<18446744073709551616
 amount:x.amount<18446744073709551616
 fee:x.fee<18446744073709551616
def yRq(x:Tx):List UInt8:=(x.pub.1++x.to.1)++[x.nonce,x.amount,x.fee].flatMap (beB 8)
theorem body1_s(d:Dig):PS cfg G 337 [dW d] (bW d.1):=by
 exact gIv 13 O (λR k0=>quq Jp rfl (.sl (full:=false) (xs:=zaq d.1) rfl Xh (zfq Xm (by simp[zdq,d.2]) rfl) Xi))
theorem body2_s(n:Nat)(hn:n<18446744073709551616):PS cfg G 339 [.int .u64 (n:Int)] (bW (beB 8 n)):=by
 refine gIv 8 O (λR k0=>?_)
 (refine zjq rfl (qBq O O O O O O (Q8q n 8 Xd Xd (by show n<18446744073709551616;omega)) ?_);rintro w hp1 nw1 ⟨rfl,rfl,rfl⟩)
 exact zgq 14 O (quq Jp rfl (.sl (full:=false) (c:=.arr (8*1) 1 (zaq (beB 8 n))) (xs:=zaq (beB 8 n)) rfl Xh (zfq Xm (by rw[zdq,yiq]) rfl) Xi))
theorem flat_app{ds:List Dig}{i:Nat}{d:Dig}(h:ds[i]? =some d):zaq ((ds.take (i+1)).flatMap (·.1))=zaq ((ds.take i).flatMap (·.1))++zaq d.1:=by
 rw[List.take_add_one,h,<-yMq];congr 1
 simp
theorem flat_dig:∀(ds:List Dig) (i:Nat),((ds.take i).flatMap (·.1)).length<=i*32
 |[],i=>by simp
 |d::ds,0=>by simp
 |d::ds,i+1=>by
  have:=flat_dig ds i;simp only[List.take_succ_cons,List.flatMap_cons,List.length_append,d.2,Nat.succ_mul];omega
@[simp] theorem dWs_pur(ds:List Dig):purL (ds.map dW)=true:=z7q (λx=>by simp) ds
theorem putd_s(ds:List Dig)(f:Bool)(hn:ds.length<1000):PL cfg G 336 [.nils,.fz (ds.map dW) 32 f,.fn 337 [] []] 5 1 (zaq (ds.flatMap (·.1))):=by
 have e:(ds.map dW).length=ds.length:=List.length_map _;intro R;refine gIs 9 O (λk0=>?_);refine gV (w':=.int .i64 (ds.length:Int)) 0 O Xv (zcq 4 O ?_);refine kMq (α:=Nat) (λi=>i<=ds.length) 0 (λi=>zaq ((ds.take i).flatMap (·.1))) 5 1 (λi=>[(11,.int .i64 (i:Int))]) [(2,_),(6,_),(9,_),(10,_)] _ (λi=>ds.length-i) (0) ⟨rfl,rfl,rfl,rfl,trivial⟩ (Nat.zero_le _) ⟨rfl,trivial⟩ O O O (λi hI=>?_);refine zBq 6 O ?_;refine gS 0 O (λh1=>?_) (λh1=>?_)
 ·have hi:i<ds.length:=by omega
  obtain⟨d,hd⟩:∃d,ds[i]? =some d:=⟨_,List.getElem?_eq_getElem hi⟩
  have hN:(zaq d.1).length=32:=by rw[zdq,d.2]
  have hne:zaq ((ds.take i).flatMap (·.1))++zaq d.1≠[]:=λh=>by have:=congrArg List.length h;rw[List.length_append,hN] at this;simp at this
  have hL:(zaq ((ds.take i).flatMap (·.1))).length<=i*32:=by rw[zdq];exact flat_dig ds i
  exact gP 6 O (zDq (i:=i) O O O O O O O (zqq dW hd)) (gC 9 O (body1_s d) (gM 0 O (zKq O O (qeq [_] (k:=ti5) (news:=zaq d.1) O O O O O O Yo (by rw[hN];show(_+32)*1<=_;omega) Qn rfl Xh)) (gWr 5 O (zcq 2 O (qXq 2 (i+1) (hi) Xd (Nat.zero_le _) (flat_app hd) Xu Xd Yg rfl Xx ⟨rfl,trivial⟩ ⟨rfl,rfl,rfl,rfl,trivial⟩ Xg Xg rfl Xk Xj Xz)))))
 ·have hi:i=ds.length:=by omega
  subst hi;refine zcq 2 O (yKq Xi (zyq 9 O ?_));rw[List.take_length];exact fin Jp (yhq (fr2:=[(6,gW 0 1 (zaq (ds.flatMap (·.1))))]) ⟨rfl,trivial⟩ O O) rfl ⟨rfl,rfl,rfl,rfl⟩
theorem flat_num:∀(ns:List Nat) (i:Nat),((ns.take i).flatMap (beB 8)).length<=i*8
 |[],i=>by simp
 |d::ds,0=>by simp
 |d::ds,i+1=>by
  have:=flat_num ds i;simp only[List.take_succ_cons,List.flatMap_cons,List.length_append,yiq,Nat.succ_mul];omega
noncomputable def uW(n:Nat):W:=.int .u64 (n:Int)
@[simp] theorem uWs_pur(ns:List Nat):purL (ns.map uW)=true:=z7q (λx=>rfl) ns
noncomputable def thr(i:Nat):Nat:=match i with
 |0=>0
 |_+1=>1
theorem putu_s(l:List UInt8)(hl0:l≠[])(hl:l.length<100000)(ns:List Nat)(f:Bool)(hn:ns.length<1000)(hns:ns≠[])(hu:∀n∈ns,n<18446744073709551616):yuq cfg G 338 1 [.sl 0 0 0 l.length 1 none,.fz (ns.map uW) 1 f,.fn 339 [] []] [(0,5,.arr l.length 1 (zaq l))] λw hp nw=>w= .sl 1 0 0 (l++ns.flatMap (beB 8)).length 1 none/\hp=[(1,5,.arr (l++ns.flatMap (beB 8)).length 1 (zaq (l++ns.flatMap (beB 8))))]/\nw=2:=by
 have e:(ns.map uW).length=ns.length:=List.length_map _;intro R;refine gIs 9 O (λk0=>?_);refine gV (w':=.int .i64 (ns.length:Int)) 0 O Xv (zcq 4 O ?_);refine qGq (α:=Nat) (λi=>i<=ns.length) (λi=>[(11,.int .i64 (i:Int)),(0,.sl (thr i) 0 0 (l++(ns.take i).flatMap (beB 8)).length 1 none),(2,.fn 339 [] []),(6,.nils),(9,.fz (ns.map uW) 1 f),(10,.int .i64 (ns.length:Int))]) (λi=>[(thr i,5,.arr (l++(ns.take i).flatMap (beB 8)).length 1 (zaq (l++(ns.take i).flatMap (beB 8))))]) (λi=>thr i+1) (λ_=>R) (λi=>ns.length-i) 0 (Nat.zero_le _) (yhq ⟨rfl,by show some (W.sl 0 0 0 l.length 1 none)=some (W.sl 0 0 0 (l++[]).length 1 none);rw[List.append_nil],rfl,rfl,rfl,rfl,trivial⟩ (by simp[thr]) rfl) (λi hI=>?_);skip
 refine zBq 6 O ?_;refine gS 0 O (λh1=>?_) (λh1=>?_)
 ·have hi:i<ns.length:=by omega
  obtain⟨u,hu0⟩:∃u,ns[i]? =some u:=⟨_,List.getElem?_eq_getElem hi⟩
  have hu1:=hu u (List.mem_of_getElem? hu0);have hN:(zaq (beB 8 u)).length=8:=by rw[zdq,yiq]
  have hL:(l++(ns.take i).flatMap (beB 8)).length<=100000+i*8:=by have:=flat_num ns i;rw[List.length_append];omega
  have hnx:l++(ns.take (i+1)).flatMap (beB 8)=(l++(ns.take i).flatMap (beB 8))++beB 8 u:=by rw[List.take_add_one,hu0];simp
  have hlen:(l++(ns.take i).flatMap (beB 8)).length+(zaq (beB 8 u)).length=(l++(ns.take (i+1)).flatMap (beB 8)).length:=by rw[hnx,List.length_append (bs:=beB 8 u),zdq]
  have hby:zaq (l++(ns.take i).flatMap (beB 8))++zaq (beB 8 u)=zaq (l++(ns.take (i+1)).flatMap (beB 8)):=by rw[hnx,yMq (b:=beB 8 u)]
  skip
  cases i with
  |zero=>
   refine yAq 6 O (gP 0 O (zDq (i:=0) O O O O O O O (zqq uW hu0)) (gC 8 O (body2_s u hu1) (gM 0 O (zKq O O (yQq (k:=ti5) (len:=(l++(ns.take 0).flatMap (beB 8)).length) (news:=zaq (beB 8 u)) (olds:=zaq (l++(ns.take 0).flatMap (beB 8))) O O O O O Yo (by rw[hN];show(_+8)*1<=_;omega) Qn rfl (by rw[hN];show(l++(ns.take 0).flatMap (beB 8)).length<0+(_+8)*1;omega) rfl (zfq Xm (zdq _).symm (Nat.mul_one _).symm))) (gA 5 O (0+1) (zcq 2 O ?_)))));skip
   refine yHq 1 hi Xd (yhq ⟨rfl,?_,rfl,rfl,rfl,rfl,trivial⟩ ?_ rfl)
   ·show some (W.sl 1 0 0 ((l++(ns.take 0).flatMap (beB 8)).length+(zaq (beB 8 u)).length) 1 none)=some (W.sl 1 0 0 (l++(ns.take (0+1)).flatMap (beB 8)).length 1 none);rw[hlen]
   ·show [(1,5,W.arr (((l++(ns.take 0).flatMap (beB 8)).length+(zaq (beB 8 u)).length)*1) 1 (zaq (l++(ns.take 0).flatMap (beB 8))++zaq (beB 8 u)))]=[(1,5,W.arr (l++(ns.take (0+1)).flatMap (beB 8)).length 1 (zaq (l++(ns.take (0+1)).flatMap (beB 8))))];rw[hlen,hby,Nat.mul_one]
  |succ i=>
   refine yAq 6 O (gP 0 O (zDq (i:=(i+1)) O O O O O O O (zqq uW hu0)) (gC 8 O (body2_s u hu1) (gM 0 O (zKq O O (yQq (k:=ti5) (len:=(l++(ns.take (i+1)).flatMap (beB 8)).length) (news:=zaq (beB 8 u)) (olds:=zaq (l++(ns.take (i+1)).flatMap (beB 8))) O O O O O Yo (by rw[hN];show(_+8)*1<=_;omega) Qn rfl (by rw[hN];show(l++(ns.take (i+1)).flatMap (beB 8)).length<0+(_+8)*1;omega) rfl (zfq Xm (zdq _).symm (Nat.mul_one _).symm))) (gA 5 O ((i+1)+1) (zcq 2 O ?_)))));skip
   refine yHq (i+1+1) hi (show ns.length-(i+1+1)<ns.length-(i+1) by omega) ?_;refine(ydq (b:=1) (k:=2) Xd Xd (by show 2<3;omega) ⟨⟨rfl,rfl⟩,⟨?_,rfl⟩,⟨rfl,rfl⟩,⟨rfl,rfl⟩,⟨by rw[zeq (show purW (.fz (ns.map uW) 1 f)=true from uWs_pur ns)];rfl,zbq (show purW (.fz (ns.map uW) 1 f)=true from uWs_pur ns)⟩,⟨rfl,rfl⟩,trivial⟩ ⟨⟨by show 1<2;omega,?_,zbq (show purW (.arr _ 1 (zaq _))=true from yLq _)⟩,trivial⟩ Xh)
   ·show some (W.sl 2 0 0 ((l++(ns.take (i+1)).flatMap (beB 8)).length+(zaq (beB 8 u)).length) 1 none)=some (W.sl 2 0 0 (l++(ns.take (i+1+1)).flatMap (beB 8)).length 1 none);rw[hlen]
   ·show some (5,W.arr (((l++(ns.take (i+1)).flatMap (beB 8)).length+(zaq (beB 8 u)).length)*1) 1 (zaq (l++(ns.take (i+1)).flatMap (beB 8))++zaq (beB 8 u)))=some (5,renW _ (W.arr (l++(ns.take (i+1+1)).flatMap (beB 8)).length 1 (zaq (l++(ns.take (i+1+1)).flatMap (beB 8)))));rw[zeq (show purW (.arr _ 1 (zaq _))=true from yLq _),hlen,hby,Nat.mul_one]
 ·have hi:i=ns.length:=by omega
  subst hi;refine zcq 2 O (yKq Xi (zyq 9 O ?_));rw[List.take_length];cases ns with
  |nil=>exact absurd rfl hns
  |cons a r=>
   exact fin Jp (yhq (fr2:=[(6,.sl 1 0 0 (l++(a::r).flatMap (beB 8)).length 1 none)]) ⟨rfl,trivial⟩ O O) rfl ⟨rfl,rfl,rfl,rfl⟩
theorem put2_s(a b:Dig)(f:Bool):yuq cfg G 336 0 [.nils,.fz [dW a,dW b] 32 f,.fn 337 [] []] [] λw hp nw=>w= .sl 0 0 0 (a.1++b.1).length 1 none/\hp=[(0,5,.arr (a.1++b.1).length 1 (zaq (a.1++b.1)))]/\nw=1:=by
 refine jFq (putd_s [a,b] f Xh) λw hp nw h=>?_
 obtain⟨rfl,rfl,rfl⟩:=h;have e:[a,b].flatMap (·.1)=a.1++b.1:=by simp
 have hl:(zaq (a.1++b.1)).length=64:=by rw[zdq,List.length_append,a.2,b.2]
 have hne:zaq (a.1++b.1)≠[]:=λh=>by rw[h] at hl;cases hl
 rw[e,qhq hne,qiq hne,zdq,Nat.mul_one];exact⟨rfl,rfl,rfl⟩
theorem xMq(x:Tx):(yRq x).length=88:=by simp[yRq,x.pub.2,x.to.2,yiq]
theorem bodyL_s(x:Tx)(hx:x.ok):PL cfg G 314 [txW x] 5 1 (zaq (yRq x)):=by
 have hl:(x.pub.1++x.to.1).length=64:=by rw[List.length_append,x.pub.2,x.to.2]
 have hb:=xMq x
 have hns:∀n∈[x.nonce,x.amount,x.fee],n<18446744073709551616:=λn hn=>by
  simp only[List.mem_cons,List.not_mem_nil,or_false] at hn;rcases hn with rfl|rfl|rfl
  ·exact hx.nonce
  ·exact hx.amount
  ·exact hx.fee
 have hpa:purW (.arr (x.pub.1++x.to.1).length 1 (zaq (x.pub.1++x.to.1)))=true:=yLq _;intro R;refine gIs 13 O (λk0=>?_)
 (refine qqq (λ_=>kUq 1 [(1,.ptr 0 0),(2,.nils),(8,.fz [dW x.pub,dW x.to] 32 false)] [(0,165,txW x)] rfl (show purL [dW x.pub,dW x.to]=true by simp) (Nat.zero_le _) ⟨⟨_,rfl,.ptrK rfl⟩,⟨_,rfl,.pur rfl⟩,⟨_,rfl,.sl (full:=false) rfl (show purL [dW x.pub,dW x.to]=true by simp) rfl Xi⟩,trivial⟩ ⟨⟨by omega,_,rfl,.pur Xh⟩,trivial⟩ Xh) ?_;refine zjq rfl (qBq O O O O O Xh (put2_s x.pub x.to false) ?_);rintro w hp1 nw1 ⟨rfl,rfl,rfl⟩)
 refine zgq 13 O ?_
 (refine qqq (λ_=>kUq 3 [(1,.ptr 0 0),(2,.nils),(10,.sl 2 0 0 (x.pub.1++x.to.1).length 1 none),(17,.fz ([x.nonce,x.amount,x.fee].map uW) 1 false)] [(2,5,.arr (x.pub.1++x.to.1).length 1 (zaq (x.pub.1++x.to.1))),(0,165,txW x)] O O (Nat.zero_le _) ⟨⟨_,rfl,.ptrK rfl⟩,⟨_,rfl,.pur rfl⟩,⟨_,rfl,.slK rfl⟩,⟨_,rfl,.sl (full:=false) O O O Xi⟩,trivial⟩ ⟨⟨by omega,_,rfl,by rw[zeq hpa];exact .pur hpa⟩,⟨by omega,_,rfl,.pur Xh⟩,trivial⟩ Xh) ?_;refine zjq rfl (z3q (ext:=[2]) (ws:=[.sl 0 0 0 (x.pub.1++x.to.1).length 1 none,.fz ([x.nonce,x.amount,x.fee].map uW) 1 false,.fn 339 [] []]) O O O O O (putu_s (x.pub.1++x.to.1) (by intro h;rw[h] at hl;cases hl) Xd [x.nonce,x.amount,x.fee] false Xh Xh hns) Xh Xh Xh (vhq (by rw[zeq hpa];rfl) (zbq hpa)) O ?_);rintro w hp1 nw1 ⟨rfl,rfl,rfl⟩)
 refine zgq 4 O ?_;have hpb:purW (.arr (yRq x).length 1 (zaq (yRq x)))=true:=yLq _;have hn:(zaq (yRq x)).length=88:=by rw[zdq,hb]
 have hne:zaq (yRq x)≠[]:=λh=>by rw[h] at hn;cases hn
 refine fin (fr2:=[(2,.sl 0 0 0 (yRq x).length 1 none)]) (hp2:=[(0,5,.arr (yRq x).length 1 (zaq (yRq x)))]) (nw2:=1) (w:=.sl 0 0 0 (yRq x).length 1 none) Jp (ydq (b:=0) (k:=4) Xd Xd Ym ⟨⟨rfl,rfl⟩,trivial⟩ ⟨⟨by omega,?_,zbq hpb⟩,trivial⟩ Xh) rfl ⟨rfl,?_,?_,rfl⟩
 ·show some (5,renW _ (W.arr (yRq x).length 1 (zaq (yRq x))))=some (5,renW _ (W.arr (yRq x).length 1 (zaq (yRq x))));rw[zeq hpb,zeq hpb]
 ·rw[qhq hne,zdq]
 ·rw[qiq hne,zdq,Nat.mul_one]
theorem body_s(x:Tx)(hx:x.ok):PS cfg G 314 [txW x] (bW (yRq x)):=(bodyL_s x hx).ps Xm Xh
noncomputable def jOq(x:Tx):Dig:=tagD 4 [yRq x]
theorem sign_s(x:Tx)(hx:x.ok):PS cfg glK 265 [txW x] (dW (jOq x)):=by
 have hb:=xMq x;refine gI 9 O (λR k0=>gC 0 O (body_s x hx) (zcq 1 O ?_));refine xAq O O O O O (by(repeat (first|exact .nil|refine .cons ?_ ?_|(refine .sl O ?_ rfl Xi;first|rfl|(focus (simp;done)))|(refine yxq O ?_ rfl;first|rfl|(focus (simp;done)))|(refine .pur ?_;first|rfl|(focus (simp;done)))))) (j0q 4 [yRq x] false Xh (by simp[hb])) Xk Xk ?_;exact zgq 4 O (gQa 0 O)
theorem kXq(x:Tx)(hx:x.ok):PS cfg glK 198 [txW x] (.int .i64 (if x.sign=jOq x then 0 else 110)):=by
 refine ps_in (fn:=Tryz.f198) O O O (Ob rfl) (λR k0=>?_);by_cases h:x.sign=jOq x
 ·rw[if_pos h];skip
  exact zBq 12 O (gC 0 O (sign_s x hx) (fl_val (w':=.bool false) rfl (jwq O O O O (yXq O O O O O O x.sign (jOq x) 250)) (by rw[decide_eq_true h];rfl) (ybq 11 O (gQa 0 O))))
 ·rw[if_neg h];exact zBq 12 O (gC 0 O (sign_s x hx) (fl_val (w':=.bool true) rfl (jwq O O O O (yXq O O O O O O x.sign (jOq x) 250)) (by rw[decide_eq_false h];rfl) (ybq 10 O (gQa 0 O))))
theorem from_s(x:Tx):PS cfg glK 277 [txW x] (dW (keyD x.pub)):=by
 exact gI 10 O (λR k0=>gC 0 O (key_s x.pub) (gQa 4 O))
def StepA(H:Tree->HpW)(m:Nat)(b:Bool)(P:Tree->T->Prop):W->HpW->Nat->Prop:=λw hp nw=>∃t n t0,IsA t n t0/\P t t0/\w= .bool b/\hp=H t/\nw=m
noncomputable def pay1H(x:Tx)(a:Acct)(k:Dig)(t:Tree):HpW:=[(0,165,txW x),(1,169,aW a),(2,391,.ptr 4 0),(3,35,dW k),(4,392,tW t)]
noncomputable def Jaq(x:Tx)(t:Tree):HpW:=[(0,391,.ptr 2 0),(1,165,txW x),(2,392,tW t)]
noncomputable def Q9q(x:Tx)(k:Dig)(t:Tree):HpW:=[(0,391,.ptr 3 0),(1,35,dW k),(2,165,txW x),(3,392,tW t)]
theorem pay1_no(x:Tx)(hx:x.ok)(a:Acct)(ha:a.ok)(k:Dig)(t:Tree)(n:Nat)(t0:T)(h:IsA t n t0)(ho:¬x.amount+x.fee<=a.balance):yuq cfg G 280 5 [.ptr 0 0,.ptr 1 0,.ptr 2 0,.ptr 3 0] (pay1H x a k t) (StepA (pay1H x a k) 5 false (λt' t1=>t'=t/\t1=t0)):=by
 intro R;have h1:=hx.amount;have h2:=hx.fee;have h3:=ha.2;by_cases ov:x.amount+x.fee<18446744073709551616
 ·skip
  refine gIs 11 O (λk0=>?_)
  (refine zjq rfl (k0q (a:=x.amount) (b:=x.fee) O O O O ?_))
  refine z1q O O (Y7q (w':=.int .u64 ((x.amount+x.fee:Nat):Int)) O O (congrArg (λq:Nat=>W.int .u64 (q:Int)) Xd) ?_);exact Y7q (w':=.int .u64 ((0:Nat):Int)) O O (congrArg (λq:Nat=>W.int .u64 (q:Int)) Xd) (zgq 8 O (gFa 0 O (gT 4 O (ltI_iff.2 Xd) (zcq 11 O (fin Jp (yhq (fr2:=[(4,.bool false)]) ⟨rfl,trivial⟩ O O) rfl ⟨rfl,t,n,t0,h,⟨rfl,rfl⟩,rfl,rfl,rfl⟩)))))
 ·skip
  refine gIs 11 O (λk0=>?_)
  (refine zjq rfl (k0q (a:=x.amount) (b:=x.fee) O O O O ?_))
  exact zgq 2 O (gV (w':=.int .u64 ((1:Nat):Int)) 0 O (congrArg (λq:Nat=>W.int .u64 (q:Int)) Xd) (gTa 8 O (zcq 16 O (fin Jp (yhq (fr2:=[(4,.bool false)]) ⟨rfl,trivial⟩ O O) rfl ⟨rfl,t,n,t0,h,⟨rfl,rfl⟩,rfl,rfl,rfl⟩))))
theorem pay1_st(x:Tx)(hx:x.ok)(a:Acct)(ha:a.ok)(k:Dig)(t:Tree)(n:Nat)(t0:T)(h:IsA t n t0)(hl:t.nodes.length<=261844)(ho:x.amount+x.fee<=a.balance):yuq cfg G 280 5 [.ptr 0 0,.ptr 1 0,.ptr 2 0,.ptr 3 0] (pay1H x a k t) (StepA (pay1H x a k) 5 true (kEq t 257 (setL t0.all k ⟨a.nonce,a.balance-(x.amount+x.fee)⟩))):=by
 intro R;have h1:=hx.amount;have h2:=hx.fee;have h3:=ha.2;refine gIs 11 O (λk0=>?_)
 (refine zjq rfl (k0q (a:=x.amount) (b:=x.fee) O O O O ?_))
 refine z1q O O (Y7q (w':=.int .u64 ((x.amount+x.fee:Nat):Int)) O O (congrArg (λq:Nat=>W.int .u64 (q:Int)) Xd) ?_);refine Y7q (w':=.int .u64 ((0:Nat):Int)) O O (congrArg (λq:Nat=>W.int .u64 (q:Int)) Xd) (zgq 8 O (gFa 0 O (gF 4 O (ltI_not.2 Xd) (gA 15 O (a.balance-(x.amount+x.fee)) (zcq 1 O ?_)))))
 (refine zjq rfl (xlq 4 O O O O Xh Xd O O (turn_st t n t0 k ⟨a.nonce,a.balance-(x.amount+x.fee)⟩ h ⟨ha.1,by show a.balance-(x.amount+x.fee)<_;omega⟩ hl) ?_);rintro t' n' t1 h' hP)
 exact zgq 8 O (fin (hp2:=pay1H x a k t') Jp (y0q (nw2:=5) (fr2:=[(4,.bool true)]) Xd Xd ⟨rfl,trivial⟩ rfl (y4q ⟨⟨by omega,rfl,zbq (jnq x)⟩,⟨by omega,rfl,rfl⟩,⟨by omega,rfl,rfl⟩,⟨by omega,rfl,zbq (jVq k)⟩,⟨by omega,rfl,zbq (qkq t')⟩,trivial⟩) (by simp[pay1H])) rfl ⟨rfl,t',n',t1,h',hP,rfl,rfl,rfl⟩)
theorem pay2_no(x:Tx)(hx:x.ok)(t:Tree)(n:Nat)(t0:T)(h:IsA t n t0)(ho:18446744073709551616<=(yNq t0 x.to).balance+x.amount):yuq cfg G 282 3 [.ptr 0 0,.ptr 1 0] (Jaq x t) (StepA (Jaq x) 3 false (kEq t 257 t0.all)):=by
 intro R;refine gIs 12 O (λk0=>?_)
 (refine zjq rfl (xlq 2 O O O O Xh Xd O O (more_no t n t0 x.to x.amount h hx.amount ho) ?_);rintro t' n' t1 h' hP)
 exact zgq 4 O (fin (hp2:=Jaq x t') Jp (y0q (nw2:=3) (fr2:=[(2,.bool false)]) Xd Xd ⟨rfl,trivial⟩ rfl (y4q ⟨⟨by omega,rfl,rfl⟩,⟨by omega,rfl,zbq (jnq x)⟩,⟨by omega,rfl,zbq (qkq t')⟩,trivial⟩) (by simp[Jaq])) rfl ⟨rfl,t',n',t1,h',hP,rfl,rfl,rfl⟩)
theorem pay2_st(x:Tx)(t:Tree)(n:Nat)(t0:T)(h:IsA t n t0)(hl:t.nodes.length<=261844)(ho:(yNq t0 x.to).balance+x.amount<18446744073709551616):yuq cfg G 282 3 [.ptr 0 0,.ptr 1 0] (Jaq x t) (StepA (Jaq x) 3 true (kEq t 257 (setL t0.all x.to ⟨(yNq t0 x.to).nonce,(yNq t0 x.to).balance+x.amount⟩))):=by
 intro R;refine gIs 12 O (λk0=>?_)
 (refine zjq rfl (xlq 2 O O O O Xh Xd O O (more_st t n t0 x.to x.amount h ho hl) ?_);rintro t' n' t1 h' hP)
 exact zgq 4 O (fin (hp2:=Jaq x t') Jp (y0q (nw2:=3) (fr2:=[(2,.bool true)]) Xd Xd ⟨rfl,trivial⟩ rfl (y4q ⟨⟨by omega,rfl,rfl⟩,⟨by omega,rfl,zbq (jnq x)⟩,⟨by omega,rfl,zbq (qkq t')⟩,trivial⟩) (by simp[Jaq])) rfl ⟨rfl,t',n',t1,h',hP,rfl,rfl,rfl⟩)
theorem pay3_no(x:Tx)(hx:x.ok)(k:Dig)(t:Tree)(n:Nat)(t0:T)(h:IsA t n t0)(ho:18446744073709551616<=(yNq t0 k).balance+x.fee):yuq cfg G 283 4 [.ptr 0 0,.ptr 1 0,.ptr 2 0] (Q9q x k t) (StepA (Q9q x k) 4 false (kEq t 257 t0.all)):=by
 intro R;refine gIs 11 O (λk0=>?_)
 (refine zjq rfl (xlq 3 O O O O Xh Xd O O (more_no t n t0 k x.fee h hx.fee ho) ?_);rintro t' n' t1 h' hP)
 exact zgq 4 O (fin (hp2:=Q9q x k t') Jp (y0q (nw2:=4) (fr2:=[(3,.bool false)]) Xd Xd ⟨rfl,trivial⟩ rfl (y4q ⟨⟨by omega,rfl,rfl⟩,⟨by omega,rfl,zbq (jVq k)⟩,⟨by omega,rfl,zbq (jnq x)⟩,⟨by omega,rfl,zbq (qkq t')⟩,trivial⟩) (by simp[Q9q])) rfl ⟨rfl,t',n',t1,h',hP,rfl,rfl,rfl⟩)
theorem pay3_st(x:Tx)(k:Dig)(t:Tree)(n:Nat)(t0:T)(h:IsA t n t0)(hl:t.nodes.length<=261844)(ho:(yNq t0 k).balance+x.fee<18446744073709551616):yuq cfg G 283 4 [.ptr 0 0,.ptr 1 0,.ptr 2 0] (Q9q x k t) (StepA (Q9q x k) 4 true (kEq t 257 (setL t0.all k ⟨(yNq t0 k).nonce,(yNq t0 k).balance+x.fee⟩))):=by
 intro R;refine gIs 11 O (λk0=>?_)
 (refine zjq rfl (xlq 3 O O O O Xh Xd O O (more_st t n t0 k x.fee h ho hl) ?_);rintro t' n' t1 h' hP)
 exact zgq 4 O (fin (hp2:=Q9q x k t') Jp (y0q (nw2:=4) (fr2:=[(3,.bool true)]) Xd Xd ⟨rfl,trivial⟩ rfl (y4q ⟨⟨by omega,rfl,rfl⟩,⟨by omega,rfl,zbq (jVq k)⟩,⟨by omega,rfl,zbq (jnq x)⟩,⟨by omega,rfl,zbq (qkq t')⟩,trivial⟩) (by simp[Q9q])) rfl ⟨rfl,t',n',t1,h',hP,rfl,rfl,rfl⟩)
end
section
attribute [local irreducible] CoW OpW FlW Step Spec
def acL(l:List Pr)(k:Dig):Acct:=match jgq l k with
 |some v=>(qDq v).1
 |none=>.zero
theorem uRq{t:Tree}{n:Nat}{t0:T}(h:IsT t n t0)(k:Dig):yNq t0 k=acL t0.all k:=by
 unfold yNq acL;rw[uiq k qYq h.ok];cases jgq t0.all k<;>rfl
noncomputable def qsq(l:List Pr)(k:Dig)(c:Nat):Option (List Pr):=if (acL l k).balance+c<18446744073709551616 then some (setL l k ⟨(acL l k).nonce,(acL l k).balance+c⟩) else none
noncomputable def jSq(l:List Pr)(x:Tx):List Pr:=setL l (keyD x.pub) ⟨(acL l (keyD x.pub)).nonce+1,(acL l (keyD x.pub)).balance⟩
noncomputable def jTq(l:List Pr)(x:Tx):List Pr:=setL (jSq l x) (keyD x.pub) ⟨(acL l (keyD x.pub)).nonce+1,(acL l (keyD x.pub)).balance-(x.amount+x.fee)⟩
noncomputable def yCq(l:List Pr)(x:Tx)(box:Dig):List Pr×Nat:=if x.amount+x.fee<=(acL l (keyD x.pub)).balance then(match qsq (jTq l x) x.to x.amount with
  |none=>(jSq l x,151)
  |some p=>match qsq p box x.fee with
   |none=>(jSq l x,151)
   |some q=>(q,0)) else(jSq l x,150)
def stg(x:Tx)(box:Dig)(l:List Pr):Nat->List Pr->Prop
 |0,q=>q=jSq l x
 |1,q=>x.amount+x.fee<=(acL l (keyD x.pub)).balance/\q=jTq l x
 |2,q=>x.amount+x.fee<=(acL l (keyD x.pub)).balance/\qsq (jTq l x) x.to x.amount=some q
 |_,q=>x.amount+x.fee<=(acL l (keyD x.pub)).balance/\∃p,qsq (jTq l x) x.to x.amount=some p/\qsq p box x.fee=some q
theorem uEq{x:Tx}{box:Dig}{l:List Pr}(ho:¬x.amount+x.fee<=(acL l (keyD x.pub)).balance):yCq l x box=(jSq l x,150):=by unfold yCq;rw[if_neg ho]
theorem Jvq{x:Tx}{box:Dig}{l:List Pr}(ho:x.amount+x.fee<=(acL l (keyD x.pub)).balance)(h:qsq (jTq l x) x.to x.amount=none):yCq l x box=(jSq l x,151):=by unfold yCq;rw[if_pos ho,h]
theorem Juq{x:Tx}{box:Dig}{l p:List Pr}(ho:x.amount+x.fee<=(acL l (keyD x.pub)).balance)(h:qsq (jTq l x) x.to x.amount=some p)(h2:qsq p box x.fee=none):yCq l x box=(jSq l x,151):=by unfold yCq;rw[if_pos ho,h];simp only;rw[h2]
theorem Jtq{x:Tx}{box:Dig}{l p q:List Pr}(ho:x.amount+x.fee<=(acL l (keyD x.pub)).balance)(h:qsq (jTq l x) x.to x.amount=some p)(h2:qsq p box x.fee=some q):yCq l x box=(q,0):=by unfold yCq;rw[if_pos ho,h];simp only;rw[h2]
def PayA(t:Tree)(t0:T)(x:Tx)(box:Dig):W->Prop:=λw=>∃t' n' t1,IsA t' n' t1/\kEq t 1028 (yCq t0.all x box).1 t' t1/\w= .tup [tW t',.int .i64 ((yCq t0.all x box).2:Nat),.int .i64 0]
theorem pay_sign(t:Tree)(n:Nat)(t0:T)(x:Tx)(hx:x.ok)(box:Dig)(h:IsA t n t0)(hs:x.sign≠jOq x):PS cfg glK 213 [tW t,txW x,dW box] (.tup [noT,.int .i64 0,.int .i64 110]):=by
 refine gI 10 O (λR k0=>?_);refine Zdq 3 ?_;refine zBq 3 O ?_;refine gC 0 O (from_s _) ?_;refine gC 8 O (JTq t n t0 h _) ?_;refine gU 13 O ?_;refine gC 7 O (zzq (w':=.int .i64 110) (kXq x hx) (by rw[if_neg hs])) ?_;refine gU 0 O ?_;refine zcq 15 O ?_;refine xwq Yv ?_;exact fin_q
theorem pay_nonce(t:Tree)(n:Nat)(t0:T)(x:Tx)(hx:x.ok)(box:Dig)(h:IsA t n t0)(hs:x.sign=jOq x)(hn:¬(x.nonce=(acL t0.all (keyD x.pub)).nonce/\x.nonce<18446744073709551615)):PS cfg glK 213 [tW t,txW x,dW box] (.tup [noT,.int .i64 0,.int .i64 2]):=by
 have h1:=hx.nonce;have ea:=uRq h.toIsT (keyD x.pub);by_cases q:x.nonce=(acL t0.all (keyD x.pub)).nonce
 ·have q2:x.nonce=18446744073709551615:=by have:¬x.nonce<18446744073709551615:=λr=>hn ⟨q,r⟩;omega
  refine gI 10 O (λR k0=>?_);refine Zdq 3 ?_;refine zBq 3 O ?_;refine gC 0 O (from_s _) ?_;refine gC 8 O (JTq t n t0 h _) ?_;refine gU 13 O ?_;refine gC 7 O (zzq (w':=.int .i64 0) (kXq x hx) (by rw[if_pos hs])) ?_;refine gU 0 O ?_;refine gF 10 O (congrArg not (eqI_iff.2 (by rw[ea,q]))) ?_;refine gT 3 O (eqI_iff.2 Xd) ?_;refine zcq 16 O ?_;refine xwq Yv ?_;exact fin_q
 ·skip
  refine gI 10 O (λR k0=>?_);refine Zdq 3 ?_;refine zBq 3 O ?_;refine gC 0 O (from_s _) ?_;refine gC 8 O (JTq t n t0 h _) ?_;refine gU 13 O ?_;refine gC 7 O (zzq (w':=.int .i64 0) (kXq x hx) (by rw[if_pos hs])) ?_;refine gU 0 O ?_;refine gT 10 O (congrArg not (eqI_not.2 (by rw[ea];omega))) ?_;refine zcq 20 O ?_;refine xwq Yv ?_;exact fin_q
noncomputable def stepsW:W:=.arr 6 2 [.agg 2 [.fn 280 [] [.ptr 1 0,.ptr 5 0,.ptr 8 0,.ptr 4 0],.int .i64 150],.agg 2 [.fn 282 [] [.ptr 8 0,.ptr 1 0],.int .i64 151],.agg 2 [.fn 283 [] [.ptr 8 0,.ptr 2 0,.ptr 1 0],.int .i64 151]]
noncomputable def payH(x:Tx)(box k:Dig)(a:Acct)(tb t:Tree):HpW:=[(7,392,tW t),(1,165,txW x),(2,35,dW box),(3,24,noT),(4,35,dW k),(5,169,aW a),(6,392,tW tb),(8,391,.ptr 7 0),(9,399,stepsW)]
theorem KYq{t t' t2:Tree}{m:Nat}(h:∃ms,t'.nodes=t.nodes++ms/\ms.length<=m)(h2:∃ms,t2.nodes=t'.nodes++ms/\ms.length<=257):∃ms,t2.nodes=t.nodes++ms/\ms.length<=m+257:=by
 obtain⟨a,ha,ha2⟩:=h;obtain⟨b,hb,hb2⟩:=h2;exact⟨a++b,by rw[hb,ha,List.append_assoc],by rw[List.length_append];omega⟩
theorem ext_le{t t':Tree}{m:Nat}(h:∃ms,t'.nodes=t.nodes++ms/\ms.length<=m):t'.nodes.length<=t.nodes.length+m:=by
 obtain⟨a,ha,ha2⟩:=h;rw[ha,List.length_append];omega
theorem Qvq{t t':Tree}{m k:Nat}(h:∃ms,t'.nodes=t.nodes++ms/\ms.length<=m)(hk:m<=k):∃ms,t'.nodes=t.nodes++ms/\ms.length<=k:=by
 obtain⟨a,ha,ha2⟩:=h;exact⟨a,ha,by omega⟩
theorem pay_s(t:Tree)(n:Nat)(t0:T)(x:Tx)(hx:x.ok)(box:Dig)(h:IsA t n t0)(hs:x.sign=jOq x)(hn:x.nonce=(acL t0.all (keyD x.pub)).nonce)(hn2:x.nonce<18446744073709551615)(hl:t.nodes.length<=260944):PE cfg glK 213 [tW t,txW x,dW box] (PayA t t0 x box):=by
 have hvals:∀x∈t.nodes,x.val.length<=70368744177664:=IsT.vals (root:=t.root) h.toIsT
 have hA:=QXq t0 (keyD x.pub);rw[uRq h.toIsT] at hA;have ea:=uRq h.toIsT (keyD x.pub);unfold PayA;obtain⟨A,eA⟩:∃A,acL t0.all (keyD x.pub)=A:=⟨_,rfl⟩
 obtain⟨l,el⟩:∃l,t0.all=l:=⟨_,rfl⟩
 rw[eA] at hn hA ea;have e0:jSq l x=setL l (keyD x.pub) ⟨A.nonce+1,A.balance⟩:=by unfold jSq;rw[<-el,eA]
 have e1:jTq l x=setL (jSq l x) (keyD x.pub) ⟨A.nonce+1,A.balance-(x.amount+x.fee)⟩:=by unfold jTq;rw[<-el,eA]
 rw[el] at eA⊢;have hA1:A.nonce+1<18446744073709551616:=by omega
 have hA2:=hA.2;refine gIe 10 O (λR k0=>?_);refine Zdq 3 ?_;refine zBq 3 O ?_;refine gC 0 O (from_s _) ?_;refine gC 8 O (zzq (w':=.tup [aW A,.int .i64 0]) (JTq t n t0 h (keyD x.pub)) (by rw[ea])) ?_;refine gU 13 O ?_;refine gC 7 O (zzq (w':=.int .i64 0) (kXq x hx) (by rw[if_pos hs])) ?_;refine gU 0 O ?_;refine gF 10 O (congrArg not (eqI_iff.2 (by rw[hn]))) ?_;refine gF 3 O (eqI_not.2 Xd) ?_;refine gC 8 O (zzq (w':=.bool false) (full_s t Xd) (by rw[decide_eq_false Xd])) ?_;refine gA 11 O (A.nonce+1) ?_;refine gC 7 O (uXq t Xd hvals) ?_;refine zcq 10 O ?_
 (refine zjq rfl (xlq 6 O O O O Xh Xd O O (turn_st t n t0 (keyD x.pub) ⟨A.nonce+1,A.balance⟩ h ⟨hA1,hA2⟩ Xd) ?_);rintro tb nb tb0 hb hPb)
 refine zgq 36 O ?_;refine gL 0 O ?_;refine zcq 4 O ?_;have hmb:=Qvq hPb.2 (show 257<=1028 by omega);rw[el] at hPb;refine qGq (α:=Nat×Tree) (λp=>p.1<=3/\∃n1 t1,IsA p.2 n1 t1/\(∃ms,p.2.nodes=t.nodes++ms/\ms.length<=257*(p.1+1))/\stg x box l p.1 t1.all) (λp=>[(79,.int .i64 (p.1:Int)),(6,.ptr 3 0),(11,.ptr 6 0),(12,.ptr 8 0),(77,.sl 9 0 0 3 2 none),(78,.int .i64 3)]) (λp=>payH x box (keyD x.pub) ⟨A.nonce+1,A.balance⟩ tb p.2) (λ_=>10) (λ_=>R) (λp=>3-p.1) (0,tb) ⟨by omega,nb,tb0,hb,hPb.2,hPb.1.trans e0.symm⟩ (y0q (nw2:=10) (Nat.zero_le _) Xd ⟨rfl,rfl,rfl,rfl,rfl,rfl,trivial⟩ rfl (y4q ⟨⟨by omega,Xl,zbq Xh⟩,⟨by omega,Xl,zbq Xh⟩,⟨by omega,Xl,zbq Xh⟩,⟨by omega,Xl,rfl⟩,⟨by omega,Xl,zbq Xh⟩,⟨by omega,Xl,rfl⟩,⟨by omega,Xl,zbq Xh⟩,⟨by omega,Xl,rfl⟩,⟨by omega,Xl,rfl⟩,trivial⟩) (by simp[payH])) (λp hI=>?_);skip
 obtain⟨i,t'⟩:=p;obtain⟨hi,n1,t1,hT,hms,hst⟩:=hI;simp only at hi hT hms hst⊢;have hle:=ext_le hms;refine zBq 6 O ?_;refine gS 0 O (λh1=>?_) (λh1=>?_)
 ·skip
  skip
  rcases(show i=0\/i=1\/i=2 by omega) with rfl|rfl|rfl
  ·by_cases ho:x.amount+x.fee<=A.balance
   ·skip
    refine gX 6 O ?_;refine zcq 16 O ?_
    (refine zjq rfl (z3q (ext:=[1,5,8,4,7]) (ws:=[.ptr 0 0,.ptr 1 0,.ptr 2 0,.ptr 3 0]) O O O O O (pay1_st x hx ⟨A.nonce+1,A.balance⟩ ⟨hA1,hA2⟩ (keyD x.pub) t' n1 t1 hT Xd ho) Xm Xo (by simp[pay1H]) (jHq ⟨⟨by decide,zbq Xh,_,rfl,by first|rfl|(rw[zeq Xh];rfl)⟩,⟨by decide,rfl,_,rfl,by first|rfl|(rw[zeq Xh];rfl)⟩,⟨by decide,rfl,_,rfl,by first|rfl|(rw[zeq Xh];rfl)⟩,⟨by decide,zbq Xh,_,rfl,by first|rfl|(rw[zeq Xh];rfl)⟩,⟨by decide,zbq Xh,_,rfl,by first|rfl|(rw[zeq Xh];rfl)⟩,trivial⟩) O ?_);rintro w hp1 nw1 ⟨t2,n2,t3,h2,hP2,rfl,rfl,rfl⟩)
    refine zgq 8 O ?_;refine gWr 0 O ?_;refine zcq 2 O ?_;skip
    exact yHq (1,t2) ⟨by omega,n2,t3,h2,Qvq (KYq hms hP2.2) Xd,⟨by rw[eA];exact ho,by rw[e1,<-hst];exact hP2.1⟩⟩ (by show 3-1<3-0;omega) (y0q (nw2:=10) (Nat.zero_le _) Xd ⟨rfl,rfl,rfl,rfl,rfl,rfl,trivial⟩ rfl (y4q ⟨⟨by omega,Xl,zbq Xh⟩,⟨by omega,Xl,zbq Xh⟩,⟨by omega,Xl,zbq Xh⟩,⟨by omega,Xl,rfl⟩,⟨by omega,Xl,zbq Xh⟩,⟨by omega,Xl,rfl⟩,⟨by omega,Xl,zbq Xh⟩,⟨by omega,Xl,rfl⟩,⟨by omega,Xl,rfl⟩,trivial⟩) (by simp[payH]))
   ·skip
    refine gX 6 O ?_;refine zcq 16 O ?_
    (refine zjq rfl (z3q (ext:=[1,5,8,4,7]) (ws:=[.ptr 0 0,.ptr 1 0,.ptr 2 0,.ptr 3 0]) O O O O O (pay1_no x hx ⟨A.nonce+1,A.balance⟩ ⟨hA1,hA2⟩ (keyD x.pub) t' n1 t1 hT ho) Xm Xo (by simp[pay1H]) (jHq ⟨⟨by decide,zbq Xh,_,rfl,by first|rfl|(rw[zeq Xh];rfl)⟩,⟨by decide,rfl,_,rfl,by first|rfl|(rw[zeq Xh];rfl)⟩,⟨by decide,rfl,_,rfl,by first|rfl|(rw[zeq Xh];rfl)⟩,⟨by decide,zbq Xh,_,rfl,by first|rfl|(rw[zeq Xh];rfl)⟩,⟨by decide,zbq Xh,_,rfl,by first|rfl|(rw[zeq Xh];rfl)⟩,trivial⟩) O ?_);rintro w hp1 nw1 ⟨t2,n2,t3,h2,hP2,rfl,rfl,rfl⟩)
    refine zgq 7 O ?_;refine yKq Xi ?_;refine zyq 2 O ?_;refine q_goto O ?_;refine zBq 16 O ?_;refine xwq Yv ?_;refine yeq (w':=.tup [tW tb,.int .i64 150,.int .i64 0]) Jp rfl (.pur Xh) Xh ⟨tb,nb,tb0,hb,?_,?_⟩
    ·rw[uEq (l:=l) (box:=box) (by rw[eA];exact ho)];exact⟨hPb.1.trans e0.symm,hmb⟩
    ·rw[uEq (l:=l) (box:=box) (by rw[eA];exact ho)];rfl
  ·obtain⟨ho,hst⟩:=hst;have ec:=uRq hT.toIsT x.to;rw[hst] at ec;by_cases hq:(yNq t1 x.to).balance+x.amount<18446744073709551616
   ·have hm:qsq (jTq l x) x.to x.amount=some (setL (jTq l x) x.to ⟨(yNq t1 x.to).nonce,(yNq t1 x.to).balance+x.amount⟩):=by unfold qsq;rw[<-ec,if_pos hq]
    refine gX 6 O ?_;refine zcq 16 O ?_
    (refine zjq rfl (z3q (ext:=[8,1,7]) (ws:=[.ptr 0 0,.ptr 1 0]) O O O O O (pay2_st x t' n1 t1 hT Xd hq) Xm Xo (by simp[Jaq]) (jHq ⟨⟨by decide,rfl,_,rfl,by first|rfl|(rw[zeq Xh];rfl)⟩,⟨by decide,zbq Xh,_,rfl,by first|rfl|(rw[zeq Xh];rfl)⟩,⟨by decide,zbq Xh,_,rfl,by first|rfl|(rw[zeq Xh];rfl)⟩,trivial⟩) O ?_);rintro w hp1 nw1 ⟨t2,n2,t3,h2,hP2,rfl,rfl,rfl⟩)
    refine zgq 8 O ?_;refine gWr 0 O ?_;refine zcq 2 O ?_;skip
    exact yHq (2,t2) ⟨by omega,n2,t3,h2,Qvq (KYq hms hP2.2) Xd,⟨ho,by rw[hP2.1,hst];exact hm⟩⟩ (by show 3-2<3-1;omega) (y0q (nw2:=10) (Nat.zero_le _) Xd ⟨rfl,rfl,rfl,rfl,rfl,rfl,trivial⟩ rfl (y4q ⟨⟨by omega,Xl,zbq Xh⟩,⟨by omega,Xl,zbq Xh⟩,⟨by omega,Xl,zbq Xh⟩,⟨by omega,Xl,rfl⟩,⟨by omega,Xl,zbq Xh⟩,⟨by omega,Xl,rfl⟩,⟨by omega,Xl,zbq Xh⟩,⟨by omega,Xl,rfl⟩,⟨by omega,Xl,rfl⟩,trivial⟩) (by simp[payH]))
   ·have hm:qsq (jTq l x) x.to x.amount=none:=by unfold qsq;rw[<-ec,if_neg hq]
    refine gX 6 O ?_;refine zcq 16 O ?_
    (refine zjq rfl (z3q (ext:=[8,1,7]) (ws:=[.ptr 0 0,.ptr 1 0]) O O O O O (pay2_no x hx t' n1 t1 hT Xd) Xm Xo (by simp[Jaq]) (jHq ⟨⟨by decide,rfl,_,rfl,by first|rfl|(rw[zeq Xh];rfl)⟩,⟨by decide,zbq Xh,_,rfl,by first|rfl|(rw[zeq Xh];rfl)⟩,⟨by decide,zbq Xh,_,rfl,by first|rfl|(rw[zeq Xh];rfl)⟩,trivial⟩) O ?_);rintro w hp1 nw1 ⟨t2,n2,t3,h2,hP2,rfl,rfl,rfl⟩)
    refine zgq 7 O ?_;refine yKq Xi ?_;refine zyq 2 O ?_;refine q_goto O ?_;refine zBq 16 O ?_;refine xwq Yv ?_;refine yeq (w':=.tup [tW tb,.int .i64 151,.int .i64 0]) Jp rfl (.pur Xh) Xh ⟨tb,nb,tb0,hb,?_,?_⟩
    ·rw[Jvq ho hm];exact⟨hPb.1.trans e0.symm,hmb⟩
    ·rw[Jvq ho hm];rfl
  ·obtain⟨ho,hst⟩:=hst;have ec:=uRq hT.toIsT box;by_cases hq:(yNq t1 box).balance+x.fee<18446744073709551616
   ·have hm:qsq t1.all box x.fee=some (setL t1.all box ⟨(yNq t1 box).nonce,(yNq t1 box).balance+x.fee⟩):=by unfold qsq;rw[<-ec,if_pos hq]
    refine gX 6 O ?_;refine zcq 16 O ?_
    (refine zjq rfl (z3q (ext:=[8,2,1,7]) (ws:=[.ptr 0 0,.ptr 1 0,.ptr 2 0]) O O O O O (pay3_st x box t' n1 t1 hT Xd hq) Xm Xo (by simp[Q9q]) (jHq ⟨⟨by decide,rfl,_,rfl,by first|rfl|(rw[zeq Xh];rfl)⟩,⟨by decide,zbq Xh,_,rfl,by first|rfl|(rw[zeq Xh];rfl)⟩,⟨by decide,zbq Xh,_,rfl,by first|rfl|(rw[zeq Xh];rfl)⟩,⟨by decide,zbq Xh,_,rfl,by first|rfl|(rw[zeq Xh];rfl)⟩,trivial⟩) O ?_);rintro w hp1 nw1 ⟨t2,n2,t3,h2,hP2,rfl,rfl,rfl⟩)
    refine zgq 8 O ?_;refine gWr 0 O ?_;refine zcq 2 O ?_;skip
    exact yHq (3,t2) ⟨by omega,n2,t3,h2,Qvq (KYq hms hP2.2) Xd,⟨ho,_,hst,by rw[hP2.1];exact hm⟩⟩ (by show 3-3<3-2;omega) (y0q (nw2:=10) (Nat.zero_le _) Xd ⟨rfl,rfl,rfl,rfl,rfl,rfl,trivial⟩ rfl (y4q ⟨⟨by omega,Xl,zbq Xh⟩,⟨by omega,Xl,zbq Xh⟩,⟨by omega,Xl,zbq Xh⟩,⟨by omega,Xl,rfl⟩,⟨by omega,Xl,zbq Xh⟩,⟨by omega,Xl,rfl⟩,⟨by omega,Xl,zbq Xh⟩,⟨by omega,Xl,rfl⟩,⟨by omega,Xl,rfl⟩,trivial⟩) (by simp[payH]))
   ·have hm:qsq t1.all box x.fee=none:=by unfold qsq;rw[<-ec,if_neg hq]
    refine gX 6 O ?_;refine zcq 16 O ?_
    (refine zjq rfl (z3q (ext:=[8,2,1,7]) (ws:=[.ptr 0 0,.ptr 1 0,.ptr 2 0]) O O O O O (pay3_no x hx box t' n1 t1 hT Xd) Xm Xo (by simp[Q9q]) (jHq ⟨⟨by decide,rfl,_,rfl,by first|rfl|(rw[zeq Xh];rfl)⟩,⟨by decide,zbq Xh,_,rfl,by first|rfl|(rw[zeq Xh];rfl)⟩,⟨by decide,zbq Xh,_,rfl,by first|rfl|(rw[zeq Xh];rfl)⟩,⟨by decide,zbq Xh,_,rfl,by first|rfl|(rw[zeq Xh];rfl)⟩,trivial⟩) O ?_);rintro w hp1 nw1 ⟨t2,n2,t3,h2,hP2,rfl,rfl,rfl⟩)
    refine zgq 7 O ?_;refine yKq Xi ?_;refine zyq 2 O ?_;refine q_goto O ?_;refine zBq 16 O ?_;refine xwq Yv ?_;refine yeq (w':=.tup [tW tb,.int .i64 151,.int .i64 0]) Jp rfl (.pur Xh) Xh ⟨tb,nb,tb0,hb,?_,?_⟩
    ·rw[Juq ho hst hm];exact⟨hPb.1.trans e0.symm,hmb⟩
    ·rw[Juq ho hst hm];rfl
 ·have hi3:i=3:=by omega
  subst hi3;obtain⟨ho,p,hp1,hp2⟩:=hst;refine zcq 2 O ?_;refine yKq Xi ?_;refine zyq 16 O ?_;refine xwq Yv ?_;refine yeq (w':=.tup [tW t',.int .i64 0,.int .i64 0]) Jp rfl (.pur Xh) Xh ⟨t',n1,t1,hT,?_,?_⟩
  ·rw[Jtq ho hp1 hp2];exact⟨rfl,Qvq hms Xd⟩
  ·rw[Jtq ho hp1 hp2];rfl
end
section
attribute [local irreducible] CoW OpW FlW Step Spec
variable {G:Nat->Option W}
theorem kmq(p:Pr)(l:List Pr):sumB (p::l)=bal p+sumB l:=by simp[sumB]
theorem sumB_app(l r:List Pr):sumB (l++r)=sumB l+sumB r:=by simp[sumB]
theorem sumB_two(k:Dig):∀l:List Pr,sumB (l.filter λp=>zLq p.1 k)+sumB (l.filter λp=>zLq k p.1)=sumB (ztq l k)
 |[]=>rfl
 |p::l=>by
  have ih:=sumB_two k l;simp only[ztq] at ih⊢;by_cases e:p.1=k
  ·have h1:zLq p.1 k=false:=by rw[e];exact jLq k
   have h2:zLq k p.1=false:=by rw[e];exact jLq k
   rw[List.filter_cons_of_neg (by rw[h1];exact Bool.false_ne_true),List.filter_cons_of_neg (by rw[h2];exact Bool.false_ne_true),List.filter_cons_of_neg (by simp[e])];exact ih
  ·rw[List.filter_cons_of_pos (p:=λp:Pr=>decide (p.1≠k)) (by simp[e]),kmq];rcases vwq e with h|h
   ·rw[List.filter_cons_of_pos (p:=λp:Pr=>zLq p.1 k) h,List.filter_cons_of_neg (by rw[qjq h];exact Bool.false_ne_true),kmq];omega
   ·rw[List.filter_cons_of_neg (p:=λp:Pr=>zLq p.1 k) (by rw[qjq h];exact Bool.false_ne_true),List.filter_cons_of_pos (p:=λp:Pr=>zLq k p.1) h,kmq];omega
theorem sumB_with(l:List Pr)(k:Dig)(v:List UInt8):sumB (klq l k v)=sumB (ztq l k)+bal (k,v):=by
 have h:=sumB_two k l;unfold klq;rw[sumB_app,kmq];show sumB (l.filter λp=>zLq p.1 k)+(bal (k,v)+sumB (l.filter λp=>zLq k p.1))=_;rw[<-h];omega
def optB(k:Dig):Option (List UInt8) ->Nat
 |none=>0
 |some v=>bal (k,v)
theorem Jkq(k:Dig):∀l:List Pr,Srt l->sumB l=sumB (ztq l k)+optB k (jgq l k)
 |[],_=>rfl
 |p::l,hs=>by
  obtain⟨h1,h2⟩:=List.pairwise_cons.1 hs;by_cases e:p.1=k
  ·have hno:∀q∈l,q.1≠k:=λq hq=>by rw[<-e];exact(xQq (h1 q hq)).symm
   have h3:ztq (p::l) k=l:=by
    have:=jmq hno;simp only[ztq] at this⊢;rw[List.filter_cons_of_neg (by simp[e]),this]
   have h4:jgq (p::l) k=some p.2:=by simp[jgq,List.find?_cons,e]
   rw[h3,h4,kmq];simp only[optB];have:bal (k,p.2)=bal p:=rfl;omega
  ·have ih:=Jkq k l h2;have h3:ztq (p::l) k=p::ztq l k:=by simp only[ztq];rw[List.filter_cons_of_pos (by simp[e])]
   have h4:jgq (p::l) k=jgq l k:=by simp[jgq,List.find?_cons,e]
   rw[h3,h4,kmq,kmq];omega
end
theorem acL_ok(l:List Pr)(k:Dig):(acL l k).ok:=by
 unfold acL;split
 ·exact Krq _
 ·exact⟨Nat.zero_lt_succ _,Nat.zero_lt_succ _⟩
theorem ZSq{l:List Pr}(h:Srt l){a:Acct}(ha:a.ok)(k j:Dig):acL (setL l k a) j=if j=k then a else acL l j:=by
 unfold acL setL;by_cases hz:a= .zero
 ·rw[if_pos hz,KXq h];by_cases e:j=k
  ·rw[if_pos e,if_pos e];exact hz.symm
  ·rw[if_neg e,if_neg e]
 ·rw[if_neg hz,findL_with h];by_cases e:j=k
  ·rw[if_pos e,if_pos e];simp only;rw[ZAq a ha hz]
  ·rw[if_neg e,if_neg e]
theorem u1q{l:List Pr}(h:Srt l)(k:Dig)(a:Acct):Srt (setL l k a):=by
 unfold setL;split
 ·exact ZYq h k
 ·exact YQq h k _
theorem sum_set{l:List Pr}(h:Srt l){a:Acct}(ha:a.ok)(k:Dig):sumB (setL l k a)+(acL l k).balance=sumB l+a.balance:=by
 have e:(acL l k).balance=optB k (jgq l k):=by
  unfold acL;cases jgq l k<;>rfl
 have hs:=Jkq k l h;unfold setL;by_cases hz:a= .zero
 ·rw[if_pos hz,hz];show _=_+0;omega
 ·rw[if_neg hz,sumB_with];have:bal (k,qNq a)=a.balance:=by unfold bal;rw[ZAq a ha hz]
  omega
theorem vdq{p q:List Pr}{k:Dig}{c:Nat}(h:Srt p)(hm:qsq p k c=some q):Srt q/\(∀j,j≠k->acL q j=acL p j)/\(∀j,(acL q j).nonce=(acL p j).nonce)/\sumB q=sumB p+c:=by
 unfold qsq at hm;split at hm
 ·rename_i hb;cases hm;have ha:Acct.ok ⟨(acL p k).nonce,(acL p k).balance+c⟩:=⟨(acL_ok p k).1,hb⟩;refine⟨u1q h k _,λj hj=>by rw[ZSq h ha,if_neg hj],λj=>?_,?_⟩
  ·rw[ZSq h ha];by_cases e:j=k
   ·rw[if_pos e,e]
   ·rw[if_neg e]
  ·have:=sum_set h ha k;simp only at this;omega
 ·cases hm
theorem nude_ok{l:List Pr}(x:Tx)(h:Srt l)(hn:(acL l (keyD x.pub)).nonce+1<18446744073709551616):Srt (jSq l x)/\(∀j,j≠keyD x.pub->acL (jSq l x) j=acL l j)/\acL (jSq l x) (keyD x.pub)=⟨(acL l (keyD x.pub)).nonce+1,(acL l (keyD x.pub)).balance⟩/\sumB (jSq l x)=sumB l:=by
 have ha:Acct.ok ⟨(acL l (keyD x.pub)).nonce+1,(acL l (keyD x.pub)).balance⟩:=⟨hn,(acL_ok l _).2⟩;unfold jSq;refine⟨u1q h _ _,λj hj=>by rw[ZSq h ha,if_neg hj],by rw[ZSq h ha,if_pos rfl],?_⟩;have:=sum_set h ha (keyD x.pub);simp only at this;omega
theorem less_ok{l:List Pr}(x:Tx)(h:Srt l)(hn:(acL l (keyD x.pub)).nonce+1<18446744073709551616)(ho:x.amount+x.fee<=(acL l (keyD x.pub)).balance):Srt (jTq l x)/\(∀j,j≠keyD x.pub->acL (jTq l x) j=acL l j)/\acL (jTq l x) (keyD x.pub)=⟨(acL l (keyD x.pub)).nonce+1,(acL l (keyD x.pub)).balance-(x.amount+x.fee)⟩/\sumB (jTq l x)+(x.amount+x.fee)=sumB l:=by
 obtain⟨n1,n2,n3,n4⟩:=nude_ok x h hn;have hb:=(acL_ok l (keyD x.pub)).2;have ha:Acct.ok ⟨(acL l (keyD x.pub)).nonce+1,(acL l (keyD x.pub)).balance-(x.amount+x.fee)⟩:=⟨hn,by show _-_<_;omega⟩;unfold jTq;refine⟨u1q n1 _ _,λj hj=>by rw[ZSq n1 ha,if_neg hj];exact n2 j hj,by rw[ZSq n1 ha,if_pos rfl],?_⟩;have:=sum_set n1 ha (keyD x.pub);rw[n3,n4] at this;simp only at this;omega
theorem paid_ok{l:List Pr}(x:Tx)(box:Dig)(h:Srt l)(hn:(acL l (keyD x.pub)).nonce+1<18446744073709551616):(∀j,j≠keyD x.pub->j≠x.to->j≠box->acL (yCq l x box).1 j=acL l j)/\(acL (yCq l x box).1 (keyD x.pub)).nonce=(acL l (keyD x.pub)).nonce+1/\sumB (yCq l x box).1=sumB l:=by
 obtain⟨n1,n2,n3,n4⟩:=nude_ok x h hn;have nude:(∀j,j≠keyD x.pub->j≠x.to->j≠box->acL (jSq l x) j=acL l j)/\(acL (jSq l x) (keyD x.pub)).nonce=(acL l (keyD x.pub)).nonce+1/\sumB (jSq l x)=sumB l:=⟨λj hj _ _=>n2 j hj,by rw[n3],n4⟩;by_cases ho:x.amount+x.fee<=(acL l (keyD x.pub)).balance
 ·obtain⟨l1,l2,l3,l4⟩:=less_ok x h hn ho;cases h1:qsq (jTq l x) x.to x.amount with
  |none=>rw[Jvq ho h1];exact nude
  |some p=>
   obtain⟨p1,p2,p3,p4⟩:=vdq l1 h1;cases h2:qsq p box x.fee with
   |none=>rw[Juq ho h1 h2];exact nude
   |some q=>
    obtain⟨q1,q2,q3,q4⟩:=vdq p1 h2;rw[Jtq ho h1 h2];refine⟨λj hj ht hb=>?_,?_,?_⟩
    ·rw[q2 j hb,p2 j ht,l2 j hj]
    ·rw[q3,p3,l3]
    ·show sumB q=sumB l;omega
 ·rw[uEq ho];exact nude
noncomputable def gvL(l:List Pr)(d:Depo):List Pr×Nat:=match qsq l d.to d.amount with
 |some q=>(q,0)
 |none=>(l,151)
theorem giv_gv{t:Tree}{n:Nat}{t0:T}(h:IsT t n t0)(d:Depo):givL t0 d=(gvL t0.all d).1/\givC t0 d=(gvL t0.all d).2:=by
 have e:=uRq h d.to;by_cases ho:overB t0 d
 ·have hn:¬(acL t0.all d.to).balance+d.amount<18446744073709551616:=by rw[<-e];unfold overB at ho;omega
  unfold givL givC gvL qsq;rw[if_pos ho,if_pos ho,if_neg hn];exact⟨rfl,rfl⟩
 ·have hn:(acL t0.all d.to).balance+d.amount<18446744073709551616:=by rw[<-e];unfold overB at ho;omega
  unfold givL givC gvL qsq;rw[if_neg ho,if_neg ho,if_pos hn,e];exact⟨rfl,rfl⟩
structure Rec where
 kind:UInt8
 id:Dig
 code:Nat
noncomputable def depD(d:Depo):Dig:=tagD 9 [beB 8 d.number++d.to.1++beB 8 d.amount]
noncomputable def idD(x:Tx):Dig:=tagD 5 [yRq x++x.sign.1]
noncomputable def doD:List Pr->List Depo->List Pr×List Rec
 |l,[]=>(l,[])
 |l,d::ds=>((doD (gvL l d).1 ds).1,⟨1,depD d,(gvL l d).2⟩::(doD (gvL l d).1 ds).2)
def goX(l:List Pr)(x:Tx):Prop:=x.sign=jOq x/\x.nonce=(acL l (keyD x.pub)).nonce/\x.nonce<18446744073709551615
noncomputable instance(l:List Pr)(x:Tx):Decidable (goX l x):=Classical.propDecidable _
noncomputable def doX(box:Dig):List Pr->List Tx->Option (List Pr×List Rec)
 |l,[]=>some (l,[])
 |l,x::xs=>if goX l x then(match doX box (yCq l x box).1 xs with
   |some r=>some (r.1,⟨2,idD x,(yCq l x box).2⟩::r.2)
   |none=>none) else none
theorem doD_app:∀(ds es:List Depo) (l:List Pr),doD l (ds++es)=((doD (doD l ds).1 es).1,(doD l ds).2++(doD (doD l ds).1 es).2)
 |[],es,l=>rfl
 |d::ds,es,l=>by
  show((doD (gvL l d).1 (ds++es)).1,_::(doD (gvL l d).1 (ds++es)).2)=_;rw[doD_app ds es];rfl
theorem doX_app(box:Dig):∀(xs ys:List Tx) (l:List Pr),doX box l (xs++ys)=match doX box l xs with
  |some r=>(match doX box r.1 ys with
   |some q=>some (q.1,r.2++q.2)
   |none=>none)
  |none=>none
 |[],ys,l=>by
  show doX box l ys=match doX box l ys with
   |some q=>some (q.1,[]++q.2)
   |none=>none
  cases doX box l ys<;>rfl
 | x ::xs,ys,l=>by
  by_cases h:goX l x
  ·have e1:doX box l ((x::xs)++ys)=(match doX box (yCq l x box).1 (xs++ys) with
       |some r=>some (r.1,⟨2,idD x,(yCq l x box).2⟩::r.2)
       |none=>none):=if_pos h
   have e2:doX box l (x::xs)=(match doX box (yCq l x box).1 xs with
     |some r=>some (r.1,⟨2,idD x,(yCq l x box).2⟩::r.2)
     |none=>none):=if_pos h
   rw[e1,e2,doX_app box xs ys];cases doX box (yCq l x box).1 xs with
   |none=>rfl
   |some r=>
    simp only;cases doX box r.1 ys<;>rfl
  ·have e1:doX box l ((x::xs)++ys)=none:=if_neg h;have e2:doX box l (x::xs)=none:=if_neg h;rw[e1,e2]
theorem gv_ok{l:List Pr}(h:Srt l)(d:Depo):Srt (gvL l d).1/\sumB (gvL l d).1=sumB l+(if (gvL l d).2=0 then d.amount else 0):=by
 unfold gvL;cases e:qsq l d.to d.amount with
 |none=>exact⟨h,rfl⟩
 |some q=>
  obtain⟨h1,_,_,h4⟩:=vdq h e;exact⟨h1,by simp only[if_true];exact h4⟩
def givS:List Depo->List Rec->Nat
 |d::ds,r::rs=>(if r.code=0 then d.amount else 0)+givS ds rs
 |_,_=>0
theorem QBq:∀{ds:List Depo} {l:List Pr},Srt l->Srt (doD l ds).1/\sumB (doD l ds).1=sumB l+givS ds (doD l ds).2/\(doD l ds).2.length=ds.length
 |[],l,h=>⟨h,rfl,rfl⟩
 |d::ds,l,h=>by
  obtain⟨h1,h2⟩:=gv_ok h d;obtain⟨h3,h4,h5⟩:=QBq (ds:=ds) h1;refine⟨h3,?_,by show _+1=_+1;rw[h5]⟩;show sumB (doD (gvL l d).1 ds).1=sumB l+((if (gvL l d).2=0 then d.amount else 0)+givS ds (doD (gvL l d).1 ds).2);omega
theorem paid_srt{l:List Pr}(x:Tx)(box:Dig)(h:Srt l)(hn:(acL l (keyD x.pub)).nonce+1<18446744073709551616):Srt (yCq l x box).1:=by
 obtain⟨n1,_⟩:=nude_ok x h hn;by_cases ho:x.amount+x.fee<=(acL l (keyD x.pub)).balance
 ·obtain⟨l1,_⟩:=less_ok x h hn ho;cases h1:qsq (jTq l x) x.to x.amount with
  |none=>rw[Jvq ho h1];exact n1
  |some p=>
   obtain⟨p1,_⟩:=vdq l1 h1;cases h2:qsq p box x.fee with
   |none=>rw[Juq ho h1 h2];exact n1
   |some q=>rw[Jtq ho h1 h2];exact(vdq p1 h2).1
 ·rw[uEq ho];exact n1
theorem doX_ok(box:Dig):∀{xs:List Tx} {l:List Pr} {r:List Pr×List Rec},Srt l->doX box l xs=some r->Srt r.1/\sumB r.1=sumB l/\r.2.length=xs.length
 |[],l,r,h,e=>by
  cases e;exact⟨h,rfl,rfl⟩
 |x::xs,l,r,h,e=>by
  by_cases hg:goX l x
  ·have e1:doX box l (x::xs)=(match doX box (yCq l x box).1 xs with
       |some r=>some (r.1,⟨2,idD x,(yCq l x box).2⟩::r.2)
       |none=>none):=if_pos hg
   rw[e1] at e;have hn:(acL l (keyD x.pub)).nonce+1<18446744073709551616:=by have:=hg.2;omega
   cases e2:doX box (yCq l x box).1 xs with
   |none=>rw[e2] at e;cases e
   |some q=>
    rw[e2] at e;cases e;obtain⟨h3,h4,h5⟩:=doX_ok box (paid_srt x box h hn) e2;have h6:=(paid_ok x box h hn).2.2;exact⟨h3,by show sumB q.1=_;omega,by show _+1=_+1;rw[h5]⟩
  ·have e1:doX box l (x::xs)=none:=if_neg hg;rw[e1] at e;cases e
section
attribute [local irreducible] CoW OpW FlW Step Spec
variable {G:Nat->Option W}
structure Hdr where
 height:Int
 parent:Dig
 state:Dig
 rows:Dig
 many:Int
noncomputable def hdW(h:Hdr):W:=.agg 98 [.int .i64 h.height,dW h.parent,dW h.state,dW h.rows,.int .i64 h.many]
@[simp] theorem KMq(h:Hdr):purW (hdW h)=true:=by simp[hdW]
theorem ent_blkv{C:Cfg}{G:Nat->Option W}{m k0:Nat}{fr:FrW}{hp:HpW}{nw:Nat}{R:Res}{b:Nat}{ty:TypeId}{w w':W}(hb:hget hp b=some (ty,w))(h:View (λ_=>none) w w'):Ent C G m k0 fr hp nw R fr (hset hp b (ty,w')) nw R:=
 ent_blk hb λΓ v hv=>jZq ⟨λ_ h _=>h,λ_ _ _=>rfl,λ_ h=>h,λ_ _=>rfl,λ_ _ _ h=>Qg⟩ h hv
theorem xdq{C:Cfg}{hp:HpW}{nw:Nat}{ts tx e ty:TypeId}{j k:TyI}{x:W}{b n:Nat}{L M:List UInt8}(hj:C.ty ts=some j)(hd:j.d= .slice e)(hk:C.ty e=some k)(h1:k.size=1)(h2:k.bytes=1)(ht:Nat.beq ty e=true)(hs:srcW C hp tx 1 x=some (zaq M))(hg:hget hp b=some (ty,.arr (n*1) 1 (zaq L)))(hn:L.length=n)(hM:0<M.length)(hb:n+M.length<=1000000000):appW C hp nw ts tx (.sl b 0 0 n 1 none) x=some (.sl nw 0 0 (L++M).length 1 none,(nw,e,.arr ((L++M).length*1) 1 (zaq (L++M)))::hdel hp b,nw+1,.updO b):=by
 have hl:(zaq M).length=M.length:=zdq M;have q:=yQq (C:=C) (hp:=hp) (nw:=nw) (ts:=ts) (tx:=tx) (e:=e) (ty:=ty) (j:=j) (k:=k) (x:=x) (b:=b) (base:=0) (off:=0) (len:=n) (v:=.arr (n*1) 1 (zaq L)) (news:=zaq M) (olds:=zaq L) hj hd hk (by rw[h1];rfl) (by rw[h1];exact hs) (λh=>by rw[h] at hl;simp at hl;omega) (by rw[hl,h2];omega) (by rw[hl];omega) hg (by rw[hl,h1];show n*1<_;omega) ht (by rw[h1];exact zfq Xm (by rw[zdq];exact hn.symm) rfl);rw[h1,hl,<-yMq] at q;rw[List.length_append,hn];exact q
theorem app_b0{C:Cfg}{hp:HpW}{nw:Nat}{ts tx e:TypeId}{j k:TyI}{x:W}{M:List UInt8}(hj:C.ty ts=some j)(hd:j.d= .slice e)(hk:C.ty e=some k)(h1:k.size=1)(h2:k.bytes=1)(hs:srcW C hp tx 1 x=some (zaq M))(hM:0<M.length)(hb:M.length<=1000000000):appW C hp nw ts tx .nils x=some (.sl nw 0 0 M.length 1 none,(nw,e,.arr (M.length*1) 1 (zaq M))::hp,nw+1,.gen):=by
 have hl:(zaq M).length=M.length:=zdq M;have q:=j7q (C:=C) (hp:=hp) (nw:=nw) (ts:=ts) (tx:=tx) (e:=e) (j:=j) (k:=k) (x:=x) (news:=zaq M) hj hd hk (by rw[h1];rfl) (by rw[h1];exact hs) (λh=>by rw[h] at hl;simp at hl;omega) (by rw[hl,h2];omega) (by rw[hl];omega);rw[h1,hl] at q;exact q
def okH(h:Hdr):Prop:=0<=h.height/\h.height<=1073741824/\0<=h.many/\h.many<=256
noncomputable instance(h:Hdr):Decidable (okH h):=Classical.propDecidable _
theorem xrq(h:Hdr):PS cfg G 114 [hdW h] (.bool (decide (okH h))):=by
 refine gI 10 O (λR k0=>?_);refine gD 0 O (λh1=>?_) (λh1=>?_)
 ·refine gD 3 O (λh2=>?_) (λh2=>?_)
  ·refine gD 4 O (λh3=>?_) (λh3=>?_)
   ·refine gU 4 O ?_;exact gQ 5 O Xy
   ·exact gQ 10 O Xy
  ·exact gQ 15 O Xy
 ·exact gQ 19 O Xy
end
end
section
open Go.Shelf Go.RowKit Go.Lib
def joinRen:Go.Shelf.Ren:=⟨fun|14=>311|15=>335|n=>n,fun|26=>150|22=>58|3=>3|4=>4|0=>0|9=>9|20=>20|5=>5|n=>n,fun|n=>n⟩
theorem joinLays:Go.Proofs.SlLaysJ.n14 Tryz.prog joinRen:={
 mixed:=by kernel_rfl
 f14:=Tryz.func311.trans (congrArg some Xp)
 f15:=Tryz.func335.trans (congrArg some Xp)
 t0:=Tryz.underlying0
 a0:=Tryz.isAgg0
 z0:=Tryz.sizeOf0
 v0:=Tryz.zeroValue0
 t3:=Tryz.underlying3
 a3:=Tryz.isAgg3
 z3:=Tryz.sizeOf3
 v3:=Tryz.zeroValue3
 t4:=Tryz.underlying4
 a4:=Tryz.isAgg4
 z4:=Tryz.sizeOf4
 v4:=Tryz.zeroValue4
 t9:=Tryz.underlying9
 a9:=Tryz.isAgg9
 z9:=Tryz.sizeOf9
 v9:=Tryz.zeroValue9
 t20:=Tryz.underlying20
 a20:=Tryz.isAgg20
 z20:=Tryz.sizeOf20
 v20:=Tryz.zeroValue20
 t22:=Tryz.underlying58
 a22:=Tryz.isAgg58
 z22:=Tryz.sizeOf58
 v22:=Tryz.zeroValue58
 t26:=Tryz.underlying150
 a26:=Tryz.isAgg150
 z26:=Tryz.sizeOf150
 v26:=Tryz.zeroValue150
 t5:=Tryz.underlying5
 z5:=Tryz.sizeOf5
 i5:=by kernel_rfl}
theorem joinMany(b o n c:Nat)(vs:List Value)(ls:List (List UInt8))(sv:Value)(sep:List UInt8)(w:World)(hn:ls.length=n)(h2:2<=n)(hP:Lib.PartsAt w ⟨b,o,none⟩ vs ls)(hcap:n<=c)(hS:Lib.HoldsBytes w sv sep)(hn47:n<=140737488355328)(hlen:Lib.lens ls+sep.length*(n-1)<=140737488355328):
  Calls Tryz.prog 311 #[.slice (some ⟨b,o,none⟩) n c,sv] w λe w'=>∃v',e= .returned v'/\Lib.FreshBytes w.heap.size w' v' (Lib.join ls sep)/\Below w.heap.size w w':=Any.bytes_Join_many joinLays b o n c vs ls sv sep w hn h2 hP hcap hS hn47 hlen
end
section
open Go.RowKit
section
variable {s0:World} {U:Nat} {D:Nat->Prop} {ρ:Env} {h:Heap} {w w':World}
theorem Rel.pushAt(r:Rel s0 U D ρ h w)(hU:h.next+1<=U){b:Blk}{o:Obj}{q pre cap:Nat}(hq:w.heap.size<=q)(g:Below w.heap.size w w')(hn:w'.heap[q]? =some o)(hin:InB (DD D ρ) b)(hk:KnB (ρ.add h.next q pre cap) h.next b o):
  Rel s0 U (λi=>D i\/i=h.next) (ρ.add h.next q pre cap) (h.push b) w'/\Nxt D ρ h w (λi=>D i\/i=h.next) (ρ.add h.next q pre cap) (h.push b) w':=by
 have hne:=r.next_new hU;have hag:Env.Agree (DD D ρ) ρ (ρ.add h.next q pre cap):=Env.add_agree hne;have hdd:∀j m,DD D ρ j m->DD (λi=>D i\/i=h.next) (ρ.add h.next q pre cap) j m:=λj m hj=>⟨.inl hj.1,by rw[(hag j m hj).2.2.1];exact hj.2⟩
 have hb:∀j,D j->(ρ.add h.next q pre cap).b j=ρ.b j:=λj hj=>(hag j 0 ⟨hj,Nat.zero_le _⟩).1
 have hbn:(ρ.add h.next q pre cap).b h.next=q:=by simp[Env.add]
 have get:∀j c,(D j\/j=h.next) ->(h.push b).get j=some c->(j=h.next/\c=b)\/(D j/\h.get j=some c):=λj c hj hc=>by
  rw[Heap.get_push] at hc;split at hc
  ·rename_i e;cases hc;exact .inl ⟨e,rfl⟩
  ·rename_i e;rcases hj with hj|hj
   ·exact .inr ⟨hj,hc⟩
   ·exact absurd hj e
 have hlt:∀j c,D j->h.get j=some c->ρ.b j<w.heap.size:=λj c hj hc=>by
  obtain⟨o,h1,_⟩:=r.has j c hj hc;exact(Array.getElem?_eq_some_iff.1 h1).1
 have hsz:s0.heap.size<=w.heap.size:=r.base.size;refine⟨⟨λj hj=>?_,λj hj=>?_,λj c hj hc=>?_,λj c hj hc=>?_,λj k c d hj hk' hc hd hoc hod hne'=>?_,λj c hj hc hoc=>?_,λj k c d hj hk' hc hd hoc hod=>?_,?_⟩,?_⟩
 ·show j<h.next+1\/_;rcases hj with hj|hj
  ·have:=r.lt j hj;omega
  ·omega
 ·have hj:h.next+1<=j:=hj;rw[Heap.get_push,if_neg Xd];exact r.wf j Xd
 ·rcases get j c hj hc with ⟨rfl,rfl⟩|⟨hj,hc⟩
  ·exact⟨o,by rw[hbn];exact hn,hk⟩
  ·obtain⟨o,h1,h2⟩:=r.has j c hj hc;exact⟨o,by rw[hb j hj,g.block _ (hlt j c hj hc)];exact h1,KnB.agree hag (m:=0) ⟨hj,Nat.zero_le _⟩ (r.clo j c hj hc) h2⟩
 ·rcases get j c hj hc with ⟨rfl,rfl⟩|⟨hj,hc⟩
  ·exact hin.mono hdd
  ·exact(r.clo j c hj hc).mono hdd
 ·rcases get j c hj hc with ⟨rfl,rfl⟩|⟨hj1,hc1⟩<;>rcases get k d hk' hd with ⟨rfl,rfl⟩|⟨hk1,hd1⟩
  ·exact absurd rfl hne'
  ·rw[hbn,hb k hk1];have:=hlt k d hk1 hd1;omega
  ·rw[hbn,hb j hj1];have:=hlt j c hj1 hc1;omega
  ·rw[hb j hj1,hb k hk1];exact r.inj j k c d hj1 hk1 hc1 hd1 hoc hod hne'
 ·rcases get j c hj hc with ⟨rfl,rfl⟩|⟨hj,hc⟩
  ·rw[hbn];omega
  ·rw[hb j hj];exact r.own j c hj hc hoc
 ·rcases get j c hj hc with ⟨rfl,rfl⟩|⟨hj1,hc1⟩<;>rcases get k d hk' hd with ⟨rfl,rfl⟩|⟨hk1,hd1⟩
  ·rw[hoc] at hod;cases hod
  ·rw[hbn,hb k hk1];have:=hlt k d hk1 hd1;omega
  ·rw[hbn,hb j hj1];have:=hlt j c hj1 hc1;omega
  ·rw[hb j hj1,hb k hk1];exact r.old j k c d hj1 hk1 hc1 hd1 hoc hod
 ·exact⟨g.os.trans r.base.os,g.tape.trans r.base.tape,g.output.trans r.base.output,Nat.le_trans hsz g.size,λk hk=>(g.block k Xd).trans (r.base.block k hk)⟩
 ·refine⟨λ_ h=>.inl h,λj hj=>?_,λj hj=>?_,λc hc _=>g.block c hc,λj hj hn' hl=>?_,g.size,Nat.le_refl _,Nat.le_succ _,g.os,g.tape,g.output⟩
  ·rcases hj with hj|hj
   ·exact .inl hj
   ·exact .inr ⟨Nat.le_of_eq hj.symm,by show j<h.next+1;omega⟩
  ·have:j≠h.next:=by
    rcases hj with hj|hj
    ·omega
    ·have hj:h.next+1<=j:=hj;omega
   simp[Env.add,this]
  ·have hl:j<h.next+1:=hl;obtain rfl:j=h.next:=by omega
   exact .inl (by rw[hbn];exact hq)
theorem byJ_spec(r:Rel s0 U D ρ h w){v:V}{l:List UInt8}(hin:InD (DD D ρ) v)(hk:byJ h v=some l):Lib.HoldsBytes w (conc ρ v) l:=by
 unfold byJ at hk;split at hk
 ·cases hk;exact⟨none,0,rfl,λ_=>rfl,λa h=>by cases h⟩
 ·rename_i b base off n lim;split at hk
  ·rename_i bv hv;split at hk
   ·rename_i L hL;obtain⟨g1,g2⟩:=Z8q ρ hk;obtain⟨q1,_,_,_⟩:=qRq (ρ:=ρ) 50 bv off n 1 L hL;have hcells:=xmq r hin hv hL;rw[g2] at hcells;obtain rfl:n=l.length:=by omega
    exact⟨_,_,rfl,λh=>Qg,λa ha i x hx=>by cases ha;exact hcells i _ (by simp[hx])⟩
   ·cases hk
  ·cases hk
 ·cases hk
theorem bysJ_spec(r:Rel s0 U D ρ h w):∀{xs:List V} {ls:List (List UInt8)},InDL (DD D ρ) xs->bysJ h xs=some ls->xs.length=ls.length/\(∀(i:Nat) v l,(zWq ρ xs)[i]? =some v->ls[i]? =some l->Lib.HoldsBytes w v l)/\∀x∈xs,x.size=1/\x.leaf=true
 |[],ls,_,hk=>by cases hk;exact⟨rfl,λi v l h=>by simp[zWq] at h,λx hx=>by cases hx⟩
 | v ::xs,ls,hin,hk=>by
  unfold bysJ at hk;split at hk
  ·rename_i x r' hx hr;cases hk;obtain⟨h1,h2,h3⟩:=bysJ_spec r hin.2 hr;refine⟨congrArg (· +1) h1,λi u l hu hl=>?_,λy hy=>?_⟩
   ·cases i with
    |zero=>
     simp only[zWq,List.getElem?_cons_zero,Option.some.injEq] at hu hl;subst hu;subst hl
     exact byJ_spec r hin.1 hx
    |succ i=>
     simp only[zWq,List.getElem?_cons_succ] at hu hl;exact h2 i u l hu hl
   ·rcases List.mem_cons.1 hy with rfl|hy
    ·unfold byJ at hx;split at hx
     ·exact⟨rfl,rfl⟩
     ·exact⟨rfl,rfl⟩
     ·cases hx
    ·exact h3 y hy
  ·cases hk
theorem inl_of{D:Nat->Nat->Prop}:∀{l:List V},(∀x∈l,InD D x) ->InDL D l
 |[],_=>trivial
 |x::l,h=>⟨h x (List.mem_cons_self ..),inl_of λy hy=>h y (List.mem_cons_of_mem _ hy)⟩
theorem JMq(ρ:Env):∀{xs:List V},(∀x∈xs,x.size=1/\x.leaf=true) ->zAq ρ 1 xs=zWq ρ xs
 |[],_=>rfl
 |x::xs,h=>by
  have hx:=(h x Xh).2;simp only[zAq,zWq,kyq hx,JMq ρ (xs:=xs) λy hy=>h y (by simp[hy])];rw[y5q (by rfl)];rfl
theorem join_flat:∀ls:List (List UInt8),Lib.join ls []=ls.flatten
 |[]=>rfl
 |x::r=>by
  rw[Lib.join_cons];unfold Lib.joinTail;simp
end
theorem joinOK{C:Cfg}:KnownFn Tryz.prog C 311 joinJ:=λvs h v h' he=>by
 unfold joinJ at he;split at he
 ·rename_i b base off n lim y;split at he
  ·rename_i bv hv hy;split at he
   ·rename_i xs hxs;split at he
    ·rename_i ls hls;split at he
     ·rename_i hb;cases he;simp only[Bool.and_eq_true] at hb;obtain⟨⟨⟨hb1,hb2⟩,hb3⟩,hb4⟩:=hb;have hb1:=Ob hb1;have hb2:=Ob hb2;have hb3:=Ob hb3;have hb4:=Ob hb4;refine⟨yJq _ _,(fnsOK 311 _ (by rfl)).2.1,λs0 U D ρ w hU gl hin rel=>?_⟩;have hU:h.next+1<=U:=hU;have hx:=hin.1;have hyi:=hin.2.1;obtain⟨g1,g2,g3,g4⟩:=qRq (ρ:=ρ) 50 bv off n 1 xs hxs;obtain⟨_,_,_,_,_,_,_,hvin⟩:=rel.val hx.2.2.1 hv;have hxin:InDL (DD D ρ) xs:=g4 _ hvin;obtain⟨k1,k2,k3⟩:=bysJ_spec rel (inl_of (KTq hxin)) hls;have hcells:=xmq rel hx hv hxs;rw[show zAq ρ 1 xs=zWq ρ (z8q 1 xs) by rw[<-JMq ρ k3,kwq ρ 1 xs,ZPq ρ _ (v1q 1 xs)]] at hcells;have hge:=xnq hx;have hc0:¬yzq ρ b off 1 lim=0:=by omega
      rw[if_neg hc0] at hcells;have hP:Lib.PartsAt w ⟨ρ.b b,ρ.pre b+off,none⟩ (zWq ρ (z8q 1 xs)) ls:=⟨by rw[jWq,k1],hcells,k2⟩;have hS:=byJ_spec rel hyi hy;have hfl:(z8q 1 xs).length=xs.length:=by rw[uhq,Nat.mul_one]
      have hlens:Lib.lens ls=ls.flatten.length:=by simp[Lib.lens,List.length_flatten]
      have cj:=joinMany (ρ.b b) (ρ.pre b+off) n (yzq ρ b off 1 lim) (zWq ρ (z8q 1 xs)) ls (conc ρ y) [] w Xd hb1 hP hge hS hb2 (by rw[hlens,List.length_nil,Nat.zero_mul,Nat.add_zero];exact hb4)
      have harg:(zWq ρ [.sl b base off n 1 lim,y]).toArray= #[.slice (some ⟨ρ.b b,ρ.pre b+off,none⟩) n (yzq ρ b off 1 lim),conc ρ y]:=by
       simp[zWq,conc,yGq,hc0]
      rw[harg];refine cj.mono ?_;rintro e w' ⟨v',rfl,hfresh,hbel⟩;rw[join_flat] at hfresh;clear hlens cj;generalize ls.flatten=F at hfresh hb3 hb4⊢;obtain⟨g,cap,zs,rfl,hg,hlc,hmax,hzl,hzr,hzb,hcell,hfrz⟩:=hfresh
      have hobj:∃cs ty fz,w'.heap[g]? =some (.cells cs ty fz):=by
       have:=hcell 0 Xd;simp only[World.cell?] at this;split at this
       ·rename_i cs ty fz hh;exact⟨_,_,_,hh⟩
       ·cases this
      obtain⟨cs,ty,fz,hobj⟩:=hobj
      have hcs:∀i,i<cap->cs[i]? =some (.int .u8 (zs.getD i 0)):=λi hi=>by
       have:=hcell i hi;simpa[World.cell?,hobj] using this
      have hval:∀i (hi:i<F.length),zs.getD i 0=(F[i].toNat:Int):=λi hi=>by
       have hz:i<zs.length:=by omega
       have h1:=congrArg (·[i]?) hzb;simp only[Go.Lib.bytesOf,List.getElem?_map,List.getElem?_take,hi,if_true,List.getElem?_eq_getElem hz,Option.map_some,List.getElem?_eq_getElem hi,Option.some.injEq] at h1;obtain⟨q1,q2⟩:=hzr zs[i] (List.getElem_mem hz);rw[<-h1];simp[List.getD,List.getElem?_eq_getElem hz];omega
      have hcells2:cs.toList=cellsV ρ (.arr F.length 1 (qdq F))++cs.toList.drop F.length:=by
       have e:cellsV ρ (.arr F.length 1 (qdq F))=F.map λb=>Value.int .u8 b.toNat:=by
        simp only[cellsV];rw[y5q (by rw[zXq];simp[qdq]),kzq]
       rw[e];apply List.ext_getElem?;intro i;by_cases hi:i<F.length
       ·rw[List.getElem?_append_left (by simpa using hi)];have:=hcs i Xd;rw[hval i hi] at this;simpa[List.getElem?_eq_getElem hi] using this
       ·rw[List.getElem?_append_right Xq,List.getElem?_drop];congr 1
        simp;omega
      have hinv:InD (DD D ρ) (.arr F.length 1 (qdq F)):=InDL_iff.2 λy hy=>by obtain⟨c,_,rfl⟩:=List.mem_map.1 hy;trivial
      have hag:Env.Agree (DD D ρ) ρ (ρ.add h.next g 0 cap):=Env.add_agree (rel.next_new hU)
      obtain⟨r',n'⟩:=rel.pushAt hU (q:=g) (pre:=0) (cap:=cap) (b:=.ro (.arr F.length 1 (qdq F))) hg hbel hobj hinv ⟨[],cs.toList.drop F.length,ty,fz,by
       rw[qcq hag hinv,List.nil_append,<-hcells2],by simp[Env.add],by simp[Env.add];exact hlc⟩
      refine⟨_,_,?_,r',n',by omega,Nat.le_refl _,.inr rfl,?_⟩
      ·have:¬cap=0:=by omega
       simp[conc,yGq,yzq,Env.add,this]
      ·simp[Env.add];exact hlc
     ·cases he
    ·cases he
   ·cases he
  ·cases he
 ·cases he
theorem known0OK:ZUq Tryz.prog cfg:=λf k hk=>by
 have hk:(match Nat.beq f 311 with|true=>some joinJ|false=>none)=some k:=hk;split at hk
 ·rename_i e;cases hk;have:=Nat.eq_of_beq_eq_true e;subst this;exact joinOK
 ·cases hk
section
section
variable {C:Cfg} {G:Nat->Option W} {o:Oper} {fr fr2:FrW} {hp:HpW} {nw:Nat} {R:Res} {post:W->HpW->Nat->Res->Option EvW->Prop}
theorem step_frzA(hf:subV (blkA hp) fr fr2)(h:Step C G o fr2 [] nw R λw hp' nw' R' ev=>ev=some .gen/\post w hp' nw' R' ev):Step C G o fr hp nw R post:=λΓ X frv hnw s f0=>by
 let Γ2:Ctx:=⟨Γ.nw,Γ.σ,λc=>Γ.D c\/Owns Γ hp c,Γ.h⟩
 have le:Γ.Le Γ2:=⟨Nat.le_refl _,λ_ _=>rfl,λ_ h=>.inl h,λ_ _=>rfl⟩
 have q:Seen (blkA hp) Γ Γ2:=⟨λ_ h _=>h,λ_ _ _=>rfl,λ_ h=>.inl h,λ_ _=>rfl,λb c _ h=>by
  unfold blkA at h;split at h
  ·rename_i ty c' hg;cases h;obtain⟨v,h1,h2,h3⟩:=j2q s hg;exact⟨.inr ⟨b,_,hg,rfl⟩,v,h2,h3⟩
  ·cases h⟩
 have s2:SatH C G Γ2 [] X R:=⟨s.wf,λk ty' w hk=>by simp[hget] at hk,λk k' x y hx=>by simp[hget] at hx,List.nodup_nil,λd hd hX=>by
  rcases hd with h|⟨b,x,h,rfl⟩
  ·exact s.dX d h hX
  ·exact(s.own b x.1 x.2 h).2.2.1 hX,s.xlt,λd hd=>by
  rcases hd with h|⟨b,x,h,rfl⟩
  ·exact s.dlt d h
  ·exact s.own_lt h,R.st _ _ _ _ _ s.res le.D le.val (λ_ _=>rfl) (Nat.le_refl _),s.gl.mono le⟩
 have a:Frm Γ.nw Γ hp X Γ2 [] X:=⟨λ_ _=>rfl,λh=>h,Nat.le_refl _,λ_ _ _ _=>rfl,λ_ h=>.inl h,λd hd=>by
  rcases hd with h|h
  ·exact .inl h
  ·exact .inr (.inl (.inl h)),λk x hk h=>by simp[hget] at h,λk x hk h=>by simp[hget] at h,λ_ h=>.inl h,λ_ h _ _=>h⟩
 obtain⟨n,w,hp',R',ev,v,h',Γ',X',⟨rfl,h1⟩,h2,⟨h3,h3'⟩,h4,h5,h6,h7,h8⟩:=h Γ2 X frv hnw s2 λt w hw=>by
  obtain⟨w0,g1,g2⟩:=xiq hf t w hw;obtain⟨u,g3,g4⟩:=f0 _ _ g1;exact⟨u,g3,jZq q g2 g4⟩
 exact⟨n,w,hp',R',_,v,h',Γ',X',h1,h2,⟨h3,h3'⟩,h4,⟨h5.nw,h5.σ,λc hc=>h5.D c (.inl hc),λc hc=>h5.val c (.inl hc)⟩,h6,a.trans h7,h8⟩
end
attribute [local irreducible] CoW OpW FlW Step Spec
variable {G:Nat->Option W}
theorem vZq(h:Hdr):PS cfg G 127 [hdW h] (.int .i64 (if okH h then 0 else 8)):=by
 refine gI 11 O (λR k0=>?_);refine gD 0 O (λh1=>?_) (λh1=>?_)
 ·exact gQ 25 O Yh
 ·refine gD 3 O (λh2=>?_) (λh2=>?_)
  ·exact gQ 21 O Yh
  ·refine gD 4 O (λh3=>?_) (λh3=>?_)
   ·exact gQ 16 O Yh
   ·refine gU 4 O ?_;refine gS 3 O (λh4=>?_) (λh4=>?_)
    ·exact gQ 7 O Yh
    ·exact gQ 8 O Yh
theorem hnumber_s(n size:Nat)(hs:1<=size)(hs8:size<=8)(hn:n<256^size)(hn2:n<9223372036854775808):PS cfg G 261 [.int .i64 (n:Int),.int .i64 (size:Int)] (bW (beB size n)):=by
 refine gIv 8 O (λR k0=>gA 0 O (n) (zcq 1 O ?_))
 (refine zjq rfl (qBq O O O O O O (Q8q n size hs hs8 hn) ?_);rintro w hp1 nw1 ⟨rfl,rfl,rfl⟩)
 refine zgq 14 O ?_;have hp:purW (.arr (size*1) 1 (zaq (beB size n)))=true:=yLq _;exact quq Jp rfl (.sl (full:=false) (c:=.arr (size*1) 1 (zaq (beB size n))) (xs:=zaq (beB size n)) (by show some (renW _ (W.arr (size*1) 1 (zaq (beB size n))))=_;rw[zeq hp]) hp (zfq Xm (by rw[zdq,yiq]) rfl) Xi)
theorem hjoin_s(ps:List (List UInt8))(f:Bool)(h2:2<=ps.length)(hn:ps.length<=140737488355328)(h1:1<=ps.flatten.length)(hb:ps.flatten.length<=140737488355328):PS cfg G 260 [.fz (ps.map bW) 1 f] (bW ps.flatten):=by
 exact gI 8 O (λR k0=>gC 0 O (join_w rfl ps f h2 hn h1 hb) (gQa 4 O))
def hdB(h:Hdr):List UInt8:=[beB 8 h.height.toNat,h.parent.1,h.state.1,h.rows.1,beB 4 h.many.toNat].flatten
theorem hdB_len(h:Hdr):(hdB h).length=108:=by simp[hdB,yiq,h.parent.2,h.state.2,h.rows.2]
theorem Zrq(d:Dig)(i:Nat):(((zaq d.1).drop (0/1)).take 32)=zaq d.1:=by
 have h:(zaq d.1).length=32:=by rw[zdq,d.2]
 rw[show 0/1=0 from rfl,List.drop_zero,List.take_of_length_le (by rw[h];omega)]
theorem hd_sub(h:Hdr):yyq 50 (hdW h) 1 32 1=some (zaq h.parent.1)/\yyq 50 (hdW h) 33 32 1=some (zaq h.state.1)/\yyq 50 (hdW h) 65 32 1=some (zaq h.rows.1):=
 ⟨congrArg some (Zrq h.parent 0),congrArg some (Zrq h.state 0),congrArg some (Zrq h.rows 0)⟩
theorem hbytes_no(h:Hdr)(hh:¬okH h):PS cfg G 192 [hdW h] (.tup [.nils,.int .i64 8]):=by
 exact gI 11 O (λR k0=>gC 0 O (zzq (w':=.int .i64 8) (vZq h) (by rw[if_neg hh])) (gQa 19 O))
theorem hbytes_s(h:Hdr)(hh:okH h):PS cfg G 192 [hdW h] (.tup [bW (hdB h),.int .i64 0]):=by
 obtain⟨h1,h2,h3,h4⟩:=hh;obtain⟨a,ha⟩:∃a:Nat,h.height=a:=⟨h.height.toNat,by omega⟩
 obtain⟨m,hm⟩:∃m:Nat,h.many=m:=⟨h.many.toNat,by omega⟩
 have ea:h.height.toNat=a:=by omega
 have em:h.many.toNat=m:=by omega
 have hl:=hdB_len h;have c1:=hnumber_s (G:=G) a 8 Xd Xd (by show a<18446744073709551616;omega) Xd;have c2:=hnumber_s (G:=G) m 4 Xd Xd (by show m<4294967296;omega) Xd;rw[<-ha] at c1;rw[<-hm] at c2;rw[<-ea] at c1;rw[<-em] at c2;have hj:=hjoin_s (G:=G) [beB 8 h.height.toNat,h.parent.1,h.state.1,h.rows.1,beB 4 h.many.toNat] false Xh Xh Qe Qe;rw[show [beB 8 h.height.toNat,h.parent.1,h.state.1,h.rows.1,beB 4 h.many.toNat].flatten=hdB h from rfl] at hj;refine gI 11 O (λR k0=>gC 0 O (zzq (w':=.int .i64 0) (vZq h) (by rw[if_pos ⟨h1,h2,h3,h4⟩])) (gC 16 O c1 (gC 8 O c2 ?_)));refine gSf 1 O (step_frzA (fr2:=[(22,.fz ([beB 8 h.height.toNat,h.parent.1,h.state.1,h.rows.1,beB 4 h.many.toNat].map bW) 1 false)]) ⟨⟨_,rfl,(.sl2 (full:=false) rfl (.arr (.cons (.pur Xh) (.cons (.sl (full:=false) (c:=hdW h) (xs:=zaq h.parent.1) rfl Xh (hd_sub h).1 Xi) (.cons (.sl (full:=false) (c:=hdW h) (xs:=zaq h.state.1) rfl Xh (hd_sub h).2.1 Xi) (.cons (.sl (full:=false) (c:=hdW h) (xs:=zaq h.rows.1) rfl Xh (hd_sub h).2.2 Xi) (.cons (.pur Xh) .nil)))))) rfl Xi)⟩,trivial⟩ (step_ps O O O O O hj Xh Xh ⟨rfl,by first|rfl|kernel_rfl,?_⟩));exact gQa 5 O
noncomputable def hashD(h:Hdr):Dig:=tagD 6 [hdB h]
theorem hhash_no(h:Hdr)(hh:¬okH h):PS cfg G 123 [hdW h] (.tup [dW y2q,.int .i64 8]):=by
 exact gI 10 O (λR k0=>gC 0 O (hbytes_no h hh) (gV 17 O kVq (gQa 7 O)))
theorem KJq(h:Hdr)(hh:okH h):PS cfg glK 123 [hdW h] (.tup [dW (hashD h),.int .i64 0]):=by
 have hl:=hdB_len h;refine gI 10 O (λR k0=>gC 0 O (hbytes_s h hh) (zcq 21 O ?_));refine xAq O O O O O (by(repeat (first|exact .nil|refine .cons ?_ ?_|(refine .sl O ?_ rfl Xi;first|rfl|(focus (simp;done)))|(refine yxq O ?_ rfl;first|rfl|(focus (simp;done)))|(refine .pur ?_;first|rfl|(focus (simp;done)))))) (j0q 6 [hdB h] false Xh (by simp[hl])) Xk Xk ?_;exact zgq 5 O (gQa 0 O)
end
section
attribute [local irreducible] CoW OpW FlW Step Spec
variable {G:Nat->Option W}
theorem dep_sub(d:Depo):yyq 50 (pdW d) 1 32 1=some (zaq d.to.1):=congrArg some (Zrq d.to 0)
theorem sign_sub(x:Tx):yyq 50 (txW x) 67 32 1=some (zaq x.sign.1):=congrArg some (Zrq x.sign 0)
def depB(d:Depo):List UInt8:=beB 8 d.number++d.to.1++beB 8 d.amount
theorem depB_len(d:Depo):(depB d).length=48:=by simp[depB,yiq,d.to.2]
theorem rdepo_s(d:Depo)(h1:d.number<18446744073709551616)(h2:d.amount<18446744073709551616):PS cfg glK 212 [pdW d] (dW (depD d)):=by
 have l1:(zaq (beB 8 d.number)).length=8:=by rw[zdq,yiq]
 have l2:(zaq d.to.1).length=32:=by rw[zdq,d.to.2]
 have l3:(zaq (beB 8 d.amount)).length=8:=by rw[zdq,yiq]
 have eb:zaq (depB d)=(zaq (beB 8 d.number)++zaq d.to.1)++zaq (beB 8 d.amount):=by simp[depB,zaq]
 have hl:=depB_len d;refine gI 10 O (λR k0=>?_)
 ((refine zjq rfl (qBq O O O O O O (Q8q _ 8 Xd Xd Jm) ?_);rintro w hp1 nw1 ⟨rfl,rfl,rfl⟩))
 refine zgq 11 O ?_
 ((refine zjq rfl (qBq O O O O O O (Q8q _ 8 Xd Xd Jm) ?_);rintro w hp1 nw1 ⟨rfl,rfl,rfl⟩))
 exact zgq 12 O (gM 0 O (zKq O O (yQq (k:=ti5) (len:=8) (news:=zaq d.to.1) (olds:=zaq (beB 8 d.number)) O O O O (zJq O O O (dep_sub d)) Qu Qh Qh rfl (by show 8*1<0+(8+_)*1;rw[l2];decide) rfl (zfq Xm l1.symm rfl))) (gM 1 O (zKq O O (yQq (k:=ti5) (len:=8+(zaq d.to.1).length) (news:=zaq (beB 8 d.amount)) (olds:=zaq (beB 8 d.number)++zaq d.to.1) O O O O (zJq O O O (zfq Xm l3.symm rfl)) (by intro h;rw[h] at l3;cases l3) (by rw[l2,l3];decide) (by rw[l2,l3];decide) rfl (by show(8+_)*1<0+(_+_)*1;rw[l2,l3];decide) rfl (zfq Xm (by rw[List.length_append,l1]) rfl))) (zcq 1 O (xAq O O O O O (.cons (.pur rfl) (.cons (.sl2 (full:=false) rfl (.arr (.cons (.sl (full:=false) (xs:=zaq (depB d)) rfl (show purL ((zaq (beB 8 d.number)++zaq d.to.1)++zaq (beB 8 d.amount))=true by rw[<-eb];simp) Qi Xi) .nil)) rfl Xi) .nil)) (j0q 9 [depB d] false Xh (by simp[hl])) Xk Xk (zgq 4 O (gQa 0 O))))))
noncomputable def recW(r:Rec):W:=.agg 34 [.int .u8 (.ofNat r.kind.toNat),dW r.id,.int .i64 (r.code:Int)]
@[simp] theorem vMq(r:Rec):purW (recW r)=true:=by simp[recW]
def okR(r:Rec):Prop:=(r.kind=1\/r.kind=2)/\(r.code=0\/r.code=151\/(r.kind=2/\r.code=150))
theorem rcheck_s(r:Rec)(h:okR r):PS cfg G 215 [recW r] (.int .i64 0):=by
 obtain⟨k,d,c⟩:=r;obtain⟨hk,hc⟩:=h;simp only at hk hc;rcases hk with rfl|rfl
 ·have hc:c=0\/c=151:=by
   rcases hc with h|h|⟨h,_⟩
   ·exact .inl h
   ·exact .inr h
   ·exact absurd h Xm
  rcases hc with rfl|rfl
  ·skip
   exact gI 27 O (λR k0=>gFa 0 O (gTa 8 O (gTa 16 O (gQa 28 O))))
  ·skip
   exact gI 27 O (λR k0=>gFa 0 O (gTa 8 O (gFa 16 O (gTa 4 O (gQa 23 O)))))
 ·rcases hc with rfl|rfl|⟨_,rfl⟩
  ·skip
   exact gI 27 O (λR k0=>gTa 0 O (gFa 12 O (gTa 10 O (gQa 28 O))))
  ·skip
   exact gI 27 O (λR k0=>gTa 0 O (gFa 12 O (gFa 10 O (gTa 4 O (gQa 23 O)))))
  ·skip
   exact gI 27 O (λR k0=>gTa 0 O (gTa 12 O (gQa 39 O)))
def recB(r:Rec):List UInt8:=([r.kind]++r.id.1)++beB 2 r.code
theorem recB_len(r:Rec):(recB r).length=35:=by simp[recB,yiq,r.id.2]
theorem rec_sub(r:Rec):yyq 50 (recW r) 1 32 1=some (zaq r.id.1):=congrArg some (Zrq r.id 0)
theorem okR.code{r:Rec}(h:okR r):r.code<65536:=by
 rcases h.2 with h|h|⟨_,h⟩<;>omega
theorem rbytes_s(r:Rec)(h:okR r):PS cfg G 142 [recW r] (.tup [bW (recB r),.int .i64 0]):=by
 have hc:=h.code;have l1:(zaq [r.kind]).length=1:=by rw[zdq];rfl
 have l2:(zaq r.id.1).length=32:=by rw[zdq,r.id.2]
 have l3:(zaq (beB 2 r.code)).length=2:=by rw[zdq,yiq]
 have eb:zaq (recB r)=(zaq [r.kind]++zaq r.id.1)++zaq (beB 2 r.code):=by simp[recB,zaq]
 refine gIv 11 O (λR k0=>gC 0 O (rcheck_s r h) (gFa 6 O (gA 9 O (r.code) ?_)));first|((refine zjq rfl (qBq O O O O O O (Q8q _ 2 Xd Xd (by show _<65536;omega)) ?_);rintro w hp1 nw1 ⟨rfl,rfl,rfl⟩))|((refine zjq rfl (qBq O O O O O O (Q8q _ 8 Xd Xd Jm) ?_);rintro w hp1 nw1 ⟨rfl,rfl,rfl⟩))
 exact zgq 14 O (gM 0 O (zKq O O (yQq (k:=ti5) (len:=1) (news:=zaq r.id.1) (olds:=zaq [r.kind]) O O O O (zJq O O O (rec_sub r)) Qu Qh Qh rfl (by show 1*1<0+(1+_)*1;rw[l2];decide) rfl (zfq Xm l1.symm rfl))) (gM 1 O (zKq O O (yQq (k:=ti5) (len:=1+(zaq r.id.1).length) (news:=zaq (beB 2 r.code)) (olds:=zaq [r.kind]++zaq r.id.1) O O O O (zJq O O O (zfq Xm l3.symm rfl)) (by intro h;rw[h] at l3;cases l3) (by rw[l2,l3];decide) (by rw[l2,l3];decide) rfl (by show(1+_)*1<0+(_+_)*1;rw[l2,l3];decide) rfl (zfq Xm (by rw[List.length_append,l1]) rfl))) (zcq 5 O (quq Jp rfl (.tup (.cons (.sl (full:=false) (xs:=zaq (recB r)) rfl (show purL ((zaq [r.kind]++zaq r.id.1)++zaq (beB 2 r.code))=true by rw[<-eb];simp) Qi Xi) (.cons (.pur rfl) .nil)))))))
def txB(x:Tx):List UInt8:=yRq x++x.sign.1
theorem txB_len(x:Tx):(txB x).length=120:=by rw[txB,List.length_append,xMq,x.sign.2]
theorem txbytes_s(x:Tx)(hx:x.ok):PS cfg G 284 [txW x] (bW (txB x)):=by
 have hb:=xMq x;have l1:(zaq (yRq x)).length=88:=by rw[zdq,hb]
 have l2:(zaq x.sign.1).length=32:=by rw[zdq,x.sign.2]
 have hne:zaq (yRq x)≠[]:=λh=>by rw[h] at l1;cases l1
 have eb:zaq (txB x)=zaq (yRq x)++zaq x.sign.1:=by simp[txB,zaq]
 refine gIv 9 O (λR k0=>?_)
 (refine z9q rfl (kpq O O O O O Xh (bodyL_s x hx) Xh ?_);rw[qhq hne,qiq hne];refine⟨by first|rfl|kernel_rfl,?_⟩)
 exact ybq 2 O (gM 0 O (zKq O O (yQq (k:=ti5) (len:=(zaq (yRq x)).length) (news:=zaq x.sign.1) (olds:=zaq (yRq x)) O O O O (zJq O O O (sign_sub x)) Qu (by rw[l1,l2];decide) (by rw[l1,l2];decide) rfl (by show _*1<0+(_+_)*1;rw[l1,l2];decide) rfl (zfq Xm O O))) (zcq 4 O (quq Jp rfl (.sl (full:=false) (xs:=zaq (txB x)) rfl (show purL (zaq (yRq x)++zaq x.sign.1)=true by rw[<-eb];simp) (by rw[eb,l1,l2];exact zfq Xm (by simp[l1,l2]) rfl) Xi))))
theorem txid_s(x:Tx)(hx:x.ok):PS cfg glK 214 [txW x] (dW (idD x)):=by
 have hl:=txB_len x;refine gI 9 O (λR k0=>gC 0 O (txbytes_s x hx) (zcq 1 O ?_));first|refine xAq O O O O O (by(repeat (first|exact .nil|refine .cons ?_ ?_|(refine .sl O ?_ rfl Xi;first|rfl|(focus (simp;done)))|(refine yxq O ?_ rfl;first|rfl|(focus (simp;done)))|(refine .pur ?_;first|rfl|(focus (simp;done)))))) (j0q 5 [txB x] false Xh (by simp[hl])) Xk Xk ?_|refine xAq O O O O O (.cons (.pur rfl) (.cons (.sl2 (full:=false) rfl (.arr (.cons (.sl (full:=false) (xs:=zaq (depB d)) rfl (show purL ((zaq (beB 8 d.number)++zaq d.to.1)++zaq (beB 8 d.amount))=true by rw[<-eb];simp) Qi Xi) .nil)) rfl Xi) .nil)) (j0q 9 [depB d] false Xh (by simp[hl])) Xk Xk ?_
 exact zgq 4 O (gQa 0 O)
end
section
attribute [local irreducible] CoW OpW FlW Step Spec
noncomputable def sumD:T->Dig
 |.nil=>tagD 0 []
 |.leaf k v=>tagD 1 [k.1,v]
 |.fork l r=>tagD 2 [(sumD l).1,(sumD r).1]
def QYq(t:T):Prop:=∀p∈t.all,p.2.length<1000000
theorem ok_len:∀{t:T} {d:Nat} {b:Dig},t.ok d b=true->(t.isFork=true->2<=t.all.length)/\(t.non=true->1<=t.all.length)
 |.nil,_,_,_=>⟨λh=>Qg,λh=>Qg⟩
 |.leaf k v,_,_,_=>⟨λh=>Qg,λ_=>by simp[T.all]⟩
 |.fork l r,d,b,h=>by
  obtain⟨_,h1,h2,h3⟩:=ok_fork.1 h;obtain⟨l1,l2⟩:=ok_len h1;obtain⟨r1,r2⟩:=ok_len h2
  have key:2<=l.all.length+r.all.length:=by
   unfold T.two at h3;rcases Bool.or_eq_true_iff.1 h3 with h3|h3
   ·rcases Bool.or_eq_true_iff.1 h3 with h3|h3
    ·have:=l1 h3;omega
    ·have:=r1 h3;omega
   ·obtain⟨q1,q2⟩:=Bool.and_eq_true_iff.1 h3;have:=l2 q1;have:=r2 q2;omega
  have e:(T.fork l r).all.length=l.all.length+r.all.length:=by simp[T.all]
  exact⟨λ_=>by omega,λ_=>by omega⟩
theorem Zpq{l r:T}{d d':Nat}{b b':Dig}(h1:l.ok d b=true)(h2:r.ok d' b'=true)(h3:T.two l r=true):2<=l.all.length+r.all.length:=by
 obtain⟨l1,l2⟩:=ok_len h1;obtain⟨r1,r2⟩:=ok_len h2;unfold T.two at h3;rcases Bool.or_eq_true_iff.1 h3 with h3|h3
 ·rcases Bool.or_eq_true_iff.1 h3 with h3|h3
  ·have:=l1 h3;omega
  ·have:=r1 h3;omega
 ·obtain⟨q1,q2⟩:=Bool.and_eq_true_iff.1 h3;have:=l2 q1;have:=r2 q2;omega
theorem node_sub(x:Node):yyq 50 (nW x) 1 32 1=some (zaq x.key.1):=by
 have h:(zaq x.key.1).length=32:=by rw[zdq,x.key.2]
 show some (((zaq x.key.1).drop (0/1)).take 32)=_;rw[show 0/1=0 from rfl,List.drop_zero,List.take_of_length_le (by rw[h];omega)]
theorem tnone_s:PS cfg glK 68 [] (dW (tagD 0 [])):=by
 exact gI 7 O (λR k0=>xAq O O O O O (.cons (.pur rfl) (.cons .nilfz .nil)) (j0q 0 [] false Xh Xh) Xk Xk (zgq 4 O (gQa 0 O)))
theorem tsum_s(t0:Tree)(hb:t0.nodes.length<=4611686018427387903):∀(t:T) (n:Nat),Rep t0.nodes n t->QYq t->PS cfg glK 65 [tW t0,.int .i64 (n:Int)] (dW (sumD t)):=by
 intro t;induction t with
 |nil=>
  intro n hr hs;obtain rfl:n=0:=by cases hr;rfl
  refine gI 13 O (λR k0=>?_);refine gS 0 O (λh1=>?_) (λh1=>?_)
  ·exact gC 2 O (tnone_s) (gQa 5 O)
  ·exfalso;omega
 |leaf k v=>
  intro n hr hs;have hle:=hr.le;have hv:v.length<1000000:=hs (k,v) (by simp[T.all]);cases hr with
  |leaf h=>
  rename_i n l r;refine gI 13 O (λR k0=>?_);refine gS 0 O (λh1=>?_) (λh1=>?_)
  ·exfalso;omega
  ·refine gA 7 O (n) (gP 0 O (zDq (i:=n) O O O O O O O (zqq nW h)) (zcq 20 O ?_));first|refine fl_lk O O O O O (.cons (.pur rfl) (.cons (.sl2 (full:=false) rfl (.arr (.cons (.sl (full:=false) (c:=nW ⟨true,k,v,l,r⟩) (xs:=zaq k.1) rfl Xh (node_sub _) Xi) (.cons (.pur Xh) .nil))) rfl Xi) .nil)) (j0q 1 [k.1,v] false Xh (by simp[k.2,hv])) Xk Xk Xw ?_|refine fl_lk O O O O O (.cons (.pur rfl) (.cons .nilfz .nil)) (j0q 0 [] false Xh Xh) Xk Xk Xw ?_
   exact ybq 5 O (gQa 0 O)
 |fork tl tr ihL ihR=>
  intro n hr hs;have hle:=hr.le;cases hr with
  |fork h hl0 hr0 hL hR=>
  rename_i n l r k v;have sL:QYq tl:=λp hp=>hs p Jc
  have sR:QYq tr:=λp hp=>hs p Jc
  refine gI 13 O (λR k0=>?_);refine gS 0 O (λh1=>?_) (λh1=>?_)
  ·exfalso;omega
  ·exact gA 7 O (n) (gP 0 O (zDq (i:=n) O O O O O O O (zqq nW h)) (gC 20 O (ihL l hL sL) (gC 3 O (ihR r hR sR) (zcq 11 O (fl_lk O O O O O (.cons (.pur rfl) (.cons (.sl2 (full:=false) rfl (.arr (.cons (.sl (full:=false) (xs:=zaq (sumD tl).1) rfl Xh (zfq Xm (by simp[zdq,(sumD tl).2]) rfl) Xi) (.cons (.sl (full:=false) (xs:=zaq (sumD tr).1) rfl Xh (zfq Xm (by simp[zdq,(sumD tr).2]) rfl) Xi) .nil))) rfl Xi) .nil)) (j0q 2 [(sumD tl).1,(sumD tr).1] false Xh (by simp[(sumD tl).2,(sumD tr).2])) Xk Xk Xw (ybq 4 O (gQa 0 O)))))))
theorem tsum_ok(t:Tree)(n:Nat)(t0:T)(h:IsT t n t0):PS cfg glK 24 [tW t] (.tup [dW (sumD t0),.int .i64 0]):=by
 have hs:QYq t0:=λp hp=>by have:=(h.val p hp).2;omega
 have hlen:=h.len;refine gI 11 O (λR k0=>?_);refine gC 0 O (zzq (kbq t Xd) (by rw[if_pos h.may])) ?_;refine zcq 17 O ?_;refine yqq O O O O O (by rw[h.root];rfl) (tsum_s t Xd t0 n h.rep hs) ?_;refine zgq 5 O ?_;exact gQa 0 O
end
section
attribute [local irreducible] CoW OpW FlW Step Spec
variable {G:Nat->Option W}
def yDq(n:Nat):Nat:=2^(lenM (n-1) -1)
theorem YAq{n:Nat}(h2:2<=n)(h:n<=256):1<=lenM (n-1)/\lenM (n-1)<=8/\1<=yDq n/\yDq n<n:=by
 have key:∀n,n<=256->2<=n->1<=lenM (n-1)/\lenM (n-1)<=8/\1<=yDq n/\yDq n<n:=by decide+kernel
 exact key n h h2
theorem len64_s(x:Nat)(hx:x<=255):PS cfg G 351 [.int .u64 (x:Int)] (.int .i64 (lenM x:Nat)):=by
 have hl:=KIq x hx;have e:((UInt8.ofNat (lenM x)).toNat:Int)=(lenM x:Nat):=by congr 1;simp;omega
 refine gI 12 O (λR k0=>?_);refine gS 0 O (λh1=>?_) (λh1=>?_)
 ·exfalso;omega
 refine gS 9 O (λh2=>?_) (λh2=>?_)
 ·exfalso;omega
 refine gS 9 O (λh3=>?_) (λh3=>?_)
 ·exfalso;omega
 exact gA 6 O (x) (gP 0 O (ix_str O O O O O (len_tabW _ (by decide+kernel) x hx)) (gA 0 O (lenM x) (e:=e) (gA 0 O (lenM x) (gQa 4 O))))
theorem len_s(x:Nat)(hx:x<=255):PS cfg G 343 [.int .u64 (x:Int)] (.int .i64 (lenM x:Nat)):=by
 exact gI 12 O (λR k0=>gC 0 O (len64_s _ Xd) (gQa 4 O))
theorem front_s(n:Nat)(h2:2<=n)(h:n<=256):PS cfg G 325 [.int .i64 (n:Int)] (.int .i64 (yDq n:Nat)):=by
 obtain⟨k1,k2,k3,k4⟩:=YAq h2 h;refine gI 8 O (λR k0=>gA 0 O (n-1) (gA 0 O (n-1) (gC 0 O (len_s (n-1) Xd) (gA 0 O (lenM (n-1) -1) ?_))));refine gV (w':=.int .i64 (yDq n:Nat)) 0 O (by unfold yDq;generalize lenM (n-1)=L at k1 k2;rcases(show L=1\/L=2\/L=3\/L=4\/L=5\/L=6\/L=7\/L=8 by omega) with h|h|h|h|h|h|h|h<;>(subst h;rfl)) ?_;exact gQa 4 O
theorem halves_s(l:List W)(f:Bool)(hl:purL l=true):PS cfg G 287 [.fz l 1 f] (.fn 324 [] [.fel (.fz l 1 f)]):=by
 have hp:purW (.fz l 1 f)=true:=hl;exact gI 13 O (λR k0=>qvq (fr2:=[(2,_)]) Jp ⟨⟨_,rfl,.fn .nil (.cons (yxq rfl hp rfl) .nil)⟩,trivial⟩ O O)
noncomputable def encH(p:List (List UInt8)×Bool):List W:=[.fz (p.1.map bW) 1 p.2]
theorem encH_ok{l:List (List (List UInt8)×Bool)}:∀y∈l,purL (encH y)=true/\(encH y).length=1:=λy _=>⟨by simp[encH,purL,purW],rfl⟩
theorem halves_it(ps:List (List UInt8))(f:Bool)(h2:2<=ps.length)(h:ps.length<=256):qHq cfg G 324 [.fel (.fz (ps.map bW) 1 f)] ([(ps.take (yDq ps.length),false),(ps.drop (yDq ps.length),f)].map encH):=by
 obtain⟨k1,k2,k3,k4⟩:=YAq h2 h;have e:(ps.map bW).length=ps.length:=List.length_map _
 have b1:Nat.beq (yDq ps.length) (ps.map bW).length=false:=by
  rw[e];cases q:Nat.beq (yDq ps.length) ps.length with
  |true=>have:=Nat.eq_of_beq_eq_true q;omega
  |false=>rfl
 refine xEq (fn:=Tryz.f324) O O O (Ob rfl) (λL E R hy k0=>?_);refine zBq 3 O (gV (w':=.int .i64 (ps.length:Int)) 0 O Xv (gC 0 O (front_s ps.length h2 h) (gP 8 O (kLq (ys:=(ps.take (yDq ps.length)).map bW) (l:=0) (h:=yDq ps.length) (g:=false) O O O O O O O (Nat.zero_le _) Xd (by rw[List.drop_zero,Nat.sub_zero,List.map_take]) (by rw[b1,Bool.and_false])) ?_)));refine gSo 0 O (qIq O O O (hy) (λb R1 hb=>?_));refine gS 2 O (λh1=>?_) (λh1=>?_)
 ·cases b with
  |false=>cases h1
  |true=>
   refine zBq 4 O (gP 0 O (kLq (ys:=(ps.drop (yDq ps.length)).map bW) (l:=yDq ps.length) (h:=(ps.map bW).length) (g:=f) O O O O O O O Xd (Nat.le_refl _) Qs (by rw[Nat.beq_refl,Bool.and_true])) ?_);refine gSo 0 O (qIq O O O (hb) (λb R1 hb=>?_));exact zcq 1 O (j9q (.inl rfl) rfl (yl_same (l:=[]) Xr))
 ·cases b with
  |true=>exact absurd rfl h1
  |false=>
   exact zBq 1 O (j9q (.inl rfl) rfl hb)
theorem rlist1_s(p:List UInt8)(hp:p.length<=4096):PS cfg G 286 [bW p] (.bool false):=by
 have e:(zaq p).length=p.length:=zdq p;exact gI 8 O (λR k0=>gV (w':=.int .i64 (p.length:Int)) 0 O Xv (gF 0 O (ltI_not.2 Xd) (gQa 4 O)))
theorem rindex_s(ps:List (List UInt8))(f:Bool)(hn:ps.length<=256)(hp:∀p∈ps,p.length<=4096):PS cfg G 323 [.fz (ps.map bW) 1 f,.fn 286 [] []] (.int .i64 (-1)):=by
 have e:(ps.map bW).length=ps.length:=List.length_map _;refine gI 9 O (λR k0=>gV (w':=.int .i64 (ps.length:Int)) 0 O Xv ?_);refine gLo (α:=Nat) 4 (λi=>i<=ps.length) (λi=>[(8,.int .i64 (i:Int))]) [0,1,4,7] (λi=>ps.length-i) (0) rfl (Nat.zero_le _) (λi hI=>?_);refine gS 6 O (λh1=>?_) (λh1=>?_)
 ·have hi:i<ps.length:=by omega
  obtain⟨p,hx⟩:∃p,ps[i]? =some p:=⟨_,List.getElem?_eq_getElem hi⟩
  exact gP 15 O (zDq (i:=i) O O O O O O O (zqq bW hx)) (gC 1 O (rlist1_s p (hp p (List.mem_of_getElem? hx))) (gA 7 O (i+1) (gAg 2 O (i+1) (hi) Xd)))
 ·exact gO 2 O (gQa 8 O)
theorem rcont_s(ps:List (List UInt8))(f:Bool)(hn:ps.length<=256)(hp:∀p∈ps,p.length<=4096):PS cfg G 285 [.fz (ps.map bW) 1 f,.fn 286 [] []] (.bool false):=by
 refine gI 9 O (λR k0=>?_);refine gC 0 O (rindex_s ps f hn hp) ?_;refine gU 0 O ?_;exact gQa 4 O
theorem rlist_s(ps:List (List UInt8))(f:Bool)(hn:ps.length<=256)(hp:∀p∈ps,p.length<=4096):PS cfg G 217 [.fz (ps.map bW) 1 f] (.bool true):=by
 have e:(ps.map bW).length=ps.length:=List.length_map _;exact gI 8 O (λR k0=>gV (w':=.int .i64 (ps.length:Int)) 0 O Xv (gT 0 O (nlt_iff.2 Xd) (gC 2 O (rcont_s ps f hn hp) (gQa 6 O))))
noncomputable def Zxq:Nat->List (List UInt8) ->Dig
 |0,_=>tagD 0 []
 |n+1,ps=>match ps with
  |[]=>tagD 0 []
  |[p]=>tagD 7 [p]
  |p::q::r=>tagD 8 [(Zxq n ((p::q::r).take (yDq (p::q::r).length))).1,(Zxq n ((p::q::r).drop (yDq (p::q::r).length))).1]
noncomputable def gatR:List Dig->HpW
 |[]=>[(1,150,.nils),(0,35,ywq)]
 |ds=>[(1,150,.sl 2 0 0 ds.length 1 none),(0,35,ywq),(2,58,.arr (ds.length*1) 1 (ds.map λd=>bW d.1))]
theorem rroot_s:∀(n:Nat) (ps:List (List UInt8)) (f:Bool),ps.length<=n->ps.length<=256->(∀p∈ps,p.length<=4096) ->PS cfg glK 218 [.fz (ps.map bW) 1 f] (dW (Zxq n ps)):=by
 intro n;induction n with
 |zero=>
  intro ps f hn _ _;obtain rfl:ps=[]:=List.eq_nil_of_length_eq_zero Xd;refine gI 9 O (λR k0=>?_);refine gL 0 O ?_;refine gTa 5 O ?_;refine gC 6 O (tnone_s) ?_;exact gQa 6 O
 |succ n ih=>
  intro ps f hn hl hp;rcases ps with _|⟨p,_|⟨q,r⟩⟩
  ·skip
   refine gI 9 O (λR k0=>?_);refine gL 0 O ?_;refine gTa 5 O ?_;refine gC 6 O (tnone_s) ?_;exact gQa 6 O
  ·have hpl:=hp p Xh;refine gI 9 O (λR k0=>?_);refine gL 0 O ?_;refine gFa 5 O ?_;refine gTa 6 O ?_;refine gX 7 O ?_;refine zcq 2 O ?_;refine xAq O O O O O (by(repeat (first|exact .nil|refine .cons ?_ ?_|(refine .sl O ?_ rfl Xi;first|rfl|(focus (simp;done)))|(refine yxq O ?_ rfl;first|rfl|(focus (simp;done)))|(refine .pur ?_;first|rfl|(focus (simp;done)))))) (j0q 7 [p] false Xh Xq) Xk Xk ?_;refine zgq 6 O ?_;exact gQa 0 O
  ·show PS cfg glK 218 _ (dW (tagD 8 [(Zxq n ((p::q::r).take (yDq (p::q::r).length))).1,(Zxq n ((p::q::r).drop (yDq (p::q::r).length))).1]));have h2:2<=(p::q::r).length:=by simp
   generalize (p::q::r)=ps at*
   obtain⟨k1,k2,k3,k4⟩:=YAq h2 hl;have e:(ps.map bW).length=ps.length:=List.length_map _;have c1:=ih (ps.take (yDq ps.length)) false Qc Qc λp h=>hp p (List.mem_of_mem_take h)
   have c2:=ih (ps.drop (yDq ps.length)) f Yx Yx λp h=>hp p (List.mem_of_mem_drop h)
   have it:=halves_it (G:=glK) ps f h2 hl;generalize Zxq n (ps.take (yDq ps.length))=d1 at*
   generalize Zxq n (ps.drop (yDq ps.length))=d2 at*
   generalize ps.take (yDq ps.length)=A at*
   generalize ps.drop (yDq ps.length)=B at*
   refine gI 9 O (λR k0=>?_);refine gV (w':=.int .i64 (ps.length:Int)) 0 O Xv ?_;refine gF 5 O (eqI_not.2 Xd) ?_;refine gF 6 O (eqI_not.2 Xd) ?_;refine gC 16 O (halves_s (ps.map bW) f Xh) ?_;refine zcq 3 O ?_;refine QIq (α:=List Dig) (encH) ([(A,false),(B,f)]) (λi a=>a=[d1,d2].take i) (λa=>gatR a) (λa=>(match a with|[]=>2|_=>3)) (λa=>R) ([]) rfl Xk (it) (encH_ok) (rfl) O O O (λi a y hy hI=>?_) (λa hI=>?_)
   ·match i,hy,hI with
    |0,hy,hI=>
     cases hy;have hI:a=[]:=hI;subst hI;skip
     refine zBq 3 O ?_;refine ZBq ?_;refine zBq 4 O ?_;refine gC 0 O c1 ?_;refine gM 8 O (zKq O O (j7q (news:=[.sl 2 0 0 32 1 (some 32)]) (k:=ti58) O O O O (zJq O O O O) Xh Xm Xm)) ?_;refine zcq 3 O ?_;refine x9q [d1] rfl (Ent.trans (kUq 2 [] [(1,150,.sl 4 0 0 1 1 none),(0,35,ywq),(4,58,.arr (1*1) 1 [bW d1.1])] rfl Xh Xd trivial ⟨⟨by omega,_,rfl,.slK rfl⟩,⟨by omega,_,rfl,.pur rfl⟩,⟨by omega,_,rfl,.arr (.cons (.sl (full:=false) (xs:=zaq d1.1) rfl Xh (zfq Xm (by simp[zdq,d1.2]) rfl) Xi) .nil)⟩,trivial⟩ Xh) (ydq (b:=2) (k:=4) Xd Xd Ym trivial ⟨⟨by omega,rfl,rfl⟩,⟨by omega,rfl,rfl⟩,⟨by omega,?_,zbq (show purW (.arr (1*1) 1 [bW d1.1])=true by simp[purW,purL])⟩,trivial⟩ (by show([1,0,2]:List Nat).Nodup;decide)));show some (58,W.arr (1*1) 1 [bW d1.1])=some (58,renW _ (W.arr (1*1) 1 [bW d1.1]));rw[zeq (show purW (.arr (1*1) 1 [bW d1.1])=true by simp[purW,purL])]
    |1,hy,hI=>
     cases hy;have hI:a=[d1]:=hI;subst hI;refine zBq 3 O ?_;refine ZBq ?_;refine zBq 4 O ?_;refine gC 0 O c2 ?_;refine gM 8 O (zKq O O (yQq (len:=1) (news:=[.sl 3 0 0 32 1 (some 32)]) (olds:=[bW d1.1]) (k:=ti58) O O O O (zJq O O O O) Xh Xm Xm rfl (by show 1*1<0+(1+1)*1;decide) rfl (zfq Xm O O))) ?_;refine zcq 3 O ?_;refine x9q [d1,d2] rfl (Ent.trans (kUq 3 [] [(1,150,.sl 5 0 0 2 1 none),(0,35,ywq),(5,58,.arr (2*1) 1 [bW d1.1,bW d2.1])] rfl Xh Xd trivial ⟨⟨by omega,_,rfl,.slK rfl⟩,⟨by omega,_,rfl,.pur rfl⟩,⟨by omega,_,rfl,.arr (.cons (.pur Xh) (.cons (.sl (full:=false) (xs:=zaq d2.1) rfl Xh (zfq Xm (by simp[zdq,d2.2]) rfl) Xi) .nil))⟩,trivial⟩ Xh) (ydq (b:=2) (k:=5) Xd Xd Yb trivial ⟨⟨by omega,rfl,rfl⟩,⟨by omega,rfl,rfl⟩,⟨by omega,?_,zbq (show purW (.arr (2*1) 1 [bW d1.1,bW d2.1])=true by simp[purW,purL])⟩,trivial⟩ (by show([1,0,2]:List Nat).Nodup;decide)));show some (58,W.arr (2*1) 1 [bW d1.1,bW d2.1])=some (58,renW _ (W.arr (2*1) 1 [bW d1.1,bW d2.1]));rw[zeq (show purW (.arr (2*1) 1 [bW d1.1,bW d2.1])=true by simp[purW,purL])]
    |i+2,hy,hI=>cases hy
   ·have hI:a=[d1,d2]:=hI;subst hI;refine zyq 5 O ?_;refine xAq O O O O O (by(repeat (first|exact .nil|refine .cons ?_ ?_|(refine .sl O ?_ rfl Xi;first|rfl|(focus (simp;done)))|(refine yxq O ?_ rfl;first|rfl|(focus (simp;done)))|(refine .pur ?_;first|rfl|(focus (simp;done)))))) (j0q 8 [d1.1,d2.1] false Xh (by simp[d1.2,d2.2])) Xk Xk ?_;refine zgq 4 O ?_;exact gQa 0 O
noncomputable def rootD(ps:List (List UInt8)):Dig:=Zxq 256 ps
theorem rRoot_s(ps:List (List UInt8))(f:Bool)(hn:ps.length<=256)(hp:∀p∈ps,p.length<=4096):PS cfg glK 143 [.fz (ps.map bW) 1 f] (.tup [dW (rootD ps),.int .i64 0]):=by
 exact gI 10 O (λR k0=>gC 0 O (rlist_s ps f hn hp) (gFa 0 O (gC 8 O (rroot_s 256 ps f hn hn hp) (gQa 5 O))))
end
section
noncomputable def wkW(k:Nat)(t:Tree)(box:Dig)(L:List Rec):W:=.agg 35 [tW t,dW box,gW k 34 (L.map recW)]
noncomputable def wkH(w0 k:Nat)(t:Tree)(box:Dig)(L:List Rec):HpW:=(w0,248,wkW k t box L)::gH k 146 34 (L.map recW)
theorem qCq(L:List Rec):purL (L.map recW)=true:=z7q (λr=>vMq r) L
theorem wk_get(k:Nat)(t:Tree)(box:Dig)(L:List Rec):z2q 50 (wkW k t box L) 34 1 false=some (gW k 34 (L.map recW)):=by unfold wkW;cases L.map recW<;>rfl
theorem wk_putT(k:Nat)(t t':Tree)(box:Dig)(L:List Rec):qlq 50 (wkW k t box L) 0 (tW t')=some (wkW k t' box L):=by unfold wkW;cases L.map recW<;>rfl
theorem wk_put(k:Nat)(t:Tree)(box:Dig)(L:List Rec)(b n:Nat):qlq 50 (wkW k t box L) 34 (.sl b 0 0 n 34 none)=some (.agg 35 [tW t,dW box,.sl b 0 0 n 34 none]):=by unfold wkW;cases L.map recW<;>rfl
theorem ren_wk(τ:Nat->Nat)(k:Nat)(t:Tree)(box:Dig)(L:List Rec):renW τ (wkW k t box L)=wkW (τ k) t box L:=by
 unfold wkW;simp only[renW,y3q,zeq (qkq t),zeq (jVq box),Kpq]
theorem ref_wk{n k:Nat}(h:k<n)(t:Tree)(box:Dig)(L:List Rec):refB n (wkW k t box L)=true:=by
 show(refB n (tW t)&&(refB n (dW box)&&(refB n (gW k 34 (L.map recW))&&true)))=true;rw[zbq (qkq t),zbq (jVq box),ref_g h];rfl
theorem Zzq(τ:Nat->Nat)(w0 k:Nat)(t:Tree)(box:Dig)(L:List Rec):renH τ (wkH w0 k t box L)=wkH (τ w0) (τ k) t box L:=by
 unfold wkH;simp only[renH,ren_wk,Jqq _ _ _ _ (qCq L)]
theorem wk_names{w0 k:Nat}{t:Tree}{box:Dig}{L:List Rec}:∀p∈wkH w0 k t box L,p.1=w0\/p.1=k:=λp hp=>by
 rcases List.mem_cons.1 hp with h|h
 ·exact .inl (by rw[h])
 ·exact .inr (j3q p h)
theorem wk_nd{w0 k:Nat}(h:w0≠k)(t:Tree)(box:Dig)(L:List Rec):((wkH w0 k t box L).map (·.1)).Nodup:=by
 unfold wkH;rw[List.map_cons,List.nodup_cons];refine⟨λhm=>?_,?_⟩
 ·obtain⟨p,h1,h2⟩:=List.mem_map.1 hm;rw[j3q p h1] at h2;exact h h2.symm
 ·cases L.map recW<;>simp[gH]
theorem hget_wk{w0 k:Nat}{P:HpW}{t:Tree}{box:Dig}{L:List Rec}(hP:∀p∈P,p.1≠w0):hget (P++wkH w0 k t box L) w0=some (248,wkW k t box L):=by
 rw[kJq,q8q hP];unfold wkH;show hget ((w0,248,wkW k t box L)::_) w0=_;rw[zkq,if_pos rfl]
theorem hget_wkl{w0 k:Nat}{P:HpW}{t:Tree}{box:Dig}{L:List Rec}(hP:∀p∈P,p.1≠k)(hw:w0≠k){x:W}{r:List W}(e:L.map recW=x::r):hget (P++wkH w0 k t box L) k=some (146,.arr ((x::r).length*34) 34 (x::r)):=by
 rw[kJq,q8q hP];unfold wkH;show hget ((w0,248,wkW k t box L)::_) k=_;rw[zkq,if_neg hw,e];show hget [(k,_)] k=_;rw[zkq,if_pos rfl]
theorem hdel_wk{w0 k:Nat}{P:HpW}{t:Tree}{box:Dig}{L:List Rec}(hP:∀p∈P,p.1≠w0/\p.1≠k)(hw:w0≠k):delA [w0,k] (P++wkH w0 k t box L)=P:=by
 have h1:∀{Q R:HpW} {x:TypeId×W},(∀p∈Q,p.1≠w0) ->hdel (Q++(w0,x)::R) w0=Q++R:=λ{Q}=>by
  induction Q with
  |nil=>
   intro R x _;show(match Nat.beq w0 w0 with|true=>R|false=>_)=_;rw[Nat.beq_refl];rfl
  |cons p Q ih=>
   intro R x h;obtain⟨c,y⟩:=p;have hc:=h (c,y) (List.mem_cons_self ..)
   have e:Nat.beq c w0=false:=by
    cases q:Nat.beq c w0 with
    |true=>exact absurd (Nat.eq_of_beq_eq_true q) hc
    |false=>rfl
   show(match Nat.beq c w0 with|true=>Q++(w0,x)::R|false=>(c,y)::hdel (Q++(w0,x)::R) w0)=_;rw[e];exact congrArg _ (ih λp hp=>h p (List.mem_cons_of_mem _ hp))
 show hdel (hdel (P++wkH w0 k t box L) w0) k=P;unfold wkH;rw[h1 λp hp=>(hP p hp).1,hdel_g λp hp=>(hP p hp).2]
section
variable {G:Nat->Option W} {o:Oper} {fr fr2:FrW} {hp:HpW} {nw m k0:Nat} {R:Res}
theorem uZq{post:W->HpW->Nat->Res->Option EvW->Prop}{x:Operand}{xs:Array Operand}{ats:Array TypeId}{f:FuncId}{a us c ws:List W}{Q:W->HpW->Nat->Prop}{t:Tree}{box:Dig}{L:List Rec}(w0 k:Nat)(P:HpW)
  (ho:o.op= .call ⟨.value x,xs,ats⟩) (hx:evW cfg G fr x=some (.fn f a c)) (he:cfg.ext f=none) (hxs:evLW cfg G fr xs.toList=some us) (hws:a++us++c=y3q (numC [w0,k] nw) ws) (hr:refL 2 ws=true) (hhp:hp=P++wkH w0 k t box L) (hP:∀p∈P,p.1≠w0/\p.1≠k) (hw:w0≠k) (h0:w0<nw) (hk:k<nw)
  (sp:yuq cfg G f 2 ws (wkH 0 1 t box L) Q) (hpost:∀w hp1 nw1,Q w hp1 nw1->post (renW (numC [w0,k] nw) w) (renH (numC [w0,k] nw) hp1++P) (nw+(nw1-2)) R (some .dirty)):Step cfg G o fr hp nw R post:=by
 refine z3q (ext:=[w0,k]) (ws:=ws) (hp0:=wkH 0 1 t box L) ho hx he hxs hws sp (by simp[hw]) Xo (wk_nd Xm t box L) (λi ty w hi=>?_) hr (λw hp1 nw1 hq=>?_)
 ·unfold wkH at hi;rw[zkq] at hi;split at hi
  ·rename_i e;subst e;cases hi;refine⟨by simp,ref_wk Xh t box L,w0,rfl,?_⟩;rw[hhp,hget_wk λp hp=>(hP p hp).1,ren_wk];rfl
  ·cases e:L.map recW with
   |nil=>rw[e] at hi;simp[gH,hget] at hi
   |cons y q=>
    have hpa:purW (.arr ((y::q).length*34) 34 (y::q))=true:=by have:=qCq L;rw[e] at this;exact this
    rw[e] at hi;simp only[gH] at hi;rw[zkq] at hi;split at hi
    ·rename_i e0;subst e0;cases hi;refine⟨by simp,zbq hpa,k,rfl,?_⟩;rw[hhp,hget_wkl (λp hp=>(hP p hp).2) hw e,zeq hpa]
    ·simp[hget] at hi
 ·have:=hpost w hp1 nw1 hq;rw[hhp,hdel_wk hP hw];exact this
theorem JKq{w0 b k:Nat}{P P2:HpW}{t:Tree}{box:Dig}{L:List Rec}(hm:m<=b)(hw:w0<b)(hb:b<=k)(hk:k<nw)(hf:subF fr fr2)(hr:refF b fr2)(hhp:hp=wkH w0 k t box L++P)(hP:subH P b P2)(hn:∀p∈P2,p.1≠w0/\p.1<b)(nd:(P2.map (·.1)).Nodup):Ent cfg G m k0 fr hp nw R fr2 (P2++wkH w0 b t box L) (b+1) R:=by
 subst hhp;have q1:hget (wkH w0 k t box L++P) w0=some (248,wkW k t box L):=qtq (by unfold wkH;rw[zkq,if_pos rfl])
 have q2:∀(i:Nat) (y:TypeId×W),i≠w0->i<b->hget P i=some y->hget (wkH w0 k t box L++P) i=some y:=λi y hi hib h=>by
  rw[kJq,q8q (P:=wkH w0 k t box L) λp hp=>?_]
  ·exact h
  ·rcases wk_names p hp with e|e<;>omega
 have q3:∀x r,L.map recW=x::r->hget (wkH w0 k t box L++P) k=some (146,.arr ((x::r).length*34) 34 (x::r)):=λx r e=>qtq (by
  unfold wkH;rw[zkq,if_neg Xd,e];show hget [(k,_)] k=_;rw[zkq,if_pos rfl])
 have q4:∀{Q:HpW},(∀p∈Q,p.1≠w0/\p.1<b) ->subH P b Q->subH (wkH w0 k t box L++P) b Q:=λ{Q}=>by
  induction Q with
  |nil=>intro _ _;trivial
  |cons p Q ih=>
   intro h1 h2;obtain⟨i,y⟩:=p;have h3:=h1 (i,y) (List.mem_cons_self ..);exact⟨⟨h2.1.1,q2 i y h3.1 h3.2 h2.1.2.1,h2.1.2.2⟩,ih (λp hp=>h1 p (List.mem_cons_of_mem _ hp)) h2.2⟩
 refine ydq hm hb hk (J6q hf hr) (x0q (YNq (q4 hn hP)) ⟨⟨by omega,by rw[qKq Xd,q1,ren_wk,jEq],ref_wk Xd t box L⟩,?_⟩) ?_
 ·cases e:L.map recW with
  |nil=>trivial
  |cons x r=>
   have hpa:purW (.arr ((x::r).length*34) 34 (x::r))=true:=by have:=qCq L;rw[e] at this;exact this
   exact⟨⟨by omega,by rw[jEq,q3 x r e,zeq hpa],zbq hpa⟩,trivial⟩
 ·rw[List.map_append,List.nodup_append];refine⟨nd,wk_nd Xd t box L,λa ha c hc e=>?_⟩;obtain⟨p,h1,h2⟩:=List.mem_map.1 ha;obtain⟨q,h3,h4⟩:=List.mem_map.1 hc;have:=hn p h1;rcases wk_names q h3 with e'|e'<;>omega
end
attribute [local irreducible] CoW OpW FlW Step Spec
variable {G:Nat->Option W}
theorem told_s(t t':Tree)(box:Dig)(L:List Rec)(r:Rec)(hL:L.length<=1000):yuq cfg G 211 2 [.ptr 0 0,tW t',recW r] (wkH 0 1 t box L) λw hp nw=>w= .tup []/\hp=wkH 0 2 t' box (L++[r])/\nw=3:=by
 have hl:(L.map recW).length<=1000:=by rw[List.length_map];exact hL
 have hm:(L++[r]).map recW=L.map recW++[recW r]:=by simp
 have hne:L.map recW++[recW r]≠[]:=by simp
 have hpa:∀n,purW (.arr n 34 (L.map recW++[recW r]))=true:=λn=>by have:=qCq (L++[r]);rw[hm] at this;exact this
 intro R;refine gIs 13 O (λk0=>?_);refine gM 0 O (zMq O O O (wk_get 1 t box L)) (zcq 2 O (k7q rfl (zKq O O (qeq [_,_,_,_] (k:=J4q) (news:=[recW r]) O O O O O (zJq O O O O) Xh (by show((L.map recW).length+1)*48<=_;omega) (by show(L.map recW).length+1<=_;omega) rfl Xh)) (evs_G Xw Xw) (run_f 2 O ?_)));refine k7q rfl (y7q O O O O O (wk_putT 1 t t' box L) rfl) (by generalize L.map recW=l;cases l<;>first|rfl|kernel_rfl) ?_;refine run_f 2 O ?_;refine k7q rfl (y7q O O O O O (wk_put 1 t' box L _ _) rfl) (by generalize L.map recW=l;cases l<;>first|rfl|kernel_rfl) ?_;refine fl_nil ?_;refine fin (w:=.tup []) (fr2:=[]) (hp2:=[(0,248,.agg 35 [tW t',dW box,.sl 2 0 0 (L.map recW++[recW r]).length 34 none]),(2,146,.arr ((L.map recW++[recW r]).length*34) 34 (L.map recW++[recW r]))]) (nw2:=3) (.inl rfl) (ydq (b:=2) (k:=5) Xd Xd Yb trivial ⟨⟨by omega,?_,?_⟩,⟨by omega,?_,zbq (hpa _)⟩,trivial⟩ Xh) rfl ⟨rfl,rfl,?_,rfl⟩
 ·show some (248,W.agg 35 [tW t',dW box,.sl 5 0 0 _ 34 none])=some (248,renW _ (W.agg 35 [tW t',dW box,.sl 2 0 0 _ 34 none]));simp only[renW,y3q,zeq (qkq t'),zeq (jVq box),jEq]
 ·show(refB 3 (tW t')&&(refB 3 (dW box)&&(refB 3 (W.sl 2 0 0 _ 34 none)&&true)))=true;rw[zbq (qkq t'),zbq (jVq box)];rfl
 ·show some (146,W.arr _ 34 (L.map recW++[recW r]))=some (146,renW _ (W.arr _ 34 (L.map recW++[recW r])));rw[zeq (hpa _)]
 ·unfold wkH wkW;rw[hm,qhq hne,qiq hne]
def DoQ(t:Tree)(m:Nat)(l:List Pr)(box:Dig)(L:List Rec)(r:Rec):W->HpW->Nat->Prop:=λw hp nw=>∃t' n' t1,IsA t' n' t1/\kEq t m l t' t1/\w= .int .i64 0/\hp=wkH 0 2 t' box (L++[r])/\nw=3
theorem wgive_s(t:Tree)(n:Nat)(t0:T)(h:IsA t n t0)(hl:t.nodes.length<=260944)(d:Depo)(h1:d.number<18446744073709551616)(h2:d.amount<18446744073709551616)(box:Dig)(L:List Rec)(hL:L.length<=1000):yuq cfg glK 139 2 [.ptr 0 0,pdW d] (wkH 0 1 t box L) (DoQ t 257 (gvL t0.all d).1 box L ⟨1,depD d,(gvL t0.all d).2⟩):=by
 obtain⟨g1,g2⟩:=giv_gv h.toIsT d;intro R;refine gIs 13 O (λk0=>?_)
 ((refine z9q rfl (u0q O O O O O (give_s t n t0 d h h2 hl) Xh ?_);rintro w hw ⟨t',n',t1,ht',hgo,rfl⟩;refine⟨by first|rfl|kernel_rfl,?_⟩;rw[g1] at hgo;rw[g2]))
 refine ybq 14 O (gTa 0 O (gC 7 O (rdepo_s d h1 h2) (zcq 2 O ?_)))
 (refine z9q rfl (uZq 0 1 [(3,_,_),(2,_,_)] (ws:=[.ptr 0 0,tW t',recW ⟨1,depD d,(gvL t0.all d).2⟩]) O O O O (by show [W.ptr 0 0,tW t',recW ⟨1,depD d,(gvL t0.all d).2⟩]=[W.ptr 0 0,renW _ (tW t'),renW _ (recW ⟨1,depD d,(gvL t0.all d).2⟩)];rw[zeq (qkq _),zeq (vMq _)]) Qq rfl Xh Xm (by show 0<4;omega) (by show 1<4;omega) (told_s t t' box L _ hL) ?_);rintro w hp1 nw1 ⟨rfl,rfl,rfl⟩;rw[Zzq];refine⟨by first|rfl|kernel_rfl,?_⟩)
 exact ybq 9 O (fin (w:=.int .i64 0) (fr2:=[(4,.int .i64 0)]) (hp2:=wkH 0 2 t' box (L++[⟨1,depD d,(gvL t0.all d).2⟩])) (nw2:=3) Jp (JKq (w0:=0) (b:=2) (k:=4) (P:=[(3,_,_),(2,_,_)]) (P2:=[]) Xd Xd Xd Ym ⟨rfl,trivial⟩ ⟨rfl,trivial⟩ rfl trivial Xh Xh) rfl ⟨rfl,t',n',t1,ht',hgo,rfl,rfl,rfl⟩)
noncomputable def refX(x:Tx):Nat:=if x.sign=jOq x then 2 else 110
theorem wpay_no(t:Tree)(n:Nat)(t0:T)(h:IsA t n t0)(x:Tx)(hx:x.ok)(box:Dig)(L:List Rec)(hg:¬goX t0.all x):yuq cfg glK 141 2 [.ptr 0 0,txW x] (wkH 0 1 t box L) λw hp nw=>w= .int .i64 (refX x:Nat)/\hp=[]/\nw=2:=by
 by_cases hs:x.sign=jOq x
 ·have e:refX x=2:=if_pos hs;rw[e];intro R;refine gIs 17 O (λk0=>?_);exact gC 0 O (pay_nonce t n t0 x hx box h hs (λq=>hg ⟨hs,q.1,q.2⟩)) (gFa 14 O (zcq 12 O (fin (w:=.int .i64 2) (fr2:=[(4,.int .i64 2)]) (hp2:=[]) (nw2:=2) Jp (y0q (nw2:=2) Xd Xd ⟨rfl,trivial⟩ rfl (λb x hb=>by simp[hget] at hb) Xh) rfl ⟨rfl,rfl,rfl,rfl⟩)))
 ·have e:refX x=110:=if_neg hs;rw[e];intro R;refine gIs 17 O (λk0=>?_);exact gC 0 O (pay_sign t n t0 x hx box h hs) (gFa 14 O (zcq 12 O (fin (w:=.int .i64 110) (fr2:=[(4,.int .i64 110)]) (hp2:=[]) (nw2:=2) Jp (y0q (nw2:=2) Xd Xd ⟨rfl,trivial⟩ rfl (λb x hb=>by simp[hget] at hb) Xh) rfl ⟨rfl,rfl,rfl,rfl⟩)))
theorem wpay_s(t:Tree)(n:Nat)(t0:T)(h:IsA t n t0)(hl:t.nodes.length<=260944)(x:Tx)(hx:x.ok)(box:Dig)(L:List Rec)(hL:L.length<=1000)(hg:goX t0.all x):yuq cfg glK 141 2 [.ptr 0 0,txW x] (wkH 0 1 t box L) (DoQ t 1028 (yCq t0.all x box).1 box L ⟨2,idD x,(yCq t0.all x box).2⟩):=by
 intro R;refine gIs 17 O (λk0=>?_)
 ((refine z9q rfl (u0q O O O O O (pay_s t n t0 x hx box h hg.1 hg.2.1 hg.2.2 hl) Xh ?_);rintro w hw ⟨t',n',t1,ht',hgo,rfl⟩;refine⟨by first|rfl|kernel_rfl,?_⟩))
 refine ybq 14 O (gTa 0 O (gC 7 O (txid_s x hx) (zcq 2 O ?_)))
 (refine z9q rfl (uZq 0 1 [(3,_,_),(2,_,_)] (ws:=[.ptr 0 0,tW t',recW ⟨2,idD x,(yCq t0.all x box).2⟩]) O O O O (by show [W.ptr 0 0,tW t',recW ⟨2,idD x,(yCq t0.all x box).2⟩]=[W.ptr 0 0,renW _ (tW t'),renW _ (recW ⟨2,idD x,(yCq t0.all x box).2⟩)];rw[zeq (qkq _),zeq (vMq _)]) Qq rfl Xh Xm (by show 0<4;omega) (by show 1<4;omega) (told_s t t' box L _ hL) ?_);rintro w hp1 nw1 ⟨rfl,rfl,rfl⟩;rw[Zzq];refine⟨by first|rfl|kernel_rfl,?_⟩)
 exact ybq 9 O (fin (w:=.int .i64 0) (fr2:=[(4,.int .i64 0)]) (hp2:=wkH 0 2 t' box (L++[⟨2,idD x,(yCq t0.all x box).2⟩])) (nw2:=3) Jp (JKq (w0:=0) (b:=2) (k:=4) (P:=[(3,_,_),(2,_,_)]) (P2:=[]) Xd Xd Xd Ym ⟨rfl,trivial⟩ ⟨rfl,trivial⟩ rfl trivial Xh Xh) rfl ⟨rfl,t',n',t1,ht',hgo,rfl,rfl,rfl⟩)
end
section
attribute [local irreducible] CoW OpW FlW Step Spec
def thr2:Nat->Nat
 |0=>1
 |_+1=>2
theorem thr2_b(i:Nat):thr2 i=1\/thr2 i=2:=by cases i<;>simp[thr2]
theorem Qwq{t t' t2:Tree}{m k:Nat}(h:∃ms,t'.nodes=t.nodes++ms/\ms.length<=m)(h2:∃ms,t2.nodes=t'.nodes++ms/\ms.length<=k):∃ms,t2.nodes=t.nodes++ms/\ms.length<=m+k:=by
 obtain⟨a,ha,ha2⟩:=h;obtain⟨b,hb,hb2⟩:=h2;exact⟨a++b,by rw[hb,ha,List.append_assoc],by rw[List.length_append];omega⟩
noncomputable def badX(box:Dig):List Pr->List Tx->Nat
 |_,[]=>0
 |l,x::xs=>if goX l x then badX box (yCq l x box).1 xs else refX x
theorem xIq{box:Dig}{l:List Pr}{x:Tx}{xs:List Tx}(h:goX l x):doX box l (x::xs)=(match doX box (yCq l x box).1 xs with
      |some r=>some (r.1,⟨2,idD x,(yCq l x box).2⟩::r.2)
      |none=>none):=if_pos h
theorem doX_snoc{box:Dig}{l:List Pr}{us:List Tx}{x:Tx}{r:List Pr×List Rec}(h:doX box l us=some r)(hg:goX r.1 x):doX box l (us++[x])=some ((yCq r.1 x box).1,r.2++[⟨2,idD x,(yCq r.1 x box).2⟩]):=by
 rw[doX_app,h];simp only;rw[xIq hg];rfl
theorem doX_none{box:Dig}{l:List Pr}{us bs:List Tx}{x:Tx}{r:List Pr×List Rec}(h:doX box l us=some r)(hg:¬goX r.1 x):doX box l (us++x::bs)=none:=by
 rw[doX_app,h];simp only;rw[show doX box r.1 (x::bs)=none from if_neg hg]
theorem bad_app{box:Dig}:∀{us bs:List Tx} {l:List Pr} {r:List Pr×List Rec},doX box l us=some r->badX box l (us++bs)=badX box r.1 bs
 |[],bs,l,r,h=>by cases h;rfl
 |x::us,bs,l,r,h=>by
  by_cases hg:goX l x
  ·rw[xIq hg] at h;cases e:doX box (yCq l x box).1 us with
   |none=>rw[e] at h;cases h
   |some q=>
    rw[e] at h;cases h;show(if goX l x then badX box (yCq l x box).1 (us++bs) else refX x)=_;rw[if_pos hg,bad_app e]
  ·rw[show doX box l (x::us)=none from if_neg hg] at h;cases h
theorem JRq{box:Dig}:∀{xs:List Tx} {l:List Pr},doX box l xs=none->badX box l xs=2\/badX box l xs=110
 |[],l,h=>by cases h
 |x::xs,l,h=>by
  by_cases hg:goX l x
  ·rw[xIq hg] at h;cases e:doX box (yCq l x box).1 xs with
   |some q=>rw[e] at h;cases h
   |none=>
    show(if goX l x then badX box (yCq l x box).1 xs else refX x)=2\/(if goX l x then badX box (yCq l x box).1 xs else refX x)=110;rw[if_pos hg];exact JRq e
  ·show(if goX l x then badX box (yCq l x box).1 xs else refX x)=2\/(if goX l x then badX box (yCq l x box).1 xs else refX x)=110;rw[if_neg hg];unfold refX;split
   ·exact .inl rfl
   ·exact .inr rfl
def EdQ(t:Tree)(t0:T)(box:Dig)(L:List Rec)(ds:List Depo):W->HpW->Nat->Prop:=λw hp nw=>∃t' n' t1,IsA t' n' t1/\kEq t (257*ds.length) (doD t0.all ds).1 t' t1/\w= .int .i64 0/\hp=wkH 0 (thr2 ds.length) t' box (L++(doD t0.all ds).2)/\nw=3
def ExQ(t:Tree)(t0:T)(box:Dig)(L:List Rec)(xs:List Tx):W->HpW->Nat->Prop:=λw hp nw=>(∃t' n' t1 rs,IsA t' n' t1/\kEq t (1028*xs.length) t1.all t' t1/\doX box t0.all xs=some (t1.all,rs)/\w= .int .i64 0/\hp=wkH 0 (thr2 xs.length) t' box (L++rs)/\nw=3)\/(doX box t0.all xs=none/\w= .int .i64 (badX box t0.all xs:Nat)/\hp=[]/\nw=2)
theorem eachd_s(t:Tree)(n:Nat)(t0:T)(h:IsA t n t0)(box:Dig)(L:List Rec)(ds:List Depo)(f:Bool)(hds:∀d∈ds,d.number<18446744073709551616/\d.amount<18446744073709551616)(hn:ds.length<=16)(hL:L.length<=100)(hl:t.nodes.length+257*ds.length<=260944):yuq cfg glK 138 2 [.fz (ds.map pdW) 34 f,.fn 139 [.ptr 0 0] []] (wkH 0 1 t box L) (EdQ t t0 box L ds):=by
 have e:(ds.map pdW).length=ds.length:=List.length_map _;have pf:purW (.fz (ds.map pdW) 34 f)=true:=z7q vaq ds;intro R;refine gIs 9 O (λk0=>?_);refine gV (w':=.int .i64 (ds.length:Int)) 0 O Xv (zcq 4 O ?_);refine qGq (α:=Nat×Tree×List Rec) (λp=>p.1<=ds.length/\p.2.2.length<=p.1/\∃n1 t1,IsA p.2.1 n1 t1/\(∃ms,p.2.1.nodes=t.nodes++ms/\ms.length<=257*p.1)/\doD t0.all (ds.take p.1)=(t1.all,p.2.2)) (λp=>[(10,.int .i64 (p.1:Int)),(1,.fn 139 [.ptr 0 0] []),(8,.fz (ds.map pdW) 34 f),(9,.int .i64 (ds.length:Int))]) (λp=>wkH 0 (thr2 p.1) p.2.1 box (L++p.2.2)) (λ_=>3) (λ_=>R) (λp=>ds.length-p.1) (0,t,[]) ⟨Nat.zero_le _,Nat.le_refl _,n,t0,h,⟨[],by simp,by simp⟩,rfl⟩ ((juq (fr2:=[(10,.int .i64 0),(1,.fn 139 [.ptr 0 0] []),(8,.fz (ds.map pdW) 34 f),(9,.int .i64 (ds.length:Int))]) ⟨rfl,rfl,rfl,rfl,trivial⟩).trans (yhq ⟨rfl,rfl,rfl,rfl,trivial⟩ (by show wkH 0 1 t box L=wkH 0 1 t box (L++[]);rw[List.append_nil]) rfl)) (λp hI=>?_);skip
 obtain⟨i,t',rs⟩:=p;obtain⟨hi,hrl,n1,t1,hT,hms,hst⟩:=hI;simp only at hi hrl hT hms hst⊢;have hle:=ext_le hms;have hth:=thr2_b i;refine zBq 6 O ?_;refine gS 0 O (λh1=>?_) (λh1=>?_)
 ·have hi2:i<ds.length:=by omega
  have hLL:(L++rs).length<=1000:=by rw[List.length_append];omega
  obtain⟨d,hx⟩:∃d,ds[i]? =some d:=⟨_,List.getElem?_eq_getElem hi2⟩
  have hxm:=List.mem_of_getElem? hx;have htk:ds.take (i+1)=ds.take i++[d]:=by rw[List.take_add_one,hx];rfl
  refine gP 6 O (zDq (i:=i) O O O O O O O (zqq pdW hx)) (zcq 9 O ?_)
  (refine zjq rfl (uZq 0 (thr2 i) [(3,_,_)] (ws:=[.ptr 0 0,pdW d]) O O O O (by show [W.ptr 0 0,pdW d]=[W.ptr 0 0,renW _ (pdW d)];rw[zeq (vaq d)]) (by show(true&&(refB 2 (pdW d)&&true))=true;rw[zbq (vaq d)];rfl) rfl Xq Xd (by show 0<4;omega) (by show thr2 i<4;omega) (wgive_s t' n1 t1 hT Xd d (hds d hxm).1 (hds d hxm).2 box (L++rs) hLL) ?_);rintro w hp1 nw1 ⟨t2,n2,t3,h2,hgo,rfl,rfl,rfl⟩;rw[Zzq])
  refine zgq 6 O (gFa 0 O (gA 7 O (i+1) (zcq 2 O ?_)));skip
  exact yHq (i+1,t2,rs++[⟨1,depD d,(gvL t1.all d).2⟩]) ⟨hi2,by simp only[List.length_append,List.length_cons,List.length_nil];omega,n2,t3,h2,Qvq (Qwq hms hgo.2) Ye,by rw[htk,doD_app,hst,hgo.1];rfl⟩ Ye (Ent.trans (JKq (w0:=0) (b:=2) (k:=4) (P:=[(3,_,_)]) (P2:=[]) (fr2:=[(10,.int .i64 ((i+1:Nat):Int)),(1,.fn 139 [.ptr 0 0] []),(8,.fz (ds.map pdW) 34 f),(9,.int .i64 (ds.length:Int))]) Xd Xd Xd Ym ⟨rfl,rfl,rfl,rfl,trivial⟩ ⟨rfl,rfl,zbq pf,rfl,trivial⟩ rfl trivial Xh Xh) (yhq ⟨rfl,rfl,rfl,rfl,trivial⟩ (by show wkH 0 2 t2 box ((L++rs)++[⟨1,depD d,(gvL t1.all d).2⟩])=wkH 0 2 t2 box (L++(rs++[⟨1,depD d,(gvL t1.all d).2⟩]));rw[List.append_assoc L rs]) rfl))
 ·have hi3:i=ds.length:=by omega
  subst hi3;rw[List.take_length] at hst;exact zcq 2 O (yKq Xi (zyq 8 O (fin (w:=.int .i64 0) Jp (yhq (fr2:=[(4,.int .i64 0)]) ⟨rfl,trivial⟩ O O) rfl ⟨rfl,t',n1,t1,hT,⟨by rw[hst],hms⟩,rfl,by rw[hst],rfl⟩)))
theorem eachx_s(t:Tree)(n:Nat)(t0:T)(h:IsA t n t0)(box:Dig)(L:List Rec)(xs:List Tx)(f:Bool)(hxs:∀x∈xs,x.ok)(hn:xs.length<=16)(hL:L.length<=100)(hl:t.nodes.length+1028*xs.length<=260944):yuq cfg glK 140 2 [.fz (xs.map txW) 99 f,.fn 141 [.ptr 0 0] []] (wkH 0 1 t box L) (ExQ t t0 box L xs):=by
 have e:(xs.map txW).length=xs.length:=List.length_map _;have pf:purW (.fz (xs.map txW) 99 f)=true:=z7q jnq xs;intro R;refine gIs 9 O (λk0=>?_);refine gV (w':=.int .i64 (xs.length:Int)) 0 O Xv (zcq 4 O ?_);refine qGq (α:=Nat×Tree×List Rec) (λp=>p.1<=xs.length/\p.2.2.length<=p.1/\∃n1 t1,IsA p.2.1 n1 t1/\(∃ms,p.2.1.nodes=t.nodes++ms/\ms.length<=1028*p.1)/\doX box t0.all (xs.take p.1)=some (t1.all,p.2.2)) (λp=>[(10,.int .i64 (p.1:Int)),(1,.fn 141 [.ptr 0 0] []),(8,.fz (xs.map txW) 99 f),(9,.int .i64 (xs.length:Int))]) (λp=>wkH 0 (thr2 p.1) p.2.1 box (L++p.2.2)) (λ_=>3) (λ_=>R) (λp=>xs.length-p.1) (0,t,[]) ⟨Nat.zero_le _,Nat.le_refl _,n,t0,h,⟨[],by simp,by simp⟩,rfl⟩ ((juq (fr2:=[(10,.int .i64 0),(1,.fn 141 [.ptr 0 0] []),(8,.fz (xs.map txW) 99 f),(9,.int .i64 (xs.length:Int))]) ⟨rfl,rfl,rfl,rfl,trivial⟩).trans (yhq ⟨rfl,rfl,rfl,rfl,trivial⟩ (by show wkH 0 1 t box L=wkH 0 1 t box (L++[]);rw[List.append_nil]) rfl)) (λp hI=>?_);skip
 obtain⟨i,t',rs⟩:=p;obtain⟨hi,hrl,n1,t1,hT,hms,hst⟩:=hI;simp only at hi hrl hT hms hst⊢;have hle:=ext_le hms;have hth:=thr2_b i;refine zBq 6 O ?_;refine gS 0 O (λh1=>?_) (λh1=>?_)
 ·have hi2:i<xs.length:=by omega
  have hLL:(L++rs).length<=1000:=by rw[List.length_append];omega
  obtain⟨x,hx⟩:∃x,xs[i]? =some x:=⟨_,List.getElem?_eq_getElem hi2⟩
  have hxm:=List.mem_of_getElem? hx;have htk:xs.take (i+1)=xs.take i++[x]:=by rw[List.take_add_one,hx];rfl
  skip
  by_cases hg:goX t1.all x
  ·refine gP 6 O (zDq (i:=i) O O O O O O O (zqq txW hx)) (zcq 9 O ?_)
   (refine zjq rfl (uZq 0 (thr2 i) [(3,_,_)] (ws:=[.ptr 0 0,txW x]) O O O O Jn (by show(true&&(refB 2 (txW x)&&true))=true;rw[zbq (jnq x)];rfl) rfl Xq Xd (by show 0<4;omega) (by show thr2 i<4;omega) (wpay_s t' n1 t1 hT Xd x (hxs x hxm) box (L++rs) hLL hg) ?_);rintro w hp1 nw1 ⟨t2,n2,t3,h2,hgo,rfl,rfl,rfl⟩;rw[Zzq])
   refine zgq 6 O (gFa 0 O (gA 7 O (i+1) (zcq 2 O ?_)));skip
   exact yHq (i+1,t2,rs++[⟨2,idD x,(yCq t1.all x box).2⟩]) ⟨hi2,by simp only[List.length_append,List.length_cons,List.length_nil];omega,n2,t3,h2,Qvq (Qwq hms hgo.2) Ye,by rw[htk,doX_snoc hst hg,hgo.1]⟩ Ye (Ent.trans (JKq (w0:=0) (b:=2) (k:=4) (P:=[(3,_,_)]) (P2:=[]) (fr2:=[(10,.int .i64 ((i+1:Nat):Int)),(1,.fn 141 [.ptr 0 0] []),(8,.fz (xs.map txW) 99 f),(9,.int .i64 (xs.length:Int))]) Xd Xd Xd Ym ⟨rfl,rfl,rfl,rfl,trivial⟩ ⟨rfl,rfl,zbq pf,rfl,trivial⟩ rfl trivial Xh Xh) (yhq ⟨rfl,rfl,rfl,rfl,trivial⟩ (by show wkH 0 2 t2 box ((L++rs)++[⟨2,idD x,(yCq t1.all x box).2⟩])=wkH 0 2 t2 box (L++(rs++[⟨2,idD x,(yCq t1.all x box).2⟩]));rw[List.append_assoc L rs]) rfl))
  ·have hnb:refX x≠0:=by unfold refX;split<;>omega
   refine gP 6 O (zDq (i:=i) O O O O O O O (zqq txW hx)) (zcq 9 O ?_)
   (refine zjq rfl (uZq 0 (thr2 i) [(3,_,_)] (ws:=[.ptr 0 0,txW x]) O O O O Jn (by show(true&&(refB 2 (txW x)&&true))=true;rw[zbq (jnq x)];rfl) rfl Xq Xd (by show 0<4;omega) (by show thr2 i<4;omega) (wpay_no t' n1 t1 hT x (hxs x hxm) box (L++rs) hg) ?_);rintro w hp1 nw1 ⟨rfl,rfl,rfl⟩)
   refine zgq 6 O (gT 0 O (congrArg not (eqI_not.2 Xd)) (zcq 12 O (yKq Xi (zyq 2 O ?_))));have hdr:xs=xs.take i++x::xs.drop (i+1):=by rw[<-vrq hx,List.take_append_drop]
   refine fin (w:=.int .i64 (refX x:Nat)) (fr2:=[(4,.int .i64 (refX x:Nat))]) (hp2:=[]) (nw2:=2) Jp (y0q (nw2:=2) Xd (by show 2<=4;omega) ⟨rfl,trivial⟩ rfl (λb x hb=>by simp[hget] at hb) Xh) rfl ⟨rfl,.inr ⟨?_,?_,rfl,rfl⟩⟩
   ·rw[hdr];exact doX_none hst hg
   ·rw[hdr,bad_app hst];show _=W.int .i64 ((badX box t1.all (x::_):Nat):Int);rw[show badX box t1.all (x::xs.drop (i+1))=refX x from if_neg hg]
 ·have hi3:i=xs.length:=by omega
  subst hi3;rw[List.take_length] at hst;exact zcq 2 O (yKq Xi (zyq 8 O (fin (w:=.int .i64 0) Jp (yhq (fr2:=[(4,.int .i64 0)]) ⟨rfl,trivial⟩ O O) rfl ⟨rfl,.inl ⟨t',n1,t1,rs,hT,⟨rfl,hms⟩,hst,rfl,rfl,rfl⟩⟩)))
end
noncomputable def bodW(ds:List Depo)(xs:List Tx)(f g:Bool):W:=.agg 2 [.fz (ds.map pdW) 34 f,.fz (xs.map txW) 99 g]
@[simp] theorem Zfq(ds:List Depo)(xs:List Tx)(f g:Bool):purW (bodW ds xs f g)=true:=by
 have h1:purW (.fz (ds.map pdW) 34 f)=true:=z7q vaq ds;have h2:purW (.fz (xs.map txW) 99 g)=true:=z7q jnq xs;show(purW (.fz (ds.map pdW) 34 f)&&(purW (.fz (xs.map txW) 99 g)&&true))=true;rw[h1,h2];rfl
@[simp] theorem pdl_pur(l:List Depo):purL (l.map pdW)=true:=z7q vaq l
@[simp] theorem txl_pur(l:List Tx):purL (l.map txW)=true:=z7q jnq l
structure RcI where
 kind:UInt8
 id:Dig
 code:Int
noncomputable def rcW(r:RcI):W:=.agg 34 [.int .u8 (.ofNat r.kind.toNat),dW r.id,.int .i64 r.code]
@[simp] theorem rcW_pur(r:RcI):purW (rcW r)=true:=by simp[rcW]
@[simp] theorem rcl_pur(l:List RcI):purL (l.map rcW)=true:=z7q rcW_pur l
structure Lk where
 hdr:Hdr
 root:Int
 ds:List Depo
 xs:List Tx
 rs:List RcI
noncomputable def lkG(l:Lk):W:=.agg 102 [hdW l.hdr,.int .i64 l.root,bodW l.ds l.xs false false,.fz (l.rs.map rcW) 34 false]
@[simp] theorem lkG_pur(l:Lk):purW (lkG l)=true:=by
 have h:purW (.fz (l.rs.map rcW) 34 false)=true:=z7q rcW_pur l.rs;show(purW (hdW l.hdr)&&(true&&(purW (bodW l.ds l.xs false false)&&(purW (.fz (l.rs.map rcW) 34 false)&&true))))=true;rw[h,KMq,Zfq];rfl
@[simp] theorem q1q(l:List Lk):purL (l.map lkG)=true:=z7q lkG_pur l
structure Ch where
 tree:Tree
 links:List Lk
noncomputable def chG(c:Ch):W:=.agg 3 [tW c.tree,.fz (c.links.map lkG) 102 false]
@[simp] theorem urq(c:Ch):purW (chG c)=true:=by
 show(purW (tW c.tree)&&(purW (.fz (c.links.map lkG) 102 false)&&true))=true;rw[qkq,show purW (.fz (c.links.map lkG) 102 false)=true from q1q _];rfl
structure Vw where
 number:Int
 down:Bool
 final:Int
 ch:Ch
noncomputable def vwG(v:Vw):W:=.agg 6 [.int .i64 v.number,.bool v.down,.int .i64 v.final,chG v.ch]
@[simp] theorem yaq(v:Vw):purW (vwG v)=true:=by
 show(true&&(true&&(true&&(purW (chG v.ch)&&true))))=true;rw[urq];rfl
def BodyM(ds:List Depo)(xs:List Tx):Prop:=ds.length<=16/\xs.length<=16/\∀x∈xs,x.sign=jOq x
section
section
variable {C:Cfg} {G:Nat->Option W} {m k0:Nat} {fr fr2:FrW} {hp hp2:HpW} {nw nw2:Nat} {R:Res}
theorem ent_viewH(hf:subV (λ_=>none) fr fr2)(hh:∀k ty w,hget hp2 k=some (ty,w) ->∃w0,hget hp k=some (ty,w0)/\View (λ_=>none) w0 w)(nd:(hp2.map (·.1)).Nodup):Ent C G m k0 fr hp nw R fr2 hp2 nw R:=λΓ X st h1 _ s=>by
 have q:Seen (λ_=>none) Γ Γ:=⟨λ_ h _=>h,λ_ _ _=>rfl,λ_ h=>h,λ_ _=>rfl,λ_ _ _ h=>Qg⟩
 have howns:∀{c},Owns Γ hp2 c->Owns Γ hp c:=λ{c} h=>by
  obtain⟨k,y,h1,h2⟩:=h;obtain⟨w0,g1,_⟩:=hh k y.1 y.2 h1;exact⟨k,_,g1,h2⟩
 refine⟨Γ,X,h1,⟨s.hh,λt w hw=>?_,⟨s.sat.wf,λk ty w h=>?_,λk k' y z hy hz e=>?_,nd,s.sat.dX,s.sat.xlt,s.sat.dlt,s.sat.res,s.sat.gl⟩,λd hd=>?_,s.nd⟩,?_⟩
 ·obtain⟨w0,g1,g2⟩:=xiq hf t w hw;obtain⟨u,g3,g4⟩:=s.fr _ _ g1;exact⟨u,g3,jZq q g2 g4⟩
 ·obtain⟨w0,g1,g2⟩:=hh k ty w h;obtain⟨q1,q2,q3,u,q4,q5⟩:=s.sat.own _ _ _ g1;exact⟨q1,q2,q3,u,q4,jZq q g2 q5⟩
 ·obtain⟨w0,g1,_⟩:=hh k y.1 y.2 hy;obtain⟨w1,g2,_⟩:=hh k' z.1 z.2 hz;exact s.sat.inj k k' _ _ g1 g2 e
 ·obtain⟨q1,q2,q3,q4,q5⟩:=s.ds d hd;exact⟨q1,q2,q3,λh=>q4 (howns h),q5⟩
 ·exact⟨λ_ _=>rfl,λh=>h,Nat.le_refl _,λ_ _ _ _=>rfl,λ_ h=>h,λ_ h=>.inl h,λk y _ h=>(by obtain⟨w0,g1,_⟩:=hh k y.1 y.2 h;exact⟨_,g1⟩),λk y hk h=>(by obtain⟨w0,g1,_⟩:=hh k y.1 y.2 h;exact .inr ⟨k,_,hk,g1,rfl⟩),λ_ h=>.inl h,λ_ h _ _=>h⟩
end
attribute [local irreducible] CoW OpW FlW Step Spec
def hdZ:Hdr:=⟨0,y2q,y2q,y2q,0⟩
noncomputable def refW(c:Nat):W:=.tup [noT,hdW hdZ,.nils,.int .i64 (c:Int)]
theorem ref_w(c:Nat):W.tup [noT,.agg 98 [.int .i64 0,ywq,ywq,ywq,.int .i64 0],.nils,.int .i64 (c:Int)]=refW c:=by
 unfold refW hdW hdZ;rw[<-kVq];rfl
def MayBk(t:Tree)(p:Hdr):Prop:=MayA t/\okH p/\p.height≠1073741824
theorem max_op{m n:Nat}{k:IntKind}:W.int k (match ltI (m:Int) (n:Int) with|true=>(n:Int)|false=>(m:Int))= .int k ((max m n:Nat):Int):=by
 cases h:ltI (m:Int) (n:Int) with
 |true=>have:=ltI_iff.1 h;exact congrArg (W.int k) (by show(n:Int)=_;omega)
 | false => have:¬((m:Int)<n):=λq=>by rw[ltI_iff.2 q] at h;cases h
            exact congrArg (W.int k) (by show(m:Int)=_;omega)
theorem apply_many(t:Tree)(p:Hdr)(ds:List Depo)(xs:List Tx)(f g:Bool)(box:Dig)(hb:t.nodes.length<=4611686018427387903)(h:MayBk t p)(hm:16<ds.length\/16<xs.length):PS cfg glK 69 [tW t,hdW p,bodW ds xs f g,dW box] (refW 4):=by
 have c:=jcq (G:=glK) t hb;rw[if_pos h.1] at c;have e1:(ds.map pdW).length=ds.length:=List.length_map _;have e2:(xs.map txW).length=xs.length:=List.length_map _;exact gI 15 O (λR k0=>gC 0 O (KJq p h.2.1) (gC 13 O (c) (gFa 0 O (gFa 2 O (gF 4 O (eqI_not.2 h.2.2) (gV (w':=.int .i64 (ds.length:Int)) 9 O Qz (gV (w':=.int .i64 (xs.length:Int)) 2 O Yy (gV (w':=.int .i64 ((max ds.length xs.length:Nat):Int)) 0 O max_op (gT 0 O (ltI_iff.2 Xd) (gQ 17 O (ref_w _)))))))))))
end
section
theorem uYq{blk:Nat->Option W}{b:Nat}{P H:HpW}:∀{Q:HpW},Yfq blk b P Q->Yfq blk b (P++H) Q
 |[],_=>trivial
 |(k,ty,w)::Q,h=>by
  obtain⟨⟨h1,w0,h2,h3⟩,h4⟩:=h;exact⟨⟨h1,w0,qtq h2,h3⟩,uYq h4⟩
noncomputable def wkF(t:Tree)(box:Dig)(L:List Rec):W:=.agg 35 [tW t,dW box,.fz (L.map recW) 34 false]
@[simp] theorem wkF_pur(t:Tree)(box:Dig)(L:List Rec):purW (wkF t box L)=true:=by
 show(purW (tW t)&&(purW (dW box)&&(purW (.fz (L.map recW) 34 false)&&true)))=true;rw[qkq,jVq,show purW (.fz (L.map recW) 34 false)=true from qCq L];rfl
theorem ent_wkF{G:Nat->Option W}{m k0:Nat}{fr fr2:FrW}{nw:Nat}{R:Res}{P P2:HpW}{w0 k:Nat}{t:Tree}{box:Dig}{L:List Rec}(hm:m<=k)(hw:w0≠k)(hf:∀blk:Nat->Option W,(∀i,i≠k->blk i=none) ->subV blk fr fr2)(hP:∀blk:Nat->Option W,(∀i,i≠k->blk i=none) ->Yfq blk k P P2)(hPk:∀p∈P,p.1≠w0/\p.1≠k)(nd:((P2++([(w0,248,wkF t box L)]:HpW)).map (·.1)).Nodup):Ent cfg G m k0 fr (P++wkH w0 k t box L) nw R fr2 (P2++[(w0,248,wkF t box L)]) nw R:=by
 have h1:=hget_wk (w0:=w0) (k:=k) (P:=P) (t:=t) (box:=box) (L:=L) λp hp=>(hPk p hp).1
 have hpl:=qCq L;cases e:L.map recW with
 |nil=>
  have key:Yfq (λ_=>none) k (P++wkH w0 k t box L) (P2++[(w0,248,wkF t box L)]):=kZq (uYq (hP _ λ_ _=>rfl)) ⟨⟨hw,_,h1,by unfold wkW wkF;rw[e];exact .agg (.cons (.pur (qkq t)) (.cons (.pur (jVq box)) (.cons .nilfz .nil)))⟩,trivial⟩;exact ent_viewH (hf _ λ_ _=>rfl) (λi ty w h=>(YMq key i ty w h).2) nd
 |cons x r=>
  have hpa:purW (.arr ((x::r).length*34) 34 (x::r))=true:=by rw[e] at hpl;exact hpl
  have hne:∀i,i≠k->blk1 k (.arr ((x::r).length*34) 34 (x::r)) i=none:=λi hi=>by
   unfold blk1
   have:Nat.beq i k=false:=by
    cases q:Nat.beq i k with
    |true=>exact absurd (Nat.eq_of_beq_eq_true q) hi
    |false=>rfl
   rw[this]
  exact kUq k fr2 _ (hget_wkl (λp hp=>(hPk p hp).2) hw e) hpa hm (hf _ hne) (kZq (uYq (hP _ hne)) ⟨⟨hw,_,h1,by unfold wkW wkF;rw[e];exact .agg (.cons (.pur (qkq t)) (.cons (.pur (jVq box)) (.cons (.sl (c:=.arr ((x::r).length*34) 34 (x::r)) (by unfold blk1;rw[Nat.beq_refl]) hpa (zfq Xm O O) Xi) .nil)))⟩,trivial⟩) nd
attribute [local irreducible] CoW OpW FlW Step Spec
attribute [local simp] qCq
@[local simp] theorem rws_pur(L:List Rec):purL (L.map (bW∘recB))=true:=z7q (λr=>by simp) L
@[local simp] theorem rws_pur2(L:List Rec)(i:Nat):purL ((L.map (bW∘recB)).take i)=true:=by rw[<-List.map_take];exact rws_pur _
theorem gv_code(l:List Pr)(d:Depo):(gvL l d).2=0\/(gvL l d).2=151:=by
 unfold gvL;split
 ·exact .inl rfl
 ·exact .inr rfl
theorem paid_code(l:List Pr)(x:Tx)(box:Dig):(yCq l x box).2=0\/(yCq l x box).2=151\/(yCq l x box).2=150:=by
 unfold yCq;split
 ·split
  ·exact .inr (.inl rfl)
  ·split
   ·exact .inr (.inl rfl)
   ·exact .inl rfl
 ·exact .inr Jp
theorem doD_rec:∀{ds:List Depo} {l:List Pr},∀r∈(doD l ds).2,r.kind=1/\okR r
 |[],l,r,h=>by cases h
 |d::ds,l,r,h=>by
  rcases List.mem_cons.1 h with rfl|h
  ·exact⟨rfl,.inl rfl,by rcases gv_code l d with e|e<;>simp[e]⟩
  ·exact doD_rec r h
theorem doX_rec{box:Dig}:∀{xs:List Tx} {l:List Pr} {q:List Pr×List Rec},doX box l xs=some q->∀r∈q.2,r.kind=2/\okR r
 |[],l,q,e,r,h=>by cases e;cases h
 |x::xs,l,q,e,r,h=>by
  by_cases hg:goX l x
  ·rw[xIq hg] at e;cases e2:doX box (yCq l x box).1 xs with
   |none=>rw[e2] at e;cases e
   |some s=>
    rw[e2] at e;cases e;rcases List.mem_cons.1 h with rfl|h
    ·exact⟨rfl,.inr rfl,by rcases paid_code l x box with e|e|e<;>simp[e]⟩
    ·exact doX_rec e2 r h
  ·rw[show doX box l (x::xs)=none from if_neg hg] at e;cases e
theorem upq{box:Dig}:∀{xs:List Tx} {l:List Pr} {q:List Pr×List Rec},doX box l xs=some q->q.2.length=xs.length
 |[],l,q,e=>by cases e;rfl
 |x::xs,l,q,e=>by
  by_cases hg:goX l x
  ·rw[xIq hg] at e;cases e2:doX box (yCq l x box).1 xs with
   |none=>rw[e2] at e;cases e
   |some s=>
    rw[e2] at e;cases e;exact congrArg (· +1) (upq e2)
  ·rw[show doX box l (x::xs)=none from if_neg hg] at e;cases e
theorem xJq:∀(ds:List Depo) (l:List Pr),(doD l ds).2.length=ds.length
 |[],l=>rfl
 |d::ds,l=>congrArg (· +1) (xJq ds (gvL l d).1)
noncomputable def jyq(p:Hdr)(t1:T)(L:List Rec):Hdr:=⟨p.height+1,hashD p,sumD t1,rootD (L.map recB),L.length⟩
def ApA(t:Tree)(t0:T)(p:Hdr)(ds:List Depo)(xs:List Tx)(box:Dig):W->Prop:=λw=>(∃t' n' t1 rs,IsA t' n' t1/\kEq t (257*ds.length+1028*xs.length) t1.all t' t1/\doX box (doD t0.all ds).1 xs=some (t1.all,rs)/\w= .tup [tW t',hdW (jyq p t1 ((doD t0.all ds).2++rs)),.fz (((doD t0.all ds).2++rs).map recW) 34 false,.int .i64 0])\/(doX box (doD t0.all ds).1 xs=none/\w=refW (badX box (doD t0.all ds).1 xs))
noncomputable def apP(p:Hdr)(ds:List Depo)(xs:List Tx)(f g:Bool):HpW:=[(1,86,hdW p),(2,33,bodW ds xs f g),(4,24,noT),(5,86,.agg 98 [.int .i64 0,ywq,ywq,ywq,.int .i64 0]),(6,35,dW (hashD p))]
theorem ap_sub(p:Hdr)(ds:List Depo)(xs:List Tx)(f g:Bool):subH (apP p ds xs f g) 8 (apP p ds xs f g):=⟨⟨by decide,rfl,zbq (KMq p)⟩,⟨by decide,rfl,zbq (Zfq ds xs f g)⟩,⟨by decide,rfl,rfl⟩,⟨by decide,rfl,rfl⟩,⟨by decide,rfl,zbq (jVq _)⟩,trivial⟩
theorem numC_thr(n:Nat):numC [7,8] 9 (thr2 n)=8\/numC [7,8] 9 (thr2 n)=9:=by
 cases n with
 |zero=>exact .inl rfl
 |succ n=>exact .inr rfl
theorem apply_s(t:Tree)(n:Nat)(t0:T)(hA:IsA t n t0)(p:Hdr)(hp:okH p)(hp2:p.height≠1073741824)(ds:List Depo)(xs:List Tx)(f g:Bool)(hds:∀d∈ds,d.number<18446744073709551616/\d.amount<18446744073709551616)(hxs:∀x∈xs,x.ok)(box:Dig)(hm:ds.length<=16/\xs.length<=16)(hf:t.nodes.length+300*ds.length+1200*xs.length<=260944):PE cfg glK 69 [tW t,hdW p,bodW ds xs f g,dW box] (ApA t t0 p ds xs box):=by
 have yes:MayA t:=⟨n,t0,hA⟩;obtain⟨q1,q2,q3,q4⟩:=hp;have c:=jcq (G:=glK) t Xd;rw[if_pos yes] at c;have hvals:∀x∈t.nodes,x.val.length<=70368744177664:=IsT.vals (root:=t.root) hA.toIsT
 have e0:(t.nodes.map nW).length=t.nodes.length:=List.length_map _;have e1:(ds.map pdW).length=ds.length:=List.length_map _;have e2:(xs.map txW).length=xs.length:=List.length_map _;have pfd:purW (.fz (ds.map pdW) 34 f)=true:=z7q vaq ds;have pfx:purW (.fz (xs.map txW) 99 g)=true:=z7q jnq xs;unfold ApA;have hdl:=xJq ds t0.all;have hdr:= @doD_rec ds t0.all;obtain⟨D,eD⟩:∃D,doD t0.all ds=D:=⟨_,rfl⟩
 rw[eD] at hdl hdr⊢;refine gIe 15 O (λR k0=>gC 0 O (KJq p ⟨q1,q2,q3,q4⟩) (gC 13 O (c) (gFa 0 O (gFa 2 O (gF 4 O (eqI_not.2 hp2) (gV (w':=.int .i64 (ds.length:Int)) 9 O Qz (gV (w':=.int .i64 (xs.length:Int)) 2 O Yy (gV (w':=.int .i64 ((max ds.length xs.length:Nat):Int)) 0 O max_op (gF 0 O (ltI_not.2 Xd) (gV (w':=.int .i64 (t.nodes.length:Int)) 8 O (by rw[<-e0];rfl) (gV (w':=.int .i64 (ds.length:Int)) 2 O Qz (gA 0 O (300*ds.length) (gA 0 O (260944-300*ds.length) (gV (w':=.int .i64 (xs.length:Int)) 2 O Yy (gA 0 O (1200*xs.length) (gA 0 O (260944-300*ds.length-1200*xs.length) (gF 0 O (ltI_not.2 Xd) (gC 10 O (uXq t Xd hvals) (zcq 9 O ?_)))))))))))))))))))
 (refine qqq (λ_=>Ent.trans (juq (fr2:=[(5,.ptr 1 0),(6,.ptr 2 0),(8,.ptr 4 0),(9,.ptr 5 0),(10,.nils),(11,.int .i64 0),(12,.ptr 6 0),(14,.ptr 7 0)]) ⟨rfl,rfl,rfl,rfl,rfl,rfl,rfl,rfl,trivial⟩) (y0q (nw2:=9) (hp2:=(apP p ds xs f g)++wkH 7 8 t box []) (fr2:=[(5,.ptr 1 0),(6,.ptr 2 0),(8,.ptr 4 0),(9,.ptr 5 0),(10,.nils),(11,.int .i64 0),(12,.ptr 6 0),(14,.ptr 7 0)]) (Nat.zero_le _) Xm ⟨rfl,rfl,rfl,rfl,rfl,rfl,rfl,rfl,trivial⟩ rfl (y4q ⟨⟨by decide,rfl,zbq (KMq p)⟩,⟨by decide,rfl,zbq (Zfq ds xs f g)⟩,⟨by decide,rfl,rfl⟩,⟨by decide,rfl,rfl⟩,⟨by decide,rfl,zbq (jVq _)⟩,⟨by decide,rfl,ref_wk Xm t box []⟩,trivial⟩) (by show([1,2,4,5,6,7]:List Nat).Nodup;decide))) ?_;refine z1q O O ?_)
 refine zgq 3 O ?_
 (refine zjq rfl (uZq 7 8 (apP p ds xs f g) (ws:=[.fz (ds.map pdW) 34 f,.fn 139 [.ptr 0 0] []]) O O O O (by show [W.fz (ds.map pdW) 34 f,W.fn _ [.ptr 7 0] []]=[renW _ (W.fz (ds.map pdW) 34 f),W.fn _ [.ptr 7 0] []];rw[zeq pfd]) (by show(refB 2 (W.fz (ds.map pdW) 34 f)&&(refB 2 (W.fn _ [.ptr 0 0] [])&&true))=true;rw[zbq pfd];rfl) rfl (by simp[apP]) Xm Xm Xm (eachd_s t n t0 hA box [] ds f hds hm.1 Xh Xd) ?_);rintro w hp1 nw1 ⟨t1,n1,u1,hT,hgo,rfl,rfl,rfl⟩;rw[Zzq];have hk:=numC_thr ds.length;generalize numC [7,8] 9 (thr2 ds.length)=k1 at hk⊢;rw[eD] at hgo⊢;refine qqq (λ_=>JKq (w0:=7) (b:=8) (k:=k1) (P:=(apP p ds xs f g)) (P2:=(apP p ds xs f g)) (fr2:=[(5,.ptr 1 0),(6,.ptr 2 0),(8,.ptr 4 0),(9,.ptr 5 0),(10,.nils),(11,.int .i64 0),(12,.ptr 6 0),(14,.ptr 7 0),(77,.int .i64 0)]) (Nat.zero_le _) Xm Xd Xd ⟨rfl,rfl,rfl,rfl,rfl,rfl,rfl,rfl,rfl,trivial⟩ ⟨rfl,rfl,rfl,rfl,rfl,rfl,rfl,rfl,rfl,trivial⟩ rfl (ap_sub ..) (by simp[apP]) (by simp[apP])) ?_)
 refine zgq 6 O (gTa 0 O (zcq 8 O ?_));skip
 have hle:=ext_le hgo.2;skip
 refine gSo 0 O (uZq 7 8 (apP p ds xs f g) (ws:=[.fz (xs.map txW) 99 g,.fn 141 [.ptr 0 0] []]) O O O O (by show [W.fz (xs.map txW) 99 g,W.fn _ [.ptr 7 0] []]=[renW _ (W.fz (xs.map txW) 99 g),W.fn _ [.ptr 7 0] []];rw[zeq pfx]) (by show(refB 2 (W.fz (xs.map txW) 99 g)&&(refB 2 (W.fn _ [.ptr 0 0] [])&&true))=true;rw[zbq pfx];rfl) rfl (by simp[apP]) Xm Xm Xm (eachx_s t1 n1 u1 hT box ([]++D.2) xs g hxs hm.2 (by show D.2.length<=100;omega) Xd) ?_);rintro w hp1 nw1 (⟨t2,n2,u2,rs,hT2,hgo2,hst,rfl,rfl,rfl⟩|⟨hst,rfl,rfl,rfl⟩)
 ·skip
  rw[Zzq];have hk:=numC_thr xs.length;generalize numC [7,8] 9 (thr2 xs.length)=k2 at hk⊢;refine qqq (λ_=>JKq (w0:=7) (b:=8) (k:=k2) (P:=(apP p ds xs f g)) (P2:=(apP p ds xs f g)) (fr2:=[(5,.ptr 1 0),(8,.ptr 4 0),(9,.ptr 5 0),(10,.nils),(11,.int .i64 0),(12,.ptr 6 0),(14,.ptr 7 0),(84,.int .i64 0)]) (Nat.zero_le _) Xm Xd Xd ⟨rfl,rfl,rfl,rfl,rfl,rfl,rfl,rfl,trivial⟩ ⟨rfl,rfl,rfl,rfl,rfl,rfl,rfl,rfl,trivial⟩ rfl (ap_sub ..) (by simp[apP]) (by simp[apP])) ?_;rw[hgo.1] at hst;have hrl:=upq hst;have hrr:= @doX_rec box xs D.1 _ hst;simp only at hrl hrr;have hLl:(D.2++rs).length=ds.length+xs.length:=by rw[List.length_append];omega
  have hLk:∀r∈D.2++rs,okR r:=λr h=>by
   rcases List.mem_append.1 h with h|h
   ·exact(hdr r h).2
   ·exact(hrr r h).2
  have hext:=Qwq hgo.2 hgo2.2;show OpW _ _ _ _ _ _ (apP p ds xs f g++wkH 7 8 t2 box (D.2++rs)) _ _ _;obtain⟨L,hLe⟩:∃L,D.2++rs=L:=⟨_,rfl⟩
  rw[hLe] at hLl hLk⊢;have eL:(L.map recW).length=L.length:=List.length_map _
  have hrow:∀q∈L.map recB,q.length<=4096:=λq h=>by
   obtain⟨r,_,rfl⟩:=List.mem_map.1 h;rw[recB_len];omega
  refine zgq 7 O (gFa 0 O (zcq 13 O ?_))
  (refine qqq (λ_=>ent_wkF (w0:=7) (k:=8) (P2:=[(1,86,hdW p),(4,24,noT),(5,86,.agg 98 [.int .i64 0,ywq,ywq,ywq,.int .i64 0]),(6,35,dW (hashD p))]) (fr2:=[(5,.ptr 1 0),(8,.ptr 4 0),(9,.ptr 5 0),(10,.nils),(11,.int .i64 0),(12,.ptr 6 0),(14,.ptr 7 0),(15,.nils)]) (Nat.zero_le _) Xm (λblk h=>⟨⟨_,rfl,.ptrK (h 1 Xm)⟩,⟨_,rfl,.ptrK (h 4 Xm)⟩,⟨_,rfl,.ptrK (h 5 Xm)⟩,⟨_,rfl,.pur rfl⟩,⟨_,rfl,.pur rfl⟩,⟨_,rfl,.ptrK (h 6 Xm)⟩,⟨_,rfl,.ptrK (h 7 Xm)⟩,⟨_,rfl,.pur rfl⟩,trivial⟩) (λblk h=>⟨⟨by decide,_,rfl,.pur Xh⟩,⟨by decide,_,rfl,.pur rfl⟩,⟨by decide,_,rfl,.pur rfl⟩,⟨by decide,_,rfl,.pur Xh⟩,trivial⟩) (by simp[apP]) (by show([1,4,5,6,7]:List Nat).Nodup;decide)) ?_;refine z1q O O ?_)
  refine zgq 3 O (gV (w':=.int .i64 (L.length:Int)) 0 O (by rw[<-eL];rfl) (zcq 4 O ?_));refine kMq (α:=Nat) (λi=>i<=L.length) 15 (λi=>((L.map recB).take i).map bW) 58 1 (λi=>[(95,.int .i64 (i:Int))]) [(5,_),(8,_),(9,_),(10,_),(11,_),(12,_),(14,_),(93,_),(94,_)] _ (λi=>L.length-i) (0) ⟨rfl,rfl,rfl,rfl,rfl,rfl,rfl,rfl,rfl,trivial⟩ (Nat.zero_le _) ⟨rfl,trivial⟩ O O O (λi hI=>?_);refine zBq 6 O ?_;refine gS 0 O (λh1=>?_) (λh1=>?_)
  ·have hi:i<L.length:=by omega
   obtain⟨r,hx⟩:∃r,L[i]? =some r:=⟨_,List.getElem?_eq_getElem hi⟩
   have hr:=hLk r (List.mem_of_getElem? hx);have hnx:((L.map recB).take (i+1)).map bW=((L.map recB).take i).map bW++[bW (recB r)]:=by rw[List.take_add_one,List.getElem?_map,hx,List.map_append];rfl
   have hlt:(((L.map recB).take i).map bW).length<=100:=by rw[List.length_map,List.length_take,List.length_map];omega
   exact gP 6 O (zDq (i:=i) O O O O O O O (zqq recW hx)) (gC 8 O (rbytes_s r hr) (gM 11 O (zKq O O (qeq [_,_,_,_,_,_,_] (k:=ti58) (news:=[bW (recB r)]) O O O O O (zJq O O O O) Xh (by show((((L.map recB).take i).map bW).length+1)*24<=_;omega) (by show(((L.map recB).take i).map bW).length+1<=_;omega) rfl Xh)) (gA 5 O (i+1) (zcq 2 O (qXq 12 (i+1) (hi) Xd (Nat.zero_le _) (hnx) Xu Xd Yg rfl Xx ⟨rfl,trivial⟩ ⟨rfl,rfl,rfl,rfl,rfl,rfl,rfl,rfl,rfl,trivial⟩ Xg Xg rfl Xk Xj Xz)))))
  ·have hi:i=L.length:=by omega
   subst hi;have eB:((L.map recB).map bW).length=L.length:=by rw[List.length_map,List.length_map]
   have pB:purL ((L.map recB).map bW)=true:=ZRq _;rw[show(L.map recB).take L.length=L.map recB from List.take_of_length_le Ys];refine zcq 2 O (yKq Xi (zyq 4 O ?_))
   (refine qqq (λ_=>ent_frg (b:=9) (X:=[(1,86,hdW p),(4,24,noT),(5,86,.agg 98 [.int .i64 0,ywq,ywq,ywq,.int .i64 0]),(6,35,dW (hashD p)),(7,248,wkF t2 box L)]) (fr2:=[(5,.ptr 1 0),(8,.ptr 4 0),(9,.ptr 5 0),(12,.ptr 6 0),(14,.ptr 7 0)]) 15 Xm pB (Nat.zero_le _) rfl (λblk h=>⟨⟨_,rfl,.ptrK (h 1 Xm)⟩,⟨_,rfl,.ptrK (h 4 Xm)⟩,⟨_,rfl,.ptrK (h 5 Xm)⟩,⟨_,rfl,.ptrK (h 6 Xm)⟩,⟨_,rfl,.ptrK (h 7 Xm)⟩,trivial⟩) (λblk h=>⟨⟨by decide,_,rfl,.pur Xh⟩,⟨by decide,_,rfl,.pur rfl⟩,⟨by decide,_,rfl,.pur rfl⟩,⟨by decide,_,rfl,.pur Xh⟩,⟨by decide,_,rfl,.pur Xh⟩,trivial⟩) (by show([1,4,5,6,7]:List Nat).Nodup;decide) Xh) ?_;refine z1q O O ?_)
   refine Y8q O O ?_;first|refine op_wrap O O Jo ?_|refine z1q O O ?_
   exact zgq 2 O (gV (w':=.int .i64 (L.length:Int)) 0 O (by rw[<-eB];rfl) (gC 10 O (tsum_ok t2 n2 u2 hT2.toIsT) (gC 10 O (rRoot_s (L.map recB) false Ys hrow) (zcq 25 O (yeq (w':=.tup [tW t2,hdW (jyq p u2 L),.fz (L.map recW) 34 false,.int .i64 0]) Jp rfl (.pur (by simp[purW,purL])) (by simp[purW,purL]) (.inl ⟨t2,n2,u2,rs,hT2,⟨rfl,hext⟩,hst,by rw[hLe]⟩))))))
 ·skip
  have hbn:=JRq hst;refine gT 7 O (congrArg not (eqI_not.2 Xd)) (zcq 16 O ?_);refine yeq (w':=.tup [noT,.agg 98 [.int .i64 0,ywq,ywq,ywq,.int .i64 0],.nils,.int .i64 (badX box u1.all xs:Nat)]) Jp rfl (.pur rfl) rfl (.inr ?_);rw[hgo.1] at hst⊢;exact⟨hst,ref_w _⟩
end
section
attribute [local irreducible] CoW OpW FlW Step Spec
theorem ap_some{t:Tree}{t0:T}{p:Hdr}{ds:List Depo}{xs:List Tx}{box:Dig}{w:W}(h:ApA t t0 p ds xs box w){l:List Pr}{rs:List Rec}(e:doX box (doD t0.all ds).1 xs=some (l,rs)):∃t' n' t1,IsA t' n' t1/\kEq t (257*ds.length+1028*xs.length) l t' t1/\w= .tup [tW t',hdW (jyq p t1 ((doD t0.all ds).2++rs)),.fz (((doD t0.all ds).2++rs).map recW) 34 false,.int .i64 0]:=by
 rcases h with ⟨t',n',t1,rs',hT,hgo,hst,hw⟩|⟨hst,_⟩
 ·rw[e] at hst;cases hst;exact⟨t',n',t1,hT,⟨hgo.1,hgo.2⟩,hw⟩
 ·rw[e] at hst;cases hst
theorem ap_none{t:Tree}{t0:T}{p:Hdr}{ds:List Depo}{xs:List Tx}{box:Dig}{w:W}(h:ApA t t0 p ds xs box w)(e:doX box (doD t0.all ds).1 xs=none):w=refW (badX box (doD t0.all ds).1 xs):=by
 rcases h with ⟨t',n',t1,rs',hT,hgo,hst,hw⟩|⟨_,hw⟩
 ·rw[e] at hst;cases hst
 ·exact hw
end
theorem fit_tx{w:W}(h:Fit (.st 99 [.arr 32 1 (.int .u8),.arr 32 1 (.int .u8),.int .u64,.int .u64,.int .u64,.arr 32 1 (.int .u8)]) w):∃x:Tx,w=txW x/\x.ok:=by
 obtain⟨l,rfl,w1,l1,rfl,h1,w2,l2,rfl,h2,w3,l3,rfl,h3,w4,l4,rfl,h4,w5,l5,rfl,h5,w6,l6,rfl,h6,rfl⟩:=h;obtain⟨a,rfl⟩:=fit_dig h1;obtain⟨b,rfl⟩:=fit_dig h2;obtain⟨n,rfl,hn⟩:=Qoq h3;obtain⟨m,rfl,hm⟩:=Qoq h4;obtain⟨f,rfl,hf⟩:=Qoq h5;obtain⟨s,rfl⟩:=fit_dig h6;exact⟨⟨a,b,n,m,f,s⟩,rfl,hn,hm,hf⟩
section
attribute [local irreducible] CoW OpW FlW Step Spec
variable {G:Nat->Option W}
structure BodOk(ds:List Depo)(xs:List Tx):Prop where
 dep:∀d∈ds,d.number<18446744073709551616/\d.amount<18446744073709551616
 tx:∀x∈xs,x.ok
 dl:ds.length<=140737488351232
 xl:xs.length<=140737488351232
theorem fit_depo2{w:W}(h:Fit (.st 34 [.int .u64,.arr 32 1 (.int .u8),.int .u64]) w):∃d:Depo,w=pdW d/\d.number<18446744073709551616/\d.amount<18446744073709551616:=by
 obtain⟨l,rfl,w1,l1,rfl,h1,w2,l2,rfl,h2,w3,l3,rfl,h3,rfl⟩:=h;obtain⟨n,rfl,hn⟩:=Qoq h1;obtain⟨k,rfl⟩:=fit_dig h2;obtain⟨m,rfl,hm⟩:=Qoq h3;exact⟨⟨n,k,m⟩,rfl,hn,hm⟩
theorem fit_hdr{w:W}(h:Fit (.st 98 [.int .i64,.arr 32 1 (.int .u8),.arr 32 1 (.int .u8),.arr 32 1 (.int .u8),.int .i64]) w):∃p:Hdr,w=hdW p/\p.height<=9223372036854775807:=by
 obtain⟨l,rfl,w1,l1,rfl,h1,w2,l2,rfl,h2,w3,l3,rfl,h3,w4,l4,rfl,h4,w5,l5,rfl,h5,rfl⟩:=h;obtain⟨i,rfl,_,hi⟩:=fit_i64 h1;obtain⟨a,rfl⟩:=fit_dig h2;obtain⟨b,rfl⟩:=fit_dig h3;obtain⟨c,rfl⟩:=fit_dig h4;obtain⟨j,rfl,_⟩:=fit_i64 h5;exact⟨⟨i,a,b,c,j⟩,rfl,hi⟩
theorem fit_body{w:W}(h:Fit (.st 2 [.sl 34 48 (.st 34 [.int .u64,.arr 32 1 (.int .u8),.int .u64]),.sl 99 120 (.st 99 [.arr 32 1 (.int .u8),.arr 32 1 (.int .u8),.int .u64,.int .u64,.int .u64,.arr 32 1 (.int .u8)])]) w):∃ds xs,w=bodW ds xs false false/\BodOk ds xs:=by
 obtain⟨l,rfl,w1,l1,rfl,h1,w2,l2,rfl,h2,rfl⟩:=h;obtain⟨ds,rfl,hl,hd⟩:=fit_sl h1 λx hx=>fit_depo2 hx
 obtain⟨xs,rfl,hl2,hx⟩:=fit_sl h2 λx hx=>fit_tx hx
 exact⟨ds,xs,rfl,hd,hx,by omega,by omega⟩
def yVq(ds:List Depo)(xs:List Tx):Prop:=(4<ds.length/\ds.length<=16)\/20<ds.length\/(4<xs.length/\xs.length<=16)\/20<xs.length
noncomputable instance(ds:List Depo)(xs:List Tx):Decidable (yVq ds xs):=Classical.propDecidable _
theorem Qiq(ds:List Depo)(xs:List Tx)(f g:Bool):PS cfg G 7 [bodW ds xs f g] (.bool (decide (yVq ds xs))):=by
 have e1:(ds.map pdW).length=ds.length:=List.length_map _;have e2:(xs.map txW).length=xs.length:=List.length_map _;refine gI 10 O (λR k0=>?_);refine gV (w':=.int .i64 (ds.length:Int)) 0 O Qz ?_;refine gD 0 O (λh1=>?_) (λh1=>?_)
 ·refine gV (w':=.int .i64 (ds.length:Int)) 3 O Qz ?_;refine gD 0 O (λh2=>?_) (λh2=>?_)
  ·exact gQ 29 O Xn
  ·refine gV (w':=.int .i64 (ds.length:Int)) 4 O Qz ?_;refine gD 0 O (λh3=>?_) (λh3=>?_)
   ·exact gQ 23 O Xn
   ·refine gV (w':=.int .i64 (xs.length:Int)) 4 O Yy ?_;refine gD 0 O (λh4=>?_) (λh4=>?_)
    ·refine gV (w':=.int .i64 (xs.length:Int)) 3 O Yy ?_;refine gD 0 O (λh5=>?_) (λh5=>?_)
     ·exact gQ 12 O Xn
     ·refine gV (w':=.int .i64 (xs.length:Int)) 5 O Yy ?_;refine gU 0 O ?_;exact gQ 5 O Xn
    ·refine gV (w':=.int .i64 (xs.length:Int)) 10 O Yy ?_;refine gU 0 O ?_;exact gQ 5 O Xn
 ·refine gV (w':=.int .i64 (ds.length:Int)) 9 O Qz ?_;refine gD 0 O (λh2=>?_) (λh2=>?_)
  ·exact gQ 23 O Xn
  ·refine gV (w':=.int .i64 (xs.length:Int)) 4 O Yy ?_;refine gD 0 O (λh3=>?_) (λh3=>?_)
   ·refine gV (w':=.int .i64 (xs.length:Int)) 3 O Yy ?_;refine gD 0 O (λh4=>?_) (λh4=>?_)
    ·exact gQ 12 O Xn
    ·refine gV (w':=.int .i64 (xs.length:Int)) 5 O Yy ?_;refine gU 0 O ?_;exact gQ 5 O Xn
   ·refine gV (w':=.int .i64 (xs.length:Int)) 10 O Yy ?_;refine gU 0 O ?_;exact gQ 5 O Xn
end
theorem T.uniq:∀{a b:T} {d:Nat} {k:Dig},Zr d k->a.ok d k=true->b.ok d k=true->a.all=b.all->a=b
 |.nil,b,d,k,_,_,hb,e=>by
  cases b with
  |nil=>rfl
  |leaf=>simp[T.all] at e
  |fork l r=>
   obtain⟨_,h1,h2,h3⟩:=ok_fork.1 hb;have:=Zpq h1 h2 h3;have e2:=congrArg List.length e;simp only[T.all,List.length_append,List.length_cons,List.length_nil] at e2;omega
 |.leaf x v,b,d,k,_,_,hb,e=>by
  cases b with
  |nil=>simp[T.all] at e
  |leaf=>simp only[T.all,List.cons.injEq,Prod.mk.injEq,and_true] at e;rw[e.1,e.2]
  |fork l r=>
   obtain⟨_,h1,h2,h3⟩:=ok_fork.1 hb;have:=Zpq h1 h2 h3;have e2:=congrArg List.length e;simp only[T.all,List.length_append,List.length_cons,List.length_nil] at e2;omega
 |.fork l r,b,d,k,hz,ha,hb,e=>by
  obtain⟨hd,h1,h2,h3⟩:=ok_fork.1 ha;have t1:=Zpq h1 h2 h3;cases b with
  |nil=>
   have e2:=congrArg List.length e;simp only[T.all,List.length_append,List.length_cons,List.length_nil] at e2;omega
  |leaf=>
   have e2:=congrArg List.length e;simp only[T.all,List.length_append,List.length_cons,List.length_nil] at e2;omega
  |fork l' r'=>
   obtain⟨_,g1,g2,g3⟩:=ok_fork.1 hb
   have key:∀{l r:T},(T.fork l r).ok d k=true->l.all=(T.fork l r).all.filter (λp=>bitN p.1 d==0)/\r.all=(T.fork l r).all.filter (λp=>bitN p.1 d==1):=by
    intro l r h;obtain⟨b1,b2⟩:=ZFq hz h;simp only[T.all,List.filter_append];rw[v2q (l:=l.all) (λp hp=>by simp[b1 p hp]),ukq (l:=r.all) (λp hp=>by simp[b2 p hp]),ukq (l:=l.all) (λp hp=>by simp[b1 p hp]),v2q (l:=r.all) (λp hp=>by simp[b2 p hp])];simp
   obtain⟨k1,k2⟩:=key ha;obtain⟨k3,k4⟩:=key hb;rw[T.uniq (q0q hz) h1 g1 (by rw[k1,k3,e]),T.uniq (qZq hz hd) h2 g2 (by rw[k2,k4,e])]
theorem IsA.uniq{t:Tree}{n n':Nat}{a b:T}(h:IsA t n a)(h':IsA t n' b):n=n'/\a=b:=by
 obtain rfl:n=n':=by have:=h.root;have:=h'.root;omega
 exact⟨rfl,h.rep.uniq h'.rep⟩
theorem IsA.grow{ns:List Node}{r:Int}{n:Nat}{t0:T}(h:IsA ⟨ns,r⟩ n t0){t':Tree}{n':Nat}{t1:T}(h':IsA t' n' t1)(e:∃ms,t'.nodes=ns++ms):IsA ⟨t'.nodes,r⟩ n t0:=by
 obtain⟨ms,e⟩:=e;exact⟨⟨h'.len,h'.okn,h.root,by show Rep t'.nodes n t0;rw[e];exact h.rep.app ms,h.ok⟩,h.held⟩
def recI(r:Rec):RcI:=⟨r.kind,r.id,(r.code:Int)⟩
theorem recI_w(L:List Rec):(L.map recI).map rcW=L.map recW:=by rw[List.map_map];rfl
def FolB(h p:Hdr):Prop:=okH h/\okH p/\h.height=p.height+1/\h.parent=hashD p
noncomputable instance(h p:Hdr):Decidable (FolB h p):=Classical.propDecidable _
noncomputable instance(ds:List Depo)(xs:List Tx):Decidable (BodyM ds xs):=Classical.propDecidable _
def verT(c:Ch)(r:Int):Tree:=⟨c.tree.nodes,r⟩
structure LkM(c:Ch)(i:Nat)(x:Lk):Prop where
 height:x.hdr.height=(i:Int)
 hdr:okH x.hdr
 fol:∀y,0<i->c.links[i-1]? =some y->FolB x.hdr y.hdr
 recs:((x.rs.length:Nat):Int)=x.hdr.many
 body:BodyM x.ds x.xs
 tree:MayA (verT c x.root)
structure MayC(c:Ch):Prop where
 one:0<c.links.length
 len:c.links.length<=256
 root:∀x,c.links[c.links.length-1]? =some x->c.tree.root=x.root
 link:∀i x,c.links[i]? =some x->LkM c i x
noncomputable instance(c:Ch):Decidable (MayC c):=Classical.propDecidable _
noncomputable def firH(t0:T):Hdr:=⟨0,y2q,sumD t0,tagD 0 [],0⟩
structure LkS(c:Ch)(box:Dig)(i:Nat)(x:Lk):Prop where
 first:i=0->∃n t0,IsA (verT c x.root) n t0/\x.hdr=firH t0/\x.ds=[]/\x.xs=[]
 next:∀y,0<i->c.links[i-1]? =some y->∃n t0 n1 t1 rs,IsA (verT c y.root) n t0/\IsA (verT c x.root) n1 t1/\doX box (doD t0.all x.ds).1 x.xs=some (t1.all,rs)/\x.hdr=jyq y.hdr t1 ((doD t0.all x.ds).2++rs)/\x.rs=((doD t0.all x.ds).2++rs).map recI
structure SoundC(c:Ch)(box:Dig):Prop extends MayC c where
 sound:∀i x,c.links[i]? =some x->LkS c box i x
noncomputable instance(c:Ch)(box:Dig):Decidable (SoundC c box):=Classical.propDecidable _
theorem MayC.last{c:Ch}(h:MayC c):∃y,c.links[c.links.length-1]? =some y/\c.tree.root=y.root/\LkM c (c.links.length-1) y:=by
 have:=h.one;have e:=List.getElem?_eq_getElem (l:=c.links) (i:=c.links.length-1) Xd;exact⟨_,e,h.root _ e,h.link _ _ e⟩
theorem MayC.head{c:Ch}(h:MayC c){y:Lk}(e:c.links[c.links.length-1]? =some y):∃n t0,IsA c.tree n t0/\verT c y.root=c.tree:=by
 obtain⟨y',e',hr,hy⟩:=h.last;cases e.symm.trans e';have:verT c y.root=c.tree:=by unfold verT;rw[<-hr]
 obtain⟨n,t0,hA⟩:=hy.tree;exact⟨n,t0,this▸hA,this⟩
def addL(t':Tree)(h:Hdr)(ds:List Depo)(xs:List Tx)(L:List Rec):Lk:=⟨h,t'.root,ds,xs,L.map recI⟩
def addC(c:Ch)(t':Tree)(h:Hdr)(ds:List Depo)(xs:List Tx)(L:List Rec):Ch:=⟨t',c.links++[addL t' h ds xs L]⟩
structure Adds(c:Ch)(ds:List Depo)(xs:List Tx)(box:Dig)(y:Lk)(t':Tree)(t1:T)(L:List Rec):Prop where
 may:MayC c
 short:c.links.length<256
 last:c.links[c.links.length-1]? =some y
 many:ds.length<=16/\xs.length<=16
 is:∃n t0 n1 rs,IsA c.tree n t0/\IsA t' n1 t1/\doX box (doD t0.all ds).1 xs=some (t1.all,rs)/\L=(doD t0.all ds).2++rs
 goes:∃ms,t'.nodes=c.tree.nodes++ms
theorem doX_sign{box:Dig}:∀{xs:List Tx} {l:List Pr} {r:List Pr×List Rec},doX box l xs=some r->∀x∈xs,x.sign=jOq x
 |[],_,_,_,x,h=>by cases h
 |x::xs,l,r,e,y,h=>by
  by_cases hg:goX l x
  ·rw[xIq hg] at e;cases e2:doX box (yCq l x box).1 xs with
   |none=>rw[e2] at e;cases e
   |some q=>
    rcases List.mem_cons.1 h with rfl|h
    ·exact hg.1
    ·exact doX_sign e2 y h
  ·rw[show doX box l (x::xs)=none from if_neg hg] at e;cases e
theorem Yzq{α:Type}{l:List α}{a x:α}{i:Nat}(h:(l++[a])[i]? =some x):l[i]? =some x\/(i=l.length/\x=a):=by
 rcases Nat.lt_trichotomy i l.length with q|q|q
 ·rw[List.getElem?_append_left q] at h;exact .inl h
 ·subst q;rw[List.getElem?_append_right (Nat.le_refl _),Nat.sub_self] at h;exact .inr ⟨rfl,(Option.some.inj h).symm⟩
 ·rw[List.getElem?_eq_none Xq] at h;cases h
theorem get_prev{α:Type}{l:List α}{a y:α}{i:Nat}(hi:i<=l.length)(h0:0<i)(h:(l++[a])[i-1]? =some y):l[i-1]? =some y:=by
 rwa[List.getElem?_append_left Xd] at h
theorem jAq{α:Type}{l:List α}{i:Nat}{x:α}(h:l[i]? =some x):i<l.length:=(List.getElem?_eq_some_iff.1 h).1
section
variable {c:Ch} {ds:List Depo} {xs:List Tx} {box:Dig} {y:Lk} {t':Tree} {t1:T} {L:List Rec}
theorem Adds.old(h:Adds c ds xs box y t' t1 L){r:Int}{n:Nat}{t0:T}(hA:IsA (verT c r) n t0):IsA (verT (addC c t' (jyq y.hdr t1 L) ds xs L) r) n t0:=by
 obtain⟨n,t0,n1,rs,h1,h2,_⟩:=h.is;exact hA.grow h2 h.goes
theorem Adds.okh(h:Adds c ds xs box y t' t1 L):FolB (jyq y.hdr t1 L) y.hdr:=by
 obtain⟨n,t0,n1,rs,h1,h2,h3,rfl⟩:=h.is;have hy:=h.may.link _ _ h.last;have:=hy.height;have:=jAq h.last;have:=h.may.len;have e1:=upq h3;simp only at e1;have:=xJq ds t0.all;have:=h.many;obtain⟨a1,a2,a3,a4⟩:=hy.hdr;refine⟨⟨?_,?_,?_,?_⟩,hy.hdr,rfl,rfl⟩<;>simp only[jyq,List.length_append]<;>omega
theorem Adds.mayc(h:Adds c ds xs box y t' t1 L):MayC (addC c t' (jyq y.hdr t1 L) ds xs L):=by
 have hs:=h.short;have ho:=h.may.one;have hf:=h.okh;refine⟨by simp[addC],by simp[addC]<;>omega,λx e=>?_,λi x e=>?_⟩
 ·rcases Yzq e with e|⟨_,rfl⟩
  ·have:=jAq e;simp[addC] at this<;>omega
  ·rfl
 ·rcases Yzq e with e|⟨hi,rfl⟩
  ·have hx:=h.may.link i x e;have hi:=jAq e;obtain⟨n,t0,hA⟩:=hx.tree;exact⟨hx.height,hx.hdr,λy' h0 e'=>hx.fol y' h0 (get_prev Xd h0 e'),hx.recs,hx.body,n,t0,h.old hA⟩
  ·obtain⟨n,t0,n1,rs,h1,h2,h3,h4⟩:=h.is;have hy:=(h.may.link _ _ h.last).height;refine⟨by show y.hdr.height+1=_;omega,hf.1,λy' h0 e'=>?_,by simp[addL,jyq],⟨h.many.1,h.many.2,doX_sign h3⟩,n1,t1,h2⟩;have e2:=get_prev Xd h0 e';rw[hi] at e2;cases e2.symm.trans h.last;exact hf
end
def cutC(c:Ch)(h:Nat)(x:Lk):Ch:=⟨verT c x.root,c.links.take (h+1)⟩
section
attribute [local irreducible] CoW OpW FlW Step Spec
variable {G:Nat->Option W}
theorem vCq{α:Type}{a b:List α}{n:Nat}(h:a.length=n)(h2:b.length=n)(g:a.take n=b.take n):a=b:=by
 rwa[List.take_of_length_le Xd,List.take_of_length_le Xd] at g
theorem xYq{α:Type}{a b:List α}{i:Nat}{x y:α}(g:a.take i=b.take i)(hx:a[i]? =some x)(hy:b[i]? =some y)(e:x=y):a.take (i+1)=b.take (i+1):=by
 rw[List.take_add_one,List.take_add_one,g,hx,hy,e]
theorem ne_at{α:Type}{a b:List α}{i:Nat}{x y:α}(hx:a[i]? =some x)(hy:b[i]? =some y)(h:x≠y):¬a=b:=λq=>h Qk
noncomputable instance(a b:Depo):Decidable (a=b):=Classical.propDecidable _
noncomputable instance(a b:Tx):Decidable (a=b):=Classical.propDecidable _
noncomputable instance(a b:RcI):Decidable (a=b):=Classical.propDecidable _
noncomputable instance(a b:Hdr):Decidable (a=b):=Classical.propDecidable _
theorem K5q{p:Prop} [Decidable p]{b:Bool}(h:p↔b=true):decide p=b:=by
 rw[Bool.eq_iff_iff,decide_eq_true_eq];exact h
theorem eq_pd(a b:Depo):eqW cfg 300 208 (pdW a) (pdW b)=some (decide (a=b)):=by
 rw[K5q (p:=a=b) (b:=decide ((a.number:Int)=b.number)&&(decide (a.to=b.to)&&(decide ((a.amount:Int)=b.amount)&&true))) (by cases a;cases b;simp only[Depo.mk.injEq,Bool.and_eq_true,decide_eq_true_eq,Int.natCast_inj,and_true])];exact unq O O O O (yEq O O O (uoq O O) (yEq O O O (yXq O O O O O O _ _ _) (yEq O O O (uoq O O) v4q)))
theorem eq_tx(a b:Tx):eqW cfg 300 165 (txW a) (txW b)=some (decide (a=b)):=by
 rw[K5q (p:=a=b) (b:=decide (a.pub=b.pub)&&(decide (a.to=b.to)&&(decide ((a.nonce:Int)=b.nonce)&&(decide ((a.amount:Int)=b.amount)&&(decide ((a.fee:Int)=b.fee)&&(decide (a.sign=b.sign)&&true)))))) (by cases a;cases b;simp only[Tx.mk.injEq,Bool.and_eq_true,decide_eq_true_eq,Int.natCast_inj,and_true])];exact unq O O O O (yEq O O O (yXq O O O O O O _ _ _) (yEq O O O (yXq O O O O O O _ _ _) (yEq O O O (uoq O O) (yEq O O O (uoq O O) (yEq O O O (uoq O O) (yEq O O O (yXq O O O O O O _ _ _) v4q))))))
theorem eq_rc(a b:RcI):eqW cfg 300 146 (rcW a) (rcW b)=some (decide (a=b)):=by
 rw[K5q (p:=a=b) (b:=decide ((Int.ofNat a.kind.toNat)=Int.ofNat b.kind.toNat)&&(decide (a.id=b.id)&&(decide (a.code=b.code)&&true))) (by cases a;cases b;simp only[RcI.mk.injEq,Bool.and_eq_true,decide_eq_true_eq,and_true];exact⟨λh=>⟨by rw[h.1],h.2⟩,λh=>⟨UInt8.toNat_inj.1 (Int.ofNat.inj h.1),h.2⟩⟩)];exact unq O O O O (yEq O O O (uoq O O) (yEq O O O (yXq O O O O O O _ _ _) (yEq O O O (uoq O O) v4q)))
theorem eq_hd(h p:Hdr):eqW cfg 300 86 (hdW h) (hdW p)=some (decide (h=p)):=by
 rw[K5q (p:=h=p) (b:=decide (h.height=p.height)&&(decide (h.parent=p.parent)&&(decide (h.state=p.state)&&(decide (h.rows=p.rows)&&(decide (h.many=p.many)&&true))))) (by cases h;cases p;simp only[Hdr.mk.injEq,Bool.and_eq_true,decide_eq_true_eq,and_true])];exact unq O O O O (yEq O O O (uoq O O) (yEq O O O (yXq O O O O O O _ _ _) (yEq O O O (yXq O O O O O O _ _ _) (yEq O O O (yXq O O O O O O _ _ _) (yEq O O O (uoq O O) v4q)))))
theorem rseqr_s(a b:List RcI)(f g:Bool)(hb:a.length<=1000000000):PS cfg G 190 [.fz (a.map rcW) 34 f,.fz (b.map rcW) 34 g] (.bool (decide (a=b))):=by
 have ea:(a.map rcW).length=a.length:=List.length_map _;have eb:(b.map rcW).length=b.length:=List.length_map _;refine gI 9 O (λR k0=>gV (w':=.int .i64 (a.length:Int)) 0 O Yz (gV (w':=.int .i64 (b.length:Int)) 1 O (by rw[<-eb];rfl) ?_));refine gS 3 O (λh1=>?_) (λh1=>?_)
 ·exact gQ 7 O (by rw[decide_eq_false λh=>h1 (by rw[h])])
 ·refine gLo (α:=Nat) 9 (λi=>i<=a.length/\a.take i=b.take i) (λi=>[(5,.int .i64 (i:Int))]) [0,1,4] (λi=>a.length-i) (0) rfl (⟨Nat.zero_le _,rfl⟩) (λi hI=>?_);obtain⟨g1,g2⟩:=hI;refine gV (w':=.int .i64 (a.length:Int)) 5 O Yz ?_;refine gS 3 O (λh2=>?_) (λh2=>?_)
  ·obtain⟨x,hx⟩:∃x,a[i]? =some x:=⟨_,List.getElem?_eq_getElem Xd⟩
   obtain⟨y,hy⟩:∃y,b[i]? =some y:=⟨_,List.getElem?_eq_getElem Xd⟩
   refine gP 8 O (zDq (i:=i) O O O O O O O (zqq rcW hx)) (gP 3 O (zDq (i:=i) O O O O O O O (zqq rcW hy)) (gUe 1 O (jwq O O O O (eq_rc _ _)) (jGq z5q) ?_));refine gS 2 O (λh3=>?_) (λh3=>?_)
   ·exact gO 8 O (gQ 2 O (by rw[decide_eq_false (ne_at hx hy h3)]))
   ·exact gA 5 O (i+1) (gAg 2 O (i+1) (⟨by omega,xYq g2 hx hy (Classical.not_not.1 h3)⟩) Xd)
  ·exact gO 2 O (gQ 8 O (by rw[decide_eq_true (vCq Xd Xd g2)]))
theorem cld_s(l:List Depo)(f:Bool)(hl:l.length<=1000000000):PS cfg G 103 [.fz (l.map pdW) 34 f] (.fz (l.map pdW) 34 false):=by
 have e:(l.map pdW).length=l.length:=List.length_map _;have hp:∀l:List Depo,purL (l.map pdW)=true:=z7q vaq
 refine gI 9 O (λR k0=>?_);first|refine z1q O O ?_|refine zjq rfl (vEq O O O O O (λbn hn=>?_))
 refine zgq 2 O ?_;refine gS 0 O (λh1=>?_) (λh1=>?_)
 ·cases bn with
  |false=>cases h1
  |true=>
   obtain rfl:l=[]:=List.map_eq_nil_iff.1 (hn rfl);exact yAq 7 O (qvq (fr2:=[(2,.fz [] 34 false)]) Jp ⟨⟨_,rfl,.nilfz⟩,trivial⟩ O O)
 ·cases l with
  |nil=>
   skip
   exact yAq 6 O (gM 0 O (zKq O O (xOq O O O O O)) (zcq 4 O (qvq (fr2:=[(2,.fz [] 34 false)]) Jp ⟨⟨_,rfl,.sl O O O Xi⟩,trivial⟩ O O)))
  |cons c l=>
   simp only[List.length_cons] at hl e;exact yAq 6 O (gM 0 O (zKq O O (yQq (news:=(c::l).map pdW) (olds:=[]) O O O O O Xh (by show(0+((c::l).map pdW).length)*48<=_;rw[e];omega) (by rw[e];omega) rfl (by show 0<0+(0+((c::l).map pdW).length)*34;rw[e];omega) O O)) (zcq 4 O (qvq (fr2:=[(2,.fz ((c::l).map pdW) 34 false)]) Jp ⟨⟨_,rfl,.sl rfl (hp _) (zfq Xm (Nat.zero_add _) (by rw[Nat.zero_add])) Xi⟩,trivial⟩ O O)))
theorem clx_s(l:List Tx)(f:Bool)(hl:l.length<=1000000000):PS cfg G 102 [.fz (l.map txW) 99 f] (.fz (l.map txW) 99 false):=by
 have e:(l.map txW).length=l.length:=List.length_map _;have hp:∀l:List Tx,purL (l.map txW)=true:=z7q jnq
 refine gI 9 O (λR k0=>?_);first|refine z1q O O ?_|refine zjq rfl (vEq O O O O O (λbn hn=>?_))
 refine zgq 2 O ?_;refine gS 0 O (λh1=>?_) (λh1=>?_)
 ·cases bn with
  |false=>cases h1
  |true=>
   obtain rfl:l=[]:=List.map_eq_nil_iff.1 (hn rfl);exact yAq 7 O (qvq (fr2:=[(2,.fz [] 99 false)]) Jp ⟨⟨_,rfl,.nilfz⟩,trivial⟩ O O)
 ·cases l with
  |nil=>
   skip
   exact yAq 6 O (gM 0 O (zKq O O (xOq O O O O O)) (zcq 4 O (qvq (fr2:=[(2,.fz [] 99 false)]) Jp ⟨⟨_,rfl,.sl O O O Xi⟩,trivial⟩ O O)))
  |cons c l=>
   simp only[List.length_cons] at hl e;exact yAq 6 O (gM 0 O (zKq O O (yQq (news:=(c::l).map txW) (olds:=[]) O O O O O Xh (by show(0+((c::l).map txW).length)*120<=_;rw[e];omega) (by rw[e];omega) rfl (by show 0<0+(0+((c::l).map txW).length)*99;rw[e];omega) O O)) (zcq 4 O (qvq (fr2:=[(2,.fz ((c::l).map txW) 99 false)]) Jp ⟨⟨_,rfl,.sl rfl (hp _) (zfq Xm (Nat.zero_add _) (by rw[Nat.zero_add])) Xi⟩,trivial⟩ O O)))
theorem clr_s(l:List RcI)(f:Bool)(hl:l.length<=1000000000):PS cfg G 181 [.fz (l.map rcW) 34 f] (.fz (l.map rcW) 34 false):=by
 have e:(l.map rcW).length=l.length:=List.length_map _;have hp:∀l:List RcI,purL (l.map rcW)=true:=z7q rcW_pur
 refine gI 9 O (λR k0=>?_);first|refine z1q O O ?_|refine zjq rfl (vEq O O O O O (λbn hn=>?_))
 refine zgq 2 O ?_;refine gS 0 O (λh1=>?_) (λh1=>?_)
 ·cases bn with
  |false=>cases h1
  |true=>
   obtain rfl:l=[]:=List.map_eq_nil_iff.1 (hn rfl);exact yAq 7 O (qvq (fr2:=[(2,.fz [] 34 false)]) Jp ⟨⟨_,rfl,.nilfz⟩,trivial⟩ O O)
 ·cases l with
  |nil=>
   skip
   exact yAq 6 O (gM 0 O (zKq O O (xOq O O O O O)) (zcq 4 O (qvq (fr2:=[(2,.fz [] 34 false)]) Jp ⟨⟨_,rfl,.sl O O O Xi⟩,trivial⟩ O O)))
  |cons c l=>
   simp only[List.length_cons] at hl e;exact yAq 6 O (gM 0 O (zKq O O (yQq (news:=(c::l).map rcW) (olds:=[]) O O O O O Xh (by show(0+((c::l).map rcW).length)*48<=_;rw[e];omega) (by rw[e];omega) rfl (by show 0<0+(0+((c::l).map rcW).length)*34;rw[e];omega) O O)) (zcq 4 O (qvq (fr2:=[(2,.fz ((c::l).map rcW) 34 false)]) Jp ⟨⟨_,rfl,.sl rfl (hp _) (zfq Xm (Nat.zero_add _) (by rw[Nat.zero_add])) Xi⟩,trivial⟩ O O)))
theorem rsbody_s(a:List Depo)(c:List Tx)(b:List Depo)(d:List Tx)(f1 f2 f3 f4:Bool)(hb:a.length<=1000000000)(hb2:c.length<=1000000000):PS cfg G 56 [bodW a c f1 f2,bodW b d f3 f4] (.bool (decide (a=b/\c=d))):=by
 have ea:(a.map pdW).length=a.length:=List.length_map _;have eb:(b.map pdW).length=b.length:=List.length_map _;have ec:(c.map txW).length=c.length:=List.length_map _;have ed:(d.map txW).length=d.length:=List.length_map _;refine gI 12 O (λR k0=>gV (w':=.int .i64 (a.length:Int)) 0 O Yz (gV (w':=.int .i64 (b.length:Int)) 2 O (by rw[<-eb];rfl) ?_));refine gD 0 O (λh1=>?_) (λh1=>?_)
 ·exact gQ 19 O (by rw[decide_eq_false λh=>h1 (by rw[h.1])])
 refine gV (w':=.int .i64 (c.length:Int)) 3 O (by rw[<-ec];rfl) (gV (w':=.int .i64 (d.length:Int)) 2 O (by rw[<-ed];rfl) (gU 0 O ?_));refine gS 3 O (λh2=>?_) (λh2=>?_)
 ·exact gQ 7 O (by rw[decide_eq_false λh=>h2 (by rw[h.2])])
 ·refine gLo (α:=Nat) 9 (λi=>i<=a.length/\a.take i=b.take i) (λi=>[(5,.int .i64 (i:Int))]) [2,3,4] (λi=>a.length-i) (0) rfl (⟨Nat.zero_le _,rfl⟩) (λi hI=>?_);obtain⟨g1,g2⟩:=hI;refine gV (w':=.int .i64 (a.length:Int)) 6 O Yz ?_;refine gS 3 O (λh3=>?_) (λh3=>?_)
  ·obtain⟨x,hx⟩:∃x,a[i]? =some x:=⟨_,List.getElem?_eq_getElem Xd⟩
   obtain⟨y,hy⟩:∃y,b[i]? =some y:=⟨_,List.getElem?_eq_getElem Xd⟩
   refine gP 9 O (zDq (i:=i) O O O O O O O (zqq pdW hx)) (gP 4 O (zDq (i:=i) O O O O O O O (zqq pdW hy)) (gUe 1 O (jwq O O O O (eq_pd _ _)) (jGq z5q) ?_));refine gS 2 O (λh4=>?_) (λh4=>?_)
   ·exact gO 8 O (gQ 2 O (by rw[decide_eq_false λq=>ne_at hx hy h4 q.1]))
   ·exact gA 5 O (i+1) (gAg 2 O (i+1) (⟨by omega,xYq g2 hx hy (Classical.not_not.1 h4)⟩) Xd)
  ·obtain rfl:=vCq (a:=a) (b:=b) Xd Xd g2;refine gO 2 O (zcq 9 O ?_);skip
   refine gLo (α:=Nat) 0 (λj=>j<=c.length/\c.take j=d.take j) (λj=>[(6,.int .i64 (j:Int))]) [2,3,4] (λj=>c.length-j) (0) rfl (⟨Nat.zero_le _,rfl⟩) (λj hI=>?_);obtain⟨k1,k2⟩:=hI;refine gV (w':=.int .i64 (c.length:Int)) 6 O (by rw[<-ec];rfl) ?_;refine gS 3 O (λh4=>?_) (λh4=>?_)
   ·obtain⟨x,hx⟩:∃x,c[j]? =some x:=⟨_,List.getElem?_eq_getElem Xd⟩
    obtain⟨y,hy⟩:∃y,d[j]? =some y:=⟨_,List.getElem?_eq_getElem Xd⟩
    refine gP 9 O (zDq (i:=j) O O O O O O O (zqq txW hx)) (gP 4 O (zDq (i:=j) O O O O O O O (zqq txW hy)) (gUe 1 O (jwq O O O O (eq_tx _ _)) (jGq z5q) ?_));refine gS 2 O (λh5=>?_) (λh5=>?_)
    ·exact gO 8 O (gQ 2 O (by rw[decide_eq_false λq=>ne_at hx hy h5 q.2]))
    ·exact gA 5 O (j+1) (gAg 2 O (j+1) (⟨by omega,xYq k2 hx hy (Classical.not_not.1 h5)⟩) Xd)
   ·exact gO 2 O (gQ 8 O (by rw[decide_eq_true ⟨rfl,vCq Xd Xd k2⟩]))
theorem y6q{p:Prop} [Decidable p](h:¬p):W.bool false=W.bool (decide p):=congrArg W.bool (decide_eq_false h).symm
theorem K4q{p:Prop} [Decidable p](h:p):W.bool true=W.bool (decide p):=congrArg W.bool (decide_eq_true h).symm
theorem dec_c{p q:Prop} [Decidable p] [Decidable q](h:q↔p):W.bool (decide q)=W.bool (decide p):=congrArg W.bool (decide_eq_decide.2 h)
theorem hfollows_d(h p:Hdr):PS cfg glK 128 [hdW h,hdW p] (.bool (decide (FolB h p))):=by
 by_cases hp:okH p
 ·obtain⟨q1,q2,q3,q4⟩:=id hp;by_cases hh:okH h
  ·skip
   refine gI 10 O (λR k0=>gC 0 O (KJq p ⟨q1,q2,q3,q4⟩) (gTa 11 O (gC 2 O (zzq (w':=.int .i64 0) (vZq h) (by rw[if_pos hh])) (gTa 0 O (gWr 6 O ?_)))));refine gD 0 O (λh1=>?_) (λh1=>?_)
   ·exact gUe 5 O (qxq O O O O (yXq O O O O O O _ _ 250)) z5q (gQ 5 O (dec_c ⟨λq=>⟨hh,hp,by simpa using h1,q⟩,λq=>q.2.2.2⟩))
   ·exact gQ 11 O (y6q λq=>h1 (by simpa using q.2.2.1))
  ·skip
   exact gI 10 O (λR k0=>gC 0 O (KJq p ⟨q1,q2,q3,q4⟩) (gTa 11 O (gC 2 O (zzq (w':=.int .i64 8) (vZq h) (by rw[if_neg hh])) (gFa 0 O (gQ 19 O (y6q λq=>hh q.1))))))
 ·skip
  exact gI 10 O (λR k0=>gC 0 O (hhash_no p hp) (gFa 11 O (gQ 23 O (y6q λq=>hp q.2.1))))
theorem ver_s(t:Tree)(r:Int):PS cfg G 63 [tW t,.int .i64 r] (tW ⟨t.nodes,r⟩):=by
 exact gI 20 O (λR k0=>gQa 0 O)
theorem ixtx_s(xs:List Tx)(f:Bool)(F:FuncId)(P:Tx->Prop) [DecidablePred P](hF:∀x∈xs,PS cfg G F [txW x] (.bool (decide (P x))))(hF0:cfg.ext F=none)(hn:xs.length<=1000000000):PE cfg G 266 [.fz (xs.map txW) 99 f,.fn F [] []] (λw=>∃i:Int,w= .int .i64 i/\((∃x∈xs,P x)↔0<=i)):=by
 refine gIe 9 O (λR k0=>gZ 0 O LMq ?_);refine gLo (α:=Nat) 4 (λi=>i<=xs.length/\∀j x,j<i->xs[j]? =some x->¬P x) (λi=>[(8,.int .i64 (i:Int))]) [0,1,4,7] (λi=>xs.length-i) (0) rfl (⟨Nat.zero_le _,λj x h=>by omega⟩) (λi hI=>?_);obtain⟨g1,g2⟩:=hI;refine gS 6 O (λh1=>?_) (λh1=>?_)
 ·obtain⟨x,hx⟩:∃x,xs[i]? =some x:=⟨_,List.getElem?_eq_getElem Xd⟩
  refine gP 15 O (zDq (i:=i) O O O O O O O (zqq txW hx)) (zcq 1 O (KCq O O O hF0 O O (hF x (List.mem_of_getElem? hx)) Xh Xh (zgq 2 O ?_)));refine gS 0 O (λh2=>?_) (λh2=>?_)
  ·exact gO 9 O (zcq 2 O (yeq (w':=.int .i64 (i:Int)) Jp rfl (.pur rfl) rfl ⟨_,rfl,λ_=>by omega,λ_=>⟨x,List.mem_of_getElem? hx,h2⟩⟩))
  ·exact gA 4 O (i+1) (gAg 2 O (i+1) (⟨by omega,λj y hj hy=>by rcases Nat.lt_succ_iff_lt_or_eq.1 hj with q|rfl;exact g2 j y q hy;exact Option.some.inj (hx.symm.trans hy)▸h2⟩) Xd)
 ·refine gO 2 O (zcq 8 O ?_)
  exact yeq (w':=.int .i64 (-1)) Jp rfl (.pur rfl) rfl ⟨_,rfl,λ⟨x,hx,q⟩=>by
   obtain⟨j,hj⟩:=List.getElem?_of_mem hx;exact absurd q (g2 j x (by have:=jAq hj;omega) hj),λh=>absurd h Xm⟩
theorem cntx_s(xs:List Tx)(f:Bool)(F:FuncId)(P:Tx->Prop) [DecidablePred P](hF:∀x∈xs,PS cfg G F [txW x] (.bool (decide (P x))))(hF0:cfg.ext F=none)(hn:xs.length<=1000000000) [Decidable (∃x∈xs,P x)]:PS cfg G 199 [.fz (xs.map txW) 99 f,.fn F [] []] (.bool (decide (∃x∈xs,P x))):=by
 refine gI 9 O (λR k0=>?_);refine gE 0 O (ixtx_s xs f F P hF hF0 hn) ?_;rintro w hw ⟨i,rfl,hi⟩;refine gU 0 O ?_;exact gQ 4 O (by rw[decide_eq_decide.2 hi])
theorem cbody1_s(x:Tx)(hx:x.ok):PS cfg glK 197 [txW x] (.bool (decide (x.sign≠jOq x))):=by
 by_cases h:x.sign=jOq x
 ·skip
  exact gI 9 O (λR k0=>gC 0 O (zzq (w':=.int .i64 0) (kXq x hx) (by rw[if_pos h])) (gFa 0 O (gQ 4 O (y6q λq=>q h))))
 ·skip
  exact gI 9 O (λR k0=>gC 0 O (zzq (w':=.int .i64 110) (kXq x hx) (by rw[if_neg h])) (gTa 0 O (gQ 4 O (K4q h))))
theorem max_w(a b:Nat):W.int .i64 (match ltI (a:Int) (b:Int) with|true=>(b:Int)|false=>(a:Int))=W.int .i64 ((max a b:Nat):Int):=by
 congr 1
 by_cases h:(a:Int)<(b:Int)
 ·rw[ltI_iff.2 h,Nat.max_eq_right Xd]
 ·rw[ltI_not.2 h,Nat.max_eq_left Xd]
theorem cbody_s(ds:List Depo)(xs:List Tx)(f g:Bool)(hx:∀x∈xs,x.ok)(hd:ds.length<=140737488351232)(hn:xs.length<=140737488351232):PS cfg glK 129 [bodW ds xs f g] (.bool (decide (BodyM ds xs))):=by
 by_cases hm:ds.length<=16/\xs.length<=16
 ·have hc:=cntx_s (G:=glK) xs g 197 (λx=>x.sign≠jOq x) (λx h=>cbody1_s x (hx x h)) rfl Xd;by_cases hs:∃x∈xs,x.sign≠jOq x
  ·exact gI 15 O (λR k0=>gZ 0 O LMq (gZ 2 O LMq (gV (w':=.int .i64 ((max ds.length xs.length:Nat):Int)) 0 O (max_w _ _) (gT 0 O (congrArg not (ltI_not.2 Xd)) (gC 4 O (zzq (w':=.bool true) (hc) (by rw[decide_eq_true (hs)])) (gQ 6 O (y6q λq=>by obtain⟨x,h1,h2⟩:=hs;exact h2 (q.2.2 x h1))))))))
  ·exact gI 15 O (λR k0=>gZ 0 O LMq (gZ 2 O LMq (gV (w':=.int .i64 ((max ds.length xs.length:Nat):Int)) 0 O (max_w _ _) (gT 0 O (congrArg not (ltI_not.2 Xd)) (gC 4 O (zzq (w':=.bool false) (hc) (by rw[decide_eq_false (hs)])) (gQ 6 O (K4q ⟨hm.1,hm.2,λx h=>Classical.not_not.1 λq=>hs ⟨x,h,q⟩⟩)))))))
 ·exact gI 15 O (λR k0=>gZ 0 O LMq (gZ 2 O LMq (gV (w':=.int .i64 ((max ds.length xs.length:Nat):Int)) 0 O (max_w _ _) (gF 0 O (congrArg not (ltI_iff.2 Xd)) (gQ 11 O (y6q λq=>hm ⟨q.1,q.2.1⟩))))))
noncomputable def bodyN:W:=.agg 2 [.nils,.nils]
noncomputable def lkZ:W:=.agg 102 [hdW hdZ,.int .i64 0,bodyN,.nils]
@[simp] theorem lkZ_pur:purW lkZ=true:=by simp[lkZ,bodyN,purW,purL]
noncomputable def lkA(l:List Lk)(i:Nat):W:=match l[i]? with
 |some x=>lkG x
 |none=>lkZ
noncomputable def prevW(l:List Lk):Nat->W
 |0=>lkZ
 |i+1=>lkA l i
@[simp] theorem lkA_pur(l:List Lk)(i:Nat):purW (lkA l i)=true:=by unfold lkA;split<;>simp
@[simp] theorem prev_pur(l:List Lk)(i:Nat):purW (prevW l i)=true:=by cases i<;>simp[prevW]
noncomputable def encL(l:List Lk)(i:Nat):List W:=[lkA l i,prevW l i]
theorem encL_ok(l:List Lk){n:Nat}:∀y∈List.range n,purL (encL l y)=true/\(encL l y).length=2:=λy _=>⟨by simp[encL,purL],rfl⟩
theorem Yoq{n i:Nat}(h:i<n):(List.range n)[i]? =some i:=by rw[List.getElem?_range h]
theorem lkA_at{l:List Lk}{i:Nat}{x:Lk}(h:l[i]? =some x):lkA l i=lkG x:=by unfold lkA;rw[h]
theorem ceach_s(l:List Lk)(f:Bool):PS cfg G 67 [.fz (l.map lkG) 102 f] (.fn 137 [] [.fel (.fz (l.map lkG) 102 f)]):=by
 have hp:=q1q l;refine gI 13 O (λR k0=>?_);refine qvq (fr2:=[(2,_)]) Xt ?_ O O
 (repeat (first|exact trivial|refine And.symm ⟨?_,_,rfl,?_⟩))<;>(repeat (first|exact .nil|refine .cons ?_ ?_|refine .fn ?_ ?_|(refine yxq O ?_ rfl;(first|rfl|(focus (simp;done))))|(refine .sl O ?_ rfl Xi;(first|rfl|(focus (simp;done))))|(refine .pur ?_;(first|rfl|(focus (simp;done))))|refine .agg ?_|refine .arr ?_|refine .tup ?_))
theorem prev_agg(l:List Lk)(i:Nat):∃a b c d,prevW l i= .agg 102 [a,b,c,d]:=by
 cases i with
 |zero=>exact⟨_,_,_,_,rfl⟩
 |succ i=>
  show∃a b c d,lkA l i=_
  unfold lkA;split<;>exact⟨_,_,_,_,rfl⟩
theorem ceach_it(l:List Lk)(f:Bool)(hb:l.length<=4611686018427387903):qHq cfg G 137 [.fel (.fz (l.map lkG) 102 f)] ((List.range l.length).map (encL l)):=by
 refine xEq (fn:=Tryz.f137) O O O (Ob rfl) (λL E R hy k0=>?_);refine zBq 8 O (gZ 0 O LMq (zcq 4 O (co_ent (ent_blkv (b:=0) (w':=lkZ) rfl (.agg (.cons (.agg (.cons (.pur rfl) (.cons qpq (.cons qpq (.cons qpq (.cons (.pur rfl) .nil)))))) (.cons (.pur rfl) (.cons (.pur rfl) (.cons (.pur rfl) .nil)))))) ?_)));refine co_loopR (α:=Nat×Res) (λp=>p.1<=l.length/\Yl cfg G L E (((List.range l.length).drop p.1).map (encL l)) p.2) (λp=>[(8,.int .i64 (p.1:Int))]) [(0,_),(3,_),(6,_),(7,_)] (λp=>[(0,118,prevW l p.1)]) (λp=>p.2) (λp=>l.length-p.1) ((0,R)) ⟨rfl,rfl,rfl,rfl,trivial⟩ (⟨Nat.zero_le _,hy⟩) ⟨rfl,trivial⟩ O O (λp hI=>?_);obtain⟨i,R⟩:=p;obtain⟨hi,hy⟩:=hI;simp only at hi hy⊢;refine zBq 6 O ?_;refine gS 0 O (λh1=>?_) (λh1=>?_)
 ·have hi':i<l.length:=by omega
  obtain⟨x,hx⟩:∃x,l[i]? =some x:=⟨_,List.getElem?_eq_getElem hi'⟩
  rw[vrq (Yoq hi'),List.map_cons] at hy;have ex:=lkA_at hx;obtain⟨a,b,c,d,hp⟩:=prev_agg l i;have hv:purW (.agg 102 [a,b,c,d])=true:=hp▸prev_pur l i
  rw[show encL l i=[lkG x,.agg 102 [a,b,c,d]] by unfold encL;rw[ex,hp]] at hy;rw[hp];refine gP 6 O (zDq (i:=i) O O O O O O O (zqq lkG hx)) ?_;refine gSo 11 O (qIq O O O (hy) (λb R1 hb=>?_));refine gS 3 O (λh2=>?_) (λh2=>?_)
  ·cases b with
   |true=>cases h2
   |false=>
    exact yAq 4 O (yKq Xi (zyq 1 O (j9q Jp rfl hb)))
  ·cases b with
   |false=>exact absurd rfl h2
   |true=>
    refine yAq 9 O (gA 0 O (i+1) (zcq 2 O ?_));rw[show lkG x=prevW l (i+1) from ex.symm];exact Kwq ((i+1,R1)) (⟨hi',hb⟩) Ye (Nat.zero_le _) ⟨rfl,trivial⟩ ⟨rfl,rfl,rfl,rfl,trivial⟩ Xg Xg Xd Xj Xz rfl
 ·refine zcq 2 O (yKq Xi (zyq 1 O ?_));obtain rfl:i=l.length:=by omega
  rw[List.drop_of_length_le Xh] at hy;exact j9q (.inl rfl) rfl hy
structure OkC(c:Ch):Prop where
 body:∀x∈c.links,BodOk x.ds x.xs
 nodes:c.tree.nodes.length<=4611686018427387903
 len:c.links.length<=4611686018427387903
 recs:∀x∈c.links,x.rs.length<=4611686018427387903
theorem prev_hd(l:List Lk)(i:Nat):∃h r b s,prevW l i= .agg 102 [hdW h,r,b,s]/\(purL [hdW h,r,b,s]=true)/\∀z,0<i->l[i-1]? =some z->h=z.hdr:=by
 cases i with
 |zero=>exact⟨hdZ,_,_,_,rfl,prev_pur l 0,λz h=>absurd h Xm⟩
 |succ i=>
  cases hz:l[i]? with
  |none=>exact⟨hdZ,_,_,_,by show lkA l i=_;unfold lkA;rw[hz];rfl,lkZ_pur,λz _ h=>by rw[Nat.add_sub_cancel,hz] at h;cases h⟩
  |some x=>exact⟨x.hdr,_,_,_,by show lkA l i=_;unfold lkA;rw[hz];rfl,lkG_pur x,λz _ h=>by rw[Nat.add_sub_cancel,hz] at h;cases h;rfl⟩
theorem uNq(c:Ch)(hc:OkC c):PS cfg glK 61 [chG c] (.int .i64 (if MayC c then 0 else 8)):=by
 have e:(c.links.map lkG).length=c.links.length:=List.length_map _;have hl:=hc.len;refine gI 11 O (λR k0=>?_);refine gZ 0 O e ?_;refine gD 0 O (λh1=>?_) (λh1=>?_)
 ·have hno:¬MayC c:=λq=>by have:=q.one;omega
  exact gQ 31 O Yi
 obtain⟨z,hz⟩:∃z,c.links[c.links.length-1]? =some z:=⟨_,List.getElem?_eq_getElem Xd⟩
 refine gZ 3 O e ?_;refine gD 0 O (λh2=>?_) (λh2=>?_)
 ·have hno:¬MayC c:=λq=>by have:=q.len;omega
  exact gQ 26 O Yi
 refine gZ 9 O e ?_;refine gA 0 O (c.links.length-1) ?_;refine gP 0 O (zDq (i:=c.links.length-1) O O O O O O O (zqq lkG hz)) ?_;refine gU 2 O ?_;refine gS 3 O (λh3=>?_) (λh3=>?_)
 ·have hno:¬MayC c:=λq=>h3 (q.root z hz)
  exact gQ 7 O Yi
 refine gC 13 O (ceach_s _ _) ?_;refine zcq 3 O ?_;refine co_rangeG (encL c.links) (List.range c.links.length) (λi (a:Nat)=>a=i/\∀j x,j<i->c.links[j]? =some x->LkM c j x) (λa=>[(2,3,.int .i64 (a:Int)),(1,39,.int .i64 0),(0,27,chG c)]) (λ_=>R) (0) rfl Xk (ceach_it c.links false hc.len) (encL_ok c.links) (⟨rfl,λj x h=>by omega⟩) O O (λi a y hy hI=>?_) (λa hI=>?_)
 ·obtain⟨rfl,hI⟩:=hI;have hi:a<c.links.length:=by have:=jAq hy;simpa using this
  obtain rfl:a=y:=by rw[Yoq hi] at hy;exact Option.some.inj hy
  obtain⟨x,hx⟩:∃x,c.links[a]? =some x:=⟨_,List.getElem?_eq_getElem hi⟩
  obtain⟨ph,pr,pb,ps,hp,hpu,hph⟩:=prev_hd c.links a;have hpu:purW (.agg 102 [hdW ph,pr,pb,ps])=true:=hpu;rw[show encL c.links a=[lkG x,.agg 102 [hdW ph,pr,pb,ps]] by unfold encL;rw[lkA_at hx,hp]];have hB:=hc.body x (List.mem_of_getElem? hx);have er:(x.rs.map rcW).length=x.rs.length:=List.length_map _;refine zBq 10 O ?_;refine ZBq ?_;refine zBq 15 O ?_;refine gD 0 O (λh4=>?_) (λh4=>?_)
  ·have hno:¬MayC c:=λq=>h4 (q.link a x hx).height
   refine zcq 50 O ?_;refine j1q Xi ?_;refine zyq 2 O ?_;exact gQ 0 O Yi
  refine gC 2 O (vZq x.hdr) ?_;refine gD 0 O (λh5=>?_) (λh5=>?_)
  ·have hno:¬MayC c:=λq=>h5 (by rw[if_pos (q.link a x hx).hdr])
   refine zcq 46 O ?_;refine j1q Xi ?_;refine zyq 2 O ?_;exact gQ 0 O Yi
  have hok:okH x.hdr:=Classical.byContradiction λq=>h5 Qy
  refine gD 3 O (λh6=>?_) (λh6=>?_)
  ·refine gC 4 O (hfollows_d x.hdr ph) ?_;refine gB 0 O (λh7=>?_) (λh7=>?_)
   ·have hF:0<a->∀w,c.links[a-1]? =some w->FolB x.hdr w.hdr:=λh0 w hw=>hph w h0 hw▸h7
    refine gZ 6 O er ?_;refine gD 2 O (λh8=>?_) (λh8=>?_)
    ·have hno:¬MayC c:=λq=>h8 (q.link a x hx).recs
     refine zcq 27 O ?_;refine j1q Xi ?_;refine zyq 2 O ?_;exact gQ 0 O Yi
    refine gC 4 O (cbody_s x.ds x.xs false false hB.tx hB.dl hB.xl) ?_;refine gB 0 O (λh9=>?_) (λh9=>?_)
    ·refine gC 7 O (ver_s c.tree x.root) ?_;refine gC 0 O (jcq (verT c x.root) hc.nodes) ?_;refine gU 0 O ?_;refine gS 3 O (λh10=>?_) (λh10=>?_)
     ·have hno:¬MayC c:=λq=>h10 (by rw[if_pos (q.link a x hx).tree])
      refine zcq 8 O ?_;refine j1q Xi ?_;refine zyq 2 O ?_;exact gQ 0 O Yi
     ·have hA:MayA (verT c x.root):=Classical.byContradiction λq=>h10 Qy
      have hx2:LkM c a x:=⟨by omega,hok,λw h0 hw=>hF h0 w hw,by omega,h9,hA⟩;refine gWr 4 O ?_;refine zcq 3 O ?_;exact q_roundK (a+1) (⟨rfl,λj w hj hw=>by rcases Nat.lt_succ_iff_lt_or_eq.1 hj with q|rfl;exact hI j w q hw;exact Option.some.inj (hx.symm.trans hw)▸hx2⟩) Xd Xj Xz rfl
    ·have hno:¬MayC c:=λq=>h9 (q.link a x hx).body
     refine zcq 22 O ?_;refine j1q Xi ?_;refine zyq 2 O ?_;exact gQ 0 O Yi
   ·have hno:¬MayC c:=λq=>by
     obtain⟨w,hw⟩:∃w,c.links[a-1]? =some w:=⟨_,List.getElem?_eq_getElem Xd⟩
     exact h7 (hph w Xd hw▸(q.link a x hx).fol w Xd hw)
    refine zcq 37 O ?_;refine j1q Xi ?_;refine zyq 2 O ?_;exact gQ 0 O Yi
  ·have hF:0<a->∀w,c.links[a-1]? =some w->FolB x.hdr w.hdr:=λh0=>absurd h0 Xd
   refine gZ 11 O er ?_;refine gD 2 O (λh7=>?_) (λh7=>?_)
   ·have hno:¬MayC c:=λq=>h7 (q.link a x hx).recs
    refine zcq 27 O ?_;refine j1q Xi ?_;refine zyq 2 O ?_;exact gQ 0 O Yi
   refine gC 4 O (cbody_s x.ds x.xs false false hB.tx hB.dl hB.xl) ?_;refine gB 0 O (λh8=>?_) (λh8=>?_)
   ·refine gC 7 O (ver_s c.tree x.root) ?_;refine gC 0 O (jcq (verT c x.root) hc.nodes) ?_;refine gU 0 O ?_;refine gS 3 O (λh9=>?_) (λh9=>?_)
    ·have hno:¬MayC c:=λq=>h9 (by rw[if_pos (q.link a x hx).tree])
     refine zcq 8 O ?_;refine j1q Xi ?_;refine zyq 2 O ?_;exact gQ 0 O Yi
    ·have hA:MayA (verT c x.root):=Classical.byContradiction λq=>h9 Qy
     have hx2:LkM c a x:=⟨by omega,hok,λw h0 hw=>hF h0 w hw,by omega,h8,hA⟩;refine gWr 4 O ?_;refine zcq 3 O ?_;exact q_roundK (a+1) (⟨rfl,λj w hj hw=>by rcases Nat.lt_succ_iff_lt_or_eq.1 hj with q|rfl;exact hI j w q hw;exact Option.some.inj (hx.symm.trans hw)▸hx2⟩) Xd Xj Xz rfl
   ·have hno:¬MayC c:=λq=>h8 (q.link a x hx).body
    refine zcq 22 O ?_;refine j1q Xi ?_;refine zyq 2 O ?_;exact gQ 0 O Yi
 ·obtain⟨rfl,hI⟩:=hI;have yes:MayC c:=⟨by omega,by omega,λw hw=>by cases hz.symm.trans hw;omega,λj w hw=>hI j w (by have:=jAq hw;simpa using this) hw⟩;refine zyq 8 O ?_;exact gQ 0 O Yt
end
theorem fit_rc{w:W}(h:Fit (.st 34 [.int .u8,.arr 32 1 (.int .u8),.int .i64]) w):∃r:RcI,w=rcW r/\True:=by
 obtain⟨l,rfl,w1,l1,rfl,h1,w2,l2,rfl,h2,w3,l3,rfl,h3,rfl⟩:=h;obtain⟨k,rfl,_⟩:=fit_u8 h1;obtain⟨d,rfl⟩:=fit_dig h2;obtain⟨c,rfl,_⟩:=fit_i64 h3;exact⟨⟨k,d,c⟩,rfl,trivial⟩
theorem fit_link{w:W}(h:Fit (.st 102 [.st 98 [.int .i64,.arr 32 1 (.int .u8),.arr 32 1 (.int .u8),.arr 32 1 (.int .u8),.int .i64],.int .i64,.st 2 [.sl 34 48 (.st 34 [.int .u64,.arr 32 1 (.int .u8),.int .u64]),.sl 99 120 (.st 99 [.arr 32 1 (.int .u8),.arr 32 1 (.int .u8),.int .u64,.int .u64,.int .u64,.arr 32 1 (.int .u8)])],.sl 34 48 (.st 34 [.int .u8,.arr 32 1 (.int .u8),.int .i64])]) w):∃x:Lk,w=lkG x/\BodOk x.ds x.xs/\x.rs.length<=4611686018427387903:=by
 obtain⟨l,rfl,w1,l1,rfl,h1,w2,l2,rfl,h2,w3,l3,rfl,h3,w4,l4,rfl,h4,rfl⟩:=h;obtain⟨p,rfl,_⟩:=fit_hdr h1;obtain⟨r,rfl,_⟩:=fit_i64 h2;obtain⟨ds,xs,rfl,hB⟩:=fit_body h3;obtain⟨rs,rfl,hl,_⟩:=fit_sl h4 λx hx=>fit_rc hx
 exact⟨⟨p,r,ds,xs,rs⟩,rfl,hB,by show rs.length<=_;omega⟩
theorem fit_chain{w:W}(h:Fit (.st 3 [.st 2 [.sl 36 80 (.st 36 [.bool,.arr 32 1 (.int .u8),.sl 1 1 (.int .u8),.int .i64,.int .i64]),.int .i64],.sl 102 192 (.st 102 [.st 98 [.int .i64,.arr 32 1 (.int .u8),.arr 32 1 (.int .u8),.arr 32 1 (.int .u8),.int .i64],.int .i64,.st 2 [.sl 34 48 (.st 34 [.int .u64,.arr 32 1 (.int .u8),.int .u64]),.sl 99 120 (.st 99 [.arr 32 1 (.int .u8),.arr 32 1 (.int .u8),.int .u64,.int .u64,.int .u64,.arr 32 1 (.int .u8)])],.sl 34 48 (.st 34 [.int .u8,.arr 32 1 (.int .u8),.int .i64])])]) w):∃c:Ch,w=chG c/\OkC c:=by
 obtain⟨l,rfl,w1,l1,rfl,h1,w2,l2,rfl,h2,rfl⟩:=h;obtain⟨t,rfl,ht,_⟩:=fit_tree h1;obtain⟨ls,rfl,hl,hx⟩:=fit_sl h2 λx hx=>fit_link hx
 exact⟨⟨t,ls⟩,rfl,λx h=>(hx x h).1,by show t.nodes.length<=_;omega,by show ls.length<=_;omega,λx h=>(hx x h).2⟩
theorem fit_view{w:W}(h:Fit (.st 6 [.int .i64,.bool,.int .i64,.st 3 [.st 2 [.sl 36 80 (.st 36 [.bool,.arr 32 1 (.int .u8),.sl 1 1 (.int .u8),.int .i64,.int .i64]),.int .i64],.sl 102 192 (.st 102 [.st 98 [.int .i64,.arr 32 1 (.int .u8),.arr 32 1 (.int .u8),.arr 32 1 (.int .u8),.int .i64],.int .i64,.st 2 [.sl 34 48 (.st 34 [.int .u64,.arr 32 1 (.int .u8),.int .u64]),.sl 99 120 (.st 99 [.arr 32 1 (.int .u8),.arr 32 1 (.int .u8),.int .u64,.int .u64,.int .u64,.arr 32 1 (.int .u8)])],.sl 34 48 (.st 34 [.int .u8,.arr 32 1 (.int .u8),.int .i64])])]]) w):∃v:Vw,w=vwG v/\OkC v.ch/\(-9223372036854775808<=v.number/\v.number<=9223372036854775807)/\(-9223372036854775808<=v.final/\v.final<=9223372036854775807):=by
 obtain⟨l,rfl,w1,l1,rfl,h1,w2,l2,rfl,h2,w3,l3,rfl,h3,w4,l4,rfl,h4,rfl⟩:=h;obtain⟨n,rfl,hn⟩:=fit_i64 h1;obtain⟨b,rfl⟩:=fit_bool h2;obtain⟨f,rfl,hf⟩:=fit_i64 h3;obtain⟨c,rfl,hc⟩:=fit_chain h4;exact⟨⟨n,b,f,c⟩,rfl,hc,hn,hf⟩
section
attribute [local irreducible] CoW OpW FlW Step Spec
noncomputable def freeB(l:List Oper)(fr:FrW):Bool:=l.all λo=>match o.dst with
 |none=>true
 |some d=>fr.all λp=>!Nat.beq p.1 d
theorem ulq{S:Self}{C:Cfg}{ops:Array Oper}:∀(l:List Oper) {fr:Tr V} {h:Heap} {r:Tr V×Heap},qFq S C ops l fr h=some r->∀k,(∀o∈l,o.dst≠some k) ->r.1.get k=fr.get k
 |[],fr,h,r,e,k,_=>by simp only[qFq] at e;cases e;rfl
 |o::l,fr,h,r,e,k,hk=>by
  have key:∀v:V,(putT fr o.dst v).get k=fr.get k:=λv=>by
   have h1:=hk o (List.mem_cons_self ..);cases hd:o.dst with
   |none=>rfl
   |some d=>
    rw[hd] at h1;simp only[putT,Tr.get_set];rw[if_neg λq=>h1 Jf]
  simp only[qFq] at e;split at e
  ·split at e
   ·rw[ulq l e k λo ho=>hk o (List.mem_cons_of_mem _ ho),key]
   ·cases e
  ·rw[ulq l e k λo ho=>hk o (List.mem_cons_of_mem _ ho),key]
  ·cases e
theorem free_ne{l:List Oper}{fr:FrW}(h:freeB l fr=true){k:Nat}{w:W}(hk:getW fr k=some w):∀o∈l,o.dst≠some k:=λo ho e=>by
 unfold freeB at h;have h1:=List.all_eq_true.1 h o ho;rw[e] at h1;have h2:=List.all_eq_true.1 h1
 have:∀{fr:FrW},getW fr k=some w->∃p∈fr,p.1=k:=λ{fr}=>by
  induction fr with
  |nil=>intro h;cases h
  |cons p l ih=>
   obtain⟨c,y⟩:=p;intro h;simp only[getW] at h;split at h
   ·rename_i q;exact⟨(c,y),List.mem_cons_self ..,Nat.eq_of_beq_eq_true q⟩
   ·obtain⟨p,h1,h2⟩:=ih h;exact⟨p,List.mem_cons_of_mem _ h1,h2⟩
 obtain⟨p,hp,e2⟩:=this hk;have:=h2 p hp;rw[e2,Nat.beq_refl] at this;cases this
section
variable {C:Cfg} {G:Nat->Option W} {m:Nat} {ops:Array Oper} {l:List Oper} {fr fr2:FrW} {hp:HpW} {nw:Nat} {R:Res} {K:FrW->HpW->Nat->Res->Prop}
theorem op_look(t:Nat)(fr2:FrW)(hv:subV (blkA hp) fr fr2)(hp2:(fr2.all λp=>purW p.2)=true)(hfr:freeB l fr=true)(h:OpW C G 0 ops l fr2 [] 0 Res.none λfr' _ _ _=>∃w,getW fr' t=some w/\k6q w=true/\OpW C G m ops [] ((t,w)::fr) hp nw R K):OpW C G m ops l fr hp nw R K:=by
 unfold OpW at h⊢;intro Γ X frv hnw hm s hf;subst hnw
 have hlt:∀{b y},hget hp b=some y->Γ.σ b<Γ.h.next:=λ{b y} h=>by
  obtain⟨_,_,_,u,h1,_⟩:=s.own b y.1 y.2 h;rcases Nat.lt_or_ge (Γ.σ b) Γ.h.next with h|h
  ·exact h
  ·rw[s.wf _ h] at h1;cases h1
 let Γ0:Ctx:=⟨0,Γ.σ,λc=>Γ.D c\/Owns Γ hp c,Γ.h⟩
 have s0:SatH C G Γ0 [] (λ_=>False) Res.none:=⟨s.wf,λb ty w h=>by simp[hget] at h,λb c x y h=>by simp[hget] at h,List.nodup_nil,λ_ _ h=>h,λ_ h=>h.elim,λd hd=>by
  rcases hd with h|⟨b,y,h1,rfl⟩
  ·exact s.dlt d h
  ·exact hlt h1,trivial,λg w h1 h2 n τ=>RV.mono (Γ:=⟨n,τ,Γ.D,Γ.h⟩) (Γ':=⟨n,τ,λc=>Γ.D c\/Owns Γ hp c,Γ.h⟩) ⟨Nat.le_refl _,λ_ _=>rfl,λ_ h=>.inl h,λ_ _=>rfl⟩ (s.gl g w h1 h2 n τ)⟩
 let Γs:Ctx:=⟨Γ.nw,Γ.σ,λc=>Γ.D c\/Owns Γ hp c,Γ.h⟩
 have q:Seen (blkA hp) Γ Γs:=⟨λ_ h _=>h,λ_ _ _=>rfl,λ_ h=>.inl h,λ_ _=>rfl,λb c _ h=>by
  unfold blkA at h;split at h
  ·rename_i ty c' hg;cases h;obtain⟨v,h1,h2,h3⟩:=j2q s hg;exact⟨.inr ⟨b,_,hg,rfl⟩,v,h2,h3⟩
  ·cases h⟩
 have hf0:FRel Γ0 fr2 frv:=λk w hk=>by
  obtain⟨w0,h1,h2⟩:=xiq hv k w hk;obtain⟨v,h3,h4⟩:=hf k w0 h1;have h5:=uyq q (.cons h2 .nil) (vs:=[v]) (by simp only[RVL];exact⟨v,[],rfl,h4,rfl⟩);simp only[RVL] at h5;obtain⟨v',vs',e,h6,_⟩:=h5;cases e
  have hpw:purW w=true:=by
   have:∀{fr:FrW},(fr.all λp=>purW p.2)=true->getW fr k=some w->purW w=true:=λ{fr}=>by
    induction fr with
    |nil=>intro _ h;cases h
    |cons p l ih=>
     obtain⟨c,y⟩:=p;intro ha h;simp only[List.all_cons,Bool.and_eq_true] at ha;simp only[getW] at h;split at h
     ·cases h;exact ha.1
     ·exact ih ha.2 h
   exact this hp2 hk
  exact⟨v,h3,h6.1,Q1q (Γ:=Γs) (Γ':=Γ0) (λ_ h=>h) (λ_ _=>rfl) hpw h6.2⟩
 obtain⟨n,frv',Γ1,X1,fr',hp1,R1,g1,g2,g3,g4,w,k1,k2,k3⟩:=h Γ0 (λ_=>False) frv rfl (Nat.le_refl _) s0 hf0;have keep:∀{c},c<Γ.h.next->Γ1.h.get c=Γ.h.get c:=λ{c} h=>g4.keep c h (λ⟨b,x,h1,_⟩=>by simp[hget] at h1) (λh=>h)
 let Γ':Ctx:=⟨Γ.nw,Γ.σ,Γ.D,Γ1.h⟩
 have le:Γ.Le Γ':=⟨Nat.le_refl _,λ_ _=>rfl,λ_ h=>h,λc hc=>qaq (keep (s.dlt c hc))⟩
 have hw:∀k,k<=Γ.h.wmin->k<=Γ.h.next->k<=Γ1.h.wmin:=λk h1 h2=>g4.wmin k h1 h2 λc hc=>by
  rcases hc with ⟨b,x,h1,_⟩|hc
  ·simp[hget] at h1
  ·exact hc.elim
 have s':SatH C G Γ' hp X R:=⟨g2.wf,λb ty w h=>by
  obtain⟨q1,q2,q3,u,q4,q5⟩:=s.own b ty w h;exact⟨q1,q2,q3,u,(keep (hlt h)).trans q4,q5.mono le⟩,s.inj,s.nd,s.dX,λc hc=>Nat.lt_of_lt_of_le (s.xlt c hc) g4.next,λc hc=>Nat.lt_of_lt_of_le (s.dlt c hc) g4.next,R.st _ _ _ _ _ s.res le.D le.val (λc hc=>keep (s.xlt c hc)) g4.next,s.gl.mono le⟩
 have f':Frm m Γ hp X Γ' hp X:=⟨λ_ _=>rfl,λh=>h,g4.next,λc h _ _=>keep h,λ_ h=>h,λ_ h=>.inl h,λ_ x _ h=>⟨x,h⟩,λb x hb h=>.inr ⟨b,x,hb,h,rfl⟩,λ_ h=>.inl h,λk h1 h2 _=>hw k h1 h2⟩
 have hf':FRel Γ' ((t,w)::fr) frv':=λk u hk=>by
  simp only[getW] at hk;split at hk
  ·rename_i e;cases hk;obtain rfl:=Nat.eq_of_beq_eq_true e;obtain⟨v,h1,h2⟩:=g3 _ _ k1;exact⟨v,h1,RV_flat k2 h2⟩
  ·obtain⟨v,h1,h2⟩:=hf k u hk;exact⟨v,by rw[ulq l g1 k (free_ne hfr hk)];exact h1,h2.mono le⟩
 obtain⟨n',frv2,Γ2,X2,fr2',hp2',R2',a1,a2,a3,a4,a5⟩:=k3 Γ' X frv' rfl hm s' hf';simp only[qFq,Option.some.injEq,Prod.mk.injEq] at a1;obtain⟨rfl,e⟩:=a1;exact⟨n,frv',Γ2,X2,fr2',hp2',R2',by rw[<-e];exact g1,a2,a3,f'.trans a4,a5⟩
theorem hget_in{k:Nat}{y:TypeId×W}:∀{P:HpW},hget P k=some y->∃p∈P,p.1=k
 |[],h=>by simp[hget] at h
 |(c,x)::P,h=>by
  rw[zkq] at h;split at h
  ·rename_i e;exact⟨_,List.mem_cons_self ..,e⟩
  ·obtain⟨p,h1,h2⟩:=hget_in h;exact⟨p,List.mem_cons_of_mem _ h1,h2⟩
theorem hget_past{b:Nat}{P Q:HpW}(h:∀p∈P,p.1≠b):hget (P++Q) b=hget Q b:=by rw[kJq,q8q h];rfl
theorem ent_mv{k0:Nat}{A X Y:HpW}(nd:((A++(Y++X)).map (·.1)).Nodup):Ent C G m k0 fr ((A++X)++Y) nw R fr (Y++X) nw R:=by
 rw[List.map_append,List.nodup_append] at nd;obtain⟨_,n2,n3⟩:=nd;have n4:=n2;rw[List.map_append,List.nodup_append] at n4;obtain⟨_,_,n5⟩:=n4;refine K2q (λk y h=>?_) n2;obtain⟨p,hp,rfl⟩:=hget_in h;rw[List.append_assoc,hget_past λq hq e=>n3 q.1 (List.mem_map_of_mem hq) p.1 (List.mem_map_of_mem hp) e];rw[kJq] at h⊢;cases hY:hget Y p.1 with
 |none=>rw[hY] at h;rw[show hget X p.1=some y from h];rfl
 |some z=>
  rw[hY] at h;obtain⟨q,hq,e⟩:=hget_in hY;rw[q8q λr hr e2=>n5 q.1 (List.mem_map_of_mem hq) r.1 (List.mem_map_of_mem hr) (e.trans e2.symm)];exact h▸rfl
theorem subRH_g{τ:Nat->Nat}{n c e:Nat}{ty:TypeId}{L:List W}(hc:c<n)(hl:purL L=true)(hg:∀x r,L=x::r->hget hp (τ c)=some (ty,.arr ((x::r).length*e) e (x::r))):J8q τ n hp (gH c ty e L):=by
 cases L with
 |nil=>trivial
 |cons x r=>
  have hpa:purW (.arr ((x::r).length*e) e (x::r))=true:=hl;exact⟨⟨hc,by rw[zeq hpa];exact hg x r rfl,zbq hpa⟩,trivial⟩
end
end
section
variable {C:Cfg} {G:Nat->Option W} {o:Oper} {fr:FrW} {hp:HpW} {nw:Nat} {R:Res} {post:W->HpW->Nat->Res->Option EvW->Prop}
theorem step_frz1{w w2 c:W}{ty:TypeId}(h:opHW C G fr hp nw o.op=some (w,(nw,ty,c)::hp,nw+1,.gen))(hc:purW c=true)(hv:View (blk1 nw c) w w2)(hpost:post w2 hp (nw+1) R (some .gen)):Step C G o fr hp nw R post:=λΓ X frv hnw s hf=>by
 subst hnw;obtain⟨v,h',Γ',h1,h2,h3,h4⟩:=opH_sim (rt:=o.type) hf s h;have sat:=h3.sat;have hb:hget ((Γ.nw,ty,c)::hp) Γ.nw=some (ty,c):=by rw[zkq,if_pos rfl]
 obtain⟨p1,p2,p3,u,p4,p5⟩:=sat.own _ _ _ hb;let Γ2:Ctx:=⟨Γ'.nw,Γ'.σ,λd=>Γ'.D d\/d=Γ'.σ Γ.nw,Γ'.h⟩
 have le:Γ'.Le Γ2:=⟨Nat.le_refl _,λ_ _=>rfl,λ_ h=>.inl h,λ_ _=>rfl⟩
 have q:Seen (blk1 Γ.nw c) Γ' Γ2:=⟨λ_ h _=>h,λ_ _ _=>rfl,λ_ h=>.inl h,λ_ _=>rfl,λk c' hk h=>by
  unfold blk1 at h;split at h
  ·rename_i e;rw[Nat.beq_eq] at e;subst e;cases h;exact⟨.inr rfl,u,Zoq p4,p5⟩
  ·cases h⟩
 have hlt:Γ'.σ Γ.nw<Γ'.h.next:=by
  rcases Nat.lt_or_ge (Γ'.σ Γ.nw) Γ'.h.next with h|h
  ·exact h
  ·rw[sat.wf _ h] at p4;cases p4
 have hsub:∀k x,hget hp k=some x->k<Γ.nw/\hget ((Γ.nw,ty,c)::hp) k=some x:=λk x hk=>by
  have:=(s.own k x.1 x.2 hk).1;exact⟨this,by rw[zkq,if_neg Xd];exact hk⟩
 refine⟨0,w2,hp,R,some .gen,v,h',Γ2,X,?_,by simp only[opV,h1,h2],⟨h1,h4⟩,h3.hh,⟨Nat.le_trans h3.le.nw le.nw,h3.le.σ,λd h=>.inl (h3.le.D d h),h3.le.val⟩,⟨sat.wf,λk ty' w hk=>?_,λk k' x y hx hy e=>?_,s.nd,λd hd hX=>?_,sat.xlt,λd hd=>?_,R.st _ _ _ _ _ sat.res le.D le.val (λ_ _=>rfl) (Nat.le_refl _),sat.gl.mono le⟩,⟨h3.frm.sig,h3.frm.mle,h3.frm.next,h3.frm.keep,λd h=>.inl (h3.frm.dsub d h),λd hd=>?_,λk x _ hk=>⟨x,hk⟩,λk x hm hk=>?_,λ_ h=>.inl h,h3.frm.wmin⟩,jZq q hv h3.val⟩
 ·show post w2 hp Γ'.nw R _;rw[h3.nw];exact hpost
 ·obtain⟨g1,g2⟩:=hsub k _ hk;obtain⟨q1,q2,q3,u,q4,q5⟩:=sat.own _ _ _ g2;exact⟨q1,λh=>h.elim q2 λe=>by have:=sat.inj k _ _ _ g2 hb e;omega,q3,u,q4,q5.mono le⟩
 ·exact sat.inj _ _ _ _ (hsub k _ hx).2 (hsub k' _ hy).2 e
 ·rcases hd with h|rfl
  ·exact sat.dX d h hX
  ·exact p3 hX
 ·rcases hd with h|rfl
  ·exact sat.dlt d h
  ·exact hlt
 ·rcases hd with h|rfl
  ·exact h3.frm.dnew d h
  ·rcases h3.frm.onum Γ.nw _ (Nat.le_refl _) hb with h|⟨k,y,g1,g2,g3⟩
   ·exact .inr (.inr h)
   ·exact .inr (.inl (.inl ⟨k,y,g2,g3⟩))
 ·have:=(hsub k _ hk).1;omega
theorem step_nilz{w w2:W}(h:opHW C G fr hp nw o.op=some (w,hp,nw,.gen))(hv:View (λ_=>none) w w2)(hpost:post w2 hp (nw+1) R (some .gen)):Step C G o fr hp nw R post:=λΓ X frv hnw s hf=>by
 subst hnw;obtain⟨v,h',Γ',h1,h2,h3,h4⟩:=opH_sim (rt:=o.type) hf s h;have sat:=h3.sat;let Γ2:Ctx:=⟨Γ'.nw+1,Γ'.σ,Γ'.D,Γ'.h⟩
 have le:Γ'.Le Γ2:=⟨Nat.le_succ _,λ_ _=>rfl,λ_ h=>h,λ_ _=>rfl⟩;refine⟨0,w2,hp,R,some .gen,v,h',Γ2,X,?_,by simp only[opV,h1,h2],⟨h1,h4⟩,h3.hh,⟨Nat.le_trans h3.le.nw le.nw,h3.le.σ,h3.le.D,h3.le.val⟩,⟨sat.wf,λk ty' w hk=>?_,sat.inj,s.nd,sat.dX,sat.xlt,sat.dlt,R.st _ _ _ _ _ sat.res le.D le.val (λ_ _=>rfl) (Nat.le_refl _),sat.gl.mono le⟩,⟨h3.frm.sig,λh=>Nat.le_trans (h3.frm.mle h) (Nat.le_succ _),h3.frm.next,h3.frm.keep,h3.frm.dsub,h3.frm.dnew,h3.frm.oext,h3.frm.onum,λ_ h=>.inl h,h3.frm.wmin⟩,jZq (show Seen (λ_=>none) Γ' Γ2 from⟨λ_ h _=>Nat.lt_succ_of_lt h,λ_ _ _=>rfl,λ_ h=>h,λ_ _=>rfl,λ_ _ _ h=>Qg⟩) hv h3.val⟩
 ·show post w2 hp (Γ'.nw+1) R _;rw[h3.nw];exact hpost
 ·obtain⟨q1,q2,q3,u,q4,q5⟩:=sat.own _ _ _ hk;exact⟨Nat.lt_of_lt_of_le q1 (Nat.le_succ _),q2,q3,u,q4,q5.mono le⟩
theorem uCq{x y:Operand}{ts tx ty:TypeId}{j k:TyI}{e:Nat}{v:W}{news:List W}(ho:o.op= .call ⟨.builtin .append, #[x,y], #[ts,tx]⟩)(hx:evW C G fr x=some .nils)(hy:evW C G fr y=some v)(hj:C.ty ts=some j)(hd:j.d= .slice ty)(hk:C.ty ty=some k)(he:k.size=e)(hz:Nat.beq k.size 0=false)(hs:srcW C hp tx k.size v=some news)(hpu:purL news=true)(h1:news.length*k.bytes<=140737488355328)(h2:news.length<=70368744177664)(h:post (.fz news e false) hp (nw+1) R (some .gen)):Step C G o fr hp nw R post:=by
 subst he
 have hk0:0<k.size:=by
  rcases Nat.eq_zero_or_pos k.size with q|q
  ·rw[q] at hz;cases hz
  ·exact q
 cases news with
 |nil=>exact step_nilz (by rw[ho];exact zKq hx hy (YHq hj hd hk hz hs)) .nilfz h
 |cons z zs=>
  exact step_frz1 (by rw[ho];exact zKq hx hy (j7q hj hd hk hz hs Xh h1 h2)) (show purW (.arr _ _ (z::zs))=true from hpu) (.sl (full:=false) (c:=.arr ((z::zs).length*k.size) k.size (z::zs)) (by unfold blk1;rw[Nat.beq_refl]) hpu (zfq hk0 O O) Xi) h
end
section
attribute [local irreducible] CoW OpW FlW Step Spec
variable {G:Nat->Option W}
theorem half_pow(x:Nat){j:Nat}(h1:1<=j)(h2:j<=7):x/2^(7-j)/2=x/2^(7-(j-1)):=by
 rw[Nat.div_div_eq_div_mul,<-Nat.pow_succ,show(7-j).succ=7-(j-1) by omega]
theorem Ktq(k:Dig)(i:Nat)(h:i<256):PS cfg G 253 [dW k,.int .i64 (i:Int)] (.int .u8 (bitN k i:Nat)):=by
 have hk:=vfq k (i/8);refine gI 9 O (λR k0=>gA 0 O (i/8) (e:=(kFq i 8)) (gP 0 O (yTq (i:=i/8) O O O O O O Xd) (gM 0 O (zMq O O O (dW_ld k Xd)) ?_)));refine gLo (α:=Nat×Nat) 10 (λp=>p.1<=7/\i%8<=p.1/\p.2=kn k (i/8)/2^(7-p.1)/\p.2<=255) (λp=>[(6,.int .i64 (p.1:Int)),(5,.int .u8 (p.2:Nat))]) [1,4] (λp=>p.1) ((7,kn k (i/8))) rfl (⟨Nat.le_refl _,by show i%8<=7;omega,by simp,hk⟩) (λp hI=>?_);obtain⟨j,c⟩:=p;obtain⟨g1,g2,g3,g4⟩:=hI;simp only at g1 g2 g3 g4⊢;refine gV 5 O (congrArg (W.int .i64) (xhq i 8)) ?_;refine gS 3 O (λh1=>?_) (λh1=>?_)
 ·have hj:i%8<j:=by omega
  exact gA 6 O (c/2) (e:=(kFq c 2)) (gA 6 O (j-1) (gAg 2 O ((j-1,c/2)) (⟨by simp only;omega,by simp only;omega,by simp only[g3];exact half_pow _ Xd g1,by simp only;omega⟩) Ye))
 ·have hj:i%8=j:=by omega
  refine gO 2 O (gV (w':=.int .u8 ((c%2:Nat):Int)) 5 O (congrArg (W.int .u8) (xhq c 2)) (gQ 4 O ?_));rw[g3,<-hj];unfold bitN;rfl
theorem rshared_s(a b:Dig):PS cfg G 308 [dW a,dW b] (.int .i64 (zYq a b:Nat)):=by
 refine gI 14 O (λR k0=>?_);refine gLo (α:=Nat) 0 (λn=>n<=256/\∀j,j<n->bitN a j=bitN b j) (λn=>[(5,.int .i64 (n:Int))]) [2,3,4] (λn=>256-n) (0) rfl (⟨Nat.zero_le _,λj h=>by omega⟩) (λn hI=>?_);obtain⟨g1,g2⟩:=hI;refine gD 4 O (λh1=>?_) (λh1=>?_)
 ·have hn:n<256:=by omega
  refine gC 3 O (Ktq _ _ Xd) (gC 2 O (Ktq _ _ Xd) (gU 0 O ?_));refine gS 3 O (λh2=>?_) (λh2=>?_)
  ·exact gA 5 O (n+1) (gAg 3 O (n+1) (⟨hn,λj hj=>by rcases Nat.lt_succ_iff_lt_or_eq.1 hj with q|rfl;exact g2 j q;omega⟩) Xd)
  ·refine gO 2 O (gQ 9 O ?_);rw[u2q (kqq a b) (t:=n) ⟨g2,.inr ⟨hn,by omega⟩⟩]
 ·have hn:n=256:=by omega
  refine gO 14 O (gQ 9 O ?_);rw[u2q (kqq a b) (t:=n) ⟨g2,.inl hn⟩]
theorem rahead_s(a b:Dig):PS cfg G 326 [dW a,dW b] (.bool (zLq a b)):=by
 refine gI 11 O (λR k0=>gC 0 O (rshared_s _ _) ?_);refine gD 6 O (λh1=>?_) (λh1=>?_)
 ·have hn:zYq a b<256:=by omega
  refine gC 3 O (Ktq _ _ Xd) (gC 2 O (Ktq _ _ Xd) (gU 0 O (gQ 5 O ?_)));rw[Xcq];exact congrArg W.bool (decide_eq_decide.2 Xd)
 ·refine gQ 13 O ?_;rw[Xcq,decide_eq_false (show¬(zYq a b<256/\bitN a (zYq a b)<bitN b (zYq a b)) by omega)]
theorem xor_sub:∀x,x<256->∀e,e<8->x/2^e%2=1->2^e<=x/\x^^^2^e=x-2^e:=by decide+kernel
theorem xor_add:∀x,x<256->∀e,e<8->¬x/2^e%2=1->x+2^e<256/\x^^^2^e=x+2^e:=by decide+kernel
theorem rturn_in(k:Dig)(i:Nat)(h:i<256):PS cfg G 309 [dW k,.int .i64 (i:Int)] (.tup [dW (qzq k i),.int .i64 0]):=by
 have hk:=vfq k (i/8);refine gI 11 O (λR k0=>?_);refine gD 0 O (λh1=>?_) (λh1=>?_)
 ·exfalso;omega
 refine gU 2 O ?_;refine gS 3 O (λh2=>?_) (λh2=>?_)
 ·exfalso;omega
 refine gLo (α:=Nat×Nat) 14 (λp=>p.1<=7/\i%8<=p.1/\p.2=2^(7-p.1)) (λp=>[(7,.int .i64 (p.1:Int)),(6,.int .u8 (p.2:Nat))]) [1,2,4,5] (λp=>p.1) ((7,1)) rfl (⟨Nat.le_refl _,by show i%8<=7;omega,rfl⟩) (λp hI=>?_);obtain⟨j,c⟩:=p;obtain⟨g1,g2,g3⟩:=hI;simp only at g1 g2 g3⊢;refine gV 5 O (congrArg (W.int .i64) (xhq i 8)) ?_;refine gS 3 O (λh3=>?_) (λh3=>?_)
 ·have hj:i%8<j:=by omega
  have hc:2*c<=255:=by
   have:=pow_le (j-1);rw[show 7-(j-1)=7-j+1 by omega,Nat.pow_succ] at this;omega
  exact gA 6 O (2*c) (gA 6 O (j-1) (gAg 2 O ((j-1,2*c)) (⟨by simp only;omega,by simp only;omega,by simp only[g3];rw[show 7-(j-1)=7-j+1 by omega,Nat.pow_succ,Nat.mul_comm]⟩) Ye))
 ·have hj:i%8=j:=by omega
  subst hj;refine gO 2 O (gC 7 O (Ktq _ _ Xd) ?_);refine gS 3 O (λh4=>?_) (λh4=>?_)
  ·have hb:kn k (i/8)/2^(7-i%8)%2=1:=by
    have h4:((bitN k i:Nat):Int)=1:=h4;unfold bitN at h4;omega
   obtain⟨q1,q2⟩:=xor_sub _ Xd _ Xd hb;refine gA 2 O (i/8) (e:=(kFq i 8)) (gP 0 O (yTq (i:=i/8) O O O O O O Xd) (gM 0 O (zMq O O O (dW_ld k Xd)) (gA 1 O (kn k (i/8) -c) (gP 0 O (yTq (i:=i/8) O O O O O O Xd) (gM 0 O (y7q O O O O O (qEq (i:=0+i/8*1) Qp O O) rfl) (gQ 10 O ?_))))));rw[Nat.zero_add,Nat.mul_one,dW_set k (i/8) Xd,g3,<-q2];unfold qzq;rfl
  ·have hb:¬kn k (i/8)/2^(7-i%8)%2=1:=by
    have h4:¬((bitN k i:Nat):Int)=1:=h4;unfold bitN at h4;omega
   obtain⟨q1,q2⟩:=xor_add _ Xd _ Xd hb;refine gA 2 O (i/8) (e:=(kFq i 8)) (gP 0 O (yTq (i:=i/8) O O O O O O Xd) (gM 0 O (zMq O O O (dW_ld k Xd)) (gA 1 O (kn k (i/8)+c) (gP 0 O (yTq (i:=i/8) O O O O O O Xd) (gM 0 O (y7q O O O O O (qEq (i:=0+i/8*1) Qp O O) rfl) (gQ 10 O ?_))))));rw[Nat.zero_add,Nat.mul_one,dW_set k (i/8) Xd,g3,<-q2];unfold qzq;rfl
theorem rvalue_s(l:List UInt8)(f:Bool):PS cfg G 307 [.fz (zaq l) 1 f] (.bool (valB l)):=by
 have e:=zdq l;refine gI 8 O (λR k0=>gV (w':=.int .i64 (l.length:Int)) 0 O Xv ?_);refine gD 0 O (λh1=>?_) (λh1=>?_)
 ·have h0:0<l.length:=by omega
  refine gV (w':=.int .i64 (l.length:Int)) 2 O Xv (gU 0 O (gQ 5 O ?_));unfold valB;rw[decide_eq_true h0,Bool.true_and];exact congrArg W.bool (decide_eq_decide.2 Xd)
 ·have h0:¬0<l.length:=by omega
  refine gQ 9 O ?_;unfold valB;rw[decide_eq_false h0,Bool.false_and]
theorem x5q(l:List UInt8)(f:Bool)(hl:l.length<=70368744177664):PS cfg G 153 [.fz (zaq l) 1 f] (bW l):=by
 refine ps_inV (fn:=Tryz.f153) O O O (Ob rfl) (λR k0=>?_);cases l with
 |nil=>
  skip
  refine zBq 14 O (gM 0 O (zKq O O (YHq O O O O O)) (zcq 4 O (quq Xt O ?_)))
  (repeat (first|exact .nil|refine .cons ?_ ?_|exact qpq|exact .nilfz|refine .fn ?_ ?_|(refine yxq O ?_ rfl;(first|rfl|(focus (simp;done))))|(refine .sl O ?_ rfl Xi;(first|rfl|(focus (simp;done))))|(refine .pur ?_;(first|rfl|(focus (simp;done))))|(refine .fzw ?_;(first|rfl|(focus (simp;done))))|refine .agg ?_|refine .arr ?_|refine .tup ?_))
 |cons c l=>
  simp only[List.length_cons] at hl;exact zBq 14 O (gM 0 O (zKq O O (j7q (news:=zaq (c::l)) (k:=ti5) O O O O O Ql (by show(zaq (c::l)).length*1<=_;rw[zdq];simp only[List.length_cons];omega) (by rw[zdq];simp only[List.length_cons];omega))) (zcq 4 O (quq Xt O (view_sl Xm rfl Xh))))
@[simp] theorem psW_drop(ps:List Pr)(i:Nat):purL ((ps.map pW).drop i)=true:=by rw[<-List.map_drop];exact qLq _
@[simp] theorem psW_take(ps:List Pr)(i:Nat):purL ((ps.map pW).take i)=true:=by rw[<-List.map_take];exact qLq _
theorem rptwin_s(ps:List Pr)(f:Bool)(hb:ps.length<=1000000000)(hv:∀x∈ps,x.2.length<=70368744177664):PS cfg G 344 [.fz (ps.map pW) 33 f] (psW ps):=by
 have e:(ps.map pW).length=ps.length:=List.length_map _;refine gIv 17 O (λR k0=>?_);refine kMq (α:=Nat) (λi=>i<=ps.length) 3 (λi=>(ps.take i).map pW) 149 33 (λi=>[(4,.int .i64 (i:Int))]) [(0,_),(2,_)] _ (λi=>ps.length-i) (0) ⟨rfl,rfl,trivial⟩ (Nat.zero_le _) ⟨rfl,trivial⟩ O O O (λi hI=>?_);refine zBq 5 O (gV (w':=.int .i64 (ps.length:Int)) 0 O Xv ?_);refine gS 3 O (λh1=>?_) (λh1=>?_)
 ·have hi:i<ps.length:=by omega
  obtain⟨x,hx⟩:∃x,ps[i]? =some x:=⟨_,List.getElem?_eq_getElem hi⟩
  have hxv:=hv x (List.mem_of_getElem? hx);exact gP 8 O (zDq (i:=i) O O O O O O O (zqq pW hx)) (gP 4 O (zDq (i:=i) O O O O O O O (zqq pW hx)) (gC 2 O (x5q _ _ (by first|assumption|omega)) (zcq 2 O (k7q rfl (zKq O O (qeq [_] (k:=ti149) (news:=[pW x]) O O O O O (zJq O O O O) Xh (by show(((ps.take i).map pW).length+1)*56<=_;simp;omega) (by show((ps.take i).map pW).length+1<=_;simp;omega) rfl Xh)) (evs_G Xw Xw) (ybq 6 O (gA 0 O (i+1) (zcq 2 O (qXq 2 (i+1) (hi) Xd (Nat.zero_le _) (by rw[List.take_add_one,hx,List.map_append];rfl) Xu Xd Yg rfl Xx ⟨rfl,trivial⟩ ⟨rfl,rfl,trivial⟩ Xg Xg rfl Xk Xj Xz))))))))
 ·have hi:i=ps.length:=by omega
  subst hi;refine zcq 2 O (yKq Xi (zyq 9 O (quq Xt O ?_)));rw[List.take_length];exact j8q (H0:=[]) Xm (qLq _) Xh
def idxP(ps:List Pr)(k:Dig):Int:=match ps.findIdx? (λp=>decide (p.1=k)) with
 |some i=>i
 |none=>-1
theorem rfind_s(ps:List Pr)(f:Bool)(k:Dig)(hb:ps.length<=1000000000):PS cfg G 328 [.fz (ps.map pW) 33 f,dW k] (.int .i64 (idxP ps k)):=by
 have e:(ps.map pW).length=ps.length:=List.length_map _;refine gI 13 O (λR k0=>?_);refine gLo (α:=Nat) 0 (λi=>i<=ps.length/\∀j x,j<i->ps[j]? =some x->x.1≠k) (λi=>[(5,.int .i64 (i:Int))]) [0,3,4] (λi=>ps.length-i) (0) rfl (⟨Nat.zero_le _,λj x h=>by omega⟩) (λi hI=>?_);obtain⟨g1,g2⟩:=hI;refine gV (w':=.int .i64 (ps.length:Int)) 5 O Xv ?_;refine gS 3 O (λh1=>?_) (λh1=>?_)
 ·have hi:i<ps.length:=by omega
  obtain⟨x,hx⟩:∃x,ps[i]? =some x:=⟨_,List.getElem?_eq_getElem hi⟩
  refine gP 8 O (zDq (i:=i) O O O O O O O (zqq pW hx)) (gUe 3 O (qxq O O O O (yXq O O O O O O _ _ 250)) z5q ?_);refine gS 2 O (λh2=>?_) (λh2=>?_)
  ·refine gO 9 O (gQ 2 O ?_)
   have:ps.findIdx? (λp=>decide (p.1=k))=some i:=by
    rw[List.findIdx?_eq_some_iff_getElem];refine⟨hi,?_,λj hj=>?_⟩
    ·have:=(List.getElem?_eq_some_iff.1 hx).2;rw[this];exact decide_eq_true h2
    ·simp only[decide_eq_true_eq];exact g2 j _ hj (List.getElem?_eq_getElem Xd)
   unfold idxP;rw[this]
  ·exact gA 5 O (i+1) (gAg 2 O (i+1) (⟨hi,λj y hj hy=>by rcases Nat.lt_succ_iff_lt_or_eq.1 hj with q|rfl;exact g2 j y q hy;have:=Option.some.inj (hx.symm.trans hy);subst this;exact h2⟩) Xd)
 ·refine gO 2 O (gQ 8 O ?_)
  have:ps.findIdx? (λp=>decide (p.1=k))=none:=by
   rw[List.findIdx?_eq_none_iff];intro x hx;obtain⟨j,hj⟩:=List.getElem?_of_mem hx;have:=(List.getElem?_eq_some_iff.1 hj).1;exact decide_eq_false (g2 j x Xd hj)
  unfold idxP;rw[this]
theorem ZVq(ps:List Pr)(k:Dig){i:Nat}{x:Pr}(hx:ps[i]? =some x):ztq (ps.take (i+1)) k=if x.1=k then ztq (ps.take i) k else ztq (ps.take i) k++[x]:=by
 unfold ztq;rw[List.take_add_one,hx];simp only[Option.toList_some,List.filter_append];split
 ·rename_i h;simp[h]
 ·rename_i h;simp[h]
theorem without_len(ps:List Pr)(k:Dig)(i:Nat):(ztq (ps.take i) k).length<=ps.length:=Nat.le_trans (List.length_filter_le _ _) Xq
theorem Jnq(ps:List Pr)(f:Bool)(k:Dig)(hb:ps.length<=1000000000)(hv:∀x∈ps,x.2.length<=70368744177664):PS cfg G 330 [.fz (ps.map pW) 33 f,dW k] (psW (ztq ps k)):=by
 have e:(ps.map pW).length=ps.length:=List.length_map _;have hb':(ztq ps k).length<=1000000000:=Nat.le_trans (List.length_filter_le _ _) hb;have hv':∀x∈ztq ps k,x.2.length<=70368744177664:=λx hx=>hv x (mem_withoutL.1 hx).1
 refine gIv 18 O (λR k0=>?_);refine kMq (α:=Nat) (λi=>i<=ps.length) 5 (λi=>(ztq (ps.take i) k).map pW) 149 33 (λi=>[(6,.int .i64 (i:Int))]) [(0,_),(3,_),(4,_)] _ (λi=>ps.length-i) (0) ⟨rfl,rfl,rfl,trivial⟩ (Nat.zero_le _) ⟨rfl,trivial⟩ O O O (λi hI=>?_);have hl:=without_len ps k i;refine zBq 5 O (gV (w':=.int .i64 (ps.length:Int)) 0 O Xv ?_);refine gS 3 O (λh1=>?_) (λh1=>?_)
 ·have hi:i<ps.length:=by omega
  obtain⟨x,hx⟩:∃x,ps[i]? =some x:=⟨_,List.getElem?_eq_getElem hi⟩
  refine gP 8 O (zDq (i:=i) O O O O O O O (zqq pW hx)) (gUe 3 O (jwq O O O O (yXq O O O O O O _ _ 250)) (jGq z5q) ?_);refine gS 2 O (λh2=>?_) (λh2=>?_)
  ·exact gP 4 O (zDq (i:=i) O O O O O O O (zqq pW hx)) (gM 2 O (zKq O O (qeq [_,_] (k:=ti149) (news:=[pW x]) O O O O O (zJq O O O O) Xh (by show(((ztq (ps.take i) k).map pW).length+1)*56<=_;rw[List.length_map];omega) (by show((ztq (ps.take i) k).map pW).length+1<=_;rw[List.length_map];omega) rfl Xh)) (gA 6 O (i+1) (zcq 2 O (qXq 3 (i+1) (hi) Xd (Nat.zero_le _) (by rw[ZVq ps k hx,if_neg h2,List.map_append];rfl) Xu Xd Yg rfl Xx ⟨rfl,trivial⟩ ⟨rfl,rfl,rfl,trivial⟩ Xg Xg rfl Xk Xj Xz))))
  ·have hxk:x.1=k:=by simpa using h2
   exact gA 5 O (i+1) (zcq 2 O (q_againG0 (i+1) (hi) Xd (Nat.zero_le _) (by rw[ZVq ps k hx,if_pos hxk]) rfl ⟨rfl,trivial⟩ ⟨rfl,rfl,rfl,trivial⟩ Xg Xg rfl Xk Xj Xz Xd))
 ·have hi:i=ps.length:=by omega
  subst hi;rw[List.take_length];refine zcq 2 O (yKq Xi (zyq 4 O (qqq (λ_=>ent_frzA (fr2:=[(5,psW (ztq ps k))]) ⟨⟨_,rfl,j8q (H0:=[(0,35,dW k)]) Xm (qLq _) Xh⟩,trivial⟩) (z1q O O ?_))))
  refine yqq O O O O O O (rptwin_s _ _ Xr Xr) (zgq 4 O (quq Xt O ?_))
  (repeat (first|exact .nil|refine .cons ?_ ?_|exact qpq|exact .nilfz|refine .fn ?_ ?_|(refine yxq O ?_ rfl;(first|rfl|(focus (simp;done))))|(refine .sl O ?_ rfl Xi;(first|rfl|(focus (simp;done))))|(refine .pur ?_;(first|rfl|(focus (simp;done))))|(refine .fzw ?_;(first|rfl|(focus (simp;done))))|refine .agg ?_|refine .arr ?_|refine .tup ?_))
def withR(l:List Pr)(k:Dig)(v:List UInt8):List Pr:=(ztq l k).takeWhile (λp=>zLq p.1 k)++(k,v)::(ztq l k).dropWhile (λp=>zLq p.1 k)
theorem Jjq{α:Type}{p:α->Bool}:∀{l:List α} {n:Nat},n<=l.length->(∀j x,j<n->l[j]? =some x->p x=true) ->(∀x,l[n]? =some x->p x=false) ->l.takeWhile p=l.take n/\l.dropWhile p=l.drop n
 |[],n,h,_,_=>by simp at h;subst h;simp
 |x::l,0,_,_,h=>by have:=h x rfl;simp[this]
 |x::l,n+1,h,h1,h2=>by
  have hx:=h1 0 x Xd rfl;obtain⟨q1,q2⟩:=Jjq (l:=l) (n:=n) (by simpa using h) (λj y hj hy=>h1 (j+1) y Xd (by simpa using hy)) (λy hy=>h2 y (by simpa using hy));simp[hx,q1,q2]
theorem rwith_s(ps:List Pr)(f g:Bool)(k:Dig)(v:List UInt8)(hb:ps.length<=1000000)(hv:∀x∈ps,x.2.length<=70368744177664)(hw:v.length<=70368744177664):PS cfg G 331 [.fz (ps.map pW) 33 f,dW k,.fz (zaq v) 1 g] (psW (withR ps k v)):=by
 have hb2:ps.length<=1000000000:=by omega
 obtain⟨rs,hrs⟩:∃rs,rs=ztq ps k:=⟨_,rfl⟩
 have hl:rs.length<=1000000:=by rw[hrs];exact Nat.le_trans (List.length_filter_le _ _) hb
 have e:(rs.map pW).length=rs.length:=List.length_map _;refine gIv 10 O (λR k0=>gC 0 O (zzq (w':=psW rs) (Jnq ps f k hb2 hv) (by rw[hrs])) ?_);refine gLo (α:=Nat) 10 (λn=>n<=rs.length/\∀j x,j<n->rs[j]? =some x->zLq x.1 k=true) (λn=>[(8,.int .i64 (n:Int))]) [2,4,6,7] (λn=>rs.length-n) (0) rfl (⟨Nat.zero_le _,λj x h=>by omega⟩) (λn hI=>?_);obtain⟨g1,g2⟩:=hI;have el:((rs.take n).map pW).length=n:=by simp;omega
 have rest:(∀x,rs[n]? =some x->zLq x.1 k=false) ->withR ps k v=rs.take n++(k,v)::rs.drop n:=λh=>by
  obtain⟨q1,q2⟩:=Jjq g1 g2 h;unfold withR;rw[<-hrs,q1,q2]
 refine gV (w':=.int .i64 (rs.length:Int)) 5 O Xv ?_;refine gD 0 O (λh1=>?_) (λh1=>?_)
 ·have hn:n<rs.length:=by omega
  obtain⟨x,hx⟩:∃x,rs[n]? =some x:=⟨_,List.getElem?_eq_getElem hn⟩
  refine gP 3 O (zDq (i:=n) O O O O O O O (zqq pW hx)) (gC 3 O (rahead_s _ _) ?_);refine gS 3 O (λh2=>?_) (λh2=>?_)
  ·exact gA 5 O (n+1) (gAg 3 O (n+1) (⟨hn,λj y hj hy=>by rcases Nat.lt_succ_iff_lt_or_eq.1 hj with q|rfl;exact g2 j y q hy;have:=Option.some.inj (hx.symm.trans hy);subst this;exact h2⟩) Xd)
  ·have hno:∀y,rs[n]? =some y->zLq y.1 k=false:=λy hy=>by
    have:=Option.some.inj (hx.symm.trans hy);subst this;simpa using h2
   refine gO 2 O (zcq 9 O (qqq (λ_=>juq (fr2:=[(2,.fz (zaq v) 1 g),(4,.ptr 0 0),(7,psW rs),(8,.int .i64 (n:Int)),(9,gW 1 33 [])]) ⟨rfl,rfl,rfl,rfl,rfl,trivial⟩) (z1q O O ?_)))
   refine zgq 2 O (gP 0 O (kLq (ys:=(rs.take n).map pW) (l:=0) (h:=n) O O O O O O O (Nat.zero_le _) (by rw[e];exact g1) (by rw[List.drop_zero,List.map_take];rfl) rfl) (ZEq (b:=1) (xs:=[]) (news:=(rs.take n).map pW) (k:=ti149) (H0:=[(0,35,dW k)]) [_] [(2,.fz (zaq v) 1 g),(4,.ptr 0 0),(7,psW rs),(8,.int .i64 (n:Int))] O O O O O O O O O O O (by show(0+((rs.take n).map pW).length)*56<=_;omega) (by show 0+((rs.take n).map pW).length<=_;omega) rfl Xh Xd Xd ⟨rfl,rfl,rfl,rfl,trivial⟩ rfl ⟨zbq Xh,rfl,zbq Xh,rfl,trivial⟩ Xh ⟨⟨by omega,rfl,zbq Xh⟩,trivial⟩ Xh (zgq 8 O (gC 0 O (x5q _ _ (by first|assumption|omega)) (zcq 2 O (k7q rfl (zKq O O (qeq [_,_] (k:=ti149) (news:=[pW (k,v)]) O O O O O (zJq O O O O) Xh (by show(((rs.take n).map pW).length+1)*56<=_;omega) (by show((rs.take n).map pW).length+1<=_;omega) rfl Xh)) (evs_G Xw Xw) (ybq 5 O (qqq (λ_=>qwq (b:=1) (H0:=[(0,35,dW k)]) (fr2:=[(4,.ptr 0 0),(7,psW rs),(8,.int .i64 (n:Int))]) 3 9 Xd Xd Xd Xh O O ⟨rfl,rfl,rfl,trivial⟩ ⟨rfl,zbq Xh,rfl,trivial⟩ rfl Xh ⟨⟨by omega,rfl,zbq Xh⟩,trivial⟩ Xh) (z1q O O ?_)))))))))
   refine zgq 2 O (gP 0 O (kLq (ys:=(rs.drop n).map pW) (l:=n) (h:=(rs.map pW).length) O O O O O O O (by rw[e];exact g1) (Nat.le_refl _) (by rw[List.take_of_length_le Xh,List.map_drop]) rfl) (ZEq (b:=1) (news:=(rs.drop n).map pW) (k:=ti149) (H0:=[(0,35,dW k)]) [_] [] O O O O O O O O O O O Qr Qw rfl Xh Xd Xd trivial rfl trivial Xh ⟨⟨by omega,rfl,zbq Xh⟩,trivial⟩ Xh (zgq 4 O (quq Xt O ?_))));rw[rest Xr];have:=j8q (b:=1) (e:=33) (ty:=149) (l:=(rs.take n).map pW++[pW (k,v)]++(rs.drop n).map pW) (H0:=[(0,35,dW k)]) Xm Xh Xh;unfold psW;rw[show(rs.take n++(k,v)::rs.drop n).map pW=(rs.take n).map pW++[pW (k,v)]++(rs.drop n).map pW by simp];exact this
 ·have hno:∀y,rs[n]? =some y->zLq y.1 k=false:=λy hy=>by
   have:=(List.getElem?_eq_some_iff.1 hy).1;omega
  refine gO 14 O (zcq 9 O (qqq (λ_=>juq (fr2:=[(2,.fz (zaq v) 1 g),(4,.ptr 0 0),(7,psW rs),(8,.int .i64 (n:Int)),(9,gW 1 33 [])]) ⟨rfl,rfl,rfl,rfl,rfl,trivial⟩) (z1q O O ?_)))
  refine zgq 2 O (gP 0 O (kLq (ys:=(rs.take n).map pW) (l:=0) (h:=n) O O O O O O O (Nat.zero_le _) (by rw[e];exact g1) (by rw[List.drop_zero,List.map_take];rfl) rfl) (ZEq (b:=1) (xs:=[]) (news:=(rs.take n).map pW) (k:=ti149) (H0:=[(0,35,dW k)]) [_] [(2,.fz (zaq v) 1 g),(4,.ptr 0 0),(7,psW rs),(8,.int .i64 (n:Int))] O O O O O O O O O O O (by show(0+((rs.take n).map pW).length)*56<=_;omega) (by show 0+((rs.take n).map pW).length<=_;omega) rfl Xh Xd Xd ⟨rfl,rfl,rfl,rfl,trivial⟩ rfl ⟨zbq Xh,rfl,zbq Xh,rfl,trivial⟩ Xh ⟨⟨by omega,rfl,zbq Xh⟩,trivial⟩ Xh (zgq 8 O (gC 0 O (x5q _ _ (by first|assumption|omega)) (zcq 2 O (k7q rfl (zKq O O (qeq [_,_] (k:=ti149) (news:=[pW (k,v)]) O O O O O (zJq O O O O) Xh (by show(((rs.take n).map pW).length+1)*56<=_;omega) (by show((rs.take n).map pW).length+1<=_;omega) rfl Xh)) (evs_G Xw Xw) (ybq 5 O (qqq (λ_=>qwq (b:=1) (H0:=[(0,35,dW k)]) (fr2:=[(4,.ptr 0 0),(7,psW rs),(8,.int .i64 (n:Int))]) 3 9 Xd Xd Xd Xh O O ⟨rfl,rfl,rfl,trivial⟩ ⟨rfl,zbq Xh,rfl,trivial⟩ rfl Xh ⟨⟨by omega,rfl,zbq Xh⟩,trivial⟩ Xh) (z1q O O ?_)))))))))
  refine zgq 2 O (gP 0 O (kLq (ys:=(rs.drop n).map pW) (l:=n) (h:=(rs.map pW).length) O O O O O O O (by rw[e];exact g1) (Nat.le_refl _) (by rw[List.take_of_length_le Xh,List.map_drop]) rfl) (ZEq (b:=1) (news:=(rs.drop n).map pW) (k:=ti149) (H0:=[(0,35,dW k)]) [_] [] O O O O O O O O O O O Qr Qw rfl Xh Xd Xd trivial rfl trivial Xh ⟨⟨by omega,rfl,zbq Xh⟩,trivial⟩ Xh (zgq 4 O (quq Xt O ?_))));rw[rest Xr];have:=j8q (b:=1) (e:=33) (ty:=149) (l:=(rs.take n).map pW++[pW (k,v)]++(rs.drop n).map pW) (H0:=[(0,35,dW k)]) Xm Xh Xh;unfold psW;rw[show(rs.take n++(k,v)::rs.drop n).map pW=(rs.take n).map pW++[pW (k,v)]++(rs.drop n).map pW by simp];exact this
theorem JYq{l:List Pr}(h:Srt l)(k:Dig)(v:List UInt8):withR l k v=klq l k v:=by
 have key:∀{l:List Pr},Srt l->(ztq l k).takeWhile (λp=>zLq p.1 k)=l.filter (λp=>zLq p.1 k)/\(ztq l k).dropWhile (λp=>zLq p.1 k)=l.filter (λp=>zLq k p.1):=by
  intro l;induction l with
  |nil=>intro _;exact⟨rfl,rfl⟩
  |cons x l ih=>
   intro h;obtain⟨h1,h2⟩:=List.pairwise_cons.1 h;obtain⟨q1,q2⟩:=ih h2;by_cases e:x.1=k
   ·have e1:zLq x.1 k=false:=by rw[e];exact jLq k
    have e2:zLq k x.1=false:=by rw[e];exact jLq k
    have hno:∀y∈l,zLq y.1 k=false:=λy hy=>qjq (by rw[<-e];exact h1 y hy)
    have ew:ztq (x::l) k=ztq l k:=by simp[ztq,e]
    rw[ew,q1,q2];simp[e1,e2]
   ·have ew:ztq (x::l) k=x::ztq l k:=by simp[ztq,e]
    rw[ew];cases ha:zLq x.1 k with
    |true=>
     have hb:=qjq ha;simp[ha,hb,q1,q2]
    |false=>
     have hb:zLq k x.1=true:=(vwq e).resolve_left (by rw[ha];exact Bool.false_ne_true);have hno:∀y∈l,zLq y.1 k=false:=λy hy=>qjq (xPq hb (h1 y hy))
     have hyes:∀y∈l,zLq k y.1=true:=λy hy=>xPq hb (h1 y hy)
     have hw:ztq l k=l:=jmq λp hp q=>by
      have:=hyes p hp;rw[q,jLq] at this;cases this
     simp only[List.takeWhile_cons,List.dropWhile_cons,List.filter_cons,ha,hb,hw,if_true,if_false];refine⟨(ukq λy hy=>hno y hy).symm,?_⟩;simp only[Bool.false_eq_true,if_false];rw[v2q λy hy=>hyes y hy]
 obtain⟨q1,q2⟩:=key h;unfold withR klq;rw[q1,q2]
theorem Klq(a b:List Pr)(f g:Bool)(hb:a.length<=1000000000):PS cfg G 120 [.fz (a.map pW) 33 f,.fz (b.map pW) 33 g] (.bool (decide (a=b))):=by
 have ea:(a.map pW).length=a.length:=List.length_map _;have eb:(b.map pW).length=b.length:=List.length_map _;refine gI 9 O (λR k0=>gV (w':=.int .i64 (a.length:Int)) 0 O Yz (gV (w':=.int .i64 (b.length:Int)) 1 O (by rw[<-eb];rfl) ?_));refine gS 3 O (λh1=>?_) (λh1=>?_)
 ·refine gQ 7 O ?_;rw[decide_eq_false];rintro rfl;exact h1 rfl
 ·have hl:a.length=b.length:=by omega
  refine gLo (α:=Nat) 9 (λi=>i<=a.length/\a.take i=b.take i) (λi=>[(5,.int .i64 (i:Int))]) [0,1,4] (λi=>a.length-i) (0) rfl (⟨Nat.zero_le _,rfl⟩) (λi hI=>?_);obtain⟨g1,g2⟩:=hI;refine gV (w':=.int .i64 (a.length:Int)) 5 O Yz ?_;refine gS 3 O (λh2=>?_) (λh2=>?_)
  ·have hi:i<a.length:=by omega
   obtain⟨x,hx⟩:∃x,a[i]? =some x:=⟨_,List.getElem?_eq_getElem hi⟩
   obtain⟨y,hy⟩:∃y,b[i]? =some y:=⟨_,List.getElem?_eq_getElem Xd⟩
   have no:x≠y->decide (a=b)=false:=λh=>decide_eq_false λq=>h Qk
   refine gP 8 O (zDq (i:=i) O O O O O O O (zqq pW hx)) (gP 4 O (zDq (i:=i) O O O O O O O (zqq pW hy)) ?_);refine gDe 2 O (jwq O O O O (yXq O O O O O O _ _ 250)) (jGq z5q) (λh3=>?_) (λh3=>?_)
   ·exact gO 25 O (gQ 2 O (by rw[no λq=>h3 Jf]))
   ·have hk:x.1=y.1:=by simpa using h3
    refine gP 3 O (zDq (i:=i) O O O O O O O (zqq pW hx)) (gP 4 O (zDq (i:=i) O O O O O O O (zqq pW hy)) (gC 2 O (same_s _ _ _ _) ?_));refine gS 4 O (λh4=>?_) (λh4=>?_)
    ·exact gO 8 O (gQ 2 O (by rw[no λq=>by rw[q] at h4;simp at h4]))
    ·have hv:x.2=y.2:=by simpa using h4
     have hxy:x=y:=Prod.ext hk hv;exact gA 5 O (i+1) (gAg 2 O (i+1) (⟨hi,by rw[List.take_add_one,List.take_add_one,g2,hx,hy,hxy]⟩) Xd)
  ·refine gO 2 O (gQ 8 O ?_);rw[decide_eq_true];have:=g2;rw[List.take_of_length_le Xd,List.take_of_length_le Xd] at this;exact this
theorem mayp_val(k:Dig)(v:List UInt8):MayP [(k,v)]↔valB v=true:=by
 constructor
 ·intro h;exact(h.2 0 Xh _ rfl).1
 ·intro h;refine⟨by simp,λi hi x hx=>?_⟩;obtain rfl:i=0:=by simpa using hi
  cases hx;exact⟨h,λy h0=>by omega⟩
theorem rone_s(x:Node)(n:Nat)(hn:n<=4611686018427387903):PS cfg G 257 [nW x,.int .i64 (n:Int)] (.bool (decide (oneB x n))):=by
 have e:=zdq x.val
 have yes:∀{b:Bool},x.leaf=true->b=(valB x.val&&decide (x.left=0)&&decide (x.right=0)) ->W.bool b=W.bool (decide (oneB x n)):=λ{b} h1 hb=>by
  rw[hb];congr 1
  rw[Bool.eq_iff_iff];simp only[Bool.and_eq_true,decide_eq_true_eq,oneB,if_pos h1,mayp_val];exact⟨λ⟨⟨a,b⟩,c⟩=>⟨b,c,a⟩,λ⟨b,c,a⟩=>⟨⟨a,b⟩,c⟩⟩
 have no:¬x.leaf=true->¬((0<=x.left/\x.left<=n)/\(0<=x.right/\x.right<=n)/\0<x.left+x.right) ->W.bool false=W.bool (decide (oneB x n)):=λh1 h=>by
  rw[decide_eq_false];rw[oneB,if_neg h1];exact λq=>h ⟨q.1,q.2.1,q.2.2.2.2⟩
 have fork:∀{b:Bool},¬x.leaf=true->0<=x.left->x.left<=n->0<=x.right->x.right<=n->0<x.left+x.right->b=(decide (x.key=y2q)&&decide (x.val=[])) ->W.bool b=W.bool (decide (oneB x n)):=λ{b} h1 q1 q2 q3 q4 q5 hb=>by
  rw[hb];congr 1
  rw[Bool.eq_iff_iff];simp only[Bool.and_eq_true,decide_eq_true_eq,oneB,if_neg h1];exact⟨λ⟨a,c⟩=>⟨⟨q1,q2⟩,⟨q3,q4⟩,a,c,q5⟩,λh=>⟨h.2.2.1,h.2.2.2.1⟩⟩
 refine gI 13 O (λR k0=>?_);refine gS 0 O (λh1=>?_) (λh1=>?_)
 ·refine gC 4 O (rvalue_s _ _) ?_;refine gB 0 O (λh2=>?_) (λh2=>?_)
  ·refine gD 3 O (λh3=>?_) (λh3=>?_)
   ·refine gU 4 O ?_;exact gQ 6 O Yd
   ·exact gQ 11 O Yd
  ·exact gQ 15 O Yd
 ·refine gD 7 O (λh2=>?_) (λh2=>?_)
  ·exact gQ 37 O Yd
  ·refine gD 4 O (λh3=>?_) (λh3=>?_)
   ·exact gQ 32 O Yd
   ·refine gD 4 O (λh4=>?_) (λh4=>?_)
    ·exact gQ 27 O Yd
    ·refine gD 5 O (λh5=>?_) (λh5=>?_)
     ·exact gQ 21 O Yd
     ·refine gD 4 O (λh6=>?_) (λh6=>?_)
      ·refine gU 3 O ?_;refine gS 4 O (λh7=>?_) (λh7=>?_)
       ·exact gQ 7 O Yd
       ·have h2:¬x.left<0:=h2;have h3:¬(n:Int)<x.left:=h3;have h4:¬x.right<0:=h4;have h5:¬(n:Int)<x.right:=h5;refine gV 6 O kVq ?_;refine gDe 0 O (qxq O O O O (yXq O O O O O O _ _ 250)) z5q (λh8=>?_) (λh8=>?_)
        ·refine gV (w':=.int .i64 (x.val.length:Int)) 3 O Xv ?_;refine gU 0 O ?_;refine zcq 5 O ?_;refine fin_eq Jp rfl (fork h1 Xd Xd Xd Xd Xd ?_);rw[decide_eq_true (by assumption:x.key=y2q),Bool.true_and];refine decide_eq_decide.2 ⟨λq=>List.eq_nil_of_length_eq_zero Xd,λq=>by rw[q];rfl⟩
        ·refine zcq 10 O ?_;refine fin_eq Jp rfl (fork h1 Xd Xd Xd Xd Xd ?_);rw[decide_eq_false (by assumption:¬x.key=y2q),Bool.false_and]
      ·have h2:¬x.left<0:=h2;have h3:¬(n:Int)<x.left:=h3;have h4:¬x.right<0:=h4;have h5:¬(n:Int)<x.right:=h5;refine gV 15 O kVq ?_;refine gDe 0 O (qxq O O O O (yXq O O O O O O _ _ 250)) z5q (λh7=>?_) (λh7=>?_)
       ·refine gV (w':=.int .i64 (x.val.length:Int)) 3 O Xv ?_;refine gU 0 O ?_;refine zcq 5 O ?_;refine fin_eq Jp rfl (fork h1 Xd Xd Xd Xd Xd ?_);rw[decide_eq_true (by assumption:x.key=y2q),Bool.true_and];refine decide_eq_decide.2 ⟨λq=>List.eq_nil_of_length_eq_zero Xd,λq=>by rw[q];rfl⟩
       ·refine zcq 10 O ?_;refine fin_eq Jp rfl (fork h1 Xd Xd Xd Xd Xd ?_);rw[decide_eq_false (by assumption:¬x.key=y2q),Bool.false_and]
def cntR(t:T)(d:Nat)(b:Dig):Int:=if t.ok d b=true then(match t with|.nil=>0|.leaf _ _=>1|.fork _ _=>2) else-1
theorem cntR_lt(t:T)(d:Nat)(b:Dig):cntR t d b<0↔¬t.ok d b=true:=by
 unfold cntR;split
 ·rename_i h;cases t<;>simp[h]
 ·rename_i h;simp[h]
theorem cntR_ge(t:T)(d:Nat)(b:Dig):0<=cntR t d b↔t.ok d b=true:=by
 have:=cntR_lt t d b;constructor
 ·intro h;refine Classical.byContradiction λq=>?_
  have:=this.2 q;omega
 ·intro h;refine Int.not_lt.1 λq=>this.1 q h
theorem cntR_fork{l r:T}{d:Nat}{b:Dig}(hd:d<256)(h1:¬cntR l (d+1) b<0)(h2:¬cntR r (d+1) (qzq b d)<0):cntR (.fork l r) d b=if cntR l (d+1) b+cntR r (d+1) (qzq b d)<2 then-1 else 2:=by
 have e1:l.ok (d+1) b=true:=(cntR_ge l _ _).1 Xd;have e2:r.ok (d+1) (qzq b d)=true:=(cntR_ge r _ _).1 Xd;have e:(T.fork l r).ok d b=T.two l r:=by simp only[T.ok];rw[decide_eq_true hd,e1,e2];rfl
 unfold cntR;rw[e,e1,e2];cases l<;>cases r<;>simp[T.two,T.isFork,T.non]
theorem cntR_le(t:T)(d:Nat)(b:Dig):cntR t d b<=2:=by
 unfold cntR;split
 ·cases t<;>simp
 ·omega
theorem cntR_no{l r:T}{d:Nat}{b:Dig}(h:¬(T.fork l r).ok d b=true):cntR (.fork l r) d b=-1:=by unfold cntR;rw[if_neg h]
theorem rright_s(t0:Tree)(hb:t0.nodes.length<=4611686018427387903):∀(t:T) (n d:Nat) (b:Dig),Rep t0.nodes n t->d<=256->PS cfg G 258 [tW t0,.int .i64 (n:Int),.int .i64 (d:Int),dW b] (.int .i64 (cntR t d b)):=by
 intro t;induction t with
 |nil=>
  intro n d b hr hd;obtain rfl:n=0:=by cases hr;rfl
  refine gI 14 O (λR k0=>?_);refine gS 0 O (λh1=>?_) (λh1=>?_)
  ·exact gQa 7 O
  ·exfalso;omega
 |leaf k v=>
  intro n d b hr hd;have hle:=hr.le;cases hr with
  |leaf h=>
  rename_i n l r;refine gI 14 O (λR k0=>?_);refine gS 0 O (λh1=>?_) (λh1=>?_)
  ·exfalso;omega
  ·refine gA 7 O (n) ?_;refine gP 0 O (zDq (i:=n) O O O O O O O (zqq nW h)) ?_;refine gC 19 O (rshared_s _ _) ?_;refine gS 4 O (λh2=>?_) (λh2=>?_)
   ·refine gQ 8 O ?_;unfold cntR;rw[if_neg];simp only[T.ok,decide_eq_true_eq];have h2:((zYq k b:Nat):Int)<d:=h2;omega
   ·refine gQ 9 O ?_;unfold cntR;rw[if_pos];simp only[T.ok,decide_eq_true_eq];have h2:¬((zYq k b:Nat):Int)<d:=h2;omega
 |fork tl tr ihL ihR=>
  intro n d b hr hd;have hle:=hr.le;cases hr with
  |fork h hl hr hL hR=>
  rename_i n l r k v;refine gI 14 O (λR k0=>?_);refine gS 0 O (λh1=>?_) (λh1=>?_)
  ·exfalso;omega
  ·refine gA 7 O (n) ?_;refine gP 0 O (zDq (i:=n) O O O O O O O (zqq nW h)) ?_;refine gS 22 O (λh2=>?_) (λh2=>?_)
   ·refine gQ 7 O ?_;rw[cntR_no λq=>by have:=(ok_fork.1 q).1;omega]
   ·have hd':d<256:=by omega
    refine gC 6 O (rturn_in _ _ Xd) ?_;refine gA 14 O (d+1) ?_;refine zcq 1 O ?_;refine yqq O O O O O O (ihL l (d+1) b hL Xd) ?_;refine zgq 10 O ?_;refine gS 0 O (λh3=>?_) (λh3=>?_)
    ·refine gQ 7 O ?_;rw[cntR_no λq=>(cntR_lt tl _ _).1 Xr (ok_fork.1 q).2.1]
    ·refine gA 8 O (d+1) ?_;refine zcq 1 O ?_;refine yqq O O O O O O (ihR r (d+1) (qzq b d) hR Xd) ?_;refine zgq 7 O ?_;refine gD 0 O (λh4=>?_) (λh4=>?_)
     ·refine gQ 16 O ?_;rw[cntR_no λq=>(cntR_lt tr _ _).1 Xr (ok_fork.1 q).2.2.1]
     ·have hc:=cntR_fork (l:=tl) (r:=tr) hd' h3 h4;have b1:=cntR_le tl (d+1) b;have b2:=cntR_le tr (d+1) (qzq b d);refine gWr 3 O ?_;refine gU 0 O ?_;refine gS 3 O (λh5=>?_) (λh5=>?_)
      ·exact gQ 7 O (by rw[hc,if_pos Xr])
      ·exact gQ 8 O (by rw[hc,if_neg Xr])
theorem rmay_s(t:Tree)(hb:t.nodes.length<=4611686018427387903):PS cfg G 188 [tW t] (.bool (decide (MayT t))):=by
 have e:(t.nodes.map nW).length=t.nodes.length:=List.length_map _;refine gI 11 O (λR k0=>gV (w':=.int .i64 (t.nodes.length:Int)) 0 O Xv ?_);refine gD 0 O (λh1=>?_) (λh1=>?_)
 ·have hno:¬MayT t:=λh=>by have:=h.1;omega
  exact gQ 23 O Yj
 refine gD 3 O (λh2=>?_) (λh2=>?_)
 ·have hno:¬MayT t:=λh=>by obtain⟨_,_,n,_,h,_⟩:=h;have h2:t.root<0:=h2;omega
  exact gQ 19 O Yj
 refine gV (w':=.int .i64 (t.nodes.length:Int)) 6 O Xv (gU 0 O ?_);refine gS 3 O (λh3=>?_) (λh3=>?_)
 ·have hno:¬MayT t:=λh=>by obtain⟨_,_,n,_,h,hr,_⟩:=h;have h3:(t.nodes.length:Int)<t.root:=h3;have:=hr.le;omega
  exact gQ 7 O Yj
 have h2:¬t.root<0:=h2;have h3:¬(t.nodes.length:Int)<t.root:=h3;obtain⟨n0,hn0⟩:=Int.eq_ofNat_of_zero_le (show 0<=t.root by omega);refine gLo (α:=Nat) 9 (λi=>i<=t.nodes.length/\∀j x,j<i->t.nodes[j]? =some x->oneB x j) (λi=>[(3,.int .i64 (i:Int))]) [1,2] (λi=>t.nodes.length-i) (0) rfl (⟨Nat.zero_le _,λj x hj=>by omega⟩) (λi hI=>?_);obtain⟨hi,hI⟩:=hI;refine gV (w':=.int .i64 (t.nodes.length:Int)) 6 O Xv ?_;refine gS 3 O (λh4=>?_) (λh4=>?_)
 ·have hi':i<t.nodes.length:=by omega
  obtain⟨x,hx⟩:∃x,t.nodes[i]? =some x:=⟨_,List.getElem?_eq_getElem hi'⟩
  refine gP 9 O (zDq (i:=i) O O O O O O O (zqq nW hx)) (gC 2 O (rone_s _ _ Xd) ?_);refine gS 3 O (λh5=>?_) (λh5=>?_)
  ·have hno:¬MayT t:=λh=>by have:=h.2.1 i x hx;simp[this] at h5
   exact gO 8 O (gQ 2 O Yj)
  ·have h5:oneB x i:=by simpa using h5
   exact gA 5 O (i+1) (gAg 2 O (i+1) (⟨hi',λj y hj hy=>by rcases Nat.lt_succ_iff_lt_or_eq.1 hj with h|rfl;exact hI j y h hy;exact(Option.some.inj (hx.symm.trans hy))▸h5⟩) Xd)
 ·have okn:okN t.nodes:=λj x hx=>hI j x (by have:=(List.getElem?_eq_some_iff.1 hx).1;omega) hx
  obtain⟨t0,ht0⟩:=rep_of okn n0 Xd
  have key:MayT t↔t0.ok 0 y2q=true:=by
   constructor
   ·rintro⟨_,_,n,t1,hn,hr,hk⟩;obtain rfl:n=n0:=by omega
    rw[ht0.uniq hr];exact hk
   ·exact λh=>⟨by omega,okn,n0,t0,hn0,ht0,h⟩
  refine gO 2 O (gV 7 O kVq (KCq O O O O O (by rw[hn0];rfl) (rright_s t Xd t0 n0 0 y2q ht0 Xd) Xh Xh (op_cz O O (zgq 4 O (gQ 0 O ?_)))));rw[show decide (MayT t)=decide (0<=cntR t0 0 y2q) from decide_eq_decide.2 (key.trans (cntR_ge t0 0 y2q).symm)]
theorem rfor_s(t0:Tree)(hb:t0.nodes.length<=4611686018427387903):∀(t:T) (n:Nat),Rep t0.nodes n t->t.all.length<=1000000->(∀p∈t.all,p.2.length<=70368744177664) ->PL cfg G 249 [tW t0,.int .i64 (n:Int)] 149 33 (t.all.map pW):=by
 intro t;induction t with
 |nil=>
  intro n hr hl hv R;obtain rfl:n=0:=by cases hr;rfl
  refine gIs 13 O (λk0=>?_);refine gS 0 O (λh1=>?_) (λh1=>?_)
  ·exact zcq 7 O (fin (w:=gW 0 33 []) Jp (v5q (b:=0) (ty:=149) (l2:=[]) (H0:=[]) (fr2:=[]) 4 Xd Xd rfl trivial trivial (λx r h=>by cases h) rfl trivial List.nodup_nil) rfl ⟨rfl,rfl,rfl,rfl⟩)
  ·exfalso;omega
 |leaf k v=>
  intro n hr hl hv R;have hle:=hr.le;have hvl:=hv (k,v) (by simp[T.all]);simp only at hvl;cases hr with
  |leaf h=>
  rename_i n l r;refine gIs 13 O (λk0=>?_);refine gS 0 O (λh1=>?_) (λh1=>?_)
  ·exfalso;omega
  ·exact gA 7 O (n) (gP 0 O (zDq (i:=n) O O O O O O O (zqq nW h)) (zcq 19 O (KUq O O O O O O (x5q v false hvl) Xh Xh Xw (ybq 7 O (fin (w:=gW 0 33 [pW (k,v)]) Jp (ent_one (b:=0) (x:=pW (k,v)) 2 4 Xd Xd Xd O O O O Xh) rfl ⟨rfl,rfl,rfl,rfl⟩)))))
 |fork tl tr ihL ihR=>
  intro n hr hl hv R;have hle:=hr.le;cases hr with
  |fork h hl0 hr0 hL hR=>
  rename_i n l r k v;have hlen:tl.all.length+tr.all.length<=1000000:=by simpa[T.all] using hl
  obtain⟨l1,e1⟩:∃q,q=tl.all.map pW:=⟨_,rfl⟩
  obtain⟨l2,e2⟩:∃q,q=tr.all.map pW:=⟨_,rfl⟩
  have P1:PL cfg G 249 [tW t0,.int .i64 (l:Int)] 149 33 l1:=e1▸ihL l hL Xd λp hp=>hv p Jc
  have P2:PL cfg G 249 [tW t0,.int .i64 (r:Int)] 149 33 l2:=e2▸ihR r hR Xd λp hp=>hv p Jc
  have p1:purL l1=true:=by rw[e1];exact qLq _
  have p2:purL l2=true:=by rw[e2];exact qLq _
  have hl1:l1.length<=1000000:=by rw[e1,List.length_map];omega
  have hl2:l2.length<=1000000:=by rw[e2,List.length_map];omega
  have e3:(T.fork tl tr).all.map pW=l1++l2:=by rw[e1,e2];simp[T.all]
  rw[e3];clear e1 e2 e3;refine gIs 13 O (λk0=>?_);refine gS 0 O (λh1=>?_) (λh1=>?_)
  ·exfalso;omega
  ·refine gA 7 O (n) (gP 0 O (zDq (i:=n) O O O O O O O (zqq nW h)) (zcq 20 O ?_));skip
   skip
   cases l1 with
   |nil=>
    cases l2 with
    |nil=>
     (refine z9q rfl (kpq O O O O O Xh P1 Xr ?_);refine⟨by first|rfl|kernel_rfl,?_⟩)
     refine ybq 3 O ?_
     (refine z9q rfl (kpq O O O O O Xh P2 Xr ?_);refine⟨by first|rfl|kernel_rfl,?_⟩)
     refine k7q rfl (zKq O O (YHq O O O O O)) Xw (ybq 4 O ?_);refine fin (w:=gW 0 33 ([]:List W)) Jp (v5q (b:=0) (ty:=149) (l2:=[]) (H0:=[]) (fr2:=[]) 4 Xd Xd rfl trivial trivial (λx r h=>by cases h) rfl trivial List.nodup_nil) rfl ⟨rfl,?_,?_,rfl⟩
     ·rfl
     ·rfl
    |cons y2 r2=>
     (refine z9q rfl (kpq O O O O O Xh P1 Xr ?_);refine⟨by first|rfl|kernel_rfl,?_⟩)
     refine ybq 3 O ?_
     (refine z9q rfl (kpq O O O O O Xh P2 Xr ?_);refine⟨by first|rfl|kernel_rfl,?_⟩)
     refine k7q rfl (zKq O O (j7q (news:=y2::r2) (k:=ti149) O O O O (zJq O O O (zfq Xm O O)) Xh (by show(y2::r2).length*56<=_;omega) Xd)) Xw (ybq 4 O ?_);refine fin (w:=gW 0 33 (y2::r2)) Jp (qwq (b:=0) (l2:=y2::r2) (H0:=[]) (fr2:=[]) 4 4 Xd Xd Xd Xh O O trivial trivial rfl p2 trivial List.nodup_nil) rfl ⟨rfl,?_,?_,rfl⟩
     ·rfl
     ·rfl
   |cons y1 r1=>
    cases l2 with
    |nil=>
     (refine z9q rfl (kpq O O O O O Xh P1 Xr ?_);refine⟨by first|rfl|kernel_rfl,?_⟩)
     refine ybq 3 O ?_
     (refine z9q rfl (kpq O O O O O Xh P2 Xr ?_);refine⟨by first|rfl|kernel_rfl,?_⟩)
     refine k7q rfl (zKq O O (xOq (k:=ti149) O O O O O)) Xw (ybq 4 O ?_);refine fin (w:=gW 0 33 (y1::r1)) Jp (qwq (b:=0) (l2:=y1::r1) (H0:=[]) (fr2:=[]) 2 4 Xd Xd Xd Xh O O trivial trivial rfl p1 trivial List.nodup_nil) rfl ⟨rfl,?_,?_,rfl⟩
     ·rw[List.append_nil]
     ·rw[List.append_nil];rfl
    |cons y2 r2=>
     (refine z9q rfl (kpq O O O O O Xh P1 Xr ?_);refine⟨by first|rfl|kernel_rfl,?_⟩)
     refine ybq 3 O ?_
     (refine z9q rfl (kpq O O O O O Xh P2 Xr ?_);refine⟨by first|rfl|kernel_rfl,?_⟩)
     refine k7q rfl (zKq O O (yQq (len:=(y1::r1).length) (news:=y2::r2) (olds:=y1::r1) (k:=ti149) O O O O (zJq O O O (zfq Xm O O)) Xh (by show((y1::r1).length+(y2::r2).length)*56<=_;omega) Xd rfl (by show(y1::r1).length*33<0+((y1::r1).length+(y2::r2).length)*33;simp only[List.length_cons];omega) rfl (zfq Xm O O))) Xw (ybq 4 O ?_);refine fin (w:=gW 0 33 ((y1::r1)++(y2::r2))) Jp (qwq (b:=0) (l2:=(y1::r1)++(y2::r2)) (n:=(y1::r1).length+(y2::r2).length) (H0:=[]) (fr2:=[]) 4 4 Xd Xd Xd Xh rfl (by rw[List.length_append]) trivial trivial rfl (by rw[purL_app,p1,p2];rfl) trivial List.nodup_nil) rfl ⟨rfl,?_,?_,rfl⟩
     ·rfl
     ·rfl
theorem g_get(b e:Nat)(l:List W)(r:W):z2q 50 (.agg 2 [gW b e l,r]) 0 1 false=some (gW b e l):=by cases l<;>rfl
theorem g_put(b e:Nat)(l:List W)(r:W)(b' n:Nat):qlq 50 (.agg 2 [gW b e l,r]) 0 (.sl b' 0 0 n e none)=some (.agg 2 [.sl b' 0 0 n e none,r]):=by cases l<;>rfl
theorem rttwin_s(t:Tree)(hb:t.nodes.length<=1000000000)(hv:∀x∈t.nodes,x.val.length<=70368744177664):PS cfg G 106 [tW t] (tW t):=by
 have e:(t.nodes.map nW).length=t.nodes.length:=List.length_map _;refine gIv 18 O (λR k0=>qqq (λ_=>juq (fr2:=[(1,.ptr 0 0),(2,.ptr 1 0),(3,.ptr 2 0)]) ⟨rfl,rfl,rfl,trivial⟩) (z1q O O ?_))
 refine zgq 3 O ?_;refine yUq (α:=Nat) (λi=>i<=t.nodes.length) (λi=>[(4,.int .i64 (i:Int))]) [(1,_),(2,_),(3,_)] (λi=>[(2,24,.agg 2 [gW 3 36 ((t.nodes.take i).map nW),.int .i64 t.root]),(1,24,.agg 2 [.nils,.int .i64 0]),(0,24,tW t)]++gH 3 230 36 ((t.nodes.take i).map nW)) (λi=>t.nodes.length-i) (0) ⟨rfl,rfl,rfl,trivial⟩ (Nat.zero_le _) ⟨rfl,trivial⟩ (rfl) (λi hI=>?_);refine zBq 6 O (gV (w':=.int .i64 (t.nodes.length:Int)) 0 O Xv ?_);refine gS 3 O (λh1=>?_) (λh1=>?_)
 ·have hi:i<t.nodes.length:=by omega
  obtain⟨x,hx⟩:∃x,t.nodes[i]? =some x:=⟨_,List.getElem?_eq_getElem hi⟩
  have hxv:=hv x (List.mem_of_getElem? hx);have el:((t.nodes.take i).map nW).length=i:=by simp;omega
  have es:(t.nodes.take (i+1)).map nW=(t.nodes.take i).map nW++[nW x]:=by rw[List.take_add_one,hx,List.map_append];rfl
  have ep:purL ((t.nodes.take i).map nW++[nW x])=true:=by rw[<-es];exact z7q xVq _
  refine gP 9 O (zDq (i:=i) O O O O O O O (zqq nW hx)) (zcq 9 O (yqq O O O O O O (x5q x.val false hxv) (zgq 6 O (gM 0 O (zMq O O O (g_get 3 36 _ _)) (gM 2 O (zKq O O (qeq [_,_,_,_,_] (k:=ti230) (news:=[nW x]) O O O O O (zJq O O O O) Xh (by show(((t.nodes.take i).map nW).length+1)*80<=_;omega) (by show((t.nodes.take i).map nW).length+1<=_;omega) rfl Xh)) (gM 1 O (y7q O O O O O (g_put 3 36 _ _ _ _) rfl) (gA 5 O (i+1) (zcq 2 O ?_))))))));skip
  refine yHq (i+1) hi Xd ?_;simp only;have hne:(t.nodes.take i).map nW++[nW x]≠[]:=List.append_ne_nil_of_right_ne_nil _ Xh;rw[es,qhq hne,qiq hne];refine ydq (b:=3) (k:=6) Xd Xd Xd ⟨⟨rfl,rfl⟩,⟨rfl,rfl⟩,⟨rfl,rfl⟩,⟨rfl,rfl⟩,trivial⟩ ⟨⟨by omega,rfl,rfl⟩,⟨by omega,rfl,rfl⟩,⟨by omega,?_,zbq Xh⟩,⟨by omega,?_,zbq ep⟩,trivial⟩ Xh
  ·rw[zeq Xh];rfl
  ·rw[zeq (by exact ep)];rfl
 ·have hi:i=t.nodes.length:=by omega
  subst hi;rw[List.take_length];exact zcq 2 O (yKq Xi (zyq 9 O (quq Xt O (.agg (.cons (j8q (H0:=[(2,24,.agg 2 [gW 3 36 (t.nodes.map nW),.int .i64 t.root]),(1,24,.agg 2 [gW 3 36 (t.nodes.map nW),.int .i64 t.root]),(0,24,tW t)]) Xm (vcq _) Xh) (.cons (.pur rfl) .nil))))))
theorem tree_ext{a b:Tree}(h1:a.nodes=b.nodes)(h2:a.root=b.root):a=b:=by cases a;cases b;simp only at h1 h2;subst h1;subst h2;rfl
theorem node_ext{a b:Node}(h1:a.leaf=b.leaf)(h2:a.key=b.key)(h3:a.val=b.val)(h4:a.left=b.left)(h5:a.right=b.right):a=b:=by cases a;cases b;simp only at h1 h2 h3 h4 h5;subst h1;subst h2;subst h3;subst h4;subst h5;rfl
noncomputable instance(a b:Tree):Decidable (a=b):=Classical.propDecidable _
theorem Kiq(a b:Tree)(hb:a.nodes.length<=1000000000):PS cfg G 122 [tW a,tW b] (.bool (decide (a=b))):=by
 have ea:(a.nodes.map nW).length=a.nodes.length:=List.length_map _;have eb:(b.nodes.map nW).length=b.nodes.length:=List.length_map _;refine gI 14 O (λR k0=>?_);refine gD 0 O (λh1=>?_) (λh1=>?_)
 ·have hno:¬a=b:=λh=>h1 (by rw[h])
  exact gQ 19 O Yj
 have hroot:a.root=b.root:=by simpa using h1
 refine gV (w':=.int .i64 (a.nodes.length:Int)) 3 O Yz (gV (w':=.int .i64 (b.nodes.length:Int)) 2 O (by rw[<-eb];rfl) (gU 0 O ?_));refine gS 3 O (λh2=>?_) (λh2=>?_)
 ·have hno:¬a=b:=λh=>h2 (by rw[h])
  exact gQ 7 O Yj
 have hlen:a.nodes.length=b.nodes.length:=by omega
 refine gLo (α:=Nat) 9 (λi=>i<=a.nodes.length/\a.nodes.take i=b.nodes.take i) (λi=>[(5,.int .i64 (i:Int))]) [2,3,4] (λi=>a.nodes.length-i) (0) rfl (⟨Nat.zero_le _,rfl⟩) (λi hI=>?_);obtain⟨g1,g2⟩:=hI;refine gV (w':=.int .i64 (a.nodes.length:Int)) 6 O Yz ?_;refine gS 3 O (λh3=>?_) (λh3=>?_)
 ·have hi:i<a.nodes.length:=by omega
  obtain⟨x,hx⟩:∃x,a.nodes[i]? =some x:=⟨_,List.getElem?_eq_getElem hi⟩
  obtain⟨y,hy⟩:∃y,b.nodes[i]? =some y:=⟨_,List.getElem?_eq_getElem Xd⟩
  have no:x≠y->¬a=b:=λh q=>h Qk
  refine gP 9 O (zDq (i:=i) O O O O O O O (zqq nW hx)) (gP 4 O (zDq (i:=i) O O O O O O O (zqq nW hy)) ?_);refine gD 13 O (λh4=>?_) (λh4=>?_)
  ·have hno:=no λq=>by rw[q] at h4;simp at h4
   exact gO 40 O (gQ 2 O Yj)
  refine gDe 5 O (jwq O O O O (yXq O O O O O O _ _ 250)) (jGq z5q) (λh5=>?_) (λh5=>?_)
  ·have hno:=no λq=>h5 Jf
   exact gO 34 O (gQ 2 O Yj)
  refine gC 6 O (same_s _ _ _ _) ?_;refine gB 0 O (λh6=>?_) (λh6=>?_)
  ·refine gD 7 O (λh7=>?_) (λh7=>?_)
   ·have hno:=no λq=>h7 Jf
    exact gO 19 O (gQ 2 O Yj)
   refine gU 6 O ?_;refine gS 3 O (λh8=>?_) (λh8=>?_)
   ·have hno:=no λq=>h8 Jf
    exact gO 8 O (gQ 2 O Yj)
   have hxy:x=y:=node_ext (by simpa using h4) (by simpa using h5) h6 (by simpa using h7) (by simpa using h8);exact gA 5 O (i+1) (gAg 2 O (i+1) (⟨hi,by rw[List.take_add_one,List.take_add_one,g2,hx,hy,hxy]⟩) Xd)
  ·have hno:=no λq=>h6 Jf
   exact gO 27 O (gQ 2 O Yj)
 ·refine gO 2 O (gQ 8 O ?_);rw[decide_eq_true];have:=g2;rw[List.take_of_length_le Xd,List.take_of_length_le Xd] at this;exact tree_ext this hroot
theorem rall_s(t:Tree)(n:Nat)(t0:T)(h:IsT t n t0):PS cfg G 183 [tW t] (psW t0.all):=by
 have h1:=h.all_le;have h2:=h.len;have h3:=h.root;obtain⟨ns,root⟩:=t;simp only at h1 h2 h3;subst h3;have P:=(rfor_s (G:=G) ⟨ns,(n:Int)⟩ Qa t0 n h.rep Xd (λp hp=>by have:=(h.val p hp).2;omega)).ps Xm (qLq _);exact gI 11 O (λR k0=>KCq O O O O O O P Xh Xh (zgq 4 O (gQa 0 O)))
theorem x6q(ds:List Depo)(xs:List Tx)(f g:Bool)(hd:ds.length<=1000000)(hx:xs.length<=1000000):PS cfg G 50 [bodW ds xs f g] (bodW ds xs false false):=by
 have e1:(ds.map pdW).length=ds.length:=List.length_map _;have e2:(xs.map txW).length=xs.length:=List.length_map _;refine gI 17 O (λR k0=>?_)
 (refine zjq rfl (uCq (k:=ti208) (e:=34) (news:=ds.map pdW) O O O O O O O O O Xh (by rw[e1];show _*48<=_;omega) Xd ?_))
 refine zgq 10 O ?_
 (refine zjq rfl (uCq (k:=ti165) (e:=99) (news:=xs.map txW) O O O O O O O O O Xh (by rw[e2];show _*120<=_;omega) Xd ?_))
 exact zgq 11 O (gQa 0 O)
structure SmallC(c:Ch):Prop where
 nodes:c.tree.nodes.length<=1000000
 vals:∀x∈c.tree.nodes,x.val.length<=70368744177664
 len:c.links.length<=1000000
 link:∀x∈c.links,x.ds.length<=1000000/\x.xs.length<=1000000/\x.rs.length<=1000000
theorem c_get(b:Nat)(l:List W)(t:Tree):z2q 50 (.agg 3 [tW t,gW b 102 l]) 2 1 false=some (gW b 102 l):=by cases l<;>rfl
theorem c_put(b:Nat)(l:List W)(t:Tree)(b' n:Nat):qlq 50 (.agg 3 [tW t,gW b 102 l]) 2 (.sl b' 0 0 n 102 none)=some (.agg 3 [tW t,.sl b' 0 0 n 102 none]):=by cases l<;>rfl
theorem Y0q(c:Ch)(hs:SmallC c):PS cfg G 36 [chG c] (chG c):=by
 obtain⟨q1,q2,q3,q4⟩:=hs;have e:(c.links.map lkG).length=c.links.length:=List.length_map _;refine gIv 10 O (λR k0=>gC 0 O (rttwin_s c.tree Xd q2) (zcq 8 O (qqq (λ_=>juq (fr2:=[(1,.ptr 0 0),(2,.ptr 1 0),(3,.ptr 2 0)]) ⟨rfl,rfl,rfl,trivial⟩) (z1q O O ?_))))
 refine zgq 3 O ?_;refine yUq (α:=Nat) (λi=>i<=c.links.length) (λi=>[(4,.int .i64 (i:Int))]) [(1,_),(2,_),(3,_)] (λi=>[(2,27,.agg 3 [tW c.tree,gW 3 102 ((c.links.take i).map lkG)]),(1,27,.agg 3 [.agg 2 [.nils,.int .i64 0],.nils]),(0,27,chG c)]++gH 3 118 102 ((c.links.take i).map lkG)) (λi=>c.links.length-i) (0) ⟨rfl,rfl,rfl,trivial⟩ (Nat.zero_le _) ⟨rfl,trivial⟩ (rfl) (λi hI=>?_);refine zBq 6 O (gZ 0 O e ?_);refine gS 3 O (λh1=>?_) (λh1=>?_)
 ·have hi:i<c.links.length:=by omega
  obtain⟨x,hx⟩:∃x,c.links[i]? =some x:=⟨_,List.getElem?_eq_getElem hi⟩
  obtain⟨b1,b2,b3⟩:=q4 x (List.mem_of_getElem? hx);have e3:(x.rs.map rcW).length=x.rs.length:=List.length_map _;have el:((c.links.take i).map lkG).length=i:=by simp;omega
  have es:(c.links.take (i+1)).map lkG=(c.links.take i).map lkG++[lkG x]:=by rw[List.take_add_one,hx,List.map_append];rfl
  have ep:purL ((c.links.take i).map lkG++[lkG x])=true:=by rw[<-es];exact q1q _
  refine gP 9 O (zDq (i:=i) O O O O O O O (zqq lkG hx)) (gC 9 O (x6q x.ds x.xs false false b1 b2) (zcq 14 O ?_))
  (refine zjq rfl (uCq (k:=J4q) (e:=34) (news:=x.rs.map rcW) O O O O O O O O O Xh Jb Xd ?_))
  refine zgq 6 O (gM 0 O (zMq O O O (c_get 3 _ _)) (gM 2 O (zKq O O (qeq [_,_,_,_,_] (k:=ti118) (news:=[lkG x]) O O O O O (zJq O O O O) Xh (by show(((c.links.take i).map lkG).length+1)*192<=_;omega) (by show((c.links.take i).map lkG).length+1<=_;omega) rfl Xh)) (gM 1 O (y7q O O O O O (c_put 3 _ _ _ _) rfl) (gA 5 O (i+1) (zcq 2 O ?_)))));skip
  refine yHq (i+1) hi Xd ?_;simp only;have hne:(c.links.take i).map lkG++[lkG x]≠[]:=List.append_ne_nil_of_right_ne_nil _ Xh;rw[es,qhq hne,qiq hne];refine ydq (b:=3) (k:=7) Xd Xd Xd ⟨⟨rfl,rfl⟩,⟨rfl,rfl⟩,⟨rfl,rfl⟩,⟨rfl,rfl⟩,trivial⟩ ⟨⟨by omega,?_,?_⟩,⟨by omega,rfl,rfl⟩,⟨by omega,?_,zbq Xh⟩,⟨by omega,?_,zbq ep⟩,trivial⟩ Xh
  ·show some (_,W.agg 3 [_,_])=some (_,W.agg 3 [renW _ (tW c.tree),renW _ (.sl 3 0 0 _ 102 none)]);rw[zeq (qkq _)];rfl
  ·show(refB _ (tW c.tree)&&_)=true;rw[zbq (qkq _)];rfl
  ·rw[zeq Xh];rfl
  ·rw[zeq (by exact ep)];rfl
 ·have hi:i=c.links.length:=by omega
  subst hi;rw[List.take_length];exact zcq 2 O (yKq Xi (zyq 9 O (quq Jp O (.agg (.cons (.pur Xh) (.cons (j8q (H0:=[(2,27,.agg 3 [tW c.tree,gW 3 102 (c.links.map lkG)]),(1,27,.agg 3 [tW c.tree,gW 3 102 (c.links.map lkG)]),(0,27,chG c)]) Xm (q1q _) Xh) .nil))))))
theorem Kfq(v:Vw)(hs:SmallC v.ch):PS cfg G 8 [vwG v] (vwG v):=by
 refine gI 10 O (λR k0=>?_);first|refine gC 0 O (Y0q v.ch hs) ?_|refine gC 0 O (Y0q _ Xr) ?_
 exact gQa 11 O
def Q2q(c:Ch)(n:Nat):Prop:=JXq c.tree 900\/n<c.links.length\/∃x∈c.links,yVq x.ds x.xs\/40<x.rs.length
noncomputable instance(c:Ch)(n:Nat):Decidable (Q2q c n):=Classical.propDecidable _
theorem greatc_s(c:Ch)(n:Nat)(hb:c.tree.nodes.length<=4611686018427387903)(hl:c.links.length<=4611686018427387903):PS cfg G 35 [chG c,.int .i64 (n:Int)] (.bool (decide (Q2q c n))):=by
 by_cases hg:JXq c.tree 900
 ·skip
  exact gI 11 O (λR k0=>gC 0 O (zzq (w':=.bool true) (great_s c.tree 900 hb Xd) (by rw[decide_eq_true (hg)])) (gQ 17 O (K4q (.inl hg))))
 refine gI 11 O (λR k0=>gC 0 O (zzq (w':=.bool false) (great_s c.tree 900 hb Xd) (by rw[decide_eq_false (hg)])) (gZ 3 O LMq (gU 1 O ?_)));refine gS 3 O (λh1=>?_) (λh1=>?_)
 ·exact gQ 7 O (K4q (.inr (.inl Xd)))
 refine gLo (α:=Nat) 9 (λi=>i<=c.links.length/\∀j x,j<i->c.links[j]? =some x->¬(yVq x.ds x.xs\/40<x.rs.length)) (λi=>[(5,.int .i64 (i:Int))]) [2,4] (λi=>c.links.length-i) (0) rfl (⟨Nat.zero_le _,λj x h=>by omega⟩) (λi hI=>?_);obtain⟨g1,g2⟩:=hI;refine gZ 6 O LMq ?_;refine gS 3 O (λh2=>?_) (λh2=>?_)
 ·have hi:i<c.links.length:=by omega
  obtain⟨x,hx⟩:∃x,c.links[i]? =some x:=⟨_,List.getElem?_eq_getElem hi⟩
  refine gP 9 O (zDq (i:=i) O O O O O O O (zqq lkG hx)) (gC 2 O (Qiq x.ds x.xs false false) ?_);refine gB 0 O (λh3=>?_) (λh3=>?_)
  ·exact gO 21 O (gQ 2 O (K4q (.inr (.inr ⟨x,List.mem_of_getElem? hx,.inl h3⟩))))
  ·refine gP 4 O (zDq (i:=i) O O O O O O O (zqq lkG hx)) (gZ 2 O LMq (gU 0 O ?_));refine gS 3 O (λh4=>?_) (λh4=>?_)
   ·exact gO 8 O (gQ 2 O (K4q (.inr (.inr ⟨x,List.mem_of_getElem? hx,.inr Xd⟩))))
   ·exact gA 5 O (i+1) (gAg 2 O (i+1) (⟨hi,λj y hj hy=>by rcases Nat.lt_succ_iff_lt_or_eq.1 hj with q|rfl;exact g2 j y q hy;exact Option.some.inj (hx.symm.trans hy)▸λq=>q.elim h3 Xd⟩) Xd)
 ·have no:¬Q2q c n:=by
   rintro(q|q|⟨x,hx,q⟩)
   ·exact hg q
   ·omega
   ·obtain⟨j,hj⟩:=List.getElem?_of_mem hx;exact g2 j x (by have:=jAq hj;omega) hj q
  exact gO 2 O (gQ 8 O (y6q no))
theorem KNq(v:Vw)(n:Nat)(hb:v.ch.tree.nodes.length<=4611686018427387903)(hl:v.ch.links.length<=4611686018427387903):PS cfg G 6 [vwG v,.int .i64 (n:Int)] (.bool (decide (Q2q v.ch n))):=by
 exact gI 11 O (λR k0=>gC 0 O (greatc_s v.ch n hb hl) (gQa 4 O))
theorem greatc_no{c:Ch}{n:Nat}(h:¬Q2q c n):c.tree.nodes.length<=900/\c.links.length<=n/\∀x∈c.links,¬yVq x.ds x.xs/\x.rs.length<=40:=
 ⟨Nat.le_of_not_lt λq=>h (.inl (.inl q)),Nat.le_of_not_lt λq=>h (.inr (.inl q)),λx hx=>⟨λq=>h (.inr (.inr ⟨x,hx,.inl q⟩)),Nat.le_of_not_lt λq=>h (.inr (.inr ⟨x,hx,.inr q⟩))⟩⟩
end
theorem p32:(4294967296:Nat)=2^32:=by decide
noncomputable def fz{α:Type}(n:Nat)(c:Nat->α):α:=Nat.rec (c 0) (λm _=>c (Nat.succ m)) n
structure S8.Ok(s:S8):Prop where
 a:s.a<4294967296
 b:s.b<4294967296
 c:s.c<4294967296
 d:s.d<4294967296
 e:s.e<4294967296
 f:s.f<4294967296
 g:s.g<4294967296
 h:s.h<4294967296
theorem uWq(a b:Nat):addN a b<4294967296:=Nat.mod_lt _ Xm
theorem rnd_ok{s:S8}(h:s.Ok)(k w:Nat):(roundN k w s).Ok:=⟨uWq _ _,h.a,h.b,h.c,uWq _ _,h.e,h.f,h.g⟩
noncomputable def wS(bs:Nat->Nat)(i:Nat):Nat:=(yfq bs (i+1)).getD i 0
theorem rounds_ok{s:S8}(h:s.Ok)(ws:List Nat):∀t,(xTq ws s t).Ok
 |0=>h
 |t+1=>rnd_ok (rounds_ok h ws t) _ _
theorem word_eq{b0 b1 b2 b3:Nat}(h0:b0<256)(h1:b1<256)(h2:b2<256)(h3:b3<256):wordN b0 b1 b2 b3=Nat.lor (Nat.lor (Nat.lor (Nat.shiftLeft b0 24) (Nat.shiftLeft b1 16)) (Nat.shiftLeft b2 8)) b3:=by
 have s:∀b n,b<256->n<=24->Nat.shiftLeft b n<4294967296:=λb n hb hn=>by
  show b<<<n<4294967296;rw[Nat.shiftLeft_eq];have:2^n<=2^24:=Nat.pow_le_pow_right Xm hn;have:=Nat.mul_le_mul (show b<=255 by omega) this;omega
 have e:∀b n,b<256->n<=24->shlN (b%4294967296) n=Nat.shiftLeft b n:=λb n hb hn=>by
  unfold shlN;rw[Nat.min_eq_left Xd,Nat.mod_eq_of_lt (show b<4294967296 by omega),Nat.mod_eq_of_lt (s b n hb hn)]
 have o:∀a b,a<4294967296->b<4294967296->orN a b=Nat.lor a b:=λa b ha hb=>by
  unfold orN;rw[Nat.mod_eq_of_lt ha,Nat.mod_eq_of_lt hb]
 have ol:∀a b,a<4294967296->b<4294967296->Nat.lor a b<4294967296:=λa b ha hb=>by
  rw[p32] at*
  exact Nat.or_lt_two_pow ha hb
 unfold wordN;rw[e b0 24 h0 Xm,e b1 16 h1 Xm,e b2 8 h2 Xm,Nat.mod_eq_of_lt (show b3<4294967296 by omega)];rw[o _ _ (s b0 24 h0 Xm) (s b1 16 h1 Xm),o _ _ (ol _ _ (s b0 24 h0 Xm) (s b1 16 h1 Xm)) (s b2 8 h2 Xm),o _ _ (ol _ _ (ol _ _ (s b0 24 h0 Xm) (s b1 16 h1 Xm)) (s b2 8 h2 Xm)) Xd]
noncomputable def small(l:List Nat):Prop:=∀b∈l,b<256
theorem small_at{l:List Nat}(h:small l)(i:Nat):atL l i<256:=by
 unfold atL;rw[List.getD_eq_getElem?_getD];cases hq:l[i]? with
 |none=>show(0:Nat)<256;decide
 |some b=>exact h b (List.mem_of_getElem? hq)
theorem block_ok(s:S8)(bs:Nat->Nat):(jCq bs s).Ok:=⟨uWq _ _,uWq _ _,uWq _ _,uWq _ _,uWq _ _,uWq _ _,uWq _ _,uWq _ _⟩
theorem pad_eq:∀(n:Nat) (r:List Nat),(120-r.length%64)%64<=n->padZ n r=r++List.replicate ((120-r.length%64)%64) 0
 |0,r,h=>by
  rw[Nat.le_zero.1 h];simp[padZ]
 |n+1,r,h=>by
  unfold padZ;cases hb:Nat.beq (r.length%64) 56 with
  |true=>
   have:=Nat.eq_of_beq_eq_true hb;rw[this];simp
  |false=>
   have hne:r.length%64≠56:=λe=>by rw[e] at hb;cases hb
   show padZ n (r++[0])=_;have hl:(r++[0]).length=r.length+1:=by simp
   rw[pad_eq n (r++[0]) (by rw[hl];omega),hl,List.append_assoc];have:(120-r.length%64)%64=(120-(r.length+1)%64)%64+1:=by omega
   rw[this];rfl
section
attribute [local irreducible] CoW OpW FlW Step Spec
variable {G:Nat->Option W}
noncomputable def rotT(x n:Nat):Nat:=orN (shrN x n) (shlN x (32-n))
theorem rotT_eq{x n:Nat}(hn:n<=32):rotT x n=rotN x n:=by
 unfold rotT rotN orN shrN shlN;rw[Nat.min_eq_left hn,Nat.min_eq_left (Nat.sub_le _ _)];exact Nat.or_comm _ _
theorem q5q(n:Nat)(hn:n=2\/n=6\/n=7\/n=11\/n=13\/n=17\/n=18\/n=19\/n=22\/n=25)(x:Nat):PS cfg G 352 [wd x,wd n] (wd (rotN x n)):=by
 have key:∀h,qOq cfg 20 352 [.int .u32 (.ofNat x),.int .u32 (.ofNat n)] h=some (.int .u32 (.ofNat (rotT x n)),h):=by
  intro h;rcases hn with rfl|rfl|rfl|rfl|rfl|rfl|rfl|rfl|rfl|rfl<;>kernel_rfl
 have e:rotT x n=rotN x n:=rotT_eq Xd;rw[e] at key;refine jFq (spec_run key (λΓ us h=>?_) (λΓ=>RV_int.2 rfl)) λw hp nw h=>h.1
 obtain⟨v,vs,rfl,h1,h2⟩:=RVL_cons.1 h;obtain⟨v',vs',rfl,h3,h4⟩:=RVL_cons.1 h2;rw[RVL_nil.1 h4,RV_int.1 h1,RV_int.1 h3]
theorem sub_not{e:Nat}(he:e<4294967296):4294967295-e=notN e:=by
 unfold notN;rw[Nat.mod_eq_of_lt he];have h:=BitVec.toNat_not (x:=BitVec.ofNat 32 e);rw[<-BitVec.allOnes_xor] at h;simp only[BitVec.toNat_xor,BitVec.toNat_allOnes,BitVec.toNat_ofNat] at h;rw[Nat.mod_eq_of_lt (show e<2^32 from he)] at h;exact h.symm
theorem wrap_not{e:Nat}(he:e<4294967296):W.int .u32 (kaq .u32 ((4294967295:Int) -Int.ofNat e))=wd (notN e):=by
 rw[<-sub_not he]
 have:(4294967295:Int) -Int.ofNat e=((4294967295-e:Nat):Int):=by
  show(4294967295:Int) -(e:Int)=_;omega
 rw[this];show W.int .u32 (((4294967295-e)%4294967296:Nat):Int)=W.int .u32 ((4294967295-e:Nat):Int);rw[Nat.mod_eq_of_lt Xd]
theorem rround_s(v:S8)(hv:v.Ok)(k w:Nat):PS cfg G 348 [.arr 8 1 v.l,wd k,wd w] (.arr 8 1 (roundN k w v).l):=by
 refine gI 8 O (λR k0=>?_);refine gX 0 O ?_;refine gX 1 O ?_;refine gX 1 O ?_;refine gX 1 O ?_;refine gX 1 O ?_;refine gX 1 O ?_;refine gX 1 O ?_;refine gX 1 O ?_;refine gC 15 O (q5q _ Xh _) ?_;refine gC 1 O (q5q _ Xh _) ?_;refine gC 2 O (q5q _ Xh _) ?_;refine gV (w':=wd (notN v.e)) 6 O (wrap_not hv.e) ?_;refine gC 14 O (q5q _ Xh _) ?_;refine gC 1 O (q5q _ Xh _) ?_;refine gC 2 O (q5q _ Xh _) ?_;exact gQa 35 O
theorem words_s:PS cfg G 346 [] (.arr 64 1 (kW.map wd)):=by
 exact gI 12 O (λR k0=>gQa 0 O)
noncomputable def horn(bs:Nat->Nat)(t:Nat):Nat->Nat
 |0=>0
 |i+1=>addN (256*horn bs t i%4294967296) (bs (4*t+i))
theorem horn_word{bs:Nat->Nat}(hb:∀i,bs i<256)(t:Nat):horn bs t 4=wordN (bs (4*t)) (bs (4*t+1)) (bs (4*t+2)) (bs (4*t+3)):=by
 have h0:=hb (4*t);have h1:=hb (4*t+1);have h2:=hb (4*t+2);have h3:=hb (4*t+3);rw[word_eq h0 h1 h2 h3];have e1:=Nat.shiftLeft_add_eq_or_of_lt (i:=8) (b:=bs (4*t+1)) Xd (bs (4*t));have s:∀a i:Nat,Nat.shiftLeft a i=a*2^i:=λa i=>Nat.shiftLeft_eq a i
 have o1:Nat.lor (Nat.shiftLeft (bs (4*t)) 24) (Nat.shiftLeft (bs (4*t+1)) 16)=bs (4*t)*16777216+bs (4*t+1)*65536:=by
  have:=Nat.shiftLeft_add_eq_or_of_lt (i:=24) (b:=bs (4*t+1)*65536) Xd (bs (4*t));rw[Nat.shiftLeft_eq] at this;rw[s (bs (4*t+1)) 16];show bs (4*t)<<<24|||(bs (4*t+1)*2^16)=_
  rw[Nat.shiftLeft_eq];exact this.symm
 have o2:Nat.lor (bs (4*t)*16777216+bs (4*t+1)*65536) (Nat.shiftLeft (bs (4*t+2)) 8)=bs (4*t)*16777216+bs (4*t+1)*65536+bs (4*t+2)*256:=by
  have q:bs (4*t)*16777216+bs (4*t+1)*65536=(bs (4*t)*256+bs (4*t+1))*65536:=by rw[Nat.add_mul,Nat.mul_assoc]
  have:=Nat.shiftLeft_add_eq_or_of_lt (i:=16) (b:=bs (4*t+2)*256) Xd (bs (4*t)*256+bs (4*t+1));rw[Nat.shiftLeft_eq,show(2:Nat)^16=65536 from rfl] at this;rw[s];show(bs (4*t)*16777216+bs (4*t+1)*65536)|||(bs (4*t+2)*256)=_
  rw[q];exact this.symm
 have o3:Nat.lor (bs (4*t)*16777216+bs (4*t+1)*65536+bs (4*t+2)*256) (bs (4*t+3))=bs (4*t)*16777216+bs (4*t+1)*65536+bs (4*t+2)*256+bs (4*t+3):=by
  have q:bs (4*t)*16777216+bs (4*t+1)*65536+bs (4*t+2)*256=(bs (4*t)*65536+bs (4*t+1)*256+bs (4*t+2))*256:=by rw[Nat.add_mul,Nat.add_mul,Nat.mul_assoc,Nat.mul_assoc]
  have:=Nat.shiftLeft_add_eq_or_of_lt (i:=8) (b:=bs (4*t+3)) Xd (bs (4*t)*65536+bs (4*t+1)*256+bs (4*t+2));rw[Nat.shiftLeft_eq,show(2:Nat)^8=256 from rfl] at this;show(bs (4*t)*16777216+bs (4*t+1)*65536+bs (4*t+2)*256)|||bs (4*t+3)=_
  rw[q];exact this.symm
 rw[o1,o2,o3];simp only[horn,addN];rw[show 4*t+0=4*t from rfl];omega
end
end
end Go.Proofs.YtfliaigjcadegabGreatDoor

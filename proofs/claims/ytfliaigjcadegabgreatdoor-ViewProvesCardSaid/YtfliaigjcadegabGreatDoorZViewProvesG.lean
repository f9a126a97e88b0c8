/-
  What the proof of ViewProves stands on, part 7. No condition.
-/
import Derived.Ground.Names2Prog
import Derived.Ground.SlbNamesProg
import Derived.Shelf.Bytes.SlJoin
import Derived.Ground.SlgnProg
import Derived.Test.YtfliaigjcadegabGreatDoorProg
import Derived.Test.YtfliaigjcadegabGreatDoorZViewProvesF
set_option linter.unusedSimpArgs false
set_option linter.unusedVariables false
namespace Go.Proofs.YtfliaigjcadegabGreatDoor
section
open Go.RowKit
section
attribute [local irreducible] CoW OpW FlW Step Spec
variable {G:Nat->Option W}
structure Tx where
 pub:Dig
 to:Dig
 nonce:Nat
 amount:Nat
 fee:Nat
 sign:Dig
noncomputable def txW(x:Tx):W:=.agg 99 [dW x.pub,dW x.to,.int .u64 (x.nonce:Int),.int .u64 (x.amount:Int),.int .u64 (x.fee:Int),dW x.sign]
@[simp] theorem qRq(x:Tx):purW (txW x)=true:=by simp[txW]
structure Tx.ok(x:Tx):Prop where
 nonce:x.nonce<18446744073709551616
 amount:x.amount<18446744073709551616
 fee:x.fee<18446744073709551616
def jnq(x:Tx):List UInt8:=(x.pub.1++x.to.1)++[x.nonce,x.amount,x.fee].flatMap (beB 8)
theorem body1_s(d:Dig):PS cfg G 337 [dW d] (bW d.1):=by
 exact gIv 13 O (λR k0=>k2q Qt rfl (.sl (full:=false) (xs:=zaq d.1) rfl Xg (zpq Xn (by simp[zgq,d.2]) rfl) Xi))
theorem body2_s(n:Nat)(hn:n<18446744073709551616):PS cfg G 339 [.int .u64 (n:Int)] (bW (beB 8 n)):=by
 refine gIv 8 O (λR k0=>?_)
 (refine zqq rfl (qsq O O O O O O (Y6q n 8 Xd Xd (by show n<18446744073709551616;omega)) ?_);rintro w hp1 nw1 ⟨rfl,rfl,rfl⟩)
 exact zeq 14 O (k2q Qt rfl (.sl (full:=false) (c:=.arr (8*1) 1 (zaq (beB 8 n))) (xs:=zaq (beB 8 n)) rfl Xg (zpq Xn (by rw[zgq,y5q]) rfl) Xi))
theorem flat_app{ds:List Dig}{i:Nat}{d:Dig}(h:ds[i]? =some d):zaq ((ds.take (i+1)).flatMap (·.1))=zaq ((ds.take i).flatMap (·.1))++zaq d.1:=by
 rw[List.take_add_one,h,<-jbq];congr 1
 simp
theorem flat_dig:∀(ds:List Dig) (i:Nat),((ds.take i).flatMap (·.1)).length<=i*32
 |[],i=>by simp
 |d::ds,0=>by simp
 |d::ds,i+1=>by
  have:=flat_dig ds i;simp only[List.take_succ_cons,List.flatMap_cons,List.length_append,d.2,Nat.succ_mul];omega
@[simp] theorem dWs_pur(ds:List Dig):purL (ds.map dW)=true:=yAq (λx=>by simp) ds
theorem putd_s(ds:List Dig)(f:Bool)(hn:ds.length<1000):PL cfg G 336 [.nils,.fz (ds.map dW) 32 f,.fn 337 [] []] 5 1 (zaq (ds.flatMap (·.1))):=by
 have e:(ds.map dW).length=ds.length:=List.length_map _;intro R;refine gIs 9 O (λk0=>?_);refine gV (w':=.int .i64 (ds.length:Int)) 0 O Xv (zcq 4 O ?_);refine ZEq (α:=Nat) (λi=>i<=ds.length) 0 (λi=>zaq ((ds.take i).flatMap (·.1))) 5 1 (λi=>[(11,.int .i64 (i:Int))]) [(2,_),(6,_),(9,_),(10,_)] _ (λi=>ds.length-i) (0) ⟨rfl,rfl,rfl,rfl,trivial⟩ (Nat.zero_le _) ⟨rfl,trivial⟩ O O O (λi hI=>?_);refine zEq 6 O ?_;refine gS 0 O (λh1=>?_) (λh1=>?_)
 ·have hi:i<ds.length:=by omega
  obtain⟨d,hd⟩:∃d,ds[i]? =some d:=⟨_,List.getElem?_eq_getElem hi⟩
  have hN:(zaq d.1).length=32:=by rw[zgq,d.2]
  have hne:zaq ((ds.take i).flatMap (·.1))++zaq d.1≠[]:=λh=>by have:=congrArg List.length h;rw[List.length_append,hN] at this;simp at this
  have hL:(zaq ((ds.take i).flatMap (·.1))).length<=i*32:=by rw[zgq];exact flat_dig ds i
  exact gP 6 O (ymq (i:=i) O O O O O O O (zKq dW hd)) (gC 9 O (body1_s d) (gM 0 O (yRq O O (vhq [_] (k:=ti5) (news:=zaq d.1) O O O O O O Yv (by rw[hN];show(_+32)*1<=_;omega) (by rw[hN];omega) rfl Xg)) (gWr 5 O (zcq 2 O (kRq 2 (i+1) (hi) Xd (Nat.zero_le _) (flat_app hd) Yc Xd Ys rfl Yf ⟨rfl,trivial⟩ ⟨rfl,rfl,rfl,rfl,trivial⟩ Xh Xh rfl Xk Xl Ye)))))
 ·have hi:i=ds.length:=by omega
  subst hi;refine zcq 2 O (qmq Xi (zDq 9 O ?_));rw[List.take_length];exact fin Qt (yvq (fr2:=[(6,gW 0 1 (zaq (ds.flatMap (·.1))))]) ⟨rfl,trivial⟩ O O) rfl ⟨rfl,rfl,rfl,rfl⟩
theorem flat_num:∀(ns:List Nat) (i:Nat),((ns.take i).flatMap (beB 8)).length<=i*8
 |[],i=>by simp
 |d::ds,0=>by simp
 |d::ds,i+1=>by
  have:=flat_num ds i;simp only[List.take_succ_cons,List.flatMap_cons,List.length_append,y5q,Nat.succ_mul];omega
noncomputable def uW(n:Nat):W:=.int .u64 (n:Int)
@[simp] theorem uWs_pur(ns:List Nat):purL (ns.map uW)=true:=yAq (λx=>rfl) ns
noncomputable def thr(i:Nat):Nat:=match i with
 |0=>0
 |_+1=>1
theorem putu_s(l:List UInt8)(hl0:l≠[])(hl:l.length<100000)(ns:List Nat)(f:Bool)(hn:ns.length<1000)(hns:ns≠[])(hu:∀n∈ns,n<18446744073709551616):ydq cfg G 338 1 [.sl 0 0 0 l.length 1 none,.fz (ns.map uW) 1 f,.fn 339 [] []] [(0,5,.arr l.length 1 (zaq l))] λw hp nw=>w= .sl 1 0 0 (l++ns.flatMap (beB 8)).length 1 none/\hp=[(1,5,.arr (l++ns.flatMap (beB 8)).length 1 (zaq (l++ns.flatMap (beB 8))))]/\nw=2:=by
 have e:(ns.map uW).length=ns.length:=List.length_map _;intro R;refine gIs 9 O (λk0=>?_);refine gV (w':=.int .i64 (ns.length:Int)) 0 O Xv (zcq 4 O ?_);refine quq (α:=Nat) (λi=>i<=ns.length) (λi=>[(11,.int .i64 (i:Int)),(0,.sl (thr i) 0 0 (l++(ns.take i).flatMap (beB 8)).length 1 none),(2,.fn 339 [] []),(6,.nils),(9,.fz (ns.map uW) 1 f),(10,.int .i64 (ns.length:Int))]) (λi=>[(thr i,5,.arr (l++(ns.take i).flatMap (beB 8)).length 1 (zaq (l++(ns.take i).flatMap (beB 8))))]) (λi=>thr i+1) (λ_=>R) (λi=>ns.length-i) 0 (Nat.zero_le _) (yvq ⟨rfl,by show some (W.sl 0 0 0 l.length 1 none)=some (W.sl 0 0 0 (l++[]).length 1 none);rw[List.append_nil],rfl,rfl,rfl,rfl,trivial⟩ (by simp[thr]) rfl) (λi hI=>?_);skip
 refine zEq 6 O ?_;refine gS 0 O (λh1=>?_) (λh1=>?_)
 ·have hi:i<ns.length:=by omega
  obtain⟨u,hu0⟩:∃u,ns[i]? =some u:=⟨_,List.getElem?_eq_getElem hi⟩
  have hu1:=hu u (List.mem_of_getElem? hu0);have hN:(zaq (beB 8 u)).length=8:=by rw[zgq,y5q]
  have hL:(l++(ns.take i).flatMap (beB 8)).length<=100000+i*8:=by have:=flat_num ns i;rw[List.length_append];omega
  have hnx:l++(ns.take (i+1)).flatMap (beB 8)=(l++(ns.take i).flatMap (beB 8))++beB 8 u:=by rw[List.take_add_one,hu0];simp
  have hlen:(l++(ns.take i).flatMap (beB 8)).length+(zaq (beB 8 u)).length=(l++(ns.take (i+1)).flatMap (beB 8)).length:=by rw[hnx,List.length_append (bs:=beB 8 u),zgq]
  have hby:zaq (l++(ns.take i).flatMap (beB 8))++zaq (beB 8 u)=zaq (l++(ns.take (i+1)).flatMap (beB 8)):=by rw[hnx,jbq (b:=beB 8 u)]
  skip
  cases i with
  |zero=>
   refine yrq 6 O (gP 0 O (ymq (i:=0) O O O O O O O (zKq uW hu0)) (gC 8 O (body2_s u hu1) (gM 0 O (yRq O O (qcq (k:=ti5) (len:=(l++(ns.take 0).flatMap (beB 8)).length) (news:=zaq (beB 8 u)) (olds:=zaq (l++(ns.take 0).flatMap (beB 8))) O O O O O Yv (by rw[hN];show(_+8)*1<=_;omega) (by rw[hN];omega) rfl (by rw[hN];show(l++(ns.take 0).flatMap (beB 8)).length<0+(_+8)*1;omega) rfl (zpq Xn (zgq _).symm (Nat.mul_one _).symm))) (gA 5 O (0+1) (zcq 2 O ?_)))));skip
   refine y3q 1 hi Xd (yvq ⟨rfl,?_,rfl,rfl,rfl,rfl,trivial⟩ ?_ rfl)
   ·show some (W.sl 1 0 0 ((l++(ns.take 0).flatMap (beB 8)).length+(zaq (beB 8 u)).length) 1 none)=some (W.sl 1 0 0 (l++(ns.take (0+1)).flatMap (beB 8)).length 1 none);rw[hlen]
   ·show [(1,5,W.arr (((l++(ns.take 0).flatMap (beB 8)).length+(zaq (beB 8 u)).length)*1) 1 (zaq (l++(ns.take 0).flatMap (beB 8))++zaq (beB 8 u)))]=[(1,5,W.arr (l++(ns.take (0+1)).flatMap (beB 8)).length 1 (zaq (l++(ns.take (0+1)).flatMap (beB 8))))];rw[hlen,hby,Nat.mul_one]
  |succ i=>
   refine yrq 6 O (gP 0 O (ymq (i:=(i+1)) O O O O O O O (zKq uW hu0)) (gC 8 O (body2_s u hu1) (gM 0 O (yRq O O (qcq (k:=ti5) (len:=(l++(ns.take (i+1)).flatMap (beB 8)).length) (news:=zaq (beB 8 u)) (olds:=zaq (l++(ns.take (i+1)).flatMap (beB 8))) O O O O O Yv (by rw[hN];show(_+8)*1<=_;omega) (by rw[hN];omega) rfl (by rw[hN];show(l++(ns.take (i+1)).flatMap (beB 8)).length<0+(_+8)*1;omega) rfl (zpq Xn (zgq _).symm (Nat.mul_one _).symm))) (gA 5 O ((i+1)+1) (zcq 2 O ?_)))));skip
   refine y3q (i+1+1) hi (show ns.length-(i+1+1)<ns.length-(i+1) by omega) ?_;refine(yeq (b:=1) (k:=2) Xd Xd (by show 2<3;omega) ⟨⟨rfl,rfl⟩,⟨?_,rfl⟩,⟨rfl,rfl⟩,⟨rfl,rfl⟩,⟨by rw[zdq (show purW (.fz (ns.map uW) 1 f)=true from uWs_pur ns)];rfl,zbq (show purW (.fz (ns.map uW) 1 f)=true from uWs_pur ns)⟩,⟨rfl,rfl⟩,trivial⟩ ⟨⟨by show 1<2;omega,?_,zbq (show purW (.arr _ 1 (zaq _))=true from qOq _)⟩,trivial⟩ Xg)
   ·show some (W.sl 2 0 0 ((l++(ns.take (i+1)).flatMap (beB 8)).length+(zaq (beB 8 u)).length) 1 none)=some (W.sl 2 0 0 (l++(ns.take (i+1+1)).flatMap (beB 8)).length 1 none);rw[hlen]
   ·show some (5,W.arr (((l++(ns.take (i+1)).flatMap (beB 8)).length+(zaq (beB 8 u)).length)*1) 1 (zaq (l++(ns.take (i+1)).flatMap (beB 8))++zaq (beB 8 u)))=some (5,renW _ (W.arr (l++(ns.take (i+1+1)).flatMap (beB 8)).length 1 (zaq (l++(ns.take (i+1+1)).flatMap (beB 8)))));rw[zdq (show purW (.arr _ 1 (zaq _))=true from qOq _),hlen,hby,Nat.mul_one]
 ·have hi:i=ns.length:=by omega
  subst hi;refine zcq 2 O (qmq Xi (zDq 9 O ?_));rw[List.take_length];cases ns with
  |nil=>exact absurd rfl hns
  |cons a r=>
   exact fin Qt (yvq (fr2:=[(6,.sl 1 0 0 (l++(a::r).flatMap (beB 8)).length 1 none)]) ⟨rfl,trivial⟩ O O) rfl ⟨rfl,rfl,rfl,rfl⟩
theorem put2_s(a b:Dig)(f:Bool):ydq cfg G 336 0 [.nils,.fz [dW a,dW b] 32 f,.fn 337 [] []] [] λw hp nw=>w= .sl 0 0 0 (a.1++b.1).length 1 none/\hp=[(0,5,.arr (a.1++b.1).length 1 (zaq (a.1++b.1)))]/\nw=1:=by
 refine jCq (putd_s [a,b] f Xg) λw hp nw h=>?_
 obtain⟨rfl,rfl,rfl⟩:=h;have e:[a,b].flatMap (·.1)=a.1++b.1:=by simp
 have hl:(zaq (a.1++b.1)).length=64:=by rw[zgq,List.length_append,a.2,b.2]
 have hne:zaq (a.1++b.1)≠[]:=λh=>by rw[h] at hl;cases hl
 rw[e,kjq hne,kkq hne,zgq,Nat.mul_one];exact⟨rfl,rfl,rfl⟩
theorem ZFq(x:Tx):(jnq x).length=88:=by simp[jnq,x.pub.2,x.to.2,y5q]
theorem bodyL_s(x:Tx)(hx:x.ok):PL cfg G 314 [txW x] 5 1 (zaq (jnq x)):=by
 have hl:(x.pub.1++x.to.1).length=64:=by rw[List.length_append,x.pub.2,x.to.2]
 have hb:=ZFq x
 have hns:∀n∈[x.nonce,x.amount,x.fee],n<18446744073709551616:=λn hn=>by
  simp only[List.mem_cons,List.not_mem_nil,or_false] at hn;rcases hn with rfl|rfl|rfl
  ·exact hx.nonce
  ·exact hx.amount
  ·exact hx.fee
 have hpa:purW (.arr (x.pub.1++x.to.1).length 1 (zaq (x.pub.1++x.to.1)))=true:=qOq _;intro R;refine gIs 13 O (λk0=>?_)
 (refine xdq (λ_=>jTq 1 [(1,.ptr 0 0),(2,.nils),(8,.fz [dW x.pub,dW x.to] 32 false)] [(0,165,txW x)] rfl (show purL [dW x.pub,dW x.to]=true by simp) (Nat.zero_le _) ⟨⟨_,rfl,.ptrK rfl⟩,⟨_,rfl,.pur rfl⟩,⟨_,rfl,.sl (full:=false) rfl (show purL [dW x.pub,dW x.to]=true by simp) rfl Xi⟩,trivial⟩ ⟨⟨by omega,_,rfl,.pur Xg⟩,trivial⟩ Xg) ?_;refine zqq rfl (qsq O O O O O Xg (put2_s x.pub x.to false) ?_);rintro w hp1 nw1 ⟨rfl,rfl,rfl⟩)
 refine zeq 13 O ?_
 (refine xdq (λ_=>jTq 3 [(1,.ptr 0 0),(2,.nils),(10,.sl 2 0 0 (x.pub.1++x.to.1).length 1 none),(17,.fz ([x.nonce,x.amount,x.fee].map uW) 1 false)] [(2,5,.arr (x.pub.1++x.to.1).length 1 (zaq (x.pub.1++x.to.1))),(0,165,txW x)] O O (Nat.zero_le _) ⟨⟨_,rfl,.ptrK rfl⟩,⟨_,rfl,.pur rfl⟩,⟨_,rfl,.slK rfl⟩,⟨_,rfl,.sl (full:=false) O O O Xi⟩,trivial⟩ ⟨⟨by omega,_,rfl,by rw[zdq hpa];exact .pur hpa⟩,⟨by omega,_,rfl,.pur Xg⟩,trivial⟩ Xg) ?_;refine zqq rfl (zSq (ext:=[2]) (ws:=[.sl 0 0 0 (x.pub.1++x.to.1).length 1 none,.fz ([x.nonce,x.amount,x.fee].map uW) 1 false,.fn 339 [] []]) O O O O O (putu_s (x.pub.1++x.to.1) (by intro h;rw[h] at hl;cases hl) Xd [x.nonce,x.amount,x.fee] false Xg Xg hns) Xg Xg Xg (kYq (by rw[zdq hpa];rfl) (zbq hpa)) O ?_);rintro w hp1 nw1 ⟨rfl,rfl,rfl⟩)
 refine zeq 4 O ?_;have hpb:purW (.arr (jnq x).length 1 (zaq (jnq x)))=true:=qOq _;have hn:(zaq (jnq x)).length=88:=by rw[zgq,hb]
 have hne:zaq (jnq x)≠[]:=λh=>by rw[h] at hn;cases hn
 refine fin (fr2:=[(2,.sl 0 0 0 (jnq x).length 1 none)]) (hp2:=[(0,5,.arr (jnq x).length 1 (zaq (jnq x)))]) (nw2:=1) (w:=.sl 0 0 0 (jnq x).length 1 none) Qt (yeq (b:=0) (k:=4) Xd Xd Ym ⟨⟨rfl,rfl⟩,trivial⟩ ⟨⟨by omega,?_,zbq hpb⟩,trivial⟩ Xg) rfl ⟨rfl,?_,?_,rfl⟩
 ·show some (5,renW _ (W.arr (jnq x).length 1 (zaq (jnq x))))=some (5,renW _ (W.arr (jnq x).length 1 (zaq (jnq x))));rw[zdq hpb,zdq hpb]
 ·rw[kjq hne,zgq]
 ·rw[kkq hne,zgq,Nat.mul_one]
theorem body_s(x:Tx)(hx:x.ok):PS cfg G 314 [txW x] (bW (jnq x)):=(bodyL_s x hx).ps Xn Xg
noncomputable def xlq(x:Tx):Dig:=tagD 4 [jnq x]
theorem sign_s(x:Tx)(hx:x.ok):PS cfg glK 265 [txW x] (dW (xlq x)):=by
 have hb:=ZFq x;refine gI 9 O (λR k0=>gC 0 O (body_s x hx) (zcq 1 O ?_));refine xYq O O O O O (by(repeat (first|exact .nil|refine .cons ?_ ?_|(refine .sl O ?_ rfl Xi;first|rfl|(focus (simp;done)))|(refine yxq O ?_ rfl;first|rfl|(focus (simp;done)))|(refine .pur ?_;first|rfl|(focus (simp;done)))))) (jpq 4 [jnq x] false Xg (by simp[hb])) Xk Xk ?_;exact zeq 4 O (gQa 0 O)
theorem kpq(x:Tx)(hx:x.ok):PS cfg glK 198 [txW x] (.int .i64 (if x.sign=xlq x then 0 else 110)):=by
 refine ps_in (fn:=Tryz.f198) O O O (Ob rfl) (λR k0=>?_);by_cases h:x.sign=xlq x
 ·rw[if_pos h];skip
  exact zEq 12 O (gC 0 O (sign_s x hx) (fl_val (w':=.bool false) rfl (k7q O O O O (yGq O O O O O O x.sign (xlq x) 250)) (by rw[decide_eq_true h];rfl) (yTq 11 O (gQa 0 O))))
 ·rw[if_neg h];exact zEq 12 O (gC 0 O (sign_s x hx) (fl_val (w':=.bool true) rfl (k7q O O O O (yGq O O O O O O x.sign (xlq x) 250)) (by rw[decide_eq_false h];rfl) (yTq 10 O (gQa 0 O))))
theorem from_s(x:Tx):PS cfg glK 277 [txW x] (dW (keyD x.pub)):=by
 exact gI 10 O (λR k0=>gC 0 O (key_s x.pub) (gQa 4 O))
def StepA(H:Tree->HpW)(m:Nat)(b:Bool)(P:Tree->T->Prop):W->HpW->Nat->Prop:=λw hp nw=>∃t n t0,IsA t n t0/\P t t0/\w= .bool b/\hp=H t/\nw=m
noncomputable def pay1H(x:Tx)(a:Acct)(k:Dig)(t:Tree):HpW:=[(0,165,txW x),(1,169,aW a),(2,391,.ptr 4 0),(3,35,dW k),(4,392,tW t)]
noncomputable def Y8q(x:Tx)(t:Tree):HpW:=[(0,391,.ptr 2 0),(1,165,txW x),(2,392,tW t)]
noncomputable def Y7q(x:Tx)(k:Dig)(t:Tree):HpW:=[(0,391,.ptr 3 0),(1,35,dW k),(2,165,txW x),(3,392,tW t)]
theorem pay1_no(x:Tx)(hx:x.ok)(a:Acct)(ha:a.ok)(k:Dig)(t:Tree)(n:Nat)(t0:T)(h:IsA t n t0)(ho:¬x.amount+x.fee<=a.balance):ydq cfg G 280 5 [.ptr 0 0,.ptr 1 0,.ptr 2 0,.ptr 3 0] (pay1H x a k t) (StepA (pay1H x a k) 5 false (λt' t1=>t'=t/\t1=t0)):=by
 intro R;have h1:=hx.amount;have h2:=hx.fee;have h3:=ha.2;by_cases ov:x.amount+x.fee<18446744073709551616
 ·skip
  refine gIs 11 O (λk0=>?_)
  (refine zqq rfl (krq (a:=x.amount) (b:=x.fee) O O O O ?_))
  refine ylq O O (jOq (w':=.int .u64 ((x.amount+x.fee:Nat):Int)) O O (congrArg (λq:Nat=>W.int .u64 (q:Int)) Xd) ?_);exact jOq (w':=.int .u64 ((0:Nat):Int)) O O (congrArg (λq:Nat=>W.int .u64 (q:Int)) Xd) (zeq 8 O (gFa 0 O (gT 4 O (ltI_iff.2 Xd) (zcq 11 O (fin Qt (yvq (fr2:=[(4,.bool false)]) ⟨rfl,trivial⟩ O O) rfl ⟨rfl,t,n,t0,h,⟨rfl,rfl⟩,rfl,rfl,rfl⟩)))))
 ·skip
  refine gIs 11 O (λk0=>?_)
  (refine zqq rfl (krq (a:=x.amount) (b:=x.fee) O O O O ?_))
  exact zeq 2 O (gV (w':=.int .u64 ((1:Nat):Int)) 0 O (congrArg (λq:Nat=>W.int .u64 (q:Int)) Xd) (gTa 8 O (zcq 16 O (fin Qt (yvq (fr2:=[(4,.bool false)]) ⟨rfl,trivial⟩ O O) rfl ⟨rfl,t,n,t0,h,⟨rfl,rfl⟩,rfl,rfl,rfl⟩))))
theorem pay1_st(x:Tx)(hx:x.ok)(a:Acct)(ha:a.ok)(k:Dig)(t:Tree)(n:Nat)(t0:T)(h:IsA t n t0)(hl:t.nodes.length<=261844)(ho:x.amount+x.fee<=a.balance):ydq cfg G 280 5 [.ptr 0 0,.ptr 1 0,.ptr 2 0,.ptr 3 0] (pay1H x a k t) (StepA (pay1H x a k) 5 true (j1q t 257 (setL t0.all k ⟨a.nonce,a.balance-(x.amount+x.fee)⟩))):=by
 intro R;have h1:=hx.amount;have h2:=hx.fee;have h3:=ha.2;refine gIs 11 O (λk0=>?_)
 (refine zqq rfl (krq (a:=x.amount) (b:=x.fee) O O O O ?_))
 refine ylq O O (jOq (w':=.int .u64 ((x.amount+x.fee:Nat):Int)) O O (congrArg (λq:Nat=>W.int .u64 (q:Int)) Xd) ?_);refine jOq (w':=.int .u64 ((0:Nat):Int)) O O (congrArg (λq:Nat=>W.int .u64 (q:Int)) Xd) (zeq 8 O (gFa 0 O (gF 4 O (ltI_not.2 Xd) (gA 15 O (a.balance-(x.amount+x.fee)) (zcq 1 O ?_)))))
 (refine zqq rfl (kIq 4 O O O O Xg Xd O O (turn_st t n t0 k ⟨a.nonce,a.balance-(x.amount+x.fee)⟩ h ⟨ha.1,by show a.balance-(x.amount+x.fee)<_;omega⟩ hl) ?_);rintro t' n' t1 h' hP)
 exact zeq 8 O (fin (hp2:=pay1H x a k t') Qt (yJq (nw2:=5) (fr2:=[(4,.bool true)]) Xd Xd ⟨rfl,trivial⟩ rfl (yNq ⟨⟨by omega,rfl,zbq (qRq x)⟩,⟨by omega,rfl,rfl⟩,⟨by omega,rfl,rfl⟩,⟨by omega,rfl,zbq (qMq k)⟩,⟨by omega,rfl,zbq (y0q t')⟩,trivial⟩) (by simp[pay1H])) rfl ⟨rfl,t',n',t1,h',hP,rfl,rfl,rfl⟩)
theorem pay2_no(x:Tx)(hx:x.ok)(t:Tree)(n:Nat)(t0:T)(h:IsA t n t0)(ho:18446744073709551616<=(ysq t0 x.to).balance+x.amount):ydq cfg G 282 3 [.ptr 0 0,.ptr 1 0] (Y8q x t) (StepA (Y8q x) 3 false (j1q t 257 t0.all)):=by
 intro R;refine gIs 12 O (λk0=>?_)
 (refine zqq rfl (kIq 2 O O O O Xg Xd O O (more_no t n t0 x.to x.amount h hx.amount ho) ?_);rintro t' n' t1 h' hP)
 exact zeq 4 O (fin (hp2:=Y8q x t') Qt (yJq (nw2:=3) (fr2:=[(2,.bool false)]) Xd Xd ⟨rfl,trivial⟩ rfl (yNq ⟨⟨by omega,rfl,rfl⟩,⟨by omega,rfl,zbq (qRq x)⟩,⟨by omega,rfl,zbq (y0q t')⟩,trivial⟩) (by simp[Y8q])) rfl ⟨rfl,t',n',t1,h',hP,rfl,rfl,rfl⟩)
theorem pay2_st(x:Tx)(t:Tree)(n:Nat)(t0:T)(h:IsA t n t0)(hl:t.nodes.length<=261844)(ho:(ysq t0 x.to).balance+x.amount<18446744073709551616):ydq cfg G 282 3 [.ptr 0 0,.ptr 1 0] (Y8q x t) (StepA (Y8q x) 3 true (j1q t 257 (setL t0.all x.to ⟨(ysq t0 x.to).nonce,(ysq t0 x.to).balance+x.amount⟩))):=by
 intro R;refine gIs 12 O (λk0=>?_)
 (refine zqq rfl (kIq 2 O O O O Xg Xd O O (more_st t n t0 x.to x.amount h ho hl) ?_);rintro t' n' t1 h' hP)
 exact zeq 4 O (fin (hp2:=Y8q x t') Qt (yJq (nw2:=3) (fr2:=[(2,.bool true)]) Xd Xd ⟨rfl,trivial⟩ rfl (yNq ⟨⟨by omega,rfl,rfl⟩,⟨by omega,rfl,zbq (qRq x)⟩,⟨by omega,rfl,zbq (y0q t')⟩,trivial⟩) (by simp[Y8q])) rfl ⟨rfl,t',n',t1,h',hP,rfl,rfl,rfl⟩)
theorem pay3_no(x:Tx)(hx:x.ok)(k:Dig)(t:Tree)(n:Nat)(t0:T)(h:IsA t n t0)(ho:18446744073709551616<=(ysq t0 k).balance+x.fee):ydq cfg G 283 4 [.ptr 0 0,.ptr 1 0,.ptr 2 0] (Y7q x k t) (StepA (Y7q x k) 4 false (j1q t 257 t0.all)):=by
 intro R;refine gIs 11 O (λk0=>?_)
 (refine zqq rfl (kIq 3 O O O O Xg Xd O O (more_no t n t0 k x.fee h hx.fee ho) ?_);rintro t' n' t1 h' hP)
 exact zeq 4 O (fin (hp2:=Y7q x k t') Qt (yJq (nw2:=4) (fr2:=[(3,.bool false)]) Xd Xd ⟨rfl,trivial⟩ rfl (yNq ⟨⟨by omega,rfl,rfl⟩,⟨by omega,rfl,zbq (qMq k)⟩,⟨by omega,rfl,zbq (qRq x)⟩,⟨by omega,rfl,zbq (y0q t')⟩,trivial⟩) (by simp[Y7q])) rfl ⟨rfl,t',n',t1,h',hP,rfl,rfl,rfl⟩)
theorem pay3_st(x:Tx)(k:Dig)(t:Tree)(n:Nat)(t0:T)(h:IsA t n t0)(hl:t.nodes.length<=261844)(ho:(ysq t0 k).balance+x.fee<18446744073709551616):ydq cfg G 283 4 [.ptr 0 0,.ptr 1 0,.ptr 2 0] (Y7q x k t) (StepA (Y7q x k) 4 true (j1q t 257 (setL t0.all k ⟨(ysq t0 k).nonce,(ysq t0 k).balance+x.fee⟩))):=by
 intro R;refine gIs 11 O (λk0=>?_)
 (refine zqq rfl (kIq 3 O O O O Xg Xd O O (more_st t n t0 k x.fee h ho hl) ?_);rintro t' n' t1 h' hP)
 exact zeq 4 O (fin (hp2:=Y7q x k t') Qt (yJq (nw2:=4) (fr2:=[(3,.bool true)]) Xd Xd ⟨rfl,trivial⟩ rfl (yNq ⟨⟨by omega,rfl,rfl⟩,⟨by omega,rfl,zbq (qMq k)⟩,⟨by omega,rfl,zbq (qRq x)⟩,⟨by omega,rfl,zbq (y0q t')⟩,trivial⟩) (by simp[Y7q])) rfl ⟨rfl,t',n',t1,h',hP,rfl,rfl,rfl⟩)
end
section
attribute [local irreducible] CoW OpW FlW Step Spec
def acL(l:List Pr)(k:Dig):Acct:=match Qbq l k with
 |some v=>(jiq v).1
 |none=>.zero
theorem xWq{t:Tree}{n:Nat}{t0:T}(h:IsT t n t0)(k:Dig):ysq t0 k=acL t0.all k:=by
 unfold ysq acL;rw[xvq k qQq h.ok];cases Qbq t0.all k<;>rfl
noncomputable def kgq(l:List Pr)(k:Dig)(c:Nat):Option (List Pr):=if (acL l k).balance+c<18446744073709551616 then some (setL l k ⟨(acL l k).nonce,(acL l k).balance+c⟩) else none
noncomputable def Ygq(l:List Pr)(x:Tx):List Pr:=setL l (keyD x.pub) ⟨(acL l (keyD x.pub)).nonce+1,(acL l (keyD x.pub)).balance⟩
noncomputable def Zeq(l:List Pr)(x:Tx):List Pr:=setL (Ygq l x) (keyD x.pub) ⟨(acL l (keyD x.pub)).nonce+1,(acL l (keyD x.pub)).balance-(x.amount+x.fee)⟩
noncomputable def yLq(l:List Pr)(x:Tx)(box:Dig):List Pr×Nat:=if x.amount+x.fee<=(acL l (keyD x.pub)).balance then(match kgq (Zeq l x) x.to x.amount with
  |none=>(Ygq l x,151)
  |some p=>match kgq p box x.fee with
   |none=>(Ygq l x,151)
   |some q=>(q,0)) else(Ygq l x,150)
def stg(x:Tx)(box:Dig)(l:List Pr):Nat->List Pr->Prop
 |0,q=>q=Ygq l x
 |1,q=>x.amount+x.fee<=(acL l (keyD x.pub)).balance/\q=Zeq l x
 |2,q=>x.amount+x.fee<=(acL l (keyD x.pub)).balance/\kgq (Zeq l x) x.to x.amount=some q
 |_,q=>x.amount+x.fee<=(acL l (keyD x.pub)).balance/\∃p,kgq (Zeq l x) x.to x.amount=some p/\kgq p box x.fee=some q
theorem paid_150{x:Tx}{box:Dig}{l:List Pr}(ho:¬x.amount+x.fee<=(acL l (keyD x.pub)).balance):yLq l x box=(Ygq l x,150):=by unfold yLq;rw[if_neg ho]
theorem paid_1{x:Tx}{box:Dig}{l:List Pr}(ho:x.amount+x.fee<=(acL l (keyD x.pub)).balance)(h:kgq (Zeq l x) x.to x.amount=none):yLq l x box=(Ygq l x,151):=by unfold yLq;rw[if_pos ho,h]
theorem paid_2{x:Tx}{box:Dig}{l p:List Pr}(ho:x.amount+x.fee<=(acL l (keyD x.pub)).balance)(h:kgq (Zeq l x) x.to x.amount=some p)(h2:kgq p box x.fee=none):yLq l x box=(Ygq l x,151):=by unfold yLq;rw[if_pos ho,h];simp only;rw[h2]
theorem paid_3{x:Tx}{box:Dig}{l p q:List Pr}(ho:x.amount+x.fee<=(acL l (keyD x.pub)).balance)(h:kgq (Zeq l x) x.to x.amount=some p)(h2:kgq p box x.fee=some q):yLq l x box=(q,0):=by unfold yLq;rw[if_pos ho,h];simp only;rw[h2]
def PayA(t:Tree)(t0:T)(x:Tx)(box:Dig):W->Prop:=λw=>∃t' n' t1,IsA t' n' t1/\j1q t 1028 (yLq t0.all x box).1 t' t1/\w= .tup [tW t',.int .i64 ((yLq t0.all x box).2:Nat),.int .i64 0]
theorem pay_sign(t:Tree)(n:Nat)(t0:T)(x:Tx)(hx:x.ok)(box:Dig)(h:IsA t n t0)(hs:x.sign≠xlq x):PS cfg glK 213 [tW t,txW x,dW box] (.tup [noT,.int .i64 0,.int .i64 110]):=by
 refine gI 10 O (λR k0=>?_);refine vdq 3 ?_;refine zEq 3 O ?_;refine gC 0 O (from_s _) ?_;refine gC 8 O (QPq t n t0 h _) ?_;refine gU 13 O ?_;refine gC 7 O (zXq (w':=.int .i64 110) (kpq x hx) (by rw[if_neg hs])) ?_;refine gU 0 O ?_;refine zcq 15 O ?_;refine kQq Yq ?_;exact fin_q
theorem pay_nonce(t:Tree)(n:Nat)(t0:T)(x:Tx)(hx:x.ok)(box:Dig)(h:IsA t n t0)(hs:x.sign=xlq x)(hn:¬(x.nonce=(acL t0.all (keyD x.pub)).nonce/\x.nonce<18446744073709551615)):PS cfg glK 213 [tW t,txW x,dW box] (.tup [noT,.int .i64 0,.int .i64 2]):=by
 have h1:=hx.nonce;have ea:=xWq h.toIsT (keyD x.pub);by_cases q:x.nonce=(acL t0.all (keyD x.pub)).nonce
 ·have q2:x.nonce=18446744073709551615:=by have:¬x.nonce<18446744073709551615:=λr=>hn ⟨q,r⟩;omega
  refine gI 10 O (λR k0=>?_);refine vdq 3 ?_;refine zEq 3 O ?_;refine gC 0 O (from_s _) ?_;refine gC 8 O (QPq t n t0 h _) ?_;refine gU 13 O ?_;refine gC 7 O (zXq (w':=.int .i64 0) (kpq x hx) (by rw[if_pos hs])) ?_;refine gU 0 O ?_;refine gF 10 O (congrArg not (eqI_iff.2 (by rw[ea,q]))) ?_;refine gT 3 O (eqI_iff.2 Xd) ?_;refine zcq 16 O ?_;refine kQq Yq ?_;exact fin_q
 ·skip
  refine gI 10 O (λR k0=>?_);refine vdq 3 ?_;refine zEq 3 O ?_;refine gC 0 O (from_s _) ?_;refine gC 8 O (QPq t n t0 h _) ?_;refine gU 13 O ?_;refine gC 7 O (zXq (w':=.int .i64 0) (kpq x hx) (by rw[if_pos hs])) ?_;refine gU 0 O ?_;refine gT 10 O (congrArg not (eqI_not.2 (by rw[ea];omega))) ?_;refine zcq 20 O ?_;refine kQq Yq ?_;exact fin_q
noncomputable def stepsW:W:=.arr 6 2 [.agg 2 [.fn 280 [] [.ptr 1 0,.ptr 5 0,.ptr 8 0,.ptr 4 0],.int .i64 150],.agg 2 [.fn 282 [] [.ptr 8 0,.ptr 1 0],.int .i64 151],.agg 2 [.fn 283 [] [.ptr 8 0,.ptr 2 0,.ptr 1 0],.int .i64 151]]
noncomputable def payH(x:Tx)(box k:Dig)(a:Acct)(tb t:Tree):HpW:=[(7,392,tW t),(1,165,txW x),(2,35,dW box),(3,24,noT),(4,35,dW k),(5,169,aW a),(6,392,tW tb),(8,391,.ptr 7 0),(9,399,stepsW)]
theorem JAq{t t' t2:Tree}{m:Nat}(h:∃ms,t'.nodes=t.nodes++ms/\ms.length<=m)(h2:∃ms,t2.nodes=t'.nodes++ms/\ms.length<=257):∃ms,t2.nodes=t.nodes++ms/\ms.length<=m+257:=by
 obtain⟨a,ha,ha2⟩:=h;obtain⟨b,hb,hb2⟩:=h2;exact⟨a++b,by rw[hb,ha,List.append_assoc],by rw[List.length_append];omega⟩
theorem ext_le{t t':Tree}{m:Nat}(h:∃ms,t'.nodes=t.nodes++ms/\ms.length<=m):t'.nodes.length<=t.nodes.length+m:=by
 obtain⟨a,ha,ha2⟩:=h;rw[ha,List.length_append];omega
theorem YAq{t t':Tree}{m k:Nat}(h:∃ms,t'.nodes=t.nodes++ms/\ms.length<=m)(hk:m<=k):∃ms,t'.nodes=t.nodes++ms/\ms.length<=k:=by
 obtain⟨a,ha,ha2⟩:=h;exact⟨a,ha,by omega⟩
theorem pay_s(t:Tree)(n:Nat)(t0:T)(x:Tx)(hx:x.ok)(box:Dig)(h:IsA t n t0)(hs:x.sign=xlq x)(hn:x.nonce=(acL t0.all (keyD x.pub)).nonce)(hn2:x.nonce<18446744073709551615)(hl:t.nodes.length<=260944):PE cfg glK 213 [tW t,txW x,dW box] (PayA t t0 x box):=by
 have hvals:∀x∈t.nodes,x.val.length<=70368744177664:=IsT.vals (root:=t.root) h.toIsT
 have hA:=YXq t0 (keyD x.pub);rw[xWq h.toIsT] at hA;have ea:=xWq h.toIsT (keyD x.pub);unfold PayA;obtain⟨A,eA⟩:∃A,acL t0.all (keyD x.pub)=A:=⟨_,rfl⟩
 obtain⟨l,el⟩:∃l,t0.all=l:=⟨_,rfl⟩
 rw[eA] at hn hA ea;have e0:Ygq l x=setL l (keyD x.pub) ⟨A.nonce+1,A.balance⟩:=by unfold Ygq;rw[<-el,eA]
 have e1:Zeq l x=setL (Ygq l x) (keyD x.pub) ⟨A.nonce+1,A.balance-(x.amount+x.fee)⟩:=by unfold Zeq;rw[<-el,eA]
 rw[el] at eA⊢;have hA1:A.nonce+1<18446744073709551616:=by omega
 have hA2:=hA.2;refine gIe 10 O (λR k0=>?_);refine vdq 3 ?_;refine zEq 3 O ?_;refine gC 0 O (from_s _) ?_;refine gC 8 O (zXq (w':=.tup [aW A,.int .i64 0]) (QPq t n t0 h (keyD x.pub)) (by rw[ea])) ?_;refine gU 13 O ?_;refine gC 7 O (zXq (w':=.int .i64 0) (kpq x hx) (by rw[if_pos hs])) ?_;refine gU 0 O ?_;refine gF 10 O (congrArg not (eqI_iff.2 (by rw[hn]))) ?_;refine gF 3 O (eqI_not.2 Xd) ?_;refine gC 8 O (zXq (w':=.bool false) (full_s t Xd) (by rw[decide_eq_false Xd])) ?_;refine gA 11 O (A.nonce+1) ?_;refine gC 7 O (x5q t Xd hvals) ?_;refine zcq 10 O ?_
 (refine zqq rfl (kIq 6 O O O O Xg Xd O O (turn_st t n t0 (keyD x.pub) ⟨A.nonce+1,A.balance⟩ h ⟨hA1,hA2⟩ Xd) ?_);rintro tb nb tb0 hb hPb)
 refine zeq 36 O ?_;refine gL 0 O ?_;refine zcq 4 O ?_;have hmb:=YAq hPb.2 (show 257<=1028 by omega);rw[el] at hPb;refine quq (α:=Nat×Tree) (λp=>p.1<=3/\∃n1 t1,IsA p.2 n1 t1/\(∃ms,p.2.nodes=t.nodes++ms/\ms.length<=257*(p.1+1))/\stg x box l p.1 t1.all) (λp=>[(79,.int .i64 (p.1:Int)),(6,.ptr 3 0),(11,.ptr 6 0),(12,.ptr 8 0),(77,.sl 9 0 0 3 2 none),(78,.int .i64 3)]) (λp=>payH x box (keyD x.pub) ⟨A.nonce+1,A.balance⟩ tb p.2) (λ_=>10) (λ_=>R) (λp=>3-p.1) (0,tb) ⟨by omega,nb,tb0,hb,hPb.2,hPb.1.trans e0.symm⟩ (yJq (nw2:=10) (Nat.zero_le _) Xd ⟨rfl,rfl,rfl,rfl,rfl,rfl,trivial⟩ rfl (yNq ⟨⟨by omega,Xj,zbq Xg⟩,⟨by omega,Xj,zbq Xg⟩,⟨by omega,Xj,zbq Xg⟩,⟨by omega,Xj,rfl⟩,⟨by omega,Xj,zbq Xg⟩,⟨by omega,Xj,rfl⟩,⟨by omega,Xj,zbq Xg⟩,⟨by omega,Xj,rfl⟩,⟨by omega,Xj,rfl⟩,trivial⟩) (by simp[payH])) (λp hI=>?_);skip
 obtain⟨i,t'⟩:=p;obtain⟨hi,n1,t1,hT,hms,hst⟩:=hI;simp only at hi hT hms hst⊢;have hle:=ext_le hms;refine zEq 6 O ?_;refine gS 0 O (λh1=>?_) (λh1=>?_)
 ·skip
  skip
  rcases(show i=0\/i=1\/i=2 by omega) with rfl|rfl|rfl
  ·by_cases ho:x.amount+x.fee<=A.balance
   ·skip
    refine gX 6 O ?_;refine zcq 16 O ?_
    (refine zqq rfl (zSq (ext:=[1,5,8,4,7]) (ws:=[.ptr 0 0,.ptr 1 0,.ptr 2 0,.ptr 3 0]) O O O O O (pay1_st x hx ⟨A.nonce+1,A.balance⟩ ⟨hA1,hA2⟩ (keyD x.pub) t' n1 t1 hT Xd ho) Xn Xo (by simp[pay1H]) (q7q ⟨⟨by decide,zbq Xg,_,rfl,by first|rfl|(rw[zdq Xg];rfl)⟩,⟨by decide,rfl,_,rfl,by first|rfl|(rw[zdq Xg];rfl)⟩,⟨by decide,rfl,_,rfl,by first|rfl|(rw[zdq Xg];rfl)⟩,⟨by decide,zbq Xg,_,rfl,by first|rfl|(rw[zdq Xg];rfl)⟩,⟨by decide,zbq Xg,_,rfl,by first|rfl|(rw[zdq Xg];rfl)⟩,trivial⟩) O ?_);rintro w hp1 nw1 ⟨t2,n2,t3,h2,hP2,rfl,rfl,rfl⟩)
    refine zeq 8 O ?_;refine gWr 0 O ?_;refine zcq 2 O ?_;skip
    exact y3q (1,t2) ⟨by omega,n2,t3,h2,YAq (JAq hms hP2.2) Xd,⟨by rw[eA];exact ho,by rw[e1,<-hst];exact hP2.1⟩⟩ (by show 3-1<3-0;omega) (yJq (nw2:=10) (Nat.zero_le _) Xd ⟨rfl,rfl,rfl,rfl,rfl,rfl,trivial⟩ rfl (yNq ⟨⟨by omega,Xj,zbq Xg⟩,⟨by omega,Xj,zbq Xg⟩,⟨by omega,Xj,zbq Xg⟩,⟨by omega,Xj,rfl⟩,⟨by omega,Xj,zbq Xg⟩,⟨by omega,Xj,rfl⟩,⟨by omega,Xj,zbq Xg⟩,⟨by omega,Xj,rfl⟩,⟨by omega,Xj,rfl⟩,trivial⟩) (by simp[payH]))
   ·skip
    refine gX 6 O ?_;refine zcq 16 O ?_
    (refine zqq rfl (zSq (ext:=[1,5,8,4,7]) (ws:=[.ptr 0 0,.ptr 1 0,.ptr 2 0,.ptr 3 0]) O O O O O (pay1_no x hx ⟨A.nonce+1,A.balance⟩ ⟨hA1,hA2⟩ (keyD x.pub) t' n1 t1 hT ho) Xn Xo (by simp[pay1H]) (q7q ⟨⟨by decide,zbq Xg,_,rfl,by first|rfl|(rw[zdq Xg];rfl)⟩,⟨by decide,rfl,_,rfl,by first|rfl|(rw[zdq Xg];rfl)⟩,⟨by decide,rfl,_,rfl,by first|rfl|(rw[zdq Xg];rfl)⟩,⟨by decide,zbq Xg,_,rfl,by first|rfl|(rw[zdq Xg];rfl)⟩,⟨by decide,zbq Xg,_,rfl,by first|rfl|(rw[zdq Xg];rfl)⟩,trivial⟩) O ?_);rintro w hp1 nw1 ⟨t2,n2,t3,h2,hP2,rfl,rfl,rfl⟩)
    refine zeq 7 O ?_;refine qmq Xi ?_;refine zDq 2 O ?_;refine q_goto O ?_;refine zEq 16 O ?_;refine kQq Yq ?_;refine yqq (w':=.tup [tW tb,.int .i64 150,.int .i64 0]) Qt rfl (.pur Xg) Xg ⟨tb,nb,tb0,hb,?_,?_⟩
    ·rw[paid_150 (l:=l) (box:=box) (by rw[eA];exact ho)];exact⟨hPb.1.trans e0.symm,hmb⟩
    ·rw[paid_150 (l:=l) (box:=box) (by rw[eA];exact ho)];rfl
  ·obtain⟨ho,hst⟩:=hst;have ec:=xWq hT.toIsT x.to;rw[hst] at ec;by_cases hq:(ysq t1 x.to).balance+x.amount<18446744073709551616
   ·have hm:kgq (Zeq l x) x.to x.amount=some (setL (Zeq l x) x.to ⟨(ysq t1 x.to).nonce,(ysq t1 x.to).balance+x.amount⟩):=by unfold kgq;rw[<-ec,if_pos hq]
    refine gX 6 O ?_;refine zcq 16 O ?_
    (refine zqq rfl (zSq (ext:=[8,1,7]) (ws:=[.ptr 0 0,.ptr 1 0]) O O O O O (pay2_st x t' n1 t1 hT Xd hq) Xn Xo (by simp[Y8q]) (q7q ⟨⟨by decide,rfl,_,rfl,by first|rfl|(rw[zdq Xg];rfl)⟩,⟨by decide,zbq Xg,_,rfl,by first|rfl|(rw[zdq Xg];rfl)⟩,⟨by decide,zbq Xg,_,rfl,by first|rfl|(rw[zdq Xg];rfl)⟩,trivial⟩) O ?_);rintro w hp1 nw1 ⟨t2,n2,t3,h2,hP2,rfl,rfl,rfl⟩)
    refine zeq 8 O ?_;refine gWr 0 O ?_;refine zcq 2 O ?_;skip
    exact y3q (2,t2) ⟨by omega,n2,t3,h2,YAq (JAq hms hP2.2) Xd,⟨ho,by rw[hP2.1,hst];exact hm⟩⟩ (by show 3-2<3-1;omega) (yJq (nw2:=10) (Nat.zero_le _) Xd ⟨rfl,rfl,rfl,rfl,rfl,rfl,trivial⟩ rfl (yNq ⟨⟨by omega,Xj,zbq Xg⟩,⟨by omega,Xj,zbq Xg⟩,⟨by omega,Xj,zbq Xg⟩,⟨by omega,Xj,rfl⟩,⟨by omega,Xj,zbq Xg⟩,⟨by omega,Xj,rfl⟩,⟨by omega,Xj,zbq Xg⟩,⟨by omega,Xj,rfl⟩,⟨by omega,Xj,rfl⟩,trivial⟩) (by simp[payH]))
   ·have hm:kgq (Zeq l x) x.to x.amount=none:=by unfold kgq;rw[<-ec,if_neg hq]
    refine gX 6 O ?_;refine zcq 16 O ?_
    (refine zqq rfl (zSq (ext:=[8,1,7]) (ws:=[.ptr 0 0,.ptr 1 0]) O O O O O (pay2_no x hx t' n1 t1 hT Xd) Xn Xo (by simp[Y8q]) (q7q ⟨⟨by decide,rfl,_,rfl,by first|rfl|(rw[zdq Xg];rfl)⟩,⟨by decide,zbq Xg,_,rfl,by first|rfl|(rw[zdq Xg];rfl)⟩,⟨by decide,zbq Xg,_,rfl,by first|rfl|(rw[zdq Xg];rfl)⟩,trivial⟩) O ?_);rintro w hp1 nw1 ⟨t2,n2,t3,h2,hP2,rfl,rfl,rfl⟩)
    refine zeq 7 O ?_;refine qmq Xi ?_;refine zDq 2 O ?_;refine q_goto O ?_;refine zEq 16 O ?_;refine kQq Yq ?_;refine yqq (w':=.tup [tW tb,.int .i64 151,.int .i64 0]) Qt rfl (.pur Xg) Xg ⟨tb,nb,tb0,hb,?_,?_⟩
    ·rw[paid_1 ho hm];exact⟨hPb.1.trans e0.symm,hmb⟩
    ·rw[paid_1 ho hm];rfl
  ·obtain⟨ho,hst⟩:=hst;have ec:=xWq hT.toIsT box;by_cases hq:(ysq t1 box).balance+x.fee<18446744073709551616
   ·have hm:kgq t1.all box x.fee=some (setL t1.all box ⟨(ysq t1 box).nonce,(ysq t1 box).balance+x.fee⟩):=by unfold kgq;rw[<-ec,if_pos hq]
    refine gX 6 O ?_;refine zcq 16 O ?_
    (refine zqq rfl (zSq (ext:=[8,2,1,7]) (ws:=[.ptr 0 0,.ptr 1 0,.ptr 2 0]) O O O O O (pay3_st x box t' n1 t1 hT Xd hq) Xn Xo (by simp[Y7q]) (q7q ⟨⟨by decide,rfl,_,rfl,by first|rfl|(rw[zdq Xg];rfl)⟩,⟨by decide,zbq Xg,_,rfl,by first|rfl|(rw[zdq Xg];rfl)⟩,⟨by decide,zbq Xg,_,rfl,by first|rfl|(rw[zdq Xg];rfl)⟩,⟨by decide,zbq Xg,_,rfl,by first|rfl|(rw[zdq Xg];rfl)⟩,trivial⟩) O ?_);rintro w hp1 nw1 ⟨t2,n2,t3,h2,hP2,rfl,rfl,rfl⟩)
    refine zeq 8 O ?_;refine gWr 0 O ?_;refine zcq 2 O ?_;skip
    exact y3q (3,t2) ⟨by omega,n2,t3,h2,YAq (JAq hms hP2.2) Xd,⟨ho,_,hst,by rw[hP2.1];exact hm⟩⟩ (by show 3-3<3-2;omega) (yJq (nw2:=10) (Nat.zero_le _) Xd ⟨rfl,rfl,rfl,rfl,rfl,rfl,trivial⟩ rfl (yNq ⟨⟨by omega,Xj,zbq Xg⟩,⟨by omega,Xj,zbq Xg⟩,⟨by omega,Xj,zbq Xg⟩,⟨by omega,Xj,rfl⟩,⟨by omega,Xj,zbq Xg⟩,⟨by omega,Xj,rfl⟩,⟨by omega,Xj,zbq Xg⟩,⟨by omega,Xj,rfl⟩,⟨by omega,Xj,rfl⟩,trivial⟩) (by simp[payH]))
   ·have hm:kgq t1.all box x.fee=none:=by unfold kgq;rw[<-ec,if_neg hq]
    refine gX 6 O ?_;refine zcq 16 O ?_
    (refine zqq rfl (zSq (ext:=[8,2,1,7]) (ws:=[.ptr 0 0,.ptr 1 0,.ptr 2 0]) O O O O O (pay3_no x hx box t' n1 t1 hT Xd) Xn Xo (by simp[Y7q]) (q7q ⟨⟨by decide,rfl,_,rfl,by first|rfl|(rw[zdq Xg];rfl)⟩,⟨by decide,zbq Xg,_,rfl,by first|rfl|(rw[zdq Xg];rfl)⟩,⟨by decide,zbq Xg,_,rfl,by first|rfl|(rw[zdq Xg];rfl)⟩,⟨by decide,zbq Xg,_,rfl,by first|rfl|(rw[zdq Xg];rfl)⟩,trivial⟩) O ?_);rintro w hp1 nw1 ⟨t2,n2,t3,h2,hP2,rfl,rfl,rfl⟩)
    refine zeq 7 O ?_;refine qmq Xi ?_;refine zDq 2 O ?_;refine q_goto O ?_;refine zEq 16 O ?_;refine kQq Yq ?_;refine yqq (w':=.tup [tW tb,.int .i64 151,.int .i64 0]) Qt rfl (.pur Xg) Xg ⟨tb,nb,tb0,hb,?_,?_⟩
    ·rw[paid_2 ho hst hm];exact⟨hPb.1.trans e0.symm,hmb⟩
    ·rw[paid_2 ho hst hm];rfl
 ·have hi3:i=3:=by omega
  subst hi3;obtain⟨ho,p,hp1,hp2⟩:=hst;refine zcq 2 O ?_;refine qmq Xi ?_;refine zDq 16 O ?_;refine kQq Yq ?_;refine yqq (w':=.tup [tW t',.int .i64 0,.int .i64 0]) Qt rfl (.pur Xg) Xg ⟨t',n1,t1,hT,?_,?_⟩
  ·rw[paid_3 ho hp1 hp2];exact⟨rfl,YAq hms Xd⟩
  ·rw[paid_3 ho hp1 hp2];rfl
end
noncomputable def gvL(l:List Pr)(d:Depo):List Pr×Nat:=match kgq l d.to d.amount with
 |some q=>(q,0)
 |none=>(l,151)
theorem giv_gv{t:Tree}{n:Nat}{t0:T}(h:IsT t n t0)(d:Depo):givL t0 d=(gvL t0.all d).1/\givC t0 d=(gvL t0.all d).2:=by
 have e:=xWq h d.to;by_cases ho:overB t0 d
 ·have hn:¬(acL t0.all d.to).balance+d.amount<18446744073709551616:=by rw[<-e];unfold overB at ho;omega
  unfold givL givC gvL kgq;rw[if_pos ho,if_pos ho,if_neg hn];exact⟨rfl,rfl⟩
 ·have hn:(acL t0.all d.to).balance+d.amount<18446744073709551616:=by rw[<-e];unfold overB at ho;omega
  unfold givL givC gvL kgq;rw[if_neg ho,if_neg ho,if_pos hn,e];exact⟨rfl,rfl⟩
structure Rec where
 kind:UInt8
 id:Dig
 code:Nat
noncomputable def depD(d:Depo):Dig:=tagD 9 [beB 8 d.number++d.to.1++beB 8 d.amount]
noncomputable def idD(x:Tx):Dig:=tagD 5 [jnq x++x.sign.1]
noncomputable def doD:List Pr->List Depo->List Pr×List Rec
 |l,[]=>(l,[])
 |l,d::ds=>((doD (gvL l d).1 ds).1,⟨1,depD d,(gvL l d).2⟩::(doD (gvL l d).1 ds).2)
def goX(l:List Pr)(x:Tx):Prop:=x.sign=xlq x/\x.nonce=(acL l (keyD x.pub)).nonce/\x.nonce<18446744073709551615
noncomputable instance(l:List Pr)(x:Tx):Decidable (goX l x):=Classical.propDecidable _
noncomputable def doX(box:Dig):List Pr->List Tx->Option (List Pr×List Rec)
 |l,[]=>some (l,[])
 |l,x::xs=>if goX l x then(match doX box (yLq l x box).1 xs with
   |some r=>some (r.1,⟨2,idD x,(yLq l x box).2⟩::r.2)
   |none=>none) else none
theorem doD_app:∀(ds es:List Depo) (l:List Pr),doD l (ds++es)=((doD (doD l ds).1 es).1,(doD l ds).2++(doD (doD l ds).1 es).2)
 |[],es,l=>rfl
 |d::ds,es,l=>by
  show((doD (gvL l d).1 (ds++es)).1,_::(doD (gvL l d).1 (ds++es)).2)=_;rw[doD_app ds es];rfl
theorem doX_app(box:Dig):∀(xs ys:List Tx) (l:List Pr),doX box l (xs++ys)=match doX box l xs with
  |some r=>(match doX box r.1 ys with
   |some q=>some (q.1,r.2++q.2)
   |none=>none)
  |none=>none
 |[],ys,l=>by
  show doX box l ys=match doX box l ys with
   |some q=>some (q.1,[]++q.2)
   |none=>none
  cases doX box l ys<;>rfl
 | x ::xs,ys,l=>by
  by_cases h:goX l x
  ·have e1:doX box l ((x::xs)++ys)=(match doX box (yLq l x box).1 (xs++ys) with
       |some r=>some (r.1,⟨2,idD x,(yLq l x box).2⟩::r.2)
       |none=>none):=if_pos h
   have e2:doX box l (x::xs)=(match doX box (yLq l x box).1 xs with
     |some r=>some (r.1,⟨2,idD x,(yLq l x box).2⟩::r.2)
     |none=>none):=if_pos h
   rw[e1,e2,doX_app box xs ys];cases doX box (yLq l x box).1 xs with
   |none=>rfl
   |some r=>
    simp only;cases doX box r.1 ys<;>rfl
  ·have e1:doX box l ((x::xs)++ys)=none:=if_neg h;have e2:doX box l (x::xs)=none:=if_neg h;rw[e1,e2]
section
attribute [local irreducible] CoW OpW FlW Step Spec
variable {G:Nat->Option W}
structure Hdr where
 height:Int
 parent:Dig
 state:Dig
 rows:Dig
 many:Int
noncomputable def hdW(h:Hdr):W:=.agg 98 [.int .i64 h.height,dW h.parent,dW h.state,dW h.rows,.int .i64 h.many]
@[simp] theorem Ynq(h:Hdr):purW (hdW h)=true:=by simp[hdW]
theorem ent_blkv{C:Cfg}{G:Nat->Option W}{m k0:Nat}{fr:FrW}{hp:HpW}{nw:Nat}{R:Res}{b:Nat}{ty:TypeId}{w w':W}(hb:hget hp b=some (ty,w))(h:View (λ_=>none) w w'):Ent C G m k0 fr hp nw R fr (hset hp b (ty,w')) nw R:=
 ent_blk hb λΓ v hv=>jIq ⟨λ_ h _=>h,λ_ _ _=>rfl,λ_ h=>h,λ_ _=>rfl,λ_ _ _ h=>Qb⟩ h hv
def okH(h:Hdr):Prop:=0<=h.height/\h.height<=1073741824/\0<=h.many/\h.many<=256
noncomputable instance(h:Hdr):Decidable (okH h):=Classical.propDecidable _
end
end
section
open Go.Shelf Go.RowKit Go.Lib
def joinRen:Go.Shelf.Ren:=⟨fun|14=>311|15=>335|n=>n,fun|26=>150|22=>58|3=>3|4=>4|0=>0|9=>9|20=>20|5=>5|n=>n,fun|n=>n⟩
theorem joinLays:Go.Proofs.SlLaysJ.n14 Tryz.prog joinRen:={
 mixed:=by kernel_rfl
 f14:=Tryz.func311.trans (congrArg some Xq)
 f15:=Tryz.func335.trans (congrArg some Xq)
 t0:=Tryz.underlying0
 a0:=Tryz.isAgg0
 z0:=Tryz.sizeOf0
 v0:=Tryz.zeroValue0
 t3:=Tryz.underlying3
 a3:=Tryz.isAgg3
 z3:=Tryz.sizeOf3
 v3:=Tryz.zeroValue3
 t4:=Tryz.underlying4
 a4:=Tryz.isAgg4
 z4:=Tryz.sizeOf4
 v4:=Tryz.zeroValue4
 t9:=Tryz.underlying9
 a9:=Tryz.isAgg9
 z9:=Tryz.sizeOf9
 v9:=Tryz.zeroValue9
 t20:=Tryz.underlying20
 a20:=Tryz.isAgg20
 z20:=Tryz.sizeOf20
 v20:=Tryz.zeroValue20
 t22:=Tryz.underlying58
 a22:=Tryz.isAgg58
 z22:=Tryz.sizeOf58
 v22:=Tryz.zeroValue58
 t26:=Tryz.underlying150
 a26:=Tryz.isAgg150
 z26:=Tryz.sizeOf150
 v26:=Tryz.zeroValue150
 t5:=Tryz.underlying5
 z5:=Tryz.sizeOf5
 i5:=by kernel_rfl}
theorem joinMany(b o n c:Nat)(vs:List Value)(ls:List (List UInt8))(sv:Value)(sep:List UInt8)(w:World)(hn:ls.length=n)(h2:2<=n)(hP:Lib.PartsAt w ⟨b,o,none⟩ vs ls)(hcap:n<=c)(hS:Lib.HoldsBytes w sv sep)(hn47:n<=140737488355328)(hlen:Lib.lens ls+sep.length*(n-1)<=140737488355328):
  Calls Tryz.prog 311 #[.slice (some ⟨b,o,none⟩) n c,sv] w λe w'=>∃v',e= .returned v'/\Lib.FreshBytes w.heap.size w' v' (Lib.join ls sep)/\Below w.heap.size w w':=Any.bytes_Join_many joinLays b o n c vs ls sv sep w hn h2 hP hcap hS hn47 hlen
end
section
open Go.RowKit
section
variable {s0:World} {U:Nat} {D:Nat->Prop} {ρ:Env} {h:Heap} {w w':World}
theorem Rel.pushAt(r:Rel s0 U D ρ h w)(hU:h.next+1<=U){b:Blk}{o:Obj}{q pre cap:Nat}(hq:w.heap.size<=q)(g:Below w.heap.size w w')(hn:w'.heap[q]? =some o)(hin:InB (DD D ρ) b)(hk:KnB (ρ.add h.next q pre cap) h.next b o):
  Rel s0 U (λi=>D i\/i=h.next) (ρ.add h.next q pre cap) (h.push b) w'/\Nxt D ρ h w (λi=>D i\/i=h.next) (ρ.add h.next q pre cap) (h.push b) w':=by
 have hne:=r.next_new hU;have hag:Env.Agree (DD D ρ) ρ (ρ.add h.next q pre cap):=Env.add_agree hne;have hdd:∀j m,DD D ρ j m->DD (λi=>D i\/i=h.next) (ρ.add h.next q pre cap) j m:=λj m hj=>⟨.inl hj.1,by rw[(hag j m hj).2.2.1];exact hj.2⟩
 have hb:∀j,D j->(ρ.add h.next q pre cap).b j=ρ.b j:=λj hj=>(hag j 0 ⟨hj,Nat.zero_le _⟩).1
 have hbn:(ρ.add h.next q pre cap).b h.next=q:=by simp[Env.add]
 have get:∀j c,(D j\/j=h.next) ->(h.push b).get j=some c->(j=h.next/\c=b)\/(D j/\h.get j=some c):=λj c hj hc=>by
  rw[Heap.get_push] at hc;split at hc
  ·rename_i e;cases hc;exact .inl ⟨e,rfl⟩
  ·rename_i e;rcases hj with hj|hj
   ·exact .inr ⟨hj,hc⟩
   ·exact absurd hj e
 have hlt:∀j c,D j->h.get j=some c->ρ.b j<w.heap.size:=λj c hj hc=>by
  obtain⟨o,h1,_⟩:=r.has j c hj hc;exact(Array.getElem?_eq_some_iff.1 h1).1
 have hsz:s0.heap.size<=w.heap.size:=r.base.size;refine⟨⟨λj hj=>?_,λj hj=>?_,λj c hj hc=>?_,λj c hj hc=>?_,λj k c d hj hk' hc hd hoc hod hne'=>?_,λj c hj hc hoc=>?_,λj k c d hj hk' hc hd hoc hod=>?_,?_⟩,?_⟩
 ·show j<h.next+1\/_;rcases hj with hj|hj
  ·have:=r.lt j hj;omega
  ·omega
 ·have hj:h.next+1<=j:=hj;rw[Heap.get_push,if_neg Xd];exact r.wf j Xd
 ·rcases get j c hj hc with ⟨rfl,rfl⟩|⟨hj,hc⟩
  ·exact⟨o,by rw[hbn];exact hn,hk⟩
  ·obtain⟨o,h1,h2⟩:=r.has j c hj hc;exact⟨o,by rw[hb j hj,g.block _ (hlt j c hj hc)];exact h1,KnB.agree hag (m:=0) ⟨hj,Nat.zero_le _⟩ (r.clo j c hj hc) h2⟩
 ·rcases get j c hj hc with ⟨rfl,rfl⟩|⟨hj,hc⟩
  ·exact hin.mono hdd
  ·exact(r.clo j c hj hc).mono hdd
 ·rcases get j c hj hc with ⟨rfl,rfl⟩|⟨hj1,hc1⟩<;>rcases get k d hk' hd with ⟨rfl,rfl⟩|⟨hk1,hd1⟩
  ·exact absurd rfl hne'
  ·rw[hbn,hb k hk1];have:=hlt k d hk1 hd1;omega
  ·rw[hbn,hb j hj1];have:=hlt j c hj1 hc1;omega
  ·rw[hb j hj1,hb k hk1];exact r.inj j k c d hj1 hk1 hc1 hd1 hoc hod hne'
 ·rcases get j c hj hc with ⟨rfl,rfl⟩|⟨hj,hc⟩
  ·rw[hbn];omega
  ·rw[hb j hj];exact r.own j c hj hc hoc
 ·rcases get j c hj hc with ⟨rfl,rfl⟩|⟨hj1,hc1⟩<;>rcases get k d hk' hd with ⟨rfl,rfl⟩|⟨hk1,hd1⟩
  ·rw[hoc] at hod;cases hod
  ·rw[hbn,hb k hk1];have:=hlt k d hk1 hd1;omega
  ·rw[hbn,hb j hj1];have:=hlt j c hj1 hc1;omega
  ·rw[hb j hj1,hb k hk1];exact r.old j k c d hj1 hk1 hc1 hd1 hoc hod
 ·exact⟨g.os.trans r.base.os,g.tape.trans r.base.tape,g.output.trans r.base.output,Nat.le_trans hsz g.size,λk hk=>(g.block k Xd).trans (r.base.block k hk)⟩
 ·refine⟨λ_ h=>.inl h,λj hj=>?_,λj hj=>?_,λc hc _=>g.block c hc,λj hj hn' hl=>?_,g.size,Nat.le_refl _,Nat.le_succ _,g.os,g.tape,g.output⟩
  ·rcases hj with hj|hj
   ·exact .inl hj
   ·exact .inr ⟨Nat.le_of_eq hj.symm,by show j<h.next+1;omega⟩
  ·have:j≠h.next:=by
    rcases hj with hj|hj
    ·omega
    ·have hj:h.next+1<=j:=hj;omega
   simp[Env.add,this]
  ·have hl:j<h.next+1:=hl;obtain rfl:j=h.next:=by omega
   exact .inl (by rw[hbn];exact hq)
theorem byJ_spec(r:Rel s0 U D ρ h w){v:V}{l:List UInt8}(hin:InD (DD D ρ) v)(hk:byJ h v=some l):Lib.HoldsBytes w (conc ρ v) l:=by
 unfold byJ at hk;split at hk
 ·cases hk;exact⟨none,0,rfl,λ_=>rfl,λa h=>by cases h⟩
 ·rename_i b base off n lim;split at hk
  ·rename_i bv hv;split at hk
   ·rename_i L hL;obtain⟨g1,g2⟩:=v5q ρ hk;obtain⟨q1,_,_,_⟩:=qkq (ρ:=ρ) 50 bv off n 1 L hL;have hcells:=kKq r hin hv hL;rw[g2] at hcells;obtain rfl:n=l.length:=by omega
    exact⟨_,_,rfl,λh=>Qb,λa ha i x hx=>by cases ha;exact hcells i _ (by simp[hx])⟩
   ·cases hk
  ·cases hk
 ·cases hk
theorem bysJ_spec(r:Rel s0 U D ρ h w):∀{xs:List V} {ls:List (List UInt8)},InDL (DD D ρ) xs->bysJ h xs=some ls->xs.length=ls.length/\(∀(i:Nat) v l,(zQq ρ xs)[i]? =some v->ls[i]? =some l->Lib.HoldsBytes w v l)/\∀x∈xs,x.size=1/\x.leaf=true
 |[],ls,_,hk=>by cases hk;exact⟨rfl,λi v l h=>by simp[zQq] at h,λx hx=>by cases hx⟩
 | v ::xs,ls,hin,hk=>by
  unfold bysJ at hk;split at hk
  ·rename_i x r' hx hr;cases hk;obtain⟨h1,h2,h3⟩:=bysJ_spec r hin.2 hr;refine⟨congrArg (· +1) h1,λi u l hu hl=>?_,λy hy=>?_⟩
   ·cases i with
    |zero=>
     simp only[zQq,List.getElem?_cons_zero,Option.some.injEq] at hu hl;subst hu;subst hl
     exact byJ_spec r hin.1 hx
    |succ i=>
     simp only[zQq,List.getElem?_cons_succ] at hu hl;exact h2 i u l hu hl
   ·rcases List.mem_cons.1 hy with rfl|hy
    ·unfold byJ at hx;split at hx
     ·exact⟨rfl,rfl⟩
     ·exact⟨rfl,rfl⟩
     ·cases hx
    ·exact h3 y hy
  ·cases hk
theorem inl_of{D:Nat->Nat->Prop}:∀{l:List V},(∀x∈l,InD D x) ->InDL D l
 |[],_=>trivial
 |x::l,h=>⟨h x (List.mem_cons_self ..),inl_of λy hy=>h y (List.mem_cons_of_mem _ hy)⟩
theorem QJq(ρ:Env):∀{xs:List V},(∀x∈xs,x.size=1/\x.leaf=true) ->zvq ρ 1 xs=zQq ρ xs
 |[],_=>rfl
 |x::xs,h=>by
  have hx:=(h x Xg).2;simp only[zvq,zQq,jUq hx,QJq ρ (xs:=xs) λy hy=>h y (by simp[hy])];rw[yKq (by rfl)];rfl
theorem join_flat:∀ls:List (List UInt8),Lib.join ls []=ls.flatten
 |[]=>rfl
 |x::r=>by
  rw[Lib.join_cons];unfold Lib.joinTail;simp
end
theorem joinOK{C:Cfg}:KnownFn Tryz.prog C 311 joinJ:=λvs h v h' he=>by
 unfold joinJ at he;split at he
 ·rename_i b base off n lim y;split at he
  ·rename_i bv hv hy;split at he
   ·rename_i xs hxs;split at he
    ·rename_i ls hls;split at he
     ·rename_i hb;cases he;simp only[Bool.and_eq_true] at hb;obtain⟨⟨⟨hb1,hb2⟩,hb3⟩,hb4⟩:=hb;have hb1:=Ob hb1;have hb2:=Ob hb2;have hb3:=Ob hb3;have hb4:=Ob hb4;refine⟨ypq _ _,(fnsOK 311 _ (by rfl)).2.1,λs0 U D ρ w hU gl hin rel=>?_⟩;have hU:h.next+1<=U:=hU;have hx:=hin.1;have hyi:=hin.2.1;obtain⟨g1,g2,g3,g4⟩:=qkq (ρ:=ρ) 50 bv off n 1 xs hxs;obtain⟨_,_,_,_,_,_,_,hvin⟩:=rel.val hx.2.2.1 hv;have hxin:InDL (DD D ρ) xs:=g4 _ hvin;obtain⟨k1,k2,k3⟩:=bysJ_spec rel (inl_of (Jxq hxin)) hls;have hcells:=kKq rel hx hv hxs;rw[show zvq ρ 1 xs=zQq ρ (z0q 1 xs) by rw[<-QJq ρ k3,jRq ρ 1 xs,vOq ρ _ (u3q 1 xs)]] at hcells;have hge:=kLq hx;have hc0:¬yjq ρ b off 1 lim=0:=by omega
      rw[if_neg hc0] at hcells;have hP:Lib.PartsAt w ⟨ρ.b b,ρ.pre b+off,none⟩ (zQq ρ (z0q 1 xs)) ls:=⟨by rw[jlq,k1],hcells,k2⟩;have hS:=byJ_spec rel hyi hy;have hfl:(z0q 1 xs).length=xs.length:=by rw[xuq,Nat.mul_one]
      have hlens:Lib.lens ls=ls.flatten.length:=by simp[Lib.lens,List.length_flatten]
      have cj:=joinMany (ρ.b b) (ρ.pre b+off) n (yjq ρ b off 1 lim) (zQq ρ (z0q 1 xs)) ls (conc ρ y) [] w Xd hb1 hP hge hS hb2 (by rw[hlens,List.length_nil,Nat.zero_mul,Nat.add_zero];exact hb4)
      have harg:(zQq ρ [.sl b base off n 1 lim,y]).toArray= #[.slice (some ⟨ρ.b b,ρ.pre b+off,none⟩) n (yjq ρ b off 1 lim),conc ρ y]:=by
       simp[zQq,conc,ynq,hc0]
      rw[harg];refine cj.mono ?_;rintro e w' ⟨v',rfl,hfresh,hbel⟩;rw[join_flat] at hfresh;clear hlens cj;generalize ls.flatten=F at hfresh hb3 hb4⊢;obtain⟨g,cap,zs,rfl,hg,hlc,hmax,hzl,hzr,hzb,hcell,hfrz⟩:=hfresh
      have hobj:∃cs ty fz,w'.heap[g]? =some (.cells cs ty fz):=by
       have:=hcell 0 Xd;simp only[World.cell?] at this;split at this
       ·rename_i cs ty fz hh;exact⟨_,_,_,hh⟩
       ·cases this
      obtain⟨cs,ty,fz,hobj⟩:=hobj
      have hcs:∀i,i<cap->cs[i]? =some (.int .u8 (zs.getD i 0)):=λi hi=>by
       have:=hcell i hi;simpa[World.cell?,hobj] using this
      have hval:∀i (hi:i<F.length),zs.getD i 0=(F[i].toNat:Int):=λi hi=>by
       have hz:i<zs.length:=by omega
       have h1:=congrArg (·[i]?) hzb;simp only[Go.Lib.bytesOf,List.getElem?_map,List.getElem?_take,hi,if_true,List.getElem?_eq_getElem hz,Option.map_some,List.getElem?_eq_getElem hi,Option.some.injEq] at h1;obtain⟨q1,q2⟩:=hzr zs[i] (List.getElem_mem hz);rw[<-h1];simp[List.getD,List.getElem?_eq_getElem hz];omega
      have hcells2:cs.toList=cellsV ρ (.arr F.length 1 (yQq F))++cs.toList.drop F.length:=by
       have e:cellsV ρ (.arr F.length 1 (yQq F))=F.map λb=>Value.int .u8 b.toNat:=by
        simp only[cellsV];rw[yKq (by rw[zRq];simp[yQq]),jVq]
       rw[e];apply List.ext_getElem?;intro i;by_cases hi:i<F.length
       ·rw[List.getElem?_append_left (by simpa using hi)];have:=hcs i Xd;rw[hval i hi] at this;simpa[List.getElem?_eq_getElem hi] using this
       ·rw[List.getElem?_append_right Xp,List.getElem?_drop];congr 1
        simp;omega
      have hinv:InD (DD D ρ) (.arr F.length 1 (yQq F)):=InDL_iff.2 λy hy=>by obtain⟨c,_,rfl⟩:=List.mem_map.1 hy;trivial
      have hag:Env.Agree (DD D ρ) ρ (ρ.add h.next g 0 cap):=Env.add_agree (rel.next_new hU)
      obtain⟨r',n'⟩:=rel.pushAt hU (q:=g) (pre:=0) (cap:=cap) (b:=.ro (.arr F.length 1 (yQq F))) hg hbel hobj hinv ⟨[],cs.toList.drop F.length,ty,fz,by
       rw[yPq hag hinv,List.nil_append,<-hcells2],by simp[Env.add],by simp[Env.add];exact hlc⟩
      refine⟨_,_,?_,r',n',by omega,Nat.le_refl _,.inr rfl,?_⟩
      ·have:¬cap=0:=by omega
       simp[conc,ynq,yjq,Env.add,this]
      ·simp[Env.add];exact hlc
     ·cases he
    ·cases he
   ·cases he
  ·cases he
 ·cases he
theorem known0OK:vTq Tryz.prog cfg:=λf k hk=>by
 have hk:(match Nat.beq f 311 with|true=>some joinJ|false=>none)=some k:=hk;split at hk
 ·rename_i e;cases hk;have:=Nat.eq_of_beq_eq_true e;subst this;exact joinOK
 ·cases hk
section
section
variable {C:Cfg} {G:Nat->Option W} {o:Oper} {fr fr2:FrW} {hp:HpW} {nw:Nat} {R:Res} {post:W->HpW->Nat->Res->Option EvW->Prop}
theorem ZWq(hf:subV (blkA hp) fr fr2)(h:Step C G o fr2 [] nw R λw hp' nw' R' ev=>ev=some .gen/\post w hp' nw' R' ev):Step C G o fr hp nw R post:=λΓ X frv hnw s f0=>by
 let Γ2:Ctx:=⟨Γ.nw,Γ.σ,λc=>Γ.D c\/Owns Γ hp c,Γ.h⟩
 have le:Γ.Le Γ2:=⟨Nat.le_refl _,λ_ _=>rfl,λ_ h=>.inl h,λ_ _=>rfl⟩
 have q:Seen (blkA hp) Γ Γ2:=⟨λ_ h _=>h,λ_ _ _=>rfl,λ_ h=>.inl h,λ_ _=>rfl,λb c _ h=>by
  unfold blkA at h;split at h
  ·rename_i ty c' hg;cases h;obtain⟨v,h1,h2,h3⟩:=jNq s hg;exact⟨.inr ⟨b,_,hg,rfl⟩,v,h2,h3⟩
  ·cases h⟩
 have s2:SatH C G Γ2 [] X R:=⟨s.wf,λk ty' w hk=>by simp[hget] at hk,λk k' x y hx=>by simp[hget] at hx,List.nodup_nil,λd hd hX=>by
  rcases hd with h|⟨b,x,h,rfl⟩
  ·exact s.dX d h hX
  ·exact(s.own b x.1 x.2 h).2.2.1 hX,s.xlt,λd hd=>by
  rcases hd with h|⟨b,x,h,rfl⟩
  ·exact s.dlt d h
  ·exact s.own_lt h,R.st _ _ _ _ _ s.res le.D le.val (λ_ _=>rfl) (Nat.le_refl _),s.gl.mono le⟩
 have a:Frm Γ.nw Γ hp X Γ2 [] X:=⟨λ_ _=>rfl,λh=>h,Nat.le_refl _,λ_ _ _ _=>rfl,λ_ h=>.inl h,λd hd=>by
  rcases hd with h|h
  ·exact .inl h
  ·exact .inr (.inl (.inl h)),λk x hk h=>by simp[hget] at h,λk x hk h=>by simp[hget] at h,λ_ h=>.inl h,λ_ h _ _=>h⟩
 obtain⟨n,w,hp',R',ev,v,h',Γ',X',⟨rfl,h1⟩,h2,⟨h3,h3'⟩,h4,h5,h6,h7,h8⟩:=h Γ2 X frv hnw s2 λt w hw=>by
  obtain⟨w0,g1,g2⟩:=kFq hf t w hw;obtain⟨u,g3,g4⟩:=f0 _ _ g1;exact⟨u,g3,jIq q g2 g4⟩
 exact⟨n,w,hp',R',_,v,h',Γ',X',h1,h2,⟨h3,h3'⟩,h4,⟨h5.nw,h5.σ,λc hc=>h5.D c (.inl hc),λc hc=>h5.val c (.inl hc)⟩,h6,a.trans h7,h8⟩
end
attribute [local irreducible] CoW OpW FlW Step Spec
variable {G:Nat->Option W}
theorem u0q(h:Hdr):PS cfg G 127 [hdW h] (.int .i64 (if okH h then 0 else 8)):=by
 refine gI 11 O (λR k0=>?_);refine gD 0 O (λh1=>?_) (λh1=>?_)
 ·exact gQ 25 O Xz
 ·refine gD 3 O (λh2=>?_) (λh2=>?_)
  ·exact gQ 21 O Xz
  ·refine gD 4 O (λh3=>?_) (λh3=>?_)
   ·exact gQ 16 O Xz
   ·refine gU 4 O ?_;refine gS 3 O (λh4=>?_) (λh4=>?_)
    ·exact gQ 7 O Xz
    ·exact gQ 8 O Xz
theorem hnumber_s(n size:Nat)(hs:1<=size)(hs8:size<=8)(hn:n<256^size)(hn2:n<9223372036854775808):PS cfg G 261 [.int .i64 (n:Int),.int .i64 (size:Int)] (bW (beB size n)):=by
 refine gIv 8 O (λR k0=>gA 0 O (n) (zcq 1 O ?_))
 (refine zqq rfl (qsq O O O O O O (Y6q n size hs hs8 hn) ?_);rintro w hp1 nw1 ⟨rfl,rfl,rfl⟩)
 refine zeq 14 O ?_;have hp:purW (.arr (size*1) 1 (zaq (beB size n)))=true:=qOq _;exact k2q Qt rfl (.sl (full:=false) (c:=.arr (size*1) 1 (zaq (beB size n))) (xs:=zaq (beB size n)) (by show some (renW _ (W.arr (size*1) 1 (zaq (beB size n))))=_;rw[zdq hp]) hp (zpq Xn (by rw[zgq,y5q]) rfl) Xi)
theorem hjoin_s(ps:List (List UInt8))(f:Bool)(h2:2<=ps.length)(hn:ps.length<=140737488355328)(h1:1<=ps.flatten.length)(hb:ps.flatten.length<=140737488355328):PS cfg G 260 [.fz (ps.map bW) 1 f] (bW ps.flatten):=by
 exact gI 8 O (λR k0=>gC 0 O (join_w rfl ps f h2 hn h1 hb) (gQa 4 O))
def hdB(h:Hdr):List UInt8:=[beB 8 h.height.toNat,h.parent.1,h.state.1,h.rows.1,beB 4 h.many.toNat].flatten
theorem hdB_len(h:Hdr):(hdB h).length=108:=by simp[hdB,y5q,h.parent.2,h.state.2,h.rows.2]
theorem vrq(d:Dig)(i:Nat):(((zaq d.1).drop (0/1)).take 32)=zaq d.1:=by
 have h:(zaq d.1).length=32:=by rw[zgq,d.2]
 rw[show 0/1=0 from rfl,List.drop_zero,List.take_of_length_le (by rw[h];omega)]
theorem hd_sub(h:Hdr):z7q 50 (hdW h) 1 32 1=some (zaq h.parent.1)/\z7q 50 (hdW h) 33 32 1=some (zaq h.state.1)/\z7q 50 (hdW h) 65 32 1=some (zaq h.rows.1):=
 ⟨congrArg some (vrq h.parent 0),congrArg some (vrq h.state 0),congrArg some (vrq h.rows 0)⟩
theorem hbytes_no(h:Hdr)(hh:¬okH h):PS cfg G 192 [hdW h] (.tup [.nils,.int .i64 8]):=by
 exact gI 11 O (λR k0=>gC 0 O (zXq (w':=.int .i64 8) (u0q h) (by rw[if_neg hh])) (gQa 19 O))
theorem hbytes_s(h:Hdr)(hh:okH h):PS cfg G 192 [hdW h] (.tup [bW (hdB h),.int .i64 0]):=by
 obtain⟨h1,h2,h3,h4⟩:=hh;obtain⟨a,ha⟩:∃a:Nat,h.height=a:=⟨h.height.toNat,by omega⟩
 obtain⟨m,hm⟩:∃m:Nat,h.many=m:=⟨h.many.toNat,by omega⟩
 have ea:h.height.toNat=a:=by omega
 have em:h.many.toNat=m:=by omega
 have hl:=hdB_len h;have c1:=hnumber_s (G:=G) a 8 Xd Xd (by show a<18446744073709551616;omega) Xd;have c2:=hnumber_s (G:=G) m 4 Xd Xd (by show m<4294967296;omega) Xd;rw[<-ha] at c1;rw[<-hm] at c2;rw[<-ea] at c1;rw[<-em] at c2;have hj:=hjoin_s (G:=G) [beB 8 h.height.toNat,h.parent.1,h.state.1,h.rows.1,beB 4 h.many.toNat] false Xg Xg Yw Yw;rw[show [beB 8 h.height.toNat,h.parent.1,h.state.1,h.rows.1,beB 4 h.many.toNat].flatten=hdB h from rfl] at hj;refine gI 11 O (λR k0=>gC 0 O (zXq (w':=.int .i64 0) (u0q h) (by rw[if_pos ⟨h1,h2,h3,h4⟩])) (gC 16 O c1 (gC 8 O c2 ?_)));refine gSf 1 O (ZWq (fr2:=[(22,.fz ([beB 8 h.height.toNat,h.parent.1,h.state.1,h.rows.1,beB 4 h.many.toNat].map bW) 1 false)]) ⟨⟨_,rfl,(.sl2 (full:=false) rfl (.arr (.cons (.pur Xg) (.cons (.sl (full:=false) (c:=hdW h) (xs:=zaq h.parent.1) rfl Xg (hd_sub h).1 Xi) (.cons (.sl (full:=false) (c:=hdW h) (xs:=zaq h.state.1) rfl Xg (hd_sub h).2.1 Xi) (.cons (.sl (full:=false) (c:=hdW h) (xs:=zaq h.rows.1) rfl Xg (hd_sub h).2.2 Xi) (.cons (.pur Xg) .nil)))))) rfl Xi)⟩,trivial⟩ (x9q O O O O O hj Xg Xg ⟨rfl,by first|rfl|kernel_rfl,?_⟩));exact gQa 5 O
noncomputable def hashD(h:Hdr):Dig:=tagD 6 [hdB h]
theorem hhash_no(h:Hdr)(hh:¬okH h):PS cfg G 123 [hdW h] (.tup [dW yzq,.int .i64 8]):=by
 exact gI 10 O (λR k0=>gC 0 O (hbytes_no h hh) (gV 17 O qJq (gQa 7 O)))
theorem Ykq(h:Hdr)(hh:okH h):PS cfg glK 123 [hdW h] (.tup [dW (hashD h),.int .i64 0]):=by
 have hl:=hdB_len h;refine gI 10 O (λR k0=>gC 0 O (hbytes_s h hh) (zcq 21 O ?_));refine xYq O O O O O (by(repeat (first|exact .nil|refine .cons ?_ ?_|(refine .sl O ?_ rfl Xi;first|rfl|(focus (simp;done)))|(refine yxq O ?_ rfl;first|rfl|(focus (simp;done)))|(refine .pur ?_;first|rfl|(focus (simp;done)))))) (jpq 6 [hdB h] false Xg (by simp[hl])) Xk Xk ?_;exact zeq 5 O (gQa 0 O)
end
section
attribute [local irreducible] CoW OpW FlW Step Spec
variable {G:Nat->Option W}
theorem dep_sub(d:Depo):z7q 50 (pdW d) 1 32 1=some (zaq d.to.1):=congrArg some (vrq d.to 0)
theorem sign_sub(x:Tx):z7q 50 (txW x) 67 32 1=some (zaq x.sign.1):=congrArg some (vrq x.sign 0)
def depB(d:Depo):List UInt8:=beB 8 d.number++d.to.1++beB 8 d.amount
theorem depB_len(d:Depo):(depB d).length=48:=by simp[depB,y5q,d.to.2]
theorem rdepo_s(d:Depo)(h1:d.number<18446744073709551616)(h2:d.amount<18446744073709551616):PS cfg glK 212 [pdW d] (dW (depD d)):=by
 have l1:(zaq (beB 8 d.number)).length=8:=by rw[zgq,y5q]
 have l2:(zaq d.to.1).length=32:=by rw[zgq,d.to.2]
 have l3:(zaq (beB 8 d.amount)).length=8:=by rw[zgq,y5q]
 have eb:zaq (depB d)=(zaq (beB 8 d.number)++zaq d.to.1)++zaq (beB 8 d.amount):=by simp[depB,zaq]
 have hl:=depB_len d;refine gI 10 O (λR k0=>?_)
 ((refine zqq rfl (qsq O O O O O O (Y6q _ 8 Xd Xd Qq) ?_);rintro w hp1 nw1 ⟨rfl,rfl,rfl⟩))
 refine zeq 11 O ?_
 ((refine zqq rfl (qsq O O O O O O (Y6q _ 8 Xd Xd Qq) ?_);rintro w hp1 nw1 ⟨rfl,rfl,rfl⟩))
 exact zeq 12 O (gM 0 O (yRq O O (qcq (k:=ti5) (len:=8) (news:=zaq d.to.1) (olds:=zaq (beB 8 d.number)) O O O O (qfq O O O (dep_sub d)) (by intro h;rw[h] at l2;cases l2) Qj Qj rfl (by show 8*1<0+(8+_)*1;rw[l2];decide) rfl (zpq Xn l1.symm rfl))) (gM 1 O (yRq O O (qcq (k:=ti5) (len:=8+(zaq d.to.1).length) (news:=zaq (beB 8 d.amount)) (olds:=zaq (beB 8 d.number)++zaq d.to.1) O O O O (qfq O O O (zpq Xn l3.symm rfl)) (by intro h;rw[h] at l3;cases l3) (by rw[l2,l3];decide) (by rw[l2,l3];decide) rfl (by show(8+_)*1<0+(_+_)*1;rw[l2,l3];decide) rfl (zpq Xn (by rw[List.length_append,l1]) rfl))) (zcq 1 O (xYq O O O O O (.cons (.pur rfl) (.cons (.sl2 (full:=false) rfl (.arr (.cons (.sl (full:=false) (xs:=zaq (depB d)) rfl (show purL ((zaq (beB 8 d.number)++zaq d.to.1)++zaq (beB 8 d.amount))=true by rw[<-eb];simp) Yz Xi) .nil)) rfl Xi) .nil)) (jpq 9 [depB d] false Xg (by simp[hl])) Xk Xk (zeq 4 O (gQa 0 O))))))
noncomputable def recW(r:Rec):W:=.agg 34 [.int .u8 (.ofNat r.kind.toNat),dW r.id,.int .i64 (r.code:Int)]
@[simp] theorem uKq(r:Rec):purW (recW r)=true:=by simp[recW]
def okR(r:Rec):Prop:=(r.kind=1\/r.kind=2)/\(r.code=0\/r.code=151\/(r.kind=2/\r.code=150))
theorem rcheck_s(r:Rec)(h:okR r):PS cfg G 215 [recW r] (.int .i64 0):=by
 obtain⟨k,d,c⟩:=r;obtain⟨hk,hc⟩:=h;simp only at hk hc;rcases hk with rfl|rfl
 ·have hc:c=0\/c=151:=by
   rcases hc with h|h|⟨h,_⟩
   ·exact .inl h
   ·exact .inr h
   ·exact absurd h Xn
  rcases hc with rfl|rfl
  ·skip
   exact gI 27 O (λR k0=>gFa 0 O (gTa 8 O (gTa 16 O (gQa 28 O))))
  ·skip
   exact gI 27 O (λR k0=>gFa 0 O (gTa 8 O (gFa 16 O (gTa 4 O (gQa 23 O)))))
 ·rcases hc with rfl|rfl|⟨_,rfl⟩
  ·skip
   exact gI 27 O (λR k0=>gTa 0 O (gFa 12 O (gTa 10 O (gQa 28 O))))
  ·skip
   exact gI 27 O (λR k0=>gTa 0 O (gFa 12 O (gFa 10 O (gTa 4 O (gQa 23 O)))))
  ·skip
   exact gI 27 O (λR k0=>gTa 0 O (gTa 12 O (gQa 39 O)))
def recB(r:Rec):List UInt8:=([r.kind]++r.id.1)++beB 2 r.code
theorem recB_len(r:Rec):(recB r).length=35:=by simp[recB,y5q,r.id.2]
theorem rec_sub(r:Rec):z7q 50 (recW r) 1 32 1=some (zaq r.id.1):=congrArg some (vrq r.id 0)
theorem okR.code{r:Rec}(h:okR r):r.code<65536:=by
 rcases h.2 with h|h|⟨_,h⟩<;>omega
theorem rbytes_s(r:Rec)(h:okR r):PS cfg G 142 [recW r] (.tup [bW (recB r),.int .i64 0]):=by
 have hc:=h.code;have l1:(zaq [r.kind]).length=1:=by rw[zgq];rfl
 have l2:(zaq r.id.1).length=32:=by rw[zgq,r.id.2]
 have l3:(zaq (beB 2 r.code)).length=2:=by rw[zgq,y5q]
 have eb:zaq (recB r)=(zaq [r.kind]++zaq r.id.1)++zaq (beB 2 r.code):=by simp[recB,zaq]
 refine gIv 11 O (λR k0=>gC 0 O (rcheck_s r h) (gFa 6 O (gA 9 O (r.code) ?_)));first|((refine zqq rfl (qsq O O O O O O (Y6q _ 2 Xd Xd (by show _<65536;omega)) ?_);rintro w hp1 nw1 ⟨rfl,rfl,rfl⟩))|((refine zqq rfl (qsq O O O O O O (Y6q _ 8 Xd Xd Qq) ?_);rintro w hp1 nw1 ⟨rfl,rfl,rfl⟩))
 exact zeq 14 O (gM 0 O (yRq O O (qcq (k:=ti5) (len:=1) (news:=zaq r.id.1) (olds:=zaq [r.kind]) O O O O (qfq O O O (rec_sub r)) (by intro h;rw[h] at l2;cases l2) Qj Qj rfl (by show 1*1<0+(1+_)*1;rw[l2];decide) rfl (zpq Xn l1.symm rfl))) (gM 1 O (yRq O O (qcq (k:=ti5) (len:=1+(zaq r.id.1).length) (news:=zaq (beB 2 r.code)) (olds:=zaq [r.kind]++zaq r.id.1) O O O O (qfq O O O (zpq Xn l3.symm rfl)) (by intro h;rw[h] at l3;cases l3) (by rw[l2,l3];decide) (by rw[l2,l3];decide) rfl (by show(1+_)*1<0+(_+_)*1;rw[l2,l3];decide) rfl (zpq Xn (by rw[List.length_append,l1]) rfl))) (zcq 5 O (k2q Qt rfl (.tup (.cons (.sl (full:=false) (xs:=zaq (recB r)) rfl (show purL ((zaq [r.kind]++zaq r.id.1)++zaq (beB 2 r.code))=true by rw[<-eb];simp) Yz Xi) (.cons (.pur rfl) .nil)))))))
def txB(x:Tx):List UInt8:=jnq x++x.sign.1
theorem txB_len(x:Tx):(txB x).length=120:=by rw[txB,List.length_append,ZFq,x.sign.2]
theorem txbytes_s(x:Tx)(hx:x.ok):PS cfg G 284 [txW x] (bW (txB x)):=by
 have hb:=ZFq x;have l1:(zaq (jnq x)).length=88:=by rw[zgq,hb]
 have l2:(zaq x.sign.1).length=32:=by rw[zgq,x.sign.2]
 have hne:zaq (jnq x)≠[]:=λh=>by rw[h] at l1;cases l1
 have eb:zaq (txB x)=zaq (jnq x)++zaq x.sign.1:=by simp[txB,zaq]
 refine gIv 9 O (λR k0=>?_)
 (refine ytq rfl (step_pl O O O O O Xg (bodyL_s x hx) Xg ?_);rw[kjq hne,kkq hne];refine⟨by first|rfl|kernel_rfl,?_⟩)
 exact yTq 2 O (gM 0 O (yRq O O (qcq (k:=ti5) (len:=(zaq (jnq x)).length) (news:=zaq x.sign.1) (olds:=zaq (jnq x)) O O O O (qfq O O O (sign_sub x)) (by intro h;rw[h] at l2;cases l2) (by rw[l1,l2];decide) (by rw[l1,l2];decide) rfl (by show _*1<0+(_+_)*1;rw[l1,l2];decide) rfl (zpq Xn O O))) (zcq 4 O (k2q Qt rfl (.sl (full:=false) (xs:=zaq (txB x)) rfl (show purL (zaq (jnq x)++zaq x.sign.1)=true by rw[<-eb];simp) (by rw[eb,l1,l2];exact zpq Xn (by simp[l1,l2]) rfl) Xi))))
theorem txid_s(x:Tx)(hx:x.ok):PS cfg glK 214 [txW x] (dW (idD x)):=by
 have hl:=txB_len x;refine gI 9 O (λR k0=>gC 0 O (txbytes_s x hx) (zcq 1 O ?_));first|refine xYq O O O O O (by(repeat (first|exact .nil|refine .cons ?_ ?_|(refine .sl O ?_ rfl Xi;first|rfl|(focus (simp;done)))|(refine yxq O ?_ rfl;first|rfl|(focus (simp;done)))|(refine .pur ?_;first|rfl|(focus (simp;done)))))) (jpq 5 [txB x] false Xg (by simp[hl])) Xk Xk ?_|refine xYq O O O O O (.cons (.pur rfl) (.cons (.sl2 (full:=false) rfl (.arr (.cons (.sl (full:=false) (xs:=zaq (depB d)) rfl (show purL ((zaq (beB 8 d.number)++zaq d.to.1)++zaq (beB 8 d.amount))=true by rw[<-eb];simp) Yz Xi) .nil)) rfl Xi) .nil)) (jpq 9 [depB d] false Xg (by simp[hl])) Xk Xk ?_
 exact zeq 4 O (gQa 0 O)
end
section
attribute [local irreducible] CoW OpW FlW Step Spec
noncomputable def sumD:T->Dig
 |.nil=>tagD 0 []
 |.leaf k v=>tagD 1 [k.1,v]
 |.fork l r=>tagD 2 [(sumD l).1,(sumD r).1]
def x4q(t:T):Prop:=∀p∈t.all,p.2.length<1000000
theorem ok_len:∀{t:T} {d:Nat} {b:Dig},t.ok d b=true->(t.isFork=true->2<=t.all.length)/\(t.non=true->1<=t.all.length)
 |.nil,_,_,_=>⟨λh=>Qb,λh=>Qb⟩
 |.leaf k v,_,_,_=>⟨λh=>Qb,λ_=>by simp[T.all]⟩
 |.fork l r,d,b,h=>by
  obtain⟨_,h1,h2,h3⟩:=ok_fork.1 h;obtain⟨l1,l2⟩:=ok_len h1;obtain⟨r1,r2⟩:=ok_len h2
  have key:2<=l.all.length+r.all.length:=by
   unfold T.two at h3;rcases Bool.or_eq_true_iff.1 h3 with h3|h3
   ·rcases Bool.or_eq_true_iff.1 h3 with h3|h3
    ·have:=l1 h3;omega
    ·have:=r1 h3;omega
   ·obtain⟨q1,q2⟩:=Bool.and_eq_true_iff.1 h3;have:=l2 q1;have:=r2 q2;omega
  have e:(T.fork l r).all.length=l.all.length+r.all.length:=by simp[T.all]
  exact⟨λ_=>by omega,λ_=>by omega⟩
theorem two_len{l r:T}{d d':Nat}{b b':Dig}(h1:l.ok d b=true)(h2:r.ok d' b'=true)(h3:T.two l r=true):2<=l.all.length+r.all.length:=by
 obtain⟨l1,l2⟩:=ok_len h1;obtain⟨r1,r2⟩:=ok_len h2;unfold T.two at h3;rcases Bool.or_eq_true_iff.1 h3 with h3|h3
 ·rcases Bool.or_eq_true_iff.1 h3 with h3|h3
  ·have:=l1 h3;omega
  ·have:=r1 h3;omega
 ·obtain⟨q1,q2⟩:=Bool.and_eq_true_iff.1 h3;have:=l2 q1;have:=r2 q2;omega
theorem node_sub(x:Node):z7q 50 (nW x) 1 32 1=some (zaq x.key.1):=by
 have h:(zaq x.key.1).length=32:=by rw[zgq,x.key.2]
 show some (((zaq x.key.1).drop (0/1)).take 32)=_;rw[show 0/1=0 from rfl,List.drop_zero,List.take_of_length_le (by rw[h];omega)]
theorem ZMq:PS cfg glK 68 [] (dW (tagD 0 [])):=by
 exact gI 7 O (λR k0=>xYq O O O O O (.cons (.pur rfl) (.cons .nilfz .nil)) (jpq 0 [] false Xg Xg) Xk Xk (zeq 4 O (gQa 0 O)))
theorem tsum_s(t0:Tree)(hb:t0.nodes.length<=4611686018427387903):∀(t:T) (n:Nat),Rep t0.nodes n t->x4q t->PS cfg glK 65 [tW t0,.int .i64 (n:Int)] (dW (sumD t)):=by
 intro t;induction t with
 |nil=>
  intro n hr hs;obtain rfl:n=0:=by cases hr;rfl
  refine gI 13 O (λR k0=>?_);refine gS 0 O (λh1=>?_) (λh1=>?_)
  ·exact gC 2 O (ZMq) (gQa 5 O)
  ·exfalso;omega
 |leaf k v=>
  intro n hr hs;have hle:=hr.le;have hv:v.length<1000000:=hs (k,v) (by simp[T.all]);cases hr with
  |leaf h=>
  rename_i n l r;refine gI 13 O (λR k0=>?_);refine gS 0 O (λh1=>?_) (λh1=>?_)
  ·exfalso;omega
  ·refine gA 7 O (n) (gP 0 O (ymq (i:=n) O O O O O O O (zKq nW h)) (zcq 20 O ?_));first|refine fl_lk O O O O O (.cons (.pur rfl) (.cons (.sl2 (full:=false) rfl (.arr (.cons (.sl (full:=false) (c:=nW ⟨true,k,v,l,r⟩) (xs:=zaq k.1) rfl Xg (node_sub _) Xi) (.cons (.pur Xg) .nil))) rfl Xi) .nil)) (jpq 1 [k.1,v] false Xg (by simp[k.2,hv])) Xk Xk Yg ?_|refine fl_lk O O O O O (.cons (.pur rfl) (.cons .nilfz .nil)) (jpq 0 [] false Xg Xg) Xk Xk Yg ?_
   exact yTq 5 O (gQa 0 O)
 |fork tl tr ihL ihR=>
  intro n hr hs;have hle:=hr.le;cases hr with
  |fork h hl0 hr0 hL hR=>
  rename_i n l r k v;have sL:x4q tl:=λp hp=>hs p (by simp[T.all,hp])
  have sR:x4q tr:=λp hp=>hs p (by simp[T.all,hp])
  refine gI 13 O (λR k0=>?_);refine gS 0 O (λh1=>?_) (λh1=>?_)
  ·exfalso;omega
  ·exact gA 7 O (n) (gP 0 O (ymq (i:=n) O O O O O O O (zKq nW h)) (gC 20 O (ihL l hL sL) (gC 3 O (ihR r hR sR) (zcq 11 O (fl_lk O O O O O (.cons (.pur rfl) (.cons (.sl2 (full:=false) rfl (.arr (.cons (.sl (full:=false) (xs:=zaq (sumD tl).1) rfl Xg (zpq Xn (by simp[zgq,(sumD tl).2]) rfl) Xi) (.cons (.sl (full:=false) (xs:=zaq (sumD tr).1) rfl Xg (zpq Xn (by simp[zgq,(sumD tr).2]) rfl) Xi) .nil))) rfl Xi) .nil)) (jpq 2 [(sumD tl).1,(sumD tr).1] false Xg (by simp[(sumD tl).2,(sumD tr).2])) Xk Xk Yg (yTq 4 O (gQa 0 O)))))))
theorem QYq(t:Tree)(n:Nat)(t0:T)(h:IsT t n t0):PS cfg glK 24 [tW t] (.tup [dW (sumD t0),.int .i64 0]):=by
 have hs:x4q t0:=λp hp=>by have:=(h.val p hp).2;omega
 have hlen:=h.len;refine gI 11 O (λR k0=>?_);refine gC 0 O (zXq (jdq t Xd) (by rw[if_pos h.may])) ?_;refine zcq 17 O ?_;refine yoq O O O O O (by rw[h.root];rfl) (tsum_s t Xd t0 n h.rep hs) ?_;refine zeq 5 O ?_;exact gQa 0 O
end
section
attribute [local irreducible] CoW OpW FlW Step Spec
variable {G:Nat->Option W}
def qbq(n:Nat):Nat:=2^(lenM (n-1) -1)
theorem Jvq{n:Nat}(h2:2<=n)(h:n<=256):1<=lenM (n-1)/\lenM (n-1)<=8/\1<=qbq n/\qbq n<n:=by
 have key:∀n,n<=256->2<=n->1<=lenM (n-1)/\lenM (n-1)<=8/\1<=qbq n/\qbq n<n:=by decide+kernel
 exact key n h h2
theorem len64_s(x:Nat)(hx:x<=255):PS cfg G 351 [.int .u64 (x:Int)] (.int .i64 (lenM x:Nat)):=by
 have hl:=Jpq x hx;have e:((UInt8.ofNat (lenM x)).toNat:Int)=(lenM x:Nat):=by congr 1;simp;omega
 refine gI 12 O (λR k0=>?_);refine gS 0 O (λh1=>?_) (λh1=>?_)
 ·exfalso;omega
 refine gS 9 O (λh2=>?_) (λh2=>?_)
 ·exfalso;omega
 refine gS 9 O (λh3=>?_) (λh3=>?_)
 ·exfalso;omega
 exact gA 6 O (x) (gP 0 O (ix_str O O O O O (len_tabW _ (by decide+kernel) x hx)) (gA 0 O (lenM x) (e:=e) (gA 0 O (lenM x) (gQa 4 O))))
theorem len_s(x:Nat)(hx:x<=255):PS cfg G 343 [.int .u64 (x:Int)] (.int .i64 (lenM x:Nat)):=by
 exact gI 12 O (λR k0=>gC 0 O (len64_s _ Xd) (gQa 4 O))
theorem front_s(n:Nat)(h2:2<=n)(h:n<=256):PS cfg G 325 [.int .i64 (n:Int)] (.int .i64 (qbq n:Nat)):=by
 obtain⟨k1,k2,k3,k4⟩:=Jvq h2 h;refine gI 8 O (λR k0=>gA 0 O (n-1) (gA 0 O (n-1) (gC 0 O (len_s (n-1) Xd) (gA 0 O (lenM (n-1) -1) ?_))));refine gV (w':=.int .i64 (qbq n:Nat)) 0 O (by unfold qbq;generalize lenM (n-1)=L at k1 k2;rcases(show L=1\/L=2\/L=3\/L=4\/L=5\/L=6\/L=7\/L=8 by omega) with h|h|h|h|h|h|h|h<;>(subst h;rfl)) ?_;exact gQa 4 O
theorem halves_s(l:List W)(f:Bool)(hl:purL l=true):PS cfg G 287 [.fz l 1 f] (.fn 324 [] [.fel (.fz l 1 f)]):=by
 have hp:purW (.fz l 1 f)=true:=hl;exact gI 13 O (λR k0=>y4q (fr2:=[(2,_)]) Qt ⟨⟨_,rfl,.fn .nil (.cons (yxq rfl hp rfl) .nil)⟩,trivial⟩ O O)
noncomputable def encH(p:List (List UInt8)×Bool):List W:=[.fz (p.1.map bW) 1 p.2]
theorem encH_ok{l:List (List (List UInt8)×Bool)}:∀y∈l,purL (encH y)=true/\(encH y).length=1:=λy _=>⟨by simp[encH,purL,purW],rfl⟩
theorem halves_it(ps:List (List UInt8))(f:Bool)(h2:2<=ps.length)(h:ps.length<=256):y7q cfg G 324 [.fel (.fz (ps.map bW) 1 f)] ([(ps.take (qbq ps.length),false),(ps.drop (qbq ps.length),f)].map encH):=by
 obtain⟨k1,k2,k3,k4⟩:=Jvq h2 h;have e:(ps.map bW).length=ps.length:=List.length_map _
 have b1:Nat.beq (qbq ps.length) (ps.map bW).length=false:=by
  rw[e];cases q:Nat.beq (qbq ps.length) ps.length with
  |true=>have:=Nat.eq_of_beq_eq_true q;omega
  |false=>rfl
 refine kXq (fn:=Tryz.f324) O O O (Ob rfl) (λL E R hy k0=>?_);refine zEq 3 O (gV (w':=.int .i64 (ps.length:Int)) 0 O Xv (gC 0 O (front_s ps.length h2 h) (gP 8 O (cut_fz (ys:=(ps.take (qbq ps.length)).map bW) (l:=0) (h:=qbq ps.length) (g:=false) O O O O O O O (Nat.zero_le _) Xd (by rw[List.drop_zero,Nat.sub_zero,List.map_take]) (by rw[b1,Bool.and_false])) ?_)));refine gSo 0 O (qdq O O O (hy) (λb R1 hb=>?_));refine gS 2 O (λh1=>?_) (λh1=>?_)
 ·cases b with
  |false=>cases h1
  |true=>
   refine zEq 4 O (gP 0 O (cut_fz (ys:=(ps.drop (qbq ps.length)).map bW) (l:=qbq ps.length) (h:=(ps.map bW).length) (g:=f) O O O O O O O Xd (Nat.le_refl _) (by rw[<-List.map_drop,List.take_of_length_le (by rw[List.length_map,List.length_drop];omega)]) (by rw[Nat.beq_refl,Bool.and_true])) ?_);refine gSo 0 O (qdq O O O (hb) (λb R1 hb=>?_));exact zcq 1 O (jvq (.inl rfl) rfl (yl_same (l:=[]) Yj))
 ·cases b with
  |true=>exact absurd rfl h1
  |false=>
   exact zEq 1 O (jvq (.inl rfl) rfl hb)
theorem rlist1_s(p:List UInt8)(hp:p.length<=4096):PS cfg G 286 [bW p] (.bool false):=by
 have e:(zaq p).length=p.length:=zgq p;exact gI 8 O (λR k0=>gV (w':=.int .i64 (p.length:Int)) 0 O Xv (gF 0 O (ltI_not.2 Xd) (gQa 4 O)))
theorem rindex_s(ps:List (List UInt8))(f:Bool)(hn:ps.length<=256)(hp:∀p∈ps,p.length<=4096):PS cfg G 323 [.fz (ps.map bW) 1 f,.fn 286 [] []] (.int .i64 (-1)):=by
 have e:(ps.map bW).length=ps.length:=List.length_map _;refine gI 9 O (λR k0=>gV (w':=.int .i64 (ps.length:Int)) 0 O Xv ?_);refine gLo (α:=Nat) 4 (λi=>i<=ps.length) (λi=>[(8,.int .i64 (i:Int))]) [0,1,4,7] (λi=>ps.length-i) (0) rfl (Nat.zero_le _) (λi hI=>?_);refine gS 6 O (λh1=>?_) (λh1=>?_)
 ·have hi:i<ps.length:=by omega
  obtain⟨p,hx⟩:∃p,ps[i]? =some p:=⟨_,List.getElem?_eq_getElem hi⟩
  exact gP 15 O (ymq (i:=i) O O O O O O O (zKq bW hx)) (gC 1 O (rlist1_s p (hp p (List.mem_of_getElem? hx))) (gA 7 O (i+1) (gAg 2 O (i+1) (hi) Xd)))
 ·exact gO 2 O (gQa 8 O)
theorem rcont_s(ps:List (List UInt8))(f:Bool)(hn:ps.length<=256)(hp:∀p∈ps,p.length<=4096):PS cfg G 285 [.fz (ps.map bW) 1 f,.fn 286 [] []] (.bool false):=by
 refine gI 9 O (λR k0=>?_);refine gC 0 O (rindex_s ps f hn hp) ?_;refine gU 0 O ?_;exact gQa 4 O
theorem rlist_s(ps:List (List UInt8))(f:Bool)(hn:ps.length<=256)(hp:∀p∈ps,p.length<=4096):PS cfg G 217 [.fz (ps.map bW) 1 f] (.bool true):=by
 have e:(ps.map bW).length=ps.length:=List.length_map _;exact gI 8 O (λR k0=>gV (w':=.int .i64 (ps.length:Int)) 0 O Xv (gT 0 O (nlt_iff.2 Xd) (gC 2 O (rcont_s ps f hn hp) (gQa 6 O))))
noncomputable def rootF:Nat->List (List UInt8) ->Dig
 |0,_=>tagD 0 []
 |n+1,ps=>match ps with
  |[]=>tagD 0 []
  |[p]=>tagD 7 [p]
  |p::q::r=>tagD 8 [(rootF n ((p::q::r).take (qbq (p::q::r).length))).1,(rootF n ((p::q::r).drop (qbq (p::q::r).length))).1]
noncomputable def gatR:List Dig->HpW
 |[]=>[(1,150,.nils),(0,35,yVq)]
 |ds=>[(1,150,.sl 2 0 0 ds.length 1 none),(0,35,yVq),(2,58,.arr (ds.length*1) 1 (ds.map λd=>bW d.1))]
theorem rroot_s:∀(n:Nat) (ps:List (List UInt8)) (f:Bool),ps.length<=n->ps.length<=256->(∀p∈ps,p.length<=4096) ->PS cfg glK 218 [.fz (ps.map bW) 1 f] (dW (rootF n ps)):=by
 intro n;induction n with
 |zero=>
  intro ps f hn _ _;obtain rfl:ps=[]:=List.eq_nil_of_length_eq_zero Xd;refine gI 9 O (λR k0=>?_);refine gL 0 O ?_;refine gTa 5 O ?_;refine gC 6 O (ZMq) ?_;exact gQa 6 O
 |succ n ih=>
  intro ps f hn hl hp;rcases ps with _|⟨p,_|⟨q,r⟩⟩
  ·skip
   refine gI 9 O (λR k0=>?_);refine gL 0 O ?_;refine gTa 5 O ?_;refine gC 6 O (ZMq) ?_;exact gQa 6 O
  ·have hpl:=hp p Xg;refine gI 9 O (λR k0=>?_);refine gL 0 O ?_;refine gFa 5 O ?_;refine gTa 6 O ?_;refine gX 7 O ?_;refine zcq 2 O ?_;refine xYq O O O O O (by(repeat (first|exact .nil|refine .cons ?_ ?_|(refine .sl O ?_ rfl Xi;first|rfl|(focus (simp;done)))|(refine yxq O ?_ rfl;first|rfl|(focus (simp;done)))|(refine .pur ?_;first|rfl|(focus (simp;done)))))) (jpq 7 [p] false Xg Xp) Xk Xk ?_;refine zeq 6 O ?_;exact gQa 0 O
  ·show PS cfg glK 218 _ (dW (tagD 8 [(rootF n ((p::q::r).take (qbq (p::q::r).length))).1,(rootF n ((p::q::r).drop (qbq (p::q::r).length))).1]));have h2:2<=(p::q::r).length:=by simp
   generalize (p::q::r)=ps at*
   obtain⟨k1,k2,k3,k4⟩:=Jvq h2 hl;have e:(ps.map bW).length=ps.length:=List.length_map _;have c1:=ih (ps.take (qbq ps.length)) false (by rw[List.length_take];omega) (by rw[List.length_take];omega) λp h=>hp p (List.mem_of_mem_take h)
   have c2:=ih (ps.drop (qbq ps.length)) f (by rw[List.length_drop];omega) (by rw[List.length_drop];omega) λp h=>hp p (List.mem_of_mem_drop h)
   have it:=halves_it (G:=glK) ps f h2 hl;generalize rootF n (ps.take (qbq ps.length))=d1 at*
   generalize rootF n (ps.drop (qbq ps.length))=d2 at*
   generalize ps.take (qbq ps.length)=A at*
   generalize ps.drop (qbq ps.length)=B at*
   refine gI 9 O (λR k0=>?_);refine gV (w':=.int .i64 (ps.length:Int)) 0 O Xv ?_;refine gF 5 O (eqI_not.2 Xd) ?_;refine gF 6 O (eqI_not.2 Xd) ?_;refine gC 16 O (halves_s (ps.map bW) f Xg) ?_;refine zcq 3 O ?_;refine YKq (α:=List Dig) (encH) ([(A,false),(B,f)]) (λi a=>a=[d1,d2].take i) (λa=>gatR a) (λa=>(match a with|[]=>2|_=>3)) (λa=>R) ([]) rfl Xk (it) (encH_ok) (rfl) O O O (λi a y hy hI=>?_) (λa hI=>?_)
   ·match i,hy,hI with
    |0,hy,hI=>
     cases hy;have hI:a=[]:=hI;subst hI;skip
     refine zEq 3 O ?_;refine xXq ?_;refine zEq 4 O ?_;refine gC 0 O c1 ?_;refine gM 8 O (yRq O O (uxq (news:=[.sl 2 0 0 32 1 (some 32)]) (k:=ti58) O O O O (qfq O O O O) Xg Xn Xn)) ?_;refine zcq 3 O ?_;refine xnq [d1] rfl (Ent.trans (jTq 2 [] [(1,150,.sl 4 0 0 1 1 none),(0,35,yVq),(4,58,.arr (1*1) 1 [bW d1.1])] rfl Xg Xd trivial ⟨⟨by omega,_,rfl,.slK rfl⟩,⟨by omega,_,rfl,.pur rfl⟩,⟨by omega,_,rfl,.arr (.cons (.sl (full:=false) (xs:=zaq d1.1) rfl Xg (zpq Xn (by simp[zgq,d1.2]) rfl) Xi) .nil)⟩,trivial⟩ Xg) (yeq (b:=2) (k:=4) Xd Xd Ym trivial ⟨⟨by omega,rfl,rfl⟩,⟨by omega,rfl,rfl⟩,⟨by omega,?_,zbq (show purW (.arr (1*1) 1 [bW d1.1])=true by simp[purW,purL])⟩,trivial⟩ (by show([1,0,2]:List Nat).Nodup;decide)));show some (58,W.arr (1*1) 1 [bW d1.1])=some (58,renW _ (W.arr (1*1) 1 [bW d1.1]));rw[zdq (show purW (.arr (1*1) 1 [bW d1.1])=true by simp[purW,purL])]
    |1,hy,hI=>
     cases hy;have hI:a=[d1]:=hI;subst hI;refine zEq 3 O ?_;refine xXq ?_;refine zEq 4 O ?_;refine gC 0 O c2 ?_;refine gM 8 O (yRq O O (qcq (len:=1) (news:=[.sl 3 0 0 32 1 (some 32)]) (olds:=[bW d1.1]) (k:=ti58) O O O O (qfq O O O O) Xg Xn Xn rfl (by show 1*1<0+(1+1)*1;decide) rfl (zpq Xn O O))) ?_;refine zcq 3 O ?_;refine xnq [d1,d2] rfl (Ent.trans (jTq 3 [] [(1,150,.sl 5 0 0 2 1 none),(0,35,yVq),(5,58,.arr (2*1) 1 [bW d1.1,bW d2.1])] rfl Xg Xd trivial ⟨⟨by omega,_,rfl,.slK rfl⟩,⟨by omega,_,rfl,.pur rfl⟩,⟨by omega,_,rfl,.arr (.cons (.pur Xg) (.cons (.sl (full:=false) (xs:=zaq d2.1) rfl Xg (zpq Xn (by simp[zgq,d2.2]) rfl) Xi) .nil))⟩,trivial⟩ Xg) (yeq (b:=2) (k:=5) Xd Xd Xt trivial ⟨⟨by omega,rfl,rfl⟩,⟨by omega,rfl,rfl⟩,⟨by omega,?_,zbq (show purW (.arr (2*1) 1 [bW d1.1,bW d2.1])=true by simp[purW,purL])⟩,trivial⟩ (by show([1,0,2]:List Nat).Nodup;decide)));show some (58,W.arr (2*1) 1 [bW d1.1,bW d2.1])=some (58,renW _ (W.arr (2*1) 1 [bW d1.1,bW d2.1]));rw[zdq (show purW (.arr (2*1) 1 [bW d1.1,bW d2.1])=true by simp[purW,purL])]
    |i+2,hy,hI=>cases hy
   ·have hI:a=[d1,d2]:=hI;subst hI;refine zDq 5 O ?_;refine xYq O O O O O (by(repeat (first|exact .nil|refine .cons ?_ ?_|(refine .sl O ?_ rfl Xi;first|rfl|(focus (simp;done)))|(refine yxq O ?_ rfl;first|rfl|(focus (simp;done)))|(refine .pur ?_;first|rfl|(focus (simp;done)))))) (jpq 8 [d1.1,d2.1] false Xg (by simp[d1.2,d2.2])) Xk Xk ?_;refine zeq 4 O ?_;exact gQa 0 O
noncomputable def rootD(ps:List (List UInt8)):Dig:=rootF 256 ps
theorem rRoot_s(ps:List (List UInt8))(f:Bool)(hn:ps.length<=256)(hp:∀p∈ps,p.length<=4096):PS cfg glK 143 [.fz (ps.map bW) 1 f] (.tup [dW (rootD ps),.int .i64 0]):=by
 exact gI 10 O (λR k0=>gC 0 O (rlist_s ps f hn hp) (gFa 0 O (gC 8 O (rroot_s 256 ps f hn hn hp) (gQa 5 O))))
end
section
noncomputable def wkW(k:Nat)(t:Tree)(box:Dig)(L:List Rec):W:=.agg 35 [tW t,dW box,gW k 34 (L.map recW)]
noncomputable def wkH(w0 k:Nat)(t:Tree)(box:Dig)(L:List Rec):HpW:=(w0,248,wkW k t box L)::gH k 146 34 (L.map recW)
theorem qVq(L:List Rec):purL (L.map recW)=true:=yAq (λr=>uKq r) L
theorem wk_get(k:Nat)(t:Tree)(box:Dig)(L:List Rec):zZq 50 (wkW k t box L) 34 1 false=some (gW k 34 (L.map recW)):=by unfold wkW;cases L.map recW<;>rfl
theorem wk_putT(k:Nat)(t t':Tree)(box:Dig)(L:List Rec):qaq 50 (wkW k t box L) 0 (tW t')=some (wkW k t' box L):=by unfold wkW;cases L.map recW<;>rfl
theorem wk_put(k:Nat)(t:Tree)(box:Dig)(L:List Rec)(b n:Nat):qaq 50 (wkW k t box L) 34 (.sl b 0 0 n 34 none)=some (.agg 35 [tW t,dW box,.sl b 0 0 n 34 none]):=by unfold wkW;cases L.map recW<;>rfl
theorem ren_wk(τ:Nat->Nat)(k:Nat)(t:Tree)(box:Dig)(L:List Rec):renW τ (wkW k t box L)=wkW (τ k) t box L:=by
 unfold wkW;simp only[renW,yIq,zdq (y0q t),zdq (qMq box),ren_g]
theorem ref_wk{n k:Nat}(h:k<n)(t:Tree)(box:Dig)(L:List Rec):refB n (wkW k t box L)=true:=by
 show(refB n (tW t)&&(refB n (dW box)&&(refB n (gW k 34 (L.map recW))&&true)))=true;rw[zbq (y0q t),zbq (qMq box),ref_g h];rfl
theorem vxq(τ:Nat->Nat)(w0 k:Nat)(t:Tree)(box:Dig)(L:List Rec):renH τ (wkH w0 k t box L)=wkH (τ w0) (τ k) t box L:=by
 unfold wkH;simp only[renH,ren_wk,renH_g _ _ _ _ (qVq L)]
theorem wk_names{w0 k:Nat}{t:Tree}{box:Dig}{L:List Rec}:∀p∈wkH w0 k t box L,p.1=w0\/p.1=k:=λp hp=>by
 rcases List.mem_cons.1 hp with h|h
 ·exact .inl (by rw[h])
 ·exact .inr (g_names p h)
theorem wk_nd{w0 k:Nat}(h:w0≠k)(t:Tree)(box:Dig)(L:List Rec):((wkH w0 k t box L).map (·.1)).Nodup:=by
 unfold wkH;rw[List.map_cons,List.nodup_cons];refine⟨λhm=>?_,?_⟩
 ·obtain⟨p,h1,h2⟩:=List.mem_map.1 hm;rw[g_names p h1] at h2;exact h h2.symm
 ·cases L.map recW<;>simp[gH]
theorem hget_wk{w0 k:Nat}{P:HpW}{t:Tree}{box:Dig}{L:List Rec}(hP:∀p∈P,p.1≠w0):hget (P++wkH w0 k t box L) w0=some (248,wkW k t box L):=by
 rw[Zwq,uYq hP];unfold wkH;show hget ((w0,248,wkW k t box L)::_) w0=_;rw[znq,if_pos rfl]
theorem hget_wkl{w0 k:Nat}{P:HpW}{t:Tree}{box:Dig}{L:List Rec}(hP:∀p∈P,p.1≠k)(hw:w0≠k){x:W}{r:List W}(e:L.map recW=x::r):hget (P++wkH w0 k t box L) k=some (146,.arr ((x::r).length*34) 34 (x::r)):=by
 rw[Zwq,uYq hP];unfold wkH;show hget ((w0,248,wkW k t box L)::_) k=_;rw[znq,if_neg hw,e];show hget [(k,_)] k=_;rw[znq,if_pos rfl]
theorem hdel_wk{w0 k:Nat}{P:HpW}{t:Tree}{box:Dig}{L:List Rec}(hP:∀p∈P,p.1≠w0/\p.1≠k)(hw:w0≠k):delA [w0,k] (P++wkH w0 k t box L)=P:=by
 have h1:∀{Q R:HpW} {x:TypeId×W},(∀p∈Q,p.1≠w0) ->hdel (Q++(w0,x)::R) w0=Q++R:=λ{Q}=>by
  induction Q with
  |nil=>
   intro R x _;show(match Nat.beq w0 w0 with|true=>R|false=>_)=_;rw[Nat.beq_refl];rfl
  |cons p Q ih=>
   intro R x h;obtain⟨c,y⟩:=p;have hc:=h (c,y) (List.mem_cons_self ..)
   have e:Nat.beq c w0=false:=by
    cases q:Nat.beq c w0 with
    |true=>exact absurd (Nat.eq_of_beq_eq_true q) hc
    |false=>rfl
   show(match Nat.beq c w0 with|true=>Q++(w0,x)::R|false=>(c,y)::hdel (Q++(w0,x)::R) w0)=_;rw[e];exact congrArg _ (ih λp hp=>h p (List.mem_cons_of_mem _ hp))
 show hdel (hdel (P++wkH w0 k t box L) w0) k=P;unfold wkH;rw[h1 λp hp=>(hP p hp).1,hdel_g λp hp=>(hP p hp).2]
section
variable {G:Nat->Option W} {o:Oper} {fr fr2:FrW} {hp:HpW} {nw m k0:Nat} {R:Res}
theorem x8q{post:W->HpW->Nat->Res->Option EvW->Prop}{x:Operand}{xs:Array Operand}{ats:Array TypeId}{f:FuncId}{a us c ws:List W}{Q:W->HpW->Nat->Prop}{t:Tree}{box:Dig}{L:List Rec}(w0 k:Nat)(P:HpW)
  (ho:o.op= .call ⟨.value x,xs,ats⟩) (hx:evW cfg G fr x=some (.fn f a c)) (he:cfg.ext f=none) (hxs:evLW cfg G fr xs.toList=some us) (hws:a++us++c=yIq (numC [w0,k] nw) ws) (hr:refL 2 ws=true) (hhp:hp=P++wkH w0 k t box L) (hP:∀p∈P,p.1≠w0/\p.1≠k) (hw:w0≠k) (h0:w0<nw) (hk:k<nw)
  (sp:ydq cfg G f 2 ws (wkH 0 1 t box L) Q) (hpost:∀w hp1 nw1,Q w hp1 nw1->post (renW (numC [w0,k] nw) w) (renH (numC [w0,k] nw) hp1++P) (nw+(nw1-2)) R (some .dirty)):Step cfg G o fr hp nw R post:=by
 refine zSq (ext:=[w0,k]) (ws:=ws) (hp0:=wkH 0 1 t box L) ho hx he hxs hws sp (by simp[hw]) Xo (wk_nd Xn t box L) (λi ty w hi=>?_) hr (λw hp1 nw1 hq=>?_)
 ·unfold wkH at hi;rw[znq] at hi;split at hi
  ·rename_i e;subst e;cases hi;refine⟨by simp,ref_wk Xg t box L,w0,rfl,?_⟩;rw[hhp,hget_wk λp hp=>(hP p hp).1,ren_wk];rfl
  ·cases e:L.map recW with
   |nil=>rw[e] at hi;simp[gH,hget] at hi
   |cons y q=>
    have hpa:purW (.arr ((y::q).length*34) 34 (y::q))=true:=by have:=qVq L;rw[e] at this;exact this
    rw[e] at hi;simp only[gH] at hi;rw[znq] at hi;split at hi
    ·rename_i e0;subst e0;cases hi;refine⟨by simp,zbq hpa,k,rfl,?_⟩;rw[hhp,hget_wkl (λp hp=>(hP p hp).2) hw e,zdq hpa]
    ·simp[hget] at hi
 ·have:=hpost w hp1 nw1 hq;rw[hhp,hdel_wk hP hw];exact this
theorem QFq{w0 b k:Nat}{P P2:HpW}{t:Tree}{box:Dig}{L:List Rec}(hm:m<=b)(hw:w0<b)(hb:b<=k)(hk:k<nw)(hf:subF fr fr2)(hr:refF b fr2)(hhp:hp=wkH w0 k t box L++P)(hP:subH P b P2)(hn:∀p∈P2,p.1≠w0/\p.1<b)(nd:(P2.map (·.1)).Nodup):Ent cfg G m k0 fr hp nw R fr2 (P2++wkH w0 b t box L) (b+1) R:=by
 subst hhp;have q1:hget (wkH w0 k t box L++P) w0=some (248,wkW k t box L):=xNq (by unfold wkH;rw[znq,if_pos rfl])
 have q2:∀(i:Nat) (y:TypeId×W),i≠w0->i<b->hget P i=some y->hget (wkH w0 k t box L++P) i=some y:=λi y hi hib h=>by
  rw[Zwq,uYq (P:=wkH w0 k t box L) λp hp=>?_]
  ·exact h
  ·rcases wk_names p hp with e|e<;>omega
 have q3:∀x r,L.map recW=x::r->hget (wkH w0 k t box L++P) k=some (146,.arr ((x::r).length*34) 34 (x::r)):=λx r e=>xNq (by
  unfold wkH;rw[znq,if_neg Xd,e];show hget [(k,_)] k=_;rw[znq,if_pos rfl])
 have q4:∀{Q:HpW},(∀p∈Q,p.1≠w0/\p.1<b) ->subH P b Q->subH (wkH w0 k t box L++P) b Q:=λ{Q}=>by
  induction Q with
  |nil=>intro _ _;trivial
  |cons p Q ih=>
   intro h1 h2;obtain⟨i,y⟩:=p;have h3:=h1 (i,y) (List.mem_cons_self ..);exact⟨⟨h2.1.1,q2 i y h3.1 h3.2 h2.1.2.1,h2.1.2.2⟩,ih (λp hp=>h1 p (List.mem_cons_of_mem _ hp)) h2.2⟩
 refine yeq hm hb hk (Q3q hf hr) (ZTq (ZSq (q4 hn hP)) ⟨⟨by omega,by rw[jJq Xd,q1,ren_wk,kDq],ref_wk Xd t box L⟩,?_⟩) ?_
 ·cases e:L.map recW with
  |nil=>trivial
  |cons x r=>
   have hpa:purW (.arr ((x::r).length*34) 34 (x::r))=true:=by have:=qVq L;rw[e] at this;exact this
   exact⟨⟨by omega,by rw[kDq,q3 x r e,zdq hpa],zbq hpa⟩,trivial⟩
 ·rw[List.map_append,List.nodup_append];refine⟨nd,wk_nd Xd t box L,λa ha c hc e=>?_⟩;obtain⟨p,h1,h2⟩:=List.mem_map.1 ha;obtain⟨q,h3,h4⟩:=List.mem_map.1 hc;have:=hn p h1;rcases wk_names q h3 with e'|e'<;>omega
end
attribute [local irreducible] CoW OpW FlW Step Spec
variable {G:Nat->Option W}
theorem told_s(t t':Tree)(box:Dig)(L:List Rec)(r:Rec)(hL:L.length<=1000):ydq cfg G 211 2 [.ptr 0 0,tW t',recW r] (wkH 0 1 t box L) λw hp nw=>w= .tup []/\hp=wkH 0 2 t' box (L++[r])/\nw=3:=by
 have hl:(L.map recW).length<=1000:=by rw[List.length_map];exact hL
 have hm:(L++[r]).map recW=L.map recW++[recW r]:=by simp
 have hne:L.map recW++[recW r]≠[]:=by simp
 have hpa:∀n,purW (.arr n 34 (L.map recW++[recW r]))=true:=λn=>by have:=qVq (L++[r]);rw[hm] at this;exact this
 intro R;refine gIs 13 O (λk0=>?_);refine gM 0 O (z2q O O O (wk_get 1 t box L)) (zcq 2 O (v3q rfl (yRq O O (vhq [_,_,_,_] (k:=ti146) (news:=[recW r]) O O O O O (qfq O O O O) Xg (by show((L.map recW).length+1)*48<=_;omega) (by show(L.map recW).length+1<=_;omega) rfl Xg)) (evs_G Yg Yg) (run_f 2 O ?_)));refine v3q rfl (jKq O O O O O (wk_putT 1 t t' box L) rfl) (by generalize L.map recW=l;cases l<;>first|rfl|kernel_rfl) ?_;refine run_f 2 O ?_;refine v3q rfl (jKq O O O O O (wk_put 1 t' box L _ _) rfl) (by generalize L.map recW=l;cases l<;>first|rfl|kernel_rfl) ?_;refine fl_nil ?_;refine fin (w:=.tup []) (fr2:=[]) (hp2:=[(0,248,.agg 35 [tW t',dW box,.sl 2 0 0 (L.map recW++[recW r]).length 34 none]),(2,146,.arr ((L.map recW++[recW r]).length*34) 34 (L.map recW++[recW r]))]) (nw2:=3) (.inl rfl) (yeq (b:=2) (k:=5) Xd Xd Xt trivial ⟨⟨by omega,?_,?_⟩,⟨by omega,?_,zbq (hpa _)⟩,trivial⟩ Xg) rfl ⟨rfl,rfl,?_,rfl⟩
 ·show some (248,W.agg 35 [tW t',dW box,.sl 5 0 0 _ 34 none])=some (248,renW _ (W.agg 35 [tW t',dW box,.sl 2 0 0 _ 34 none]));simp only[renW,yIq,zdq (y0q t'),zdq (qMq box),kDq]
 ·show(refB 3 (tW t')&&(refB 3 (dW box)&&(refB 3 (W.sl 2 0 0 _ 34 none)&&true)))=true;rw[zbq (y0q t'),zbq (qMq box)];rfl
 ·show some (146,W.arr _ 34 (L.map recW++[recW r]))=some (146,renW _ (W.arr _ 34 (L.map recW++[recW r])));rw[zdq (hpa _)]
 ·unfold wkH wkW;rw[hm,kjq hne,kkq hne]
def DoQ(t:Tree)(m:Nat)(l:List Pr)(box:Dig)(L:List Rec)(r:Rec):W->HpW->Nat->Prop:=λw hp nw=>∃t' n' t1,IsA t' n' t1/\j1q t m l t' t1/\w= .int .i64 0/\hp=wkH 0 2 t' box (L++[r])/\nw=3
theorem wgive_s(t:Tree)(n:Nat)(t0:T)(h:IsA t n t0)(hl:t.nodes.length<=260944)(d:Depo)(h1:d.number<18446744073709551616)(h2:d.amount<18446744073709551616)(box:Dig)(L:List Rec)(hL:L.length<=1000):ydq cfg glK 139 2 [.ptr 0 0,pdW d] (wkH 0 1 t box L) (DoQ t 257 (gvL t0.all d).1 box L ⟨1,depD d,(gvL t0.all d).2⟩):=by
 obtain⟨g1,g2⟩:=giv_gv h.toIsT d;intro R;refine gIs 13 O (λk0=>?_)
 ((refine ytq rfl (kJq O O O O O (give_s t n t0 d h h2 hl) Xg ?_);rintro w hw ⟨t',n',t1,ht',hgo,rfl⟩;refine⟨by first|rfl|kernel_rfl,?_⟩;rw[g1] at hgo;rw[g2]))
 refine yTq 14 O (gTa 0 O (gC 7 O (rdepo_s d h1 h2) (zcq 2 O ?_)))
 (refine ytq rfl (x8q 0 1 [(3,_,_),(2,_,_)] (ws:=[.ptr 0 0,tW t',recW ⟨1,depD d,(gvL t0.all d).2⟩]) O O O O (by show [W.ptr 0 0,tW t',recW ⟨1,depD d,(gvL t0.all d).2⟩]=[W.ptr 0 0,renW _ (tW t'),renW _ (recW ⟨1,depD d,(gvL t0.all d).2⟩)];rw[zdq (y0q _),zdq (uKq _)]) Qf rfl Xg Xn (by show 0<4;omega) (by show 1<4;omega) (told_s t t' box L _ hL) ?_);rintro w hp1 nw1 ⟨rfl,rfl,rfl⟩;rw[vxq];refine⟨by first|rfl|kernel_rfl,?_⟩)
 exact yTq 9 O (fin (w:=.int .i64 0) (fr2:=[(4,.int .i64 0)]) (hp2:=wkH 0 2 t' box (L++[⟨1,depD d,(gvL t0.all d).2⟩])) (nw2:=3) Qt (QFq (w0:=0) (b:=2) (k:=4) (P:=[(3,_,_),(2,_,_)]) (P2:=[]) Xd Xd Xd Ym ⟨rfl,trivial⟩ ⟨rfl,trivial⟩ rfl trivial Xg Xg) rfl ⟨rfl,t',n',t1,ht',hgo,rfl,rfl,rfl⟩)
noncomputable def refX(x:Tx):Nat:=if x.sign=xlq x then 2 else 110
theorem wpay_no(t:Tree)(n:Nat)(t0:T)(h:IsA t n t0)(x:Tx)(hx:x.ok)(box:Dig)(L:List Rec)(hg:¬goX t0.all x):ydq cfg glK 141 2 [.ptr 0 0,txW x] (wkH 0 1 t box L) λw hp nw=>w= .int .i64 (refX x:Nat)/\hp=[]/\nw=2:=by
 by_cases hs:x.sign=xlq x
 ·have e:refX x=2:=if_pos hs;rw[e];intro R;refine gIs 17 O (λk0=>?_);exact gC 0 O (pay_nonce t n t0 x hx box h hs (λq=>hg ⟨hs,q.1,q.2⟩)) (gFa 14 O (zcq 12 O (fin (w:=.int .i64 2) (fr2:=[(4,.int .i64 2)]) (hp2:=[]) (nw2:=2) Qt (yJq (nw2:=2) Xd Xd ⟨rfl,trivial⟩ rfl (λb x hb=>by simp[hget] at hb) Xg) rfl ⟨rfl,rfl,rfl,rfl⟩)))
 ·have e:refX x=110:=if_neg hs;rw[e];intro R;refine gIs 17 O (λk0=>?_);exact gC 0 O (pay_sign t n t0 x hx box h hs) (gFa 14 O (zcq 12 O (fin (w:=.int .i64 110) (fr2:=[(4,.int .i64 110)]) (hp2:=[]) (nw2:=2) Qt (yJq (nw2:=2) Xd Xd ⟨rfl,trivial⟩ rfl (λb x hb=>by simp[hget] at hb) Xg) rfl ⟨rfl,rfl,rfl,rfl⟩)))
theorem wpay_s(t:Tree)(n:Nat)(t0:T)(h:IsA t n t0)(hl:t.nodes.length<=260944)(x:Tx)(hx:x.ok)(box:Dig)(L:List Rec)(hL:L.length<=1000)(hg:goX t0.all x):ydq cfg glK 141 2 [.ptr 0 0,txW x] (wkH 0 1 t box L) (DoQ t 1028 (yLq t0.all x box).1 box L ⟨2,idD x,(yLq t0.all x box).2⟩):=by
 intro R;refine gIs 17 O (λk0=>?_)
 ((refine ytq rfl (kJq O O O O O (pay_s t n t0 x hx box h hg.1 hg.2.1 hg.2.2 hl) Xg ?_);rintro w hw ⟨t',n',t1,ht',hgo,rfl⟩;refine⟨by first|rfl|kernel_rfl,?_⟩))
 refine yTq 14 O (gTa 0 O (gC 7 O (txid_s x hx) (zcq 2 O ?_)))
 (refine ytq rfl (x8q 0 1 [(3,_,_),(2,_,_)] (ws:=[.ptr 0 0,tW t',recW ⟨2,idD x,(yLq t0.all x box).2⟩]) O O O O (by show [W.ptr 0 0,tW t',recW ⟨2,idD x,(yLq t0.all x box).2⟩]=[W.ptr 0 0,renW _ (tW t'),renW _ (recW ⟨2,idD x,(yLq t0.all x box).2⟩)];rw[zdq (y0q _),zdq (uKq _)]) Qf rfl Xg Xn (by show 0<4;omega) (by show 1<4;omega) (told_s t t' box L _ hL) ?_);rintro w hp1 nw1 ⟨rfl,rfl,rfl⟩;rw[vxq];refine⟨by first|rfl|kernel_rfl,?_⟩)
 exact yTq 9 O (fin (w:=.int .i64 0) (fr2:=[(4,.int .i64 0)]) (hp2:=wkH 0 2 t' box (L++[⟨2,idD x,(yLq t0.all x box).2⟩])) (nw2:=3) Qt (QFq (w0:=0) (b:=2) (k:=4) (P:=[(3,_,_),(2,_,_)]) (P2:=[]) Xd Xd Xd Ym ⟨rfl,trivial⟩ ⟨rfl,trivial⟩ rfl trivial Xg Xg) rfl ⟨rfl,t',n',t1,ht',hgo,rfl,rfl,rfl⟩)
end
section
attribute [local irreducible] CoW OpW FlW Step Spec
def thr2:Nat->Nat
 |0=>1
 |_+1=>2
theorem thr2_b(i:Nat):thr2 i=1\/thr2 i=2:=by cases i<;>simp[thr2]
theorem YBq{t t' t2:Tree}{m k:Nat}(h:∃ms,t'.nodes=t.nodes++ms/\ms.length<=m)(h2:∃ms,t2.nodes=t'.nodes++ms/\ms.length<=k):∃ms,t2.nodes=t.nodes++ms/\ms.length<=m+k:=by
 obtain⟨a,ha,ha2⟩:=h;obtain⟨b,hb,hb2⟩:=h2;exact⟨a++b,by rw[hb,ha,List.append_assoc],by rw[List.length_append];omega⟩
noncomputable def badX(box:Dig):List Pr->List Tx->Nat
 |_,[]=>0
 |l,x::xs=>if goX l x then badX box (yLq l x box).1 xs else refX x
theorem xSq{box:Dig}{l:List Pr}{x:Tx}{xs:List Tx}(h:goX l x):doX box l (x::xs)=(match doX box (yLq l x box).1 xs with
      |some r=>some (r.1,⟨2,idD x,(yLq l x box).2⟩::r.2)
      |none=>none):=if_pos h
theorem doX_snoc{box:Dig}{l:List Pr}{us:List Tx}{x:Tx}{r:List Pr×List Rec}(h:doX box l us=some r)(hg:goX r.1 x):doX box l (us++[x])=some ((yLq r.1 x box).1,r.2++[⟨2,idD x,(yLq r.1 x box).2⟩]):=by
 rw[doX_app,h];simp only;rw[xSq hg];rfl
theorem doX_none{box:Dig}{l:List Pr}{us bs:List Tx}{x:Tx}{r:List Pr×List Rec}(h:doX box l us=some r)(hg:¬goX r.1 x):doX box l (us++x::bs)=none:=by
 rw[doX_app,h];simp only;rw[show doX box r.1 (x::bs)=none from if_neg hg]
theorem bad_app{box:Dig}:∀{us bs:List Tx} {l:List Pr} {r:List Pr×List Rec},doX box l us=some r->badX box l (us++bs)=badX box r.1 bs
 |[],bs,l,r,h=>by cases h;rfl
 |x::us,bs,l,r,h=>by
  by_cases hg:goX l x
  ·rw[xSq hg] at h;cases e:doX box (yLq l x box).1 us with
   |none=>rw[e] at h;cases h
   |some q=>
    rw[e] at h;cases h;show(if goX l x then badX box (yLq l x box).1 (us++bs) else refX x)=_;rw[if_pos hg,bad_app e]
  ·rw[show doX box l (x::us)=none from if_neg hg] at h;cases h
theorem bad_no{box:Dig}:∀{xs:List Tx} {l:List Pr},doX box l xs=none->badX box l xs=2\/badX box l xs=110
 |[],l,h=>by cases h
 |x::xs,l,h=>by
  by_cases hg:goX l x
  ·rw[xSq hg] at h;cases e:doX box (yLq l x box).1 xs with
   |some q=>rw[e] at h;cases h
   |none=>
    show(if goX l x then badX box (yLq l x box).1 xs else refX x)=2\/(if goX l x then badX box (yLq l x box).1 xs else refX x)=110;rw[if_pos hg];exact bad_no e
  ·show(if goX l x then badX box (yLq l x box).1 xs else refX x)=2\/(if goX l x then badX box (yLq l x box).1 xs else refX x)=110;rw[if_neg hg];unfold refX;split
   ·exact .inl rfl
   ·exact .inr rfl
def EdQ(t:Tree)(t0:T)(box:Dig)(L:List Rec)(ds:List Depo):W->HpW->Nat->Prop:=λw hp nw=>∃t' n' t1,IsA t' n' t1/\j1q t (257*ds.length) (doD t0.all ds).1 t' t1/\w= .int .i64 0/\hp=wkH 0 (thr2 ds.length) t' box (L++(doD t0.all ds).2)/\nw=3
def ExQ(t:Tree)(t0:T)(box:Dig)(L:List Rec)(xs:List Tx):W->HpW->Nat->Prop:=λw hp nw=>(∃t' n' t1 rs,IsA t' n' t1/\j1q t (1028*xs.length) t1.all t' t1/\doX box t0.all xs=some (t1.all,rs)/\w= .int .i64 0/\hp=wkH 0 (thr2 xs.length) t' box (L++rs)/\nw=3)\/(doX box t0.all xs=none/\w= .int .i64 (badX box t0.all xs:Nat)/\hp=[]/\nw=2)
theorem eachd_s(t:Tree)(n:Nat)(t0:T)(h:IsA t n t0)(box:Dig)(L:List Rec)(ds:List Depo)(f:Bool)(hds:∀d∈ds,d.number<18446744073709551616/\d.amount<18446744073709551616)(hn:ds.length<=16)(hL:L.length<=100)(hl:t.nodes.length+257*ds.length<=260944):ydq cfg glK 138 2 [.fz (ds.map pdW) 34 f,.fn 139 [.ptr 0 0] []] (wkH 0 1 t box L) (EdQ t t0 box L ds):=by
 have e:(ds.map pdW).length=ds.length:=List.length_map _;have pf:purW (.fz (ds.map pdW) 34 f)=true:=yAq ufq ds;intro R;refine gIs 9 O (λk0=>?_);refine gV (w':=.int .i64 (ds.length:Int)) 0 O Xv (zcq 4 O ?_);refine quq (α:=Nat×Tree×List Rec) (λp=>p.1<=ds.length/\p.2.2.length<=p.1/\∃n1 t1,IsA p.2.1 n1 t1/\(∃ms,p.2.1.nodes=t.nodes++ms/\ms.length<=257*p.1)/\doD t0.all (ds.take p.1)=(t1.all,p.2.2)) (λp=>[(10,.int .i64 (p.1:Int)),(1,.fn 139 [.ptr 0 0] []),(8,.fz (ds.map pdW) 34 f),(9,.int .i64 (ds.length:Int))]) (λp=>wkH 0 (thr2 p.1) p.2.1 box (L++p.2.2)) (λ_=>3) (λ_=>R) (λp=>ds.length-p.1) (0,t,[]) ⟨Nat.zero_le _,Nat.le_refl _,n,t0,h,⟨[],by simp,by simp⟩,rfl⟩ ((QGq (fr2:=[(10,.int .i64 0),(1,.fn 139 [.ptr 0 0] []),(8,.fz (ds.map pdW) 34 f),(9,.int .i64 (ds.length:Int))]) ⟨rfl,rfl,rfl,rfl,trivial⟩).trans (yvq ⟨rfl,rfl,rfl,rfl,trivial⟩ (by show wkH 0 1 t box L=wkH 0 1 t box (L++[]);rw[List.append_nil]) rfl)) (λp hI=>?_);skip
 obtain⟨i,t',rs⟩:=p;obtain⟨hi,hrl,n1,t1,hT,hms,hst⟩:=hI;simp only at hi hrl hT hms hst⊢;have hle:=ext_le hms;have hth:=thr2_b i;refine zEq 6 O ?_;refine gS 0 O (λh1=>?_) (λh1=>?_)
 ·have hi2:i<ds.length:=by omega
  have hLL:(L++rs).length<=1000:=by rw[List.length_append];omega
  obtain⟨d,hx⟩:∃d,ds[i]? =some d:=⟨_,List.getElem?_eq_getElem hi2⟩
  have hxm:=List.mem_of_getElem? hx;have htk:ds.take (i+1)=ds.take i++[d]:=by rw[List.take_add_one,hx];rfl
  refine gP 6 O (ymq (i:=i) O O O O O O O (zKq pdW hx)) (zcq 9 O ?_)
  (refine zqq rfl (x8q 0 (thr2 i) [(3,_,_)] (ws:=[.ptr 0 0,pdW d]) O O O O (by show [W.ptr 0 0,pdW d]=[W.ptr 0 0,renW _ (pdW d)];rw[zdq (ufq d)]) (by show(true&&(refB 2 (pdW d)&&true))=true;rw[zbq (ufq d)];rfl) rfl Xp Xd (by show 0<4;omega) (by show thr2 i<4;omega) (wgive_s t' n1 t1 hT Xd d (hds d hxm).1 (hds d hxm).2 box (L++rs) hLL) ?_);rintro w hp1 nw1 ⟨t2,n2,t3,h2,hgo,rfl,rfl,rfl⟩;rw[vxq])
  refine zeq 6 O (gFa 0 O (gA 7 O (i+1) (zcq 2 O ?_)));skip
  exact y3q (i+1,t2,rs++[⟨1,depD d,(gvL t1.all d).2⟩]) ⟨hi2,by simp only[List.length_append,List.length_cons,List.length_nil];omega,n2,t3,h2,YAq (YBq hms hgo.2) Ya,by rw[htk,doD_app,hst,hgo.1];rfl⟩ Ya (Ent.trans (QFq (w0:=0) (b:=2) (k:=4) (P:=[(3,_,_)]) (P2:=[]) (fr2:=[(10,.int .i64 ((i+1:Nat):Int)),(1,.fn 139 [.ptr 0 0] []),(8,.fz (ds.map pdW) 34 f),(9,.int .i64 (ds.length:Int))]) Xd Xd Xd Ym ⟨rfl,rfl,rfl,rfl,trivial⟩ ⟨rfl,rfl,zbq pf,rfl,trivial⟩ rfl trivial Xg Xg) (yvq ⟨rfl,rfl,rfl,rfl,trivial⟩ (by show wkH 0 2 t2 box ((L++rs)++[⟨1,depD d,(gvL t1.all d).2⟩])=wkH 0 2 t2 box (L++(rs++[⟨1,depD d,(gvL t1.all d).2⟩]));rw[List.append_assoc L rs]) rfl))
 ·have hi3:i=ds.length:=by omega
  subst hi3;rw[List.take_length] at hst;exact zcq 2 O (qmq Xi (zDq 8 O (fin (w:=.int .i64 0) Qt (yvq (fr2:=[(4,.int .i64 0)]) ⟨rfl,trivial⟩ O O) rfl ⟨rfl,t',n1,t1,hT,⟨by rw[hst],hms⟩,rfl,by rw[hst],rfl⟩)))
theorem eachx_s(t:Tree)(n:Nat)(t0:T)(h:IsA t n t0)(box:Dig)(L:List Rec)(xs:List Tx)(f:Bool)(hxs:∀x∈xs,x.ok)(hn:xs.length<=16)(hL:L.length<=100)(hl:t.nodes.length+1028*xs.length<=260944):ydq cfg glK 140 2 [.fz (xs.map txW) 99 f,.fn 141 [.ptr 0 0] []] (wkH 0 1 t box L) (ExQ t t0 box L xs):=by
 have e:(xs.map txW).length=xs.length:=List.length_map _;have pf:purW (.fz (xs.map txW) 99 f)=true:=yAq qRq xs;intro R;refine gIs 9 O (λk0=>?_);refine gV (w':=.int .i64 (xs.length:Int)) 0 O Xv (zcq 4 O ?_);refine quq (α:=Nat×Tree×List Rec) (λp=>p.1<=xs.length/\p.2.2.length<=p.1/\∃n1 t1,IsA p.2.1 n1 t1/\(∃ms,p.2.1.nodes=t.nodes++ms/\ms.length<=1028*p.1)/\doX box t0.all (xs.take p.1)=some (t1.all,p.2.2)) (λp=>[(10,.int .i64 (p.1:Int)),(1,.fn 141 [.ptr 0 0] []),(8,.fz (xs.map txW) 99 f),(9,.int .i64 (xs.length:Int))]) (λp=>wkH 0 (thr2 p.1) p.2.1 box (L++p.2.2)) (λ_=>3) (λ_=>R) (λp=>xs.length-p.1) (0,t,[]) ⟨Nat.zero_le _,Nat.le_refl _,n,t0,h,⟨[],by simp,by simp⟩,rfl⟩ ((QGq (fr2:=[(10,.int .i64 0),(1,.fn 141 [.ptr 0 0] []),(8,.fz (xs.map txW) 99 f),(9,.int .i64 (xs.length:Int))]) ⟨rfl,rfl,rfl,rfl,trivial⟩).trans (yvq ⟨rfl,rfl,rfl,rfl,trivial⟩ (by show wkH 0 1 t box L=wkH 0 1 t box (L++[]);rw[List.append_nil]) rfl)) (λp hI=>?_);skip
 obtain⟨i,t',rs⟩:=p;obtain⟨hi,hrl,n1,t1,hT,hms,hst⟩:=hI;simp only at hi hrl hT hms hst⊢;have hle:=ext_le hms;have hth:=thr2_b i;refine zEq 6 O ?_;refine gS 0 O (λh1=>?_) (λh1=>?_)
 ·have hi2:i<xs.length:=by omega
  have hLL:(L++rs).length<=1000:=by rw[List.length_append];omega
  obtain⟨x,hx⟩:∃x,xs[i]? =some x:=⟨_,List.getElem?_eq_getElem hi2⟩
  have hxm:=List.mem_of_getElem? hx;have htk:xs.take (i+1)=xs.take i++[x]:=by rw[List.take_add_one,hx];rfl
  skip
  by_cases hg:goX t1.all x
  ·refine gP 6 O (ymq (i:=i) O O O O O O O (zKq txW hx)) (zcq 9 O ?_)
   (refine zqq rfl (x8q 0 (thr2 i) [(3,_,_)] (ws:=[.ptr 0 0,txW x]) O O O O Qs (by show(true&&(refB 2 (txW x)&&true))=true;rw[zbq (qRq x)];rfl) rfl Xp Xd (by show 0<4;omega) (by show thr2 i<4;omega) (wpay_s t' n1 t1 hT Xd x (hxs x hxm) box (L++rs) hLL hg) ?_);rintro w hp1 nw1 ⟨t2,n2,t3,h2,hgo,rfl,rfl,rfl⟩;rw[vxq])
   refine zeq 6 O (gFa 0 O (gA 7 O (i+1) (zcq 2 O ?_)));skip
   exact y3q (i+1,t2,rs++[⟨2,idD x,(yLq t1.all x box).2⟩]) ⟨hi2,by simp only[List.length_append,List.length_cons,List.length_nil];omega,n2,t3,h2,YAq (YBq hms hgo.2) Ya,by rw[htk,doX_snoc hst hg,hgo.1]⟩ Ya (Ent.trans (QFq (w0:=0) (b:=2) (k:=4) (P:=[(3,_,_)]) (P2:=[]) (fr2:=[(10,.int .i64 ((i+1:Nat):Int)),(1,.fn 141 [.ptr 0 0] []),(8,.fz (xs.map txW) 99 f),(9,.int .i64 (xs.length:Int))]) Xd Xd Xd Ym ⟨rfl,rfl,rfl,rfl,trivial⟩ ⟨rfl,rfl,zbq pf,rfl,trivial⟩ rfl trivial Xg Xg) (yvq ⟨rfl,rfl,rfl,rfl,trivial⟩ (by show wkH 0 2 t2 box ((L++rs)++[⟨2,idD x,(yLq t1.all x box).2⟩])=wkH 0 2 t2 box (L++(rs++[⟨2,idD x,(yLq t1.all x box).2⟩]));rw[List.append_assoc L rs]) rfl))
  ·have hnb:refX x≠0:=by unfold refX;split<;>omega
   refine gP 6 O (ymq (i:=i) O O O O O O O (zKq txW hx)) (zcq 9 O ?_)
   (refine zqq rfl (x8q 0 (thr2 i) [(3,_,_)] (ws:=[.ptr 0 0,txW x]) O O O O Qs (by show(true&&(refB 2 (txW x)&&true))=true;rw[zbq (qRq x)];rfl) rfl Xp Xd (by show 0<4;omega) (by show thr2 i<4;omega) (wpay_no t' n1 t1 hT x (hxs x hxm) box (L++rs) hg) ?_);rintro w hp1 nw1 ⟨rfl,rfl,rfl⟩)
   refine zeq 6 O (gT 0 O (congrArg not (eqI_not.2 Xd)) (zcq 12 O (qmq Xi (zDq 2 O ?_))));have hdr:xs=xs.take i++x::xs.drop (i+1):=by rw[<-vKq hx,List.take_append_drop]
   refine fin (w:=.int .i64 (refX x:Nat)) (fr2:=[(4,.int .i64 (refX x:Nat))]) (hp2:=[]) (nw2:=2) Qt (yJq (nw2:=2) Xd (by show 2<=4;omega) ⟨rfl,trivial⟩ rfl (λb x hb=>by simp[hget] at hb) Xg) rfl ⟨rfl,.inr ⟨?_,?_,rfl,rfl⟩⟩
   ·rw[hdr];exact doX_none hst hg
   ·rw[hdr,bad_app hst];show _=W.int .i64 ((badX box t1.all (x::_):Nat):Int);rw[show badX box t1.all (x::xs.drop (i+1))=refX x from if_neg hg]
 ·have hi3:i=xs.length:=by omega
  subst hi3;rw[List.take_length] at hst;exact zcq 2 O (qmq Xi (zDq 8 O (fin (w:=.int .i64 0) Qt (yvq (fr2:=[(4,.int .i64 0)]) ⟨rfl,trivial⟩ O O) rfl ⟨rfl,.inl ⟨t',n1,t1,rs,hT,⟨rfl,hms⟩,hst,rfl,rfl,rfl⟩⟩)))
end
noncomputable def bodW(ds:List Depo)(xs:List Tx)(f g:Bool):W:=.agg 2 [.fz (ds.map pdW) 34 f,.fz (xs.map txW) 99 g]
@[simp] theorem vfq(ds:List Depo)(xs:List Tx)(f g:Bool):purW (bodW ds xs f g)=true:=by
 have h1:purW (.fz (ds.map pdW) 34 f)=true:=yAq ufq ds;have h2:purW (.fz (xs.map txW) 99 g)=true:=yAq qRq xs;show(purW (.fz (ds.map pdW) 34 f)&&(purW (.fz (xs.map txW) 99 g)&&true))=true;rw[h1,h2];rfl
@[simp] theorem pdl_pur(l:List Depo):purL (l.map pdW)=true:=yAq ufq l
@[simp] theorem txl_pur(l:List Tx):purL (l.map txW)=true:=yAq qRq l
structure RcI where
 kind:UInt8
 id:Dig
 code:Int
noncomputable def rcW(r:RcI):W:=.agg 34 [.int .u8 (.ofNat r.kind.toNat),dW r.id,.int .i64 r.code]
@[simp] theorem rcW_pur(r:RcI):purW (rcW r)=true:=by simp[rcW]
@[simp] theorem rcl_pur(l:List RcI):purL (l.map rcW)=true:=yAq rcW_pur l
structure Lk where
 hdr:Hdr
 root:Int
 ds:List Depo
 xs:List Tx
 rs:List RcI
noncomputable def lkG(l:Lk):W:=.agg 102 [hdW l.hdr,.int .i64 l.root,bodW l.ds l.xs false false,.fz (l.rs.map rcW) 34 false]
@[simp] theorem lkG_pur(l:Lk):purW (lkG l)=true:=by
 have h:purW (.fz (l.rs.map rcW) 34 false)=true:=yAq rcW_pur l.rs;show(purW (hdW l.hdr)&&(true&&(purW (bodW l.ds l.xs false false)&&(purW (.fz (l.rs.map rcW) 34 false)&&true))))=true;rw[h,Ynq,vfq];rfl
@[simp] theorem kiq(l:List Lk):purL (l.map lkG)=true:=yAq lkG_pur l
structure Ch where
 tree:Tree
 links:List Lk
noncomputable def chG(c:Ch):W:=.agg 3 [tW c.tree,.fz (c.links.map lkG) 102 false]
@[simp] theorem YPq(c:Ch):purW (chG c)=true:=by
 show(purW (tW c.tree)&&(purW (.fz (c.links.map lkG) 102 false)&&true))=true;rw[y0q,show purW (.fz (c.links.map lkG) 102 false)=true from kiq _];rfl
structure Vw where
 number:Int
 down:Bool
 final:Int
 ch:Ch
noncomputable def vwG(v:Vw):W:=.agg 6 [.int .i64 v.number,.bool v.down,.int .i64 v.final,chG v.ch]
@[simp] theorem zWq(v:Vw):purW (vwG v)=true:=by
 show(true&&(true&&(true&&(purW (chG v.ch)&&true))))=true;rw[YPq];rfl
def BodyM(ds:List Depo)(xs:List Tx):Prop:=ds.length<=16/\xs.length<=16/\∀x∈xs,x.sign=xlq x
section
section
variable {C:Cfg} {G:Nat->Option W} {m k0:Nat} {fr fr2:FrW} {hp hp2:HpW} {nw nw2:Nat} {R:Res}
theorem ent_viewH(hf:subV (λ_=>none) fr fr2)(hh:∀k ty w,hget hp2 k=some (ty,w) ->∃w0,hget hp k=some (ty,w0)/\View (λ_=>none) w0 w)(nd:(hp2.map (·.1)).Nodup):Ent C G m k0 fr hp nw R fr2 hp2 nw R:=λΓ X st h1 _ s=>by
 have q:Seen (λ_=>none) Γ Γ:=⟨λ_ h _=>h,λ_ _ _=>rfl,λ_ h=>h,λ_ _=>rfl,λ_ _ _ h=>Qb⟩
 have howns:∀{c},Owns Γ hp2 c->Owns Γ hp c:=λ{c} h=>by
  obtain⟨k,y,h1,h2⟩:=h;obtain⟨w0,g1,_⟩:=hh k y.1 y.2 h1;exact⟨k,_,g1,h2⟩
 refine⟨Γ,X,h1,⟨s.hh,λt w hw=>?_,⟨s.sat.wf,λk ty w h=>?_,λk k' y z hy hz e=>?_,nd,s.sat.dX,s.sat.xlt,s.sat.dlt,s.sat.res,s.sat.gl⟩,λd hd=>?_,s.nd⟩,?_⟩
 ·obtain⟨w0,g1,g2⟩:=kFq hf t w hw;obtain⟨u,g3,g4⟩:=s.fr _ _ g1;exact⟨u,g3,jIq q g2 g4⟩
 ·obtain⟨w0,g1,g2⟩:=hh k ty w h;obtain⟨q1,q2,q3,u,q4,q5⟩:=s.sat.own _ _ _ g1;exact⟨q1,q2,q3,u,q4,jIq q g2 q5⟩
 ·obtain⟨w0,g1,_⟩:=hh k y.1 y.2 hy;obtain⟨w1,g2,_⟩:=hh k' z.1 z.2 hz;exact s.sat.inj k k' _ _ g1 g2 e
 ·obtain⟨q1,q2,q3,q4,q5⟩:=s.ds d hd;exact⟨q1,q2,q3,λh=>q4 (howns h),q5⟩
 ·exact⟨λ_ _=>rfl,λh=>h,Nat.le_refl _,λ_ _ _ _=>rfl,λ_ h=>h,λ_ h=>.inl h,λk y _ h=>(by obtain⟨w0,g1,_⟩:=hh k y.1 y.2 h;exact⟨_,g1⟩),λk y hk h=>(by obtain⟨w0,g1,_⟩:=hh k y.1 y.2 h;exact .inr ⟨k,_,hk,g1,rfl⟩),λ_ h=>.inl h,λ_ h _ _=>h⟩
end
attribute [local irreducible] CoW OpW FlW Step Spec
def hdZ:Hdr:=⟨0,yzq,yzq,yzq,0⟩
noncomputable def refW(c:Nat):W:=.tup [noT,hdW hdZ,.nils,.int .i64 (c:Int)]
theorem ref_w(c:Nat):W.tup [noT,.agg 98 [.int .i64 0,yVq,yVq,yVq,.int .i64 0],.nils,.int .i64 (c:Int)]=refW c:=by
 unfold refW hdW hdZ;rw[<-qJq];rfl
def MayBk(t:Tree)(p:Hdr):Prop:=MayA t/\okH p/\p.height≠1073741824
theorem max_op{m n:Nat}{k:IntKind}:W.int k (match ltI (m:Int) (n:Int) with|true=>(n:Int)|false=>(m:Int))= .int k ((max m n:Nat):Int):=by
 cases h:ltI (m:Int) (n:Int) with
 |true=>have:=ltI_iff.1 h;exact congrArg (W.int k) (by show(n:Int)=_;omega)
 | false => have:¬((m:Int)<n):=λq=>by rw[ltI_iff.2 q] at h;cases h
            exact congrArg (W.int k) (by show(m:Int)=_;omega)
theorem apply_many(t:Tree)(p:Hdr)(ds:List Depo)(xs:List Tx)(f g:Bool)(box:Dig)(hb:t.nodes.length<=4611686018427387903)(h:MayBk t p)(hm:16<ds.length\/16<xs.length):PS cfg glK 69 [tW t,hdW p,bodW ds xs f g,dW box] (refW 4):=by
 have c:=qgq (G:=glK) t hb;rw[if_pos h.1] at c;have e1:(ds.map pdW).length=ds.length:=List.length_map _;have e2:(xs.map txW).length=xs.length:=List.length_map _;exact gI 15 O (λR k0=>gC 0 O (Ykq p h.2.1) (gC 13 O (c) (gFa 0 O (gFa 2 O (gF 4 O (eqI_not.2 h.2.2) (gV (w':=.int .i64 (ds.length:Int)) 9 O Qi (gV (w':=.int .i64 (xs.length:Int)) 2 O Yr (gV (w':=.int .i64 ((max ds.length xs.length:Nat):Int)) 0 O max_op (gT 0 O (ltI_iff.2 Xd) (gQ 17 O (ref_w _)))))))))))
end
section
theorem x7q{blk:Nat->Option W}{b:Nat}{P H:HpW}:∀{Q:HpW},Zcq blk b P Q->Zcq blk b (P++H) Q
 |[],_=>trivial
 |(k,ty,w)::Q,h=>by
  obtain⟨⟨h1,w0,h2,h3⟩,h4⟩:=h;exact⟨⟨h1,w0,xNq h2,h3⟩,x7q h4⟩
noncomputable def wkF(t:Tree)(box:Dig)(L:List Rec):W:=.agg 35 [tW t,dW box,.fz (L.map recW) 34 false]
@[simp] theorem wkF_pur(t:Tree)(box:Dig)(L:List Rec):purW (wkF t box L)=true:=by
 show(purW (tW t)&&(purW (dW box)&&(purW (.fz (L.map recW) 34 false)&&true)))=true;rw[y0q,qMq,show purW (.fz (L.map recW) 34 false)=true from qVq L];rfl
theorem ent_wkF{G:Nat->Option W}{m k0:Nat}{fr fr2:FrW}{nw:Nat}{R:Res}{P P2:HpW}{w0 k:Nat}{t:Tree}{box:Dig}{L:List Rec}(hm:m<=k)(hw:w0≠k)(hf:∀blk:Nat->Option W,(∀i,i≠k->blk i=none) ->subV blk fr fr2)(hP:∀blk:Nat->Option W,(∀i,i≠k->blk i=none) ->Zcq blk k P P2)(hPk:∀p∈P,p.1≠w0/\p.1≠k)(nd:((P2++([(w0,248,wkF t box L)]:HpW)).map (·.1)).Nodup):Ent cfg G m k0 fr (P++wkH w0 k t box L) nw R fr2 (P2++[(w0,248,wkF t box L)]) nw R:=by
 have h1:=hget_wk (w0:=w0) (k:=k) (P:=P) (t:=t) (box:=box) (L:=L) λp hp=>(hPk p hp).1
 have hpl:=qVq L;cases e:L.map recW with
 |nil=>
  have key:Zcq (λ_=>none) k (P++wkH w0 k t box L) (P2++[(w0,248,wkF t box L)]):=ZRq (x7q (hP _ λ_ _=>rfl)) ⟨⟨hw,_,h1,by unfold wkW wkF;rw[e];exact .agg (.cons (.pur (y0q t)) (.cons (.pur (qMq box)) (.cons .nilfz .nil)))⟩,trivial⟩;exact ent_viewH (hf _ λ_ _=>rfl) (λi ty w h=>(jfq key i ty w h).2) nd
 |cons x r=>
  have hpa:purW (.arr ((x::r).length*34) 34 (x::r))=true:=by rw[e] at hpl;exact hpl
  have hne:∀i,i≠k->blk1 k (.arr ((x::r).length*34) 34 (x::r)) i=none:=λi hi=>by
   unfold blk1
   have:Nat.beq i k=false:=by
    cases q:Nat.beq i k with
    |true=>exact absurd (Nat.eq_of_beq_eq_true q) hi
    |false=>rfl
   rw[this]
  exact jTq k fr2 _ (hget_wkl (λp hp=>(hPk p hp).2) hw e) hpa hm (hf _ hne) (ZRq (x7q (hP _ hne)) ⟨⟨hw,_,h1,by unfold wkW wkF;rw[e];exact .agg (.cons (.pur (y0q t)) (.cons (.pur (qMq box)) (.cons (.sl (c:=.arr ((x::r).length*34) 34 (x::r)) (by unfold blk1;rw[Nat.beq_refl]) hpa (zpq Xn O O) Xi) .nil)))⟩,trivial⟩) nd
attribute [local irreducible] CoW OpW FlW Step Spec
attribute [local simp] qVq
@[local simp] theorem rws_pur(L:List Rec):purL (L.map (bW∘recB))=true:=yAq (λr=>by simp) L
@[local simp] theorem rws_pur2(L:List Rec)(i:Nat):purL ((L.map (bW∘recB)).take i)=true:=by rw[<-List.map_take];exact rws_pur _
theorem gv_code(l:List Pr)(d:Depo):(gvL l d).2=0\/(gvL l d).2=151:=by
 unfold gvL;split
 ·exact .inl rfl
 ·exact .inr rfl
theorem paid_code(l:List Pr)(x:Tx)(box:Dig):(yLq l x box).2=0\/(yLq l x box).2=151\/(yLq l x box).2=150:=by
 unfold yLq;split
 ·split
  ·exact .inr (.inl rfl)
  ·split
   ·exact .inr (.inl rfl)
   ·exact .inl rfl
 ·exact .inr Qt
theorem doD_rec:∀{ds:List Depo} {l:List Pr},∀r∈(doD l ds).2,r.kind=1/\okR r
 |[],l,r,h=>by cases h
 |d::ds,l,r,h=>by
  rcases List.mem_cons.1 h with rfl|h
  ·exact⟨rfl,.inl rfl,by rcases gv_code l d with e|e<;>simp[e]⟩
  ·exact doD_rec r h
theorem doX_rec{box:Dig}:∀{xs:List Tx} {l:List Pr} {q:List Pr×List Rec},doX box l xs=some q->∀r∈q.2,r.kind=2/\okR r
 |[],l,q,e,r,h=>by cases e;cases h
 |x::xs,l,q,e,r,h=>by
  by_cases hg:goX l x
  ·rw[xSq hg] at e;cases e2:doX box (yLq l x box).1 xs with
   |none=>rw[e2] at e;cases e
   |some s=>
    rw[e2] at e;cases e;rcases List.mem_cons.1 h with rfl|h
    ·exact⟨rfl,.inr rfl,by rcases paid_code l x box with e|e|e<;>simp[e]⟩
    ·exact doX_rec e2 r h
  ·rw[show doX box l (x::xs)=none from if_neg hg] at e;cases e
theorem vLq{box:Dig}:∀{xs:List Tx} {l:List Pr} {q:List Pr×List Rec},doX box l xs=some q->q.2.length=xs.length
 |[],l,q,e=>by cases e;rfl
 |x::xs,l,q,e=>by
  by_cases hg:goX l x
  ·rw[xSq hg] at e;cases e2:doX box (yLq l x box).1 xs with
   |none=>rw[e2] at e;cases e
   |some s=>
    rw[e2] at e;cases e;exact congrArg (· +1) (vLq e2)
  ·rw[show doX box l (x::xs)=none from if_neg hg] at e;cases e
theorem vMq:∀(ds:List Depo) (l:List Pr),(doD l ds).2.length=ds.length
 |[],l=>rfl
 |d::ds,l=>congrArg (· +1) (vMq ds (gvL l d).1)
noncomputable def jrq(p:Hdr)(t1:T)(L:List Rec):Hdr:=⟨p.height+1,hashD p,sumD t1,rootD (L.map recB),L.length⟩
def ApA(t:Tree)(t0:T)(p:Hdr)(ds:List Depo)(xs:List Tx)(box:Dig):W->Prop:=λw=>(∃t' n' t1 rs,IsA t' n' t1/\j1q t (257*ds.length+1028*xs.length) t1.all t' t1/\doX box (doD t0.all ds).1 xs=some (t1.all,rs)/\w= .tup [tW t',hdW (jrq p t1 ((doD t0.all ds).2++rs)),.fz (((doD t0.all ds).2++rs).map recW) 34 false,.int .i64 0])\/(doX box (doD t0.all ds).1 xs=none/\w=refW (badX box (doD t0.all ds).1 xs))
noncomputable def apP(p:Hdr)(ds:List Depo)(xs:List Tx)(f g:Bool):HpW:=[(1,86,hdW p),(2,33,bodW ds xs f g),(4,24,noT),(5,86,.agg 98 [.int .i64 0,yVq,yVq,yVq,.int .i64 0]),(6,35,dW (hashD p))]
theorem ap_sub(p:Hdr)(ds:List Depo)(xs:List Tx)(f g:Bool):subH (apP p ds xs f g) 8 (apP p ds xs f g):=⟨⟨by decide,rfl,zbq (Ynq p)⟩,⟨by decide,rfl,zbq (vfq ds xs f g)⟩,⟨by decide,rfl,rfl⟩,⟨by decide,rfl,rfl⟩,⟨by decide,rfl,zbq (qMq _)⟩,trivial⟩
theorem numC_thr(n:Nat):numC [7,8] 9 (thr2 n)=8\/numC [7,8] 9 (thr2 n)=9:=by
 cases n with
 |zero=>exact .inl rfl
 |succ n=>exact .inr rfl
theorem apply_s(t:Tree)(n:Nat)(t0:T)(hA:IsA t n t0)(p:Hdr)(hp:okH p)(hp2:p.height≠1073741824)(ds:List Depo)(xs:List Tx)(f g:Bool)(hds:∀d∈ds,d.number<18446744073709551616/\d.amount<18446744073709551616)(hxs:∀x∈xs,x.ok)(box:Dig)(hm:ds.length<=16/\xs.length<=16)(hf:t.nodes.length+300*ds.length+1200*xs.length<=260944):PE cfg glK 69 [tW t,hdW p,bodW ds xs f g,dW box] (ApA t t0 p ds xs box):=by
 have yes:MayA t:=⟨n,t0,hA⟩;obtain⟨q1,q2,q3,q4⟩:=hp;have c:=qgq (G:=glK) t Xd;rw[if_pos yes] at c;have hvals:∀x∈t.nodes,x.val.length<=70368744177664:=IsT.vals (root:=t.root) hA.toIsT
 have e0:(t.nodes.map nW).length=t.nodes.length:=List.length_map _;have e1:(ds.map pdW).length=ds.length:=List.length_map _;have e2:(xs.map txW).length=xs.length:=List.length_map _;have pfd:purW (.fz (ds.map pdW) 34 f)=true:=yAq ufq ds;have pfx:purW (.fz (xs.map txW) 99 g)=true:=yAq qRq xs;unfold ApA;have hdl:=vMq ds t0.all;have hdr:= @doD_rec ds t0.all;obtain⟨D,eD⟩:∃D,doD t0.all ds=D:=⟨_,rfl⟩
 rw[eD] at hdl hdr⊢;refine gIe 15 O (λR k0=>gC 0 O (Ykq p ⟨q1,q2,q3,q4⟩) (gC 13 O (c) (gFa 0 O (gFa 2 O (gF 4 O (eqI_not.2 hp2) (gV (w':=.int .i64 (ds.length:Int)) 9 O Qi (gV (w':=.int .i64 (xs.length:Int)) 2 O Yr (gV (w':=.int .i64 ((max ds.length xs.length:Nat):Int)) 0 O max_op (gF 0 O (ltI_not.2 Xd) (gV (w':=.int .i64 (t.nodes.length:Int)) 8 O (by rw[<-e0];rfl) (gV (w':=.int .i64 (ds.length:Int)) 2 O Qi (gA 0 O (300*ds.length) (gA 0 O (260944-300*ds.length) (gV (w':=.int .i64 (xs.length:Int)) 2 O Yr (gA 0 O (1200*xs.length) (gA 0 O (260944-300*ds.length-1200*xs.length) (gF 0 O (ltI_not.2 Xd) (gC 10 O (x5q t Xd hvals) (zcq 9 O ?_)))))))))))))))))))
 (refine xdq (λ_=>Ent.trans (QGq (fr2:=[(5,.ptr 1 0),(6,.ptr 2 0),(8,.ptr 4 0),(9,.ptr 5 0),(10,.nils),(11,.int .i64 0),(12,.ptr 6 0),(14,.ptr 7 0)]) ⟨rfl,rfl,rfl,rfl,rfl,rfl,rfl,rfl,trivial⟩) (yJq (nw2:=9) (hp2:=(apP p ds xs f g)++wkH 7 8 t box []) (fr2:=[(5,.ptr 1 0),(6,.ptr 2 0),(8,.ptr 4 0),(9,.ptr 5 0),(10,.nils),(11,.int .i64 0),(12,.ptr 6 0),(14,.ptr 7 0)]) (Nat.zero_le _) Xn ⟨rfl,rfl,rfl,rfl,rfl,rfl,rfl,rfl,trivial⟩ rfl (yNq ⟨⟨by decide,rfl,zbq (Ynq p)⟩,⟨by decide,rfl,zbq (vfq ds xs f g)⟩,⟨by decide,rfl,rfl⟩,⟨by decide,rfl,rfl⟩,⟨by decide,rfl,zbq (qMq _)⟩,⟨by decide,rfl,ref_wk Xn t box []⟩,trivial⟩) (by show([1,2,4,5,6,7]:List Nat).Nodup;decide))) ?_;refine ylq O O ?_)
 refine zeq 3 O ?_
 (refine zqq rfl (x8q 7 8 (apP p ds xs f g) (ws:=[.fz (ds.map pdW) 34 f,.fn 139 [.ptr 0 0] []]) O O O O (by show [W.fz (ds.map pdW) 34 f,W.fn _ [.ptr 7 0] []]=[renW _ (W.fz (ds.map pdW) 34 f),W.fn _ [.ptr 7 0] []];rw[zdq pfd]) (by show(refB 2 (W.fz (ds.map pdW) 34 f)&&(refB 2 (W.fn _ [.ptr 0 0] [])&&true))=true;rw[zbq pfd];rfl) rfl (by simp[apP]) Xn Xn Xn (eachd_s t n t0 hA box [] ds f hds hm.1 Xg Xd) ?_);rintro w hp1 nw1 ⟨t1,n1,u1,hT,hgo,rfl,rfl,rfl⟩;rw[vxq];have hk:=numC_thr ds.length;generalize numC [7,8] 9 (thr2 ds.length)=k1 at hk⊢;rw[eD] at hgo⊢;refine xdq (λ_=>QFq (w0:=7) (b:=8) (k:=k1) (P:=(apP p ds xs f g)) (P2:=(apP p ds xs f g)) (fr2:=[(5,.ptr 1 0),(6,.ptr 2 0),(8,.ptr 4 0),(9,.ptr 5 0),(10,.nils),(11,.int .i64 0),(12,.ptr 6 0),(14,.ptr 7 0),(77,.int .i64 0)]) (Nat.zero_le _) Xn Xd Xd ⟨rfl,rfl,rfl,rfl,rfl,rfl,rfl,rfl,rfl,trivial⟩ ⟨rfl,rfl,rfl,rfl,rfl,rfl,rfl,rfl,rfl,trivial⟩ rfl (ap_sub ..) (by simp[apP]) (by simp[apP])) ?_)
 refine zeq 6 O (gTa 0 O (zcq 8 O ?_));skip
 have hle:=ext_le hgo.2;skip
 refine gSo 0 O (x8q 7 8 (apP p ds xs f g) (ws:=[.fz (xs.map txW) 99 g,.fn 141 [.ptr 0 0] []]) O O O O (by show [W.fz (xs.map txW) 99 g,W.fn _ [.ptr 7 0] []]=[renW _ (W.fz (xs.map txW) 99 g),W.fn _ [.ptr 7 0] []];rw[zdq pfx]) (by show(refB 2 (W.fz (xs.map txW) 99 g)&&(refB 2 (W.fn _ [.ptr 0 0] [])&&true))=true;rw[zbq pfx];rfl) rfl (by simp[apP]) Xn Xn Xn (eachx_s t1 n1 u1 hT box ([]++D.2) xs g hxs hm.2 (by show D.2.length<=100;omega) Xd) ?_);rintro w hp1 nw1 (⟨t2,n2,u2,rs,hT2,hgo2,hst,rfl,rfl,rfl⟩|⟨hst,rfl,rfl,rfl⟩)
 ·skip
  rw[vxq];have hk:=numC_thr xs.length;generalize numC [7,8] 9 (thr2 xs.length)=k2 at hk⊢;refine xdq (λ_=>QFq (w0:=7) (b:=8) (k:=k2) (P:=(apP p ds xs f g)) (P2:=(apP p ds xs f g)) (fr2:=[(5,.ptr 1 0),(8,.ptr 4 0),(9,.ptr 5 0),(10,.nils),(11,.int .i64 0),(12,.ptr 6 0),(14,.ptr 7 0),(84,.int .i64 0)]) (Nat.zero_le _) Xn Xd Xd ⟨rfl,rfl,rfl,rfl,rfl,rfl,rfl,rfl,trivial⟩ ⟨rfl,rfl,rfl,rfl,rfl,rfl,rfl,rfl,trivial⟩ rfl (ap_sub ..) (by simp[apP]) (by simp[apP])) ?_;rw[hgo.1] at hst;have hrl:=vLq hst;have hrr:= @doX_rec box xs D.1 _ hst;simp only at hrl hrr;have hLl:(D.2++rs).length=ds.length+xs.length:=by rw[List.length_append];omega
  have hLk:∀r∈D.2++rs,okR r:=λr h=>by
   rcases List.mem_append.1 h with h|h
   ·exact(hdr r h).2
   ·exact(hrr r h).2
  have hext:=YBq hgo.2 hgo2.2;show OpW _ _ _ _ _ _ (apP p ds xs f g++wkH 7 8 t2 box (D.2++rs)) _ _ _;obtain⟨L,hLe⟩:∃L,D.2++rs=L:=⟨_,rfl⟩
  rw[hLe] at hLl hLk⊢;have eL:(L.map recW).length=L.length:=List.length_map _
  have hrow:∀q∈L.map recB,q.length<=4096:=λq h=>by
   obtain⟨r,_,rfl⟩:=List.mem_map.1 h;rw[recB_len];omega
  refine zeq 7 O (gFa 0 O (zcq 13 O ?_))
  (refine xdq (λ_=>ent_wkF (w0:=7) (k:=8) (P2:=[(1,86,hdW p),(4,24,noT),(5,86,.agg 98 [.int .i64 0,yVq,yVq,yVq,.int .i64 0]),(6,35,dW (hashD p))]) (fr2:=[(5,.ptr 1 0),(8,.ptr 4 0),(9,.ptr 5 0),(10,.nils),(11,.int .i64 0),(12,.ptr 6 0),(14,.ptr 7 0),(15,.nils)]) (Nat.zero_le _) Xn (λblk h=>⟨⟨_,rfl,.ptrK (h 1 Xn)⟩,⟨_,rfl,.ptrK (h 4 Xn)⟩,⟨_,rfl,.ptrK (h 5 Xn)⟩,⟨_,rfl,.pur rfl⟩,⟨_,rfl,.pur rfl⟩,⟨_,rfl,.ptrK (h 6 Xn)⟩,⟨_,rfl,.ptrK (h 7 Xn)⟩,⟨_,rfl,.pur rfl⟩,trivial⟩) (λblk h=>⟨⟨by decide,_,rfl,.pur Xg⟩,⟨by decide,_,rfl,.pur rfl⟩,⟨by decide,_,rfl,.pur rfl⟩,⟨by decide,_,rfl,.pur Xg⟩,trivial⟩) (by simp[apP]) (by show([1,4,5,6,7]:List Nat).Nodup;decide)) ?_;refine ylq O O ?_)
  refine zeq 3 O (gV (w':=.int .i64 (L.length:Int)) 0 O (by rw[<-eL];rfl) (zcq 4 O ?_));refine ZEq (α:=Nat) (λi=>i<=L.length) 15 (λi=>((L.map recB).take i).map bW) 58 1 (λi=>[(95,.int .i64 (i:Int))]) [(5,_),(8,_),(9,_),(10,_),(11,_),(12,_),(14,_),(93,_),(94,_)] _ (λi=>L.length-i) (0) ⟨rfl,rfl,rfl,rfl,rfl,rfl,rfl,rfl,rfl,trivial⟩ (Nat.zero_le _) ⟨rfl,trivial⟩ O O O (λi hI=>?_);refine zEq 6 O ?_;refine gS 0 O (λh1=>?_) (λh1=>?_)
  ·have hi:i<L.length:=by omega
   obtain⟨r,hx⟩:∃r,L[i]? =some r:=⟨_,List.getElem?_eq_getElem hi⟩
   have hr:=hLk r (List.mem_of_getElem? hx);have hnx:((L.map recB).take (i+1)).map bW=((L.map recB).take i).map bW++[bW (recB r)]:=by rw[List.take_add_one,List.getElem?_map,hx,List.map_append];rfl
   have hlt:(((L.map recB).take i).map bW).length<=100:=by rw[List.length_map,List.length_take,List.length_map];omega
   exact gP 6 O (ymq (i:=i) O O O O O O O (zKq recW hx)) (gC 8 O (rbytes_s r hr) (gM 11 O (yRq O O (vhq [_,_,_,_,_,_,_] (k:=ti58) (news:=[bW (recB r)]) O O O O O (qfq O O O O) Xg (by show((((L.map recB).take i).map bW).length+1)*24<=_;omega) (by show(((L.map recB).take i).map bW).length+1<=_;omega) rfl Xg)) (gA 5 O (i+1) (zcq 2 O (kRq 12 (i+1) (hi) Xd (Nat.zero_le _) (hnx) Yc Xd Ys rfl Yf ⟨rfl,trivial⟩ ⟨rfl,rfl,rfl,rfl,rfl,rfl,rfl,rfl,rfl,trivial⟩ Xh Xh rfl Xk Xl Ye)))))
  ·have hi:i=L.length:=by omega
   subst hi;have eB:((L.map recB).map bW).length=L.length:=by rw[List.length_map,List.length_map]
   have pB:purL ((L.map recB).map bW)=true:=JJq _;rw[show(L.map recB).take L.length=L.map recB from List.take_of_length_le (by rw[List.length_map];omega)];refine zcq 2 O (qmq Xi (zDq 4 O ?_))
   (refine xdq (λ_=>ent_frg (b:=9) (X:=[(1,86,hdW p),(4,24,noT),(5,86,.agg 98 [.int .i64 0,yVq,yVq,yVq,.int .i64 0]),(6,35,dW (hashD p)),(7,248,wkF t2 box L)]) (fr2:=[(5,.ptr 1 0),(8,.ptr 4 0),(9,.ptr 5 0),(12,.ptr 6 0),(14,.ptr 7 0)]) 15 Xn pB (Nat.zero_le _) rfl (λblk h=>⟨⟨_,rfl,.ptrK (h 1 Xn)⟩,⟨_,rfl,.ptrK (h 4 Xn)⟩,⟨_,rfl,.ptrK (h 5 Xn)⟩,⟨_,rfl,.ptrK (h 6 Xn)⟩,⟨_,rfl,.ptrK (h 7 Xn)⟩,trivial⟩) (λblk h=>⟨⟨by decide,_,rfl,.pur Xg⟩,⟨by decide,_,rfl,.pur rfl⟩,⟨by decide,_,rfl,.pur rfl⟩,⟨by decide,_,rfl,.pur Xg⟩,⟨by decide,_,rfl,.pur Xg⟩,trivial⟩) (by show([1,4,5,6,7]:List Nat).Nodup;decide) Xg) ?_;refine ylq O O ?_)
   refine op_mem O O ?_;first|refine op_wrap O O ⟨by omega,by omega⟩ ?_|refine ylq O O ?_
   exact zeq 2 O (gV (w':=.int .i64 (L.length:Int)) 0 O (by rw[<-eB];rfl) (gC 10 O (QYq t2 n2 u2 hT2.toIsT) (gC 10 O (rRoot_s (L.map recB) false (by rw[List.length_map];omega) hrow) (zcq 25 O (yqq (w':=.tup [tW t2,hdW (jrq p u2 L),.fz (L.map recW) 34 false,.int .i64 0]) Qt rfl (.pur Yt) Yt (.inl ⟨t2,n2,u2,rs,hT2,⟨rfl,hext⟩,hst,by rw[hLe]⟩))))))
 ·skip
  have hbn:=bad_no hst;refine gT 7 O (congrArg not (eqI_not.2 Xd)) (zcq 16 O ?_);refine yqq (w':=.tup [noT,.agg 98 [.int .i64 0,yVq,yVq,yVq,.int .i64 0],.nils,.int .i64 (badX box u1.all xs:Nat)]) Qt rfl (.pur rfl) rfl (.inr ?_);rw[hgo.1] at hst⊢;exact⟨hst,ref_w _⟩
end
section
attribute [local irreducible] CoW OpW FlW Step Spec
theorem ap_some{t:Tree}{t0:T}{p:Hdr}{ds:List Depo}{xs:List Tx}{box:Dig}{w:W}(h:ApA t t0 p ds xs box w){l:List Pr}{rs:List Rec}(e:doX box (doD t0.all ds).1 xs=some (l,rs)):∃t' n' t1,IsA t' n' t1/\j1q t (257*ds.length+1028*xs.length) l t' t1/\w= .tup [tW t',hdW (jrq p t1 ((doD t0.all ds).2++rs)),.fz (((doD t0.all ds).2++rs).map recW) 34 false,.int .i64 0]:=by
 rcases h with ⟨t',n',t1,rs',hT,hgo,hst,hw⟩|⟨hst,_⟩
 ·rw[e] at hst;cases hst;exact⟨t',n',t1,hT,⟨hgo.1,hgo.2⟩,hw⟩
 ·rw[e] at hst;cases hst
theorem ap_none{t:Tree}{t0:T}{p:Hdr}{ds:List Depo}{xs:List Tx}{box:Dig}{w:W}(h:ApA t t0 p ds xs box w)(e:doX box (doD t0.all ds).1 xs=none):w=refW (badX box (doD t0.all ds).1 xs):=by
 rcases h with ⟨t',n',t1,rs',hT,hgo,hst,hw⟩|⟨_,hw⟩
 ·rw[e] at hst;cases hst
 ·exact hw
end
theorem fit_tx{w:W}(h:Fit (.st 99 [.arr 32 1 (.int .u8),.arr 32 1 (.int .u8),.int .u64,.int .u64,.int .u64,.arr 32 1 (.int .u8)]) w):∃x:Tx,w=txW x/\x.ok:=by
 obtain⟨l,rfl,w1,l1,rfl,h1,w2,l2,rfl,h2,w3,l3,rfl,h3,w4,l4,rfl,h4,w5,l5,rfl,h5,w6,l6,rfl,h6,rfl⟩:=h;obtain⟨a,rfl⟩:=fit_dig h1;obtain⟨b,rfl⟩:=fit_dig h2;obtain⟨n,rfl,hn⟩:=Ytq h3;obtain⟨m,rfl,hm⟩:=Ytq h4;obtain⟨f,rfl,hf⟩:=Ytq h5;obtain⟨s,rfl⟩:=fit_dig h6;exact⟨⟨a,b,n,m,f,s⟩,rfl,hn,hm,hf⟩
section
attribute [local irreducible] CoW OpW FlW Step Spec
variable {G:Nat->Option W}
structure BodOk(ds:List Depo)(xs:List Tx):Prop where
 dep:∀d∈ds,d.number<18446744073709551616/\d.amount<18446744073709551616
 tx:∀x∈xs,x.ok
 dl:ds.length<=140737488351232
 xl:xs.length<=140737488351232
theorem fit_depo2{w:W}(h:Fit (.st 34 [.int .u64,.arr 32 1 (.int .u8),.int .u64]) w):∃d:Depo,w=pdW d/\d.number<18446744073709551616/\d.amount<18446744073709551616:=by
 obtain⟨l,rfl,w1,l1,rfl,h1,w2,l2,rfl,h2,w3,l3,rfl,h3,rfl⟩:=h;obtain⟨n,rfl,hn⟩:=Ytq h1;obtain⟨k,rfl⟩:=fit_dig h2;obtain⟨m,rfl,hm⟩:=Ytq h3;exact⟨⟨n,k,m⟩,rfl,hn,hm⟩
theorem fit_hdr{w:W}(h:Fit (.st 98 [.int .i64,.arr 32 1 (.int .u8),.arr 32 1 (.int .u8),.arr 32 1 (.int .u8),.int .i64]) w):∃p:Hdr,w=hdW p/\p.height<=9223372036854775807:=by
 obtain⟨l,rfl,w1,l1,rfl,h1,w2,l2,rfl,h2,w3,l3,rfl,h3,w4,l4,rfl,h4,w5,l5,rfl,h5,rfl⟩:=h;obtain⟨i,rfl,_,hi⟩:=fit_i64 h1;obtain⟨a,rfl⟩:=fit_dig h2;obtain⟨b,rfl⟩:=fit_dig h3;obtain⟨c,rfl⟩:=fit_dig h4;obtain⟨j,rfl,_⟩:=fit_i64 h5;exact⟨⟨i,a,b,c,j⟩,rfl,hi⟩
theorem fit_body{w:W}(h:Fit (.st 2 [.sl 34 48 (.st 34 [.int .u64,.arr 32 1 (.int .u8),.int .u64]),.sl 99 120 (.st 99 [.arr 32 1 (.int .u8),.arr 32 1 (.int .u8),.int .u64,.int .u64,.int .u64,.arr 32 1 (.int .u8)])]) w):∃ds xs,w=bodW ds xs false false/\BodOk ds xs:=by
 obtain⟨l,rfl,w1,l1,rfl,h1,w2,l2,rfl,h2,rfl⟩:=h;obtain⟨ds,rfl,hl,hd⟩:=fit_sl h1 λx hx=>fit_depo2 hx
 obtain⟨xs,rfl,hl2,hx⟩:=fit_sl h2 λx hx=>fit_tx hx
 exact⟨ds,xs,rfl,hd,hx,by omega,by omega⟩
def yDq(ds:List Depo)(xs:List Tx):Prop:=(4<ds.length/\ds.length<=16)\/20<ds.length\/(4<xs.length/\xs.length<=16)\/20<xs.length
noncomputable instance(ds:List Depo)(xs:List Tx):Decidable (yDq ds xs):=Classical.propDecidable _
theorem great16_s(ds:List Depo)(xs:List Tx)(f g:Bool):PS cfg G 7 [bodW ds xs f g] (.bool (decide (yDq ds xs))):=by
 have e1:(ds.map pdW).length=ds.length:=List.length_map _;have e2:(xs.map txW).length=xs.length:=List.length_map _;refine gI 10 O (λR k0=>?_);refine gV (w':=.int .i64 (ds.length:Int)) 0 O Qi ?_;refine gD 0 O (λh1=>?_) (λh1=>?_)
 ·refine gV (w':=.int .i64 (ds.length:Int)) 3 O Qi ?_;refine gD 0 O (λh2=>?_) (λh2=>?_)
  ·exact gQ 29 O Xm
  ·refine gV (w':=.int .i64 (ds.length:Int)) 4 O Qi ?_;refine gD 0 O (λh3=>?_) (λh3=>?_)
   ·exact gQ 23 O Xm
   ·refine gV (w':=.int .i64 (xs.length:Int)) 4 O Yr ?_;refine gD 0 O (λh4=>?_) (λh4=>?_)
    ·refine gV (w':=.int .i64 (xs.length:Int)) 3 O Yr ?_;refine gD 0 O (λh5=>?_) (λh5=>?_)
     ·exact gQ 12 O Xm
     ·refine gV (w':=.int .i64 (xs.length:Int)) 5 O Yr ?_;refine gU 0 O ?_;exact gQ 5 O Xm
    ·refine gV (w':=.int .i64 (xs.length:Int)) 10 O Yr ?_;refine gU 0 O ?_;exact gQ 5 O Xm
 ·refine gV (w':=.int .i64 (ds.length:Int)) 9 O Qi ?_;refine gD 0 O (λh2=>?_) (λh2=>?_)
  ·exact gQ 23 O Xm
  ·refine gV (w':=.int .i64 (xs.length:Int)) 4 O Yr ?_;refine gD 0 O (λh3=>?_) (λh3=>?_)
   ·refine gV (w':=.int .i64 (xs.length:Int)) 3 O Yr ?_;refine gD 0 O (λh4=>?_) (λh4=>?_)
    ·exact gQ 12 O Xm
    ·refine gV (w':=.int .i64 (xs.length:Int)) 5 O Yr ?_;refine gU 0 O ?_;exact gQ 5 O Xm
   ·refine gV (w':=.int .i64 (xs.length:Int)) 10 O Yr ?_;refine gU 0 O ?_;exact gQ 5 O Xm
end
theorem T.uniq:∀{a b:T} {d:Nat} {k:Dig},Zr d k->a.ok d k=true->b.ok d k=true->a.all=b.all->a=b
 |.nil,b,d,k,_,_,hb,e=>by
  cases b with
  |nil=>rfl
  |leaf=>simp[T.all] at e
  |fork l r=>
   obtain⟨_,h1,h2,h3⟩:=ok_fork.1 hb;have:=two_len h1 h2 h3;have e2:=congrArg List.length e;simp only[T.all,List.length_append,List.length_cons,List.length_nil] at e2;omega
 |.leaf x v,b,d,k,_,_,hb,e=>by
  cases b with
  |nil=>simp[T.all] at e
  |leaf=>simp only[T.all,List.cons.injEq,Prod.mk.injEq,and_true] at e;rw[e.1,e.2]
  |fork l r=>
   obtain⟨_,h1,h2,h3⟩:=ok_fork.1 hb;have:=two_len h1 h2 h3;have e2:=congrArg List.length e;simp only[T.all,List.length_append,List.length_cons,List.length_nil] at e2;omega
 |.fork l r,b,d,k,hz,ha,hb,e=>by
  obtain⟨hd,h1,h2,h3⟩:=ok_fork.1 ha;have t1:=two_len h1 h2 h3;cases b with
  |nil=>
   have e2:=congrArg List.length e;simp only[T.all,List.length_append,List.length_cons,List.length_nil] at e2;omega
  |leaf=>
   have e2:=congrArg List.length e;simp only[T.all,List.length_append,List.length_cons,List.length_nil] at e2;omega
  |fork l' r'=>
   obtain⟨_,g1,g2,g3⟩:=ok_fork.1 hb
   have key:∀{l r:T},(T.fork l r).ok d k=true->l.all=(T.fork l r).all.filter (λp=>bitN p.1 d==0)/\r.all=(T.fork l r).all.filter (λp=>bitN p.1 d==1):=by
    intro l r h;obtain⟨b1,b2⟩:=Jjq hz h;simp only[T.all,List.filter_append];rw[ZAq (l:=l.all) (λp hp=>by simp[b1 p hp]),u4q (l:=r.all) (λp hp=>by simp[b2 p hp]),u4q (l:=l.all) (λp hp=>by simp[b1 p hp]),ZAq (l:=r.all) (λp hp=>by simp[b2 p hp])];simp
   obtain⟨k1,k2⟩:=key ha;obtain⟨k3,k4⟩:=key hb;rw[T.uniq (qiq hz) h1 g1 (by rw[k1,k3,e]),T.uniq (qhq hz hd) h2 g2 (by rw[k2,k4,e])]
theorem IsT.same{t t':Tree}{n n':Nat}{a b:T}(h:IsT t n a)(h':IsT t' n' b)(e:a.all=b.all):a=b:=T.uniq qQq h.ok h'.ok e
theorem IsA.uniq{t:Tree}{n n':Nat}{a b:T}(h:IsA t n a)(h':IsA t n' b):n=n'/\a=b:=by
 obtain rfl:n=n':=by have:=h.root;have:=h'.root;omega
 exact⟨rfl,h.rep.uniq h'.rep⟩
theorem IsA.grow{ns:List Node}{r:Int}{n:Nat}{t0:T}(h:IsA ⟨ns,r⟩ n t0){t':Tree}{n':Nat}{t1:T}(h':IsA t' n' t1)(e:∃ms,t'.nodes=ns++ms):IsA ⟨t'.nodes,r⟩ n t0:=by
 obtain⟨ms,e⟩:=e;exact⟨⟨h'.len,h'.okn,h.root,by show Rep t'.nodes n t0;rw[e];exact h.rep.app ms,h.ok⟩,h.held⟩
def recI(r:Rec):RcI:=⟨r.kind,r.id,(r.code:Int)⟩
theorem recI_w(L:List Rec):(L.map recI).map rcW=L.map recW:=by rw[List.map_map];rfl
def FolB(h p:Hdr):Prop:=okH h/\okH p/\h.height=p.height+1/\h.parent=hashD p
noncomputable instance(h p:Hdr):Decidable (FolB h p):=Classical.propDecidable _
noncomputable instance(ds:List Depo)(xs:List Tx):Decidable (BodyM ds xs):=Classical.propDecidable _
def verT(c:Ch)(r:Int):Tree:=⟨c.tree.nodes,r⟩
structure LkM(c:Ch)(i:Nat)(x:Lk):Prop where
 height:x.hdr.height=(i:Int)
 hdr:okH x.hdr
 fol:∀y,0<i->c.links[i-1]? =some y->FolB x.hdr y.hdr
 recs:((x.rs.length:Nat):Int)=x.hdr.many
 body:BodyM x.ds x.xs
 tree:MayA (verT c x.root)
structure MayC(c:Ch):Prop where
 one:0<c.links.length
 len:c.links.length<=256
 root:∀x,c.links[c.links.length-1]? =some x->c.tree.root=x.root
 link:∀i x,c.links[i]? =some x->LkM c i x
noncomputable instance(c:Ch):Decidable (MayC c):=Classical.propDecidable _
noncomputable def firH(t0:T):Hdr:=⟨0,yzq,sumD t0,tagD 0 [],0⟩
structure LkS(c:Ch)(box:Dig)(i:Nat)(x:Lk):Prop where
 first:i=0->∃n t0,IsA (verT c x.root) n t0/\x.hdr=firH t0/\x.ds=[]/\x.xs=[]
 next:∀y,0<i->c.links[i-1]? =some y->∃n t0 n1 t1 rs,IsA (verT c y.root) n t0/\IsA (verT c x.root) n1 t1/\doX box (doD t0.all x.ds).1 x.xs=some (t1.all,rs)/\x.hdr=jrq y.hdr t1 ((doD t0.all x.ds).2++rs)/\x.rs=((doD t0.all x.ds).2++rs).map recI
structure SoundC(c:Ch)(box:Dig):Prop extends MayC c where
 sound:∀i x,c.links[i]? =some x->LkS c box i x
noncomputable instance(c:Ch)(box:Dig):Decidable (SoundC c box):=Classical.propDecidable _
theorem MayC.last{c:Ch}(h:MayC c):∃y,c.links[c.links.length-1]? =some y/\c.tree.root=y.root/\LkM c (c.links.length-1) y:=by
 have:=h.one;have e:=List.getElem?_eq_getElem (l:=c.links) (i:=c.links.length-1) Xd;exact⟨_,e,h.root _ e,h.link _ _ e⟩
theorem MayC.head{c:Ch}(h:MayC c){y:Lk}(e:c.links[c.links.length-1]? =some y):∃n t0,IsA c.tree n t0/\verT c y.root=c.tree:=by
 obtain⟨y',e',hr,hy⟩:=h.last;cases e.symm.trans e';have:verT c y.root=c.tree:=by unfold verT;rw[<-hr]
 obtain⟨n,t0,hA⟩:=hy.tree;exact⟨n,t0,this▸hA,this⟩
def addL(t':Tree)(h:Hdr)(ds:List Depo)(xs:List Tx)(L:List Rec):Lk:=⟨h,t'.root,ds,xs,L.map recI⟩
def addC(c:Ch)(t':Tree)(h:Hdr)(ds:List Depo)(xs:List Tx)(L:List Rec):Ch:=⟨t',c.links++[addL t' h ds xs L]⟩
structure Adds(c:Ch)(ds:List Depo)(xs:List Tx)(box:Dig)(y:Lk)(t':Tree)(t1:T)(L:List Rec):Prop where
 may:MayC c
 short:c.links.length<256
 last:c.links[c.links.length-1]? =some y
 many:ds.length<=16/\xs.length<=16
 is:∃n t0 n1 rs,IsA c.tree n t0/\IsA t' n1 t1/\doX box (doD t0.all ds).1 xs=some (t1.all,rs)/\L=(doD t0.all ds).2++rs
 goes:∃ms,t'.nodes=c.tree.nodes++ms
theorem doX_sign{box:Dig}:∀{xs:List Tx} {l:List Pr} {r:List Pr×List Rec},doX box l xs=some r->∀x∈xs,x.sign=xlq x
 |[],_,_,_,x,h=>by cases h
 |x::xs,l,r,e,y,h=>by
  by_cases hg:goX l x
  ·rw[xSq hg] at e;cases e2:doX box (yLq l x box).1 xs with
   |none=>rw[e2] at e;cases e
   |some q=>
    rcases List.mem_cons.1 h with rfl|h
    ·exact hg.1
    ·exact doX_sign e2 y h
  ·rw[show doX box l (x::xs)=none from if_neg hg] at e;cases e
theorem get_snoc{α:Type}{l:List α}{a x:α}{i:Nat}(h:(l++[a])[i]? =some x):l[i]? =some x\/(i=l.length/\x=a):=by
 rcases Nat.lt_trichotomy i l.length with q|q|q
 ·rw[List.getElem?_append_left q] at h;exact .inl h
 ·subst q;rw[List.getElem?_append_right (Nat.le_refl _),Nat.sub_self] at h;exact .inr ⟨rfl,(Option.some.inj h).symm⟩
 ·rw[List.getElem?_eq_none Xp] at h;cases h
theorem get_prev{α:Type}{l:List α}{a y:α}{i:Nat}(hi:i<=l.length)(h0:0<i)(h:(l++[a])[i-1]? =some y):l[i-1]? =some y:=by
 rwa[List.getElem?_append_left Xd] at h
theorem qZq{α:Type}{l:List α}{i:Nat}{x:α}(h:l[i]? =some x):i<l.length:=(List.getElem?_eq_some_iff.1 h).1
section
variable {c:Ch} {ds:List Depo} {xs:List Tx} {box:Dig} {y:Lk} {t':Tree} {t1:T} {L:List Rec}
theorem Adds.old(h:Adds c ds xs box y t' t1 L){r:Int}{n:Nat}{t0:T}(hA:IsA (verT c r) n t0):IsA (verT (addC c t' (jrq y.hdr t1 L) ds xs L) r) n t0:=by
 obtain⟨n,t0,n1,rs,h1,h2,_⟩:=h.is;exact hA.grow h2 h.goes
theorem Adds.okh(h:Adds c ds xs box y t' t1 L):FolB (jrq y.hdr t1 L) y.hdr:=by
 obtain⟨n,t0,n1,rs,h1,h2,h3,rfl⟩:=h.is;have hy:=h.may.link _ _ h.last;have:=hy.height;have:=qZq h.last;have:=h.may.len;have e1:=vLq h3;simp only at e1;have:=vMq ds t0.all;have:=h.many;obtain⟨a1,a2,a3,a4⟩:=hy.hdr;refine⟨⟨?_,?_,?_,?_⟩,hy.hdr,rfl,rfl⟩<;>simp only[jrq,List.length_append]<;>omega
theorem Adds.mayc(h:Adds c ds xs box y t' t1 L):MayC (addC c t' (jrq y.hdr t1 L) ds xs L):=by
 have hs:=h.short;have ho:=h.may.one;have hf:=h.okh;refine⟨by simp[addC],by simp[addC]<;>omega,λx e=>?_,λi x e=>?_⟩
 ·rcases get_snoc e with e|⟨_,rfl⟩
  ·have:=qZq e;simp[addC] at this<;>omega
  ·rfl
 ·rcases get_snoc e with e|⟨hi,rfl⟩
  ·have hx:=h.may.link i x e;have hi:=qZq e;obtain⟨n,t0,hA⟩:=hx.tree;exact⟨hx.height,hx.hdr,λy' h0 e'=>hx.fol y' h0 (get_prev Xd h0 e'),hx.recs,hx.body,n,t0,h.old hA⟩
  ·obtain⟨n,t0,n1,rs,h1,h2,h3,h4⟩:=h.is;have hy:=(h.may.link _ _ h.last).height;refine⟨by show y.hdr.height+1=_;omega,hf.1,λy' h0 e'=>?_,by simp[addL,jrq],⟨h.many.1,h.many.2,doX_sign h3⟩,n1,t1,h2⟩;have e2:=get_prev Xd h0 e';rw[hi] at e2;cases e2.symm.trans h.last;exact hf
end
def cutC(c:Ch)(h:Nat)(x:Lk):Ch:=⟨verT c x.root,c.links.take (h+1)⟩
theorem Jtq{α:Type}{l:List α}{n i:Nat}{x:α}(h:(l.take n)[i]? =some x):i<n/\l[i]? =some x:=by
 rw[List.getElem?_take] at h;split at h
 ·exact⟨by assumption,h⟩
 ·cases h
theorem MayC.cut{c:Ch}(hc:MayC c){h:Nat}{x:Lk}(hx:c.links[h]? =some x):MayC (cutC c h x):=by
 have hi:=qZq hx;have hl:=hc.len;refine⟨by simp[cutC];omega,by simp[cutC];omega,λy e=>?_,λi y e=>?_⟩
 ·obtain⟨_,e⟩:=Jtq e;rw[show(cutC c h x).links.length-1=h by simp[cutC];omega] at e;cases e.symm.trans hx;rfl
 ·obtain⟨h2,e⟩:=Jtq e;have hy:=hc.link i y e;exact⟨hy.height,hy.hdr,λz h0 e'=>hy.fol z h0 (Jtq e').2,hy.recs,hy.body,hy.tree⟩
section
attribute [local irreducible] CoW OpW FlW Step Spec
variable {G:Nat->Option W}
theorem Q0q{α:Type}{a b:List α}{n:Nat}(h:a.length=n)(h2:b.length=n)(g:a.take n=b.take n):a=b:=by
 rwa[List.take_of_length_le Xd,List.take_of_length_le Xd] at g
theorem ZNq{α:Type}{a b:List α}{i:Nat}{x y:α}(g:a.take i=b.take i)(hx:a[i]? =some x)(hy:b[i]? =some y)(e:x=y):a.take (i+1)=b.take (i+1):=by
 rw[List.take_add_one,List.take_add_one,g,hx,hy,e]
theorem ne_at{α:Type}{a b:List α}{i:Nat}{x y:α}(hx:a[i]? =some x)(hy:b[i]? =some y)(h:x≠y):¬a=b:=λq=>h (by subst q;exact Option.some.inj (hx.symm.trans hy))
noncomputable instance(a b:Depo):Decidable (a=b):=Classical.propDecidable _
noncomputable instance(a b:Tx):Decidable (a=b):=Classical.propDecidable _
noncomputable instance(a b:RcI):Decidable (a=b):=Classical.propDecidable _
noncomputable instance(a b:Hdr):Decidable (a=b):=Classical.propDecidable _
theorem dec_and{p:Prop} [Decidable p]{b:Bool}(h:p↔b=true):decide p=b:=by
 rw[Bool.eq_iff_iff,decide_eq_true_eq];exact h
theorem eq_rc(a b:RcI):eqW cfg 300 146 (rcW a) (rcW b)=some (decide (a=b)):=by
 rw[dec_and (p:=a=b) (b:=decide ((Int.ofNat a.kind.toNat)=Int.ofNat b.kind.toNat)&&(decide (a.id=b.id)&&(decide (a.code=b.code)&&true))) (by cases a;cases b;simp only[RcI.mk.injEq,Bool.and_eq_true,decide_eq_true_eq,and_true];exact⟨λh=>⟨by rw[h.1],h.2⟩,λh=>⟨UInt8.toNat_inj.1 (Int.ofNat.inj h.1),h.2⟩⟩)];exact YCq O O O O (qAq O O O (QEq O O) (qAq O O O (yGq O O O O O O _ _ _) (qAq O O O (QEq O O) JDq)))
theorem eq_hd(h p:Hdr):eqW cfg 300 86 (hdW h) (hdW p)=some (decide (h=p)):=by
 rw[dec_and (p:=h=p) (b:=decide (h.height=p.height)&&(decide (h.parent=p.parent)&&(decide (h.state=p.state)&&(decide (h.rows=p.rows)&&(decide (h.many=p.many)&&true))))) (by cases h;cases p;simp only[Hdr.mk.injEq,Bool.and_eq_true,decide_eq_true_eq,and_true])];exact YCq O O O O (qAq O O O (QEq O O) (qAq O O O (yGq O O O O O O _ _ _) (qAq O O O (yGq O O O O O O _ _ _) (qAq O O O (yGq O O O O O O _ _ _) (qAq O O O (QEq O O) JDq)))))
theorem seqr_s(a b:List RcI)(f g:Bool)(hb:a.length<=1000000000):PS cfg G 70 [.fz (a.map rcW) 34 f,.fz (b.map rcW) 34 g] (.bool (decide (a=b))):=by
 have ea:(a.map rcW).length=a.length:=List.length_map _;have eb:(b.map rcW).length=b.length:=List.length_map _;refine gI 9 O (λR k0=>gV (w':=.int .i64 (a.length:Int)) 0 O (by rw[<-ea];rfl) (gV (w':=.int .i64 (b.length:Int)) 1 O (by rw[<-eb];rfl) ?_));refine gS 3 O (λh1=>?_) (λh1=>?_)
 ·exact gQ 7 O Qh
 ·refine gV (w':=.int .i64 (a.length:Int)) 6 O (by rw[<-ea];rfl) ?_;refine gLo (α:=Nat) 4 (λi=>i<=a.length/\a.take i=b.take i) (λi=>[(13,.int .i64 (i:Int))]) [0,1,4,12] (λi=>a.length-i) (0) rfl (⟨Nat.zero_le _,rfl⟩) (λi hI=>?_);obtain⟨g1,g2⟩:=hI;refine gS 6 O (λh2=>?_) (λh2=>?_)
  ·obtain⟨x,hx⟩:∃x,a[i]? =some x:=⟨_,List.getElem?_eq_getElem Xd⟩
   obtain⟨y,hy⟩:∃y,b[i]? =some y:=⟨_,List.getElem?_eq_getElem Xd⟩
   refine gP 14 O (ymq (i:=i) O O O O O O O (zKq rcW hx)) (gP 3 O (ymq (i:=i) O O O O O O O (zKq rcW hy)) (gUe 1 O (k7q O O O O (eq_rc _ _)) (vCq ybq) ?_));refine gS 2 O (λh3=>?_) (λh3=>?_)
   ·exact gO 8 O (gQ 2 O (by rw[decide_eq_false (ne_at hx hy h3)]))
   ·exact gA 4 O (i+1) (gAg 2 O (i+1) (⟨by omega,ZNq g2 hx hy (Classical.not_not.1 h3)⟩) Xd)
  ·exact gO 2 O (gQ 8 O Qr)
theorem cld_s(l:List Depo)(f:Bool)(hl:l.length<=1000000000):PS cfg G 103 [.fz (l.map pdW) 34 f] (.fz (l.map pdW) 34 false):=by
 have e:(l.map pdW).length=l.length:=List.length_map _;have hp:∀l:List Depo,purL (l.map pdW)=true:=yAq ufq
 refine gI 9 O (λR k0=>?_);first|refine ylq O O ?_|refine zqq rfl (uDq O O O O O (λbn hn=>?_))
 refine zeq 2 O ?_;refine gS 0 O (λh1=>?_) (λh1=>?_)
 ·cases bn with
  |false=>cases h1
  |true=>
   obtain rfl:l=[]:=List.map_eq_nil_iff.1 (hn rfl);exact yrq 7 O (y4q (fr2:=[(2,.fz [] 34 false)]) Qt ⟨⟨_,rfl,.nilfz⟩,trivial⟩ O O)
 ·cases l with
  |nil=>
   skip
   exact yrq 6 O (gM 0 O (yRq O O (vRq O O O O O)) (zcq 4 O (y4q (fr2:=[(2,.fz [] 34 false)]) Qt ⟨⟨_,rfl,.sl O O O Xi⟩,trivial⟩ O O)))
  |cons c l=>
   simp only[List.length_cons] at hl e;exact yrq 6 O (gM 0 O (yRq O O (qcq (news:=(c::l).map pdW) (olds:=[]) O O O O O Xg (by show(0+((c::l).map pdW).length)*48<=_;rw[e];omega) (by rw[e];omega) rfl (by show 0<0+(0+((c::l).map pdW).length)*34;rw[e];omega) O O)) (zcq 4 O (y4q (fr2:=[(2,.fz ((c::l).map pdW) 34 false)]) Qt ⟨⟨_,rfl,.sl rfl (hp _) (zpq Xn (Nat.zero_add _) (by rw[Nat.zero_add])) Xi⟩,trivial⟩ O O)))
theorem clx_s(l:List Tx)(f:Bool)(hl:l.length<=1000000000):PS cfg G 102 [.fz (l.map txW) 99 f] (.fz (l.map txW) 99 false):=by
 have e:(l.map txW).length=l.length:=List.length_map _;have hp:∀l:List Tx,purL (l.map txW)=true:=yAq qRq
 refine gI 9 O (λR k0=>?_);first|refine ylq O O ?_|refine zqq rfl (uDq O O O O O (λbn hn=>?_))
 refine zeq 2 O ?_;refine gS 0 O (λh1=>?_) (λh1=>?_)
 ·cases bn with
  |false=>cases h1
  |true=>
   obtain rfl:l=[]:=List.map_eq_nil_iff.1 (hn rfl);exact yrq 7 O (y4q (fr2:=[(2,.fz [] 99 false)]) Qt ⟨⟨_,rfl,.nilfz⟩,trivial⟩ O O)
 ·cases l with
  |nil=>
   skip
   exact yrq 6 O (gM 0 O (yRq O O (vRq O O O O O)) (zcq 4 O (y4q (fr2:=[(2,.fz [] 99 false)]) Qt ⟨⟨_,rfl,.sl O O O Xi⟩,trivial⟩ O O)))
  |cons c l=>
   simp only[List.length_cons] at hl e;exact yrq 6 O (gM 0 O (yRq O O (qcq (news:=(c::l).map txW) (olds:=[]) O O O O O Xg (by show(0+((c::l).map txW).length)*120<=_;rw[e];omega) (by rw[e];omega) rfl (by show 0<0+(0+((c::l).map txW).length)*99;rw[e];omega) O O)) (zcq 4 O (y4q (fr2:=[(2,.fz ((c::l).map txW) 99 false)]) Qt ⟨⟨_,rfl,.sl rfl (hp _) (zpq Xn (Nat.zero_add _) (by rw[Nat.zero_add])) Xi⟩,trivial⟩ O O)))
theorem clr_s(l:List RcI)(f:Bool)(hl:l.length<=1000000000):PS cfg G 181 [.fz (l.map rcW) 34 f] (.fz (l.map rcW) 34 false):=by
 have e:(l.map rcW).length=l.length:=List.length_map _;have hp:∀l:List RcI,purL (l.map rcW)=true:=yAq rcW_pur
 refine gI 9 O (λR k0=>?_);first|refine ylq O O ?_|refine zqq rfl (uDq O O O O O (λbn hn=>?_))
 refine zeq 2 O ?_;refine gS 0 O (λh1=>?_) (λh1=>?_)
 ·cases bn with
  |false=>cases h1
  |true=>
   obtain rfl:l=[]:=List.map_eq_nil_iff.1 (hn rfl);exact yrq 7 O (y4q (fr2:=[(2,.fz [] 34 false)]) Qt ⟨⟨_,rfl,.nilfz⟩,trivial⟩ O O)
 ·cases l with
  |nil=>
   skip
   exact yrq 6 O (gM 0 O (yRq O O (vRq O O O O O)) (zcq 4 O (y4q (fr2:=[(2,.fz [] 34 false)]) Qt ⟨⟨_,rfl,.sl O O O Xi⟩,trivial⟩ O O)))
  |cons c l=>
   simp only[List.length_cons] at hl e;exact yrq 6 O (gM 0 O (yRq O O (qcq (news:=(c::l).map rcW) (olds:=[]) O O O O O Xg (by show(0+((c::l).map rcW).length)*48<=_;rw[e];omega) (by rw[e];omega) rfl (by show 0<0+(0+((c::l).map rcW).length)*34;rw[e];omega) O O)) (zcq 4 O (y4q (fr2:=[(2,.fz ((c::l).map rcW) 34 false)]) Qt ⟨⟨_,rfl,.sl rfl (hp _) (zpq Xn (Nat.zero_add _) (by rw[Nat.zero_add])) Xi⟩,trivial⟩ O O)))
theorem utq{p:Prop} [Decidable p](h:¬p):W.bool false=W.bool (decide p):=congrArg W.bool (decide_eq_false h).symm
theorem dec_t{p:Prop} [Decidable p](h:p):W.bool true=W.bool (decide p):=congrArg W.bool (decide_eq_true h).symm
theorem dec_c{p q:Prop} [Decidable p] [Decidable q](h:q↔p):W.bool (decide q)=W.bool (decide p):=congrArg W.bool (decide_eq_decide.2 h)
theorem hfollows_d(h p:Hdr):PS cfg glK 128 [hdW h,hdW p] (.bool (decide (FolB h p))):=by
 by_cases hp:okH p
 ·obtain⟨q1,q2,q3,q4⟩:=id hp;by_cases hh:okH h
  ·skip
   refine gI 10 O (λR k0=>gC 0 O (Ykq p ⟨q1,q2,q3,q4⟩) (gTa 11 O (gC 2 O (zXq (w':=.int .i64 0) (u0q h) (by rw[if_pos hh])) (gTa 0 O (gWr 6 O ?_)))));refine gD 0 O (λh1=>?_) (λh1=>?_)
   ·exact gUe 5 O (ywq O O O O (yGq O O O O O O _ _ 250)) ybq (gQ 5 O (dec_c ⟨λq=>⟨hh,hp,by simpa using h1,q⟩,λq=>q.2.2.2⟩))
   ·exact gQ 11 O (utq λq=>h1 (by simpa using q.2.2.1))
  ·skip
   exact gI 10 O (λR k0=>gC 0 O (Ykq p ⟨q1,q2,q3,q4⟩) (gTa 11 O (gC 2 O (zXq (w':=.int .i64 8) (u0q h) (by rw[if_neg hh])) (gFa 0 O (gQ 19 O (utq λq=>hh q.1))))))
 ·skip
  exact gI 10 O (λR k0=>gC 0 O (hhash_no p hp) (gFa 11 O (gQ 23 O (utq λq=>hp q.2.1))))
theorem Zbq(t:Tree)(r:Int):PS cfg G 63 [tW t,.int .i64 r] (tW ⟨t.nodes,r⟩):=by
 exact gI 20 O (λR k0=>gQa 0 O)
theorem ixtx_s(xs:List Tx)(f:Bool)(F:FuncId)(P:Tx->Prop) [DecidablePred P](hF:∀x∈xs,PS cfg G F [txW x] (.bool (decide (P x))))(hF0:cfg.ext F=none)(hn:xs.length<=1000000000):PE cfg G 266 [.fz (xs.map txW) 99 f,.fn F [] []] (λw=>∃i:Int,w= .int .i64 i/\((∃x∈xs,P x)↔0<=i)):=by
 have e:(xs.map txW).length=xs.length:=List.length_map _;refine gIe 9 O (λR k0=>gZ 0 O e ?_);refine gLo (α:=Nat) 4 (λi=>i<=xs.length/\∀j x,j<i->xs[j]? =some x->¬P x) (λi=>[(8,.int .i64 (i:Int))]) [0,1,4,7] (λi=>xs.length-i) (0) rfl (⟨Nat.zero_le _,λj x h=>by omega⟩) (λi hI=>?_);obtain⟨g1,g2⟩:=hI;refine gS 6 O (λh1=>?_) (λh1=>?_)
 ·obtain⟨x,hx⟩:∃x,xs[i]? =some x:=⟨_,List.getElem?_eq_getElem Xd⟩
  refine gP 15 O (ymq (i:=i) O O O O O O O (zKq txW hx)) (zcq 1 O (op_ps O O O hF0 O O (hF x (List.mem_of_getElem? hx)) Xg Xg (zeq 2 O ?_)));refine gS 0 O (λh2=>?_) (λh2=>?_)
  ·exact gO 9 O (zcq 2 O (yqq (w':=.int .i64 (i:Int)) Qt rfl (.pur rfl) rfl ⟨_,rfl,λ_=>by omega,λ_=>⟨x,List.mem_of_getElem? hx,h2⟩⟩))
  ·exact gA 4 O (i+1) (gAg 2 O (i+1) (⟨by omega,λj y hj hy=>by rcases Nat.lt_succ_iff_lt_or_eq.1 hj with q|rfl;exact g2 j y q hy;exact Option.some.inj (hx.symm.trans hy)▸h2⟩) Xd)
 ·refine gO 2 O (zcq 8 O ?_)
  exact yqq (w':=.int .i64 (-1)) Qt rfl (.pur rfl) rfl ⟨_,rfl,λ⟨x,hx,q⟩=>by
   obtain⟨j,hj⟩:=List.getElem?_of_mem hx;exact absurd q (g2 j x (by have:=qZq hj;omega) hj),λh=>absurd h Xn⟩
theorem cntx_s(xs:List Tx)(f:Bool)(F:FuncId)(P:Tx->Prop) [DecidablePred P](hF:∀x∈xs,PS cfg G F [txW x] (.bool (decide (P x))))(hF0:cfg.ext F=none)(hn:xs.length<=1000000000) [Decidable (∃x∈xs,P x)]:PS cfg G 199 [.fz (xs.map txW) 99 f,.fn F [] []] (.bool (decide (∃x∈xs,P x))):=by
 refine gI 9 O (λR k0=>?_);refine gE 0 O (ixtx_s xs f F P hF hF0 hn) ?_;rintro w hw ⟨i,rfl,hi⟩;refine gU 0 O ?_;exact gQ 4 O (by rw[decide_eq_decide.2 hi])
theorem cbody1_s(x:Tx)(hx:x.ok):PS cfg glK 197 [txW x] (.bool (decide (x.sign≠xlq x))):=by
 by_cases h:x.sign=xlq x
 ·skip
  exact gI 9 O (λR k0=>gC 0 O (zXq (w':=.int .i64 0) (kpq x hx) (by rw[if_pos h])) (gFa 0 O (gQ 4 O (utq λq=>q h))))
 ·skip
  exact gI 9 O (λR k0=>gC 0 O (zXq (w':=.int .i64 110) (kpq x hx) (by rw[if_neg h])) (gTa 0 O (gQ 4 O (dec_t h))))
theorem max_w(a b:Nat):W.int .i64 (match ltI (a:Int) (b:Int) with|true=>(b:Int)|false=>(a:Int))=W.int .i64 ((max a b:Nat):Int):=by
 congr 1
 by_cases h:(a:Int)<(b:Int)
 ·rw[ltI_iff.2 h,Nat.max_eq_right Xd]
 ·rw[ltI_not.2 h,Nat.max_eq_left Xd]
theorem cbody_s(ds:List Depo)(xs:List Tx)(f g:Bool)(hx:∀x∈xs,x.ok)(hd:ds.length<=140737488351232)(hn:xs.length<=140737488351232):PS cfg glK 129 [bodW ds xs f g] (.bool (decide (BodyM ds xs))):=by
 have e1:(ds.map pdW).length=ds.length:=List.length_map _;have e2:(xs.map txW).length=xs.length:=List.length_map _;by_cases hm:ds.length<=16/\xs.length<=16
 ·have hc:=cntx_s (G:=glK) xs g 197 (λx=>x.sign≠xlq x) (λx h=>cbody1_s x (hx x h)) rfl Xd;by_cases hs:∃x∈xs,x.sign≠xlq x
  ·exact gI 15 O (λR k0=>gZ 0 O e1 (gZ 2 O e2 (gV (w':=.int .i64 ((max ds.length xs.length:Nat):Int)) 0 O (max_w _ _) (gT 0 O (congrArg not (ltI_not.2 Xd)) (gC 4 O (zXq (w':=.bool true) (hc) (by rw[decide_eq_true (hs)])) (gQ 6 O (utq λq=>by obtain⟨x,h1,h2⟩:=hs;exact h2 (q.2.2 x h1))))))))
  ·exact gI 15 O (λR k0=>gZ 0 O e1 (gZ 2 O e2 (gV (w':=.int .i64 ((max ds.length xs.length:Nat):Int)) 0 O (max_w _ _) (gT 0 O (congrArg not (ltI_not.2 Xd)) (gC 4 O (zXq (w':=.bool false) (hc) (by rw[decide_eq_false (hs)])) (gQ 6 O (dec_t ⟨hm.1,hm.2,λx h=>Classical.not_not.1 λq=>hs ⟨x,h,q⟩⟩)))))))
 ·exact gI 15 O (λR k0=>gZ 0 O e1 (gZ 2 O e2 (gV (w':=.int .i64 ((max ds.length xs.length:Nat):Int)) 0 O (max_w _ _) (gF 0 O (congrArg not (ltI_iff.2 Xd)) (gQ 11 O (utq λq=>hm ⟨q.1,q.2.1⟩))))))
noncomputable def bodyN:W:=.agg 2 [.nils,.nils]
noncomputable def lkZ:W:=.agg 102 [hdW hdZ,.int .i64 0,bodyN,.nils]
@[simp] theorem lkZ_pur:purW lkZ=true:=by simp[lkZ,bodyN,purW,purL]
noncomputable def lkA(l:List Lk)(i:Nat):W:=match l[i]? with
 |some x=>lkG x
 |none=>lkZ
noncomputable def prevW(l:List Lk):Nat->W
 |0=>lkZ
 |i+1=>lkA l i
@[simp] theorem lkA_pur(l:List Lk)(i:Nat):purW (lkA l i)=true:=by unfold lkA;split<;>simp
@[simp] theorem prev_pur(l:List Lk)(i:Nat):purW (prevW l i)=true:=by cases i<;>simp[prevW]
noncomputable def encL(l:List Lk)(i:Nat):List W:=[lkA l i,prevW l i]
theorem encL_ok(l:List Lk){n:Nat}:∀y∈List.range n,purL (encL l y)=true/\(encL l y).length=2:=λy _=>⟨by simp[encL,purL],rfl⟩
theorem uLq{n i:Nat}(h:i<n):(List.range n)[i]? =some i:=by rw[List.getElem?_range h]
theorem Yhq{l:List Lk}{i:Nat}{x:Lk}(h:l[i]? =some x):lkA l i=lkG x:=by unfold lkA;rw[h]
theorem ceach_s(l:List Lk)(f:Bool):PS cfg G 67 [.fz (l.map lkG) 102 f] (.fn 137 [] [.fel (.fz (l.map lkG) 102 f)]):=by
 have hp:=kiq l;refine gI 13 O (λR k0=>?_);refine y4q (fr2:=[(2,_)]) Xy ?_ O O
 (repeat (first|exact trivial|refine And.symm ⟨?_,_,rfl,?_⟩))<;>(repeat (first|exact .nil|refine .cons ?_ ?_|refine .fn ?_ ?_|(refine yxq O ?_ rfl;(first|rfl|(focus (simp;done))))|(refine .sl O ?_ rfl Xi;(first|rfl|(focus (simp;done))))|(refine .pur ?_;(first|rfl|(focus (simp;done))))|refine .agg ?_|refine .arr ?_|refine .tup ?_))
theorem prev_agg(l:List Lk)(i:Nat):∃a b c d,prevW l i= .agg 102 [a,b,c,d]:=by
 cases i with
 |zero=>exact⟨_,_,_,_,rfl⟩
 |succ i=>
  show∃a b c d,lkA l i=_
  unfold lkA;split<;>exact⟨_,_,_,_,rfl⟩
theorem ceach_it(l:List Lk)(f:Bool)(hb:l.length<=4611686018427387903):y7q cfg G 137 [.fel (.fz (l.map lkG) 102 f)] ((List.range l.length).map (encL l)):=by
 have e:(l.map lkG).length=l.length:=List.length_map _;refine kXq (fn:=Tryz.f137) O O O (Ob rfl) (λL E R hy k0=>?_);refine zEq 8 O (gZ 0 O e (zcq 4 O (co_ent (ent_blkv (b:=0) (w':=lkZ) rfl (.agg (.cons (.agg (.cons (.pur rfl) (.cons y8q (.cons y8q (.cons y8q (.cons (.pur rfl) .nil)))))) (.cons (.pur rfl) (.cons (.pur rfl) (.cons (.pur rfl) .nil)))))) ?_)));refine co_loopR (α:=Nat×Res) (λp=>p.1<=l.length/\Yl cfg G L E (((List.range l.length).drop p.1).map (encL l)) p.2) (λp=>[(8,.int .i64 (p.1:Int))]) [(0,_),(3,_),(6,_),(7,_)] (λp=>[(0,118,prevW l p.1)]) (λp=>p.2) (λp=>l.length-p.1) ((0,R)) ⟨rfl,rfl,rfl,rfl,trivial⟩ (⟨Nat.zero_le _,hy⟩) ⟨rfl,trivial⟩ O O (λp hI=>?_);obtain⟨i,R⟩:=p;obtain⟨hi,hy⟩:=hI;simp only at hi hy⊢;refine zEq 6 O ?_;refine gS 0 O (λh1=>?_) (λh1=>?_)
 ·have hi':i<l.length:=by omega
  obtain⟨x,hx⟩:∃x,l[i]? =some x:=⟨_,List.getElem?_eq_getElem hi'⟩
  rw[vKq (uLq hi'),List.map_cons] at hy;have ex:=Yhq hx;obtain⟨a,b,c,d,hp⟩:=prev_agg l i;have hv:purW (.agg 102 [a,b,c,d])=true:=hp▸prev_pur l i
  rw[show encL l i=[lkG x,.agg 102 [a,b,c,d]] by unfold encL;rw[ex,hp]] at hy;rw[hp];refine gP 6 O (ymq (i:=i) O O O O O O O (zKq lkG hx)) ?_;refine gSo 11 O (qdq O O O (hy) (λb R1 hb=>?_));refine gS 3 O (λh2=>?_) (λh2=>?_)
  ·cases b with
   |true=>cases h2
   |false=>
    exact yrq 4 O (qmq Xi (zDq 1 O (jvq Qt rfl hb)))
  ·cases b with
   |false=>exact absurd rfl h2
   |true=>
    refine yrq 9 O (gA 0 O (i+1) (zcq 2 O ?_));rw[show lkG x=prevW l (i+1) from ex.symm];exact Jcq ((i+1,R1)) (⟨hi',hb⟩) Ya (Nat.zero_le _) ⟨rfl,trivial⟩ ⟨rfl,rfl,rfl,rfl,trivial⟩ Xh Xh Xd Xl Ye rfl
 ·refine zcq 2 O (qmq Xi (zDq 1 O ?_));obtain rfl:i=l.length:=by omega
  rw[List.drop_of_length_le Xg] at hy;exact jvq (.inl rfl) rfl hy
structure OkC(c:Ch):Prop where
 body:∀x∈c.links,BodOk x.ds x.xs
 nodes:c.tree.nodes.length<=4611686018427387903
 len:c.links.length<=4611686018427387903
 recs:∀x∈c.links,x.rs.length<=4611686018427387903
theorem prev_hd(l:List Lk)(i:Nat):∃h r b s,prevW l i= .agg 102 [hdW h,r,b,s]/\(purL [hdW h,r,b,s]=true)/\∀z,0<i->l[i-1]? =some z->h=z.hdr:=by
 cases i with
 |zero=>exact⟨hdZ,_,_,_,rfl,prev_pur l 0,λz h=>absurd h Xn⟩
 |succ i=>
  cases hz:l[i]? with
  |none=>exact⟨hdZ,_,_,_,by show lkA l i=_;unfold lkA;rw[hz];rfl,lkZ_pur,λz _ h=>by rw[Nat.add_sub_cancel,hz] at h;cases h⟩
  |some x=>exact⟨x.hdr,_,_,_,by show lkA l i=_;unfold lkA;rw[hz];rfl,lkG_pur x,λz _ h=>by rw[Nat.add_sub_cancel,hz] at h;cases h;rfl⟩
theorem j9q(c:Ch)(hc:OkC c):PS cfg glK 61 [chG c] (.int .i64 (if MayC c then 0 else 8)):=by
 have e:(c.links.map lkG).length=c.links.length:=List.length_map _;have hl:=hc.len;refine gI 11 O (λR k0=>?_);refine gZ 0 O e ?_;refine gD 0 O (λh1=>?_) (λh1=>?_)
 ·have hno:¬MayC c:=λq=>by have:=q.one;omega
  exact gQ 31 O Yb
 obtain⟨z,hz⟩:∃z,c.links[c.links.length-1]? =some z:=⟨_,List.getElem?_eq_getElem Xd⟩
 refine gZ 3 O e ?_;refine gD 0 O (λh2=>?_) (λh2=>?_)
 ·have hno:¬MayC c:=λq=>by have:=q.len;omega
  exact gQ 26 O Yb
 refine gZ 9 O e ?_;refine gA 0 O (c.links.length-1) ?_;refine gP 0 O (ymq (i:=c.links.length-1) O O O O O O O (zKq lkG hz)) ?_;refine gU 2 O ?_;refine gS 3 O (λh3=>?_) (λh3=>?_)
 ·have hno:¬MayC c:=λq=>h3 (q.root z hz)
  exact gQ 7 O Yb
 refine gC 13 O (ceach_s _ _) ?_;refine zcq 3 O ?_;refine co_rangeG (encL c.links) (List.range c.links.length) (λi (a:Nat)=>a=i/\∀j x,j<i->c.links[j]? =some x->LkM c j x) (λa=>[(2,3,.int .i64 (a:Int)),(1,39,.int .i64 0),(0,27,chG c)]) (λ_=>R) (0) rfl Xk (ceach_it c.links false hc.len) (encL_ok c.links) (⟨rfl,λj x h=>by omega⟩) O O (λi a y hy hI=>?_) (λa hI=>?_)
 ·obtain⟨rfl,hI⟩:=hI;have hi:a<c.links.length:=by have:=qZq hy;simpa using this
  obtain rfl:a=y:=by rw[uLq hi] at hy;exact Option.some.inj hy
  obtain⟨x,hx⟩:∃x,c.links[a]? =some x:=⟨_,List.getElem?_eq_getElem hi⟩
  obtain⟨ph,pr,pb,ps,hp,hpu,hph⟩:=prev_hd c.links a;have hpu:purW (.agg 102 [hdW ph,pr,pb,ps])=true:=hpu;rw[show encL c.links a=[lkG x,.agg 102 [hdW ph,pr,pb,ps]] by unfold encL;rw[Yhq hx,hp]];have hB:=hc.body x (List.mem_of_getElem? hx);have er:(x.rs.map rcW).length=x.rs.length:=List.length_map _;refine zEq 10 O ?_;refine xXq ?_;refine zEq 15 O ?_;refine gD 0 O (λh4=>?_) (λh4=>?_)
  ·have hno:¬MayC c:=λq=>h4 (q.link a x hx).height
   refine zcq 50 O ?_;refine jqq Xi ?_;refine zDq 2 O ?_;exact gQ 0 O Yb
  refine gC 2 O (u0q x.hdr) ?_;refine gD 0 O (λh5=>?_) (λh5=>?_)
  ·have hno:¬MayC c:=λq=>h5 (by rw[if_pos (q.link a x hx).hdr])
   refine zcq 46 O ?_;refine jqq Xi ?_;refine zDq 2 O ?_;exact gQ 0 O Yb
  have hok:okH x.hdr:=Classical.byContradiction λq=>h5 (by rw[if_neg q];decide)
  refine gD 3 O (λh6=>?_) (λh6=>?_)
  ·refine gC 4 O (hfollows_d x.hdr ph) ?_;refine gB 0 O (λh7=>?_) (λh7=>?_)
   ·have hF:0<a->∀w,c.links[a-1]? =some w->FolB x.hdr w.hdr:=λh0 w hw=>hph w h0 hw▸h7
    refine gZ 6 O er ?_;refine gD 2 O (λh8=>?_) (λh8=>?_)
    ·have hno:¬MayC c:=λq=>h8 (q.link a x hx).recs
     refine zcq 27 O ?_;refine jqq Xi ?_;refine zDq 2 O ?_;exact gQ 0 O Yb
    refine gC 4 O (cbody_s x.ds x.xs false false hB.tx hB.dl hB.xl) ?_;refine gB 0 O (λh9=>?_) (λh9=>?_)
    ·refine gC 7 O (Zbq c.tree x.root) ?_;refine gC 0 O (qgq (verT c x.root) hc.nodes) ?_;refine gU 0 O ?_;refine gS 3 O (λh10=>?_) (λh10=>?_)
     ·have hno:¬MayC c:=λq=>h10 (by rw[if_pos (q.link a x hx).tree])
      refine zcq 8 O ?_;refine jqq Xi ?_;refine zDq 2 O ?_;exact gQ 0 O Yb
     ·have hA:MayA (verT c x.root):=Classical.byContradiction λq=>h10 (by rw[if_neg q];decide)
      have hx2:LkM c a x:=⟨by omega,hok,λw h0 hw=>hF h0 w hw,by omega,h9,hA⟩;refine gWr 4 O ?_;refine zcq 3 O ?_;exact q_roundK (a+1) (⟨rfl,λj w hj hw=>by rcases Nat.lt_succ_iff_lt_or_eq.1 hj with q|rfl;exact hI j w q hw;exact Option.some.inj (hx.symm.trans hw)▸hx2⟩) Xd Xl Ye rfl
    ·have hno:¬MayC c:=λq=>h9 (q.link a x hx).body
     refine zcq 22 O ?_;refine jqq Xi ?_;refine zDq 2 O ?_;exact gQ 0 O Yb
   ·have hno:¬MayC c:=λq=>by
     obtain⟨w,hw⟩:∃w,c.links[a-1]? =some w:=⟨_,List.getElem?_eq_getElem Xd⟩
     exact h7 (hph w Xd hw▸(q.link a x hx).fol w Xd hw)
    refine zcq 37 O ?_;refine jqq Xi ?_;refine zDq 2 O ?_;exact gQ 0 O Yb
  ·have hF:0<a->∀w,c.links[a-1]? =some w->FolB x.hdr w.hdr:=λh0=>absurd h0 Xd
   refine gZ 11 O er ?_;refine gD 2 O (λh7=>?_) (λh7=>?_)
   ·have hno:¬MayC c:=λq=>h7 (q.link a x hx).recs
    refine zcq 27 O ?_;refine jqq Xi ?_;refine zDq 2 O ?_;exact gQ 0 O Yb
   refine gC 4 O (cbody_s x.ds x.xs false false hB.tx hB.dl hB.xl) ?_;refine gB 0 O (λh8=>?_) (λh8=>?_)
   ·refine gC 7 O (Zbq c.tree x.root) ?_;refine gC 0 O (qgq (verT c x.root) hc.nodes) ?_;refine gU 0 O ?_;refine gS 3 O (λh9=>?_) (λh9=>?_)
    ·have hno:¬MayC c:=λq=>h9 (by rw[if_pos (q.link a x hx).tree])
     refine zcq 8 O ?_;refine jqq Xi ?_;refine zDq 2 O ?_;exact gQ 0 O Yb
    ·have hA:MayA (verT c x.root):=Classical.byContradiction λq=>h9 (by rw[if_neg q];decide)
     have hx2:LkM c a x:=⟨by omega,hok,λw h0 hw=>hF h0 w hw,by omega,h8,hA⟩;refine gWr 4 O ?_;refine zcq 3 O ?_;exact q_roundK (a+1) (⟨rfl,λj w hj hw=>by rcases Nat.lt_succ_iff_lt_or_eq.1 hj with q|rfl;exact hI j w q hw;exact Option.some.inj (hx.symm.trans hw)▸hx2⟩) Xd Xl Ye rfl
   ·have hno:¬MayC c:=λq=>h8 (q.link a x hx).body
    refine zcq 22 O ?_;refine jqq Xi ?_;refine zDq 2 O ?_;exact gQ 0 O Yb
 ·obtain⟨rfl,hI⟩:=hI;have yes:MayC c:=⟨by omega,by omega,λw hw=>by cases hz.symm.trans hw;omega,λj w hw=>hI j w (by have:=qZq hw;simpa using this) hw⟩;refine zDq 8 O ?_;exact gQ 0 O Yp
end
theorem fit_rc{w:W}(h:Fit (.st 34 [.int .u8,.arr 32 1 (.int .u8),.int .i64]) w):∃r:RcI,w=rcW r/\True:=by
 obtain⟨l,rfl,w1,l1,rfl,h1,w2,l2,rfl,h2,w3,l3,rfl,h3,rfl⟩:=h;obtain⟨k,rfl,_⟩:=fit_u8 h1;obtain⟨d,rfl⟩:=fit_dig h2;obtain⟨c,rfl,_⟩:=fit_i64 h3;exact⟨⟨k,d,c⟩,rfl,trivial⟩
theorem fit_link{w:W}(h:Fit (.st 102 [.st 98 [.int .i64,.arr 32 1 (.int .u8),.arr 32 1 (.int .u8),.arr 32 1 (.int .u8),.int .i64],.int .i64,.st 2 [.sl 34 48 (.st 34 [.int .u64,.arr 32 1 (.int .u8),.int .u64]),.sl 99 120 (.st 99 [.arr 32 1 (.int .u8),.arr 32 1 (.int .u8),.int .u64,.int .u64,.int .u64,.arr 32 1 (.int .u8)])],.sl 34 48 (.st 34 [.int .u8,.arr 32 1 (.int .u8),.int .i64])]) w):∃x:Lk,w=lkG x/\BodOk x.ds x.xs/\x.rs.length<=4611686018427387903:=by
 obtain⟨l,rfl,w1,l1,rfl,h1,w2,l2,rfl,h2,w3,l3,rfl,h3,w4,l4,rfl,h4,rfl⟩:=h;obtain⟨p,rfl,_⟩:=fit_hdr h1;obtain⟨r,rfl,_⟩:=fit_i64 h2;obtain⟨ds,xs,rfl,hB⟩:=fit_body h3;obtain⟨rs,rfl,hl,_⟩:=fit_sl h4 λx hx=>fit_rc hx
 exact⟨⟨p,r,ds,xs,rs⟩,rfl,hB,by show rs.length<=_;omega⟩
theorem fit_chain{w:W}(h:Fit (.st 3 [.st 2 [.sl 36 80 (.st 36 [.bool,.arr 32 1 (.int .u8),.sl 1 1 (.int .u8),.int .i64,.int .i64]),.int .i64],.sl 102 192 (.st 102 [.st 98 [.int .i64,.arr 32 1 (.int .u8),.arr 32 1 (.int .u8),.arr 32 1 (.int .u8),.int .i64],.int .i64,.st 2 [.sl 34 48 (.st 34 [.int .u64,.arr 32 1 (.int .u8),.int .u64]),.sl 99 120 (.st 99 [.arr 32 1 (.int .u8),.arr 32 1 (.int .u8),.int .u64,.int .u64,.int .u64,.arr 32 1 (.int .u8)])],.sl 34 48 (.st 34 [.int .u8,.arr 32 1 (.int .u8),.int .i64])])]) w):∃c:Ch,w=chG c/\OkC c:=by
 obtain⟨l,rfl,w1,l1,rfl,h1,w2,l2,rfl,h2,rfl⟩:=h;obtain⟨t,rfl,ht,_⟩:=fit_tree h1;obtain⟨ls,rfl,hl,hx⟩:=fit_sl h2 λx hx=>fit_link hx
 exact⟨⟨t,ls⟩,rfl,λx h=>(hx x h).1,by show t.nodes.length<=_;omega,by show ls.length<=_;omega,λx h=>(hx x h).2⟩
theorem fit_view{w:W}(h:Fit (.st 6 [.int .i64,.bool,.int .i64,.st 3 [.st 2 [.sl 36 80 (.st 36 [.bool,.arr 32 1 (.int .u8),.sl 1 1 (.int .u8),.int .i64,.int .i64]),.int .i64],.sl 102 192 (.st 102 [.st 98 [.int .i64,.arr 32 1 (.int .u8),.arr 32 1 (.int .u8),.arr 32 1 (.int .u8),.int .i64],.int .i64,.st 2 [.sl 34 48 (.st 34 [.int .u64,.arr 32 1 (.int .u8),.int .u64]),.sl 99 120 (.st 99 [.arr 32 1 (.int .u8),.arr 32 1 (.int .u8),.int .u64,.int .u64,.int .u64,.arr 32 1 (.int .u8)])],.sl 34 48 (.st 34 [.int .u8,.arr 32 1 (.int .u8),.int .i64])])]]) w):∃v:Vw,w=vwG v/\OkC v.ch/\(-9223372036854775808<=v.number/\v.number<=9223372036854775807)/\(-9223372036854775808<=v.final/\v.final<=9223372036854775807):=by
 obtain⟨l,rfl,w1,l1,rfl,h1,w2,l2,rfl,h2,w3,l3,rfl,h3,w4,l4,rfl,h4,rfl⟩:=h;obtain⟨n,rfl,hn⟩:=fit_i64 h1;obtain⟨b,rfl⟩:=fit_bool h2;obtain⟨f,rfl,hf⟩:=fit_i64 h3;obtain⟨c,rfl,hc⟩:=fit_chain h4;exact⟨⟨n,b,f,c⟩,rfl,hc,hn,hf⟩
noncomputable def fz{α:Type}(n:Nat)(c:Nat->α):α:=Nat.rec (c 0) (λm _=>c (Nat.succ m)) n
noncomputable def wS(bs:Nat->Nat)(i:Nat):Nat:=(y9q bs (i+1)).getD i 0
noncomputable def small(l:List Nat):Prop:=∀b∈l,b<256
section
attribute [local irreducible] CoW OpW FlW Step Spec
variable {G:Nat->Option W}
@[simp] theorem psW_drop(ps:List Pr)(i:Nat):purL ((ps.map pW).drop i)=true:=by rw[<-List.map_drop];exact Yaq _
@[simp] theorem psW_take(ps:List Pr)(i:Nat):purL ((ps.map pW).take i)=true:=by rw[<-List.map_take];exact Yaq _
theorem mayp_val(k:Dig)(v:List UInt8):MayP [(k,v)]↔valB v=true:=by
 constructor
 ·intro h;exact(h.2 0 Xg _ rfl).1
 ·intro h;refine⟨by simp,λi hi x hx=>?_⟩;obtain rfl:i=0:=by simpa using hi
  cases hx;exact⟨h,λy h0=>by omega⟩
noncomputable instance(a b:Tree):Decidable (a=b):=Classical.propDecidable _
end
section
attribute [local irreducible] CoW OpW FlW Step Spec
def T.road:T->Nat->Dig->List T
 |.fork l r,d,k=>if bitN k d=0 then r::l.road (d+1) k else l::r.road (d+1) k
 |_,_,_=>[]
def T.tail:T->Nat->Dig->T
 |.fork l r,d,k=>if bitN k d=0 then l.tail (d+1) k else r.tail (d+1) k
 |t,_,_=>t
structure Side(t0:T)(ns:List Node)(k:Dig)(c d:Nat)(b:Dig)(s:T):Prop where
 rep:Rep ns c s
 zr:Zr (d+1) b
 ok:s.ok (d+1) b=true
 short:x4q s
 road:(t0.road 0 k)[d]? =some s
 few:s.all.length<=1000000
structure OnR(t0:T)(ns:List Node)(k:Dig)(n d:Nat)(b:Dig)(t:T):Prop where
 rep:Rep ns n t
 zr:Zr d b
 ok:t.ok d b=true
 le:d<=256
 road:(t0.road 0 k).drop d=t.road d k
 tail:t0.tail 0 k=t.tail d k
 short:x4q t
 few:t.all.length<=1000000
theorem OnR.go{t0:T}{ns:List Node}{k:Dig}{n d:Nat}{b:Dig}{L R:T}(h:OnR t0 ns k n d b (.fork L R)):∃(i:Nat) (k':Dig) (v:List UInt8) (l r:Nat),n=i+1/\ns[i]? =some ⟨false,k',v,l,r⟩/\d<256/\
  ((bitN k d=0/\OnR t0 ns k l (d+1) b L/\Side t0 ns k r d (qwq b d) R)\/(bitN k d=1/\OnR t0 ns k r (d+1) (qwq b d) R/\Side t0 ns k l d b L)):=by
 obtain⟨rep,hz,ok,hle,road,tail,sh,few⟩:=h;simp only[T.all,List.length_append] at few;obtain⟨hd,okL,okR,_⟩:=ok_fork.1 ok;have sL:x4q L:=λp hp=>sh p (by simp[T.all,hp])
 have sR:x4q R:=λp hp=>sh p (by simp[T.all,hp])
 have hat:∀{s:T} {q:List T},(t0.road 0 k).drop d=s::q->(t0.road 0 k)[d]? =some s/\(t0.road 0 k).drop (d+1)=q:=λ{s q} e=>by
  constructor
  ·rw[<-List.head?_drop,e];rfl
  ·rw[<-List.tail_drop,e];rfl
 cases rep with
 |fork hx hl hr hL hR=>
  rename_i i l r k' v;refine⟨i,k',v,l,r,rfl,hx,hd,?_⟩;by_cases hb:bitN k d=0
  ·simp only[T.road,T.tail,if_pos hb] at road tail;obtain⟨e1,e2⟩:=hat road;exact .inl ⟨hb,⟨hL,qiq hz,okL,hd,e2,tail,sL,by omega⟩,⟨hR,qhq hz hd,okR,sR,e1,by omega⟩⟩
  ·simp only[T.road,T.tail,if_neg hb] at road tail;obtain⟨e1,e2⟩:=hat road;have:=qqq k d;exact .inr ⟨by omega,⟨hR,qhq hz hd,okR,hd,e2,tail,sR,by omega⟩,⟨hL,qiq hz,okL,sL,e1,by omega⟩⟩
theorem OnR.done{t0:T}{ns:List Node}{k:Dig}{n d:Nat}{b:Dig}{t:T}(h:OnR t0 ns k n d b t)(hf:t.isFork=false):t0.tail 0 k=t/\(t0.road 0 k).length<=d:=by
 have e:=h.road;have e2:=h.tail;cases t with
 |nil=>exact⟨e2,by rw[<-List.drop_eq_nil_iff];exact e⟩
 |leaf=>exact⟨e2,by rw[<-List.drop_eq_nil_iff];exact e⟩
 |fork=>cases hf
theorem OnR.start{t:Tree}{n:Nat}{t0:T}(h:IsT t n t0)(hs:x4q t0)(k:Dig):OnR t0 t.nodes k n 0 yzq t0:=⟨h.rep,qQq,h.ok,by omega,rfl,rfl,hs,by have:=h.all_le;have:=h.len;omega⟩
noncomputable def sdW(t:T):W:=dW (sumD t)
@[simp] theorem jgq(l:List T):purL (l.map sdW)=true:=yAq (λt=>qMq _) l
theorem Qkq{t0 s:T}{k:Dig}{d:Nat}(h:(t0.road 0 k)[d]? =some s):((t0.road 0 k).take (d+1)).map sdW=((t0.road 0 k).take d).map sdW++[sdW s]:=by
 rw[List.take_add_one,h,List.map_append];rfl
noncomputable def endW:T->W
 |.leaf x v=>nW ⟨true,x,v,0,0⟩
 |_=>nW ⟨false,yzq,[],0,0⟩
theorem okN_leaf{ns:List Node}(h:okN ns){i:Nat}{k:Dig}{v:List UInt8}{l r:Int}(hx:ns[i]? =some ⟨true,k,v,l,r⟩):l=0/\r=0:=by
 have h1:=h i _ hx;simp only[oneB,if_true] at h1;exact⟨h1.1,h1.2.1⟩
theorem Q7q{ns:List Node}(h:okN ns):∀{n:Nat} {t:T},Rep ns n t->x4q t
 |_,_,.nil=>λp hp=>by simp[T.all] at hp
 |_,_,.leaf hx=>λp hp=>by
  simp only[T.all,List.mem_cons,List.not_mem_nil,or_false] at hp;subst hp;exact Nat.lt_of_le_of_lt (ugq h hx).2 Xn
 |_,_,.fork _ _ _ hL hR=>λp hp=>by
  simp only[T.all,List.mem_append] at hp;rcases hp with hp|hp
  ·exact Q7q h hL p hp
  ·exact Q7q h hR p hp
theorem troad_s(t:Tree)(n:Nat)(t0:T)(h:IsT t n t0)(k:Dig):PS cfg glK 125 [tW t,dW k] (.tup [endW (t0.tail 0 k),.fz ((t0.road 0 k).map sdW) 32 false,.int .i64 0]):=by
 have hl:=h.len;have hs:=Q7q h.okn h.rep;have hr:=h.root;obtain⟨ns,root⟩:=t;simp only at hl hr;subst hr;refine gIv 13 O (λR k0=>?_);refine gC 0 O (zXq (w':=.int .i64 0) (jdq ⟨ns,((n:Nat):Int)⟩ Yo) (by rw[if_pos h.may])) ?_;refine gFa 6 O ?_;refine zcq 19 O ?_;refine ZEq (α:=Nat×Nat×Dig×T) (λp=>OnR t0 ns k p.1 p.2.1 p.2.2.1 p.2.2.2) 5 (λp=>((t0.road 0 k).take p.2.1).map sdW) 35 32 (λp=>[(8,.int .i64 (p.1:Int)),(9,.int .i64 (p.2.1:Int))]) [(2,_),(3,_),(4,_),(6,_)] _ (λp=>257-p.2.1) ((n,0,yzq,t0)) ⟨rfl,rfl,rfl,rfl,trivial⟩ (OnR.start h hs k) ⟨rfl,rfl,trivial⟩ O O O (λp hI=>?_);obtain⟨i,d,b,u⟩:=p;have hI:OnR t0 ns k i d b u:=hI;have hle:=hI.le;cases u with
 |fork L R=>
  skip
  obtain⟨i,k',v,l,r,rfl,hx,hd,⟨hb,hn,hsd⟩|⟨hb,hn,hsd⟩⟩:=hI.go
  ·have hi:=(List.getElem?_eq_some_iff.1 hx).1;have es:=Qkq hsd.road;have ep:=jgq ((t0.road 0 k).take (d+1));have ep2:=jgq ((t0.road 0 k).take d);have el:(((t0.road 0 k).take d).map sdW).length<=256:=by rw[List.length_map,List.length_take];omega
   rw[es] at ep;refine zEq 4 O ?_;refine gT 0 O (ltI_iff.2 Xd) ?_;refine gA 4 O (i) ?_;refine gP 0 O (ymq (i:=i) O O O O O O O (zKq nW hx)) ?_;refine gTa 2 O ?_;refine gA 13 O (i) ?_;refine gP 0 O (ymq (i:=i) O O O O O O O (zKq nW hx)) ?_;refine gC 1 O (q6q _) ?_;refine gC 2 O (yhq k d 0 hd hb) ?_;refine gV 10 O (show _= .int .u8 1 by first|rfl|(simp;done)) ?_;refine gX 0 O ?_;refine gC 1 O (tsum_s ⟨ns,((n:Nat):Int)⟩ Yo R r hsd.rep hsd.short) ?_;refine zcq 1 O ?_;refine v3q rfl (yRq O O (vhq [_,_,_,_,_] (k:=ti35) (news:=[sdW R]) O O O O O (qfq O O O O) Xg (by show((((t0.road 0 k).take d).map sdW).length+1)*32<=_;omega) (by show(((t0.road 0 k).take d).map sdW).length+1<=_;omega) rfl Xg)) (evs_G Yg Yg) ?_;refine yTq 5 O ?_;refine gX 0 O ?_;refine gA 7 O (d+1) ?_;refine zcq 2 O ?_;exact kRq 6 ((l,d+1,b,L)) (hn) Ya (Nat.zero_le _) (es) Yc Xd Ys rfl Yf ⟨rfl,rfl,trivial⟩ ⟨rfl,rfl,rfl,rfl,trivial⟩ Xh Xh rfl Xk Xl Ye
  ·skip
   have hi:=(List.getElem?_eq_some_iff.1 hx).1;have es:=Qkq hsd.road;have ep:=jgq ((t0.road 0 k).take (d+1));have ep2:=jgq ((t0.road 0 k).take d);have el:(((t0.road 0 k).take d).map sdW).length<=256:=by rw[List.length_map,List.length_take];omega
   rw[es] at ep;refine zEq 4 O ?_;refine gT 0 O (ltI_iff.2 Xd) ?_;refine gA 4 O (i) ?_;refine gP 0 O (ymq (i:=i) O O O O O O O (zKq nW hx)) ?_;refine gTa 2 O ?_;refine gA 13 O (i) ?_;refine gP 0 O (ymq (i:=i) O O O O O O O (zKq nW hx)) ?_;refine gC 1 O (q6q _) ?_;refine gC 2 O (yhq k d 1 hd hb) ?_;refine gV 10 O (show _= .int .u8 0 by first|rfl|(simp;done)) ?_;refine gX 0 O ?_;refine gC 1 O (tsum_s ⟨ns,((n:Nat):Int)⟩ Yo L l hsd.rep hsd.short) ?_;refine zcq 1 O ?_;refine v3q rfl (yRq O O (vhq [_,_,_,_,_] (k:=ti35) (news:=[sdW L]) O O O O O (qfq O O O O) Xg (by show((((t0.road 0 k).take d).map sdW).length+1)*32<=_;omega) (by show(((t0.road 0 k).take d).map sdW).length+1<=_;omega) rfl Xg)) (evs_G Yg Yg) ?_;refine yTq 5 O ?_;refine gX 0 O ?_;refine gA 7 O (d+1) ?_;refine zcq 2 O ?_;exact kRq 6 ((r,d+1,qwq b d,R)) (hn) Ya (Nat.zero_le _) (es) Yc Xd Ys rfl Yf ⟨rfl,rfl,trivial⟩ ⟨rfl,rfl,rfl,rfl,trivial⟩ Xh Xh rfl Xk Xl Ye
 |nil=>
  obtain⟨e1,e2⟩:=hI.done rfl;have hr:=hI.rep;obtain rfl:i=0:=by cases hr;rfl
  have ep:=jgq (t0.road 0 k);rw[List.take_of_length_le (by exact e2)];refine zEq 4 O ?_;refine gF 0 O (ltI_not.2 Xd) ?_;refine zcq 15 O ?_;refine qmq Xi ?_;refine zDq 6 O ?_;refine gF 0 O (ltI_not.2 Xd) ?_;refine zcq 15 O ?_;exact k2q Qt rfl (.tup (.cons (by rw[e1];exact .agg (.cons (.pur rfl) (.cons y8q (.cons .nilfz (.cons (.pur rfl) (.cons (.pur rfl) .nil)))))) (.cons (view_g (H0:=[_,_,_]) (b:=3) (e:=32) (ty:=35) Xn ep Xg) (.cons (.pur rfl) .nil))))
 |leaf x v=>
  obtain⟨e1,e2⟩:=hI.done rfl;have hr:=hI.rep;obtain⟨i,l,r,rfl,hx⟩:∃(j:Nat) (l r:Int),i=j+1/\ns[j]? =some ⟨true,x,v,l,r⟩:=by cases hr with|leaf h=>exact⟨_,_,_,rfl,h⟩
  have hi:=(List.getElem?_eq_some_iff.1 hx).1;obtain⟨rfl,rfl⟩:=okN_leaf h.okn hx;have hv:=ugq h.okn hx;have ep:=jgq (t0.road 0 k);rw[List.take_of_length_le (by exact e2)];refine zEq 4 O ?_;refine gT 0 O (ltI_iff.2 Xd) ?_;refine gA 4 O (i) ?_;refine gP 0 O (ymq (i:=i) O O O O O O O (zKq nW hx)) ?_;refine gFa 2 O ?_;refine zcq 6 O ?_;refine qmq Xi ?_;refine zDq 6 O ?_;refine gT 0 O (ltI_iff.2 Xd) ?_;refine gA 8 O (i) ?_;refine gP 0 O (ymq (i:=i) O O O O O O O (zKq nW hx)) ?_;refine gC 7 O (vPq v false Xd) ?_;refine zcq 14 O ?_;exact k2q Qt rfl (.tup (.cons (by rw[e1];exact .pur (by simp[endW])) (.cons (view_g (H0:=[_,_,_]) (b:=3) (e:=32) (ty:=35) Xn ep Xg) (.cons (.pur rfl) .nil))))
end
def T.subs:T->Nat->Dig->List T
 |.fork l r,d,k=>.fork l r::(if bitN k d=0 then l.subs (d+1) k else r.subs (d+1) k)
 |.nil,_,_=>[.nil]
 |.leaf x v,_,_=>[.leaf x v]
theorem ZQq:∀(t:T) (d:Nat) (k:Dig),(t.subs d k)[0]? =some t
 |.nil,_,_=>rfl
 |.leaf _ _,_,_=>rfl
 |.fork _ _,_,_=>rfl
theorem kEq:∀(t:T) (d:Nat) (k:Dig),(t.subs d k).length=(t.road d k).length+1
 |.nil,_,_=>rfl
 |.leaf _ _,_,_=>rfl
 |.fork l r,d,k=>by
  unfold T.subs T.road;by_cases hb:bitN k d=0
  ·rw[if_pos hb,if_pos hb];simp[kEq l]
  ·rw[if_neg hb,if_neg hb];simp[kEq r]
theorem ZPq:∀(t:T) (d:Nat) (k:Dig),(t.subs d k)[(t.road d k).length]? =some (t.tail d k)
 |.nil,_,_=>rfl
 |.leaf _ _,_,_=>rfl
 |.fork l r,d,k=>by
  unfold T.subs T.road T.tail;by_cases hb:bitN k d=0
  ·rw[if_pos hb,if_pos hb,if_pos hb];exact ZPq l (d+1) k
  ·rw[if_neg hb,if_neg hb,if_neg hb];exact ZPq r (d+1) k
theorem ZOq:∀(t:T) (d:Nat) (k:Dig) (i:Nat) (o s:T),(t.road d k)[i]? =some o->(t.subs d k)[i+1]? =some s->∃u,(t.subs d k)[i]? =some u/\((bitN k (d+i)=0/\u= .fork s o)\/(bitN k (d+i)=1/\u= .fork o s))
 |.nil,d,k,i,o,s,h,_=>by simp[T.road] at h
 |.leaf _ _,d,k,i,o,s,h,_=>by simp[T.road] at h
 |.fork l r,d,k,i,o,s,h,h2=>by
  by_cases hb:bitN k d=0
  ·simp only[T.road,T.subs,if_pos hb] at h h2⊢;cases i with
   |zero=>
    have e1:r=o:=Option.some.inj h;have e2:l=s:=Option.some.inj ((ZQq l (d+1) k).symm.trans h2);exact⟨_,rfl,.inl ⟨hb,by rw[e1,e2]⟩⟩
   |succ i=>
    obtain⟨u,h3,h4⟩:=ZOq l (d+1) k i o s h h2;exact⟨u,h3,by rw[show d+(i+1)=d+1+i by omega];exact h4⟩
  ·simp only[T.road,T.subs,if_neg hb] at h h2⊢;cases i with
   |zero=>
    have e1:l=o:=Option.some.inj h;have e2:r=s:=Option.some.inj ((ZQq r (d+1) k).symm.trans h2);have:=qqq k d;exact⟨_,rfl,.inr ⟨by show bitN k d=1;omega,by rw[e1,e2]⟩⟩
   |succ i=>
    obtain⟨u,h3,h4⟩:=ZOq r (d+1) k i o s h h2;exact⟨u,h3,by rw[show d+(i+1)=d+1+i by omega];exact h4⟩
noncomputable def inB:T->List UInt8
 |.nil=>tagB 0 []
 |.leaf k v=>tagB 1 [k.1,v]
 |.fork l r=>tagB 2 [(sumD l).1,(sumD r).1]
theorem inB_sum(t:T):sumD t=shaD [inB t]:=by cases t<;>rfl
theorem road_le:∀{t:T} {d:Nat} {b:Dig} (k:Dig),t.ok d b=true->d<=256->d+(t.road d k).length<=256
 |.nil,d,b,k,_,h=>h
 |.leaf _ _,d,b,k,_,h=>h
 |.fork l r,d,b,k,h,_=>by
  obtain⟨hd,h1,h2,_⟩:=ok_fork.1 h;unfold T.road;split
  ·have:=road_le k h1 hd;rw[List.length_cons];omega
  ·have:=road_le k h2 hd;rw[List.length_cons];omega
theorem x6q:∀{t:T} {d:Nat} {b k x:Dig} {v:List UInt8},Zr d b->t.ok d b=true->d<=zMq k b->t.tail d k= .leaf x v->d+(t.road d k).length<=zMq x k
 |.nil,_,_,_,_,_,_,_,_,e=>by cases e
 |.leaf x' v',d,b,k,x,v,hz,ok,hs,e=>by
  cases e;have h1:d<=zMq x' b:=of_decide_eq_true ok;have:=shared_tri x' b k;rw[shared_comm b k] at this;show d+0<=_;omega
 |.fork l r,d,b,k,x,v,hz,ok,hs,e=>by
  obtain⟨hd,h1,h2,_⟩:=ok_fork.1 ok;unfold T.tail at e;unfold T.road;by_cases hb:bitN k d=0
  ·rw[if_pos hb] at e⊢;have:=x6q (qiq hz) h1 (keq hz hd hs hb) e;rw[List.length_cons];omega
  ·rw[if_neg hb] at e⊢;have:=x6q (qhq hz hd) h2 (kdq hz hd hs hb) e;rw[List.length_cons];omega
theorem Q1q:∀{t:T} {d:Nat} {k x:Dig} {v:List UInt8},t.tail d k= .leaf x v->(x,v)∈t.all
 |.nil,_,_,_,_,e=>by cases e
 |.leaf x' v',d,k,x,v,e=>by cases e;exact List.mem_singleton.2 rfl
 |.fork l r,d,k,x,v,e=>by
  unfold T.tail at e;split at e
  ·exact List.mem_append_left _ (Q1q e)
  ·exact List.mem_append_right _ (Q1q e)
theorem kfq:∀{t s:T} {d:Nat} {k:Dig},s∈t.subs d k->∀p∈s.all,p∈t.all
 |.nil,s,_,_,h,p,hp=>by rw[List.mem_singleton.1 h] at hp;exact hp
 |.leaf _ _,s,_,_,h,p,hp=>by rw[List.mem_singleton.1 h] at hp;exact hp
 |.fork l r,s,d,k,h,p,hp=>by
  rcases List.mem_cons.1 h with rfl|h
  ·exact hp
  ·split at h
   ·exact List.mem_append_left _ (kfq h p hp)
   ·exact List.mem_append_right _ (kfq h p hp)
section
attribute [local irreducible] CoW OpW FlW Step Spec
noncomputable def prG(k:Dig)(e:Int)(o:Dig)(v s:W):W:=.agg 67 [dW k,.int .u8 e,dW o,v,s]
noncomputable def prT(k:Dig)(s:W):T->W
 |.leaf x v=>if x=k then prG k 1 yzq (bW v) s else prG k 2 x (bW v) s
 |_=>prG k 0 yzq .nils s
theorem prT_own(k:Dig)(s:W)(v:List UInt8):prT k s (.leaf k v)=prG k 1 yzq (bW v) s:=if_pos rfl
theorem prT_other{x k:Dig}(s:W)(v:List UInt8)(h:¬x=k):prT k s (.leaf x v)=prG k 2 x (bW v) s:=if_neg h
theorem pr_zero(k:Dig)(s:W):W.agg 67 [dW k,.int .u8 0,.arr 32 1 (List.replicate 32 (.int .u8 (.ofNat 0))),.nils,s]=prG k 0 yzq .nils s:=by
 unfold prG;rw[qJq]
theorem pend_s(t:T)(hf:t.isFork=false)(k:Dig)(s:W):ydq cfg glK 126 1 [.ptr 0 0,endW t] [(0,235,prG k 0 yzq .nils s)] λw hp nw=>w= .tup []/\hp=[(1,230,endW t),(0,235,prT k s t)]/\nw=2:=by
 intro R;cases t with
 |fork=>cases hf
 |nil=>
  refine gIs 11 O (λk0=>?_);exact gTa 0 O (zcq 7 O (fin Qt Ent.refl rfl ⟨rfl,rfl,rfl,rfl⟩))
 |leaf x v=>
  by_cases hx:x=k
  ·subst hx;refine gIs 11 O (λk0=>?_);refine gFa 0 O (gUe 13 O (ywq O O O O (yGq O O O O O O _ _ 250)) ybq ?_);refine gS 3 O (λh1=>?_) (λh1=>?_)
   ·exact zcq 18 O (fin (.inl rfl) Ent.refl rfl ⟨rfl,rfl,by rw[prT_own];rfl,rfl⟩)
   ·exfalso;exact(by assumption:¬x=x) rfl
  ·skip
   refine gIs 11 O (λk0=>?_);refine gFa 0 O (gUe 13 O (ywq O O O O (yGq O O O O O O _ _ 250)) ybq ?_);refine gS 3 O (λh1=>?_) (λh1=>?_)
   ·exfalso;exact hx Yj
   ·exact zcq 25 O (fin (.inl rfl) Ent.refl rfl ⟨rfl,rfl,by rw[prT_other s v hx];rfl,rfl⟩)
noncomputable def sdsW(t0:T)(k:Dig):W:=.fz ((t0.road 0 k).map sdW) 32 false
@[simp] theorem Q9q(t0:T)(k:Dig):purW (sdsW t0 k)=true:=jgq _
@[simp] theorem endW_pur(t:T):purW (endW t)=true:=by cases t<;>simp[endW]
theorem prT_pur(k:Dig){s:W}(hs:purW s=true)(t:T):purW (prT k s t)=true:=by
 unfold prT prG;split
 ·split<;>simp[purW,purL,hs]
 ·simp[purW,purL,hs]
theorem endW_shape(t:T):∃a b c d e,endW t= .agg 36 [a,b,c,d,e]:=by cases t<;>exact⟨_,_,_,_,_,rfl⟩
theorem prT_shape(k:Dig)(s:W)(t:T):∃a b c d e,prT k s t= .agg 67 [a,b,c,d,e]:=by
 unfold prT;split
 ·split<;>exact⟨_,_,_,_,_,rfl⟩
 ·exact⟨_,_,_,_,_,rfl⟩
noncomputable def xcq(t0:T)(k:Dig):W:=match t0.tail 0 k with
 |.leaf x v=>if x=k then prG k 1 yzq (bW v) (sdsW t0 k) else prG k 2 x (bW v) (sdsW t0 k)
 |_=>prG k 0 yzq (bW []) (sdsW t0 k)
theorem xJq:∀(t:T) (d:Nat) (k:Dig),(t.tail d k).isFork=false
 |.nil,_,_=>rfl
 |.leaf _ _,_,_=>rfl
 |.fork l r,d,k=>by
  unfold T.tail;split
  ·exact xJq l _ k
  ·exact xJq r _ k
theorem proof_view{blk:Nat->Option W}(t0:T)(k:Dig):View blk (prT k (sdsW t0 k) (t0.tail 0 k)) (xcq t0 k):=by
 unfold xcq;split
 ·rename_i x v e;rw[e];have:=prT_pur k (Q9q t0 k) (.leaf x v);exact .pur this
 ·rename_i h;have e:=xJq t0 0 k;cases hq:t0.tail 0 k with
  |leaf x v=>exact absurd hq (h x v)
  |fork=>rw[hq] at e;cases e
  |nil=>exact .agg (.cons (.pur Xg) (.cons (.pur rfl) (.cons (.pur Xg) (.cons .nilfz (.cons (.pur (Q9q t0 k)) .nil)))))
theorem pmake_s(t:Tree)(n:Nat)(t0:T)(h:IsT t n t0)(k:Dig):PS cfg glK 60 [tW t,dW k] (.tup [xcq t0 k,.int .i64 0]):=by
 have hsp:=Q9q t0 k;have hep:=endW_pur (t0.tail 0 k);have hm0:purW (prG k 0 yzq .nils (sdsW t0 k))=true:=by unfold prG;simp[purW,purL]
 have hm1:=prT_pur k hsp (t0.tail 0 k);have hv:=λblk=>proof_view (blk:=blk) t0 k
 have hE:=pend_s (t0.tail 0 k) (xJq t0 0 k) k (sdsW t0 k);have hR:=troad_s t n t0 h k;have hso:purL ((t0.road 0 k).map sdW)=true:=jgq _;obtain⟨a1,a2,a3,a4,a5,ha⟩:=endW_shape (t0.tail 0 k);obtain⟨b1,b2,b3,b4,b5,hb⟩:=prT_shape k (sdsW t0 k) (t0.tail 0 k);rw[ha] at hep hE hR;rw[hb] at hm1 hE hv;refine gIv 12 O (λR k0=>?_);refine op_pq hR ?_ (hw:=by show(purW (.agg 36 [a1,a2,a3,a4,a5])&&(purL ((t0.road 0 k).map sdW)&&true))=true;rw[hep,hso];rfl);refine zeq 14 O (gFa 0 O (gV (w':=prG k 0 yzq .nils (sdsW t0 k)) 9 O (pr_zero k _) (zcq 9 O ?_)));skip
 refine gSo 0 O (zSq (ext:=[4]) (ws:=[.ptr 0 0,.agg 36 [a1,a2,a3,a4,a5]]) O O O O (by show [W.ptr 4 0,_]=[W.ptr 4 0,renW _ (.agg 36 [a1,a2,a3,a4,a5])];rw[zdq hep]) hE Xn Xo Xg (kYq (by rw[zdq hm0];rfl) (zbq hm0)) (by show(true&&(refB 1 (.agg 36 [a1,a2,a3,a4,a5])&&true))=true;rw[zbq hep];rfl) ?_);rintro w hp1 nw1 ⟨rfl,rfl,rfl⟩;simp only[renH,zdq hep,zdq hm1];skip
 exact zcq 13 O (k2q Qt rfl (.tup (.cons (hv _) (.cons (.pur rfl) .nil))))
end
section
variable {C:Cfg} {G:Nat->Option W} {o:Oper} {hp:HpW} {nw:Nat} {fr:FrW} {R:Res} {post:W->HpW->Nat->Res->Option EvW->Prop}
theorem Zkq(b:Nat)(fr2:FrW)(hp2:HpW){ty:TypeId}{c:W}(hb:hget hp b=some (ty,c))(hc:purW c=true)(hf:subV (blk1 b c) fr fr2)(hh:Zcq (blk1 b c) b hp hp2)(nd:(hp2.map (·.1)).Nodup)
  (h:Step C G o fr2 hp2 nw R λw hp' nw' R' ev=>ev=some .gen/\post w hp' nw' R' ev):Step C G o fr hp nw R post:=λΓ X frv hnw s f0=>by
 obtain⟨p1,p2,p3,v0,p4,p5⟩:=s.own b ty c hb;let Γ2:Ctx:=⟨Γ.nw,Γ.σ,λc=>Γ.D c\/c=Γ.σ b,Γ.h⟩
 have le:Γ.Le Γ2:=⟨Nat.le_refl _,λ_ _=>rfl,λ_ h=>.inl h,λ_ _=>rfl⟩
 have q:Seen (blk1 b c) Γ Γ2:=⟨λ_ h _=>h,λ_ _ _=>rfl,λ_ h=>.inl h,λ_ _=>rfl,λk c' hk h=>by
  unfold blk1 at h;split at h
  ·rename_i e;rw[Nat.beq_eq] at e;subst e;cases h;exact⟨.inr rfl,v0,vpq p4,p5⟩
  ·cases h⟩
 have hlt:Γ.σ b<Γ.h.next:=by
  rcases Nat.lt_or_ge (Γ.σ b) Γ.h.next with h|h
  ·exact h
  ·rw[s.wf _ h] at p4;cases p4
 have s2:SatH C G Γ2 hp2 X R:=⟨s.wf,λk ty' w hk=>by
  obtain⟨g1,w0,g2,g3⟩:=jfq hh k _ _ hk;obtain⟨q1,q2,q3,u,q4,q5⟩:=s.own _ _ _ g2;refine⟨q1,λh=>?_,q3,u,q4,jIq q g3 q5⟩;rcases h with h|h
  ·exact q2 h
  ·exact g1 (s.inj k b _ _ g2 hb h),λk k' x y hx hy e=>by
  obtain⟨_,w0,g2,_⟩:=jfq hh k x.1 x.2 hx;obtain⟨_,w1,g4,_⟩:=jfq hh k' y.1 y.2 hy;exact s.inj _ _ _ _ g2 g4 e,nd,λd hd hX=>by
  rcases hd with h|rfl
  ·exact s.dX d h hX
  ·exact p3 hX,s.xlt,λd hd=>by
  rcases hd with h|rfl
  ·exact s.dlt d h
  ·exact hlt,R.st _ _ _ _ _ s.res le.D le.val (λ_ _=>rfl) (Nat.le_refl _),s.gl.mono le⟩
 have a:Frm Γ.nw Γ hp X Γ2 hp2 X:=⟨λ_ _=>rfl,λh=>h,Nat.le_refl _,λ_ _ _ _=>rfl,λ_ h=>.inl h,λd hd=>by
  rcases hd with h|rfl
  ·exact .inl h
  ·exact .inr (.inl (.inl ⟨b,_,hb,rfl⟩)),λk x hk h=>by
  obtain⟨_,w0,g2,_⟩:=jfq hh k x.1 x.2 h;exact⟨_,g2⟩,λk x hk h=>by
  obtain⟨_,w0,g2,_⟩:=jfq hh k x.1 x.2 h;exact .inr ⟨k,_,hk,g2,rfl⟩,λ_ h=>.inl h,λ_ h _ _=>h⟩
 obtain⟨n,w,hp',R',ev,v,h',Γ',X',⟨rfl,h1⟩,h2,⟨h3,h3'⟩,h4,h5,h6,h7,h8⟩:=h Γ2 X frv hnw s2 λt w hw=>by
  obtain⟨w0,g1,g2⟩:=kFq hf t w hw;obtain⟨u,g3,g4⟩:=f0 _ _ g1;exact⟨u,g3,jIq q g2 g4⟩
 exact⟨n,w,hp',R',_,v,h',Γ',X',h1,h2,⟨h3,h3'⟩,h4,⟨h5.nw,h5.σ,λc hc=>h5.D c (.inl hc),λc hc=>h5.val c (.inl hc)⟩,h6,a.trans h7,h8⟩
end
theorem Qpq{C:Cfg}{G:Nat->Option W}{f:FuncId}{m:Nat}{ws ws':List W}{hp:HpW}{Q:W->HpW->Nat->Prop}(h:ViewL (λ_=>none) ws ws')(sp:ydq C G f m ws' hp Q):ydq C G f m ws hp Q:=λR Γ X vs h1 s hv=>
 sp R Γ X vs h1 s (xHq ⟨λ_ h _=>h,λ_ _ _=>rfl,λ_ h=>h,λ_ _=>rfl,λ_ _ _ h=>Qb⟩ h hv)
theorem pe_view{C:Cfg}{G:Nat->Option W}{f:FuncId}{ws ws':List W}{A:W->Prop}(h:ViewL (λ_=>none) ws ws')(sp:PE C G f ws' A):PE C G f ws A:=Qpq h sp
section
attribute [local irreducible] CoW OpW FlW Step Spec
noncomputable def prL(k:Dig)(e:Nat)(o:Dig)(v:List UInt8)(l:List Dig):W:=prG k (e:Int) o (bW v) (.fz (l.map dW) 32 false)
@[simp] theorem dgs_pur(l:List Dig):purL (l.map dW)=true:=yAq qMq l
@[simp] theorem prL_pur(k:Dig)(e:Nat)(o:Dig)(v:List UInt8)(l:List Dig):purW (prL k e o v l)=true:=by simp[prL,prG,purW,purL]
def prOk(k:Dig)(e:Nat)(o:Dig)(v:List UInt8)(n:Nat):Prop:=n<=256/\((e=0/\o=yzq/\v=[])\/(e=1/\o=yzq/\valB v=true)\/(e=2/\valB v=true/\o≠k/\n<=zMq o k))
theorem pvalue_s(v:List UInt8)(hv:valB v=true):PS cfg glK 272 [bW v] (.bool true):=by
 refine gI 8 O (λR k0=>?_);refine gV (w':=pW (yzq,v)) 0 O (congrArg (λz=>W.agg 33 [z,bW v]) qJq) ?_;refine zcq 1 O ?_;refine xYq O O O O O (by(repeat (first|exact .nil|refine .cons ?_ ?_|(refine .sl O ?_ rfl Xi;first|rfl|(focus (simp;done)))|(refine yxq O ?_ rfl;first|rfl|(focus (simp;done)))|(refine .pur ?_;first|rfl|(focus (simp;done)))))) (zXq (w':=.int .i64 0) (Zpq [(yzq,v)] false (by show 1<=_;omega)) (by rw[if_pos ((mayp_val _ _).2 hv)])) Xk Xk ?_;refine op_cz O O ?_;refine zeq 4 O ?_;exact gQa 0 O
theorem pmay_s(k:Dig)(e:Nat)(o:Dig)(v:List UInt8)(l:List Dig)(h:prOk k e o v l.length):PS cfg glK 271 [.fel (prL k e o v l)] (.bool true):=by
 obtain⟨hn,⟨rfl,rfl,rfl⟩|⟨rfl,rfl,hv⟩|⟨rfl,hv,ho,hs⟩⟩:=h
 ·refine gI 15 O (λR k0=>?_);refine gU 0 O ?_;refine gV 8 O qJq ?_;refine jOq (w':=.bool true) rfl (ywq O O O O (yGq O O O O O O _ _ 250)) (congrArg W.bool (decide_eq_true rfl)) ?_;refine zeq 3 O ?_;refine gL 0 O ?_;refine gU 0 O ?_;exact gQa 7 O
 ·skip
  refine gI 15 O (λR k0=>?_);refine gU 0 O ?_;refine gU 6 O ?_;refine gV 8 O qJq ?_;refine jOq (w':=.bool true) rfl (ywq O O O O (yGq O O O O O O _ _ 250)) (congrArg W.bool (decide_eq_true rfl)) ?_;refine zeq 3 O ?_;refine gC 0 O (pvalue_s v hv) ?_;exact gQa 7 O
 ·skip
  refine gI 15 O (λR k0=>?_);refine gU 0 O ?_;refine gU 6 O ?_;refine gU 6 O ?_;refine gC 8 O (pvalue_s v hv) ?_;refine zcq 5 O ?_;refine fl_val (w':=.bool true) rfl (k7q O O O O (yGq O O O O O O _ _ 250)) (congrArg (λb=>W.bool (!b)) (decide_eq_false ho)) ?_;refine yTq 6 O ?_;refine gC 0 O (shared_s _ _) ?_;refine gZ 2 O (List.length_map _) ?_;refine gT 0 O (congrArg not (ltI_not.2 Xd)) ?_;exact gQa 7 O
theorem prcheck_s(k:Dig)(e:Nat)(o:Dig)(v:List UInt8)(l:List Dig)(h:prOk k e o v l.length):PS cfg glK 204 [prL k e o v l] (.int .i64 0):=by
 have hn:=h.1;exact gI 17 O (λR k0=>gZ 0 O (List.length_map _) (gF 0 O (ltI_not.2 Xd) (zcq 2 O (xYq O O O O O (.cons (yxq rfl (prL_pur _ _ _ _ _) rfl) .nil) (pmay_s k e o v l h) Yu O (zeq 13 O (gQa 0 O))))))
noncomputable def endB(k:Dig)(e:Nat)(o:Dig)(v:List UInt8):List UInt8:=if e=1 then tagB 1 [k.1,v] else if e=2 then tagB 1 [o.1,v] else tagB 0 []
theorem pr_sub0(k:Dig)(e:Int)(o:Dig)(v s:W):z7q 50 (prG k e o v s) 0 32 1=some (zaq k.1):=by
 have h:(zaq k.1).length=32:=by rw[zgq,k.2]
 show some (((zaq k.1).drop (0/1)).take 32)=_;rw[show 0/1=0 from rfl,List.drop_zero,List.take_of_length_le (by rw[h];omega)]
theorem pr_sub1(k:Dig)(e:Int)(o:Dig)(v s:W):z7q 50 (prG k e o v s) 33 32 1=some (zaq o.1):=by
 have h:(zaq o.1).length=32:=by rw[zgq,o.2]
 show some (((zaq o.1).drop (0/1)).take 32)=_;rw[show 0/1=0 from rfl,List.drop_zero,List.take_of_length_le (by rw[h];omega)]
theorem vend_s(k:Dig)(e:Nat)(o:Dig)(v:List UInt8)(l:List Dig)(he:e<=2)(hv:v.length<1000000):PS cfg glK 205 [prL k e o v l] (bW (endB k e o v)):=by
 obtain rfl|rfl|rfl:e=1\/e=2\/e=0:=by omega
 ·refine gI 16 O (λR k0=>gU 0 O ?_);refine gSf 11 O (ZWq (fr2:=[(11,.fz ([k.1,v].map bW) 1 false)]) ⟨⟨_,rfl,.sl2 (full:=false) rfl (.arr (.cons (.sl (full:=false) (c:=prL k 1 o v l) (xs:=zaq k.1) rfl Xg (pr_sub0 _ _ _ _ _) Xi) (.cons (.pur Xg) .nil))) rfl Xi⟩,trivial⟩ (x9q O O O O O (xIq 1 [k.1,v] false (by show 2<1000000;omega) (by simp[k.2,hv])) Yu Xg ⟨rfl,by first|rfl|kernel_rfl,?_⟩));exact gQa 6 O
 ·skip
  refine gI 16 O (λR k0=>gU 0 O (gU 6 O ?_));refine gSf 11 O (ZWq (fr2:=[(19,.fz ([o.1,v].map bW) 1 false)]) ⟨⟨_,rfl,.sl2 (full:=false) rfl (.arr (.cons (.sl (full:=false) (c:=prL k 2 o v l) (xs:=zaq o.1) rfl Xg (pr_sub1 _ _ _ _ _) Xi) (.cons (.pur Xg) .nil))) rfl Xi⟩,trivial⟩ (x9q O O O O O (xIq 1 [o.1,v] false (by show 2<1000000;omega) (by simp[o.2,hv])) Yu Xg ⟨rfl,by first|rfl|kernel_rfl,?_⟩));exact gQa 6 O
 ·skip
  exact gI 16 O (λR k0=>gU 0 O (gU 6 O (gC 9 O (Qpq (.cons (.pur rfl) (.cons .nilfz .nil)) (xIq 0 [] false (by show 0<1000000;omega) Xg)) (gQa 4 O))))
noncomputable def bbA(n:Nat)(l:List (List UInt8)):W:=.arr (n*1) 1 (l.map bW)
@[simp] theorem qKq(n:Nat)(l:List (List UInt8)):purW (bbA n l)=true:=(JJq l:purL (l.map bW)=true)
theorem bb_get(n:Nat){l:List (List UInt8)}{i:Nat}{x:List UInt8}(h:l[i]? =some x):zZq 50 (bbA n l) (0+i*1+0) 1 false=some (bW x):=get_in (zKq bW h) Xd Xd Xg rfl
theorem bb_put(n:Nat){l:List (List UInt8)}{i:Nat}{x:List UInt8}(y:List UInt8)(h:l[i]? =some x):qaq 50 (bbA n l) (0+i*1+0) (bW y)=some (bbA n (l.set i y)):=by
 rw[bbA,put_in (x':=bW y) (zKq bW h) Xd Xd (by simp[W.isAgg,bW]) rfl,bbA,List.map_set]
structure Rv(l:List (List UInt8))(a:Nat)(m:List (List UInt8)):Prop where
 le:a+1<=l.length
 len:m.length=l.length
 at_:∀i,i<l.length->m[i]? =if i<a\/l.length-a<=i then l[l.length-1-i]? else l[i]?
theorem Rv.next{l m:List (List UInt8)}{a:Nat}{x y:List UInt8}(h:Rv l a m)(ha:a<l.length-1-a)(hx:m[a]? =some x)(hy:m[l.length-1-a]? =some y):Rv l (a+1) ((m.set a y).set (l.length-1-a) x):=by
 have e1:=h.at_ a Xd;have e2:=h.at_ (l.length-1-a) Xd;rw[if_neg Xd,hx] at e1;rw[if_neg Xd,hy] at e2;refine⟨by omega,by simp[h.len],λi hi=>?_⟩;have hl:=h.len;rw[List.getElem?_set,List.getElem?_set];by_cases h1:l.length-1-a=i
 ·subst h1;rw[if_pos rfl,if_pos Xp,if_pos Xd,e1];congr 1;omega
 ·rw[if_neg h1];by_cases h2:a=i
  ·subst h2;rw[if_pos rfl,if_pos Xd,if_pos Xd,e2]
  ·rw[if_neg h2,h.at_ i hi];by_cases h3:i<a\/l.length-a<=i
   ·rw[if_pos h3,if_pos Xd]
   ·rw[if_neg h3,if_neg Xd]
theorem Rv.done{l m:List (List UInt8)}{a:Nat}(h:Rv l a m)(ha:¬a<l.length-1-a):m=l.reverse:=by
 apply List.ext_getElem?;intro i;by_cases hi:i<l.length
 ·rw[List.getElem?_reverse hi,h.at_ i hi];by_cases h3:i<a\/l.length-a<=i
  ·rw[if_pos h3]
  ·rw[if_neg h3];congr 1;omega
 ·rw[List.getElem?_eq_none (by rw[h.len];omega),List.getElem?_eq_none (by rw[List.length_reverse];omega)]
theorem rev_s(l:List (List UInt8))(h0:1<=l.length)(hl:l.length<=1000000):ydq cfg glK 208 1 [.sl 0 0 0 l.length 1 none] [(0,58,bbA l.length l)] λw hp nw=>hp=[(0,58,bbA l.length l.reverse)]/\nw=1:=by
 intro R;refine gIs 3 O (λk0=>?_);refine gV 0 O (show _= .int .i64 (l.length:Int) by first|rfl|(simp;done)) (gA 0 O (l.length-1) (zcq 5 O ?_));refine j8q (α:=Nat×List (List UInt8)) (λp=>Rv l p.1 p.2) (λp=>[(2,.int .i64 (p.1:Int)),(3,.int .i64 ((l.length-1-p.1:Nat):Int))]) [(0,_)] (λp=>[(0,58,bbA l.length p.2)]) (λp=>l.length-p.1) ((0,l)) ⟨rfl,trivial⟩ (⟨by omega,rfl,λi hi=>by rw[if_neg Xd]⟩) ⟨rfl,rfl,trivial⟩ (rfl) (λp hI=>?_);obtain⟨a,m⟩:=p;have hI:Rv l a m:=hI;have hle:=hI.le;have hlm:=hI.len;refine zEq 8 O ?_;refine gS 0 O (λh1=>?_) (λh1=>?_)
 ·have ha:a<l.length-1-a:=by omega
  obtain⟨x,hx⟩:∃x,m[a]? =some x:=⟨_,List.getElem?_eq_getElem Xd⟩
  obtain⟨y,hy⟩:∃y,m[l.length-1-a]? =some y:=⟨_,List.getElem?_eq_getElem Xd⟩
  have hx2:(m.set a y)[l.length-1-a]? =some y:=by rw[List.getElem?_set,if_neg Xd];exact hy
  exact gP 11 O (yYq (i:=l.length-1-a) O O O O O O O Xd) (gM 0 O (z2q O O O (bb_get _ hy)) (gP 2 O (yYq (i:=a) O O O O O O O Xd) (gM 0 O (z2q O O O (bb_get _ hx)) (gP 0 O (yYq (i:=a) O O O O O O O Xd) (gM 0 O (jKq O O O O O (bb_put _ y hx) rfl) (gP 0 O (yYq (i:=l.length-1-a) O O O O O O O Xd) (gM 0 O (jKq O O O O O (bb_put _ x hx2) rfl) (gA 5 O (a+1) (gA 1 O (l.length-1-(a+1)) (zcq 3 O (j4q ((a+1,(m.set a y).set (l.length-1-a) x)) (hI.next ha hx hy) Ya ⟨rfl,rfl,trivial⟩ ⟨rfl,trivial⟩ rfl)))))))))))
 ·have hd:=hI.done Xd;subst hd;exact zcq 2 O (qmq Xi (zDq 1 O (fin (w:=.tup []) (.inl rfl) (yvq (fr2:=[]) trivial O O) rfl ⟨rfl,rfl,rfl⟩)))
theorem two_sub0(a b:Dig):z7q 50 (.arr 64 32 [dW a,dW b]) 0 32 1=some (zaq a.1):=by
 have h:(zaq a.1).length=32:=by rw[zgq,a.2]
 show some (((zaq a.1).drop (0/1)).take 32)=_;rw[show 0/1=0 from rfl,List.drop_zero,List.take_of_length_le (by rw[h];omega)]
theorem two_sub1(a b:Dig):z7q 50 (.arr 64 32 [dW a,dW b]) 32 32 1=some (zaq b.1):=by
 have h:(zaq b.1).length=32:=by rw[zgq,b.2]
 show some (((zaq b.1).drop (0/1)).take 32)=_;rw[show 0/1=0 from rfl,List.drop_zero,List.take_of_length_le (by rw[h];omega)]
theorem up_s(k:Dig)(e:Nat)(o:Dig)(v:List UInt8)(l:List Dig)(i:Nat)(hi:i<256){x:Dig}(hx:l[i]? =some x)(L:List (List UInt8))(n:Nat)(hL:L.length=n+1)(y:List UInt8)(hy:L[n]? =some y)(hyl:y.length<1000000)(hn:n<=1000)(a b:Dig)(c:Nat)(hb:bitN k i=c)(hab:(c=0/\a=shaD [y]/\b=x)\/(c=1/\a=x/\b=shaD [y])):
  ydq cfg glK 206 2 [.int .i64 (i:Int),.ptr 0 0,.fel (prL k e o v l)] [(0,150,.sl 1 0 0 (n+1) 1 none),(1,58,bbA (n+1) L)] λw hp nw=>hp=[(0,150,.sl 2 0 0 (n+1+1) 1 none),(2,58,bbA (n+1+1) (L++[tagB 2 [a.1,b.1]]))]/\nw=3:=by
 have el:(L.map bW).length=n+1:=by rw[List.length_map,hL]
 have hbp:purW (bbA (n+1+1) (L++[tagB 2 [a.1,b.1]]))=true:=qKq _ _;have sh:PS cfg glK 136 [.fz [.fz (zaq y) 1 false] 1 false] (dW (shaD [y])):=sha_s [(y,false)] false Xp Xg;have shp:purL [.fz [.fz (zaq y) 1 false] 1 false]=true:=by simp[purL,purW]
 have fla:=flat_dW a;have flb:=flat_dW b;intro R;obtain⟨rfl,ha,hbx⟩|⟨rfl,hax,hb2⟩:=hab
 ·rw[<-ha] at sh;rw[<-hbx] at hx;refine gIs 4 O (λk0=>?_);refine gV 0 O (show _= .int .i64 ((n+1:Nat):Int) by first|rfl|(simp;done)) ?_;refine gA 0 O (n) ?_;refine gP 0 O (yYq (i:=n) O O O O O O O Xd) ?_;refine gM 0 O (z2q O O O (bb_get _ hy)) ?_;refine zcq 1 O ?_;refine xYq O O O O O (by(repeat (first|exact .nil|refine .cons ?_ ?_|(refine .sl O ?_ rfl Xi;first|rfl|(focus (simp;done)))|(refine yxq O ?_ rfl;first|rfl|(focus (simp;done)))|(refine .pur ?_;first|rfl|(focus (simp;done)))))) (sh) Xk Xk ?_;refine zeq 9 O ?_;refine gC 0 O (zXq (w':=.tup [.int .u8 0,.int .i64 0]) (bit_in k i hi) (by rw[hb];rfl)) ?_;refine gWr 16 O ?_;refine gP 4 O (ymq (i:=i) O O O O O O O (zKq dW hx)) ?_;refine gX 1 O ?_;refine gX 1 O ?_;refine gX 5 O ?_;refine gX 1 O ?_;refine gSf 2 O (Zkq 4 [(1,.ptr 0 0),(34,.sl 1 0 0 (n+1) 1 none),(39,.sl 5 0 0 2 1 none)] [(5,58,.arr 2 1 [.fz (zaq a.1) 1 false,.fz (zaq b.1) 1 false]),(0,150,.sl 1 0 0 (n+1) 1 none),(1,58,bbA (n+1) L)] rfl (show purW (.arr 64 32 [dW a,dW b])=true by simp[purW,purL]) ⟨⟨_,rfl,.ptrK rfl⟩,⟨_,rfl,.slK rfl⟩,⟨_,rfl,.slK rfl⟩,trivial⟩ ⟨⟨by omega,_,rfl,.arr (.cons (.sl (full:=false) (c:=.arr 64 32 [dW a,dW b]) (xs:=zaq a.1) rfl Yt (two_sub0 _ _) Xi) (.cons (.sl (full:=false) (c:=.arr 64 32 [dW a,dW b]) (xs:=zaq b.1) rfl Yt (two_sub1 _ _) Xi) .nil))⟩,⟨by omega,_,rfl,.slK rfl⟩,⟨by omega,_,rfl,.pur (qKq _ _)⟩,trivial⟩ Xg (Zkq 5 [(1,.ptr 0 0),(34,.sl 1 0 0 (n+1) 1 none),(39,.fz ([a.1,b.1].map bW) 1 false)] [(0,150,.sl 1 0 0 (n+1) 1 none),(1,58,bbA (n+1) L)] rfl Yt ⟨⟨_,rfl,.ptrK rfl⟩,⟨_,rfl,.slK rfl⟩,⟨_,rfl,.sl (full:=false) rfl (by simp[purL,purW,bW]) rfl Xi⟩,trivial⟩ ⟨⟨by omega,_,rfl,.slK rfl⟩,⟨by omega,_,rfl,.pur (qKq _ _)⟩,trivial⟩ Xg (x9q O O O O O (xIq 2 [a.1,b.1] false (by show 2<1000000;omega) (by simp[a.2,b.2])) Yu Xg ⟨rfl,rfl,by first|rfl|kernel_rfl,?_⟩)));refine gM 1 O (yRq O O (qcq (len:=n+1) (news:=[bW (tagB 2 [a.1,b.1])]) (olds:=L.map bW) (k:=ti58) O O O O (qfq O O O O) Xg (by show(n+1+1)*24<=_;omega) (by show n+1+1<=_;omega) rfl (by show(n+1)*1<0+(n+1+1)*1;omega) rfl (zpq Xn el.symm rfl))) ?_;refine zcq 2 O ?_;refine fin (w:=.tup []) (.inl rfl) (yeq (b:=2) (k:=7) (fr2:=[]) (hp2:=[(0,150,.sl 2 0 0 (n+1+1) 1 none),(2,58,bbA (n+1+1) (L++[tagB 2 [a.1,b.1]]))]) Xd Xd (by show 7<8;omega) trivial ⟨⟨by omega,rfl,rfl⟩,⟨by omega,?_,zbq hbp⟩,trivial⟩ Xg) rfl ⟨rfl,rfl,rfl⟩;rw[zdq hbp];show some (_,W.arr ((n+1+1)*1) 1 (L.map bW++[bW _]))=some (_,bbA _ _)
  rw[bbA,List.map_append];rfl
 ·rw[<-hb2] at sh;rw[<-hax] at hx;refine gIs 4 O (λk0=>?_);refine gV 0 O (show _= .int .i64 ((n+1:Nat):Int) by first|rfl|(simp;done)) ?_;refine gA 0 O (n) ?_;refine gP 0 O (yYq (i:=n) O O O O O O O Xd) ?_;refine gM 0 O (z2q O O O (bb_get _ hy)) ?_;refine zcq 1 O ?_;refine xYq O O O O O (by(repeat (first|exact .nil|refine .cons ?_ ?_|(refine .sl O ?_ rfl Xi;first|rfl|(focus (simp;done)))|(refine yxq O ?_ rfl;first|rfl|(focus (simp;done)))|(refine .pur ?_;first|rfl|(focus (simp;done)))))) (sh) Xk Xk ?_;refine zeq 9 O ?_;first|refine gC 0 O (zXq (w':=.tup [.int .u8 1,.int .i64 0]) (bit_in k i hi) (by rw[hb];rfl)) ?_|refine gC 0 O (zXq (w':=.tup [.int .u8 0,.int .i64 0]) (bit_in k i hi) (by rw[hb];rfl)) ?_
  refine gWr 16 O ?_;refine gP 4 O (ymq (i:=i) O O O O O O O (zKq dW hx)) ?_;refine gX 1 O ?_;refine gX 1 O ?_;refine gX 5 O ?_;refine gX 1 O ?_;refine gSf 2 O (Zkq 4 [(1,.ptr 0 0),(34,.sl 1 0 0 (n+1) 1 none),(39,.sl 5 0 0 2 1 none)] [(5,58,.arr 2 1 [.fz (zaq a.1) 1 false,.fz (zaq b.1) 1 false]),(0,150,.sl 1 0 0 (n+1) 1 none),(1,58,bbA (n+1) L)] rfl (show purW (.arr 64 32 [dW a,dW b])=true by simp[purW,purL]) ⟨⟨_,rfl,.ptrK rfl⟩,⟨_,rfl,.slK rfl⟩,⟨_,rfl,.slK rfl⟩,trivial⟩ ⟨⟨by omega,_,rfl,.arr (.cons (.sl (full:=false) (c:=.arr 64 32 [dW a,dW b]) (xs:=zaq a.1) rfl Yt (two_sub0 _ _) Xi) (.cons (.sl (full:=false) (c:=.arr 64 32 [dW a,dW b]) (xs:=zaq b.1) rfl Yt (two_sub1 _ _) Xi) .nil))⟩,⟨by omega,_,rfl,.slK rfl⟩,⟨by omega,_,rfl,.pur (qKq _ _)⟩,trivial⟩ Xg (Zkq 5 [(1,.ptr 0 0),(34,.sl 1 0 0 (n+1) 1 none),(39,.fz ([a.1,b.1].map bW) 1 false)] [(0,150,.sl 1 0 0 (n+1) 1 none),(1,58,bbA (n+1) L)] rfl Yt ⟨⟨_,rfl,.ptrK rfl⟩,⟨_,rfl,.slK rfl⟩,⟨_,rfl,.sl (full:=false) rfl (by simp[purL,purW,bW]) rfl Xi⟩,trivial⟩ ⟨⟨by omega,_,rfl,.slK rfl⟩,⟨by omega,_,rfl,.pur (qKq _ _)⟩,trivial⟩ Xg (x9q O O O O O (xIq 2 [a.1,b.1] false (by show 2<1000000;omega) (by simp[a.2,b.2])) Yu Xg ⟨rfl,rfl,by first|rfl|kernel_rfl,?_⟩)));refine gM 1 O (yRq O O (qcq (len:=n+1) (news:=[bW (tagB 2 [a.1,b.1])]) (olds:=L.map bW) (k:=ti58) O O O O (qfq O O O O) Xg (by show(n+1+1)*24<=_;omega) (by show n+1+1<=_;omega) rfl (by show(n+1)*1<0+(n+1+1)*1;omega) rfl (zpq Xn el.symm rfl))) ?_;refine zcq 2 O ?_;refine fin (w:=.tup []) (.inl rfl) (yeq (b:=2) (k:=7) (fr2:=[]) (hp2:=[(0,150,.sl 2 0 0 (n+1+1) 1 none),(2,58,bbA (n+1+1) (L++[tagB 2 [a.1,b.1]]))]) Xd Xd (by show 7<8;omega) trivial ⟨⟨by omega,rfl,rfl⟩,⟨by omega,?_,zbq hbp⟩,trivial⟩ Xg) rfl ⟨rfl,rfl,rfl⟩;rw[zdq hbp];show some (_,W.arr ((n+1+1)*1) 1 (L.map bW++[bW _]))=some (_,bbA _ _);rw[bbA,List.map_append];rfl
noncomputable def outU(t0:T)(k:Dig)(j:Nat):List (List UInt8):=(((t0.subs 0 k).drop ((t0.road 0 k).length-j)).map inB).reverse
theorem outU_len(t0:T)(k:Dig){j:Nat}(h:j<=(t0.road 0 k).length):(outU t0 k j).length=j+1:=by
 have:=kEq t0 0 k;simp[outU];omega
theorem outU_last(t0:T)(k:Dig){j:Nat}(h:j<=(t0.road 0 k).length){s:T}(hs:(t0.subs 0 k)[(t0.road 0 k).length-j]? =some s):(outU t0 k j)[j]? =some (inB s):=by
 have hl:=kEq t0 0 k;unfold outU;rw[List.getElem?_reverse Xp];rw[List.length_map,List.length_drop,hl,List.getElem?_map,List.getElem?_drop];rw[show(t0.road 0 k).length-j+((t0.road 0 k).length+1-((t0.road 0 k).length-j) -1-j)=(t0.road 0 k).length-j by omega,hs];rfl
theorem outU_next(t0:T)(k:Dig){j:Nat}(h:j<(t0.road 0 k).length){u:T}(hu:(t0.subs 0 k)[(t0.road 0 k).length-1-j]? =some u):outU t0 k (j+1)=outU t0 k j++[inB u]:=by
 unfold outU
 have e:(t0.subs 0 k).drop ((t0.road 0 k).length-(j+1))=u::(t0.subs 0 k).drop ((t0.road 0 k).length-j):=by
  obtain⟨h1,h2⟩:=List.getElem?_eq_some_iff.1 hu;rw[show(t0.road 0 k).length-(j+1)=(t0.road 0 k).length-1-j by omega,List.drop_eq_getElem_cons h1,h2,show(t0.road 0 k).length-1-j+1=(t0.road 0 k).length-j by omega]
 rw[e,List.map_cons,List.reverse_cons]
theorem outU_all(t0:T)(k:Dig):(outU t0 k (t0.road 0 k).length).reverse=(t0.subs 0 k).map inB:=by
 unfold outU;rw[Nat.sub_self,List.drop_zero,List.reverse_reverse]
theorem outU_zero(t0:T)(k:Dig):outU t0 k 0=[inB (t0.tail 0 k)]:=by
 have hl:=kEq t0 0 k;have h:=ZPq t0 0 k;obtain⟨h1,h2⟩:=List.getElem?_eq_some_iff.1 h;unfold outU;rw[Nat.sub_zero,List.drop_eq_getElem_cons h1,h2,List.drop_of_length_le Xd];rfl
theorem inB_len{t:T}(h:∀p∈t.all,p.2.length<=64):(inB t).length<1000:=by
 cases t with
 |nil=>decide
 |leaf k v=>
  have hv:v.length<=64:=h (k,v) (by simp[T.all]);simp[inB,tagB,vAq,y5q,k.2];omega
 |fork l r=>simp[inB,tagB,vAq,y5q,(sumD l).2,(sumD r).2]
theorem swap_lt{b n:Nat}(hn:3<=n)(h:b<3):(if b=1 then 2 else if b=2 then 1 else b)<n:=by
 split
 ·omega
 ·split<;>omega
theorem swap_inj{b c:Nat}(h:(if b=1 then 2 else if b=2 then 1 else b)=if c=1 then 2 else if c=2 then 1 else c):b=c:=by
 by_cases h1:b=1<;>by_cases h2:b=2<;>by_cases h3:c=1<;>by_cases h4:c=2<;>simp_all<;>omega
set_option maxRecDepth 100000 in
theorem inputs_s(t0:T)(k:Dig)(e:Nat)(o:Dig)(v:List UInt8)(hp:prOk k e o v (t0.road 0 k).length)(he:endB k e o v=inB (t0.tail 0 k))(hs:∀p∈t0.all,p.2.length<=64)(hv:v.length<=64):PS cfg glK 135 [prL k e o v ((t0.road 0 k).map sumD)] (.tup [.fz (((t0.subs 0 k).map inB).map bW) 1 false,.int .i64 0]):=by
 obtain⟨m,hm⟩:∃m,m=(t0.road 0 k).length:=⟨_,rfl⟩
 obtain⟨l,hl⟩:∃l,l=(t0.road 0 k).map sumD:=⟨_,rfl⟩
 have hll:l.length=m:=by rw[hl,List.length_map,hm]
 have em:(l.map dW).length=m:=by rw[List.length_map,hll]
 have hm2:m<=256:=by rw[hm];exact hp.1
 have he2:e<=2:=by rcases hp.2 with h|h|h<;>omega
 have hP:=prL_pur k e o v l;rw[<-hl];rw[<-hm] at hp;have hck:=prcheck_s k e o v l (by rw[hll];exact hp);have hed:=vend_s k e o v l he2 Xd;rw[he] at hed;refine gIv 11 O (λR k0=>gC 0 O (hck) (gFa 6 O (gC 8 O (hed) (gZ 9 O em (zcq 5 O (xdq (λ_=>jTq 0 [(1,.fel (prL k e o v l)),(5,.ptr 2 0),(6,.int .i64 (m:Int))] [(2,150,.sl 1 0 0 1 1 none),(1,58,bbA 1 [inB (t0.tail 0 k)])] rfl hP (Nat.zero_le _) ⟨⟨_,rfl,.ptr (n:=67) (ag:=true) rfl hP rfl⟩,⟨_,rfl,.ptrK rfl⟩,⟨_,rfl,.pur rfl⟩,trivial⟩ ⟨⟨by omega,_,rfl,.slK rfl⟩,⟨by omega,_,rfl,.pur (by show(purW (bW _)&&true)=true;simp)⟩,trivial⟩ Xg) (ylq O O ?_)))))))
 refine zeq 11 O ?_;refine quq (α:=Nat) (λj=>j<=m) (λj=>[(22,.int .i64 (j:Int)),(21,.int .i64 (m:Int)),(6,.int .i64 (m:Int)),(7,.fn 206 [] [.ptr 1 0,.fel (prL k e o v l)]),(5,.ptr 1 0)]) (λj=>[(1,150,.sl 2 0 0 (j+1) 1 none),(2,58,bbA (j+1) (outU t0 k j))]) (λ_=>3) (λ_=>R) (λj=>m-j) 0 (Nat.zero_le _) ?_ (λj hj=>?_);skip
 ·rw[outU_zero];refine ent_num (λi=>if i=1 then 2 else if i=2 then 1 else i) (Nat.zero_le _) (λb hb=>absurd hb (Nat.not_lt_zero _)) (λb hb=>swap_lt Xd hb) (λb _ _=>Nat.zero_le _) (Q4q ⟨⟨rfl,rfl⟩,⟨rfl,rfl⟩,⟨rfl,rfl⟩,⟨by simp only[renW,yIq,zdq hP];rfl,by simp[refB,refL,zbq hP]⟩,⟨rfl,rfl⟩,trivial⟩) (xiq ⟨⟨by omega,rfl,rfl⟩,⟨by omega,?_,zbq (qKq _ _)⟩,trivial⟩) (λb c x y h1 h2 h3=>swap_inj h3) Xg;show some (_,bbA 1 _)=some (_,renW _ (bbA (0+1) _));rw[zdq (qKq _ _)]
 refine zEq 6 O ?_;refine gS 0 O (λh1=>?_) (λh1=>?_)
 ·have hj1:j<m:=by omega
  obtain⟨s,hs1⟩:∃s,(t0.subs 0 k)[m-j]? =some s:=⟨_,List.getElem?_eq_getElem (by rw[kEq];omega)⟩
  obtain⟨q,hq⟩:∃q,(t0.road 0 k)[m-1-j]? =some q:=⟨_,List.getElem?_eq_getElem Xd⟩
  obtain⟨u,hu,hcase⟩:=ZOq t0 0 k (m-1-j) q s hq (by rw[show m-1-j+1=m-j by omega];exact hs1);rw[Nat.zero_add] at hcase;have hlast:=outU_last t0 k (j:=j) Xd (s:=s) (by rw[<-hm];exact hs1);have hnext:=outU_next t0 k (j:=j) Xd (u:=u) (by rw[<-hm];exact hu);have hlen:=outU_len t0 k (j:=j) Xd;have hil:(inB s).length<1000:=inB_len λp hp=>hs p (kfq (List.mem_of_getElem? hs1) p hp)
  have hx:l[m-1-j]? =some (sumD q):=by rw[hl,List.getElem?_map,hq];rfl
  have hup:ydq cfg glK 206 2 [.int .i64 ((m-1-j:Nat):Int),.ptr 0 0,.fel (prL k e o v l)] [(0,150,.sl 1 0 0 (j+1) 1 none),(1,58,bbA (j+1) (outU t0 k j))] λw hp nw=>hp=[(0,150,.sl 2 0 0 (j+1+1) 1 none),(2,58,bbA (j+1+1) (outU t0 k (j+1)))]/\nw=3:=by
   rw[hnext];rcases hcase with ⟨hb,rfl⟩|⟨hb,rfl⟩
   ·exact up_s k e o v l (m-1-j) Xd hx _ j hlen _ hlast Xd Xd (sumD s) (sumD q) 0 hb (.inl ⟨rfl,inB_sum s,rfl⟩)
   ·exact up_s k e o v l (m-1-j) Xd hx _ j hlen _ hlast Xd Xd (sumD q) (sumD s) 1 hb (.inr ⟨rfl,rfl,inB_sum s⟩)
  refine gA 13 O (m-1) (gA 1 O (m-1-j) ?_);skip
  refine gSo 0 O (zSq (ext:=[1,2]) (ws:=[.int .i64 ((m-1-j:Nat):Int),.ptr 0 0,.fel (prL k e o v l)]) O O O O ?_ hup Xn Yd Xg (ukq rfl (by rw[zdq (qKq _ _)];rfl) rfl (zbq (qKq _ _))) ?_ ?_)
  ·simp only[yIq,renW,zdq hP];rfl
  ·simp[refL,refB,zbq hP]
  rintro w hp1 nw1 ⟨rfl,rfl⟩;skip
  refine gWr 4 O (zcq 2 O ?_);skip
  refine y3q (j+1) hj1 Xd (yeq (b:=2) (k:=3) Xd Xd Qe ⟨⟨rfl,rfl⟩,⟨rfl,rfl⟩,⟨rfl,rfl⟩,⟨by simp only[renW,yIq,zdq hP];rfl,by simp[refB,refL,zbq hP]⟩,⟨rfl,rfl⟩,trivial⟩ ⟨⟨by omega,rfl,rfl⟩,⟨by omega,?_,zbq (qKq _ _)⟩,trivial⟩ Xg);show some (_,renW (numC [1,2] 3) (bbA (j+1+1) _))=some (_,renW (tau1 2 3) (bbA (j+1+1) _));rw[zdq (qKq _ _),zdq (qKq _ _)]
 ·obtain rfl:j=m:=by omega
  have hlen:=outU_len t0 k (j:=j) Xd;have hall:=outU_all t0 k;rw[<-hm] at hall;have hrev:=rev_s (outU t0 k j) Xd Xd;rw[hlen,hall] at hrev;refine zcq 2 O (qmq Xi (zDq 5 O ?_));skip
  refine gSo 0 O (zSq (ext:=[2]) (ws:=[.sl 0 0 0 (j+1) 1 none]) O O O O O hrev Xn Yd Xg (kYq (by rw[zdq (qKq _ _)];rfl) (zbq (qKq _ _))) O ?_);rintro w hp1 nw1 ⟨rfl,rfl⟩;simp only[renH,zdq (qKq _ _)];skip
  exact zcq 10 O (k2q Qt rfl (.tup (.cons (.sl (full:=false) (c:=bbA (j+1) ((t0.subs 0 k).map inB)) rfl (JJq _) (zpq Xn (by rw[List.length_map,List.length_map,kEq,hm]) rfl) Xi) (.cons (.pur rfl) .nil))))
theorem vroot_s(t0:T)(k:Dig)(e:Nat)(o:Dig)(v:List UInt8)(hp:prOk k e o v (t0.road 0 k).length)(he:endB k e o v=inB (t0.tail 0 k))(hs:∀p∈t0.all,p.2.length<=64)(hv:v.length<=64):PS cfg glK 66 [prL k e o v ((t0.road 0 k).map sumD)] (.tup [dW (sumD t0),.int .i64 0]):=by
 have hin:=inputs_s t0 k e o v hp he hs hv;have h0:((t0.subs 0 k).map inB)[0]? =some (inB t0):=by rw[List.getElem?_map,ZQq];rfl
 have hil:(inB t0).length<1000:=inB_len hs
 have sh:PS cfg glK 136 [.fz [.fz (zaq (inB t0)) 1 false] 1 false] (dW (sumD t0)):=by
  rw[inB_sum];exact sha_s [(inB t0,false)] false Xp Xg
 have shp:purL [.fz [.fz (zaq (inB t0)) 1 false] 1 false]=true:=by simp[purL,purW]
 have fla:=flat_dW (sumD t0);obtain⟨S,hS⟩:∃S,S=(t0.subs 0 k).map inB:=⟨_,rfl⟩
 rw[<-hS] at hin h0;have hSp:=JJq S;refine gI 10 O (λR k0=>?_);refine op_pq hin ?_ (hw:=by show(purL (S.map bW)&&(true&&true))=true;rw[hSp];rfl);refine zeq 11 O (gFa 0 O (gP 8 O (ymq (i:=0) O O O O O O O (zKq bW h0)) (zcq 2 O ?_)));refine xYq O O O O O (by(repeat (first|exact .nil|refine .cons ?_ ?_|(refine .sl O ?_ rfl Xi;first|rfl|(focus (simp;done)))|(refine yxq O ?_ rfl;first|rfl|(focus (simp;done)))|(refine .pur ?_;first|rfl|(focus (simp;done)))))) (sh) Xk Xk ?_;exact zeq 5 O (gQa 0 O)
theorem vfits_s(t0:T)(k:Dig)(e:Nat)(o:Dig)(v:List UInt8)(hp:prOk k e o v (t0.road 0 k).length)(he:endB k e o v=inB (t0.tail 0 k))(hs:∀p∈t0.all,p.2.length<=64)(hv:v.length<=64):PS cfg glK 25 [prL k e o v ((t0.road 0 k).map sumD),dW (sumD t0)] (.bool true):=by
 exact gI 10 O (λR k0=>gC 0 O (vroot_s t0 k e o v hp he hs hv) (gTa 11 O (zcq 3 O (jOq (w':=.bool true) rfl (ywq O O O O (yGq O O O O O O _ _ 250)) (congrArg W.bool (decide_eq_true rfl)) (zeq 5 O (gQa 0 O))))))
end
section
attribute [local irreducible] CoW OpW FlW Step Spec
variable {G:Nat->Option W}
structure SmallC(c:Ch):Prop where
 nodes:c.tree.nodes.length<=1000000
 vals:∀x∈c.tree.nodes,x.val.length<=70368744177664
 len:c.links.length<=1000000
 link:∀x∈c.links,x.ds.length<=1000000/\x.xs.length<=1000000/\x.rs.length<=1000000
def Y1q(c:Ch)(n:Nat):Prop:=QUq c.tree 900\/n<c.links.length\/∃x∈c.links,yDq x.ds x.xs\/40<x.rs.length
noncomputable instance(c:Ch)(n:Nat):Decidable (Y1q c n):=Classical.propDecidable _
theorem greatc_s(c:Ch)(n:Nat)(hb:c.tree.nodes.length<=4611686018427387903)(hl:c.links.length<=4611686018427387903):PS cfg G 35 [chG c,.int .i64 (n:Int)] (.bool (decide (Y1q c n))):=by
 have e:(c.links.map lkG).length=c.links.length:=List.length_map _;by_cases hg:QUq c.tree 900
 ·skip
  exact gI 11 O (λR k0=>gC 0 O (zXq (w':=.bool true) (great_s c.tree 900 hb Xd) (by rw[decide_eq_true (hg)])) (gQ 17 O (dec_t (.inl hg))))
 refine gI 11 O (λR k0=>gC 0 O (zXq (w':=.bool false) (great_s c.tree 900 hb Xd) Yy) (gZ 3 O e (gU 1 O ?_)));refine gS 3 O (λh1=>?_) (λh1=>?_)
 ·exact gQ 7 O (dec_t (.inr (.inl Xd)))
 refine gLo (α:=Nat) 9 (λi=>i<=c.links.length/\∀j x,j<i->c.links[j]? =some x->¬(yDq x.ds x.xs\/40<x.rs.length)) (λi=>[(5,.int .i64 (i:Int))]) [2,4] (λi=>c.links.length-i) (0) rfl (⟨Nat.zero_le _,λj x h=>by omega⟩) (λi hI=>?_);obtain⟨g1,g2⟩:=hI;refine gZ 6 O e ?_;refine gS 3 O (λh2=>?_) (λh2=>?_)
 ·have hi:i<c.links.length:=by omega
  obtain⟨x,hx⟩:∃x,c.links[i]? =some x:=⟨_,List.getElem?_eq_getElem hi⟩
  have er:(x.rs.map rcW).length=x.rs.length:=List.length_map _;refine gP 9 O (ymq (i:=i) O O O O O O O (zKq lkG hx)) (gC 2 O (great16_s x.ds x.xs false false) ?_);refine gB 0 O (λh3=>?_) (λh3=>?_)
  ·exact gO 21 O (gQ 2 O (dec_t (.inr (.inr ⟨x,List.mem_of_getElem? hx,.inl h3⟩))))
  ·refine gP 4 O (ymq (i:=i) O O O O O O O (zKq lkG hx)) (gZ 2 O er (gU 0 O ?_));refine gS 3 O (λh4=>?_) (λh4=>?_)
   ·exact gO 8 O (gQ 2 O (dec_t (.inr (.inr ⟨x,List.mem_of_getElem? hx,.inr Xd⟩))))
   ·exact gA 5 O (i+1) (gAg 2 O (i+1) (⟨hi,λj y hj hy=>by rcases Nat.lt_succ_iff_lt_or_eq.1 hj with q|rfl;exact g2 j y q hy;exact Option.some.inj (hx.symm.trans hy)▸λq=>q.elim h3 Xd⟩) Xd)
 ·have no:¬Y1q c n:=by
   rintro(q|q|⟨x,hx,q⟩)
   ·exact hg q
   ·omega
   ·obtain⟨j,hj⟩:=List.getElem?_of_mem hx;exact g2 j x (by have:=qZq hj;omega) hj q
  exact gO 2 O (gQ 8 O (utq no))
theorem u1q(v:Vw)(n:Nat)(hb:v.ch.tree.nodes.length<=4611686018427387903)(hl:v.ch.links.length<=4611686018427387903):PS cfg G 6 [vwG v,.int .i64 (n:Int)] (.bool (decide (Y1q v.ch n))):=by
 exact gI 11 O (λR k0=>gC 0 O (greatc_s v.ch n hb hl) (gQa 4 O))
theorem greatc_no{c:Ch}{n:Nat}(h:¬Y1q c n):c.tree.nodes.length<=900/\c.links.length<=n/\∀x∈c.links,¬yDq x.ds x.xs/\x.rs.length<=40:=
 ⟨Nat.le_of_not_lt λq=>h (.inl (.inl q)),Nat.le_of_not_lt λq=>h (.inr (.inl q)),λx hx=>⟨λq=>h (.inr (.inr ⟨x,hx,.inl q⟩)),Nat.le_of_not_lt λq=>h (.inr (.inr ⟨x,hx,.inr q⟩))⟩⟩
theorem clink_s(x:Lk)(h:x.ds.length<=1000000/\x.xs.length<=1000000/\x.rs.length<=1000000):PS cfg G 109 [lkG x] (lkG x):=by
 obtain⟨h1,h2,h3⟩:=h;exact gI 11 O (λR k0=>gC 0 O (cld_s x.ds false Xd) (gC 3 O (clx_s x.xs false Xd) (gC 9 O (clr_s x.rs false Xd) (gQa 11 O))))
theorem ctrn_s(l:List Lk)(f:Bool)(hl:l.length<=1000000)(hs:∀x∈l,x.ds.length<=1000000/\x.xs.length<=1000000/\x.rs.length<=1000000):PL cfg G 180 [.fz (l.map lkG) 102 f,.fn 109 [] []] 118 102 (l.map lkG):=by
 have e:(l.map lkG).length=l.length:=List.length_map _;intro R;refine gIs 14 O (λk0=>?_);refine gZ 0 O e (zcq 4 O ?_);refine ZEq (α:=Nat) (λi=>i<=l.length) 5 (λi=>(l.take i).map lkG) 118 102 (λi=>[(10,.int .i64 (i:Int))]) [(1,_),(4,_),(8,_),(9,_)] _ (λi=>l.length-i) (0) ⟨rfl,rfl,rfl,rfl,trivial⟩ (Nat.zero_le _) ⟨rfl,trivial⟩ O O O (λi hI=>?_);refine zEq 6 O ?_;refine gS 0 O (λh1=>?_) (λh1=>?_)
 ·have hi:i<l.length:=by omega
  obtain⟨x,hx⟩:∃x,l[i]? =some x:=⟨_,List.getElem?_eq_getElem hi⟩
  have es:(l.take (i+1)).map lkG=(l.take i).map lkG++[lkG x]:=by rw[List.take_add_one,hx,List.map_append];rfl
  have el:((l.take i).map lkG).length=i:=by simp;omega
  have ep:purL ((l.take i).map lkG++[lkG x])=true:=by rw[<-es];exact kiq _
  have ep2:purL ((l.take i).map lkG)=true:=kiq _;exact gP 6 O (ymq (i:=i) O O O O O O O (zKq lkG hx)) (gC 9 O (clink_s x (hs x (List.mem_of_getElem? hx))) (gM 1 O (yRq O O (vhq [_,_] (k:=ti118) (news:=[lkG x]) O O O O O (qfq O O O O) Xg (by show(((l.take i).map lkG).length+1)*192<=_;omega) (by show((l.take i).map lkG).length+1<=_;omega) rfl Xg)) (gWr 5 O (zcq 2 O (kRq 3 (i+1) (hi) Xd (Nat.zero_le _) (es) Yc Xd Ys rfl Yf ⟨rfl,trivial⟩ ⟨rfl,rfl,rfl,rfl,trivial⟩ Xh Xh rfl Xk Xl Ye)))))
 ·have hi:i=l.length:=by omega
  subst hi;rw[List.take_length];exact zcq 2 O (qmq Xi (zDq 9 O (fin Qt (yvq (fr2:=[(4,gW 0 102 (l.map lkG))]) ⟨rfl,trivial⟩ O O) rfl ⟨rfl,rfl,rfl,rfl⟩)))
theorem SmallC.vl{c:Ch}(h:SmallC c):c.tree.nodes.length<=1000000000:=by have:=h.nodes;omega
noncomputable def ownC(b:Nat)(c:Ch):W:=.agg 3 [tW c.tree,.sl b 0 0 c.links.length 102 none]
noncomputable def ownH(b0 b1 b:Nat)(c:Ch):HpW:=[(b,118,.arr (c.links.length*102) 102 (c.links.map lkG)),(b1,27,ownC b c),(b0,27,chG c)]
theorem ctwin_o(c:Ch)(hs:SmallC c)(hne:c.links≠[]):ydq cfg G 108 0 [chG c] [] λw hp nw=>w=ownC 2 c/\hp=ownH 0 1 2 c/\nw=3:=by
 have hne2:c.links.map lkG≠[]:=by simpa using hne
 have e:(c.links.map lkG).length=c.links.length:=List.length_map _;intro R;refine gIs 10 O (λk0=>?_);refine gC 0 O (x5q c.tree hs.vl hs.vals) (zcq 2 O ?_)
 (refine ytq rfl (step_pl O O O O O Yu (ctrn_s c.links false hs.len hs.link) (kiq _) ?_);refine⟨by first|rfl|kernel_rfl,?_⟩;rw[kjq hne2,kkq hne2,e])
 exact yTq 5 O (fin Qt Ent.refl rfl ⟨rfl,rfl,rfl,rfl⟩)
theorem ren_own(τ:Nat->Nat)(b:Nat)(c:Ch):renW τ (ownC b c)=ownC (τ b) c:=by
 show W.agg 3 [renW τ (tW c.tree),_]=_;rw[zdq (y0q _)];rfl
theorem renH_own(τ:Nat->Nat)(a b d:Nat)(c:Ch):renH τ (ownH a b d c)=ownH (τ a) (τ b) (τ d) c:=by
 unfold ownH;have h:purW (.arr (c.links.length*102) 102 (c.links.map lkG))=true:=kiq _;simp only[renH,ren_own,zdq h,zdq (YPq c)]
theorem step_twin{o:Oper}{fr:FrW}{hp:HpW}{nw:Nat}{R:Res}{post:W->HpW->Nat->Res->Option EvW->Prop}{x:Operand}{xs:Array Operand}{ats:Array TypeId}{a us d:List W}(c:Ch)(hs:SmallC c)(hne:c.links≠[])(ho:o.op= .call ⟨.value x,xs,ats⟩)(hx:evW cfg G fr x=some (.fn 108 a d))(hxs:evLW cfg G fr xs.toList=some us)(hws:a++us++d=[chG c])(h:post (ownC (nw+2) c) (ownH (nw+0) (nw+1) (nw+2) c++hp) (nw+3) R (some .gen)):Step cfg G o fr hp nw R post:=by
 refine ZVq ho hx rfl hxs hws (by simp[purL]) (ctwin_o c hs hne) ?_;rintro w hp1 nw1 ⟨rfl,rfl,rfl⟩;rw[ren_own,renH_own];exact h
theorem ctwin_s(c:Ch)(hs:SmallC c)(hne:c.links≠[]):PS cfg G 108 [chG c] (chG c):=λR=>
 uEq (jCq (ctwin_o c hs hne) (Q:=λw hp _=>View (blkA hp) w (chG c)) (λw hp nw h=>by
  obtain⟨rfl,rfl,rfl⟩:=h;exact .agg (.cons (.pur (y0q _)) (.cons (.sl (full:=false) rfl (kiq _) (zpq Xn (by rw[List.length_map]) rfl) Xi) .nil))) R)
theorem hdZ_b:W.agg 98 [.int .i64 0,.arr 32 1 (List.replicate 32 (.int .u8 (.ofNat 0))),.arr 32 1 (List.replicate 32 (.int .u8 (.ofNat 0))),.arr 32 1 (List.replicate 32 (.int .u8 (.ofNat 0))),.int .i64 0]=hdW hdZ:=by
 rw[qJq];rfl
theorem chead_no(c:Ch)(hc:OkC c)(h:¬MayC c):PS cfg glK 107 [chG c] (.tup [hdW hdZ,.int .i64 8]):=by
 exact gI 11 O (λR k0=>gC 0 O (zXq (w':=.int .i64 8) (j9q c hc) (by rw[if_neg h])) (gTa 6 O (gV (w':=hdW hdZ) 5 O hdZ_b (gQa 7 O))))
theorem YOq(c:Ch)(hc:OkC c)(h:MayC c){y:Lk}(hy:c.links[c.links.length-1]? =some y):PS cfg glK 107 [chG c] (.tup [hdW y.hdr,.int .i64 0]):=by
 have e:(c.links.map lkG).length=c.links.length:=List.length_map _;have h1:=h.one;have hl:=hc.len;exact gI 11 O (λR k0=>gC 0 O (zXq (w':=.int .i64 0) (j9q c hc) (by rw[if_pos h])) (gFa 6 O (gZ 11 O e (gA 0 O (c.links.length-1) (gP 0 O (ymq (i:=c.links.length-1) O O O O O O O (zKq lkG hy)) (gQa 7 O))))))
theorem cstate_s(c:Ch)(hc:OkC c)(hs:SmallC c)(i:Nat)(hm:MayC c){x:Lk}(hx:c.links[i]? =some x):PS cfg glK 23 [chG c,.int .i64 (i:Int)] (.tup [tW (verT c x.root),.int .i64 0]):=by
 have e:(c.links.map lkG).length=c.links.length:=List.length_map _;have hi:=qZq hx;refine gI 12 O (λR k0=>gC 0 O (zXq (w':=.int .i64 0) (j9q c hc) Yk) (gFa 0 O (gF 7 O (ltI_not.2 Xd) (gZ 4 O e (gF 0 O (congrArg not (ltI_iff.2 Xd)) (gP 15 O (ymq (i:=i) O O O O O O O (zKq lkG hx)) (gC 2 O (Zbq c.tree x.root) ?_)))))));first|refine gC 0 O (x5q (verT c x.root) hs.vl hs.vals) ?_|refine gC 0 O (x5q c.tree hs.vl hs.vals) ?_
 exact gQa 5 O
noncomputable def noCh:W:=.agg 3 [.agg 2 [.nils,.int .i64 0],.nils]
theorem take_at{α:Type}{l:List α}{i:Nat}{x:α}(h:l[i]? =some x):(l.take (i+1))[i]? =some x:=by
 rw[List.getElem?_take,if_pos (Nat.lt_succ_self _)];exact h
theorem cutl_len{c:Ch}{i:Nat}{x:Lk}(h:c.links[i]? =some x):(c.links.take (i+1)).length=i+1:=by
 have:=qZq h;rw[List.length_take];omega
theorem ccut_s(c:Ch)(hc:OkC c)(hs:SmallC c)(i:Nat)(hm:MayC c){x:Lk}(hx:c.links[i]? =some x):PS cfg glK 48 [chG c,.int .i64 (i:Int)] (.tup [chG (cutC c i x),.int .i64 0]):=by
 have e:(c.links.map lkG).length=c.links.length:=List.length_map _;have hi:=qZq hx;have h1:=hs.len;have e2:((c.links.map lkG).take (i+1))=(c.links.take (i+1)).map lkG:=(List.map_take ..).symm;exact gIv 12 O (λR k0=>gC 0 O (zXq (w':=.int .i64 0) (j9q c hc) Yk) (gFa 0 O (gF 7 O (ltI_not.2 Xd) (gZ 4 O e (gF 0 O (congrArg not (ltI_iff.2 Xd)) (gC 11 O (ctwin_s c hs (λq=>by rw[q] at hi;cases hi)) (gA 9 O (i+1) (gA 1 O (i+1) (gP 0 O (cut_fz3 (ys:=(c.links.take (i+1)).map lkG) (h:=i+1) (m:=i+1) (g:=true) O O O O O O O O Xd (Nat.le_refl _) (by rw[e];omega) Xd (by rw[List.drop_zero,Nat.sub_zero];exact e2) (Nat.beq_refl _)) (gP 9 O (ymq (i:=i) O O O O O O O (zKq lkG (take_at hx))) (zcq 15 O (k2q Qt rfl (.tup (.cons (.agg (.cons (.pur (y0q (verT c x.root))) (.cons (.fzw (kiq _)) .nil))) (.cons (.pur rfl) .nil)))))))))))))))
theorem seqb_s(a b:List UInt8)(f g:Bool)(hb:a.length<=1000000000):PS cfg G 170 [.fz (zaq a) 1 f,.fz (zaq b) 1 g] (.bool (decide (a=b))):=by
 have ea:=zgq a;have eb:=zgq b;refine gI 9 O (λR k0=>gZ 0 O ea (gZ 1 O eb ?_));refine gS 3 O (λh1=>?_) (λh1=>?_)
 ·exact gQ 7 O Qh
 ·refine gZ 6 O ea ?_;refine gLo (α:=Nat) 4 (λi=>i<=a.length/\a.take i=b.take i) (λi=>[(13,.int .i64 (i:Int))]) [0,1,4,12] (λi=>a.length-i) (0) rfl (⟨Nat.zero_le _,rfl⟩) (λi hI=>?_);obtain⟨g1,g2⟩:=hI;refine gS 6 O (λh2=>?_) (λh2=>?_)
  ·obtain⟨x,hx⟩:∃x,a[i]? =some x:=⟨_,List.getElem?_eq_getElem Xd⟩
   obtain⟨y,hy⟩:∃y,b[i]? =some y:=⟨_,List.getElem?_eq_getElem Xd⟩
   refine gP 14 O (ymq (i:=i) O O O O O O O (xzq hx)) (gP 3 O (ymq (i:=i) O O O O O O O (xzq hy)) ?_);refine gS 4 O (λh3=>?_) (λh3=>?_)
   ·exact gO 8 O (gQ 2 O (by rw[decide_eq_false (ne_at hx hy λq=>h3 (by rw[q]))]))
   ·exact gA 4 O (i+1) (gAg 2 O (i+1) (⟨by omega,ZNq g2 hx hy (UInt8.toNat_inj.1 (Int.ofNat.inj (Classical.not_not.1 h3)))⟩) Xd)
  ·exact gO 2 O (gQ 8 O Qr)
theorem psame1_s(a b:Pr)(hl:a.2.length<=1000000000):PS cfg G 222 [pW a,pW b] (.bool (decide (a=b))):=by
 refine gI 13 O (λR k0=>?_);refine gDe 0 O (ywq O O O O (yGq O O O O O O _ _ 250)) ybq (λh1=>?_) (λh1=>?_)
 ·exact gC 5 O (seqb_s _ _ _ _ Xd) (gQ 5 O (dec_c ⟨λq=>Prod.ext (by simpa using h1) q,λq=>by rw[q]⟩))
 ·exact gQ 11 O (utq λq=>h1 (by rw[q]))
theorem seqp_s(a b:List Pr)(f g:Bool)(hb:a.length<=1000000000)(hl:∀x∈a,x.2.length<=1000000000):PS cfg G 221 [.fz (a.map pW) 33 f,.fz (b.map pW) 33 g,.fn 222 [] []] (.bool (decide (a=b))):=by
 have ea:(a.map pW).length=a.length:=List.length_map _;have eb:(b.map pW).length=b.length:=List.length_map _;refine gI 9 O (λR k0=>gZ 0 O ea (gZ 1 O eb ?_));refine gS 3 O (λh1=>?_) (λh1=>?_)
 ·exact gQ 7 O Qh
 ·refine gZ 6 O ea ?_;refine gLo (α:=Nat) 4 (λi=>i<=a.length/\a.take i=b.take i) (λi=>[(17,.int .i64 (i:Int))]) [1,2,6,15,16] (λi=>a.length-i) (0) rfl (⟨Nat.zero_le _,rfl⟩) (λi hI=>?_);obtain⟨g1,g2⟩:=hI;refine gS 6 O (λh2=>?_) (λh2=>?_)
  ·obtain⟨x,hx⟩:∃x,a[i]? =some x:=⟨_,List.getElem?_eq_getElem Xd⟩
   obtain⟨y,hy⟩:∃y,b[i]? =some y:=⟨_,List.getElem?_eq_getElem Xd⟩
   refine gP 7 O (ymq (i:=i) O O O O O O O (zKq pW hx)) (gP 10 O (ymq (i:=i) O O O O O O O (zKq pW hy)) (gC 10 O (psame1_s x y (hl x (List.mem_of_getElem? hx))) ?_));refine gS 3 O (λh3=>?_) (λh3=>?_)
   ·exact gO 8 O (gQ 2 O (by rw[decide_eq_false (ne_at hx hy Qd)]))
   ·exact gA 4 O (i+1) (gAg 2 O (i+1) (⟨by omega,ZNq g2 hx hy Qd⟩) Xd)
  ·exact gO 2 O (gQ 8 O Qr)
theorem psame_s(a b:List Pr)(f g:Bool)(hb:a.length<=1000000000)(hl:∀x∈a,x.2.length<=1000000000):PS cfg G 145 [.fz (a.map pW) 33 f,.fz (b.map pW) 33 g] (.bool (decide (a=b))):=by
 exact gI 9 O (λR k0=>gC 0 O (seqp_s a b f g hb hl) (gQa 4 O))
theorem calike_s{t u:Tree}{n m:Nat}{a b:T}(ht:IsT t n a)(hu:IsT u m b):PS cfg G 71 [tW t,tW u] (.bool (decide (a.all=b.all))):=by
 have h1:=ht.all_le;have h2:=ht.len;exact gI 10 O (λR k0=>gC 0 O (QZq t n a ht) (gC 10 O (QZq u m b hu) (gC 11 O (psame_s a.all b.all false false Xd (λx hx=>by have:=(ht.val x hx).2;omega)) (gQa 4 O))))
end
section
attribute [local irreducible] CoW OpW FlW Step Spec
attribute [local simp] qVq
def NextS(c:Ch)(box:Dig)(x y:Lk):Prop:=∃n t0 n1 t1 rs,IsA (verT c y.root) n t0/\IsA (verT c x.root) n1 t1/\doX box (doD t0.all x.ds).1 x.xs=some (t1.all,rs)/\x.hdr=jrq y.hdr t1 ((doD t0.all x.ds).2++rs)/\x.rs=((doD t0.all x.ds).2++rs).map recI
theorem nextS_none{c:Ch}{box:Dig}{x y:Lk}{n:Nat}{t0:T}(hA:IsA (verT c y.root) n t0)(e:doX box (doD t0.all x.ds).1 x.xs=none):¬NextS c box x y:=by
 rintro⟨n',t0',n1,t1,rs,h1,h2,h3,_⟩;obtain⟨rfl,rfl⟩:=hA.uniq h1;rw[e] at h3;cases h3
theorem nextS_some{c:Ch}{box:Dig}{x y:Lk}{n n2 nx:Nat}{t0 t2 tx:T}{t':Tree}{l:List Pr}{rs:List Rec}(hA:IsA (verT c y.root) n t0)(e:doX box (doD t0.all x.ds).1 x.xs=some (l,rs))(hT:IsA t' n2 t2)(hl:t2.all=l)(hX:IsA (verT c x.root) nx tx):NextS c box x y↔jrq y.hdr t2 ((doD t0.all x.ds).2++rs)=x.hdr/\((doD t0.all x.ds).2++rs).map recI=x.rs/\t2.all=tx.all:=by
 constructor
 ·rintro⟨n',t0',n1,t1,rs',h1,h2,h3,h4,h5⟩;obtain⟨rfl,rfl⟩:=hA.uniq h1;obtain⟨rfl,rfl⟩:=hX.uniq h2;rw[e] at h3;cases h3;have q:t2=tx:=hT.toIsT.same hX.toIsT hl;subst q;exact⟨h4.symm,h5.symm,rfl⟩
 ·rintro⟨h1,h2,h3⟩;have q:t2=tx:=hT.toIsT.same hX.toIsT h3;subst q;exact⟨n,t0,nx,t2,rs,hA,hX,by rw[e,hl],h1.symm,h2.symm⟩
theorem LkS.of0{c:Ch}{box:Dig}{x:Lk}(h:∃n t0,IsA (verT c x.root) n t0/\x.hdr=firH t0/\x.ds=[]/\x.xs=[]):LkS c box 0 x:=⟨λ_=>h,λy h0=>absurd h0 Xn⟩
theorem firH_b(t0:T):W.agg 98 [.int .i64 0,.arr 32 1 (List.replicate 32 (.int .u8 (.ofNat 0))),dW (sumD t0),dW (tagD 0 []),.int .i64 0]=hdW (firH t0):=by
 rw[qJq];rfl
theorem csound_s(c:Ch)(hc:OkC c)(hn:c.tree.nodes.length<=200000)(box:Dig):PS cfg glK 26 [chG c,dW box] (.bool (decide (SoundC c box))):=by
 by_cases hm:MayC c
 ·skip
  refine gI 11 O (λR k0=>gC 0 O (zXq (w':=.int .i64 0) (j9q c hc) Yk) (gFa 0 O (gC 10 O (ceach_s _ _) (zcq 3 O ?_))));refine veq (encL c.links) (List.range c.links.length) (λi (_:Unit)=>∀j x,j<i->c.links[j]? =some x->LkS c box j x) (λ_=>R) (()) rfl Xk (ceach_it c.links false hc.len) (encL_ok c.links) (λj x hj=>by omega) rfl (λi a y hy hI=>?_) (λa hI=>?_)
  ·have hi:i<c.links.length:=by have:=qZq hy;simpa using this
   obtain rfl:i=y:=by rw[uLq hi] at hy;exact Option.some.inj hy
   obtain⟨x,hx⟩:∃x,c.links[i]? =some x:=⟨_,List.getElem?_eq_getElem hi⟩
   have hmx:=hm.link i x hx;have hB:=hc.body x (List.mem_of_getElem? hx);obtain⟨nx,tx,hX⟩:=hmx.tree;have e1:(x.ds.map pdW).length=x.ds.length:=List.length_map _;have e2:(x.xs.map txW).length=x.xs.length:=List.length_map _;have l1:=hmx.body.1;have l2:=hmx.body.2.1;have goes:LkS c box i x->∀j w,j<i+1->c.links[j]? =some w->LkS c box j w:=λhS j w hj hw=>by rcases Nat.lt_succ_iff_lt_or_eq.1 hj with q|rfl;exact hI j w q hw;exact Option.some.inj (hx.symm.trans hw)▸hS
   have hhe:=hmx.height;skip
   cases i with
   |zero=>
    rw[show encL c.links 0=[lkG x,lkZ] by unfold encL;rw[Yhq hx];rfl];refine zEq 10 O (xXq (zEq 7 O (gC 0 O (Zbq c.tree x.root) (gT 10 O (eqI_iff.2 (hhe)) (gC 6 O (QYq (verT c x.root) nx tx hX.toIsT) (gC 14 O (ZMq) (gV (w':=hdW (firH tx)) 0 O (firH_b tx) ?_)))))));refine gDe 0 O (k7q O O O O (eq_hd _ _)) (vCq ybq) (λh1=>?_) (λh1=>?_)
    ·have hno:¬SoundC c box:=λq=>by
      obtain⟨n',t',h1',h2',_⟩:=(q.sound 0 x hx).first rfl;obtain⟨_,rfl⟩:=hX.uniq h1';exact h1 h2'
     exact zcq 24 O (jxq Xi (zDq 2 O (gQ 0 O (utq hno))))
    ·refine gZ 4 O e1 (gZ 3 O e2 (gA 0 O (x.ds.length+x.xs.length) (gU 0 O ?_)));refine gS 3 O (λh2=>?_) (λh2=>?_)
     ·have hno:¬SoundC c box:=λq=>by
       obtain⟨n',t',_,_,h3',h4'⟩:=(q.sound 0 x hx).first rfl;rw[h3',h4'] at h2;exact absurd h2 Xn
      exact zcq 9 O (jxq Xi (zDq 2 O (gQ 0 O (utq hno))))
     ·exact zcq 5 O (uMq (()) (goes (LkS.of0 ⟨nx,tx,hX,Classical.not_not.1 h1,List.eq_nil_of_length_eq_zero Xd,List.eq_nil_of_length_eq_zero Xd⟩)) Xd Xx rfl)
   |succ k=>
    obtain⟨z,hz⟩:∃z,c.links[k]? =some z:=⟨_,List.getElem?_eq_getElem Xd⟩
    have hmz:=hm.link k z hz;obtain⟨nz,tz,hA⟩:=hmz.tree;have hhz:=hmz.height;have hl256:=hm.len;have snext:SoundC c box->NextS c box x z:=λq=>(q.sound (k+1) x hx).next z (Nat.succ_pos _) hz
    have hP:=apply_s (verT c z.root) nz tz hA z.hdr hmz.hdr Xd x.ds x.xs false false hB.dep hB.tx box ⟨l1,l2⟩ (by show c.tree.nodes.length+_+_<=_;omega);rw[show encL c.links (k+1)=[lkG x,lkG z] by unfold encL;rw[Yhq hx];show [lkG x,lkA c.links k]=_;rw[Yhq hz]];cases hst:doX box (doD tz.all x.ds).1 x.xs with
    |none=>
     have hno:¬SoundC c box:=λq=>nextS_none hA hst (snext q)
     have hb:=bad_no hst;refine zEq 10 O (xXq (zEq 7 O ?_));first|refine gC 0 O (Zbq c.tree _) ?_|refine gC 0 O (Zbq c.tree x.root) ?_
     refine gF 10 O (eqI_not.2 Xd) ?_;first|refine gC 11 O (Zbq c.tree _) ?_|refine gC 11 O (Zbq c.tree x.root) ?_
     refine gE 5 O ((Ycq hP λw h=>ap_none h hst)) ?_;rintro w hw rfl;exact gT 16 O (congrArg not (eqI_not.2 Xd)) (zcq 29 O (jxq Xi (zDq 2 O (gQ 0 O (utq hno)))))
    |some r=>
     obtain⟨l,rs⟩:=r;obtain⟨L,hL⟩:∃L,(doD tz.all x.ds).2++rs=L:=⟨_,rfl⟩
     have hrl:=vLq hst;have hdl:=vMq x.ds tz.all;simp only at hrl;have hLl:(L.map recI).length<=32:=by rw[List.length_map,<-hL,List.length_append];omega
     refine zEq 10 O (xXq (zEq 7 O ?_));first|refine gC 0 O (Zbq c.tree _) ?_|refine gC 0 O (Zbq c.tree x.root) ?_
     refine gF 10 O (eqI_not.2 Xd) ?_;first|refine gC 11 O (Zbq c.tree _) ?_|refine gC 11 O (Zbq c.tree x.root) ?_
     refine zcq 5 O ?_
     (refine ytq rfl (kJq O O O O O hP Xg ?_);rintro w hw hq;obtain⟨t',n',t1,hT,hgo,rfl⟩:=ap_some hq hst;refine⟨by first|rfl|kernel_rfl,?_⟩;have hiff:=nextS_some hA hst hT hgo.1 hX;rw[hL] at hiff⊢;rw[<-recI_w];generalize L.map recI=M at hiff hLl⊢)
     refine yTq 16 O (gFa 0 O ?_);refine gDe 4 O (k7q O O O O (eq_hd _ _)) (vCq ybq) (λh1=>?_) (λh1=>?_)
     ·have hno:¬SoundC c box:=λq=>h1 (hiff.1 (snext q)).1
      exact zcq 24 O (jxq Xi (zDq 2 O (gQ 0 O (utq hno))))
     ·skip
      refine gC 5 O (seqr_s M x.rs false false Xd) ?_;refine gB 0 O (λh2=>?_) (λh2=>?_)
      ·refine gC 5 O (calike_s hT.toIsT hX.toIsT) ?_;refine gS 4 O (λh3=>?_) (λh3=>?_)
       ·have hno:¬SoundC c box:=λq=>absurd h3 (by rw[decide_eq_true (hiff.1 (snext q)).2.2];decide)
        exact zcq 7 O (jxq Xi (zDq 2 O (gQ 0 O (utq hno))))
       ·have hN:NextS c box x z:=hiff.2 ⟨Classical.not_not.1 h1,h2,by simpa using h3⟩;exact zcq 2 O (uMq (()) (goes ⟨λh0=>absurd h0 Xd,λw _ hw=>Option.some.inj (hz.symm.trans hw)▸hN⟩) Xd Xx rfl)
      ·have hno:¬SoundC c box:=λq=>h2 (hiff.1 (snext q)).2.1
       exact zcq 18 O (jxq Xi (zDq 2 O (gQ 0 O (utq hno))))
  ·have yes:SoundC c box:=⟨hm,λj x hx=>hI j x (by have:=qZq hx;simpa using this) hx⟩;exact zDq 8 O (gQ 0 O (dec_t yes))
 ·skip
  exact gI 11 O (λR k0=>gC 0 O (zXq (w':=.int .i64 8) (j9q c hc) Qk) (gTa 0 O (gQ 10 O (utq λq=>hm q.toMayC))))
end
section
attribute [local irreducible] CoW OpW FlW Step Spec
attribute [local simp] qVq
open Classical in
noncomputable def heldL(t:Tree):List Pr:=if h:∃n t0,IsA t n t0 then h.choose_spec.choose.all else []
theorem heldL_is{t:Tree}{n:Nat}{t0:T}(h:IsA t n t0):heldL t=t0.all:=by
 have e:∃n t0,IsA t n t0:=⟨n,t0,h⟩
 unfold heldL;rw[dif_pos e,(h.uniq e.choose_spec.choose_spec).2]
structure CanAdd(c:Ch)(ds:List Depo)(xs:List Tx)(box:Dig):Prop where
 may:MayC c
 short:c.links.length<256
 many:ds.length<=16/\xs.length<=16
 goes:doX box (doD (heldL c.tree) ds).1 xs≠none
noncomputable instance(c:Ch)(ds:List Depo)(xs:List Tx)(box:Dig):Decidable (CanAdd c ds xs box):=Classical.propDecidable _
noncomputable def addE(c:Ch)(ds:List Depo)(xs:List Tx)(box:Dig):Nat:=
 if¬MayC c then 8 else if 256<=c.links.length then 9 else if 16<ds.length\/16<xs.length then 4 else badX box (doD (heldL c.tree) ds).1 xs
theorem addE_no{c:Ch}{ds:List Depo}{xs:List Tx}{box:Dig}(h:¬CanAdd c ds xs box):addE c ds xs box≠0:=by
 unfold addE;split
 ·decide
 ·split
  ·decide
  ·split
   ·decide
   ·rename_i h1 h2 h3;have:doX box (doD (heldL c.tree) ds).1 xs=none:=Classical.byContradiction λq=>h ⟨Classical.not_not.1 h1,by omega,by omega,q⟩
    have:=bad_no this;omega
def AddA(c:Ch)(ds:List Depo)(xs:List Tx)(box:Dig):W->Prop:=λw=>
 (CanAdd c ds xs box/\∃y t' t1 L,Adds c ds xs box y t' t1 L/\t'.nodes.length<=c.tree.nodes.length+21000/\w= .tup [chG (addC c t' (jrq y.hdr t1 L) ds xs L),.int .i64 0])\/(¬CanAdd c ds xs box/\w= .tup [noCh,.int .i64 (addE c ds xs box:Nat)])
noncomputable def addX(t':Tree)(h:Hdr)(ds:List Depo)(xs:List Tx)(L:List Rec):W:=.agg 102 [hdW h,.int .i64 t'.root,bodW ds xs false false,.fz (L.map recW) 34 false]
theorem addX_l(t':Tree)(h:Hdr)(ds:List Depo)(xs:List Tx)(L:List Rec):addX t' h ds xs L=lkG (addL t' h ds xs L):=by
 show addX t' h ds xs L= .agg 102 [hdW h,.int .i64 t'.root,bodW ds xs false false,.fz ((L.map recI).map rcW) 34 false];rw[recI_w];rfl
theorem cadd_s(c:Ch)(hc:OkC c)(hs:SmallC c)(hn:c.tree.nodes.length<=200000)(ds:List Depo)(xs:List Tx)(hB:BodOk ds xs)(box:Dig):PE cfg glK 38 [chG c,bodW ds xs false false,dW box] (AddA c ds xs box):=by
 have e:(c.links.map lkG).length=c.links.length:=List.length_map _;have refuse:∀k:Nat,¬CanAdd c ds xs box->addE c ds xs box=k->∀w,w=W.tup [noCh,.int .i64 (k:Int)] ->AddA c ds xs box w:=λk h1 h2 w h3=>.inr ⟨h1,by rw[h2];exact h3⟩
 by_cases hm:MayC c
 ·obtain⟨y,hy,hroot,hmy⟩:=hm.last;have hno:=hm.one;by_cases hf:c.links.length<256
  ·obtain⟨n,t0,hA,_⟩:=hm.head hy;have hh:=heldL_is hA;have hhy:=hmy.height;have hbk:MayBk c.tree y.hdr:=⟨⟨n,t0,hA⟩,hmy.hdr,by omega⟩;by_cases hmany:ds.length<=16/\xs.length<=16
   ·have hP:=apply_s c.tree n t0 hA y.hdr hmy.hdr Xd ds xs false false hB.dep hB.tx box hmany Xd;cases hst:doX box (doD t0.all ds).1 xs with
    |none=>
     have hb:=bad_no hst;have hP:=Ycq hP λw h=>ap_none h hst
     refine gIe 12 O (λR k0=>gC 0 O (YOq c hc hm hy) (gFa 13 O (gZ 8 O e (gF 0 O (eqI_not.2 Xd) (gE 14 O (hP) ?_)))));rintro w hw rfl;exact gT 17 O (congrArg not (eqI_not.2 Xd)) (zcq 13 O (yqq (w':=.tup [noCh,.int .i64 (badX box (doD t0.all ds).1 xs:Nat)]) Qt rfl (.pur rfl) rfl (refuse _ (λq=>q.goes (by rw[hh,hst])) (by unfold addE;rw[if_neg (λq=>q hm),if_neg Xd,if_neg Xd,hh]) _ rfl)))
    |some r=>
     obtain⟨l,rs⟩:=r;obtain⟨L,hL⟩:∃L,(doD t0.all ds).2++rs=L:=⟨_,rfl⟩
     have hrl:=vLq hst;have hdl:=vMq ds t0.all;simp only at hrl;have hLl:L.length<=32:=by rw[<-hL,List.length_append];omega
     have hca:CanAdd c ds xs box:=⟨hm,hf,hmany,by rw[hh,hst];intro q;cases q⟩;refine gIe 12 O (λR k0=>gC 0 O (YOq c hc hm hy) (gFa 13 O (gZ 8 O e (gF 0 O (eqI_not.2 Xd) (zcq 14 O ?_)))));skip
     refine gSo 0 O (kJq O O O O O hP Xg ?_);rintro w hw hq;obtain⟨t',n',t1,hT,hgo,rfl⟩:=ap_some hq hst;rw[hL];have hadd:Adds c ds xs box y t' t1 L:=⟨hm,hf,hy,hmany,⟨n,t0,n',rs,hA,hT,by rw[hst,hgo.1],hL.symm⟩,by obtain⟨ms,e1,_⟩:=hgo.2;exact⟨ms,e1⟩⟩;have hgrow:t'.nodes.length<=c.tree.nodes.length+21000:=by obtain⟨ms,e1,e2⟩:=hgo.2;rw[e1,List.length_append];omega
     have hz:=addX_l t' (jrq y.hdr t1 L) ds xs L;have ep:purL (c.links.map lkG++[addX t' (jrq y.hdr t1 L) ds xs L])=true:=by rw[hz];exact kiq (c.links++[addL t' (jrq y.hdr t1 L) ds xs L])▸by rw[List.map_append];rfl
     skip
     refine gFa 17 O (zcq 8 O ?_)
     (refine zqq rfl (step_twin c hs (λq=>by rw[q] at hno;cases hno) O O O O ?_))
     refine zeq 12 O (yoq O O O O O (by rw[<-hz];rfl) (clink_s (addL t' (jrq y.hdr t1 L) ds xs L) ⟨by show ds.length<=_;omega,by show xs.length<=_;omega,by show(L.map recI).length<=_;rw[List.length_map];omega⟩) ?_);rw[<-hz]
     refine zeq 11 O (gM 0 O (yRq O O (qcq (k:=ti118) (len:=c.links.length) (news:=[addX t' (jrq y.hdr t1 L) ds xs L]) (olds:=c.links.map lkG) O O O O (qfq O O O O) Xg (by show(c.links.length+1)*192<=_;omega) (by show c.links.length+1<=_;omega) rfl (by show c.links.length*102<0+(c.links.length+1)*102;omega) rfl (zpq Xn e.symm rfl))) (zcq 14 O ?_));have hmap:(c.links++[addL t' (jrq y.hdr t1 L) ds xs L]).map lkG=c.links.map lkG++[addX t' (jrq y.hdr t1 L) ds xs L]:=by rw[List.map_append,hz];rfl
     exact yqq (w':=.tup [.agg 3 [tW t',.fz (c.links.map lkG++[addX t' (jrq y.hdr t1 L) ds xs L]) 102 false],.int .i64 0]) Qt rfl (.tup (.cons (.agg (.cons (.pur (y0q t')) (.cons (.sl (full:=false) rfl ep (zpq Xn Xg rfl) Xi) .nil))) (.cons (.pur rfl) .nil))) (by show((purW (tW t')&&(purL _&&true))&&_)=true;rw[y0q,ep];rfl) (.inl ⟨hca,y,t',t1,L,hadd,hgrow,by rw[<-hmap];rfl⟩)
   ·have hpr:purW (refW 4)=true:=by
     show(purW noT&&(purW (hdW hdZ)&&(true&&(true&&true))))=true;rw[Ynq];rfl
    exact gIe 12 O (λR k0=>gC 0 O (YOq c hc hm hy) (gFa 13 O (gZ 8 O e (gF 0 O (eqI_not.2 Xd) (gC 14 O (apply_many c.tree y.hdr ds xs false false box Xd hbk Xd) (gTa 17 O (zcq 13 O (yqq (w':=.tup [noCh,.int .i64 (4:Nat)]) Qt rfl (.pur rfl) rfl (refuse 4 (λq=>hmany q.many) (by unfold addE;rw[if_neg (λq=>q hm),if_neg Xd,if_pos Xd]) _ rfl)))))))))
  ·have h256:=hm.len;exact gIe 12 O (λR k0=>gC 0 O (YOq c hc hm hy) (gFa 13 O (gZ 8 O e (gT 0 O (eqI_iff.2 Xd) (zcq 14 O (yqq (w':=.tup [noCh,.int .i64 (9:Nat)]) Qt rfl (.pur rfl) rfl (refuse 9 (λq=>hf q.short) (by unfold addE;rw[if_neg (λq=>q hm),if_pos Xd]) _ rfl)))))))
 ·skip
  exact gIe 12 O (λR k0=>gC 0 O (chead_no c hc hm) (gTa 13 O (zcq 15 O (yqq (w':=.tup [noCh,.int .i64 (8:Nat)]) Qt rfl (.pur rfl) rfl (refuse 8 (λq=>hm q.may) (by unfold addE;rw[if_pos hm]) _ rfl)))))
end
section
attribute [local irreducible] CoW OpW FlW Step Spec
variable {G:Nat->Option W}
def HeldB(ps:List Pr):Prop:=∀p∈ps,(jiq p.2).2=0
noncomputable instance(ps:List Pr):Decidable (HeldB ps):=Classical.propDecidable _
theorem mayA_iff{t:Tree}{n:Nat}{t0:T}(h:IsT t n t0):MayA t↔HeldB t0.all:=by
 constructor
 ·rintro⟨n',t',h'⟩;have hn:n=n':=by have:=h.root;have:=h'.root;omega
  subst hn;rw[h.rep.uniq h'.rep];exact h'.held
 ·exact λq=>⟨n,t0,h,q⟩
theorem mayp_srt{l:List Pr}(h:MayP l):Srt l:=by
 have key:∀n i j (hi:i<l.length) (hj:j<l.length),i+n+1=j->yHq l[i].1 l[j].1=true:=by
  intro n;induction n with
  |zero=>
   intro i j hi hj e;subst e;exact(h.2 (i+1) hj l[i+1] (List.getElem?_eq_getElem hj)).2 l[i] Xd (by show l[i+1-1]? =_;rw[Nat.add_sub_cancel];exact List.getElem?_eq_getElem hi)
  |succ n ih=>
   intro i j hi hj e;have h1:=ih i (j-1) hi Xd Xd;have h2:=(h.2 j hj l[j] (List.getElem?_eq_getElem hj)).2 l[j-1] Xd (List.getElem?_eq_getElem Xd);exact YWq h1 h2
 exact List.pairwise_iff_getElem.2 λi j hi hj hij=>key (j-i-1) i j hi hj Xd
theorem take_with{l:List Pr}(h:Srt l){i:Nat}{x:Pr}(hx:l[i]? =some x):xgq (l.take i) x.1 x.2=l.take (i+1):=by
 obtain⟨hi,ex⟩:=List.getElem?_eq_some_iff.1 hx
 have hp:∀p∈l.take i,yHq p.1 x.1=true:=λp hp=>by
  obtain⟨j,hj⟩:=List.getElem?_of_mem hp;obtain⟨hj1,hj2⟩:=List.getElem?_eq_some_iff.1 hj;rw[List.length_take] at hj1;rw[List.getElem_take] at hj2;rw[<-hj2,<-ex];exact List.pairwise_iff_getElem.1 h j i Xd hi Xd
 unfold xgq;rw[List.filter_eq_self.2 hp,List.filter_eq_nil_iff.2 λp q=>by rw[jZq (hp p q)];simp,List.take_add_one,hx];rfl
def okB(l:List Pr):Prop:=MayP l/\HeldB l
noncomputable instance(l:List Pr):Decidable (okB l):=Classical.propDecidable _
end
section
attribute [local irreducible] CoW OpW FlW Step Spec
noncomputable def newL(t:Tree)(t0:T):Lk:=⟨firH t0,t.root,[],[],[]⟩
noncomputable abbrev newX(t:Tree)(t0:T):W:=.agg 102 [hdW (firH t0),.int .i64 t.root,.agg 2 [.fz [] 34 false,.fz [] 99 false],.fz [] 34 false]
noncomputable def newC(t:Tree)(t0:T):Ch:=⟨t,[newL t t0]⟩
def ChNA(l:List Pr):W->Prop:=λw=>(¬okB l/\w= .tup [noCh,.int .i64 8])\/(okB l/\∃t n t0,IsA t n t0/\t0.all=l/\t.nodes.length<=257*l.length/\w= .tup [chG (newC t t0),.int .i64 0])
theorem cnew_s(l:List Pr)(f:Bool)(hb:l.length<=1000000000):PE cfg glK 124 [.fz (l.map pW) 33 f] (ChNA l):=by
 by_cases hm:MayP l
 ·have hs:=mayp_srt hm;have e:(l.map pW).length=l.length:=List.length_map _;have h512:=hm.1;refine gIe 10 O (λR k0=>gC 0 O (zXq (w':=.int .i64 0) (Zpq l f Xd) Yk) (gV (w':=.int .i64 (l.length:Int)) 21 O Xv (zcq 4 O (co_ent (ent_blkv (b:=1) (w':=tW ⟨[],0⟩) rfl (.agg (.cons .nilfz (.cons (.pur rfl) .nil)))) ?_))));refine j8q (α:=Nat×Tree×T) (λp=>p.1<=l.length/\(∃n,IsT p.2.1 n p.2.2)/\p.2.2.all=l.take p.1/\p.2.1.nodes.length<=257*p.1) (λp=>[(22,.int .i64 (p.1:Int))]) [(2,_),(3,_),(5,_),(20,_),(21,_)] (λp=>[(1,24,tW p.2.1),(0,27,noCh)]) (λp=>l.length-p.1) ((0,⟨[],0⟩,.nil)) ⟨rfl,rfl,rfl,rfl,rfl,trivial⟩ (⟨Nat.zero_le _,⟨0,by show(0:Nat)<=_;omega,λi x h=>by simp at h,rfl,.nil,rfl⟩,rfl,Nat.le_refl _⟩) ⟨rfl,trivial⟩ (rfl) (λp hI=>?_);obtain⟨i,t,t0⟩:=p;obtain⟨g1,⟨n,g2⟩,g3,g4⟩:=hI;simp only at g1 g2 g3 g4⊢;refine zEq 6 O ?_;refine gS 0 O (λh1=>?_) (λh1=>?_)
  ·have hi:i<l.length:=by omega
   obtain⟨x,hx⟩:∃x,l[i]? =some x:=⟨_,List.getElem?_eq_getElem hi⟩
   have hv:MayP [(x.1,x.2)]:=(mayp_val x.1 x.2).2 (hm.2 i hi x hx).1;refine gP 6 O (ymq (i:=i) O O O O O O O (zKq pW hx)) (gE 12 O (tput_s t n t0 x.1 x.2 false g2 hv Xd) ?_);rintro w hw ⟨t',n',ht',⟨ms,hms,hml⟩,rfl⟩;refine gFa 12 O (gA 12 O (i+1) (zcq 2 O ?_));have hall:(t0.put x.1 x.2 256).all=l.take (i+1):=by rw[(jyq x.1 x.2 256 t0 (d:=0) (b:=yzq) rfl qQq g2.ok (Nat.zero_le _)).2,g3];exact take_with hs hx
   exact q_againH ((i+1,t',t0.put x.1 x.2 256)) (⟨hi,⟨n',ht'⟩,hall,by show t'.nodes.length<=_;rw[hms,List.length_append];omega⟩) Ya (Nat.zero_le _) ⟨rfl,trivial⟩ ⟨rfl,rfl,rfl,rfl,rfl,trivial⟩ Xh Xh Xd Xl Ye
  ·have hi:i=l.length:=by omega
   have hall:t0.all=l:=by rw[g3,hi,List.take_length]
   have hiff:=mayA_iff g2;rw[hall] at hiff;by_cases hh:HeldB l
   ·skip
    have hA:MayA t:=hiff.2 hh;obtain⟨n2,t2,hA2⟩:=hA;refine zcq 2 O (qmq Xi (zDq 6 O (gC 0 O (zXq (w':=.int .i64 0) (qgq t Xd) (by rw[if_pos ⟨n2,t2,hA2⟩])) (gFa 6 O (gC 8 O (QYq t n t0 g2) (gC 11 O ZMq (gV (w':=hdW (firH t0)) 0 O (by show W.agg 98 [_,W.arr 32 1 (List.replicate 32 (.int .u8 (.ofNat 0))),_,_,_]=_;rw[qJq];rfl) (zcq 18 O ?_))))))));refine yqq (w':=.tup [.agg 3 [tW t,.fz [newX t t0] 102 false],.int .i64 0]) Qt rfl (.tup (.cons (.agg (.cons (.pur Xg) (.cons (.sl2 (full:=false) (c':=newX t t0) (xs:=[newX t t0]) rfl (.agg (.cons (.pur (Ynq _)) (.cons (.pur rfl) (.cons (.agg (.cons .nilfz (.cons .nilfz .nil))) (.cons .nilfz .nil))))) rfl Xi) .nil))) (.cons (.pur rfl) .nil))) Yt (.inr ⟨⟨hm,hh⟩,t,n,t0,?_,hall,by rw[<-hi];exact g4,rfl⟩);exact⟨g2,by rw[hall];exact hh⟩
   ·exact zcq 2 O (qmq Xi (zDq 6 O (gC 0 O (zXq (w':=.int .i64 8) (qgq t Xd) (by rw[if_neg (λq=>hh (hiff.1 q))])) (gTa 6 O (zcq 13 O (yqq (w':=.tup [noCh,.int .i64 8]) Qt rfl (.pur rfl) rfl (.inl ⟨λq=>hh q.2,rfl⟩)))))))
 ·skip
  exact gIe 10 O (λR k0=>gC 0 O (zXq (w':=.int .i64 8) (Zpq l f Xd) Qk) (zcq 20 O (yqq (w':=.tup [noCh,.int .i64 8]) Qt rfl (.pur rfl) rfl (.inl ⟨λq=>hm q.1,rfl⟩))))
theorem newC_is{t:Tree}{n:Nat}{t0:T}(h:IsA t n t0)(box:Dig):SoundC (newC t t0) box:=by
 refine⟨⟨by simp[newC],by simp[newC],λx e=>by cases e;rfl,λi x e=>?_⟩,λi x e=>?_⟩
 ·have hi:=qZq e;obtain rfl:i=0:=by simp[newC] at hi;exact hi
  cases e;exact⟨rfl,⟨by show(0:Int)<=0;decide,by show(0:Int)<=1073741824;decide,by show(0:Int)<=0;decide,by show(0:Int)<=256;decide⟩,λy h0=>absurd h0 Xn,rfl,⟨Nat.zero_le _,Nat.zero_le _,λx h=>by cases h⟩,n,t0,h⟩
 ·have hi:=qZq e;obtain rfl:i=0:=by simp[newC] at hi;exact hi
  cases e;exact LkS.of0 ⟨n,t0,h,rfl,rfl,rfl⟩
section
variable {c:Ch} {ds:List Depo} {xs:List Tx} {box:Dig} {y:Lk} {t':Tree} {t1:T} {L:List Rec}
theorem Adds.tree(h:Adds c ds xs box y t' t1 L):∃n,IsA t' n t1:=by
 obtain⟨n,t0,n1,rs,h1,h2,_⟩:=h.is;exact⟨n1,h2⟩
theorem Adds.few(h:Adds c ds xs box y t' t1 L):L.length<=32:=by
 obtain⟨n,t0,n1,rs,h1,h2,h3,rfl⟩:=h.is;have e1:=vLq h3;simp only at e1;have:=vMq ds t0.all;have:=h.many;rw[List.length_append];omega
theorem Adds.okc(h:Adds c ds xs box y t' t1 L)(hc:OkC c)(hB:BodOk ds xs)(g:Hdr):OkC (addC c t' g ds xs L):=by
 obtain⟨n,hT⟩:=h.tree;have hl:=hT.len;have hs:=h.short;have hf:=h.few;refine⟨λx hx=>?_,by show t'.nodes.length<=_;omega,by show(c.links++[_]).length<=_;rw[List.length_append];show _+1<=_;omega,λx hx=>?_⟩
 ·rcases List.mem_append.1 hx with q|q
  ·exact hc.body x q
  ·rw[List.mem_singleton.1 q];exact hB
 ·rcases List.mem_append.1 hx with q|q
  ·exact hc.recs x q
  ·rw[List.mem_singleton.1 q];show(L.map recI).length<=_;rw[List.length_map];omega
theorem Adds.smallc(h:Adds c ds xs box y t' t1 L)(hs:SmallC c)(g:Hdr):SmallC (addC c t' g ds xs L):=by
 obtain⟨n,hT⟩:=h.tree;have hl:=hT.len;have hsh:=h.short;have hf:=h.few;have hm:=h.many;refine⟨by show t'.nodes.length<=_;omega,IsT.vals (root:=t'.root) hT.toIsT,by show(c.links++[_]).length<=_;rw[List.length_append];show _+1<=_;omega,λx hx=>?_⟩;rcases List.mem_append.1 hx with q|q
 ·exact hs.link x q
 ·rw[List.mem_singleton.1 q];refine⟨by show ds.length<=_;omega,by show xs.length<=_;omega,?_⟩;show(L.map recI).length<=_;rw[List.length_map];omega
end
theorem OkC.cut{c:Ch}(hc:OkC c)(i:Nat)(x:Lk):OkC (cutC c i x):=
 ⟨λy hy=>hc.body y (List.mem_of_mem_take hy),hc.nodes,by have:=hc.len;show(c.links.take _).length<=_;rw[List.length_take];omega,λy hy=>hc.recs y (List.mem_of_mem_take hy)⟩
theorem greatc_small{c:Ch}{n:Nat}(hn:n<=1000)(h:¬Y1q c n):SmallC c:=by
 obtain⟨h1,h2,h3⟩:=greatc_no h;refine⟨by omega,λx hx=>?_,by omega,λx hx=>?_⟩
 ·obtain⟨j,hj⟩:=List.getElem?_of_mem hx;have:=qZq hj;refine Nat.le_of_not_lt λq=>h (.inl (.inr ⟨j,x,by omega,hj,by omega⟩))
 ·obtain⟨k1,k2⟩:=h3 x hx;unfold yDq at k1;omega
theorem newC_ok{t:Tree}{n:Nat}{t0:T}(h:IsA t n t0):OkC (newC t t0)/\SmallC (newC t t0):=by
 have hl:=h.len;refine⟨⟨λx hx=>?_,by show t.nodes.length<=_;omega,by show 1<=_;decide,λx hx=>?_⟩,⟨by show t.nodes.length<=_;omega,IsT.vals (root:=t.root) h.toIsT,by show 1<=_;decide,λx hx=>?_⟩⟩;all_goals rw[List.mem_singleton.1 hx]
 ·exact⟨(λd h=>by cases h),(λd h=>by cases h),Nat.zero_le _,Nat.zero_le _⟩
 ·exact Nat.zero_le _
 ·exact⟨Nat.zero_le _,Nat.zero_le _,Nat.zero_le _⟩
theorem okB_nil:okB []:=⟨⟨by decide,λi hi x h=>by cases h⟩,λp h=>by cases h⟩
theorem bodN:BodOk [] []:=⟨(λd h=>by cases h),(λd h=>by cases h),Nat.zero_le _,Nat.zero_le _⟩
end
section
attribute [local irreducible] CoW OpW FlW Step Spec
variable {G:Nat->Option W}
def SameK(x y:Lk):Prop:=x.hdr=y.hdr/\(x.ds=y.ds/\x.xs=y.xs)/\x.rs=y.rs
noncomputable instance(x y:Lk):Decidable (SameK x y):=Classical.propDecidable _
end
end
end Go.Proofs.YtfliaigjcadegabGreatDoor

/-
  What the proof of BlockApplies stands on, part 8. No condition.
-/
import Derived.Test.YtjmekaoadfmkfaaGreatDoorZBlockAppliesG
set_option linter.unusedSimpArgs false
set_option linter.unusedVariables false
namespace Go.Proofs.YtjmekaoadfmkfaaGreatDoor
section
open Go.RowKit
section
attribute [local irreducible] CoW OpW FlW Step Spec
variable {G:Nat->Option W}
theorem Ywq(l:List UInt8)(f:Bool)(hl:l.length<=70368744177664):PS cfg G 90 [.fz (zdq l) 1 f] (bW l):=by
 refine q7q (fn:=Tryz.f90) O O O (Ob rfl) (fun R k0=>?_);cases l with
 |nil=>
  skip
  refine zjq 14 O ?_;refine znq rfl (yoq O O (Ygq O O O O O)) ?_;refine zaq 4 O ?_;refine jrq Xx O ?_
  (repeat (first|exact .nil|refine .cons ?_ ?_|exact jBq|exact .nilfz|refine .fn ?_ ?_|(refine y9q O ?_ rfl;(first|rfl|(focus (simp;done))))|(refine .sl O ?_ rfl Xj;(first|rfl|(focus (simp;done))))|(refine .pur ?_;(first|rfl|(focus (simp;done))))|(refine .fzw ?_;(first|rfl|(focus (simp;done))))|refine .agg ?_|refine .arr ?_|refine .tup ?_))
 |cons c l=>
  simp only[List.length_cons] at hl;refine zjq 14 O ?_;refine znq rfl (yoq O O (kNq (news:=zdq (c::l)) (k:=ti5) O O O O O Ql (by show(zdq (c::l)).length*1<=_;rw[ziq];simp only[List.length_cons];omega) (by rw[ziq];simp only[List.length_cons];omega))) ?_;refine zaq 4 O ?_;refine jrq Xx O ?_;exact view_sl Xq rfl Xk
@[simp] theorem psW_drop(ps:List Pr)(i:Nat):purL ((ps.map pW).drop i)=true:=by rw[<-List.map_drop];exact kcq _
@[simp] theorem psW_take(ps:List Pr)(i:Nat):purL ((ps.map pW).take i)=true:=by rw[<-List.map_take];exact kcq _
theorem rptwin_s(ps:List Pr)(f:Bool)(hb:ps.length<=1000000000)(hv:∀x∈ps,x.2.length<=70368744177664):PS cfg G 288 [.fz (ps.map pW) 33 f] (psW ps):=by
 have e:(ps.map pW).length=ps.length:=List.length_map _;refine q7q (fn:=Tryz.f288) O O O (Ob rfl) (fun R k0=>?_);refine zjq 17 O ?_;refine uHq (α:=Nat) (fun i=>i<=ps.length) 3 (fun i=>(ps.take i).map pW) 185 33 (fun i=>[(4,.int .i64 (i:Int))]) [(0,_),(2,_)] _ (fun i=>ps.length-i) (0) ⟨rfl,rfl,trivial⟩ (Nat.zero_le _) ⟨rfl,trivial⟩ O O O (fun i hI=>?_);refine zjq 5 O ?_;refine zgq (w':=.int .i64 (ps.length:Int)) O O Xy ?_;refine zaq 3 O ?_;refine zyq rfl (fun h1=>?_) (fun h1=>?_)
 ·have hi:i<ps.length:=by omega
  obtain⟨x,hx⟩:∃x,ps[i]? =some x:=⟨_,List.getElem?_eq_getElem hi⟩
  have hxv:=hv x (List.mem_of_getElem? hx);refine zeq 8 O ?_;refine zcq rfl (zBq (i:=i) O O O O O O O (zYq pW hx)) ?_;refine zoq 4 O ?_;refine zcq rfl (zBq (i:=i) O O O O O O O (zYq pW hx)) ?_;refine zoq 2 O ?_;refine yxq O O O O O O (Ywq _ _ (by first|assumption|omega)) ?_;refine zoq 2 O ?_;refine yqq rfl (yoq O O (jPq [_] (k:=ti185) (news:=[pW x]) O O O O O (ymq O O O O) Xk (by show(((ps.take i).map pW).length+1)*56<=_;simp;omega) (by show((ps.take i).map pW).length+1<=_;simp;omega) rfl Xk)) (evs_G Xr Xr) ?_;refine zoq 6 O ?_;refine zlq (i+1) O O Xi ⟨by omega,by omega⟩ ?_;refine yyq 2 O ?_;exact jEq 2 (i+1) (hi) Xd (Nat.zero_le _) (by rw[List.take_add_one,hx,List.map_append];rfl) Ya Xd Yn rfl Yc ⟨rfl,trivial⟩ ⟨rfl,rfl,trivial⟩ Xg Xg rfl Xn Xo Yj
 ·have hi:i=ps.length:=by omega
  subst hi;refine zeq 2 O ?_;refine qoq Xj ?_;refine zCq 9 O ?_;refine jrq Xx O ?_;rw[List.take_length];exact x1q (H0:=[]) Xq (kcq _) Xk
def idxP(ps:List Pr)(k:Dig):Int:=match ps.findIdx? (fun p=>decide (p.1=k)) with
 |some i=>i
 |none=>-1
theorem rfind_s(ps:List Pr)(f:Bool)(k:Dig)(hb:ps.length<=1000000000):PS cfg G 253 [.fz (ps.map pW) 33 f,dW k] (.int .i64 (idxP ps k)):=by
 have e:(ps.map pW).length=ps.length:=List.length_map _;refine zFq (fn:=Tryz.f253) O O O (Ob rfl) (fun R k0=>?_);refine zjq 13 O ?_;refine yEq (α:=Nat) (fun i=>i<=ps.length/\∀j x,j<i->ps[j]? =some x->x.1≠k) (fun i=>[(5,.int .i64 (i:Int))]) [(0,_),(3,_),(4,_)] (fun i=>ps.length-i) (0) ⟨rfl,rfl,rfl,trivial⟩ (⟨Nat.zero_le _,fun j x h=>by omega⟩) ⟨rfl,trivial⟩ (fun i hI=>?_);obtain⟨g1,g2⟩:=hI;refine zjq 5 O ?_;refine zgq (w':=.int .i64 (ps.length:Int)) O O Xy ?_;refine zaq 3 O ?_;refine zyq rfl (fun h1=>?_) (fun h1=>?_)
 ·have hi:i<ps.length:=by omega
  obtain⟨x,hx⟩:∃x,ps[i]? =some x:=⟨_,List.getElem?_eq_getElem hi⟩
  refine zeq 8 O ?_;refine zcq rfl (zBq (i:=i) O O O O O O O (zYq pW hx)) ?_;refine zoq 3 O ?_;refine Y1q rfl (q3q O O O O (qlq O O O O O O _ _ 250)) yPq ?_;refine zoq 2 O ?_;refine zyq rfl (fun h2=>?_) (fun h2=>?_)
  ·refine zeq 9 O ?_;refine z3q Xj ?_;refine zCq 2 O ?_;refine zhq (.inr rfl) O ?_
   have:ps.findIdx? (fun p=>decide (p.1=k))=some i:=by
    rw[List.findIdx?_eq_some_iff_getElem];refine⟨hi,?_,fun j hj=>?_⟩
    ·have:=(List.getElem?_eq_some_iff.1 hx).2;rw[this];exact decide_eq_true h2
    ·simp only[decide_eq_true_eq];exact g2 j _ hj (List.getElem?_eq_getElem Xd)
   unfold idxP;rw[this]
  ·refine zeq 5 O ?_;refine zlq (i+1) O O Xi ⟨by omega,by omega⟩ ?_;refine yyq 2 O ?_;exact z5q (i+1) (⟨hi,fun j y hj hy=>by rcases Nat.lt_succ_iff_lt_or_eq.1 hj with q|rfl;exact g2 j y q hy;have:=Option.some.inj (hx.symm.trans hy);subst this;exact h2⟩) Xd ⟨rfl,trivial⟩ ⟨rfl,rfl,rfl,trivial⟩ Xg Xd Xm rfl
 ·refine zeq 2 O ?_;refine z3q Xj ?_;refine zCq 8 O ?_;refine zhq (.inr rfl) O ?_
  have:ps.findIdx? (fun p=>decide (p.1=k))=none:=by
   rw[List.findIdx?_eq_none_iff];intro x hx;obtain⟨j,hj⟩:=List.getElem?_of_mem hx;have:=(List.getElem?_eq_some_iff.1 hj).1;exact decide_eq_false (g2 j x Xd hj)
  unfold idxP;rw[this]
theorem ZFq(ps:List Pr)(k:Dig){i:Nat}{x:Pr}(hx:ps[i]? =some x):zKq (ps.take (i+1)) k=if x.1=k then zKq (ps.take i) k else zKq (ps.take i) k++[x]:=by
 unfold zKq;rw[List.take_add_one,hx];simp only[Option.toList_some,List.filter_append];split
 ·rename_i h;simp[h]
 ·rename_i h;simp[h]
theorem without_len(ps:List Pr)(k:Dig)(i:Nat):(zKq (ps.take i) k).length<=ps.length:=Nat.le_trans (List.length_filter_le _ _) Xu
theorem Q4q(ps:List Pr)(f:Bool)(k:Dig)(hb:ps.length<=1000000000)(hv:∀x∈ps,x.2.length<=70368744177664):PS cfg G 271 [.fz (ps.map pW) 33 f,dW k] (psW (zKq ps k)):=by
 have e:(ps.map pW).length=ps.length:=List.length_map _;have hb':(zKq ps k).length<=1000000000:=Nat.le_trans (List.length_filter_le _ _) hb;have hv':∀x∈zKq ps k,x.2.length<=70368744177664:=fun x hx=>hv x (mem_withoutL.1 hx).1
 refine q7q (fn:=Tryz.f271) O O O (Ob rfl) (fun R k0=>?_);refine zjq 18 O ?_;refine uHq (α:=Nat) (fun i=>i<=ps.length) 5 (fun i=>(zKq (ps.take i) k).map pW) 185 33 (fun i=>[(6,.int .i64 (i:Int))]) [(0,_),(3,_),(4,_)] _ (fun i=>ps.length-i) (0) ⟨rfl,rfl,rfl,trivial⟩ (Nat.zero_le _) ⟨rfl,trivial⟩ O O O (fun i hI=>?_);have hl:=without_len ps k i;refine zjq 5 O ?_;refine zgq (w':=.int .i64 (ps.length:Int)) O O Xy ?_;refine zaq 3 O ?_;refine zyq rfl (fun h1=>?_) (fun h1=>?_)
 ·have hi:i<ps.length:=by omega
  obtain⟨x,hx⟩:∃x,ps[i]? =some x:=⟨_,List.getElem?_eq_getElem hi⟩
  refine zeq 8 O ?_;refine zcq rfl (zBq (i:=i) O O O O O O O (zYq pW hx)) ?_;refine zoq 3 O ?_;refine Y1q rfl (jaq O O O O (qlq O O O O O O _ _ 250)) (jTq yPq) ?_;refine zoq 2 O ?_;refine zyq rfl (fun h2=>?_) (fun h2=>?_)
  ·refine zeq 4 O ?_;refine zbq rfl (zBq (i:=i) O O O O O O O (zYq pW hx)) ?_;refine zaq 2 O ?_;refine znq rfl (yoq O O (jPq [_,_] (k:=ti185) (news:=[pW x]) O O O O O (ymq O O O O) Xk (by show(((zKq (ps.take i) k).map pW).length+1)*56<=_;rw[List.length_map];omega) (by show((zKq (ps.take i) k).map pW).length+1<=_;rw[List.length_map];omega) rfl Xk)) ?_;refine zaq 6 O ?_;refine zlq (i+1) O O Xi ⟨by omega,by omega⟩ ?_;refine yyq 2 O ?_;exact jEq 3 (i+1) (hi) Xd (Nat.zero_le _) (by rw[ZFq ps k hx,if_neg h2,List.map_append];rfl) Ya Xd Yn rfl Yc ⟨rfl,trivial⟩ ⟨rfl,rfl,rfl,trivial⟩ Xg Xg rfl Xn Xo Yj
  ·have hxk:x.1=k:=by simpa using h2
   refine zeq 5 O ?_;refine zlq (i+1) O O Xi ⟨by omega,by omega⟩ ?_;refine yyq 2 O ?_;exact q_againG0 (i+1) (hi) Xd (Nat.zero_le _) (by rw[ZFq ps k hx,if_pos hxk]) rfl ⟨rfl,trivial⟩ ⟨rfl,rfl,rfl,trivial⟩ Xg Xg rfl Xn Xo Yj Xd
 ·have hi:i=ps.length:=by omega
  subst hi;rw[List.take_length];refine zeq 2 O ?_;refine qoq Xj ?_;refine zCq 4 O ?_;refine khq (fun _=>ent_frzA (fr2:=[(5,psW (zKq ps k))]) ⟨⟨_,rfl,x1q (H0:=[(0,26,dW k)]) Xq (kcq _) Xk⟩,trivial⟩) ?_;refine zbq O O ?_
  refine zkq O O O O O O (rptwin_s _ _ Xv Xv) ?_;refine zaq 4 O ?_;refine jrq Xx O ?_
  (repeat (first|exact .nil|refine .cons ?_ ?_|exact jBq|exact .nilfz|refine .fn ?_ ?_|(refine y9q O ?_ rfl;(first|rfl|(focus (simp;done))))|(refine .sl O ?_ rfl Xj;(first|rfl|(focus (simp;done))))|(refine .pur ?_;(first|rfl|(focus (simp;done))))|(refine .fzw ?_;(first|rfl|(focus (simp;done))))|refine .agg ?_|refine .arr ?_|refine .tup ?_))
def withR(l:List Pr)(k:Dig)(v:List UInt8):List Pr:=(zKq l k).takeWhile (fun p=>z2q p.1 k)++(k,v)::(zKq l k).dropWhile (fun p=>z2q p.1 k)
theorem Q0q{α:Type}{p:α->Bool}:∀{l:List α} {n:Nat},n<=l.length->(∀j x,j<n->l[j]? =some x->p x=true) ->(∀x,l[n]? =some x->p x=false) ->l.takeWhile p=l.take n/\l.dropWhile p=l.drop n
 |[],n,h,_,_=>by simp at h;subst h;simp
 |x::l,0,_,_,h=>by have:=h x rfl;simp[this]
 |x::l,n+1,h,h1,h2=>by
  have hx:=h1 0 x Xd rfl;obtain⟨q1,q2⟩:=Q0q (l:=l) (n:=n) (by simpa using h) (fun j y hj hy=>h1 (j+1) y Xd (by simpa using hy)) (fun y hy=>h2 y (by simpa using hy));simp[hx,q1,q2]
theorem rwith_s(ps:List Pr)(f g:Bool)(k:Dig)(v:List UInt8)(hb:ps.length<=1000000)(hv:∀x∈ps,x.2.length<=70368744177664)(hw:v.length<=70368744177664):PS cfg G 272 [.fz (ps.map pW) 33 f,dW k,.fz (zdq v) 1 g] (psW (withR ps k v)):=by
 have hb2:ps.length<=1000000000:=by omega
 obtain⟨rs,hrs⟩:∃rs,rs=zKq ps k:=⟨_,rfl⟩
 have hl:rs.length<=1000000:=by rw[hrs];exact Nat.le_trans (List.length_filter_le _ _) hb
 have e:(rs.map pW).length=rs.length:=List.length_map _;refine q7q (fn:=Tryz.f272) O O O (Ob rfl) (fun R k0=>?_);refine zjq 10 O ?_;refine zkq O O O O O O (yrq (w':=psW rs) (Q4q ps f k hb2 hv) (by rw[hrs])) ?_;refine zaq 10 O ?_;refine yEq (α:=Nat) (fun n=>n<=rs.length/\∀j x,j<n->rs[j]? =some x->z2q x.1 k=true) (fun n=>[(8,.int .i64 (n:Int))]) [(2,_),(4,_),(6,_),(7,_)] (fun n=>rs.length-n) (0) ⟨rfl,rfl,rfl,rfl,trivial⟩ (⟨Nat.zero_le _,fun j x h=>by omega⟩) ⟨rfl,trivial⟩ (fun n hI=>?_);obtain⟨g1,g2⟩:=hI;have el:((rs.take n).map pW).length=n:=by simp;omega
 have rest:(∀x,rs[n]? =some x->z2q x.1 k=false) ->withR ps k v=rs.take n++(k,v)::rs.drop n:=fun h=>by
  obtain⟨q1,q2⟩:=Q0q g1 g2 h;unfold withR;rw[<-hrs,q1,q2]
 refine zjq 5 O ?_;refine jwq (w':=.int .i64 (rs.length:Int)) O O Xy ?_;refine fl_dz O O (fun h1=>?_) (fun h1=>?_)
 ·have hn:n<rs.length:=by omega
  obtain⟨x,hx⟩:∃x,rs[n]? =some x:=⟨_,List.getElem?_eq_getElem hn⟩
  refine zoq 3 O ?_;refine zcq rfl (zBq (i:=n) O O O O O O O (zYq pW hx)) ?_;refine zoq 3 O ?_;refine yxq O O O O O O (rahead_s _ _) ?_;refine zoq 3 O ?_;refine zyq rfl (fun h2=>?_) (fun h2=>?_)
  ·refine zeq 5 O ?_;refine zlq (n+1) O O Xi ⟨by omega,by omega⟩ ?_;refine zaq 3 O ?_;exact z5q (n+1) (⟨hn,fun j y hj hy=>by rcases Nat.lt_succ_iff_lt_or_eq.1 hj with q|rfl;exact g2 j y q hy;have:=Option.some.inj (hx.symm.trans hy);subst this;exact h2⟩) Xd ⟨rfl,trivial⟩ ⟨rfl,rfl,rfl,rfl,trivial⟩ Xg Xd Xm rfl
  ·have hno:∀y,rs[n]? =some y->z2q y.1 k=false:=fun y hy=>by
    have:=Option.some.inj (hx.symm.trans hy);subst this;simpa using h2
   refine zeq 2 O ?_;refine z3q Xj ?_;refine zCq 9 O ?_;refine khq (fun _=>unq (fr2:=[(2,.fz (zdq v) 1 g),(4,.ptr 0 0),(7,psW rs),(8,.int .i64 (n:Int)),(9,gW 1 33 [])]) ⟨rfl,rfl,rfl,rfl,rfl,trivial⟩) ?_;refine zbq O O ?_
   refine zaq 2 O ?_;refine zbq rfl (xbq (ys:=(rs.take n).map pW) (l:=0) (h:=n) O O O O O O O (Nat.zero_le _) (by rw[e];exact g1) (by rw[List.drop_zero,List.map_take];rfl) rfl) ?_;refine Znq (b:=1) (xs:=[]) (news:=(rs.take n).map pW) (k:=ti185) (H0:=[(0,26,dW k)]) [_] [(2,.fz (zdq v) 1 g),(4,.ptr 0 0),(7,psW rs),(8,.int .i64 (n:Int))] O O O O O O O O O O O (by show(0+((rs.take n).map pW).length)*56<=_;omega) (by show 0+((rs.take n).map pW).length<=_;omega) rfl Xk Xd Xd ⟨rfl,rfl,rfl,rfl,trivial⟩ rfl ⟨zfq Xk,rfl,zfq Xk,rfl,trivial⟩ Xk ⟨⟨by omega,rfl,zfq Xk⟩,trivial⟩ Xk ?_;refine zaq 8 O ?_;refine yxq O O O O O O (Ywq _ _ (by first|assumption|omega)) ?_;refine zoq 2 O ?_;refine yqq rfl (yoq O O (jPq [_,_] (k:=ti185) (news:=[pW (k,v)]) O O O O O (ymq O O O O) Xk (by show(((rs.take n).map pW).length+1)*56<=_;omega) (by show((rs.take n).map pW).length+1<=_;omega) rfl Xk)) (evs_G Xr Xr) ?_;refine zoq 5 O ?_;refine khq (fun _=>q0q (b:=1) (H0:=[(0,26,dW k)]) (fr2:=[(4,.ptr 0 0),(7,psW rs),(8,.int .i64 (n:Int))]) 3 9 Xd Xd Xd Xk O O ⟨rfl,rfl,rfl,trivial⟩ ⟨rfl,zfq Xk,rfl,trivial⟩ rfl Xk ⟨⟨by omega,rfl,zfq Xk⟩,trivial⟩ Xk) ?_;refine zbq O O ?_
   refine zaq 2 O ?_;refine zbq rfl (xbq (ys:=(rs.drop n).map pW) (l:=n) (h:=(rs.map pW).length) O O O O O O O (by rw[e];exact g1) (Nat.le_refl _) (by rw[List.take_of_length_le Xk,List.map_drop]) rfl) ?_;refine Znq (b:=1) (news:=(rs.drop n).map pW) (k:=ti185) (H0:=[(0,26,dW k)]) [_] [] O O O O O O O O O O O Qs Qw rfl Xk Xd Xd trivial rfl trivial Xk ⟨⟨by omega,rfl,zfq Xk⟩,trivial⟩ Xk ?_;refine zaq 4 O ?_;refine jrq Xx O ?_;rw[rest Xv];have:=x1q (b:=1) (e:=33) (ty:=185) (l:=(rs.take n).map pW++[pW (k,v)]++(rs.drop n).map pW) (H0:=[(0,26,dW k)]) Xq Xk Xk;unfold psW;rw[show(rs.take n++(k,v)::rs.drop n).map pW=(rs.take n).map pW++[pW (k,v)]++(rs.drop n).map pW by simp];exact this
 ·have hno:∀y,rs[n]? =some y->z2q y.1 k=false:=fun y hy=>by
   have:=(List.getElem?_eq_some_iff.1 hy).1;omega
  refine zoq 14 O ?_;refine z3q Xj ?_;refine zCq 9 O ?_;refine khq (fun _=>unq (fr2:=[(2,.fz (zdq v) 1 g),(4,.ptr 0 0),(7,psW rs),(8,.int .i64 (n:Int)),(9,gW 1 33 [])]) ⟨rfl,rfl,rfl,rfl,rfl,trivial⟩) ?_;refine zbq O O ?_
  refine zaq 2 O ?_;refine zbq rfl (xbq (ys:=(rs.take n).map pW) (l:=0) (h:=n) O O O O O O O (Nat.zero_le _) (by rw[e];exact g1) (by rw[List.drop_zero,List.map_take];rfl) rfl) ?_;refine Znq (b:=1) (xs:=[]) (news:=(rs.take n).map pW) (k:=ti185) (H0:=[(0,26,dW k)]) [_] [(2,.fz (zdq v) 1 g),(4,.ptr 0 0),(7,psW rs),(8,.int .i64 (n:Int))] O O O O O O O O O O O (by show(0+((rs.take n).map pW).length)*56<=_;omega) (by show 0+((rs.take n).map pW).length<=_;omega) rfl Xk Xd Xd ⟨rfl,rfl,rfl,rfl,trivial⟩ rfl ⟨zfq Xk,rfl,zfq Xk,rfl,trivial⟩ Xk ⟨⟨by omega,rfl,zfq Xk⟩,trivial⟩ Xk ?_;refine zaq 8 O ?_;refine yxq O O O O O O (Ywq _ _ (by first|assumption|omega)) ?_;refine zoq 2 O ?_;refine yqq rfl (yoq O O (jPq [_,_] (k:=ti185) (news:=[pW (k,v)]) O O O O O (ymq O O O O) Xk (by show(((rs.take n).map pW).length+1)*56<=_;omega) (by show((rs.take n).map pW).length+1<=_;omega) rfl Xk)) (evs_G Xr Xr) ?_;refine zoq 5 O ?_;refine khq (fun _=>q0q (b:=1) (H0:=[(0,26,dW k)]) (fr2:=[(4,.ptr 0 0),(7,psW rs),(8,.int .i64 (n:Int))]) 3 9 Xd Xd Xd Xk O O ⟨rfl,rfl,rfl,trivial⟩ ⟨rfl,zfq Xk,rfl,trivial⟩ rfl Xk ⟨⟨by omega,rfl,zfq Xk⟩,trivial⟩ Xk) ?_;refine zbq O O ?_
  refine zaq 2 O ?_;refine zbq rfl (xbq (ys:=(rs.drop n).map pW) (l:=n) (h:=(rs.map pW).length) O O O O O O O (by rw[e];exact g1) (Nat.le_refl _) (by rw[List.take_of_length_le Xk,List.map_drop]) rfl) ?_;refine Znq (b:=1) (news:=(rs.drop n).map pW) (k:=ti185) (H0:=[(0,26,dW k)]) [_] [] O O O O O O O O O O O Qs Qw rfl Xk Xd Xd trivial rfl trivial Xk ⟨⟨by omega,rfl,zfq Xk⟩,trivial⟩ Xk ?_;refine zaq 4 O ?_;refine jrq Xx O ?_;rw[rest Xv];have:=x1q (b:=1) (e:=33) (ty:=185) (l:=(rs.take n).map pW++[pW (k,v)]++(rs.drop n).map pW) (H0:=[(0,26,dW k)]) Xq Xk Xk;unfold psW;rw[show(rs.take n++(k,v)::rs.drop n).map pW=(rs.take n).map pW++[pW (k,v)]++(rs.drop n).map pW by simp];exact this
theorem Jzq{l:List Pr}(h:Srt l)(k:Dig)(v:List UInt8):withR l k v=kuq l k v:=by
 have key:∀{l:List Pr},Srt l->(zKq l k).takeWhile (fun p=>z2q p.1 k)=l.filter (fun p=>z2q p.1 k)/\(zKq l k).dropWhile (fun p=>z2q p.1 k)=l.filter (fun p=>z2q k p.1):=by
  intro l;induction l with
  |nil=>intro _;exact⟨rfl,rfl⟩
  |cons x l ih=>
   intro h;obtain⟨h1,h2⟩:=List.pairwise_cons.1 h;obtain⟨q1,q2⟩:=ih h2;by_cases e:x.1=k
   ·have e1:z2q x.1 k=false:=by rw[e];exact jZq k
    have e2:z2q k x.1=false:=by rw[e];exact jZq k
    have hno:∀y∈l,z2q y.1 k=false:=fun y hy=>qCq (by rw[<-e];exact h1 y hy)
    have ew:zKq (x::l) k=zKq l k:=by simp[zKq,e]
    rw[ew,q1,q2];simp[e1,e2]
   ·have ew:zKq (x::l) k=x::zKq l k:=by simp[zKq,e]
    rw[ew];cases ha:z2q x.1 k with
    |true=>
     have hb:=qCq ha;simp[ha,hb,q1,q2]
    |false=>
     have hb:z2q k x.1=true:=(vlq e).resolve_left (by rw[ha];exact Bool.false_ne_true);have hno:∀y∈l,z2q y.1 k=false:=fun y hy=>qCq (xRq hb (h1 y hy))
     have hyes:∀y∈l,z2q k y.1=true:=fun y hy=>xRq hb (h1 y hy)
     have hw:zKq l k=l:=jAq fun p hp q=>by
      have:=hyes p hp;rw[q,jZq] at this;cases this
     simp only[List.takeWhile_cons,List.dropWhile_cons,List.filter_cons,ha,hb,hw,if_true,if_false];refine⟨(ujq fun y hy=>hno y hy).symm,?_⟩;simp only[Bool.false_eq_true,if_false];rw[vPq fun y hy=>hyes y hy]
 obtain⟨q1,q2⟩:=key h;unfold withR kuq;rw[q1,q2]
theorem rpsame_s(a b:List Pr)(f g:Bool)(hb:a.length<=1000000000):PS cfg G 25 [.fz (a.map pW) 33 f,.fz (b.map pW) 33 g] (.bool (decide (a=b))):=by
 have ea:(a.map pW).length=a.length:=List.length_map _;have eb:(b.map pW).length=b.length:=List.length_map _;refine zFq (fn:=Tryz.f25) O O O (Ob rfl) (fun R k0=>?_);refine zjq 9 O ?_;refine zgq (w':=.int .i64 (a.length:Int)) O O Qa ?_;refine zbq O O (zgq (w':=.int .i64 (b.length:Int)) O O (by rw[<-eb];rfl) ?_);refine zaq 3 O ?_;refine zyq rfl (fun h1=>?_) (fun h1=>?_)
 ·refine zeq 7 O ?_;refine zhq (.inr rfl) O ?_;rw[decide_eq_false];rintro rfl;exact h1 rfl
 ·have hl:a.length=b.length:=by omega
  refine zeq 9 O ?_;refine yEq (α:=Nat) (fun i=>i<=a.length/\a.take i=b.take i) (fun i=>[(5,.int .i64 (i:Int))]) [(0,_),(1,_),(4,_)] (fun i=>a.length-i) (0) ⟨rfl,rfl,rfl,trivial⟩ (⟨Nat.zero_le _,rfl⟩) ⟨rfl,trivial⟩ (fun i hI=>?_);obtain⟨g1,g2⟩:=hI;refine zjq 5 O ?_;refine zgq (w':=.int .i64 (a.length:Int)) O O Qa ?_;refine zaq 3 O ?_;refine zyq rfl (fun h2=>?_) (fun h2=>?_)
  ·have hi:i<a.length:=by omega
   obtain⟨x,hx⟩:∃x,a[i]? =some x:=⟨_,List.getElem?_eq_getElem hi⟩
   obtain⟨y,hy⟩:∃y,b[i]? =some y:=⟨_,List.getElem?_eq_getElem Xd⟩
   have no:x≠y->decide (a=b)=false:=fun h=>decide_eq_false fun q=>h Qj
   refine zeq 8 O ?_;refine zcq rfl (zBq (i:=i) O O O O O O O (zYq pW hx)) ?_;refine zoq 4 O ?_;refine zcq rfl (zBq (i:=i) O O O O O O O (zYq pW hy)) ?_;refine zoq 2 O ?_;refine fl_dec rfl (jaq O O O O (qlq O O O O O O _ _ 250)) (jTq yPq) (fun h3=>?_) (fun h3=>?_)
   ·refine zoq 25 O ?_;refine z3q Xj ?_;refine zCq 2 O ?_;exact zhq (.inr rfl) rfl (by rw[no fun q=>h3 (by rw[q])])
   ·have hk:x.1=y.1:=by simpa using h3
    refine zoq 3 O ?_;refine zcq rfl (zBq (i:=i) O O O O O O O (zYq pW hx)) ?_;refine zoq 4 O ?_;refine zcq rfl (zBq (i:=i) O O O O O O O (zYq pW hy)) ?_;refine zoq 2 O ?_;refine yxq O O O O O O (same_s _ _ _ _) ?_;refine zoq 4 O ?_;refine zyq rfl (fun h4=>?_) (fun h4=>?_)
    ·refine zeq 8 O ?_;refine z3q Xj ?_;refine zCq 2 O ?_;exact zhq (.inr rfl) rfl (by rw[no fun q=>by rw[q] at h4;simp at h4])
    ·have hv:x.2=y.2:=by simpa using h4
     have hxy:x=y:=Prod.ext hk hv;refine zeq 5 O ?_;refine zlq (i+1) O O Xi ⟨by omega,by omega⟩ ?_;refine yyq 2 O ?_;exact z5q (i+1) (⟨hi,by rw[List.take_add_one,List.take_add_one,g2,hx,hy,hxy]⟩) Xd ⟨rfl,trivial⟩ ⟨rfl,rfl,rfl,trivial⟩ Xg Xd Xm rfl
  ·refine zeq 2 O ?_;refine z3q Xj ?_;refine zCq 8 O ?_;refine zhq (.inr rfl) O ?_;rw[decide_eq_true];have:=g2;rw[List.take_of_length_le Xd,List.take_of_length_le Xd] at this;exact this
end
section
attribute [local irreducible] CoW OpW FlW Step Spec
variable {G:Nat->Option W}
theorem mayp_val(k:Dig)(v:List UInt8):MayP [(k,v)]↔valB v=true:=by
 constructor
 ·intro h;exact(h.2 0 Xk _ rfl).1
 ·intro h;refine⟨by simp,fun i hi x hx=>?_⟩;obtain rfl:i=0:=by simpa using hi
  cases hx;exact⟨h,fun y h0=>by omega⟩
theorem rone_s(x:Node)(n:Nat)(hn:n<=4611686018427387903):PS cfg G 102 [nW x,.int .i64 (n:Int)] (.bool (decide (oneB x n))):=by
 have e:=ziq x.val
 have yes:∀{b:Bool},x.leaf=true->b=(valB x.val&&decide (x.left=0)&&decide (x.right=0)) ->W.bool b=W.bool (decide (oneB x n)):=fun {b} h1 hb=>by
  rw[hb];congr 1
  rw[Bool.eq_iff_iff];simp only[Bool.and_eq_true,decide_eq_true_eq,oneB,if_pos h1,mayp_val];exact⟨fun ⟨⟨a,b⟩,c⟩=>⟨b,c,a⟩,fun ⟨b,c,a⟩=>⟨⟨a,b⟩,c⟩⟩
 have no:¬x.leaf=true->¬((0<=x.left/\x.left<=n)/\(0<=x.right/\x.right<=n)/\0<x.left+x.right) ->W.bool false=W.bool (decide (oneB x n)):=fun h1 h=>by
  rw[decide_eq_false];rw[oneB,if_neg h1];exact fun q=>h ⟨q.1,q.2.1,q.2.2.2.2⟩
 have fork:∀{b:Bool},¬x.leaf=true->0<=x.left->x.left<=n->0<=x.right->x.right<=n->0<x.left+x.right->b=(decide (x.key=qHq)&&decide (x.val=[])) ->W.bool b=W.bool (decide (oneB x n)):=fun {b} h1 q1 q2 q3 q4 q5 hb=>by
  rw[hb];congr 1
  rw[Bool.eq_iff_iff];simp only[Bool.and_eq_true,decide_eq_true_eq,oneB,if_neg h1];exact⟨fun ⟨a,c⟩=>⟨⟨q1,q2⟩,⟨q3,q4⟩,a,c,q5⟩,fun h=>⟨h.2.2.1,h.2.2.2.1⟩⟩
 refine zFq (fn:=Tryz.f102) O O O (Ob rfl) (fun R k0=>?_);refine zjq 13 O ?_;refine zyq rfl (fun h1=>?_) (fun h1=>?_)
 ·refine zeq 4 O ?_;refine zkq O O O O O O (rvalue_s _ _) ?_;refine uLq (fun h2=>?_) (fun h2=>?_)
  ·refine zaq 3 O ?_;refine yZq O O (fun h3=>?_) (fun h3=>?_)
   ·refine zaq 4 O ?_;refine yVq O O ?_;refine zaq 6 O ?_;exact zhq (.inr rfl) rfl Yf
   ·refine zaq 11 O ?_;exact zhq (.inr rfl) rfl Yf
  ·refine zaq 15 O ?_;exact zhq (.inr rfl) rfl Yf
 ·refine zeq 7 O ?_;refine yZq O O (fun h2=>?_) (fun h2=>?_)
  ·refine zaq 37 O ?_;exact zhq (.inr rfl) rfl Yf
  ·refine zaq 4 O ?_;refine yZq O O (fun h3=>?_) (fun h3=>?_)
   ·refine zaq 32 O ?_;exact zhq (.inr rfl) rfl Yf
   ·refine zaq 4 O ?_;refine yZq O O (fun h4=>?_) (fun h4=>?_)
    ·refine zaq 27 O ?_;exact zhq (.inr rfl) rfl Yf
    ·refine zaq 5 O ?_;refine yZq O O (fun h5=>?_) (fun h5=>?_)
     ·refine zaq 21 O ?_;exact zhq (.inr rfl) rfl Yf
     ·refine zaq 4 O ?_;refine yZq O O (fun h6=>?_) (fun h6=>?_)
      ·refine zaq 3 O ?_;refine yVq O O ?_;refine zaq 4 O ?_;refine zyq rfl (fun h7=>?_) (fun h7=>?_)
       ·refine zeq 7 O ?_;exact zhq (.inr rfl) rfl Yf
       ·have h2:¬x.left<0:=h2;have h3:¬(n:Int)<x.left:=h3;have h4:¬x.right<0:=h4;have h5:¬(n:Int)<x.right:=h5;refine zeq 6 O ?_;refine zgq O O xMq ?_;refine op_dec rfl (q3q O O O O (qlq O O O O O O _ _ 250)) yPq (fun h8=>?_) (fun h8=>?_)
        ·refine zaq 3 O ?_;refine zgq (w':=.int .i64 (x.val.length:Int)) O O Xy ?_;refine yVq O O ?_;refine zaq 5 O ?_;refine zhq (.inr rfl) rfl (fork h1 Xd Xd Xd Xd Xd ?_);rw[decide_eq_true (by assumption:x.key=qHq),Bool.true_and];refine decide_eq_decide.2 ⟨fun q=>List.eq_nil_of_length_eq_zero Xd,fun q=>by rw[q];rfl⟩
        ·refine zaq 10 O ?_;refine zhq (.inr rfl) rfl (fork h1 Xd Xd Xd Xd Xd ?_);rw[decide_eq_false (by assumption:¬x.key=qHq),Bool.false_and]
      ·have h2:¬x.left<0:=h2;have h3:¬(n:Int)<x.left:=h3;have h4:¬x.right<0:=h4;have h5:¬(n:Int)<x.right:=h5;refine zaq 15 O ?_;refine zgq O O xMq ?_;refine op_dec rfl (q3q O O O O (qlq O O O O O O _ _ 250)) yPq (fun h7=>?_) (fun h7=>?_)
       ·refine zaq 3 O ?_;refine zgq (w':=.int .i64 (x.val.length:Int)) O O Xy ?_;refine yVq O O ?_;refine zaq 5 O ?_;refine zhq (.inr rfl) rfl (fork h1 Xd Xd Xd Xd Xd ?_);rw[decide_eq_true (by assumption:x.key=qHq),Bool.true_and];refine decide_eq_decide.2 ⟨fun q=>List.eq_nil_of_length_eq_zero Xd,fun q=>by rw[q];rfl⟩
       ·refine zaq 10 O ?_;refine zhq (.inr rfl) rfl (fork h1 Xd Xd Xd Xd Xd ?_);rw[decide_eq_false (by assumption:¬x.key=qHq),Bool.false_and]
def cntR(t:T)(d:Nat)(b:Dig):Int:=if t.ok d b=true then(match t with|.nil=>0|.leaf _ _=>1|.fork _ _=>2) else-1
theorem cntR_lt(t:T)(d:Nat)(b:Dig):cntR t d b<0↔¬t.ok d b=true:=by
 unfold cntR;split
 ·rename_i h;cases t<;>simp[h]
 ·rename_i h;simp[h]
theorem cntR_ge(t:T)(d:Nat)(b:Dig):0<=cntR t d b↔t.ok d b=true:=by
 have:=cntR_lt t d b;constructor
 ·intro h;refine Classical.byContradiction fun q=>?_
  have:=this.2 q;omega
 ·intro h;refine Int.not_lt.1 fun q=>this.1 q h
theorem cntR_fork{l r:T}{d:Nat}{b:Dig}(hd:d<256)(h1:¬cntR l (d+1) b<0)(h2:¬cntR r (d+1) (qMq b d)<0):cntR (.fork l r) d b=if cntR l (d+1) b+cntR r (d+1) (qMq b d)<2 then-1 else 2:=by
 have e1:l.ok (d+1) b=true:=(cntR_ge l _ _).1 Xd;have e2:r.ok (d+1) (qMq b d)=true:=(cntR_ge r _ _).1 Xd;have e:(T.fork l r).ok d b=T.two l r:=by simp only[T.ok];rw[decide_eq_true hd,e1,e2];rfl
 unfold cntR;rw[e,e1,e2];cases l<;>cases r<;>simp[T.two,T.isFork,T.non]
theorem cntR_le(t:T)(d:Nat)(b:Dig):cntR t d b<=2:=by
 unfold cntR;split
 ·cases t<;>simp
 ·omega
theorem cntR_no{l r:T}{d:Nat}{b:Dig}(h:¬(T.fork l r).ok d b=true):cntR (.fork l r) d b=-1:=by unfold cntR;rw[if_neg h]
theorem rright_s(t0:Tree)(hb:t0.nodes.length<=4611686018427387903):∀(t:T) (n d:Nat) (b:Dig),Rep t0.nodes n t->d<=256->PS cfg G 103 [tW t0,.int .i64 (n:Int),.int .i64 (d:Int),dW b] (.int .i64 (cntR t d b)):=by
 intro t;induction t with
 |nil=>
  intro n d b hr hd;obtain rfl:n=0:=by cases hr;rfl
  refine zFq (fn:=Tryz.f103) O O O (Ob rfl) (fun R k0=>?_);refine zjq 14 O ?_;refine zyq rfl (fun h1=>?_) (fun h1=>?_)
  ·refine zeq 7 O ?_;exact zhq (.inr rfl) O O
  ·exfalso;omega
 |leaf k v=>
  intro n d b hr hd;have hle:=hr.le;cases hr with
  |leaf h=>
  rename_i n l r;refine zFq (fn:=Tryz.f103) O O O (Ob rfl) (fun R k0=>?_);refine zjq 14 O ?_;refine zyq rfl (fun h1=>?_) (fun h1=>?_)
  ·exfalso;omega
  ·refine zeq 7 O ?_;refine zlq (n) O O Xi ⟨by omega,by omega⟩ ?_;refine zbq rfl (zBq (i:=n) O O O O O O O (zYq nW h)) ?_;refine zaq 19 O ?_;refine zkq O O O O O O (rshared_s _ _) ?_;refine zaq 4 O ?_;refine zyq rfl (fun h2=>?_) (fun h2=>?_)
   ·refine zeq 8 O ?_;refine zhq (.inr rfl) O ?_;unfold cntR;rw[if_neg];simp only[T.ok,decide_eq_true_eq];have h2:((yiq k b:Nat):Int)<d:=h2;omega
   ·refine zeq 9 O ?_;refine zhq (.inr rfl) O ?_;unfold cntR;rw[if_pos];simp only[T.ok,decide_eq_true_eq];have h2:¬((yiq k b:Nat):Int)<d:=h2;omega
 |fork tl tr ihL ihR=>
  intro n d b hr hd;have hle:=hr.le;cases hr with
  |fork h hl hr hL hR=>
  rename_i n l r k v;refine zFq (fn:=Tryz.f103) O O O (Ob rfl) (fun R k0=>?_);refine zjq 14 O ?_;refine zyq rfl (fun h1=>?_) (fun h1=>?_)
  ·exfalso;omega
  ·refine zeq 7 O ?_;refine zlq (n) O O Xi ⟨by omega,by omega⟩ ?_;refine zbq rfl (zBq (i:=n) O O O O O O O (zYq nW h)) ?_;refine zaq 22 O ?_;refine zyq rfl (fun h2=>?_) (fun h2=>?_)
   ·refine zeq 7 O ?_;refine zhq (.inr rfl) O ?_;rw[cntR_no fun q=>by have:=(ok_fork.1 q).1;omega]
   ·have hd':d<256:=by omega
    refine zeq 6 O ?_;refine zkq O O O O O O (rturn_in _ _ Xd) ?_;refine zaq 14 O ?_;refine zlq (d+1) O O Xi ⟨by omega,by omega⟩ ?_;refine znq O O (zkq O O O O O O (ihL l (d+1) b hL Xd) ?_);refine zaq 10 O ?_;refine zyq rfl (fun h3=>?_) (fun h3=>?_)
    ·refine zeq 7 O ?_;refine zhq (.inr rfl) O ?_;rw[cntR_no fun q=>(cntR_lt tl _ _).1 Xv (ok_fork.1 q).2.1]
    ·refine zeq 8 O ?_;refine zlq (d+1) O O Xi ⟨by omega,by omega⟩ ?_;refine znq O O (zkq O O O O O O (ihR r (d+1) (qMq b d) hR Xd) ?_);refine zaq 7 O ?_;refine yZq O O (fun h4=>?_) (fun h4=>?_)
     ·refine zaq 16 O ?_;refine zhq (.inr rfl) O ?_;rw[cntR_no fun q=>(cntR_lt tr _ _).1 Xv (ok_fork.1 q).2.2.1]
     ·have hc:=cntR_fork (l:=tl) (r:=tr) hd' h3 h4;have b1:=cntR_le tl (d+1) b;have b2:=cntR_le tr (d+1) (qMq b d);refine zaq 3 O ?_;first|refine yzq O O ⟨by omega,by omega⟩ ?_|refine zbq O O ?_
      refine yVq O O ?_;refine zaq 3 O ?_;refine zyq rfl (fun h5=>?_) (fun h5=>?_)
      ·refine zeq 7 O ?_;exact zhq (.inr rfl) rfl (by rw[hc,if_pos Xv])
      ·refine zeq 8 O ?_;exact zhq (.inr rfl) rfl (by rw[hc,if_neg Xv])
theorem rmay_s(t:Tree)(hb:t.nodes.length<=4611686018427387903):PS cfg G 24 [tW t] (.bool (decide (MayT t))):=by
 have e:(t.nodes.map nW).length=t.nodes.length:=List.length_map _;refine zFq (fn:=Tryz.f24) O O O (Ob rfl) (fun R k0=>?_);refine zjq 11 O ?_;refine zgq (w':=.int .i64 (t.nodes.length:Int)) O O Xy ?_;refine yZq O O (fun h1=>?_) (fun h1=>?_)
 ·have hno:¬MayT t:=fun h=>by have:=h.1;omega
  refine zaq 23 O ?_;exact zhq (.inr rfl) rfl Ym
 refine zaq 3 O ?_;refine yZq O O (fun h2=>?_) (fun h2=>?_)
 ·have hno:¬MayT t:=fun h=>by obtain⟨_,_,n,_,h,_⟩:=h;have h2:t.root<0:=h2;omega
  refine zaq 19 O ?_;exact zhq (.inr rfl) rfl Ym
 refine zaq 6 O ?_;refine zgq (w':=.int .i64 (t.nodes.length:Int)) O O Xy ?_;refine yVq O O ?_;refine zaq 3 O ?_;refine zyq rfl (fun h3=>?_) (fun h3=>?_)
 ·have hno:¬MayT t:=fun h=>by obtain⟨_,_,n,_,h,hr,_⟩:=h;have h3:(t.nodes.length:Int)<t.root:=h3;have:=hr.le;omega
  refine zeq 7 O ?_;exact zhq (.inr rfl) rfl Ym
 have h2:¬t.root<0:=h2;have h3:¬(t.nodes.length:Int)<t.root:=h3;obtain⟨n0,hn0⟩:=Int.eq_ofNat_of_zero_le (show 0<=t.root by omega);refine zeq 9 O ?_;refine yEq (α:=Nat) (fun i=>i<=t.nodes.length/\∀j x,j<i->t.nodes[j]? =some x->oneB x j) (fun i=>[(3,.int .i64 (i:Int))]) [(1,_),(2,_)] (fun i=>t.nodes.length-i) (0) ⟨rfl,rfl,trivial⟩ (⟨Nat.zero_le _,fun j x hj=>by omega⟩) ⟨rfl,trivial⟩ (fun i hI=>?_);obtain⟨hi,hI⟩:=hI;refine zjq 6 O ?_;refine zgq (w':=.int .i64 (t.nodes.length:Int)) O O Xy ?_;refine zaq 3 O ?_;refine zyq rfl (fun h4=>?_) (fun h4=>?_)
 ·have hi':i<t.nodes.length:=by omega
  obtain⟨x,hx⟩:∃x,t.nodes[i]? =some x:=⟨_,List.getElem?_eq_getElem hi'⟩
  refine zeq 9 O ?_;refine zbq rfl (zBq (i:=i) O O O O O O O (zYq nW hx)) ?_;refine zaq 2 O ?_;refine zkq O O O O O O (rone_s _ _ Xd) ?_;refine zaq 3 O ?_;refine zyq rfl (fun h5=>?_) (fun h5=>?_)
  ·have hno:¬MayT t:=fun h=>by have:=h.2.1 i x hx;simp[this] at h5
   refine zeq 8 O ?_;refine z3q Xj ?_;refine zCq 2 O ?_;exact zhq (.inr rfl) rfl Ym
  ·have h5:oneB x i:=by simpa using h5
   refine zeq 5 O ?_;refine zlq (i+1) O O Xi ⟨by omega,by omega⟩ ?_;refine yyq 2 O ?_;exact z5q (i+1) (⟨hi',fun j y hj hy=>by rcases Nat.lt_succ_iff_lt_or_eq.1 hj with h|rfl;exact hI j y h hy;exact(Option.some.inj (hx.symm.trans hy))▸h5⟩) Xd ⟨rfl,trivial⟩ ⟨rfl,rfl,trivial⟩ Xg Xd Xm rfl
 ·have okn:okN t.nodes:=fun j x hx=>hI j x (by have:=(List.getElem?_eq_some_iff.1 hx).1;omega) hx
  obtain⟨t0,ht0⟩:=rep_of okn n0 Xd
  have key:MayT t↔t0.ok 0 qHq=true:=by
   constructor
   ·rintro⟨_,_,n,t1,hn,hr,hk⟩;obtain rfl:n=n0:=by omega
    rw[ht0.uniq hr];exact hk
   ·exact fun h=>⟨by omega,okn,n0,t0,hn0,ht0,h⟩
  refine zeq 2 O ?_;refine z3q Xj ?_;refine zCq 7 O ?_;refine zgq O O xMq ?_;refine op_ps O O O O O (by rw[hn0];rfl) (rright_s t Xd t0 n0 0 qHq ht0 Xd) Xk Xk ?_;refine yVq O O ?_;refine zaq 4 O ?_;refine zhq (.inr rfl) O ?_;rw[show decide (MayT t)=decide (0<=cntR t0 0 qHq) from decide_eq_decide.2 (key.trans (cntR_ge t0 0 qHq).symm)]
theorem rfor_s(t0:Tree)(hb:t0.nodes.length<=4611686018427387903):∀(t:T) (n:Nat),Rep t0.nodes n t->t.all.length<=1000000->(∀p∈t.all,p.2.length<=70368744177664) ->PL cfg G 104 [tW t0,.int .i64 (n:Int)] 185 33 (t.all.map pW):=by
 intro t;induction t with
 |nil=>
  intro n hr hl hv R;obtain rfl:n=0:=by cases hr;rfl
  refine zVq (fn:=Tryz.f104) O O O (Ob rfl) (fun k0=>?_);refine zjq 13 O ?_;refine zyq rfl (fun h1=>?_) (fun h1=>?_)
  ·refine zeq 7 O ?_;exact fin (w:=gW 0 33 []) (.inr rfl) (vSq (b:=0) (ty:=185) (l2:=[]) (H0:=[]) (fr2:=[]) 4 Xd Xd rfl trivial trivial (fun x r h=>by cases h) rfl trivial List.nodup_nil) rfl ⟨rfl,rfl,rfl,rfl⟩
  ·exfalso;omega
 |leaf k v=>
  intro n hr hl hv R;have hle:=hr.le;have hvl:=hv (k,v) (by simp[T.all]);simp only at hvl;cases hr with
  |leaf h=>
  rename_i n l r;refine zVq (fn:=Tryz.f104) O O O (Ob rfl) (fun k0=>?_);refine zjq 13 O ?_;refine zyq rfl (fun h1=>?_) (fun h1=>?_)
  ·exfalso;omega
  ·refine zeq 7 O ?_;refine zlq (n) O O Xi ⟨by omega,by omega⟩ ?_;refine zbq rfl (zBq (i:=n) O O O O O O O (zYq nW h)) ?_;refine zaq 19 O ?_;refine fl_ps O O O O O O (Ywq v false hvl) Xk Xk Xr ?_;refine zoq 7 O ?_;exact fin (w:=gW 0 33 [pW (k,v)]) (.inr rfl) (ent_one (b:=0) (x:=pW (k,v)) 2 4 Xd Xd Xd O O O O Xk) rfl ⟨rfl,rfl,rfl,rfl⟩
 |fork tl tr ihL ihR=>
  intro n hr hl hv R;have hle:=hr.le;cases hr with
  |fork h hl0 hr0 hL hR=>
  rename_i n l r k v;have hlen:tl.all.length+tr.all.length<=1000000:=by simpa[T.all] using hl
  obtain⟨l1,e1⟩:∃q,q=tl.all.map pW:=⟨_,rfl⟩
  obtain⟨l2,e2⟩:∃q,q=tr.all.map pW:=⟨_,rfl⟩
  have P1:PL cfg G 104 [tW t0,.int .i64 (l:Int)] 185 33 l1:=e1▸ihL l hL Xd fun p hp=>hv p Qz
  have P2:PL cfg G 104 [tW t0,.int .i64 (r:Int)] 185 33 l2:=e2▸ihR r hR Xd fun p hp=>hv p Qz
  have p1:purL l1=true:=by rw[e1];exact kcq _
  have p2:purL l2=true:=by rw[e2];exact kcq _
  have hl1:l1.length<=1000000:=by rw[e1,List.length_map];omega
  have hl2:l2.length<=1000000:=by rw[e2,List.length_map];omega
  have e3:(T.fork tl tr).all.map pW=l1++l2:=by rw[e1,e2];simp[T.all]
  rw[e3];clear e1 e2 e3;refine zVq (fn:=Tryz.f104) O O O (Ob rfl) (fun k0=>?_);refine zjq 13 O ?_;refine zyq rfl (fun h1=>?_) (fun h1=>?_)
  ·exfalso;omega
  ·refine zeq 7 O ?_;refine zlq (n) O O Xi ⟨by omega,by omega⟩ ?_;refine zbq rfl (zBq (i:=n) O O O O O O O (zYq nW h)) ?_;refine zaq 20 O ?_;skip
   skip
   cases l1 with
   |nil=>
    cases l2 with
    |nil=>
     (refine yaq rfl (kXq O O O O O Xk P1 Xv ?_);refine⟨by first|rfl|kernel_rfl,?_⟩)
     refine zoq 3 O ?_
     (refine yaq rfl (kXq O O O O O Xk P2 Xv ?_);refine⟨by first|rfl|kernel_rfl,?_⟩)
     refine yqq rfl (yoq O O (Ygq O O O O O)) Xr ?_;refine zoq 4 O ?_;refine fin (w:=gW 0 33 ([]:List W)) (.inr rfl) (vSq (b:=0) (ty:=185) (l2:=[]) (H0:=[]) (fr2:=[]) 4 Xd Xd rfl trivial trivial (fun x r h=>by cases h) rfl trivial List.nodup_nil) rfl ⟨rfl,?_,?_,rfl⟩
     ·rfl
     ·rfl
    |cons y2 r2=>
     (refine yaq rfl (kXq O O O O O Xk P1 Xv ?_);refine⟨by first|rfl|kernel_rfl,?_⟩)
     refine zoq 3 O ?_
     (refine yaq rfl (kXq O O O O O Xk P2 Xv ?_);refine⟨by first|rfl|kernel_rfl,?_⟩)
     refine yqq rfl (yoq O O (kNq (news:=y2::r2) (k:=ti185) O O O O (ymq O O O (zpq Xq O O)) Xk (by show(y2::r2).length*56<=_;omega) Xd)) Xr ?_;refine zoq 4 O ?_;refine fin (w:=gW 0 33 (y2::r2)) (.inr rfl) (q0q (b:=0) (l2:=y2::r2) (H0:=[]) (fr2:=[]) 4 4 Xd Xd Xd Xk O O trivial trivial rfl p2 trivial List.nodup_nil) rfl ⟨rfl,?_,?_,rfl⟩
     ·rfl
     ·rfl
   |cons y1 r1=>
    cases l2 with
    |nil=>
     (refine yaq rfl (kXq O O O O O Xk P1 Xv ?_);refine⟨by first|rfl|kernel_rfl,?_⟩)
     refine zoq 3 O ?_
     (refine yaq rfl (kXq O O O O O Xk P2 Xv ?_);refine⟨by first|rfl|kernel_rfl,?_⟩)
     refine yqq rfl (yoq O O (ZBq (k:=ti185) O O O O O)) Xr ?_;refine zoq 4 O ?_;refine fin (w:=gW 0 33 (y1::r1)) (.inr rfl) (q0q (b:=0) (l2:=y1::r1) (H0:=[]) (fr2:=[]) 2 4 Xd Xd Xd Xk O O trivial trivial rfl p1 trivial List.nodup_nil) rfl ⟨rfl,?_,?_,rfl⟩
     ·rw[List.append_nil]
     ·rw[List.append_nil];rfl
    |cons y2 r2=>
     (refine yaq rfl (kXq O O O O O Xk P1 Xv ?_);refine⟨by first|rfl|kernel_rfl,?_⟩)
     refine zoq 3 O ?_
     (refine yaq rfl (kXq O O O O O Xk P2 Xv ?_);refine⟨by first|rfl|kernel_rfl,?_⟩)
     refine yqq rfl (yoq O O (qxq (len:=(y1::r1).length) (news:=y2::r2) (olds:=y1::r1) (k:=ti185) O O O O (ymq O O O (zpq Xq O O)) Xk (by show((y1::r1).length+(y2::r2).length)*56<=_;omega) Xd rfl (by show(y1::r1).length*33<0+((y1::r1).length+(y2::r2).length)*33;simp only[List.length_cons];omega) rfl (zpq Xq O O))) Xr ?_;refine zoq 4 O ?_;refine fin (w:=gW 0 33 ((y1::r1)++(y2::r2))) (.inr rfl) (q0q (b:=0) (l2:=(y1::r1)++(y2::r2)) (n:=(y1::r1).length+(y2::r2).length) (H0:=[]) (fr2:=[]) 4 4 Xd Xd Xd Xk rfl (by rw[List.length_append]) trivial trivial rfl (by rw[purL_app,p1,p2];rfl) trivial List.nodup_nil) rfl ⟨rfl,?_,?_,rfl⟩
     ·rfl
     ·rfl
theorem g_get(b e:Nat)(l:List W)(r:W):yuq 50 (.agg 2 [gW b e l,r]) 0 1 false=some (gW b e l):=by cases l<;>rfl
theorem g_put(b e:Nat)(l:List W)(r:W)(b' n:Nat):qYq 50 (.agg 2 [gW b e l,r]) 0 (.sl b' 0 0 n e none)=some (.agg 2 [.sl b' 0 0 n e none,r]):=by cases l<;>rfl
theorem rttwin_s(t:Tree)(hb:t.nodes.length<=1000000000)(hv:∀x∈t.nodes,x.val.length<=70368744177664):PS cfg G 17 [tW t] (tW t):=by
 have e:(t.nodes.map nW).length=t.nodes.length:=List.length_map _;refine q7q (fn:=Tryz.f17) O O O (Ob rfl) (fun R k0=>?_);refine zjq 18 O ?_;refine khq (fun _=>unq (fr2:=[(1,.ptr 0 0),(2,.ptr 1 0),(3,.ptr 2 0)]) ⟨rfl,rfl,rfl,trivial⟩) ?_;refine zbq O O ?_
 refine zaq 3 O ?_;refine q6q (α:=Nat) (fun i=>i<=t.nodes.length) (fun i=>[(4,.int .i64 (i:Int))]) [(1,_),(2,_),(3,_)] (fun i=>[(2,24,.agg 2 [gW 3 36 ((t.nodes.take i).map nW),.int .i64 t.root]),(1,24,.agg 2 [.nils,.int .i64 0]),(0,24,tW t)]++gH 3 165 36 ((t.nodes.take i).map nW)) (fun i=>t.nodes.length-i) (0) ⟨rfl,rfl,rfl,trivial⟩ (Nat.zero_le _) ⟨rfl,trivial⟩ (rfl) (fun i hI=>?_);refine zjq 6 O ?_;refine zgq (w':=.int .i64 (t.nodes.length:Int)) O O Xy ?_;refine zaq 3 O ?_;refine zyq rfl (fun h1=>?_) (fun h1=>?_)
 ·have hi:i<t.nodes.length:=by omega
  obtain⟨x,hx⟩:∃x,t.nodes[i]? =some x:=⟨_,List.getElem?_eq_getElem hi⟩
  have hxv:=hv x (List.mem_of_getElem? hx);have el:((t.nodes.take i).map nW).length=i:=by simp;omega
  have es:(t.nodes.take (i+1)).map nW=(t.nodes.take i).map nW++[nW x]:=by rw[List.take_add_one,hx,List.map_append];rfl
  have ep:purL ((t.nodes.take i).map nW++[nW x])=true:=by rw[<-es];exact qqq nW_pur _
  refine zeq 9 O ?_;refine zbq rfl (zBq (i:=i) O O O O O O O (zYq nW hx)) ?_;refine zaq 9 O ?_;refine zkq O O O O O O (Ywq x.val false hxv) ?_;refine zaq 6 O ?_;refine znq rfl (ypq O O O (g_get 3 36 _ _)) ?_;refine zaq 2 O ?_;refine znq rfl (yoq O O (jPq [_,_,_,_,_] (k:=ti165) (news:=[nW x]) O O O O O (ymq O O O O) Xk (by show(((t.nodes.take i).map nW).length+1)*80<=_;omega) (by show((t.nodes.take i).map nW).length+1<=_;omega) rfl Xk)) ?_;refine zbq O O (znq rfl (jLq O O O O O (g_put 3 36 _ _ _ _) rfl) ?_);refine zaq 5 O ?_;refine zlq (i+1) O O Xi ⟨by omega,by omega⟩ ?_;refine yyq 2 O ?_;skip
  refine ywq (i+1) hi Xd ?_;simp only;have hne:(t.nodes.take i).map nW++[nW x]≠[]:=List.append_ne_nil_of_right_ne_nil _ Xk;rw[es,xFq hne,xHq hne];refine y2q (b:=3) (k:=6) Xd Xd Xd ⟨⟨rfl,rfl⟩,⟨rfl,rfl⟩,⟨rfl,rfl⟩,⟨rfl,rfl⟩,trivial⟩ ⟨⟨by omega,rfl,rfl⟩,⟨by omega,rfl,rfl⟩,⟨by omega,?_,zfq Xk⟩,⟨by omega,?_,zfq ep⟩,trivial⟩ Xk
  ·rw[zmq Xk];rfl
  ·rw[zmq (by exact ep)];rfl
 ·have hi:i=t.nodes.length:=by omega
  subst hi;rw[List.take_length];refine zeq 2 O ?_;refine qoq Xj ?_;refine zCq 9 O ?_;refine jrq Xx O ?_;exact .agg (.cons (x1q (H0:=[(2,24,.agg 2 [gW 3 36 (t.nodes.map nW),.int .i64 t.root]),(1,24,.agg 2 [gW 3 36 (t.nodes.map nW),.int .i64 t.root]),(0,24,tW t)]) Xq (u2q _) Xk) (.cons (.pur rfl) .nil))
theorem tree_ext{a b:Tree}(h1:a.nodes=b.nodes)(h2:a.root=b.root):a=b:=by cases a;cases b;simp only at h1 h2;subst h1;subst h2;rfl
theorem node_ext{a b:Node}(h1:a.leaf=b.leaf)(h2:a.key=b.key)(h3:a.val=b.val)(h4:a.left=b.left)(h5:a.right=b.right):a=b:=by cases a;cases b;simp only at h1 h2 h3 h4 h5;subst h1;subst h2;subst h3;subst h4;subst h5;rfl
noncomputable instance(a b:Tree):Decidable (a=b):=Classical.propDecidable _
theorem JLq(a b:Tree)(hb:a.nodes.length<=1000000000):PS cfg G 22 [tW a,tW b] (.bool (decide (a=b))):=by
 have ea:(a.nodes.map nW).length=a.nodes.length:=List.length_map _;have eb:(b.nodes.map nW).length=b.nodes.length:=List.length_map _;refine zFq (fn:=Tryz.f22) O O O (Ob rfl) (fun R k0=>?_);refine zjq 14 O ?_;refine yZq O O (fun h1=>?_) (fun h1=>?_)
 ·have hno:¬a=b:=fun h=>h1 (by rw[h])
  refine zaq 19 O ?_;exact zhq (.inr rfl) rfl Ym
 have hroot:a.root=b.root:=by simpa using h1
 refine zaq 3 O ?_;refine zgq (w':=.int .i64 (a.nodes.length:Int)) O O Qa ?_;refine zaq 2 O ?_;refine zgq (w':=.int .i64 (b.nodes.length:Int)) O O (by rw[<-eb];rfl) ?_;refine yVq O O ?_;refine zaq 3 O ?_;refine zyq rfl (fun h2=>?_) (fun h2=>?_)
 ·have hno:¬a=b:=fun h=>h2 (by rw[h])
  refine zeq 7 O ?_;exact zhq (.inr rfl) rfl Ym
 have hlen:a.nodes.length=b.nodes.length:=by omega
 refine zeq 9 O ?_;refine yEq (α:=Nat) (fun i=>i<=a.nodes.length/\a.nodes.take i=b.nodes.take i) (fun i=>[(5,.int .i64 (i:Int))]) [(2,_),(3,_),(4,_)] (fun i=>a.nodes.length-i) (0) ⟨rfl,rfl,rfl,trivial⟩ (⟨Nat.zero_le _,rfl⟩) ⟨rfl,trivial⟩ (fun i hI=>?_);obtain⟨g1,g2⟩:=hI;refine zjq 6 O ?_;refine zgq (w':=.int .i64 (a.nodes.length:Int)) O O Qa ?_;refine zaq 3 O ?_;refine zyq rfl (fun h3=>?_) (fun h3=>?_)
 ·have hi:i<a.nodes.length:=by omega
  obtain⟨x,hx⟩:∃x,a.nodes[i]? =some x:=⟨_,List.getElem?_eq_getElem hi⟩
  obtain⟨y,hy⟩:∃y,b.nodes[i]? =some y:=⟨_,List.getElem?_eq_getElem Xd⟩
  have no:x≠y->¬a=b:=fun h q=>h Qj
  refine zeq 9 O ?_;refine zcq rfl (zBq (i:=i) O O O O O O O (zYq nW hx)) ?_;refine zoq 4 O ?_;refine zcq rfl (zBq (i:=i) O O O O O O O (zYq nW hy)) ?_;refine zoq 13 O ?_;refine yZq O O (fun h4=>?_) (fun h4=>?_)
  ·have hno:=no fun q=>by rw[q] at h4;simp at h4
   refine zaq 40 O ?_;refine z3q Xj ?_;refine zCq 2 O ?_;exact zhq (.inr rfl) rfl Ym
  refine zaq 5 O ?_;refine op_dec rfl (jaq O O O O (qlq O O O O O O _ _ 250)) (jTq yPq) (fun h5=>?_) (fun h5=>?_)
  ·have hno:=no fun q=>h5 (by rw[q])
   refine zaq 34 O ?_;refine z3q Xj ?_;refine zCq 2 O ?_;exact zhq (.inr rfl) rfl Ym
  refine zaq 6 O ?_;refine zkq O O O O O O (same_s _ _ _ _) ?_;refine uLq (fun h6=>?_) (fun h6=>?_)
  ·refine zaq 7 O ?_;refine yZq O O (fun h7=>?_) (fun h7=>?_)
   ·have hno:=no fun q=>h7 (by rw[q])
    refine zaq 19 O ?_;refine z3q Xj ?_;refine zCq 2 O ?_;exact zhq (.inr rfl) rfl Ym
   refine zaq 6 O ?_;refine yVq O O ?_;refine zaq 3 O ?_;refine zyq rfl (fun h8=>?_) (fun h8=>?_)
   ·have hno:=no fun q=>h8 (by rw[q])
    refine zeq 8 O ?_;refine z3q Xj ?_;refine zCq 2 O ?_;exact zhq (.inr rfl) rfl Ym
   have hxy:x=y:=node_ext (by simpa using h4) (by simpa using h5) h6 (by simpa using h7) (by simpa using h8);refine zeq 5 O ?_;refine zlq (i+1) O O Xi ⟨by omega,by omega⟩ ?_;refine yyq 2 O ?_;exact z5q (i+1) (⟨hi,by rw[List.take_add_one,List.take_add_one,g2,hx,hy,hxy]⟩) Xd ⟨rfl,trivial⟩ ⟨rfl,rfl,rfl,trivial⟩ Xg Xd Xm rfl
  ·have hno:=no fun q=>h6 (by rw[q])
   refine zaq 27 O ?_;refine z3q Xj ?_;refine zCq 2 O ?_;exact zhq (.inr rfl) rfl Ym
 ·refine zeq 2 O ?_;refine z3q Xj ?_;refine zCq 8 O ?_;refine zhq (.inr rfl) O ?_;rw[decide_eq_true];have:=g2;rw[List.take_of_length_le Xd,List.take_of_length_le Xd] at this;exact tree_ext this hroot
theorem rall_s(t:Tree)(n:Nat)(t0:T)(h:IsT t n t0):PS cfg G 26 [tW t] (psW t0.all):=by
 have h1:=h.all_le;have h2:=h.len;have h3:=h.root;obtain⟨ns,root⟩:=t;simp only at h1 h2 h3;subst h3;have P:=(rfor_s (G:=G) ⟨ns,(n:Int)⟩ Qb t0 n h.rep Xd (fun p hp=>by have:=(h.val p hp).2;omega)).ps Xq (kcq _);refine zFq (fn:=Tryz.f26) O O O (Ob rfl) (fun R k0=>?_);refine zjq 11 O ?_;refine op_ps O O O O O O P Xk Xk ?_;refine zaq 4 O ?_;exact zhq (.inr rfl) O O
end
section
attribute [local irreducible] CoW OpW FlW Step Spec
variable {G:Nat->Option W}
theorem rnumber_s(l:List UInt8)(f:Bool)(hl:l.length<=8):PS cfg G 269 [.fz (zdq l) 1 f] (.int .u64 (numB l:Nat)):=by
 have e:=ziq l;refine zFq (fn:=Tryz.f269) O O O (Ob rfl) (fun R k0=>?_);refine zjq 17 O ?_;refine yEq (α:=Nat) (fun i=>i<=l.length) (fun i=>[(4,.int .i64 (i:Int)),(3,.int .u64 (numB (l.take i):Nat))]) [(0,_),(2,_)] (fun i=>l.length-i) (0) ⟨rfl,rfl,trivial⟩ (Nat.zero_le _) ⟨rfl,rfl,trivial⟩ (fun i hI=>?_);refine zjq 5 O ?_;refine zgq (w':=.int .i64 (l.length:Int)) O O Xy ?_;refine zaq 3 O ?_;refine zyq rfl (fun h1=>?_) (fun h1=>?_)
 ·have hi:i<l.length:=by omega
  obtain⟨c,hc⟩:∃c,l[i]? =some c:=⟨_,List.getElem?_eq_getElem hi⟩
  have hcl:=c.toNat_lt;have hn:=ZLq (l:=l) (i:=i) Xd;have ht:=numB_take hc
  have hlt:numB (l.take (i+1))<18446744073709551616:=by
   have h1:=YQq (l.take (i+1));have h2:256^(l.take (i+1)).length<=256^(i+1):=Nat.pow_le_pow_right Xd Xu;have h3:=pow256_le (i:=i+1) Xd;omega
  refine zeq 6 O ?_;refine zlq (256*numB (l.take i)) O O Xi ⟨by omega,by omega⟩ ?_;refine zaq 2 O ?_;refine zbq rfl (zBq (i:=i) O O O O O O O (v1q hc)) (znq O O (zlq (c.toNat) O O Xi ⟨by omega,by omega⟩ ?_));refine zlq (numB (l.take (i+1))) O O (by rw[ht];omega) ⟨by omega,by omega⟩ ?_;refine zaq 6 O ?_;refine zlq (i+1) O O Xi ⟨by omega,by omega⟩ ?_;refine yyq 2 O ?_;exact z5q (i+1) (hi) Xd ⟨rfl,rfl,trivial⟩ ⟨rfl,rfl,trivial⟩ Xg Xd Xm rfl
 ·have hi:i=l.length:=by omega
  subst hi;rw[List.take_length];refine zeq 2 O ?_;refine z3q Xj ?_;refine zCq 9 O ?_;exact zhq (.inr rfl) O O
theorem qaq(n size:Nat)(hn:n<18446744073709551616)(hs8:size<=8):qiq cfg G 236 0 [.int .u64 (n:Int),.int .i64 (size:Int)] [] fun w hp nw=>
  w= .tup [.sl 0 0 0 size 1 none,.bool (decide (n/256^size=0))]/\hp=[(0,5,.arr (size*1) 1 (zdq (beB size n)))]/\nw=1:=by
 intro R;refine zVq (fn:=Tryz.f236) O O O (Ob rfl) (fun k0=>?_);refine zjq 9 O ?_;refine znq rfl (J3q (l:=size) (c:=size) O O O O O O O O (Nat.le_refl _) (by show 1*size<=_;omega) Xd O O) ?_;refine zaq 7 O ?_;refine op_z ((size:Int) -1-((0:Nat):Int)) O O Xd ⟨by omega,by omega⟩ ?_;refine zaq 4 O ?_;refine q6q (α:=Nat×Nat) (fun p=>p.1<=size/\p.2=n/256^p.1) (fun p=>[(7,.int .i64 ((size:Int) -1-(p.1:Int))),(0,.int .u64 (p.2:Nat))]) [(4,_),(5,_),(6,_)] (fun p=>[(0,5,.arr (size*1) 1 (zdq (List.replicate (size-p.1) 0++beB p.1 n)))]) (fun p=>size-p.1) ((0,n)) ⟨rfl,rfl,rfl,trivial⟩ (⟨Nat.zero_le _,by simp⟩) ⟨rfl,rfl,trivial⟩ (by simp only[be_zero];rfl) (fun p hI=>?_);obtain⟨i,q⟩:=p;obtain⟨g1,g2⟩:=hI;simp only at g1 g2⊢;have hlt:q<18446744073709551616:=by rw[g2];exact Nat.lt_of_le_of_lt (Nat.div_le_self _ _) hn
 refine zjq 7 O ?_;refine zyq rfl (fun h1=>?_) (fun h1=>?_)
 ·have hi:i<size:=by omega
  have hq:q/256=n/256^(i+1):=by rw[g2,Nat.div_div_eq_div_mul,<-Nat.pow_succ]
  have hset:=be_set n size i hi;rw[<-g2] at hset;refine zeq 7 O ?_;refine zgq (w':=.int .i64 ((size-1-i:Nat):Int)) O O (by congr 1;omega) ?_;refine zbq O O (zgq (w':=.int .u64 ((q%256:Nat):Int)) O O (congrArg (W.int .u64) (xjq q 256)) (zlq (q%256) O O Xi ⟨by omega,by omega⟩ ?_));refine zbq rfl (zLq (i:=size-1-i) O O O O O O O Xd) ?_;refine znq rfl (jLq O O O O O (qSq (be_at n size i hi) O O) (congrArg (fun L=>[(0,5,W.arr (size*1) 1 L)]) hset)) ?_;refine zaq 4 O ?_;refine zlq (q/256) O O (kPq q 256) ⟨by omega,by omega⟩ ?_;refine zaq 6 O ?_;refine op_z ((size:Int) -1-((i+1:Nat):Int)) O O Xd ⟨by omega,by omega⟩ ?_;refine yyq 2 O ?_;exact jDq ((i+1,q/256)) (⟨hi,hq⟩) Yh ⟨rfl,rfl,trivial⟩ ⟨rfl,rfl,rfl,trivial⟩ rfl
 ·have hi:i=size:=by omega
  subst hi;refine zeq 2 O ?_;refine qoq Xj ?_;refine zCq 6 O ?_;refine zgq (w':=.bool (decide (n/256^i=0))) O O (congrArg W.bool (by rw[Bool.eq_iff_iff,eqI_iff,decide_eq_true_iff,<-g2];omega)) ?_;refine zaq 5 O ?_;refine fin (.inr rfl) Ent.refl rfl ⟨rfl,rfl,?_,rfl⟩;rw[Nat.sub_self];rfl
theorem rabytes_s(a:Acct)(h:a.ok):PS cfg G 273 [aW a] (bW (qTq a)):=by
 have h1:a.nonce<18446744073709551616:=h.1;have h2:a.balance<18446744073709551616:=h.2;refine zFq (fn:=Tryz.f273) O O O (Ob rfl) (fun R k0=>?_);have l1:(zdq (beB 8 a.nonce)).length=8:=by rw[ziq,yCq]
 have l2:(zdq (beB 8 a.balance)).length=8:=by rw[ziq,yCq]
 refine zjq 10 O ?_
 ((refine zrq rfl (qgq O O O O O O (qaq _ 8 Xv Xd) ?_);rintro w hp1 nw1 ⟨rfl,rfl,rfl⟩))
 refine zaq 11 O ?_
 ((refine zrq rfl (qgq O O O O O O (qaq _ 8 Xv Xd) ?_);rintro w hp1 nw1 ⟨rfl,rfl,rfl⟩))
 refine zaq 11 O ?_;refine znq rfl (yoq O O (qxq (k:=ti5) (len:=8) (news:=zdq (beB 8 a.balance)) (olds:=zdq (beB 8 a.nonce)) O O O O (ymq O O O (kxq (n:=8) (m:=8) l2.symm rfl)) (by intro h;rw[h] at l2;simp at l2) Qh Qh rfl (by show 8*1<0+(8+(zdq (beB 8 a.balance)).length)*1;rw[l2];omega) rfl (kxq (n:=8) (m:=8) l1.symm rfl))) ?_;refine zaq 4 O ?_;refine xJq (fr2:=[(2,bW (qTq a))]) (.inr rfl) ⟨⟨_,rfl,.sl (xs:=zdq (qTq a)) rfl Xk ?_ Xj⟩,trivial⟩ O O;rw[qTq,y6q,l2];exact kxq (n:=16) (by rw[List.length_append,l1,l2]) rfl
theorem raread_s(l:List UInt8)(f:Bool):PS cfg G 234 [.fz (zdq l) 1 f] (.tup [aW (qLq l).1,.int .i64 ((qLq l).2:Nat)]):=by
 have e:=ziq l;refine q7q (fn:=Tryz.f234) O O O (Ob rfl) (fun R k0=>?_);refine zjq 10 O ?_;refine zgq (w':=.int .i64 (l.length:Int)) O O Xy ?_;refine zaq 3 O ?_;refine zyq rfl (fun h1=>?_) (fun h1=>?_)
 ·have q:qLq l=(.zero,10):=by unfold qLq;rw[if_pos Xd]
  rw[q];refine zeq 9 O ?_;refine jrq Xx O ?_
  (repeat (first|exact .nil|refine .cons ?_ ?_|exact jBq|exact .nilfz|refine .fn ?_ ?_|(refine y9q O ?_ rfl;(first|rfl|(focus (simp;done))))|(refine .sl O ?_ rfl Xj;(first|rfl|(focus (simp;done))))|(refine .pur ?_;(first|rfl|(focus (simp;done))))|(refine .fzw ?_;(first|rfl|(focus (simp;done))))|refine .agg ?_|refine .arr ?_|refine .tup ?_))
 refine zeq 6 O ?_;refine zgq (w':=.int .i64 (l.length:Int)) O O Xy ?_;refine zaq 3 O ?_;refine zyq rfl (fun h2=>?_) (fun h2=>?_)
 ·have q:qLq l=(.zero,11):=by unfold qLq;rw[if_neg Xd,if_pos Xd]
  rw[q];refine zeq 9 O ?_;refine jrq Xx O ?_
  (repeat (first|exact .nil|refine .cons ?_ ?_|exact jBq|exact .nilfz|refine .fn ?_ ?_|(refine y9q O ?_ rfl;(first|rfl|(focus (simp;done))))|(refine .sl O ?_ rfl Xj;(first|rfl|(focus (simp;done))))|(refine .pur ?_;(first|rfl|(focus (simp;done))))|(refine .fzw ?_;(first|rfl|(focus (simp;done))))|refine .agg ?_|refine .arr ?_|refine .tup ?_))
 have hl:l.length=16:=by omega
 have q:qLq l=if (⟨numB (l.take 8),numB (l.drop 8)⟩:Acct)= .zero then(.zero,8) else(⟨numB (l.take 8),numB (l.drop 8)⟩,0):=by unfold qLq;rw[if_neg Xd,if_neg Xd]
 rw[q];refine zeq 5 O ?_;refine zcq rfl (xbq (ys:=zdq (l.take 8)) (l:=0) (h:=8) O O O O O O O Xd Xd (by rw[List.drop_zero,Quq]) rfl) ?_;refine yxq O O O O O O (rnumber_s _ _ Xu) ?_;refine zcq O O (zcq rfl (xbq (ys:=zdq (l.drop 8)) (l:=8) (h:=(zdq l).length) O O O O O O O Xd (Nat.le_refl _) (by rw[List.take_of_length_le Xk,Qvq]) rfl) ?_);refine yxq O O O O O O (rnumber_s _ _ Xu) ?_;refine zoq 10 O ?_;refine yZq O O (fun h3=>?_) (fun h3=>?_)
 ·have z1:numB (l.take 8)=0:=by omega
  refine zaq 3 O ?_;refine yVq O O ?_;refine zaq 3 O ?_;refine zyq rfl (fun h4=>?_) (fun h4=>?_)
  ·have z2:numB (l.drop 8)=0:=by omega
   rw[if_pos (by rw[z1,z2];rfl)];refine zeq 9 O ?_;refine jrq Xx O ?_
   (repeat (first|exact .nil|refine .cons ?_ ?_|exact jBq|exact .nilfz|refine .fn ?_ ?_|(refine y9q O ?_ rfl;(first|rfl|(focus (simp;done))))|(refine .sl O ?_ rfl Xj;(first|rfl|(focus (simp;done))))|(refine .pur ?_;(first|rfl|(focus (simp;done))))|(refine .fzw ?_;(first|rfl|(focus (simp;done))))|refine .agg ?_|refine .arr ?_|refine .tup ?_))
  ·have z2:¬numB (l.drop 8)=0:=by omega
   rw[if_neg fun h=>z2 (by injection h)];refine zeq 10 O ?_;refine jrq Xx O ?_
   (repeat (first|exact .nil|refine .cons ?_ ?_|exact jBq|exact .nilfz|refine .fn ?_ ?_|(refine y9q O ?_ rfl;(first|rfl|(focus (simp;done))))|(refine .sl O ?_ rfl Xj;(first|rfl|(focus (simp;done))))|(refine .pur ?_;(first|rfl|(focus (simp;done))))|(refine .fzw ?_;(first|rfl|(focus (simp;done))))|refine .agg ?_|refine .arr ?_|refine .tup ?_))
 ·have z1:¬numB (l.take 8)=0:=by omega
  rw[if_neg fun h=>z1 (by injection h)];refine zaq 18 O ?_;refine jrq Xx O ?_
  (repeat (first|exact .nil|refine .cons ?_ ?_|exact jBq|exact .nilfz|refine .fn ?_ ?_|(refine y9q O ?_ rfl;(first|rfl|(focus (simp;done))))|(refine .sl O ?_ rfl Xj;(first|rfl|(focus (simp;done))))|(refine .pur ?_;(first|rfl|(focus (simp;done))))|(refine .fzw ?_;(first|rfl|(focus (simp;done))))|refine .agg ?_|refine .arr ?_|refine .tup ?_))
end
section
attribute [local irreducible] CoW OpW FlW Step Spec
variable {G:Nat->Option W}
def HeldB(ps:List Pr):Prop:=∀p∈ps,(qLq p.2).2=0
noncomputable instance(ps:List Pr):Decidable (HeldB ps):=Classical.propDecidable _
theorem rheld_s(ps:List Pr)(f:Bool)(hb:ps.length<=1000000000):PS cfg G 171 [.fz (ps.map pW) 33 f] (.bool (decide (HeldB ps))):=by
 have e:(ps.map pW).length=ps.length:=List.length_map _;refine zFq (fn:=Tryz.f171) O O O (Ob rfl) (fun R k0=>?_);refine zjq 12 O ?_;refine yEq (α:=Nat) (fun i=>i<=ps.length/\∀j x,j<i->ps[j]? =some x->(qLq x.2).2=0) (fun i=>[(3,.int .i64 (i:Int))]) [(0,_),(2,_)] (fun i=>ps.length-i) (0) ⟨rfl,rfl,trivial⟩ (⟨Nat.zero_le _,fun j x h=>by omega⟩) ⟨rfl,trivial⟩ (fun i hI=>?_);obtain⟨g1,g2⟩:=hI;refine zjq 5 O ?_;refine zgq (w':=.int .i64 (ps.length:Int)) O O Xy ?_;refine zaq 3 O ?_;refine zyq rfl (fun h1=>?_) (fun h1=>?_)
 ·have hi:i<ps.length:=by omega
  obtain⟨x,hx⟩:∃x,ps[i]? =some x:=⟨_,List.getElem?_eq_getElem hi⟩
  refine zeq 8 O ?_;refine zbq rfl (zBq (i:=i) O O O O O O O (zYq pW hx)) ?_;refine zaq 2 O ?_;refine zkq O O O O O O (raread_s _ _) ?_;refine zaq 14 O ?_;refine zyq rfl (fun h2=>?_) (fun h2=>?_)
  ·refine zeq 8 O ?_;refine z3q Xj ?_;refine zCq 2 O ?_;have hno:¬HeldB ps:=fun h=>by have:=h x (List.mem_of_getElem? hx);omega
   exact zhq (.inr rfl) rfl Ym
  ·have h0:(qLq x.2).2=0:=by omega
   refine zeq 5 O ?_;refine zlq (i+1) O O Xi ⟨by omega,by omega⟩ ?_;refine yyq 2 O ?_;exact z5q (i+1) (⟨hi,fun j y hj hy=>by rcases Nat.lt_succ_iff_lt_or_eq.1 hj with q|rfl;exact g2 j y q hy;have:=Option.some.inj (hx.symm.trans hy);subst this;exact h0⟩) Xd ⟨rfl,trivial⟩ ⟨rfl,rfl,trivial⟩ Xg Xd Xm rfl
 ·refine zeq 2 O ?_;refine z3q Xj ?_;refine zCq 8 O ?_
  have yes:HeldB ps:=fun p hp=>by
   obtain⟨j,hj⟩:=List.getElem?_of_mem hp;have:=(List.getElem?_eq_some_iff.1 hj).1;exact g2 j p Xd hj
  exact zhq (.inr rfl) rfl (by rw[decide_eq_true yes])
theorem mayA_iff{t:Tree}{n:Nat}{t0:T}(h:IsT t n t0):MayA t↔HeldB t0.all:=by
 constructor
 ·rintro⟨n',t',h'⟩;have hn:n=n':=by have:=h.root;have:=h'.root;omega
  subst hn;rw[h.rep.uniq h'.rep];exact h'.held
 ·exact fun q=>⟨n,t0,h,q⟩
theorem mayA_T{t:Tree}(h:MayA t):MayT t:=by obtain⟨n,t0,h⟩:=h;exact h.toIsT.may
theorem Zjq(t:Tree)(hb:t.nodes.length<=4611686018427387903):PS cfg G 97 [tW t] (.bool (decide (MayA t))):=by
 by_cases hT:MayT t
 ·obtain⟨n,t0,h⟩:=may_is hT;have hl:t0.all.length<=1000000000:=by have:=h.all_le;have:=h.len;omega
  have h2:decide (MayA t)=decide (HeldB t0.all):=decide_eq_decide.2 (mayA_iff h);rw[h2];refine zFq (fn:=Tryz.f97) O O O (Ob rfl) (fun R k0=>?_);refine zjq 9 O ?_;refine zkq O O O O O O (yrq (w':=.bool true) (rmay_s t hb) (by rw[decide_eq_true hT])) ?_;refine uLq (fun h1=>?_) (fun h1=>?_)
  ·refine zaq 2 O ?_;refine zkq O O O O O O (rall_s t n t0 h) ?_;refine zkq O O O O O O (rheld_s _ _ Xv) ?_;refine zaq 5 O ?_;exact zhq (.inr rfl) O O
  ·exfalso;exact h1 rfl
 ·have h2:decide (MayA t)=false:=decide_eq_false fun h=>hT (mayA_T h)
  rw[h2];refine zFq (fn:=Tryz.f97) O O O (Ob rfl) (fun R k0=>?_);refine zjq 9 O ?_;refine zkq O O O O O O (yrq (w':=.bool false) (rmay_s t hb) (by rw[decide_eq_false hT])) ?_;refine uLq (fun h1=>?_) (fun h1=>?_)
  ·exfalso;cases h1
  ·refine zaq 9 O ?_;exact zhq (.inr rfl) O O
theorem idx_find(k:Dig):∀ps:List Pr,(∃(i:Nat) (x:Pr),ps[i]? =some x/\idxP ps k=i/\jqq ps k=some x.2)\/(idxP ps k=-1/\jqq ps k=none)
 |[]=>.inr ⟨rfl,rfl⟩
 | p ::ps=>by
  by_cases e:p.1=k
  ·refine .inl ⟨0,p,rfl,?_,?_⟩
   ·simp[idxP,List.findIdx?_cons,e]
   ·simp[jqq,e]
  ·rcases idx_find k ps with ⟨i,x,h1,h2,h3⟩|⟨h1,h2⟩
   ·refine .inl ⟨i+1,x,by simpa using h1,?_,?_⟩
    ·unfold idxP at h2⊢;rw[List.findIdx?_cons];simp only[e,decide_false,Bool.false_eq_true,if_false];cases hq:ps.findIdx? (fun p=>decide (p.1=k)) with
     |none=>rw[hq] at h2;exfalso;simp only at h2;omega
     |some j=>rw[hq] at h2;simp only[Option.map_some] at h2⊢;omega
    ·rw[<-h3];simp[jqq,e]
   ·refine .inr ⟨?_,?_⟩
    ·unfold idxP at h1⊢;rw[List.findIdx?_cons];simp only[e,decide_false,Bool.false_eq_true,if_false];cases hq:ps.findIdx? (fun p=>decide (p.1=k)) with
     |none=>rfl
     |some j=>rw[hq] at h1;simp only at h1;omega
    ·rw[<-h2];simp[jqq,e]
def inA(ps:List Pr)(k:Dig):Acct:=match jqq ps k with
 |some v=>(qLq v).1
 |none=>.zero
theorem ZXq(ps:List Pr)(f:Bool)(k:Dig)(hb:ps.length<=1000000000):PS cfg G 195 [.fz (ps.map pW) 33 f,dW k] (aW (inA ps k)):=by
 rcases idx_find k ps with ⟨i,x,q1,q2,q3⟩|⟨q1,q2⟩
 ·have e:inA ps k=(qLq x.2).1:=by unfold inA;rw[q3]
  have hi:=(List.getElem?_eq_some_iff.1 q1).1;rw[e];refine zFq (fn:=Tryz.f195) O O O (Ob rfl) (fun R k0=>?_);refine zjq 10 O ?_;refine zkq O O O O O O (yrq (w':=.int .i64 (i:Int)) (rfind_s ps f k hb) (by rw[q2])) ?_;refine zaq 10 O ?_;refine zyq rfl (fun h1=>?_) (fun h1=>?_)
  ·exfalso;omega
  ·refine zeq 6 O ?_;refine zbq rfl (zBq (i:=i) O O O O O O O (zYq pW q1)) ?_;refine zaq 2 O ?_;refine zkq O O O O O O (raread_s _ _) ?_;refine zaq 15 O ?_;exact zhq (.inr rfl) O O
 ·have e:inA ps k= .zero:=by unfold inA;rw[q2]
  rw[e];refine zFq (fn:=Tryz.f195) O O O (Ob rfl) (fun R k0=>?_);refine zjq 10 O ?_;refine zkq O O O O O O (yrq (w':=.int .i64 (-1)) (rfind_s ps f k hb) (by rw[q1])) ?_;refine zaq 10 O ?_;refine zyq rfl (fun h1=>?_) (fun h1=>?_)
  ·refine zeq 8 O ?_;exact zhq (.inr rfl) O O
  ·exfalso;omega
end
section
attribute [local irreducible] CoW OpW FlW Step Spec
variable {G:Nat->Option W}
noncomputable def QIq(ps:List Pr)(k:Dig)(a:Acct):List Pr:=if a= .zero then zKq ps k else withR ps k (qTq a)
theorem voq{l:List Pr}(h:Srt l)(k:Dig)(a:Acct):QIq l k a=setL l k a:=by
 unfold QIq setL;rw[Jzq h]
theorem acct_zero{a:Acct}:a= .zero↔a.nonce=0/\a.balance=0:=by cases a;simp[Acct.zero]
theorem JSq(ps:List Pr)(f:Bool)(k:Dig)(a:Acct)(ha:a.ok)(hb:ps.length<=1000000)(hv:∀x∈ps,x.2.length<=70368744177664):PS cfg G 239 [.fz (ps.map pW) 33 f,dW k,aW a] (psW (QIq ps k a)):=by
 have lb:=uIq a;refine zFq (fn:=Tryz.f239) O O O (Ob rfl) (fun R k0=>?_);refine zjq 12 O ?_;refine yZq O O (fun h1=>?_) (fun h1=>?_)
 ·refine zaq 3 O ?_;refine yVq O O ?_;refine zaq 3 O ?_;refine zyq rfl (fun h2=>?_) (fun h2=>?_)
  ·have hz:a= .zero:=acct_zero.2 ⟨by omega,by omega⟩;refine zeq 4 O ?_;refine zkq O O O O O O (Q4q ps f k Xd hv) ?_;refine zaq 5 O ?_;exact zhq (.inr rfl) rfl (by unfold QIq;rw[if_pos hz])
  ·have hz:¬a= .zero:=fun q=>by have:=acct_zero.1 q;omega
   refine zeq 7 O ?_;refine yxq O O O O O O (rabytes_s _ Xv) ?_;refine yxq O O O O O O (rwith_s ps f false k (qTq a) hb hv Xd) ?_;refine zoq 4 O ?_;exact zhq (.inr rfl) rfl (by unfold QIq;rw[if_neg hz])
 ·have hz:¬a= .zero:=fun q=>by have:=acct_zero.1 q;omega
  refine zaq 15 O ?_;refine yxq O O O O O O (rabytes_s _ Xv) ?_;refine yxq O O O O O O (rwith_s ps f false k (qTq a) hb hv Xd) ?_;refine zoq 4 O ?_;exact zhq (.inr rfl) rfl (by unfold QIq;rw[if_neg hz])
end
theorem p32:(4294967296:Nat)=2^32:=by decide
noncomputable def fz{α:Type}(n:Nat)(c:Nat->α):α:=Nat.rec (c 0) (fun m _=>c (Nat.succ m)) n
structure S8.Ok(s:S8):Prop where
 a:s.a<4294967296
 b:s.b<4294967296
 c:s.c<4294967296
 d:s.d<4294967296
 e:s.e<4294967296
 f:s.f<4294967296
 g:s.g<4294967296
 h:s.h<4294967296
theorem uPq(a b:Nat):addN a b<4294967296:=Nat.mod_lt _ Xq
theorem rnd_ok{s:S8}(h:s.Ok)(k w:Nat):(roundN k w s).Ok:=⟨uPq _ _,h.a,h.b,h.c,uPq _ _,h.e,h.f,h.g⟩
noncomputable def wS(bs:Nat->Nat)(i:Nat):Nat:=(yHq bs (i+1)).getD i 0
theorem rounds_ok{s:S8}(h:s.Ok)(ws:List Nat):∀t,(x7q ws s t).Ok
 |0=>h
 |t+1=>rnd_ok (rounds_ok h ws t) _ _
theorem word_eq{b0 b1 b2 b3:Nat}(h0:b0<256)(h1:b1<256)(h2:b2<256)(h3:b3<256):wordN b0 b1 b2 b3=Nat.lor (Nat.lor (Nat.lor (Nat.shiftLeft b0 24) (Nat.shiftLeft b1 16)) (Nat.shiftLeft b2 8)) b3:=by
 have s:∀b n,b<256->n<=24->Nat.shiftLeft b n<4294967296:=fun b n hb hn=>by
  show b<<<n<4294967296;rw[Nat.shiftLeft_eq];have:2^n<=2^24:=Nat.pow_le_pow_right Xq hn;have:=Nat.mul_le_mul (show b<=255 by omega) this;omega
 have e:∀b n,b<256->n<=24->shlN (b%4294967296) n=Nat.shiftLeft b n:=fun b n hb hn=>by
  unfold shlN;rw[Nat.min_eq_left Xd,Nat.mod_eq_of_lt (show b<4294967296 by omega),Nat.mod_eq_of_lt (s b n hb hn)]
 have o:∀a b,a<4294967296->b<4294967296->orN a b=Nat.lor a b:=fun a b ha hb=>by
  unfold orN;rw[Nat.mod_eq_of_lt ha,Nat.mod_eq_of_lt hb]
 have ol:∀a b,a<4294967296->b<4294967296->Nat.lor a b<4294967296:=fun a b ha hb=>by
  rw[p32] at*
  exact Nat.or_lt_two_pow ha hb
 unfold wordN;rw[e b0 24 h0 Xq,e b1 16 h1 Xq,e b2 8 h2 Xq,Nat.mod_eq_of_lt (show b3<4294967296 by omega)];rw[o _ _ (s b0 24 h0 Xq) (s b1 16 h1 Xq),o _ _ (ol _ _ (s b0 24 h0 Xq) (s b1 16 h1 Xq)) (s b2 8 h2 Xq),o _ _ (ol _ _ (ol _ _ (s b0 24 h0 Xq) (s b1 16 h1 Xq)) (s b2 8 h2 Xq)) Xd]
noncomputable def small(l:List Nat):Prop:=∀b∈l,b<256
theorem small_at{l:List Nat}(h:small l)(i:Nat):atL l i<256:=by
 unfold atL;rw[List.getD_eq_getElem?_getD];cases hq:l[i]? with
 |none=>show(0:Nat)<256;decide
 |some b=>exact h b (List.mem_of_getElem? hq)
theorem block_ok(s:S8)(bs:Nat->Nat):(jOq bs s).Ok:=⟨uPq _ _,uPq _ _,uPq _ _,uPq _ _,uPq _ _,uPq _ _,uPq _ _,uPq _ _⟩
theorem pad_eq:∀(n:Nat) (r:List Nat),(120-r.length%64)%64<=n->padZ n r=r++List.replicate ((120-r.length%64)%64) 0
 |0,r,h=>by
  rw[Nat.le_zero.1 h];simp[padZ]
 |n+1,r,h=>by
  unfold padZ;cases hb:Nat.beq (r.length%64) 56 with
  |true=>
   have:=Nat.eq_of_beq_eq_true hb;rw[this];simp
  |false=>
   have hne:r.length%64≠56:=fun e=>by rw[e] at hb;cases hb
   show padZ n (r++[0])=_;have hl:(r++[0]).length=r.length+1:=by simp
   rw[pad_eq n (r++[0]) (by rw[hl];omega),hl,List.append_assoc];have:(120-r.length%64)%64=(120-(r.length+1)%64)%64+1:=by omega
   rw[this];rfl
section
attribute [local irreducible] CoW OpW FlW Step Spec
variable {G:Nat->Option W}
noncomputable def rotT(x n:Nat):Nat:=orN (shrN x n) (shlN x (32-n))
theorem rotT_eq{x n:Nat}(hn:n<=32):rotT x n=rotN x n:=by
 unfold rotT rotN orN shrN shlN;rw[Nat.min_eq_left hn,Nat.min_eq_left (Nat.sub_le _ _)];exact Nat.or_comm _ _
theorem jdq(n:Nat)(hn:n=2\/n=6\/n=7\/n=11\/n=13\/n=17\/n=18\/n=19\/n=22\/n=25)(x:Nat):PS cfg G 298 [wd x,wd n] (wd (rotN x n)):=by
 have key:∀h,qVq cfg 20 298 [.int .u32 (.ofNat x),.int .u32 (.ofNat n)] h=some (.int .u32 (.ofNat (rotT x n)),h):=by
  intro h;rcases hn with rfl|rfl|rfl|rfl|rfl|rfl|rfl|rfl|rfl|rfl<;>kernel_rfl
 have e:rotT x n=rotN x n:=rotT_eq Xd;rw[e] at key;refine uAq (spec_run key (fun Γ us h=>?_) (fun Γ=>RV_int.2 rfl)) fun w hp nw h=>h.1
 obtain⟨v,vs,rfl,h1,h2⟩:=RVL_cons.1 h;obtain⟨v',vs',rfl,h3,h4⟩:=RVL_cons.1 h2;rw[RVL_nil.1 h4,RV_int.1 h1,RV_int.1 h3]
theorem sub_not{e:Nat}(he:e<4294967296):4294967295-e=notN e:=by
 unfold notN;rw[Nat.mod_eq_of_lt he];have h:=BitVec.toNat_not (x:=BitVec.ofNat 32 e);rw[<-BitVec.allOnes_xor] at h;simp only[BitVec.toNat_xor,BitVec.toNat_allOnes,BitVec.toNat_ofNat] at h;rw[Nat.mod_eq_of_lt (show e<2^32 from he)] at h;exact h.symm
theorem wrap_not{e:Nat}(he:e<4294967296):W.int .u32 (kaq .u32 ((4294967295:Int) -Int.ofNat e))=wd (notN e):=by
 rw[<-sub_not he]
 have:(4294967295:Int) -Int.ofNat e=((4294967295-e:Nat):Int):=by
  show(4294967295:Int) -(e:Int)=_;omega
 rw[this];show W.int .u32 (((4294967295-e)%4294967296:Nat):Int)=W.int .u32 ((4294967295-e:Nat):Int);rw[Nat.mod_eq_of_lt Xd]
theorem rround_s(v:S8)(hv:v.Ok)(k w:Nat):PS cfg G 295 [.arr 8 1 v.l,wd k,wd w] (.arr 8 1 (roundN k w v).l):=by
 refine zFq (fn:=Tryz.f295) O O O (Ob rfl) (fun R k0=>?_);refine zjq 8 O ?_;first|refine zcq rfl (zBq O O O O O O O Xl) ?_|refine zcq rfl (zLq O O O O O O O Xd) ?_|refine zcq rfl (zsq O O O O O O Xd) ?_|refine zcq O O ?_
 refine yOq O O ?_;first|refine zcq rfl (zBq O O O O O O O Xl) ?_|refine zcq rfl (zLq O O O O O O O Xd) ?_|refine zcq rfl (zsq O O O O O O Xd) ?_|refine zcq O O ?_
 refine yOq O O ?_;first|refine zcq rfl (zBq O O O O O O O Xl) ?_|refine zcq rfl (zLq O O O O O O O Xd) ?_|refine zcq rfl (zsq O O O O O O Xd) ?_|refine zcq O O ?_
 refine yOq O O ?_;first|refine zcq rfl (zBq O O O O O O O Xl) ?_|refine zcq rfl (zLq O O O O O O O Xd) ?_|refine zcq rfl (zsq O O O O O O Xd) ?_|refine zcq O O ?_
 refine yOq O O ?_;first|refine zcq rfl (zBq O O O O O O O Xl) ?_|refine zcq rfl (zLq O O O O O O O Xd) ?_|refine zcq rfl (zsq O O O O O O Xd) ?_|refine zcq O O ?_
 refine yOq O O ?_;first|refine zcq rfl (zBq O O O O O O O Xl) ?_|refine zcq rfl (zLq O O O O O O O Xd) ?_|refine zcq rfl (zsq O O O O O O Xd) ?_|refine zcq O O ?_
 refine yOq O O ?_;first|refine zcq rfl (zBq O O O O O O O Xl) ?_|refine zcq rfl (zLq O O O O O O O Xd) ?_|refine zcq rfl (zsq O O O O O O Xd) ?_|refine zcq O O ?_
 refine yOq O O ?_;first|refine zcq rfl (zBq O O O O O O O Xl) ?_|refine zcq rfl (zLq O O O O O O O Xd) ?_|refine zcq rfl (zsq O O O O O O Xd) ?_|refine zcq O O ?_
 refine zoq 15 O ?_;refine zkq O O O O O O (jdq _ Xk _) ?_;refine zbq O O (zkq O O O O O O (jdq _ Xk _) ?_);refine zaq 2 O ?_;refine zkq O O O O O O (jdq _ Xk _) ?_;refine zaq 6 O ?_;refine zgq (w':=wd (notN v.e)) O O (wrap_not hv.e) ?_;refine zaq 14 O ?_;refine zkq O O O O O O (jdq _ Xk _) ?_;refine zbq O O (zkq O O O O O O (jdq _ Xk _) ?_);refine zaq 2 O ?_;refine zkq O O O O O O (jdq _ Xk _) ?_;refine zaq 35 O ?_;exact zhq (.inr rfl) O O
end
section
attribute [local irreducible] CoW OpW FlW Step Spec
variable {G:Nat->Option W}
theorem words_s:PS cfg G 293 [] (.arr 64 1 (kW.map wd)):=by
 refine zFq (fn:=Tryz.f293) O O O (Ob rfl) (fun R k0=>?_);refine zjq 12 O ?_;exact zhq (.inr rfl) O O
noncomputable def horn(bs:Nat->Nat)(t:Nat):Nat->Nat
 |0=>0
 |i+1=>addN (256*horn bs t i%4294967296) (bs (4*t+i))
theorem horn_word{bs:Nat->Nat}(hb:∀i,bs i<256)(t:Nat):horn bs t 4=wordN (bs (4*t)) (bs (4*t+1)) (bs (4*t+2)) (bs (4*t+3)):=by
 have h0:=hb (4*t);have h1:=hb (4*t+1);have h2:=hb (4*t+2);have h3:=hb (4*t+3);rw[word_eq h0 h1 h2 h3];have e1:=Nat.shiftLeft_add_eq_or_of_lt (i:=8) (b:=bs (4*t+1)) Xd (bs (4*t));have s:∀a i:Nat,Nat.shiftLeft a i=a*2^i:=fun a i=>Nat.shiftLeft_eq a i
 have o1:Nat.lor (Nat.shiftLeft (bs (4*t)) 24) (Nat.shiftLeft (bs (4*t+1)) 16)=bs (4*t)*16777216+bs (4*t+1)*65536:=by
  have:=Nat.shiftLeft_add_eq_or_of_lt (i:=24) (b:=bs (4*t+1)*65536) Xd (bs (4*t));rw[Nat.shiftLeft_eq] at this;rw[s (bs (4*t+1)) 16];show bs (4*t)<<<24|||(bs (4*t+1)*2^16)=_
  rw[Nat.shiftLeft_eq];exact this.symm
 have o2:Nat.lor (bs (4*t)*16777216+bs (4*t+1)*65536) (Nat.shiftLeft (bs (4*t+2)) 8)=bs (4*t)*16777216+bs (4*t+1)*65536+bs (4*t+2)*256:=by
  have q:bs (4*t)*16777216+bs (4*t+1)*65536=(bs (4*t)*256+bs (4*t+1))*65536:=by rw[Nat.add_mul,Nat.mul_assoc]
  have:=Nat.shiftLeft_add_eq_or_of_lt (i:=16) (b:=bs (4*t+2)*256) Xd (bs (4*t)*256+bs (4*t+1));rw[Nat.shiftLeft_eq,show(2:Nat)^16=65536 from rfl] at this;rw[s];show(bs (4*t)*16777216+bs (4*t+1)*65536)|||(bs (4*t+2)*256)=_
  rw[q];exact this.symm
 have o3:Nat.lor (bs (4*t)*16777216+bs (4*t+1)*65536+bs (4*t+2)*256) (bs (4*t+3))=bs (4*t)*16777216+bs (4*t+1)*65536+bs (4*t+2)*256+bs (4*t+3):=by
  have q:bs (4*t)*16777216+bs (4*t+1)*65536+bs (4*t+2)*256=(bs (4*t)*65536+bs (4*t+1)*256+bs (4*t+2))*256:=by rw[Nat.add_mul,Nat.add_mul,Nat.mul_assoc,Nat.mul_assoc]
  have:=Nat.shiftLeft_add_eq_or_of_lt (i:=8) (b:=bs (4*t+3)) Xd (bs (4*t)*65536+bs (4*t+1)*256+bs (4*t+2));rw[Nat.shiftLeft_eq,show(2:Nat)^8=256 from rfl] at this;show(bs (4*t)*16777216+bs (4*t+1)*65536+bs (4*t+2)*256)|||bs (4*t+3)=_
  rw[q];exact this.symm
 rw[o1,o2,o3];simp only[horn,addN];rw[show 4*t+0=4*t from rfl];omega
end
section
attribute [local irreducible] CoW OpW FlW Step Spec
variable {G:Nat->Option W}
noncomputable def bsL(l:List UInt8):Nat->Nat:=atL (l.map UInt8.toNat)
theorem bsL_lt(l:List UInt8)(i:Nat):bsL l i<256:=small_at (fun b hb=>by obtain⟨c,_,rfl⟩:=List.mem_map.1 hb;exact c.toNat_lt) i
theorem bsL_at{l:List UInt8}{i:Nat}(h:i<l.length):(zdq l)[i]? =some (.int .u8 ((bsL l i:Nat):Int)):=by
 unfold zdq bsL atL;rw[List.getElem?_map,List.getElem?_eq_getElem h];simp[List.getD,List.getElem?_eq_getElem h]
theorem pad0_snoc{L:List Nat}{n:Nat}(h:L.length<n):pad0 (L++[0]) n=pad0 L n:=by
 unfold pad0;rw[show n-L.length=(n-(L++[0]).length)+1 by simp;omega,List.replicate_succ,List.append_assoc];rfl
theorem pad0_last{L:List Nat}{n x:Nat}(h:L.length<n):((pad0 (L++[x]) n).map wd)[L.length]? =some (wd x):=by
 rw[pad0_at Xk];simp[List.getD]
theorem pad0_turn{L:List Nat}{n x y:Nat}(h:L.length<n):((pad0 (L++[x]) n).map wd).set L.length (wd y)=(pad0 (L++[y]) n).map wd:=by
 rw[<-List.map_set];congr 1
 unfold pad0;rw[show(L++[x]).length=(L++[y]).length by simp,List.append_assoc,List.append_assoc,List.set_append_right _ _ (Nat.le_refl _),Nat.sub_self];rfl
noncomputable def schH(L:List Nat):HpW:=[(1,364,.arr 64 1 ((pad0 L 64).map wd)),(0,364,.arr 64 1 (List.replicate 64 (wd 0)))]
theorem sched_s(l:List UInt8)(f:Bool)(hl:l.length=64):PS cfg G 294 [.fz (zdq l) 1 f] (.arr 64 1 ((yHq (bsL l) 64).map wd)):=by
 obtain⟨bs,eb⟩:∃bs,bsL l=bs:=⟨_,rfl⟩
 have hb:∀i,bs i<256:=fun i=>by rw[<-eb];exact bsL_lt l i
 have hat:∀i,i<64->(zdq l)[i]? =some (.int .u8 ((bs i:Nat):Int)):=fun i hi=>by rw[<-eb];exact bsL_at Xd
 rw[eb];refine zFq (fn:=Tryz.f294) O O O (Ob rfl) (fun R k0=>?_);refine zjq 17 O ?_;refine q6q (α:=Nat) (fun t=>t<=16) (fun t=>[(4,.int .i64 (t:Int))]) [(0,_),(2,_),(3,_)] (fun t=>schH (yHq bs t)) (fun t=>16-t) (0) ⟨rfl,rfl,rfl,trivial⟩ (Nat.zero_le _) ⟨rfl,trivial⟩ (rfl) (fun t hI=>?_);have hsl:=x5q bs t;refine zjq 7 O ?_;refine zyq rfl (fun h1=>?_) (fun h1=>?_)
 ·have ht:t<16:=by omega
  refine zeq 10 O ?_;refine q6q (α:=Nat) (fun i=>i<=4) (fun i=>[(5,.int .i64 (i:Int))]) [(0,_),(2,_),(3,_),(4,_),(9,_),(10,_)] (fun i=>schH (yHq bs t++[horn bs t i])) (fun i=>4-i) (0) ⟨rfl,rfl,rfl,rfl,rfl,rfl,trivial⟩ (Nat.zero_le _) ⟨rfl,trivial⟩ (by show schH (yHq bs t)=schH (yHq bs t++[0]);unfold schH;rw[pad0_snoc Xd]) (fun i hI=>?_);have hc:=hb (4*t+i);have hL:((pad0 (yHq bs t++[horn bs t i]) 64).map wd)[0+t*1]? =some (wd (horn bs t i)):=by have:=pad0_last (L:=yHq bs t) (n:=64) (x:=horn bs t i) Xd;rw[hsl] at this;rw[Nat.zero_add,Nat.mul_one];exact this
  refine zjq 7 O ?_;refine zyq rfl (fun h2=>?_) (fun h2=>?_)
  ·have hi:i<4:=by omega
   have hset:((pad0 (yHq bs t++[horn bs t i]) 64).map wd).set (0+t*1) (wd (horn bs t (i+1)))=(pad0 (yHq bs t++[horn bs t (i+1)]) 64).map wd:=by have:=pad0_turn (L:=yHq bs t) (n:=64) (x:=horn bs t i) (y:=horn bs t (i+1)) Xd;rw[hsl] at this;rw[Nat.zero_add,Nat.mul_one];exact this
   refine zeq 7 O ?_;refine zcq rfl (zsq (i:=t) O O O O O O Xd) ?_;refine yqq rfl (ypq O O O (qfq hL rfl)) Xr ?_;refine jwq (w':=wd (256*horn bs t i%4294967296)) O O O ?_;refine zoq 2 O ?_;refine qNq (4*t) O O Xi ⟨by omega,by omega⟩ ?_;refine zcq O O (qNq (4*t+i) O O Xi ⟨by omega,by omega⟩ ?_);refine zcq rfl (zBq (i:=4*t+i) O O O O O O O (hat _ Xd)) ?_;refine yOq O O ?_;refine qNq (bs (4*t+i)) O O Xi ⟨by omega,by omega⟩ ?_;refine jwq (w':=wd (horn bs t (i+1))) O O O (zcq rfl (zsq (i:=t) O O O O O O Xd) ?_);refine yqq rfl (jLq O O O O O (qSq hL O O) rfl) Xr ?_;refine zoq 5 O ?_;refine zlq (i+1) O O Xi ⟨by omega,by omega⟩ ?_;refine yyq 2 O ?_;skip
   exact jDq (i+1) hi Xd ⟨rfl,trivial⟩ ⟨rfl,rfl,rfl,rfl,rfl,rfl,trivial⟩ Qe
  ·have hi:i=4:=by omega
   subst hi
   have hnx:yHq bs (t+1)=yHq bs t++[horn bs t 4]:=by
    rw[horn_word hb];show yHq bs t++[uaq bs (yHq bs t)]=_;unfold uaq;rw[hsl,show Nat.blt t 16=true from Nat.ble_eq_true_of_le ht]
   refine zeq 2 O ?_;refine qoq Xj ?_;refine zCq 5 O ?_;refine zlq (t+1) O O Xi ⟨by omega,by omega⟩ ?_;refine yyq 2 O ?_;skip
   exact jDq (t+1) ht Xd ⟨rfl,trivial⟩ ⟨rfl,rfl,rfl,trivial⟩ (by rw[hnx])
 ·have ht:t=16:=by omega
  subst ht;refine zeq 2 O ?_;refine qoq Xj ?_;refine zCq 9 O ?_;refine q6q (α:=Nat) (fun u=>16<=u/\u<=64) (fun u=>[(6,.int .i64 (u:Int))]) [(2,_),(3,_)] (fun u=>schH (yHq bs u)) (fun u=>64-u) (16) ⟨rfl,rfl,trivial⟩ (⟨by omega,by omega⟩) ⟨rfl,trivial⟩ (rfl) (fun u hI=>?_);obtain⟨g1,g2⟩:=hI;have hsu:=x5q bs u;refine zjq 7 O ?_;refine zyq rfl (fun h2=>?_) (fun h2=>?_)
  ·have hu:u<64:=by omega
   obtain⟨L,eL⟩:∃L,yHq bs u=L:=⟨_,rfl⟩
   rw[eL] at hsu⊢;have hat2:∀i,i<u->((pad0 L 64).map wd)[0+i*1]? =some (wd (L.getD i 0)):=fun i hi=>by rw[Nat.zero_add,Nat.mul_one];exact pad0_at Xd
   have hge:((pad0 L 64).map wd)[0+u*1]? =some (wd 0):=by have:=pad0_ge (l:=L) (n:=64) Xd;rw[hsu] at this;rw[Nat.zero_add,Nat.mul_one];exact this
   have hnx:uaq bs L=addN (addN (addN (L.getD (u-16) 0) (xorN (xorN (rotN (L.getD (u-15) 0) 7) (rotN (L.getD (u-15) 0) 18)) (shrN (L.getD (u-15) 0) 3))) (L.getD (u-7) 0)) (xorN (xorN (rotN (L.getD (u-2) 0) 17) (rotN (L.getD (u-2) 0) 19)) (shrN (L.getD (u-2) 0) 10)):=by
    have hbl:Nat.blt u 16=false:=by
     cases hq:Nat.blt u 16 with
     |false=>rfl
     |true=>have:=Ob hq;omega
    unfold uaq;rw[hsu,hbl]
   have hset:((pad0 L 64).map wd).set (0+u*1) (wd (uaq bs L))=(pad0 (yHq bs (u+1)) 64).map wd:=by
    have:=pad0_set (l:=L) (n:=64) (x:=uaq bs L) Xd;rw[hsu] at this;rw[Nat.zero_add,Nat.mul_one,this];show _=(pad0 (yHq bs u++[uaq bs (yHq bs u)]) 64).map wd;rw[eL]
   refine zeq 7 O ?_;refine qNq (u-15) O O Xi ⟨by omega,by omega⟩ ?_;refine zcq rfl (zsq (i:=u-15) O O O O O O Xd) ?_;refine yqq rfl (ypq O O O (qfq (hat2 (u-15) Xd) rfl)) Xr ?_;refine zcq O O (qNq (u-2) O O Xi ⟨by omega,by omega⟩ ?_);refine zcq rfl (zsq (i:=u-2) O O O O O O Xd) ?_;refine yqq rfl (ypq O O O (qfq (hat2 (u-2) Xd) rfl)) Xr ?_;refine zoq 7 O ?_;refine qNq (u-16) O O Xi ⟨by omega,by omega⟩ ?_;refine zcq rfl (zsq (i:=u-16) O O O O O O Xd) ?_;refine yqq rfl (ypq O O O (qfq (hat2 (u-16) Xd) rfl)) Xr ?_;refine zcq O O ?_;refine yxq O O O O O O (jdq _ Xk _) ?_;refine zcq O O ?_;refine yxq O O O O O O (jdq _ Xk _) ?_;refine zoq 6 O ?_;refine qNq (u-7) O O Xi ⟨by omega,by omega⟩ ?_;refine zcq rfl (zsq (i:=u-7) O O O O O O Xd) ?_;refine yqq rfl (ypq O O O (qfq (hat2 (u-7) Xd) rfl)) Xr ?_;refine zoq 2 O ?_;refine yxq O O O O O O (jdq _ Xk _) ?_;refine zcq O O ?_;refine yxq O O O O O O (jdq _ Xk _) ?_;refine zoq 4 O ?_;refine jwq (w':=wd (uaq bs L)) O O (by rw[hnx];rfl) ?_;refine zcq rfl (zsq (i:=u) O O O O O O Xd) ?_;refine yqq rfl (jLq O O O O O (qSq hge O O) rfl) Xr ?_;refine zoq 5 O ?_;refine zlq (u+1) O O Xi ⟨by omega,by omega⟩ ?_;refine yyq 2 O ?_;skip
   exact jDq (u+1) ⟨by omega,hu⟩ Xd ⟨rfl,trivial⟩ ⟨rfl,rfl,trivial⟩ Qe
  ·have hu:u=64:=by omega
   subst hu;refine zeq 2 O ?_;refine qoq Xj ?_;refine zCq 9 O ?_;have ep:pad0 (yHq bs 64) 64=yHq bs 64:=by unfold pad0;rw[hsu];simp
   exact zhq (.inr rfl) rfl (by rw[ep])
end
section
attribute [local irreducible] CoW OpW FlW Step Spec
variable {G:Nat->Option W}
def padJ(l:List UInt8)(j:Nat):List UInt8:=l++[128]++List.replicate j 0
theorem vDq(l:List UInt8)(j:Nat):(padJ l j).length=l.length+1+j:=by simp[padJ];omega
theorem padJ_next(l:List UInt8)(j:Nat):zdq (padJ l (j+1))=zdq (padJ l j)++zdq [0]:=by
 rw[<-y6q];congr 1
 unfold padJ;rw[List.append_assoc (l++[128]),<-List.replicate_succ']
noncomputable def padH(l:List UInt8)(j:Nat):HpW:=[(0,5,.arr (padJ l j).length 1 (zdq (padJ l j)))]
def padR(l:List UInt8):List UInt8:=padJ l ((119-l.length%64)%64)++beB 8 (8*l.length)
theorem padded_s(l:List UInt8)(f:Bool)(hl:l.length<2147483648):PS cfg G 292 [.fz (zdq l) 1 f] (bW (padR l)):=by
 have el:(zdq l).length=l.length:=ziq l;refine q7q (fn:=Tryz.f292) O O O (Ob rfl) (fun R k0=>?_);refine zjq 14 O ?_;refine khq (fun _=>unq (fr2:=[(0,.fz (zdq l) 1 f),(2,.nils),(7,gW 0 1 []),(8,.fz (zdq l) 1 f)]) ⟨rfl,rfl,rfl,rfl,trivial⟩) ?_;refine Znq (b:=0) (xs:=[]) (news:=zdq l) (k:=ti5) (H0:=[]) [] [(0,.fz (zdq l) 1 f),(2,.nils)] O O O O O O O O O O O (by show(0+(zdq l).length)*1<=_;omega) (by show 0+(zdq l).length<=_;omega) rfl Xk Xd Xd ⟨rfl,rfl,trivial⟩ rfl ⟨zfq (show purW (.fz (zdq l) 1 f)=true from y5q l),rfl,trivial⟩ Xk trivial Xk ?_
 refine zaq 7 O ?_;refine Znq (b:=0) (xs:=zdq l) (news:=zdq [128]) (k:=ti5) (H0:=[]) [_] [(0,.fz (zdq l) 1 f),(2,.nils)] O O O O O O O O O O (ymq O O O O) (by show((zdq l).length+1)*1<=_;omega) (by show(zdq l).length+1<=_;omega) rfl Xk Xd Xd ⟨rfl,rfl,trivial⟩ rfl ⟨zfq (show purW (.fz (zdq l) 1 f)=true from y5q l),rfl,trivial⟩ (by rw[<-y6q];simp) trivial Xk ?_;refine zaq 5 O ?_;have e0:zdq l++zdq [128]=zdq (padJ l 0):=by rw[<-y6q];congr 1;simp[padJ]
 have hne:zdq (padJ l 0)≠[]:=fun h=>by have:=congrArg List.length h;rw[ziq,vDq] at this;simp at this
 have htm:∀n:Nat,((n:Int)).tmod 64=((n%64:Nat):Int):=fun n=>by rw[Int.tmod_eq_emod_of_nonneg Xd];omega
 refine qBq (α:=Nat) (fun j=>∀i,i<j->(l.length+1+i)%64≠56) (fun j=>[(3,.sl 0 0 0 (padJ l j).length 1 none),(0,.fz (zdq l) 1 f),(2,.nils)]) (fun j=>padH l j) (fun _=>1) (fun _=>R) (fun j=>64-j) 0 (fun i hi=>absurd hi Xd) (ylq ⟨by show some (gW 0 1 (zdq l++zdq [128]))=_;rw[e0,xFq hne,ziq],rfl,rfl,trivial⟩ (by show []++gH 0 5 1 (zdq l++zdq [128])=padH l 0;rw[e0,xHq hne,ziq,Nat.mul_one];rfl) rfl) (fun j hj=>?_);skip
 have hj64:j<64:=by
  refine Nat.lt_of_not_le fun h=>?_
  have:=hj ((56+64-(l.length+1)%64)%64) Xd;omega
 have hlj:=vDq l j;refine zjq 4 O ?_;refine zgq (w':=.int .i64 ((l.length+1+j:Nat):Int)) O O (by rw[<-hlj];rfl) ?_;refine zgq O O (congrArg (W.int .i64) (htm _)) ?_;refine zaq 3 O ?_;refine zyq rfl (fun h1=>?_) (fun h1=>?_)
 ·have h1:¬(((l.length+1+j)%64:Nat):Int)=56:=h1;refine zeq 6 O ?_;refine znq rfl (yoq O O (qxq (k:=ti5) (len:=(padJ l j).length) (news:=zdq [0]) (olds:=zdq (padJ l j)) O O O O (ymq O O O O) Ql (by show((padJ l j).length+1)*1<=_;omega) (by show(padJ l j).length+1<=_;omega) rfl (by show(padJ l j).length<0+((padJ l j).length+1)*1;omega) rfl (zpq Xq (ziq _).symm (Nat.mul_one _).symm))) ?_;refine zaq 3 O ?_;have hl2:(padJ l j).length+1=(padJ l (j+1)).length:=by rw[vDq,vDq];omega
  have hp:purW (.fz (zdq l) 1 f)=true:=y5q l;skip
  refine ywq (j+1) (fun i hi=>?_) (show 64-(j+1)<64-j by omega) ?_
  ·rcases Nat.lt_succ_iff_lt_or_eq.1 hi with h|rfl
   ·exact hj i h
   ·omega
  ·refine y2q (b:=0) (k:=2) Xd Xd (by show 2<3;omega) ⟨⟨?_,rfl⟩,⟨by rw[zmq hp];rfl,zfq hp⟩,⟨rfl,rfl⟩,trivial⟩ ⟨⟨by show 0<1;omega,?_,zfq (show purW (.arr _ 1 (zdq _))=true from y5q _)⟩,trivial⟩ (by show([0]:List Nat).Nodup;simp)
   ·show some (W.sl 2 0 0 ((padJ l j).length+1) 1 none)=some (W.sl 2 0 0 (padJ l (j+1)).length 1 none);rw[hl2]
   ·show some (5,W.arr (((padJ l j).length+1)*1) 1 (zdq (padJ l j)++zdq [0]))=some (5,renW _ (W.arr (padJ l (j+1)).length 1 (zdq (padJ l (j+1)))));rw[zmq (show purW (.arr _ 1 (zdq _))=true from y5q _),hl2,padJ_next,Nat.mul_one]
 ·have h56:(l.length+1+j)%64=56:=by omega
  obtain rfl:j=(119-l.length%64)%64:=by omega
  generalize hj0:(119-l.length%64)%64=j at*
  refine zeq 2 O ?_;refine qoq Xj ?_;refine zCq 5 O ?_;refine zgq (w':=.int .i64 (l.length:Int)) O O (by rw[<-el];rfl) ?_;first|refine yzq O O ⟨by omega,by omega⟩ ?_|refine zbq O O ?_
  refine zlq (8*l.length) O O Xi ⟨by omega,by omega⟩ ?_;refine zaq 15 O ?_;obtain⟨n,en⟩:∃n,n=8*l.length:=⟨_,rfl⟩
  rw[<-en];have hn:n<18446744073709551616:=by omega
  refine q6q (α:=Nat×Nat) (fun p=>p.1<=8/\p.2=n/256^p.1) (fun p=>[(6,.int .i64 ((7:Int) -(p.1:Int))),(4,.int .u64 (p.2:Nat))]) [(2,_),(3,_),(5,_)] (fun p=>(1,379,.arr 8 1 (zdq (List.replicate (8-p.1) 0++beB p.1 n)))::padH l j) (fun p=>8-p.1) ((0,n)) ⟨rfl,rfl,rfl,trivial⟩ (⟨Nat.zero_le _,by simp⟩) ⟨rfl,rfl,trivial⟩ (rfl) (fun p hI=>?_);obtain⟨i,q⟩:=p;obtain⟨g1,g2⟩:=hI;simp only at g1 g2⊢;have hlt:q<18446744073709551616:=by rw[g2];exact Nat.lt_of_le_of_lt (Nat.div_le_self _ _) hn
  refine zjq 7 O ?_;refine zyq rfl (fun h2=>?_) (fun h2=>?_)
  ·have hi:i<8:=by omega
   have hq:q/256=n/256^(i+1):=by rw[g2,Nat.div_div_eq_div_mul,<-Nat.pow_succ]
   have hset:=be_set n 8 i hi;rw[<-g2] at hset;refine zeq 6 O ?_;refine zgq (w':=.int .i64 ((8-1-i:Nat):Int)) O O (by congr 1;omega) ?_;refine zbq O O (zgq (w':=.int .u64 ((q%256:Nat):Int)) O O (congrArg (W.int .u64) (xjq q 256)) (zlq (q%256) O O Xi ⟨by omega,by omega⟩ ?_));refine zbq rfl (zsq (i:=8-1-i) O O O O O O Xd) ?_;refine znq rfl (jLq O O O O O (qSq (be_at n 8 i hi) O O) (congrArg (fun L=>(1,379,W.arr 8 1 L)::padH l j) hset)) ?_;refine zaq 4 O ?_;refine zlq (q/256) O O (kPq q 256) ⟨by omega,by omega⟩ ?_;refine zaq 6 O ?_;refine op_z ((7:Int) -((i+1:Nat):Int)) O O Xd ⟨by omega,by omega⟩ ?_;refine yyq 2 O ?_;exact jDq ((i+1,q/256)) (⟨hi,hq⟩) Yh ⟨rfl,rfl,trivial⟩ ⟨rfl,rfl,rfl,trivial⟩ rfl
  ·have hi:i=8:=by omega
   subst hi;have hN:(zdq (beB 8 n)).length=8:=by rw[ziq,yCq]
   refine zeq 2 O ?_;refine qoq Xj ?_;refine zCq 6 O ?_;refine znq rfl (yoq O O (qxq (k:=ti5) (len:=(padJ l j).length) (news:=zdq (beB 8 n)) (olds:=zdq (padJ l j)) O O O O (ymq O O O (zpq Xq hN.symm rfl)) Ys (by rw[hN];show(_+8)*1<=_;omega) Qo rfl (by rw[hN];show(padJ l j).length<0+(_+8)*1;omega) rfl (zpq Xq (ziq _).symm (Nat.mul_one _).symm))) ?_;refine zaq 4 O ?_;have er:zdq (padR l)=zdq (padJ l j)++zdq (beB 8 n):=by unfold padR;rw[hj0,<-en,y6q]
   have el2:(padR l).length=(padJ l j).length+(zdq (beB 8 n)).length:=by rw[<-ziq,er,List.length_append,ziq (padJ l j)]
   exact jrq (.inr rfl) rfl (.sl (full:=false) (c:=.arr (padR l).length 1 (zdq (padR l))) (xs:=zdq (padR l)) (by show some (W.arr (((padJ l j).length+(zdq (beB 8 n)).length)*1) 1 (zdq (padJ l j)++zdq (beB 8 n)))=_;rw[er,el2,Nat.mul_one]) (show purW (.arr _ 1 (zdq _))=true from y5q _) (by rw[<-el2];exact zpq Xq (ziq _).symm (Nat.mul_one _).symm) Xj)
end
theorem next_congr{bs bs':Nat->Nat}(h:∀i,i<64->bs i=bs' i)(L:List Nat):uaq bs L=uaq bs' L:=by
 unfold uaq;cases hq:Nat.blt L.length 16 with
 |false=>rfl
 |true=>
  have hn:L.length<16:=Ob hq;show wordN (bs (4*L.length)) (bs (4*L.length+1)) (bs (4*L.length+2)) (bs (4*L.length+3))=wordN (bs' (4*L.length)) (bs' (4*L.length+1)) (bs' (4*L.length+2)) (bs' (4*L.length+3));rw[h (4*L.length) Xd,h (4*L.length+1) Xd,h (4*L.length+2) Xd,h (4*L.length+3) Xd]
theorem Yuq{bs bs':Nat->Nat}(h:∀i,i<64->bs i=bs' i):∀n,yHq bs n=yHq bs' n
 |0=>rfl
 |n+1=>by
  have ih:=Yuq h n;show yHq bs n++[uaq bs (yHq bs n)]=yHq bs' n++[uaq bs' (yHq bs' n)];rw[ih,next_congr h]
theorem Qxq{bs bs':Nat->Nat}(h:∀i,i<64->bs i=bs' i)(s:S8):jOq bs s=jOq bs' s:=by
 unfold jOq;rw[Yuq h]
theorem atL_app{a b:List Nat}{i:Nat}(h:i<a.length):atL (a++b) i=atL a i:=by
 unfold atL;simp[List.getD,List.getElem?_append_left h]
theorem eats_app:∀(k:Nat) (s:S8) (b t:List Nat),b.length<=k->1<=t.length->jgq (b++t).length s (b++t)=jgq ((eats s b).2++t).length (eats s b).1 ((eats s b).2++t)
 |0,s,b,t,hb,ht=>by
  have e:eats s b=(s,b):=koq _ _ _ Xd;rw[e]
 |k+1,s,b,t,hb,ht=>by
  by_cases h:b.length<64
  ·have e:eats s b=(s,b):=koq _ _ _ h;rw[e]
  ·have h64:64<=b.length:=by omega
   have ed:(b++t).drop 64=b.drop 64++t:=List.drop_append_of_le_length h64;rw[Qeq h64,vgq (by rw[List.length_append];omega),ed,Qxq (fun i hi=>atL_app Xd) s];exact eats_app k _ (b.drop 64) t Yy ht
theorem eats_mod:∀(k:Nat) (s:S8) (b:List Nat),b.length<=k->(eats s b).2.length=b.length%64
 |0,s,b,hb=>by
  have e:eats s b=(s,b):=koq _ _ _ Xd;rw[e];show b.length=_;omega
 |k+1,s,b,hb=>by
  by_cases h:b.length<64
  ·have e:eats s b=(s,b):=koq _ _ _ h;rw[e];show b.length=_;omega
  ·have h64:64<=b.length:=by omega
   rw[Qeq h64,eats_mod k _ _ Yy,List.length_drop];omega
theorem be8_len8{n:Nat}(hn:n<2147483648):(beB 8 (8*n)).map UInt8.toNat=len8 n:=by
 have e:∀i,Nat.shiftRight (8*n%18446744073709551616) i%256=8*n/2^i%256:=fun i=>by
  have h8:8*n%18446744073709551616=8*n:=Nat.mod_eq_of_lt Xd;rw[h8];show(8*n)>>>i%256=_;rw[Nat.shiftRight_eq_div_pow]
 have t:∀x:Nat,(UInt8.ofNat (x%256)).toNat=x%256:=fun x=>by simp
 simp only[beB,len8,List.map_cons,List.map_nil,e,t]
theorem sha_one(l:List UInt8)(hl:l.length<2147483648):shaN [l.map UInt8.toNat]=digN (jgq ((padR l).map UInt8.toNat).length s0 ((padR l).map UInt8.toNat)):=by
 obtain⟨b,eb⟩:∃b,l.map UInt8.toNat=b:=⟨_,rfl⟩
 have el:b.length=l.length:=by rw[<-eb,List.length_map]
 have ht:qyq [b]=l.length:=by show b.length+0=_;omega
 have hm:=eats_mod b.length s0 b (Nat.le_refl _)
 have er:(padR l).map UInt8.toNat=b++([128]++List.replicate ((119-l.length%64)%64) 0++len8 l.length):=by
  unfold padR padJ;rw[List.map_append,List.map_append,List.map_append,be8_len8 hl,eb,List.append_assoc,List.append_assoc];simp[List.map_replicate]
 have ea:([b].foldl usq (s0,[]))=eats s0 b:=rfl;rw[eb,er,eats_app b.length s0 b _ (Nat.le_refl _) Xk];have hp:=pad_eq 64 ((eats s0 b).2++[128]) Xd
 have hj:(120-((eats s0 b).2++[128]).length%64)%64=(119-l.length%64)%64:=by
  rw[List.length_append,hm,el];simp only[List.length_cons,List.length_nil];omega
 rw[hj] at hp
 have e2:padZ 64 ((eats s0 b).2++[128])++len8 l.length=(eats s0 b).2++([128]++List.replicate ((119-l.length%64)%64) 0++len8 l.length):=by
  rw[hp,List.append_assoc,List.append_assoc,List.append_assoc]
 have eS:shaN [b]=digN (jgq (padZ 64 (([b].foldl usq (s0,[])).2++[128])++len8 (qyq [b])).length ([b].foldl usq (s0,[])).1 (padZ 64 (([b].foldl usq (s0,[])).2++[128])++len8 (qyq [b]))):=rfl;rw[eS,ea,ht,e2]
section
attribute [local irreducible] CoW OpW FlW Step Spec
variable {G:Nat->Option W}
noncomputable def sumH(s:S8):HpW:=[(2,364,.arr 64 1 (kW.map wd)),(1,345,.arr 8 1 s.l),(0,26,yRq)]
noncomputable def sumH2(v:S8)(ws:List Nat)(L:List W):HpW:=[(4,345,.arr 8 1 v.l),(3,364,.arr 64 1 (ws.map wd)),(2,364,.arr 64 1 (kW.map wd)),(1,345,.arr 8 1 L),(0,26,yRq)]
theorem s0_ok:s0.Ok:=⟨by decide,by decide,by decide,by decide,by decide,by decide,by decide,by decide⟩
theorem padR_len(l:List UInt8):(padR l).length%64=0/\(padR l).length<=l.length+72:=by
 unfold padR;rw[List.length_append,vDq,yCq];omega
theorem bsL_blk(M:List UInt8)(i:Nat):∀k,k<64->bsL ((M.drop (64*i)).take 64) k=atL ((M.map UInt8.toNat).drop (64*i)) k:=fun k hk=>by
 unfold bsL atL;rw[List.map_take,List.map_drop,List.getD_eq_getElem?_getD,List.getD_eq_getElem?_getD,List.getElem?_take_of_lt hk]
set_option maxHeartbeats 1600000 in
theorem rsum_s(l:List UInt8)(f:Bool)(hl:l.length<2147483648):PS cfg G 277 [.fz (zdq l) 1 f] (dW (shaD [l])):=by
 have hsha:=sha_one l hl;obtain⟨hm,hle⟩:=padR_len l
 have e3:dW (shaD [l])= .arr 32 1 (bN (shaN [l.map UInt8.toNat])):=by
  show W.arr 32 1 (zdq _)=_;rw[<-bytes_of (shaN_lt _)];rfl
 rw[e3,hsha];have hpad:=padded_s (G:=G) l f hl;generalize padR l=M at*
 obtain⟨MN,eMN⟩:∃MN,M.map UInt8.toNat=MN:=⟨_,rfl⟩
 rw[eMN];have hMN:MN.length=M.length:=by rw[<-eMN,List.length_map]
 have eM:(zdq M).length=M.length:=ziq M;refine zFq (fn:=Tryz.f277) O O O (Ob rfl) (fun R k0=>?_);refine zjq 15 O ?_;refine zkq O O O O O O (hpad) ?_;refine zaq 5 O ?_;refine zkq O O O O O O (words_s) ?_;refine zaq 11 O ?_;refine q6q (α:=S8×Nat) (fun p=>p.1.Ok/\64*p.2<=M.length/\jgq MN.length s0 MN=jgq (MN.drop (64*p.2)).length p.1 (MN.drop (64*p.2))) (fun p=>[(6,.int .i64 ((64*p.2:Nat):Int))]) [(2,_),(3,_),(4,_),(5,_)] (fun p=>sumH p.1) (fun p=>M.length-64*p.2) ((s0,0)) ⟨rfl,rfl,rfl,rfl,trivial⟩ (⟨s0_ok,Nat.zero_le _,rfl⟩) ⟨rfl,trivial⟩ (rfl) (fun p hI=>?_);obtain⟨s,i⟩:=p;obtain⟨hs,hi,heat⟩:=hI;simp only at hs hi heat⊢;refine zjq 5 O ?_;refine zgq (w':=.int .i64 (M.length:Int)) O O (by rw[<-eM];rfl) ?_;refine zaq 3 O ?_;refine zyq rfl (fun h1=>?_) (fun h1=>?_)
 ·have h1:((64*i:Nat):Int)<(M.length:Int):=h1;have hi2:64*i+64<=M.length:=by omega
  have hblk:((M.drop (64*i)).take 64).length=64:=by rw[List.length_take,List.length_drop];omega
  have ey:((zdq M).drop (64*i)).take (64*i+64-64*i)=zdq ((M.drop (64*i)).take 64):=by
   rw[show 64*i+64-64*i=64 by omega];simp[zdq,List.map_take,List.map_drop]
  obtain⟨ws,ews⟩:∃ws,yHq (bsL ((M.drop (64*i)).take 64)) 64=ws:=⟨_,rfl⟩
  have hws:ws.length=64:=by rw[<-ews];exact x5q _ _
  have hsch:=fun g=>sched_s (G:=G) ((M.drop (64*i)).take 64) g hblk
  rw[ews] at hsch;have hW:∀t,t<64->(ws.map wd)[0+t*1]? =some (wd (ws.getD t 0)):=fun t ht=>by rw[Nat.zero_add,Nat.mul_one];exact Zoq Xd
  have hK:∀t,t<64->(kW.map wd)[0+t*1]? =some (wd (kW.getD t 0)):=fun t ht=>by rw[Nat.zero_add,Nat.mul_one];exact Zoq (by rw[kW_len];exact ht)
  have hnew:jOq (bsL ((M.drop (64*i)).take 64)) s=jOq (atL (MN.drop (64*i))) s:=by rw[<-eMN];exact Qxq (bsL_blk M i) s
  have hadd:mix8 s (x7q ws s 64) 8=(jOq (atL (MN.drop (64*i))) s).l:=by rw[<-hnew,<-ews];rfl
  refine zeq 9 O ?_;refine zlq (64*i+64) O O Xi ⟨by omega,by omega⟩ ?_;refine zbq rfl (xbq (ys:=zdq ((M.drop (64*i)).take 64)) (l:=64*i) (h:=64*i+64) O O O O O O O Xd Xd ey rfl) ?_;refine op_ps O O O O O O (hsch _) Xk (show purL (ws.map wd)=true from qqq (fun x=>rfl) ws) ?_;refine zaq 18 O ?_;refine q6q (α:=Nat) (fun t=>t<=64) (fun t=>[(9,.int .i64 (t:Int))]) [(2,_),(3,_),(4,_),(5,_),(6,_),(7,_),(8,_),(18,_),(19,_),(20,_),(21,_),(24,_),(25,_),(26,_),(27,_),(28,_),(29,_),(30,_)] (fun t=>sumH2 (x7q ws s t) ws s.l) (fun t=>64-t) (0) ⟨rfl,rfl,rfl,rfl,rfl,rfl,rfl,rfl,rfl,rfl,rfl,rfl,rfl,rfl,rfl,rfl,rfl,rfl,trivial⟩ (Nat.zero_le _) ⟨rfl,trivial⟩ (rfl) (fun t hI=>?_);refine zjq 7 O ?_;refine zyq rfl (fun h2=>?_) (fun h2=>?_)
  ·have ht:t<64:=by omega
   obtain⟨v,ev⟩:∃v,x7q ws s t=v:=⟨_,rfl⟩
   have hv:v.Ok:=by rw[<-ev];exact rounds_ok hs ws t
   have hKt:=hK t ht;have hWt:=hW t ht;have hnx:x7q ws s (t+1)=roundN (kW.getD t 0) (ws.getD t 0) v:=by rw[<-ev];rfl
   rw[ev];generalize kW.getD t 0=kt at*
   generalize ws.getD t 0=wt at*
   refine zeq 7 O ?_;refine zcq rfl (zsq (i:=t) O O O O O O Xd) ?_;refine yqq rfl (ypq O O O (qfq hKt rfl)) Xr ?_;refine zcq O O (zcq rfl (zsq (i:=t) O O O O O O Xd) ?_);refine yqq rfl (ypq O O O (qfq hWt rfl)) Xr ?_;refine fl_ps O O O O O O (rround_s v hv kt wt) O O Xr ?_;refine zoq 6 O ?_;refine zlq (t+1) O O Xi ⟨by omega,by omega⟩ ?_;refine yyq 2 O ?_;skip
   exact jDq (t+1) ht Xd ⟨rfl,trivial⟩ Yt (by rw[hnx];rfl)
  ·have ht:t=64:=by omega
   subst ht;obtain⟨v,ev⟩:∃v,x7q ws s 64=v:=⟨_,rfl⟩
   rw[ev] at hadd⊢;refine zeq 2 O ?_;refine qoq Xj ?_;refine zCq 8 O ?_;refine q6q (α:=Nat) (fun j=>j<=8) (fun j=>[(10,.int .i64 (j:Int))]) [(2,_),(3,_),(4,_),(5,_),(6,_),(7,_),(8,_),(9,_),(18,_),(19,_),(20,_),(21,_),(24,_),(25,_),(26,_),(27,_),(28,_),(29,_),(30,_),(31,_),(32,_)] (fun j=>sumH2 v ws (mix8 s v j)) (fun j=>8-j) (0) ⟨rfl,rfl,rfl,rfl,rfl,rfl,rfl,rfl,rfl,rfl,rfl,rfl,rfl,rfl,rfl,rfl,rfl,rfl,rfl,rfl,rfl,trivial⟩ (Nat.zero_le _) ⟨rfl,trivial⟩ (rfl) (fun j hI=>?_);refine zjq 7 O ?_;refine zyq rfl (fun h3=>?_) (fun h3=>?_)
   ·have hj:j<8:=by omega
    have hq:j=0\/j=1\/j=2\/j=3\/j=4\/j=5\/j=6\/j=7:=by omega
    have g1:(mix8 s v j)[0+j*1]? =some (wd (s.get j)):=by rcases hq with rfl|rfl|rfl|rfl|rfl|rfl|rfl|rfl<;>rfl
    have g2:v.l[0+j*1]? =some (wd (v.get j)):=S8_at v hj;have g3:(mix8 s v j).set (0+j*1) (wd (addN (s.get j) (v.get j)))=mix8 s v (j+1):=by rcases hq with rfl|rfl|rfl|rfl|rfl|rfl|rfl|rfl<;>rfl
    generalize s.get j=x at*
    generalize v.get j=y at*
    refine zeq 6 O ?_;refine zcq rfl (zsq (i:=j) O O O O O O Xd) ?_;refine yqq rfl (ypq O O O (qfq g1 rfl)) Xr ?_;refine zcq O O (zcq rfl (zsq (i:=j) O O O O O O Xd) ?_);refine yqq rfl (ypq O O O (qfq g2 rfl)) Xr ?_;refine jwq (w':=wd (addN x y)) O O O (zcq rfl (zsq (i:=j) O O O O O O Xd) ?_);refine yqq rfl (jLq O O O O O (qSq g1 O O) rfl) Xr ?_;refine zoq 5 O ?_;refine zlq (j+1) O O Xi ⟨by omega,by omega⟩ ?_;refine yyq 2 O ?_;skip
    exact jDq (j+1) hj Xd ⟨rfl,trivial⟩ Yt (congrArg (fun L=>sumH2 v ws L) g3)
   ·have hj:j=8:=by omega
    subst hj;rw[hadd];refine zeq 2 O ?_;refine qoq Xj ?_;refine zCq 5 O ?_;refine zlq (64*i+64) O O Xi ⟨by omega,by omega⟩ ?_;refine yyq 2 O ?_;skip
    exact q_againH (jOq (atL (MN.drop (64*i))) s,i+1) ⟨block_ok _ _,by simp only;omega,by rw[heat,vgq Xu,List.drop_drop];rfl⟩ Yh (Nat.zero_le _) ⟨rfl,trivial⟩ Yt Xg Xg Xd Xo (by show([2,1,0]:List Nat).Nodup;decide)
 ·have h1:¬((64*i:Nat):Int)<(M.length:Int):=h1;have hend:jgq MN.length s0 MN=s:=by rw[heat,List.drop_of_length_le Xd];rfl
  rw[hend];refine zeq 2 O ?_;refine qoq Xj ?_;refine zCq 14 O ?_;refine q6q (α:=Nat) (fun a=>a<=8) (fun a=>[(12,.int .i64 (a:Int))]) [(2,_),(3,_),(11,_)] (fun a=>(3,26,.arr 32 1 (bN (dI s (4*a))))::sumH s) (fun a=>8-a) (0) ⟨rfl,rfl,rfl,trivial⟩ (Nat.zero_le _) ⟨rfl,trivial⟩ (rfl) (fun a hI=>?_);refine zjq 7 O ?_;refine zyq rfl (fun h2=>?_) (fun h2=>?_)
  ·have ha:a<8:=by omega
   refine zeq 10 O ?_;refine q6q (α:=Nat) (fun b=>b<=4) (fun b=>[(13,.int .i64 (b:Int))]) [(2,_),(3,_),(11,_),(12,_),(55,_),(56,_)] (fun b=>(3,26,.arr 32 1 (bN (dI s (4*a+b))))::sumH s) (fun b=>4-b) (0) ⟨rfl,rfl,rfl,rfl,rfl,rfl,trivial⟩ (Nat.zero_le _) ⟨rfl,trivial⟩ (rfl) (fun b hI=>?_);refine zjq 7 O ?_;refine zyq rfl (fun h3=>?_) (fun h3=>?_)
   ·have hb:b<4:=by omega
    have hdv:(4*a+b)/4=a:=by omega
    have hmd:(4*a+b)%4=b:=by omega
    have hset:=dI_set s (i:=4*a+b) Xd;rw[hdv,hmd] at hset;refine zeq 6 O ?_;refine zlq (4*a) O O Xi ⟨by omega,by omega⟩ ?_;refine zbq O O (zlq (4*a+b) O O Xi ⟨by omega,by omega⟩ ?_);refine zbq O O (zbq rfl (zsq (i:=a) O O O O O O Xd) ?_);refine znq rfl (ypq O O O (qfq (S8_at s ha) rfl)) (zbq O O (zlq (8*b) O O Xi ⟨by omega,by omega⟩ ?_));refine zlq (24-8*b) O O Xi ⟨by omega,by omega⟩ ?_;refine zlq (24-8*b) O O Xi ⟨by omega,by omega⟩ ?_;refine zgq (w':=wd (Nat.shiftRight (s.get a) (min (24-8*b) 32))) O O O (zgq (w':=.int .u8 (.ofNat (Nat.shiftRight (s.get a) (min (24-8*b) 32)%256))) O O O (zbq rfl (zsq (i:=4*a+b) O O O O O O Xd) ?_));refine znq rfl (jLq O O O O O (qSq (dI_at s Xd) O O) rfl) ?_;refine zaq 5 O ?_;refine zlq (b+1) O O Xi ⟨by omega,by omega⟩ ?_;refine yyq 2 O ?_;skip
    exact jDq (b+1) hb Xd ⟨rfl,trivial⟩ Yt (congrArg (fun L=>(3,26,W.arr 32 1 L)::sumH s) hset)
   ·have hb:b=4:=by omega
    subst hb;refine zeq 2 O ?_;refine qoq Xj ?_;refine zCq 5 O ?_;refine zlq (a+1) O O Xi ⟨by omega,by omega⟩ ?_;refine yyq 2 O ?_;skip
    exact jDq (a+1) ha Xd ⟨rfl,trivial⟩ Yt rfl
  ·have ha:a=8:=by omega
   subst ha;refine zeq 2 O ?_;refine qoq Xj ?_;refine zCq 9 O ?_;have ed:dI s 32=digN s:=by simp[dI,List.take_of_length_le,vVq]
   exact zhq (.inr rfl) rfl (by rw[<-ed])
end
section
attribute [local irreducible] CoW OpW FlW Step Spec
variable {G:Nat->Option W}
theorem rtbytes_s(kind:UInt8)(ps:List (List UInt8))(f:Bool)(hn:ps.length<1000000)(hb:∀p∈ps,p.length<1000000):PS cfg G 278 [.int .u8 (.ofNat kind.toNat),.fz (ps.map bW) 1 f] (bW (tagB kind ps)):=by
 have e:(ps.map bW).length=ps.length:=List.length_map _;have htm:∀n:Nat,n<4294967296->((n:Int)).tmod 4294967296=(n:Int):=fun n hn=>by rw[Int.tmod_eq_emod_of_nonneg Xd];omega
 refine q7q (fn:=Tryz.f278) O O O (Ob rfl) (fun R k0=>?_);refine zjq 19 O ?_;refine co_loopG1 (α:=Nat) (fun i=>i<=ps.length) 5 (fun i=>zdq (kind::(ps.take i).flatMap xAq)) 5 1 (fun i=>[(6,.int .i64 (i:Int))]) [(1,_),(4,_)] ([]) 0 0 (fun i=>ps.length-i) (0) ⟨rfl,rfl,trivial⟩ (Nat.zero_le _) ⟨rfl,trivial⟩ Xd Xd Yn Ql rfl Ql Xg Xg rfl Xn Xo Yj (fun i hI=>?_);refine zjq 5 O ?_;refine zgq (w':=.int .i64 (ps.length:Int)) O O Xy ?_;refine zaq 3 O ?_;refine zyq rfl (fun h1=>?_) (fun h1=>?_)
 ·have hi:i<ps.length:=by omega
  obtain⟨x,hx⟩:∃x,ps[i]? =some x:=⟨_,List.getElem?_eq_getElem hi⟩
  have hxl:=hb x (List.mem_of_getElem? hx);have hfl:((ps.take i).flatMap xAq).length<=i*1000004:=Kgq i hb;have hL:(zdq (kind::(ps.take i).flatMap xAq)).length<=1+i*1000004:=by rw[ziq,List.length_cons];omega
  have hN:(zdq (beB 4 x.length)).length=4:=by rw[ziq,yCq]
  have hnx:zdq (kind::(ps.take (i+1)).flatMap xAq)=(zdq (kind::(ps.take i).flatMap xAq)++zdq (beB 4 x.length))++zdq x:=by
   rw[List.take_add_one,hx,<-y6q,<-y6q];congr 1
   simp[xAq,Nat.mod_eq_of_lt (show x.length<4294967296 by omega)]
  skip
  cases x with
  |nil=>
   refine zeq 8 O ?_;refine zbq rfl (zBq (i:=i) O O O O O O O (zYq bW hx)) (znq O O (zgq (w':=.int .i64 (([]:List UInt8).length:Int)) O O (by show W.int .i64 ((zdq (([]:List UInt8))).length:Int)=_;rw[ziq]) ?_));refine zbq O O (zgq (w':=.int .u64 (([]:List UInt8).length:Int)) O O O ?_)
   (refine zrq rfl (qKq O O O O O O (qaq ([]:List UInt8).length 4 Xq Xd) ?_);rintro w hp1 nw1 ⟨rfl,rfl,rfl⟩)
   refine zaq 11 O ?_;refine znq rfl (yoq O O (jPq [_] (k:=ti5) (news:=zdq (beB 4 ([]:List UInt8).length)) O O O O O (ymq O O O (zpq Xq hN.symm rfl)) Ys Qx Qo rfl (by simp[numC]))) ?_;refine zaq 7 O ?_;refine zbq rfl (zBq (i:=i) O O O O O O O (zYq bW hx)) (znq O O (znq rfl (yoq O O (ZBq (k:=ti5) O O O O O)) ?_));refine zaq 6 O ?_;refine zlq (i+1) O O Xi ⟨by omega,by omega⟩ ?_;refine yyq 2 O ?_;exact jEq 2 (i+1) (hi) Xd (Nat.zero_le _) (by rw[hnx];exact List.append_nil _) Ya Xd Yn rfl Yc ⟨rfl,trivial⟩ ⟨rfl,rfl,trivial⟩ Xg Xg rfl Xn Xo Yj
  |cons c x=>
   refine zeq 8 O ?_;refine zbq rfl (zBq (i:=i) O O O O O O O (zYq bW hx)) (znq O O (zgq (w':=.int .i64 ((c::x).length:Int)) O O (by show W.int .i64 ((zdq ((c::x))).length:Int)=_;rw[ziq]) ?_));refine zlq ((c::x).length) O O Xi ⟨by omega,by omega⟩ ?_;refine zgq (w':=.int .u64 ((c::x).length:Int)) O O (congrArg (W.int .u64) (htm _ Xd)) ?_
   (refine zrq rfl (qKq O O O O O O (qaq (c::x).length 4 Xd Xd) ?_);rintro w hp1 nw1 ⟨rfl,rfl,rfl⟩)
   refine zaq 11 O ?_;refine znq rfl (yoq O O (jPq [_] (k:=ti5) (news:=zdq (beB 4 (c::x).length)) O O O O O (ymq O O O (zpq Xq hN.symm rfl)) Ys Qx Qo rfl (by simp[numC]))) ?_;refine zaq 7 O ?_;refine zbq rfl (zBq (i:=i) O O O O O O O (zYq bW hx)) (znq O O (znq rfl (yoq O O (qxq (k:=ti5) (len:=(zdq (kind::(ps.take i).flatMap xAq)++zdq (beB 4 (c::x).length)).length) (news:=zdq (c::x)) (olds:=zdq (kind::(ps.take i).flatMap xAq)++zdq (beB 4 (c::x).length)) O O O O O Ql (by rw[List.length_append,hN,ziq (c::x)];show(_+_)*1<=_;omega) (by rw[List.length_append,hN,ziq (c::x)];omega) rfl Qc rfl (zpq Xq O O))) ?_));refine zaq 6 O ?_;refine zlq (i+1) O O Xi ⟨by omega,by omega⟩ ?_;refine yyq 2 O ?_;exact jEq 3 (i+1) (hi) Xd (Nat.zero_le _) (hnx) Ya Xd Yn rfl Yc ⟨rfl,trivial⟩ ⟨rfl,rfl,trivial⟩ Xg Xg rfl Xn Xo Yj
 ·have hi:i=ps.length:=by omega
  subst hi;refine zeq 2 O ?_;refine qoq Xj ?_;refine zCq 9 O ?_;refine jrq Xx O ?_;rw[List.take_length];exact x1q (H0:=[]) Xq Xk Xk
theorem JNq(kind:UInt8)(ps:List (List UInt8))(f:Bool)(hn:ps.length<1000)(hb:∀p∈ps,p.length<1000000):PS cfg G 255 [.int .u8 (.ofNat kind.toNat),.fz (ps.map bW) 1 f] (dW (tagD kind ps)):=by
 have hl:=tag_le kind ps hb;refine zFq (fn:=Tryz.f255) O O O (Ob rfl) (fun R k0=>?_);refine zjq 9 O ?_;refine zkq O O O O O O (rtbytes_s kind ps f Xd hb) ?_;refine zkq O O O O O O (rsum_s (tagB kind ps) false Xd) ?_;refine zaq 4 O ?_;exact zhq (.inr rfl) O O
theorem x6q(kind:UInt8)(a:List UInt8)(hb:a.length<1000000):PS cfg G 200 [.int .u8 (.ofNat kind.toNat),bW a] (dW (tagD kind [a])):=by
 refine zFq (fn:=Tryz.f200) O O O (Ob rfl) (fun R k0=>?_);refine zjq 10 O ?_;refine xBq O O O O O (by(repeat (first|exact .nil|refine .cons ?_ ?_|(refine .sl O ?_ rfl Xj;first|rfl|(focus (simp;done)))|(refine y9q O ?_ rfl;first|rfl|(focus (simp;done)))|(refine .pur ?_;first|rfl|(focus (simp;done)))))) (JNq kind [a] false Xk Xu) Xn Xn ?_;refine zaq 4 O ?_;exact zhq (.inr rfl) O O
theorem rkey_s(k:Dig):PS cfg G 270 [dW k] (dW (keyD k)):=by
 refine zFq (fn:=Tryz.f270) O O O (Ob rfl) (fun R k0=>?_);refine zjq 9 O ?_;refine xBq O O O O O (.cons (.pur rfl) (.cons (.sl (full:=false) (xs:=zdq k.1) rfl Xk (zpq Xq (by simp[ziq,k.2]) rfl) Xj) .nil)) (x6q 3 k.1 (by simp[k.2])) Xn Xn ?_;refine zaq 4 O ?_;exact zhq (.inr rfl) O O
end
section
attribute [local irreducible] CoW OpW FlW Step Spec
variable {G:Nat->Option W}
theorem inA_ok(ps:List Pr)(k:Dig):(inA ps k).ok:=by
 unfold inA;split
 ·exact JRq _
 ·exact⟨Nat.zero_lt_succ _,Nat.zero_lt_succ _⟩
theorem JOq(ps:List Pr)(f:Bool)(k:Dig)(c:Nat)(hc:c<18446744073709551616)(hb:ps.length<=1000000)(hv:∀x∈ps,x.2.length<=70368744177664):PS cfg G 235 [.fz (ps.map pW) 33 f,dW k,.int .u64 (c:Int)] (if 18446744073709551616<=(inA ps k).balance+c then .tup [.nils,.bool false] else .tup [psW (QIq ps k ⟨(inA ps k).nonce,(inA ps k).balance+c⟩),.bool true]):=by
 obtain⟨h0,hA⟩:=inA_ok ps k;refine zFq (fn:=Tryz.f235) O O O (Ob rfl) (fun R k0=>?_);refine zjq 11 O ?_;refine zkq O O O O O O (ZXq _ _ _ Xd) ?_;refine zaq 10 O ?_;refine zlq (18446744073709551615-(inA ps k).balance) O O Xi ⟨by omega,by omega⟩ ?_;refine zaq 3 O ?_;refine zyq rfl (fun h1=>?_) (fun h1=>?_)
 ·have h1:((18446744073709551615-(inA ps k).balance:Nat):Int)<(c:Int):=h1;refine zeq 8 O ?_;exact zhq (.inr rfl) rfl (by rw[if_pos Xd])
 ·have h1:¬((18446744073709551615-(inA ps k).balance:Nat):Int)<(c:Int):=h1;have hs:(inA ps k).balance+c<18446744073709551616:=by omega
  refine zeq 7 O ?_;refine zlq ((inA ps k).balance+c) O O Xi ⟨by omega,by omega⟩ ?_;refine zaq 9 O ?_;refine zkq O O O O O O (JSq ps f k ⟨(inA ps k).nonce,(inA ps k).balance+c⟩ ⟨h0,hs⟩ hb hv) ?_;refine zaq 5 O ?_;exact zhq (.inr rfl) rfl (by rw[if_neg Xd])
theorem rgiven_s(ps:List Pr)(d:Depo)(hc:d.amount<18446744073709551616)(hb:ps.length<=1000000)(hv:∀x∈ps,x.2.length<=70368744177664):PS cfg G 172 [psW ps,pdW d] (if 18446744073709551616<=(inA ps d.to).balance+d.amount then .tup [psW ps,.int .i64 151] else .tup [psW (QIq ps d.to ⟨(inA ps d.to).nonce,(inA ps d.to).balance+d.amount⟩),.int .i64 0]):=by
 by_cases ho:18446744073709551616<=(inA ps d.to).balance+d.amount
 ·rw[if_pos ho];refine zFq (fn:=Tryz.f172) O O O (Ob rfl) (fun R k0=>?_);refine zjq 14 O ?_;refine zkq O O O O O O (yrq (w':=.tup [.nils,.bool false]) (JOq ps false d.to d.amount hc hb hv) (by rw[if_pos ho])) ?_;refine zaq 24 O ?_;exact zhq (.inr rfl) O O
 ·rw[if_neg ho];refine zFq (fn:=Tryz.f172) O O O (Ob rfl) (fun R k0=>?_);refine zjq 14 O ?_;refine zkq O O O O O O (yrq (w':=.tup [psW (QIq ps d.to ⟨(inA ps d.to).nonce,(inA ps d.to).balance+d.amount⟩),.bool true]) (JOq ps false d.to d.amount hc hb hv) (by rw[if_neg ho])) ?_;refine zaq 25 O ?_;exact zhq (.inr rfl) O O
end
section
attribute [local irreducible] CoW OpW FlW Step Spec
variable {G:Nat->Option W}
theorem tx_sub(x:Tx):ySq 50 (txW x) 0 32 1=some (zdq x.pub.1)/\ySq 50 (txW x) 32 32 1=some (zdq x.to.1):=by
 have h:∀d:Dig,(zdq d.1).length=32:=fun d=>by rw[ziq,d.2]
 constructor
 ·show some (((zdq x.pub.1).drop (0/1)).take 32)=_;rw[show 0/1=0 from rfl,List.drop_zero,List.take_of_length_le (by rw[h];omega)]
 ·show some (((zdq x.to.1).drop (0/1)).take 32)=_;rw[show 0/1=0 from rfl,List.drop_zero,List.take_of_length_le (by rw[h];omega)]
theorem rbody_s(x:Tx)(hx:x.ok):PS cfg G 237 [txW x] (bW (qdq x)):=by
 have h1:=hx.nonce;have h2:=hx.amount;have h3:=hx.fee;have l1:(zdq x.pub.1).length=32:=by rw[ziq,x.pub.2]
 have l2:(zdq x.to.1).length=32:=by rw[ziq,x.to.2]
 have n1:(zdq (beB 8 x.nonce)).length=8:=by rw[ziq,yCq]
 have n2:(zdq (beB 8 x.amount)).length=8:=by rw[ziq,yCq]
 have n3:(zdq (beB 8 x.fee)).length=8:=by rw[ziq,yCq]
 have eb:zdq (qdq x)=(((zdq x.pub.1++zdq x.to.1)++zdq (beB 8 x.nonce))++zdq (beB 8 x.amount))++zdq (beB 8 x.fee):=by simp[qdq,zdq]
 refine q7q (fn:=Tryz.f237) O O O (Ob rfl) (fun R k0=>?_);refine zjq 16 O ?_;refine znq rfl (yoq O O (kNq (k:=ti5) (news:=zdq x.pub.1) O O O O (ymq O O O (tx_sub x).1) (by intro h;rw[h] at l1;cases l1) (by rw[l1];decide) (by rw[l1];decide))) ?_;refine zaq 8 O ?_;refine znq rfl (yoq O O (qxq (k:=ti5) (len:=(zdq x.pub.1).length) (news:=zdq x.to.1) (olds:=zdq x.pub.1) O O O O (ymq O O O (tx_sub x).2) Qu (by rw[l1,l2];decide) (by rw[l1,l2];decide) rfl (by show(zdq x.pub.1).length*1<0+(_+_)*1;rw[l1,l2];decide) rfl (zpq Xq O O))) ?_;refine zaq 7 O ?_
 ((refine zrq rfl (qgq O O O O O O (qaq _ 8 Xv Xd) ?_);rintro w hp1 nw1 ⟨rfl,rfl,rfl⟩))
 refine zaq 11 O ?_
 ((refine zrq rfl (qgq O O O O O O (qaq _ 8 Xv Xd) ?_);rintro w hp1 nw1 ⟨rfl,rfl,rfl⟩))
 refine zaq 11 O ?_
 ((refine zrq rfl (qgq O O O O O O (qaq _ 8 Xv Xd) ?_);rintro w hp1 nw1 ⟨rfl,rfl,rfl⟩))
 refine zaq 11 O ?_;refine znq rfl (yoq O O (qxq (k:=ti5) (len:=(zdq x.pub.1).length+(zdq x.to.1).length) (news:=zdq (beB 8 x.nonce)) (olds:=zdq x.pub.1++zdq x.to.1) O O O O (ymq O O O (zpq Xq n1.symm rfl)) (by intro h;rw[h] at n1;cases n1) (by rw[l1,l2,n1];decide) (by rw[l1,l2,n1];decide) rfl (by show(_+_)*1<0+(_+_)*1;rw[l1,l2,n1];decide) rfl (zpq Xq List.length_append.symm rfl))) ?_;refine zaq 7 O ?_;refine znq rfl (yoq O O (qxq (k:=ti5) (len:=(zdq x.pub.1).length+(zdq x.to.1).length+(zdq (beB 8 x.nonce)).length) (news:=zdq (beB 8 x.amount)) (olds:=(zdq x.pub.1++zdq x.to.1)++zdq (beB 8 x.nonce)) O O O O (ymq O O O (zpq Xq n2.symm rfl)) (by intro h;rw[h] at n2;cases n2) (by rw[l1,l2,n1,n2];decide) (by rw[l1,l2,n1,n2];decide) rfl (by show(_+_)*1<0+(_+_)*1;rw[l1,l2,n1,n2];decide) rfl (zpq Xq (by rw[List.length_append,List.length_append]) rfl))) ?_;refine zaq 7 O ?_;refine znq rfl (yoq O O (qxq (k:=ti5) (len:=(zdq x.pub.1).length+(zdq x.to.1).length+(zdq (beB 8 x.nonce)).length+(zdq (beB 8 x.amount)).length) (news:=zdq (beB 8 x.fee)) (olds:=((zdq x.pub.1++zdq x.to.1)++zdq (beB 8 x.nonce))++zdq (beB 8 x.amount)) O O O O (ymq O O O (zpq Xq n3.symm rfl)) (by intro h;rw[h] at n3;cases n3) (by rw[l1,l2,n1,n2,n3];decide) (by rw[l1,l2,n1,n2,n3];decide) rfl (by show(_+_)*1<0+(_+_)*1;rw[l1,l2,n1,n2,n3];decide) rfl (zpq Xq (by rw[List.length_append,List.length_append,List.length_append]) rfl))) ?_;refine zaq 4 O ?_;refine jrq (.inr rfl) O ?_;exact .sl (full:=false) (xs:=zdq (qdq x)) rfl (show purL ((((zdq x.pub.1++zdq x.to.1)++zdq (beB 8 x.nonce))++zdq (beB 8 x.amount))++zdq (beB 8 x.fee))=true by rw[<-eb];simp) (by rw[eb,l1,l2,n1,n2,n3];exact zpq Xq (by simp[l1,l2,n1,n2,n3]) rfl) Xj
theorem rtxcheck_s(x:Tx)(hx:x.ok):PS cfg G 174 [txW x] (.int .i64 (if x.sign=xZq x then 0 else 110)):=by
 have hb:=xPq x;refine zFq (fn:=Tryz.f174) O O O (Ob rfl) (fun R k0=>?_);by_cases h:x.sign=xZq x
 ·rw[if_pos h];skip
  refine zjq 12 O ?_;refine yxq O O O O O O (rbody_s x hx) ?_;refine yxq O O O O O O (x6q 4 (qdq x) Xd) ?_;refine jwq (w':=.bool false) rfl (jaq O O O O (qlq O O O O O O x.sign (xZq x) 250)) (by rw[decide_eq_true h];rfl) ?_;refine zoq 11 O ?_;exact zhq (.inr rfl) O O
 ·rw[if_neg h];refine zjq 12 O ?_;refine yxq O O O O O O (rbody_s x hx) ?_;refine yxq O O O O O O (x6q 4 (qdq x) Xd) ?_;refine jwq (w':=.bool true) rfl (jaq O O O O (qlq O O O O O O x.sign (xZq x) 250)) (by rw[decide_eq_false h];rfl) ?_;refine zoq 10 O ?_;exact zhq (.inr rfl) O O
theorem uWq(x:Tx):PS cfg G 238 [txW x] (dW (keyD x.pub)):=by
 refine zFq (fn:=Tryz.f238) O O O (Ob rfl) (fun R k0=>?_);refine zjq 10 O ?_;refine zkq O O O O O O (rkey_s x.pub) ?_;refine zaq 4 O ?_;exact zhq (.inr rfl) O O
theorem urq(l:List Pr)(k:Dig):acL l k=inA l k:=by
 unfold acL inA;cases jqq l k<;>rfl
theorem rnext_s(ps:List Pr)(f:Bool)(x:Tx)(hx:x.ok)(hb:ps.length<=1000000):PS cfg G 175 [.fz (ps.map pW) 33 f,txW x] (.bool (decide (x.nonce=(acL ps (keyD x.pub)).nonce/\x.nonce<18446744073709551615))):=by
 have h1:=hx.nonce;rw[urq];refine zFq (fn:=Tryz.f175) O O O (Ob rfl) (fun R k0=>?_);by_cases q:x.nonce=(inA ps (keyD x.pub)).nonce
 ·skip
  by_cases q2:x.nonce<18446744073709551615
  ·rw[decide_eq_true ⟨q,q2⟩];skip
   refine zjq 12 O ?_;refine yxq O O O O O O (uWq _) ?_;refine yxq O O O O O O (ZXq ps f (keyD x.pub) Xd) ?_;refine zcq O O (jwq (w':=.bool true) O O (congrArg W.bool (eqI_iff.2 (by rw[q]))) ?_);refine zoq 3 O ?_;refine jwq (w':=.bool true) O O (congrArg W.bool (ltI_iff.2 Xd)) ?_;refine zoq 5 O ?_;exact zhq (.inr rfl) O O
  ·rw[decide_eq_false fun h=>q2 h.2];refine zjq 12 O ?_;refine yxq O O O O O O (uWq _) ?_;refine yxq O O O O O O (ZXq ps f (keyD x.pub) Xd) ?_;refine zcq O O (jwq (w':=.bool true) O O (congrArg W.bool (eqI_iff.2 (by rw[q]))) ?_);refine zoq 3 O ?_;refine jwq (w':=.bool false) O O (congrArg W.bool (ltI_not.2 Xd)) ?_;refine zoq 5 O ?_;exact zhq (.inr rfl) O O
 ·rw[decide_eq_false fun h=>q h.1];refine zjq 12 O ?_;refine yxq O O O O O O (uWq _) ?_;refine yxq O O O O O O (ZXq ps f (keyD x.pub) Xd) ?_;refine zcq O O (jwq (w':=.bool false) O O (congrArg W.bool (eqI_not.2 Xd)) ?_);refine zoq 9 O ?_;exact zhq (.inr rfl) O O
theorem rmoreL_no{l:List Pr}{k:Dig}{c:Nat}(h:qGq l k c=none)(hc:c<18446744073709551616)(hb:l.length<=1000000)(hv:∀x∈l,x.2.length<=70368744177664):PS cfg G 235 [psW l,dW k,.int .u64 (c:Int)] (.tup [.nils,.bool false]):=by
 refine yrq (JOq l false k c hc hb hv) ?_;unfold qGq at h;split at h
 ·cases h
 ·rename_i q;rw[if_pos (by rw[<-urq];omega)]
theorem JPq{l q:List Pr}{k:Dig}{c:Nat}(hs:Srt l)(h:qGq l k c=some q)(hc:c<18446744073709551616)(hb:l.length<=1000000)(hv:∀x∈l,x.2.length<=70368744177664):PS cfg G 235 [psW l,dW k,.int .u64 (c:Int)] (.tup [psW q,.bool true]):=by
 refine yrq (JOq l false k c hc hb hv) ?_;unfold qGq at h;split at h
 ·rename_i g;rw[if_neg (by rw[<-urq];omega),<-urq,voq hs,Option.some.inj h]
 ·cases h
def Few(n:Nat)(l:List Pr):Prop:=l.length<=n/\∀x∈l,x.2.length<=70368744177664
theorem few_set{n:Nat}{l:List Pr}(hs:Srt l)(h:Few n l)(k:Dig)(a:Acct):Few (n+1) (setL l k a):=by
 have hw:Few n (zKq l k):=⟨Nat.le_trans (List.length_filter_le ..) h.1,fun x hx=>h.2 x (List.mem_filter.1 hx).1⟩;unfold setL;split
 ·exact⟨Nat.le_succ_of_le hw.1,hw.2⟩
 ·rw[<-Jzq hs];unfold withR;have e:=List.takeWhile_append_dropWhile (p:=fun p:Pr=>z2q p.1 k) (l:=zKq l k);generalize (zKq l k).takeWhile (fun p=>z2q p.1 k)=A at*
  generalize (zKq l k).dropWhile (fun p=>z2q p.1 k)=B at*
  rw[<-e] at hw;obtain⟨g1,g2⟩:=hw;have lb:=uIq a;refine⟨by simp only[List.length_append,List.length_cons] at g1⊢;omega,fun x hx=>?_⟩;rcases List.mem_append.1 hx with q|q
  ·exact g2 x (List.mem_append_left _ q)
  ·rcases List.mem_cons.1 q with rfl|q
   ·show(qTq a).length<=_;omega
   ·exact g2 x (List.mem_append_right _ q)
theorem rpaid_s(l:List Pr)(hs:Srt l)(hb:Few 500000 l)(x:Tx)(hx:x.ok)(box:Dig)(hn:(acL l (keyD x.pub)).nonce+1<18446744073709551616):PS cfg G 176 [psW l,txW x,dW box] (.tup [psW (yYq l x box).1,.int .i64 ((yYq l x box).2:Nat)]):=by
 have h2:=hx.amount;have h3:=hx.fee;obtain⟨g1,g2⟩:=acL_ok l (keyD x.pub);have nS:Srt (j4q l x):=uTq hs _ _;have nF:Few 500001 (j4q l x):=few_set hs hb _ _;have lS:Srt (j5q l x):=uTq nS _ _;have lF:Few 500002 (j5q l x):=few_set nS nF _ _;have w1:PS cfg G 239 [psW l,dW (keyD x.pub),aW ⟨(acL l (keyD x.pub)).nonce+1,(acL l (keyD x.pub)).balance⟩] (psW (j4q l x)):=yrq (JSq l false (keyD x.pub) ⟨(acL l (keyD x.pub)).nonce+1,(acL l (keyD x.pub)).balance⟩ ⟨hn,g2⟩ (Nat.le_trans hb.1 Xd) hb.2) (by rw[voq hs];rfl);have w2:PS cfg G 239 [psW (j4q l x),dW (keyD x.pub),aW ⟨(acL l (keyD x.pub)).nonce+1,(acL l (keyD x.pub)).balance-(x.amount+x.fee)⟩] (psW (j5q l x)):=yrq (JSq (j4q l x) false (keyD x.pub) ⟨(acL l (keyD x.pub)).nonce+1,(acL l (keyD x.pub)).balance-(x.amount+x.fee)⟩ ⟨hn,by show(acL l (keyD x.pub)).balance-(x.amount+x.fee)<18446744073709551616;omega⟩ (Nat.le_trans nF.1 Xd) nF.2) (by rw[voq nS];rfl);by_cases ho:x.amount+x.fee<=(acL l (keyD x.pub)).balance
 ·cases hm:qGq (j5q l x) x.to x.amount with
  |none=>
   rw[Q9q ho hm];refine zFq (fn:=Tryz.f176) O O O (Ob rfl) (fun R k0=>?_);refine zjq 11 O ?_;refine zkq O O O O O O (uWq _) ?_;refine zaq 8 O ?_;first|refine zkq O O O O O O (yrq (ZXq l false (keyD x.pub) (Nat.le_trans hb.1 Xd)) (by rw[<-urq])) ?_|refine zkq O O O O O O (ZXq ps f (keyD x.pub) Xd) ?_
   refine zaq 8 O ?_;refine zlq ((acL l (keyD x.pub)).nonce+1) O O Xi ⟨by omega,by omega⟩ ?_;refine zaq 9 O ?_;refine zkq O O O O O O w1 ?_;refine zaq 10 O ?_;refine zlq (18446744073709551615-x.fee) O O Xi ⟨by omega,by omega⟩ ?_;refine zgq (w':=.bool false) O O (congrArg W.bool (ltI_not.2 Xd)) ?_;refine zaq 5 O ?_;refine zlq (x.amount+x.fee) O O Xi ⟨by omega,by omega⟩ ?_;refine zaq 2 O ?_;refine zgq (w':=.bool false) O O (congrArg W.bool (ltI_not.2 Xd)) ?_;refine zaq 14 O ?_;refine zlq (x.amount+x.fee) O O Xi ⟨by omega,by omega⟩ ?_;refine zlq ((acL l (keyD x.pub)).balance-(x.amount+x.fee)) O O Xi ⟨by omega,by omega⟩ ?_;refine zaq 9 O ?_;refine yxq O O O O O O w2 ?_;refine zoq 4 O ?_;refine yxq O O O O O O (rmoreL_no hm h2 (Nat.le_trans lF.1 Xd) lF.2) ?_;refine zoq 11 O ?_;refine zgq (w':=.bool true) O O (congrArg W.bool Xh) ?_;refine zaq 12 O ?_;exact zhq (.inr rfl) O O
  |some p=>
   have pS:Srt p:=(u4q lS hm).1
   have pF:Few 500003 p:=by
    unfold qGq at hm;split at hm
    ·rw[<-Option.some.inj hm];exact few_set lS lF _ _
    ·cases hm
   cases hm2:qGq p box x.fee with
   |none=>
    rw[Q8q ho hm hm2];refine zFq (fn:=Tryz.f176) O O O (Ob rfl) (fun R k0=>?_);refine zjq 11 O ?_;refine zkq O O O O O O (uWq _) ?_;refine zaq 8 O ?_;first|refine zkq O O O O O O (yrq (ZXq l false (keyD x.pub) (Nat.le_trans hb.1 Xd)) (by rw[<-urq])) ?_|refine zkq O O O O O O (ZXq ps f (keyD x.pub) Xd) ?_
    refine zaq 8 O ?_;refine zlq ((acL l (keyD x.pub)).nonce+1) O O Xi ⟨by omega,by omega⟩ ?_;refine zaq 9 O ?_;refine zkq O O O O O O w1 ?_;refine zaq 10 O ?_;refine zlq (18446744073709551615-x.fee) O O Xi ⟨by omega,by omega⟩ ?_;refine zgq (w':=.bool false) O O (congrArg W.bool (ltI_not.2 Xd)) ?_;refine zaq 5 O ?_;refine zlq (x.amount+x.fee) O O Xi ⟨by omega,by omega⟩ ?_;refine zaq 2 O ?_;refine zgq (w':=.bool false) O O (congrArg W.bool (ltI_not.2 Xd)) ?_;refine zaq 14 O ?_;refine zlq (x.amount+x.fee) O O Xi ⟨by omega,by omega⟩ ?_;refine zlq ((acL l (keyD x.pub)).balance-(x.amount+x.fee)) O O Xi ⟨by omega,by omega⟩ ?_;refine zaq 9 O ?_;refine yxq O O O O O O w2 ?_;refine zoq 4 O ?_;refine yxq O O O O O O (JPq lS hm h2 (Nat.le_trans lF.1 Xd) lF.2) ?_;refine zoq 11 O ?_;refine zgq (w':=.bool false) O O (congrArg W.bool Xh) ?_;refine zaq 11 O ?_;refine zkq O O O O O O (rmoreL_no hm2 h3 (Nat.le_trans pF.1 Xd) pF.2) ?_;refine zaq 11 O ?_;refine zgq (w':=.bool true) O O (congrArg W.bool Xh) ?_;refine zaq 12 O ?_;exact zhq (.inr rfl) O O
   |some q=>
    rw[Q7q ho hm hm2];refine zFq (fn:=Tryz.f176) O O O (Ob rfl) (fun R k0=>?_);refine zjq 11 O ?_;refine zkq O O O O O O (uWq _) ?_;refine zaq 8 O ?_;first|refine zkq O O O O O O (yrq (ZXq l false (keyD x.pub) (Nat.le_trans hb.1 Xd)) (by rw[<-urq])) ?_|refine zkq O O O O O O (ZXq ps f (keyD x.pub) Xd) ?_
    refine zaq 8 O ?_;refine zlq ((acL l (keyD x.pub)).nonce+1) O O Xi ⟨by omega,by omega⟩ ?_;refine zaq 9 O ?_;refine zkq O O O O O O w1 ?_;refine zaq 10 O ?_;refine zlq (18446744073709551615-x.fee) O O Xi ⟨by omega,by omega⟩ ?_;refine zgq (w':=.bool false) O O (congrArg W.bool (ltI_not.2 Xd)) ?_;refine zaq 5 O ?_;refine zlq (x.amount+x.fee) O O Xi ⟨by omega,by omega⟩ ?_;refine zaq 2 O ?_;refine zgq (w':=.bool false) O O (congrArg W.bool (ltI_not.2 Xd)) ?_;refine zaq 14 O ?_;refine zlq (x.amount+x.fee) O O Xi ⟨by omega,by omega⟩ ?_;refine zlq ((acL l (keyD x.pub)).balance-(x.amount+x.fee)) O O Xi ⟨by omega,by omega⟩ ?_;refine zaq 9 O ?_;refine yxq O O O O O O w2 ?_;refine zoq 4 O ?_;refine yxq O O O O O O (JPq lS hm h2 (Nat.le_trans lF.1 Xd) lF.2) ?_;refine zoq 11 O ?_;refine zgq (w':=.bool false) O O (congrArg W.bool Xh) ?_;refine zaq 11 O ?_;refine zkq O O O O O O (JPq pS hm2 h3 (Nat.le_trans pF.1 Xd) pF.2) ?_;refine zaq 11 O ?_;refine zgq (w':=.bool false) O O (congrArg W.bool Xh) ?_;refine zaq 13 O ?_;exact zhq (.inr rfl) O O
 ·rw[uBq ho];refine zFq (fn:=Tryz.f176) O O O (Ob rfl) (fun R k0=>?_);refine zjq 11 O ?_;refine zkq O O O O O O (uWq _) ?_;refine zaq 8 O ?_;first|refine zkq O O O O O O (yrq (ZXq l false (keyD x.pub) (Nat.le_trans hb.1 Xd)) (by rw[<-urq])) ?_|refine zkq O O O O O O (ZXq ps f (keyD x.pub) Xd) ?_
  refine zaq 8 O ?_;refine zlq ((acL l (keyD x.pub)).nonce+1) O O Xi ⟨by omega,by omega⟩ ?_;refine zaq 9 O ?_;refine zkq O O O O O O w1 ?_;refine zaq 10 O ?_;refine zlq (18446744073709551615-x.fee) O O Xi ⟨by omega,by omega⟩ ?_;refine yZq O O (fun h1=>?_) (fun h1=>?_)
  ·refine zaq 22 O ?_;exact zhq (.inr rfl) O O
  ·have q1:¬((18446744073709551615-x.fee:Nat):Int)<(x.amount:Int):=h1;refine zaq 5 O ?_;refine zlq (x.amount+x.fee) O O Xi ⟨by omega,by omega⟩ ?_;refine zaq 2 O ?_;refine zgq (w':=.bool true) O O (congrArg W.bool (ltI_iff.2 Xd)) ?_;refine zaq 13 O ?_;exact zhq (.inr rfl) O O
end
section
attribute [local irreducible] CoW OpW FlW Step Spec
variable {G:Nat->Option W}
theorem rhof_s(h:Hdr)(hh:okH h):PS cfg G 201 [hdW h] (bW (hdB h)):=by
 obtain⟨i,p,s,r,j⟩:=h;obtain⟨h1,h2,h3,h4⟩:=hh;obtain⟨n,rfl⟩:=Int.eq_ofNat_of_zero_le h1;obtain⟨m,rfl⟩:=Int.eq_ofNat_of_zero_le h3;simp only at h2 h4;have e:hdB ⟨(n:Int),p,s,r,(m:Int)⟩=(((beB 8 n++p.1)++s.1)++r.1)++beB 4 m:=by simp[hdB]
 obtain⟨s1,s2,s3⟩:=hd_sub ⟨(n:Int),p,s,r,(m:Int)⟩;have l1:=p.2;have l2:=s.2;have l3:=r.2;have l4:=yCq 8 n;have l5:=yCq 4 m;have l6:(zdq (beB 4 m)).length=4:=by rw[ziq,l5]
 rw[e];refine q7q (fn:=Tryz.f201) O O O (Ob rfl) (fun R k0=>?_);refine zjq 10 O ?_;refine zlq (n) O O Xi ⟨by omega,by omega⟩ ?_
 (refine zrq rfl (qgq O O O O O O (qaq n 8 Xd Xd) ?_);rintro w hp1 nw1 ⟨rfl,rfl,rfl⟩)
 refine zaq 11 O ?_;refine zlq (m) O O Xi ⟨by omega,by omega⟩ ?_
 (refine zrq rfl (qgq O O O O O O (qaq m 4 Xd Xd) ?_);rintro w hp1 nw1 ⟨rfl,rfl,rfl⟩)
 refine zaq 12 O ?_;refine znq rfl (yoq O O (xfq (k:=ti5) (L:=beB 8 n) (M:=p.1) O O O O O O (ymq O O O s1) rfl l4 Xd Xd)) ?_;refine zaq 8 O ?_;refine znq rfl (yoq O O (xfq (k:=ti5) (L:=beB 8 n++p.1) (M:=s.1) O O O O O O (ymq O O O s2) O O Xd (by simp[l1,l2,l4]))) ?_;refine zaq 8 O ?_;refine znq rfl (yoq O O (xfq (k:=ti5) (L:=(beB 8 n++p.1)++s.1) (M:=r.1) O O O O O O (ymq O O O s3) O O Xd (by simp[l1,l2,l3,l4]))) ?_;refine zaq 7 O ?_;refine znq rfl (yoq O O (xfq (k:=ti5) (L:=((beB 8 n++p.1)++s.1)++r.1) (M:=beB 4 m) O O O O O O (ymq O O O (zpq Xq l6.symm rfl)) O O Xd (by simp[l1,l2,l3,l4,l5]))) ?_;refine zaq 4 O ?_;exact jrq (.inr rfl) rfl (.sl (full:=false) rfl Xk (zpq Xq (ziq _).symm rfl) Xj)
theorem rhname_s(h:Hdr)(hh:okH h):PS cfg G 127 [hdW h] (dW (hashD h)):=by
 refine zFq (fn:=Tryz.f127) O O O (Ob rfl) (fun R k0=>?_);refine zjq 9 O ?_;refine zkq O O O O O O (rhof_s h hh) ?_;refine zkq O O O O O O (x6q 6 (hdB h) (by rw[hdB_len];omega)) ?_;refine zaq 4 O ?_;exact zhq (.inr rfl) O O
end
section
attribute [local irreducible] CoW OpW FlW Step Spec
variable {G:Nat->Option W}
theorem JMq:PS cfg G 207 [] (dW (tagD 0 [])):=by
 refine zFq (fn:=Tryz.f207) O O O (Ob rfl) (fun R k0=>?_);refine zjq 7 O ?_;refine xBq O O O O O (.cons (.pur rfl) (.cons .nilfz .nil)) (JNq 0 [] false Xk Xk) Xn Xn ?_;refine zaq 4 O ?_;exact zhq (.inr rfl) O O
theorem rtwo_s(kind:UInt8)(a b:List UInt8)(f g:Bool)(ha:a.length<1000000)(hb:b.length<1000000):PS cfg G 241 [.int .u8 (.ofNat kind.toNat),.fz (zdq a) 1 f,.fz (zdq b) 1 g] (dW (tagD kind [a,b])):=by
 refine zFq (fn:=Tryz.f241) O O O (Ob rfl) (fun R k0=>?_);refine zjq 11 O ?_;refine xBq O O O O O (.cons (.pur rfl) (.cons (.sl2 (full:=false) rfl (.arr (.cons (.fzw Xk) (.cons (.fzw Xk) .nil))) rfl Xj) .nil)) (JNq kind [a,b] false Xk (by simp[ha,hb])) Xn Xn ?_;refine zaq 4 O ?_;exact zhq (.inr rfl) O O
noncomputable def ofH(A B:List Pr):HpW:=([(0,26,yRq)]++gH 1 185 33 (A.map pW))++gH 2 185 33 (B.map pW)
theorem ofH_l(A:List Pr):ofH A []=[(0,26,yRq)]++gH 1 185 33 (A.map pW):=List.append_nil _
theorem rof_s:∀(t:T) (d:Nat) (b:Dig) (f:Bool),Zr d b->t.ok d b=true->QEq t->t.all.length<=1000000->PS cfg G 178 [.fz (t.all.map pW) 33 f,.int .i64 (d:Int)] (dW (sumD t)):=by
 intro t;induction t with
 |nil=>
  intro d b f hz ok hs hl;refine zFq (fn:=Tryz.f178) O O O (Ob rfl) (fun R k0=>?_);refine zjq 9 O ?_;first|refine j3q O O ?_|refine zbq O O ?_
  refine zaq 6 O ?_;refine zkq O O O O O O (JMq) ?_;refine zaq 5 O ?_;exact zhq (.inr rfl) O O
 |leaf k v=>
  intro d b f hz ok hs hl;have hv:v.length<1000000:=hs (k,v) (by simp[T.all]);refine zFq (fn:=Tryz.f178) O O O (Ob rfl) (fun R k0=>?_);refine zjq 9 O ?_;first|refine j3q O O ?_|refine zbq O O ?_
  refine zaq 10 O ?_;first|refine j3q O O ?_|refine zbq O O ?_
  refine zaq 7 O ?_;first|refine zcq rfl (zBq O O O O O O O Xl) ?_|refine zcq rfl (zLq O O O O O O O Xd) ?_|refine zcq rfl (zsq O O O O O O Xd) ?_|refine zcq O O ?_
  refine zoq 3 O ?_;first|refine zcq rfl (zBq O O O O O O O Xl) ?_|refine zcq rfl (zLq O O O O O O O Xd) ?_|refine zcq rfl (zsq O O O O O O Xd) ?_|refine zcq O O ?_
  refine zoq 2 O ?_;refine fl_ps O O O O O (by show [_,W.fz (((zdq k.1).drop (0/1)).take 32) 1 true,_]=[_,W.fz (zdq k.1) 1 true,_];rw[show 0/1=0 from rfl,List.drop_zero,List.take_of_length_le (by rw[ziq,k.2];omega)];rfl) (rtwo_s 1 k.1 v true false (by simp[k.2]) hv) Xk Xk Xr ?_;refine zoq 5 O ?_;exact zhq (.inr rfl) O O
 |fork tl tr ihL ihR=>
  intro d b f hz ok hs hl;obtain⟨hd,okL,okR,two⟩:=ok_fork.1 ok;obtain⟨b0,b1⟩:=YOq hz ok;have sL:QEq tl:=fun p hp=>hs p Qz
  have sR:QEq tr:=fun p hp=>hs p Qz
  have hall:(T.fork tl tr).all=tl.all++tr.all:=by simp[T.all]
  have cL:=ihL (d+1) b false (jnq hz) okL sL (by rw[hall,List.length_append] at hl;omega);have cR:=ihR (d+1) (qMq b d) false (jmq hz hd) okR sR (by rw[hall,List.length_append] at hl;omega);have hn2:2<=tl.all.length+tr.all.length:=JCq okL okR two;rw[hall] at hl⊢;rw[List.length_append] at hl;generalize tl.all=L at*
  generalize tr.all=Q at*
  have e:((L++Q).map pW).length=L.length+Q.length:=by rw[List.length_map,List.length_append]
  have hat:∀i,i<L.length+Q.length->∃x,(L++Q)[i]? =some x:=fun i hi=>⟨_,List.getElem?_eq_getElem (by rw[List.length_append];exact hi)⟩
  refine zFq (fn:=Tryz.f178) O O O (Ob rfl) (fun R k0=>?_);refine zjq 9 O ?_;refine zgq (w':=.int .i64 ((L.length+Q.length:Nat):Int)) O O Xy ?_;refine zgq (w':=.bool false) O O (congrArg W.bool (eqI_not.2 Xd)) ?_;refine zaq 9 O ?_;refine zgq (w':=.int .i64 ((L.length+Q.length:Nat):Int)) O O Xy ?_;refine zgq (w':=.bool false) O O (congrArg W.bool (eqI_not.2 Xd)) ?_;refine zaq 18 O ?_;have z0:Q.take (0-L.length)=[]:=by rw[Nat.zero_sub];rfl
  refine qBq (α:=Nat) (fun i=>i<=L.length+Q.length) (fun i=>[(5,gW 1 33 ((L.take i).map pW)),(7,.int .i64 (i:Int)),(6,gW 2 33 ((Q.take (i-L.length)).map pW)),(0,.fz ((L++Q).map pW) 33 f),(1,.int .i64 (d:Int)),(4,.ptr 0 0)]) (fun i=>ofH (L.take i) (Q.take (i-L.length))) (fun _=>3) (fun _=>R) (fun i=>L.length+Q.length-i) 0 (Nat.zero_le _) ((unq (fr2:=[(5,.nils),(7,.int .i64 0),(6,.nils),(0,.fz ((L++Q).map pW) 33 f),(1,.int .i64 (d:Int)),(4,.ptr 0 0)]) ⟨rfl,rfl,rfl,rfl,rfl,rfl,trivial⟩).trans ((unq (fr2:=[(5,.nils),(7,.int .i64 0),(6,.nils),(0,.fz ((L++Q).map pW) 33 f),(1,.int .i64 (d:Int)),(4,.ptr 0 0)]) ⟨rfl,rfl,rfl,rfl,rfl,rfl,trivial⟩).trans (ylq ⟨rfl,rfl,by rw[z0];rfl,rfl,rfl,rfl,trivial⟩ (by rw[z0];rfl) rfl))) (fun i hI=>?_);skip
  have hI:i<=L.length+Q.length:=hI;refine zjq 5 O ?_;refine zgq (w':=.int .i64 ((L.length+Q.length:Nat):Int)) O O Xy ?_;refine zaq 3 O ?_;refine zyq rfl (fun h1=>?_) (fun h1=>?_)
  ·have hi:i<L.length+Q.length:=by omega
   obtain⟨x,hx⟩:=hat i hi;skip
   by_cases hc:i<L.length
   ·have hxl:L[i]? =some x:=by rw[List.getElem?_append_left hc] at hx;exact hx
    have hbit:bitN x.1 d=0:=b0 x (List.mem_of_getElem? hxl);have zq:Q.take (i-L.length)=[]:=by rw[show i-L.length=0 by omega];rfl
    have zq':Q.take (i+1-L.length)=[]:=by rw[show i+1-L.length=0 by omega];rfl
    have hL2:(L.take (i+1)).map pW=(L.take i).map pW++[pW x]:=by rw[List.take_add_one,hxl,List.map_append];rfl
    have hlt:((L.take i).map pW).length<=1000000:=by rw[List.length_map,List.length_take];omega
    rw[zq,ofH_l];refine zeq 8 O ?_;refine zbq rfl (zBq (i:=i) O O O O O O O (zYq pW hx)) ?_;refine zaq 3 O ?_;refine zkq O O O O O O (rat_s x.1 d hd) ?_;refine zgq (w':=.bool true) O O (congrArg W.bool (eqI_iff.2 (by rw[hbit];rfl))) ?_;refine zaq 7 O ?_;refine zbq rfl (zBq (i:=i) O O O O O O O (zYq pW hx)) ?_;refine zaq 2 O ?_;refine znq rfl (yoq O O (jPq [_,_] (k:=ti185) (news:=[pW x]) O O O O O (ymq O O O O) Xk (by show(((L.take i).map pW).length+1)*56<=_;omega) (by show((L.take i).map pW).length+1<=_;omega) rfl Xk)) ?_;refine zaq 6 O ?_;refine zlq (i+1) O O Xi ⟨by omega,by omega⟩ ?_;refine yyq 2 O ?_;skip
    refine ywq (i+1) hi Xd ?_;simp only[zq',ofH_l,hL2];exact(q0q (b:=1) (H0:=[(0,26,yRq)]) (l2:=(L.take i).map pW++[pW x]) (n:=((L.take i).map pW++[pW x]).length) (fr2:=[(7,.int .i64 ((i+1:Nat):Int)),(6,.nils),(0,.fz ((L++Q).map pW) 33 f),(1,.int .i64 (d:Int)),(4,.ptr 0 0)]) 4 5 Xd Xd Yq Xk O O ⟨rfl,rfl,rfl,rfl,rfl,trivial⟩ ⟨rfl,rfl,zfq (show purW (.fz ((L++Q).map pW) 33 f)=true from kcq _),rfl,rfl,trivial⟩ rfl Xk ⟨⟨by omega,rfl,rfl⟩,trivial⟩ Xk).trans (unq ⟨rfl,rfl,rfl,rfl,rfl,rfl,trivial⟩)
   ·have hxq:Q[i-L.length]? =some x:=by rw[List.getElem?_append_right Xd] at hx;exact hx
    have hbit:bitN x.1 d=1:=b1 x (List.mem_of_getElem? hxq);have zl:L.take i=L:=List.take_of_length_le Xd;have zl':L.take (i+1)=L:=List.take_of_length_le Xd;have hQ2:(Q.take (i+1-L.length)).map pW=(Q.take (i-L.length)).map pW++[pW x]:=by rw[show i+1-L.length=(i-L.length)+1 by omega,List.take_add_one,hxq,List.map_append];rfl
    have hlt:((Q.take (i-L.length)).map pW).length<=1000000:=by rw[List.length_map,List.length_take];omega
    have hnm:∀p∈[((0:Nat),26,yRq)]++gH 1 185 33 (L.map pW),p.1<2:=fun p hp=>by
     rcases List.mem_append.1 hp with hp|hp
     ·simp only[List.mem_cons,List.not_mem_nil,or_false] at hp;rw[hp];show 0<2;omega
     ·rw[Kdq p hp];omega
    rw[zl];refine zeq 8 O ?_;refine zbq rfl (zBq (i:=i) O O O O O O O (zYq pW hx)) ?_;refine zaq 3 O ?_;refine zkq O O O O O O (rat_s x.1 d hd) ?_;refine zgq (w':=.bool false) O O (congrArg W.bool (eqI_not.2 (by rw[hbit];decide))) ?_;refine zaq 7 O ?_;refine zbq rfl (zBq (i:=i) O O O O O O O (zYq pW hx)) ?_;refine zaq 2 O ?_;refine znq rfl (yoq O O (jPq ((3,_)::([(0,_)]++gH 1 185 33 (L.map pW))) (k:=ti185) (news:=[pW x]) O O O O O (ymq O O O O) Xk (by show(((Q.take (i-L.length)).map pW).length+1)*56<=_;omega) (by show((Q.take (i-L.length)).map pW).length+1<=_;omega) rfl (fun p hp=>by rcases List.mem_cons.1 hp with q|q;(rw[q];show¬3=2;omega);have:=hnm p q;omega))) ?_;refine zaq 6 O ?_;refine zlq (i+1) O O Xi ⟨by omega,by omega⟩ ?_;refine yyq 2 O ?_;skip
    refine ywq (i+1) hi Xd ?_;simp only[zl',hQ2];exact(q0q (b:=2) (H0:=[(0,26,yRq)]++gH 1 185 33 (L.map pW)) (l2:=(Q.take (i-L.length)).map pW++[pW x]) (n:=((Q.take (i-L.length)).map pW++[pW x]).length) (fr2:=[(5,gW 1 33 (L.map pW)),(7,.int .i64 ((i+1:Nat):Int)),(0,.fz ((L++Q).map pW) 33 f),(1,.int .i64 (d:Int)),(4,.ptr 0 0)]) 4 6 Xd Xd Yq Xk O O ⟨rfl,rfl,rfl,rfl,rfl,trivial⟩ ⟨by cases L.map pW<;>rfl,rfl,zfq (show purW (.fz ((L++Q).map pW) 33 f)=true from kcq _),rfl,rfl,trivial⟩ rfl Xk (JHq ⟨⟨by omega,rfl,rfl⟩,trivial⟩ (subH_g Xd Xk (fun x r h=>by rw[h];rfl))) (by cases L.map pW<;>simp[gH])).trans (ylq ⟨rfl,rfl,rfl,rfl,rfl,rfl,trivial⟩ (by unfold ofH;rw[hQ2]) rfl)
  ·have hi:i=L.length+Q.length:=by omega
   have zl:L.take i=L:=List.take_of_length_le Xd;have zq:Q.take (i-L.length)=Q:=List.take_of_length_le Xd;rw[zl,zq];refine zeq 2 O ?_;refine qoq Xj ?_;refine zCq 6 O ?_;refine zlq (d+1) O O Xi ⟨by omega,by omega⟩ ?_;refine xBq O O O O O (.cons (view_g2 (H0:=[(0,26,yRq)]) Xq Xk Xk) (.cons (.pur rfl) .nil)) cL Xk (flat_dW _) ?_;refine zaq 2 O ?_;refine zlq (d+1) O O Xi ⟨by omega,by omega⟩ ?_;refine xBq O O O O O (.cons (x1q (H0:=[(0,26,yRq)]++gH 1 185 33 (L.map pW)) Xq Xk (fun p hp=>by rcases List.mem_append.1 hp with q|q;(simp only[List.mem_cons,List.not_mem_nil,or_false] at q;rw[q];show¬0=2;omega);(rw[Kdq p q];omega))) (.cons (.pur rfl) .nil)) cR Xk (flat_dW _) ?_;refine zaq 10 O ?_;refine fl_lk O O O O O (.cons (.pur rfl) (.cons (.sl (full:=false) (xs:=zdq (sumD tl).1) rfl Xk (zpq Xq (by simp[ziq,(sumD tl).2]) rfl) Xj) (.cons (.sl (full:=false) (xs:=zdq (sumD tr).1) rfl Xk (zpq Xq (by simp[ziq,(sumD tr).2]) rfl) Xj) .nil))) (rtwo_s 2 (sumD tl).1 (sumD tr).1 false false (by simp[(sumD tl).2]) (by simp[(sumD tr).2])) Xn Xn Xr ?_;refine zoq 4 O ?_;exact zhq (.inr rfl) O O
end
section
variable {C:Cfg} {G:Nat->Option W} {o:Oper} {fr:FrW} {hp:HpW} {nw:Nat} {R:Res} {post:W->HpW->Nat->Res->Option EvW->Prop}
theorem step_frz1{w w2 c:W}{ty:TypeId}(h:opHW C G fr hp nw o.op=some (w,(nw,ty,c)::hp,nw+1,.gen))(hc:purW c=true)(hv:View (blk1 nw c) w w2)(hpost:post w2 hp (nw+1) R (some .gen)):Step C G o fr hp nw R post:=fun Γ X frv hnw s hf=>by
 subst hnw;obtain⟨v,h',Γ',h1,h2,h3,h4⟩:=opH_sim (rt:=o.type) hf s h;have sat:=h3.sat;have hb:hget ((Γ.nw,ty,c)::hp) Γ.nw=some (ty,c):=by rw[zzq,if_pos rfl]
 obtain⟨p1,p2,p3,u,p4,p5⟩:=sat.own _ _ _ hb;let Γ2:Ctx:=⟨Γ'.nw,Γ'.σ,fun d=>Γ'.D d\/d=Γ'.σ Γ.nw,Γ'.h⟩
 have le:Γ'.Le Γ2:=⟨Nat.le_refl _,fun _ _=>rfl,fun _ h=>.inl h,fun _ _=>rfl⟩
 have q:Seen (blk1 Γ.nw c) Γ' Γ2:=⟨fun _ h _=>h,fun _ _ _=>rfl,fun _ h=>.inl h,fun _ _=>rfl,fun k c' hk h=>by
  unfold blk1 at h;split at h
  ·rename_i e;rw[Nat.beq_eq] at e;subst e;cases h;exact⟨.inr rfl,u,Zaq p4,p5⟩
  ·cases h⟩
 have hlt:Γ'.σ Γ.nw<Γ'.h.next:=by
  rcases Nat.lt_or_ge (Γ'.σ Γ.nw) Γ'.h.next with h|h
  ·exact h
  ·rw[sat.wf _ h] at p4;cases p4
 have hsub:∀k x,hget hp k=some x->k<Γ.nw/\hget ((Γ.nw,ty,c)::hp) k=some x:=fun k x hk=>by
  have:=(s.own k x.1 x.2 hk).1;exact⟨this,by rw[zzq,if_neg Xd];exact hk⟩
 refine⟨0,w2,hp,R,some .gen,v,h',Γ2,X,?_,by simp only[opV,h1,h2],⟨h1,h4⟩,h3.hh,⟨Nat.le_trans h3.le.nw le.nw,h3.le.σ,fun d h=>.inl (h3.le.D d h),h3.le.val⟩,⟨sat.wf,fun k ty' w hk=>?_,fun k k' x y hx hy e=>?_,s.nd,fun d hd hX=>?_,sat.xlt,fun d hd=>?_,R.st _ _ _ _ _ sat.res le.D le.val (fun _ _=>rfl) (Nat.le_refl _),sat.gl.mono le⟩,⟨h3.frm.sig,h3.frm.mle,h3.frm.next,h3.frm.keep,fun d h=>.inl (h3.frm.dsub d h),fun d hd=>?_,fun k x _ hk=>⟨x,hk⟩,fun k x hm hk=>?_,fun _ h=>.inl h,h3.frm.wmin⟩,kUq q hv h3.val⟩
 ·show post w2 hp Γ'.nw R _;rw[h3.nw];exact hpost
 ·obtain⟨g1,g2⟩:=hsub k _ hk;obtain⟨q1,q2,q3,u,q4,q5⟩:=sat.own _ _ _ g2;exact⟨q1,fun h=>h.elim q2 fun e=>by have:=sat.inj k _ _ _ g2 hb e;omega,q3,u,q4,q5.mono le⟩
 ·exact sat.inj _ _ _ _ (hsub k _ hx).2 (hsub k' _ hy).2 e
 ·rcases hd with h|rfl
  ·exact sat.dX d h hX
  ·exact p3 hX
 ·rcases hd with h|rfl
  ·exact sat.dlt d h
  ·exact hlt
 ·rcases hd with h|rfl
  ·exact h3.frm.dnew d h
  ·rcases h3.frm.onum Γ.nw _ (Nat.le_refl _) hb with h|⟨k,y,g1,g2,g3⟩
   ·exact .inr (.inr h)
   ·exact .inr (.inl (.inl ⟨k,y,g2,g3⟩))
 ·have:=(hsub k _ hk).1;omega
theorem step_nilz{w w2:W}(h:opHW C G fr hp nw o.op=some (w,hp,nw,.gen))(hv:View (fun _=>none) w w2)(hpost:post w2 hp (nw+1) R (some .gen)):Step C G o fr hp nw R post:=fun Γ X frv hnw s hf=>by
 subst hnw;obtain⟨v,h',Γ',h1,h2,h3,h4⟩:=opH_sim (rt:=o.type) hf s h;have sat:=h3.sat;let Γ2:Ctx:=⟨Γ'.nw+1,Γ'.σ,Γ'.D,Γ'.h⟩
 have le:Γ'.Le Γ2:=⟨Nat.le_succ _,fun _ _=>rfl,fun _ h=>h,fun _ _=>rfl⟩;refine⟨0,w2,hp,R,some .gen,v,h',Γ2,X,?_,by simp only[opV,h1,h2],⟨h1,h4⟩,h3.hh,⟨Nat.le_trans h3.le.nw le.nw,h3.le.σ,h3.le.D,h3.le.val⟩,⟨sat.wf,fun k ty' w hk=>?_,sat.inj,s.nd,sat.dX,sat.xlt,sat.dlt,R.st _ _ _ _ _ sat.res le.D le.val (fun _ _=>rfl) (Nat.le_refl _),sat.gl.mono le⟩,⟨h3.frm.sig,fun h=>Nat.le_trans (h3.frm.mle h) (Nat.le_succ _),h3.frm.next,h3.frm.keep,h3.frm.dsub,h3.frm.dnew,h3.frm.oext,h3.frm.onum,fun _ h=>.inl h,h3.frm.wmin⟩,kUq (show Seen (fun _=>none) Γ' Γ2 from⟨fun _ h _=>Nat.lt_succ_of_lt h,fun _ _ _=>rfl,fun _ h=>h,fun _ _=>rfl,fun _ _ _ h=>Qm⟩) hv h3.val⟩
 ·show post w2 hp (Γ'.nw+1) R _;rw[h3.nw];exact hpost
 ·obtain⟨q1,q2,q3,u,q4,q5⟩:=sat.own _ _ _ hk;exact⟨Nat.lt_of_lt_of_le q1 (Nat.le_succ _),q2,q3,u,q4,q5.mono le⟩
theorem step_ap0{x y:Operand}{ts tx ty:TypeId}{j k:TyI}{e:Nat}{v:W}{news:List W}(ho:o.op= .call ⟨.builtin .append, #[x,y], #[ts,tx]⟩)(hx:evW C G fr x=some .nils)(hy:evW C G fr y=some v)(hj:C.ty ts=some j)(hd:j.d= .slice ty)(hk:C.ty ty=some k)(he:k.size=e)(hz:Nat.beq k.size 0=false)(hs:srcW C hp tx k.size v=some news)(hpu:purL news=true)(h1:news.length*k.bytes<=140737488355328)(h2:news.length<=70368744177664)(h:post (.fz news e false) hp (nw+1) R (some .gen)):Step C G o fr hp nw R post:=by
 subst he
 have hk0:0<k.size:=by
  rcases Nat.eq_zero_or_pos k.size with q|q
  ·rw[q] at hz;cases hz
  ·exact q
 cases news with
 |nil=>exact step_nilz (by rw[ho];exact yoq hx hy (Ygq hj hd hk hz hs)) .nilfz h
 |cons z zs=>
  exact step_frz1 (by rw[ho];exact yoq hx hy (kNq hj hd hk hz hs Xk h1 h2)) (show purW (.arr _ _ (z::zs))=true from hpu) (.sl (full:=false) (c:=.arr ((z::zs).length*k.size) k.size (z::zs)) (by unfold blk1;rw[Nat.beq_refl]) hpu (zpq hk0 O O) Xj) h
end
theorem pspec_view{C:Cfg}{G:Nat->Option W}{f:FuncId}{m:Nat}{ws ws':List W}{hp:HpW}{Q:W->HpW->Nat->Prop}(h:ViewL (fun _=>none) ws ws')(sp:qiq C G f m ws' hp Q):qiq C G f m ws hp Q:=fun R Γ X vs h1 s hv=>
 sp R Γ X vs h1 s (uxq ⟨fun _ h _=>h,fun _ _ _=>rfl,fun _ h=>h,fun _ _=>rfl,fun _ _ _ h=>Qm⟩ h hv)
section
attribute [local irreducible] CoW OpW FlW Step Spec
variable {G:Nat->Option W}
theorem rfdepo_s(d:Depo)(h1:d.number<18446744073709551616)(h2:d.amount<18446744073709551616):PS cfg G 173 [pdW d] (dW (depD d)):=by
 have l1:=yCq 8 d.number;have l2:=d.to.2;have l4:=yCq 8 d.amount;have l3:(zdq (beB 8 d.amount)).length=8:=by rw[ziq,l4]
 have e:depB d=(beB 8 d.number++d.to.1)++beB 8 d.amount:=by simp[depB]
 have hl:=depB_len d;refine zFq (fn:=Tryz.f173) O O O (Ob rfl) (fun R k0=>?_);refine zjq 10 O ?_
 ((refine zrq rfl (qgq O O O O O O (qaq _ 8 Xv Xd) ?_);rintro w hp1 nw1 ⟨rfl,rfl,rfl⟩))
 refine zaq 11 O ?_
 ((refine zrq rfl (qgq O O O O O O (qaq _ 8 Xv Xd) ?_);rintro w hp1 nw1 ⟨rfl,rfl,rfl⟩))
 refine zaq 12 O ?_;refine znq rfl (yoq O O (xfq (k:=ti5) (L:=beB 8 d.number) (M:=d.to.1) O O O O O O (ymq O O O (dep_sub d)) rfl l1 Xd Xd)) ?_;refine zaq 7 O ?_;refine znq rfl (yoq O O (xfq (k:=ti5) (L:=beB 8 d.number++d.to.1) (M:=beB 8 d.amount) O O O O O O (ymq O O O (zpq Xq l3.symm rfl)) O O Xd (by simp[l1,l2,l4]))) ?_;refine xBq O O O O O (.cons (.pur rfl) (.cons (.sl (full:=false) rfl Xk (zpq Xq (ziq _).symm rfl) Xj) .nil)) (x6q 9 (depB d) Xd) Xn Xn ?_;refine zaq 4 O ?_;exact zhq (.inr rfl) O O
theorem rfof_c(k:UInt8)(d:Dig)(c:Nat)(a b:UInt8)(h:beB 2 c=[a,b])(w1:kaq .i64 ((c:Int).tdiv 256)= .ofNat a.toNat)(w2:kaq .u8 (.ofNat a.toNat)= .ofNat a.toNat)(w3:(c:Int).tmod 256= .ofNat b.toNat)(w4:kaq .u8 (.ofNat b.toNat)= .ofNat b.toNat):PS cfg G 244 [recW ⟨k,d,c⟩] (bW (recB ⟨k,d,c⟩)):=by
 have l2:=d.2;rw[show recB ⟨k,d,c⟩=([k]++d.1)++[a,b] by rw[recB,h]];refine q7q (fn:=Tryz.f244) O O O (Ob rfl) (fun R k0=>?_);refine zjq 19 O ?_;refine znq rfl (yoq O O (xfq (k:=ti5) (L:=[k]) (M:=d.1) O O O O O O (ymq O O O (rec_sub ⟨k,d,c⟩)) O O Xd (by simp[l2]))) ?_;refine zaq 8 O ?_;refine zgq O O (congrArg (W.int .i64) w1) (zgq O O (congrArg (W.int .u8) w2) ?_);refine zaq 2 O ?_;refine zgq O O (congrArg (W.int .i64) w3) (zgq O O (congrArg (W.int .u8) w4) (znq O O (znq rfl (yoq O O (xfq (k:=ti5) (L:=[k]++d.1) (M:=[a,b]) O O O O O O (ymq O O O O) O O Xk (by simp[l2]))) ?_)));refine zaq 4 O ?_;exact jrq (.inr rfl) rfl (.sl (full:=false) rfl Xk (zpq Xq (ziq _).symm rfl) Xj)
theorem rfof_s(r:Rec)(h:okR r):PS cfg G 244 [recW r] (bW (recB r)):=by
 obtain⟨k,d,c⟩:=r;rcases h.2 with h|h|⟨_,h⟩<;>(simp only at h;subst h)
 ·exact rfof_c k d 0 0 0 Xq Xw Xw Xw Xw
 ·exact rfof_c k d 151 0 151 Xq Xw Xw Xw Xw
 ·exact rfof_c k d 150 0 150 Xq Xw Xw Xw Xw
theorem rbodyL_s(x:Tx)(hx:x.ok):PL cfg G 237 [txW x] 5 1 (zdq (qdq x)):=by
 have h1:=hx.nonce;have h2:=hx.amount;have h3:=hx.fee;have l1:=x.pub.2;have l2:=x.to.2;have n1:=yCq 8 x.nonce;have n2:=yCq 8 x.amount;have n3:=yCq 8 x.fee;have m1:(zdq (beB 8 x.nonce)).length=8:=by rw[ziq,n1]
 have m2:(zdq (beB 8 x.amount)).length=8:=by rw[ziq,n2]
 have m3:(zdq (beB 8 x.fee)).length=8:=by rw[ziq,n3]
 have e:qdq x=(((x.pub.1++x.to.1)++beB 8 x.nonce)++beB 8 x.amount)++beB 8 x.fee:=by simp[qdq]
 have hb:=xPq x;intro R;refine zVq (fn:=Tryz.f237) O O O (Ob rfl) (fun k0=>?_);refine zjq 16 O ?_;refine znq rfl (yoq O O (app_b0 (k:=ti5) (M:=x.pub.1) O O O O O (ymq O O O (tx_sub x).1) Xd Xd)) ?_;refine zaq 8 O ?_;refine znq rfl (yoq O O (xfq (k:=ti5) (L:=x.pub.1) (M:=x.to.1) O O O O O O (ymq O O O (tx_sub x).2) O O Xd Xd)) ?_;refine zaq 7 O ?_;first|((refine zrq rfl (qgq O O O O O O (qaq _ 8 Xv Xd) ?_);rintro w hp1 nw1 ⟨rfl,rfl,rfl⟩))|((refine zrq rfl (qgq O O O O O O (qaq _ 8 Xv Xd) ?_);rintro w hp1 nw1 ⟨rfl,rfl,rfl⟩))
 refine zaq 11 O ?_;first|((refine zrq rfl (qgq O O O O O O (qaq _ 8 Xv Xd) ?_);rintro w hp1 nw1 ⟨rfl,rfl,rfl⟩))|((refine zrq rfl (qgq O O O O O O (qaq _ 8 Xv Xd) ?_);rintro w hp1 nw1 ⟨rfl,rfl,rfl⟩))
 refine zaq 11 O ?_;first|((refine zrq rfl (qgq O O O O O O (qaq _ 8 Xv Xd) ?_);rintro w hp1 nw1 ⟨rfl,rfl,rfl⟩))|((refine zrq rfl (qgq O O O O O O (qaq _ 8 Xv Xd) ?_);rintro w hp1 nw1 ⟨rfl,rfl,rfl⟩))
 refine zaq 11 O ?_;refine znq rfl (yoq O O (xfq (k:=ti5) (L:=x.pub.1++x.to.1) (M:=beB 8 x.nonce) O O O O O O (ymq O O O (zpq Xq m1.symm rfl)) O O Xd (by simp[l1,l2,n1]))) ?_;refine zaq 7 O ?_;refine znq rfl (yoq O O (xfq (k:=ti5) (L:=(x.pub.1++x.to.1)++beB 8 x.nonce) (M:=beB 8 x.amount) O O O O O O (ymq O O O (zpq Xq m2.symm rfl)) O O Xd (by simp[l1,l2,n1,n2]))) ?_;refine zaq 7 O ?_;refine znq rfl (yoq O O (xfq (k:=ti5) (L:=((x.pub.1++x.to.1)++beB 8 x.nonce)++beB 8 x.amount) (M:=beB 8 x.fee) O O O O O O (ymq O O O (zpq Xq m3.symm rfl)) O O Xd (by simp[l1,l2,n1,n2,n3]))) ?_;refine zaq 4 O ?_;rw[<-e];have hpb:purW (.arr ((qdq x).length*1) 1 (zdq (qdq x)))=true:=y5q _;have hn:(zdq (qdq x)).length=88:=by rw[ziq,hb]
 have hne:zdq (qdq x)≠[]:=fun h=>by rw[h] at hn;cases hn
 refine fin (fr2:=[(2,.sl 0 0 0 (qdq x).length 1 none)]) (hp2:=[(0,5,.arr ((qdq x).length*1) 1 (zdq (qdq x)))]) (nw2:=1) (w:=.sl 0 0 0 (qdq x).length 1 none) (.inr rfl) (y2q (b:=0) (k:=8) Xd Xd (by show 8<9;omega) ⟨⟨rfl,rfl⟩,trivial⟩ ⟨⟨by omega,?_,zfq hpb⟩,trivial⟩ Xk) rfl ⟨rfl,?_,?_,rfl⟩
 ·show some (5,W.arr ((qdq x).length*1) 1 (zdq (qdq x)))=some (5,renW _ (W.arr ((qdq x).length*1) 1 (zdq (qdq x))));rw[zmq hpb]
 ·rw[xFq hne,ziq]
 ·rw[xHq hne,ziq]
theorem rtxbytes_s(x:Tx)(hx:x.ok):PS cfg G 240 [txW x] (bW (txB x)):=by
 have hb:=xPq x;have l2:=x.sign.2;have l1:(zdq (qdq x)).length=88:=by rw[ziq,hb]
 have hne:zdq (qdq x)≠[]:=fun h=>by rw[h] at l1;cases l1
 have e1:(zdq (qdq x)).length=(qdq x).length:=ziq _;refine q7q (fn:=Tryz.f240) O O O (Ob rfl) (fun R k0=>?_);refine zjq 9 O ?_
 (refine yaq rfl (kXq O O O O O Xk (rbodyL_s x hx) Xk ?_);rw[xFq hne,xHq hne,e1];refine⟨by first|rfl|kernel_rfl,?_⟩)
 refine zoq 2 O ?_;refine yqq rfl (yoq O O (xfq (k:=ti5) (L:=qdq x) (M:=x.sign.1) O O O O O O (ymq O O O (sign_sub x)) O O Xd Xd)) Xr ?_;refine zoq 4 O ?_;exact jrq (.inr rfl) rfl (.sl (full:=false) rfl Xk (zpq Xq (ziq _).symm rfl) Xj)
theorem rtxid_s(x:Tx)(hx:x.ok):PS cfg G 177 [txW x] (dW (idD x)):=by
 have hl:=txB_len x;refine zFq (fn:=Tryz.f177) O O O (Ob rfl) (fun R k0=>?_);refine zjq 9 O ?_;refine zkq O O O O O O (rtxbytes_s x hx) ?_;first|refine zkq O O O O O O (x6q 5 (txB x) Xd) ?_|refine xBq O O O O O (.cons (.pur rfl) (.cons (.sl (full:=false) rfl Xk (zpq Xq (ziq _).symm rfl) Xj) .nil)) (x6q 9 (depB d) Xd) Xn Xn ?_
 refine zaq 4 O ?_;exact zhq (.inr rfl) O O
theorem first_ok:∀n,n<=256->∀k,k<8->2^k<n->n<=2*2^k->2^k=yWq n:=by decide+kernel
theorem rfirst_s(n:Nat)(h2:2<=n)(h:n<=256):PS cfg G 243 [.int .i64 (n:Int)] (.int .i64 (yWq n:Nat)):=by
 refine zFq (fn:=Tryz.f243) O O O (Ob rfl) (fun R k0=>?_);refine zjq 12 O ?_;refine yEq (α:=Nat×Nat) (fun p=>p.2=2^p.1/\p.2<n/\1<=p.2) (fun p=>[(3,.int .i64 (p.2:Nat))]) [(0,_),(2,_)] (fun p=>n-p.2) ((0,1)) ⟨rfl,rfl,trivial⟩ (⟨rfl,by show 1<n;omega,Nat.le_refl _⟩) ⟨rfl,trivial⟩ (fun p hI=>?_);obtain⟨k,q⟩:=p;obtain⟨g1,g2,g3⟩:=hI;simp only at g1 g2 g3⊢;refine zjq 4 O ?_;refine zlq (2*q) O O Xi ⟨by omega,by omega⟩ ?_;refine zaq 4 O ?_;refine zyq rfl (fun h1=>?_) (fun h1=>?_)
 ·have hq:2*q<n:=by omega
  refine zeq 5 O ?_;refine zlq (2*q) O O Xi ⟨by omega,by omega⟩ ?_;refine zaq 3 O ?_;exact z5q ((k+1,2*q)) (⟨by simp only;rw[g1,Nat.pow_succ];omega,hq,by simp only;omega⟩) Yh ⟨rfl,trivial⟩ ⟨rfl,rfl,trivial⟩ Xg Xd Xm rfl
 ·have hq:n<=2*q:=by omega
  have hk:k<8:=by
   have:2^k<2^8:=by rw[<-g1];show q<256;omega
   exact(Nat.pow_lt_pow_iff_right Xd).1 this
  refine zeq 2 O ?_;refine z3q Xj ?_;refine zCq 9 O ?_;exact zhq (.inr rfl) rfl (by rw[g1,first_ok n h k hk (by rw[<-g1];exact g2) (by rw[<-g1];exact hq)])
end
section
attribute [local irreducible] CoW OpW FlW Step Spec
variable {G:Nat->Option W}
theorem rtwbody_s(ds:List Depo)(xs:List Tx)(f g:Bool)(hd:ds.length<=1000000)(hx:xs.length<=1000000):PS cfg G 18 [bodW ds xs f g] (bodW ds xs false false):=by
 have e1:(ds.map pdW).length=ds.length:=List.length_map _;have e2:(xs.map txW).length=xs.length:=List.length_map _;refine zFq (fn:=Tryz.f18) O O O (Ob rfl) (fun R k0=>?_);refine zjq 17 O ?_
 (refine zrq rfl (step_ap0 (k:=ti173) (e:=34) (news:=ds.map pdW) O O O O O O O O O Xk (by rw[e1];show _*48<=_;omega) Xd ?_))
 refine zaq 10 O ?_
 (refine zrq rfl (step_ap0 (k:=ti75) (e:=99) (news:=xs.map txW) O O O O O O O O O Xk (by rw[e2];show _*120<=_;omega) Xd ?_))
 refine zaq 11 O ?_;exact zhq (.inr rfl) O O
def GreatC(c:Ch)(n:Nat):Prop:=xYq c.tree 900\/n<c.links.length\/∃x∈c.links,y8q x.ds x.xs\/40<x.rs.length
noncomputable instance(c:Ch)(n:Nat):Decidable (GreatC c n):=Classical.propDecidable _
end
section
attribute [local irreducible] CoW OpW FlW Step Spec
attribute [local simp] qRq
open Classical in
noncomputable def heldL(t:Tree):List Pr:=if h:∃n t0,IsA t n t0 then h.choose_spec.choose.all else []
structure CanAdd(c:Ch)(ds:List Depo)(xs:List Tx)(box:Dig):Prop where
 may:MayC c
 short:c.links.length<256
 many:ds.length<=16/\xs.length<=16
 goes:doX box (doD (heldL c.tree) ds).1 xs≠none
noncomputable instance(c:Ch)(ds:List Depo)(xs:List Tx)(box:Dig):Decidable (CanAdd c ds xs box):=Classical.propDecidable _
end
section
attribute [local irreducible] CoW OpW FlW Step Spec
variable {G:Nat->Option W}
theorem take_with{l:List Pr}(h:Srt l){i:Nat}{x:Pr}(hx:l[i]? =some x):kuq (l.take i) x.1 x.2=l.take (i+1):=by
 obtain⟨hi,ex⟩:=List.getElem?_eq_some_iff.1 hx
 have hp:∀p∈l.take i,z2q p.1 x.1=true:=fun p hp=>by
  obtain⟨j,hj⟩:=List.getElem?_of_mem hp;obtain⟨hj1,hj2⟩:=List.getElem?_eq_some_iff.1 hj;rw[List.length_take] at hj1;rw[List.getElem_take] at hj2;rw[<-hj2,<-ex];exact List.pairwise_iff_getElem.1 h j i Xd hi Xd
 unfold kuq;rw[List.filter_eq_self.2 hp,List.filter_eq_nil_iff.2 fun p q=>by rw[qCq (hp p q)];simp,List.take_add_one,hx];rfl
def okB(l:List Pr):Prop:=MayP l/\HeldB l
noncomputable instance(l:List Pr):Decidable (okB l):=Classical.propDecidable _
end
section
attribute [local irreducible] CoW OpW FlW Step Spec
variable {G:Nat->Option W}
def Fw(n:Nat)(l:List Pr):Prop:=l.length<=n/\∀x∈l,x.2.length<=64
theorem Fw.few{n:Nat}{l:List Pr}(h:Fw n l):Few n l:=⟨h.1,fun x hx=>Nat.le_trans (h.2 x hx) Xd⟩
theorem fw_set{n:Nat}{l:List Pr}(hs:Srt l)(h:Fw n l)(k:Dig)(a:Acct):Fw (n+1) (setL l k a):=by
 have hw:Fw n (zKq l k):=⟨Nat.le_trans (List.length_filter_le ..) h.1,fun x hx=>h.2 x (List.mem_filter.1 hx).1⟩;unfold setL;split
 ·exact⟨Nat.le_succ_of_le hw.1,hw.2⟩
 ·rw[<-Jzq hs];unfold withR;have e:=List.takeWhile_append_dropWhile (p:=fun p:Pr=>z2q p.1 k) (l:=zKq l k);generalize (zKq l k).takeWhile (fun p=>z2q p.1 k)=A at*
  generalize (zKq l k).dropWhile (fun p=>z2q p.1 k)=B at*
  rw[<-e] at hw;obtain⟨g1,g2⟩:=hw;have lb:=uIq a;refine⟨by simp only[List.length_append,List.length_cons] at g1⊢;omega,fun x hx=>?_⟩;rcases List.mem_append.1 hx with q|q
  ·exact g2 x (List.mem_append_left _ q)
  ·rcases List.mem_cons.1 q with rfl|q
   ·show(qTq a).length<=_;omega
   ·exact g2 x (List.mem_append_right _ q)
theorem Keq{m n:Nat}{l:List Pr}(h:Fw n l)(e:n<=m):Fw m l:=⟨Nat.le_trans h.1 e,h.2⟩
theorem fw_more{n:Nat}{l q:List Pr}{k:Dig}{c:Nat}(hs:Srt l)(h:Fw n l)(hm:qGq l k c=some q):Fw (n+1) q:=by
 unfold qGq at hm;split at hm
 ·rw[<-Option.some.inj hm];exact fw_set hs h _ _
 ·cases hm
theorem fw_gv{n:Nat}{l:List Pr}(hs:Srt l)(h:Fw n l)(d:Depo):Fw (n+1) (gvL l d).1:=by
 unfold gvL;cases e:qGq l d.to d.amount with
 |none=>exact Keq h Xd
 |some q=>exact fw_more hs h e
theorem doD_snoc(l:List Pr)(ds:List Depo)(d:Depo):doD l (ds++[d])=((gvL (doD l ds).1 d).1,(doD l ds).2++[⟨1,depD d,(gvL (doD l ds).1 d).2⟩]):=doD_app ds [d] l
theorem fw_paid{n:Nat}{l:List Pr}(x:Tx)(box:Dig)(hs:Srt l)(h:Fw n l):Fw (n+4) (yYq l x box).1:=by
 have nS:Srt (j4q l x):=uTq hs _ _;have nF:Fw (n+1) (j4q l x):=fw_set hs h _ _;have lS:Srt (j5q l x):=uTq nS _ _;have lF:Fw (n+2) (j5q l x):=fw_set nS nF _ _;by_cases ho:x.amount+x.fee<=(acL l (keyD x.pub)).balance
 ·cases hm:qGq (j5q l x) x.to x.amount with
  |none=>rw[Q9q ho hm];exact Keq nF Xd
  |some p=>
   have pS:Srt p:=(u4q lS hm).1;have pF:=fw_more lS lF hm;cases hm2:qGq p box x.fee with
   |none=>rw[Q8q ho hm hm2];exact Keq nF Xd
   |some q=>rw[Q7q ho hm hm2];exact fw_more pS pF hm2
 ·rw[uBq ho];exact Keq nF Xd
theorem gv_in{l:List Pr}(hs:Srt l)(d:Depo):(if 18446744073709551616<=(inA l d.to).balance+d.amount then W.tup [psW l,.int .i64 151] else .tup [psW (QIq l d.to ⟨(inA l d.to).nonce,(inA l d.to).balance+d.amount⟩),.int .i64 0])= .tup [psW (gvL l d).1,.int .i64 ((gvL l d).2:Nat)]:=by
 unfold gvL qGq;by_cases h:(acL l d.to).balance+d.amount<18446744073709551616
 ·rw[if_pos h,if_neg (by rw[<-urq];omega),<-urq,voq hs];rfl
 ·rw[if_neg h,if_pos (by rw[<-urq];omega)];rfl
theorem rgvL_s(l:List Pr)(d:Depo)(hs:Srt l)(hb:Few 1000000 l)(hc:d.amount<18446744073709551616):PS cfg G 172 [psW l,pdW d] (.tup [psW (gvL l d).1,.int .i64 ((gvL l d).2:Nat)]):=yrq (rgiven_s l d hc hb.1 hb.2) (gv_in hs d)
theorem bw_drop(ps:List (List UInt8))(n:Nat):purL (List.drop n (ps.map bW))=true:=by rw[<-List.map_drop];exact ZAq _
theorem bw_take(ps:List (List UInt8))(n:Nat):purL (List.take n (ps.map bW))=true:=by rw[<-List.map_take];exact ZAq _
theorem rw_take(L:List Rec)(n:Nat):purL (List.take n (L.map (bW∘recB)))=true:=by rw[<-List.map_map,<-List.map_take];exact ZAq _
theorem rw_all(L:List Rec):purL (L.map (bW∘recB))=true:=by rw[<-List.map_map];exact ZAq _
attribute [local simp] bw_drop bw_take rw_take rw_all qRq
theorem rrows_s:∀(n:Nat) (ps:List (List UInt8)) (f:Bool),ps.length<=n->ps.length<=256->(∀p∈ps,p.length<=4096) ->PS cfg G 179 [.fz (ps.map bW) 1 f] (dW (Zfq n ps)):=by
 intro n;induction n with
 |zero=>
  intro ps f hn _ _;obtain rfl:ps=[]:=List.eq_nil_of_length_eq_zero Xd;refine zFq (fn:=Tryz.f179) O O O (Ob rfl) (fun R k0=>?_);refine zjq 9 O ?_;first|refine j3q O O ?_|refine zbq O O ?_
  refine zgq (w':=.bool true) O O (congrArg W.bool Xh) ?_;refine zaq 5 O ?_;refine zkq O O O O O O (JMq) ?_;refine zaq 5 O ?_;exact zhq (.inr rfl) O O
 |succ n ih=>
  intro ps f hn hl hp;rcases ps with _|⟨p,_|⟨q,r⟩⟩
  ·skip
   refine zFq (fn:=Tryz.f179) O O O (Ob rfl) (fun R k0=>?_);refine zjq 9 O ?_;first|refine j3q O O ?_|refine zbq O O ?_
   refine zgq (w':=.bool true) O O (congrArg W.bool Xh) ?_;refine zaq 5 O ?_;refine zkq O O O O O O (JMq) ?_;refine zaq 5 O ?_;exact zhq (.inr rfl) O O
  ·have hpl:=hp p Xk;refine zFq (fn:=Tryz.f179) O O O (Ob rfl) (fun R k0=>?_);refine zjq 9 O ?_;first|refine j3q O O ?_|refine zbq O O ?_
   refine zgq (w':=.bool false) O O (congrArg W.bool Xh) ?_;refine zaq 9 O ?_;first|refine j3q O O ?_|refine zbq O O ?_
   refine zgq (w':=.bool true) O O (congrArg W.bool Xh) ?_;refine zaq 6 O ?_;first|refine zbq rfl (zBq O O O O O O O Xl) ?_|refine zbq rfl (zLq O O O O O O O Xd) ?_|refine zbq rfl (zsq O O O O O O Xd) ?_|refine zbq O O ?_
   refine znq O O (zkq O O O O O O (x6q 7 p Xd) ?_);refine zaq 5 O ?_;exact zhq (.inr rfl) O O
  ·show PS cfg G 179 _ (dW (tagD 8 [(Zfq n ((p::q::r).take (yWq (p::q::r).length))).1,(Zfq n ((p::q::r).drop (yWq (p::q::r).length))).1]));have h2:2<=(p::q::r).length:=by simp
   generalize (p::q::r)=ps at*
   obtain⟨k1,k2,k3,k4⟩:=Ybq h2 hl;have e:(ps.map bW).length=ps.length:=List.length_map _
   have b1:Nat.beq (yWq ps.length) (ps.map bW).length=false:=by
    rw[e];cases q:Nat.beq (yWq ps.length) ps.length with
    |false=>rfl
    |true=>have:=Nat.eq_of_beq_eq_true q;omega
   have c1:=ih (ps.take (yWq ps.length)) false Qd Qd fun p h=>hp p (List.mem_of_mem_take h)
   have c2:=ih (ps.drop (yWq ps.length)) f Yy Yy fun p h=>hp p (List.mem_of_mem_drop h)
   generalize Zfq n (ps.take (yWq ps.length))=d1 at*
   generalize Zfq n (ps.drop (yWq ps.length))=d2 at*
   refine zFq (fn:=Tryz.f179) O O O (Ob rfl) (fun R k0=>?_);refine zjq 9 O ?_;refine zgq (w':=.int .i64 ((ps.length:Nat):Int)) O O Xy ?_;refine zgq (w':=.bool false) O O (congrArg W.bool (eqI_not.2 (Xd))) ?_;refine zaq 9 O ?_;refine zgq (w':=.int .i64 ((ps.length:Nat):Int)) O O Xy ?_;refine zgq (w':=.bool false) O O (congrArg W.bool (eqI_not.2 (Xd))) ?_;refine zaq 8 O ?_;refine zgq (w':=.int .i64 ((ps.length:Nat):Int)) O O Xy ?_;refine zkq O O O O O O (rfirst_s ps.length h2 hl) ?_;refine zaq 7 O ?_;refine zcq rfl (xbq (ys:=(ps.take (yWq ps.length)).map bW) (l:=0) (h:=yWq ps.length) (g:=false) O O O O O O O (Nat.zero_le _) Xd (by rw[List.drop_zero,Nat.sub_zero,List.map_take]) (by rw[b1,Bool.and_false])) ?_;refine yxq O O O O O O (c1) ?_;refine zoq 2 O ?_;refine zcq rfl (xbq (ys:=(ps.drop (yWq ps.length)).map bW) (l:=yWq ps.length) (h:=(ps.map bW).length) (g:=f) O O O O O O O Xd (Nat.le_refl _) Qt (by rw[Nat.beq_refl,Bool.and_true])) ?_;refine yxq O O O O O O (c2) ?_;refine zoq 10 O ?_;refine fl_lk O O O O O (.cons (.pur rfl) (.cons (.sl (full:=false) (xs:=zdq d1.1) rfl Xk (zpq Xq (by simp[ziq,d1.2]) rfl) Xj) (.cons (.sl (full:=false) (xs:=zdq d2.1) rfl Xk (zpq Xq (by simp[ziq,d2.2]) rfl) Xj) .nil))) (rtwo_s 8 d1.1 d2.1 false false (by simp[d1.2]) (by simp[d2.2])) Xn Xn Xr ?_;refine zoq 4 O ?_;exact zhq (.inr rfl) O O
theorem rrow_s(L:List Rec)(f:Bool)(hL:∀r∈L,okR r)(hl:L.length<=1000):PS cfg G 180 [.fz (L.map recW) 34 f] (.fz ((L.map recB).map bW) 1 false):=by
 have e:(L.map recW).length=L.length:=List.length_map _;refine q7q (fn:=Tryz.f180) O O O (Ob rfl) (fun R k0=>?_);refine zjq 17 O ?_;refine uHq (α:=Nat) (fun i=>i<=L.length) 3 (fun i=>((L.map recB).take i).map bW) 53 1 (fun i=>[(4,.int .i64 (i:Int))]) [(0,_),(2,_)] _ (fun i=>L.length-i) (0) ⟨rfl,rfl,trivial⟩ (Nat.zero_le _) ⟨rfl,trivial⟩ O O O (fun i hI=>?_);refine zjq 5 O ?_;refine zgq (w':=.int .i64 ((L.length:Nat):Int)) O O Xy ?_;refine zaq 3 O ?_;refine zyq rfl (fun h1=>?_) (fun h1=>?_)
 ·have hi:i<L.length:=by omega
  obtain⟨r,hx⟩:∃r,L[i]? =some r:=⟨_,List.getElem?_eq_getElem hi⟩
  have hr:=hL r (List.mem_of_getElem? hx);have hnx:((L.map recB).take (i+1)).map bW=((L.map recB).take i).map bW++[bW (recB r)]:=by rw[List.take_add_one,List.getElem?_map,hx,List.map_append];rfl
  have hlt:(((L.map recB).take i).map bW).length<=1000:=by rw[List.length_map,List.length_take,List.length_map];omega
  refine zeq 8 O ?_;refine zbq rfl (zBq (i:=i) O O O O O O O (zYq recW hx)) (znq O O (zkq O O O O O O (rfof_s r hr) ?_));refine znq O O (znq rfl (yoq O O (jPq [_] (k:=ti53) (news:=[bW (recB r)]) O O O O O (ymq O O O O) Xk (by show((((L.map recB).take i).map bW).length+1)*24<=_;omega) (by show(((L.map recB).take i).map bW).length+1<=_;omega) rfl Xk)) ?_);refine zaq 6 O ?_;refine zlq (i+1) O O Xi ⟨by omega,by omega⟩ ?_;refine yyq 2 O ?_;exact jEq 2 (i+1) (hi) Xd (Nat.zero_le _) (hnx) Ya Xd Yn rfl Yc ⟨rfl,trivial⟩ ⟨rfl,rfl,trivial⟩ Xg Xg rfl Xn Xo Yj
 ·have hi:i=L.length:=by omega
  subst hi;rw[show(L.map recB).take L.length=L.map recB from List.take_of_length_le Yz];refine zeq 2 O ?_;refine qoq Xj ?_;refine zCq 9 O ?_;refine jrq Xx O ?_;exact x1q (H0:=[]) Xq (ZAq _) Xk
theorem srt_tree{l:List Pr}(hs:Srt l):∃t:T,t.ok 0 qHq=true/\t.all=l:=by
 have key:∀i,i<=l.length->∃t:T,t.ok 0 qHq=true/\t.all=l.take i:=by
  intro i;induction i with
  |zero=>exact fun _=>⟨.nil,rfl,by simp[T.all]⟩
  |succ i ih=>
   intro hi;obtain⟨t,h1,h2⟩:=ih Xd;obtain⟨x,hx⟩:∃x,l[i]? =some x:=⟨_,List.getElem?_eq_getElem Xd⟩
   obtain⟨p1,p2⟩:=klq x.1 x.2 256 t (d:=0) (b:=qHq) rfl jQq h1 (Nat.zero_le _);exact⟨t.put x.1 x.2 256,p1,by rw[p2,h2];exact take_with hs hx⟩
 obtain⟨t,h1,h2⟩:=key l.length (Nat.le_refl _);exact⟨t,h1,by rw[h2,List.take_length]⟩
open Classical in
/-- the trie of pairs in order -/
noncomputable def trieL(l:List Pr):T:=if h:Srt l then(srt_tree h).choose else .nil
theorem trie_ok{l:List Pr}(h:Srt l):(trieL l).ok 0 qHq=true/\(trieL l).all=l:=by
 unfold trieL;rw[dif_pos h];exact(srt_tree h).choose_spec
theorem trie_is{t:T}(h:t.ok 0 qHq=true):trieL t.all=t:=by
 obtain⟨h1,h2⟩:=trie_ok (ok_srt jQq h);exact T.uniq jQq h1 h h2
theorem rhead_s(p:Hdr)(hp:okH p)(l:List Pr)(hs:Srt l)(hf:Fw 1000000 l)(L:List Rec)(hL:∀r∈L,okR r)(hl:L.length<=256):PS cfg G 100 [hdW p,psW l,.fz (L.map recW) 34 false] (hdW (headD p (trieL l) L)):=by
 obtain⟨h1,h2⟩:=trie_ok hs;have e:(L.map recW).length=L.length:=List.length_map _;have hr:=rrows_s (G:=G) 256 (L.map recB) false Yz Yz (fun q h=>by obtain⟨r,_,rfl⟩:=List.mem_map.1 h;rw[recB_len];omega);have ho:=rof_s (G:=G) (trieL l) 0 qHq false jQq h1 (fun q h=>by rw[h2] at h;have:=hf.2 q h;omega) (by rw[h2];exact hf.1);rw[h2] at ho;have q1:=hp.1;have q2:=hp.2.1;refine zFq (fn:=Tryz.f100) O O O (Ob rfl) (fun R k0=>?_);refine zjq 10 O ?_;refine jwq (w':=.int .i64 (p.height+1)) O O (congrArg (W.int .i64) (uvq (show inK .i64 (p.height+1) from⟨by omega,by omega⟩))) ?_;refine yOq O O ?_;refine yxq O O O O O O (rhname_s p hp) ?_;refine zcq O O ?_;refine yxq O O O O O O (ho) ?_;refine zcq O O ?_;refine yxq O O O O O O (rrow_s L false hL Xd) ?_;refine yxq O O O O O O (hr) ?_;refine zcq O O (jwq (w':=.int .i64 ((L.length:Nat):Int)) O O Xy ?_);refine zoq 5 O ?_;exact zhq (.inr rfl) O O
end
section
attribute [local irreducible] CoW OpW FlW Step Spec
variable {G:Nat->Option W}
section
variable {C:Cfg} {G:Nat->Option W} {m k0:Nat} {rd:Bool} {fr:FrW} {hp:HpW} {nw:Nat} {R:Res} {Q:qOq} {c:Code}
theorem co_loopG2{α:Type}(I:α->Prop)(s:Nat)(L:α->List W)(ty:TypeId)(e:Nat)(V:α->FrW)(kf:FrW)(H0:HpW)(b:Nat)(μ:α->Nat)(a0:α)(hk:subF fr kf)(h0:I a0)(hv:subF fr (V a0))(hm:m<=b)(hnw:b+1<=nw)(hs:getW fr s=some (gW b e (L a0)))(hh0:hp=H0++gH b ty e (L a0))(hr:refF b (V a0))(hr2:refF b kf)(hp2:purL (L a0)=true)(hh:subH hp b H0)(nd:(H0.map (·.1)).Nodup)
  (step:∀a,I a->CoW C G m k0 rd c ((s,gW b e (L a))::(V a++kf)) (H0++gH b ty e (L a)) (b+1) R (xgq C G m k0 I (fun a=>(s,gW b e (L a))::(V a++kf)) (fun a=>H0++gH b ty e (L a)) (fun _=>b+1) (fun _=>R) μ (μ a) Q)):CoW C G m k0 rd (.loop c) fr hp nw R Q:=
 qBq I (fun a=>(s,gW b e (L a))::(V a++kf)) (fun a=>H0++gH b ty e (L a)) (fun _=>b+1) (fun _=>R) μ a0 h0 (vSq s hm hnw hs (q5q hv hk) (kRq hr hr2) (fun x r hq=>by
  rw[hh0,hq];exact kSq fun p hp=>by have:=Yqq hh p hp;omega) hp2 hh nd) step
end
attribute [local simp] qRq
theorem few_le{m n:Nat}{l:List Pr}(h:Few n l)(e:n<=m):Few m l:=⟨Nat.le_trans h.1 e,h.2⟩
noncomputable def madeW(l:List Pr)(ds:List Depo)(xs:List Tx)(box:Dig):W:=match doX box (doD l ds).1 xs with
 |some r=>.tup [psW r.1,.fz (((doD l ds).2++r.2).map recW) 34 false,.int .i64 0]
 |none=>.tup [.nils,.nils,.int .i64 (badX box (doD l ds).1 xs:Nat)]
theorem made_no{l:List Pr}{ds:List Depo}{xs:List Tx}{box:Dig}{i:Nat}{x:Tx}{r:List Pr×List Rec}(hx:xs[i]? =some x)(h:doX box (doD l ds).1 (xs.take i)=some r)(hg:¬goX r.1 x):madeW l ds xs box= .tup [.nils,.nils,.int .i64 (refX x:Nat)]:=by
 have hdr:xs=xs.take i++x::xs.drop (i+1):=by rw[<-Qgq hx,List.take_append_drop]
 unfold madeW;rw[hdr,doX_none h hg,bad_app h,show badX box r.1 (x::xs.drop (i+1))=refX x from if_neg hg]
theorem fw_doD{n:Nat}:∀(ds:List Depo) {l:List Pr},Srt l->Fw n l->Fw (n+ds.length) (doD l ds).1
 |[],l,_,h=>h
 |d::ds,l,hs,h=>Keq (fw_doD ds (gv_ok hs d).1 (fw_gv hs h d)) (by simp only[List.length_cons];omega)
theorem fw_doX{box:Dig}:∀{xs:List Tx} {n:Nat} {l:List Pr} {r:List Pr×List Rec},Srt l->Fw n l->doX box l xs=some r->Fw (n+4*xs.length) r.1
 |[],n,l,r,_,h,e=>by cases e;exact h
 |x::xs,n,l,r,hs,h,e=>by
  by_cases hg:goX l x
  ·rw[uGq hg] at e;cases q:doX box (yYq l x box).1 xs with
   |none=>rw[q] at e;cases e
   |some r'=>
    rw[q] at e;cases e;have z:=fw_doX (r:=r') (paid_srt x box hs (by rw[<-hg.2.1];have:=hg.2.2;omega)) (fw_paid x box hs h) q;exact Keq z (by simp only[List.length_cons];omega)
  ·rw[show doX box l (x::xs)=none from if_neg hg] at e;cases e
theorem rmade_s(l:List Pr)(hs:Srt l)(hf:Fw 300000 l)(ds:List Depo)(xs:List Tx)(f g:Bool)(hB:BodOk ds xs)(box:Dig)(hm:ds.length<=16/\xs.length<=16):PS cfg G 99 [psW l,bodW ds xs f g,dW box] (madeW l ds xs box):=by
 have e1:(ds.map pdW).length=ds.length:=List.length_map _;have e2:(xs.map txW).length=xs.length:=List.length_map _;have hdl:=Zwq ds l;have hfD:=fw_doD ds hs hf;have hsD:=(doD_ok (ds:=ds) hs).1;refine q7q (fn:=Tryz.f99) O O O (Ob rfl) (fun R k0=>?_);refine zjq 21 O ?_;refine uHq (α:=Nat) (fun i=>i<=ds.length) 9 (fun i=>(doD l (ds.take i)).2.map recW) 57 34 (fun i=>[(10,.int .i64 (i:Int)),(0,psW (doD l (ds.take i)).1)]) [(4,_),(5,_),(6,_),(7,_),(8,_)] _ (fun i=>ds.length-i) (0) ⟨rfl,rfl,rfl,rfl,rfl,trivial⟩ (Nat.zero_le _) ⟨rfl,rfl,trivial⟩ O O O (fun i hI=>?_);refine zjq 6 O ?_;refine zgq (w':=.int .i64 ((ds.length:Nat):Int)) O O Yv ?_;refine zaq 3 O ?_;refine zyq rfl (fun h1=>?_) (fun h1=>?_)
 ·have hi:i<ds.length:=by omega
  obtain⟨d,hx⟩:∃d,ds[i]? =some d:=⟨_,List.getElem?_eq_getElem hi⟩
  obtain⟨d1,d2⟩:=hB.dep d (List.mem_of_getElem? hx);have hsn:ds.take (i+1)=ds.take i++[d]:=by rw[List.take_add_one,hx];rfl
  have hst:=(doD_ok (ds:=ds.take i) hs).1;have hfw:=fw_doD (ds.take i) hs hf;have hln:=Zwq (ds.take i) l;have ho:=rgvL_s (G:=G) (doD l (ds.take i)).1 d hst (few_le hfw.few Qd) d2;have hno:=doD_snoc l (ds.take i) d;rw[<-hsn] at hno;have hn1:(doD l (ds.take (i+1))).1=(gvL (doD l (ds.take i)).1 d).1:=by rw[hno]
  have hn2:(doD l (ds.take (i+1))).2.map recW=(doD l (ds.take i)).2.map recW++[recW ⟨1,depD d,(gvL (doD l (ds.take i)).1 d).2⟩]:=by rw[hno,List.map_append];rfl
  have hlt:((doD l (ds.take i)).2.map recW).length<=100:=by rw[List.length_map,hln,List.length_take];omega
  refine zeq 10 O ?_;refine zbq rfl (zBq (i:=i) O O O O O O O (zYq pdW hx)) (znq O O (zkq O O O O O O (ho) ?_));refine zaq 18 O ?_;refine zbq rfl (zBq (i:=i) O O O O O O O (zYq pdW hx)) (znq O O (zkq O O O O O O (rfdepo_s d d1 d2) ?_));refine zaq 3 O ?_;refine znq rfl (yoq O O (jPq [_,_,_] (k:=ti57) (news:=[recW ⟨1,depD d,(gvL (doD l (ds.take i)).1 d).2⟩]) O O O O O (ymq O O O O) Xk (by show(((doD l (ds.take i)).2.map recW).length+1)*48<=_;omega) (by show((doD l (ds.take i)).2.map recW).length+1<=_;omega) rfl Xk)) ?_;refine zaq 6 O ?_;refine zlq (i+1) O O Xi ⟨by omega,by omega⟩ ?_;refine yyq 2 O ?_;rw[<-hn1];exact jEq 4 (i+1) (hi) Xd (Nat.zero_le _) (hn2) Ya Xd Yn rfl Yc ⟨rfl,rfl,trivial⟩ ⟨rfl,rfl,rfl,rfl,rfl,trivial⟩ Xg Xg rfl Xn Xo Yj
 ·have hi:i=ds.length:=by omega
  subst hi;rw[show ds.take ds.length=ds from List.take_length];refine zeq 2 O ?_;refine qoq Xj ?_;refine zCq 9 O ?_;refine co_loopG2 (α:=Nat×(List Pr×List Rec)) (fun a=>a.1<=xs.length/\doX box (doD l ds).1 (xs.take a.1)=some a.2) 9 (fun a=>((doD l ds).2++a.2.2).map recW) 57 34 (fun a=>[(13,.int .i64 (a.1:Int)),(0,psW a.2.1)]) [(4,_),(5,_),(6,_),(7,_),(8,_)] ([(1,26,dW box),(0,32,bodW ds xs f g)]) 2 (fun a=>xs.length-a.1) ((0,(doD l ds).1,[])) ⟨rfl,rfl,rfl,rfl,rfl,trivial⟩ (⟨Nat.zero_le _,rfl⟩) ⟨rfl,rfl,trivial⟩ Xd Yn Jb Jb Xg Xg Xn Xo Yj (fun a hI=>?_);obtain⟨i,r⟩:=a;obtain⟨g1,hst⟩:=hI;simp only at g1 hst⊢;have hsr:=(doX_ok box hsD hst).1;have hfr:=fw_doX hsD hfD hst;have hln:=Qhq hst;rw[List.length_take] at hfr hln;refine zjq 6 O ?_;refine zgq (w':=.int .i64 ((xs.length:Nat):Int)) O O Yr ?_;refine zaq 3 O ?_;refine zyq rfl (fun h2=>?_) (fun h2=>?_)
  ·have hi:i<xs.length:=by omega
   obtain⟨x,hx⟩:∃x,xs[i]? =some x:=⟨_,List.getElem?_eq_getElem hi⟩
   have hxo:=hB.tx x (List.mem_of_getElem? hx);have hsn:xs.take (i+1)=xs.take i++[x]:=by rw[List.take_add_one,hx];rfl
   have hlt:(((doD l ds).2++r.2).map recW).length<=100:=by rw[List.length_map,List.length_append];omega
   refine zeq 9 O ?_;refine zbq rfl (zBq (i:=i) O O O O O O O (zYq txW hx)) ?_;refine zaq 9 O ?_;refine zkq O O O O O O (rtxcheck_s x hxo) ?_;refine zaq 3 O ?_;refine zyq rfl (fun h3=>?_) (fun h3=>?_)
   ·have hsg:¬x.sign=xZq x:=fun q=>h3 (by rw[if_pos q])
    have e:=made_no hx hst (fun q=>hsg q.1);rw[show refX x=110 from if_neg hsg] at e;rw[e];refine zeq 11 O ?_;refine qoq Xj ?_;refine zCq 2 O ?_;exact jrq (.inr rfl) rfl (.pur rfl)
   ·have hsg:x.sign=xZq x:=Classical.byContradiction fun q=>h3 (by rw[if_neg q];decide)
    refine zeq 7 O ?_;refine zkq O O O O O O (rnext_s r.1 false x hxo (by have:=hfr.1;omega)) ?_;refine zaq 3 O ?_;refine zyq rfl (fun h4=>?_) (fun h4=>?_)
    ·have hnx:¬(x.nonce=(acL r.1 (keyD x.pub)).nonce/\x.nonce<18446744073709551615):=of_decide_eq_false (by simpa only[Bool.not_eq_true'] using h4);have e:=made_no hx hst (fun q=>hnx q.2);rw[show refX x=2 from if_pos hsg] at e;rw[e];refine zeq 11 O ?_;refine qoq Xj ?_;refine zCq 2 O ?_;exact jrq (.inr rfl) rfl (.pur rfl)
    ·have hnx:x.nonce=(acL r.1 (keyD x.pub)).nonce/\x.nonce<18446744073709551615:=by simpa using h4
     have hg:goX r.1 x:=⟨hsg,hnx⟩;have hso:=doX_snoc hst hg;rw[<-hsn] at hso;refine zeq 7 O ?_;refine zkq O O O O O O (rpaid_s r.1 hsr (few_le hfr.few Xd) x hxo box (by rw[<-hnx.1];omega)) ?_;refine zaq 16 O ?_;refine zkq O O O O O O (rtxid_s x hxo) ?_;refine zaq 3 O ?_;refine znq rfl (yoq O O (jPq [_,_,_,_] (k:=ti57) (news:=[recW ⟨2,idD x,(yYq r.1 x box).2⟩]) O O O O O (ymq O O O O) Xk (by show((((doD l ds).2++r.2).map recW).length+1)*48<=_;omega) (by show(((doD l ds).2++r.2).map recW).length+1<=_;omega) rfl Xk)) ?_;refine zaq 6 O ?_;refine zlq (i+1) O O Xi ⟨by omega,by omega⟩ ?_;refine yyq 2 O ?_;exact jEq 5 ((i+1,(yYq r.1 x box).1,r.2++[⟨2,idD x,(yYq r.1 x box).2⟩])) (⟨hi,hso⟩) Yh (Nat.zero_le _) Xk Ya Xd Yn rfl Yc ⟨rfl,rfl,trivial⟩ ⟨rfl,rfl,rfl,rfl,rfl,trivial⟩ Xg Xg rfl Xn Xo Yj
  ·have hi:i=xs.length:=by omega
   subst hi;rw[List.take_length] at hst;have hmw:madeW l ds xs box= .tup [psW r.1,.fz (((doD l ds).2++r.2).map recW) 34 false,.int .i64 0]:=by unfold madeW;rw[hst]
   rw[hmw];refine zeq 2 O ?_;refine qoq Xj ?_;refine zCq 12 O ?_;exact jrq (.inr rfl) rfl (.tup (.cons (.pur Xk) (.cons (x1q (H0:=[_,_]) Xq (qRq _) Xk) (.cons (.pur rfl) .nil))))
end
section
attribute [local irreducible] CoW OpW FlW Step Spec
theorem refW_pur(c:Nat):purW (refW c)=true:=by
 show(purW noT&&(purW (hdW hdZ)&&(true&&(true&&true))))=true;rw[J9q];rfl
end
section
attribute [local irreducible] CoW OpW FlW Step Spec
attribute [local simp] qRq
variable {G:Nat->Option W}
noncomputable def QNq(c:Nat):W:=.tup [.nils,hdW hdZ,.nils,.int .i64 (c:Int)]
@[simp] theorem rrefW_pur(c:Nat):purW (QNq c)=true:=by simp[QNq,purW,purL]
theorem Yxq(c:Nat):W.tup [.nils,.agg 98 [.int .i64 0,yRq,yRq,yRq,.int .i64 0],.nils,.int .i64 (c:Int)]=QNq c:=by
 unfold QNq hdW hdZ;rw[<-xMq];rfl
theorem rap_bad(t:Tree)(p:Hdr)(ds:List Depo)(xs:List Tx)(f g:Bool)(box:Dig)(hb:t.nodes.length<=4611686018427387903)(h:¬MayBk t p):PS cfg G 20 [tW t,hdW p,bodW ds xs f g,dW box] (QNq 8):=by
 by_cases hA:MayA t
 ·by_cases hB:okH p
  ·have hC:p.height=1073741824:=Classical.byContradiction fun q=>h ⟨hA,hB,q⟩
   refine zFq (fn:=Tryz.f20) O O O (Ob rfl) (fun R k0=>?_);refine zjq 16 O ?_;refine zkq O O O O O O (yrq (w':=.bool true) (Zjq t hb) Qk) ?_;refine zaq 3 O ?_;refine zkq O O O O O O (yrq (w':=.bool true) (Yzq p) Jc) ?_;refine zaq 5 O ?_;refine zgq (w':=.bool true) O O (congrArg W.bool (eqI_iff.2 (hC))) ?_;refine zaq 15 O ?_;exact zhq (.inr rfl) rfl (Yxq 8)
  ·skip
   refine zFq (fn:=Tryz.f20) O O O (Ob rfl) (fun R k0=>?_);refine zjq 16 O ?_;refine zkq O O O O O O (yrq (w':=.bool true) (Zjq t hb) Qk) ?_;refine zaq 3 O ?_;refine zkq O O O O O O (yrq (w':=.bool false) (Yzq p) (by rw[decide_eq_false (hB)])) ?_;refine zaq 21 O ?_;exact zhq (.inr rfl) rfl (Yxq 8)
 ·skip
  refine zFq (fn:=Tryz.f20) O O O (Ob rfl) (fun R k0=>?_);refine zjq 16 O ?_;refine zkq O O O O O O (yrq (w':=.bool false) (Zjq t hb) (by rw[decide_eq_false (hA)])) ?_;refine zaq 25 O ?_;exact zhq (.inr rfl) rfl (Yxq 8)
theorem rap_many(t:Tree)(p:Hdr)(ds:List Depo)(xs:List Tx)(f g:Bool)(box:Dig)(hb:t.nodes.length<=4611686018427387903)(h:MayBk t p)(hm:16<ds.length\/16<xs.length):PS cfg G 20 [tW t,hdW p,bodW ds xs f g,dW box] (QNq 4):=by
 obtain⟨hA,hB,hC⟩:=h;have e1:(ds.map pdW).length=ds.length:=List.length_map _;have e2:(xs.map txW).length=xs.length:=List.length_map _;refine zFq (fn:=Tryz.f20) O O O (Ob rfl) (fun R k0=>?_);refine zjq 16 O ?_;refine zkq O O O O O O (yrq (w':=.bool true) (Zjq t hb) Qk) ?_;refine zaq 3 O ?_;refine zkq O O O O O O (yrq (w':=.bool true) (Yzq p) Jc) ?_;refine zaq 5 O ?_;refine zgq (w':=.bool false) O O (congrArg W.bool (eqI_not.2 (hC))) ?_;refine zaq 11 O ?_;refine zgq (w':=.int .i64 ((ds.length:Nat):Int)) O O Yv ?_;refine yZq O O (fun h1=>?_) (fun h1=>?_)
 ·refine zaq 20 O ?_;exact zhq (.inr rfl) rfl (Yxq 4)
 ·refine zaq 3 O ?_;refine zgq (w':=.int .i64 ((xs.length:Nat):Int)) O O Yr ?_;refine zgq (w':=.bool true) O O (congrArg W.bool (ltI_iff.2 (Xd))) ?_;refine zaq 15 O ?_;exact zhq (.inr rfl) rfl (Yxq 4)
theorem rap_full(t:Tree)(p:Hdr)(ds:List Depo)(xs:List Tx)(f g:Bool)(box:Dig)(hb:t.nodes.length<=4611686018427387903)(h:MayBk t p)(hm:ds.length<=16/\xs.length<=16)(hf:260944<t.nodes.length+300*ds.length+1200*xs.length):PS cfg G 20 [tW t,hdW p,bodW ds xs f g,dW box] (QNq 9):=by
 obtain⟨hA,hB,hC⟩:=h;have e1:(ds.map pdW).length=ds.length:=List.length_map _;have e2:(xs.map txW).length=xs.length:=List.length_map _;have e3:(t.nodes.map nW).length=t.nodes.length:=List.length_map _;refine zFq (fn:=Tryz.f20) O O O (Ob rfl) (fun R k0=>?_);refine zjq 16 O ?_;refine zkq O O O O O O (yrq (w':=.bool true) (Zjq t hb) Qk) ?_;refine zaq 3 O ?_;refine zkq O O O O O O (yrq (w':=.bool true) (Yzq p) Jc) ?_;refine zaq 5 O ?_;refine zgq (w':=.bool false) O O (congrArg W.bool (eqI_not.2 (hC))) ?_;refine zaq 11 O ?_;refine zgq (w':=.int .i64 ((ds.length:Nat):Int)) O O Yv ?_;refine zgq (w':=.bool false) O O (congrArg W.bool (ltI_not.2 (Xd))) ?_;refine zaq 3 O ?_;refine zgq (w':=.int .i64 ((xs.length:Nat):Int)) O O Yr ?_;refine zgq (w':=.bool false) O O (congrArg W.bool (ltI_not.2 (Xd))) ?_;refine zaq 11 O ?_;refine zgq (w':=.int .i64 ((t.nodes.length:Nat):Int)) O O (by rw[<-e3];rfl) ?_;refine zaq 2 O ?_;refine zgq (w':=.int .i64 ((ds.length:Nat):Int)) O O Yv ?_;refine zlq (300*ds.length) O O Xi ⟨by omega,by omega⟩ ?_;refine zlq (260944-300*ds.length) O O Xi ⟨by omega,by omega⟩ ?_;refine zaq 2 O ?_;refine zgq (w':=.int .i64 ((xs.length:Nat):Int)) O O Yr ?_;refine zlq (1200*xs.length) O O Xi ⟨by omega,by omega⟩ ?_;refine zlq (260944-300*ds.length-1200*xs.length) O O Xi ⟨by omega,by omega⟩ ?_;refine zgq (w':=.bool true) O O (congrArg W.bool (ltI_iff.2 (Xd))) ?_;refine zaq 14 O ?_;exact zhq (.inr rfl) rfl (Yxq 9)
structure PW where
 w:W
 pur:purW w=true
attribute [local simp] PW.pur
theorem rap_w(t:Tree)(n:Nat)(t0:T)(hT:IsA t n t0)(p:Hdr)(hB:okH p)(hC:p.height≠1073741824)(ds:List Depo)(xs:List Tx)(f g:Bool)(box:Dig)(hm:ds.length<=16/\xs.length<=16)(hf:t.nodes.length+300*ds.length+1200*xs.length<=260944)(A B:PW)(e:Nat)(hM:PS cfg G 99 [psW t0.all,bodW ds xs f g,dW box] (.tup [A.w,B.w,.int .i64 (e:Int)]))(ans:W)(h0:e=0->∃l L,A.w=psW l/\B.w= .fz (L.map recW) 34 false/\Srt l/\Fw 1000000 l/\(∀r∈L,okR r)/\L.length<=256/\ans= .tup [psW l,hdW (headD p (trieL l) L),.fz (L.map recW) 34 false,.int .i64 0])(hz:e≠0->ans=QNq e):PS cfg G 20 [tW t,hdW p,bodW ds xs f g,dW box] ans:=by
 have hA:MayA t:=⟨n,t0,hT⟩;have hb:t.nodes.length<=4611686018427387903:=by omega
 have e1:(ds.map pdW).length=ds.length:=List.length_map _;have e2:(xs.map txW).length=xs.length:=List.length_map _;have e3:(t.nodes.map nW).length=t.nodes.length:=List.length_map _;refine zFq (fn:=Tryz.f20) O O O (Ob rfl) (fun R k0=>?_);refine zjq 16 O ?_;refine zkq O O O O O O (yrq (w':=.bool true) (Zjq t hb) Qk) ?_;refine zaq 3 O ?_;refine zkq O O O O O O (yrq (w':=.bool true) (Yzq p) Jc) ?_;refine zaq 5 O ?_;refine zgq (w':=.bool false) O O (congrArg W.bool (eqI_not.2 (hC))) ?_;refine zaq 11 O ?_;refine zgq (w':=.int .i64 ((ds.length:Nat):Int)) O O Yv ?_;refine zgq (w':=.bool false) O O (congrArg W.bool (ltI_not.2 (Xd))) ?_;refine zaq 3 O ?_;refine zgq (w':=.int .i64 ((xs.length:Nat):Int)) O O Yr ?_;refine zgq (w':=.bool false) O O (congrArg W.bool (ltI_not.2 (Xd))) ?_;refine zaq 11 O ?_;refine zgq (w':=.int .i64 ((t.nodes.length:Nat):Int)) O O (by rw[<-e3];rfl) ?_;refine zaq 2 O ?_;refine zgq (w':=.int .i64 ((ds.length:Nat):Int)) O O Yv ?_;refine zlq (300*ds.length) O O Xi ⟨by omega,by omega⟩ ?_;refine zlq (260944-300*ds.length) O O Xi ⟨by omega,by omega⟩ ?_;refine zaq 2 O ?_;refine zgq (w':=.int .i64 ((xs.length:Nat):Int)) O O Yr ?_;refine zlq (1200*xs.length) O O Xi ⟨by omega,by omega⟩ ?_;refine zlq (260944-300*ds.length-1200*xs.length) O O Xi ⟨by omega,by omega⟩ ?_;refine zgq (w':=.bool false) O O (congrArg W.bool (ltI_not.2 (Xd))) ?_;refine zaq 8 O ?_;refine yxq O O O O O O (rall_s t n t0 hT.toIsT) ?_;refine zoq 2 O ?_;refine yxq O O O O O O (hM) ?_;refine zoq 16 O ?_;refine zyq rfl (fun h1=>?_) (fun h1=>?_)
 ·have hne:e≠0:=fun q=>h1 (by rw[q];rfl)
  rw[hz hne];refine zeq 12 O ?_;exact zhq (.inr rfl) rfl (Yxq e)
 ·have he:e=0:=by omega
  obtain⟨l,L,a1,a2,a3,a4,a5,a6,rfl⟩:=h0 he;rw[a1,a2];refine zeq 8 O ?_;refine zkq O O O O O O (rhead_s p hB l a3 a4 L a5 a6) ?_;refine zaq 8 O ?_;exact zhq (.inr rfl) O O
theorem rap_some(t:Tree)(n:Nat)(t0:T)(hT:IsA t n t0)(p:Hdr)(hB:okH p)(hC:p.height≠1073741824)(ds:List Depo)(xs:List Tx)(f g:Bool)(hBo:BodOk ds xs)(box:Dig)(hm:ds.length<=16/\xs.length<=16)(hf:t.nodes.length+300*ds.length+1200*xs.length<=260944)(l:List Pr)(rs:List Rec)(hst:doX box (doD t0.all ds).1 xs=some (l,rs)):PS cfg G 20 [tW t,hdW p,bodW ds xs f g,dW box] (.tup [psW l,hdW (headD p (trieL l) ((doD t0.all ds).2++rs)),.fz (((doD t0.all ds).2++rs).map recW) 34 false,.int .i64 0]):=by
 have hs:=hT.toIsT.srt;have hfw:Fw 262144 t0.all:=⟨by have:=hT.toIsT.all_le;omega,fun x hx=>(hT.toIsT.val x hx).2⟩;have hsl:=(doX_ok box (doD_ok (ds:=ds) hs).1 hst).1;have hfl:=fw_doX (doD_ok (ds:=ds) hs).1 (fw_doD ds hs hfw) hst;have hrl:=Qhq hst;have hdl:=Zwq ds t0.all;have hdr:= @doD_rec ds t0.all;have hrr:= @doX_rec box xs _ _ hst;simp only at hsl hfl hrl hrr;exact rap_w t n t0 hT p hB hC ds xs f g box hm hf ⟨psW l,by simp⟩ ⟨.fz (((doD t0.all ds).2++rs).map recW) 34 false,qRq _⟩ 0 (yrq (rmade_s t0.all hs (Keq hfw Xd) ds xs f g hBo box hm) (by unfold madeW;rw[hst];rfl)) _ (fun _=>⟨l,_,rfl,rfl,hsl,Keq hfl Xd,fun r h=>by rcases List.mem_append.1 h with h|h;exact(hdr r h).2;exact(hrr r h).2,by rw[List.length_append];omega,rfl⟩) (fun q=>absurd rfl q)
theorem rap_none(t:Tree)(n:Nat)(t0:T)(hT:IsA t n t0)(p:Hdr)(hB:okH p)(hC:p.height≠1073741824)(ds:List Depo)(xs:List Tx)(f g:Bool)(hBo:BodOk ds xs)(box:Dig)(hm:ds.length<=16/\xs.length<=16)(hf:t.nodes.length+300*ds.length+1200*xs.length<=260944)(hst:doX box (doD t0.all ds).1 xs=none):PS cfg G 20 [tW t,hdW p,bodW ds xs f g,dW box] (QNq (badX box (doD t0.all ds).1 xs)):=by
 have hs:=hT.toIsT.srt;have hfw:Fw 262144 t0.all:=⟨by have:=hT.toIsT.all_le;omega,fun x hx=>(hT.toIsT.val x hx).2⟩;have hne:badX box (doD t0.all ds).1 xs≠0:=by rcases bad_no hst with h|h<;>omega
 exact rap_w t n t0 hT p hB hC ds xs f g box hm hf ⟨.nils,rfl⟩ ⟨.nils,rfl⟩ _ (yrq (rmade_s t0.all hs (Keq hfw Xd) ds xs f g hBo box hm) (by unfold madeW;rw[hst])) _ (fun q=>absurd q hne) (fun _=>rfl)
end
section
attribute [local irreducible] CoW OpW FlW Step Spec
attribute [local simp] qRq
variable {G:Nat->Option W}
theorem nds_pur(l:List Node):purL (l.map nW)=true:=qqq (fun x=>by simp) l
attribute [local simp] nds_pur
theorem rseq_same(L:List Rec)(h:L.length<=1000000000):PS cfg G 21 [.fz (L.map recW) 34 false,.fz (L.map recW) 34 false] (.bool true):=by
 have q:=rseqr_s (G:=G) (L.map recI) (L.map recI) false false (by rw[List.length_map];exact h);rw[recI_w] at q;exact yrq q (by rw[decide_eq_true rfl])
theorem rseq_nil:PS cfg G 21 [.nils,.nils] (.bool true):=pspec_view (.cons .nilfz (.cons .nilfz .nil)) (rseq_same (G:=G) [] Xk)
theorem gr_val{t:Tree}{m:Nat}(h:¬xYq t m):∀x∈t.nodes,x.val.length<=70368744177664:=fun x hx=>by
 have h1:t.nodes.length<=m:=Nat.le_of_not_lt fun q=>h (.inl q)
 obtain⟨i,hi⟩:=List.getElem?_of_mem hx;have:=(List.getElem?_eq_some_iff.1 hi).1;have:x.val.length<=100:=Nat.le_of_not_lt fun q=>h (.inr ⟨i,x,by omega,hi,q⟩)
 omega
theorem applies_g(t:Tree)(p:Hdr)(ds:List Depo)(xs:List Tx)(box:Dig)(hb:t.nodes.length<=4611686018427387903)(h:xYq t 600\/y8q ds xs):PS cfg glK 3 [tW t,hdW p,bodW ds xs false false,dW box] (.bool true):=by
 by_cases hg:xYq t 600
 ·skip
  refine zFq (fn:=Tryz.f3) O O O (Ob rfl) (fun R k0=>?_);refine zjq 13 O ?_;refine zkq O O O O O O (yrq (w':=.bool true) (Kaq t 600 hb Xd) (by rw[decide_eq_true (hg)])) ?_;refine zaq 14 O ?_;exact zhq (.inr rfl) O O
 ·have hk:y8q ds xs:=h.resolve_left hg;refine zFq (fn:=Tryz.f3) O O O (Ob rfl) (fun R k0=>?_);refine zjq 13 O ?_;refine zkq O O O O O O (yrq (w':=.bool false) (Kaq t 600 hb Xd) (by rw[decide_eq_false (hg)])) ?_;refine zaq 2 O ?_;refine zkq O O O O O O (yrq (w':=.bool true) (YVq ds xs false false) (by rw[decide_eq_true (hk)])) ?_;refine zaq 11 O ?_;exact zhq (.inr rfl) O O
theorem QCq(t:Tree)(p:Hdr)(ds:List Depo)(xs:List Tx)(box:Dig)(hb:t.nodes.length<=600)(hv:∀x∈t.nodes,x.val.length<=70368744177664)(hn:ds.length<=1000000/\xs.length<=1000000)(hg:¬xYq t 600)(hk:¬y8q ds xs)(c:Nat)(hc:c≠0)(hP:PE cfg glK 19 [tW t,hdW p,bodW ds xs false false,dW box] (· =refW c))(hR:PS cfg glK 20 [tW t,hdW p,bodW ds xs false false,dW box] (QNq c)):PS cfg glK 3 [tW t,hdW p,bodW ds xs false false,dW box] (.bool true):=by
 refine zFq (fn:=Tryz.f3) O O O (Ob rfl) (fun R k0=>?_);refine zjq 13 O ?_;refine zkq O O O O O O (yrq (w':=.bool false) (Kaq t 600 Xd Xd) (by rw[decide_eq_false (hg)])) ?_;refine zaq 2 O ?_;refine zkq O O O O O O (yrq (w':=.bool false) (YVq ds xs false false) (by rw[decide_eq_false (hk)])) ?_;refine zaq 9 O ?_;refine yxq O O O O O O (rttwin_s t Xd hv) ?_;refine yOq O O ?_;refine yxq O O O O O O (rtwbody_s ds xs false false hn.1 hn.2) ?_;refine zoq 12 O ?_
 (refine zrq rfl (uSq O O O O O (hP) Xk ?_);rintro w hw rfl)
 refine zaq 19 O ?_;refine zkq O O O O O O (hR) ?_;refine zaq 17 O ?_;refine zgq (w':=.bool false) rfl (jaq O O O O (eq_hd hdZ hdZ)) (by rw[decide_eq_true rfl];rfl) ?_;refine zaq 3 O ?_;refine zkq O O O O O O rseq_nil ?_;refine zaq 5 O ?_;refine zgq (w':=.bool false) O O (congrArg (fun b=>W.bool (!b)) (eqI_iff.2 (rfl))) ?_;refine zaq 4 O ?_;refine zkq O O O O O O (yrq (w':=.bool true) (JLq t t Xd) (by rw[decide_eq_true (rfl)])) ?_;refine zaq 5 O ?_;refine zkq O O O O O O (yrq (w':=.bool true) (rsbody_s ds xs ds xs false false false false Xd Xd) (by rw[decide_eq_true (⟨rfl,rfl⟩)])) ?_;refine zaq 11 O ?_;refine zgq (w':=.bool true) O O (congrArg (fun b=>W.bool (!b)) (eqI_not.2 (Xd))) ?_;refine zaq 7 O ?_;first|refine j3q O O ?_|refine zbq O O ?_
 refine yVq O O ?_;refine zaq 5 O ?_;exact zhq (.inr rfl) O O
theorem applies_ok(t:Tree)(n:Nat)(t0:T)(hA:IsA t n t0)(p:Hdr)(hp:okH p)(hp2:p.height≠1073741824)(ds:List Depo)(xs:List Tx)(box:Dig)(hB:BodOk ds xs)(hv:∀x∈t.nodes,x.val.length<=70368744177664)(hg:¬xYq t 600)(hk:¬y8q ds xs)(hm:ds.length<=16/\xs.length<=16)(l:List Pr)(rs:List Rec)(hst:doX box (doD t0.all ds).1 xs=some (l,rs)):PS cfg glK 3 [tW t,hdW p,bodW ds xs false false,dW box] (.bool true):=by
 have hb:=great_600 hg;have hP:=apply_s t n t0 hA p hp hp2 ds xs false false hB.dep hB.tx box hm Xd;have hR:=rap_some (G:=glK) t n t0 hA p hp hp2 ds xs false false hB box hm Xd l rs hst;have hrl:=Qhq hst;have hdl:=Zwq ds t0.all;simp only at hrl;have hl:((doD t0.all ds).2++rs).length<=1000000000:=by rw[List.length_append];omega
 have hP2:=pe_mono hP (B:=fun w=>∃t' n' t1,IsA t' n' t1/\kjq t (257*ds.length+1028*xs.length) l t' t1/\w= .tup [tW t',hdW (headD p t1 ((doD t0.all ds).2++rs)),.fz (((doD t0.all ds).2++rs).map recW) 34 false,.int .i64 0]) fun w h=>ap_some h hst
 generalize (doD t0.all ds).2++rs=L at*
 have e3:(t.nodes.map nW).length=t.nodes.length:=List.length_map _;refine zFq (fn:=Tryz.f3) O O O (Ob rfl) (fun R k0=>?_);refine zjq 13 O ?_;refine zkq O O O O O O (yrq (w':=.bool false) (Kaq t 600 Xd Xd) (by rw[decide_eq_false (hg)])) ?_;refine zaq 2 O ?_;refine zkq O O O O O O (yrq (w':=.bool false) (YVq ds xs false false) (by rw[decide_eq_false (hk)])) ?_;refine zaq 9 O ?_;refine yxq O O O O O O (rttwin_s t Xd hv) ?_;refine yOq O O ?_;refine yxq O O O O O O (rtwbody_s ds xs false false Xd Xd) ?_;refine zoq 12 O ?_
 (refine zrq rfl (uSq O O O O O (hP2) Xk ?_);rintro w hw ⟨t',n',t1,hT,⟨rfl,ms,hms,hml⟩,rfl⟩;have htr:=trie_is hT.toIsT.ok;have hln:t'.nodes.length=t.nodes.length+ms.length:=by rw[hms,List.length_append])
 refine zaq 19 O ?_;refine zkq O O O O O O (hR) ?_;refine zaq 17 O ?_;refine zgq (w':=.bool false) rfl (jaq O O O O (eq_hd _ _)) (by rw[htr,decide_eq_true rfl];rfl) ?_;refine zaq 3 O ?_;refine zkq O O O O O O (rseq_same L hl) ?_;refine zaq 5 O ?_;refine zgq (w':=.bool false) O O (congrArg (fun b=>W.bool (!b)) (eqI_iff.2 (rfl))) ?_;refine zaq 4 O ?_;refine zkq O O O O O O (yrq (w':=.bool true) (JLq t t Xd) (by rw[decide_eq_true (rfl)])) ?_;refine zaq 5 O ?_;refine zkq O O O O O O (yrq (w':=.bool true) (rsbody_s ds xs ds xs false false false false Xd Xd) (by rw[decide_eq_true (⟨rfl,rfl⟩)])) ?_;refine zaq 11 O ?_;refine zgq (w':=.bool false) O O (congrArg W.bool Xh) ?_;refine zaq 10 O ?_;refine zgq (w':=.int .i64 ((t'.nodes.length:Nat):Int)) O O (by rw[<-(List.length_map nW)];rfl) ?_;refine zaq 2 O ?_;refine zgq (w':=.int .i64 ((t.nodes.length:Nat):Int)) O O (by rw[<-e3];rfl) ?_;refine zgq (w':=.bool false) O O (congrArg W.bool (ltI_not.2 (Xd))) ?_;refine zaq 2 O ?_;refine zkq O O O O O O (yrq (w':=.bool true) (rmay_s t' Xd) (by rw[decide_eq_true (hT.toIsT.may)])) ?_;refine zaq 13 O ?_;refine jwq (w':=.int .i64 ((t.nodes.length:Nat):Int)) O O (by rw[<-e3];rfl) ?_;refine zcq rfl (xbq (ys:=t.nodes.map nW) (l:=0) (h:=t.nodes.length) (g:=false) O O O O O O O (Nat.zero_le _) Yz (by rw[List.drop_zero,Nat.sub_zero,hms,List.map_append,List.take_left' e3]) rfl) ?_;refine zoq 11 O ?_;refine zkq O O O O O O (yrq (w':=.bool true) (JLq t t Xd) (by rw[decide_eq_true (rfl)])) ?_;refine zaq 2 O ?_;refine zkq O O O O O O (rall_s t' n' t1 hT.toIsT) ?_;refine zbq O O (zkq O O O O O O (yrq (w':=.bool true) (rpsame_s t1.all t1.all false false (by have:=hT.toIsT.all_le;omega)) (by rw[decide_eq_true rfl])) ?_);refine zaq 5 O ?_;exact zhq (.inr rfl) O O
theorem applies16_s(t:Tree)(p:Hdr)(ds:List Depo)(xs:List Tx)(box:Dig)(hB:BodOk ds xs)(hb:t.nodes.length<=4611686018427387903):PS cfg glK 3 [tW t,hdW p,bodW ds xs false false,dW box] (.bool true):=by
 by_cases hg:xYq t 600
 ·exact applies_g t p ds xs box hb (.inl hg)
 by_cases hk:y8q ds xs
 ·exact applies_g t p ds xs box hb (.inr hk)
 have h6:=great_600 hg;have hv:=gr_val hg;have hn:ds.length<=1000000/\xs.length<=1000000:=by unfold y8q at hk;omega
 by_cases hP:MayBk t p
 ·by_cases hm:ds.length<=16/\xs.length<=16
  ·obtain⟨⟨n,t0,hA⟩,hp,hp2⟩:=hP;cases e:doX box (doD t0.all ds).1 xs with
   |some q=>exact applies_ok t n t0 hA p hp hp2 ds xs box hB hv hg hk hm q.1 q.2 e
   |none=>exact QCq t p ds xs box h6 hv hn hg hk _ (by rcases bad_no e with h|h<;>omega:badX box (doD t0.all ds).1 xs≠0) (pe_mono (apply_s t n t0 hA p hp hp2 ds xs false false hB.dep hB.tx box hm Xd) fun w h=>ap_none h e) (rap_none t n t0 hA p hp hp2 ds xs false false hB box hm Xd e)
  ·exact QCq t p ds xs box h6 hv hn hg hk 4 Xq (pe_of (apply_many t p ds xs false false box Xd hP Xd) (refW_pur 4) rfl) (rap_many t p ds xs false false box Xd hP Xd)
 ·exact QCq t p ds xs box h6 hv hn hg hk 8 Xq (pe_of (apply_bad t p ds xs false false box Xd hP) (refW_pur 8) rfl) (rap_bad t p ds xs false false box Xd hP)
end
mutual
/-- all blocks in it lie below n -/
noncomputable def ltB(n:Nat):V->Bool
 |.ptr b _=>decide (b<n)
 |.sl b _ _ _ _ _=>decide (b<n)
 |.map b=>decide (b<n)
 |.yield b=>decide (b<n)
 |.fn _ a c=>ltL n a&&ltL n c
 |.iface _ v=>ltB n v
 |.agg _ l=>ltL n l
 |.arr _ _ l=>ltL n l
 |.tup l=>ltL n l
 |.undef=>true
 |.bool _=>true
 |.int _ _=>true
 |.str _=>true
 |.nilp=>true
 |.nils=>true
 |.nilm=>true
 |.nilf=>true
 |.nili=>true
noncomputable def ltL(n:Nat):List V->Bool
 |[]=>true
 |v::l=>ltB n v&&ltL n l
end
noncomputable def SeenK(h:Heap):Nat->Prop:=fun b=>b<h.next/\∃v,h.val b=some v/\ltB h.next v=true
noncomputable def u32V(n:Nat):V:=.int .u32 (.ofNat n)
noncomputable def eqK:List V->List Nat->Bool
 |[],[]=>true
 |.int .u32 (.ofNat n)::l,m::ms=>match Nat.beq n m with
  |true=>eqK l ms
  |false=>false
 |_,_=>false
theorem eqK_spec:∀{l:List V} {ms:List Nat},eqK l ms=true->l=ms.map u32V
 |[],[],_=>rfl
 |[],_::_,h=>by simp[eqK] at h
 |v::l,ms,h=>by
  unfold eqK at h;split at h
  ·simp_all
  ·rename_i n l' m ms' e;cases e;split at h
   ·rename_i hb;obtain rfl:=Nat.eq_of_beq_eq_true hb;rw[eqK_spec h];rfl
   ·cases h
  ·cases h
noncomputable def globK(h:Heap):Bool:=match h.get 0 with
 |some (.ro (.arr 64 1 l))=>eqK l kW
 |_=>false
theorem RSL_wd(Γ:Ctx):∀l:List Nat,RSL Γ (l.map wd) (l.map u32V)
 |[]=>rfl
 |n::l=>jkq (a:=[u32V n]) (b:=l.map u32V) (x:=wd n) rfl (RSL_wd Γ l)
theorem globK_spec{h:Heap}(hn:Nat.ble 2 h.next=true)(hk:globK h=true):GRel cfg glK ⟨0,fun i=>i,SeenK h,h⟩:=by
 intro g w _ h2 nw σ;have hn:=Ob hn;unfold glK at h2;split at h2
 ·cases h2;unfold globK at hk;split at hk
  ·rename_i l hg;obtain rfl:=eqK_spec hk;have hv:h.val 0=some (.arr 64 1 (kW.map u32V)):=by simp only[Heap.val,hg]
   refine RV.of_one ⟨0,0,_,rfl,⟨by omega,_,hv,by rfl⟩,hv,by exact Nat.le_refl _,fun _=>rfl,.inr rfl,?_⟩ O O;have e:((zAq (.arr 64 1 (kW.map u32V))).drop 0).take 64=kW.map u32V:=by kernel_rfl
   show RS _ _ (((zAq (.arr 64 1 (kW.map u32V))).drop 0).take 64);rw[e];exact⟨rfl,fun x hx=>by obtain⟨n,_,rfl⟩:=List.mem_map.1 hx;rfl,RSL_wd _ kW⟩
  ·cases hk
 ·cases h2
end
end Go.Proofs.YtjmekaoadfmkfaaGreatDoor

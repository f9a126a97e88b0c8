/-
  What the proof of ChainSound stands on, part 8. No condition.
-/
import Derived.Test.YtjmekaoadfmkfaaGreatDoorZChainSoundG
set_option linter.unusedSimpArgs false
set_option linter.unusedVariables false
namespace Go.Proofs.YtjmekaoadfmkfaaGreatDoor
section
open Go.RowKit
section
attribute [local irreducible] CoW OpW FlW Step Spec
variable {G:Nat->Option W}
theorem mayp_val(k:Dig)(v:List UInt8):MayP [(k,v)]↔valB v=true:=by
 constructor
 ·intro h;exact(h.2 0 Xk _ rfl).1
 ·intro h;refine⟨by simp,fun i hi x hx=>?_⟩;obtain rfl:i=0:=by simpa using hi
  cases hx;exact⟨h,fun y h0=>by omega⟩
noncomputable instance(a b:Tree):Decidable (a=b):=Classical.propDecidable _
end
section
attribute [local irreducible] CoW OpW FlW Step Spec
variable {G:Nat->Option W}
structure SmallC(c:Ch):Prop where
 nodes:c.tree.nodes.length<=1000000
 vals:∀x∈c.tree.nodes,x.val.length<=70368744177664
 len:c.links.length<=1000000
 link:∀x∈c.links,x.ds.length<=1000000/\x.xs.length<=1000000/\x.rs.length<=1000000
def QIq(c:Ch)(n:Nat):Prop:=QJq c.tree 900\/n<c.links.length\/∃x∈c.links,yRq x.ds x.xs\/40<x.rs.length
noncomputable instance(c:Ch)(n:Nat):Decidable (QIq c n):=Classical.propDecidable _
theorem Zuq(c:Ch)(n:Nat)(hb:c.tree.nodes.length<=4611686018427387903)(hl:c.links.length<=4611686018427387903):PS cfg G 54 [chG c,.int .i64 (n:Int)] (.bool (decide (QIq c n))):=by
 have e:(c.links.map lkG).length=c.links.length:=List.length_map _;by_cases hg:QJq c.tree 900
 ·skip
  refine zJq (fn:=Tryz.f54) O O O (Ob rfl) (fun R k0=>?_);refine zjq 11 O ?_;refine ziq O O O O O O (ynq (w':=.bool true) (great_s c.tree 900 hb Xd) (by rw[decide_eq_true (hg)])) ?_;refine zaq 17 O ?_;exact zhq (.inr rfl) rfl (dec_t (.inl hg))
 refine zJq (fn:=Tryz.f54) O O O (Ob rfl) (fun R k0=>?_);refine zjq 11 O ?_;refine ziq O O O O O O (ynq (w':=.bool false) (great_s c.tree 900 hb Xd) Qj) ?_;refine zaq 3 O ?_;refine zdq (w':=.int .i64 ((c.links.length:Nat):Int)) O O Xv ?_;refine zbq O O (yDq O O ?_);refine zaq 3 O ?_;refine zEq rfl (fun h1=>?_) (fun h1=>?_)
 ·refine zgq 7 O ?_;exact zhq (.inr rfl) rfl (dec_t (.inr (.inl Xd)))
 refine zgq 9 O ?_;refine qpq (α:=Nat) (fun i=>i<=c.links.length/\∀j x,j<i->c.links[j]? =some x->¬(yRq x.ds x.xs\/40<x.rs.length)) (fun i=>[(5,.int .i64 (i:Int))]) [(2,_),(4,_)] (fun i=>c.links.length-i) (0) ⟨rfl,rfl,trivial⟩ (⟨Nat.zero_le _,fun j x h=>by omega⟩) ⟨rfl,trivial⟩ (fun i hI=>?_);obtain⟨g1,g2⟩:=hI;refine zjq 6 O ?_;refine zdq (w':=.int .i64 ((c.links.length:Nat):Int)) O O Xv ?_;refine zaq 3 O ?_;refine zEq rfl (fun h2=>?_) (fun h2=>?_)
 ·have hi:i<c.links.length:=by omega
  obtain⟨x,hx⟩:∃x,c.links[i]? =some x:=⟨_,List.getElem?_eq_getElem hi⟩
  have er:(x.rs.map rcW).length=x.rs.length:=List.length_map _;refine zgq 9 O ?_;refine zbq rfl (zDq (i:=i) O O O O O O O (yoq lkG hx)) ?_;refine zaq 2 O ?_;refine ziq O O O O O O (u9q x.ds x.xs false false) ?_;refine xuq (fun h3=>?_) (fun h3=>?_)
  ·refine zaq 21 O ?_;refine yyq Xj ?_;refine zCq 2 O ?_;exact zhq (.inr rfl) rfl (dec_t (.inr (.inr ⟨x,List.mem_of_getElem? hx,.inl h3⟩)))
  ·refine zaq 4 O ?_;refine zbq rfl (zDq (i:=i) O O O O O O O (yoq lkG hx)) ?_;refine zaq 2 O ?_;refine zdq (w':=.int .i64 ((x.rs.length:Nat):Int)) O O (by rw[<-er];rfl) ?_;refine yDq O O ?_;refine zaq 3 O ?_;refine zEq rfl (fun h4=>?_) (fun h4=>?_)
   ·refine zgq 8 O ?_;refine yyq Xj ?_;refine zCq 2 O ?_;exact zhq (.inr rfl) rfl (dec_t (.inr (.inr ⟨x,List.mem_of_getElem? hx,.inr Xd⟩)))
   ·refine zgq 5 O ?_;refine ztq (i+1) O O Xm ⟨by omega,by omega⟩ ?_;refine qdq 2 O ?_;exact yrq (i+1) (⟨hi,fun j y hj hy=>by rcases Nat.lt_succ_iff_lt_or_eq.1 hj with q|rfl;exact g2 j y q hy;exact Option.some.inj (hx.symm.trans hy)▸fun q=>q.elim h3 Xd⟩) Xd ⟨rfl,trivial⟩ ⟨rfl,rfl,trivial⟩ Xh Xd Xl rfl
 ·have no:¬QIq c n:=by
   rintro(q|q|⟨x,hx,q⟩)
   ·exact hg q
   ·omega
   ·obtain⟨j,hj⟩:=List.getElem?_of_mem hx;exact g2 j x (by have:=jHq hj;omega) hj q
  refine zgq 2 O ?_;refine yyq Xj ?_;refine zCq 8 O ?_;exact zhq (.inr rfl) rfl (uwq no)
theorem greatc_no{c:Ch}{n:Nat}(h:¬QIq c n):c.tree.nodes.length<=900/\c.links.length<=n/\∀x∈c.links,¬yRq x.ds x.xs/\x.rs.length<=40:=
 ⟨Nat.le_of_not_lt fun q=>h (.inl (.inl q)),Nat.le_of_not_lt fun q=>h (.inr (.inl q)),fun x hx=>⟨fun q=>h (.inr (.inr ⟨x,hx,.inl q⟩)),Nat.le_of_not_lt fun q=>h (.inr (.inr ⟨x,hx,.inr q⟩))⟩⟩
end
section
attribute [local irreducible] CoW OpW FlW Step Spec
variable {G:Nat->Option W}
theorem clink_s(x:Lk)(h:x.ds.length<=1000000/\x.xs.length<=1000000/\x.rs.length<=1000000):PS cfg G 134 [lkG x] (lkG x):=by
 obtain⟨h1,h2,h3⟩:=h;refine zJq (fn:=Tryz.f134) O O O (Ob rfl) (fun R k0=>?_);refine zjq 11 O ?_;refine qBq O O O O O O (cld_s x.ds false Xd) ?_;refine zxq 3 O ?_;refine qBq O O O O O O (clx_s x.xs false Xd) ?_;refine zxq 9 O ?_;refine ziq O O O O O O (clr_s x.rs false Xd) ?_;refine zaq 11 O ?_;exact zhq (.inr rfl) O O
theorem ctrn_s(l:List Lk)(f:Bool)(hl:l.length<=1000000)(hs:∀x∈l,x.ds.length<=1000000/\x.xs.length<=1000000/\x.rs.length<=1000000):PL cfg G 151 [.fz (l.map lkG) 102 f,.fn 134 [] []] 132 102 (l.map lkG):=by
 have e:(l.map lkG).length=l.length:=List.length_map _;intro R;refine zXq (fn:=Tryz.f151) O O O (Ob rfl) (fun k0=>?_);refine zjq 14 O ?_;refine zdq (w':=.int .i64 ((l.length:Nat):Int)) O O Xv ?_;refine zaq 4 O ?_;refine Jwq (α:=Nat) (fun i=>i<=l.length) 5 (fun i=>(l.take i).map lkG) 132 102 (fun i=>[(10,.int .i64 (i:Int))]) [(1,_),(4,_),(8,_),(9,_)] _ (fun i=>l.length-i) (0) ⟨rfl,rfl,rfl,rfl,trivial⟩ (Nat.zero_le _) ⟨rfl,trivial⟩ O O O (fun i hI=>?_);refine zjq 6 O ?_;refine zEq rfl (fun h1=>?_) (fun h1=>?_)
 ·have hi:i<l.length:=by omega
  obtain⟨x,hx⟩:∃x,l[i]? =some x:=⟨_,List.getElem?_eq_getElem hi⟩
  have es:(l.take (i+1)).map lkG=(l.take i).map lkG++[lkG x]:=by rw[List.take_add_one,hx,List.map_append];rfl
  have el:((l.take i).map lkG).length=i:=by simp;omega
  have ep:purL ((l.take i).map lkG++[lkG x])=true:=by rw[<-es];exact k6q _
  have ep2:purL ((l.take i).map lkG)=true:=k6q _;refine zgq 6 O ?_;refine zbq rfl (zDq (i:=i) O O O O O O O (yoq lkG hx)) ?_;refine zaq 9 O ?_;refine ziq O O O O O O (clink_s x (hs x (List.mem_of_getElem? hx))) ?_;refine zvq O O (zvq rfl (qrq O O (QCq [_,_] (k:=ti132) (news:=[lkG x]) O O O O O (jqq O O O O) Xk (by show(((l.take i).map lkG).length+1)*192<=_;omega) (by show((l.take i).map lkG).length+1<=_;omega) rfl Xk)) ?_);refine zaq 5 O ?_;first|refine ymq O O ⟨by omega,by omega⟩ ?_|refine zbq O O ?_
  refine qdq 2 O ?_;exact uRq 3 (i+1) (hi) Xd (Nat.zero_le _) (es) Yn Xd Qa rfl Yp ⟨rfl,trivial⟩ ⟨rfl,rfl,rfl,rfl,trivial⟩ Xh Xh rfl Xo Xq Yj
 ·have hi:i=l.length:=by omega
  subst hi;rw[List.take_length];refine zgq 2 O ?_;refine jaq Xj ?_;refine zCq 9 O ?_;exact fin (.inr rfl) (yeq (fr2:=[(4,gW 0 102 (l.map lkG))]) ⟨rfl,trivial⟩ O O) rfl ⟨rfl,rfl,rfl,rfl⟩
theorem SmallC.vl{c:Ch}(h:SmallC c):c.tree.nodes.length<=1000000000:=by have:=h.nodes;omega
noncomputable def ownC(b:Nat)(c:Ch):W:=.agg 3 [tW c.tree,.sl b 0 0 c.links.length 102 none]
noncomputable def ownH(b0 b1 b:Nat)(c:Ch):HpW:=[(b,132,.arr (c.links.length*102) 102 (c.links.map lkG)),(b1,70,ownC b c),(b0,70,chG c)]
theorem ctwin_o(c:Ch)(hs:SmallC c)(hne:c.links≠[]):yUq cfg G 76 0 [chG c] [] fun w hp nw=>w=ownC 2 c/\hp=ownH 0 1 2 c/\nw=3:=by
 have hne2:c.links.map lkG≠[]:=by simpa using hne
 have e:(c.links.map lkG).length=c.links.length:=List.length_map _;intro R;refine zXq (fn:=Tryz.f76) O O O (Ob rfl) (fun k0=>?_);refine zjq 10 O ?_;refine qBq O O O O O O (uaq c.tree hs.vl hs.vals) ?_;refine zxq 2 O ?_
 (refine yfq rfl (step_pl O O O O O (by simp[purL,purW]) (ctrn_s c.links false hs.len hs.link) (k6q _) ?_);refine⟨by first|rfl|kernel_rfl,?_⟩;rw[vKq hne2,vLq hne2,e])
 refine zxq 5 O ?_;exact fin (.inr rfl) Ent.refl rfl ⟨rfl,rfl,rfl,rfl⟩
theorem ren_own(τ:Nat->Nat)(b:Nat)(c:Ch):renW τ (ownC b c)=ownC (τ b) c:=by
 show W.agg 3 [renW τ (tW c.tree),_]=_;rw[zkq (qlq _)];rfl
theorem renH_own(τ:Nat->Nat)(a b d:Nat)(c:Ch):renH τ (ownH a b d c)=ownH (τ a) (τ b) (τ d) c:=by
 unfold ownH;have h:purW (.arr (c.links.length*102) 102 (c.links.map lkG))=true:=k6q _;simp only[renH,ren_own,zkq h,zkq (chG_pur c)]
theorem step_twin{o:Oper}{fr:FrW}{hp:HpW}{nw:Nat}{R:Res}{post:W->HpW->Nat->Res->Option EvW->Prop}{x:Operand}{xs:Array Operand}{ats:Array TypeId}{a us d:List W}(c:Ch)(hs:SmallC c)(hne:c.links≠[])(ho:o.op= .call ⟨.value x,xs,ats⟩)(hx:evW cfg G fr x=some (.fn 76 a d))(hxs:evLW cfg G fr xs.toList=some us)(hws:a++us++d=[chG c])(h:post (ownC (nw+2) c) (ownH (nw+0) (nw+1) (nw+2) c++hp) (nw+3) R (some .gen)):Step cfg G o fr hp nw R post:=by
 refine step_ownG ho hx rfl hxs hws (by simp[purL]) (ctwin_o c hs hne) ?_;rintro w hp1 nw1 ⟨rfl,rfl,rfl⟩;rw[ren_own,renH_own];exact h
theorem ctwin_s(c:Ch)(hs:SmallC c)(hne:c.links≠[]):PS cfg G 76 [chG c] (chG c):=fun R=>
 uKq (xUq (ctwin_o c hs hne) (Q:=fun w hp _=>View (blkA hp) w (chG c)) (fun w hp nw h=>by
  obtain⟨rfl,rfl,rfl⟩:=h;exact .agg (.cons (.pur (qlq _)) (.cons (.sl (full:=false) rfl (k6q _) (zBq Xr (by rw[List.length_map]) rfl) Xj) .nil))) R)
theorem hdZ_b:W.agg 98 [.int .i64 0,.arr 32 1 (List.replicate 32 (.int .u8 (.ofNat 0))),.arr 32 1 (List.replicate 32 (.int .u8 (.ofNat 0))),.arr 32 1 (List.replicate 32 (.int .u8 (.ofNat 0))),.int .i64 0]=hdW hdZ:=by
 rw[xbq];rfl
theorem chead_no(c:Ch)(hc:OkC c)(h:¬MayC c):PS cfg glK 67 [chG c] (.tup [hdW hdZ,.int .i64 8]):=by
 refine zJq (fn:=Tryz.f67) O O O (Ob rfl) (fun R k0=>?_);refine zjq 11 O ?_;refine ziq O O O O O O (ynq (w':=.int .i64 8) (jCq c hc) (by rw[if_neg h])) ?_;refine zaq 6 O ?_;refine zdq (w':=.bool true) O O (congrArg W.bool Xg) ?_;refine zaq 5 O ?_;refine zdq (w':=hdW hdZ) O O hdZ_b ?_;refine zaq 7 O ?_;exact zhq (.inr rfl) O O
theorem uAq(c:Ch)(hc:OkC c)(h:MayC c){y:Lk}(hy:c.links[c.links.length-1]? =some y):PS cfg glK 67 [chG c] (.tup [hdW y.hdr,.int .i64 0]):=by
 have e:(c.links.map lkG).length=c.links.length:=List.length_map _;have h1:=h.one;have hl:=hc.len;refine zJq (fn:=Tryz.f67) O O O (Ob rfl) (fun R k0=>?_);refine zjq 11 O ?_;refine ziq O O O O O O (ynq (w':=.int .i64 0) (jCq c hc) (by rw[if_pos h])) ?_;refine zaq 6 O ?_;refine zdq (w':=.bool false) O O (congrArg W.bool Xg) ?_;refine zaq 11 O ?_;refine zdq (w':=.int .i64 ((c.links.length:Nat):Int)) O O Xv ?_;refine ztq (c.links.length-1) O O Xm ⟨by omega,by omega⟩ ?_;refine zbq rfl (zDq (i:=c.links.length-1) O O O O O O O (yoq lkG hy)) ?_;refine zaq 7 O ?_;exact zhq (.inr rfl) O O
theorem cstate_arg(c:Ch)(hc:OkC c)(h:Int)(hm:MayC c)(hh:h<0\/(c.links.length:Int)<=h):PS cfg glK 65 [chG c,.int .i64 h] (.tup [noT,.int .i64 2]):=by
 have e:(c.links.map lkG).length=c.links.length:=List.length_map _;by_cases h0:h<0
 ·skip
  refine zJq (fn:=Tryz.f65) O O O (Ob rfl) (fun R k0=>?_);refine zjq 12 O ?_;refine ziq O O O O O O (ynq (w':=.int .i64 0) (jCq c hc) Yw) ?_;refine zdq (w':=.bool false) O O (congrArg W.bool Xg) ?_;refine zaq 7 O ?_;refine zdq (w':=.bool true) O O (congrArg W.bool (ltI_iff.2 (h0))) ?_;refine zaq 21 O ?_;exact zhq (.inr rfl) O O
 ·skip
  refine zJq (fn:=Tryz.f65) O O O (Ob rfl) (fun R k0=>?_);refine zjq 12 O ?_;refine ziq O O O O O O (ynq (w':=.int .i64 0) (jCq c hc) Yw) ?_;refine zdq (w':=.bool false) O O (congrArg W.bool Xg) ?_;refine zaq 7 O ?_;refine zdq (w':=.bool false) O O (congrArg W.bool (ltI_not.2 (h0))) ?_;refine zaq 4 O ?_;refine zdq (w':=.int .i64 ((c.links.length:Nat):Int)) O O Xv ?_;refine zdq (w':=.bool true) O O (congrArg (fun b=>W.bool (!b)) (ltI_not.2 Xd)) ?_;refine zaq 15 O ?_;exact zhq (.inr rfl) O O
theorem cstate_s(c:Ch)(hc:OkC c)(hs:SmallC c)(i:Nat)(hm:MayC c){x:Lk}(hx:c.links[i]? =some x):PS cfg glK 65 [chG c,.int .i64 (i:Int)] (.tup [tW (verT c x.root),.int .i64 0]):=by
 have e:(c.links.map lkG).length=c.links.length:=List.length_map _;have hi:=jHq hx;refine zJq (fn:=Tryz.f65) O O O (Ob rfl) (fun R k0=>?_);refine zjq 12 O ?_;refine ziq O O O O O O (ynq (w':=.int .i64 0) (jCq c hc) Yw) ?_;refine zdq (w':=.bool false) O O (congrArg W.bool Xg) ?_;refine zaq 7 O ?_;refine zdq (w':=.bool false) O O (congrArg W.bool (ltI_not.2 Xd)) ?_;refine zaq 4 O ?_;refine zdq (w':=.int .i64 ((c.links.length:Nat):Int)) O O Xv ?_;refine zdq (w':=.bool false) O O (congrArg (fun b=>W.bool (!b)) (ltI_iff.2 Xd)) ?_;refine zaq 15 O ?_;refine zcq rfl (zDq (i:=i) O O O O O O O (yoq lkG hx)) ?_;refine zxq 2 O ?_;refine qBq O O O O O O (Zfq c.tree x.root) ?_;first|refine qBq O O O O O O (uaq (verT c x.root) hs.vl hs.vals) ?_|refine qBq O O O O O O (uaq c.tree hs.vl hs.vals) ?_
 refine zxq 5 O ?_;exact zhq (.inr rfl) O O
noncomputable def noCh:W:=.agg 3 [.agg 2 [.nils,.int .i64 0],.nils]
theorem ZCq(c:Ch)(hc:OkC c)(h:Int)(hm:MayC c)(hh:h<0\/(c.links.length:Int)<=h):PS cfg glK 64 [chG c,.int .i64 h] (.tup [noCh,.int .i64 2]):=by
 have e:(c.links.map lkG).length=c.links.length:=List.length_map _;by_cases h0:h<0
 ·skip
  refine zJq (fn:=Tryz.f64) O O O (Ob rfl) (fun R k0=>?_);refine zjq 12 O ?_;refine ziq O O O O O O (ynq (w':=.int .i64 0) (jCq c hc) Yw) ?_;refine zdq (w':=.bool false) O O (congrArg W.bool Xg) ?_;refine zaq 7 O ?_;refine zdq (w':=.bool true) O O (congrArg W.bool (ltI_iff.2 (h0))) ?_;refine zaq 21 O ?_;exact zhq (.inr rfl) O O
 ·skip
  refine zJq (fn:=Tryz.f64) O O O (Ob rfl) (fun R k0=>?_);refine zjq 12 O ?_;refine ziq O O O O O O (ynq (w':=.int .i64 0) (jCq c hc) Yw) ?_;refine zdq (w':=.bool false) O O (congrArg W.bool Xg) ?_;refine zaq 7 O ?_;refine zdq (w':=.bool false) O O (congrArg W.bool (ltI_not.2 (h0))) ?_;refine zaq 4 O ?_;refine zdq (w':=.int .i64 ((c.links.length:Nat):Int)) O O Xv ?_;refine zdq (w':=.bool true) O O (congrArg (fun b=>W.bool (!b)) (ltI_not.2 Xd)) ?_;refine zaq 15 O ?_;exact zhq (.inr rfl) O O
theorem take_at{α:Type}{l:List α}{i:Nat}{x:α}(h:l[i]? =some x):(l.take (i+1))[i]? =some x:=by
 rw[List.getElem?_take,if_pos (Nat.lt_succ_self _)];exact h
theorem cutl_len{c:Ch}{i:Nat}{x:Lk}(h:c.links[i]? =some x):(c.links.take (i+1)).length=i+1:=by
 have:=jHq h;rw[List.length_take];omega
theorem ccut_s(c:Ch)(hc:OkC c)(hs:SmallC c)(i:Nat)(hm:MayC c){x:Lk}(hx:c.links[i]? =some x):PS cfg glK 64 [chG c,.int .i64 (i:Int)] (.tup [chG (cutC c i x),.int .i64 0]):=by
 have e:(c.links.map lkG).length=c.links.length:=List.length_map _;have hi:=jHq hx;have h1:=hs.len;have e2:((c.links.map lkG).take (i+1))=(c.links.take (i+1)).map lkG:=(List.map_take ..).symm;refine uVq (fn:=Tryz.f64) O O O (Ob rfl) (fun R k0=>?_);refine zjq 12 O ?_;refine ziq O O O O O O (ynq (w':=.int .i64 0) (jCq c hc) Yw) ?_;refine zdq (w':=.bool false) O O (congrArg W.bool Xg) ?_;refine zaq 7 O ?_;refine zdq (w':=.bool false) O O (congrArg W.bool (ltI_not.2 Xd)) ?_;refine zaq 4 O ?_;refine zdq (w':=.int .i64 ((c.links.length:Nat):Int)) O O Xv ?_;refine zdq (w':=.bool false) O O (congrArg (fun b=>W.bool (!b)) (ltI_iff.2 Xd)) ?_;refine zaq 11 O ?_;refine ziq O O O O O O (ctwin_s c hs (fun q=>by rw[q] at hi;cases hi)) ?_;refine zaq 9 O ?_;refine ztq (i+1) O O Xm ⟨by omega,by omega⟩ ?_;refine zbq O O (ztq (i+1) O O Xm ⟨by omega,by omega⟩ ?_);refine zbq rfl (cut_fz3 (ys:=(c.links.take (i+1)).map lkG) (h:=i+1) (m:=i+1) (g:=true) O O O O O O O O Xd (Nat.le_refl _) (by rw[e];omega) Xd (by rw[List.drop_zero,Nat.sub_zero];exact e2) (Nat.beq_refl _)) ?_;refine zaq 9 O ?_;refine zbq rfl (zDq (i:=i) O O O O O O O (yoq lkG (take_at hx))) ?_;refine zaq 15 O ?_;exact Y5q (.inr rfl) rfl (.tup (.cons (.agg (.cons (.pur (qlq (verT c x.root))) (.cons (.fzw (k6q _)) .nil))) (.cons (.pur rfl) .nil)))
end
section
attribute [local irreducible] CoW OpW FlW Step Spec
variable {G:Nat->Option W}
theorem seqb_s(a b:List UInt8)(f g:Bool)(hb:a.length<=1000000000):PS cfg G 218 [.fz (zeq a) 1 f,.fz (zeq b) 1 g] (.bool (decide (a=b))):=by
 have ea:=zoq a;have eb:=zoq b;refine zJq (fn:=Tryz.f218) O O O (Ob rfl) (fun R k0=>?_);refine zjq 9 O ?_;refine zdq (w':=.int .i64 ((a.length:Nat):Int)) O O Qt ?_;refine zbq O O (zdq (w':=.int .i64 ((b.length:Nat):Int)) O O (by rw[<-eb];rfl) ?_);refine zaq 3 O ?_;refine zEq rfl (fun h1=>?_) (fun h1=>?_)
 ·refine zgq 7 O ?_;exact zhq (.inr rfl) rfl Qg
 ·refine zgq 6 O ?_;refine zdq (w':=.int .i64 ((a.length:Nat):Int)) O O Qt ?_;refine zaq 4 O ?_;refine qpq (α:=Nat) (fun i=>i<=a.length/\a.take i=b.take i) (fun i=>[(13,.int .i64 (i:Int))]) [(0,_),(1,_),(4,_),(12,_)] (fun i=>a.length-i) (0) ⟨rfl,rfl,rfl,rfl,trivial⟩ (⟨Nat.zero_le _,rfl⟩) ⟨rfl,trivial⟩ (fun i hI=>?_);obtain⟨g1,g2⟩:=hI;refine zjq 6 O ?_;refine zEq rfl (fun h2=>?_) (fun h2=>?_)
  ·obtain⟨x,hx⟩:∃x,a[i]? =some x:=⟨_,List.getElem?_eq_getElem Xd⟩
   obtain⟨y,hy⟩:∃y,b[i]? =some y:=⟨_,List.getElem?_eq_getElem Xd⟩
   refine zgq 14 O ?_;refine zcq rfl (zDq (i:=i) O O O O O O O (xHq hx)) ?_;refine zxq 3 O ?_;refine zcq rfl (zDq (i:=i) O O O O O O O (xHq hy)) ?_;refine zxq 4 O ?_;refine zEq rfl (fun h3=>?_) (fun h3=>?_)
   ·refine zgq 8 O ?_;refine yyq Xj ?_;refine zCq 2 O ?_;exact zhq (.inr rfl) rfl (by rw[decide_eq_false (ne_at hx hy fun q=>h3 (by rw[q]))])
   ·refine zgq 4 O ?_;refine ztq (i+1) O O Xm ⟨by omega,by omega⟩ ?_;refine qdq 2 O ?_;exact yrq (i+1) (⟨by omega,ZKq g2 hx hy (UInt8.toNat_inj.1 (Int.ofNat.inj (Classical.not_not.1 h3)))⟩) Xd ⟨rfl,trivial⟩ ⟨rfl,rfl,rfl,rfl,trivial⟩ Xh Xd Xl rfl
  ·refine zgq 2 O ?_;refine yyq Xj ?_;refine zCq 8 O ?_;exact zhq (.inr rfl) rfl Qs
theorem psame1_s(a b:Pr)(hl:a.2.length<=1000000000):PS cfg G 263 [pW a,pW b] (.bool (decide (a=b))):=by
 refine zJq (fn:=Tryz.f263) O O O (Ob rfl) (fun R k0=>?_);refine zjq 13 O ?_;refine op_dec rfl (qwq O O O O (qWq O O O O O O _ _ 250)) ySq (fun h1=>?_) (fun h1=>?_)
 ·refine zaq 5 O ?_;refine ziq O O O O O O (seqb_s _ _ _ _ Xd) ?_;refine zaq 5 O ?_;exact zhq (.inr rfl) rfl (dec_c ⟨fun q=>Prod.ext (by simpa using h1) q,fun q=>by rw[q]⟩)
 ·refine zaq 11 O ?_;exact zhq (.inr rfl) rfl (uwq fun q=>h1 (by rw[q]))
theorem seqp_s(a b:List Pr)(f g:Bool)(hb:a.length<=1000000000)(hl:∀x∈a,x.2.length<=1000000000):PS cfg G 262 [.fz (a.map pW) 33 f,.fz (b.map pW) 33 g,.fn 263 [] []] (.bool (decide (a=b))):=by
 have ea:(a.map pW).length=a.length:=List.length_map _;have eb:(b.map pW).length=b.length:=List.length_map _;refine zJq (fn:=Tryz.f262) O O O (Ob rfl) (fun R k0=>?_);refine zjq 9 O ?_;refine zdq (w':=.int .i64 ((a.length:Nat):Int)) O O Qt ?_;refine zbq O O (zdq (w':=.int .i64 ((b.length:Nat):Int)) O O (by rw[<-eb];rfl) ?_);refine zaq 3 O ?_;refine zEq rfl (fun h1=>?_) (fun h1=>?_)
 ·refine zgq 7 O ?_;exact zhq (.inr rfl) rfl Qg
 ·refine zgq 6 O ?_;refine zdq (w':=.int .i64 ((a.length:Nat):Int)) O O Qt ?_;refine zaq 4 O ?_;refine qpq (α:=Nat) (fun i=>i<=a.length/\a.take i=b.take i) (fun i=>[(17,.int .i64 (i:Int))]) [(1,_),(2,_),(6,_),(15,_),(16,_)] (fun i=>a.length-i) (0) ⟨rfl,rfl,rfl,rfl,rfl,trivial⟩ (⟨Nat.zero_le _,rfl⟩) ⟨rfl,trivial⟩ (fun i hI=>?_);obtain⟨g1,g2⟩:=hI;refine zjq 6 O ?_;refine zEq rfl (fun h2=>?_) (fun h2=>?_)
  ·obtain⟨x,hx⟩:∃x,a[i]? =some x:=⟨_,List.getElem?_eq_getElem Xd⟩
   obtain⟨y,hy⟩:∃y,b[i]? =some y:=⟨_,List.getElem?_eq_getElem Xd⟩
   refine zgq 7 O ?_;refine zbq rfl (zDq (i:=i) O O O O O O O (yoq pW hx)) ?_;refine zaq 10 O ?_;refine zbq rfl (zDq (i:=i) O O O O O O O (yoq pW hy)) ?_;refine zaq 10 O ?_;refine ziq O O O O O O (psame1_s x y (hl x (List.mem_of_getElem? hx))) ?_;refine zaq 3 O ?_;refine zEq rfl (fun h3=>?_) (fun h3=>?_)
   ·refine zgq 8 O ?_;refine yyq Xj ?_;refine zCq 2 O ?_;exact zhq (.inr rfl) rfl (by rw[decide_eq_false (ne_at hx hy Qd)])
   ·refine zgq 4 O ?_;refine ztq (i+1) O O Xm ⟨by omega,by omega⟩ ?_;refine qdq 2 O ?_;exact yrq (i+1) (⟨by omega,ZKq g2 hx hy Qd⟩) Xd ⟨rfl,trivial⟩ ⟨rfl,rfl,rfl,rfl,rfl,trivial⟩ Xh Xd Xl rfl
  ·refine zgq 2 O ?_;refine yyq Xj ?_;refine zCq 8 O ?_;exact zhq (.inr rfl) rfl Qs
theorem psame_s(a b:List Pr)(f g:Bool)(hb:a.length<=1000000000)(hl:∀x∈a,x.2.length<=1000000000):PS cfg G 215 [.fz (a.map pW) 33 f,.fz (b.map pW) 33 g] (.bool (decide (a=b))):=by
 refine zJq (fn:=Tryz.f215) O O O (Ob rfl) (fun R k0=>?_);refine zjq 9 O ?_;refine ziq O O O O O O (seqp_s a b f g hb hl) ?_;refine zaq 4 O ?_;exact zhq (.inr rfl) O O
theorem calike_s{t u:Tree}{n m:Nat}{a b:T}(ht:IsT t n a)(hu:IsT u m b):PS cfg G 145 [tW t,tW u] (.bool (decide (a.all=b.all))):=by
 have h1:=ht.all_le;have h2:=ht.len;refine zJq (fn:=Tryz.f145) O O O (Ob rfl) (fun R k0=>?_);refine zjq 10 O ?_;refine ziq O O O O O O (QNq t n a ht) ?_;refine zaq 10 O ?_;refine ziq O O O O O O (QNq u m b hu) ?_;refine zaq 11 O ?_;refine ziq O O O O O O (psame_s a.all b.all false false Xd (fun x hx=>by have:=(ht.val x hx).2;omega)) ?_;refine zaq 4 O ?_;exact zhq (.inr rfl) O O
end
section
attribute [local irreducible] CoW OpW FlW Step Spec
attribute [local simp] jWq
def NextS(c:Ch)(box:Dig)(x y:Lk):Prop:=∃n t0 n1 t1 rs,IsA (verT c y.root) n t0/\IsA (verT c x.root) n1 t1/\doX box (doD t0.all x.ds).1 x.xs=some (t1.all,rs)/\x.hdr=jIq y.hdr t1 ((doD t0.all x.ds).2++rs)/\x.rs=((doD t0.all x.ds).2++rs).map recI
theorem nextS_none{c:Ch}{box:Dig}{x y:Lk}{n:Nat}{t0:T}(hA:IsA (verT c y.root) n t0)(e:doX box (doD t0.all x.ds).1 x.xs=none):¬NextS c box x y:=by
 rintro⟨n',t0',n1,t1,rs,h1,h2,h3,_⟩;obtain⟨rfl,rfl⟩:=hA.uniq h1;rw[e] at h3;cases h3
theorem nextS_some{c:Ch}{box:Dig}{x y:Lk}{n n2 nx:Nat}{t0 t2 tx:T}{t':Tree}{l:List Pr}{rs:List Rec}(hA:IsA (verT c y.root) n t0)(e:doX box (doD t0.all x.ds).1 x.xs=some (l,rs))(hT:IsA t' n2 t2)(hl:t2.all=l)(hX:IsA (verT c x.root) nx tx):NextS c box x y↔jIq y.hdr t2 ((doD t0.all x.ds).2++rs)=x.hdr/\((doD t0.all x.ds).2++rs).map recI=x.rs/\t2.all=tx.all:=by
 constructor
 ·rintro⟨n',t0',n1,t1,rs',h1,h2,h3,h4,h5⟩;obtain⟨rfl,rfl⟩:=hA.uniq h1;obtain⟨rfl,rfl⟩:=hX.uniq h2;rw[e] at h3;cases h3;have q:t2=tx:=hT.toIsT.same hX.toIsT hl;subst q;exact⟨h4.symm,h5.symm,rfl⟩
 ·rintro⟨h1,h2,h3⟩;have q:t2=tx:=hT.toIsT.same hX.toIsT h3;subst q;exact⟨n,t0,nx,t2,rs,hA,hX,by rw[e,hl],h1.symm,h2.symm⟩
theorem LkS.of0{c:Ch}{box:Dig}{x:Lk}(h:∃n t0,IsA (verT c x.root) n t0/\x.hdr=firH t0/\x.ds=[]/\x.xs=[]):LkS c box 0 x:=⟨fun _=>h,fun y h0=>absurd h0 Xr⟩
theorem firH_b(t0:T):W.agg 98 [.int .i64 0,.arr 32 1 (List.replicate 32 (.int .u8 (.ofNat 0))),dW (sumD t0),dW (tagD 0 []),.int .i64 0]=hdW (firH t0):=by
 rw[xbq];rfl
theorem xcq(c:Ch)(hc:OkC c)(hn:c.tree.nodes.length<=200000)(box:Dig):PS cfg glK 73 [chG c,dW box] (.bool (decide (SoundC c box))):=by
 by_cases hm:MayC c
 ·skip
  refine zJq (fn:=Tryz.f73) O O O (Ob rfl) (fun R k0=>?_);refine zjq 11 O ?_;refine ziq O O O O O O (ynq (w':=.int .i64 0) (jCq c hc) Yw) ?_;refine zdq (w':=.bool false) O O (congrArg W.bool Xg) ?_;refine zaq 10 O ?_;refine ziq O O O O O O (ceach_s _ _) ?_;refine zaq 3 O ?_;refine vmq (encL c.links) (List.range c.links.length) (fun i (_:Unit)=>∀j x,j<i->c.links[j]? =some x->LkS c box j x) (fun _=>R) (()) rfl Xo (ceach_it c.links false hc.len) (encL_ok c.links) (fun j x hj=>by omega) rfl (fun i a y hy hI=>?_) (fun a hI=>?_)
  ·have hi:i<c.links.length:=by have:=jHq hy;simpa using this
   obtain rfl:i=y:=by rw[QVq hi] at hy;exact Option.some.inj hy
   obtain⟨x,hx⟩:∃x,c.links[i]? =some x:=⟨_,List.getElem?_eq_getElem hi⟩
   have hmx:=hm.link i x hx;have hB:=hc.body x (List.mem_of_getElem? hx);obtain⟨nx,tx,hX⟩:=hmx.tree;have e1:(x.ds.map pdW).length=x.ds.length:=List.length_map _;have e2:(x.xs.map txW).length=x.xs.length:=List.length_map _;have l1:=hmx.body.1;have l2:=hmx.body.2.1;have goes:LkS c box i x->∀j w,j<i+1->c.links[j]? =some w->LkS c box j w:=fun hS j w hj hw=>by rcases Nat.lt_succ_iff_lt_or_eq.1 hj with q|rfl;exact hI j w q hw;exact Option.some.inj (hx.symm.trans hw)▸hS
   have hhe:=hmx.height;skip
   cases i with
   |zero=>
    rw[show encL c.links 0=[lkG x,lkZ] by unfold encL;rw[lkA_at hx];rfl];refine zjq 10 O ?_;refine uQq ?_;refine zjq 7 O ?_;refine ziq O O O O O O (Zfq c.tree x.root) ?_;refine zaq 10 O ?_;refine zdq (w':=.bool true) O O (congrArg W.bool (eqI_iff.2 (hhe))) ?_;refine zaq 6 O ?_;refine ziq O O O O O O (tsum_ok (verT c x.root) nx tx hX.toIsT) ?_;refine zaq 14 O ?_;refine qBq O O O O O O (ubq) ?_;refine qQq (w':=hdW (firH tx)) O O (firH_b tx) ?_;refine fl_dec rfl (xJq O O O O (eq_hd _ _)) (vGq ySq) (fun h1=>?_) (fun h1=>?_)
    ·have hno:¬SoundC c box:=fun q=>by
      obtain⟨n',t',h1',h2',_⟩:=(q.sound 0 x hx).first rfl;obtain⟨_,rfl⟩:=hX.uniq h1';exact h1 h2'
     refine zxq 24 O ?_;refine jXq Xj ?_;refine zCq 2 O ?_;exact zhq (.inr rfl) rfl (uwq hno)
    ·refine zxq 4 O ?_;refine qQq (w':=.int .i64 ((x.ds.length:Nat):Int)) O O Ys ?_;refine zxq 3 O ?_;refine qQq (w':=.int .i64 ((x.xs.length:Nat):Int)) O O Yk ?_;refine q6q (x.ds.length+x.xs.length) O O Xm ⟨by omega,by omega⟩ ?_;refine fl_cz O O ?_;refine zxq 3 O ?_;refine zEq rfl (fun h2=>?_) (fun h2=>?_)
     ·have hno:¬SoundC c box:=fun q=>by
       obtain⟨n',t',_,_,h3',h4'⟩:=(q.sound 0 x hx).first rfl;rw[h3',h4'] at h2;exact absurd h2 Xr
      refine zgq 9 O ?_;refine jXq Xj ?_;refine zCq 2 O ?_;exact zhq (.inr rfl) rfl (uwq hno)
     ·refine zgq 5 O ?_;exact uPq (()) (goes (LkS.of0 ⟨nx,tx,hX,Classical.not_not.1 h1,List.eq_nil_of_length_eq_zero Xd,List.eq_nil_of_length_eq_zero Xd⟩)) Xd Xl rfl
   |succ k=>
    obtain⟨z,hz⟩:∃z,c.links[k]? =some z:=⟨_,List.getElem?_eq_getElem Xd⟩
    have hmz:=hm.link k z hz;obtain⟨nz,tz,hA⟩:=hmz.tree;have hhz:=hmz.height;have hl256:=hm.len;have snext:SoundC c box->NextS c box x z:=fun q=>(q.sound (k+1) x hx).next z (Nat.succ_pos _) hz
    have hP:=apply_s (verT c z.root) nz tz hA z.hdr hmz.hdr Xd x.ds x.xs false false hB.dep hB.tx box ⟨l1,l2⟩ (by show c.tree.nodes.length+_+_<=_;omega);rw[show encL c.links (k+1)=[lkG x,lkG z] by unfold encL;rw[lkA_at hx];show [lkG x,lkA c.links k]=_;rw[lkA_at hz]];cases hst:doX box (doD tz.all x.ds).1 x.xs with
    |none=>
     have hno:¬SoundC c box:=fun q=>nextS_none hA hst (snext q)
     have hb:=bad_no hst;refine zjq 10 O ?_;refine uQq ?_;refine zjq 7 O ?_;first|refine ziq O O O O O O (Zfq c.tree _) ?_|refine ziq O O O O O O (Zfq c.tree x.root) ?_
     refine zaq 10 O ?_;refine zdq (w':=.bool false) O O (congrArg W.bool (eqI_not.2 Xd)) ?_;refine zaq 11 O ?_;first|refine qBq O O O O O O (Zfq c.tree _) ?_|refine qBq O O O O O O (Zfq c.tree x.root) ?_
     refine zxq 5 O ?_
     (refine yfq rfl (jhq O O O O O ((pe_mono hP fun w h=>ap_none h hst)) Xk ?_);rintro w hw rfl;refine⟨by first|rfl|kernel_rfl,?_⟩)
     refine zxq 16 O ?_;refine zdq (w':=.bool true) O O (congrArg (fun b=>W.bool (!b)) (eqI_not.2 Xd)) ?_;refine zaq 29 O ?_;refine jXq Xj ?_;refine zCq 2 O ?_;exact zhq (.inr rfl) rfl (uwq hno)
    |some r=>
     obtain⟨l,rs⟩:=r;obtain⟨L,hL⟩:∃L,(doD tz.all x.ds).2++rs=L:=⟨_,rfl⟩
     have hrl:=vRq hst;have hdl:=vSq x.ds tz.all;simp only at hrl;have hLl:(L.map recI).length<=32:=by rw[List.length_map,<-hL,List.length_append];omega
     refine zjq 10 O ?_;refine uQq ?_;refine zjq 7 O ?_;first|refine ziq O O O O O O (Zfq c.tree _) ?_|refine ziq O O O O O O (Zfq c.tree x.root) ?_
     refine zaq 10 O ?_;refine zdq (w':=.bool false) O O (congrArg W.bool (eqI_not.2 Xd)) ?_;refine zaq 11 O ?_;first|refine qBq O O O O O O (Zfq c.tree _) ?_|refine qBq O O O O O O (Zfq c.tree x.root) ?_
     refine zxq 5 O ?_
     (refine yfq rfl (jhq O O O O O hP Xk ?_);rintro w hw hq;obtain⟨t',n',t1,hT,hgo,rfl⟩:=ap_some hq hst;refine⟨by first|rfl|kernel_rfl,?_⟩;have hiff:=nextS_some hA hst hT hgo.1 hX;rw[hL] at hiff⊢;rw[<-recI_w];generalize L.map recI=M at hiff hLl⊢)
     refine zxq 16 O ?_;refine zdq (w':=.bool false) O O (congrArg W.bool Xg) ?_;refine zaq 4 O ?_;refine op_dec rfl (xJq O O O O (eq_hd _ _)) (vGq ySq) (fun h1=>?_) (fun h1=>?_)
     ·have hno:¬SoundC c box:=fun q=>h1 (hiff.1 (snext q)).1
      refine zaq 24 O ?_;refine jXq Xj ?_;refine zCq 2 O ?_;exact zhq (.inr rfl) rfl (uwq hno)
     ·skip
      refine zaq 5 O ?_;refine ziq O O O O O O (seqr_s M x.rs false false Xd) ?_;refine xuq (fun h2=>?_) (fun h2=>?_)
      ·refine zaq 5 O ?_;refine ziq O O O O O O (calike_s hT.toIsT hX.toIsT) ?_;refine zaq 4 O ?_;refine zEq rfl (fun h3=>?_) (fun h3=>?_)
       ·have hno:¬SoundC c box:=fun q=>absurd h3 (by rw[decide_eq_true (hiff.1 (snext q)).2.2];decide)
        refine zgq 7 O ?_;refine jXq Xj ?_;refine zCq 2 O ?_;exact zhq (.inr rfl) rfl (uwq hno)
       ·have hN:NextS c box x z:=hiff.2 ⟨Classical.not_not.1 h1,h2,by simpa using h3⟩;refine zgq 2 O ?_;exact uPq (()) (goes ⟨fun h0=>absurd h0 Xd,fun w _ hw=>Option.some.inj (hz.symm.trans hw)▸hN⟩) Xd Xl rfl
      ·have hno:¬SoundC c box:=fun q=>h2 (hiff.1 (snext q)).2.1
       refine zaq 18 O ?_;refine jXq Xj ?_;refine zCq 2 O ?_;exact zhq (.inr rfl) rfl (uwq hno)
  ·have yes:SoundC c box:=⟨hm,fun j x hx=>hI j x (by have:=jHq hx;simpa using this) hx⟩;refine zCq 8 O ?_;exact zhq (.inr rfl) rfl (dec_t yes)
 ·skip
  refine zJq (fn:=Tryz.f73) O O O (Ob rfl) (fun R k0=>?_);refine zjq 11 O ?_;refine ziq O O O O O O (ynq (w':=.int .i64 8) (jCq c hc) (by rw[if_neg hm])) ?_;refine zdq (w':=.bool true) O O (congrArg W.bool Xg) ?_;refine zaq 10 O ?_;exact zhq (.inr rfl) rfl (uwq fun q=>hm q.toMayC)
end
section
attribute [local irreducible] CoW OpW FlW Step Spec
attribute [local simp] jWq
open Classical in
noncomputable def heldL(t:Tree):List Pr:=if h:∃n t0,IsA t n t0 then h.choose_spec.choose.all else []
theorem heldL_is{t:Tree}{n:Nat}{t0:T}(h:IsA t n t0):heldL t=t0.all:=by
 have e:∃n t0,IsA t n t0:=⟨n,t0,h⟩
 unfold heldL;rw[dif_pos e,(h.uniq e.choose_spec.choose_spec).2]
structure CanAdd(c:Ch)(ds:List Depo)(xs:List Tx)(box:Dig):Prop where
 may:MayC c
 short:c.links.length<256
 many:ds.length<=16/\xs.length<=16
 goes:doX box (doD (heldL c.tree) ds).1 xs≠none
noncomputable instance(c:Ch)(ds:List Depo)(xs:List Tx)(box:Dig):Decidable (CanAdd c ds xs box):=Classical.propDecidable _
noncomputable def addE(c:Ch)(ds:List Depo)(xs:List Tx)(box:Dig):Nat:=
 if¬MayC c then 8 else if 256<=c.links.length then 9 else if 16<ds.length\/16<xs.length then 4 else badX box (doD (heldL c.tree) ds).1 xs
theorem addE_no{c:Ch}{ds:List Depo}{xs:List Tx}{box:Dig}(h:¬CanAdd c ds xs box):addE c ds xs box≠0:=by
 unfold addE;split
 ·decide
 ·split
  ·decide
  ·split
   ·decide
   ·rename_i h1 h2 h3;have:doX box (doD (heldL c.tree) ds).1 xs=none:=Classical.byContradiction fun q=>h ⟨Classical.not_not.1 h1,by omega,by omega,q⟩
    have:=bad_no this;omega
def AddA(c:Ch)(ds:List Depo)(xs:List Tx)(box:Dig):W->Prop:=fun w=>
 (CanAdd c ds xs box/\∃y t' t1 L,Adds c ds xs box y t' t1 L/\t'.nodes.length<=c.tree.nodes.length+21000/\w= .tup [chG (addC c t' (jIq y.hdr t1 L) ds xs L),.int .i64 0])\/(¬CanAdd c ds xs box/\w= .tup [noCh,.int .i64 (addE c ds xs box:Nat)])
noncomputable def addX(t':Tree)(h:Hdr)(ds:List Depo)(xs:List Tx)(L:List Rec):W:=.agg 102 [hdW h,.int .i64 t'.root,bodW ds xs false false,.fz (L.map recW) 34 false]
theorem addX_l(t':Tree)(h:Hdr)(ds:List Depo)(xs:List Tx)(L:List Rec):addX t' h ds xs L=lkG (addL t' h ds xs L):=by
 show addX t' h ds xs L= .agg 102 [hdW h,.int .i64 t'.root,bodW ds xs false false,.fz ((L.map recI).map rcW) 34 false];rw[recI_w];rfl
theorem cadd_s(c:Ch)(hc:OkC c)(hs:SmallC c)(hn:c.tree.nodes.length<=200000)(ds:List Depo)(xs:List Tx)(hB:BodOk ds xs)(box:Dig):PE cfg glK 58 [chG c,bodW ds xs false false,dW box] (AddA c ds xs box):=by
 have e:(c.links.map lkG).length=c.links.length:=List.length_map _;have refuse:∀k:Nat,¬CanAdd c ds xs box->addE c ds xs box=k->∀w,w=W.tup [noCh,.int .i64 (k:Int)] ->AddA c ds xs box w:=fun k h1 h2 w h3=>.inr ⟨h1,by rw[h2];exact h3⟩
 by_cases hm:MayC c
 ·obtain⟨y,hy,hroot,hmy⟩:=hm.last;have hno:=hm.one;by_cases hf:c.links.length<256
  ·obtain⟨n,t0,hA,_⟩:=hm.head hy;have hh:=heldL_is hA;have hhy:=hmy.height;have hbk:MayBk c.tree y.hdr:=⟨⟨n,t0,hA⟩,hmy.hdr,by omega⟩;by_cases hmany:ds.length<=16/\xs.length<=16
   ·have hP:=apply_s c.tree n t0 hA y.hdr hmy.hdr Xd ds xs false false hB.dep hB.tx box hmany Xd;cases hst:doX box (doD t0.all ds).1 xs with
    |none=>
     have hb:=bad_no hst;have hP:=pe_mono hP fun w h=>ap_none h hst
     refine jGq (fn:=Tryz.f58) O O O (Ob rfl) (fun R k0=>?_);refine zjq 12 O ?_;refine ziq O O O O O O (uAq c hc hm hy) ?_;refine zaq 13 O ?_;refine zdq (w':=.bool false) O O (congrArg W.bool Xg) ?_;refine zaq 8 O ?_;refine zdq (w':=.int .i64 ((c.links.length:Nat):Int)) O O Xv ?_;refine zdq (w':=.bool false) O O (congrArg W.bool (eqI_not.2 Xd)) ?_;refine zaq 14 O ?_
     (refine zqq rfl (jhq O O O O O (hP) Xk ?_);rintro w hw rfl)
     refine zaq 17 O ?_;refine zdq (w':=.bool true) O O (congrArg (fun b=>W.bool (!b)) (eqI_not.2 Xd)) ?_;refine zaq 13 O ?_;exact qmq (w':=.tup [noCh,.int .i64 (badX box (doD t0.all ds).1 xs:Nat)]) (.inr rfl) rfl (.pur rfl) rfl (refuse _ (fun q=>q.goes (by rw[hh,hst])) (by unfold addE;rw[if_neg (fun q=>q hm),if_neg Xd,if_neg Xd,hh]) _ rfl)
    |some r=>
     obtain⟨l,rs⟩:=r;obtain⟨L,hL⟩:∃L,(doD t0.all ds).2++rs=L:=⟨_,rfl⟩
     have hrl:=vRq hst;have hdl:=vSq ds t0.all;simp only at hrl;have hLl:L.length<=32:=by rw[<-hL,List.length_append];omega
     have hca:CanAdd c ds xs box:=⟨hm,hf,hmany,by rw[hh,hst];intro q;cases q⟩;refine jGq (fn:=Tryz.f58) O O O (Ob rfl) (fun R k0=>?_);refine zjq 12 O ?_;refine ziq O O O O O O (uAq c hc hm hy) ?_;refine zaq 13 O ?_;refine zdq (w':=.bool false) O O (congrArg W.bool Xg) ?_;refine zaq 8 O ?_;refine zdq (w':=.int .i64 ((c.links.length:Nat):Int)) O O Xv ?_;refine zdq (w':=.bool false) O O (congrArg W.bool (eqI_not.2 Xd)) ?_;refine zaq 14 O ?_;skip
     refine zqq rfl (jhq O O O O O hP Xk ?_);rintro w hw hq;obtain⟨t',n',t1,hT,hgo,rfl⟩:=ap_some hq hst;rw[hL];have hadd:Adds c ds xs box y t' t1 L:=⟨hm,hf,hy,hmany,⟨n,t0,n',rs,hA,hT,by rw[hst,hgo.1],hL.symm⟩,by obtain⟨ms,e1,_⟩:=hgo.2;exact⟨ms,e1⟩⟩;have hgrow:t'.nodes.length<=c.tree.nodes.length+21000:=by obtain⟨ms,e1,e2⟩:=hgo.2;rw[e1,List.length_append];omega
     have hz:=addX_l t' (jIq y.hdr t1 L) ds xs L;have ep:purL (c.links.map lkG++[addX t' (jIq y.hdr t1 L) ds xs L])=true:=by rw[hz];exact k6q (c.links++[addL t' (jIq y.hdr t1 L) ds xs L])▸by rw[List.map_append];rfl
     skip
     refine zaq 17 O ?_;refine zdq (w':=.bool false) O O (congrArg W.bool Xg) ?_;refine zaq 8 O ?_
     (refine zqq rfl (step_twin c hs (fun q=>by rw[q] at hno;cases hno) O O O O ?_))
     refine zaq 12 O ?_;refine ziq O O O O O (by rw[<-hz];rfl) (clink_s (addL t' (jIq y.hdr t1 L) ds xs L) ⟨by show ds.length<=_;omega,by show xs.length<=_;omega,by show(L.map recI).length<=_;rw[List.length_map];omega⟩) ?_;rw[<-hz]
     refine zaq 11 O ?_;refine y0q rfl (qrq O O (qKq (k:=ti132) (len:=c.links.length) (news:=[addX t' (jIq y.hdr t1 L) ds xs L]) (olds:=c.links.map lkG) O O O O (jqq O O O O) Xk (by show(c.links.length+1)*192<=_;omega) (by show c.links.length+1<=_;omega) rfl (by show c.links.length*102<0+(c.links.length+1)*102;omega) rfl (zBq Xr e.symm rfl))) Xu ?_;refine zxq 14 O ?_;have hmap:(c.links++[addL t' (jIq y.hdr t1 L) ds xs L]).map lkG=c.links.map lkG++[addX t' (jIq y.hdr t1 L) ds xs L]:=by rw[List.map_append,hz];rfl
     exact qmq (w':=.tup [.agg 3 [tW t',.fz (c.links.map lkG++[addX t' (jIq y.hdr t1 L) ds xs L]) 102 false],.int .i64 0]) (.inr rfl) rfl (.tup (.cons (.agg (.cons (.pur (qlq t')) (.cons (.sl (full:=false) rfl ep (zBq Xr Xk rfl) Xj) .nil))) (.cons (.pur rfl) .nil))) (by show((purW (tW t')&&(purL _&&true))&&_)=true;rw[qlq,ep];rfl) (.inl ⟨hca,y,t',t1,L,hadd,hgrow,by rw[<-hmap];rfl⟩)
   ·have hpr:purW (refW 4)=true:=by
     show(purW noT&&(purW (hdW hdZ)&&(true&&(true&&true))))=true;rw[Yfq];rfl
    refine jGq (fn:=Tryz.f58) O O O (Ob rfl) (fun R k0=>?_);refine zjq 12 O ?_;refine ziq O O O O O O (uAq c hc hm hy) ?_;refine zaq 13 O ?_;refine zdq (w':=.bool false) O O (congrArg W.bool Xg) ?_;refine zaq 8 O ?_;refine zdq (w':=.int .i64 ((c.links.length:Nat):Int)) O O Xv ?_;refine zdq (w':=.bool false) O O (congrArg W.bool (eqI_not.2 Xd)) ?_;refine zaq 14 O ?_;refine ziq O O O O O O (apply_many c.tree y.hdr ds xs false false box Xd hbk Xd) ?_;refine zaq 17 O ?_;refine zdq (w':=.bool true) O O (congrArg W.bool Xg) ?_;refine zaq 13 O ?_;exact qmq (w':=.tup [noCh,.int .i64 (4:Nat)]) (.inr rfl) rfl (.pur rfl) rfl (refuse 4 (fun q=>hmany q.many) (by unfold addE;rw[if_neg (fun q=>q hm),if_neg Xd,if_pos Xd]) _ rfl)
  ·have h256:=hm.len;refine jGq (fn:=Tryz.f58) O O O (Ob rfl) (fun R k0=>?_);refine zjq 12 O ?_;refine ziq O O O O O O (uAq c hc hm hy) ?_;refine zaq 13 O ?_;refine zdq (w':=.bool false) O O (congrArg W.bool Xg) ?_;refine zaq 8 O ?_;refine zdq (w':=.int .i64 ((c.links.length:Nat):Int)) O O Xv ?_;refine zdq (w':=.bool true) O O (congrArg W.bool (eqI_iff.2 Xd)) ?_;refine zaq 14 O ?_;exact qmq (w':=.tup [noCh,.int .i64 (9:Nat)]) (.inr rfl) rfl (.pur rfl) rfl (refuse 9 (fun q=>hf q.short) (by unfold addE;rw[if_neg (fun q=>q hm),if_pos Xd]) _ rfl)
 ·skip
  refine jGq (fn:=Tryz.f58) O O O (Ob rfl) (fun R k0=>?_);refine zjq 12 O ?_;refine ziq O O O O O O (chead_no c hc hm) ?_;refine zaq 13 O ?_;refine zdq (w':=.bool true) O O (congrArg W.bool Xg) ?_;refine zaq 15 O ?_;exact qmq (w':=.tup [noCh,.int .i64 (8:Nat)]) (.inr rfl) rfl (.pur rfl) rfl (refuse 8 (fun q=>hm q.may) (by unfold addE;rw[if_pos hm]) _ rfl)
end
noncomputable def fz{α:Type}(n:Nat)(c:Nat->α):α:=Nat.rec (c 0) (fun m _=>c (Nat.succ m)) n
noncomputable def wS(bs:Nat->Nat)(i:Nat):Nat:=(qEq bs (i+1)).getD i 0
section
attribute [local irreducible] CoW OpW FlW Step Spec
variable {G:Nat->Option W}
def HeldB(ps:List Pr):Prop:=∀p∈ps,(jEq p.2).2=0
noncomputable instance(ps:List Pr):Decidable (HeldB ps):=Classical.propDecidable _
theorem mayA_iff{t:Tree}{n:Nat}{t0:T}(h:IsT t n t0):MayA t↔HeldB t0.all:=by
 constructor
 ·rintro⟨n',t',h'⟩;have hn:n=n':=by have:=h.root;have:=h'.root;omega
  subst hn;rw[h.rep.uniq h'.rep];exact h'.held
 ·exact fun q=>⟨n,t0,h,q⟩
end
section
attribute [local irreducible] CoW OpW FlW Step Spec
variable {G:Nat->Option W}
theorem mayp_srt{l:List Pr}(h:MayP l):Srt l:=by
 have key:∀n i j (hi:i<l.length) (hj:j<l.length),i+n+1=j->yYq l[i].1 l[j].1=true:=by
  intro n;induction n with
  |zero=>
   intro i j hi hj e;subst e;exact(h.2 (i+1) hj l[i+1] (List.getElem?_eq_getElem hj)).2 l[i] Xd (by show l[i+1-1]? =_;rw[Nat.add_sub_cancel];exact List.getElem?_eq_getElem hi)
  |succ n ih=>
   intro i j hi hj e;have h1:=ih i (j-1) hi Xd Xd;have h2:=(h.2 j hj l[j] (List.getElem?_eq_getElem hj)).2 l[j-1] Xd (List.getElem?_eq_getElem Xd);exact YPq h1 h2
 exact List.pairwise_iff_getElem.2 fun i j hi hj hij=>key (j-i-1) i j hi hj Xd
theorem take_with{l:List Pr}(h:Srt l){i:Nat}{x:Pr}(hx:l[i]? =some x):xmq (l.take i) x.1 x.2=l.take (i+1):=by
 obtain⟨hi,ex⟩:=List.getElem?_eq_some_iff.1 hx
 have hp:∀p∈l.take i,yYq p.1 x.1=true:=fun p hp=>by
  obtain⟨j,hj⟩:=List.getElem?_of_mem hp;obtain⟨hj1,hj2⟩:=List.getElem?_eq_some_iff.1 hj;rw[List.length_take] at hj1;rw[List.getElem_take] at hj2;rw[<-hj2,<-ex];exact List.pairwise_iff_getElem.1 h j i Xd hi Xd
 unfold xmq;rw[List.filter_eq_self.2 hp,List.filter_eq_nil_iff.2 fun p q=>by rw[kiq (hp p q)];simp,List.take_add_one,hx];rfl
def okB(l:List Pr):Prop:=MayP l/\HeldB l
noncomputable instance(l:List Pr):Decidable (okB l):=Classical.propDecidable _
end
section
attribute [local irreducible] CoW OpW FlW Step Spec
noncomputable def newL(t:Tree)(t0:T):Lk:=⟨firH t0,t.root,[],[],[]⟩
noncomputable abbrev newX(t:Tree)(t0:T):W:=.agg 102 [hdW (firH t0),.int .i64 t.root,.agg 2 [.fz [] 34 false,.fz [] 99 false],.fz [] 34 false]
noncomputable def newC(t:Tree)(t0:T):Ch:=⟨t,[newL t t0]⟩
def ChNA(l:List Pr):W->Prop:=fun w=>(¬okB l/\w= .tup [noCh,.int .i64 8])\/(okB l/\∃t n t0,IsA t n t0/\t0.all=l/\t.nodes.length<=257*l.length/\w= .tup [chG (newC t t0),.int .i64 0])
theorem cnew_s(l:List Pr)(f:Bool)(hb:l.length<=1000000000):PE cfg glK 56 [.fz (l.map pW) 33 f] (ChNA l):=by
 by_cases hm:MayP l
 ·have hs:=mayp_srt hm;have e:(l.map pW).length=l.length:=List.length_map _;have h512:=hm.1;refine jGq (fn:=Tryz.f56) O O O (Ob rfl) (fun R k0=>?_);refine zjq 10 O ?_;refine ziq O O O O O O (ynq (w':=.int .i64 0) (Q2q l f Xd) Yw) ?_;refine zaq 21 O ?_;refine zdq (w':=.int .i64 (l.length:Int)) O O Xv ?_;refine zaq 4 O ?_;refine co_ent (ent_blkv (b:=1) (w':=tW ⟨[],0⟩) rfl (.agg (.cons .nilfz (.cons (.pur rfl) .nil)))) ?_;refine Jvq (α:=Nat×Tree×T) (fun p=>p.1<=l.length/\(∃n,IsT p.2.1 n p.2.2)/\p.2.2.all=l.take p.1/\p.2.1.nodes.length<=257*p.1) (fun p=>[(22,.int .i64 (p.1:Int))]) [(2,_),(3,_),(5,_),(20,_),(21,_)] (fun p=>[(1,24,tW p.2.1),(0,70,noCh)]) (fun p=>l.length-p.1) ((0,⟨[],0⟩,.nil)) ⟨rfl,rfl,rfl,rfl,rfl,trivial⟩ (⟨Nat.zero_le _,⟨0,by show(0:Nat)<=_;omega,fun i x h=>by simp at h,rfl,.nil,rfl⟩,rfl,Nat.le_refl _⟩) ⟨rfl,trivial⟩ (rfl) (fun p hI=>?_);obtain⟨i,t,t0⟩:=p;obtain⟨g1,⟨n,g2⟩,g3,g4⟩:=hI;simp only at g1 g2 g3 g4⊢;refine zjq 6 O ?_;refine zEq rfl (fun h1=>?_) (fun h1=>?_)
  ·have hi:i<l.length:=by omega
   obtain⟨x,hx⟩:∃x,l[i]? =some x:=⟨_,List.getElem?_eq_getElem hi⟩
   have hv:MayP [(x.1,x.2)]:=(mayp_val x.1 x.2).2 (hm.2 i hi x hx).1;refine zgq 6 O ?_;refine zbq rfl (zDq (i:=i) O O O O O O O (yoq pW hx)) ?_;refine zaq 12 O ?_
   (refine zqq rfl (jhq O O O O O (tput_s t n t0 x.1 x.2 false g2 hv Xd) Xk ?_);rintro w hw ⟨t',n',ht',⟨ms,hms,hml⟩,rfl⟩)
   refine zaq 12 O ?_;refine zdq (w':=.bool false) O O (congrArg W.bool Xg) ?_;refine zaq 12 O ?_;refine ztq (i+1) O O Xm ⟨by omega,by omega⟩ ?_;refine qdq 2 O ?_;have hall:(t0.put x.1 x.2 256).all=l.take (i+1):=by rw[(jYq x.1 x.2 256 t0 (d:=0) (b:=jnq) rfl jOq g2.ok (Nat.zero_le _)).2,g3];exact take_with hs hx
   exact q_againH ((i+1,t',t0.put x.1 x.2 256)) (⟨hi,⟨n',ht'⟩,hall,by show t'.nodes.length<=_;rw[hms,List.length_append];omega⟩) Yh (Nat.zero_le _) ⟨rfl,trivial⟩ ⟨rfl,rfl,rfl,rfl,rfl,trivial⟩ Xh Xh Xd Xq Yj
  ·have hi:i=l.length:=by omega
   have hall:t0.all=l:=by rw[g3,hi,List.take_length]
   have hiff:=mayA_iff g2;rw[hall] at hiff;by_cases hh:HeldB l
   ·skip
    have hA:MayA t:=hiff.2 hh;obtain⟨n2,t2,hA2⟩:=hA;refine zgq 2 O ?_;refine jaq Xj ?_;refine zCq 6 O ?_;refine ziq O O O O O O (ynq (w':=.int .i64 0) (qzq t Xd) (by rw[if_pos ⟨n2,t2,hA2⟩])) ?_;refine zaq 6 O ?_;refine zdq (w':=.bool false) O O (congrArg W.bool Xg) ?_;refine zaq 8 O ?_;refine ziq O O O O O O (tsum_ok t n t0 g2) ?_;refine zaq 11 O ?_;refine qBq O O O O O O ubq ?_;refine qQq (w':=hdW (firH t0)) O O (by show W.agg 98 [_,W.arr 32 1 (List.replicate 32 (.int .u8 (.ofNat 0))),_,_,_]=_;rw[xbq];rfl) ?_;refine zxq 18 O ?_;refine qmq (w':=.tup [.agg 3 [tW t,.fz [newX t t0] 102 false],.int .i64 0]) (.inr rfl) rfl (.tup (.cons (.agg (.cons (.pur Xk) (.cons (.sl2 (full:=false) (c':=newX t t0) (xs:=[newX t t0]) rfl (.agg (.cons (.pur (Yfq _)) (.cons (.pur rfl) (.cons (.agg (.cons .nilfz (.cons .nilfz .nil))) (.cons .nilfz .nil))))) rfl Xj) .nil))) (.cons (.pur rfl) .nil))) (by simp[purW,purL]) (.inr ⟨⟨hm,hh⟩,t,n,t0,?_,hall,by rw[<-hi];exact g4,rfl⟩);exact⟨g2,by rw[hall];exact hh⟩
   ·refine zgq 2 O ?_;refine jaq Xj ?_;refine zCq 6 O ?_;refine ziq O O O O O O (ynq (w':=.int .i64 8) (qzq t Xd) (by rw[if_neg (fun q=>hh (hiff.1 q))])) ?_;refine zaq 6 O ?_;refine zdq (w':=.bool true) O O (congrArg W.bool Xg) ?_;refine zaq 13 O ?_;exact qmq (w':=.tup [noCh,.int .i64 8]) (.inr rfl) rfl (.pur rfl) rfl (.inl ⟨fun q=>hh q.2,rfl⟩)
 ·skip
  refine jGq (fn:=Tryz.f56) O O O (Ob rfl) (fun R k0=>?_);refine zjq 10 O ?_;refine ziq O O O O O O (ynq (w':=.int .i64 8) (Q2q l f Xd) (by rw[if_neg hm])) ?_;refine zaq 20 O ?_;exact qmq (w':=.tup [noCh,.int .i64 8]) (.inr rfl) rfl (.pur rfl) rfl (.inl ⟨fun q=>hm q.1,rfl⟩)
theorem newC_is{t:Tree}{n:Nat}{t0:T}(h:IsA t n t0)(box:Dig):SoundC (newC t t0) box:=by
 refine⟨⟨by simp[newC],by simp[newC],fun x e=>by cases e;rfl,fun i x e=>?_⟩,fun i x e=>?_⟩
 ·have hi:=jHq e;obtain rfl:i=0:=by simp[newC] at hi;exact hi
  cases e;exact⟨rfl,⟨by show(0:Int)<=0;decide,by show(0:Int)<=1073741824;decide,by show(0:Int)<=0;decide,by show(0:Int)<=256;decide⟩,fun y h0=>absurd h0 Xr,rfl,⟨Nat.zero_le _,Nat.zero_le _,fun x h=>by cases h⟩,n,t0,h⟩
 ·have hi:=jHq e;obtain rfl:i=0:=by simp[newC] at hi;exact hi
  cases e;exact LkS.of0 ⟨n,t0,h,rfl,rfl,rfl⟩
end
section
attribute [local irreducible] CoW OpW FlW Step Spec
section
variable {c:Ch} {ds:List Depo} {xs:List Tx} {box:Dig} {y:Lk} {t':Tree} {t1:T} {L:List Rec}
theorem Adds.tree(h:Adds c ds xs box y t' t1 L):∃n,IsA t' n t1:=by
 obtain⟨n,t0,n1,rs,h1,h2,_⟩:=h.is;exact⟨n1,h2⟩
theorem Adds.few(h:Adds c ds xs box y t' t1 L):L.length<=32:=by
 obtain⟨n,t0,n1,rs,h1,h2,h3,rfl⟩:=h.is;have e1:=vRq h3;simp only at e1;have:=vSq ds t0.all;have:=h.many;rw[List.length_append];omega
theorem Adds.okc(h:Adds c ds xs box y t' t1 L)(hc:OkC c)(hB:BodOk ds xs)(g:Hdr):OkC (addC c t' g ds xs L):=by
 obtain⟨n,hT⟩:=h.tree;have hl:=hT.len;have hs:=h.short;have hf:=h.few;refine⟨fun x hx=>?_,by show t'.nodes.length<=_;omega,by show(c.links++[_]).length<=_;rw[List.length_append];show _+1<=_;omega,fun x hx=>?_⟩
 ·rcases List.mem_append.1 hx with q|q
  ·exact hc.body x q
  ·rw[List.mem_singleton.1 q];exact hB
 ·rcases List.mem_append.1 hx with q|q
  ·exact hc.recs x q
  ·rw[List.mem_singleton.1 q];show(L.map recI).length<=_;rw[List.length_map];omega
theorem Adds.smallc(h:Adds c ds xs box y t' t1 L)(hs:SmallC c)(g:Hdr):SmallC (addC c t' g ds xs L):=by
 obtain⟨n,hT⟩:=h.tree;have hl:=hT.len;have hsh:=h.short;have hf:=h.few;have hm:=h.many;refine⟨by show t'.nodes.length<=_;omega,IsT.vals (root:=t'.root) hT.toIsT,by show(c.links++[_]).length<=_;rw[List.length_append];show _+1<=_;omega,fun x hx=>?_⟩;rcases List.mem_append.1 hx with q|q
 ·exact hs.link x q
 ·rw[List.mem_singleton.1 q];refine⟨by show ds.length<=_;omega,by show xs.length<=_;omega,?_⟩;show(L.map recI).length<=_;rw[List.length_map];omega
end
theorem OkC.cut{c:Ch}(hc:OkC c)(i:Nat)(x:Lk):OkC (cutC c i x):=
 ⟨fun y hy=>hc.body y (List.mem_of_mem_take hy),hc.nodes,by have:=hc.len;show(c.links.take _).length<=_;rw[List.length_take];omega,fun y hy=>hc.recs y (List.mem_of_mem_take hy)⟩
theorem greatc_small{c:Ch}{n:Nat}(hn:n<=1000)(h:¬QIq c n):SmallC c:=by
 obtain⟨h1,h2,h3⟩:=greatc_no h;refine⟨by omega,fun x hx=>?_,by omega,fun x hx=>?_⟩
 ·obtain⟨j,hj⟩:=List.getElem?_of_mem hx;have:=jHq hj;refine Nat.le_of_not_lt fun q=>h (.inl (.inr ⟨j,x,by omega,hj,by omega⟩))
 ·obtain⟨k1,k2⟩:=h3 x hx;unfold yRq at k1;omega
theorem newC_ok{t:Tree}{n:Nat}{t0:T}(h:IsA t n t0):OkC (newC t t0)/\SmallC (newC t t0):=by
 have hl:=h.len;refine⟨⟨fun x hx=>?_,by show t.nodes.length<=_;omega,by show 1<=_;decide,fun x hx=>?_⟩,⟨by show t.nodes.length<=_;omega,IsT.vals (root:=t.root) h.toIsT,by show 1<=_;decide,fun x hx=>?_⟩⟩;all_goals rw[List.mem_singleton.1 hx]
 ·exact⟨(fun d h=>by cases h),(fun d h=>by cases h),Nat.zero_le _,Nat.zero_le _⟩
 ·exact Nat.zero_le _
 ·exact⟨Nat.zero_le _,Nat.zero_le _,Nat.zero_le _⟩
theorem okB_nil:okB []:=⟨⟨by decide,fun i hi x h=>by cases h⟩,fun p h=>by cases h⟩
theorem bodN:BodOk [] []:=⟨(fun d h=>by cases h),(fun d h=>by cases h),Nat.zero_le _,Nat.zero_le _⟩
theorem voq:PS cfg glK 63 [] (.bool true):=by
 refine zJq (fn:=Tryz.f63) O O O (Ob rfl) (fun R k0=>?_);refine zjq 7 O ?_;skip
 refine zqq rfl (jhq O O O O O (pe_view (.cons .nilfz .nil) (cnew_s [] false Xr)) O ?_);rintro w hw (⟨hn,rfl⟩|⟨_,t,n,t0,hA,hall,hn0,rfl⟩)
 ·exact absurd okB_nil hn
 obtain rfl:t0= .nil:=T.uniq jOq hA.toIsT.ok rfl hall;have hl:t.nodes.length<=257*0:=hn0;obtain⟨hok,hsm⟩:=newC_ok hA;have hM:=newC_is hA jnq;have hca:CanAdd (newC t .nil) [] [] jnq:=⟨hM.toMayC,by show 1<256;decide,by decide,by intro q;cases q⟩;skip
 refine zaq 11 O ?_;refine ziq O O O O O O (uAq (newC t .nil) hok hM.toMayC (y:=newL t .nil) rfl) ?_;refine zaq 12 O ?_;refine zdq O O xbq ?_;skip
 refine zqq rfl (jhq O O O O O (pe_view (.cons (.pur (chG_pur _)) (.cons (.agg (.cons .nilfz (.cons .nilfz .nil))) (.cons (.pur (krq _)) .nil))) (cadd_s (newC t .nil) hok hsm (by show t.nodes.length<=_;omega) [] [] bodN jnq)) (by simp[purL,purW]) ?_);rintro w hw (⟨_,y,t',t1,L,hadd,_,rfl⟩|⟨hno,_⟩)
 ·obtain rfl:y=newL t .nil:=by have:=hadd.last;cases this;rfl
  have hok2:=hadd.okc hok bodN (jIq (newL t .nil).hdr t1 L);have hsm2:=hadd.smallc hsm (jIq (newL t .nil).hdr t1 L);have hM2:=hadd.mayc;have hM3:=hM2.cut (h:=0) (x:=newL t .nil) rfl;skip
  refine zaq 11 O ?_;refine ziq O O O O O O (uAq _ hok2 hM2 (y:=addL t' (jIq (newL t .nil).hdr t1 L) [] [] L) rfl) ?_;refine zaq 11 O ?_;refine ziq O O O O O O (ccut_s _ hok2 hsm2 0 hM2 (x:=newL t .nil) rfl) ?_;refine zaq 11 O ?_;refine ziq O O O O O O (uAq _ (hok2.cut 0 _) hM3 (y:=newL t .nil) rfl) ?_;refine zaq 11 O ?_;refine qQq (w':=.bool true) O O (congrArg W.bool Xg) ?_;refine zxq 2 O ?_;refine qQq (w':=.bool true) O O (congrArg W.bool Xg) ?_;refine zxq 3 O ?_;refine qBq O O O O O O (ubq) ?_;refine qBq O O O O O O (ubq) ?_;refine qQq (w':=hdW (firH .nil)) O O (firH_b .nil) (qQq (w':=.bool true) rfl (qwq O O O O (eq_hd (firH .nil) (firH .nil))) (by rw[decide_eq_true rfl]) ?_);refine zxq 3 O ?_;refine qQq (w':=.bool true) O O (congrArg W.bool Xg) ?_;refine zxq 3 O ?_;refine qQq (w':=.bool true) O O (congrArg W.bool Xg) ?_;refine zxq 4 O ?_;refine qQq (w':=.bool true) O O (congrArg W.bool Xg) ?_;refine zxq 3 O ?_;refine qQq (w':=.bool true) O O (congrArg W.bool Xg) ?_;refine zxq 3 O ?_;refine qQq (w':=.bool true) O O (congrArg W.bool Xg) ?_;refine zxq 4 O ?_;refine qQq (w':=.bool true) rfl (qwq O O O O (eq_hd (firH .nil) (firH .nil))) (by rw[decide_eq_true rfl]) ?_;refine zxq 5 O ?_;exact zhq (.inr rfl) O O
 ·exact absurd hca hno
end
section
attribute [local irreducible] CoW OpW FlW Step Spec
theorem sound17_s(c:Ch)(hc:OkC c)(ds:List Depo)(xs:List Tx)(hB:BodOk ds xs)(box:Dig)(h:Int)(hh:-9223372036854775808<=h/\h<=9223372036854775807):PS cfg glK 11 [chG c,bodW ds xs false false,dW box,.int .i64 h] (.bool true):=by
 have e:(c.links.map lkG).length=c.links.length:=List.length_map _;by_cases hg:QIq c 5
 ·skip
  refine zJq (fn:=Tryz.f11) O O O (Ob rfl) (fun R k0=>?_);refine zjq 10 O ?_;refine ziq O O O O O O (voq) ?_;refine zaq 7 O ?_;refine ziq O O O O O O (ynq (w':=.bool true) (Zuq c 5 hc.nodes hc.len) (by rw[decide_eq_true (hg)])) ?_;refine zaq 25 O ?_;exact zhq (.inr rfl) O O
 by_cases hk:yRq ds xs
 ·skip
  refine zJq (fn:=Tryz.f11) O O O (Ob rfl) (fun R k0=>?_);refine zjq 10 O ?_;refine ziq O O O O O O (voq) ?_;refine zaq 7 O ?_;refine ziq O O O O O O (ynq (w':=.bool false) (Zuq c 5 hc.nodes hc.len) Qj) ?_;refine zaq 2 O ?_;refine ziq O O O O O O (ynq (w':=.bool true) (u9q ds xs false false) (by rw[decide_eq_true (hk)])) ?_;refine zaq 22 O ?_;exact zhq (.inr rfl) O O
 obtain⟨g1,g2,g3⟩:=greatc_no hg;have hs:=greatc_small Xr hg;by_cases hS:SoundC c box
 ·have hM:=hS.toMayC;have hone:=hM.one;refine zJq (fn:=Tryz.f11) O O O (Ob rfl) (fun R k0=>?_);refine zjq 10 O ?_;refine ziq O O O O O O (voq) ?_;refine zaq 7 O ?_;refine ziq O O O O O O (ynq (w':=.bool false) (Zuq c 5 hc.nodes hc.len) Qj) ?_;refine zaq 2 O ?_;refine ziq O O O O O O (ynq (w':=.bool false) (u9q ds xs false false) (by rw[decide_eq_false (hk)])) ?_;refine zaq 4 O ?_;refine ziq O O O O O O (ynq (w':=.bool true) (xcq c hc Xd box) (by rw[decide_eq_true (hS)])) ?_;refine zaq 16 O ?_;skip
  refine zqq rfl (jhq O O O O O (cadd_s c hc hs Xd ds xs hB box) (by simp[purL]) ?_);rintro w hw (⟨hca,y,t',t1,L,hadd,hgr,rfl⟩|⟨hno,rfl⟩)
  ·have hok2:=hadd.okc hc hB (jIq y.hdr t1 L);have hn2:t'.nodes.length<=200000:=by omega
   have e3:((c.links++[addL t' (jIq y.hdr t1 L) ds xs L]).map lkG).length=c.links.length+1:=by simp
   skip
   skip
   refine zaq 12 O ?_;skip
   skip
   by_cases h0:h<0
   ·skip
    refine ziq O O O O O O (ZCq c hc h hM (.inl h0)) ?_;refine zaq 12 O ?_;refine zdq (w':=.bool true) O O (congrArg W.bool Xg) ?_;refine zaq 3 O ?_;refine ziq O O O O O O (ynq (w':=.bool true) (xcq _ hok2 hn2 box) Qk) ?_;refine zaq 4 O ?_;refine zdq (w':=.int .i64 ((c.links.length+1:Nat):Int)) O O (by rw[<-e3];rfl) ?_;refine zaq 2 O ?_;refine zdq (w':=.int .i64 ((c.links.length:Nat):Int)) O O Xv ?_;refine ztq (c.links.length+1) O O Xm ⟨by omega,by omega⟩ ?_;refine zdq (w':=.bool false) O O (congrArg (fun b=>W.bool (!b)) (eqI_iff.2 (rfl))) ?_;refine zaq 4 O ?_;refine zdq (w':=.bool false) O O (congrArg W.bool Xg) ?_;refine zaq 25 O ?_;refine yDq O O ?_;refine zbq O O (zdq (w':=.bool false) O O (congrArg (fun b=>W.bool (!b)) (ltI_iff.2 (h0))) ?_);refine zaq 7 O ?_;refine yDq O O ?_;refine zaq 5 O ?_;exact zhq (.inr rfl) O O
   by_cases h1:(c.links.length:Int)<=h
   ·skip
    refine ziq O O O O O O (ZCq c hc h hM (.inr h1)) ?_;refine zaq 12 O ?_;refine zdq (w':=.bool true) O O (congrArg W.bool Xg) ?_;refine zaq 3 O ?_;refine ziq O O O O O O (ynq (w':=.bool true) (xcq _ hok2 hn2 box) Qk) ?_;refine zaq 4 O ?_;refine zdq (w':=.int .i64 ((c.links.length+1:Nat):Int)) O O (by rw[<-e3];rfl) ?_;refine zaq 2 O ?_;refine zdq (w':=.int .i64 ((c.links.length:Nat):Int)) O O Xv ?_;refine ztq (c.links.length+1) O O Xm ⟨by omega,by omega⟩ ?_;refine zdq (w':=.bool false) O O (congrArg (fun b=>W.bool (!b)) (eqI_iff.2 (rfl))) ?_;refine zaq 4 O ?_;refine zdq (w':=.bool false) O O (congrArg W.bool Xg) ?_;refine zaq 25 O ?_;refine yDq O O ?_;refine zbq O O (zdq (w':=.bool true) O O (congrArg (fun b=>W.bool (!b)) (ltI_not.2 Xd)) ?_);refine zaq 4 O ?_;refine zdq (w':=.int .i64 ((c.links.length:Nat):Int)) O O Xv ?_;refine zdq (w':=.bool false) O O (congrArg W.bool (ltI_not.2 Xd)) ?_;refine zbq O O (yDq O O ?_);refine zaq 5 O ?_;exact zhq (.inr rfl) O O
   obtain⟨i,rfl⟩:=Int.eq_ofNat_of_zero_le (show 0<=h by omega);obtain⟨x,hx⟩:∃x,c.links[i]? =some x:=⟨_,List.getElem?_eq_getElem Xd⟩
   have e4:((c.links.take (i+1)).map lkG).length=i+1:=by rw[List.length_map];exact cutl_len hx
   refine ziq O O O O O O (ccut_s c hc hs i hM hx) ?_;refine zaq 12 O ?_;refine zdq (w':=.bool true) O O (congrArg W.bool Xg) ?_;refine zaq 3 O ?_;refine ziq O O O O O O (ynq (w':=.bool true) (xcq _ hok2 hn2 box) Qk) ?_;refine zaq 4 O ?_;refine zdq (w':=.int .i64 ((c.links.length+1:Nat):Int)) O O (by rw[<-e3];rfl) ?_;refine zaq 2 O ?_;refine zdq (w':=.int .i64 ((c.links.length:Nat):Int)) O O Xv ?_;refine ztq (c.links.length+1) O O Xm ⟨by omega,by omega⟩ ?_;refine zdq (w':=.bool false) O O (congrArg (fun b=>W.bool (!b)) (eqI_iff.2 (rfl))) ?_;refine zaq 4 O ?_;refine zdq (w':=.bool true) O O (congrArg W.bool Xg) ?_;refine zaq 3 O ?_;refine ziq O O O O O O (ynq (w':=.bool true) (xcq (cutC c i x) (hc.cut i x) (by show c.tree.nodes.length<=_;omega) box) (by rw[decide_eq_true (hS.cut hx)])) ?_;refine zaq 4 O ?_;refine zdq (w':=.int .i64 ((i+1:Nat):Int)) O O (by rw[<-e4];rfl) ?_;refine zbq O O (ztq (i+1) O O Xm ⟨by omega,by omega⟩ ?_);refine zdq (w':=.bool false) O O (congrArg (fun b=>W.bool (!b)) (eqI_iff.2 (rfl))) ?_;refine zaq 13 O ?_;refine yDq O O ?_;refine zbq O O (zdq (w':=.bool true) O O (congrArg (fun b=>W.bool (!b)) (ltI_not.2 Xd)) ?_);refine zaq 4 O ?_;refine zdq (w':=.int .i64 ((c.links.length:Nat):Int)) O O Xv ?_;refine zdq (w':=.bool true) O O (congrArg W.bool (ltI_iff.2 Xd)) ?_;refine zbq O O (yDq O O ?_);refine zaq 5 O ?_;exact zhq (.inr rfl) O O
  ·have hz:=addE_no hno;skip
   refine zaq 12 O ?_;skip
   skip
   by_cases h0:h<0
   ·skip
    refine ziq O O O O O O (ZCq c hc h hM (.inl h0)) ?_;refine zaq 12 O ?_;refine zdq (w':=.bool false) O O (congrArg W.bool (eqI_not.2 Xd)) ?_;refine zaq 18 O ?_;refine zdq (w':=.bool false) O O (congrArg W.bool Xg) ?_;refine zaq 25 O ?_;refine yDq O O ?_;refine zbq O O (zdq (w':=.bool false) O O (congrArg (fun b=>W.bool (!b)) (ltI_iff.2 (h0))) ?_);refine zaq 7 O ?_;refine yDq O O ?_;refine zaq 5 O ?_;exact zhq (.inr rfl) O O
   by_cases h1:(c.links.length:Int)<=h
   ·skip
    refine ziq O O O O O O (ZCq c hc h hM (.inr h1)) ?_;refine zaq 12 O ?_;refine zdq (w':=.bool false) O O (congrArg W.bool (eqI_not.2 Xd)) ?_;refine zaq 18 O ?_;refine zdq (w':=.bool false) O O (congrArg W.bool Xg) ?_;refine zaq 25 O ?_;refine yDq O O ?_;refine zbq O O (zdq (w':=.bool true) O O (congrArg (fun b=>W.bool (!b)) (ltI_not.2 Xd)) ?_);refine zaq 4 O ?_;refine zdq (w':=.int .i64 ((c.links.length:Nat):Int)) O O Xv ?_;refine zdq (w':=.bool false) O O (congrArg W.bool (ltI_not.2 Xd)) ?_;refine zbq O O (yDq O O ?_);refine zaq 5 O ?_;exact zhq (.inr rfl) O O
   obtain⟨i,rfl⟩:=Int.eq_ofNat_of_zero_le (show 0<=h by omega);obtain⟨x,hx⟩:∃x,c.links[i]? =some x:=⟨_,List.getElem?_eq_getElem Xd⟩
   have e4:((c.links.take (i+1)).map lkG).length=i+1:=by rw[List.length_map];exact cutl_len hx
   refine ziq O O O O O O (ccut_s c hc hs i hM hx) ?_;refine zaq 12 O ?_;refine zdq (w':=.bool false) O O (congrArg W.bool (eqI_not.2 Xd)) ?_;refine zaq 18 O ?_;refine zdq (w':=.bool true) O O (congrArg W.bool Xg) ?_;refine zaq 3 O ?_;refine ziq O O O O O O (ynq (w':=.bool true) (xcq (cutC c i x) (hc.cut i x) (by show c.tree.nodes.length<=_;omega) box) (by rw[decide_eq_true (hS.cut hx)])) ?_;refine zaq 4 O ?_;refine zdq (w':=.int .i64 ((i+1:Nat):Int)) O O (by rw[<-e4];rfl) ?_;refine zbq O O (ztq (i+1) O O Xm ⟨by omega,by omega⟩ ?_);refine zdq (w':=.bool false) O O (congrArg (fun b=>W.bool (!b)) (eqI_iff.2 (rfl))) ?_;refine zaq 13 O ?_;refine yDq O O ?_;refine zbq O O (zdq (w':=.bool true) O O (congrArg (fun b=>W.bool (!b)) (ltI_not.2 Xd)) ?_);refine zaq 4 O ?_;refine zdq (w':=.int .i64 ((c.links.length:Nat):Int)) O O Xv ?_;refine zdq (w':=.bool true) O O (congrArg W.bool (ltI_iff.2 Xd)) ?_;refine zbq O O (yDq O O ?_);refine zaq 5 O ?_;exact zhq (.inr rfl) O O
 ·skip
  refine zJq (fn:=Tryz.f11) O O O (Ob rfl) (fun R k0=>?_);refine zjq 10 O ?_;refine ziq O O O O O O (voq) ?_;refine zaq 7 O ?_;refine ziq O O O O O O (ynq (w':=.bool false) (Zuq c 5 hc.nodes hc.len) Qj) ?_;refine zaq 2 O ?_;refine ziq O O O O O O (ynq (w':=.bool false) (u9q ds xs false false) (by rw[decide_eq_false (hk)])) ?_;refine zaq 4 O ?_;refine ziq O O O O O O (ynq (w':=.bool false) (xcq c hc Xd box) (by rw[decide_eq_false (hS)])) ?_;refine zaq 17 O ?_;exact zhq (.inr rfl) O O
end
mutual
/-- all blocks in it lie below n -/
noncomputable def ltB(n:Nat):V->Bool
 |.ptr b _=>decide (b<n)
 |.sl b _ _ _ _ _=>decide (b<n)
 |.map b=>decide (b<n)
 |.yield b=>decide (b<n)
 |.fn _ a c=>ltL n a&&ltL n c
 |.iface _ v=>ltB n v
 |.agg _ l=>ltL n l
 |.arr _ _ l=>ltL n l
 |.tup l=>ltL n l
 |.undef=>true
 |.bool _=>true
 |.int _ _=>true
 |.str _=>true
 |.nilp=>true
 |.nils=>true
 |.nilm=>true
 |.nilf=>true
 |.nili=>true
noncomputable def ltL(n:Nat):List V->Bool
 |[]=>true
 |v::l=>ltB n v&&ltL n l
end
noncomputable def SeenK(h:Heap):Nat->Prop:=fun b=>b<h.next/\∃v,h.val b=some v/\ltB h.next v=true
noncomputable def u32V(n:Nat):V:=.int .u32 (.ofNat n)
noncomputable def eqK:List V->List Nat->Bool
 |[],[]=>true
 |.int .u32 (.ofNat n)::l,m::ms=>match Nat.beq n m with
  |true=>eqK l ms
  |false=>false
 |_,_=>false
theorem eqK_spec:∀{l:List V} {ms:List Nat},eqK l ms=true->l=ms.map u32V
 |[],[],_=>rfl
 |[],_::_,h=>by simp[eqK] at h
 |v::l,ms,h=>by
  unfold eqK at h;split at h
  ·simp_all
  ·rename_i n l' m ms' e;cases e;split at h
   ·rename_i hb;obtain rfl:=Nat.eq_of_beq_eq_true hb;rw[eqK_spec h];rfl
   ·cases h
  ·cases h
noncomputable def globK(h:Heap):Bool:=match h.get 0 with
 |some (.ro (.arr 64 1 l))=>eqK l kW
 |_=>false
theorem RSL_wd(Γ:Ctx):∀l:List Nat,RSL Γ (l.map wd) (l.map u32V)
 |[]=>rfl
 |n::l=>q0q (a:=[u32V n]) (b:=l.map u32V) (x:=wd n) rfl (RSL_wd Γ l)
theorem globK_spec{h:Heap}(hn:Nat.ble 2 h.next=true)(hk:globK h=true):GRel cfg glK ⟨0,fun i=>i,SeenK h,h⟩:=by
 intro g w _ h2 nw σ;have hn:=Ob hn;unfold glK at h2;split at h2
 ·cases h2;unfold globK at hk;split at hk
  ·rename_i l hg;obtain rfl:=eqK_spec hk;have hv:h.val 0=some (.arr 64 1 (kW.map u32V)):=by simp only[Heap.val,hg]
   refine RV.of_one ⟨0,0,_,rfl,⟨by omega,_,hv,by rfl⟩,hv,by exact Nat.le_refl _,fun _=>rfl,.inr rfl,?_⟩ O O;have e:((zuq (.arr 64 1 (kW.map u32V))).drop 0).take 64=kW.map u32V:=by kernel_rfl
   show RS _ _ (((zuq (.arr 64 1 (kW.map u32V))).drop 0).take 64);rw[e];exact⟨rfl,fun x hx=>by obtain⟨n,_,rfl⟩:=List.mem_map.1 hx;rfl,RSL_wd _ kW⟩
  ·cases hk
 ·cases h2
end
end Go.Proofs.YtjmekaoadfmkfaaGreatDoor

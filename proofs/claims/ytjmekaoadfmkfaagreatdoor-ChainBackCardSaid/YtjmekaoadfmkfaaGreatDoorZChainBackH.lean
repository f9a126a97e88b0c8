/-
  What the proof of ChainBack stands on, part 8. No condition.
-/
import Derived.Test.YtjmekaoadfmkfaaGreatDoorZChainBackG
set_option linter.unusedSimpArgs false
set_option linter.unusedVariables false
namespace Go.Proofs.YtjmekaoadfmkfaaGreatDoor
section
open Go.RowKit
section
attribute [local irreducible] CoW OpW FlW Step Spec
variable {G:Nat->Option W}
structure OkC(c:Ch):Prop where
 body:∀x∈c.links,BodOk x.ds x.xs
 nodes:c.tree.nodes.length<=4611686018427387903
 len:c.links.length<=4611686018427387903
 recs:∀x∈c.links,x.rs.length<=4611686018427387903
theorem prev_hd(l:List Lk)(i:Nat):∃h r b s,prevW l i= .agg 102 [hdW h,r,b,s]/\(purL [hdW h,r,b,s]=true)/\∀z,0<i->l[i-1]? =some z->h=z.hdr:=by
 cases i with
 |zero=>exact⟨hdZ,_,_,_,rfl,prev_pur l 0,fun z h=>absurd h Xr⟩
 |succ i=>
  cases hz:l[i]? with
  |none=>exact⟨hdZ,_,_,_,by show lkA l i=_;unfold lkA;rw[hz];rfl,lkZ_pur,fun z _ h=>by rw[Nat.add_sub_cancel,hz] at h;cases h⟩
  |some x=>exact⟨x.hdr,_,_,_,by show lkA l i=_;unfold lkA;rw[hz];rfl,lkG_pur x,fun z _ h=>by rw[Nat.add_sub_cancel,hz] at h;cases h;rfl⟩
theorem Zwq(c:Ch)(hc:OkC c):PS cfg glK 71 [chG c] (.int .i64 (if MayC c then 0 else 8)):=by
 have e:(c.links.map lkG).length=c.links.length:=List.length_map _;have hl:=hc.len;refine zNq (fn:=Tryz.f71) O O O (Ob rfl) (fun R k0=>?_);refine ziq 11 O ?_;refine qsq (w':=.int .i64 ((c.links.length:Nat):Int)) O O Xv ?_;refine fl_dz O O (fun h1=>?_) (fun h1=>?_)
 ·have hno:¬MayC c:=fun q=>by have:=q.one;omega
  refine zsq 31 O ?_;exact zhq (.inr rfl) rfl Yd
 obtain⟨z,hz⟩:∃z,c.links[c.links.length-1]? =some z:=⟨_,List.getElem?_eq_getElem Xd⟩
 refine zsq 3 O ?_;refine qsq (w':=.int .i64 ((c.links.length:Nat):Int)) O O Xv ?_;refine fl_dz O O (fun h2=>?_) (fun h2=>?_)
 ·have hno:¬MayC c:=fun q=>by have:=q.len;omega
  refine zsq 26 O ?_;exact zhq (.inr rfl) rfl Yd
 refine zsq 9 O ?_;refine qsq (w':=.int .i64 ((c.links.length:Nat):Int)) O O Xv ?_;refine jlq (c.links.length-1) O O Xm ⟨by omega,by omega⟩ ?_;refine zcq rfl (zBq (i:=c.links.length-1) O O O O O O O (z9q lkG hz)) ?_;refine zsq 2 O ?_;refine fl_cz O O ?_;refine zsq 3 O ?_;refine zEq rfl (fun h3=>?_) (fun h3=>?_)
 ·have hno:¬MayC c:=fun q=>h3 (q.root z hz)
  refine zgq 7 O ?_;exact zhq (.inr rfl) rfl Yd
 refine zgq 13 O ?_;refine zkq O O O O O O (ceach_s _ _) ?_;refine zaq 3 O ?_;refine co_rangeG (encL c.links) (List.range c.links.length) (fun i (a:Nat)=>a=i/\∀j x,j<i->c.links[j]? =some x->LkM c j x) (fun a=>[(2,3,.int .i64 (a:Int)),(1,38,.int .i64 0),(0,70,chG c)]) (fun _=>R) (0) rfl Xo (ceach_it c.links false hc.len) (encL_ok c.links) (⟨rfl,fun j x h=>by omega⟩) O O (fun i a y hy hI=>?_) (fun a hI=>?_)
 ·obtain⟨rfl,hI⟩:=hI;have hi:a<c.links.length:=by have:=kmq hy;simpa using this
  obtain rfl:a=y:=by rw[range_at hi] at hy;exact Option.some.inj hy
  obtain⟨x,hx⟩:∃x,c.links[a]? =some x:=⟨_,List.getElem?_eq_getElem hi⟩
  obtain⟨ph,pr,pb,ps,hp,hpu,hph⟩:=prev_hd c.links a;have hpu:purW (.agg 102 [hdW ph,pr,pb,ps])=true:=hpu;rw[show encL c.links a=[lkG x,.agg 102 [hdW ph,pr,pb,ps]] by unfold encL;rw[lkA_at hx,hp]];have hB:=hc.body x (List.mem_of_getElem? hx);have er:(x.rs.map rcW).length=x.rs.length:=List.length_map _;refine ziq 10 O ?_;refine ZRq ?_;refine ziq 15 O ?_;refine qhq O O (fun h4=>?_) (fun h4=>?_)
  ·have hno:¬MayC c:=fun q=>h4 (q.link a x hx).height
   refine zaq 50 O ?_;refine jOq Xj ?_;refine zDq 2 O ?_;exact zhq (.inr rfl) rfl Yd
  refine zaq 2 O ?_;refine zkq O O O O O O (u6q x.hdr) ?_;refine qhq O O (fun h5=>?_) (fun h5=>?_)
  ·have hno:¬MayC c:=fun q=>h5 (by rw[if_pos (q.link a x hx).hdr])
   refine zaq 46 O ?_;refine jOq Xj ?_;refine zDq 2 O ?_;exact zhq (.inr rfl) rfl Yd
  have hok:okH x.hdr:=Classical.byContradiction fun q=>h5 (by rw[if_neg q];decide)
  refine zaq 3 O ?_;refine qhq O O (fun h6=>?_) (fun h6=>?_)
  ·refine zaq 4 O ?_;refine zkq O O O O O O (hfollows_d x.hdr ph) ?_;refine xvq (fun h7=>?_) (fun h7=>?_)
   ·have hF:0<a->∀w,c.links[a-1]? =some w->FolB x.hdr w.hdr:=fun h0 w hw=>hph w h0 hw▸h7
    refine zaq 6 O ?_;refine zfq (w':=.int .i64 ((x.rs.length:Nat):Int)) O O (by rw[<-er];rfl) ?_;refine zaq 2 O ?_;refine qhq O O (fun h8=>?_) (fun h8=>?_)
    ·have hno:¬MayC c:=fun q=>h8 (q.link a x hx).recs
     refine zaq 27 O ?_;refine jOq Xj ?_;refine zDq 2 O ?_;exact zhq (.inr rfl) rfl Yd
    refine zaq 4 O ?_;refine zkq O O O O O O (cbody_s x.ds x.xs false false hB.tx hB.dl hB.xl) ?_;refine xvq (fun h9=>?_) (fun h9=>?_)
    ·refine zaq 7 O ?_;refine zkq O O O O O O (ver_s c.tree x.root) ?_;refine zkq O O O O O O (qCq (verT c x.root) hc.nodes) ?_;refine yWq O O ?_;refine zaq 3 O ?_;refine zEq rfl (fun h10=>?_) (fun h10=>?_)
     ·have hno:¬MayC c:=fun q=>h10 (by rw[if_pos (q.link a x hx).tree])
      refine zgq 8 O ?_;refine jOq Xj ?_;refine zDq 2 O ?_;exact zhq (.inr rfl) rfl Yd
     ·have hA:MayA (verT c x.root):=Classical.byContradiction fun q=>h10 (by rw[if_neg q];decide)
      have hx2:LkM c a x:=⟨by omega,hok,fun w h0 hw=>hF h0 w hw,by omega,h9,hA⟩;refine zgq 4 O ?_;first|refine ypq O O ⟨by omega,by omega⟩ ?_|refine zbq O O ?_
      refine zaq 3 O ?_;exact q_roundK (a+1) (⟨rfl,fun j w hj hw=>by rcases Nat.lt_succ_iff_lt_or_eq.1 hj with q|rfl;exact hI j w q hw;exact Option.some.inj (hx.symm.trans hw)▸hx2⟩) Xd Xq Yk rfl
    ·have hno:¬MayC c:=fun q=>h9 (q.link a x hx).body
     refine zaq 22 O ?_;refine jOq Xj ?_;refine zDq 2 O ?_;exact zhq (.inr rfl) rfl Yd
   ·have hno:¬MayC c:=fun q=>by
     obtain⟨w,hw⟩:∃w,c.links[a-1]? =some w:=⟨_,List.getElem?_eq_getElem Xd⟩
     exact h7 (hph w Xd hw▸(q.link a x hx).fol w Xd hw)
    refine zaq 37 O ?_;refine jOq Xj ?_;refine zDq 2 O ?_;exact zhq (.inr rfl) rfl Yd
  ·have hF:0<a->∀w,c.links[a-1]? =some w->FolB x.hdr w.hdr:=fun h0=>absurd h0 Xd
   refine zaq 11 O ?_;refine zfq (w':=.int .i64 ((x.rs.length:Nat):Int)) O O (by rw[<-er];rfl) ?_;refine zaq 2 O ?_;refine qhq O O (fun h7=>?_) (fun h7=>?_)
   ·have hno:¬MayC c:=fun q=>h7 (q.link a x hx).recs
    refine zaq 27 O ?_;refine jOq Xj ?_;refine zDq 2 O ?_;exact zhq (.inr rfl) rfl Yd
   refine zaq 4 O ?_;refine zkq O O O O O O (cbody_s x.ds x.xs false false hB.tx hB.dl hB.xl) ?_;refine xvq (fun h8=>?_) (fun h8=>?_)
   ·refine zaq 7 O ?_;refine zkq O O O O O O (ver_s c.tree x.root) ?_;refine zkq O O O O O O (qCq (verT c x.root) hc.nodes) ?_;refine yWq O O ?_;refine zaq 3 O ?_;refine zEq rfl (fun h9=>?_) (fun h9=>?_)
    ·have hno:¬MayC c:=fun q=>h9 (by rw[if_pos (q.link a x hx).tree])
     refine zgq 8 O ?_;refine jOq Xj ?_;refine zDq 2 O ?_;exact zhq (.inr rfl) rfl Yd
    ·have hA:MayA (verT c x.root):=Classical.byContradiction fun q=>h9 (by rw[if_neg q];decide)
     have hx2:LkM c a x:=⟨by omega,hok,fun w h0 hw=>hF h0 w hw,by omega,h8,hA⟩;refine zgq 4 O ?_;first|refine ypq O O ⟨by omega,by omega⟩ ?_|refine zbq O O ?_
     refine zaq 3 O ?_;exact q_roundK (a+1) (⟨rfl,fun j w hj hw=>by rcases Nat.lt_succ_iff_lt_or_eq.1 hj with q|rfl;exact hI j w q hw;exact Option.some.inj (hx.symm.trans hw)▸hx2⟩) Xd Xq Yk rfl
   ·have hno:¬MayC c:=fun q=>h8 (q.link a x hx).body
    refine zaq 22 O ?_;refine jOq Xj ?_;refine zDq 2 O ?_;exact zhq (.inr rfl) rfl Yd
 ·obtain⟨rfl,hI⟩:=hI;have yes:MayC c:=⟨by omega,by omega,fun w hw=>by cases hz.symm.trans hw;omega,fun j w hw=>hI j w (by have:=kmq hw;simpa using this) hw⟩;refine zDq 8 O ?_;exact zhq (.inr rfl) rfl Yq
end
theorem fit_rc{w:W}(h:Fit (.st 34 [.int .u8,.arr 32 1 (.int .u8),.int .i64]) w):∃r:RcI,w=rcW r/\True:=by
 obtain⟨l,rfl,w1,l1,rfl,h1,w2,l2,rfl,h2,w3,l3,rfl,h3,rfl⟩:=h;obtain⟨k,rfl,_⟩:=fit_u8 h1;obtain⟨d,rfl⟩:=fit_dig h2;obtain⟨c,rfl,_⟩:=upq h3;exact⟨⟨k,d,c⟩,rfl,trivial⟩
theorem fit_link{w:W}(h:Fit (.st 102 [.st 98 [.int .i64,.arr 32 1 (.int .u8),.arr 32 1 (.int .u8),.arr 32 1 (.int .u8),.int .i64],.int .i64,.st 2 [.sl 34 48 (.st 34 [.int .u64,.arr 32 1 (.int .u8),.int .u64]),.sl 99 120 (.st 99 [.arr 32 1 (.int .u8),.arr 32 1 (.int .u8),.int .u64,.int .u64,.int .u64,.arr 32 1 (.int .u8)])],.sl 34 48 (.st 34 [.int .u8,.arr 32 1 (.int .u8),.int .i64])]) w):∃x:Lk,w=lkG x/\BodOk x.ds x.xs/\x.rs.length<=4611686018427387903:=by
 obtain⟨l,rfl,w1,l1,rfl,h1,w2,l2,rfl,h2,w3,l3,rfl,h3,w4,l4,rfl,h4,rfl⟩:=h;obtain⟨p,rfl,_⟩:=fit_hdr h1;obtain⟨r,rfl,_⟩:=upq h2;obtain⟨ds,xs,rfl,hB⟩:=fit_body h3;obtain⟨rs,rfl,hl,_⟩:=fit_sl h4 fun x hx=>fit_rc hx
 exact⟨⟨p,r,ds,xs,rs⟩,rfl,hB,by show rs.length<=_;omega⟩
theorem fit_chain{w:W}(h:Fit (.st 3 [.st 2 [.sl 36 80 (.st 36 [.bool,.arr 32 1 (.int .u8),.sl 1 1 (.int .u8),.int .i64,.int .i64]),.int .i64],.sl 102 192 (.st 102 [.st 98 [.int .i64,.arr 32 1 (.int .u8),.arr 32 1 (.int .u8),.arr 32 1 (.int .u8),.int .i64],.int .i64,.st 2 [.sl 34 48 (.st 34 [.int .u64,.arr 32 1 (.int .u8),.int .u64]),.sl 99 120 (.st 99 [.arr 32 1 (.int .u8),.arr 32 1 (.int .u8),.int .u64,.int .u64,.int .u64,.arr 32 1 (.int .u8)])],.sl 34 48 (.st 34 [.int .u8,.arr 32 1 (.int .u8),.int .i64])])]) w):∃c:Ch,w=chG c/\OkC c:=by
 obtain⟨l,rfl,w1,l1,rfl,h1,w2,l2,rfl,h2,rfl⟩:=h;obtain⟨t,rfl,ht,_⟩:=fit_tree h1;obtain⟨ls,rfl,hl,hx⟩:=fit_sl h2 fun x hx=>fit_link hx
 exact⟨⟨t,ls⟩,rfl,fun x h=>(hx x h).1,by show t.nodes.length<=_;omega,by show ls.length<=_;omega,fun x h=>(hx x h).2⟩
theorem pspec_view{C:Cfg}{G:Nat->Option W}{f:FuncId}{m:Nat}{ws ws':List W}{hp:HpW}{Q:W->HpW->Nat->Prop}(h:ViewL (fun _=>none) ws ws')(sp:yVq C G f m ws' hp Q):yVq C G f m ws hp Q:=fun R Γ X vs h1 s hv=>
 sp R Γ X vs h1 s (xQq ⟨fun _ h _=>h,fun _ _ _=>rfl,fun _ h=>h,fun _ _=>rfl,fun _ _ _ h=>Qa⟩ h hv)
theorem pe_view{C:Cfg}{G:Nat->Option W}{f:FuncId}{ws ws':List W}{A:W->Prop}(h:ViewL (fun _=>none) ws ws')(sp:PE C G f ws' A):PE C G f ws A:=pspec_view h sp
section
attribute [local irreducible] CoW OpW FlW Step Spec
variable {G:Nat->Option W}
@[simp] theorem psW_drop(ps:List Pr)(i:Nat):purL ((ps.map pW).drop i)=true:=by rw[<-List.map_drop];exact ZWq _
@[simp] theorem psW_take(ps:List Pr)(i:Nat):purL ((ps.map pW).take i)=true:=by rw[<-List.map_take];exact ZWq _
theorem rpsame_s(a b:List Pr)(f g:Bool)(hb:a.length<=1000000000):PS cfg G 25 [.fz (a.map pW) 33 f,.fz (b.map pW) 33 g] (.bool (decide (a=b))):=by
 have ea:(a.map pW).length=a.length:=List.length_map _;have eb:(b.map pW).length=b.length:=List.length_map _;refine zNq (fn:=Tryz.f25) O O O (Ob rfl) (fun R k0=>?_);refine ziq 9 O ?_;refine zfq (w':=.int .i64 (a.length:Int)) O O Qc ?_;refine zbq O O (zfq (w':=.int .i64 (b.length:Int)) O O (by rw[<-eb];rfl) ?_);refine zaq 3 O ?_;refine zEq rfl (fun h1=>?_) (fun h1=>?_)
 ·refine zgq 7 O ?_;refine zhq (.inr rfl) O ?_;rw[decide_eq_false];rintro rfl;exact h1 rfl
 ·have hl:a.length=b.length:=by omega
  refine zgq 9 O ?_;refine y4q (α:=Nat) (fun i=>i<=a.length/\a.take i=b.take i) (fun i=>[(5,.int .i64 (i:Int))]) [(0,_),(1,_),(4,_)] (fun i=>a.length-i) (0) ⟨rfl,rfl,rfl,trivial⟩ (⟨Nat.zero_le _,rfl⟩) ⟨rfl,trivial⟩ (fun i hI=>?_);obtain⟨g1,g2⟩:=hI;refine ziq 5 O ?_;refine zfq (w':=.int .i64 (a.length:Int)) O O Qc ?_;refine zaq 3 O ?_;refine zEq rfl (fun h2=>?_) (fun h2=>?_)
  ·have hi:i<a.length:=by omega
   obtain⟨x,hx⟩:∃x,a[i]? =some x:=⟨_,List.getElem?_eq_getElem hi⟩
   obtain⟨y,hy⟩:∃y,b[i]? =some y:=⟨_,List.getElem?_eq_getElem Xd⟩
   have no:x≠y->decide (a=b)=false:=fun h=>decide_eq_false fun q=>h (by subst q;exact Option.some.inj (hx.symm.trans hy))
   refine zgq 8 O ?_;refine zcq rfl (zBq (i:=i) O O O O O O O (z9q pW hx)) ?_;refine zsq 4 O ?_;refine zcq rfl (zBq (i:=i) O O O O O O O (z9q pW hy)) ?_;refine zsq 2 O ?_;refine fl_dec rfl (kxq O O O O (qtq O O O O O O _ _ 250)) (kGq yMq) (fun h3=>?_) (fun h3=>?_)
   ·refine zsq 25 O ?_;refine ylq Xj ?_;refine zDq 2 O ?_;exact zhq (.inr rfl) rfl (by rw[no fun q=>h3 (by rw[q])])
   ·have hk:x.1=y.1:=by simpa using h3
    refine zsq 3 O ?_;refine zcq rfl (zBq (i:=i) O O O O O O O (z9q pW hx)) ?_;refine zsq 4 O ?_;refine zcq rfl (zBq (i:=i) O O O O O O O (z9q pW hy)) ?_;refine zsq 2 O ?_;refine qJq O O O O O O (same_s _ _ _ _) ?_;refine zsq 4 O ?_;refine zEq rfl (fun h4=>?_) (fun h4=>?_)
    ·refine zgq 8 O ?_;refine ylq Xj ?_;refine zDq 2 O ?_;exact zhq (.inr rfl) rfl (by rw[no fun q=>by rw[q] at h4;simp at h4])
    ·have hv:x.2=y.2:=by simpa using h4
     have hxy:x=y:=Prod.ext hk hv;refine zgq 5 O ?_;refine zuq (i+1) O O Xm ⟨by omega,by omega⟩ ?_;refine y5q 2 O ?_;exact ykq (i+1) (⟨hi,by rw[List.take_add_one,List.take_add_one,g2,hx,hy,hxy]⟩) Xd ⟨rfl,trivial⟩ ⟨rfl,rfl,rfl,trivial⟩ Xh Xd Xk rfl
  ·refine zgq 2 O ?_;refine ylq Xj ?_;refine zDq 8 O ?_;refine zhq (.inr rfl) O ?_;rw[decide_eq_true];have:=g2;rw[List.take_of_length_le Xd,List.take_of_length_le Xd] at this;exact this
end
section
attribute [local irreducible] CoW OpW FlW Step Spec
variable {G:Nat->Option W}
theorem mayp_val(k:Dig)(v:List UInt8):MayP [(k,v)]↔valB v=true:=by
 constructor
 ·intro h;exact(h.2 0 Xl _ rfl).1
 ·intro h;refine⟨by simp,fun i hi x hx=>?_⟩;obtain rfl:i=0:=by simpa using hi
  cases hx;exact⟨h,fun y h0=>by omega⟩
noncomputable instance(a b:Tree):Decidable (a=b):=Classical.propDecidable _
end
section
attribute [local irreducible] CoW OpW FlW Step Spec
variable {G:Nat->Option W}
structure SmallC(c:Ch):Prop where
 nodes:c.tree.nodes.length<=1000000
 vals:∀x∈c.tree.nodes,x.val.length<=70368744177664
 len:c.links.length<=1000000
 link:∀x∈c.links,x.ds.length<=1000000/\x.xs.length<=1000000/\x.rs.length<=1000000
def QEq(c:Ch)(n:Nat):Prop:=QFq c.tree 900\/n<c.links.length\/∃x∈c.links,yRq x.ds x.xs\/40<x.rs.length
noncomputable instance(c:Ch)(n:Nat):Decidable (QEq c n):=Classical.propDecidable _
theorem Zpq(c:Ch)(n:Nat)(hb:c.tree.nodes.length<=4611686018427387903)(hl:c.links.length<=4611686018427387903):PS cfg G 54 [chG c,.int .i64 (n:Int)] (.bool (decide (QEq c n))):=by
 have e:(c.links.map lkG).length=c.links.length:=List.length_map _;by_cases hg:QFq c.tree 900
 ·skip
  refine zNq (fn:=Tryz.f54) O O O (Ob rfl) (fun R k0=>?_);refine ziq 11 O ?_;refine zkq O O O O O O (yFq (w':=.bool true) (great_s c.tree 900 hb Xd) (by rw[decide_eq_true (hg)])) ?_;refine zaq 17 O ?_;exact zhq (.inr rfl) rfl (dec_t (.inl hg))
 refine zNq (fn:=Tryz.f54) O O O (Ob rfl) (fun R k0=>?_);refine ziq 11 O ?_;refine zkq O O O O O O (yFq (w':=.bool false) (great_s c.tree 900 hb Xd) Qh) ?_;refine zaq 3 O ?_;refine zfq (w':=.int .i64 ((c.links.length:Nat):Int)) O O Xv ?_;refine zbq O O (yWq O O ?_);refine zaq 3 O ?_;refine zEq rfl (fun h1=>?_) (fun h1=>?_)
 ·refine zgq 7 O ?_;exact zhq (.inr rfl) rfl (dec_t (.inr (.inl Xd)))
 refine zgq 9 O ?_;refine y4q (α:=Nat) (fun i=>i<=c.links.length/\∀j x,j<i->c.links[j]? =some x->¬(yRq x.ds x.xs\/40<x.rs.length)) (fun i=>[(5,.int .i64 (i:Int))]) [(2,_),(4,_)] (fun i=>c.links.length-i) (0) ⟨rfl,rfl,trivial⟩ (⟨Nat.zero_le _,fun j x h=>by omega⟩) ⟨rfl,trivial⟩ (fun i hI=>?_);obtain⟨g1,g2⟩:=hI;refine ziq 6 O ?_;refine zfq (w':=.int .i64 ((c.links.length:Nat):Int)) O O Xv ?_;refine zaq 3 O ?_;refine zEq rfl (fun h2=>?_) (fun h2=>?_)
 ·have hi:i<c.links.length:=by omega
  obtain⟨x,hx⟩:∃x,c.links[i]? =some x:=⟨_,List.getElem?_eq_getElem hi⟩
  have er:(x.rs.map rcW).length=x.rs.length:=List.length_map _;refine zgq 9 O ?_;refine zbq rfl (zBq (i:=i) O O O O O O O (z9q lkG hx)) ?_;refine zaq 2 O ?_;refine zkq O O O O O O (kHq x.ds x.xs false false) ?_;refine xvq (fun h3=>?_) (fun h3=>?_)
  ·refine zaq 21 O ?_;refine ylq Xj ?_;refine zDq 2 O ?_;exact zhq (.inr rfl) rfl (dec_t (.inr (.inr ⟨x,List.mem_of_getElem? hx,.inl h3⟩)))
  ·refine zaq 4 O ?_;refine zbq rfl (zBq (i:=i) O O O O O O O (z9q lkG hx)) ?_;refine zaq 2 O ?_;refine zfq (w':=.int .i64 ((x.rs.length:Nat):Int)) O O (by rw[<-er];rfl) ?_;refine yWq O O ?_;refine zaq 3 O ?_;refine zEq rfl (fun h4=>?_) (fun h4=>?_)
   ·refine zgq 8 O ?_;refine ylq Xj ?_;refine zDq 2 O ?_;exact zhq (.inr rfl) rfl (dec_t (.inr (.inr ⟨x,List.mem_of_getElem? hx,.inr Xd⟩)))
   ·refine zgq 5 O ?_;refine zuq (i+1) O O Xm ⟨by omega,by omega⟩ ?_;refine y5q 2 O ?_;exact ykq (i+1) (⟨hi,fun j y hj hy=>by rcases Nat.lt_succ_iff_lt_or_eq.1 hj with q|rfl;exact g2 j y q hy;exact Option.some.inj (hx.symm.trans hy)▸fun q=>q.elim h3 Xd⟩) Xd ⟨rfl,trivial⟩ ⟨rfl,rfl,trivial⟩ Xh Xd Xk rfl
 ·have no:¬QEq c n:=by
   rintro(q|q|⟨x,hx,q⟩)
   ·exact hg q
   ·omega
   ·obtain⟨j,hj⟩:=List.getElem?_of_mem hx;exact g2 j x (by have:=kmq hj;omega) hj q
  refine zgq 2 O ?_;refine ylq Xj ?_;refine zDq 8 O ?_;exact zhq (.inr rfl) rfl (Joq no)
theorem greatc_no{c:Ch}{n:Nat}(h:¬QEq c n):c.tree.nodes.length<=900/\c.links.length<=n/\∀x∈c.links,¬yRq x.ds x.xs/\x.rs.length<=40:=
 ⟨Nat.le_of_not_lt fun q=>h (.inl (.inl q)),Nat.le_of_not_lt fun q=>h (.inr (.inl q)),fun x hx=>⟨fun q=>h (.inr (.inr ⟨x,hx,.inl q⟩)),Nat.le_of_not_lt fun q=>h (.inr (.inr ⟨x,hx,.inr q⟩))⟩⟩
end
section
attribute [local irreducible] CoW OpW FlW Step Spec
variable {G:Nat->Option W}
theorem clink_s(x:Lk)(h:x.ds.length<=1000000/\x.xs.length<=1000000/\x.rs.length<=1000000):PS cfg G 134 [lkG x] (lkG x):=by
 obtain⟨h1,h2,h3⟩:=h;refine zNq (fn:=Tryz.f134) O O O (Ob rfl) (fun R k0=>?_);refine ziq 11 O ?_;refine qJq O O O O O O (cld_s x.ds false Xd) ?_;refine zsq 3 O ?_;refine qJq O O O O O O (clx_s x.xs false Xd) ?_;refine zsq 9 O ?_;refine zkq O O O O O O (clr_s x.rs false Xd) ?_;refine zaq 11 O ?_;exact zhq (.inr rfl) O O
theorem ctrn_s(l:List Lk)(f:Bool)(hl:l.length<=1000000)(hs:∀x∈l,x.ds.length<=1000000/\x.xs.length<=1000000/\x.rs.length<=1000000):PL cfg G 151 [.fz (l.map lkG) 102 f,.fn 134 [] []] 132 102 (l.map lkG):=by
 have e:(l.map lkG).length=l.length:=List.length_map _;intro R;refine zXq (fn:=Tryz.f151) O O O (Ob rfl) (fun k0=>?_);refine ziq 14 O ?_;refine zfq (w':=.int .i64 ((l.length:Nat):Int)) O O Xv ?_;refine zaq 4 O ?_;refine Juq (α:=Nat) (fun i=>i<=l.length) 5 (fun i=>(l.take i).map lkG) 132 102 (fun i=>[(10,.int .i64 (i:Int))]) [(1,_),(4,_),(8,_),(9,_)] _ (fun i=>l.length-i) (0) ⟨rfl,rfl,rfl,rfl,trivial⟩ (Nat.zero_le _) ⟨rfl,trivial⟩ O O O (fun i hI=>?_);refine ziq 6 O ?_;refine zEq rfl (fun h1=>?_) (fun h1=>?_)
 ·have hi:i<l.length:=by omega
  obtain⟨x,hx⟩:∃x,l[i]? =some x:=⟨_,List.getElem?_eq_getElem hi⟩
  have es:(l.take (i+1)).map lkG=(l.take i).map lkG++[lkG x]:=by rw[List.take_add_one,hx,List.map_append];rfl
  have el:((l.take i).map lkG).length=i:=by simp;omega
  have ep:purL ((l.take i).map lkG++[lkG x])=true:=by rw[<-es];exact k9q _
  have ep2:purL ((l.take i).map lkG)=true:=k9q _;refine zgq 6 O ?_;refine zbq rfl (zBq (i:=i) O O O O O O O (z9q lkG hx)) ?_;refine zaq 9 O ?_;refine zkq O O O O O O (clink_s x (hs x (List.mem_of_getElem? hx))) ?_;refine zwq O O (zwq rfl (quq O O (Qyq [_,_] (k:=ti132) (news:=[lkG x]) O O O O O (jrq O O O O) Xl (by show(((l.take i).map lkG).length+1)*192<=_;omega) (by show((l.take i).map lkG).length+1<=_;omega) rfl Xl)) ?_);refine zaq 5 O ?_;first|refine ypq O O ⟨by omega,by omega⟩ ?_|refine zbq O O ?_
  refine y5q 2 O ?_;exact uOq 3 (i+1) (hi) Xd (Nat.zero_le _) (es) Yn Xd Yz rfl Yp ⟨rfl,trivial⟩ ⟨rfl,rfl,rfl,rfl,trivial⟩ Xh Xh rfl Xo Xq Yk
 ·have hi:i=l.length:=by omega
  subst hi;rw[List.take_length];refine zgq 2 O ?_;refine jaq Xj ?_;refine zDq 9 O ?_;exact fin (.inr rfl) (yfq (fr2:=[(4,gW 0 102 (l.map lkG))]) ⟨rfl,trivial⟩ O O) rfl ⟨rfl,rfl,rfl,rfl⟩
theorem SmallC.vl{c:Ch}(h:SmallC c):c.tree.nodes.length<=1000000000:=by have:=h.nodes;omega
noncomputable def ownC(b:Nat)(c:Ch):W:=.agg 3 [tW c.tree,.sl b 0 0 c.links.length 102 none]
noncomputable def ownH(b0 b1 b:Nat)(c:Ch):HpW:=[(b,132,.arr (c.links.length*102) 102 (c.links.map lkG)),(b1,70,ownC b c),(b0,70,chG c)]
theorem ctwin_o(c:Ch)(hs:SmallC c)(hne:c.links≠[]):yVq cfg G 76 0 [chG c] [] fun w hp nw=>w=ownC 2 c/\hp=ownH 0 1 2 c/\nw=3:=by
 have hne2:c.links.map lkG≠[]:=by simpa using hne
 have e:(c.links.map lkG).length=c.links.length:=List.length_map _;intro R;refine zXq (fn:=Tryz.f76) O O O (Ob rfl) (fun k0=>?_);refine ziq 10 O ?_;refine qJq O O O O O O (x9q c.tree hs.vl hs.vals) ?_;refine zsq 2 O ?_
 (refine yjq rfl (step_pl O O O O O (by simp[purL,purW]) (ctrn_s c.links false hs.len hs.link) (k9q _) ?_);refine⟨by first|rfl|kernel_rfl,?_⟩;rw[vHq hne2,vIq hne2,e])
 refine zsq 5 O ?_;exact fin (.inr rfl) Ent.refl rfl ⟨rfl,rfl,rfl,rfl⟩
theorem ren_own(τ:Nat->Nat)(b:Nat)(c:Ch):renW τ (ownC b c)=ownC (τ b) c:=by
 show W.agg 3 [renW τ (tW c.tree),_]=_;rw[zjq (qnq _)];rfl
theorem renH_own(τ:Nat->Nat)(a b d:Nat)(c:Ch):renH τ (ownH a b d c)=ownH (τ a) (τ b) (τ d) c:=by
 unfold ownH;have h:purW (.arr (c.links.length*102) 102 (c.links.map lkG))=true:=k9q _;simp only[renH,ren_own,zjq h,zjq (chG_pur c)]
theorem step_twin{o:Oper}{fr:FrW}{hp:HpW}{nw:Nat}{R:Res}{post:W->HpW->Nat->Res->Option EvW->Prop}{x:Operand}{xs:Array Operand}{ats:Array TypeId}{a us d:List W}(c:Ch)(hs:SmallC c)(hne:c.links≠[])(ho:o.op= .call ⟨.value x,xs,ats⟩)(hx:evW cfg G fr x=some (.fn 76 a d))(hxs:evLW cfg G fr xs.toList=some us)(hws:a++us++d=[chG c])(h:post (ownC (nw+2) c) (ownH (nw+0) (nw+1) (nw+2) c++hp) (nw+3) R (some .gen)):Step cfg G o fr hp nw R post:=by
 refine step_ownG ho hx rfl hxs hws (by simp[purL]) (ctwin_o c hs hne) ?_;rintro w hp1 nw1 ⟨rfl,rfl,rfl⟩;rw[ren_own,renH_own];exact h
theorem ctwin_s(c:Ch)(hs:SmallC c)(hne:c.links≠[]):PS cfg G 76 [chG c] (chG c):=fun R=>
 uJq (xVq (ctwin_o c hs hne) (Q:=fun w hp _=>View (blkA hp) w (chG c)) (fun w hp nw h=>by
  obtain⟨rfl,rfl,rfl⟩:=h;exact .agg (.cons (.pur (qnq _)) (.cons (.sl (full:=false) rfl (k9q _) (zCq Xr (by rw[List.length_map]) rfl) Xj) .nil))) R)
theorem hdZ_b:W.agg 98 [.int .i64 0,.arr 32 1 (List.replicate 32 (.int .u8 (.ofNat 0))),.arr 32 1 (List.replicate 32 (.int .u8 (.ofNat 0))),.arr 32 1 (List.replicate 32 (.int .u8 (.ofNat 0))),.int .i64 0]=hdW hdZ:=by
 rw[xeq];rfl
theorem chead_no(c:Ch)(hc:OkC c)(h:¬MayC c):PS cfg glK 67 [chG c] (.tup [hdW hdZ,.int .i64 8]):=by
 refine zNq (fn:=Tryz.f67) O O O (Ob rfl) (fun R k0=>?_);refine ziq 11 O ?_;refine zkq O O O O O O (yFq (w':=.int .i64 8) (Zwq c hc) (by rw[if_neg h])) ?_;refine zaq 6 O ?_;refine zfq (w':=.bool true) O O (congrArg W.bool Xg) ?_;refine zaq 5 O ?_;refine zfq (w':=hdW hdZ) O O hdZ_b ?_;refine zaq 7 O ?_;exact zhq (.inr rfl) O O
theorem uyq(c:Ch)(hc:OkC c)(h:MayC c){y:Lk}(hy:c.links[c.links.length-1]? =some y):PS cfg glK 67 [chG c] (.tup [hdW y.hdr,.int .i64 0]):=by
 have e:(c.links.map lkG).length=c.links.length:=List.length_map _;have h1:=h.one;have hl:=hc.len;refine zNq (fn:=Tryz.f67) O O O (Ob rfl) (fun R k0=>?_);refine ziq 11 O ?_;refine zkq O O O O O O (yFq (w':=.int .i64 0) (Zwq c hc) (by rw[if_pos h])) ?_;refine zaq 6 O ?_;refine zfq (w':=.bool false) O O (congrArg W.bool Xg) ?_;refine zaq 11 O ?_;refine zfq (w':=.int .i64 ((c.links.length:Nat):Int)) O O Xv ?_;refine zuq (c.links.length-1) O O Xm ⟨by omega,by omega⟩ ?_;refine zbq rfl (zBq (i:=c.links.length-1) O O O O O O O (z9q lkG hy)) ?_;refine zaq 7 O ?_;exact zhq (.inr rfl) O O
theorem cstate_s(c:Ch)(hc:OkC c)(hs:SmallC c)(i:Nat)(hm:MayC c){x:Lk}(hx:c.links[i]? =some x):PS cfg glK 65 [chG c,.int .i64 (i:Int)] (.tup [tW (verT c x.root),.int .i64 0]):=by
 have e:(c.links.map lkG).length=c.links.length:=List.length_map _;have hi:=kmq hx;refine zNq (fn:=Tryz.f65) O O O (Ob rfl) (fun R k0=>?_);refine ziq 12 O ?_;refine zkq O O O O O O (yFq (w':=.int .i64 0) (Zwq c hc) (by rw[if_pos hm])) ?_;refine zfq (w':=.bool false) O O (congrArg W.bool Xg) ?_;refine zaq 7 O ?_;refine zfq (w':=.bool false) O O (congrArg W.bool (ltI_not.2 Xd)) ?_;refine zaq 4 O ?_;refine zfq (w':=.int .i64 ((c.links.length:Nat):Int)) O O Xv ?_;refine zfq (w':=.bool false) O O (congrArg (fun b=>W.bool (!b)) (ltI_iff.2 Xd)) ?_;refine zaq 15 O ?_;refine zcq rfl (zBq (i:=i) O O O O O O O (z9q lkG hx)) ?_;refine zsq 2 O ?_;refine qJq O O O O O O (ver_s c.tree x.root) ?_;first|refine qJq O O O O O O (x9q (verT c x.root) hs.vl hs.vals) ?_|refine qJq O O O O O O (x9q c.tree hs.vl hs.vals) ?_
 refine zsq 5 O ?_;exact zhq (.inr rfl) O O
noncomputable def noCh:W:=.agg 3 [.agg 2 [.nils,.int .i64 0],.nils]
theorem take_at{α:Type}{l:List α}{i:Nat}{x:α}(h:l[i]? =some x):(l.take (i+1))[i]? =some x:=by
 rw[List.getElem?_take,if_pos (Nat.lt_succ_self _)];exact h
theorem ccut_s(c:Ch)(hc:OkC c)(hs:SmallC c)(i:Nat)(hm:MayC c){x:Lk}(hx:c.links[i]? =some x):PS cfg glK 64 [chG c,.int .i64 (i:Int)] (.tup [chG (cutC c i x),.int .i64 0]):=by
 have e:(c.links.map lkG).length=c.links.length:=List.length_map _;have hi:=kmq hx;have h1:=hs.len;have e2:((c.links.map lkG).take (i+1))=(c.links.take (i+1)).map lkG:=(List.map_take ..).symm;refine uSq (fn:=Tryz.f64) O O O (Ob rfl) (fun R k0=>?_);refine ziq 12 O ?_;refine zkq O O O O O O (yFq (w':=.int .i64 0) (Zwq c hc) (by rw[if_pos hm])) ?_;refine zfq (w':=.bool false) O O (congrArg W.bool Xg) ?_;refine zaq 7 O ?_;refine zfq (w':=.bool false) O O (congrArg W.bool (ltI_not.2 Xd)) ?_;refine zaq 4 O ?_;refine zfq (w':=.int .i64 ((c.links.length:Nat):Int)) O O Xv ?_;refine zfq (w':=.bool false) O O (congrArg (fun b=>W.bool (!b)) (ltI_iff.2 Xd)) ?_;refine zaq 11 O ?_;refine zkq O O O O O O (ctwin_s c hs (fun q=>by rw[q] at hi;cases hi)) ?_;refine zaq 9 O ?_;refine zuq (i+1) O O Xm ⟨by omega,by omega⟩ ?_;refine zbq O O (zuq (i+1) O O Xm ⟨by omega,by omega⟩ ?_);refine zbq rfl (cut_fz3 (ys:=(c.links.take (i+1)).map lkG) (h:=i+1) (m:=i+1) (g:=true) O O O O O O O O Xd (Nat.le_refl _) (by rw[e];omega) Xd (by rw[List.drop_zero,Nat.sub_zero];exact e2) (Nat.beq_refl _)) ?_;refine zaq 9 O ?_;refine zbq rfl (zBq (i:=i) O O O O O O O (z9q lkG (take_at hx))) ?_;refine zaq 15 O ?_;exact Y3q (.inr rfl) rfl (.tup (.cons (.agg (.cons (.pur (qnq (verT c x.root))) (.cons (.fzw (k9q _)) .nil))) (.cons (.pur rfl) .nil)))
end
section
attribute [local irreducible] CoW OpW FlW Step Spec
attribute [local simp] jUq
theorem LkS.of0{c:Ch}{box:Dig}{x:Lk}(h:∃n t0,IsA (verT c x.root) n t0/\x.hdr=firH t0/\x.ds=[]/\x.xs=[]):LkS c box 0 x:=⟨fun _=>h,fun y h0=>absurd h0 Xr⟩
theorem firH_b(t0:T):W.agg 98 [.int .i64 0,.arr 32 1 (List.replicate 32 (.int .u8 (.ofNat 0))),dW (sumD t0),dW (tagD 0 []),.int .i64 0]=hdW (firH t0):=by
 rw[xeq];rfl
end
section
attribute [local irreducible] CoW OpW FlW Step Spec
attribute [local simp] jUq
open Classical in
noncomputable def Q9q(t:Tree):List Pr:=if h:∃n t0,IsA t n t0 then h.choose_spec.choose.all else []
theorem u5q{t:Tree}{n:Nat}{t0:T}(h:IsA t n t0):Q9q t=t0.all:=by
 have e:∃n t0,IsA t n t0:=⟨n,t0,h⟩
 unfold Q9q;rw[dif_pos e,(h.uniq e.choose_spec.choose_spec).2]
structure CanAdd(c:Ch)(ds:List Depo)(xs:List Tx)(box:Dig):Prop where
 may:MayC c
 short:c.links.length<256
 many:ds.length<=16/\xs.length<=16
 goes:doX box (doD (Q9q c.tree) ds).1 xs≠none
noncomputable instance(c:Ch)(ds:List Depo)(xs:List Tx)(box:Dig):Decidable (CanAdd c ds xs box):=Classical.propDecidable _
noncomputable def addE(c:Ch)(ds:List Depo)(xs:List Tx)(box:Dig):Nat:=
 if¬MayC c then 8 else if 256<=c.links.length then 9 else if 16<ds.length\/16<xs.length then 4 else badX box (doD (Q9q c.tree) ds).1 xs
theorem addE_no{c:Ch}{ds:List Depo}{xs:List Tx}{box:Dig}(h:¬CanAdd c ds xs box):addE c ds xs box≠0:=by
 unfold addE;split
 ·decide
 ·split
  ·decide
  ·split
   ·decide
   ·rename_i h1 h2 h3;have:doX box (doD (Q9q c.tree) ds).1 xs=none:=Classical.byContradiction fun q=>h ⟨Classical.not_not.1 h1,by omega,by omega,q⟩
    have:=bad_no this;omega
def AddA(c:Ch)(ds:List Depo)(xs:List Tx)(box:Dig):W->Prop:=fun w=>
 (CanAdd c ds xs box/\∃y t' t1 L,Adds c ds xs box y t' t1 L/\t'.nodes.length<=c.tree.nodes.length+21000/\w= .tup [chG (addC c t' (jbq y.hdr t1 L) ds xs L),.int .i64 0])\/(¬CanAdd c ds xs box/\w= .tup [noCh,.int .i64 (addE c ds xs box:Nat)])
noncomputable def addX(t':Tree)(h:Hdr)(ds:List Depo)(xs:List Tx)(L:List Rec):W:=.agg 102 [hdW h,.int .i64 t'.root,bodW ds xs false false,.fz (L.map recW) 34 false]
theorem addX_l(t':Tree)(h:Hdr)(ds:List Depo)(xs:List Tx)(L:List Rec):addX t' h ds xs L=lkG (addL t' h ds xs L):=by
 show addX t' h ds xs L= .agg 102 [hdW h,.int .i64 t'.root,bodW ds xs false false,.fz ((L.map recI).map rcW) 34 false];rw[recI_w];rfl
theorem cadd_s(c:Ch)(hc:OkC c)(hs:SmallC c)(hn:c.tree.nodes.length<=200000)(ds:List Depo)(xs:List Tx)(hB:BodOk ds xs)(box:Dig):PE cfg glK 58 [chG c,bodW ds xs false false,dW box] (AddA c ds xs box):=by
 have e:(c.links.map lkG).length=c.links.length:=List.length_map _;have refuse:∀k:Nat,¬CanAdd c ds xs box->addE c ds xs box=k->∀w,w=W.tup [noCh,.int .i64 (k:Int)] ->AddA c ds xs box w:=fun k h1 h2 w h3=>.inr ⟨h1,by rw[h2];exact h3⟩
 by_cases hm:MayC c
 ·obtain⟨y,hy,hroot,hmy⟩:=hm.last;have hno:=hm.one;by_cases hf:c.links.length<256
  ·obtain⟨n,t0,hA,_⟩:=hm.head hy;have hh:=u5q hA;have hhy:=hmy.height;have hbk:MayBk c.tree y.hdr:=⟨⟨n,t0,hA⟩,hmy.hdr,by omega⟩;by_cases hmany:ds.length<=16/\xs.length<=16
   ·have hP:=apply_s c.tree n t0 hA y.hdr hmy.hdr Xd ds xs false false hB.dep hB.tx box hmany Xd;cases hst:doX box (doD t0.all ds).1 xs with
    |none=>
     have hb:=bad_no hst;have hP:=pe_mono hP fun w h=>ap_none h hst
     refine jGq (fn:=Tryz.f58) O O O (Ob rfl) (fun R k0=>?_);refine ziq 12 O ?_;refine zkq O O O O O O (uyq c hc hm hy) ?_;refine zaq 13 O ?_;refine zfq (w':=.bool false) O O (congrArg W.bool Xg) ?_;refine zaq 8 O ?_;refine zfq (w':=.int .i64 ((c.links.length:Nat):Int)) O O Xv ?_;refine zfq (w':=.bool false) O O (congrArg W.bool (eqI_not.2 Xd)) ?_;refine zaq 14 O ?_
     (refine zoq rfl (q1q O O O O O (hP) Xl ?_);rintro w hw rfl)
     refine zaq 17 O ?_;refine zfq (w':=.bool true) O O (congrArg (fun b=>W.bool (!b)) (eqI_not.2 Xd)) ?_;refine zaq 13 O ?_;exact qoq (w':=.tup [noCh,.int .i64 (badX box (doD t0.all ds).1 xs:Nat)]) (.inr rfl) rfl (.pur rfl) rfl (refuse _ (fun q=>q.goes (by rw[hh,hst])) (by unfold addE;rw[if_neg (fun q=>q hm),if_neg Xd,if_neg Xd,hh]) _ rfl)
    |some r=>
     obtain⟨l,rs⟩:=r;obtain⟨L,hL⟩:∃L,(doD t0.all ds).2++rs=L:=⟨_,rfl⟩
     have hrl:=Ytq hst;have hdl:=Yuq ds t0.all;simp only at hrl;have hLl:L.length<=32:=by rw[<-hL,List.length_append];omega
     have hca:CanAdd c ds xs box:=⟨hm,hf,hmany,by rw[hh,hst];intro q;cases q⟩;refine jGq (fn:=Tryz.f58) O O O (Ob rfl) (fun R k0=>?_);refine ziq 12 O ?_;refine zkq O O O O O O (uyq c hc hm hy) ?_;refine zaq 13 O ?_;refine zfq (w':=.bool false) O O (congrArg W.bool Xg) ?_;refine zaq 8 O ?_;refine zfq (w':=.int .i64 ((c.links.length:Nat):Int)) O O Xv ?_;refine zfq (w':=.bool false) O O (congrArg W.bool (eqI_not.2 Xd)) ?_;refine zaq 14 O ?_;skip
     refine zoq rfl (q1q O O O O O hP Xl ?_);rintro w hw hq;obtain⟨t',n',t1,hT,hgo,rfl⟩:=ap_some hq hst;rw[hL];have hadd:Adds c ds xs box y t' t1 L:=⟨hm,hf,hy,hmany,⟨n,t0,n',rs,hA,hT,by rw[hst,hgo.1],hL.symm⟩,by obtain⟨ms,e1,_⟩:=hgo.2;exact⟨ms,e1⟩⟩;have hgrow:t'.nodes.length<=c.tree.nodes.length+21000:=by obtain⟨ms,e1,e2⟩:=hgo.2;rw[e1,List.length_append];omega
     have hz:=addX_l t' (jbq y.hdr t1 L) ds xs L;have ep:purL (c.links.map lkG++[addX t' (jbq y.hdr t1 L) ds xs L])=true:=by rw[hz];exact k9q (c.links++[addL t' (jbq y.hdr t1 L) ds xs L])▸by rw[List.map_append];rfl
     skip
     refine zaq 17 O ?_;refine zfq (w':=.bool false) O O (congrArg W.bool Xg) ?_;refine zaq 8 O ?_
     (refine zoq rfl (step_twin c hs (fun q=>by rw[q] at hno;cases hno) O O O O ?_))
     refine zaq 12 O ?_;refine zkq O O O O O (by rw[<-hz];rfl) (clink_s (addL t' (jbq y.hdr t1 L) ds xs L) ⟨by show ds.length<=_;omega,by show xs.length<=_;omega,by show(L.map recI).length<=_;rw[List.length_map];omega⟩) ?_;rw[<-hz]
     refine zaq 11 O ?_;refine y1q rfl (quq O O (qNq (k:=ti132) (len:=c.links.length) (news:=[addX t' (jbq y.hdr t1 L) ds xs L]) (olds:=c.links.map lkG) O O O O (jrq O O O O) Xl (by show(c.links.length+1)*192<=_;omega) (by show c.links.length+1<=_;omega) rfl (by show c.links.length*102<0+(c.links.length+1)*102;omega) rfl (zCq Xr e.symm rfl))) Xu ?_;refine zsq 14 O ?_;have hmap:(c.links++[addL t' (jbq y.hdr t1 L) ds xs L]).map lkG=c.links.map lkG++[addX t' (jbq y.hdr t1 L) ds xs L]:=by rw[List.map_append,hz];rfl
     exact qoq (w':=.tup [.agg 3 [tW t',.fz (c.links.map lkG++[addX t' (jbq y.hdr t1 L) ds xs L]) 102 false],.int .i64 0]) (.inr rfl) rfl (.tup (.cons (.agg (.cons (.pur (qnq t')) (.cons (.sl (full:=false) rfl ep (zCq Xr Xl rfl) Xj) .nil))) (.cons (.pur rfl) .nil))) (by show((purW (tW t')&&(purL _&&true))&&_)=true;rw[qnq,ep];rfl) (.inl ⟨hca,y,t',t1,L,hadd,hgrow,by rw[<-hmap];rfl⟩)
   ·have hpr:purW (refW 4)=true:=by
     show(purW noT&&(purW (hdW hdZ)&&(true&&(true&&true))))=true;rw[Z9q];rfl
    refine jGq (fn:=Tryz.f58) O O O (Ob rfl) (fun R k0=>?_);refine ziq 12 O ?_;refine zkq O O O O O O (uyq c hc hm hy) ?_;refine zaq 13 O ?_;refine zfq (w':=.bool false) O O (congrArg W.bool Xg) ?_;refine zaq 8 O ?_;refine zfq (w':=.int .i64 ((c.links.length:Nat):Int)) O O Xv ?_;refine zfq (w':=.bool false) O O (congrArg W.bool (eqI_not.2 Xd)) ?_;refine zaq 14 O ?_;refine zkq O O O O O O (apply_many c.tree y.hdr ds xs false false box Xd hbk Xd) ?_;refine zaq 17 O ?_;refine zfq (w':=.bool true) O O (congrArg W.bool Xg) ?_;refine zaq 13 O ?_;exact qoq (w':=.tup [noCh,.int .i64 (4:Nat)]) (.inr rfl) rfl (.pur rfl) rfl (refuse 4 (fun q=>hmany q.many) (by unfold addE;rw[if_neg (fun q=>q hm),if_neg Xd,if_pos Xd]) _ rfl)
  ·have h256:=hm.len;refine jGq (fn:=Tryz.f58) O O O (Ob rfl) (fun R k0=>?_);refine ziq 12 O ?_;refine zkq O O O O O O (uyq c hc hm hy) ?_;refine zaq 13 O ?_;refine zfq (w':=.bool false) O O (congrArg W.bool Xg) ?_;refine zaq 8 O ?_;refine zfq (w':=.int .i64 ((c.links.length:Nat):Int)) O O Xv ?_;refine zfq (w':=.bool true) O O (congrArg W.bool (eqI_iff.2 Xd)) ?_;refine zaq 14 O ?_;exact qoq (w':=.tup [noCh,.int .i64 (9:Nat)]) (.inr rfl) rfl (.pur rfl) rfl (refuse 9 (fun q=>hf q.short) (by unfold addE;rw[if_neg (fun q=>q hm),if_pos Xd]) _ rfl)
 ·skip
  refine jGq (fn:=Tryz.f58) O O O (Ob rfl) (fun R k0=>?_);refine ziq 12 O ?_;refine zkq O O O O O O (chead_no c hc hm) ?_;refine zaq 13 O ?_;refine zfq (w':=.bool true) O O (congrArg W.bool Xg) ?_;refine zaq 15 O ?_;exact qoq (w':=.tup [noCh,.int .i64 (8:Nat)]) (.inr rfl) rfl (.pur rfl) rfl (refuse 8 (fun q=>hm q.may) (by unfold addE;rw[if_pos hm]) _ rfl)
end
noncomputable def fz{α:Type}(n:Nat)(c:Nat->α):α:=Nat.rec (c 0) (fun m _=>c (Nat.succ m)) n
noncomputable def wS(bs:Nat->Nat)(i:Nat):Nat:=(qGq bs (i+1)).getD i 0
section
attribute [local irreducible] CoW OpW FlW Step Spec
variable {G:Nat->Option W}
def HeldB(ps:List Pr):Prop:=∀p∈ps,(jEq p.2).2=0
noncomputable instance(ps:List Pr):Decidable (HeldB ps):=Classical.propDecidable _
theorem mayA_iff{t:Tree}{n:Nat}{t0:T}(h:IsT t n t0):MayA t↔HeldB t0.all:=by
 constructor
 ·rintro⟨n',t',h'⟩;have hn:n=n':=by have:=h.root;have:=h'.root;omega
  subst hn;rw[h.rep.uniq h'.rep];exact h'.held
 ·exact fun q=>⟨n,t0,h,q⟩
end
section
attribute [local irreducible] CoW OpW FlW Step Spec
variable {G:Nat->Option W}
theorem mayp_srt{l:List Pr}(h:MayP l):Srt l:=by
 have key:∀n i j (hi:i<l.length) (hj:j<l.length),i+n+1=j->y0q l[i].1 l[j].1=true:=by
  intro n;induction n with
  |zero=>
   intro i j hi hj e;subst e;exact(h.2 (i+1) hj l[i+1] (List.getElem?_eq_getElem hj)).2 l[i] Xd (by show l[i+1-1]? =_;rw[Nat.add_sub_cancel];exact List.getElem?_eq_getElem hi)
  |succ n ih=>
   intro i j hi hj e;have h1:=ih i (j-1) hi Xd Xd;have h2:=(h.2 j hj l[j] (List.getElem?_eq_getElem hj)).2 l[j-1] Xd (List.getElem?_eq_getElem Xd);exact YNq h1 h2
 exact List.pairwise_iff_getElem.2 fun i j hi hj hij=>key (j-i-1) i j hi hj Xd
theorem take_with{l:List Pr}(h:Srt l){i:Nat}{x:Pr}(hx:l[i]? =some x):xnq (l.take i) x.1 x.2=l.take (i+1):=by
 obtain⟨hi,ex⟩:=List.getElem?_eq_some_iff.1 hx
 have hp:∀p∈l.take i,y0q p.1 x.1=true:=fun p hp=>by
  obtain⟨j,hj⟩:=List.getElem?_of_mem hp;obtain⟨hj1,hj2⟩:=List.getElem?_eq_some_iff.1 hj;rw[List.length_take] at hj1;rw[List.getElem_take] at hj2;rw[<-hj2,<-ex];exact List.pairwise_iff_getElem.1 h j i Xd hi Xd
 unfold xnq;rw[List.filter_eq_self.2 hp,List.filter_eq_nil_iff.2 fun p q=>by rw[kgq (hp p q)];simp,List.take_add_one,hx];rfl
def okB(l:List Pr):Prop:=MayP l/\HeldB l
noncomputable instance(l:List Pr):Decidable (okB l):=Classical.propDecidable _
end
section
attribute [local irreducible] CoW OpW FlW Step Spec
noncomputable def newL(t:Tree)(t0:T):Lk:=⟨firH t0,t.root,[],[],[]⟩
noncomputable abbrev newX(t:Tree)(t0:T):W:=.agg 102 [hdW (firH t0),.int .i64 t.root,.agg 2 [.fz [] 34 false,.fz [] 99 false],.fz [] 34 false]
noncomputable def newC(t:Tree)(t0:T):Ch:=⟨t,[newL t t0]⟩
def ChNA(l:List Pr):W->Prop:=fun w=>(¬okB l/\w= .tup [noCh,.int .i64 8])\/(okB l/\∃t n t0,IsA t n t0/\t0.all=l/\t.nodes.length<=257*l.length/\w= .tup [chG (newC t t0),.int .i64 0])
theorem cnew_s(l:List Pr)(f:Bool)(hb:l.length<=1000000000):PE cfg glK 56 [.fz (l.map pW) 33 f] (ChNA l):=by
 by_cases hm:MayP l
 ·have hs:=mayp_srt hm;have e:(l.map pW).length=l.length:=List.length_map _;have h512:=hm.1;refine jGq (fn:=Tryz.f56) O O O (Ob rfl) (fun R k0=>?_);refine ziq 10 O ?_;refine zkq O O O O O O (yFq (w':=.int .i64 0) (QYq l f Xd) (by rw[if_pos hm])) ?_;refine zaq 21 O ?_;refine zfq (w':=.int .i64 (l.length:Int)) O O Xv ?_;refine zaq 4 O ?_;refine co_ent (ent_blkv (b:=1) (w':=tW ⟨[],0⟩) rfl (.agg (.cons .nilfz (.cons (.pur rfl) .nil)))) ?_;refine Jtq (α:=Nat×Tree×T) (fun p=>p.1<=l.length/\(∃n,IsT p.2.1 n p.2.2)/\p.2.2.all=l.take p.1/\p.2.1.nodes.length<=257*p.1) (fun p=>[(22,.int .i64 (p.1:Int))]) [(2,_),(3,_),(5,_),(20,_),(21,_)] (fun p=>[(1,24,tW p.2.1),(0,70,noCh)]) (fun p=>l.length-p.1) ((0,⟨[],0⟩,.nil)) ⟨rfl,rfl,rfl,rfl,rfl,trivial⟩ (⟨Nat.zero_le _,⟨0,by show(0:Nat)<=_;omega,fun i x h=>by simp at h,rfl,.nil,rfl⟩,rfl,Nat.le_refl _⟩) ⟨rfl,trivial⟩ (rfl) (fun p hI=>?_);obtain⟨i,t,t0⟩:=p;obtain⟨g1,⟨n,g2⟩,g3,g4⟩:=hI;simp only at g1 g2 g3 g4⊢;refine ziq 6 O ?_;refine zEq rfl (fun h1=>?_) (fun h1=>?_)
  ·have hi:i<l.length:=by omega
   obtain⟨x,hx⟩:∃x,l[i]? =some x:=⟨_,List.getElem?_eq_getElem hi⟩
   have hv:MayP [(x.1,x.2)]:=(mayp_val x.1 x.2).2 (hm.2 i hi x hx).1;refine zgq 6 O ?_;refine zbq rfl (zBq (i:=i) O O O O O O O (z9q pW hx)) ?_;refine zaq 12 O ?_
   (refine zoq rfl (q1q O O O O O (tput_s t n t0 x.1 x.2 false g2 hv Xd) Xl ?_);rintro w hw ⟨t',n',ht',⟨ms,hms,hml⟩,rfl⟩)
   refine zaq 12 O ?_;refine zfq (w':=.bool false) O O (congrArg W.bool Xg) ?_;refine zaq 12 O ?_;refine zuq (i+1) O O Xm ⟨by omega,by omega⟩ ?_;refine y5q 2 O ?_;have hall:(t0.put x.1 x.2 256).all=l.take (i+1):=by rw[(jVq x.1 x.2 256 t0 (d:=0) (b:=joq) rfl jMq g2.ok (Nat.zero_le _)).2,g3];exact take_with hs hx
   exact q_againH ((i+1,t',t0.put x.1 x.2 256)) (⟨hi,⟨n',ht'⟩,hall,by show t'.nodes.length<=_;rw[hms,List.length_append];omega⟩) Yi (Nat.zero_le _) ⟨rfl,trivial⟩ ⟨rfl,rfl,rfl,rfl,rfl,trivial⟩ Xh Xh Xd Xq Yk
  ·have hi:i=l.length:=by omega
   have hall:t0.all=l:=by rw[g3,hi,List.take_length]
   have hiff:=mayA_iff g2;rw[hall] at hiff;by_cases hh:HeldB l
   ·skip
    have hA:MayA t:=hiff.2 hh;obtain⟨n2,t2,hA2⟩:=hA;refine zgq 2 O ?_;refine jaq Xj ?_;refine zDq 6 O ?_;refine zkq O O O O O O (yFq (w':=.int .i64 0) (qCq t Xd) (by rw[if_pos ⟨n2,t2,hA2⟩])) ?_;refine zaq 6 O ?_;refine zfq (w':=.bool false) O O (congrArg W.bool Xg) ?_;refine zaq 8 O ?_;refine zkq O O O O O O (tsum_ok t n t0 g2) ?_;refine zaq 11 O ?_;refine qJq O O O O O O vtq ?_;refine qsq (w':=hdW (firH t0)) O O (by show W.agg 98 [_,W.arr 32 1 (List.replicate 32 (.int .u8 (.ofNat 0))),_,_,_]=_;rw[xeq];rfl) ?_;refine zsq 18 O ?_;refine qoq (w':=.tup [.agg 3 [tW t,.fz [newX t t0] 102 false],.int .i64 0]) (.inr rfl) rfl (.tup (.cons (.agg (.cons (.pur Xl) (.cons (.sl2 (full:=false) (c':=newX t t0) (xs:=[newX t t0]) rfl (.agg (.cons (.pur (Z9q _)) (.cons (.pur rfl) (.cons (.agg (.cons .nilfz (.cons .nilfz .nil))) (.cons .nilfz .nil))))) rfl Xj) .nil))) (.cons (.pur rfl) .nil))) (by simp[purW,purL]) (.inr ⟨⟨hm,hh⟩,t,n,t0,?_,hall,by rw[<-hi];exact g4,rfl⟩);exact⟨g2,by rw[hall];exact hh⟩
   ·refine zgq 2 O ?_;refine jaq Xj ?_;refine zDq 6 O ?_;refine zkq O O O O O O (yFq (w':=.int .i64 8) (qCq t Xd) (by rw[if_neg (fun q=>hh (hiff.1 q))])) ?_;refine zaq 6 O ?_;refine zfq (w':=.bool true) O O (congrArg W.bool Xg) ?_;refine zaq 13 O ?_;exact qoq (w':=.tup [noCh,.int .i64 8]) (.inr rfl) rfl (.pur rfl) rfl (.inl ⟨fun q=>hh q.2,rfl⟩)
 ·skip
  refine jGq (fn:=Tryz.f56) O O O (Ob rfl) (fun R k0=>?_);refine ziq 10 O ?_;refine zkq O O O O O O (yFq (w':=.int .i64 8) (QYq l f Xd) (by rw[if_neg hm])) ?_;refine zaq 20 O ?_;exact qoq (w':=.tup [noCh,.int .i64 8]) (.inr rfl) rfl (.pur rfl) rfl (.inl ⟨fun q=>hm q.1,rfl⟩)
theorem newC_is{t:Tree}{n:Nat}{t0:T}(h:IsA t n t0)(box:Dig):SoundC (newC t t0) box:=by
 refine⟨⟨by simp[newC],by simp[newC],fun x e=>by cases e;rfl,fun i x e=>?_⟩,fun i x e=>?_⟩
 ·have hi:=kmq e;obtain rfl:i=0:=by simp[newC] at hi;exact hi
  cases e;exact⟨rfl,⟨by show(0:Int)<=0;decide,by show(0:Int)<=1073741824;decide,by show(0:Int)<=0;decide,by show(0:Int)<=256;decide⟩,fun y h0=>absurd h0 Xr,rfl,⟨Nat.zero_le _,Nat.zero_le _,fun x h=>by cases h⟩,n,t0,h⟩
 ·have hi:=kmq e;obtain rfl:i=0:=by simp[newC] at hi;exact hi
  cases e;exact LkS.of0 ⟨n,t0,h,rfl,rfl,rfl⟩
end
section
attribute [local irreducible] CoW OpW FlW Step Spec
section
variable {c:Ch} {ds:List Depo} {xs:List Tx} {box:Dig} {y:Lk} {t':Tree} {t1:T} {L:List Rec}
theorem Adds.tree(h:Adds c ds xs box y t' t1 L):∃n,IsA t' n t1:=by
 obtain⟨n,t0,n1,rs,h1,h2,_⟩:=h.is;exact⟨n1,h2⟩
theorem Adds.few(h:Adds c ds xs box y t' t1 L):L.length<=32:=by
 obtain⟨n,t0,n1,rs,h1,h2,h3,rfl⟩:=h.is;have e1:=Ytq h3;simp only at e1;have:=Yuq ds t0.all;have:=h.many;rw[List.length_append];omega
theorem Adds.okc(h:Adds c ds xs box y t' t1 L)(hc:OkC c)(hB:BodOk ds xs)(g:Hdr):OkC (addC c t' g ds xs L):=by
 obtain⟨n,hT⟩:=h.tree;have hl:=hT.len;have hs:=h.short;have hf:=h.few;refine⟨fun x hx=>?_,by show t'.nodes.length<=_;omega,by show(c.links++[_]).length<=_;rw[List.length_append];show _+1<=_;omega,fun x hx=>?_⟩
 ·rcases List.mem_append.1 hx with q|q
  ·exact hc.body x q
  ·rw[List.mem_singleton.1 q];exact hB
 ·rcases List.mem_append.1 hx with q|q
  ·exact hc.recs x q
  ·rw[List.mem_singleton.1 q];show(L.map recI).length<=_;rw[List.length_map];omega
theorem Adds.smallc(h:Adds c ds xs box y t' t1 L)(hs:SmallC c)(g:Hdr):SmallC (addC c t' g ds xs L):=by
 obtain⟨n,hT⟩:=h.tree;have hl:=hT.len;have hsh:=h.short;have hf:=h.few;have hm:=h.many;refine⟨by show t'.nodes.length<=_;omega,IsT.vals (root:=t'.root) hT.toIsT,by show(c.links++[_]).length<=_;rw[List.length_append];show _+1<=_;omega,fun x hx=>?_⟩;rcases List.mem_append.1 hx with q|q
 ·exact hs.link x q
 ·rw[List.mem_singleton.1 q];refine⟨by show ds.length<=_;omega,by show xs.length<=_;omega,?_⟩;show(L.map recI).length<=_;rw[List.length_map];omega
end
theorem OkC.cut{c:Ch}(hc:OkC c)(i:Nat)(x:Lk):OkC (cutC c i x):=
 ⟨fun y hy=>hc.body y (List.mem_of_mem_take hy),hc.nodes,by have:=hc.len;show(c.links.take _).length<=_;rw[List.length_take];omega,fun y hy=>hc.recs y (List.mem_of_mem_take hy)⟩
theorem SmallC.cut{c:Ch}(hs:SmallC c)(i:Nat)(x:Lk):SmallC (cutC c i x):=
 ⟨hs.nodes,hs.vals,by have:=hs.len;show(c.links.take _).length<=_;rw[List.length_take];omega,fun y hy=>hs.link y (List.mem_of_mem_take hy)⟩
theorem greatc_small{c:Ch}{n:Nat}(hn:n<=1000)(h:¬QEq c n):SmallC c:=by
 obtain⟨h1,h2,h3⟩:=greatc_no h;refine⟨by omega,fun x hx=>?_,by omega,fun x hx=>?_⟩
 ·obtain⟨j,hj⟩:=List.getElem?_of_mem hx;have:=kmq hj;refine Nat.le_of_not_lt fun q=>h (.inl (.inr ⟨j,x,by omega,hj,by omega⟩))
 ·obtain⟨k1,k2⟩:=h3 x hx;unfold yRq at k1;omega
theorem newC_ok{t:Tree}{n:Nat}{t0:T}(h:IsA t n t0):OkC (newC t t0)/\SmallC (newC t t0):=by
 have hl:=h.len;refine⟨⟨fun x hx=>?_,by show t.nodes.length<=_;omega,by show 1<=_;decide,fun x hx=>?_⟩,⟨by show t.nodes.length<=_;omega,IsT.vals (root:=t.root) h.toIsT,by show 1<=_;decide,fun x hx=>?_⟩⟩;all_goals rw[List.mem_singleton.1 hx]
 ·exact⟨(fun d h=>by cases h),(fun d h=>by cases h),Nat.zero_le _,Nat.zero_le _⟩
 ·exact Nat.zero_le _
 ·exact⟨Nat.zero_le _,Nat.zero_le _,Nat.zero_le _⟩
theorem okB_nil:okB []:=⟨⟨by decide,fun i hi x h=>by cases h⟩,fun p h=>by cases h⟩
theorem bodN:BodOk [] []:=⟨(fun d h=>by cases h),(fun d h=>by cases h),Nat.zero_le _,Nat.zero_le _⟩
theorem vlq:PS cfg glK 63 [] (.bool true):=by
 refine zNq (fn:=Tryz.f63) O O O (Ob rfl) (fun R k0=>?_);refine ziq 7 O ?_;skip
 refine zoq rfl (q1q O O O O O (pe_view (.cons .nilfz .nil) (cnew_s [] false Xr)) O ?_);rintro w hw (⟨hn,rfl⟩|⟨_,t,n,t0,hA,hall,hn0,rfl⟩)
 ·exact absurd okB_nil hn
 obtain rfl:t0= .nil:=T.uniq jMq hA.toIsT.ok rfl hall;have hl:t.nodes.length<=257*0:=hn0;obtain⟨hok,hsm⟩:=newC_ok hA;have hM:=newC_is hA joq;have hca:CanAdd (newC t .nil) [] [] joq:=⟨hM.toMayC,by show 1<256;decide,by decide,by intro q;cases q⟩;skip
 refine zaq 11 O ?_;refine zkq O O O O O O (uyq (newC t .nil) hok hM.toMayC (y:=newL t .nil) rfl) ?_;refine zaq 12 O ?_;refine zfq O O xeq ?_;skip
 refine zoq rfl (q1q O O O O O (pe_view (.cons (.pur (chG_pur _)) (.cons (.agg (.cons .nilfz (.cons .nilfz .nil))) (.cons (.pur (kqq _)) .nil))) (cadd_s (newC t .nil) hok hsm (by show t.nodes.length<=_;omega) [] [] bodN joq)) (by simp[purL,purW]) ?_);rintro w hw (⟨_,y,t',t1,L,hadd,_,rfl⟩|⟨hno,_⟩)
 ·obtain rfl:y=newL t .nil:=by have:=hadd.last;cases this;rfl
  have hok2:=hadd.okc hok bodN (jbq (newL t .nil).hdr t1 L);have hsm2:=hadd.smallc hsm (jbq (newL t .nil).hdr t1 L);have hM2:=hadd.mayc;have hM3:=hM2.cut (h:=0) (x:=newL t .nil) rfl;skip
  refine zaq 11 O ?_;refine zkq O O O O O O (uyq _ hok2 hM2 (y:=addL t' (jbq (newL t .nil).hdr t1 L) [] [] L) rfl) ?_;refine zaq 11 O ?_;refine zkq O O O O O O (ccut_s _ hok2 hsm2 0 hM2 (x:=newL t .nil) rfl) ?_;refine zaq 11 O ?_;refine zkq O O O O O O (uyq _ (hok2.cut 0 _) hM3 (y:=newL t .nil) rfl) ?_;refine zaq 11 O ?_;refine qsq (w':=.bool true) O O (congrArg W.bool Xg) ?_;refine zsq 2 O ?_;refine qsq (w':=.bool true) O O (congrArg W.bool Xg) ?_;refine zsq 3 O ?_;refine qJq O O O O O O (vtq) ?_;refine qJq O O O O O O (vtq) ?_;refine qsq (w':=hdW (firH .nil)) O O (firH_b .nil) (qsq (w':=.bool true) rfl (qzq O O O O (eq_hd (firH .nil) (firH .nil))) (by rw[decide_eq_true rfl]) ?_);refine zsq 3 O ?_;refine qsq (w':=.bool true) O O (congrArg W.bool Xg) ?_;refine zsq 3 O ?_;refine qsq (w':=.bool true) O O (congrArg W.bool Xg) ?_;refine zsq 4 O ?_;refine qsq (w':=.bool true) O O (congrArg W.bool Xg) ?_;refine zsq 3 O ?_;refine qsq (w':=.bool true) O O (congrArg W.bool Xg) ?_;refine zsq 3 O ?_;refine qsq (w':=.bool true) O O (congrArg W.bool Xg) ?_;refine zsq 4 O ?_;refine qsq (w':=.bool true) rfl (qzq O O O O (eq_hd (firH .nil) (firH .nil))) (by rw[decide_eq_true rfl]) ?_;refine zsq 5 O ?_;exact zhq (.inr rfl) O O
 ·exact absurd hca hno
end
section
attribute [local irreducible] CoW OpW FlW Step Spec
variable {G:Nat->Option W}
def SameK(x y:Lk):Prop:=x.hdr=y.hdr/\(x.ds=y.ds/\x.xs=y.xs)/\x.rs=y.rs
noncomputable instance(x y:Lk):Decidable (SameK x y):=Classical.propDecidable _
theorem rslink_s(x y:Lk)(h:x.ds.length<=1000000/\x.xs.length<=1000000/\x.rs.length<=1000000):PS cfg G 66 [lkG x,lkG y] (.bool (decide (SameK x y))):=by
 obtain⟨h1,h2,h3⟩:=h;refine zNq (fn:=Tryz.f66) O O O (Ob rfl) (fun R k0=>?_);refine ziq 13 O ?_;refine op_dec rfl (qzq O O O O (eq_hd _ _)) yMq (fun h1=>?_) (fun h1=>?_)
 ·refine zaq 5 O ?_;refine zkq O O O O O O (rsbody_s x.ds x.xs y.ds y.xs false false false false Xd Xd) ?_;refine xvq (fun h2=>?_) (fun h2=>?_)
  ·refine zaq 6 O ?_;refine zkq O O O O O O (rseqr_s x.rs y.rs false false Xd) ?_;refine zaq 5 O ?_;exact zhq (.inr rfl) rfl (dec_c ⟨fun q=>⟨by assumption,by assumption,q⟩,fun q=>q.2.2⟩)
  ·refine zaq 12 O ?_;exact zhq (.inr rfl) rfl (Joq fun q=>absurd q.2.1 Yh)
 ·refine zaq 18 O ?_;exact zhq (.inr rfl) rfl (Joq fun q=>absurd q.1 Yh)
theorem Adds.det{c c2:Ch}{ds:List Depo}{xs:List Tx}{box:Dig}{y y2:Lk}{t' t2':Tree}{t1 t2:T}{L L2:List Rec}(h:Adds c ds xs box y t' t1 L)(h2:Adds c2 ds xs box y2 t2' t2 L2)(e:Q9q c.tree=Q9q c2.tree):t1=t2/\L=L2:=by
 obtain⟨n,t0,n1,rs,a1,a2,a3,a4⟩:=h.is;obtain⟨m,u0,m1,rs',b1,b2,b3,b4⟩:=h2.is;rw[u5q a1,u5q b1] at e;rw[e,b3] at a3;have q:=Option.some.inj a3;have q1:t2.all=t1.all:=congrArg Prod.fst q;have q2:rs'=rs:=congrArg Prod.snd q;exact⟨(b2.toIsT.same a2.toIsT q1).symm,by rw[a4,b4,e,q2]⟩
theorem take_snoc{α:Type}{l:List α}{a:α}{n:Nat}(h:n=l.length):(l++[a]).take n=l:=by
 subst h;simp
theorem Adds.back{c:Ch}{ds:List Depo}{xs:List Tx}{box:Dig}{y:Lk}{t':Tree}{t1:T}{L:List Rec}(h:Adds c ds xs box y t' t1 L)(g:Hdr):cutC (addC c t' g ds xs L) (c.links.length-1) y=⟨⟨t'.nodes,y.root⟩,c.links⟩:=by
 have:=h.may.one;unfold cutC verT addC;rw[take_snoc Xd]
theorem get_old{α:Type}{l:List α}{a x:α}{i:Nat}(h:l[i]? =some x):(l++[a])[i]? =some x:=by
 rw[List.getElem?_append_left (kmq h)];exact h
end
section
attribute [local irreducible] CoW OpW FlW Step Spec
theorem get_new{α:Type}(l:List α)(a:α):(l++[a])[l.length]? =some a:=by simp
theorem back17_s(c:Ch)(hc:OkC c)(ds:List Depo)(xs:List Tx)(hB:BodOk ds xs)(es:List Depo)(ys:List Tx)(hB2:BodOk es ys)(box:Dig):PS cfg glK 9 [chG c,bodW ds xs false false,bodW es ys false false,dW box] (.bool true):=by
 have e:(c.links.map lkG).length=c.links.length:=List.length_map _;by_cases hg:QEq c 5
 ·skip
  refine zNq (fn:=Tryz.f9) O O O (Ob rfl) (fun R k0=>?_);refine ziq 11 O ?_;refine zkq O O O O O O (vlq) ?_;refine zaq 7 O ?_;refine zkq O O O O O O (yFq (w':=.bool true) (Zpq c 5 hc.nodes hc.len) (by rw[decide_eq_true (hg)])) ?_;refine zaq 23 O ?_;exact zhq (.inr rfl) O O
 by_cases hk:yRq ds xs
 ·skip
  refine zNq (fn:=Tryz.f9) O O O (Ob rfl) (fun R k0=>?_);refine ziq 11 O ?_;refine zkq O O O O O O (vlq) ?_;refine zaq 7 O ?_;refine zkq O O O O O O (yFq (w':=.bool false) (Zpq c 5 hc.nodes hc.len) Qh) ?_;refine zaq 2 O ?_;refine zkq O O O O O O (yFq (w':=.bool true) (kHq ds xs false false) (by rw[decide_eq_true (hk)])) ?_;refine zaq 20 O ?_;exact zhq (.inr rfl) O O
 by_cases hk2:yRq es ys
 ·skip
  refine zNq (fn:=Tryz.f9) O O O (Ob rfl) (fun R k0=>?_);refine ziq 11 O ?_;refine zkq O O O O O O (vlq) ?_;refine zaq 7 O ?_;refine zkq O O O O O O (yFq (w':=.bool false) (Zpq c 5 hc.nodes hc.len) Qh) ?_;refine zaq 2 O ?_;refine zkq O O O O O O (yFq (w':=.bool false) (kHq ds xs false false) (by rw[decide_eq_false (hk)])) ?_;refine zaq 3 O ?_;refine zkq O O O O O O (yFq (w':=.bool true) (kHq es ys false false) (by rw[decide_eq_true (hk2)])) ?_;refine zaq 16 O ?_;exact zhq (.inr rfl) O O
 obtain⟨g1,g2,g3⟩:=greatc_no hg;have hs:=greatc_small Xr hg;refine zNq (fn:=Tryz.f9) O O O (Ob rfl) (fun R k0=>?_);refine ziq 11 O ?_;refine zkq O O O O O O (vlq) ?_;refine zaq 7 O ?_;refine zkq O O O O O O (yFq (w':=.bool false) (Zpq c 5 hc.nodes hc.len) Qh) ?_;refine zaq 2 O ?_;refine zkq O O O O O O (yFq (w':=.bool false) (kHq ds xs false false) (by rw[decide_eq_false (hk)])) ?_;refine zaq 3 O ?_;refine zkq O O O O O O (yFq (w':=.bool false) (kHq es ys false false) (by rw[decide_eq_false (hk2)])) ?_;refine zaq 15 O ?_;skip
 skip
 refine zoq rfl (q1q O O O O O (cadd_s c hc hs Xd ds xs hB box) (by simp[purL]) ?_);rintro w hw (⟨hca,y,t',t1,L,hadd,hgr,rfl⟩|⟨hno,rfl⟩)
 ·have hM:=hadd.may;have hlast:=hadd.last;have hone:=hM.one;have hok1:=hadd.okc hc hB (jbq y.hdr t1 L);have hsm1:=hadd.smallc hs (jbq y.hdr t1 L);have hM1:=hadd.mayc;have hx1:(addC c t' (jbq y.hdr t1 L) ds xs L).links[c.links.length-1]? =some y:=get_old hlast;have hcut:=ccut_s _ hok1 hsm1 _ hM1 hx1;have hokb:=hok1.cut (c.links.length-1) y;have hsmb:=hsm1.cut (c.links.length-1) y;have hMb:=hM1.cut hx1;rw[hadd.back] at hcut hokb hsmb hMb;obtain⟨nA,tA,hA,hv⟩:=hM.head hlast;have hAb:IsA ⟨t'.nodes,y.root⟩ nA tA:=hadd.old (r:=y.root) (hv▸hA);have hheld:Q9q c.tree=Q9q (⟨t'.nodes,y.root⟩:Tree):=by rw[u5q hA,u5q hAb]
  skip
  refine zaq 13 O ?_;skip
  skip
  refine zoq rfl (q1q O O O O O (cadd_s c hc hs Xd es ys hB2 box) (by simp[purL]) ?_);rintro w hw (⟨hca2,y2,t2',t2,L2,hadd2,hgr2,rfl⟩|⟨hno2,rfl⟩)
  ·obtain rfl:y=y2:=Option.some.inj (hlast.symm.trans hadd2.last);have hcab:CanAdd ⟨⟨t'.nodes,y.root⟩,c.links⟩ es ys box:=⟨hMb,hca2.short,hca2.many,by rw[<-hheld];exact hca2.goes⟩;skip
   refine zaq 12 O ?_;refine zfq (w':=.bool false) O O (congrArg W.bool Xg) ?_;refine zaq 2 O ?_;refine zfq (w':=.bool false) O O (congrArg W.bool Xg) ?_;refine zaq 11 O ?_;refine zfq (w':=.int .i64 ((c.links.length:Nat):Int)) O O Xv ?_;refine zuq (c.links.length-1) O O Xm ⟨by omega,by omega⟩ ?_;refine zkq O O O O O O (hcut) ?_;refine zaq 13 O ?_;skip
   refine zoq rfl (q1q O O O O O (cadd_s _ hokb hsmb (by show t'.nodes.length<=_;omega) es ys hB2 box) (by simp[purL]) ?_);rintro w hw (⟨_,y3,t3',t3,L3,hadd3,hgr3,rfl⟩|⟨hno3,_⟩)
   ·obtain rfl:y=y3:=Option.some.inj (hlast.symm.trans hadd3.last);obtain⟨rfl,rfl⟩:=hadd2.det hadd3 hheld;have e2:((c.links++[addL t2' (jbq y.hdr t2 L2) es ys L2]).map lkG).length=c.links.length+1:=by simp
    have e3:((c.links++[addL t3' (jbq y.hdr t2 L2) es ys L2]).map lkG).length=c.links.length+1:=by simp
    have hfew:=hadd2.few;have hmany:=hadd2.many;skip
    refine zaq 12 O ?_;refine zfq (w':=.bool false) O O (congrArg W.bool Xg) ?_;refine zaq 2 O ?_;refine zfq (w':=.bool false) O O (congrArg W.bool Xg) ?_;refine zaq 4 O ?_;refine zfq (w':=.int .i64 ((c.links.length:Nat):Int)) O O Xv ?_;refine zaq 2 O ?_;refine zfq (w':=.int .i64 ((c.links.length:Nat):Int)) O O Xv ?_;refine zfq (w':=.bool false) O O (congrArg (fun b=>W.bool (!b)) (eqI_iff.2 (rfl))) ?_;refine zaq 4 O ?_;refine zfq (w':=.int .i64 ((c.links.length+1:Nat):Int)) O O (by rw[<-e3];rfl) ?_;refine zaq 2 O ?_;refine zfq (w':=.int .i64 ((c.links.length+1:Nat):Int)) O O Yj ?_;refine zfq (w':=.bool false) O O (congrArg (fun b=>W.bool (!b)) (eqI_iff.2 (rfl))) ?_;refine zaq 4 O ?_;refine zfq (w':=.int .i64 ((c.links.length+1:Nat):Int)) O O Yj ?_;refine zaq 2 O ?_;refine zfq (w':=.int .i64 ((c.links.length:Nat):Int)) O O Xv ?_;refine zuq (c.links.length+1) O O Xm ⟨by omega,by omega⟩ ?_;refine zfq (w':=.bool false) O O (congrArg (fun b=>W.bool (!b)) (eqI_iff.2 (rfl))) ?_;refine zaq 13 O ?_;refine y4q (α:=Nat) (fun i=>i<=c.links.length) (fun i=>[(18,.int .i64 (i:Int))]) [(4,_),(8,_),(9,_),(12,_),(14,_),(16,_)] (fun i=>c.links.length-i) (0) ⟨rfl,rfl,rfl,rfl,rfl,rfl,trivial⟩ (Nat.zero_le _) ⟨rfl,trivial⟩ (fun i hI=>?_);refine ziq 6 O ?_;refine zfq (w':=.int .i64 ((c.links.length:Nat):Int)) O O Xv ?_;refine zaq 3 O ?_;refine zEq rfl (fun h1=>?_) (fun h1=>?_)
    ·have hi:i<c.links.length:=by omega
     obtain⟨x,hx⟩:∃x,c.links[i]? =some x:=⟨_,List.getElem?_eq_getElem hi⟩
     obtain⟨n,t0,hX⟩:=(hM.link i x hx).tree;have hXb:IsA ⟨t'.nodes,x.root⟩ n t0:=hadd.old hX;have hl:=hX.all_le;have hl2:=hX.len;refine zgq 8 O ?_;refine zkq O O O O O O (cstate_s c hc hs i hM hx) ?_;refine zaq 12 O ?_;refine zkq O O O O O O (cstate_s _ hokb hsmb i hMb hx) ?_;refine zaq 11 O ?_;refine zkq O O O O O O (QJq (verT c x.root) n t0 hX.toIsT) ?_;refine zaq 10 O ?_;refine zkq O O O O O O (QJq _ n t0 hXb.toIsT) ?_;refine zaq 10 O ?_;refine qsq (w':=.bool false) O O (congrArg W.bool Xg) ?_;refine zsq 2 O ?_;refine qsq (w':=.bool false) O O (congrArg W.bool Xg) ?_;refine zsq 3 O ?_;refine qsq (w':=.bool false) O O (congrArg W.bool Xg) ?_;refine zsq 3 O ?_;refine qsq (w':=.bool false) O O (congrArg W.bool Xg) ?_;refine zsq 4 O ?_;refine qJq O O O O O O (yFq (w':=.bool true) (rpsame_s t0.all t0.all false false Xd) (by rw[decide_eq_true (rfl)])) ?_;refine zsq 6 O ?_;refine zcq rfl (zBq (i:=i) O O O O O O O (z9q lkG hx)) ?_;refine zsq 4 O ?_;refine zcq rfl (zBq (i:=i) O O O O O O O (z9q lkG hx)) (ySq O O ?_);refine qJq O O O O O O (yFq (w':=.bool true) (rslink_s x x (hs.link x (List.mem_of_getElem? hx))) (by rw[decide_eq_true (⟨rfl,⟨rfl,rfl⟩,rfl⟩)])) ?_;refine zsq 10 O ?_;refine zuq (i+1) O O Xm ⟨by omega,by omega⟩ ?_;refine y5q 2 O ?_;exact ykq (i+1) (hi) Xd ⟨rfl,trivial⟩ ⟨rfl,rfl,rfl,rfl,rfl,rfl,trivial⟩ Xh Xd Xk rfl
    ·refine zgq 2 O ?_;refine ylq Xj ?_;refine zDq 10 O ?_;refine qsq (w':=.int .i64 ((c.links.length:Nat):Int)) O O Xv ?_;refine zcq rfl (zBq (i:=c.links.length) O O O O O O O (z9q lkG (get_new c.links (addL t3' (jbq y.hdr t2 L2) es ys L2)))) ?_;refine zsq 5 O ?_;refine qsq (w':=.int .i64 ((c.links.length:Nat):Int)) O O Xv ?_;refine zcq rfl (zBq (i:=c.links.length) O O O O O O O (z9q lkG (get_new c.links (addL t2' (jbq y.hdr t2 L2) es ys L2)))) (ySq O O ?_);refine qJq O O O O O O (yFq (w':=.bool true) (rslink_s (addL t3' (jbq y.hdr t2 L2) es ys L2) (addL t2' (jbq y.hdr t2 L2) es ys L2) ⟨by show es.length<=_;omega,by show ys.length<=_;omega,by show(L2.map recI).length<=_;rw[List.length_map];omega⟩) (by rw[decide_eq_true (⟨rfl,⟨rfl,rfl⟩,rfl⟩)])) ?_;refine zsq 5 O ?_;exact zhq (.inr rfl) O O
   ·exact absurd hcab hno3
  ·have hz:=addE_no hno2;skip
   refine zaq 12 O ?_;refine zfq (w':=.bool false) O O (congrArg W.bool Xg) ?_;refine zaq 2 O ?_;refine zfq (w':=.bool true) O O (congrArg (fun b=>W.bool (!b)) (eqI_not.2 Xd)) ?_;refine zaq 12 O ?_;exact zhq (.inr rfl) O O
 ·have hz:=addE_no hno;skip
  refine zaq 13 O ?_;skip
  skip
  refine zoq rfl (q1q O O O O O (cadd_s c hc hs Xd es ys hB2 box) (by simp[purL]) ?_);rintro w hw (⟨hca2,y2,t2',t2,L2,hadd2,hgr2,rfl⟩|⟨hno2,rfl⟩)
  ·skip
   refine zaq 12 O ?_;refine zfq (w':=.bool true) O O (congrArg (fun b=>W.bool (!b)) (eqI_not.2 Xd)) ?_;refine zaq 15 O ?_;exact zhq (.inr rfl) O O
  ·skip
   refine zaq 12 O ?_;refine zfq (w':=.bool true) O O (congrArg (fun b=>W.bool (!b)) (eqI_not.2 Xd)) ?_;refine zaq 15 O ?_;exact zhq (.inr rfl) O O
end
mutual
/-- all blocks in it lie below n -/
noncomputable def ltB(n:Nat):V->Bool
 |.ptr b _=>decide (b<n)
 |.sl b _ _ _ _ _=>decide (b<n)
 |.map b=>decide (b<n)
 |.yield b=>decide (b<n)
 |.fn _ a c=>ltL n a&&ltL n c
 |.iface _ v=>ltB n v
 |.agg _ l=>ltL n l
 |.arr _ _ l=>ltL n l
 |.tup l=>ltL n l
 |.undef=>true
 |.bool _=>true
 |.int _ _=>true
 |.str _=>true
 |.nilp=>true
 |.nils=>true
 |.nilm=>true
 |.nilf=>true
 |.nili=>true
noncomputable def ltL(n:Nat):List V->Bool
 |[]=>true
 |v::l=>ltB n v&&ltL n l
end
noncomputable def SeenK(h:Heap):Nat->Prop:=fun b=>b<h.next/\∃v,h.val b=some v/\ltB h.next v=true
noncomputable def u32V(n:Nat):V:=.int .u32 (.ofNat n)
noncomputable def eqK:List V->List Nat->Bool
 |[],[]=>true
 |.int .u32 (.ofNat n)::l,m::ms=>match Nat.beq n m with
  |true=>eqK l ms
  |false=>false
 |_,_=>false
theorem eqK_spec:∀{l:List V} {ms:List Nat},eqK l ms=true->l=ms.map u32V
 |[],[],_=>rfl
 |[],_::_,h=>by simp[eqK] at h
 |v::l,ms,h=>by
  unfold eqK at h;split at h
  ·simp_all
  ·rename_i n l' m ms' e;cases e;split at h
   ·rename_i hb;obtain rfl:=Nat.eq_of_beq_eq_true hb;rw[eqK_spec h];rfl
   ·cases h
  ·cases h
noncomputable def globK(h:Heap):Bool:=match h.get 0 with
 |some (.ro (.arr 64 1 l))=>eqK l kW
 |_=>false
theorem RSL_wd(Γ:Ctx):∀l:List Nat,RSL Γ (l.map wd) (l.map u32V)
 |[]=>rfl
 |n::l=>q0q (a:=[u32V n]) (b:=l.map u32V) (x:=wd n) rfl (RSL_wd Γ l)
theorem globK_spec{h:Heap}(hn:Nat.ble 2 h.next=true)(hk:globK h=true):GRel cfg glK ⟨0,fun i=>i,SeenK h,h⟩:=by
 intro g w _ h2 nw σ;have hn:=Ob hn;unfold glK at h2;split at h2
 ·cases h2;unfold globK at hk;split at hk
  ·rename_i l hg;obtain rfl:=eqK_spec hk;have hv:h.val 0=some (.arr 64 1 (kW.map u32V)):=by simp only[Heap.val,hg]
   refine RV.of_one ⟨0,0,_,rfl,⟨by omega,_,hv,by rfl⟩,hv,by exact Nat.le_refl _,fun _=>rfl,.inr rfl,?_⟩ O O;have e:((zvq (.arr 64 1 (kW.map u32V))).drop 0).take 64=kW.map u32V:=by kernel_rfl
   show RS _ _ (((zvq (.arr 64 1 (kW.map u32V))).drop 0).take 64);rw[e];exact⟨rfl,fun x hx=>by obtain⟨n,_,rfl⟩:=List.mem_map.1 hx;rfl,RSL_wd _ kW⟩
  ·cases hk
 ·cases h2
end
end Go.Proofs.YtjmekaoadfmkfaaGreatDoor

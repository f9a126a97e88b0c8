/-
  What the proof of ViewDrops stands on, part 8. No condition.
-/
import Derived.Test.YtjmekaoadfmkfaaGreatDoorZViewDropsG
set_option linter.unusedSimpArgs false
set_option linter.unusedVariables false
namespace Go.Proofs.YtjmekaoadfmkfaaGreatDoor
section
open Go.RowKit
section
attribute [local irreducible] CoW OpW FlW Step Spec
variable {G:Nat->Option W}
structure OkC(c:Ch):Prop where
 body:∀x∈c.links,BodOk x.ds x.xs
 nodes:c.tree.nodes.length<=4611686018427387903
 len:c.links.length<=4611686018427387903
 recs:∀x∈c.links,x.rs.length<=4611686018427387903
theorem prev_hd(l:List Lk)(i:Nat):∃h r b s,prevW l i= .agg 102 [hdW h,r,b,s]/\(purL [hdW h,r,b,s]=true)/\∀z,0<i->l[i-1]? =some z->h=z.hdr:=by
 cases i with
 |zero=>exact⟨hdZ,_,_,_,rfl,prev_pur l 0,fun z h=>absurd h Xr⟩
 |succ i=>
  cases hz:l[i]? with
  |none=>exact⟨hdZ,_,_,_,by show lkA l i=_;unfold lkA;rw[hz];rfl,lkZ_pur,fun z _ h=>by rw[Nat.add_sub_cancel,hz] at h;cases h⟩
  |some x=>exact⟨x.hdr,_,_,_,by show lkA l i=_;unfold lkA;rw[hz];rfl,lkG_pur x,fun z _ h=>by rw[Nat.add_sub_cancel,hz] at h;cases h;rfl⟩
theorem kwq(c:Ch)(hc:OkC c):PS cfg glK 71 [chG c] (.int .i64 (if MayC c then 0 else 8)):=by
 have e:(c.links.map lkG).length=c.links.length:=List.length_map _;have hl:=hc.len;refine zJq (fn:=Tryz.f71) O O O (Ob rfl) (fun R k0=>?_);refine ziq 11 O ?_;refine jxq (w':=.int .i64 ((c.links.length:Nat):Int)) O O Xw ?_;refine fl_dz O O (fun h1=>?_) (fun h1=>?_)
 ·have hno:¬MayC c:=fun q=>by have:=q.one;omega
  refine zpq 31 O ?_;exact zhq (.inr rfl) rfl Yf
 obtain⟨z,hz⟩:∃z,c.links[c.links.length-1]? =some z:=⟨_,List.getElem?_eq_getElem Xd⟩
 refine zpq 3 O ?_;refine jxq (w':=.int .i64 ((c.links.length:Nat):Int)) O O Xw ?_;refine fl_dz O O (fun h2=>?_) (fun h2=>?_)
 ·have hno:¬MayC c:=fun q=>by have:=q.len;omega
  refine zpq 26 O ?_;exact zhq (.inr rfl) rfl Yf
 refine zpq 9 O ?_;refine jxq (w':=.int .i64 ((c.links.length:Nat):Int)) O O Xw ?_;refine q3q (c.links.length-1) O O Xm ⟨by omega,by omega⟩ ?_;refine zcq rfl (zCq (i:=c.links.length-1) O O O O O O O (z1q lkG hz)) ?_;refine zpq 2 O ?_;refine fl_cz O O ?_;refine zpq 3 O ?_;refine zDq rfl (fun h3=>?_) (fun h3=>?_)
 ·have hno:¬MayC c:=fun q=>h3 (q.root z hz)
  refine zeq 7 O ?_;exact zhq (.inr rfl) rfl Yf
 refine zeq 13 O ?_;refine zjq O O O O O O (ceach_s _ _) ?_;refine zaq 3 O ?_;refine co_rangeG (encL c.links) (List.range c.links.length) (fun i (a:Nat)=>a=i/\∀j x,j<i->c.links[j]? =some x->LkM c j x) (fun a=>[(2,3,.int .i64 (a:Int)),(1,38,.int .i64 0),(0,70,chG c)]) (fun _=>R) (0) rfl Xo (ceach_it c.links false hc.len) (encL_ok c.links) (⟨rfl,fun j x h=>by omega⟩) O O (fun i a y hy hI=>?_) (fun a hI=>?_)
 ·obtain⟨rfl,hI⟩:=hI;have hi:a<c.links.length:=by have:=qWq hy;simpa using this
  obtain rfl:a=y:=by rw[vaq hi] at hy;exact Option.some.inj hy
  obtain⟨x,hx⟩:∃x,c.links[a]? =some x:=⟨_,List.getElem?_eq_getElem hi⟩
  obtain⟨ph,pr,pb,ps,hp,hpu,hph⟩:=prev_hd c.links a;have hpu:purW (.agg 102 [hdW ph,pr,pb,ps])=true:=hpu;rw[show encL c.links a=[lkG x,.agg 102 [hdW ph,pr,pb,ps]] by unfold encL;rw[Ywq hx,hp]];have hB:=hc.body x (List.mem_of_getElem? hx);have er:(x.rs.map rcW).length=x.rs.length:=List.length_map _;refine ziq 10 O ?_;refine upq ?_;refine ziq 15 O ?_;refine qaq O O (fun h4=>?_) (fun h4=>?_)
  ·have hno:¬MayC c:=fun q=>h4 (q.link a x hx).height
   refine zaq 50 O ?_;refine jUq Xi ?_;refine zyq 2 O ?_;exact zhq (.inr rfl) rfl Yf
  refine zaq 2 O ?_;refine zjq O O O O O O (vsq x.hdr) ?_;refine qaq O O (fun h5=>?_) (fun h5=>?_)
  ·have hno:¬MayC c:=fun q=>h5 (by rw[if_pos (q.link a x hx).hdr])
   refine zaq 46 O ?_;refine jUq Xi ?_;refine zyq 2 O ?_;exact zhq (.inr rfl) rfl Yf
  have hok:okH x.hdr:=Classical.byContradiction fun q=>h5 (by rw[if_neg q];decide)
  refine zaq 3 O ?_;refine qaq O O (fun h6=>?_) (fun h6=>?_)
  ·refine zaq 4 O ?_;refine zjq O O O O O O (hfollows_d x.hdr ph) ?_;refine xzq (fun h7=>?_) (fun h7=>?_)
   ·have hF:0<a->∀w,c.links[a-1]? =some w->FolB x.hdr w.hdr:=fun h0 w hw=>hph w h0 hw▸h7
    refine zaq 6 O ?_;refine zdq (w':=.int .i64 ((x.rs.length:Nat):Int)) O O (by rw[<-er];rfl) ?_;refine zaq 2 O ?_;refine qaq O O (fun h8=>?_) (fun h8=>?_)
    ·have hno:¬MayC c:=fun q=>h8 (q.link a x hx).recs
     refine zaq 27 O ?_;refine jUq Xi ?_;refine zyq 2 O ?_;exact zhq (.inr rfl) rfl Yf
    refine zaq 4 O ?_;refine zjq O O O O O O (cbody_s x.ds x.xs false false hB.tx hB.dl hB.xl) ?_;refine xzq (fun h9=>?_) (fun h9=>?_)
    ·refine zaq 7 O ?_;refine zjq O O O O O O (Zzq c.tree x.root) ?_;refine zjq O O O O O O (qIq (verT c x.root) hc.nodes) ?_;refine y0q O O ?_;refine zaq 3 O ?_;refine zDq rfl (fun h10=>?_) (fun h10=>?_)
     ·have hno:¬MayC c:=fun q=>h10 (by rw[if_pos (q.link a x hx).tree])
      refine zeq 8 O ?_;refine jUq Xi ?_;refine zyq 2 O ?_;exact zhq (.inr rfl) rfl Yf
     ·have hA:MayA (verT c x.root):=Classical.byContradiction fun q=>h10 (by rw[if_neg q];decide)
      have hx2:LkM c a x:=⟨by omega,hok,fun w h0 hw=>hF h0 w hw,by omega,h9,hA⟩;refine zeq 4 O ?_;first|refine yjq O O ⟨by omega,by omega⟩ ?_|refine zbq O O ?_
      refine zaq 3 O ?_;exact q_roundK (a+1) (⟨rfl,fun j w hj hw=>by rcases Nat.lt_succ_iff_lt_or_eq.1 hj with q|rfl;exact hI j w q hw;exact Option.some.inj (hx.symm.trans hw)▸hx2⟩) Xd Xp Yk rfl
    ·have hno:¬MayC c:=fun q=>h9 (q.link a x hx).body
     refine zaq 22 O ?_;refine jUq Xi ?_;refine zyq 2 O ?_;exact zhq (.inr rfl) rfl Yf
   ·have hno:¬MayC c:=fun q=>by
     obtain⟨w,hw⟩:∃w,c.links[a-1]? =some w:=⟨_,List.getElem?_eq_getElem Xd⟩
     exact h7 (hph w Xd hw▸(q.link a x hx).fol w Xd hw)
    refine zaq 37 O ?_;refine jUq Xi ?_;refine zyq 2 O ?_;exact zhq (.inr rfl) rfl Yf
  ·have hF:0<a->∀w,c.links[a-1]? =some w->FolB x.hdr w.hdr:=fun h0=>absurd h0 Xd
   refine zaq 11 O ?_;refine zdq (w':=.int .i64 ((x.rs.length:Nat):Int)) O O (by rw[<-er];rfl) ?_;refine zaq 2 O ?_;refine qaq O O (fun h7=>?_) (fun h7=>?_)
   ·have hno:¬MayC c:=fun q=>h7 (q.link a x hx).recs
    refine zaq 27 O ?_;refine jUq Xi ?_;refine zyq 2 O ?_;exact zhq (.inr rfl) rfl Yf
   refine zaq 4 O ?_;refine zjq O O O O O O (cbody_s x.ds x.xs false false hB.tx hB.dl hB.xl) ?_;refine xzq (fun h8=>?_) (fun h8=>?_)
   ·refine zaq 7 O ?_;refine zjq O O O O O O (Zzq c.tree x.root) ?_;refine zjq O O O O O O (qIq (verT c x.root) hc.nodes) ?_;refine y0q O O ?_;refine zaq 3 O ?_;refine zDq rfl (fun h9=>?_) (fun h9=>?_)
    ·have hno:¬MayC c:=fun q=>h9 (by rw[if_pos (q.link a x hx).tree])
     refine zeq 8 O ?_;refine jUq Xi ?_;refine zyq 2 O ?_;exact zhq (.inr rfl) rfl Yf
    ·have hA:MayA (verT c x.root):=Classical.byContradiction fun q=>h9 (by rw[if_neg q];decide)
     have hx2:LkM c a x:=⟨by omega,hok,fun w h0 hw=>hF h0 w hw,by omega,h8,hA⟩;refine zeq 4 O ?_;first|refine yjq O O ⟨by omega,by omega⟩ ?_|refine zbq O O ?_
     refine zaq 3 O ?_;exact q_roundK (a+1) (⟨rfl,fun j w hj hw=>by rcases Nat.lt_succ_iff_lt_or_eq.1 hj with q|rfl;exact hI j w q hw;exact Option.some.inj (hx.symm.trans hw)▸hx2⟩) Xd Xp Yk rfl
   ·have hno:¬MayC c:=fun q=>h8 (q.link a x hx).body
    refine zaq 22 O ?_;refine jUq Xi ?_;refine zyq 2 O ?_;exact zhq (.inr rfl) rfl Yf
 ·obtain⟨rfl,hI⟩:=hI;have yes:MayC c:=⟨by omega,by omega,fun w hw=>by cases hz.symm.trans hw;omega,fun j w hw=>hI j w (by have:=qWq hw;simpa using this) hw⟩;refine zyq 8 O ?_;exact zhq (.inr rfl) rfl Yr
end
theorem fit_rc{w:W}(h:Fit (.st 34 [.int .u8,.arr 32 1 (.int .u8),.int .i64]) w):∃r:RcI,w=rcW r/\True:=by
 obtain⟨l,rfl,w1,l1,rfl,h1,w2,l2,rfl,h2,w3,l3,rfl,h3,rfl⟩:=h;obtain⟨k,rfl,_⟩:=fit_u8 h1;obtain⟨d,rfl⟩:=fit_dig h2;obtain⟨c,rfl,_⟩:=fit_i64 h3;exact⟨⟨k,d,c⟩,rfl,trivial⟩
theorem fit_link{w:W}(h:Fit (.st 102 [.st 98 [.int .i64,.arr 32 1 (.int .u8),.arr 32 1 (.int .u8),.arr 32 1 (.int .u8),.int .i64],.int .i64,.st 2 [.sl 34 48 (.st 34 [.int .u64,.arr 32 1 (.int .u8),.int .u64]),.sl 99 120 (.st 99 [.arr 32 1 (.int .u8),.arr 32 1 (.int .u8),.int .u64,.int .u64,.int .u64,.arr 32 1 (.int .u8)])],.sl 34 48 (.st 34 [.int .u8,.arr 32 1 (.int .u8),.int .i64])]) w):∃x:Lk,w=lkG x/\BodOk x.ds x.xs/\x.rs.length<=4611686018427387903:=by
 obtain⟨l,rfl,w1,l1,rfl,h1,w2,l2,rfl,h2,w3,l3,rfl,h3,w4,l4,rfl,h4,rfl⟩:=h;obtain⟨p,rfl,_⟩:=fit_hdr h1;obtain⟨r,rfl,_⟩:=fit_i64 h2;obtain⟨ds,xs,rfl,hB⟩:=fit_body h3;obtain⟨rs,rfl,hl,_⟩:=fit_sl h4 fun x hx=>fit_rc hx
 exact⟨⟨p,r,ds,xs,rs⟩,rfl,hB,by show rs.length<=_;omega⟩
theorem fit_chain{w:W}(h:Fit (.st 3 [.st 2 [.sl 36 80 (.st 36 [.bool,.arr 32 1 (.int .u8),.sl 1 1 (.int .u8),.int .i64,.int .i64]),.int .i64],.sl 102 192 (.st 102 [.st 98 [.int .i64,.arr 32 1 (.int .u8),.arr 32 1 (.int .u8),.arr 32 1 (.int .u8),.int .i64],.int .i64,.st 2 [.sl 34 48 (.st 34 [.int .u64,.arr 32 1 (.int .u8),.int .u64]),.sl 99 120 (.st 99 [.arr 32 1 (.int .u8),.arr 32 1 (.int .u8),.int .u64,.int .u64,.int .u64,.arr 32 1 (.int .u8)])],.sl 34 48 (.st 34 [.int .u8,.arr 32 1 (.int .u8),.int .i64])])]) w):∃c:Ch,w=chG c/\OkC c:=by
 obtain⟨l,rfl,w1,l1,rfl,h1,w2,l2,rfl,h2,rfl⟩:=h;obtain⟨t,rfl,ht,_⟩:=fit_tree h1;obtain⟨ls,rfl,hl,hx⟩:=fit_sl h2 fun x hx=>fit_link hx
 exact⟨⟨t,ls⟩,rfl,fun x h=>(hx x h).1,by show t.nodes.length<=_;omega,by show ls.length<=_;omega,fun x h=>(hx x h).2⟩
theorem fit_view{w:W}(h:Fit (.st 6 [.int .i64,.bool,.int .i64,.st 3 [.st 2 [.sl 36 80 (.st 36 [.bool,.arr 32 1 (.int .u8),.sl 1 1 (.int .u8),.int .i64,.int .i64]),.int .i64],.sl 102 192 (.st 102 [.st 98 [.int .i64,.arr 32 1 (.int .u8),.arr 32 1 (.int .u8),.arr 32 1 (.int .u8),.int .i64],.int .i64,.st 2 [.sl 34 48 (.st 34 [.int .u64,.arr 32 1 (.int .u8),.int .u64]),.sl 99 120 (.st 99 [.arr 32 1 (.int .u8),.arr 32 1 (.int .u8),.int .u64,.int .u64,.int .u64,.arr 32 1 (.int .u8)])],.sl 34 48 (.st 34 [.int .u8,.arr 32 1 (.int .u8),.int .i64])])]]) w):∃v:Vw,w=vwG v/\OkC v.ch/\(-9223372036854775808<=v.number/\v.number<=9223372036854775807)/\(-9223372036854775808<=v.final/\v.final<=9223372036854775807):=by
 obtain⟨l,rfl,w1,l1,rfl,h1,w2,l2,rfl,h2,w3,l3,rfl,h3,w4,l4,rfl,h4,rfl⟩:=h;obtain⟨n,rfl,hn⟩:=fit_i64 h1;obtain⟨b,rfl⟩:=fit_bool h2;obtain⟨f,rfl,hf⟩:=fit_i64 h3;obtain⟨c,rfl,hc⟩:=fit_chain h4;exact⟨⟨n,b,f,c⟩,rfl,hc,hn,hf⟩
theorem pspec_view{C:Cfg}{G:Nat->Option W}{f:FuncId}{m:Nat}{ws ws':List W}{hp:HpW}{Q:W->HpW->Nat->Prop}(h:ViewL (fun _=>none) ws ws')(sp:yLq C G f m ws' hp Q):yLq C G f m ws hp Q:=fun R Γ X vs h1 s hv=>
 sp R Γ X vs h1 s (x8q ⟨fun _ h _=>h,fun _ _ _=>rfl,fun _ h=>h,fun _ _=>rfl,fun _ _ _ h=>Qg⟩ h hv)
theorem pe_view{C:Cfg}{G:Nat->Option W}{f:FuncId}{ws ws':List W}{A:W->Prop}(h:ViewL (fun _=>none) ws ws')(sp:PE C G f ws' A):PE C G f ws A:=pspec_view h sp
section
attribute [local irreducible] CoW OpW FlW Step Spec
variable {G:Nat->Option W}
@[simp] theorem psW_drop(ps:List Pr)(i:Nat):purL ((ps.map pW).drop i)=true:=by rw[<-List.map_drop];exact Ynq _
@[simp] theorem psW_take(ps:List Pr)(i:Nat):purL ((ps.map pW).take i)=true:=by rw[<-List.map_take];exact Ynq _
theorem rpsame_s(a b:List Pr)(f g:Bool)(hb:a.length<=1000000000):PS cfg G 25 [.fz (a.map pW) 33 f,.fz (b.map pW) 33 g] (.bool (decide (a=b))):=by
 have ea:(a.map pW).length=a.length:=List.length_map _;have eb:(b.map pW).length=b.length:=List.length_map _;refine zJq (fn:=Tryz.f25) O O O (Ob rfl) (fun R k0=>?_);refine ziq 9 O ?_;refine zdq (w':=.int .i64 (a.length:Int)) O O Ys ?_;refine zbq O O (zdq (w':=.int .i64 (b.length:Int)) O O Qu ?_);refine zaq 3 O ?_;refine zDq rfl (fun h1=>?_) (fun h1=>?_)
 ·refine zeq 7 O ?_;refine zhq (.inr rfl) O ?_;rw[decide_eq_false];rintro rfl;exact h1 rfl
 ·have hl:a.length=b.length:=by omega
  refine zeq 9 O ?_;refine yTq (α:=Nat) (fun i=>i<=a.length/\a.take i=b.take i) (fun i=>[(5,.int .i64 (i:Int))]) [(0,_),(1,_),(4,_)] (fun i=>a.length-i) (0) ⟨rfl,rfl,rfl,trivial⟩ (⟨Nat.zero_le _,rfl⟩) ⟨rfl,trivial⟩ (fun i hI=>?_);obtain⟨g1,g2⟩:=hI;refine ziq 5 O ?_;refine zdq (w':=.int .i64 (a.length:Int)) O O Ys ?_;refine zaq 3 O ?_;refine zDq rfl (fun h2=>?_) (fun h2=>?_)
  ·have hi:i<a.length:=by omega
   obtain⟨x,hx⟩:∃x,a[i]? =some x:=⟨_,List.getElem?_eq_getElem hi⟩
   obtain⟨y,hy⟩:∃y,b[i]? =some y:=⟨_,List.getElem?_eq_getElem Xd⟩
   have no:x≠y->decide (a=b)=false:=fun h=>decide_eq_false fun q=>h (by subst q;exact Option.some.inj (hx.symm.trans hy))
   refine zeq 8 O ?_;refine zcq rfl (zCq (i:=i) O O O O O O O (z1q pW hx)) ?_;refine zpq 4 O ?_;refine zcq rfl (zCq (i:=i) O O O O O O O (z1q pW hy)) ?_;refine zpq 2 O ?_;refine fl_dec rfl (jZq O O O O (quq O O O O O O _ _ 250)) (jzq yEq) (fun h3=>?_) (fun h3=>?_)
   ·refine zpq 25 O ?_;refine yfq Xi ?_;refine zyq 2 O ?_;exact zhq (.inr rfl) rfl (by rw[no fun q=>h3 (by rw[q])])
   ·have hk:x.1=y.1:=by simpa using h3
    refine zpq 3 O ?_;refine zcq rfl (zCq (i:=i) O O O O O O O (z1q pW hx)) ?_;refine zpq 4 O ?_;refine zcq rfl (zCq (i:=i) O O O O O O O (z1q pW hy)) ?_;refine zpq 2 O ?_;refine qrq O O O O O O (same_s _ _ _ _) ?_;refine zpq 4 O ?_;refine zDq rfl (fun h4=>?_) (fun h4=>?_)
    ·refine zeq 8 O ?_;refine yfq Xi ?_;refine zyq 2 O ?_;exact zhq (.inr rfl) rfl (by rw[no fun q=>by rw[q] at h4;simp at h4])
    ·have hv:x.2=y.2:=by simpa using h4
     have hxy:x=y:=Prod.ext hk hv;refine zeq 5 O ?_;refine zuq (i+1) O O Xm ⟨by omega,by omega⟩ ?_;refine yZq 2 O ?_;exact yhq (i+1) (⟨hi,by rw[List.take_add_one,List.take_add_one,g2,hx,hy,hxy]⟩) Xd ⟨rfl,trivial⟩ ⟨rfl,rfl,rfl,trivial⟩ Xh Xd Xk rfl
  ·refine zeq 2 O ?_;refine yfq Xi ?_;refine zyq 8 O ?_;refine zhq (.inr rfl) O ?_;rw[decide_eq_true];have:=g2;rw[List.take_of_length_le Xd,List.take_of_length_le Xd] at this;exact this
end
section
attribute [local irreducible] CoW OpW FlW Step Spec
variable {G:Nat->Option W}
theorem mayp_val(k:Dig)(v:List UInt8):MayP [(k,v)]↔valB v=true:=by
 constructor
 ·intro h;exact(h.2 0 Xl _ rfl).1
 ·intro h;refine⟨by simp,fun i hi x hx=>?_⟩;obtain rfl:i=0:=by simpa using hi
  cases hx;exact⟨h,fun y h0=>by omega⟩
noncomputable instance(a b:Tree):Decidable (a=b):=Classical.propDecidable _
end
section
attribute [local irreducible] CoW OpW FlW Step Spec
variable {G:Nat->Option W}
structure SmallC(c:Ch):Prop where
 nodes:c.tree.nodes.length<=1000000
 vals:∀x∈c.tree.nodes,x.val.length<=70368744177664
 len:c.links.length<=1000000
 link:∀x∈c.links,x.ds.length<=1000000/\x.xs.length<=1000000/\x.rs.length<=1000000
def Qjq(c:Ch)(n:Nat):Prop:=Q6q c.tree 900\/n<c.links.length\/∃x∈c.links,y3q x.ds x.xs\/40<x.rs.length
noncomputable instance(c:Ch)(n:Nat):Decidable (Qjq c n):=Classical.propDecidable _
theorem greatc_s(c:Ch)(n:Nat)(hb:c.tree.nodes.length<=4611686018427387903)(hl:c.links.length<=4611686018427387903):PS cfg G 54 [chG c,.int .i64 (n:Int)] (.bool (decide (Qjq c n))):=by
 have e:(c.links.map lkG).length=c.links.length:=List.length_map _;by_cases hg:Q6q c.tree 900
 ·skip
  refine zJq (fn:=Tryz.f54) O O O (Ob rfl) (fun R k0=>?_);refine ziq 11 O ?_;refine zjq O O O O O O (ysq (w':=.bool true) (great_s c.tree 900 hb Xd) (by rw[decide_eq_true (hg)])) ?_;refine zaq 17 O ?_;exact zhq (.inr rfl) rfl (dec_t (.inl hg))
 refine zJq (fn:=Tryz.f54) O O O (Ob rfl) (fun R k0=>?_);refine ziq 11 O ?_;refine zjq O O O O O O (ysq (w':=.bool false) (great_s c.tree 900 hb Xd) Qb) ?_;refine zaq 3 O ?_;refine zdq (w':=.int .i64 ((c.links.length:Nat):Int)) O O Xw ?_;refine zbq O O (y0q O O ?_);refine zaq 3 O ?_;refine zDq rfl (fun h1=>?_) (fun h1=>?_)
 ·refine zeq 7 O ?_;exact zhq (.inr rfl) rfl (dec_t (.inr (.inl Xd)))
 refine zeq 9 O ?_;refine yTq (α:=Nat) (fun i=>i<=c.links.length/\∀j x,j<i->c.links[j]? =some x->¬(y3q x.ds x.xs\/40<x.rs.length)) (fun i=>[(5,.int .i64 (i:Int))]) [(2,_),(4,_)] (fun i=>c.links.length-i) (0) ⟨rfl,rfl,trivial⟩ (⟨Nat.zero_le _,fun j x h=>by omega⟩) ⟨rfl,trivial⟩ (fun i hI=>?_);obtain⟨g1,g2⟩:=hI;refine ziq 6 O ?_;refine zdq (w':=.int .i64 ((c.links.length:Nat):Int)) O O Xw ?_;refine zaq 3 O ?_;refine zDq rfl (fun h2=>?_) (fun h2=>?_)
 ·have hi:i<c.links.length:=by omega
  obtain⟨x,hx⟩:∃x,c.links[i]? =some x:=⟨_,List.getElem?_eq_getElem hi⟩
  have er:(x.rs.map rcW).length=x.rs.length:=List.length_map _;refine zeq 9 O ?_;refine zbq rfl (zCq (i:=i) O O O O O O O (z1q lkG hx)) ?_;refine zaq 2 O ?_;refine zjq O O O O O O (great16_s x.ds x.xs false false) ?_;refine xzq (fun h3=>?_) (fun h3=>?_)
  ·refine zaq 21 O ?_;refine yfq Xi ?_;refine zyq 2 O ?_;exact zhq (.inr rfl) rfl (dec_t (.inr (.inr ⟨x,List.mem_of_getElem? hx,.inl h3⟩)))
  ·refine zaq 4 O ?_;refine zbq rfl (zCq (i:=i) O O O O O O O (z1q lkG hx)) ?_;refine zaq 2 O ?_;refine zdq (w':=.int .i64 ((x.rs.length:Nat):Int)) O O (by rw[<-er];rfl) ?_;refine y0q O O ?_;refine zaq 3 O ?_;refine zDq rfl (fun h4=>?_) (fun h4=>?_)
   ·refine zeq 8 O ?_;refine yfq Xi ?_;refine zyq 2 O ?_;exact zhq (.inr rfl) rfl (dec_t (.inr (.inr ⟨x,List.mem_of_getElem? hx,.inr Xd⟩)))
   ·refine zeq 5 O ?_;refine zuq (i+1) O O Xm ⟨by omega,by omega⟩ ?_;refine yZq 2 O ?_;exact yhq (i+1) (⟨hi,fun j y hj hy=>by rcases Nat.lt_succ_iff_lt_or_eq.1 hj with q|rfl;exact g2 j y q hy;exact Option.some.inj (hx.symm.trans hy)▸fun q=>q.elim h3 Xd⟩) Xd ⟨rfl,trivial⟩ ⟨rfl,rfl,trivial⟩ Xh Xd Xk rfl
 ·have no:¬Qjq c n:=by
   rintro(q|q|⟨x,hx,q⟩)
   ·exact hg q
   ·omega
   ·obtain⟨j,hj⟩:=List.getElem?_of_mem hx;exact g2 j x (by have:=qWq hj;omega) hj q
  refine zeq 2 O ?_;refine yfq Xi ?_;refine zyq 8 O ?_;exact zhq (.inr rfl) rfl (xXq no)
theorem vtq(v:Vw)(n:Nat)(hb:v.ch.tree.nodes.length<=4611686018427387903)(hl:v.ch.links.length<=4611686018427387903):PS cfg G 34 [vwG v,.int .i64 (n:Int)] (.bool (decide (Qjq v.ch n))):=by
 refine zJq (fn:=Tryz.f34) O O O (Ob rfl) (fun R k0=>?_);refine ziq 11 O ?_;refine zjq O O O O O O (greatc_s v.ch n hb hl) ?_;refine zaq 4 O ?_;exact zhq (.inr rfl) O O
theorem greatc_no{c:Ch}{n:Nat}(h:¬Qjq c n):c.tree.nodes.length<=900/\c.links.length<=n/\∀x∈c.links,¬y3q x.ds x.xs/\x.rs.length<=40:=
 ⟨Nat.le_of_not_lt fun q=>h (.inl (.inl q)),Nat.le_of_not_lt fun q=>h (.inr (.inl q)),fun x hx=>⟨fun q=>h (.inr (.inr ⟨x,hx,.inl q⟩)),Nat.le_of_not_lt fun q=>h (.inr (.inr ⟨x,hx,.inr q⟩))⟩⟩
end
section
attribute [local irreducible] CoW OpW FlW Step Spec
variable {G:Nat->Option W}
theorem clink_s(x:Lk)(h:x.ds.length<=1000000/\x.xs.length<=1000000/\x.rs.length<=1000000):PS cfg G 134 [lkG x] (lkG x):=by
 obtain⟨h1,h2,h3⟩:=h;refine zJq (fn:=Tryz.f134) O O O (Ob rfl) (fun R k0=>?_);refine ziq 11 O ?_;refine qrq O O O O O O (cld_s x.ds false Xd) ?_;refine zpq 3 O ?_;refine qrq O O O O O O (clx_s x.xs false Xd) ?_;refine zpq 9 O ?_;refine zjq O O O O O O (clr_s x.rs false Xd) ?_;refine zaq 11 O ?_;exact zhq (.inr rfl) O O
theorem ctrn_s(l:List Lk)(f:Bool)(hl:l.length<=1000000)(hs:∀x∈l,x.ds.length<=1000000/\x.xs.length<=1000000/\x.rs.length<=1000000):PL cfg G 151 [.fz (l.map lkG) 102 f,.fn 134 [] []] 132 102 (l.map lkG):=by
 have e:(l.map lkG).length=l.length:=List.length_map _;intro R;refine zLq (fn:=Tryz.f151) O O O (Ob rfl) (fun k0=>?_);refine ziq 14 O ?_;refine zdq (w':=.int .i64 ((l.length:Nat):Int)) O O Xw ?_;refine zaq 4 O ?_;refine JQq (α:=Nat) (fun i=>i<=l.length) 5 (fun i=>(l.take i).map lkG) 132 102 (fun i=>[(10,.int .i64 (i:Int))]) [(1,_),(4,_),(8,_),(9,_)] _ (fun i=>l.length-i) (0) ⟨rfl,rfl,rfl,rfl,trivial⟩ (Nat.zero_le _) ⟨rfl,trivial⟩ O O O (fun i hI=>?_);refine ziq 6 O ?_;refine zDq rfl (fun h1=>?_) (fun h1=>?_)
 ·have hi:i<l.length:=by omega
  obtain⟨x,hx⟩:∃x,l[i]? =some x:=⟨_,List.getElem?_eq_getElem hi⟩
  have es:(l.take (i+1)).map lkG=(l.take i).map lkG++[lkG x]:=by rw[List.take_add_one,hx,List.map_append];rfl
  have el:((l.take i).map lkG).length=i:=by simp;omega
  have ep:purL ((l.take i).map lkG++[lkG x])=true:=by rw[<-es];exact kDq _
  have ep2:purL ((l.take i).map lkG)=true:=kDq _;refine zeq 6 O ?_;refine zbq rfl (zCq (i:=i) O O O O O O O (z1q lkG hx)) ?_;refine zaq 9 O ?_;refine zjq O O O O O O (clink_s x (hs x (List.mem_of_getElem? hx))) ?_;refine ztq O O (ztq rfl (qsq O O (Qcq [_,_] (k:=ti132) (news:=[lkG x]) O O O O O (jdq O O O O) Xl (by show(((l.take i).map lkG).length+1)*192<=_;omega) (by show((l.take i).map lkG).length+1<=_;omega) rfl Xl)) ?_);refine zaq 5 O ?_;first|refine yjq O O ⟨by omega,by omega⟩ ?_|refine zbq O O ?_
  refine yZq 2 O ?_;exact vcq 3 (i+1) (hi) Xd (Nat.zero_le _) (es) Yo Xd Qf rfl Yq ⟨rfl,trivial⟩ ⟨rfl,rfl,rfl,rfl,trivial⟩ Xh Xh rfl Xo Xp Yk
 ·have hi:i=l.length:=by omega
  subst hi;rw[List.take_length];refine zeq 2 O ?_;refine q0q Xi ?_;refine zyq 9 O ?_;exact fin (.inr rfl) (yiq (fr2:=[(4,gW 0 102 (l.map lkG))]) ⟨rfl,trivial⟩ O O) rfl ⟨rfl,rfl,rfl,rfl⟩
theorem SmallC.vl{c:Ch}(h:SmallC c):c.tree.nodes.length<=1000000000:=by have:=h.nodes;omega
noncomputable def ownC(b:Nat)(c:Ch):W:=.agg 3 [tW c.tree,.sl b 0 0 c.links.length 102 none]
noncomputable def ownH(b0 b1 b:Nat)(c:Ch):HpW:=[(b,132,.arr (c.links.length*102) 102 (c.links.map lkG)),(b1,70,ownC b c),(b0,70,chG c)]
theorem ctwin_o(c:Ch)(hs:SmallC c)(hne:c.links≠[]):yLq cfg G 76 0 [chG c] [] fun w hp nw=>w=ownC 2 c/\hp=ownH 0 1 2 c/\nw=3:=by
 have hne2:c.links.map lkG≠[]:=by simpa using hne
 have e:(c.links.map lkG).length=c.links.length:=List.length_map _;intro R;refine zLq (fn:=Tryz.f76) O O O (Ob rfl) (fun k0=>?_);refine ziq 10 O ?_;refine qrq O O O O O O (uuq c.tree hs.vl hs.vals) ?_;refine zpq 2 O ?_
 (refine ygq rfl (step_pl O O O O O (by simp[purL,purW]) (ctrn_s c.links false hs.len hs.link) (kDq _) ?_);refine⟨by first|rfl|kernel_rfl,?_⟩;rw[kEq hne2,kFq hne2,e])
 refine zpq 5 O ?_;exact fin (.inr rfl) Ent.refl rfl ⟨rfl,rfl,rfl,rfl⟩
theorem ren_own(τ:Nat->Nat)(b:Nat)(c:Ch):renW τ (ownC b c)=ownC (τ b) c:=by
 show W.agg 3 [renW τ (tW c.tree),_]=_;rw[zkq (qtq _)];rfl
theorem renH_own(τ:Nat->Nat)(a b d:Nat)(c:Ch):renH τ (ownH a b d c)=ownH (τ a) (τ b) (τ d) c:=by
 unfold ownH;have h:purW (.arr (c.links.length*102) 102 (c.links.map lkG))=true:=kDq _;simp only[renH,ren_own,zkq h,zkq (Y4q c)]
theorem step_twin{o:Oper}{fr:FrW}{hp:HpW}{nw:Nat}{R:Res}{post:W->HpW->Nat->Res->Option EvW->Prop}{x:Operand}{xs:Array Operand}{ats:Array TypeId}{a us d:List W}(c:Ch)(hs:SmallC c)(hne:c.links≠[])(ho:o.op= .call ⟨.value x,xs,ats⟩)(hx:evW cfg G fr x=some (.fn 76 a d))(hxs:evLW cfg G fr xs.toList=some us)(hws:a++us++d=[chG c])(h:post (ownC (nw+2) c) (ownH (nw+0) (nw+1) (nw+2) c++hp) (nw+3) R (some .gen)):Step cfg G o fr hp nw R post:=by
 refine Ybq ho hx rfl hxs hws (by simp[purL]) (ctwin_o c hs hne) ?_;rintro w hp1 nw1 ⟨rfl,rfl,rfl⟩;rw[ren_own,renH_own];exact h
theorem ctwin_s(c:Ch)(hs:SmallC c)(hne:c.links≠[]):PS cfg G 76 [chG c] (chG c):=fun R=>
 u3q (ufq (ctwin_o c hs hne) (Q:=fun w hp _=>View (blkA hp) w (chG c)) (fun w hp nw h=>by
  obtain⟨rfl,rfl,rfl⟩:=h;exact .agg (.cons (.pur (qtq _)) (.cons (.sl (full:=false) rfl (kDq _) (zEq Xr (by rw[List.length_map]) rfl) Xi) .nil))) R)
theorem hdZ_b:W.agg 98 [.int .i64 0,.arr 32 1 (List.replicate 32 (.int .u8 (.ofNat 0))),.arr 32 1 (List.replicate 32 (.int .u8 (.ofNat 0))),.arr 32 1 (List.replicate 32 (.int .u8 (.ofNat 0))),.int .i64 0]=hdW hdZ:=by
 rw[xnq];rfl
theorem chead_no(c:Ch)(hc:OkC c)(h:¬MayC c):PS cfg glK 67 [chG c] (.tup [hdW hdZ,.int .i64 8]):=by
 refine zJq (fn:=Tryz.f67) O O O (Ob rfl) (fun R k0=>?_);refine ziq 11 O ?_;refine zjq O O O O O O (ysq (w':=.int .i64 8) (kwq c hc) (by rw[if_neg h])) ?_;refine zaq 6 O ?_;refine zdq (w':=.bool true) O O (congrArg W.bool Xg) ?_;refine zaq 5 O ?_;refine zdq (w':=hdW hdZ) O O hdZ_b ?_;refine zaq 7 O ?_;exact zhq (.inr rfl) O O
theorem Y3q(c:Ch)(hc:OkC c)(h:MayC c){y:Lk}(hy:c.links[c.links.length-1]? =some y):PS cfg glK 67 [chG c] (.tup [hdW y.hdr,.int .i64 0]):=by
 have e:(c.links.map lkG).length=c.links.length:=List.length_map _;have h1:=h.one;have hl:=hc.len;refine zJq (fn:=Tryz.f67) O O O (Ob rfl) (fun R k0=>?_);refine ziq 11 O ?_;refine zjq O O O O O O (ysq (w':=.int .i64 0) (kwq c hc) (by rw[if_pos h])) ?_;refine zaq 6 O ?_;refine zdq (w':=.bool false) O O (congrArg W.bool Xg) ?_;refine zaq 11 O ?_;refine zdq (w':=.int .i64 ((c.links.length:Nat):Int)) O O Xw ?_;refine zuq (c.links.length-1) O O Xm ⟨by omega,by omega⟩ ?_;refine zbq rfl (zCq (i:=c.links.length-1) O O O O O O O (z1q lkG hy)) ?_;refine zaq 7 O ?_;exact zhq (.inr rfl) O O
theorem cstate_s(c:Ch)(hc:OkC c)(hs:SmallC c)(i:Nat)(hm:MayC c){x:Lk}(hx:c.links[i]? =some x):PS cfg glK 65 [chG c,.int .i64 (i:Int)] (.tup [tW (verT c x.root),.int .i64 0]):=by
 have e:(c.links.map lkG).length=c.links.length:=List.length_map _;have hi:=qWq hx;refine zJq (fn:=Tryz.f65) O O O (Ob rfl) (fun R k0=>?_);refine ziq 12 O ?_;refine zjq O O O O O O (ysq (w':=.int .i64 0) (kwq c hc) Yv) ?_;refine zdq (w':=.bool false) O O (congrArg W.bool Xg) ?_;refine zaq 7 O ?_;refine zdq (w':=.bool false) O O (congrArg W.bool (ltI_not.2 Xd)) ?_;refine zaq 4 O ?_;refine zdq (w':=.int .i64 ((c.links.length:Nat):Int)) O O Xw ?_;refine zdq (w':=.bool false) O O (congrArg (fun b=>W.bool (!b)) (ltI_iff.2 Xd)) ?_;refine zaq 15 O ?_;refine zcq rfl (zCq (i:=i) O O O O O O O (z1q lkG hx)) ?_;refine zpq 2 O ?_;refine qrq O O O O O O (Zzq c.tree x.root) ?_;first|refine qrq O O O O O O (uuq (verT c x.root) hs.vl hs.vals) ?_|refine qrq O O O O O O (uuq c.tree hs.vl hs.vals) ?_
 refine zpq 5 O ?_;exact zhq (.inr rfl) O O
noncomputable def noCh:W:=.agg 3 [.agg 2 [.nils,.int .i64 0],.nils]
theorem take_at{α:Type}{l:List α}{i:Nat}{x:α}(h:l[i]? =some x):(l.take (i+1))[i]? =some x:=by
 rw[List.getElem?_take,if_pos (Nat.lt_succ_self _)];exact h
theorem JNq{c:Ch}{i:Nat}{x:Lk}(h:c.links[i]? =some x):(c.links.take (i+1)).length=i+1:=by
 have:=qWq h;rw[List.length_take];omega
theorem ccut_s(c:Ch)(hc:OkC c)(hs:SmallC c)(i:Nat)(hm:MayC c){x:Lk}(hx:c.links[i]? =some x):PS cfg glK 64 [chG c,.int .i64 (i:Int)] (.tup [chG (cutC c i x),.int .i64 0]):=by
 have e:(c.links.map lkG).length=c.links.length:=List.length_map _;have hi:=qWq hx;have h1:=hs.len;have e2:((c.links.map lkG).take (i+1))=(c.links.take (i+1)).map lkG:=(List.map_take ..).symm;refine vgq (fn:=Tryz.f64) O O O (Ob rfl) (fun R k0=>?_);refine ziq 12 O ?_;refine zjq O O O O O O (ysq (w':=.int .i64 0) (kwq c hc) Yv) ?_;refine zdq (w':=.bool false) O O (congrArg W.bool Xg) ?_;refine zaq 7 O ?_;refine zdq (w':=.bool false) O O (congrArg W.bool (ltI_not.2 Xd)) ?_;refine zaq 4 O ?_;refine zdq (w':=.int .i64 ((c.links.length:Nat):Int)) O O Xw ?_;refine zdq (w':=.bool false) O O (congrArg (fun b=>W.bool (!b)) (ltI_iff.2 Xd)) ?_;refine zaq 11 O ?_;refine zjq O O O O O O (ctwin_s c hs (fun q=>by rw[q] at hi;cases hi)) ?_;refine zaq 9 O ?_;refine zuq (i+1) O O Xm ⟨by omega,by omega⟩ ?_;refine zbq O O (zuq (i+1) O O Xm ⟨by omega,by omega⟩ ?_);refine zbq rfl (cut_fz3 (ys:=(c.links.take (i+1)).map lkG) (h:=i+1) (m:=i+1) (g:=true) O O O O O O O O Xd (Nat.le_refl _) (by rw[e];omega) Xd (by rw[List.drop_zero,Nat.sub_zero];exact e2) (Nat.beq_refl _)) ?_;refine zaq 9 O ?_;refine zbq rfl (zCq (i:=i) O O O O O O O (z1q lkG (take_at hx))) ?_;refine zaq 15 O ?_;exact Quq (.inr rfl) rfl (.tup (.cons (.agg (.cons (.pur (qtq (verT c x.root))) (.cons (.fzw (kDq _)) .nil))) (.cons (.pur rfl) .nil)))
end
section
attribute [local irreducible] CoW OpW FlW Step Spec
variable {G:Nat->Option W}
theorem seqb_s(a b:List UInt8)(f g:Bool)(hb:a.length<=1000000000):PS cfg G 218 [.fz (zgq a) 1 f,.fz (zgq b) 1 g] (.bool (decide (a=b))):=by
 have ea:=zqq a;have eb:=zqq b;refine zJq (fn:=Tryz.f218) O O O (Ob rfl) (fun R k0=>?_);refine ziq 9 O ?_;refine zdq (w':=.int .i64 ((a.length:Nat):Int)) O O Ys ?_;refine zbq O O (zdq (w':=.int .i64 ((b.length:Nat):Int)) O O Qu ?_);refine zaq 3 O ?_;refine zDq rfl (fun h1=>?_) (fun h1=>?_)
 ·refine zeq 7 O ?_;exact zhq (.inr rfl) rfl Yw
 ·refine zeq 6 O ?_;refine zdq (w':=.int .i64 ((a.length:Nat):Int)) O O Ys ?_;refine zaq 4 O ?_;refine yTq (α:=Nat) (fun i=>i<=a.length/\a.take i=b.take i) (fun i=>[(13,.int .i64 (i:Int))]) [(0,_),(1,_),(4,_),(12,_)] (fun i=>a.length-i) (0) ⟨rfl,rfl,rfl,rfl,trivial⟩ (⟨Nat.zero_le _,rfl⟩) ⟨rfl,trivial⟩ (fun i hI=>?_);obtain⟨g1,g2⟩:=hI;refine ziq 6 O ?_;refine zDq rfl (fun h2=>?_) (fun h2=>?_)
  ·obtain⟨x,hx⟩:∃x,a[i]? =some x:=⟨_,List.getElem?_eq_getElem Xd⟩
   obtain⟨y,hy⟩:∃y,b[i]? =some y:=⟨_,List.getElem?_eq_getElem Xd⟩
   refine zeq 14 O ?_;refine zcq rfl (zCq (i:=i) O O O O O O O (xZq hx)) ?_;refine zpq 3 O ?_;refine zcq rfl (zCq (i:=i) O O O O O O O (xZq hy)) ?_;refine zpq 4 O ?_;refine zDq rfl (fun h3=>?_) (fun h3=>?_)
   ·refine zeq 8 O ?_;refine yfq Xi ?_;refine zyq 2 O ?_;exact zhq (.inr rfl) rfl (by rw[decide_eq_false (ne_at hx hy fun q=>h3 (by rw[q]))])
   ·refine zeq 4 O ?_;refine zuq (i+1) O O Xm ⟨by omega,by omega⟩ ?_;refine yZq 2 O ?_;exact yhq (i+1) (⟨by omega,kKq g2 hx hy (UInt8.toNat_inj.1 (Int.ofNat.inj (Classical.not_not.1 h3)))⟩) Xd ⟨rfl,trivial⟩ ⟨rfl,rfl,rfl,rfl,trivial⟩ Xh Xd Xk rfl
  ·refine zeq 2 O ?_;refine yfq Xi ?_;refine zyq 8 O ?_;exact zhq (.inr rfl) rfl Qa
theorem psame1_s(a b:Pr)(hl:a.2.length<=1000000000):PS cfg G 263 [pW a,pW b] (.bool (decide (a=b))):=by
 refine zJq (fn:=Tryz.f263) O O O (Ob rfl) (fun R k0=>?_);refine ziq 13 O ?_;refine op_dec rfl (qRq O O O O (quq O O O O O O _ _ 250)) yEq (fun h1=>?_) (fun h1=>?_)
 ·refine zaq 5 O ?_;refine zjq O O O O O O (seqb_s _ _ _ _ Xd) ?_;refine zaq 5 O ?_;exact zhq (.inr rfl) rfl (dec_c ⟨fun q=>Prod.ext (by simpa using h1) q,fun q=>by rw[q]⟩)
 ·refine zaq 11 O ?_;exact zhq (.inr rfl) rfl (xXq fun q=>h1 (by rw[q]))
theorem seqp_s(a b:List Pr)(f g:Bool)(hb:a.length<=1000000000)(hl:∀x∈a,x.2.length<=1000000000):PS cfg G 262 [.fz (a.map pW) 33 f,.fz (b.map pW) 33 g,.fn 263 [] []] (.bool (decide (a=b))):=by
 have ea:(a.map pW).length=a.length:=List.length_map _;have eb:(b.map pW).length=b.length:=List.length_map _;refine zJq (fn:=Tryz.f262) O O O (Ob rfl) (fun R k0=>?_);refine ziq 9 O ?_;refine zdq (w':=.int .i64 ((a.length:Nat):Int)) O O Ys ?_;refine zbq O O (zdq (w':=.int .i64 ((b.length:Nat):Int)) O O Qu ?_);refine zaq 3 O ?_;refine zDq rfl (fun h1=>?_) (fun h1=>?_)
 ·refine zeq 7 O ?_;exact zhq (.inr rfl) rfl Yw
 ·refine zeq 6 O ?_;refine zdq (w':=.int .i64 ((a.length:Nat):Int)) O O Ys ?_;refine zaq 4 O ?_;refine yTq (α:=Nat) (fun i=>i<=a.length/\a.take i=b.take i) (fun i=>[(17,.int .i64 (i:Int))]) [(1,_),(2,_),(6,_),(15,_),(16,_)] (fun i=>a.length-i) (0) ⟨rfl,rfl,rfl,rfl,rfl,trivial⟩ (⟨Nat.zero_le _,rfl⟩) ⟨rfl,trivial⟩ (fun i hI=>?_);obtain⟨g1,g2⟩:=hI;refine ziq 6 O ?_;refine zDq rfl (fun h2=>?_) (fun h2=>?_)
  ·obtain⟨x,hx⟩:∃x,a[i]? =some x:=⟨_,List.getElem?_eq_getElem Xd⟩
   obtain⟨y,hy⟩:∃y,b[i]? =some y:=⟨_,List.getElem?_eq_getElem Xd⟩
   refine zeq 7 O ?_;refine zbq rfl (zCq (i:=i) O O O O O O O (z1q pW hx)) ?_;refine zaq 10 O ?_;refine zbq rfl (zCq (i:=i) O O O O O O O (z1q pW hy)) ?_;refine zaq 10 O ?_;refine zjq O O O O O O (psame1_s x y (hl x (List.mem_of_getElem? hx))) ?_;refine zaq 3 O ?_;refine zDq rfl (fun h3=>?_) (fun h3=>?_)
   ·refine zeq 8 O ?_;refine yfq Xi ?_;refine zyq 2 O ?_;exact zhq (.inr rfl) rfl (by rw[decide_eq_false (ne_at hx hy Qi)])
   ·refine zeq 4 O ?_;refine zuq (i+1) O O Xm ⟨by omega,by omega⟩ ?_;refine yZq 2 O ?_;exact yhq (i+1) (⟨by omega,kKq g2 hx hy Qi⟩) Xd ⟨rfl,trivial⟩ ⟨rfl,rfl,rfl,rfl,rfl,trivial⟩ Xh Xd Xk rfl
  ·refine zeq 2 O ?_;refine yfq Xi ?_;refine zyq 8 O ?_;exact zhq (.inr rfl) rfl Qa
theorem psame_s(a b:List Pr)(f g:Bool)(hb:a.length<=1000000000)(hl:∀x∈a,x.2.length<=1000000000):PS cfg G 215 [.fz (a.map pW) 33 f,.fz (b.map pW) 33 g] (.bool (decide (a=b))):=by
 refine zJq (fn:=Tryz.f215) O O O (Ob rfl) (fun R k0=>?_);refine ziq 9 O ?_;refine zjq O O O O O O (seqp_s a b f g hb hl) ?_;refine zaq 4 O ?_;exact zhq (.inr rfl) O O
theorem calike_s{t u:Tree}{n m:Nat}{a b:T}(ht:IsT t n a)(hu:IsT u m b):PS cfg G 145 [tW t,tW u] (.bool (decide (a.all=b.all))):=by
 have h1:=ht.all_le;have h2:=ht.len;refine zJq (fn:=Tryz.f145) O O O (Ob rfl) (fun R k0=>?_);refine ziq 10 O ?_;refine zjq O O O O O O (uYq t n a ht) ?_;refine zaq 10 O ?_;refine zjq O O O O O O (uYq u m b hu) ?_;refine zaq 11 O ?_;refine zjq O O O O O O (psame_s a.all b.all false false Xd (fun x hx=>by have:=(ht.val x hx).2;omega)) ?_;refine zaq 4 O ?_;exact zhq (.inr rfl) O O
end
section
attribute [local irreducible] CoW OpW FlW Step Spec
attribute [local simp] j2q
def NextS(c:Ch)(box:Dig)(x y:Lk):Prop:=∃n t0 n1 t1 rs,IsA (verT c y.root) n t0/\IsA (verT c x.root) n1 t1/\doX box (doD t0.all x.ds).1 x.xs=some (t1.all,rs)/\x.hdr=q8q y.hdr t1 ((doD t0.all x.ds).2++rs)/\x.rs=((doD t0.all x.ds).2++rs).map recI
theorem nextS_none{c:Ch}{box:Dig}{x y:Lk}{n:Nat}{t0:T}(hA:IsA (verT c y.root) n t0)(e:doX box (doD t0.all x.ds).1 x.xs=none):¬NextS c box x y:=by
 rintro⟨n',t0',n1,t1,rs,h1,h2,h3,_⟩;obtain⟨rfl,rfl⟩:=hA.uniq h1;rw[e] at h3;cases h3
theorem nextS_some{c:Ch}{box:Dig}{x y:Lk}{n n2 nx:Nat}{t0 t2 tx:T}{t':Tree}{l:List Pr}{rs:List Rec}(hA:IsA (verT c y.root) n t0)(e:doX box (doD t0.all x.ds).1 x.xs=some (l,rs))(hT:IsA t' n2 t2)(hl:t2.all=l)(hX:IsA (verT c x.root) nx tx):NextS c box x y↔q8q y.hdr t2 ((doD t0.all x.ds).2++rs)=x.hdr/\((doD t0.all x.ds).2++rs).map recI=x.rs/\t2.all=tx.all:=by
 constructor
 ·rintro⟨n',t0',n1,t1,rs',h1,h2,h3,h4,h5⟩;obtain⟨rfl,rfl⟩:=hA.uniq h1;obtain⟨rfl,rfl⟩:=hX.uniq h2;rw[e] at h3;cases h3;have q:t2=tx:=hT.toIsT.same hX.toIsT hl;subst q;exact⟨h4.symm,h5.symm,rfl⟩
 ·rintro⟨h1,h2,h3⟩;have q:t2=tx:=hT.toIsT.same hX.toIsT h3;subst q;exact⟨n,t0,nx,t2,rs,hA,hX,by rw[e,hl],h1.symm,h2.symm⟩
theorem LkS.of0{c:Ch}{box:Dig}{x:Lk}(h:∃n t0,IsA (verT c x.root) n t0/\x.hdr=firH t0/\x.ds=[]/\x.xs=[]):LkS c box 0 x:=⟨fun _=>h,fun y h0=>absurd h0 Xr⟩
theorem firH_b(t0:T):W.agg 98 [.int .i64 0,.arr 32 1 (List.replicate 32 (.int .u8 (.ofNat 0))),dW (sumD t0),dW (tagD 0 []),.int .i64 0]=hdW (firH t0):=by
 rw[xnq];rfl
theorem csound_s(c:Ch)(hc:OkC c)(hn:c.tree.nodes.length<=200000)(box:Dig):PS cfg glK 73 [chG c,dW box] (.bool (decide (SoundC c box))):=by
 by_cases hm:MayC c
 ·skip
  refine zJq (fn:=Tryz.f73) O O O (Ob rfl) (fun R k0=>?_);refine ziq 11 O ?_;refine zjq O O O O O O (ysq (w':=.int .i64 0) (kwq c hc) Yv) ?_;refine zdq (w':=.bool false) O O (congrArg W.bool Xg) ?_;refine zaq 10 O ?_;refine zjq O O O O O O (ceach_s _ _) ?_;refine zaq 3 O ?_;refine vHq (encL c.links) (List.range c.links.length) (fun i (_:Unit)=>∀j x,j<i->c.links[j]? =some x->LkS c box j x) (fun _=>R) (()) rfl Xo (ceach_it c.links false hc.len) (encL_ok c.links) (fun j x hj=>by omega) rfl (fun i a y hy hI=>?_) (fun a hI=>?_)
  ·have hi:i<c.links.length:=by have:=qWq hy;simpa using this
   obtain rfl:i=y:=by rw[vaq hi] at hy;exact Option.some.inj hy
   obtain⟨x,hx⟩:∃x,c.links[i]? =some x:=⟨_,List.getElem?_eq_getElem hi⟩
   have hmx:=hm.link i x hx;have hB:=hc.body x (List.mem_of_getElem? hx);obtain⟨nx,tx,hX⟩:=hmx.tree;have e1:(x.ds.map pdW).length=x.ds.length:=List.length_map _;have e2:(x.xs.map txW).length=x.xs.length:=List.length_map _;have l1:=hmx.body.1;have l2:=hmx.body.2.1;have goes:LkS c box i x->∀j w,j<i+1->c.links[j]? =some w->LkS c box j w:=fun hS j w hj hw=>by rcases Nat.lt_succ_iff_lt_or_eq.1 hj with q|rfl;exact hI j w q hw;exact Option.some.inj (hx.symm.trans hw)▸hS
   have hhe:=hmx.height;skip
   cases i with
   |zero=>
    rw[show encL c.links 0=[lkG x,lkZ] by unfold encL;rw[Ywq hx];rfl];refine ziq 10 O ?_;refine upq ?_;refine ziq 7 O ?_;refine zjq O O O O O O (Zzq c.tree x.root) ?_;refine zaq 10 O ?_;refine zdq (w':=.bool true) O O (congrArg W.bool (eqI_iff.2 (hhe))) ?_;refine zaq 6 O ?_;refine zjq O O O O O O (tsum_ok (verT c x.root) nx tx hX.toIsT) ?_;refine zaq 14 O ?_;refine qrq O O O O O O (Z4q) ?_;refine jxq (w':=hdW (firH tx)) O O (firH_b tx) ?_;refine fl_dec rfl (jZq O O O O (eq_hd _ _)) (jzq yEq) (fun h1=>?_) (fun h1=>?_)
    ·have hno:¬SoundC c box:=fun q=>by
      obtain⟨n',t',h1',h2',_⟩:=(q.sound 0 x hx).first rfl;obtain⟨_,rfl⟩:=hX.uniq h1';exact h1 h2'
     refine zpq 24 O ?_;refine j3q Xi ?_;refine zyq 2 O ?_;exact zhq (.inr rfl) rfl (xXq hno)
    ·refine zpq 4 O ?_;refine jxq (w':=.int .i64 ((x.ds.length:Nat):Int)) O O Yu ?_;refine zpq 3 O ?_;refine jxq (w':=.int .i64 ((x.xs.length:Nat):Int)) O O Ym ?_;refine q3q (x.ds.length+x.xs.length) O O Xm ⟨by omega,by omega⟩ ?_;refine fl_cz O O ?_;refine zpq 3 O ?_;refine zDq rfl (fun h2=>?_) (fun h2=>?_)
     ·have hno:¬SoundC c box:=fun q=>by
       obtain⟨n',t',_,_,h3',h4'⟩:=(q.sound 0 x hx).first rfl;rw[h3',h4'] at h2;exact absurd h2 Xr
      refine zeq 9 O ?_;refine j3q Xi ?_;refine zyq 2 O ?_;exact zhq (.inr rfl) rfl (xXq hno)
     ·refine zeq 5 O ?_;exact vbq (()) (goes (LkS.of0 ⟨nx,tx,hX,Classical.not_not.1 h1,List.eq_nil_of_length_eq_zero Xd,List.eq_nil_of_length_eq_zero Xd⟩)) Xd Xk rfl
   |succ k=>
    obtain⟨z,hz⟩:∃z,c.links[k]? =some z:=⟨_,List.getElem?_eq_getElem Xd⟩
    have hmz:=hm.link k z hz;obtain⟨nz,tz,hA⟩:=hmz.tree;have hhz:=hmz.height;have hl256:=hm.len;have snext:SoundC c box->NextS c box x z:=fun q=>(q.sound (k+1) x hx).next z (Nat.succ_pos _) hz
    have hP:=apply_s (verT c z.root) nz tz hA z.hdr hmz.hdr Xd x.ds x.xs false false hB.dep hB.tx box ⟨l1,l2⟩ (by show c.tree.nodes.length+_+_<=_;omega);rw[show encL c.links (k+1)=[lkG x,lkG z] by unfold encL;rw[Ywq hx];show [lkG x,lkA c.links k]=_;rw[Ywq hz]];cases hst:doX box (doD tz.all x.ds).1 x.xs with
    |none=>
     have hno:¬SoundC c box:=fun q=>nextS_none hA hst (snext q)
     have hb:=bad_no hst;refine ziq 10 O ?_;refine upq ?_;refine ziq 7 O ?_;first|refine zjq O O O O O O (Zzq c.tree _) ?_|refine zjq O O O O O O (Zzq c.tree x.root) ?_
     refine zaq 10 O ?_;refine zdq (w':=.bool false) O O (congrArg W.bool (eqI_not.2 Xd)) ?_;refine zaq 11 O ?_;first|refine qrq O O O O O O (Zzq c.tree _) ?_|refine qrq O O O O O O (Zzq c.tree x.root) ?_
     refine zpq 5 O ?_
     (refine ygq rfl (yYq O O O O O ((v1q hP fun w h=>ap_none h hst)) Xl ?_);rintro w hw rfl;refine⟨by first|rfl|kernel_rfl,?_⟩)
     refine zpq 16 O ?_;refine zdq (w':=.bool true) O O (congrArg (fun b=>W.bool (!b)) (eqI_not.2 Xd)) ?_;refine zaq 29 O ?_;refine j3q Xi ?_;refine zyq 2 O ?_;exact zhq (.inr rfl) rfl (xXq hno)
    |some r=>
     obtain⟨l,rs⟩:=r;obtain⟨L,hL⟩:∃L,(doD tz.all x.ds).2++rs=L:=⟨_,rfl⟩
     have hrl:=Zcq hst;have hdl:=Zdq x.ds tz.all;simp only at hrl;have hLl:(L.map recI).length<=32:=by rw[List.length_map,<-hL,List.length_append];omega
     refine ziq 10 O ?_;refine upq ?_;refine ziq 7 O ?_;first|refine zjq O O O O O O (Zzq c.tree _) ?_|refine zjq O O O O O O (Zzq c.tree x.root) ?_
     refine zaq 10 O ?_;refine zdq (w':=.bool false) O O (congrArg W.bool (eqI_not.2 Xd)) ?_;refine zaq 11 O ?_;first|refine qrq O O O O O O (Zzq c.tree _) ?_|refine qrq O O O O O O (Zzq c.tree x.root) ?_
     refine zpq 5 O ?_
     (refine ygq rfl (yYq O O O O O hP Xl ?_);rintro w hw hq;obtain⟨t',n',t1,hT,hgo,rfl⟩:=ap_some hq hst;refine⟨by first|rfl|kernel_rfl,?_⟩;have hiff:=nextS_some hA hst hT hgo.1 hX;rw[hL] at hiff⊢;rw[<-recI_w];generalize L.map recI=M at hiff hLl⊢)
     refine zpq 16 O ?_;refine zdq (w':=.bool false) O O (congrArg W.bool Xg) ?_;refine zaq 4 O ?_;refine op_dec rfl (jZq O O O O (eq_hd _ _)) (jzq yEq) (fun h1=>?_) (fun h1=>?_)
     ·have hno:¬SoundC c box:=fun q=>h1 (hiff.1 (snext q)).1
      refine zaq 24 O ?_;refine j3q Xi ?_;refine zyq 2 O ?_;exact zhq (.inr rfl) rfl (xXq hno)
     ·skip
      refine zaq 5 O ?_;refine zjq O O O O O O (seqr_s M x.rs false false Xd) ?_;refine xzq (fun h2=>?_) (fun h2=>?_)
      ·refine zaq 5 O ?_;refine zjq O O O O O O (calike_s hT.toIsT hX.toIsT) ?_;refine zaq 4 O ?_;refine zDq rfl (fun h3=>?_) (fun h3=>?_)
       ·have hno:¬SoundC c box:=fun q=>absurd h3 (by rw[decide_eq_true (hiff.1 (snext q)).2.2];decide)
        refine zeq 7 O ?_;refine j3q Xi ?_;refine zyq 2 O ?_;exact zhq (.inr rfl) rfl (xXq hno)
       ·have hN:NextS c box x z:=hiff.2 ⟨Classical.not_not.1 h1,h2,by simpa using h3⟩;refine zeq 2 O ?_;exact vbq (()) (goes ⟨fun h0=>absurd h0 Xd,fun w _ hw=>Option.some.inj (hz.symm.trans hw)▸hN⟩) Xd Xk rfl
      ·have hno:¬SoundC c box:=fun q=>h2 (hiff.1 (snext q)).2.1
       refine zaq 18 O ?_;refine j3q Xi ?_;refine zyq 2 O ?_;exact zhq (.inr rfl) rfl (xXq hno)
  ·have yes:SoundC c box:=⟨hm,fun j x hx=>hI j x (by have:=qWq hx;simpa using this) hx⟩;refine zyq 8 O ?_;exact zhq (.inr rfl) rfl (dec_t yes)
 ·skip
  refine zJq (fn:=Tryz.f73) O O O (Ob rfl) (fun R k0=>?_);refine ziq 11 O ?_;refine zjq O O O O O O (ysq (w':=.int .i64 8) (kwq c hc) (by rw[if_neg hm])) ?_;refine zdq (w':=.bool true) O O (congrArg W.bool Xg) ?_;refine zaq 10 O ?_;exact zhq (.inr rfl) rfl (xXq fun q=>hm q.toMayC)
end
section
attribute [local irreducible] CoW OpW FlW Step Spec
attribute [local simp] j2q
open Classical in
noncomputable def heldL(t:Tree):List Pr:=if h:∃n t0,IsA t n t0 then h.choose_spec.choose.all else []
theorem heldL_is{t:Tree}{n:Nat}{t0:T}(h:IsA t n t0):heldL t=t0.all:=by
 have e:∃n t0,IsA t n t0:=⟨n,t0,h⟩
 unfold heldL;rw[dif_pos e,(h.uniq e.choose_spec.choose_spec).2]
structure CanAdd(c:Ch)(ds:List Depo)(xs:List Tx)(box:Dig):Prop where
 may:MayC c
 short:c.links.length<256
 many:ds.length<=16/\xs.length<=16
 goes:doX box (doD (heldL c.tree) ds).1 xs≠none
noncomputable instance(c:Ch)(ds:List Depo)(xs:List Tx)(box:Dig):Decidable (CanAdd c ds xs box):=Classical.propDecidable _
noncomputable def addE(c:Ch)(ds:List Depo)(xs:List Tx)(box:Dig):Nat:=
 if¬MayC c then 8 else if 256<=c.links.length then 9 else if 16<ds.length\/16<xs.length then 4 else badX box (doD (heldL c.tree) ds).1 xs
theorem addE_no{c:Ch}{ds:List Depo}{xs:List Tx}{box:Dig}(h:¬CanAdd c ds xs box):addE c ds xs box≠0:=by
 unfold addE;split
 ·decide
 ·split
  ·decide
  ·split
   ·decide
   ·rename_i h1 h2 h3;have:doX box (doD (heldL c.tree) ds).1 xs=none:=Classical.byContradiction fun q=>h ⟨Classical.not_not.1 h1,by omega,by omega,q⟩
    have:=bad_no this;omega
def AddA(c:Ch)(ds:List Depo)(xs:List Tx)(box:Dig):W->Prop:=fun w=>
 (CanAdd c ds xs box/\∃y t' t1 L,Adds c ds xs box y t' t1 L/\t'.nodes.length<=c.tree.nodes.length+21000/\w= .tup [chG (addC c t' (q8q y.hdr t1 L) ds xs L),.int .i64 0])\/(¬CanAdd c ds xs box/\w= .tup [noCh,.int .i64 (addE c ds xs box:Nat)])
noncomputable def addX(t':Tree)(h:Hdr)(ds:List Depo)(xs:List Tx)(L:List Rec):W:=.agg 102 [hdW h,.int .i64 t'.root,bodW ds xs false false,.fz (L.map recW) 34 false]
theorem addX_l(t':Tree)(h:Hdr)(ds:List Depo)(xs:List Tx)(L:List Rec):addX t' h ds xs L=lkG (addL t' h ds xs L):=by
 show addX t' h ds xs L= .agg 102 [hdW h,.int .i64 t'.root,bodW ds xs false false,.fz ((L.map recI).map rcW) 34 false];rw[recI_w];rfl
theorem cadd_s(c:Ch)(hc:OkC c)(hs:SmallC c)(hn:c.tree.nodes.length<=200000)(ds:List Depo)(xs:List Tx)(hB:BodOk ds xs)(box:Dig):PE cfg glK 58 [chG c,bodW ds xs false false,dW box] (AddA c ds xs box):=by
 have e:(c.links.map lkG).length=c.links.length:=List.length_map _;have refuse:∀k:Nat,¬CanAdd c ds xs box->addE c ds xs box=k->∀w,w=W.tup [noCh,.int .i64 (k:Int)] ->AddA c ds xs box w:=fun k h1 h2 w h3=>.inr ⟨h1,by rw[h2];exact h3⟩
 by_cases hm:MayC c
 ·obtain⟨y,hy,hroot,hmy⟩:=hm.last;have hno:=hm.one;by_cases hf:c.links.length<256
  ·obtain⟨n,t0,hA,_⟩:=hm.head hy;have hh:=heldL_is hA;have hhy:=hmy.height;have hbk:MayBk c.tree y.hdr:=⟨⟨n,t0,hA⟩,hmy.hdr,by omega⟩;by_cases hmany:ds.length<=16/\xs.length<=16
   ·have hP:=apply_s c.tree n t0 hA y.hdr hmy.hdr Xd ds xs false false hB.dep hB.tx box hmany Xd;cases hst:doX box (doD t0.all ds).1 xs with
    |none=>
     have hb:=bad_no hst;have hP:=v1q hP fun w h=>ap_none h hst
     refine qHq (fn:=Tryz.f58) O O O (Ob rfl) (fun R k0=>?_);refine ziq 12 O ?_;refine zjq O O O O O O (Y3q c hc hm hy) ?_;refine zaq 13 O ?_;refine zdq (w':=.bool false) O O (congrArg W.bool Xg) ?_;refine zaq 8 O ?_;refine zdq (w':=.int .i64 ((c.links.length:Nat):Int)) O O Xw ?_;refine zdq (w':=.bool false) O O (congrArg W.bool (eqI_not.2 Xd)) ?_;refine zaq 14 O ?_
     (refine zlq rfl (yYq O O O O O (hP) Xl ?_);rintro w hw rfl)
     refine zaq 17 O ?_;refine zdq (w':=.bool true) O O (congrArg (fun b=>W.bool (!b)) (eqI_not.2 Xd)) ?_;refine zaq 13 O ?_;exact yPq (w':=.tup [noCh,.int .i64 (badX box (doD t0.all ds).1 xs:Nat)]) (.inr rfl) rfl (.pur rfl) rfl (refuse _ (fun q=>q.goes (by rw[hh,hst])) (by unfold addE;rw[if_neg (fun q=>q hm),if_neg Xd,if_neg Xd,hh]) _ rfl)
    |some r=>
     obtain⟨l,rs⟩:=r;obtain⟨L,hL⟩:∃L,(doD t0.all ds).2++rs=L:=⟨_,rfl⟩
     have hrl:=Zcq hst;have hdl:=Zdq ds t0.all;simp only at hrl;have hLl:L.length<=32:=by rw[<-hL,List.length_append];omega
     have hca:CanAdd c ds xs box:=⟨hm,hf,hmany,by rw[hh,hst];intro q;cases q⟩;refine qHq (fn:=Tryz.f58) O O O (Ob rfl) (fun R k0=>?_);refine ziq 12 O ?_;refine zjq O O O O O O (Y3q c hc hm hy) ?_;refine zaq 13 O ?_;refine zdq (w':=.bool false) O O (congrArg W.bool Xg) ?_;refine zaq 8 O ?_;refine zdq (w':=.int .i64 ((c.links.length:Nat):Int)) O O Xw ?_;refine zdq (w':=.bool false) O O (congrArg W.bool (eqI_not.2 Xd)) ?_;refine zaq 14 O ?_;skip
     refine zlq rfl (yYq O O O O O hP Xl ?_);rintro w hw hq;obtain⟨t',n',t1,hT,hgo,rfl⟩:=ap_some hq hst;rw[hL];have hadd:Adds c ds xs box y t' t1 L:=⟨hm,hf,hy,hmany,⟨n,t0,n',rs,hA,hT,by rw[hst,hgo.1],hL.symm⟩,by obtain⟨ms,e1,_⟩:=hgo.2;exact⟨ms,e1⟩⟩;have hgrow:t'.nodes.length<=c.tree.nodes.length+21000:=by obtain⟨ms,e1,e2⟩:=hgo.2;rw[e1,List.length_append];omega
     have hz:=addX_l t' (q8q y.hdr t1 L) ds xs L;have ep:purL (c.links.map lkG++[addX t' (q8q y.hdr t1 L) ds xs L])=true:=by rw[hz];exact kDq (c.links++[addL t' (q8q y.hdr t1 L) ds xs L])▸by rw[List.map_append];rfl
     skip
     refine zaq 17 O ?_;refine zdq (w':=.bool false) O O (congrArg W.bool Xg) ?_;refine zaq 8 O ?_
     (refine zlq rfl (step_twin c hs (fun q=>by rw[q] at hno;cases hno) O O O O ?_))
     refine zaq 12 O ?_;refine zjq O O O O O (by rw[<-hz];rfl) (clink_s (addL t' (q8q y.hdr t1 L) ds xs L) ⟨by show ds.length<=_;omega,by show xs.length<=_;omega,by show(L.map recI).length<=_;rw[List.length_map];omega⟩) ?_;rw[<-hz]
     refine zaq 11 O ?_;refine yVq rfl (qsq O O (qTq (k:=ti132) (len:=c.links.length) (news:=[addX t' (q8q y.hdr t1 L) ds xs L]) (olds:=c.links.map lkG) O O O O (jdq O O O O) Xl (by show(c.links.length+1)*192<=_;omega) (by show c.links.length+1<=_;omega) rfl (by show c.links.length*102<0+(c.links.length+1)*102;omega) rfl (zEq Xr e.symm rfl))) Xu ?_;refine zpq 14 O ?_;have hmap:(c.links++[addL t' (q8q y.hdr t1 L) ds xs L]).map lkG=c.links.map lkG++[addX t' (q8q y.hdr t1 L) ds xs L]:=by rw[List.map_append,hz];rfl
     exact yPq (w':=.tup [.agg 3 [tW t',.fz (c.links.map lkG++[addX t' (q8q y.hdr t1 L) ds xs L]) 102 false],.int .i64 0]) (.inr rfl) rfl (.tup (.cons (.agg (.cons (.pur (qtq t')) (.cons (.sl (full:=false) rfl ep (zEq Xr Xl rfl) Xi) .nil))) (.cons (.pur rfl) .nil))) (by show((purW (tW t')&&(purL _&&true))&&_)=true;rw[qtq,ep];rfl) (.inl ⟨hca,y,t',t1,L,hadd,hgrow,by rw[<-hmap];rfl⟩)
   ·have hpr:purW (refW 4)=true:=by
     show(purW noT&&(purW (hdW hdZ)&&(true&&(true&&true))))=true;rw[YBq];rfl
    refine qHq (fn:=Tryz.f58) O O O (Ob rfl) (fun R k0=>?_);refine ziq 12 O ?_;refine zjq O O O O O O (Y3q c hc hm hy) ?_;refine zaq 13 O ?_;refine zdq (w':=.bool false) O O (congrArg W.bool Xg) ?_;refine zaq 8 O ?_;refine zdq (w':=.int .i64 ((c.links.length:Nat):Int)) O O Xw ?_;refine zdq (w':=.bool false) O O (congrArg W.bool (eqI_not.2 Xd)) ?_;refine zaq 14 O ?_;refine zjq O O O O O O (apply_many c.tree y.hdr ds xs false false box Xd hbk Xd) ?_;refine zaq 17 O ?_;refine zdq (w':=.bool true) O O (congrArg W.bool Xg) ?_;refine zaq 13 O ?_;exact yPq (w':=.tup [noCh,.int .i64 (4:Nat)]) (.inr rfl) rfl (.pur rfl) rfl (refuse 4 (fun q=>hmany q.many) (by unfold addE;rw[if_neg (fun q=>q hm),if_neg Xd,if_pos Xd]) _ rfl)
  ·have h256:=hm.len;refine qHq (fn:=Tryz.f58) O O O (Ob rfl) (fun R k0=>?_);refine ziq 12 O ?_;refine zjq O O O O O O (Y3q c hc hm hy) ?_;refine zaq 13 O ?_;refine zdq (w':=.bool false) O O (congrArg W.bool Xg) ?_;refine zaq 8 O ?_;refine zdq (w':=.int .i64 ((c.links.length:Nat):Int)) O O Xw ?_;refine zdq (w':=.bool true) O O (congrArg W.bool (eqI_iff.2 Xd)) ?_;refine zaq 14 O ?_;exact yPq (w':=.tup [noCh,.int .i64 (9:Nat)]) (.inr rfl) rfl (.pur rfl) rfl (refuse 9 (fun q=>hf q.short) (by unfold addE;rw[if_neg (fun q=>q hm),if_pos Xd]) _ rfl)
 ·skip
  refine qHq (fn:=Tryz.f58) O O O (Ob rfl) (fun R k0=>?_);refine ziq 12 O ?_;refine zjq O O O O O O (chead_no c hc hm) ?_;refine zaq 13 O ?_;refine zdq (w':=.bool true) O O (congrArg W.bool Xg) ?_;refine zaq 15 O ?_;exact yPq (w':=.tup [noCh,.int .i64 (8:Nat)]) (.inr rfl) rfl (.pur rfl) rfl (refuse 8 (fun q=>hm q.may) (by unfold addE;rw[if_pos hm]) _ rfl)
end
noncomputable def fz{α:Type}(n:Nat)(c:Nat->α):α:=Nat.rec (c 0) (fun m _=>c (Nat.succ m)) n
noncomputable def wS(bs:Nat->Nat)(i:Nat):Nat:=(qMq bs (i+1)).getD i 0
noncomputable def small(l:List Nat):Prop:=∀b∈l,b<256
section
attribute [local irreducible] CoW OpW FlW Step Spec
variable {G:Nat->Option W}
def HeldB(ps:List Pr):Prop:=∀p∈ps,(jKq p.2).2=0
noncomputable instance(ps:List Pr):Decidable (HeldB ps):=Classical.propDecidable _
theorem mayA_iff{t:Tree}{n:Nat}{t0:T}(h:IsT t n t0):MayA t↔HeldB t0.all:=by
 constructor
 ·rintro⟨n',t',h'⟩;have hn:n=n':=by have:=h.root;have:=h'.root;omega
  subst hn;rw[h.rep.uniq h'.rep];exact h'.held
 ·exact fun q=>⟨n,t0,h,q⟩
end
section
attribute [local irreducible] CoW OpW FlW Step Spec
variable {G:Nat->Option W}
theorem mayp_srt{l:List Pr}(h:MayP l):Srt l:=by
 have key:∀n i j (hi:i<l.length) (hj:j<l.length),i+n+1=j->y6q l[i].1 l[j].1=true:=by
  intro n;induction n with
  |zero=>
   intro i j hi hj e;subst e;exact(h.2 (i+1) hj l[i+1] (List.getElem?_eq_getElem hj)).2 l[i] Xd (by show l[i+1-1]? =_;rw[Nat.add_sub_cancel];exact List.getElem?_eq_getElem hi)
  |succ n ih=>
   intro i j hi hj e;have h1:=ih i (j-1) hi Xd Xd;have h2:=(h.2 j hj l[j] (List.getElem?_eq_getElem hj)).2 l[j-1] Xd (List.getElem?_eq_getElem Xd);exact Qdq h1 h2
 exact List.pairwise_iff_getElem.2 fun i j hi hj hij=>key (j-i-1) i j hi hj Xd
theorem take_with{l:List Pr}(h:Srt l){i:Nat}{x:Pr}(hx:l[i]? =some x):xAq (l.take i) x.1 x.2=l.take (i+1):=by
 obtain⟨hi,ex⟩:=List.getElem?_eq_some_iff.1 hx
 have hp:∀p∈l.take i,y6q p.1 x.1=true:=fun p hp=>by
  obtain⟨j,hj⟩:=List.getElem?_of_mem hp;obtain⟨hj1,hj2⟩:=List.getElem?_eq_some_iff.1 hj;rw[List.length_take] at hj1;rw[List.getElem_take] at hj2;rw[<-hj2,<-ex];exact List.pairwise_iff_getElem.1 h j i Xd hi Xd
 unfold xAq;rw[List.filter_eq_self.2 hp,List.filter_eq_nil_iff.2 fun p q=>by rw[koq (hp p q)];simp,List.take_add_one,hx];rfl
def okB(l:List Pr):Prop:=MayP l/\HeldB l
noncomputable instance(l:List Pr):Decidable (okB l):=Classical.propDecidable _
end
section
attribute [local irreducible] CoW OpW FlW Step Spec
noncomputable def newL(t:Tree)(t0:T):Lk:=⟨firH t0,t.root,[],[],[]⟩
noncomputable abbrev newX(t:Tree)(t0:T):W:=.agg 102 [hdW (firH t0),.int .i64 t.root,.agg 2 [.fz [] 34 false,.fz [] 99 false],.fz [] 34 false]
noncomputable def newC(t:Tree)(t0:T):Ch:=⟨t,[newL t t0]⟩
def ChNA(l:List Pr):W->Prop:=fun w=>(¬okB l/\w= .tup [noCh,.int .i64 8])\/(okB l/\∃t n t0,IsA t n t0/\t0.all=l/\t.nodes.length<=257*l.length/\w= .tup [chG (newC t t0),.int .i64 0])
theorem cnew_s(l:List Pr)(f:Bool)(hb:l.length<=1000000000):PE cfg glK 56 [.fz (l.map pW) 33 f] (ChNA l):=by
 by_cases hm:MayP l
 ·have hs:=mayp_srt hm;have e:(l.map pW).length=l.length:=List.length_map _;have h512:=hm.1;refine qHq (fn:=Tryz.f56) O O O (Ob rfl) (fun R k0=>?_);refine ziq 10 O ?_;refine zjq O O O O O O (ysq (w':=.int .i64 0) (Joq l f Xd) Yv) ?_;refine zaq 21 O ?_;refine zdq (w':=.int .i64 (l.length:Int)) O O Xw ?_;refine zaq 4 O ?_;refine co_ent (ent_blkv (b:=1) (w':=tW ⟨[],0⟩) rfl (.agg (.cons .nilfz (.cons (.pur rfl) .nil)))) ?_;refine vIq (α:=Nat×Tree×T) (fun p=>p.1<=l.length/\(∃n,IsT p.2.1 n p.2.2)/\p.2.2.all=l.take p.1/\p.2.1.nodes.length<=257*p.1) (fun p=>[(22,.int .i64 (p.1:Int))]) [(2,_),(3,_),(5,_),(20,_),(21,_)] (fun p=>[(1,24,tW p.2.1),(0,70,noCh)]) (fun p=>l.length-p.1) ((0,⟨[],0⟩,.nil)) ⟨rfl,rfl,rfl,rfl,rfl,trivial⟩ (⟨Nat.zero_le _,⟨0,by show(0:Nat)<=_;omega,fun i x h=>by simp at h,rfl,.nil,rfl⟩,rfl,Nat.le_refl _⟩) ⟨rfl,trivial⟩ (rfl) (fun p hI=>?_);obtain⟨i,t,t0⟩:=p;obtain⟨g1,⟨n,g2⟩,g3,g4⟩:=hI;simp only at g1 g2 g3 g4⊢;refine ziq 6 O ?_;refine zDq rfl (fun h1=>?_) (fun h1=>?_)
  ·have hi:i<l.length:=by omega
   obtain⟨x,hx⟩:∃x,l[i]? =some x:=⟨_,List.getElem?_eq_getElem hi⟩
   have hv:MayP [(x.1,x.2)]:=(mayp_val x.1 x.2).2 (hm.2 i hi x hx).1;refine zeq 6 O ?_;refine zbq rfl (zCq (i:=i) O O O O O O O (z1q pW hx)) ?_;refine zaq 12 O ?_
   (refine zlq rfl (yYq O O O O O (tput_s t n t0 x.1 x.2 false g2 hv Xd) Xl ?_);rintro w hw ⟨t',n',ht',⟨ms,hms,hml⟩,rfl⟩)
   refine zaq 12 O ?_;refine zdq (w':=.bool false) O O (congrArg W.bool Xg) ?_;refine zaq 12 O ?_;refine zuq (i+1) O O Xm ⟨by omega,by omega⟩ ?_;refine yZq 2 O ?_;have hall:(t0.put x.1 x.2 256).all=l.take (i+1):=by rw[(j4q x.1 x.2 256 t0 (d:=0) (b:=jsq) rfl jSq g2.ok (Nat.zero_le _)).2,g3];exact take_with hs hx
   exact q_againH ((i+1,t',t0.put x.1 x.2 256)) (⟨hi,⟨n',ht'⟩,hall,by show t'.nodes.length<=_;rw[hms,List.length_append];omega⟩) Yg (Nat.zero_le _) ⟨rfl,trivial⟩ ⟨rfl,rfl,rfl,rfl,rfl,trivial⟩ Xh Xh Xd Xp Yk
  ·have hi:i=l.length:=by omega
   have hall:t0.all=l:=by rw[g3,hi,List.take_length]
   have hiff:=mayA_iff g2;rw[hall] at hiff;by_cases hh:HeldB l
   ·skip
    have hA:MayA t:=hiff.2 hh;obtain⟨n2,t2,hA2⟩:=hA;refine zeq 2 O ?_;refine q0q Xi ?_;refine zyq 6 O ?_;refine zjq O O O O O O (ysq (w':=.int .i64 0) (qIq t Xd) (by rw[if_pos ⟨n2,t2,hA2⟩])) ?_;refine zaq 6 O ?_;refine zdq (w':=.bool false) O O (congrArg W.bool Xg) ?_;refine zaq 8 O ?_;refine zjq O O O O O O (tsum_ok t n t0 g2) ?_;refine zaq 11 O ?_;refine qrq O O O O O O Z4q ?_;refine jxq (w':=hdW (firH t0)) O O (by show W.agg 98 [_,W.arr 32 1 (List.replicate 32 (.int .u8 (.ofNat 0))),_,_,_]=_;rw[xnq];rfl) ?_;refine zpq 18 O ?_;refine yPq (w':=.tup [.agg 3 [tW t,.fz [newX t t0] 102 false],.int .i64 0]) (.inr rfl) rfl (.tup (.cons (.agg (.cons (.pur Xl) (.cons (.sl2 (full:=false) (c':=newX t t0) (xs:=[newX t t0]) rfl (.agg (.cons (.pur (YBq _)) (.cons (.pur rfl) (.cons (.agg (.cons .nilfz (.cons .nilfz .nil))) (.cons .nilfz .nil))))) rfl Xi) .nil))) (.cons (.pur rfl) .nil))) (by simp[purW,purL]) (.inr ⟨⟨hm,hh⟩,t,n,t0,?_,hall,by rw[<-hi];exact g4,rfl⟩);exact⟨g2,by rw[hall];exact hh⟩
   ·refine zeq 2 O ?_;refine q0q Xi ?_;refine zyq 6 O ?_;refine zjq O O O O O O (ysq (w':=.int .i64 8) (qIq t Xd) (by rw[if_neg (fun q=>hh (hiff.1 q))])) ?_;refine zaq 6 O ?_;refine zdq (w':=.bool true) O O (congrArg W.bool Xg) ?_;refine zaq 13 O ?_;exact yPq (w':=.tup [noCh,.int .i64 8]) (.inr rfl) rfl (.pur rfl) rfl (.inl ⟨fun q=>hh q.2,rfl⟩)
 ·skip
  refine qHq (fn:=Tryz.f56) O O O (Ob rfl) (fun R k0=>?_);refine ziq 10 O ?_;refine zjq O O O O O O (ysq (w':=.int .i64 8) (Joq l f Xd) (by rw[if_neg hm])) ?_;refine zaq 20 O ?_;exact yPq (w':=.tup [noCh,.int .i64 8]) (.inr rfl) rfl (.pur rfl) rfl (.inl ⟨fun q=>hm q.1,rfl⟩)
theorem newC_is{t:Tree}{n:Nat}{t0:T}(h:IsA t n t0)(box:Dig):SoundC (newC t t0) box:=by
 refine⟨⟨by simp[newC],by simp[newC],fun x e=>by cases e;rfl,fun i x e=>?_⟩,fun i x e=>?_⟩
 ·have hi:=qWq e;obtain rfl:i=0:=by simp[newC] at hi;exact hi
  cases e;exact⟨rfl,⟨by show(0:Int)<=0;decide,by show(0:Int)<=1073741824;decide,by show(0:Int)<=0;decide,by show(0:Int)<=256;decide⟩,fun y h0=>absurd h0 Xr,rfl,⟨Nat.zero_le _,Nat.zero_le _,fun x h=>by cases h⟩,n,t0,h⟩
 ·have hi:=qWq e;obtain rfl:i=0:=by simp[newC] at hi;exact hi
  cases e;exact LkS.of0 ⟨n,t0,h,rfl,rfl,rfl⟩
end
section
attribute [local irreducible] CoW OpW FlW Step Spec
section
variable {c:Ch} {ds:List Depo} {xs:List Tx} {box:Dig} {y:Lk} {t':Tree} {t1:T} {L:List Rec}
theorem Adds.tree(h:Adds c ds xs box y t' t1 L):∃n,IsA t' n t1:=by
 obtain⟨n,t0,n1,rs,h1,h2,_⟩:=h.is;exact⟨n1,h2⟩
theorem Adds.few(h:Adds c ds xs box y t' t1 L):L.length<=32:=by
 obtain⟨n,t0,n1,rs,h1,h2,h3,rfl⟩:=h.is;have e1:=Zcq h3;simp only at e1;have:=Zdq ds t0.all;have:=h.many;rw[List.length_append];omega
theorem Adds.okc(h:Adds c ds xs box y t' t1 L)(hc:OkC c)(hB:BodOk ds xs)(g:Hdr):OkC (addC c t' g ds xs L):=by
 obtain⟨n,hT⟩:=h.tree;have hl:=hT.len;have hs:=h.short;have hf:=h.few;refine⟨fun x hx=>?_,by show t'.nodes.length<=_;omega,by show(c.links++[_]).length<=_;rw[List.length_append];show _+1<=_;omega,fun x hx=>?_⟩
 ·rcases List.mem_append.1 hx with q|q
  ·exact hc.body x q
  ·rw[List.mem_singleton.1 q];exact hB
 ·rcases List.mem_append.1 hx with q|q
  ·exact hc.recs x q
  ·rw[List.mem_singleton.1 q];show(L.map recI).length<=_;rw[List.length_map];omega
theorem Adds.smallc(h:Adds c ds xs box y t' t1 L)(hs:SmallC c)(g:Hdr):SmallC (addC c t' g ds xs L):=by
 obtain⟨n,hT⟩:=h.tree;have hl:=hT.len;have hsh:=h.short;have hf:=h.few;have hm:=h.many;refine⟨by show t'.nodes.length<=_;omega,IsT.vals (root:=t'.root) hT.toIsT,by show(c.links++[_]).length<=_;rw[List.length_append];show _+1<=_;omega,fun x hx=>?_⟩;rcases List.mem_append.1 hx with q|q
 ·exact hs.link x q
 ·rw[List.mem_singleton.1 q];refine⟨by show ds.length<=_;omega,by show xs.length<=_;omega,?_⟩;show(L.map recI).length<=_;rw[List.length_map];omega
end
theorem OkC.cut{c:Ch}(hc:OkC c)(i:Nat)(x:Lk):OkC (cutC c i x):=
 ⟨fun y hy=>hc.body y (List.mem_of_mem_take hy),hc.nodes,by have:=hc.len;show(c.links.take _).length<=_;rw[List.length_take];omega,fun y hy=>hc.recs y (List.mem_of_mem_take hy)⟩
theorem SmallC.cut{c:Ch}(hs:SmallC c)(i:Nat)(x:Lk):SmallC (cutC c i x):=
 ⟨hs.nodes,hs.vals,by have:=hs.len;show(c.links.take _).length<=_;rw[List.length_take];omega,fun y hy=>hs.link y (List.mem_of_mem_take hy)⟩
theorem greatc_small{c:Ch}{n:Nat}(hn:n<=1000)(h:¬Qjq c n):SmallC c:=by
 obtain⟨h1,h2,h3⟩:=greatc_no h;refine⟨by omega,fun x hx=>?_,by omega,fun x hx=>?_⟩
 ·obtain⟨j,hj⟩:=List.getElem?_of_mem hx;have:=qWq hj;refine Nat.le_of_not_lt fun q=>h (.inl (.inr ⟨j,x,by omega,hj,by omega⟩))
 ·obtain⟨k1,k2⟩:=h3 x hx;unfold y3q at k1;omega
theorem newC_ok{t:Tree}{n:Nat}{t0:T}(h:IsA t n t0):OkC (newC t t0)/\SmallC (newC t t0):=by
 have hl:=h.len;refine⟨⟨fun x hx=>?_,by show t.nodes.length<=_;omega,by show 1<=_;decide,fun x hx=>?_⟩,⟨by show t.nodes.length<=_;omega,IsT.vals (root:=t.root) h.toIsT,by show 1<=_;decide,fun x hx=>?_⟩⟩;all_goals rw[List.mem_singleton.1 hx]
 ·exact⟨(fun d h=>by cases h),(fun d h=>by cases h),Nat.zero_le _,Nat.zero_le _⟩
 ·exact Nat.zero_le _
 ·exact⟨Nat.zero_le _,Nat.zero_le _,Nat.zero_le _⟩
theorem okB_nil:okB []:=⟨⟨by decide,fun i hi x h=>by cases h⟩,fun p h=>by cases h⟩
theorem bodN:BodOk [] []:=⟨(fun d h=>by cases h),(fun d h=>by cases h),Nat.zero_le _,Nat.zero_le _⟩
end
section
attribute [local irreducible] CoW OpW FlW Step Spec
variable {G:Nat->Option W}
def SameK(x y:Lk):Prop:=x.hdr=y.hdr/\(x.ds=y.ds/\x.xs=y.xs)/\x.rs=y.rs
noncomputable instance(x y:Lk):Decidable (SameK x y):=Classical.propDecidable _
theorem rslink_s(x y:Lk)(h:x.ds.length<=1000000/\x.xs.length<=1000000/\x.rs.length<=1000000):PS cfg G 66 [lkG x,lkG y] (.bool (decide (SameK x y))):=by
 obtain⟨h1,h2,h3⟩:=h;refine zJq (fn:=Tryz.f66) O O O (Ob rfl) (fun R k0=>?_);refine ziq 13 O ?_;refine op_dec rfl (qRq O O O O (eq_hd _ _)) yEq (fun h1=>?_) (fun h1=>?_)
 ·refine zaq 5 O ?_;refine zjq O O O O O O (rsbody_s x.ds x.xs y.ds y.xs false false false false Xd Xd) ?_;refine xzq (fun h2=>?_) (fun h2=>?_)
  ·refine zaq 6 O ?_;refine zjq O O O O O O (rseqr_s x.rs y.rs false false Xd) ?_;refine zaq 5 O ?_;exact zhq (.inr rfl) rfl (dec_c ⟨fun q=>⟨by assumption,by assumption,q⟩,fun q=>q.2.2⟩)
  ·refine zaq 12 O ?_;exact zhq (.inr rfl) rfl (xXq fun q=>absurd q.2.1 Yj)
 ·refine zaq 18 O ?_;exact zhq (.inr rfl) rfl (xXq fun q=>absurd q.1 Yj)
theorem get_old{α:Type}{l:List α}{a x:α}{i:Nat}(h:l[i]? =some x):(l++[a])[i]? =some x:=by
 rw[List.getElem?_append_left (qWq h)];exact h
end
section
attribute [local irreducible] CoW OpW FlW Step Spec
def MayV(v:Vw):Prop:=MayC v.ch/\(0<=v.final/\v.final<(v.ch.links.length:Int)/\0<=v.number/\v.number<=1073741823)
noncomputable instance(v:Vw):Decidable (MayV v):=Classical.propDecidable _
theorem k0q(v:Vw)(hc:OkC v.ch):PS cfg glK 48 [vwG v] (.int .i64 (if MayV v then 0 else 8)):=by
 have e:(v.ch.links.map lkG).length=v.ch.links.length:=List.length_map _;by_cases hm:MayC v.ch
 ·skip
  refine zJq (fn:=Tryz.f48) O O O (Ob rfl) (fun R k0=>?_);refine ziq 11 O ?_;refine zjq O O O O O O (ysq (w':=.int .i64 0) (kwq v.ch hc) Yv) ?_;refine zdq (w':=.bool false) O O (congrArg W.bool Xg) ?_;refine zaq 3 O ?_;refine qaq O O (fun h1=>?_) (fun h1=>?_)
  ·refine zaq 30 O ?_;exact zhq (.inr rfl) rfl Xy
  ·refine zaq 7 O ?_;refine zdq (w':=.int .i64 ((v.ch.links.length:Nat):Int)) O O Xw ?_;refine qaq O O (fun h2=>?_) (fun h2=>?_)
   ·refine zaq 21 O ?_;exact zhq (.inr rfl) rfl Xy
   ·refine zaq 4 O ?_;refine qaq O O (fun h3=>?_) (fun h3=>?_)
    ·refine zaq 16 O ?_;exact zhq (.inr rfl) rfl Xy
    ·refine zaq 4 O ?_;refine y0q O O ?_;refine zaq 3 O ?_;refine zDq rfl (fun h4=>?_) (fun h4=>?_)
     ·refine zeq 7 O ?_;exact zhq (.inr rfl) rfl Xy
     ·refine zeq 8 O ?_;exact zhq (.inr rfl) rfl Xy
 ·skip
  refine zJq (fn:=Tryz.f48) O O O (Ob rfl) (fun R k0=>?_);refine ziq 11 O ?_;refine zjq O O O O O O (ysq (w':=.int .i64 8) (kwq v.ch hc) (by rw[if_neg hm])) ?_;refine zdq (w':=.bool true) O O (congrArg W.bool Xg) ?_;refine zaq 34 O ?_;exact zhq (.inr rfl) rfl (by rw[if_neg fun q=>hm q.1])
theorem vtwin_s(v:Vw)(hs:SmallC v.ch)(hne:v.ch.links≠[]):PS cfg glK 52 [vwG v] (vwG v):=by
 refine zJq (fn:=Tryz.f52) O O O (Ob rfl) (fun R k0=>?_);refine ziq 10 O ?_;refine zjq O O O O O O (ctwin_s v.ch hs hne) ?_;refine zaq 11 O ?_;exact zhq (.inr rfl) O O
noncomputable def noVw:W:=.agg 6 [.int .i64 0,.bool false,.int .i64 0,noCh]
def TurnQ(P:Nat->Vw->Prop):W->HpW->Nat->Prop:=fun w hp nw=>nw=1/\∃(k:Nat) (u:Vw) (n:Int) (b:Bool) (f:Int) (x:W),w= .int .i64 (k:Int)/\hp=[(0,72,.agg 6 [.int .i64 n,.bool b,.int .i64 f,x])]/\purW x=true/\(k=0->n=u.number/\b=u.down/\f=u.final/\x=chG u.ch/\n<=1073741823/\0<=n)/\P k u
def upV(u:Vw):Vw:={u with number:=u.number+1}
def OfA(v:Vw)(P:Nat->Vw->Prop):W->Prop:=fun w=>(∃u,MayV v/\v.number≠1073741823/\P 0 u/\w= .tup [vwG (upV u),.int .i64 0])\/(∃k u,MayV v/\v.number≠1073741823/\k≠0/\P k u/\w= .tup [noVw,.int .i64 (k:Nat)])\/(¬MayV v/\w= .tup [noVw,.int .i64 8])\/(MayV v/\v.number=1073741823/\w= .tup [noVw,.int .i64 9])
theorem OfA.shape{v:Vw}{P:Nat->Vw->Prop}{w:W}(h:OfA v P w):∃a b c d n,w= .tup [.agg 6 [a,b,c,d],.int .i64 n]:=by
 rcases h with ⟨u,_,_,_,rfl⟩|⟨k,u,_,_,_,_,rfl⟩|⟨_,rfl⟩|⟨_,_,rfl⟩<;>exact⟨_,_,_,_,_,rfl⟩
theorem vof_s(F:FuncId)(cs:List W)(hcs:purL cs=true)(hF0:cfg.ext F=none)(v:Vw)(hc:OkC v.ch)(hs:SmallC v.ch)(P:Nat->Vw->Prop)(hF:MayV v->v.number≠1073741823->yLq cfg glK F 1 (.ptr 0 0::cs) [(0,72,vwG v)] (TurnQ P)):PE cfg glK 153 [.agg 1 [.fn F [] cs],vwG v] (OfA v P):=by
 by_cases hm:MayV v
 ·have hone:=hm.1.one;by_cases hn:v.number=1073741823
  ·skip
   refine qHq (fn:=Tryz.f153) O O O (Ob rfl) (fun R k0=>?_);refine ziq 13 O ?_;refine zjq O O O O O O (ysq (w':=.int .i64 0) (k0q v hc) Yv) ?_;refine zdq (w':=.bool false) O O (congrArg W.bool Xg) ?_;refine zaq 8 O ?_;refine zdq (w':=.bool true) O O (congrArg W.bool (eqI_iff.2 (hn))) ?_;refine zaq 14 O ?_;exact yPq (w':=.tup [noVw,.int .i64 9]) (.inr rfl) rfl (.pur rfl) rfl (.inr (.inr (.inr ⟨hm,hn,rfl⟩)))
  ·skip
   refine qHq (fn:=Tryz.f153) O O O (Ob rfl) (fun R k0=>?_);refine ziq 13 O ?_;refine zjq O O O O O O (ysq (w':=.int .i64 0) (k0q v hc) Yv) ?_;refine zdq (w':=.bool false) O O (congrArg W.bool Xg) ?_;refine zaq 8 O ?_;refine zdq (w':=.bool false) O O (congrArg W.bool (eqI_not.2 (hn))) ?_;refine zaq 10 O ?_;refine zjq O O O O O O (vtwin_s v hs (fun q=>by rw[q] at hone;cases hone)) ?_;refine zaq 9 O ?_;skip
   skip
   refine zlq rfl (ymq (ext:=[3]) (ws:=.ptr 0 0::cs) O O hF0 rfl (by show W.ptr 3 0::cs=W.ptr 3 0::qgq _ cs;rw[jJq hcs]) (hF hm hn) Xr Xt Xl (uHq (by rw[zkq (ylq v)];rfl) (zfq (ylq v))) (zfq (w:=.tup cs) hcs) ?_);rintro w hp1 nw1 ⟨rfl,k,u,n,b,f,x,rfl,rfl,hx,hok,hp⟩
   have hpx:purW (.agg 6 [.int .i64 n,.bool b,.int .i64 f,x])=true:=by
    show(true&&(true&&(true&&(purW x&&true))))=true;rw[hx];rfl
   rw[xHq hpx];cases k with
   |zero=>
    obtain⟨rfl,rfl,rfl,rfl,h1,h2⟩:=hok rfl;skip
    refine zaq 6 O ?_;refine zdq (w':=.bool false) O O (congrArg W.bool Xg) ?_;refine zaq 9 O ?_;first|refine yjq O O ⟨by omega,by omega⟩ ?_|refine zbq O O ?_
    refine zaq 12 O ?_;exact yPq (w':=.tup [vwG (upV u),.int .i64 0]) (.inr rfl) rfl (.pur (by show(purW (vwG (upV u))&&_)=true;rw[ylq];rfl)) (by show(purW (vwG (upV u))&&_)=true;rw[ylq];rfl) (.inl ⟨u,hm,hn,hp,rfl⟩)
   |succ k=>
    skip
    refine zaq 6 O ?_;refine zdq (w':=.bool true) O O (congrArg (fun b=>W.bool (!b)) (eqI_not.2 Xd)) ?_;refine zaq 13 O ?_;exact yPq (w':=.tup [noVw,.int .i64 ((k+1:Nat):Int)]) (.inr rfl) rfl (.pur rfl) rfl (.inr (.inl ⟨k+1,u,hm,hn,by omega,hp,rfl⟩))
 ·skip
  refine qHq (fn:=Tryz.f153) O O O (Ob rfl) (fun R k0=>?_);refine ziq 13 O ?_;refine zjq O O O O O O (ysq (w':=.int .i64 8) (k0q v hc) (by rw[if_neg hm])) ?_;refine zdq (w':=.bool true) O O (congrArg W.bool Xg) ?_;refine zaq 14 O ?_;exact yPq (w':=.tup [noVw,.int .i64 8]) (.inr rfl) rfl (.pur rfl) rfl (.inr (.inr (.inl ⟨hm,rfl⟩)))
end
section
attribute [local irreducible] CoW OpW FlW Step Spec
def InV(v:Vw)(h:Int):Prop:=v.final<=h/\h<(v.ch.links.length:Int)
noncomputable instance(v:Vw)(h:Int):Decidable (InV v h):=Classical.propDecidable _
theorem vwithin_s(v:Vw)(h:Int):yLq cfg glK 156 1 [.ptr 0 0,.int .i64 h] [(0,72,vwG v)] fun w hp nw=>w= .bool (decide (InV v h))/\hp=[(0,72,vwG v)]/\nw=1:=by
 have e:(v.ch.links.map lkG).length=v.ch.links.length:=List.length_map _;intro R;by_cases h1:v.final<=h
 ·by_cases h2:h<(v.ch.links.length:Int)
  ·refine zLq (fn:=Tryz.f156) O O O (Ob rfl) (fun k0=>?_);refine ziq 12 O ?_;refine zdq (w':=.bool true) O O (congrArg (fun b=>W.bool (!b)) (ltI_not.2 Xd)) ?_;refine zaq 7 O ?_;refine zdq (w':=.int .i64 ((v.ch.links.length:Nat):Int)) O O Xw ?_;refine zdq (w':=.bool true) O O (congrArg W.bool (ltI_iff.2 (h2))) ?_;refine zaq 5 O ?_;exact fin (.inr rfl) Ent.refl rfl ⟨rfl,by rw[decide_eq_true (show InV v h from⟨h1,h2⟩)],rfl,rfl⟩
  ·refine zLq (fn:=Tryz.f156) O O O (Ob rfl) (fun k0=>?_);refine ziq 12 O ?_;refine zdq (w':=.bool true) O O (congrArg (fun b=>W.bool (!b)) (ltI_not.2 Xd)) ?_;refine zaq 7 O ?_;refine zdq (w':=.int .i64 ((v.ch.links.length:Nat):Int)) O O Xw ?_;refine zdq (w':=.bool false) O O (congrArg W.bool (ltI_not.2 (h2))) ?_;refine zaq 5 O ?_;exact fin (.inr rfl) Ent.refl rfl ⟨rfl,by rw[decide_eq_false (fun q:InV v h=>h2 q.2)],rfl,rfl⟩
 ·skip
  refine zLq (fn:=Tryz.f156) O O O (Ob rfl) (fun k0=>?_);refine ziq 12 O ?_;refine zdq (w':=.bool false) O O (congrArg (fun b=>W.bool (!b)) (ltI_iff.2 Xd)) ?_;refine zaq 14 O ?_;exact fin (.inr rfl) Ent.refl rfl ⟨rfl,by rw[decide_eq_false (fun q:InV v h=>h1 q.1)],rfl,rfl⟩
def PConf(v:Vw)(h:Int)(k:Nat)(u:Vw):Prop:=(k=0/\InV v h/\u={v with final:=h})\/(k=170/\¬InV v h)
theorem vw_hand(v:Vw){hp:HpW}{b nw:Nat}(h:hget hp b=some (72,vwG v)):Q5q [b] nw [(0,72,vwG v)] hp:=uHq (by rw[zkq (ylq v)];exact h) (zfq (ylq v))
theorem vconf1_s(v:Vw)(h:Int)(hn:0<=v.number/\v.number<=1073741823):yLq cfg glK 155 1 [.ptr 0 0,.fel (.int .i64 h)] [(0,72,vwG v)] (TurnQ (PConf v h)):=by
 intro R;refine zLq (fn:=Tryz.f155) O O O (Ob rfl) (fun k0=>?_);refine ziq 10 O ?_;skip
 skip
 refine zlq rfl (ymq (ext:=[0]) (ws:=[.ptr 0 0,.int .i64 h]) O O O O O (vwithin_s v h) Xr Xt Xl (vw_hand v rfl) O ?_);rintro w hp1 nw1 ⟨rfl,rfl,rfl⟩;rw[xHq (ylq v)];by_cases hI:InV v h
 ·rw[decide_eq_true hI];skip
  skip
  refine zaq 21 O ?_;exact fin (.inr rfl) Ent.refl rfl ⟨rfl,rfl,0,{v with final:=h},v.number,v.down,h,chG v.ch,rfl,rfl,Y4q _,fun _=>⟨rfl,rfl,rfl,rfl,by omega,by omega⟩,.inl ⟨rfl,hI,rfl⟩⟩
 ·rw[decide_eq_false hI];skip
  skip
  refine zaq 11 O ?_;exact fin (.inr rfl) Ent.refl rfl ⟨rfl,rfl,170,v,v.number,v.down,v.final,chG v.ch,rfl,rfl,Y4q _,fun q=>absurd q Xr,.inr ⟨rfl,hI⟩⟩
theorem vconf_s(v:Vw)(hc:OkC v.ch)(hs:SmallC v.ch)(h:Int):PE cfg glK 79 [vwG v,.int .i64 h] (OfA v (PConf v h)):=by
 refine qHq (fn:=Tryz.f79) O O O (Ob rfl) (fun R k0=>?_);refine ziq 13 O ?_;skip
 refine xKq (fun _=>kHq 1 [(4,.ptr 2 0),(7,.agg 1 [.fn 155 [] [.fel (.int .i64 h)]]),(8,vwG v)] [(2,72,noVw),(0,72,vwG v)] O O (Nat.zero_le _) ⟨⟨_,rfl,.ptrK rfl⟩,⟨_,rfl,.agg (.cons (.fn .nil (.cons (.ptr (n:=1) (ag:=false) O O O) .nil)) .nil)⟩,⟨_,rfl,.pur (ylq v)⟩,trivial⟩ ⟨⟨by omega,_,rfl,.pur rfl⟩,⟨by omega,_,rfl,.pur (ylq v)⟩,trivial⟩ Xl) ?_;refine zlq rfl (yYq O O O O O (vof_s 155 [.fel (.int .i64 h)] O O v hc hs (PConf v h) (fun hm _=>vconf1_s v h ⟨hm.2.2.2.1,hm.2.2.2.2⟩)) (by show(true&&(purW (vwG v)&&true))=true;rw[ylq];rfl) ?_);rintro w hw hA;obtain⟨a,b,c,d,n,rfl⟩:=hA.shape;skip
 refine zaq 7 O ?_;exact yPq (.inr rfl) rfl (.pur hw) hw hA
def PSeal(v:Vw)(ds:List Depo)(xs:List Tx)(box:Dig)(k:Nat)(u:Vw):Prop:=(k=0/\CanAdd v.ch ds xs box/\∃y t' t1 L,Adds v.ch ds xs box y t' t1 L/\t'.nodes.length<=v.ch.tree.nodes.length+21000/\u={v with ch:=addC v.ch t' (q8q y.hdr t1 L) ds xs L})\/(¬CanAdd v.ch ds xs box/\k=addE v.ch ds xs box)
theorem vseal1_s(v:Vw)(hc:OkC v.ch)(hs:SmallC v.ch)(hN:v.ch.tree.nodes.length<=200000)(ds:List Depo)(xs:List Tx)(hB:BodOk ds xs)(box:Dig)(hn:0<=v.number/\v.number<=1073741823):yLq cfg glK 152 1 [.ptr 0 0,.fel (bodW ds xs false false),.fel (dW box)] [(0,72,vwG v)] (TurnQ (PSeal v ds xs box)):=by
 intro R;refine zLq (fn:=Tryz.f152) O O O (Ob rfl) (fun k0=>?_);refine ziq 14 O ?_;skip
 skip
 refine ygq rfl (yYq O O O O O (cadd_s v.ch hc hs hN ds xs hB box) (by simp[purL]) ?_);rintro w hw (⟨hca,y,t',t1,L,hadd,hgr,rfl⟩|⟨hno,rfl⟩)
 ·refine⟨by first|rfl|kernel_rfl,?_⟩;skip
  refine zpq 16 O ?_;exact fin (.inr rfl) Ent.refl rfl ⟨rfl,rfl,0,{v with ch:=addC v.ch t' (q8q y.hdr t1 L) ds xs L},v.number,v.down,v.final,chG (addC v.ch t' (q8q y.hdr t1 L) ds xs L),rfl,rfl,Y4q _,fun _=>⟨rfl,rfl,rfl,rfl,by omega,by omega⟩,.inl ⟨rfl,hca,y,t',t1,L,hadd,hgr,rfl⟩⟩
 ·refine⟨by first|rfl|kernel_rfl,?_⟩;skip
  refine zpq 16 O ?_;exact fin (.inr rfl) Ent.refl rfl ⟨rfl,rfl,addE v.ch ds xs box,v,v.number,v.down,v.final,noCh,rfl,rfl,rfl,fun q=>absurd q (addE_no hno),.inr ⟨hno,rfl⟩⟩
theorem vseal_s(v:Vw)(hc:OkC v.ch)(hs:SmallC v.ch)(hN:v.ch.tree.nodes.length<=200000)(ds:List Depo)(xs:List Tx)(hB:BodOk ds xs)(box:Dig):PE cfg glK 77 [vwG v,bodW ds xs false false,dW box] (OfA v (PSeal v ds xs box)):=by
 have hbp:=vJq ds xs false false;refine qHq (fn:=Tryz.f77) O O O (Ob rfl) (fun R k0=>?_);refine ziq 14 O ?_;skip
 refine xKq (fun _=>kHq 2 [(6,.ptr 3 0),(9,.agg 1 [.fn 152 [] [.ptr 1 0,.fel (dW box)]]),(10,vwG v)] [(3,72,noVw),(1,32,bodW ds xs false false),(0,72,vwG v)] rfl (jNq box) (Nat.zero_le _) ⟨⟨_,rfl,.ptrK rfl⟩,⟨_,rfl,.agg (.cons (.fn .nil (.cons (.ptrK rfl) (.cons (.ptr (n:=32) (ag:=true) rfl (jNq box) rfl) .nil))) .nil)⟩,⟨_,rfl,.pur (ylq v)⟩,trivial⟩ ⟨⟨by omega,_,rfl,.pur rfl⟩,⟨by omega,_,rfl,.pur hbp⟩,⟨by omega,_,rfl,.pur (ylq v)⟩,trivial⟩ Xl) ?_;refine xKq (fun _=>kHq 1 [(6,.ptr 3 0),(9,.agg 1 [.fn 152 [] [.fel (bodW ds xs false false),.fel (dW box)]]),(10,vwG v)] [(3,72,noVw),(0,72,vwG v)] rfl hbp (Nat.zero_le _) ⟨⟨_,rfl,.ptrK rfl⟩,⟨_,rfl,.agg (.cons (.fn .nil (.cons (.ptr (n:=2) (ag:=true) rfl hbp rfl) (.cons (.pur (jNq box)) .nil))) .nil)⟩,⟨_,rfl,.pur (ylq v)⟩,trivial⟩ ⟨⟨by omega,_,rfl,.pur rfl⟩,⟨by omega,_,rfl,.pur (ylq v)⟩,trivial⟩ Xl) ?_;refine zlq rfl (yYq O O O O O (vof_s 152 [.fel (bodW ds xs false false),.fel (dW box)] (by simp[purL,purW]) rfl v hc hs (PSeal v ds xs box) (fun hm _=>vseal1_s v hc hs hN ds xs hB box ⟨hm.2.2.2.1,hm.2.2.2.2⟩)) (by simp[purL,purW]) ?_);rintro w hw hA;obtain⟨a,b,c,d,n,rfl⟩:=hA.shape;skip
 refine zaq 7 O ?_;exact yPq (.inr rfl) rfl (.pur hw) hw hA
end
section
attribute [local irreducible] CoW OpW FlW Step Spec
abbrev Bd:=List Depo×List Tx
noncomputable def bdW(b:Bd):W:=bodW b.1 b.2 false false
@[simp] theorem bdW_pur(b:Bd):purW (bdW b)=true:=vJq _ _ _ _
@[simp] theorem x1q(l:List Bd):purL (l.map bdW)=true:=y7q bdW_pur l
def vSq(l:List Bd)(i:Nat):List Bd:=(List.range l.length).map fun k=>((if k<i\/l.length-i<=k then l[l.length-1-k]? else l[k]?).getD ([],[]))
theorem ZEq(l:List Bd)(i:Nat):(vSq l i).length=l.length:=by simp[vSq]
theorem uaq{l:List Bd}{i k:Nat}(h:k<l.length):(vSq l i)[k]? =if k<i\/l.length-i<=k then l[l.length-1-k]? else l[k]? :=by
 unfold vSq;rw[List.getElem?_map,List.getElem?_range h];show some ((if k<i\/l.length-i<=k then l[l.length-1-k]? else l[k]?).getD ([],[]))=_;split
 ·rw[List.getElem?_eq_getElem Xd];rfl
 ·rw[List.getElem?_eq_getElem h];rfl
theorem swap_ge{l:List Bd}{i k:Nat}(h:l.length<=k):(vSq l i)[k]? =none:=List.getElem?_eq_none (by rw[ZEq];exact h)
theorem swap_0(l:List Bd):vSq l 0=l:=List.ext_getElem? fun k=>by
 by_cases h:k<l.length
 ·rw[uaq h,if_neg Xd]
 ·rw[swap_ge Xd,List.getElem?_eq_none Xd]
theorem swap_end{l:List Bd}{i:Nat}(h:l.length<=2*i+1)(hi:i<=l.length):vSq l i=l.reverse:=List.ext_getElem? fun k=>by
 by_cases hk:k<l.length
 ·rw[uaq hk,List.getElem?_reverse hk];split
  ·rfl
  ·congr 1;omega
 ·rw[swap_ge Xd,List.getElem?_eq_none (by rw[List.length_reverse];omega)]
theorem swap_step{l:List Bd}{i:Nat}{x y:Bd}(h:2*i+1<l.length)(hx:l[i]? =some x)(hy:l[l.length-1-i]? =some y):((vSq l i).set i y).set (l.length-1-i) x=vSq l (i+1):=List.ext_getElem? fun k=>by
 by_cases hk:k<l.length
 ·rw[uaq hk,List.getElem?_set,List.getElem?_set,List.length_set,ZEq];by_cases h1:l.length-1-i=k
  ·rw[if_pos h1,if_pos Xd,if_pos Xd];rw[<-hx];congr 1;omega
  ·rw[if_neg h1];by_cases h2:i=k
   ·subst h2;rw[if_pos rfl,if_pos Xd,if_pos Xd,hy]
   ·rw[if_neg h2,uaq hk];by_cases h3:k<i\/l.length-i<=k
    ·rw[if_pos h3,if_pos Xd]
    ·rw[if_neg h3,if_neg Xd]
 ·rw[swap_ge Xd,List.getElem?_eq_none (by rw[List.length_set,List.length_set,ZEq];omega)]
theorem bd_get{l:List Bd}{n i:Nat}{x:Bd}(h:l[i]? =some x)(hn:n=l.length)(h2:2<=l.length):ypq 50 (.arr (n*2) 2 (l.map bdW)) (0+i*2) 2 true=some (bdW x):=by
 subst hn
 have hb:Nat.beq 2 (l.length*2)=false:=by
  cases q:Nat.beq 2 (l.length*2) with
  |false=>rfl
  |true=>have:=Nat.eq_of_beq_eq_true q;omega
 exact get_in (off:=0) (z1q bdW h) Xd Xd (by rw[hb];simp) rfl
theorem bd_put{l:List Bd}{n i:Nat}{x y:Bd}(h:l[i]? =some x)(hn:n=l.length)(h2:2<=l.length):qGq 50 (.arr (n*2) 2 (l.map bdW)) (0+i*2) (bdW y)=some (.arr (n*2) 2 ((l.set i y).map bdW)):=by
 subst hn
 have hb:Nat.beq 2 (l.length*2)=false:=by
  cases q:Nat.beq 2 (l.length*2) with
  |false=>rfl
  |true=>have:=Nat.eq_of_beq_eq_true q;omega
 rw[List.map_set];exact put_in (off:=0) (x':=bdW y) (z1q bdW h) Xd Xd (by show(_&&Nat.beq 2 (l.length*2)&&_)=false;rw[hb];simp) rfl
theorem brev_nil:yLq cfg glK 160 0 [.nils] [] fun w hp nw=>w= .tup []/\hp=[]/\nw=0:=by
 intro R;refine zLq (fn:=Tryz.f160) O O O (Ob rfl) (fun k0=>?_);refine ziq 3 O ?_;first|refine xwq O O ?_|refine zbq O O ?_
 first|refine yjq O O ⟨by omega,by omega⟩ ?_|refine zbq O O ?_
 refine zaq 5 O ?_;refine yTq (α:=Nat) (fun i=>i=0) (fun i=>[(2,.int .i64 (i:Int)),(3,.int .i64 (-1))]) [(0,_)] (fun i=>0) (0) ⟨rfl,trivial⟩ (rfl) ⟨rfl,rfl,trivial⟩ (fun i hI=>?_);subst hI;refine ziq 8 O ?_;refine zDq rfl (fun h1=>?_) (fun h1=>?_)
 ·exfalso;simp at h1
 ·refine zeq 2 O ?_;refine yfq Xi ?_;refine zyq 1 O ?_;exact fin (.inl rfl) Ent.refl rfl ⟨rfl,rfl,rfl,rfl⟩
theorem brev_s(l:List Bd)(hl:l.length<=1000000)(h1:1<=l.length):yLq cfg glK 160 1 [.sl 0 0 0 l.length 2 none] [(0,32,.arr (l.length*2) 2 (l.map bdW))] fun w hp nw=>w= .tup []/\hp=[(0,32,.arr (l.length*2) 2 (l.reverse.map bdW))]/\nw=1:=by
 intro R;refine zLq (fn:=Tryz.f160) O O O (Ob rfl) (fun k0=>?_);refine ziq 3 O ?_;first|refine xwq O O ?_|refine zbq O O ?_
 refine op_z ((l.length:Int) -1-((0:Nat):Int)) O O Xd ⟨by omega,by omega⟩ ?_;refine zaq 5 O ?_;refine vIq (α:=Nat) (fun i=>2*i<=l.length) (fun i=>[(2,.int .i64 (i:Int)),(3,.int .i64 ((l.length:Int) -1-(i:Int)))]) [(0,_)] (fun i=>[(0,32,.arr (l.length*2) 2 ((vSq l i).map bdW))]) (fun i=>l.length-i) (0) ⟨rfl,trivial⟩ (Nat.zero_le _) ⟨rfl,rfl,trivial⟩ (by rw[swap_0]) (fun i hI=>?_);refine ziq 8 O ?_;refine zDq rfl (fun h1=>?_) (fun h1=>?_)
 ·have hi:2*i+1<l.length:=by omega
  obtain⟨x,hx⟩:∃x,l[i]? =some x:=⟨_,List.getElem?_eq_getElem Xd⟩
  obtain⟨y,hy⟩:∃y,l[l.length-1-i]? =some y:=⟨_,List.getElem?_eq_getElem Xd⟩
  have hn:=(ZEq l i).symm;have gx:(vSq l i)[i]? =some x:=by rw[uaq Xd,if_neg Xd,hx]
  have gy:(vSq l i)[l.length-1-i]? =some y:=by rw[uaq Xd,if_neg Xd,hy]
  have gy2:((vSq l i).set i y)[l.length-1-i]? =some y:=by rw[List.getElem?_set_ne Xd];exact gy
  have hst:=swap_step hi hx hy;refine zeq 8 O ?_;refine jxq (w':=.int .i64 ((l.length-1-i:Nat):Int)) O O (by congr 1;omega) ?_;refine zcq O O (jxq (w':=.int .i64 ((l.length-1-i:Nat):Int)) O O (by congr 1;omega) ?_);refine zcq rfl (zPq (i:=l.length-1-i) O O O O O O O Xd) ?_;refine yVq rfl (yGq O O O (bd_get gy hn Xd)) Xu ?_;refine zpq 2 O ?_;refine zcq rfl (zPq (i:=i) O O O O O O O Xd) ?_;refine yVq rfl (yGq O O O (bd_get gx hn Xd)) Xu ?_;refine zcq rfl (zPq (i:=i) O O O O O O O Xd) ?_;refine yVq rfl (xsq O O O O O (bd_put gx hn Xd) rfl) Xu ?_;refine zcq rfl (zPq (i:=l.length-1-i) O O O O O O O Xd) ?_;refine yVq rfl (xsq O O O O O (bd_put gy2 (by rw[List.length_set];exact hn) (by rw[List.length_set];omega)) (congrArg (fun q:List Bd=>[(0,32,W.arr (l.length*2) 2 (q.map bdW))]) hst)) Xu ?_;refine zpq 5 O ?_;refine zuq (i+1) O O Xm ⟨by omega,by omega⟩ ?_;refine zbq O O ?_;refine op_z ((l.length:Int) -1-((i+1:Nat):Int)) O O Xd ⟨by omega,by omega⟩ ?_;refine yZq 3 O ?_;exact Jhq (i+1) Xd Xd ⟨rfl,rfl,trivial⟩ ⟨rfl,trivial⟩ rfl
 ·rw[swap_end Xd Xd];refine zeq 2 O ?_;refine q0q Xi ?_;refine zyq 1 O ?_;exact fin (.inl rfl) Ent.refl rfl ⟨rfl,rfl,rfl,rfl⟩
end
section
attribute [local irreducible] CoW OpW FlW Step Spec
noncomputable def encB(l:List Lk)(k:Nat):List W:=[.int .i64 ((l.length:Int) -1-(k:Int)),lkA l (l.length-1-k)]
theorem encB_ok(l:List Lk){n:Nat}:∀y∈List.range n,purL (encB l y)=true/\(encB l y).length=2:=fun y _=>⟨by simp[encB,purL,purW],rfl⟩
theorem sback_s(l:List Lk)(f:Bool):PS cfg glK 159 [.fz (l.map lkG) 102 f] (.fn 219 [] [.fel (.fz (l.map lkG) 102 f)]):=by
 have hp:=kDq l;refine zJq (fn:=Tryz.f159) O O O (Ob rfl) (fun R k0=>?_);refine ziq 13 O ?_;refine qyq (fr2:=[(2,_)]) Yd ?_ O O
 (repeat (first|exact trivial|refine And.symm ⟨?_,_,rfl,?_⟩))<;>(repeat (first|exact .nil|refine .cons ?_ ?_|refine .fn ?_ ?_|(refine qvq O ?_ rfl;(first|rfl|(focus (simp;done))))|(refine .sl O ?_ rfl Xi;(first|rfl|(focus (simp;done))))|(refine .pur ?_;(first|rfl|(focus (simp;done))))|refine .agg ?_|refine .arr ?_|refine .tup ?_))
theorem sback_it(l:List Lk)(f:Bool)(hb:l.length<=1000000):qzq cfg glK 219 [.fel (.fz (l.map lkG) 102 f)] ((List.range l.length).map (encB l)):=by
 have e:(l.map lkG).length=l.length:=List.length_map _;refine xiq (fn:=Tryz.f219) O O O (Ob rfl) (fun L E R hy k0=>?_);refine ziq 3 O ?_;refine zdq (w':=.int .i64 ((l.length:Nat):Int)) O O Xw ?_;refine op_z ((l.length:Int) -1-((0:Nat):Int)) O O Xd ⟨by omega,by omega⟩ ?_;refine zaq 4 O ?_;refine ZWq (α:=Nat×Res) (fun p=>p.1<=l.length/\Yl cfg glK L E (((List.range l.length).drop p.1).map (encB l)) p.2) (fun p=>[(3,.int .i64 ((l.length:Int) -1-(p.1:Int)))]) [(0,_),(1,_)] (fun p=>p.2) (fun p=>l.length-p.1) ((0,R)) ⟨rfl,rfl,trivial⟩ (⟨Nat.zero_le _,hy⟩) ⟨rfl,trivial⟩ rfl (fun p hI=>?_);obtain⟨i,R⟩:=p;obtain⟨hi,hy⟩:=hI;simp only at hi hy⊢;refine ziq 7 O ?_;refine zDq rfl (fun h1=>?_) (fun h1=>?_)
 ·have hi':i<l.length:=by omega
  obtain⟨x,hx⟩:∃x,l[l.length-1-i]? =some x:=⟨_,List.getElem?_eq_getElem Xd⟩
  rw[Zbq (vaq hi'),List.map_cons,show encB l i=[.int .i64 ((l.length:Int) -1-(i:Int)),lkG x] by unfold encB;rw[Ywq hx]] at hy;refine zeq 9 O ?_;refine zdq (w':=.int .i64 ((l.length-1-i:Nat):Int)) O O (by congr 1;omega) ?_;refine zbq rfl (zCq (i:=l.length-1-i) O O O O O O O (z1q lkG hx)) (ztq O O ?_);refine zlq rfl (qBq O O O (hy) (fun b R1 hb=>?_));refine zaq 3 O ?_;refine zDq rfl (fun h2=>?_) (fun h2=>?_)
  ·cases b with
   |true=>cases h2
   |false=>
    refine zeq 3 O ?_;refine yfq Xi ?_;refine zyq 1 O ?_;exact j0q (.inr rfl) rfl hb
  ·cases b with
   |false=>exact absurd rfl h2
   |true=>
    refine zeq 5 O ?_;refine op_z ((l.length:Int) -1-((i+1:Nat):Int)) O O Xd ⟨by omega,by omega⟩ ?_;refine yZq 2 O ?_;exact yhq ((i+1,R1)) (⟨hi',hb⟩) Yg ⟨rfl,trivial⟩ ⟨rfl,rfl,trivial⟩ Xh Xd Xk rfl
 ·refine zeq 2 O ?_;refine yfq Xi ?_;refine zyq 1 O ?_;obtain rfl:i=l.length:=by omega
  rw[List.drop_of_length_le Xl] at hy;exact j0q (.inl rfl) rfl hy
def bdL(x:Lk):Bd:=(x.ds,x.xs)
def qkq(c:Ch)(i:Nat):List Bd:=(c.links.drop (i+1)).map bdL
noncomputable def rolP(u:W)(L:List Bd):HpW:=[(0,72,u),(1,152,gW 2 2 (L.map bdW))]
noncomputable def rolG(L:List Bd):HpW:=gH 2 32 2 (L.map bdW)
theorem gl_get(b e:Nat)(l:List W):ypq 50 (gW b e l) 0 1 false=some (gW b e l):=by cases l<;>rfl
theorem gl_put(b e:Nat)(l:List W)(b' n:Nat):qGq 50 (gW b e l) 0 (.sl b' 0 0 n e none)=some (.sl b' 0 0 n e none):=by cases l<;>rfl
def rolN:List Bd->Nat
 |[]=>2
 |_::_=>3
def RolQ(v:Vw)(h:Int):W->HpW->Nat->Prop:=fun w hp nw=>nw=3/\((∃i x,h=((i:Nat):Int)/\v.final<=h/\v.ch.links[i]? =some x/\w= .int .i64 0/\hp=rolG (qkq v.ch i)++rolP (vwG {v with ch:=cutC v.ch i x}) (qkq v.ch i))\/(¬InV v h/\w= .int .i64 170/\hp=rolG []++rolP (vwG v) []))
theorem vroll1_s(v:Vw)(hm:MayV v)(hc:OkC v.ch)(hs:SmallC v.ch)(h:Int):yLq cfg glK 158 2 [.ptr 0 0,.fel (.int .i64 h),.ptr 1 0] [(0,72,vwG v),(1,152,.nils)] (RolQ v h):=by
 obtain⟨hM,h0,h1,_⟩:=hm;have hl:=hs.len;intro R;refine zLq (fn:=Tryz.f158) O O O (Ob rfl) (fun k0=>?_);refine ziq 10 O ?_;skip
 skip
 refine zlq rfl (ymq (ext:=[0]) (ws:=[.ptr 0 0,.int .i64 h]) O O O O O (vwithin_s v h) Xr Xt Xl (vw_hand v rfl) O ?_);rintro w hp1 nw1 ⟨rfl,rfl,rfl⟩;rw[xHq (ylq v)];by_cases hI:InV v h
 ·rw[decide_eq_true hI];have hIV:=hI;obtain⟨i0,rfl⟩:=Int.eq_ofNat_of_zero_le (show 0<=h by have:=hI.1;omega);have hi0:i0<v.ch.links.length:=by have:=hI.2;omega
  obtain⟨x0,hx0⟩:∃x,v.ch.links[i0]? =some x:=⟨_,List.getElem?_eq_getElem hi0⟩
  obtain⟨ls,hls⟩:∃ls,v.ch.links.drop (i0+1)=ls:=⟨_,rfl⟩
  have hlen:ls.length<=1000000:=by rw[<-hls,List.length_drop];omega
  have ecut:((v.ch.links.map lkG).drop (i0+1)).take ((v.ch.links.map lkG).length-(i0+1))=ls.map lkG:=by
   rw[List.take_of_length_le Xl,<-List.map_drop,hls]
  obtain⟨rb,hrb⟩:∃rb,(ls.map bdL).reverse=rb:=⟨_,rfl⟩
  have hrl:rb.length=ls.length:=by rw[<-hrb,List.length_reverse,List.length_map]
  have hrv:rb.reverse=qkq v.ch i0:=by rw[<-hrb,List.reverse_reverse];unfold qkq;rw[hls]
  skip
  skip
  refine zaq 15 O ?_;refine q3q (i0+1) O O Xm ⟨by omega,by omega⟩ ?_;refine zcq rfl (cut_fz (l:=i0+1) (h:=(v.ch.links.map lkG).length) (ys:=ls.map lkG) (g:=false) O O O O O O O (by rw[List.length_map];omega) (Nat.le_refl _) ecut rfl) ?_;refine qrq O O O O O O (sback_s ls false) ?_;refine zpq 3 O ?_;refine YYq (α:=List Bd) (encB ls) (List.range ls.length) (fun i a=>a=rb.take i) (fun a=>rolP (vwG v) a++rolG a) (fun a=>rolN a) (fun a=>R) ([]) rfl Xo (sback_it ls false hlen) (encB_ok ls) (rfl) O O O (fun i a y hy hI=>?_) (fun a hI=>?_)
  ·subst hI;have hi:i<ls.length:=by have:=qWq hy;simpa using this
   obtain rfl:i=y:=by rw[vaq hi] at hy;exact Option.some.inj hy
   obtain⟨x,hx⟩:∃x,ls[ls.length-1-i]? =some x:=⟨_,List.getElem?_eq_getElem Xd⟩
   have hrx:rb[i]? =some (bdL x):=by rw[<-hrb,List.getElem?_reverse (by simpa using hi),List.getElem?_map,List.length_map,hx];rfl
   obtain⟨b0,r0,rfl⟩:∃b0 r0,rb=b0::r0:=by
    cases rb with
    |nil=>simp at hrl;omega
    |cons b r=>exact⟨b,r,rfl⟩
   rw[show encB ls i=[.int .i64 ((ls.length:Int) -1-(i:Int)),lkG x] by unfold encB;rw[Ywq hx]];skip
   cases i with
   |zero=>
    obtain rfl:b0=bdL x:=Option.some.inj hrx;rw[show rolN ((bdL x::r0).take 0)=2 from rfl];refine ziq 4 O ?_;refine upq ?_;refine ziq 6 O ?_;refine ztq rfl (qsq O O (uTq (k:=ti32) (news:=[bdW (bdL x)]) O O O O (jdq O O O O) Xl (by show 1*48<=_;decide) (by show 1<=_;decide))) ?_;refine zaq 3 O ?_;refine xIq [bdL x] rfl ?_;have hne0:[bdL x].map bdW≠[]:=by simp
    unfold rolP rolG;rw[kEq hne0,kFq hne0];refine ySq (b:=2) (k:=4) Xr Xr Xr trivial ⟨⟨by omega,?_,zfq (ylq v)⟩,⟨by omega,rfl,rfl⟩,⟨by omega,?_,zfq (show purW (.arr _ _ ([bdL x].map bdW))=true from x1q _)⟩,trivial⟩ Xl
    ·rw[zkq (ylq v)];rfl
    ·rw[zkq (show purW (.arr _ _ ([bdL x].map bdW))=true from x1q _)];rfl
   |succ i=>
    have es:((b0::r0).take (i+1+1)).map bdW=((b0::r0).take (i+1)).map bdW++[bdW (bdL x)]:=by rw[List.take_add_one,hrx,List.map_append];rfl
    have ep:purL (((b0::r0).take (i+1)).map bdW++[bdW (bdL x)])=true:=by rw[<-es];exact x1q _
    have el:(((b0::r0).take (i+1)).map bdW).length<=1000000:=by rw[List.length_map,List.length_take];omega
    have hne:((b0::r0).take (i+1)).map bdW++[bdW (bdL x)]≠[]:=List.append_ne_nil_of_right_ne_nil _ Xl;rw[show rolN ((b0::r0).take (i+1))=3 from rfl];refine ziq 4 O ?_;refine upq ?_;refine ziq 2 O ?_;refine ztq rfl (yGq O O O (gl_get 2 2 _)) ?_;refine zaq 3 O ?_;refine ztq rfl (qsq O O (Qcq [_,_,_,_] (k:=ti32) (news:=[bdW (bdL x)]) O O O O O (jdq O O O O) Xl (by show((((b0::r0).take (i+1)).map bdW).length+1)*48<=_;omega) (by show(((b0::r0).take (i+1)).map bdW).length+1<=_;omega) rfl Xl)) ?_;refine ztq rfl (xsq O O O O O (gl_put 2 2 _ _ _) rfl) ?_;refine zaq 2 O ?_;refine xIq ((b0::r0).take (i+1+1)) O ?_;unfold rolP rolG;rw[es,kEq hne,kFq hne];refine ySq (b:=2) (k:=5) Xr Xr Xr trivial ⟨⟨by omega,?_,zfq (ylq v)⟩,⟨by omega,rfl,rfl⟩,⟨by omega,?_,zfq ep⟩,trivial⟩ Xl
    ·rw[zkq (ylq v)];rfl
    ·rw[zkq (by exact ep)];rfl
  ·rw[List.length_range,List.take_of_length_le Xd] at hI;subst hI;skip
   cases a with
   |nil=>
    refine zyq 4 O ?_;refine ztq rfl (yGq O O O (gl_get 2 2 _)) ?_;skip
    refine zlq rfl (Ybq O O O O O O brev_nil ?_);rintro w hp1 nw1 ⟨rfl,rfl,rfl⟩;skip
    refine zaq 10 O ?_;refine qrq O O O O O O (ccut_s v.ch hc hs i0 hM hx0) ?_;refine zpq 16 O ?_;exact fin (.inr rfl) (QTq (fr2:=[(4,.int .i64 0)]) ⟨rfl,trivial⟩) rfl ⟨rfl,rfl,.inl ⟨i0,x0,rfl,hIV.1,hx0,rfl,by rw[<-hrv];rfl⟩⟩
   |cons b r=>
    have hb1:((b::r).map bdW).length=(b::r).length:=List.length_map _;have hb2:(b::r).map bdW≠[]:=by simp
    have hb3:((b::r).reverse.map bdW).length=(b::r).length:=by rw[List.length_map,List.length_reverse]
    have hb4:(b::r).reverse.map bdW≠[]:=by simp
    have epA:purW (.arr ((b::r).length*2) 2 ((b::r).map bdW))=true:=x1q _;have epB:purW (.arr ((b::r).length*2) 2 ((b::r).reverse.map bdW))=true:=x1q _;unfold rolP rolG;rw[kEq hb2,kFq hb2,hb1];refine zyq 5 O ?_;skip
    refine zlq rfl (ymq (ext:=[2]) (ws:=[.sl 0 0 0 (b::r).length 2 none]) O O O O O (brev_s (b::r) Xd Xl) Xr (by intro b hb;simp only[List.mem_cons,List.not_mem_nil,or_false] at hb;subst hb;show 2<3;decide) Xl (uHq (by rw[zkq epA];rfl) (zfq epA)) O ?_);rintro w hp1 nw1 ⟨rfl,rfl,rfl⟩;rw[xHq epB];skip
    refine zaq 10 O ?_;refine qrq O O O O O O (ccut_s v.ch hc hs i0 hM hx0) ?_;refine zpq 16 O ?_;exact fin (.inr rfl) Ent.refl rfl ⟨rfl,rfl,.inl ⟨i0,x0,rfl,hIV.1,hx0,rfl,by rw[<-hrv];unfold rolP rolG;rw[kEq hb4,kFq hb4,hb3];rfl⟩⟩
 ·rw[decide_eq_false hI];skip
  skip
  refine zaq 11 O ?_;exact fin (.inr rfl) (QTq (fr2:=[(4,.int .i64 170)]) ⟨rfl,trivial⟩) rfl ⟨rfl,rfl,.inr ⟨hI,rfl,rfl⟩⟩
end
section
attribute [local irreducible] CoW OpW FlW Step Spec
noncomputable def rolX(a b c:Nat)(u:W)(L:List Bd):HpW:=gH c 32 2 (L.map bdW)++[(a,72,u),(b,152,gW c 2 (L.map bdW))]
theorem u7q(τ:Nat->Nat):∀(a b:HpW),renH τ (a++b)=renH τ a++renH τ b
 |[],b=>rfl
 |(k,ty,w)::a,b=>by
  show(τ k,ty,renW τ w)::renH τ (a++b)=_;rw[u7q τ a b];rfl
theorem u6q(τ:Nat->Nat)(a b c:Nat){u:W}(hu:purW u=true)(L:List Bd):renH τ (rolX a b c u L)=rolX (τ a) (τ b) (τ c) u L:=by
 unfold rolX;rw[u7q,renH_g _ _ _ _ (x1q L)];show _++[(τ a,_,renW τ u),(τ b,_,renW τ (gW c 2 _))]=_;rw[zkq hu,ren_g]
noncomputable def trW(h:Int):W:=.agg 1 [.fn 158 [] [.fel (.int .i64 h),.ptr 0 0]]
noncomputable def turnH(v:Vw)(h:Int)(u:W):HpW:=[(3,72,u),(2,72,vwG v),(1,237,trW h)]
noncomputable def ZAq(v:Vw)(h:Int):Nat:=if¬MayV v then 8 else if v.number=1073741823 then 9 else 170
structure CanRoll(v:Vw)(h:Int):Prop where
 may:MayV v
 num:v.number≠1073741823
 is:InV v h
noncomputable instance(v:Vw)(h:Int):Decidable (CanRoll v h):=Classical.propDecidable _
noncomputable def xtq(v:Vw)(i:Nat)(x:Lk):Vw:=upV {v with ch:=cutC v.ch i x}
def OfR(v:Vw)(h:Int):W->HpW->Nat->Prop:=fun w hp nw=>(CanRoll v h/\∃i x,h=((i:Nat):Int)/\v.ch.links[i]? =some x/\w= .tup [vwG (xtq v i x),.int .i64 0]/\hp=rolX 4 0 5 (vwG (xtq v i x)) (qkq v.ch i)++turnH v h (vwG (xtq v i x))/\nw=6)\/(¬CanRoll v h/\w= .tup [noVw,.int .i64 (ZAq v h:Nat)]/\((hp=rolX 4 0 5 (vwG v) []++turnH v h noVw/\nw=6)\/(hp=turnH v h noVw++[(0,152,.nils)]/\nw=4)))
theorem vofr_s(v:Vw)(h:Int)(hc:OkC v.ch)(hs:SmallC v.ch):yLq cfg glK 153 1 [trW h,vwG v] [(0,152,.nils)] (OfR v h):=by
 intro R;by_cases hm:MayV v
 ·have hone:=hm.1.one;by_cases hn:v.number=1073741823
  ·skip
   refine zLq (fn:=Tryz.f153) O O O (Ob rfl) (fun k0=>?_);refine ziq 13 O ?_;refine zjq O O O O O O (ysq (w':=.int .i64 0) (k0q v hc) Yv) ?_;refine zdq (w':=.bool false) O O (congrArg W.bool Xg) ?_;refine zaq 8 O ?_;refine zdq (w':=.bool true) O O (congrArg W.bool (eqI_iff.2 (hn))) ?_;refine zaq 14 O ?_;exact fin (.inr rfl) Ent.refl rfl ⟨rfl,.inr ⟨fun q=>q.num hn,by unfold ZAq;rw[if_neg (fun q=>q hm),if_pos hn];rfl,.inr ⟨rfl,rfl⟩⟩⟩
  ·skip
   refine zLq (fn:=Tryz.f153) O O O (Ob rfl) (fun k0=>?_);refine ziq 13 O ?_;refine zjq O O O O O O (ysq (w':=.int .i64 0) (k0q v hc) Yv) ?_;refine zdq (w':=.bool false) O O (congrArg W.bool Xg) ?_;refine zaq 8 O ?_;refine zdq (w':=.bool false) O O (congrArg W.bool (eqI_not.2 (hn))) ?_;refine zaq 10 O ?_;refine zjq O O O O O O (vtwin_s v hs (fun q=>by rw[q] at hone;cases hone)) ?_;refine zaq 9 O ?_;skip
   skip
   refine zlq rfl (ymq (ext:=[4,0]) (ws:=[.ptr 0 0,.fel (.int .i64 h),.ptr 1 0]) O O O O O (vroll1_s v hm hc hs h) Xr Xt Xl (v6q (by rw[zkq (ylq v)];rfl) rfl (zfq (ylq v)) rfl) O ?_);rintro w hp1 nw1 ⟨rfl,⟨i,x,rfl,hf,hx,rfl,rfl⟩|⟨hI,rfl,rfl⟩⟩
   ·rw[show rolG (qkq v.ch i)++rolP (vwG {v with ch:=cutC v.ch i x}) (qkq v.ch i)=rolX 0 1 2 (vwG {v with ch:=cutC v.ch i x}) (qkq v.ch i) from rfl,u6q _ _ _ _ (ylq _)];have hca:CanRoll v (i:Int):=⟨hm,hn,hf,by have:=qWq hx;omega⟩;have hnn:=hm.2.2.2;skip
    skip
    cases hb:(qkq v.ch i) with
    |nil=>
     refine zaq 6 O ?_;refine zdq (w':=.bool false) O O (congrArg W.bool Xg) ?_;refine zaq 9 O ?_;refine op_z (v.number+1) O O O ⟨by omega,by omega⟩ ?_;refine zaq 12 O ?_;exact fin (.inr rfl) Ent.refl rfl ⟨rfl,.inl ⟨hca,i,x,rfl,hx,rfl,by rw[hb];rfl,rfl⟩⟩
    |cons b r=>
     refine zaq 6 O ?_;refine zdq (w':=.bool false) O O (congrArg W.bool Xg) ?_;refine zaq 9 O ?_;refine op_z (v.number+1) O O O ⟨by omega,by omega⟩ ?_;refine zaq 12 O ?_;exact fin (.inr rfl) Ent.refl rfl ⟨rfl,.inl ⟨hca,i,x,rfl,hx,rfl,by rw[hb];rfl,rfl⟩⟩
   ·rw[show rolG []++rolP (vwG v) []=rolX 0 1 2 (vwG v) [] from rfl,u6q _ _ _ _ (ylq _)];skip
    refine zaq 6 O ?_;refine zdq (w':=.bool true) O O (congrArg W.bool Xg) ?_;refine zaq 13 O ?_;exact fin (.inr rfl) Ent.refl rfl ⟨rfl,.inr ⟨fun q=>hI q.is,by unfold ZAq;rw[if_neg (fun q=>q hm),if_neg hn];rfl,.inl ⟨rfl,rfl⟩⟩⟩
 ·skip
  refine zLq (fn:=Tryz.f153) O O O (Ob rfl) (fun k0=>?_);refine ziq 13 O ?_;refine zjq O O O O O O (ysq (w':=.int .i64 8) (k0q v hc) (by rw[if_neg hm])) ?_;refine zdq (w':=.bool true) O O (congrArg W.bool Xg) ?_;refine zaq 14 O ?_;exact fin (.inr rfl) Ent.refl rfl ⟨rfl,.inr ⟨fun q=>hm q.may,by unfold ZAq;rw[if_pos hm];rfl,.inr ⟨rfl,rfl⟩⟩⟩
def RollA(v:Vw)(h:Int):W->Prop:=fun w=>(CanRoll v h/\∃i x,h=((i:Nat):Int)/\v.ch.links[i]? =some x/\w= .tup [vwG (xtq v i x),.fz ((qkq v.ch i).map bdW) 2 false,.int .i64 0])\/(¬CanRoll v h/\w= .tup [noVw,.nils,.int .i64 (ZAq v h:Nat)])
theorem Jfq{v:Vw}{h:Int}:ZAq v h≠0:=by
 unfold ZAq;split
 ·decide
 ·split<;>decide
theorem vroll_s(v:Vw)(h:Int)(hc:OkC v.ch)(hs:SmallC v.ch):PE cfg glK 81 [vwG v,.int .i64 h] (RollA v h):=by
 refine qHq (fn:=Tryz.f81) O O O (Ob rfl) (fun R k0=>?_);refine ziq 14 O ?_;skip
 refine xKq (fun _=>kHq 1 [(4,.ptr 2 0),(5,.ptr 3 0),(9,.agg 1 [.fn 158 [] [.fel (.int .i64 h),.ptr 3 0]]),(10,vwG v)] [(3,152,.nils),(2,72,noVw),(0,72,vwG v)] O O (Nat.zero_le _) ⟨⟨_,rfl,.ptrK rfl⟩,⟨_,rfl,.ptrK rfl⟩,⟨_,rfl,.agg (.cons (.fn .nil (.cons (.ptr (n:=1) (ag:=false) O O O) (.cons (.ptrK rfl) .nil))) .nil)⟩,⟨_,rfl,.pur (ylq v)⟩,trivial⟩ ⟨⟨by omega,_,rfl,.pur rfl⟩,⟨by omega,_,rfl,.pur rfl⟩,⟨by omega,_,rfl,.pur (ylq v)⟩,trivial⟩ Xl) ?_;skip
 refine zlq rfl (ymq (ext:=[3]) (ws:=[trW h,vwG v]) O O O O (by show [W.agg 1 [.fn _ [] [.fel (.int .i64 h),.ptr 3 0]],vwG v]=[W.agg 1 [.fn _ [] [.fel (.int .i64 h),.ptr 3 0]],renW _ (vwG v)];rw[zkq (ylq v)]) (vofr_s v h hc hs) Xr Xt Xl (uHq O O) (by show(true&&(refB 1 (vwG v)&&true))=true;rw[zfq (ylq v)];rfl) ?_);rintro w hp1 nw1 (⟨hca,i,x,rfl,hx,rfl,rfl,rfl⟩|⟨hno,rfl,⟨rfl,rfl⟩|⟨rfl,rfl⟩⟩)
 ·rw[u7q,u6q _ _ _ _ (ylq _),zkq (show purW (.tup [vwG (xtq v i x),.int .i64 0])=true by show(purW (vwG _)&&_)=true;rw[ylq];rfl)];skip
  skip
  cases hb:(qkq v.ch i) with
  |nil=>
   refine zaq 11 O ?_;refine zdq (w':=.bool false) O O (congrArg W.bool Xg) ?_;refine zaq 15 O ?_;exact yPq (w':=.tup [vwG (xtq v i x),.fz [] 2 false,.int .i64 0]) (.inr rfl) rfl (.tup (.cons (.pur (ylq _)) (.cons .nilfz (.cons (.pur rfl) .nil)))) (by show(purW (vwG _)&&_)=true;rw[ylq];rfl) (.inl ⟨hca,i,x,rfl,hx,by rw[hb];rfl⟩)
  |cons b r=>
   refine zaq 11 O ?_;refine zdq (w':=.bool false) O O (congrArg W.bool Xg) ?_;refine zaq 15 O ?_;exact yPq (w':=.tup [vwG (xtq v i x),.fz ((b::r).map bdW) 2 false,.int .i64 0]) (.inr rfl) rfl (.tup (.cons (.pur (ylq _)) (.cons (.sl (full:=false) (c:=.arr (((b::r).map bdW).length*2) 2 ((b::r).map bdW)) rfl (show purL ((b::r).map bdW)=true from x1q _) (zEq Xr O O) Xi) (.cons (.pur rfl) .nil)))) (by show(purW (vwG _)&&(purL ((b::r).map bdW)&&_))=true;rw[ylq,x1q];rfl) (.inl ⟨hca,i,x,rfl,hx,by rw[hb]⟩)
 ·have hz:= @Jfq v h;rw[u7q,u6q _ _ _ _ (ylq _)];skip
  refine zaq 11 O ?_;refine zdq (w':=.bool true) O O (congrArg (fun b=>W.bool (!b)) (eqI_not.2 Xd)) ?_;refine zaq 14 O ?_;exact yPq (w':=.tup [noVw,.nils,.int .i64 (ZAq v h:Nat)]) (.inr rfl) rfl (.pur rfl) rfl (.inr ⟨hno,rfl⟩)
 ·have hz:= @Jfq v h;skip
  refine zaq 11 O ?_;refine zdq (w':=.bool true) O O (congrArg (fun b=>W.bool (!b)) (eqI_not.2 Xd)) ?_;refine zaq 14 O ?_;exact yPq (w':=.tup [noVw,.nils,.int .i64 (ZAq v h:Nat)]) (.inr rfl) rfl (.pur rfl) rfl (.inr ⟨hno,rfl⟩)
end
section
attribute [local irreducible] CoW OpW FlW Step Spec
theorem vhead_s(v:Vw)(hc:OkC v.ch)(hm:MayV v){y:Lk}(hy:v.ch.links[v.ch.links.length-1]? =some y):PS cfg glK 45 [vwG v] (.tup [.int .i64 y.hdr.height,dW (hashD y.hdr),.int .i64 0]):=by
 obtain⟨y2,hy2,_,hl⟩:=hm.1.last;obtain rfl:=Option.some.inj (hy.symm.trans hy2);refine zJq (fn:=Tryz.f45) O O O (Ob rfl) (fun R k0=>?_);refine ziq 12 O ?_;refine zjq O O O O O O (ysq (w':=.int .i64 0) (k0q v hc) Yv) ?_;refine zaq 6 O ?_;refine zdq (w':=.bool false) O O (congrArg W.bool Xg) ?_;refine zaq 9 O ?_;refine zjq O O O O O O (Y3q v.ch hc hm.1 hy) ?_;refine zaq 11 O ?_;refine zjq O O O O O O (Yzq y.hdr hl.hdr) ?_;refine zaq 19 O ?_;exact zhq (.inr rfl) O O
theorem MayV.conf{v:Vw}(hm:MayV v){h:Int}(hI:InV v h)(hn:v.number≠1073741823):MayV (upV {v with final:=h}):=by
 obtain⟨a,b,c,d,e⟩:=hm;refine⟨a,?_,hI.2,?_,?_⟩
 ·have:=hI.1;show 0<=h;omega
 ·show 0<=v.number+1;omega
 ·show v.number+1<=_;omega
theorem MayV.roll{v:Vw}{i:Nat}{x:Lk}(hc:CanRoll v (i:Int))(hx:v.ch.links[i]? =some x):MayV (xtq v i x):=by
 obtain⟨⟨a,b,c,d,e⟩,hn,h1,h2⟩:=hc;refine⟨a.cut hx,b,?_,?_,?_⟩
 ·show v.final<((v.ch.links.take (i+1)).length:Int);rw[JNq hx];omega
 ·show 0<=v.number+1;omega
 ·show v.number+1<=_;omega
theorem MayV.seal{v:Vw}{ds:List Depo}{xs:List Tx}{box:Dig}{y:Lk}{t':Tree}{t1:T}{L:List Rec}(hm:MayV v)(hn:v.number≠1073741823)(h:Adds v.ch ds xs box y t' t1 L):MayV (upV {v with ch:=addC v.ch t' (q8q y.hdr t1 L) ds xs L}):=by
 obtain⟨a,b,c,d,e⟩:=hm;refine⟨h.mayc,b,?_,?_,?_⟩
 ·show v.final<((v.ch.links++[_]).length:Int);rw[List.length_append];show _<((_+1:Nat):Int);omega
 ·show 0<=v.number+1;omega
 ·show v.number+1<=_;omega
structure OneV(v:Vw):Prop where
 ok:OkC v.ch
 small:SmallC v.ch
 nodes:v.ch.tree.nodes.length<=200000
 may:MayV v
 num:v.number=1
 fin:v.final=0
 len:v.ch.links.length=2
theorem one18_s:PE cfg glK 162 [] (fun w=>∃v,OneV v/\w=vwG v):=by
 refine qHq (fn:=Tryz.f162) O O O (Ob rfl) (fun R k0=>?_);refine ziq 7 O ?_;skip
 refine zlq rfl (yYq O O O O O (pe_view (.cons .nilfz .nil) (cnew_s [] false Xr)) O ?_);rintro w hw (⟨hn,rfl⟩|⟨_,t,n,t0,hA,hall,hn0,rfl⟩)
 ·exact absurd okB_nil hn
 obtain rfl:t0= .nil:=T.uniq jSq hA.toIsT.ok rfl hall;have hl:t.nodes.length<=257*0:=hn0;obtain⟨hok,hsm⟩:=newC_ok hA;have hM:=newC_is hA jsq;have hca:CanAdd (newC t .nil) [] [] jsq:=⟨hM.toMayC,by show 1<256;decide,by decide,by intro q;cases q⟩;have hmv:MayV ⟨0,false,0,newC t .nil⟩:=⟨hM.toMayC,by show(0:Int)<=0;decide,by show(0:Int)<1;decide,by show(0:Int)<=0;decide,by show(0:Int)<=1073741823;decide⟩;skip
 refine zaq 13 O ?_;refine zdq O O xnq ?_;skip
 refine zlq rfl (yYq O O O O O (pe_view (.cons (.pur (ylq ⟨0,false,0,newC t .nil⟩)) (.cons (.agg (.cons .nilfz (.cons .nilfz .nil))) (.cons (.pur (jNq _)) .nil))) (vseal_s ⟨0,false,0,newC t .nil⟩ hok hsm (by show t.nodes.length<=_;omega) [] [] bodN jsq)) (by simp[purL,purW]) ?_);rintro w hw (⟨u,_,hnum,(⟨_,_,y,t',t1,L,hadd,hgr,rfl⟩|⟨hno,_⟩),rfl⟩|⟨k,u,_,_,hk,(⟨rfl,_⟩|⟨hno,_⟩),rfl⟩|⟨hno,rfl⟩|⟨_,hno,rfl⟩)
 ·skip
  refine zaq 15 O ?_;refine yPq (w':=vwG (upV {(⟨0,false,0,newC t .nil⟩:Vw) with ch:=addC (newC t .nil) t' (q8q y.hdr t1 L) [] [] L})) (.inr rfl) rfl (.pur (ylq _)) (ylq _) ⟨_,⟨hadd.okc hok bodN _,hadd.smallc hsm _,?_,hmv.seal hnum hadd,rfl,rfl,rfl⟩,rfl⟩;have hgr:t'.nodes.length<=t.nodes.length+21000:=hgr;show t'.nodes.length<=_;omega
 ·exact absurd hca hno
 ·exact absurd rfl hk
 ·exact absurd hca hno
 ·exact absurd hmv hno
 ·exact absurd hno (by show¬(0:Int)=1073741823;decide)
theorem OneV.facts{v:Vw}(o:OneV v):∃a b,v.ch.links[0]? =some a/\v.ch.links[1]? =some b/\a.hdr.height=0/\b.hdr.height=1:=by
 have hl:=o.len;obtain⟨a,ha⟩:∃a,v.ch.links[0]? =some a:=⟨_,List.getElem?_eq_getElem Xd⟩
 obtain⟨b,hb⟩:∃b,v.ch.links[1]? =some b:=⟨_,List.getElem?_eq_getElem Xd⟩
 exact⟨a,b,ha,hb,(o.may.1.link 0 a ha).height,(o.may.1.link 1 b hb).height⟩
theorem vconf_ok{v:Vw}(hc:OkC v.ch)(hs:SmallC v.ch)(hm:MayV v)(hn:v.number≠1073741823){h:Int}(hI:InV v h):PE cfg glK 79 [vwG v,.int .i64 h] (· = .tup [vwG (upV {v with final:=h}),.int .i64 0]):=
 v1q (vconf_s v hc hs h) fun w hA=>by
  rcases hA with ⟨u,_,_,(⟨_,_,rfl⟩|⟨q,_⟩),rfl⟩|⟨k,u,_,_,hk,(⟨rfl,_⟩|⟨_,q⟩),rfl⟩|⟨q,rfl⟩|⟨_,q,rfl⟩
  ·rfl
  ·cases q
  ·exact absurd rfl hk
  ·exact absurd hI q
  ·exact absurd hm q
  ·exact absurd q hn
theorem vroll_ok{v:Vw}(hc:OkC v.ch)(hs:SmallC v.ch){i:Nat}{x:Lk}(hx:v.ch.links[i]? =some x)(h:CanRoll v (i:Int)):PE cfg glK 81 [vwG v,.int .i64 (i:Int)] (· = .tup [vwG (xtq v i x),.fz ((qkq v.ch i).map bdW) 2 false,.int .i64 0]):=
 v1q (vroll_s v i hc hs) fun w hA=>by
  rcases hA with ⟨_,j,y,e,hy,rfl⟩|⟨q,_⟩
  ·obtain rfl:i=j:=by omega
   obtain rfl:=Option.some.inj (hx.symm.trans hy);rfl
  ·exact absurd h q
theorem vroll_no{v:Vw}(hc:OkC v.ch)(hs:SmallC v.ch){h:Int}(hn:¬CanRoll v h):PE cfg glK 81 [vwG v,.int .i64 h] (· = .tup [noVw,.nils,.int .i64 (ZAq v h:Nat)]):=
 v1q (vroll_s v h hc hs) fun w hA=>by
  rcases hA with ⟨q,_⟩|⟨_,rfl⟩
  ·exact absurd q hn
  ·rfl
theorem OneV.no{v:Vw}(o:OneV v):¬CanRoll (upV {v with final:=1}) ((0:Nat):Int)/\ZAq (upV {v with final:=1}) ((0:Nat):Int)=170:=by
 have hn:=o.num;have hl:=o.len;have hm:MayV (upV {v with final:=1}):=o.may.conf ⟨by rw[o.fin];decide,by omega⟩ Xd;refine⟨fun q=>absurd q.is.1 (by show¬(1:Int)<=0;decide),?_⟩;unfold ZAq;rw[if_neg (fun q=>q hm),if_neg (by show¬v.number+1=1073741823;omega)]
theorem OneV.can{v:Vw}(o:OneV v):CanRoll v ((0:Nat):Int)/\(qkq v.ch 0).length=1:=by
 have hn:=o.num;have hl:=o.len;refine⟨⟨o.may,by omega,by rw[o.fin];decide,by rw[hl];decide⟩,by unfold qkq;rw[List.length_map,List.length_drop,hl]⟩
theorem x2q:PS cfg glK 88 [] (.bool true):=by
 refine zJq (fn:=Tryz.f88) O O O (Ob rfl) (fun R k0=>?_);refine ziq 7 O ?_
 (refine zlq rfl (yYq O O O O O (one18_s) Xl ?_);rintro w hw ⟨v1,o1,rfl⟩;obtain⟨a0,a1,p1,p2,p3,p4⟩:=o1.facts)
 refine zjq O O O O O O (vhead_s v1 o1.ok o1.may (y:=a1) (by rw[o1.len];exact p2)) ?_;refine zaq 12 O ?_
 (refine zlq rfl (yYq O O O O O (one18_s) Xl ?_);rintro w hw ⟨v2,o2,rfl⟩;have n2:=o2.num;have l2:=o2.len;obtain⟨r1,r2⟩:=o2.no)
 (refine zlq rfl (yYq O O O O O ((vconf_ok o2.ok o2.small o2.may Xd (h:=1) ⟨by rw[o2.fin];decide,by omega⟩)) Xl ?_);rintro w hw rfl)
 refine zaq 11 O ?_
 (refine zlq rfl (yYq O O O O O ((vroll_no (v:=upV {v2 with final:=1}) o2.ok o2.small r1)) Xl ?_);rintro w hw rfl)
 refine zaq 12 O ?_
 (refine zlq rfl (yYq O O O O O (one18_s) Xl ?_);rintro w hw ⟨v3,o3,rfl⟩;have n3:=o3.num;obtain⟨c0,c1,u1,u2,u3,u4⟩:=o3.facts;obtain⟨k1,k2⟩:=o3.can;have k3:((qkq v3.ch 0).map bdW).length=1:=(List.length_map _).trans k2)
 (refine zlq rfl (yYq O O O O O ((vroll_ok o3.ok o3.small u1 k1)) Xl ?_);rintro w hw rfl)
 refine zaq 13 O ?_;refine zjq O O O O O O (vhead_s (xtq v3 0 c0) (o3.ok.cut 0 c0) (MayV.roll k1 u1) (y:=c0) (by show(v3.ch.links.take 1)[(v3.ch.links.take 1).length-1]? =_;rw[JNq u1];exact take_at u1)) ?_;refine zaq 13 O ?_;refine zdq (w':=.bool true) O O (congrArg W.bool Xg) ?_;refine zaq 2 O ?_;refine zdq (w':=.bool true) O O (congrArg W.bool (eqI_iff.2 (p4))) ?_;refine zaq 3 O ?_;refine zdq (w':=.bool true) O O (congrArg W.bool Xg) ?_;refine zaq 4 O ?_;refine zdq (w':=.bool true) O O (congrArg W.bool Xg) ?_;refine zaq 4 O ?_;refine zdq (w':=.bool true) O O (congrArg W.bool (eqI_iff.2 ((by show v2.number+1=2;omega)))) ?_;refine zaq 3 O ?_;refine zdq (w':=.bool true) O O (congrArg W.bool (eqI_iff.2 ((congrArg (fun q:Nat=>(q:Int)) r2)))) ?_;refine zaq 3 O ?_;refine zdq (w':=.bool true) O O (congrArg W.bool Xg) ?_;refine zaq 4 O ?_;refine zdq (w':=.bool true) O O (congrArg W.bool (eqI_iff.2 ((by show v3.number+1=2;omega)))) ?_;refine zaq 3 O ?_;refine zdq (w':=.int .i64 ((1:Nat):Int)) O O (by rw[<-k3];rfl) ?_;refine zdq (w':=.bool true) O O (congrArg W.bool Xg) ?_;refine zaq 3 O ?_;refine zdq (w':=.bool true) O O (congrArg W.bool Xg) ?_;refine zaq 3 O ?_;refine zdq (w':=.bool true) O O (congrArg W.bool (eqI_iff.2 (u3))) ?_;refine zaq 5 O ?_;exact zhq (.inr rfl) O O
theorem same18_s(v u:Vw)(hv:OkC v.ch)(hv2:SmallC v.ch)(hv3:MayC v.ch)(hu:OkC u.ch)(hu2:SmallC u.ch)(hu3:MayC u.ch)(k:Nat){x y:Lk}(hx:v.ch.links[k]? =some x)(hy:u.ch.links[k]? =some y)(hk:SameK x y){n m:Nat}{t0:T}(hA:IsA (verT v.ch x.root) n t0)(hB:IsA (verT u.ch y.root) m t0):PS cfg glK 89 [vwG v,vwG u,.int .i64 (k:Int)] (.bool true):=by
 have e:(v.ch.links.map lkG).length=v.ch.links.length:=List.length_map _;have e2:(u.ch.links.map lkG).length=u.ch.links.length:=List.length_map _;have hi:=qWq hx;have hj:=qWq hy;have ha:=hA.all_le;have hl:=hA.len;refine zJq (fn:=Tryz.f89) O O O (Ob rfl) (fun R k0=>?_);refine ziq 12 O ?_;refine zjq O O O O O O (cstate_s v.ch hv hv2 k hv3 hx) ?_;refine zaq 13 O ?_;refine zjq O O O O O O (cstate_s u.ch hu hu2 k hu3 hy) ?_;refine zaq 11 O ?_;refine zjq O O O O O O (uYq _ n t0 hA.toIsT) ?_;refine zaq 10 O ?_;refine zjq O O O O O O (uYq _ m t0 hB.toIsT) ?_;refine zaq 10 O ?_;refine zdq (w':=.bool true) O O (congrArg (fun b=>W.bool (!b)) (ltI_not.2 Xd)) ?_;refine zaq 5 O ?_;refine zdq (w':=.int .i64 ((v.ch.links.length:Nat):Int)) O O Xw ?_;refine zdq (w':=.bool true) O O (congrArg W.bool (ltI_iff.2 Xd)) ?_;refine zaq 6 O ?_;refine zdq (w':=.int .i64 ((u.ch.links.length:Nat):Int)) O O Ym ?_;refine zdq (w':=.bool true) O O (congrArg W.bool (ltI_iff.2 Xd)) ?_;refine zaq 9 O ?_;refine jxq (w':=.bool true) O O (congrArg W.bool Xg) ?_;refine zpq 3 O ?_;refine jxq (w':=.bool true) O O (congrArg W.bool Xg) ?_;refine zpq 3 O ?_;refine jxq (w':=.bool true) O O (congrArg W.bool Xg) ?_;refine zpq 3 O ?_;refine jxq (w':=.bool true) O O (congrArg W.bool Xg) ?_;refine zpq 4 O ?_;refine qrq O O O O O O (ysq (w':=.bool true) (rpsame_s t0.all t0.all false false Xd) (by rw[decide_eq_true (rfl)])) ?_;refine zpq 6 O ?_;refine zcq rfl (zCq (i:=k) O O O O O O O (z1q lkG hx)) ?_;refine zpq 5 O ?_;refine zcq rfl (zCq (i:=k) O O O O O O O (z1q lkG hy)) (y1q O O ?_);refine qrq O O O O O O (ysq (w':=.bool true) (rslink_s x y (hv2.link x (List.mem_of_getElem? hx))) (by rw[decide_eq_true (hk)])) ?_;refine zpq 5 O ?_;exact zhq (.inr rfl) O O
end
section
attribute [local irreducible] CoW OpW FlW Step Spec
def SealA(v:Vw)(ds:List Depo)(xs:List Tx)(box:Dig):W->Prop:=fun w=>(v.number≠1073741823/\∃y t' t1 L,Adds v.ch ds xs box y t' t1 L/\t'.nodes.length<=v.ch.tree.nodes.length+21000/\w= .tup [vwG (upV {v with ch:=addC v.ch t' (q8q y.hdr t1 L) ds xs L}),.int .i64 0])\/(¬(v.number≠1073741823/\CanAdd v.ch ds xs box)/\∃k:Nat,k≠0/\w= .tup [noVw,.int .i64 (k:Int)])
theorem vseal_a{v:Vw}(hc:OkC v.ch)(hs:SmallC v.ch)(hN:v.ch.tree.nodes.length<=200000)(hm:MayV v){ds:List Depo}{xs:List Tx}(hB:BodOk ds xs)(box:Dig):PE cfg glK 77 [vwG v,bodW ds xs false false,dW box] (SealA v ds xs box):=
 v1q (vseal_s v hc hs hN ds xs hB box) fun w hA=>by
  rcases hA with ⟨u,_,hq,(⟨_,_,y,t',t1,L,h1,h2,rfl⟩|⟨q,h0⟩),rfl⟩|⟨k,u,_,hq,hk,(⟨rfl,_⟩|⟨q,_⟩),rfl⟩|⟨q,rfl⟩|⟨_,q,rfl⟩
  ·exact .inl ⟨hq,y,t',t1,L,h1,h2,rfl⟩
  ·exact absurd h0.symm (addE_no q)
  ·exact absurd rfl hk
  ·exact .inr ⟨fun z=>q z.2,k,hk,rfl⟩
  ·exact absurd hm q
  ·exact .inr ⟨fun z=>z.1 q,9,by decide,rfl⟩
theorem take_le{α:Type}{l:List α}{i k:Nat}{x:α}(h:l[k]? =some x)(hk:k<=i):(l.take (i+1))[k]? =some x:=by
 rw[List.getElem?_take,if_pos Xd];exact h
theorem sameK_refl(x:Lk):SameK x x:=⟨rfl,⟨rfl,rfl⟩,rfl⟩
end
section
attribute [local irreducible] CoW OpW FlW Step Spec
structure Rebuilt(v u:Vw)(m:Nat):Prop where
 ok:OkC u.ch
 small:SmallC u.ch
 may:MayV u
 len:u.ch.links.length=m
 same:∀k x,k<m->v.ch.links[k]? =some x->∃y n n' t0,u.ch.links[k]? =some y/\SameK x y/\IsA (verT v.ch x.root) n t0/\IsA (verT u.ch y.root) n' t0
theorem Rebuilt.start{v:Vw}{i:Nat}{x:Lk}(hc:OkC v.ch)(hs:SmallC v.ch)(hr:CanRoll v (i:Int))(hx:v.ch.links[i]? =some x):Rebuilt v (xtq v i x) (i+1):=by
 refine⟨hc.cut i x,hs.cut i x,MayV.roll hr hx,JNq hx,fun k z hk hz=>?_⟩;obtain⟨n,t0,hA⟩:=(hr.may.1.link k z hz).tree;exact⟨z,n,n,t0,take_le hz Xd,sameK_refl z,hA,hA⟩
theorem Rebuilt.step{v u:Vw}{m:Nat}{box:Dig}{z:Lk}(h:Rebuilt v u m)(h1:1<=m)(hS:SoundC v.ch box)(hz:v.ch.links[m]? =some z):CanAdd u.ch z.ds z.xs box/\∀{y t' t1 L},Adds u.ch z.ds z.xs box y t' t1 L->u.number≠1073741823->BodOk z.ds z.xs->Rebuilt v (upV {u with ch:=addC u.ch t' (q8q y.hdr t1 L) z.ds z.xs L}) (m+1):=by
 have hm:=qWq hz;have hl:=hS.len;obtain⟨x,hx⟩:∃x,v.ch.links[m-1]? =some x:=⟨_,List.getElem?_eq_getElem Xd⟩
 obtain⟨n,t0,n1,tz,rs,a1,a2,a3,a4,a5⟩:=(hS.sound m z hz).next x Xd hx;obtain⟨y0,b,b',u0,c1,c2,c3,c4⟩:=h.same (m-1) x Xd hx;obtain⟨_,rfl⟩:=a1.uniq c3;have hmay:=h.may.1;have hlast:u.ch.links[u.ch.links.length-1]? =some y0:=by rw[h.len];exact c1
 obtain⟨nu,tu,d1,d2⟩:=hmay.head hlast;obtain⟨_,rfl⟩:=c4.uniq (d2.symm▸d1);have hheld:=heldL_is d1;have hbody:=(hS.link m z hz).body;refine⟨⟨hmay,by rw[h.len];omega,⟨hbody.1,hbody.2.1⟩,by rw[hheld,a3];intro q;cases q⟩,fun {y t' t1 L} ha hn hB=>?_⟩;obtain rfl:y0=y:=Option.some.inj (hlast.symm.trans ha.last);obtain⟨e0,e1,e2,e3,f1,f2,f3,f4⟩:=ha.is;obtain⟨_,rfl⟩:=d1.uniq f1;rw[a3] at f3;have q:=Option.some.inj f3;have q1:tz.all=t1.all:=congrArg Prod.fst q;have q2:rs=e3:=congrArg Prod.snd q;subst q2;obtain rfl:tz=t1:=a2.toIsT.same f2.toIsT q1;refine⟨ha.okc h.ok hB _,ha.smallc h.small _,h.may.seal hn ha,by show(u.ch.links++[_]).length=_;rw[List.length_append,h.len];rfl,fun k w hk hw=>?_⟩;rcases Nat.lt_succ_iff_lt_or_eq.1 hk with hk|rfl
 ·obtain⟨p,g1,g2,g3,i1,i2,i3,i4⟩:=h.same k w hk hw;exact⟨p,g1,g2,g3,get_old i1,i2,i3,ha.old i4⟩
 ·obtain rfl:=Option.some.inj (hz.symm.trans hw);refine⟨addL t' (q8q y0.hdr tz L) z.ds z.xs L,n1,e2,tz,?_,⟨?_,⟨rfl,rfl⟩,?_⟩,a2,f2⟩
  ·show(u.ch.links++[_])[k]? =_;rw[<-h.len];exact List.getElem?_concat_length
  ·show z.hdr=q8q y0.hdr tz L;rw[a4,c2.1,f4]
  ·show z.rs=L.map recI;rw[a5,f4]
theorem roll_room{v:Vw}(h:v.ch.tree.nodes.length<=900):v.ch.tree.nodes.length<=900+0*21000:=by omega
theorem sealed{v:Vw}{ds:List Depo}{xs:List Tx}{box:Dig}{w:W}(h:SealA v ds xs box w)(hc:CanAdd v.ch ds xs box)(hn:v.number≠1073741823):∃y t' t1 L,Adds v.ch ds xs box y t' t1 L/\t'.nodes.length<=v.ch.tree.nodes.length+21000/\w= .tup [vwG (upV {v with ch:=addC v.ch t' (q8q y.hdr t1 L) ds xs L}),.int .i64 0]:=by
 rcases h with ⟨_,y,t',t1,L,h1,h2,h3⟩|⟨h,_⟩
 ·exact⟨y,t',t1,L,h1,h2,h3⟩
 ·exact absurd ⟨hn,hc⟩ h
theorem drops18_s(v:Vw)(hc:OkC v.ch)(box:Dig)(h:Int):PS cfg glK 14 [vwG v,dW box,.int .i64 h] (.bool true):=by
 have e:(v.ch.links.map lkG).length=v.ch.links.length:=List.length_map _;by_cases hg:Qjq v.ch 5
 ·skip
  refine zJq (fn:=Tryz.f14) O O O (Ob rfl) (fun R k0=>?_);refine ziq 9 O ?_;refine zjq O O O O O O (x2q) ?_;refine zaq 7 O ?_;refine zjq O O O O O O (ysq (w':=.bool true) (vtq v 5 hc.nodes hc.len) (by rw[decide_eq_true (hg)])) ?_;refine zaq 27 O ?_;exact zhq (.inr rfl) O O
 obtain⟨g1,g2,g3⟩:=greatc_no hg;have hs:=greatc_small Xr hg;have cs:=csound_s v.ch hc Xd box;by_cases hS:SoundC v.ch box
 ·by_cases hn:536870912<v.number
  ·skip
   refine zJq (fn:=Tryz.f14) O O O (Ob rfl) (fun R k0=>?_);refine ziq 9 O ?_;refine zjq O O O O O O (x2q) ?_;refine zaq 7 O ?_;refine zjq O O O O O O (ysq (w':=.bool false) (vtq v 5 hc.nodes hc.len) Qb) ?_;refine zaq 4 O ?_;refine zjq O O O O O O (ysq (w':=.bool true) (cs) (by rw[decide_eq_true (hS)])) ?_;refine zaq 5 O ?_;refine zdq (w':=.bool true) O O (congrArg W.bool (ltI_iff.2 (hn))) ?_;refine zaq 16 O ?_;exact zhq (.inr rfl) O O
  ·by_cases hr:CanRoll v h
   ·obtain⟨i,rfl⟩:=Int.eq_ofNat_of_zero_le (show 0<=h by have:=hr.is.1;have:=hr.may.2.1;omega);have hi:=hr.is.2;obtain⟨x,hx⟩:∃x,v.ch.links[i]? =some x:=⟨_,List.getElem?_eq_getElem Xd⟩
    obtain⟨_,_,hn0,_⟩:=hr.may.2;have hbl:(qkq v.ch i).length=v.ch.links.length-(i+1):=by unfold qkq;rw[List.length_map,List.length_drop]
    have eB:((qkq v.ch i).map bdW).length=(qkq v.ch i).length:=List.length_map _;refine zJq (fn:=Tryz.f14) O O O (Ob rfl) (fun R k0=>?_);refine ziq 9 O ?_;refine zjq O O O O O O (x2q) ?_;refine zaq 7 O ?_;refine zjq O O O O O O (ysq (w':=.bool false) (vtq v 5 hc.nodes hc.len) Qb) ?_;refine zaq 4 O ?_;refine zjq O O O O O O (ysq (w':=.bool true) (cs) (by rw[decide_eq_true (hS)])) ?_;refine zaq 5 O ?_;refine zdq (w':=.bool false) O O (congrArg W.bool (ltI_not.2 (hn))) ?_;refine zaq 14 O ?_
    (refine zlq rfl (yYq O O O O O (vroll_ok hc hs hx hr) Xl ?_);rintro w hw rfl)
    refine zaq 14 O ?_;refine zdq (w':=.bool false) O O (congrArg W.bool Xg) ?_;refine zaq 12 O ?_;refine vIq (α:=Nat×Vw) (fun p=>p.1<=(qkq v.ch i).length/\Rebuilt v p.2 (i+1+p.1)/\p.2.number=v.number+1+p.1/\p.2.ch.tree.nodes.length<=900+p.1*21000) (fun p=>[(11,.int .i64 (p.1:Int))]) [(3,_),(4,_),(6,_),(7,_),(8,_),(9,_)] (fun p=>[(2,72,vwG p.2),(1,26,dW box),(0,72,vwG v)]) (fun p=>(qkq v.ch i).length-p.1) ((0,xtq v i x)) ⟨rfl,rfl,rfl,rfl,rfl,rfl,trivial⟩ (⟨Nat.zero_le _,Rebuilt.start hc hs hr hx,by show v.number+1=v.number+1+0;omega,roll_room (v:=v) g1⟩) ⟨rfl,trivial⟩ (rfl) (fun p hI=>?_);obtain⟨j,u⟩:=p;obtain⟨q1,q2,q3,q4⟩:=hI;simp only at q1 q2 q3 q4⊢;refine ziq 5 O ?_;refine zdq (w':=.int .i64 (((qkq v.ch i).length:Nat):Int)) O O (by rw[<-eB];rfl) ?_;refine zaq 3 O ?_;refine zDq rfl (fun h1=>?_) (fun h1=>?_)
    ·have hj:j<(qkq v.ch i).length:=by omega
     obtain⟨z,hz⟩:∃z,v.ch.links[i+1+j]? =some z:=⟨_,List.getElem?_eq_getElem Xd⟩
     have hb:(qkq v.ch i)[j]? =some (bdL z):=by unfold qkq;rw[List.getElem?_map,List.getElem?_drop,hz];rfl
     have hBz:=hc.body z (List.mem_of_getElem? hz);obtain⟨hcan,hst⟩:=q2.step Xd hS hz;have hnu:u.number≠1073741823:=by omega
     refine zeq 9 O ?_;refine zcq rfl (zCq (i:=j) O O O O O O O (z1q bdW hb)) ?_;refine zpq 2 O ?_
     (refine ygq rfl (yYq O O O O O (vseal_a q2.ok q2.small Xd q2.may (ds:=z.ds) (xs:=z.xs) hBz box) (by simp[purL]) ?_);rintro w hw hSe;obtain⟨y,t',t1,L,hadd,hgr,rfl⟩:=sealed hSe hcan hnu;refine⟨by first|rfl|kernel_rfl,?_⟩)
     refine zpq 12 O ?_;refine zdq (w':=.bool false) O O (congrArg W.bool Xg) ?_;refine zaq 13 O ?_;refine zuq (j+1) O O Xm ⟨by omega,by omega⟩ ?_;refine yZq 2 O ?_;exact q_againH ((j+1,upV {u with ch:=addC u.ch t' (q8q y.hdr t1 L) z.ds z.xs L})) (⟨hj,hst hadd hnu hBz,by show u.number+1=v.number+1+((j+1:Nat):Int);omega,by show t'.nodes.length<=900+(j+1)*21000;omega⟩) Yg (Nat.zero_le _) ⟨rfl,trivial⟩ ⟨rfl,rfl,rfl,rfl,rfl,rfl,trivial⟩ Xh Xh Xd Xp Yk
    ·have hj:j=(qkq v.ch i).length:=by omega
     have hlen:u.ch.links.length=v.ch.links.length:=by have:=q2.len;omega
     have eu:(u.ch.links.map lkG).length=v.ch.links.length:=by rw[List.length_map,hlen]
     skip
     refine zeq 2 O ?_;refine q0q Xi ?_;refine zyq 8 O ?_;refine zdq (w':=.int .i64 ((v.ch.links.length:Nat):Int)) O O (by rw[<-eu];rfl) ?_;refine zaq 3 O ?_;refine zdq (w':=.int .i64 ((v.ch.links.length:Nat):Int)) O O Xw ?_;refine zdq (w':=.bool false) O O (congrArg (fun b=>W.bool (!b)) (eqI_iff.2 (rfl))) ?_;refine zaq 5 O ?_;first|refine yjq O O ⟨by omega,by omega⟩ ?_|refine zbq O O ?_
     refine zbq O O (zdq (w':=.int .i64 (((qkq v.ch i).length:Nat):Int)) O O (by rw[<-eB];rfl) ?_);refine op_z (v.number+1+((qkq v.ch i).length:Int)) O O O ⟨by omega,by omega⟩ ?_;refine zdq (w':=.bool false) O O (congrArg (fun b=>W.bool (!b)) (eqI_iff.2 ((by show u.number=v.number+1+((qkq v.ch i).length:Int);omega)))) ?_;refine zaq 13 O ?_;refine yTq (α:=Nat) (fun k=>k<=v.ch.links.length) (fun k=>[(14,.int .i64 (k:Int))]) [(3,_),(6,_),(7,_),(8,_)] (fun k=>v.ch.links.length-k) (0) ⟨rfl,rfl,rfl,rfl,trivial⟩ (Nat.zero_le _) ⟨rfl,trivial⟩ (fun k hI=>?_);refine ziq 7 O ?_;refine zdq (w':=.int .i64 ((v.ch.links.length:Nat):Int)) O O Xw ?_;refine zaq 3 O ?_;refine zDq rfl (fun h2=>?_) (fun h2=>?_)
     ·have hk:k<v.ch.links.length:=by omega
      obtain⟨w,hw⟩:∃w,v.ch.links[k]? =some w:=⟨_,List.getElem?_eq_getElem hk⟩
      obtain⟨y,n,n',t0,r1,r2,r3,r4⟩:=q2.same k w (by have:=q2.len;omega) hw;refine zeq 9 O ?_;refine zjq O O O O O O (same18_s v u hc hs hS.toMayC q2.ok q2.small q2.may.1 k hw r1 r2 r3 r4) ?_;refine zaq 9 O ?_;refine zuq (k+1) O O Xm ⟨by omega,by omega⟩ ?_;refine yZq 2 O ?_;exact yhq (k+1) (hk) Xd ⟨rfl,trivial⟩ ⟨rfl,rfl,rfl,rfl,trivial⟩ Xh Xd Xk rfl
     ·refine zeq 2 O ?_;refine yfq Xi ?_;refine zyq 9 O ?_;exact zhq (.inr rfl) O O
   ·have hro:= @Jfq v h;refine zJq (fn:=Tryz.f14) O O O (Ob rfl) (fun R k0=>?_);refine ziq 9 O ?_;refine zjq O O O O O O (x2q) ?_;refine zaq 7 O ?_;refine zjq O O O O O O (ysq (w':=.bool false) (vtq v 5 hc.nodes hc.len) Qb) ?_;refine zaq 4 O ?_;refine zjq O O O O O O (ysq (w':=.bool true) (cs) (by rw[decide_eq_true (hS)])) ?_;refine zaq 5 O ?_;refine zdq (w':=.bool false) O O (congrArg W.bool (ltI_not.2 (hn))) ?_;refine zaq 14 O ?_
    (refine zlq rfl (yYq O O O O O (vroll_no hc hs hr) Xl ?_);rintro w hw rfl)
    refine zaq 14 O ?_;refine zdq (w':=.bool true) O O (congrArg (fun b=>W.bool (!b)) (eqI_not.2 Xd)) ?_;refine zaq 8 O ?_;first|refine xwq O O ?_|refine zbq O O ?_
    refine y0q O O ?_;refine zaq 6 O ?_;exact zhq (.inr rfl) O O
 ·skip
  refine zJq (fn:=Tryz.f14) O O O (Ob rfl) (fun R k0=>?_);refine ziq 9 O ?_;refine zjq O O O O O O (x2q) ?_;refine zaq 7 O ?_;refine zjq O O O O O O (ysq (w':=.bool false) (vtq v 5 hc.nodes hc.len) Qb) ?_;refine zaq 4 O ?_;refine zjq O O O O O O (ysq (w':=.bool false) (cs) (by rw[decide_eq_false (hS)])) ?_;refine zaq 22 O ?_;exact zhq (.inr rfl) O O
end
mutual
/-- all blocks in it lie below n -/
noncomputable def ltB(n:Nat):V->Bool
 |.ptr b _=>decide (b<n)
 |.sl b _ _ _ _ _=>decide (b<n)
 |.map b=>decide (b<n)
 |.yield b=>decide (b<n)
 |.fn _ a c=>ltL n a&&ltL n c
 |.iface _ v=>ltB n v
 |.agg _ l=>ltL n l
 |.arr _ _ l=>ltL n l
 |.tup l=>ltL n l
 |.undef=>true
 |.bool _=>true
 |.int _ _=>true
 |.str _=>true
 |.nilp=>true
 |.nils=>true
 |.nilm=>true
 |.nilf=>true
 |.nili=>true
noncomputable def ltL(n:Nat):List V->Bool
 |[]=>true
 |v::l=>ltB n v&&ltL n l
end
noncomputable def SeenK(h:Heap):Nat->Prop:=fun b=>b<h.next/\∃v,h.val b=some v/\ltB h.next v=true
noncomputable def u32V(n:Nat):V:=.int .u32 (.ofNat n)
noncomputable def eqK:List V->List Nat->Bool
 |[],[]=>true
 |.int .u32 (.ofNat n)::l,m::ms=>match Nat.beq n m with
  |true=>eqK l ms
  |false=>false
 |_,_=>false
theorem eqK_spec:∀{l:List V} {ms:List Nat},eqK l ms=true->l=ms.map u32V
 |[],[],_=>rfl
 |[],_::_,h=>by simp[eqK] at h
 |v::l,ms,h=>by
  unfold eqK at h;split at h
  ·simp_all
  ·rename_i n l' m ms' e;cases e;split at h
   ·rename_i hb;obtain rfl:=Nat.eq_of_beq_eq_true hb;rw[eqK_spec h];rfl
   ·cases h
  ·cases h
noncomputable def globK(h:Heap):Bool:=match h.get 0 with
 |some (.ro (.arr 64 1 l))=>eqK l kW
 |_=>false
theorem RSL_wd(Γ:Ctx):∀l:List Nat,RSL Γ (l.map wd) (l.map u32V)
 |[]=>rfl
 |n::l=>q6q (a:=[u32V n]) (b:=l.map u32V) (x:=wd n) rfl (RSL_wd Γ l)
theorem globK_spec{h:Heap}(hn:Nat.ble 2 h.next=true)(hk:globK h=true):GRel cfg glK ⟨0,fun i=>i,SeenK h,h⟩:=by
 intro g w _ h2 nw σ;have hn:=Ob hn;unfold glK at h2;split at h2
 ·cases h2;unfold globK at hk;split at hk
  ·rename_i l hg;obtain rfl:=eqK_spec hk;have hv:h.val 0=some (.arr 64 1 (kW.map u32V)):=by simp only[Heap.val,hg]
   refine RV.of_one ⟨0,0,_,rfl,⟨by omega,_,hv,by rfl⟩,hv,by exact Nat.le_refl _,fun _=>rfl,.inr rfl,?_⟩ O O;have e:((zwq (.arr 64 1 (kW.map u32V))).drop 0).take 64=kW.map u32V:=by kernel_rfl
   show RS _ _ (((zwq (.arr 64 1 (kW.map u32V))).drop 0).take 64);rw[e];exact⟨rfl,fun x hx=>by obtain⟨n,_,rfl⟩:=List.mem_map.1 hx;rfl,RSL_wd _ kW⟩
  ·cases hk
 ·cases h2
end
end Go.Proofs.YtjmekaoadfmkfaaGreatDoor

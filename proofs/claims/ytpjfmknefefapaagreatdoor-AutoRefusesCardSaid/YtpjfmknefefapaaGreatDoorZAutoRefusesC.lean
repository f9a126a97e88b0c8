/-
  What the proof of AutoRefuses stands on, part 3. No condition.
-/
import Derived.Test.YtpjfmknefefapaaGreatDoorZAutoRefusesB
set_option linter.unusedSimpArgs false
set_option linter.unusedVariables false
namespace Go.Proofs.YtpjfmknefefapaaGreatDoor
section
open Go.RowKit
section
structure Ctx where
 nw:Nat
 σ:Nat->Nat
 D:Nat->Prop
 h:Heap
mutual
/-- a value's cells -/
noncomputable def RS(Γ:Ctx):W->List V->Prop
 |.undef,s=>s=[.undef]
 |.bool b,s=>s=[.bool b]
 |.int k n,s=>s=[.int k n]
 |.str x,s=>s=[.str x]
 |.nilp,s=>s=[.nilp]
 |.ptr b off,s=>b<Γ.nw/\s=[.ptr (Γ.σ b) off]
 |.nils,s=>s=[.nils]
 |.sl b base off len esz lim,s=>b<Γ.nw/\s=[.sl (Γ.σ b) base off len esz lim]
 |.fz l e full,s=>(l=[]/\s=[.nils])\/∃b base off lim bv,s=[.sl b base off l.length e lim]/\(full=true->lim=some l.length)/\Γ.D b/\Γ.h.val b=some bv/\bv.isAgg=true/\off+l.length*e<=bv.size/\(∀x∈l,x.size=e)/\RSL Γ l (((zlq bv).drop off).take (l.length*e))
 |.fel x,s=>∃b off bv,s=[.ptr b off]/\Γ.D b/\Γ.h.val b=some bv/\off+x.size<=bv.size/\(x.isAgg=true->bv.isAgg=true)/\(bv.leaf=true\/bv.isAgg=true)/\RS Γ x (((zlq bv).drop off).take x.size)
 |.nilm,s=>s=[.nilm]
 |.fn f a c,s=>∃a' c',s=[.fn f a' c']/\RVL Γ a a'/\RVL Γ c c'
 |.yield l,s=>s=[.yield l]
 |.nilf,s=>s=[.nilf]
 |.iface t x,s=>∃v,s=[.iface t v]/\x.isAgg=v.isAgg/\RS Γ x (zlq v)
 |.nili,s=>s=[.nili]
 |.agg n l,s=>s.length=n/\RSL Γ l s
 |.arr n e l,s=>s.length=n/\(∀x∈l,x.size=e)/\RSL Γ l s
 |.tup l,s=>∃vs,s=[.tup vs]/\RVL Γ l vs
/-- the cells of some, one behind the other -/
noncomputable def RSL(Γ:Ctx):List W->List V->Prop
 |[],s=>s=[]
 |x::l,s=>RS Γ x (s.take x.size)/\RSL Γ l (s.drop x.size)
/-- one by one -/
noncomputable def RVL(Γ:Ctx):List W->List V->Prop
 |[],vs=>vs=[]
 |x::l,vs=>∃v vs',vs=v::vs'/\(x.isAgg=v.isAgg/\RS Γ x (zlq v))/\RVL Γ l vs'
end
noncomputable def RV(Γ:Ctx)(w:W)(v:V):Prop:=w.isAgg=v.isAgg/\RS Γ w (zlq v)
section
variable {Γ Γ':Ctx}
theorem qPq{w:W}{s:List V}(h:RS Γ w s):s.length=w.size:=by
 cases w<;>simp only[RS] at h
 case ptr=>rw[h.2];rfl
 case sl=>rw[h.2];rfl
 case fz=>
  rcases h with ⟨_,rfl⟩|⟨b,base,off,lim,bv,rfl,_⟩<;>rfl
 case fel=>obtain⟨_,_,_,rfl,_⟩:=h;rfl
 case fn=>obtain⟨_,_,rfl,_⟩:=h;rfl
 case iface=>obtain⟨_,rfl,_⟩:=h;rfl
 case tup=>obtain⟨_,rfl,_⟩:=h;rfl
 case agg=>exact h.1
 case arr=>exact h.1
 all_goals (rw[h];rfl)
theorem RV.size{w:W}{v:V}(h:RV Γ w v):v.size=w.size:=by rw[<-qPq h.2,yOq]
theorem RV.one{w:W}{v:V}(h:RV Γ w v)(hw:w.isAgg=false):RS Γ w [v]:=by
 have:=h.2;rwa[kdq (by rw[<-h.1];exact hw)] at this
theorem RV.of_one{w:W}{v:V}(h:RS Γ w [v])(hw:w.isAgg=false)(hv:v.isAgg=false):RV Γ w v:=⟨by rw[hw,hv],by rwa[kdq hv]⟩
theorem dpq{w:W}{v:V}(h:RS Γ w [v])(hw:w.leaf=true):v.leaf=true:=by
 cases w<;>simp only[RS,YM,and_true] at h<;>simp[W.leaf] at hw
 case ptr=>rw[h.2];rfl
 case sl=>rw[h.2];rfl
 case fz=>
  rcases h with ⟨_,rfl⟩|⟨b,base,off,lim,bv,rfl,_⟩<;>rfl
 case fel=>obtain⟨_,_,_,rfl,_⟩:=h;rfl
 case fn=>obtain⟨_,_,rfl,_⟩:=h;rfl
 case iface=>obtain⟨_,rfl,_⟩:=h;rfl
 all_goals (rw[h];rfl)
theorem W.leaf_agg{w:W}(h:w.leaf=true):w.isAgg=false:=by cases w<;>simp[W.leaf] at h<;>rfl
theorem V.leaf_agg{v:V}(h:v.leaf=true):v.isAgg=false:=by cases v<;>simp[V.leaf] at h<;>rfl
theorem RV.leaf{w:W}{v:V}(h:RV Γ w v)(hw:w.leaf=true):v.leaf=true:=dpq (h.one (W.leaf_agg hw)) hw
structure Ctx.Le(Γ Γ':Ctx):Prop where
 nw:Γ.nw<=Γ'.nw
 σ:∀b,b<Γ.nw->Γ'.σ b=Γ.σ b
 D:∀b,Γ.D b->Γ'.D b
 val:∀b,Γ.D b->Γ'.h.val b=Γ.h.val b
theorem Ctx.Le.refl(Γ:Ctx):Γ.Le Γ:=⟨Zc _,λ_ _=>rfl,λ_ h=>h,λ_ _=>rfl⟩
mutual
theorem RS.mono(le:Γ.Le Γ'):∀{w:W} {s:List V},RS Γ w s->RS Γ' w s
 |.undef,_,h=>by simp only[RS] at h⊢;exact h
 |.bool _,_,h=>by simp only[RS] at h⊢;exact h
 |.int _ _,_,h=>by simp only[RS] at h⊢;exact h
 |.str _,_,h=>by simp only[RS] at h⊢;exact h
 |.nilp,_,h=>by simp only[RS] at h⊢;exact h
 |.ptr b off,_,h=>by simp only[RS] at h⊢;rw[le.σ b h.1];exact⟨Zw h.1 le.nw,h.2⟩
 |.nils,_,h=>by simp only[RS] at h⊢;exact h
 |.sl b _ _ _ _ _,_,h=>by simp only[RS] at h⊢;rw[le.σ b h.1];exact⟨Zw h.1 le.nw,h.2⟩
 |.fz l e full,_,h=>by
  simp only[RS] at h⊢;rcases h with h|⟨b,base,off,lim,bv,h1,h2,h3,h4,ha,h5,h6,h7⟩
  .exact .inl h
  .exact .inr ⟨b,base,off,lim,bv,h1,h2,le.D b h3,by rw[le.val b h3];exact h4,ha,h5,h6,RSL.mono le h7⟩
 |.fel x,_,h=>by
  simp only[RS] at h⊢;obtain⟨b,off,bv,h1,h3,h4,h5,ha,hb,h7⟩:=h;exact⟨b,off,bv,h1,le.D b h3,by rw[le.val b h3];exact h4,h5,ha,hb,RS.mono le h7⟩
 |.nilm,_,h=>by simp only[RS] at h⊢;exact h
 |.fn f a c,_,h=>by
  simp only[RS] at h⊢;obtain⟨a',c',h1,h2,h3⟩:=h;exact⟨a',c',h1,RVL.mono le h2,RVL.mono le h3⟩
 |.yield _,_,h=>by simp only[RS] at h⊢;exact h
 |.nilf,_,h=>by simp only[RS] at h⊢;exact h
 |.iface t x,_,h=>by
  simp only[RS] at h⊢;obtain⟨v,h1,h2,h3⟩:=h;exact⟨v,h1,h2,RS.mono le h3⟩
 |.nili,_,h=>by simp only[RS] at h⊢;exact h
 |.agg n l,_,h=>by simp only[RS] at h⊢;exact⟨h.1,RSL.mono le h.2⟩
 |.arr n e l,_,h=>by simp only[RS] at h⊢;exact⟨h.1,h.2.1,RSL.mono le h.2.2⟩
 |.tup l,_,h=>by
  simp only[RS] at h⊢;obtain⟨vs,h1,h2⟩:=h;exact⟨vs,h1,RVL.mono le h2⟩
theorem RSL.mono(le:Γ.Le Γ'):∀{l:List W} {s:List V},RSL Γ l s->RSL Γ' l s
 |[],_,h=>by simp only[RSL] at h⊢;exact h
 |x::l,_,h=>by simp only[RSL] at h⊢;exact⟨RS.mono le h.1,RSL.mono le h.2⟩
theorem RVL.mono(le:Γ.Le Γ'):∀{l:List W} {vs:List V},RVL Γ l vs->RVL Γ' l vs
 |[],_,h=>by simp only[RVL] at h⊢;exact h
 |x::l,_,h=>by
  simp only[RVL] at h⊢;obtain⟨v,vs',h1,⟨h2,h3⟩,h4⟩:=h;exact⟨v,vs',h1,⟨h2,RS.mono le h3⟩,RVL.mono le h4⟩
end
theorem RV.mono(le:Γ.Le Γ'){w:W}{v:V}(h:RV Γ w v):RV Γ' w v:=⟨h.1,RS.mono le h.2⟩
theorem qeq{x:W}{l:List W}{a b:List V}(hx:RS Γ x a)(hl:RSL Γ l b):RSL Γ (x::l) (a++b):=by
 have e:=qPq hx;simp only[RSL];rw[<-e,List.take_left,List.drop_left];exact⟨hx,hl⟩
theorem q5q{x:W}{l:List W}{s:List V}(h:RSL Γ (x::l) s):∃a b,s=a++b/\RS Γ x a/\RSL Γ l b:=by
 simp only[RSL] at h;exact⟨_,_,(ZJ x.size s).symm,h.1,h.2⟩
theorem Jbq{l r:List W}:∀{a b:List V},RSL Γ l a->RSL Γ r b->RSL Γ (l++r) (a++b):=by
 induction l with
 |nil=>intro a b h1 h2;simp only[RSL] at h1;subst h1;exact h2
 |cons x l ih=>
  intro a b h1 h2;obtain⟨p,q,rfl,hx,hl⟩:=q5q h1;rw[YW,Zz];exact qeq hx (ih hl h2)
theorem x5q{l r:List W}:∀{s:List V},RSL Γ (l++r) s->∃a b,s=a++b/\RSL Γ l a/\RSL Γ r b:=by
 induction l with
 |nil=>intro s h;exact⟨[],s,rfl,by simp[RSL],h⟩
 |cons x l ih=>
  intro s h;obtain⟨p,q,rfl,hx,hl⟩:=q5q h;obtain⟨a,b,rfl,h1,h2⟩:=ih hl;exact⟨p++a,b,by rw[Zz],qeq hx h1,h2⟩
theorem klq{l:List W}:∀{s:List V},RSL Γ l s->s.length=iZq l:=by
 induction l with
 |nil=>intro s h;simp only[RSL] at h;subst h;rfl
 |cons x l ih=>
  intro s h;obtain⟨p,q,rfl,hx,hl⟩:=q5q h;rw[Zj,qPq hx,ih hl];rfl
theorem kyq{e:Nat}{l:List W}(h:∀x∈l,x.size=e):iZq l=l.length*e:=by
 induction l with
 |nil=>simp[iZq]
 |cons x l ih=>
  rw[iZq,ih λy hy=>h y (ZP _ hy),h x (ZS ..),Zv,ZO];omega
theorem iUq{x:W}{s:List V}(h:RS Γ x s):RSL Γ [x] s:=by
 have:=qeq (l:=[]) (b:=[]) h (by simp[RSL]);simpa using this
theorem eOq{l:List W}{i:Nat}{x:W}{s:List V}(h:RSL Γ l s)(hi:l[i]? =some x):∃a b c,s=a++(b++c)/\RS Γ x b/\RSL Γ (l.take i) a/\RSL Γ (l.drop (i+1)) c:=by
 have hlt:i<l.length:=(Zq.1 hi).1
 have e:l=l.take i++(x::l.drop (i+1)):=by
  obtain⟨_,rfl⟩:=Zq.1 hi;rw[List.getElem_cons_drop,ZJ]
 rw[e] at h;obtain⟨a,t,rfl,h1,h2⟩:=x5q h;obtain⟨b,c,rfl,h3,h4⟩:=q5q h2;exact⟨a,b,c,rfl,h3,h1,h4⟩
theorem iWq{l:List W}{i e:Nat}{x:W}{s:List V}(h:RSL Γ l s)(he:∀x∈l,x.size=e)(hi:l[i]? =some x):RS Γ x ((s.drop (i*e)).take e)/\i*e+e<=s.length:=by
 obtain⟨a,b,c,rfl,h1,h2,h3⟩:=eOq h hi;have hlt:i<l.length:=(Zq.1 hi).1
 have la:a.length=i*e:=by
  rw[klq h2,kyq (e:=e) λy hy=>he y (ZH hy),Zu,YH Xd]
 have lb:b.length=e:=by rw[qPq h1];exact he x (Zf hi)
 rw[<-la,List.drop_left,<-lb,List.take_left];exact⟨h1,by simp only[Zj];omega⟩
theorem ixq{a b:Nat}(h:Nat.blt a b=true):a<b:=by simpa[YQ] using h
theorem wYq{a b:Nat}(h:Nat.blt a b=false):¬a<b:=λh1=>by
 have:Nat.blt a b=true:=by simpa[YQ] using h1
 rw[h] at this;cases this
theorem uMq:∀{l:List W} {off:Nat} {x:W} {o:Nat} {s:List V},QVq l off=some (x,o) ->RSL Γ l s->∃a b c,s=a++(b++c)/\RS Γ x b/\a.length+o=off/\o<x.size
 |[],off,x,o,s,h,_=>by simp[QVq] at h
 |v::l,off,x,o,s,h,hs=>by
  obtain⟨p,q,rfl,hp,hq⟩:=q5q hs;simp only[QVq] at h;split at h
  .rename_i hlt;cases h;exact⟨[],p,q,rfl,hp,by simp,ixq hlt⟩
  .rename_i hlt;obtain⟨a,b,c,rfl,h1,h2,h3⟩:=uMq h hq;have hlt:=wYq hlt;exact⟨p++a,b,c,by simp,h1,by rw[Zj,qPq hp];omega,h3⟩
theorem gnq{α:Type}{a b c:List α}{o n:Nat}(h:o+n<=b.length):((a++(b++c)).drop (a.length+o)).take n=(b.drop o).take n:=by
 rw[YP,Z6 Xd,Z0 Xo]
theorem jnq:∀(f:Nat) {w:W} {off n:Nat} {ag:Bool} {x:W} {s:List V},zYq f w off n ag=some x->RS Γ w s->
  x.size=n/\off+n<=w.size/\RS Γ x ((s.drop off).take n)/\x.isAgg=ag/\(ag=false->x.leaf=true)
 |0,_,_,_,_,_,_,h,_=>by simp[zYq] at h
 | f +1,w,off,n,ag,x,s,h,hs=>by
  have ls:=qPq hs;simp only[zYq] at h;split at h
  .rename_i hc;simp only[Zb,beq_iff_eq,ZE] at hc;obtain⟨⟨rfl,rfl⟩,rfl⟩:=hc;split at h
   .rename_i hl;cases h;refine⟨rfl,by omega,by rw[ZV,Zm Xd];exact hs,rfl,λha=>by simpa[ha] using hl⟩
   .cases h
  .split at h
   .rename_i m l hne;simp only[RS] at hs;split at h
    .rename_i y o hf;obtain⟨a,b,c,rfl,h1,h2,h3⟩:=uMq hf hs.2;obtain⟨g1,g2,g3,g4⟩:=jnq f h h1;have lb:=qPq h1;refine⟨g1,?_,?_,g4⟩
     .rw[<-ls];simp only[Zj];omega
     .rw[<-h2,gnq Xd];exact g3
    .cases h
   .rename_i m e l hne;simp only[RS] at hs;split at h
    .rename_i y hy;obtain⟨h1,h2⟩:=iWq hs.2.2 hs.2.1 hy;obtain⟨g1,g2,g3,g4⟩:=jnq f h h1;have hy:=hs.2.1 y (Zf hy);have hdm:=Nat.div_add_mod off e;rw[YC] at hdm;refine⟨g1,by rw[<-ls];omega,?_,g4⟩
     have:((s.drop (off/e*e)).take e).drop (off%e)=(s.drop off).take (e-off%e):=by
      rw[List.drop_take,Z8,hdm]
     rw[this,YO,YH Xd] at g3;exact g3
    .cases h
   .cases h
theorem ueq{f:Nat}{v:V}{off n:Nat}{ag:Bool}{x:V}(h:jHq f v off n ag=some x):x.size=n/\off+n<=v.size/\zlq x=((zlq v).drop off).take n/\(if ag then x.isAgg=true else x.leaf=true):=by
 unfold jHq at h;split at h
 .cases h;obtain⟨h1,h2,h3,h4⟩:=xSq _ _ _ _ _ _ Yh;exact⟨h1,h2,h3.symm,h4⟩
 .exact Zoq h
theorem QRq{v:V}{off n:Nat}(hv:v.isAgg=true)(h:off+n<=v.size):(∃x,jHq 50 v off n true=some x)/\∀y,((zlq v).drop off).take n=[y] ->y.leaf=true->∃x,jHq 50 v off n false=some x:=by
 have hb:Nat.ble (off+n) v.size=true:=Zl h;constructor
 .unfold jHq;split
  .exact⟨_,rfl⟩
  .unfold uJq;simp[hv,hb]
 .intro y hy hl;unfold jHq;split
  .exact⟨_,rfl⟩
  .unfold uJq
   have hn:n=1:=by
    have:=Ze List.length hy;rw[Zu,Zx,yOq] at this;simp at this;omega
   subst hn
   have he:(zlq v)[off]? =some y:=by
    have:=Ze (·[0]?) hy;simpa using this
   simp[hv,hb,he,hl]
theorem YBq(f:Nat){v:V}(hv:v.leaf=true):upq (f+1) v 0 v.size false=some v:=by
 cases v<;>simp[V.leaf] at hv<;>simp[xmq,V.size,V.isAgg,V.leaf]
theorem cGq(f:Nat){v x:V}(hv:v.leaf=true)(hx:x.leaf=true):unq (f+1) v 0 x=some x:=by
 have e:x.size=1:=by cases x<;>simp[V.leaf] at hx<;>rfl
 have ea:=V.leaf_agg hx;have e':v.size=1:=by cases v<;>simp[V.leaf] at hv<;>rfl
 have ea':=V.leaf_agg hv;rw[xgq];simp[e,ea,e',ea',hv,hx]
theorem kWq{f:Nat}{w:W}{off n:Nat}{ag:Bool}{x:W}(hw:w.isAgg=false)(h:zYq (f+1) w off n ag=some x):off=0/\n=1/\ag=false/\w.leaf=true/\x=w:=by
 have hs:w.size=1:=by cases w<;>simp[W.isAgg] at hw<;>rfl
 simp only[zYq] at h;split at h
 .rename_i hc;simp only[Zb,beq_iff_eq,ZE] at hc;obtain⟨⟨rfl,rfl⟩,rfl⟩:=hc;split at h
  .rename_i hl;cases h;exact⟨rfl,hs,hw,by simpa[hw] using hl,rfl⟩
  .cases h
 .split at h<;>simp[W.isAgg] at hw
  cases h
theorem xFq{w:W}{v:V}{off n:Nat}{ag:Bool}{x:W}(hr:RV Γ w v)(h:zYq 50 w off n ag=some x):∃y,jHq 50 v off n ag=some y/\RV Γ x y/\x.size=n:=by
 obtain⟨h1,h2,h3,h4,h5⟩:=jnq (Γ:=Γ) 50 h hr.2;have hsz:=hr.size;cases hw:w.isAgg with
 |true=>
  have hv:v.isAgg=true:=by rw[<-hr.1];exact hw
  obtain⟨g1,g2⟩:=QRq (off:=off) (n:=n) hv Xd;cases ag with
  |true=>
   obtain⟨y,hy⟩:=g1;obtain⟨k1,k2,k3,k4⟩:=ueq hy;exact⟨y,hy,⟨by rw[h4];exact k4.symm,by rw[k3];exact h3⟩,h1⟩
  |false=>
   have hx1:x.size=1:=by have:=h5 rfl;cases x<;>simp[W.leaf] at this<;>rfl
   have hlen:=qPq h3;rw[hx1] at hlen;obtain⟨y0,hy0⟩:∃y,((zlq v).drop off).take n=[y]:=List.length_eq_one_iff.1 hlen
   have hl0:y0.leaf=true:=by rw[hy0] at h3;exact dpq h3 (h5 rfl)
   obtain⟨y,hy⟩:=g2 y0 hy0 hl0;obtain⟨k1,k2,k3,k4⟩:=ueq hy;exact⟨y,hy,⟨by rw[h4];exact(V.leaf_agg k4).symm,by rw[k3];exact h3⟩,h1⟩
 |false=>
  have hv:v.isAgg=false:=by rw[<-hr.1];exact hw
  have hw1:w.size=1:=by cases w<;>simp[W.isAgg] at hw<;>rfl
  obtain⟨rfl,rfl,rfl,hl,rfl⟩:=kWq hw h;refine⟨v,?_,hr,hw1⟩;unfold jHq;have e:=YBq 49 (hr.leaf hl);rw[hsz,hw1] at e;rw[e]
theorem Yjq{g:W->Nat->Option W}:∀{l:List W} {off:Nat} {l':List W} {s:List V},Zjq g l off=some l'->RSL Γ l s->∃a b c y y' o,s=a++(b++c)/\RS Γ y b/\g y o=some y'/\a.length+o=off/\o<y.size/\∀b',RS Γ y' b'->RSL Γ l' (a++(b'++c))
 |[],off,l',s,h,_=>by simp[Zjq] at h
 |v::l,off,l',s,h,hs=>by
  obtain⟨p,q,rfl,hp,hq⟩:=q5q hs;simp only[Zjq] at h;split at h
  .rename_i hlt;split at h
   .rename_i v' hv;cases h;exact⟨[],p,q,v,v',off,rfl,hp,hv,by simp,ixq hlt,λb' hb'=>show RSL Γ (v'::l) (b'++q) from qeq hb' hq⟩
   .cases h
  .rename_i hlt;have hlt:=wYq hlt;split at h
   .rename_i l1 h1;cases h;obtain⟨a,b,c,y,y',o,rfl,g1,g2,g3,g4,g5⟩:=Yjq h1 hq;refine⟨p++a,b,c,y,y',o,by simp,g1,g2,by rw[Zj,qPq hp];omega,g4,λb' hb'=>?_⟩;rw[Zz];exact qeq hp (g5 b' hb')
   .cases h
theorem syq{l:List W}{i:Nat}{x x':W}{s:List V}(h:RSL Γ l s)(hi:l[i]? =some x):∃a b c,s=a++(b++c)/\RS Γ x b/\RSL Γ (l.take i) a/\∀b',RS Γ x' b'->RSL Γ (l.set i x') (a++(b'++c)):=by
 obtain⟨a,b,c,rfl,h1,h2,h3⟩:=eOq h hi;refine⟨a,b,c,rfl,h1,h2,λb' hb'=>?_⟩;have hlt:i<l.length:=(Zq.1 hi).1;rw[List.set_eq_take_append_cons_drop,Zt hlt];exact Jbq h2 (qeq hb' h3)
theorem gcq{α:Type}{a b c:List α}{o n:Nat}{x:List α}(h:o+n<=b.length):a++((b.take o++x++b.drop (o+n))++c)=(a++(b++c)).take (a.length+o)++x++(a++(b++c)).drop (a.length+o+n):=by
 rw[List.take_length_add_append,ZK,YP,Z0 Xd,Z6 Xd];simp only[Zz]
theorem xfq:∀(f:Nat) {w:W} {off:Nat} {x w':W} {s sx:List V},yoq f w off x=some w'->RS Γ w s->RS Γ x sx->
  w'.size=w.size/\off+x.size<=w.size/\RS Γ w' (s.take off++sx++s.drop (off+x.size))/\w'.isAgg=w.isAgg/\(x.leaf=true\/x.isAgg=true)/\(w.isAgg=false->w.leaf=true/\x.leaf=true/\w'=x)
 |0,_,_,_,_,_,_,h,_,_=>by simp[yoq] at h
 | f + 1,w,off,x,w',s,sx,h,hs,hx=>by
  have ls:=qPq hs;simp only[yoq] at h;split at h
  .rename_i hc;simp only[Zb,beq_iff_eq,ZE] at hc;obtain⟨⟨rfl,h1⟩,h2⟩:=hc;split at h
   .rename_i hl;cases h;simp only[Y2,Zb] at hl;refine⟨h1,by omega,?_,h2,?_,λhw=>?_⟩
    .rw[List.take_zero,YX,ZW Xd,ZU];exact hx
    .rcases hl with h|h
     .exact .inr h
     .exact .inl h.2
    .rcases hl with h|h
     .rw[h2,hw] at h;cases h
     .exact⟨h.1,h.2,rfl⟩
   .cases h
  .split at h
   .rename_i m l hne;simp only[RS] at hs;split at h
    .rename_i l' hp;cases h;obtain⟨a,b,c,y,y',o,rfl,g1,g2,g3,g4,g5⟩:=Yjq hp hs.2;obtain⟨k1,k2,k3,k4,k5,_⟩:=xfq f g2 g1 hx;have lb:=qPq g1;have ll:=hs.1;simp only[Zj] at ll;refine⟨rfl,by show off+x.size<=m;omega,?_,rfl,k5,λhw=>by cases hw⟩;have lsx:=qPq hx;have:=g5 _ k3;rw[<-g3,<-gcq Xd];simp only[RS];exact⟨by simp only[Zj,Zu,Zx];omega,this⟩
    .cases h
   .rename_i m e l hne;simp only[RS] at hs;split at h
    .rename_i y hy;split at h
     .rename_i y' hy';cases h;obtain⟨a,b,c,rfl,h1,h2,h3⟩:=syq (Γ:=Γ) (x':=y') hs.2.2 hy;have hlt:off/e<l.length:=(Zq.1 hy).1
      have la:a.length=off/e*e:=by
       rw[klq h2,kyq (e:=e) λz hz=>hs.2.1 z (ZH hz),Zu,YH Xd]
      obtain⟨k1,k2,k3,k4,k5,_⟩:=xfq f hy' h1 hx;have lb:=qPq h1;have hys:=hs.2.1 y (Zf hy);have ll:=hs.1;simp only[Zj] at ll;have hdm:=Nat.div_add_mod off e;rw[YC] at hdm;have lsx:=qPq hx;refine⟨rfl,by show off+x.size<=m;omega,?_,rfl,k5,λhw=>by cases hw⟩;have:=h3 _ k3;have e1:off=a.length+off%e:=by omega
      have e2:=gcq (a:=a) (b:=b) (c:=c) (o:=off%e) (n:=x.size) (x:=sx) Xd;rw[<-e1] at e2;rw[<-e2];simp only[RS];refine⟨by simp only[Zj,Zu,Zx];omega,λz hz=>?_,this⟩;rcases List.mem_or_eq_of_mem_set hz with hz|rfl
      .exact hs.2.1 z hz
      .rw[k1,hys]
     .cases h
    .cases h
   .cases h
theorem QHq{f:Nat}{v:V}{off:Nat}{x v':V}(h:xDq f v off x=some v'):
  v'.size=v.size/\off+x.size<=v.size/\zlq v'=(zlq v).take off++zlq x++(zlq v).drop (off+x.size)/\v'.isAgg=v.isAgg:=by
 unfold xDq at h;split at h
 .cases h;obtain⟨h1,h2,h3,h4,_⟩:=xJq _ _ _ _ _ Yh;exact⟨h1,h2,by rw[h3,i0q,yOq],h4⟩
 .obtain⟨h1,h2,h3,h4,_⟩:=Znq h;exact⟨h1,h2,h3,h4⟩
theorem cyq{w:W}{v:V}{off:Nat}{x w':W}{y:V}(hr:RV Γ w v)(hx:RV Γ x y)(h:yoq 50 w off x=some w'):∃v',xDq 50 v off y=some v'/\RV Γ w' v'/\w'.size=w.size:=by
 obtain⟨h1,h2,h3,h4,h5,h6⟩:=xfq (Γ:=Γ) 50 h hr.2 hx.2;have hsz:=hr.size;have hxs:=hx.size
 have hyl:y.leaf=true\/y.isAgg=true:=by
  rcases h5 with h5|h5
  .exact .inl (hx.leaf h5)
  .exact .inr (by rw[<-hx.1];exact h5)
 cases hw:w.isAgg with
 |true=>
  have hv:v.isAgg=true:=by rw[<-hr.1];exact hw
  have:∃v',xDq 50 v off y=some v':=by
   unfold xDq;split
   .exact⟨_,rfl⟩
   .unfold v3q;have hb:Nat.ble (off+y.size) v.size=true:=Zl Xd;have hy:(y.leaf||y.isAgg)=true:=by simpa using hyl
    rw[show(v.isAgg&&(y.leaf||y.isAgg)&&Nat.ble (off+y.size) v.size)=true by rw[hv,hy,hb];rfl];exact⟨_,rfl⟩
  obtain⟨v',hv'⟩:=this;obtain⟨k1,k2,k3,k4⟩:=QHq hv';exact⟨v',hv',⟨by rw[h4,k4,hw,hv],by rw[k3,hxs];exact h3⟩,h1⟩
 |false=>
  obtain⟨hl,hxl,rfl⟩:=h6 hw;have hv:v.isAgg=false:=by rw[<-hr.1];exact hw
  have hvl:=hr.leaf hl;have hyl:=hx.leaf hxl;have s1:w.size=1:=by cases w<;>simp[W.isAgg] at hw<;>rfl
  have s2:w'.size=1:=by cases w'<;>simp[W.leaf] at hxl<;>rfl
  have:off=0:=by omega
  subst this;refine⟨y,?_,hx,h1⟩;unfold xDq;rw[cGq 49 hvl hyl]
theorem q0q:∀(f:Nat) {w:W} {off n e:Nat} {ws:List W} {s:List V},ysq f w off n e=some ws->RS Γ w s->
  ws.length=n/\off+n*e<=w.size/\(∀x∈ws,x.size=e)/\RSL Γ ws ((s.drop off).take (n*e))/\w.isAgg=true
 |0,_,_,_,_,_,_,h,_=>by simp[ysq] at h
 | f + 1,w,off,n,e,ws,s,h,hs=>by
  have ls:=qPq hs;simp only[ysq] at h;split at h
  .rename_i m e' l;have hs0:=hs;simp only[RS] at hs;split at h
   .rename_i hc;simp only[Zb,ZE] at hc;obtain⟨⟨⟨rfl,h0⟩,hle⟩,hpos⟩:=hc;have hle:=Yb hle;have hpos:=ixq hpos;cases h
    have hoff:off/e'*e'=off:=by
     have:=Nat.div_add_mod off e';rw[YC] at this;omega
    have hsl:iZq l=l.length*e':=kyq hs.2.1;have hm:m=l.length*e':=by rw[<-hsl,<-klq hs.2.2];exact hs.1.symm
    have hlen:off/e'+n<=l.length:=by
     have:(off/e'+n)*e'<=l.length*e':=by rw[ZO,hoff,<-hm];exact hle
     exact Nat.le_of_mul_le_mul_right this hpos
    refine⟨by simp;omega,hle,λx hx=>hs.2.1 x (ZD (ZH hx)),?_,rfl⟩;have e1:l=l.take (off/e')++((l.drop (off/e')).take n++(l.drop (off/e')).drop n):=by rw[ZJ,ZJ]
    have h2:=hs.2.2;rw[e1] at h2;obtain⟨a,t,rfl,g1,g2⟩:=x5q h2;obtain⟨b,c,rfl,g3,g4⟩:=x5q g2
    have la:a.length=off:=by
     rw[klq g1,kyq (e:=e') λz hz=>hs.2.1 z (ZH hz),Zu,YH Xd,hoff]
    have lb:b.length=n*e':=by
     rw[klq g3,kyq (e:=e') λz hz=>hs.2.1 z (ZD (ZH hz)),Zu,Zx,YH Xd]
    rw[List.drop_left' la,List.take_left' lb];exact g3
   .split at h
    .rename_i hc;simp only[Zb,ZE] at hc;obtain⟨⟨rfl,rfl⟩,rfl⟩:=hc;cases h;refine⟨rfl,by show 0+1*m<=m;omega,λx hx=>by simp at hx;rw[hx];rfl,?_,rfl⟩;rw[ZV,Zm (by rw[ls];show m<=1*m;omega)];exact iUq hs0
    split at h
    .rename_i x hx;split at h
     .rename_i hc;have hc:=Yb hc;obtain⟨h1,h2⟩:=iWq hs.2.2 hs.2.1 hx;obtain⟨g1,g2,g3,g4,g5⟩:=q0q f h h1;have hxs:=hs.2.1 x (Zf hx);have hdm:=Nat.div_add_mod off e';rw[YC] at hdm;refine⟨g1,by rw[<-ls];omega,g3,?_,rfl⟩
      have:((s.drop (off/e'*e')).take e').drop (off%e')=(s.drop off).take (e'-off%e'):=by
       rw[List.drop_take,Z8,hdm]
      rw[this,YO,YH Xd] at g4;exact g4
     .cases h
    .cases h
  .rename_i m l;have hs0:=hs;simp only[RS] at hs;split at h
   .rename_i hc;simp only[Zb,ZE] at hc;obtain⟨⟨rfl,rfl⟩,rfl⟩:=hc;cases h;refine⟨rfl,by show 0+1*m<=m;omega,λx hx=>by simp at hx;rw[hx];rfl,?_,rfl⟩;rw[ZV,Zm (by rw[ls];show m<=1*m;omega)];exact iUq hs0
   split at h
   .rename_i y o hf;split at h
    .rename_i hc;have hc:=Yb hc;obtain⟨a,b,c,rfl,h1,h2,h3⟩:=uMq hf hs.2;obtain⟨g1,g2,g3,g4,g5⟩:=q0q f h h1;have lb:=qPq h1;refine⟨g1,?_,g3,?_,rfl⟩
     .rw[<-ls];simp only[Zj];omega
     .rw[<-h2,gnq Xd];exact g4
    .cases h
   .cases h
  .cases h
end
theorem vyq(e:Nat):∀l:List V,(z6q e l).length=l.length*e
 |[]=>by simp[z6q]
 |v::l=>by simp[z6q,vyq e l,ZO];omega
theorem vzq(e:Nat):∀a b:List V,z6q e (a++b)=z6q e a++z6q e b
 |[],b=>by simp[z6q]
 |v::a,b=>by simp[z6q,vzq e a b]
theorem YYq(e:Nat):∀(l:List V) (i:Nat),z6q e (l.drop i)=(z6q e l).drop (i*e)
 |[],i=>by simp[z6q]
 |v::l,0=>by simp
 |v::l,i+1=>by
  have h1:(auq e (zlq v)).drop ((i+1)*e)=[]:=ZW (by rw[uKq,ZO];omega);simp only[List.drop_succ_cons,z6q,YYq e l i];rw[List.drop_append,h1,YX,uKq,ZO];congr 1
  omega
theorem YXq(e:Nat):∀(l:List V) (i:Nat),z6q e (l.take i)=(z6q e l).take (i*e)
 |[],i=>by simp[z6q]
 |v::l,0=>by simp[z6q]
 |v::l,i+1=>by
  simp only[List.take_succ_cons,z6q,YXq e l i];rw[List.take_append,Zm (l:=auq e (zlq v)) (by simp[ZO])];congr 2
  simp[ZO]
theorem mZq{m a b:Nat}{L:List V}(h1:a+b<=m)(h2:a+b<=L.length):((auq m L).drop a).take b=(L.drop a).take b:=by
 simp only[auq];rw[List.drop_take,YO,show min b (m-a)=b by omega,Z6 Xd,Z0 Xo]
theorem k5q:∀(f:Nat) (v:V) (off n e:Nat) (l:List V),k6q f v off n e=some l->
  l.length=n/\off+n*e<=v.size/\((zlq v).drop off).take (n*e)=z6q e l/\∀D,InD D v->InDL D l
 |0,_,_,_,_,_,h=>by simp[k6q] at h
 | f +1,v,off,n,e,r,h=>by
  simp only[k6q] at h;split at h
  .rename_i m e' l;split at h
   .rename_i hc;simp only[Zb,ZE] at hc;obtain⟨⟨rfl,h0⟩,hle⟩:=hc;have hle:=Yb hle;split at h
    .rename_i hn;rw[ZE] at hn;cases h
     have hoff:off/e'*e'=off:=by
      have:=Nat.div_add_mod off e';rw[YC] at this;omega
     refine⟨hn,hle,?_,λD hv=>InDL_iff.2 λx hx=>InDL_iff.1 (show InDL D l from hv) x (ZD (ZH hx))⟩;by_cases hn0:n=0
     .subst hn0;simp[z6q]
     have hlen:off+n*e'<=(z6q e' l).length:=by
      rw[vyq];rw[Zu,Zx] at hn;have:=Z3 e' (show off/e'+n<=l.length by omega);rw[ZO] at this;omega
     simp only[zlq];rw[mZq hle hlen,YXq,YYq,hoff]
    .cases h
   .split at h
    .rename_i hc;simp only[Zb,ZE] at hc;obtain⟨⟨rfl,rfl⟩,rfl⟩:=hc;cases h;refine⟨rfl,by show 0+1*m<=m;omega,?_,λD hv=>⟨hv,trivial⟩⟩;simp only[z6q,ZU,Nat.one_mul,ZV];rw[yiq Ql,Zm Ql]
    .split at h
     .rename_i x hx;split at h
      .rename_i hc;simp only[Zb,ZE] at hc;obtain⟨⟨h1,h2⟩,h3⟩:=hc;have h2:=Yb h2;have h3:=Yb h3;obtain⟨g1,g2,g3,g4⟩:=k5q f x _ n e r h;obtain⟨a,c,k1,k2⟩:=YZq (e:=e') _ _ _ hx;have hdm:=Nat.div_add_mod off e';rw[YC] at hdm;refine⟨g1,by show off+n*e<=m;omega,?_,λD hv=>g4 D (InDL.at_ (show InDL D l from hv) hx)⟩;rw[yiq (by simp[h1])] at k1;have key:=qLq (n:=m) (a:=a) (b:=zlq x) (c:=c) Xo;rw[<-k1] at key;simp only[zlq];rw[<-g3,<-key,qcq Xo,k2,hdm]
      .cases h
     .cases h
  .rename_i m l;split at h
   .rename_i hc;simp only[Zb,ZE] at hc;obtain⟨⟨rfl,rfl⟩,rfl⟩:=hc;cases h;refine⟨rfl,by show 0+1*m<=m;omega,?_,λD hv=>⟨hv,trivial⟩⟩;simp only[z6q,ZU,Nat.one_mul,ZV];rw[yiq Ql,Zm Ql]
   split at h
   .rename_i x o hf;split at h
    .rename_i hc;simp only[Zb] at hc;have h2:=Yb hc.1;have h3:=Yb hc.2;obtain⟨a,c,k1,k2,k3⟩:=uLq _ _ _ _ hf;obtain⟨g1,g2,g3,g4⟩:=k5q f x o n e r h;refine⟨g1,by show off+n*e<=m;omega,?_,λD hv=>g4 D (ZVq hf (show InDL D l from hv))⟩;have ha:a.length=off-o:=by omega
     have key:=qLq (n:=m) (a:=a) (b:=zlq x) (c:=c) Xo;rw[<-k1] at key;simp only[zlq];rw[<-g3,<-key,qcq Xo,k2]
    .cases h
   .cases h
  .cases h
end
section
section
variable {Γ:Ctx}
theorem Jnq{v:V}{off n e:Nat}(hv:v.isAgg=true)(h:off+n*e<=v.size):∃us,jEq 50 v off n e=some us/\us.length=n/\z6q e us=((zlq v).drop off).take (n*e)/\∀u∈us,u.size=e/\(u.leaf=true\/u.isAgg=true):=by
 have fl:∃us,kFq v off n e=some us:=by
  unfold kFq;rw[hv,Zl h];exact⟨_,rfl⟩
 have fl':∀{us},kFq v off n e=some us->us.length=n/\z6q e us=((zlq v).drop off).take (n*e)/\∀u∈us,u.size=e/\(u.leaf=true\/u.isAgg=true):=λ{us} hu=>by
  obtain⟨h1,h2,h3,h4,_⟩:=Zmq hu;refine⟨h1,h3.symm,λu hm=>⟨h4 u hm,.inr ?_⟩⟩;unfold kFq at hu;rw[hv,Zl h] at hu;cases hu;exact((Y3q n _ (λx hx=>jVq v x (ZD hx)) Xo).2 u hm).2.1
 unfold jEq;split
 .rename_i l hl;split
  .rename_i hok;refine⟨l,rfl,?_⟩;obtain⟨h1,h2,h3,_⟩:=k5q _ _ _ _ _ _ hl;refine⟨h1,h3.symm,λu hu=>?_⟩;unfold okE at hok;have:=(List.all_eq_true.1 hok) u hu;simpa only[Zb,Y2,ZE] using this
  .obtain⟨us,hu⟩:=fl;exact⟨us,hu,fl' hu⟩
 .obtain⟨us,hu⟩:=fl;exact⟨us,hu,fl' hu⟩
structure Els(Γ:Ctx)(e:Nat)(ws:List W)(us:List V):Prop where
 len:us.length=ws.length
 sz:∀x∈ws,x.size=e
 szv:∀u∈us,u.size=e/\(u.leaf=true\/u.isAgg=true)
 rs:RSL Γ ws (z6q e us)
theorem Els.nil(e:Nat):Els Γ e [] []:=⟨rfl,by simp,by simp,by simp[RSL,z6q]⟩
theorem Els.append{e:Nat}{a b:List W}{a' b':List V}(h:Els Γ e a a')(k:Els Γ e b b'):Els Γ e (a++b) (a'++b'):=by
 refine⟨by simp[h.len,k.len],λx hx=>?_,λx hx=>?_,?_⟩
 .rcases ZT.1 hx with hx|hx
  .exact h.sz x hx
  .exact k.sz x hx
 .rcases ZT.1 hx with hx|hx
  .exact h.szv x hx
  .exact k.szv x hx
 .rw[vzq];exact Jbq h.rs k.rs
theorem Els.cons{e:Nat}{x:W}{l:List W}{us:List V}(h:Els Γ e (x::l) us):∃u us',us=u::us'/\RS Γ x (zlq u)/\u.size=e/\(u.leaf=true\/u.isAgg=true)/\Els Γ e l us':=by
 cases us with
 |nil=>have:=h.len;simp at this
 |cons u us'=>
  have hu:=h.szv u (ZS ..);have hr:=h.rs;obtain⟨a,b,e1,h1,h2⟩:=q5q hr;rw[z6q,yiq (by rw[yOq,hu.1])] at e1;have la:a.length=e:=by rw[qPq h1];exact h.sz x (ZS ..)
  obtain⟨e2,e3⟩:=List.append_inj e1 (by rw[yOq,hu.1,la]);rw[<-e2] at h1;rw[<-e3] at h2;exact⟨u,us',rfl,h1,hu.1,hu.2,by have:=h.len;simpa using this,λy hy=>h.sz y (ZP _ hy),λy hy=>h.szv y (ZP _ hy),h2⟩
theorem Els.take{e:Nat}:∀(n:Nat) {ws:List W} {us:List V},Els Γ e ws us->Els Γ e (ws.take n) (us.take n)
 |0,_,_,_=>.nil e
 |n+1,[],us,h=>by
  have:=h.len;cases us with
  |nil=>exact .nil e
  |cons=>simp at this
 |n+1,x::l,us,h=>by
  obtain⟨u,us',rfl,h1,h2,h3,h4⟩:=h.cons;rw[List.take_succ_cons,List.take_succ_cons];refine Els.append (a:=[x]) (a':=[u]) ⟨rfl,by simpa using h.sz x (ZS ..),by simp[h2,h3],?_⟩ (h4.take n);have hl:=qPq h1;rw[z6q,yiq (by rw[yOq,h2])];simp only[z6q,ZU,RSL];rw[Zm Xd,ZW Xd];exact⟨h1,rfl⟩
theorem Els.arr{e:Nat}{ws:List W}{us:List V}(h:Els Γ e ws us):RV Γ (.arr (ws.length*e) e ws) (.arr (us.length*e) e us):=by
 refine⟨rfl,?_⟩;have hl:=klq h.rs;rw[kyq h.sz] at hl;simp only[RS,zlq];rw[h.len,yiq hl];exact⟨hl,h.sz,h.rs⟩
theorem uxq{w:W}{v:V}{off n e:Nat}{ws:List W}(hr:RV Γ w v)(h:ysq 50 w off n e=some ws):
  ∃us,jEq 50 v off n e=some us/\ws.length=n/\Els Γ e ws us:=by
 obtain⟨h1,h2,h3,h4,h5⟩:=q0q (Γ:=Γ) 50 h hr.2;obtain⟨us,g1,g2,g3,g4⟩:=Jnq (v:=v) (off:=off) (n:=n) (e:=e) (by rw[<-hr.1];exact h5) (by rw[hr.size];exact h2);exact⟨us,g1,h1,by rw[g2,h1],h3,g4,by rw[g3];exact h4⟩
theorem kmq{l:List W}{e:Nat}{full:Bool}{v:V}(hr:RV Γ (.fz l e full) v):(l=[]/\v= .nils)\/∃b base off lim bv us,v= .sl b base off l.length e lim/\(full=true->lim=some l.length)/\Γ.D b/\Γ.h.val b=some bv/\
  bv.isAgg=true/\off+l.length*e<=bv.size/\(∀x∈l,x.size=e)/\RSL Γ l (((zlq bv).drop off).take (l.length*e))/\jEq 50 bv off l.length e=some us/\Els Γ e l us:=by
 have h:=hr.one rfl;simp only[RS,YM,and_true] at h;rcases h with h|⟨b,base,off,lim,bv,h1,h2,h3,h4,h5,h6,h7,h8⟩
 .exact .inl h
 .obtain⟨us,g1,g2,g3,g4⟩:=Jnq (e:=e) h5 h6;exact .inr ⟨b,base,off,lim,bv,us,h1,h2,h3,h4,h5,h6,h7,h8,g1,g2,h7,g4,by rw[g3];exact h8⟩
theorem iTq{l:List W}{e a n:Nat}{s:List V}(h:RSL Γ l s)(he:∀x∈l,x.size=e)(hn:a+n<=l.length):RSL Γ ((l.drop a).take n) ((s.drop (a*e)).take (n*e)):=by
 have e1:l=l.take a++((l.drop a).take n++(l.drop a).drop n):=by rw[ZJ,ZJ]
 rw[e1] at h;obtain⟨p,t,rfl,g1,g2⟩:=x5q h;obtain⟨b,c,rfl,g3,g4⟩:=x5q g2
 have la:p.length=a*e:=by
  rw[klq g1,kyq (e:=e) λz hz=>he z (ZH hz),Zu,YH Xd]
 have lb:b.length=n*e:=by
  rw[klq g3,kyq (e:=e) λz hz=>he z (ZD (ZH hz)),Zu,Zx,YH Xd]
 rw[List.drop_left' la,List.take_left' lb];exact g3
theorem nIq{l:List W}{e:Nat}{full:Bool}{b base off:Nat}{lim:Option Nat}{bv:V}(h1:full=true->lim=some l.length)(h2:Γ.D b)(h3:Γ.h.val b=some bv)(h4:bv.isAgg=true)(h5:off+l.length*e<=bv.size)(h6:∀x∈l,x.size=e)
  (h7:RSL Γ l (((zlq bv).drop off).take (l.length*e))):RV Γ (.fz l e full) (.sl b base off l.length e lim):=
 RV.of_one (by simp only[RS,YM,and_true];exact .inr ⟨b,base,off,lim,bv,rfl,h1,h2,h3,h4,h5,h6,h7⟩) Y Y
theorem kzq{x:W}{v:V}(hr:RV Γ (.fel x) v):∃b off bv,v= .ptr b off/\Γ.D b/\Γ.h.val b=some bv/\off+x.size<=bv.size/\(x.isAgg=true->bv.isAgg=true)/\(bv.leaf=true\/bv.isAgg=true)/\RS Γ x (((zlq bv).drop off).take x.size):=by
 have h:=hr.one rfl;simpa only[RS,YM,and_true] using h
theorem oOq{x:W}{b off:Nat}{bv:V}(h2:Γ.D b)(h3:Γ.h.val b=some bv)(h5:off+x.size<=bv.size)(ha:x.isAgg=true->bv.isAgg=true)(hl:bv.leaf=true\/bv.isAgg=true)(h7:RS Γ x (((zlq bv).drop off).take x.size)):RV Γ (.fel x) (.ptr b off):=
 RV.of_one (by simp only[RS,YM,and_true];exact⟨b,off,bv,rfl,h2,h3,h5,ha,hl,h7⟩) Y Y
theorem ejq{x y:W}{b off o n:Nat}{ag:Bool}{bv:V}(h:zYq 50 x o n ag=some y)(h2:Γ.D b)(h3:Γ.h.val b=some bv)(h5:off+x.size<=bv.size)(ha:x.isAgg=true->bv.isAgg=true)(hl:bv.leaf=true\/bv.isAgg=true)(h7:RS Γ x (((zlq bv).drop off).take x.size)):
  RV Γ (.fel y) (.ptr b (off+o))/\y.size=n:=by
 obtain⟨g1,g2,g3,g4,g5⟩:=jnq (Γ:=Γ) 50 h h7;refine⟨oOq h2 h3 Xd (λhy=>?_) hl ?_,g1⟩
 .cases hx:x.isAgg with
  |true=>exact ha hx
  |false=>
   obtain⟨_,_,_,_,rfl⟩:=kWq (f:=49) hx h;rw[hx] at hy;cases hy
 .rw[List.drop_take,Z8,YO,YH Xd] at g3;rw[g1];exact g3
theorem m3q{x y:W}{off n:Nat}{ag:Bool}{bv:V}(h:zYq 50 x 0 n ag=some y)(h5:off+x.size<=bv.size)(ha:x.isAgg=true->bv.isAgg=true)(hl:bv.leaf=true\/bv.isAgg=true)(h7:RS Γ x (((zlq bv).drop off).take x.size)):
  ∃u,jHq 50 bv off n ag=some u/\RV Γ y u:=by
 obtain⟨g1,g2,g3,g4,g5⟩:=jnq (Γ:=Γ) 50 h h7;rw[ZV,YO,YH Xd] at g3;cases hb:bv.isAgg with
 |true=>
  obtain⟨k1,k2⟩:=QRq (off:=off) (n:=n) hb Xd;cases ag with
  |true=>
   obtain⟨u,hu⟩:=k1;obtain⟨j1,j2,j3,j4⟩:=ueq hu;exact⟨u,hu,by rw[g4];exact j4.symm,by rw[j3];exact g3⟩
  |false=>
   have hx1:y.size=1:=by have:=g5 rfl;cases y<;>simp[W.leaf] at this<;>rfl
   have hlen:=qPq g3;rw[hx1] at hlen;obtain⟨y0,hy0⟩:∃y,((zlq bv).drop off).take n=[y]:=List.length_eq_one_iff.1 hlen
   have hl0:y0.leaf=true:=by rw[hy0] at g3;exact dpq g3 (g5 rfl)
   obtain⟨u,hu⟩:=k2 y0 hy0 hl0;obtain⟨j1,j2,j3,j4⟩:=ueq hu;exact⟨u,hu,by rw[g4];exact(V.leaf_agg j4).symm,by rw[j3];exact g3⟩
 |false=>
  have hxa:x.isAgg=false:=by
   cases hx:x.isAgg with
   |true=>rw[ha hx] at hb;cases hb
   |false=>rfl
  have hbl:bv.leaf=true:=by rcases hl with h|h;exact h;rw[h] at hb;cases hb
  obtain⟨_,rfl,rfl,hxl,rfl⟩:=kWq (f:=49) hxa h;have hbs:bv.size=1:=by cases bv<;>simp[V.leaf] at hbl<;>rfl
  have hxs:y.size=1:=g1;have:off=0:=by omega
  subst this;refine⟨bv,?_,?_⟩
  .unfold jHq;have e:=YBq 49 hbl;rw[hbs] at e;rw[e]
  .refine RV.of_one ?_ hxa hb;rw[hxs,ZV,kdq hb] at h7;exact h7
mutual
theorem xpq:∀{v:V} {w:W},aAq v=some w->RV Γ w v
 |.undef,_,h=>by simp[aAq] at h
 |.bool b,_,h=>by simp only[aAq] at h;cases h;exact⟨rfl,by simp[RS,zlq]⟩
 |.int k n,_,h=>by simp only[aAq] at h;cases h;exact⟨rfl,by simp[RS,zlq]⟩
 |.str s,_,h=>by simp only[aAq] at h;cases h;exact⟨rfl,by simp[RS,zlq]⟩
 |.nilp,_,h=>by simp only[aAq] at h;cases h;exact⟨rfl,by simp[RS,zlq]⟩
 |.ptr _ _,_,h=>by simp[aAq] at h
 |.nils,_,h=>by simp only[aAq] at h;cases h;exact⟨rfl,by simp[RS,zlq]⟩
 |.sl _ _ _ _ _ _,_,h=>by simp[aAq] at h
 |.nilm,_,h=>by simp only[aAq] at h;cases h;exact⟨rfl,by simp[RS,zlq]⟩
 |.map _,_,h=>by simp[aAq] at h
 |.fn _ _ _,_,h=>by simp[aAq] at h
 |.yield _,_,h=>by simp[aAq] at h
 |.nilf,_,h=>by simp only[aAq] at h;cases h;exact⟨rfl,by simp[RS,zlq]⟩
 |.iface _ _,_,h=>by simp[aAq] at h
 |.nili,_,h=>by simp only[aAq] at h;cases h;exact⟨rfl,by simp[RS,zlq]⟩
 |.tup _,_,h=>by simp[aAq] at h
 |.agg n l,_,h=>by
  simp only[aAq] at h;split at h
  .rename_i l' hl;split at h
   .rename_i hn;cases h;have hn:=Zh hn;have h1:=epq hl;have h2:=klq h1;refine⟨rfl,?_⟩;simp only[RS,zlq];rw[yiq (by rw[h2,hn])];exact⟨by rw[h2,hn],h1⟩
   .cases h
  .cases h
 |.arr n e l,_,h=>by
  simp only[aAq] at h;split at h
  .rename_i l' hl;split at h
   .rename_i hc;cases h;simp only[Zb,List.all_eq_true,ZE] at hc;obtain⟨hn,he⟩:=hc;have h1:=eoq hl he;have h2:=klq h1;refine⟨rfl,?_⟩;simp only[RS,zlq];rw[yiq (by rw[h2,hn])];exact⟨by rw[h2,hn],he,h1⟩
   .cases h
  .cases h
theorem epq:∀{l:List V} {l':List W},m8q l=some l'->RSL Γ l' (jNq l)
 |[],_,h=>by simp only[m8q] at h;cases h;simp[RSL,jNq]
 |v::l,_,h=>by
  simp only[m8q] at h;split at h
  .rename_i w r hv hl;cases h;exact qeq (xpq hv).2 (epq hl)
  .cases h
theorem eoq{e:Nat}:∀{l:List V} {l':List W},m8q l=some l'->(∀x∈l',x.size=e) ->RSL Γ l' (z6q e l)
 |[],_,h,_=>by simp only[m8q] at h;cases h;simp[RSL,z6q]
 |v::l,_,h,he=>by
  simp only[m8q] at h;split at h
  .rename_i w r hv hl;cases h;have h1:=xpq (v:=v) hv;rw[z6q,yiq (by rw[yOq,h1.size];exact he w (ZS ..))];exact qeq h1.2 (eoq hl λx hx=>he x (ZP _ hx))
  .cases h
end
theorem RV_bool{b:Bool}{v:V}:RV Γ (.bool b) v↔v= .bool b:=⟨λh=>by have:=h.one rfl;simpa[RS] using this,λh=>by subst h;exact⟨rfl,by simp[RS,zlq]⟩⟩
theorem RV_int{k:IntKind}{n:Int}{v:V}:RV Γ (.int k n) v↔v= .int k n:=⟨λh=>by have:=h.one rfl;simpa[RS] using this,λh=>by subst h;exact⟨rfl,by simp[RS,zlq]⟩⟩
theorem RV_str{s:List UInt8}{v:V}:RV Γ (.str s) v↔v= .str s:=⟨λh=>by have:=h.one rfl;simpa[RS] using this,λh=>by subst h;exact⟨rfl,by simp[RS,zlq]⟩⟩
theorem kGq{v:V}:RV Γ .nilp v↔v= .nilp:=⟨λh=>by have:=h.one rfl;simpa[RS] using this,λh=>by subst h;exact⟨rfl,by simp[RS,zlq]⟩⟩
theorem RV_nils{v:V}:RV Γ .nils v↔v= .nils:=⟨λh=>by have:=h.one rfl;simpa[RS] using this,λh=>by subst h;exact⟨rfl,by simp[RS,zlq]⟩⟩
theorem RV_undef{v:V}:RV Γ .undef v↔v= .undef:=⟨λh=>by have:=h.one rfl;simpa[RS] using this,λh=>by subst h;exact⟨rfl,by simp[RS,zlq]⟩⟩
theorem RV_yield{l:Nat}{v:V}:RV Γ (.yield l) v↔v= .yield l:=⟨λh=>by have:=h.one rfl;simpa[RS] using this,λh=>by subst h;exact⟨rfl,by simp[RS,zlq]⟩⟩
theorem RV_ptr{b o:Nat}{v:V}:RV Γ (.ptr b o) v↔b<Γ.nw/\v= .ptr (Γ.σ b) o:=⟨λh=>by have:=h.one rfl;simpa[RS] using this,λh=>by obtain⟨h1,rfl⟩:=h;exact⟨rfl,by simp[RS,zlq,h1]⟩⟩
theorem RV_sl{b base off len esz:Nat}{lim:Option Nat}{v:V}:RV Γ (.sl b base off len esz lim) v↔b<Γ.nw/\v= .sl (Γ.σ b) base off len esz lim:=⟨λh=>by have:=h.one rfl;simpa[RS] using this,λh=>by obtain⟨h1,rfl⟩:=h;exact⟨rfl,by simp[RS,zlq,h1]⟩⟩
theorem RV_tup{l:List W}{v:V}:RV Γ (.tup l) v↔∃vs,v= .tup vs/\RVL Γ l vs:=⟨λh=>by have:=h.one rfl;simpa[RS] using this,λh=>by obtain⟨vs,rfl,h2⟩:=h;exact⟨rfl,by simp[RS,zlq];exact h2⟩⟩
theorem RV_fn{f:FuncId}{a c:List W}{v:V}:RV Γ (.fn f a c) v↔∃a' c',v= .fn f a' c'/\RVL Γ a a'/\RVL Γ c c':=⟨λh=>by have:=h.one rfl;simpa[RS] using this,λh=>by obtain⟨a',c',rfl,h2⟩:=h;exact⟨rfl,by simp[RS,zlq];exact⟨a',c',⟨rfl,rfl⟩,h2⟩⟩⟩
variable {C:Cfg}
mutual
theorem QZq:∀(f:Nat) {t:TypeId} {x y:W} {x' y':V} {r:Bool},eqW C f t x y=some r->RV Γ x x'->RV Γ y y'->eqV C f t x' y'=some r
 |0,_,_,_,_,_,_,h,_,_=>by simp[eqW] at h
 | f +1,t,x,y,x',y',r,h,hx,hy=>by
  simp only[eqW] at h;simp only[eqV];split at h
  .cases h
  .rename_i i hi;rw[hi];simp only;split at h
   .rename_i k hk;rw[hk];split at h
    .rename_i j a k b;rw[RV_int] at hx hy;subst hx;subst hy
     exact h
    .cases h
   .rename_i hk;rw[hk];split at h
    .rw[RV_bool] at hx hy;subst hx;subst hy
     exact h
    .cases h
   .rename_i hk;rw[hk];split at h
    .rw[RV_str] at hx hy;subst hx;subst hy
     exact h
    .cases h
   .rename_i hk;rw[hk];split at h
    .rw[kGq] at hx hy;subst hx;subst hy
     exact h
    .rw[kGq] at hx;rw[RV_ptr] at hy;obtain⟨_,rfl⟩:=hy;subst hx;exact h
    .rw[kGq] at hy;rw[RV_ptr] at hx;obtain⟨_,rfl⟩:=hx;subst hy;exact h
    .rw[kGq] at hx;obtain⟨_,_,_,rfl,_⟩:=kzq hy;subst hx;exact h
    .rw[kGq] at hy;obtain⟨_,_,_,rfl,_⟩:=kzq hx;subst hy;exact h
    .cases h
   .rename_i hk;rw[hk];split at h
    .rw[RV_nils] at hx hy;subst hx;subst hy
     exact h
    .rw[RV_nils] at hx;rw[RV_sl] at hy;obtain⟨_,rfl⟩:=hy;subst hx;exact h
    .rw[RV_nils] at hy;rw[RV_sl] at hx;obtain⟨_,rfl⟩:=hx;subst hy;exact h
    .rw[RV_nils] at hx;rcases kmq hy with ⟨h0,_⟩|⟨_,_,_,_,_,_,rfl,_⟩
     .cases h0
     subst hx;exact h
    .rw[RV_nils] at hy;rcases kmq hx with ⟨h0,_⟩|⟨_,_,_,_,_,_,rfl,_⟩
     .cases h0
     subst hy;exact h
    .cases h
   .rename_i fs hk;rw[hk];simp only;rw[<-hx.1,<-hy.1];split at h
    .rename_i ha;rw[ha];exact elq f h hx hy
    .cases h
   .rename_i n e hk;rw[hk];simp only;rw[<-hx.1,<-hy.1];split at h
    .rename_i j ha hj;rw[ha,hj];exact emq f h hx hy
    .cases h
   .cases h
theorem elq:∀(f:Nat) {fs:List (TypeId×Nat)} {x y:W} {x' y':V} {r:Bool},Zwq C f fs x y=some r->RV Γ x x'->RV Γ y y'->m4q C f fs x' y'=some r
 |0,_,_,_,_,_,_,h,_,_=>by simp[Zwq] at h
 |f+1,[],_,_,_,_,_,h,_,_=>by simp only[Zwq] at h;simp only[m4q];exact h
 |f+1,(t,off)::fs,x,y,x',y',r,h,hx,hy=>by
  simp only[Zwq] at h;simp only[m4q];split at h
  .cases h
  .rename_i i hi;rw[hi];simp only;split at h
   .rename_i a b ha hb;obtain⟨a',ha',hra,_⟩:=xFq hx ha;obtain⟨b',hb',hrb,_⟩:=xFq hy hb;rw[ha',hb'];simp only;split at h
    .rename_i he;rw[QZq f he hra hrb];exact elq f h hx hy
    .rename_i he;rw[QZq f he hra hrb];exact h
    .cases h
   .cases h
theorem emq:∀(f:Nat) {e:TypeId} {j:TyI} {n k:Nat} {x y:W} {x' y':V} {r:Bool},YRq C f e j n k x y=some r->RV Γ x x'->RV Γ y y'->m5q C f e j n k x' y'=some r
 |0,_,_,_,_,_,_,_,_,_,h,_,_=>by simp[YRq] at h
 |f+1,_,_,0,_,_,_,_,_,_,h,_,_=>by simp only[YRq] at h;simp only[m5q];exact h
 |f+1,e,j,n+1,k,x,y,x',y',r,h,hx,hy=>by
  simp only[YRq] at h;simp only[m5q];split at h
  .rename_i a b ha hb;obtain⟨a',ha',hra,_⟩:=xFq hx ha;obtain⟨b',hb',hrb,_⟩:=xFq hy hb;rw[ha',hb'];simp only;split at h
   .rename_i he;rw[QZq f he hra hrb];exact emq f h hx hy
   .rename_i he;rw[QZq f he hra hrb];exact h
   .cases h
  .cases h
end
theorem o1q{v:V}{w:W}(h:unV v=some w):RV Γ w v:=by
 unfold unV at h;split at h<;>cases h
 .exact RV_bool.2 rfl
 .exact RV_int.2 rfl
 .exact RV_str.2 rfl
theorem nvq{o:Option V}{w:W}(h:o.bind unV=some w):∃v,o=some v/\RV Γ w v:=by
 cases o with
 |none=>cases h
 |some v=>exact⟨v,rfl,o1q h⟩
theorem gYq{x y:W}{x' y':V}(h:veq x y=true)(hx:RV Γ x x')(hy:RV Γ y y'):uDq x' y'=true:=by
 unfold veq at h;split at h
 .rw[RV_bool] at hx hy;subst hx;subst hy;rfl
 .rw[kGq] at hx hy;subst hx;subst hy;rfl
 .rw[kGq] at hx;rw[RV_ptr] at hy;obtain⟨_,rfl⟩:=hy;subst hx;rfl
 .rw[kGq] at hy;rw[RV_ptr] at hx;obtain⟨_,rfl⟩:=hx;subst hy;rfl
 .rw[kGq] at hx;obtain⟨_,_,_,rfl,_⟩:=kzq hy;subst hx;rfl
 .rw[kGq] at hy;obtain⟨_,_,_,rfl,_⟩:=kzq hx;subst hy;rfl
 .rw[RV_nils] at hx hy;subst hx;subst hy;rfl
 .rw[RV_nils] at hx;rw[RV_sl] at hy;obtain⟨_,rfl⟩:=hy;subst hx;rfl
 .rw[RV_nils] at hy;rw[RV_sl] at hx;obtain⟨_,rfl⟩:=hx;subst hy;rfl
 .rw[RV_nils] at hx;subst hx;rcases kmq hy with ⟨_,rfl⟩|⟨_,_,_,_,_,_,rfl,_⟩<;>rfl
 .rw[RV_nils] at hy;subst hy;rcases kmq hx with ⟨_,rfl⟩|⟨_,_,_,_,_,_,rfl,_⟩<;>rfl
 .rw[hx.1,hy.1] at h;simp only[Zb] at h;obtain⟨h1,h2⟩:=h;cases x'<;>simp[V.isAgg] at h1<;>cases y'<;>simp[V.isAgg] at h2<;>rfl
theorem fyq{op:BinOp}{t:TypeId}{x' y':V}(h:uDq x' y'=true):joq C op t x' y'=match op with
      |.eql=>match eqV C 300 t x' y' with
       |some b=>some (.bool b)
       |none=>none
      |.neq=>match eqV C 300 t x' y' with
       |some b=>some (.bool (!b))
       |none=>none
      |_=>none:=by
 cases x'<;>cases y'<;>first|(simp[uDq,V.isAgg] at h;done)|(simp only[joq,h];cases op<;>rfl)
theorem siq{op:BinOp}{t:TypeId}{x y w:W}{x' y':V}(h:w1q C op t x y=some w)(hx:RV Γ x x')(hy:RV Γ y y'):∃v,joq C op t x' y'=some v/\RV Γ w v:=by
 unfold w1q at h;split at h
 .rw[RV_int] at hx hy;subst hx;subst hy
  simp only[joq];split at h
  .exact nvq h
  .exact nvq h
  .split at h
   .rename_i hk;obtain⟨v,h1,h2⟩:=nvq h;refine⟨v,?_,h2⟩;split
    .simp_all
    .simp_all
    .rw[hk];exact h1
   .cases h
 .rw[RV_str] at hx hy;subst hx;subst hy
  exact nvq h
 .split at h
  .cases h
  .rename_i hp;rw[fyq (gYq hp hx hy)];split at h
   .split at h
    .rename_i he;cases h;rw[QZq 300 he hx hy];exact⟨_,rfl,RV_bool.2 rfl⟩
    .cases h
   .split at h
    .rename_i he;cases h;rw[QZq 300 he hx hy];exact⟨_,rfl,RV_bool.2 rfl⟩
    .cases h
   .cases h
noncomputable def FRel(Γ:Ctx)(fr:FrW)(frv:Tr V):Prop:=∀t w,arq fr t=some w->∃v,frv.get t=some v/\RV Γ w v
noncomputable def GRel(C:Cfg)(G:Nat->Option W)(Γ:Ctx):Prop:=∀g w,C.glob g=true->G g=some w->∀nw σ,RV ⟨nw,σ,Γ.D,Γ.h⟩ (.fel w) (.ptr g 0)
variable {G:Nat->Option W} {fr:FrW} {frv:Tr V}
theorem zSq(hf:FRel Γ fr frv)(hg:GRel C G Γ){x:Operand}{w:W}(h:evW C G fr x=some w):∃v,evV C frv x=some v/\RV Γ w v:=by
 cases x with
 |tmp t=>exact hf t w h
 |const c=>
  simp only[evW,BXq] at h;split at h
  .rename_i v hv;exact⟨v,hv,xpq h⟩
  .cases h
 |global g=>
  simp only[evW] at h;split at h
  .rename_i w' h1 h2;cases h;exact⟨_,by simp only[evV,h1],hg g _ h1 h2 Γ.nw Γ.σ⟩
  .cases h
 |func f=>
  simp only[evW] at h;cases h;exact⟨_,rfl,RV_fn.2 ⟨[],[],rfl,by simp[RVL],by simp[RVL]⟩⟩
theorem xoq(hf:FRel Γ fr frv)(hg:GRel C G Γ):∀{l:List Operand} {ws:List W},ayq C G fr l=some ws->∃vs,evL C frv l=some vs/\RVL Γ ws vs
 |[],_,h=>by simp only[ayq] at h;cases h;exact⟨[],rfl,by simp[RVL]⟩
 |x::l,_,h=>by
  simp only[ayq] at h;split at h
  .rename_i v r hv hr;cases h;obtain⟨u,h1,h2⟩:=zSq hf hg hv;obtain⟨us,h3,h4⟩:=xoq hf hg hr;refine⟨u::us,by simp only[evL,h1,h3],?_⟩;simp only[RVL];exact⟨u,us,rfl,h2,h4⟩
  .cases h
theorem xkq{x:W}{v:V}{n:Nat}(hx:RV Γ x v)(h:ccq x=some n):n9q v=some n:=by
 unfold ccq at h;split at h
 .cases h;rw[RV_int] at hx;subst hx;rfl
 .cases h
theorem qKq(hf:FRel Γ fr frv)(hg:GRel C G Γ){d n:Nat}:∀{x:Option Operand},aCq C G fr d x=some n->axq C frv d x=some n
 |none,h=>h
 |some x,h=>by
  simp only[aCq] at h;split at h
  .rename_i w hw;obtain⟨v,h1,h2⟩:=zSq hf hg hw;simp only[axq,h1];exact xkq h2 h
  .cases h
theorem eiq(hf:FRel Γ fr frv)(hg:GRel C G Γ){t:TypeId}:∀{l:List (Nat×Operand)} {z w:W} {zv:V},RV Γ z zv->hYq C G fr t z l=some w->∃v,YNq C frv t zv l=some v/\RV Γ w v
 |[],_,_,zv,hz,h=>by simp only[hYq] at h;cases h;exact⟨zv,rfl,hz⟩
 | (i,x)::l,z,w,zv,hz,h=>by
  simp only[hYq] at h;split at h
  .rename_i off sz y hp hy;obtain⟨y',h1,h2⟩:=zSq hf hg hy;split at h
   .rename_i hs;split at h
    .rename_i z' hz';obtain⟨v',h3,h4,_⟩:=cyq hz h2 hz';obtain⟨v,h5,h6⟩:=eiq hf hg h4 h;refine⟨v,?_,h6⟩;simp only[YNq,hp,h1,h2.size,hs,h3];exact h5
    .cases h
   .cases h
  .cases h
end
end
section
variable {Γ:Ctx} {C:Cfg} {G:Nat->Option W} {fr:FrW} {frv:Tr V} (hf:FRel Γ fr frv) (hg:GRel C G Γ)
theorem iSq:∀{l:List W} {vs:List V} {i:Nat} {w:W},RVL Γ l vs->l[i]? =some w->∃v,vs[i]? =some v/\RV Γ w v
 |[],_,_,_,_,h=>by simp at h
 |x::l,_,0,_,hl,h=>by
  simp only[RVL] at hl;obtain⟨v,vs,rfl,h1,h2⟩:=hl;simp at h;subst h
  exact⟨v,rfl,h1⟩
 |x::l,_,i+1,_,hl,h=>by
  simp only[RVL] at hl;obtain⟨v,vs,rfl,h1,h2⟩:=hl;simp at h;obtain⟨u,h3,h4⟩:=iSq h2 h;exact⟨u,by simpa using h3,h4⟩
theorem ngq{xs:List W}{esz:Nat}{full:Bool}{l h:Nat}{w:W}{b base off:Nat}{lim:Option Nat}{bv:V}(hc:i8q xs esz full l h none=some w)(h1:full=true->lim=some xs.length)(h2:Γ.D b)(h3:Γ.h.val b=some bv)(h4:bv.isAgg=true)(h5:off+xs.length*esz<=bv.size)(h6:∀x∈xs,x.size=esz)
  (h7:RSL Γ xs (((zlq bv).drop off).take (xs.length*esz))):∃v,idq b base off xs.length esz lim l h none=some v/\RV Γ w v:=by
 simp only[i8q] at hc;simp only[idq];split at hc
 .rename_i hle;rw[hle];simp only[Zb] at hle;have l1:=Yb hle.1;have l2:=Yb hle.2;cases hc;refine⟨_,rfl,?_⟩;have hl:((xs.drop l).take (h-l)).length=h-l:=by simp;omega
  have hb:l*esz+(h-l)*esz<=xs.length*esz:=by
   rw[<-ZO];exact Z3 _ Xd
  have:=iTq (a:=l) (n:=h-l) h7 h6 Xd;rw[List.drop_take,Z8,YO,YH Xd] at this;have:=nIq (full:=full&&Nat.beq h xs.length) (base:=(match Nat.beq l 0 with|true=>base|false=>off)) (lim:=qNq l lim) (off:=off+l*esz) (λhfull=>?_) h2 h3 h4 (by rw[hl];omega) (λx hx=>h6 x (ZD (ZH hx))) (by rw[hl];exact this)
  .rw[hl] at this;exact this
  .simp only[Zb,ZE] at hfull;rw[h1 hfull.1,hl];simp only[qNq,<-hfull.2]
 .cases hc
theorem ieq{xs:List W}{esz:Nat}{full:Bool}{l h m:Nat}{w:W}{b base off:Nat}{lim:Option Nat}{bv:V}(hc:i8q xs esz full l h (some m)=some w)(h2:Γ.D b)(h3:Γ.h.val b=some bv)(h4:bv.isAgg=true)(h5:off+xs.length*esz<=bv.size)(h6:∀x∈xs,x.size=esz)
  (h7:RSL Γ xs (((zlq bv).drop off).take (xs.length*esz))):∃v,idq b base off xs.length esz lim l h (some m)=some v/\RV Γ w v:=by
 simp only[i8q] at hc;simp only[idq];split at hc
 .rename_i hle;rw[hle];simp only[Zb] at hle;have l1:=Yb hle.1.1.1;have l2:=Yb hle.1.1.2;have l3:=Yb hle.1.2;cases hc;refine⟨_,rfl,?_⟩;have hl:((xs.drop l).take (h-l)).length=h-l:=by simp;omega
  have hb:l*esz+(h-l)*esz<=xs.length*esz:=by
   rw[<-ZO];exact Z3 _ Xd
  have:=iTq (a:=l) (n:=h-l) h7 h6 Xd;rw[List.drop_take,Z8,YO,YH Xd] at this;have:=nIq (full:=Nat.beq h m) (base:=off) (lim:=some (m-l)) (off:=off+l*esz) (λhfull=>?_) h2 h3 h4 (by rw[hl];omega) (λx hx=>h6 x (ZD (ZH hx))) (by rw[hl];exact this)
  .rw[hl] at this;exact this
  .simp only[ZE] at hfull;rw[hl,hfull]
 .cases hc
theorem evq{b base off len esz:Nat}{lim:Option Nat}{l h:Nat}{mx:Option Nat}{w:W}(hb:b<Γ.nw)(hc:rXq b base off len esz lim l h mx=some w):∃v,idq (Γ.σ b) base off len esz lim l h mx=some v/\RV Γ w v:=by
 cases mx with
 |none=>
  simp only[rXq] at hc;simp only[idq];split at hc
  .rename_i hle;rw[hle];cases hc;exact⟨_,rfl,RV_sl.2 ⟨hb,rfl⟩⟩
  .cases hc
 |some m=>
  simp only[rXq] at hc;simp only[idq];split at hc
  .rename_i hle;rw[hle];cases hc;exact⟨_,rfl,RV_sl.2 ⟨hb,rfl⟩⟩
  .cases hc
include hf hg
theorem ePq{t:TypeId}{x:Operand}{lo hi mx:Option Operand}{w:W}(h:Z3q C G fr t x lo hi mx=some w):∃v,ykq C frv t x lo hi mx=some v/\RV Γ w v:=by
 unfold Z3q at h;unfold ykq;split at h
 .rename_i j u hj hu;obtain⟨v,h1,h2⟩:=zSq hf hg hu;rw[hj,h1];simp only;split at h
  .rename_i e b base off len esz lim hd;rw[hd];rw[RV_sl] at h2;obtain⟨hb,rfl⟩:=h2;simp only;split at h
   .rename_i k l r hk hl hr;rw[hk,qKq hf hg hl,qKq hf hg hr];simp only;split at h
    .rename_i hs;rw[hs];simp only;split at h
     .exact evq hb h
     .rename_i z;split at h
      .rename_i y m hm;simp only[qKq hf hg hm];exact evq hb h
      .cases h
    .cases h
   .cases h
  .rename_i e xs esz full hd;rw[hd];rcases kmq h2 with ⟨rfl,rfl⟩|⟨b,base,off,lim,bv,us,rfl,g1,g2,g3,g4,g5,g6,g7,_⟩
   .simp only;split at h
    .rename_i k l r hk hl hr;rw[hk,qKq hf hg hl];rw[YD] at hr;rw[qKq hf hg hr];split at h
     .split at h
      .simp only[i8q,YD] at h;split at h
       .rename_i hle;simp only[Zb] at hle;have l1:=Yb hle.1;have l2:=Yb hle.2;obtain rfl:r=0:=by omega
        obtain rfl:l=0:=by omega
        cases h;exact⟨_,rfl,RV.of_one (by simp[RS]) Y Y⟩
       .cases h
      .split at h
       .simp only[i8q,YD] at h;split at h
        .rename_i hle;simp only[Zb] at hle;have l1:=Yb hle.1.2;have l2:=Yb hle.2;omega
        .cases h
       .cases h
     .cases h
    .cases h
   .simp only;split at h
    .rename_i k l r hk hl hr;rw[hk,qKq hf hg hl,qKq hf hg hr];simp only;split at h
     .rename_i hs;rw[hs];simp only;split at h
      .exact ngq h g1 g2 g3 g4 g5 g6 g7
      .rename_i z;split at h
       .rename_i y m hm;simp only[qKq hf hg hm];exact ieq h g2 g3 g4 g5 g6 g7
       .cases h
     .cases h
    .cases h
  .rename_i e hd;rw[hd];rw[RV_nils] at h2;subst h2;simp only;split at h
   .rename_i k hk hl hr;cases h;rw[hk,qKq hf hg hl,qKq hf hg hr];exact⟨_,rfl,RV_nils.2 rfl⟩
   .cases h
  .rename_i s hd;rw[hd];rw[RV_str] at h2;subst h2;simp only;split at h
   .rename_i l r hl hr;rw[qKq hf hg hl,qKq hf hg hr];simp only;split at h
    .rename_i hle;rw[hle];cases h;exact⟨_,rfl,RV_str.2 rfl⟩
    .cases h
   .cases h
  .cases h
 .cases h
theorem Qiq{t:TypeId}{x y:Operand}{w:W}(h:jjq C G fr t x y=some w):∃v,zzq C frv t x y=some v/\RV Γ w v:=by
 unfold jjq at h;unfold zzq;split at h
 .rename_i j u k hj hu hk;obtain⟨u',h1,h2⟩:=zSq hf hg hu;obtain⟨k',h3,h4⟩:=zSq hf hg hk;rw[hj,h1,h3];simp only;split at h
  .rename_i i n e b off hi hd;rw[xkq h4 hi,hd];rw[RV_ptr] at h2;obtain⟨hb,rfl⟩:=h2;simp only;split at h
   .rename_i k0 hk0 hlt;cases h;rw[hk0,hlt];exact⟨_,rfl,RV_ptr.2 ⟨hb,rfl⟩⟩
   .cases h
  .rename_i i n e z hi hd;rw[xkq h4 hi,hd];obtain⟨b,off,bv,rfl,g1,g2,g3,g4,g5,g6⟩:=kzq h2;simp only;split at h
   .rename_i k0 hk0 hlt;rw[hk0,hlt];split at h
    .cases h
    .split at h
     .rename_i r hr;cases h;exact⟨_,rfl,(ejq hr g1 g2 g3 g4 g5 g6).1⟩
     .cases h
   .cases h
  .rename_i i e b base off len esz lim hi hd;rw[xkq h4 hi,hd];rw[RV_sl] at h2;obtain⟨hb,rfl⟩:=h2;simp only;split at h
   .rename_i k0 hk0 hlt;split at h
    .rename_i hs;cases h;rw[hk0,hlt];simp only[hs];exact⟨_,rfl,RV_ptr.2 ⟨hb,rfl⟩⟩
    .cases h
   .cases h
  .rename_i i e l esz full hi hd;rw[xkq h4 hi,hd];split at h
   .rename_i k0 r hk0 hr;split at h
    .rename_i hs;cases h;rcases kmq h2 with ⟨rfl,_⟩|⟨b,base,off,lim,bv,us,rfl,g1,g2,g3,g4,g5,g6,g7,_⟩
     .simp at hr
     .have hlt:i<l.length:=(Zq.1 hr).1;have hble:Nat.blt i l.length=true:=by simpa[YQ] using hlt
      simp only;rw[hk0,hble];simp only[hs];refine⟨_,rfl,?_⟩;obtain⟨k1,k2⟩:=iWq g7 g6 hr;have hrs:=g6 r (Zf hr);rw[Zu] at k2
      have hb:i*esz+esz<=l.length*esz:=by
       have:=Z3 esz (show i+1<=l.length from hlt);rw[ZO] at this;omega
      refine oOq g2 g3 Xd (λ_=>g4) (.inr g4) ?_;rw[hrs];rw[List.drop_take,Z8,YO,YH Xd] at k1;exact k1
    .cases h
   .cases h
  .cases h
 .cases h
theorem Qjq{t:TypeId}{x:Operand}{i:Nat}{w:W}(h:vNq C G fr t x i=some w):∃v,zAq C frv t x i=some v/\RV Γ w v:=by
 unfold vNq at h;unfold zAq;split at h
 .rename_i ft fo b off hs hx;obtain⟨u,h1,h2⟩:=zSq hf hg hx;rw[RV_ptr] at h2;obtain⟨hb,rfl⟩:=h2;rw[hs,h1];simp only;split at h
  .rename_i k hk;rw[hk];simp only;split at h
   .cases h
   .rename_i hz;cases h;rw[hz];exact⟨_,rfl,RV_ptr.2 ⟨hb,rfl⟩⟩
  .cases h
 .rename_i ft fo y hs hx;obtain⟨u,h1,h2⟩:=zSq hf hg hx;obtain⟨b,off,bv,rfl,g1,g2,g3,g4,g5,g6⟩:=kzq h2;rw[hs,h1];simp only;split at h
  .rename_i k hk;rw[hk];simp only;split at h
   .cases h
   .rename_i hz;rw[hz];split at h
    .rename_i z hz;cases h;exact⟨_,rfl,(ejq hz g1 g2 g3 g4 g5 g6).1⟩
    .cases h
  .cases h
 .cases h
theorem eQq{t:TypeId}{x y:Operand}{w:W}(h:dtq C G fr t x y=some w):∃v,ytq C frv t x y=some v/\RV Γ w v:=by
 unfold dtq at h;unfold ytq;split at h
 .rename_i j u k hj hu hk;obtain⟨u',h1,h2⟩:=zSq hf hg hu;obtain⟨k',h3,h4⟩:=zSq hf hg hk;rw[hj,h1,h3];simp only;split at h
  .rename_i i s hi hd;rw[RV_str] at h2;subst h2;rw[xkq h4 hi,hd];simp only;split at h
   .rename_i c hc;cases h;rw[hc];exact⟨_,rfl,RV_int.2 rfl⟩
   .cases h
  .rename_i i n e hi hd;rw[xkq h4 hi,hd];simp only;split at h
   .rename_i k0 hk0 hlt ha;rw[hk0,hlt,<-h2.1,ha];obtain⟨v,g1,g2,_⟩:=xFq h2 h;exact⟨v,g1,g2⟩
   .cases h
  .cases h
 .cases h
theorem eRq{t:TypeId}{x:Operand}{i:Nat}{w:W}(h:fLq C G fr t x i=some w):∃v,yuq C frv t x i=some v/\RV Γ w v:=by
 unfold fLq at h;unfold yuq;split at h
 .rename_i ft off u hs hx;obtain⟨u',h1,h2⟩:=zSq hf hg hx;rw[hs,h1];simp only;split at h
  .rename_i k hk ha;rw[hk,<-h2.1,ha];obtain⟨v,g1,g2,_⟩:=xFq h2 h;exact⟨v,g1,g2⟩
  .cases h
 .cases h
theorem lXq{rt:TypeId}{o:Op}{w:W}(h:yJq C G fr o=some w):∃v,ygq C frv rt o=some v/\RV Γ w v:=by
 unfold yJq at h;split at h
 .exact zSq hf hg h
 .exact zSq hf hg h
 .unfold sXq at h;simp only[ygq,y1q];split at h
  .rename_i hc;obtain⟨u,h1,h2⟩:=zSq hf hg hc;rw[RV_bool] at h2;subst h2
   rw[h1];exact zSq hf hg h
  .rename_i hc;obtain⟨u,h1,h2⟩:=zSq hf hg hc;rw[RV_bool] at h2;subst h2
   rw[h1];exact zSq hf hg h
  .cases h
 .unfold duq at h;simp only[ygq,zWq];split at h
  .rename_i hc;obtain⟨u,h1,h2⟩:=zSq hf hg hc;rw[RV_tup] at h2;obtain⟨vs,rfl,h2⟩:=h2;rw[h1];exact iSq h2 h
  .cases h
 .unfold BKq at h;simp only[ygq,zLq];split at h
  .rename_i hc;cases h;obtain⟨u,h1,h2⟩:=zSq hf hg hc;obtain⟨_,rfl⟩:=RV_ptr.1 h2;rw[h1];exact⟨_,rfl,h2⟩
  .rename_i hc;cases h;obtain⟨u,h1,h2⟩:=zSq hf hg hc;obtain⟨_,rfl⟩:=RV_sl.1 h2;rw[h1];exact⟨_,rfl,h2⟩
  .rename_i hc;cases h;obtain⟨u,h1,h2⟩:=zSq hf hg hc;obtain⟨_,_,_,rfl,_⟩:=kzq h2;rw[h1];exact⟨_,rfl,h2⟩
  .rename_i hc;cases h;obtain⟨u,h1,h2⟩:=zSq hf hg hc;rcases kmq h2 with ⟨h0,_⟩|⟨_,_,_,_,_,_,rfl,_⟩
   .cases h0
   rw[h1];exact⟨_,rfl,h2⟩
  .rename_i hc;cases h;obtain⟨u,h1,h2⟩:=zSq hf hg hc;obtain⟨_,_,rfl,_⟩:=RV_fn.1 h2;rw[h1];exact⟨_,rfl,h2⟩
  .rename_i hc;cases h;obtain⟨u,h1,h2⟩:=zSq hf hg hc;have:=RV_yield.1 h2;subst this;rw[h1];exact⟨_,rfl,h2⟩
  .cases h
 .unfold BJq at h;simp only[ygq,zUq];split at h
  .rename_i hc;cases h;obtain⟨u,h1,h2⟩:=zSq hf hg hc;rw[RV_bool] at h2;subst h2
   rw[h1];exact⟨_,rfl,RV_bool.2 rfl⟩
  .cases h
 .unfold BLq at h;simp only[ygq,zVq];split at h
  .rename_i hc;cases h;obtain⟨u,h1,h2⟩:=zSq hf hg hc;rw[RV_int] at h2;subst h2
   rw[h1];exact⟨_,rfl,RV_int.2 rfl⟩
  .cases h
 .unfold BIq at h;simp only[ygq,zTq];split at h
  .rename_i hc;obtain⟨u,h1,h2⟩:=zSq hf hg hc;rw[RV_int] at h2;subst h2
   rw[h1];split at h
   .rename_i hn;cases h;simp only[hn];exact⟨_,rfl,RV_int.2 rfl⟩
   .cases h
  .cases h
 .unfold zJq at h;simp only[ygq,ymq];split at h
  .rename_i hx hy;obtain⟨u,h1,h2⟩:=zSq hf hg hx;obtain⟨u',h3,h4⟩:=zSq hf hg hy;obtain⟨r,q1,q2⟩:=siq h h2 h4;exact⟨r,by simp only[h1,h3,q1],q2⟩
  .cases h
 .unfold sZq at h;simp only[ygq,zQq];split at h
  .rename_i i j u hi hj hx;obtain⟨u',h1,h2⟩:=zSq hf hg hx;rw[hi,hj,h1];simp only;split at h
   .rename_i hd;cases h;rw[RV_int] at h2;subst h2
    rw[hd];exact⟨_,rfl,RV_int.2 rfl⟩
   .rename_i hd;cases h;rw[RV_str] at h2;subst h2
    rw[hd];exact⟨_,rfl,RV_str.2 rfl⟩
   .cases h
  .cases h
 .unfold sYq at h;simp only[ygq,zHq];split at h
  .rename_i hx hy;obtain⟨us,h1,h2⟩:=xoq hf hg hx;obtain⟨us',h3,h4⟩:=xoq hf hg hy;cases h;rw[h1,h3];exact⟨_,rfl,RV_fn.2 ⟨_,_,rfl,h2,h4⟩⟩
  .cases h
 .unfold nMq at h;simp only[ygq,yvq];split at h
  .rename_i j hj;rw[hj];simp only;split at h
   .rename_i z ha hz;rw[ha];exact eiq hf hg (xpq hz) h
   .cases h
  .cases h
 .exact eRq hf hg h
 .exact Qjq hf hg h
 .exact Qiq hf hg h
 .exact eQq hf hg h
 .exact ePq hf hg h
 .unfold BMq at h;simp only[ygq,zmq];split at h
  .rename_i j u hj hx;obtain⟨u',h1,h2⟩:=zSq hf hg hx;rw[hj,h1];simp only;split at h
   .cases h
   .rename_i hd;cases h;refine⟨.iface _ u',?_,RV.of_one (by simp only[RS];exact⟨u',rfl,h2.1,h2.2⟩) Y Y⟩;split
    .rename_i hd';exact absurd hd' hd
    .rfl
  .cases h
 .unfold fMq at h;simp only[ygq,yaq];split at h
  .rename_i j u hj hx;obtain⟨u',h1,h2⟩:=zSq hf hg hx;rw[hj,h1];simp only;split at h
   .cases h
   .rename_i hd;split at h
    .have h3:=h2.one rfl;simp only[RS,YM,and_true] at h3;subst h3;split at h
     .rename_i z hz;cases h;exact⟨_,(by split;(rename_i q;exact absurd q hd);rfl),RV_tup.2 ⟨_,rfl,by simp only[RVL];exact⟨_,_,rfl,xpq hz,_,_,rfl,⟨rfl,by simp[RS,zlq]⟩,rfl⟩⟩⟩
     .cases h
    .have h3:=h2.one rfl;simp only[RS,YM,and_true] at h3;obtain⟨w,rfl,h4⟩:=h3;split at h
     .rename_i hb;cases h;exact⟨_,Qd,RV_tup.2 ⟨_,rfl,by simp only[RVL];exact⟨_,_,rfl,h4,_,_,rfl,⟨rfl,by simp[RS,zlq]⟩,rfl⟩⟩⟩
     .rename_i hb;split at h
      .rename_i z hz;cases h;exact⟨_,Qd,RV_tup.2 ⟨_,rfl,by simp only[RVL];exact⟨_,_,rfl,xpq hz,_,_,rfl,⟨rfl,by simp[RS,zlq]⟩,rfl⟩⟩⟩
      .cases h
    .have h3:=h2.one rfl;simp only[RS,YM,and_true] at h3;obtain⟨w,rfl,h4⟩:=h3;split at h
     .rename_i hb;cases h;exact⟨_,Qd,h4⟩
     .cases h
    .cases h
  .cases h
 .unfold BPq at h;simp only[ygq,jaq];split at h
  .rename_i t x ht hxs;rw[ht,hxs];simp only;split at h
   .rename_i j u hj hx;obtain⟨u',h1,h2⟩:=zSq hf hg hx;rw[hj,h1];simp only;split at h
    .rename_i hd;cases h;rw[RV_str] at h2;subst h2
     rw[hd];exact⟨_,rfl,RV_int.2 rfl⟩
    .rename_i hd;cases h;obtain⟨_,rfl⟩:=RV_sl.1 h2;rw[hd];exact⟨_,rfl,RV_int.2 rfl⟩
    .rename_i hd;cases h;rw[hd];rcases kmq h2 with ⟨rfl,rfl⟩|⟨_,_,_,_,_,_,rfl,_⟩
     .exact⟨_,rfl,RV_int.2 rfl⟩
     .exact⟨_,rfl,RV_int.2 rfl⟩
    .rename_i hd;cases h;rw[RV_nils] at h2;subst h2
     rw[hd];exact⟨_,rfl,RV_int.2 rfl⟩
    .rename_i hd;cases h;rw[hd];exact⟨_,rfl,RV_int.2 rfl⟩
    .cases h
   .cases h
  .cases h
 .unfold BNq at h;simp only[ygq,q8q];split at h
  .rename_i x y hxs;rw[hxs];simp only;split at h
   .rename_i hx hy;obtain⟨u,h1,h2⟩:=zSq hf hg hx;obtain⟨u',h3,h4⟩:=zSq hf hg hy;rw[RV_int] at h2 h4;subst h2;subst h4
    rw[h1,h3];cases h;exact⟨_,rfl,RV_int.2 rfl⟩
   .cases h
  .cases h
 .unfold BOq at h;simp only[ygq,q9q];split at h
  .rename_i x y hxs;rw[hxs];simp only;split at h
   .rename_i hx hy;obtain⟨u,h1,h2⟩:=zSq hf hg hx;obtain⟨u',h3,h4⟩:=zSq hf hg hy;rw[RV_int] at h2 h4;subst h2;subst h4
    rw[h1,h3];cases h;exact⟨_,rfl,RV_int.2 rfl⟩
   .cases h
  .cases h
 .cases h
end
structure Res where
 p:Heap->(Nat->Prop) ->(Nat->Prop) ->Prop
 st:∀h h' D D' X,p h D X->(∀c,D c->D' c) ->(∀c,D c->h'.val c=h.val c) ->(∀c,X c->h'.get c=h.get c) ->h.next<=h'.next->p h' D' X
noncomputable def Res.none:Res:=⟨λ_ _ _=>True,λ_ _ _ _ _ _ _ _ _ _=>trivial⟩
noncomputable def amq(Γ:Ctx)(hp:HpW)(c:Nat):Prop:=∃b x,hget hp b=some x/\Γ.σ b=c
structure SatH(C:Cfg)(G:Nat->Option W)(Γ:Ctx)(hp:HpW)(X:Nat->Prop)(R:Res):Prop where
 wf:∀i,Γ.h.next<=i->Γ.h.get i=none
 own:∀b ty w,hget hp b=some (ty,w) ->b<Γ.nw/\¬Γ.D (Γ.σ b)/\¬X (Γ.σ b)/\∃v,Γ.h.get (Γ.σ b)=some (.cells ty v)/\RV Γ w v
 inj:∀b b' x y,hget hp b=some x->hget hp b'=some y->Γ.σ b=Γ.σ b'->b=b'
 nd:(hp.map (·.1)).Nodup
 dX:∀c,Γ.D c->¬X c
 xlt:∀c,X c->c<Γ.h.next
 dlt:∀c,Γ.D c->c<Γ.h.next
 res:R.p Γ.h Γ.D X
 gl:GRel C G Γ
structure Frm(m:Nat)(Γ:Ctx)(hp:HpW)(X:Nat->Prop)(Γ':Ctx)(hp':HpW)(X':Nat->Prop):Prop where
 sig:∀b,b<m->Γ'.σ b=Γ.σ b
 mle:m<=Γ.nw->m<=Γ'.nw
 next:Γ.h.next<=Γ'.h.next
 keep:∀c,c<Γ.h.next->¬amq Γ hp c->¬X c->Γ'.h.get c=Γ.h.get c
 dsub:∀c,Γ.D c->Γ'.D c
 dnew:∀c,Γ'.D c->Γ.D c\/(amq Γ hp c\/X c)\/Γ.h.next<=c
 oext:∀b x,b<m->hget hp' b=some x->∃y,hget hp b=some y
 onum:∀b x,m<=b->hget hp' b=some x->Γ.h.next<=Γ'.σ b\/∃k y,m<=k/\hget hp k=some y/\Γ.σ k=Γ'.σ b
 xnew:∀c,X' c->X c\/Γ.h.next<=c
 wmin:∀S:Nat->Prop,S Γ.h.wmin->(∀c,Γ.h.next<=c->S c) ->(∀c,amq Γ hp c\/X c->S c) ->S Γ'.h.wmin
section
variable {m:Nat} {Γ Γ' Γ'':Ctx} {hp hp' hp'':HpW} {X X' X'':Nat->Prop}
theorem Frm.onew(a:Frm m Γ hp X Γ' hp' X')(c:Nat)(h:amq Γ' hp' c):amq Γ hp c\/Γ.h.next<=c:=by
 obtain⟨b,x,h1,rfl⟩:=h;rcases ZM b m with hb|hb
 .obtain⟨y,hy⟩:=a.oext b x hb h1;exact .inl ⟨b,y,hy,(a.sig b hb).symm⟩
 .rcases a.onum b x hb h1 with h|⟨k,y,_,h2,h3⟩
  .exact .inr h
  .exact .inl ⟨k,y,h2,h3⟩
theorem Frm.refl(m:Nat)(Γ:Ctx)(hp:HpW)(X:Nat->Prop):Frm m Γ hp X Γ hp X:=
 ⟨λ_ _=>rfl,λh=>h,Zc _,λ_ _ _ _=>rfl,λ_ h=>h,λ_ h=>.inl h,λ_ x _ h=>⟨x,h⟩,λb x hb h=>.inr ⟨b,x,hb,h,rfl⟩,λ_ h=>.inl h,λ_ h _ _=>h⟩
theorem Frm.trans(a:Frm m Γ hp X Γ' hp' X')(b:Frm m Γ' hp' X' Γ'' hp'' X''):Frm m Γ hp X Γ'' hp'' X'':=by
 refine⟨λi hi=>(b.sig i hi).trans (a.sig i hi),λh=>b.mle (a.mle h),Zs a.next b.next,λc h1 h2 h3=>?_,λc h=>b.dsub c (a.dsub c h),λc h=>?_,λi x hi h=>?_,λi x hi h=>?_,λc h=>?_,λS h1 h2 h3=>?_⟩
 .rw[b.keep c (Zw h1 a.next) (λho=>?_) (λhx=>?_)]
  .exact a.keep c h1 h2 h3
  .rcases a.onew c ho with h|h
   .exact h2 h
   .omega
  .rcases a.xnew c hx with h|h
   .exact h3 h
   .omega
 .rcases b.dnew c h with h|(h|h)|h
  .exact a.dnew c h
  .rcases a.onew c h with h|h
   .exact .inr (.inl (.inl h))
   .exact .inr (.inr h)
  .rcases a.xnew c h with h|h
   .exact .inr (.inl (.inr h))
   .exact .inr (.inr h)
  .exact .inr (.inr (Zs a.next h))
 .obtain⟨y,hy⟩:=b.oext i x hi h;exact a.oext i y hi hy
 .rcases b.onum i x hi h with h|⟨k,y,h1,h2,h3⟩
  .exact .inl (Zs a.next h)
  .rcases a.onum k y h1 h2 with h|⟨j,z,h4,h5,h6⟩
   .exact .inl (by rw[<-h3];exact h)
   .exact .inr ⟨j,z,h4,h5,h6.trans h3⟩
 .rcases b.xnew c h with h|h
  .exact a.xnew c h
  .exact .inr (Zs a.next h)
 .refine b.wmin S (a.wmin S h1 h2 h3) (λc hc=>h2 c (Zs a.next hc)) λc hc=>?_
  rcases hc with hc|hc
  .rcases a.onew c hc with h|h
   .exact h3 c (.inl h)
   .exact h2 c h
  .rcases a.xnew c hc with h|h
   .exact h3 c (.inr h)
   .exact h2 c h
theorem Frm.le{m':Nat}(a:Frm m Γ hp X Γ' hp' X')(h':m'<=m)(hm:m<=Γ.nw):Frm m' Γ hp X Γ' hp' X':=
 ⟨λi hi=>a.sig i (Zw hi h'),λ_=>Zs h' (a.mle hm),a.next,a.keep,a.dsub,a.dnew,λb x hb h=>a.oext b x (Zw hb h') h,λb x hb h=>by
  rcases ZM b m with hlt|hge
  .obtain⟨y,hy⟩:=a.oext b x hlt h;exact .inr ⟨b,y,hb,hy,(a.sig b hlt).symm⟩
  .rcases a.onum b x hge h with h|⟨k,y,h1,h2,h3⟩
   .exact .inl h
   .exact .inr ⟨k,y,Zs h' h1,h2,h3⟩,a.xnew,a.wmin⟩
theorem zeq{k b:Nat}{x:TypeId×W}{hp:HpW}:hget ((k,x)::hp) b=if k=b then some x else hget hp b:=by
 simp only[hget];by_cases h:k=b
 .subst h;simp
 .rw[Zg h]
  have:Nat.beq k b=false:=by
   cases hb:Nat.beq k b with
   |true=>exact absurd (Zh hb) h
   |false=>rfl
  rw[this]
theorem JYq{b:Nat}{x:TypeId×W}:∀{hp:HpW},hget hp b=some x->b∈hp.map (·.1)
 |[],h=>by simp[hget] at h
 |(k,y)::hp,h=>by
  rw[zeq] at h;split at h
  .rename_i e;subst e;simp
  .simp only[ZC,ZF];exact .inr (JYq h)
theorem kUq{b k:Nat}{x y:TypeId×W}:∀{hp:HpW},hget hp b=some y->hget (anq hp b x) k=if b=k then some x else hget hp k
 |[],h=>by simp[hget] at h
 | (j,z)::hp,h=>by
  rw[zeq] at h;simp only[anq];by_cases e:j=b
  .subst e;simp only[show Nat.beq j j=true from by simp];rw[zeq,zeq];split<;>rfl
  .rw[Zg e] at h
   have:Nat.beq j b=false:=by
    cases hb:Nat.beq j b with
    |true=>exact absurd (Zh hb) e
    |false=>rfl
   simp only[this];rw[zeq,zeq,kUq h];by_cases e2:j=k
   .rw[Zt e2,Zt e2,Zg (λe3=>e (e2.trans e3.symm))]
   .rw[Zg e2,Zg e2]
theorem vnq{b:Nat}{x:TypeId×W}:∀{hp:HpW},(anq hp b x).map (·.1)=hp.map (·.1)
 |[]=>rfl
 |(j,z)::hp=>by
  simp only[anq];split
  .rfl
  .simp only[ZC,vnq]
theorem Yzq{b k:Nat}:∀{hp:HpW},(hp.map (·.1)).Nodup->hget (awq hp b) k=if b=k then none else hget hp k
 |[],_=>by simp[awq,hget]
 | (j,z)::hp,h=>by
  simp only[ZC,Y0] at h;simp only[awq];by_cases e:j=b
  .subst e;simp only[show Nat.beq j j=true from by simp];rw[zeq];by_cases e2:j=k
   .rw[Zt e2];cases hg:hget hp k with
    |none=>rfl
    |some x=>exact absurd (JYq hg) (by rw[<-e2];exact h.1)
   .rw[Zg e2,Zg e2]
  .have:Nat.beq j b=false:=by
    cases hb:Nat.beq j b with
    |true=>exact absurd (Zh hb) e
    |false=>rfl
   simp only[this];rw[zeq,zeq,Yzq h.2];by_cases e2:j=k
   .rw[Zt e2,Zt e2,Zg (λe3=>e (e2.trans e3.symm))]
   .rw[Zg e2,Zg e2]
theorem hdel_sub{b:Nat}:∀{hp:HpW},((awq hp b).map (·.1)).Sublist (hp.map (·.1))
 |[]=>List.Sublist.refl _
 |(j,z)::hp=>by
  simp only[awq];split
  .exact List.sublist_cons_self _ _
  .exact hdel_sub.cons_cons _
variable {C:Cfg} {G:Nat->Option W} {R:Res}
theorem GRel.mono(g:GRel C G Γ)(le:Γ.Le Γ'):GRel C G Γ':=λi w h1 h2 nw σ=>RV.mono (Γ:=⟨nw,σ,Γ.D,Γ.h⟩) (Γ':=⟨nw,σ,Γ'.D,Γ'.h⟩) ⟨Zc _,λ_ _=>rfl,le.D,le.val⟩ (g i w h1 h2 nw σ)
theorem FRel.mono{fr:FrW}{frv:Tr V}(g:FRel Γ fr frv)(le:Γ.Le Γ'):FRel Γ' fr frv:=λt w h=>by
 obtain⟨v,h1,h2⟩:=g t w h;exact⟨v,h1,h2.mono le⟩
theorem x8q{h:Heap}{b:Nat}{ty:TypeId}{v:V}(hg:h.get b=some (.cells ty v)):h.val b=some v:=by simp only[Heap.val,hg]
theorem yRq{h h':Heap}{b:Nat}(hg:h'.get b=h.get b):h'.val b=h.val b:=by simp only[Heap.val,hg]
noncomputable def Ctx.push(Γ:Ctx)(B:Blk):Ctx:=⟨Γ.nw+1,λi=>if i=Γ.nw then Γ.h.next else Γ.σ i,Γ.D,Γ.h.push B⟩
theorem Ylq(s:SatH C G Γ hp X R)(B:Blk):Γ.Le (Γ.push B):=
 ⟨YK _,λb hb=>by simp only[Ctx.push];rw[Zg Xd],λ_ h=>h,λb hb=>yRq (by
  have:=s.dlt b hb;simp only[Ctx.push,Heap.get_push];rw[Zg Xd])⟩
theorem vcq(s:SatH C G Γ hp X R){ty:TypeId}{w:W}{v:V}(hv:RV Γ w v):SatH C G (Γ.push (.cells ty v)) ((Γ.nw,ty,w)::hp) X R/\Frm Γ.nw Γ hp X (Γ.push (.cells ty v)) ((Γ.nw,ty,w)::hp) X:=by
 have le:=Ylq s (.cells ty v);have hlt:∀{b x},hget hp b=some x->b<Γ.nw:=λh=>(s.own _ _ _ h).1
 have hσ:∀{b x},hget hp b=some x->(Γ.push (.cells ty v)).σ b=Γ.σ b:=λh=>le.σ _ (hlt h)
 have hon:∀{b x},hget hp b=some x->Γ.σ b<Γ.h.next:=λ{b x} h=>by
  obtain⟨_,_,_,u,h1,_⟩:=s.own b x.1 x.2 h;rcases ZM (Γ.σ b) Γ.h.next with h|h
  .exact h
  .rw[s.wf _ h] at h1;cases h1
 constructor
 .refine⟨λi hi=>?_,λb ty' w' hb=>?_,λb b' x y hx hy he=>?_,?_,s.dX,λc hc=>Nat.lt_succ_of_lt (s.xlt c hc),λc hc=>Nat.lt_succ_of_lt (s.dlt c hc),?_,s.gl.mono le⟩
  .have hi:Γ.h.next+1<=i:=hi;simp only[Ctx.push,Heap.get_push];rw[Zg Xd];exact s.wf i Xd
  .rw[zeq] at hb;split at hb
   .rename_i e;cases hb;subst e;have e1:(Γ.push (.cells ty v)).σ Γ.nw=Γ.h.next:=by simp[Ctx.push]
    rw[e1];refine⟨YE _,λhd=>Nat.lt_irrefl _ (s.dlt _ hd),λhx=>Nat.lt_irrefl _ (s.xlt _ hx),v,?_,hv.mono le⟩;simp only[Ctx.push,Heap.get_push,if_true]
   .obtain⟨h1,h2,h3,u,h4,h5⟩:=s.own b ty' w' hb;rw[hσ hb];refine⟨Nat.lt_succ_of_lt h1,h2,h3,u,?_,h5.mono le⟩;have:=hon hb;simp only[Ctx.push,Heap.get_push];rw[Zg Xd];exact h4
  .rw[zeq] at hx hy;split at hx<;>split at hy
   .rename_i e1 e2;exact e1.symm.trans e2
   .rename_i e1 e2;subst e1;rw[hσ hy] at he;have:=hon hy;simp[Ctx.push] at he;omega
   .rename_i e1 e2;subst e2;rw[hσ hx] at he;have:=hon hx;simp[Ctx.push] at he;omega
   .rw[hσ hx,hσ hy] at he;exact s.inj b b' x y hx hy he
  .simp only[ZC,Y0];refine⟨λhm=>?_,s.nd⟩
   have key:∀{l:HpW},Γ.nw∈l.map (·.1) ->∃x,hget l Γ.nw=some x:=λ{l}=>by
    induction l with
    |nil=>intro h;simp at h
    |cons p l ih=>
     intro h;obtain⟨k,y⟩:=p;rw[zeq];split
     .exact⟨_,rfl⟩
     .rename_i hne;simp only[ZC,ZF] at h;rcases h with h|h
      .exact absurd h.symm hne
      .exact ih h
   obtain⟨x,hx⟩:=key hm;exact Nat.lt_irrefl _ (hlt hx)
  .exact R.st _ _ _ _ _ s.res le.D le.val (λc hc=>by
    have:=s.xlt c hc;simp only[Ctx.push,Heap.get_push];rw[Zg Xd]) (YK _)
 .refine⟨λb hb=>le.σ b hb,λ_=>YK _,YK _,λc h1 _ _=>?_,λ_ h=>h,λ_ h=>.inl h,λb x hb h=>?_,λb x hb h=>?_,λ_ h=>.inl h,λk h _ _=>h⟩
  .simp only[Ctx.push,Heap.get_push];rw[Zg Xd]
  .rw[zeq,Zg Xd] at h;exact⟨x,h⟩
  .rw[zeq] at h;split at h
   .rename_i e;subst e;exact .inl (by simp[Ctx.push])
   .have:=hlt h;omega
noncomputable def Ctx.put(Γ:Ctx)(b:Nat)(B:Blk):Ctx:={Γ with h:=Γ.h.put (Γ.σ b) B}
theorem fKq{S:Nat->Prop}{a i:Nat}(h1:S a)(h2:S i):S (wmn a i):=by
 unfold wmn;split<;>assumption
theorem blq(s:SatH C G Γ hp X R){b:Nat}{x:TypeId×W}(hb:hget hp b=some x)(B:Blk):Γ.Le (Γ.put b B):=
 ⟨Zc _,λ_ _=>rfl,λ_ h=>h,λc hc=>yRq (by
  simp only[Ctx.put,Heap.get_put];rw[Zg λe:c=Γ.σ b=>by subst e;exact(s.own b x.1 x.2 hb).2.1 hc])⟩
theorem Jzq(s:SatH C G Γ hp X R){b:Nat}{x:TypeId×W}{ty:TypeId}{w:W}{v:V}(hb:hget hp b=some x)(hv:RV Γ w v):SatH C G (Γ.put b (.cells ty v)) (anq hp b (ty,w)) X R/\Frm Γ.nw Γ hp X (Γ.put b (.cells ty v)) (anq hp b (ty,w)) X:=by
 have le:=blq s hb (.cells ty v);obtain⟨q1,q2,q3,u,q4,q5⟩:=s.own b x.1 x.2 hb
 have hold:∀{k y},hget (anq hp b (ty,w)) k=some y->∃z,hget hp k=some z:=λ{k y} h=>by
  rw[kUq hb] at h;split at h
  .rename_i e;exact⟨x,e▸hb⟩
  .exact⟨y,h⟩
 constructor
 .refine⟨λi hi=>?_,λk ty' w' hk=>?_,λk k' y z hy hz he=>?_,by rw[vnq];exact s.nd,s.dX,s.xlt,s.dlt,?_,s.gl.mono le⟩
  .simp only[Ctx.put,Heap.get_put];rw[Zg λe=>by rw[e] at hi;have:=s.wf _ hi;rw[q4] at this;cases this];exact s.wf i hi
  .rw[kUq hb] at hk;split at hk
   .rename_i e;subst e;cases hk;refine⟨q1,q2,q3,v,?_,hv.mono le⟩;simp only[Ctx.put,Heap.get_put,if_true]
   .rename_i hne;obtain⟨h1,h2,h3,u',h4,h5⟩:=s.own k ty' w' hk;refine⟨h1,h2,h3,u',?_,h5.mono le⟩;simp only[Ctx.put,Heap.get_put];rw[Zg λe=>hne (s.inj b k _ _ hb hk e.symm)];exact h4
  .obtain⟨y',hy'⟩:=hold hy;obtain⟨z',hz'⟩:=hold hz;exact s.inj k k' _ _ hy' hz' he
  .exact R.st _ _ _ _ _ s.res le.D le.val (λc hc=>by
    simp only[Ctx.put,Heap.get_put];rw[Zg λe:c=Γ.σ b=>by subst e;exact q3 hc]) (Zc _)
 .refine⟨λ_ _=>rfl,λh=>h,Zc _,λc h1 h2 _=>?_,λ_ h=>h,λ_ h=>.inl h,λk y _ h=>hold h,λk y hk h=>by obtain⟨z,hz⟩:=hold h;have:=(s.own _ _ _ hz).1;omega,λ_ h=>.inl h,λk h1 _ h3=>?_⟩
  .simp only[Ctx.put,Heap.get_put];rw[Zg λe=>h2 ⟨b,x,hb,e.symm⟩]
  .exact fKq h1 (h3 _ (.inl ⟨b,x,hb,rfl⟩))
theorem JSq(s:SatH C G Γ hp X R){b:Nat}{x:TypeId×W}(hb:hget hp b=some x):Γ.Le {Γ with h:=Γ.h.kill (Γ.σ b)}/\SatH C G {Γ with h:=Γ.h.kill (Γ.σ b)} (awq hp b) X R/\Frm Γ.nw Γ hp X {Γ with h:=Γ.h.kill (Γ.σ b)} (awq hp b) X:=by
 obtain⟨q1,q2,q3,u,q4,q5⟩:=s.own b x.1 x.2 hb
 have le:Γ.Le {Γ with h:=Γ.h.kill (Γ.σ b)}:=⟨Zc _,λ_ _=>rfl,λ_ h=>h,λc hc=>yRq (by
  simp only[Heap.get_kill];rw[Zg λe:c=Γ.σ b=>by subst e;exact q2 hc])⟩
 have hold:∀{k y},hget (awq hp b) k=some y->b≠k/\hget hp k=some y:=λ{k y} h=>by
  rw[Yzq s.nd] at h;split at h
  .cases h
  .rename_i e;exact⟨e,h⟩
 refine⟨le,⟨λi hi=>?_,λk ty' w' hk=>?_,λk k' y z hy hz he=>s.inj k k' _ _ (hold hy).2 (hold hz).2 he,s.nd.sublist hdel_sub,s.dX,s.xlt,s.dlt,?_,s.gl.mono le⟩,?_⟩
 .simp only[Heap.get_kill];split
  .rfl
  .exact s.wf i hi
 .obtain⟨hne,hk⟩:=hold hk;obtain⟨h1,h2,h3,u',h4,h5⟩:=s.own k ty' w' hk;refine⟨h1,h2,h3,u',?_,h5.mono le⟩;simp only[Heap.get_kill];rw[Zg λe=>hne (s.inj b k _ _ hb hk e.symm)];exact h4
 .exact R.st _ _ _ _ _ s.res le.D le.val (λc hc=>by
   simp only[Heap.get_kill];rw[Zg λe:c=Γ.σ b=>by subst e;exact q3 hc]) (Zc _)
 .refine⟨λ_ _=>rfl,λh=>h,Zc _,λc h1 h2 _=>?_,λ_ h=>h,λ_ h=>.inl h,λk y _ h=>⟨y,(hold h).2⟩,λk y hk h=>by have:=(s.own _ _ _ (hold h).2).1;omega,λ_ h=>.inl h,λk h1 _ h3=>?_⟩
  .simp only[Heap.get_kill];rw[Zg λe=>h2 ⟨b,x,hb,e.symm⟩]
  .exact fKq h1 (h3 _ (.inl ⟨b,x,hb,rfl⟩))
end
noncomputable def EvR(Γ:Ctx)(hp:HpW):EvW->Ev->Prop
 |.loadO b,e=>∃x,hget hp b=some x/\e= .load (Γ.σ b)
 |.loadF,e=>∃c,Γ.D c/\e= .load c
 |.storeO b,e=>∃x,hget hp b=some x/\e= .store (Γ.σ b)
 |.gen,e=>e= .gen\/∃c,e= .load c
 |.dirty,_=>True
 |.updO b,e=>e= .gen\/∃x,hget hp b=some x/\e= .upd (Γ.σ b)
 |.mkO b,e=>b=Γ.nw/\e= .mk Γ.h.next
structure Out(C:Cfg)(G:Nat->Option W)(X:Nat->Prop)(R:Res)(Γ:Ctx)(hp:HpW)(v:V)(h':Heap)(w:W)(hp':HpW)(nw':Nat)(Γ':Ctx):Prop where
 hh:Γ'.h=h'
 nw:Γ'.nw=nw'
 le:Γ.Le Γ'
 sat:SatH C G Γ' hp' X R
 frm:Frm Γ.nw Γ hp X Γ' hp' X
 val:RV Γ' w v
section
variable {Γ:Ctx} {hp:HpW} {X:Nat->Prop} {C:Cfg} {G:Nat->Option W} {R:Res} {fr:FrW} {frv:Tr V}
theorem Out.same(s:SatH C G Γ hp X R){v:V}{w:W}(h:RV Γ w v):Out C G X R Γ hp v Γ.h w hp Γ.nw Γ:=⟨rfl,rfl,Ctx.Le.refl _,s,Frm.refl _ _ _ _,h⟩
theorem Out.new(s:SatH C G Γ hp X R){ty:TypeId}{w u:W}{v z:V}(hv:RV Γ w v)(hu:RV (Γ.push (.cells ty v)) u z):Out C G X R Γ hp z (Γ.h.push (.cells ty v)) u ((Γ.nw,ty,w)::hp) (Γ.nw+1) (Γ.push (.cells ty v)):=
 ⟨rfl,rfl,Ylq s _,(vcq s hv).1,(vcq s hv).2,hu⟩
theorem gJq{B:Blk}:(Γ.push B).σ Γ.nw=Γ.h.next:=by simp[Ctx.push]
theorem iRq{B:Blk}:RV (Γ.push B) (.ptr Γ.nw 0) (.ptr Γ.h.next 0):=RV_ptr.2 ⟨YE _,by rw[gJq]⟩
theorem Zcq{B:Blk}{n e:Nat}:RV (Γ.push B) (.sl Γ.nw 0 0 n e none) (.sl Γ.h.next 0 0 n e none):=RV_sl.2 ⟨YE _,by rw[gJq]⟩
theorem gCq{z:W}{zv:V}{e n:Nat}(hz:RV Γ z zv)(he:z.size=e):RV Γ (tqq n e z) (i1q n e zv):=by
 have h1:∀n,RSL Γ (List.replicate n z) (z6q e (List.replicate n zv)):=λn=>by
  induction n with
  |zero=>simp[RSL,z6q]
  |succ n ih=>
   rw[List.replicate_succ,List.replicate_succ,z6q,yiq (by rw[yOq,hz.size,he])];exact qeq hz.2 ih
 have h2:=klq (h1 n)
 have h3:iZq (List.replicate n z)=n*e:=by
  rw[kyq (e:=e) λx hx=>by rw[(List.mem_replicate.1 hx).2,he],Y7]
 refine⟨rfl,?_⟩;simp only[tqq,i1q,RS,zlq];rw[yiq (by rw[h2,h3])];exact⟨by rw[h2,h3],λx hx=>by rw[(List.mem_replicate.1 hx).2,he],h1 n⟩
theorem bOq(hf:FRel Γ fr frv)(hg:GRel C G Γ){e:Nat}:∀{l:List (Nat×Operand)} {z w:W} {zv:V},RV Γ z zv->bPq C G fr e z l=some w->∃v,Qqq C frv e zv l=some v/\RV Γ w v
 |[],_,_,zv,hz,h=>by simp only[bPq] at h;cases h;exact⟨zv,rfl,hz⟩
 | (i,x)::l,z,w,zv,hz,h=>by
  simp only[bPq] at h;split at h
  .rename_i y hy;obtain⟨y',h1,h2⟩:=zSq hf hg hy;split at h
   .rename_i hs;split at h
    .rename_i z' hz';obtain⟨v',h3,h4,_⟩:=cyq hz h2 hz';obtain⟨v,h5,h6⟩:=bOq hf hg h4 h;refine⟨v,?_,h6⟩;simp only[Qqq,h1,h2.size,hs,h3];exact h5
    .cases h
   .cases h
  .cases h
theorem ZLq{e:Nat}:∀{l:List W} {us:List V} {off:Nat} {z w:W} {zv:V},RV Γ z zv->Els Γ e l us->vbq z off e l=some w->∃v,i3q zv off e us=some v/\RV Γ w v
 |[],us,_,_,_,zv,hz,hl,h=>by
  have:us=[]:=Z4.1 hl.len;subst this;simp only[vbq] at h;cases h
  exact⟨zv,rfl,hz⟩
 | x ::l,us,off,z,w,zv,hz,hl,h=>by
  obtain⟨u,us',rfl,h1,h2,h3,h4⟩:=hl.cons;simp only[vbq] at h;split at h
  .rename_i hs;simp only[Zb,ZE] at hs;obtain⟨hs,hzg⟩:=hs;split at h
   .rename_i z' hz'
    --the element's shape may differ:only its cells count
    obtain⟨k1,k2,k3,k4,k5,k6⟩:=xfq (Γ:=Γ) 50 hz' hz.2 h1;have hza:zv.isAgg=z.isAgg:=hz.1.symm;have hb:Nat.ble (off+u.size) zv.size=true:=Zl (by rw[h2,hz.size,<-hs];omega);have hu:(u.leaf||u.isAgg)=true:=by simpa using h3
    have:∃v',xDq 50 zv off u=some v':=by
     unfold xDq;split
     .exact⟨_,rfl⟩
     .unfold v3q;rw[show(zv.isAgg&&(u.leaf||u.isAgg)&&Nat.ble (off+u.size) zv.size)=true by rw[hza,hzg,hu,hb];rfl];exact⟨_,rfl⟩
    obtain⟨v',hv'⟩:=this;obtain⟨j1,j2,j3,j4⟩:=QHq hv';have hr':RV Γ z' v':=⟨by rw[k4,j4,hza],by rw[j3,h2,<-hs];exact k3⟩;obtain⟨v,g1,g2⟩:=ZLq hr' h4 h;refine⟨v,?_,g2⟩;simp only[i3q,h2,show Nat.beq e e=true by simp,hv'];exact g1
   .cases h
  .cases h
end
section
variable {Γ:Ctx} {hp:HpW} {X:Nat->Prop} {C:Cfg} {G:Nat->Option W} {R:Res} {fr:FrW} {frv:Tr V}
theorem ivq(s:List UInt8):Els Γ 1 (zbq s) (y4q s):=by
 refine⟨by simp[zbq,y4q],λx hx=>?_,λu hu=>?_,?_⟩
 .simp only[zbq,Z1] at hx;obtain⟨c,_,rfl⟩:=hx;rfl
 .simp only[y4q,Z1] at hu;obtain⟨c,_,rfl⟩:=hu;exact⟨rfl,.inl rfl⟩
 .induction s with
  |nil=>simp[zbq,y4q,RSL,z6q]
  |cons c s ih=>
   simp only[zbq,y4q,ZC,z6q];exact qeq (by simp[RS,zlq,auq]) ih
theorem qVq(s:SatH C G Γ hp X R){b:Nat}{x:TypeId×W}(hb:hget hp b=some x):∃v,Γ.h.get (Γ.σ b)=some (.cells x.1 v)/\Γ.h.val (Γ.σ b)=some v/\RV Γ x.2 v:=by
 obtain⟨_,_,_,v,h1,h2⟩:=s.own b x.1 x.2 hb;exact⟨v,h1,x8q h1,h2⟩
theorem cuq(s:SatH C G Γ hp X R){tx:TypeId}{esz:Nat}{x:W}{x':V}{l:List W}(hx:RV Γ x x')(h:aJq C hp tx esz x=some l):∃us,fCq C Γ.h tx esz x'=some us/\Els Γ esz l us:=by
 unfold aJq at h;unfold fCq;split at h
 .cases h
 .rename_i j hj;rw[hj];simp only;split at h
  .rename_i e hd;cases h;rw[RV_nils] at hx;subst hx
   rw[hd];exact⟨[],rfl,Els.nil _⟩
  .rename_i e xs e' full hd;rw[hd];split at h
   .rename_i he;cases h;rw[ZE] at he;subst he
    rcases kmq hx with ⟨rfl,rfl⟩|⟨b,base,off,lim,bv,us,rfl,g1,g2,g3,g4,g5,g6,g7,g8,g9⟩
    .exact⟨[],rfl,Els.nil _⟩
    .refine⟨us,?_,g9⟩;simp only[show Nat.beq e' e'=true by simp,g3];exact g8
   .cases h
  .rename_i e b base off n e' lim hd;rw[hd];obtain⟨hb,rfl⟩:=RV_sl.1 hx;split at h
   .rename_i ty v he hv;obtain⟨u,h1,h2,h3⟩:=qVq s hv;obtain⟨us,g1,g2,g3⟩:=uxq h3 h;refine⟨us,?_,g3⟩;simp only[he,h2];exact g1
   .cases h
  .rename_i y hd;rw[RV_str] at hx;subst hx
   rw[hd];split at h
   .rename_i he;cases h;simp only[he];rw[ZE] at he;subst he
    exact⟨_,rfl,ivq y⟩
   .cases h
  .cases h
theorem iJq(s:SatH C G Γ hp X R){ts tx:TypeId}{x y:W}{x' y':V}{w:W}{hp':HpW}{nw':Nat}{ev:EvW}(hx:RV Γ x x')(hy:RV Γ y y')(h:b5q C hp Γ.nw ts tx x y=some (w,hp',nw',ev)):
  ∃v h' Γ',kkq C Γ.h ts tx x' y'=some (v,h')/\Out C G X R Γ hp v h' w hp' nw' Γ'/\(ev= .gen/\h'.wmin=Γ.h.wmin\/∃b base off len esz lim z,x= .sl b base off len esz lim/\ev= .updO b/\hget hp b=some z):=by
 unfold b5q at h;unfold kkq;split at h
 .cases h
 .rename_i j hj;rw[hj];simp only;split at h
  .rename_i e hd;rw[hd];simp only;split at h
   .cases h
   .rename_i k hk;rw[hk];simp only;split at h
    .cases h
    .rename_i hz;rw[hz];simp only;split at h
     .cases h
     .rename_i news hn;obtain⟨us,h1,h2⟩:=cuq s hy hn;rw[h1];simp only;have hlen:=h2.len;split at h
      .rw[RV_nils] at hx;subst hx
       simp only;split at h
       .cases h;have:us=[]:=Z4.1 hlen;subst this;exact⟨_,_,Γ,rfl,Out.same s (RV_nils.2 rfl),.inl ⟨by first|rfl|trivial,rfl⟩⟩
       .rename_i a l;cases us with
        |nil=>simp at hlen
        |cons u us=>
         simp only;split at h
         .rename_i hb;cases h;rw[hlen,hb];simp only;have ha:=h2.arr;rw[hlen] at ha;exact⟨_,_,_,rfl,Out.new s ha Zcq,.inl ⟨by first|rfl|trivial,rfl⟩⟩
         .cases h
      .rename_i l esz full;split at h
       .cases h
       .rename_i he;cases h;have:us=[]:=Z4.1 hlen;subst this;rcases kmq hx with ⟨rfl,rfl⟩|⟨b,base,off,lim,bv,olds,rfl,_⟩
        .exact⟨_,_,Γ,rfl,Out.same s (RV.of_one (by simp[RS]) Y Y),.inl ⟨by first|rfl|trivial,rfl⟩⟩
        .simp only[he];exact⟨_,_,Γ,rfl,Out.same s hx,.inl ⟨by first|rfl|trivial,rfl⟩⟩
       .rename_i a news' he;cases us with
        |nil=>simp at hlen
        |cons u us=>
         split at h
         .rename_i hb;cases h;simp only[Zb] at hb;obtain⟨⟨hb1,hb2⟩,hfull⟩:=hb;have he':=Zh he;subst he';rcases kmq hx with ⟨rfl,rfl⟩|⟨b,base,off,lim,bv,olds,rfl,g1,g2,g3,g4,g5,g6,g7,g8,g9⟩
          .simp only[YD,ZN,YX] at hb1 hb2⊢;rw[hlen,hb1,hb2];have ha:=h2.arr;rw[hlen] at ha;exact⟨_,_,_,rfl,Out.new s ha Zcq,.inl ⟨by first|rfl|trivial,rfl⟩⟩
          .simp only[he];rw[hlen,hb1,hb2];simp only[Bool.and_self];rw[g1 hfull];simp only
           have hnb:Nat.ble (l.length+(a::news').length) l.length=false:=by
            cases hq:Nat.ble (l.length+(a::news').length) l.length with
            |true=>have:=Yb hq;simp only[Zv] at this;omega
            |false=>rfl
           rw[hnb];simp only[g3,g8];have ha:=(g9.append h2).arr;rw[show(olds++u::us).length=l.length+(a::news').length by rw[Zj,g9.len,hlen],show(l++a::news').length=l.length+(a::news').length by rw[Zj]] at ha;exact⟨_,_,_,rfl,Out.new s ha Zcq,.inl ⟨by first|rfl|trivial,rfl⟩⟩
         .cases h
      .rename_i b base off len esz lim;obtain⟨hbn,rfl⟩:=RV_sl.1 hx;simp only;split at h
       .cases h
       .rename_i he;cases h;have:us=[]:=Z4.1 hlen;subst this;simp only[he];exact⟨_,_,Γ,rfl,Out.same s hx,.inl ⟨by first|rfl|trivial,rfl⟩⟩
       .rename_i a news' he;cases us with
        |nil=>simp at hlen
        | cons u us=>
         have he':=Zh he;subst he';simp only[show Nat.beq k.size k.size=true by simp];split at h
         .rename_i ty v hb hgb;obtain⟨bv,q1,q2,q3⟩:=qVq s hgb;rw[hlen,hb];simp only;split at h
          .rename_i c;simp only;split at h
           .rename_i hc;rw[hc];simp only[q1];rw[q3.size];split at h
            .rename_i hle;rw[hle];simp only;split at h
             .rename_i v' hv';cases h;obtain⟨pv,p1,p2⟩:=ZLq q3 h2 hv';rw[p1];have hs:=Jzq s hgb (ty:=ty) p2;have le:=blq s hgb (.cells ty pv);exact⟨_,_,Γ.put b (.cells ty pv),rfl,⟨rfl,rfl,le,hs.1,hs.2,RV_sl.2 ⟨hbn,rfl⟩⟩,.inr ⟨_,_,_,_,_,_,_,rfl,rfl,hgb⟩⟩
             .cases h
            .cases h
           .rename_i hc;rw[hc];simp only[q2];split at h
            .rename_i olds ho;cases h;obtain⟨os,p1,p2,p3⟩:=uxq q3 ho;rw[p1];have ha:=(p3.append h2).arr;rw[show(os++u::us).length=len+(a::news').length by rw[Zj,p3.len,p2,hlen],show(olds++a::news').length=len+(a::news').length by rw[Zj,p2]] at ha;exact⟨_,_,_,rfl,Out.new s ha Zcq,.inl ⟨by first|rfl|trivial,rfl⟩⟩
            .cases h
          .simp only[q1];rw[q3.size];split at h
           .rename_i hle;rw[hle];simp only;split at h
            .rename_i v' hv';cases h;obtain⟨pv,p1,p2⟩:=ZLq q3 h2 hv';rw[p1];have hs:=Jzq s hgb (ty:=ty) p2;have le:=blq s hgb (.cells ty pv);exact⟨_,_,Γ.put b (.cells ty pv),rfl,⟨rfl,rfl,le,hs.1,hs.2,RV_sl.2 ⟨hbn,rfl⟩⟩,.inr ⟨_,_,_,_,_,_,_,rfl,rfl,hgb⟩⟩
            .cases h
           .rename_i hle;rw[hle];simp only;split at h
            .rename_i olds hty ho;cases h;obtain⟨os,p1,p2,p3⟩:=uxq q3 ho;rw[hty,p1];simp only;have ha:=(p3.append h2).arr;rw[show(os++u::us).length=len+(a::news').length by rw[Zj,p3.len,p2,hlen],show(olds++a::news').length=len+(a::news').length by rw[Zj,p2]] at ha
             --the new block first,then the old one is let go
             have n1:=vcq s (ty:=e) ha;have le1:=Ylq s (.cells e (.arr ((len+(a::news').length)*k.size) k.size (os++u::us)))
             have hgb':hget ((Γ.nw,e,W.arr ((len+(a::news').length)*k.size) k.size (olds++a::news'))::hp) b=some (ty,v):=by
              rw[zeq,Zg Xd];exact hgb
             obtain⟨le2,n2,f2⟩:=JSq n1.1 hgb';have hσ:(Γ.push (.cells e (.arr ((len+(a::news').length)*k.size) k.size (os++u::us)))).σ b=Γ.σ b:=le1.σ b hbn
             have hdl:awq ((Γ.nw,e,W.arr ((len+(a::news').length)*k.size) k.size (olds++a::news'))::hp) b=(Γ.nw,e,W.arr ((len+(a::news').length)*k.size) k.size (olds++a::news'))::awq hp b:=by
              have:Nat.beq Γ.nw b=false:=by
               cases hq:Nat.beq Γ.nw b with
               |true=>have:=Zh hq;omega
               |false=>rfl
              simp only[awq,this]
             rw[hdl,hσ] at n2 f2;rw[hσ] at le2;refine⟨_,_,_,rfl,⟨rfl,rfl,⟨Zs le1.nw le2.nw,λi hi=>(le2.σ i (Zw hi le1.nw)).trans (le1.σ i hi),λi hi=>le2.D i (le1.D i hi),λi hi=>(le2.val i (le1.D i hi)).trans (le1.val i hi)⟩,n2,n1.2.trans (f2.le (m':=Γ.nw) (YK _) (Zc _)),?_⟩,.inr ⟨_,_,_,_,_,_,_,rfl,rfl,hgb⟩⟩;exact RV_sl.2 ⟨YE _,by simp[Ctx.push]⟩
            .cases h
         .cases h
      .cases h
  .cases h
theorem YFq:∀{l:List W} {s:List V} {r:List UInt8},xtq l=some r->RSL Γ l s->bytesOf s=some r
 |[],s,r,h,hs=>by
  simp only[xtq] at h;cases h
  simp only[RSL] at hs;subst hs;rfl
 |x::l,s,r,h,hs=>by
  unfold xtq at h;split at h
  .rename_i e;cases e
  .rename_i c l' e;cases e;obtain⟨a,b,rfl,h1,h2⟩:=q5q hs;simp only[RS] at h1;subst h1;split at h
   .rename_i r' hc hr;cases h;have:=YFq hr h2;simp only[List.singleton_append,bytesOf,hc,this]
   .cases h
  .cases h
theorem cLq(hf:FRel Γ fr frv)(s:SatH C G Γ hp X R){rt:TypeId}{o:Op}{w:W}{hp':HpW}{nw':Nat}{ev:EvW}(h:aDq C G fr hp Γ.nw o=some (w,hp',nw',ev)):
  ∃v h' Γ',ygq C frv rt o=none/\opH C frv Γ.h o=some (v,h')/\Out C G X R Γ hp v h' w hp' nw' Γ'/\(∀H1:Heap,H1.next=Γ.h.next->(Γ.h.wmin=Γ.h.next/\H1.tr=Γ.h.tr) ->EvR Γ hp ev (asq C frv H1 h' o)):=by
 have hg:=s.gl;unfold aDq at h;split at h
 ·-- convert
  rename_i t1 t2 x;unfold wcq at h;split at h
  .rename_i js jt u hjs hjt hu;obtain⟨v,h1,h2⟩:=zSq hf hg hu;simp only[ygq,zQq,opH,zxq,hjs,hjt,h1];split at h
   .rename_i e hd1 hd2;rw[hd1,hd2]
    have hgen:∀H1:Heap,H1.next=Γ.h.next->(Γ.h.wmin=Γ.h.next/\H1.tr=Γ.h.tr) ->asq C frv H1 Γ.h (.convert t1 t2 x)= .gen:=λH1 e1 e2=>by
     simp only[asq];rw[e2.1,e1,Zl (Zc _)]
    split at h
    .rename_i hde;cases h;rw[RV_nils] at h2;subst h2
     refine⟨_,_,Γ,rfl,by simp only[hde],Out.same s (RV_str.2 rfl),λH1 e1 e2=>.inl (hgen H1 e1 e2)⟩
    .rename_i l esz full hde;split at h
     .rename_i he;split at h
      .rename_i r hr;cases h;rcases kmq h2 with ⟨rfl,rfl⟩|⟨b,base,off,lim,bv,us,rfl,g1,g2,g3,g4,g5,g6,g7,g8,g9⟩
       .simp only[xtq] at hr;cases hr
        exact⟨_,_,Γ,rfl,by simp only[hde],Out.same s (RV_str.2 rfl),λH1 e1 e2=>.inl (hgen H1 e1 e2)⟩
       .have he':=Zh he;subst he';have hb:=YFq hr g9.rs;exact⟨_,_,Γ,rfl,by simp only[hde,show Nat.beq 1 1=true by rfl,g3,g8,hb],Out.same s (RV_str.2 rfl),λH1 e1 e2=>.inl (hgen H1 e1 e2)⟩
      .cases h
     .cases h
    .rename_i b base off n esz lim hde;obtain⟨hbn,rfl⟩:=RV_sl.1 h2;split at h
     .rename_i ty bv he hgb;have he':=Zh he;subst he';obtain⟨u,q1,q2,q3⟩:=qVq s hgb;split at h
      .rename_i l hl;split at h
       .rename_i r hr;cases h;obtain⟨us,p1,p2,p3⟩:=uxq q3 hl;have hb:=YFq hr p3.rs;exact⟨_,_,Γ,rfl,by simp only[hde,show Nat.beq 1 1=true by rfl,q2,p1,hb],Out.same s (RV_str.2 rfl),λH1 e1 e2=>.inl (hgen H1 e1 e2)⟩
       .cases h
      .cases h
     .cases h
    .cases h
   .cases h
  .cases h
 ·--load
  rename_i t x;unfold rtq at h;split at h
  .rename_i b off i hx hi;obtain⟨v,h1,h2⟩:=zSq hf hg hx;obtain⟨hbn,rfl⟩:=RV_ptr.1 h2;split at h
   .rename_i ty bv hgb;obtain⟨u,q1,q2,q3⟩:=qVq s hgb;split at h
    .rename_i r hr;cases h;obtain⟨y,p1,p2,_⟩:=xFq q3 hr;refine⟨y,_,Γ,rfl,by simp only[opH,ylq,h1,hi,q2,p1],Out.same s p2,λH1 e1 e2=>⟨_,hgb,?_⟩⟩;simp only[asq,h1]
    .cases h
   .cases h
  .rename_i z i hx hi;obtain⟨v,h1,h2⟩:=zSq hf hg hx;obtain⟨b,off,bv,rfl,g1,g2,g3,g4,g5,g6⟩:=kzq h2;split at h
   .rename_i r hr;cases h;obtain⟨y,p1,p2⟩:=m3q hr g3 g4 g5 g6;refine⟨y,_,Γ,rfl,by simp only[opH,ylq,h1,hi,g2,p1],Out.same s p2,λH1 e1 e2=>⟨b,g1,?_⟩⟩;simp only[asq,h1]
   .cases h
  .cases h
 ·--store
  rename_i t x y;unfold hFq at h;split at h
  .rename_i b off u i hx hy hi;obtain⟨v,h1,h2⟩:=zSq hf hg hx;obtain⟨hbn,rfl⟩:=RV_ptr.1 h2;obtain⟨u',h3,h4⟩:=zSq hf hg hy;split at h
   .rename_i ty bv hgb hs;obtain⟨uv,q1,q2,q3⟩:=qVq s hgb;split at h
    .rename_i w' hw';cases h;obtain⟨v',p1,p2,_⟩:=cyq q3 h4 hw';have hst:=Jzq s hgb (ty:=ty) p2;have le:=blq s hgb (.cells ty v');refine⟨.undef,_,Γ.put b (.cells ty v'),rfl,by simp only[opH,z4q,h1,h3,hi,q1,h4.size,hs,p1];rfl,⟨rfl,rfl,le,hst.1,hst.2,RV_undef.2 rfl⟩,λH1 e1 e2=>⟨_,hgb,?_⟩⟩;simp only[asq,h1]
    .cases h
   .cases h
  .cases h
 ·--alloc
  rename_i t;unfold okq at h;split at h
  .rename_i i hi;split at h
   .rename_i z hz;cases h;refine⟨_,_,_,rfl,by simp only[opH,z5q,hi],Out.new s (xpq hz) iRq,λH1 e1 e2=>?_⟩;refine .inl ?_;simp only[asq,Heap.push,e1,e2];rw[Zl (Zc _)]
   .cases h
  .cases h
 ·-- box
  rename_i t x;unfold B1q at h;split at h
  .rename_i u hu;obtain⟨v,h1,h2⟩:=zSq hf hg hu;split at h
   .rename_i hl;cases h
    have hl':(v.leaf||v.isAgg)=true:=by
     rw[<-h2.1];cases ha:u.isAgg with
     |true=>simp
     |false=>
      rw[ha,Bool.or_false] at hl;rw[h2.leaf hl];rfl
    refine⟨_,_,_,rfl,by simp only[opH,qgq,h1,hl'],Out.new s h2 iRq,λH1 e1 e2=>?_⟩;refine .inl ?_;simp only[asq,Heap.push,e1,e2];rw[Zl (Zc _)]
   .cases h
  .cases h
 ·-- buildSlice
  rename_i t n parts;unfold hHq at h;split at h
  .rename_i i hi;split at h
   .rename_i e hd;split at h
    .rename_i k hk;split at h
     .rename_i z hz1 hz;split at h
      .rename_i w' hks hw';cases h;have hzs:=(xpq (Γ:=Γ) hz);rw[ZE] at hks;obtain⟨v,p1,p2⟩:=bOq hf hg (gCq (n:=n) hzs hks) hw';refine⟨_,_,_,rfl,by simp only[opH,zjq,hi,hd,hk,hz1,p1],Out.new s p2 Zcq,λH1 e1 e2=>⟨rfl,by simp only[asq,e1]⟩⟩
      .cases h
     .cases h
    .cases h
   .cases h
  .cases h
 ·-- makeSlice
  rename_i t x y;unfold hGq at h;split at h
  .rename_i i u v hi hu hv;obtain⟨u',h1,h2⟩:=zSq hf hg hu;obtain⟨v',h3,h4⟩:=zSq hf hg hv;split at h
   .rename_i e l c hd hl hc;split at h
    .rename_i k hk;split at h
     .rename_i z hz1 hz;split at h
      .rename_i hks;cases h;have hzs:=(xpq (Γ:=Γ) hz);rw[ZE] at hks;refine⟨_,_,_,rfl,by simp only[opH,zpq,hi,h1,h3,hd,xkq h2 hl,xkq h4 hc,hk,hz1],Out.new s (gCq hzs hks) Zcq,λH1 e1 e2=>?_⟩;refine .inl ?_;simp only[asq,Heap.push,e1,e2];rw[Zl (Zc _)]
      .cases h
     .cases h
    .cases h
   .cases h
  .cases h
 ·-- append
  rename_i args ats;unfold cYq at h;split at h
  .rename_i x y ts tx ha ht;split at h
   .rename_i sx u hs hu;obtain⟨s',h1,h2⟩:=zSq hf hg hs;obtain⟨u',h3,h4⟩:=zSq hf hg hu;obtain⟨v,h',Γ',p1,p2,p3⟩:=iJq s h2 h4 h;refine⟨v,h',Γ',rfl,by simp only[opH,zKq,ha,ht,h1,h3];exact p1,p2,λH1 e1 e2=>?_⟩;rcases p3 with ⟨rfl,p3⟩|⟨b,base,off,len,esz,lim,z,rfl,rfl,hz⟩
    .refine .inl ?_;simp only[asq,e1,p3,e2];rw[Zl (Zc _)]
    .obtain⟨_,rfl⟩:=RV_sl.1 h2
     show EvR Γ hp (.updO b) (match Nat.ble H1.next h'.wmin with
      |true=>.gen
      |false=>match args.toList with
       |[x,_]=>match evV C frv x with
        |some (.sl b _ _ _ _ _)=>.upd b
        |_=>.dirty
       |_=>.dirty)
     cases Nat.ble H1.next h'.wmin with
     |true=>exact .inl rfl
     |false=>exact .inr ⟨z,hz,by rw[ha];simp only[h1]⟩
   .cases h
  .cases h
 ·-- copy
  rename_i args ats;unfold ruq at h;split at h
  .rename_i x y ts tx ha ht;split at h
   .rename_i b base off len esz lim u j hs hu hj;obtain⟨s',h1,h2⟩:=zSq hf hg hs;obtain⟨hbn,rfl⟩:=RV_sl.1 h2;obtain⟨u',h3,h4⟩:=zSq hf hg hu;split at h
    .rename_i e hd;split at h
     .rename_i k hk;split at h
      .rename_i all hall;obtain⟨us,q1,q2⟩:=cuq s h4 hall;split at h
       .rename_i y' ys ty v hks hta hgb;obtain⟨pv,r1,r2,r3⟩:=qVq s hgb;have q3:=q2.take len;rw[hta] at q3;obtain⟨z,zs,hz,_,_,_,q5⟩:=q3.cons;rw[hz] at q3;have hlz:zs.length=ys.length:=q5.len;split at h
        .rename_i hle;split at h
         .rename_i v' hv';cases h;rw[ZE] at hks;subst hks;obtain⟨pv',p1,p2⟩:=ZLq r3 q3 hv';have hs:=Jzq s hgb (ty:=ty) p2;have le:=blq s hgb (.cells ty pv');have hb:Nat.beq k.size k.size=true:=YY _;have hle':Nat.ble (off+(zs.length+1)*k.size) pv.size=true:=by rw[hlz,r3.size];exact hle
          exact⟨_,_,Γ.put b (.cells ty pv'),rfl,by simp only[opH,yqq,ha,ht,h1,h3,fuq,hj,hd,hk,q1,hz,hb,r1,hle',p1];rfl,⟨rfl,rfl,le,hs.1,hs.2,RV_int.2 (by rw[hlz])⟩,λ_ _ _=>trivial⟩
         .cases h
        .cases h
       .cases h
      .cases h
     .cases h
    .cases h
   .cases h
  .cases h
 ·-- slice
  rename_i t x lo hi mx;unfold ojq at h;split at h
  .rename_i j u hj hu;obtain⟨v,h1,h2⟩:=zSq hf hg hu;split at h
   .rename_i n e b off hd;obtain⟨hbn,rfl⟩:=RV_ptr.1 h2;split at h
    .rename_i k l r ty bv hk hl hr hgb;obtain⟨bv',q1,q2,q3⟩:=qVq s hgb;split at h
     .cases h
     .rename_i hc;cases h;have hc':(Nat.beq k.size 0||!Nat.ble l r||!Nat.ble r n||!Nat.ble (off+n*k.size) bv'.size)=false:=by rw[q3.size];exact hc
      refine⟨_,_,Γ,by simp only[ygq,ykq,hj,h1,hd],by simp only[opH,zXq,hj,h1,hd,hk,qKq hf hg hl,qKq hf hg hr,q2,hc'],Out.same s (RV_sl.2 ⟨hbn,rfl⟩),λH1 e1 e2=>?_⟩;exact⟨_,hgb,by simp only[asq,h1]⟩
    .cases h
   .rename_i n e y hd;obtain⟨b,off,bv,rfl,g1,g2,g3,g4,g5,g6⟩:=kzq h2;split at h
    .rename_i k l r hk hl hr;split at h
     .cases h
     .rename_i hc;split at h
      .rename_i xs hxs;cases h;simp only[Bool.or_eq_false_iff,Bool.not_eq_false'] at hc;obtain⟨⟨⟨c1,c2⟩,c3⟩,c4⟩:=hc;have l2:=Yb c2;have l3:=Yb c3;have l4:=Yb c4;obtain⟨p1,p2,p3,p4,p5⟩:=q0q (Γ:=Γ) 50 hxs g6
       have hc':(Nat.beq k.size 0||!Nat.ble l r||!Nat.ble r n||!Nat.ble (off+n*k.size) bv.size)=false:=by
        rw[c1,c2,c3,Zl (show off+n*k.size<=bv.size by omega)];rfl
       refine⟨.sl b off (off+l*k.size) (r-l) k.size (some (n-l)),_,Γ,by simp only[ygq,ykq,hj,h1,hd],by simp only[opH,zXq,hj,h1,hd,hk,qKq hf hg hl,qKq hf hg hr,g2,hc'],Out.same s ?_,λH1 e1 e2=>?_⟩
       .have hb:l*k.size+(r-l)*k.size<=y.size:=p2
        have:=nIq (Γ:=Γ) (l:=xs) (e:=k.size) (full:=Nat.beq r n) (base:=off) (off:=off+l*k.size) (lim:=some (n-l)) (λhfull=>by rw[ZE] at hfull;rw[p1,hfull]) g1 g2 (g4 p5) (by rw[p1];omega) p3 (by
         rw[List.drop_take,Z8,YO,YH Xd] at p4;rw[p1];exact p4)
        rw[p1] at this;exact this
       .refine .inr ?_;simp only[asq,h1];exact⟨_,rfl⟩
      .cases h
    .cases h
   .cases h
  .cases h
 .cases h
end
structure SelfLe(S S':Self):Prop where
 fn:∀f vs h r,S.fn f vs h=some r->S'.fn f vs h=some r
 yield:∀l vs h r,S.yield l vs h=some r->S'.yield l vs h=some r
structure FlowLe(F F':Flow):Prop where
 loop:∀c st r,F.loop c st=some r->F'.loop c st=some r
 scope:∀c l st r,F.scope c l st=some r->F'.scope c l st=some r
section
variable {S S':Self} {F F':Flow} {C:Cfg}
theorem nrq(le:SelfLe S S'){fr:Tr V}{h:Heap}{o:Op}{r:V×Heap}(hc:jfq S C fr h o=some r):jfq S' C fr h o=some r:=by
 unfold jfq at hc⊢;split at hc
 .rename_i x xs ats;try simp only
  split at hc
  .rename_i f a c vs hx hxs;try rw[hx,hxs]
   try simp only
   split at hc
   .rename_i e he;try rw[he]
    exact hc
   .rename_i he;try rw[he]
    exact le.fn _ _ _ _ hc
  .rename_i l vs hx hxs;try rw[hx,hxs]
   exact le.yield _ _ _ _ hc
  .cases hc
 .rename_i x m xs ats;try simp only
  split at hc
  .rename_i t v vs hx hxs;try rw[hx,hxs]
   try simp only
   split at hc
   .rename_i f hf;try rw[hf]
    try simp only
    split at hc
    .cases hc
    .rename_i he;try rw[he]
     exact le.fn _ _ _ _ hc
   .cases hc
  .cases hc
 .exact hc
theorem QKq(le:SelfLe S S'){fr:Tr V}{h:Heap}{o:Oper}{r:V×Heap}(hc:opV S C fr h o=some r):opV S' C fr h o=some r:=by
 unfold opV at hc⊢;split at hc
 .rename_i v hv
  (try rw[hv]);exact hc
 .rename_i hv;try rw[hv]
  try simp only
  split at hc
  .rename_i q hq
   (try rw[hq]);exact hc
  .rename_i hq
   (try rw[hq]);exact nrq le hc
theorem ugq(le:SelfLe S S'){ops:Array Oper}:∀(l:List Oper) {fr:Tr V} {h:Heap} {r:Tr V×Heap},qYq S C ops l fr h=some r->qYq S' C ops l fr h=some r
 |[],_,_,_,hr=>hr
 |o::l,fr,h,r,hr=>by
  simp only[qYq] at hr⊢;split at hr
  .rename_i hw;try rw[hw]
   try simp only
   split at hr
   .rename_i v h' ho;rw[QKq le ho];exact ugq le l hr
   .cases hr
  .rename_i hw;try rw[hw]
   exact ugq le l hr
  .cases hr
theorem dEq(le:SelfLe S S'){fr:Tr V}{h:Heap}{o:Oper}{r:V×Heap×Option Ev}(hc:Qmq S C fr h o=some r):Qmq S' C fr h o=some r:=by
 unfold Qmq at hc⊢;split at hc
 .rename_i v hv
  (try rw[hv]);exact hc
 .rename_i hv;try rw[hv]
  try simp only
  split at hc
  .rename_i v h1 ho;rw[QKq le ho];exact hc
  .cases hc
theorem kgq(le:SelfLe S S'){ops:Array Oper}:∀(l:List Oper) {i:Nat} {es:List (Nat×Ev)} {fr:Tr V} {h:Heap} {r:Tr V×Heap},yNq S C ops l i es fr h=some r->yNq S' C ops l i es fr h=some r
 |[],_,_,_,_,_,hr=>hr
 | o ::l,i,es,fr,h,r,hr=>by
  simp only[yNq] at hr⊢;split at hr
  .rename_i hw;try rw[hw]
   try simp only
   split at hr
   .rename_i v h1 x ho;rw[dEq le ho];try simp only
    split at hr
    .rename_i he;try rw[he]
     exact kgq le l hr
    .cases hr
   .rename_i v h1 ho;rw[dEq le ho];exact kgq le l hr
   .cases hr
  .rename_i hw;try rw[hw]
   exact kgq le l hr
  .cases hr
theorem zIq(le:SelfLe S S')(lf:FlowLe F F'):∀(c:Code) {st:St} {r:Exit×St},zdq S F C c st=some r->zdq S' F' C c st=some r
 |.skip,st,r,h=>by simp only[zdq] at h⊢;exact h
 |.region id ops dr,st,r,h=>by
  simp only[zdq] at h⊢;cases dr with
  |true=>
   simp only at h⊢;split at h
   .rename_i fr hh he;rw[kgq le _ he];exact h
   .cases h
  |false=>
   simp only at h⊢;split at h
   .rename_i fr hh he;rw[ugq le _ he];exact h
   .cases h
 |.seq x y,st,r,h=>by
  simp only[zdq] at h⊢;split at h
  .rename_i st' he;rw[zIq le lf x he];exact zIq le lf y h
  .rename_i hne;have:=zIq le lf x h;rw[this];split
   .rename_i st' e;cases e;exact absurd h (by intro e';exact hne _ e')
   .rfl
 |.cond c x y,st,r,h=>by
  simp only[zdq] at h⊢;split at h
  .rename_i hc
   (try rw[hc]);exact zIq le lf x h
  .rename_i hc
   (try rw[hc]);exact zIq le lf y h
  .cases h
 |.block id x,st,r,h=>by
  simp only[zdq] at h⊢;split at h
  .rename_i id' st' he;rw[zIq le lf x he];exact h
  .rename_i hne;have:=zIq le lf x h;rw[this];split
   .rename_i id' st' e;cases e;exact absurd h (by intro e';exact hne _ _ e')
   .rfl
 |.loop x,st,r,h=>by simp only[zdq] at h⊢;exact lf.loop _ _ _ h
 |.rangeFunc g ps asg bd,st,r,h=>by
  simp only[zdq] at h⊢;split at h
  .rename_i gf c hrd hg;try rw[hrd,hg]
   try simp only
   split at h
   .rename_i v hh he;rw[le.fn _ _ _ _ he];exact h
   .cases h
  .cases h
 |.exit id,st,r,h=>by simp only[zdq] at h⊢;exact h
 |.scope x,st,r,h=>by
  simp only[zdq] at h⊢;split at h
  .rename_i l st' he;rw[zIq le lf x he];exact lf.scope _ _ _ _ h
  .rename_i hne;have:=zIq le lf x h;rw[this];split
   .rename_i l st' e;cases e;exact absurd h (by intro e';exact hne _ _ e')
   .rfl
 |.label _,st,r,h=>by simp only[zdq] at h⊢;exact h
 |.goto l,st,r,h=>by simp only[zdq] at h⊢;exact h
 |.ret,st,r,h=>by simp only[zdq] at h⊢;exact h
 |.refuse _,st,r,h=>by simp only[zdq] at h;cases h
end
noncomputable def Sn(C:Cfg)(n:Nat):Self:=⟨yPq C n,zNq C n⟩
noncomputable def Fl(C:Cfg)(n:Nat):Flow:=⟨ybq C n,zRq C n⟩
theorem r3q{C:Cfg}{k':FuncId->Option (List V->Heap->Option (V×Heap))}{S:Self}{F:Flow}{c:Code}{st:St}:zdq S F {C with known:=k'} c st=zdq S F C c st:=by kernel_rfl
theorem wrq{C:Cfg}{k':FuncId->Option (List V->Heap->Option (V×Heap))}{fn:Func}{st:St}:c4q {C with known:=k'} fn st=c4q C fn st:=by kernel_rfl
theorem cCq{C C':Cfg}(e:C'={C with known:=C'.known})(k1:∀f k,C.known f=some k->C'.known f=some k)(k2:∀f,C.known f=none->C'.known f=none\/C.fn f=none):∀n,SelfLe (Sn C n) (Sn C' (n+1))/\FlowLe (Fl C n) (Fl C' (n+1))
 |0=>⟨⟨λf vs h r hr=>by simp[Sn,yPq] at hr,λl vs h r hr=>by simp[Sn,zNq] at hr⟩,⟨λc st r hr=>by simp[Fl,ybq] at hr,λc l st r hr=>by simp[Fl,zRq] at hr⟩⟩
 | n + 1=>by
  obtain⟨ls,lf⟩:=cCq e k1 k2 n;have up:∀(S:Self) (F:Flow) (c:Code) (st:St),zdq S F C' c st=zdq S F C c st:=λS F c st=>by rw[e];exact r3q
  have ufi:∀fn st,c4q C' fn st=c4q C fn st:=λfn st=>by rw[e];exact wrq
  have ufn:∀f,C'.fn f=C.fn f:=λf=>by rw[e]
  have hc:∀(c:Code) {st:St} {r:Exit×St},zdq ⟨yPq C n,zNq C n⟩ ⟨ybq C n,zRq C n⟩ C c st=some r->zdq ⟨yPq C' (n+1),zNq C' (n+1)⟩ ⟨ybq C' (n+1),zRq C' (n+1)⟩ C' c st=some r:=λc {st r} h=>(up _ _ _ _).trans (zIq ls lf c h)
  refine⟨⟨λf vs h r hr=>?_,λl vs h r hr=>?_⟩,⟨λc st r hr=>?_,λc l st r hr=>?_⟩⟩
  .show yPq C' (n+2) f vs h=some r;have hr:yPq C (n+1) f vs h=some r:=hr;rw[yPq] at hr⊢;split at hr
   .rename_i k hk;rw[k1 f k hk];exact hr
   .rename_i hk;split at hr
    .cases hr
    .rename_i fn hfn;rw[(k2 f hk).resolve_right (by rw[hfn];exact λq=>by cases q),ufn,hfn];try simp only
     split at hr
     .rename_i c hb hn;try rw[hb,hn]
      try simp only
      split at hr
      .rename_i st he;rw[hc c he];exact(ufi fn st).trans hr
      .rename_i st he;rw[hc c he];exact(ufi fn st).trans hr
      .cases hr
     .cases hr
  .show zNq C' (n+2) l vs h=some r;have hr:zNq C (n+1) l vs h=some r:=hr;rw[zNq] at hr⊢;split at hr
   .rename_i fr ps asg bd d hl;try rw[hl]
    try simp only
    split at hr
    .cases hr
    .rename_i hp;try rw[hp]
     try simp only
     split at hr
     .rename_i st1 h1;rw[hc asg h1];try simp only
      split at hr
      .rename_i fr1 ps1 asg1 bd1 d1 hl1;try rw[hl1]
       try simp only
       split at hr
       .rename_i x st2 h2;rw[hc bd h2];exact hr
       .cases hr
      .cases hr
     .cases hr
   .cases hr
  .show ybq C' (n+2) c st=some r;have hr:ybq C (n+1) c st=some r:=hr;rw[ybq] at hr⊢;split at hr
   .rename_i st' he;rw[hc c he];exact lf.loop _ _ _ hr
   .rename_i hne;have:=hc c hr;rw[this];split
    .rename_i st' e;cases e;exact absurd hr (by intro e';exact hne _ e')
    .rfl
  .show zRq C' (n+2) c l st=some r;have hr:zRq C (n+1) c l st=some r:=hr;rw[zRq] at hr⊢;split at hr
   .rename_i rest hrest;try rw[hrest]
    try simp only
    split at hr
    .rename_i l' st' he;rw[hc rest he];exact lf.scope _ _ _ _ hr
    .rename_i hne;have:=hc rest hr;rw[this];split
     .rename_i l' st' e;cases e;exact absurd hr (by intro e';exact hne _ _ e')
     .rfl
   .cases hr
theorem psq(C:Cfg)(n:Nat):SelfLe (Sn C n) (Sn C (n+1))/\FlowLe (Fl C n) (Fl C (n+1)):=cCq rfl (λ_ _ h=>h) (λ_ h=>.inl h) n
theorem SelfLe.trans{a b c:Self}(x:SelfLe a b)(y:SelfLe b c):SelfLe a c:=⟨λf vs h r hr=>y.fn _ _ _ _ (x.fn _ _ _ _ hr),λl vs h r hr=>y.yield _ _ _ _ (x.yield _ _ _ _ hr)⟩
theorem FlowLe.trans{a b c:Flow}(x:FlowLe a b)(y:FlowLe b c):FlowLe a c:=⟨λf vs r hr=>y.loop _ _ _ (x.loop _ _ _ hr),λl vs h r hr=>y.scope _ _ _ _ (x.scope _ _ _ _ hr)⟩
theorem qDq(C:Cfg){n:Nat}:∀{m:Nat},n<=m->SelfLe (Sn C n) (Sn C m)/\FlowLe (Fl C n) (Fl C m)
 |0,h=>by
  obtain rfl:n=0:=by omega
  exact⟨⟨λ_ _ _ _ h=>h,λ_ _ _ _ h=>h⟩,⟨λ_ _ _ h=>h,λ_ _ _ _ h=>h⟩⟩
 |m+1,h=>by
  rcases ZM n (m+1) with h1|h1
  .obtain⟨a,b⟩:=qDq C (m:=m) (n:=n) Xd;obtain⟨c,d⟩:=psq C m;exact⟨a.trans c,b.trans d⟩
  .obtain rfl:n=m+1:=by omega
   exact⟨⟨λ_ _ _ _ h=>h,λ_ _ _ _ h=>h⟩,⟨λ_ _ _ h=>h,λ_ _ _ _ h=>h⟩⟩
noncomputable def qqq(ops:Array Oper)(fr:FrW)(o:Oper):Option Bool:=match o.guard with
 |none=>some true
 |some (j,b)=>match (ops[j]?).bind (·.dst) with
  |none=>some false
  |some t=>match arq fr t with
   |some (.bool c)=>some (c==b)
   |some .undef=>some false
   |_=>none
section
variable {C:Cfg} {G:Nat->Option W}
theorem uXq{Γ:Ctx}{fr:FrW}{frv:Tr V}{ops:Array Oper}{o:Oper}{b:Bool}(hf:FRel Γ fr frv)(h:qqq ops fr o=some b):Z2q ops frv o=some b:=by
 unfold qqq at h;unfold Z2q;split at h
 .rename_i hg;try rw[hg]
  exact h
 .rename_i j b' hg;try rw[hg]
  try simp only
  split at h
  .rename_i ho;try rw[ho]
   exact h
  .rename_i t ho;try rw[ho]
   try simp only
   split at h
   .rename_i c hc;obtain⟨v,h1,h2⟩:=hf _ _ hc;rw[RV_bool] at h2;subst h2
    rw[h1];exact h
   .rename_i hc;obtain⟨v,h1,h2⟩:=hf _ _ hc;rw[RV_undef] at h2;subst h2
    rw[h1];exact h
   .cases h
theorem FRel.put{Γ:Ctx}{fr:FrW}{frv:Tr V}(hf:FRel Γ fr frv){d:Option Tmp}{w:W}{v:V}(hv:RV Γ w v):FRel Γ (aoq fr d w) (aBq frv d v):=by
 cases d with
 |none=>exact hf
 |some t=>
  intro k u hk;simp only[aoq,arq] at hk;simp only[aBq,Tr.get_set];split at hk
  .rename_i e;rw[ZE] at e;subst e;cases hk;exact⟨v,by rw[Zt rfl],hv⟩
  .rename_i e;have hne:k≠t:=λe2=>by subst e2;simp at e
   obtain⟨v',h1,h2⟩:=hf k u hk;exact⟨v',by rw[Zg hne];exact h1,h2⟩
noncomputable def aeq(C:Cfg)(G:Nat->Option W)(o:Oper)(fr:FrW)(hp:HpW)(nw:Nat)(R:Res)(post:W->HpW->Nat->Res->Option EvW->Prop):Prop:=
 ∀Γ X frv,Γ.nw=nw->SatH C G Γ hp X R->FRel Γ fr frv->∃n w hp' R' ev v h' Γ' X',post w hp' Γ'.nw R' ev/\
  opV (Sn C n) C frv Γ.h o=some (v,h')/\(match ev with
   |none=>ygq C frv o.type o.op=some v/\h'=Γ.h
   |some e=>ygq C frv o.type o.op=none/\∀H1:Heap,H1.next=Γ.h.next->(Γ.h.wmin=Γ.h.next/\H1.tr=Γ.h.tr) ->EvR Γ hp e (asq C frv H1 h' o.op))/\
  Γ'.h=h'/\Γ.Le Γ'/\SatH C G Γ' hp' X' R'/\Frm Γ.nw Γ hp X Γ' hp' X'/\RV Γ' w v
theorem a3q{o:Oper}{fr:FrW}{hp:HpW}{nw:Nat}{R:Res}{w:W}{post:W->HpW->Nat->Res->Option EvW->Prop}(h:yJq C G fr o.op=some w)(hp':post w hp nw R none):aeq C G o fr hp nw R post:=λΓ X frv hnw s hf=>by
 obtain⟨v,h1,h2⟩:=lXq (rt:=o.type) hf s.gl h;subst hnw;exact⟨0,w,hp,R,none,v,Γ.h,Γ,X,hp',by simp only[opV,h1],⟨h1,rfl⟩,rfl,Ctx.Le.refl _,s,Frm.refl _ _ _ _,h2⟩
theorem jvq{o:Oper}{fr:FrW}{hp hp2:HpW}{nw nw2:Nat}{R:Res}{w:W}{ev:EvW}{post:W->HpW->Nat->Res->Option EvW->Prop}(h:aDq C G fr hp nw o.op=some (w,hp2,nw2,ev))(hp':post w hp2 nw2 R (some ev)):aeq C G o fr hp nw R post:=λΓ X frv hnw s hf=>by
 subst hnw;obtain⟨v,h',Γ',h1,h2,h3,h4⟩:=cLq (rt:=o.type) hf s h;exact⟨0,w,hp2,R,some ev,v,h',Γ',X,by rw[h3.nw];exact hp',by simp only[opV,h1,h2],⟨h1,h4⟩,h3.hh,h3.le,h3.sat,h3.frm,h3.val⟩
noncomputable def OpW(C:Cfg)(G:Nat->Option W)(m:Nat)(ops:Array Oper)(l:List Oper)(fr:FrW)(hp:HpW)(nw:Nat)(R:Res)(K:FrW->HpW->Nat->Res->Prop):Prop:=
 ∀Γ X frv,Γ.nw=nw->m<=nw->SatH C G Γ hp X R->FRel Γ fr frv->∃n frv' Γ' X' fr' hp' R',qYq (Sn C n) C ops l frv Γ.h=some (frv',Γ'.h)/\
  SatH C G Γ' hp' X' R'/\FRel Γ' fr' frv'/\Frm m Γ hp X Γ' hp' X'/\K fr' hp' Γ'.nw R'
section
variable {m:Nat} {ops:Array Oper} {l:List Oper} {fr:FrW} {hp:HpW} {nw:Nat} {R:Res} {K:FrW->HpW->Nat->Res->Prop} {o:Oper}
theorem g3q(h:K fr hp nw R):OpW C G m ops [] fr hp nw R K:=λΓ X frv hnw hm s hf=>⟨0,frv,Γ,X,fr,hp,R,rfl,s,hf,Frm.refl _ _ _ _,hnw▸h⟩
theorem zsq(hw:qqq ops fr o=some true)(h:aeq C G o fr hp nw R λw hp' nw' R' _=>OpW C G m ops l (aoq fr o.dst w) hp' nw' R' K):OpW C G m ops (o::l) fr hp nw R K:=λΓ X frv hnw hm s hf=>by
 obtain⟨n,w,hp',R',ev,v,h',Γ',X',h1,h2,h3,rfl,h5,h6,h7,h8⟩:=h Γ X frv hnw s hf;obtain⟨n',frv',Γ2,X2,fr2,hp2,R2,g1,g2,g3,g4,g5⟩:=h1 Γ' X' (aBq frv o.dst v) rfl (Zs (hnw▸hm) h5.nw) h6 ((hf.mono h5).put h8);refine⟨max n n',frv',Γ2,X2,fr2,hp2,R2,?_,g2,g3,(h7.le (hnw▸hm) (Zc _)).trans g4,g5⟩;have a1:=QKq (qDq C (Nat.le_max_left n n')).1 h2;have a2:=ugq (qDq C (Nat.le_max_right n n')).1 l g1;simp only[qYq,uXq hf hw,a1];exact a2
theorem p5q(hw:qqq ops fr o=some false)(h:OpW C G m ops l (aoq fr o.dst .undef) hp nw R K):OpW C G m ops (o::l) fr hp nw R K:=λΓ X frv hnw hm s hf=>by
 obtain⟨n',frv',Γ2,X2,fr2,hp2,R2,g1,g2⟩:=h Γ X (aBq frv o.dst .undef) hnw hm s (hf.put (RV_undef.2 rfl));exact⟨n',frv',Γ2,X2,fr2,hp2,R2,by simp only[qYq,uXq hf hw];exact g1,g2⟩
theorem yyq{w:W}(hw:qqq ops fr o=some true)(hx:yJq C G fr o.op=some w)(h:OpW C G m ops l (aoq fr o.dst w) hp nw R K):OpW C G m ops (o::l) fr hp nw R K:=zsq hw (a3q hx h)
theorem jbq{w:W}{hp2:HpW}{nw2:Nat}{ev:EvW}(hw:qqq ops fr o=some true)(hx:aDq C G fr hp nw o.op=some (w,hp2,nw2,ev))(h:OpW C G m ops l (aoq fr o.dst w) hp2 nw2 R K):OpW C G m ops (o::l) fr hp nw R K:=zsq hw (jvq hx h)
end
noncomputable def EvW.clash:EvW->EvW->Bool
 |.loadO _,.loadO _=>false
 |.loadO _,.loadF=>false
 |.loadF,.loadO _=>false
 |.loadF,.loadF=>false
 |.loadO a,.storeO b=>Nat.beq a b
 |.storeO a,.loadO b=>Nat.beq a b
 |.storeO a,.storeO b=>Nat.beq a b
 |.loadF,.storeO _=>false
 |.gen,.loadO _=>false
 |.gen,.loadF=>false
 |.loadO _,.gen=>false
 |.loadF,.gen=>false
 |.gen,.gen=>false
 |.loadO a,.updO b=>Nat.beq a b
 |.updO a,.loadO b=>Nat.beq a b
 |.loadF,.updO _=>false
 |.mkO n,.storeO b=>!Nat.blt b n
 |.mkO _,.updO _=>true
 |.mkO _,.dirty=>true
 |.mkO _,_=>false
 |.updO _,.mkO _=>true
 |.dirty,.mkO _=>true
 |_,.mkO _=>false
 |_,_=>true
noncomputable def c5q(ops:Array Oper)(j:Nat)(x:EvW):List (Nat×EvW) ->Bool
 |[]=>true
 |(k,y)::l=>(match y.clash x with|true=>xyq ops ops.size j k|false=>true)&&c5q ops j x l
noncomputable def EvP(Γ:Ctx)(hp:HpW):EvW->Ev->Prop
 |.loadO b,e=>∃c,e= .load c/\c<Γ.h.next/\b<Γ.nw/\Γ.σ b=c/\∀k x,hget hp k=some x->Γ.σ k=c->k=b
 |.loadF,e=>∃c,e= .load c/\Γ.D c
 |.storeO b,e=>∃c,e= .store c/\c<Γ.h.next/\b<Γ.nw/\Γ.σ b=c/\∀k x,hget hp k=some x->Γ.σ k=c->k=b
 |.gen,e=>e= .gen\/∃c,e= .load c
 |.dirty,_=>True
 |.updO b,e=>e= .gen\/∃c,e= .upd c/\c<Γ.h.next/\b<Γ.nw/\Γ.σ b=c/\∀k x,hget hp k=some x->Γ.σ k=c->k=b
 |.mkO n,e=>∃c,e= .mk c/\n<=Γ.nw/\∀k x,k<n->hget hp k=some x->Γ.σ k<c
noncomputable def EsP(Γ:Ctx)(hp:HpW):List (Nat×EvW) ->List (Nat×Ev) ->Prop
 |[],l=>l=[]
 |(i,x)::es,l=>∃y l',l=(i,y)::l'/\EvP Γ hp x y/\EsP Γ hp es l'
theorem EvP.later{Γ Γ':Ctx}{hp hp':HpW}{X X':Nat->Prop}{x:EvW}{y:Ev}(le:Γ.Le Γ')(f:Frm Γ.nw Γ hp X Γ' hp' X')(h:EvP Γ hp x y):EvP Γ' hp' x y:=by
 have key:∀{b c},c<Γ.h.next->b<Γ.nw->Γ.σ b=c->(∀k x,hget hp k=some x->Γ.σ k=c->k=b) ->c<Γ'.h.next/\b<Γ'.nw/\Γ'.σ b=c/\∀k x,hget hp' k=some x->Γ'.σ k=c->k=b:=λ{b c} h1 h2 h3 h4=>by
  refine⟨Zw h1 f.next,Zw h2 le.nw,(le.σ b h2).trans h3,λk z hk hc=>?_⟩;rcases ZM k Γ.nw with hlt|hge
  .obtain⟨u,hu⟩:=f.oext k z hlt hk;exact h4 k u hu (by rw[<-hc,le.σ k hlt])
  .rcases f.onum k z hge hk with h5|⟨j,u,h5,h6,h7⟩
   .omega
   .have:=h4 j u h6 (by rw[h7,hc]);omega
 cases x with
 |loadO b=>
  obtain⟨c,rfl,h1,h2,h3,h4⟩:=h;exact⟨c,rfl,key h1 h2 h3 h4⟩
 |storeO b=>
  obtain⟨c,rfl,h1,h2,h3,h4⟩:=h;exact⟨c,rfl,key h1 h2 h3 h4⟩
 |loadF=>
  obtain⟨c,rfl,h1⟩:=h;exact⟨c,rfl,le.D c h1⟩
 |gen=>exact h
 |dirty=>exact h
 |updO b=>
  rcases h with h|⟨c,rfl,h1,h2,h3,h4⟩
  .exact .inl h
  .exact .inr ⟨c,rfl,key h1 h2 h3 h4⟩
 |mkO n=>
  obtain⟨c,rfl,h1,h2⟩:=h;refine⟨c,rfl,Zs h1 le.nw,λk z hk hz=>?_⟩;obtain⟨u,hu⟩:=f.oext k z (Zw hk h1) hz;rw[le.σ k (Zw hk h1)];exact h2 k u hk hu
theorem EsP.later{Γ Γ':Ctx}{hp hp':HpW}{X X':Nat->Prop}(le:Γ.Le Γ')(f:Frm Γ.nw Γ hp X Γ' hp' X'):∀{es:List (Nat×EvW)} {l:List (Nat×Ev)},EsP Γ hp es l->EsP Γ' hp' es l
 |[],_,h=>h
 |(i,x)::es,_,h=>by
  obtain⟨y,l',rfl,h1,h2⟩:=h;exact⟨y,l',rfl,h1.later le f,EsP.later le f h2⟩
theorem EvR.keep{Γ:Ctx}{hp:HpW}{X:Nat->Prop}{R:Res}(s:SatH C G Γ hp X R){x:EvW}{y:Ev}(h:EvR Γ hp x y):EvP Γ hp x y:=by
 have key:∀{b z},hget hp b=some z->Γ.σ b<Γ.h.next/\b<Γ.nw/\Γ.σ b=Γ.σ b/\∀k x,hget hp k=some x->Γ.σ k=Γ.σ b->k=b:=λ{b z} hz=>by
  obtain⟨h1,_,_,v,h2,_⟩:=s.own b z.1 z.2 hz;refine⟨?_,h1,rfl,λk u hk e=>s.inj k b u z hk hz e⟩;rcases ZM (Γ.σ b) Γ.h.next with h|h
  .exact h
  .rw[s.wf _ h] at h2;cases h2
 cases x with
 |loadO b=>obtain⟨z,hz,rfl⟩:=h;exact⟨_,rfl,key hz⟩
 |storeO b=>obtain⟨z,hz,rfl⟩:=h;exact⟨_,rfl,key hz⟩
 |loadF=>obtain⟨c,h1,rfl⟩:=h;exact⟨c,rfl,h1⟩
 |gen=>exact h
 |dirty=>exact h
 |updO b=>
  rcases h with h|⟨z,hz,rfl⟩
  .exact .inl h
  .exact .inr ⟨_,rfl,key hz⟩
 |mkO n=>
  obtain⟨rfl,rfl⟩:=h;exact⟨_,rfl,Zc _,λk z _ hz=>(key hz).1⟩
theorem iqq{Γ:Ctx}{hp:HpW}{X:Nat->Prop}{R:Res}(s:SatH C G Γ hp X R){x y:EvW}{x' y':Ev}(hy:EvP Γ hp y y')(hx:EvR Γ hp x x')(h:y.clash x=false):y'.clash x'=false:=by
 have ne:∀{a b:Nat},Nat.beq a b=false->a≠b:=λh e=>by subst e;simp at h
 have beq:∀{a b:Nat},a≠b->Nat.beq a b=false:=λ{a b} h=>by
  cases hq:Nat.beq a b with
  |true=>exact absurd (Zh hq) h
  |false=>rfl
 cases y<;>cases x<;>simp only[EvW.clash] at h<;>try (cases h;done)
 case loadO.loadO=>obtain⟨_,rfl,_⟩:=hy;obtain⟨_,_,rfl⟩:=hx;rfl
 case loadO.loadF=>obtain⟨_,rfl,_⟩:=hy;obtain⟨_,_,rfl⟩:=hx;rfl
 case loadO.storeO a b=>
  obtain⟨c,rfl,h1,h2,h3,h4⟩:=hy;obtain⟨z,hz,rfl⟩:=hx;exact beq λe=>ne h (h4 b z hz e.symm).symm
 case loadO.gen=>obtain⟨_,rfl,_⟩:=hy;rcases hx with rfl|⟨_,rfl⟩<;>rfl
 case loadF.loadO=>obtain⟨_,rfl,_⟩:=hy;obtain⟨_,_,rfl⟩:=hx;rfl
 case loadF.loadF=>obtain⟨_,rfl,_⟩:=hy;obtain⟨_,_,rfl⟩:=hx;rfl
 case loadF.storeO b=>
  obtain⟨c,rfl,h1⟩:=hy;obtain⟨z,hz,rfl⟩:=hx;exact beq λe=>(s.own b z.1 z.2 hz).2.1 (e▸h1)
 case loadF.gen=>obtain⟨_,rfl,_⟩:=hy;rcases hx with rfl|⟨_,rfl⟩<;>rfl
 case storeO.loadO a b=>
  obtain⟨c,rfl,h1,h2,h3,h4⟩:=hy;obtain⟨z,hz,rfl⟩:=hx;exact beq λe=>ne h (h4 b z hz e.symm).symm
 case storeO.storeO a b=>
  obtain⟨c,rfl,h1,h2,h3,h4⟩:=hy;obtain⟨z,hz,rfl⟩:=hx;exact beq λe=>ne h (h4 b z hz e.symm).symm
 case gen.loadO=>obtain⟨_,_,rfl⟩:=hx;rcases hy with rfl|⟨_,rfl⟩<;>rfl
 case gen.loadF=>obtain⟨_,_,rfl⟩:=hx;rcases hy with rfl|⟨_,rfl⟩<;>rfl
 case gen.gen=>rcases hy with rfl|⟨_,rfl⟩<;>rcases hx with rfl|⟨_,rfl⟩<;>rfl
 case loadO.updO a b=>
  obtain⟨c,rfl,h1,h2,h3,h4⟩:=hy;rcases hx with rfl|⟨z,hz,rfl⟩
  .rfl
  .exact beq λe=>ne h (h4 b z hz e.symm).symm
 case loadF.updO b=>
  obtain⟨c,rfl,h1⟩:=hy;rcases hx with rfl|⟨z,hz,rfl⟩
  .rfl
  .exact beq λe=>(s.own b z.1 z.2 hz).2.1 (e▸h1)
 case updO.loadO a b=>
  obtain⟨z,hz,rfl⟩:=hx;rcases hy with rfl|⟨c,rfl,h1,h2,h3,h4⟩
  .rfl
  .exact beq λe=>ne h (h4 b z hz e.symm).symm
 case mkO.loadO=>obtain⟨_,rfl,_⟩:=hy;obtain⟨_,_,rfl⟩:=hx;rfl
 case mkO.loadF=>obtain⟨_,rfl,_⟩:=hy;obtain⟨_,_,rfl⟩:=hx;rfl
 case mkO.gen=>obtain⟨_,rfl,_⟩:=hy;rcases hx with rfl|⟨_,rfl⟩<;>rfl
 case mkO.mkO=>obtain⟨_,rfl,_⟩:=hy;obtain⟨_,rfl⟩:=hx;rfl
 case mkO.storeO n b=>
  obtain⟨c,rfl,_,h2⟩:=hy;obtain⟨z,hz,rfl⟩:=hx;have:=h2 b z (by simpa using h) hz;exact beq Xd
 case loadO.mkO=>obtain⟨_,rfl,_⟩:=hy;obtain⟨_,rfl⟩:=hx;rfl
 case loadF.mkO=>obtain⟨_,rfl,_⟩:=hy;obtain⟨_,rfl⟩:=hx;rfl
 case gen.mkO=>obtain⟨_,rfl⟩:=hx;rcases hy with rfl|⟨_,rfl⟩<;>rfl
 case storeO.mkO=>
  obtain⟨c,rfl,h1,_⟩:=hy;obtain⟨_,rfl⟩:=hx;exact beq Xd
theorem hZq{Γ:Ctx}{hp:HpW}{X:Nat->Prop}{R:Res}(s:SatH C G Γ hp X R){ops:Array Oper}{j:Nat}{x:EvW}{x':Ev}(hx:EvR Γ hp x x'):∀{es:List (Nat×EvW)} {l:List (Nat×Ev)},EsP Γ hp es l->c5q ops j x es=true->c6q ops j x' l=true
 |[],_,hl,_=>by rw[show _=[] from hl];rfl
 |(k,y)::es,_,hl,h=>by
  obtain⟨y',l',rfl,h1,h2⟩:=hl;simp only[c5q,Zb] at h;simp only[c6q,Zb];refine⟨?_,hZq s hx h2 h.2⟩;have h:=h.1;split at h
  .split
   .exact h
   .rfl
  .rename_i hc;rw[iqq s h1 hx hc]
noncomputable def FlW(C:Cfg)(G:Nat->Option W)(m:Nat)(ops:Array Oper)(l:List Oper)(i:Nat)(es:List (Nat×EvW))(fr:FrW)(hp:HpW)(nw:Nat)(R:Res)(K:FrW->HpW->Nat->Res->Prop):Prop:=
 ∀Γ X frv esv,Γ.nw=nw->m<=nw->SatH C G Γ hp X R->FRel Γ fr frv->EsP Γ hp es esv->∃n frv' Γ' X' fr' hp' R',yNq (Sn C n) C ops l i esv frv Γ.h=some (frv',Γ'.h)/\
  SatH C G Γ' hp' X' R'/\FRel Γ' fr' frv'/\Frm m Γ hp X Γ' hp' X'/\K fr' hp' Γ'.nw R'
noncomputable def Ctx.wm(Γ:Ctx)(k:Nat):Ctx:={Γ with h:={Γ.h with wmin:=k}}
theorem chq(Γ:Ctx)(k:Nat):Γ.Le (Γ.wm k):=⟨Zc _,λ_ _=>rfl,λ_ h=>h,λ_ _=>rfl⟩
theorem aVq{Γ:Ctx}{hp:HpW}{X:Nat->Prop}{R:Res}(s:SatH C G Γ hp X R)(k:Nat):SatH C G (Γ.wm k) hp X R:=
 ⟨s.wf,λb ty w h=>by
  obtain⟨h1,h2,h3,v,h4,h5⟩:=s.own b ty w h;exact⟨h1,h2,h3,v,h4,h5.mono (chq Γ k)⟩,s.inj,s.nd,s.dX,s.xlt,s.dlt,R.st _ _ _ _ _ s.res (chq Γ k).D (chq Γ k).val (λ_ _=>rfl) (Zc _),s.gl.mono (chq Γ k)⟩
theorem EvP.wm{Γ:Ctx}{hp:HpW}{x:EvW}{y:Ev}{k:Nat}(h:EvP Γ hp x y):EvP (Γ.wm k) hp x y:=by cases x<;>exact h
theorem EsP.wm{Γ:Ctx}{hp:HpW}{k:Nat}:∀{es:List (Nat×EvW)} {l:List (Nat×Ev)},EsP Γ hp es l->EsP (Γ.wm k) hp es l
 |[],_,h=>h
 |(i,x)::es,_,h=>by
  obtain⟨y,l',rfl,h1,h2⟩:=h;exact⟨y,l',rfl,h1.wm,EsP.wm h2⟩
theorem EvP.unwm{Γ:Ctx}{hp:HpW}{x:EvW}{y:Ev}{k:Nat}(h:EvP (Γ.wm k) hp x y):EvP Γ hp x y:=by cases x<;>exact h
theorem tVq{S:Nat->Prop}{a b:Nat}(h1:S a)(h2:S b):S (d3q a b):=by unfold d3q;split<;>assumption
section
variable {m:Nat} {ops:Array Oper} {l:List Oper} {i:Nat} {es:List (Nat×EvW)} {fr:FrW} {hp:HpW} {nw:Nat} {R:Res} {K:FrW->HpW->Nat->Res->Prop} {o:Oper}
theorem woq(h:K fr hp nw R):FlW C G m ops [] i es fr hp nw R K:=λΓ X frv esv hnw hm s hf _=>⟨0,frv,Γ,X,fr,hp,R,rfl,s,hf,Frm.refl _ _ _ _,hnw▸h⟩
theorem qmq(hw:qqq ops fr o=some true)(h:aeq C G o fr hp nw R λw hp' nw' R' ev=>match ev with
  |none=>FlW C G m ops l (i+1) es (aoq fr o.dst w) hp' nw' R' K
  |some e=>c5q ops i e es=true/\FlW C G m ops l (i+1) ((i,e)::es) (aoq fr o.dst w) hp' nw' R' K):FlW C G m ops (o::l) i es fr hp nw R K:=λΓ X frv esv hnw hm s hf he=>by
 obtain⟨n,w,hp',R',ev,v,h',Γ',X',h1,h2,h3,h4,h5,h6,h7,h8⟩:=h (Γ.wm Γ.h.next) X frv hnw (aVq s _) (hf.mono (chq _ _));cases ev with
 |none=>
  obtain⟨h3,h3'⟩:=h3
  --nothing was done to memory
  have e0:Γ'.h=(Γ.wm Γ.h.next).h:=h4.trans h3';have le1:Γ.Le (Γ'.wm Γ.h.wmin):=⟨h5.nw,h5.σ,h5.D,h5.val⟩
  have eh:(Γ'.wm Γ.h.wmin).h=Γ.h:=by
   simp only[Ctx.wm,e0]
  have fr1:Frm Γ.nw Γ hp X (Γ'.wm Γ.h.wmin) hp' X':=⟨h7.sig,h7.mle,by rw[eh];exact Zc _,λc _ _ _=>by rw[eh],h7.dsub,h7.dnew,h7.oext,h7.onum,h7.xnew,λk hk _ _=>by rw[eh];exact hk⟩;obtain⟨n',frv',Γ2,X2,fr2,hp2,R2,g1,g2,g3,g4,g5⟩:=h1 (Γ'.wm Γ.h.wmin) X' (aBq frv o.dst v) esv rfl (Zs (hnw▸hm) h5.nw) (aVq h6 _) ((hf.mono le1).put (h8.mono (chq _ _))) (he.later le1 fr1);refine⟨n',frv',Γ2,X2,fr2,hp2,R2,?_,g2,g3,(fr1.le (hnw▸hm) (Zc _)).trans g4,g5⟩;rw[eh] at g1;simp only[yNq,uXq hf hw,Qmq,h3];exact g1
 |some e=>
  obtain⟨h3,h3'⟩:=h3;obtain⟨hev,h1⟩:=h1;have hx:EvR (Γ.wm Γ.h.next) hp e (asq C frv Γ.h h' o.op):=h3' Γ.h rfl ⟨rfl,rfl⟩;have le1:Γ.Le (Γ'.wm (d3q Γ.h.wmin Γ'.h.wmin)):=⟨h5.nw,h5.σ,h5.D,h5.val⟩;have fr1:Frm Γ.nw Γ hp X (Γ'.wm (d3q Γ.h.wmin Γ'.h.wmin)) hp' X':=⟨h7.sig,h7.mle,h7.next,h7.keep,h7.dsub,h7.dnew,h7.oext,h7.onum,h7.xnew,λS hk h9 h10=>tVq hk (h7.wmin S (h9 _ (Zc _)) h9 h10)⟩;have hP:EvP (Γ'.wm (d3q Γ.h.wmin Γ'.h.wmin)) hp' e (asq C frv Γ.h h' o.op):=((EvR.keep (aVq s _) hx).unwm).later le1 fr1;obtain⟨n',frv',Γ2,X2,fr2,hp2,R2,g1,g2,g3,g4,g5⟩:=h1 (Γ'.wm (d3q Γ.h.wmin Γ'.h.wmin)) X' (aBq frv o.dst v) ((i,asq C frv Γ.h h' o.op)::esv) rfl (Zs (hnw▸hm) h5.nw) (aVq h6 _) ((hf.mono le1).put (h8.mono (chq _ _))) ⟨_,_,rfl,hP,he.later le1 fr1⟩;refine⟨max n n',frv',Γ2,X2,fr2,hp2,R2,?_,g2,g3,(fr1.le (hnw▸hm) (Zc _)).trans g4,g5⟩;have a1:=QKq (qDq C (Nat.le_max_left n n')).1 h2;have a2:=kgq (qDq C (Nat.le_max_right n n')).1 l g1;have a3:=hZq (ops:=ops) (j:=i) (aVq s Γ.h.next) hx he.wm hev;have a1:opV (Sn C (max n n')) C frv {Γ.h with wmin:=Γ.h.next} o=some (v,h'):=a1;simp only[yNq,uXq hf hw,Qmq,h3,a1,a3];have eh:(Γ'.wm (d3q Γ.h.wmin Γ'.h.wmin)).h={h' with wmin:=d3q Γ.h.wmin h'.wmin}:=by simp only[Ctx.wm,h4]
  rw[eh] at a2;exact a2
theorem rwq(hw:qqq ops fr o=some false)(h:FlW C G m ops l (i+1) es (aoq fr o.dst .undef) hp nw R K):FlW C G m ops (o::l) i es fr hp nw R K:=λΓ X frv esv hnw hm s hf he=>by
 obtain⟨n',frv',Γ2,X2,fr2,hp2,R2,g1,g2⟩:=h Γ X (aBq frv o.dst .undef) esv hnw hm s (hf.put (RV_undef.2 rfl)) he;exact⟨n',frv',Γ2,X2,fr2,hp2,R2,by simp only[yNq,uXq hf hw];exact g1,g2⟩
theorem jOq{w:W}(hw:qqq ops fr o=some true)(hx:yJq C G fr o.op=some w)(h:FlW C G m ops l (i+1) es (aoq fr o.dst w) hp nw R K):FlW C G m ops (o::l) i es fr hp nw R K:=qmq hw (a3q hx h)
theorem vqq{w:W}{hp2:HpW}{nw2:Nat}{ev:EvW}(hw:qqq ops fr o=some true)(hx:aDq C G fr hp nw o.op=some (w,hp2,nw2,ev))(hc:c5q ops i ev es=true)(h:FlW C G m ops l (i+1) ((i,ev)::es) (aoq fr o.dst w) hp2 nw2 R K):FlW C G m ops (o::l) i es fr hp nw R K:=qmq hw (jvq hx ⟨hc,h⟩)
end
end
structure SatS(C:Cfg)(G:Nat->Option W)(k0:Nat)(Γ:Ctx)(hp:HpW)(X:Nat->Prop)(R:Res)(fr:FrW)(st:St):Prop where
 hh:st.h=Γ.h
 fr:FRel Γ fr st.fr
 sat:SatH C G Γ hp X R
 ds:∀d∈st.ds,k0<=d/\d<Γ.h.next/\Γ.h.get d=some (.dfr false)/\¬amq Γ hp d/\¬X d/\¬Γ.D d
 nd:st.ds.Nodup
abbrev qpq:=Exit->FrW->HpW->Nat->Res->Prop
noncomputable def CoW(C:Cfg)(G:Nat->Option W)(m k0:Nat)(rd:Bool)(c:Code)(fr:FrW)(hp:HpW)(nw:Nat)(R:Res)(Q:qpq):Prop:=
 ∀Γ X st,Γ.nw=nw->m<=nw->k0<=Γ.h.next->st.rd=rd->SatS C G k0 Γ hp X R fr st->∃n x st' Γ' X' fr' hp' R',zdq (Sn C n) (Fl C n) C c st=some (x,st')/\
  SatS C G k0 Γ' hp' X' R' fr' st'/\Frm m Γ hp X Γ' hp' X'/\st'.rd=rd/\Q x fr' hp' Γ'.nw R'
section
variable {C:Cfg} {G:Nat->Option W} {m k0:Nat} {rd:Bool} {fr fr2:FrW} {hp hp2:HpW} {nw nw2:Nat} {R R2:Res} {Q:qpq}
theorem erq{Γ Γ':Ctx}{X X':Nat->Prop}{k:Nat}{ds:List Nat}(h:∀d∈ds,k0<=d/\d<Γ.h.next/\Γ.h.get d=some (.dfr false)/\¬amq Γ hp d/\¬X d/\¬Γ.D d)(f:Frm k Γ hp X Γ' hp2 X'):
  ∀d∈ds,k0<=d/\d<Γ'.h.next/\Γ'.h.get d=some (.dfr false)/\¬amq Γ' hp2 d/\¬X' d/\¬Γ'.D d:=λd hd=>by
 obtain⟨h1,h2,h3,h4,h5,h6⟩:=h d hd;refine⟨h1,Zw h2 f.next,by rw[f.keep d h2 h4 h5];exact h3,λh=>?_,λh=>?_,λh=>?_⟩
 .rcases f.onew d h with h|h
  .exact h4 h
  .omega
 .rcases f.xnew d h with h|h
  .exact h5 h
  .omega
 .rcases f.dnew d h with h|(h|h)|h
  .exact h6 h
  .exact h4 h
  .exact h5 h
  .omega
theorem Kfq{c:Code}{Q':qpq}(h:CoW C G m k0 rd c fr hp nw R Q)(hq:∀x fr hp nw R,Q x fr hp nw R->Q' x fr hp nw R):CoW C G m k0 rd c fr hp nw R Q':=λΓ X st h1 h2 h3 h4 h5=>by
 obtain⟨n,x,st',Γ',X',fr',hp',R',g1,g2,g3,g4,g5⟩:=h Γ X st h1 h2 h3 h4 h5;exact⟨n,x,st',Γ',X',fr',hp',R',g1,g2,g3,g4,hq _ _ _ _ _ g5⟩
theorem ipq{c:Code}{x:Exit}(hc:∀(n:Nat) st,zdq (Sn C n) (Fl C n) C c st=some (x,st))(h:Q x fr hp nw R):CoW C G m k0 rd c fr hp nw R Q:=λΓ X st h1 h2 h3 h4 h5=>
 ⟨0,x,st,Γ,X,fr,hp,R,hc 0 st,h5,Frm.refl _ _ _ _,h4,h1▸h⟩
theorem r4q(h:Q .normal fr hp nw R):CoW C G m k0 rd .skip fr hp nw R Q:=ipq (λ_ _=>by simp only[zdq]) h
theorem r7q{id:Nat}(h:Q (.exit id) fr hp nw R):CoW C G m k0 rd (.exit id) fr hp nw R Q:=ipq (λ_ _=>by simp only[zdq]) h
theorem wNq(h:Q .ret fr hp nw R):CoW C G m k0 rd .ret fr hp nw R Q:=ipq (λ_ _=>by simp only[zdq]) h
theorem r5q{l:Nat}(h:Q (.goto l) fr hp nw R):CoW C G m k0 rd (.goto l) fr hp nw R Q:=ipq (λ_ _=>by simp only[zdq]) h
theorem nkq{l:Nat}(h:Q .normal fr hp nw R):CoW C G m k0 rd (.label l) fr hp nw R Q:=ipq (λ_ _=>by simp only[zdq]) h
theorem ijq{id:Nat}{ops:Array Oper}(h:OpW C G m ops ops.toList fr hp nw R λfr' hp' nw' R'=>Q .normal fr' hp' nw' R'):CoW C G m k0 rd (.region id ops false) fr hp nw R Q:=λΓ X st h1 h2 h3 h4 h5=>by
 obtain⟨n,frv',Γ',X',fr',hp',R',g1,g2,g3,g4,g5⟩:=h Γ X st.fr h1 h2 h5.sat h5.fr;refine⟨n,.normal,⟨frv',Γ'.h,st.ds,st.rd⟩,Γ',X',fr',hp',R',?_,⟨rfl,g3,g2,erq h5.ds g4,h5.nd⟩,g4,h4,g5⟩;simp only[zdq,h5.hh,g1]
theorem r6q{id:Nat}{ops:Array Oper}(h:FlW C G m ops ops.toList 0 [] fr hp nw R λfr' hp' nw' R'=>Q .normal fr' hp' nw' R'):CoW C G m k0 rd (.region id ops true) fr hp nw R Q:=λΓ X st h1 h2 h3 h4 h5=>by
 obtain⟨n,frv',Γ',X',fr',hp',R',g1,g2,g3,g4,g5⟩:=h Γ X st.fr [] h1 h2 h5.sat h5.fr rfl;refine⟨n,.normal,⟨frv',Γ'.h,st.ds,st.rd⟩,Γ',X',fr',hp',R',?_,⟨rfl,g3,g2,erq h5.ds g4,h5.nd⟩,g4,h4,g5⟩;simp only[zdq,h5.hh,g1]
noncomputable def Awq(C:Cfg)(G:Nat->Option W)(m k0:Nat)(rd:Bool)(y:Code)(Q:qpq):qpq
 |.normal,fr,hp,nw,R=>CoW C G m k0 rd y fr hp nw R Q
 |x,fr,hp,nw,R=>Q x fr hp nw R
theorem ozq{x y:Code}(h:CoW C G m k0 rd x fr hp nw R (Awq C G m k0 rd y Q)):CoW C G m k0 rd (.seq x y) fr hp nw R Q:=λΓ X st h1 h2 h3 h4 h5=>by
 obtain⟨n,e,st',Γ',X',fr',hp',R',g1,g2,g3,g4,g5⟩:=h Γ X st h1 h2 h3 h4 h5;by_cases he:e= .normal
 .subst he;obtain⟨n2,e2,st2,Γ2,X2,fr2,hp2,R2,k1,k2,k3,k4,k5⟩:=g5 Γ' X' st' rfl (g3.mle (h1▸h2)|>λq=>q) (Zs h3 g3.next) g4 g2;refine⟨max n n2,e2,st2,Γ2,X2,fr2,hp2,R2,?_,k2,g3.trans k3,k4,k5⟩;have l1:=qDq C (Nat.le_max_left n n2);have l2:=qDq C (Nat.le_max_right n n2);simp only[zdq,zIq l1.1 l1.2 x g1];exact zIq l2.1 l2.2 y k1
 .refine⟨n,e,st',Γ',X',fr',hp',R',?_,g2,g3,g4,?_⟩
  .simp only[zdq,g1];cases e<;>first|rfl|exact absurd rfl he
  .cases e<;>first|exact g5|exact absurd rfl he
theorem ioq{c:Operand}{x y:Code}{b:Bool}(hc:evW C G fr c=some (.bool b))(ht:b=true->CoW C G m k0 rd x fr hp nw R Q)(hf:b=false->CoW C G m k0 rd y fr hp nw R Q):CoW C G m k0 rd (.cond c x y) fr hp nw R Q:=λΓ X st h1 h2 h3 h4 h5=>by
 obtain⟨v,e1,e2⟩:=zSq h5.fr h5.sat.gl hc;rw[RV_bool] at e2;subst e2
 cases b with
 |true=>
  obtain⟨n,g⟩:=ht rfl Γ X st h1 h2 h3 h4 h5;exact⟨n,by simpa only[zdq,e1] using g⟩
 |false=>
  obtain⟨n,g⟩:=hf rfl Γ X st h1 h2 h3 h4 h5;exact⟨n,by simpa only[zdq,e1] using g⟩
theorem iiq{c:Operand}{x y:Code}(hc:evW C G fr c=some (.bool true))(h:CoW C G m k0 rd x fr hp nw R Q):CoW C G m k0 rd (.cond c x y) fr hp nw R Q:=ioq hc (λ_=>h) (λh=>by cases h)
theorem eyq{c:Operand}{x y:Code}(hc:evW C G fr c=some (.bool false))(h:CoW C G m k0 rd y fr hp nw R Q):CoW C G m k0 rd (.cond c x y) fr hp nw R Q:=ioq hc (λh=>by cases h) (λ_=>h)
noncomputable def Zvq(id:Nat)(Q:qpq):qpq
 |.exit id',fr,hp,nw,R=>match Nat.beq id' id with
  |true=>Q .normal fr hp nw R
  |false=>Q (.exit id') fr hp nw R
 |x,fr,hp,nw,R=>Q x fr hp nw R
theorem nlq{id:Nat}{x:Code}(h:CoW C G m k0 rd x fr hp nw R (Zvq id Q)):CoW C G m k0 rd (.block id x) fr hp nw R Q:=λΓ X st h1 h2 h3 h4 h5=>by
 obtain⟨n,e,st',Γ',X',fr',hp',R',g1,g2,g3,g4,g5⟩:=h Γ X st h1 h2 h3 h4 h5;cases e with
 |exit id'=>
  simp only[Zvq] at g5;refine⟨n,(match Nat.beq id' id with|true=>.normal|false=>.exit id'),st',Γ',X',fr',hp',R',?_,g2,g3,g4,?_⟩
  .simp only[zdq,g1];cases Nat.beq id' id<;>rfl
  .cases hb:Nat.beq id' id with
   |true=>rw[hb] at g5;exact g5
   |false=>rw[hb] at g5;exact g5
 |normal=>exact⟨n,_,st',Γ',X',fr',hp',R',by simp only[zdq,g1],g2,g3,g4,g5⟩
 |ret=>exact⟨n,_,st',Γ',X',fr',hp',R',by simp only[zdq,g1],g2,g3,g4,g5⟩
 |goto l=>exact⟨n,_,st',Γ',X',fr',hp',R',by simp only[zdq,g1],g2,g3,g4,g5⟩
 |panic p=>exact⟨n,_,st',Γ',X',fr',hp',R',by simp only[zdq,g1],g2,g3,g4,g5⟩
 |outgrown=>exact⟨n,_,st',Γ',X',fr',hp',R',by simp only[zdq,g1],g2,g3,g4,g5⟩
noncomputable def Jcq(C:Cfg)(G:Nat->Option W)(m k0:Nat)(rd:Bool)(c:Code)(Q:qpq):Nat->qpq
 |0,.goto _,_,_,_,_=>False
 |k+1,.goto l,fr,hp,nw,R=>∃rest,findLabel c l=some rest/\CoW C G m k0 rd rest fr hp nw R (Jcq C G m k0 rd c Q k)
 |_,x,fr,hp,nw,R=>Q x fr hp nw R
theorem bbq{c:Code}:∀(k:Nat) {x:Exit} {st:St} {Γ:Ctx} {X:Nat->Prop} {fr:FrW} {hp:HpW} {R:Res},m<=Γ.nw->k0<=Γ.h.next->st.rd=rd->SatS C G k0 Γ hp X R fr st->Jcq C G m k0 rd c Q k x fr hp Γ.nw R->
  ∃n x' st' Γ' X' fr' hp' R',(match x with|.goto l=>(Fl C n).scope c l st|_=>some (x,st))=some (x',st')/\SatS C G k0 Γ' hp' X' R' fr' st'/\Frm m Γ hp X Γ' hp' X'/\st'.rd=rd/\Q x' fr' hp' Γ'.nw R'
 |k,.normal,st,Γ,X,fr,hp,R,_,_,h3,h4,h5=>⟨0,_,st,Γ,X,fr,hp,R,rfl,h4,Frm.refl _ _ _ _,h3,by cases k<;>exact h5⟩
 |k,.ret,st,Γ,X,fr,hp,R,_,_,h3,h4,h5=>⟨0,_,st,Γ,X,fr,hp,R,rfl,h4,Frm.refl _ _ _ _,h3,by cases k<;>exact h5⟩
 |k,.exit id,st,Γ,X,fr,hp,R,_,_,h3,h4,h5=>⟨0,_,st,Γ,X,fr,hp,R,rfl,h4,Frm.refl _ _ _ _,h3,by cases k<;>exact h5⟩
 |k,.panic p,st,Γ,X,fr,hp,R,_,_,h3,h4,h5=>⟨0,_,st,Γ,X,fr,hp,R,rfl,h4,Frm.refl _ _ _ _,h3,by cases k<;>exact h5⟩
 |k,.outgrown,st,Γ,X,fr,hp,R,_,_,h3,h4,h5=>⟨0,_,st,Γ,X,fr,hp,R,rfl,h4,Frm.refl _ _ _ _,h3,by cases k<;>exact h5⟩
 |0,.goto l,st,Γ,X,fr,hp,R,_,_,h3,h4,h5=>by simp only[Jcq] at h5
 |k+1,.goto l,st,Γ,X,fr,hp,R,h1,h2,h3,h4,h5=>by
  simp only[Jcq] at h5;obtain⟨rest,hr,h5⟩:=h5;obtain⟨n,e,st',Γ',X',fr',hp',R',g1,g2,g3,g4,g5⟩:=h5 Γ X st rfl h1 h2 h3 h4;obtain⟨n2,x2,st2,Γ2,X2,fr2,hp2,R2,k1,k2,k3,k4,k5⟩:=bbq k (g3.mle h1) (Zs h2 g3.next) g4 g2 g5;refine⟨max n n2+1,x2,st2,Γ2,X2,fr2,hp2,R2,?_,k2,g3.trans k3,k4,k5⟩;have l1:=qDq C (Nat.le_max_left n n2);have l2:=qDq C (Nat.le_max_right n n2);show zRq C (max n n2+1) c l st=some (x2,st2);have e1:=zIq l1.1 l1.2 rest g1;have e1:zdq ⟨yPq C (max n n2),zNq C (max n n2)⟩ ⟨ybq C (max n n2),zRq C (max n n2)⟩ C rest st=some (e,st'):=e1;simp only[zRq,hr,e1];cases e with
  |goto l'=>exact l2.2.scope _ _ _ _ k1
  |normal=>exact k1
  |ret=>exact k1
  |exit id=>exact k1
  |panic p=>exact k1
  |outgrown=>exact k1
theorem ZXq(k:Nat){c:Code}(h:CoW C G m k0 rd c fr hp nw R (Jcq C G m k0 rd c Q k)):CoW C G m k0 rd (.scope c) fr hp nw R Q:=λΓ X st h1 h2 h3 h4 h5=>by
 obtain⟨n,e,st',Γ',X',fr',hp',R',g1,g2,g3,g4,g5⟩:=h Γ X st h1 h2 h3 h4 h5;obtain⟨n2,x2,st2,Γ2,X2,fr2,hp2,R2,k1,k2,k3,k4,k5⟩:=bbq k (g3.mle (h1▸h2)) (Zs h3 g3.next) g4 g2 g5;refine⟨max n n2,x2,st2,Γ2,X2,fr2,hp2,R2,?_,k2,g3.trans k3,k4,k5⟩;have l1:=qDq C (Nat.le_max_left n n2);have l2:=qDq C (Nat.le_max_right n n2);simp only[zdq,zIq l1.1 l1.2 c g1];cases e with
 |goto l'=>exact l2.2.scope _ _ _ _ k1
 |normal=>exact k1
 |ret=>exact k1
 |exit id=>exact k1
 |panic p=>exact k1
 |outgrown=>exact k1
noncomputable def Ent(C:Cfg)(G:Nat->Option W)(m k0:Nat)(fr:FrW)(hp:HpW)(nw:Nat)(R:Res)(fr2:FrW)(hp2:HpW)(nw2:Nat)(R2:Res):Prop:=
 ∀Γ X st,Γ.nw=nw->m<=nw->SatS C G k0 Γ hp X R fr st->∃Γ2 X2,Γ2.nw=nw2/\SatS C G k0 Γ2 hp2 X2 R2 fr2 st/\Frm m Γ hp X Γ2 hp2 X2
theorem Ent.refl:Ent C G m k0 fr hp nw R fr hp nw R:=λΓ X _ h _ s=>⟨Γ,X,h,s,Frm.refl _ _ _ _⟩
theorem Ent.trans{fr3:FrW}{hp3:HpW}{nw3:Nat}{R3:Res}(a:Ent C G m k0 fr hp nw R fr2 hp2 nw2 R2)(b:Ent C G m k0 fr2 hp2 nw2 R2 fr3 hp3 nw3 R3):Ent C G m k0 fr hp nw R fr3 hp3 nw3 R3:=λΓ X st h hm s=>by
 obtain⟨Γ2,X2,h2,s2,f2⟩:=a Γ X st h hm s;obtain⟨Γ3,X3,h3,s3,f3⟩:=b Γ2 X2 st h2 (h2▸f2.mle (h▸hm)) s2;exact⟨Γ3,X3,h3,s3,f2.trans f3⟩
theorem oAq{c:Code}(e:Ent C G m k0 fr hp nw R fr2 hp2 nw2 R2)(h:CoW C G m k0 rd c fr2 hp2 nw2 R2 Q):CoW C G m k0 rd c fr hp nw R Q:=λΓ X st h1 h2 h3 h4 h5=>by
 obtain⟨Γ2,X2,e1,e2,e3⟩:=e Γ X st h1 h2 h5;obtain⟨n,x,st',Γ',X',fr',hp',R',g1,g2,g3,g4,g5⟩:=h Γ2 X2 st e1 (e1▸e3.mle (h1▸h2)) (Zs h3 e3.next) h4 e2;exact⟨n,x,st',Γ',X',fr',hp',R',g1,g2,e3.trans g3,g4,g5⟩
theorem m6q(h:∀t w,arq fr2 t=some w->arq fr t=some w):Ent C G m k0 fr hp nw R fr2 hp nw R:=λΓ X st h1 _ s=>
 ⟨Γ,X,h1,⟨s.hh,λt w hw=>s.fr t w (h t w hw),s.sat,s.ds,s.nd⟩,Frm.refl _ _ _ _⟩
noncomputable def x6q{α:Type}(C:Cfg)(G:Nat->Option W)(m k0:Nat)(I:α->Prop)(F:α->FrW)(H:α->HpW)(N:α->Nat)(RR:α->Res)(μ:α->Nat)(k:Nat)(Q:qpq):qpq
 |.normal,fr,hp,nw,R=>∃a,I a/\μ a<k/\Ent C G m k0 fr hp nw R (F a) (H a) (N a) (RR a)
 |x,fr,hp,nw,R=>Q x fr hp nw R
theorem jeq{α:Type}{c:Code}(I:α->Prop)(F:α->FrW)(H:α->HpW)(N:α->Nat)(RR:α->Res)(μ:α->Nat)(a0:α)(h0:I a0)(he:Ent C G m k0 fr hp nw R (F a0) (H a0) (N a0) (RR a0))
  (step:∀a,I a->CoW C G m k0 rd c (F a) (H a) (N a) (RR a) (x6q C G m k0 I F H N RR μ (μ a) Q)):CoW C G m k0 rd (.loop c) fr hp nw R Q:=by
 have key:∀k a,I a->μ a<k->∀Γ X st,Γ.nw=N a->m<=N a->k0<=Γ.h.next->st.rd=rd->SatS C G k0 Γ (H a) X (RR a) (F a) st->∃n x st' Γ' X' fr' hp' R',ybq C n c st=some (x,st')/\
   SatS C G k0 Γ' hp' X' R' fr' st'/\Frm m Γ (H a) X Γ' hp' X'/\st'.rd=rd/\Q x fr' hp' Γ'.nw R':=by
  intro k;induction k with
  |zero=>intro a _ h;omega
  |succ k ih=>
   intro a ha hk Γ X st h1 h2 h3 h4 h5;obtain⟨n,e,st',Γ',X',fr',hp',R',g1,g2,g3,g4,g5⟩:=step a ha Γ X st h1 h2 h3 h4 h5;by_cases hx:e= .normal
   .subst hx;obtain⟨a',i1,i2,i3⟩:=g5;obtain⟨Γ2,X2,e1,e2,e3⟩:=i3 Γ' X' st' rfl (g3.mle (h1▸h2)) g2;obtain⟨n2,x2,st2,Γ3,X3,fr3,hp3,R3,k1,k2,k3,k4,k5⟩:=ih a' i1 Xd Γ2 X2 st' e1 (e1▸e3.mle (g3.mle (h1▸h2))) (Zs h3 (Zs g3.next e3.next)) g4 e2;refine⟨max n n2+1,x2,st2,Γ3,X3,fr3,hp3,R3,?_,k2,(g3.trans e3).trans k3,k4,k5⟩;have l1:=qDq C (Nat.le_max_left n n2);have l2:=qDq C (Nat.le_max_right n n2);have q1:zdq ⟨yPq C (max n n2),zNq C (max n n2)⟩ ⟨ybq C (max n n2),zRq C (max n n2)⟩ C c st=some (.normal,st'):=zIq l1.1 l1.2 c g1;simp only[ybq,q1];exact l2.2.loop _ _ _ k1
   .refine⟨n+1,e,st',Γ',X',fr',hp',R',?_,g2,g3,g4,?_⟩
    .have q1:zdq ⟨yPq C n,zNq C n⟩ ⟨ybq C n,zRq C n⟩ C c st=some (e,st'):=g1;simp only[ybq,q1];cases e<;>first|rfl|exact absurd rfl hx
    .cases e<;>first|exact g5|exact absurd rfl hx
 refine oAq he λΓ X st h1 h2 h3 h4 h5=>?_
 obtain⟨n,x,st',Γ',X',fr',hp',R',g1,g2⟩:=key (μ a0+1) a0 h0 (YE _) Γ X st h1 h2 h3 h4 h5;exact⟨n,x,st',Γ',X',fr',hp',R',by simp only[zdq,Fl];exact g1,g2⟩
theorem y6q{α:Type}{I:α->Prop}{F:α->FrW}{H:α->HpW}{N:α->Nat}{RR:α->Res}{μ:α->Nat}{k:Nat}(a:α)(ha:I a)(hk:μ a<k)(he:Ent C G m k0 fr hp nw R (F a) (H a) (N a) (RR a)):x6q C G m k0 I F H N RR μ k Q .normal fr hp nw R:=⟨a,ha,hk,he⟩
theorem AMq{y:Code}(h:CoW C G m k0 rd y fr hp nw R Q):Awq C G m k0 rd y Q .normal fr hp nw R:=h
noncomputable def aiq(C:Cfg)(G:Nat->Option W)(f:FuncId)(m:Nat)(ws:List W)(hp:HpW)(R:Res)(Q:W->HpW->Nat->Res->Prop):Prop:=
 ∀Γ X vs,Γ.nw=m->SatH C G Γ hp X R->RVL Γ ws vs->∃n v Γ' X' w hp' R',yPq C n f vs Γ.h=some (v,Γ'.h)/\SatH C G Γ' hp' X' R'/\Frm m Γ hp X Γ' hp' X'/\RV Γ' w v/\Q w hp' Γ'.nw R'
noncomputable def Zbq:Nat->List W->FrW
 |_,[]=>[]
 |i,w::ws=>(i,w)::Zbq (i+1) ws
theorem eHq:∀(ws:List W) (i k:Nat),arq (Zbq i ws) k=if i<=k/\k<i+ws.length then ws[k-i]? else none
 |[],i,k=>by simp only[Zbq,arq,YD];rw[Zg Xd]
 |w::ws,i,k=>by
  simp only[Zbq,arq,eHq ws (i+1) k,Zv];by_cases h:i=k
  .subst h;simp
  .have:Nat.beq i k=false:=by
    cases hq:Nat.beq i k with
    |true=>exact absurd (Zh hq) h
    |false=>rfl
   rw[this];by_cases h2:i+1<=k/\k<i+1+ws.length
   .rw[Zt h2,Zt Xd,show k-i=(k-(i+1))+1 by omega];simp
   .simp only;rw[Zg h2,Zg Xd]
theorem x3q{Γ:Ctx}:∀{ws:List W} {vs:List V},RVL Γ ws vs->vs.length=ws.length
 |[],_,h=>by simp only[RVL] at h;subst h;rfl
 |w::ws,_,h=>by
  simp only[RVL] at h;obtain⟨v,vs,rfl,_,h2⟩:=h;simp[x3q h2]
theorem Khq{Γ:Ctx}{ws:List W}{vs:List V}(h:RVL Γ ws vs):FRel Γ (Zbq 0 ws) (x0q 0 vs .nil):=λt w ht=>by
 rw[eHq] at ht;split at ht
 .rename_i hc;obtain⟨v,h1,h2⟩:=iSq h ht;refine⟨v,?_,h2⟩;rw[vGq,Zt (by rw[x3q h];exact hc)];exact h1
 .cases ht
noncomputable def AJq(C:Cfg)(fr:FrW)(hp:HpW):ResultVar->Option W
 |.tmp t=>arq fr t
 |.cell p T=>match arq fr p,C.ty T with
  |some (.ptr b off),some i=>match hget hp b with
   |some (_,v)=>zYq 50 v off i.size i.agg
   |none=>none
  |_,_=>none
noncomputable def gAq(C:Cfg)(fr:FrW)(hp:HpW):List ResultVar->Option (List W)
 |[]=>some []
 |r::l=>match AJq C fr hp r,gAq C fr hp l with
  |some v,some vs=>some (v::vs)
  |_,_=>none
noncomputable def e6q(C:Cfg)(fr:FrW)(hp:HpW)(rs:List ResultVar):Option W:=match gAq C fr hp rs with
 |some [w]=>some w
 |some ws=>some (.tup ws)
 |none=>none
theorem pAq{Γ:Ctx}{hp:HpW}{X:Nat->Prop}{R:Res}{fr:FrW}{frv:Tr V}(s:SatH C G Γ hp X R)(hf:FRel Γ fr frv){r:ResultVar}{w:W}(h:AJq C fr hp r=some w):∃v,toq C frv Γ.h r=some v/\RV Γ w v:=by
 cases r with
 |tmp t=>exact hf t w h
 |cell p T=>
  simp only[AJq] at h;split at h
  .rename_i b off i hx hi;obtain⟨v,h1,h2⟩:=hf _ _ hx;obtain⟨hbn,rfl⟩:=RV_ptr.1 h2;split at h
   .rename_i ty bv hgb;obtain⟨u,q1,q2,q3⟩:=qVq s hgb;obtain⟨y,p1,p2,_⟩:=xFq q3 h;exact⟨y,by simp only[toq,h1,hi,q2,p1],p2⟩
   .cases h
  .cases h
theorem u7q{Γ:Ctx}{hp:HpW}{X:Nat->Prop}{R:Res}{fr:FrW}{frv:Tr V}(s:SatH C G Γ hp X R)(hf:FRel Γ fr frv):∀{rs:List ResultVar} {ws:List W},gAq C fr hp rs=some ws->∃vs,n3q C frv Γ.h rs=some vs/\RVL Γ ws vs
 |[],_,h=>by simp only[gAq] at h;cases h;exact⟨[],rfl,by simp[RVL]⟩
 |r::rs,_,h=>by
  simp only[gAq] at h;split at h
  .rename_i w ws hw hws;cases h;obtain⟨v,h1,h2⟩:=pAq s hf hw;obtain⟨vs,h3,h4⟩:=u7q s hf hws;refine⟨v::vs,by simp only[n3q,h1,h3],?_⟩;simp only[RVL];exact⟨v,vs,rfl,h2,h4⟩
  .cases h
theorem dzq:∀(ds:List Nat) {Γ:Ctx} {hp:HpW} {X:Nat->Prop} {R:Res} {k1:Nat},SatH C G Γ hp X R->(∀d∈ds,k1<=d/\d<Γ.h.next/\Γ.h.get d=some (.dfr false)/\¬amq Γ hp d/\¬X d) ->ds.Nodup->
  (∀d∈ds,¬Γ.D d) ->∃h',qHq ds Γ.h=some h'/\SatH C G {Γ with h:=h'} hp X R/\Γ.Le {Γ with h:=h'}/\h'.next=Γ.h.next/\(∀c,c<k1->h'.get c=Γ.h.get c)/\(∀S:Nat->Prop,S Γ.h.wmin->(∀c,k1<=c->S c) ->S h'.wmin)
 |[],Γ,hp,X,R,k1,s,_,_,_=>⟨Γ.h,rfl,s,Ctx.Le.refl _,rfl,λ_ _=>rfl,λ_ h _=>h⟩
 | d ::ds,Γ,hp,X,R,k1,s,hd,nd,hD=>by
  obtain⟨h1,h2,h3,h4,h5⟩:=hd d (ZS ..);have hDd:=hD d (ZS ..);simp only[Y0] at nd
  have le1:Γ.Le {Γ with h:=Γ.h.put d (.dfr true)}:=⟨Zc _,λ_ _=>rfl,λ_ h=>h,λc hc=>yRq (by
   simp only[Heap.get_put];rw[Zg λe:c=d=>by subst e;exact hDd hc])⟩
  have s1:SatH C G {Γ with h:=Γ.h.put d (.dfr true)} hp X R:=by
   refine⟨λi hi=>?_,λk ty w hk=>?_,s.inj,s.nd,s.dX,s.xlt,s.dlt,?_,s.gl.mono le1⟩
   .simp only[Heap.get_put];have hi:Γ.h.next<=i:=hi;rw[Zg Xd];exact s.wf i hi
   .obtain⟨q1,q2,q3,u,q4,q5⟩:=s.own k ty w hk;refine⟨q1,q2,q3,u,?_,q5.mono le1⟩;simp only[Heap.get_put];rw[Zg λe=>h4 ⟨k,_,hk,e⟩];exact q4
   .exact R.st _ _ _ _ _ s.res le1.D le1.val (λc hc=>by
     simp only[Heap.get_put];rw[Zg λe:c=d=>by subst e;exact h5 hc]) (Zc _)
  obtain⟨h',g1,g2,g3,g4,g5,g6⟩:=dzq ds (Γ:={Γ with h:=Γ.h.put d (.dfr true)}) (k1:=k1) s1 (λe he=>by
   obtain⟨q1,q2,q3,q4,q5⟩:=hd e (ZP _ he);refine⟨q1,q2,?_,q4,q5⟩;simp only[Heap.get_put];rw[Zg λe':e=d=>by subst e';exact nd.1 he];exact q3) nd.2 (λe he=>hD e (ZP _ he))
  refine⟨h',?_,g2,⟨Zc _,λ_ _=>rfl,λ_ h=>h,λc hc=>(g3.val c hc).trans (le1.val c hc)⟩,g4,λc hc=>?_,λS hk hk1=>g6 S ?_ hk1⟩
  .simp only[qHq,h3];exact g1
  .rw[g5 c hc];simp only[Heap.get_put];rw[Zg Xd]
  .exact fKq hk (hk1 _ h1)
theorem pjq{f:FuncId}{fn:Func}{c:Code}{ws:List W}{Q:W->HpW->Nat->Res->Prop}(hk:C.known f=none)(hf:C.fn f=some fn)(hb:fn.body=some c)(hn:ws.length<=fn.ntmps)
  (h:∀k0,CoW C G m k0 false c (Zbq 0 ws) hp m R λx fr' hp' nw' R'=>(x= .normal\/x= .ret)/\∃w,e6q C fr' hp' fn.results.toList=some w/\Q w hp' nw' R'):aiq C G f m ws hp R Q:=λΓ X vs h1 s hv=>by
 obtain⟨n,x,st',Γ',X',fr',hp',R',g1,g2,g3,g4,hx,w,hw,hq⟩:=h Γ.h.next Γ X ⟨x0q 0 vs .nil,Γ.h,[],false⟩ h1 (Zc _) (Zc _) rfl ⟨rfl,Khq hv,s,by simp,YJ⟩;have hDd:∀d∈st'.ds,¬Γ'.D d:=λd hd=>(g2.ds d hd).2.2.2.2.2
 obtain⟨h',t1,t2,t3,t4,t5,t6⟩:=dzq st'.ds g2.sat (λd hd=>by obtain⟨q1,q2,q3,q4,q5,_⟩:=g2.ds d hd;exact⟨q1,q2,q3,q4,q5⟩) g2.nd hDd;have hf2:FRel {Γ' with h:=h'} fr' st'.fr:=g2.fr.mono t3
 have hres:∃v,c4q C fn st'=some (v,h')/\RV {Γ' with h:=h'} w v:=by
  unfold e6q at hw;unfold c4q;rw[g2.hh,t1];simp only;split at hw
  .rename_i w0 hr;cases hw;obtain⟨vs',e1,e2⟩:=u7q t2 hf2 hr;simp only[RVL] at e2;obtain⟨v,vs2,rfl,e3,rfl⟩:=e2;exact⟨v,by rw[e1],e3⟩
  .rename_i ws' hne hr;cases hw;obtain⟨vs',e1,e2⟩:=u7q t2 hf2 hr;refine⟨.tup vs',?_,RV_tup.2 ⟨vs',rfl,e2⟩⟩;rw[e1];have hl:=x3q e2;cases vs' with
   |nil=>rfl
   |cons v vs2=>cases vs2 with
    |nil=>
     cases ws' with
     |nil=>simp at hl
     |cons a l=>cases l with
      |nil=>exact absurd rfl (hne a)
      |cons _ _=>simp at hl
    |cons _ _=>rfl
  .cases hw
 obtain⟨v,hfin,hrv⟩:=hres;refine⟨n+1,v,{Γ' with h:=h'},X',w,hp',R',?_,t2,?_,hrv,hq⟩
 .have g1:zdq ⟨yPq C n,zNq C n⟩ ⟨ybq C n,zRq C n⟩ C c ⟨x0q 0 vs .nil,Γ.h,[],false⟩=some (x,st'):=g1;have hle:Nat.ble vs.length fn.ntmps=true:=Zl (by rw[x3q hv];exact hn);simp only[yPq,hk,hf,hb,hle,g1];rcases hx with rfl|rfl<;>exact hfin
 .exact⟨g3.sig,g3.mle,by rw[t4];exact g3.next,λc hc h2 h3=>by rw[t5 c hc];exact g3.keep c hc h2 h3,g3.dsub,g3.dnew,g3.oext,g3.onum,g3.xnew,λS a1 a2 a3=>t6 S (g3.wmin S a1 a2 a3) a2⟩
end
mutual
noncomputable def adq(τ:Nat->Nat):W->W
 |.undef=>.undef
 |.bool b=>.bool b
 |.int k n=>.int k n
 |.str s=>.str s
 |.nilp=>.nilp
 |.ptr b off=>.ptr (τ b) off
 |.nils=>.nils
 |.sl b base off len esz lim=>.sl (τ b) base off len esz lim
 |.fz l esz full=>.fz (ySq τ l) esz full
 |.fel x=>.fel (adq τ x)
 |.nilm=>.nilm
 |.fn f a c=>.fn f (ySq τ a) (ySq τ c)
 |.yield l=>.yield l
 |.nilf=>.nilf
 |.iface t v=>.iface t (adq τ v)
 |.nili=>.nili
 |.agg n l=>.agg n (ySq τ l)
 |.arr n e l=>.arr n e (ySq τ l)
 |.tup l=>.tup (ySq τ l)
noncomputable def ySq(τ:Nat->Nat):List W->List W
 |[]=>[]
 |w::l=>adq τ w::ySq τ l
end
mutual
/-- no block of one's own in it -/
noncomputable def abq:W->Bool
 |.ptr _ _=>false
 |.sl _ _ _ _ _ _=>false
 |.fz l _ _=>acq l
 |.fel x=>abq x
 |.fn _ a c=>acq a&&acq c
 |.iface _ v=>abq v
 |.agg _ l=>acq l
 |.arr _ _ l=>acq l
 |.tup l=>acq l
 |.undef=>true
 |.bool _=>true
 |.int _ _=>true
 |.str _=>true
 |.nilp=>true
 |.nils=>true
 |.nilm=>true
 |.yield _=>true
 |.nilf=>true
 |.nili=>true
noncomputable def acq:List W->Bool
 |[]=>true
 |w::l=>abq w&&acq l
end
mutual
/-- all numbers in it lie below m -/
noncomputable def agq(m:Nat):W->Bool
 |.ptr b _=>decide (b<m)
 |.sl b _ _ _ _ _=>decide (b<m)
 |.fz l _ _=>azq m l
 |.fel x=>agq m x
 |.fn _ a c=>azq m a&&azq m c
 |.iface _ v=>agq m v
 |.agg _ l=>azq m l
 |.arr _ _ l=>azq m l
 |.tup l=>azq m l
 |.undef=>true
 |.bool _=>true
 |.int _ _=>true
 |.str _=>true
 |.nilp=>true
 |.nils=>true
 |.nilm=>true
 |.yield _=>true
 |.nilf=>true
 |.nili=>true
noncomputable def azq(m:Nat):List W->Bool
 |[]=>true
 |w::l=>agq m w&&azq m l
end
theorem Ydq(τ:Nat->Nat):∀l:List W,(ySq τ l).length=l.length
 |[]=>rfl
 |w::l=>by simp[ySq,Ydq τ l]
theorem kMq(τ:Nat->Nat)(w:W):(adq τ w).size=w.size:=by cases w<;>rfl
theorem jSq(τ:Nat->Nat)(w:W):(adq τ w).isAgg=w.isAgg:=by cases w<;>rfl
theorem Yeq{τ:Nat->Nat}{e:Nat}:∀{l:List W},(∀x∈l,x.size=e) ->∀x∈ySq τ l,x.size=e
 |[],_,x,hx=>by simp[ySq] at hx
 |w::l,h,x,hx=>by
  simp only[ySq,ZF] at hx;rcases hx with rfl|hx
  .rw[kMq];exact h w (ZS ..)
  .exact Yeq (λy hy=>h y (ZP _ hy)) x hx
theorem vUq{τ:Nat->Nat}{e:Nat}:∀{l:List W},(∀x∈ySq τ l,x.size=e) ->∀x∈l,x.size=e
 |[],_,x,hx=>by simp at hx
 |w::l,h,x,hx=>by
  simp only[ZF] at hx;rcases hx with rfl|hx
  .rw[<-kMq τ];exact h _ (by simp[ySq])
  .exact vUq (τ:=τ) (λy hy=>h y (by simp[ySq,hy])) x hx
mutual
theorem zaq{m:Nat}:∀{w:W},abq w=true->agq m w=true
 |.undef,_=>rfl
 |.bool _,_=>rfl
 |.int _ _,_=>rfl
 |.str _,_=>rfl
 |.nilp,_=>rfl
 |.ptr _ _,h=>by simp[abq] at h
 |.nils,_=>rfl
 |.sl _ _ _ _ _ _,h=>by simp[abq] at h
 |.fz l _ _,h=>by simp only[abq] at h;simp only[agq,xbq h]
 |.fel x,h=>by simp only[abq] at h;simp only[agq,zaq h]
 |.nilm,_=>rfl
 |.fn _ a c,h=>by simp only[abq,Zb] at h;simp only[agq,xbq h.1,xbq h.2,Bool.and_self]
 |.yield _,_=>rfl
 |.nilf,_=>rfl
 |.iface _ v,h=>by simp only[abq] at h;simp only[agq,zaq h]
 |.nili,_=>rfl
 |.agg _ l,h=>by simp only[abq] at h;simp only[agq,xbq h]
 |.arr _ _ l,h=>by simp only[abq] at h;simp only[agq,xbq h]
 |.tup l,h=>by simp only[abq] at h;simp only[agq,xbq h]
theorem xbq{m:Nat}:∀{l:List W},acq l=true->azq m l=true
 |[],_=>rfl
 |w::l,h=>by simp only[acq,Zb] at h;simp only[azq,zaq h.1,xbq h.2,Bool.and_self]
end
mutual
theorem zfq{τ:Nat->Nat}:∀{w:W},abq w=true->adq τ w=w
 |.undef,_=>rfl
 |.bool _,_=>rfl
 |.int _ _,_=>rfl
 |.str _,_=>rfl
 |.nilp,_=>rfl
 |.ptr _ _,h=>by simp[abq] at h
 |.nils,_=>rfl
 |.sl _ _ _ _ _ _,h=>by simp[abq] at h
 |.fz l _ _,h=>by simp only[abq] at h;simp only[adq,k9q h]
 |.fel x,h=>by simp only[abq] at h;simp only[adq,zfq h]
 |.nilm,_=>rfl
 |.fn _ a c,h=>by simp only[abq,Zb] at h;simp only[adq,k9q h.1,k9q h.2]
 |.yield _,_=>rfl
 |.nilf,_=>rfl
 |.iface _ v,h=>by simp only[abq] at h;simp only[adq,zfq h]
 |.nili,_=>rfl
 |.agg _ l,h=>by simp only[abq] at h;simp only[adq,k9q h]
 |.arr _ _ l,h=>by simp only[abq] at h;simp only[adq,k9q h]
 |.tup l,h=>by simp only[abq] at h;simp only[adq,k9q h]
theorem k9q{τ:Nat->Nat}:∀{l:List W},acq l=true->ySq τ l=l
 |[],_=>rfl
 |w::l,h=>by simp only[acq,Zb] at h;simp only[ySq,zfq h.1,k9q h.2]
end
section
variable {Γ Γ':Ctx}
structure Via(τ:Nat->Nat)(Γ Γ':Ctx):Prop where
 nw:∀b,b<Γ.nw->τ b<Γ'.nw
 σ:∀b,b<Γ.nw->Γ'.σ (τ b)=Γ.σ b
 D:∀b,Γ.D b->Γ'.D b
 val:∀b,Γ.D b->Γ'.h.val b=Γ.h.val b
mutual
theorem Zuq{τ:Nat->Nat}(v:Via τ Γ Γ'):∀{w:W} {s:List V},RS Γ w s->RS Γ' (adq τ w) s
 |.undef,_,h=>by simp only[adq,RS] at h⊢;exact h
 |.bool _,_,h=>by simp only[adq,RS] at h⊢;exact h
 |.int _ _,_,h=>by simp only[adq,RS] at h⊢;exact h
 |.str _,_,h=>by simp only[adq,RS] at h⊢;exact h
 |.nilp,_,h=>by simp only[adq,RS] at h⊢;exact h
 |.ptr b _,_,h=>by simp only[adq,RS] at h⊢;exact⟨v.nw b h.1,by rw[v.σ b h.1];exact h.2⟩
 |.nils,_,h=>by simp only[adq,RS] at h⊢;exact h
 |.sl b _ _ _ _ _,_,h=>by simp only[adq,RS] at h⊢;exact⟨v.nw b h.1,by rw[v.σ b h.1];exact h.2⟩
 |.fz l e full,_,h=>by
  simp only[adq,RS,Ydq] at h⊢;rcases h with ⟨rfl,h⟩|⟨b,base,off,lim,bv,h1,h2,h3,h4,ha,h5,h6,h7⟩
  .exact .inl ⟨rfl,h⟩
  .exact .inr ⟨b,base,off,lim,bv,h1,h2,v.D b h3,by rw[v.val b h3];exact h4,ha,h5,Yeq h6,Knq v h7⟩
 |.fel x,_,h=>by
  simp only[adq,RS,kMq,jSq] at h⊢;obtain⟨b,off,bv,h1,h3,h4,h5,ha,hb,h7⟩:=h;exact⟨b,off,bv,h1,v.D b h3,by rw[v.val b h3];exact h4,h5,ha,hb,Zuq v h7⟩
 |.nilm,_,h=>by simp only[adq,RS] at h⊢;exact h
 |.fn f a c,_,h=>by
  simp only[adq,RS] at h⊢;obtain⟨a',c',h1,h2,h3⟩:=h;exact⟨a',c',h1,Klq v h2,Klq v h3⟩
 |.yield _,_,h=>by simp only[adq,RS] at h⊢;exact h
 |.nilf,_,h=>by simp only[adq,RS] at h⊢;exact h
 |.iface t x,_,h=>by
  simp only[adq,RS,jSq] at h⊢;obtain⟨u,h1,h2,h3⟩:=h;exact⟨u,h1,h2,Zuq v h3⟩
 |.nili,_,h=>by simp only[adq,RS] at h⊢;exact h
 |.agg n l,_,h=>by simp only[adq,RS] at h⊢;exact⟨h.1,Knq v h.2⟩
 |.arr n e l,_,h=>by simp only[adq,RS] at h⊢;exact⟨h.1,Yeq h.2.1,Knq v h.2.2⟩
 |.tup l,_,h=>by
  simp only[adq,RS] at h⊢;obtain⟨vs,h1,h2⟩:=h;exact⟨vs,h1,Klq v h2⟩
theorem Knq{τ:Nat->Nat}(v:Via τ Γ Γ'):∀{l:List W} {s:List V},RSL Γ l s->RSL Γ' (ySq τ l) s
 |[],_,h=>by simp only[ySq,RSL] at h⊢;exact h
 |x::l,_,h=>by simp only[ySq,RSL,kMq] at h⊢;exact⟨Zuq v h.1,Knq v h.2⟩
theorem Klq{τ:Nat->Nat}(v:Via τ Γ Γ'):∀{l:List W} {vs:List V},RVL Γ l vs->RVL Γ' (ySq τ l) vs
 |[],_,h=>by simp only[ySq,RVL] at h⊢;exact h
 |x::l,_,h=>by
  simp only[ySq,RVL,jSq] at h⊢;obtain⟨u,vs',h1,⟨h2,h3⟩,h4⟩:=h;exact⟨u,vs',h1,⟨h2,Zuq v h3⟩,Klq v h4⟩
end
theorem oNq{τ:Nat->Nat}(v:Via τ Γ Γ'){w:W}{u:V}(h:RV Γ w u):RV Γ' (adq τ w) u:=⟨by rw[jSq];exact h.1,Zuq v h.2⟩
mutual
/-- and back: what is under other numbers -/
theorem x4q{τ:Nat->Nat}{m:Nat}(hm:Γ'.nw=m)(hσ:∀b,b<m->Γ'.σ b=Γ.σ (τ b))(hD:∀b,Γ.D b->Γ'.D b)(hv:∀b,Γ.D b->Γ'.h.val b=Γ.h.val b):∀{w:W} {s:List V},agq m w=true->RS Γ (adq τ w) s->RS Γ' w s
 |.undef,_,_,h=>by simp only[adq,RS] at h⊢;exact h
 |.bool _,_,_,h=>by simp only[adq,RS] at h⊢;exact h
 |.int _ _,_,_,h=>by simp only[adq,RS] at h⊢;exact h
 |.str _,_,_,h=>by simp only[adq,RS] at h⊢;exact h
 |.nilp,_,_,h=>by simp only[adq,RS] at h⊢;exact h
 |.ptr b _,_,hr,h=>by
  simp only[agq,Z7] at hr;simp only[adq,RS] at h⊢;exact⟨hm▸hr,by rw[hσ b hr];exact h.2⟩
 |.nils,_,_,h=>by simp only[adq,RS] at h⊢;exact h
 |.sl b _ _ _ _ _,_,hr,h=>by
  simp only[agq,Z7] at hr;simp only[adq,RS] at h⊢;exact⟨hm▸hr,by rw[hσ b hr];exact h.2⟩
 |.fz l e full,_,hr,h=>by
  simp only[agq] at hr;simp only[adq,RS,Ydq] at h⊢;rcases h with ⟨hl,h⟩|⟨b,base,off,lim,bv,h1,h2,h3,h4,ha,h5,h6,h7⟩
  .refine .inl ⟨?_,h⟩;cases l with
   |nil=>rfl
   |cons _ _=>simp[ySq] at hl
  .exact .inr ⟨b,base,off,lim,bv,h1,h2,hD b h3,by rw[hv b h3];exact h4,ha,h5,vUq h6,Z1q hm hσ hD hv hr h7⟩
 |.fel x,_,hr,h=>by
  simp only[agq] at hr;simp only[adq,RS,kMq,jSq] at h⊢;obtain⟨b,off,bv,h1,h3,h4,h5,ha,hb,h7⟩:=h;exact⟨b,off,bv,h1,hD b h3,by rw[hv b h3];exact h4,h5,ha,hb,x4q hm hσ hD hv hr h7⟩
 |.nilm,_,_,h=>by simp only[adq,RS] at h⊢;exact h
 |.fn f a c,_,hr,h=>by
  simp only[agq,Zb] at hr;simp only[adq,RS] at h⊢;obtain⟨a',c',h1,h2,h3⟩:=h;exact⟨a',c',h1,vIq hm hσ hD hv hr.1 h2,vIq hm hσ hD hv hr.2 h3⟩
 |.yield _,_,_,h=>by simp only[adq,RS] at h⊢;exact h
 |.nilf,_,_,h=>by simp only[adq,RS] at h⊢;exact h
 |.iface t x,_,hr,h=>by
  simp only[agq] at hr;simp only[adq,RS,jSq] at h⊢;obtain⟨u,h1,h2,h3⟩:=h;exact⟨u,h1,h2,x4q hm hσ hD hv hr h3⟩
 |.nili,_,_,h=>by simp only[adq,RS] at h⊢;exact h
 |.agg n l,_,hr,h=>by
  simp only[agq] at hr;simp only[adq,RS] at h⊢;exact⟨h.1,Z1q hm hσ hD hv hr h.2⟩
 |.arr n e l,_,hr,h=>by
  simp only[agq] at hr;simp only[adq,RS] at h⊢;exact⟨h.1,vUq h.2.1,Z1q hm hσ hD hv hr h.2.2⟩
 |.tup l,_,hr,h=>by
  simp only[agq] at hr;simp only[adq,RS] at h⊢;obtain⟨vs,h1,h2⟩:=h;exact⟨vs,h1,vIq hm hσ hD hv hr h2⟩
theorem Z1q{τ:Nat->Nat}{m:Nat}(hm:Γ'.nw=m)(hσ:∀b,b<m->Γ'.σ b=Γ.σ (τ b))(hD:∀b,Γ.D b->Γ'.D b)(hv:∀b,Γ.D b->Γ'.h.val b=Γ.h.val b):∀{l:List W} {s:List V},azq m l=true->RSL Γ (ySq τ l) s->RSL Γ' l s
 |[],_,_,h=>by simp only[ySq,RSL] at h⊢;exact h
 |x::l,_,hr,h=>by
  simp only[azq,Zb] at hr;simp only[ySq,RSL,kMq] at h⊢;exact⟨x4q hm hσ hD hv hr.1 h.1,Z1q hm hσ hD hv hr.2 h.2⟩
theorem vIq{τ:Nat->Nat}{m:Nat}(hm:Γ'.nw=m)(hσ:∀b,b<m->Γ'.σ b=Γ.σ (τ b))(hD:∀b,Γ.D b->Γ'.D b)(hv:∀b,Γ.D b->Γ'.h.val b=Γ.h.val b):∀{l:List W} {vs:List V},azq m l=true->RVL Γ (ySq τ l) vs->RVL Γ' l vs
 |[],_,_,h=>by simp only[ySq,RVL] at h⊢;exact h
 |x::l,_,hr,h=>by
  simp only[azq,Zb] at hr;simp only[ySq,RVL,jSq] at h⊢;obtain⟨u,vs',h1,⟨h2,h3⟩,h4⟩:=h;exact⟨u,vs',h1,⟨h2,x4q hm hσ hD hv hr.1 h3⟩,vIq hm hσ hD hv hr.2 h4⟩
end
end
noncomputable def yxq(C:Cfg)(G:Nat->Option W)(f:FuncId)(m:Nat)(ws:List W)(hp:HpW)(Q:W->HpW->Nat->Prop):Prop:=
 ∀R,aiq C G f m ws hp R λw hp' nw' R'=>R'=R/\Q w hp' nw'
noncomputable def afq(ext:List Nat)(nw:Nat)(i:Nat):Nat:=match ext[i]? with
 |some b=>b
 |none=>nw+(i-ext.length)
noncomputable def alq(τ:Nat->Nat):HpW->HpW
 |[]=>[]
 |(b,ty,w)::hp=>(τ b,ty,adq τ w)::alq τ hp
noncomputable def bVq:List Nat->HpW->HpW
 |[],hp=>hp
 |b::l,hp=>bVq l (awq hp b)
section
variable {C:Cfg} {G:Nat->Option W}
theorem btq{τ:Nat->Nat}(h:∀i j,τ i=τ j->i=j):∀{l:List Nat},l.Nodup->(l.map τ).Nodup
 |[],_=>YJ
 |a::l,hl=>by
  simp only[Y0,ZC] at hl⊢;refine⟨λhm=>?_,btq h hl.2⟩;obtain⟨b,h1,h2⟩:=Z1.1 hm;exact hl.1 (h b a h2▸h1)
theorem etq{b:Nat}:∀{l:List Nat} {hp:HpW},(hp.map (·.1)).Nodup->hget (bVq l hp) b=if b∈l then none else hget hp b
 |[],hp,_=>by simp[bVq]
 |k::l,hp,h=>by
  simp only[bVq];rw[etq (h.sublist hdel_sub),Yzq h];by_cases e:k=b
  .subst e;simp
  .rw[Zg e];by_cases e2:b∈l
   .rw[Zt e2,Zt (ZP _ e2)]
   .rw[Zg e2,Zg];simp only[ZF,not_or];exact⟨λe3=>e e3.symm,e2⟩
theorem esq:∀{l:List Nat} {hp:HpW},((bVq l hp).map (·.1)).Sublist (hp.map (·.1))
 |[],_=>List.Sublist.refl _
 |b::l,hp=>(esq (l:=l) (hp:=awq hp b)).trans hdel_sub
theorem uGq{b:Nat}:∀{hp:HpW},b∈hp.map (·.1) ->∃x,hget hp b=some x
 |[],h=>by simp at h
 |(k,y)::hp,h=>by
  rw[zeq];split
  .exact⟨_,rfl⟩
  .rename_i hne;simp only[ZC,ZF] at h;rcases h with h|h
   .exact absurd h.symm hne
   .exact uGq h
theorem dMq{τ:Nat->Nat}{n:Nat}(inj:∀i j,i<n->j<n->τ i=τ j->i=j):∀{hp:HpW} {b:Nat} {x:TypeId×W},(∀i y,hget hp i=some y->i<n) ->(hp.map (·.1)).Nodup->hget (alq τ hp) b=some x->∃i y,hget hp i=some y/\b=τ i/\x=(y.1,adq τ y.2)
 |[],b,x,_,_,h=>by simp[alq,hget] at h
 |(k,ty,w)::hp,b,x,hn,nd,h=>by
  simp only[alq] at h;rw[zeq] at h;split at h
  .rename_i e;cases h;exact⟨k,(ty,w),by rw[zeq,Zt rfl],e.symm,rfl⟩
  .simp only[ZC,Y0] at nd;have hsub:∀i y,hget hp i=some y->k≠i:=λi y hy e=>nd.1 (e▸JYq hy)
   obtain⟨i,y,h1,h2,h3⟩:=dMq inj (λi y hy=>hn i y (by rw[zeq,Zg (hsub i y hy)];exact hy)) nd.2 h;exact⟨i,y,by rw[zeq,Zg (hsub i y h1)];exact h1,h2,h3⟩
theorem bhq{τ:Nat->Nat}:∀{hp:HpW},(alq τ hp).map (·.1)=(hp.map (·.1)).map τ
 |[]=>rfl
 |(k,ty,w)::hp=>by simp[alq,bhq]
theorem YAq{b:Nat}{r:HpW}:∀{hp:HpW},hget (hp++r) b=match hget hp b with|some x=>some x|none=>hget r b
 |[]=>rfl
 |(k,y)::hp=>by
  rw[YW,zeq,zeq];split
  .rfl
  .exact YAq
noncomputable def Jdq(ext:List Nat)(nw:Nat)(hp0 hp:HpW):Prop:=∀i ty w,hget hp0 i=some (ty,w) ->i<ext.length/\agq ext.length w=true/\∃b,ext[i]? =some b/\hget hp b=some (ty,adq (afq ext nw) w)
theorem b0q{f:FuncId}{ext:List Nat}{ws:List W}{hp0:HpW}{Q:W->HpW->Nat->Prop}(sp:yxq C G f ext.length ws hp0 Q){Γ:Ctx}{hp:HpW}{X:Nat->Prop}{R:Res}(s:SatH C G Γ hp X R){vs:List V}
  (hnd:ext.Nodup) (hext:∀b∈ext,b<Γ.nw) (hkn:(hp0.map (·.1)).Nodup) (hh:Jdq ext Γ.nw hp0 hp) (hr:azq ext.length ws=true) (hv:RVL Γ (ySq (afq ext Γ.nw) ws) vs):
  ∃n v Γ' w hp1 nw1,yPq C n f vs Γ.h=some (v,Γ'.h)/\Q w hp1 nw1/\Γ'.nw=Γ.nw+(nw1-ext.length)/\Γ.Le Γ'/\SatH C G Γ' (alq (afq ext Γ.nw) hp1++bVq ext hp) X R/\Frm Γ.nw Γ hp X Γ' (alq (afq ext Γ.nw) hp1++bVq ext hp) X/\RV Γ' (adq (afq ext Γ.nw) w) v/\
   (Γ.h.wmin=Γ.h.next->Γ.h.next<=Γ'.h.wmin\/∃b∈ext,Γ'.h.wmin=Γ.σ b)/\(∀c,c<Γ.h.next->(∀b∈ext,c≠Γ.σ b) ->Γ'.h.get c=Γ.h.get c):=by
 --the called one's view
 have num_lt:∀{i},i<ext.length->∃b,ext[i]? =some b/\afq ext Γ.nw i=b/\b<Γ.nw:=λ{i} hi=>by
  obtain⟨b,hb⟩:∃b,ext[i]? =some b:=⟨_,Za hi⟩
  exact⟨b,hb,by simp only[afq,hb],hext b (Zf hb)⟩
 have num_ge:∀{i},ext.length<=i->afq ext Γ.nw i=Γ.nw+(i-ext.length):=λ{i} hi=>by
  simp only[afq,List.getElem?_eq_none hi]
 have num_inj:∀i j,afq ext Γ.nw i=afq ext Γ.nw j->i=j:=λi j e=>by
  rcases ZM i ext.length with hi|hi<;>rcases ZM j ext.length with hj|hj
  .obtain⟨b,h1,h2,_⟩:=num_lt hi;obtain⟨c,h3,h4,_⟩:=num_lt hj;rw[h2,h4] at e;subst e
   exact(List.getElem?_inj hi hnd).1 (h1.trans h3.symm)
  .obtain⟨b,h1,h2,h5⟩:=num_lt hi;rw[h2,num_ge hj] at e;omega
  .obtain⟨b,h1,h2,h5⟩:=num_lt hj;rw[h2,num_ge hi] at e;omega
  .rw[num_ge hi,num_ge hj] at e;omega
 have own0:∀{i x},hget hp0 i=some x->i<ext.length/\∃b,ext[i]? =some b/\afq ext Γ.nw i=b/\b<Γ.nw/\hget hp b=some (x.1,adq (afq ext Γ.nw) x.2):=λ{i x} h=>by
  obtain⟨h1,h2,b,h3,h4⟩:=hh i x.1 x.2 h;obtain⟨b',h5,h6,h7⟩:=num_lt h1;rw[h3] at h5;cases h5
  exact⟨h1,b,h3,h6,h7,h4⟩
 let Γ0:Ctx:=⟨ext.length,λi=>Γ.σ (afq ext Γ.nw i),Γ.D,Γ.h⟩
 have back:∀{w:W} {v:V},agq ext.length w=true->RV Γ (adq (afq ext Γ.nw) w) v->RV Γ0 w v:=λ{w v} h1 h2=>⟨by rw[<-jSq (afq ext Γ.nw)];exact h2.1,x4q (Γ:=Γ) (Γ':=Γ0) (τ:=afq ext Γ.nw) rfl (λ_ _=>rfl) (λ_ h=>h) (λ_ _=>rfl) h1 h2.2⟩
 have s0:SatH C G Γ0 hp0 (λ_=>False) Res.none:=by
  refine⟨s.wf,λi ty w h=>?_,λi j x y hx hy e=>?_,hkn,λ_ _ h=>h,λ_ h=>h.elim,s.dlt,trivial,s.gl⟩
  .obtain⟨h1,b,h2,h3,h4,h5⟩:=own0 h;obtain⟨q1,q2,q3,u,q4,q5⟩:=s.own b _ _ h5;refine⟨h1,?_,λh=>h,u,?_,back (hh i ty w h).2.1 q5⟩
   .show¬Γ.D (Γ.σ (afq ext Γ.nw i));rw[h3];exact q2
   .show Γ.h.get (Γ.σ (afq ext Γ.nw i))=_;rw[h3];exact q4
  .obtain⟨h1,b,h2,h3,h4,h5⟩:=own0 hx;obtain⟨g1,c,g2,g3,g4,g5⟩:=own0 hy;have e:Γ.σ (afq ext Γ.nw i)=Γ.σ (afq ext Γ.nw j):=e;rw[h3,g3] at e;have:=s.inj b c _ _ h5 g5 e;exact num_inj i j (by rw[h3,g3];exact this)
 have hv0:RVL Γ0 ws vs:=vIq (Γ:=Γ) (Γ':=Γ0) (τ:=afq ext Γ.nw) rfl (λ_ _=>rfl) (λ_ h=>h) (λ_ _=>rfl) hr hv;obtain⟨n,v,Γ1,X1,w,hp1,R1,g1,g2,g3,g4,rfl,hq⟩:=sp Res.none Γ0 (λ_=>False) vs rfl s0 hv0
 --the caller's view behind it
 let Γ':Ctx:=⟨Γ.nw+(Γ1.nw-ext.length),λi=>if i<Γ.nw then Γ.σ i else Γ1.σ (i-Γ.nw+ext.length),Γ1.D,Γ1.h⟩
 have hnw1:ext.length<=Γ1.nw:=g3.mle (Zc _)
 have own0':∀{c},amq Γ0 hp0 c->amq Γ hp c:=λ{c} h=>by
  obtain⟨i,x,h1,h2⟩:=h;obtain⟨_,b,_,h3,_,h5⟩:=own0 h1;have h2:Γ.σ (afq ext Γ.nw i)=c:=h2;exact⟨b,_,h5,by rw[<-h3];exact h2⟩
 have keepD:∀{c},c<Γ.h.next->¬amq Γ0 hp0 c->Γ1.h.get c=Γ.h.get c:=λh1 h2=>g3.keep _ h1 h2 (λh=>h)
 have dOwn:∀{c},Γ.D c->¬amq Γ hp c:=λhd h=>by
  obtain⟨b,x,h1,rfl⟩:=h;exact(s.own b x.1 x.2 h1).2.1 hd
 have le:Γ.Le Γ':=by
  refine⟨Nat.le_add_right _ _,λb hb=>by show(if b<Γ.nw then _ else _)=_;rw[Zt hb],g3.dsub,λc hc=>yRq ?_⟩;exact keepD (s.dlt c hc) λh=>dOwn hc (own0' h)
 have σ':∀{j},j<Γ1.nw->Γ'.σ (afq ext Γ.nw j)=Γ1.σ j:=λ{j} hj=>by
  rcases ZM j ext.length with h|h
  .obtain⟨b,h1,h2,h3⟩:=num_lt h;show(if afq ext Γ.nw j<Γ.nw then _ else _)=_;rw[Zt (by rw[h2];exact h3),g3.sig j h]
  .show(if afq ext Γ.nw j<Γ.nw then _ else _)=_;rw[num_ge h,Zg Xd];congr 1;omega
 have via:Via (afq ext Γ.nw) Γ1 Γ':=by
  refine⟨λb hb=>?_,λb hb=>σ' hb,λ_ h=>h,λ_ _=>rfl⟩;show _<Γ.nw+(Γ1.nw-ext.length);rcases ZM b ext.length with h|h
  .obtain⟨c,h1,h2,h3⟩:=num_lt h;rw[h2];omega
  .rw[num_ge h];omega
 have lt1:∀i y,hget hp1 i=some y->i<Γ1.nw:=λi y h=>(g2.own i y.1 y.2 h).1
 have rest:∀{b x},hget (bVq ext hp) b=some x->b∉ext/\hget hp b=some x:=λ{b x} h=>by
  rw[etq s.nd] at h;split at h
  .cases h
  .rename_i h2;exact⟨h2,h⟩
 have notOwn0:∀{b x},b∉ext->hget hp b=some x->¬amq Γ0 hp0 (Γ.σ b):=λ{b x} h1 h2 h=>by
  obtain⟨i,y,h3,h4⟩:=h;obtain⟨_,c,h5,h6,h7,h8⟩:=own0 h3;have h4:Γ.σ (afq ext Γ.nw i)=Γ.σ b:=h4;rw[h6] at h4;have:=s.inj c b _ _ h8 h2 h4;exact h1 (this▸Zf h5)
 have ownlt:∀{b x},hget hp b=some x->Γ.σ b<Γ.h.next:=λ{b x} h=>by
  obtain⟨_,_,_,u,h1,_⟩:=s.own b x.1 x.2 h;rcases ZM (Γ.σ b) Γ.h.next with h|h
  .exact h
  .rw[s.wf _ h] at h1;cases h1
 --where a block of hp' comes from
 have split':∀{b x},hget (alq (afq ext Γ.nw) hp1++bVq ext hp) b=some x->(∃j y,hget hp1 j=some y/\b=afq ext Γ.nw j/\x=(y.1,adq (afq ext Γ.nw) y.2))\/(b∉ext/\hget hp b=some x):=λ{b x} h=>by
  rw[YAq] at h;split at h
  .rename_i z hz;cases h;exact .inl (dMq (λi j _ _ e=>num_inj i j e) (λi y hy=>lt1 i y hy) g2.nd hz)
  .exact .inr (rest h)
 have new1:∀{j y},hget hp1 j=some y->ext.length<=j->Γ.h.next<=Γ1.σ j:=λ{j y} h1 h2=>by
  rcases g3.onum j y h2 h1 with h|⟨k,z,h3,h4,_⟩
  .exact h
  .have:=(own0 h4).1;omega
 have ext1:∀{j y},hget hp1 j=some y->j<ext.length->∃b z,ext[j]? =some b/\afq ext Γ.nw j=b/\hget hp b=some z/\Γ1.σ j=Γ.σ b:=λ{j y} h1 h2=>by
  obtain⟨z,hz⟩:=g3.oext j y h2 h1;obtain⟨_,b,h3,h4,_,h5⟩:=own0 hz;exact⟨b,_,h3,h4,h5,by rw[g3.sig j h2];show Γ.σ (afq ext Γ.nw j)=_;rw[h4]⟩
 have xkeep:∀{c},X c->Γ1.h.get c=Γ.h.get c:=λ{c} h=>by
  refine keepD (s.xlt c h) λho=>?_
  obtain⟨b,x,h1,rfl⟩:=own0' ho;exact(s.own b x.1 x.2 h1).2.2.1 h
 have s':SatH C G Γ' (alq (afq ext Γ.nw) hp1++bVq ext hp) X R:=by
  refine⟨g2.wf,λb ty w h=>?_,λb b' x y hx hy e=>?_,?_,λc hc hX=>?_,λc hc=>Zw (s.xlt c hc) g3.next,g2.dlt,?_,s.gl.mono le⟩
  .rcases split' h with ⟨j,y,h1,rfl,h3⟩|⟨h1,h2⟩
   .cases h3;obtain⟨q1,q2,q3,u,q4,q5⟩:=g2.own j y.1 y.2 h1;rw[σ' q1];refine⟨via.nw j q1,q2,λhX=>?_,u,q4,oNq via q5⟩;rcases ZM j ext.length with hj|hj
    .obtain⟨b,z,h5,h6,h7,h8⟩:=ext1 h1 hj;rw[h8] at hX;exact(s.own b z.1 z.2 h7).2.2.1 hX
    .have:=new1 h1 hj;have:=s.xlt _ hX;omega
   .obtain⟨q1,q2,q3,u,q4,q5⟩:=s.own b ty w h2;rw[le.σ b q1];refine⟨Zw q1 le.nw,λhd=>?_,q3,u,?_,q5.mono le⟩
    .rcases g3.dnew _ hd with h|(h|h)|h
     .exact q2 h
     .exact notOwn0 h1 h2 h
     .exact h.elim
     .have:=ownlt h2;have h:Γ.h.next<=_:=h;omega
    .rw[<-q4];exact keepD (ownlt h2) (notOwn0 h1 h2)
  .rcases split' hx with ⟨j,y1,h1,rfl,_⟩|⟨h1,h2⟩<;>rcases split' hy with ⟨j',y2,k1,rfl,_⟩|⟨k1,k2⟩
   .rw[σ' (lt1 _ _ h1),σ' (lt1 _ _ k1)] at e;rw[g2.inj j j' _ _ h1 k1 e]
   .exfalso
    rw[σ' (lt1 _ _ h1),le.σ b' (s.own b' y.1 y.2 k2).1] at e;rcases ZM j ext.length with hj|hj
    .obtain⟨c,z,h5,h6,h7,h8⟩:=ext1 h1 hj;rw[h8] at e;have:=s.inj c b' _ _ h7 k2 e;exact k1 (this▸Zf h5)
    .have:=new1 h1 hj;have:=ownlt k2;omega
   .exfalso
    rw[σ' (lt1 _ _ k1),le.σ b (s.own b x.1 x.2 h2).1] at e;rcases ZM j' ext.length with hj|hj
    .obtain⟨c,z,h5,h6,h7,h8⟩:=ext1 k1 hj;rw[h8] at e;have:=s.inj b c _ _ h2 h7 e;exact h1 (this▸Zf h5)
    .have:=new1 k1 hj;have:=ownlt h2;omega
   .rw[le.σ b (s.own b x.1 x.2 h2).1,le.σ b' (s.own b' y.1 y.2 k2).1] at e;exact s.inj b b' _ _ h2 k2 e
  .rw[Z5,bhq];refine List.nodup_append.2 ⟨?_,s.nd.sublist esq,λa ha b hb e=>?_⟩
   .exact btq num_inj g2.nd
   .subst e;obtain⟨x,hx⟩:=uGq hb;obtain⟨h1,h2⟩:=rest hx;obtain⟨j,hj,rfl⟩:=Z1.1 ha;obtain⟨y,hy⟩:=uGq hj;rcases ZM j ext.length with hj|hj
    .obtain⟨c,h5,h6,_⟩:=num_lt hj;rw[h6] at h1;exact h1 (Zf h5)
    .have:=(s.own _ x.1 x.2 h2).1;rw[num_ge hj] at this;omega
  .rcases g3.dnew c hc with h|(h|h)|h
   .exact s.dX c h hX
   .obtain⟨b,x,h1,rfl⟩:=own0' h;exact(s.own b x.1 x.2 h1).2.2.1 hX
   .exact h.elim
   .have:=s.xlt c hX;have h:Γ.h.next<=c:=h;omega
  .exact R.st _ _ _ _ _ s.res le.D le.val (λc hc=>xkeep hc) g3.next
 refine⟨n,v,Γ',w,hp1,Γ1.nw,g1,hq,rfl,le,s',⟨λb hb=>le.σ b hb,λh=>Zs h le.nw,g3.next,λc h1 h2 _=>keepD h1 λh=>h2 (own0' h),g3.dsub,λc hc=>?_,λb x hb h=>?_,λb x hb h=>?_,λ_ h=>.inl h,λk h1 h2 h3=>?_⟩,oNq via g4,λhw=>?_,λc hc hb=>keepD hc λ⟨i,x,h1,h2⟩=>?_⟩
 .rcases g3.dnew c hc with h|(h|h)|h
  .exact .inl h
  .exact .inr (.inl (.inl (own0' h)))
  .exact h.elim
  .exact .inr (.inr h)
 .rcases split' h with ⟨j,y,h1,rfl,h3⟩|⟨h1,h2⟩
  .rcases ZM j ext.length with hj|hj
   .obtain⟨c,z,h5,h6,h7,h8⟩:=ext1 h1 hj;exact⟨z,by rw[h6];exact h7⟩
   .rw[num_ge hj] at hb;omega
  .exact⟨x,h2⟩
 .rcases split' h with ⟨j,y,h1,rfl,h3⟩|⟨h1,h2⟩
  .rcases ZM j ext.length with hj|hj
   .obtain⟨c,h5,h6,h7⟩:=num_lt hj;rw[h6] at hb;omega
   .left;rw[σ' (lt1 _ _ h1)];exact new1 h1 hj
  .have:=(s.own b x.1 x.2 h2).1;omega
 .exact g3.wmin k h1 h2 λc hc=>by
   rcases hc with hc|hc
   .exact h3 c (.inl (own0' hc))
   .exact hc.elim
 .refine g3.wmin (λc=>Γ.h.next<=c\/∃b∈ext,c=Γ.σ b) (.inl (by show Γ.h.next<=Γ.h.wmin;omega)) (λc hc=>.inl hc) λc hc=>?_
  rcases hc with ⟨i,x,h1,h2⟩|hc
  .obtain⟨_,b,h3,h4,_,_⟩:=own0 h1;exact .inr ⟨b,Zf h3,by rw[<-h2,<-h4]⟩
  .exact hc.elim
 .obtain⟨_,b,h3,h4,_,_⟩:=own0 h1;exact hb b (Zf h3) (by rw[<-h2,<-h4])
end
section
mutual
/-- a value, some blocks of one's own in it seen as what stays -/
inductive View(blk:Nat->Option W):W->W->Prop where
 |pur {w:W} (h:abq w=true):View blk w w
 |nilfz {e:Nat} {f:Bool}:View blk .nils (.fz [] e f)
 |fzw {l:List W} {e:Nat} {f:Bool} (h:acq l=true):View blk (.fz l e f) (.fz l e false)
 |sl {b base off len esz:Nat} {lim:Option Nat} {c:W} {xs:List W} {full:Bool} (hb:blk b=some c) (hc:abq c=true) (hx:ysq 50 c off len esz=some xs) (hf:full=true->lim=some len):View blk (.sl b base off len esz lim) (.fz xs esz full)
 |sl2 {b base off len esz:Nat} {lim:Option Nat} {c c':W} {xs:List W} {full:Bool} (hb:blk b=some c) (hv:View blk c c') (hx:ysq 50 c' off len esz=some xs) (hf:full=true->lim=some len):View blk (.sl b base off len esz lim) (.fz xs esz full)
 |ptr {b off n:Nat} {ag:Bool} {c x:W} (hb:blk b=some c) (hc:abq c=true) (hx:zYq 50 c off n ag=some x):View blk (.ptr b off) (.fel x)
 |ptr2 {b off n:Nat} {ag:Bool} {c c' x:W} (hb:blk b=some c) (hv:View blk c c') (hx:zYq 50 c' off n ag=some x):View blk (.ptr b off) (.fel x)
 |ptrK {b off:Nat} (hb:blk b=none):View blk (.ptr b off) (.ptr b off)
 |slK {b base off len esz:Nat} {lim:Option Nat} (hb:blk b=none):View blk (.sl b base off len esz lim) (.sl b base off len esz lim)
 |agg {n:Nat} {l l':List W} (h:ViewL blk l l'):View blk (.agg n l) (.agg n l')
 |arr {n e:Nat} {l l':List W} (h:ViewL blk l l'):View blk (.arr n e l) (.arr n e l')
 |tup {l l':List W} (h:ViewL blk l l'):View blk (.tup l) (.tup l')
 |fn {f:FuncId} {a a' c c':List W} (h:ViewL blk a a') (k:ViewL blk c c'):View blk (.fn f a c) (.fn f a' c')
 |iface {t:TypeId} {v v':W} (h:View blk v v'):View blk (.iface t v) (.iface t v')
inductive ViewL(blk:Nat->Option W):List W->List W->Prop where
 |nil:ViewL blk [] []
 |cons {x x':W} {l l':List W} (h:View blk x x') (k:ViewL blk l l'):ViewL blk (x::l) (x'::l')
end
theorem View.shape{blk:Nat->Option W}{w w':W}(h:View blk w w'):w'.size=w.size/\w'.isAgg=w.isAgg:=by
 cases h<;>exact⟨rfl,rfl⟩
theorem ViewL.all{blk:Nat->Option W}{e:Nat}:∀{l l':List W},ViewL blk l l'->(∀x∈l,x.size=e) ->∀x∈l',x.size=e
 |_,_,.nil,_,x,hx=>by simp at hx
 |_,_,.cons h k,hl,x,hx=>by
  simp only[ZF] at hx;rcases hx with rfl|hx
  .rw[h.shape.1];exact hl _ (ZS ..)
  .exact k.all (λy hy=>hl y (ZP _ hy)) x hx
section
variable {Γ Γ':Ctx} {blk:Nat->Option W}
structure Seen(blk:Nat->Option W)(Γ Γ':Ctx):Prop where
 nw:∀b,b<Γ.nw->blk b=none->b<Γ'.nw
 σ:∀b,b<Γ.nw->blk b=none->Γ'.σ b=Γ.σ b
 D:∀b,Γ.D b->Γ'.D b
 val:∀b,Γ.D b->Γ'.h.val b=Γ.h.val b
 at_:∀b c,b<Γ.nw->blk b=some c->Γ'.D (Γ.σ b)/\∃v,Γ'.h.val (Γ.σ b)=some v/\RV Γ c v
theorem Jaq(hD:∀b,Γ.D b->Γ'.D b)(hv:∀b,Γ.D b->Γ'.h.val b=Γ.h.val b){w:W}{s:List V}(hp:abq w=true)(h:RS Γ w s):RS Γ' w s:=by
 have h1:=Zuq (τ:=λb=>b) (Γ:=Γ) (Γ':=⟨Γ.nw,Γ.σ,Γ'.D,Γ'.h⟩) ⟨λ_ h=>h,λ_ _=>rfl,hD,hv⟩ h;rw[zfq hp] at h1;have e:adq (λb=>b) w=w:=zfq hp;rw[<-e] at h1;have:=x4q (Γ:=⟨Γ.nw,Γ.σ,Γ'.D,Γ'.h⟩) (Γ':=⟨0,Γ.σ,Γ'.D,Γ'.h⟩) (τ:=λb=>b) (m:=0) rfl (λb hb=>by omega) (λ_ h=>h) (λ_ _=>rfl) (zaq hp) h1;have h2:=Zuq (τ:=λb=>b) (Γ:=⟨0,Γ.σ,Γ'.D,Γ'.h⟩) (Γ':=Γ') ⟨λb hb=>by have hb:b<0:=hb;omega,λb hb=>by have hb:b<0:=hb;omega,λ_ h=>h,λ_ _=>rfl⟩ this;rwa[zfq hp] at h2
theorem iQq(hD:∀b,Γ.D b->Γ'.D b)(hv:∀b,Γ.D b->Γ'.h.val b=Γ.h.val b){w:W}{v:V}(hp:abq w=true)(h:RV Γ w v):RV Γ' w v:=⟨h.1,Jaq hD hv hp h.2⟩
theorem osq{b off n:Nat}{ag:Bool}{c x:W}{v:V}(h1:Γ'.D b)(h2:Γ'.h.val b=some v)(h3:RV Γ' c v)(hx:zYq 50 c off n ag=some x):RS Γ' (.fel x) [.ptr b off]:=by
 obtain⟨g1,g2,g3,g4,g5⟩:=jnq (Γ:=Γ') 50 hx h3.2;simp only[RS];refine⟨b,off,v,rfl,h1,h2,by rw[g1,h3.size];exact g2,λha=>?_,?_,by rw[g1];exact g3⟩
 .rw[<-h3.1];cases hca:c.isAgg with
  |true=>rfl
  |false=>
   obtain⟨_,_,_,_,rfl⟩:=kWq (f:=49) hca hx;rw[hca] at ha;cases ha
 .cases hca:c.isAgg with
  |true=>exact .inr (by rw[<-h3.1];exact hca)
  |false=>
   obtain⟨_,_,_,hl,rfl⟩:=kWq (f:=49) hca hx;exact .inl (h3.leaf hl)
mutual
theorem vOq(q:Seen blk Γ Γ'):∀{w w':W} {s:List V},View blk w w'->RS Γ w s->RS Γ' w' s
 |_,_,_,.pur h,hs=>Jaq q.D q.val h hs
 |_,_,_,.nilfz,hs=>by
  simp only[RS] at hs⊢;exact .inl ⟨trivial,hs⟩
 |_,_,_,.fzw (l:=l) (e:=e) (f:=f) h,hs=>by
  have h1:=Jaq q.D q.val (w:=.fz l e f) h hs;simp only[RS] at h1⊢;rcases h1 with h1|⟨b,base,off,lim,bv,g1,_,g3⟩
  .exact .inl h1
  .exact .inr ⟨b,base,off,lim,bv,g1,λh=>Qs,g3⟩
 |_,_,_,.sl (b:=b) (base:=base) (off:=off) (len:=len) (esz:=esz) (lim:=lim) (c:=c) (xs:=xs) (full:=full) hb hc hx hf,hs=>by
  simp only[RS] at hs;obtain⟨hbn,rfl⟩:=hs;obtain⟨h1,v,h2,h3⟩:=q.at_ b c hbn hb;have h3:=iQq q.D q.val hc h3;obtain⟨g1,g2,g3,g4,g5⟩:=q0q (Γ:=Γ') 50 hx h3.2;simp only[RS];subst g1;exact .inr ⟨Γ.σ b,base,off,lim,v,rfl,hf,h1,h2,by rw[<-h3.1];exact g5,by rw[h3.size];exact g2,g3,g4⟩
 |_,_,_,.sl2 (b:=b) (base:=base) (off:=off) (len:=len) (esz:=esz) (lim:=lim) (c:=c) (c':=c') (xs:=xs) (full:=full) hb hv hx hf,hs=>by
  simp only[RS] at hs;obtain⟨hbn,rfl⟩:=hs;obtain⟨h1,v,h2,h3⟩:=q.at_ b c hbn hb;have h3:RV Γ' c' v:=⟨by rw[hv.shape.2];exact h3.1,vOq q hv h3.2⟩;obtain⟨g1,g2,g3,g4,g5⟩:=q0q (Γ:=Γ') 50 hx h3.2;simp only[RS];subst g1;exact .inr ⟨Γ.σ b,base,off,lim,v,rfl,hf,h1,h2,by rw[<-h3.1];exact g5,by rw[h3.size];exact g2,g3,g4⟩
 |_,_,_,.ptr (b:=b) (off:=off) (n:=n) (ag:=ag) (c:=c) (x:=x) hb hc hx,hs=>by
  simp only[RS] at hs;obtain⟨hbn,rfl⟩:=hs;obtain⟨h1,v,h2,h3⟩:=q.at_ b c hbn hb;exact osq h1 h2 (iQq q.D q.val hc h3) hx
 |_,_,_,.ptr2 (b:=b) (c:=c) (c':=c') hb hv hx,hs=>by
  simp only[RS] at hs;obtain⟨hbn,rfl⟩:=hs;obtain⟨h1,v,h2,h3⟩:=q.at_ b c hbn hb;exact osq h1 h2 (c:=c') ⟨by rw[hv.shape.2];exact h3.1,vOq q hv h3.2⟩ hx
 |_,_,_,.ptrK hb,hs=>by
  simp only[RS] at hs⊢;exact⟨q.nw _ hs.1 hb,by rw[q.σ _ hs.1 hb];exact hs.2⟩
 |_,_,_,.slK hb,hs=>by
  simp only[RS] at hs⊢;exact⟨q.nw _ hs.1 hb,by rw[q.σ _ hs.1 hb];exact hs.2⟩
 |_,_,_,.agg h,hs=>by
  simp only[RS] at hs⊢;exact⟨hs.1,Jgq q h hs.2⟩
 |_,_,_,.arr h,hs=>by
  simp only[RS] at hs⊢;exact⟨hs.1,h.all hs.2.1,Jgq q h hs.2.2⟩
 |_,_,_,.tup h,hs=>by
  simp only[RS] at hs⊢;obtain⟨vs,rfl,hs⟩:=hs;exact⟨vs,rfl,uYq q h hs⟩
 |_,_,_,.fn h k,hs=>by
  simp only[RS] at hs⊢;obtain⟨a',c',rfl,h1,h2⟩:=hs;exact⟨a',c',rfl,uYq q h h1,uYq q k h2⟩
 |_,_,_,.iface h,hs=>by
  simp only[RS] at hs⊢;obtain⟨v,rfl,h1,h2⟩:=hs;exact⟨v,rfl,by rw[h.shape.2];exact h1,vOq q h h2⟩
theorem Jgq(q:Seen blk Γ Γ'):∀{l l':List W} {s:List V},ViewL blk l l'->RSL Γ l s->RSL Γ' l' s
 |_,_,_,.nil,hs=>by simp only[RSL] at hs⊢;exact hs
 |_,_,_,.cons h k,hs=>by
  simp only[RSL] at hs⊢;rw[h.shape.1];exact⟨vOq q h hs.1,Jgq q k hs.2⟩
theorem uYq(q:Seen blk Γ Γ'):∀{l l':List W} {vs:List V},ViewL blk l l'->RVL Γ l vs->RVL Γ' l' vs
 |_,_,_,.nil,hs=>by simp only[RVL] at hs⊢;exact hs
 |_,_,_,.cons h k,hs=>by
  simp only[RVL] at hs⊢;obtain⟨v,vs',rfl,⟨h1,h2⟩,h3⟩:=hs;exact⟨v,vs',rfl,⟨by rw[h.shape.2];exact h1,vOq q h h2⟩,uYq q k h3⟩
end
theorem j3q(q:Seen blk Γ Γ'){w w':W}{v:V}(h:View blk w w')(hs:RV Γ w v):RV Γ' w' v:=⟨by rw[h.shape.2];exact hs.1,vOq q h hs.2⟩
end
section
variable {C:Cfg} {G:Nat->Option W} {m k0:Nat} {fr fr2:FrW} {hp hp2:HpW} {nw nw2:Nat} {R:Res}
theorem daq(τ:Nat->Nat)(hm:m<=nw2)(h1:∀b,b<m->τ b=b)(h2:∀b,b<nw2->τ b<nw)(h3:∀b,m<=b->b<nw2->m<=τ b)(hf:∀t w,arq fr2 t=some w->arq fr t=some (adq τ w)/\agq nw2 w=true)
  (hh:∀b x,hget hp2 b=some x->b<nw2/\hget hp (τ b)=some (x.1,adq τ x.2)/\agq nw2 x.2=true) (inj:∀b c x y,hget hp2 b=some x->hget hp2 c=some y->τ b=τ c->b=c) (nd:(hp2.map (·.1)).Nodup):
  Ent C G m k0 fr hp nw R fr2 hp2 nw2 R:=λΓ X st hnw hmn s=>by
 let Γ2:Ctx:=⟨nw2,λi=>Γ.σ (τ i),Γ.D,Γ.h⟩
 have back:∀{w:W} {v:V},agq nw2 w=true->RV Γ (adq τ w) v->RV Γ2 w v:=λ{w v} q1 q2=>⟨by rw[<-jSq τ];exact q2.1,x4q (Γ:=Γ) (Γ':=Γ2) (τ:=τ) rfl (λ_ _=>rfl) (λ_ h=>h) (λ_ _=>rfl) q1 q2.2⟩
 have howns:∀{c},amq Γ2 hp2 c->amq Γ hp c:=λ{c} h=>by
  obtain⟨k,y,g1,g2⟩:=h;exact⟨τ k,_,(hh k y g1).2.1,g2⟩
 refine⟨Γ2,X,rfl,⟨s.hh,λt w hw=>?_,⟨s.sat.wf,λb ty w hb=>?_,λb c x y hx hy e=>?_,nd,s.sat.dX,s.sat.xlt,s.sat.dlt,s.sat.res,s.sat.gl⟩,λd hd=>?_,s.nd⟩,⟨λb hb=>?_,λ_=>hm,Zc _,λ_ _ _ _=>rfl,λ_ h=>h,λ_ h=>.inl h,λb x hb h=>?_,λb x hb h=>?_,λ_ h=>.inl h,λ_ h _ _=>h⟩⟩
 .obtain⟨g1,g2⟩:=hf t w hw;obtain⟨v,g3,g4⟩:=s.fr _ _ g1;exact⟨v,g3,back g2 g4⟩
 .obtain⟨g1,g2,g3⟩:=hh b _ hb;obtain⟨q1,q2,q3,v,q4,q5⟩:=s.sat.own _ _ _ g2;exact⟨g1,q2,q3,v,q4,back g3 q5⟩
 .exact inj b c x y hx hy (s.sat.inj _ _ _ _ (hh b x hx).2.1 (hh c y hy).2.1 e)
 .obtain⟨q1,q2,q3,q4,q5,q6⟩:=s.ds d hd;exact⟨q1,q2,q3,λh=>q4 (howns h),q5,q6⟩
 .show Γ.σ (τ b)=Γ.σ b;rw[h1 b hb]
 .have:=(hh b x h).2.1;rw[h1 b hb] at this;exact⟨_,this⟩
 .obtain⟨g1,g2,_⟩:=hh b x h;exact .inr ⟨τ b,_,h3 b hb g1,g2,rfl⟩
noncomputable def eGq(b:Nat)(c:W):Nat->Option W:=λk=>match Nat.beq k b with
 |true=>some c
 |false=>none
theorem rIq{b:Nat}{ty:TypeId}{c:W}(hb:hget hp b=some (ty,c))(hc:abq c=true)(hbm:m<=b)(hf:∀t w,arq fr2 t=some w->∃w0,arq fr t=some w0/\View (eGq b c) w0 w)
  (hh:∀k ty w,hget hp2 k=some (ty,w) ->k≠b/\∃w0,hget hp k=some (ty,w0)/\View (eGq b c) w0 w) (nd:(hp2.map (·.1)).Nodup):Ent C G m k0 fr hp nw R fr2 hp2 nw R:=λΓ X st hnw hmn s=>by
 obtain⟨p1,p2,p3,v,p4,p5⟩:=s.sat.own b ty c hb;let Γ2:Ctx:=⟨Γ.nw,Γ.σ,λc=>Γ.D c\/c=Γ.σ b,Γ.h⟩
 have le:Γ.Le Γ2:=⟨Zc _,λ_ _=>rfl,λ_ h=>.inl h,λ_ _=>rfl⟩
 have q:Seen (eGq b c) Γ Γ2:=⟨λ_ h _=>h,λ_ _ _=>rfl,λ_ h=>.inl h,λ_ _=>rfl,λk c' hk h=>by
  unfold eGq at h;split at h
  .rename_i e;rw[ZE] at e;subst e;cases h;exact⟨.inr rfl,v,x8q p4,p5⟩
  .cases h⟩
 have hlt:Γ.σ b<Γ.h.next:=by
  rcases ZM (Γ.σ b) Γ.h.next with h|h
  .exact h
  .rw[s.sat.wf _ h] at p4;cases p4
 have howns:∀{c},amq Γ2 hp2 c->amq Γ hp c/\c≠Γ.σ b:=λ{c'} h=>by
  obtain⟨k,y,g1,g2⟩:=h;obtain⟨g3,w0,g4,_⟩:=hh k y.1 y.2 g1;have g2:Γ.σ k=c':=g2;refine⟨⟨k,_,g4,g2⟩,λe=>g3 (s.sat.inj k b _ _ g4 hb (by rw[g2,e]))⟩
 refine⟨Γ2,X,hnw,⟨s.hh,λt w hw=>?_,⟨s.sat.wf,λk ty' w hk=>?_,λk k' x y hx hy e=>?_,nd,λd hd hX=>?_,s.sat.xlt,λd hd=>?_,R.st _ _ _ _ _ s.sat.res le.D le.val (λ_ _=>rfl) (Zc _),s.sat.gl.mono le⟩,λd hd=>?_,s.nd⟩,⟨λ_ _=>rfl,λh=>h,Zc _,λ_ _ _ _=>rfl,λ_ h=>.inl h,λd hd=>?_,λk x hk h=>?_,λk x hk h=>?_,λ_ h=>.inl h,λ_ h _ _=>h⟩⟩
 .obtain⟨w0,g1,g2⟩:=hf t w hw;obtain⟨u,g3,g4⟩:=s.fr _ _ g1;exact⟨u,g3,j3q q g2 g4⟩
 .obtain⟨g1,w0,g2,g3⟩:=hh k _ _ hk;obtain⟨q1,q2,q3,u,q4,q5⟩:=s.sat.own _ _ _ g2;refine⟨q1,λh=>?_,q3,u,q4,j3q q g3 q5⟩;rcases h with h|h
  .exact q2 h
  .exact g1 (s.sat.inj k b _ _ g2 hb h)
 .obtain⟨_,w0,g2,_⟩:=hh k x.1 x.2 hx;obtain⟨_,w1,g4,_⟩:=hh k' y.1 y.2 hy;exact s.sat.inj _ _ _ _ g2 g4 e
 .rcases hd with h|rfl
  .exact s.sat.dX d h hX
  .exact p3 hX
 .rcases hd with h|rfl
  .exact s.sat.dlt d h
  .exact hlt
 .obtain⟨q1,q2,q3,q4,q5,q6⟩:=s.ds d hd;refine⟨q1,q2,q3,λh=>q4 (howns h).1,q5,λh=>?_⟩;rcases h with h|rfl
  .exact q6 h
  .exact q4 ⟨b,_,hb,rfl⟩
 .rcases hd with h|rfl
  .exact .inl h
  .exact .inr (.inl (.inl ⟨b,_,hb,rfl⟩))
 .obtain⟨_,w0,g2,_⟩:=hh k x.1 x.2 h;exact⟨_,g2⟩
 .obtain⟨_,w0,g2,_⟩:=hh k x.1 x.2 h;exact .inr ⟨k,_,hk,g2,rfl⟩
theorem Y7q{o:Oper}{x:Operand}{xs:Array Operand}{ats:Array TypeId}(ho:o.op= .call ⟨.value x,xs,ats⟩)(frv:Tr V)(h:Heap):ygq C frv o.type o.op=none/\opH C frv h o.op=none:=by
 rw[ho];exact⟨rfl,rfl⟩
theorem kLq{ev:EvW}{o:Oper}{post:W->HpW->Nat->Res->Option EvW->Prop}{x:Operand}{xs:Array Operand}{ats:Array TypeId}{f:FuncId}{a us c:List W}{ext:List Nat}{ws:List W}{hp0:HpW}{Q:W->HpW->Nat->Prop}
  (ho:o.op= .call ⟨.value x,xs,ats⟩) (hx:evW C G fr x=some (.fn f a c)) (he:C.ext f=none) (hxs:ayq C G fr xs.toList=some us) (hws:a++us++c=ySq (afq ext nw) ws) (sp:yxq C G f ext.length ws hp0 Q)
  (hnd:ext.Nodup) (hext:∀b∈ext,b<nw) (hkn:(hp0.map (·.1)).Nodup) (hh:Jdq ext nw hp0 hp) (hr:azq ext.length ws=true)
  (hpost:∀w hp1 nw1,Q w hp1 nw1->post (adq (afq ext nw) w) (alq (afq ext nw) hp1++bVq ext hp) (nw+(nw1-ext.length)) R (some ev)) (hev:ev= .dirty\/∃b,ext=[b]/\ev= .updO b/\∃x,hget hp b=some x):aeq C G o fr hp nw R post:=λΓ X frv hnw s hf=>by
 subst hnw;obtain⟨u,e1,e2⟩:=zSq hf s.gl hx;obtain⟨a',c',rfl,e3,e4⟩:=RV_fn.1 e2;obtain⟨us',e5,e6⟩:=xoq hf s.gl hxs
 have app:∀{l r:List W} {l' r':List V},RVL Γ l l'->RVL Γ r r'->RVL Γ (l++r) (l'++r'):=λ{l}=>by
  induction l with
  |nil=>intro r l' r' h1 h2;simp only[RVL] at h1;subst h1;exact h2
  |cons w l ih=>
   intro r l' r' h1 h2;simp only[RVL] at h1;obtain⟨v,vs,rfl,h3,h4⟩:=h1;simp only[YW,RVL];exact⟨v,vs++r',rfl,h3,ih h4 h2⟩
 have hv:=app (app e3 e6) e4;rw[hws] at hv;obtain⟨n,v,Γ',w,hp1,nw1,g1,g2,g3,g4,g5,g6,g7,g8,g9⟩:=b0q sp s hnd hext hkn hh hr hv;obtain⟨k1,k2⟩:=Y7q (C:=C) ho frv Γ.h;refine⟨n,_,_,R,some ev,v,Γ'.h,Γ',X,by rw[g3];exact hpost w hp1 nw1 g2,?_,⟨k1,λH1 q1 q2=>?_⟩,rfl,g4,g5,g6,g7⟩
 .simp only[opV,k1,k2];simp only[ho,jfq,e1,e5,he];exact g1
 .rcases hev with rfl|⟨b,rfl,rfl,x,hb⟩
  .exact trivial
  .simp only[ho,asq];cases q:Nat.ble H1.next Γ'.h.wmin with
   |true=>exact .inl rfl
   |false=>
    have hlt:¬H1.next<=Γ'.h.wmin:=λh=>by rw[Zl h] at q;cases q
    rcases g8 q2.1 with h|⟨c,hc,hw⟩
    .omega
    .obtain rfl:=Y4.1 hc
     have hone:mdq H1 Γ'.h=true:=mbq λi h1 h2=>by
      rw[g9 i Xd (λd hd=>by rw[Y4.1 hd];omega)];show Γ.h.tr.get i=H1.tr.get i;rw[q2.2]
     rw[hone];exact .inr ⟨x,hb,Ze Ev.upd hw⟩
theorem zGq{o:Oper}{post:W->HpW->Nat->Res->Option EvW->Prop}{x:Operand}{xs:Array Operand}{ats:Array TypeId}{f:FuncId}{a us c:List W}{ext:List Nat}{ws:List W}{hp0:HpW}{Q:W->HpW->Nat->Prop}
  (ho:o.op= .call ⟨.value x,xs,ats⟩) (hx:evW C G fr x=some (.fn f a c)) (he:C.ext f=none) (hxs:ayq C G fr xs.toList=some us) (hws:a++us++c=ySq (afq ext nw) ws) (sp:yxq C G f ext.length ws hp0 Q)
  (hnd:ext.Nodup) (hext:∀b∈ext,b<nw) (hkn:(hp0.map (·.1)).Nodup) (hh:Jdq ext nw hp0 hp) (hr:azq ext.length ws=true)
  (hpost:∀w hp1 nw1,Q w hp1 nw1->post (adq (afq ext nw) w) (alq (afq ext nw) hp1++bVq ext hp) (nw+(nw1-ext.length)) R (some .dirty)):aeq C G o fr hp nw R post:=
 kLq ho hx he hxs hws sp hnd hext hkn hh hr hpost (.inl rfl)
noncomputable def apq(hp:HpW):Nat->Option W:=λb=>match hget hp b with
 |some (_,c)=>some c
 |none=>none
mutual
/-- a value that hangs on no memory -/
noncomputable def xVq:W->Bool
 |.undef=>true
 |.bool _=>true
 |.int _ _=>true
 |.str _=>true
 |.nilp=>true
 |.nils=>true
 |.nilm=>true
 |.nilf=>true
 |.nili=>true
 |.agg _ l=>bKq l
 |.arr _ _ l=>bKq l
 |.tup l=>bKq l
 |_=>false
noncomputable def bKq:List W->Bool
 |[]=>true
 |w::l=>xVq w&&bKq l
end
mutual
theorem dqq{Γ Γ':Ctx}:∀{w:W} {s:List V},xVq w=true->RS Γ w s->RS Γ' w s
 |.undef,_,_,h=>by simp only[RS] at h⊢;exact h
 |.bool _,_,_,h=>by simp only[RS] at h⊢;exact h
 |.int _ _,_,_,h=>by simp only[RS] at h⊢;exact h
 |.str _,_,_,h=>by simp only[RS] at h⊢;exact h
 |.nilp,_,_,h=>by simp only[RS] at h⊢;exact h
 |.ptr _ _,_,h,_=>by simp[xVq] at h
 |.nils,_,_,h=>by simp only[RS] at h⊢;exact h
 |.sl _ _ _ _ _ _,_,h,_=>by simp[xVq] at h
 |.fz _ _ _,_,h,_=>by simp[xVq] at h
 |.fel _,_,h,_=>by simp[xVq] at h
 |.nilm,_,_,h=>by simp only[RS] at h⊢;exact h
 |.fn _ _ _,_,h,_=>by simp[xVq] at h
 |.yield _,_,h,_=>by simp[xVq] at h
 |.nilf,_,_,h=>by simp only[RS] at h⊢;exact h
 |.iface _ _,_,h,_=>by simp[xVq] at h
 |.nili,_,_,h=>by simp only[RS] at h⊢;exact h
 |.agg n l,_,hf,h=>by simp only[xVq] at hf;simp only[RS] at h⊢;exact⟨h.1,Kpq hf h.2⟩
 |.arr n e l,_,hf,h=>by simp only[xVq] at hf;simp only[RS] at h⊢;exact⟨h.1,h.2.1,Kpq hf h.2.2⟩
 |.tup l,_,hf,h=>by
  simp only[xVq] at hf;simp only[RS] at h⊢;obtain⟨vs,h1,h2⟩:=h;exact⟨vs,h1,eNq hf h2⟩
theorem Kpq{Γ Γ':Ctx}:∀{l:List W} {s:List V},bKq l=true->RSL Γ l s->RSL Γ' l s
 |[],_,_,h=>by simp only[RSL] at h⊢;exact h
 |w::l,_,hf,h=>by
  simp only[bKq,Zb] at hf;simp only[RSL] at h⊢;exact⟨dqq hf.1 h.1,Kpq hf.2 h.2⟩
theorem eNq{Γ Γ':Ctx}:∀{l:List W} {vs:List V},bKq l=true->RVL Γ l vs->RVL Γ' l vs
 |[],_,_,h=>by simp only[RVL] at h⊢;exact h
 |w::l,_,hf,h=>by
  simp only[bKq,Zb] at hf;simp only[RVL] at h⊢;obtain⟨v,vs',rfl,⟨h1,h2⟩,h3⟩:=h;exact⟨v,vs',rfl,⟨h1,dqq hf.1 h2⟩,eNq hf.2 h3⟩
end
theorem sxq{Γ Γ':Ctx}{w:W}{v:V}(hf:xVq w=true)(h:RV Γ w v):RV Γ' w v:=⟨h.1,dqq hf h.2⟩
theorem bxq{o:Oper}{x:Operand}{xs:Array Operand}{ats:Array TypeId}{f:FuncId}{a us c ws:List W}{Q:W->HpW->Nat->Prop}
  (ho:o.op= .call ⟨.value x,xs,ats⟩) (hx:evW C G fr x=some (.fn f a c)) (he:C.ext f=none) (hxs:ayq C G fr xs.toList=some us) (hws:ViewL (apq hp) (a++us++c) ws) (sp:yxq C G f 0 ws [] Q) (hpw:acq ws=true):
  ∀Γ X frv,Γ.nw=nw->SatH C G Γ hp X R->FRel Γ fr frv->∃n v Γ1 Γ' w hp1 nw1,Q w hp1 nw1/\opV (Sn C n) C frv Γ.h o=some (v,Γ1.h)/\(ygq C frv o.type o.op=none/\∀H1:Heap,H1.next=Γ.h.next->(Γ.h.wmin=Γ.h.next/\H1.tr=Γ.h.tr) ->EvR Γ hp .gen (asq C frv H1 Γ1.h o.op))/\Γ'.nw=Γ.nw/\Γ'.h=Γ1.h/\Γ.Le Γ'/\SatH C G Γ' hp X R/\Frm Γ.nw Γ hp X Γ' hp X/\RV Γ1 w v:=λΓ X frv hnw s hf=>by
 subst hnw;obtain⟨u,e1,e2⟩:=zSq hf s.gl hx;obtain⟨a',c',rfl,e3,e4⟩:=RV_fn.1 e2;obtain⟨us',e5,e6⟩:=xoq hf s.gl hxs
 have app:∀{l r:List W} {l' r':List V},RVL Γ l l'->RVL Γ r r'->RVL Γ (l++r) (l'++r'):=λ{l}=>by
  induction l with
  |nil=>intro r l' r' h1 h2;simp only[RVL] at h1;subst h1;exact h2
  |cons w l ih=>
   intro r l' r' h1 h2;simp only[RVL] at h1;obtain⟨v,vs,rfl,h3,h4⟩:=h1;simp only[YW,RVL];exact⟨v,vs++r',rfl,h3,ih h4 h2⟩
 have hv:=app (app e3 e6) e4
 have hlt:∀{b y},hget hp b=some y->Γ.σ b<Γ.h.next:=λ{b y} h=>by
  obtain⟨_,_,_,u,h1,_⟩:=s.own b y.1 y.2 h;rcases ZM (Γ.σ b) Γ.h.next with h|h
  .exact h
  .rw[s.wf _ h] at h1;cases h1
 --all of one's own blocks count as what stays
 let Γ0:Ctx:=⟨0,Γ.σ,λc=>Γ.D c\/amq Γ hp c,Γ.h⟩
 have s0:SatH C G Γ0 [] (λ_=>False) Res.none:=⟨s.wf,λb ty w h=>by simp[hget] at h,λb c x y h=>by simp[hget] at h,YJ,λ_ _ h=>h,λ_ h=>h.elim,λd hd=>by
  rcases hd with h|⟨b,y,h1,rfl⟩
  .exact s.dlt d h
  .exact hlt h1,trivial,λg w h1 h2 n τ=>RV.mono (Γ:=⟨n,τ,Γ.D,Γ.h⟩) (Γ':=⟨n,τ,λc=>Γ.D c\/amq Γ hp c,Γ.h⟩) ⟨Zc _,λ_ _=>rfl,λ_ h=>.inl h,λ_ _=>rfl⟩ (s.gl g w h1 h2 n τ)⟩
 let Γs:Ctx:=⟨Γ.nw,Γ.σ,λc=>Γ.D c\/amq Γ hp c,Γ.h⟩
 have q:Seen (apq hp) Γ Γs:=⟨λ_ h _=>h,λ_ _ _=>rfl,λ_ h=>.inl h,λ_ _=>rfl,λb c _ h=>by
  unfold apq at h;split at h
  .rename_i ty c' hg;cases h;obtain⟨v,h1,h2,h3⟩:=qVq s hg;exact⟨.inr ⟨b,_,hg,rfl⟩,v,h2,h3⟩
  .cases h⟩
 have app2:RVL Γ0 ws (a'++us'++c'):=by
  have h1:=uYq q hws hv
  have:∀{l:List W} {vs:List V},acq l=true->RVL Γs l vs->RVL Γ0 l vs:=λ{l}=>by
   induction l with
   |nil=>intro vs _ h;simp only[RVL] at h⊢;exact h
   |cons w l ih=>
    intro vs hp h;simp only[acq,Zb] at hp;simp only[RVL] at h⊢;obtain⟨v,vs',rfl,⟨h2,h3⟩,h4⟩:=h;exact⟨v,vs',rfl,⟨h2,Jaq (Γ:=Γs) (Γ':=Γ0) (λ_ h=>h) (λ_ _=>rfl) hp.1 h3⟩,ih hp.2 h4⟩
  exact this hpw h1
 obtain⟨n,v,Γ1,X1,w,hp1,R1,g1,g2,g3,g4,rfl,hq⟩:=sp Res.none Γ0 (λ_=>False) _ rfl s0 app2;have keep:∀{c},c<Γ.h.next->Γ1.h.get c=Γ.h.get c:=λ{c} h=>g3.keep c h (λ⟨b,x,h1,_⟩=>by simp[hget] at h1) (λh=>h)
 let Γ':Ctx:=⟨Γ.nw,Γ.σ,Γ.D,Γ1.h⟩
 have le:Γ.Le Γ':=⟨Zc _,λ_ _=>rfl,λ_ h=>h,λc hc=>yRq (keep (s.dlt c hc))⟩
 have hw:∀S:Nat->Prop,S Γ.h.wmin->(∀c,Γ.h.next<=c->S c) ->S Γ1.h.wmin:=λS h1 h2=>g3.wmin S h1 h2 λc hc=>by
  rcases hc with ⟨b,x,h1,_⟩|hc
  .simp[hget] at h1
  .exact hc.elim
 have s':SatH C G Γ' hp X R:=⟨g2.wf,λb ty w h=>by
  obtain⟨q1,q2,q3,u,q4,q5⟩:=s.own b ty w h;exact⟨q1,q2,q3,u,(keep (hlt h)).trans q4,q5.mono le⟩,s.inj,s.nd,s.dX,λc hc=>Zw (s.xlt c hc) g3.next,λc hc=>Zw (s.dlt c hc) g3.next,R.st _ _ _ _ _ s.res le.D le.val (λc hc=>keep (s.xlt c hc)) g3.next,s.gl.mono le⟩
 have f':Frm Γ.nw Γ hp X Γ' hp X:=⟨λ_ _=>rfl,λh=>h,g3.next,λc h _ _=>keep h,λ_ h=>h,λ_ h=>.inl h,λ_ x _ h=>⟨x,h⟩,λb x hb h=>.inr ⟨b,x,hb,h,rfl⟩,λ_ h=>.inl h,λk h1 h2 _=>hw k h1 h2⟩;obtain⟨k1,k2⟩:=Y7q (C:=C) ho frv Γ.h;refine⟨n,v,Γ1,Γ',w,hp1,_,hq,?_,⟨k1,λH1 e1' e2'=>?_⟩,rfl,rfl,le,s',f',g4⟩
 .simp only[opV,k1,k2];simp only[ho,jfq,e1,e5,he];exact g1
 .have:=hw (λc=>Γ.h.next<=c) (by show Γ.h.next<=Γ.h.wmin;omega) (λc h=>h);refine .inl ?_;simp only[ho,asq];rw[e1',Zl this]
theorem a5q{o:Oper}{post:W->HpW->Nat->Res->Option EvW->Prop}{x:Operand}{xs:Array Operand}{ats:Array TypeId}{f:FuncId}{a us c ws:List W}{Q:W->HpW->Nat->Prop}
  (ho:o.op= .call ⟨.value x,xs,ats⟩) (hx:evW C G fr x=some (.fn f a c)) (he:C.ext f=none) (hxs:ayq C G fr xs.toList=some us) (hws:ViewL (apq hp) (a++us++c) ws) (sp:yxq C G f 0 ws [] Q) (hpw:acq ws=true)
  (hpost:∀w hp1 nw1,Q w hp1 nw1->xVq w=true/\post w hp nw R (some .gen)):aeq C G o fr hp nw R post:=λΓ X frv hnw s hf=>by
 obtain⟨n,v,Γ1,Γ',w,hp1,nw1,hq,h1,h2,h3,h4,h5,h6,h7,h8⟩:=bxq ho hx he hxs hws sp hpw Γ X frv hnw s hf;obtain⟨hfl,hpo⟩:=hpost w hp1 _ hq;exact⟨n,w,hp,R,some .gen,v,Γ1.h,Γ',X,by rw[h3,hnw];exact hpo,h1,h2,h4,h5,h6,h7,sxq hfl h8⟩
theorem vRq{o:Oper}{post:W->HpW->Nat->Res->Option EvW->Prop}{x:Operand}{xs:Array Operand}{ats:Array TypeId}{f:FuncId}{a us c:List W}{Q:W->HpW->Nat->Prop}
  (ho:o.op= .call ⟨.value x,xs,ats⟩) (hx:evW C G fr x=some (.fn f a c)) (he:C.ext f=none) (hxs:ayq C G fr xs.toList=some us) (sp:yxq C G f 0 (a++us++c) [] Q) (hpw:acq (a++us++c)=true)
  (hpost:∀w hp1 nw1,Q w hp1 nw1->abq w=true/\post w hp nw R (some .gen)):aeq C G o fr hp nw R post:=λΓ X frv hnw s hf=>by
 subst hnw;obtain⟨u,e1,e2⟩:=zSq hf s.gl hx;obtain⟨a',c',rfl,e3,e4⟩:=RV_fn.1 e2;obtain⟨us',e5,e6⟩:=xoq hf s.gl hxs
 have app:∀{l r:List W} {l' r':List V},RVL Γ l l'->RVL Γ r r'->RVL Γ (l++r) (l'++r'):=λ{l}=>by
  induction l with
  |nil=>intro r l' r' h1 h2;simp only[RVL] at h1;subst h1;exact h2
  |cons w l ih=>
   intro r l' r' h1 h2;simp only[RVL] at h1;obtain⟨v,vs,rfl,h3,h4⟩:=h1;simp only[YW,RVL];exact⟨v,vs++r',rfl,h3,ih h4 h2⟩
 have hv:=app (app e3 e6) e4
 have hlt:∀{b y},hget hp b=some y->Γ.σ b<Γ.h.next:=λ{b y} h=>by
  obtain⟨_,_,_,u,h1,_⟩:=s.own b y.1 y.2 h;rcases ZM (Γ.σ b) Γ.h.next with h|h
  .exact h
  .rw[s.wf _ h] at h1;cases h1
 let Γ0:Ctx:=⟨0,Γ.σ,Γ.D,Γ.h⟩
 have s0:SatH C G Γ0 [] (λ_=>False) Res.none:=⟨s.wf,λb ty w h=>by simp[hget] at h,λb c x y h=>by simp[hget] at h,YJ,λ_ _ h=>h,λ_ h=>h.elim,s.dlt,trivial,s.gl⟩
 have app2:RVL Γ0 (a++us++c) (a'++us'++c'):=by
  have:∀{l:List W} {vs:List V},acq l=true->RVL Γ l vs->RVL Γ0 l vs:=λ{l}=>by
   induction l with
   |nil=>intro vs _ h;simp only[RVL] at h⊢;exact h
   |cons w l ih=>
    intro vs hp h;simp only[acq,Zb] at hp;simp only[RVL] at h⊢;obtain⟨v,vs',rfl,⟨h2,h3⟩,h4⟩:=h;exact⟨v,vs',rfl,⟨h2,Jaq (Γ:=Γ) (Γ':=Γ0) (λ_ h=>h) (λ_ _=>rfl) hp.1 h3⟩,ih hp.2 h4⟩
  exact this hpw hv
 obtain⟨n,v,Γ1,X1,w,hp1,R1,g1,g2,g3,g4,rfl,hq⟩:=sp Res.none Γ0 (λ_=>False) _ rfl s0 app2;obtain⟨hfl,hpo⟩:=hpost w hp1 _ hq;have keep:∀{c},c<Γ.h.next->Γ1.h.get c=Γ.h.get c:=λ{c} h=>g3.keep c h (λ⟨b,x,h1,_⟩=>by simp[hget] at h1) (λh=>h)
 have dnew:∀{c},Γ1.D c->Γ.D c\/Γ.h.next<=c:=λ{c} h=>by
  rcases g3.dnew c h with h|(⟨b,x,h1,_⟩|h)|h
  .exact .inl h
  .simp[hget] at h1
  .exact h.elim
  .exact .inr h
 let Γ':Ctx:=⟨Γ.nw,Γ.σ,Γ1.D,Γ1.h⟩
 have le:Γ.Le Γ':=⟨Zc _,λ_ _=>rfl,g3.dsub,λc hc=>yRq (keep (s.dlt c hc))⟩
 have hw:∀S:Nat->Prop,S Γ.h.wmin->(∀c,Γ.h.next<=c->S c) ->S Γ1.h.wmin:=λS h1 h2=>g3.wmin S h1 h2 λc hc=>by
  rcases hc with ⟨b,x,h1,_⟩|hc
  .simp[hget] at h1
  .exact hc.elim
 have s':SatH C G Γ' hp X R:=⟨g2.wf,λb ty w h=>by
  obtain⟨q1,q2,q3,u,q4,q5⟩:=s.own b ty w h;refine⟨q1,λhd=>?_,q3,u,(keep (hlt h)).trans q4,q5.mono le⟩;rcases dnew hd with hd|hd
  .exact q2 hd
  .have:=hlt h;have hd:Γ.h.next<=Γ.σ b:=hd;omega,s.inj,s.nd,λc hc hX=>by
   rcases dnew hc with hd|hd
   .exact s.dX c hd hX
   .have:=s.xlt c hX;omega,λc hc=>Zw (s.xlt c hc) g3.next,g2.dlt,R.st _ _ _ _ _ s.res le.D le.val (λc hc=>keep (s.xlt c hc)) g3.next,s.gl.mono le⟩
 have f':Frm Γ.nw Γ hp X Γ' hp X:=⟨λ_ _=>rfl,λh=>h,g3.next,λc h _ _=>keep h,g3.dsub,λc h=>by
  rcases dnew h with h|h
  .exact .inl h
  .exact .inr (.inr h),λ_ x _ h=>⟨x,h⟩,λb x hb h=>.inr ⟨b,x,hb,h,rfl⟩,λ_ h=>.inl h,λk h1 h2 _=>hw k h1 h2⟩
 obtain⟨k1,k2⟩:=Y7q (C:=C) ho frv Γ.h;refine⟨n,w,hp,R,some .gen,v,Γ1.h,Γ',X,hpo,?_,⟨k1,λH1 e1' e2'=>?_⟩,rfl,le,s',f',iQq (Γ:=Γ1) (Γ':=Γ') (λ_ h=>h) (λ_ _=>rfl) hfl g4⟩
 .simp only[opV,k1,k2];simp only[ho,jfq,e1,e5,he];exact g1
 .have:=hw (λc=>Γ.h.next<=c) (by show Γ.h.next<=Γ.h.wmin;omega) (λc h=>h);refine .inl ?_;simp only[ho,asq];rw[e1',Zl this]
end
end
noncomputable def inK(k:IntKind)(z:Int):Prop:=match k with
 |.i64=>-9223372036854775808<=z/\z<9223372036854775808
 |.u64=>0<=z/\z<18446744073709551616
 |.u32=>0<=z/\z<4294967296
 |.u8=>0<=z/\z<256
 |k=>k.wrap z=z
theorem ZAq{k:IntKind}{z:Int}(h:inK k z):k2q k z=z:=by
 cases k<;>simp only[inK] at h
 case i64=>
  cases z with
  |ofNat a=>
   simp only[k2q];have:Nat.blt a 9223372036854775808=true:=by simp only[Int.ofNat_eq_natCast] at h;simpa[YQ] using (by omega:a<9223372036854775808)
   rw[this]
  |negSucc a=>
   simp only[k2q];have:Nat.blt a 9223372036854775808=true:=by simpa[YQ] using (by omega:a<9223372036854775808)
   rw[this]
 case u64=>
  obtain⟨a,rfl⟩:=Int.eq_ofNat_of_zero_le h.1;show Int.ofNat (a%_)=_;rw[YV Xd];rfl
 case u32=>
  obtain⟨a,rfl⟩:=Int.eq_ofNat_of_zero_le h.1;show Int.ofNat (a%_)=_;rw[YV Xd];rfl
 case u8=>
  obtain⟨a,rfl⟩:=Int.eq_ofNat_of_zero_le h.1;show Int.ofNat (a%_)=_;rw[YV Xd];rfl
 all_goals (cases z<;>exact h)
theorem ltI_iff{m n:Int}:ltI m n=true↔m<n:=by
 unfold ltI;split
 .simp[YQ]
 .simp;omega
 .simp;omega
 .rename_i a b;simp[YQ];omega
theorem ltI_not{m n:Int}:ltI m n=false↔¬m<n:=by rw[<-Bool.not_eq_true,ltI_iff]
theorem eqI_iff{m n:Int}:eqI m n=true↔m=n:=by
 rw[YQq];simp
theorem eqI_not{m n:Int}:eqI m n=false↔¬m=n:=by rw[<-Bool.not_eq_true,eqI_iff]
theorem h2q{m n:Int}:eqI m n=decide (m=n):=by rw[Bool.eq_iff_iff,eqI_iff];simp
section
variable {C:Cfg} {G:Nat->Option W} {m:Nat} {ops:Array Oper} {l:List Oper} {i:Nat} {es:List (Nat×EvW)} {fr:FrW} {hp:HpW} {nw:Nat} {R:Res} {K:FrW->HpW->Nat->Res->Prop} {o:Oper}
theorem tPq{k:IntKind}{z:Int}(n:Nat)(hw:qqq ops fr o=some true)(hx:yJq C G fr o.op=some (.int k (k2q k z)))(hn:z=(n:Int))(hz:inK k (n:Int))(h:OpW C G m ops l (aoq fr o.dst (.int k (n:Int))) hp nw R K):OpW C G m ops (o::l) fr hp nw R K:=
 yyq hw (by rw[hx,hn,ZAq hz]) h
theorem kpq{w w':W}(hw:qqq ops fr o=some true)(hx:yJq C G fr o.op=some w)(e:w=w')(h:OpW C G m ops l (aoq fr o.dst w') hp nw R K):OpW C G m ops (o::l) fr hp nw R K:=yyq hw (e▸hx) h
theorem jcq{w w':W}(hw:qqq ops fr o=some true)(hx:yJq C G fr o.op=some w)(e:w=w')(h:FlW C G m ops l (i+1) es (aoq fr o.dst w') hp nw R K):FlW C G m ops (o::l) i es fr hp nw R K:=jOq hw (e▸hx) h
theorem z7q{t:TypeId}{x:Operand}{b off:Nat}{ti:TyI}{ty:TypeId}{v r:W}(hx:evW C G fr x=some (.ptr b off))(hi:C.ty t=some ti)(hb:hget hp b=some (ty,v))(hg:zYq 50 v off ti.size ti.agg=some r):aDq C G fr hp nw (.load t x)=some (r,hp,nw,.loadO b):=by
 simp only[aDq,rtq,hx,hi,hb,hg]
theorem qrq{t:TypeId}{x y:Operand}{b off:Nat}{ti:TyI}{ty:TypeId}{u v v':W}{hp':HpW}(hx:evW C G fr x=some (.ptr b off))(hy:evW C G fr y=some u)(hi:C.ty t=some ti)(hb:hget hp b=some (ty,v))(hs:Nat.beq u.size ti.size=true)(hg:yoq 50 v off u=some v')(hh:anq hp b (ty,v')=hp'):aDq C G fr hp nw (.store t x y)=some (.undef,hp',nw,.storeO b):=by
 simp only[aDq,hFq,hx,hy,hi,hb,hs,hg,hh]
theorem oyq{t:TypeId}{x z:Operand}{j k:TyI}{e:TypeId}{b base off len esz h:Nat}{lim:Option Nat}{u:W}(hj:C.ty t=some j)(hd:j.d= .slice e)(hx:evW C G fr x=some (.sl b base off len esz lim))(hk:C.ty e=some k)(hs:Nat.beq k.size esz=true)(hz:evW C G fr z=some u)(hn:ccq u=some h)(hle:h<=len):
  yJq C G fr (.slice t x none (some z) none)=some (.sl b base (off+0*esz) (h-0) esz (qNq 0 lim)):=by
 have:(Nat.ble 0 h&&Nat.ble h len)=true:=by rw[Zl hle];simp
 simp only[yJq,Z3q,hj,hd,hx,hk,hs,aCq,hz,hn,rXq,this]
theorem oxq{t:TypeId}{x z:Operand}{j k:TyI}{e:TypeId}{b base off len esz l:Nat}{lim:Option Nat}{u:W}(hj:C.ty t=some j)(hd:j.d= .slice e)(hx:evW C G fr x=some (.sl b base off len esz lim))(hk:C.ty e=some k)(hs:Nat.beq k.size esz=true)(hz:evW C G fr z=some u)(hn:ccq u=some l)(hle:l<=len)(h0:Nat.beq l 0=false):
  yJq C G fr (.slice t x (some z) none none)=some (.sl b off (off+l*esz) (len-l) esz (qNq l lim)):=by
 have:(Nat.ble l len&&Nat.ble len len)=true:=by rw[Zl hle];simp
 simp only[yJq,Z3q,hj,hd,hx,hk,hs,aCq,hz,hn,rXq,this,h0]
theorem qbq{t:TypeId}{x y:Operand}{j k:TyI}{e:TypeId}{b base off len esz i:Nat}{lim:Option Nat}{u:W}(hj:C.ty t=some j)(hd:j.d= .slice e)(hx:evW C G fr x=some (.sl b base off len esz lim))(hy:evW C G fr y=some u)(hn:ccq u=some i)(hk:C.ty e=some k)(hs:Nat.beq k.size esz=true)(hi:i<len):
  yJq C G fr (.indexAddr t x y)=some (.ptr b (off+i*esz)):=by
 have:Nat.blt i len=true:=by simpa[YQ] using hi
 simp only[yJq,jjq,hj,hx,hy,hn,hd,hk,this,hs]
theorem ksq{t:TypeId}{x y:Operand}{j k:TyI}{e:TypeId}{b off n i:Nat}{u:W}(hj:C.ty t=some j)(hd:j.d= .arr n e)(hx:evW C G fr x=some (.ptr b off))(hy:evW C G fr y=some u)(hn:ccq u=some i)(hk:C.ty e=some k)(hi:i<n):
  yJq C G fr (.indexAddr t x y)=some (.ptr b (off+i*k.size)):=by
 have:Nat.blt i n=true:=by simpa[YQ] using hi
 simp only[yJq,jjq,hj,hx,hy,hn,hd,hk,this]
theorem zyq{t:TypeId}{x y:Operand}{j k:TyI}{e:TypeId}{l:List W}{esz i:Nat}{full:Bool}{u r:W}(hj:C.ty t=some j)(hd:j.d= .slice e)(hx:evW C G fr x=some (.fz l esz full))(hy:evW C G fr y=some u)(hn:ccq u=some i)(hk:C.ty e=some k)(hs:Nat.beq k.size esz=true)(hi:l[i]? =some r):
  yJq C G fr (.indexAddr t x y)=some (.fel r):=by
 simp only[yJq,jjq,hj,hx,hy,hn,hd,hk,hi,hs]
theorem hxq{t:TypeId}{x y:Operand}{j k:TyI}{e:TypeId}{v r u:W}{n i:Nat}(hj:C.ty t=some j)(hd:j.d= .arr n e)(hx:evW C G fr x=some (.fel v))(hy:evW C G fr y=some u)(hn:ccq u=some i)(hk:C.ty e=some k)(hi:i<n)(h0:Nat.beq k.size 0=false)(hg:zYq 50 v (i*k.size) k.size k.agg=some r):
  yJq C G fr (.indexAddr t x y)=some (.fel r):=by
 have:Nat.blt i n=true:=by simpa[YQ] using hi
 simp only[yJq,jjq,hj,hx,hy,hn,hd,hk,this,h0,hg]
end
section
variable {C:Cfg} {hp:HpW} {nw:Nat} {ts tx e ty:TypeId} {j k:TyI} {x:W} {news olds l:List W}
theorem eJq(hj:C.ty ts=some j)(hd:j.d= .slice e)(hk:C.ty e=some k)(hz:Nat.beq k.size 0=false)(hs:aJq C hp tx k.size x=some []):b5q C hp nw ts tx .nils x=some (.nils,hp,nw,.gen):=by
 simp only[b5q,hj,hd,hk,hz,hs]
theorem uUq(hj:C.ty ts=some j)(hd:j.d= .slice e)(hk:C.ty e=some k)(hz:Nat.beq k.size 0=false)(hs:aJq C hp tx k.size x=some news)(hn:news≠[])(h1:news.length*k.bytes<=140737488355328)(h2:news.length<=70368744177664):
  b5q C hp nw ts tx .nils x=some (.sl nw 0 0 news.length k.size none,(nw,e,.arr (news.length*k.size) k.size news)::hp,nw+1,.gen):=by
 cases news with
 |nil=>exact absurd rfl hn
 |cons a r=>simp only[b5q,hj,hd,hk,hz,hs,Zl h1,Zl h2,Bool.and_self]
theorem jPq{b base off len:Nat}{lim:Option Nat}(hj:C.ty ts=some j)(hd:j.d= .slice e)(hk:C.ty e=some k)(hz:Nat.beq k.size 0=false)(hs:aJq C hp tx k.size x=some []):b5q C hp nw ts tx (.sl b base off len k.size lim) x=some (.sl b base off len k.size lim,hp,nw,.gen):=by
 simp only[b5q,hj,hd,hk,hz,hs,show Nat.beq k.size k.size=true by simp]
theorem qOq{b base off len:Nat}{v:W}(hj:C.ty ts=some j)(hd:j.d= .slice e)(hk:C.ty e=some k)(hz:Nat.beq k.size 0=false)(hs:aJq C hp tx k.size x=some news)(hn:news≠[])(h1:(len+news.length)*k.bytes<=140737488355328)(h2:len+news.length<=70368744177664)(hg:hget hp b=some (ty,v))
  (h3:v.size<off+(len+news.length)*k.size) (ht:fOq ty e=true) (ho:ysq 50 v off len k.size=some olds):
  b5q C hp nw ts tx (.sl b base off len k.size none) x=some (.sl nw 0 0 (len+news.length) k.size none,(nw,e,.arr ((len+news.length)*k.size) k.size (olds++news))::awq hp b,nw+1,.updO b):=by
 have h3:Nat.ble (off+(len+news.length)*k.size) v.size=false:=by
  cases hq:Nat.ble (off+(len+news.length)*k.size) v.size with
  |true=>have:=Yb hq;omega
  |false=>rfl
 cases news with
 |nil=>exact absurd rfl hn
 |cons a r=>simp only[b5q,hj,hd,hk,hz,hs,Zl h1,Zl h2,Bool.and_self,show Nat.beq k.size k.size=true by simp,hg,h3,ht,ho]
theorem qaq{G:Nat->Option W}{fr:FrW}{x y:Operand}{s u:W}{r:fBq}(hx:evW C G fr x=some s)(hy:evW C G fr y=some u)(h:b5q C hp nw ts tx s u=some r):aDq C G fr hp nw (.call ⟨.builtin .append, #[x,y], #[ts,tx]⟩)=some r:=by
 simp only[aDq,cYq,hx,hy,h]
end
section
variable {C:Cfg} {G:Nat->Option W} {m k0:Nat} {rd:Bool} {fr:FrW} {hp:HpW} {nw:Nat} {R:Res} {Q:qpq} {x:Exit}
theorem ttq{y:Code}(hx:x≠ .normal)(h:Q x fr hp nw R):Awq C G m k0 rd y Q x fr hp nw R:=by cases x<;>first|exact h|exact absurd rfl hx
theorem ANq{id:Nat}(h:Q .normal fr hp nw R):Zvq id Q (.exit id) fr hp nw R:=by simp only[Zvq,show Nat.beq id id=true by simp];exact h
theorem tvq{id id':Nat}(hne:Nat.beq id' id=false)(h:Q (.exit id') fr hp nw R):Zvq id Q (.exit id') fr hp nw R:=by simp only[Zvq,hne];exact h
theorem twq{id:Nat}(hx:∀i,x≠ .exit i)(h:Q x fr hp nw R):Zvq id Q x fr hp nw R:=by cases x<;>first|exact h|exact absurd rfl (hx _)
theorem qUq{α:Type}{I:α->Prop}{F:α->FrW}{H:α->HpW}{N:α->Nat}{RR:α->Res}{μ:α->Nat}{k:Nat}(hx:x≠ .normal)(h:Q x fr hp nw R):x6q C G m k0 I F H N RR μ k Q x fr hp nw R:=by cases x<;>first|exact h|exact absurd rfl hx
theorem xdq{c:Code}{k:Nat}(hx:∀i,x≠ .goto i)(h:Q x fr hp nw R):Jcq C G m k0 rd c Q k x fr hp nw R:=by cases x<;>cases k<;>first|exact h|exact absurd rfl (hx _)
end
noncomputable def aqq(fr:FrW):FrW->Prop
 |[]=>True
 |(t,w)::l=>arq fr t=some w/\aqq fr l
theorem ZFq{fr:FrW}:∀{l:FrW},aqq fr l->∀t w,arq l t=some w->arq fr t=some w
 |[],_,t,w,h=>by simp[arq] at h
 |(k,u)::l,hs,t,w,h=>by
  simp only[arq] at h;split at h
  .rename_i e;rw[ZE] at e;subst e;cases h;exact hs.1
  .exact ZFq hs.2 t w h
theorem ynq{C:Cfg}{G:Nat->Option W}{m k0:Nat}{fr fr2:FrW}{hp hp2:HpW}{nw nw2:Nat}{R:Res}(hf:aqq fr fr2)(hh:hp=hp2)(hn:nw=nw2):Ent C G m k0 fr hp nw R fr2 hp2 nw2 R:=by
 subst hh;subst hn;exact m6q (ZFq hf)
theorem imq{C:Cfg}{G:Nat->Option W}{m k0:Nat}{rd:Bool}{c:Code}{fr:FrW}{hp:HpW}{nw:Nat}{R:Res}{Q:qpq}
  (h:CoW C G m k0 rd c fr hp nw R λx fr hp nw R=>∃fr2 hp2 nw2 R2,Ent C G m k0 fr hp nw R fr2 hp2 nw2 R2/\Q x fr2 hp2 nw2 R2):CoW C G m k0 rd c fr hp nw R Q:=λΓ X st h1 h2 h3 h4 h5=>by
 obtain⟨n,x,st',Γ',X',fr',hp',R',g1,g2,g3,g4,fr2,hp2,nw2,R2,e,g5⟩:=h Γ X st h1 h2 h3 h4 h5;obtain⟨Γ2,X2,e1,e2,e3⟩:=e Γ' X' st' rfl (g3.mle (h1▸h2)) g2;exact⟨n,x,st',Γ2,X2,fr2,hp2,R2,g1,e2,g3.trans e3,g4,e1▸g5⟩
theorem Y1q{α:Type}{C:Cfg}{G:Nat->Option W}{m k0:Nat}{rd:Bool}{x y:Code}{fr:FrW}{hp:HpW}{nw:Nat}{R:Res}{Q:qpq}(I:α->Prop)(F:α->FrW)(H:α->HpW)(N:α->Nat)
  (hx:CoW C G m k0 rd x fr hp nw R λe fr hp nw R'=>e= .normal/\∃a,I a/\Ent C G m k0 fr hp nw R' (F a) (H a) (N a) R) (hy:∀a,I a->CoW C G m k0 rd y (F a) (H a) (N a) R Q):CoW C G m k0 rd (.seq x y) fr hp nw R Q:=
 ozq (imq (Kfq hx λe fr hp nw R' h=>by
  obtain⟨rfl,a,h1,h2⟩:=h;exact⟨_,_,_,_,h2,hy a h1⟩))
noncomputable def cdq(C:Cfg)(G:Nat->Option W)(m k0:Nat)(rs:List ResultVar)(Q:W->HpW->Nat->Res->Prop):qpq:=λx fr hp nw R=>∃fr2 hp2 nw2 R2,Ent C G m k0 fr hp nw R fr2 hp2 nw2 R2/\(x= .normal\/x= .ret)/\∃w,e6q C fr2 hp2 rs=some w/\Q w hp2 nw2 R2
theorem cwq{C:Cfg}{G:Nat->Option W}{m:Nat}{hp:HpW}{R:Res}{f:FuncId}{fn:Func}{c:Code}{ws:List W}{Q:W->HpW->Nat->Res->Prop}(hk:C.known f=none)(hf:C.fn f=some fn)(hb:fn.body=some c)(hn:ws.length<=fn.ntmps)
  (h:∀k0,CoW C G m k0 false c (Zbq 0 ws) hp m R (cdq C G m k0 fn.results.toList Q)):aiq C G f m ws hp R Q:=pjq hk hf hb hn λk0=>imq (h k0)
theorem fin{C:Cfg}{G:Nat->Option W}{m k0:Nat}{rs:List ResultVar}{Q:W->HpW->Nat->Res->Prop}{x:Exit}{fr fr2:FrW}{hp hp2:HpW}{nw nw2:Nat}{R R2:Res}{w:W}(hx:x= .normal\/x= .ret)(e:Ent C G m k0 fr hp nw R fr2 hp2 nw2 R2)(ho:e6q C fr2 hp2 rs=some w)(hq:Q w hp2 nw2 R2):
  cdq C G m k0 rs Q x fr hp nw R:=⟨fr2,hp2,nw2,R2,e,hx,w,ho,hq⟩
theorem zDq{C:Cfg}{G:Nat->Option W}{m k0 nw nw2:Nat}{fr fr2:FrW}{hp hp2:HpW}{R:Res}(hm:m<=nw2)(hn:nw2<=nw)(hf:aqq fr fr2)(hr:fr2.all (λp=>agq nw2 p.2)=true)(hh:∀b x,hget hp2 b=some x->b<nw2/\hget hp b=some x/\agq nw2 x.2=true)(nd:(hp2.map (·.1)).Nodup):
  Ent C G m k0 fr hp nw R fr2 hp2 nw2 R:=λΓ X st hnw hmn s=>by
 let Γ2:Ctx:=⟨nw2,Γ.σ,Γ.D,Γ.h⟩
 have back:∀{w:W} {v:V},agq nw2 w=true->RV Γ w v->RV Γ2 w v:=λ{w v} q1 q2=>⟨q2.1,by
  have h1:=Zuq (τ:=λb=>b) (Γ:=Γ) (Γ':=Γ) ⟨λ_ h=>h,λ_ _=>rfl,λ_ h=>h,λ_ _=>rfl⟩ q2.2;exact x4q (Γ:=Γ) (Γ':=Γ2) (τ:=λb=>b) rfl (λ_ _=>rfl) (λ_ h=>h) (λ_ _=>rfl) q1 h1⟩
 have howns:∀{c},amq Γ2 hp2 c->amq Γ hp c:=λ{c} h=>by
  obtain⟨k,y,g1,g2⟩:=h;exact⟨k,_,(hh k y g1).2.1,g2⟩
 refine⟨Γ2,X,rfl,⟨s.hh,λt w hw=>?_,⟨s.sat.wf,λb ty w hb=>?_,λb c x y hx hy e=>s.sat.inj b c x y (hh b x hx).2.1 (hh c y hy).2.1 e,nd,s.sat.dX,s.sat.xlt,s.sat.dlt,s.sat.res,s.sat.gl⟩,λd hd=>?_,s.nd⟩,⟨λ_ _=>rfl,λ_=>hm,Zc _,λ_ _ _ _=>rfl,λ_ h=>h,λ_ h=>.inl h,λb x _ h=>⟨x,(hh b x h).2.1⟩,λb x hb h=>.inr ⟨b,x,hb,(hh b x h).2.1,rfl⟩,λ_ h=>.inl h,λ_ h _ _=>h⟩⟩
 .obtain⟨v,g3,g4⟩:=s.fr _ _ (ZFq hf t w hw);refine⟨v,g3,back ?_ g4⟩
  have key:∀{l:FrW},arq l t=some w->∃p∈l,p.2=w:=λ{l}=>by
   induction l with
   |nil=>intro h;simp[arq] at h
   |cons p l ih=>
    obtain⟨k,u⟩:=p;intro h;simp only[arq] at h;split at h
    .cases h;exact⟨_,ZS ..,rfl⟩
    .obtain⟨p,h1,h2⟩:=ih h;exact⟨p,ZP _ h1,h2⟩
  obtain⟨p,h1,rfl⟩:=key hw;exact(List.all_eq_true.1 hr) p h1
 .obtain⟨g1,g2,g3⟩:=hh b _ hb;obtain⟨q1,q2,q3,v,q4,q5⟩:=s.sat.own _ _ _ g2;exact⟨g1,q2,q3,v,q4,back g3 q5⟩
 .obtain⟨q1,q2,q3,q4,q5,q6⟩:=s.ds d hd;exact⟨q1,q2,q3,λh=>q4 (howns h),q5,q6⟩
noncomputable def eTq(hp:HpW)(nw:Nat):HpW->Prop
 |[]=>True
 |(b,x)::l=>(b<nw/\hget hp b=some x/\agq nw x.2=true)/\eTq hp nw l
theorem ztq{hp:HpW}{nw:Nat}:∀{l:HpW},eTq hp nw l->∀b x,hget l b=some x->b<nw/\hget hp b=some x/\agq nw x.2=true
 |[],_,b,x,h=>by simp[hget] at h
 |(k,y)::l,hs,b,x,h=>by
  rw[zeq] at h;split at h
  .rename_i e;subst e;cases h;exact hs.1
  .exact ztq hs.2 b x h
noncomputable def sFq(τ:Nat->Nat)(nw2:Nat)(fr:FrW):FrW->Prop
 |[]=>True
 |(t,w)::l=>(arq fr t=some (adq τ w)/\agq nw2 w=true)/\sFq τ nw2 fr l
theorem ZEq{τ:Nat->Nat}{nw2:Nat}{fr:FrW}:∀{l:FrW},sFq τ nw2 fr l->∀t w,arq l t=some w->arq fr t=some (adq τ w)/\agq nw2 w=true
 |[],_,t,w,h=>by simp[arq] at h
 |(k,u)::l,hs,t,w,h=>by
  simp only[arq] at h;split at h
  .rename_i e;rw[ZE] at e;subst e;cases h;exact hs.1
  .exact ZEq hs.2 t w h
noncomputable def Qlq(τ:Nat->Nat)(nw2:Nat)(hp:HpW):HpW->Prop
 |[]=>True
 |(b,x)::l=>(b<nw2/\hget hp (τ b)=some (x.1,adq τ x.2)/\agq nw2 x.2=true)/\Qlq τ nw2 hp l
theorem kKq{τ:Nat->Nat}{nw2:Nat}{hp:HpW}:∀{l:HpW},Qlq τ nw2 hp l->∀b x,hget l b=some x->b<nw2/\hget hp (τ b)=some (x.1,adq τ x.2)/\agq nw2 x.2=true
 |[],_,b,x,h=>by simp[hget] at h
 |(k,y)::l,hs,b,x,h=>by
  rw[zeq] at h;split at h
  .rename_i e;subst e;cases h;exact hs.1
  .exact kKq hs.2 b x h
noncomputable def b8q(b k:Nat):Nat->Nat:=λi=>match Nat.beq i b with
 |true=>k
 |false=>i
theorem jLq(b k:Nat):b8q b k b=k:=by simp[b8q]
theorem qwq{b k i:Nat}(h:i≠b):b8q b k i=i:=by
 unfold b8q
 have:Nat.beq i b=false:=by
  cases hq:Nat.beq i b with
  |true=>exact absurd (Zh hq) h
  |false=>rfl
 rw[this]
theorem qdq{C:Cfg}{G:Nat->Option W}{m k0 nw b k:Nat}{fr fr2:FrW}{hp hp2:HpW}{R:Res}(hm:m<=b)(hb:b<=k)(hk:k<nw)(hf:sFq (b8q b k) (b+1) fr fr2)(hh:Qlq (b8q b k) (b+1) hp hp2)(nd:(hp2.map (·.1)).Nodup):Ent C G m k0 fr hp nw R fr2 hp2 (b+1) R:=by
 refine daq (b8q b k) Xd (λi hi=>qwq Xd) (λi hi=>?_) (λi h1 h2=>?_) (ZEq hf) (kKq hh) (λi j x y hx hy e=>?_) nd
 .by_cases e:i=b
  .subst e;rw[jLq];exact hk
  .rw[qwq e];omega
 .by_cases e:i=b
  .subst e;rw[jLq];omega
  .rw[qwq e];exact h1
 .have h1:=(kKq hh i x hx).1;have h2:=(kKq hh j y hy).1;by_cases e1:i=b<;>by_cases e2:j=b
  .rw[e1,e2]
  .subst e1;rw[jLq,qwq e2] at e;omega
  .subst e2;rw[jLq,qwq e1] at e;omega
  .rwa[qwq e1,qwq e2] at e
theorem cXq{b0 b1 nw:Nat}{t0 t1:TypeId}{w0 w1:W}{hp:HpW}(h0:hget hp b0=some (t0,adq (afq [b0,b1] nw) w0))(h1:hget hp b1=some (t1,adq (afq [b0,b1] nw) w1))(r0:agq 2 w0=true)(r1:agq 2 w1=true):Jdq [b0,b1] nw [(0,t0,w0),(1,t1,w1)] hp:=λi ty w h=>by
 rw[zeq,zeq] at h;split at h
 .rename_i e;subst e;cases h;exact⟨by simp,r0,b0,rfl,h0⟩
 .split at h
  .rename_i e;subst e;cases h;exact⟨by simp,r1,b1,rfl,h1⟩
  .simp[hget] at h
theorem yCq{b0 nw:Nat}{t0:TypeId}{w0:W}{hp:HpW}(h0:hget hp b0=some (t0,adq (afq [b0] nw) w0))(r0:agq 1 w0=true):Jdq [b0] nw [(0,t0,w0)] hp:=λi ty w h=>by
 rw[zeq] at h;split at h
 .rename_i e;subst e;cases h;exact⟨by simp,r0,b0,rfl,h0⟩
 .simp[hget] at h
noncomputable def bN(l:List Nat):List W:=l.map λc=>.int .u8 (.ofNat c)
theorem vEq(l:List Nat):(bN l).length=l.length:=by simp[bN]
theorem Zsq:∀l:List Nat,acq (bN l)=true
 |[]=>rfl
 |_::l=>by simp only[bN,ZC,acq,abq,Y5];exact Zsq l
theorem snq{l:List Nat}{i:Nat}(h:i<l.length):(bN l)[i]? =some (.int .u8 (.ofNat (l.getD i 0))):=by
 simp[bN,ZY,Za h,List.getD]
theorem Ywq{w:W}(h:w.leaf=true):w.size=1:=by cases w<;>simp[W.leaf] at h<;>rfl
theorem mSq{w:W}(f:Nat)(h:w.leaf=true):zYq (f+1) w 0 1 false=some w:=by
 unfold zYq;simp[Ywq h,W.leaf_agg h,h]
theorem lVq{v w:W}(f:Nat)(h:v.leaf=true)(h':w.leaf=true):yoq (f+1) v 0 w=some w:=by
 unfold yoq;simp[Ywq h,Ywq h',W.leaf_agg h,W.leaf_agg h',h,h']
theorem qRq{n i f:Nat}{l:List W}{x:W}(h:l[i]? =some x)(hx:x.leaf=true):zYq (f+2) (.arr n 1 l) i 1 false=some x:=by
 unfold zYq;have:(Nat.beq i 0&&Nat.beq 1 (W.arr n 1 l).size&&false==(W.arr n 1 l).isAgg)=false:=by simp[W.isAgg]
 rw[this];simp only[Nat.div_one,Nat.mod_one,h];exact mSq f hx
theorem xeq{n i f:Nat}{l:List W}{x y:W}(h:l[i]? =some x)(hx:x.leaf=true)(hy:y.leaf=true):yoq (f+2) (.arr n 1 l) i y=some (.arr n 1 (l.set i y)):=by
 unfold yoq;have:(Nat.beq i 0&&Nat.beq y.size (W.arr n 1 l).size&&y.isAgg==(W.arr n 1 l).isAgg)=false:=by rw[W.leaf_agg hy,Bool.and_eq_false_iff];exact .inr rfl
 rw[this];simp only[Nat.div_one,Nat.mod_one,h,lVq f hx hy]
theorem uZq{n off k f:Nat}{l:List W}(hn:off+k<=n):ysq (f+1) (.arr n 1 l) off k 1=some ((l.drop off).take k):=by
 unfold ysq
 have:(Nat.beq 1 1&&Nat.beq (off%1) 0&&Nat.ble (off+k*1) n&&Nat.blt 0 1)=true:=by
  rw[Nat.mod_one,Z2,Zl hn];rfl
 simp only[this,Nat.div_one]
theorem RVL_nil{Γ:Ctx}{vs:List V}:RVL Γ [] vs↔vs=[]:=by simp[RVL]
theorem RVL_cons{Γ:Ctx}{w:W}{ws:List W}{vs:List V}:RVL Γ (w::ws) vs↔∃v vs',vs=v::vs'/\RV Γ w v/\RVL Γ ws vs':=by simp only[RVL,RV]
theorem lDq{C:Cfg}{G:Nat->Option W}{f:FuncId}{ws:List W}{w:W}{v:V}{vs:List V}{n:Nat}(h:∀h,yPq C n f vs h=some (v,h))(hv:∀Γ us,RVL Γ ws us->us=vs)(hw:∀Γ,RV Γ w v):yxq C G f 0 ws [] λw' hp' nw'=>w'=w/\hp'=[]/\nw'=0:=λR Γ X us h1 s hu=>by
 obtain rfl:=hv Γ us hu;exact⟨n,v,Γ,X,w,[],R,h Γ.h,s,Frm.refl _ _ _ _,hw Γ,rfl,rfl,rfl,h1⟩
end
end Go.Proofs.YtpjfmknefefapaaGreatDoor

/- CallAlone's ground, part 3. No condition. -/
import Derived.Test.YtcoldbcijgmidaaGreatDoorYCallAloneB
set_option linter.unusedSimpArgs false
set_option linter.unusedVariables false
namespace Go.Proofs.YtcoldbcijgmidaaGreatDoor
noncomputable section
section
open Go.RowKit
section
structure Ctx where
 nw:Nat
 σ:Nat->Nat
 D:Nat->Prop
 h:Heap
mutual
/-- a value's cells -/
def RS(q:Ctx):W->List V->Prop
 |.undef,s=>s=[.undef]
 |.bool b,s=>s=[.bool b]
 |.int k n,s=>s=[.int k n]
 |.str x,s=>s=[.str x]
 |.nilp,s=>s=[.nilp]
 |.ptr b j,s=>b<q.nw/\s=[.ptr (q.σ b) j]
 |.nils,s=>s=[.nils]
 |.sl b A j len esz B,s=>b<q.nw/\s=[.sl (q.σ b) A j len esz B]
 |.fz l e full,s=>(l=[]/\s=[.nils])\/∃b A j B w,s=[.sl b A j l.length e B]/\(full=true->B=some l.length)/\q.D b/\q.h.val b=some w/\w.isAgg=true/\j+l.length*e<=w.size/\(∀x∈l,x.size=e)/\RSL q l (((zmq w).drop j).take (l.length*e))
 |.fel x,s=>∃b j w,s=[.ptr b j]/\q.D b/\q.h.val b=some w/\j+x.size<=w.size/\(x.isAgg=true->w.isAgg=true)/\(w.leaf=true\/w.isAgg=true)/\RS q x (((zmq w).drop j).take x.size)
 |.nilm,s=>s=[.nilm]
 |.fn f a c,s=>∃F E,s=[.fn f F E]/\RVL q a F/\RVL q c E
 |.yield l,s=>s=[.yield l]
 |.nilf,s=>s=[.nilf]
 |.iface t x,s=>∃v,s=[.iface t v]/\x.isAgg=v.isAgg/\RS q x (zmq v)
 |.nili,s=>s=[.nili]
 |.agg n l,s=>s.length=n/\RSL q l s
 |.arr n e l,s=>s.length=n/\(∀x∈l,x.size=e)/\RSL q l s
 |.tup l,s=>∃C,s=[.tup C]/\RVL q l C
/-- the cells of some, one behind the other -/
def RSL(a:Ctx):List W->List V->Prop
 |[],s=>s=[]
 |x::l,s=>RS a x (s.take x.size)/\RSL a l (s.drop x.size)
/-- one by one -/
def RVL(b:Ctx):List W->List V->Prop
 |[],vs=>vs=[]
 |x::l,vs=>∃v a,vs=v::a/\(x.isAgg=v.isAgg/\RS b x (zmq v))/\RVL b l a
end
def RV(a:Ctx)(w:W)(v:V):Prop:=w.isAgg=v.isAgg/\RS a w (zmq v)
section
variable {Γ Γ':Ctx}
theorem q7q{w:W}{s:List V}(h:RS Γ w s):s.length=w.size:=by
 cases w<;>simp only[RS] at h
 case ptr=>rw[h.2];rfl
 case sl=>rw[h.2];rfl
 case fz=>
  rcases h with ⟨_,rfl⟩|⟨b,base,off,lim,bv,rfl,_⟩<;>rfl
 case fel=>obtain⟨_,_,_,rfl,_⟩:=h;rfl
 case fn=>obtain⟨_,_,rfl,_⟩:=h;rfl
 case iface=>obtain⟨_,rfl,_⟩:=h;rfl
 case tup=>obtain⟨_,rfl,_⟩:=h;rfl
 case agg=>exact h.1
 case arr=>exact h.1
 all_goals (rw[h];rfl)
theorem RV.size{w:W}{v:V}(h:RV Γ w v):v.size=w.size:=by rw[<-q7q h.2,y8q]
theorem RV.one{w:W}{v:V}(h:RV Γ w v)(a:w.isAgg=false):RS Γ w [v]:=by
 have:=h.2;rwa[kOq (by rw[<-h.1];exact a)] at this
theorem RV.of_one{w:W}{v:V}(h:RS Γ w [v])(b:w.isAgg=false)(a:v.isAgg=false):RV Γ w v:=⟨by rw[b,a],by rwa[kOq a]⟩
theorem dNq{w:W}{v:V}(h:RS Γ w [v])(a:w.leaf=true):v.leaf=true:=by
 cases w<;>simp only[RS,YM,and_true] at h<;>simp[W.leaf] at a
 case ptr=>rw[h.2];rfl
 case sl=>rw[h.2];rfl
 case fz=>
  rcases h with ⟨_,rfl⟩|⟨b,base,off,lim,bv,rfl,_⟩<;>rfl
 case fel=>obtain⟨_,_,_,rfl,_⟩:=h;rfl
 case fn=>obtain⟨_,_,rfl,_⟩:=h;rfl
 case iface=>obtain⟨_,rfl,_⟩:=h;rfl
 all_goals (rw[h];rfl)
theorem W.leaf_agg{w:W}(h:w.leaf=true):w.isAgg=false:=by cases w<;>simp[W.leaf] at h<;>rfl
theorem V.leaf_agg{v:V}(h:v.leaf=true):v.isAgg=false:=by cases v<;>simp[V.leaf] at h<;>rfl
theorem RV.leaf{w:W}{v:V}(h:RV Γ w v)(a:w.leaf=true):v.leaf=true:=dNq (h.one (W.leaf_agg a)) a
structure Ctx.Le(Γ Γ':Ctx):Prop where
 nw:Γ.nw<=Γ'.nw
 σ:∀b,b<Γ.nw->Γ'.σ b=Γ.σ b
 D:∀b,Γ.D b->Γ'.D b
 val:∀b,Γ.D b->Γ'.h.val b=Γ.h.val b
theorem Ctx.Le.refl(Γ:Ctx):Γ.Le Γ:=⟨Zb _,λ_ _=>rfl,λ_ h=>h,λ_ _=>rfl⟩
mutual
theorem RS.mono(j:Γ.Le Γ'):∀{w:W} {s:List V},RS Γ w s->RS Γ' w s
 |.undef,_,h=>by simp only[RS] at h⊢;exact h
 |.bool _,_,h=>by simp only[RS] at h⊢;exact h
 |.int _ _,_,h=>by simp only[RS] at h⊢;exact h
 |.str _,_,h=>by simp only[RS] at h⊢;exact h
 |.nilp,_,h=>by simp only[RS] at h⊢;exact h
 |.ptr b q,_,h=>by simp only[RS] at h⊢;rw[j.σ b h.1];exact⟨Zv h.1 j.nw,h.2⟩
 |.nils,_,h=>by simp only[RS] at h⊢;exact h
 |.sl b _ _ _ _ _,_,h=>by simp only[RS] at h⊢;rw[j.σ b h.1];exact⟨Zv h.1 j.nw,h.2⟩
 |.fz l e full,_,h=>by
  simp only[RS] at h⊢;rcases h with h|⟨b,base,q,lim,E,k,B,A,C,H,G,h6,F⟩
  .exact .inl h
  .exact .inr ⟨b,base,q,lim,E,k,B,j.D b A,by rw[j.val b A];exact C,H,G,h6,RSL.mono j F⟩
 |.fel x,_,h=>by
  simp only[RS] at h⊢;obtain⟨b,q,E,k,A,C,G,H,J,F⟩:=h;exact⟨b,q,E,k,j.D b A,by rw[j.val b A];exact C,G,H,J,RS.mono j F⟩
 |.nilm,_,h=>by simp only[RS] at h⊢;exact h
 |.fn f a c,_,h=>by
  simp only[RS] at h⊢;obtain⟨L,K,k,B,A⟩:=h;exact⟨L,K,k,RVL.mono j B,RVL.mono j A⟩
 |.yield _,_,h=>by simp only[RS] at h⊢;exact h
 |.nilf,_,h=>by simp only[RS] at h⊢;exact h
 |.iface t x,_,h=>by
  simp only[RS] at h⊢;obtain⟨v,k,B,A⟩:=h;exact⟨v,k,B,RS.mono j A⟩
 |.nili,_,h=>by simp only[RS] at h⊢;exact h
 |.agg n l,_,h=>by simp only[RS] at h⊢;exact⟨h.1,RSL.mono j h.2⟩
 |.arr n e l,_,h=>by simp only[RS] at h⊢;exact⟨h.1,h.2.1,RSL.mono j h.2.2⟩
 |.tup l,_,h=>by
  simp only[RS] at h⊢;obtain⟨I,k,B⟩:=h;exact⟨I,k,RVL.mono j B⟩
theorem RSL.mono(a:Γ.Le Γ'):∀{l:List W} {s:List V},RSL Γ l s->RSL Γ' l s
 |[],_,h=>by simp only[RSL] at h⊢;exact h
 |x::l,_,h=>by simp only[RSL] at h⊢;exact⟨RS.mono a h.1,RSL.mono a h.2⟩
theorem RVL.mono(c:Γ.Le Γ'):∀{l:List W} {b:List V},RVL Γ l b->RVL Γ' l b
 |[],_,h=>by simp only[RVL] at h⊢;exact h
 |x::l,_,h=>by
  simp only[RVL] at h⊢;obtain⟨v,a,d,⟨f,g⟩,e⟩:=h;exact⟨v,a,d,⟨f,RS.mono c g⟩,RVL.mono c e⟩
end
theorem RV.mono(a:Γ.Le Γ'){w:W}{v:V}(h:RV Γ w v):RV Γ' w v:=⟨h.1,RS.mono a h.2⟩
theorem qtq{x:W}{l:List W}{a b:List V}(c:RS Γ x a)(d:RSL Γ l b):RSL Γ (x::l) (a++b):=by
 have e:=q7q c;simp only[RSL];rw[<-e,List.take_left,List.drop_left];exact⟨c,d⟩
theorem jmq{x:W}{l:List W}{s:List V}(h:RSL Γ (x::l) s):∃a b,s=a++b/\RS Γ x a/\RSL Γ l b:=by
 simp only[RSL] at h;exact⟨_,_,(ZK x.size s).symm,h.1,h.2⟩
theorem Kfq{l r:List W}:∀{a b:List V},RSL Γ l a->RSL Γ r b->RSL Γ (l++r) (a++b):=by
 induction l with
 |nil=>intro a b c d;simp only[RSL] at c;subst c;exact d
 |cons x l f=>
  intro a b c d;obtain⟨p,q,rfl,e,g⟩:=jmq c;rw[YW,Zx];exact qtq e (f g d)
theorem uRq{l r:List W}:∀{s:List V},RSL Γ (l++r) s->∃a b,s=a++b/\RSL Γ l a/\RSL Γ r b:=by
 induction l with
 |nil=>intro s h;exact⟨[],s,rfl,by simp[RSL],h⟩
 |cons x l d=>
  intro s h;obtain⟨p,q,rfl,c,f⟩:=jmq h;obtain⟨a,b,rfl,e,g⟩:=d f;exact⟨p++a,b,by rw[Zx],qtq c e,g⟩
theorem kXq{l:List W}:∀{s:List V},RSL Γ l s->s.length=l8q l:=by
 induction l with
 |nil=>intro s h;simp only[RSL] at h;subst h;rfl
 |cons x l b=>
  intro s h;obtain⟨p,q,rfl,a,c⟩:=jmq h;rw[Zh,q7q a,b c];rfl
theorem xaq{e:Nat}{l:List W}(h:∀x∈l,x.size=e):l8q l=l.length*e:=by
 induction l with
 |nil=>simp[l8q]
 |cons x l b=>
  rw[l8q,b λy a=>h y (ZS _ a),h x (ZV ..),Zo,ZQ];omega
theorem l2q{x:W}{s:List V}(h:RS Γ x s):RSL Γ [x] s:=by
 have:=qtq (l:=[]) (b:=[]) h (by simp[RSL]);simpa using this
theorem ftq{l:List W}{i:Nat}{x:W}{s:List V}(h:RSL Γ l s)(d:l[i]? =some x):∃a b c,s=a++(b++c)/\RS Γ x b/\RSL Γ (l.take i) a/\RSL Γ (l.drop (i+1)) c:=by
 have g:i<l.length:=(Zk.1 d).1
 have e:l=l.take i++(x::l.drop (i+1)):=by
  obtain⟨_,rfl⟩:=Zk.1 d;rw[List.getElem_cons_drop,ZK]
 rw[e] at h;obtain⟨a,t,rfl,j,k⟩:=uRq h;obtain⟨b,c,rfl,m,f⟩:=jmq k;exact⟨a,b,c,rfl,m,j,f⟩
theorem l4q{l:List W}{i e:Nat}{x:W}{s:List V}(h:RSL Γ l s)(f:∀x∈l,x.size=e)(d:l[i]? =some x):RS Γ x ((s.drop (i*e)).take e)/\i*e+e<=s.length:=by
 obtain⟨a,b,c,rfl,g,p,q⟩:=ftq h d;have n:i<l.length:=(Zk.1 d).1
 have j:a.length=i*e:=by
  rw[kXq p,xaq (e:=e) λy m=>f y (ZJ m),Zu,YL Xd]
 have o:b.length=e:=by rw[q7q g];exact f x (Zj d)
 rw[<-j,List.drop_left,<-o,List.take_left];exact⟨g,by simp only[Zh];omega⟩
theorem lEq{a b:Nat}(h:Nat.blt a b=true):a<b:=by simpa[YR] using h
theorem BMq{a b:Nat}(h:Nat.blt a b=false):¬a<b:=λc=>by
 have:Nat.blt a b=true:=by simpa[YR] using c
 rw[h] at this;cases this
theorem vHq:∀{l:List W} {f:Nat} {x:W} {o:Nat} {s:List V},JYq l f=some (x,o) ->RSL Γ l s->∃a b c,s=a++(b++c)/\RS Γ x b/\a.length+o=f/\o<x.size
 |[],f,x,o,s,h,_=>by simp[JYq] at h
 |v::l,f,x,o,s,h,hs=>by
  obtain⟨p,q,rfl,g,k⟩:=jmq hs;simp only[JYq] at h;split at h
  .rename_i d;cases h;exact⟨[],p,q,rfl,g,by simp,lEq d⟩
  .rename_i d;obtain⟨a,b,c,rfl,j,u,t⟩:=vHq h k;have d:=BMq d;exact⟨p++a,b,c,by simp,j,by rw[Zh,q7q g];omega,t⟩
theorem hnq{f:Type}{a b c:List f}{o n:Nat}(h:o+n<=b.length):((a++(b++c)).drop (a.length+o)).take n=(b.drop o).take n:=by
 rw[YQ,Z9 Xd,Z5 Xn]
theorem jKq:∀(f:Nat) {w:W} {g n:Nat} {q:Bool} {x:W} {s:List V},zGq f w g n q=some x->RS Γ w s->
  x.size=n/\g+n<=w.size/\RS Γ x ((s.drop g).take n)/\x.isAgg=q/\(q=false->x.leaf=true)
 |0,_,_,_,_,_,_,h,_=>by simp[zGq] at h
 | f +1,w,g,n,q,x,s,h,hs=>by
  have D:=q7q hs;simp only[zGq] at h;split at h
  .rename_i E;simp only[Zd,beq_iff_eq,ZH] at E;obtain⟨⟨rfl,rfl⟩,rfl⟩:=E;split at h
   .rename_i H;cases h;refine⟨rfl,by omega,by rw[ZX,Zp Xd];exact hs,rfl,λJ=>by simpa[J] using H⟩
   .cases h
  .split at h
   .rename_i m l B;simp only[RS] at hs;split at h
    .rename_i y o G;obtain⟨a,b,c,rfl,u,F,L⟩:=vHq G hs.2;obtain⟨z,I,v,A⟩:=jKq f h u;have K:=q7q u;refine⟨z,?_,?_,A⟩
     .rw[<-D];simp only[Zh];omega
     .rw[<-F,hnq Xd];exact v
    .cases h
   .rename_i m e l B;simp only[RS] at hs;split at h
    .rename_i y C;obtain⟨u,F⟩:=l4q hs.2.2 hs.2.1 C;obtain⟨z,I,v,A⟩:=jKq f h u;have C:=hs.2.1 y (Zj C);have j:=Nat.div_add_mod g e;rw[YE] at j;refine⟨z,by rw[<-D];omega,?_,A⟩
     have:((s.drop (g/e*e)).take e).drop (g%e)=(s.drop g).take (e-g%e):=by
      rw[List.drop_take,YB,j]
     rw[this,YP,YL Xd] at v;exact v
    .cases h
   .cases h
theorem u4q{f:Nat}{v:V}{b n:Nat}{g:Bool}{x:V}(h:j6q f v b n g=some x):x.size=n/\b+n<=v.size/\zmq x=((zmq v).drop b).take n/\(if g then x.isAgg=true else x.leaf=true):=by
 unfold j6q at h;split at h
 .cases h;obtain⟨i,m,l,j⟩:=uAq _ _ _ _ _ _ Yi;exact⟨i,m,l.symm,j⟩
 .exact Yoq h
theorem JSq{v:V}{off n:Nat}(j:v.isAgg=true)(h:off+n<=v.size):(∃x,j6q 50 v off n true=some x)/\∀y,((zmq v).drop off).take n=[y] ->y.leaf=true->∃x,j6q 50 v off n false=some x:=by
 have b:Nat.ble (off+n) v.size=true:=Zn h;constructor
 .unfold j6q;split
  .exact⟨_,rfl⟩
  .unfold vEq;simp[j,b]
 .intro y g m;unfold j6q;split
  .exact⟨_,rfl⟩
  .unfold vEq
   have s:n=1:=by
    have:=Zc List.length g;rw[Zu,Zy,y8q] at this;simp at this;omega
   subst s
   have q:(zmq v)[off]? =some y:=by
    have:=Zc (·[0]?) g;simpa using this
   simp[j,b,q,m]
theorem QHq(f:Nat){v:V}(a:v.leaf=true):vgq (f+1) v 0 v.size false=some v:=by
 cases v<;>simp[V.leaf] at a<;>simp[xZq,V.size,V.isAgg,V.leaf]
theorem c2q(f:Nat){v x:V}(c:v.leaf=true)(b:x.leaf=true):veq (f+1) v 0 x=some x:=by
 have e:x.size=1:=by cases x<;>simp[V.leaf] at b<;>rfl
 have g:=V.leaf_agg b;have d:v.size=1:=by cases v<;>simp[V.leaf] at c<;>rfl
 have a:=V.leaf_agg c;rw[xRq];simp[e,g,d,a,c,b]
theorem xsq{f:Nat}{w:W}{b n:Nat}{g:Bool}{x:W}(d:w.isAgg=false)(h:zGq (f+1) w b n g=some x):b=0/\n=1/\g=false/\w.leaf=true/\x=w:=by
 have o:w.size=1:=by cases w<;>simp[W.isAgg] at d<;>rfl
 simp only[zGq] at h;split at h
 .rename_i j;simp only[Zd,beq_iff_eq,ZH] at j;obtain⟨⟨rfl,rfl⟩,rfl⟩:=j;split at h
  .rename_i k;cases h;exact⟨rfl,o,d,by simpa[d] using k,rfl⟩
  .cases h
 .split at h<;>simp[W.isAgg] at d
  cases h
theorem ulq{w:W}{v:V}{b n:Nat}{z:Bool}{x:W}(f:RV Γ w v)(h:zGq 50 w b n z=some x):∃y,j6q 50 v b n z=some y/\RV Γ x y/\x.size=n:=by
 obtain⟨F,O,j,E,I⟩:=jKq (Γ:=Γ) 50 h f.2;have D:=f.size;cases q:w.isAgg with
 |true=>
  have H:v.isAgg=true:=by rw[<-f.1];exact q
  obtain⟨J,N⟩:=JSq (off:=b) (n:=n) H Xd;cases z with
  |true=>
   obtain⟨y,g⟩:=J;obtain⟨K,M,u,C⟩:=u4q g;exact⟨y,g,⟨by rw[E];exact C.symm,by rw[u];exact j⟩,F⟩
  |false=>
   have A:x.size=1:=by have:=I rfl;cases x<;>simp[W.leaf] at this<;>rfl
   have c:=q7q j;rw[A] at c;obtain⟨G,l⟩:∃y,((zmq v).drop b).take n=[y]:=List.length_eq_one_iff.1 c
   have B:G.leaf=true:=by rw[l] at j;exact dNq j (I rfl)
   obtain⟨y,g⟩:=N G l B;obtain⟨K,M,u,C⟩:=u4q g;exact⟨y,g,⟨by rw[E];exact(V.leaf_agg C).symm,by rw[u];exact j⟩,F⟩
 |false=>
  have H:v.isAgg=false:=by rw[<-f.1];exact q
  have i:w.size=1:=by cases w<;>simp[W.isAgg] at q<;>rfl
  obtain⟨rfl,rfl,rfl,L,rfl⟩:=xsq q h;refine⟨v,?_,f,i⟩;unfold j6q;have e:=QHq 49 (f.leaf L);rw[D,i] at e;rw[e]
theorem Qrq{g:W->Nat->Option W}:∀{l:List W} {d:Nat} {u:List W} {s:List V},Yiq g l d=some u->RSL Γ l s->∃a b c y t o,s=a++(b++c)/\RS Γ y b/\g y o=some t/\a.length+o=d/\o<y.size/\∀k,RS Γ t k->RSL Γ u (a++(k++c))
 |[],d,u,s,h,_=>by simp[Yiq] at h
 |v::l,d,u,s,h,hs=>by
  obtain⟨p,q,rfl,w,z⟩:=jmq hs;simp only[Yiq] at h;split at h
  .rename_i f;split at h
   .rename_i x F;cases h;exact⟨[],p,q,v,x,d,rfl,w,F,by simp,lEq f,λk j=>show RSL Γ (x::l) (k++q) from qtq j z⟩
   .cases h
  .rename_i f;have f:=BMq f;split at h
   .rename_i G E;cases h;obtain⟨a,b,c,y,t,o,rfl,A,D,H,C,B⟩:=Qrq E z;refine⟨p++a,b,c,y,t,o,by simp,A,D,by rw[Zh,q7q w];omega,C,λk j=>?_⟩;rw[Zx];exact qtq w (B k j)
   .cases h
theorem t2q{l:List W}{i:Nat}{x x':W}{s:List V}(h:RSL Γ l s)(g:l[i]? =some x):∃a b c,s=a++(b++c)/\RS Γ x b/\RSL Γ (l.take i) a/\∀f,RS Γ x' f->RSL Γ (l.set i x') (a++(f++c)):=by
 obtain⟨a,b,c,rfl,k,j,m⟩:=ftq h g;refine⟨a,b,c,rfl,k,j,λf d=>?_⟩;have e:i<l.length:=(Zk.1 g).1;rw[List.set_eq_take_append_cons_drop,Zl e];exact Kfq j (qtq d m)
theorem hdq{f:Type}{a b c:List f}{o n:Nat}{x:List f}(h:o+n<=b.length):a++((b.take o++x++b.drop (o+n))++c)=(a++(b++c)).take (a.length+o)++x++(a++(b++c)).drop (a.length+o+n):=by
 rw[List.take_length_add_append,ZM,YQ,Z5 Xd,Z9 Xd];simp only[Zx]
theorem xQq:∀(f:Nat) {w:W} {d:Nat} {x g:W} {s q:List V},z7q f w d x=some g->RS Γ w s->RS Γ x q->
  g.size=w.size/\d+x.size<=w.size/\RS Γ g (s.take d++q++s.drop (d+x.size))/\g.isAgg=w.isAgg/\(x.leaf=true\/x.isAgg=true)/\(w.isAgg=false->w.leaf=true/\x.leaf=true/\g=x)
 |0,_,_,_,_,_,_,h,_,_=>by simp[z7q] at h
 | f + 1,w,d,x,g,s,q,h,hs,hx=>by
  have ls:=q7q hs;simp only[z7q] at h;split at h
  .rename_i M;simp only[Zd,beq_iff_eq,ZH] at M;obtain⟨⟨rfl,u⟩,v⟩:=M;split at h
   .rename_i A;cases h;simp only[Y4,Zd] at A;refine⟨u,by omega,?_,v,?_,λj=>?_⟩
    .rw[List.take_zero,YX,ZY Xd,ZT];exact hx
    .rcases A with h|h
     .exact .inr h
     .exact .inl h.2
    .rcases A with h|h
     .rw[v,j] at h;cases h
     .exact⟨h.1,h.2,rfl⟩
   .cases h
  .split at h
   .rename_i m l F;simp only[RS] at hs;split at h
    .rename_i l' T;cases h;obtain⟨a,b,c,y,O,o,rfl,K,Z,g3,g4,U⟩:=Qrq T hs.2;obtain⟨L,Y,E,Q,J,_⟩:=xQq f Z K hx;have R:=q7q K;have C:=hs.1;simp only[Zh] at C;refine⟨rfl,by show d+x.size<=m;omega,?_,rfl,J,λj=>by cases j⟩;have D:=q7q hx;have:=U _ E;rw[<-g3,<-hdq Xd];simp only[RS];exact⟨by simp only[Zh,Zu,Zy];omega,this⟩
    .cases h
   .rename_i m e l F;simp only[RS] at hs;split at h
    .rename_i y B;split at h
     .rename_i O H;cases h;obtain⟨a,b,c,rfl,u,v,S⟩:=t2q (Γ:=Γ) (x':=O) hs.2.2 B;have P:d/e<l.length:=(Zk.1 B).1
      have la:a.length=d/e*e:=by
       rw[kXq v,xaq (e:=e) λz k=>hs.2.1 z (ZJ k),Zu,YL Xd]
      obtain⟨L,Y,E,Q,J,_⟩:=xQq f H u hx;have R:=q7q u;have G:=hs.2.1 y (Zj B);have C:=hs.1;simp only[Zh] at C;have I:=Nat.div_add_mod d e;rw[YE] at I;have D:=q7q hx;refine⟨rfl,by show d+x.size<=m;omega,?_,rfl,J,λj=>by cases j⟩;have:=S _ E;have X:d=a.length+d%e:=by omega
      have N:=hdq (a:=a) (b:=b) (c:=c) (o:=d%e) (n:=x.size) (x:=q) Xd;rw[<-X] at N;rw[<-N];simp only[RS];refine⟨by simp only[Zh,Zu,Zy];omega,λz k=>?_,this⟩;rcases List.mem_or_eq_of_mem_set k with k|rfl
      .exact hs.2.1 z k
      .rw[L,G]
     .cases h
    .cases h
   .cases h
theorem JIq{f:Nat}{v:V}{g:Nat}{x j:V}(h:ueq f v g x=some j):
  j.size=v.size/\g+x.size<=v.size/\zmq j=(zmq v).take g++zmq x++(zmq v).drop (g+x.size)/\j.isAgg=v.isAgg:=by
 unfold ueq at h;split at h
 .cases h;obtain⟨l,q,u,m,_⟩:=urq _ _ _ _ _ Yi;exact⟨l,q,by rw[u,l9q,y8q],m⟩
 .obtain⟨l,q,u,m,_⟩:=Ynq h;exact⟨l,q,u,m⟩
theorem cRq{w:W}{v:V}{b:Nat}{x q:W}{y:V}(s:RV Γ w v)(k:RV Γ x y)(h:z7q 50 w b x=some q):∃j,ueq 50 v b y=some j/\RV Γ q j/\q.size=w.size:=by
 obtain⟨E,R,K,F,p,J⟩:=xQq (Γ:=Γ) 50 h s.2 k.2;have L:=s.size;have C:=k.size
 have g:y.leaf=true\/y.isAgg=true:=by
  rcases p with p|p
  .exact .inl (k.leaf p)
  .exact .inr (by rw[<-k.1];exact p)
 cases m:w.isAgg with
 |true=>
  have D:v.isAgg=true:=by rw[<-s.1];exact m
  have:∃j,ueq 50 v b y=some j:=by
   unfold ueq;split
   .exact⟨_,rfl⟩
   .unfold Z3q;have N:Nat.ble (b+y.size) v.size=true:=Zn Xd;have H:(y.leaf||y.isAgg)=true:=by simpa using g
    rw[show(v.isAgg&&(y.leaf||y.isAgg)&&Nat.ble (b+y.size) v.size)=true by rw[D,H,N];rfl];exact⟨_,rfl⟩
  obtain⟨j,z⟩:=this;obtain⟨O,Q,M,I⟩:=JIq z;exact⟨j,z,⟨by rw[F,I,m,D],by rw[M,C];exact K⟩,E⟩
 |false=>
  obtain⟨G,A,rfl⟩:=J m;have D:v.isAgg=false:=by rw[<-s.1];exact m
  have B:=s.leaf G;have g:=k.leaf A;have P:w.size=1:=by cases w<;>simp[W.isAgg] at m<;>rfl
  have S:q.size=1:=by cases q<;>simp[W.leaf] at A<;>rfl
  have:b=0:=by omega
  subst this;refine⟨y,?_,k,E⟩;unfold ueq;rw[c2q 49 B g]
theorem jhq:∀(f:Nat) {w:W} {g n e:Nat} {G:List W} {s:List V},ymq f w g n e=some G->RS Γ w s->
  G.length=n/\g+n*e<=w.size/\(∀x∈G,x.size=e)/\RSL Γ G ((s.drop g).take (n*e))/\w.isAgg=true
 |0,_,_,_,_,_,_,h,_=>by simp[ymq] at h
 | f + 1,w,g,n,e,G,s,h,hs=>by
  have J:=q7q hs;simp only[ymq] at h;split at h
  .rename_i m j l;have C:=hs;simp only[RS] at hs;split at h
   .rename_i q;simp only[Zd,ZH] at q;obtain⟨⟨⟨rfl,Z⟩,A⟩,u⟩:=q;have A:=Yb A;have u:=lEq u;cases h
    have B:g/j*j=g:=by
     have:=Nat.div_add_mod g j;rw[YE] at this;omega
    have M:l8q l=l.length*j:=xaq hs.2.1;have U:m=l.length*j:=by rw[<-M,<-kXq hs.2.2];exact hs.1.symm
    have P:g/j+n<=l.length:=by
     have:(g/j+n)*j<=l.length*j:=by rw[ZQ,B,<-U];exact A
     exact Nat.le_of_mul_le_mul_right this u
    refine⟨by simp;omega,A,λx v=>hs.2.1 x (ZF (ZJ v)),?_,rfl⟩;have S:l=l.take (g/j)++((l.drop (g/j)).take n++(l.drop (g/j)).drop n):=by rw[ZK,ZK]
    have I:=hs.2.2;rw[S] at I;obtain⟨a,t,rfl,E,N⟩:=uRq I;obtain⟨b,c,rfl,D,F⟩:=uRq N
    have T:a.length=g:=by
     rw[kXq E,xaq (e:=j) λz L=>hs.2.1 z (ZJ L),Zu,YL Xd,B]
    have O:b.length=n*j:=by
     rw[kXq D,xaq (e:=j) λz L=>hs.2.1 z (ZF (ZJ L)),Zu,Zy,YL Xd]
    rw[List.drop_left' T,List.take_left' O];exact D
   .split at h
    .rename_i q;simp only[Zd,ZH] at q;obtain⟨⟨rfl,rfl⟩,rfl⟩:=q;cases h;refine⟨rfl,by show 0+1*m<=m;omega,λx v=>by simp at v;rw[v];rfl,?_,rfl⟩;rw[ZX,Zp (by rw[J];show m<=1*m;omega)];exact l2q C
    split at h
    .rename_i x v;split at h
     .rename_i q;have q:=Yb q;obtain⟨K,I⟩:=l4q hs.2.2 hs.2.1 v;obtain⟨E,N,D,F,R⟩:=jhq f h K;have X:=hs.2.1 x (Zj v);have H:=Nat.div_add_mod g j;rw[YE] at H;refine⟨E,by rw[<-J];omega,D,?_,rfl⟩
      have:((s.drop (g/j*j)).take j).drop (g%j)=(s.drop g).take (j-g%j):=by
       rw[List.drop_take,YB,H]
      rw[this,YP,YL Xd] at F;exact F
     .cases h
    .cases h
  .rename_i m l;have C:=hs;simp only[RS] at hs;split at h
   .rename_i q;simp only[Zd,ZH] at q;obtain⟨⟨rfl,rfl⟩,rfl⟩:=q;cases h;refine⟨rfl,by show 0+1*m<=m;omega,λx v=>by simp at v;rw[v];rfl,?_,rfl⟩;rw[ZX,Zp (by rw[J];show m<=1*m;omega)];exact l2q C
   split at h
   .rename_i y o Q;split at h
    .rename_i q;have q:=Yb q;obtain⟨a,b,c,rfl,K,I,Y⟩:=vHq Q hs.2;obtain⟨E,N,D,F,R⟩:=jhq f h K;have O:=q7q K;refine⟨E,?_,D,?_,rfl⟩
     .rw[<-J];simp only[Zh];omega
     .rw[<-I,hnq Xd];exact F
    .cases h
   .cases h
  .cases h
end
theorem Zwq(e:Nat):∀l:List V,(yaq e l).length=l.length*e
 |[]=>by simp[yaq]
 |v::l=>by simp[yaq,Zwq e l,ZQ];omega
theorem Zxq(e:Nat):∀a b:List V,yaq e (a++b)=yaq e a++yaq e b
 |[],b=>by simp[yaq]
 |v::a,b=>by simp[yaq,Zxq e a b]
theorem Q5q(e:Nat):∀(l:List V) (i:Nat),yaq e (l.drop i)=(yaq e l).drop (i*e)
 |[],i=>by simp[yaq]
 |v::l,0=>by simp
 |v::l,i+1=>by
  have a:(awq e (zmq v)).drop ((i+1)*e)=[]:=ZY (by rw[vFq,ZQ];omega);simp only[List.drop_succ_cons,yaq,Q5q e l i];rw[List.drop_append,a,YX,vFq,ZQ];congr 1
  omega
theorem Q4q(e:Nat):∀(l:List V) (i:Nat),yaq e (l.take i)=(yaq e l).take (i*e)
 |[],i=>by simp[yaq]
 |v::l,0=>by simp[yaq]
 |v::l,i+1=>by
  simp only[List.take_succ_cons,yaq,Q4q e l i];rw[List.take_append,Zp (l:=awq e (zmq v)) (by simp[ZQ])];congr 2
  simp[ZQ]
theorem ojq{m a b:Nat}{L:List V}(f:a+b<=m)(c:a+b<=L.length):((awq m L).drop a).take b=(L.drop a).take b:=by
 simp only[awq];rw[List.drop_take,YP,show min b (m-a)=b by omega,Z9 Xd,Z5 Xn]
theorem xFq:∀(f:Nat) (v:V) (j n e:Nat) (l:List V),xGq f v j n e=some l->
  l.length=n/\j+n*e<=v.size/\((zmq v).drop j).take (n*e)=yaq e l/\∀D,InD D v->InDL D l
 |0,_,_,_,_,_,h=>by simp[xGq] at h
 | f +1,v,j,n,e,r,h=>by
  simp only[xGq] at h;split at h
  .rename_i m z l;split at h
   .rename_i q;simp only[Zd,ZH] at q;obtain⟨⟨rfl,T⟩,y⟩:=q;have y:=Yb y;split at h
    .rename_i J;rw[ZH] at J;cases h
     have E:j/z*z=j:=by
      have:=Nat.div_add_mod j z;rw[YE] at this;omega
     refine⟨J,y,?_,λD A=>InDL_iff.2 λx G=>InDL_iff.1 (show InDL D l from A) x (ZF (ZJ G))⟩;by_cases I:n=0
     .subst I;simp[yaq]
     have B:j+n*z<=(yaq z l).length:=by
      rw[Zwq];rw[Zu,Zy] at J;have:=Z7 z (show j/z+n<=l.length by omega);rw[ZQ] at this;omega
     simp only[zmq];rw[ojq y B,Q4q,Q5q,E]
    .cases h
   .split at h
    .rename_i q;simp only[Zd,ZH] at q;obtain⟨⟨rfl,rfl⟩,rfl⟩:=q;cases h;refine⟨rfl,by show 0+1*m<=m;omega,?_,λD A=>⟨A,trivial⟩⟩;simp only[yaq,ZT,Nat.one_mul,ZX];rw[yqq Qr,Zp Qr]
    .split at h
     .rename_i x G;split at h
      .rename_i q;simp only[Zd,ZH] at q;obtain⟨⟨Q,N⟩,K⟩:=q;have N:=Yb N;have K:=Yb K;obtain⟨H,R,O,L⟩:=xFq f x _ n e r h;obtain⟨a,c,F,M⟩:=Q6q (e:=z) _ _ _ G;have C:=Nat.div_add_mod j z;rw[YE] at C;refine⟨H,by show j+n*e<=m;omega,?_,λD A=>L D (InDL.at_ (show InDL D l from A) G)⟩;rw[yqq (by simp[Q])] at F;have w:=q3q (n:=m) (a:=a) (b:=zmq x) (c:=c) Xn;rw[<-F] at w;simp only[zmq];rw[<-O,<-w,qrq Xn,M,C]
      .cases h
     .cases h
  .rename_i m l;split at h
   .rename_i q;simp only[Zd,ZH] at q;obtain⟨⟨rfl,rfl⟩,rfl⟩:=q;cases h;refine⟨rfl,by show 0+1*m<=m;omega,?_,λD A=>⟨A,trivial⟩⟩;simp only[yaq,ZT,Nat.one_mul,ZX];rw[yqq Qr,Zp Qr]
   split at h
   .rename_i x o P;split at h
    .rename_i q;simp only[Zd] at q;have N:=Yb q.1;have K:=Yb q.2;obtain⟨a,c,F,M,S⟩:=vGq _ _ _ _ P;obtain⟨H,R,O,L⟩:=xFq f x o n e r h;refine⟨H,by show j+n*e<=m;omega,?_,λD A=>L D (YZq P (show InDL D l from A))⟩;have U:a.length=j-o:=by omega
     have w:=q3q (n:=m) (a:=a) (b:=zmq x) (c:=c) Xn;rw[<-F] at w;simp only[zmq];rw[<-O,<-w,qrq Xn,M]
    .cases h
   .cases h
  .cases h
end
section
section
variable {Γ:Ctx}
theorem Krq{v:V}{off n e:Nat}(z:v.isAgg=true)(h:off+n*e<=v.size):∃c,j2q 50 v off n e=some c/\c.length=n/\yaq e c=((zmq v).drop off).take (n*e)/\∀u∈c,u.size=e/\(u.leaf=true\/u.isAgg=true):=by
 have w:∃c,xgq v off n e=some c:=by
  unfold xgq;rw[z,Zn h];exact⟨_,rfl⟩
 have g:∀{c},xgq v off n e=some c->c.length=n/\yaq e c=((zmq v).drop off).take (n*e)/\∀u∈c,u.size=e/\(u.leaf=true\/u.isAgg=true):=λ{c} f=>by
  obtain⟨q,D,s,A,_⟩:=Ymq f;refine⟨q,s.symm,λu y=>⟨A u y,.inr ?_⟩⟩;unfold xgq at f;rw[z,Zn h] at f;cases f;exact((Q8q n _ (λx C=>krq v x (ZF C)) Xn).2 u y).2.1
 unfold j2q;split
 .rename_i l B;split
  .rename_i j;refine⟨l,rfl,?_⟩;obtain⟨q,D,s,_⟩:=xFq _ _ _ _ _ _ B;refine⟨q,s.symm,λu f=>?_⟩;unfold okE at j;have:=(List.all_eq_true.1 j) u f;simpa only[Zd,Y4,ZH] using this
  .obtain⟨c,f⟩:=w;exact⟨c,f,g f⟩
 .obtain⟨c,f⟩:=w;exact⟨c,f,g f⟩
structure Els(Γ:Ctx)(e:Nat)(ws:List W)(us:List V):Prop where
 len:us.length=ws.length
 sz:∀x∈ws,x.size=e
 szv:∀u∈us,u.size=e/\(u.leaf=true\/u.isAgg=true)
 rs:RSL Γ ws (yaq e us)
theorem Els.nil(e:Nat):Els Γ e [] []:=⟨rfl,by simp,by simp,by simp[RSL,yaq]⟩
theorem Els.append{e:Nat}{a b:List W}{a' f:List V}(h:Els Γ e a a')(k:Els Γ e b f):Els Γ e (a++b) (a'++f):=by
 refine⟨by simp[h.len,k.len],λx d=>?_,λx d=>?_,?_⟩
 .rcases ZO.1 d with d|d
  .exact h.sz x d
  .exact k.sz x d
 .rcases ZO.1 d with d|d
  .exact h.szv x d
  .exact k.szv x d
 .rw[Zxq];exact Kfq h.rs k.rs
theorem Els.cons{e:Nat}{x:W}{l:List W}{i:List V}(h:Els Γ e (x::l) i):∃u c,i=u::c/\RS Γ x (zmq u)/\u.size=e/\(u.leaf=true\/u.isAgg=true)/\Els Γ e l c:=by
 cases i with
 |nil=>have:=h.len;simp at this
 |cons u c=>
  have d:=h.szv u (ZV ..);have o:=h.rs;obtain⟨a,b,j,g,k⟩:=jmq o;rw[yaq,yqq (by rw[y8q,d.1])] at j;have m:a.length=e:=by rw[q7q g];exact h.sz x (ZV ..)
  obtain⟨n,p⟩:=List.append_inj j (by rw[y8q,d.1,m]);rw[<-n] at g;rw[<-p] at k;exact⟨u,c,rfl,g,d.1,d.2,by have:=h.len;simpa using this,λy f=>h.sz y (ZS _ f),λy f=>h.szv y (ZS _ f),k⟩
theorem Els.take{e:Nat}:∀(n:Nat) {c:List W} {b:List V},Els Γ e c b->Els Γ e (c.take n) (b.take n)
 |0,_,_,_=>.nil e
 |n+1,[],b,h=>by
  have:=h.len;cases b with
  |nil=>exact .nil e
  |cons=>simp at this
 |n+1,x::l,b,h=>by
  obtain⟨u,g,rfl,d,f,k,j⟩:=h.cons;rw[List.take_succ_cons,List.take_succ_cons];refine Els.append (a:=[x]) (a':=[u]) ⟨rfl,by simpa using h.sz x (ZV ..),by simp[f,k],?_⟩ (j.take n);have m:=q7q d;rw[yaq,yqq (by rw[y8q,f])];simp only[yaq,ZT,RSL];rw[Zp Xd,ZY Xd];exact⟨d,rfl⟩
theorem Els.arr{e:Nat}{b:List W}{c:List V}(h:Els Γ e b c):RV Γ (.arr (b.length*e) e b) (.arr (c.length*e) e c):=by
 refine⟨rfl,?_⟩;have d:=kXq h.rs;rw[xaq h.sz] at d;simp only[RS,zmq];rw[h.len,yqq d];exact⟨d,h.sz,h.rs⟩
theorem vqq{w:W}{v:V}{a n e:Nat}{d:List W}(c:RV Γ w v)(h:ymq 50 w a n e=some d):
  ∃b,j2q 50 v a n e=some b/\d.length=n/\Els Γ e d b:=by
 obtain⟨f,k,l,j,m⟩:=jhq (Γ:=Γ) 50 h c.2;obtain⟨b,g,o,p,i⟩:=Krq (v:=v) (off:=a) (n:=n) (e:=e) (by rw[<-c.1];exact m) (by rw[c.size];exact k);exact⟨b,g,f,by rw[o,f],l,i,by rw[p];exact j⟩
theorem k0q{l:List W}{e:Nat}{q:Bool}{v:V}(E:RV Γ (.fz l e q) v):(l=[]/\v= .nils)\/∃b j g m u w,v= .sl b j g l.length e m/\(q=true->m=some l.length)/\Γ.D b/\Γ.h.val b=some u/\
  u.isAgg=true/\g+l.length*e<=u.size/\(∀x∈l,x.size=e)/\RSL Γ l (((zmq u).drop g).take (l.length*e))/\j2q 50 u g l.length e=some w/\Els Γ e l w:=by
 have h:=E.one rfl;simp only[RS,YM,and_true] at h;rcases h with h|⟨b,j,g,m,u,h1,h2,h3,h4,h5,h6,h7,h8⟩
 .exact .inl h
 .obtain⟨w,y,C,B,A⟩:=Krq (e:=e) h5 h6;exact .inr ⟨b,j,g,m,u,w,h1,h2,h3,h4,h5,h6,h7,h8,y,C,h7,A,by rw[B];exact h8⟩
theorem l1q{l:List W}{e a n:Nat}{s:List V}(h:RSL Γ l s)(i:∀x∈l,x.size=e)(y:a+n<=l.length):RSL Γ ((l.drop a).take n) ((s.drop (a*e)).take (n*e)):=by
 have m:l=l.take a++((l.drop a).take n++(l.drop a).drop n):=by rw[ZK,ZK]
 rw[m] at h;obtain⟨p,t,rfl,j,v⟩:=uRq h;obtain⟨b,c,rfl,g,w⟩:=uRq v
 have q:p.length=a*e:=by
  rw[kXq j,xaq (e:=e) λz f=>i z (ZJ f),Zu,YL Xd]
 have u:b.length=n*e:=by
  rw[kXq g,xaq (e:=e) λz f=>i z (ZF (ZJ f)),Zu,Zy,YL Xd]
 rw[List.drop_left' q,List.take_left' u];exact g
theorem o6q{l:List W}{e:Nat}{full:Bool}{b base off:Nat}{lim:Option Nat}{bv:V}(c:full=true->lim=some l.length)(m:Γ.D b)(q:Γ.h.val b=some bv)(g:bv.isAgg=true)(u:off+l.length*e<=bv.size)(j:∀x∈l,x.size=e)
  (v:RSL Γ l (((zmq bv).drop off).take (l.length*e))):RV Γ (.fz l e full) (.sl b base off l.length e lim):=
 RV.of_one (by simp only[RS,YM,and_true];exact .inr ⟨b,base,off,lim,bv,rfl,c,m,q,g,u,j,v⟩) Y Y
theorem xbq{x:W}{v:V}(i:RV Γ (.fel x) v):∃b c g,v= .ptr b c/\Γ.D b/\Γ.h.val b=some g/\c+x.size<=g.size/\(x.isAgg=true->g.isAgg=true)/\(g.leaf=true\/g.isAgg=true)/\RS Γ x (((zmq g).drop c).take x.size):=by
 have h:=i.one rfl;simpa only[RS,YM,and_true] using h
theorem roq{x:W}{b c:Nat}{g:V}(m:Γ.D b)(n:Γ.h.val b=some g)(s:c+x.size<=g.size)(i:x.isAgg=true->g.isAgg=true)(j:g.leaf=true\/g.isAgg=true)(q:RS Γ x (((zmq g).drop c).take x.size)):RV Γ (.fel x) (.ptr b c):=
 RV.of_one (by simp only[RS,YM,and_true];exact⟨b,c,g,rfl,m,n,s,i,j,q⟩) Y Y
theorem eWq{x y:W}{b g o n:Nat}{z:Bool}{i:V}(h:zGq 50 x o n z=some y)(B:Γ.D b)(C:Γ.h.val b=some i)(I:g+x.size<=i.size)(E:x.isAgg=true->i.isAgg=true)(v:i.leaf=true\/i.isAgg=true)(A:RS Γ x (((zmq i).drop g).take x.size)):
  RV Γ (.fel y) (.ptr b (g+o))/\y.size=n:=by
 obtain⟨m,H,u,G,F⟩:=jKq (Γ:=Γ) 50 h A;refine⟨roq B C Xd (λq=>?_) v ?_,m⟩
 .cases j:x.isAgg with
  |true=>exact E j
  |false=>
   obtain⟨_,_,_,_,rfl⟩:=xsq (f:=49) j h;rw[j] at q;cases q
 .rw[List.drop_take,YB,YP,YL Xd] at u;rw[m];exact u
theorem olq{x y:W}{b n:Nat}{B:Bool}{c:V}(h:zGq 50 x 0 n B=some y)(X:b+x.size<=c.size)(U:x.isAgg=true->c.isAgg=true)(P:c.leaf=true\/c.isAgg=true)(C:RS Γ x (((zmq c).drop b).take x.size)):
  ∃u,j6q 50 c b n B=some u/\RV Γ y u:=by
 obtain⟨M,Y,q,L,K⟩:=jKq (Γ:=Γ) 50 h C;rw[ZX,YP,YL Xd] at q;cases j:c.isAgg with
 |true=>
  obtain⟨O,S⟩:=JSq (off:=b) (n:=n) j Xd;cases B with
  |true=>
   obtain⟨u,v⟩:=O;obtain⟨R,N,G,H⟩:=u4q v;exact⟨u,v,by rw[L];exact H.symm,by rw[G];exact q⟩
  |false=>
   have D:y.size=1:=by have:=K rfl;cases y<;>simp[W.leaf] at this<;>rfl
   have g:=q7q q;rw[D] at g;obtain⟨J,A⟩:∃y,((zmq c).drop b).take n=[y]:=List.length_eq_one_iff.1 g
   have F:J.leaf=true:=by rw[A] at q;exact dNq q (K rfl)
   obtain⟨u,v⟩:=S J A F;obtain⟨R,N,G,H⟩:=u4q v;exact⟨u,v,by rw[L];exact(V.leaf_agg H).symm,by rw[G];exact q⟩
 |false=>
  have w:x.isAgg=false:=by
   cases Q:x.isAgg with
   |true=>rw[U Q] at j;cases j
   |false=>rfl
  have z:c.leaf=true:=by rcases P with h|h;exact h;rw[h] at j;cases j
  obtain⟨_,rfl,rfl,T,rfl⟩:=xsq (f:=49) w h;have E:c.size=1:=by cases c<;>simp[V.leaf] at z<;>rfl
  have I:y.size=1:=M;have:b=0:=by omega
  subst this;refine⟨c,?_,?_⟩
  .unfold j6q;have e:=QHq 49 z;rw[E] at e;rw[e]
  .refine RV.of_one ?_ w j;rw[I,ZX,kOq j] at C;exact C
mutual
theorem x3q:∀{v:V} {w:W},aAq v=some w->RV Γ w v
 |.undef,_,h=>by simp[aAq] at h
 |.bool b,_,h=>by simp only[aAq] at h;cases h;exact⟨rfl,by simp[RS,zmq]⟩
 |.int k n,_,h=>by simp only[aAq] at h;cases h;exact⟨rfl,by simp[RS,zmq]⟩
 |.str s,_,h=>by simp only[aAq] at h;cases h;exact⟨rfl,by simp[RS,zmq]⟩
 |.nilp,_,h=>by simp only[aAq] at h;cases h;exact⟨rfl,by simp[RS,zmq]⟩
 |.ptr _ _,_,h=>by simp[aAq] at h
 |.nils,_,h=>by simp only[aAq] at h;cases h;exact⟨rfl,by simp[RS,zmq]⟩
 |.sl _ _ _ _ _ _,_,h=>by simp[aAq] at h
 |.nilm,_,h=>by simp only[aAq] at h;cases h;exact⟨rfl,by simp[RS,zmq]⟩
 |.map _,_,h=>by simp[aAq] at h
 |.fn _ _ _,_,h=>by simp[aAq] at h
 |.yield _,_,h=>by simp[aAq] at h
 |.nilf,_,h=>by simp only[aAq] at h;cases h;exact⟨rfl,by simp[RS,zmq]⟩
 |.iface _ _,_,h=>by simp[aAq] at h
 |.nili,_,h=>by simp only[aAq] at h;cases h;exact⟨rfl,by simp[RS,zmq]⟩
 |.tup _,_,h=>by simp[aAq] at h
 |.agg n l,_,h=>by
  simp only[aAq] at h;split at h
  .rename_i C z;split at h
   .rename_i j;cases h;have j:=Zi j;have q:=e4q z;have x:=kXq q;refine⟨rfl,?_⟩;simp only[RS,zmq];rw[yqq (by rw[x,j])];exact⟨by rw[x,j],q⟩
   .cases h
  .cases h
 |.arr n e l,_,h=>by
  simp only[aAq] at h;split at h
  .rename_i C z;split at h
   .rename_i A;cases h;simp only[Zd,List.all_eq_true,ZH] at A;obtain⟨j,B⟩:=A;have q:=e3q z B;have x:=kXq q;refine⟨rfl,?_⟩;simp only[RS,zmq];rw[yqq (by rw[x,j])];exact⟨by rw[x,j],B,q⟩
   .cases h
  .cases h
theorem e4q:∀{l:List V} {b:List W},orq l=some b->RSL Γ b (kfq l)
 |[],_,h=>by simp only[orq] at h;cases h;simp[RSL,kfq]
 |v::l,_,h=>by
  simp only[orq] at h;split at h
  .rename_i w r f d;cases h;exact qtq (x3q f).2 (e4q d)
  .cases h
theorem e3q{e:Nat}:∀{l:List V} {b:List W},orq l=some b->(∀x∈b,x.size=e) ->RSL Γ b (yaq e l)
 |[],_,h,_=>by simp only[orq] at h;cases h;simp[RSL,yaq]
 |v::l,_,h,he=>by
  simp only[orq] at h;split at h
  .rename_i w r j g;cases h;have d:=x3q (v:=v) j;rw[yaq,yqq (by rw[y8q,d.size];exact he w (ZV ..))];exact qtq d.2 (e3q g λx f=>he x (ZS _ f))
  .cases h
end
theorem RV_bool{b:Bool}{v:V}:RV Γ (.bool b) v↔v= .bool b:=⟨λh=>by have:=h.one rfl;simpa[RS] using this,λh=>by subst h;exact⟨rfl,by simp[RS,zmq]⟩⟩
theorem RV_int{k:IntKind}{n:Int}{v:V}:RV Γ (.int k n) v↔v= .int k n:=⟨λh=>by have:=h.one rfl;simpa[RS] using this,λh=>by subst h;exact⟨rfl,by simp[RS,zmq]⟩⟩
theorem RV_str{s:List UInt8}{v:V}:RV Γ (.str s) v↔v= .str s:=⟨λh=>by have:=h.one rfl;simpa[RS] using this,λh=>by subst h;exact⟨rfl,by simp[RS,zmq]⟩⟩
theorem xiq{v:V}:RV Γ .nilp v↔v= .nilp:=⟨λh=>by have:=h.one rfl;simpa[RS] using this,λh=>by subst h;exact⟨rfl,by simp[RS,zmq]⟩⟩
theorem RV_nils{v:V}:RV Γ .nils v↔v= .nils:=⟨λh=>by have:=h.one rfl;simpa[RS] using this,λh=>by subst h;exact⟨rfl,by simp[RS,zmq]⟩⟩
theorem RV_undef{v:V}:RV Γ .undef v↔v= .undef:=⟨λh=>by have:=h.one rfl;simpa[RS] using this,λh=>by subst h;exact⟨rfl,by simp[RS,zmq]⟩⟩
theorem RV_yield{l:Nat}{v:V}:RV Γ (.yield l) v↔v= .yield l:=⟨λh=>by have:=h.one rfl;simpa[RS] using this,λh=>by subst h;exact⟨rfl,by simp[RS,zmq]⟩⟩
theorem RV_ptr{b o:Nat}{v:V}:RV Γ (.ptr b o) v↔b<Γ.nw/\v= .ptr (Γ.σ b) o:=⟨λh=>by have:=h.one rfl;simpa[RS] using this,λh=>by obtain⟨a,rfl⟩:=h;exact⟨rfl,by simp[RS,zmq,a]⟩⟩
theorem RV_sl{b a d e f:Nat}{c:Option Nat}{v:V}:RV Γ (.sl b a d e f c) v↔b<Γ.nw/\v= .sl (Γ.σ b) a d e f c:=⟨λh=>by have:=h.one rfl;simpa[RS] using this,λh=>by obtain⟨g,rfl⟩:=h;exact⟨rfl,by simp[RS,zmq,g]⟩⟩
theorem RV_tup{l:List W}{v:V}:RV Γ (.tup l) v↔∃a,v= .tup a/\RVL Γ l a:=⟨λh=>by have:=h.one rfl;simpa[RS] using this,λh=>by obtain⟨a,rfl,b⟩:=h;exact⟨rfl,by simp[RS,zmq];exact b⟩⟩
theorem RV_fn{f:FuncId}{a c:List W}{v:V}:RV Γ (.fn f a c) v↔∃d b,v= .fn f d b/\RVL Γ a d/\RVL Γ c b:=⟨λh=>by have:=h.one rfl;simpa[RS] using this,λh=>by obtain⟨d,b,rfl,e⟩:=h;exact⟨rfl,by simp[RS,zmq];exact⟨d,b,⟨rfl,rfl⟩,e⟩⟩⟩
variable {C:Cfg}
mutual
theorem J2q:∀(f:Nat) {t:TypeId} {x y:W} {g l:V} {r:Bool},eqW C f t x y=some r->RV Γ x g->RV Γ y l->eqV C f t g l=some r
 |0,_,_,_,_,_,_,h,_,_=>by simp[eqW] at h
 | f +1,t,x,y,g,l,r,h,hx,hy=>by
  simp only[eqW] at h;simp only[eqV];split at h
  .cases h
  .rename_i i u;rw[u];simp only;split at h
   .rename_i k d;rw[d];split at h
    .rename_i j a k b;rw[RV_int] at hx hy;subst hx;subst hy
     exact h
    .cases h
   .rename_i d;rw[d];split at h
    .rw[RV_bool] at hx hy;subst hx;subst hy
     exact h
    .cases h
   .rename_i d;rw[d];split at h
    .rw[RV_str] at hx hy;subst hx;subst hy
     exact h
    .cases h
   .rename_i d;rw[d];split at h
    .rw[xiq] at hx hy;subst hx;subst hy
     exact h
    .rw[xiq] at hx;rw[RV_ptr] at hy;obtain⟨_,rfl⟩:=hy;subst hx;exact h
    .rw[xiq] at hy;rw[RV_ptr] at hx;obtain⟨_,rfl⟩:=hx;subst hy;exact h
    .rw[xiq] at hx;obtain⟨_,_,_,rfl,_⟩:=xbq hy;subst hx;exact h
    .rw[xiq] at hy;obtain⟨_,_,_,rfl,_⟩:=xbq hx;subst hy;exact h
    .cases h
   .rename_i d;rw[d];split at h
    .rw[RV_nils] at hx hy;subst hx;subst hy
     exact h
    .rw[RV_nils] at hx;rw[RV_sl] at hy;obtain⟨_,rfl⟩:=hy;subst hx;exact h
    .rw[RV_nils] at hy;rw[RV_sl] at hx;obtain⟨_,rfl⟩:=hx;subst hy;exact h
    .rw[RV_nils] at hx;rcases k0q hy with ⟨o,_⟩|⟨_,_,_,_,_,_,rfl,_⟩
     .cases o
     subst hx;exact h
    .rw[RV_nils] at hy;rcases k0q hx with ⟨o,_⟩|⟨_,_,_,_,_,_,rfl,_⟩
     .cases o
     subst hy;exact h
    .cases h
   .rename_i v d;rw[d];simp only;rw[<-hx.1,<-hy.1];split at h
    .rename_i p;rw[p];exact eZq f h hx hy
    .cases h
   .rename_i n e d;rw[d];simp only;rw[<-hx.1,<-hy.1];split at h
    .rename_i j p q;rw[p,q];exact e0q f h hx hy
    .cases h
   .cases h
theorem eZq:∀(f:Nat) {p:List (TypeId×Nat)} {x y:W} {k q:V} {r:Bool},Yzq C f p x y=some r->RV Γ x k->RV Γ y q->onq C f p k q=some r
 |0,_,_,_,_,_,_,h,_,_=>by simp[Yzq] at h
 |f+1,[],_,_,_,_,_,h,_,_=>by simp only[Yzq] at h;simp only[onq];exact h
 |f+1,(t,off)::p,x,y,k,q,r,h,hx,hy=>by
  simp only[Yzq] at h;simp only[onq];split at h
  .cases h
  .rename_i i v;rw[v];simp only;split at h
   .rename_i a b w u;obtain⟨z,l,d,_⟩:=ulq hx w;obtain⟨A,j,g,_⟩:=ulq hy u;rw[l,j];simp only;split at h
    .rename_i o;rw[J2q f o d g];exact eZq f h hx hy
    .rename_i o;rw[J2q f o d g];exact h
    .cases h
   .cases h
theorem e0q:∀(f:Nat) {e:TypeId} {j:TyI} {n k:Nat} {x y:W} {o t:V} {r:Bool},Xaq C f e j n k x y=some r->RV Γ x o->RV Γ y t->ooq C f e j n k o t=some r
 |0,_,_,_,_,_,_,_,_,_,h,_,_=>by simp[Xaq] at h
 |f+1,_,_,0,_,_,_,_,_,_,h,_,_=>by simp only[Xaq] at h;simp only[ooq];exact h
 |f+1,e,j,n+1,k,x,y,o,t,r,h,hx,hy=>by
  simp only[Xaq] at h;simp only[ooq];split at h
  .rename_i a b v u;obtain⟨w,p,d,_⟩:=ulq hx v;obtain⟨z,l,g,_⟩:=ulq hy u;rw[p,l];simp only;split at h
   .rename_i q;rw[J2q f q d g];exact e0q f h hx hy
   .rename_i q;rw[J2q f q d g];exact h
   .cases h
  .cases h
end
theorem rCq{v:V}{w:W}(h:unV v=some w):RV Γ w v:=by
 unfold unV at h;split at h<;>cases h
 .exact RV_bool.2 rfl
 .exact RV_int.2 rfl
 .exact RV_str.2 rfl
theorem oOq{o:Option V}{w:W}(h:o.bind unV=some w):∃v,o=some v/\RV Γ w v:=by
 cases o with
 |none=>cases h
 |some v=>exact⟨v,rfl,rCq h⟩
theorem h5q{x y:W}{d c:V}(h:Zaq x y=true)(a:RV Γ x d)(b:RV Γ y c):vwq d c=true:=by
 unfold Zaq at h;split at h
 .rw[RV_bool] at a b;subst a;subst b;rfl
 .rw[xiq] at a b;subst a;subst b;rfl
 .rw[xiq] at a;rw[RV_ptr] at b;obtain⟨_,rfl⟩:=b;subst a;rfl
 .rw[xiq] at b;rw[RV_ptr] at a;obtain⟨_,rfl⟩:=a;subst b;rfl
 .rw[xiq] at a;obtain⟨_,_,_,rfl,_⟩:=xbq b;subst a;rfl
 .rw[xiq] at b;obtain⟨_,_,_,rfl,_⟩:=xbq a;subst b;rfl
 .rw[RV_nils] at a b;subst a;subst b;rfl
 .rw[RV_nils] at a;rw[RV_sl] at b;obtain⟨_,rfl⟩:=b;subst a;rfl
 .rw[RV_nils] at b;rw[RV_sl] at a;obtain⟨_,rfl⟩:=a;subst b;rfl
 .rw[RV_nils] at a;subst a;rcases k0q b with ⟨_,rfl⟩|⟨_,_,_,_,_,_,rfl,_⟩<;>rfl
 .rw[RV_nils] at b;subst b;rcases k0q a with ⟨_,rfl⟩|⟨_,_,_,_,_,_,rfl,_⟩<;>rfl
 .rw[a.1,b.1] at h;simp only[Zd] at h;obtain⟨e,f⟩:=h;cases d<;>simp[V.isAgg] at e<;>cases c<;>simp[V.isAgg] at f<;>rfl
theorem gbq{d:BinOp}{t:TypeId}{c a:V}(h:vwq c a=true):mjq C d t c a=match d with
      |.eql=>match eqV C 300 t c a with
       |some b=>some (.bool b)
       |none=>none
      |.neq=>match eqV C 300 t c a with
       |some b=>some (.bool (!b))
       |none=>none
      |_=>none:=by
 cases c<;>cases a<;>first|(simp[vwq,V.isAgg] at h;done)|(simp only[mjq,h];cases d<;>rfl)
theorem tLq{k:BinOp}{t:TypeId}{x y w:W}{j g:V}(h:BPq C k t x y=some w)(b:RV Γ x j)(d:RV Γ y g):∃v,mjq C k t j g=some v/\RV Γ w v:=by
 unfold BPq at h;split at h
 .rw[RV_int] at b d;subst b;subst d
  simp only[mjq];split at h
  .exact oOq h
  .exact oOq h
  .split at h
   .rename_i o;obtain⟨v,q,u⟩:=oOq h;refine⟨v,?_,u⟩;split
    .simp_all
    .simp_all
    .rw[o];exact q
   .cases h
 .rw[RV_str] at b d;subst b;subst d
  exact oOq h
 .split at h
  .cases h
  .rename_i z;rw[gbq (h5q z b d)];split at h
   .split at h
    .rename_i f;cases h;rw[J2q 300 f b d];exact⟨_,rfl,RV_bool.2 rfl⟩
    .cases h
   .split at h
    .rename_i f;cases h;rw[J2q 300 f b d];exact⟨_,rfl,RV_bool.2 rfl⟩
    .cases h
   .cases h
def FRel(b:Ctx)(c:FrW)(a:Tr V):Prop:=∀t w,aqq c t=some w->∃v,a.get t=some v/\RV b w v
def GRel(C:Cfg)(G:Nat->Option W)(a:Ctx):Prop:=∀g w,C.glob g=true->G g=some w->∀b c,RV ⟨b,c,a.D,a.h⟩ (.fel w) (.ptr g 0)
variable {G:Nat->Option W} {fr:FrW} {frv:Tr V}
theorem zXq(d:FRel Γ fr frv)(j:GRel C G Γ){x:Operand}{w:W}(h:evW C G fr x=some w):∃v,evV C frv x=some v/\RV Γ w v:=by
 cases x with
 |tmp t=>exact d t w h
 |const c=>
  simp only[evW,D8q] at h;split at h
  .rename_i v k;exact⟨v,k,x3q h⟩
  .cases h
 |global g=>
  simp only[evW] at h;split at h
  .rename_i o b l;cases h;exact⟨_,by simp only[evV,b],j g _ b l Γ.nw Γ.σ⟩
  .cases h
 |func f=>
  simp only[evW] at h;cases h;exact⟨_,rfl,RV_fn.2 ⟨[],[],rfl,by simp[RVL],by simp[RVL]⟩⟩
theorem x2q(b:FRel Γ fr frv)(d:GRel C G Γ):∀{l:List Operand} {g:List W},avq C G fr l=some g->∃f,evL C frv l=some f/\RVL Γ g f
 |[],_,h=>by simp only[avq] at h;cases h;exact⟨[],rfl,by simp[RVL]⟩
 |x::l,_,h=>by
  simp only[avq] at h;split at h
  .rename_i v r p w;cases h;obtain⟨u,k,q⟩:=zXq b d p;obtain⟨j,t,o⟩:=x2q b d w;refine⟨u::j,by simp only[evL,k,t],?_⟩;simp only[RVL];exact⟨u,j,rfl,q,o⟩
  .cases h
theorem xWq{x:W}{v:V}{n:Nat}(b:RV Γ x v)(h:bLq x=some n):pFq v=some n:=by
 unfold bLq at h;split at h
 .cases h;rw[RV_int] at b;subst b;rfl
 .cases h
theorem q2q(b:FRel Γ fr frv)(f:GRel C G Γ){d n:Nat}:∀{x:Option Operand},aCq C G fr d x=some n->azq C frv d x=some n
 |none,h=>h
 |some x,h=>by
  simp only[aCq] at h;split at h
  .rename_i w k;obtain⟨v,g,j⟩:=zXq b f k;simp only[azq,g];exact xWq j h
  .cases h
theorem eVq(f:FRel Γ fr frv)(g:GRel C G Γ){t:TypeId}:∀{l:List (Nat×Operand)} {z w:W} {b:V},RV Γ z b->i3q C G fr t z l=some w->∃v,QSq C frv t b l=some v/\RV Γ w v
 |[],_,_,b,hz,h=>by simp only[i3q] at h;cases h;exact⟨b,rfl,hz⟩
 | (i,x)::l,z,w,b,hz,h=>by
  simp only[i3q] at h;split at h
  .rename_i B I y E p;obtain⟨H,u,j⟩:=zXq f g p;split at h
   .rename_i o;split at h
    .rename_i J d;obtain⟨F,D,k,_⟩:=cRq hz j d;obtain⟨v,q,A⟩:=eVq f g k h;refine⟨v,?_,A⟩;simp only[QSq,E,u,j.size,o,D];exact q
    .cases h
   .cases h
  .cases h
end
end
section
variable {Γ:Ctx} {C:Cfg} {G:Nat->Option W} {fr:FrW} {frv:Tr V} (hf:FRel Γ fr frv) (hg:GRel C G Γ)
theorem l0q:∀{l:List W} {a:List V} {i:Nat} {w:W},RVL Γ l a->l[i]? =some w->∃v,a[i]? =some v/\RV Γ w v
 |[],_,_,_,_,h=>by simp at h
 |x::l,_,0,_,hl,h=>by
  simp only[RVL] at hl;obtain⟨v,a,rfl,b,c⟩:=hl;simp at h;subst h
  exact⟨v,rfl,b⟩
 |x::l,_,i+1,_,hl,h=>by
  simp only[RVL] at hl;obtain⟨v,a,rfl,b,c⟩:=hl;simp at h;obtain⟨u,e,d⟩:=l0q c h;exact⟨u,by simpa using e,d⟩
theorem oyq{z:List W}{f:Nat}{q:Bool}{l h:Nat}{w:W}{b y u:Nat}{A:Option Nat}{F:V}(H:mhq z f q l h none=some w)(M:q=true->A=some z.length)(N:Γ.D b)(O:Γ.h.val b=some F)(J:F.isAgg=true)(S:u+z.length*f<=F.size)(I:∀x∈z,x.size=f)
  (K:RSL Γ z (((zmq F).drop u).take (z.length*f))):∃v,ljq b y u z.length f A l h none=some v/\RV Γ w v:=by
 simp only[mhq] at H;simp only[ljq];split at H
 .rename_i B;rw[B];simp only[Zd] at B;have Q:=Yb B.1;have R:=Yb B.2;cases H;refine⟨_,rfl,?_⟩;have E:((z.drop l).take (h-l)).length=h-l:=by simp;omega
  have P:l*f+(h-l)*f<=z.length*f:=by
   rw[<-ZQ];exact Z7 _ Xd
  have:=l1q (a:=l) (n:=h-l) K I Xd;rw[List.drop_take,YB,YP,YL Xd] at this;have:=o6q (full:=q&&Nat.beq h z.length) (base:=(match Nat.beq l 0 with|true=>y|false=>u)) (lim:=q6q l A) (off:=u+l*f) (λj=>?_) N O J (by rw[E];omega) (λx L=>I x (ZF (ZJ L))) (by rw[E];exact this)
  .rw[E] at this;exact this
  .simp only[Zd,ZH] at j;rw[M j.1,E];simp only[q6q,<-j.2]
 .cases H
theorem lkq{z:List W}{f:Nat}{y:Bool}{l h m:Nat}{w:W}{b A j:Nat}{B:Option Nat}{F:V}(H:mhq z f y l h (some m)=some w)(M:Γ.D b)(N:Γ.h.val b=some F)(J:F.isAgg=true)(S:j+z.length*f<=F.size)(I:∀x∈z,x.size=f)
  (K:RSL Γ z (((zmq F).drop j).take (z.length*f))):∃v,ljq b A j z.length f B l h (some m)=some v/\RV Γ w v:=by
 simp only[mhq] at H;simp only[ljq];split at H
 .rename_i u;rw[u];simp only[Zd] at u;have Q:=Yb u.1.1.1;have R:=Yb u.1.1.2;have O:=Yb u.1.2;cases H;refine⟨_,rfl,?_⟩;have E:((z.drop l).take (h-l)).length=h-l:=by simp;omega
  have P:l*f+(h-l)*f<=z.length*f:=by
   rw[<-ZQ];exact Z7 _ Xd
  have:=l1q (a:=l) (n:=h-l) K I Xd;rw[List.drop_take,YB,YP,YL Xd] at this;have:=o6q (full:=Nat.beq h m) (base:=j) (lim:=some (m-l)) (off:=j+l*f) (λq=>?_) M N J (by rw[E];omega) (λx L=>I x (ZF (ZJ L))) (by rw[E];exact this)
  .rw[E] at this;exact this
  .simp only[ZH] at q;rw[E,q]
 .cases H
theorem faq{b f k o p:Nat}{j:Option Nat}{l h:Nat}{q:Option Nat}{w:W}(t:b<Γ.nw)(d:tuq b f k o p j l h q=some w):∃v,ljq (Γ.σ b) f k o p j l h q=some v/\RV Γ w v:=by
 cases q with
 |none=>
  simp only[tuq] at d;simp only[ljq];split at d
  .rename_i g;rw[g];cases d;exact⟨_,rfl,RV_sl.2 ⟨t,rfl⟩⟩
  .cases d
 |some m=>
  simp only[tuq] at d;simp only[ljq];split at d
  .rename_i g;rw[g];cases d;exact⟨_,rfl,RV_sl.2 ⟨t,rfl⟩⟩
  .cases d
include hf hg
theorem fuq{t:TypeId}{x:Operand}{M J N:Option Operand}{w:W}(h:Qaq C G fr t x M J N=some w):∃v,yuq C frv t x M J N=some v/\RV Γ w v:=by
 unfold Qaq at h;unfold yuq;split at h
 .rename_i j u P O;obtain⟨v,S,q⟩:=zXq hf hg O;rw[P,S];simp only;split at h
  .rename_i e b B F T D E o;rw[o];rw[RV_sl] at q;obtain⟨L,rfl⟩:=q;simp only;split at h
   .rename_i k l r A g f;rw[A,q2q hf hg g,q2q hf hg f];simp only;split at h
    .rename_i H;rw[H];simp only;split at h
     .exact faq L h
     .rename_i z;split at h
      .rename_i y m I;simp only[q2q hf hg I];exact faq L h
      .cases h
    .cases h
   .cases h
  .rename_i e U D K o;rw[o];rcases k0q q with ⟨rfl,rfl⟩|⟨b,B,F,E,bv,us,rfl,g1,g2,g3,g4,g5,g6,g7,_⟩
   .simp only;split at h
    .rename_i k l r A g f;rw[A,q2q hf hg g];rw[ZP] at f;rw[q2q hf hg f];split at h
     .split at h
      .simp only[mhq,ZP] at h;split at h
       .rename_i d;simp only[Zd] at d;have Q:=Yb d.1;have R:=Yb d.2;obtain rfl:r=0:=by omega
        obtain rfl:l=0:=by omega
        cases h;exact⟨_,rfl,RV.of_one (by simp[RS]) Y Y⟩
       .cases h
      .split at h
       .simp only[mhq,ZP] at h;split at h
        .rename_i d;simp only[Zd] at d;have Q:=Yb d.1.2;have R:=Yb d.2;omega
        .cases h
       .cases h
     .cases h
    .cases h
   .simp only;split at h
    .rename_i k l r A g f;rw[A,q2q hf hg g,q2q hf hg f];simp only;split at h
     .rename_i H;rw[H];simp only;split at h
      .exact oyq h g1 g2 g3 g4 g5 g6 g7
      .rename_i z;split at h
       .rename_i y m I;simp only[q2q hf hg I];exact lkq h g2 g3 g4 g5 g6 g7
       .cases h
     .cases h
    .cases h
  .rename_i e o;rw[o];rw[RV_nils] at q;subst q;simp only;split at h
   .rename_i k A g f;cases h;rw[A,q2q hf hg g,q2q hf hg f];exact⟨_,rfl,RV_nils.2 rfl⟩
   .cases h
  .rename_i s o;rw[o];rw[RV_str] at q;subst q;simp only;split at h
   .rename_i l r g f;rw[q2q hf hg g,q2q hf hg f];simp only;split at h
    .rename_i d;rw[d];cases h;exact⟨_,rfl,RV_str.2 rfl⟩
    .cases h
   .cases h
  .cases h
 .cases h
theorem Jnq{t:TypeId}{x y:Operand}{w:W}(h:jEq C G fr t x y=some w):∃v,zAq C frv t x y=some v/\RV Γ w v:=by
 unfold jEq at h;unfold zAq;split at h
 .rename_i j u k Y X hk;obtain⟨u',h1,D⟩:=zXq hf hg X;obtain⟨k',Z,H⟩:=zXq hf hg hk;rw[Y,h1,Z];simp only;split at h
  .rename_i i n e b q o A;rw[xWq H o,A];rw[RV_ptr] at D;obtain⟨K,rfl⟩:=D;simp only;split at h
   .rename_i N f d;cases h;rw[f,d];exact⟨_,rfl,RV_ptr.2 ⟨K,rfl⟩⟩
   .cases h
  .rename_i i n e z o A;rw[xWq H o,A];obtain⟨b,q,bv,rfl,R,P,Q,J,T,I⟩:=xbq D;simp only;split at h
   .rename_i N f d;rw[f,d];split at h
    .cases h
    .split at h
     .rename_i r B;cases h;exact⟨_,rfl,(eWq B R P Q J T I).1⟩
     .cases h
   .cases h
  .rename_i i e b E q len g L o A;rw[xWq H o,A];rw[RV_sl] at D;obtain⟨K,rfl⟩:=D;simp only;split at h
   .rename_i N f d;split at h
    .rename_i O;cases h;rw[f,d];simp only[O];exact⟨_,rfl,RV_ptr.2 ⟨K,rfl⟩⟩
    .cases h
   .cases h
  .rename_i i e l g U o A;rw[xWq H o,A];split at h
   .rename_i N r f B;split at h
    .rename_i O;cases h;rcases k0q D with ⟨rfl,_⟩|⟨b,E,q,L,bv,us,rfl,R,P,Q,J,T,I,g7,_⟩
     .simp at B
     .have d:i<l.length:=(Zk.1 B).1;have F:Nat.blt i l.length=true:=by simpa[YR] using d
      simp only;rw[f,F];simp only[O];refine⟨_,rfl,?_⟩;obtain⟨S,k2⟩:=l4q g7 I B;have M:=I r (Zj B);rw[Zu] at k2
      have K:i*g+g<=l.length*g:=by
       have:=Z7 g (show i+1<=l.length from d);rw[ZQ] at this;omega
      refine roq P Q Xd (λ_=>J) (.inr J) ?_;rw[M];rw[List.drop_take,YB,YP,YL Xd] at S;exact S
    .cases h
   .cases h
  .cases h
 .cases h
theorem Joq{t:TypeId}{x:Operand}{i:Nat}{w:W}(h:ZMq C G fr t x i=some w):∃v,zBq C frv t x i=some v/\RV Γ w v:=by
 unfold ZMq at h;unfold zBq;split at h
 .rename_i E J b o g j;obtain⟨u,l,f⟩:=zXq hf hg j;rw[RV_ptr] at f;obtain⟨F,rfl⟩:=f;rw[g,l];simp only;split at h
  .rename_i k p;rw[p];simp only;split at h
   .cases h
   .rename_i d;cases h;rw[d];exact⟨_,rfl,RV_ptr.2 ⟨F,rfl⟩⟩
  .cases h
 .rename_i E J y g j;obtain⟨u,l,f⟩:=zXq hf hg j;obtain⟨b,o,K,rfl,q,H,D,B,A,I⟩:=xbq f;rw[g,l];simp only;split at h
  .rename_i k p;rw[p];simp only;split at h
   .cases h
   .rename_i d;rw[d];split at h
    .rename_i z d;cases h;exact⟨_,rfl,(eWq d q H D B A I).1⟩
    .cases h
  .cases h
 .cases h
theorem fvq{t:TypeId}{x y:Operand}{w:W}(h:dTq C G fr t x y=some w):∃v,yCq C frv t x y=some v/\RV Γ w v:=by
 unfold dTq at h;unfold yCq;split at h
 .rename_i j u k z q H;obtain⟨I,D,b⟩:=zXq hf hg q;obtain⟨J,E,o⟩:=zXq hf hg H;rw[z,D,E];simp only;split at h
  .rename_i i s l d;rw[RV_str] at b;subst b;rw[xWq o l,d];simp only;split at h
   .rename_i c B;cases h;rw[B];exact⟨_,rfl,RV_int.2 rfl⟩
   .cases h
  .rename_i i n e l d;rw[xWq o l,d];simp only;split at h
   .rename_i K g f F;rw[g,f,<-b.1,F];obtain⟨v,p,A,_⟩:=ulq b h;exact⟨v,p,A⟩
   .cases h
  .cases h
 .cases h
theorem fwq{t:TypeId}{x:Operand}{i:Nat}{w:W}(h:gCq C G fr t x i=some w):∃v,yDq C frv t x i=some v/\RV Γ w v:=by
 unfold gCq at h;unfold yDq;split at h
 .rename_i y l u f g;obtain⟨z,j,b⟩:=zXq hf hg g;rw[f,j];simp only;split at h
  .rename_i k q o;rw[q,<-b.1,o];obtain⟨v,d,p,_⟩:=ulq b h;exact⟨v,d,p⟩
  .cases h
 .cases h
theorem nbq{rt:TypeId}{o:Op}{w:W}(h:y4q C G fr o=some w):∃v,ylq C frv rt o=some v/\RV Γ w v:=by
 unfold y4q at h;split at h
 .exact zXq hf hg h
 .exact zXq hf hg h
 .unfold wzq at h;simp only[ylq,qnq];split at h
  .rename_i k;obtain⟨u,g,b⟩:=zXq hf hg k;rw[RV_bool] at b;subst b
   rw[g];exact zXq hf hg h
  .rename_i k;obtain⟨u,g,b⟩:=zXq hf hg k;rw[RV_bool] at b;subst b
   rw[g];exact zXq hf hg h
  .cases h
 .unfold dUq at h;simp only[ylq,z3q];split at h
  .rename_i k;obtain⟨u,g,b⟩:=zXq hf hg k;rw[RV_tup] at b;obtain⟨S,rfl,b⟩:=b;rw[g];exact l0q b h
  .cases h
 .unfold DWq at h;simp only[ylq,zOq];split at h
  .rename_i k;cases h;obtain⟨u,g,b⟩:=zXq hf hg k;obtain⟨_,rfl⟩:=RV_ptr.1 b;rw[g];exact⟨_,rfl,b⟩
  .rename_i k;cases h;obtain⟨u,g,b⟩:=zXq hf hg k;obtain⟨_,rfl⟩:=RV_sl.1 b;rw[g];exact⟨_,rfl,b⟩
  .rename_i k;cases h;obtain⟨u,g,b⟩:=zXq hf hg k;obtain⟨_,_,_,rfl,_⟩:=xbq b;rw[g];exact⟨_,rfl,b⟩
  .rename_i k;cases h;obtain⟨u,g,b⟩:=zXq hf hg k;rcases k0q b with ⟨P,_⟩|⟨_,_,_,_,_,_,rfl,_⟩
   .cases P
   rw[g];exact⟨_,rfl,b⟩
  .rename_i k;cases h;obtain⟨u,g,b⟩:=zXq hf hg k;obtain⟨_,_,rfl,_⟩:=RV_fn.1 b;rw[g];exact⟨_,rfl,b⟩
  .rename_i k;cases h;obtain⟨u,g,b⟩:=zXq hf hg k;have:=RV_yield.1 b;subst this;rw[g];exact⟨_,rfl,b⟩
  .cases h
 .unfold DVq at h;simp only[ylq,z1q];split at h
  .rename_i k;cases h;obtain⟨u,g,b⟩:=zXq hf hg k;rw[RV_bool] at b;subst b
   rw[g];exact⟨_,rfl,RV_bool.2 rfl⟩
  .cases h
 .unfold DXq at h;simp only[ylq,z2q];split at h
  .rename_i k;cases h;obtain⟨u,g,b⟩:=zXq hf hg k;rw[RV_int] at b;subst b
   rw[g];exact⟨_,rfl,RV_int.2 rfl⟩
  .cases h
 .unfold DUq at h;simp only[ylq,z0q];split at h
  .rename_i k;obtain⟨u,g,b⟩:=zXq hf hg k;rw[RV_int] at b;subst b
   rw[g];split at h
   .rename_i R;cases h;simp only[R];exact⟨_,rfl,RV_int.2 rfl⟩
   .cases h
  .cases h
 .unfold B7q at h;simp only[ylq,yxq];split at h
  .rename_i A H;obtain⟨u,g,b⟩:=zXq hf hg A;obtain⟨F,p,B⟩:=zXq hf hg H;obtain⟨r,M,L⟩:=tLq h b B;exact⟨r,by simp only[g,p,M],L⟩
  .cases h
 .unfold wBq at h;simp only[ylq,zTq];split at h
  .rename_i i j u K E A;obtain⟨F,g,b⟩:=zXq hf hg A;rw[K,E,g];simp only;split at h
   .rename_i hd;cases h;rw[RV_int] at b;subst b
    rw[hd];exact⟨_,rfl,RV_int.2 rfl⟩
   .rename_i hd;cases h;rw[RV_str] at b;subst b
    rw[hd];exact⟨_,rfl,RV_str.2 rfl⟩
   .cases h
  .cases h
 .unfold wAq at h;simp only[ylq,zJq];split at h
  .rename_i A H;obtain⟨T,g,b⟩:=x2q hf hg A;obtain⟨N,p,B⟩:=x2q hf hg H;cases h;rw[g,p];exact⟨_,rfl,RV_fn.2 ⟨_,_,rfl,b,B⟩⟩
  .cases h
 .unfold pbq at h;simp only[ylq,yFq];split at h
  .rename_i j E;rw[E];simp only;split at h
   .rename_i z Q I;rw[Q];exact eVq hf hg (x3q I) h
   .cases h
  .cases h
 .exact fwq hf hg h
 .exact Joq hf hg h
 .exact Jnq hf hg h
 .exact fvq hf hg h
 .exact fuq hf hg h
 .unfold DYq at h;simp only[ylq,znq];split at h
  .rename_i j u E A;obtain⟨F,g,b⟩:=zXq hf hg A;rw[E,g];simp only;split at h
   .cases h
   .rename_i hd;cases h;refine⟨.iface _ F,?_,RV.of_one (by simp only[RS];exact⟨F,rfl,b.1,b.2⟩) Y Y⟩;split
    .rename_i J;exact absurd J hd
    .rfl
  .cases h
 .unfold gDq at h;simp only[ylq,yfq];split at h
  .rename_i j u E A;obtain⟨F,g,b⟩:=zXq hf hg A;rw[E,g];simp only;split at h
   .cases h
   .rename_i hd;split at h
    .have p:=b.one rfl;simp only[RS,YM,and_true] at p;subst p;split at h
     .rename_i z I;cases h;exact⟨_,(by split;(rename_i q;exact absurd q hd);rfl),RV_tup.2 ⟨_,rfl,by simp only[RVL];exact⟨_,_,rfl,x3q I,_,_,rfl,⟨rfl,by simp[RS,zmq]⟩,rfl⟩⟩⟩
     .cases h
    .have p:=b.one rfl;simp only[RS,YM,and_true] at p;obtain⟨w,rfl,B⟩:=p;split at h
     .rename_i hb;cases h;exact⟨_,Qj,RV_tup.2 ⟨_,rfl,by simp only[RVL];exact⟨_,_,rfl,B,_,_,rfl,⟨rfl,by simp[RS,zmq]⟩,rfl⟩⟩⟩
     .rename_i hb;split at h
      .rename_i z I;cases h;exact⟨_,Qj,RV_tup.2 ⟨_,rfl,by simp only[RVL];exact⟨_,_,rfl,x3q I,_,_,rfl,⟨rfl,by simp[RS,zmq]⟩,rfl⟩⟩⟩
      .cases h
    .have p:=b.one rfl;simp only[RS,YM,and_true] at p;obtain⟨w,rfl,B⟩:=p;split at h
     .rename_i hb;cases h;exact⟨_,Qj,B⟩
     .cases h
    .cases h
  .cases h
 .unfold D1q at h;simp only[ylq,jvq];split at h
  .rename_i t x O D;rw[O,D];simp only;split at h
   .rename_i j u E A;obtain⟨F,g,b⟩:=zXq hf hg A;rw[E,g];simp only;split at h
    .rename_i hd;cases h;rw[RV_str] at b;subst b
     rw[hd];exact⟨_,rfl,RV_int.2 rfl⟩
    .rename_i hd;cases h;obtain⟨_,rfl⟩:=RV_sl.1 b;rw[hd];exact⟨_,rfl,RV_int.2 rfl⟩
    .rename_i hd;cases h;rw[hd];rcases k0q b with ⟨rfl,rfl⟩|⟨_,_,_,_,_,_,rfl,_⟩
     .exact⟨_,rfl,RV_int.2 rfl⟩
     .exact⟨_,rfl,RV_int.2 rfl⟩
    .rename_i hd;cases h;rw[RV_nils] at b;subst b
     rw[hd];exact⟨_,rfl,RV_int.2 rfl⟩
    .rename_i hd;cases h;rw[hd];exact⟨_,rfl,RV_int.2 rfl⟩
    .cases h
   .cases h
  .cases h
 .unfold DZq at h;simp only[ylq,jtq];split at h
  .rename_i x y D;rw[D];simp only;split at h
   .rename_i A H;obtain⟨u,g,b⟩:=zXq hf hg A;obtain⟨F,p,B⟩:=zXq hf hg H;rw[RV_int] at b B;subst b;subst B
    rw[g,p];cases h;exact⟨_,rfl,RV_int.2 rfl⟩
   .cases h
  .cases h
 .unfold D0q at h;simp only[ylq,juq];split at h
  .rename_i x y D;rw[D];simp only;split at h
   .rename_i A H;obtain⟨u,g,b⟩:=zXq hf hg A;obtain⟨F,p,B⟩:=zXq hf hg H;rw[RV_int] at b B;subst b;subst B
    rw[g,p];cases h;exact⟨_,rfl,RV_int.2 rfl⟩
   .cases h
  .cases h
 .cases h
end
structure Res where
 p:Heap->(Nat->Prop) ->(Nat->Prop) ->Prop
 st:∀h h' D D' X,p h D X->(∀c,D c->D' c) ->(∀c,D c->h'.val c=h.val c) ->(∀c,X c->h'.get c=h.get c) ->h.next<=h'.next->p h' D' X
def Res.none:Res:=⟨λ_ _ _=>True,λ_ _ _ _ _ _ _ _ _ _=>trivial⟩
def aoq(a:Ctx)(d:HpW)(c:Nat):Prop:=∃b x,hget d b=some x/\a.σ b=c
structure SatH(C:Cfg)(G:Nat->Option W)(Γ:Ctx)(hp:HpW)(X:Nat->Prop)(R:Res):Prop where
 wf:∀i,Γ.h.next<=i->Γ.h.get i=none
 own:∀b ty w,hget hp b=some (ty,w) ->b<Γ.nw/\¬Γ.D (Γ.σ b)/\¬X (Γ.σ b)/\∃v,Γ.h.get (Γ.σ b)=some (.cells ty v)/\RV Γ w v
 inj:∀b b' x y,hget hp b=some x->hget hp b'=some y->Γ.σ b=Γ.σ b'->b=b'
 nd:(hp.map (·.1)).Nodup
 dX:∀c,Γ.D c->¬X c
 xlt:∀c,X c->c<Γ.h.next
 dlt:∀c,Γ.D c->c<Γ.h.next
 res:R.p Γ.h Γ.D X
 gl:GRel C G Γ
structure Frm(m:Nat)(Γ:Ctx)(hp:HpW)(X:Nat->Prop)(Γ':Ctx)(hp':HpW)(X':Nat->Prop):Prop where
 sig:∀b,b<m->Γ'.σ b=Γ.σ b
 mle:m<=Γ.nw->m<=Γ'.nw
 next:Γ.h.next<=Γ'.h.next
 keep:∀c,c<Γ.h.next->¬aoq Γ hp c->¬X c->Γ'.h.get c=Γ.h.get c
 dsub:∀c,Γ.D c->Γ'.D c
 dnew:∀c,Γ'.D c->Γ.D c\/(aoq Γ hp c\/X c)\/Γ.h.next<=c
 oext:∀b x,b<m->hget hp' b=some x->∃y,hget hp b=some y
 onum:∀b x,m<=b->hget hp' b=some x->Γ.h.next<=Γ'.σ b\/∃k y,m<=k/\hget hp k=some y/\Γ.σ k=Γ'.σ b
 xnew:∀c,X' c->X c\/Γ.h.next<=c
 wmin:∀S:Nat->Prop,S Γ.h.wmin->(∀c,Γ.h.next<=c->S c) ->(∀c,aoq Γ hp c\/X c->S c) ->S Γ'.h.wmin
section
variable {m:Nat} {Γ Γ' Γ'':Ctx} {hp hp' hp'':HpW} {X X' X'':Nat->Prop}
theorem Frm.onew(a:Frm m Γ hp X Γ' hp' X')(c:Nat)(h:aoq Γ' hp' c):aoq Γ hp c\/Γ.h.next<=c:=by
 obtain⟨b,x,f,rfl⟩:=h;rcases ZL b m with d|d
 .obtain⟨y,g⟩:=a.oext b x d f;exact .inl ⟨b,y,g,(a.sig b d).symm⟩
 .rcases a.onum b x d f with h|⟨k,y,_,h2,h3⟩
  .exact .inr h
  .exact .inl ⟨k,y,h2,h3⟩
theorem Frm.refl(m:Nat)(Γ:Ctx)(hp:HpW)(X:Nat->Prop):Frm m Γ hp X Γ hp X:=
 ⟨λ_ _=>rfl,λh=>h,Zb _,λ_ _ _ _=>rfl,λ_ h=>h,λ_ h=>.inl h,λ_ x _ h=>⟨x,h⟩,λb x a h=>.inr ⟨b,x,a,h,rfl⟩,λ_ h=>.inl h,λ_ h _ _=>h⟩
theorem Frm.trans(a:Frm m Γ hp X Γ' hp' X')(b:Frm m Γ' hp' X' Γ'' hp'' X''):Frm m Γ hp X Γ'' hp'' X'':=by
 refine⟨λi u=>(b.sig i u).trans (a.sig i u),λh=>b.mle (a.mle h),Zt a.next b.next,λc v d p=>?_,λc h=>b.dsub c (a.dsub c h),λc h=>?_,λi x u h=>?_,λi x u h=>?_,λc h=>?_,λS v d p=>?_⟩
 .rw[b.keep c (Zv v a.next) (λC=>?_) (λA=>?_)]
  .exact a.keep c v d p
  .rcases a.onew c C with h|h
   .exact d h
   .omega
  .rcases a.xnew c A with h|h
   .exact p h
   .omega
 .rcases b.dnew c h with h|(h|h)|h
  .exact a.dnew c h
  .rcases a.onew c h with h|h
   .exact .inr (.inl (.inl h))
   .exact .inr (.inr h)
  .rcases a.xnew c h with h|h
   .exact .inr (.inl (.inr h))
   .exact .inr (.inr h)
  .exact .inr (.inr (Zt a.next h))
 .obtain⟨y,B⟩:=b.oext i x u h;exact a.oext i y u B
 .rcases b.onum i x u h with h|⟨k,y,v,d,p⟩
  .exact .inl (Zt a.next h)
  .rcases a.onum k y v d with h|⟨j,z,h4,h5,h6⟩
   .exact .inl (by rw[<-p];exact h)
   .exact .inr ⟨j,z,h4,h5,h6.trans p⟩
 .rcases b.xnew c h with h|h
  .exact a.xnew c h
  .exact .inr (Zt a.next h)
 .refine b.wmin S (a.wmin S v d p) (λc q=>d c (Zt a.next q)) λc q=>?_
  rcases q with q|q
  .rcases a.onew c q with h|h
   .exact p c (.inl h)
   .exact d c h
  .rcases a.xnew c q with h|h
   .exact p c (.inr h)
   .exact d c h
theorem Frm.le{m':Nat}(a:Frm m Γ hp X Γ' hp' X')(f:m'<=m)(p:m<=Γ.nw):Frm m' Γ hp X Γ' hp' X':=
 ⟨λi u=>a.sig i (Zv u f),λ_=>Zt f (a.mle p),a.next,a.keep,a.dsub,a.dnew,λb x g h=>a.oext b x (Zv g f) h,λb x g h=>by
  rcases ZL b m with d|j
  .obtain⟨y,q⟩:=a.oext b x d h;exact .inr ⟨b,y,g,q,(a.sig b d).symm⟩
  .rcases a.onum b x j h with h|⟨k,y,h1,h2,h3⟩
   .exact .inl h
   .exact .inr ⟨k,y,Zt f h1,h2,h3⟩,a.xnew,a.wmin⟩
theorem zfq{k b:Nat}{x:TypeId×W}{hp:HpW}:hget ((k,x)::hp) b=if k=b then some x else hget hp b:=by
 simp only[hget];by_cases h:k=b
 .subst h;simp
 .rw[Zg h]
  have:Nat.beq k b=false:=by
   cases a:Nat.beq k b with
   |true=>exact absurd (Zi a) h
   |false=>rfl
  rw[this]
theorem KZq{b:Nat}{x:TypeId×W}:∀{hp:HpW},hget hp b=some x->b∈hp.map (·.1)
 |[],h=>by simp[hget] at h
 |(k,y)::hp,h=>by
  rw[zfq] at h;split at h
  .rename_i e;subst e;simp
  .simp only[ZD,ZB];exact .inr (KZq h)
theorem kNq{b k:Nat}{x y:TypeId×W}:∀{hp:HpW},hget hp b=some y->hget (apq hp b x) k=if b=k then some x else hget hp k
 |[],h=>by simp[hget] at h
 | (j,z)::hp,h=>by
  rw[zfq] at h;simp only[apq];by_cases e:j=b
  .subst e;simp only[show Nat.beq j j=true from by simp];rw[zfq,zfq];split<;>rfl
  .rw[Zg e] at h
   have:Nat.beq j b=false:=by
    cases d:Nat.beq j b with
    |true=>exact absurd (Zi d) e
    |false=>rfl
   simp only[this];rw[zfq,zfq,kNq h];by_cases a:j=k
   .rw[Zl a,Zl a,Zg (λc=>e (a.trans c.symm))]
   .rw[Zg a,Zg a]
theorem Zkq{b:Nat}{x:TypeId×W}:∀{hp:HpW},(apq hp b x).map (·.1)=hp.map (·.1)
 |[]=>rfl
 |(j,z)::hp=>by
  simp only[apq];split
  .rfl
  .simp only[ZD,Zkq]
theorem QEq{b k:Nat}:∀{hp:HpW},(hp.map (·.1)).Nodup->hget (ayq hp b) k=if b=k then none else hget hp k
 |[],_=>by simp[ayq,hget]
 | (j,z)::hp,h=>by
  simp only[ZD,Y1] at h;simp only[ayq];by_cases e:j=b
  .subst e;simp only[show Nat.beq j j=true from by simp];rw[zfq];by_cases c:j=k
   .rw[Zl c];cases i:hget hp k with
    |none=>rfl
    |some x=>exact absurd (KZq i) (by rw[<-c];exact h.1)
   .rw[Zg c,Zg c]
  .have:Nat.beq j b=false:=by
    cases g:Nat.beq j b with
    |true=>exact absurd (Zi g) e
    |false=>rfl
   simp only[this];rw[zfq,zfq,QEq h.2];by_cases c:j=k
   .rw[Zl c,Zl c,Zg (λf=>e (c.trans f.symm))]
   .rw[Zg c,Zg c]
theorem hdel_sub{b:Nat}:∀{hp:HpW},((ayq hp b).map (·.1)).Sublist (hp.map (·.1))
 |[]=>List.Sublist.refl _
 |(j,z)::hp=>by
  simp only[ayq];split
  .exact List.sublist_cons_self _ _
  .exact hdel_sub.cons_cons _
variable {C:Cfg} {G:Nat->Option W} {R:Res}
theorem GRel.mono(g:GRel C G Γ)(c:Γ.Le Γ'):GRel C G Γ':=λi w d e a b=>RV.mono (Γ:=⟨a,b,Γ.D,Γ.h⟩) (Γ':=⟨a,b,Γ'.D,Γ'.h⟩) ⟨Zb _,λ_ _=>rfl,c.D,c.val⟩ (g i w d e a b)
theorem FRel.mono{b:FrW}{a:Tr V}(g:FRel Γ b a)(e:Γ.Le Γ'):FRel Γ' b a:=λt w h=>by
 obtain⟨v,c,d⟩:=g t w h;exact⟨v,c,d.mono e⟩
theorem uUq{h:Heap}{b:Nat}{d:TypeId}{v:V}(a:h.get b=some (.cells d v)):h.val b=some v:=by simp only[Heap.val,a]
theorem qbq{h a:Heap}{b:Nat}(c:a.get b=h.get b):a.val b=h.val b:=by simp only[Heap.val,c]
def Ctx.push(Γ:Ctx)(B:Blk):Ctx:=⟨Γ.nw+1,λi=>if i=Γ.nw then Γ.h.next else Γ.σ i,Γ.D,Γ.h.push B⟩
theorem Qtq(s:SatH C G Γ hp X R)(B:Blk):Γ.Le (Γ.push B):=
 ⟨YO _,λb a=>by simp only[Ctx.push];rw[Zg Xd],λ_ h=>h,λb a=>qbq (by
  have:=s.dlt b a;simp only[Ctx.push,Heap.get_push];rw[Zg Xd])⟩
theorem v8q(s:SatH C G Γ hp X R){ty:TypeId}{w:W}{v:V}(hv:RV Γ w v):SatH C G (Γ.push (.cells ty v)) ((Γ.nw,ty,w)::hp) X R/\Frm Γ.nw Γ hp X (Γ.push (.cells ty v)) ((Γ.nw,ty,w)::hp) X:=by
 have z:=Qtq s (.cells ty v);have q:∀{b x},hget hp b=some x->b<Γ.nw:=λh=>(s.own _ _ _ h).1
 have d:∀{b x},hget hp b=some x->(Γ.push (.cells ty v)).σ b=Γ.σ b:=λh=>z.σ _ (q h)
 have A:∀{b x},hget hp b=some x->Γ.σ b<Γ.h.next:=λ{b x} h=>by
  obtain⟨_,_,_,u,I,_⟩:=s.own b x.1 x.2 h;rcases ZL (Γ.σ b) Γ.h.next with h|h
  .exact h
  .rw[s.wf _ h] at I;cases I
 constructor
 .refine⟨λi N=>?_,λb M T g=>?_,λb Z x y j B F=>?_,?_,s.dX,λc H=>Nat.lt_succ_of_lt (s.xlt c H),λc H=>Nat.lt_succ_of_lt (s.dlt c H),?_,s.gl.mono z⟩
  .have N:Γ.h.next+1<=i:=N;simp only[Ctx.push,Heap.get_push];rw[Zg Xd];exact s.wf i Xd
  .rw[zfq] at g;split at g
   .rename_i e;cases g;subst e;have E:(Γ.push (.cells ty v)).σ Γ.nw=Γ.h.next:=by simp[Ctx.push]
    rw[E];refine⟨YG _,λU=>Nat.lt_irrefl _ (s.dlt _ U),λj=>Nat.lt_irrefl _ (s.xlt _ j),v,?_,hv.mono z⟩;simp only[Ctx.push,Heap.get_push,if_true]
   .obtain⟨I,h2,Q,u,O,S⟩:=s.own b M T g;rw[d g];refine⟨Nat.lt_succ_of_lt I,h2,Q,u,?_,S.mono z⟩;have:=A g;simp only[Ctx.push,Heap.get_push];rw[Zg Xd];exact O
  .rw[zfq] at j B;split at j<;>split at B
   .rename_i E J;exact E.symm.trans J
   .rename_i E J;subst E;rw[d B] at F;have:=A B;simp[Ctx.push] at F;omega
   .rename_i E J;subst J;rw[d j] at F;have:=A j;simp[Ctx.push] at F;omega
   .rw[d j,d B] at F;exact s.inj b Z x y j B F
  .simp only[ZD,Y1];refine⟨λY=>?_,s.nd⟩
   have K:∀{l:HpW},Γ.nw∈l.map (·.1) ->∃x,hget l Γ.nw=some x:=λ{l}=>by
    induction l with
    |nil=>intro h;simp at h
    |cons p l P=>
     intro h;obtain⟨k,y⟩:=p;rw[zfq];split
     .exact⟨_,rfl⟩
     .rename_i L;simp only[ZD,ZB] at h;rcases h with h|h
      .exact absurd h.symm L
      .exact P h
   obtain⟨x,j⟩:=K Y;exact Nat.lt_irrefl _ (q j)
  .exact R.st _ _ _ _ _ s.res z.D z.val (λc H=>by
    have:=s.xlt c H;simp only[Ctx.push,Heap.get_push];rw[Zg Xd]) (YO _)
 .refine⟨λb g=>z.σ b g,λ_=>YO _,YO _,λc I _ _=>?_,λ_ h=>h,λ_ h=>.inl h,λb x g h=>?_,λb x g h=>?_,λ_ h=>.inl h,λk h _ _=>h⟩
  .simp only[Ctx.push,Heap.get_push];rw[Zg Xd]
  .rw[zfq,Zg Xd] at h;exact⟨x,h⟩
  .rw[zfq] at h;split at h
   .rename_i e;subst e;exact .inl (by simp[Ctx.push])
   .have:=q h;omega
def Ctx.put(Γ:Ctx)(b:Nat)(B:Blk):Ctx:={Γ with h:=Γ.h.put (Γ.σ b) B}
theorem gvq{S:Nat->Prop}{a i:Nat}(c:S a)(b:S i):S (wmn a i):=by
 unfold wmn;split<;>assumption
theorem bxq(s:SatH C G Γ hp X R){b:Nat}{x:TypeId×W}(a:hget hp b=some x)(B:Blk):Γ.Le (Γ.put b B):=
 ⟨Zb _,λ_ _=>rfl,λ_ h=>h,λc d=>qbq (by
  simp only[Ctx.put,Heap.get_put];rw[Zg λe:c=Γ.σ b=>by subst e;exact(s.own b x.1 x.2 a).2.1 d])⟩
theorem KAq(s:SatH C G Γ hp X R){b:Nat}{x:TypeId×W}{ty:TypeId}{w:W}{v:V}(g:hget hp b=some x)(hv:RV Γ w v):SatH C G (Γ.put b (.cells ty v)) (apq hp b (ty,w)) X R/\Frm Γ.nw Γ hp X (Γ.put b (.cells ty v)) (apq hp b (ty,w)) X:=by
 have q:=bxq s g (.cells ty v);obtain⟨U,Q,M,u,q4,q5⟩:=s.own b x.1 x.2 g
 have d:∀{k y},hget (apq hp b (ty,w)) k=some y->∃z,hget hp k=some z:=λ{k y} h=>by
  rw[kNq g] at h;split at h
  .rename_i e;exact⟨x,e▸g⟩
  .exact⟨y,h⟩
 constructor
 .refine⟨λi B=>?_,λk K T j=>?_,λk Z y z O F Y=>?_,by rw[Zkq];exact s.nd,s.dX,s.xlt,s.dlt,?_,s.gl.mono q⟩
  .simp only[Ctx.put,Heap.get_put];rw[Zg λe=>by rw[e] at B;have:=s.wf _ B;rw[q4] at this;cases this];exact s.wf i B
  .rw[kNq g] at j;split at j
   .rename_i e;subst e;cases j;refine⟨U,Q,M,v,?_,hv.mono q⟩;simp only[Ctx.put,Heap.get_put,if_true]
   .rename_i I;obtain⟨A,L,E,u',N,S⟩:=s.own k K T j;refine⟨A,L,E,u',?_,S.mono q⟩;simp only[Ctx.put,Heap.get_put];rw[Zg λe=>I (s.inj b k _ _ g j e.symm)];exact N
  .obtain⟨y',J⟩:=d O;obtain⟨z',H⟩:=d F;exact s.inj k Z _ _ J H Y
  .exact R.st _ _ _ _ _ s.res q.D q.val (λc P=>by
    simp only[Ctx.put,Heap.get_put];rw[Zg λe:c=Γ.σ b=>by subst e;exact M P]) (Zb _)
 .refine⟨λ_ _=>rfl,λh=>h,Zb _,λc A L _=>?_,λ_ h=>h,λ_ h=>.inl h,λk y _ h=>d h,λk y j h=>by obtain⟨z,F⟩:=d h;have:=(s.own _ _ _ F).1;omega,λ_ h=>.inl h,λk A _ E=>?_⟩
  .simp only[Ctx.put,Heap.get_put];rw[Zg λe=>L ⟨b,x,g,e.symm⟩]
  .exact gvq A (E _ (.inl ⟨b,x,g,rfl⟩))
theorem KXq(s:SatH C G Γ hp X R){b:Nat}{x:TypeId×W}(q:hget hp b=some x):Γ.Le {Γ with h:=Γ.h.kill (Γ.σ b)}/\SatH C G {Γ with h:=Γ.h.kill (Γ.σ b)} (ayq hp b) X R/\Frm Γ.nw Γ hp X {Γ with h:=Γ.h.kill (Γ.σ b)} (ayq hp b) X:=by
 obtain⟨U,K,O,u,V,T⟩:=s.own b x.1 x.2 q
 have g:Γ.Le {Γ with h:=Γ.h.kill (Γ.σ b)}:=⟨Zb _,λ_ _=>rfl,λ_ h=>h,λc w=>qbq (by
  simp only[Heap.get_kill];rw[Zg λe:c=Γ.σ b=>by subst e;exact K w])⟩
 have d:∀{k y},hget (ayq hp b) k=some y->b≠k/\hget hp k=some y:=λ{k y} h=>by
  rw[QEq s.nd] at h;split at h
  .cases h
  .rename_i e;exact⟨e,h⟩
 refine⟨g,⟨λi J=>?_,λk E N j=>?_,λk Q y z I M P=>s.inj k Q _ _ (d I).2 (d M).2 P,s.nd.sublist hdel_sub,s.dX,s.xlt,s.dlt,?_,s.gl.mono g⟩,?_⟩
 .simp only[Heap.get_kill];split
  .rfl
  .exact s.wf i J
 .obtain⟨B,j⟩:=d j;obtain⟨v,F,A,S,H,L⟩:=s.own k E N j;refine⟨v,F,A,S,?_,L.mono g⟩;simp only[Heap.get_kill];rw[Zg λe=>B (s.inj b k _ _ q j e.symm)];exact H
 .exact R.st _ _ _ _ _ s.res g.D g.val (λc w=>by
   simp only[Heap.get_kill];rw[Zg λe:c=Γ.σ b=>by subst e;exact O w]) (Zb _)
 .refine⟨λ_ _=>rfl,λh=>h,Zb _,λc v F _=>?_,λ_ h=>h,λ_ h=>.inl h,λk y _ h=>⟨y,(d h).2⟩,λk y j h=>by have:=(s.own _ _ _ (d h).2).1;omega,λ_ h=>.inl h,λk v _ A=>?_⟩
  .simp only[Heap.get_kill];rw[Zg λe=>F ⟨b,x,q,e.symm⟩]
  .exact gvq v (A _ (.inl ⟨b,x,q,rfl⟩))
end
def EvR(f:Ctx)(j:HpW):EvW->Ev->Prop
 |.loadO b,e=>∃x,hget j b=some x/\e= .load (f.σ b)
 |.loadF,e=>∃c,f.D c/\e= .load c
 |.storeO b,e=>∃x,hget j b=some x/\e= .store (f.σ b)
 |.gen,e=>e= .gen\/∃c,e= .load c
 |.dirty,_=>True
 |.updO b,e=>e= .gen\/∃x,hget j b=some x/\e= .upd (f.σ b)
 |.mkO b,e=>b=f.nw/\e= .mk f.h.next
structure Out(C:Cfg)(G:Nat->Option W)(X:Nat->Prop)(R:Res)(Γ:Ctx)(hp:HpW)(v:V)(h':Heap)(w:W)(hp':HpW)(nw':Nat)(Γ':Ctx):Prop where
 hh:Γ'.h=h'
 nw:Γ'.nw=nw'
 le:Γ.Le Γ'
 sat:SatH C G Γ' hp' X R
 frm:Frm Γ.nw Γ hp X Γ' hp' X
 val:RV Γ' w v
section
variable {Γ:Ctx} {hp:HpW} {X:Nat->Prop} {C:Cfg} {G:Nat->Option W} {R:Res} {fr:FrW} {frv:Tr V}
theorem Out.same(s:SatH C G Γ hp X R){v:V}{w:W}(h:RV Γ w v):Out C G X R Γ hp v Γ.h w hp Γ.nw Γ:=⟨rfl,rfl,Ctx.Le.refl _,s,Frm.refl _ _ _ _,h⟩
theorem Out.new(s:SatH C G Γ hp X R){a:TypeId}{w u:W}{v z:V}(b:RV Γ w v)(d:RV (Γ.push (.cells a v)) u z):Out C G X R Γ hp z (Γ.h.push (.cells a v)) u ((Γ.nw,a,w)::hp) (Γ.nw+1) (Γ.push (.cells a v)):=
 ⟨rfl,rfl,Qtq s _,(v8q s b).1,(v8q s b).2,d⟩
theorem hLq{B:Blk}:(Γ.push B).σ Γ.nw=Γ.h.next:=by simp[Ctx.push]
theorem lZq{B:Blk}:RV (Γ.push B) (.ptr Γ.nw 0) (.ptr Γ.h.next 0):=RV_ptr.2 ⟨YG _,by rw[hLq]⟩
theorem Ybq{B:Blk}{n e:Nat}:RV (Γ.push B) (.sl Γ.nw 0 0 n e none) (.sl Γ.h.next 0 0 n e none):=RV_sl.2 ⟨YG _,by rw[hLq]⟩
theorem hFq{z:W}{c:V}{e n:Nat}(d:RV Γ z c)(b:z.size=e):RV Γ (w9q n e z) (maq n e c):=by
 have f:∀n,RSL Γ (List.replicate n z) (yaq e (List.replicate n c)):=λn=>by
  induction n with
  |zero=>simp[RSL,yaq]
  |succ n i=>
   rw[List.replicate_succ,List.replicate_succ,yaq,yqq (by rw[y8q,d.size,b])];exact qtq d.2 i
 have g:=kXq (f n)
 have h:l8q (List.replicate n z)=n*e:=by
  rw[xaq (e:=e) λx a=>by rw[(List.mem_replicate.1 a).2,b],Z8]
 refine⟨rfl,?_⟩;simp only[w9q,maq,RS,zmq];rw[yqq (by rw[g,h])];exact⟨by rw[g,h],λx a=>by rw[(List.mem_replicate.1 a).2,b],f n⟩
theorem b6q(f:FRel Γ fr frv)(g:GRel C G Γ){e:Nat}:∀{l:List (Nat×Operand)} {z w:W} {b:V},RV Γ z b->b7q C G fr e z l=some w->∃v,Jtq C frv e b l=some v/\RV Γ w v
 |[],_,_,b,hz,h=>by simp only[b7q] at h;cases h;exact⟨b,rfl,hz⟩
 | (i,x)::l,z,w,b,hz,h=>by
  simp only[b7q] at h;split at h
  .rename_i y p;obtain⟨D,q,j⟩:=zXq f g p;split at h
   .rename_i o;split at h
    .rename_i E d;obtain⟨B,u,k,_⟩:=cRq hz j d;obtain⟨v,A,t⟩:=b6q f g k h;refine⟨v,?_,t⟩;simp only[Jtq,q,j.size,o,u];exact A
    .cases h
   .cases h
  .cases h
theorem YOq{e:Nat}:∀{l:List W} {j:List V} {b:Nat} {z w:W} {g:V},RV Γ z g->Els Γ e l j->v7q z b e l=some w->∃v,mbq g b e j=some v/\RV Γ w v
 |[],j,_,_,_,g,hz,hl,h=>by
  have:j=[]:=ZZ.1 hl.len;subst this;simp only[v7q] at h;cases h
  exact⟨g,rfl,hz⟩
 | x ::l,j,b,z,w,g,hz,hl,h=>by
  obtain⟨u,P,rfl,S,E,L,I⟩:=hl.cons;simp only[v7q] at h;split at h
  .rename_i k;simp only[Zd,ZH] at k;obtain⟨k,A⟩:=k;split at h
   .rename_i K B
    --the element's shape may differ:only its cells count
    obtain⟨Y,k2,O,J,k5,Z⟩:=xQq (Γ:=Γ) 50 B hz.2 S;have p:g.isAgg=z.isAgg:=hz.1.symm;have Q:Nat.ble (b+u.size) g.size=true:=Zn (by rw[E,hz.size,<-k];omega);have H:(u.leaf||u.isAgg)=true:=by simpa using L
    have:∃y,ueq 50 g b u=some y:=by
     unfold ueq;split
     .exact⟨_,rfl⟩
     .unfold Z3q;rw[show(g.isAgg&&(u.leaf||u.isAgg)&&Nat.ble (b+u.size) g.size)=true by rw[p,A,H,Q];rfl];exact⟨_,rfl⟩
    obtain⟨y,q⟩:=this;obtain⟨j1,U,M,N⟩:=JIq q;have D:RV Γ K y:=⟨by rw[J,N,p],by rw[M,E,<-k];exact O⟩;obtain⟨v,F,T⟩:=YOq D I h;refine⟨v,?_,T⟩;simp only[mbq,E,show Nat.beq e e=true by simp,q];exact F
   .cases h
  .cases h
theorem lCq(s:List UInt8):Els Γ 1 (zcq s) (qpq s):=by
 refine⟨by simp[zcq,qpq],λx a=>?_,λu b=>?_,?_⟩
 .simp only[zcq,Z2] at a;obtain⟨c,_,rfl⟩:=a;rfl
 .simp only[qpq,Z2] at b;obtain⟨c,_,rfl⟩:=b;exact⟨rfl,.inl rfl⟩
 .induction s with
  |nil=>simp[zcq,qpq,RSL,yaq]
  |cons c s e=>
   simp only[zcq,qpq,ZD,yaq];exact qtq (by simp[RS,zmq,awq]) e
theorem jeq(s:SatH C G Γ hp X R){b:Nat}{x:TypeId×W}(d:hget hp b=some x):∃v,Γ.h.get (Γ.σ b)=some (.cells x.1 v)/\Γ.h.val (Γ.σ b)=some v/\RV Γ x.2 v:=by
 obtain⟨_,_,_,v,a,f⟩:=s.own b x.1 x.2 d;exact⟨v,a,uUq a,f⟩
theorem cOq(s:SatH C G Γ hp X R){E:TypeId}{k:Nat}{x:W}{F:V}{l:List W}(o:RV Γ x F)(h:aNq C hp E k x=some l):∃p,giq C Γ.h E k F=some p/\Els Γ k l p:=by
 unfold aNq at h;unfold giq;split at h
 .cases h
 .rename_i j I;rw[I];simp only;split at h
  .rename_i e g;cases h;rw[RV_nils] at o;subst o
   rw[g];exact⟨[],rfl,Els.nil _⟩
  .rename_i e O w H g;rw[g];split at h
   .rename_i d;cases h;rw[ZH] at d;subst d
    rcases k0q o with ⟨rfl,rfl⟩|⟨b,q,A,z,bv,p,rfl,D,J,B,g4,g5,g6,g7,g8,g9⟩
    .exact⟨[],rfl,Els.nil _⟩
    .refine⟨p,?_,g9⟩;simp only[show Nat.beq w w=true by simp,B];exact g8
   .cases h
  .rename_i e b q A n w z g;rw[g];obtain⟨P,rfl⟩:=RV_sl.1 o;split at h
   .rename_i N v d K;obtain⟨u,Q,M,L⟩:=jeq s K;obtain⟨p,D,J,B⟩:=vqq L h;refine⟨p,?_,B⟩;simp only[d,M];exact D
   .cases h
  .rename_i y g;rw[RV_str] at o;subst o
   rw[g];split at h
   .rename_i d;cases h;simp only[d];rw[ZH] at d;subst d
    exact⟨_,rfl,lCq y⟩
   .cases h
  .cases h
theorem lSq(s:SatH C G Γ hp X R){ts tx:TypeId}{x y:W}{x' y':V}{w:W}{hp':HpW}{nw':Nat}{ev:EvW}(U:RV Γ x x')(hy:RV Γ y y')(h:ckq C hp Γ.nw ts tx x y=some (w,hp',nw',ev)):
  ∃v h' Γ',kVq C Γ.h ts tx x' y'=some (v,h')/\Out C G X R Γ hp v h' w hp' nw' Γ'/\(ev= .gen/\h'.wmin=Γ.h.wmin\/∃b H M A esz N z,x= .sl b H M A esz N/\ev= .updO b/\hget hp b=some z):=by
 unfold ckq at h;unfold kVq;split at h
 .cases h
 .rename_i j hj;rw[hj];simp only;split at h
  .rename_i e hd;rw[hd];simp only;split at h
   .cases h
   .rename_i k hk;rw[hk];simp only;split at h
    .cases h
    .rename_i hz;rw[hz];simp only;split at h
     .cases h
     .rename_i news hn;obtain⟨F,h1,S⟩:=cOq s hy hn;rw[h1];simp only;have o:=S.len;split at h
      .rw[RV_nils] at U;subst U
       simp only;split at h
       .cases h;have:F=[]:=ZZ.1 o;subst this;exact⟨_,_,Γ,rfl,Out.same s (RV_nils.2 rfl),.inl ⟨by first|rfl|trivial,rfl⟩⟩
       .rename_i a l;cases F with
        |nil=>simp at o
        |cons u F=>
         simp only;split at h
         .rename_i hb;cases h;rw[o,hb];simp only;have I:=S.arr;rw[o] at I;exact⟨_,_,_,rfl,Out.new s I Ybq,.inl ⟨by first|rfl|trivial,rfl⟩⟩
         .cases h
      .rename_i l esz full;split at h
       .cases h
       .rename_i Q;cases h;have:F=[]:=ZZ.1 o;subst this;rcases k0q U with ⟨rfl,rfl⟩|⟨b,H,M,N,bv,q,rfl,_⟩
        .exact⟨_,_,Γ,rfl,Out.same s (RV.of_one (by simp[RS]) Y Y),.inl ⟨by first|rfl|trivial,rfl⟩⟩
        .simp only[Q];exact⟨_,_,Γ,rfl,Out.same s U,.inl ⟨by first|rfl|trivial,rfl⟩⟩
       .rename_i a f Q;cases F with
        |nil=>simp at o
        |cons u F=>
         split at h
         .rename_i hb;cases h;simp only[Zd] at hb;obtain⟨⟨Z,hb2⟩,hfull⟩:=hb;have he':=Zi Q;subst he';rcases k0q U with ⟨rfl,rfl⟩|⟨b,H,M,N,bv,q,rfl,g1,g2,g3,g4,g5,g6,g7,g8,g9⟩
          .simp only[ZP,ZG,YX] at Z hb2⊢;rw[o,Z,hb2];have I:=S.arr;rw[o] at I;exact⟨_,_,_,rfl,Out.new s I Ybq,.inl ⟨by first|rfl|trivial,rfl⟩⟩
          .simp only[Q];rw[o,Z,hb2];simp only[Bool.and_self];rw[g1 hfull];simp only
           have hnb:Nat.ble (l.length+(a::f).length) l.length=false:=by
            cases hq:Nat.ble (l.length+(a::f).length) l.length with
            |true=>have:=Yb hq;simp only[Zo] at this;omega
            |false=>rfl
           rw[hnb];simp only[g3,g8];have I:=(g9.append S).arr;rw[show(q++u::F).length=l.length+(a::f).length by rw[Zh,g9.len,o],show(l++a::f).length=l.length+(a::f).length by rw[Zh]] at I;exact⟨_,_,_,rfl,Out.new s I Ybq,.inl ⟨by first|rfl|trivial,rfl⟩⟩
         .cases h
      .rename_i b H M A esz N;obtain⟨hbn,rfl⟩:=RV_sl.1 U;simp only;split at h
       .cases h
       .rename_i Q;cases h;have:F=[]:=ZZ.1 o;subst this;simp only[Q];exact⟨_,_,Γ,rfl,Out.same s U,.inl ⟨by first|rfl|trivial,rfl⟩⟩
       .rename_i a f Q;cases F with
        |nil=>simp at o
        | cons u F=>
         have he':=Zi Q;subst he';simp only[show Nat.beq k.size k.size=true by simp];split at h
         .rename_i L v hb B;obtain⟨bv,q1,q2,q3⟩:=jeq s B;rw[o,hb];simp only;split at h
          .rename_i c;simp only;split at h
           .rename_i hc;rw[hc];simp only[q1];rw[q3.size];split at h
            .rename_i J;rw[J];simp only;split at h
             .rename_i v' hv';cases h;obtain⟨pv,T,P⟩:=YOq q3 S hv';rw[T];have hs:=KAq s B (ty:=L) P;have le:=bxq s B (.cells L pv);exact⟨_,_,Γ.put b (.cells L pv),rfl,⟨rfl,rfl,le,hs.1,hs.2,RV_sl.2 ⟨hbn,rfl⟩⟩,.inr ⟨_,_,_,_,_,_,_,rfl,rfl,B⟩⟩
             .cases h
            .cases h
           .rename_i hc;rw[hc];simp only[q2];split at h
            .rename_i q ho;cases h;obtain⟨os,T,P,p3⟩:=vqq q3 ho;rw[T];have I:=(p3.append S).arr;rw[show(os++u::F).length=A+(a::f).length by rw[Zh,p3.len,P,o],show(q++a::f).length=A+(a::f).length by rw[Zh,P]] at I;exact⟨_,_,_,rfl,Out.new s I Ybq,.inl ⟨by first|rfl|trivial,rfl⟩⟩
            .cases h
          .simp only[q1];rw[q3.size];split at h
           .rename_i J;rw[J];simp only;split at h
            .rename_i v' hv';cases h;obtain⟨pv,T,P⟩:=YOq q3 S hv';rw[T];have hs:=KAq s B (ty:=L) P;have le:=bxq s B (.cells L pv);exact⟨_,_,Γ.put b (.cells L pv),rfl,⟨rfl,rfl,le,hs.1,hs.2,RV_sl.2 ⟨hbn,rfl⟩⟩,.inr ⟨_,_,_,_,_,_,_,rfl,rfl,B⟩⟩
            .cases h
           .rename_i J;rw[J];simp only;split at h
            .rename_i q hty ho;cases h;obtain⟨os,T,P,p3⟩:=vqq q3 ho;rw[hty,T];simp only;have I:=(p3.append S).arr;rw[show(os++u::F).length=A+(a::f).length by rw[Zh,p3.len,P,o],show(q++a::f).length=A+(a::f).length by rw[Zh,P]] at I
             --the new block first,then the old one is let go
             have n1:=v8q s (ty:=e) I;have E:=Qtq s (.cells e (.arr ((A+(a::f).length)*k.size) k.size (os++u::F)))
             have hgb':hget ((Γ.nw,e,W.arr ((A+(a::f).length)*k.size) k.size (q++a::f))::hp) b=some (L,v):=by
              rw[zfq,Zg Xd];exact B
             obtain⟨K,n2,f2⟩:=KXq n1.1 hgb';have hσ:(Γ.push (.cells e (.arr ((A+(a::f).length)*k.size) k.size (os++u::F)))).σ b=Γ.σ b:=E.σ b hbn
             have hdl:ayq ((Γ.nw,e,W.arr ((A+(a::f).length)*k.size) k.size (q++a::f))::hp) b=(Γ.nw,e,W.arr ((A+(a::f).length)*k.size) k.size (q++a::f))::ayq hp b:=by
              have:Nat.beq Γ.nw b=false:=by
               cases hq:Nat.beq Γ.nw b with
               |true=>have:=Zi hq;omega
               |false=>rfl
              simp only[ayq,this]
             rw[hdl,hσ] at n2 f2;rw[hσ] at K;refine⟨_,_,_,rfl,⟨rfl,rfl,⟨Zt E.nw K.nw,λi hi=>(K.σ i (Zv hi E.nw)).trans (E.σ i hi),λi hi=>K.D i (E.D i hi),λi hi=>(K.val i (E.D i hi)).trans (E.val i hi)⟩,n2,n1.2.trans (f2.le (m':=Γ.nw) (YO _) (Zb _)),?_⟩,.inr ⟨_,_,_,_,_,_,_,rfl,rfl,B⟩⟩;exact RV_sl.2 ⟨YG _,by simp[Ctx.push]⟩
            .cases h
         .cases h
      .cases h
  .cases h
theorem QLq:∀{l:List W} {s:List V} {r:List UInt8},x6q l=some r->RSL Γ l s->bytesOf s=some r
 |[],s,r,h,hs=>by
  simp only[x6q] at h;cases h
  simp only[RSL] at hs;subst hs;rfl
 |x::l,s,r,h,hs=>by
  unfold x6q at h;split at h
  .rename_i e;cases e
  .rename_i c k e;cases e;obtain⟨a,b,rfl,d,g⟩:=jmq hs;simp only[RS] at d;subst d;split at h
   .rename_i o f j;cases h;have:=QLq j g;simp only[List.singleton_append,bytesOf,f,this]
   .cases h
  .cases h
theorem c8q(I:FRel Γ fr frv)(s:SatH C G Γ hp X R){rt:TypeId}{o:Op}{w:W}{hp':HpW}{nw':Nat}{ev:EvW}(h:aDq C G fr hp Γ.nw o=some (w,hp',nw',ev)):
  ∃v h' Γ',ylq C frv rt o=none/\opH C frv Γ.h o=some (v,h')/\Out C G X R Γ hp v h' w hp' nw' Γ'/\(∀H1:Heap,H1.next=Γ.h.next->(Γ.h.wmin=Γ.h.next/\H1.tr=Γ.h.tr) ->EvR Γ hp ev (auq C frv H1 h' o)):=by
 have H:=s.gl;unfold aDq at h;split at h
 ·-- convert
  rename_i t1 t2 x;unfold A3q at h;split at h
  .rename_i js jt u hjs hjt Z;obtain⟨v,B,E⟩:=zXq I H Z;simp only[ylq,zTq,opH,zzq,hjs,hjt,B];split at h
   .rename_i e hd1 hd2;rw[hd1,hd2]
    have L:∀H1:Heap,H1.next=Γ.h.next->(Γ.h.wmin=Γ.h.next/\H1.tr=Γ.h.tr) ->auq C frv H1 Γ.h (.convert t1 t2 x)= .gen:=λH1 D F=>by
     simp only[auq];rw[F.1,D,Zn (Zb _)]
    split at h
    .rename_i S;cases h;rw[RV_nils] at E;subst E
     refine⟨_,_,Γ,rfl,by simp only[S],Out.same s (RV_str.2 rfl),λH1 D F=>.inl (L H1 D F)⟩
    .rename_i l esz full S;split at h
     .rename_i he;split at h
      .rename_i r Q;cases h;rcases k0q E with ⟨rfl,rfl⟩|⟨b,M,q,lim,bv,us,rfl,g1,g2,g3,g4,g5,g6,g7,g8,g9⟩
       .simp only[x6q] at Q;cases Q
        exact⟨_,_,Γ,rfl,by simp only[S],Out.same s (RV_str.2 rfl),λH1 D F=>.inl (L H1 D F)⟩
       .have he':=Zi he;subst he';have hb:=QLq Q g9.rs;exact⟨_,_,Γ,rfl,by simp only[S,show Nat.beq 1 1=true by rfl,g3,g8,hb],Out.same s (RV_str.2 rfl),λH1 D F=>.inl (L H1 D F)⟩
      .cases h
     .cases h
    .rename_i b M q n esz lim S;obtain⟨hbn,rfl⟩:=RV_sl.1 E;split at h
     .rename_i T bv he A;have he':=Zi he;subst he';obtain⟨u,q1,q2,Y⟩:=jeq s A;split at h
      .rename_i l hl;split at h
       .rename_i r Q;cases h;obtain⟨us,J,P,p3⟩:=vqq Y hl;have hb:=QLq Q p3.rs;exact⟨_,_,Γ,rfl,by simp only[S,show Nat.beq 1 1=true by rfl,q2,J,hb],Out.same s (RV_str.2 rfl),λH1 D F=>.inl (L H1 D F)⟩
       .cases h
      .cases h
     .cases h
    .cases h
   .cases h
  .cases h
 ·--load
  rename_i t x;unfold s5q at h;split at h
  .rename_i b q i hx U;obtain⟨v,B,E⟩:=zXq I H hx;obtain⟨hbn,rfl⟩:=RV_ptr.1 E;split at h
   .rename_i T bv A;obtain⟨u,q1,q2,Y⟩:=jeq s A;split at h
    .rename_i r Q;cases h;obtain⟨y,J,P,_⟩:=ulq Y Q;refine⟨y,_,Γ,rfl,by simp only[opH,ywq,B,U,q2,J],Out.same s P,λH1 D F=>⟨_,A,?_⟩⟩;simp only[auq,B]
    .cases h
   .cases h
  .rename_i z i hx U;obtain⟨v,B,E⟩:=zXq I H hx;obtain⟨b,q,bv,rfl,g1,g2,g3,g4,g5,g6⟩:=xbq E;split at h
   .rename_i r Q;cases h;obtain⟨y,J,P⟩:=olq Q g3 g4 g5 g6;refine⟨y,_,Γ,rfl,by simp only[opH,ywq,B,U,g2,J],Out.same s P,λH1 D F=>⟨b,g1,?_⟩⟩;simp only[auq,B]
   .cases h
  .cases h
 ·--store
  rename_i t x y;unfold iRq at h;split at h
  .rename_i b q u i hx hy U;obtain⟨v,B,E⟩:=zXq I H hx;obtain⟨hbn,rfl⟩:=RV_ptr.1 E;obtain⟨u',h3,h4⟩:=zXq I H hy;split at h
   .rename_i T bv A hs;obtain⟨uv,q1,q2,Y⟩:=jeq s A;split at h
    .rename_i w' hw';cases h;obtain⟨v',J,P,_⟩:=cRq Y h4 hw';have hst:=KAq s A (ty:=T) P;have le:=bxq s A (.cells T v');refine⟨.undef,_,Γ.put b (.cells T v'),rfl,by simp only[opH,z8q,B,h3,U,q1,h4.size,hs,J];rfl,⟨rfl,rfl,le,hst.1,hst.2,RV_undef.2 rfl⟩,λH1 D F=>⟨_,A,?_⟩⟩;simp only[auq,B]
    .cases h
   .cases h
  .cases h
 ·--alloc
  rename_i t;unfold pSq at h;split at h
  .rename_i i U;split at h
   .rename_i z hz;cases h;refine⟨_,_,_,rfl,by simp only[opH,z9q,U],Out.new s (x3q hz) lZq,λH1 D F=>?_⟩;refine .inl ?_;simp only[auq,Heap.push,D,F];rw[Zn (Zb _)]
   .cases h
  .cases h
 ·-- box
  rename_i t x;unfold Ebq at h;split at h
  .rename_i u Z;obtain⟨v,B,E⟩:=zXq I H Z;split at h
   .rename_i hl;cases h
    have hl':(v.leaf||v.isAgg)=true:=by
     rw[<-E.1];cases ha:u.isAgg with
     |true=>simp
     |false=>
      rw[ha,Bool.or_false] at hl;rw[E.leaf hl];rfl
    refine⟨_,_,_,rfl,by simp only[opH,qwq,B,hl'],Out.new s E lZq,λH1 D F=>?_⟩;refine .inl ?_;simp only[auq,Heap.push,D,F];rw[Zn (Zb _)]
   .cases h
  .cases h
 ·-- buildSlice
  rename_i t n parts;unfold iTq at h;split at h
  .rename_i i U;split at h
   .rename_i e hd;split at h
    .rename_i k hk;split at h
     .rename_i z hz1 hz;split at h
      .rename_i w' K hw';cases h;have hzs:=(x3q (Γ:=Γ) hz);rw[ZH] at K;obtain⟨v,J,P⟩:=b6q I H (hFq (n:=n) hzs K) hw';refine⟨_,_,_,rfl,by simp only[opH,zkq,U,hd,hk,hz1,J],Out.new s P Ybq,λH1 D F=>⟨rfl,by simp only[auq,D]⟩⟩
      .cases h
     .cases h
    .cases h
   .cases h
  .cases h
 ·-- makeSlice
  rename_i t x y;unfold iSq at h;split at h
  .rename_i i u v U Z hv;obtain⟨u',B,E⟩:=zXq I H Z;obtain⟨v',h3,h4⟩:=zXq I H hv;split at h
   .rename_i e l c hd hl hc;split at h
    .rename_i k hk;split at h
     .rename_i z hz1 hz;split at h
      .rename_i K;cases h;have hzs:=(x3q (Γ:=Γ) hz);rw[ZH] at K;refine⟨_,_,_,rfl,by simp only[opH,zsq,U,B,h3,hd,xWq E hl,xWq h4 hc,hk,hz1],Out.new s (hFq hzs K) Ybq,λH1 D F=>?_⟩;refine .inl ?_;simp only[auq,Heap.push,D,F];rw[Zn (Zb _)]
      .cases h
     .cases h
    .cases h
   .cases h
  .cases h
 ·-- append
  rename_i args ats;unfold doq at h;split at h
  .rename_i x y ts tx ha ht;split at h
   .rename_i sx u hs Z;obtain⟨s',B,E⟩:=zXq I H hs;obtain⟨u',h3,h4⟩:=zXq I H Z;obtain⟨v,h',Γ',J,P,p3⟩:=lSq s E h4 h;refine⟨v,h',Γ',rfl,by simp only[opH,zNq,ha,ht,B,h3];exact J,P,λH1 D F=>?_⟩;rcases p3 with ⟨rfl,p3⟩|⟨b,M,q,len,esz,lim,z,rfl,rfl,hz⟩
    .refine .inl ?_;simp only[auq,D,p3,F];rw[Zn (Zb _)]
    .obtain⟨_,rfl⟩:=RV_sl.1 E
     show EvR Γ hp (.updO b) (match Nat.ble H1.next h'.wmin with
      |true=>.gen
      |false=>match args.toList with
       |[x,_]=>match evV C frv x with
        |some (.sl b _ _ _ _ _)=>.upd b
        |_=>.dirty
       |_=>.dirty)
     cases Nat.ble H1.next h'.wmin with
     |true=>exact .inl rfl
     |false=>exact .inr ⟨z,hz,by rw[ha];simp only[B]⟩
   .cases h
  .cases h
 ·-- copy
  rename_i args ats;unfold s6q at h;split at h
  .rename_i x y ts tx ha ht;split at h
   .rename_i b M q len esz lim u j hs Z hj;obtain⟨s',B,E⟩:=zXq I H hs;obtain⟨hbn,rfl⟩:=RV_sl.1 E;obtain⟨u',h3,h4⟩:=zXq I H Z;split at h
    .rename_i e hd;split at h
     .rename_i k hk;split at h
      .rename_i all hall;obtain⟨us,q1,q2⟩:=cOq s h4 hall;split at h
       .rename_i y' ys T v K hta A;obtain⟨pv,r1,r2,r3⟩:=jeq s A;have Y:=q2.take len;rw[hta] at Y;obtain⟨z,zs,hz,_,_,_,q5⟩:=Y.cons;rw[hz] at Y;have hlz:zs.length=ys.length:=q5.len;split at h
        .rename_i hle;split at h
         .rename_i v' hv';cases h;rw[ZH] at K;subst K;obtain⟨pv',J,P⟩:=YOq r3 Y hv';have hs:=KAq s A (ty:=T) P;have le:=bxq s A (.cells T pv');have hb:Nat.beq k.size k.size=true:=Y0 _;have hle':Nat.ble (q+(zs.length+1)*k.size) pv.size=true:=by rw[hlz,r3.size];exact hle
          exact⟨_,_,Γ.put b (.cells T pv'),rfl,by simp only[opH,yzq,ha,ht,B,h3,f7q,hj,hd,hk,q1,hz,hb,r1,hle',J];rfl,⟨rfl,rfl,le,hs.1,hs.2,RV_int.2 (by rw[hlz])⟩,λ_ _ _=>trivial⟩
         .cases h
        .cases h
       .cases h
      .cases h
     .cases h
    .cases h
   .cases h
  .cases h
 ·-- slice
  rename_i t x lo U mx;unfold pRq at h;split at h
  .rename_i j u hj Z;obtain⟨v,B,E⟩:=zXq I H Z;split at h
   .rename_i n e b q hd;obtain⟨hbn,rfl⟩:=RV_ptr.1 E;split at h
    .rename_i k l r T bv hk hl Q A;obtain⟨bv',q1,q2,Y⟩:=jeq s A;split at h
     .cases h
     .rename_i hc;cases h;have hc':(Nat.beq k.size 0||!Nat.ble l r||!Nat.ble r n||!Nat.ble (q+n*k.size) bv'.size)=false:=by rw[Y.size];exact hc
      refine⟨_,_,Γ,by simp only[ylq,yuq,hj,B,hd],by simp only[opH,z4q,hj,B,hd,hk,q2q I H hl,q2q I H Q,q2,hc'],Out.same s (RV_sl.2 ⟨hbn,rfl⟩),λH1 D F=>?_⟩;exact⟨_,A,by simp only[auq,B]⟩
    .cases h
   .rename_i n e y hd;obtain⟨b,q,bv,rfl,g1,g2,g3,g4,g5,g6⟩:=xbq E;split at h
    .rename_i k l r hk hl Q;split at h
     .cases h
     .rename_i hc;split at h
      .rename_i xs hxs;cases h;simp only[Bool.or_eq_false_iff,Bool.not_eq_false'] at hc;obtain⟨⟨⟨c1,c2⟩,c3⟩,c4⟩:=hc;have l2:=Yb c2;have l3:=Yb c3;have l4:=Yb c4;obtain⟨J,P,p3,p4,p5⟩:=jhq (Γ:=Γ) 50 hxs g6
       have hc':(Nat.beq k.size 0||!Nat.ble l r||!Nat.ble r n||!Nat.ble (q+n*k.size) bv.size)=false:=by
        rw[c1,c2,c3,Zn (show q+n*k.size<=bv.size by omega)];rfl
       refine⟨.sl b q (q+l*k.size) (r-l) k.size (some (n-l)),_,Γ,by simp only[ylq,yuq,hj,B,hd],by simp only[opH,z4q,hj,B,hd,hk,q2q I H hl,q2q I H Q,g2,hc'],Out.same s ?_,λH1 D F=>?_⟩
       .have hb:l*k.size+(r-l)*k.size<=y.size:=P
        have:=o6q (Γ:=Γ) (l:=xs) (e:=k.size) (full:=Nat.beq r n) (base:=q) (off:=q+l*k.size) (lim:=some (n-l)) (λhfull=>by rw[ZH] at hfull;rw[J,hfull]) g1 g2 (g4 p5) (by rw[J];omega) p3 (by
         rw[List.drop_take,YB,YP,YL Xd] at p4;rw[J];exact p4)
        rw[J] at this;exact this
       .refine .inr ?_;simp only[auq,B];exact⟨_,rfl⟩
      .cases h
    .cases h
   .cases h
  .cases h
 .cases h
end
structure SelfLe(S S':Self):Prop where
 fn:∀f vs h r,S.fn f vs h=some r->S'.fn f vs h=some r
 yield:∀l vs h r,S.yield l vs h=some r->S'.yield l vs h=some r
structure FlowLe(F F':Flow):Prop where
 loop:∀c st r,F.loop c st=some r->F'.loop c st=some r
 scope:∀c l st r,F.scope c l st=some r->F'.scope c l st=some r
section
variable {S S':Self} {F F':Flow} {C:Cfg}
theorem oJq(p:SelfLe S S'){u:Tr V}{h:Heap}{o:Op}{r:V×Heap}(b:jBq S C u h o=some r):jBq S' C u h o=some r:=by
 unfold jBq at b⊢;split at b
 .rename_i x y k;try simp only
  split at b
  .rename_i f a c q j d;try rw[j,d]
   try simp only
   split at b
   .rename_i e g;try rw[g]
    exact b
   .rename_i g;try rw[g]
    exact p.fn _ _ _ _ b
  .rename_i l q j d;try rw[j,d]
   exact p.yield _ _ _ _ b
  .cases b
 .rename_i x m y k;try simp only
  split at b
  .rename_i t v q j d;try rw[j,d]
   try simp only
   split at b
   .rename_i f w;try rw[w]
    try simp only
    split at b
    .cases b
    .rename_i g;try rw[g]
     exact p.fn _ _ _ _ b
   .cases b
  .cases b
 .exact b
theorem JLq(g:SelfLe S S'){f:Tr V}{h:Heap}{o:Oper}{r:V×Heap}(b:opV S C f h o=some r):opV S' C f h o=some r:=by
 unfold opV at b⊢;split at b
 .rename_i v c
  (try rw[c]);exact b
 .rename_i c;try rw[c]
  try simp only
  split at b
  .rename_i q d
   (try rw[d]);exact b
  .rename_i d
   (try rw[d]);exact oJq g b
theorem u7q(g:SelfLe S S'){b:Array Oper}:∀(l:List Oper) {d:Tr V} {h:Heap} {r:Tr V×Heap},jfq S C b l d h=some r->jfq S' C b l d h=some r
 |[],_,_,_,hr=>hr
 |o::l,d,h,r,hr=>by
  simp only[jfq] at hr⊢;split at hr
  .rename_i f;try rw[f]
   try simp only
   split at hr
   .rename_i v k j;rw[JLq g j];exact u7q g l hr
   .cases hr
  .rename_i f;try rw[f]
   exact u7q g l hr
  .cases hr
theorem d5q(g:SelfLe S S'){f:Tr V}{h:Heap}{o:Oper}{r:V×Heap×Option Ev}(b:Jrq S C f h o=some r):Jrq S' C f h o=some r:=by
 unfold Jrq at b⊢;split at b
 .rename_i v d
  (try rw[d]);exact b
 .rename_i d;try rw[d]
  try simp only
  split at b
  .rename_i v k j;rw[JLq g j];exact b
  .cases b
theorem kQq(d:SelfLe S S'){b:Array Oper}:∀(l:List Oper) {i:Nat} {f:List (Nat×Ev)} {g:Tr V} {h:Heap} {r:Tr V×Heap},y7q S C b l i f g h=some r->y7q S' C b l i f g h=some r
 |[],_,_,_,_,_,hr=>hr
 | o ::l,i,f,g,h,r,hr=>by
  simp only[y7q] at hr⊢;split at hr
  .rename_i k;try rw[k]
   try simp only
   split at hr
   .rename_i v q x j;rw[d5q d j];try simp only
    split at hr
    .rename_i p;try rw[p]
     exact kQq d l hr
    .cases hr
   .rename_i v q j;rw[d5q d j];exact kQq d l hr
   .cases hr
  .rename_i k;try rw[k]
   exact kQq d l hr
  .cases hr
theorem zKq(w:SelfLe S S')(z:FlowLe F F'):∀(c:Code) {j:St} {r:Exit×St},zgq S F C c j=some r->zgq S' F' C c j=some r
 |.skip,j,r,h=>by simp only[zgq] at h⊢;exact h
 |.region id ops dr,j,r,h=>by
  simp only[zgq] at h⊢;cases dr with
  |true=>
   simp only at h⊢;split at h
   .rename_i L J B;rw[kQq w _ B];exact h
   .cases h
  |false=>
   simp only at h⊢;split at h
   .rename_i L J B;rw[u7q w _ B];exact h
   .cases h
 |.seq x y,j,r,h=>by
  simp only[zgq] at h⊢;split at h
  .rename_i D B;rw[zKq w z x B];exact zKq w z y h
  .rename_i A;have:=zKq w z x h;rw[this];split
   .rename_i D e;cases e;exact absurd h (by intro E;exact A _ E)
   .rfl
 |.cond c x y,j,r,h=>by
  simp only[zgq] at h⊢;split at h
  .rename_i I
   (try rw[I]);exact zKq w z x h
  .rename_i I
   (try rw[I]);exact zKq w z y h
  .cases h
 |.block id x,j,r,h=>by
  simp only[zgq] at h⊢;split at h
  .rename_i G D B;rw[zKq w z x B];exact h
  .rename_i A;have:=zKq w z x h;rw[this];split
   .rename_i G D e;cases e;exact absurd h (by intro E;exact A _ _ E)
   .rfl
 |.loop x,j,r,h=>by simp only[zgq] at h⊢;exact z.loop _ _ _ h
 |.rangeFunc g ps asg bd,j,r,h=>by
  simp only[zgq] at h⊢;split at h
  .rename_i M c H K;try rw[H,K]
   try simp only
   split at h
   .rename_i v J B;rw[w.fn _ _ _ _ B];exact h
   .cases h
  .cases h
 |.exit id,j,r,h=>by simp only[zgq] at h⊢;exact h
 |.scope x,j,r,h=>by
  simp only[zgq] at h⊢;split at h
  .rename_i l D B;rw[zKq w z x B];exact z.scope _ _ _ _ h
  .rename_i A;have:=zKq w z x h;rw[this];split
   .rename_i l D e;cases e;exact absurd h (by intro E;exact A _ _ E)
   .rfl
 |.label _,j,r,h=>by simp only[zgq] at h⊢;exact h
 |.goto l,j,r,h=>by simp only[zgq] at h⊢;exact h
 |.ret,j,r,h=>by simp only[zgq] at h⊢;exact h
 |.refuse _,j,r,h=>by simp only[zgq] at h;cases h
end
def Sn(C:Cfg)(n:Nat):Self:=⟨y9q C n,zQq C n⟩
def Fl(C:Cfg)(n:Nat):Flow:=⟨yhq C n,zVq C n⟩
theorem tyq{C:Cfg}{d:FuncId->Option (List V->Heap->Option (V×Heap))}{S:Self}{F:Flow}{c:Code}{b:St}:zgq S F {C with known:=d} c b=zgq S F C c b:=by kernel_rfl
theorem Biq{C:Cfg}{d:FuncId->Option (List V->Heap->Option (V×Heap))}{c:Func}{b:St}:duq {C with known:=d} c b=duq C c b:=by kernel_rfl
theorem cVq{C C':Cfg}(e:C'={C with known:=C'.known})(P:∀f k,C.known f=some k->C'.known f=some k)(R:∀f,C.known f=none->C'.known f=none\/C.fn f=none):∀n,SelfLe (Sn C n) (Sn C' (n+1))/\FlowLe (Fl C n) (Fl C' (n+1))
 |0=>⟨⟨λf y h r b=>by simp[Sn,y9q] at b,λl y h r b=>by simp[Sn,zQq] at b⟩,⟨λc j r b=>by simp[Fl,yhq] at b,λc l j r b=>by simp[Fl,zVq] at b⟩⟩
 | n + 1=>by
  obtain⟨U,K⟩:=cVq e P R n;have up:∀(S:Self) (F:Flow) (c:Code) (j:St),zgq S F C' c j=zgq S F C c j:=λS F c j=>by rw[e];exact tyq
  have G:∀E j,duq C' E j=duq C E j:=λE j=>by rw[e];exact Biq
  have L:∀f,C'.fn f=C.fn f:=λf=>by rw[e]
  have p:∀(c:Code) {j:St} {r:Exit×St},zgq ⟨y9q C n,zQq C n⟩ ⟨yhq C n,zVq C n⟩ C c j=some r->zgq ⟨y9q C' (n+1),zQq C' (n+1)⟩ ⟨yhq C' (n+1),zVq C' (n+1)⟩ C' c j=some r:=λc {j r} h=>(up _ _ _ _).trans (zKq U K c h)
  refine⟨⟨λf y h r b=>?_,λl y h r b=>?_⟩,⟨λc j r b=>?_,λc l j r b=>?_⟩⟩
  .show y9q C' (n+2) f y h=some r;have b:y9q C (n+1) f y h=some r:=b;rw[y9q] at b⊢;split at b
   .rename_i k O;rw[P f k O];exact b
   .rename_i O;split at b
    .cases b
    .rename_i E H;rw[(R f O).resolve_right (by rw[H];exact λq=>by cases q),L,H];try simp only
     split at b
     .rename_i c hb hn;try rw[hb,hn]
      try simp only
      split at b
      .rename_i j B;rw[p c B];exact(G E j).trans b
      .rename_i j B;rw[p c B];exact(G E j).trans b
      .cases b
     .cases b
  .show zQq C' (n+2) l y h=some r;have b:zQq C (n+1) l y h=some r:=b;rw[zQq] at b⊢;split at b
   .rename_i fr ps J bd d T;try rw[T]
    try simp only
    split at b
    .cases b
    .rename_i Z;try rw[Z]
     try simp only
     split at b
     .rename_i X h1;rw[p J h1];try simp only
      split at b
      .rename_i Y ps1 Q bd1 d1 N;try rw[N]
       try simp only
       split at b
       .rename_i x V h2;rw[p bd h2];exact b
       .cases b
      .cases b
     .cases b
   .cases b
  .show yhq C' (n+2) c j=some r;have b:yhq C (n+1) c j=some r:=b;rw[yhq] at b⊢;split at b
   .rename_i D B;rw[p c B];exact K.loop _ _ _ b
   .rename_i A;have:=p c b;rw[this];split
    .rename_i D e;cases e;exact absurd b (by intro M;exact A _ M)
    .rfl
  .show zVq C' (n+2) c l j=some r;have b:zVq C (n+1) c l j=some r:=b;rw[zVq] at b⊢;split at b
   .rename_i u z;try rw[z]
    try simp only
    split at b
    .rename_i W D B;rw[p u B];exact K.scope _ _ _ _ b
    .rename_i A;have:=p u b;rw[this];split
     .rename_i W D e;cases e;exact absurd b (by intro M;exact A _ _ M)
     .rfl
   .cases b
theorem r3q(C:Cfg)(n:Nat):SelfLe (Sn C n) (Sn C (n+1))/\FlowLe (Fl C n) (Fl C (n+1)):=cVq rfl (λ_ _ h=>h) (λ_ h=>.inl h) n
theorem SelfLe.trans{a b c:Self}(x:SelfLe a b)(y:SelfLe b c):SelfLe a c:=⟨λf e h r d=>y.fn _ _ _ _ (x.fn _ _ _ _ d),λl e h r d=>y.yield _ _ _ _ (x.yield _ _ _ _ d)⟩
theorem FlowLe.trans{a b c:Flow}(x:FlowLe a b)(y:FlowLe b c):FlowLe a c:=⟨λf e r d=>y.loop _ _ _ (x.loop _ _ _ d),λl e h r d=>y.scope _ _ _ _ (x.scope _ _ _ _ d)⟩
theorem qTq(C:Cfg){n:Nat}:∀{m:Nat},n<=m->SelfLe (Sn C n) (Sn C m)/\FlowLe (Fl C n) (Fl C m)
 |0,h=>by
  obtain rfl:n=0:=by omega
  exact⟨⟨λ_ _ _ _ h=>h,λ_ _ _ _ h=>h⟩,⟨λ_ _ _ h=>h,λ_ _ _ _ h=>h⟩⟩
 |m+1,h=>by
  rcases ZL n (m+1) with e|e
  .obtain⟨a,b⟩:=qTq C (m:=m) (n:=n) Xd;obtain⟨c,d⟩:=r3q C m;exact⟨a.trans c,b.trans d⟩
  .obtain rfl:n=m+1:=by omega
   exact⟨⟨λ_ _ _ _ h=>h,λ_ _ _ _ h=>h⟩,⟨λ_ _ _ h=>h,λ_ _ _ _ h=>h⟩⟩
def qIq(a:Array Oper)(g:FrW)(o:Oper):Option Bool:=match o.guard with
 |none=>some true
 |some (j,b)=>match (a[j]?).bind (·.dst) with
  |none=>some false
  |some t=>match aqq g t with
   |some (.bool c)=>some (c==b)
   |some .undef=>some false
   |_=>none
section
variable {C:Cfg} {G:Nat->Option W}
theorem vSq{x:Ctx}{w:FrW}{g:Tr V}{d:Array Oper}{o:Oper}{b:Bool}(u:FRel x w g)(h:qIq d w o=some b):Y9q d g o=some b:=by
 unfold qIq at h;unfold Y9q;split at h
 .rename_i l;try rw[l]
  exact h
 .rename_i j y l;try rw[l]
  try simp only
  split at h
  .rename_i k;try rw[k]
   exact h
  .rename_i t k;try rw[k]
   try simp only
   split at h
   .rename_i c p;obtain⟨v,q,f⟩:=u _ _ p;rw[RV_bool] at f;subst f
    rw[q];exact h
   .rename_i p;obtain⟨v,q,f⟩:=u _ _ p;rw[RV_undef] at f;subst f
    rw[q];exact h
   .cases h
theorem FRel.put{f:Ctx}{j:FrW}{b:Tr V}(h:FRel f j b){d:Option Tmp}{w:W}{v:V}(q:RV f w v):FRel f (atq j d w) (aBq b d v):=by
 cases d with
 |none=>exact h
 |some t=>
  intro k u c;simp only[atq,aqq] at c;simp only[aBq,Tr.get_set];split at c
  .rename_i e;rw[ZH] at e;subst e;cases c;exact⟨v,by rw[Zl rfl],q⟩
  .rename_i e;have g:k≠t:=λl=>by subst l;simp at e
   obtain⟨o,p,s⟩:=h k u c;exact⟨o,by rw[Zg g];exact p,s⟩
def aeq(C:Cfg)(G:Nat->Option W)(o:Oper)(j:FrW)(g:HpW)(i:Nat)(R:Res)(d:W->HpW->Nat->Res->Option EvW->Prop):Prop:=
 ∀a X b,a.nw=i->SatH C G a g X R->FRel a j b->∃n w c R' ev v f Γ' X',d w c Γ'.nw R' ev/\
  opV (Sn C n) C b a.h o=some (v,f)/\(match ev with
   |none=>ylq C b o.type o.op=some v/\f=a.h
   |some e=>ylq C b o.type o.op=none/\∀H1:Heap,H1.next=a.h.next->(a.h.wmin=a.h.next/\H1.tr=a.h.tr) ->EvR a g e (auq C b H1 f o.op))/\
  Γ'.h=f/\a.Le Γ'/\SatH C G Γ' c X' R'/\Frm a.nw a g X Γ' c X'/\RV Γ' w v
theorem biq{o:Oper}{g:FrW}{d:HpW}{i:Nat}{R:Res}{w:W}{a:W->HpW->Nat->Res->Option EvW->Prop}(h:y4q C G g o.op=some w)(b:a w d i R none):aeq C G o g d i R a:=λe X l c s j=>by
 obtain⟨v,f,k⟩:=nbq (rt:=o.type) j s.gl h;subst c;exact⟨0,w,d,R,none,v,e.h,e,X,b,by simp only[opV,f],⟨f,rfl⟩,rfl,Ctx.Le.refl _,s,Frm.refl _ _ _ _,k⟩
theorem jTq{o:Oper}{i:FrW}{g hp2:HpW}{f nw2:Nat}{R:Res}{w:W}{ev:EvW}{a:W->HpW->Nat->Res->Option EvW->Prop}(h:aDq C G i g f o.op=some (w,hp2,nw2,ev))(d:a w hp2 nw2 R (some ev)):aeq C G o i g f R a:=λp X n c s j=>by
 subst c;obtain⟨v,l,Γ',e,m,b,k⟩:=c8q (rt:=o.type) j s h;exact⟨0,w,hp2,R,some ev,v,l,Γ',X,by rw[b.nw];exact d,by simp only[opV,e,m],⟨e,k⟩,b.hh,b.le,b.sat,b.frm,b.val⟩
def OpW(C:Cfg)(G:Nat->Option W)(m:Nat)(f:Array Oper)(l:List Oper)(j:FrW)(i:HpW)(g:Nat)(R:Res)(K:FrW->HpW->Nat->Res->Prop):Prop:=
 ∀c X e,c.nw=g->m<=g->SatH C G c i X R->FRel c j e->∃n a Γ' X' d b R',jfq (Sn C n) C f l e c.h=some (a,Γ'.h)/\
  SatH C G Γ' b X' R'/\FRel Γ' d a/\Frm m c i X Γ' b X'/\K d b Γ'.nw R'
section
variable {m:Nat} {ops:Array Oper} {l:List Oper} {fr:FrW} {hp:HpW} {nw:Nat} {R:Res} {K:FrW->HpW->Nat->Res->Prop} {o:Oper}
theorem ibq(h:K fr hp nw R):OpW C G m ops [] fr hp nw R K:=λd X b a e s c=>⟨0,b,d,X,fr,hp,R,rfl,s,c,Frm.refl _ _ _ _,a▸h⟩
theorem zhq(D:qIq ops fr o=some true)(h:aeq C G o fr hp nw R λw c f R' _=>OpW C G m ops l (atq fr o.dst w) c f R' K):OpW C G m ops (o::l) fr hp nw R K:=λA X d b x s g=>by
 obtain⟨n,w,c,R',ev,v,P,Γ',X',L,M,Q,rfl,q,B,z,H⟩:=h A X d b s g;obtain⟨k,e,Γ2,X2,i,j,R2,y,N,O,F,E⟩:=L Γ' X' (aBq d o.dst v) rfl (Zt (b▸x) q.nw) B ((g.mono q).put H);refine⟨max n k,e,Γ2,X2,i,j,R2,?_,N,O,(z.le (b▸x) (Zb _)).trans F,E⟩;have I:=JLq (qTq C (Nat.le_max_left n k)).1 M;have J:=u7q (qTq C (Nat.le_max_right n k)).1 l y;simp only[jfq,vSq g D,I];exact J
theorem sBq(t:qIq ops fr o=some false)(h:OpW C G m ops l (atq fr o.dst .undef) hp nw R K):OpW C G m ops (o::l) fr hp nw R K:=λq X i b p s j=>by
 obtain⟨r,a,Γ2,X2,c,g,R2,k,v⟩:=h q X (aBq i o.dst .undef) b p s (j.put (RV_undef.2 rfl));exact⟨r,a,Γ2,X2,c,g,R2,by simp only[jfq,vSq j t];exact k,v⟩
theorem z5q{w:W}(b:qIq ops fr o=some true)(a:y4q C G fr o.op=some w)(h:OpW C G m ops l (atq fr o.dst w) hp nw R K):OpW C G m ops (o::l) fr hp nw R K:=zhq b (biq a h)
theorem kjq{w:W}{a:HpW}{b:Nat}{ev:EvW}(d:qIq ops fr o=some true)(c:aDq C G fr hp nw o.op=some (w,a,b,ev))(h:OpW C G m ops l (atq fr o.dst w) a b R K):OpW C G m ops (o::l) fr hp nw R K:=zhq d (jTq c h)
end
def EvW.clash:EvW->EvW->Bool
 |.loadO _,.loadO _=>false
 |.loadO _,.loadF=>false
 |.loadF,.loadO _=>false
 |.loadF,.loadF=>false
 |.loadO a,.storeO b=>Nat.beq a b
 |.storeO a,.loadO b=>Nat.beq a b
 |.storeO a,.storeO b=>Nat.beq a b
 |.loadF,.storeO _=>false
 |.gen,.loadO _=>false
 |.gen,.loadF=>false
 |.loadO _,.gen=>false
 |.loadF,.gen=>false
 |.gen,.gen=>false
 |.loadO a,.updO b=>Nat.beq a b
 |.updO a,.loadO b=>Nat.beq a b
 |.loadF,.updO _=>false
 |.mkO n,.storeO b=>!Nat.blt b n
 |.mkO _,.updO _=>true
 |.mkO _,.dirty=>true
 |.mkO _,_=>false
 |.updO _,.mkO _=>true
 |.dirty,.mkO _=>true
 |_,.mkO _=>false
 |_,_=>true
def dvq(a:Array Oper)(j:Nat)(x:EvW):List (Nat×EvW) ->Bool
 |[]=>true
 |(k,y)::l=>(match y.clash x with|true=>ubq a a.size j k|false=>true)&&dvq a j x l
def EvP(f:Ctx)(j:HpW):EvW->Ev->Prop
 |.loadO b,e=>∃c,e= .load c/\c<f.h.next/\b<f.nw/\f.σ b=c/\∀k x,hget j k=some x->f.σ k=c->k=b
 |.loadF,e=>∃c,e= .load c/\f.D c
 |.storeO b,e=>∃c,e= .store c/\c<f.h.next/\b<f.nw/\f.σ b=c/\∀k x,hget j k=some x->f.σ k=c->k=b
 |.gen,e=>e= .gen\/∃c,e= .load c
 |.dirty,_=>True
 |.updO b,e=>e= .gen\/∃c,e= .upd c/\c<f.h.next/\b<f.nw/\f.σ b=c/\∀k x,hget j k=some x->f.σ k=c->k=b
 |.mkO n,e=>∃c,e= .mk c/\n<=f.nw/\∀k x,k<n->hget j k=some x->f.σ k<c
def EsP(b:Ctx)(a:HpW):List (Nat×EvW) ->List (Nat×Ev) ->Prop
 |[],l=>l=[]
 |(i,x)::es,l=>∃y c,l=(i,y)::c/\EvP b a x y/\EsP b a es c
theorem EvP.later{q Γ':Ctx}{L A:HpW}{X X':Nat->Prop}{x:EvW}{y:Ev}(F:q.Le Γ')(f:Frm q.nw q L X Γ' A X')(h:EvP q L x y):EvP Γ' A x y:=by
 have E:∀{b c},c<q.h.next->b<q.nw->q.σ b=c->(∀k x,hget L k=some x->q.σ k=c->k=b) ->c<Γ'.h.next/\b<Γ'.nw/\Γ'.σ b=c/\∀k x,hget A k=some x->Γ'.σ k=c->k=b:=λ{b c} d p B w=>by
  refine⟨Zv d f.next,Zv p F.nw,(F.σ b p).trans B,λk z H M=>?_⟩;rcases ZL k q.nw with I|K
  .obtain⟨u,J⟩:=f.oext k z I H;exact w k u J (by rw[<-M,F.σ k I])
  .rcases f.onum k z K H with N|⟨j,u,N,h6,h7⟩
   .omega
   .have:=w j u h6 (by rw[h7,M]);omega
 cases x with
 |loadO b=>
  obtain⟨c,rfl,d,p,B,w⟩:=h;exact⟨c,rfl,E d p B w⟩
 |storeO b=>
  obtain⟨c,rfl,d,p,B,w⟩:=h;exact⟨c,rfl,E d p B w⟩
 |loadF=>
  obtain⟨c,rfl,d⟩:=h;exact⟨c,rfl,F.D c d⟩
 |gen=>exact h
 |dirty=>exact h
 |updO b=>
  rcases h with h|⟨c,rfl,d,p,B,w⟩
  .exact .inl h
  .exact .inr ⟨c,rfl,E d p B w⟩
 |mkO n=>
  obtain⟨c,rfl,d,p⟩:=h;refine⟨c,rfl,Zt d F.nw,λk z H O=>?_⟩;obtain⟨u,J⟩:=f.oext k z (Zv H d) O;rw[F.σ k (Zv H d)];exact p k u H J
theorem EsP.later{b Γ':Ctx}{d a:HpW}{X X':Nat->Prop}(e:b.Le Γ')(f:Frm b.nw b d X Γ' a X'):∀{c:List (Nat×EvW)} {l:List (Nat×Ev)},EsP b d c l->EsP Γ' a c l
 |[],_,h=>h
 |(i,x)::c,_,h=>by
  obtain⟨y,j,rfl,g,k⟩:=h;exact⟨y,j,rfl,g.later e f,EsP.later e f k⟩
theorem EvR.keep{d:Ctx}{j:HpW}{X:Nat->Prop}{R:Res}(s:SatH C G d j X R){x:EvW}{y:Ev}(h:EvR d j x y):EvP d j x y:=by
 have g:∀{b z},hget j b=some z->d.σ b<d.h.next/\b<d.nw/\d.σ b=d.σ b/\∀k x,hget j k=some x->d.σ k=d.σ b->k=b:=λ{b z} f=>by
  obtain⟨m,_,_,v,o,_⟩:=s.own b z.1 z.2 f;refine⟨?_,m,rfl,λk u p e=>s.inj k b u z p f e⟩;rcases ZL (d.σ b) d.h.next with h|h
  .exact h
  .rw[s.wf _ h] at o;cases o
 cases x with
 |loadO b=>obtain⟨z,f,rfl⟩:=h;exact⟨_,rfl,g f⟩
 |storeO b=>obtain⟨z,f,rfl⟩:=h;exact⟨_,rfl,g f⟩
 |loadF=>obtain⟨c,m,rfl⟩:=h;exact⟨c,rfl,m⟩
 |gen=>exact h
 |dirty=>exact h
 |updO b=>
  rcases h with h|⟨z,f,rfl⟩
  .exact .inl h
  .exact .inr ⟨_,rfl,g f⟩
 |mkO n=>
  obtain⟨rfl,rfl⟩:=h;exact⟨_,rfl,Zb _,λk z _ f=>(g f).1⟩
theorem lxq{v:Ctx}{w:HpW}{X:Nat->Prop}{R:Res}(s:SatH C G v w X R){x y:EvW}{A B:Ev}(g:EvP v w y B)(d:EvR v w x A)(h:y.clash x=false):B.clash A=false:=by
 have q:∀{a b:Nat},Nat.beq a b=false->a≠b:=λh e=>by subst e;simp at h
 have i:∀{a b:Nat},a≠b->Nat.beq a b=false:=λ{a b} h=>by
  cases D:Nat.beq a b with
  |true=>exact absurd (Zi D) h
  |false=>rfl
 cases y<;>cases x<;>simp only[EvW.clash] at h<;>try (cases h;done)
 case loadO.loadO=>obtain⟨_,rfl,_⟩:=g;obtain⟨_,_,rfl⟩:=d;rfl
 case loadO.loadF=>obtain⟨_,rfl,_⟩:=g;obtain⟨_,_,rfl⟩:=d;rfl
 case loadO.storeO a b=>
  obtain⟨c,rfl,o,p,u,k⟩:=g;obtain⟨z,j,rfl⟩:=d;exact i λe=>q h (k b z j e.symm).symm
 case loadO.gen=>obtain⟨_,rfl,_⟩:=g;rcases d with rfl|⟨_,rfl⟩<;>rfl
 case loadF.loadO=>obtain⟨_,rfl,_⟩:=g;obtain⟨_,_,rfl⟩:=d;rfl
 case loadF.loadF=>obtain⟨_,rfl,_⟩:=g;obtain⟨_,_,rfl⟩:=d;rfl
 case loadF.storeO b=>
  obtain⟨c,rfl,o⟩:=g;obtain⟨z,j,rfl⟩:=d;exact i λe=>(s.own b z.1 z.2 j).2.1 (e▸o)
 case loadF.gen=>obtain⟨_,rfl,_⟩:=g;rcases d with rfl|⟨_,rfl⟩<;>rfl
 case storeO.loadO a b=>
  obtain⟨c,rfl,o,p,u,k⟩:=g;obtain⟨z,j,rfl⟩:=d;exact i λe=>q h (k b z j e.symm).symm
 case storeO.storeO a b=>
  obtain⟨c,rfl,o,p,u,k⟩:=g;obtain⟨z,j,rfl⟩:=d;exact i λe=>q h (k b z j e.symm).symm
 case gen.loadO=>obtain⟨_,_,rfl⟩:=d;rcases g with rfl|⟨_,rfl⟩<;>rfl
 case gen.loadF=>obtain⟨_,_,rfl⟩:=d;rcases g with rfl|⟨_,rfl⟩<;>rfl
 case gen.gen=>rcases g with rfl|⟨_,rfl⟩<;>rcases d with rfl|⟨_,rfl⟩<;>rfl
 case loadO.updO a b=>
  obtain⟨c,rfl,o,p,u,k⟩:=g;rcases d with rfl|⟨z,j,rfl⟩
  .rfl
  .exact i λe=>q h (k b z j e.symm).symm
 case loadF.updO b=>
  obtain⟨c,rfl,o⟩:=g;rcases d with rfl|⟨z,j,rfl⟩
  .rfl
  .exact i λe=>(s.own b z.1 z.2 j).2.1 (e▸o)
 case updO.loadO a b=>
  obtain⟨z,j,rfl⟩:=d;rcases g with rfl|⟨c,rfl,o,p,u,k⟩
  .rfl
  .exact i λe=>q h (k b z j e.symm).symm
 case mkO.loadO=>obtain⟨_,rfl,_⟩:=g;obtain⟨_,_,rfl⟩:=d;rfl
 case mkO.loadF=>obtain⟨_,rfl,_⟩:=g;obtain⟨_,_,rfl⟩:=d;rfl
 case mkO.gen=>obtain⟨_,rfl,_⟩:=g;rcases d with rfl|⟨_,rfl⟩<;>rfl
 case mkO.mkO=>obtain⟨_,rfl,_⟩:=g;obtain⟨_,rfl⟩:=d;rfl
 case mkO.storeO n b=>
  obtain⟨c,rfl,_,p⟩:=g;obtain⟨z,j,rfl⟩:=d;have:=p b z (by simpa using h) j;exact i Xd
 case loadO.mkO=>obtain⟨_,rfl,_⟩:=g;obtain⟨_,rfl⟩:=d;rfl
 case loadF.mkO=>obtain⟨_,rfl,_⟩:=g;obtain⟨_,rfl⟩:=d;rfl
 case gen.mkO=>obtain⟨_,rfl⟩:=d;rcases g with rfl|⟨_,rfl⟩<;>rfl
 case storeO.mkO=>
  obtain⟨c,rfl,o,_⟩:=g;obtain⟨_,rfl⟩:=d;exact i Xd
theorem i4q{b:Ctx}{g:HpW}{X:Nat->Prop}{R:Res}(s:SatH C G b g X R){ops:Array Oper}{j:Nat}{x:EvW}{o:Ev}(q:EvR b g x o):∀{d:List (Nat×EvW)} {l:List (Nat×Ev)},EsP b g d l->dvq ops j x d=true->dwq ops j o l=true
 |[],_,hl,_=>by rw[show _=[] from hl];rfl
 |(k,y)::d,_,hl,h=>by
  obtain⟨z,A,rfl,v,w⟩:=hl;simp only[dvq,Zd] at h;simp only[dwq,Zd];refine⟨?_,i4q s q w h.2⟩;have h:=h.1;split at h
  .split
   .exact h
   .rfl
  .rename_i u;rw[lxq s v q u]
def FlW(C:Cfg)(G:Nat->Option W)(m:Nat)(g:Array Oper)(l:List Oper)(i:Nat)(o:List (Nat×EvW))(p:FrW)(j:HpW)(k:Nat)(R:Res)(K:FrW->HpW->Nat->Res->Prop):Prop:=
 ∀c X f d,c.nw=k->m<=k->SatH C G c j X R->FRel c p f->EsP c j o d->∃n a Γ' X' e b R',y7q (Sn C n) C g l i d f c.h=some (a,Γ'.h)/\
  SatH C G Γ' b X' R'/\FRel Γ' e a/\Frm m c j X Γ' b X'/\K e b Γ'.nw R'
def Ctx.wm(b:Ctx)(k:Nat):Ctx:={b with h:={b.h with wmin:=k}}
theorem cvq(a:Ctx)(k:Nat):a.Le (a.wm k):=⟨Zb _,λ_ _=>rfl,λ_ h=>h,λ_ _=>rfl⟩
theorem a2q{c:Ctx}{d:HpW}{X:Nat->Prop}{R:Res}(s:SatH C G c d X R)(k:Nat):SatH C G (c.wm k) d X R:=
 ⟨s.wf,λb g w h=>by
  obtain⟨f,j,m,v,i,e⟩:=s.own b g w h;exact⟨f,j,m,v,i,e.mono (cvq c k)⟩,s.inj,s.nd,s.dX,s.xlt,s.dlt,R.st _ _ _ _ _ s.res (cvq c k).D (cvq c k).val (λ_ _=>rfl) (Zb _),s.gl.mono (cvq c k)⟩
theorem EvP.wm{a:Ctx}{b:HpW}{x:EvW}{y:Ev}{k:Nat}(h:EvP a b x y):EvP (a.wm k) b x y:=by cases x<;>exact h
theorem EsP.wm{b:Ctx}{c:HpW}{k:Nat}:∀{a:List (Nat×EvW)} {l:List (Nat×Ev)},EsP b c a l->EsP (b.wm k) c a l
 |[],_,h=>h
 |(i,x)::a,_,h=>by
  obtain⟨y,e,rfl,d,f⟩:=h;exact⟨y,e,rfl,d.wm,EsP.wm f⟩
theorem EvP.unwm{a:Ctx}{b:HpW}{x:EvW}{y:Ev}{k:Nat}(h:EvP (a.wm k) b x y):EvP a b x y:=by cases x<;>exact h
theorem Azq{S:Nat->Prop}{a b:Nat}(d:S a)(c:S b):S (eCq a b):=by unfold eCq;split<;>assumption
section
variable {m:Nat} {ops:Array Oper} {l:List Oper} {i:Nat} {es:List (Nat×EvW)} {fr:FrW} {hp:HpW} {nw:Nat} {R:Res} {K:FrW->HpW->Nat->Res->Prop} {o:Oper}
theorem Bgq(h:K fr hp nw R):FlW C G m ops [] i es fr hp nw R K:=λd X b e a f s c _=>⟨0,b,d,X,fr,hp,R,rfl,s,c,Frm.refl _ _ _ _,a▸h⟩
theorem yeq(hw:qIq ops fr o=some true)(h:aeq C G o fr hp nw R λw q M R' ev=>match ev with
  |none=>FlW C G m ops l (i+1) es (atq fr o.dst w) q M R' K
  |some e=>dvq ops i e es=true/\FlW C G m ops l (i+1) ((i,e)::es) (atq fr o.dst w) q M R' K):FlW C G m ops (o::l) i es fr hp nw R K:=λb X f P y T s O Z=>by
 obtain⟨n,w,q,R',ev,v,H,Γ',X',U,h2,I,h4,A,h6,d,h8⟩:=h (b.wm b.h.next) X f y (a2q s _) (O.mono (cvq _ _));cases ev with
 |none=>
  obtain⟨I,B⟩:=I
  --nothing was done to memory
  have e0:Γ'.h=(b.wm b.h.next).h:=h4.trans B;have g:b.Le (Γ'.wm b.h.wmin):=⟨A.nw,A.σ,A.D,A.val⟩
  have J:(Γ'.wm b.h.wmin).h=b.h:=by
   simp only[Ctx.wm,e0]
  have x:Frm b.nw b hp X (Γ'.wm b.h.wmin) q X':=⟨d.sig,d.mle,by rw[J];exact Zb _,λc _ _ _=>by rw[J],d.dsub,d.dnew,d.oext,d.onum,d.xnew,λk hk _ _=>by rw[J];exact hk⟩;obtain⟨L,z,Γ2,X2,E,F,R2,Q,g2,g3,Y,V⟩:=U (Γ'.wm b.h.wmin) X' (aBq f o.dst v) P rfl (Zt (y▸T) A.nw) (a2q h6 _) ((O.mono g).put (h8.mono (cvq _ _))) (Z.later g x);refine⟨L,z,Γ2,X2,E,F,R2,?_,g2,g3,(x.le (y▸T) (Zb _)).trans Y,V⟩;rw[J] at Q;simp only[y7q,vSq O hw,Jrq,I];exact Q
 |some e=>
  obtain⟨I,B⟩:=I;obtain⟨hev,U⟩:=U;have hx:EvR (b.wm b.h.next) hp e (auq C f b.h H o.op):=B b.h rfl ⟨rfl,rfl⟩;have g:b.Le (Γ'.wm (eCq b.h.wmin Γ'.h.wmin)):=⟨A.nw,A.σ,A.D,A.val⟩;have x:Frm b.nw b hp X (Γ'.wm (eCq b.h.wmin Γ'.h.wmin)) q X':=⟨d.sig,d.mle,d.next,d.keep,d.dsub,d.dnew,d.oext,d.onum,d.xnew,λS hk h9 h10=>Azq hk (d.wmin S (h9 _ (Zb _)) h9 h10)⟩;have hP:EvP (Γ'.wm (eCq b.h.wmin Γ'.h.wmin)) q e (auq C f b.h H o.op):=((EvR.keep (a2q s _) hx).unwm).later g x;obtain⟨L,z,Γ2,X2,E,F,R2,Q,g2,g3,Y,V⟩:=U (Γ'.wm (eCq b.h.wmin Γ'.h.wmin)) X' (aBq f o.dst v) ((i,auq C f b.h H o.op)::P) rfl (Zt (y▸T) A.nw) (a2q h6 _) ((O.mono g).put (h8.mono (cvq _ _))) ⟨_,_,rfl,hP,Z.later g x⟩;refine⟨max n L,z,Γ2,X2,E,F,R2,?_,g2,g3,(x.le (y▸T) (Zb _)).trans Y,V⟩;have a1:=JLq (qTq C (Nat.le_max_left n L)).1 h2;have a2:=kQq (qTq C (Nat.le_max_right n L)).1 l Q;have a3:=i4q (ops:=ops) (j:=i) (a2q s b.h.next) hx Z.wm hev;have a1:opV (Sn C (max n L)) C f {b.h with wmin:=b.h.next} o=some (v,H):=a1;simp only[y7q,vSq O hw,Jrq,I,a1,a3];have J:(Γ'.wm (eCq b.h.wmin Γ'.h.wmin)).h={H with wmin:=eCq b.h.wmin H.wmin}:=by simp only[Ctx.wm,h4]
  rw[J] at a2;exact a2
theorem tbq(x:qIq ops fr o=some false)(h:FlW C G m ops l (i+1) es (atq fr o.dst .undef) hp nw R K):FlW C G m ops (o::l) i es fr hp nw R K:=λv X k j b t s p r=>by
 obtain⟨w,a,Γ2,X2,c,g,R2,q,y⟩:=h v X (aBq k o.dst .undef) j b t s (p.put (RV_undef.2 rfl)) r;exact⟨w,a,Γ2,X2,c,g,R2,by simp only[y7q,vSq p x];exact q,y⟩
theorem jLq{w:W}(b:qIq ops fr o=some true)(a:y4q C G fr o.op=some w)(h:FlW C G m ops l (i+1) es (atq fr o.dst w) hp nw R K):FlW C G m ops (o::l) i es fr hp nw R K:=yeq b (biq a h)
theorem viq{w:W}{a:HpW}{b:Nat}{ev:EvW}(e:qIq ops fr o=some true)(c:aDq C G fr hp nw o.op=some (w,a,b,ev))(d:dvq ops i ev es=true)(h:FlW C G m ops l (i+1) ((i,ev)::es) (atq fr o.dst w) a b R K):FlW C G m ops (o::l) i es fr hp nw R K:=yeq e (jTq c ⟨d,h⟩)
end
end
structure SatS(C:Cfg)(G:Nat->Option W)(k0:Nat)(Γ:Ctx)(hp:HpW)(X:Nat->Prop)(R:Res)(fr:FrW)(st:St):Prop where
 hh:st.h=Γ.h
 fr:FRel Γ fr st.fr
 sat:SatH C G Γ hp X R
 ds:∀d∈st.ds,k0<=d/\d<Γ.h.next/\Γ.h.get d=some (.dfr false)/\¬aoq Γ hp d/\¬X d/\¬Γ.D d
 nd:st.ds.Nodup
abbrev qHq:=Exit->FrW->HpW->Nat->Res->Prop
def CoW(C:Cfg)(G:Nat->Option W)(m g:Nat)(i:Bool)(c:Code)(l:FrW)(k:HpW)(j:Nat)(R:Res)(Q:qHq):Prop:=
 ∀e X f,e.nw=j->m<=j->g<=e.h.next->f.rd=i->SatS C G g e k X R l f->∃n x b Γ' X' d a R',zgq (Sn C n) (Fl C n) C c f=some (x,b)/\
  SatS C G g Γ' a X' R' d b/\Frm m e k X Γ' a X'/\b.rd=i/\Q x d a Γ'.nw R'
section
variable {C:Cfg} {G:Nat->Option W} {m k0:Nat} {rd:Bool} {fr fr2:FrW} {hp hp2:HpW} {nw nw2:Nat} {R R2:Res} {Q:qHq}
theorem e6q{b Γ':Ctx}{X X':Nat->Prop}{k:Nat}{n:List Nat}(h:∀d∈n,k0<=d/\d<b.h.next/\b.h.get d=some (.dfr false)/\¬aoq b hp d/\¬X d/\¬b.D d)(f:Frm k b hp X Γ' hp2 X'):
  ∀d∈n,k0<=d/\d<Γ'.h.next/\Γ'.h.get d=some (.dfr false)/\¬aoq Γ' hp2 d/\¬X' d/\¬Γ'.D d:=λd q=>by
 obtain⟨p,l,v,i,j,u⟩:=h d q;refine⟨p,Zv l f.next,by rw[f.keep d l i j];exact v,λh=>?_,λh=>?_,λh=>?_⟩
 .rcases f.onew d h with h|h
  .exact i h
  .omega
 .rcases f.xnew d h with h|h
  .exact j h
  .omega
 .rcases f.dnew d h with h|(h|h)|h
  .exact u h
  .exact i h
  .exact j h
  .omega
theorem Xkq{c:Code}{Q':qHq}(h:CoW C G m k0 rd c fr hp nw R Q)(o:∀x fr hp nw R,Q x fr hp nw R->Q' x fr hp nw R):CoW C G m k0 rd c fr hp nw R Q':=λk X j l p q i r=>by
 obtain⟨n,x,b,Γ',X',d,a,R',e,s,t,g,f⟩:=h k X j l p q i r;exact⟨n,x,b,Γ',X',d,a,R',e,s,t,g,o _ _ _ _ _ f⟩
theorem lwq{c:Code}{x:Exit}(d:∀(n:Nat) a,zgq (Sn C n) (Fl C n) C c a=some (x,a))(h:Q x fr hp nw R):CoW C G m k0 rd c fr hp nw R Q:=λb X a e i j f g=>
 ⟨0,x,a,b,X,fr,hp,R,d 0 a,g,Frm.refl _ _ _ _,f,e▸h⟩
theorem tzq(h:Q .normal fr hp nw R):CoW C G m k0 rd .skip fr hp nw R Q:=lwq (λ_ _=>by simp only[zgq]) h
theorem tCq{id:Nat}(h:Q (.exit id) fr hp nw R):CoW C G m k0 rd (.exit id) fr hp nw R Q:=lwq (λ_ _=>by simp only[zgq]) h
theorem BAq(h:Q .ret fr hp nw R):CoW C G m k0 rd .ret fr hp nw R Q:=lwq (λ_ _=>by simp only[zgq]) h
theorem tAq{l:Nat}(h:Q (.goto l) fr hp nw R):CoW C G m k0 rd (.goto l) fr hp nw R Q:=lwq (λ_ _=>by simp only[zgq]) h
theorem oBq{l:Nat}(h:Q .normal fr hp nw R):CoW C G m k0 rd (.label l) fr hp nw R Q:=lwq (λ_ _=>by simp only[zgq]) h
theorem lpq{id:Nat}{b:Array Oper}(h:OpW C G m b b.toList fr hp nw R λd c p R'=>Q .normal d c p R'):CoW C G m k0 rd (.region id b false) fr hp nw R Q:=λv X k w x A u j=>by
 obtain⟨n,f,Γ',X',d,c,R',s,y,z,q,t⟩:=h v X k.fr w x j.sat j.fr;refine⟨n,.normal,⟨f,Γ'.h,k.ds,k.rd⟩,Γ',X',d,c,R',?_,⟨rfl,z,y,e6q j.ds q,j.nd⟩,q,u,t⟩;simp only[zgq,j.hh,s]
theorem tBq{id:Nat}{b:Array Oper}(h:FlW C G m b b.toList 0 [] fr hp nw R λd c p R'=>Q .normal d c p R'):CoW C G m k0 rd (.region id b true) fr hp nw R Q:=λv X k w x A u j=>by
 obtain⟨n,f,Γ',X',d,c,R',s,y,z,q,t⟩:=h v X k.fr [] w x j.sat j.fr rfl;refine⟨n,.normal,⟨f,Γ'.h,k.ds,k.rd⟩,Γ',X',d,c,R',?_,⟨rfl,z,y,e6q j.ds q,j.nd⟩,q,u,t⟩;simp only[zgq,j.hh,s]
def Cvq(C:Cfg)(G:Nat->Option W)(m k0:Nat)(rd:Bool)(y:Code)(Q:qHq):qHq
 |.normal,fr,hp,nw,R=>CoW C G m k0 rd y fr hp nw R Q
 |x,fr,hp,nw,R=>Q x fr hp nw R
theorem p9q{x y:Code}(h:CoW C G m k0 rd x fr hp nw R (Cvq C G m k0 rd y Q)):CoW C G m k0 rd (.seq x y) fr hp nw R Q:=λN X Y I J D L P=>by
 obtain⟨n,e,d,Γ',X',w,v,R',A,K,g,H,F⟩:=h N X Y I J D L P;by_cases z:e= .normal
 .subst z;obtain⟨j,S,k,Γ2,X2,fr2,hp2,R2,M,U,T,O,V⟩:=F Γ' X' d rfl (g.mle (I▸J)|>λq=>q) (Zt D g.next) H K;refine⟨max n j,S,k,Γ2,X2,fr2,hp2,R2,?_,U,g.trans T,O,V⟩;have B:=qTq C (Nat.le_max_left n j);have E:=qTq C (Nat.le_max_right n j);simp only[zgq,zKq B.1 B.2 x A];exact zKq E.1 E.2 y M
 .refine⟨n,e,d,Γ',X',w,v,R',?_,K,g,H,?_⟩
  .simp only[zgq,A];cases e<;>first|rfl|exact absurd rfl z
  .cases e<;>first|exact F|exact absurd rfl z
theorem lvq{c:Operand}{x y:Code}{b:Bool}(t:evW C G fr c=some (.bool b))(s:b=true->CoW C G m k0 rd x fr hp nw R Q)(r:b=false->CoW C G m k0 rd y fr hp nw R Q):CoW C G m k0 rd (.cond c x y) fr hp nw R Q:=λi X q j k p h a=>by
 obtain⟨v,e,f⟩:=zXq a.fr a.sat.gl t;rw[RV_bool] at f;subst f
 cases b with
 |true=>
  obtain⟨n,g⟩:=s rfl i X q j k p h a;exact⟨n,by simpa only[zgq,e] using g⟩
 |false=>
  obtain⟨n,g⟩:=r rfl i X q j k p h a;exact⟨n,by simpa only[zgq,e] using g⟩
theorem loq{c:Operand}{x y:Code}(a:evW C G fr c=some (.bool true))(h:CoW C G m k0 rd x fr hp nw R Q):CoW C G m k0 rd (.cond c x y) fr hp nw R Q:=lvq a (λ_=>h) (λh=>by cases h)
theorem fdq{c:Operand}{x y:Code}(a:evW C G fr c=some (.bool false))(h:CoW C G m k0 rd y fr hp nw R Q):CoW C G m k0 rd (.cond c x y) fr hp nw R Q:=lvq a (λh=>by cases h) (λ_=>h)
def Ywq(id:Nat)(Q:qHq):qHq
 |.exit id',fr,hp,nw,R=>match Nat.beq id' id with
  |true=>Q .normal fr hp nw R
  |false=>Q (.exit id') fr hp nw R
 |x,fr,hp,nw,R=>Q x fr hp nw R
theorem oCq{id:Nat}{x:Code}(h:CoW C G m k0 rd x fr hp nw R (Ywq id Q)):CoW C G m k0 rd (.block id x) fr hp nw R Q:=λB X I E F H A D=>by
 obtain⟨n,e,f,Γ',X',g,d,R',u,w,y,v,j⟩:=h B X I E F H A D;cases e with
 |exit q=>
  simp only[Ywq] at j;refine⟨n,(match Nat.beq q id with|true=>.normal|false=>.exit q),f,Γ',X',g,d,R',?_,w,y,v,?_⟩
  .simp only[zgq,u];cases Nat.beq q id<;>rfl
  .cases z:Nat.beq q id with
   |true=>rw[z] at j;exact j
   |false=>rw[z] at j;exact j
 |normal=>exact⟨n,_,f,Γ',X',g,d,R',by simp only[zgq,u],w,y,v,j⟩
 |ret=>exact⟨n,_,f,Γ',X',g,d,R',by simp only[zgq,u],w,y,v,j⟩
 |goto l=>exact⟨n,_,f,Γ',X',g,d,R',by simp only[zgq,u],w,y,v,j⟩
 |panic p=>exact⟨n,_,f,Γ',X',g,d,R',by simp only[zgq,u],w,y,v,j⟩
 |outgrown=>exact⟨n,_,f,Γ',X',g,d,R',by simp only[zgq,u],w,y,v,j⟩
def Kgq(C:Cfg)(G:Nat->Option W)(m k0:Nat)(rd:Bool)(c:Code)(Q:qHq):Nat->qHq
 |0,.goto _,_,_,_,_=>False
 |k+1,.goto l,fr,hp,nw,R=>∃a,findLabel c l=some a/\CoW C G m k0 rd a fr hp nw R (Kgq C G m k0 rd c Q k)
 |_,x,fr,hp,nw,R=>Q x fr hp nw R
theorem boq{c:Code}:∀(k:Nat) {x:Exit} {b:St} {d:Ctx} {X:Nat->Prop} {fr:FrW} {hp:HpW} {R:Res},m<=d.nw->k0<=d.h.next->b.rd=rd->SatS C G k0 d hp X R fr b->Kgq C G m k0 rd c Q k x fr hp d.nw R->
  ∃n I j Γ' X' z q R',(match x with|.goto l=>(Fl C n).scope c l b|_=>some (x,b))=some (I,j)/\SatS C G k0 Γ' q X' R' z j/\Frm m d hp X Γ' q X'/\j.rd=rd/\Q I z q Γ'.nw R'
 |k,.normal,b,d,X,fr,hp,R,_,_,h3,h4,f=>⟨0,_,b,d,X,fr,hp,R,rfl,h4,Frm.refl _ _ _ _,h3,by cases k<;>exact f⟩
 |k,.ret,b,d,X,fr,hp,R,_,_,h3,h4,f=>⟨0,_,b,d,X,fr,hp,R,rfl,h4,Frm.refl _ _ _ _,h3,by cases k<;>exact f⟩
 |k,.exit id,b,d,X,fr,hp,R,_,_,h3,h4,f=>⟨0,_,b,d,X,fr,hp,R,rfl,h4,Frm.refl _ _ _ _,h3,by cases k<;>exact f⟩
 |k,.panic p,b,d,X,fr,hp,R,_,_,h3,h4,f=>⟨0,_,b,d,X,fr,hp,R,rfl,h4,Frm.refl _ _ _ _,h3,by cases k<;>exact f⟩
 |k,.outgrown,b,d,X,fr,hp,R,_,_,h3,h4,f=>⟨0,_,b,d,X,fr,hp,R,rfl,h4,Frm.refl _ _ _ _,h3,by cases k<;>exact f⟩
 |0,.goto l,b,d,X,fr,hp,R,_,_,h3,h4,f=>by simp only[Kgq] at f
 |k+1,.goto l,b,d,X,fr,hp,R,h1,h2,h3,h4,f=>by
  simp only[Kgq] at f;obtain⟨y,P,f⟩:=f;obtain⟨n,e,j,Γ',X',z,q,R',J,U,E,N,M⟩:=f d X b rfl h1 h2 h3 h4;obtain⟨v,F,B,Γ2,X2,fr2,hp2,R2,A,S,O,K,T⟩:=boq k (E.mle h1) (Zt h2 E.next) N U M;refine⟨max n v+1,F,B,Γ2,X2,fr2,hp2,R2,?_,S,E.trans O,K,T⟩;have H:=qTq C (Nat.le_max_left n v);have L:=qTq C (Nat.le_max_right n v);show zVq C (max n v+1) c l b=some (F,B);have D:=zKq H.1 H.2 y J;have D:zgq ⟨y9q C (max n v),zQq C (max n v)⟩ ⟨yhq C (max n v),zVq C (max n v)⟩ C y b=some (e,j):=D;simp only[zVq,P,D];cases e with
  |goto V=>exact L.2.scope _ _ _ _ A
  |normal=>exact A
  |ret=>exact A
  |exit id=>exact A
  |panic p=>exact A
  |outgrown=>exact A
theorem Zyq(k:Nat){c:Code}(h:CoW C G m k0 rd c fr hp nw R (Kgq C G m k0 rd c Q k)):CoW C G m k0 rd (.scope c) fr hp nw R Q:=λv X I j l i r y=>by
 obtain⟨n,e,E,Γ',X',z,u,R',q,J,f,B,A⟩:=h v X I j l i r y;obtain⟨b,t,d,Γ2,X2,fr2,hp2,R2,a,F,D,w,H⟩:=boq k (f.mle (j▸l)) (Zt i f.next) B J A;refine⟨max n b,t,d,Γ2,X2,fr2,hp2,R2,?_,F,f.trans D,w,H⟩;have g:=qTq C (Nat.le_max_left n b);have x:=qTq C (Nat.le_max_right n b);simp only[zgq,zKq g.1 g.2 c q];cases e with
 |goto K=>exact x.2.scope _ _ _ _ a
 |normal=>exact a
 |ret=>exact a
 |exit id=>exact a
 |panic p=>exact a
 |outgrown=>exact a
def Ent(C:Cfg)(G:Nat->Option W)(m k0:Nat)(fr:FrW)(hp:HpW)(nw:Nat)(R:Res)(fr2:FrW)(hp2:HpW)(nw2:Nat)(R2:Res):Prop:=
 ∀a X b,a.nw=nw->m<=nw->SatS C G k0 a hp X R fr b->∃Γ2 X2,Γ2.nw=nw2/\SatS C G k0 Γ2 hp2 X2 R2 fr2 b/\Frm m a hp X Γ2 hp2 X2
theorem Ent.refl:Ent C G m k0 fr hp nw R fr hp nw R:=λa X _ h _ s=>⟨a,X,h,s,Frm.refl _ _ _ _⟩
theorem Ent.trans{d:FrW}{e:HpW}{c:Nat}{R3:Res}(a:Ent C G m k0 fr hp nw R fr2 hp2 nw2 R2)(b:Ent C G m k0 fr2 hp2 nw2 R2 d e c R3):Ent C G m k0 fr hp nw R d e c R3:=λn X j h g s=>by
 obtain⟨Γ2,X2,i,p,f⟩:=a n X j h g s;obtain⟨Γ3,X3,o,k,l⟩:=b Γ2 X2 j i (i▸f.mle (h▸g)) p;exact⟨Γ3,X3,o,k,f.trans l⟩
theorem luq{c:Code}(e:Ent C G m k0 fr hp nw R fr2 hp2 nw2 R2)(h:CoW C G m k0 rd c fr2 hp2 nw2 R2 Q):CoW C G m k0 rd c fr hp nw R Q:=λs X k i j u r t=>by
 obtain⟨Γ2,X2,g,q,a⟩:=e s X k i j t;obtain⟨n,x,d,Γ',X',f,b,R',l,v,w,p,o⟩:=h Γ2 X2 k g (g▸a.mle (i▸j)) (Zt u a.next) r q;exact⟨n,x,d,Γ',X',f,b,R',l,v,a.trans w,p,o⟩
theorem opq(h:∀t w,aqq fr2 t=some w->aqq fr t=some w):Ent C G m k0 fr hp nw R fr2 hp nw R:=λa X d b _ s=>
 ⟨a,X,b,⟨s.hh,λt w c=>s.fr t w (h t w c),s.sat,s.ds,s.nd⟩,Frm.refl _ _ _ _⟩
def uSq{b:Type}(C:Cfg)(G:Nat->Option W)(m k0:Nat)(I:b->Prop)(F:b->FrW)(H:b->HpW)(N:b->Nat)(RR:b->Res)(c:b->Nat)(k:Nat)(Q:qHq):qHq
 |.normal,fr,hp,nw,R=>∃a,I a/\c a<k/\Ent C G m k0 fr hp nw R (F a) (H a) (N a) (RR a)
 |x,fr,hp,nw,R=>Q x fr hp nw R
theorem jAq{α:Type}{c:Code}(I:α->Prop)(F:α->FrW)(H:α->HpW)(N:α->Nat)(RR:α->Res)(L:α->Nat)(y:α)(h0:I y)(he:Ent C G m k0 fr hp nw R (F y) (H y) (N y) (RR y))
  (A:∀a,I a->CoW C G m k0 rd c (F a) (H a) (N a) (RR a) (uSq C G m k0 I F H N RR L (L a) Q)):CoW C G m k0 rd (.loop c) fr hp nw R Q:=by
 have T:∀k a,I a->L a<k->∀w X q,w.nw=N a->m<=N a->k0<=w.h.next->q.rd=rd->SatS C G k0 w (H a) X (RR a) (F a) q->∃n x d Γ' X' j g R',yhq C n c q=some (x,d)/\
   SatS C G k0 Γ' g X' R' j d/\Frm m w (H a) X Γ' g X'/\d.rd=rd/\Q x j g Γ'.nw R':=by
  intro k;induction k with
  |zero=>intro a _ h;omega
  |succ k ih=>
   intro a ha hk w X q D B M O U;obtain⟨n,e,d,Γ',X',j,g,R',J,K,E,g4,g5⟩:=A a ha w X q D B M O U;by_cases Z:e= .normal
   .subst Z;obtain⟨a',i1,i2,i3⟩:=g5;obtain⟨Γ2,X2,e1,e2,e3⟩:=i3 Γ' X' d rfl (E.mle (D▸B)) K;obtain⟨z,x2,P,Γ3,X3,Y,S,R3,k1,k2,k3,k4,k5⟩:=ih a' i1 Xd Γ2 X2 d e1 (e1▸e3.mle (E.mle (D▸B))) (Zt M (Zt E.next e3.next)) g4 e2;refine⟨max n z+1,x2,P,Γ3,X3,Y,S,R3,?_,k2,(E.trans e3).trans k3,k4,k5⟩;have l1:=qTq C (Nat.le_max_left n z);have l2:=qTq C (Nat.le_max_right n z);have V:zgq ⟨y9q C (max n z),zQq C (max n z)⟩ ⟨yhq C (max n z),zVq C (max n z)⟩ C c q=some (.normal,d):=zKq l1.1 l1.2 c J;simp only[yhq,V];exact l2.2.loop _ _ _ k1
   .refine⟨n+1,e,d,Γ',X',j,g,R',?_,K,E,g4,?_⟩
    .have V:zgq ⟨y9q C n,zQq C n⟩ ⟨yhq C n,zVq C n⟩ C c q=some (e,d):=J;simp only[yhq,V];cases e<;>first|rfl|exact absurd rfl Z
    .cases e<;>first|exact g5|exact absurd rfl Z
 refine luq he λw X q D B M O U=>?_
 obtain⟨n,x,d,Γ',X',j,g,R',J,K⟩:=T (L y+1) y h0 (YG _) w X q D B M O U;exact⟨n,x,d,Γ',X',j,g,R',by simp only[zgq,Fl];exact J,K⟩
theorem y6q{b:Type}{I:b->Prop}{F:b->FrW}{H:b->HpW}{N:b->Nat}{RR:b->Res}{c:b->Nat}{k:Nat}(a:b)(f:I a)(e:c a<k)(d:Ent C G m k0 fr hp nw R (F a) (H a) (N a) (RR a)):uSq C G m k0 I F H N RR c k Q .normal fr hp nw R:=⟨a,f,e,d⟩
theorem CSq{y:Code}(h:CoW C G m k0 rd y fr hp nw R Q):Cvq C G m k0 rd y Q .normal fr hp nw R:=h
def ajq(C:Cfg)(G:Nat->Option W)(f:FuncId)(m:Nat)(d:List W)(hp:HpW)(R:Res)(Q:W->HpW->Nat->Res->Prop):Prop:=
 ∀b X c,b.nw=m->SatH C G b hp X R->RVL b d c->∃n v Γ' X' w a R',y9q C n f c b.h=some (v,Γ'.h)/\SatH C G Γ' a X' R'/\Frm m b hp X Γ' a X'/\RV Γ' w v/\Q w a Γ'.nw R'
def ZDq:Nat->List W->FrW
 |_,[]=>[]
 |i,w::ws=>(i,w)::ZDq (i+1) ws
theorem fmq:∀(c:List W) (i k:Nat),aqq (ZDq i c) k=if i<=k/\k<i+c.length then c[k-i]? else none
 |[],i,k=>by simp only[ZDq,aqq,ZP];rw[Zg Xd]
 |w::c,i,k=>by
  simp only[ZDq,aqq,fmq c (i+1) k,Zo];by_cases h:i=k
  .subst h;simp
  .have:Nat.beq i k=false:=by
    cases f:Nat.beq i k with
    |true=>exact absurd (Zi f) h
    |false=>rfl
   rw[this];by_cases d:i+1<=k/\k<i+1+c.length
   .rw[Zl d,Zl Xd,show k-i=(k-(i+1))+1 by omega];simp
   .simp only;rw[Zg d,Zg Xd]
theorem uPq{c:Ctx}:∀{b:List W} {a:List V},RVL c b a->a.length=b.length
 |[],_,h=>by simp only[RVL] at h;subst h;rfl
 |w::b,_,h=>by
  simp only[RVL] at h;obtain⟨v,a,rfl,_,d⟩:=h;simp[uPq d]
theorem Xnq{f:Ctx}{g:List W}{d:List V}(h:RVL f g d):FRel f (ZDq 0 g) (uMq 0 d .nil):=λt w b=>by
 rw[fmq] at b;split at b
 .rename_i j;obtain⟨v,k,o⟩:=l0q h b;refine⟨v,?_,o⟩;rw[ZEq,Zl (by rw[uPq h];exact j)];exact k
 .cases b
def CPq(C:Cfg)(fr:FrW)(hp:HpW):ResultVar->Option W
 |.tmp t=>aqq fr t
 |.cell p T=>match aqq fr p,C.ty T with
  |some (.ptr b off),some i=>match hget hp b with
   |some (_,v)=>zGq 50 v off i.size i.agg
   |none=>none
  |_,_=>none
def hDq(C:Cfg)(fr:FrW)(hp:HpW):List ResultVar->Option (List W)
 |[]=>some []
 |r::l=>match CPq C fr hp r,hDq C fr hp l with
  |some v,some vs=>some (v::vs)
  |_,_=>none
def c7q(C:Cfg)(fr:FrW)(hp:HpW)(a:List ResultVar):Option W:=match hDq C fr hp a with
 |some [w]=>some w
 |some b=>some (.tup b)
 |none=>none
theorem sbq{f:Ctx}{hp:HpW}{X:Nat->Prop}{R:Res}{fr:FrW}{d:Tr V}(s:SatH C G f hp X R)(j:FRel f fr d){r:ResultVar}{w:W}(h:CPq C fr hp r=some w):∃v,w7q C d f.h r=some v/\RV f w v:=by
 cases r with
 |tmp t=>exact j t w h
 |cell p T=>
  simp only[CPq] at h;split at h
  .rename_i b B i l z;obtain⟨v,q,D⟩:=j _ _ l;obtain⟨o,rfl⟩:=RV_ptr.1 D;split at h
   .rename_i H I g;obtain⟨u,F,A,k⟩:=jeq s g;obtain⟨y,E,x,_⟩:=ulq k h;exact⟨y,by simp only[w7q,q,z,A,E],x⟩
   .cases h
  .cases h
theorem v2q{f:Ctx}{hp:HpW}{X:Nat->Prop}{R:Res}{fr:FrW}{d:Tr V}(s:SatH C G f hp X R)(l:FRel f fr d):∀{j:List ResultVar} {k:List W},hDq C fr hp j=some k->∃b,puq C d f.h j=some b/\RVL f k b
 |[],_,h=>by simp only[hDq] at h;cases h;exact⟨[],rfl,by simp[RVL]⟩
 |r::j,_,h=>by
  simp only[hDq] at h;split at h
  .rename_i w k u g;cases h;obtain⟨v,p,q⟩:=sbq s l u;obtain⟨b,t,o⟩:=v2q s l g;refine⟨v::b,by simp only[puq,p,t],?_⟩;simp only[RVL];exact⟨v,b,rfl,q,o⟩
  .cases h
theorem dZq:∀(q:List Nat) {Γ:Ctx} {hp:HpW} {X:Nat->Prop} {R:Res} {k1:Nat},SatH C G Γ hp X R->(∀d∈q,k1<=d/\d<Γ.h.next/\Γ.h.get d=some (.dfr false)/\¬aoq Γ hp d/\¬X d) ->q.Nodup->
  (∀d∈q,¬Γ.D d) ->∃l,qZq q Γ.h=some l/\SatH C G {Γ with h:=l} hp X R/\Γ.Le {Γ with h:=l}/\l.next=Γ.h.next/\(∀c,c<k1->l.get c=Γ.h.get c)/\(∀S:Nat->Prop,S Γ.h.wmin->(∀c,k1<=c->S c) ->S l.wmin)
 |[],Γ,hp,X,R,k1,s,_,_,_=>⟨Γ.h,rfl,s,Ctx.Le.refl _,rfl,λ_ _=>rfl,λ_ h _=>h⟩
 | d ::q,Γ,hp,X,R,k1,s,hd,nd,hD=>by
  obtain⟨Z,h2,M,L,O⟩:=hd d (ZV ..);have H:=hD d (ZV ..);simp only[Y1] at nd
  have g:Γ.Le {Γ with h:=Γ.h.put d (.dfr true)}:=⟨Zb _,λ_ _=>rfl,λ_ h=>h,λc j=>qbq (by
   simp only[Heap.get_put];rw[Zg λe:c=d=>by subst e;exact H j])⟩
  have U:SatH C G {Γ with h:=Γ.h.put d (.dfr true)} hp X R:=by
   refine⟨λi B=>?_,λk V w z=>?_,s.inj,s.nd,s.dX,s.xlt,s.dlt,?_,s.gl.mono g⟩
   .simp only[Heap.get_put];have B:Γ.h.next<=i:=B;rw[Zg Xd];exact s.wf i B
   .obtain⟨F,E,I,u,J,A⟩:=s.own k V w z;refine⟨F,E,I,u,?_,A.mono g⟩;simp only[Heap.get_put];rw[Zg λe=>L ⟨k,_,z,e⟩];exact J
   .exact R.st _ _ _ _ _ s.res g.D g.val (λc j=>by
     simp only[Heap.get_put];rw[Zg λe:c=d=>by subst e;exact O j]) (Zb _)
  obtain⟨l,K,g2,g3,T,P,N⟩:=dZq q (Γ:={Γ with h:=Γ.h.put d (.dfr true)}) (k1:=k1) U (λe y=>by
   obtain⟨F,E,I,J,A⟩:=hd e (ZS _ y);refine⟨F,E,?_,J,A⟩;simp only[Heap.get_put];rw[Zg λY:e=d=>by subst Y;exact nd.1 y];exact I) nd.2 (λe y=>hD e (ZS _ y))
  refine⟨l,?_,g2,⟨Zb _,λ_ _=>rfl,λ_ h=>h,λc j=>(g3.val c j).trans (g.val c j)⟩,T,λc j=>?_,λS z v=>N S ?_ v⟩
  .simp only[qZq,M];exact K
  .rw[P c j];simp only[Heap.get_put];rw[Zg Xd]
  .exact gvq z (v _ Z)
theorem rTq{f:FuncId}{z:Func}{c:Code}{Z:List W}{Q:W->HpW->Nat->Res->Prop}(hk:C.known f=none)(hf:C.fn f=some z)(hb:z.body=some c)(hn:Z.length<=z.ntmps)
  (h:∀k0,CoW C G m k0 false c (ZDq 0 Z) hp m R λx q j N R'=>(x= .normal\/x= .ret)/\∃w,c7q C q j z.results.toList=some w/\Q w j N R'):ajq C G f m Z hp R Q:=λJ X vs h1 s hv=>by
 obtain⟨n,x,b,Γ',X',q,j,R',L,y,g,g4,hx,w,F,hq⟩:=h J.h.next J X ⟨uMq 0 vs .nil,J.h,[],false⟩ h1 (Zb _) (Zb _) rfl ⟨rfl,Xnq hv,s,by simp,YN⟩;have T:∀d∈b.ds,¬Γ'.D d:=λd hd=>(y.ds d hd).2.2.2.2.2
 obtain⟨K,t1,U,t3,t4,t5,t6⟩:=dZq b.ds y.sat (λd hd=>by obtain⟨q1,q2,q3,q4,q5,_⟩:=y.ds d hd;exact⟨q1,q2,q3,q4,q5⟩) y.nd T;have H:FRel {Γ' with h:=K} q b.fr:=y.fr.mono t3
 have E:∃v,duq C z b=some (v,K)/\RV {Γ' with h:=K} w v:=by
  unfold c7q at F;unfold duq;rw[y.hh,t1];simp only;split at F
  .rename_i w0 V;cases F;obtain⟨k,O,B⟩:=v2q U H V;simp only[RVL] at B;obtain⟨v,A,rfl,e3,rfl⟩:=B;exact⟨v,by rw[O],e3⟩
  .rename_i P Y V;cases F;obtain⟨k,O,B⟩:=v2q U H V;refine⟨.tup k,?_,RV_tup.2 ⟨k,rfl,B⟩⟩;rw[O];have hl:=uPq B;cases k with
   |nil=>rfl
   |cons v A=>cases A with
    |nil=>
     cases P with
     |nil=>simp at hl
     |cons a l=>cases l with
      |nil=>exact absurd rfl (Y a)
      |cons _ _=>simp at hl
    |cons _ _=>rfl
  .cases F
 obtain⟨v,I,M⟩:=E;refine⟨n+1,v,{Γ' with h:=K},X',w,j,R',?_,U,?_,M,hq⟩
 .have L:zgq ⟨y9q C n,zQq C n⟩ ⟨yhq C n,zVq C n⟩ C c ⟨uMq 0 vs .nil,J.h,[],false⟩=some (x,b):=L;have hle:Nat.ble vs.length z.ntmps=true:=Zn (by rw[uPq hv];exact hn);simp only[y9q,hk,hf,hb,hle,L];rcases hx with rfl|rfl<;>exact I
 .exact⟨g.sig,g.mle,by rw[t4];exact g.next,λc hc h2 h3=>by rw[t5 c hc];exact g.keep c hc h2 h3,g.dsub,g.dnew,g.oext,g.onum,g.xnew,λS a1 a2 a3=>t6 S (g.wmin S a1 a2 a3) a2⟩
end
mutual
def adq(h:Nat->Nat):W->W
 |.undef=>.undef
 |.bool b=>.bool b
 |.int k n=>.int k n
 |.str s=>.str s
 |.nilp=>.nilp
 |.ptr b q=>.ptr (h b) q
 |.nils=>.nils
 |.sl b A q C j B=>.sl (h b) A q C j B
 |.fz l j w=>.fz (yVq h l) j w
 |.fel x=>.fel (adq h x)
 |.nilm=>.nilm
 |.fn f a c=>.fn f (yVq h a) (yVq h c)
 |.yield l=>.yield l
 |.nilf=>.nilf
 |.iface t v=>.iface t (adq h v)
 |.nili=>.nili
 |.agg n l=>.agg n (yVq h l)
 |.arr n e l=>.arr n e (yVq h l)
 |.tup l=>.tup (yVq h l)
def yVq(a:Nat->Nat):List W->List W
 |[]=>[]
 |w::l=>adq a w::yVq a l
end
mutual
/-- no block of one's own in it -/
def aaq:W->Bool
 |.ptr _ _=>false
 |.sl _ _ _ _ _ _=>false
 |.fz l _ _=>acq l
 |.fel x=>aaq x
 |.fn _ a c=>acq a&&acq c
 |.iface _ v=>aaq v
 |.agg _ l=>acq l
 |.arr _ _ l=>acq l
 |.tup l=>acq l
 |.undef=>true
 |.bool _=>true
 |.int _ _=>true
 |.str _=>true
 |.nilp=>true
 |.nils=>true
 |.nilm=>true
 |.yield _=>true
 |.nilf=>true
 |.nili=>true
def acq:List W->Bool
 |[]=>true
 |w::l=>aaq w&&acq l
end
mutual
/-- all numbers in it lie below m -/
def agq(m:Nat):W->Bool
 |.ptr b _=>decide (b<m)
 |.sl b _ _ _ _ _=>decide (b<m)
 |.fz l _ _=>asq m l
 |.fel x=>agq m x
 |.fn _ a c=>asq m a&&asq m c
 |.iface _ v=>agq m v
 |.agg _ l=>asq m l
 |.arr _ _ l=>asq m l
 |.tup l=>asq m l
 |.undef=>true
 |.bool _=>true
 |.int _ _=>true
 |.str _=>true
 |.nilp=>true
 |.nils=>true
 |.nilm=>true
 |.yield _=>true
 |.nilf=>true
 |.nili=>true
def asq(m:Nat):List W->Bool
 |[]=>true
 |w::l=>agq m w&&asq m l
end
theorem Qmq(a:Nat->Nat):∀l:List W,(yVq a l).length=l.length
 |[]=>rfl
 |w::l=>by simp[yVq,Qmq a l]
theorem xnq(a:Nat->Nat)(w:W):(adq a w).size=w.size:=by cases w<;>rfl
theorem knq(a:Nat->Nat)(w:W):(adq a w).isAgg=w.isAgg:=by cases w<;>rfl
theorem Qnq{f:Nat->Nat}{e:Nat}:∀{l:List W},(∀x∈l,x.size=e) ->∀x∈yVq f l,x.size=e
 |[],_,x,b=>by simp[yVq] at b
 |w::l,h,x,b=>by
  simp only[yVq,ZB] at b;rcases b with rfl|b
  .rw[xnq];exact h w (ZV ..)
  .exact Qnq (λy d=>h y (ZS _ d)) x b
theorem ZWq{τ:Nat->Nat}{e:Nat}:∀{l:List W},(∀x∈yVq τ l,x.size=e) ->∀x∈l,x.size=e
 |[],_,x,b=>by simp at b
 |w::l,h,x,b=>by
  simp only[ZB] at b;rcases b with rfl|b
  .rw[<-xnq τ];exact h _ (by simp[yVq])
  .exact ZWq (τ:=τ) (λy d=>h y (by simp[yVq,d])) x b
mutual
theorem zaq{m:Nat}:∀{w:W},aaq w=true->agq m w=true
 |.undef,_=>rfl
 |.bool _,_=>rfl
 |.int _ _,_=>rfl
 |.str _,_=>rfl
 |.nilp,_=>rfl
 |.ptr _ _,h=>by simp[aaq] at h
 |.nils,_=>rfl
 |.sl _ _ _ _ _ _,h=>by simp[aaq] at h
 |.fz l _ _,h=>by simp only[aaq] at h;simp only[agq,xMq h]
 |.fel x,h=>by simp only[aaq] at h;simp only[agq,zaq h]
 |.nilm,_=>rfl
 |.fn _ a c,h=>by simp only[aaq,Zd] at h;simp only[agq,xMq h.1,xMq h.2,Bool.and_self]
 |.yield _,_=>rfl
 |.nilf,_=>rfl
 |.iface _ v,h=>by simp only[aaq] at h;simp only[agq,zaq h]
 |.nili,_=>rfl
 |.agg _ l,h=>by simp only[aaq] at h;simp only[agq,xMq h]
 |.arr _ _ l,h=>by simp only[aaq] at h;simp only[agq,xMq h]
 |.tup l,h=>by simp only[aaq] at h;simp only[agq,xMq h]
theorem xMq{m:Nat}:∀{l:List W},acq l=true->asq m l=true
 |[],_=>rfl
 |w::l,h=>by simp only[acq,Zd] at h;simp only[asq,zaq h.1,xMq h.2,Bool.and_self]
end
mutual
theorem zdq{τ:Nat->Nat}:∀{w:W},aaq w=true->adq τ w=w
 |.undef,_=>rfl
 |.bool _,_=>rfl
 |.int _ _,_=>rfl
 |.str _,_=>rfl
 |.nilp,_=>rfl
 |.ptr _ _,h=>by simp[aaq] at h
 |.nils,_=>rfl
 |.sl _ _ _ _ _ _,h=>by simp[aaq] at h
 |.fz l _ _,h=>by simp only[aaq] at h;simp only[adq,xKq h]
 |.fel x,h=>by simp only[aaq] at h;simp only[adq,zdq h]
 |.nilm,_=>rfl
 |.fn _ a c,h=>by simp only[aaq,Zd] at h;simp only[adq,xKq h.1,xKq h.2]
 |.yield _,_=>rfl
 |.nilf,_=>rfl
 |.iface _ v,h=>by simp only[aaq] at h;simp only[adq,zdq h]
 |.nili,_=>rfl
 |.agg _ l,h=>by simp only[aaq] at h;simp only[adq,xKq h]
 |.arr _ _ l,h=>by simp only[aaq] at h;simp only[adq,xKq h]
 |.tup l,h=>by simp only[aaq] at h;simp only[adq,xKq h]
theorem xKq{a:Nat->Nat}:∀{l:List W},acq l=true->yVq a l=l
 |[],_=>rfl
 |w::l,h=>by simp only[acq,Zd] at h;simp only[yVq,zdq h.1,xKq h.2]
end
section
variable {Γ Γ':Ctx}
structure Via(τ:Nat->Nat)(Γ Γ':Ctx):Prop where
 nw:∀b,b<Γ.nw->τ b<Γ'.nw
 σ:∀b,b<Γ.nw->Γ'.σ (τ b)=Γ.σ b
 D:∀b,Γ.D b->Γ'.D b
 val:∀b,Γ.D b->Γ'.h.val b=Γ.h.val b
mutual
theorem Yvq{τ:Nat->Nat}(v:Via τ Γ Γ'):∀{w:W} {s:List V},RS Γ w s->RS Γ' (adq τ w) s
 |.undef,_,h=>by simp only[adq,RS] at h⊢;exact h
 |.bool _,_,h=>by simp only[adq,RS] at h⊢;exact h
 |.int _ _,_,h=>by simp only[adq,RS] at h⊢;exact h
 |.str _,_,h=>by simp only[adq,RS] at h⊢;exact h
 |.nilp,_,h=>by simp only[adq,RS] at h⊢;exact h
 |.ptr b _,_,h=>by simp only[adq,RS] at h⊢;exact⟨v.nw b h.1,by rw[v.σ b h.1];exact h.2⟩
 |.nils,_,h=>by simp only[adq,RS] at h⊢;exact h
 |.sl b _ _ _ _ _,_,h=>by simp only[adq,RS] at h⊢;exact⟨v.nw b h.1,by rw[v.σ b h.1];exact h.2⟩
 |.fz l e full,_,h=>by
  simp only[adq,RS,Qmq] at h⊢;rcases h with ⟨rfl,h⟩|⟨b,base,q,lim,C,j,A,k,B,G,F,h6,E⟩
  .exact .inl ⟨rfl,h⟩
  .exact .inr ⟨b,base,q,lim,C,j,A,v.D b k,by rw[v.val b k];exact B,G,F,Qnq h6,Xuq v E⟩
 |.fel x,_,h=>by
  simp only[adq,RS,xnq,knq] at h⊢;obtain⟨b,q,C,j,k,B,F,G,I,E⟩:=h;exact⟨b,q,C,j,v.D b k,by rw[v.val b k];exact B,F,G,I,Yvq v E⟩
 |.nilm,_,h=>by simp only[adq,RS] at h⊢;exact h
 |.fn f a c,_,h=>by
  simp only[adq,RS] at h⊢;obtain⟨K,J,j,A,k⟩:=h;exact⟨K,J,j,Xsq v A,Xsq v k⟩
 |.yield _,_,h=>by simp only[adq,RS] at h⊢;exact h
 |.nilf,_,h=>by simp only[adq,RS] at h⊢;exact h
 |.iface t x,_,h=>by
  simp only[adq,RS,knq] at h⊢;obtain⟨u,j,A,k⟩:=h;exact⟨u,j,A,Yvq v k⟩
 |.nili,_,h=>by simp only[adq,RS] at h⊢;exact h
 |.agg n l,_,h=>by simp only[adq,RS] at h⊢;exact⟨h.1,Xuq v h.2⟩
 |.arr n e l,_,h=>by simp only[adq,RS] at h⊢;exact⟨h.1,Qnq h.2.1,Xuq v h.2.2⟩
 |.tup l,_,h=>by
  simp only[adq,RS] at h⊢;obtain⟨H,j,A⟩:=h;exact⟨H,j,Xsq v A⟩
theorem Xuq{a:Nat->Nat}(v:Via a Γ Γ'):∀{l:List W} {s:List V},RSL Γ l s->RSL Γ' (yVq a l) s
 |[],_,h=>by simp only[yVq,RSL] at h⊢;exact h
 |x::l,_,h=>by simp only[yVq,RSL,xnq] at h⊢;exact⟨Yvq v h.1,Xuq v h.2⟩
theorem Xsq{c:Nat->Nat}(v:Via c Γ Γ'):∀{l:List W} {b:List V},RVL Γ l b->RVL Γ' (yVq c l) b
 |[],_,h=>by simp only[yVq,RVL] at h⊢;exact h
 |x::l,_,h=>by
  simp only[yVq,RVL,knq] at h⊢;obtain⟨u,a,d,⟨f,g⟩,e⟩:=h;exact⟨u,a,d,⟨f,Yvq v g⟩,Xsq v e⟩
end
theorem rnq{a:Nat->Nat}(v:Via a Γ Γ'){w:W}{u:V}(h:RV Γ w u):RV Γ' (adq a w) u:=⟨by rw[knq];exact h.1,Yvq v h.2⟩
mutual
/-- and back: what is under other numbers -/
theorem uQq{τ:Nat->Nat}{m:Nat}(q:Γ'.nw=m)(j:∀b,b<m->Γ'.σ b=Γ.σ (τ b))(k:∀b,Γ.D b->Γ'.D b)(v:∀b,Γ.D b->Γ'.h.val b=Γ.h.val b):∀{w:W} {s:List V},agq m w=true->RS Γ (adq τ w) s->RS Γ' w s
 |.undef,_,_,h=>by simp only[adq,RS] at h⊢;exact h
 |.bool _,_,_,h=>by simp only[adq,RS] at h⊢;exact h
 |.int _ _,_,_,h=>by simp only[adq,RS] at h⊢;exact h
 |.str _,_,_,h=>by simp only[adq,RS] at h⊢;exact h
 |.nilp,_,_,h=>by simp only[adq,RS] at h⊢;exact h
 |.ptr b _,_,hr,h=>by
  simp only[agq,YK] at hr;simp only[adq,RS] at h⊢;exact⟨q▸hr,by rw[j b hr];exact h.2⟩
 |.nils,_,_,h=>by simp only[adq,RS] at h⊢;exact h
 |.sl b _ _ _ _ _,_,hr,h=>by
  simp only[agq,YK] at hr;simp only[adq,RS] at h⊢;exact⟨q▸hr,by rw[j b hr];exact h.2⟩
 |.fz l e full,_,hr,h=>by
  simp only[agq] at hr;simp only[adq,RS,Qmq] at h⊢;rcases h with ⟨L,h⟩|⟨b,base,C,lim,G,A,E,B,F,J,I,h6,H⟩
  .refine .inl ⟨?_,h⟩;cases l with
   |nil=>rfl
   |cons _ _=>simp[yVq] at L
  .exact .inr ⟨b,base,C,lim,G,A,E,k b B,by rw[v b B];exact F,J,I,ZWq h6,Y6q q j k v hr H⟩
 |.fel x,_,hr,h=>by
  simp only[agq] at hr;simp only[adq,RS,xnq,knq] at h⊢;obtain⟨b,C,G,A,B,F,I,J,M,H⟩:=h;exact⟨b,C,G,A,k b B,by rw[v b B];exact F,I,J,M,uQq q j k v hr H⟩
 |.nilm,_,_,h=>by simp only[adq,RS] at h⊢;exact h
 |.fn f a c,_,hr,h=>by
  simp only[agq,Zd] at hr;simp only[adq,RS] at h⊢;obtain⟨O,N,A,E,B⟩:=h;exact⟨O,N,A,ZGq q j k v hr.1 E,ZGq q j k v hr.2 B⟩
 |.yield _,_,_,h=>by simp only[adq,RS] at h⊢;exact h
 |.nilf,_,_,h=>by simp only[adq,RS] at h⊢;exact h
 |.iface t x,_,hr,h=>by
  simp only[agq] at hr;simp only[adq,RS,knq] at h⊢;obtain⟨u,A,E,B⟩:=h;exact⟨u,A,E,uQq q j k v hr B⟩
 |.nili,_,_,h=>by simp only[adq,RS] at h⊢;exact h
 |.agg n l,_,hr,h=>by
  simp only[agq] at hr;simp only[adq,RS] at h⊢;exact⟨h.1,Y6q q j k v hr h.2⟩
 |.arr n e l,_,hr,h=>by
  simp only[agq] at hr;simp only[adq,RS] at h⊢;exact⟨h.1,ZWq h.2.1,Y6q q j k v hr h.2.2⟩
 |.tup l,_,hr,h=>by
  simp only[agq] at hr;simp only[adq,RS] at h⊢;obtain⟨K,A,E⟩:=h;exact⟨K,A,ZGq q j k v hr E⟩
theorem Y6q{e:Nat->Nat}{m:Nat}(c:Γ'.nw=m)(a:∀b,b<m->Γ'.σ b=Γ.σ (e b))(d:∀b,Γ.D b->Γ'.D b)(f:∀b,Γ.D b->Γ'.h.val b=Γ.h.val b):∀{l:List W} {s:List V},asq m l=true->RSL Γ (yVq e l) s->RSL Γ' l s
 |[],_,_,h=>by simp only[yVq,RSL] at h⊢;exact h
 |x::l,_,hr,h=>by
  simp only[asq,Zd] at hr;simp only[yVq,RSL,xnq] at h⊢;exact⟨uQq c a d f hr.1 h.1,Y6q c a d f hr.2 h.2⟩
theorem ZGq{τ:Nat->Nat}{m:Nat}(d:Γ'.nw=m)(a:∀b,b<m->Γ'.σ b=Γ.σ (τ b))(e:∀b,Γ.D b->Γ'.D b)(g:∀b,Γ.D b->Γ'.h.val b=Γ.h.val b):∀{l:List W} {f:List V},asq m l=true->RVL Γ (yVq τ l) f->RVL Γ' l f
 |[],_,_,h=>by simp only[yVq,RVL] at h⊢;exact h
 |x::l,_,hr,h=>by
  simp only[asq,Zd] at hr;simp only[yVq,RVL,knq] at h⊢;obtain⟨u,c,i,⟨k,n⟩,j⟩:=h;exact⟨u,c,i,⟨k,uQq d a e g hr.1 n⟩,ZGq d a e g hr.2 j⟩
end
end
def zUq(C:Cfg)(G:Nat->Option W)(f:FuncId)(m:Nat)(c:List W)(d:HpW)(Q:W->HpW->Nat->Prop):Prop:=
 ∀R,ajq C G f m c d R λw a b R'=>R'=R/\Q w a b
def afq(ext:List Nat)(a:Nat)(i:Nat):Nat:=match ext[i]? with
 |some b=>b
 |none=>a+(i-ext.length)
def ahq(a:Nat->Nat):HpW->HpW
 |[]=>[]
 |(b,ty,w)::hp=>(a b,ty,adq a w)::ahq a hp
def aRq:List Nat->HpW->HpW
 |[],hp=>hp
 |b::l,hp=>aRq l (ayq hp b)
section
variable {C:Cfg} {G:Nat->Option W}
theorem bIq{c:Nat->Nat}(h:∀i j,c i=c j->i=j):∀{l:List Nat},l.Nodup->(l.map c).Nodup
 |[],_=>YN
 |a::l,hl=>by
  simp only[Y1,ZD] at hl⊢;refine⟨λe=>?_,bIq h hl.2⟩;obtain⟨b,f,g⟩:=Z2.1 e;exact hl.1 (h b a g▸f)
theorem e8q{b:Nat}:∀{l:List Nat} {a:HpW},(a.map (·.1)).Nodup->hget (aRq l a) b=if b∈l then none else hget a b
 |[],a,_=>by simp[aRq]
 |k::l,a,h=>by
  simp only[aRq];rw[e8q (h.sublist hdel_sub),QEq h];by_cases e:k=b
  .subst e;simp
  .rw[Zg e];by_cases c:b∈l
   .rw[Zl c,Zl (ZS _ c)]
   .rw[Zg c,Zg];simp only[ZB,not_or];exact⟨λf=>e f.symm,c⟩
theorem e7q:∀{l:List Nat} {hp:HpW},((aRq l hp).map (·.1)).Sublist (hp.map (·.1))
 |[],_=>List.Sublist.refl _
 |b::l,hp=>(e7q (l:=l) (hp:=ayq hp b)).trans hdel_sub
theorem vAq{b:Nat}:∀{d:HpW},b∈d.map (·.1) ->∃x,hget d b=some x
 |[],h=>by simp at h
 |(k,y)::d,h=>by
  rw[zfq];split
  .exact⟨_,rfl⟩
  .rename_i f;simp only[ZD,ZB] at h;rcases h with h|h
   .exact absurd h.symm f
   .exact vAq h
theorem egq{g:Nat->Nat}{n:Nat}(q:∀i j,i<n->j<n->g i=g j->i=j):∀{f:HpW} {b:Nat} {x:TypeId×W},(∀i y,hget f i=some y->i<n) ->(f.map (·.1)).Nodup->hget (ahq g f) b=some x->∃i y,hget f i=some y/\b=g i/\x=(y.1,adq g y.2)
 |[],b,x,_,_,h=>by simp[ahq,hget] at h
 |(k,ty,w)::f,b,x,hn,nd,h=>by
  simp only[ahq] at h;rw[zfq] at h;split at h
  .rename_i e;cases h;exact⟨k,(ty,w),by rw[zfq,Zl rfl],e.symm,rfl⟩
  .simp only[ZD,Y1] at nd;have c:∀i y,hget f i=some y->k≠i:=λi y l e=>nd.1 (e▸KZq l)
   obtain⟨i,y,t,v,z⟩:=egq q (λi y l=>hn i y (by rw[zfq,Zg (c i y l)];exact l)) nd.2 h;exact⟨i,y,by rw[zfq,Zg (c i y t)];exact t,v,z⟩
theorem btq{c:Nat->Nat}:∀{b:HpW},(ahq c b).map (·.1)=(b.map (·.1)).map c
 |[]=>rfl
 |(k,ty,w)::b=>by simp[ahq,btq]
theorem QFq{b:Nat}{r:HpW}:∀{d:HpW},hget (d++r) b=match hget d b with|some x=>some x|none=>hget r b
 |[]=>rfl
 |(k,y)::d=>by
  rw[YW,zfq,zfq];split
  .rfl
  .exact QFq
def Khq(ext:List Nat)(d:Nat)(a e:HpW):Prop:=∀i c w,hget a i=some (c,w) ->i<ext.length/\agq ext.length w=true/\∃b,ext[i]? =some b/\hget e b=some (c,adq (afq ext d) w)
theorem cgq{f:FuncId}{ext:List Nat}{ws:List W}{hp0:HpW}{Q:W->HpW->Nat->Prop}(sp:zUq C G f ext.length ws hp0 Q){g:Ctx}{hp:HpW}{X:Nat->Prop}{R:Res}(s:SatH C G g hp X R){vs:List V}
  (hnd:ext.Nodup) (hext:∀b∈ext,b<g.nw) (hkn:(hp0.map (·.1)).Nodup) (hh:Khq ext g.nw hp0 hp) (hr:asq ext.length ws=true) (hv:RVL g (yVq (afq ext g.nw) ws) vs):
  ∃n v Γ' w P nw1,y9q C n f vs g.h=some (v,Γ'.h)/\Q w P nw1/\Γ'.nw=g.nw+(nw1-ext.length)/\g.Le Γ'/\SatH C G Γ' (ahq (afq ext g.nw) P++aRq ext hp) X R/\Frm g.nw g hp X Γ' (ahq (afq ext g.nw) P++aRq ext hp) X/\RV Γ' (adq (afq ext g.nw) w) v/\
   (g.h.wmin=g.h.next->g.h.next<=Γ'.h.wmin\/∃b∈ext,Γ'.h.wmin=g.σ b)/\(∀c,c<g.h.next->(∀b∈ext,c≠g.σ b) ->Γ'.h.get c=g.h.get c):=by
 --the called one's view
 have B:∀{i},i<ext.length->∃b,ext[i]? =some b/\afq ext g.nw i=b/\b<g.nw:=λ{i} hi=>by
  obtain⟨b,Z⟩:∃b,ext[i]? =some b:=⟨_,Za hi⟩
  exact⟨b,Z,by simp only[afq,Z],hext b (Zj Z)⟩
 have E:∀{i},ext.length<=i->afq ext g.nw i=g.nw+(i-ext.length):=λ{i} hi=>by
  simp only[afq,List.getElem?_eq_none hi]
 have S:∀i j,afq ext g.nw i=afq ext g.nw j->i=j:=λi j e=>by
  rcases ZL i ext.length with hi|hi<;>rcases ZL j ext.length with F|F
  .obtain⟨b,q,A,_⟩:=B hi;obtain⟨c,H,U,_⟩:=B F;rw[A,U] at e;subst e
   exact(List.getElem?_inj hi hnd).1 (q.trans H.symm)
  .obtain⟨b,q,A,M⟩:=B hi;rw[A,E F] at e;omega
  .obtain⟨b,q,A,M⟩:=B F;rw[A,E hi] at e;omega
  .rw[E hi,E F] at e;omega
 have I:∀{i x},hget hp0 i=some x->i<ext.length/\∃b,ext[i]? =some b/\afq ext g.nw i=b/\b<g.nw/\hget hp b=some (x.1,adq (afq ext g.nw) x.2):=λ{i x} h=>by
  obtain⟨q,A,b,H,U⟩:=hh i x.1 x.2 h;obtain⟨b',M,h6,h7⟩:=B q;rw[H] at M;cases M
  exact⟨q,b,H,h6,h7,U⟩
 let Γ0:Ctx:=⟨ext.length,λi=>g.σ (afq ext g.nw i),g.D,g.h⟩
 have back:∀{w:W} {v:V},agq ext.length w=true->RV g (adq (afq ext g.nw) w) v->RV Γ0 w v:=λ{w v} q A=>⟨by rw[<-knq (afq ext g.nw)];exact A.1,uQq (Γ:=g) (Γ':=Γ0) (τ:=afq ext g.nw) rfl (λ_ _=>rfl) (λ_ h=>h) (λ_ _=>rfl) q A.2⟩
 have s0:SatH C G Γ0 hp0 (λ_=>False) Res.none:=by
  refine⟨s.wf,λi ty w h=>?_,λi j x y hx hy e=>?_,hkn,λ_ _ h=>h,λ_ h=>h.elim,s.dlt,trivial,s.gl⟩
  .obtain⟨q,b,A,H,U,M⟩:=I h;obtain⟨q1,q2,q3,u,q4,q5⟩:=s.own b _ _ M;refine⟨q,?_,λh=>h,u,?_,back (hh i ty w h).2.1 q5⟩
   .show¬g.D (g.σ (afq ext g.nw i));rw[H];exact q2
   .show g.h.get (g.σ (afq ext g.nw i))=_;rw[H];exact q4
  .obtain⟨q,b,A,H,U,M⟩:=I hx;obtain⟨g1,c,g2,Y,g4,g5⟩:=I hy;have e:g.σ (afq ext g.nw i)=g.σ (afq ext g.nw j):=e;rw[H,Y] at e;have:=s.inj b c _ _ M g5 e;exact S i j (by rw[H,Y];exact this)
 have hv0:RVL Γ0 ws vs:=ZGq (Γ:=g) (Γ':=Γ0) (τ:=afq ext g.nw) rfl (λ_ _=>rfl) (λ_ h=>h) (λ_ _=>rfl) hr hv;obtain⟨n,v,Γ1,X1,w,P,R1,g1,g2,Y,g4,rfl,hq⟩:=sp Res.none Γ0 (λ_=>False) vs rfl s0 hv0
 --the caller's view behind it
 let Γ':Ctx:=⟨g.nw+(Γ1.nw-ext.length),λi=>if i<g.nw then g.σ i else Γ1.σ (i-g.nw+ext.length),Γ1.D,Γ1.h⟩
 have hnw1:ext.length<=Γ1.nw:=Y.mle (Zb _)
 have K:∀{c},aoq Γ0 hp0 c->aoq g hp c:=λ{c} h=>by
  obtain⟨i,x,q,A⟩:=h;obtain⟨_,b,_,H,_,M⟩:=I q;have A:g.σ (afq ext g.nw i)=c:=A;exact⟨b,_,M,by rw[<-H];exact A⟩
 have O:∀{c},c<g.h.next->¬aoq Γ0 hp0 c->Γ1.h.get c=g.h.get c:=λq A=>Y.keep _ q A (λh=>h)
 have dOwn:∀{c},g.D c->¬aoq g hp c:=λhd h=>by
  obtain⟨b,x,q,rfl⟩:=h;exact(s.own b x.1 x.2 q).2.1 hd
 have le:g.Le Γ':=by
  refine⟨Nat.le_add_right _ _,λb Z=>by show(if b<g.nw then _ else _)=_;rw[Zl Z],Y.dsub,λc L=>qbq ?_⟩;exact O (s.dlt c L) λh=>dOwn L (K h)
 have σ':∀{j},j<Γ1.nw->Γ'.σ (afq ext g.nw j)=Γ1.σ j:=λ{j} F=>by
  rcases ZL j ext.length with h|h
  .obtain⟨b,q,A,H⟩:=B h;show(if afq ext g.nw j<g.nw then _ else _)=_;rw[Zl (by rw[A];exact H),Y.sig j h]
  .show(if afq ext g.nw j<g.nw then _ else _)=_;rw[E h,Zg Xd];congr 1;omega
 have via:Via (afq ext g.nw) Γ1 Γ':=by
  refine⟨λb Z=>?_,λb Z=>σ' Z,λ_ h=>h,λ_ _=>rfl⟩;show _<g.nw+(Γ1.nw-ext.length);rcases ZL b ext.length with h|h
  .obtain⟨c,q,A,H⟩:=B h;rw[A];omega
  .rw[E h];omega
 have lt1:∀i y,hget P i=some y->i<Γ1.nw:=λi y h=>(g2.own i y.1 y.2 h).1
 have rest:∀{b x},hget (aRq ext hp) b=some x->b∉ext/\hget hp b=some x:=λ{b x} h=>by
  rw[e8q s.nd] at h;split at h
  .cases h
  .rename_i A;exact⟨A,h⟩
 have notOwn0:∀{b x},b∉ext->hget hp b=some x->¬aoq Γ0 hp0 (g.σ b):=λ{b x} q A h=>by
  obtain⟨i,y,H,U⟩:=h;obtain⟨_,c,M,h6,h7,h8⟩:=I H;have U:g.σ (afq ext g.nw i)=g.σ b:=U;rw[h6] at U;have:=s.inj c b _ _ h8 A U;exact q (this▸Zj M)
 have T:∀{b x},hget hp b=some x->g.σ b<g.h.next:=λ{b x} h=>by
  obtain⟨_,_,_,u,q,_⟩:=s.own b x.1 x.2 h;rcases ZL (g.σ b) g.h.next with h|h
  .exact h
  .rw[s.wf _ h] at q;cases q
 --where a block of hp' comes from
 have J:∀{b x},hget (ahq (afq ext g.nw) P++aRq ext hp) b=some x->(∃j y,hget P j=some y/\b=afq ext g.nw j/\x=(y.1,adq (afq ext g.nw) y.2))\/(b∉ext/\hget hp b=some x):=λ{b x} h=>by
  rw[QFq] at h;split at h
  .rename_i z hz;cases h;exact .inl (egq (λi j _ _ e=>S i j e) (λi y hy=>lt1 i y hy) g2.nd hz)
  .exact .inr (rest h)
 have new1:∀{j y},hget P j=some y->ext.length<=j->g.h.next<=Γ1.σ j:=λ{j y} q A=>by
  rcases Y.onum j y A q with h|⟨k,z,H,U,_⟩
  .exact h
  .have:=(I U).1;omega
 have ext1:∀{j y},hget P j=some y->j<ext.length->∃b z,ext[j]? =some b/\afq ext g.nw j=b/\hget hp b=some z/\Γ1.σ j=g.σ b:=λ{j y} q A=>by
  obtain⟨z,hz⟩:=Y.oext j y A q;obtain⟨_,b,H,U,_,M⟩:=I hz;exact⟨b,_,H,U,M,by rw[Y.sig j A];show g.σ (afq ext g.nw j)=_;rw[U]⟩
 have xkeep:∀{c},X c->Γ1.h.get c=g.h.get c:=λ{c} h=>by
  refine O (s.xlt c h) λho=>?_
  obtain⟨b,x,q,rfl⟩:=K ho;exact(s.own b x.1 x.2 q).2.2.1 h
 have s':SatH C G Γ' (ahq (afq ext g.nw) P++aRq ext hp) X R:=by
  refine⟨g2.wf,λb ty w h=>?_,λb b' x y hx hy e=>?_,?_,λc L hX=>?_,λc L=>Zv (s.xlt c L) Y.next,g2.dlt,?_,s.gl.mono le⟩
  .rcases J h with ⟨j,y,q,rfl,H⟩|⟨q,A⟩
   .cases H;obtain⟨q1,q2,q3,u,q4,q5⟩:=g2.own j y.1 y.2 q;rw[σ' q1];refine⟨via.nw j q1,q2,λhX=>?_,u,q4,rnq via q5⟩;rcases ZL j ext.length with F|F
    .obtain⟨b,z,M,h6,h7,h8⟩:=ext1 q F;rw[h8] at hX;exact(s.own b z.1 z.2 h7).2.2.1 hX
    .have:=new1 q F;have:=s.xlt _ hX;omega
   .obtain⟨q1,q2,q3,u,q4,q5⟩:=s.own b ty w A;rw[le.σ b q1];refine⟨Zv q1 le.nw,λhd=>?_,q3,u,?_,q5.mono le⟩
    .rcases Y.dnew _ hd with h|(h|h)|h
     .exact q2 h
     .exact notOwn0 q A h
     .exact h.elim
     .have:=T A;have h:g.h.next<=_:=h;omega
    .rw[<-q4];exact O (T A) (notOwn0 q A)
  .rcases J hx with ⟨j,y1,q,rfl,_⟩|⟨q,A⟩<;>rcases J hy with ⟨j',y2,k1,rfl,_⟩|⟨k1,k2⟩
   .rw[σ' (lt1 _ _ q),σ' (lt1 _ _ k1)] at e;rw[g2.inj j j' _ _ q k1 e]
   .exfalso
    rw[σ' (lt1 _ _ q),le.σ b' (s.own b' y.1 y.2 k2).1] at e;rcases ZL j ext.length with F|F
    .obtain⟨c,z,M,h6,h7,h8⟩:=ext1 q F;rw[h8] at e;have:=s.inj c b' _ _ h7 k2 e;exact k1 (this▸Zj M)
    .have:=new1 q F;have:=T k2;omega
   .exfalso
    rw[σ' (lt1 _ _ k1),le.σ b (s.own b x.1 x.2 A).1] at e;rcases ZL j' ext.length with F|F
    .obtain⟨c,z,M,h6,h7,h8⟩:=ext1 k1 F;rw[h8] at e;have:=s.inj b c _ _ A h7 e;exact q (this▸Zj M)
    .have:=new1 k1 F;have:=T A;omega
   .rw[le.σ b (s.own b x.1 x.2 A).1,le.σ b' (s.own b' y.1 y.2 k2).1] at e;exact s.inj b b' _ _ A k2 e
  .rw[Z4,btq];refine List.nodup_append.2 ⟨?_,s.nd.sublist e7q,λa ha b Z e=>?_⟩
   .exact bIq S g2.nd
   .subst e;obtain⟨x,hx⟩:=vAq Z;obtain⟨q,A⟩:=rest hx;obtain⟨j,F,rfl⟩:=Z2.1 ha;obtain⟨y,hy⟩:=vAq F;rcases ZL j ext.length with F|F
    .obtain⟨c,M,h6,_⟩:=B F;rw[h6] at q;exact q (Zj M)
    .have:=(s.own _ x.1 x.2 A).1;rw[E F] at this;omega
  .rcases Y.dnew c L with h|(h|h)|h
   .exact s.dX c h hX
   .obtain⟨b,x,q,rfl⟩:=K h;exact(s.own b x.1 x.2 q).2.2.1 hX
   .exact h.elim
   .have:=s.xlt c hX;have h:g.h.next<=c:=h;omega
  .exact R.st _ _ _ _ _ s.res le.D le.val (λc L=>xkeep L) Y.next
 refine⟨n,v,Γ',w,P,Γ1.nw,g1,hq,rfl,le,s',⟨λb Z=>le.σ b Z,λh=>Zt h le.nw,Y.next,λc q A _=>O q λh=>A (K h),Y.dsub,λc L=>?_,λb x Z h=>?_,λb x Z h=>?_,λ_ h=>.inl h,λk q A H=>?_⟩,rnq via g4,λhw=>?_,λc L Z=>O L λ⟨i,x,q,A⟩=>?_⟩
 .rcases Y.dnew c L with h|(h|h)|h
  .exact .inl h
  .exact .inr (.inl (.inl (K h)))
  .exact h.elim
  .exact .inr (.inr h)
 .rcases J h with ⟨j,y,q,rfl,H⟩|⟨q,A⟩
  .rcases ZL j ext.length with F|F
   .obtain⟨c,z,M,h6,h7,h8⟩:=ext1 q F;exact⟨z,by rw[h6];exact h7⟩
   .rw[E F] at Z;omega
  .exact⟨x,A⟩
 .rcases J h with ⟨j,y,q,rfl,H⟩|⟨q,A⟩
  .rcases ZL j ext.length with F|F
   .obtain⟨c,M,h6,h7⟩:=B F;rw[h6] at Z;omega
   .left;rw[σ' (lt1 _ _ q)];exact new1 q F
  .have:=(s.own b x.1 x.2 A).1;omega
 .exact Y.wmin k q A λc L=>by
   rcases L with L|L
   .exact H c (.inl (K L))
   .exact L.elim
 .refine Y.wmin (λc=>g.h.next<=c\/∃b∈ext,c=g.σ b) (.inl (by show g.h.next<=g.h.wmin;omega)) (λc L=>.inl L) λc L=>?_
  rcases L with ⟨i,x,q,A⟩|L
  .obtain⟨_,b,H,U,_,_⟩:=I q;exact .inr ⟨b,Zj H,by rw[<-A,<-U]⟩
  .exact L.elim
 .obtain⟨_,b,H,U,_,_⟩:=I q;exact Z b (Zj H) (by rw[<-A,<-U])
end
section
mutual
/-- a value, some blocks of one's own in it seen as what stays -/
inductive View(blk:Nat->Option W):W->W->Prop where
 |pur {w:W} (h:aaq w=true):View blk w w
 |nilfz {e:Nat} {f:Bool}:View blk .nils (.fz [] e f)
 |fzw {l:List W} {e:Nat} {f:Bool} (h:acq l=true):View blk (.fz l e f) (.fz l e false)
 |sl {b base off len esz:Nat} {lim:Option Nat} {c:W} {xs:List W} {full:Bool} (hb:blk b=some c) (hc:aaq c=true) (hx:ymq 50 c off len esz=some xs) (hf:full=true->lim=some len):View blk (.sl b base off len esz lim) (.fz xs esz full)
 |sl2 {b base off len esz:Nat} {lim:Option Nat} {c c':W} {xs:List W} {full:Bool} (hb:blk b=some c) (hv:View blk c c') (hx:ymq 50 c' off len esz=some xs) (hf:full=true->lim=some len):View blk (.sl b base off len esz lim) (.fz xs esz full)
 |ptr {b off n:Nat} {ag:Bool} {c x:W} (hb:blk b=some c) (hc:aaq c=true) (hx:zGq 50 c off n ag=some x):View blk (.ptr b off) (.fel x)
 |ptr2 {b off n:Nat} {ag:Bool} {c c' x:W} (hb:blk b=some c) (hv:View blk c c') (hx:zGq 50 c' off n ag=some x):View blk (.ptr b off) (.fel x)
 |ptrK {b off:Nat} (hb:blk b=none):View blk (.ptr b off) (.ptr b off)
 |slK {b base off len esz:Nat} {lim:Option Nat} (hb:blk b=none):View blk (.sl b base off len esz lim) (.sl b base off len esz lim)
 |agg {n:Nat} {l l':List W} (h:ViewL blk l l'):View blk (.agg n l) (.agg n l')
 |arr {n e:Nat} {l l':List W} (h:ViewL blk l l'):View blk (.arr n e l) (.arr n e l')
 |tup {l l':List W} (h:ViewL blk l l'):View blk (.tup l) (.tup l')
 |fn {f:FuncId} {a a' c c':List W} (h:ViewL blk a a') (k:ViewL blk c c'):View blk (.fn f a c) (.fn f a' c')
 |iface {t:TypeId} {v v':W} (h:View blk v v'):View blk (.iface t v) (.iface t v')
inductive ViewL(blk:Nat->Option W):List W->List W->Prop where
 |nil:ViewL blk [] []
 |cons {x x':W} {l l':List W} (h:View blk x x') (k:ViewL blk l l'):ViewL blk (x::l) (x'::l')
end
theorem View.shape{b:Nat->Option W}{w a:W}(h:View b w a):a.size=w.size/\a.isAgg=w.isAgg:=by
 cases h<;>exact⟨rfl,rfl⟩
theorem ViewL.all{d:Nat->Option W}{e:Nat}:∀{l f:List W},ViewL d l f->(∀x∈l,x.size=e) ->∀x∈f,x.size=e
 |_,_,.nil,_,x,b=>by simp at b
 |_,_,.cons h k,hl,x,b=>by
  simp only[ZB] at b;rcases b with rfl|b
  .rw[h.shape.1];exact hl _ (ZV ..)
  .exact k.all (λy g=>hl y (ZS _ g)) x b
section
variable {Γ Γ':Ctx} {blk:Nat->Option W}
structure Seen(blk:Nat->Option W)(Γ Γ':Ctx):Prop where
 nw:∀b,b<Γ.nw->blk b=none->b<Γ'.nw
 σ:∀b,b<Γ.nw->blk b=none->Γ'.σ b=Γ.σ b
 D:∀b,Γ.D b->Γ'.D b
 val:∀b,Γ.D b->Γ'.h.val b=Γ.h.val b
 at_:∀b c,b<Γ.nw->blk b=some c->Γ'.D (Γ.σ b)/\∃v,Γ'.h.val (Γ.σ b)=some v/\RV Γ c v
theorem Keq(f:∀b,Γ.D b->Γ'.D b)(g:∀b,Γ.D b->Γ'.h.val b=Γ.h.val b){w:W}{s:List V}(c:aaq w=true)(h:RS Γ w s):RS Γ' w s:=by
 have d:=Yvq (τ:=λb=>b) (Γ:=Γ) (Γ':=⟨Γ.nw,Γ.σ,Γ'.D,Γ'.h⟩) ⟨λ_ h=>h,λ_ _=>rfl,f,g⟩ h;rw[zdq c] at d;have e:adq (λb=>b) w=w:=zdq c;rw[<-e] at d;have:=uQq (Γ:=⟨Γ.nw,Γ.σ,Γ'.D,Γ'.h⟩) (Γ':=⟨0,Γ.σ,Γ'.D,Γ'.h⟩) (τ:=λb=>b) (m:=0) rfl (λb a=>by omega) (λ_ h=>h) (λ_ _=>rfl) (zaq c) d;have i:=Yvq (τ:=λb=>b) (Γ:=⟨0,Γ.σ,Γ'.D,Γ'.h⟩) (Γ':=Γ') ⟨λb a=>by have a:b<0:=a;omega,λb a=>by have a:b<0:=a;omega,λ_ h=>h,λ_ _=>rfl⟩ this;rwa[zdq c] at i
theorem lYq(a:∀b,Γ.D b->Γ'.D b)(c:∀b,Γ.D b->Γ'.h.val b=Γ.h.val b){w:W}{v:V}(d:aaq w=true)(h:RV Γ w v):RV Γ' w v:=⟨h.1,Keq a c d h.2⟩
theorem p1q{b g n:Nat}{u:Bool}{c x:W}{v:V}(y:Γ'.D b)(z:Γ'.h.val b=some v)(j:RV Γ' c v)(k:zGq 50 c g n u=some x):RS Γ' (.fel x) [.ptr b g]:=by
 obtain⟨m,A,B,E,C⟩:=jKq (Γ:=Γ') 50 k j.2;simp only[RS];refine⟨b,g,v,rfl,y,z,by rw[m,j.size];exact A,λo=>?_,?_,by rw[m];exact B⟩
 .rw[<-j.1];cases d:c.isAgg with
  |true=>rfl
  |false=>
   obtain⟨_,_,_,_,rfl⟩:=xsq (f:=49) d k;rw[d] at o;cases o
 .cases d:c.isAgg with
  |true=>exact .inr (by rw[<-j.1];exact d)
  |false=>
   obtain⟨_,_,_,q,rfl⟩:=xsq (f:=49) d k;exact .inl (j.leaf q)
mutual
theorem ZNq(q:Seen blk Γ Γ'):∀{w H:W} {s:List V},View blk w H->RS Γ w s->RS Γ' H s
 |_,_,_,.pur h,d=>Keq q.D q.val h d
 |_,_,_,.nilfz,d=>by
  simp only[RS] at d⊢;exact .inl ⟨trivial,d⟩
 |_,_,_,.fzw (l:=l) (e:=e) (f:=f) h,d=>by
  have m:=Keq q.D q.val (w:=.fz l e f) h d;simp only[RS] at m⊢;rcases m with m|⟨b,base,off,lim,bv,B,_,C⟩
  .exact .inl m
  .exact .inr ⟨b,base,off,lim,bv,B,λh=>Qi,C⟩
 |_,_,_,.sl (b:=b) (base:=base) (off:=off) (len:=len) (esz:=esz) (lim:=lim) (c:=c) (xs:=xs) (full:=full) hb hc hx hf,d=>by
  simp only[RS] at d;obtain⟨o,rfl⟩:=d;obtain⟨m,v,y,j⟩:=q.at_ b c o hb;have j:=lYq q.D q.val hc j;obtain⟨B,G,C,F,E⟩:=jhq (Γ:=Γ') 50 hx j.2;simp only[RS];subst B;exact .inr ⟨Γ.σ b,base,off,lim,v,rfl,hf,m,y,by rw[<-j.1];exact E,by rw[j.size];exact G,C,F⟩
 |_,_,_,.sl2 (b:=b) (base:=base) (off:=off) (len:=len) (esz:=esz) (lim:=lim) (c:=c) (c':=A) (xs:=xs) (full:=full) hb hv hx hf,d=>by
  simp only[RS] at d;obtain⟨o,rfl⟩:=d;obtain⟨m,v,y,j⟩:=q.at_ b c o hb;have j:RV Γ' A v:=⟨by rw[hv.shape.2];exact j.1,ZNq q hv j.2⟩;obtain⟨B,G,C,F,E⟩:=jhq (Γ:=Γ') 50 hx j.2;simp only[RS];subst B;exact .inr ⟨Γ.σ b,base,off,lim,v,rfl,hf,m,y,by rw[<-j.1];exact E,by rw[j.size];exact G,C,F⟩
 |_,_,_,.ptr (b:=b) (off:=off) (n:=n) (ag:=ag) (c:=c) (x:=x) hb hc hx,d=>by
  simp only[RS] at d;obtain⟨o,rfl⟩:=d;obtain⟨m,v,y,j⟩:=q.at_ b c o hb;exact p1q m y (lYq q.D q.val hc j) hx
 |_,_,_,.ptr2 (b:=b) (c:=c) (c':=A) hb hv hx,d=>by
  simp only[RS] at d;obtain⟨o,rfl⟩:=d;obtain⟨m,v,y,j⟩:=q.at_ b c o hb;exact p1q m y (c:=A) ⟨by rw[hv.shape.2];exact j.1,ZNq q hv j.2⟩ hx
 |_,_,_,.ptrK hb,d=>by
  simp only[RS] at d⊢;exact⟨q.nw _ d.1 hb,by rw[q.σ _ d.1 hb];exact d.2⟩
 |_,_,_,.slK hb,d=>by
  simp only[RS] at d⊢;exact⟨q.nw _ d.1 hb,by rw[q.σ _ d.1 hb];exact d.2⟩
 |_,_,_,.agg h,d=>by
  simp only[RS] at d⊢;exact⟨d.1,Klq q h d.2⟩
 |_,_,_,.arr h,d=>by
  simp only[RS] at d⊢;exact⟨d.1,h.all d.2.1,Klq q h d.2.2⟩
 |_,_,_,.tup h,d=>by
  simp only[RS] at d⊢;obtain⟨I,rfl,d⟩:=d;exact⟨I,rfl,vTq q h d⟩
 |_,_,_,.fn h k,d=>by
  simp only[RS] at d⊢;obtain⟨J,A,rfl,m,y⟩:=d;exact⟨J,A,rfl,vTq q h m,vTq q k y⟩
 |_,_,_,.iface h,d=>by
  simp only[RS] at d⊢;obtain⟨v,rfl,m,y⟩:=d;exact⟨v,rfl,by rw[h.shape.2];exact m,ZNq q h y⟩
theorem Klq(q:Seen blk Γ Γ'):∀{l a:List W} {s:List V},ViewL blk l a->RSL Γ l s->RSL Γ' a s
 |_,_,_,.nil,hs=>by simp only[RSL] at hs⊢;exact hs
 |_,_,_,.cons h k,hs=>by
  simp only[RSL] at hs⊢;rw[h.shape.1];exact⟨ZNq q h hs.1,Klq q k hs.2⟩
theorem vTq(q:Seen blk Γ Γ'):∀{l d:List W} {b:List V},ViewL blk l d->RVL Γ l b->RVL Γ' d b
 |_,_,_,.nil,hs=>by simp only[RVL] at hs⊢;exact hs
 |_,_,_,.cons h k,hs=>by
  simp only[RVL] at hs⊢;obtain⟨v,a,rfl,⟨e,f⟩,g⟩:=hs;exact⟨v,a,rfl,⟨by rw[h.shape.2];exact e,ZNq q h f⟩,vTq q k g⟩
end
theorem kDq(q:Seen blk Γ Γ'){w a:W}{v:V}(h:View blk w a)(b:RV Γ w v):RV Γ' a v:=⟨by rw[h.shape.2];exact b.1,ZNq q h b.2⟩
end
section
variable {C:Cfg} {G:Nat->Option W} {m k0:Nat} {fr fr2:FrW} {hp hp2:HpW} {nw nw2:Nat} {R:Res}
theorem QXq(f:Nat->Nat)(hm:m<=nw2)(Q:∀b,b<m->f b=b)(h2:∀b,b<nw2->f b<nw)(U:∀b,m<=b->b<nw2->m<=f b)(hf:∀t w,aqq fr2 t=some w->aqq fr t=some (adq f w)/\agq nw2 w=true)
  (E:∀b x,hget hp2 b=some x->b<nw2/\hget hp (f b)=some (x.1,adq f x.2)/\agq nw2 x.2=true) (I:∀b c x y,hget hp2 b=some x->hget hp2 c=some y->f b=f c->b=c) (Z:(hp2.map (·.1)).Nodup):
  Ent C G m k0 fr hp nw R fr2 hp2 nw2 R:=λg X st hnw S s=>by
 let Γ2:Ctx:=⟨nw2,λi=>g.σ (f i),g.D,g.h⟩
 have j:∀{w:W} {v:V},agq nw2 w=true->RV g (adq f w) v->RV Γ2 w v:=λ{w v} H F=>⟨by rw[<-knq f];exact F.1,uQq (Γ:=g) (Γ':=Γ2) (τ:=f) rfl (λ_ _=>rfl) (λ_ h=>h) (λ_ _=>rfl) H F.2⟩
 have B:∀{c},aoq Γ2 hp2 c->aoq g hp c:=λ{c} h=>by
  obtain⟨k,y,q,A⟩:=h;exact⟨f k,_,(E k y q).2.1,A⟩
 refine⟨Γ2,X,rfl,⟨s.hh,λt w Y=>?_,⟨s.sat.wf,λb ty w z=>?_,λb c x y P O e=>?_,Z,s.sat.dX,s.sat.xlt,s.sat.dlt,s.sat.res,s.sat.gl⟩,λd hd=>?_,s.nd⟩,⟨λb z=>?_,λ_=>hm,Zb _,λ_ _ _ _=>rfl,λ_ h=>h,λ_ h=>.inl h,λb x z h=>?_,λb x z h=>?_,λ_ h=>.inl h,λ_ h _ _=>h⟩⟩
 .obtain⟨q,A⟩:=hf t w Y;obtain⟨v,M,g4⟩:=s.fr _ _ q;exact⟨v,M,j A g4⟩
 .obtain⟨q,A,M⟩:=E b _ z;obtain⟨H,F,K,v,L,J⟩:=s.sat.own _ _ _ A;exact⟨q,F,K,v,L,j M J⟩
 .exact I b c x y P O (s.sat.inj _ _ _ _ (E b x P).2.1 (E c y O).2.1 e)
 .obtain⟨H,F,K,L,J,T⟩:=s.ds d hd;exact⟨H,F,K,λh=>L (B h),J,T⟩
 .show g.σ (f b)=g.σ b;rw[Q b z]
 .have:=(E b x h).2.1;rw[Q b z] at this;exact⟨_,this⟩
 .obtain⟨q,A,_⟩:=E b x h;exact .inr ⟨f b,_,U b z q,A,rfl⟩
def flq(b:Nat)(c:W):Nat->Option W:=λk=>match Nat.beq k b with
 |true=>some c
 |false=>none
theorem tiq{b:Nat}{F:TypeId}{c:W}(H:hget hp b=some (F,c))(hc:aaq c=true)(hbm:m<=b)(hf:∀t w,aqq fr2 t=some w->∃w0,aqq fr t=some w0/\View (flq b c) w0 w)
  (A:∀k F w,hget hp2 k=some (F,w) ->k≠b/\∃w0,hget hp k=some (F,w0)/\View (flq b c) w0 w) (nd:(hp2.map (·.1)).Nodup):Ent C G m k0 fr hp nw R fr2 hp2 nw R:=λg X st T Z s=>by
 obtain⟨p1,p2,p3,v,L,p5⟩:=s.sat.own b F c H;let Γ2:Ctx:=⟨g.nw,g.σ,λc=>g.D c\/c=g.σ b,g.h⟩
 have Q:g.Le Γ2:=⟨Zb _,λ_ _=>rfl,λ_ h=>.inl h,λ_ _=>rfl⟩
 have q:Seen (flq b c) g Γ2:=⟨λ_ h _=>h,λ_ _ _=>rfl,λ_ h=>.inl h,λ_ _=>rfl,λk Y I h=>by
  unfold flq at h;split at h
  .rename_i e;rw[ZH] at e;subst e;cases h;exact⟨.inr rfl,v,uUq L,p5⟩
  .cases h⟩
 have O:g.σ b<g.h.next:=by
  rcases ZL (g.σ b) g.h.next with h|h
  .exact h
  .rw[s.sat.wf _ h] at L;cases L
 have z:∀{c},aoq Γ2 hp2 c->aoq g hp c/\c≠g.σ b:=λ{Y} h=>by
  obtain⟨k,y,E,f⟩:=h;obtain⟨J,w0,B,_⟩:=A k y.1 y.2 E;have f:g.σ k=Y:=f;refine⟨⟨k,_,B,f⟩,λe=>J (s.sat.inj k b _ _ B H (by rw[f,e]))⟩
 refine⟨Γ2,X,T,⟨s.hh,λt w hw=>?_,⟨s.sat.wf,λk ty' w I=>?_,λk k' x y hx hy e=>?_,nd,λd j V=>?_,s.sat.xlt,λd j=>?_,R.st _ _ _ _ _ s.sat.res Q.D Q.val (λ_ _=>rfl) (Zb _),s.sat.gl.mono Q⟩,λd j=>?_,s.nd⟩,⟨λ_ _=>rfl,λh=>h,Zb _,λ_ _ _ _=>rfl,λ_ h=>.inl h,λd j=>?_,λk x I h=>?_,λk x I h=>?_,λ_ h=>.inl h,λ_ h _ _=>h⟩⟩
 .obtain⟨w0,E,f⟩:=hf t w hw;obtain⟨u,J,B⟩:=s.fr _ _ E;exact⟨u,J,kDq q f B⟩
 .obtain⟨E,w0,f,J⟩:=A k _ _ I;obtain⟨S,P,U,u,K,M⟩:=s.sat.own _ _ _ f;refine⟨S,λh=>?_,U,u,K,kDq q J M⟩;rcases h with h|h
  .exact P h
  .exact E (s.sat.inj k b _ _ f H h)
 .obtain⟨_,w0,f,_⟩:=A k x.1 x.2 hx;obtain⟨_,w1,B,_⟩:=A k' y.1 y.2 hy;exact s.sat.inj _ _ _ _ f B e
 .rcases j with h|rfl
  .exact s.sat.dX d h V
  .exact p3 V
 .rcases j with h|rfl
  .exact s.sat.dlt d h
  .exact O
 .obtain⟨S,P,U,K,M,q6⟩:=s.ds d j;refine⟨S,P,U,λh=>K (z h).1,M,λh=>?_⟩;rcases h with h|rfl
  .exact q6 h
  .exact K ⟨b,_,H,rfl⟩
 .rcases j with h|rfl
  .exact .inl h
  .exact .inr (.inl (.inl ⟨b,_,H,rfl⟩))
 .obtain⟨_,w0,f,_⟩:=A k x.1 x.2 h;exact⟨_,f⟩
 .obtain⟨_,w0,f,_⟩:=A k x.1 x.2 h;exact .inr ⟨k,_,I,f,rfl⟩
theorem Jdq{o:Oper}{x:Operand}{f:Array Operand}{d:Array TypeId}(g:o.op= .call ⟨.value x,f,d⟩)(b:Tr V)(h:Heap):ylq C b o.type o.op=none/\opH C b h o.op=none:=by
 rw[g];exact⟨rfl,rfl⟩
theorem xmq{ev:EvW}{o:Oper}{z:W->HpW->Nat->Res->Option EvW->Prop}{x:Operand}{xs:Array Operand}{M:Array TypeId}{f:FuncId}{a us c:List W}{ext:List Nat}{ws:List W}{A:HpW}{Q:W->HpW->Nat->Prop}
  (ho:o.op= .call ⟨.value x,xs,M⟩) (hx:evW C G fr x=some (.fn f a c)) (he:C.ext f=none) (hxs:avq C G fr xs.toList=some us) (S:a++us++c=yVq (afq ext nw) ws) (sp:zUq C G f ext.length ws A Q)
  (P:ext.Nodup) (J:∀b∈ext,b<nw) (T:(A.map (·.1)).Nodup) (hh:Khq ext nw A hp) (hr:asq ext.length ws=true)
  (B:∀w j k,Q w j k->z (adq (afq ext nw) w) (ahq (afq ext nw) j++aRq ext hp) (nw+(k-ext.length)) R (some ev)) (Y:ev= .dirty\/∃b,ext=[b]/\ev= .updO b/\∃x,hget hp b=some x):aeq C G o fr hp nw R z:=λH X Z U s hf=>by
 subst U;obtain⟨u,e1,e2⟩:=zXq hf s.gl hx;obtain⟨a',c',rfl,e3,e4⟩:=RV_fn.1 e2;obtain⟨us',e5,e6⟩:=x2q hf s.gl hxs
 have E:∀{l r:List W} {L F:List V},RVL H l L->RVL H r F->RVL H (l++r) (L++F):=λ{l}=>by
  induction l with
  |nil=>intro r L F D K;simp only[RVL] at D;subst D;exact K
  |cons w l ih=>
   intro r L F D K;simp only[RVL] at D;obtain⟨v,vs,rfl,h3,h4⟩:=D;simp only[YW,RVL];exact⟨v,vs++F,rfl,h3,ih h4 K⟩
 have hv:=E (E e3 e6) e4;rw[S] at hv;obtain⟨n,v,Γ',w,j,k,g1,g2,g3,g4,g5,g6,g7,g8,g9⟩:=cgq sp s P J T hh hr hv;obtain⟨k1,k2⟩:=Jdq (C:=C) ho Z H.h;refine⟨n,_,_,R,some ev,v,Γ'.h,Γ',X,by rw[g3];exact B w j k g2,?_,⟨k1,λH1 q1 q2=>?_⟩,rfl,g4,g5,g6,g7⟩
 .simp only[opV,k1,k2];simp only[ho,jBq,e1,e5,he];exact g1
 .rcases Y with rfl|⟨b,rfl,rfl,x,hb⟩
  .exact trivial
  .simp only[ho,auq];cases q:Nat.ble H1.next Γ'.h.wmin with
   |true=>exact .inl rfl
   |false=>
    have hlt:¬H1.next<=Γ'.h.wmin:=λh=>by rw[Zn h] at q;cases q
    rcases g8 q2.1 with h|⟨c,hc,hw⟩
    .omega
    .obtain rfl:=YH.1 hc
     have I:nvq H1 Γ'.h=true:=ntq λi D K=>by
      rw[g9 i Xd (λd hd=>by rw[YH.1 hd];omega)];show H.h.tr.get i=H1.tr.get i;rw[q2.2]
     rw[I];exact .inr ⟨x,hb,Zc Ev.upd hw⟩
theorem zDq{o:Oper}{g:W->HpW->Nat->Res->Option EvW->Prop}{x:Operand}{E:Array Operand}{A:Array TypeId}{f:FuncId}{a F c:List W}{ext:List Nat}{ws:List W}{hp0:HpW}{Q:W->HpW->Nat->Prop}
  (J:o.op= .call ⟨.value x,E,A⟩) (K:evW C G fr x=some (.fn f a c)) (I:C.ext f=none) (D:avq C G fr E.toList=some F) (s:a++F++c=yVq (afq ext nw) ws) (L:zUq C G f ext.length ws hp0 Q)
  (B:ext.Nodup) (k:∀b∈ext,b<nw) (z:(hp0.map (·.1)).Nodup) (M:Khq ext nw hp0 hp) (H:asq ext.length ws=true)
  (h:∀w q j,Q w q j->g (adq (afq ext nw) w) (ahq (afq ext nw) q++aRq ext hp) (nw+(j-ext.length)) R (some .dirty)):aeq C G o fr hp nw R g:=
 xmq J K I D s L B k z M H h (.inl rfl)
def amq(hp:HpW):Nat->Option W:=λb=>match hget hp b with
 |some (_,c)=>some c
 |none=>none
mutual
/-- a value that hangs on no memory -/
def uDq:W->Bool
 |.undef=>true
 |.bool _=>true
 |.int _ _=>true
 |.str _=>true
 |.nilp=>true
 |.nils=>true
 |.nilm=>true
 |.nilf=>true
 |.nili=>true
 |.agg _ l=>b2q l
 |.arr _ _ l=>b2q l
 |.tup l=>b2q l
 |_=>false
def b2q:List W->Bool
 |[]=>true
 |w::l=>uDq w&&b2q l
end
mutual
theorem dOq{k Γ':Ctx}:∀{w:W} {s:List V},uDq w=true->RS k w s->RS Γ' w s
 |.undef,_,_,h=>by simp only[RS] at h⊢;exact h
 |.bool _,_,_,h=>by simp only[RS] at h⊢;exact h
 |.int _ _,_,_,h=>by simp only[RS] at h⊢;exact h
 |.str _,_,_,h=>by simp only[RS] at h⊢;exact h
 |.nilp,_,_,h=>by simp only[RS] at h⊢;exact h
 |.ptr _ _,_,h,_=>by simp[uDq] at h
 |.nils,_,_,h=>by simp only[RS] at h⊢;exact h
 |.sl _ _ _ _ _ _,_,h,_=>by simp[uDq] at h
 |.fz _ _ _,_,h,_=>by simp[uDq] at h
 |.fel _,_,h,_=>by simp[uDq] at h
 |.nilm,_,_,h=>by simp only[RS] at h⊢;exact h
 |.fn _ _ _,_,h,_=>by simp[uDq] at h
 |.yield _,_,h,_=>by simp[uDq] at h
 |.nilf,_,_,h=>by simp only[RS] at h⊢;exact h
 |.iface _ _,_,h,_=>by simp[uDq] at h
 |.nili,_,_,h=>by simp only[RS] at h⊢;exact h
 |.agg n l,_,hf,h=>by simp only[uDq] at hf;simp only[RS] at h⊢;exact⟨h.1,Xwq hf h.2⟩
 |.arr n e l,_,hf,h=>by simp only[uDq] at hf;simp only[RS] at h⊢;exact⟨h.1,h.2.1,Xwq hf h.2.2⟩
 |.tup l,_,hf,h=>by
  simp only[uDq] at hf;simp only[RS] at h⊢;obtain⟨q,v,j⟩:=h;exact⟨q,v,fsq hf j⟩
theorem Xwq{a Γ':Ctx}:∀{l:List W} {s:List V},b2q l=true->RSL a l s->RSL Γ' l s
 |[],_,_,h=>by simp only[RSL] at h⊢;exact h
 |w::l,_,hf,h=>by
  simp only[b2q,Zd] at hf;simp only[RSL] at h⊢;exact⟨dOq hf.1 h.1,Xwq hf.2 h.2⟩
theorem fsq{c Γ':Ctx}:∀{l:List W} {b:List V},b2q l=true->RVL c l b->RVL Γ' l b
 |[],_,_,h=>by simp only[RVL] at h⊢;exact h
 |w::l,_,hf,h=>by
  simp only[b2q,Zd] at hf;simp only[RVL] at h⊢;obtain⟨v,a,rfl,⟨d,e⟩,f⟩:=h;exact⟨v,a,rfl,⟨d,dOq hf.1 e⟩,fsq hf.2 f⟩
end
theorem t1q{b Γ':Ctx}{w:W}{v:V}(a:uDq w=true)(h:RV b w v):RV Γ' w v:=⟨h.1,dOq a h.2⟩
theorem bOq{o:Oper}{x:Operand}{xs:Array Operand}{ats:Array TypeId}{f:FuncId}{a us c ws:List W}{Q:W->HpW->Nat->Prop}
  (ho:o.op= .call ⟨.value x,xs,ats⟩) (hx:evW C G fr x=some (.fn f a c)) (he:C.ext f=none) (hxs:avq C G fr xs.toList=some us) (hws:ViewL (amq hp) (a++us++c) ws) (sp:zUq C G f 0 ws [] Q) (hpw:acq ws=true):
  ∀Γ X frv,Γ.nw=nw->SatH C G Γ hp X R->FRel Γ fr frv->∃n v Γ1 Γ' w hp1 nw1,Q w hp1 nw1/\opV (Sn C n) C frv Γ.h o=some (v,Γ1.h)/\(ylq C frv o.type o.op=none/\∀H1:Heap,H1.next=Γ.h.next->(Γ.h.wmin=Γ.h.next/\H1.tr=Γ.h.tr) ->EvR Γ hp .gen (auq C frv H1 Γ1.h o.op))/\Γ'.nw=Γ.nw/\Γ'.h=Γ1.h/\Γ.Le Γ'/\SatH C G Γ' hp X R/\Frm Γ.nw Γ hp X Γ' hp X/\RV Γ1 w v:=λΓ X frv hnw s hf=>by
 subst hnw;obtain⟨u,e1,e2⟩:=zXq hf s.gl hx;obtain⟨a',c',rfl,e3,e4⟩:=RV_fn.1 e2;obtain⟨us',e5,e6⟩:=x2q hf s.gl hxs
 have app:∀{l r:List W} {l' r':List V},RVL Γ l l'->RVL Γ r r'->RVL Γ (l++r) (l'++r'):=λ{l}=>by
  induction l with
  |nil=>intro r l' r' h1 h2;simp only[RVL] at h1;subst h1;exact h2
  |cons w l ih=>
   intro r l' r' h1 h2;simp only[RVL] at h1;obtain⟨v,vs,rfl,h3,h4⟩:=h1;simp only[YW,RVL];exact⟨v,vs++r',rfl,h3,ih h4 h2⟩
 have hv:=app (app e3 e6) e4
 have hlt:∀{b y},hget hp b=some y->Γ.σ b<Γ.h.next:=λ{b y} h=>by
  obtain⟨_,_,_,u,h1,_⟩:=s.own b y.1 y.2 h;rcases ZL (Γ.σ b) Γ.h.next with h|h
  .exact h
  .rw[s.wf _ h] at h1;cases h1
 --all of one's own blocks count as what stays
 let Γ0:Ctx:=⟨0,Γ.σ,λc=>Γ.D c\/aoq Γ hp c,Γ.h⟩
 have s0:SatH C G Γ0 [] (λ_=>False) Res.none:=⟨s.wf,λb ty w h=>by simp[hget] at h,λb c x y h=>by simp[hget] at h,YN,λ_ _ h=>h,λ_ h=>h.elim,λd hd=>by
  rcases hd with h|⟨b,y,h1,rfl⟩
  .exact s.dlt d h
  .exact hlt h1,trivial,λg w h1 h2 n τ=>RV.mono (Γ:=⟨n,τ,Γ.D,Γ.h⟩) (Γ':=⟨n,τ,λc=>Γ.D c\/aoq Γ hp c,Γ.h⟩) ⟨Zb _,λ_ _=>rfl,λ_ h=>.inl h,λ_ _=>rfl⟩ (s.gl g w h1 h2 n τ)⟩
 let Γs:Ctx:=⟨Γ.nw,Γ.σ,λc=>Γ.D c\/aoq Γ hp c,Γ.h⟩
 have q:Seen (amq hp) Γ Γs:=⟨λ_ h _=>h,λ_ _ _=>rfl,λ_ h=>.inl h,λ_ _=>rfl,λb c _ h=>by
  unfold amq at h;split at h
  .rename_i ty c' hg;cases h;obtain⟨v,h1,h2,h3⟩:=jeq s hg;exact⟨.inr ⟨b,_,hg,rfl⟩,v,h2,h3⟩
  .cases h⟩
 have app2:RVL Γ0 ws (a'++us'++c'):=by
  have h1:=vTq q hws hv
  have:∀{l:List W} {vs:List V},acq l=true->RVL Γs l vs->RVL Γ0 l vs:=λ{l}=>by
   induction l with
   |nil=>intro vs _ h;simp only[RVL] at h⊢;exact h
   |cons w l ih=>
    intro vs hp h;simp only[acq,Zd] at hp;simp only[RVL] at h⊢;obtain⟨v,vs',rfl,⟨h2,h3⟩,h4⟩:=h;exact⟨v,vs',rfl,⟨h2,Keq (Γ:=Γs) (Γ':=Γ0) (λ_ h=>h) (λ_ _=>rfl) hp.1 h3⟩,ih hp.2 h4⟩
  exact this hpw h1
 obtain⟨n,v,Γ1,X1,w,hp1,R1,g1,g2,g3,g4,rfl,hq⟩:=sp Res.none Γ0 (λ_=>False) _ rfl s0 app2;have keep:∀{c},c<Γ.h.next->Γ1.h.get c=Γ.h.get c:=λ{c} h=>g3.keep c h (λ⟨b,x,h1,_⟩=>by simp[hget] at h1) (λh=>h)
 let Γ':Ctx:=⟨Γ.nw,Γ.σ,Γ.D,Γ1.h⟩
 have le:Γ.Le Γ':=⟨Zb _,λ_ _=>rfl,λ_ h=>h,λc hc=>qbq (keep (s.dlt c hc))⟩
 have hw:∀S:Nat->Prop,S Γ.h.wmin->(∀c,Γ.h.next<=c->S c) ->S Γ1.h.wmin:=λS h1 h2=>g3.wmin S h1 h2 λc hc=>by
  rcases hc with ⟨b,x,h1,_⟩|hc
  .simp[hget] at h1
  .exact hc.elim
 have s':SatH C G Γ' hp X R:=⟨g2.wf,λb ty w h=>by
  obtain⟨q1,q2,q3,u,q4,q5⟩:=s.own b ty w h;exact⟨q1,q2,q3,u,(keep (hlt h)).trans q4,q5.mono le⟩,s.inj,s.nd,s.dX,λc hc=>Zv (s.xlt c hc) g3.next,λc hc=>Zv (s.dlt c hc) g3.next,R.st _ _ _ _ _ s.res le.D le.val (λc hc=>keep (s.xlt c hc)) g3.next,s.gl.mono le⟩
 have f':Frm Γ.nw Γ hp X Γ' hp X:=⟨λ_ _=>rfl,λh=>h,g3.next,λc h _ _=>keep h,λ_ h=>h,λ_ h=>.inl h,λ_ x _ h=>⟨x,h⟩,λb x hb h=>.inr ⟨b,x,hb,h,rfl⟩,λ_ h=>.inl h,λk h1 h2 _=>hw k h1 h2⟩;obtain⟨k1,k2⟩:=Jdq (C:=C) ho frv Γ.h;refine⟨n,v,Γ1,Γ',w,hp1,_,hq,?_,⟨k1,λH1 e1' e2'=>?_⟩,rfl,rfl,le,s',f',g4⟩
 .simp only[opV,k1,k2];simp only[ho,jBq,e1,e5,he];exact g1
 .have:=hw (λc=>Γ.h.next<=c) (by show Γ.h.next<=Γ.h.wmin;omega) (λc h=>h);refine .inl ?_;simp only[ho,auq];rw[e1',Zn this]
theorem bjq{o:Oper}{post:W->HpW->Nat->Res->Option EvW->Prop}{x:Operand}{xs:Array Operand}{ats:Array TypeId}{f:FuncId}{a us c ws:List W}{Q:W->HpW->Nat->Prop}
  (ho:o.op= .call ⟨.value x,xs,ats⟩) (hx:evW C G fr x=some (.fn f a c)) (he:C.ext f=none) (hxs:avq C G fr xs.toList=some us) (hws:ViewL (amq hp) (a++us++c) ws) (sp:zUq C G f 0 ws [] Q) (hpw:acq ws=true)
  (hpost:∀w hp1 nw1,Q w hp1 nw1->uDq w=true/\post w hp nw R (some .gen)):aeq C G o fr hp nw R post:=λΓ X frv hnw s hf=>by
 obtain⟨n,v,Γ1,Γ',w,hp1,nw1,hq,h1,h2,h3,h4,h5,h6,h7,h8⟩:=bOq ho hx he hxs hws sp hpw Γ X frv hnw s hf;obtain⟨hfl,hpo⟩:=hpost w hp1 _ hq;exact⟨n,w,hp,R,some .gen,v,Γ1.h,Γ',X,by rw[h3,hnw];exact hpo,h1,h2,h4,h5,h6,h7,t1q hfl h8⟩
theorem ZQq{o:Oper}{post:W->HpW->Nat->Res->Option EvW->Prop}{x:Operand}{xs:Array Operand}{ats:Array TypeId}{f:FuncId}{a us c:List W}{Q:W->HpW->Nat->Prop}
  (ho:o.op= .call ⟨.value x,xs,ats⟩) (hx:evW C G fr x=some (.fn f a c)) (he:C.ext f=none) (hxs:avq C G fr xs.toList=some us) (sp:zUq C G f 0 (a++us++c) [] Q) (hpw:acq (a++us++c)=true)
  (hpost:∀w hp1 nw1,Q w hp1 nw1->aaq w=true/\post w hp nw R (some .gen)):aeq C G o fr hp nw R post:=λΓ X frv hnw s hf=>by
 subst hnw;obtain⟨u,e1,e2⟩:=zXq hf s.gl hx;obtain⟨a',c',rfl,e3,e4⟩:=RV_fn.1 e2;obtain⟨us',e5,e6⟩:=x2q hf s.gl hxs
 have app:∀{l r:List W} {l' r':List V},RVL Γ l l'->RVL Γ r r'->RVL Γ (l++r) (l'++r'):=λ{l}=>by
  induction l with
  |nil=>intro r l' r' h1 h2;simp only[RVL] at h1;subst h1;exact h2
  |cons w l ih=>
   intro r l' r' h1 h2;simp only[RVL] at h1;obtain⟨v,vs,rfl,h3,h4⟩:=h1;simp only[YW,RVL];exact⟨v,vs++r',rfl,h3,ih h4 h2⟩
 have hv:=app (app e3 e6) e4
 have hlt:∀{b y},hget hp b=some y->Γ.σ b<Γ.h.next:=λ{b y} h=>by
  obtain⟨_,_,_,u,h1,_⟩:=s.own b y.1 y.2 h;rcases ZL (Γ.σ b) Γ.h.next with h|h
  .exact h
  .rw[s.wf _ h] at h1;cases h1
 let Γ0:Ctx:=⟨0,Γ.σ,Γ.D,Γ.h⟩
 have s0:SatH C G Γ0 [] (λ_=>False) Res.none:=⟨s.wf,λb ty w h=>by simp[hget] at h,λb c x y h=>by simp[hget] at h,YN,λ_ _ h=>h,λ_ h=>h.elim,s.dlt,trivial,s.gl⟩
 have app2:RVL Γ0 (a++us++c) (a'++us'++c'):=by
  have:∀{l:List W} {vs:List V},acq l=true->RVL Γ l vs->RVL Γ0 l vs:=λ{l}=>by
   induction l with
   |nil=>intro vs _ h;simp only[RVL] at h⊢;exact h
   |cons w l ih=>
    intro vs hp h;simp only[acq,Zd] at hp;simp only[RVL] at h⊢;obtain⟨v,vs',rfl,⟨h2,h3⟩,h4⟩:=h;exact⟨v,vs',rfl,⟨h2,Keq (Γ:=Γ) (Γ':=Γ0) (λ_ h=>h) (λ_ _=>rfl) hp.1 h3⟩,ih hp.2 h4⟩
  exact this hpw hv
 obtain⟨n,v,Γ1,X1,w,hp1,R1,g1,g2,g3,g4,rfl,hq⟩:=sp Res.none Γ0 (λ_=>False) _ rfl s0 app2;obtain⟨hfl,hpo⟩:=hpost w hp1 _ hq;have keep:∀{c},c<Γ.h.next->Γ1.h.get c=Γ.h.get c:=λ{c} h=>g3.keep c h (λ⟨b,x,h1,_⟩=>by simp[hget] at h1) (λh=>h)
 have dnew:∀{c},Γ1.D c->Γ.D c\/Γ.h.next<=c:=λ{c} h=>by
  rcases g3.dnew c h with h|(⟨b,x,h1,_⟩|h)|h
  .exact .inl h
  .simp[hget] at h1
  .exact h.elim
  .exact .inr h
 let Γ':Ctx:=⟨Γ.nw,Γ.σ,Γ1.D,Γ1.h⟩
 have le:Γ.Le Γ':=⟨Zb _,λ_ _=>rfl,g3.dsub,λc hc=>qbq (keep (s.dlt c hc))⟩
 have hw:∀S:Nat->Prop,S Γ.h.wmin->(∀c,Γ.h.next<=c->S c) ->S Γ1.h.wmin:=λS h1 h2=>g3.wmin S h1 h2 λc hc=>by
  rcases hc with ⟨b,x,h1,_⟩|hc
  .simp[hget] at h1
  .exact hc.elim
 have s':SatH C G Γ' hp X R:=⟨g2.wf,λb ty w h=>by
  obtain⟨q1,q2,q3,u,q4,q5⟩:=s.own b ty w h;refine⟨q1,λhd=>?_,q3,u,(keep (hlt h)).trans q4,q5.mono le⟩;rcases dnew hd with hd|hd
  .exact q2 hd
  .have:=hlt h;have hd:Γ.h.next<=Γ.σ b:=hd;omega,s.inj,s.nd,λc hc hX=>by
   rcases dnew hc with hd|hd
   .exact s.dX c hd hX
   .have:=s.xlt c hX;omega,λc hc=>Zv (s.xlt c hc) g3.next,g2.dlt,R.st _ _ _ _ _ s.res le.D le.val (λc hc=>keep (s.xlt c hc)) g3.next,s.gl.mono le⟩
 have f':Frm Γ.nw Γ hp X Γ' hp X:=⟨λ_ _=>rfl,λh=>h,g3.next,λc h _ _=>keep h,g3.dsub,λc h=>by
  rcases dnew h with h|h
  .exact .inl h
  .exact .inr (.inr h),λ_ x _ h=>⟨x,h⟩,λb x hb h=>.inr ⟨b,x,hb,h,rfl⟩,λ_ h=>.inl h,λk h1 h2 _=>hw k h1 h2⟩
 obtain⟨k1,k2⟩:=Jdq (C:=C) ho frv Γ.h;refine⟨n,w,hp,R,some .gen,v,Γ1.h,Γ',X,hpo,?_,⟨k1,λH1 e1' e2'=>?_⟩,rfl,le,s',f',lYq (Γ:=Γ1) (Γ':=Γ') (λ_ h=>h) (λ_ _=>rfl) hfl g4⟩
 .simp only[opV,k1,k2];simp only[ho,jBq,e1,e5,he];exact g1
 .have:=hw (λc=>Γ.h.next<=c) (by show Γ.h.next<=Γ.h.wmin;omega) (λc h=>h);refine .inl ?_;simp only[ho,auq];rw[e1',Zn this]
end
end
def inK(k:IntKind)(z:Int):Prop:=match k with
 |.i64=>-9223372036854775808<=z/\z<9223372036854775808
 |.u64=>0<=z/\z<18446744073709551616
 |.u32=>0<=z/\z<4294967296
 |.u8=>0<=z/\z<256
 |k=>k.wrap z=z
theorem YCq{k:IntKind}{z:Int}(h:inK k z):xBq k z=z:=by
 cases k<;>simp only[inK] at h
 case i64=>
  cases z with
  |ofNat a=>
   simp only[xBq];have:Nat.blt a 9223372036854775808=true:=by simp only[Int.ofNat_eq_natCast] at h;simpa[YR] using (by omega:a<9223372036854775808)
   rw[this]
  |negSucc a=>
   simp only[xBq];have:Nat.blt a 9223372036854775808=true:=by simpa[YR] using (by omega:a<9223372036854775808)
   rw[this]
 case u64=>
  obtain⟨a,rfl⟩:=Int.eq_ofNat_of_zero_le h.1;show Int.ofNat (a%_)=_;rw[YV Xd];rfl
 case u32=>
  obtain⟨a,rfl⟩:=Int.eq_ofNat_of_zero_le h.1;show Int.ofNat (a%_)=_;rw[YV Xd];rfl
 case u8=>
  obtain⟨a,rfl⟩:=Int.eq_ofNat_of_zero_le h.1;show Int.ofNat (a%_)=_;rw[YV Xd];rfl
 all_goals (cases z<;>exact h)
theorem ltI_iff{m n:Int}:ltI m n=true↔m<n:=by
 unfold ltI;split
 .simp[YR]
 .simp;omega
 .simp;omega
 .rename_i a b;simp[YR];omega
theorem ltI_not{m n:Int}:ltI m n=false↔¬m<n:=by rw[<-Bool.not_eq_true,ltI_iff]
theorem eqI_iff{m n:Int}:eqI m n=true↔m=n:=by
 rw[QWq];simp
theorem eqI_not{m n:Int}:eqI m n=false↔¬m=n:=by rw[<-Bool.not_eq_true,eqI_iff]
theorem i8q{m n:Int}:eqI m n=decide (m=n):=by rw[Bool.eq_iff_iff,eqI_iff];simp
section
variable {C:Cfg} {G:Nat->Option W} {m:Nat} {ops:Array Oper} {l:List Oper} {i:Nat} {es:List (Nat×EvW)} {fr:FrW} {hp:HpW} {nw:Nat} {R:Res} {K:FrW->HpW->Nat->Res->Prop} {o:Oper}
theorem pBq{k:IntKind}{z:Int}(n:Nat)(c:qIq ops fr o=some true)(a:y4q C G fr o.op=some (.int k (xBq k z)))(d:z=(n:Int))(b:inK k (n:Int))(h:OpW C G m ops l (atq fr o.dst (.int k (n:Int))) hp nw R K):OpW C G m ops (o::l) fr hp nw R K:=
 z5q c (by rw[a,d,YCq b]) h
theorem kiq{w w':W}(b:qIq ops fr o=some true)(a:y4q C G fr o.op=some w)(e:w=w')(h:OpW C G m ops l (atq fr o.dst w') hp nw R K):OpW C G m ops (o::l) fr hp nw R K:=z5q b (e▸a) h
theorem k6q{w w':W}(b:qIq ops fr o=some true)(a:y4q C G fr o.op=some w)(e:w=w')(h:FlW C G m ops l (i+1) es (atq fr o.dst w') hp nw R K):FlW C G m ops (o::l) i es fr hp nw R K:=jLq b (e▸a) h
theorem zwq{t:TypeId}{x:Operand}{b c:Nat}{e:TyI}{j:TypeId}{v r:W}(g:evW C G fr x=some (.ptr b c))(k:C.ty t=some e)(f:hget hp b=some (j,v))(h:zGq 50 v c e.size e.agg=some r):aDq C G fr hp nw (.load t x)=some (r,hp,nw,.loadO b):=by
 simp only[aDq,s5q,g,k,f,h]
theorem qmq{t:TypeId}{x y:Operand}{b c:Nat}{j:TyI}{h:TypeId}{u v g:W}{a:HpW}(k:evW C G fr x=some (.ptr b c))(q:evW C G fr y=some u)(B:C.ty t=some j)(w:hget hp b=some (h,v))(D:Nat.beq u.size j.size=true)(z:z7q 50 v c u=some g)(A:apq hp b (h,g)=a):aDq C G fr hp nw (.store t x y)=some (.undef,a,nw,.storeO b):=by
 simp only[aDq,iRq,k,q,B,w,D,z,A]
theorem p7q{t:TypeId}{x z:Operand}{j k:TyI}{e:TypeId}{b f p g a h:Nat}{n:Option Nat}{u:W}(w:C.ty t=some j)(r:j.d= .slice e)(y:evW C G fr x=some (.sl b f p g a n))(B:C.ty e=some k)(v:Nat.beq k.size a=true)(D:evW C G fr z=some u)(A:bLq u=some h)(q:h<=g):
  y4q C G fr (.slice t x none (some z) none)=some (.sl b f (p+0*a) (h-0) a (q6q 0 n)):=by
 have:(Nat.ble 0 h&&Nat.ble h g)=true:=by rw[Zn q];simp
 simp only[y4q,Qaq,w,r,y,B,v,aCq,D,A,tuq,this]
theorem p6q{t:TypeId}{x z:Operand}{j k:TyI}{e:TypeId}{b n g a f l:Nat}{h:Option Nat}{u:W}(v:C.ty t=some j)(q:j.d= .slice e)(w:evW C G fr x=some (.sl b n g a f h))(B:C.ty e=some k)(r:Nat.beq k.size f=true)(D:evW C G fr z=some u)(y:bLq u=some l)(p:l<=a)(A:Nat.beq l 0=false):
  y4q C G fr (.slice t x (some z) none none)=some (.sl b g (g+l*f) (a-l) f (q6q l h)):=by
 have:(Nat.ble l a&&Nat.ble a a)=true:=by rw[Zn p];simp
 simp only[y4q,Qaq,v,q,w,B,r,aCq,D,y,tuq,this,A]
theorem ypq{t:TypeId}{x y:Operand}{j k:TyI}{e:TypeId}{b h g f a i:Nat}{q:Option Nat}{u:W}(z:C.ty t=some j)(v:j.d= .slice e)(B:evW C G fr x=some (.sl b h g f a q))(D:evW C G fr y=some u)(H:bLq u=some i)(F:C.ty e=some k)(w:Nat.beq k.size a=true)(E:i<f):
  y4q C G fr (.indexAddr t x y)=some (.ptr b (g+i*a)):=by
 have:Nat.blt i f=true:=by simpa[YR] using E
 simp only[y4q,jEq,z,B,D,H,v,F,this,w]
theorem kMq{t:TypeId}{x y:Operand}{j k:TyI}{e:TypeId}{b c n i:Nat}{u:W}(f:C.ty t=some j)(s:j.d= .arr n e)(g:evW C G fr x=some (.ptr b c))(h:evW C G fr y=some u)(q:bLq u=some i)(w:C.ty e=some k)(v:i<n):
  y4q C G fr (.indexAddr t x y)=some (.ptr b (c+i*k.size)):=by
 have:Nat.blt i n=true:=by simpa[YR] using v
 simp only[y4q,jEq,f,g,h,q,s,w,this]
theorem zyq{t:TypeId}{x y:Operand}{j k:TyI}{e:TypeId}{l:List W}{b i:Nat}{a:Bool}{u r:W}(p:C.ty t=some j)(g:j.d= .slice e)(q:evW C G fr x=some (.fz l b a))(v:evW C G fr y=some u)(D:bLq u=some i)(B:C.ty e=some k)(h:Nat.beq k.size b=true)(w:l[i]? =some r):
  y4q C G fr (.indexAddr t x y)=some (.fel r):=by
 simp only[y4q,jEq,p,q,v,D,g,B,w,h]
theorem iGq{t:TypeId}{x y:Operand}{j k:TyI}{e:TypeId}{v r u:W}{n i:Nat}(c:C.ty t=some j)(b:j.d= .arr n e)(g:evW C G fr x=some (.fel v))(h:evW C G fr y=some u)(z:bLq u=some i)(w:C.ty e=some k)(s:i<n)(q:Nat.beq k.size 0=false)(p:zGq 50 v (i*k.size) k.size k.agg=some r):
  y4q C G fr (.indexAddr t x y)=some (.fel r):=by
 have:Nat.blt i n=true:=by simpa[YR] using s
 simp only[y4q,jEq,c,g,h,z,b,w,this,q,p]
end
section
variable {C:Cfg} {hp:HpW} {nw:Nat} {ts tx e ty:TypeId} {j k:TyI} {x:W} {news olds l:List W}
theorem foq(a:C.ty ts=some j)(b:j.d= .slice e)(h:C.ty e=some k)(m:Nat.beq k.size 0=false)(f:aNq C hp tx k.size x=some []):ckq C hp nw ts tx .nils x=some (.nils,hp,nw,.gen):=by
 simp only[ckq,a,b,h,m,f]
theorem uOq(b:C.ty ts=some j)(m:j.d= .slice e)(q:C.ty e=some k)(f:Nat.beq k.size 0=false)(p:aNq C hp tx k.size x=some news)(t:news≠[])(h:news.length*k.bytes<=140737488355328)(o:news.length<=70368744177664):
  ckq C hp nw ts tx .nils x=some (.sl nw 0 0 news.length k.size none,(nw,e,.arr (news.length*k.size) k.size news)::hp,nw+1,.gen):=by
 cases news with
 |nil=>exact absurd rfl t
 |cons a r=>simp only[ckq,b,m,q,f,p,Zn h,Zn o,Bool.and_self]
theorem jDq{b a f h:Nat}{m:Option Nat}(o:C.ty ts=some j)(q:j.d= .slice e)(t:C.ty e=some k)(p:Nat.beq k.size 0=false)(r:aNq C hp tx k.size x=some []):ckq C hp nw ts tx (.sl b a f h k.size m) x=some (.sl b a f h k.size m,hp,nw,.gen):=by
 simp only[ckq,o,q,t,p,r,show Nat.beq k.size k.size=true by simp]
theorem qxq{b base off len:Nat}{v:W}(t:C.ty ts=some j)(m:j.d= .slice e)(h:C.ty e=some k)(g:Nat.beq k.size 0=false)(q:aNq C hp tx k.size x=some news)(B:news≠[])(y:(len+news.length)*k.bytes<=140737488355328)(z:len+news.length<=70368744177664)(w:hget hp b=some (ty,v))
  (f:v.size<off+(len+news.length)*k.size) (n:gGq ty e=true) (o:ymq 50 v off len k.size=some olds):
  ckq C hp nw ts tx (.sl b base off len k.size none) x=some (.sl nw 0 0 (len+news.length) k.size none,(nw,e,.arr ((len+news.length)*k.size) k.size (olds++news))::ayq hp b,nw+1,.updO b):=by
 have f:Nat.ble (off+(len+news.length)*k.size) v.size=false:=by
  cases A:Nat.ble (off+(len+news.length)*k.size) v.size with
  |true=>have:=Yb A;omega
  |false=>rfl
 cases news with
 |nil=>exact absurd rfl B
 |cons a r=>simp only[ckq,t,m,h,g,q,Zn y,Zn z,Bool.and_self,show Nat.beq k.size k.size=true by simp,w,f,n,o]
theorem yLq{G:Nat->Option W}{f:FrW}{x y:Operand}{s u:W}{r:gfq}(g:evW C G f x=some s)(m:evW C G f y=some u)(h:ckq C hp nw ts tx s u=some r):aDq C G f hp nw (.call ⟨.builtin .append, #[x,y], #[ts,tx]⟩)=some r:=by
 simp only[aDq,doq,g,m,h]
end
section
variable {C:Cfg} {G:Nat->Option W} {m k0:Nat} {rd:Bool} {fr:FrW} {hp:HpW} {nw:Nat} {R:Res} {Q:qHq} {x:Exit}
theorem zlq{y:Code}(b:x≠ .normal)(h:Q x fr hp nw R):Cvq C G m k0 rd y Q x fr hp nw R:=by cases x<;>first|exact h|exact absurd rfl b
theorem CTq{id:Nat}(h:Q .normal fr hp nw R):Ywq id Q (.exit id) fr hp nw R:=by simp only[Ywq,show Nat.beq id id=true by simp];exact h
theorem zxq{id a:Nat}(b:Nat.beq a id=false)(h:Q (.exit a) fr hp nw R):Ywq id Q (.exit a) fr hp nw R:=by simp only[Ywq,b];exact h
theorem zFq{id:Nat}(a:∀i,x≠ .exit i)(h:Q x fr hp nw R):Ywq id Q x fr hp nw R:=by cases x<;>first|exact h|exact absurd rfl (a _)
theorem qQq{b:Type}{I:b->Prop}{F:b->FrW}{H:b->HpW}{N:b->Nat}{RR:b->Res}{d:b->Nat}{k:Nat}(c:x≠ .normal)(h:Q x fr hp nw R):uSq C G m k0 I F H N RR d k Q x fr hp nw R:=by cases x<;>first|exact h|exact absurd rfl c
theorem jsq{c:Code}{k:Nat}(a:∀i,x≠ .goto i)(h:Q x fr hp nw R):Kgq C G m k0 rd c Q k x fr hp nw R:=by cases x<;>cases k<;>first|exact h|exact absurd rfl (a _)
end
def arq(a:FrW):FrW->Prop
 |[]=>True
 |(t,w)::l=>aqq a t=some w/\arq a l
theorem YIq{b:FrW}:∀{l:FrW},arq b l->∀t w,aqq l t=some w->aqq b t=some w
 |[],_,t,w,h=>by simp[aqq] at h
 |(k,u)::l,hs,t,w,h=>by
  simp only[aqq] at h;split at h
  .rename_i e;rw[ZH] at e;subst e;cases h;exact hs.1
  .exact YIq hs.2 t w h
theorem yJq{C:Cfg}{G:Nat->Option W}{m h:Nat}{c fr2:FrW}{e a:HpW}{d b:Nat}{R:Res}(f:arq c fr2)(g:e=a)(i:d=b):Ent C G m h c e d R fr2 a b R:=by
 subst g;subst i;exact opq (YIq f)
theorem lsq{C:Cfg}{G:Nat->Option W}{m k:Nat}{l:Bool}{c:Code}{j:FrW}{g:HpW}{i:Nat}{R:Res}{Q:qHq}
  (h:CoW C G m k l c j g i R λx j g i R=>∃a b d R2,Ent C G m k j g i R a b d R2/\Q x a b d R2):CoW C G m k l c j g i R Q:=λv X F o p w s y=>by
 obtain⟨n,x,f,Γ',X',z,t,R',r,H,q,B,a,b,d,R2,e,A⟩:=h v X F o p w s y;obtain⟨Γ2,X2,D,E,u⟩:=e Γ' X' f rfl (q.mle (o▸p)) H;exact⟨n,x,f,Γ2,X2,a,b,R2,r,E,q.trans u,B,D▸A⟩
theorem J9q{α:Type}{C:Cfg}{G:Nat->Option W}{m f:Nat}{g:Bool}{x y:Code}{d:FrW}{c:HpW}{b:Nat}{R:Res}{Q:qHq}(I:α->Prop)(F:α->FrW)(H:α->HpW)(N:α->Nat)
  (i:CoW C G m f g x d c b R λe d c b R'=>e= .normal/\∃a,I a/\Ent C G m f d c b R' (F a) (H a) (N a) R) (j:∀a,I a->CoW C G m f g y (F a) (H a) (N a) R Q):CoW C G m f g (.seq x y) d c b R Q:=
 p9q (lsq (Xkq i λe d c b R' h=>by
  obtain⟨rfl,a,k,p⟩:=h;exact⟨_,_,_,_,p,j a k⟩))
def aTq(C:Cfg)(G:Nat->Option W)(m j:Nat)(h:List ResultVar)(Q:W->HpW->Nat->Res->Prop):qHq:=λx i g f R=>∃d b c R2,Ent C G m j i g f R d b c R2/\(x= .normal\/x= .ret)/\∃w,c7q C d b h=some w/\Q w b c R2
theorem ZSq{C:Cfg}{G:Nat->Option W}{m:Nat}{d:HpW}{R:Res}{f:FuncId}{fn:Func}{c:Code}{b:List W}{Q:W->HpW->Nat->Res->Prop}(i:C.known f=none)(e:C.fn f=some fn)(g:fn.body=some c)(j:b.length<=fn.ntmps)
  (h:∀a,CoW C G m a false c (ZDq 0 b) d m R (aTq C G m a fn.results.toList Q)):ajq C G f m b d R Q:=rTq i e g j λa=>lsq (h a)
theorem fin{C:Cfg}{G:Nat->Option W}{m g:Nat}{b:List ResultVar}{Q:W->HpW->Nat->Res->Prop}{x:Exit}{f fr2:FrW}{d hp2:HpW}{c nw2:Nat}{R R2:Res}{w:W}(i:x= .normal\/x= .ret)(e:Ent C G m g f d c R fr2 hp2 nw2 R2)(h:c7q C fr2 hp2 b=some w)(j:Q w hp2 nw2 R2):
  aTq C G m g b Q x f d c R:=⟨fr2,hp2,nw2,R2,e,i,w,h,j⟩
theorem zvq{C:Cfg}{G:Nat->Option W}{m k0 Q nw2:Nat}{S fr2:FrW}{J hp2:HpW}{R:Res}(hm:m<=nw2)(hn:nw2<=Q)(hf:arq S fr2)(hr:fr2.all (λp=>agq nw2 p.2)=true)(q:∀b x,hget hp2 b=some x->b<nw2/\hget J b=some x/\agq nw2 x.2=true)(nd:(hp2.map (·.1)).Nodup):
  Ent C G m k0 S J Q R fr2 hp2 nw2 R:=λf X st hnw T s=>by
 let Γ2:Ctx:=⟨nw2,f.σ,f.D,f.h⟩
 have g:∀{w:W} {v:V},agq nw2 w=true->RV f w v->RV Γ2 w v:=λ{w v} B z=>⟨z.1,by
  have A:=Yvq (τ:=λb=>b) (Γ:=f) (Γ':=f) ⟨λ_ h=>h,λ_ _=>rfl,λ_ h=>h,λ_ _=>rfl⟩ z.2;exact uQq (Γ:=f) (Γ':=Γ2) (τ:=λb=>b) rfl (λ_ _=>rfl) (λ_ h=>h) (λ_ _=>rfl) B A⟩
 have j:∀{c},aoq Γ2 hp2 c->aoq f J c:=λ{c} h=>by
  obtain⟨k,y,E,M⟩:=h;exact⟨k,_,(q k y E).2.1,M⟩
 refine⟨Γ2,X,rfl,⟨s.hh,λt w P=>?_,⟨s.sat.wf,λb ty w L=>?_,λb c x y hx Y e=>s.sat.inj b c x y (q b x hx).2.1 (q c y Y).2.1 e,nd,s.sat.dX,s.sat.xlt,s.sat.dlt,s.sat.res,s.sat.gl⟩,λd hd=>?_,s.nd⟩,⟨λ_ _=>rfl,λ_=>hm,Zb _,λ_ _ _ _=>rfl,λ_ h=>h,λ_ h=>.inl h,λb x _ h=>⟨x,(q b x h).2.1⟩,λb x L h=>.inr ⟨b,x,L,(q b x h).2.1,rfl⟩,λ_ h=>.inl h,λ_ h _ _=>h⟩⟩
 .obtain⟨v,F,g4⟩:=s.fr _ _ (YIq hf t w P);refine⟨v,F,g ?_ g4⟩
  have I:∀{l:FrW},aqq l t=some w->∃p∈l,p.2=w:=λ{l}=>by
   induction l with
   |nil=>intro h;simp[aqq] at h
   |cons p l Z=>
    obtain⟨k,u⟩:=p;intro h;simp only[aqq] at h;split at h
    .cases h;exact⟨_,ZV ..,rfl⟩
    .obtain⟨p,A,h2⟩:=Z h;exact⟨p,ZS _ A,h2⟩
  obtain⟨p,A,rfl⟩:=I P;exact(List.all_eq_true.1 hr) p A
 .obtain⟨E,M,F⟩:=q b _ L;obtain⟨B,z,K,v,O,H⟩:=s.sat.own _ _ _ M;exact⟨E,z,K,v,O,g F H⟩
 .obtain⟨B,z,K,O,H,U⟩:=s.ds d hd;exact⟨B,z,K,λh=>O (j h),H,U⟩
def coq(c:HpW)(a:Nat):HpW->Prop
 |[]=>True
 |(b,x)::l=>(b<a/\hget c b=some x/\agq a x.2=true)/\coq c a l
theorem zoq{f:HpW}{d:Nat}:∀{l:HpW},coq f d l->∀b x,hget l b=some x->b<d/\hget f b=some x/\agq d x.2=true
 |[],_,b,x,h=>by simp[hget] at h
 |(k,y)::l,hs,b,x,h=>by
  rw[zfq] at h;split at h
  .rename_i e;subst e;cases h;exact hs.1
  .exact zoq hs.2 b x h
def vNq(c:Nat->Nat)(a:Nat)(b:FrW):FrW->Prop
 |[]=>True
 |(t,w)::l=>(aqq b t=some (adq c w)/\agq a w=true)/\vNq c a b l
theorem uWq{d:Nat->Nat}{b:Nat}{f:FrW}:∀{l:FrW},vNq d b f l->∀t w,aqq l t=some w->aqq f t=some (adq d w)/\agq b w=true
 |[],_,t,w,h=>by simp[aqq] at h
 |(k,u)::l,hs,t,w,h=>by
  simp only[aqq] at h;split at h
  .rename_i e;rw[ZH] at e;subst e;cases h;exact hs.1
  .exact uWq hs.2 t w h
def Jqq(c:Nat->Nat)(a:Nat)(d:HpW):HpW->Prop
 |[]=>True
 |(b,x)::l=>(b<a/\hget d (c b)=some (x.1,adq c x.2)/\agq a x.2=true)/\Jqq c a d l
theorem j1q{f:Nat->Nat}{d:Nat}{g:HpW}:∀{l:HpW},Jqq f d g l->∀b x,hget l b=some x->b<d/\hget g (f b)=some (x.1,adq f x.2)/\agq d x.2=true
 |[],_,b,x,h=>by simp[hget] at h
 |(k,y)::l,hs,b,x,h=>by
  rw[zfq] at h;split at h
  .rename_i e;subst e;cases h;exact hs.1
  .exact j1q hs.2 b x h
def aIq(b k:Nat):Nat->Nat:=λi=>match Nat.beq i b with
 |true=>k
 |false=>i
theorem kcq(b k:Nat):aIq b k b=k:=by simp[aIq]
theorem qLq{b k i:Nat}(h:i≠b):aIq b k i=i:=by
 unfold aIq
 have:Nat.beq i b=false:=by
  cases a:Nat.beq i b with
  |true=>exact absurd (Zi a) h
  |false=>rfl
 rw[this]
theorem yiq{C:Cfg}{G:Nat->Option W}{m I q b k:Nat}{A fr2:FrW}{z hp2:HpW}{R:Res}(M:m<=b)(L:b<=k)(J:k<q)(B:vNq (aIq b k) (b+1) A fr2)(l:Jqq (aIq b k) (b+1) z hp2)(K:(hp2.map (·.1)).Nodup):Ent C G m I A z q R fr2 hp2 (b+1) R:=by
 refine QXq (aIq b k) Xd (λi F=>qLq Xd) (λi F=>?_) (λi n H=>?_) (uWq B) (j1q l) (λi j x y D E e=>?_) K
 .by_cases e:i=b
  .subst e;rw[kcq];exact J
  .rw[qLq e];omega
 .by_cases e:i=b
  .subst e;rw[kcq];omega
  .rw[qLq e];exact n
 .have n:=(j1q l i x D).1;have H:=(j1q l j y E).1;by_cases f:i=b<;>by_cases g:j=b
  .rw[f,g]
  .subst f;rw[kcq,qLq g] at e;omega
  .subst g;rw[kcq,qLq f] at e;omega
  .rwa[qLq f,qLq g] at e
theorem QGq{b c d:Nat}{g j:TypeId}{w0 w1:W}{f:HpW}(o:hget f b=some (g,adq (afq [b,c] d) w0))(q:hget f c=some (j,adq (afq [b,c] d) w1))(u:agq 2 w0=true)(k:agq 2 w1=true):Khq [b,c] d [(0,g,w0),(1,j,w1)] f:=λi v w h=>by
 rw[zfq,zfq] at h;split at h
 .rename_i e;subst e;cases h;exact⟨by simp,u,b,rfl,o⟩
 .split at h
  .rename_i e;subst e;cases h;exact⟨by simp,k,c,rfl,q⟩
  .simp[hget] at h
theorem yYq{b d:Nat}{c:TypeId}{w0:W}{f:HpW}(g:hget f b=some (c,adq (afq [b] d) w0))(j:agq 1 w0=true):Khq [b] d [(0,c,w0)] f:=λi k w h=>by
 rw[zfq] at h;split at h
 .rename_i e;subst e;cases h;exact⟨by simp,j,b,rfl,g⟩
 .simp[hget] at h
def bN(l:List Nat):List W:=l.map λc=>.int .u8 (.ofNat c)
theorem ZCq(l:List Nat):(bN l).length=l.length:=by simp[bN]
theorem Ytq:∀l:List Nat,acq (bN l)=true
 |[]=>rfl
 |_::l=>by simp only[bN,ZD,acq,aaq,Y6];exact Ytq l
theorem tPq{l:List Nat}{i:Nat}(h:i<l.length):(bN l)[i]? =some (.int .u8 (.ofNat (l.getD i 0))):=by
 simp[bN,Z1,Za h,List.getD]
theorem QCq{w:W}(h:w.leaf=true):w.size=1:=by cases w<;>simp[W.leaf] at h<;>rfl
theorem oaq{w:W}(f:Nat)(h:w.leaf=true):zGq (f+1) w 0 1 false=some w:=by
 unfold zGq;simp[QCq h,W.leaf_agg h,h]
theorem m9q{v w:W}(f:Nat)(h:v.leaf=true)(a:w.leaf=true):z7q (f+1) v 0 w=some w:=by
 unfold z7q;simp[QCq h,QCq a,W.leaf_agg h,W.leaf_agg a,h,a]
theorem q9q{n i f:Nat}{l:List W}{x:W}(h:l[i]? =some x)(b:x.leaf=true):zGq (f+2) (.arr n 1 l) i 1 false=some x:=by
 unfold zGq;have:(Nat.beq i 0&&Nat.beq 1 (W.arr n 1 l).size&&false==(W.arr n 1 l).isAgg)=false:=by simp[W.isAgg]
 rw[this];simp only[Nat.div_one,Nat.mod_one,h];exact oaq f b
theorem xPq{n i f:Nat}{l:List W}{x y:W}(h:l[i]? =some x)(c:x.leaf=true)(b:y.leaf=true):z7q (f+2) (.arr n 1 l) i y=some (.arr n 1 (l.set i y)):=by
 unfold z7q;have:(Nat.beq i 0&&Nat.beq y.size (W.arr n 1 l).size&&y.isAgg==(W.arr n 1 l).isAgg)=false:=by rw[W.leaf_agg b,Bool.and_eq_false_iff];exact .inr rfl
 rw[this];simp only[Nat.div_one,Nat.mod_one,h,m9q f c b]
theorem vXq{n b k f:Nat}{l:List W}(c:b+k<=n):ymq (f+1) (.arr n 1 l) b k 1=some ((l.drop b).take k):=by
 unfold ymq
 have:(Nat.beq 1 1&&Nat.beq (b%1) 0&&Nat.ble (b+k*1) n&&Nat.blt 0 1)=true:=by
  rw[Nat.mod_one,Z6,Zn c];rfl
 simp only[this,Nat.div_one]
theorem RVL_nil{b:Ctx}{a:List V}:RVL b [] a↔a=[]:=by simp[RVL]
theorem RVL_cons{b:Ctx}{w:W}{d:List W}{c:List V}:RVL b (w::d) c↔∃v a,c=v::a/\RV b w v/\RVL b d a:=by simp only[RVL,RV]
theorem mOq{C:Cfg}{G:Nat->Option W}{f:FuncId}{g:List W}{w:W}{v:V}{e:List V}{n:Nat}(h:∀h,y9q C n f e h=some (v,h))(l:∀a b,RVL a g b->b=e)(m:∀a,RV a w v):zUq C G f 0 g [] λj c d=>j=w/\c=[]/\d=0:=λR a X b k s i=>by
 obtain rfl:=l a b i;exact⟨n,v,a,X,w,[],R,h a.h,s,Frm.refl _ _ _ _,m a,rfl,rfl,rfl,k⟩
end
end
end Go.Proofs.YtcoldbcijgmidaaGreatDoor

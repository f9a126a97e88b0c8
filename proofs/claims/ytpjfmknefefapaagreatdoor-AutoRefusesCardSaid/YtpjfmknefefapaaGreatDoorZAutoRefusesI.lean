/-
  What the proof of AutoRefuses stands on, part 9. No condition.
-/
import Derived.OpenShut
import Derived.Test.YtpjfmknefefapaaGreatDoorZAutoRefusesH
set_option maxRecDepth 100000
set_option linter.unusedSimpArgs false
set_option linter.unusedVariables false
namespace Go.Proofs.YtpjfmknefefapaaGreatDoor
section
open Go.RowKit
mutual
/-- all blocks in it lie below n -/
noncomputable def ltB(n:Nat):V->Bool
 |.ptr b _=>decide (b<n)
 |.sl b _ _ _ _ _=>decide (b<n)
 |.map b=>decide (b<n)
 |.yield b=>decide (b<n)
 |.fn _ a c=>ltL n a&&ltL n c
 |.iface _ v=>ltB n v
 |.agg _ l=>ltL n l
 |.arr _ _ l=>ltL n l
 |.tup l=>ltL n l
 |.undef=>true
 |.bool _=>true
 |.int _ _=>true
 |.str _=>true
 |.nilp=>true
 |.nils=>true
 |.nilm=>true
 |.nilf=>true
 |.nili=>true
noncomputable def ltL(n:Nat):List V->Bool
 |[]=>true
 |v::l=>ltB n v&&ltL n l
end
mutual
theorem mFq{D:Nat->Nat->Prop}{n:Nat}:∀{v:V},InD D v->ltB n v=true->InD (λi m=>D i m/\i<n) v
 |.ptr _ _,hi,h=>⟨hi,YN h⟩
 |.sl _ _ _ _ _ _,hi,h=>⟨hi.1,hi.2.1,hi.2.2,YN h⟩
 |.map _,hi,h=>⟨hi,YN h⟩
 |.yield _,hi,h=>⟨hi,YN h⟩
 |.fn _ a c,hi,h=>by
  simp only[ltB,Zb] at h;exact⟨Yyq (l:=a) hi.1 h.1,Yyq (l:=c) hi.2 h.2⟩
 |.iface _ v,hi,h=>mFq (v:=v) hi Je
 |.agg _ l,hi,h=>Yyq (l:=l) hi Je
 |.arr _ _ l,hi,h=>Yyq (l:=l) hi Je
 |.tup l,hi,h=>Yyq (l:=l) hi Je
 |.undef,_,_=>trivial
 |.bool _,_,_=>trivial
 |.int _ _,_,_=>trivial
 |.str _,_,_=>trivial
 |.nilp,_,_=>trivial
 |.nils,_,_=>trivial
 |.nilm,_,_=>trivial
 |.nilf,_,_=>trivial
 |.nili,_,_=>trivial
theorem Yyq{D:Nat->Nat->Prop}{n:Nat}:∀{l:List V},InDL D l->ltL n l=true->InDL (λi m=>D i m/\i<n) l
 |[],_,_=>trivial
 |v::l,hi,h=>by
  simp only[ltL,Zb] at h;exact⟨mFq hi.1 h.1,Yyq hi.2 h.2⟩
end
mutual
noncomputable def jQq:W->Bool
 |.bool _=>true
 |.int _ _=>true
 |.str _=>true
 |.nilp=>true
 |.nils=>true
 |.nilm=>true
 |.nilf=>true
 |.nili=>true
 |.agg _ l=>Ynq l
 |.arr _ _ l=>Ynq l
 |_=>false
noncomputable def Ynq:List W->Bool
 |[]=>true
 |w::l=>jQq w&&Ynq l
end
mutual
theorem gwq{Γ Γ':Ctx}:∀{w:W} {s s':List V},jQq w=true->RS Γ w s->RS Γ' w s'->s=s'
 |.undef,_,_,h,_,_=>by simp[jQq] at h
 |.bool _,_,_,_,h,k=>by simp only[RS] at h k;rw[h,k]
 |.int _ _,_,_,_,h,k=>by simp only[RS] at h k;rw[h,k]
 |.str _,_,_,_,h,k=>by simp only[RS] at h k;rw[h,k]
 |.nilp,_,_,_,h,k=>by simp only[RS] at h k;rw[h,k]
 |.ptr _ _,_,_,h,_,_=>by simp[jQq] at h
 |.nils,_,_,_,h,k=>by simp only[RS] at h k;rw[h,k]
 |.sl _ _ _ _ _ _,_,_,h,_,_=>by simp[jQq] at h
 |.fz _ _ _,_,_,h,_,_=>by simp[jQq] at h
 |.fel _,_,_,h,_,_=>by simp[jQq] at h
 |.nilm,_,_,_,h,k=>by simp only[RS] at h k;rw[h,k]
 |.fn _ _ _,_,_,h,_,_=>by simp[jQq] at h
 |.yield _,_,_,h,_,_=>by simp[jQq] at h
 |.nilf,_,_,_,h,k=>by simp only[RS] at h k;rw[h,k]
 |.iface _ _,_,_,h,_,_=>by simp[jQq] at h
 |.nili,_,_,_,h,k=>by simp only[RS] at h k;rw[h,k]
 |.agg n l,_,_,hp,h,k=>by simp only[jQq] at hp;simp only[RS] at h k;exact Juq hp h.2 k.2
 |.arr n e l,_,_,hp,h,k=>by simp only[jQq] at hp;simp only[RS] at h k;exact Juq hp h.2.2 k.2.2
 |.tup _,_,_,h,_,_=>by simp[jQq] at h
theorem Juq{Γ Γ':Ctx}:∀{l:List W} {s s':List V},Ynq l=true->RSL Γ l s->RSL Γ' l s'->s=s'
 |[],_,_,_,h,k=>by simp only[RSL] at h k;rw[h,k]
 |w::l,s,s',hp,h,k=>by
  simp only[Ynq,Zb] at hp;simp only[RSL] at h k;have h1:=gwq hp.1 h.1 k.1;have h2:=Juq hp.2 h.2 k.2;rw[<-ZJ w.size s,<-ZJ w.size s',h1,h2]
end
theorem ifq{Γ Γ':Ctx}{w:W}{v v':V}(hw:jQq w=true)(h:RV Γ w v)(k:RV Γ' w v')(ρ:Env):aaq ρ v=aaq ρ v':=by
 have e:=gwq hw h.2 k.2;cases hv:v.isAgg with
 |true=>
  have hv':v'.isAgg=true:=by rw[<-k.1,h.1,hv]
  rw[qzq hv,qzq hv',yXq,yXq,e]
 |false=>
  have hv':v'.isAgg=false:=by rw[<-k.1,h.1,hv]
  rw[kdq hv,kdq hv'] at e;cases e;rfl
noncomputable def feq(n:Nat):Option Blk->Option Blk
 |some (.cells ty v)=>if ltB n v then some (.cells ty v) else none
 |some (.ro v)=>if ltB n v then some (.ro v) else none
 |_=>none
theorem fdq{n:Nat}{o:Option Blk}{b:Blk}(h:feq n o=some b):o=some b/\∀D,InB D b->InB (λi m=>D i m/\i<n) b:=by
 unfold feq at h;split at h
 .split at h
  .rename_i hl;cases h;exact⟨rfl,λD hi=>mFq hi hl⟩
  .cases h
 .split at h
  .rename_i hl;cases h;exact⟨rfl,λD hi=>mFq hi hl⟩
  .cases h
 .cases h
noncomputable def b7q(h:Heap):Nat->Prop:=λb=>b<h.next/\∃v,h.val b=some v/\ltB h.next v=true
section
variable {P:Program} {C:Cfg} {G:Nat->Option W}
structure ReadsK(C:Cfg)(G:Nat->Option W)(vs:List V)(h:Heap)(ws:List W):Prop where
 args:RVL ⟨0,λi=>i,b7q h,h⟩ ws vs
 lt:ltL h.next vs=true
 glt:∀g,C.glob g=true->g<h.next
 gl:GRel C G ⟨0,λi=>i,b7q h,h⟩
theorem fbq(hmx:P.follows .mixedOrders=true)(hC:CfgOK P C)(hF:vJq P C)(hK:jhq P C){f:FuncId}{k:List V->Heap->Option (V×Heap)}
  (hk:∀vs h v h',k vs h=some (v,h') ->h'=h/\b2q v=true/\∃ws w,ReadsK C G vs h ws/\jQq w=true/\yxq C G f 0 ws [] (λw' _ _=>w'=w)/\∃Γ,RV Γ w v):qyq P C f k:=λvs h v h' he=>by
 obtain⟨rfl,hbv,ws,w,hrd,hpl,sp,Γ2,hrv⟩:=hk vs h v h' he;obtain⟨t,ht⟩:=Tr.of (λi=>feq h'.next (h'.get i)) h'.next;let hs:Heap:=⟨h'.next,h'.next,t⟩
 have get_lt:∀i,i<h'.next->hs.get i=feq h'.next (h'.get i):=λi hi=>by show t.get i=_;rw[ht,Zt hi]
 have get_ge:∀i,h'.next<=i->hs.get i=none:=λi hi=>by show t.get i=_;rw[ht,Zg Xd]
 have get_some:∀{i b},hs.get i=some b->i<h'.next/\h'.get i=some b/\∀D,InB D b->InB (λi m=>D i m/\i<h'.next) b:=λ{i b} hb=>by
  rcases ZM i h'.next with hi|hi
  .rw[get_lt i hi] at hb;exact⟨hi,fdq hb⟩
  .rw[get_ge i hi] at hb;cases hb
 have val_of:∀{b v},b<h'.next->h'.val b=some v->ltB h'.next v=true->hs.val b=some v:=λ{b v} hb h1 h2=>by
  simp only[Heap.val,get_lt b hb] at h1⊢;cases hg:h'.get b with
  |none=>rw[hg] at h1;cases h1
  |some x=>
   rw[hg] at h1;cases x with
   |cells ty u=>cases h1;simp only[feq,h2,if_true]
   |ro u=>cases h1;simp only[feq,h2,if_true]
   |loop=>cases h1
   |dfr=>cases h1
   |map=>cases h1
   |siter=>cases h1
   |miter=>cases h1
 have val_lt:∀{b v},hs.val b=some v->b<h'.next:=λ{b v} h1=>by
  simp only[Heap.val] at h1;cases hg:hs.get b with
  |none=>rw[hg] at h1;cases h1
  |some x=>exact(get_some hg).1
 have le:∀nw σ,Ctx.Le ⟨nw,σ,b7q h',h'⟩ ⟨nw,σ,λb=>∃v,hs.val b=some v,hs⟩:=λnw σ=>
  ⟨Zc _,λ_ _=>rfl,λb hb=>by obtain⟨h1,u,h2,h3⟩:=hb;exact⟨u,val_of h1 h2 h3⟩,λb hb=>by
   obtain⟨h1,u,h2,h3⟩:=hb;show hs.val b=h'.val b;rw[val_of h1 h2 h3,h2]⟩
 have sat:SatH C G ⟨0,λi=>i,λb=>∃v,hs.val b=some v,hs⟩ [] (λ_=>False) Res.none:=
  ⟨get_ge,λ_ _ _ h=>by simp[hget] at h,λ_ _ _ _ h=>by simp[hget] at h,YJ,λ_ _ h=>h,λ_ h=>h.elim,λc hc=>by obtain⟨u,hu⟩:=hc;exact val_lt hu,trivial,λg w h1 h2 nw σ=>(hrd.gl g w h1 h2 nw σ).mono (le nw σ)⟩
 obtain⟨n,v1,Γ1,X1,w1,hp1,R1,g1,g2,g3,g4,rfl,hq⟩:=sp Res.none _ (λ_=>False) vs rfl sat (RVL.mono (le _ _) hrd.args)
 have hw:h'.next<=Γ1.h.wmin:=g3.wmin (λc=>h'.next<=c) (Zc _) (λc h=>h) λc hc=>by
  rcases hc with ⟨b,x,h1,_⟩|hc
  .simp[hget] at h1
  .exact hc.elim
 have rn:=(bdq hmx hC hF hK n).self;have hn:h'.next<=Γ1.h.next:=g3.next;refine⟨Mono.refl _,rn.fnEnter _ _ _ _ _ g1,λs0 U D ρ w0 hU gl hin rel=>?_⟩;have up:∀{b},InB (λi m=>DD D ρ i m/\i<h'.next) b->InB (DD (λi=>D i/\i<h'.next) ρ) b:=λh=>h.mono λi m hi=>⟨⟨hi.1.1,hi.2⟩,hi.1.2⟩
 have relS:Rel s0 Γ1.h.next (λi=>D i/\i<h'.next) ρ hs w0:=by
  refine⟨λi hi=>.inl hi.2,get_ge,λi b hi hb=>rel.has i b hi.1 (get_some hb).2.1,λi b hi hb=>up ((get_some hb).2.2 _ (rel.clo i b hi.1 (get_some hb).2.1)),λi j b c hi hj hb hc=>rel.inj i j b c hi.1 hj.1 (get_some hb).2.1 (get_some hc).2.1,λi b hi hb=>rel.own i b hi.1 (get_some hb).2.1,λi j b c hi hj hb hc=>rel.old i j b c hi.1 hj.1 (get_some hb).2.1 (get_some hc).2.1,rel.base⟩
 have glS:GlobOK C (DD (λi=>D i/\i<h'.next) ρ) ρ:=λg hg=>by
  obtain⟨h1,h2⟩:=gl g hg;exact⟨⟨⟨h1.1,hrd.glt g hg⟩,h1.2⟩,h2⟩
 have hinS:InDL (DD (λi=>D i/\i<h'.next) ρ) vs:=InDL_iff.2 λv hv=>InD.mono' (λi m hi=>⟨⟨hi.1.1,hi.2⟩,hi.1.2⟩) v (InDL_iff.1 (Yyq hin hrd.lt) v hv)
 refine(rn.fn _ _ _ _ _ g1 s0 Γ1.h.next _ ρ w0 (Zc _) glS hinS relS).mono λe w'=>?_
 rintro⟨D',ρ',rfl,r',n',_⟩
 have same:∀c,c<w0.heap.size->w'.heap[c]? =w0.heap[c]? :=λc hc=>n'.frame c hc λi _ h2 h3=>by
  have h3:i<h'.next:=h3;omega
 have hval:aaq ρ' v1=aaq ρ v:=by
  subst hq;exact(ifq hpl g4 hrv ρ').trans (igq hbv ρ ρ')
 refine⟨D,ρ,by rw[hval],⟨rel.lt,rel.wf,λi b hi hb=>?_,rel.clo,rel.inj,rel.own,rel.old,r'.base⟩,⟨λ_ h=>h,λ_ h=>.inl h,λ_ _=>⟨rfl,rfl,rfl,rfl⟩,λc hc _=>same c hc,λi _ h1 h2=>by omega,n'.size,Zc _,Zc _,n'.os,n'.tape,n'.output⟩,bare_in hbv⟩;obtain⟨o,q1,q2⟩:=rel.has i b hi hb;exact⟨o,by rw[same _ (Zp.1 q1).1];exact q1,q2⟩
end
section
variable {kfn:List V->Heap->Option (V×Heap)}
noncomputable def lFq(l:List Nat):Prop:=∀b∈l,b<256
noncomputable def u8V(n:Nat):V:=.int .u8 (.ofNat n)
noncomputable def u32V(n:Nat):V:=.int .u32 (.ofNat n)
noncomputable def eAq(h:Heap)(b off n:Nat):Option (List V):=match Nat.blt b h.next,h.val b with
 |true,some bv=>match bv.isAgg&&ltB h.next bv&&Nat.ble (off+n) bv.size with
  |true=>some (((zlq bv).drop off).take n)
  |false=>none
 |_,_=>none
theorem Y6q{h:Heap}{b off n:Nat}{s:List V}(hs:eAq h b off n=some s):b<h.next/\b7q h b/\s.length=n/\∃bv,h.val b=some bv/\bv.isAgg=true/\off+n<=bv.size/\s=((zlq bv).drop off).take n:=by
 unfold eAq at hs;split at hs
 .rename_i bv hb hv;split at hs
  .rename_i hc;cases hs;simp only[Zb] at hc;have h1:b<h.next:=by simpa using hb
   have h2:off+n<=bv.size:=Yb hc.2;refine⟨h1,⟨h1,bv,hv,hc.1.2⟩,?_,bv,hv,hc.1.1,h2,rfl⟩;rw[Zu,Zx,yOq];omega
  .cases hs
 .cases hs
noncomputable def u8s:List V->Option (List Nat)
 |[]=>some []
 |.int .u8 (.ofNat n)::l=>match Nat.blt n 256,u8s l with
  |true,some ns=>some (n::ns)
  |_,_=>none
 |_=>none
theorem dvq:∀{s:List V} {l:List Nat},u8s s=some l->s=l.map u8V/\lFq l
 |[],_,h=>by cases h;exact⟨rfl,λb hb=>by cases hb⟩
 |v::s,l,h=>by
  unfold u8s at h;split at h
  .rename_i he;cases he
  .rename_i n l' he;cases he;split at h
   .rename_i ns h1 hn;cases h;obtain⟨e,k⟩:=dvq hn;refine⟨by rw[e];rfl,λb hb=>?_⟩;rcases ZF.1 hb with rfl|hb
    .simpa using h1
    .exact k b hb
   .cases h
  .cases h
theorem iVq(Γ:Ctx):∀l:List Nat,RSL Γ (bN l) (l.map u8V)
 |[]=>rfl
 |n::l=>qeq (a:=[u8V n]) (b:=l.map u8V) (x:=.int .u8 (.ofNat n)) rfl (iVq Γ l)
theorem ggq(l:List Nat):∀x∈bN l,x.size=1:=λx hx=>by
 obtain⟨n,_,rfl⟩:=Z1.1 hx;rfl
noncomputable def p0q(h:Heap):V->Option (List Nat)
 |.nils=>some []
 |.sl b _ off len 1 _=>match eAq h b off len with
  |some s=>u8s s
  |none=>none
 |_=>none
theorem QJq{h:Heap}{v:V}{l:List Nat}(hk:p0q h v=some l):RS ⟨0,λi=>i,b7q h,h⟩ (ukq (l,false)) [v]/\lFq l:=by
 unfold p0q at hk;split at hk
 .cases hk;exact⟨.inl ⟨rfl,rfl⟩,λb hb=>by cases hb⟩
 .rename_i b base off len lim;split at hk
  .rename_i s hs;obtain⟨_,h2,h3,bv,h4,h5,h6,h7⟩:=Y6q hs;obtain⟨e,ks⟩:=dvq hk;refine⟨?_,ks⟩
   have hl:(bN l).length=len:=by
    rw[vEq,<-h3,e,Zd]
   refine .inr ⟨b,base,off,lim,bv,by rw[hl],λh=>Qs,h2,h4,h5,by rw[hl,Z2];exact h6,ggq l,?_⟩;rw[hl,Z2,<-h7,e];exact iVq _ l
  .cases hk
 .cases hk
noncomputable def dXq(h:Heap):List V->Option (List (List Nat))
 |[]=>some []
 |v::s=>match p0q h v with
  |some l=>match dXq h s with
   |some ls=>some (l::ls)
   |none=>none
  |none=>none
noncomputable def Jfq(ps:List (List Nat)):List (List Nat×Bool):=ps.map λl=>(l,false)
theorem Ypq{h:Heap}:∀{s:List V} {ps:List (List Nat)},dXq h s=some ps->s.length=ps.length/\RSL ⟨0,λi=>i,b7q h,h⟩ ((Jfq ps).map ukq) s/\∀p∈ps,lFq p
 |[],_,hk=>by cases hk;exact⟨rfl,rfl,λp hp=>by cases hp⟩
 | v ::s,ps,hk=>by
  unfold dXq at hk;split at hk
  .rename_i l hl;split at hk
   .rename_i ls hls;cases hk;obtain⟨h1,h2,h3⟩:=Ypq hls
    exact⟨Ze (· +1) h1,qeq (a:=[v]) (b:=s) (QJq hl).1 h2,λp hp=>by
     rcases ZF.1 hp with rfl|hp
     .exact(QJq hl).2
     .exact h3 p hp⟩
   .cases hk
  .cases hk
noncomputable def BAq(h:Heap):V->Option (List (List Nat))
 |.nils=>some []
 |.sl b _ off len 1 _=>match eAq h b off len with
  |some s=>dXq h s
  |none=>none
 |_=>none
theorem eWq(ps:List (List Nat×Bool)):∀x∈ps.map ukq,x.size=1:=λx hx=>by
 obtain⟨n,_,rfl⟩:=Z1.1 hx;rfl
theorem iGq{h:Heap}{v:V}{ps:List (List Nat)}(hk:BAq h v=some ps):RV ⟨0,λi=>i,b7q h,h⟩ (.fz ((Jfq ps).map ukq) 1 false) v/\ltB h.next v=true/\∀p∈ps,lFq p:=by
 unfold BAq at hk;split at hk
 .cases hk;exact⟨⟨rfl,.inl ⟨rfl,rfl⟩⟩,rfl,λp hp=>by cases hp⟩
 .rename_i b base off len lim;split at hk
  .rename_i s hs;obtain⟨h1,h2,h3,bv,h4,h5,h6,h7⟩:=Y6q hs;obtain⟨g1,g2,g3⟩:=Ypq hk
   have hl:((Jfq ps).map ukq).length=len:=by
    rw[Zd,Jfq,Zd,<-g1,h3]
   refine⟨⟨rfl,.inr ⟨b,base,off,lim,bv,by rw[hl];rfl,λh=>Qs,h2,h4,h5,by rw[hl,Z2];exact h6,eWq _,?_⟩⟩,by simpa[ltB] using h1,g3⟩;rw[hl,Z2,<-h7];exact g2
  .cases hk
 .cases hk
noncomputable def eqK:List V->List Nat->Bool
 |[],[]=>true
 |.int .u32 (.ofNat n)::l,m::ms=>match Nat.beq n m with
  |true=>eqK l ms
  |false=>false
 |_,_=>false
theorem ekq:∀{l:List V} {ms:List Nat},eqK l ms=true->l=ms.map u32V
 |[],[],_=>rfl
 |[],_::_,h=>by simp[eqK] at h
 |v::l,ms,h=>by
  unfold eqK at h;split at h
  .simp_all
  .rename_i n l' m ms' e;cases e;split at h
   .rename_i hb;obtain rfl:=Zh hb;rw[ekq h];rfl
   .cases h
  .cases h
noncomputable def mRq(h:Heap):Bool:=match h.get 1 with
 |some (.ro (.arr 64 1 l))=>eqK l kW
 |_=>false
theorem oPq(Γ:Ctx):∀l:List Nat,RSL Γ (l.map wd) (l.map u32V)
 |[]=>rfl
 |n::l=>qeq (a:=[u32V n]) (b:=l.map u32V) (x:=wd n) rfl (oPq Γ l)
theorem QPq{h:Heap}(hn:Nat.ble 3 h.next=true)(hk:mRq h=true):GRel (fEq kfn) glK ⟨0,λi=>i,b7q h,h⟩:=by
 intro g w _ h2 nw σ;have hn:=Yb hn;unfold glK at h2;split at h2
 .cases h2;unfold mRq at hk;split at hk
  .rename_i l hg;obtain rfl:=ekq hk;have hv:h.val 1=some (.arr 64 1 (kW.map u32V)):=by simp only[Heap.val,hg]
   refine RV.of_one ⟨1,0,_,rfl,⟨by omega,_,hv,by rfl⟩,hv,by exact Zc _,λ_=>rfl,.inr rfl,?_⟩ Y Y;have e:((zlq (.arr 64 1 (kW.map u32V))).drop 0).take 64=kW.map u32V:=by kernel_rfl
   show RS _ _ (((zlq (.arr 64 1 (kW.map u32V))).drop 0).take 64);rw[e];exact⟨rfl,λx hx=>by obtain⟨n,_,rfl⟩:=Z1.1 hx;rfl,oPq _ kW⟩
  .cases hk
 .cases h2
theorem iCq:∀l:List Nat,Zyq (l.map u8V)=true
 |[]=>rfl
 |n::l=>by simp only[ZC,Zyq,u8V,b2q,Y5];exact iCq l
theorem dVq:∀l:List Nat,Ynq (bN l)=true
 |[]=>rfl
 |n::l=>by simp only[bN,ZC,Ynq,jQq,Y5];exact dVq l
theorem hQq:∀l:List Nat,z6q 1 (l.map u8V)=l.map u8V
 |[]=>rfl
 |n::l=>by
  simp only[ZC,z6q,hQq l];rfl
theorem lKq(ps:List (List Nat)):(cAq ps).length=32:=by simp[cAq,fqq]
noncomputable def ofK:List V->Heap->Option (V×Heap)
 |[x],h=>match Nat.ble 3 h.next&&mRq h,BAq h x with
  |true,some ps=>match Nat.blt (qfq ps) 2147483648&&Nat.blt ps.length 2147483648 with
   |true=>some (.arr 32 1 ((cAq ps).map u8V),h)
   |false=>none
  |_,_=>none
 |_,_=>none
theorem aWq(ps:List (List Nat)):(Jfq ps).map (·.1)=ps:=by
 simp[Jfq,Function.comp_def]
theorem ofOK:qyq Tryz.prog (fEq hsq) 137 ofK:=fbq (G:=glK) mixed (oCq hsq) (opq hsq) (d8q hsq λ_ _ _ _ he=>nomatch (show(none:Option (V×Heap))=some _ from he)) λvs h v h' he=>by
 unfold ofK at he;split at he
 .rename_i x;split at he
  .rename_i ps hg ha;split at he
   .rename_i hb;cases he;simp only[Zb] at hg hb;obtain⟨a1,a2,a3⟩:=iGq ha;refine⟨rfl,iCq _,[.fz ((Jfq ps).map ukq) 1 false],.arr 32 1 (bN (cAq ps)),⟨RVL_cons.2 ⟨_,_,rfl,a1,RVL_nil.2 rfl⟩,by simp only[ltL,a2,Bool.and_self],λg hg'=>?_,QPq hg.1 hg.2⟩,dVq _,λR=>?_,⟨0,λi=>i,λ_=>False,h⟩,?_⟩
    .have h1:Nat.ble (g+1) 3=true:=hg';have:=Yb h1;have:=Yb hg.1;omega
    .have:=BWq (kfn:=hsq) (Jfq ps) false (by rw[aWq];simpa using hb.1) (by rw[Jfq,Zd];simpa using hb.2) R;rw[aWq] at this;exact this
    .have hl:((cAq ps).map u8V).length=32:=by rw[Zd,lKq]
     refine⟨rfl,?_⟩;show RS _ _ (auq 32 (z6q 1 ((cAq ps).map u8V)));rw[hQq,yiq hl];exact⟨hl,ggq _,iVq _ _⟩
   .cases he
  .cases he
 .cases he
noncomputable def knownT:Tr (List V->Heap->Option (V×Heap)):=Tr.set .nil 137 (some ofK)
noncomputable def cfg1:Cfg:={cfg with known:=λf=>knownT.get f}
theorem mwq:jhq Tryz.prog cfg1:=λf k hk=>by
 have e:knownT.get f=if f=137 then some ofK else none:=by
  unfold knownT;rw[Tr.get_set,Tr.get_nil]
 have hk:knownT.get f=some k:=hk;rw[e] at hk;split at hk
 .rename_i hf;cases hk;subst hf;exact ofOK
 .cases hk
end
noncomputable def Anq(N:Nat):Option (V×Heap) ->Nat
 |some (.bool true,h)=>match Nat.ble N h.wmin with
  |true=>1
  |false=>0
 |_=>0
theorem rlq{N:Nat}{r:Option (V×Heap)}(h:Anq N r=1):∃h1,r=some (.bool true,h1)/\N<=h1.wmin:=by
 unfold Anq at h;split at h
 .rename_i h1;split at h
  .rename_i hb;exact⟨h1,rfl,Yb hb⟩
  .cases h
 .cases h
theorem hSq:∀l:List Nat,z6q 1 (l.map aGq)=l.map aGq
 |[]=>rfl
 |n::l=>by
  show auq 1 [aGq n]++z6q 1 (l.map aGq)=_;rw[hSq l,yiq (n:=1) (l:=[aGq n]) rfl];rfl
theorem iDq:∀l:List Nat,Zyq (l.map aGq)=true
 |[]=>rfl
 |n::l=>by
  show(b2q (aGq n)&&Zyq (l.map aGq))=true;rw[iDq l];rfl
noncomputable def Qzq(N g:Nat)(ns:List Nat):Heap:=⟨N,N,Tr.nil.set g (some (.ro (.arr ns.length 1 (ns.map aGq))))⟩
theorem Qyq(N g:Nat)(ns:List Nat)(i:Nat):(Qzq N g ns).get i=if i=g then some (.ro (.arr ns.length 1 (ns.map aGq))) else none:=by
 show(Tr.nil.set g (some (Blk.ro (.arr ns.length 1 (ns.map aGq))))).get i=_;rw[Tr.get_set,Tr.get_nil]
theorem wnq(ns:List Nat):zlq (.arr ns.length 1 (ns.map aGq))=ns.map aGq:=by
 show auq ns.length (z6q 1 (ns.map aGq))=_;rw[hSq];exact yiq (by rw[Zd])
theorem hpq{P:Program}{C:Cfg}(hmx:P.follows .mixedOrders=true)(hC:CfgOK P C)(hF:vJq P C)(hK:jhq P C){n:Nat}{f:FuncId}{N g:Nat}{ns:List Nat}
  (hr:Anq N (yPq C n f [] (Qzq N g ns))=1) (hg:∀c,C.glob c=true->c<N) (hgN:g<N):qyq P C f (ptq (brq g ns)):=λvs h v h' he=>by
 unfold ptq at he;split at he
 .split at he
  .rename_i ho;cases he;obtain⟨h1,hr,hw⟩:=rlq hr;have rn:=(bdq hmx hC hF hK n).self;refine⟨Mono.refl _,rn.fnEnter _ _ _ _ _ hr,λs0 U D ρ w0 hU gl hin rel=>?_⟩;have hm:=rn.fnMono _ _ _ _ _ hr
   have hst:∀i b,(Qzq N g ns).get i=some b->i=g/\b= .ro (.arr ns.length 1 (ns.map aGq)):=λi b hb=>by
    rw[Qyq] at hb;split at hb
    .rename_i e;cases hb;exact⟨e,rfl⟩
    .cases hb
   have hno:∀i b,(Qzq N g ns).get i=some b->b.own=true->False:=λi b hb ho=>by
    obtain⟨_,rfl⟩:=hst i b hb;cases ho
   have relS:Rel s0 h1.next (λi=>D i/\i<N) ρ (Qzq N g ns) w0:=by
    refine⟨λi hi=>.inl hi.2,λi hi=>?_,λi b hi hb=>?_,λi b hi hb1=>?_,λi j b c hi hj hb hc h _=>(hno i b hb h).elim,λi b hi hb h=>(hno i b hb h).elim,λi j b c hi hj hb hc _ h=>(hno j c hc h).elim,rel.base⟩
    .have hi:N<=i:=hi;rw[Qyq,Zg Xd]
    .obtain⟨rfl,rfl⟩:=hst i b hb;unfold brq at ho;split at ho
     .rename_i bv hv;simp only[Zb] at ho;have hs:=Yb ho.1;have ht:=Q0q ho.2
      have hcell:cellsV ρ bv=cellsV ρ (.arr ns.length 1 (ns.map aGq))++((zlq bv).drop ns.length).map (jJq ρ):=by
       rw[yXq,yXq,wnq,<-ht,<-Z5,ZJ]
      have hz:(V.arr ns.length 1 (ns.map aGq)).size=ns.length:=rfl;unfold Heap.val at hv;split at hv
      .rename_i ty v' hget;cases hv;obtain⟨o,q1,pre,tail,q2,q3,q4⟩:=rel.has _ _ hi.1 hget;exact⟨o,q1,pre,_,ty,(0,0),by rw[q2,hcell,Zz],q3,by rw[hz];omega⟩
      .rename_i v' hget;cases hv;obtain⟨o,q1,pre,tail,ty,fz,q2,q3,q4⟩:=rel.has _ _ hi.1 hget;exact⟨o,q1,pre,_,ty,fz,by rw[q2,hcell,Zz],q3,by rw[hz];omega⟩
      .cases hv
     .cases ho
    .obtain⟨_,rfl⟩:=hst i b hb1;exact bare_in (v:=.arr ns.length 1 (ns.map aGq)) (iDq ns)
   have glS:GlobOK C (DD (λi=>D i/\i<N) ρ) ρ:=λc h0=>by
    obtain⟨h1,h2⟩:=gl c h0;exact⟨⟨⟨h1.1,hg c h0⟩,h1.2⟩,h2⟩
   refine(rn.fn _ _ _ _ _ hr s0 h1.next _ ρ w0 (Zc _) glS trivial relS).mono λe w'=>?_
   rintro⟨D',ρ',rfl,r',n',_⟩
   have same:∀c,c<w0.heap.size->w'.heap[c]? =w0.heap[c]? :=λc hc=>n'.frame c hc λi _ h2 h3=>by
    have h3:i<N:=h3;omega
   refine⟨D,ρ,rfl,⟨rel.lt,rel.wf,λi b hi hb=>?_,rel.clo,rel.inj,rel.own,rel.old,r'.base⟩,⟨λ_ h=>h,λ_ h=>.inl h,λ_ _=>⟨rfl,rfl,rfl,rfl⟩,λc hc _=>same c hc,λi _ h1 h2=>by omega,n'.size,Zc _,Zc _,n'.os,n'.tape,n'.output⟩,trivial⟩;obtain⟨o,q1,q2⟩:=rel.has i b hi hb;exact⟨o,by rw[same _ (Zp.1 q1).1];exact q1,q2⟩
  .cases he
 .cases he
noncomputable def kn2T:Tr (List V->Heap->Option (V×Heap)):=knownT.set 198 (some JTq)
noncomputable def wUq:Cfg:={cfg with known:=λf=>kn2T.get f}
theorem wTq:CfgOK Tryz.prog wUq:=⟨cfgOK.ty,cfgOK.ext,cfgOK.mp,cfgOK.mt,cfgOK.ptr,cfgOK.raw,cfgOK.fnc,cfgOK.room⟩
theorem wlq:vJq Tryz.prog wUq:=hOq
theorem d7q:jhq Tryz.prog wUq:=λf k hk=>by
 have e:kn2T.get f=if f=198 then some JTq else knownT.get f:=by
  unfold kn2T;rw[Tr.get_set]
 have hk:kn2T.get f=some k:=hk;rw[e] at hk;split at hk
 .rename_i hf;cases hk;subst hf;exact ofq
 .exact mwq f k hk
noncomputable def soq:Code:=match Tryz.f35.body with
 |some c=>c
 |none=>.skip
noncomputable def Asq:List V->Heap->Option (V×Heap):=eYq wUq 3000 Tryz.f35 soq
theorem Bzq:qyq Tryz.prog wUq 35 Asq:=by
 unfold Asq;exact Yxq mixed wTq wlq d7q Tryz.func35 Xp (Go.Proofs.enters_of Tryz.func35 Xp rfl) Xp
noncomputable def kn3T:Tr (List V->Heap->Option (V×Heap)):=kn2T.set 35 (some Asq)
noncomputable def Arq:Cfg:={cfg with known:=λf=>kn3T.get f}
theorem wSq:CfgOK Tryz.prog Arq:=⟨cfgOK.ty,cfgOK.ext,cfgOK.mp,cfgOK.mt,cfgOK.ptr,cfgOK.raw,cfgOK.fnc,cfgOK.room⟩
theorem wkq:vJq Tryz.prog Arq:=hOq
theorem mvq:jhq Tryz.prog Arq:=λf k hk=>by
 have e:kn3T.get f=if f=35 then some Asq else kn2T.get f:=by
  unfold kn3T;rw[Tr.get_set]
 have hk:kn3T.get f=some k:=hk;rw[e] at hk;split at hk
 .rename_i hf;cases hk;subst hf;exact Bzq
 .exact d7q f k hk
set_option maxRecDepth 1000000 in
theorem runA:Anq 3 (yPq Arq 3000 6 [] (Qzq 3 1 kA))=1:=by kernel_rfl
theorem t4q:qyq Tryz.prog cfg 6 (ptq (brq 1 kA)):=
 hpq mixed wSq wkq mvq runA (λg hg=>Yb (show Nat.ble (g+1) 3=true from hg)) Xg
theorem d6q:jhq Tryz.prog cfg:=d8q _ t4q
theorem cfgAOK:CfgOK Tryz.prog cfgA:=⟨cfgOK.ty,cfgOK.ext,cfgOK.mp,cfgOK.mt,cfgOK.ptr,cfgOK.raw,cfgOK.fnc,cfgOK.room⟩
theorem fnsAOK:vJq Tryz.prog cfgA:=hOq
theorem w6q:qyq Tryz.prog cfg 35 w7q:=
 hqq λn=>Yxq mixed cfgOK hOq d6q Tryz.func35 Xp (Go.Proofs.enters_of Tryz.func35 Xp rfl) Xp
theorem knownAsk:jhq Tryz.prog cfgA:=λf k hk=>by
 have hk:(match Nat.beq f 35 with|true=>some w7q|false=>cfg.known f)=some k:=hk;cases e:Nat.beq f 35 with
 |false=>
  rw[e] at hk;exact d6q f k hk
 |true=>
  have h:=Zh e;subst h;rw[e] at hk;obtain rfl:=ZB hk;exact w6q
mutual
noncomputable def lfW:W->List V
 |.int k n=>[.int k n]
 |.bool b=>[.bool b]
 |.agg _ l=>lfL l
 |.arr _ _ l=>lfL l
 |_=>[]
noncomputable def lfL:List W->List V
 |[]=>[]
 |w::l=>lfW w++lfL l
end
mutual
noncomputable def aMq:W->Bool
 |.int _ _=>true
 |.bool _=>true
 |.agg n l=>Nat.beq (lfL l).length n&&hoq l
 |.arr n e l=>Nat.beq (lfL l).length n&&l.all (λx=>Nat.beq x.size e)&&hoq l
 |_=>false
noncomputable def hoq:List W->Bool
 |[]=>true
 |w::l=>aMq w&&hoq l
end
mutual
theorem t2q{Γ:Ctx}:∀{w:W},aMq w=true->RS Γ w (lfW w)
 |.int k n,_=>rfl
 |.bool b,_=>rfl
 |.agg n l,h=>by
  simp only[aMq,Zb] at h;exact⟨Zh h.1,hnq h.2⟩
 |.arr n e l,h=>by
  simp only[aMq,Zb] at h;exact⟨Zh h.1.1,λx hx=>Zh (List.all_eq_true.1 h.1.2 x hx),hnq h.2⟩
 |.undef,h=>by simp[aMq] at h
 |.str _,h=>by simp[aMq] at h
 |.nilp,h=>by simp[aMq] at h
 |.ptr _ _,h=>by simp[aMq] at h
 |.nils,h=>by simp[aMq] at h
 |.sl _ _ _ _ _ _,h=>by simp[aMq] at h
 |.fz _ _ _,h=>by simp[aMq] at h
 |.fel _,h=>by simp[aMq] at h
 |.nilm,h=>by simp[aMq] at h
 |.fn _ _ _,h=>by simp[aMq] at h
 |.yield _,h=>by simp[aMq] at h
 |.nilf,h=>by simp[aMq] at h
 |.iface _ _,h=>by simp[aMq] at h
 |.nili,h=>by simp[aMq] at h
 |.tup _,h=>by simp[aMq] at h
theorem hnq{Γ:Ctx}:∀{l:List W},hoq l=true->RSL Γ l (lfL l)
 |[],_=>rfl
 |w::l,h=>by
  simp only[hoq,Zb] at h;exact qeq (t2q h.1) (hnq h.2)
end
noncomputable def Bpq:V:=.arr 32 1 (List.replicate 32 (.int .u8 0))
noncomputable def gapV:V:=.agg 101 [.bool true,.agg 100 [.int .i64 0,.bool false,.agg 98 [.int .i64 0,Bpq,Bpq,Bpq,.int .i64 0]]]
theorem xqq{α:Type}(L:List α)(a n:Nat):L.drop a=(L.drop a).take n++L.drop (a+n):=by
 rw[<-Z8];exact(ZJ n _).symm
theorem Kbq{α:Type}(L:List α)(a n:Nat)(h:L.length=a+n):L.drop a=(L.drop a).take n:=(Zm Ys).symm
def stL:Option TypeDesc->Option (List (TypeId×Nat))
 |some (.struct fs)=>some (fs.toList.map λf=>(f.type,f.offset))
 |_=>none
section
variable {H:Type} {enc:TypeId×Value->H} {P:Program} {w:World} {base:Nat} {spare:Nat->Bool} {held:Bool} {fuel:Nat} {cs:List Value} {p:List MemPlace}
theorem cnq{t:TypeId}{l:List (TypeId×Nat)}{d:DataW H}(hs:stL (P.underlying t)=some l)(h:DataW.trod enc P w base spare held fuel t cs=some (d,p)):∃(xs:List (DataW H×List MemPlace)) (n:Nat),d= .agg (xs.map (·.1))/\cs.length=P.cellsOf t/\∀(i:Nat) (ty:TypeId) (o:Nat),l[i]? =some (ty,o) ->DataW.trod enc P w base spare held n ty ((cs.drop o).take (P.cellsOf ty))=xs[i]? :=by
 unfold stL at hs;split at hs
 .rename_i fs hu;cases hs;obtain⟨xs,n,_,h2,h3,_,h5⟩:=DataW.trod_struct hu h;simp only[ZQ] at h2;refine⟨xs,n,h2.1,h3,λi ty o hi=>?_⟩;rw[ZY] at hi;cases hf:fs.toList[i]? with
  |none=>rw[hf] at hi;cases hi
  |some f=>
   rw[hf] at hi;cases hi;exact h5 i f Ja
 .cases hs
end
section
variable {H:Type} {enc:TypeId×Value->H} {w:World} {base:Nat} {spare:Nat->Bool} {held:Bool} {fuel:Nat} {cs:List Value} {p:List MemPlace}
def zdD:DataW H:=.agg (List.replicate 32 (.lit (.int .u8 0)))
def zdC:List Value:=List.replicate 32 (.int .u8 0)
theorem Jkq(h:DataW.trod enc Tryz.prog w base spare held fuel 23 cs=some (zdD,p)):cs=zdC:=
 trod_tab (ns:=List.replicate 32 0) (k:=.u8) (n:=32) (e:=5) Xp Xp Xp Xp rfl h
theorem Jjq{n:Int}(h:DataW.trod enc Tryz.prog w base spare held fuel 3 cs=some (.lit (.int .i64 n),p)):cs=[.int .i64 n]:=by
 obtain⟨z,h1,h2,_⟩:=DataW.trod_int (k:=.i64) Xp h;simp only[ZQ,DataW.lit.injEq,Lit.int.injEq,true_and] at h2;rw[h1,h2.1]
theorem fRq{b:Bool}(h:DataW.trod enc Tryz.prog w base spare held fuel 4 cs=some (.lit (.bool b),p)):cs=[.bool b]:=by
 obtain⟨z,h1,h2⟩:=DataW.trod_bool Xp h;simp only[ZQ,DataW.lit.injEq,Lit.bool.injEq] at h2;rw[h1,h2.1]
def hdD:DataW H:=.agg [.lit (.int .i64 0),zdD,zdD,zdD,.lit (.int .i64 0)]
def hdC:List Value:=.int .i64 0::(zdC++(zdC++(zdC++[.int .i64 0])))
theorem lmq(h:DataW.trod enc Tryz.prog w base spare held fuel 57 cs=some (hdD,p)):cs=hdC:=by
 obtain⟨xs,n,hd,hl,hx⟩:=cnq (l:=[(3,0),(23,1),(23,33),(23,65),(3,97)]) Xp h;have c1:Tryz.prog.cellsOf 3=1:=by kernel_rfl
 have c2:Tryz.prog.cellsOf 23=32:=by kernel_rfl
 have c3:Tryz.prog.cellsOf 57=98:=by kernel_rfl
 rw[c3] at hl;have hd:=(DataW.agg.inj hd).symm;match xs,hd,hx with
 |[(a,pa),(b,pb),(c,pc),(d,pd),(e,pe)],hd,hx=>
  simp only[ZC,List.map_nil,YM,and_true] at hd;obtain⟨rfl,rfl,rfl,rfl,rfl⟩:=hd;have h0:=hx 0 _ _ rfl;have h1:=hx 1 _ _ rfl;have h2:=hx 2 _ _ rfl;have h3:=hx 3 _ _ rfl;have h4:=hx 4 _ _ rfl;rw[c1] at h0 h4;rw[c2] at h1 h2 h3;have g0:=Jjq h0;have g1:=Jkq h1;have g2:=Jkq h2;have g3:=Jkq h3;have g4:=Jjq h4;have e0:=xqq cs 0 1;have e1:=xqq cs 1 32;have e2:=xqq cs 33 32;have e3:=xqq cs 65 32;have e4:=Kbq cs 97 1 hl;rw[g0] at e0;rw[g1] at e1;rw[g2] at e2;rw[g3] at e3;rw[g4] at e4;rw[ZV] at e0;rw[e0,e1,e2,e3,e4];rfl
def evD:DataW H:=.agg [.lit (.int .i64 0),.lit (.bool false),hdD]
def evC:List Value:=.int .i64 0:: .bool false::hdC
theorem lnq(h:DataW.trod enc Tryz.prog w base spare held fuel 59 cs=some (evD,p)):cs=evC:=by
 obtain⟨xs,n,hd,hl,hx⟩:=cnq (l:=[(3,0),(4,1),(57,2)]) Xp h;have c1:Tryz.prog.cellsOf 3=1:=by kernel_rfl
 have c2:Tryz.prog.cellsOf 4=1:=by kernel_rfl
 have c3:Tryz.prog.cellsOf 57=98:=by kernel_rfl
 have c4:Tryz.prog.cellsOf 59=100:=by kernel_rfl
 rw[c4] at hl;have hd:=(DataW.agg.inj hd).symm;match xs,hd,hx with
 |[(a,pa),(b,pb),(c,pc)],hd,hx=>
  simp only[ZC,List.map_nil,YM,and_true] at hd;obtain⟨rfl,rfl,rfl⟩:=hd;have h0:=hx 0 _ _ rfl;have h1:=hx 1 _ _ rfl;have h2:=hx 2 _ _ rfl;rw[c1] at h0;rw[c2] at h1;rw[c3] at h2;have g0:=Jjq h0;have g1:=fRq h1;have g2:=lmq h2;have e0:=xqq cs 0 1;have e1:=xqq cs 1 1;have e2:=Kbq cs 2 98 hl;rw[g0] at e0;rw[g1] at e1;rw[g2] at e2;rw[ZV] at e0;rw[e0,e1,e2];rfl
def itD:DataW H:=.agg [.lit (.bool true),evD]
theorem trod_gap(h:DataW.trod enc Tryz.prog w base spare held fuel 61 cs=some (itD,p)):cs= .bool true::evC:=by
 obtain⟨xs,n,hd,hl,hx⟩:=cnq (l:=[(4,0),(59,1)]) Xp h;have c2:Tryz.prog.cellsOf 4=1:=by kernel_rfl
 have c3:Tryz.prog.cellsOf 59=100:=by kernel_rfl
 have c4:Tryz.prog.cellsOf 61=101:=by kernel_rfl
 rw[c4] at hl;have hd:=(DataW.agg.inj hd).symm;match xs,hd,hx with
 |[(a,pa),(b,pb)],hd,hx=>
  simp only[ZC,List.map_nil,YM,and_true] at hd;obtain⟨rfl,rfl⟩:=hd;have h0:=hx 0 _ _ rfl;have h1:=hx 1 _ _ rfl;rw[c2] at h0;rw[c3] at h1;have g0:=fRq h0;have g1:=lnq h1;have e0:=xqq cs 0 1;have e1:=Kbq cs 1 100 hl;rw[g0] at e0;rw[g1] at e1;rw[ZV] at e0;rw[e0,e1];rfl
theorem gap_cells:cellsV (rho0 101) gapV= .bool true::evC:=by kernel_rfl
end
theorem gap_rel{h:Heap}(hn:3<=h.next)(hk:mRq h=true)(hg:h.val 0=some gapV):GRel cfg glT (ctx0 h):=λg w hg' hw nw σ=>by
 unfold glT at hw;split at hw
 .rename_i e;obtain rfl:=Zh e;cases hw;refine RV.of_one ⟨0,0,_,rfl,(by show 0<h.next;omega),hg,by exact Zc _,λ_=>rfl,.inr rfl,?_⟩ Y Y;have e:((zlq gapV).drop 0).take (ahq itG).size=lfW (ahq itG):=by kernel_rfl
  rw[e];exact t2q Xp
 .exact(GRel.mono (Γ':=ctx0 h) (QPq (Zl hn) hk) ⟨Zc _,λ_ _=>rfl,λ_ h=>h.1,λ_ _=>rfl⟩) g w hg' hw nw σ
end
end Go.Proofs.YtpjfmknefefapaaGreatDoor

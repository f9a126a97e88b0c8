/- CallAlone's ground, part 4. No condition. -/
import Derived.Shelf.RegionOpenPlain
import Derived.WalkKit
import Derived.Lib.Walk
import Derived.Lib.SliceRun
import Derived.Lib.AppendZerosOnto
import Derived.Lib.Overlaps
import Derived.Laws.Externs
import Derived.Laws.IdiomCopy
import Derived.Laws.NewBlocks
import Derived.Test.YtcoldbcijgmidaaGreatDoorProg
import Derived.Test.YtcoldbcijgmidaaGreatDoorYCallAloneC
set_option linter.unusedSimpArgs false
set_option linter.unusedVariables false
namespace Go.Proofs.YtcoldbcijgmidaaGreatDoor
noncomputable section
section
open Go.RowKit
section
variable {C:Cfg} {G:Nat->Option W}
theorem dMq{Γ Γ':Ctx}(d:∀b,Γ.D b->Γ'.D b)(e:∀b,Γ.D b->Γ'.h.val b=Γ.h.val b):∀{l:List W} {a:List V},acq l=true->RVL Γ l a->RVL Γ' l a
 |[],a,_,h=>by simp only[RVL] at h⊢;exact h
 |w::l,a,hp,h=>by
  simp only[acq,Zd] at hp;simp only[RVL] at h⊢;obtain⟨v,c,rfl,⟨g,i⟩,f⟩:=h;exact⟨v,c,rfl,⟨g,Keq d e hp.1 i⟩,dMq d e hp.2 f⟩
def YieldOK(C:Cfg)(G:Nat->Option W)(L:Nat)(R:Res)(e:List W)(P:Bool->Res->Prop):Prop:=
 ∀a c X d,SatH C G a c X R->RVL a e d->∃b R' n Γ' X',P b R'/\zQq C n L d a.h=some (.bool b,Γ'.h)/\Γ'.nw=a.nw/\a.Le Γ'/\SatH C G Γ' c X' R'/\Frm a.nw a c X Γ' c X'
def Yl(C:Cfg)(G:Nat->Option W)(L:Nat)(E:Res->Prop):List (List W) ->Res->Prop
 |[],R=>E R
 |x::l,R=>YieldOK C G L R x λb R1=>match b with
  |true=>Yl C G L E l R1
  |false=>E R1
def quq(C:Cfg)(G:Nat->Option W)(f:FuncId)(c:List W)(l:List (List W)):Prop:=
 ∀L E R,Yl C G L E l R->ajq C G f 0 (.yield L::c) [] R λ_ _ _ R'=>E R'
theorem qWq{o:Oper}{z:FrW}{j:HpW}{J:Nat}{R:Res}{f:W->HpW->Nat->Res->Option EvW->Prop}{x:Operand}{I:Array Operand}{k:Array TypeId}{L:Nat}{D:List W}{P:Bool->Res->Prop}
  (H:o.op= .call ⟨.value x,I,k⟩) (U:evW C G z x=some (.yield L)) (w:avq C G z I.toList=some D) (M:YieldOK C G L R D P) (g:∀b R',P b R'->f (.bool b) j J R' (some .dirty)):aeq C G o z j J R f:=λB X m p s E=>by
 subst p;obtain⟨u,T,F⟩:=zXq E s.gl U;rw[RV_yield] at F;subst F
 obtain⟨q,N,Y⟩:=x2q E s.gl w;obtain⟨b,R',n,Γ',X',K,V,g3,S,Q,O⟩:=M B j X q s Y;obtain⟨A,Z⟩:=Jdq (C:=C) H m B.h;refine⟨n,_,j,R',some .dirty,.bool b,Γ'.h,Γ',X',by rw[g3];exact g b R' K,?_,⟨A,λ_ _ _=>trivial⟩,rfl,S,Q,O,RV_bool.2 rfl⟩;simp only[opV,A,Z];simp only[H,jBq,T,N];exact V
def bnq:FrW->List Tmp->List W->FrW
 |fr,p::ps,w::ws=>bnq ((p,w)::fr) ps ws
 |fr,_,_=>fr
theorem ebq{e:Ctx}:∀{c:List Tmp} {b:List W} {a:List V} {fr:FrW} {frv:Tr V},FRel e fr frv->RVL e b a->FRel e (bnq fr c b) (Kuq frv c a)
 |[],b,a,fr,frv,hf,hv=>by cases b<;>cases a<;>exact hf
 |p::c,[],a,fr,frv,hf,hv=>by
  simp only[RVL] at hv;subst hv
  exact hf
 |p::c,w::b,a,fr,frv,hf,hv=>by
  simp only[RVL] at hv;obtain⟨v,g,rfl,f,h⟩:=hv;exact ebq (fr:=(p,w)::fr) (frv:=frv.set p (some v)) (FRel.put (d:=some p) hf f) h
theorem FRel.le{Γ Γ':Ctx}{b:FrW}{a:Tr V}(c:Γ.Le Γ')(h:FRel Γ b a):FRel Γ' b a:=h.mono c
structure SatN(C:Cfg)(G:Nat->Option W)(Γ:Ctx)(hp:HpW)(X:Nat->Prop)(R:Res):Prop where
 own:∀b ty w,hget hp b=some (ty,w) ->b<Γ.nw/\¬Γ.D (Γ.σ b)/\¬X (Γ.σ b)/\Γ.σ b<Γ.h.next/\∃v,Γ.h.get (Γ.σ b)=some (.cells ty v)/\RV Γ w v
 inj:∀b b' x y,hget hp b=some x->hget hp b'=some y->Γ.σ b=Γ.σ b'->b=b'
 nd:(hp.map (·.1)).Nodup
 dX:∀c,Γ.D c->¬X c
 xlt:∀c,X c->c<Γ.h.next
 dlt:∀c,Γ.D c->c<Γ.h.next
 res:R.p Γ.h Γ.D X
 gl:GRel C G Γ
theorem SatH.own_lt{d:Ctx}{g:HpW}{X:Nat->Prop}{R:Res}(s:SatH C G d g X R){b:Nat}{x:TypeId×W}(h:hget g b=some x):d.σ b<d.h.next:=by
 obtain⟨_,_,_,u,f,_⟩:=s.own b x.1 x.2 h;rcases ZL (d.σ b) d.h.next with h|h
 .exact h
 .rw[s.wf _ h] at f;cases f
theorem SatH.n{a:Ctx}{c:HpW}{X:Nat->Prop}{R:Res}(s:SatH C G a c X R):SatN C G a c X R:=
 ⟨λb e w h=>by obtain⟨d,g,i,f⟩:=s.own b e w h;exact⟨d,g,i,s.own_lt h,f⟩,s.inj,s.nd,s.dX,s.xlt,s.dlt,s.res,s.gl⟩
theorem SatN.later{g:Nat}{d:Nat->Nat}{D D':Nat->Prop}{h h':Heap}{o:HpW}{X X':Nat->Prop}{R:Res}(s:SatN C G ⟨g,d,D,h⟩ o X R)(q:∀c,D c->D' c)(x:∀c,D c->h'.val c=h.val c)(p:h.next<=h'.next)
  (m:∀c,aoq ⟨g,d,D,h⟩ o c\/X c->X' c) (z:∀c,X' c->h'.get c=h.get c) (f:∀c,D' c->¬X' c) (k:∀c,D' c->c<h'.next):SatN C G ⟨g,d,D',h'⟩ o X R:=by
 have y:Ctx.Le ⟨g,d,D,h⟩ ⟨g,d,D',h'⟩:=⟨Zb _,λ_ _=>rfl,q,x⟩;refine⟨λb E w v=>?_,s.inj,s.nd,λc j e=>f c j (m c (.inr e)),λc e=>Zv (s.xlt c e) p,k,R.st _ _ _ _ _ s.res q x (λc I=>z c (m c (.inr I))) p,s.gl.mono y⟩;obtain⟨A,K,H,J,u,B,F⟩:=s.own b E w v;have e:=m (d b) (.inl ⟨b,_,v,rfl⟩);exact⟨A,λj=>f _ j e,H,Zv J p,u,(z _ e).trans B,F.mono y⟩
theorem SatN.h{a:Ctx}{c:HpW}{X:Nat->Prop}{R:Res}(s:SatN C G a c X R)(d:∀i,a.h.next<=i->a.h.get i=none):SatH C G a c X R:=
 ⟨d,λb f w h=>by obtain⟨e,j,k,_,g⟩:=s.own b f w h;exact⟨e,j,k,g⟩,s.inj,s.nd,s.dX,s.xlt,s.dlt,s.res,s.gl⟩
structure FrmC(N0:Nat)(Γs:Ctx)(hps:HpW)(Xs:Nat->Prop)(σ:Nat->Nat)(hp:HpW)(X:Nat->Prop):Prop where
 sig:∀b,b<N0->σ b=Γs.σ b
 oext:∀b x,b<N0->hget hp b=some x->∃y,hget hps b=some y
 onum:∀b x,N0<=b->hget hp b=some x->Γs.h.next<=σ b\/∃k y,N0<=k/\hget hps k=some y/\Γs.σ k=σ b
 xnew:∀c,X c->Xs c\/Γs.h.next<=c
theorem FrmC.own{N0:Nat}{Γs Γ:Ctx}{d j:HpW}{Xs X:Nat->Prop}(a:FrmC N0 Γs d Xs Γ.σ j X){c:Nat}(h:aoq Γ j c):aoq Γs d c\/Γs.h.next<=c:=by
 obtain⟨b,x,g,rfl⟩:=h;rcases ZL b N0 with f|f
 .obtain⟨y,p⟩:=a.oext b x f g;exact .inl ⟨b,y,p,(a.sig b f).symm⟩
 .rcases a.onum b x f g with h|⟨k,y,_,h2,h3⟩
  .exact .inr h
  .exact .inl ⟨k,y,h2,h3⟩
theorem FrmC.step{N0:Nat}{Γs Γ Γ':Ctx}{m p g:HpW}{Xs X X' S:Nat->Prop}(a:FrmC N0 Γs m Xs Γ.σ p X)(q:Γs.h.next<=Γ.h.next)(v:∀c,S c->Γs.h.next<=c)(f:Frm N0 Γ p (λc=>X c\/S c) Γ' g (λc=>X' c\/S c)):FrmC N0 Γs m Xs Γ'.σ g X':=by
 refine⟨λb d=>(f.sig b d).trans (a.sig b d),λb x d h=>?_,λb x d h=>?_,λc h=>?_⟩
 .obtain⟨y,u⟩:=f.oext b x d h;exact a.oext b y d u
 .rcases f.onum b x d h with h|⟨k,y,h1,h2,h3⟩
  .exact .inl (Zt q h)
  .rcases a.onum k y h1 h2 with h|⟨j,z,h4,h5,h6⟩
   .exact .inl (by rw[<-h3];exact h)
   .exact .inr ⟨j,z,h4,h5,h6.trans h3⟩
 .rcases f.xnew c (.inl h) with (h|h)|h
  .exact a.xnew c h
  .exact .inr (v c h)
  .exact .inr (Zt q h)
theorem Frm.more{m:Nat}{p Γ':Ctx}{q b:HpW}{X X':Nat->Prop}(S:Nat->Prop)(f:Frm m p q X Γ' b X'):Frm m p q (λc=>X c\/S c) Γ' b (λc=>X' c\/S c):=
 ⟨f.sig,f.mle,f.next,λc g j o=>f.keep c g j (λh=>o (.inl h)),f.dsub,λc h=>by
  rcases f.dnew c h with h|(h|h)|h
  .exact .inl h
  .exact .inr (.inl (.inl h))
  .exact .inr (.inl (.inr (.inl h)))
  .exact .inr (.inr h),f.oext,f.onum,λc h=>by
  rcases h with h|h
  .rcases f.xnew c h with h|h
   .exact .inl (.inl h)
   .exact .inr h
  .exact .inl (.inr h),λk g j o=>f.wmin k g j λc d=>o c (by
   rcases d with d|d
   .exact .inl d
   .exact .inr (.inl d))⟩
theorem bwq{d:Ctx}{m:HpW}{X:Nat->Prop}{R:Res}(s:SatH C G d m X R){L:Nat}{B:Blk}(J:L<d.h.next)(A:¬aoq d m L)(H:¬X L)(I:¬d.D L):
  d.Le {d with h:=d.h.put L B}/\SatH C G {d with h:=d.h.put L B} m X R:=by
 have j:∀{c},c≠L->(d.h.put L B).get c=d.h.get c:=λ{c} h=>by rw[Heap.get_put,Zg h]
 have f:d.Le {d with h:=d.h.put L B}:=⟨Zb _,λ_ _=>rfl,λ_ h=>h,λc k=>qbq (j λe=>I (e▸k))⟩;refine⟨f,λi l=>?_,λb y w p=>?_,s.inj,s.nd,s.dX,s.xlt,s.dlt,R.st _ _ _ _ _ s.res f.D f.val (λc k=>j λe=>H (e▸k)) (Zb _),s.gl.mono f⟩
 .have l:d.h.next<=i:=l;show(d.h.put L B).get i=none;rw[j Xd];exact s.wf i l
 .obtain⟨q,F,z,u,E,x⟩:=s.own b y w p;exact⟨q,F,z,u,(j λe=>A ⟨b,_,p,e⟩).trans E,x.mono f⟩
theorem hNq{m:Nat}{a:Ctx}{j:HpW}{X S:Nat->Prop}{L:Nat}{B:Blk}(f:S L):Frm m a j (λc=>X c\/S c) {a with h:=a.h.put L B} j (λc=>X c\/S c):=
 ⟨λ_ _=>rfl,λh=>h,Zb _,λc _ _ d=>by
  show(a.h.put L B).get c=_;rw[Heap.get_put,Zg λe:c=L=>d (.inr (by rw[e];exact f))],λ_ h=>h,λ_ h=>.inl h,λ_ x _ h=>⟨x,h⟩,λb x o h=>.inr ⟨b,x,o,h,rfl⟩,λ_ h=>.inl h,λk p _ d=>gvq p (d L (.inr (.inr f)))⟩
section
variable (C:Cfg) (G:Nat->Option W) (N0:Nat) (Γs:Ctx) (hps:HpW) (Xs:Nat->Prop) (frv:Tr V) (ps:Array Tmp) (asg bd:Code) (fr:FrW)
def Two(Γs:Ctx):Nat->Prop:=λc=>c=Γs.h.next+1\/c=Γs.h.next
def t4q(i:LoopState)(a:Option Code)(g:HpW)(e:Nat)(R:Res)(h:Heap)(D X:Nat->Prop):Prop:=
 ∃b Dc Xc,h.get (Γs.h.next+1)=some (.loop i a frv ps asg bd Γs.h.next)/\h.get Γs.h.next=some (.dfr false)/\(∀c,Two Γs c->X c)/\(∀c,Dc c->D c)/\SatN C G ⟨e,b,Dc,h⟩ g Xc R/\FRel ⟨N0,b,Dc,h⟩ fr frv/\N0<=e/\
  (∀c,aoq ⟨e,b,Dc,h⟩ g c\/Xc c->X c)/\(∀c,Two Γs c->¬aoq ⟨e,b,Dc,h⟩ g c/\¬Xc c)/\FrmC N0 Γs hps Xs b g Xc/\Γs.h.next+2<=h.next
def udq(J:LoopState)(f:Option Code)(O:HpW)(z:Nat)(R:Res):Res:=
 ⟨t4q C G N0 Γs hps Xs frv ps asg bd fr J f O z R,λh y D D' X x F Z o k=>by
  obtain⟨j,Dc,Xc,H,T,p,B,e,N,U,A,L,v,q⟩:=x;have g:∀c,Dc c->y.val c=h.val c:=λc d=>Z c (B c d)
  refine⟨j,Dc,Xc,(o _ (p _ (.inl rfl))).trans H,(o _ (p _ Jr)).trans T,p,λc d=>F c (B c d),?_,FRel.le (Γ:=⟨N0,j,Dc,h⟩) (Γ':=⟨N0,j,Dc,y⟩) ⟨Zb _,λ_ _=>rfl,λ_ h=>h,g⟩ N,U,A,L,v,Zt q k⟩;have m:Ctx.Le ⟨z,j,Dc,h⟩ ⟨z,j,Dc,y⟩:=⟨Zb _,λ_ _=>rfl,λ_ h=>h,g⟩;refine⟨λb Q w E=>?_,e.inj,e.nd,e.dX,λc d=>Zv (e.xlt c d) k,λc d=>Zv (e.dlt c d) k,R.st _ _ _ _ _ e.res m.D m.val (λc d=>o c (A c (.inr d))) k,e.gl.mono m⟩;obtain⟨P,M,S,Y,u,I,K⟩:=e.own b Q w E;exact⟨P,M,S,Zv Y k,u,(o _ (A _ (.inl ⟨b,_,E,rfl⟩))).trans I,K.mono m⟩⟩
end
theorem cWq{N0:Nat}{Γs:Ctx}{Q:HpW}{Xs:Nat->Prop}{B:Tr V}{ps:Array Tmp}{U bd:Code}{fr:FrW}{ls:LoopState}{J:Option Code}{I q:HpW}{P:Nat->Nat}{z:Nat}{R2 Re:Res}{g Γ2:Ctx}{E:HpW}{X Xc X2:Nat->Prop}{Dc:Nat->Prop}
  (s:SatH C G g E X Re) (hX:∀c,aoq ⟨z,P,g.D,g.h⟩ I c\/Xc c->X c) (hT:∀c,Two Γs c->X c) (M:∀c,Dc c->g.D c) (hfr:FRel ⟨N0,P,Dc,g.h⟩ fr B) (fc:FrmC N0 Γs Q Xs P I Xc) (hsn:Γs.h.next+2<=g.h.next)
  (F:Frm N0 ⟨z,P,g.D,g.h⟩ I (λc=>Xc c\/Two Γs c) Γ2 q (λc=>X2 c\/Two Γs c)) (R:SatH C G Γ2 q X2 R2) (hN:N0<=Γ2.nw)
  (hL:Γ2.h.get (Γs.h.next+1)=some (.loop ls J B ps U bd Γs.h.next)) (N:Γ2.h.get Γs.h.next=some (.dfr false)) (O:∀c,Two Γs c->¬aoq Γ2 q c/\¬X2 c/\¬Γ2.D c):
  ∃Γ' X',Γ'.h=Γ2.h/\Γ'.nw=g.nw/\g.Le Γ'/\SatH C G Γ' E X' (udq C G N0 Γs Q Xs B ps U bd fr ls J q Γ2.nw R2)/\Frm g.nw g E X Γ' E X':=by
 have j:∀{c},aoq ⟨z,P,g.D,g.h⟩ I c\/Xc c\/Two Γs c->X c:=λ{c} h=>by
  rcases h with h|h|h
  .exact hX c (.inl h)
  .exact hX c (.inr h)
  .exact hT c h
 have hn:g.h.next<=Γ2.h.next:=F.next;have m:∀{c},c<g.h.next->¬X c->Γ2.h.get c=g.h.get c:=λ{c} H Z=>F.keep c H (λh=>Z (j (.inl h))) (λh=>Z (j (.inr h)))
 let X':Nat->Prop:=λc=>aoq Γ2 q c\/X2 c\/Two Γs c
 let Γ':Ctx:=⟨g.nw,g.σ,Γ2.D,Γ2.h⟩
 have K:∀c,X' c->X c\/g.h.next<=c:=λc h=>by
  rcases h with h|h|h
  .rcases F.onew c h with h|h
   .exact .inl (j (.inl h))
   .exact .inr h
  .rcases F.xnew c (.inl h) with h|h
   .exact .inl (j (.inr h))
   .exact .inr h
  .exact .inl (j (.inr (.inr h)))
 have L:∀c,Γ2.D c->g.D c\/X c\/g.h.next<=c:=λc h=>by
  rcases F.dnew c h with h|(h|h)|h
  .exact .inl h
  .exact .inr (.inl (j (.inl h)))
  .exact .inr (.inl (j (.inr h)))
  .exact .inr (.inr h)
 have le:g.Le Γ':=⟨Zb _,λ_ _=>rfl,F.dsub,λc A=>qbq (m (s.dlt c A) (s.dX c A))⟩;have T:∀c,Two Γs c->Γs.h.next<=c/\c<Γs.h.next+2:=λc h=>by rcases h with rfl|rfl<;>omega
 have fc2:FrmC N0 Γs Q Xs Γ2.σ q X2:=FrmC.step (Γ:=⟨z,P,g.D,g.h⟩) fc (by show Γs.h.next<=g.h.next;omega) (λc h=>(T c h).1) F;have Y:FRel ⟨N0,Γ2.σ,Γ2.D,Γ2.h⟩ fr B:=FRel.le (Γ:=⟨N0,P,Dc,g.h⟩) ⟨Zb _,λb S=>F.sig b S,λc A=>F.dsub c (M c A),λc A=>qbq (m (s.dlt c (M c A)) (s.dX c (M c A)))⟩ hfr;refine⟨Γ',X',rfl,rfl,le,⟨R.wf,λb ty w S=>?_,s.inj,s.nd,λc N y=>?_,λc y=>?_,R.dlt,?_,s.gl.mono le⟩,⟨λ_ _=>rfl,λh=>h,hn,λc H _ h3=>m H h3,F.dsub,λc h=>?_,λ_ x _ h=>⟨x,h⟩,λb x S h=>.inr ⟨b,x,S,h,rfl⟩,K,λk H Z h3=>F.wmin k H Z λc A=>h3 c (.inr (j A))⟩⟩
 .obtain⟨q1,q2,q3,u,q4,q5⟩:=s.own b ty w S;have lt:=s.own_lt S;refine⟨q1,λN=>?_,λy=>?_,u,(m lt q3).trans q4,q5.mono le⟩
  .rcases L _ N with h|h|h
   .exact q2 h
   .exact q3 h
   .have h:g.h.next<=g.σ b:=h;omega
  .rcases K _ y with h|h
   .exact q3 h
   .have h:g.h.next<=g.σ b:=h;omega
 .rcases y with ⟨b,x,H,rfl⟩|y|y
  .exact(R.own b x.1 x.2 H).2.1 N
  .exact R.dX c N y
  .exact(O c y).2.2 N
 .rcases y with ⟨b,x,H,rfl⟩|y|y
  .exact R.own_lt H
  .exact R.xlt c y
  .have:=T c y;show c<Γ2.h.next;omega
 .exact⟨Γ2.σ,Γ2.D,X2,hL,N,λc h=>.inr (.inr h),λ_ h=>h,R.n,Y,hN,λc h=>by
   rcases h with h|h
   .exact .inl h
   .exact .inr (.inl h),λc h=>⟨(O c h).1,(O c h).2.1⟩,fc2,by show _<=Γ2.h.next;omega⟩
 .rcases L c h with h|h|h
  .exact .inl h
  .exact .inr (.inl (.inr h))
  .exact .inr (.inr h)
def Qvq:Exit->Option Code
 |.ret=>some .ret
 |.exit id=>some (.exit id)
 |.goto l=>some (.goto l)
 |_=>none
def rqq{b:Type}(C:Cfg)(G:Nat->Option W)(m d:Nat)(I:b->Prop)(H:b->HpW)(N:b->Nat)(RR:b->Res)(c:FrW)(Q:qHq):qHq
 |.normal,fr',hp',nw',R'=>∃a,I a/\Ent C G m d fr' hp' nw' R' [] (H a) (N a) (RR a)
 |.ret,_,hp',nw',R'=>Q .ret c hp' nw' R'
 |.exit id,_,hp',nw',R'=>Q (.exit id) c hp' nw' R'
 |.goto l,_,hp',nw',R'=>Q (.goto l) c hp' nw' R'
 |_,_,_,_,_=>False
def t3q(C:Cfg)(G:Nat->Option W)(m f:Nat)(b:Code)(Q:qHq):qHq:=λx e d c R=>x= .normal/\CoW C G m f true b e d c R Q
theorem Yxq{m f:Nat}{b:Code}{e:FrW}{d:HpW}{c:Nat}{R:Res}{Q:qHq}(h:CoW C G m f true b e d c R Q):t3q C G m f b Q .normal e d c R:=⟨rfl,h⟩
theorem Kyq{b:Type}{m f:Nat}{I:b->Prop}{H:b->HpW}{N:b->Nat}{RR:b->Res}{i c:FrW}{e:HpW}{d:Nat}{R:Res}{Q:qHq}(a:b)(h:I a)(g:Ent C G m f c e d R [] (H a) (N a) (RR a)):rqq C G m f I H N RR i Q .normal c e d R:=⟨a,h,g⟩
theorem jIq{a:Type}{m g:Nat}{I:a->Prop}{H:a->HpW}{N:a->Nat}{RR:a->Res}{e b:FrW}{d:HpW}{c:Nat}{R:Res}{Q:qHq}{x:Exit}(f:Qvq x≠none)(h:Q x e d c R):rqq C G m g I H N RR e Q x b d c R:=by
 cases x<;>first|exact h|exact absurd rfl f
theorem Kmq{m:Nat}{Γs Γa Γb:Ctx}{d j:HpW}{Xa Xb:Nat->Prop}(f:Frm m Γa d Xa Γb j Xb)(h:∀c,Two Γs c->c<Γa.h.next/\¬aoq Γa d c/\¬Xa c/\¬Γa.D c):
  (∀c,Two Γs c->c<Γb.h.next/\¬aoq Γb j c/\¬Xb c/\¬Γb.D c)/\∀c,Two Γs c->Γb.h.get c=Γa.h.get c:=by
 refine⟨λc p=>?_,λc p=>?_⟩
 .obtain⟨q,k,l,u⟩:=h c p;refine⟨Zv q f.next,λw=>?_,λy=>?_,λv=>?_⟩
  .rcases f.onew c w with h|h
   .exact k h
   .omega
  .rcases f.xnew c y with h|h
   .exact l h
   .omega
  .rcases f.dnew c v with h|(h|h)|h
   .exact u h
   .exact k h
   .exact l h
   .omega
 .obtain⟨q,k,l,u⟩:=h c p;exact f.keep c q k l
theorem m0q{α:Type}{N0 k0:Nat}{Γs:Ctx}{M:HpW}{Xs:Nat->Prop}{v:Tr V}{A:Array Tmp}{k E:Code}{S:FrW}{I:α->Prop}{H:α->HpW}{N:α->Nat}{RR:α->Res}{Q:qHq}{hp:HpW}{nw:Nat}{R:Res}{x:List W}(hk0:k0<=Γs.h.next)
  (hx:acq x=true) (hlen:x.length=A.size) (hb:CoW C G N0 k0 true k (bnq S A.toList x) hp nw R (t3q C G N0 k0 E (rqq C G N0 k0 I H N RR S Q))):
  YieldOK C G (Γs.h.next+1) (udq C G N0 Γs M Xs v A k E S .ready none hp nw R) x λb R'=>match b with
   |true=>∃a,I a/\R'=udq C G N0 Γs M Xs v A k E S .ready none (H a) (N a) (RR a)
   |false=>∃e j T U R'',Qvq e=some j/\Q e S T U R''/\R'=udq C G N0 Γs M Xs v A k E S .done (some j) T U R'':=by
 intro w L X vs s hv;obtain⟨σ,Dc,Xc,gL,gd,hT,hDc,sn,hfr,hN,hX,hne,fc,hsn⟩:=s.res;let Γc:Ctx:=⟨nw,σ,w.D,w.h⟩
 have sc:SatH C G Γc hp Xc R:=(sn.later (D':=w.D) (h':=w.h) hDc (λ_ _=>rfl) (Zb _) hX (λ_ _=>rfl) s.dX s.dlt).h s.wf;have hvc:RVL Γc x vs:=dMq (Γ:=w) (Γ':=Γc) (λ_ h=>h) (λ_ _=>rfl) hx hv;have hfc:FRel Γc S v:=FRel.le (Γ:=⟨N0,σ,Dc,w.h⟩) ⟨hN,λ_ _=>rfl,hDc,λ_ _=>rfl⟩ hfr;have two:∀c,Two Γs c->Γs.h.next<=c/\c<Γs.h.next+2:=λc h=>by rcases h with rfl|rfl<;>omega
 have t0:∀c,Two Γs c->c<Γc.h.next/\¬aoq Γc hp c/\¬Xc c/\¬Γc.D c:=λc h=>⟨by have:=two c h;show c<w.h.next;omega,(hne c h).1,(hne c h).2,λhd=>s.dX c hd (hT c h)⟩
 obtain⟨O,x1,z,Γ1,X1,fr1,hp1,R1,g1,s1,f1,r1,rfl,hbd⟩:=hb Γc Xc ⟨Kuq v A.toList vs,w.h,[],true⟩ rfl hN (by show k0<=w.h.next;omega) rfl ⟨rfl,ebq hfc hvc,sc,by simp,YN⟩;obtain⟨t1,k1⟩:=Kmq f1 t0;have gL1:z.h.get (Γs.h.next+1)=some (.loop .ready none v A k E Γs.h.next):=by rw[s1.hh,k1 _ (.inl rfl)];exact gL
 have gd1:Γ1.h.get Γs.h.next=some (.dfr false):=by rw[k1 _ Jr];exact gd
 obtain⟨le1,sb⟩:=bwq (B:=.loop .busy none v A k E Γs.h.next) s1.sat (t1 _ (.inl rfl)).1 (t1 _ (.inl rfl)).2.1 (t1 _ (.inl rfl)).2.2.1 (t1 _ (.inl rfl)).2.2.2;let Γb:Ctx:={Γ1 with h:=Γ1.h.put (Γs.h.next+1) (.loop .busy none v A k E Γs.h.next)}
 have ds1:∀d∈z.ds,k0<=d/\d<Γb.h.next/\Γb.h.get d=some (.dfr false)/\¬aoq Γb hp1 d/\¬X1 d/\¬Γb.D d:=λd hd=>by
  obtain⟨q1,q2,q3,q4,q5,q6⟩:=s1.ds d hd;refine⟨q1,q2,?_,q4,q5,q6⟩;show(Γ1.h.put _ _).get d=_;have hne:d≠Γs.h.next+1:=λe=>by rw[e,<-s1.hh,gL1] at q3;cases q3
  rw[Heap.get_put,Zg hne];exact q3
 have tb:∀c,Two Γs c->c<Γb.h.next/\¬aoq Γb hp1 c/\¬X1 c/\¬Γb.D c:=t1
 obtain⟨P,x2,Z,Γ2,X2,fr2,hp2,R2,g2,s2,f2,r2,q⟩:=hbd Γb X1 ⟨z.fr,z.h.put (Γs.h.next+1) (.loop .busy none v A k E Γs.h.next),z.ds,z.rd⟩ rfl (f1.mle hN) (by have:=f1.next;have:w.h.next<=Γ1.h.next:=this;show k0<=Γ1.h.next;omega) r1
  ⟨by rw[s1.hh],s1.fr.mono le1,sb,ds1,s1.nd⟩
 obtain⟨t2,k2⟩:=Kmq f2 tb
 have gL2:Z.h.get (Γs.h.next+1)=some (.loop .busy none v A k E Γs.h.next):=by
  rw[s2.hh,k2 _ (.inl rfl)];show(Γ1.h.put _ _).get _=_;rw[Heap.get_put,Zl rfl]
 have gd2:Γ2.h.get Γs.h.next=some (.dfr false):=by
  rw[k2 _ Jr];show(Γ1.h.put _ _).get _=_;rw[Heap.get_put,Zg Xd];exact gd1
 have F:Frm N0 Γc hp (λc=>Xc c\/Two Γs c) Γ2 hp2 (λc=>X2 c\/Two Γs c):=(f1.more (Two Γs)).trans ((hNq (.inl rfl)).trans (f2.more (Two Γs)))
 have key:∀{Γe:Ctx} {J:HpW} {Xe:Nat->Prop} {Re:Res} (ls:LoopState) (j:Option Code),SatH C G Γe J Xe Re->Frm N0 Γc hp (λc=>Xc c\/Two Γs c) Γe J (λc=>Xe c\/Two Γs c) ->N0<=Γe.nw->(∀c,Two Γs c->c<Γe.h.next/\¬aoq Γe J c/\¬Xe c/\¬Γe.D c) ->Γe.h.get Γs.h.next=some (.dfr false) ->
   ∃Γ' X',Γ'.h=Γe.h.put (Γs.h.next+1) (.loop ls j v A k E Γs.h.next)/\Γ'.nw=w.nw/\w.Le Γ'/\SatH C G Γ' L X' (udq C G N0 Γs M Xs v A k E S ls j J Γe.nw Re)/\Frm w.nw w L X Γ' L X':=λ{Γe J Xe Re} ls j se Fe hNe te gde=>by
  obtain⟨le2,sf⟩:=bwq (B:=.loop ls j v A k E Γs.h.next) se (te _ (.inl rfl)).1 (te _ (.inl rfl)).2.1 (te _ (.inl rfl)).2.2.1 (te _ (.inl rfl)).2.2.2;exact cWq (Γ2:={Γe with h:=Γe.h.put (Γs.h.next+1) (.loop ls j v A k E Γs.h.next)}) s hX hT hDc hfr fc hsn (Fe.trans (hNq (.inl rfl))) sf hNe (by rw[Heap.get_put,Zl rfl]) (by rw[Heap.get_put,Zg Xd];exact gde) (λc h=>(te c h).2)
 have l1:=qTq C (Nat.le_max_left O P);have l2:=qTq C (Nat.le_max_right O P);have e1:zgq ⟨y9q C (max O P),zQq C (max O P)⟩ ⟨yhq C (max O P),zVq C (max O P)⟩ C k ⟨Kuq v A.toList vs,w.h,[],true⟩=some (.normal,z):=zKq l1.1 l1.2 k g1;have e2:zgq ⟨y9q C (max O P),zQq C (max O P)⟩ ⟨yhq C (max O P),zVq C (max O P)⟩ C E ⟨z.fr,z.h.put (Γs.h.next+1) (.loop .busy none v A k E Γs.h.next),z.ds,z.rd⟩=some (x2,Z):=zKq l2.1 l2.2 E g2;have hlv:Nat.beq vs.length A.size=true:=by rw[uPq hv,hlen];simp
 have hN2:N0<=Γ2.nw:=f2.mle (f1.mle hN)
 have K:∀(e:Exit) (j:Code),x2=e->Qvq e=some j->Q e S hp2 Γ2.nw R2->zQq C (max O P+1) (Γs.h.next+1) vs w.h=some (.bool false,Z.h.put (Γs.h.next+1) (.loop .done (some j) v A k E Γs.h.next)) ->
   ∃b R' n Γ' X',(match b with
    |true=>∃a,I a/\R'=udq C G N0 Γs M Xs v A k E S .ready none (H a) (N a) (RR a)
    |false=>∃e j T U R'',Qvq e=some j/\Q e S T U R''/\R'=udq C G N0 Γs M Xs v A k E S .done (some j) T U R'')/\zQq C n (Γs.h.next+1) vs w.h=some (.bool b,Γ'.h)/\Γ'.nw=w.nw/\w.Le Γ'/\SatH C G Γ' L X' R'/\Frm w.nw w L X Γ' L X':=λe j _ hp hq hr=>by
  obtain⟨Γ',X',h1,h2,h3,h4,h5⟩:=key .done (some j) s2.sat F hN2 t2 gd2;exact⟨false,_,max O P+1,Γ',X',⟨e,j,hp2,Γ2.nw,R2,hp,hq,rfl⟩,by rw[h1,<-s2.hh];exact hr,h2,h3,h4,h5⟩
 cases x2 with
 |normal=>
  obtain⟨a,ha,he⟩:=q;obtain⟨Γ3,X3,hn3,s3,f3⟩:=he Γ2 X2 Z rfl hN2 s2;obtain⟨t3,k3⟩:=Kmq f3 t2;obtain⟨Γ',X',h1,h2,h3,h4,h5⟩:=key .ready none s3.sat (F.trans (f3.more (Two Γs))) (f3.mle hN2) t3 (by rw[k3 _ Jr];exact gd2);refine⟨true,_,max O P+1,Γ',X',⟨a,ha,rfl⟩,?_,h2,h3,hn3▸h4,h5⟩;rw[h1,<-s3.hh];simp only[zQq,gL,hlv,e1,gL1,e2,gL2]
 |ret=>exact K .ret _ Y Y q Jj
 |exit id=>exact K (.exit id) _ Y Y q Jj
 |goto l=>exact K (.goto l) _ Y Y q Jj
 |panic p=>exact q.elim
 |outgrown=>exact q.elim
theorem YieldOK.mono{L:Nat}{R:Res}{a:List W}{P P':Bool->Res->Prop}(h:∀b R,P b R->P' b R)(e:YieldOK C G L R a P):YieldOK C G L R a P':=λΓ i X d s g=>by
 obtain⟨b,R',n,Γ',X',c,f⟩:=e Γ i X d s g;exact⟨b,R',n,Γ',X',h _ _ c,f⟩
theorem fPq{d:Ctx}{q:HpW}{X:Nat->Prop}{R:Res}(s:SatH C G d q X R){L:Nat}(F:¬aoq d q L)(J:¬X L)(K:¬d.D L):
  d.Le {d with h:=d.h.kill L}/\SatH C G {d with h:=d.h.kill L} q X R:=by
 have k:∀{c},c≠L->(d.h.kill L).get c=d.h.get c:=λ{c} h=>by rw[Heap.get_kill,Zg h]
 have j:d.Le {d with h:=d.h.kill L}:=⟨Zb _,λ_ _=>rfl,λ_ h=>h,λc m=>qbq (k λe=>K (e▸m))⟩;refine⟨j,λi p=>?_,λb B w y=>?_,s.inj,s.nd,s.dX,s.xlt,s.dlt,R.st _ _ _ _ _ s.res j.D j.val (λc m=>k λe=>J (e▸m)) (Zb _),s.gl.mono j⟩
 .have p:d.h.next<=i:=p;show(d.h.kill L).get i=none;rw[Heap.get_kill];split
  .rfl
  .exact s.wf i p
 .obtain⟨z,I,E,u,H,A⟩:=s.own b B w y;exact⟨z,I,E,u,(k λe=>F ⟨b,_,y,e⟩).trans H,A.mono j⟩
theorem bvq{N0 m k0:Nat}{Γs:Ctx}{j:HpW}{Xs:Nat->Prop}{Rs:Res}{N:St}{ps:Array Tmp}{S bd:Code}{fr:FrW}{ls:LoopState}{B:Option Code}{q:HpW}{z:Nat}{R':Res}{Γ1:Ctx}{R:HpW}{X1:Nat->Prop}{u:Heap}(hm:m<=N0)(hN0:N0=Γs.nw)(hk0:k0<=Γs.h.next)
  (ss:SatS C G k0 Γs j Xs Rs fr N) (hh2:u.next=Γs.h.next+2) (Z:u.wmin=Γs.h.wmin) (hg2:∀c,c<Γs.h.next->u.get c=Γs.h.get c)
  (O:SatH C G Γ1 R X1 (udq C G N0 Γs j Xs N.fr ps S bd fr ls B q z R')) (U:Frm 0 ⟨0,Γs.σ,Γs.D,u⟩ [] (λc=>aoq Γs j c\/Xs c\/Two Γs c) Γ1 R X1):
  Γ1.h.get (Γs.h.next+1)=some (.loop ls B N.fr ps S bd Γs.h.next)/\∃Γf Xf,Γf.nw=z/\SatS C G k0 Γf q Xf R' fr ⟨N.fr,Γ1.h.kill (Γs.h.next+1),Γs.h.next::N.ds,N.rd⟩/\Frm m Γs j Xs Γf q Xf:=by
 obtain⟨σ,Dc,Xc,gL,gd,hT,I,sn,Y,hN,hX,A,K,hsn⟩:=O.res;refine⟨gL,?_⟩;have H:∀c,Two Γs c->Γs.h.next<=c/\c<Γs.h.next+2:=λc h=>by rcases h with rfl|rfl<;>omega
 have tl:Two Γs (Γs.h.next+1):=.inl rfl;have td:Two Γs Γs.h.next:=.inr rfl;let Γm:Ctx:=⟨z,σ,Γ1.D,Γ1.h⟩
 have sm:SatH C G Γm q Xc R':=(sn.later (D':=Γ1.D) (h':=Γ1.h) I (λ_ _=>rfl) (Zb _) hX (λ_ _=>rfl) O.dX O.dlt).h O.wf;obtain⟨le,sf⟩:=fPq (L:=Γs.h.next+1) sm (A _ tl).1 (A _ tl).2 (λJ=>O.dX _ J (hT _ tl))
 have P:∀{c},c<Γs.h.next->¬aoq Γs j c->¬Xs c->Γ1.h.get c=Γs.h.get c:=λ{c} V h2' T=>by
  rw[<-hg2 c V];refine U.keep c (by show c<u.next;omega) (λho=>?_) (λhx=>?_)
  .obtain⟨b,x,h,_⟩:=ho;simp[hget] at h
  .rcases hx with h|h|h
   .exact h2' h
   .exact T h
   .have:=H c h;omega
 have y:∀{c},c<Γs.h.next->¬aoq Γs j c->¬Xs c->(Γ1.h.kill (Γs.h.next+1)).get c=Γs.h.get c:=λ{c} V h2' T=>by
  rw[Heap.get_kill,Zg Xd];exact P V h2' T
 have hn1:u.next<=Γ1.h.next:=U.next
 have E:∀c,Γ1.D c->Γs.D c\/(aoq Γs j c\/Xs c)\/Γs.h.next<=c:=λc h=>by
  rcases U.dnew c h with h|(⟨b,x,h,_⟩|h)|h
  .exact .inl h
  .simp[hget] at h
  .rcases h with h|h|h
   .exact .inr (.inl (.inl h))
   .exact .inr (.inl (.inr h))
   .exact .inr (.inr (H c h).1)
  .have h:u.next<=c:=h;exact .inr (.inr Xd)
 let Γf:Ctx:=⟨z,σ,Γ1.D,Γ1.h.kill (Γs.h.next+1)⟩
 have Q:∀c,aoq Γf q c->aoq Γs j c\/Γs.h.next<=c:=λc h=>K.own (Γ:=Γf) h
 have F:Frm N0 Γs j Xs Γf q Xc:=⟨K.sig,λ_=>hN,by show Γs.h.next<=Γ1.h.next;omega,λc V u T=>y V u T,λc h=>U.dsub c h,E,K.oext,K.onum,K.xnew,λk a1 a2 a3=>by
  refine gvq (U.wmin k (by show k u.wmin;rw[Z];exact a1) (λc M=>a2 c (by have M:u.next<=c:=M;omega)) λc M=>?_) (a2 _ Xd);rcases M with ⟨b,x,h,_⟩|h|h|h
  .simp[hget] at h
  .exact a3 c (.inl h)
  .exact a3 c (.inr h)
  .exact a2 c (H c h).1⟩
 refine⟨Γf,Xc,rfl,⟨rfl,?_,sf,λd J=>?_,?_⟩,F.le hm Xd⟩
 .exact FRel.le (Γ:=⟨N0,σ,Dc,Γ1.h⟩) ⟨hN,λ_ _=>rfl,I,λc M=>le.val c (I c M)⟩ Y
 .rcases ZB.1 J with rfl|J
  .refine⟨hk0,?_,?_,(A _ td).1,(A _ td).2,λJ=>O.dX _ J (hT _ td)⟩
   .show Γs.h.next<Γ1.h.next;omega
   .show(Γ1.h.kill _).get _=_;rw[Heap.get_kill,Zg Xd];exact gd
  .obtain⟨q1,q2,q3,q4,X,q6⟩:=ss.ds d J;refine⟨q1,?_,(y q2 q4 X).trans q3,λh=>?_,λh=>?_,λh=>?_⟩
   .show d<Γ1.h.next;omega
   .rcases Q d h with h|h
    .exact q4 h
    .omega
   .rcases K.xnew d h with h|h
    .exact X h
    .omega
   .rcases E d h with h|(h|h)|h
    .exact q6 h
    .exact q4 h
    .exact X h
    .omega
 .refine Y1.2 ⟨λh=>?_,ss.nd⟩;have:=(ss.ds _ h).2.1;omega
theorem Y2q{α:Type}{m k0:Nat}{g:Operand}{L:Array Tmp}{q S:Code}{gf:FuncId}{c:List W}{l:List (List W)}{K:FrW}{hp:HpW}{X:Nat}{R:Res}{Q:qHq}(I:Nat->α->Prop)(H:α->HpW)(N:α->Nat)(RR:α->Res)(a0:α)
  (hg:evW C G K g=some (.fn gf [] c)) (hpu:acq c=true) (it:quq C G gf c l) (hl:∀x∈l,acq x=true/\x.length=L.size) (h0:I 0 a0) (e0:hp=H a0) (n0:X=N a0) (r0:R=RR a0)
  (round:∀i a x,l[i]? =some x->I i a->CoW C G X k0 true q (bnq K L.toList x) (H a) (N a) (RR a) (t3q C G X k0 S (rqq C G X k0 (I (i+1)) H N RR K Q)))
  (done:∀a,I l.length a->Q .normal K (H a) (N a) (RR a)):CoW C G m k0 false (.rangeFunc g L q S) K hp X R Q:=λΓs Xs B U hm hk0 hrd j=>by
 obtain⟨u,e1,e2⟩:=zXq j.fr j.sat.gl hg;obtain⟨a',c',rfl,e3,e4⟩:=RV_fn.1 e2;rw[RVL_nil] at e3;subst e3
 have hh:B.h=Γs.h:=j.hh;have V:∀c,Two Γs c->Γs.h.next<=c/\c<Γs.h.next+2:=λc h=>by rcases h with rfl|rfl<;>omega
 let k:Heap:=(Γs.h.push (.dfr false)).push (.loop .ready none B.fr L q S Γs.h.next)
 have n2:k.next=Γs.h.next+2:=rfl
 have g2:∀c,c<Γs.h.next->k.get c=Γs.h.get c:=λc Z=>by
  show((Γs.h.push _).push _).get c=_;rw[Heap.get_push,Zg (by show c≠Γs.h.next+1;omega),Heap.get_push,Zg Xd]
 have gL:k.get (Γs.h.next+1)=some (.loop .ready none B.fr L q S Γs.h.next):=by
  show((Γs.h.push _).push _).get _=_;rw[Heap.get_push];exact Zl rfl
 have gd:k.get Γs.h.next=some (.dfr false):=by
  show((Γs.h.push _).push _).get _=_;rw[Heap.get_push,Zg (by show Γs.h.next≠Γs.h.next+1;omega),Heap.get_push,Zl rfl]
 have J:Γs.Le ⟨Γs.nw,Γs.σ,Γs.D,k⟩:=⟨Zb _,λ_ _=>rfl,λ_ h=>h,λc Z=>qbq (g2 c (j.sat.dlt c Z))⟩;let X0:Nat->Prop:=λc=>aoq Γs hp c\/Xs c\/Two Γs c
 let R0:Res:=udq C G X Γs hp Xs B.fr L q S K .ready none (H a0) (N a0) (RR a0)
 have sn:SatN C G ⟨Γs.nw,Γs.σ,Γs.D,k⟩ hp Xs R:=⟨λb ty w hb=>by
  obtain⟨q1,q2,q3,v,q4,q5⟩:=j.sat.own b ty w hb;have lt:=j.sat.own_lt hb;exact⟨q1,q2,q3,by show Γs.σ b<k.next;omega,v,(g2 _ lt).trans q4,q5.mono J⟩,j.sat.inj,j.sat.nd,j.sat.dX,λc Z=>by have:=j.sat.xlt c Z;show c<k.next;omega,λc Z=>by have:=j.sat.dlt c Z;show c<k.next;omega,
  R.st _ _ _ _ _ j.sat.res J.D J.val (λc Z=>g2 c (j.sat.xlt c Z)) (by show Γs.h.next<=k.next;omega),j.sat.gl.mono J⟩
 have s0:SatH C G ⟨0,Γs.σ,Γs.D,k⟩ [] X0 R0:=by
  refine⟨λi hi=>?_,λb ty w h=>by simp[hget] at h,λb b' x y h=>by simp[hget] at h,YN,λc T P=>?_,λc P=>?_,λc T=>by have:=j.sat.dlt c T;show c<k.next;omega,?_,(show GRel C G ⟨Γs.nw,Γs.σ,Γs.D,k⟩ from j.sat.gl.mono J)⟩
  .have hi:k.next<=i:=hi;show((Γs.h.push _).push _).get i=none;rw[Heap.get_push,Zg (by show i≠Γs.h.next+1;omega),Heap.get_push,Zg Xd];exact j.sat.wf i Xd
  .rcases P with ⟨b,x,Y,rfl⟩|h|h
   .exact(j.sat.own b x.1 x.2 Y).2.1 T
   .exact j.sat.dX c T h
   .have:=V c h;have:=j.sat.dlt c T;omega
  .show c<k.next;rcases P with ⟨b,x,Y,rfl⟩|h|h
   .have:=j.sat.own_lt Y;omega
   .have:=j.sat.xlt c h;omega
   .have:=V c h;omega
  .refine⟨Γs.σ,Γs.D,Xs,gL,gd,λc h=>.inr (.inr h),λ_ h=>h,?_,?_,by omega,λc h=>?_,λc h=>⟨λho=>?_,λP=>?_⟩,?_,by show _<=k.next;omega⟩
   .rw[<-e0,<-n0,<-r0,<-U];exact sn
   .rw[<-U];exact j.fr.mono J
   .rw[<-e0] at h;rcases h with h|h
    .exact .inl h
    .exact .inr (.inl h)
   .rw[<-e0] at ho;obtain⟨b,x,Y,h3⟩:=ho;have:=j.sat.own_lt Y;have:=V c h;have h3:Γs.σ b=c:=h3;omega
   .have:=j.sat.xlt c P;have:=V c h;omega
   .rw[<-e0];exact⟨λ_ _=>rfl,λb x _ h=>⟨x,h⟩,λb x hb h=>.inr ⟨b,x,hb,h,rfl⟩,λ_ h=>.inl h⟩
 let E:Res->Prop:=λR'=>(∃a,I l.length a/\R'=udq C G X Γs hp Xs B.fr L q S K .ready none (H a) (N a) (RR a))\/∃e A M O R'',Qvq e=some A/\Q e K M O R''/\R'=udq C G X Γs hp Xs B.fr L q S K .done (some A) M O R''
 have yl:∀(r:List (List W)) (i:Nat) (a:α),i<=l.length->l.drop i=r->I i a->Yl C G (Γs.h.next+1) E r (udq C G X Γs hp Xs B.fr L q S K .ready none (H a) (N a) (RR a)):=by
  intro r;induction r with
  |nil=>
   intro i a hi T ha;have:i=l.length:=by have:=List.drop_eq_nil_iff.1 T;omega
   subst this;exact .inl ⟨a,ha,rfl⟩
  |cons x r ih=>
   intro i a hi T ha
   have P:l[i]? =some x:=by
    have:=Zc (λz=>z[0]?) T;simpa using this
   have hlt:i<l.length:=(Zk.1 P).1
   have hd':l.drop (i+1)=r:=by
    have:=Zc (λz=>z.drop 1) T;simpa[Nat.add_comm] using this
   refine YieldOK.mono (λb R' h=>?_) (m0q hk0 (hl x (Zj P)).1 (hl x (Zj P)).2 (round i a x P ha));cases b with
   |true=>
    obtain⟨a',Y,rfl⟩:=h;exact ih (i+1) a' hlt hd' Y
   |false=>
    obtain⟨e,A,M,O,R'',Y,k,h3⟩:=h;exact .inr ⟨e,A,M,O,R'',Y,k,h3⟩
 have hv:RVL ⟨0,Γs.σ,Γs.D,k⟩ (.yield (Γs.h.next+1)::c) (.yield (Γs.h.next+1)::c'):=by
  refine RVL_cons.2 ⟨_,_,rfl,RV_yield.2 rfl,?_⟩;exact dMq (Γ:=Γs) (Γ':=⟨0,Γs.σ,Γs.D,k⟩) (λ_ h=>h) J.val hpu e4
 obtain⟨n,v,Γ1,X1,w,hp1,R1,r1,s1,f1,_,hE⟩:=it (Γs.h.next+1) E R0 (yl l 0 a0 (Zf _) rfl h0) ⟨0,Γs.σ,Γs.D,k⟩ X0 _ rfl s0 hv
 have ev:∀(y:Exit×St),k7q B Γs.h.next (Γs.h.next+1) Γ1.h=some y->zgq (Sn C n) (Fl C n) C (.rangeFunc g L q S) B=some y:=λy hy=>by
  have r1:(Sn C n).fn gf ([.yield (B.h.next+1)]++c') ((B.h.push (.dfr false)).push (.loop .ready none B.fr L q S B.h.next))=some (v,Γ1.h):=by rw[hh];exact r1
  have hy:k7q B B.h.next (B.h.next+1) Γ1.h=some y:=by rw[hh];exact hy
  simp only[zgq,hrd,e1,r1];exact hy
 rcases hE with ⟨a,ha,rfl⟩|⟨e,A,M,O,R',hpe,hq,rfl⟩
 .obtain⟨gl,Γf,Xf,nf,sf,ff⟩:=bvq (m:=m) hm U.symm hk0 j n2 rfl g2 s1 f1;refine⟨n,.normal,_,Γf,Xf,K,_,_,ev _ ?_,sf,ff,hrd,nf▸done a ha⟩;simp only[k7q,gl]
 .obtain⟨gl,Γf,Xf,nf,sf,ff⟩:=bvq (m:=m) hm U.symm hk0 j n2 rfl g2 s1 f1;refine⟨n,e,_,Γf,Xf,K,_,_,ev _ ?_,sf,ff,hrd,nf▸hq⟩;cases e<;>simp only[Qvq,Zm,reduceCtorEq] at hpe<;>subst hpe<;>simp only[k7q,gl]
end
section
theorem kJq{m n:Int}:(!ltI n m)=true↔m<=n:=by
 have:= @ltI_not n m;cases h:ltI n m<;>simp[h] at this⊢<;>omega
theorem kKq{m n:Int}:(!eqI m n)=true↔¬m=n:=by
 have:= @eqI_iff m n;cases h:eqI m n<;>simp[h] at this⊢<;>exact this
theorem yKq{p:Prop} [Decidable p]:decide p=true↔p:=by simp
theorem jCq{b:Bool}:b=true↔b=true:=Iff.rfl
section
variable {C:Cfg} {G:Nat->Option W} {m:Nat} {ops:Array Oper} {l:List Oper} {i:Nat} {es:List (Nat×EvW)} {fr:FrW} {hp:HpW} {nw:Nat} {R:Res} {K:FrW->HpW->Nat->Res->Prop} {o:Oper}
theorem Aqq{b:Bool}{p:Prop} [Decidable p](d:qIq ops fr o=some true)(c:y4q C G fr o.op=some (.bool b))(a:b=true↔p)(h:OpW C G m ops l (atq fr o.dst (.bool (decide p))) hp nw R K):OpW C G m ops (o::l) fr hp nw R K:=
 z5q d (by rw[c];congr 2;rw[Bool.eq_iff_iff,a];simp) h
theorem yEq{t g:TypeId}{x y:Operand}{u v:W}{b:Bool}(c:evW C G fr x=some u)(d:evW C G fr y=some v)(h:u.isAgg=true)(a:v.isAgg=true)(f:eqW C 300 t u v=some b):y4q C G fr (.binOp .eql t x y g)=some (.bool b):=by
 simp only[y4q,B7q,c,d];cases u<;>simp[W.isAgg] at h<;>cases v<;>simp[W.isAgg] at a<;>simp only[BPq,Zaq,W.isAgg,Bool.and_self,f]
theorem kUq{t g:TypeId}{x y:Operand}{u v:W}{b:Bool}(c:evW C G fr x=some u)(d:evW C G fr y=some v)(h:u.isAgg=true)(a:v.isAgg=true)(f:eqW C 300 t u v=some b):y4q C G fr (.binOp .neq t x y g)=some (.bool (!b)):=by
 simp only[y4q,B7q,c,d];cases u<;>simp[W.isAgg] at h<;>cases v<;>simp[W.isAgg] at a<;>simp only[BPq,Zaq,W.isAgg,Bool.and_self,f]
end
theorem A0q{C:Cfg}{G:Nat->Option W}{b:FrW}{t:TypeId}{x y:Operand}{j:TyI}{s:List UInt8}{u:W}{i:Nat}{c:UInt8}(g:C.ty t=some j)(l:j.d= .str)(h:evW C G b x=some (.str s))(k:evW C G b y=some u)(p:bLq u=some i)(m:s[i]? =some c):
  y4q C G b (.index t x y)=some (.int .u8 (.ofNat c.toNat)):=by
 simp only[y4q,dTq,g,l,h,k,p,m]
theorem Zhq{C:Cfg}{G:Nat->Option W}{h:FrW}{o:HpW}{f:Nat}{t e:TypeId}{x y:Operand}{j k:TyI}{u v z:W}{l c:Nat}(B:C.ty t=some j)(q:j.d= .slice e)(D:evW C G h x=some u)(E:evW C G h y=some v)(w:bLq u=some l)(F:bLq v=some c)(p:C.ty e=some k)(H:Nat.beq k.size 0=false)(I:l<=c)(J:k.bytes*c<=281474976710656)(K:c<=9223372036854775807)(L:aAq k.zero=some z)(A:Nat.beq z.size k.size=true):
  aDq C G h o f (.makeSlice t x y)=some (.sl f 0 0 l k.size none,(f,e,.arr (c*k.size) k.size (List.replicate c z))::o,f+1,.gen):=by
 have:(Nat.beq k.size 0||!Nat.ble l c||!Nat.ble (k.bytes*c) 281474976710656||!Nat.ble c 9223372036854775807)=false:=by
  rw[H,Zn I,Zn J,Zn K];rfl
 simp only[aDq,iSq,B,q,D,E,w,F,p,this,L,A,w9q]
theorem j3q{C:Cfg}{m:HpW}{k e q:TypeId}{j:TyI}{a b g f n:Nat}{h:Option Nat}{v:W}{l:List W}(o:C.ty k=some j)(r:j.d= .slice e)(p:hget m b=some (q,v))(t:ymq 50 v f n a=some l):aNq C m k a (.sl b g f n a h)=some l:=by
 simp only[aNq,o,r,show Nat.beq a a=true by simp,p,t]
theorem bXq{b:Nat}{x:TypeId×W}:∀{c:HpW},hget c b=some x->apq c b x=c
 |[],h=>rfl
 |(j,z)::c,h=>by
  rw[zfq] at h;simp only[apq];split
  .rename_i e;rw[ZH] at e;rw[Zl e] at h;cases h;rfl
  .rename_i e;have d:j≠b:=λf=>by subst f;simp at e
   rw[Zg d] at h;rw[bXq h]
theorem kdq{C:Cfg}{G:Nat->Option W}{g:FrW}{c:HpW}{j:Nat}{t:TypeId}{x y:Operand}{b a:Nat}{h:TyI}{k:TypeId}{u v:W}(m:evW C G g x=some (.ptr b a))(q:evW C G g y=some u)(z:C.ty t=some h)(i:hget c b=some (k,v))(l:Nat.beq u.size h.size=true)(w:z7q 50 v a u=some v):aDq C G g c j (.store t x y)=some (.undef,c,j,.storeO b):=
 qmq m q z i l w (bXq i)
theorem zZq{a:Nat->Nat}{b:Nat}{d:TypeId}{c:W}(h:aaq c=true):ahq a [(b,d,c)]=[(a b,d,c)]:=by simp only[ahq,zdq h]
theorem Q1q{C:Cfg}{G:Nat->Option W}{o:FrW}{t e:TypeId}{x:Operand}{p q:Option Operand}{j k:TyI}{n ys:List W}{m l h:Nat}{b g:Bool}(w:C.ty t=some j)(r:j.d= .slice e)(y:evW C G o x=some (.fz n m b))(H:C.ty e=some k)(v:Nat.beq k.size m=true)(u:aCq C G o 0 p=some l)(D:aCq C G o n.length q=some h)(E:l<=h)(F:h<=n.length)(A:(n.drop l).take (h-l)=ys)(B:(b&&Nat.beq h n.length)=g):
  y4q C G o (.slice t x p q none)=some (.fz ys m g):=by
 subst A;subst B
 have:(Nat.ble l h&&Nat.ble h n.length)=true:=by rw[Zn E,Zn F];rfl
 simp only[y4q,Qaq,w,r,y,H,v,u,D,mhq,this]
theorem liq{C:Cfg}{G:Nat->Option W}{p:FrW}{t e:TypeId}{x z q:Operand}{r:Option Operand}{j k:TyI}{n ys:List W}{b l h m:Nat}{o g:Bool}(A:C.ty t=some j)(v:j.d= .slice e)(B:evW C G p x=some (.fz n b o))(L:C.ty e=some k)(y:Nat.beq k.size b=true)(w:aCq C G p 0 r=some l)(H:aCq C G p n.length (some z)=some h)(D:aCq C G p 0 (some q)=some m)(I:l<=h)(J:h<=m)(K:m<=n.length)(u:1<=n.length)(E:(n.drop l).take (h-l)=ys)(F:Nat.beq h m=g):
  y4q C G p (.slice t x r (some z) (some q))=some (.fz ys b g):=by
 subst E;subst F
 have:(Nat.ble l h&&Nat.ble h m&&Nat.ble m n.length&&Nat.ble 1 n.length)=true:=by rw[Zn I,Zn J,Zn K,Zn u];rfl
 simp only[y4q,Qaq,A,v,B,L,y,w,H,D,mhq,this]
theorem lhq{C:Cfg}{G:Nat->Option W}{o:FrW}{t e:TypeId}{x z q:Operand}{r:Option Operand}{j k:TyI}{p ys:List W}{b l h m:Nat}{n g:Bool}(B:C.ty t=some j)(w:j.d= .slice e)(D:evW C G o x=some (.fz p b n))(L:C.ty e=some k)(A:Nat.beq k.size b=true)(y:aCq C G o 0 r=some l)(I:aCq C G o p.length (some z)=some h)(E:aCq C G o 0 (some q)=some m)(J:l<=h)(K:h<=m)(u:m<=p.length)(v:1<=m)(F:(p.drop l).take (h-l)=ys)(H:Nat.beq h m=g):
  y4q C G o (.slice t x r (some z) (some q))=some (.fz ys b g):=
 liq B w D L A y I E J K u (Zt v u) F H
theorem qDq{C:Cfg}{G:Nat->Option W}{o:Oper}{B:FrW}{w:HpW}{M:Nat}{R:Res}{k:W->HpW->Nat->Res->Option EvW->Prop}{t Q N:TypeId}{x y:Operand}{j:TyI}{l:List W}{e:Nat}{f:Bool}(K:o.op= .binOp .eql t x y Q)(E:C.ty t=some j)(J:j.d= .slice N)(T:evW C G B x=some (.fz l e f))(P:evW C G B y=some .nils)
  (h:∀b,(b=true->l=[]) ->k (.bool b) w M R none):aeq C G o B w M R k:=λr X m A s H=>by
 subst A;obtain⟨u,I,S⟩:=zXq H s.gl T;obtain⟨v,F,D⟩:=zXq H s.gl P;rw[RV_nils] at D;subst D
 have L:=S.one rfl;simp only[RS,YM,and_true] at L;rcases L with ⟨rfl,rfl⟩|⟨b,base,off,lim,bv,rfl,_⟩
 .have g:ylq C m o.type o.op=some (.bool true):=by
   rw[K];simp only[ylq,yxq,I,F,mjq,vwq,eqV,E,J]
  exact⟨0,.bool true,w,R,none,.bool true,r.h,r,X,h true (λ_=>rfl),by simp only[opV,g],⟨g,rfl⟩,rfl,Ctx.Le.refl _,s,Frm.refl _ _ _ _,RV_bool.2 rfl⟩
 .have g:ylq C m o.type o.op=some (.bool false):=by
   rw[K];simp only[ylq,yxq,I,F,mjq,vwq,eqV,E,J]
  exact⟨0,.bool false,w,R,none,.bool false,r.h,r,X,h false (λh=>by cases h),by simp only[opV,g],⟨g,rfl⟩,rfl,Ctx.Le.refl _,s,Frm.refl _ _ _ _,RV_bool.2 rfl⟩
def PS(C:Cfg)(G:Nat->Option W)(f:FuncId)(b:List W)(w:W):Prop:=zUq C G f 0 b [] λa _ _=>a=w
section
variable {C:Cfg} {G:Nat->Option W} {m:Nat} {ops:Array Oper} {l:List Oper} {i:Nat} {es:List (Nat×EvW)} {fr:FrW} {hp:HpW} {nw:Nat} {R:Res} {K:FrW->HpW->Nat->Res->Prop} {o:Oper} {x:Operand} {xs:Array Operand} {ats:Array TypeId} {f:FuncId} {a us c ws:List W} {w:W}
theorem Ksq{b:W->HpW->Nat->Res->Option EvW->Prop}(y:o.op= .call ⟨.value x,xs,ats⟩)(p:evW C G fr x=some (.fn f a c))(q:C.ext f=none)(k:avq C G fr xs.toList=some us)(j:a++us++c=ws)(r:PS C G f ws w)(d:acq ws=true)(t:aaq w=true)(h:b w hp nw R (some .gen)):aeq C G o fr hp nw R b:=by
 subst j;exact ZQq y p q k r d λz _ _ s=>by subst s;exact⟨t,h⟩
theorem bEq(k:qIq ops fr o=some true)(s:o.op= .call ⟨.value x,xs,ats⟩)(j:evW C G fr x=some (.fn f a c))(p:C.ext f=none)(g:avq C G fr xs.toList=some us)(d:a++us++c=ws)(q:PS C G f ws w)(b:acq ws=true)(r:aaq w=true)(h:OpW C G m ops l (atq fr o.dst w) hp nw R K):OpW C G m ops (o::l) fr hp nw R K:=
 zhq k (Ksq s j p g d q b r h)
theorem tcq(p:qIq ops fr o=some true)(y:o.op= .call ⟨.value x,xs,ats⟩)(k:evW C G fr x=some (.fn f a c))(q:C.ext f=none)(j:avq C G fr xs.toList=some us)(d:a++us++c=ws)(r:PS C G f ws w)(b:acq ws=true)(t:aaq w=true)(s:dvq ops i .gen es=true)(h:FlW C G m ops l (i+1) ((i,.gen)::es) (atq fr o.dst w) hp nw R K):FlW C G m ops (o::l) i es fr hp nw R K:=
 yeq p (Ksq y k q j d r b t ⟨s,h⟩)
theorem g3q{b:W->HpW->Nat->Res->Option EvW->Prop}(y:o.op= .call ⟨.value x,xs,ats⟩)(p:evW C G fr x=some (.fn f a c))(q:C.ext f=none)(k:avq C G fr xs.toList=some us)(j:ViewL (amq hp) (a++us++c) ws)(r:PS C G f ws w)(d:acq ws=true)(t:uDq w=true)(h:b w hp nw R (some .gen)):aeq C G o fr hp nw R b:=
 bjq y p q k j r d λz _ _ s=>by subst s;exact⟨t,h⟩
theorem vcq(k:qIq ops fr o=some true)(s:o.op= .call ⟨.value x,xs,ats⟩)(j:evW C G fr x=some (.fn f a c))(p:C.ext f=none)(g:avq C G fr xs.toList=some us)(d:ViewL (amq hp) (a++us++c) ws)(q:PS C G f ws w)(b:acq ws=true)(r:uDq w=true)(h:OpW C G m ops l (atq fr o.dst w) hp nw R K):OpW C G m ops (o::l) fr hp nw R K:=
 zhq k (g3q s j p g d q b r h)
theorem Znq(p:qIq ops fr o=some true)(y:o.op= .call ⟨.value x,xs,ats⟩)(k:evW C G fr x=some (.fn f a c))(q:C.ext f=none)(j:avq C G fr xs.toList=some us)(d:ViewL (amq hp) (a++us++c) ws)(r:PS C G f ws w)(b:acq ws=true)(t:uDq w=true)(s:dvq ops i .gen es=true)(h:FlW C G m ops l (i+1) ((i,.gen)::es) (atq fr o.dst w) hp nw R K):FlW C G m ops (o::l) i es fr hp nw R K:=
 yeq p (g3q y k q j d r b t ⟨s,h⟩)
end
theorem xoq{τ:Nat->Nat}{l:List W}(h:acq l=true):yVq τ l=l:=by
 have:=zdq (τ:=τ) (w:=.tup l) h;simpa only[adq,W.tup.injEq] using this
theorem yMq{C:Cfg}{G:Nat->Option W}{o:Oper}{D:FrW}{H:HpW}{s:Nat}{R:Res}{b:W->HpW->Nat->Res->Option EvW->Prop}{x:Operand}{E:Array Operand}{A:Array TypeId}{f:FuncId}{a F c j:List W}{Q:W->HpW->Nat->Prop}(I:o.op= .call ⟨.value x,E,A⟩)(K:evW C G D x=some (.fn f a c))(J:C.ext f=none)(B:avq C G D E.toList=some F)(z:a++F++c=j)(m:acq j=true)(L:zUq C G f 0 j [] Q)
  (g:∀w q k,Q w q k->b (adq (afq [] s) w) (ahq (afq [] s) q++H) (s+k) R (some .dirty)):aeq C G o D H s R b:=
 zDq (ext:=[]) (ws:=j) (hp0:=[]) I K J B (by rw[z,xoq m]) L YN Xi Xi (λi M w h=>by simp[hget] at h) (zaq (w:=.tup j) m) g
def aPq(n:Nat):FrW->Prop
 |[]=>True
 |(_,w)::l=>agq n w=true/\aPq n l
theorem koq{n:Nat}:∀{l:FrW},aPq n l->l.all (λp=>agq n p.2)=true
 |[],_=>rfl
 |(t,w)::l,h=>by simp only[List.all_cons,h.1,Y6];exact koq h.2
theorem u0q{n:Nat}:∀{a b:FrW},aPq n a->aPq n b->aPq n (a++b)
 |[],b,_,h=>h
 |(t,w)::a,b,h,k=>⟨h.1,u0q h.2 k⟩
theorem jqq{c:FrW}:∀{a b:FrW},arq c a->arq c b->arq c (a++b)
 |[],b,_,h=>h
 |(t,w)::a,b,h,k=>⟨h.1,jqq h.2 k⟩
mutual
theorem Kdq{k:Ctx}:∀{w:W} {s:List V},RS k w s->agq k.nw w=true
 |.undef,_,_=>rfl
 |.bool _,_,_=>rfl
 |.int _ _,_,_=>rfl
 |.str _,_,_=>rfl
 |.nilp,_,_=>rfl
 |.ptr b j,_,h=>by simp only[RS] at h;exact Zq h.1
 |.nils,_,_=>rfl
 |.sl b _ _ _ _ _,_,h=>by simp only[RS] at h;exact Zq h.1
 |.fz l e full,_,h=>by
  simp only[RS] at h;simp only[agq];rcases h with ⟨rfl,_⟩|⟨b,base,j,lim,A,_,_,_,_,_,_,_,h⟩
  .rfl
  .exact Xvq h
 |.fel x,_,h=>by
  simp only[RS] at h;obtain⟨b,j,A,_,_,_,_,_,_,h⟩:=h;exact Kdq (w:=x) h
 |.nilm,_,_=>rfl
 |.fn f a c,_,h=>by
  simp only[RS] at h;obtain⟨E,D,_,q,B⟩:=h;simp only[agq,Xtq q,Xtq B,Bool.and_self]
 |.yield _,_,_=>rfl
 |.nilf,_,_=>rfl
 |.iface t x,_,h=>by
  simp only[RS] at h;obtain⟨v,_,_,h⟩:=h;exact Kdq (w:=x) h
 |.nili,_,_=>rfl
 |.agg n l,_,h=>by simp only[RS] at h;exact Xvq (l:=l) h.2
 |.arr n e l,_,h=>by simp only[RS] at h;exact Xvq (l:=l) h.2.2
 |.tup l,_,h=>by
  simp only[RS] at h;obtain⟨C,_,h⟩:=h;exact Xtq (l:=l) h
theorem Xvq{a:Ctx}:∀{l:List W} {s:List V},RSL a l s->asq a.nw l=true
 |[],_,_=>rfl
 |w::l,s,h=>by
  simp only[RSL] at h;simp only[asq,Kdq h.1,Xvq h.2,Bool.and_self]
theorem Xtq{a:Ctx}:∀{l:List W} {b:List V},RVL a l b->asq a.nw l=true
 |[],_,_=>rfl
 |w::l,_,h=>by
  simp only[RVL] at h;obtain⟨v,b,_,c,d⟩:=h;simp only[asq,Kdq c.2,Xtq d,Bool.and_self]
end
section
variable {C:Cfg} {G:Nat->Option W} {m k0:Nat} {rd:Bool} {fr:FrW} {hp hp':HpW} {nw nw':Nat} {R:Res} {Q:qHq} {c:Code}
theorem feq(h:m<=nw->(∀t w,aqq fr t=some w->agq nw w=true) ->(∀b x,hget hp b=some x->b<nw/\agq nw x.2=true) ->(hp.map (·.1)).Nodup->CoW C G m k0 rd c fr hp nw R Q):CoW C G m k0 rd c fr hp nw R Q:=λl X s e f q j a=>
 h f (λt w r=>by obtain⟨v,_,n⟩:=a.fr t w r;exact e▸Kdq n.2) (λb x k=>by
  obtain⟨g,_,_,v,_,i⟩:=a.sat.own b x.1 x.2 k;exact⟨e▸g,e▸Kdq i.2⟩) a.sat.nd l X s e f q j a
def YBq(hp' hp:HpW)(nw:Nat):Prop:=∀b x,b<nw->hget hp b=some x->hget hp' b=some x
theorem kvq:YBq hp hp nw:=λ_ _ _ h=>h
theorem kyq{k:Nat}{y:TypeId×W}(e:nw<=k)(h:YBq hp' hp nw):YBq ((k,y)::hp') hp nw:=λb x a d=>by
 rw[zfq,Zg Xd];exact h b x a d
theorem Ylq{k b:Nat}{y:TypeId×W}(d:k≠b):∀{hp:HpW},hget (apq hp k y) b=hget hp b
 |[]=>rfl
 |(j,z)::hp=>by
  simp only[apq];split
  .rename_i e;rw[ZH] at e;subst e;rw[zfq,zfq,Zg d,Zg d]
  .rw[zfq,zfq,Ylq d]
theorem kwq{k:Nat}{y:TypeId×W}(e:nw<=k)(h:YBq hp' hp nw):YBq (apq hp' k y) hp nw:=λb x a d=>by
 rw[Ylq Xd];exact h b x a d
theorem uxq{k b:Nat}(d:k≠b):∀{hp:HpW},hget (ayq hp k) b=hget hp b
 |[]=>rfl
 |(j,z)::hp=>by
  simp only[ayq];split
  .rename_i e;rw[ZH] at e;subst e;rw[zfq,Zg d]
  .rw[zfq,zfq,uxq d]
theorem kxq{k:Nat}(e:nw<=k)(h:YBq hp' hp nw):YBq (ayq hp' k) hp nw:=λb x a d=>by
 rw[uxq Xd];exact h b x a d
def QRk{b:Type}(I:b->Prop)(V:b->FrW)(e:FrW)(hp:HpW)(nw:Nat)(RR:b->Res)(d:b->Nat)(k:Nat)(Q:qHq):qHq
 |.normal,fr',hp',nw',R'=>∃a,I a/\d a<k/\arq fr' (V a)/\arq fr' e/\aPq nw (V a)/\nw<=nw'/\YBq hp' hp nw/\R'=RR a
 |x,fr',hp',nw',R'=>Q x fr' hp' nw' R'
theorem Zzq{α:Type}(I:α->Prop)(V:α->FrW)(g:FrW)(RR:α->Res)(k:α->Nat)(f:α)(n:arq fr g)(H:I f)(K:arq fr (V f))(D:R=RR f)
  (e:∀a,I a->CoW C G m k0 rd c (V a++g) hp nw (RR a) (QRk I V g hp nw RR k (k a) Q)):CoW C G m k0 rd (.loop c) fr hp nw R Q:=by
 subst D
 exact feq λF B j E=>jAq I (λa=>V a++g) (λ_=>hp) (λ_=>nw) RR k f H (yJq (jqq K n) Y Y) λa M=>
  Xkq (e a M) λx A hp' nw' R' h=>by
   cases x with
   |normal=>
    obtain⟨u,J,L,y,q,z,v,r,rfl⟩:=h
    have d:∀{l:FrW},arq fr l->aPq nw l:=λ{l}=>by
     induction l with
     |nil=>intro _;trivial
     |cons p l s=>
      obtain⟨t,w⟩:=p;intro h;exact⟨B t w h.1,s h.2⟩
    exact⟨u,J,L,zvq F v (jqq y q) (koq (u0q z (d n))) (λb x i=>⟨(j b x i).1,r b x (j b x i).1 i,(j b x i).2⟩) E⟩
   |ret=>exact h
   |exit _=>exact h
   |goto _=>exact h
   |panic _=>exact h
   |outgrown=>exact h
theorem oAq{d:Type}(I:d->Prop)(V:d->FrW)(e:FrW)(f:d->Nat)(g:d)(j:arq fr e)(h:I g)(i:arq fr (V g))
  (b:∀a,I a->CoW C G m k0 rd c (V a++e) hp nw R (QRk I V e hp nw (λ_=>R) f (f a) Q)):CoW C G m k0 rd (.loop c) fr hp nw R Q:=Zzq I V e (λ_=>R) f g j h i rfl b
theorem zuq{d:Type}{I:d->Prop}{V:d->FrW}{g:FrW}{RR:d->Res}{f:d->Nat}{k:Nat}{x:Exit}{b:FrW}{R':Res}(e:x≠ .normal)(h:Q x b hp' nw' R'):QRk I V g hp nw RR f k Q x b hp' nw' R':=by cases x<;>first|exact h|exact absurd rfl e
theorem m6q{d:Type}{I:d->Prop}{V:d->FrW}{g:FrW}{RR:d->Res}{f:d->Nat}{k:Nat}{b:FrW}(a:d)(t:I a)(e:f a<k)(q:arq b (V a))(i:arq b g)(s:aPq nw (V a))(h:nw<=nw')(j:YBq hp' hp nw)(p:R=RR a):
  QRk I V g hp nw RR f k Q .normal b hp' nw' R:=⟨a,t,e,q,i,s,h,j,p⟩
theorem jzq{α:Type}(I:α->Prop)(V:α->FrW)(e:FrW)(H:α->HpW)(f:α->Nat)(d:α)(j:arq fr e)(h:I d)(i:arq fr (V d))(g:hp=H d)
  (b:∀a,I a->CoW C G m k0 rd c (V a++e) (H a) nw R (uSq C G m k0 I (λa=>V a++e) H (λ_=>nw) (λ_=>R) f (f a) Q)):CoW C G m k0 rd (.loop c) fr hp nw R Q:=
 jAq I (λa=>V a++e) H (λ_=>nw) (λ_=>R) f d h (yJq (jqq i j) g rfl) b
theorem u2q{e:Type}{I:e->Prop}{V:e->FrW}{f:FrW}{H:e->HpW}{i:e->Nat}{k:Nat}{b:FrW}(a:e)(v:I a)(g:i a<k)(s:m<=nw)(w:arq b (V a))(x:arq b f)(q:aPq nw (V a))(h:aPq nw f)(y:nw<=nw')(t:coq hp' nw (H a))(j:((H a).map (·.1)).Nodup):
  uSq C G m k0 I (λa=>V a++f) H (λ_=>nw) (λ_=>R) i k Q .normal b hp' nw' R:=
 y6q a v g (zvq s y (jqq w x) (koq (u0q q h)) (zoq t) j)
theorem u1q{d:Type}{I:d->Prop}{V:d->FrW}{g:FrW}{H:d->HpW}{f:d->Nat}{k:Nat}{b:FrW}(a:d)(p:I a)(e:f a<k)(j:arq b (V a))(h:arq b g)(i:hp=H a):
  uSq C G m k0 I (λa=>V a++g) H (λ_=>nw) (λ_=>R) f k Q .normal b hp nw R:=
 y6q a p e (yJq (jqq j h) i rfl)
end
theorem c3q{C:Cfg}{G:Nat->Option W}{f:FuncId}{fn:Func}{c:Code}{a:List W}{w:W}(i:C.known f=none)(e:C.fn f=some fn)(d:fn.body=some c)(j:a.length<=fn.ntmps)
  (h:∀R b,CoW C G 0 b false c (ZDq 0 a) [] 0 R (aTq C G 0 b fn.results.toList λg _ _ R'=>R'=R/\g=w)):PS C G f a w:=λR=>ZSq i e d j (h R)
theorem zrq{C:Cfg}{G:Nat->Option W}{f:FuncId}{a:List W}{w w':W}(h:PS C G f a w)(e:w=w'):PS C G f a w':=e▸h
def rOq(a:Nat->Option W)(b:FrW):FrW->Prop
 |[]=>True
 |(t,w)::l=>(∃w0,aqq b t=some w0/\View a w0 w)/\rOq a b l
theorem vYq{b:Nat->Option W}{d:FrW}:∀{l:FrW},rOq b d l->∀t w,aqq l t=some w->∃w0,aqq d t=some w0/\View b w0 w
 |[],_,t,w,h=>by simp[aqq] at h
 |(k,u)::l,hs,t,w,h=>by
  simp only[aqq] at h;split at h
  .rename_i e;rw[ZH] at e;subst e;cases h;exact hs.1
  .exact vYq hs.2 t w h
theorem y5q{a:Nat->Option W}{b:Nat}{c:W}(g:a b=some c)(i:aaq c=true)(d:(c.isAgg||c.leaf)=true):View a (.ptr b 0) (.fel c):=by
 refine .ptr (n:=c.size) (ag:=c.isAgg) g i ?_;unfold zGq;cases h:c.isAgg<;>simp[h] at d⊢
 rw[d]
section
variable {C:Cfg} {G:Nat->Option W} {m k0:Nat} {fr fr2:FrW} {hp:HpW} {nw:Nat} {R:Res}
theorem e2q(N:rOq (amq hp) fr fr2):Ent C G m k0 fr hp nw R fr2 [] nw R:=λg X st z H s=>by
 let Γ2:Ctx:=⟨g.nw,g.σ,λc=>g.D c\/aoq g hp c,g.h⟩
 have p:g.Le Γ2:=⟨Zb _,λ_ _=>rfl,λ_ h=>.inl h,λ_ _=>rfl⟩
 have q:Seen (amq hp) g Γ2:=⟨λ_ h _=>h,λ_ _ _=>rfl,λ_ h=>.inl h,λ_ _=>rfl,λb c _ h=>by
  unfold amq at h;split at h
  .rename_i ty c' E;cases h;obtain⟨v,h1,Y,L⟩:=jeq s.sat E;exact⟨.inr ⟨b,_,E,rfl⟩,v,Y,L⟩
  .cases h⟩
 have f:∀{c},¬aoq Γ2 [] c:=λ{c} h=>by
  obtain⟨b,x,h,_⟩:=h;simp[hget] at h
 refine⟨Γ2,X,z,⟨s.hh,λt w M=>?_,⟨s.sat.wf,λk U w A=>by simp[hget] at A,λk k' x y S=>by simp[hget] at S,YN,λd j B=>?_,s.sat.xlt,λd j=>?_,R.st _ _ _ _ _ s.sat.res p.D p.val (λ_ _=>rfl) (Zb _),s.sat.gl.mono p⟩,λd j=>?_,s.nd⟩,⟨λ_ _=>rfl,λh=>h,Zb _,λ_ _ _ _=>rfl,λ_ h=>.inl h,λd j=>?_,λk x A h=>by simp[hget] at h,λk x A h=>by simp[hget] at h,λ_ h=>.inl h,λ_ h _ _=>h⟩⟩
 .obtain⟨w0,F,T⟩:=vYq N t w M;obtain⟨u,Z,O⟩:=s.fr _ _ F;exact⟨u,Z,kDq q T O⟩
 .rcases j with h|⟨b,x,h,rfl⟩
  .exact s.sat.dX d h B
  .exact(s.sat.own b x.1 x.2 h).2.2.1 B
 .rcases j with h|⟨b,x,h,rfl⟩
  .exact s.sat.dlt d h
  .exact s.sat.own_lt h
 .obtain⟨P,K,Q,V,I,J⟩:=s.ds d j;refine⟨P,K,Q,f,I,λh=>?_⟩;rcases h with h|h
  .exact J h
  .exact V h
 .rcases j with h|h
  .exact .inl h
  .exact .inr (.inl (.inl h))
theorem ySq{c:List ResultVar}{w b:W}{x:Exit}(d:x= .normal\/x= .ret)(f:rOq (amq hp) fr fr2)(g:c7q C fr2 [] c=some w)(e:w=b):aTq C G m k0 c (λv _ _ R'=>R'=R/\v=b) x fr hp nw R:=
 fin d (e2q f) g ⟨rfl,e⟩
end
theorem JCq{C:Cfg}{G:Nat->Option W}{f:FuncId}{m:Nat}{J:List W}{I:HpW}{R:Res}{A:W->Prop}(h:ajq C G f m J I R λw g _ R'=>R'=R/\∃u,View (amq g) w u/\A u):ajq C G f m J I R λw _ _ R'=>R'=R/\A w:=λN X M K s U=>by
 obtain⟨n,v,Γ',X',w,g,R',L,j,o,Q,rfl,u,P,gA⟩:=h N X M K s U;let Γ2:Ctx:=⟨Γ'.nw,Γ'.σ,λc=>Γ'.D c\/aoq Γ' g c,Γ'.h⟩
 have B:Γ'.Le Γ2:=⟨Zb _,λ_ _=>rfl,λ_ h=>.inl h,λ_ _=>rfl⟩
 have q:Seen (amq g) Γ' Γ2:=⟨λ_ h _=>h,λ_ _ _=>rfl,λ_ h=>.inl h,λ_ _=>rfl,λb c _ h=>by
  unfold amq at h;split at h
  .rename_i Y c' H;cases h;obtain⟨v,K,V,O⟩:=jeq j H;exact⟨.inr ⟨b,_,H,rfl⟩,v,V,O⟩
  .cases h⟩
 have z:∀d,Γ2.D d->Γ'.D d\/aoq Γ' g d:=λd h=>h
 refine⟨n,v,Γ2,X',u,[],R',L,⟨j.wf,λk T w E=>by simp[hget] at E,λk Z x y S=>by simp[hget] at S,YN,λd p F=>?_,j.xlt,λd p=>?_,R'.st _ _ _ _ _ j.res B.D B.val (λ_ _=>rfl) (Zb _),j.gl.mono B⟩,⟨o.sig,o.mle,o.next,o.keep,λc h=>.inl (o.dsub c h),λd p=>?_,λk x E h=>by simp[hget] at h,λk x E h=>by simp[hget] at h,o.xnew,o.wmin⟩,kDq q P Q,rfl,gA⟩
 .rcases z d p with h|⟨b,x,h,rfl⟩
  .exact j.dX d h F
  .exact(j.own b x.1 x.2 h).2.2.1 F
 .rcases z d p with h|⟨b,x,h,rfl⟩
  .exact j.dlt d h
  .exact j.own_lt h
 .rcases z d p with h|h
  .exact o.dnew d h
  .rcases o.onew d h with h|h
   .exact .inr (.inl (.inl h))
   .exact .inr (.inr h)
theorem ukq{C:Cfg}{G:Nat->Option W}{f:FuncId}{m:Nat}{c:List W}{d:HpW}{R:Res}{b:W}(h:ajq C G f m c d R λw a _ R'=>R'=R/\View (amq a) w b):ajq C G f m c d R λw _ _ R'=>R'=R/\w=b:=
 JCq (A:=λw=>w=b) λk X j l s o=>by
  obtain⟨n,v,Γ',X',w,a,R',e,q,r,i,g,p⟩:=h k X j l s o;exact⟨n,v,Γ',X',w,a,R',e,q,r,i,g,b,p,rfl⟩
theorem yRq{C:Cfg}{G:Nat->Option W}{f:FuncId}{m:Nat}{c:List W}{a:HpW}{P Q:W->HpW->Nat->Prop}(h:zUq C G f m c a P)(p:∀w a d,P w a d->Q w a d):zUq C G f m c a Q:=λR l X k o s q=>by
 obtain⟨n,v,Γ',X',i,b,R',e,t,u,j,g,r⟩:=h R l X k o s q;exact⟨n,v,Γ',X',i,b,R',e,t,u,j,g,p _ _ _ r⟩
def PE(C:Cfg)(G:Nat->Option W)(f:FuncId)(a:List W)(A:W->Prop):Prop:=zUq C G f 0 a [] λw _ _=>aaq w=true/\A w
theorem ybq{C:Cfg}{G:Nat->Option W}{m q:Nat}{f:List ResultVar}{d:FrW}{c:HpW}{j:Nat}{R:Res}{w w':W}{A:W->Prop}{x:Exit}(h:x= .normal\/x= .ret)(g:c7q C d c f=some w)(i:View (amq c) w w')(k:aaq w'=true)(p:A w'):aTq C G m q f (λv b _ R'=>R'=R/\∃w,View (amq b) v w/\(aaq w=true/\A w)) x d c j R:=
 fin h Ent.refl g ⟨rfl,w',i,k,p⟩
theorem qfq{C:Cfg}{G:Nat->Option W}{o:Oper}{q:FrW}{y:HpW}{t:Nat}{R:Res}{b:W->HpW->Nat->Res->Option EvW->Prop}{x:Operand}{r:Array Operand}{i:Array TypeId}{f:FuncId}{a s c m:List W}{A:W->Prop}(B:o.op= .call ⟨.value x,r,i⟩)(E:evW C G q x=some (.fn f a c))(D:C.ext f=none)(k:avq C G q r.toList=some s)(d:a++s++c=m)(F:PE C G f m A)(j:acq m=true)(h:∀w,aaq w=true->A w->b w y t R (some .gen)):aeq C G o q y t R b:=by
 subst d;exact ZQq B E D k F j λz _ _ p=>⟨p.1,h z p.1 p.2⟩
theorem Afq{C:Cfg}{G:Nat->Option W}{f:FuncId}{fn:Func}{c:Code}{b:List W}{w:W}(j:C.known f=none)(e:C.fn f=some fn)(i:fn.body=some c)(k:b.length<=fn.ntmps)
  (h:∀R d,CoW C G 0 d false c (ZDq 0 b) [] 0 R (aTq C G 0 d fn.results.toList λg a _ R'=>R'=R/\View (amq a) g w)):PS C G f b w:=λR=>ukq (ZSq j e i k (h R))
theorem y0q{C:Cfg}{G:Nat->Option W}{m p:Nat}{f:List ResultVar}{g:FrW}{c:HpW}{k:Nat}{R:Res}{w d:W}{x:Exit}(i:x= .normal\/x= .ret)(h:c7q C g c f=some w)(j:View (amq c) w d):aTq C G m p f (λv b _ R'=>R'=R/\View (amq b) v d) x g c k R:=
 fin i Ent.refl h ⟨rfl,j⟩
section
variable {C:Cfg} {G:Nat->Option W}
theorem xdq{f:FuncId}{fn:Func}{c:Code}{a:List W}{l:List (List W)}(j:C.known f=none)(g:C.fn f=some fn)(k:fn.body=some c)(n:a.length+1<=fn.ntmps)
  (h:∀L E R,Yl C G L E l R->∀b,CoW C G 0 b false c (ZDq 0 (.yield L::a)) [] 0 R (aTq C G 0 b fn.results.toList λ_ _ _ R'=>E R')):quq C G f a l:=λL E R m=>ZSq j g k n (h L E R m)
theorem j7q{m j:Nat}{b:List ResultVar}{d:FrW}{c:HpW}{g:Nat}{R:Res}{w:W}{x:Exit}{E:Res->Prop}(f:x= .normal\/x= .ret)(i:c7q C d c b=some w)(h:E R):aTq C G m j b (λ_ _ _ R'=>E R') x d c g R:=fin f Ent.refl i h
variable {m k0:Nat} {rd:Bool} {fr:FrW} {hp hp':HpW} {nw nw':Nat} {R:Res} {Q:qHq} {c:Code}
theorem fcq{α:Type}(I:α->Prop)(V:α->FrW)(e:FrW)(H:α->HpW)(RR:α->Res)(f:α->Nat)(d:α)(k:arq fr e)(g:I d)(j:arq fr (V d))(h:hp=H d)(i:R=RR d)
  (b:∀a,I a->CoW C G m k0 rd c (V a++e) (H a) nw (RR a) (uSq C G m k0 I (λa=>V a++e) H (λ_=>nw) RR f (f a) Q)):CoW C G m k0 rd (.loop c) fr hp nw R Q:=by
 subst i;exact jAq I (λa=>V a++e) H (λ_=>nw) RR f d g (yJq (jqq j k) h rfl) b
theorem Kzq{e:Type}{I:e->Prop}{V:e->FrW}{f:FrW}{H:e->HpW}{RR:e->Res}{i:e->Nat}{k:Nat}{b:FrW}(a:e)(w:I a)(g:i a<k)(t:m<=nw)(x:arq b (V a))(y:arq b f)(s:aPq nw (V a))(h:aPq nw f)(z:nw<=nw')(v:coq hp' nw (H a))(j:((H a).map (·.1)).Nodup)(q:R=RR a):
  uSq C G m k0 I (λa=>V a++f) H (λ_=>nw) RR i k Q .normal b hp' nw' R:=by
 subst q;exact y6q a w g (zvq t z (jqq x y) (koq (u0q s h)) (zoq v) j)
theorem xwq{A:Type}{g:Operand}{v:Array Tmp}{j B:Code}{D:FuncId}{z:List W}(b:A->List W)(p:List A)(I:Nat->Prop)
  (H:evW C G fr g=some (.fn D [] z)) (s:acq z=true) (L:quq C G D z (p.map b)) (E:∀y∈p,acq (b y)=true/\(b y).length=v.size) (J:I 0)
  (d:∀i y,p[i]? =some y->I i->CoW C G nw k0 true j (bnq fr v.toList (b y)) hp nw R (t3q C G nw k0 B (rqq C G nw k0 (λ_:Unit=>I (i+1)) (λ_=>hp) (λ_=>nw) (λ_=>R) fr Q)))
  (k:I p.length->Q .normal fr hp nw R):CoW C G m k0 false (.rangeFunc g v j B) fr hp nw R Q:=
 Y2q (α:=Unit) (λi _=>I i) (λ_=>hp) (λ_=>nw) (λ_=>R) () H s L (λx q=>by obtain⟨y,w,rfl⟩:=Z2.1 q;exact E y w) J Y Y Y
  (λi a x q K=>by
   rw[Z1,Option.map_eq_some_iff] at q;obtain⟨y,w,rfl⟩:=q;exact d i y w K) (λa h=>k Qq)
def QBk{b:Type}(I:b->Prop)(hp:HpW)(nw:Nat)(RR:b->Res)(fr:FrW)(Q:qHq):qHq
 |.normal,_,hp',nw',R'=>∃a,I a/\nw<=nw'/\YBq hp' hp nw/\R'=RR a
 |.ret,_,hp',nw',R'=>Q .ret fr hp' nw' R'
 |.exit id,_,hp',nw',R'=>Q (.exit id) fr hp' nw' R'
 |.goto l,_,hp',nw',R'=>Q (.goto l) fr hp' nw' R'
 |_,_,_,_,_=>False
theorem YNq{b:Type}{I:b->Prop}{RR:b->Res}{a:FrW}{R':Res}{x:Exit}(d:Qvq x≠none)(h:Q x fr hp' nw' R'):QBk I hp nw RR fr Q x a hp' nw' R':=by
 cases x<;>first|exact h|exact absurd rfl d
theorem v3q{b:Type}{I:b->Prop}{RR:b->Res}{d:FrW}(a:b)(g:I a)(h:nw<=nw')(e:YBq hp' hp nw)(f:R=RR a):QBk I hp nw RR fr Q .normal d hp' nw' R:=⟨a,g,h,e,f⟩
theorem uIq{z K:Type}{g:Operand}{J:Array Tmp}{k L:Code}{M:FuncId}{E:List W}(d:K->List W)(q:List K)(I:Nat->z->Prop)(RR:z->Res)(A:z)
  (O:evW C G fr g=some (.fn M [] E)) (H:acq E=true) (U:quq C G M E (q.map d)) (N:∀y∈q,acq (d y)=true/\(d y).length=J.size) (Z:I 0 A) (V:R=RR A)
  (j:∀i a y,q[i]? =some y->I i a->CoW C G nw k0 true k (bnq fr J.toList (d y)) hp nw (RR a) (t3q C G nw k0 L (QBk (I (i+1)) hp nw RR fr Q)))
  (p:∀a,I q.length a->Q .normal fr hp nw (RR a)):CoW C G m k0 false (.rangeFunc g J k L) fr hp nw R Q:=by
 subst V;refine feq λhm f1 w X=>Y2q I (λ_=>hp) (λ_=>nw) RR A O H U (λx v=>by obtain⟨y,B,rfl⟩:=Z2.1 v;exact N y B) Z Y Y Y (λi a x v S=>?_) (λa h=>p a Qq)
 rw[Z1,Option.map_eq_some_iff] at v;obtain⟨y,B,rfl⟩:=v;refine Xkq (j i a y B S) λx D hp' nw' R' h=>?_
 obtain⟨rfl,h⟩:=h;refine⟨rfl,Xkq h λx D hp' nw' R' h=>?_⟩;cases x with
 |normal=>
  obtain⟨P,h1,h2,T,rfl⟩:=h;exact Kyq P h1 (zvq (Zb _) h2 trivial rfl (λb x s=>⟨(w b x s).1,T b x (w b x s).1 s,(w b x s).2⟩) X)
 |ret=>exact h
 |exit _=>exact h
 |goto _=>exact h
 |panic _=>exact h.elim
 |outgrown=>exact h.elim
theorem lrq{p D:Type}{g:Operand}{z:Array Tmp}{j E:Code}{J:FuncId}{B:List W}(b:D->List W)(s:List D)(I:Nat->p->Prop)(H:p->HpW)(RR:p->Res)(q:p)
  (M:evW C G fr g=some (.fn J [] B)) (w:acq B=true) (S:quq C G J B (s.map b)) (L:∀y∈s,acq (b y)=true/\(b y).length=z.size) (N:I 0 q) (O:hp=H q) (K:R=RR q)
  (d:∀i a y,s[i]? =some y->I i a->CoW C G nw k0 true j (bnq fr z.toList (b y)) (H a) nw (RR a) (t3q C G nw k0 E (rqq C G nw k0 (I (i+1)) H (λ_=>nw) RR fr Q)))
  (k:∀a,I s.length a->Q .normal fr (H a) nw (RR a)):CoW C G m k0 false (.rangeFunc g z j E) fr hp nw R Q:=
 Y2q I H (λ_=>nw) RR q M w S (λx v=>by obtain⟨y,A,rfl⟩:=Z2.1 v;exact L y A) N O rfl K
  (λi a x v P=>by
   rw[Z1,Option.map_eq_some_iff] at v;obtain⟨y,A,rfl⟩:=v;exact d i a y A P) (λa h=>k a Qq)
theorem lqq{α B:Type}{g:Operand}{w:Array Tmp}{k D:Code}{E:FuncId}{A:List W}(b:B->List W)(q:List B)(I:Nat->α->Prop)(H:α->HpW)(N:α->Nat)(RR:α->Res)(j:α)
  (L:evW C G fr g=some (.fn E [] A)) (v:acq A=true) (S:quq C G E A (q.map b)) (K:∀y∈q,acq (b y)=true/\(b y).length=w.size) (M:I 0 j) (O:hp=H j) (T:nw=N j) (J:R=RR j)
  (d:∀i a y,q[i]? =some y->I i a->CoW C G nw k0 true k (bnq fr w.toList (b y)) (H a) (N a) (RR a) (t3q C G nw k0 D (rqq C G nw k0 (I (i+1)) H N RR fr Q)))
  (p:∀a,I q.length a->Q .normal fr (H a) (N a) (RR a)):CoW C G m k0 false (.rangeFunc g w k D) fr hp nw R Q:=
 Y2q I H N RR j L v S (λx s=>by obtain⟨y,z,rfl⟩:=Z2.1 s;exact K y z) M O T J
  (λi a x s P=>by
   rw[Z1,Option.map_eq_some_iff] at s;obtain⟨y,z,rfl⟩:=s;exact d i a y z P) (λa h=>p a Qq)
theorem ejq{b:Type}{I:b->Prop}{H:b->HpW}{RR:b->Res}{e:FrW}(a:b)(i:I a)(j:nw<=nw')(f:coq hp' nw (H a))(g:((H a).map (·.1)).Nodup)(h:R=RR a):rqq C G nw k0 I H (λ_=>nw) RR fr Q .normal e hp' nw' R:=by
 subst h;exact Kyq a i (zvq (Zb _) j trivial rfl (zoq f) g)
end
section
variable {C:Cfg} {G:Nat->Option W} {m:Nat} {ops:Array Oper} {l:List Oper} {i:Nat} {es:List (Nat×EvW)} {fr:FrW} {hp:HpW} {nw:Nat} {R:Res} {K:FrW->HpW->Nat->Res->Prop} {o:Oper} {x:Operand} {xs:Array Operand} {ats:Array TypeId} {f:FuncId} {a us c ws:List W} {w:W} {b:Bool} {p:Prop}
theorem icq [Decidable p](g:qIq ops fr o=some true)(e:y4q C G fr o.op=some (.bool b))(h:OpW C G m ops l (atq fr o.dst (.bool (decide p))) hp nw R K)(d:b=true↔p:=by first|exact ltI_iff|exact eqI_iff|exact kJq|exact kKq|exact yKq|exact jCq):OpW C G m ops (o::l) fr hp nw R K:=Aqq g e d h
theorem yOq(q:qIq ops fr o=some true)(y:o.op= .call ⟨.value x,xs,ats⟩)(k:evW C G fr x=some (.fn f a c))(r:C.ext f=none)(j:avq C G fr xs.toList=some us)(d:a++us++c=ws)(s:PS C G f ws w)(h:OpW C G m ops l (atq fr o.dst w) hp nw R K)(g:acq ws=true:=by first|rfl|assumption|(simp;done))(t:aaq w=true:=by first|rfl|assumption|(simp;done)):OpW C G m ops (o::l) fr hp nw R K:=bEq q y k r j d s g t h
theorem Dpq{w:W}{d:HpW}{e:Nat}{ev:EvW}(k:qIq ops fr o=some true)(g:aDq C G fr hp nw o.op=some (w,d,e,ev))(h:FlW C G m ops l (i+1) ((i,ev)::es) (atq fr o.dst w) d e R K)(j:dvq ops i ev es=true:=by first|rfl|kernel_rfl):FlW C G m ops (o::l) i es fr hp nw R K:=viq k g j h
theorem Apq(r:PS C G f ws w)(h:OpW C G m ops l (atq fr o.dst w) hp nw R K)(q:qIq ops fr o=some true:=by exact rfl)(s:o.op= .call ⟨.value x,xs,ats⟩:=by exact rfl)(k:evW C G fr x=some (.fn f a c):=by exact rfl)(t:C.ext f=none:=by exact rfl)(j:avq C G fr xs.toList=some us:=by exact rfl)(g:a++us++c=ws:=by exact rfl)(d:acq ws=true:=by first|rfl|assumption|(simp;done))(hw:aaq w=true:=by first|rfl|assumption|(simp;done)):OpW C G m ops (o::l) fr hp nw R K:=bEq q s k t j g r d hw h
theorem oiq(s:PS C G f ws w)(h:FlW C G m ops l (i+1) ((i,.gen)::es) (atq fr o.dst w) hp nw R K)(r:qIq ops fr o=some true:=by exact rfl)(y:o.op= .call ⟨.value x,xs,ats⟩:=by exact rfl)(q:evW C G fr x=some (.fn f a c):=by exact rfl)(A:C.ext f=none:=by exact rfl)(k:avq C G fr xs.toList=some us:=by exact rfl)(j:a++us++c=ws:=by exact rfl)(d:acq ws=true:=by first|rfl|assumption|(simp;done))(z:aaq w=true:=by first|rfl|assumption|(simp;done))(t:dvq ops i .gen es=true:=by first|rfl|kernel_rfl):FlW C G m ops (o::l) i es fr hp nw R K:=tcq r y q A k j s d z t h
theorem bFq(h:OpW C G m ops l (atq fr o.dst w) hp nw R K)(d:qIq ops fr o=some true:=by exact rfl)(e:y4q C G fr o.op=some w:=by first|exact zyq Y Y Y Y Y Y Y (by first|assumption|(simp;done))|exact ypq Y Y Y Y Y Y Y Xd|exact kMq Y Y Y Y Y Y Xd|exact rfl):OpW C G m ops (o::l) fr hp nw R K:=z5q d e h
end
end
inductive Kt where
 |seq (c:Code)
 |blk (i:Nat)
inductive At where
 |co (c:Code)
 |op (ops:Array Oper) (l:List Oper)
 |fl (ops:Array Oper) (l:List Oper) (i:Nat) (es:List (Nat×EvW))
 |ex (x:Exit)
structure Sit where
 at_:At
 ks:List Kt
 fr:FrW
 hp:HpW
 nw:Nat
@[reducible] def QK(C:Cfg)(G:Nat->Option W)(m c:Nat)(a:Bool):List Kt->qHq->qHq
 |[],Q=>Q
 |.seq y::l,Q=>Cvq C G m c a y (QK C G m c a l Q)
 |.blk i::l,Q=>Ywq i (QK C G m c a l Q)
@[reducible] def GoW(C:Cfg)(G:Nat->Option W)(m j:Nat)(h:Bool)(s:Sit)(R:Res)(Q:qHq):Prop:=match s with
 |⟨.co c,ks,g,d,b⟩=>CoW C G m j h c g d b R (QK C G m j h ks Q)
 |⟨.op ops l,ks,g,d,b⟩=>OpW C G m ops l g d b R λg d b R=>QK C G m j h ks Q .normal g d b R
 |⟨.fl ops l i es,ks,g,d,b⟩=>FlW C G m ops l i es g d b R λg d b R=>QK C G m j h ks Q .normal g d b R
 |⟨.ex x,ks,g,d,b⟩=>QK C G m j h ks Q x g d b R
def DMq(C:Cfg)(G:Nat->Option W)(j:List Kt)(h:FrW)(w:HpW)(v:Nat):Code->Option Sit
 |.seq x y=>some ⟨.co x,.seq y::j,h,w,v⟩
 |.block i x=>some ⟨.co x,.blk i::j,h,w,v⟩
 |.skip=>some ⟨.ex .normal,j,h,w,v⟩
 |.label _=>some ⟨.ex .normal,j,h,w,v⟩
 |.exit i=>some ⟨.ex (.exit i),j,h,w,v⟩
 |.goto l=>some ⟨.ex (.goto l),j,h,w,v⟩
 |.ret=>some ⟨.ex .ret,j,h,w,v⟩
 |.region _ u false=>some ⟨.op u u.toList,j,h,w,v⟩
 |.region _ u true=>some ⟨.fl u u.toList 0 [],j,h,w,v⟩
 |.cond c x y=>match evW C G h c with
  |some (.bool true)=>some ⟨.co x,j,h,w,v⟩
  |some (.bool false)=>some ⟨.co y,j,h,w,v⟩
  |_=>none
 |_=>none
def DLq(f:FrW)(d:HpW)(g:Nat):Exit->List Kt->Option Sit
 |.normal,.seq y::l=>some ⟨.co y,l,f,d,g⟩
 |x,.seq _::l=>some ⟨.ex x,l,f,d,g⟩
 |.exit j,.blk i::l=>match Nat.beq j i with
  |true=>some ⟨.ex .normal,l,f,d,g⟩
  |false=>some ⟨.ex (.exit j),l,f,d,g⟩
 |x,.blk _::l=>some ⟨.ex x,l,f,d,g⟩
 |_,[]=>none
def adv(C:Cfg)(G:Nat->Option W)(b:Bool):Sit->Option (Bool×Sit)
 |⟨.co c,ks,fr,hp,nw⟩=>match DMq C G ks fr hp nw c with
  |some s=>some (b,s)
  |none=>none
 |⟨.ex x,ks,fr,hp,nw⟩=>match DLq fr hp nw x ks with
  |some s=>some (b,s)
  |none=>none
 |⟨.op _ [],ks,fr,hp,nw⟩=>some (b,⟨.ex .normal,ks,fr,hp,nw⟩)
 | ⟨.op ops (o::l),ks,fr,hp,nw⟩=>match qIq ops fr o with
  |some true=>match y4q C G fr o.op with
   |some w=>some (b,⟨.op ops l,ks,atq fr o.dst w,hp,nw⟩)
   |none=>match aDq C G fr hp nw o.op with
    |some (w,hp2,nw2,_)=>some (b,⟨.op ops l,ks,atq fr o.dst w,hp2,nw2⟩)
    |none=>none
  |some false=>some (b,⟨.op ops l,ks,atq fr o.dst .undef,hp,nw⟩)
  |none=>none
 |⟨.fl _ [] _ _,ks,fr,hp,nw⟩=>some (b,⟨.ex .normal,ks,fr,hp,nw⟩)
 | ⟨.fl ops (o::l) i es,ks,fr,hp,nw⟩=>match qIq ops fr o with
  |some true=>match y4q C G fr o.op with
   |some w=>some (b,⟨.fl ops l (i+1) es,ks,atq fr o.dst w,hp,nw⟩)
   |none=>match aDq C G fr hp nw o.op with
    |some (w,hp2,nw2,ev)=>some (dvq ops i ev es&&b,⟨.fl ops l (i+1) ((i,ev)::es),ks,atq fr o.dst w,hp2,nw2⟩)
    |none=>none
  |some false=>some (b,⟨.fl ops l (i+1) es,ks,atq fr o.dst .undef,hp,nw⟩)
  |none=>none
def aHq(C:Cfg)(G:Nat->Option W):Nat->Bool->Sit->Option (Bool×Sit)
 |0,b,s=>some (b,s)
 |n+1,b,s=>match adv C G b s with
  |some (b',s')=>aHq C G n b' s'
  |none=>none
section
variable {C:Cfg} {G:Nat->Option W} {m k0:Nat} {rd:Bool} {R:Res} {Q:qHq}
theorem t0q{d:List Kt}{f:FrW}{k:HpW}{j:Nat}{c:Code}{o:Sit}(h:DMq C G d f k j c=some o)(g:GoW C G m k0 rd o R Q):CoW C G m k0 rd c f k j R (QK C G m k0 rd d Q):=by
 unfold DMq at h;split at h
 .cases h;exact p9q g
 .cases h;exact oCq g
 .cases h;exact tzq g
 .cases h;exact oBq g
 .cases h;exact tCq g
 .cases h;exact tAq g
 .cases h;exact BAq g
 .cases h;exact lpq g
 .cases h;exact tBq g
 .split at h
  .rename_i b;cases h;exact loq b g
  .rename_i b;cases h;exact fdq b g
  .cases h
 .cases h
theorem tZq{f:List Kt}{k:FrW}{q:HpW}{o:Nat}{x:Exit}{p:Sit}(h:DLq k q o x f=some p)(g:GoW C G m k0 rd p R Q):QK C G m k0 rd f Q x k q o R:=by
 unfold DLq at h;split at h
 .cases h;exact CSq g
 .rename_i x y l d;cases h;exact zlq (λe=>d e) g
 .rename_i j i l;cases b:Nat.beq j i with
  |true=>
   rw[b] at h;cases h
   obtain rfl:=Zi b;exact CTq g
  |false=>rw[b] at h;cases h;exact zxq b g
 .rename_i x i l d;cases h;exact zFq (λj e=>d j e) g
 .cases h
theorem BZq{b u:Bool}:∀{s j:Sit},adv C G b s=some (u,j) ->(u=true->b=true)/\(u=true->GoW C G m k0 rd j R Q->GoW C G m k0 rd s R Q)
 |⟨.co c,ks,fr,hp,nw⟩,j,h=>by
  simp only[adv] at h;split at h
  .rename_i q;cases h;exact⟨λe=>e,λe g=>t0q q g⟩
  .cases h
 |⟨.ex x,ks,fr,hp,nw⟩,j,h=>by
  simp only[adv] at h;split at h
  .rename_i q;cases h;exact⟨λe=>e,λe g=>tZq q g⟩
  .cases h
 |⟨.op _ [],ks,fr,hp,nw⟩,j,h=>by cases h;exact⟨λe=>e,λe g=>ibq g⟩
 | ⟨.op ops (o::l),ks,fr,hp,nw⟩,j,h=>by
  simp only[adv] at h;split at h
  .rename_i d;split at h
   .rename_i w k;cases h;exact⟨λe=>e,λe g=>z5q d k g⟩
   .split at h
    .rename_i k;cases h;exact⟨λe=>e,λe g=>kjq d k g⟩
    .cases h
  .rename_i d;cases h;exact⟨λe=>e,λe g=>sBq d g⟩
  .cases h
 |⟨.fl _ [] _ _,ks,fr,hp,nw⟩,j,h=>by cases h;exact⟨λe=>e,λe g=>Bgq g⟩
 | ⟨.fl ops (o::l) i es,ks,fr,hp,nw⟩,j,h=>by
  simp only[adv] at h;split at h
  .rename_i d;split at h
   .rename_i w k;cases h;exact⟨λe=>e,λe g=>jLq d k g⟩
   .split at h
    .rename_i k;cases h;exact⟨λe=>(Bool.and_eq_true_iff.1 e).2,λe g=>viq d k (Bool.and_eq_true_iff.1 e).1 g⟩
    .cases h
  .rename_i d;cases h;exact⟨λe=>e,λe g=>tbq d g⟩
  .cases h
theorem x9q:∀(n:Nat) {b d:Bool} {s f:Sit},aHq C G n b s=some (d,f) ->(d=true->b=true)/\(d=true->GoW C G m k0 rd f R Q->GoW C G m k0 rd s R Q)
 |0,_,_,_,_,h=>by cases h;exact⟨λe=>e,λ_ g=>g⟩
 |n+1,b,d,s,f,h=>by
  simp only[aHq] at h;split at h
  .rename_i t q p;obtain⟨k,l⟩:=BZq (m:=m) (k0:=k0) (rd:=rd) (R:=R) (Q:=Q) p;obtain⟨j,o⟩:=x9q n h;exact⟨λe=>k (j e),λe g=>l (j e) (o e g)⟩
  .cases h
variable {b:Bool} {s:Sit} {c:Code} {ops:Array Oper} {l:List Oper} {i:Nat} {es:List (Nat×EvW)} {x:Exit} {ks:List Kt} {fr:FrW} {hp:HpW} {nw:Nat}
theorem zCq(n:Nat)(h:aHq C G n true ⟨.co c,[],fr,hp,nw⟩=some (b,s))(g:GoW C G m k0 rd s R Q)(a:b=true:=by first|rfl|kernel_rfl):CoW C G m k0 rd c fr hp nw R Q:=(x9q n h).2 a g
theorem zHq(n:Nat)(h:aHq C G n true ⟨.co c,ks,fr,hp,nw⟩=some (b,s))(g:GoW C G m k0 rd s R Q)(a:b=true:=by first|rfl|kernel_rfl):CoW C G m k0 rd c fr hp nw R (QK C G m k0 rd ks Q):=(x9q n h).2 a g
theorem r2q(n:Nat)(h:aHq C G n true ⟨.op ops l,[],fr,hp,nw⟩=some (b,s))(g:GoW C G m 0 false s R Q)(d:b=true:=by first|rfl|kernel_rfl):OpW C G m ops l fr hp nw R λfr hp nw R=>Q .normal fr hp nw R:=(x9q n h).2 d g
theorem zeq(n:Nat)(h:aHq C G n true ⟨.op ops l,ks,fr,hp,nw⟩=some (b,s))(g:GoW C G m k0 rd s R Q)(d:b=true:=by first|rfl|kernel_rfl):OpW C G m ops l fr hp nw R λfr hp nw R=>QK C G m k0 rd ks Q .normal fr hp nw R:=(x9q n h).2 d g
theorem w3q(n:Nat)(h:aHq C G n true ⟨.fl ops l i es,[],fr,hp,nw⟩=some (b,s))(g:GoW C G m 0 false s R Q)(d:b=true:=by first|rfl|kernel_rfl):FlW C G m ops l i es fr hp nw R λfr hp nw R=>Q .normal fr hp nw R:=(x9q n h).2 d g
theorem zWq(n:Nat)(h:aHq C G n true ⟨.fl ops l i es,ks,fr,hp,nw⟩=some (b,s))(g:GoW C G m k0 rd s R Q)(d:b=true:=by first|rfl|kernel_rfl):FlW C G m ops l i es fr hp nw R λfr hp nw R=>QK C G m k0 rd ks Q .normal fr hp nw R:=(x9q n h).2 d g
theorem zRq(n:Nat)(h:aHq C G n true ⟨.ex x,ks,fr,hp,nw⟩=some (b,s))(g:GoW C G m k0 rd s R Q)(a:b=true:=by first|rfl|kernel_rfl):QK C G m k0 rd ks Q x fr hp nw R:=(x9q n h).2 a g
end
def bmq:Sit->Option (Oper×FrW×HpW×Nat×(W->Sit)×(W->HpW->Nat->EvW->Sit)×(EvW->Bool))
 |⟨.op ops (o::l),ks,fr,hp,nw⟩=>match qIq ops fr o with
  |some true=>some (o,fr,hp,nw,λw=>⟨.op ops l,ks,atq fr o.dst w,hp,nw⟩,λw a b _=>⟨.op ops l,ks,atq fr o.dst w,a,b⟩,λ_=>true)
  |_=>none
 |⟨.fl ops (o::l) i es,ks,fr,hp,nw⟩=>match qIq ops fr o with
  |some true=>some (o,fr,hp,nw,λw=>⟨.fl ops l (i+1) es,ks,atq fr o.dst w,hp,nw⟩,λw a b ev=>⟨.fl ops l (i+1) ((i,ev)::es),ks,atq fr o.dst w,a,b⟩,λev=>dvq ops i ev es)
  |_=>none
 |_=>none
def goP(C:Cfg)(G:Nat->Option W)(n:Nat)(s:Sit):Option (Bool×Op×FrW×(W->Sit)):=match aHq C G n true s with
 |some (b,s')=>match bmq s' with
  |some (o,fr,_,_,k,_)=>some (b,o.op,fr,k)
  |none=>none
 |none=>none
def goV(C:Cfg)(G:Nat->Option W)(n:Nat)(s:Sit):Option (Bool×W×(W->Sit)):=match aHq C G n true s with
 |some (b,s')=>match bmq s' with
  |some (o,fr,_,_,k,_)=>match y4q C G fr o.op with
   |some w=>some (b,w,k)
   |none=>none
  |none=>none
 |none=>none
def goM(C:Cfg)(G:Nat->Option W)(n:Nat)(s:Sit):Option (Bool×Op×FrW×HpW×Nat×(W->HpW->Nat->EvW->Sit)×(EvW->Bool)):=match aHq C G n true s with
 |some (b,s')=>match bmq s' with
  |some (o,fr,hp,nw,_,k,q)=>some (b,o.op,fr,hp,nw,k,q)
  |none=>none
 |none=>none
def goC(C:Cfg)(G:Nat->Option W)(n:Nat)(s:Sit):Option (Bool×FuncId×List W×(W->Sit)):=match aHq C G n true s with
 |some (b,s')=>match bmq s' with
  |some (o,fr,hp,nw,_,k,q)=>match o.op with
   |.call ⟨.value x,xs,_⟩=>match evW C G fr x,avq C G fr xs.toList with
    |some (.fn f a c),some us=>match C.ext f with
     |none=>some (b&&q .gen,f,a++us++c,λw=>k w hp nw .gen)
     |some _=>none
    |_,_=>none
   |_=>none
  |none=>none
 |none=>none
def goK(C:Cfg)(G:Nat->Option W)(n:Nat)(s:Sit):Option (Bool×Bool×Sit×Sit):=match aHq C G n true s with
 |some (b,⟨.co (.cond c x y),ks,fr,hp,nw⟩)=>match evW C G fr c with
  |some (.bool v)=>some (b,v,⟨.co x,ks,fr,hp,nw⟩,⟨.co y,ks,fr,hp,nw⟩)
  |_=>none
 |_=>none
def goB(C:Cfg)(G:Nat->Option W)(n:Nat)(s:Sit):Option (Bool×Bool×Sit×Sit):=match aHq C G n true s with
 |some (b,⟨.op ops l,ks,(d,.bool v)::fr,hp,nw⟩)=>some (b,v,⟨.op ops l,ks,(d,.bool true)::fr,hp,nw⟩,⟨.op ops l,ks,(d,.bool false)::fr,hp,nw⟩)
 |some (b,⟨.fl ops l i es,ks,(d,.bool v)::fr,hp,nw⟩)=>some (b,v,⟨.fl ops l i es,ks,(d,.bool true)::fr,hp,nw⟩,⟨.fl ops l i es,ks,(d,.bool false)::fr,hp,nw⟩)
 |_=>none
def pLq:Exit->Bool
 |.normal=>true
 |.ret=>true
 |_=>false
def Cqq(C:Cfg)(G:Nat->Option W)(n:Nat)(s:Sit)(a:List ResultVar):Option (Bool×W×HpW):=match aHq C G n true s with
 |some (b,⟨.ex x,[],fr,hp,nw⟩)=>match pLq x with
  |true=>match c7q C fr hp a with
   |some w=>some (b,w,hp)
   |none=>none
  |false=>none
 |_=>none
def goI(C:Cfg)(G:Nat->Option W)(n:Nat)(f:FuncId)(d:List W)(e:HpW)(m:Nat):Option (Bool×Sit×List ResultVar):=match C.known f with
 |none=>match C.fn f with
  |some a=>match a.body,Nat.ble d.length a.ntmps with
   |some c,true=>match aHq C G n true ⟨.co c,[],ZDq 0 d,e,m⟩ with
    |some (b,s)=>some (b,s,a.results.toList)
    |none=>none
   |_,_=>none
  |none=>none
 |some _=>none
section
variable {C:Cfg} {G:Nat->Option W} {m k0 n:Nat} {rd:Bool} {R:Res} {Q:qHq} {s s':Sit} {b:Bool} {o:Op} {fr:FrW} {hp:HpW} {nw:Nat} {k:W->Sit} {kk:W->HpW->Nat->EvW->Sit} {q:EvW->Bool} {w w':W} {p:Prop}
theorem zbq(n:Nat)(h:aHq C G n true s=some (b,s'))(g:GoW C G m k0 rd s' R Q)(a:b=true:=by first|rfl|kernel_rfl):GoW C G m k0 rd s R Q:=(x9q n h).2 a g
theorem rRq{f:Oper}(h:bmq s=some (f,fr,hp,nw,k,kk,q))(e:y4q C G fr f.op=some w)(g:GoW C G m k0 rd (k w) R Q):GoW C G m k0 rd s R Q:=by
 unfold bmq at h;split at h
 .split at h
  .rename_i d;cases h;exact z5q d e g
  .cases h
 .split at h
  .rename_i d;cases h;exact jLq d e g
  .cases h
 .cases h
theorem g8q{I:Oper}(h:bmq s=some (I,fr,hp,nw,k,kk,q))(g:aeq C G I fr hp nw R λw d u R' ev=>match ev with
  |none=>GoW C G m k0 rd (k w) R' Q/\d=hp/\u=nw
  |some e=>q e=true/\GoW C G m k0 rd (kk w d u e) R' Q):GoW C G m k0 rd s R Q:=by
 unfold bmq at h;split at h
 .split at h
  .rename_i H;cases h
   refine zhq H λB X j z A y=>?_
   obtain⟨n,w,d,R',ev,v,D,Γ',X',f,E⟩:=g B X j z A y;refine⟨n,w,d,R',ev,v,D,Γ',X',?_,E⟩;cases ev with
   |none=>obtain⟨f,F,x⟩:=f;subst F;rw[x];exact f
   |some e=>exact f.2
  .cases h
 .split at h
  .rename_i H;cases h
   refine yeq H λB X j z A y=>?_
   obtain⟨n,w,d,R',ev,v,D,Γ',X',f,E⟩:=g B X j z A y;refine⟨n,w,d,R',ev,v,D,Γ',X',?_,E⟩;cases ev with
   |none=>obtain⟨f,F,x⟩:=f;subst F;rw[x];exact f
   |some e=>exact f
  .cases h
 .cases h
def Ecq(C:Cfg)(G:Nat->Option W)(n:Nat)(s:Sit):Option (Bool×Oper×FrW×HpW×Nat×(W->HpW->Nat->Sit)):=match aHq C G n true s with
 |some (b,⟨.op ops (o::l),ks,fr,hp,nw⟩)=>match qIq ops fr o with
  |some true=>some (b,o,fr,hp,nw,λw a c=>⟨.op ops l,ks,atq fr o.dst w,a,c⟩)
  |_=>none
 |_=>none
theorem gSo{j:Oper}{kk:W->HpW->Nat->Sit}(n:Nat)(h:Ecq C G n s=some (b,j,fr,hp,nw,kk))(g:aeq C G j fr hp nw R λw d f R' _=>GoW C G m k0 rd (kk w d f) R' Q)(l:b=true:=by first|rfl|kernel_rfl):GoW C G m k0 rd s R Q:=by
 unfold Ecq at h;split at h
 .rename_i t;split at h
  .rename_i u;cases h;exact zbq n t (zhq u g) l
  .cases h
 .cases h
def Edq(C:Cfg)(G:Nat->Option W)(n:Nat)(s:Sit):Option (Bool×Oper×FrW×HpW×Nat×(W->HpW->Nat->Sit)×(W->HpW->Nat->EvW->Sit)×(EvW->Bool)):=match aHq C G n true s with
 |some (b,⟨.fl ops (o::l) i es,ks,fr,hp,nw⟩)=>match qIq ops fr o with
  |some true=>some (b,o,fr,hp,nw,λw a c=>⟨.fl ops l (i+1) es,ks,atq fr o.dst w,a,c⟩,λw a c ev=>⟨.fl ops l (i+1) ((i,ev)::es),ks,atq fr o.dst w,a,c⟩,λev=>dvq ops i ev es)
  |_=>none
 |_=>none
theorem gSf{j:Oper}{l:W->HpW->Nat->Sit}(n:Nat)(h:Edq C G n s=some (b,j,fr,hp,nw,l,kk,q))(g:aeq C G j fr hp nw R λw d f R' ev=>match ev with
  |none=>GoW C G m k0 rd (l w d f) R' Q
  |some e=>q e=true/\GoW C G m k0 rd (kk w d f e) R' Q) (t:b=true:=by first|rfl|kernel_rfl):GoW C G m k0 rd s R Q:=by
 unfold Edq at h;split at h
 .rename_i u;split at h
  .rename_i v;cases h;exact zbq n u (yeq v g) t
  .cases h
 .cases h
theorem gP(n:Nat)(h:goP C G n s=some (b,o,fr,k))(e:y4q C G fr o=some w)(g:GoW C G m k0 rd (k w) R Q)(d:b=true:=by first|rfl|kernel_rfl):GoW C G m k0 rd s R Q:=by
 unfold goP at h;split at h
 .rename_i j;split at h
  .rename_i f;cases h;exact zbq n j (rRq f e g) d
  .cases h
 .cases h
theorem Dlq(h:goV C G n s=some (b,w,k)):∃o fr,goP C G n s=some (b,o,fr,k)/\y4q C G fr o=some w:=by
 unfold goV at h;unfold goP;split at h
 .split at h
  .rename_i f;split at h
   .rename_i d;cases h;exact⟨_,_,rfl,d⟩
   .cases h
  .cases h
 .cases h
theorem gV(n:Nat)(h:goV C G n s=some (b,w,k))(e:w=w')(g:GoW C G m k0 rd (k w') R Q)(a:b=true:=by first|rfl|kernel_rfl):GoW C G m k0 rd s R Q:=by
 subst e;obtain⟨o,fr,c,d⟩:=Dlq h;exact gP n c d g a
theorem gM{d:HpW}{f:Nat}{ev:EvW}(n:Nat)(h:goM C G n s=some (b,o,fr,hp,nw,kk,q))(e:aDq C G fr hp nw o=some (w,d,f,ev))(g:GoW C G m k0 rd (kk w d f ev) R Q)(j:(b&&q ev)=true:=by first|rfl|kernel_rfl):GoW C G m k0 rd s R Q:=by
 unfold goM at h;split at h
 .rename_i l;split at h
  .rename_i t;cases h
   rw[Zd] at j;exact zbq n l (g8q t (jTq e ⟨j.2,g⟩)) j.1
  .cases h
 .cases h
theorem A6q{f:FuncId}{l:List W}(h:goC C G n s=some (b,f,l,k)){P:W->Prop}(x:zUq C G f 0 l [] λw _ _=>aaq w=true/\P w)(hp:acq l=true)(g:∀w,aaq w=true->P w->GoW C G m k0 rd (k w) R Q)(d:b=true):GoW C G m k0 rd s R Q:=by
 unfold goC at h;split at h
 .rename_i y;split at h
  .rename_i z;split at h
   .rename_i A;split at h
    .rename_i u j;split at h
     .rename_i v;cases h;rw[Zd] at d;refine zbq n y (g8q z (ZQq A u v j x hp λw _ _ t=>⟨t.1,d.2,g w t.1 t.2⟩)) d.1
     .cases h
    .cases h
   .cases h
  .cases h
 .cases h
theorem gC{f:FuncId}{a:List W}(n:Nat)(h:goC C G n s=some (b,f,a,k))(d:PS C G f a w)(g:GoW C G m k0 rd (k w) R Q)(hp:acq a=true:=by first|rfl|assumption|(simp;done))(i:aaq w=true:=by first|rfl|assumption|(simp;done))(c:b=true:=by first|rfl|kernel_rfl):GoW C G m k0 rd s R Q:=
 A6q (P:=λw'=>w'=w) h (yRq d λw' _ _ e=>⟨e▸i,e⟩) hp (λw' _ e=>e▸g) c
theorem gE{f:FuncId}{a:List W}{A:W->Prop}(n:Nat)(h:goC C G n s=some (b,f,a,k))(d:PE C G f a A)(g:∀w,aaq w=true->A w->GoW C G m k0 rd (k w) R Q)(hp:acq a=true:=by first|rfl|assumption|(simp;done))(c:b=true:=by first|rfl|kernel_rfl):GoW C G m k0 rd s R Q:=A6q h d hp g c
theorem gT{v:Bool}(n:Nat)(h:goV C G n s=some (b,.bool v,k))(e:v=true)(g:GoW C G m k0 rd (k (.bool true)) R Q)(a:b=true:=by first|rfl|kernel_rfl):GoW C G m k0 rd s R Q:=gV n h (Zc W.bool e) g a
theorem gF{v:Bool}(n:Nat)(h:goV C G n s=some (b,.bool v,k))(e:v=false)(g:GoW C G m k0 rd (k (.bool false)) R Q)(a:b=true:=by first|rfl|kernel_rfl):GoW C G m k0 rd s R Q:=gV n h (Zc W.bool e) g a
theorem gTa{v:Bool}(n:Nat)(h:goV C G n s=some (b,.bool v,k))(g:GoW C G m k0 rd (k (.bool true)) R Q)(e:v=true:=by first|rfl|exact eqI_iff.2 rfl|(simp;done)|decide|(simp[ltI_iff,eqI_iff];done))(a:b=true:=by first|rfl|kernel_rfl):GoW C G m k0 rd s R Q:=gV n h (Zc W.bool e) g a
theorem gFa{v:Bool}(n:Nat)(h:goV C G n s=some (b,.bool v,k))(g:GoW C G m k0 rd (k (.bool false)) R Q)(e:v=false:=by first|rfl|exact eqI_iff.2 rfl|(simp;done)|decide|(simp[ltI_iff,eqI_iff];done))(a:b=true:=by first|rfl|kernel_rfl):GoW C G m k0 rd s R Q:=gV n h (Zc W.bool e) g a
theorem gD{v:Bool}(n:Nat)(h:goV C G n s=some (b,.bool v,k))(c:p->GoW C G m k0 rd (k (.bool true)) R Q)(d:¬p->GoW C G m k0 rd (k (.bool false)) R Q)(hp:v=true↔p:=by first|exact ltI_iff|exact eqI_iff|exact kJq|exact kKq|exact yKq|exact jCq)(a:b=true:=by first|rfl|kernel_rfl):GoW C G m k0 rd s R Q:=by
 cases v with
 |true=>exact gV n h rfl (c (hp.1 rfl)) a
 |false=>exact gV n h rfl (d λq=>by have:=hp.2 q;cases this) a
theorem gU [Decidable p]{v:Bool}(n:Nat)(h:goV C G n s=some (b,.bool v,k))(g:GoW C G m k0 rd (k (.bool (decide p))) R Q)(hp:v=true↔p:=by first|exact ltI_iff|exact eqI_iff|exact kJq|exact kKq|exact yKq|exact jCq)(a:b=true:=by first|rfl|kernel_rfl):GoW C G m k0 rd s R Q:=by
 refine gV n h (Zc W.bool ?_) g a;cases v with
 |true=>exact(Zq (hp.1 rfl)).symm
 |false=>exact(Zw λq=>by have:=hp.2 q;cases this).symm
theorem gDe{v:Bool}(n:Nat)(h:goP C G n s=some (b,o,fr,k))(e:y4q C G fr o=some (.bool v))(hp:v=true↔p)(d:p->GoW C G m k0 rd (k (.bool true)) R Q)(c:¬p->GoW C G m k0 rd (k (.bool false)) R Q)(a:b=true:=by first|rfl|kernel_rfl):GoW C G m k0 rd s R Q:=by
 cases v with
 |true=>exact gP n h e (d (hp.1 rfl)) a
 |false=>exact gP n h e (c λq=>by have:=hp.2 q;cases this) a
theorem gUe [Decidable p]{v:Bool}(n:Nat)(h:goP C G n s=some (b,o,fr,k))(e:y4q C G fr o=some (.bool v))(hp:v=true↔p)(g:GoW C G m k0 rd (k (.bool (decide p))) R Q)(a:b=true:=by first|rfl|kernel_rfl):GoW C G m k0 rd s R Q:=by
 refine gP n h (e.trans (Zc (λq=>some (W.bool q)) ?_)) g a;cases v with
 |true=>exact(Zq (hp.1 rfl)).symm
 |false=>exact(Zw λq=>by have:=hp.2 q;cases this).symm
theorem A7q{v:Bool}{x y:Sit}(h:goB C G n s=some (b,v,x,y))(f:b=true)(g:GoW C G m k0 rd (match v with|true=>x|false=>y) R Q):GoW C G m k0 rd s R Q:=by
 unfold goB at h;split at h
 .rename_i d;cases h;cases v<;>exact zbq n d g f
 .rename_i d;cases h;cases v<;>exact zbq n d g f
 .cases h
theorem gB{v:Bool}{x y:Sit}(n:Nat)(h:goB C G n s=some (b,v,x,y))(d:p->GoW C G m k0 rd x R Q)(c:¬p->GoW C G m k0 rd y R Q)(hp:v=true↔p:=by first|exact ltI_iff|exact eqI_iff|exact kJq|exact kKq|exact yKq|exact jCq)(a:b=true:=by first|rfl|kernel_rfl):GoW C G m k0 rd s R Q:=by
 cases v with
 |true=>exact A7q h a (d (hp.1 rfl))
 |false=>exact A7q h a (c λq=>by have:=hp.2 q;cases this)
theorem A5q{v:Bool}{x y:Sit}(h:goK C G n s=some (b,v,x,y))(f:b=true)(g:GoW C G m k0 rd (match v with|true=>x|false=>y) R Q):GoW C G m k0 rd s R Q:=by
 unfold goK at h;split at h
 .rename_i j;split at h
  .rename_i d;cases h
   refine zbq n j ?_ f;cases v with
   |true=>exact loq d g
   |false=>exact fdq d g
  .cases h
 .cases h
theorem gS{v:Bool}{x y:Sit}(n:Nat)(h:goK C G n s=some (b,v,x,y))(d:p->GoW C G m k0 rd x R Q)(c:¬p->GoW C G m k0 rd y R Q)(hp:v=true↔p:=by first|exact ltI_iff|exact eqI_iff|exact kJq|exact kKq|exact yKq|exact jCq)(a:b=true:=by first|rfl|kernel_rfl):GoW C G m k0 rd s R Q:=by
 cases v with
 |true=>exact A5q h a (d (hp.1 rfl))
 |false=>exact A5q h a (c λq=>by have:=hp.2 q;cases this)
theorem natE{i:IntKind}{l:Nat}:W.int i (.ofNat l)=W.int i (l:Int):=rfl
theorem gL(n:Nat)(h:goV C G n s=some (b,w,k))(g:GoW C G m k0 rd (k w') R Q)(e:w=w':=by first|exact natE|exact rfl)(a:b=true:=by first|rfl|kernel_rfl):GoW C G m k0 rd s R Q:=gV n h e g a
theorem gZ{l z:Nat}{i:IntKind}(n:Nat)(h:goV C G n s=some (b,.int i (.ofNat l),k))(e:l=z)(g:GoW C G m k0 rd (k (.int i (z:Int))) R Q)(c:b=true:=by first|rfl|kernel_rfl):GoW C G m k0 rd s R Q:=gV n h (by rw[e];rfl) g c
theorem Cxq{i:IntKind}{z:Int}(h:inK i z):W.int i (xBq i z)=W.int i z:=Zc (W.int i) (YCq h)
theorem gWr(n:Nat)(h:goV C G n s=some (b,w,k))(g:GoW C G m k0 rd (k w') R Q)(e:w=w':=by first|exact Cxq ⟨by omega,by omega⟩|exact rfl)(a:b=true:=by first|rfl|kernel_rfl):GoW C G m k0 rd s R Q:=gV n h e g a
theorem gA{z:Int}{i:IntKind}(n:Nat)(h:goV C G n s=some (b,.int i (xBq i z),k))(t:Nat)(g:GoW C G m k0 rd (k (.int i (t:Int))) R Q)(e:z=(t:Int):=by first|rfl|omega)(c:inK i (t:Int):=by exact⟨by omega,by omega⟩)(a:b=true:=by first|rfl|kernel_rfl):GoW C G m k0 rd s R Q:=gV n h (by rw[e,YCq c]) g a
theorem gX(n:Nat)(h:goP C G n s=some (b,o,fr,k))(g:GoW C G m k0 rd (k w) R Q)(e:y4q C G fr o=some w:=by first|exact zyq Y Y Y Y Y Y Y (by first|assumption|(simp;done))|exact ypq Y Y Y Y Y Y Y Xd|exact kMq Y Y Y Y Y Y Xd|exact rfl)(a:b=true:=by first|rfl|kernel_rfl):GoW C G m k0 rd s R Q:=gP n h e g a
theorem pTq{f:List ResultVar}{hp:HpW}{K:W->HpW->Nat->Res->Prop}(h:Cqq C G n s f=some (b,w,hp))(j:b=true)(g:∀nw,K w hp nw R):GoW C G m k0 rd s R (aTq C G m k0 f K):=by
 unfold Cqq at h;split at h
 .rename_i u;split at h
  .rename_i d;split at h
   .rename_i v;cases h
    refine zbq n u (fin ?_ Ent.refl v (g _)) j;unfold pLq at d;split at d
    .exact .inl rfl
    .exact .inr rfl
    .cases d
   .cases h
  .cases h
 .cases h
theorem gQ{a:List ResultVar}{hp:HpW}(n:Nat)(h:Cqq C G n s a=some (b,w,hp))(e:w=w')(c:b=true:=by first|rfl|kernel_rfl):GoW C G m k0 rd s R (aTq C G m k0 a λv _ _ R'=>R'=R/\v=w'):=pTq h c λ_=>⟨rfl,e⟩
theorem gQa{a:List ResultVar}{hp:HpW}(n:Nat)(h:Cqq C G n s a=some (b,w,hp))(e:w=w':=by first|rfl|(simp;done))(c:b=true:=by first|rfl|kernel_rfl):GoW C G m k0 rd s R (aTq C G m k0 a λv _ _ R'=>R'=R/\v=w'):=pTq h c λ_=>⟨rfl,e⟩
theorem n8q{f:FuncId}{l:List W}{t:List ResultVar}{K:W->HpW->Nat->Res->Prop}(h:goI C G n f l hp m=some (b,s,t))(u:b=true)(g:∀k0,GoW C G m k0 false s R (aTq C G m k0 t K)):ajq C G f m l hp R K:=by
 unfold goI at h;split at h
 .rename_i y;split at h
  .rename_i v;split at h
   .rename_i j d;split at h
    .rename_i x;cases h
     exact ZSq y v j (Yb d) λk0=>zCq n x (g k0) u
    .cases h
   .cases h
  .cases h
 .cases h
theorem gIs{f:FuncId}{a:List W}{c:List ResultVar}{K:W->HpW->Nat->Res->Prop}(n:Nat)(h:goI C G n f a hp m=some (b,s,c))(g:∀k0,GoW C G m k0 false s R (aTq C G m k0 c K))(d:b=true:=by first|rfl|kernel_rfl):ajq C G f m a hp R K:=n8q h d g
theorem gIv{f:FuncId}{c:List W}{d:List ResultVar}(n:Nat)(h:goI C G n f c [] 0=some (b,s,d))(g:∀R k0,GoW C G 0 k0 false s R (aTq C G 0 k0 d λw' a _ R'=>R'=R/\View (amq a) w' w))(e:b=true:=by first|rfl|kernel_rfl):PS C G f c w:=λR=>ukq (n8q h e (g R))
theorem gIe{f:FuncId}{c:List W}{d:List ResultVar}{A:W->Prop}(n:Nat)(h:goI C G n f c [] 0=some (b,s,d))(g:∀R k0,GoW C G 0 k0 false s R (aTq C G 0 k0 d λw' a _ R'=>R'=R/\∃w,View (amq a) w' w/\(aaq w=true/\A w)))(e:b=true:=by first|rfl|kernel_rfl):PE C G f c A:=λR=>JCq (n8q h e (g R))
theorem gI{f:FuncId}{a:List W}{c:List ResultVar}(n:Nat)(h:goI C G n f a [] 0=some (b,s,c))(g:∀R k0,GoW C G 0 k0 false s R (aTq C G 0 k0 c λw' _ _ R'=>R'=R/\w'=w))(d:b=true:=by first|rfl|kernel_rfl):PS C G f a w:=λR=>n8q h d (g R)
end
def nmq(a:FrW):List Nat->Option FrW
 |[]=>some []
 |t::l=>match aqq a t,nmq a l with
  |some w,some r=>some ((t,w)::r)
  |_,_=>none
theorem esq{d:FrW}:∀{l:List Nat} {b:FrW},nmq d l=some b->arq d b
 |[],_,h=>by cases h;trivial
 |t::l,_,h=>by
  simp only[nmq] at h;split at h
  .rename_i g f;cases h;exact⟨g,esq f⟩
  .cases h
def goL(C:Cfg)(G:Nat->Option W)(n:Nat)(s:Sit)(l:List Nat):Option (Bool×Code×List Kt×FrW×FrW×HpW×Nat):=match aHq C G n true s with
 |some (b,⟨.co (.loop c),ks,fr,hp,nw⟩)=>match nmq fr l with
  |some a=>some (b,c,ks,fr,a,hp,nw)
  |none=>none
 |_=>none
def goY(C:Cfg)(G:Nat->Option W)(n:Nat)(s:Sit):Option (Bool×Exit×FrW×HpW×Nat):=match aHq C G n true s with
 |some (b,⟨.ex x,[],fr,hp,nw⟩)=>some (b,x,fr,hp,nw)
 |_=>none
section
variable {C:Cfg} {G:Nat->Option W} {m k0 n:Nat} {rd rd':Bool} {R:Res} {Q:qHq} {s:Sit} {b:Bool} {c:Code} {ks:List Kt} {fr kf:FrW} {hp hp':HpW} {nw nw':Nat} {α:Type} {x:Exit}
theorem Dmq{l:List Nat}(h:goL C G n s l=some (b,c,ks,fr,kf,hp,nw))(d:b=true)(g:arq fr kf->CoW C G m k0 rd (.loop c) fr hp nw R (QK C G m k0 rd ks Q)):GoW C G m k0 rd s R Q:=by
 unfold goL at h;split at h
 .rename_i j;split at h
  .rename_i f;cases h;exact zbq n j (g (esq f)) d
  .cases h
 .cases h
theorem A4q(h:goY C G n s=some (b,x,fr,hp,nw))(d:b=true)(g:Q x fr hp nw R):GoW C G m k0 rd s R Q:=by
 unfold goY at h;split at h
 .rename_i f;cases h;exact zbq n f g d
 .cases h
theorem gLo(n:Nat)(I:α->Prop)(V:α->FrW)(l:List Nat)(e:α->Nat)(f:α)(h:goL C G n s l=some (b,c,ks,fr,kf,hp,nw))(j:I f)(d:∀a,I a->GoW C G m k0 rd ⟨.co c,[],V a++kf,hp,nw⟩ R (QRk I V kf hp nw (λ_=>R) e (e a) (QK C G m k0 rd ks Q)))(k:arq fr (V f):=by repeat (first|exact trivial|refine⟨rfl,?_⟩))(g:b=true:=by first|rfl|kernel_rfl):GoW C G m k0 rd s R Q:=
 Dmq h g λi=>oAq I V kf e f i j k d
theorem gAg{I:α->Prop}{V:α->FrW}{RR:α->Res}{e:α->Nat}{k:Nat}(n:Nat)(h:goY C G n s=some (b,.normal,fr,hp',nw'))(a:α)(u:I a)(d:e a<k)(q:arq fr (V a):=by repeat (first|exact trivial|refine⟨rfl,?_⟩))(i:arq fr kf:=by repeat (first|exact trivial|refine⟨rfl,?_⟩))(t:aPq nw (V a):=by repeat (first|exact trivial|refine⟨by first|rfl|exact zaq (by first|rfl|(simp;done)),?_⟩))(g:nw<=nw':=by omega)(j:YBq hp' hp nw:=by repeat (first|exact kvq|refine kyq Xd ?_|refine kwq Xd ?_|refine kxq Xd ?_))(p:R=RR a:=by exact rfl)(f:b=true:=by first|rfl|kernel_rfl):GoW C G m k0 rd s R (QRk I V kf hp nw RR e k Q):=
 A4q h f (m6q a u d q i t g j p)
theorem gO{I:α->Prop}{V:α->FrW}{RR:α->Res}{f:α->Nat}{k:Nat}(n:Nat)(h:goY C G n s=some (b,x,fr,hp',nw'))(g:GoW C G m k0 rd ⟨.ex x,ks,fr,hp',nw'⟩ R Q)(i:x≠ .normal:=by intro h;cases h)(d:b=true:=by first|rfl|kernel_rfl):GoW C G m k0 rd' s R (QRk I V kf hp nw RR f k (QK C G m k0 rd ks Q)):=
 A4q h d (zuq i g)
end
end
section
open Go.RowKit Go.Lib
theorem jiq{P:Program}(w:World)(B E F g:TypeId)(b o d q:Nat)(a:Addr)(f t k:Nat)(h:List Value)
  (D:P.underlying B=some (.slice g)) (C:(P.info? g).map (·.size)=some k) (K:h.length=Nat.min f d*k)
  (x:∀j v,h[j]? =some v->w.cell? (a.add j)=some v) (H:∀j,j<h.length->(w.cell? ⟨b,o+j,none⟩).isSome=true) (hf:∀j,j<h.length->w.frozen? ⟨b,o+j,none⟩=false) (I:∀v∈h,v.oneCell'=true):
  (Builtin.copy_ #[B,E] F #[.slice (some ⟨b,o,none⟩) d q,.slice (some a) f t]).run P w= .ok (goInt (Nat.min f d)) (w.setCells b o h):=by
 have G:=run_loadCells_list (P:=P) w a h x;have y:=run_storeCells_cells (P:=P) b o h 0 w (by simpa using H) Jf I;cases A:P.info? g with
 |none=>simp[A] at C
 |some i=>
  have J:i.size=k:=by simpa[A] using C
  simp[Builtin.copy_,Zz D,Builtin.lenOf,Builtin.firstCells,sizeOf,typeInfo,A,J,<-K,G,y]
theorem a1q{P:Program}(w:World){o:Oper}{a:Act}{K:Act->World->Prop}{Q:Exit->Act->World->Prop}(d s:Operand)(t g:TypeId)
  (q:o.op= .call {callee:=.builtin .copy,args:= #[d,s],argTypes:= #[t,g]}) (v u:Value) (j:a.eval d=v) (x:a.eval s=u) {f:Value} {e:World}
  (m:(Builtin.copy_ #[t,g] o.type #[v,u]).run P w= .ok f e) (h:K (a.put o.dst f) e):o.wp P a w K Q:=by
 unfold Oper.wp execOp;simp only[q,resolve,invoke,builtin,ZN,YD,ZE,List.map_toArray,ZD,List.map_nil,j,x,m];exact h
theorem qiq{P:Program}(w:World){f:Array Oper}{e:List Oper}{o:Oper}{a:Act}{Q:Exit->Act->World->Prop}(g:o.guard=none)(d s:Operand)(t j:TypeId)
  (A:o.op= .call {callee:=.builtin .copy,args:= #[d,s],argTypes:= #[t,j]}) (v u:Value) (x:a.eval d=v) (B:a.eval s=u) {q:Value} {m:World}
  (z:(Builtin.copy_ #[t,j] o.type #[v,u]).run P w= .ok q m) (h:wpList P f Q e (a.put o.dst q) m):wpList P f Q (o::e) a w:=
 wpList_plain g λ_ C=>a1q w d s t j A v u x B z (C _ _ h)
theorem jUq{P:Program}{b:Array Oper}{o:Oper}{a:Act}{w:World}{K:Act->World->Prop}{Q:Exit->Act->World->Prop}{E:Prop}
  (m:o.guard=none) (d x:Operand) (g f:TypeId) (c:o.op=Op.call {callee:=Callee.builtin Builtin.copy,args:= #[d,x],argTypes:= #[g,f]})
  (v u:Value) (i:a.eval d=v) (l:a.eval x=u) {h:Value} {e:World} (j:(Builtin.copy_ #[g,f] o.type #[v,u]).run P w= .ok h e) (p:K (a.put o.dst h) e):
  if Region.wanted o (yielded b a.tmps)=true then Oper.wp P o a w K Q else E:=by
 have q:Region.wanted o (yielded b a.tmps)=true:=by simp[Region.wanted,m]
 rw[Zl q];unfold Oper.wp;simp[execOp,c,resolve,invoke,builtin,i,l,j,Result.andThen];exact p
theorem qjq(b:Nat)(d:List Value)(o:Nat)(w:World)(h:∀j,j<d.length->(w.cell? ⟨b,o+j,none⟩).isSome=true)(k:Nat)(g:(w.cell? ⟨b,k,none⟩).isSome=true):((w.setCells b o d).cell? ⟨b,k,none⟩).isSome=true:=by
 by_cases f:o<=k/\k<o+d.length
 .have:=World.cell?_setCells_in b d o w h (k-o) Xd;rw[show o+(k-o)=k by omega] at this;rw[this];rfl
 .rw[World.cell?_setCells_out b d o w ⟨b,k,none⟩ (λ_ _=>by show k<o\/o+d.length<=k;omega)];exact g
end
section
open Go.RowKit
structure InsFn(P:Program)(f:FuncId)(ts te:TypeId)(K BY:Nat):Prop where
 ent:∀args w,(callFunc f args).run P w= .ok (.enter f args) w
 shift:∀(b off n c i vb voff m vc:Nat) (cs vs:List Value) (w:World),i<n->0<m->n+m<=c->n+m<=70368744177664->vb≠b->cs.length=n*K->vs.length=m*K->
  (∀j v,cs[j]? =some v->w.cell? ⟨b,off+j,none⟩=some v) ->(∀j,j<(n+m)*K->(w.cell? ⟨b,off+j,none⟩).isSome=true) ->(∀j,j<(n+m)*K->w.frozen? ⟨b,off+j,none⟩=false) ->
  (∀j v,vs[j]? =some v->w.cell? ⟨vb,voff+j,none⟩=some v) ->(∀v∈cs,v.oneCell'=true) ->(∀v∈vs,v.oneCell'=true) ->
  ∀(tA tB:TypeId) (kA kB:Nat),w.shape? vb=some (tA,kA) ->w.shape? b=some (tB,kB) ->kB≠0->w.frozen? ⟨vb,voff,none⟩=false->w.frozen? ⟨vb,kA,none⟩=false->
  Calls P f #[.slice (some ⟨b,off,none⟩) n c,.int .i64 i,.slice (some ⟨vb,voff,none⟩) m vc] w λe w'=>
   e= .returned (.slice (some ⟨b,off,none⟩) (n+m) c)/\w'=(w.drew.setCells b (off+(i+m)*K) (cs.drop (i*K))).setCells b (off+i*K) vs
 atEnd:∀(a:Addr) (n c:Nat) (vb:Addr) (m vc:Nat) (w:World),0<m->∀(val:Value) (w1:World),
  (∀ty,(Builtin.append_ #[ts,ts] ty #[.slice (some a) n c,.slice (some vb) m vc]).run P w= .ok val w1) ->
  Calls P f #[.slice (some a) n c,.int .i64 n,.slice (some vb) m vc] w λe w'=>e= .returned val/\w'=w1
 atNil:∀(vb:Addr) (m vc:Nat) (w:World),0<m->∀(val:Value) (w1:World),
  (∀ty,(Builtin.append_ #[ts,ts] ty #[.slice none 0 0,.slice (some vb) m vc]).run P w= .ok val w1) ->
  Calls P f #[.slice none 0 0,.int .i64 0,.slice (some vb) m vc] w λe w'=>e= .returned val/\w'=w1
 grow:∀(b off n c i vb voff m vc:Nat) (cs vs:List Value) (w:World),i<n->0<m->n<=c->c<n+m->(n+m)*BY<=140737488355328->n+m<=70368744177664->cs.length=n*K->vs.length=m*K->
  (∀j v,cs[j]? =some v->w.cell? ⟨b,off+j,none⟩=some v) ->(∀j v,vs[j]? =some v->w.cell? ⟨vb,voff+j,none⟩=some v) ->(∀v∈cs,v.oneCell'=true) ->(∀v∈vs,v.oneCell'=true) ->
  Calls P f #[.slice (some ⟨b,off,none⟩) n c,.int .i64 i,.slice (some ⟨vb,voff,none⟩) m vc] w λe w'=>
   ∃G ROW,n+m<=G/\G<=9223372036854775807/\ROW.size=G*K/\(∀j,j<i*K->ROW[j]? =cs[j]?)/\e= .returned (.slice (some ⟨w.heap.size,0,none⟩) (n+m) G)/\
   w'=(((w.alloc (.cells ROW te)).drew.setCells w.heap.size (i*K) vs).drew).setCells w.heap.size ((i+m)*K) (cs.drop (i*K))
def aGq(C:Cfg)(d w K BY:Nat):List V->Heap->Option (V×Heap)
 |[s,.int .i64 (.ofNat i),.sl vb vbase voff m vesz vlim],h=>match giq C h d K (.sl vb vbase voff m vesz vlim) with
  |some (y::ys)=>match s with
   |.nils=>match Nat.beq i 0 with
    |true=>kVq C h d d .nils (.sl vb vbase voff m vesz vlim)
    |false=>none
   |.sl b j g n p u=>match Nat.beq i n with
    |true=>kVq C h d d (.sl b j g n p u) (.sl vb vbase voff m vesz vlim)
    |false=>match Nat.blt i n&&(Nat.beq p K&&(Nat.beq vesz K&&(!Nat.beq vb b&&(Nat.ble ((n+m)*BY) 140737488355328&&(Nat.ble (n+m) 70368744177664&&Nat.blt 0 K))))),u,h.get b,h.get vb with
     |true,none,some (.cells ty v),some (.cells _ _)=>match Nat.beq ty w,j2q 50 v g n K with
      |true,some olds=>some (.sl h.next 0 0 (n+m) K none,(h.push (.cells w (.arr ((n+m)*K) K (olds.take i++((y::ys)++olds.drop i))))).kill b)
      |_,_=>none
     |_,_,_,_=>none
   |_=>none
  |_=>none
 |_,_=>none
theorem fyq(L N Z:List Value)(s q:Nat)(b:N.length=q)(c:s+q<=L.length):q5q (q5q L.toArray (s+q) Z.toArray) s N.toArray=(L.take s++(N++(Z++L.drop (s+q+Z.length)))).toArray:=by
 simp only[q5q,ZU];congr 1
 rw[b,Zx,Zx,Z5 Yn,YP,YL Xd];congr 2
 rw[Z9 Yn,ZY Yn];rfl
theorem Qhq(L N Z:List Value)(s q:Nat)(c:N.length=q)(d:s+q<=L.length):q5q (q5q L.toArray s N.toArray) (s+q) Z.toArray=(L.take s++(N++(Z++L.drop (s+q+Z.length)))).toArray:=by
 simp only[q5q,ZU];congr 1
 have b:(L.take s++N).length=s+q:=by rw[Zh,Zu,c];omega
 rw[c,Z5 (by rw[b];exact Zb _),Zp (by rw[b];exact Zb _),Zx,Zx];congr 3
 rw[show s+q+Z.length=(L.take s++N).length+Z.length by rw[b],YQ,YB,b]
section
variable {P:Program} {C:Cfg}
theorem bRq(hC:CfgOK P C){f:FuncId}{ts te:TypeId}{K BY:Nat}(I:InsFn P f ts te K BY){j k:TyI}(hj:C.ty ts=some j)(hd:j.d= .slice te)(hk:C.ty te=some k)(hK:k.size=K)(hB:k.bytes=BY){C':Cfg}:qVq P C' f (aGq C ts te K BY):=λvs h v h' he=>by
 have hu:P.underlying ts=some (.slice te):=by
  have:=(hC.ty ts j hj).d;rw[hd] at this;exact this
 unfold aGq at he;split at he
 case h_2=>cases he
 rename_i s i vb vbase voff m vesz vlim;split at he
 case h_2=>cases he
 rename_i y ys hsrc;have hargs:∀ρ:Env,(zPq ρ [s,.int .i64 (.ofNat i),.sl vb vbase voff m vesz vlim]).toArray= #[abq ρ s,.int .i64 (i:Int),abq ρ (.sl vb vbase voff m vesz vlim)]:=λρ=>by simp[zPq,abq]
 have hvesz:vesz=K/\(∃vv,h.val vb=some vv/\j2q 50 vv voff m K=some (y::ys)):=by
  unfold giq at hsrc;rw[hj] at hsrc;simp only[hd] at hsrc;split at hsrc
  .rename_i v' hes hv;exact⟨Zi hes,v',hv,hsrc⟩
  .cases hsrc
 obtain⟨rfl,vv,hvv,hsub⟩:=hvesz
 have hm0:0<m:=by
  have:=(y3q (ρ:=(⟨λ_=>0,λ_=>0,λ_=>0,λ_=>(0,none)⟩:Env)) 50 vv voff m vesz (y::ys) hsub).1;simp only[Zo] at this;omega
 split at he
 ·--onto nothing
  split at he
  case h_2=>cases he
  rename_i hi0;have hi0:=Zi hi0;subst hi0;refine⟨KPq he,I.ent,λs0 U D ρ w hU gl hvs r=>?_⟩;simp only[InDL] at hvs;obtain⟨h1,h2,h3,_⟩:=hvs;obtain⟨val,D',ρ',w',q1,q2,q3,q4,q5⟩:=Jjq (ty:=0) hC r h1 h3 he hU;rw[hargs];refine(I.atNil _ m _ w hm0 val w' λty=>q1).mono λe w2=>?_
  rintro⟨rfl,rfl⟩;exact⟨D',ρ',by rw[q2],q3,q4,q5⟩
 .rename_i b base off n esz lim;split at he
  ·--at the end
   rename_i hin;have hin:=Zi hin;subst hin;refine⟨KPq he,I.ent,λs0 U D ρ w hU gl hvs r=>?_⟩;simp only[InDL] at hvs;obtain⟨h1,h2,h3,_⟩:=hvs;obtain⟨val,D',ρ',w',q1,q2,q3,q4,q5⟩:=Jjq (ty:=0) hC r h1 h3 he hU;rw[hargs];refine(I.atEnd _ i _ _ m _ w hm0 val w' λty=>q1).mono λe w2=>?_
   rintro⟨rfl,rfl⟩;exact⟨D',ρ',by rw[q2],q3,q4,q5⟩
  .rename_i hne;split at he
   case h_2=>cases he
   rename_i ty bv vty vbv hcond hg hvg;simp only[Zd] at hcond;obtain⟨c1,c2,c3,c4,c5,c6,c7⟩:=hcond;have hin:i<n:=by simpa using c1
   have:=Zi c2;subst this;have hvb:vb≠b:=λe=>by subst e;simp at c4
   have hb1:=Yb c5;have hb2:=Yb c6;have hK0:0<esz:=by simpa using c7
   split at he
   case h_2=>cases he
   rename_i olds hty ho;have:=Zi hty;subst this;cases he;refine⟨(yAq _ _).trans (Zgq _ _),I.ent,λs0 U D ρ w hU gl hvs r=>?_⟩;have hU1:h.next+1<=U:=hU;simp only[InDL] at hvs;obtain⟨hx1,_,hx3,_⟩:=hvs;obtain⟨g1,g2,g3,g4⟩:=y3q (ρ:=ρ) 50 bv off n esz olds ho;obtain⟨f1,f2,f3,f4⟩:=y3q (ρ:=ρ) 50 vv voff m esz (y::ys) hsub;have hbvin:InD (DD D ρ) bv:=r.clo b _ hx1.2.2.1 hg;have hoi:=g4 _ hbvin;obtain⟨_,hnin⟩:=Qgq hC r hx3 hsrc;have hval:h.val b=some bv:=by simp[Heap.val,hg]
   obtain⟨hpos,hlen,hD,hroom⟩:=hx1;have hx1:InD (DD D ρ) (.sl b base off n esz none):=⟨hpos,hlen,hD,hroom⟩;have hx3':=hx3;obtain⟨_,_,hDv,hroomv⟩:=hx3';simp only[YU] at hroom;obtain⟨o,h1,pre,tail,rfl,h2,h3⟩:=r.has b _ hD hg;obtain⟨ov,e1,prev,tailv,rfl,e2,e3⟩:=r.has vb _ hDv hvg;obtain⟨L,hL⟩:∃L,L=pre++(cellsV ρ bv++tail):=⟨_,rfl⟩
   rw[<-hL] at h1;have hLl:L.length=ρ.pre b+ρ.cap b:=by rw[hL];simp only[Zh,yHq];omega
   have hO:(L.drop (ρ.pre b+off)).take (n*esz)=zpq ρ esz olds:=by
    rw[hL,<-h2,YQ,Z9 Xn,Z5 Xn,g3]
   have hcn:=jWq hx1;have hcm:=jWq hx3;have hc0:¬ydq ρ b off esz none=0:=by omega
   have hv0:¬ydq ρ vb voff esz vlim=0:=by omega
   have ha1:abq ρ (.sl b base off n esz none)= .slice (some ⟨ρ.b b,ρ.pre b+off,none⟩) n (ydq ρ b off esz none):=by simp only[abq,ysq,hc0,if_false]
   have ha3:abq ρ (.sl vb vbase voff m esz vlim)= .slice (some ⟨ρ.b vb,ρ.pre vb+voff,none⟩) m (ydq ρ vb voff esz vlim):=by simp only[abq,ysq,hv0,if_false]
   have hcs:∀j u,(zpq ρ esz olds)[j]? =some u->w.cell? ⟨ρ.b b,ρ.pre b+off+j,none⟩=some u:=λj u hj=>by
    have:=jVq r hx1 hval ho j u hj;rw[Zg hc0,Addr.add_lit] at this;exact this
   have hvs':∀j u,(zpq ρ esz (y::ys))[j]? =some u->w.cell? ⟨ρ.b vb,ρ.pre vb+voff+j,none⟩=some u:=λj u hj=>by
    have:=jVq r hx3 hvv hsub j u hj;rw[Zg hv0,Addr.add_lit] at this;exact this
   have hol:(zpq ρ esz olds).length=n*esz:=by rw[zEq,g1]
   have hnl:(zpq ρ esz (y::ys)).length=m*esz:=by rw[zEq,f1]
   have hdl:(zpq ρ esz (olds.drop i)).length=(n-i)*esz:=by rw[zEq,Zy,g1]
   have him:(i+m)*esz=i*esz+m*esz:=ZQ _ _ _;have hnm:(n+m)*esz=n*esz+m*esz:=ZQ _ _ _;have hni:n*esz=i*esz+(n-i)*esz:=by rw[<-ZQ];congr 1;omega
   have hz0:esz<=(n-i)*esz:=by
    have:1*esz<=(n-i)*esz:=Z7 _ Xd;omega
   have hv:InD (DD D ρ) (.arr ((n+m)*esz) esz (olds.take i++((y::ys)++olds.drop i))):=InDL_iff.2 λz hz=>by
    rcases ZO.1 hz with h|h
    .exact InDL_iff.1 hoi z (ZJ h)
    .rcases ZO.1 h with h|h
     .exact InDL_iff.1 hnin z h
     .exact InDL_iff.1 hoi z (ZF h)
   have hfl:(zpq ρ esz (olds.take i++((y::ys)++olds.drop i)))=zpq ρ esz (olds.take i)++(zpq ρ esz (y::ys)++zpq ρ esz (olds.drop i)):=by rw[jkq,jkq]
   have hfll:(zpq ρ esz (olds.take i++((y::ys)++olds.drop i))).length=(n+m)*esz:=by
    rw[zEq];congr 1
    simp only[Zh,Zu,Zy,g1,f1];omega
   have hcells:∀ρ':Env,Env.Agree (DD D ρ) ρ ρ'->cellsV ρ' (.arr ((n+m)*esz) esz (olds.take i++((y::ys)++olds.drop i)))=zpq ρ esz (olds.take i)++(zpq ρ esz (y::ys)++zpq ρ esz (olds.drop i)):=λρ' hag=>by
    rw[yZq hag hv];simp only[cellsV];rw[y2q hfll,hfl]
   have hne:=r.next_new hU1;rw[hargs,ha1,ha3];by_cases hcap:n+m<=ydq ρ b off esz none
   ·-- in place
    have hfit:off+(n+m)*esz<=ρ.cap b:=by
     have h4:=hcap;simp only[ydq] at h4;rw[Nat.le_div_iff_mul_le hpos] at h4;omega
    have hcell:∀j,j<(n+m)*esz->(w.cell? ⟨ρ.b b,ρ.pre b+off+j,none⟩).isSome=true:=λj hj=>by
     simp only[World.cell?,h1];have:ρ.pre b+off+j<L.toArray.size:=by simp only[ZU];omega
     simp only[Option.isSome_none,Bool.false_eq_true,if_false];rw[ZI this];rfl
    have hfrz:∀j,j<(n+m)*esz->w.frozen? ⟨ρ.b b,ρ.pre b+off+j,none⟩=false:=λj _=>by simp[World.frozen?,h1]
    refine(I.shift (ρ.b b) (ρ.pre b+off) n (ydq ρ b off esz none) i (ρ.b vb) (ρ.pre vb+voff) m (ydq ρ vb voff esz vlim) (zpq ρ esz olds) (zpq ρ esz (y::ys)) w hin hm0 hcap hb2 (r.inj vb b _ _ hDv hD hvg hg Y Y hvb) hol hnl hcs hcell hfrz hvs' (qKq ρ esz olds) (qKq ρ esz (y::ys)) vty ty _ L.length (by simp[World.shape?,e1];rfl) (by simp[World.shape?,h1]) Xd (by simp[World.frozen?,e1]) (by simp[World.frozen?,e1])).mono λe w2=>?_
    rintro⟨rfl,rfl⟩;rw[<-xvq];have hdr:w.drew.heap[ρ.b b]? =some (.cells L.toArray ty):=h1;have t1:=ykq (zpq ρ esz (olds.drop i)) (ρ.pre b+off+(i+m)*esz) w.drew (ρ.b b) _ ty hdr (by rw[hdl];simp only[ZU];omega);have t2:=ykq (zpq ρ esz (y::ys)) (ρ.pre b+off+i*esz) _ (ρ.b b) _ ty t1.this (by rw[hnl,vpq _ _ _ (by simp only[ZU,hdl];omega)];simp only[ZU];omega);have e5:ρ.pre b+off+(i+m)*esz=ρ.pre b+off+i*esz+m*esz:=by omega
    rw[e5] at t1 t2⊢;rw[fyq L _ _ (ρ.pre b+off+i*esz) (m*esz) hnl Xd] at t2
    have tt:Turned (ρ.b b) (.cells (L.take (ρ.pre b+off+i*esz)++(zpq ρ esz (y::ys)++(zpq ρ esz (olds.drop i)++L.drop (ρ.pre b+off+i*esz+m*esz+(zpq ρ esz (olds.drop i)).length)))).toArray ty) w ((w.drew.setCells (ρ.b b) (ρ.pre b+off+i*esz+m*esz) (zpq ρ esz (olds.drop i))).setCells (ρ.b b) (ρ.pre b+off+i*esz) (zpq ρ esz (y::ys))):=
     ⟨t2.os.trans t1.os,t2.tape.trans t1.tape,t2.output.trans t1.output,t2.size.trans t1.size,t2.this,λk hk=>(t2.other k hk).trans (t1.other k hk)⟩
    have hag:Env.Agree (DD D ρ) ρ (ρ.add h.next (ρ.b b) (ρ.pre b+off) (ρ.cap b-off)):=Env.add_agree hne
    have hkn:KnB (ρ.add h.next (ρ.b b) (ρ.pre b+off) (ρ.cap b-off)) h.next (.cells ty (.arr ((n+m)*esz) esz (olds.take i++((y::ys)++olds.drop i)))) (.cells (L.take (ρ.pre b+off+i*esz)++(zpq ρ esz (y::ys)++(zpq ρ esz (olds.drop i)++L.drop (ρ.pre b+off+i*esz+m*esz+(zpq ρ esz (olds.drop i)).length)))).toArray ty):=by
     refine⟨L.take (ρ.pre b+off),L.drop (ρ.pre b+off+(n+m)*esz),?_,?_,?_⟩
     .rw[hcells _ hag];congr 1
      congr 1
      rw[List.take_add]
      have:(L.drop (ρ.pre b+off)).take (i*esz)=zpq ρ esz (olds.take i):=by
       rw[kAq,<-hO,YP,YL Xd]
      rw[this,hdl,show ρ.pre b+off+i*esz+m*esz+(n-i)*esz=ρ.pre b+off+(n+m)*esz by omega];simp[Zx]
     .simp[Env.add];omega
     .refine⟨?_,λh=>by have h:false=true:=h;cases h⟩;show(n+m)*esz+_=_;simp only[Env.add,if_true,Zy];omega
    obtain⟨r',n'⟩:=r.move hU1 (B':=.cells ty (.arr ((n+m)*esz) esz (olds.take i++((y::ys)++olds.drop i)))) hD hg Y Y tt hv hkn;refine⟨_,_,?_,r',n',hpos,Zb _,.inr rfl,?_⟩
    .have hsc:ydq (ρ.add h.next (ρ.b b) (ρ.pre b+off) (ρ.cap b-off)) h.next 0 esz none=ydq ρ b off esz none:=by simp[ydq,Env.add]
     simp only[abq,ysq,hsc,hc0,if_false];simp[Env.add]
    .simp only[Env.add,if_true,YU];omega
   ·-- a new row
    refine(I.grow (ρ.b b) (ρ.pre b+off) n (ydq ρ b off esz none) i (ρ.b vb) (ρ.pre vb+voff) m (ydq ρ vb voff esz vlim) (zpq ρ esz olds) (zpq ρ esz (y::ys)) w hin hm0 hcn Xd hb1 hb2 hol hnl hcs hvs' (qKq ρ esz olds) (qKq ρ esz (y::ys))).mono λe w2=>?_
    rintro⟨G,ROW,k1,k2,k3,k4,rfl,rfl⟩;rw[<-xvq];have hG:G*esz=(n+m)*esz+(G-(n+m))*esz:=by rw[<-ZQ];congr 1;omega
    have hR:ROW=ROW.toList.toArray:=by simp
    have hRl:ROW.toList.length=G*esz:=by simp[k3]
    have hnew:(w.alloc (.cells ROW ty)).drew.heap[w.heap.size]? =some (.cells ROW.toList.toArray ty):=by
     rw[<-hR];exact heap_alloc_new w _
    have t1:=ykq (zpq ρ esz (y::ys)) (i*esz) (w.alloc (.cells ROW ty)).drew w.heap.size _ ty hnew (by rw[hnl];simp only[ZU];omega);have hd1:((w.alloc (.cells ROW ty)).drew.setCells w.heap.size (i*esz) (zpq ρ esz (y::ys))).drew.heap[w.heap.size]? =_:=t1.this;have t2:=ykq (zpq ρ esz (olds.drop i)) ((i+m)*esz) _ w.heap.size _ ty hd1 (by rw[hdl,vpq _ _ _ (by simp only[ZU,hnl];omega)];simp only[ZU];omega);rw[him] at t2⊢;rw[Qhq _ _ _ (i*esz) (m*esz) hnl Xd] at t2;have ba:=jPq w (.cells ROW ty)
    have bel:Below w.heap.size w ((((w.alloc (.cells ROW ty)).drew.setCells w.heap.size (i*esz) (zpq ρ esz (y::ys))).drew).setCells w.heap.size (i*esz+m*esz) (zpq ρ esz (olds.drop i))):=
     ⟨t2.os.trans (t1.os.trans ba.os),t2.tape.trans (t1.tape.trans ba.tape),t2.output.trans (t1.output.trans ba.output),by rw[t2.size];show _<=((w.alloc (.cells ROW ty)).drew.setCells w.heap.size (i*esz) (zpq ρ esz (y::ys))).heap.size;rw[t1.size];exact ba.size,λk hk=>by
      rw[t2.other k Xd];exact(t1.other k Xd).trans (ba.block k hk)⟩
    have hag:Env.Agree (DD D ρ) ρ (ρ.add h.next w.heap.size 0 (G*esz)):=Env.add_agree hne
    have hkn:KnB (ρ.add h.next w.heap.size 0 (G*esz)) h.next (.cells ty (.arr ((n+m)*esz) esz (olds.take i++((y::ys)++olds.drop i)))) (.cells (ROW.toList.take (i*esz)++(zpq ρ esz (y::ys)++(zpq ρ esz (olds.drop i)++ROW.toList.drop (i*esz+m*esz+(zpq ρ esz (olds.drop i)).length)))).toArray ty):=by
     refine⟨[],ROW.toList.drop ((n+m)*esz),?_,by simp[Env.add],?_⟩
     .rw[hcells _ hag];congr 1
      congr 1
      have:ROW.toList.take (i*esz)=zpq ρ esz (olds.take i):=by
       rw[kAq];apply List.ext_getElem?;intro j;rw[YJ,YJ];split
       .rename_i hji;have:=k4 j hji;rw[<-Array.getElem?_toList] at this;exact this
       .rfl
      rw[this,hdl,show i*esz+m*esz+(n-i)*esz=(n+m)*esz by omega];simp[Zx]
     .refine⟨?_,λh=>by have h:false=true:=h;cases h⟩;show(n+m)*esz+_=_;simp only[Env.add,if_true,Zy];omega
    obtain⟨r',n'⟩:=r.push hU1 (b:=.cells ty (.arr ((n+m)*esz) esz (olds.take i++((y::ys)++olds.drop i)))) bel t2.this rfl hv hkn;obtain⟨s1,s2⟩:=bKq (D:=D) (ρ:=ρ) (w:=w) (h:=h) G (n+m) esz hK0 k1 rfl;obtain⟨p1,p2⟩:=r'.kill b;exact⟨_,_,by rw[s1],p1,n'.trans r.lt hU1 p2,s2⟩
 .cases he
end
theorem v1q{P:Program}(w:World)(t e x:TypeId)(z:Value)(A:P.underlying t=some (.slice e))(B:∀w,(zeroValue e).run P w= .ok z w)(q:∀v∈(Builtin.zeroCells z.cells 1).toList,v.oneCell'=true)(b o c:Nat)
  (y:∀j,j<z.cells.size->(w.cell? ⟨b,o+j,none⟩).isSome=true) (f:∀j,j<z.cells.size->w.frozen? ⟨b,o+j,none⟩=false):
  (Builtin.clear_ #[t] x #[.slice (some ⟨b,o,none⟩) 1 c]).run P w= .ok (.tuple #[]) (w.setCells b o (Builtin.zeroCells z.cells 1).toList):=by
 have d:(Builtin.zeroCells z.cells 1).toList.length=z.cells.size:=by simp[Builtin.zeroCells]
 have a:=run_storeCells_cells (P:=P) b o (Builtin.zeroCells z.cells 1).toList 0 w (by simpa[d] using y) (by simpa[d] using f) q;simp only[Y5] at a;simp[Builtin.clear_,Zz A,B,a]
structure DelFn(P:Program)(f:FuncId)(K:Nat):Prop where
 ent:∀args w,(callFunc f args).run P w= .ok (.enter f args) w
 run:∀(b off n c i:Nat) (cs:List Value) (w:World),i<n->n<=c->n<=70368744177664->cs.length=n*K->
  (∀j v,cs[j]? =some v->w.cell? ⟨b,off+j,none⟩=some v) ->(∀j,j<n*K->w.frozen? ⟨b,off+j,none⟩=false) ->(∀v∈cs,v.oneCell'=true) ->
  Calls P f #[.slice (some ⟨b,off,none⟩) n c,.int .i64 i,.int .i64 ((i+1:Nat):Int)] w λe w'=>
   ∃Z:List Value,Z.length=K/\e= .returned (.slice (some ⟨b,off,none⟩) (n-1) c)/\w'=(w.drew.setCells b (off+i*K) (cs.drop ((i+1)*K))).setCells b (off+(n-1)*K) Z
def dDq(d K:Nat):List V->Heap->Option (V×Heap)
 |[.sl b base off n esz none,.int .i64 (.ofNat i),.int .i64 (.ofNat j)],h=>match Nat.blt i n&&(Nat.beq j (i+1)&&(Nat.beq esz K&&(Nat.blt 0 K&&Nat.ble n 70368744177664))),h.get b with
  |true,some (.cells ty v)=>match Nat.beq ty d,j2q 50 v off n K with
   |true,some olds=>some (.sl h.next 0 0 (n-1) K none,(h.push (.cells d (.arr ((n-1)*K) K (olds.take i++olds.drop (i+1))))).kill b)
   |_,_=>none
  |_,_=>none
 |_,_=>none
section
variable {P:Program} {C:Cfg}
theorem bSq{f:FuncId}{te K:Nat}(I:DelFn P f K):qVq P C f (dDq te K):=λvs h v h' R=>by
 unfold dDq at R;split at R
 case h_2=>cases R
 rename_i b F E n d i j;have S:∀B:Env,(zPq B [.sl b F E n d none,.int .i64 (.ofNat i),.int .i64 (.ofNat j)]).toArray= #[abq B (.sl b F E n d none),.int .i64 (i:Int),.int .i64 (j:Int)]:=λB=>by simp[zPq,abq]
 split at R
 case h_2=>cases R
 rename_i V bv H hg;simp only[Zd] at H;obtain⟨c1,c2,c3,c4,c5⟩:=H;have hin:i<n:=by simpa using c1
 have e2:=Zi c2;have e3:=Zi c3;subst e2;subst e3;have hK0:0<d:=by simpa using c4
 have hb2:=Yb c5;split at R
 case h_2=>cases R
 rename_i q hty ho;have e4:=Zi hty;subst e4;cases R;refine⟨(yAq _ _).trans (Zgq _ _),I.ent,λs0 U D B w hU gl hvs r=>?_⟩;have hU1:h.next+1<=U:=hU;simp only[InDL] at hvs;obtain⟨G,_⟩:=hvs;obtain⟨g1,g2,g3,g4⟩:=y3q (ρ:=B) 50 bv E n d q ho;have hbvin:InD (DD D B) bv:=r.clo b _ G.2.2.1 hg;have hoi:=g4 _ hbvin;have hval:h.val b=some bv:=by simp[Heap.val,hg]
 obtain⟨O,hlen,hD,J⟩:=G;have G:InD (DD D B) (.sl b F E n d none):=⟨O,hlen,hD,J⟩;simp only[YU] at J;obtain⟨o,h1,pre,tail,rfl,h2,h3⟩:=r.has b _ hD hg;obtain⟨L,hL⟩:∃L,L=pre++(cellsV B bv++tail):=⟨_,rfl⟩
 rw[<-hL] at h1;have hLl:L.length=B.pre b+B.cap b:=by rw[hL];simp only[Zh,yHq];omega
 have hO:(L.drop (B.pre b+E)).take (n*d)=zpq B d q:=by
  rw[hL,<-h2,YQ,Z9 Xn,Z5 Xn,g3]
 have hcn:=jWq G;have hc0:¬ydq B b E d none=0:=by omega
 have ha1:abq B (.sl b F E n d none)= .slice (some ⟨B.b b,B.pre b+E,none⟩) n (ydq B b E d none):=by simp only[abq,ysq,hc0,if_false]
 have hcs:∀j u,(zpq B d q)[j]? =some u->w.cell? ⟨B.b b,B.pre b+E+j,none⟩=some u:=λj u hj=>by
  have:=jVq r G hval ho j u hj;rw[Zg hc0,Addr.add_lit] at this;exact this
 have hol:(zpq B d q).length=n*d:=by rw[zEq,g1]
 have X:(zpq B d (q.drop (i+1))).length=(n-(i+1))*d:=by rw[zEq,Zy,g1]
 have hn1:n*d=(n-1)*d+d:=by
  rw[<-Nat.succ_mul];congr 1;omega
 have hn2:(n-1)*d=i*d+(n-(i+1))*d:=by rw[<-ZQ];congr 1;omega
 have hv:InD (DD D B) (.arr ((n-1)*d) d (q.take i++q.drop (i+1))):=InDL_iff.2 λz hz=>by
  rcases ZO.1 hz with h|h
  .exact InDL_iff.1 hoi z (ZJ h)
  .exact InDL_iff.1 hoi z (ZF h)
 have hfl:zpq B d (q.take i++q.drop (i+1))=zpq B d (q.take i)++zpq B d (q.drop (i+1)):=jkq ..
 have hfll:(zpq B d (q.take i++q.drop (i+1))).length=(n-1)*d:=by
  rw[zEq];congr 1
  simp only[Zh,Zu,Zy,g1];omega
 have M:∀T:Env,Env.Agree (DD D B) B T->cellsV T (.arr ((n-1)*d) d (q.take i++q.drop (i+1)))=zpq B d (q.take i)++zpq B d (q.drop (i+1)):=λT W=>by
  rw[yZq W hv];simp only[cellsV];rw[y2q hfll,hfl]
 have hne:=r.next_new hU1;rw[S,ha1];have hfrz:∀j,j<n*d->w.frozen? ⟨B.b b,B.pre b+E+j,none⟩=false:=λj _=>by simp[World.frozen?,h1]
 refine(I.run (B.b b) (B.pre b+E) n (ydq B b E d none) i (zpq B d q) w hin hcn hb2 hol hcs hfrz (qKq B d q)).mono λe w2=>?_
 rintro⟨Z,hZ,rfl,rfl⟩;rw[<-xvq];have hdr:w.drew.heap[B.b b]? =some (.cells L.toArray V):=h1;have t1:=ykq (zpq B d (q.drop (i+1))) (B.pre b+E+i*d) w.drew (B.b b) _ V hdr (by rw[X];simp only[ZU];omega);have Q:=ykq Z (B.pre b+E+(n-1)*d) _ (B.b b) _ V t1.this (by rw[hZ,vpq _ _ _ (by simp only[ZU,X];omega)];simp only[ZU];omega);have e5:B.pre b+E+(n-1)*d=B.pre b+E+i*d+(n-(i+1))*d:=by omega
 rw[e5] at Q⊢;rw[Qhq L _ _ (B.pre b+E+i*d) ((n-(i+1))*d) X Xd] at Q
 have tt:Turned (B.b b) (.cells (L.take (B.pre b+E+i*d)++(zpq B d (q.drop (i+1))++(Z++L.drop (B.pre b+E+i*d+(n-(i+1))*d+Z.length)))).toArray V) w ((w.drew.setCells (B.b b) (B.pre b+E+i*d) (zpq B d (q.drop (i+1)))).setCells (B.b b) (B.pre b+E+i*d+(n-(i+1))*d) Z):=
  ⟨Q.os.trans t1.os,Q.tape.trans t1.tape,Q.output.trans t1.output,Q.size.trans t1.size,Q.this,λk hk=>(Q.other k hk).trans (t1.other k hk)⟩
 have W:Env.Agree (DD D B) B (B.add h.next (B.b b) (B.pre b+E) (B.cap b-E)):=Env.add_agree hne
 have hkn:KnB (B.add h.next (B.b b) (B.pre b+E) (B.cap b-E)) h.next (.cells V (.arr ((n-1)*d) d (q.take i++q.drop (i+1)))) (.cells (L.take (B.pre b+E+i*d)++(zpq B d (q.drop (i+1))++(Z++L.drop (B.pre b+E+i*d+(n-(i+1))*d+Z.length)))).toArray V):=by
  refine⟨L.take (B.pre b+E),Z++L.drop (B.pre b+E+i*d+(n-(i+1))*d+Z.length),?_,?_,?_⟩
  .rw[M _ W];congr 1
   congr 1
   rw[List.take_add]
   have:(L.drop (B.pre b+E)).take (i*d)=zpq B d (q.take i):=by
    rw[kAq,<-hO,YP,YL Xd]
   rw[this];simp[Zx]
  .simp[Env.add];omega
  .refine⟨?_,λh=>by have h:false=true:=h;cases h⟩;show(n-1)*d+_=_;simp only[Env.add,if_true,Zh,Zy,hZ];omega
 obtain⟨r',n'⟩:=r.move hU1 (B':=.cells V (.arr ((n-1)*d) d (q.take i++q.drop (i+1)))) hD hg Y Y tt hv hkn;refine⟨_,_,?_,r',n',O,Zb _,.inr rfl,?_⟩
 .have hsc:ydq (B.add h.next (B.b b) (B.pre b+E) (B.cap b-E)) h.next 0 d none=ydq B b E d none:=by simp[ydq,Env.add]
  simp only[abq,ysq,hsc,hc0,if_false];simp[Env.add]
 .simp only[Env.add,if_true,YU];omega
end
def aJq(n:Nat):V:=.int .u32 (.ofNat n)
def b9q:List V->List Nat->Bool
 |[],[]=>true
 |.int .u32 (.ofNat n)::l,m::ms=>match Nat.beq n m with
  |true=>b9q l ms
  |false=>false
 |_,_=>false
theorem J3q:∀{l:List V} {b:List Nat},b9q l b=true->l=b.map aJq
 |[],[],_=>rfl
 |[],_::_,h=>by simp[b9q] at h
 |v::l,b,h=>by
  unfold b9q at h;split at h
  .simp_all
  .rename_i n g m f e;cases e;split at h
   .rename_i d;obtain rfl:=Zi d;rw[J3q h];rfl
   .cases h
  .cases h
theorem J4q:∀a:List Nat,b9q (a.map aJq) a=true
 |[]=>rfl
 |m::a=>by
  show(match Nat.beq m m with|true=>b9q (a.map aJq) a|false=>false)=true;rw[Y0];exact J4q a
def bGq(g:Nat)(b:List Nat)(h:Heap):Bool:=match h.val g with
 |some c=>Nat.ble b.length c.size&&b9q ((zmq c).take b.length) b
 |none=>false
def r4q(a:Heap->Bool):List V->Heap->Option (V×Heap)
 |[],h=>match a h with
  |true=>some (.bool true,h)
  |false=>none
 |_,_=>none
attribute [simp] aaq acq
@[simp] theorem qsq:∀a b:List W,acq (a++b)=(acq a&&acq b)
 |[],b=>by simp
 |x::a,b=>by simp[qsq a b,Bool.and_assoc]
theorem ztq(l:List UInt8):(zcq l).length=l.length:=by simp[zcq]
theorem uKq{l:List UInt8}{i:Nat}{c:UInt8}(h:l[i]? =some c):(zcq l)[i]? =some (.int .u8 (.ofNat c.toNat)):=by simp[zcq,h]
@[simp] theorem jlq:∀l:List UInt8,acq (zcq l)=true
 |[]=>rfl
 |c::l=>by simp only[zcq,ZD,acq,aaq,Y6];exact jlq l
theorem kBq(a b:List UInt8):zcq (a++b)=zcq a++zcq b:=by simp[zcq]
theorem Jeq(a:List UInt8)(n:Nat):(zcq a).take n=zcq (a.take n):=by simp[zcq,List.map_take]
theorem vOq(a:List UInt8)(n:Nat):(zcq a).drop n=zcq (a.drop n):=by simp[zcq,List.map_drop]
theorem gXq{l:List W}{n m:Nat}(c:n=l.length)(b:m=n):ymq 50 (.arr m 1 l) 0 n 1=some l:=by
 subst b;subst c
 rw[vXq Xd,ZX,List.take_length]
theorem zqq{l:List W}{n m e:Nat}(b:0<e)(c:n=l.length)(d:m=n*e):ymq 50 (.arr m e l) 0 n e=some l:=by
 subst d;subst c
 unfold ymq
 have:(Nat.beq e e&&Nat.beq (0%e) 0&&Nat.ble (0+l.length*e) (l.length*e)&&Nat.blt 0 e)=true:=by
  simp[YR,b]
 simp only[this];simp
def dW(k:Dig):W:=.arr 32 1 (zcq k.1)
@[simp] theorem qeq(k:Dig):aaq (dW k)=true:=jlq _
theorem Brq(k:Dig):(dW k).isAgg=true:=rfl
theorem Bqq(k:Dig){i:Nat}(h:i<32):(zcq k.1)[i]? =some (.int .u8 (kn k i:Nat)):=by
 have:i<k.1.length:=by rw[k.2];exact h
 rw[uKq (Za this)];simp[kn,this]
theorem ceq(k:Dig){i:Nat}(h:i<32):zGq 50 (dW k) (i*1) 1 false=some (.int .u8 (kn k i:Nat)):=by
 rw[Z6];exact q9q (Bqq k h) rfl
theorem Bpq(k:Dig)(i:Nat){n:Nat}(h:n<256):(zcq k.1).set i (.int .u8 (n:Int))=zcq (wYq k i (UInt8.ofNat n)).1:=by
 have:(UInt8.ofNat n).toNat=n:=by simp;omega
 simp[zcq,wYq,List.map_set,this]
theorem Deq{a b:Dig}(i:Nat)(h:i<32):kn a i=kn b i↔a.1[i]? =b.1[i]? :=by
 have d:i<a.1.length:=by rw[a.2];exact h
 have c:i<b.1.length:=by rw[b.2];exact h
 simp[kn,d,c,UInt8.toNat_inj]
theorem i5q{C:Cfg}{e:TypeId}{j:TyI}(m:C.ty e=some j)(g:j.d= .int .u8)(o:j.size=1)(l:j.agg=false)(a b:Dig):∀(n k f:Nat),n+1<f->k+n=32->Xaq C f e j n k (dW a) (dW b)=some (decide (a.1.drop k=b.1.drop k))
 |0,k,0,h,_=>by omega
 |0,k,f+1,h,hk=>by
  simp only[Xaq];rw[ZY (by rw[a.2];omega),ZY (by rw[b.2];omega)];simp
 |n+1,k,0,h,_=>by omega
 |n+1,k,1,h,_=>by omega
 |n+1,k,f+2,h,hk=>by
  have s:k<a.1.length:=by rw[a.2];omega
  have p:k<b.1.length:=by rw[b.2];omega
  have y:=ceq a (i:=k) Xd;have z:=ceq b (i:=k) Xd;have x:=i5q m g o l a b n (k+1) (f+1) Xd Xd
  have v:eqW C (f+1) e (.int .u8 (kn a k:Nat)) (.int .u8 (kn b k:Nat))=some (eqI (kn a k:Nat) (kn b k:Nat)):=by
   simp only[eqW,m,g,decide_true]
  have c:=Deq (a:=a) (b:=b) k Xd;rw[Za s,Za p,Zm] at c;simp only[Xaq,o,l,y,z,v];rw[List.drop_eq_getElem_cons s,List.drop_eq_getElem_cons p];rw[i8q];by_cases q:kn a k=kn b k
  .rw[show decide (((kn a k:Nat):Int)=(kn b k:Nat))=true by simp[q]];simp only[x];congr 1
   rw[YZ,YM];simp only[c.1 q,true_and]
  .rw[show decide (((kn a k:Nat):Int)=(kn b k:Nat))=false by simp;omega];simp only;have:¬a.1[k]=b.1[k]:=λh=>q (c.2 h)
   rw[Zw λh=>this (List.cons.inj h).1]
theorem yUq{C:Cfg}{t e:TypeId}{i j:TyI}(m:C.ty t=some i)(l:i.d= .arr 32 e)(c:C.ty e=some j)(g:j.d= .int .u8)(o:j.size=1)(k:j.agg=false)(a b:Dig)(f:Nat):eqW C (f+50) t (dW a) (dW b)=some (decide (a=b)):=by
 have h:=i5q c g o k a b 32 0 (f+49) Xd rfl;rw[show f+50=(f+49)+1 from rfl];simp only[eqW,m,l,Brq,Bool.and_self,c,h,ZX];congr 1
 simp[Subtype.ext_iff]
theorem vKq:W.arr 32 1 (List.replicate 32 (.int .u8 (.ofNat 0)))=dW zeroD:=by
 unfold dW zeroD;simp[zcq]
theorem zYq{b:Nat->Option W}:View b (.arr 32 1 (List.replicate 32 (.int .u8 (.ofNat 0)))) (dW zeroD):=by rw[vKq];exact .pur (qeq _)
def bW(l:List UInt8):W:=.fz (zcq l) 1 false
@[simp] theorem Jiq(l:List UInt8):aaq (bW l)=true:=jlq l
theorem ziq{a:Type}{l:List a}{i:Nat}{x:a}(f:a->W)(h:l[i]? =some x):(l.map f)[i]? =some (f x):=by simp[h]
theorem yvq{a:Type}{f:a->W}(h:∀x,aaq (f x)=true):∀l:List a,acq (l.map f)=true
 |[]=>rfl
 |x::l=>by simp only[ZD,acq,h x,Y6];exact yvq h l
theorem klq{n e i off k f:Nat}{b:Bool}{l:List W}{x y:W}(h:l[i]? =some x)(j:0<e)(d:off<e)(c:(Nat.beq (0+i*e+off) 0&&Nat.beq k n&&b==true)=false)(m:zGq f x off k b=some y):zGq (f+1) (.arr n e l) (0+i*e+off) k b=some y:=by
 unfold zGq;have o:(Nat.beq (0+i*e+off) 0&&Nat.beq k (W.arr n e l).size&&b==(W.arr n e l).isAgg)=false:=c;have p:(0+i*e+off)/e=i:=by rw[ZG,YE,Nat.mul_add_div j,Nat.div_eq_of_lt d,Y5]
 have q:(0+i*e+off)%e=off:=by rw[ZG,YE,Nat.mul_add_mod,YV d]
 rw[o];simp only[p,q,h];exact m
theorem v5q{n e i b f:Nat}{l:List W}{x x' y:W}(h:l[i]? =some x)(j:0<e)(d:b<e)(c:(Nat.beq (0+i*e+b) 0&&Nat.beq y.size n&&y.isAgg==true)=false)(k:z7q f x b y=some x'):z7q (f+1) (.arr n e l) (0+i*e+b) y=some (.arr n e (l.set i x')):=by
 unfold z7q;have m:(Nat.beq (0+i*e+b) 0&&Nat.beq y.size (W.arr n e l).size&&y.isAgg==(W.arr n e l).isAgg)=false:=c;have o:(0+i*e+b)/e=i:=by rw[ZG,YE,Nat.mul_add_div j,Nat.div_eq_of_lt d,Y5]
 have p:(0+i*e+b)%e=b:=by rw[ZG,YE,Nat.mul_add_mod,YV d]
 rw[m];simp only[o,p,h,k]
theorem jrq{b:Type}{l:List b}{i:Nat}{x:b}(h:l[i]? =some x):l.set i x=l:=by
 apply List.ext_getElem?;intro j;rw[List.getElem?_set];split
 .rename_i e;subst e
  obtain⟨c,_⟩:=Zk.1 h;rw[Zl c,h]
 .rfl
section
variable {C:Cfg} {f:Nat} {t:TypeId} {i:TyI} {x y a b:W} {p q:Bool}
theorem QVq{k:IntKind}{m n:Int}(e:C.ty t=some i)(c:i.d= .int k):eqW C (f+1) t (.int k m) (.int k n)=some (decide (m=n)):=by
 simp only[eqW,e,c,decide_true];rw[i8q]
theorem i6q{m n:Bool}(e:C.ty t=some i)(c:i.d= .bool):eqW C (f+1) t (.bool m) (.bool n)=some (decide (m=n)):=by
 simp only[eqW,e,c];cases m<;>cases n<;>rfl
theorem Zrq:Yzq C (f+1) [] x y=some true:=by simp only[Yzq]
theorem qdq{c:Nat}{d:List (TypeId×Nat)}(k:C.ty t=some i)(j:zGq 50 x c i.size i.agg=some a)(e:zGq 50 y c i.size i.agg=some b)(g:eqW C f t a b=some p)(h:Yzq C f d x y=some q):Yzq C (f+1) ((t,c)::d) x y=some (p&&q):=by
 simp only[Yzq,k,j,e,g];cases p
 .rfl
 .simp only[Y6];exact h
theorem uGq{e:List (TypeId×Nat)}(l:C.ty t=some i)(g:i.d= .struct e)(k:x.isAgg=true)(j:y.isAgg=true)(h:Yzq C f e x y=some p):eqW C (f+1) t x y=some p:=by
 simp only[eqW,l,g,k,j,Bool.and_self,h]
end
def byJ(h:Heap):V->Option (List UInt8)
 |.nils=>some []
 |.sl b _ off n 1 _=>match h.val b with
  |some a=>match j2q 50 a off n 1 with
   |some l=>bytesOf (yaq 1 l)
   |none=>none
  |none=>none
 |_=>none
def wjq(h:Heap):List V->Option (List (List UInt8))
 |[]=>some []
 |v::l=>match byJ h v,wjq h l with
  |some x,some r=>some (x::r)
  |_,_=>none
def KYq:List V->Heap->Option (V×Heap)
 |[.sl b _ off n 1 _,y],h=>match h.val b,byJ h y with
  |some bv,some []=>match j2q 50 bv off n 1 with
   |some d=>match wjq h (yaq 1 d) with
    |some c=>match Nat.ble 2 n&&Nat.ble n 140737488355328&&Nat.ble 1 c.flatten.length&&Nat.ble c.flatten.length 140737488355328 with
     |true=>some (.sl h.next 0 0 c.flatten.length 1 none,h.push (.ro (.arr c.flatten.length 1 (qpq c.flatten))))
     |false=>none
    |none=>none
   |none=>none
  |_,_=>none
 |_,_=>none
section
variable {C:Cfg} {G:Nat->Option W} {Γ:Ctx} {X:Nat->Prop} {R:Res}
theorem sjq(s:SatH C G Γ [] X R)(v:V):∃Γ',Γ'.nw=Γ.nw/\Γ.Le Γ'/\Γ'.h=Γ.h.push (.ro v)/\Γ'.D Γ.h.next/\SatH C G Γ' [] X R/\Frm Γ.nw Γ [] X Γ' [] X:=by
 let Γ2:Ctx:=⟨Γ.nw,Γ.σ,λc=>Γ.D c\/c=Γ.h.next,Γ.h.push (.ro v)⟩
 have f:Γ.Le Γ2:=⟨Zb _,λ_ _=>rfl,λ_ h=>.inl h,λb q=>qbq (by
  have:=s.dlt b q;show(Γ.h.push (.ro v)).get b=_;rw[Heap.get_push,Zg Xd])⟩
 refine⟨Γ2,rfl,f,rfl,.inr rfl,⟨λi p=>?_,λb u w h=>by simp[hget] at h,λb z x y h=>by simp[hget] at h,YN,λc d m=>?_,λc j=>Nat.lt_succ_of_lt (s.xlt c j),λc d=>?_,R.st _ _ _ _ _ s.res f.D f.val (λc j=>?_) (YO _),s.gl.mono f⟩,⟨λ_ _=>rfl,λh=>h,YO _,λc A _ _=>?_,λ_ h=>.inl h,λc d=>?_,λb x _ h=>by simp[hget] at h,λb x _ h=>by simp[hget] at h,λ_ h=>.inl h,λk h _ _=>h⟩⟩
 .have p:Γ.h.next+1<=i:=p;show(Γ.h.push (.ro v)).get i=none;rw[Heap.get_push,Zg Xd];exact s.wf i Xd
 .rcases d with h|rfl
  .exact s.dX c h m
  .exact Nat.lt_irrefl _ (s.xlt _ m)
 .rcases d with h|rfl
  .exact Nat.lt_succ_of_lt (s.dlt c h)
  .exact YG _
 .have:=s.xlt c j;show(Γ.h.push (.ro v)).get c=_;rw[Heap.get_push,Zg Xd]
 .show(Γ.h.push (.ro v)).get c=_;rw[Heap.get_push,Zg Xd]
 .rcases d with h|rfl
  .exact .inl h
  .exact .inr (.inr (Zb _))
theorem bsq:∀{p:List UInt8} {s:List V},RSL Γ (zcq p) s->s=p.map λc=>V.int .u8 (.ofNat c.toNat)
 |[],s,h=>by simpa[zcq,RSL] using h
 |c::p,s,h=>by
  have h:RS Γ (.int .u8 (.ofNat c.toNat)) (s.take 1)/\RSL Γ (zcq p) (s.drop 1):=h;have b:s.take 1=[.int .u8 (.ofNat c.toNat)]:=by simpa[RS] using h.1
  rw[<-ZK 1 s,b,bsq h.2];rfl
theorem Jfq:∀p:List UInt8,bytesOf (p.map λc=>V.int .u8 (.ofNat c.toNat))=some p
 |[]=>rfl
 |c::p=>by
  have b:Nat.blt c.toNat 256=true:=by simpa[YR] using c.toNat_lt
  rw[ZD];unfold bytesOf;simp only[Jfq p,b];simp
theorem DGq{p:List UInt8}{u:V}(h:RS Γ (bW p) [u]):byJ Γ.h u=some p:=by
 have h:(zcq p=[]/\[u]=[.nils])\/∃b j f m q,[u]=[.sl b j f (zcq p).length 1 m]/\(false=true->m=some (zcq p).length)/\Γ.D b/\Γ.h.val b=some q/\q.isAgg=true/\f+(zcq p).length*1<=q.size/\(∀x∈zcq p,x.size=1)/\RSL Γ (zcq p) (((zmq q).drop f).take ((zcq p).length*1)):=by
  simpa only[bW,RS] using h
 rcases h with ⟨v,z⟩|⟨b,j,f,m,q,v,_,h3,h4,h5,h6,h7,h8⟩
 .cases z
  have:p=[]:=by cases p with
   |nil=>rfl
   |cons c p=>cases v
  rw[this];rfl
 .cases v;obtain⟨E,w,B,y,A⟩:=Krq (e:=1) h5 h6;simp only[byJ,h4,w];rw[y,bsq h8];exact Jfq p
theorem req:∀{a:List (List UInt8)} {s:List V},RSL Γ (a.map bW) s->wjq Γ.h s=some a
 |[],s,h=>by
  have h:s=[]:=by simpa[RSL] using h
  rw[h];rfl
 |p::a,s,h=>by
  have h:RS Γ (bW p) (s.take 1)/\RSL Γ (a.map bW) (s.drop 1):=h;have c:=q7q h.1;cases s with
  |nil=>simp[bW,W.size] at c
  |cons u s=>
   have b:RS Γ (bW p) [u]:=h.1;have d:RSL Γ (a.map bW) s:=h.2;simp only[wjq,DGq b,req d]
theorem psq:∀p:List UInt8,RSL Γ (zcq p) (p.map λc=>V.int .u8 (.ofNat c.toNat))
 |[]=>by simp[zcq,RSL]
 |c::p=>by
  show RS Γ (.int .u8 (.ofNat c.toNat)) _/\RSL Γ (zcq p) _;exact⟨by simp[RS,W.size],psq p⟩
theorem QMq:∀l:List UInt8,yaq 1 (qpq l)=l.map λc=>V.int .u8 (.ofNat c.toNat)
 |[]=>rfl
 |c::l=>by
  show awq 1 [V.int .u8 (.ofNat c.toNat)]++yaq 1 (qpq l)=_;rw[QMq l,yqq (n:=1) (l:=[V.int .u8 (.ofNat c.toNat)]) rfl];rfl
theorem AUq{F:FuncId}(hk:C.known F=some KYq)(d:List (List UInt8))(f:Bool)(h2:2<=d.length)(hn:d.length<=140737488355328)(T:1<=d.flatten.length)(Q:d.flatten.length<=140737488355328):PS C G F [.fz (d.map bW) 1 f,.nils] (bW d.flatten):=λR Γ X vs E s Z=>by
 obtain⟨v,U,rfl,H,B⟩:=RVL_cons.1 Z;obtain⟨y,L,rfl,D,P⟩:=RVL_cons.1 B;obtain rfl:=RVL_nil.1 P
 have D:y= .nils:=by
  have:=D.one rfl;simpa[RS] using this
 subst D;have j:(d.map bW).length=d.length:=Ze _;rcases k0q H with ⟨Y,_⟩|⟨b,base,off,lim,bv,us,rfl,_,_,g1,_,_,_,_,g2,g3⟩
 .rw[Y] at j;simp only[ZP] at j;omega
 .have I:=req g3.rs;obtain⟨Γ',e1,le,K,O,M,fr⟩:=sjq s (.arr d.flatten.length 1 (qpq d.flatten))
  have J:(Nat.ble 2 (d.map bW).length&&Nat.ble (d.map bW).length 140737488355328&&Nat.ble 1 d.flatten.length&&Nat.ble d.flatten.length 140737488355328)=true:=by
   rw[j,Zn h2,Zn hn,Zn T,Zn Q];rfl
  have k:KYq [.sl b base off (d.map bW).length 1 lim,.nils] Γ.h=some (.sl Γ.h.next 0 0 d.flatten.length 1 none,Γ'.h):=by
   simp only[KYq,g1,byJ,g2,I,J,K]
  refine⟨1,.sl Γ.h.next 0 0 d.flatten.length 1 none,Γ',X,bW d.flatten,[],R,?_,M,by rw[<-E];exact fr,?_,rfl,rfl⟩
  .simp only[y9q,hk,k]
  .have A:zmq (.arr d.flatten.length 1 (qpq d.flatten))=d.flatten.map λc=>V.int .u8 (.ofNat c.toNat):=by
    simp only[zmq,QMq];exact yqq (by rw[Ze])
   have q:Γ'.h.val Γ.h.next=some (.arr d.flatten.length 1 (qpq d.flatten)):=by
    rw[K];simp only[Heap.val,Heap.get_push,if_true]
   have:=o6q (Γ:=Γ') (l:=zcq d.flatten) (e:=1) (full:=false) (b:=Γ.h.next) (base:=0) (off:=0) (lim:=none) (bv:=.arr d.flatten.length 1 (qpq d.flatten)) Xj O q rfl (by rw[ztq];show 0+_*1<=d.flatten.length;omega) (λx S=>by obtain⟨c,_,rfl⟩:=Z2.1 S;rfl) (by rw[A,ZX,Zp (by rw[ztq,Ze];omega)];exact psq _);rw[ztq] at this;exact this
end
end
abbrev jD{a:Type}(x:a)(l r:Tr a):Tr a:=.node (some x) l r
abbrev jF{a:Type}(x:a):Tr a:=.node (some x) .nil .nil
abbrev jG{a:Type}(l r:Tr a):Tr a:=.node none l r
abbrev jH:TyI:=⟨1,8,.nilp,.ptr⟩
abbrev jJ:TyI:=⟨1,8,.nilf,.other⟩
abbrev jK(k:Nat):TyI:=⟨1,24,.nils,.slice k⟩
abbrev jL:V:=.arr 32 1 (List.replicate 32 (.int .u8 0))
abbrev jP:V:=.agg 38 [.int .i64 0,.int .i64 0,.int .i64 0,.int .i64 0,.int .i64 0,.int .i64 0,jL]
abbrev jQ:V:=.agg 100 [.int .i64 0,.bool false,.agg 98 [.int .i64 0,jL,jL,jL,.int .i64 0]]
abbrev jR:V:=.agg 99 [jL,jL,.int .u64 0,.int .u64 0,.int .u64 0,jL]
abbrev jT:V:=.agg 2 [.nils,.int .i64 0]
abbrev jN:V:=.agg 6 [.int .i64 0,.bool false,.int .i64 0,.agg 3 [jT,.nils]]
abbrev jS:V:=.agg 158 [jP,.nils,jN,.nils,.agg 2 [.int .i64 0,.nils],.nils,.agg 106 [.int .u8 0,.int .i64 0,.nils,.nils,.nils,.int .u64 0,jQ],.nils,.nils,.nils]
abbrev jV:V:=.agg 35 [.int .u8 0,jL,.int .u64 0,.int .i64 0]
abbrev jW:V:=.agg 102 [.agg 98 [.int .i64 0,jL,jL,jL,.int .i64 0],.int .i64 0,.agg 2 [.nils,.nils],.nils]
abbrev jX:V:=.agg 52 [jP,jN,.nils,.nils,.nils,.nils,.int .u64 0,.nils,.agg 2 [.int .i64 0,.nils]]
abbrev jY:V:=.agg 1 [.nils]
abbrev jZ:V:=.agg 4 [.int .i64 0,.int .i64 0,.bool false,.int .u8 0]
abbrev jB:V:=.agg 134 [.int .u8 0,jR,jL,.int .i64 0,.int .i64 0]
abbrev jC:V:=.agg 2 [.nils,.bool false]
abbrev jA:V:=.agg 38 [.int .u8 0,.nils,jV,.int .i64 0]
abbrev kD:V:=.agg 67 [jL,.int .u8 0,jL,.nils,.nils]
abbrev jM:V:=.agg 240 [.int .u8 0,.int .i64 0,.int .i64 0,jL,.agg 2 [.int .u64 0,.int .u64 0],.agg 34 [.int .u8 0,jL,.int .i64 0],kD,.int .i64 0,.agg 101 [.bool false,jQ]]
abbrev kF:V:=.agg 33 [jL,.nils]
def ti3:TyI:=⟨1,8,.int .i64 0,.int .i64⟩
def ti5:TyI:=⟨1,1,.int .u8 0,.int .u8⟩
def CHq:TyI:=⟨32,32,jL,.arr 32 5⟩
def B9q:TyI:=⟨1,24,.nils,.slice 92⟩
def wLq:TyI:=⟨1,24,.nils,.slice 5⟩
def D2q:TyI:=⟨101,136,.agg 101 [.bool false,jQ],.struct [(4,0),(52,1)]⟩
def B8q:TyI:=⟨282,528,.agg 282 [.int .u8 0,.int .i64 0,.int .i64 0,.nils,jM,jA],.struct [(5,0),(3,1),(3,2),(70,3),(81,4),(85,244)]⟩
def wKq:TyI:=⟨99,120,jR,.struct [(23,0),(23,32),(48,64),(48,65),(48,66),(23,67)]⟩
def CGq:TyI:=⟨383,680,.agg 383 [.nils,.int .i64 0,.int .u8 0,jB,jN,jM],.struct [(27,0),(3,1),(5,2),(94,3),(40,137),(81,143)]⟩
def ti100:TyI:=⟨33,56,kF,.struct [(23,0),(70,32)]⟩
def wNq:TyI:=⟨102,192,jW,.struct [(50,0),(3,98),(139,99),(140,101)]⟩
def wMq:TyI:=⟨2,32,.agg 2 [.int .i64 0,.nils],.struct [(3,0),(67,1)]⟩
def ti202:TyI:=⟨36,80,.agg 36 [.bool false,jL,.nils,.int .i64 0,.int .i64 0],.struct [(4,0),(23,1),(70,33),(3,34),(3,35)]⟩
def rNq:TyI:=⟨1,24,.nils,.slice 240⟩
def rMq:TyI:=⟨1,24,jY,.struct [(234,0)]⟩
def mAq:TyI:=⟨33,56,kF,.struct [(23,0),(46,32)]⟩
def rLq:TyI:=⟨4,48,.agg 4 [.int .i64 0,.int .i64 0,jC],.struct [(3,0),(3,1),(157,2)]⟩
noncomputable def tyT:Tr TyI:=jG (jD jJ (jD ti3 (jD ⟨4,24,jZ,.struct [(2,0),(3,1),(4,2),(6,3)]⟩ (jG (jD (jK 27) .nil (jG (jG (jF jJ) .nil) (jF jH))) (jD (jK 171) (jD D2q (jG .nil (jF jJ)) (jF ⟨2,32,.agg 2 [jT],.struct [(35,0)]⟩)) (jG .nil (jD ⟨33,56,kF,.struct [(23,0),(46,32)]⟩ (jF ⟨1,8,.agg 1 [.nilp],.struct [(365,0)]⟩) .nil)))) (jD CHq (jG (jG .nil (jF jJ)) (jG .nil (jG (jF jH) .nil))) (jD (jK 83) (jD B8q (jF ⟨7,56,.arr 7 1 (List.replicate 7 (.nilf)),.arr 7 150⟩) (jG (jF ⟨1,24,jY,.struct [(70,0)]⟩) .nil)) (jG (jG .nil (jF jJ)) (jF rLq))))) (jD ⟨1,16,.str [],.str⟩ (jG (jD ⟨2,32,jT,.struct [(33,0),(3,1)]⟩ (jD (jK 3) (jG (jF ⟨2,32,jC,.struct [(70,0),(4,1)]⟩) .nil) (jG (jF ⟨1,24,jY,.struct [(67,0)]⟩) (jF jJ))) (jG (jG .nil (jF jJ)) (jG (jF ⟨1,8,.agg 1 [.nilp],.struct [(353,0)]⟩) (jF (jK 482))))) (jG (jD ⟨35,56,jV,.struct [(5,0),(23,1),(48,33),(3,34)]⟩ (jD jH .nil (jF ⟨1,4,.int .u32 0,.int .u32⟩)) .nil) (jG (jG .nil (jF ⟨67,120,.agg 67 [kD],.struct [(77,0)]⟩)) (jF jJ)))) (jD (jK 70) (jG (jD (jK 23) (jD ⟨2,48,.agg 2 [.nils,.nils],.struct [(47,0),(46,1)]⟩ (jF jJ) (jF ⟨64,64,.arr 64 32 (List.replicate 2 (jL)),.arr 2 23⟩)) (jG .nil (jF jJ))) (jG (jD ⟨34,48,.agg 34 [.int .u64 0,jL,.int .u64 0],.struct [(48,0),(23,1),(48,33)]⟩ (jF jJ) (jF jJ)) (jF ⟨1,24,jY,.struct [(234,0)]⟩))) (jD ⟨1,8,.int .i64 0,.int .i64⟩ (jG (jD (jK 79) (jF jJ) (jF jJ)) (jG (jF (jK 346)) (jF jH))) (jG (jG .nil (jF ⟨35,88,.agg 35 [jT,jL,.nils],.struct [(35,0),(23,2),(140,34)]⟩)) (jG (jF jJ) (jF jH))))))) (jD ti5 (jD ⟨1,16,.str [],.str⟩ (jD jH (jD (jK 202) (jG (jG (jF jH) .nil) (jD jJ (jF jH) .nil)) (jG (jG .nil (jF ⟨1,8,.int .u64 0,.int .u64⟩)) (jG (jF jH) .nil))) (jG (jD ⟨240,384,jM,.struct [(5,0),(59,1),(3,2),(23,3),(72,35),(74,37),(77,71),(3,138),(79,139)]⟩ (jF jJ) (jF jJ)) (jG (jG .nil (jF jH)) (jF jJ)))) (jD ⟨38,80,jP,.struct [(3,0),(3,1),(3,2),(3,3),(3,4),(3,5),(23,6)]⟩ (jD (jK 236) (jG .nil (jG (jF jJ) .nil)) (jG (jG (jF jJ) .nil) .nil)) (jG (jG (jD jJ (jF jH) .nil) (jG (jF ⟨100,144,.agg 100 [jY,jR],.struct [(343,0),(92,1)]⟩) .nil)) (jG (jG .nil (jF jH)) (jG .nil (jF ⟨1,1,.int .u8 0,.int .u8⟩)))))) (jG (jG (jG (jG (jF jJ) (jD jJ .nil (jF ⟨64,256,.arr 64 1 (List.replicate 64 (.int .u32 0)),.arr 64 403⟩))) (jG (jG (jF jJ) (jF ⟨2,32,.agg 2 [.nils,.nilf],.struct [(46,0),(419,1)]⟩)) (jG (jF ⟨1,16,.nili,.iface⟩) (jF jJ)))) (jG (jD ⟨38,96,jA,.struct [(5,0),(70,1),(83,2),(3,37)]⟩ (jD ⟨159,568,.agg 159 [jS,.int .i64 0],.struct [(58,0),(3,158)]⟩ .nil (jF ⟨8,32,.arr 8 1 (List.replicate 8 (.int .u32 0)),.arr 8 403⟩)) (jG (jF jH) .nil)) (jD jH .nil (jD jJ .nil (jF ⟨0,0,.arr 0 1 (List.replicate 0 (.nilp)),.arr 0 16⟩))))) (jG (jD (jK 96) (jD ⟨67,120,kD,.struct [(23,0),(5,32),(23,33),(70,65),(75,66)]⟩ (jD ⟨102,192,jW,.struct [(50,0),(3,98),(139,99),(140,101)]⟩ (jF jH) .nil) .nil) (jG .nil (jG (jF jH) .nil))) (jG (jG (jD ⟨2,32,jC,.struct [(155,0),(4,1)]⟩ (jF ⟨1,8,.agg 1 [.nilf],.struct [(283,0)]⟩) (jF jJ)) .nil) (jG (jD (jK 139) .nil (jF jJ)) (jD (jK 357) .nil (jF ⟨1,4,.int .i32 0,.int .i32⟩)))))))) (jD ⟨1,8,.int .i64 0,.int .i64⟩ (jD ⟨1,1,.bool false,.bool⟩ (jD ⟨4,24,jZ,.struct [(2,0),(3,1),(4,2),(6,3)]⟩ (jD jH (jD (jK 144) (jD ⟨52,320,jX,.struct [(25,0),(40,38),(41,44),(46,45),(46,46),(47,47),(48,48),(62,49),(44,50)]⟩ (jD jJ (jF jH) .nil) (jF jJ)) (jD CGq (jD jJ (jF jJ) (jF jH)) (jG (jF ⟨3,24,.agg 3 [.nilf,.nilf,.int .i64 0],.struct [(350,0),(199,1),(3,2)]⟩) .nil))) (jD ⟨1,8,.int .u64 0,.int .u64⟩ (jG (jD wMq (jF jJ) (jF jJ)) .nil) (jG (jG (jF ⟨2,16,.arr 2 1 (List.replicate 2 (.int .i64 0)),.arr 2 3⟩) .nil) (jF mAq)))) (jG (jD ⟨6,80,jN,.struct [(3,0),(4,1),(3,2),(38,3)]⟩ (jD ⟨2,16,.agg 2 [.int .u64 0,.int .u64 0],.struct [(48,0),(48,1)]⟩ (jG .nil (jF jJ)) (jG (jF jJ) (jF jJ))) (jD jJ .nil (jG (jF jJ) .nil))) (jD (jK 87) (jG (jF jH) .nil) (jD ⟨52,320,.agg 52 [jX],.struct [(64,0)]⟩ .nil (jG .nil (jF ⟨1,1,.int .u8 0,.int .u8⟩)))))) (jD ⟨1,8,.int .u64 0,.int .u64⟩ (jD ⟨1,16,.nili,.iface⟩ (jD (jK 142) (jG .nil (jG .nil (jF jH))) (jD ti100 (jF jJ) .nil)) (jD ⟨100,128,jQ,.struct [(3,0),(4,1),(50,2)]⟩ .nil (jD jJ .nil (jD jJ (jF ⟨1,24,.agg 1 [jY],.struct [(236,0)]⟩) .nil)))) (jD jJ (jD ⟨2,32,.agg 2 [.int .i64 0,.nils],.struct [(3,0),(42,1)]⟩ (jG (jF (jK 74)) (jF jH)) (jG (jG (jF jJ) .nil) (jF rMq))) (jG (jD wKq .nil (jG .nil (jF ⟨2,32,.agg 2 [jT],.struct [(35,0)]⟩))) (jG .nil (jD jJ (jF jJ) (jF ⟨1,4,.int .i32 0,.int .i32⟩))))))) (jD ⟨1,1,.int .u8 0,.int .u8⟩ (jG (jG (jG (jG (jD jJ .nil (jF jJ)) .nil) (jG .nil (jD jJ .nil (jF ⟨2,16,.agg 2 [.nilf,.int .i64 0],.struct [(28,0),(59,1)]⟩)))) (jD ⟨98,112,.agg 98 [.int .i64 0,jL,jL,jL,.int .i64 0],.struct [(3,0),(23,1),(23,33),(23,65),(3,97)]⟩ (jG .nil (jD jJ (jF jJ) .nil)) (jG .nil (jG (jF jH) .nil)))) (jD (jK 100) (jD (jK 247) (jD ⟨34,48,.agg 34 [.int .u8 0,jL,.int .i64 0],.struct [(5,0),(23,1),(59,33)]⟩ .nil (jD ti202 .nil (jF (jK 48)))) (jG (jG .nil (jF jJ)) (jD rNq (jF ⟨3,24,.agg 3 [.nilp,.int .i64 0,.int .i64 0],.struct [(359,0),(3,1),(3,2)]⟩) .nil))) (jD ⟨158,560,jS,.struct [(25,0),(32,38),(40,39),(41,45),(44,46),(45,48),(54,49),(55,155),(55,156),(56,157)]⟩ (jG (jG .nil (jF jJ)) (jG (jF jH) .nil)) (jG .nil (jD jJ .nil (jF jJ)))))) (jG (jD ⟨32,32,jL,.arr 32 5⟩ (jD ⟨3,56,.agg 3 [jT,.nils],.struct [(35,0),(36,2)]⟩ (jF wLq) (jD jJ (jG (jF ⟨99,120,jR,.struct [(23,0),(23,32),(48,64),(48,65),(48,66),(23,67)]⟩) .nil) (jG .nil (jF jJ)))) (jD ⟨106,224,.agg 106 [.int .u8 0,.int .i64 0,.nils,.nils,.nils,.int .u64 0,jQ],.struct [(5,0),(3,1),(46,2),(46,3),(47,4),(48,5),(52,6)]⟩ (jG (jF jJ) .nil) (jG (jG (jF jJ) (jF jJ)) .nil))) (jG (jD B9q (jG (jF wNq) .nil) (jG (jG .nil (jF jJ)) .nil)) (jD (jK 52) (jD ⟨134,176,jB,.struct [(5,0),(92,1),(23,100),(3,132),(3,133)]⟩ (jG (jF jJ) .nil) (jD jH (jF jJ) .nil)) .nil)))))
open Tryz in
noncomputable def fnT:Tr Func:=jG (jG (jD f3 (jD f7 (jD f15 (jD f31 (jD f63 (jD f127 (jF f255) .nil) (jF f191)) (jD f95 (jD f159 (jF f287) .nil) (jF f223))) (jD f47 (jD f79 (jD f143 (jF f271) .nil) (jF f207)) (jD f111 (jD f175 (jF f303) .nil) (jF f239)))) (jD f23 (jD f39 (jD f71 (jF f135) (jF f199)) (jD f103 (jD f167 (jF f295) .nil) (jF f231))) (jD f55 (jD f87 (jD f151 (jF f279) .nil) (jF f215)) (jD f119 (jF f183) (jF f247))))) (jD f11 (jD f19 (jD f35 (jD f67 (jD f131 (jF f259) .nil) (jF f195)) (jD f99 (jD f163 (jF f291) .nil) (jF f227))) (jD f51 (jD f83 (jD f147 (jF f275) .nil) (jF f211)) (jD f115 (jF f179) (jF f243)))) (jD f27 (jD f43 (jD f75 (jD f139 (jF f267) .nil) (jF f203)) (jD f107 (jD f171 (jF f299) .nil) (jF f235))) (jD f59 (jD f91 (jD f155 (jF f283) .nil) (jF f219)) (jD f123 (jF f187) (jF f251)))))) (jD f5 (jD f9 (jD f17 (jD f33 (jD f65 (jD f129 (jF f257) .nil) (jF f193)) (jD f97 (jD f161 (jF f289) .nil) (jF f225))) (jD f49 (jD f81 (jD f145 (jF f273) .nil) (jF f209)) (jD f113 (jF f177) (jF f241)))) (jD f25 (jD f41 (jD f73 (jD f137 (jF f265) .nil) (jF f201)) (jD f105 (jD f169 (jF f297) .nil) (jF f233))) (jD f57 (jD f89 (jD f153 (jF f281) .nil) (jF f217)) (jD f121 (jF f185) (jF f249))))) (jD f13 (jD f21 (jD f37 (jD f69 (jD f133 (jF f261) .nil) (jF f197)) (jD f101 (jD f165 (jF f293) .nil) (jF f229))) (jD f53 (jD f85 (jD f149 (jF f277) .nil) (jF f213)) (jD f117 (jF f181) (jF f245)))) (jD f29 (jD f45 (jD f77 (jD f141 (jF f269) .nil) (jF f205)) (jD f109 (jD f173 (jF f301) .nil) (jF f237))) (jD f61 (jD f93 (jD f157 (jF f285) .nil) (jF f221)) (jD f125 (jF f189) (jF f253))))))) (jG (jD f4 (jD f8 (jD f16 (jD f32 (jD f64 (jD f128 (jF f256) .nil) (jF f192)) (jD f96 (jD f160 (jF f288) .nil) (jF f224))) (jD f48 (jD f80 (jD f144 (jF f272) .nil) (jF f208)) (jD f112 (jD f176 (jF f304) .nil) (jF f240)))) (jD f24 (jD f40 (jD f72 (jD f136 (jF f264) .nil) (jF f200)) (jD f104 (jD f168 (jF f296) .nil) (jF f232))) (jD f56 (jD f88 (jD f152 (jF f280) .nil) (jF f216)) (jD f120 (jF f184) (jF f248))))) (jD f12 (jD f20 (jD f36 (jD f68 (jF f132) (jF f196)) (jD f100 (jD f164 (jF f292) .nil) (jF f228))) (jD f52 (jD f84 (jD f148 (jF f276) .nil) (jF f212)) (jD f116 (jF f180) (jF f244)))) (jG (jD f44 (jD f76 (jD f140 (jF f268) .nil) (jF f204)) (jD f108 (jD f172 (jF f300) .nil) (jF f236))) (jD f60 (jD f92 (jD f156 (jF f284) .nil) (jF f220)) (jD f124 (jF f188) (jF f252)))))) (jD f6 (jD f10 (jD f18 (jD f34 (jD f66 (jD f130 (jF f258) .nil) (jF f194)) (jD f98 (jD f162 (jF f290) .nil) (jF f226))) (jD f50 (jD f82 (jD f146 (jF f274) .nil) (jF f210)) (jD f114 (jF f178) (jF f242)))) (jD f26 (jD f42 (jD f74 (jD f138 (jF f266) .nil) (jF f202)) (jD f106 (jD f170 (jF f298) .nil) (jF f234))) (jD f58 (jD f90 (jD f154 (jF f282) .nil) (jF f218)) (jD f122 (jF f186) (jF f250))))) (jD f14 (jD f22 (jD f38 (jD f70 (jD f134 (jF f262) .nil) (jF f198)) (jD f102 (jF f166) (jF f230))) (jD f54 (jD f86 (jD f150 (jF f278) .nil) (jF f214)) (jD f118 (jF f182) (jF f246)))) (jD f30 (jD f46 (jD f78 (jD f142 (jF f270) .nil) (jF f206)) (jD f110 (jD f174 (jF f302) .nil) (jF f238))) (jD f62 (jD f94 (jF f158) (jF f222)) (jD f126 (jF f190) (jF f254)))))))
noncomputable def extT:Tr (List V->Option V):=jG .nil (jG .nil (jG .nil (jG (jG (jG .nil (jG (jG (jF noV) .nil) .nil)) .nil) (jG .nil (jG (jG (jG (jF frq) .nil) .nil) .nil)))))
def mpT:Tr (TypeId×TypeId):=.nil
def uxT:Tr UX:=.nil
def mtT:Tr (List (String×FuncId)):=.nil
def tGq:Cfg:=⟨λt=>tyT.get t,λf=>fnT.get f,λf=>extT.get f,λg=>Nat.ble (g+1) 3,λ_=>none,λt=>mpT.get t,λt m=>Cnq mtT t m,λk=>uxT.get k⟩
def gmq(k:List V->Heap->Option (V×Heap)):Cfg:=⟨λt=>tyT.get t,λf=>fnT.get f,λf=>extT.get f,λg=>Nat.ble (g+1) 3,λf=>match Nat.beq f 280 with|true=>some KYq|false=>match Nat.beq f 237 with|true=>some (dDq 240 33)|false=>match Nat.beq f 136 with|true=>some (dDq 247 4)|false=>match Nat.beq f 238 with|true=>some (aGq tGq 234 240 33 56)|false=>match Nat.beq f 234 with|true=>some (aGq tGq 46 92 99 120)|false=>match Nat.beq f 4 with|true=>some k|false=>none,λt=>mpT.get t,λt m=>Cnq mtT t m,λk=>uxT.get k⟩
def kA:List Nat:=[1116352408,1899447441,3049323471,3921009573,961987163,1508970993,2453635748,2870763221,3624381080,310598401,607225278,1426881987,1925078388,2162078206,2614888103,3248222580,3835390401,4022224774,264347078,604807628,770255983,1249150122,1555081692,1996064986,2554220882,2821834349,2952996808,3210313671,3336571891,3584528711,113926993,338241895,666307205,773529912,1294757372,1396182291,1695183700,1986661051,2177026350,2456956037,2730485921,2820302411,3259730800,3345764771,3516065817,3600352804,4094571909,275423344,430227734,506948616,659060556,883997877,958139571,1322822218,1537002063,1747873779,1955562222,2024104815,2227730452,2361852424,2428436474,2756734187,3204031479,3329325298]
def izq:List V->Heap->Option (V×Heap):=λ_ _=>none
def cfg:Cfg:=gmq (r4q (bGq 1 kA))
end
end Go.Proofs.YtcoldbcijgmidaaGreatDoor

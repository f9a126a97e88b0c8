/-
  What the proof of AutoRefuses stands on, part 4. No condition.
-/
import Derived.Shelf.RegionOpenPlain
import Derived.WalkKit
import Derived.Lib.Walk
import Derived.Lib.SliceRun
import Derived.Lib.AppendZerosOnto
import Derived.Lib.Overlaps
import Derived.Laws.Externs
import Derived.Laws.IdiomCopy
import Derived.Laws.NewBlocks
import Derived.Test.YtpjfmknefefapaaGreatDoorProg
import Derived.Test.YtpjfmknefefapaaGreatDoorZAutoRefusesC
set_option linter.unusedSimpArgs false
set_option linter.unusedVariables false
namespace Go.Proofs.YtpjfmknefefapaaGreatDoor
section
open Go.RowKit
section
variable {C:Cfg} {G:Nat->Option W}
theorem doq{Γ Γ':Ctx}(hD:∀b,Γ.D b->Γ'.D b)(hv:∀b,Γ.D b->Γ'.h.val b=Γ.h.val b):∀{l:List W} {vs:List V},acq l=true->RVL Γ l vs->RVL Γ' l vs
 |[],vs,_,h=>by simp only[RVL] at h⊢;exact h
 |w::l,vs,hp,h=>by
  simp only[acq,Zb] at hp;simp only[RVL] at h⊢;obtain⟨v,vs',rfl,⟨h2,h3⟩,h4⟩:=h;exact⟨v,vs',rfl,⟨h2,Jaq hD hv hp.1 h3⟩,doq hD hv hp.2 h4⟩
noncomputable def YieldOK(C:Cfg)(G:Nat->Option W)(L:Nat)(R:Res)(ws:List W)(P:Bool->Res->Prop):Prop:=
 ∀Γ hp X vs,SatH C G Γ hp X R->RVL Γ ws vs->∃b R' n Γ' X',P b R'/\zNq C n L vs Γ.h=some (.bool b,Γ'.h)/\Γ'.nw=Γ.nw/\Γ.Le Γ'/\SatH C G Γ' hp X' R'/\Frm Γ.nw Γ hp X Γ' hp X'
noncomputable def Yl(C:Cfg)(G:Nat->Option W)(L:Nat)(E:Res->Prop):List (List W) ->Res->Prop
 |[],R=>E R
 |x::l,R=>YieldOK C G L R x λb R1=>match b with
  |true=>Yl C G L E l R1
  |false=>E R1
noncomputable def qAq(C:Cfg)(G:Nat->Option W)(f:FuncId)(c:List W)(l:List (List W)):Prop:=
 ∀L E R,Yl C G L E l R->aiq C G f 0 (.yield L::c) [] R λ_ _ _ R'=>E R'
theorem q1q{o:Oper}{fr:FrW}{hp:HpW}{nw:Nat}{R:Res}{post:W->HpW->Nat->Res->Option EvW->Prop}{x:Operand}{xs:Array Operand}{ats:Array TypeId}{L:Nat}{us:List W}{P:Bool->Res->Prop}
  (ho:o.op= .call ⟨.value x,xs,ats⟩) (hx:evW C G fr x=some (.yield L)) (hxs:ayq C G fr xs.toList=some us) (hy:YieldOK C G L R us P) (hpost:∀b R',P b R'->post (.bool b) hp nw R' (some .dirty)):aeq C G o fr hp nw R post:=λΓ X frv hnw s hf=>by
 subst hnw;obtain⟨u,e1,e2⟩:=zSq hf s.gl hx;rw[RV_yield] at e2;subst e2
 obtain⟨us',e5,e6⟩:=xoq hf s.gl hxs;obtain⟨b,R',n,Γ',X',g1,g2,g3,g4,g5,g6⟩:=hy Γ hp X us' s e6;obtain⟨k1,k2⟩:=Y7q (C:=C) ho frv Γ.h;refine⟨n,_,hp,R',some .dirty,.bool b,Γ'.h,Γ',X',by rw[g3];exact hpost b R' g1,?_,⟨k1,λ_ _ _=>trivial⟩,rfl,g4,g5,g6,RV_bool.2 rfl⟩;simp only[opV,k1,k2];simp only[ho,jfq,e1,e5];exact g2
noncomputable def a9q:FrW->List Tmp->List W->FrW
 |fr,p::ps,w::ws=>a9q ((p,w)::fr) ps ws
 |fr,_,_=>fr
theorem dHq{Γ:Ctx}:∀{ps:List Tmp} {ws:List W} {vs:List V} {fr:FrW} {frv:Tr V},FRel Γ fr frv->RVL Γ ws vs->FRel Γ (a9q fr ps ws) (Jrq frv ps vs)
 |[],ws,vs,fr,frv,hf,hv=>by cases ws<;>cases vs<;>exact hf
 |p::ps,[],vs,fr,frv,hf,hv=>by
  simp only[RVL] at hv;subst hv
  exact hf
 |p::ps,w::ws,vs,fr,frv,hf,hv=>by
  simp only[RVL] at hv;obtain⟨v,vs',rfl,h1,h2⟩:=hv;exact dHq (fr:=(p,w)::fr) (frv:=frv.set p (some v)) (FRel.put (d:=some p) hf h1) h2
theorem FRel.le{Γ Γ':Ctx}{fr:FrW}{frv:Tr V}(le:Γ.Le Γ')(h:FRel Γ fr frv):FRel Γ' fr frv:=h.mono le
structure SatN(C:Cfg)(G:Nat->Option W)(Γ:Ctx)(hp:HpW)(X:Nat->Prop)(R:Res):Prop where
 own:∀b ty w,hget hp b=some (ty,w) ->b<Γ.nw/\¬Γ.D (Γ.σ b)/\¬X (Γ.σ b)/\Γ.σ b<Γ.h.next/\∃v,Γ.h.get (Γ.σ b)=some (.cells ty v)/\RV Γ w v
 inj:∀b b' x y,hget hp b=some x->hget hp b'=some y->Γ.σ b=Γ.σ b'->b=b'
 nd:(hp.map (·.1)).Nodup
 dX:∀c,Γ.D c->¬X c
 xlt:∀c,X c->c<Γ.h.next
 dlt:∀c,Γ.D c->c<Γ.h.next
 res:R.p Γ.h Γ.D X
 gl:GRel C G Γ
theorem SatH.own_lt{Γ:Ctx}{hp:HpW}{X:Nat->Prop}{R:Res}(s:SatH C G Γ hp X R){b:Nat}{x:TypeId×W}(h:hget hp b=some x):Γ.σ b<Γ.h.next:=by
 obtain⟨_,_,_,u,h1,_⟩:=s.own b x.1 x.2 h;rcases ZM (Γ.σ b) Γ.h.next with h|h
 .exact h
 .rw[s.wf _ h] at h1;cases h1
theorem SatH.n{Γ:Ctx}{hp:HpW}{X:Nat->Prop}{R:Res}(s:SatH C G Γ hp X R):SatN C G Γ hp X R:=
 ⟨λb ty w h=>by obtain⟨q1,q2,q3,q4⟩:=s.own b ty w h;exact⟨q1,q2,q3,s.own_lt h,q4⟩,s.inj,s.nd,s.dX,s.xlt,s.dlt,s.res,s.gl⟩
theorem SatN.later{nw:Nat}{σ:Nat->Nat}{D D':Nat->Prop}{h h':Heap}{hp:HpW}{X X':Nat->Prop}{R:Res}(s:SatN C G ⟨nw,σ,D,h⟩ hp X R)(hD:∀c,D c->D' c)(hv:∀c,D c->h'.val c=h.val c)(hn:h.next<=h'.next)
  (hX:∀c,amq ⟨nw,σ,D,h⟩ hp c\/X c->X' c) (hk:∀c,X' c->h'.get c=h.get c) (hdX:∀c,D' c->¬X' c) (hdl:∀c,D' c->c<h'.next):SatN C G ⟨nw,σ,D',h'⟩ hp X R:=by
 have le:Ctx.Le ⟨nw,σ,D,h⟩ ⟨nw,σ,D',h'⟩:=⟨Zc _,λ_ _=>rfl,hD,hv⟩;refine⟨λb ty w hb=>?_,s.inj,s.nd,λc hd hx=>hdX c hd (hX c (.inr hx)),λc hx=>Zw (s.xlt c hx) hn,hdl,R.st _ _ _ _ _ s.res hD hv (λc hc=>hk c (hX c (.inr hc))) hn,s.gl.mono le⟩;obtain⟨q1,q2,q3,q4,u,q5,q6⟩:=s.own b ty w hb;have hx:=hX (σ b) (.inl ⟨b,_,hb,rfl⟩);exact⟨q1,λhd=>hdX _ hd hx,q3,Zw q4 hn,u,(hk _ hx).trans q5,q6.mono le⟩
theorem SatN.h{Γ:Ctx}{hp:HpW}{X:Nat->Prop}{R:Res}(s:SatN C G Γ hp X R)(wf:∀i,Γ.h.next<=i->Γ.h.get i=none):SatH C G Γ hp X R:=
 ⟨wf,λb ty w h=>by obtain⟨q1,q2,q3,_,q4⟩:=s.own b ty w h;exact⟨q1,q2,q3,q4⟩,s.inj,s.nd,s.dX,s.xlt,s.dlt,s.res,s.gl⟩
structure FrmC(N0:Nat)(Γs:Ctx)(hps:HpW)(Xs:Nat->Prop)(σ:Nat->Nat)(hp:HpW)(X:Nat->Prop):Prop where
 sig:∀b,b<N0->σ b=Γs.σ b
 oext:∀b x,b<N0->hget hp b=some x->∃y,hget hps b=some y
 onum:∀b x,N0<=b->hget hp b=some x->Γs.h.next<=σ b\/∃k y,N0<=k/\hget hps k=some y/\Γs.σ k=σ b
 xnew:∀c,X c->Xs c\/Γs.h.next<=c
theorem FrmC.own{N0:Nat}{Γs Γ:Ctx}{hps hp:HpW}{Xs X:Nat->Prop}(a:FrmC N0 Γs hps Xs Γ.σ hp X){c:Nat}(h:amq Γ hp c):amq Γs hps c\/Γs.h.next<=c:=by
 obtain⟨b,x,h1,rfl⟩:=h;rcases ZM b N0 with hb|hb
 .obtain⟨y,hy⟩:=a.oext b x hb h1;exact .inl ⟨b,y,hy,(a.sig b hb).symm⟩
 .rcases a.onum b x hb h1 with h|⟨k,y,_,h2,h3⟩
  .exact .inr h
  .exact .inl ⟨k,y,h2,h3⟩
theorem FrmC.step{N0:Nat}{Γs Γ Γ':Ctx}{hps hp hp':HpW}{Xs X X' S:Nat->Prop}(a:FrmC N0 Γs hps Xs Γ.σ hp X)(hn:Γs.h.next<=Γ.h.next)(hS:∀c,S c->Γs.h.next<=c)(f:Frm N0 Γ hp (λc=>X c\/S c) Γ' hp' (λc=>X' c\/S c)):FrmC N0 Γs hps Xs Γ'.σ hp' X':=by
 refine⟨λb hb=>(f.sig b hb).trans (a.sig b hb),λb x hb h=>?_,λb x hb h=>?_,λc h=>?_⟩
 .obtain⟨y,hy⟩:=f.oext b x hb h;exact a.oext b y hb hy
 .rcases f.onum b x hb h with h|⟨k,y,h1,h2,h3⟩
  .exact .inl (Zs hn h)
  .rcases a.onum k y h1 h2 with h|⟨j,z,h4,h5,h6⟩
   .exact .inl (by rw[<-h3];exact h)
   .exact .inr ⟨j,z,h4,h5,h6.trans h3⟩
 .rcases f.xnew c (.inl h) with (h|h)|h
  .exact a.xnew c h
  .exact .inr (hS c h)
  .exact .inr (Zs hn h)
theorem Frm.more{m:Nat}{Γ Γ':Ctx}{hp hp':HpW}{X X':Nat->Prop}(S:Nat->Prop)(f:Frm m Γ hp X Γ' hp' X'):Frm m Γ hp (λc=>X c\/S c) Γ' hp' (λc=>X' c\/S c):=
 ⟨f.sig,f.mle,f.next,λc h1 h2 h3=>f.keep c h1 h2 (λh=>h3 (.inl h)),f.dsub,λc h=>by
  rcases f.dnew c h with h|(h|h)|h
  .exact .inl h
  .exact .inr (.inl (.inl h))
  .exact .inr (.inl (.inr (.inl h)))
  .exact .inr (.inr h),f.oext,f.onum,λc h=>by
  rcases h with h|h
  .rcases f.xnew c h with h|h
   .exact .inl (.inl h)
   .exact .inr h
  .exact .inl (.inr h),λk h1 h2 h3=>f.wmin k h1 h2 λc hc=>h3 c (by
   rcases hc with hc|hc
   .exact .inl hc
   .exact .inr (.inl hc))⟩
theorem bkq{Γ:Ctx}{hp:HpW}{X:Nat->Prop}{R:Res}(s:SatH C G Γ hp X R){L:Nat}{B:Blk}(hL:L<Γ.h.next)(h1:¬amq Γ hp L)(h2:¬X L)(h3:¬Γ.D L):
  Γ.Le {Γ with h:=Γ.h.put L B}/\SatH C G {Γ with h:=Γ.h.put L B} hp X R:=by
 have ne:∀{c},c≠L->(Γ.h.put L B).get c=Γ.h.get c:=λ{c} h=>by rw[Heap.get_put,Zg h]
 have le:Γ.Le {Γ with h:=Γ.h.put L B}:=⟨Zc _,λ_ _=>rfl,λ_ h=>h,λc hc=>yRq (ne λe=>h3 (e▸hc))⟩;refine⟨le,λi hi=>?_,λb ty w hb=>?_,s.inj,s.nd,s.dX,s.xlt,s.dlt,R.st _ _ _ _ _ s.res le.D le.val (λc hc=>ne λe=>h2 (e▸hc)) (Zc _),s.gl.mono le⟩
 .have hi:Γ.h.next<=i:=hi;show(Γ.h.put L B).get i=none;rw[ne Xd];exact s.wf i hi
 .obtain⟨q1,q2,q3,u,q4,q5⟩:=s.own b ty w hb;exact⟨q1,q2,q3,u,(ne λe=>h1 ⟨b,_,hb,e⟩).trans q4,q5.mono le⟩
theorem gLq{m:Nat}{Γ:Ctx}{hp:HpW}{X S:Nat->Prop}{L:Nat}{B:Blk}(hS:S L):Frm m Γ hp (λc=>X c\/S c) {Γ with h:=Γ.h.put L B} hp (λc=>X c\/S c):=
 ⟨λ_ _=>rfl,λh=>h,Zc _,λc _ _ h3=>by
  show(Γ.h.put L B).get c=_;rw[Heap.get_put,Zg λe:c=L=>h3 (.inr (by rw[e];exact hS))],λ_ h=>h,λ_ h=>.inl h,λ_ x _ h=>⟨x,h⟩,λb x hb h=>.inr ⟨b,x,hb,h,rfl⟩,λ_ h=>.inl h,λk h1 _ h3=>fKq h1 (h3 L (.inr (.inr hS)))⟩
section
variable (C:Cfg) (G:Nat->Option W) (N0:Nat) (Γs:Ctx) (hps:HpW) (Xs:Nat->Prop) (frv:Tr V) (ps:Array Tmp) (asg bd:Code) (fr:FrW)
noncomputable def Two(Γs:Ctx):Nat->Prop:=λc=>c=Γs.h.next+1\/c=Γs.h.next
noncomputable def sBq(ls:LoopState)(pend:Option Code)(hp:HpW)(nw:Nat)(R:Res)(h:Heap)(D X:Nat->Prop):Prop:=
 ∃σ Dc Xc,h.get (Γs.h.next+1)=some (.loop ls pend frv ps asg bd Γs.h.next)/\h.get Γs.h.next=some (.dfr false)/\(∀c,Two Γs c->X c)/\(∀c,Dc c->D c)/\SatN C G ⟨nw,σ,Dc,h⟩ hp Xc R/\FRel ⟨N0,σ,Dc,h⟩ fr frv/\N0<=nw/\
  (∀c,amq ⟨nw,σ,Dc,h⟩ hp c\/Xc c->X c)/\(∀c,Two Γs c->¬amq ⟨nw,σ,Dc,h⟩ hp c/\¬Xc c)/\FrmC N0 Γs hps Xs σ hp Xc/\Γs.h.next+2<=h.next
noncomputable def xBq(ls:LoopState)(pend:Option Code)(hp:HpW)(nw:Nat)(R:Res):Res:=
 ⟨sBq C G N0 Γs hps Xs frv ps asg bd fr ls pend hp nw R,λh h' D D' X hp' hD hv hk hn=>by
  obtain⟨σ,Dc,Xc,g1,g2,g3,g4,g5,g6,g7,g8,g9,g10,g11⟩:=hp';have hvc:∀c,Dc c->h'.val c=h.val c:=λc hc=>hv c (g4 c hc)
  refine⟨σ,Dc,Xc,(hk _ (g3 _ (.inl rfl))).trans g1,(hk _ (g3 _ Jm)).trans g2,g3,λc hc=>hD c (g4 c hc),?_,FRel.le (Γ:=⟨N0,σ,Dc,h⟩) (Γ':=⟨N0,σ,Dc,h'⟩) ⟨Zc _,λ_ _=>rfl,λ_ h=>h,hvc⟩ g6,g7,g8,g9,g10,Zs g11 hn⟩;have le:Ctx.Le ⟨nw,σ,Dc,h⟩ ⟨nw,σ,Dc,h'⟩:=⟨Zc _,λ_ _=>rfl,λ_ h=>h,hvc⟩;refine⟨λb ty w hb=>?_,g5.inj,g5.nd,g5.dX,λc hc=>Zw (g5.xlt c hc) hn,λc hc=>Zw (g5.dlt c hc) hn,R.st _ _ _ _ _ g5.res le.D le.val (λc hc=>hk c (g8 c (.inr hc))) hn,g5.gl.mono le⟩;obtain⟨q1,q2,q3,q4,u,q5,q6⟩:=g5.own b ty w hb;exact⟨q1,q2,q3,Zw q4 hn,u,(hk _ (g8 _ (.inl ⟨b,_,hb,rfl⟩))).trans q5,q6.mono le⟩⟩
end
theorem cDq{N0:Nat}{Γs:Ctx}{hps:HpW}{Xs:Nat->Prop}{frv:Tr V}{ps:Array Tmp}{asg bd:Code}{fr:FrW}{ls:LoopState}{pend:Option Code}{hpc hp2:HpW}{σ:Nat->Nat}{nwc:Nat}{R2 Re:Res}{Γ Γ2:Ctx}{hpe:HpW}{X Xc X2:Nat->Prop}{Dc:Nat->Prop}
  (s:SatH C G Γ hpe X Re) (hX:∀c,amq ⟨nwc,σ,Γ.D,Γ.h⟩ hpc c\/Xc c->X c) (hT:∀c,Two Γs c->X c) (hDc:∀c,Dc c->Γ.D c) (hfr:FRel ⟨N0,σ,Dc,Γ.h⟩ fr frv) (fc:FrmC N0 Γs hps Xs σ hpc Xc) (hsn:Γs.h.next+2<=Γ.h.next)
  (F:Frm N0 ⟨nwc,σ,Γ.D,Γ.h⟩ hpc (λc=>Xc c\/Two Γs c) Γ2 hp2 (λc=>X2 c\/Two Γs c)) (s2:SatH C G Γ2 hp2 X2 R2) (hN:N0<=Γ2.nw)
  (hL:Γ2.h.get (Γs.h.next+1)=some (.loop ls pend frv ps asg bd Γs.h.next)) (hd:Γ2.h.get Γs.h.next=some (.dfr false)) (hne:∀c,Two Γs c->¬amq Γ2 hp2 c/\¬X2 c/\¬Γ2.D c):
  ∃Γ' X',Γ'.h=Γ2.h/\Γ'.nw=Γ.nw/\Γ.Le Γ'/\SatH C G Γ' hpe X' (xBq C G N0 Γs hps Xs frv ps asg bd fr ls pend hp2 Γ2.nw R2)/\Frm Γ.nw Γ hpe X Γ' hpe X':=by
 have inX:∀{c},amq ⟨nwc,σ,Γ.D,Γ.h⟩ hpc c\/Xc c\/Two Γs c->X c:=λ{c} h=>by
  rcases h with h|h|h
  .exact hX c (.inl h)
  .exact hX c (.inr h)
  .exact hT c h
 have hn:Γ.h.next<=Γ2.h.next:=F.next;have keep:∀{c},c<Γ.h.next->¬X c->Γ2.h.get c=Γ.h.get c:=λ{c} h1 h2=>F.keep c h1 (λh=>h2 (inX (.inl h))) (λh=>h2 (inX (.inr h)))
 let X':Nat->Prop:=λc=>amq Γ2 hp2 c\/X2 c\/Two Γs c
 let Γ':Ctx:=⟨Γ.nw,Γ.σ,Γ2.D,Γ2.h⟩
 have xnew:∀c,X' c->X c\/Γ.h.next<=c:=λc h=>by
  rcases h with h|h|h
  .rcases F.onew c h with h|h
   .exact .inl (inX (.inl h))
   .exact .inr h
  .rcases F.xnew c (.inl h) with h|h
   .exact .inl (inX (.inr h))
   .exact .inr h
  .exact .inl (inX (.inr (.inr h)))
 have dnew:∀c,Γ2.D c->Γ.D c\/X c\/Γ.h.next<=c:=λc h=>by
  rcases F.dnew c h with h|(h|h)|h
  .exact .inl h
  .exact .inr (.inl (inX (.inl h)))
  .exact .inr (.inl (inX (.inr h)))
  .exact .inr (.inr h)
 have le:Γ.Le Γ':=⟨Zc _,λ_ _=>rfl,F.dsub,λc hc=>yRq (keep (s.dlt c hc) (s.dX c hc))⟩;have two:∀c,Two Γs c->Γs.h.next<=c/\c<Γs.h.next+2:=λc h=>by rcases h with rfl|rfl<;>omega
 have fc2:FrmC N0 Γs hps Xs Γ2.σ hp2 X2:=FrmC.step (Γ:=⟨nwc,σ,Γ.D,Γ.h⟩) fc (by show Γs.h.next<=Γ.h.next;omega) (λc h=>(two c h).1) F;have hfr':FRel ⟨N0,Γ2.σ,Γ2.D,Γ2.h⟩ fr frv:=FRel.le (Γ:=⟨N0,σ,Dc,Γ.h⟩) ⟨Zc _,λb hb=>F.sig b hb,λc hc=>F.dsub c (hDc c hc),λc hc=>yRq (keep (s.dlt c (hDc c hc)) (s.dX c (hDc c hc)))⟩ hfr;refine⟨Γ',X',rfl,rfl,le,⟨s2.wf,λb ty w hb=>?_,s.inj,s.nd,λc hd hx=>?_,λc hx=>?_,s2.dlt,?_,s.gl.mono le⟩,⟨λ_ _=>rfl,λh=>h,hn,λc h1 _ h3=>keep h1 h3,F.dsub,λc h=>?_,λ_ x _ h=>⟨x,h⟩,λb x hb h=>.inr ⟨b,x,hb,h,rfl⟩,xnew,λk h1 h2 h3=>F.wmin k h1 h2 λc hc=>h3 c (.inr (inX hc))⟩⟩
 .obtain⟨q1,q2,q3,u,q4,q5⟩:=s.own b ty w hb;have lt:=s.own_lt hb;refine⟨q1,λhd=>?_,λhx=>?_,u,(keep lt q3).trans q4,q5.mono le⟩
  .rcases dnew _ hd with h|h|h
   .exact q2 h
   .exact q3 h
   .have h:Γ.h.next<=Γ.σ b:=h;omega
  .rcases xnew _ hx with h|h
   .exact q3 h
   .have h:Γ.h.next<=Γ.σ b:=h;omega
 .rcases hx with ⟨b,x,h1,rfl⟩|hx|hx
  .exact(s2.own b x.1 x.2 h1).2.1 hd
  .exact s2.dX c hd hx
  .exact(hne c hx).2.2 hd
 .rcases hx with ⟨b,x,h1,rfl⟩|hx|hx
  .exact s2.own_lt h1
  .exact s2.xlt c hx
  .have:=two c hx;show c<Γ2.h.next;omega
 .exact⟨Γ2.σ,Γ2.D,X2,hL,hd,λc h=>.inr (.inr h),λ_ h=>h,s2.n,hfr',hN,λc h=>by
   rcases h with h|h
   .exact .inl h
   .exact .inr (.inl h),λc h=>⟨(hne c h).1,(hne c h).2.1⟩,fc2,by show _<=Γ2.h.next;omega⟩
 .rcases dnew c h with h|h|h
  .exact .inl h
  .exact .inr (.inl (.inr h))
  .exact .inr (.inr h)
noncomputable def Yoq:Exit->Option Code
 |.ret=>some .ret
 |.exit id=>some (.exit id)
 |.goto l=>some (.goto l)
 |_=>none
noncomputable def oQq{α:Type}(C:Cfg)(G:Nat->Option W)(m k0:Nat)(I:α->Prop)(H:α->HpW)(N:α->Nat)(RR:α->Res)(fr:FrW)(Q:qpq):qpq
 |.normal,fr',hp',nw',R'=>∃a,I a/\Ent C G m k0 fr' hp' nw' R' [] (H a) (N a) (RR a)
 |.ret,_,hp',nw',R'=>Q .ret fr hp' nw' R'
 |.exit id,_,hp',nw',R'=>Q (.exit id) fr hp' nw' R'
 |.goto l,_,hp',nw',R'=>Q (.goto l) fr hp' nw' R'
 |_,_,_,_,_=>False
noncomputable def szq(C:Cfg)(G:Nat->Option W)(m k0:Nat)(bd:Code)(Q:qpq):qpq:=λx fr hp nw R=>x= .normal/\CoW C G m k0 true bd fr hp nw R Q
theorem Qnq{m k0:Nat}{bd:Code}{fr:FrW}{hp:HpW}{nw:Nat}{R:Res}{Q:qpq}(h:CoW C G m k0 true bd fr hp nw R Q):szq C G m k0 bd Q .normal fr hp nw R:=⟨rfl,h⟩
theorem Jwq{α:Type}{m k0:Nat}{I:α->Prop}{H:α->HpW}{N:α->Nat}{RR:α->Res}{fr fr':FrW}{hp:HpW}{nw:Nat}{R:Res}{Q:qpq}(a:α)(ha:I a)(he:Ent C G m k0 fr' hp nw R [] (H a) (N a) (RR a)):oQq C G m k0 I H N RR fr Q .normal fr' hp nw R:=⟨a,ha,he⟩
theorem jMq{α:Type}{m k0:Nat}{I:α->Prop}{H:α->HpW}{N:α->Nat}{RR:α->Res}{fr fr':FrW}{hp:HpW}{nw:Nat}{R:Res}{Q:qpq}{x:Exit}(hx:Yoq x≠none)(h:Q x fr hp nw R):oQq C G m k0 I H N RR fr Q x fr' hp nw R:=by
 cases x<;>first|exact h|exact absurd rfl hx
theorem Jiq{m:Nat}{Γs Γa Γb:Ctx}{hpa hpb:HpW}{Xa Xb:Nat->Prop}(f:Frm m Γa hpa Xa Γb hpb Xb)(h:∀c,Two Γs c->c<Γa.h.next/\¬amq Γa hpa c/\¬Xa c/\¬Γa.D c):
  (∀c,Two Γs c->c<Γb.h.next/\¬amq Γb hpb c/\¬Xb c/\¬Γb.D c)/\∀c,Two Γs c->Γb.h.get c=Γa.h.get c:=by
 refine⟨λc hc=>?_,λc hc=>?_⟩
 .obtain⟨h1,h2,h3,h4⟩:=h c hc;refine⟨Zw h1 f.next,λho=>?_,λhx=>?_,λhd=>?_⟩
  .rcases f.onew c ho with h|h
   .exact h2 h
   .omega
  .rcases f.xnew c hx with h|h
   .exact h3 h
   .omega
  .rcases f.dnew c hd with h|(h|h)|h
   .exact h4 h
   .exact h2 h
   .exact h3 h
   .omega
 .obtain⟨h1,h2,h3,h4⟩:=h c hc;exact f.keep c h1 h2 h3
theorem lNq{α:Type}{N0 k0:Nat}{Γs:Ctx}{hps:HpW}{Xs:Nat->Prop}{frv:Tr V}{ps:Array Tmp}{asg bd:Code}{fr:FrW}{I:α->Prop}{H:α->HpW}{N:α->Nat}{RR:α->Res}{Q:qpq}{hp:HpW}{nw:Nat}{R:Res}{x:List W}(hk0:k0<=Γs.h.next)
  (hx:acq x=true) (hlen:x.length=ps.size) (hb:CoW C G N0 k0 true asg (a9q fr ps.toList x) hp nw R (szq C G N0 k0 bd (oQq C G N0 k0 I H N RR fr Q))):
  YieldOK C G (Γs.h.next+1) (xBq C G N0 Γs hps Xs frv ps asg bd fr .ready none hp nw R) x λb R'=>match b with
   |true=>∃a,I a/\R'=xBq C G N0 Γs hps Xs frv ps asg bd fr .ready none (H a) (N a) (RR a)
   |false=>∃e pend hp' nw' R'',Yoq e=some pend/\Q e fr hp' nw' R''/\R'=xBq C G N0 Γs hps Xs frv ps asg bd fr .done (some pend) hp' nw' R'':=by
 intro Γ hpe X vs s hv;obtain⟨σ,Dc,Xc,gL,gd,hT,hDc,sn,hfr,hN,hX,hne,fc,hsn⟩:=s.res;let Γc:Ctx:=⟨nw,σ,Γ.D,Γ.h⟩
 have sc:SatH C G Γc hp Xc R:=(sn.later (D':=Γ.D) (h':=Γ.h) hDc (λ_ _=>rfl) (Zc _) hX (λ_ _=>rfl) s.dX s.dlt).h s.wf;have hvc:RVL Γc x vs:=doq (Γ:=Γ) (Γ':=Γc) (λ_ h=>h) (λ_ _=>rfl) hx hv;have hfc:FRel Γc fr frv:=FRel.le (Γ:=⟨N0,σ,Dc,Γ.h⟩) ⟨hN,λ_ _=>rfl,hDc,λ_ _=>rfl⟩ hfr;have two:∀c,Two Γs c->Γs.h.next<=c/\c<Γs.h.next+2:=λc h=>by rcases h with rfl|rfl<;>omega
 have t0:∀c,Two Γs c->c<Γc.h.next/\¬amq Γc hp c/\¬Xc c/\¬Γc.D c:=λc h=>⟨by have:=two c h;show c<Γ.h.next;omega,(hne c h).1,(hne c h).2,λhd=>s.dX c hd (hT c h)⟩
 obtain⟨n1,x1,st1,Γ1,X1,fr1,hp1,R1,g1,s1,f1,r1,rfl,hbd⟩:=hb Γc Xc ⟨Jrq frv ps.toList vs,Γ.h,[],true⟩ rfl hN (by show k0<=Γ.h.next;omega) rfl ⟨rfl,dHq hfc hvc,sc,by simp,YJ⟩;obtain⟨t1,k1⟩:=Jiq f1 t0;have gL1:st1.h.get (Γs.h.next+1)=some (.loop .ready none frv ps asg bd Γs.h.next):=by rw[s1.hh,k1 _ (.inl rfl)];exact gL
 have gd1:Γ1.h.get Γs.h.next=some (.dfr false):=by rw[k1 _ Jm];exact gd
 obtain⟨le1,sb⟩:=bkq (B:=.loop .busy none frv ps asg bd Γs.h.next) s1.sat (t1 _ (.inl rfl)).1 (t1 _ (.inl rfl)).2.1 (t1 _ (.inl rfl)).2.2.1 (t1 _ (.inl rfl)).2.2.2;let Γb:Ctx:={Γ1 with h:=Γ1.h.put (Γs.h.next+1) (.loop .busy none frv ps asg bd Γs.h.next)}
 have ds1:∀d∈st1.ds,k0<=d/\d<Γb.h.next/\Γb.h.get d=some (.dfr false)/\¬amq Γb hp1 d/\¬X1 d/\¬Γb.D d:=λd hd=>by
  obtain⟨q1,q2,q3,q4,q5,q6⟩:=s1.ds d hd;refine⟨q1,q2,?_,q4,q5,q6⟩;show(Γ1.h.put _ _).get d=_;have hne:d≠Γs.h.next+1:=λe=>by rw[e,<-s1.hh,gL1] at q3;cases q3
  rw[Heap.get_put,Zg hne];exact q3
 have tb:∀c,Two Γs c->c<Γb.h.next/\¬amq Γb hp1 c/\¬X1 c/\¬Γb.D c:=t1
 obtain⟨n2,x2,st2,Γ2,X2,fr2,hp2,R2,g2,s2,f2,r2,q⟩:=hbd Γb X1 ⟨st1.fr,st1.h.put (Γs.h.next+1) (.loop .busy none frv ps asg bd Γs.h.next),st1.ds,st1.rd⟩ rfl (f1.mle hN) (by have:=f1.next;have:Γ.h.next<=Γ1.h.next:=this;show k0<=Γ1.h.next;omega) r1
  ⟨by rw[s1.hh],s1.fr.mono le1,sb,ds1,s1.nd⟩
 obtain⟨t2,k2⟩:=Jiq f2 tb
 have gL2:st2.h.get (Γs.h.next+1)=some (.loop .busy none frv ps asg bd Γs.h.next):=by
  rw[s2.hh,k2 _ (.inl rfl)];show(Γ1.h.put _ _).get _=_;rw[Heap.get_put,Zt rfl]
 have gd2:Γ2.h.get Γs.h.next=some (.dfr false):=by
  rw[k2 _ Jm];show(Γ1.h.put _ _).get _=_;rw[Heap.get_put,Zg Xd];exact gd1
 have F:Frm N0 Γc hp (λc=>Xc c\/Two Γs c) Γ2 hp2 (λc=>X2 c\/Two Γs c):=(f1.more (Two Γs)).trans ((gLq (.inl rfl)).trans (f2.more (Two Γs)))
 have key:∀{Γe:Ctx} {hpe2:HpW} {Xe:Nat->Prop} {Re:Res} (ls:LoopState) (pend:Option Code),SatH C G Γe hpe2 Xe Re->Frm N0 Γc hp (λc=>Xc c\/Two Γs c) Γe hpe2 (λc=>Xe c\/Two Γs c) ->N0<=Γe.nw->(∀c,Two Γs c->c<Γe.h.next/\¬amq Γe hpe2 c/\¬Xe c/\¬Γe.D c) ->Γe.h.get Γs.h.next=some (.dfr false) ->
   ∃Γ' X',Γ'.h=Γe.h.put (Γs.h.next+1) (.loop ls pend frv ps asg bd Γs.h.next)/\Γ'.nw=Γ.nw/\Γ.Le Γ'/\SatH C G Γ' hpe X' (xBq C G N0 Γs hps Xs frv ps asg bd fr ls pend hpe2 Γe.nw Re)/\Frm Γ.nw Γ hpe X Γ' hpe X':=λ{Γe hpe2 Xe Re} ls pend se Fe hNe te gde=>by
  obtain⟨le2,sf⟩:=bkq (B:=.loop ls pend frv ps asg bd Γs.h.next) se (te _ (.inl rfl)).1 (te _ (.inl rfl)).2.1 (te _ (.inl rfl)).2.2.1 (te _ (.inl rfl)).2.2.2;exact cDq (Γ2:={Γe with h:=Γe.h.put (Γs.h.next+1) (.loop ls pend frv ps asg bd Γs.h.next)}) s hX hT hDc hfr fc hsn (Fe.trans (gLq (.inl rfl))) sf hNe (by rw[Heap.get_put,Zt rfl]) (by rw[Heap.get_put,Zg Xd];exact gde) (λc h=>(te c h).2)
 have l1:=qDq C (Nat.le_max_left n1 n2);have l2:=qDq C (Nat.le_max_right n1 n2);have e1:zdq ⟨yPq C (max n1 n2),zNq C (max n1 n2)⟩ ⟨ybq C (max n1 n2),zRq C (max n1 n2)⟩ C asg ⟨Jrq frv ps.toList vs,Γ.h,[],true⟩=some (.normal,st1):=zIq l1.1 l1.2 asg g1;have e2:zdq ⟨yPq C (max n1 n2),zNq C (max n1 n2)⟩ ⟨ybq C (max n1 n2),zRq C (max n1 n2)⟩ C bd ⟨st1.fr,st1.h.put (Γs.h.next+1) (.loop .busy none frv ps asg bd Γs.h.next),st1.ds,st1.rd⟩=some (x2,st2):=zIq l2.1 l2.2 bd g2;have hlv:Nat.beq vs.length ps.size=true:=by rw[x3q hv,hlen];simp
 have hN2:N0<=Γ2.nw:=f2.mle (f1.mle hN)
 have leave:∀(e:Exit) (pend:Code),x2=e->Yoq e=some pend->Q e fr hp2 Γ2.nw R2->zNq C (max n1 n2+1) (Γs.h.next+1) vs Γ.h=some (.bool false,st2.h.put (Γs.h.next+1) (.loop .done (some pend) frv ps asg bd Γs.h.next)) ->
   ∃b R' n Γ' X',(match b with
    |true=>∃a,I a/\R'=xBq C G N0 Γs hps Xs frv ps asg bd fr .ready none (H a) (N a) (RR a)
    |false=>∃e pend hp' nw' R'',Yoq e=some pend/\Q e fr hp' nw' R''/\R'=xBq C G N0 Γs hps Xs frv ps asg bd fr .done (some pend) hp' nw' R'')/\zNq C n (Γs.h.next+1) vs Γ.h=some (.bool b,Γ'.h)/\Γ'.nw=Γ.nw/\Γ.Le Γ'/\SatH C G Γ' hpe X' R'/\Frm Γ.nw Γ hpe X Γ' hpe X':=λe pend _ hp hq hr=>by
  obtain⟨Γ',X',h1,h2,h3,h4,h5⟩:=key .done (some pend) s2.sat F hN2 t2 gd2;exact⟨false,_,max n1 n2+1,Γ',X',⟨e,pend,hp2,Γ2.nw,R2,hp,hq,rfl⟩,by rw[h1,<-s2.hh];exact hr,h2,h3,h4,h5⟩
 cases x2 with
 |normal=>
  obtain⟨a,ha,he⟩:=q;obtain⟨Γ3,X3,hn3,s3,f3⟩:=he Γ2 X2 st2 rfl hN2 s2;obtain⟨t3,k3⟩:=Jiq f3 t2;obtain⟨Γ',X',h1,h2,h3,h4,h5⟩:=key .ready none s3.sat (F.trans (f3.more (Two Γs))) (f3.mle hN2) t3 (by rw[k3 _ Jm];exact gd2);refine⟨true,_,max n1 n2+1,Γ',X',⟨a,ha,rfl⟩,?_,h2,h3,hn3▸h4,h5⟩;rw[h1,<-s3.hh];simp only[zNq,gL,hlv,e1,gL1,e2,gL2]
 |ret=>exact leave .ret _ Y Y q Jf
 |exit id=>exact leave (.exit id) _ Y Y q Jf
 |goto l=>exact leave (.goto l) _ Y Y q Jf
 |panic p=>exact q.elim
 |outgrown=>exact q.elim
theorem YieldOK.mono{L:Nat}{R:Res}{ws:List W}{P P':Bool->Res->Prop}(h:∀b R,P b R->P' b R)(hy:YieldOK C G L R ws P):YieldOK C G L R ws P':=λΓ hp X vs s hv=>by
 obtain⟨b,R',n,Γ',X',g1,g2⟩:=hy Γ hp X vs s hv;exact⟨b,R',n,Γ',X',h _ _ g1,g2⟩
theorem fcq{Γ:Ctx}{hp:HpW}{X:Nat->Prop}{R:Res}(s:SatH C G Γ hp X R){L:Nat}(h1:¬amq Γ hp L)(h2:¬X L)(h3:¬Γ.D L):
  Γ.Le {Γ with h:=Γ.h.kill L}/\SatH C G {Γ with h:=Γ.h.kill L} hp X R:=by
 have ne:∀{c},c≠L->(Γ.h.kill L).get c=Γ.h.get c:=λ{c} h=>by rw[Heap.get_kill,Zg h]
 have le:Γ.Le {Γ with h:=Γ.h.kill L}:=⟨Zc _,λ_ _=>rfl,λ_ h=>h,λc hc=>yRq (ne λe=>h3 (e▸hc))⟩;refine⟨le,λi hi=>?_,λb ty w hb=>?_,s.inj,s.nd,s.dX,s.xlt,s.dlt,R.st _ _ _ _ _ s.res le.D le.val (λc hc=>ne λe=>h2 (e▸hc)) (Zc _),s.gl.mono le⟩
 .have hi:Γ.h.next<=i:=hi;show(Γ.h.kill L).get i=none;rw[Heap.get_kill];split
  .rfl
  .exact s.wf i hi
 .obtain⟨q1,q2,q3,u,q4,q5⟩:=s.own b ty w hb;exact⟨q1,q2,q3,u,(ne λe=>h1 ⟨b,_,hb,e⟩).trans q4,q5.mono le⟩
theorem bjq{N0 m k0:Nat}{Γs:Ctx}{hps:HpW}{Xs:Nat->Prop}{Rs:Res}{st:St}{ps:Array Tmp}{asg bd:Code}{fr:FrW}{ls:LoopState}{pend:Option Code}{hp':HpW}{nw':Nat}{R':Res}{Γ1:Ctx}{hp1:HpW}{X1:Nat->Prop}{h2:Heap}(hm:m<=N0)(hN0:N0=Γs.nw)(hk0:k0<=Γs.h.next)
  (ss:SatS C G k0 Γs hps Xs Rs fr st) (hh2:h2.next=Γs.h.next+2) (hw2:h2.wmin=Γs.h.wmin) (hg2:∀c,c<Γs.h.next->h2.get c=Γs.h.get c)
  (s1:SatH C G Γ1 hp1 X1 (xBq C G N0 Γs hps Xs st.fr ps asg bd fr ls pend hp' nw' R')) (f1:Frm 0 ⟨0,Γs.σ,Γs.D,h2⟩ [] (λc=>amq Γs hps c\/Xs c\/Two Γs c) Γ1 hp1 X1):
  Γ1.h.get (Γs.h.next+1)=some (.loop ls pend st.fr ps asg bd Γs.h.next)/\∃Γf Xf,Γf.nw=nw'/\SatS C G k0 Γf hp' Xf R' fr ⟨st.fr,Γ1.h.kill (Γs.h.next+1),Γs.h.next::st.ds,st.rd⟩/\Frm m Γs hps Xs Γf hp' Xf:=by
 obtain⟨σ,Dc,Xc,gL,gd,hT,hDc,sn,hfr,hN,hX,hne,fc,hsn⟩:=s1.res;refine⟨gL,?_⟩;have two:∀c,Two Γs c->Γs.h.next<=c/\c<Γs.h.next+2:=λc h=>by rcases h with rfl|rfl<;>omega
 have tl:Two Γs (Γs.h.next+1):=.inl rfl;have td:Two Γs Γs.h.next:=.inr rfl;let Γm:Ctx:=⟨nw',σ,Γ1.D,Γ1.h⟩
 have sm:SatH C G Γm hp' Xc R':=(sn.later (D':=Γ1.D) (h':=Γ1.h) hDc (λ_ _=>rfl) (Zc _) hX (λ_ _=>rfl) s1.dX s1.dlt).h s1.wf;obtain⟨le,sf⟩:=fcq (L:=Γs.h.next+1) sm (hne _ tl).1 (hne _ tl).2 (λhd=>s1.dX _ hd (hT _ tl))
 have keep:∀{c},c<Γs.h.next->¬amq Γs hps c->¬Xs c->Γ1.h.get c=Γs.h.get c:=λ{c} h1 h2' h3=>by
  rw[<-hg2 c h1];refine f1.keep c (by show c<h2.next;omega) (λho=>?_) (λhx=>?_)
  .obtain⟨b,x,h,_⟩:=ho;simp[hget] at h
  .rcases hx with h|h|h
   .exact h2' h
   .exact h3 h
   .have:=two c h;omega
 have keepK:∀{c},c<Γs.h.next->¬amq Γs hps c->¬Xs c->(Γ1.h.kill (Γs.h.next+1)).get c=Γs.h.get c:=λ{c} h1 h2' h3=>by
  rw[Heap.get_kill,Zg Xd];exact keep h1 h2' h3
 have hn1:h2.next<=Γ1.h.next:=f1.next
 have dnew:∀c,Γ1.D c->Γs.D c\/(amq Γs hps c\/Xs c)\/Γs.h.next<=c:=λc h=>by
  rcases f1.dnew c h with h|(⟨b,x,h,_⟩|h)|h
  .exact .inl h
  .simp[hget] at h
  .rcases h with h|h|h
   .exact .inr (.inl (.inl h))
   .exact .inr (.inl (.inr h))
   .exact .inr (.inr (two c h).1)
  .have h:h2.next<=c:=h;exact .inr (.inr Xd)
 let Γf:Ctx:=⟨nw',σ,Γ1.D,Γ1.h.kill (Γs.h.next+1)⟩
 have ownf:∀c,amq Γf hp' c->amq Γs hps c\/Γs.h.next<=c:=λc h=>fc.own (Γ:=Γf) h
 have F:Frm N0 Γs hps Xs Γf hp' Xc:=⟨fc.sig,λ_=>hN,by show Γs.h.next<=Γ1.h.next;omega,λc h1 h2 h3=>keepK h1 h2 h3,λc h=>f1.dsub c h,dnew,fc.oext,fc.onum,fc.xnew,λk a1 a2 a3=>by
  refine fKq (f1.wmin k (by show k h2.wmin;rw[hw2];exact a1) (λc hc=>a2 c (by have hc:h2.next<=c:=hc;omega)) λc hc=>?_) (a2 _ Xd);rcases hc with ⟨b,x,h,_⟩|h|h|h
  .simp[hget] at h
  .exact a3 c (.inl h)
  .exact a3 c (.inr h)
  .exact a2 c (two c h).1⟩
 refine⟨Γf,Xc,rfl,⟨rfl,?_,sf,λd hd=>?_,?_⟩,F.le hm Xd⟩
 .exact FRel.le (Γ:=⟨N0,σ,Dc,Γ1.h⟩) ⟨hN,λ_ _=>rfl,hDc,λc hc=>le.val c (hDc c hc)⟩ hfr
 .rcases ZF.1 hd with rfl|hd
  .refine⟨hk0,?_,?_,(hne _ td).1,(hne _ td).2,λhd=>s1.dX _ hd (hT _ td)⟩
   .show Γs.h.next<Γ1.h.next;omega
   .show(Γ1.h.kill _).get _=_;rw[Heap.get_kill,Zg Xd];exact gd
  .obtain⟨q1,q2,q3,q4,q5,q6⟩:=ss.ds d hd;refine⟨q1,?_,(keepK q2 q4 q5).trans q3,λh=>?_,λh=>?_,λh=>?_⟩
   .show d<Γ1.h.next;omega
   .rcases ownf d h with h|h
    .exact q4 h
    .omega
   .rcases fc.xnew d h with h|h
    .exact q5 h
    .omega
   .rcases dnew d h with h|(h|h)|h
    .exact q6 h
    .exact q4 h
    .exact q5 h
    .omega
 .refine Y0.2 ⟨λh=>?_,ss.nd⟩;have:=(ss.ds _ h).2.1;omega
theorem ZYq{α:Type}{m k0:Nat}{g:Operand}{ps:Array Tmp}{asg bd:Code}{gf:FuncId}{c:List W}{l:List (List W)}{fr:FrW}{hp:HpW}{nw:Nat}{R:Res}{Q:qpq}(I:Nat->α->Prop)(H:α->HpW)(N:α->Nat)(RR:α->Res)(a0:α)
  (hg:evW C G fr g=some (.fn gf [] c)) (hpu:acq c=true) (it:qAq C G gf c l) (hl:∀x∈l,acq x=true/\x.length=ps.size) (h0:I 0 a0) (e0:hp=H a0) (n0:nw=N a0) (r0:R=RR a0)
  (round:∀i a x,l[i]? =some x->I i a->CoW C G nw k0 true asg (a9q fr ps.toList x) (H a) (N a) (RR a) (szq C G nw k0 bd (oQq C G nw k0 (I (i+1)) H N RR fr Q)))
  (done:∀a,I l.length a->Q .normal fr (H a) (N a) (RR a)):CoW C G m k0 false (.rangeFunc g ps asg bd) fr hp nw R Q:=λΓs Xs st hnw hm hk0 hrd ss=>by
 obtain⟨u,e1,e2⟩:=zSq ss.fr ss.sat.gl hg;obtain⟨a',c',rfl,e3,e4⟩:=RV_fn.1 e2;rw[RVL_nil] at e3;subst e3
 have hh:st.h=Γs.h:=ss.hh;have two:∀c,Two Γs c->Γs.h.next<=c/\c<Γs.h.next+2:=λc h=>by rcases h with rfl|rfl<;>omega
 let h2:Heap:=(Γs.h.push (.dfr false)).push (.loop .ready none st.fr ps asg bd Γs.h.next)
 have n2:h2.next=Γs.h.next+2:=rfl
 have g2:∀c,c<Γs.h.next->h2.get c=Γs.h.get c:=λc hc=>by
  show((Γs.h.push _).push _).get c=_;rw[Heap.get_push,Zg (by show c≠Γs.h.next+1;omega),Heap.get_push,Zg Xd]
 have gL:h2.get (Γs.h.next+1)=some (.loop .ready none st.fr ps asg bd Γs.h.next):=by
  show((Γs.h.push _).push _).get _=_;rw[Heap.get_push];exact Zt rfl
 have gd:h2.get Γs.h.next=some (.dfr false):=by
  show((Γs.h.push _).push _).get _=_;rw[Heap.get_push,Zg (by show Γs.h.next≠Γs.h.next+1;omega),Heap.get_push,Zt rfl]
 have le2:Γs.Le ⟨Γs.nw,Γs.σ,Γs.D,h2⟩:=⟨Zc _,λ_ _=>rfl,λ_ h=>h,λc hc=>yRq (g2 c (ss.sat.dlt c hc))⟩;let X0:Nat->Prop:=λc=>amq Γs hp c\/Xs c\/Two Γs c
 let R0:Res:=xBq C G nw Γs hp Xs st.fr ps asg bd fr .ready none (H a0) (N a0) (RR a0)
 have sn:SatN C G ⟨Γs.nw,Γs.σ,Γs.D,h2⟩ hp Xs R:=⟨λb ty w hb=>by
  obtain⟨q1,q2,q3,v,q4,q5⟩:=ss.sat.own b ty w hb;have lt:=ss.sat.own_lt hb;exact⟨q1,q2,q3,by show Γs.σ b<h2.next;omega,v,(g2 _ lt).trans q4,q5.mono le2⟩,ss.sat.inj,ss.sat.nd,ss.sat.dX,λc hc=>by have:=ss.sat.xlt c hc;show c<h2.next;omega,λc hc=>by have:=ss.sat.dlt c hc;show c<h2.next;omega,
  R.st _ _ _ _ _ ss.sat.res le2.D le2.val (λc hc=>g2 c (ss.sat.xlt c hc)) (by show Γs.h.next<=h2.next;omega),ss.sat.gl.mono le2⟩
 have s0:SatH C G ⟨0,Γs.σ,Γs.D,h2⟩ [] X0 R0:=by
  refine⟨λi hi=>?_,λb ty w h=>by simp[hget] at h,λb b' x y h=>by simp[hget] at h,YJ,λc hd hx=>?_,λc hx=>?_,λc hd=>by have:=ss.sat.dlt c hd;show c<h2.next;omega,?_,(show GRel C G ⟨Γs.nw,Γs.σ,Γs.D,h2⟩ from ss.sat.gl.mono le2)⟩
  .have hi:h2.next<=i:=hi;show((Γs.h.push _).push _).get i=none;rw[Heap.get_push,Zg (by show i≠Γs.h.next+1;omega),Heap.get_push,Zg Xd];exact ss.sat.wf i Xd
  .rcases hx with ⟨b,x,h1,rfl⟩|h|h
   .exact(ss.sat.own b x.1 x.2 h1).2.1 hd
   .exact ss.sat.dX c hd h
   .have:=two c h;have:=ss.sat.dlt c hd;omega
  .show c<h2.next;rcases hx with ⟨b,x,h1,rfl⟩|h|h
   .have:=ss.sat.own_lt h1;omega
   .have:=ss.sat.xlt c h;omega
   .have:=two c h;omega
  .refine⟨Γs.σ,Γs.D,Xs,gL,gd,λc h=>.inr (.inr h),λ_ h=>h,?_,?_,by omega,λc h=>?_,λc h=>⟨λho=>?_,λhx=>?_⟩,?_,by show _<=h2.next;omega⟩
   .rw[<-e0,<-n0,<-r0,<-hnw];exact sn
   .rw[<-hnw];exact ss.fr.mono le2
   .rw[<-e0] at h;rcases h with h|h
    .exact .inl h
    .exact .inr (.inl h)
   .rw[<-e0] at ho;obtain⟨b,x,h1,h3⟩:=ho;have:=ss.sat.own_lt h1;have:=two c h;have h3:Γs.σ b=c:=h3;omega
   .have:=ss.sat.xlt c hx;have:=two c h;omega
   .rw[<-e0];exact⟨λ_ _=>rfl,λb x _ h=>⟨x,h⟩,λb x hb h=>.inr ⟨b,x,hb,h,rfl⟩,λ_ h=>.inl h⟩
 let E:Res->Prop:=λR'=>(∃a,I l.length a/\R'=xBq C G nw Γs hp Xs st.fr ps asg bd fr .ready none (H a) (N a) (RR a))\/∃e pend hp' nw' R'',Yoq e=some pend/\Q e fr hp' nw' R''/\R'=xBq C G nw Γs hp Xs st.fr ps asg bd fr .done (some pend) hp' nw' R''
 have yl:∀(r:List (List W)) (i:Nat) (a:α),i<=l.length->l.drop i=r->I i a->Yl C G (Γs.h.next+1) E r (xBq C G nw Γs hp Xs st.fr ps asg bd fr .ready none (H a) (N a) (RR a)):=by
  intro r;induction r with
  |nil=>
   intro i a hi hd ha;have:i=l.length:=by have:=List.drop_eq_nil_iff.1 hd;omega
   subst this;exact .inl ⟨a,ha,rfl⟩
  |cons x r ih=>
   intro i a hi hd ha
   have hx:l[i]? =some x:=by
    have:=Ze (λz=>z[0]?) hd;simpa using this
   have hlt:i<l.length:=(Zq.1 hx).1
   have hd':l.drop (i+1)=r:=by
    have:=Ze (λz=>z.drop 1) hd;simpa[Nat.add_comm] using this
   refine YieldOK.mono (λb R' h=>?_) (lNq hk0 (hl x (Zf hx)).1 (hl x (Zf hx)).2 (round i a x hx ha));cases b with
   |true=>
    obtain⟨a',h1,rfl⟩:=h;exact ih (i+1) a' hlt hd' h1
   |false=>
    obtain⟨e,pend,hp',nw',R'',h1,h2,h3⟩:=h;exact .inr ⟨e,pend,hp',nw',R'',h1,h2,h3⟩
 have hv:RVL ⟨0,Γs.σ,Γs.D,h2⟩ (.yield (Γs.h.next+1)::c) (.yield (Γs.h.next+1)::c'):=by
  refine RVL_cons.2 ⟨_,_,rfl,RV_yield.2 rfl,?_⟩;exact doq (Γ:=Γs) (Γ':=⟨0,Γs.σ,Γs.D,h2⟩) (λ_ h=>h) le2.val hpu e4
 obtain⟨n,v,Γ1,X1,w,hp1,R1,r1,s1,f1,_,hE⟩:=it (Γs.h.next+1) E R0 (yl l 0 a0 (Zi _) rfl h0) ⟨0,Γs.σ,Γs.D,h2⟩ X0 _ rfl s0 hv
 have ev:∀(y:Exit×St),kvq st Γs.h.next (Γs.h.next+1) Γ1.h=some y->zdq (Sn C n) (Fl C n) C (.rangeFunc g ps asg bd) st=some y:=λy hy=>by
  have r1:(Sn C n).fn gf ([.yield (st.h.next+1)]++c') ((st.h.push (.dfr false)).push (.loop .ready none st.fr ps asg bd st.h.next))=some (v,Γ1.h):=by rw[hh];exact r1
  have hy:kvq st st.h.next (st.h.next+1) Γ1.h=some y:=by rw[hh];exact hy
  simp only[zdq,hrd,e1,r1];exact hy
 rcases hE with ⟨a,ha,rfl⟩|⟨e,pend,hp',nw',R',hpe,hq,rfl⟩
 .obtain⟨gl,Γf,Xf,nf,sf,ff⟩:=bjq (m:=m) hm hnw.symm hk0 ss n2 rfl g2 s1 f1;refine⟨n,.normal,_,Γf,Xf,fr,_,_,ev _ ?_,sf,ff,hrd,nf▸done a ha⟩;simp only[kvq,gl]
 .obtain⟨gl,Γf,Xf,nf,sf,ff⟩:=bjq (m:=m) hm hnw.symm hk0 ss n2 rfl g2 s1 f1;refine⟨n,e,_,Γf,Xf,fr,_,_,ev _ ?_,sf,ff,hrd,nf▸hq⟩;cases e<;>simp only[Yoq,Zk,reduceCtorEq] at hpe<;>subst hpe<;>simp only[kvq,gl]
end
section
theorem j9q{m n:Int}:(!ltI n m)=true↔m<=n:=by
 have:= @ltI_not n m;cases h:ltI n m<;>simp[h] at this⊢<;>omega
theorem kaq{m n:Int}:(!eqI m n)=true↔¬m=n:=by
 have:= @eqI_iff m n;cases h:eqI m n<;>simp[h] at this⊢<;>exact this
theorem y9q{p:Prop} [Decidable p]:decide p=true↔p:=by simp
theorem vYq{b:Bool}{p:Prop}(h:b=true↔p):(!b)=true↔¬p:=by
 cases b<;>simp at h⊢<;>exact h
theorem jgq{b:Bool}:b=true↔b=true:=Iff.rfl
section
variable {C:Cfg} {G:Nat->Option W} {m:Nat} {ops:Array Oper} {l:List Oper} {i:Nat} {es:List (Nat×EvW)} {fr:FrW} {hp:HpW} {nw:Nat} {R:Res} {K:FrW->HpW->Nat->Res->Prop} {o:Oper}
theorem tQq{b:Bool}{p:Prop}(hw:qqq ops fr o=some true)(hx:yJq C G fr o.op=some (.bool b))(hb:b=true↔p)(ht:p->OpW C G m ops l (aoq fr o.dst (.bool true)) hp nw R K)(hf:¬p->OpW C G m ops l (aoq fr o.dst (.bool false)) hp nw R K):OpW C G m ops (o::l) fr hp nw R K:=by
 cases b with
 |true=>exact yyq hw hx (ht (hb.1 rfl))
 |false=>exact yyq hw hx (hf λh=>by have:=hb.2 h;cases this)
theorem tRq{b:Bool}{p:Prop} [Decidable p](hw:qqq ops fr o=some true)(hx:yJq C G fr o.op=some (.bool b))(hb:b=true↔p)(h:OpW C G m ops l (aoq fr o.dst (.bool (decide p))) hp nw R K):OpW C G m ops (o::l) fr hp nw R K:=
 yyq hw (by rw[hx];congr 2;rw[Bool.eq_iff_iff,hb];simp) h
theorem yIq{t t':TypeId}{x y:Operand}{u v:W}{b:Bool}(hx:evW C G fr x=some u)(hy:evW C G fr y=some v)(ha:u.isAgg=true)(hb:v.isAgg=true)(he:eqW C 300 t u v=some b):yJq C G fr (.binOp .eql t x y t')=some (.bool b):=by
 simp only[yJq,zJq,hx,hy];cases u<;>simp[W.isAgg] at ha<;>cases v<;>simp[W.isAgg] at hb<;>simp only[w1q,veq,W.isAgg,Bool.and_self,he]
theorem qZq{t t':TypeId}{x y:Operand}{u v:W}{b:Bool}(hx:evW C G fr x=some u)(hy:evW C G fr y=some v)(ha:u.isAgg=true)(hb:v.isAgg=true)(he:eqW C 300 t u v=some b):yJq C G fr (.binOp .neq t x y t')=some (.bool (!b)):=by
 simp only[yJq,zJq,hx,hy];cases u<;>simp[W.isAgg] at ha<;>cases v<;>simp[W.isAgg] at hb<;>simp only[w1q,veq,W.isAgg,Bool.and_self,he]
end
theorem vTq{C:Cfg}{G:Nat->Option W}{fr:FrW}{t:TypeId}{x y:Operand}{j:TyI}{s:List UInt8}{u:W}{i:Nat}{c:UInt8}(hj:C.ty t=some j)(hd:j.d= .str)(hx:evW C G fr x=some (.str s))(hy:evW C G fr y=some u)(hn:ccq u=some i)(hi:s[i]? =some c):
  yJq C G fr (.index t x y)=some (.int .u8 (.ofNat c.toNat)):=by
 simp only[yJq,dtq,hj,hd,hx,hy,hn,hi]
theorem JKq{C:Cfg}{G:Nat->Option W}{fr:FrW}{hp:HpW}{nw:Nat}{t e:TypeId}{x y:Operand}{j k:TyI}{u v z:W}{l c:Nat}(hj:C.ty t=some j)(hd:j.d= .slice e)(hx:evW C G fr x=some u)(hy:evW C G fr y=some v)(hl:ccq u=some l)(hc:ccq v=some c)(hk:C.ty e=some k)(h0:Nat.beq k.size 0=false)(h1:l<=c)(h2:k.bytes*c<=281474976710656)(h3:c<=9223372036854775807)(hz:aAq k.zero=some z)(hs:Nat.beq z.size k.size=true):
  aDq C G fr hp nw (.makeSlice t x y)=some (.sl nw 0 0 l k.size none,(nw,e,.arr (c*k.size) k.size (List.replicate c z))::hp,nw+1,.gen):=by
 have:(Nat.beq k.size 0||!Nat.ble l c||!Nat.ble (k.bytes*c) 281474976710656||!Nat.ble c 9223372036854775807)=false:=by
  rw[h0,Zl h1,Zl h2,Zl h3];rfl
 simp only[aDq,hGq,hj,hd,hx,hy,hl,hc,hk,this,hz,hs,tqq]
theorem umq{C:Cfg}{hp:HpW}{tx e ty:TypeId}{j:TyI}{esz b base off n:Nat}{lim:Option Nat}{v:W}{l:List W}(hj:C.ty tx=some j)(hd:j.d= .slice e)(hb:hget hp b=some (ty,v))(hl:ysq 50 v off n esz=some l):aJq C hp tx esz (.sl b base off n esz lim)=some l:=by
 simp only[aJq,hj,hd,show Nat.beq esz esz=true by simp,hb,hl]
theorem bDq{b:Nat}{x:TypeId×W}:∀{hp:HpW},hget hp b=some x->anq hp b x=hp
 |[],h=>rfl
 |(j,z)::hp,h=>by
  rw[zeq] at h;simp only[anq];split
  .rename_i e;rw[ZE] at e;rw[Zt e] at h;cases h;rfl
  .rename_i e;have hne:j≠b:=λe2=>by subst e2;simp at e
   rw[Zg hne] at h;rw[bDq h]
theorem Jpq{C:Cfg}{G:Nat->Option W}{fr:FrW}{hp:HpW}{nw:Nat}{t:TypeId}{x y:Operand}{b off:Nat}{ti:TyI}{ty:TypeId}{u v:W}(hx:evW C G fr x=some (.ptr b off))(hy:evW C G fr y=some u)(hi:C.ty t=some ti)(hb:hget hp b=some (ty,v))(hs:Nat.beq u.size ti.size=true)(hg:yoq 50 v off u=some v):aDq C G fr hp nw (.store t x y)=some (.undef,hp,nw,.storeO b):=
 qrq hx hy hi hb hs hg (bDq hb)
theorem z3q{τ:Nat->Nat}{b:Nat}{ty:TypeId}{c:W}(h:abq c=true):alq τ [(b,ty,c)]=[(τ b,ty,c)]:=by simp only[alq,zfq h]
theorem YVq{C:Cfg}{G:Nat->Option W}{fr:FrW}{t e:TypeId}{x:Operand}{lo hi:Option Operand}{j k:TyI}{xs ys:List W}{esz l h:Nat}{full g:Bool}(hj:C.ty t=some j)(hd:j.d= .slice e)(hx:evW C G fr x=some (.fz xs esz full))(hk:C.ty e=some k)(hs:Nat.beq k.size esz=true)(hl:aCq C G fr 0 lo=some l)(hh:aCq C G fr xs.length hi=some h)(h1:l<=h)(h2:h<=xs.length)(hy:(xs.drop l).take (h-l)=ys)(hg:(full&&Nat.beq h xs.length)=g):
  yJq C G fr (.slice t x lo hi none)=some (.fz ys esz g):=by
 subst hy;subst hg
 have:(Nat.ble l h&&Nat.ble h xs.length)=true:=by rw[Zl h1,Zl h2];rfl
 simp only[yJq,Z3q,hj,hd,hx,hk,hs,hl,hh,i8q,this]
theorem icq{C:Cfg}{G:Nat->Option W}{fr:FrW}{t e:TypeId}{x z zm:Operand}{lo:Option Operand}{j k:TyI}{xs ys:List W}{esz l h m:Nat}{full g:Bool}(hj:C.ty t=some j)(hd:j.d= .slice e)(hx:evW C G fr x=some (.fz xs esz full))(hk:C.ty e=some k)(hs:Nat.beq k.size esz=true)(hl:aCq C G fr 0 lo=some l)(hh:aCq C G fr xs.length (some z)=some h)(hm:aCq C G fr 0 (some zm)=some m)(h1:l<=h)(h2:h<=m)(h3:m<=xs.length)(h4:1<=xs.length)(hy:(xs.drop l).take (h-l)=ys)(hg:Nat.beq h m=g):
  yJq C G fr (.slice t x lo (some z) (some zm))=some (.fz ys esz g):=by
 subst hy;subst hg
 have:(Nat.ble l h&&Nat.ble h m&&Nat.ble m xs.length&&Nat.ble 1 xs.length)=true:=by rw[Zl h1,Zl h2,Zl h3,Zl h4];rfl
 simp only[yJq,Z3q,hj,hd,hx,hk,hs,hl,hh,hm,i8q,this]
theorem ibq{C:Cfg}{G:Nat->Option W}{fr:FrW}{t e:TypeId}{x z zm:Operand}{lo:Option Operand}{j k:TyI}{xs ys:List W}{esz l h m:Nat}{full g:Bool}(hj:C.ty t=some j)(hd:j.d= .slice e)(hx:evW C G fr x=some (.fz xs esz full))(hk:C.ty e=some k)(hs:Nat.beq k.size esz=true)(hl:aCq C G fr 0 lo=some l)(hh:aCq C G fr xs.length (some z)=some h)(hm:aCq C G fr 0 (some zm)=some m)(h1:l<=h)(h2:h<=m)(h3:m<=xs.length)(h4:1<=m)(hy:(xs.drop l).take (h-l)=ys)(hg:Nat.beq h m=g):
  yJq C G fr (.slice t x lo (some z) (some zm))=some (.fz ys esz g):=
 icq hj hd hx hk hs hl hh hm h1 h2 h3 (Zs h4 h3) hy hg
theorem juq{C:Cfg}{G:Nat->Option W}{o:Oper}{fr:FrW}{hp:HpW}{nw:Nat}{R:Res}{post:W->HpW->Nat->Res->Option EvW->Prop}{t t' e0:TypeId}{x y:Operand}{j:TyI}{l:List W}{e:Nat}{f:Bool}(ho:o.op= .binOp .eql t x y t')(hj:C.ty t=some j)(hd:j.d= .slice e0)(hx:evW C G fr x=some (.fz l e f))(hy:evW C G fr y=some .nils)
  (h:∀b,(b=true->l=[]) ->post (.bool b) hp nw R none):aeq C G o fr hp nw R post:=λΓ X frv hnw s hf=>by
 subst hnw;obtain⟨u,e1,e2⟩:=zSq hf s.gl hx;obtain⟨v,e3,e4⟩:=zSq hf s.gl hy;rw[RV_nils] at e4;subst e4
 have h1:=e2.one rfl;simp only[RS,YM,and_true] at h1;rcases h1 with ⟨rfl,rfl⟩|⟨b,base,off,lim,bv,rfl,_⟩
 .have hp':ygq C frv o.type o.op=some (.bool true):=by
   rw[ho];simp only[ygq,ymq,e1,e3,joq,uDq,eqV,hj,hd]
  exact⟨0,.bool true,hp,R,none,.bool true,Γ.h,Γ,X,h true (λ_=>rfl),by simp only[opV,hp'],⟨hp',rfl⟩,rfl,Ctx.Le.refl _,s,Frm.refl _ _ _ _,RV_bool.2 rfl⟩
 .have hp':ygq C frv o.type o.op=some (.bool false):=by
   rw[ho];simp only[ygq,ymq,e1,e3,joq,uDq,eqV,hj,hd]
  exact⟨0,.bool false,hp,R,none,.bool false,Γ.h,Γ,X,h false (λh=>by cases h),by simp only[opV,hp'],⟨hp',rfl⟩,rfl,Ctx.Le.refl _,s,Frm.refl _ _ _ _,RV_bool.2 rfl⟩
noncomputable def PS(C:Cfg)(G:Nat->Option W)(f:FuncId)(ws:List W)(w:W):Prop:=yxq C G f 0 ws [] λw' _ _=>w'=w
section
variable {C:Cfg} {G:Nat->Option W} {m:Nat} {ops:Array Oper} {l:List Oper} {i:Nat} {es:List (Nat×EvW)} {fr:FrW} {hp:HpW} {nw:Nat} {R:Res} {K:FrW->HpW->Nat->Res->Prop} {o:Oper} {x:Operand} {xs:Array Operand} {ats:Array TypeId} {f:FuncId} {a us c ws:List W} {w:W}
theorem Joq{post:W->HpW->Nat->Res->Option EvW->Prop}(ho:o.op= .call ⟨.value x,xs,ats⟩)(hx:evW C G fr x=some (.fn f a c))(he:C.ext f=none)(hxs:ayq C G fr xs.toList=some us)(hws:a++us++c=ws)(sp:PS C G f ws w)(hpw:acq ws=true)(hw:abq w=true)(h:post w hp nw R (some .gen)):aeq C G o fr hp nw R post:=by
 subst hws;exact vRq ho hx he hxs sp hpw λw' _ _ hq=>by subst hq;exact⟨hw,h⟩
theorem Qoq(hg:qqq ops fr o=some true)(ho:o.op= .call ⟨.value x,xs,ats⟩)(hx:evW C G fr x=some (.fn f a c))(he:C.ext f=none)(hxs:ayq C G fr xs.toList=some us)(hws:a++us++c=ws)(sp:PS C G f ws w)(hpw:acq ws=true)(hw:abq w=true)(h:OpW C G m ops l (aoq fr o.dst w) hp nw R K):OpW C G m ops (o::l) fr hp nw R K:=
 zsq hg (Joq ho hx he hxs hws sp hpw hw h)
theorem rxq(hg:qqq ops fr o=some true)(ho:o.op= .call ⟨.value x,xs,ats⟩)(hx:evW C G fr x=some (.fn f a c))(he:C.ext f=none)(hxs:ayq C G fr xs.toList=some us)(hws:a++us++c=ws)(sp:PS C G f ws w)(hpw:acq ws=true)(hw:abq w=true)(hc:c5q ops i .gen es=true)(h:FlW C G m ops l (i+1) ((i,.gen)::es) (aoq fr o.dst w) hp nw R K):FlW C G m ops (o::l) i es fr hp nw R K:=
 qmq hg (Joq ho hx he hxs hws sp hpw hw ⟨hc,h⟩)
theorem f3q{post:W->HpW->Nat->Res->Option EvW->Prop}(ho:o.op= .call ⟨.value x,xs,ats⟩)(hx:evW C G fr x=some (.fn f a c))(he:C.ext f=none)(hxs:ayq C G fr xs.toList=some us)(hws:ViewL (apq hp) (a++us++c) ws)(sp:PS C G f ws w)(hpw:acq ws=true)(hw:xVq w=true)(h:post w hp nw R (some .gen)):aeq C G o fr hp nw R post:=
 a5q ho hx he hxs hws sp hpw λw' _ _ hq=>by subst hq;exact⟨hw,h⟩
theorem ulq(hg:qqq ops fr o=some true)(ho:o.op= .call ⟨.value x,xs,ats⟩)(hx:evW C G fr x=some (.fn f a c))(he:C.ext f=none)(hxs:ayq C G fr xs.toList=some us)(hws:ViewL (apq hp) (a++us++c) ws)(sp:PS C G f ws w)(hpw:acq ws=true)(hw:xVq w=true)(h:OpW C G m ops l (aoq fr o.dst w) hp nw R K):OpW C G m ops (o::l) fr hp nw R K:=
 zsq hg (f3q ho hx he hxs hws sp hpw hw h)
theorem YIq(hg:qqq ops fr o=some true)(ho:o.op= .call ⟨.value x,xs,ats⟩)(hx:evW C G fr x=some (.fn f a c))(he:C.ext f=none)(hxs:ayq C G fr xs.toList=some us)(hws:ViewL (apq hp) (a++us++c) ws)(sp:PS C G f ws w)(hpw:acq ws=true)(hw:xVq w=true)(hc:c5q ops i .gen es=true)(h:FlW C G m ops l (i+1) ((i,.gen)::es) (aoq fr o.dst w) hp nw R K):FlW C G m ops (o::l) i es fr hp nw R K:=
 qmq hg (f3q ho hx he hxs hws sp hpw hw ⟨hc,h⟩)
end
theorem bgq{τ:Nat->Nat}{l:List W}(h:acq l=true):ySq τ l=l:=by
 have:=zfq (τ:=τ) (w:=.tup l) h;simpa only[adq,W.tup.injEq] using this
theorem yMq{C:Cfg}{G:Nat->Option W}{o:Oper}{fr:FrW}{hp:HpW}{nw:Nat}{R:Res}{post:W->HpW->Nat->Res->Option EvW->Prop}{x:Operand}{xs:Array Operand}{ats:Array TypeId}{f:FuncId}{a us c ws:List W}{Q:W->HpW->Nat->Prop}(ho:o.op= .call ⟨.value x,xs,ats⟩)(hx:evW C G fr x=some (.fn f a c))(he:C.ext f=none)(hxs:ayq C G fr xs.toList=some us)(hws:a++us++c=ws)(hpw:acq ws=true)(sp:yxq C G f 0 ws [] Q)
  (hpost:∀w hp1 nw1,Q w hp1 nw1->post (adq (afq [] nw) w) (alq (afq [] nw) hp1++hp) (nw+nw1) R (some .dirty)):aeq C G o fr hp nw R post:=
 zGq (ext:=[]) (ws:=ws) (hp0:=[]) ho hx he hxs (by rw[hws,bgq hpw]) sp YJ Xi Xi (λi ty w h=>by simp[hget] at h) (zaq (w:=.tup ws) hpw) hpost
noncomputable def aKq(n:Nat):FrW->Prop
 |[]=>True
 |(_,w)::l=>agq n w=true/\aKq n l
theorem jTq{n:Nat}:∀{l:FrW},aKq n l->l.all (λp=>agq n p.2)=true
 |[],_=>rfl
 |(t,w)::l,h=>by simp only[List.all_cons,h.1,Y5];exact jTq h.2
theorem uaq{n:Nat}:∀{a b:FrW},aKq n a->aKq n b->aKq n (a++b)
 |[],b,_,h=>h
 |(t,w)::a,b,h,k=>⟨h.1,uaq h.2 k⟩
theorem q7q{fr:FrW}:∀{a b:FrW},aqq fr a->aqq fr b->aqq fr (a++b)
 |[],b,_,h=>h
 |(t,w)::a,b,h,k=>⟨h.1,q7q h.2 k⟩
mutual
theorem Q9q{Γ:Ctx}:∀{w:W} {s:List V},RS Γ w s->agq Γ.nw w=true
 |.undef,_,_=>rfl
 |.bool _,_,_=>rfl
 |.int _ _,_,_=>rfl
 |.str _,_,_=>rfl
 |.nilp,_,_=>rfl
 |.ptr b off,_,h=>by simp only[RS] at h;exact Zn h.1
 |.nils,_,_=>rfl
 |.sl b _ _ _ _ _,_,h=>by simp only[RS] at h;exact Zn h.1
 |.fz l e full,_,h=>by
  simp only[RS] at h;simp only[agq];rcases h with ⟨rfl,_⟩|⟨b,base,off,lim,bv,_,_,_,_,_,_,_,h⟩
  .rfl
  .exact Koq h
 |.fel x,_,h=>by
  simp only[RS] at h;obtain⟨b,off,bv,_,_,_,_,_,_,h⟩:=h;exact Q9q (w:=x) h
 |.nilm,_,_=>rfl
 |.fn f a c,_,h=>by
  simp only[RS] at h;obtain⟨a',c',_,h1,h2⟩:=h;simp only[agq,Kmq h1,Kmq h2,Bool.and_self]
 |.yield _,_,_=>rfl
 |.nilf,_,_=>rfl
 |.iface t x,_,h=>by
  simp only[RS] at h;obtain⟨v,_,_,h⟩:=h;exact Q9q (w:=x) h
 |.nili,_,_=>rfl
 |.agg n l,_,h=>by simp only[RS] at h;exact Koq (l:=l) h.2
 |.arr n e l,_,h=>by simp only[RS] at h;exact Koq (l:=l) h.2.2
 |.tup l,_,h=>by
  simp only[RS] at h;obtain⟨vs,_,h⟩:=h;exact Kmq (l:=l) h
theorem Koq{Γ:Ctx}:∀{l:List W} {s:List V},RSL Γ l s->azq Γ.nw l=true
 |[],_,_=>rfl
 |w::l,s,h=>by
  simp only[RSL] at h;simp only[azq,Q9q h.1,Koq h.2,Bool.and_self]
theorem Kmq{Γ:Ctx}:∀{l:List W} {vs:List V},RVL Γ l vs->azq Γ.nw l=true
 |[],_,_=>rfl
 |w::l,_,h=>by
  simp only[RVL] at h;obtain⟨v,vs,_,h1,h2⟩:=h;simp only[azq,Q9q h1.2,Kmq h2,Bool.and_self]
end
section
variable {C:Cfg} {G:Nat->Option W} {m k0:Nat} {rd:Bool} {fr:FrW} {hp hp':HpW} {nw nw':Nat} {R:Res} {Q:qpq} {c:Code}
theorem ezq(h:m<=nw->(∀t w,arq fr t=some w->agq nw w=true) ->(∀b x,hget hp b=some x->b<nw/\agq nw x.2=true) ->(hp.map (·.1)).Nodup->CoW C G m k0 rd c fr hp nw R Q):CoW C G m k0 rd c fr hp nw R Q:=λΓ X st h1 h2 h3 h4 h5=>
 h h2 (λt w hw=>by obtain⟨v,_,hv⟩:=h5.fr t w hw;exact h1▸Q9q hv.2) (λb x hb=>by
  obtain⟨q1,_,_,v,_,q5⟩:=h5.sat.own b x.1 x.2 hb;exact⟨h1▸q1,h1▸Q9q q5.2⟩) h5.sat.nd Γ X st h1 h2 h3 h4 h5
noncomputable def Zzq(hp' hp:HpW)(nw:Nat):Prop:=∀b x,b<nw->hget hp b=some x->hget hp' b=some x
theorem kQq:Zzq hp hp nw:=λ_ _ _ h=>h
theorem kTq{k:Nat}{y:TypeId×W}(hk:nw<=k)(h:Zzq hp' hp nw):Zzq ((k,y)::hp') hp nw:=λb x hb hx=>by
 rw[zeq,Zg Xd];exact h b x hb hx
theorem Zlq{k b:Nat}{y:TypeId×W}(hne:k≠b):∀{hp:HpW},hget (anq hp k y) b=hget hp b
 |[]=>rfl
 |(j,z)::hp=>by
  simp only[anq];split
  .rename_i e;rw[ZE] at e;subst e;rw[zeq,zeq,Zg hne,Zg hne]
  .rw[zeq,zeq,Zlq hne]
theorem kRq{k:Nat}{y:TypeId×W}(hk:nw<=k)(h:Zzq hp' hp nw):Zzq (anq hp' k y) hp nw:=λb x hb hx=>by
 rw[Zlq Xd];exact h b x hb hx
theorem xPq{k b:Nat}(hne:k≠b):∀{hp:HpW},hget (awq hp k) b=hget hp b
 |[]=>rfl
 |(j,z)::hp=>by
  simp only[awq];split
  .rename_i e;rw[ZE] at e;subst e;rw[zeq,Zg hne]
  .rw[zeq,zeq,xPq hne]
theorem kSq{k:Nat}(hk:nw<=k)(h:Zzq hp' hp nw):Zzq (awq hp' k) hp nw:=λb x hb hx=>by
 rw[xPq Xd];exact h b x hb hx
noncomputable def QRk{α:Type}(I:α->Prop)(V:α->FrW)(kf:FrW)(hp:HpW)(nw:Nat)(RR:α->Res)(μ:α->Nat)(k:Nat)(Q:qpq):qpq
 |.normal,fr',hp',nw',R'=>∃a,I a/\μ a<k/\aqq fr' (V a)/\aqq fr' kf/\aKq nw (V a)/\nw<=nw'/\Zzq hp' hp nw/\R'=RR a
 |x,fr',hp',nw',R'=>Q x fr' hp' nw' R'
theorem vBq{α:Type}(I:α->Prop)(V:α->FrW)(kf:FrW)(RR:α->Res)(μ:α->Nat)(a0:α)(hk:aqq fr kf)(h0:I a0)(hv:aqq fr (V a0))(hR:R=RR a0)
  (step:∀a,I a->CoW C G m k0 rd c (V a++kf) hp nw (RR a) (QRk I V kf hp nw RR μ (μ a) Q)):CoW C G m k0 rd (.loop c) fr hp nw R Q:=by
 subst hR
 exact ezq λhm f1 f2 f3=>jeq I (λa=>V a++kf) (λ_=>hp) (λ_=>nw) RR μ a0 h0 (ynq (q7q hv hk) Y Y) λa ha=>
  Kfq (step a ha) λx fr' hp' nw' R' h=>by
   cases x with
   |normal=>
    obtain⟨a',h1,h2,h3,h4,h5,h6,h7,rfl⟩:=h
    have kref:∀{l:FrW},aqq fr l->aKq nw l:=λ{l}=>by
     induction l with
     |nil=>intro _;trivial
     |cons p l ih=>
      obtain⟨t,w⟩:=p;intro h;exact⟨f1 t w h.1,ih h.2⟩
    exact⟨a',h1,h2,zDq hm h6 (q7q h3 h4) (jTq (uaq h5 (kref hk))) (λb x hb=>⟨(f2 b x hb).1,h7 b x (f2 b x hb).1 hb,(f2 b x hb).2⟩) f3⟩
   |ret=>exact h
   |exit _=>exact h
   |goto _=>exact h
   |panic _=>exact h
   |outgrown=>exact h
theorem njq{α:Type}(I:α->Prop)(V:α->FrW)(kf:FrW)(μ:α->Nat)(a0:α)(hk:aqq fr kf)(h0:I a0)(hv:aqq fr (V a0))
  (step:∀a,I a->CoW C G m k0 rd c (V a++kf) hp nw R (QRk I V kf hp nw (λ_=>R) μ (μ a) Q)):CoW C G m k0 rd (.loop c) fr hp nw R Q:=vBq I V kf (λ_=>R) μ a0 hk h0 hv rfl step
theorem tuq{α:Type}{I:α->Prop}{V:α->FrW}{kf:FrW}{RR:α->Res}{μ:α->Nat}{k:Nat}{x:Exit}{fr':FrW}{R':Res}(hx:x≠ .normal)(h:Q x fr' hp' nw' R'):QRk I V kf hp nw RR μ k Q x fr' hp' nw' R':=by cases x<;>first|exact h|exact absurd rfl hx
theorem lRq{α:Type}{I:α->Prop}{V:α->FrW}{kf:FrW}{RR:α->Res}{μ:α->Nat}{k:Nat}{fr':FrW}(a:α)(ha:I a)(hμ:μ a<k)(hv:aqq fr' (V a))(hk:aqq fr' kf)(hr:aKq nw (V a))(hn:nw<=nw')(hh:Zzq hp' hp nw)(hR:R=RR a):
  QRk I V kf hp nw RR μ k Q .normal fr' hp' nw' R:=⟨a,ha,hμ,hv,hk,hr,hn,hh,hR⟩
theorem xsq{α:Type}(I:α->Prop)(V:α->FrW)(kf:FrW)(H:α->HpW)(μ:α->Nat)(a0:α)(hk:aqq fr kf)(h0:I a0)(hv:aqq fr (V a0))(hh:hp=H a0)
  (step:∀a,I a->CoW C G m k0 rd c (V a++kf) (H a) nw R (x6q C G m k0 I (λa=>V a++kf) H (λ_=>nw) (λ_=>R) μ (μ a) Q)):CoW C G m k0 rd (.loop c) fr hp nw R Q:=
 jeq I (λa=>V a++kf) H (λ_=>nw) (λ_=>R) μ a0 h0 (ynq (q7q hv hk) hh rfl) step
theorem Jyq{α:Type}{I:α->Prop}{V:α->FrW}{kf:FrW}{H:α->HpW}{μ:α->Nat}{k:Nat}{fr':FrW}(a:α)(ha:I a)(hμ:μ a<k)(hm:m<=nw)(hv:aqq fr' (V a))(hk:aqq fr' kf)(hr:aKq nw (V a))(hr2:aKq nw kf)(hn:nw<=nw')(hh:eTq hp' nw (H a))(nd:((H a).map (·.1)).Nodup):
  x6q C G m k0 I (λa=>V a++kf) H (λ_=>nw) (λ_=>R) μ k Q .normal fr' hp' nw' R:=
 y6q a ha hμ (zDq hm hn (q7q hv hk) (jTq (uaq hr hr2)) (ztq hh) nd)
theorem ucq{α:Type}{I:α->Prop}{V:α->FrW}{kf:FrW}{H:α->HpW}{μ:α->Nat}{k:Nat}{fr':FrW}(a:α)(ha:I a)(hμ:μ a<k)(hv:aqq fr' (V a))(hk:aqq fr' kf)(hh:hp=H a):
  x6q C G m k0 I (λa=>V a++kf) H (λ_=>nw) (λ_=>R) μ k Q .normal fr' hp nw R:=
 y6q a ha hμ (ynq (q7q hv hk) hh rfl)
end
theorem tEq{C:Cfg}{G:Nat->Option W}{f:FuncId}{fn:Func}{c:Code}{ws:List W}{w:W}(hk:C.known f=none)(hf:C.fn f=some fn)(hb:fn.body=some c)(hn:ws.length<=fn.ntmps)
  (h:∀R k0,CoW C G 0 k0 false c (Zbq 0 ws) [] 0 R (cdq C G 0 k0 fn.results.toList λw' _ _ R'=>R'=R/\w'=w)):PS C G f ws w:=λR=>cwq hk hf hb hn (h R)
theorem zoq{C:Cfg}{G:Nat->Option W}{f:FuncId}{ws:List W}{w w':W}(h:PS C G f ws w)(e:w=w'):PS C G f ws w':=e▸h
noncomputable def pdq(blk:Nat->Option W)(fr:FrW):FrW->Prop
 |[]=>True
 |(t,w)::l=>(∃w0,arq fr t=some w0/\View blk w0 w)/\pdq blk fr l
theorem u0q{blk:Nat->Option W}{fr:FrW}:∀{l:FrW},pdq blk fr l->∀t w,arq l t=some w->∃w0,arq fr t=some w0/\View blk w0 w
 |[],_,t,w,h=>by simp[arq] at h
 |(k,u)::l,hs,t,w,h=>by
  simp only[arq] at h;split at h
  .rename_i e;rw[ZE] at e;subst e;cases h;exact hs.1
  .exact u0q hs.2 t w h
theorem yYq{blk:Nat->Option W}{b:Nat}{c:W}(hb:blk b=some c)(hc:abq c=true)(ha:(c.isAgg||c.leaf)=true):View blk (.ptr b 0) (.fel c):=by
 refine .ptr (n:=c.size) (ag:=c.isAgg) hb hc ?_;unfold zYq;cases hg:c.isAgg<;>simp[hg] at ha⊢
 rw[ha]
section
variable {C:Cfg} {G:Nat->Option W} {m k0:Nat} {fr fr2:FrW} {hp:HpW} {nw:Nat} {R:Res}
theorem enq(hf:pdq (apq hp) fr fr2):Ent C G m k0 fr hp nw R fr2 [] nw R:=λΓ X st hnw hmn s=>by
 let Γ2:Ctx:=⟨Γ.nw,Γ.σ,λc=>Γ.D c\/amq Γ hp c,Γ.h⟩
 have le:Γ.Le Γ2:=⟨Zc _,λ_ _=>rfl,λ_ h=>.inl h,λ_ _=>rfl⟩
 have q:Seen (apq hp) Γ Γ2:=⟨λ_ h _=>h,λ_ _ _=>rfl,λ_ h=>.inl h,λ_ _=>rfl,λb c _ h=>by
  unfold apq at h;split at h
  .rename_i ty c' hg;cases h;obtain⟨v,h1,h2,h3⟩:=qVq s.sat hg;exact⟨.inr ⟨b,_,hg,rfl⟩,v,h2,h3⟩
  .cases h⟩
 have none_:∀{c},¬amq Γ2 [] c:=λ{c} h=>by
  obtain⟨b,x,h,_⟩:=h;simp[hget] at h
 refine⟨Γ2,X,hnw,⟨s.hh,λt w hw=>?_,⟨s.sat.wf,λk ty' w hk=>by simp[hget] at hk,λk k' x y hx=>by simp[hget] at hx,YJ,λd hd hX=>?_,s.sat.xlt,λd hd=>?_,R.st _ _ _ _ _ s.sat.res le.D le.val (λ_ _=>rfl) (Zc _),s.sat.gl.mono le⟩,λd hd=>?_,s.nd⟩,⟨λ_ _=>rfl,λh=>h,Zc _,λ_ _ _ _=>rfl,λ_ h=>.inl h,λd hd=>?_,λk x hk h=>by simp[hget] at h,λk x hk h=>by simp[hget] at h,λ_ h=>.inl h,λ_ h _ _=>h⟩⟩
 .obtain⟨w0,g1,g2⟩:=u0q hf t w hw;obtain⟨u,g3,g4⟩:=s.fr _ _ g1;exact⟨u,g3,j3q q g2 g4⟩
 .rcases hd with h|⟨b,x,h,rfl⟩
  .exact s.sat.dX d h hX
  .exact(s.sat.own b x.1 x.2 h).2.2.1 hX
 .rcases hd with h|⟨b,x,h,rfl⟩
  .exact s.sat.dlt d h
  .exact s.sat.own_lt h
 .obtain⟨q1,q2,q3,q4,q5,q6⟩:=s.ds d hd;refine⟨q1,q2,q3,none_,q5,λh=>?_⟩;rcases h with h|h
  .exact q6 h
  .exact q4 h
 .rcases hd with h|h
  .exact .inl h
  .exact .inr (.inl (.inl h))
theorem yUq{rs:List ResultVar}{w w':W}{x:Exit}(hx:x= .normal\/x= .ret)(hv:pdq (apq hp) fr fr2)(ho:e6q C fr2 [] rs=some w)(e:w=w'):cdq C G m k0 rs (λv _ _ R'=>R'=R/\v=w') x fr hp nw R:=
 fin hx (enq hv) ho ⟨rfl,e⟩
end
theorem QAq{C:Cfg}{G:Nat->Option W}{f:FuncId}{m:Nat}{ws:List W}{hp:HpW}{R:Res}{A:W->Prop}(h:aiq C G f m ws hp R λw hp' _ R'=>R'=R/\∃w',View (apq hp') w w'/\A w'):aiq C G f m ws hp R λw _ _ R'=>R'=R/\A w:=λΓ X vs h1 s hv=>by
 obtain⟨n,v,Γ',X',w,hp',R',g1,g2,g3,g4,rfl,w',g5,gA⟩:=h Γ X vs h1 s hv;let Γ2:Ctx:=⟨Γ'.nw,Γ'.σ,λc=>Γ'.D c\/amq Γ' hp' c,Γ'.h⟩
 have le:Γ'.Le Γ2:=⟨Zc _,λ_ _=>rfl,λ_ h=>.inl h,λ_ _=>rfl⟩
 have q:Seen (apq hp') Γ' Γ2:=⟨λ_ h _=>h,λ_ _ _=>rfl,λ_ h=>.inl h,λ_ _=>rfl,λb c _ h=>by
  unfold apq at h;split at h
  .rename_i ty c' hg;cases h;obtain⟨v,h1,h2,h3⟩:=qVq g2 hg;exact⟨.inr ⟨b,_,hg,rfl⟩,v,h2,h3⟩
  .cases h⟩
 have hD:∀d,Γ2.D d->Γ'.D d\/amq Γ' hp' d:=λd h=>h
 refine⟨n,v,Γ2,X',w',[],R',g1,⟨g2.wf,λk ty' w hk=>by simp[hget] at hk,λk k' x y hx=>by simp[hget] at hx,YJ,λd hd hX=>?_,g2.xlt,λd hd=>?_,R'.st _ _ _ _ _ g2.res le.D le.val (λ_ _=>rfl) (Zc _),g2.gl.mono le⟩,⟨g3.sig,g3.mle,g3.next,g3.keep,λc h=>.inl (g3.dsub c h),λd hd=>?_,λk x hk h=>by simp[hget] at h,λk x hk h=>by simp[hget] at h,g3.xnew,g3.wmin⟩,j3q q g5 g4,rfl,gA⟩
 .rcases hD d hd with h|⟨b,x,h,rfl⟩
  .exact g2.dX d h hX
  .exact(g2.own b x.1 x.2 h).2.2.1 hX
 .rcases hD d hd with h|⟨b,x,h,rfl⟩
  .exact g2.dlt d h
  .exact g2.own_lt h
 .rcases hD d hd with h|h
  .exact g3.dnew d h
  .rcases g3.onew d h with h|h
   .exact .inr (.inl (.inl h))
   .exact .inr (.inr h)
theorem u2q{C:Cfg}{G:Nat->Option W}{f:FuncId}{m:Nat}{ws:List W}{hp:HpW}{R:Res}{w':W}(h:aiq C G f m ws hp R λw hp' _ R'=>R'=R/\View (apq hp') w w'):aiq C G f m ws hp R λw _ _ R'=>R'=R/\w=w':=
 QAq (A:=λw=>w=w') λΓ X vs h1 s hv=>by
  obtain⟨n,v,Γ',X',w,hp',R',g1,g2,g3,g4,g5,g6⟩:=h Γ X vs h1 s hv;exact⟨n,v,Γ',X',w,hp',R',g1,g2,g3,g4,g5,w',g6,rfl⟩
theorem kOq{C:Cfg}{G:Nat->Option W}{f:FuncId}{m:Nat}{ws:List W}{hp:HpW}{P Q:W->HpW->Nat->Prop}(h:yxq C G f m ws hp P)(hi:∀w hp nw,P w hp nw->Q w hp nw):yxq C G f m ws hp Q:=λR Γ X vs h1 s hv=>by
 obtain⟨n,v,Γ',X',w',hp',R',g1,g2,g3,g4,g5,g6⟩:=h R Γ X vs h1 s hv;exact⟨n,v,Γ',X',w',hp',R',g1,g2,g3,g4,g5,hi _ _ _ g6⟩
noncomputable def PE(C:Cfg)(G:Nat->Option W)(f:FuncId)(ws:List W)(A:W->Prop):Prop:=yxq C G f 0 ws [] λw _ _=>abq w=true/\A w
theorem z1q{C:Cfg}{G:Nat->Option W}{m k0:Nat}{rs:List ResultVar}{fr:FrW}{hp:HpW}{nw:Nat}{R:Res}{w w':W}{A:W->Prop}{x:Exit}(hx:x= .normal\/x= .ret)(ho:e6q C fr hp rs=some w)(hv:View (apq hp) w w')(hw:abq w'=true)(ha:A w'):cdq C G m k0 rs (λv hp' _ R'=>R'=R/\∃w,View (apq hp') v w/\(abq w=true/\A w)) x fr hp nw R:=
 fin hx Ent.refl ho ⟨rfl,w',hv,hw,ha⟩
theorem qIq{C:Cfg}{G:Nat->Option W}{o:Oper}{fr:FrW}{hp:HpW}{nw:Nat}{R:Res}{post:W->HpW->Nat->Res->Option EvW->Prop}{x:Operand}{xs:Array Operand}{ats:Array TypeId}{f:FuncId}{a us c ws:List W}{A:W->Prop}(ho:o.op= .call ⟨.value x,xs,ats⟩)(hx:evW C G fr x=some (.fn f a c))(he:C.ext f=none)(hxs:ayq C G fr xs.toList=some us)(hws:a++us++c=ws)(sp:PE C G f ws A)(hpw:acq ws=true)(h:∀w,abq w=true->A w->post w hp nw R (some .gen)):aeq C G o fr hp nw R post:=by
 subst hws;exact vRq ho hx he hxs sp hpw λw' _ _ hq=>⟨hq.1,h w' hq.1 hq.2⟩
theorem yTq{C:Cfg}{G:Nat->Option W}{m k0:Nat}{rs:List ResultVar}{fr:FrW}{hp:HpW}{nw:Nat}{R:Res}{w w':W}{x:Exit}(hx:x= .normal\/x= .ret)(ho:e6q C fr hp rs=some w)(hv:View (apq hp) w w'):cdq C G m k0 rs (λv hp' _ R'=>R'=R/\View (apq hp') v w') x fr hp nw R:=
 fin hx Ent.refl ho ⟨rfl,hv⟩
section
variable {C:Cfg} {G:Nat->Option W}
theorem xOq{f:FuncId}{fn:Func}{c:Code}{cs:List W}{l:List (List W)}(hk:C.known f=none)(hf:C.fn f=some fn)(hb:fn.body=some c)(hn:cs.length+1<=fn.ntmps)
  (h:∀L E R,Yl C G L E l R->∀k0,CoW C G 0 k0 false c (Zbq 0 (.yield L::cs)) [] 0 R (cdq C G 0 k0 fn.results.toList λ_ _ _ R'=>E R')):qAq C G f cs l:=λL E R hy=>cwq hk hf hb hn (h L E R hy)
theorem kuq{m k0:Nat}{rs:List ResultVar}{fr:FrW}{hp:HpW}{nw:Nat}{R:Res}{w:W}{x:Exit}{E:Res->Prop}(hx:x= .normal\/x= .ret)(ho:e6q C fr hp rs=some w)(h:E R):cdq C G m k0 rs (λ_ _ _ R'=>E R') x fr hp nw R:=fin hx Ent.refl ho h
variable {m k0:Nat} {rd:Bool} {fr:FrW} {hp hp':HpW} {nw nw':Nat} {R:Res} {Q:qpq} {c:Code}
theorem exq{α:Type}(I:α->Prop)(V:α->FrW)(kf:FrW)(H:α->HpW)(RR:α->Res)(μ:α->Nat)(a0:α)(hk:aqq fr kf)(h0:I a0)(hv:aqq fr (V a0))(hh:hp=H a0)(hR:R=RR a0)
  (step:∀a,I a->CoW C G m k0 rd c (V a++kf) (H a) nw (RR a) (x6q C G m k0 I (λa=>V a++kf) H (λ_=>nw) RR μ (μ a) Q)):CoW C G m k0 rd (.loop c) fr hp nw R Q:=by
 subst hR;exact jeq I (λa=>V a++kf) H (λ_=>nw) RR μ a0 h0 (ynq (q7q hv hk) hh rfl) step
theorem Jxq{α:Type}{I:α->Prop}{V:α->FrW}{kf:FrW}{H:α->HpW}{RR:α->Res}{μ:α->Nat}{k:Nat}{fr':FrW}(a:α)(ha:I a)(hμ:μ a<k)(hm:m<=nw)(hv:aqq fr' (V a))(hk:aqq fr' kf)(hr:aKq nw (V a))(hr2:aKq nw kf)(hn:nw<=nw')(hh:eTq hp' nw (H a))(nd:((H a).map (·.1)).Nodup)(hR:R=RR a):
  x6q C G m k0 I (λa=>V a++kf) H (λ_=>nw) RR μ k Q .normal fr' hp' nw' R:=by
 subst hR;exact y6q a ha hμ (zDq hm hn (q7q hv hk) (jTq (uaq hr hr2)) (ztq hh) nd)
theorem Y0q{β:Type}{g:Operand}{ps:Array Tmp}{asg bd:Code}{gf:FuncId}{cs:List W}(enc:β->List W)(ls:List β)(I:Nat->Prop)
  (hg:evW C G fr g=some (.fn gf [] cs)) (hpu:acq cs=true) (it:qAq C G gf cs (ls.map enc)) (hl:∀y∈ls,acq (enc y)=true/\(enc y).length=ps.size) (h0:I 0)
  (round:∀i y,ls[i]? =some y->I i->CoW C G nw k0 true asg (a9q fr ps.toList (enc y)) hp nw R (szq C G nw k0 bd (oQq C G nw k0 (λ_:Unit=>I (i+1)) (λ_=>hp) (λ_=>nw) (λ_=>R) fr Q)))
  (done:I ls.length->Q .normal fr hp nw R):CoW C G m k0 false (.rangeFunc g ps asg bd) fr hp nw R Q:=
 ZYq (α:=Unit) (λi _=>I i) (λ_=>hp) (λ_=>nw) (λ_=>R) () hg hpu it (λx hx=>by obtain⟨y,hy,rfl⟩:=Z1.1 hx;exact hl y hy) h0 Y Y Y
  (λi a x hx hi=>by
   rw[ZY,Option.map_eq_some_iff] at hx;obtain⟨y,hy,rfl⟩:=hx;exact round i y hy hi) (λa h=>done Qj)
noncomputable def QBk{α:Type}(I:α->Prop)(hp:HpW)(nw:Nat)(RR:α->Res)(fr:FrW)(Q:qpq):qpq
 |.normal,_,hp',nw',R'=>∃a,I a/\nw<=nw'/\Zzq hp' hp nw/\R'=RR a
 |.ret,_,hp',nw',R'=>Q .ret fr hp' nw' R'
 |.exit id,_,hp',nw',R'=>Q (.exit id) fr hp' nw' R'
 |.goto l,_,hp',nw',R'=>Q (.goto l) fr hp' nw' R'
 |_,_,_,_,_=>False
theorem ZKq{α:Type}{I:α->Prop}{RR:α->Res}{fr':FrW}{R':Res}{x:Exit}(hx:Yoq x≠none)(h:Q x fr hp' nw' R'):QBk I hp nw RR fr Q x fr' hp' nw' R':=by
 cases x<;>first|exact h|exact absurd rfl hx
theorem ZJq{α:Type}{I:α->Prop}{RR:α->Res}{fr':FrW}(a:α)(ha:I a)(hn:nw<=nw')(hh:Zzq hp' hp nw)(hR:R=RR a):QBk I hp nw RR fr Q .normal fr' hp' nw' R:=⟨a,ha,hn,hh,hR⟩
theorem vAq{α β:Type}{g:Operand}{ps:Array Tmp}{asg bd:Code}{gf:FuncId}{cs:List W}(enc:β->List W)(ls:List β)(I:Nat->α->Prop)(RR:α->Res)(a0:α)
  (hg:evW C G fr g=some (.fn gf [] cs)) (hpu:acq cs=true) (it:qAq C G gf cs (ls.map enc)) (hl:∀y∈ls,acq (enc y)=true/\(enc y).length=ps.size) (h0:I 0 a0) (hR:R=RR a0)
  (round:∀i a y,ls[i]? =some y->I i a->CoW C G nw k0 true asg (a9q fr ps.toList (enc y)) hp nw (RR a) (szq C G nw k0 bd (QBk (I (i+1)) hp nw RR fr Q)))
  (done:∀a,I ls.length a->Q .normal fr hp nw (RR a)):CoW C G m k0 false (.rangeFunc g ps asg bd) fr hp nw R Q:=by
 subst hR;refine ezq λhm f1 f2 f3=>ZYq I (λ_=>hp) (λ_=>nw) RR a0 hg hpu it (λx hx=>by obtain⟨y,hy,rfl⟩:=Z1.1 hx;exact hl y hy) h0 Y Y Y (λi a x hx hi=>?_) (λa h=>done a Qj)
 rw[ZY,Option.map_eq_some_iff] at hx;obtain⟨y,hy,rfl⟩:=hx;refine Kfq (round i a y hy hi) λx fr' hp' nw' R' h=>?_
 obtain⟨rfl,h⟩:=h;refine⟨rfl,Kfq h λx fr' hp' nw' R' h=>?_⟩;cases x with
 |normal=>
  obtain⟨a',h1,h2,h3,rfl⟩:=h;exact Jwq a' h1 (zDq (Zc _) h2 trivial rfl (λb x hb=>⟨(f2 b x hb).1,h3 b x (f2 b x hb).1 hb,(f2 b x hb).2⟩) f3)
 |ret=>exact h
 |exit _=>exact h
 |goto _=>exact h
 |panic _=>exact h.elim
 |outgrown=>exact h.elim
theorem ilq{α β:Type}{g:Operand}{ps:Array Tmp}{asg bd:Code}{gf:FuncId}{cs:List W}(enc:β->List W)(ls:List β)(I:Nat->α->Prop)(H:α->HpW)(RR:α->Res)(a0:α)
  (hg:evW C G fr g=some (.fn gf [] cs)) (hpu:acq cs=true) (it:qAq C G gf cs (ls.map enc)) (hl:∀y∈ls,acq (enc y)=true/\(enc y).length=ps.size) (h0:I 0 a0) (hh:hp=H a0) (hR:R=RR a0)
  (round:∀i a y,ls[i]? =some y->I i a->CoW C G nw k0 true asg (a9q fr ps.toList (enc y)) (H a) nw (RR a) (szq C G nw k0 bd (oQq C G nw k0 (I (i+1)) H (λ_=>nw) RR fr Q)))
  (done:∀a,I ls.length a->Q .normal fr (H a) nw (RR a)):CoW C G m k0 false (.rangeFunc g ps asg bd) fr hp nw R Q:=
 ZYq I H (λ_=>nw) RR a0 hg hpu it (λx hx=>by obtain⟨y,hy,rfl⟩:=Z1.1 hx;exact hl y hy) h0 hh rfl hR
  (λi a x hx hi=>by
   rw[ZY,Option.map_eq_some_iff] at hx;obtain⟨y,hy,rfl⟩:=hx;exact round i a y hy hi) (λa h=>done a Qj)
theorem ikq{α β:Type}{g:Operand}{ps:Array Tmp}{asg bd:Code}{gf:FuncId}{cs:List W}(enc:β->List W)(ls:List β)(I:Nat->α->Prop)(H:α->HpW)(N:α->Nat)(RR:α->Res)(a0:α)
  (hg:evW C G fr g=some (.fn gf [] cs)) (hpu:acq cs=true) (it:qAq C G gf cs (ls.map enc)) (hl:∀y∈ls,acq (enc y)=true/\(enc y).length=ps.size) (h0:I 0 a0) (hh:hp=H a0) (hn:nw=N a0) (hR:R=RR a0)
  (round:∀i a y,ls[i]? =some y->I i a->CoW C G nw k0 true asg (a9q fr ps.toList (enc y)) (H a) (N a) (RR a) (szq C G nw k0 bd (oQq C G nw k0 (I (i+1)) H N RR fr Q)))
  (done:∀a,I ls.length a->Q .normal fr (H a) (N a) (RR a)):CoW C G m k0 false (.rangeFunc g ps asg bd) fr hp nw R Q:=
 ZYq I H N RR a0 hg hpu it (λx hx=>by obtain⟨y,hy,rfl⟩:=Z1.1 hx;exact hl y hy) h0 hh hn hR
  (λi a x hx hi=>by
   rw[ZY,Option.map_eq_some_iff] at hx;obtain⟨y,hy,rfl⟩:=hx;exact round i a y hy hi) (λa h=>done a Qj)
theorem dOq{α:Type}{I:α->Prop}{H:α->HpW}{RR:α->Res}{fr':FrW}(a:α)(ha:I a)(hn:nw<=nw')(hh:eTq hp' nw (H a))(nd:((H a).map (·.1)).Nodup)(hR:R=RR a):oQq C G nw k0 I H (λ_=>nw) RR fr Q .normal fr' hp' nw' R:=by
 subst hR;exact Jwq a ha (zDq (Zc _) hn trivial rfl (ztq hh) nd)
end
section
variable {C:Cfg} {G:Nat->Option W} {m:Nat} {ops:Array Oper} {l:List Oper} {i:Nat} {es:List (Nat×EvW)} {fr:FrW} {hp:HpW} {nw:Nat} {R:Res} {K:FrW->HpW->Nat->Res->Prop} {o:Oper} {x:Operand} {xs:Array Operand} {ats:Array TypeId} {f:FuncId} {a us c ws:List W} {w:W} {b:Bool} {p:Prop}
theorem g4q [Decidable p](hw:qqq ops fr o=some true)(hx:yJq C G fr o.op=some (.bool b))(h:OpW C G m ops l (aoq fr o.dst (.bool (decide p))) hp nw R K)(hb:b=true↔p:=by first|exact ltI_iff|exact eqI_iff|exact j9q|exact kaq|exact y9q|exact jgq):OpW C G m ops (o::l) fr hp nw R K:=tRq hw hx hb h
theorem AWq(hw:qqq ops fr o=some true)(hx:yJq C G fr o.op=some (.bool b))(ht:p->OpW C G m ops l (aoq fr o.dst (.bool true)) hp nw R K)(hf:¬p->OpW C G m ops l (aoq fr o.dst (.bool false)) hp nw R K)(hb:b=true↔p:=by first|exact ltI_iff|exact eqI_iff|exact j9q|exact kaq|exact y9q|exact jgq):OpW C G m ops (o::l) fr hp nw R K:=tQq hw hx hb ht hf
theorem j8q(hg:qqq ops fr o=some true)(ho:o.op= .call ⟨.value x,xs,ats⟩)(hx:evW C G fr x=some (.fn f a c))(he:C.ext f=none)(hxs:ayq C G fr xs.toList=some us)(hws:a++us++c=ws)(sp:PS C G f ws w)(h:OpW C G m ops l (aoq fr o.dst w) hp nw R K)(hpw:acq ws=true:=by first|rfl|assumption|(simp;done))(hw:abq w=true:=by first|rfl|assumption|(simp;done)):OpW C G m ops (o::l) fr hp nw R K:=Qoq hg ho hx he hxs hws sp hpw hw h
theorem Bhq{w:W}{hp2:HpW}{nw2:Nat}{ev:EvW}(hw:qqq ops fr o=some true)(hx:aDq C G fr hp nw o.op=some (w,hp2,nw2,ev))(h:FlW C G m ops l (i+1) ((i,ev)::es) (aoq fr o.dst w) hp2 nw2 R K)(hc:c5q ops i ev es=true:=by first|rfl|kernel_rfl):FlW C G m ops (o::l) i es fr hp nw R K:=vqq hw hx hc h
theorem tOq(sp:PS C G f ws w)(h:OpW C G m ops l (aoq fr o.dst w) hp nw R K)(hg:qqq ops fr o=some true:=by exact rfl)(ho:o.op= .call ⟨.value x,xs,ats⟩:=by exact rfl)(hx:evW C G fr x=some (.fn f a c):=by exact rfl)(he:C.ext f=none:=by exact rfl)(hxs:ayq C G fr xs.toList=some us:=by exact rfl)(hws:a++us++c=ws:=by exact rfl)(hpw:acq ws=true:=by first|rfl|assumption|(simp;done))(hw:abq w=true:=by first|rfl|assumption|(simp;done)):OpW C G m ops (o::l) fr hp nw R K:=Qoq hg ho hx he hxs hws sp hpw hw h
theorem mWq(sp:PS C G f ws w)(h:FlW C G m ops l (i+1) ((i,.gen)::es) (aoq fr o.dst w) hp nw R K)(hg:qqq ops fr o=some true:=by exact rfl)(ho:o.op= .call ⟨.value x,xs,ats⟩:=by exact rfl)(hx:evW C G fr x=some (.fn f a c):=by exact rfl)(he:C.ext f=none:=by exact rfl)(hxs:ayq C G fr xs.toList=some us:=by exact rfl)(hws:a++us++c=ws:=by exact rfl)(hpw:acq ws=true:=by first|rfl|assumption|(simp;done))(hw:abq w=true:=by first|rfl|assumption|(simp;done))(hc:c5q ops i .gen es=true:=by first|rfl|kernel_rfl):FlW C G m ops (o::l) i es fr hp nw R K:=rxq hg ho hx he hxs hws sp hpw hw hc h
end
end
inductive Kt where
 |seq (c:Code)
 |blk (i:Nat)
inductive At where
 |co (c:Code)
 |op (ops:Array Oper) (l:List Oper)
 |fl (ops:Array Oper) (l:List Oper) (i:Nat) (es:List (Nat×EvW))
 |ex (x:Exit)
structure Sit where
 at_:At
 ks:List Kt
 fr:FrW
 hp:HpW
 nw:Nat
@[reducible] noncomputable def QK(C:Cfg)(G:Nat->Option W)(m k0:Nat)(rd:Bool):List Kt->qpq->qpq
 |[],Q=>Q
 |.seq y::l,Q=>Awq C G m k0 rd y (QK C G m k0 rd l Q)
 |.blk i::l,Q=>Zvq i (QK C G m k0 rd l Q)
@[reducible] noncomputable def GoW(C:Cfg)(G:Nat->Option W)(m k0:Nat)(rd:Bool)(s:Sit)(R:Res)(Q:qpq):Prop:=match s with
 |⟨.co c,ks,fr,hp,nw⟩=>CoW C G m k0 rd c fr hp nw R (QK C G m k0 rd ks Q)
 |⟨.op ops l,ks,fr,hp,nw⟩=>OpW C G m ops l fr hp nw R λfr hp nw R=>QK C G m k0 rd ks Q .normal fr hp nw R
 |⟨.fl ops l i es,ks,fr,hp,nw⟩=>FlW C G m ops l i es fr hp nw R λfr hp nw R=>QK C G m k0 rd ks Q .normal fr hp nw R
 |⟨.ex x,ks,fr,hp,nw⟩=>QK C G m k0 rd ks Q x fr hp nw R
noncomputable def BEq(C:Cfg)(G:Nat->Option W)(ks:List Kt)(fr:FrW)(hp:HpW)(nw:Nat):Code->Option Sit
 |.seq x y=>some ⟨.co x,.seq y::ks,fr,hp,nw⟩
 |.block i x=>some ⟨.co x,.blk i::ks,fr,hp,nw⟩
 |.skip=>some ⟨.ex .normal,ks,fr,hp,nw⟩
 |.label _=>some ⟨.ex .normal,ks,fr,hp,nw⟩
 |.exit i=>some ⟨.ex (.exit i),ks,fr,hp,nw⟩
 |.goto l=>some ⟨.ex (.goto l),ks,fr,hp,nw⟩
 |.ret=>some ⟨.ex .ret,ks,fr,hp,nw⟩
 |.region _ ops false=>some ⟨.op ops ops.toList,ks,fr,hp,nw⟩
 |.region _ ops true=>some ⟨.fl ops ops.toList 0 [],ks,fr,hp,nw⟩
 |.cond c x y=>match evW C G fr c with
  |some (.bool true)=>some ⟨.co x,ks,fr,hp,nw⟩
  |some (.bool false)=>some ⟨.co y,ks,fr,hp,nw⟩
  |_=>none
 |_=>none
noncomputable def BDq(fr:FrW)(hp:HpW)(nw:Nat):Exit->List Kt->Option Sit
 |.normal,.seq y::l=>some ⟨.co y,l,fr,hp,nw⟩
 |x,.seq _::l=>some ⟨.ex x,l,fr,hp,nw⟩
 |.exit j,.blk i::l=>match Nat.beq j i with
  |true=>some ⟨.ex .normal,l,fr,hp,nw⟩
  |false=>some ⟨.ex (.exit j),l,fr,hp,nw⟩
 |x,.blk _::l=>some ⟨.ex x,l,fr,hp,nw⟩
 |_,[]=>none
noncomputable def adv(C:Cfg)(G:Nat->Option W)(b:Bool):Sit->Option (Bool×Sit)
 |⟨.co c,ks,fr,hp,nw⟩=>match BEq C G ks fr hp nw c with
  |some s=>some (b,s)
  |none=>none
 |⟨.ex x,ks,fr,hp,nw⟩=>match BDq fr hp nw x ks with
  |some s=>some (b,s)
  |none=>none
 |⟨.op _ [],ks,fr,hp,nw⟩=>some (b,⟨.ex .normal,ks,fr,hp,nw⟩)
 | ⟨.op ops (o::l),ks,fr,hp,nw⟩=>match qqq ops fr o with
  |some true=>match yJq C G fr o.op with
   |some w=>some (b,⟨.op ops l,ks,aoq fr o.dst w,hp,nw⟩)
   |none=>match aDq C G fr hp nw o.op with
    |some (w,hp2,nw2,_)=>some (b,⟨.op ops l,ks,aoq fr o.dst w,hp2,nw2⟩)
    |none=>none
  |some false=>some (b,⟨.op ops l,ks,aoq fr o.dst .undef,hp,nw⟩)
  |none=>none
 |⟨.fl _ [] _ _,ks,fr,hp,nw⟩=>some (b,⟨.ex .normal,ks,fr,hp,nw⟩)
 | ⟨.fl ops (o::l) i es,ks,fr,hp,nw⟩=>match qqq ops fr o with
  |some true=>match yJq C G fr o.op with
   |some w=>some (b,⟨.fl ops l (i+1) es,ks,aoq fr o.dst w,hp,nw⟩)
   |none=>match aDq C G fr hp nw o.op with
    |some (w,hp2,nw2,ev)=>some (c5q ops i ev es&&b,⟨.fl ops l (i+1) ((i,ev)::es),ks,aoq fr o.dst w,hp2,nw2⟩)
    |none=>none
  |some false=>some (b,⟨.fl ops l (i+1) es,ks,aoq fr o.dst .undef,hp,nw⟩)
  |none=>none
noncomputable def aHq(C:Cfg)(G:Nat->Option W):Nat->Bool->Sit->Option (Bool×Sit)
 |0,b,s=>some (b,s)
 |n+1,b,s=>match adv C G b s with
  |some (b',s')=>aHq C G n b' s'
  |none=>none
section
variable {C:Cfg} {G:Nat->Option W} {m k0:Nat} {rd:Bool} {R:Res} {Q:qpq}
theorem swq{ks:List Kt}{fr:FrW}{hp:HpW}{nw:Nat}{c:Code}{s':Sit}(h:BEq C G ks fr hp nw c=some s')(g:GoW C G m k0 rd s' R Q):CoW C G m k0 rd c fr hp nw R (QK C G m k0 rd ks Q):=by
 unfold BEq at h;split at h
 .cases h;exact ozq g
 .cases h;exact nlq g
 .cases h;exact r4q g
 .cases h;exact nkq g
 .cases h;exact r7q g
 .cases h;exact r5q g
 .cases h;exact wNq g
 .cases h;exact ijq g
 .cases h;exact r6q g
 .split at h
  .rename_i hc;cases h;exact iiq hc g
  .rename_i hc;cases h;exact eyq hc g
  .cases h
 .cases h
theorem svq{ks:List Kt}{fr:FrW}{hp:HpW}{nw:Nat}{x:Exit}{s':Sit}(h:BDq fr hp nw x ks=some s')(g:GoW C G m k0 rd s' R Q):QK C G m k0 rd ks Q x fr hp nw R:=by
 unfold BDq at h;split at h
 .cases h;exact AMq g
 .rename_i x y l hx;cases h;exact ttq (λe=>hx e) g
 .rename_i j i l;cases hb:Nat.beq j i with
  |true=>
   rw[hb] at h;cases h
   obtain rfl:=Zh hb;exact ANq g
  |false=>rw[hb] at h;cases h;exact tvq hb g
 .rename_i x i l hx;cases h;exact twq (λj e=>hx j e) g
 .cases h
theorem ypq{b b':Bool}:∀{s s':Sit},adv C G b s=some (b',s') ->(b'=true->b=true)/\(b'=true->GoW C G m k0 rd s' R Q->GoW C G m k0 rd s R Q)
 |⟨.co c,ks,fr,hp,nw⟩,s',h=>by
  simp only[adv] at h;split at h
  .rename_i h1;cases h;exact⟨λe=>e,λe g=>swq h1 g⟩
  .cases h
 |⟨.ex x,ks,fr,hp,nw⟩,s',h=>by
  simp only[adv] at h;split at h
  .rename_i h1;cases h;exact⟨λe=>e,λe g=>svq h1 g⟩
  .cases h
 |⟨.op _ [],ks,fr,hp,nw⟩,s',h=>by cases h;exact⟨λe=>e,λe g=>g3q g⟩
 | ⟨.op ops (o::l),ks,fr,hp,nw⟩,s',h=>by
  simp only[adv] at h;split at h
  .rename_i hw;split at h
   .rename_i w hx;cases h;exact⟨λe=>e,λe g=>yyq hw hx g⟩
   .split at h
    .rename_i hx;cases h;exact⟨λe=>e,λe g=>jbq hw hx g⟩
    .cases h
  .rename_i hw;cases h;exact⟨λe=>e,λe g=>p5q hw g⟩
  .cases h
 |⟨.fl _ [] _ _,ks,fr,hp,nw⟩,s',h=>by cases h;exact⟨λe=>e,λe g=>woq g⟩
 | ⟨.fl ops (o::l) i es,ks,fr,hp,nw⟩,s',h=>by
  simp only[adv] at h;split at h
  .rename_i hw;split at h
   .rename_i w hx;cases h;exact⟨λe=>e,λe g=>jOq hw hx g⟩
   .split at h
    .rename_i hx;cases h;exact⟨λe=>(Bool.and_eq_true_iff.1 e).2,λe g=>vqq hw hx (Bool.and_eq_true_iff.1 e).1 g⟩
    .cases h
  .rename_i hw;cases h;exact⟨λe=>e,λe g=>rwq hw g⟩
  .cases h
theorem x2q:∀(n:Nat) {b b':Bool} {s s':Sit},aHq C G n b s=some (b',s') ->(b'=true->b=true)/\(b'=true->GoW C G m k0 rd s' R Q->GoW C G m k0 rd s R Q)
 |0,_,_,_,_,h=>by cases h;exact⟨λe=>e,λ_ g=>g⟩
 |n+1,b,b',s,s',h=>by
  simp only[aHq] at h;split at h
  .rename_i b1 s1 h1;obtain⟨a1,a2⟩:=ypq (m:=m) (k0:=k0) (rd:=rd) (R:=R) (Q:=Q) h1;obtain⟨c1,c2⟩:=x2q n h;exact⟨λe=>a1 (c1 e),λe g=>a2 (c1 e) (c2 e g)⟩
  .cases h
variable {b:Bool} {s:Sit} {c:Code} {ops:Array Oper} {l:List Oper} {i:Nat} {es:List (Nat×EvW)} {x:Exit} {ks:List Kt} {fr:FrW} {hp:HpW} {nw:Nat}
theorem zEq(n:Nat)(h:aHq C G n true ⟨.co c,[],fr,hp,nw⟩=some (b,s))(g:GoW C G m k0 rd s R Q)(hb:b=true:=by first|rfl|kernel_rfl):CoW C G m k0 rd c fr hp nw R Q:=(x2q n h).2 hb g
theorem zPq(n:Nat)(h:aHq C G n true ⟨.co c,ks,fr,hp,nw⟩=some (b,s))(g:GoW C G m k0 rd s R Q)(hb:b=true:=by first|rfl|kernel_rfl):CoW C G m k0 rd c fr hp nw R (QK C G m k0 rd ks Q):=(x2q n h).2 hb g
theorem tkq(n:Nat)(h:aHq C G n true ⟨.op ops l,[],fr,hp,nw⟩=some (b,s))(g:GoW C G m 0 false s R Q)(hb:b=true:=by first|rfl|kernel_rfl):OpW C G m ops l fr hp nw R λfr hp nw R=>Q .normal fr hp nw R:=(x2q n h).2 hb g
theorem zhq(n:Nat)(h:aHq C G n true ⟨.op ops l,ks,fr,hp,nw⟩=some (b,s))(g:GoW C G m k0 rd s R Q)(hb:b=true:=by first|rfl|kernel_rfl):OpW C G m ops l fr hp nw R λfr hp nw R=>QK C G m k0 rd ks Q .normal fr hp nw R:=(x2q n h).2 hb g
theorem yhq(n:Nat)(h:aHq C G n true ⟨.fl ops l i es,ks,fr,hp,nw⟩=some (b,s))(g:GoW C G m k0 rd s R Q)(hb:b=true:=by first|rfl|kernel_rfl):FlW C G m ops l i es fr hp nw R λfr hp nw R=>QK C G m k0 rd ks Q .normal fr hp nw R:=(x2q n h).2 hb g
theorem z0q(n:Nat)(h:aHq C G n true ⟨.ex x,ks,fr,hp,nw⟩=some (b,s))(g:GoW C G m k0 rd s R Q)(hb:b=true:=by first|rfl|kernel_rfl):QK C G m k0 rd ks Q x fr hp nw R:=(x2q n h).2 hb g
end
noncomputable def a8q:Sit->Option (Oper×FrW×HpW×Nat×(W->Sit)×(W->HpW->Nat->EvW->Sit)×(EvW->Bool))
 |⟨.op ops (o::l),ks,fr,hp,nw⟩=>match qqq ops fr o with
  |some true=>some (o,fr,hp,nw,λw=>⟨.op ops l,ks,aoq fr o.dst w,hp,nw⟩,λw hp2 nw2 _=>⟨.op ops l,ks,aoq fr o.dst w,hp2,nw2⟩,λ_=>true)
  |_=>none
 |⟨.fl ops (o::l) i es,ks,fr,hp,nw⟩=>match qqq ops fr o with
  |some true=>some (o,fr,hp,nw,λw=>⟨.fl ops l (i+1) es,ks,aoq fr o.dst w,hp,nw⟩,λw hp2 nw2 ev=>⟨.fl ops l (i+1) ((i,ev)::es),ks,aoq fr o.dst w,hp2,nw2⟩,λev=>c5q ops i ev es)
  |_=>none
 |_=>none
noncomputable def goP(C:Cfg)(G:Nat->Option W)(n:Nat)(s:Sit):Option (Bool×Op×FrW×(W->Sit)):=match aHq C G n true s with
 |some (b,s')=>match a8q s' with
  |some (o,fr,_,_,k,_)=>some (b,o.op,fr,k)
  |none=>none
 |none=>none
noncomputable def goV(C:Cfg)(G:Nat->Option W)(n:Nat)(s:Sit):Option (Bool×W×(W->Sit)):=match aHq C G n true s with
 |some (b,s')=>match a8q s' with
  |some (o,fr,_,_,k,_)=>match yJq C G fr o.op with
   |some w=>some (b,w,k)
   |none=>none
  |none=>none
 |none=>none
noncomputable def goM(C:Cfg)(G:Nat->Option W)(n:Nat)(s:Sit):Option (Bool×Op×FrW×HpW×Nat×(W->HpW->Nat->EvW->Sit)×(EvW->Bool)):=match aHq C G n true s with
 |some (b,s')=>match a8q s' with
  |some (o,fr,hp,nw,_,k,q)=>some (b,o.op,fr,hp,nw,k,q)
  |none=>none
 |none=>none
noncomputable def goC(C:Cfg)(G:Nat->Option W)(n:Nat)(s:Sit):Option (Bool×FuncId×List W×(W->Sit)):=match aHq C G n true s with
 |some (b,s')=>match a8q s' with
  |some (o,fr,hp,nw,_,k,q)=>match o.op with
   |.call ⟨.value x,xs,_⟩=>match evW C G fr x,ayq C G fr xs.toList with
    |some (.fn f a c),some us=>match C.ext f with
     |none=>some (b&&q .gen,f,a++us++c,λw=>k w hp nw .gen)
     |some _=>none
    |_,_=>none
   |_=>none
  |none=>none
 |none=>none
noncomputable def goK(C:Cfg)(G:Nat->Option W)(n:Nat)(s:Sit):Option (Bool×Bool×Sit×Sit):=match aHq C G n true s with
 |some (b,⟨.co (.cond c x y),ks,fr,hp,nw⟩)=>match evW C G fr c with
  |some (.bool v)=>some (b,v,⟨.co x,ks,fr,hp,nw⟩,⟨.co y,ks,fr,hp,nw⟩)
  |_=>none
 |_=>none
noncomputable def goB(C:Cfg)(G:Nat->Option W)(n:Nat)(s:Sit):Option (Bool×Bool×Sit×Sit):=match aHq C G n true s with
 |some (b,⟨.op ops l,ks,(d,.bool v)::fr,hp,nw⟩)=>some (b,v,⟨.op ops l,ks,(d,.bool true)::fr,hp,nw⟩,⟨.op ops l,ks,(d,.bool false)::fr,hp,nw⟩)
 |some (b,⟨.fl ops l i es,ks,(d,.bool v)::fr,hp,nw⟩)=>some (b,v,⟨.fl ops l i es,ks,(d,.bool true)::fr,hp,nw⟩,⟨.fl ops l i es,ks,(d,.bool false)::fr,hp,nw⟩)
 |_=>none
noncomputable def oeq:Exit->Bool
 |.normal=>true
 |.ret=>true
 |_=>false
noncomputable def Aoq(C:Cfg)(G:Nat->Option W)(n:Nat)(s:Sit)(rs:List ResultVar):Option (Bool×W×HpW):=match aHq C G n true s with
 |some (b,⟨.ex x,[],fr,hp,nw⟩)=>match oeq x with
  |true=>match e6q C fr hp rs with
   |some w=>some (b,w,hp)
   |none=>none
  |false=>none
 |_=>none
noncomputable def goI(C:Cfg)(G:Nat->Option W)(n:Nat)(f:FuncId)(ws:List W)(hp:HpW)(m:Nat):Option (Bool×Sit×List ResultVar):=match C.known f with
 |none=>match C.fn f with
  |some fn=>match fn.body,Nat.ble ws.length fn.ntmps with
   |some c,true=>match aHq C G n true ⟨.co c,[],Zbq 0 ws,hp,m⟩ with
    |some (b,s)=>some (b,s,fn.results.toList)
    |none=>none
   |_,_=>none
  |none=>none
 |some _=>none
section
variable {C:Cfg} {G:Nat->Option W} {m k0 n:Nat} {rd:Bool} {R:Res} {Q:qpq} {s s':Sit} {b:Bool} {o:Op} {fr:FrW} {hp:HpW} {nw:Nat} {k:W->Sit} {kk:W->HpW->Nat->EvW->Sit} {q:EvW->Bool} {w w':W} {p:Prop}
theorem zcq(n:Nat)(h:aHq C G n true s=some (b,s'))(g:GoW C G m k0 rd s' R Q)(hb:b=true:=by first|rfl|kernel_rfl):GoW C G m k0 rd s R Q:=(x2q n h).2 hb g
theorem phq{oo:Oper}(h:a8q s=some (oo,fr,hp,nw,k,kk,q))(e:yJq C G fr oo.op=some w)(g:GoW C G m k0 rd (k w) R Q):GoW C G m k0 rd s R Q:=by
 unfold a8q at h;split at h
 .split at h
  .rename_i hw;cases h;exact yyq hw e g
  .cases h
 .split at h
  .rename_i hw;cases h;exact jOq hw e g
  .cases h
 .cases h
theorem f8q{oo:Oper}(h:a8q s=some (oo,fr,hp,nw,k,kk,q))(g:aeq C G oo fr hp nw R λw hp' nw' R' ev=>match ev with
  |none=>GoW C G m k0 rd (k w) R' Q/\hp'=hp/\nw'=nw
  |some e=>q e=true/\GoW C G m k0 rd (kk w hp' nw' e) R' Q):GoW C G m k0 rd s R Q:=by
 unfold a8q at h;split at h
 .split at h
  .rename_i hw;cases h
   refine zsq hw λΓ X frv a1 a2 a3=>?_
   obtain⟨n,w,hp',R',ev,v,h',Γ',X',h1,h2⟩:=g Γ X frv a1 a2 a3;refine⟨n,w,hp',R',ev,v,h',Γ',X',?_,h2⟩;cases ev with
   |none=>obtain⟨h1,h3,h4⟩:=h1;subst h3;rw[h4];exact h1
   |some e=>exact h1.2
  .cases h
 .split at h
  .rename_i hw;cases h
   refine qmq hw λΓ X frv a1 a2 a3=>?_
   obtain⟨n,w,hp',R',ev,v,h',Γ',X',h1,h2⟩:=g Γ X frv a1 a2 a3;refine⟨n,w,hp',R',ev,v,h',Γ',X',?_,h2⟩;cases ev with
   |none=>obtain⟨h1,h3,h4⟩:=h1;subst h3;rw[h4];exact h1
   |some e=>exact h1
  .cases h
 .cases h
noncomputable def B2q(C:Cfg)(G:Nat->Option W)(n:Nat)(s:Sit):Option (Bool×Oper×FrW×HpW×Nat×(W->HpW->Nat->Sit)):=match aHq C G n true s with
 |some (b,⟨.op ops (o::l),ks,fr,hp,nw⟩)=>match qqq ops fr o with
  |some true=>some (b,o,fr,hp,nw,λw hp2 nw2=>⟨.op ops l,ks,aoq fr o.dst w,hp2,nw2⟩)
  |_=>none
 |_=>none
theorem gSo{oo:Oper}{kk:W->HpW->Nat->Sit}(n:Nat)(h:B2q C G n s=some (b,oo,fr,hp,nw,kk))(g:aeq C G oo fr hp nw R λw hp' nw' R' _=>GoW C G m k0 rd (kk w hp' nw') R' Q)(hb:b=true:=by first|rfl|kernel_rfl):GoW C G m k0 rd s R Q:=by
 unfold B2q at h;split at h
 .rename_i h1;split at h
  .rename_i hw;cases h;exact zcq n h1 (zsq hw g) hb
  .cases h
 .cases h
noncomputable def B3q(C:Cfg)(G:Nat->Option W)(n:Nat)(s:Sit):Option (Bool×Oper×FrW×HpW×Nat×(W->HpW->Nat->Sit)×(W->HpW->Nat->EvW->Sit)×(EvW->Bool)):=match aHq C G n true s with
 |some (b,⟨.fl ops (o::l) i es,ks,fr,hp,nw⟩)=>match qqq ops fr o with
  |some true=>some (b,o,fr,hp,nw,λw hp2 nw2=>⟨.fl ops l (i+1) es,ks,aoq fr o.dst w,hp2,nw2⟩,λw hp2 nw2 ev=>⟨.fl ops l (i+1) ((i,ev)::es),ks,aoq fr o.dst w,hp2,nw2⟩,λev=>c5q ops i ev es)
  |_=>none
 |_=>none
theorem gSf{oo:Oper}{k1:W->HpW->Nat->Sit}(n:Nat)(h:B3q C G n s=some (b,oo,fr,hp,nw,k1,kk,q))(g:aeq C G oo fr hp nw R λw hp' nw' R' ev=>match ev with
  |none=>GoW C G m k0 rd (k1 w hp' nw') R' Q
  |some e=>q e=true/\GoW C G m k0 rd (kk w hp' nw' e) R' Q) (hb:b=true:=by first|rfl|kernel_rfl):GoW C G m k0 rd s R Q:=by
 unfold B3q at h;split at h
 .rename_i h1;split at h
  .rename_i hw;cases h;exact zcq n h1 (qmq hw g) hb
  .cases h
 .cases h
theorem gP(n:Nat)(h:goP C G n s=some (b,o,fr,k))(e:yJq C G fr o=some w)(g:GoW C G m k0 rd (k w) R Q)(hb:b=true:=by first|rfl|kernel_rfl):GoW C G m k0 rd s R Q:=by
 unfold goP at h;split at h
 .rename_i h1;split at h
  .rename_i h2;cases h;exact zcq n h1 (phq h2 e g) hb
  .cases h
 .cases h
theorem Bdq(h:goV C G n s=some (b,w,k)):∃o fr,goP C G n s=some (b,o,fr,k)/\yJq C G fr o=some w:=by
 unfold goV at h;unfold goP;split at h
 .split at h
  .rename_i h2;split at h
   .rename_i h3;cases h;exact⟨_,_,rfl,h3⟩
   .cases h
  .cases h
 .cases h
theorem gV(n:Nat)(h:goV C G n s=some (b,w,k))(e:w=w')(g:GoW C G m k0 rd (k w') R Q)(hb:b=true:=by first|rfl|kernel_rfl):GoW C G m k0 rd s R Q:=by
 subst e;obtain⟨o,fr,h1,h2⟩:=Bdq h;exact gP n h1 h2 g hb
theorem gM{hp2:HpW}{nw2:Nat}{ev:EvW}(n:Nat)(h:goM C G n s=some (b,o,fr,hp,nw,kk,q))(e:aDq C G fr hp nw o=some (w,hp2,nw2,ev))(g:GoW C G m k0 rd (kk w hp2 nw2 ev) R Q)(hb:(b&&q ev)=true:=by first|rfl|kernel_rfl):GoW C G m k0 rd s R Q:=by
 unfold goM at h;split at h
 .rename_i h1;split at h
  .rename_i h2;cases h
   rw[Zb] at hb;exact zcq n h1 (f8q h2 (jvq e ⟨hb.2,g⟩)) hb.1
  .cases h
 .cases h
theorem wfq{f:FuncId}{ws:List W}(h:goC C G n s=some (b,f,ws,k)){P:W->Prop}(sp:yxq C G f 0 ws [] λw _ _=>abq w=true/\P w)(hp:acq ws=true)(g:∀w,abq w=true->P w->GoW C G m k0 rd (k w) R Q)(hb:b=true):GoW C G m k0 rd s R Q:=by
 unfold goC at h;split at h
 .rename_i h1;split at h
  .rename_i h2;split at h
   .rename_i ho;split at h
    .rename_i hx hxs;split at h
     .rename_i he;cases h;rw[Zb] at hb;refine zcq n h1 (f8q h2 (vRq ho hx he hxs sp hp λw _ _ hq=>⟨hq.1,hb.2,g w hq.1 hq.2⟩)) hb.1
     .cases h
    .cases h
   .cases h
  .cases h
 .cases h
theorem gC{f:FuncId}{ws:List W}(n:Nat)(h:goC C G n s=some (b,f,ws,k))(sp:PS C G f ws w)(g:GoW C G m k0 rd (k w) R Q)(hp:acq ws=true:=by first|rfl|assumption|(simp;done))(hw:abq w=true:=by first|rfl|assumption|(simp;done))(hb:b=true:=by first|rfl|kernel_rfl):GoW C G m k0 rd s R Q:=
 wfq (P:=λw'=>w'=w) h (kOq sp λw' _ _ e=>⟨e▸hw,e⟩) hp (λw' _ e=>e▸g) hb
theorem gE{f:FuncId}{ws:List W}{A:W->Prop}(n:Nat)(h:goC C G n s=some (b,f,ws,k))(sp:PE C G f ws A)(g:∀w,abq w=true->A w->GoW C G m k0 rd (k w) R Q)(hp:acq ws=true:=by first|rfl|assumption|(simp;done))(hb:b=true:=by first|rfl|kernel_rfl):GoW C G m k0 rd s R Q:=wfq h sp hp g hb
theorem gT{v:Bool}(n:Nat)(h:goV C G n s=some (b,.bool v,k))(e:v=true)(g:GoW C G m k0 rd (k (.bool true)) R Q)(hb:b=true:=by first|rfl|kernel_rfl):GoW C G m k0 rd s R Q:=gV n h (Ze W.bool e) g hb
theorem gF{v:Bool}(n:Nat)(h:goV C G n s=some (b,.bool v,k))(e:v=false)(g:GoW C G m k0 rd (k (.bool false)) R Q)(hb:b=true:=by first|rfl|kernel_rfl):GoW C G m k0 rd s R Q:=gV n h (Ze W.bool e) g hb
theorem gTa{v:Bool}(n:Nat)(h:goV C G n s=some (b,.bool v,k))(g:GoW C G m k0 rd (k (.bool true)) R Q)(e:v=true:=by first|rfl|exact eqI_iff.2 rfl|(simp;done)|decide|(simp[ltI_iff,eqI_iff];done))(hb:b=true:=by first|rfl|kernel_rfl):GoW C G m k0 rd s R Q:=gV n h (Ze W.bool e) g hb
theorem gFa{v:Bool}(n:Nat)(h:goV C G n s=some (b,.bool v,k))(g:GoW C G m k0 rd (k (.bool false)) R Q)(e:v=false:=by first|rfl|exact eqI_iff.2 rfl|(simp;done)|decide|(simp[ltI_iff,eqI_iff];done))(hb:b=true:=by first|rfl|kernel_rfl):GoW C G m k0 rd s R Q:=gV n h (Ze W.bool e) g hb
theorem gD{v:Bool}(n:Nat)(h:goV C G n s=some (b,.bool v,k))(ht:p->GoW C G m k0 rd (k (.bool true)) R Q)(hf:¬p->GoW C G m k0 rd (k (.bool false)) R Q)(hp:v=true↔p:=by first|exact ltI_iff|exact eqI_iff|exact j9q|exact kaq|exact y9q|exact jgq)(hb:b=true:=by first|rfl|kernel_rfl):GoW C G m k0 rd s R Q:=by
 cases v with
 |true=>exact gV n h rfl (ht (hp.1 rfl)) hb
 |false=>exact gV n h rfl (hf λq=>by have:=hp.2 q;cases this) hb
theorem gU [Decidable p]{v:Bool}(n:Nat)(h:goV C G n s=some (b,.bool v,k))(g:GoW C G m k0 rd (k (.bool (decide p))) R Q)(hp:v=true↔p:=by first|exact ltI_iff|exact eqI_iff|exact j9q|exact kaq|exact y9q|exact jgq)(hb:b=true:=by first|rfl|kernel_rfl):GoW C G m k0 rd s R Q:=by
 refine gV n h (Ze W.bool ?_) g hb;cases v with
 |true=>exact(Zn (hp.1 rfl)).symm
 |false=>exact(Zo λq=>by have:=hp.2 q;cases this).symm
theorem gDe{v:Bool}(n:Nat)(h:goP C G n s=some (b,o,fr,k))(e:yJq C G fr o=some (.bool v))(hp:v=true↔p)(ht:p->GoW C G m k0 rd (k (.bool true)) R Q)(hf:¬p->GoW C G m k0 rd (k (.bool false)) R Q)(hb:b=true:=by first|rfl|kernel_rfl):GoW C G m k0 rd s R Q:=by
 cases v with
 |true=>exact gP n h e (ht (hp.1 rfl)) hb
 |false=>exact gP n h e (hf λq=>by have:=hp.2 q;cases this) hb
theorem gUe [Decidable p]{v:Bool}(n:Nat)(h:goP C G n s=some (b,o,fr,k))(e:yJq C G fr o=some (.bool v))(hp:v=true↔p)(g:GoW C G m k0 rd (k (.bool (decide p))) R Q)(hb:b=true:=by first|rfl|kernel_rfl):GoW C G m k0 rd s R Q:=by
 refine gP n h (e.trans (Ze (λq=>some (W.bool q)) ?_)) g hb;cases v with
 |true=>exact(Zn (hp.1 rfl)).symm
 |false=>exact(Zo λq=>by have:=hp.2 q;cases this).symm
theorem wgq{v:Bool}{x y:Sit}(h:goB C G n s=some (b,v,x,y))(hb:b=true)(g:GoW C G m k0 rd (match v with|true=>x|false=>y) R Q):GoW C G m k0 rd s R Q:=by
 unfold goB at h;split at h
 .rename_i h1;cases h;cases v<;>exact zcq n h1 g hb
 .rename_i h1;cases h;cases v<;>exact zcq n h1 g hb
 .cases h
theorem gB{v:Bool}{x y:Sit}(n:Nat)(h:goB C G n s=some (b,v,x,y))(ht:p->GoW C G m k0 rd x R Q)(hf:¬p->GoW C G m k0 rd y R Q)(hp:v=true↔p:=by first|exact ltI_iff|exact eqI_iff|exact j9q|exact kaq|exact y9q|exact jgq)(hb:b=true:=by first|rfl|kernel_rfl):GoW C G m k0 rd s R Q:=by
 cases v with
 |true=>exact wgq h hb (ht (hp.1 rfl))
 |false=>exact wgq h hb (hf λq=>by have:=hp.2 q;cases this)
theorem weq{v:Bool}{x y:Sit}(h:goK C G n s=some (b,v,x,y))(hb:b=true)(g:GoW C G m k0 rd (match v with|true=>x|false=>y) R Q):GoW C G m k0 rd s R Q:=by
 unfold goK at h;split at h
 .rename_i h1;split at h
  .rename_i h2;cases h
   refine zcq n h1 ?_ hb;cases v with
   |true=>exact iiq h2 g
   |false=>exact eyq h2 g
  .cases h
 .cases h
theorem gS{v:Bool}{x y:Sit}(n:Nat)(h:goK C G n s=some (b,v,x,y))(ht:p->GoW C G m k0 rd x R Q)(hf:¬p->GoW C G m k0 rd y R Q)(hp:v=true↔p:=by first|exact ltI_iff|exact eqI_iff|exact j9q|exact kaq|exact y9q|exact jgq)(hb:b=true:=by first|rfl|kernel_rfl):GoW C G m k0 rd s R Q:=by
 cases v with
 |true=>exact weq h hb (ht (hp.1 rfl))
 |false=>exact weq h hb (hf λq=>by have:=hp.2 q;cases this)
theorem natE{i:IntKind}{l:Nat}:W.int i (.ofNat l)=W.int i (l:Int):=rfl
theorem gL(n:Nat)(h:goV C G n s=some (b,w,k))(g:GoW C G m k0 rd (k w') R Q)(e:w=w':=by first|exact natE|exact rfl)(hb:b=true:=by first|rfl|kernel_rfl):GoW C G m k0 rd s R Q:=gV n h e g hb
theorem gZ{l z:Nat}{i:IntKind}(n:Nat)(h:goV C G n s=some (b,.int i (.ofNat l),k))(e:l=z)(g:GoW C G m k0 rd (k (.int i (z:Int))) R Q)(hb:b=true:=by first|rfl|kernel_rfl):GoW C G m k0 rd s R Q:=gV n h (by rw[e];rfl) g hb
theorem Ayq{i:IntKind}{z:Int}(h:inK i z):W.int i (k2q i z)=W.int i z:=Ze (W.int i) (ZAq h)
theorem gWr(n:Nat)(h:goV C G n s=some (b,w,k))(g:GoW C G m k0 rd (k w') R Q)(e:w=w':=by first|exact Ayq ⟨by omega,by omega⟩|exact rfl)(hb:b=true:=by first|rfl|kernel_rfl):GoW C G m k0 rd s R Q:=gV n h e g hb
theorem gA{z:Int}{i:IntKind}(n:Nat)(h:goV C G n s=some (b,.int i (k2q i z),k))(t:Nat)(g:GoW C G m k0 rd (k (.int i (t:Int))) R Q)(e:z=(t:Int):=by first|rfl|omega)(hz:inK i (t:Int):=by exact⟨by omega,by omega⟩)(hb:b=true:=by first|rfl|kernel_rfl):GoW C G m k0 rd s R Q:=gV n h (by rw[e,ZAq hz]) g hb
theorem gX(n:Nat)(h:goP C G n s=some (b,o,fr,k))(g:GoW C G m k0 rd (k w) R Q)(e:yJq C G fr o=some w:=by first|exact zyq Y Y Y Y Y Y Y (by first|assumption|(simp;done))|exact qbq Y Y Y Y Y Y Y Xd|exact ksq Y Y Y Y Y Y Xd|exact rfl)(hb:b=true:=by first|rfl|kernel_rfl):GoW C G m k0 rd s R Q:=gP n h e g hb
theorem olq{rs:List ResultVar}{hp:HpW}{K:W->HpW->Nat->Res->Prop}(h:Aoq C G n s rs=some (b,w,hp))(hb:b=true)(g:∀nw,K w hp nw R):GoW C G m k0 rd s R (cdq C G m k0 rs K):=by
 unfold Aoq at h;split at h
 .rename_i h1;split at h
  .rename_i hx;split at h
   .rename_i h2;cases h
    refine zcq n h1 (fin ?_ Ent.refl h2 (g _)) hb;unfold oeq at hx;split at hx
    .exact .inl rfl
    .exact .inr rfl
    .cases hx
   .cases h
  .cases h
 .cases h
theorem gQ{rs:List ResultVar}{hp:HpW}(n:Nat)(h:Aoq C G n s rs=some (b,w,hp))(e:w=w')(hb:b=true:=by first|rfl|kernel_rfl):GoW C G m k0 rd s R (cdq C G m k0 rs λv _ _ R'=>R'=R/\v=w'):=olq h hb λ_=>⟨rfl,e⟩
theorem gQa{rs:List ResultVar}{hp:HpW}(n:Nat)(h:Aoq C G n s rs=some (b,w,hp))(e:w=w':=by first|rfl|(simp;done))(hb:b=true:=by first|rfl|kernel_rfl):GoW C G m k0 rd s R (cdq C G m k0 rs λv _ _ R'=>R'=R/\v=w'):=olq h hb λ_=>⟨rfl,e⟩
theorem mQq{f:FuncId}{ws:List W}{rs:List ResultVar}{K:W->HpW->Nat->Res->Prop}(h:goI C G n f ws hp m=some (b,s,rs))(hb:b=true)(g:∀k0,GoW C G m k0 false s R (cdq C G m k0 rs K)):aiq C G f m ws hp R K:=by
 unfold goI at h;split at h
 .rename_i hk;split at h
  .rename_i hf;split at h
   .rename_i hbd hle;split at h
    .rename_i h1;cases h
     exact cwq hk hf hbd (Yb hle) λk0=>zEq n h1 (g k0) hb
    .cases h
   .cases h
  .cases h
 .cases h
theorem gIs{f:FuncId}{ws:List W}{rs:List ResultVar}{K:W->HpW->Nat->Res->Prop}(n:Nat)(h:goI C G n f ws hp m=some (b,s,rs))(g:∀k0,GoW C G m k0 false s R (cdq C G m k0 rs K))(hb:b=true:=by first|rfl|kernel_rfl):aiq C G f m ws hp R K:=mQq h hb g
theorem gIv{f:FuncId}{ws:List W}{rs:List ResultVar}(n:Nat)(h:goI C G n f ws [] 0=some (b,s,rs))(g:∀R k0,GoW C G 0 k0 false s R (cdq C G 0 k0 rs λw' hp' _ R'=>R'=R/\View (apq hp') w' w))(hb:b=true:=by first|rfl|kernel_rfl):PS C G f ws w:=λR=>u2q (mQq h hb (g R))
theorem gIe{f:FuncId}{ws:List W}{rs:List ResultVar}{A:W->Prop}(n:Nat)(h:goI C G n f ws [] 0=some (b,s,rs))(g:∀R k0,GoW C G 0 k0 false s R (cdq C G 0 k0 rs λw' hp' _ R'=>R'=R/\∃w,View (apq hp') w' w/\(abq w=true/\A w)))(hb:b=true:=by first|rfl|kernel_rfl):PE C G f ws A:=λR=>QAq (mQq h hb (g R))
theorem gI{f:FuncId}{ws:List W}{rs:List ResultVar}(n:Nat)(h:goI C G n f ws [] 0=some (b,s,rs))(g:∀R k0,GoW C G 0 k0 false s R (cdq C G 0 k0 rs λw' _ _ R'=>R'=R/\w'=w))(hb:b=true:=by first|rfl|kernel_rfl):PS C G f ws w:=λR=>mQq h hb (g R)
end
noncomputable def l6q(fr:FrW):List Nat->Option FrW
 |[]=>some []
 |t::l=>match arq fr t,l6q fr l with
  |some w,some r=>some ((t,w)::r)
  |_,_=>none
theorem dWq{fr:FrW}:∀{l:List Nat} {kf:FrW},l6q fr l=some kf->aqq fr kf
 |[],_,h=>by cases h;trivial
 |t::l,_,h=>by
  simp only[l6q] at h;split at h
  .rename_i h1 h2;cases h;exact⟨h1,dWq h2⟩
  .cases h
noncomputable def goL(C:Cfg)(G:Nat->Option W)(n:Nat)(s:Sit)(l:List Nat):Option (Bool×Code×List Kt×FrW×FrW×HpW×Nat):=match aHq C G n true s with
 |some (b,⟨.co (.loop c),ks,fr,hp,nw⟩)=>match l6q fr l with
  |some kf=>some (b,c,ks,fr,kf,hp,nw)
  |none=>none
 |_=>none
noncomputable def goY(C:Cfg)(G:Nat->Option W)(n:Nat)(s:Sit):Option (Bool×Exit×FrW×HpW×Nat):=match aHq C G n true s with
 |some (b,⟨.ex x,[],fr,hp,nw⟩)=>some (b,x,fr,hp,nw)
 |_=>none
section
variable {C:Cfg} {G:Nat->Option W} {m k0 n:Nat} {rd rd':Bool} {R:Res} {Q:qpq} {s:Sit} {b:Bool} {c:Code} {ks:List Kt} {fr kf:FrW} {hp hp':HpW} {nw nw':Nat} {α:Type} {x:Exit}
theorem Beq{l:List Nat}(h:goL C G n s l=some (b,c,ks,fr,kf,hp,nw))(hb:b=true)(g:aqq fr kf->CoW C G m k0 rd (.loop c) fr hp nw R (QK C G m k0 rd ks Q)):GoW C G m k0 rd s R Q:=by
 unfold goL at h;split at h
 .rename_i h1;split at h
  .rename_i h2;cases h;exact zcq n h1 (g (dWq h2)) hb
  .cases h
 .cases h
theorem wdq(h:goY C G n s=some (b,x,fr,hp,nw))(hb:b=true)(g:Q x fr hp nw R):GoW C G m k0 rd s R Q:=by
 unfold goY at h;split at h
 .rename_i h1;cases h;exact zcq n h1 g hb
 .cases h
theorem gLo(n:Nat)(I:α->Prop)(V:α->FrW)(l:List Nat)(μ:α->Nat)(a0:α)(h:goL C G n s l=some (b,c,ks,fr,kf,hp,nw))(h0:I a0)(step:∀a,I a->GoW C G m k0 rd ⟨.co c,[],V a++kf,hp,nw⟩ R (QRk I V kf hp nw (λ_=>R) μ (μ a) (QK C G m k0 rd ks Q)))(hv:aqq fr (V a0):=by repeat (first|exact trivial|refine⟨rfl,?_⟩))(hb:b=true:=by first|rfl|kernel_rfl):GoW C G m k0 rd s R Q:=
 Beq h hb λhk=>njq I V kf μ a0 hk h0 hv step
theorem gAg{I:α->Prop}{V:α->FrW}{RR:α->Res}{μ:α->Nat}{k:Nat}(n:Nat)(h:goY C G n s=some (b,.normal,fr,hp',nw'))(a:α)(ha:I a)(hμ:μ a<k)(hv:aqq fr (V a):=by repeat (first|exact trivial|refine⟨rfl,?_⟩))(hk:aqq fr kf:=by repeat (first|exact trivial|refine⟨rfl,?_⟩))(hr:aKq nw (V a):=by repeat (first|exact trivial|refine⟨by first|rfl|exact zaq (by first|rfl|(simp;done)),?_⟩))(hn:nw<=nw':=by omega)(hh:Zzq hp' hp nw:=by repeat (first|exact kQq|refine kTq Xd ?_|refine kRq Xd ?_|refine kSq Xd ?_))(hR:R=RR a:=by exact rfl)(hb:b=true:=by first|rfl|kernel_rfl):GoW C G m k0 rd s R (QRk I V kf hp nw RR μ k Q):=
 wdq h hb (lRq a ha hμ hv hk hr hn hh hR)
theorem gO{I:α->Prop}{V:α->FrW}{RR:α->Res}{μ:α->Nat}{k:Nat}(n:Nat)(h:goY C G n s=some (b,x,fr,hp',nw'))(g:GoW C G m k0 rd ⟨.ex x,ks,fr,hp',nw'⟩ R Q)(hx:x≠ .normal:=by intro h;cases h)(hb:b=true:=by first|rfl|kernel_rfl):GoW C G m k0 rd' s R (QRk I V kf hp nw RR μ k (QK C G m k0 rd ks Q)):=
 wdq h hb (tuq hx g)
end
end
section
open Go.RowKit Go.Lib
theorem q2q{P:Program}(w:World)(dT sT ty elem:TypeId)(b o dLen dCap:Nat)(a:Addr)(sLen sCap k:Nat)(cs:List Value)
  (hu:P.underlying dT=some (.slice elem)) (hs:(P.info? elem).map (·.size)=some k) (hn:cs.length=Nat.min sLen dLen*k)
  (hsrc:∀j v,cs[j]? =some v->w.cell? (a.add j)=some v) (hc:∀j,j<cs.length->(w.cell? ⟨b,o+j,none⟩).isSome=true) (hf:∀j,j<cs.length->w.frozen? ⟨b,o+j,none⟩=false) (h1:∀v∈cs,v.oneCell'=true):
  (Builtin.copy_ #[dT,sT] ty #[.slice (some ⟨b,o,none⟩) dLen dCap,.slice (some a) sLen sCap]).run P w= .ok (goInt (Nat.min sLen dLen)) (w.setCells b o cs):=by
 have hl:=run_loadCells_list (P:=P) w a cs hsrc;have hst:=run_storeCells_cells (P:=P) b o cs 0 w (by simpa using hc) Ja h1;cases hq:P.info? elem with
 |none=>simp[hq] at hs
 |some i=>
  have hi:i.size=k:=by simpa[hq] using hs
  simp[Builtin.copy_,Zy hu,Builtin.lenOf,Builtin.firstCells,sizeOf,typeInfo,hq,hi,<-hn,hl,hst]
theorem aUq{P:Program}(w:World){o:Oper}{a:Act}{K:Act->World->Prop}{Q:Exit->Act->World->Prop}(d s:Operand)(t t':TypeId)
  (ho:o.op= .call {callee:=.builtin .copy,args:= #[d,s],argTypes:= #[t,t']}) (v u:Value) (hd:a.eval d=v) (hs:a.eval s=u) {v':Value} {w':World}
  (hr:(Builtin.copy_ #[t,t'] o.type #[v,u]).run P w= .ok v' w') (h:K (a.put o.dst v') w'):o.wp P a w K Q:=by
 unfold Oper.wp execOp;simp only[ho,resolve,invoke,builtin,ZL,YB,ZA,List.map_toArray,ZC,List.map_nil,hd,hs,hr];exact h
theorem yVq{P:Program}(w:World){ops:Array Oper}{rest:List Oper}{o:Oper}{a:Act}{Q:Exit->Act->World->Prop}(hgd:o.guard=none)(d s:Operand)(t t':TypeId)
  (ho:o.op= .call {callee:=.builtin .copy,args:= #[d,s],argTypes:= #[t,t']}) (v u:Value) (hd:a.eval d=v) (hs:a.eval s=u) {v':Value} {w':World}
  (hr:(Builtin.copy_ #[t,t'] o.type #[v,u]).run P w= .ok v' w') (h:wpList P ops Q rest (a.put o.dst v') w'):wpList P ops Q (o::rest) a w:=
 wpList_plain hgd λ_ hK=>aUq w d s t t' ho v u hd hs hr (hK _ _ h)
theorem jwq{P:Program}{ops:Array Oper}{o:Oper}{a:Act}{w:World}{K:Act->World->Prop}{Q:Exit->Act->World->Prop}{E:Prop}
  (hg:o.guard=none) (d x:Operand) (dT sT:TypeId) (hop:o.op=Op.call {callee:=Callee.builtin Builtin.copy,args:= #[d,x],argTypes:= #[dT,sT]})
  (v u:Value) (hd:a.eval d=v) (hx:a.eval x=u) {v':Value} {w':World} (hr:(Builtin.copy_ #[dT,sT] o.type #[v,u]).run P w= .ok v' w') (hK:K (a.put o.dst v') w'):
  if Region.wanted o (yielded ops a.tmps)=true then Oper.wp P o a w K Q else E:=by
 have hw:Region.wanted o (yielded ops a.tmps)=true:=by simp[Region.wanted,hg]
 rw[Zt hw];unfold Oper.wp;simp[execOp,hop,resolve,invoke,builtin,hd,hx,hr,Result.andThen];exact hK
theorem yWq(b:Nat)(vs:List Value)(o:Nat)(w:World)(h:∀j,j<vs.length->(w.cell? ⟨b,o+j,none⟩).isSome=true)(k:Nat)(hk:(w.cell? ⟨b,k,none⟩).isSome=true):((w.setCells b o vs).cell? ⟨b,k,none⟩).isSome=true:=by
 by_cases hin:o<=k/\k<o+vs.length
 .have:=World.cell?_setCells_in b vs o w h (k-o) Xd;rw[show o+(k-o)=k by omega] at this;rw[this];rfl
 .rw[World.cell?_setCells_out b vs o w ⟨b,k,none⟩ (λ_ _=>by show k<o\/o+vs.length<=k;omega)];exact hk
end
section
open Go.RowKit
structure InsFn(P:Program)(f:FuncId)(ts te:TypeId)(K BY:Nat):Prop where
 ent:∀args w,(callFunc f args).run P w= .ok (.enter f args) w
 shift:∀(b off n c i vb voff m vc:Nat) (cs vs:List Value) (w:World),i<n->0<m->n+m<=c->n+m<=70368744177664->vb≠b->cs.length=n*K->vs.length=m*K->
  (∀j v,cs[j]? =some v->w.cell? ⟨b,off+j,none⟩=some v) ->(∀j,j<(n+m)*K->(w.cell? ⟨b,off+j,none⟩).isSome=true) ->(∀j,j<(n+m)*K->w.frozen? ⟨b,off+j,none⟩=false) ->
  (∀j v,vs[j]? =some v->w.cell? ⟨vb,voff+j,none⟩=some v) ->(∀v∈cs,v.oneCell'=true) ->(∀v∈vs,v.oneCell'=true) ->
  ∀(tA tB:TypeId) (kA kB:Nat),w.shape? vb=some (tA,kA) ->w.shape? b=some (tB,kB) ->kB≠0->w.frozen? ⟨vb,voff,none⟩=false->w.frozen? ⟨vb,kA,none⟩=false->
  Calls P f #[.slice (some ⟨b,off,none⟩) n c,.int .i64 i,.slice (some ⟨vb,voff,none⟩) m vc] w λe w'=>
   e= .returned (.slice (some ⟨b,off,none⟩) (n+m) c)/\w'=(w.drew.setCells b (off+(i+m)*K) (cs.drop (i*K))).setCells b (off+i*K) vs
 atEnd:∀(a:Addr) (n c:Nat) (vb:Addr) (m vc:Nat) (w:World),0<m->∀(val:Value) (w1:World),
  (∀ty,(Builtin.append_ #[ts,ts] ty #[.slice (some a) n c,.slice (some vb) m vc]).run P w= .ok val w1) ->
  Calls P f #[.slice (some a) n c,.int .i64 n,.slice (some vb) m vc] w λe w'=>e= .returned val/\w'=w1
 atNil:∀(vb:Addr) (m vc:Nat) (w:World),0<m->∀(val:Value) (w1:World),
  (∀ty,(Builtin.append_ #[ts,ts] ty #[.slice none 0 0,.slice (some vb) m vc]).run P w= .ok val w1) ->
  Calls P f #[.slice none 0 0,.int .i64 0,.slice (some vb) m vc] w λe w'=>e= .returned val/\w'=w1
 grow:∀(b off n c i vb voff m vc:Nat) (cs vs:List Value) (w:World),i<n->0<m->n<=c->c<n+m->(n+m)*BY<=140737488355328->n+m<=70368744177664->cs.length=n*K->vs.length=m*K->
  (∀j v,cs[j]? =some v->w.cell? ⟨b,off+j,none⟩=some v) ->(∀j v,vs[j]? =some v->w.cell? ⟨vb,voff+j,none⟩=some v) ->(∀v∈cs,v.oneCell'=true) ->(∀v∈vs,v.oneCell'=true) ->
  Calls P f #[.slice (some ⟨b,off,none⟩) n c,.int .i64 i,.slice (some ⟨vb,voff,none⟩) m vc] w λe w'=>
   ∃G ROW,n+m<=G/\G<=9223372036854775807/\ROW.size=G*K/\(∀j,j<i*K->ROW[j]? =cs[j]?)/\e= .returned (.slice (some ⟨w.heap.size,0,none⟩) (n+m) G)/\
   w'=(((w.alloc (.cells ROW te)).drew.setCells w.heap.size (i*K) vs).drew).setCells w.heap.size ((i+m)*K) (cs.drop (i*K))
noncomputable def aFq(C:Cfg)(ts te K BY:Nat):List V->Heap->Option (V×Heap)
 |[s,.int .i64 (.ofNat i),.sl vb vbase voff m vesz vlim],h=>match fCq C h ts K (.sl vb vbase voff m vesz vlim) with
  |some (y::ys)=>match s with
   |.nils=>match Nat.beq i 0 with
    |true=>kkq C h ts ts .nils (.sl vb vbase voff m vesz vlim)
    |false=>none
   |.sl b base off n esz lim=>match Nat.beq i n with
    |true=>kkq C h ts ts (.sl b base off n esz lim) (.sl vb vbase voff m vesz vlim)
    |false=>match Nat.blt i n&&(Nat.beq esz K&&(Nat.beq vesz K&&(!Nat.beq vb b&&(Nat.ble ((n+m)*BY) 140737488355328&&(Nat.ble (n+m) 70368744177664&&Nat.blt 0 K))))),lim,h.get b,h.get vb with
     |true,none,some (.cells ty v),some (.cells _ _)=>match Nat.beq ty te,jEq 50 v off n K with
      |true,some olds=>some (.sl h.next 0 0 (n+m) K none,(h.push (.cells te (.arr ((n+m)*K) K (olds.take i++((y::ys)++olds.drop i))))).kill b)
      |_,_=>none
     |_,_,_,_=>none
   |_=>none
  |_=>none
 |_,_=>none
theorem eUq(L N Z:List Value)(s q:Nat)(hq:N.length=q)(hs:s+q<=L.length):qMq (qMq L.toArray (s+q) Z.toArray) s N.toArray=(L.take s++(N++(Z++L.drop (s+q+Z.length)))).toArray:=by
 simp only[qMq,ZR];congr 1
 rw[hq,Zz,Zz,Z0 Ym,YO,YH Xd];congr 2
 rw[Z6 Ym,ZW Ym];rfl
theorem Z9q(L N Z:List Value)(s q:Nat)(hq:N.length=q)(hs:s+q<=L.length):qMq (qMq L.toArray s N.toArray) (s+q) Z.toArray=(L.take s++(N++(Z++L.drop (s+q+Z.length)))).toArray:=by
 simp only[qMq,ZR];congr 1
 have hl:(L.take s++N).length=s+q:=by rw[Zj,Zu,hq];omega
 rw[hq,Z0 (by rw[hl];exact Zc _),Zm (by rw[hl];exact Zc _),Zz,Zz];congr 3
 rw[show s+q+Z.length=(L.take s++N).length+Z.length by rw[hl],YP,Z8,hl]
section
variable {P:Program} {C:Cfg}
theorem byq(hC:CfgOK P C){f:FuncId}{ts te:TypeId}{K BY:Nat}(I:InsFn P f ts te K BY){j k:TyI}(hj:C.ty ts=some j)(hd:j.d= .slice te)(hk:C.ty te=some k)(hK:k.size=K)(hB:k.bytes=BY){C':Cfg}:qyq P C' f (aFq C ts te K BY):=λvs h v h' he=>by
 have hu:P.underlying ts=some (.slice te):=by
  have:=(hC.ty ts j hj).d;rw[hd] at this;exact this
 unfold aFq at he;split at he
 case h_2=>cases he
 rename_i s i vb vbase voff m vesz vlim;split at he
 case h_2=>cases he
 rename_i y ys hsrc;have hargs:∀ρ:Env,(zMq ρ [s,.int .i64 (.ofNat i),.sl vb vbase voff m vesz vlim]).toArray= #[aaq ρ s,.int .i64 (i:Int),aaq ρ (.sl vb vbase voff m vesz vlim)]:=λρ=>by simp[zMq,aaq]
 have hvesz:vesz=K/\(∃vv,h.val vb=some vv/\jEq 50 vv voff m K=some (y::ys)):=by
  unfold fCq at hsrc;rw[hj] at hsrc;simp only[hd] at hsrc;split at hsrc
  .rename_i v' hes hv;exact⟨Zh hes,v',hv,hsrc⟩
  .cases hsrc
 obtain⟨rfl,vv,hvv,hsub⟩:=hvesz
 have hm0:0<m:=by
  have:=(yHq (ρ:=(⟨λ_=>0,λ_=>0,λ_=>0,λ_=>(0,none)⟩:Env)) 50 vv voff m vesz (y::ys) hsub).1;simp only[Zv] at this;omega
 split at he
 ·--onto nothing
  split at he
  case h_2=>cases he
  rename_i hi0;have hi0:=Zh hi0;subst hi0;refine⟨JJq he,I.ent,λs0 U D ρ w hU gl hvs r=>?_⟩;simp only[InDL] at hvs;obtain⟨h1,h2,h3,_⟩:=hvs;obtain⟨val,D',ρ',w',q1,q2,q3,q4,q5⟩:=Qcq (ty:=0) hC r h1 h3 he hU;rw[hargs];refine(I.atNil _ m _ w hm0 val w' λty=>q1).mono λe w2=>?_
  rintro⟨rfl,rfl⟩;exact⟨D',ρ',by rw[q2],q3,q4,q5⟩
 .rename_i b base off n esz lim;split at he
  ·--at the end
   rename_i hin;have hin:=Zh hin;subst hin;refine⟨JJq he,I.ent,λs0 U D ρ w hU gl hvs r=>?_⟩;simp only[InDL] at hvs;obtain⟨h1,h2,h3,_⟩:=hvs;obtain⟨val,D',ρ',w',q1,q2,q3,q4,q5⟩:=Qcq (ty:=0) hC r h1 h3 he hU;rw[hargs];refine(I.atEnd _ i _ _ m _ w hm0 val w' λty=>q1).mono λe w2=>?_
   rintro⟨rfl,rfl⟩;exact⟨D',ρ',by rw[q2],q3,q4,q5⟩
  .rename_i hne;split at he
   case h_2=>cases he
   rename_i ty bv vty vbv hcond hg hvg;simp only[Zb] at hcond;obtain⟨c1,c2,c3,c4,c5,c6,c7⟩:=hcond;have hin:i<n:=by simpa using c1
   have:=Zh c2;subst this;have hvb:vb≠b:=λe=>by subst e;simp at c4
   have hb1:=Yb c5;have hb2:=Yb c6;have hK0:0<esz:=by simpa using c7
   split at he
   case h_2=>cases he
   rename_i olds hty ho;have:=Zh hty;subst this;cases he;refine⟨(yrq _ _).trans (vkq _ _),I.ent,λs0 U D ρ w hU gl hvs r=>?_⟩;have hU1:h.next+1<=U:=hU;simp only[InDL] at hvs;obtain⟨hx1,_,hx3,_⟩:=hvs;obtain⟨g1,g2,g3,g4⟩:=yHq (ρ:=ρ) 50 bv off n esz olds ho;obtain⟨f1,f2,f3,f4⟩:=yHq (ρ:=ρ) 50 vv voff m esz (y::ys) hsub;have hbvin:InD (DD D ρ) bv:=r.clo b _ hx1.2.2.1 hg;have hoi:=g4 _ hbvin;obtain⟨_,hnin⟩:=Z8q hC r hx3 hsrc;have hval:h.val b=some bv:=by simp[Heap.val,hg]
   obtain⟨hpos,hlen,hD,hroom⟩:=hx1;have hx1:InD (DD D ρ) (.sl b base off n esz none):=⟨hpos,hlen,hD,hroom⟩;have hx3':=hx3;obtain⟨_,_,hDv,hroomv⟩:=hx3';simp only[YU] at hroom;obtain⟨o,h1,pre,tail,rfl,h2,h3⟩:=r.has b _ hD hg;obtain⟨ov,e1,prev,tailv,rfl,e2,e3⟩:=r.has vb _ hDv hvg;obtain⟨L,hL⟩:∃L,L=pre++(cellsV ρ bv++tail):=⟨_,rfl⟩
   rw[<-hL] at h1;have hLl:L.length=ρ.pre b+ρ.cap b:=by rw[hL];simp only[Zj,ywq];omega
   have hO:(L.drop (ρ.pre b+off)).take (n*esz)=znq ρ esz olds:=by
    rw[hL,<-h2,YP,Z6 Xo,Z0 Xo,g3]
   have hcn:=jyq hx1;have hcm:=jyq hx3;have hc0:¬z8q ρ b off esz none=0:=by omega
   have hv0:¬z8q ρ vb voff esz vlim=0:=by omega
   have ha1:aaq ρ (.sl b base off n esz none)= .slice (some ⟨ρ.b b,ρ.pre b+off,none⟩) n (z8q ρ b off esz none):=by simp only[aaq,yjq,hc0,if_false]
   have ha3:aaq ρ (.sl vb vbase voff m esz vlim)= .slice (some ⟨ρ.b vb,ρ.pre vb+voff,none⟩) m (z8q ρ vb voff esz vlim):=by simp only[aaq,yjq,hv0,if_false]
   have hcs:∀j u,(znq ρ esz olds)[j]? =some u->w.cell? ⟨ρ.b b,ρ.pre b+off+j,none⟩=some u:=λj u hj=>by
    have:=jxq r hx1 hval ho j u hj;rw[Zg hc0,Addr.add_lit] at this;exact this
   have hvs':∀j u,(znq ρ esz (y::ys))[j]? =some u->w.cell? ⟨ρ.b vb,ρ.pre vb+voff+j,none⟩=some u:=λj u hj=>by
    have:=jxq r hx3 hvv hsub j u hj;rw[Zg hv0,Addr.add_lit] at this;exact this
   have hol:(znq ρ esz olds).length=n*esz:=by rw[zBq,g1]
   have hnl:(znq ρ esz (y::ys)).length=m*esz:=by rw[zBq,f1]
   have hdl:(znq ρ esz (olds.drop i)).length=(n-i)*esz:=by rw[zBq,Zx,g1]
   have him:(i+m)*esz=i*esz+m*esz:=ZO _ _ _;have hnm:(n+m)*esz=n*esz+m*esz:=ZO _ _ _;have hni:n*esz=i*esz+(n-i)*esz:=by rw[<-ZO];congr 1;omega
   have hz0:esz<=(n-i)*esz:=by
    have:1*esz<=(n-i)*esz:=Z3 _ Xd;omega
   have hv:InD (DD D ρ) (.arr ((n+m)*esz) esz (olds.take i++((y::ys)++olds.drop i))):=InDL_iff.2 λz hz=>by
    rcases ZT.1 hz with h|h
    .exact InDL_iff.1 hoi z (ZH h)
    .rcases ZT.1 h with h|h
     .exact InDL_iff.1 hnin z h
     .exact InDL_iff.1 hoi z (ZD h)
   have hfl:(znq ρ esz (olds.take i++((y::ys)++olds.drop i)))=znq ρ esz (olds.take i)++(znq ρ esz (y::ys)++znq ρ esz (olds.drop i)):=by rw[q3q,q3q]
   have hfll:(znq ρ esz (olds.take i++((y::ys)++olds.drop i))).length=(n+m)*esz:=by
    rw[zBq];congr 1
    simp only[Zj,Zu,Zx,g1,f1];omega
   have hcells:∀ρ':Env,Env.Agree (DD D ρ) ρ ρ'->cellsV ρ' (.arr ((n+m)*esz) esz (olds.take i++((y::ys)++olds.drop i)))=znq ρ esz (olds.take i)++(znq ρ esz (y::ys)++znq ρ esz (olds.drop i)):=λρ' hag=>by
    rw[yEq hag hv];simp only[cellsV];rw[yGq hfll,hfl]
   have hne:=r.next_new hU1;rw[hargs,ha1,ha3];by_cases hcap:n+m<=z8q ρ b off esz none
   ·-- in place
    have hfit:off+(n+m)*esz<=ρ.cap b:=by
     have h4:=hcap;simp only[z8q] at h4;rw[Nat.le_div_iff_mul_le hpos] at h4;omega
    have hcell:∀j,j<(n+m)*esz->(w.cell? ⟨ρ.b b,ρ.pre b+off+j,none⟩).isSome=true:=λj hj=>by
     simp only[World.cell?,h1];have:ρ.pre b+off+j<L.toArray.size:=by simp only[ZR];omega
     simp only[Option.isSome_none,Bool.false_eq_true,if_false];rw[ZG this];rfl
    have hfrz:∀j,j<(n+m)*esz->w.frozen? ⟨ρ.b b,ρ.pre b+off+j,none⟩=false:=λj _=>by simp[World.frozen?,h1]
    refine(I.shift (ρ.b b) (ρ.pre b+off) n (z8q ρ b off esz none) i (ρ.b vb) (ρ.pre vb+voff) m (z8q ρ vb voff esz vlim) (znq ρ esz olds) (znq ρ esz (y::ys)) w hin hm0 hcap hb2 (r.inj vb b _ _ hDv hD hvg hg Y Y hvb) hol hnl hcs hcell hfrz hvs' (qvq ρ esz olds) (qvq ρ esz (y::ys)) vty ty _ L.length (by simp[World.shape?,e1];rfl) (by simp[World.shape?,h1]) Xd (by simp[World.frozen?,e1]) (by simp[World.frozen?,e1])).mono λe w2=>?_
    rintro⟨rfl,rfl⟩;rw[<-kYq];have hdr:w.drew.heap[ρ.b b]? =some (.cells L.toArray ty):=h1;have t1:=yeq (znq ρ esz (olds.drop i)) (ρ.pre b+off+(i+m)*esz) w.drew (ρ.b b) _ ty hdr (by rw[hdl];simp only[ZR];omega);have t2:=yeq (znq ρ esz (y::ys)) (ρ.pre b+off+i*esz) _ (ρ.b b) _ ty t1.this (by rw[hnl,uwq _ _ _ (by simp only[ZR,hdl];omega)];simp only[ZR];omega);have e5:ρ.pre b+off+(i+m)*esz=ρ.pre b+off+i*esz+m*esz:=by omega
    rw[e5] at t1 t2⊢;rw[eUq L _ _ (ρ.pre b+off+i*esz) (m*esz) hnl Xd] at t2
    have tt:Turned (ρ.b b) (.cells (L.take (ρ.pre b+off+i*esz)++(znq ρ esz (y::ys)++(znq ρ esz (olds.drop i)++L.drop (ρ.pre b+off+i*esz+m*esz+(znq ρ esz (olds.drop i)).length)))).toArray ty) w ((w.drew.setCells (ρ.b b) (ρ.pre b+off+i*esz+m*esz) (znq ρ esz (olds.drop i))).setCells (ρ.b b) (ρ.pre b+off+i*esz) (znq ρ esz (y::ys))):=
     ⟨t2.os.trans t1.os,t2.tape.trans t1.tape,t2.output.trans t1.output,t2.size.trans t1.size,t2.this,λk hk=>(t2.other k hk).trans (t1.other k hk)⟩
    have hag:Env.Agree (DD D ρ) ρ (ρ.add h.next (ρ.b b) (ρ.pre b+off) (ρ.cap b-off)):=Env.add_agree hne
    have hkn:KnB (ρ.add h.next (ρ.b b) (ρ.pre b+off) (ρ.cap b-off)) h.next (.cells ty (.arr ((n+m)*esz) esz (olds.take i++((y::ys)++olds.drop i)))) (.cells (L.take (ρ.pre b+off+i*esz)++(znq ρ esz (y::ys)++(znq ρ esz (olds.drop i)++L.drop (ρ.pre b+off+i*esz+m*esz+(znq ρ esz (olds.drop i)).length)))).toArray ty):=by
     refine⟨L.take (ρ.pre b+off),L.drop (ρ.pre b+off+(n+m)*esz),?_,?_,?_⟩
     .rw[hcells _ hag];congr 1
      congr 1
      rw[List.take_add]
      have:(L.drop (ρ.pre b+off)).take (i*esz)=znq ρ esz (olds.take i):=by
       rw[j0q,<-hO,YO,YH Xd]
      rw[this,hdl,show ρ.pre b+off+i*esz+m*esz+(n-i)*esz=ρ.pre b+off+(n+m)*esz by omega];simp[Zz]
     .simp[Env.add];omega
     .refine⟨?_,λh=>by have h:false=true:=h;cases h⟩;show(n+m)*esz+_=_;simp only[Env.add,if_true,Zx];omega
    obtain⟨r',n'⟩:=r.move hU1 (B':=.cells ty (.arr ((n+m)*esz) esz (olds.take i++((y::ys)++olds.drop i)))) hD hg Y Y tt hv hkn;refine⟨_,_,?_,r',n',hpos,Zc _,.inr rfl,?_⟩
    .have hsc:z8q (ρ.add h.next (ρ.b b) (ρ.pre b+off) (ρ.cap b-off)) h.next 0 esz none=z8q ρ b off esz none:=by simp[z8q,Env.add]
     simp only[aaq,yjq,hsc,hc0,if_false];simp[Env.add]
    .simp only[Env.add,if_true,YU];omega
   ·-- a new row
    refine(I.grow (ρ.b b) (ρ.pre b+off) n (z8q ρ b off esz none) i (ρ.b vb) (ρ.pre vb+voff) m (z8q ρ vb voff esz vlim) (znq ρ esz olds) (znq ρ esz (y::ys)) w hin hm0 hcn Xd hb1 hb2 hol hnl hcs hvs' (qvq ρ esz olds) (qvq ρ esz (y::ys))).mono λe w2=>?_
    rintro⟨G,ROW,k1,k2,k3,k4,rfl,rfl⟩;rw[<-kYq];have hG:G*esz=(n+m)*esz+(G-(n+m))*esz:=by rw[<-ZO];congr 1;omega
    have hR:ROW=ROW.toList.toArray:=by simp
    have hRl:ROW.toList.length=G*esz:=by simp[k3]
    have hnew:(w.alloc (.cells ROW ty)).drew.heap[w.heap.size]? =some (.cells ROW.toList.toArray ty):=by
     rw[<-hR];exact heap_alloc_new w _
    have t1:=yeq (znq ρ esz (y::ys)) (i*esz) (w.alloc (.cells ROW ty)).drew w.heap.size _ ty hnew (by rw[hnl];simp only[ZR];omega);have hd1:((w.alloc (.cells ROW ty)).drew.setCells w.heap.size (i*esz) (znq ρ esz (y::ys))).drew.heap[w.heap.size]? =_:=t1.this;have t2:=yeq (znq ρ esz (olds.drop i)) ((i+m)*esz) _ w.heap.size _ ty hd1 (by rw[hdl,uwq _ _ _ (by simp only[ZR,hnl];omega)];simp only[ZR];omega);rw[him] at t2⊢;rw[Z9q _ _ _ (i*esz) (m*esz) hnl Xd] at t2;have ba:=jqq w (.cells ROW ty)
    have bel:Below w.heap.size w ((((w.alloc (.cells ROW ty)).drew.setCells w.heap.size (i*esz) (znq ρ esz (y::ys))).drew).setCells w.heap.size (i*esz+m*esz) (znq ρ esz (olds.drop i))):=
     ⟨t2.os.trans (t1.os.trans ba.os),t2.tape.trans (t1.tape.trans ba.tape),t2.output.trans (t1.output.trans ba.output),by rw[t2.size];show _<=((w.alloc (.cells ROW ty)).drew.setCells w.heap.size (i*esz) (znq ρ esz (y::ys))).heap.size;rw[t1.size];exact ba.size,λk hk=>by
      rw[t2.other k Xd];exact(t1.other k Xd).trans (ba.block k hk)⟩
    have hag:Env.Agree (DD D ρ) ρ (ρ.add h.next w.heap.size 0 (G*esz)):=Env.add_agree hne
    have hkn:KnB (ρ.add h.next w.heap.size 0 (G*esz)) h.next (.cells ty (.arr ((n+m)*esz) esz (olds.take i++((y::ys)++olds.drop i)))) (.cells (ROW.toList.take (i*esz)++(znq ρ esz (y::ys)++(znq ρ esz (olds.drop i)++ROW.toList.drop (i*esz+m*esz+(znq ρ esz (olds.drop i)).length)))).toArray ty):=by
     refine⟨[],ROW.toList.drop ((n+m)*esz),?_,by simp[Env.add],?_⟩
     .rw[hcells _ hag];congr 1
      congr 1
      have:ROW.toList.take (i*esz)=znq ρ esz (olds.take i):=by
       rw[j0q];apply List.ext_getElem?;intro j;rw[YI,YI];split
       .rename_i hji;have:=k4 j hji;rw[<-Array.getElem?_toList] at this;exact this
       .rfl
      rw[this,hdl,show i*esz+m*esz+(n-i)*esz=(n+m)*esz by omega];simp[Zz]
     .refine⟨?_,λh=>by have h:false=true:=h;cases h⟩;show(n+m)*esz+_=_;simp only[Env.add,if_true,Zx];omega
    obtain⟨r',n'⟩:=r.push hU1 (b:=.cells ty (.arr ((n+m)*esz) esz (olds.take i++((y::ys)++olds.drop i)))) bel t2.this rfl hv hkn;obtain⟨s1,s2⟩:=bvq (D:=D) (ρ:=ρ) (w:=w) (h:=h) G (n+m) esz hK0 k1 rfl;obtain⟨p1,p2⟩:=r'.kill b;exact⟨_,_,by rw[s1],p1,n'.trans r.lt hU1 p2,s2⟩
 .cases he
end
theorem u6q{P:Program}(w:World)(t e ty:TypeId)(z:Value)(ht:P.underlying t=some (.slice e))(hv:∀w,(zeroValue e).run P w= .ok z w)(h1:∀v∈(Builtin.zeroCells z.cells 1).toList,v.oneCell'=true)(b o c:Nat)
  (hc:∀j,j<z.cells.size->(w.cell? ⟨b,o+j,none⟩).isSome=true) (hf:∀j,j<z.cells.size->w.frozen? ⟨b,o+j,none⟩=false):
  (Builtin.clear_ #[t] ty #[.slice (some ⟨b,o,none⟩) 1 c]).run P w= .ok (.tuple #[]) (w.setCells b o (Builtin.zeroCells z.cells 1).toList):=by
 have hl:(Builtin.zeroCells z.cells 1).toList.length=z.cells.size:=by simp[Builtin.zeroCells]
 have hst:=run_storeCells_cells (P:=P) b o (Builtin.zeroCells z.cells 1).toList 0 w (by simpa[hl] using hc) (by simpa[hl] using hf) h1;simp only[Y3] at hst;simp[Builtin.clear_,Zy ht,hv,hst]
structure DelFn(P:Program)(f:FuncId)(K:Nat):Prop where
 ent:∀args w,(callFunc f args).run P w= .ok (.enter f args) w
 run:∀(b off n c i:Nat) (cs:List Value) (w:World),i<n->n<=c->n<=70368744177664->cs.length=n*K->
  (∀j v,cs[j]? =some v->w.cell? ⟨b,off+j,none⟩=some v) ->(∀j,j<n*K->w.frozen? ⟨b,off+j,none⟩=false) ->(∀v∈cs,v.oneCell'=true) ->
  Calls P f #[.slice (some ⟨b,off,none⟩) n c,.int .i64 i,.int .i64 ((i+1:Nat):Int)] w λe w'=>
   ∃Z:List Value,Z.length=K/\e= .returned (.slice (some ⟨b,off,none⟩) (n-1) c)/\w'=(w.drew.setCells b (off+i*K) (cs.drop ((i+1)*K))).setCells b (off+(n-1)*K) Z
noncomputable def dfq(te K:Nat):List V->Heap->Option (V×Heap)
 |[.sl b base off n esz none,.int .i64 (.ofNat i),.int .i64 (.ofNat j)],h=>match Nat.blt i n&&(Nat.beq j (i+1)&&(Nat.beq esz K&&(Nat.blt 0 K&&Nat.ble n 70368744177664))),h.get b with
  |true,some (.cells ty v)=>match Nat.beq ty te,jEq 50 v off n K with
   |true,some olds=>some (.sl h.next 0 0 (n-1) K none,(h.push (.cells te (.arr ((n-1)*K) K (olds.take i++olds.drop (i+1))))).kill b)
   |_,_=>none
  |_,_=>none
 |_,_=>none
section
variable {P:Program} {C:Cfg}
theorem bzq{f:FuncId}{te K:Nat}(I:DelFn P f K):qyq P C f (dfq te K):=λvs h v h' he=>by
 unfold dfq at he;split at he
 case h_2=>cases he
 rename_i b base off n esz i j;have hargs:∀ρ:Env,(zMq ρ [.sl b base off n esz none,.int .i64 (.ofNat i),.int .i64 (.ofNat j)]).toArray= #[aaq ρ (.sl b base off n esz none),.int .i64 (i:Int),.int .i64 (j:Int)]:=λρ=>by simp[zMq,aaq]
 split at he
 case h_2=>cases he
 rename_i ty bv hcond hg;simp only[Zb] at hcond;obtain⟨c1,c2,c3,c4,c5⟩:=hcond;have hin:i<n:=by simpa using c1
 have e2:=Zh c2;have e3:=Zh c3;subst e2;subst e3;have hK0:0<esz:=by simpa using c4
 have hb2:=Yb c5;split at he
 case h_2=>cases he
 rename_i olds hty ho;have e4:=Zh hty;subst e4;cases he;refine⟨(yrq _ _).trans (vkq _ _),I.ent,λs0 U D ρ w hU gl hvs r=>?_⟩;have hU1:h.next+1<=U:=hU;simp only[InDL] at hvs;obtain⟨hx1,_⟩:=hvs;obtain⟨g1,g2,g3,g4⟩:=yHq (ρ:=ρ) 50 bv off n esz olds ho;have hbvin:InD (DD D ρ) bv:=r.clo b _ hx1.2.2.1 hg;have hoi:=g4 _ hbvin;have hval:h.val b=some bv:=by simp[Heap.val,hg]
 obtain⟨hpos,hlen,hD,hroom⟩:=hx1;have hx1:InD (DD D ρ) (.sl b base off n esz none):=⟨hpos,hlen,hD,hroom⟩;simp only[YU] at hroom;obtain⟨o,h1,pre,tail,rfl,h2,h3⟩:=r.has b _ hD hg;obtain⟨L,hL⟩:∃L,L=pre++(cellsV ρ bv++tail):=⟨_,rfl⟩
 rw[<-hL] at h1;have hLl:L.length=ρ.pre b+ρ.cap b:=by rw[hL];simp only[Zj,ywq];omega
 have hO:(L.drop (ρ.pre b+off)).take (n*esz)=znq ρ esz olds:=by
  rw[hL,<-h2,YP,Z6 Xo,Z0 Xo,g3]
 have hcn:=jyq hx1;have hc0:¬z8q ρ b off esz none=0:=by omega
 have ha1:aaq ρ (.sl b base off n esz none)= .slice (some ⟨ρ.b b,ρ.pre b+off,none⟩) n (z8q ρ b off esz none):=by simp only[aaq,yjq,hc0,if_false]
 have hcs:∀j u,(znq ρ esz olds)[j]? =some u->w.cell? ⟨ρ.b b,ρ.pre b+off+j,none⟩=some u:=λj u hj=>by
  have:=jxq r hx1 hval ho j u hj;rw[Zg hc0,Addr.add_lit] at this;exact this
 have hol:(znq ρ esz olds).length=n*esz:=by rw[zBq,g1]
 have hdl:(znq ρ esz (olds.drop (i+1))).length=(n-(i+1))*esz:=by rw[zBq,Zx,g1]
 have hn1:n*esz=(n-1)*esz+esz:=by
  rw[<-Nat.succ_mul];congr 1;omega
 have hn2:(n-1)*esz=i*esz+(n-(i+1))*esz:=by rw[<-ZO];congr 1;omega
 have hv:InD (DD D ρ) (.arr ((n-1)*esz) esz (olds.take i++olds.drop (i+1))):=InDL_iff.2 λz hz=>by
  rcases ZT.1 hz with h|h
  .exact InDL_iff.1 hoi z (ZH h)
  .exact InDL_iff.1 hoi z (ZD h)
 have hfl:znq ρ esz (olds.take i++olds.drop (i+1))=znq ρ esz (olds.take i)++znq ρ esz (olds.drop (i+1)):=q3q ..
 have hfll:(znq ρ esz (olds.take i++olds.drop (i+1))).length=(n-1)*esz:=by
  rw[zBq];congr 1
  simp only[Zj,Zu,Zx,g1];omega
 have hcells:∀ρ':Env,Env.Agree (DD D ρ) ρ ρ'->cellsV ρ' (.arr ((n-1)*esz) esz (olds.take i++olds.drop (i+1)))=znq ρ esz (olds.take i)++znq ρ esz (olds.drop (i+1)):=λρ' hag=>by
  rw[yEq hag hv];simp only[cellsV];rw[yGq hfll,hfl]
 have hne:=r.next_new hU1;rw[hargs,ha1];have hfrz:∀j,j<n*esz->w.frozen? ⟨ρ.b b,ρ.pre b+off+j,none⟩=false:=λj _=>by simp[World.frozen?,h1]
 refine(I.run (ρ.b b) (ρ.pre b+off) n (z8q ρ b off esz none) i (znq ρ esz olds) w hin hcn hb2 hol hcs hfrz (qvq ρ esz olds)).mono λe w2=>?_
 rintro⟨Z,hZ,rfl,rfl⟩;rw[<-kYq];have hdr:w.drew.heap[ρ.b b]? =some (.cells L.toArray ty):=h1;have t1:=yeq (znq ρ esz (olds.drop (i+1))) (ρ.pre b+off+i*esz) w.drew (ρ.b b) _ ty hdr (by rw[hdl];simp only[ZR];omega);have t2:=yeq Z (ρ.pre b+off+(n-1)*esz) _ (ρ.b b) _ ty t1.this (by rw[hZ,uwq _ _ _ (by simp only[ZR,hdl];omega)];simp only[ZR];omega);have e5:ρ.pre b+off+(n-1)*esz=ρ.pre b+off+i*esz+(n-(i+1))*esz:=by omega
 rw[e5] at t2⊢;rw[Z9q L _ _ (ρ.pre b+off+i*esz) ((n-(i+1))*esz) hdl Xd] at t2
 have tt:Turned (ρ.b b) (.cells (L.take (ρ.pre b+off+i*esz)++(znq ρ esz (olds.drop (i+1))++(Z++L.drop (ρ.pre b+off+i*esz+(n-(i+1))*esz+Z.length)))).toArray ty) w ((w.drew.setCells (ρ.b b) (ρ.pre b+off+i*esz) (znq ρ esz (olds.drop (i+1)))).setCells (ρ.b b) (ρ.pre b+off+i*esz+(n-(i+1))*esz) Z):=
  ⟨t2.os.trans t1.os,t2.tape.trans t1.tape,t2.output.trans t1.output,t2.size.trans t1.size,t2.this,λk hk=>(t2.other k hk).trans (t1.other k hk)⟩
 have hag:Env.Agree (DD D ρ) ρ (ρ.add h.next (ρ.b b) (ρ.pre b+off) (ρ.cap b-off)):=Env.add_agree hne
 have hkn:KnB (ρ.add h.next (ρ.b b) (ρ.pre b+off) (ρ.cap b-off)) h.next (.cells ty (.arr ((n-1)*esz) esz (olds.take i++olds.drop (i+1)))) (.cells (L.take (ρ.pre b+off+i*esz)++(znq ρ esz (olds.drop (i+1))++(Z++L.drop (ρ.pre b+off+i*esz+(n-(i+1))*esz+Z.length)))).toArray ty):=by
  refine⟨L.take (ρ.pre b+off),Z++L.drop (ρ.pre b+off+i*esz+(n-(i+1))*esz+Z.length),?_,?_,?_⟩
  .rw[hcells _ hag];congr 1
   congr 1
   rw[List.take_add]
   have:(L.drop (ρ.pre b+off)).take (i*esz)=znq ρ esz (olds.take i):=by
    rw[j0q,<-hO,YO,YH Xd]
   rw[this];simp[Zz]
  .simp[Env.add];omega
  .refine⟨?_,λh=>by have h:false=true:=h;cases h⟩;show(n-1)*esz+_=_;simp only[Env.add,if_true,Zj,Zx,hZ];omega
 obtain⟨r',n'⟩:=r.move hU1 (B':=.cells ty (.arr ((n-1)*esz) esz (olds.take i++olds.drop (i+1)))) hD hg Y Y tt hv hkn;refine⟨_,_,?_,r',n',hpos,Zc _,.inr rfl,?_⟩
 .have hsc:z8q (ρ.add h.next (ρ.b b) (ρ.pre b+off) (ρ.cap b-off)) h.next 0 esz none=z8q ρ b off esz none:=by simp[z8q,Env.add]
  simp only[aaq,yjq,hsc,hc0,if_false];simp[Env.add]
 .simp only[Env.add,if_true,YU];omega
end
noncomputable def aGq(n:Nat):V:=.int .u32 (.ofNat n)
noncomputable def bRq:List V->List Nat->Bool
 |[],[]=>true
 |.int .u32 (.ofNat n)::l,m::ms=>match Nat.beq n m with
  |true=>bRq l ms
  |false=>false
 |_,_=>false
theorem Q0q:∀{l:List V} {ms:List Nat},bRq l ms=true->l=ms.map aGq
 |[],[],_=>rfl
 |[],_::_,h=>by simp[bRq] at h
 |v::l,ms,h=>by
  unfold bRq at h;split at h
  .simp_all
  .rename_i n l' m ms' e;cases e;split at h
   .rename_i hb;obtain rfl:=Zh hb;rw[Q0q h];rfl
   .cases h
  .cases h
theorem Q1q:∀ms:List Nat,bRq (ms.map aGq) ms=true
 |[]=>rfl
 |m::ms=>by
  show(match Nat.beq m m with|true=>bRq (ms.map aGq) ms|false=>false)=true;rw[YY];exact Q1q ms
noncomputable def brq(g:Nat)(ns:List Nat)(h:Heap):Bool:=match h.val g with
 |some bv=>Nat.ble ns.length bv.size&&bRq ((zlq bv).take ns.length) ns
 |none=>false
noncomputable def ptq(ok:Heap->Bool):List V->Heap->Option (V×Heap)
 |[],h=>match ok h with
  |true=>some (.bool true,h)
  |false=>none
 |_,_=>none
attribute [simp] abq acq
@[simp] theorem jBq:∀a b:List W,acq (a++b)=(acq a&&acq b)
 |[],b=>by simp
 |x::a,b=>by simp[jBq a b,Bool.and_assoc]
theorem zqq(l:List UInt8):(zbq l).length=l.length:=by simp[zbq]
theorem xYq{l:List UInt8}{i:Nat}{c:UInt8}(h:l[i]? =some c):(zbq l)[i]? =some (.int .u8 (.ofNat c.toNat)):=by simp[zbq,h]
@[simp] theorem q4q:∀l:List UInt8,acq (zbq l)=true
 |[]=>rfl
 |c::l=>by simp only[zbq,ZC,acq,abq,Y5];exact q4q l
theorem j1q(a b:List UInt8):zbq (a++b)=zbq a++zbq b:=by simp[zbq]
theorem Y8q(a:List UInt8)(n:Nat):(zbq a).take n=zbq (a.take n):=by simp[zbq,List.map_take]
theorem uTq(a:List UInt8)(n:Nat):(zbq a).drop n=zbq (a.drop n):=by simp[zbq,List.map_drop]
theorem fZq{l:List W}{n m:Nat}(hn:n=l.length)(hm:m=n):ysq 50 (.arr m 1 l) 0 n 1=some l:=by
 subst hm;subst hn
 rw[uZq Xd,ZV,List.take_length]
theorem zvq{l:List W}{n m e:Nat}(he:0<e)(hn:n=l.length)(hm:m=n*e):ysq 50 (.arr m e l) 0 n e=some l:=by
 subst hm;subst hn
 unfold ysq
 have:(Nat.beq e e&&Nat.beq (0%e) 0&&Nat.ble (0+l.length*e) (l.length*e)&&Nat.blt 0 e)=true:=by
  simp[YQ,he]
 simp only[this];simp
noncomputable def dW(k:Dig):W:=.arr 32 1 (zbq k.1)
@[simp] theorem qhq(k:Dig):abq (dW k)=true:=q4q _
theorem wGq(k:Dig):(dW k).isAgg=true:=rfl
theorem wFq(k:Dig){i:Nat}(h:i<32):(zbq k.1)[i]? =some (.int .u8 (kn k i:Nat)):=by
 have:i<k.1.length:=by rw[k.2];exact h
 rw[xYq (Za this)];simp[kn,this]
theorem bXq(k:Dig){i:Nat}(h:i<32):zYq 50 (dW k) (i*1) 1 false=some (.int .u8 (kn k i:Nat)):=by
 rw[Z2];exact qRq (wFq k h) rfl
theorem wEq(k:Dig)(i:Nat){n:Nat}(h:n<256):(zbq k.1).set i (.int .u8 (n:Int))=zbq (teq k i (UInt8.ofNat n)).1:=by
 have:(UInt8.ofNat n).toNat=n:=by simp;omega
 simp[zbq,teq,List.map_set,this]
theorem A7q{a b:Dig}(i:Nat)(h:i<32):kn a i=kn b i↔a.1[i]? =b.1[i]? :=by
 have ha:i<a.1.length:=by rw[a.2];exact h
 have hb:i<b.1.length:=by rw[b.2];exact h
 simp[kn,ha,hb,UInt8.toNat_inj]
theorem h1q{C:Cfg}{e:TypeId}{j:TyI}(he:C.ty e=some j)(hj:j.d= .int .u8)(hs:j.size=1)(hg:j.agg=false)(a b:Dig):∀(n k f:Nat),n+1<f->k+n=32->YRq C f e j n k (dW a) (dW b)=some (decide (a.1.drop k=b.1.drop k))
 |0,k,0,h,_=>by omega
 |0,k,f+1,h,hk=>by
  simp only[YRq];rw[ZW (by rw[a.2];omega),ZW (by rw[b.2];omega)];simp
 |n+1,k,0,h,_=>by omega
 |n+1,k,1,h,_=>by omega
 |n+1,k,f+2,h,hk=>by
  have ha:k<a.1.length:=by rw[a.2];omega
  have hb:k<b.1.length:=by rw[b.2];omega
  have h1:=bXq a (i:=k) Xd;have h2:=bXq b (i:=k) Xd;have ih:=h1q he hj hs hg a b n (k+1) (f+1) Xd Xd
  have e3:eqW C (f+1) e (.int .u8 (kn a k:Nat)) (.int .u8 (kn b k:Nat))=some (eqI (kn a k:Nat) (kn b k:Nat)):=by
   simp only[eqW,he,hj,decide_true]
  have e4:=A7q (a:=a) (b:=b) k Xd;rw[Za ha,Za hb,Zk] at e4;simp only[YRq,hs,hg,h1,h2,e3];rw[List.drop_eq_getElem_cons ha,List.drop_eq_getElem_cons hb];rw[h2q];by_cases q:kn a k=kn b k
  .rw[show decide (((kn a k:Nat):Int)=(kn b k:Nat))=true by simp[q]];simp only[ih];congr 1
   rw[Z9,YM];simp only[e4.1 q,true_and]
  .rw[show decide (((kn a k:Nat):Int)=(kn b k:Nat))=false by simp;omega];simp only;have:¬a.1[k]=b.1[k]:=λh=>q (e4.2 h)
   rw[Zo λh=>this (List.cons.inj h).1]
theorem yzq{C:Cfg}{t e:TypeId}{i j:TyI}(ht:C.ty t=some i)(hi:i.d= .arr 32 e)(he:C.ty e=some j)(hj:j.d= .int .u8)(hs:j.size=1)(hg:j.agg=false)(a b:Dig)(f:Nat):eqW C (f+50) t (dW a) (dW b)=some (decide (a=b)):=by
 have h:=h1q he hj hs hg a b 32 0 (f+49) Xd rfl;rw[show f+50=(f+49)+1 from rfl];simp only[eqW,ht,hi,wGq,Bool.and_self,he,h,ZV];congr 1
 simp[Subtype.ext_iff]
theorem v8q:W.arr 32 1 (List.replicate 32 (.int .u8 (.ofNat 0)))=dW zeroD:=by
 unfold dW zeroD;simp[zbq]
theorem z9q{blk:Nat->Option W}:View blk (.arr 32 1 (List.replicate 32 (.int .u8 (.ofNat 0)))) (dW zeroD):=by rw[v8q];exact .pur (qhq _)
noncomputable def bW(l:List UInt8):W:=.fz (zbq l) 1 false
@[simp] theorem B9q(l:List UInt8):abq (bW l)=true:=q4q l
theorem zgq{α:Type}{l:List α}{i:Nat}{x:α}(f:α->W)(h:l[i]? =some x):(l.map f)[i]? =some (f x):=by simp[h]
theorem yfq{α:Type}{f:α->W}(h:∀x,abq (f x)=true):∀l:List α,acq (l.map f)=true
 |[]=>rfl
 |x::l=>by simp only[ZC,acq,h x,Y5];exact yfq h l
theorem xRq{n e i off k f:Nat}{ag:Bool}{l:List W}{x y:W}(h:l[i]? =some x)(he:0<e)(hk:off<e)(hne:(Nat.beq (0+i*e+off) 0&&Nat.beq k n&&ag==true)=false)(hx:zYq f x off k ag=some y):zYq (f+1) (.arr n e l) (0+i*e+off) k ag=some y:=by
 unfold zYq;have h1:(Nat.beq (0+i*e+off) 0&&Nat.beq k (W.arr n e l).size&&ag==(W.arr n e l).isAgg)=false:=hne;have h2:(0+i*e+off)/e=i:=by rw[ZN,YC,Nat.mul_add_div he,Nat.div_eq_of_lt hk,Y3]
 have h3:(0+i*e+off)%e=off:=by rw[ZN,YC,Nat.mul_add_mod,YV hk]
 rw[h1];simp only[h2,h3,h];exact hx
theorem QFq{n e i off f:Nat}{l:List W}{x x' y:W}(h:l[i]? =some x)(he:0<e)(hk:off<e)(hne:(Nat.beq (0+i*e+off) 0&&Nat.beq y.size n&&y.isAgg==true)=false)(hx:yoq f x off y=some x'):yoq (f+1) (.arr n e l) (0+i*e+off) y=some (.arr n e (l.set i x')):=by
 unfold yoq;have h1:(Nat.beq (0+i*e+off) 0&&Nat.beq y.size (W.arr n e l).size&&y.isAgg==(W.arr n e l).isAgg)=false:=hne;have h2:(0+i*e+off)/e=i:=by rw[ZN,YC,Nat.mul_add_div he,Nat.div_eq_of_lt hk,Y3]
 have h3:(0+i*e+off)%e=off:=by rw[ZN,YC,Nat.mul_add_mod,YV hk]
 rw[h1];simp only[h2,h3,h,hx]
theorem k8q{α:Type}{l:List α}{i:Nat}{x:α}(h:l[i]? =some x):l.set i x=l:=by
 apply List.ext_getElem?;intro j;rw[List.getElem?_set];split
 .rename_i e;subst e
  obtain⟨hl,_⟩:=Zq.1 h;rw[Zt hl,h]
 .rfl
section
variable {C:Cfg} {f:Nat} {t:TypeId} {i:TyI} {x y a b:W} {p q:Bool}
theorem qsq{k:IntKind}{m n:Int}(hi:C.ty t=some i)(hd:i.d= .int k):eqW C (f+1) t (.int k m) (.int k n)=some (decide (m=n)):=by
 simp only[eqW,hi,hd,decide_true];rw[h2q]
theorem c8q{m n:Bool}(hi:C.ty t=some i)(hd:i.d= .bool):eqW C (f+1) t (.bool m) (.bool n)=some (decide (m=n)):=by
 simp only[eqW,hi,hd];cases m<;>cases n<;>rfl
theorem jdq:Zwq C (f+1) [] x y=some true:=by simp only[Zwq]
theorem zuq{off:Nat}{fs:List (TypeId×Nat)}(hi:C.ty t=some i)(ha:zYq 50 x off i.size i.agg=some a)(hb:zYq 50 y off i.size i.agg=some b)(he:eqW C f t a b=some p)(hr:Zwq C f fs x y=some q):Zwq C (f+1) ((t,off)::fs) x y=some (p&&q):=by
 simp only[Zwq,hi,ha,hb,he];cases p
 .rfl
 .simp only[Y5];exact hr
theorem qEq{fs:List (TypeId×Nat)}(hi:C.ty t=some i)(hd:i.d= .struct fs)(ha:x.isAgg=true)(hb:y.isAgg=true)(h:Zwq C f fs x y=some p):eqW C (f+1) t x y=some p:=by
 simp only[eqW,hi,hd,ha,hb,Bool.and_self,h]
end
noncomputable def byJ(h:Heap):V->Option (List UInt8)
 |.nils=>some []
 |.sl b _ off n 1 _=>match h.val b with
  |some bv=>match jEq 50 bv off n 1 with
   |some l=>bytesOf (z6q 1 l)
   |none=>none
  |none=>none
 |_=>none
noncomputable def sOq(h:Heap):List V->Option (List (List UInt8))
 |[]=>some []
 |v::l=>match byJ h v,sOq h l with
  |some x,some r=>some (x::r)
  |_,_=>none
noncomputable def JTq:List V->Heap->Option (V×Heap)
 |[.sl b _ off n 1 _,y],h=>match h.val b,byJ h y with
  |some bv,some []=>match jEq 50 bv off n 1 with
   |some xs=>match sOq h (z6q 1 xs) with
    |some ls=>match Nat.ble 2 n&&Nat.ble n 140737488355328&&Nat.ble 1 ls.flatten.length&&Nat.ble ls.flatten.length 140737488355328 with
     |true=>some (.sl h.next 0 0 ls.flatten.length 1 none,h.push (.ro (.arr ls.flatten.length 1 (y4q ls.flatten))))
     |false=>none
    |none=>none
   |none=>none
  |_,_=>none
 |_,_=>none
section
variable {C:Cfg} {G:Nat->Option W} {Γ:Ctx} {X:Nat->Prop} {R:Res}
theorem pKq(s:SatH C G Γ [] X R)(v:V):∃Γ',Γ'.nw=Γ.nw/\Γ.Le Γ'/\Γ'.h=Γ.h.push (.ro v)/\Γ'.D Γ.h.next/\SatH C G Γ' [] X R/\Frm Γ.nw Γ [] X Γ' [] X:=by
 let Γ2:Ctx:=⟨Γ.nw,Γ.σ,λc=>Γ.D c\/c=Γ.h.next,Γ.h.push (.ro v)⟩
 have le:Γ.Le Γ2:=⟨Zc _,λ_ _=>rfl,λ_ h=>.inl h,λb hb=>yRq (by
  have:=s.dlt b hb;show(Γ.h.push (.ro v)).get b=_;rw[Heap.get_push,Zg Xd])⟩
 refine⟨Γ2,rfl,le,rfl,.inr rfl,⟨λi hi=>?_,λb ty w h=>by simp[hget] at h,λb b' x y h=>by simp[hget] at h,YJ,λc hd hX=>?_,λc hc=>Nat.lt_succ_of_lt (s.xlt c hc),λc hd=>?_,R.st _ _ _ _ _ s.res le.D le.val (λc hc=>?_) (YK _),s.gl.mono le⟩,⟨λ_ _=>rfl,λh=>h,YK _,λc h1 _ _=>?_,λ_ h=>.inl h,λc hd=>?_,λb x _ h=>by simp[hget] at h,λb x _ h=>by simp[hget] at h,λ_ h=>.inl h,λk h _ _=>h⟩⟩
 .have hi:Γ.h.next+1<=i:=hi;show(Γ.h.push (.ro v)).get i=none;rw[Heap.get_push,Zg Xd];exact s.wf i Xd
 .rcases hd with h|rfl
  .exact s.dX c h hX
  .exact Nat.lt_irrefl _ (s.xlt _ hX)
 .rcases hd with h|rfl
  .exact Nat.lt_succ_of_lt (s.dlt c h)
  .exact YE _
 .have:=s.xlt c hc;show(Γ.h.push (.ro v)).get c=_;rw[Heap.get_push,Zg Xd]
 .show(Γ.h.push (.ro v)).get c=_;rw[Heap.get_push,Zg Xd]
 .rcases hd with h|rfl
  .exact .inl h
  .exact .inr (.inr (Zc _))
theorem bfq:∀{p:List UInt8} {s:List V},RSL Γ (zbq p) s->s=p.map λc=>V.int .u8 (.ofNat c.toNat)
 |[],s,h=>by simpa[zbq,RSL] using h
 |c::p,s,h=>by
  have h:RS Γ (.int .u8 (.ofNat c.toNat)) (s.take 1)/\RSL Γ (zbq p) (s.drop 1):=h;have h1:s.take 1=[.int .u8 (.ofNat c.toNat)]:=by simpa[RS] using h.1
  rw[<-ZJ 1 s,h1,bfq h.2];rfl
theorem Y9q:∀p:List UInt8,bytesOf (p.map λc=>V.int .u8 (.ofNat c.toNat))=some p
 |[]=>rfl
 |c::p=>by
  have hc:Nat.blt c.toNat 256=true:=by simpa[YQ] using c.toNat_lt
  rw[ZC];unfold bytesOf;simp only[Y9q p,hc];simp
theorem Buq{p:List UInt8}{u:V}(h:RS Γ (bW p) [u]):byJ Γ.h u=some p:=by
 have h:(zbq p=[]/\[u]=[.nils])\/∃b base off lim bv,[u]=[.sl b base off (zbq p).length 1 lim]/\(false=true->lim=some (zbq p).length)/\Γ.D b/\Γ.h.val b=some bv/\bv.isAgg=true/\off+(zbq p).length*1<=bv.size/\(∀x∈zbq p,x.size=1)/\RSL Γ (zbq p) (((zlq bv).drop off).take ((zbq p).length*1)):=by
  simpa only[bW,RS] using h
 rcases h with ⟨h1,h2⟩|⟨b,base,off,lim,bv,h1,_,h3,h4,h5,h6,h7,h8⟩
 .cases h2
  have:p=[]:=by cases p with
   |nil=>rfl
   |cons c p=>cases h1
  rw[this];rfl
 .cases h1;obtain⟨us,g1,g2,g3,g4⟩:=Jnq (e:=1) h5 h6;simp only[byJ,h4,g1];rw[g3,bfq h8];exact Y9q p
theorem oEq:∀{ps:List (List UInt8)} {s:List V},RSL Γ (ps.map bW) s->sOq Γ.h s=some ps
 |[],s,h=>by
  have h:s=[]:=by simpa[RSL] using h
  rw[h];rfl
 |p::ps,s,h=>by
  have h:RS Γ (bW p) (s.take 1)/\RSL Γ (ps.map bW) (s.drop 1):=h;have hl:=qPq h.1;cases s with
  |nil=>simp[bW,W.size] at hl
  |cons u s=>
   have h1:RS Γ (bW p) [u]:=h.1;have h2:RSL Γ (ps.map bW) s:=h.2;simp only[sOq,Buq h1,oEq h2]
theorem n1q:∀p:List UInt8,RSL Γ (zbq p) (p.map λc=>V.int .u8 (.ofNat c.toNat))
 |[]=>by simp[zbq,RSL]
 |c::p=>by
  show RS Γ (.int .u8 (.ofNat c.toNat)) _/\RSL Γ (zbq p) _;exact⟨by simp[RS,W.size],n1q p⟩
theorem YGq:∀l:List UInt8,z6q 1 (y4q l)=l.map λc=>V.int .u8 (.ofNat c.toNat)
 |[]=>rfl
 |c::l=>by
  show auq 1 [V.int .u8 (.ofNat c.toNat)]++z6q 1 (y4q l)=_;rw[YGq l,yiq (n:=1) (l:=[V.int .u8 (.ofNat c.toNat)]) rfl];rfl
theorem t8q{F:FuncId}(hk:C.known F=some JTq)(ps:List (List UInt8))(f:Bool)(h2:2<=ps.length)(hn:ps.length<=140737488355328)(h1:1<=ps.flatten.length)(hb:ps.flatten.length<=140737488355328):PS C G F [.fz (ps.map bW) 1 f,.nils] (bW ps.flatten):=λR Γ X vs hnw s hv=>by
 obtain⟨v,vs1,rfl,hv1,hv2⟩:=RVL_cons.1 hv;obtain⟨y,vs2,rfl,hy,hz⟩:=RVL_cons.1 hv2;obtain rfl:=RVL_nil.1 hz
 have hy:y= .nils:=by
  have:=hy.one rfl;simpa[RS] using this
 subst hy;have hlen:(ps.map bW).length=ps.length:=Zd _;rcases kmq hv1 with ⟨h0,_⟩|⟨b,base,off,lim,bv,us,rfl,_,_,g1,_,_,_,_,g2,g3⟩
 .rw[h0] at hlen;simp only[YD] at hlen;omega
 .have hby:=oEq g3.rs;obtain⟨Γ',e1,le,e2,e3,s',fr⟩:=pKq s (.arr ps.flatten.length 1 (y4q ps.flatten))
  have hok:(Nat.ble 2 (ps.map bW).length&&Nat.ble (ps.map bW).length 140737488355328&&Nat.ble 1 ps.flatten.length&&Nat.ble ps.flatten.length 140737488355328)=true:=by
   rw[hlen,Zl h2,Zl hn,Zl h1,Zl hb];rfl
  have hrun:JTq [.sl b base off (ps.map bW).length 1 lim,.nils] Γ.h=some (.sl Γ.h.next 0 0 ps.flatten.length 1 none,Γ'.h):=by
   simp only[JTq,g1,byJ,g2,hby,hok,e2]
  refine⟨1,.sl Γ.h.next 0 0 ps.flatten.length 1 none,Γ',X,bW ps.flatten,[],R,?_,s',by rw[<-hnw];exact fr,?_,rfl,rfl⟩
  .simp only[yPq,hk,hrun]
  .have hfl:zlq (.arr ps.flatten.length 1 (y4q ps.flatten))=ps.flatten.map λc=>V.int .u8 (.ofNat c.toNat):=by
    simp only[zlq,YGq];exact yiq (by rw[Zd])
   have hval:Γ'.h.val Γ.h.next=some (.arr ps.flatten.length 1 (y4q ps.flatten)):=by
    rw[e2];simp only[Heap.val,Heap.get_push,if_true]
   have:=nIq (Γ:=Γ') (l:=zbq ps.flatten) (e:=1) (full:=false) (b:=Γ.h.next) (base:=0) (off:=0) (lim:=none) (bv:=.arr ps.flatten.length 1 (y4q ps.flatten)) Xk e3 hval rfl (by rw[zqq];show 0+_*1<=ps.flatten.length;omega) (λx hx=>by obtain⟨c,_,rfl⟩:=Z1.1 hx;rfl) (by rw[hfl,ZV,Zm (by rw[zqq,Zd];omega)];exact n1q _);rw[zqq] at this;exact this
end
end
def ti5:TyI:=⟨1,1,.int .u8 0,.int .u8⟩
def AAq:TyI:=⟨32,32,.arr 32 1 (List.replicate 32 (.int .u8 0)),.arr 32 5⟩
def Aaq:TyI:=⟨1,24,.nils,.slice 72⟩
def zZq:TyI:=⟨1,24,.nils,.slice 5⟩
def BRq:TyI:=⟨101,136,.agg 101 [.bool false,.agg 100 [.int .i64 0,.bool false,.agg 98 [.int .i64 0,.arr 32 1 (List.replicate 32 (.int .u8 0)),.arr 32 1 (List.replicate 32 (.int .u8 0)),.arr 32 1 (List.replicate 32 (.int .u8 0)),.int .i64 0]]],.struct [(4,0),(59,1)]⟩
def s7q:TyI:=⟨99,120,.agg 99 [.arr 32 1 (List.replicate 32 (.int .u8 0)),.arr 32 1 (List.replicate 32 (.int .u8 0)),.int .u64 0,.int .u64 0,.int .u64 0,.arr 32 1 (List.replicate 32 (.int .u8 0))],.struct [(23,0),(23,32),(37,64),(37,65),(37,66),(23,67)]⟩
def BQq:TyI:=⟨102,192,.agg 102 [.agg 98 [.int .i64 0,.arr 32 1 (List.replicate 32 (.int .u8 0)),.arr 32 1 (List.replicate 32 (.int .u8 0)),.arr 32 1 (List.replicate 32 (.int .u8 0)),.int .i64 0],.int .i64 0,.agg 2 [.nils,.nils],.nils],.struct [(57,0),(3,98),(85,99),(86,101)]⟩
def pcq:TyI:=⟨1,24,.nils,.slice 133⟩
def pbq:TyI:=⟨1,24,.agg 1 [.nils],.struct [(129,0)]⟩
def lqq:TyI:=⟨33,56,.agg 33 [.arr 32 1 (List.replicate 32 (.int .u8 0)),.nils],.struct [(23,0),(35,32)]⟩
def ti158:TyI:=⟨33,56,.agg 33 [.arr 32 1 (List.replicate 32 (.int .u8 0)),.nils],.struct [(23,0),(52,32)]⟩
def paq:TyI:=⟨4,48,.agg 4 [.int .i64 0,.int .i64 0,.agg 2 [.nils,.bool false]],.struct [(3,0),(3,1),(106,2)]⟩
def ti223:TyI:=⟨36,80,.agg 36 [.bool false,.arr 32 1 (List.replicate 32 (.int .u8 0)),.nils,.int .i64 0,.int .i64 0],.struct [(4,0),(23,1),(52,33),(3,34),(3,35)]⟩
noncomputable def tyT:Tr TyI:=.node none (.node (some ⟨1,8,.nilf,.other⟩) (.node (some ⟨1,8,.int .i64 0,.int .i64⟩) (.node (some ⟨4,24,.agg 4 [.int .i64 0,.int .i64 0,.bool false,.int .u8 0],.struct [(2,0),(3,1),(4,2),(6,3)]⟩) (.node none (.node (some ⟨3,56,.agg 3 [.agg 2 [.nils,.int .i64 0],.nils],.struct [(28,0),(29,2)]⟩) (.node (some ⟨240,384,.agg 240 [.int .u8 0,.int .i64 0,.int .i64 0,.arr 32 1 (List.replicate 32 (.int .u8 0)),.agg 2 [.int .u64 0,.int .u64 0],.agg 34 [.int .u8 0,.arr 32 1 (List.replicate 32 (.int .u8 0)),.int .i64 0],.agg 67 [.arr 32 1 (List.replicate 32 (.int .u8 0)),.int .u8 0,.arr 32 1 (List.replicate 32 (.int .u8 0)),.nils,.nils],.int .i64 0,.agg 101 [.bool false,.agg 100 [.int .i64 0,.bool false,.agg 98 [.int .i64 0,.arr 32 1 (List.replicate 32 (.int .u8 0)),.arr 32 1 (List.replicate 32 (.int .u8 0)),.arr 32 1 (List.replicate 32 (.int .u8 0)),.int .i64 0]]]],.struct [(5,0),(46,1),(3,2),(23,3),(49,35),(51,37),(55,71),(3,138),(61,139)]⟩) (.node none (.node (some ⟨1,8,.nilf,.other⟩) .nil .nil) (.node (some ⟨64,64,.arr 64 32 (List.replicate 2 (.arr 32 1 (List.replicate 32 (.int .u8 0)))),.arr 2 23⟩) .nil .nil)) (.node none (.node (some ⟨99,120,.agg 99 [.arr 32 1 (List.replicate 32 (.int .u8 0)),.arr 32 1 (List.replicate 32 (.int .u8 0)),.int .u64 0,.int .u64 0,.int .u64 0,.arr 32 1 (List.replicate 32 (.int .u8 0))],.struct [(23,0),(23,32),(37,64),(37,65),(37,66),(23,67)]⟩) .nil .nil) .nil)) (.node none (.node none .nil (.node (some ⟨67,120,.agg 67 [.agg 67 [.arr 32 1 (List.replicate 32 (.int .u8 0)),.int .u8 0,.arr 32 1 (List.replicate 32 (.int .u8 0)),.nils,.nils]],.struct [(55,0)]⟩) .nil .nil)) (.node (some ti223) .nil .nil))) (.node none (.node none (.node (some ⟨2,32,.agg 2 [.nils,.bool false],.struct [(52,0),(4,1)]⟩) .nil (.node (some ⟨1,8,.nilf,.other⟩) .nil .nil)) .nil) (.node none (.node (some paq) .nil .nil) (.node (some ⟨3,24,.agg 3 [.nilf,.nilf,.int .i64 0],.struct [(237,0),(235,1),(3,2)]⟩) .nil .nil)))) (.node (some AAq) (.node (some ⟨1,24,.nils,.slice 175⟩) .nil (.node none (.node (some ⟨1,24,.nils,.slice 69⟩) .nil .nil) (.node (some ⟨100,144,.agg 100 [.agg 1 [.nils],.agg 99 [.arr 32 1 (List.replicate 32 (.int .u8 0)),.arr 32 1 (List.replicate 32 (.int .u8 0)),.int .u64 0,.int .u64 0,.int .u64 0,.arr 32 1 (List.replicate 32 (.int .u8 0))]],.struct [(229,0),(72,1)]⟩) .nil .nil))) (.node (some ⟨67,120,.agg 67 [.arr 32 1 (List.replicate 32 (.int .u8 0)),.int .u8 0,.arr 32 1 (List.replicate 32 (.int .u8 0)),.nils,.nils],.struct [(23,0),(5,32),(23,33),(52,65),(53,66)]⟩) (.node none (.node (some ⟨1,8,.nilf,.other⟩) .nil (.node (some ⟨1,8,.nilf,.other⟩) .nil .nil)) .nil) (.node (some ⟨52,320,.agg 52 [.agg 52 [.agg 38 [.int .i64 0,.int .i64 0,.int .i64 0,.int .i64 0,.int .i64 0,.int .i64 0,.arr 32 1 (List.replicate 32 (.int .u8 0))],.agg 6 [.int .i64 0,.bool false,.int .i64 0,.agg 3 [.agg 2 [.nils,.int .i64 0],.nils]],.nils,.nils,.nils,.nils,.int .u64 0,.nils,.agg 2 [.int .i64 0,.nils]]],.struct [(43,0)]⟩) .nil (.node (some ⟨1,8,.nilf,.other⟩) .nil .nil))))) (.node (some ⟨1,16,.str [],.str⟩) (.node none (.node (some Aaq) (.node (some ⟨35,56,.agg 35 [.int .u8 0,.arr 32 1 (List.replicate 32 (.int .u8 0)),.int .u64 0,.int .i64 0],.struct [(5,0),(23,1),(37,33),(3,34)]⟩) (.node (some pbq) (.node (some ⟨1,8,.nilf,.other⟩) .nil .nil) (.node (some ⟨1,8,.nilf,.other⟩) .nil .nil)) (.node none .nil (.node (some ⟨1,24,.nils,.slice 450⟩) .nil .nil))) (.node none .nil (.node (some ⟨1,8,.nilp,.ptr⟩) .nil .nil))) (.node (some ⟨34,48,.agg 34 [.int .u8 0,.arr 32 1 (List.replicate 32 (.int .u8 0)),.int .i64 0],.struct [(5,0),(23,1),(46,33)]⟩) (.node (some ⟨1,8,.nilf,.other⟩) .nil (.node none (.node (some ⟨1,8,.nilf,.other⟩) .nil .nil) .nil)) (.node none (.node (some ⟨1,8,.nilf,.other⟩) .nil .nil) (.node none (.node (some ⟨1,8,.nilf,.other⟩) .nil .nil) .nil)))) (.node none (.node (some ⟨52,320,.agg 52 [.agg 38 [.int .i64 0,.int .i64 0,.int .i64 0,.int .i64 0,.int .i64 0,.int .i64 0,.arr 32 1 (List.replicate 32 (.int .u8 0))],.agg 6 [.int .i64 0,.bool false,.int .i64 0,.agg 3 [.agg 2 [.nils,.int .i64 0],.nils]],.nils,.nils,.nils,.nils,.int .u64 0,.nils,.agg 2 [.int .i64 0,.nils]],.struct [(25,0),(33,38),(34,44),(35,45),(35,46),(36,47),(37,48),(38,49),(41,50)]⟩) (.node none (.node (some ⟨1,8,.nilp,.ptr⟩) (.node (some ⟨1,8,.nilf,.other⟩) .nil .nil) (.node (some ⟨1,8,.nilp,.ptr⟩) .nil .nil)) .nil) (.node none (.node none (.node (some ⟨1,8,.nilf,.other⟩) .nil .nil) .nil) (.node (some ⟨1,8,.nilf,.other⟩) .nil .nil))) (.node (some ⟨100,128,.agg 100 [.int .i64 0,.bool false,.agg 98 [.int .i64 0,.arr 32 1 (List.replicate 32 (.int .u8 0)),.arr 32 1 (List.replicate 32 (.int .u8 0)),.arr 32 1 (List.replicate 32 (.int .u8 0)),.int .i64 0]],.struct [(3,0),(4,1),(57,2)]⟩) (.node none (.node (some ⟨1,24,.nils,.slice 158⟩) .nil .nil) (.node (some ⟨1,8,.nilf,.other⟩) (.node (some ⟨1,4,.int .u32 0,.int .u32⟩) .nil .nil) (.node (some ⟨1,8,.nilf,.other⟩) .nil .nil))) (.node none (.node (some ⟨1,8,.nilf,.other⟩) .nil (.node (some ⟨1,8,.nilp,.ptr⟩) .nil .nil)) (.node none (.node (some ⟨1,8,.nilf,.other⟩) .nil .nil) .nil)))))) (.node (some ti5) (.node (some ⟨1,16,.str [],.str⟩) (.node (some ⟨1,8,.nilp,.ptr⟩) (.node (some ⟨6,80,.agg 6 [.int .i64 0,.bool false,.int .i64 0,.agg 3 [.agg 2 [.nils,.int .i64 0],.nils]],.struct [(3,0),(4,1),(3,2),(31,3)]⟩) (.node none (.node (some pcq) .nil .nil) .nil) (.node none (.node none (.node (some ⟨1,8,.nilf,.other⟩) .nil .nil) (.node (some ⟨1,8,.nilf,.other⟩) .nil .nil)) (.node none (.node (some ⟨1,8,.nilf,.other⟩) .nil .nil) .nil))) (.node (some ⟨2,16,.agg 2 [.int .u64 0,.int .u64 0],.struct [(37,0),(37,1)]⟩) (.node none (.node none .nil (.node (some ⟨2,32,.agg 2 [.nils,.nilf],.struct [(35,0),(399,1)]⟩) .nil .nil)) (.node none (.node (some ⟨1,8,.nilf,.other⟩) .nil .nil) .nil)) (.node (some ⟨1,8,.nilf,.other⟩) (.node (some ⟨1,8,.nilf,.other⟩) .nil .nil) .nil))) (.node (some ⟨38,80,.agg 38 [.int .i64 0,.int .i64 0,.int .i64 0,.int .i64 0,.int .i64 0,.int .i64 0,.arr 32 1 (List.replicate 32 (.int .u8 0))],.struct [(3,0),(3,1),(3,2),(3,3),(3,4),(3,5),(23,6)]⟩) (.node (some ⟨2,32,.agg 2 [.int .i64 0,.nils],.struct [(3,0),(39,1)]⟩) (.node none (.node none .nil (.node (some ⟨1,8,.nilf,.other⟩) .nil .nil)) (.node none (.node (some ⟨2,16,.arr 2 1 (List.replicate 2 (.int .i64 0)),.arr 2 3⟩) .nil .nil) .nil)) (.node none .nil (.node (some ⟨1,24,.nils,.slice 232⟩) .nil .nil))) (.node (some ⟨98,112,.agg 98 [.int .i64 0,.arr 32 1 (List.replicate 32 (.int .u8 0)),.arr 32 1 (List.replicate 32 (.int .u8 0)),.arr 32 1 (List.replicate 32 (.int .u8 0)),.int .i64 0],.struct [(3,0),(23,1),(23,33),(23,65),(3,97)]⟩) (.node (some ⟨1,8,.nilf,.other⟩) (.node (some ⟨1,8,.nilf,.other⟩) (.node (some ⟨1,8,.nilf,.other⟩) .nil .nil) .nil) (.node none .nil (.node (some ⟨1,1,.int .u8 0,.int .u8⟩) .nil .nil))) (.node none (.node (some ⟨1,8,.nilf,.other⟩) (.node (some ⟨1,8,.nilf,.other⟩) .nil .nil) .nil) (.node (some ⟨3,24,.agg 3 [.nilp,.int .i64 0,.int .i64 0],.struct [(246,0),(3,1),(3,2)]⟩) .nil .nil))))) (.node none (.node none (.node (some ⟨1,8,.int .u64 0,.int .u64⟩) (.node (some ⟨38,96,.agg 38 [.int .u8 0,.nils,.agg 35 [.int .u8 0,.arr 32 1 (List.replicate 32 (.int .u8 0)),.int .u64 0,.int .i64 0],.int .i64 0],.struct [(5,0),(52,1),(67,2),(3,37)]⟩) (.node (some lqq) (.node (some ⟨1,8,.nilp,.ptr⟩) .nil .nil) (.node (some ⟨1,24,.nils,.slice 37⟩) .nil .nil)) (.node none .nil (.node (some ⟨1,8,.nilf,.other⟩) .nil .nil))) (.node none .nil (.node (some ⟨1,24,.agg 1 [.nils],.struct [(52,0)]⟩) .nil .nil))) (.node (some ⟨1,24,.nils,.slice 23⟩) (.node (some ⟨2,48,.agg 2 [.nils,.nils],.struct [(36,0),(35,1)]⟩) .nil (.node none .nil (.node (some ⟨0,0,.arr 0 1 (List.replicate 0 (.nilp)),.arr 0 16⟩) .nil .nil))) (.node (some ⟨1,8,.nilf,.other⟩) .nil .nil))) (.node (some ⟨1,24,.nils,.slice 88⟩) (.node none (.node (some ⟨134,176,.agg 134 [.int .u8 0,.agg 99 [.arr 32 1 (List.replicate 32 (.int .u8 0)),.arr 32 1 (List.replicate 32 (.int .u8 0)),.int .u64 0,.int .u64 0,.int .u64 0,.arr 32 1 (List.replicate 32 (.int .u8 0))],.arr 32 1 (List.replicate 32 (.int .u8 0)),.int .i64 0,.int .i64 0],.struct [(5,0),(72,1),(23,100),(3,132),(3,133)]⟩) .nil (.node none (.node (some ⟨1,8,.nilp,.ptr⟩) .nil .nil) .nil)) (.node (some ⟨1,8,.nilf,.other⟩) (.node (some ⟨1,8,.nilf,.other⟩) .nil (.node (some ⟨1,8,.nilf,.other⟩) .nil .nil)) (.node (some ⟨1,8,.nilf,.other⟩) (.node (some ⟨1,8,.nilf,.other⟩) .nil .nil) .nil))) (.node (some BRq) (.node none (.node none .nil (.node (some ⟨1,8,.nilp,.ptr⟩) .nil .nil)) (.node none (.node (some ⟨8,32,.arr 8 1 (List.replicate 8 (.int .u32 0)),.arr 8 347⟩) .nil .nil) (.node (some ⟨1,4,.int .i32 0,.int .i32⟩) .nil .nil))) (.node none .nil (.node (some ⟨1,8,.nilf,.other⟩) .nil .nil))))))) (.node (some ⟨1,8,.int .i64 0,.int .i64⟩) (.node (some ⟨1,1,.bool false,.bool⟩) (.node (some ⟨4,24,.agg 4 [.int .i64 0,.int .i64 0,.bool false,.int .u8 0],.struct [(2,0),(3,1),(4,2),(6,3)]⟩) (.node (some ⟨1,8,.nilp,.ptr⟩) (.node (some ⟨6,80,.agg 6 [.int .i64 0,.bool false,.int .i64 0,.agg 3 [.agg 2 [.nils,.int .i64 0],.nils]],.struct [(3,0),(4,1),(3,2),(31,3)]⟩) (.node none (.node (some ⟨1,8,.nilf,.other⟩) .nil .nil) .nil) .nil) (.node none .nil (.node (some ⟨1,8,.nilf,.other⟩) .nil (.node (some ⟨1,8,.nilp,.ptr⟩) .nil .nil)))) (.node none (.node none (.node (some s7q) (.node (some ⟨1,24,.nils,.slice 244⟩) (.node (some ⟨2,32,.agg 2 [.agg 2 [.nils,.int .i64 0]],.struct [(28,0)]⟩) .nil .nil) .nil) .nil) (.node (some ⟨1,24,.nils,.slice 61⟩) (.node none (.node (some ⟨1,8,.nilp,.ptr⟩) .nil .nil) (.node (some ⟨1,8,.nilf,.other⟩) .nil .nil)) (.node (some ⟨1,8,.nilp,.ptr⟩) .nil .nil))) (.node none (.node (some BQq) (.node none (.node (some ⟨1,8,.nilf,.other⟩) .nil .nil) .nil) .nil) (.node (some ⟨1,8,.nilf,.other⟩) (.node none (.node (some ⟨1,8,.agg 1 [.nilf],.struct [(310,0)]⟩) .nil .nil) (.node (some ⟨1,8,.nilf,.other⟩) .nil .nil)) .nil)))) (.node (some ⟨1,8,.int .u64 0,.int .u64⟩) (.node (some ⟨1,16,.nili,.iface⟩) (.node (some ⟨1,24,.nils,.slice 148⟩) (.node none .nil (.node none (.node (some ⟨1,8,.nilf,.other⟩) .nil .nil) .nil)) (.node (some ⟨1,8,.nilf,.other⟩) (.node none .nil (.node (some ⟨1,8,.nilp,.ptr⟩) .nil .nil)) (.node none (.node (some ⟨1,8,.nilp,.ptr⟩) .nil .nil) .nil))) (.node (some zZq) (.node none (.node (some ⟨34,48,.agg 34 [.int .u64 0,.arr 32 1 (List.replicate 32 (.int .u8 0)),.int .u64 0],.struct [(37,0),(23,1),(37,33)]⟩) (.node (some ⟨1,24,.nils,.slice 52⟩) .nil .nil) .nil) (.node none (.node (some ⟨1,8,.nilf,.other⟩) .nil .nil) .nil)) (.node (some ⟨1,8,.nilp,.ptr⟩) (.node none (.node (some ⟨1,8,.nilp,.ptr⟩) .nil .nil) .nil) (.node (some ⟨1,16,.nili,.iface⟩) .nil .nil)))) (.node (some ⟨2,32,.agg 2 [.nils,.int .i64 0],.struct [(26,0),(3,1)]⟩) (.node (some ⟨1,8,.nilf,.other⟩) (.node none (.node (some ⟨1,8,.nilp,.ptr⟩) (.node (some ⟨1,8,.nilf,.other⟩) .nil .nil) (.node (some ⟨64,256,.arr 64 1 (List.replicate 64 (.int .u32 0)),.arr 64 347⟩) .nil .nil)) (.node none (.node (some ⟨1,8,.int .u64 0,.int .u64⟩) .nil .nil) .nil)) .nil) (.node none (.node none (.node (some ⟨1,8,.nilf,.other⟩) .nil .nil) (.node none .nil (.node (some ⟨1,8,.nilp,.ptr⟩) .nil .nil))) (.node none (.node (some ⟨1,8,.nilf,.other⟩) .nil (.node (some ⟨2,32,.agg 2 [.agg 2 [.nils,.int .i64 0]],.struct [(28,0)]⟩) .nil .nil)) (.node (some ⟨1,8,.agg 1 [.nilp],.struct [(250,0)]⟩) .nil .nil)))))) (.node (some ⟨1,1,.int .u8 0,.int .u8⟩) (.node none (.node none (.node (some ⟨1,24,.nils,.slice 131⟩) (.node none (.node none (.node (some ⟨1,8,.nilf,.other⟩) .nil .nil) .nil) (.node none .nil (.node (some ⟨2,16,.agg 2 [.nilf,.int .i64 0],.struct [(44,0),(46,1)]⟩) .nil .nil))) (.node none (.node none .nil (.node (some ⟨1,8,.nilf,.other⟩) .nil .nil)) .nil)) (.node none (.node none .nil (.node (some ⟨1,24,.nils,.slice 85⟩) .nil .nil)) (.node none .nil (.node (some ⟨1,8,.agg 1 [.nilp],.struct [(240,0)]⟩) .nil .nil)))) (.node (some ⟨1,24,.nils,.slice 223⟩) (.node none (.node none (.node none .nil (.node (some ⟨1,8,.nilf,.other⟩) .nil .nil)) .nil) (.node (some ⟨2,32,.agg 2 [.nils,.bool false],.struct [(104,0),(4,1)]⟩) .nil .nil)) (.node none (.node none (.node none .nil (.node (some ⟨1,8,.nilf,.other⟩) .nil .nil)) (.node (some ⟨1,8,.nilf,.other⟩) .nil (.node (some ⟨1,1,.int .u8 0,.int .u8⟩) .nil .nil))) (.node none (.node none (.node (some ⟨1,8,.nilf,.other⟩) .nil .nil) .nil) (.node (some ⟨1,8,.nilp,.ptr⟩) (.node (some ⟨1,8,.nilf,.other⟩) .nil .nil) .nil))))) (.node none (.node (some ⟨32,32,.arr 32 1 (List.replicate 32 (.int .u8 0)),.arr 32 5⟩) (.node (some ⟨1,24,.nils,.slice 59⟩) (.node none (.node none (.node (some ⟨1,8,.nilf,.other⟩) .nil .nil) (.node (some ⟨1,8,.nilf,.other⟩) .nil .nil)) (.node none .nil (.node (some ⟨1,8,.nilf,.other⟩) .nil .nil))) (.node none (.node none (.node (some ⟨1,8,.nilf,.other⟩) .nil .nil) (.node (some ⟨35,88,.agg 35 [.agg 2 [.nils,.int .i64 0],.arr 32 1 (List.replicate 32 (.int .u8 0)),.nils],.struct [(28,0),(23,2),(86,34)]⟩) .nil .nil)) (.node none (.node (some ⟨1,24,.agg 1 [.agg 1 [.nils]],.struct [(131,0)]⟩) .nil .nil) .nil))) (.node none (.node (some ⟨1,24,.nils,.slice 51⟩) (.node (some ⟨1,8,.nilf,.other⟩) (.node (some ⟨1,8,.nilf,.other⟩) .nil .nil) (.node (some ⟨1,8,.nilf,.other⟩) .nil .nil)) (.node (some ⟨1,8,.nilf,.other⟩) .nil .nil)) (.node none (.node none (.node (some ⟨1,8,.nilf,.other⟩) .nil .nil) .nil) (.node (some ⟨1,8,.nilp,.ptr⟩) .nil .nil)))) (.node none (.node (some ⟨1,8,.int .i64 0,.int .i64⟩) (.node (some ⟨134,176,.agg 134 [.int .u8 0,.agg 99 [.arr 32 1 (List.replicate 32 (.int .u8 0)),.arr 32 1 (List.replicate 32 (.int .u8 0)),.int .u64 0,.int .u64 0,.int .u64 0,.arr 32 1 (List.replicate 32 (.int .u8 0))],.arr 32 1 (List.replicate 32 (.int .u8 0)),.int .i64 0,.int .i64 0],.struct [(5,0),(72,1),(23,100),(3,132),(3,133)]⟩) .nil .nil) (.node none .nil (.node (some ⟨3,24,.agg 3 [.nilf,.nilf,.int .i64 0],.struct [(237,0),(235,1),(3,2)]⟩) (.node (some ⟨1,8,.nilf,.other⟩) .nil .nil) .nil))) (.node none (.node none (.node (some ti158) .nil .nil) (.node none .nil (.node (some ⟨1,4,.int .i32 0,.int .i32⟩) .nil .nil))) (.node none (.node none (.node (some ⟨1,8,.nilf,.other⟩) .nil .nil) .nil) .nil))))))
noncomputable def fnT:Tr Func:=.node none (.node none (.node none (.node (some Tryz.f7) (.node none (.node (some Tryz.f31) (.node (some Tryz.f63) (.node (some Tryz.f127) (.node (some Tryz.f255) .nil .nil) .nil) (.node (some Tryz.f191) .nil .nil)) (.node (some Tryz.f95) (.node (some Tryz.f159) (.node (some Tryz.f287) .nil .nil) .nil) (.node (some Tryz.f223) .nil .nil))) (.node (some Tryz.f47) (.node (some Tryz.f79) (.node (some Tryz.f143) (.node (some Tryz.f271) .nil .nil) .nil) (.node (some Tryz.f207) .nil .nil)) (.node (some Tryz.f111) (.node (some Tryz.f175) .nil .nil) (.node (some Tryz.f239) .nil .nil)))) (.node (some Tryz.f23) (.node (some Tryz.f39) (.node (some Tryz.f71) (.node (some Tryz.f135) (.node (some Tryz.f263) .nil .nil) .nil) (.node (some Tryz.f199) .nil .nil)) (.node (some Tryz.f103) (.node (some Tryz.f167) (.node (some Tryz.f295) .nil .nil) .nil) (.node (some Tryz.f231) .nil .nil))) (.node none (.node (some Tryz.f87) (.node (some Tryz.f151) .nil .nil) (.node (some Tryz.f215) .nil .nil)) (.node (some Tryz.f119) (.node (some Tryz.f183) .nil .nil) (.node (some Tryz.f247) .nil .nil))))) (.node (some Tryz.f11) (.node (some Tryz.f19) (.node none (.node (some Tryz.f67) (.node (some Tryz.f131) (.node (some Tryz.f259) .nil .nil) .nil) (.node (some Tryz.f195) .nil .nil)) (.node (some Tryz.f99) (.node (some Tryz.f163) (.node (some Tryz.f291) .nil .nil) .nil) (.node (some Tryz.f227) .nil .nil))) (.node (some Tryz.f51) (.node (some Tryz.f83) (.node (some Tryz.f147) (.node (some Tryz.f275) .nil .nil) .nil) (.node (some Tryz.f211) .nil .nil)) (.node (some Tryz.f115) (.node (some Tryz.f179) .nil .nil) (.node (some Tryz.f243) .nil .nil)))) (.node (some Tryz.f27) (.node (some Tryz.f43) (.node (some Tryz.f75) (.node (some Tryz.f139) (.node (some Tryz.f267) .nil .nil) .nil) (.node (some Tryz.f203) .nil .nil)) (.node (some Tryz.f107) (.node (some Tryz.f171) .nil .nil) (.node (some Tryz.f235) .nil .nil))) (.node (some Tryz.f59) (.node (some Tryz.f91) (.node (some Tryz.f155) (.node (some Tryz.f283) .nil .nil) .nil) (.node (some Tryz.f219) .nil .nil)) (.node (some Tryz.f123) (.node (some Tryz.f187) .nil .nil) (.node (some Tryz.f251) .nil .nil)))))) (.node none (.node (some Tryz.f9) (.node (some Tryz.f17) (.node (some Tryz.f33) (.node (some Tryz.f65) (.node (some Tryz.f129) .nil .nil) (.node (some Tryz.f193) .nil .nil)) (.node (some Tryz.f97) (.node (some Tryz.f161) (.node (some Tryz.f289) .nil .nil) .nil) (.node (some Tryz.f225) .nil .nil))) (.node (some Tryz.f49) (.node (some Tryz.f81) (.node (some Tryz.f145) (.node (some Tryz.f273) .nil .nil) .nil) (.node (some Tryz.f209) .nil .nil)) (.node (some Tryz.f113) (.node (some Tryz.f177) .nil .nil) (.node (some Tryz.f241) .nil .nil)))) (.node (some Tryz.f25) (.node (some Tryz.f41) (.node (some Tryz.f73) (.node (some Tryz.f137) (.node (some Tryz.f265) .nil .nil) .nil) (.node (some Tryz.f201) .nil .nil)) (.node (some Tryz.f105) (.node (some Tryz.f169) .nil .nil) (.node (some Tryz.f233) .nil .nil))) (.node (some Tryz.f57) (.node (some Tryz.f89) (.node (some Tryz.f153) (.node (some Tryz.f281) .nil .nil) .nil) (.node (some Tryz.f217) .nil .nil)) (.node (some Tryz.f121) (.node (some Tryz.f185) .nil .nil) (.node (some Tryz.f249) .nil .nil))))) (.node (some Tryz.f13) (.node (some Tryz.f21) (.node (some Tryz.f37) (.node (some Tryz.f69) (.node (some Tryz.f133) (.node (some Tryz.f261) .nil .nil) .nil) (.node (some Tryz.f197) .nil .nil)) (.node (some Tryz.f101) (.node (some Tryz.f165) (.node (some Tryz.f293) .nil .nil) .nil) (.node (some Tryz.f229) .nil .nil))) (.node (some Tryz.f53) (.node (some Tryz.f85) (.node (some Tryz.f149) (.node (some Tryz.f277) .nil .nil) .nil) (.node (some Tryz.f213) .nil .nil)) (.node (some Tryz.f117) (.node (some Tryz.f181) .nil .nil) (.node (some Tryz.f245) .nil .nil)))) (.node (some Tryz.f29) (.node (some Tryz.f45) (.node (some Tryz.f77) (.node (some Tryz.f141) (.node (some Tryz.f269) .nil .nil) .nil) (.node (some Tryz.f205) .nil .nil)) (.node (some Tryz.f109) (.node (some Tryz.f173) .nil .nil) (.node (some Tryz.f237) .nil .nil))) (.node (some Tryz.f61) (.node (some Tryz.f93) (.node (some Tryz.f157) (.node (some Tryz.f285) .nil .nil) .nil) (.node (some Tryz.f221) .nil .nil)) (.node (some Tryz.f125) (.node (some Tryz.f189) .nil .nil) (.node (some Tryz.f253) .nil .nil))))))) (.node none (.node (some Tryz.f4) (.node (some Tryz.f8) (.node none (.node (some Tryz.f32) (.node (some Tryz.f64) (.node (some Tryz.f128) (.node (some Tryz.f256) .nil .nil) .nil) (.node (some Tryz.f192) .nil .nil)) (.node (some Tryz.f96) (.node (some Tryz.f160) (.node (some Tryz.f288) .nil .nil) .nil) (.node (some Tryz.f224) .nil .nil))) (.node (some Tryz.f48) (.node (some Tryz.f80) (.node (some Tryz.f144) (.node (some Tryz.f272) .nil .nil) .nil) (.node (some Tryz.f208) .nil .nil)) (.node (some Tryz.f112) (.node (some Tryz.f176) .nil .nil) (.node (some Tryz.f240) .nil .nil)))) (.node (some Tryz.f24) (.node (some Tryz.f40) (.node (some Tryz.f72) (.node (some Tryz.f136) (.node (some Tryz.f264) .nil .nil) .nil) (.node (some Tryz.f200) .nil .nil)) (.node (some Tryz.f104) (.node (some Tryz.f168) (.node (some Tryz.f296) .nil .nil) .nil) .nil)) (.node none (.node (some Tryz.f88) (.node (some Tryz.f152) (.node (some Tryz.f280) .nil .nil) .nil) (.node (some Tryz.f216) .nil .nil)) (.node (some Tryz.f120) (.node (some Tryz.f184) .nil .nil) (.node (some Tryz.f248) .nil .nil))))) (.node none (.node (some Tryz.f20) (.node (some Tryz.f36) (.node (some Tryz.f68) (.node (some Tryz.f132) .nil .nil) (.node (some Tryz.f196) .nil .nil)) (.node (some Tryz.f100) (.node (some Tryz.f164) (.node (some Tryz.f292) .nil .nil) .nil) (.node (some Tryz.f228) .nil .nil))) (.node (some Tryz.f52) (.node (some Tryz.f84) (.node (some Tryz.f148) (.node (some Tryz.f276) .nil .nil) .nil) (.node (some Tryz.f212) .nil .nil)) (.node (some Tryz.f116) (.node (some Tryz.f180) .nil .nil) (.node (some Tryz.f244) .nil .nil)))) (.node (some Tryz.f28) (.node (some Tryz.f44) (.node (some Tryz.f76) (.node (some Tryz.f140) (.node (some Tryz.f268) .nil .nil) .nil) (.node (some Tryz.f204) .nil .nil)) (.node (some Tryz.f108) (.node (some Tryz.f172) .nil .nil) (.node (some Tryz.f236) .nil .nil))) (.node (some Tryz.f60) (.node (some Tryz.f92) (.node (some Tryz.f156) (.node (some Tryz.f284) .nil .nil) .nil) (.node (some Tryz.f220) .nil .nil)) (.node (some Tryz.f124) (.node (some Tryz.f188) .nil .nil) (.node (some Tryz.f252) .nil .nil)))))) (.node (some Tryz.f6) (.node (some Tryz.f10) (.node (some Tryz.f18) (.node (some Tryz.f34) (.node (some Tryz.f66) (.node (some Tryz.f130) (.node (some Tryz.f258) .nil .nil) .nil) (.node (some Tryz.f194) .nil .nil)) (.node (some Tryz.f98) (.node (some Tryz.f162) (.node (some Tryz.f290) .nil .nil) .nil) (.node (some Tryz.f226) .nil .nil))) (.node (some Tryz.f50) (.node (some Tryz.f82) (.node (some Tryz.f146) (.node (some Tryz.f274) .nil .nil) .nil) (.node (some Tryz.f210) .nil .nil)) (.node (some Tryz.f114) (.node (some Tryz.f178) .nil .nil) (.node (some Tryz.f242) .nil .nil)))) (.node (some Tryz.f26) (.node (some Tryz.f42) (.node (some Tryz.f74) (.node (some Tryz.f138) (.node (some Tryz.f266) .nil .nil) .nil) (.node (some Tryz.f202) .nil .nil)) (.node (some Tryz.f106) (.node (some Tryz.f170) .nil .nil) (.node (some Tryz.f234) .nil .nil))) (.node (some Tryz.f58) (.node (some Tryz.f90) (.node (some Tryz.f154) (.node (some Tryz.f282) .nil .nil) .nil) (.node (some Tryz.f218) .nil .nil)) (.node (some Tryz.f122) (.node (some Tryz.f186) .nil .nil) (.node (some Tryz.f250) .nil .nil))))) (.node (some Tryz.f14) (.node (some Tryz.f22) (.node (some Tryz.f38) (.node (some Tryz.f70) (.node (some Tryz.f134) (.node (some Tryz.f262) .nil .nil) .nil) (.node (some Tryz.f198) .nil .nil)) (.node (some Tryz.f102) (.node (some Tryz.f166) (.node (some Tryz.f294) .nil .nil) .nil) (.node (some Tryz.f230) .nil .nil))) (.node (some Tryz.f54) (.node (some Tryz.f86) (.node (some Tryz.f150) (.node (some Tryz.f278) .nil .nil) .nil) (.node (some Tryz.f214) .nil .nil)) (.node (some Tryz.f118) (.node (some Tryz.f182) .nil .nil) (.node (some Tryz.f246) .nil .nil)))) (.node (some Tryz.f30) (.node (some Tryz.f46) (.node (some Tryz.f78) (.node (some Tryz.f142) (.node (some Tryz.f270) .nil .nil) .nil) (.node (some Tryz.f206) .nil .nil)) (.node (some Tryz.f110) (.node (some Tryz.f174) .nil .nil) (.node (some Tryz.f238) .nil .nil))) (.node (some Tryz.f62) (.node (some Tryz.f94) (.node (some Tryz.f158) (.node (some Tryz.f286) .nil .nil) .nil) (.node (some Tryz.f222) .nil .nil)) (.node (some Tryz.f126) (.node (some Tryz.f190) .nil .nil) (.node (some Tryz.f254) .nil .nil)))))))
noncomputable def extT:Tr (List V->Option V):=.node none (.node none (.node none (.node none .nil (.node none .nil (.node none (.node none (.node none (.node (some eMq) .nil .nil) .nil) .nil) .nil))) .nil) .nil) (.node none (.node none (.node none .nil (.node none (.node none .nil (.node none .nil (.node (some noV) .nil .nil))) .nil)) .nil) .nil)
noncomputable def mpT:Tr (TypeId×TypeId):=.nil
noncomputable def uxT:Tr UX:=.nil
noncomputable def mtT:Tr (List (String×FuncId)):=.nil
noncomputable def sbq:Cfg:=⟨λt=>tyT.get t,λf=>fnT.get f,λf=>extT.get f,λg=>Nat.ble (g+1) 3,λ_=>none,λt=>mpT.get t,λt m=>Alq mtT t m,λk=>uxT.get k⟩
noncomputable def fEq(k:List V->Heap->Option (V×Heap)):Cfg:=⟨λt=>tyT.get t,λf=>fnT.get f,λf=>extT.get f,λg=>Nat.ble (g+1) 3,λf=>match Nat.beq f 198 with|true=>some JTq|false=>match Nat.beq f 240 with|true=>some (dfq 133 33)|false=>match Nat.beq f 159 with|true=>some (dfq 175 4)|false=>match Nat.beq f 241 with|true=>some (aFq sbq 129 133 33 56)|false=>match Nat.beq f 237 with|true=>some (aFq sbq 35 72 99 120)|false=>match Nat.beq f 6 with|true=>some k|false=>none,λt=>mpT.get t,λt m=>Alq mtT t m,λk=>uxT.get k⟩
def kA:List Nat:=[1116352408,1899447441,3049323471,3921009573,961987163,1508970993,2453635748,2870763221,3624381080,310598401,607225278,1426881987,1925078388,2162078206,2614888103,3248222580,3835390401,4022224774,264347078,604807628,770255983,1249150122,1555081692,1996064986,2554220882,2821834349,2952996808,3210313671,3336571891,3584528711,113926993,338241895,666307205,773529912,1294757372,1396182291,1695183700,1986661051,2177026350,2456956037,2730485921,2820302411,3259730800,3345764771,3516065817,3600352804,4094571909,275423344,430227734,506948616,659060556,883997877,958139571,1322822218,1537002063,1747873779,1955562222,2024104815,2227730452,2361852424,2428436474,2756734187,3204031479,3329325298]
noncomputable def hsq:List V->Heap->Option (V×Heap):=λ_ _=>none
noncomputable def cfg:Cfg:=fEq (ptq (brq 1 kA))
end Go.Proofs.YtpjfmknefefapaaGreatDoor

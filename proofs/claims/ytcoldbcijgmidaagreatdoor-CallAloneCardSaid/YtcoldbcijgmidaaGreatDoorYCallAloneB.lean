/- CallAlone's ground, part 2. No condition. -/
import Derived.Lib.Bytealg
import Derived.LoopNIn
import Derived.Laws.Externs
import Derived.Shelf.Abstract
import Derived.MakeChecks
import Derived.OpenShut
import Derived.FnData
import Derived.KernelRfl
import Derived.Test.YtcoldbcijgmidaaGreatDoorYCallAloneA
set_option linter.unusedSimpArgs false
set_option linter.unusedVariables false
namespace Go.Proofs.YtcoldbcijgmidaaGreatDoor
noncomputable section
section
open Go.RowKit
section
variable {P:Program} {C:Cfg} {s0:World} {U:Nat} {D:Nat->Prop} {ρ:Env} {fr:Tr V} {a:Act} {w:World} {h:Heap}
theorem fnq(r:Rel s0 U D ρ h w){ts tx ty e H:TypeId}{p:TypeInfo}{b G B q F:Nat}{E:Option Nat}{v Z:V}{f:List V}{x:Value}(hu:P.underlying ts=some (.slice e))(hi:P.info? e=some p)(hsz:p.size=F)
  (hin:InD (DD D ρ) (.sl b G B q F E)) (hg:h.get b=some (.cells H v)) (hn:f≠[]) (hle:B+(q+f.length)*F<=v.size) (J:∀c,E=some c->q+f.length<=c) (hp:mbq v (B+q*F) F f=some Z)
  (hs:Src P F tx x f.length (zpq ρ F f) w) (hni:InDL (DD D ρ) f):
  ∃w',(Builtin.append_ #[ts,tx] ty #[abq ρ (.sl b G B q F E),x]).run P w= .ok (abq ρ (.sl b G B (q+f.length) F E)) w'/\Rel s0 U D ρ (h.put b (.cells H Z)) w'/\Nxt D ρ h w D ρ (h.put b (.cells H Z)) w'/\InD (DD D ρ) (.sl b G B (q+f.length) F E):=by
 subst hsz
 have hn0:0<f.length:=by cases f with
  |nil=>exact absurd rfl hn
  |cons _ _=>simp
 obtain⟨I,hlen,Y,N⟩:=hin;obtain⟨k1,k2,k3,k4,k5,k6,k7⟩:=v6q (ρ:=ρ) f v _ Z hp;rw[Zg hn] at k3;have Q:InD (DD D ρ) v:=r.clo b _ Y hg;obtain⟨o,h1,O,K,rfl,h2,h3⟩:=r.has b _ Y hg
 have X:q+f.length<=ydq ρ b B p.size E:=by
  cases E with
  |some c=>exact J c rfl
  |none=>simp only[ydq];rw[Nat.le_div_iff_mul_le I];omega
 have hc0:¬ydq ρ b B p.size E=0:=by omega
 have hmul:(q+f.length)*p.size=q*p.size+f.length*p.size:=ZQ _ _ _;have hnl:(zpq ρ p.size f).length=f.length*p.size:=zEq _ _ _
 have R:ρ.pre b+B+q*p.size+(zpq ρ p.size f).length<=(O++(cellsV ρ v++K)).toArray.size:=by
  simp only[ZU,Zh,yHq];omega
 have M:∀j,j<(zpq ρ p.size f).length->(w.cell? ⟨ρ.b b,ρ.pre b+B+q*p.size+j,none⟩).isSome=true:=λj hj=>by
  grind[World.cell?]
 have W:∀j,j<(zpq ρ p.size f).length->w.frozen? ⟨ρ.b b,ρ.pre b+B+q*p.size+j,none⟩=false:=λj _=>by simp[World.frozen?,h1]
 have key:=run_append_room_src w ts tx ty e p hu hi (ρ.b b) (ρ.pre b+B) q (ydq ρ b B p.size E) x f.length (zpq ρ p.size f) hs X M W;have ht:=ykq (zpq ρ p.size f) (ρ.pre b+B+q*p.size) w (ρ.b b) _ H h1 R;obtain⟨T,L,g1,g2,g3⟩:=v4q r Y hg k1 k3 (by rw[hnl];omega) (k6 _ Q hni);rw[h1] at g1
 have hcs:(O++(cellsV ρ v++K)).toArray=(T++(cellsV ρ v++L)).toArray:=by
  simp only[Zm,Obj.cells.injEq] at g1;exact g1.1
 rw[hcs,ZM] at ht;obtain⟨r',n'⟩:=g3 _ ht;refine⟨_,?_,r',n',I,?_,Y,?_⟩
 .grind[abq,ysq]
 .cases E with
  |some c=>exact J c rfl
  |none=>exact Zb _
 .cases E with
  |some c=>exact N
  |none=>simp only[YU];omega
theorem tSq(hC:CfgOK P C)(r:Rel s0 U D ρ h w)(hU:h.next+1<=U){ts tx ty e:TypeId}{k:TyI}{b G E B:Nat}{v:V}{F q:List V}{x:Value}(hu:P.underlying ts=some (.slice e))(hk:C.ty e=some k)(hk0:0<k.size)(hso:rUq e=false)
  (N:InD (DD D ρ) (.sl b G E B k.size none)) (hg:h.get b=some (.cells e v)) (hn:q≠[]) (ho:j2q 50 v E B k.size=some F)
  (hs:Src P k.size tx x q.length (zpq ρ k.size q) w) (hb:(B+q.length)*k.bytes<=140737488355328) (hm:B+q.length<=70368744177664) (hni:InDL (DD D ρ) q):
  ∃M D' J w',(Builtin.append_ #[ts,tx] ty #[abq ρ (.sl b G E B k.size none),x]).run P w= .ok M w'/\M=abq J (.sl h.next 0 0 (B+q.length) k.size none)/\
   Rel s0 U D' J ((h.push (.cells e (.arr ((B+q.length)*k.size) k.size (F++q)))).kill b) w'/\Nxt D ρ h w D' J ((h.push (.cells e (.arr ((B+q.length)*k.size) k.size (F++q)))).kill b) w'/\InD (DD D' J) (.sl h.next 0 0 (B+q.length) k.size none):=by
 have hn0:0<q.length:=by cases q with
  |nil=>exact absurd rfl hn
  |cons _ _=>simp
 obtain⟨g1,g2,g3,g4⟩:=y3q (ρ:=ρ) 50 v E B k.size F ho;have T:InD (DD D ρ) v:=r.clo b _ N.2.2.1 hg;have hoi:=g4 _ T;obtain⟨I,W,hD,H⟩:=N;have N:InD (DD D ρ) (.sl b G E B k.size none):=⟨I,W,hD,H⟩;have R:h.val b=some v:=by simp[Heap.val,hg]
 by_cases K:B+q.length<=ydq ρ b E k.size none
 ·--in place
  obtain⟨z,hi,hsz,_⟩:=(hC.ty e k hk).info;rw[<-hsz] at hs ho g2 g3 H I K⊢;obtain⟨o,h1,pre,Z,rfl,h2,h3⟩:=r.has b _ hD hg;have hc0:¬ydq ρ b E z.size none=0:=by omega
  have hmul:(B+q.length)*z.size=B*z.size+q.length*z.size:=ZQ _ _ _;have hnl:(zpq ρ z.size q).length=q.length*z.size:=zEq _ _ _;have hol:(zpq ρ z.size F).length=B*z.size:=by rw[zEq,g1]
  have hfit:E+(B+q.length)*z.size<=ρ.cap b:=by
   have h4:=K;simp only[ydq] at h4;rw[Nat.le_div_iff_mul_le I] at h4;simp only[YU] at H;omega
  obtain⟨L,hL⟩:∃L,L=pre++(cellsV ρ v++Z):=⟨_,rfl⟩
  rw[<-hL] at h1;have hLl:L.length=ρ.pre b+ρ.cap b:=by rw[hL];simp only[Zh,yHq];omega
  have X:ρ.pre b+E+B*z.size+(zpq ρ z.size q).length<=L.toArray.size:=by
   simp only[ZU];omega
  have O:∀j,j<(zpq ρ z.size q).length->(w.cell? ⟨ρ.b b,ρ.pre b+E+B*z.size+j,none⟩).isSome=true:=λj hj=>by
   grind[World.cell?]
  have hfrz:∀j,j<(zpq ρ z.size q).length->w.frozen? ⟨ρ.b b,ρ.pre b+E+B*z.size+j,none⟩=false:=λj _=>by simp[World.frozen?,h1]
  have key:=run_append_room_src w ts tx ty e z hu hi (ρ.b b) (ρ.pre b+E) B (ydq ρ b E z.size none) x q.length (zpq ρ z.size q) hs K O hfrz;have ht:=ykq (zpq ρ z.size q) (ρ.pre b+E+B*z.size) w (ρ.b b) _ e h1 X
  have hO:(L.drop (ρ.pre b+E)).take (B*z.size)=zpq ρ z.size F:=by
   rw[hL,<-h2,YQ,Z9 Xn,Z5 Xn,g3]
  have hv:InD (DD D ρ) (.arr ((B+q.length)*z.size) z.size (F++q)):=InDL_iff.2 λy hy=>by
   grind[InDL_iff]
  have hne:=r.next_new hU;have hag:Env.Agree (DD D ρ) ρ (ρ.add h.next (ρ.b b) (ρ.pre b+E) (ρ.cap b-E)):=Env.add_agree hne
  have hcells:cellsV (ρ.add h.next (ρ.b b) (ρ.pre b+E) (ρ.cap b-E)) (.arr ((B+q.length)*z.size) z.size (F++q))=zpq ρ z.size F++zpq ρ z.size q:=by
   rw[yZq hag hv];simp only[cellsV];rw[y2q (by rw[zEq];simp[g1]),jkq]
  have hkn:KnB (ρ.add h.next (ρ.b b) (ρ.pre b+E) (ρ.cap b-E)) h.next (.cells e (.arr ((B+q.length)*z.size) z.size (F++q))) (.cells (q5q L.toArray (ρ.pre b+E+B*z.size) (zpq ρ z.size q).toArray) e):=by
   refine⟨L.take (ρ.pre b+E),L.drop (ρ.pre b+E+B*z.size+(zpq ρ z.size q).length),?_,?_,?_⟩
   .simp_all[q5q,List.take_add]
   .simp[Env.add];omega
   .refine⟨?_,λhq=>by rw[hso] at hq;cases hq⟩;show(B+q.length)*z.size+_=_;simp only[Env.add,if_true,Zy];omega
  obtain⟨r',n'⟩:=r.move hU (B':=.cells e (.arr ((B+q.length)*z.size) z.size (F++q))) hD hg Y Y ht hv hkn;refine⟨.slice (some ⟨ρ.b b,ρ.pre b+E,none⟩) (B+q.length) (ydq ρ b E z.size none),_,_,_,?_,?_,r',n',I,Zb _,.inr rfl,?_⟩
  .grind[abq,ysq]
  .simp_all[ydq,Env.add,abq,ysq]
  .simp only[Env.add,if_true,YU];omega
 ·--a new row
  have Q:(Builtin.firstCells k.size B (abq ρ (.sl b G E B k.size none))).run P w.drew= .ok (zpq ρ k.size F).toArray w.drew:=by
   simp only[abq,ysq]
   exact run_firstCells_some w.drew k.size B _ B _ _ (by rw[zEq,g1]) λj u hj=>by
    have:=jVq r N R ho j u hj;simpa using this
  obtain⟨M,D',J,w',q1,q2,q3,q4,q5⟩:=Xoq (ty:=ty) hC r hU hu hk hk0 (base:=some (if ydq ρ b E k.size none=0 then ZIq ρ b G else⟨ρ.b b,ρ.pre b+E,none⟩)) (cap:=ydq ρ b E k.size none) Q g1 hs Xd hb hm hoi hni;obtain⟨k1,k2⟩:=q3.kill b;exact⟨M,D',J,w',q1,q2,k1,q4.trans r.lt (by exact hU) k2,q5⟩
theorem Jjq(Y:CfgOK P C)(r:Rel s0 U D ρ h w){ts tx ty:TypeId}{s x v:V}{Z:Heap}(R:InD (DD D ρ) s)(hx:InD (DD D ρ) x)(q:kVq C h ts tx s x=some (v,Z))(hU:Z.next<=U):
  ∃X D' H w',(Builtin.append_ #[ts,tx] ty #[abq ρ s,abq ρ x]).run P w= .ok X w'/\X=abq H v/\Rel s0 U D' H Z w'/\Nxt D ρ h w D' H Z w'/\InD (DD D' H) v:=by
 unfold kVq at q;split at q
 .cases q
 rename_i j hj;split at q
 case h_2=>cases q
 rename_i e he;have hd:=(Y.ty ts j hj).d;rw[he] at hd;have Q:P.underlying ts=some (.slice e):=hd;split at q
 .cases q
 rename_i k hk;split at q
 .cases q
 rename_i hz
 have T:0<k.size:=by
  rcases YS k.size with h0|h0
  .simp_all
  .exact h0
 split at q
 .cases q
 rename_i news W;obtain⟨z,I⟩:=Qgq Y r hx W;obtain⟨inf,hi,hsz,hby,_⟩:=(Y.ty e k hk).info;split at q
 ·--onto nothing
  split at q
  .cases q;refine⟨_,D,ρ,w,?_,rfl,r,Nxt.refl _ _ _ _,trivial⟩;rcases z.kind with ⟨e',J⟩|J<;>simp[abq,Builtin.append_,Zz Q,Zz J,sizeOf,typeInfo,hi,z.len]<;>(have:=z.cells;simp_all)
  .rename_i y ys;split at q
   .rename_i K;simp only[Zd] at K;have L:=Yb K.1;have N:=Yb K.2;cases q;obtain⟨X,D',H,w',q1,q2,q3,q4,q5⟩:=Xoq (ty:=ty) Y r hU Q hk T (base:=none) (cap:=0) (len:=0) (olds:=[]) (news:=y::ys) (run_firstCells_none _ _ _ _ _) rfl z Xi (by simpa using L) (by simpa using N) trivial I;grind[abq]
   .cases q
 ·-- onto a slice
  rename_i b O off F esz lim;split at q
  .cases q
  ·--nothing more
   rename_i M;rw[ZH] at M;cases q;refine⟨_,D,ρ,w,?_,rfl,r,Nxt.refl _ _ _ _,R⟩;have K:=jWq R;rcases z.kind with ⟨e',J⟩|J<;>simp[abq,ysq,Builtin.append_,Zz Q,Zz J,sizeOf,typeInfo,hi,z.len,K]<;>(have:=z.cells;simp_all[zpq,storeCells])
  .rename_i y ys M;rw[ZH] at M;subst M;split at q
   .cases q
   rename_i K;simp only[Zd] at K;have L:=Yb K.1;have N:=Yb K.2;split at q
   ·-- a limit is known
    rename_i c;split at q
    .rename_i B;have B:=Yb B;split at q
     .rename_i bty bv hg;split at q
      .rename_i E;have E:=Yb E;split at q
       .rename_i v' hp;cases q;obtain⟨w',q1,q2,q3,q4⟩:=fnq (ty:=ty) r Q hi hsz R hg Xi E (λc' S=>by cases S;exact B) hp z I;grind
       .cases q
      .cases q
     .cases q
    .rename_i B;have B:¬F+(y::ys).length<=c:=λZ=>by rw[Zn Z] at B;cases B
     split at q
     .rename_i bv hv;split at q
      .rename_i G ho;cases q;obtain⟨g1,g2,g3,g4⟩:=y3q (ρ:=ρ) 50 bv off F k.size G ho;obtain⟨_,_,_,_,_,_,_,hvin⟩:=r.val R.2.2.1 hv
       have hold:(Builtin.firstCells k.size F (abq ρ (.sl b O off F k.size (some c)))).run P w.drew= .ok (zpq ρ k.size G).toArray w.drew:=by
        simp only[abq,ysq]
        exact run_firstCells_some w.drew k.size F _ F _ _ (by rw[zEq,g1]) λj u hj=>by
         have:=jVq r R hv ho j u hj;simpa using this
       exact Xoq (ty:=ty) Y r hU Q hk T hold g1 z (by simp only[ydq];omega) L N (g4 _ hvin) I
      .cases q
     .cases q
   .split at q
    .rename_i bty bv hg;split at q
     .rename_i E;have E:=Yb E;split at q
      .rename_i v' hp;cases q;obtain⟨w',q1,q2,q3,q4⟩:=fnq (ty:=ty) r Q hi hsz R hg Xi E (λc' S=>by cases S) hp z I;grind
      .cases q
     .split at q
      .rename_i G hty ho;obtain⟨rfl,hso⟩:=mtq hty;cases q;exact tSq (ty:=ty) Y r hU Q hk T hso R hg Xi ho z L N I
      .cases q
    .cases q
 .cases q
theorem haq(F:CfgOK P C)(r:Rel s0 U D ρ h w){v:TypeId}{l:Nat}{x:V}{f:List V}(B:InD (DD D ρ) x)(b:giq C h v l x=some f){m:Nat}(q:m<=f.length):
  (Builtin.firstCells l m (abq ρ x)).run P w= .ok (zpq ρ l (f.take m)).toArray w:=by
 unfold giq at b;split at b
 .cases b
 .rename_i j E;split at b
  .cases b;obtain rfl:m=0:=by simpa using q
   exact run_firstCells_none _ _ _ _ _
  .grind[ZH,abq,ysq,run_firstCells_some,zEq,kAq,jVq]
  .rename_i s G;split at b
   .rename_i p;rw[ZH] at p;subst p;cases b;have z:=kSq ρ (s.take m);grind[qpq,List.map_take,abq,Builtin.firstCells,YD,Qeq]
   .cases b
  .cases b
theorem f6q(hC:CfgOK P C)(r:Rel s0 U D ρ h w){ts tx ty:TypeId}{s x v:V}{h':Heap}(hs:InD (DD D ρ) s)(hx:InD (DD D ρ) x)(ha:f7q C h ts tx s x=some (v,h')):
  ∃w',(Builtin.copy_ #[ts,tx] ty #[abq ρ s,abq ρ x]).run P w= .ok (abq ρ v) w'/\Rel s0 U D ρ h' w'/\Nxt D ρ h w D ρ h' w'/\InD (DD D ρ) v:=by
 unfold f7q at ha;split at ha
 .cases ha
 rename_i j hj;split at ha
 case h_2=>cases ha
 rename_i e he;have hd:=(hC.ty ts j hj).d;rw[he] at hd;have hu:P.underlying ts=some (.slice e):=hd;split at ha
 .cases ha
 rename_i k hk;split at ha
 .cases ha
 rename_i all hall;obtain⟨hsrc,hni⟩:=Qgq hC r hx hall;obtain⟨inf,hi,hsz,hby,_⟩:=(hC.ty e k hk).info;have hfirst:∀m,m<=all.length->(Builtin.firstCells inf.size m (abq ρ x)).run P w= .ok (zpq ρ k.size (all.take m)).toArray w:=λm hm=>by rw[hsz];exact haq hC r hx hall hm
 have hmin:∀n,Nat.min all.length n<=all.length:=λn=>Nat.min_le_left _ _
 split at ha
 .cases ha;refine⟨w,?_,r,Nxt.refl _ _ _ _,trivial⟩;have:=hfirst 0 (Zf _);simp[abq,Builtin.copy_,Zz hu,sizeOf,typeInfo,hi,hsrc.len,this,goInt]
 .rename_i b base off len esz lim;have hc:=jWq hs;split at ha
  .rename_i hes htk;cases ha;refine⟨w,?_,r,Nxt.refl _ _ _ _,trivial⟩
   have h0:Nat.min all.length len=0:=by
    have:=Zc List.length htk;simp only[Zu,ZP] at this;show min all.length len=0;omega
   have:=hfirst 0 (Zf _);simp only[List.take_zero,zpq] at this;simp[abq,ysq,Builtin.copy_,Zz hu,sizeOf,typeInfo,hi,hsrc.len,h0,this,goInt,storeCells]
  .rename_i y ys hes htk;rw[ZH] at hes;subst hes;split at ha
   .rename_i bty bv hg;split at ha
    .rename_i hle;have hle:=Yb hle;split at ha
     .rename_i v' hp;cases ha
      have hnl:Nat.min all.length len=(y::ys).length:=by
       have:=Zc List.length htk;simp only[Zu] at this;show min all.length len=_;omega
      obtain⟨hpos,hlen,hD,hroom⟩:=hs;obtain⟨k1,k2,k3,k4,k5,k6,k7⟩:=v6q (ρ:=ρ) (y::ys) bv _ v' hp;rw[Zg Xi] at k3;have hvin:InD (DD D ρ) bv:=r.clo b _ hD hg;obtain⟨o,h1,pre,tail,rfl,h2,h3⟩:=r.has b _ hD hg
      have hc0:¬ydq ρ b off k.size lim=0:=by
       have:(y::ys).length<=len:=by rw[<-hnl];exact Nat.min_le_right _ _
       simp only[Zo] at this;omega
      have hlen':(y::ys).length=ys.length+1:=rfl;have hcl:(zpq ρ k.size (y::ys)).length=(y::ys).length*k.size:=zEq _ _ _
      have hin2:ρ.pre b+off+(zpq ρ k.size (y::ys)).length<=(pre++(cellsV ρ bv++tail)).toArray.size:=by
       simp only[ZU,Zh,yHq];rw[hcl,hlen'];omega
      have hcell:∀j,j<(zpq ρ k.size (y::ys)).length->(w.cell? ⟨ρ.b b,ρ.pre b+off+0+j,none⟩).isSome=true:=λj hj=>by
       simp only[World.cell?,h1];have:ρ.pre b+off+0+j<(pre++(cellsV ρ bv++tail)).toArray.size:=by omega
       simp only[Option.isSome_none,Bool.false_eq_true,if_false];rw[ZI this];rfl
      have hfrz:∀j,j<(zpq ρ k.size (y::ys)).length->w.frozen? ⟨ρ.b b,ρ.pre b+off+0+j,none⟩=false:=λj _=>by simp[World.frozen?,h1]
      have hst:=run_storeCells_cells (P:=P) (ρ.b b) (ρ.pre b+off) (zpq ρ k.size (y::ys)) 0 w hcell hfrz (qKq ρ k.size (y::ys));have ht:=ykq (zpq ρ k.size (y::ys)) (ρ.pre b+off) w (ρ.b b) _ bty h1 hin2;obtain⟨pre',tail',g1,g2,g3⟩:=v4q r hD hg k1 k3 (by rw[hcl,hlen'];exact hle) (k6 _ hvin (by rw[<-htk];exact InDL_iff.2 λz hz=>InDL_iff.1 hni z (ZJ hz)));rw[h1] at g1
      have hcs:(pre++(cellsV ρ bv++tail)).toArray=(pre'++(cellsV ρ bv++tail')).toArray:=by
       simp only[Zm,Obj.cells.injEq] at g1;exact g1.1
      rw[hcs] at ht;obtain⟨r',n'⟩:=g3 _ ht;refine⟨_,?_,r',n',trivial⟩;have hf:=hfirst (y::ys).length (by rw[<-hnl];exact Nat.min_le_left _ _)
      have htk2:all.take (y::ys).length=y::ys:=by
       rw[<-htk];simp only[Zu];rw[List.take_eq_take_iff];omega
      rw[htk2] at hf;simp only[Y5] at hst;simp only[abq,ysq,hc0,if_false];have hnl:Nat.min all.length len=ys.length+1:=hnl;have hf:(Builtin.firstCells inf.size (ys.length+1) (abq ρ x)).run P w= .ok (zpq ρ k.size (y::ys)).toArray w:=hf;simp[Builtin.copy_,Zz hu,sizeOf,typeInfo,hi,hsrc.len,hnl,hf,hst,goInt]
     .cases ha
    .cases ha
   .cases ha
  .cases ha
 .cases ha
theorem Kwq{P:Program}{w:World}{q:Nat}{cs:Array Value}{ty:TypeId}(h:w.heap[q]? =some (.cells cs ty (0,0))):
  ∃w',(∀off,(markStringish ⟨q,off,none⟩).run P w= .ok () w')/\Turned q (.cells cs ty (cs.size,cs.size+1)) w w':=by
 have hlt:=(Zs.1 h).1;refine⟨w.putObj q (.cells cs ty (cs.size,cs.size+1)),λoff=>?_,qAq _ hlt⟩;have hsh:w.shape? q=some (ty,cs.size):=by simp[World.shape?,h]
 have hfr:w.freeze ⟨q,cs.size,none⟩ 1=w.putObj q (.cells cs ty (cs.size,cs.size+1)):=by
  unfold World.freeze World.putObj;rw[Zg Xg];congr 1
  apply Array.ext_getElem?;intro j;rw[Array.getElem?_modify,YT];by_cases e:q=j
  .subst e
   have hq:w.heap[q]= .cells cs ty (0,0):=by
    have:=h;rw[ZI hlt] at this;exact ZA this
   simp[hlt,hq]
  .simp[e]
 simp[markStringish,hsh,hfr]
theorem x5q{e:TypeId}{d:TyD}(h:J5q C e=some d):∃k,C.ty e=some k/\k.d=d:=by
 grind[J5q]
theorem Yrq(ρ:Env):∀(l:List V) (r:List UInt8),bytesOf l=some r->r.length=l.length/\zpq ρ 1 l=r.map λb=>Value.int .u8 b.toNat
 |[],r,h=>by simp[bytesOf] at h;subst h;exact⟨rfl,rfl⟩
 |v::l,r,h=>by
  unfold bytesOf at h;split at h
  .rename_i e;cases e
  .rename_i c k e;simp only[YM] at e;obtain⟨rfl,rfl⟩:=e;split at h
   .rename_i p g j;cases h;obtain⟨d,f⟩:=Yrq ρ _ _ j;rw[YR] at g;refine⟨by simp[d],?_⟩;simp only[zpq,ZD,f];have:(UInt8.ofNat c).toNat=c:=by simp;omega
    rw[this];rfl
   .cases h
  .cases h
theorem Z9q(ρ:Env):∀(l:List V),(∀x∈l,x.isAgg=false) ->zpq ρ 1 l=l.map (j9q ρ)
 |[],_=>rfl
 |x::l,h=>by
  rw[zpq,Z9q ρ l λy b=>h y (ZS _ b),dJq (h x (ZV ..)),y2q (n:=1) (l:=[j9q ρ x]) rfl];rfl
theorem uCq(e:Nat):∀l:List V,(yaq e l).length=l.length*e
 |[]=>by simp[yaq]
 |v::l=>by simp[yaq,uCq e l,ZQ];omega
theorem Ysq(ρ:Env){l:List V}{r:List UInt8}(h:bytesOf (yaq 1 l)=some r):r.length=l.length/\zpq ρ 1 l=r.map λb=>Value.int .u8 b.toNat:=by
 obtain⟨d,c⟩:=Yrq ρ _ _ h;grind[uCq,Z9q,Zmq,kPq]
theorem idq(Q:CfgOK P C)(K:FrE C D ρ fr a)(r:Rel s0 U D ρ h w){o:Oper}{v:V}{h':Heap}(q:opH C fr h o.op=some (v,h'))(hU:h'.next<=U):∃x D' ρ' w',Did P C s0 U o a D ρ h w v h' x D' ρ' w':=by
 obtain⟨dst,op,ty,pos,aft,g⟩:=o;simp only at q;cases op<;>try (simp[opH,zzq,ywq,z8q,z9q,qwq,zkq,zsq,zNq,yzq,z4q] at q;done)
 case convert s t x=>
  simp only[opH,zzq,ywq,z8q,z9q,qwq,zkq,zsq,zNq,yzq,z4q] at q;split at q
  .rename_i js jt u hs ht hx;obtain⟨e1,i1⟩:=K.ev hx;split at q
   .rename_i e he ht2;have I:=(Q.ty s js hs).d;rw[he] at I;have I:P.underlying s=some (.slice e):=I;have J:=(Q.ty t jt ht).d;rw[ht2] at J;have J:P.underlying t=some .string:=J;split at q
    .rename_i hed;cases q;obtain⟨k,hk,hkd⟩:=x5q hed;have F:=(Q.ty e k hk).d;rw[hkd] at F;have F:P.underlying e=some (.int .u8):=F;refine⟨_,D,ρ,w,⟨.inl ?_,rfl,r,Nxt.refl _ _ _ _,trivial⟩⟩;have S:=run_convert_bytes_nil (P:=P) w s e I F 0 0 t J;simp[execOp,e1,abq,S];rfl
    .rename_i b M B n E H hed;split at q
     .rename_i bv hes hv;rw[ZH] at hes;subst hes;split at q
      .rename_i l hl;split at q
       .rename_i rr hr;cases q;obtain⟨k,hk,hkd⟩:=x5q hed;have F:=(Q.ty e k hk).d;rw[hkd] at F;have F:P.underlying e=some (.int .u8):=F;obtain⟨g1,g2⟩:=Ysq ρ hr;obtain⟨q1,_,_,_⟩:=y3q (ρ:=ρ) 50 bv B n 1 l hl;refine⟨_,D,ρ,w,⟨.inl ?_,rfl,r,Nxt.refl _ _ _ _,trivial⟩⟩;have N:=jVq r i1 hv hl;rw[g2] at N;have hn:n=rr.length:=by omega
        subst hn;have S:=run_convert_bytes_back (P:=P) w s t e (if ydq ρ b B 1 H=0 then ZIq ρ b M else⟨ρ.b b,ρ.pre b+B,none⟩) (ydq ρ b B 1 H) rr I F J (λj hj=>N j _ (by simp[hj]));simp only[execOp,e1,abq,ysq,ZN,S,ZE,YD]
       .cases q
      .cases q
     .cases q
    .cases q
   .rename_i e0 e b M B n E H hs2 ht2;have I:=(Q.ty s js hs).d;rw[hs2] at I;have I:P.underlying s=some (.slice e0):=I;have J:=(Q.ty t jt ht).d;rw[ht2] at J;have J:P.underlying t=some (.slice e):=J;split at q
    .rename_i bty bv hst hed hgb;split at q
     case h_2=>cases q
     rename_i hbase;have hbase:=Yb hbase;cases q;have hst:=Zi hst;subst hst
     obtain rfl:e0=e:=by
      have:=I.symm.trans J;simpa using this
     obtain⟨k,hk,hkd⟩:=x5q hed;have F:=(Q.ty e0 k hk).d;rw[hkd] at F;have F:P.underlying e0=some (.int .u8):=F;have hD:D b:=i1.2.2.1;obtain⟨o,X,pre,W,rfl,h2,h3⟩:=r.has b _ hD hgb;obtain⟨w',q1,q2⟩:=Kwq (P:=P) X;obtain⟨r',n'⟩:=r.putR (b':=.ro bv) hD hgb Y Y q2 ⟨pre,W,bty,_,rfl,h2,by omega⟩ (show InD (DD D ρ) bv from r.clo b _ hD hgb);refine⟨_,D,ρ,w',⟨.inl ?_,rfl,r',n',i1⟩⟩;have q3:=q1 (ρ.pre b+(if ydq ρ b B E H=0 then M else B))
     have hz:(if ydq ρ b B E H=0 then ZIq ρ b M else(⟨ρ.b b,ρ.pre b+B,none⟩:Addr))=⟨ρ.b b,ρ.pre b+(if ydq ρ b B E H=0 then M else B),none⟩:=by
      split
      .exact vQq Xd
      .rfl
     simp only[execOp,e1,abq,ysq,hz];simp[convert,Zz I,Zz F,q3]
    .cases q
   .rename_i e G hs2 ht2;have I:=(Q.ty s js hs).d;rw[hs2] at I;have I:P.underlying s=some .string:=I;have J:=(Q.ty t jt ht).d;rw[ht2] at J;have J:P.underlying t=some (.slice e):=J;split at q
    .rename_i hed;cases q;obtain⟨k,hk,hkd⟩:=x5q hed;have F:=(Q.ty e k hk).d;rw[hkd] at F;have F:P.underlying e=some (.int .u8):=F;have S:=run_bytes_of_string (P:=P) w s t e ⟨⟨G⟩⟩ I J F;have hge:=grownCap_ge w (⟨⟨G⟩⟩:ByteArray).size 0 e;rw[show(⟨⟨G⟩⟩:ByteArray).size=G.length from rfl] at S hge;generalize grownCap w G.length 0 e=gc at S hge
     have N:(bytesRow ⟨⟨G⟩⟩ gc).toList=cellsV ρ (.arr G.length 1 (qpq G))++List.replicate (gc-G.length) (Value.int .u8 0):=by
      simp only[cellsV];rw[y2q (by rw[zEq];simp[qpq]),kSq];simp[bytesRow];rfl
     have hag:Env.Agree (DD D ρ) ρ (ρ.add h.next w.heap.size 0 gc):=Env.add_agree (r.next_new hU);have R:InD (DD D ρ) (.arr G.length 1 (qpq G)):=InDL_iff.2 λy hy=>by obtain⟨c,_,rfl⟩:=Z2.1 hy;trivial
     obtain⟨r',n'⟩:=(r.drawn (w.drawn+1)).pushAny (w':=w.drew.alloc (.cells (bytesRow ⟨⟨G⟩⟩ gc) e ((bytesRow ⟨⟨G⟩⟩ gc).size,(bytesRow ⟨⟨G⟩⟩ gc).size+1))) (pre:=0) (cap:=gc) hU (jPq w.drew _) (heap_alloc_new w.drew _) (b:=.ro (.arr G.length 1 (qpq G))) R ⟨[],List.replicate (gc-G.length) (Value.int .u8 0),e,_,by
      rw[yZq hag R,YX,<-N],by simp[Env.add],by simp[Env.add];exact hge⟩
     obtain⟨s1,s2⟩:=bKq (D:=D) (ρ:=ρ) (w:=w) (h:=h) gc G.length 1 Xd hge (cap:=gc) Xd;refine⟨_,_,_,_,⟨.inl ?_,s1.symm,r',n'.undrew,s2⟩⟩;simp[execOp,e1,abq,S]
    .cases q
   .cases q
  .cases q
 case load t x=>
  simp only[opH,zzq,ywq,z8q,z9q,qwq,zkq,zsq,zNq,yzq,z4q] at q;split at q
  .rename_i b B i hx hi;split at q
   .rename_i bv hv;split at q
    .rename_i y hg;cases q;obtain⟨e,R⟩:=K.ev hx;obtain⟨k1,k2⟩:=JMq Q r hi R.1 hv hg;refine⟨_,D,ρ,w,⟨.inl ?_,rfl,r,Nxt.refl _ _ _ _,k2⟩⟩;simp[execOp,e,abq,Instr.loadAt,Instr.sureAddr,k1]
    .cases q
   .cases q
  .cases q
 case store t x y=>
  simp only[opH,zzq,ywq,z8q,z9q,qwq,zkq,zsq,zNq,yzq,z4q] at q;split at q
  .rename_i b B u i hx hy hi;split at q
   .rename_i bty bv hg hsz;rw[ZH] at hsz;split at q
    .rename_i v' hp;cases q;obtain⟨e,R⟩:=K.ev hx;obtain⟨e2,hin2⟩:=K.ev hy;obtain⟨w',k1,k2,k3⟩:=cNq Q r hi hsz R.1 hg hp hin2;refine⟨_,D,ρ,w',⟨.inr ⟨?_,rfl⟩,rfl,k2,k3,trivial⟩⟩;simp[execOp,e,e2,abq,Instr.storeAt,Instr.sureAddr,k1]
    .cases q
   .cases q
  .cases q
 case alloc t=>
  simp only[opH,zzq,ywq,z8q,z9q,qwq,zkq,zsq,zNq,yzq,z4q] at q;split at q
  .rename_i i hi;cases q;have ok:=Q.ty t i hi;have hz:=qqq (P:=P) (ok.zero ρ)
   have hzc:(abq ρ i.zero).cells=(cellsV ρ i.zero).toArray:=qJq (by
    cases ha:i.agg with
    |true=>exact .inr Qx
    |false=>exact .inl (ok.zleaf ha))
   obtain⟨r',n'⟩:=uuq (t:=t) (tail:=[]) r hU (ok.zin.mono λ_ _ h=>h.elim);simp only[ZT] at r' n';obtain⟨p1,p2⟩:=ijq (cap:=i.zero.size+[].length (α:=Value)) r;refine⟨_,_,_,_,⟨.inl ?_,p1.symm,r',n',p2⟩⟩;simp[execOp,Instr.alloc,hz,newVar,newRow,hzc]
  .cases q
 case box t x=>
  simp only[opH,zzq,ywq,z8q,z9q,qwq,zkq,zsq,zNq,yzq,z4q] at q;split at q
  .rename_i u hx;split at q
   .rename_i hl;simp only[Y4] at hl;cases q;obtain⟨e,R⟩:=K.ev hx;obtain⟨r',n'⟩:=uuq (t:=t) (tail:=[]) r hU R;simp only[ZT] at r' n';obtain⟨p1,p2⟩:=ijq (cap:=u.size+[].length (α:=Value)) r;refine⟨_,_,_,_,⟨.inl ?_,p1.symm,r',n',p2⟩⟩;simp[execOp,e,Instr.box,newVar,newRow,qJq hl]
   .cases q
  .cases q
 case buildSlice t n parts=>
  simp only[opH,zzq,ywq,z8q,z9q,qwq,zkq,zsq,zNq,yzq,z4q] at q;split at q
  .rename_i i hi;split at q
   .rename_i e he;have I:=(Q.ty t i hi).d;rw[he] at I;have I:P.underlying t=some (.slice e):=I;split at q
    .rename_i k hk;split at q
     .cases q
     .rename_i hc;simp only[Bool.or_eq_false_iff,Bool.not_eq_false'] at hc;have hle:=Yb hc.2
      have hk0:0<k.size:=by
       rcases YS k.size with Z|Z
       .rw[Jvq Z] at hc;cases hc.1
       .exact Z
      split at q
      .rename_i u hu;cases q;have ok:=Q.ty e k hk;have hzin:InD (DD D ρ) (maq n k.size k.zero):=InDL_iff.2 λy hy=>by rw[(List.mem_replicate.1 hy).2];exact ok.zin.mono λ_ _ h=>h.elim
       obtain⟨f1,f2,f3⟩:=J0q K parts.toList _ u hu hzin
       have hzc:(abq ρ k.zero).cells=(cellsV ρ k.zero).toArray:=qJq (by
        cases ha:k.agg with
        |true=>exact .inr Qx
        |false=>exact .inl (ok.zleaf ha))
       have hz:=qqq (P:=P) (ok.zero ρ);have hus:u.size=n*k.size:=f3;obtain⟨r',n'⟩:=uuq (t:=e) (tail:=[]) r hU f2;simp only[ZT] at r' n';obtain⟨p1,p2⟩:=bKq (D:=D) (ρ:=ρ) (w:=w) (h:=h) n n k.size hk0 (Zb _) (cap:=u.size+[].length (α:=Value)) (by simp[hus]);refine⟨_,_,_,_,⟨.inl ?_,p1.symm,r',n',p2⟩⟩;have hlist:(parts.map λ(p:Nat×Operand)=>(p.1,a.eval p.2)).toList=parts.toList.map λp=>(p.1,a.eval p.2):=by simp
       have hsz:=ok.sizeOf w;have hgt:¬n*k.size>2^24:=by omega
       have hrep:=Qlq ρ n k.size k.zero ok.zsize hk0;rw[hrep] at f1;simp only[execOp,Instr.buildSlice,ZN,Zz I,ZE,hsz,hgt,if_false,hlist];by_cases Z:n*k.size=0
       .have hn:n=0:=by
         rcases Nat.mul_eq_zero.1 Z with h|h
         .exact h
         .omega
        subst hn;have hr0:Array.range 0= #[]:=rfl;simp only[Nat.zero_mul,hr0,List.map_toArray,List.map_nil] at f1⊢;simp[f1,newRow]
       .simp only[Z,if_false,ZN,hz w,ZE,YD,hzc];rw[f1];simp[newRow]
      .cases q
    .cases q
   .cases q
  .cases q
 case makeSlice t x y=>
  simp only[opH,zzq,ywq,z8q,z9q,qwq,zkq,zsq,zNq,yzq,z4q] at q;split at q
  .rename_i i u z hi hx hy;split at q
   .rename_i e l c he hl hc;obtain⟨kl,rfl⟩:=kLq hl;obtain⟨kc,rfl⟩:=kLq hc;have I:=(Q.ty t i hi).d;rw[he] at I;have I:P.underlying t=some (.slice e):=I;split at q
    .rename_i k hk;split at q
     .cases q
     .rename_i hcc;simp only[Bool.or_eq_false_iff,Bool.not_eq_false'] at hcc;have X:=Yb hcc.1.1.2;have h2:=Yb hcc.1.2;have h3:=Yb hcc.2
      have hk0:0<k.size:=by
       rcases YS k.size with Z|Z
       .rw[Jvq Z] at hcc;cases hcc.1.1.1
       .exact Z
      cases q;have ok:=Q.ty e k hk;obtain⟨inf,R,hsz,hby,hz⟩:=ok.info
      have hzc:(abq ρ k.zero).cells=(cellsV ρ k.zero).toArray:=qJq (by
       cases ha:k.agg with
       |true=>exact .inr Qx
       |false=>exact .inl (ok.zleaf ha))
      have hmul:((inf.bytes:Int)*(c:Int))<=281474976710656:=by
       have:((inf.bytes*c:Nat):Int)<=281474976710656:=by rw[hby];omega
       rwa[Int.natCast_mul] at this
      have S:=run_make (P:=P) w t e inf _ I R (hz ρ) kl kc (l:Int) (c:Int) Xd Xd hmul Xd;have hzin:InD (DD D ρ) (maq c k.size k.zero):=InDL_iff.2 λy hy=>by rw[(List.mem_replicate.1 hy).2];exact ok.zin.mono λ_ _ h=>h.elim
      obtain⟨r',n'⟩:=uuq (t:=e) (tail:=[]) r hU hzin;simp only[ZT] at r' n';have hrep:=Qlq ρ c k.size k.zero ok.zsize hk0;rw[hrep] at r' n';obtain⟨p1,p2⟩:=bKq (D:=D) (ρ:=ρ) (w:=w) (h:=h) c l k.size hk0 X (cap:=(maq c k.size k.zero).size+[].length (α:=Value)) (by simp[maq,V.size]);refine⟨_,_,_,_,⟨.inl ?_,p1.symm,r',n',p2⟩⟩;simp only[Int.toNat_natCast,hzc,hsz,madeCells] at S;simp[execOp,(K.ev hx).1,(K.ev hy).1,abq,S]
    .cases q
   .cases q
  .cases q
 case slice t x lo hi mx=>
  simp only[opH,zzq,ywq,z8q,z9q,qwq,zkq,zsq,zNq,yzq,z4q] at q;split at q
  .rename_i j u hj hx;have I:=(Q.ty t j hj).d;obtain⟨e1,i1⟩:=K.ev hx;split at q
   .rename_i n e b B he;rw[he] at I;split at q
    .rename_i k l rr bv hk hl hr hv;split at q
     .cases q
     .rename_i hc;simp only[Bool.or_eq_false_iff,Bool.not_eq_false'] at hc;have X:=Yb hc.1.1.2;have h2:=Yb hc.1.2;have h3:=Yb hc.2
      have hk0:0<k.size:=by
       rcases YS k.size with Z|Z
       .rw[Jvq Z] at hc;cases hc.1.1.1
       .exact Z
      cases q;obtain⟨_,_,_,_,_,_,hcap,_⟩:=r.val i1.1 hv;have hb:=uLq (P:=P) K (isSl:=false) hl hr X h2 w;refine⟨_,D,ρ,w,⟨.inl ?_,rfl,r,Nxt.refl _ _ _ _,hk0,by simp only[Option.getD_some];omega,i1.1,?_⟩⟩
      .simp only[execOp,e1,abq,ysq,Instr.sliceAt,ZN,Zz I.1,ZE,Instr.sureAddr,Option.map_none,hb,(Q.ty e k hk).sizeOf w,YD,jZq];have hsc:ydq ρ b (B+l*k.size) k.size (some (n-l))=n-l:=rfl;simp only[hsc];congr 4
       by_cases hnl:n=l
       .simp[hnl,vQq (ρ:=ρ) (b:=b) (base:=B) Xd]
       .have:¬n-l=0:=by omega
        simp[hnl,this,ZM]
      .simp only[Option.getD_some];have:l*k.size+(n-l)*k.size=n*k.size:=by rw[<-ZQ];congr 1;omega
       omega
    .cases q
   .rename_i e b M B len E H he;rw[he] at I;have I:P.underlying t=some (.slice e):=I;split at q
    .rename_i k l rr bv hk hl hr hv;split at q
     .cases q
     .rename_i hc;simp only[Zd,ZH] at hc;obtain⟨⟨⟨⟨hes,X⟩,Z⟩,h3⟩,h4⟩:=hc;have X:=Yb X;have Z:=Yb Z;have h3:=Yb h3;cases q;obtain⟨_,_,_,_,_,_,hcap,_⟩:=r.val i1.2.2.1 hv;obtain⟨hpos,hlen,hD,hroom⟩:=i1
      have hrc:rr<=ydq ρ b B E H:=by
       cases H with
       |some c=>exact Yb h4
       |none=>simp only[ydq];rw[Nat.le_div_iff_mul_le hpos];omega
      have hb:=uLq (P:=P) K (isSl:=true) hl hr X hrc w;refine⟨_,D,ρ,w,⟨.inl ?_,rfl,r,Nxt.refl _ _ _ _,hpos,?_,hD,?_⟩⟩
      .simp only[execOp,e1,abq,ysq,Instr.sliceAt,ZN,Zz I,ZE,Option.map_none,Instr.slice,hb,(Q.ty e k hk).sizeOf w,YD,hes]
       have hcap:ydq ρ b (B+l*E) E (q6q l H)=ydq ρ b B E H-l:=by
        cases H with
        |some c=>rfl
        |none=>
         simp only[ydq,q6q];rw[Nat.sub_add_eq,YE l E,Nat.sub_mul_div]
       rw[hcap];congr 4
       have hc0:¬ydq ρ b B E H=0:=by omega
       by_cases hl0:l=0
       .subst hl0;simp[Addr.add]
       .have hb0:Nat.beq l 0=false:=oPq hl0;simp only[hb0,hc0,if_false,Option.map_some,jZq];by_cases hm:ydq ρ b B E H=l
        .simp[hm,vQq (ρ:=ρ) (b:=b) (base:=B) (Zt (Nat.le_add_right _ _) hroom)]
        .have:¬ydq ρ b B E H-l=0:=by omega
         simp[hm,this,ZM]
      .cases H with
       |some c=>have h4:=Yb h4;simp only[q6q,Option.getD_some];omega
       |none=>simp[q6q]
      .cases H with
       |some c=>
        have h4:=Yb h4;simp only[q6q,Option.getD_some] at hroom⊢;have:l*E+(c-l)*E=c*E:=by rw[<-ZQ];congr 1;omega
        omega
       |none=>
        simp only[q6q,YU];have:l*E+(rr-l)*E=rr*E:=by rw[<-ZQ];congr 1;omega
        omega
    .cases q
   .cases q
  .cases q
 case call c=>
  obtain⟨callee,T,ats⟩:=c;cases callee<;>try (simp[opH,zzq,ywq,z8q,z9q,qwq,zkq,zsq,zNq,yzq,z4q] at q;done)
  rename_i b;cases b<;>try (simp[opH,zzq,ywq,z8q,z9q,qwq,zkq,zsq,zNq,yzq,z4q] at q;done)
  case append=>
   have e2:execOp a.eval ⟨dst,.call ⟨.builtin .append,T,ats⟩,ty,pos,aft,g⟩=(do pure (.value (<-Builtin.append_ ats ty (T.map a.eval)))):=rfl;simp only[opH,zzq,ywq,z8q,z9q,qwq,zkq,zsq,zNq,yzq,z4q] at q;split at q
   .rename_i x y ts tx X h2;have X:T= #[x,y]:=by apply YC.1;simpa using X
    have h2:ats= #[ts,tx]:=by apply YC.1;simpa using h2
    subst X;subst h2
    split at q
    .rename_i s u hx hy;obtain⟨e1,i1⟩:=K.ev hx;obtain⟨e3,i3⟩:=K.ev hy;obtain⟨val,D',ρ',w',q1,q2,q3,q4,q5⟩:=Jjq (ty:=ty) Q r i1 i3 q hU;refine⟨val,D',ρ',w',⟨.inl ?_,q2,q3,q4,q5⟩⟩;rw[e2];simp[e1,e3,q1]
    .cases q
   .cases q
  case copy=>
   have e2:execOp a.eval ⟨dst,.call ⟨.builtin .copy,T,ats⟩,ty,pos,aft,g⟩=(do pure (.value (<-Builtin.copy_ ats ty (T.map a.eval)))):=rfl;simp only[opH,zzq,ywq,z8q,z9q,qwq,zkq,zsq,zNq,yzq,z4q] at q;split at q
   .rename_i x y ts tx X h2;have X:T= #[x,y]:=by apply YC.1;simpa using X
    have h2:ats= #[ts,tx]:=by apply YC.1;simpa using h2
    subst X;subst h2
    split at q
    .rename_i s u hx hy;obtain⟨e1,i1⟩:=K.ev hx;obtain⟨e3,i3⟩:=K.ev hy;obtain⟨w',q1,q3,q4,q5⟩:=f6q (ty:=ty) Q r i1 i3 q;refine⟨_,D,ρ,w',⟨.inl ?_,rfl,q3,q4,q5⟩⟩;rw[e2];simp[e1,e3,q1]
    .cases q
   .cases q
end
def Dqq(h a:Heap):Bool:= @decide (∀i,a.wmin<i->i<h.next->a.get i=h.get i) (Classical.propDecidable _)
def nvq(h a:Heap):Bool:=Dqq h a
theorem nuq{h a:Heap}(d:nvq h a=true){i:Nat}(b:a.wmin<i)(c:i<h.next):a.get i=h.get i:= @of_decide_eq_true _ (Classical.propDecidable _) d i b c
theorem ntq{h a:Heap}(b:∀i,a.wmin<i->i<h.next->a.get i=h.get i):nvq h a=true:= @decide_eq_true _ (Classical.propDecidable _) b
structure Self where
 fn:FuncId->List V->Heap->Option (V×Heap)
 yield:Nat->List V->Heap->Option (V×Heap)
structure St where
 fr:Tr V
 h:Heap
 ds:List Nat
 rd:Bool
structure Flow where
 loop:Code->St->Option (Exit×St)
 scope:Code->Nat->St->Option (Exit×St)
def Y9q(a:Array Oper)(e:Tr V)(o:Oper):Option Bool:=match o.guard with
 |none=>some true
 |some (j,b)=>match (a[j]?).bind (·.dst) with
  |none=>some false
  |some t=>match e.get t with
   |some (.bool c)=>some (c==b)
   |some _=>some false
   |none=>none
def aBq(a:Tr V)(d:Option Tmp)(v:V):Tr V:=match d with
 |some t=>a.set t (some v)
 |none=>a
def jBq(S:Self)(C:Cfg)(b:Tr V)(h:Heap):Op->Option (V×Heap)
 |.call ⟨.value x,xs,_⟩=>match evV C b x,evL C b xs.toList with
  |some (.fn f a c),some vs=>match C.ext f with
   |some e=>match e (a++vs++c) with
    |some v=>some (v,h)
    |none=>none
   |none=>S.fn f (a++vs++c) h
  |some (.yield l),some vs=>S.yield l vs h
  |_,_=>none
 |.call ⟨.invoke x m,xs,_⟩=>match evV C b x,evL C b xs.toList with
  |some (.iface t v),some vs=>match C.mt t m with
   |some f=>match C.ext f with
    |some _=>none
    |none=>S.fn f (v::vs) h
   |none=>none
  |_,_=>none
 |_=>none
def opV(S:Self)(C:Cfg)(a:Tr V)(h:Heap)(o:Oper):Option (V×Heap):=
 match ylq C a o.type o.op with
 |some v=>some (v,h)
 |none=>match opH C a h o.op with
  |some r=>some r
  |none=>jBq S C a h o.op
def jfq(S:Self)(C:Cfg)(a:Array Oper):List Oper->Tr V->Heap->Option (Tr V×Heap)
 |[],fr,h=>some (fr,h)
 |o::l,fr,h=>match Y9q a fr o with
  |some true=>match opV S C fr h o with
   |some (v,h')=>jfq S C a l (aBq fr o.dst v) h'
   |none=>none
  |some false=>jfq S C a l (aBq fr o.dst .undef) h
  |none=>none
def frq:List V->Option V
 |[.int .u64 (.ofNat x),.int .u64 (.ofNat y),.int .u64 (.ofNat c)]=>match Nat.ble c 1 with
  |true=>some (.tup [.int .u64 (.ofNat ((x+y+c)%18446744073709551616)),.int .u64 (.ofNat ((x+y+c)/18446744073709551616))])
  |false=>none
 |_=>none
def ubq(b:Array Oper):Nat->Nat->Nat->Bool
 |0,_,_=>false
 |f+1,j,k=>match b[j]? with
  |none=>false
  |some o=>o.after.any λe=>Region.binds .any e&&(Nat.beq e.on k||ubq b f e.on k)
inductive Ev where
 |load (b:Nat)
 |store (b:Nat)
 |gen
 |dirty
 |upd (b:Nat)
 |mk (b:Nat)
def Ev.clash:Ev->Ev->Bool
 |.load _,.load _=>false
 |.load a,.store b=>Nat.beq a b
 |.store a,.load b=>Nat.beq a b
 |.store a,.store b=>Nat.beq a b
 |.load a,.upd b=>Nat.beq a b
 |.upd a,.load b=>Nat.beq a b
 |.gen,.load _=>false
 |.load _,.gen=>false
 |.gen,.gen=>false
 |.mk a,.store b=>Nat.beq a b
 |.store a,.mk b=>Nat.beq a b
 |.mk _,.upd _=>true
 |.mk _,.dirty=>true
 |.mk _,_=>false
 |.load _,.mk _=>false
 |.gen,.mk _=>false
 |_,_=>true
def auq(C:Cfg)(j:Tr V)(h f:Heap):Op->Ev
 |.load _ x=>match evV C j x with
  |some (.ptr b _)=>.load b
  |_=>.dirty
 |.store _ x _=>match evV C j x with
  |some (.ptr b _)=>.store b
  |_=>.dirty
 |.call ⟨.builtin .append,xs,_⟩=>match Nat.ble h.next f.wmin with
  |true=>.gen
  |false=>match xs.toList with
   |[x,_]=>match evV C j x with
    |some (.sl b _ _ _ _ _)=>.upd b
    |_=>.dirty
   |_=>.dirty
 |.buildSlice _ _ _=>.mk h.next
 |.slice _ x _ _ _=>match evV C j x with
  |some (.ptr b _)=>.load b
  |_=>match Nat.ble h.next f.wmin with
   |true=>.gen
   |false=>.dirty
 |.call ⟨.value _,_,_⟩=>match Nat.ble h.next f.wmin with
  |true=>.gen
  |false=>match nvq h f with
   |true=>.upd f.wmin
   |false=>.dirty
 |_=>match Nat.ble h.next f.wmin with
  |true=>.gen
  |false=>.dirty
def dwq(a:Array Oper)(j:Nat)(x:Ev):List (Nat×Ev) ->Bool
 |[]=>true
 |(k,y)::l=>(match y.clash x with|true=>ubq a a.size j k|false=>true)&&dwq a j x l
def eCq(a b:Nat):Nat:=match Nat.ble a b with
 |true=>a
 |false=>b
def Jrq(S:Self)(C:Cfg)(b:Tr V)(h:Heap)(o:Oper):Option (V×Heap×Option Ev):=
 match ylq C b o.type o.op with
 |some v=>some (v,h,none)
 |none=>match opV S C b {h with wmin:=h.next} o with
  |some (v,h1)=>some (v,{h1 with wmin:=eCq h.wmin h1.wmin},some (auq C b h h1 o.op))
  |none=>none
def y7q(S:Self)(C:Cfg)(a:Array Oper):List Oper->Nat->List (Nat×Ev) ->Tr V->Heap->Option (Tr V×Heap)
 |[],_,_,fr,h=>some (fr,h)
 |o::l,i,es,fr,h=>match Y9q a fr o with
  |some true=>match Jrq S C fr h o with
   |some (v,h1,some x)=>match dwq a i x es with
    |true=>y7q S C a l (i+1) ((i,x)::es) (aBq fr o.dst v) h1
    |false=>none
   |some (v,h1,none)=>y7q S C a l (i+1) es (aBq fr o.dst v) h1
   |none=>none
  |some false=>y7q S C a l (i+1) es (aBq fr o.dst .undef) h
  |none=>none
def Kuq:Tr V->List Tmp->List V->Tr V
 |fr,p::ps,v::vs=>Kuq (fr.set p (some v)) ps vs
 |fr,_,_=>fr
def k7q(b:St)(D l:Nat)(h:Heap):Option (Exit×St):=match h.get l with
 |some (.loop .ready none _ _ _ _ _)=>some (.normal,⟨b.fr,h.kill l,D::b.ds,b.rd⟩)
 |some (.loop .done (some .ret) _ _ _ _ _)=>some (.ret,⟨b.fr,h.kill l,D::b.ds,b.rd⟩)
 |some (.loop .done (some (.exit id)) _ _ _ _ _)=>some (.exit id,⟨b.fr,h.kill l,D::b.ds,b.rd⟩)
 |some (.loop .done (some (.goto id)) _ _ _ _ _)=>some (.goto id,⟨b.fr,h.kill l,D::b.ds,b.rd⟩)
 |_=>none
def zgq(S:Self)(F:Flow)(C:Cfg):Code->St->Option (Exit×St)
 |.skip,st=>some (.normal,st)
 |.region _ ops dr,st=>match (match dr with
   |true=>y7q S C ops ops.toList 0 [] st.fr st.h
   |false=>jfq S C ops ops.toList st.fr st.h) with
  |some (fr,h)=>some (.normal,⟨fr,h,st.ds,st.rd⟩)
  |none=>none
 |.seq x y,st=>match zgq S F C x st with
  |some (.normal,st')=>zgq S F C y st'
  |r=>r
 |.cond c x y,st=>match evV C st.fr c with
  |some (.bool true)=>zgq S F C x st
  |some (.bool false)=>zgq S F C y st
  |_=>none
 |.block id x,st=>match zgq S F C x st with
  |some (.exit id',st')=>match Nat.beq id' id with
   |true=>some (.normal,st')
   |false=>some (.exit id',st')
  |r=>r
 |.loop x,st=>F.loop x st
 |.rangeFunc g ps asg bd,st=>match st.rd,evV C st.fr g with
  |false,some (.fn gf [] c)=>match S.fn gf ([.yield (st.h.next+1)]++c) ((st.h.push (.dfr false)).push (.loop .ready none st.fr ps asg bd st.h.next)) with
   |some (_,h)=>k7q st st.h.next (st.h.next+1) h
   |none=>none
  |_,_=>none
 |.exit id,st=>some (.exit id,st)
 |.scope x,st=>match zgq S F C x st with
  |some (.goto l,st')=>F.scope x l st'
  |r=>r
 |.label _,st=>some (.normal,st)
 |.goto l,st=>some (.goto l,st)
 |.ret,st=>some (.ret,st)
 |.refuse _,_=>none
def uMq:Nat->List V->Tr V->Tr V
 |_,[],t=>t
 |i,v::vs,t=>uMq (i+1) vs (t.set i (some v))
def qZq:List Nat->Heap->Option Heap
 |[],h=>some h
 |d::ds,h=>match h.get d with
  |some (.dfr false)=>qZq ds (h.put d (.dfr true))
  |_=>none
def w7q(C:Cfg)(a:Tr V)(h:Heap):ResultVar->Option V
 |.tmp t=>a.get t
 |.cell p T=>match a.get p,C.ty T with
  |some (.ptr b off),some i=>match h.val b with
   |some v=>j6q 50 v off i.size i.agg
   |none=>none
  |_,_=>none
def puq(C:Cfg)(a:Tr V)(h:Heap):List ResultVar->Option (List V)
 |[]=>some []
 |r::l=>match w7q C a h r,puq C a h l with
  |some v,some vs=>some (v::vs)
  |_,_=>none
def duq(C:Cfg)(c:Func)(a:St):Option (V×Heap):=match qZq a.ds a.h with
 |none=>none
 |some h=>match puq C a.fr h c.results.toList with
  |some [v]=>some (v,h)
  |some b=>some (.tup b,h)
  |none=>none
mutual
def y9q(C:Cfg):Nat->FuncId->List V->Heap->Option (V×Heap)
 |0,_,_,_=>none
 | n +1,f,vs,h=>match C.known f with
  |some k=>k vs h
  |none=>match C.fn f with
   |none=>none
   |some b=>match b.body,Nat.ble vs.length b.ntmps with
    |some c,true=>match zgq ⟨y9q C n,zQq C n⟩ ⟨yhq C n,zVq C n⟩ C c ⟨uMq 0 vs .nil,h,[],false⟩ with
     |some (.normal,st)=>duq C b st
     |some (.ret,st)=>duq C b st
     |_=>none
    |_,_=>none
def zQq(C:Cfg):Nat->Nat->List V->Heap->Option (V×Heap)
 |0,_,_,_=>none
 | n + 1,l,vs,h=>match h.get l with
  |some (.loop .ready none fr ps asg bd d)=>match Nat.beq vs.length ps.size with
   |false=>none
   |true=>match zgq ⟨y9q C n,zQq C n⟩ ⟨yhq C n,zVq C n⟩ C asg ⟨Kuq fr ps.toList vs,h,[],true⟩ with
    |some (.normal,st1)=>match st1.h.get l with
     |some (.loop .ready none fr1 ps1 asg1 bd1 d1)=>match zgq ⟨y9q C n,zQq C n⟩ ⟨yhq C n,zVq C n⟩ C bd ⟨st1.fr,st1.h.put l (.loop .busy none fr1 ps1 asg1 bd1 d1),st1.ds,st1.rd⟩ with
      |some (x,st2)=>match st2.h.get l with
       |some (.loop .busy none fr2 ps2 asg2 bd2 d2)=>match x with
        |.normal=>some (.bool true,st2.h.put l (.loop .ready none fr2 ps2 asg2 bd2 d2))
        |.ret=>some (.bool false,st2.h.put l (.loop .done (some .ret) fr2 ps2 asg2 bd2 d2))
        |.exit id=>some (.bool false,st2.h.put l (.loop .done (some (.exit id)) fr2 ps2 asg2 bd2 d2))
        |.goto id=>some (.bool false,st2.h.put l (.loop .done (some (.goto id)) fr2 ps2 asg2 bd2 d2))
        |_=>none
       |_=>none
      |none=>none
     |_=>none
    |_=>none
  |_=>none
def yhq(C:Cfg):Nat->Code->St->Option (Exit×St)
 |0,_,_=>none
 |n+1,c,st=>match zgq ⟨y9q C n,zQq C n⟩ ⟨yhq C n,zVq C n⟩ C c st with
  |some (.normal,st')=>yhq C n c st'
  |r=>r
def zVq(C:Cfg):Nat->Code->Nat->St->Option (Exit×St)
 |0,_,_,_=>none
 |n+1,c,l,st=>match findLabel c l with
  |some a=>match zgq ⟨y9q C n,zQq C n⟩ ⟨yhq C n,zVq C n⟩ C a st with
   |some (.goto l',st')=>zVq C n c l' st'
   |r=>r
  |none=>none
end
inductive Tr.All{α:Type}(p:Nat->α->Prop):(Nat->Nat) ->Tr α->Prop
 |nil {f:Nat->Nat}:Tr.All p f .nil
 |skip {f:Nat->Nat} {l r:Tr α} (hl:Tr.All p (λk=>f (2*k+1)) l) (hr:Tr.All p (λk=>f (2*k+2)) r):Tr.All p f (.node none l r)
 |here {f:Nat->Nat} {x:α} {l r:Tr α} (hx:p (f 0) x) (hl:Tr.All p (λk=>f (2*k+1)) l) (hr:Tr.All p (λk=>f (2*k+2)) r):Tr.All p f (.node (some x) l r)
theorem Tr.All.at_{b:Type}{p:Nat->b->Prop}:∀{t:Tr b} {f:Nat->Nat} {k:Nat} {x:b},Tr.All p f t->t.get k=some x->p (f k) x
 |.nil,f,k,x,_,hk=>by simp[Tr.get_nil] at hk
 |.node v l r,f,k,x,h,hk=>by
  rw[Tr.get_node] at hk;by_cases j:k=0
  .rw[Zl j] at hk;subst hk;subst j
   cases h with
   |here q _ _=>exact q
  .rw[Zg j] at hk
   have a:Tr.All p (λk=>f (2*k+1)) l/\Tr.All p (λk=>f (2*k+2)) r:=by
    cases h with
    |skip c g=>exact⟨c,g⟩
    |here _ c g=>exact⟨c,g⟩
   by_cases m:k%2=1
   .rw[Zl m] at hk;have:=a.1.at_ hk;rwa[show 2*(k/2)+1=k by omega] at this
   .rw[Zg m] at hk;have:=a.2.at_ hk;rwa[show 2*(k/2-1)+2=k by omega] at this
structure Mono(h h':Heap):Prop where
 nxt:h.next<=h'.next
 wf:(∀i,h.next<=i->h.get i=none) ->∀i,h'.next<=i->h'.get i=none
 wmin:h'.wmin<=h.wmin
 keep:∀i,i<h.next->i<h'.wmin->h'.get i=h.get i
theorem Mono.refl(h:Heap):Mono h h:=⟨Zb _,λh=>h,Zb _,λ_ _ _=>rfl⟩
theorem Mono.trans{a b c:Heap}(x:Mono a b)(y:Mono b c):Mono a c:=
 ⟨Zt x.nxt y.nxt,λh=>y.wf (x.wf h),Zt y.wmin x.wmin,λi d e=>(y.keep i (Zv d x.nxt) e).trans (x.keep i d (Zv e y.wmin))⟩
theorem yAq(h:Heap)(b:Blk):Mono h (h.push b):=⟨YO _,λc i a=>by
  have a:h.next+1<=i:=a;rw[Heap.get_push,Zg Xd];exact c i Xd,Zb _,λi d _=>by rw[Heap.get_push,Zg Xd]⟩
theorem y1q{h:Heap}{i:Nat}{b c:Blk}(k:h.get i=some c):Mono h (h.put i b):=by
 have l:=xCq h.wmin i;refine⟨Zb _,λd j f=>?_,l.1,λj _ g=>?_⟩
 .have f:h.next<=j:=f;have:j≠i:=λe=>by have:=d j f;rw[e,k] at this;cases this
  rw[Heap.get_put,Zg this];exact d j f
 .have g:j<wmn h.wmin i:=g;rw[Heap.get_put,Zg Xd]
theorem Zgq(h:Heap)(i:Nat):Mono h (h.kill i):=by
 have k:=xCq h.wmin i;refine⟨Zb _,λd j b=>?_,k.1,λj _ g=>?_⟩
 .have b:h.next<=j:=b;rw[Heap.get_kill];split
  .rfl
  .exact d j b
 .have g:j<wmn h.wmin i:=g;rw[Heap.get_kill,Zg Xd]
theorem KPq{C:Cfg}{h d:Heap}{f e:TypeId}{s x v:V}(b:kVq C h f e s x=some (v,d)):Mono h d:=by
 unfold kVq at b;repeat' (split at b)
 all_goals first|(cases b;done)|skip
 all_goals first
  |(cases b;exact Mono.refl _)
  |(cases b;exact yAq _ _)
  |(cases b;rename_i c _ _ _;exact y1q c)
  |(cases b;rename_i c _ _ _ _;exact y1q c)
  |(cases b;rename_i c _ _ _ _ _;exact y1q c)
  |(cases b;exact(yAq _ _).trans (Zgq _ _))
theorem imq{C:Cfg}{h c:Heap}{e d:TypeId}{s x v:V}(a:f7q C h e d s x=some (v,c)):Mono h c:=by
 unfold f7q at a;repeat' (split at a)
 all_goals first|(cases a;done)|skip
 all_goals first
  |(cases a;exact Mono.refl _)
  |(cases a;rename_i b _ _ _;exact y1q b)
  |(cases a;rename_i b _ _ _ _;exact y1q b)
  |(cases a;rename_i b _ _ _ _ _;exact y1q b)
theorem eBq{C:Cfg}{q:Tr V}{h j:Heap}{o:Op}{v:V}(d:opH C q h o=some (v,j)):Mono h j:=by
 cases o<;>try (simp[opH,zzq,ywq,z8q,z9q,qwq,zkq,zsq,zNq,yzq,z4q] at d;done)
 case convert s t x=>
  simp only[opH,zzq,ywq,z8q,z9q,qwq,zkq,zsq,zNq,yzq,z4q] at d;repeat' (split at d)
  all_goals first|(cases d;done)|(cases d;exact Mono.refl _)|(cases d;exact yAq _ _)|(cases d;exact y1q Yi)
 case load t x=>
  simp only[opH,zzq,ywq,z8q,z9q,qwq,zkq,zsq,zNq,yzq,z4q] at d;repeat' (split at d)
  all_goals first|(cases d;done)|(cases d;exact Mono.refl _)
 case store t x y=>
  simp only[opH,zzq,ywq,z8q,z9q,qwq,zkq,zsq,zNq,yzq,z4q] at d;repeat' (split at d)
  all_goals first|(cases d;done)|(cases d;rename_i g _ _ _;exact y1q g)|(cases d;rename_i g _ _ _ _;exact y1q g)
 case alloc t=>
  simp only[opH,zzq,ywq,z8q,z9q,qwq,zkq,zsq,zNq,yzq,z4q] at d;repeat' (split at d)
  all_goals first|(cases d;done)|(cases d;exact yAq _ _)
 case box t x=>
  simp only[opH,zzq,ywq,z8q,z9q,qwq,zkq,zsq,zNq,yzq,z4q] at d;repeat' (split at d)
  all_goals first|(cases d;done)|(cases d;exact yAq _ _)
 case buildSlice t n ps=>
  simp only[opH,zzq,ywq,z8q,z9q,qwq,zkq,zsq,zNq,yzq,z4q] at d;repeat' (split at d)
  all_goals first|(cases d;done)|(cases d;exact yAq _ _)
 case makeSlice t x y=>
  simp only[opH,zzq,ywq,z8q,z9q,qwq,zkq,zsq,zNq,yzq,z4q] at d;repeat' (split at d)
  all_goals first|(cases d;done)|(cases d;exact yAq _ _)
 case slice t x lo hi mx=>
  simp only[opH,zzq,ywq,z8q,z9q,qwq,zkq,zsq,zNq,yzq,z4q] at d;repeat' (split at d)
  all_goals first|(cases d;done)|(cases d;exact Mono.refl _)
 case call c=>
  obtain⟨f,k,m⟩:=c;cases f<;>try (simp[opH,zzq,ywq,z8q,z9q,qwq,zkq,zsq,zNq,yzq,z4q] at d;done)
  rename_i b;cases b<;>try (simp[opH,zzq,ywq,z8q,z9q,qwq,zkq,zsq,zNq,yzq,z4q] at d;done)
  case append=>
   simp only[opH,zzq,ywq,z8q,z9q,qwq,zkq,zsq,zNq,yzq,z4q] at d;split at d
   .split at d
    .exact KPq d
    .cases d
   .cases d
  case copy=>
   simp only[opH,zzq,ywq,z8q,z9q,qwq,zkq,zsq,zNq,yzq,z4q] at d;split at d
   .split at d
    .exact imq d
    .cases d
   .cases d
def xyq(s0:World)(U:Nat)(D:Nat->Prop)(f:Env)(h:Heap)(w:World)(v:V)(c:Heap):Ending->World->Prop:=λe b=>
 ∃D' a,e= .returned (abq a v)/\Rel s0 U D' a c b/\Nxt D f h w D' a c b/\InD (DD D' a) v
structure SelfOK(P:Program)(C:Cfg)(S:Self):Prop where
 fnMono:∀f vs h v h',S.fn f vs h=some (v,h') ->Mono h h'
 fnEnter:∀f vs h v h',S.fn f vs h=some (v,h') ->∀args w,(callFunc f args).run P w= .ok (.enter f args) w
 fn:∀f vs h v h',S.fn f vs h=some (v,h') ->∀s0 U D ρ w,h'.next<=U->GlobOK C (DD D ρ) ρ->InDL (DD D ρ) vs->Rel s0 U D ρ h w->Calls P f (zPq ρ vs).toArray w (xyq s0 U D ρ h w v h')
 yMono:∀l vs h v h',S.yield l vs h=some (v,h') ->Mono h h'
 yield:∀l vs h v h',S.yield l vs h=some (v,h') ->∀s0 U D ρ w,h'.next<=U->GlobOK C (DD D ρ) ρ->D l->InDL (DD D ρ) vs->Rel s0 U D ρ h w->YieldAt Fence.wide 0 P (ρ.l l).1 (zPq ρ vs).toArray w (xyq s0 U D ρ h w v h')
section
variable {P:Program} {C:Cfg} {S:Self} {s0:World} {U:Nat} {D:Nat->Prop} {ρ:Env} {fr:Tr V} {a:Act} {w:World} {h:Heap}
theorem f9q(d:SelfOK P C S){o:Op}{v:V}{f:Heap}(b:jBq S C fr h o=some (v,f)):Mono h f:=by
 unfold jBq at b;split at b
 .split at b
  .split at b
   .split at b
    .cases b;exact Mono.refl _
    .cases b
   .exact d.fnMono _ _ _ _ _ b
  .exact d.yMono _ _ _ _ _ b
  .cases b
 .split at b
  .split at b
   .split at b
    .cases b
    .exact d.fnMono _ _ _ _ _ b
   .cases b
  .cases b
 .cases b
theorem Zcq(f:SelfOK P C S){o:Oper}{v:V}{d:Heap}(b:opV S C fr h o=some (v,d)):Mono h d:=by
 unfold opV at b;split at b
 .cases b;exact Mono.refl _
 .split at b
  .rename_i r g;cases b;exact eBq g
  .exact f9q f b
theorem GlobOK.next{D':Nat->Prop}{b:Env}{d:Heap}{j:World}(g:GlobOK C (DD D ρ) ρ)(e:∀i,D i->i<h.next\/U<=i)(f:d.next<=U)(n:Nxt D ρ h w D' b d j):GlobOK C (DD D' b) b:=λi m=>by
 obtain⟨c,o,p⟩:=g i m;obtain⟨k,l,_⟩:=n.agree e f i 0 c;exact⟨n.dd e f i 0 c,k.trans o,l.trans p⟩
theorem FrE.next{D':Nat->Prop}{b:Env}{f:Heap}{j:World}(g:FrE C D ρ fr a)(d:∀i,D i->i<h.next\/U<=i)(e:f.next<=U)(n:Nxt D ρ h w D' b f j):FrE C D' b fr a:=
 ⟨λt v c=>by rw[qaq (n.agree d e) (g.in_ t v c)];exact g.at_ t v c,λt v c=>(g.in_ t v c).mono (n.dd d e),GlobOK.next g.gl d e n⟩
theorem FrE.put{d:Option Tmp}{v:V}(g:FrE C D ρ fr a)(j:Q0q a.tmps.size d=true)(k:InD (DD D ρ) v):FrE C D ρ (aBq fr d v) (a.put d (abq ρ v)):=by
 cases d with
 |none=>exact g
 |some t=>
  have l:t<a.tmps.size:=by simpa[Q0q] using j
  refine⟨λu x c=>?_,λu x c=>?_,g.gl⟩
  .simp only[aBq,Tr.get_set] at c;simp only[Act.put,YT];by_cases e:u=t
   .subst e;rw[Zl rfl] at c;cases c
    simp[l]
   .rw[Zg e] at c;rw[Zg (λf=>e f.symm)];exact g.at_ u x c
  .simp only[aBq,Tr.get_set] at c;by_cases e:u=t
   .rw[Zl e] at c;cases c;exact k
   .rw[Zg e] at c;exact g.in_ u x c
theorem uTq{k:Array Oper}{o:Oper}{b:Bool}(g:FrE C D ρ fr a)(f:Y9q k fr o=some b):Region.wanted o (yielded k a.tmps)=b:=by
 unfold Y9q at f;unfold Region.wanted;cases u:o.guard with
 |none=>simp[u] at f;simp[f]
 |some p=>
  obtain⟨j,c⟩:=p;simp only[u] at f;simp only[yielded];cases q:(k[j]?).bind (·.dst) with
  |none=>simp[q] at f;simp[f]
  |some t=>
   simp only[q] at f;simp only[Option.bind_some];split at f
   .rename_i d l;cases f;have:=g.at_ t _ l;rw[this];simp[abq]
   .rename_i x v l;cases f;have:=g.at_ t _ l;rw[this];cases x<;>simp[abq,ysq]<;>first|rfl|(exfalso;exact v _ rfl)
   .cases f
theorem Qyq(hC:CfgOK P C)(hS:SelfOK P C S){o:Oper}{r:Option Nat}{v:V}{h':Heap}{K:Act->World->Prop}{Q:Exit->Act->World->Prop}(hn:xVq o=true)(j:opV S C fr h o=some (v,h'))(hU:h'.next<=U)(g:FrE C D ρ fr a)(I:Rel s0 U D ρ h w)
  (k:∀D' q J,Rel s0 U D' q h' J->Nxt D ρ h w D' q h' J->InD (DD D' q) v->K (a.put o.dst (abq q v)) J):o.wpIn (FF r) 0 P a w K Q:=by
 unfold opV at j;split at j
 .rename_i u hu;cases j;obtain⟨h1,h2⟩:=JJq hC g hu w;exact YUq hn (.inl h1) (k D ρ w I (Nxt.refl _ _ _ _) h2)
 .split at j
  .rename_i r' hr;cases j;obtain⟨x,D',q,J,d⟩:=idq hC g I hr hU;have hx:=d.val;subst hx;exact YUq hn d.op (k D' q J d.rel d.nxt d.in_)
  ·-- a call
   obtain⟨N,op,ty,M,W,gd⟩:=o;simp only at j;unfold jBq at j;split at j
   .rename_i x L G hp0 hh0
    have F:∀b,evL C fr L.toList=some b->L.map a.eval=(zPq ρ b).toArray/\InDL (DD D ρ) b:=λb E=>by
     obtain⟨O,T⟩:=g.evs E;exact⟨by apply YC.1;simpa using O,T⟩
    split at j
    .rename_i f fi ca b hx E;obtain⟨O,i1⟩:=g.ev hx;obtain⟨T,i2⟩:=F b E
     have X:InDL (DD D ρ) (fi++b++ca):=InDL_iff.2 λy hy=>by
      simp only[ZO] at hy;rcases hy with (h|h)|h
      .exact InDL_iff.1 i1.1 y h
      .exact InDL_iff.1 i2 y h
      .exact InDL_iff.1 i1.2 y h
     have hcl:(zPq ρ fi).toArray++(zPq ρ b).toArray++(zPq ρ ca).toArray=(zPq ρ (fi++b++ca)).toArray:=by
      simp[k9q]
     have hres:∀R:Array Value->Sem Next,(execOp a.eval ⟨N,.call ⟨.value x,L,G⟩,ty,M,W,gd⟩)=(do let d<-resolve a.eval ⟨.value x,L,G⟩ ty;invoke d.target d.args):=λ_=>rfl
     have B:(execOp a.eval ⟨N,.call ⟨.value x,L,G⟩,ty,M,W,gd⟩).run P w=(callFunc f (zPq ρ (fi++b++ca)).toArray).run P w:=by
      rw[hres (λ_=>pure .skip),<-hcl];simp only[resolve,O,T,abq,Deferred.ofValue,ZN,YD,ZE,invoke]
     split at j
     .rename_i e he;split at j
      .rename_i u hu;cases j;obtain⟨q1,q2⟩:=hC.ext f e he ρ _ _ hu;exact YUq hn (.inl (by rw[B];exact q1 w)) (k D ρ w I (Nxt.refl _ _ _ _) (q2 _ X))
      .cases j
     .refine⟨λf _=>Jwq r f,?_⟩;rw[Oper.semAt_plain _ _ _ (by intro c e;cases e),B,hS.fnEnter _ _ _ _ _ j,Oper.uponIn_enter];refine⟨by simp[ZHq],?_⟩;refine(lAq (r:=r) (hS.fn _ _ _ _ _ j s0 U D ρ w hU g.gl X I)).mono ?_;rintro e J ⟨D',q,rfl,q1,q2,q3⟩;exact k D' q J q1 q2 q3
    .rename_i l b hx E;obtain⟨O,i1⟩:=g.ev hx;obtain⟨T,i2⟩:=F b E;obtain⟨fn,Z,H,Y,hy,hR⟩:=hS.yield _ _ _ _ _ j s0 U D ρ w hU g.gl i1.1 i2 I;refine⟨λf _=>Jwq r f,?_⟩
     have B:(execOp a.eval ⟨N,.call ⟨.value x,L,G⟩,ty,M,W,gd⟩).run P w= .ok (.round (ρ.l l).1 fn Z H Y) w:=by
      simp only[execOp,resolve,O,T,abq,Deferred.ofValue,ZN,YD,ZE,invoke];simpa using hy
     rw[Oper.semAt_plain _ _ _ (by intro c e;cases e),B,Oper.uponIn_round];refine⟨by simp[ZHq],?_⟩
     have hR':RoundIn (FF r) 0 P (ρ.l l).1 fn Z H Y w (xyq s0 U D ρ h w v h'):=
      ⟨Jwq r fn,λc cs _=>by have:=hR.2 c cs (room_wide _);rwa[<-QUq r] at this⟩
     refine hR'.mono ?_;rintro e J ⟨D',q,rfl,q1,q2,q3⟩;exact k D' q J q1 q2 q3
    .cases j
   .rename_i x m L G hp0 hh0
    have F:∀b,evL C fr L.toList=some b->L.map a.eval=(zPq ρ b).toArray/\InDL (DD D ρ) b:=λb E=>by
     obtain⟨O,T⟩:=g.evs E;exact⟨by apply YC.1;simpa using O,T⟩
    split at j
    .rename_i t u b hx E;obtain⟨O,i1⟩:=g.ev hx;obtain⟨T,i2⟩:=F b E;split at j
     .rename_i f hf;split at j
      .cases j
      .have X:InDL (DD D ρ) (u::b):=⟨i1,i2⟩;have hcl: #[abq ρ u]++(zPq ρ b).toArray=(zPq ρ (u::b)).toArray:=by simp[zPq]
       have B:(execOp a.eval ⟨N,.call ⟨.invoke x m,L,G⟩,ty,M,W,gd⟩).run P w=(callFunc f (zPq ρ (u::b)).toArray).run P w:=by
        have hex:(#[abq ρ (.iface t u)]++(zPq ρ b).toArray).extract 1 (#[abq ρ (.iface t u)]++(zPq ρ b).toArray).size=(zPq ρ b).toArray:=by
         apply YC.1;simp
        have h0:(#[abq ρ (.iface t u)]++(zPq ρ b).toArray)[0]? =some (abq ρ (.iface t u)):=by simp
        show((do let d<-resolve a.eval ⟨.invoke x m,L,G⟩ ty;invoke d.target d.args):Sem Next).run P w=_;simp only[resolve,O,T,ZN,YD,ZE,invoke];rw[<-hcl,<-hC.mt t m f hf (abq ρ u) (zPq ρ b).toArray w];simp only[h0,hex];rfl
       refine⟨λf _=>Jwq r f,?_⟩;rw[Oper.semAt_plain _ _ _ (by intro c e;cases e),B,hS.fnEnter _ _ _ _ _ j,Oper.uponIn_enter];refine⟨by simp[ZHq],?_⟩;refine(lAq (r:=r) (hS.fn _ _ _ _ _ j s0 U D ρ w hU g.gl X I)).mono ?_;rintro e J ⟨D',q,rfl,q1,q2,q3⟩;exact k D' q J q1 q2 q3
     .cases j
    .cases j
   .cases j
end
def mkD(a:Env)(d:Nat):Deferred:={target:=.collected (a.b d),args:= #[]}
structure StR(C:Cfg)(s0:World)(U N:Nat)(r:Option Nat)(tl:List Deferred)(D:Nat->Prop)(ρ:Env)(st:St)(a:Act)(w:World):Prop where
 fr:FrE C D ρ st.fr a
 rel:Rel s0 U D ρ st.h w
 size:a.tmps.size=N
 defs:a.defers=st.ds.map (mkD ρ)++tl
 din:∀d∈st.ds,D d
 rd:st.rd=r.isSome
def iAq(J:Nat->Act->World->Prop)(Q:Exit->Act->World->Prop):Exit->Act->World->Prop
 |.goto l,a,w=>J l a w
 |e,a,w=>Q e a w
def ZTq(F:Fence)(n:Nat)(P:Program)(c:Code)(Q:Exit->Act->World->Prop):Nat->Nat->Act->World->Prop
 |0,_,_,_=>False
 |m+1,l,a,w=>∃b,findLabel c l=some b/\b.wpIn F n P (iAq (ZTq F n P c Q m) Q) a w
theorem vRq{F:Fence}{n:Nat}{P:Program}{Q:Exit->Act->World->Prop}{a:Act}{w:World}{c:Code}(m:Nat)(h:c.wpIn F n P (iAq (ZTq F n P c Q m) Q) a w):(Code.scope c).wpIn F n P Q a w:=by
 intro b k y E J H;have Z:(lone (b.atR a (.code (.scope c)::k)) y w).fenced P F:=fenced_calm J H rfl;have s0:step P (lone (b.atR a (.code (.scope c)::k)) y w)= .next (lone (b.atR a (.code c:: .inScope c::k)) y w):=step_lone_go (by simp[stepG,stepG.exec,Frame.atR]);have T:∀a w,step P (lone (b.atR a (.inScope c::k)) y w)= .next (lone (b.atR a k) y w):=λa w=>step_lone_go (by simp[stepG,stepG.exec,Frame.atR])
 have N:∀id,exitTo id (.inScope c::k)=exitTo id k:=λid=>by simp[exitTo]
 have O:∀m (d:Code) a w,d.wpIn F n P (iAq (ZTq F n P c Q m) Q) a w->∃e L M,Q e L M/\ArrivesIn (Machine.fenced P F) P (lone (b.atR a (.code d:: .inScope c::k)) y w) b k y e L M:=by
  intro m;induction m with
  |zero=>
   intro d a w h;obtain⟨e,j,q,u,g⟩:=h b (.inScope c::k) y E J H;cases e with
   |normal=>exact⟨.normal,j,q,u,StepsIn.trans g (.one (fenced_calm J H rfl) (T _ _))⟩
   |exit id=>exact⟨.exit id,j,q,u,λR C=>g.1 R (by rw[N];exact C),λB C=>g.2 B (by rw[N];exact C)⟩
   |goto l=>exact u.elim
   |ret=>exact⟨_,j,q,u,g⟩
   |panic U=>exact⟨_,j,q,u,g⟩
   |outgrown=>exact⟨_,j,q,u,g⟩
  |succ m W=>
   intro d a w h;obtain⟨e,j,q,u,g⟩:=h b (.inScope c::k) y E J H;cases e with
   |normal=>exact⟨.normal,j,q,u,StepsIn.trans g (.one (fenced_calm J H rfl) (T _ _))⟩
   |exit id=>exact⟨.exit id,j,q,u,λR C=>g.1 R (by rw[N];exact C),λB C=>g.2 B (by rw[N];exact C)⟩
   |goto l=>
    obtain⟨z,Y,X⟩:=u;obtain⟨G,K,D,A,v⟩:=W z j q X;have V:gotoIn l (.inScope c::k)=some (.code z:: .inScope c::k):=by simp[gotoIn,Y]
    exact⟨G,K,D,A,.of_steps (g.1 _ V) v⟩
   |ret=>exact⟨_,j,q,u,g⟩
   |panic U=>exact⟨_,j,q,u,g⟩
   |outgrown=>exact⟨_,j,q,u,g⟩
 obtain⟨e,L,M,u,g⟩:=O m c a w h;exact⟨e,L,M,u,.of_steps (.one Z s0) g⟩
section
variable {P:Program} {C:Cfg} {S:Self} {s0:World} {U:Nat} {D:Nat->Prop} {ρ:Env} {fr:Tr V} {a:Act} {w:World} {h:Heap}
theorem ksq(O:CfgOK P C)(L:SelfOK P C S){N:Nat}{G:Array Oper}{X:List Deferred}{r:Option Nat}{Q:Exit->Act->World->Prop}:∀(l:List Oper) (fr:Tr V) (h:Heap) (q:Tr V) (x:Heap),jfq S C G l fr h=some (q,x) ->(∀o∈l,xVq o=true/\Q0q N o.dst=true) ->
  Mono h x/\∀D ρ a w,x.next<=U->FrE C D ρ fr a->Rel s0 U D ρ h w->a.tmps.size=N->a.defers=X->
   (∀D' j A F,FrE C D' j q A->Rel s0 U D' j x F->Nxt D ρ h w D' j x F->A.tmps.size=N->A.defers=X->Q .normal A F) ->wpListIn (FF r) 0 P G Q l a w
 |[],fr,h,q,x,he,_=>by
  simp only[jfq,Zm,ZR] at he;obtain⟨rfl,rfl⟩:=he;exact⟨Mono.refl _,λD ρ a w _ g b z K k=>by unfold wpListIn;exact k D ρ a w g b (Nxt.refl _ _ _ _) z K⟩
 |o::l,fr,h,q,x,he,hl=>by
  obtain⟨hn,K⟩:=hl o Xi;simp only[jfq] at he;split at he
  .rename_i T;split at he
   .rename_i v h1 B;obtain⟨J,R⟩:=ksq O L (X:=X) (r:=r) (Q:=Q) l _ _ _ _ he (λo B=>hl o (by simp[B]));have m1:=Zcq L B;refine⟨m1.trans J,λD ρ a w E g b z y k=>?_⟩;unfold wpListIn;rw[uTq g T,Zl rfl];have I:=Zt J.nxt E;refine Qyq O L hn B I g b λD1 M w1 H Y W=>?_
    refine R D1 M _ w1 E ((g.next b.lt I Y).put (by rw[z];exact K) W) H (by cases o.dst<;>simp[Act.put,z]) (by cases o.dst<;>simp[Act.put,y]) ?_;exact λD' j A F q1 q2 q3 q4 Z=>k D' j A F q1 q2 (Y.trans b.lt E q3) q4 Z
   .cases he
  .rename_i T;obtain⟨J,R⟩:=ksq O L (X:=X) (r:=r) (Q:=Q) l _ _ _ _ he (λo B=>hl o (by simp[B]));refine⟨J,λD ρ a w E g b z y k=>?_⟩;unfold wpListIn;rw[uTq g T,Zg Xi];refine⟨λf _=>Jwq r f,R D ρ _ w E (g.put (v:=.undef) (by rw[z];exact K) trivial) b (by cases o.dst<;>simp[Act.put,z]) (by cases o.dst<;>simp[Act.put,y]) k⟩
  .cases he
def kaq(P:Program)(C:Cfg)(N:Nat)(ev:St->Option (Exit×St))(W:Option Nat->(Exit->Act->World->Prop) ->Act->World->Prop):Prop:=
 ∀d x b,ev d=some (x,b) ->Mono d.h b.h/\∀s0 U r f D ρ a w Q,b.h.next<=U->StR C s0 U N r f D ρ d a w->
  (∀D' c g e,StR C s0 U N r f D' c b g e->Nxt D ρ d.h w D' c b.h e->Q x g e) ->W r Q a w
structure FlowOK(P:Program)(C:Cfg)(F:Flow) where
 m:Nat
 loop:∀N c,yQq N c=true->kaq P C N (F.loop c) (λr Q a w=>Code.roundsIn (FF r) 0 P c Q m a w)
 scope:∀N c l,yQq N c=true->kaq P C N (F.scope c l) (λr Q a w=>ZTq (FF r) 0 P c Q m l a w)
def Jmq(P:Program)(C:Cfg)(S:Self):Prop:=∀(N:Nat) (b:Array Oper) (id:Nat) (fr:Tr V) (h:Heap) (e:Tr V) (d:Heap),fXq N b.toList b.size=true->y7q S C b b.toList 0 [] fr h=some (e,d) ->
 Mono h d/\∀s0 U r D ρ a w X Q,d.next<=U->FrE C D ρ fr a->Rel s0 U D ρ h w->a.tmps.size=N->a.defers=X->
  (∀D' c f g,FrE C D' c e f->Rel s0 U D' c d g->Nxt D ρ h w D' c d g->f.tmps.size=N->f.defers=X->Q .normal f g) ->(Code.region id b true).wpIn (FF r) 0 P Q a w
theorem Rel.gone(r:Rel s0 U D ρ h w){i:Nat}{b:Blk}{Q:Obj}{E:World}(B:D i)(A:h.get i=some b)(G:b.own=true)(t:Turned (ρ.b i) Q w E):Rel s0 U D ρ (h.kill i) E/\Nxt D ρ h w D ρ (h.kill i) E:=by
 have u:∀j c,(h.kill i).get j=some c->j≠i/\h.get j=some c:=λj c q=>by
  rw[Heap.get_kill] at q;split at q
  .cases q
  .rename_i e;exact⟨e,q⟩
 have J:=r.blt A;have M:=xCq h.wmin i;have W:=r.own i b B A G
 have O:∀j c,D j->j≠i->h.get j=some c->ρ.b j≠ρ.b i:=λj c p I q e=>by
  by_cases y:c.own=true
  .exact r.inj j i c b p B q A y G I e
  .exact r.old j i c b p B q A (by simpa using y) G e
 refine⟨⟨r.lt,λj p=>?_,λj c p q=>?_,λj c p q=>r.clo j c p (u j c q).2,λj k c d p z q F=>r.inj j k c d p z (u _ _ q).2 (u _ _ F).2,λj c p q=>r.own j c p (u _ _ q).2,λj k c d p z q F=>r.old j k c d p z (u _ _ q).2 (u _ _ F).2,?_⟩,?_⟩
 .have p:h.next<=j:=p;rw[Heap.get_kill];split
  .rfl
  .exact r.wf j p
 .obtain⟨R,L⟩:=u j c q;obtain⟨o,N,T⟩:=r.has j c p L;exact⟨o,by rw[t.other _ (O j c p R L)];exact N,T⟩
 .exact⟨t.os.trans r.base.os,t.tape.trans r.base.tape,t.output.trans r.base.output,by rw[t.size];exact r.base.size,λk z=>(t.other k Xd).trans (r.base.block k z)⟩
 .refine⟨λ_ h=>h,λ_ h=>.inl h,λ_ _=>⟨rfl,rfl,rfl,rfl⟩,λc _ H=>t.other c λe=>H i B M.2 J e.symm,λj _ X K=>?_,Nat.le_of_eq t.size.symm,M.1,Zb _,t.os,t.tape,t.output⟩;have K:j<h.next:=K;omega
theorem StR.next{N:Nat}{r:Option Nat}{j:List Deferred}{c:St}{D':Nat->Prop}{b:Env}{e:Heap}{i:World}(g:StR C s0 U N r j D ρ c a w)(l:e.next<=U)(n:Nxt D ρ c.h w D' b e i)(f:Rel s0 U D' b e i):StR C s0 U N r j D' b ⟨c.fr,e,c.ds,c.rd⟩ a i:=by
 refine⟨g.fr.next g.rel.lt l n,f,g.size,?_,λd k=>n.sub d (g.din d k),g.rd⟩;rw[g.defs];refine Zc (· ++j) (List.map_congr_left λd k=>?_);have:=n.agree g.rel.lt l d 0 ⟨g.din d k,Zf _⟩;simp[mkD,this.1]
theorem Zsq{d:St}{Dd l:Nat}{x:Exit}{b:St}(c:k7q d Dd l h=some (x,b)):Mono h b.h:=by
 unfold k7q at c;split at c<;>first|(cases c;done)|(cases c;exact Zgq _ _)
theorem jNq(hC:CfgOK P C)(hS:SelfOK P C S){F:Flow}(hF:FlowOK P C F)(hR:Jmq P C S){N:Nat}:∀c:Code,yQq N c=true->kaq P C N (zgq S F C c) (λr Q a w=>c.wpIn (FF r) 0 P Q a w)
 |.skip,_=>λB x G j=>by
  simp only[zgq,Zm,ZR] at j;obtain⟨rfl,rfl⟩:=j;exact⟨Mono.refl _,λs0 U r H D ρ a w Q E g k=>wpIn_skip (k D ρ a w g (Nxt.refl _ _ _ _))⟩
 |.label _,_=>λB x G j=>by
  simp only[zgq,Zm,ZR] at j;obtain⟨rfl,rfl⟩:=j;exact⟨Mono.refl _,λs0 U r H D ρ a w Q E g k=>wpIn_label (k D ρ a w g (Nxt.refl _ _ _ _))⟩
 |.exit id,_=>λB x G j=>by
  simp only[zgq,Zm,ZR] at j;obtain⟨rfl,rfl⟩:=j;exact⟨Mono.refl _,λs0 U r H D ρ a w Q E g k=>wpIn_exit (k D ρ a w g (Nxt.refl _ _ _ _))⟩
 |.goto id,_=>λB x G j=>by
  simp only[zgq,Zm,ZR] at j;obtain⟨rfl,rfl⟩:=j;exact⟨Mono.refl _,λs0 U r H D ρ a w Q E g k=>wpIn_goto (k D ρ a w g (Nxt.refl _ _ _ _))⟩
 |.ret,_=>λB x G j=>by
  simp only[zgq,Zm,ZR] at j;obtain⟨rfl,rfl⟩:=j;exact⟨Mono.refl _,λs0 U r H D ρ a w Q E g k=>wpIn_ret (k D ρ a w g (Nxt.refl _ _ _ _))⟩
 |.refuse _,_=>λB x G j=>by simp[zgq] at j
 |.seq c d,hok=>λB x G j=>by
  simp only[yQq,Zd] at hok;have s1:=jNq hC hS hF hR c hok.1;have s2:=jNq hC hS hF hR d hok.2;simp only[zgq] at j;split at j
  .rename_i st1 h1;obtain⟨J,L⟩:=s1 _ _ _ h1;obtain⟨m2,k2⟩:=s2 _ _ _ j;refine⟨J.trans m2,λs0 U r H D ρ a w Q E g k=>wpIn_seq (L s0 U r H D ρ a w _ (Zt m2.nxt E) g λD1 I a1 w1 g1 O=>?_)⟩;exact k2 s0 U r H D1 I a1 w1 Q E g1 λD2 ρ2 a2 w2 g2 n2=>k D2 ρ2 a2 w2 g2 (O.trans g.rel.lt E n2)
  .rename_i hne;obtain⟨J,L⟩:=s1 _ _ _ j;refine⟨J,λs0 U r H D ρ a w Q E g k=>wpIn_seq (L s0 U r H D ρ a w _ E g λD1 I a1 w1 g1 O=>?_)⟩;have hq:=k D1 I a1 w1 g1 O;cases x with
   |normal=>exact absurd j (hne G)
   |_=>exact hq
 |.cond c x y,hok=>λB e G j=>by
  simp only[yQq,Zd] at hok;simp only[zgq] at j;split at j
  .rename_i hc;obtain⟨J,L⟩:=jNq hC hS hF hR x hok.1 _ _ _ j;refine⟨J,λs0 U r H D ρ a w Q E g k=>wpIn_cond_true ?_ (L s0 U r H D ρ a w Q E g k)⟩;have:=(g.fr.ev hc).1;simpa[abq] using this
  .rename_i hc;obtain⟨J,L⟩:=jNq hC hS hF hR y hok.2 _ _ _ j;refine⟨J,λs0 U r H D ρ a w Q E g k=>wpIn_cond_false ?_ (L s0 U r H D ρ a w Q E g k)⟩;have:=(g.fr.ev hc).1;simpa[abq] using this
  .cases j
 |.block id c,hok=>λB x G j=>by
  simp only[yQq] at hok;have s1:=jNq hC hS hF hR c hok;simp only[zgq] at j;split at j
  .rename_i id' st1 h1;obtain⟨J,L⟩:=s1 _ _ _ h1;split at j
   .rename_i T;rw[ZH] at T;cases j;refine⟨J,λs0 U r H D ρ a w Q E g k=>wpIn_block (L s0 U r H D ρ a w _ E g λD1 I a1 w1 g1 O=>?_)⟩;simp only[Exit.inBlock,T,if_true];exact k D1 I a1 w1 g1 O
   .rename_i T;have T:¬id'=id:=λe=>by rw[Jvq e] at T;cases T
    cases j;refine⟨J,λs0 U r H D ρ a w Q E g k=>wpIn_block (L s0 U r H D ρ a w _ E g λD1 I a1 w1 g1 O=>?_)⟩;simp only[Exit.inBlock,T,if_false];exact k D1 I a1 w1 g1 O
  .rename_i hne;obtain⟨J,L⟩:=s1 _ _ _ j;refine⟨J,λs0 U r H D ρ a w Q E g k=>wpIn_block (L s0 U r H D ρ a w _ E g λD1 I a1 w1 g1 O=>?_)⟩;have hq:=k D1 I a1 w1 g1 O;cases x with
   |exit id'=>exact absurd j (hne id' G)
   |_=>exact hq
 |.loop c,hok=>λB x G j=>by
  simp only[yQq] at hok;simp only[zgq] at j;obtain⟨J,L⟩:=hF.loop N c hok _ _ _ j;exact⟨J,λs0 U r H D ρ a w Q E g k=>wpIn_loop_rounds _ (L s0 U r H D ρ a w Q E g k)⟩
 |.scope c,hok=>λB x G j=>by
  simp only[yQq] at hok;have s1:=jNq hC hS hF hR c hok;simp only[zgq] at j;split at j
  .rename_i l st1 h1;obtain⟨J,L⟩:=s1 _ _ _ h1;obtain⟨m2,k2⟩:=hF.scope N c l hok _ _ _ j;refine⟨J.trans m2,λs0 U r H D ρ a w Q E g k=>vRq hF.m (L s0 U r H D ρ a w _ (Zt m2.nxt E) g λD1 I a1 w1 g1 O=>?_)⟩;exact k2 s0 U r H D1 I a1 w1 Q E g1 λD2 ρ2 a2 w2 g2 n2=>k D2 ρ2 a2 w2 g2 (O.trans g.rel.lt E n2)
  .rename_i hne;obtain⟨J,L⟩:=s1 _ _ _ j;refine⟨J,λs0 U r H D ρ a w Q E g k=>vRq hF.m (L s0 U r H D ρ a w _ E g λD1 I a1 w1 g1 O=>?_)⟩;have hq:=k D1 I a1 w1 g1 O;cases x with
   |goto l=>exact absurd j (hne l G)
   |_=>exact hq
 |.region id ops dr,hok=>λB x G j=>by
  simp only[yQq,Zd] at hok;cases dr with
  |false=>
   simp only[zgq] at j;split at j
   .rename_i fr h he1;cases j
    have hall:∀o∈ops.toList,xVq o=true/\Q0q N o.dst=true:=λo ho=>by
     have:=List.all_eq_true.1 hok.1 o ho;simpa using this
    have J:=(ksq (s0:=default) (U:=0) (X:=[]) (r:=none) (Q:=λ_ _ _=>True) hC hS ops.toList _ _ _ _ he1 hall).1;refine⟨J,λs0 U r H D ρ a w Q E g k=>?_⟩
    have L:=(ksq (s0:=s0) (U:=U) (X:=a.defers) (r:=r) (Q:=Q) hC hS ops.toList _ _ _ _ he1 hall).2 D ρ a w E g.fr g.rel g.size rfl λD' ρ' a' w' R W q3 q4 q5=>by
     refine k D' ρ' a' w' ?_ q3;have:=g.next E q3 W;exact⟨R,W,q4,by rw[q5];exact this.defs,this.din,g.rd⟩
    have e:ops=ops.toList.toArray:=by simp
    rw[e];exact wpIn_region_lit (by rw[<-e];exact L)
   .cases j
  |true=>
   simp only[zgq] at j;split at j
   .rename_i fr h he1;cases j;have hb:fXq N ops.toList ops.size=true:=by simpa using hok.2
    obtain⟨J,L⟩:=hR N ops id _ _ _ _ hb he1;refine⟨J,λs0 U r H D ρ a w Q E g k=>?_⟩;refine L s0 U r D ρ a w a.defers Q E g.fr g.rel g.size rfl λD' ρ' a' w' R W q3 q4 q5=>?_
    refine k D' ρ' a' w' ?_ q3;have:=g.next E q3 W;exact⟨R,W,q4,by rw[q5];exact this.defs,this.din,g.rd⟩
   .cases j
 |.rangeFunc gop ps asg bd,hok=>λB x G j=>by
  simp only[yQq,Zd] at hok;simp only[zgq] at j;split at j
  .rename_i gf cs hrd hg;split at j
   .rename_i u h3 Z;have J:=hS.fnMono _ _ _ _ _ Z;have m2:=Zsq j;refine⟨((yAq _ _).trans (yAq _ _)).trans (J.trans m2),λs0 U r H D ρ a w Q E K k=>?_⟩
    have hrn:r=none:=by
     have:=K.rd;rw[hrd] at this;cases r with
     |none=>rfl
     |some l=>cases this
    subst hrn;obtain⟨hev,hcin⟩:=K.fr.ev hg;have hU3:h3.next<=U:=Zt m2.nxt E;have hU2:B.h.next+1+1<=U:=Zt J.nxt hU3;refine wpIn_rangeFunc (F:=FF none) (n:=0) ?_;intro fn _
    --the two blocks
    obtain⟨r1,O⟩:=K.rel.push (b:=.dfr false) (o:=.deferred (some [])) (pre:=0) (cap:=0) Xd (jPq w _) (heap_alloc_new w _) rfl trivial rfl;have hag1:=O.agree K.rel.lt (U:=U) (by show B.h.next+1<=U;omega);have hdd1:=O.dd K.rel.lt (U:=U) (by show B.h.next+1<=U;omega);have hb1:(ρ.add B.h.next w.heap.size 0 0).b B.h.next=w.heap.size:=by simp[Env.add]
    obtain⟨W1,hW1⟩:∃W1,(w.alloc (.deferred (some []))).alloc (.loop {state:=.ready,pending:=none,fn,tmps:=a.tmps,params:=ps,assign:=asg,body:=bd,defers:=w.heap.size})=W1:=⟨_,rfl⟩
    have hsz1:(w.alloc (.deferred (some []))).heap.size=w.heap.size+1:=by simp
    have hne:B.h.next+1≠B.h.next:=by omega
    obtain⟨r2,n2⟩:=r1.push (b:=.loop .ready none B.fr ps asg bd B.h.next) (o:=.loop {state:=.ready,pending:=none,fn,tmps:=a.tmps,params:=ps,assign:=asg,body:=bd,defers:=w.heap.size}) (pre:=0) (cap:=0) (by exact hU2) (jPq _ _) (heap_alloc_new _ _) rfl
     ⟨λt v hv=>(K.fr.in_ t v hv).mono hdd1,.inr rfl,Zf _⟩
     ⟨fn,a.tmps,by simp[Env.add,Heap.push],λt v hv=>by
      have hx:=K.fr.at_ t v hv;have hi:=K.fr.in_ t v hv;rw[hx];congr 1
      rw[qaq (Env.add_agree (r1.next_new (by exact hU2))) (hi.mono hdd1),qaq hag1 hi],by simp[Env.add],λp hp=>by
      have:=List.all_eq_true.1 hok.1.1 p hp;rw[K.size];simpa using this,by rw[K.size];exact hok.1.2,by rw[K.size];exact hok.2⟩
    rw[hsz1] at r2 n2;rw[hW1] at r2 n2;have n12:=O.trans K.rel.lt (by exact hU2) n2;have hag2:=n12.agree K.rel.lt (U:=U) (by exact hU2);have hdd2:=n12.dd K.rel.lt (U:=U) (by exact hU2)
    refine⟨w.heap.size+1,[{target:=.collected w.heap.size,args:= #[]}],W1,{target:=.fn (.func gf) (zPq ρ cs).toArray,args:= #[.func (.yield (w.heap.size+1)) #[] #[]]},W1,gf,
     #[.func (.yield (w.heap.size+1)) #[] #[]]++(zPq ρ cs).toArray,W1,?_,?_,?_,?_,(by simp[ZHq]),?_⟩
    .rw[<-hW1];exact run_enterLoop_outer _ _ _ _ _
    .simp only[resolve,hev,abq];simp[go_sem,zPq]
    .intro f' _;exact Jwq none f'
    .simp[invoke,go_sem,hS.fnEnter _ _ _ _ _ Z]
    .refine f8q (callsIn_wide.2 ?_)
     have hargs:(zPq ((ρ.add B.h.next w.heap.size 0 0).add (B.h.next+1) (w.heap.size+1) 0 0) ([.yield (B.h.next+1)]++cs)).toArray= #[.func (.yield (w.heap.size+1)) #[] #[]]++(zPq ρ cs).toArray:=by
      have:=qGq hag2 (l:=cs) hcin.2;simp only[List.singleton_append,zPq];have e:zPq ((ρ.add B.h.next w.heap.size 0 0).add (B.h.next+1) (w.heap.size+1) 0 0) cs=zPq ρ cs:=this;rw[e];apply Array.ext';simp[abq,Env.add]
     have hgl:=GlobOK.next K.fr.gl K.rel.lt (by exact hU2) n12;have key:=hS.fn _ _ _ _ _ Z s0 U _ _ W1 hU3 hgl ⟨⟨.inr rfl,Zf _⟩,InDL.mono hdd2 hcin.2⟩ r2;have hargs':(zPq ((ρ.add B.h.next w.heap.size 0 0).add (B.h.push (.dfr false)).next (w.heap.size+1) 0 0) ([.yield (B.h.next+1)]++cs)).toArray= #[.func (.yield (w.heap.size+1)) #[] #[]]++(zPq ρ cs).toArray:=hargs;rw[hargs'] at key;refine key.mono ?_;rintro e w3 ⟨D3,ρ3,rfl,r3,n3,_⟩;have n13:=n12.trans K.rel.lt hU3 n3;have hlD:D3 (B.h.next+1):=n3.sub _ Jr
     have hbl:ρ3.b (B.h.next+1)=w.heap.size+1:=by
      have:=(n3.env (B.h.next+1) (.inl (by show B.h.next+1<B.h.next+1+1;omega))).1;rw[this];simp[Env.add,Heap.push]
     have hbd:ρ3.b B.h.next=w.heap.size:=by
      have:=(n3.env B.h.next (.inl (by show B.h.next<B.h.next+1+1;omega))).1;rw[this];simp[Env.add,Heap.push]
     have hdD:D3 B.h.next:=n3.sub _ (.inl Jr)
     --its end
     have fin:∀(stt:LoopState) (pe:Option Code) fr' ps' as' bd' d',stt≠ .busy->h3.get (B.h.next+1)=some (.loop stt pe fr' ps' as' bd' d') ->
       ∃w4,(Instr.endLoop (w.heap.size+1)).run P w3= .ok pe w4/\(∀stx:Exit,G=⟨B.fr,h3.kill (B.h.next+1),B.h.next::B.ds,B.rd⟩ ->x=stx->Q stx {a with defers:=[{target:=.collected w.heap.size,args:= #[]}]++a.defers} w4):=λstt pe fr' ps' as' bd' d' hb hget=>by
      obtain⟨o,R,W⟩:=r3.has _ _ hlD hget;obtain⟨fn',tmps',rfl,_,_,_,_,_⟩:=W;rw[hbl] at R;refine⟨_,run_endLoop R hb,λstx hst hx=>?_⟩;subst hst;subst hx;have ht:=qAq (w:=w3) (b:=w.heap.size+1) (.loop {state:=.exhausted,pending:=pe,fn:=fn',tmps:=tmps',params:=ps',assign:=as',body:=bd',defers:=ρ3.b d'}) (Zs.1 R).1;rw[<-hbl] at ht;obtain⟨r4,n4⟩:=r3.gone hlD hget rfl ht;rw[hbl] at r4 n4;have n14:=n13.trans K.rel.lt (by exact hU3) n4;have g4:=K.next (by exact hU3) n14 r4;refine k D3 ρ3 _ _ ⟨⟨g4.fr.at_,g4.fr.in_,g4.fr.gl⟩,r4,K.size,?_,λd hd=>?_,K.rd⟩ n14
      .simp only[ZD,List.singleton_append];rw[g4.defs];simp[mkD,hbd]
      .rcases ZB.1 hd with rfl|hd
       .exact hdD
       .exact n13.sub d (K.din d hd)
     unfold k7q at j;split at j
     .rename_i hget;cases j;obtain⟨w4,R,W⟩:=fin _ _ _ _ _ _ _ Xi hget;exact⟨none,w4,R,W _ Y Y⟩
     .rename_i hget;cases j;obtain⟨w4,R,W⟩:=fin _ _ _ _ _ _ _ Xi hget;exact⟨some .ret,w4,R,wpIn_ret (W _ Y Y)⟩
     .rename_i hget;cases j;obtain⟨w4,R,W⟩:=fin _ _ _ _ _ _ _ Xi hget;exact⟨_,w4,R,wpIn_exit (W _ Y Y)⟩
     .rename_i hget;cases j;obtain⟨w4,R,W⟩:=fin _ _ _ _ _ _ _ Xi hget;exact⟨_,w4,R,wpIn_goto (W _ Y Y)⟩
     .cases j
   .cases j
  .cases j
end
section
variable {C:Cfg} {fr fr':Tr V}
theorem uFq:∀{l:List Operand},(∀x∈l,evV C fr x=evV C fr' x) ->evL C fr l=evL C fr' l
 |[],_=>rfl
 |x::l,h=>by simp only[evL,h x Xi,uFq (l:=l) λy a=>h y (by simp[a])]
theorem xxq{d:Nat}{x:Option Operand}(h:∀y,x=some y->evV C fr y=evV C fr' y):azq C fr d x=azq C fr' d x:=by
 cases x with
 |none=>rfl
 |some y=>simp only[azq,h y rfl]
theorem QRq{t:TypeId}:∀{l:List (Nat×Operand)} {v:V},(∀p∈l,evV C fr p.2=evV C fr' p.2) ->QSq C fr t v l=QSq C fr' t v l
 |[],_,_=>rfl
 |(i,x)::l,v,h=>by
  simp only[QSq,h (i,x) Xi];have a:=λv=>QRq (t:=t) (l:=l) (v:=v) λp b=>h p (by simp[b])
  repeat' split
  all_goals first|rfl|exact a _
theorem QTq{e:Nat}:∀{l:List (Nat×Operand)} {v:V},(∀p∈l,evV C fr p.2=evV C fr' p.2) ->Jtq C fr e v l=Jtq C fr' e v l
 |[],_,_=>rfl
 |(i,x)::l,v,h=>by
  simp only[Jtq,h (i,x) Xi];have a:=λv=>QTq (e:=e) (l:=l) (v:=v) λp b=>h p (by simp[b])
  repeat' split
  all_goals first|rfl|exact a _
theorem vvq{m:TypeId}(o:Op)(h:∀x∈o.operands,evV C fr x=evV C fr' x):ylq C fr m o=ylq C fr' m o:=by
 cases o<;>simp only[Op.operands] at h
 case unOp op t x=>
  have g:=h x Xi;cases op<;>simp only[ylq,qnq,z3q,zOq,z1q,z2q,z0q,yxq,zTq,zJq,yFq,yDq,zBq,zAq,yCq,yuq,znq,yfq,jvq,jtq,juq,g]
 case makeFunc fn first captured=>
  have g:=uFq (C:=C) (fr:=fr) (fr':=fr') (l:=first.toList) λx i=>h x (by simp at i;simp[i])
  have k:=uFq (C:=C) (fr:=fr) (fr':=fr') (l:=captured.toList) λx i=>h x (by simp at i;simp[i])
  cases fn<;>simp only[ylq,qnq,z3q,zOq,z1q,z2q,z0q,yxq,zTq,zJq,yFq,yDq,zBq,zAq,yCq,yuq,znq,yfq,jvq,jtq,juq,g,k]
 case build t ps=>
  have g:=λv=>QRq (C:=C) (fr:=fr) (fr':=fr') (t:=t) (l:=ps.toList) (v:=v) λp q=>h p.2 (by simp at q;simp;exact⟨p.1,q⟩)
  simp only[ylq,qnq,z3q,zOq,z1q,z2q,z0q,yxq,zTq,zJq,yFq,yDq,zBq,zAq,yCq,yuq,znq,yfq,jvq,jtq,juq,g]
 case slice t x lo hi mx=>
  have g:=h x Xi;have k:=λd=>xxq (C:=C) (fr:=fr) (fr':=fr') (d:=d) (x:=lo) λy j=>h y (by simp[j])
  have n:=λd=>xxq (C:=C) (fr:=fr) (fr':=fr') (d:=d) (x:=hi) λy j=>h y (by simp[j])
  cases mx with
  |none=>simp only[ylq,qnq,z3q,zOq,z1q,z2q,z0q,yxq,zTq,zJq,yFq,yDq,zBq,zAq,yCq,yuq,znq,yfq,jvq,jtq,juq,g,k,n]
  |some z=>
   have s:=xxq (C:=C) (fr:=fr) (fr':=fr') (d:=0) (x:=some z) λy j=>h y (by simp at j;simp[j])
   simp only[ylq,qnq,z3q,zOq,z1q,z2q,z0q,yxq,zTq,zJq,yFq,yDq,zBq,zAq,yCq,yuq,znq,yfq,jvq,jtq,juq,g,k,n,s]
 case call c=>
  obtain⟨f,a,e⟩:=c;obtain⟨a⟩:=a;obtain⟨e⟩:=e;have r:∀x∈a,evV C fr x=evV C fr' x:=λx i=>h x (by simp[Call.operands,i])
  cases f<;>try rfl
  rename_i b;cases b<;>try rfl
  all_goals
   rcases a with _|⟨x,_|⟨y,_|⟨z,l⟩⟩⟩<;>rcases e with _|⟨t,_|⟨u,_|⟨z',e⟩⟩⟩<;>simp only[ylq,qnq,z3q,zOq,z1q,z2q,z0q,yxq,zTq,zJq,yFq,yDq,zBq,zAq,yCq,yuq,znq,yfq,jvq,jtq,juq]<;>(first|rfl|(simp only[ZB,ZW,or_false,forall_eq_or_imp,forall_eq] at r;simp only[r]))
 all_goals first|rfl|(simp only[List.mem_toArray,ZB,ZW,or_false,forall_eq_or_imp,forall_eq] at h;simp only[ylq,qnq,z3q,zOq,z1q,z2q,z0q,yxq,zTq,zJq,yFq,yDq,zBq,zAq,yCq,yuq,znq,yfq,jvq,jtq,juq,h])
theorem ieq{H:Heap}(o:Op)(h:∀x∈o.operands,evV C fr x=evV C fr' x):opH C fr H o=opH C fr' H o:=by
 cases o<;>simp only[Op.operands] at h
 case buildSlice t n ps=>
  have j:=λe v=>QTq (C:=C) (fr:=fr) (fr':=fr') (e:=e) (l:=ps.toList) (v:=v) λp k=>h p.2 (by simp at k;simp;exact⟨p.1,k⟩)
  simp only[opH,zzq,ywq,z8q,z9q,qwq,zkq,zsq,zNq,yzq,z4q,j]
 case slice t x lo hi mx=>
  have j:=h x Xi;have r:=λd=>xxq (C:=C) (fr:=fr) (fr':=fr') (d:=d) (x:=lo) λy i=>h y (by simp[i])
  have s:=λd=>xxq (C:=C) (fr:=fr) (fr':=fr') (d:=d) (x:=hi) λy i=>h y (by simp[i])
  simp only[opH,zzq,ywq,z8q,z9q,qwq,zkq,zsq,zNq,yzq,z4q,j,r,s]
 case call c=>
  obtain⟨g,a,f⟩:=c;obtain⟨a⟩:=a;obtain⟨f⟩:=f;have m:∀x∈a,evV C fr x=evV C fr' x:=λx q=>h x (by simp[Call.operands,q])
  cases g<;>try rfl
  rename_i b;cases b<;>try rfl
  all_goals
   rcases a with _|⟨x,_|⟨y,_|⟨z,l⟩⟩⟩<;>rcases f with _|⟨t,_|⟨u,_|⟨z',f⟩⟩⟩<;>simp only[opH,zzq,ywq,z8q,z9q,qwq,zkq,zsq,zNq,yzq,z4q]<;>(first|rfl|(simp only[ZB,ZW,or_false,forall_eq_or_imp,forall_eq] at m;simp only[m]))
 all_goals first|rfl|(simp only[List.mem_toArray,ZB,ZW,or_false,forall_eq_or_imp,forall_eq] at h;simp only[opH,zzq,ywq,z8q,z9q,qwq,zkq,zsq,zNq,yzq,z4q,h])
theorem dKq{S:Self}{H:Heap}(o:Op)(h:∀x∈o.operands,evV C fr x=evV C fr' x):jBq S C fr H o=jBq S C fr' H o:=by
 cases o<;>try rfl
 rename_i c;obtain⟨a,d,i⟩:=c;cases a with
 |builtin b=>rfl
 |value x=>
  have f:=h x (by simp[Op.operands,Call.operands]);have g:=uFq (C:=C) (fr:=fr) (fr':=fr') (l:=d.toList) λy e=>h y (by simp at e;simp[Op.operands,Call.operands,e])
  simp only[jBq,f,g]
 |invoke x m=>
  have f:=h x (by simp[Op.operands,Call.operands]);have g:=uFq (C:=C) (fr:=fr) (fr':=fr') (l:=d.toList) λy e=>h y (by simp at e;simp[Op.operands,Call.operands,e])
  simp only[jBq,f,g]
theorem Zdq{S:Self}{H:Heap}(o:Oper)(h:∀x∈o.op.operands,evV C fr x=evV C fr' x):opV S C fr H o=opV S C fr' H o:=by
 unfold opV;rw[vvq o.op h,ieq o.op h,dKq o.op h]
theorem Tr.cut{a:Type}(t:Tr a)(L:List Nat):∃u:Tr a,∀k,u.get k=if k∈L then t.get k else none:=by
 induction L with
 |nil=>exact⟨.nil,λk=>by simp[Tr.get_nil]⟩
 |cons x L d=>
  obtain⟨u,c⟩:=d;refine⟨u.set x (t.get x),λk=>?_⟩;rw[Tr.get_set,c];by_cases e:k=x
  .subst e;simp
  .simp[e]
theorem Tr.of{a:Type}(g:Nat->Option a)(n:Nat):∃t:Tr a,∀k,t.get k=if k<n then g k else none:=by
 induction n with
 |zero=>exact⟨.nil,λk=>by simp[Tr.get_nil]⟩
 |succ n d=>
  obtain⟨u,c⟩:=d;refine⟨u.set n (g n),λk=>?_⟩;rw[Tr.get_set,c];by_cases e:k=n
  .subst e;simp
  .rw[Zg e];by_cases h:k<n
   .rw[Zl h,Zl Xd]
   .rw[Zg h,Zg Xd]
theorem Buq{a:Array Oper}{o:Oper}(h:∀t∈o.looksAt a,fr'.get t=fr.get t):∀x∈o.op.operands,evV C fr x=evV C fr' x:=λx b=>by
 cases x with
 |tmp t=>
  have:t∈o.looksAt a:=List.mem_append_left _ (List.mem_filterMap.2 ⟨.tmp t,by simpa using b,rfl⟩);simp only[evV,h t this]
 |_=>rfl
theorem e9q{c:Array Oper}{o:Oper}(h:∀t∈o.looksAt c,fr'.get t=fr.get t):Y9q c fr o=Y9q c fr' o:=by
 unfold Y9q;split
 .rfl
 .rename_i j b g;split
  .rfl
  .rename_i t d;rw[h t (List.mem_append_right _ (by simp[g,d]))]
end
def StepAt(S:Self)(C:Cfg)(a:Array Oper)(o:Oper)(b:Tr V)(h:Heap)(v:V)(c:Heap)(x:Option Ev):Prop:=
 (Y9q a b o=some false/\v= .undef/\c=h/\x=none)\/(Y9q a b o=some true/\Jrq S C b h o=some (v,c,x))
structure Trace(S:Self)(C:Cfg)(ops:Array Oper)(l:List Oper)(i:Nat)(es:List (Nat×Ev))(fr:Tr V)(h:Heap)(fr':Tr V)(h':Heap)(frs:Nat->Tr V)(hs:Nat->Heap)(vs:Nat->V)(xs:Nat->Option Ev):Prop where
 f0:frs 0=fr
 h0:hs 0=h
 fn:frs l.length=fr'
 hn:hs l.length=h'
 st:∀j o,l[j]? =some o->StepAt S C ops o (frs j) (hs j) (vs j) (hs (j+1)) (xs j)/\frs (j+1)=aBq (frs j) o.dst (vs j)
 cl:∀j o x,l[j]? =some o->xs j=some x->(∀k y,(k,y)∈es->y.clash x=true->ubq ops ops.size (i+j) k=true)/\∀k y,k<j->xs k=some y->y.clash x=true->ubq ops ops.size (i+j) (i+k)=true
def con{a:Type}(x:a)(f:Nat->a):Nat->a
 |0=>x
 |j+1=>f j
theorem J1q{b:Array Oper}{j:Nat}{x:Ev}:∀{d:List (Nat×Ev)},dwq b j x d=true->∀k y,(k,y)∈d->y.clash x=true->ubq b b.size j k=true
 |[],_,_,_,h,_=>by simp at h
 |(k',y')::d,he,k,y,h,hc=>by
  simp only[dwq,Zd] at he;rcases ZB.1 h with e|h
  .cases e;have:=he.1;rw[hc] at this;exact this
  .exact J1q he.2 k y h hc
theorem JUq{S:Self}{C:Cfg}{b:Array Oper}:∀(l:List Oper) (i:Nat) (G:List (Nat×Ev)) (D:Tr V) (h:Heap) (A:Tr V) (K:Heap),y7q S C b l i G D h=some (A,K) ->
  ∃frs L M P,Trace S C b l i G D h A K frs L M P
 |[],i,G,D,h,A,K,g=>by
  simp only[y7q,Zm,ZR] at g;obtain⟨rfl,rfl⟩:=g;exact⟨λ_=>D,λ_=>h,λ_=>.undef,λ_=>none,rfl,rfl,rfl,rfl,by simp,by simp⟩
 | o ::l,i,G,D,h,A,K,g=>by
  have F:∀(v:V) (H:Heap) (x:Option Ev) (E:List (Nat×Ev)),StepAt S C b o D h v H x->(∀y,x=some y->dwq b i y G=true) ->(∀p∈G,p∈E) ->(∀y,x=some y->(i,y)∈E) ->
    y7q S C b l (i+1) E (aBq D o.dst v) H=some (A,K) ->∃frs L M P,Trace S C b (o::l) i G D h A K frs L M P:=λv H x E B I Q X g=>by
   obtain⟨frs,L,M,P,t⟩:=JUq l _ _ _ _ _ _ g;refine⟨con D frs,con h L,con v M,con x P,rfl,rfl,t.fn,t.hn,λj W N=>?_,λj W y N q=>?_⟩
   .cases j with
    |zero=>
     simp at N;subst N
     refine⟨?_,?_⟩
     .show StepAt S C b o D h v (L 0) x;rw[t.h0];exact B
     .exact t.f0
    |succ j=>exact t.st j W (by simpa using N)
   .cases j with
    |zero=>exact⟨λk z R J=>J1q (I y q) k z R J,λk z R=>by omega⟩
    |succ j=>
     obtain⟨U,Y⟩:=t.cl j W y (by simpa using N) q;have e1:i+1+j=i+(j+1):=by omega
     rw[e1] at U Y;refine⟨λk z R J=>U k z (Q _ R) J,λk z R Z J=>?_⟩;cases k with
     |zero=>exact U i z (X z Z) J
     |succ k=>
      have:=Y k z Xd Z J;rwa[show i+1+k=i+(k+1) by omega] at this
  simp only[y7q] at g;split at g
  .rename_i T;split at g
   .rename_i v H x B;split at g
    .rename_i I;exact F v H (some x) _ (.inr ⟨T,B⟩) (λy q=>by cases q;exact I) (λp O=>by simp[O]) (λy q=>by cases q;simp) g
    .cases g
   .rename_i v H B;exact F v H none _ (.inr ⟨T,B⟩) (λy q=>by cases q) (λp O=>O) (λy q=>by cases q) g
   .cases g
  .rename_i T;exact F .undef h none _ (.inl ⟨T,rfl,rfl,rfl⟩) (λy q=>by cases q) (λp O=>O) (λy q=>by cases q) g
  .cases g
theorem KQq(a b:Nat):eCq a b<=a/\eCq a b<=b:=xCq a b
section
variable {P:Program} {C:Cfg} {S:Self} {ops:Array Oper} {o:Oper} {fr:Tr V} {h h' h1:Heap} {v:V} {x:Option Ev}
theorem qSq(b:Jrq S C fr h o=some (v,h',x)):(ylq C fr o.type o.op=some v/\h'=h/\x=none)\/
  (∃h1,ylq C fr o.type o.op=none/\opV S C fr {h with wmin:=h.next} o=some (v,h1)/\h'={h1 with wmin:=eCq h.wmin h1.wmin}/\x=some (auq C fr h h1 o.op)):=by
 unfold Jrq at b;split at b
 .rename_i u f;simp only[Zm,ZR] at b;obtain⟨rfl,rfl,rfl⟩:=b;exact .inl ⟨f,rfl,rfl⟩
 .rename_i f;split at b
  .rename_i u h1 g;simp only[Zm,ZR] at b;obtain⟨rfl,rfl,rfl⟩:=b;exact .inr ⟨h1,f,g,rfl,rfl⟩
  .cases b
def JDq(C:Cfg)(fr:Tr V)(t:TypeId)(g m i:Option Operand)(b c:Nat)(f:Option V):Option V:=match C.ty t with
 |some j=>match j.d with
  |.arr n e=>match C.ty e,azq C fr 0 g,azq C fr n m,i,f with
   |some k,some l,some r,none,some f=>match Nat.beq k.size 0||!Nat.ble l r||!Nat.ble r n||!Nat.ble (c+n*k.size) f.size with
    |true=>none
    |false=>some (.sl b c (c+l*k.size) (r-l) k.size (some (n-l)))
   |_,_,_,_,_=>none
  |_=>none
 |none=>none
theorem cQq{C:Cfg}{fr:Tr V}{t:TypeId}{c g f:Option Operand}{b a:Nat}:JDq C fr t c g f b a none=none:=by
 unfold JDq;cases C.ty t with
 |none=>rfl
 |some j=>
  cases i:j.d<;>simp only[i]
  rename_i n e;cases C.ty e<;>cases azq C fr 0 c<;>cases azq C fr n g<;>cases f<;>rfl
theorem hgq{C:Cfg}{fr:Tr V}{t:TypeId}{x:Operand}{i g f:Option Operand}{b c:Nat}(q:evV C fr x=some (.ptr b c))(H:Heap):z4q C fr H t x i g f=match JDq C fr t i g f b c (H.val b) with
  |some u=>some (u,H)
  |none=>none:=by
 unfold z4q JDq;rw[q];cases C.ty t with
 |none=>rfl
 |some j=>
  cases s:j.d<;>simp only[s]
  rename_i n e;cases C.ty e with
  |none=>cases azq C fr 0 i<;>cases azq C fr n g<;>cases f<;>cases H.val b<;>rfl
  |some k=>
   cases azq C fr 0 i with
   |none=>cases azq C fr n g<;>cases f<;>cases H.val b<;>rfl
   |some l=>
    cases azq C fr n g with
    |none=>cases f<;>cases H.val b<;>rfl
    |some r=>
     cases f with
     |some _=>cases H.val b<;>rfl
     |none=>
      cases H.val b with
      |none=>rfl
      |some m=>
       simp only;cases Nat.beq k.size 0||!Nat.ble l r||!Nat.ble r n||!Nat.ble (c+n*k.size) m.size<;>rfl
theorem dxq{b:Nat}{H1:Heap}(Q:ylq C fr o.type o.op=none)(j:opV S C fr h o=some (v,h1))(g:auq C fr H1 h1 o.op= .load b):
  (h1=h/\∀H2:Heap,H2.get b=h.get b->opV S C fr H2 o=some (v,H2))/\(∃B,h.get b=some B)/\∃x k,x∈o.op.operands/\evV C fr x=some (.ptr b k):=by
 unfold opV at j⊢;simp only[Q] at j⊢;unfold auq at g;split at g
 .rename_i t x q;split at g
  .rename_i N k z;cases g;rw[q] at j;simp only[q];simp only[opH,zzq,ywq,z8q,z9q,qwq,zkq,zsq,zNq,yzq,z4q,z] at j⊢;cases K:C.ty t with
   |none=>simp[K,jBq] at j
   |some i=>
    simp only[K] at j⊢;cases w:h.val b with
    |none=>simp[w,jBq] at j
    |some u=>
     simp only[w] at j;cases F:j6q 50 u k i.size i.agg with
     |none=>simp[F,jBq] at j
     |some r=>
      simp only[F,Zm,ZR] at j;obtain⟨rfl,rfl⟩:=j;refine⟨⟨rfl,λH2 G=>?_⟩,?_,_,k,by simp[Op.operands],z⟩
      .have:H2.val b=some u:=by unfold Heap.val at w⊢;rw[G];exact w
       simp only[this,F]
      .unfold Heap.val at w;cases I:h.get b with
       |none=>rw[I] at w;cases w
       |some B=>exact⟨B,rfl⟩
  .cases g
 .split at g<;>cases g
 .repeat' (split at g)<;>first|(cases g;done)|skip
 .cases g
 .rename_i t x A E D q;split at g
  .rename_i N k z;cases g;rw[q] at j;simp only[q];have M:x∈(Op.slice t x A E D).operands:=by simp[Op.operands]
   have J:∀H:Heap,opH C fr H (.slice t x A E D)=match JDq C fr t A E D b k (H.val b) with
     |some u=>some (u,H)
     |none=>none:=λH=>hgq z H
   have L:∀H:Heap,jBq S C fr H (.slice t x A E D)=none:=λ_=>rfl
   rw[J,L] at j;cases y:JDq C fr t A E D b k (h.val b) with
   |none=>rw[y] at j;cases j
   |some u=>
    rw[y] at j;cases j;refine⟨⟨rfl,λH2 G=>?_⟩,?_,x,k,M,z⟩
    .have O:H2.val b=h.val b:=by simp only[Heap.val,G]
     rw[J,O,y]
    .cases w:h.get b with
     |none=>
      have:h.val b=none:=by simp only[Heap.val,w]
      rw[this] at y;rw[cQq] at y;cases y
     |some B=>exact⟨B,rfl⟩
  .split at g<;>cases g
 .split at g
  .cases g
  .split at g<;>cases g
 .split at g<;>cases g
theorem K9q{b:Nat}{H1:Heap}(E:ylq C fr o.type o.op=none)(f:opV S C fr h o=some (v,h1))(d:auq C fr H1 h1 o.op= .store b):
  (∃B B',h.get b=some B/\h1=h.put b B'/\∀H2:Heap,H2.get b=h.get b->opV S C fr H2 o=some (v,H2.put b B'))/\∃x g,x∈o.op.operands/\evV C fr x=some (.ptr b g):=by
 unfold opV at f⊢;simp only[E] at f⊢;unfold auq at d;split at d
 .split at d<;>cases d
 .rename_i t x y j;split at d
  .rename_i J g D;cases d;rw[j] at f;simp only[j];simp only[opH,zzq,ywq,z8q,z9q,qwq,zkq,zsq,zNq,yzq,z4q,D] at f⊢;cases q:evV C fr y with
   |none=>simp[q,jBq] at f
   |some u=>
    simp only[q] at f⊢;cases A:C.ty t with
    |none=>simp[A,jBq] at f
    |some i=>
     simp only[A] at f⊢;cases w:h.get b with
     |none=>simp[w,jBq] at f
     |some B=>
      simp only[w] at f⊢;cases B with
      |cells I G=>
       cases z:Nat.beq u.size i.size with
       |false=>simp[z,jBq] at f
       |true=>
        simp only[z] at f⊢;cases k:ueq 50 G g u with
        |none=>simp[k,jBq] at f
        |some H=>
         simp only[k,Zm,ZR] at f;obtain⟨rfl,rfl⟩:=f;exact⟨⟨_,_,rfl,rfl,λH2 F=>by simp only[F,k]⟩,_,g,by simp[Op.operands],D⟩
      |_=>simp[jBq] at f
  .cases d
 .repeat' (split at d)<;>first|(cases d;done)|skip
 .cases d
 .split at d
  .cases d
  .split at d<;>cases d
 .split at d
  .cases d
  .split at d<;>cases d
 .split at d<;>cases d
theorem p3q{H1:Heap}(b:auq C fr H1 h1 o.op= .gen):H1.next<=h1.wmin:=by
 unfold auq at b;split at b
 .split at b<;>cases b
 .split at b<;>cases b
 .split at b
  .rename_i d;exact Yb d
  .repeat' (split at b)<;>first|(cases b;done)|skip
 .cases b
 .split at b
  .cases b
  .split at b
   .rename_i d;exact Yb d
   .cases b
 .split at b
  .rename_i d;exact Yb d
  .split at b<;>cases b
 .split at b
  .rename_i d;exact Yb d
  .cases b
theorem tgq{b:Nat}{H1:Heap}(A:ylq C fr o.type o.op=none)(g:opV S C fr h o=some (v,h1))(d:auq C fr H1 h1 o.op= .mk b):b=H1.next/\∃B n k,v= .sl h.next 0 0 n k none/\h1=h.push B/\∀H2:Heap,H2.next=h.next->opV S C fr H2 o=some (v,H2.push B):=by
 unfold opV at g⊢;simp only[A] at g⊢;unfold auq at d;split at d
 .split at d<;>cases d
 .split at d<;>cases d
 .repeat' (split at d)<;>first|(cases d;done)|skip
 .rename_i t n F j;cases d;refine⟨rfl,?_⟩;rw[j] at g⊢;simp only[opH,jBq] at g⊢;split at g
  .rename_i r f;cases g;unfold zkq at f⊢;split at f
   .rename_i i y;split at f
    .rename_i e w;split at f
     .rename_i k D;split at f
      .cases f
      .rename_i E;split at f
       .rename_i u q;cases f;exact⟨_,_,_,rfl,rfl,λH2 z=>by simp only[y,w,D,E,q,z]⟩
       .cases f
     .cases f
    .cases f
   .cases f
  .cases g
 .split at d
  .cases d
  .split at d<;>cases d
 .split at d
  .cases d
  .split at d<;>cases d
 .split at d<;>cases d
theorem oWq{q p:TypeId}{b d k m f:Nat}{j:Option Nat}{x v:V}{h h1:Heap}(c:kVq C h q p (.sl b d k m f j) x=some (v,h1)){i:Nat}(n:i≠b)(r:i<h.next):h1.get i=h.get i:=by
 have a:∀B,(h.push B).get i=h.get i:=λB=>by rw[Heap.get_push,Zg Xd]
 unfold kVq at c;repeat' (split at c)
 all_goals first|(cases c;done)|skip
 all_goals first
  |(cases c;rfl)
  |(cases c;exact a _)
  |(cases c;rw[Heap.get_put,Zg];exact λe=>n (by simp_all))
  |(cases c;rw[Heap.get_kill,Zg];exact a _;exact λe=>n (by simp_all))
  |simp_all
theorem p2q(Q:SelfOK P C S){b:Nat}{H1:Heap}(N:ylq C fr o.type o.op=none)(g:opV S C fr {H1 with wmin:=H1.next} o=some (v,h1))(f:auq C fr H1 h1 o.op= .upd b){i:Nat}(L:i≠b)(j:i<H1.next):h1.get i=H1.get i:=by
 have O:=Zcq Q g;unfold opV at g;simp only[N] at g;unfold auq at f;split at f
 .split at f<;>cases f
 .split at f<;>cases f
 .rename_i Y H A;rw[A] at g;split at f
  .cases f
  .split at f
   .rename_i x y z;split at f
    .rename_i b' D M R I J G;cases f;simp only[opH,zNq] at g;split at g
     .rename_i r w;cases g;split at w
      .rename_i W Z X U k K;rw[z] at k;cases k;split at w
       .rename_i s u F T;rw[G] at F;cases F;exact oWq w L j
       .cases w
      .cases w
     .simp[jBq,z,G] at g;repeat' (split at g)
      all_goals simp_all
    .cases f
   .cases f
 .cases f
 .split at f
  .cases f
  .split at f<;>cases f
 .split at f
  .cases f
  .split at f
   .rename_i q;cases f;rcases ZL i h1.wmin with B|B
    .exact O.keep i j B
    .exact nuq q Xd j
   .cases f
 .split at f<;>cases f
theorem bMq{n:Nat}(b:Mono {h with wmin:=h.next} h1)(g:n<=h.wmin)(d:n<=h1.wmin):Mono h {h1 with wmin:=n}:=
 ⟨b.nxt,λf=>b.wf f,g,λi e c=>b.keep i e (Zv c d)⟩
theorem StepAt.mono(d:SelfOK P C S)(b:StepAt S C ops o fr h v h' x):Mono h h':=by
 rcases b with ⟨_,_,rfl,_⟩|⟨_,b⟩
 .exact Mono.refl _
 .rcases qSq b with ⟨_,rfl,_⟩|⟨h1,_,ho,rfl,_⟩
  .exact Mono.refl _
  .have:=KQq h.wmin h1.wmin;exact bMq (Zcq d ho) this.1 this.2
def Tch(x:Option Ev)(n a i:Nat):Prop:=(n<=i/\i<a)\/x=some (.store i)\/((x=some .dirty\/x=some (.upd i))/\i<n)
theorem StepAt.load{b:Nat}(f:StepAt S C ops o fr h v h' (some (.load b))):h'.next=h.next:=by
 rcases f with ⟨_,_,_,hx⟩|⟨_,f⟩
 .cases hx
 .rcases qSq f with ⟨_,_,hx⟩|⟨h1,hp,ho,rfl,hx⟩
  .cases hx
  .obtain⟨⟨e,_⟩,_⟩:=dxq hp ho Jo;rw[e]
theorem StepAt.store{b:Nat}(d:StepAt S C ops o fr h v h' (some (.store b))):h'.next=h.next/\∃B,h.get b=some B:=by
 rcases d with ⟨_,_,_,hx⟩|⟨_,d⟩
 .cases hx
 .rcases qSq d with ⟨_,_,hx⟩|⟨h1,hp,ho,rfl,hx⟩
  .cases hx
  .obtain⟨⟨B,B',g,f,_⟩,_⟩:=K9q hp ho Jo;exact⟨by rw[f];rfl,B,g⟩
theorem StepAt.mk{b:Nat}(d:StepAt S C ops o fr h v h' (some (.mk b))):b=h.next/\h'.next=h.next+1:=by
 rcases d with ⟨_,_,_,hx⟩|⟨_,d⟩
 .cases hx
 .rcases qSq d with ⟨_,_,hx⟩|⟨h1,hp,ho,rfl,hx⟩
  .cases hx
  .obtain⟨f,B,n,k,_,g,_⟩:=tgq hp ho Jo;exact⟨f,by rw[g];rfl⟩
theorem StepAt.still(d:StepAt S C ops o fr h v h' none):h'=h:=by
 rcases d with ⟨_,_,b,_⟩|⟨_,d⟩
 .exact b
 .rcases qSq d with ⟨_,b,_⟩|⟨h1,_,_,_,b⟩
  .exact b
  .cases b
theorem StepAt.keep(D:SelfOK P C S)(A:StepAt S C ops o fr h v h' x)(m:∀i,h.next<=i->h.get i=none){i:Nat}(z:¬Tch x h.next h'.next i):h'.get i=h.get i:=by
 have F:=A.mono D;by_cases u:h'.next<=i
 .rw[F.wf m i u,m i (Zt F.nxt u)]
 .have d:i<h.next:=by
   rcases ZL i h.next with E|E
   .exact E
   .exact absurd (.inl ⟨E,by omega⟩) z
  rcases A with ⟨_,_,rfl,_⟩|⟨_,A⟩
  .rfl
  .rcases qSq A with ⟨_,rfl,_⟩|⟨h1,hp,ho,rfl,hx⟩
   .rfl
   .cases j:auq C fr h h1 o.op with
    |load b=>obtain⟨⟨e,_⟩,_⟩:=dxq hp ho j;rw[e];rfl
    |store b=>
     obtain⟨⟨B,B',_,e,_⟩,_⟩:=K9q hp ho j;rw[e];show(Heap.put {h with wmin:=h.next} b B').get i=h.get i;rw[Heap.get_put,Zg]
     .rfl
     .rintro rfl;exact z (.inr (.inl (by rw[hx,j])))
    |gen=>exact(Zcq D ho).keep i d (Zv d (p3q j))
    |mk b=>
     obtain⟨_,B,n,k,_,rfl,_⟩:=tgq hp ho j;show(Heap.push {h with wmin:=h.next} B).get i=_;rw[Heap.get_push,Zg (by show i≠h.next;omega)];rfl
    |dirty=>exact absurd (.inr (.inr ⟨.inl (by rw[hx,j]),d⟩)) z
    |upd b=>
     by_cases q:i=b
     .exact absurd (.inr (.inr ⟨.inr (by rw[hx,j,q]),d⟩)) z
     .exact p2q D hp ho j q d
theorem j5q{b:Array Bool}(d:∀(k:Nat) (o:Oper) (e:Edge),ops[k]? =some o->b[k]? =some true->e∈o.after->Region.binds .any e=true->b[e.on]? =some true):
  ∀(f j k:Nat),ubq ops f j k=true->(∀o e,ops[j]? =some o->e∈o.after->Region.binds .any e=true->b[e.on]? =some true) ->b[k]? =some true
 |0,_,_,h,_=>by simp[ubq] at h
 |f+1,j,k,h,hj=>by
  simp only[ubq] at h;split at h
  .cases h
  .rename_i o B;simp only[Array.any_eq_true',Zd,Y4] at h;obtain⟨e,z,u,h⟩:=h;have q:=hj o e B z u;rcases h with h|h
   .rw[<-Zi h];exact q
   .exact j5q d f e.on k h λA D p g l=>d e.on A D p q g l
end
theorem Nxt.ext{D0 D D':Nat->Prop}{q z u:Env}{B v f A:Heap}{w0 w K:World}{U:Nat}(E:∀i,D0 i->i<B.next\/U<=i)(a:Nxt D0 q B w0 D z v w)(b:Nxt D z f w D' u A K)(X:v.next<=U)(O:B.next<=f.next)(P:A.next<=v.next)
  (N:v.wmin<=A.wmin) (L:∀i,D i->¬(f.next<=i/\i<A.next)):Nxt D0 q B w0 D' u v K:=by
 have hb:=b.nxt;have G:∀i,D i->u.b i=z.b i:=λi d=>(b.env i (by have:=L i d;omega)).1
 have R:∀j,D j->A.wmin<=j->j<f.next->w0.heap.size<=z.b j\/∃k,D0 k/\v.wmin<=k/\k<B.next/\q.b k=z.b j:=λj f H p=>by
  rcases a.new j f with h|⟨h,h'⟩
  .rcases E j h with F|F
   .exact .inr ⟨j,h,Zt N H,F,(a.env j (.inl F)).1.symm⟩
   .omega
  .exact a.fresh j f h h'
 refine⟨λi d=>b.sub i (a.sub i d),λi d=>?_,λi d=>?_,λc J C=>?_,λi d I p=>?_,Zt a.size b.size,a.wmin,a.nxt,b.os.trans a.os,b.tape.trans a.tape,b.output.trans a.output⟩
 .rcases b.new i d with h|⟨h,h'⟩
  .exact a.new i h
  omega
 .obtain⟨S,g2,T,Y⟩:=a.env i d;obtain⟨V,k2,Z,W⟩:=b.env i Xd;grind
 .rw[b.frame c (Zv J a.size) λi d M p e=>?_]
  .exact a.frame c J C
  grind
 .rcases b.new i d with h|⟨h,h'⟩
  .rw[G i h];exact a.fresh i h I p
  .rcases b.fresh i d h h' with Q|⟨j,j1,j2,j3,j4⟩
   .exact .inl (Zt a.size Q)
   grind
theorem Rel.on{s0:World}{U U':Nat}{D:Nat->Prop}{m:Env}{h g:Heap}{w:World}(r:Rel s0 U D m h w)(n:∀i,D i->i<g.next\/U'<=i)(k:∀i,g.next<=i->g.get i=none)(e:∀i b,D i->g.get i=some b->h.get i=some b):Rel s0 U' D m g w:=
 ⟨n,k,λi b a d=>r.has i b a (e i b a d),λi b a d=>r.clo i b a (e i b a d),λi j b c a f d l=>r.inj i j b c a f (e i b a d) (e j c f l),λi b a d=>r.own i b a (e i b a d),λi j b c a f d l=>r.old i j b c a f (e i b a d) (e j c f l),r.base⟩
structure FCtx(P:Program)(C:Cfg)(S:Self)(U N:Nat)(ops:Array Oper)(frs:Nat->Tr V)(hs:Nat->Heap)(vs:Nat->V)(xs:Nat->Option Ev):Prop where
 hC:CfgOK P C
 hS:SelfOK P C S
 hB:fXq N ops.toList ops.size=true
 st:∀(j:Nat) (o:Oper),ops[j]? =some o->StepAt S C ops o (frs j) (hs j) (vs j) (hs (j+1)) (xs j)/\frs (j+1)=aBq (frs j) o.dst (vs j)
 cl:∀(j k:Nat) (x y:Ev),j<ops.size->k<j->xs j=some x->xs k=some y->y.clash x=true->ubq ops ops.size j k=true
 wf0:∀i,(hs 0).next<=i->(hs 0).get i=none
 hU:(hs ops.size).next<=U
structure FInv(C:Cfg)(s0:World)(U N:Nat)(X:List Deferred)(ops:Array Oper)(frs:Nat->Tr V)(hs:Nat->Heap)(vs:Nat->V)(xs:Nat->Option Ev)(D0:Nat->Prop)(ρ0:Env)(w0:World)(listed:Array Bool)(a:Act)(w:World)(D:Nat->Prop)(ρ:Env)(H:Heap):Prop where
 size:listed.size=ops.size
 asz:a.tmps.size=N
 adf:a.defers=X
 closed:∀(k:Nat) (o:Oper) (e:Edge),ops[k]? =some o->listed[k]? =some true->e∈o.after->Region.binds .any e=true->listed[e.on]? =some true
 next:H.next=(hs ops.size).next
 wmin:H.wmin=(hs ops.size).wmin
 char:∀i,D i->D0 i\/∃k:Nat,listed[k]? =some true/\(hs k).next<=i/\i<(hs (k+1)).next
 lt0:∀i,D0 i->i<(hs 0).next\/U<=i
 cont:∀i,D i->∀p,p<=ops.size->(∀k,k<p->Tch (xs k) (hs k).next (hs (k+1)).next i->listed[k]? =some true) ->(∀k,p<=k->k<ops.size->Tch (xs k) (hs k).next (hs (k+1)).next i->listed[k]? =some false) ->H.get i=(hs p).get i
 rel:Rel s0 U D ρ H w
 nxt:Nxt D0 ρ0 (hs 0) w0 D ρ (hs ops.size) w
 got:∀(k:Nat) (o:Oper) (t:Nat),ops[k]? =some o->listed[k]? =some true->o.dst=some t->a.tmps[t]? =some (abq ρ (vs k))/\InD (DD D ρ) (vs k)
 base:∀t v,(∀(k:Nat) (o:Oper),ops[k]? =some o->o.dst=some t->listed[k]? =some false) ->(frs 0).get t=some v->a.tmps[t]? =some (abq ρ v)/\InD (DD D ρ) v
 gl:GlobOK C (DD D ρ) ρ
section
variable {P:Program} {C:Cfg} {S:Self} {s0:World} {U N:Nat} {X:List Deferred} {ops:Array Oper} {frs:Nat->Tr V} {hs:Nat->Heap} {vs:Nat->V} {xs:Nat->Option Ev} {D0:Nat->Prop} {ρ0:Env} {w0:World} {listed:Array Bool} {a:Act} {w:World} {D:Nat->Prop} {ρ:Env} {H:Heap}
theorem FCtx.at_{j:Nat}(_:FCtx P C S U N ops frs hs vs xs)(b:j<ops.size):∃o,ops[j]? =some o:=⟨_,ZI b⟩
theorem FCtx.mono(c:FCtx P C S U N ops frs hs vs xs){j:Nat}:∀(d:Nat),j+d<=ops.size->Mono (hs j) (hs (j+d))
 |0,_=>Mono.refl _
 |d+1,h=>by
  obtain⟨o,b⟩:=c.at_ (show j+d<ops.size by omega);exact(c.mono d Xd).trans ((c.st _ o b).1.mono c.hS)
theorem FCtx.monoLe(c:FCtx P C S U N ops frs hs vs xs){j k:Nat}(d:j<=k)(b:k<=ops.size):Mono (hs j) (hs k):=by
 have:=c.mono (j:=j) (k-j) Xd;grind
theorem FCtx.wf(c:FCtx P C S U N ops frs hs vs xs){j:Nat}(h:j<=ops.size):∀i,(hs j).next<=i->(hs j).get i=none:=(c.monoLe (Zf j) h).wf c.wf0
theorem FCtx.keep(c:FCtx P C S U N ops frs hs vs xs){j i:Nat}:∀(d:Nat),j+d<=ops.size->(∀k,j<=k->k<j+d->¬Tch (xs k) (hs k).next (hs (k+1)).next i) ->(hs (j+d)).get i=(hs j).get i
 |0,_,_=>rfl
 |d+1,h,hn=>by
  obtain⟨o,f⟩:=c.at_ (show j+d<ops.size by omega);exact((c.st _ o f).1.keep c.hS (c.wf Xd) (hn (j+d) Xd Xd)).trans (c.keep d Xd λk b l=>hn k b Xd)
theorem FCtx.tch_ev(c:FCtx P C S U N ops frs hs vs xs){k i:Nat}(J:k<ops.size)(F:Tch (xs k) (hs k).next (hs (k+1)).next i):
  i<(hs (k+1)).next/\∃x,xs k=some x/\(∀b,x≠ .load b)/\((i<(hs k).next/\(x= .store i\/x= .dirty\/x= .upd i))\/(hs k).next<=i):=by
 obtain⟨o,G⟩:=c.at_ J;have g:=(c.st _ o G).1;have K:=(g.mono c.hS).nxt;rcases F with ⟨A,q⟩|h|⟨h|h,A⟩
 .refine⟨q,?_⟩;cases z:xs k with
  |none=>rw[z] at g;rw[g.still] at q;omega
  |some x=>
   refine⟨x,rfl,λb e=>?_,.inr A⟩;rw[z,e] at g;rw[g.load] at q;omega
 .have j:=g;rw[h] at j;obtain⟨e,B,E⟩:=j.store
  have I:i<(hs k).next:=by
   rcases ZL i (hs k).next with m|m
   .exact m
   .rw[c.wf Xd i m] at E;cases E
  grind
 all_goals grind
def o5q(x:Ev)(i:Nat):Prop:=match x with
 |.load b=>i=b
 |.store b=>i=b
 |.gen=>True
 |.dirty=>True
 |.upd _=>True
 |.mk _=>False
theorem qUq{x y:Ev}{i:Nat}(c:o5q x i)(b:y= .store i\/y= .dirty\/y= .upd i):y.clash x=true/\x.clash y=true:=by
 rcases b with rfl|rfl|rfl<;>cases x<;>simp_all[Ev.clash,o5q]
theorem FInv.now(c:FCtx P C S U N ops frs hs vs xs)(f:FInv C s0 U N X ops frs hs vs xs D0 ρ0 w0 listed a w D ρ H){j:Nat}{o:Oper}{x:Ev}{i:Nat}(Y:ops[j]? =some o)(z:listed[j]? =some false)
  (hed:∀e∈o.after,Region.binds .any e=true->listed[e.on]? =some true) (Q:xs j=some x) (K:o5q x i) (J:D i) (Z:i<(hs j).next):H.get i=(hs j).get i:=by
 have E:=(Zs.1 Y).1
 have d:∀k,ubq ops ops.size j k=true->listed[k]? =some true:=λk u=>j5q f.closed _ j k u λL e q M O=>by
  grind
 refine f.cont i J j Xd (λk u F=>?_) λk u p F=>?_
 .obtain⟨q1,y,B,q3,G⟩:=c.tch_ev Xd F;rcases G with ⟨_,A⟩|hge
  .exact d k (c.cl j k x y E u Q B (qUq K A).1)
  .rcases f.char i J with h|⟨k',hk',g1,g2⟩
   .have:=f.lt0 i h;have h1:=(c.monoLe (Zf k) Xd).nxt;have h2:=(c.monoLe (show j<=ops.size by omega) (Zb _)).nxt;have h3:=c.hU;omega
   .have I:k'<ops.size:=by rw[<-f.size];exact(Zs.1 hk').1
    have:k'=k:=by
     rcases Nat.lt_trichotomy k' k with h|h|h
     .have:=(c.monoLe (show k'+1<=k by omega) Xd).nxt;omega
     .exact h
     .have:=(c.monoLe (show k+1<=k' by omega) Xd).nxt;omega
    rw[<-this];exact hk'
 .by_cases e:k=j
  .rw[e];exact z
  .obtain⟨q1,y,B,q3,G⟩:=c.tch_ev p F;have T:=(c.monoLe (show j<=k by omega) Xd).nxt;rcases G with ⟨_,A⟩|hge
   .have d:=c.cl k j y x p Xd B Q (qUq K A).2;have l:k<listed.size:=by rw[f.size];exact p
    cases R:listed[k] with
    |false=>rw[ZI l,R]
    |true=>
     have W:listed[k]? =some true:=by rw[ZI l,R]
     have:=j5q f.closed _ k j d λL e q M O=>f.closed k L e q W M O
     grind
   .omega
theorem FCtx.frs_get(c:FCtx P C S U N ops frs hs vs xs)(t:Nat):∀j,j<=ops.size->(∃(k:Nat) (o:Oper),k<j/\ops[k]? =some o/\o.dst=some t/\(frs j).get t=some (vs k))\/((∀(k:Nat) (o:Oper),k<j->ops[k]? =some o->o.dst≠some t)/\(frs j).get t=(frs 0).get t)
 |0,_=>.inr ⟨λk o z=>by omega,rfl⟩
 | j +1,h=>by
  obtain⟨o,f⟩:=c.at_ (show j<ops.size by omega);have e:=(c.st j o f).2;by_cases x:o.dst=some t
  .grind[aBq,Tr.get_set]
  .have b:(frs (j+1)).get t=(frs j).get t:=by
    rw[e];cases l:o.dst with
    |none=>rfl
    |some u=>
     grind[aBq,Tr.get_set]
   rw[b];rcases c.frs_get t j Xd with ⟨k,p,m,q,y,s⟩|⟨m,q⟩
   all_goals grind
theorem FInv.fr(c:FCtx P C S U N ops frs hs vs xs)(b:FInv C s0 U N X ops frs hs vs xs D0 ρ0 w0 listed a w D ρ H){j:Nat}{o:Oper}(W:ops[j]? =some o)(L:listed[j]? =some false)
  (O:∀e∈o.after,Region.binds .any e=true->listed[e.on]? =some true):∃x:Tr V,(∀t∈o.looksAt ops,x.get t=(frs j).get t)/\FrE C D ρ x a:=by
 have z:=(Zs.1 W).1;obtain⟨x,B⟩:=(frs j).cut (o.looksAt ops);refine⟨x,λt G=>by rw[B,Zl G],?_⟩;obtain⟨_,_,_,q,_⟩:=Zlq c.hB W
 have E:∀t v,x.get t=some v->a.tmps[t]? =some (abq ρ v)/\InD (DD D ρ) v:=λt v f=>by
  rw[B] at f;split at f
  .rename_i G;rcases c.frs_get t j Xd with ⟨k,p,Y,I,Z,h4⟩|⟨Y,I⟩
   .rw[h4] at f;cases f
    rcases(q z k p t Xd I Z).2 G with h|h
    .omega
    .rw[Zl Y] at h;obtain⟨e,J,K,F⟩:=QYq h;have:=O e J K;rw[F] at this;exact b.got k p t I this Z
   .rw [I] at f;refine b.base t v (λk p T M=>?_) f;have A:=(Zs.1 T).1;have l:k<listed.size:=by rw[b.size];exact A
    rcases Nat.lt_trichotomy k j with h|h|h
    .grind
    .rw[h];exact L
    .rcases(q z k p t A T M).2 G with Q|Q
     .omega
     .rw[Zg Xd] at Q;obtain⟨e,J,K,F⟩:=QYq Q;rw[ZI l];congr 1
      cases R:listed[k] with
      |false=>rfl
      |true=>
       have:=b.closed k p e T (by rw[ZI l,R]) J K;grind
  .cases f
 exact⟨⟨λt v f=>(E t v f).1,λt v f=>(E t v f).2,b.gl⟩⟩
theorem FInv.upd(c:FCtx P C S U N ops frs hs vs xs)(inv:FInv C s0 U N X ops frs hs vs xs D0 ρ0 w0 listed a w D ρ H){j:Nat}{o:Oper}(hj:ops[j]? =some o)(hjf:listed[j]? =some false)
  (hed:∀e∈o.after,Region.binds .any e=true->listed[e.on]? =some true) {D':Nat->Prop} {ρ':Env} {H':Heap} {w':World} (hchar:∀i,D' i->D i\/((hs j).next<=i/\i<(hs (j+1)).next)) (hnext:H'.next=(hs ops.size).next) (hwmin:H'.wmin=(hs ops.size).wmin)
  (hkeep:∀i,D' i->¬Tch (xs j) (hs j).next (hs (j+1)).next i->H'.get i=H.get i) (hnew:∀i,D' i->Tch (xs j) (hs j).next (hs (j+1)).next i->H'.get i=(hs (j+1)).get i)
  (rel':Rel s0 U D' ρ' H' w') (nxt':Nxt D0 ρ0 (hs 0) w0 D' ρ' (hs ops.size) w') (ag:Env.Agree (DD D ρ) ρ ρ') (dd:∀i m,DD D ρ i m->DD D' ρ' i m) (hv:InD (DD D' ρ') (vs j)):
  FInv C s0 U N X ops frs hs vs xs D0 ρ0 w0 (listed.setIfInBounds j true) (a.put o.dst (abq ρ' (vs j))) w' D' ρ' H':=by
 have hjs:=(Zs.1 hj).1;obtain⟨_,hdst,_,hpre,_⟩:=Zlq c.hB hj;have hjls:j<listed.size:=by rw[inv.size];exact hjs
 have apq:∀k:Nat,(listed.setIfInBounds j true)[k]? =if j=k then some true else listed[k]? :=λk=>by
  rw[YT];split
  .rename_i e;subst e;simp
  .rfl
 refine⟨by simp[inv.size],by cases o.dst<;>simp[Act.put,inv.asz],by cases o.dst<;>simp[Act.put,inv.adf],?_,hnext,hwmin,?_,inv.lt0,?_,rel',nxt',?_,?_,?_⟩
 .intro k p e hp hlk he hbe;rw[apq] at hlk;rw[apq];split
  .rfl
  .split at hlk
   .rename_i e';subst e'
    rw[hj] at hp;cases hp
    exact hed e he hbe
   .exact inv.closed k p e hp hlk he hbe
 .intro i hi;rcases hchar i hi with h|h
  .rcases inv.char i h with h|⟨k,hk,h⟩
   .exact .inl h
   .refine .inr ⟨k,?_,h⟩;rw[apq];split
    .rfl
    .exact hk
  .exact .inr ⟨j,by rw[apq,Zl rfl],h⟩
 .intro i hi p hp h1 h2;by_cases ht:Tch (xs j) (hs j).next (hs (j+1)).next i
  .have hpj:j<p:=by
    rcases ZL j p with h|h
    .exact h
    .have:=h2 j h hjs ht;rw[apq,Zl rfl] at this;cases this
   rw[hnew i hi ht]
   have:=c.keep (j:=j+1) (i:=i) (p-(j+1)) Xd λk hk1 hk2 htk=>by
    have hks:k<ops.size:=by omega
    have hl:=h1 k Xd htk;rw[apq,Zg Xd] at hl;obtain⟨q1,x,qx,q3,q4⟩:=c.tch_ev hjs ht;obtain⟨r1,y,ry,r3,r4⟩:=c.tch_ev hks htk;have hjk:=(c.monoLe (show j+1<=k by omega) Xd).nxt
    have hy:y= .store i\/y= .dirty\/y= .upd i:=by
     rcases r4 with ⟨_,h⟩|h
     .exact h
     .omega
    have hcl:x.clash y=true:=by
     rcases q4 with ⟨_,h⟩|h
     .rcases h with rfl|rfl|rfl
      .exact(qUq (x:=.store i) rfl hy).2
      .exact(qUq (x:=.dirty) (i:=i) trivial hy).2
      .exact(qUq (x:=.upd i) (i:=i) trivial hy).2
     .cases x with
      |load b=>exact absurd rfl (q3 b)
      |store b=>
       exfalso
       have:=(c.st j o hj).1;rw[qx] at this;have:=this.store.1;omega
      |gen=>exact(qUq (x:=.gen) (i:=i) trivial hy).2
      |mk b=>
       have:=(c.st j o hj).1;rw[qx] at this;obtain⟨e1,e2⟩:=this.mk;obtain rfl:i=b:=by omega
       rcases hy with rfl|rfl|rfl
       .exact Y0 _
       .rfl
       .rfl
      |dirty=>exact(qUq (x:=.dirty) (i:=i) trivial hy).2
      |upd b=>exact(qUq (x:=.upd b) (i:=i) trivial hy).2
    have:=j5q inv.closed _ k j (c.cl k j y x hks Xd ry qx hcl) λo' e ho' he hb=>inv.closed k o' e ho' hl he hb
    rw[hjf] at this;cases this
   rw[show j+1+(p-(j+1))=p by omega] at this;exact this.symm
  .rw[hkeep i hi ht]
   have hi':D i:=by
    rcases hchar i hi with h|h
    .exact h
    .exact absurd (.inl h) ht
   refine inv.cont i hi' p hp (λk hk htk=>?_) λk hk hks htk=>?_
   .have:=h1 k hk htk;rw[apq,Zg] at this
    .exact this
    .rintro rfl;exact ht htk
   .have:=h2 k hk hks htk;rw[apq] at this;split at this
    .cases this
    .exact this
 .intro k p t hp hlk hpd;rw[apq] at hlk;by_cases e:j=k
  .subst e;rw[hj] at hp;cases hp
   have ht:t<N:=by rw[hpd] at hdst;simpa[Q0q] using hdst
   exact⟨by simp[hpd,Act.put,inv.asz,ht],hv⟩
  .rw[Zg e] at hlk;obtain⟨g1,g2⟩:=inv.got k p t hp hlk hpd;have hks:=(Zs.1 hp).1;refine⟨?_,g2.mono dd⟩;rw[qaq ag g2]
   have hne:o.dst≠some t:=by
    rcases(hpre hjs k p t hks hp hpd).1 with h|h
    .exact absurd h.symm e
    .exact h
   cases hd:o.dst with
   |none=>exact g1
   |some u=>
    rw[hd] at hne;simp only[Act.put,YT];rw[Zg (λe'=>hne (by rw[e']))];exact g1
 .intro t v hno hv'
  have hne:o.dst≠some t:=λh=>by
   have:=hno j o hj h;rw[apq,Zl rfl] at this;cases this
  obtain⟨g1,g2⟩:=inv.base t v (λk p hp hpd=>by
   have:=hno k p hp hpd;rw[apq] at this;split at this
   .cases this
   .exact this) hv'
  refine⟨?_,g2.mono dd⟩;rw[qaq ag g2];cases hd:o.dst with
  |none=>exact g1
  |some u=>
   rw[hd] at hne;simp only[Act.put,YT];rw[Zg (λe'=>hne (by rw[e']))];exact g1
 .intro i hi;obtain⟨h1,h2,h3⟩:=inv.gl i hi;obtain⟨e1,e2,_⟩:=ag i 0 h1;exact⟨dd i 0 h1,e1.trans h2,e2.trans h3⟩
theorem FInv.here(c:FCtx P C S U N ops frs hs vs xs)(d:FInv C s0 U N X ops frs hs vs xs D0 ρ0 w0 listed a w D ρ H){j:Nat}{o:Oper}(B:ops[j]? =some o)(F:listed[j]? =some false)
  (J:∀e∈o.after,Region.binds .any e=true->listed[e.on]? =some true) {L:Tr V} (g:FrE C D ρ L a) {H1:Heap} (Z:opV S C L H o=some (vs j,H1)) (A:H1.next=H.next) (T:(hs ops.size).wmin<=H1.wmin)
  (R:(hs (j+1)).next=(hs j).next) (s:∀i,D i->¬Tch (xs j) (hs j).next (hs (j+1)).next i->H1.get i=H.get i) (v:∀i,D i->Tch (xs j) (hs j).next (hs (j+1)).next i->H1.get i=(hs (j+1)).get i)
  {r:Option Nat} {K:Act->World->Prop} {Q:Exit->Act->World->Prop} (O:∀z D' k H',FInv C s0 U N X ops frs hs vs xs D0 ρ0 w0 (listed.setIfInBounds j true) (a.put o.dst (abq k (vs j))) z D' k H'->K (a.put o.dst (abq k (vs j))) z):o.wpIn (FF r) 0 P a w K Q:=by
 have W:=(Zs.1 B).1;obtain⟨E,_⟩:=Zlq c.hB B;have G:H1.next<=U:=by rw[A,d.next];exact c.hU
 refine Qyq c.hC c.hS E Z G g d.rel λD' k z p f I=>?_
 have u:∀i,D' i->D i:=λi q=>by
  rcases f.new i q with h|⟨h,h'⟩
  all_goals omega
 have M:=(c.monoLe (Zf ops.size) (Zb _)).nxt;refine O z D' k {H1 with next:=(hs ops.size).next,wmin:=(hs ops.size).wmin} (d.upd c B F J (λi q=>.inl (u i q)) Y Y (λi q=>s i (u i q)) (λi q=>v i (u i q)) ?_ ?_ (f.agree d.rel.lt G) (f.dd d.rel.lt G) I)
 .exact p.on (λi q=>by
   have h1:=p.lt i q;grind[next]) (λi q=>p.wf i (by rw[A,d.next];exact q)) λi b _ hb=>hb
 .exact Nxt.ext d.lt0 d.nxt f c.hU (by rw[d.next];exact M) (by rw[A,d.next];exact Zb _) T (λi _ h=>by rw[A] at h;omega)
theorem FInv.there(c:FCtx P C S U N ops frs hs vs xs)(q:FInv C s0 U N X ops frs hs vs xs D0 ρ0 w0 listed a w D ρ H){j:Nat}{o:Oper}(hj:ops[j]? =some o)(hjf:listed[j]? =some false)
  (hed:∀e∈o.after,Region.binds .any e=true->listed[e.on]? =some true) {fc:Tr V} (g:FrE C D ρ fc a) {J B h2:Heap} (ho:opV S C fc B o=some (vs j,h2)) (hj1:hs (j+1)={J with wmin:=eCq (hs j).wmin J.wmin})
  (hbn:B.next=(hs j).next) (hbf:∀i,B.next<=i->B.get i=none) (hbr:∀i b,D i->B.get i=some b->H.get i=some b) (h2n:h2.next=J.next) (h2w:h2.wmin=J.wmin) (h2g:∀i,(hs j).next<=i->i<J.next->h2.get i=J.get i)
  {x:Ev} (hx:xs j=some x) (hg:(h2=J/\(x= .dirty\/∃b,x= .upd b)/\(∀i,D i->i<(hs j).next->H.get i=(hs j).get i)/\∀i,¬Tch (xs j) (hs j).next J.next i->i<(hs j).next->J.get i=(hs j).get i)\/((x= .gen\/∃b,x= .mk b)/\(hs j).next<=J.wmin))
  {r:Option Nat} {K:Act->World->Prop} {Q:Exit->Act->World->Prop} (hK:∀w' D' M H',FInv C s0 U N X ops frs hs vs xs D0 ρ0 w0 (listed.setIfInBounds j true) (a.put o.dst (abq M (vs j))) w' D' M H'->K (a.put o.dst (abq M (vs j))) w'):o.wpIn (FF r) 0 P a w K Q:=by
 have hjs:=(Zs.1 hj).1;obtain⟨hnd,_⟩:=Zlq c.hB hj;have hm:=Zcq c.hS ho;have Z:(hs (j+1)).next=J.next:=by rw[hj1]
 have hjg:∀i,(hs (j+1)).get i=J.get i:=λi=>by rw[hj1];rfl
 have hle:=(c.monoLe (show j+1<=ops.size by omega) (Zb _)).nxt;have m0:=(c.monoLe (Zf ops.size) (Zb _)).nxt;have m0j:=(c.monoLe (Zf j) Xd).nxt;have hmj:(hs j).next<=J.next:=by have:=hm.nxt;omega
 have hU:=c.hU
 have hwm:(hs ops.size).wmin<=J.wmin:=by
  have E:=(c.monoLe (show j+1<=ops.size by omega) (Zb _)).wmin;have I:=(KQq (hs j).wmin J.wmin).2;rw[hj1] at E;exact Zt E I
 --the blocks that are told of lie ahead of its own,or behind
 have hD:∀i,D i->i<(hs j).next\/J.next<=i:=λi z=>by
  rcases q.char i z with h|⟨k,T,g1,g2⟩
  .have:=q.lt0 i h;omega
  .have hks:k<ops.size:=by rw[<-q.size];exact(Zs.1 T).1
   rcases Nat.lt_trichotomy k j with h|h|h
   .have:=(c.monoLe (show k+1<=j by omega) Xd).nxt;omega
   .rw[h,hjf] at T;cases T
   .have:=(c.monoLe (show j+1<=k by omega) Xd).nxt;omega
 have rel1:Rel s0 h2.next D ρ B w:=q.rel.on (λi z=>by have:=hD i z;omega) hbf hbr;refine Qyq c.hC c.hS hnd ho (Zb _) g rel1 λD' M w' A G in2=>?_
 have R:∀i,D' i->D i\/((hs j).next<=i/\i<J.next):=λi z=>by have:=G.new i z;rwa[hbn,h2n] at this
 have ag:=G.agree rel1.lt (Zb _);have dd:=G.dd rel1.lt (Zb _)
 have nx:=Nxt.ext q.lt0 q.nxt G c.hU Xd Xd Xd (λi z h=>by
  have:=hD i z;omega)
 have ltU:∀i,D' i->i<(hs ops.size).next\/U<=i:=λi z=>by
  rcases R i z with h|h
  .have:=q.rel.lt i h;rw[q.next] at this;exact this
  .omega
 rcases hg with ⟨rfl,hxx,hnow,hkp⟩|⟨hxm,hwn⟩
 ·-- it turns what it likes:nothing behind it has had a turn
  have hD2:∀i,D i->i<(hs j).next\/(hs ops.size).next<=i:=λi z=>by
   rcases q.char i z with h|⟨k,T,g1,g2⟩
   .have:=q.lt0 i h;omega
   .have hks:k<ops.size:=by rw[<-q.size];exact(Zs.1 T).1
    rcases Nat.lt_trichotomy k j with h|h|h
    .have:=(c.monoLe (show k+1<=j by omega) Xd).nxt;omega
    .rw[h,hjf] at T;cases T
    .obtain⟨_,y,ry,hnl,_⟩:=c.tch_ev hks (.inl ⟨g1,g2⟩)
     have hcl:x.clash y=true:=by
      rcases hxx with rfl|⟨b,rfl⟩
      .cases y<;>rfl
      .cases y<;>first|rfl|exact absurd rfl (hnl _)
     have:=j5q q.closed _ k j (c.cl k j y x hks h ry hx hcl) λo' e ho' he B=>q.closed k o' e ho' T he B
     grind
  refine hK w' D' M {h2 with next:=(hs ops.size).next,wmin:=(hs ops.size).wmin} (q.upd c hj hjf hed (λi z=>by rw[Z];exact R i z) Y Y ?_ (λi _ _=>(hjg i).symm) ?_ nx ag dd in2)
  .intro i z ht
   have hi':D i:=by
    rcases R i z with h|h
    .exact h
    .exact absurd (.inl (by rw[Z];exact h)) ht
   rcases hD2 i hi' with h|h
   .have e1:=hkp i (by rw[<-Z];exact ht) h;have e2:=hnow i hi' h;show h2.get i=H.get i;rw[e1,e2]
   .have e1:h2.get i=none:=A.wf i Xd;have e2:H.get i=none:=q.rel.wf i (by rw[q.next];exact h);rw[e2];exact e1
  .exact A.on ltU (λi z=>A.wf i (by have z:(hs ops.size).next<=i:=z;omega)) λi b _ B=>B
 ·-- it turns nothing:what it made comes in between
  obtain⟨tr,htr⟩:=Tr.of (λi=>if (hs j).next<=i/\i<J.next then h2.get i else H.get i) (hs ops.size).next;have hget:∀i,(Heap.mk (hs ops.size).next (hs ops.size).wmin tr).get i=if i<(hs ops.size).next then(if (hs j).next<=i/\i<J.next then h2.get i else H.get i) else none:=htr
  have hframe:∀b,b<w.heap.size->w'.heap[b]? =w.heap[b]? :=λb B=>G.frame b B λi _ E I=>by
   omega
  have F:∀i,D' i->(hs j).next<=i->i<J.next->w.heap.size<=M.b i:=λi z E I=>by
   rcases G.fresh i z Xd Xd with h|⟨k,_,k2,k3,_⟩
   .exact h
   .omega
  have W:∀i b,D' i->(Heap.mk (hs ops.size).next (hs ops.size).wmin tr).get i=some b->((hs j).next<=i/\i<J.next/\h2.get i=some b)\/(D i/\H.get i=some b/\M.b i=ρ.b i):=λi b z B=>by
   rw[hget] at B;split at B
   .split at B
    .rename_i h;exact .inl ⟨h.1,h.2,B⟩
    .rename_i h
     have hi':D i:=by
      rcases R i z with h'|h'
      .exact h'
      .exact absurd h' h
     exact .inr ⟨hi',B,(ag i 0 ⟨hi',Zf _⟩).1⟩
   .cases B
  have hsz:=G.size;refine hK w' D' M ⟨(hs ops.size).next,(hs ops.size).wmin,tr⟩ (q.upd c hj hjf hed (λi z=>by rw[Z];exact R i z) Y Y ?_ ?_ ?_ nx ag dd in2)
  .intro i z ht;rw[hget];have hni:¬((hs j).next<=i/\i<J.next):=λh=>ht (.inl (by rw[Z];exact h))
   rw[Zg hni];by_cases hlt:i<(hs ops.size).next
   .rw[Zl hlt]
   .rw[Zg hlt,q.rel.wf i (by rw[q.next];omega)]
  .intro i z ht;rw[hjg,hget]
   have hr:(hs j).next<=i/\i<J.next:=by
    rcases ht with h|h|⟨h|h,_⟩
    .rw[Z] at h;exact h
    all_goals
     rw[hx] at h;rcases hxm with rfl|⟨b,rfl⟩<;>cases h
   grind
  .refine⟨ltU,λi z=>?_,λi b z B=>?_,λi b z B=>?_,λi k b d z T B hd O hod hne=>?_,λi b z B O=>?_,λi k b d z T B hd O hod=>?_,A.base⟩
   .have z:(hs ops.size).next<=i:=z;rw[hget,Zg Xd]
   .rcases W i b z B with ⟨E,I,L⟩|⟨E,I,L⟩
    .exact A.has i b z L
    .obtain⟨ob,g1,g2⟩:=q.rel.has i b E I;refine⟨ob,?_,KnB.agree ag (m:=0) ⟨E,Zf _⟩ (q.rel.clo i b E I) g2⟩;grind
   .rcases W i b z B with ⟨E,I,L⟩|⟨E,I,L⟩
    .exact A.clo i b z L
    .exact(q.rel.clo i b E I).mono dd
   .rcases W i b z B with ⟨E,I,L⟩|⟨E,I,L⟩<;>rcases W k d T hd with ⟨p1,p2,p3⟩|⟨p1,p2,p3⟩
    .exact A.inj i k b d z T L p3 O hod hne
    .rw[p3];obtain⟨od,g1,_⟩:=q.rel.has k d p1 p2;have:=(Zs.1 g1).1;have:=F i z E I;omega
    .rw[L];obtain⟨od,g1,_⟩:=q.rel.has i b E I;have:=(Zs.1 g1).1;have:=F k T p1 p2;omega
    .rw[L,p3];exact q.rel.inj i k b d E p1 I p2 O hod hne
   .rcases W i b z B with ⟨E,I,L⟩|⟨E,I,L⟩
    .exact A.own i b z L O
    .rw[L];exact q.rel.own i b E I O
   .rcases W i b z B with ⟨E,I,L⟩|⟨E,I,L⟩<;>rcases W k d T hd with ⟨p1,p2,p3⟩|⟨p1,p2,p3⟩
    .exact A.old i k b d z T L p3 O hod
    .rw[p3];obtain⟨od,g1,_⟩:=q.rel.has k d p1 p2;have:=(Zs.1 g1).1;have:=F i z E I;omega
    .rw[L];obtain⟨od,g1,_⟩:=q.rel.has i b E I;have:=(Zs.1 g1).1;have:=F k T p1 p2;omega
    .rw[L,p3];exact q.rel.old i k b d E p1 I p2 O hod
theorem FInv.go(c:FCtx P C S U N ops frs hs vs xs)(z:FInv C s0 U N X ops frs hs vs xs D0 ρ0 w0 listed a w D ρ H){j:Nat}{o:Oper}(J:ops[j]? =some o)(A:listed[j]? =some false)
  (E:∀e∈o.after,Region.binds .any e=true->listed[e.on]? =some true) {r:Option Nat} {K:Act->World->Prop} {Q:Exit->Act->World->Prop} (hK:∀u w' D' G H',FInv C s0 U N X ops frs hs vs xs D0 ρ0 w0 (listed.setIfInBounds j true) (a.put o.dst u) w' D' G H'->K (a.put o.dst u) w'):
  (Region.wanted o (yielded ops a.tmps)=true/\o.wpIn (FF r) 0 P a w K Q)\/(Region.wanted o (yielded ops a.tmps)=false/\K (a.put o.dst undef) w):=by
 have hjs:=(Zs.1 J).1;obtain⟨hst,_⟩:=c.st j o J;obtain⟨fc,hfc,g⟩:=z.fr c J A E;have M:=Buq (C:=C) (fr:=frs j) hfc;rcases hst with ⟨hw,hv,R,T⟩|⟨hw,hst⟩
 ·--left out
  right
  rw[e9q hfc] at hw;refine⟨uTq g hw,?_⟩;have hv':abq ρ (vs j)=undef:=by rw[hv];rfl
  refine hK undef w D ρ H ?_
  have hnt:∀i,¬Tch (xs j) (hs j).next (hs (j+1)).next i:=λi h=>by
   rw[T,R] at h;rcases h with h|h|h
   .omega
   .cases h
   .rcases h.1 with h|h<;>cases h
  have:=z.upd c J A E (D':=D) (ρ':=ρ) (H':=H) (w':=w) (λi I=>.inl I) z.next z.wmin (λi _ _=>rfl) (λi _ h=>absurd h (hnt i)) z.rel z.nxt (λ_ _ _=>⟨rfl,rfl,rfl,rfl⟩) (λ_ _ h=>h) (by rw[hv];trivial);rwa[hv'] at this
 .left
  have hw':=hw;rw[e9q hfc] at hw';refine⟨uTq g hw',?_⟩;have L:∀w' D' G H',FInv C s0 U N X ops frs hs vs xs D0 ρ0 w0 (listed.setIfInBounds j true) (a.put o.dst (abq G (vs j))) w' D' G H'->K (a.put o.dst (abq G (vs j))) w':=λw' D' G H'=>hK _ w' D' G H'
  rcases qSq hst with ⟨hp,R,T⟩|⟨h1,hp,ho,R,T⟩
  .have hnt:∀i,¬Tch (xs j) (hs j).next (hs (j+1)).next i:=λi h=>by
    rw[T,R] at h;rcases h with h|h|h
    .omega
    .cases h
    .rcases h.1 with h|h<;>cases h
   rw[vvq o.op M] at hp;refine z.here c J A E g (H1:=H) (by unfold opV;simp only[hp]) rfl (Nat.le_of_eq z.wmin.symm) (by rw[R]) (λ_ _ _=>rfl) (λi _ h=>absurd h (hnt i)) L
  .have hnx:(hs (j+1)).next=h1.next:=by rw[R]
   have hp2:=hp;have ho2:=ho;rw[Zdq o M] at ho;rw[vvq o.op M] at hp
   have hb:∀{b:Nat} x O B,x∈o.op.operands->evV C (frs j) x=some (.ptr b O) ->(Heap.mk (hs j).next (hs j).next (hs j).tr).get b=some B->D b/\b<(hs j).next:=λ{b} x O B h1 h2 h3=>by
    rw[M x h1] at h2;have h3:(hs j).get b=some B:=h3;refine⟨(g.ev h2).2.1,?_⟩;rcases ZL b (hs j).next with h|h
    .exact h
    .rw[c.wf Xd b h] at h3;cases h3
   have hbr:∀{x:Ev},xs j=some x->(∀i,o5q x i) ->∀i b,D i->(Heap.mk (hs j).next (hs j).next (hs j).tr).get i=some b->H.get i=some b:=λT hr i b I hb=>by
    have hb:(hs j).get i=some b:=hb
    have F:i<(hs j).next:=by
     rcases ZL i (hs j).next with h|h
     .exact h
     .rw[c.wf Xd i h] at hb;cases hb
    rw[z.now c J A E T (hr i) I F];exact hb
   cases W:auq C (frs j) (hs j) h1 o.op with
   |load b=>
    obtain⟨⟨e1,e2⟩,⟨B,hB⟩,x,O,hxo,hxb⟩:=dxq hp2 ho2 W;obtain⟨hDb,F⟩:=hb x O B hxo hxb hB;have q:xs j=some (.load b):=by rw[T,W]
    have Z:(hs (j+1)).next=(hs j).next:=by rw[hnx,e1]
    have hnt:∀i,¬Tch (xs j) (hs j).next (hs (j+1)).next i:=λi h=>by
     rw[q,Z] at h;rcases h with h|h|h
     .omega
     .cases h
     .rcases h.1 with h|h<;>cases h
    have hH:H.get b=(hs j).get b:=z.now c J A E q rfl hDb F;have ho3:=e2 H (by rw[hH];rfl);rw[Zdq o M] at ho3;exact z.here c J A E g ho3 rfl (Nat.le_of_eq z.wmin.symm) Z (λ_ _ _=>rfl) (λi _ h=>absurd h (hnt i)) L
   |store b=>
    obtain⟨⟨B,B',hB,e1,e2⟩,x,O,hxo,hxb⟩:=K9q hp2 ho2 W;obtain⟨hDb,F⟩:=hb x O B hxo hxb hB;have q:xs j=some (.store b):=by rw[T,W]
    have Z:(hs (j+1)).next=(hs j).next:=by rw[hnx,e1];rfl
    have hH:H.get b=(hs j).get b:=z.now c J A E q rfl hDb F
    have hget:∀i,(hs (j+1)).get i=if i=b then some B' else(hs j).get i:=λi=>by
     rw[R,e1];exact Heap.get_put _ _ _ _
    have hwb:(hs ops.size).wmin<=b:=by
     have q1:=(c.monoLe (show j+1<=ops.size by omega) (Zb _)).wmin;have q2:=(KQq (hs j).wmin h1.wmin).2;have q3:=(xCq (hs j).next b).2;rw[R] at q1;have q4:h1.wmin=wmn (hs j).next b:=by rw[e1];rfl
     have q1:(hs ops.size).wmin<=eCq (hs j).wmin h1.wmin:=q1;omega
    have ho3:=e2 H (by rw[hH];rfl);rw[Zdq o M] at ho3;refine z.here c J A E g ho3 Y ?_ Z (λi _ I=>?_) (λi _ I=>?_) L
    .show(hs ops.size).wmin<=wmn H.wmin b;unfold wmn;split
     .exact Nat.le_of_eq z.wmin.symm
     .exact hwb
    .rw[Heap.get_put,Zg];rintro rfl;exact I (.inr (.inl q))
    .have:i=b:=by
      rw[q,Z] at I;rcases I with h|h|h
      .omega
      .cases h;rfl
      .rcases h.1 with h|h<;>cases h
     rw[Heap.get_put,Zl this,hget,Zl this]
   |gen=>
    have q:xs j=some .gen:=by rw[T,W]
    exact z.there c J A E g ho R rfl (c.wf Xd) (hbr q λ_=>trivial) Y Y (λ_ _ _=>rfl) q (.inr ⟨.inl rfl,p3q W⟩) L
   |mk b=>
    have q:xs j=some (.mk b):=by rw[T,W]
    obtain⟨_,B,n,k,e0,e1,e2⟩:=tgq hp2 ho2 W;have e3:=e2 ⟨(hs j).next,(hs j).next,.nil⟩ rfl;rw[Zdq o M] at e3;refine z.there c J A E g e3 R rfl (λi _=>Tr.get_nil ..) (λi b _ hb=>by rw[show Heap.get ⟨(hs j).next,(hs j).next,.nil⟩ i=none from Tr.get_nil ..] at hb;cases hb) (by rw[e1];rfl) (by rw[e1];rfl) (λi q1 q2=>?_) q (.inr ⟨.inr ⟨b,rfl⟩,by rw[e1];exact Zb _⟩) L;rw[e1] at q2⊢;have q2:i<(hs j).next+1:=q2;obtain rfl:i=(hs j).next:=by omega
    rw[Heap.get_push,Heap.get_push,Zl rfl,Zl rfl]
   |dirty=>
    have q:xs j=some .dirty:=by rw[T,W]
    exact z.there c J A E g ho R rfl (c.wf Xd) (hbr q λ_=>trivial) Y Y (λ_ _ _=>rfl) q (.inl ⟨rfl,.inl rfl,λi I F=>z.now c J A E q trivial I F,λi ht I=>absurd (.inr (.inr ⟨.inl q,I⟩)) ht⟩) L
   |upd b=>
    have q:xs j=some (.upd b):=by rw[T,W]
    exact z.there c J A E g ho R rfl (c.wf Xd) (hbr q λ_=>trivial) Y Y (λ_ _ _=>rfl) q (.inl ⟨rfl,.inr ⟨b,rfl⟩,λi I F=>z.now c J A E q trivial I F,λi ht I=>by
     by_cases hib:i=b
     .exact absurd (.inr (.inr ⟨.inr (q.trans (by rw[hib])),I⟩)) ht
     .exact p2q c.hS hp2 ho2 W hib I⟩) L
theorem FInv.all(c:FCtx P C S U N ops frs hs vs xs){r:Option Nat}{Q:Exit->Act->World->Prop}
  (E:∀listed a w D ρ H,FInv C s0 U N X ops frs hs vs xs D0 ρ0 w0 listed a w D ρ H->(∀k:Nat,k<ops.size->listed[k]? =some true) ->Q .normal a w):
  ∀(n:Nat) (listed:Array Bool) (a:Act) (w:World) (D:Nat->Prop) (ρ:Env) (H:Heap),n+listed.toList.count true=ops.size->FInv C s0 U N X ops frs hs vs xs D0 ρ0 w0 listed a w D ρ H->wpAnyIn (FF r) 0 P .any ops Q n listed a w:=by
 intro n;induction n with
 |zero=>
  intro listed a w D ρ H hn d
  have z:∀k,k<ops.size->listed[k]? =some true:=by
   have O:listed.toList.count true=listed.toList.length:=by rw[Array.length_toList,d.size];omega
   rw[List.count_eq_length] at O;intro k R;have p:k<listed.size:=by rw[d.size];exact R
   rw[ZI p];have:=O listed[k] Xi;rw[<-this]
  refine rZq 0 ops.size listed a w Xd d.size (λk R=>getD_t.2 (z k R)) (λk O h2=>by omega) (λi o hi B=>by
   have:=(Zs.1 B).1;omega) (λi o e hi B=>by have:=(Zs.1 B).1;omega) ?_
  rw[ZY Xi];unfold wpListIn;exact E listed a w D ρ H d z
 |succ n ih=>
  intro listed a w D ρ H hn d
  --one is left
  have Y:∃k,k<ops.size/\listed[k]? =some false:=by
   apply YY;intro T
   have O:listed.toList.count true=listed.toList.length:=by
    rw[List.count_eq_length];intro b M;obtain⟨k,R,rfl⟩:=List.getElem_of_mem M;have p:k<listed.size:=by simpa using R
    cases hv:listed.toList[k] with
    |true=>rfl
    |false=>
     refine absurd ⟨k,by rw[<-d.size];exact p,?_⟩ T;rw[ZI p];have:listed[k]=listed.toList[k]:=by simp
     rw[this,hv]
   rw[Array.length_toList,d.size] at O;omega
  obtain⟨kx,hkx⟩:=Y;obtain⟨k0,⟨hk0,I⟩,_,J⟩:=b8q (λk=>k<ops.size/\listed[k]? =some false) kx hkx
  have g:k0∈Region.ready .any ops listed:=by
   have B:ops[k0]? =some ops[k0]:=ZI hk0;refine mem_ready.2 ⟨getD_f.2 I,_,B,λe Z M=>getD_t.2 ?_⟩;have hlt:=(Zlq c.hB B).2.2.1 e Z M;have p:e.on<listed.size:=by rw[d.size];omega
   rw[ZI p];congr 1
   cases hv:listed[e.on] with
   |true=>rfl
   |false=>have:=J e.on ⟨by omega,by rw[ZI p,hv]⟩;omega
  refine⟨λh=>(by rw[h] at g;cases g),λj hj=>?_⟩;obtain⟨x,o,A,v⟩:=mem_ready.1 hj;have x:=getD_f.1 x;have hjs:=(Zs.1 A).1;have q:j<listed.size:=by rw[d.size];exact hjs
  have F:n+(listed.setIfInBounds j true).toList.count true=ops.size:=by
   have W:listed.toList[j]? =some false:=by simpa using x
   have hc:(listed.setIfInBounds j true).toList.count true=listed.toList.count true+1:=by
    rw[Array.toList_setIfInBounds,List.count_set (by simpa using q)]
    have:listed.toList[j]'(by simpa using q)=false:=by
     have:=W;rw[Za (by simpa using q)] at this;simpa using this
    rw[this];simp
   omega
  have hK:∀u w' D' G H',FInv C s0 U N X ops frs hs vs xs D0 ρ0 w0 (listed.setIfInBounds j true) (a.put o.dst u) w' D' G H'->wpAnyIn (FF r) 0 P .any ops Q n (listed.setIfInBounds j true) (a.put o.dst u) w':=λu w' D' G H' h=>ih _ _ _ _ _ _ F h
  unfold wpOpIn;simp only[A];rcases d.go c A x (λe Z M=>getD_t.1 (v e Z M)) (r:=r) (Q:=Q) (K:=λa w=>wpAnyIn (FF r) 0 P .any ops Q n (listed.setIfInBounds j true) a w) hK with ⟨hw,h⟩|⟨hw,h⟩
  .rw[Zl hw];exact h
  .rw[Zg (by rw[hw];simp)];exact⟨λf _=>Jwq r f,h⟩
theorem buq(hmx:P.follows .mixedOrders=true)(hC:CfgOK P C)(hS:SelfOK P C S):Jmq P C S:=by
 intro N ops id fr h J B hB he;obtain⟨frs,hs,vs,xs,t⟩:=JUq _ _ _ _ _ _ _ he;have F:ops.toList.length=ops.size:=by simp
 have T:∀(j:Nat) (o:Oper),ops[j]? =some o->StepAt S C ops o (frs j) (hs j) (vs j) (hs (j+1)) (xs j)/\frs (j+1)=aBq (frs j) o.dst (vs j):=λj o hj=>t.st j o (by simpa using hj)
 have I:hs ops.size=B:=by rw[<-F];exact t.hn
 have hf:frs ops.size=J:=by rw[<-F];exact t.fn
 have hcl:∀(j k:Nat) (x y:Ev),j<ops.size->k<j->xs j=some x->xs k=some y->y.clash x=true->ubq ops ops.size j k=true:=λj k x y hj Z hx hy hc=>by
  have:=(t.cl j ops[j] x (by simp[hj]) hx).2 k y Z hy hc;simpa using this
 have L:Mono h B:=by
  have:∀d,d<=ops.size->Mono (hs 0) (hs d):=by
   intro d;induction d with
   |zero=>intro _;exact Mono.refl _
   |succ d ih=>intro hd;exact(ih Xd).trans ((T d ops[d] (ZI Xd)).1.mono hS)
  have:=this ops.size (Zb _);rwa[t.h0,I] at this
 refine⟨L,λs0 U r D ρ a w X Q hU g q hN hX k=>?_⟩;have c:FCtx P C S U N ops frs hs vs xs:=⟨hC,hS,hB,T,hcl,by rw[t.h0];exact q.wf,by rw[I];exact hU⟩;refine wpIn_region_any hmx ?_;have hw0:B.wmin<=h.wmin:=L.wmin;refine FInv.all (s0:=s0) (X:=X) (D0:=D) (ρ0:=ρ) (w0:=w) c (λlisted a' w' D' A H f G=>?_) _ _ a _ D ρ {h with next:=B.next,wmin:=B.wmin} (by simp[List.count_replicate]) ?_
 .have hfr:FrE C D' A J a':=by
   have R:∀t v,J.get t=some v->a'.tmps[t]? =some (abq A v)/\InD (DD D' A) v:=λK v z=>by
    rw[<-hf] at z;rcases c.frs_get K ops.size (Zb _) with ⟨k,p,M,Y,h3,h4⟩|⟨M,Y⟩
    .rw[h4] at z;cases z
     exact f.got k p K Y (G k M) h3
    .rw[Y] at z;exact f.base K v (λk p hp hpd=>absurd hpd (M k p (Zs.1 hp).1 hp)) z
   exact⟨⟨λt v z=>(R t v z).1,λt v z=>(R t v z).2,f.gl⟩⟩
  have hget:∀i,D' i->B.get i=H.get i:=λi u=>by
   rw[<-I];exact(f.cont i u ops.size (Zb _) (λk Z _=>G k Z) λk M Y=>by omega).symm
  have hnx:H.next=B.next:=by rw[f.next,I]
  have W:Rel s0 U D' A B w':=f.rel.on (λi u=>by rw[<-hnx];exact f.rel.lt i u) (L.wf q.wf) λi b u hb=>by rw[<-hget i u];exact hb
  have E:=f.nxt;rw[t.h0,I] at E;exact k D' A a' w' hfr W E f.asz f.adf
 .have hlt:∀i,D i->i<B.next\/U<=i:=λi u=>by
   have:=q.lt i u;have:=L.nxt;omega
  refine⟨by simp,hN,hX,?_,by rw[I],by rw[I],λi u=>.inl u,by rw[t.h0];exact q.lt,?_,?_,?_,?_,?_,g.gl⟩
  .intro k o e _ hl;simp[Array.getElem?_replicate] at hl
  .intro i u p hp M _
   have:=c.keep (j:=0) (i:=i) p Xd λk _ Z ht=>by
    have:=M k Xd ht;simp[Array.getElem?_replicate] at this
   rw[ZG] at this;rw[this,t.h0];rfl
  .exact(q.drawn _).on hlt (λi u=>q.wf i (by have u:B.next<=i:=u;have:=L.nxt;omega)) λi b _ hb=>hb
  .rw[t.h0,I];refine⟨λ_ h=>h,λ_ h=>.inl h,λ_ _=>⟨rfl,rfl,rfl,rfl⟩,λ_ _ _=>rfl,λi u q1 q2=>?_,Zb _,hw0,L.nxt,rfl,rfl,rfl⟩;have:=q.lt i u;omega
  .intro k o K _ hl;simp[Array.getElem?_replicate] at hl
  .intro K v _ z;rw[t.f0] at z;exact⟨g.at_ K v z,g.in_ K v z⟩
end
def Ycq(P:Program)(C:Cfg):Prop:=∀f b,C.fn f=some b->P.funcs[f]? =some b/\(∀a w,(callFunc f a).run P w= .ok (.enter f a) w)/\∀c,b.body=some c->yQq b.ntmps c=true
theorem ZEq:∀(d:List V) (i:Nat) (t:Tr V) (k:Nat),(uMq i d t).get k=if i<=k/\k<i+d.length then d[k-i]? else t.get k
 |[],i,t,k=>by simp only[uMq,ZP];rw[Zg Xd]
 |v::d,i,t,k=>by
  simp only[uMq];rw[ZEq d (i+1) _ k,Tr.get_set];simp only[Zo];by_cases h:k=i
  .subst h;rw[Zg Xd,Zl rfl,Zl Xd];simp
  .by_cases f:i+1<=k/\k<i+1+d.length
   .rw[Zl f,Zl Xd,show k-i=(k-(i+1))+1 by omega];simp
   .rw[Zg f,Zg h,Zg Xd]
theorem uEq{N:Nat}:∀(c:Code) (l:Nat) (j:Code),findLabel c l=some j->yQq N c=true->yQq N j=true
 |.seq a b,l,j,h,hok=>by
  simp only[yQq,Zd] at hok;simp only[findLabel] at h;split at h
  .rename_i r v;cases h;simp only[yQq,Zd];exact⟨uEq a l r v hok.1,hok.2⟩
  .exact uEq b l j h hok.2
 |.label l',l,j,h,_=>by
  simp only[findLabel] at h;split at h
  .cases h;rfl
  .cases h
 |.skip,_,_,h,_=>by simp[findLabel] at h
 |.region _ _ _,_,_,h,_=>by simp[findLabel] at h
 |.cond _ _ _,_,_,h,_=>by simp[findLabel] at h
 |.block _ _,_,_,h,_=>by simp[findLabel] at h
 |.loop _,_,_,h,_=>by simp[findLabel] at h
 |.rangeFunc _ _ _ _,_,_,h,_=>by simp[findLabel] at h
 |.exit _,_,_,h,_=>by simp[findLabel] at h
 |.scope _,_,_,h,_=>by simp[findLabel] at h
 |.goto _,_,_,h,_=>by simp[findLabel] at h
 |.ret,_,_,h,_=>by simp[findLabel] at h
 |.refuse _,_,_,h,_=>by simp[findLabel] at h
theorem JFq{ρ:Env}{D:Nat->Nat->Prop}:∀(c:List Tmp) (j:List V) (k:Tr V) (a:Array Value),(∀t v,k.get t=some v->a[t]? =some (abq ρ v)/\InD D v) ->InDL D j->(∀p∈c,p<a.size) ->
  (∀t v,(Kuq k c j).get t=some v->((c.zip (zPq ρ j)).foldl (λt (p:Tmp×Value)=>t.setIfInBounds p.1 p.2) a)[t]? =some (abq ρ v)/\InD D v)/\
  ((c.zip (zPq ρ j)).foldl (λt (p:Tmp×Value)=>t.setIfInBounds p.1 p.2) a).size=a.size
 |[],_,k,a,h,_,_=>⟨by simpa[Kuq] using h,by simp⟩
 |p::c,[],k,a,h,_,_=>⟨by simpa[Kuq,zPq] using h,by simp[zPq]⟩
 |p::c,v::j,k,a,h,hv,hp=>by
  have n:=JFq (ρ:=ρ) (D:=D) c j (k.set p (some v)) (a.setIfInBounds p (abq ρ v)) (λt x m=>by
   rw[Tr.get_set] at m;rw[YT];by_cases e:t=p
   .subst e;rw[Zl rfl] at m;cases m
    exact⟨by simp[hp t Xi],hv.1⟩
   .rw[Zg e] at m;rw[Zg (λy=>e y.symm)];exact h t x m) hv.2 (λq A=>by simp[hp q (by simp[A])])
  simp only[Kuq,zPq,List.zip_cons_cons,List.foldl_cons];exact⟨n.1,by rw[n.2];simp⟩
structure SelfM(S:Self):Prop where
 fn:∀f vs h v h',S.fn f vs h=some (v,h') ->Mono h h'
 yield:∀l vs h v h',S.yield l vs h=some (v,h') ->Mono h h'
structure FlowM(F:Flow):Prop where
 loop:∀c st x st',F.loop c st=some (x,st') ->Mono st.h st'.h
 scope:∀c l st x st',F.scope c l st=some (x,st') ->Mono st.h st'.h
section
variable {C:Cfg} {S:Self} {F:Flow}
theorem opM(g:SelfM S){o:Oper}{k:Tr V}{h j:Heap}{v:V}(b:opV S C k h o=some (v,j)):Mono h j:=by
 unfold opV at b;split at b
 .cases b;exact Mono.refl _
 .split at b
  .rename_i r q;cases b;exact eBq q
  .unfold jBq at b;split at b
   .split at b
    .split at b
     .split at b
      .cases b;exact Mono.refl _
      .cases b
     .exact g.fn _ _ _ _ _ b
    .exact g.yield _ _ _ _ _ b
    .cases b
   .split at b
    .split at b
     .split at b
      .cases b
      .exact g.fn _ _ _ _ _ b
     .cases b
    .cases b
   .cases b
theorem C4q(f:SelfM S){g:Array Oper}:∀(l:List Oper) (j:Tr V) (h:Heap) (b:Tr V) (d:Heap),jfq S C g l j h=some (b,d) ->Mono h d
 |[],j,h,b,d,he=>by
  simp only[jfq,Zm,ZR] at he;rw[<-he.2];exact Mono.refl _
 |o::l,j,h,b,d,he=>by
  simp only[jfq] at he;split at he
  .split at he
   .rename_i v q k;exact(opM f k).trans (C4q f l _ _ _ _ he)
   .cases he
  .exact C4q f l _ _ _ _ he
  .cases he
theorem wUq(f:SelfM S){o:Oper}{d:Tr V}{h b:Heap}{v:V}{x:Option Ev}(g:Jrq S C d h o=some (v,b,x)):Mono h b:=by
 rcases qSq g with ⟨_,rfl,_⟩|⟨h1,_,ho,rfl,_⟩
 .exact Mono.refl _
 .have:=KQq h.wmin h1.wmin;exact bMq (opM f ho) this.1 this.2
theorem ogq(f:SelfM S){j:Array Oper}:∀(l:List Oper) (i:Nat) (q:List (Nat×Ev)) (k:Tr V) (h:Heap) (d:Tr V) (g:Heap),y7q S C j l i q k h=some (d,g) ->Mono h g
 |[],_,_,k,h,d,g,he=>by
  simp only[y7q,Zm,ZR] at he;rw[<-he.2];exact Mono.refl _
 |o::l,i,q,k,h,d,g,he=>by
  simp only[y7q] at he;split at he
  .split at he
   .rename_i v u x b;split at he
    .exact(wUq f b).trans (ogq f l _ _ _ _ _ _ he)
    .cases he
   .rename_i v u b;exact(wUq f b).trans (ogq f l _ _ _ _ _ _ he)
   .cases he
  .exact ogq f l _ _ _ _ _ _ he
  .cases he
theorem Juq(w:SelfM S)(y:FlowM F):∀(c:Code) (v:St) (x:Exit) (j:St),zgq S F C c v=some (x,j) ->Mono v.h j.h
 |.skip,v,x,j,he=>by simp only[zgq,Zm,ZR] at he;rw[<-he.2];exact Mono.refl _
 |.label _,v,x,j,he=>by simp only[zgq,Zm,ZR] at he;rw[<-he.2];exact Mono.refl _
 |.exit _,v,x,j,he=>by simp only[zgq,Zm,ZR] at he;rw[<-he.2];exact Mono.refl _
 |.goto _,v,x,j,he=>by simp only[zgq,Zm,ZR] at he;rw[<-he.2];exact Mono.refl _
 |.ret,v,x,j,he=>by simp only[zgq,Zm,ZR] at he;rw[<-he.2];exact Mono.refl _
 |.refuse _,v,x,j,he=>by simp[zgq] at he
 |.loop c,v,x,j,he=>y.loop c v x j he
 |.seq c d,v,x,j,he=>by
  simp only[zgq] at he;split at he
  .rename_i D B;exact(Juq w y c _ _ _ B).trans (Juq w y d _ _ _ he)
  .exact Juq w y c _ _ _ he
 |.cond _ c d,v,x,j,he=>by
  simp only[zgq] at he;split at he
  .exact Juq w y c _ _ _ he
  .exact Juq w y d _ _ _ he
  .cases he
 |.block _ c,v,x,j,he=>by
  simp only[zgq] at he;split at he
  .rename_i E D B;have:=Juq w y c _ _ _ B;split at he<;>(cases he;exact this)
  .exact Juq w y c _ _ _ he
 |.scope c,v,x,j,he=>by
  simp only[zgq] at he;split at he
  .rename_i l D B;exact(Juq w y c _ _ _ B).trans (y.scope _ _ _ _ _ he)
  .exact Juq w y c _ _ _ he
 |.region _ ops dr,v,x,j,he=>by
  cases dr<;>simp only[zgq] at he<;>split at he
  .rename_i z;cases he;exact C4q w _ _ _ _ _ z
  .cases he
  .rename_i z;cases he;exact ogq w _ _ _ _ _ _ _ z
  .cases he
 |.rangeFunc _ _ _ _,v,x,j,he=>by
  simp only[zgq] at he;split at he
  .split at he
   .rename_i u G A;exact((yAq _ _).trans (yAq _ _)).trans ((w.fn _ _ _ _ _ A).trans (Zsq he))
   .cases he
  .cases he
end
theorem j0q:∀(f:List Nat) (h b:Heap),qZq f h=some b->Mono h b
 |[],h,b,e=>by simp only[qZq,Zm] at e;subst e;exact Mono.refl _
 |d::f,h,b,e=>by
  simp only[qZq] at e;split at e
  .rename_i g;exact(y1q g).trans (j0q f _ _ e)
  .cases e
theorem Zoq{C:Cfg}{j:Func}{f:St}{v:V}{d:Heap}(b:duq C j f=some (v,d)):Mono f.h d:=by
 unfold duq at b;split at b
 .cases b
 .rename_i k g;have:=j0q _ _ _ g;split at b<;>first|(cases b;done)|(cases b;exact this)
theorem Cdq(C:Cfg)(B:∀f k,C.known f=some k->∀w h v u,k w h=some (v,u) ->Mono h u):∀n,SelfM ⟨y9q C n,zQq C n⟩/\FlowM ⟨yhq C n,zVq C n⟩
 |0=>⟨⟨λf w h v u b=>by simp[y9q] at b,λl w h v u b=>by simp[zQq] at b⟩,⟨λc z x o b=>by simp[yhq] at b,λc l z x o b=>by simp[zVq] at b⟩⟩
 | n + 1=>by
  obtain⟨G,A⟩:=Cdq C B n;have g:=Juq (C:=C) G A;refine⟨⟨λf w h v u b=>?_,λl w h v u b=>?_⟩,⟨λc z x o b=>?_,λc l z x o b=>?_⟩⟩
  .simp only[y9q] at b;split at b
   .rename_i k D;exact B f k D _ _ _ _ b
   .split at b
    .cases b
    .split at b
     .split at b
      .rename_i z d;exact(g _ _ _ _ d).trans (Zoq b)
      .rename_i z d;exact(g _ _ _ _ d).trans (Zoq b)
      .cases b
     .cases b
  .simp only[zQq] at b;split at b
   .split at b
    .cases b
    .split at b
     .rename_i y d;split at b
      .rename_i q;split at b
       .rename_i x E F;split at b
        .rename_i j;have m:=((g _ _ _ _ d).trans (y1q q)).trans (g _ _ _ _ F);split at b<;>first|(cases b;done)|(cases b;exact m.trans (y1q j))
        .cases b
       .cases b
      .cases b
     .cases b
   .cases b
  .simp only[yhq] at b;split at b
   .rename_i y d;exact(g _ _ _ _ d).trans (A.loop _ _ _ _ b)
   .exact g _ _ _ _ b
  .simp only[zVq] at b;split at b
   .split at b
    .rename_i H y d;exact(g _ _ _ _ d).trans (A.scope _ _ _ _ _ b)
    .exact g _ _ _ _ b
   .cases b
section
variable {P:Program} {C:Cfg} {s0:World} {U N:Nat} {D:Nat->Prop} {ρ:Env} {h h':Heap} {w:World} {a:Act}
theorem vzq{B:Func}{j:Array Value}{R:Ending->World->Prop}:∀(q:List Nat) (h p:Heap) (w:World),qZq q h=some p->p.next<=U->Rel s0 U D ρ h w->(∀d∈q,D d) ->
  (∀v,Rel s0 U D ρ p v->Nxt D ρ h w D ρ p v->LeavesInM Fence.wide 0 P B j R [] .returning v) ->LeavesInM Fence.wide 0 P B j R (q.map (mkD ρ)) .returning w
 |[],h,p,w,e,_,rel,_,k=>by
  simp only[qZq,Zm] at e;subst e;exact k w rel (Nxt.refl _ _ _ _)
 |d::q,h,p,w,e,hU,rel,hd,k=>by
  simp only[qZq] at e;split at e
  .rename_i E;have z:=hd d Xi;obtain⟨o,A,y⟩:=rel.has d _ z E;have y:o= .deferred (some []):=y;subst y;refine⟨by simp,.inl ⟨ρ.b d,_,rfl,run_takeDeferred A,?_⟩⟩;have H:=qAq (w:=w) (b:=ρ.b d) (.deferred none) (Zs.1 A).1;obtain⟨I,F⟩:=rel.put (b':=.dfr true) z E Y Y H rfl trivial;have L:=Zt (j0q q _ _ e).nxt hU;exact vzq q _ p _ e hU I (λx J=>hd x (by simp[J])) λv G K=>k v G (F.trans rel.lt hU K)
  .cases e
theorem hCq(o:CfgOK P C){k:Tr V}(g:FrE C D ρ k a)(f:Rel s0 U D ρ h w){r:ResultVar}{v:V}(d:w7q C k h r=some v):Yhq P a.tmps w r (abq ρ v)/\InD (DD D ρ) v:=by
 cases r with
 |tmp t=>
  have:=g.at_ t v d;exact⟨by simp[Yhq,Z3,this],g.in_ t v d⟩
 |cell p T=>
  simp only[w7q] at d;split at d
  .rename_i b y i j A;split at d
   .rename_i u l;have q:=g.in_ p _ j;have:=g.at_ p _ j;obtain⟨x,z⟩:=JMq o f A q.1 l d;exact⟨⟨_,by simp[Z3,this,abq],x⟩,z⟩
   .cases d
  .cases d
theorem unq(j:CfgOK P C){k:Tr V}(g:FrE C D ρ k a)(b:Rel s0 U D ρ h w):∀(l:List ResultVar) (d:List V),puq C k h l=some d->DSq (Yhq P a.tmps w) l (zPq ρ d)/\InDL (DD D ρ) d
 |[],d,e=>by
  simp only[puq,Zm] at e;subst e;exact⟨trivial,trivial⟩
 |r::l,d,e=>by
  simp only[puq] at e;split at e
  .rename_i v f p u;cases e;obtain⟨o,t⟩:=hCq j g b p;obtain⟨x,q⟩:=unq j g b l f u;exact⟨⟨o,x⟩,t,q⟩
  .cases e
theorem qyq(ρ:Env)(l:List V):(zPq ρ l).length=l.length:=by rw[k9q];simp
theorem b5q(H:CfgOK P C){o:Func}{x:St}{v:V}(f:duq C o x=some (v,h'))(K:h'.next<=U){r:Option Nat}(g:StR C s0 U N r [] D ρ x a w){R:Ending->World->Prop}(k:∀j,Rel s0 U D ρ h' j->Nxt D ρ x.h w D ρ h' j->InD (DD D ρ) v->R (.returned (abq ρ v)) j):
  LeavesInM Fence.wide 0 P o a.tmps R a.defers .returning w:=by
 unfold duq at f;split at f
 .cases f
 .rename_i M J;rw[g.defs,ZT];split at f
  .rename_i u A;cases f;refine vzq _ _ _ _ J K g.rel g.din λj p E=>?_
   have L:FrE C D ρ x.fr a:=g.fr;obtain⟨b,G⟩:=unq H L p _ _ A
   have z:∃y,o.results.toList=[y]:=by
    cases I:o.results.toList with
    |nil=>rw[I] at b;exact b.elim
    |cons y l=>cases l with
     |nil=>exact⟨y,rfl⟩
     |cons _ _=>rw[I] at b;exact b.2.elim
   obtain⟨y,q⟩:=z;rw[q] at b;exact⟨_,efq (by apply YC.1;simpa using q) b.1,k j p E G.1⟩
  .rename_i F B A;cases f;refine vzq _ _ _ _ J K g.rel g.din λj p E=>?_
   obtain⟨b,G⟩:=unq H g.fr p _ _ A
   refine⟨_,eeq (rvs:=o.results.toList) Xi (λe=>?_) b,by
    have:=k j p E G;simpa[abq] using this⟩
   rw[qyq] at e;cases F with
   |nil=>cases e
   |cons u F=>cases F with
    |nil=>exact B u rfl
    |cons _ _=>cases e
  .cases f
end
def qVq(P:Program)(C:Cfg)(f:FuncId)(k:List V->Heap->Option (V×Heap)):Prop:=∀g h v d,k g h=some (v,d) ->
 Mono h d/\(∀b w,(callFunc f b).run P w= .ok (.enter f b) w)/\∀s0 U D c w,d.next<=U->GlobOK C (DD D c) c->InDL (DD D c) g->Rel s0 U D c h w->Calls P f (zPq c g).toArray w (xyq s0 U D c h w v d)
def jQq(P:Program)(C:Cfg):Prop:=∀f k,C.known f=some k->qVq P C f k
structure RunOK(P:Program)(C:Cfg)(n:Nat):Prop where
 self:SelfOK P C ⟨y9q C n,zQq C n⟩
 loop:∀N c,yQq N c=true->kaq P C N (yhq C n c) (λr Q a w=>Code.roundsIn (FF r) 0 P c Q n a w)
 scope:∀N c l,yQq N c=true->kaq P C N (zVq C n c l) (λr Q a w=>ZTq (FF r) 0 P c Q n l a w)
section
variable {P:Program} {C:Cfg}
theorem jXq(g:P.follows .mixedOrders=true)(h:CfgOK P C){n:Nat}(b:RunOK P C n){N:Nat}{c:Code}(f:yQq N c=true):
  kaq P C N (zgq ⟨y9q C n,zQq C n⟩ ⟨yhq C n,zVq C n⟩ C c) (λr Q a w=>c.wpIn (FF r) 0 P Q a w):=
 jNq h b.self ⟨n,b.loop,b.scope⟩ (buq g h b.self) c f
theorem mZq(p:P.follows .mixedOrders=true)(I:CfgOK P C){n:Nat}(E:RunOK P C n)(N:Nat)(c:Code)(j:yQq N c=true):kaq P C N (yhq C (n+1) c) (λr Q a w=>Code.roundsIn (FF r) 0 P c Q (n+1) a w):=by
 intro T x z h;have F:=jXq p I E j;simp only[yhq] at h;split at h
 .rename_i J M;obtain⟨t,q⟩:=F _ _ _ M;obtain⟨G,L⟩:=E.loop N c j _ _ _ h;refine⟨t.trans G,λs0 U r l D u a w Q f g k=>q s0 U r l D u a w _ (Zt G.nxt f) g λD1 b y w1 o B=>?_⟩;exact L s0 U r l D1 b y w1 Q f o λD2 A K w2 S H=>k D2 A K w2 S (B.trans g.rel.lt f H)
 .rename_i v;obtain⟨t,q⟩:=F _ _ _ h;refine⟨t,λs0 U r l D u a w Q f g k=>q s0 U r l D u a w _ f g λD1 b y w1 o B=>?_⟩;have R:=k D1 b y w1 o B;cases x with
  |normal=>exact absurd h (v z)
  |_=>exact R
theorem hvq(u:P.follows .mixedOrders=true)(L:CfgOK P C){n:Nat}(H:RunOK P C n)(N:Nat)(c:Code)(l:Nat)(p:yQq N c=true):kaq P C N (zVq C (n+1) c l) (λr Q a w=>ZTq (FF r) 0 P c Q (n+1) l a w):=by
 intro Y x E j;simp only[zVq] at j;split at j
 .rename_i f b;have I:=jXq u L H (uEq c l f b p);split at j
  .rename_i M R V;obtain⟨y,v⟩:=I _ _ _ V;obtain⟨J,T⟩:=H.scope N c M p _ _ _ j;refine⟨y.trans J,λs0 U r q D z a w Q o g k=>⟨f,b,v s0 U r q D z a w _ (Zt J.nxt o) g λD1 h B w1 t G=>?_⟩⟩;exact T s0 U r q D1 h B w1 Q o t λD2 F S w2 X K=>k D2 F S w2 X (G.trans g.rel.lt o K)
  .rename_i A;obtain⟨y,v⟩:=I _ _ _ j;refine⟨y,λs0 U r q D z a w Q o g k=>⟨f,b,v s0 U r q D z a w _ o g λD1 h B w1 t G=>?_⟩⟩;have W:=k D1 h B w1 t G;cases x with
   |goto l=>exact absurd j (A l E)
   |_=>exact W
 .cases j
theorem prq(Q:P.follows .mixedOrders=true)(hC:CfgOK P C)(hF:Ycq P C)(hK:jQq P C){n:Nat}(ih:RunOK P C n){f:FuncId}{B:List V}{h:Heap}{v:V}{E:Heap}(j:y9q C (n+1) f B h=some (v,E)):
  Mono h E/\(∀G w,(callFunc f G).run P w= .ok (.enter f G) w)/\∀s0 U D b w,E.next<=U->GlobOK C (DD D b) b->InDL (DD D b) B->Rel s0 U D b h w->Calls P f (zPq b B).toArray w (xyq s0 U D b h w v E):=by
 simp only[y9q] at j;split at j
 .rename_i k hk;exact hK f k hk _ _ _ _ j
 split at j
 .cases j
 .rename_i Z X;obtain⟨hf,he,hok⟩:=hF f Z X;split at j
  .rename_i c hb J;have J:=Yb J;have cs:=jXq Q hC ih (hok c hb)
   have K:∀x N,(x= .normal\/x= .ret) ->zgq ⟨y9q C n,zQq C n⟩ ⟨yhq C n,zVq C n⟩ C c ⟨uMq 0 B .nil,h,[],false⟩=some (x,N) ->duq C Z N=some (v,E) ->
     Mono h E/\∀s0 U D b w,E.next<=U->GlobOK C (DD D b) b->InDL (DD D b) B->Rel s0 U D b h w->Calls P f (zPq b B).toArray w (xyq s0 U D b h w v E):=λx N hx M h2=>by
    obtain⟨m1,k1⟩:=cs _ _ _ M;have m2:=Zoq h2;refine⟨m1.trans m2,λs0 U D b w W gl hin L=>?_⟩;refine callsIn_wide.1 (callsIn_of_wp_marks (F:=Fence.wide) (n:=0) hf hb trivial ?_)
    have H:∀t u,(uMq 0 B .nil).get t=some u->((zPq b B).toArray++Array.replicate (Z.ntmps-(zPq b B).toArray.size) undef)[t]? =some (abq b u)/\InD (DD D b) u:=λt u q=>by
     rw[ZEq] at q;split at q
     .rename_i I;simp only[Y8,ZG] at q I;refine⟨?_,InDL.at_ hin q⟩;rw[Array.getElem?_append_left (by simp[qyq];exact I.2),k9q];simp[q]
     .simp[Tr.get_nil] at q
    refine k1 s0 U none [] D b _ w _ (Zt m2.nxt W) ⟨⟨⟨λt u q=>(H t u q).1,λt u q=>(H t u q).2,gl⟩⟩,L,?_,rfl,(λd hd=>by cases hd),rfl⟩ λD1 S a1 w1 g1 n1=>?_
    .simp only[Array.size_append,Array.size_replicate,ZU,qyq];omega
    .have fin:=b5q (P:=P) hC h2 W g1 (R:=xyq s0 U D b h w v E) λw' r' n' i'=>⟨D1,S,rfl,r',n1.trans L.lt W n',i'⟩
     rcases hx with rfl|rfl<;>exact fin
   split at j
   .rename_i N M;obtain⟨Y,T⟩:=K _ _ (.inl rfl) M j;exact⟨Y,he,T⟩
   .rename_i N M;obtain⟨Y,T⟩:=K _ _ Jr M j;exact⟨Y,he,T⟩
   .cases j
  .cases j
theorem r1q(hmx:P.follows .mixedOrders=true)(hC:CfgOK P C){n:Nat}(ih:RunOK P C n){l:Nat}{W:List V}{h:Heap}{v:V}{h':Heap}(z:zQq C (n+1) l W h=some (v,h')):
  ∀s0 U D q w,h'.next<=U->GlobOK C (DD D q) q->D l->InDL (DD D q) W->Rel s0 U D q h w->YieldAt Fence.wide 0 P (q.l l).1 (zPq q W).toArray w (xyq s0 U D q h w v h'):=by
 simp only[zQq] at z;split at z
 .rename_i fr ps asg bd d hget;split at z
  .cases z
  .rename_i K;have K:W.length=ps.size:=Zi K;split at z
   .rename_i st1 h1;split at z
    .rename_i fr1 ps1 X bd1 d1 B;split at z
     .rename_i x st2 h2;split at z
      .rename_i fr2 Q H S d2 E
       --the end of a round
       obtain⟨b,I,J,hb,hst,hv,hh⟩:∃(b:Bool) (I:LoopState) (J:Option Code),(J.isNone=b/\I=(if J.isNone then .ready else .done))/\((x= .normal/\J=none)\/(x= .ret/\J=some .ret)\/(∃id,x= .exit id/\J=some (.exit id))\/(∃id,x= .goto id/\J=some (.goto id)))/\v= .bool b/\h'=st2.h.put l (.loop I J fr2 Q H S d2):=by
        split at z
        .cases z;exact⟨true,.ready,none,⟨rfl,rfl⟩,.inl ⟨rfl,rfl⟩,rfl,rfl⟩
        .cases z;exact⟨false,.done,_,⟨rfl,rfl⟩,.inr (.inl ⟨rfl,rfl⟩),rfl,rfl⟩
        .cases z;exact⟨false,.done,_,⟨rfl,rfl⟩,.inr (.inr (.inl ⟨_,rfl,rfl⟩)),rfl,rfl⟩
        .cases z;exact⟨false,.done,_,⟨rfl,rfl⟩,.inr (.inr (.inr ⟨_,rfl,rfl⟩)),rfl,rfl⟩
        .cases z
       subst hv;subst hh
       clear z;obtain⟨hb1,hb2⟩:=hb;intro s0 U D q w hU gl hl hin G;have hU2:st2.h.next<=U:=hU;obtain⟨o,q1,q2⟩:=G.has l _ hl hget;obtain⟨fnM,j,rfl,qt,ql,qp,qa,qb⟩:=q2;have hcl:=G.clo l _ hl hget;have hlh:=G.blt hget;have hy:=run_yield (P:=P) (args:=(zPq q W).toArray) q1 (by simp[qyq,K]);rw[ql];refine⟨fnM,_,asg,bd,hy,fDq (r:=none) (n:=0) (roundIn_of_wpIn (F:=Fence.wide) trivial ?_)⟩;clear hy;obtain⟨g1,g2⟩:=JFq (ρ:=q) (D:=DD D q) ps.toList W fr j (λt u hu=>⟨qt t u hu,hcl.1 t u hu⟩) hin qp
       have hT:(ps.zip (zPq q W).toArray).foldl (λj (t,a)=>j.setIfInBounds t a) j=(ps.toList.zip (zPq q W)).foldl (λt (p:Tmp×Value)=>t.setIfInBounds p.1 p.2) j:=by
        rw[<-Array.foldl_toList,Array.toList_zip]
       simp only[hT];obtain⟨m1,k1⟩:=jXq hmx hC ih qa _ _ _ h1;obtain⟨m2,k2⟩:=jXq hmx hC ih qb _ _ _ h2;have hU1:st1.h.next<=U:=Zt m2.nxt hU2;refine k1 s0 U (some (q.b l)) [] D q _ w _ hU1 ⟨⟨⟨λt u hu=>(g1 t u hu).1,λt u hu=>(g1 t u hu).2,gl⟩⟩,G,g2,rfl,(λd hd=>by cases hd),rfl⟩ λD1 N a1 w1 s1 n1=>?_
       have T:D1 l:=n1.sub l hl;have eb1:N.b l=q.b l:=(n1.env l (.inl hlh)).1;obtain⟨o1,p1,p2⟩:=s1.rel.has l _ T B;obtain⟨fn1,M,rfl,pt,pl,pp,pa,pb⟩:=p2;have hcl1:=s1.rel.clo l _ T B;have hlh1:=s1.rel.blt B;have p1':=p1;rw[eb1] at p1';refine⟨_,run_beginRound p1' rfl,?_⟩;have ht:=qAq (w:=w1) (b:=N.b l) (.loop {state:=.busy,pending:=none,fn:=fn1,tmps:=M,params:=ps1,assign:=X,body:=bd1,defers:=N.b d1}) (Zs.1 p1).1;obtain⟨r2,n2⟩:=s1.rel.put (b':=.loop .busy none fr1 ps1 X bd1 d1) T B Y Y ht ⟨fn1,M,rfl,pt,pl,pp,pa,pb⟩ hcl1;rw[eb1] at r2 n2;have n12:=n1.trans G.lt (by exact hU1) n2;refine k2 s0 U (some (q.b l)) [] D1 N a1 _ _ hU2 (s1.next hU1 n2 r2) λD3 R a3 w3 s3 n3=>?_
       have Z:D3 l:=n3.sub l T;have eb3:R.b l=q.b l:=((n3.env l (.inl hlh1)).1).trans eb1;obtain⟨o3,t1,t2⟩:=s3.rel.has l _ Z E;obtain⟨fn3,L,rfl,tt,tl,tp,ta,tb⟩:=t2;have hcl3:=s3.rel.clo l _ Z E;have t1':=t1;rw[eb3] at t1';have ht3:=qAq (w:=w3) (b:=R.b l) (.loop {state:=I,pending:=J,fn:=fn3,tmps:=L,params:=Q,assign:=H,body:=S,defers:=R.b d2}) (Zs.1 t1).1;obtain⟨r4,n4⟩:=s3.rel.put (b':=.loop I J fr2 Q H S d2) Z E Y Y ht3 ⟨fn3,L,rfl,tt,tl,tp,ta,tb⟩ hcl3;rw[eb3] at r4 n4;have n14:=(n12.trans G.lt hU2 n3).trans G.lt hU n4;have hrun:=run_endRound (P:=P) J t1'
       have fin:∃v w',(Instr.endRound (q.b l) J).run P w3= .ok v w'/\xyq s0 U D q h w (.bool b) (st2.h.put l (.loop I J fr2 Q H S d2)) (.returned v) w':=by
        refine⟨_,_,hrun,D3,R,?_,?_,?_,trivial⟩
        .rw[hb1];rfl
        .rw[<-hb2];exact r4
        .rw[<-hb2];exact n14
       rcases hst with ⟨rfl,rfl⟩|⟨rfl,rfl⟩|⟨id,rfl,rfl⟩|⟨id,rfl,rfl⟩<;>exact fin
      .cases z
     .cases z
    .cases z
   .cases z
 .cases z
theorem brq(b:P.follows .mixedOrders=true)(o:CfgOK P C)(w:Ycq P C)(p:jQq P C):∀n,RunOK P C n
 |0=>⟨⟨(Cdq C (λf k t g h v j a=>(p f k t g h v j a).1) 0).1.fn,λf g h v j a=>by simp[y9q] at a,λf g h v j a=>by simp[y9q] at a,(Cdq C (λf k t g h v j a=>(p f k t g h v j a).1) 0).1.yield,λl g h v j a=>by simp[zQq] at a⟩,
   λN c _ z x u a=>by simp[yhq] at a,λN c l _ z x u a=>by simp[zVq] at a⟩
 |n+1=>by
  have q:=brq b o w p n;have m:=Cdq C (λf k t g h v j a=>(p f k t g h v j a).1) (n+1)
  exact⟨⟨m.1.fn,λf g h v j a=>(prq b o w p q a).2.1,λf g h v j a=>(prq b o w p q a).2.2,m.1.yield,λl g h v j a=>r1q b o q a⟩,
   mZq b o q,hvq b o q⟩
theorem hwq(p:P.follows .mixedOrders=true)(E:CfgOK P C)(J:Ycq P C)(I:jQq P C){n:Nat}{f:FuncId}{k:List V}{h:Heap}{v:V}{g:Heap}(F:y9q C n f k h=some (v,g)){D:Nat->Prop}{c:Env}{w:World}(G:GlobOK C (DD D c) c)(z:InDL (DD D c) k)(q:Rel w g.next D c h w):
  Calls P f (zPq c k).toArray w λe j=>∃D' b,e= .returned (abq b v)/\Below w.heap.size w j/\Rel w g.next D' b g j/\Nxt D c h w D' b g j:=
 ((brq p E J I n).self.fn f k h v g F w g.next D c w (Zb _) G z q).mono λe j=>by
  rintro⟨D',b,rfl,B,H,_⟩;exact⟨D',b,rfl,B.base,B,H⟩
end
mutual
def ciq:V->Bool
 |.ptr _ _=>false
 |.sl _ _ _ _ _ _=>false
 |.map _=>false
 |.yield _=>false
 |.fn _ a c=>YAq a&&YAq c
 |.iface _ v=>ciq v
 |.agg _ l=>YAq l
 |.arr _ _ l=>YAq l
 |.tup l=>YAq l
 |.undef=>true
 |.bool _=>true
 |.int _ _=>true
 |.str _=>true
 |.nilp=>true
 |.nils=>true
 |.nilm=>true
 |.nilf=>true
 |.nili=>true
def YAq:List V->Bool
 |[]=>true
 |v::l=>ciq v&&YAq l
end
mutual
theorem bare_in{D:Nat->Nat->Prop}:∀{v:V},ciq v=true->InD D v
 |.ptr _ _,h=>by simp[ciq] at h
 |.sl _ _ _ _ _ _,h=>by simp[ciq] at h
 |.map _,h=>by simp[ciq] at h
 |.yield _,h=>by simp[ciq] at h
 |.fn _ a c,h=>by simp only[ciq,Zd] at h;exact⟨u9q h.1,u9q h.2⟩
 |.iface _ v,h=>bare_in (v:=v) h
 |.agg _ l,h=>u9q (l:=l) h
 |.arr _ _ l,h=>u9q (l:=l) h
 |.tup l,h=>u9q (l:=l) h
 |.undef,_=>trivial
 |.bool _,_=>trivial
 |.int _ _,_=>trivial
 |.str _,_=>trivial
 |.nilp,_=>trivial
 |.nils,_=>trivial
 |.nilm,_=>trivial
 |.nilf,_=>trivial
 |.nili,_=>trivial
theorem u9q{D:Nat->Nat->Prop}:∀{l:List V},YAq l=true->InDL D l
 |[],_=>trivial
 |v::l,h=>by simp only[YAq,Zd] at h;exact⟨bare_in h.1,u9q h.2⟩
end
theorem dPq{v:V}(h:ciq v=true):InD (λ_ _=>False) v:=bare_in h
theorem nrq{P:Program}{t:TypeId}(h:(P.underlying t).map (λd=>match d with|.struct _=>false|.array _ _=>false|.interface _=>false|_=>true)=some true):TyD.Is P t .other:=by
 unfold TyD.Is;cases b:P.underlying t with
 |none=>rw[b] at h;cases h
 |some d=>rw[b] at h;cases d<;>simp_all
theorem n3q{P:Program}{t:TypeId}(h:(P.underlying t).map (λd=>match d with|.interface _=>true|_=>false)=some true):TyD.Is P t .iface:=by
 unfold TyD.Is;cases b:P.underlying t with
 |none=>rw[b] at h;cases h
 |some d=>rw[b] at h;cases d<;>simp_all
structure FnOK(P:Program)(f:FuncId)(fn:Func):Prop where
 at_:P.funcs[f]? =some fn
 ent:∀args w,(callFunc f args).run P w= .ok (.enter f args) w
 ok:(match fn.body with|some c=>yQq fn.ntmps c|none=>true)=true
theorem oeq{P:Program}{C:Cfg}(h:∀f a,C.fn f=some a->FnOK P f a):Ycq P C:=λf a d=>by
 obtain⟨g,i,b⟩:=h f a d;refine⟨g,i,λc e=>?_⟩;rw[e] at b;exact b
def l6q(P:Program)(f:FuncId)(e:List V->Option V):Prop:=∀c b v,e b=some v->(∀w,(callFunc f (zPq c b).toArray).run P w= .ok (.value (abq c v)) w)/\∀D,InDL D b->InD D v
theorem o1q{P:Program}{f:FuncId}(g:∀b w,(callFunc f b).run P w=((add64Entry b).run P w).andThen λv p=>.ok (.value v) p):l6q P f frq:=by
 intro t q v h;unfold frq at h;split at h
 .rename_i x y c;split at h
  .rename_i j;have j:=Yb j;cases h;refine⟨λw=>?_,λD _=>⟨trivial,trivial,trivial⟩⟩;rw[g];simp only[zPq,abq];rw[run_add64 _ _ _ Xi Xi Xi (by simp only[Int.ofNat_eq_natCast];omega)];simp only[Result.andThen];congr 4
  .cases h
 .cases h
def rho0(K:Nat):Env:=⟨λi=>i,λ_=>0,λ_=>K,λi=>(i,none)⟩
theorem trod_tab{H:Type}{B:TypeId×Value->H}{P:Program}{w:World}{d:Nat}{b:Nat->Bool}{f:Bool}{c:Nat}{t e:TypeId}{n:Nat}{k:IntKind}{A:List Value}{ns:List Int}{p:List MemPlace}
  (M:P.underlying t=some (.array n e)) (N:P.underlying e=some (.int k)) (I:P.cellsOf e=1) (C:P.cellsOf t=n) (R:ns.length=n)
  (h:DataW.trod B P w d b f c t A=some (.agg (ns.map λz=>.lit (.int k z)),p)):A=ns.map λz=>.int k z:=by
 obtain⟨E,m,rfl,q,G,O,u⟩:=DataW.trod_array M h;simp only[ZR,DataW.agg.injEq] at q;have q:=q.1;rw[C] at G;apply List.ext_getElem?;intro i;by_cases K:i<n
 .have D:=u i K;rw[I,Z6] at D;obtain⟨x,j⟩:∃x,E[i]? =some x:=⟨_,Za Xd⟩
  rw[j] at D;obtain⟨z,F,Q,_⟩:=DataW.trod_int N D;have s:(ns.map λz=>(DataW.lit (.int k z):DataW H))[i]? =(E.map (·.1))[i]? :=by rw[q]
  rw[Z1,Z1,j,Q] at s;obtain⟨J,o⟩:∃z,ns[i]? =some z:=⟨_,Za Xd⟩
  rw[o] at s;simp at s;subst s
  have L:A[i]? =some (.int k J):=by
   have:=Zc (·[0]?) F;simp only[List.getElem?_take_of_lt (Nat.zero_lt_one),Z0,Y5] at this;simpa using this
  rw[L,Z1,o];rfl
 .rw[List.getElem?_eq_none Xd,List.getElem?_eq_none Xn]
def ilq:List (String×FuncId) ->String->Option FuncId
 |[],_=>none
 |p::l,m=>match decide (p.1=m) with
  |true=>some p.2
  |false=>ilq l m
def Enq(P:Program)(t:TypeId)(l:List (String×FuncId)):Prop:=∀m f,ilq l m=some f->∀v b w,(callMethod (.iface t v) m b).run P w=(callFunc f (#[v]++b)).run P w
def Cnq(T:Tr (List (String×FuncId)))(t:TypeId)(m:String):Option FuncId:=match T.get t with
 |some l=>ilq l m
 |none=>none
theorem ikq{P:Program}{T:Tr (List (String×FuncId))}(h:∀t l,T.get t=some l->Enq P t l)(t:TypeId)(m:String)(f:FuncId)(d:Cnq T t m=some f)(v:Value)(b:Array Value)(w:World):(callMethod (.iface t v) m b).run P w=(callFunc f (#[v]++b)).run P w:=by
 unfold Cnq at d;split at d
 .rename_i l g;exact h t l g m f d v b w
 .cases d
def o3q(P:Program)(k:Nat):UX->Prop
 |.ptr e=>P.underlying (k/2)=some (.pointer e)
 |.raw=>P.underlying (k/2)=some .unsafePointer
 |.fnc=>∃g d v,P.underlying (k/2)=some (.func g d v)
 |.mk e=>∃g d t,d[0]? =some t/\P.underlying t=some (.slice e)/\P.underlying e=some (.int .u8)/\∀b w,(callFunc (k/2) b).run P w=(do pure (Next.value (<-Extern.BytealgMakeNoZero.makeNoZero g d b))).run P w
theorem cBq(t:Nat):2*t/2=t:=by omega
theorem muq(t:Nat):(2*t+1)/2=t:=by omega
theorem peq{P:Program}{T:Nat->Option UX}(h:∀k x,T k=some x->o3q P k x):∀t e,T (2*t)=some (.ptr e) ->P.underlying t=some (.pointer e):=λt e a=>by
 have:=h _ _ a;simp only[o3q,cBq] at this;exact this
theorem pdq{P:Program}{T:Nat->Option UX}(h:∀k x,T k=some x->o3q P k x):∀t,T (2*t)=some .raw->P.underlying t=some .unsafePointer:=λt b=>by
 have:=h _ _ b;simp only[o3q,cBq] at this;exact this
theorem pfq{P:Program}{T:Nat->Option UX}(h:∀k x,T k=some x->o3q P k x):∀t,T (2*t)=some .fnc->∃a d v,P.underlying t=some (.func a d v):=λt b=>by
 have:=h _ _ b;simp only[o3q,cBq] at this;exact this
theorem wEq{P:Program}{T:Nat->Option UX}(h:∀k x,T k=some x->o3q P k x):∀f e,T (2*f+1)=some (.mk e) ->∃d b t,b[0]? =some t/\P.underlying t=some (.slice e)/\P.underlying e=some (.int .u8)/\∀a w,(callFunc f a).run P w=(do pure (Next.value (<-Extern.BytealgMakeNoZero.makeNoZero d b a))).run P w:=λf e g=>by
 have:=h _ _ g;simp only[o3q,muq] at this;exact this
def noV:List V->Option V:=λ_=>none
theorem C7q{P:Program}{f:FuncId}:l6q P f noV:=λa b v h=>by cases h
theorem lmq{v:V}(h:ciq v=true)(b a:Env):abq a v=abq b v:=qaq (D:=λ_ _=>False) (λ_ _ h=>h.elim) (bare_in h)
section
inductive W where
 |undef
 |bool (b:Bool)
 |int (k:IntKind) (n:Int)
 |str (s:List UInt8)
 |nilp
 |ptr (b off:Nat)
 |nils
 |sl (b base off len esz:Nat) (lim:Option Nat)
 |fz (l:List W) (esz:Nat) (full:Bool)
 |fel (x:W)
 |nilm
 |fn (f:FuncId) (first captured:List W)
 |yield (l:Nat)
 |nilf
 |iface (t:TypeId) (v:W)
 |nili
 |agg (n:Nat) (items:List W)
 |arr (n e:Nat) (items:List W)
 |tup (vs:List W)
 deriving Inhabited
def W.size:W->Nat
 |.agg n _=>n
 |.arr n _ _=>n
 |_=>1
def W.isAgg:W->Bool
 |.agg _ _=>true
 |.arr _ _ _=>true
 |_=>false
def W.leaf:W->Bool
 |.agg _ _=>false
 |.arr _ _ _=>false
 |.tup _=>false
 |.undef=>false
 |_=>true
def JYq:List W->Nat->Option (W×Nat)
 |[],_=>none
 |v::l,o=>match Nat.blt o v.size with
  |true=>some (v,o)
  |false=>JYq l (o-v.size)
def zGq:Nat->W->Nat->Nat->Bool->Option W
 |0,_,_,_,_=>none
 |f+1,v,off,n,ag=>
  match Nat.beq off 0&&Nat.beq n v.size&&ag==v.isAgg with
  |true=>match ag||v.leaf with
   |true=>some v
   |false=>none
  |false=>match v with
   |.agg _ l=>match JYq l off with
    |some (x,o)=>zGq f x o n ag
    |none=>none
   |.arr _ e l=>match l[off/e]? with
    |some x=>zGq f x (off%e) n ag
    |none=>none
   |_=>none
def Yiq(g:W->Nat->Option W):List W->Nat->Option (List W)
 |[],_=>none
 |v::l,o=>match Nat.blt o v.size with
  |true=>match g v o with
   |some a=>some (a::l)
   |none=>none
  |false=>match Yiq g l (o-v.size) with
   |some b=>some (v::b)
   |none=>none
def z7q:Nat->W->Nat->W->Option W
 |0,_,_,_=>none
 | f +1,v,off,x=>
  match Nat.beq off 0&&Nat.beq x.size v.size&&x.isAgg==v.isAgg with
  |true=>match x.isAgg||(v.leaf&&x.leaf) with
   |true=>some x
   |false=>none
  |false=>match v with
   |.agg m l=>match Yiq (λy o=>z7q f y o x) l off with
    |some c=>some (.agg m c)
    |none=>none
   |.arr m e l=>match l[off/e]? with
    |some y=>match z7q f y (off%e) x with
     |some b=>some (.arr m e (l.set (off/e) b))
     |none=>none
    |none=>none
   |_=>none
def ymq:Nat->W->Nat->Nat->Nat->Option (List W)
 |0,_,_,_,_=>none
 | f +1,v,off,n,e=>
  match v with
  |.arr m b l=>match Nat.beq b e&&Nat.beq (off%e) 0&&Nat.ble (off+n*e) m&&Nat.blt 0 e with
   |true=>some ((l.drop (off/e)).take n)
   |false=>match Nat.beq off 0&&Nat.beq n 1&&Nat.beq m e with
    |true=>some [.arr m b l]
    |false=>match l[off/b]? with
     |some x=>match Nat.ble (off%b+n*e) x.size with
      |true=>ymq f x (off%b) n e
      |false=>none
     |none=>none
  |.agg m l=>match Nat.beq off 0&&Nat.beq n 1&&Nat.beq m e with
   |true=>some [.agg m l]
   |false=>match JYq l off with
    |some (x,o)=>match Nat.ble (o+n*e) x.size with
     |true=>ymq f x o n e
     |false=>none
    |none=>none
  |_=>none
def v7q:W->Nat->Nat->List W->Option W
 |v,_,_,[]=>some v
 |v,off,e,x::l=>match Nat.beq x.size e&&v.isAgg with
  |true=>match z7q 50 v off x with
   |some a=>v7q a (off+e) e l
   |none=>none
  |false=>none
def l8q:List W->Nat
 |[]=>0
 |x::l=>x.size+l8q l
mutual
def aAq:V->Option W
 |.undef=>none
 |.bool b=>some (.bool b)
 |.int k n=>some (.int k n)
 |.str s=>some (.str s)
 |.nilp=>some .nilp
 |.ptr _ _=>none
 |.nils=>some .nils
 |.sl _ _ _ _ _ _=>none
 |.nilm=>some .nilm
 |.map _=>none
 |.fn _ _ _=>none
 |.yield _=>none
 |.nilf=>some .nilf
 |.iface _ _=>none
 |.nili=>some .nili
 |.agg n l=>match orq l with
  |some h=>match Nat.beq (l8q h) n with
   |true=>some (.agg n h)
   |false=>none
  |none=>none
 |.arr n e l=>match orq l with
  |some h=>match Nat.beq (l8q h) n&&h.all λx=>Nat.beq x.size e with
   |true=>some (.arr n e h)
   |false=>none
  |none=>none
 |.tup _=>none
def orq:List V->Option (List W)
 |[]=>some []
 |v::l=>match aAq v,orq l with
  |some w,some r=>some (w::r)
  |_,_=>none
end
abbrev FrW:=List (Nat×W)
def aqq:FrW->Nat->Option W
 |[],_=>none
 |(k,w)::l,t=>match Nat.beq k t with
  |true=>some w
  |false=>aqq l t
def atq(a:FrW)(d:Option Tmp)(w:W):FrW:=match d with
 |some t=>(t,w)::a
 |none=>a
abbrev HpW:=List (Nat×TypeId×W)
def hget:HpW->Nat->Option (TypeId×W)
 |[],_=>none
 |(k,w)::l,t=>match Nat.beq k t with
  |true=>some w
  |false=>hget l t
def apq:HpW->Nat->TypeId×W->HpW
 |[],_,_=>[]
 |(k,w)::l,t,x=>match Nat.beq k t with
  |true=>(k,x)::l
  |false=>(k,w)::apq l t x
def ayq:HpW->Nat->HpW
 |[],_=>[]
 |(k,w)::l,t=>match Nat.beq k t with
  |true=>l
  |false=>(k,w)::ayq l t
section
variable (C:Cfg) (G:Nat->Option W) (fr:FrW)
def D8q(x:Value):Option W:=match ofV x with
 |some v=>aAq v
 |none=>none
def evW:Operand->Option W
 |.tmp t=>aqq fr t
 |.const v=>D8q v
 |.global g=>match C.glob g,G g with
  |true,some w=>some (.fel w)
  |_,_=>none
 |.func f=>some (.fn f [] [])
def avq:List Operand->Option (List W)
 |[]=>some []
 |x::l=>match evW C G fr x,avq l with
  |some v,some r=>some (v::r)
  |_,_=>none
mutual
def eqW:Nat->TypeId->W->W->Option Bool
 |0,_,_,_=>none
 | f +1,t,x,y=>match C.ty t with
  |none=>none
  |some i=>match i.d with
   |.int _=>match x,y with
    |.int j a,.int k b=>match decide (j=k) with
     |true=>some (eqI a b)
     |false=>none
    |_,_=>none
   |.bool=>match x,y with
    |.bool a,.bool b=>some (a==b)
    |_,_=>none
   |.str=>match x,y with
    |.str a,.str b=>some (kTq a b)
    |_,_=>none
   |.ptr=>match x,y with
    |.nilp,.nilp=>some true
    |.nilp,.ptr _ _=>some false
    |.ptr _ _,.nilp=>some false
    |.nilp,.fel _=>some false
    |.fel _,.nilp=>some false
    |_,_=>none
   |.slice _=>match x,y with
    |.nils,.nils=>some true
    |.nils,.sl _ _ _ _ _ _=>some false
    |.sl _ _ _ _ _ _,.nils=>some false
    |.nils,.fz (_::_) _ _=>some false
    |.fz (_::_) _ _,.nils=>some false
    |_,_=>none
   |.struct g=>match x.isAgg&&y.isAgg with
    |true=>Yzq f g x y
    |false=>none
   |.arr n e=>match x.isAgg&&y.isAgg,C.ty e with
    |true,some j=>Xaq f e j n 0 x y
    |_,_=>none
   |_=>none
def Yzq:Nat->List (TypeId×Nat) ->W->W->Option Bool
 |0,_,_,_=>none
 |_+1,[],_,_=>some true
 |f+1,(t,off)::fs,x,y=>match C.ty t with
  |none=>none
  |some i=>match zGq 50 x off i.size i.agg,zGq 50 y off i.size i.agg with
   |some a,some b=>match eqW f t a b with
    |some true=>Yzq f fs x y
    |some false=>some false
    |none=>none
   |_,_=>none
def Xaq:Nat->TypeId->TyI->Nat->Nat->W->W->Option Bool
 |0,_,_,_,_,_,_=>none
 |_+1,_,_,0,_,_,_=>some true
 |f+1,e,j,n+1,k,x,y=>match zGq 50 x (k*j.size) j.size j.agg,zGq 50 y (k*j.size) j.size j.agg with
  |some a,some b=>match eqW f e a b with
   |some true=>Xaq f e j n (k+1) x y
   |some false=>some false
   |none=>none
  |_,_=>none
end
def Zaq:W->W->Bool
 |.bool _,.bool _=>true
 |.nilp,.nilp=>true
 |.nilp,.ptr _ _=>true
 |.ptr _ _,.nilp=>true
 |.nilp,.fel _=>true
 |.fel _,.nilp=>true
 |.nils,.nils=>true
 |.nils,.sl _ _ _ _ _ _=>true
 |.sl _ _ _ _ _ _,.nils=>true
 |.nils,.fz _ _ _=>true
 |.fz _ _ _,.nils=>true
 |x,y=>x.isAgg&&y.isAgg
def unV:V->Option W
 |.bool b=>some (.bool b)
 |.int k n=>some (.int k n)
 |.str s=>some (.str s)
 |_=>none
def BPq(c:BinOp)(t:TypeId)(x y:W):Option W:=match x,y with
 |.int k m,.int k' n=>match c with
  |.shl=>(shI .shl k m n).bind unV
  |.shr=>(shI .shr k m n).bind unV
  |_=>match decide (k=k') with
   |true=>(BRq c k m n).bind unV
   |false=>none
 |.str a,.str b=>(BQq c a b).bind unV
 |x,y=>match Zaq x y with
  |false=>none
  |true=>match c with
   |.eql=>match eqW C 300 t x y with
    |some b=>some (.bool b)
    |none=>none
   |.neq=>match eqW C 300 t x y with
    |some b=>some (.bool (!b))
    |none=>none
   |_=>none
def bLq:W->Option Nat
 |.int _ (.ofNat n)=>some n
 |_=>none
def aCq(d:Nat):Option Operand->Option Nat
 |none=>some d
 |some x=>match evW C G fr x with
  |some v=>bLq v
  |none=>none
def tuq(b e a d c:Nat)(f:Option Nat)(l h:Nat):Option Nat->Option W
 |none=>match Nat.ble l h&&Nat.ble h d with
  |true=>some (.sl b (match Nat.beq l 0 with|true=>e|false=>a) (a+l*c) (h-l) c (q6q l f))
  |false=>none
 |some m=>match Nat.ble l h&&Nat.ble h m&&Nat.ble m d&&Nat.ble 1 d with
  |true=>some (.sl b a (a+l*c) (h-l) c (some (m-l)))
  |false=>none
def mhq(b:List W)(d:Nat)(c:Bool)(l h:Nat):Option Nat->Option W
 |none=>match Nat.ble l h&&Nat.ble h b.length with
  |true=>some (.fz ((b.drop l).take (h-l)) d (c&&Nat.beq h b.length))
  |false=>none
 |some m=>match Nat.ble l h&&Nat.ble h m&&Nat.ble m b.length&&Nat.ble 1 b.length with
  |true=>some (.fz ((b.drop l).take (h-l)) d (Nat.beq h m))
  |false=>none
def i3q(t:TypeId):W->List (Nat×Operand) ->Option W
 |v,[]=>some v
 |v,(i,x)::l=>match ZYq C t i,evW C G fr x with
  |some (off,sz),some y=>match Nat.beq y.size sz with
   |true=>match z7q 50 v off y with
    |some a=>i3q t a l
    |none=>none
   |false=>none
  |_,_=>none
def wzq(c:Operand)(x:Operand)(y:Operand):Option W:=match evW C G fr c with
 |some (.bool true)=>evW C G fr x
 |some (.bool false)=>evW C G fr y
 |_=>none
def dUq(x:Operand)(i:Nat):Option W:=match evW C G fr x with
 |some (.tup vs)=>vs[i]?
 |_=>none
def DWq(x:Operand):Option W:=match evW C G fr x with
 |some (.ptr b o)=>some (.ptr b o)
 |some (.sl b base off len esz lim)=>some (.sl b base off len esz lim)
 |some (.fel y)=>some (.fel y)
 |some (.fz (y::l) e f)=>some (.fz (y::l) e f)
 |some (.fn f a c)=>some (.fn f a c)
 |some (.yield l)=>some (.yield l)
 |_=>none
def DVq(x:Operand):Option W:=match evW C G fr x with
 |some (.bool b)=>some (.bool (!b))
 |_=>none
def DXq(x:Operand):Option W:=match evW C G fr x with
 |some (.int k n)=>some (.int k (xBq k (0-n)))
 |_=>none
def DUq(x:Operand):Option W:=match evW C G fr x with
 |some (.int k n)=>match Ckq k n with
  |some c=>some (.int k c)
  |none=>none
 |_=>none
def B7q(a:BinOp)(t:TypeId)(x:Operand)(y:Operand):Option W:=match evW C G fr x,evW C G fr y with
 |some u,some v=>BPq C a t u v
 |_,_=>none
def wBq(s:TypeId)(t:TypeId)(x:Operand):Option W:=match C.ty s,C.ty t,evW C G fr x with
 |some _,some j,some v=>match j.d,v with
  |.int k,.int _ n=>some (.int k (xBq k n))
  |.str,.str a=>some (.str a)
  |_,_=>none
 |_,_,_=>none
def wAq(f:FuncId)(a:Array Operand)(c:Array Operand):Option W:=match avq C G fr a.toList,avq C G fr c.toList with
 |some u,some v=>some (.fn f u v)
 |_,_=>none
def pbq(t:TypeId)(a:Array (Nat×Operand)):Option W:=match C.ty t with
 |some j=>match j.agg,aAq j.zero with
  |true,some z=>i3q C G fr t z a.toList
  |_,_=>none
 |none=>none
def gCq(t:TypeId)(x:Operand)(i:Nat):Option W:=match ZPq C t i,evW C G fr x with
 |some (ft,off),some v=>match C.ty ft,v.isAgg with
  |some k,true=>zGq 50 v off k.size k.agg
  |_,_=>none
 |_,_=>none
def ZMq(t:TypeId)(x:Operand)(i:Nat):Option W:=match ZPq C t i,evW C G fr x with
 |some (ft,fo),some (.ptr b off)=>match C.ty ft with
  |some k=>match Nat.beq k.size 0 with
   |true=>none
   |false=>some (.ptr b (off+fo))
  |none=>none
 |some (ft,fo),some (.fel y)=>match C.ty ft with
  |some k=>match Nat.beq k.size 0 with
   |true=>none
   |false=>match zGq 50 y fo k.size k.agg with
    |some z=>some (.fel z)
    |none=>none
  |none=>none
 |_,_=>none
def jEq(t:TypeId)(x:Operand)(y:Operand):Option W:=match C.ty t,evW C G fr x,evW C G fr y with
 |some j,some v,some u=>match bLq u,j.d,v with
  |some i,.arr n e,.ptr b off=>match C.ty e,Nat.blt i n with
   |some k,true=>some (.ptr b (off+i*k.size))
   |_,_=>none
  |some i,.arr n e,.fel z=>match C.ty e,Nat.blt i n with
   |some k,true=>match Nat.beq k.size 0 with
    |true=>none
    |false=>match zGq 50 z (i*k.size) k.size k.agg with
     |some r=>some (.fel r)
     |none=>none
   |_,_=>none
  |some i,.slice e,.sl b _ off len esz _=>match C.ty e,Nat.blt i len with
   |some k,true=>match Nat.beq k.size esz with
    |true=>some (.ptr b (off+i*esz))
    |false=>none
   |_,_=>none
  |some i,.slice e,.fz l esz _=>match C.ty e,l[i]? with
   |some k,some r=>match Nat.beq k.size esz with
    |true=>some (.fel r)
    |false=>none
   |_,_=>none
  |_,_,_=>none
 |_,_,_=>none
def dTq(t:TypeId)(x:Operand)(y:Operand):Option W:=match C.ty t,evW C G fr x,evW C G fr y with
 |some j,some v,some u=>match bLq u,j.d,v with
  |some i,.str,.str s=>match s[i]? with
   |some c=>some (.int .u8 (.ofNat c.toNat))
   |none=>none
  |some i,.arr n e,v=>match C.ty e,Nat.blt i n,v.isAgg with
   |some k,true,true=>zGq 50 v (i*k.size) k.size k.agg
   |_,_,_=>none
  |_,_,_=>none
 |_,_,_=>none
def Qaq(t:TypeId)(x:Operand)(o:Option Operand)(g:Option Operand)(p:Option Operand):Option W:=match C.ty t,evW C G fr x with
 |some j,some v=>match j.d,v with
  |.slice e,.sl b base off len esz lim=>match C.ty e,aCq C G fr 0 o,aCq C G fr len g with
   |some k,some l,some h=>match Nat.beq k.size esz with
    |true=>match p with
     |none=>tuq b base off len esz lim l h none
     |some z=>match g,aCq C G fr 0 (some z) with
      |some _,some m=>tuq b base off len esz lim l h (some m)
      |_,_=>none
    |false=>none
   |_,_,_=>none
  |.slice e,.fz xs esz full=>match C.ty e,aCq C G fr 0 o,aCq C G fr xs.length g with
   |some k,some l,some h=>match Nat.beq k.size esz with
    |true=>match p with
     |none=>mhq xs esz full l h none
     |some z=>match g,aCq C G fr 0 (some z) with
      |some _,some m=>mhq xs esz full l h (some m)
      |_,_=>none
    |false=>none
   |_,_,_=>none
  |.slice e,.nils=>match C.ty e,aCq C G fr 0 o,aCq C G fr 0 g,p with
   |some _,some 0,some 0,none=>some .nils
   |_,_,_,_=>none
  |.str,.str s=>match aCq C G fr 0 o,aCq C G fr s.length g,p with
   |some l,some h,none=>match Nat.ble l h&&Nat.ble h s.length with
    |true=>some (.str ((s.drop l).take (h-l)))
    |false=>none
   |_,_,_=>none
  |_,_=>none
 |_,_=>none
def DYq(t:TypeId)(x:Operand):Option W:=match C.ty t,evW C G fr x with
 |some j,some v=>match j.d with
  |.iface=>none
  |_=>some (.iface t v)
 |_,_=>none
def gDq(x:Operand)(t:TypeId)(g:Bool):Option W:=match C.ty t,evW C G fr x with
 |some j,some v=>match j.d with
  |.iface=>none
  |_=>match v,g with
   |.nili,true=>match aAq j.zero with
    |some z=>some (.tup [z,.bool false])
    |none=>none
   |.iface s u,true=>match Nat.beq s t with
    |true=>some (.tup [u,.bool true])
    |false=>match aAq j.zero with
     |some z=>some (.tup [z,.bool false])
     |none=>none
   |.iface s u,false=>match Nat.beq s t with
    |true=>some u
    |false=>none
   |_,_=>none
 |_,_=>none
def D1q(b:Array Operand)(g:Array TypeId):Option W:=match g.toList,b.toList with
 |[t],[x]=>match C.ty t,evW C G fr x with
  |some j,some v=>match j.d,v with
   |.str,.str s=>some (.int .i64 (.ofNat s.length))
   |.slice _,.sl _ _ _ n _ _=>some (.int .i64 (.ofNat n))
   |.slice _,.fz l _ _=>some (.int .i64 (.ofNat l.length))
   |.slice _,.nils=>some (.int .i64 0)
   |.arr n _,_=>some (.int .i64 (.ofNat n))
   |_,_=>none
  |_,_=>none
 |_,_=>none
def DZq(a:Array Operand):Option W:=match a.toList with
 |[x,y]=>match evW C G fr x,evW C G fr y with
  |some (.int k m),some (.int _ n)=>some (.int k (match ltI n m with|true=>n|false=>m))
  |_,_=>none
 |_=>none
def D0q(a:Array Operand):Option W:=match a.toList with
 |[x,y]=>match evW C G fr x,evW C G fr y with
  |some (.int k m),some (.int _ n)=>some (.int k (match ltI m n with|true=>n|false=>m))
  |_,_=>none
 |_=>none
def y4q(o:Op):Option W:=match o with
 |.move x=>evW C G fr x
 |.assign x=>evW C G fr x
 |.pick c x y=>wzq C G fr c x y
 |.extract x i=>dUq C G fr x i
 |.nilCheck x=>DWq C G fr x
 |.unOp .not _ x=>DVq C G fr x
 |.unOp .neg _ x=>DXq C G fr x
 |.unOp .xor _ x=>DUq C G fr x
 |.binOp B t x y _=>B7q C G fr B t x y
 |.convert s t x=>wBq C G fr s t x
 |.makeFunc (.func f) a c=>wAq C G fr f a c
 |.build t j=>pbq C G fr t j
 |.field t x i=>gCq C G fr t x i
 |.fieldAddr t x i=>ZMq C G fr t x i
 |.indexAddr t x y=>jEq C G fr t x y
 |.index t x y=>dTq C G fr t x y
 |.slice t x q z w=>Qaq C G fr t x q z w
 |.makeInterface t x=>DYq C G fr t x
 |.typeAssert x _ t D=>gDq C G fr x t D
 |.call ⟨.builtin .len,args,ats⟩=>D1q C G fr args ats
 |.call ⟨.builtin .min,args,_⟩=>DZq C G fr args
 |.call ⟨.builtin .max,args,_⟩=>D0q C G fr args
 |_=>none
end
inductive EvW where
 |loadO (b:Nat)
 |loadF
 |storeO (b:Nat)
 |gen
 |dirty
 |updO (b:Nat)
 |mkO (b:Nat)
def zcq(s:List UInt8):List W:=s.map λc=>.int .u8 (.ofNat c.toNat)
def x6q:List W->Option (List UInt8)
 |[]=>some []
 |.int .u8 (.ofNat c)::l=>match Nat.blt c 256,x6q l with
  |true,some r=>some (UInt8.ofNat c::r)
  |_,_=>none
 |_=>none
def aNq(C:Cfg)(h:HpW)(g:TypeId)(a:Nat)(x:W):Option (List W):=match C.ty g with
 |none=>none
 |some j=>match j.d,x with
  |.slice _,.nils=>some []
  |.slice _,.fz l e _=>match Nat.beq e a with
   |true=>some l
   |false=>none
  |.slice _,.sl b _ off n e _=>match Nat.beq e a,hget h b with
   |true,some (_,v)=>ymq 50 v off n a
   |_,_=>none
  |.str,.str s=>match Nat.beq a 1 with
   |true=>some (zcq s)
   |false=>none
  |_,_=>none
abbrev gfq:=W×HpW×Nat×EvW
def ckq(C:Cfg)(q:HpW)(m:Nat)(A y:TypeId)(s x:W):Option gfq:=match C.ty A with
 |none=>none
 | some j =>match j.d with
  | .slice e=>match C.ty e with
   |none=>none
   | some k =>match Nat.beq k.size 0 with
    |true=>none
    | false =>match aNq C q y k.size x with
     |none=>none
     | some news=>match s with
      |.nils=>match news with
       |[]=>some (.nils,q,m,.gen)
       |_::_=>match Nat.ble (news.length*k.bytes) 140737488355328&&Nat.ble news.length 70368744177664 with
        |true=>some (.sl m 0 0 news.length k.size none,(m,e,.arr (news.length*k.size) k.size news)::q,m+1,.gen)
        |false=>none
      |.fz l h t=>match Nat.beq h k.size,news with
       |false,_=>none
       |true,[]=>some (.fz l h t,q,m,.gen)
       |true,_::_=>match Nat.ble ((l.length+news.length)*k.bytes) 140737488355328&&Nat.ble (l.length+news.length) 70368744177664&&t with
        |true=>some (.sl m 0 0 (l.length+news.length) k.size none,(m,e,.arr ((l.length+news.length)*k.size) k.size (l++news))::q,m+1,.gen)
        |false=>none
      | .sl b base off len h lim=>match Nat.beq h k.size,news with
       |false,_=>none
       |true,[]=>some (.sl b base off len h lim,q,m,.gen)
       |true,_::_=>match Nat.ble ((len+news.length)*k.bytes) 140737488355328&&Nat.ble (len+news.length) 70368744177664,hget q b with
        |true,some (ty,v)=>match lim with
         |some c=>match Nat.ble (len+news.length) c with
          |true=>match Nat.ble (off+(len+news.length)*h) v.size with
           |true=>match v7q v (off+len*h) h news with
            |some w=>some (.sl b base off (len+news.length) h lim,apq q b (ty,w),m,.updO b)
            |none=>none
           |false=>none
          |false=>match ymq 50 v off len h with
           |some o=>some (.sl m 0 0 (len+news.length) h none,(m,e,.arr ((len+news.length)*h) h (o++news))::q,m+1,.gen)
           |none=>none
         |none=>match Nat.ble (off+(len+news.length)*h) v.size with
          |true=>match v7q v (off+len*h) h news with
           |some w=>some (.sl b base off (len+news.length) h none,apq q b (ty,w),m,.updO b)
           |none=>none
          |false=>match gGq ty e,ymq 50 v off len h with
           |true,some o=>some (.sl m 0 0 (len+news.length) h none,(m,e,.arr ((len+news.length)*h) h (o++news))::ayq q b,m+1,.updO b)
           |_,_=>none
        |_,_=>none
      |_=>none
  |_=>none
def w9q(n e:Nat)(z:W):W:=.arr (n*e) e (List.replicate n z)
section
variable (C:Cfg) (G:Nat->Option W) (fr:FrW) (hp:HpW) (nw:Nat)
def b7q(e:Nat):W->List (Nat×Operand) ->Option W
 |v,[]=>some v
 |v,(i,x)::l=>match evW C G fr x with
  |some y=>match Nat.beq y.size e with
   |true=>match z7q 50 v (i*e) y with
    |some a=>b7q e a l
    |none=>none
   |false=>none
  |none=>none
def A3q(s:TypeId)(t:TypeId)(x:Operand):Option gfq:=match C.ty s,C.ty t,evW C G fr x with
 |some js,some jt,some v=>match js.d,jt.d,v with
  |.slice e,.str,v=>match J5q C e,v with
   |some (.int .u8),.nils=>some (.str [],hp,nw,.gen)
   |some (.int .u8),.fz l esz _=>match Nat.beq esz 1 with
    |true=>match x6q l with
     |some r=>some (.str r,hp,nw,.gen)
     |none=>none
    |false=>none
   |some (.int .u8),.sl b _ off n esz _=>match Nat.beq esz 1,hget hp b with
    |true,some (_,bv)=>match ymq 50 bv off n esz with
     |some l=>match x6q l with
      |some r=>some (.str r,hp,nw,.gen)
      |none=>none
     |none=>none
    |_,_=>none
   |_,_=>none
  |_,_,_=>none
 |_,_,_=>none
def s5q(t:TypeId)(x:Operand):Option gfq:=match evW C G fr x,C.ty t with
 |some (.ptr b off),some i=>match hget hp b with
  |some (_,v)=>match zGq 50 v off i.size i.agg with
   |some r=>some (r,hp,nw,.loadO b)
   |none=>none
  |none=>none
 |some (.fel v),some i=>match zGq 50 v 0 i.size i.agg with
  |some r=>some (r,hp,nw,.loadF)
  |none=>none
 |_,_=>none
def iRq(t:TypeId)(x:Operand)(y:Operand):Option gfq:=match evW C G fr x,evW C G fr y,C.ty t with
 |some (.ptr b off),some u,some i=>match hget hp b,Nat.beq u.size i.size with
  |some (ty,v),true=>match z7q 50 v off u with
   |some a=>some (.undef,apq hp b (ty,a),nw,.storeO b)
   |none=>none
  |_,_=>none
 |_,_,_=>none
def pSq(t:TypeId):Option gfq:=match C.ty t with
 |some i=>match aAq i.zero with
  |some z=>some (.ptr nw 0,(nw,t,z)::hp,nw+1,.gen)
  |none=>none
 |none=>none
def Ebq(t:TypeId)(x:Operand):Option gfq:=match evW C G fr x with
 |some v=>match v.leaf||v.isAgg with
  |true=>some (.ptr nw 0,(nw,t,v)::hp,nw+1,.gen)
  |false=>none
 |none=>none
def iTq(t:TypeId)(n:Nat)(f:Array (Nat×Operand)):Option gfq:=match C.ty t with
 |some i=>match i.d with
  |.slice e=>match C.ty e with
   |some k=>match Nat.beq k.size 0||!Nat.ble (n*k.size) 16777216,aAq k.zero with
    |false,some z=>match Nat.beq z.size k.size,b7q C G fr k.size (w9q n k.size z) f.toList with
     |true,some v=>some (.sl nw 0 0 n k.size none,(nw,e,v)::hp,nw+1,.mkO nw)
     |_,_=>none
    |_,_=>none
   |none=>none
  |_=>none
 |none=>none
def iSq(t:TypeId)(x:Operand)(y:Operand):Option gfq:=match C.ty t,evW C G fr x,evW C G fr y with
 |some i,some u,some v=>match i.d,bLq u,bLq v with
  |.slice e,some l,some c=>match C.ty e with
   |some k=>match Nat.beq k.size 0||!Nat.ble l c||!Nat.ble (k.bytes*c) 281474976710656||!Nat.ble c 9223372036854775807,aAq k.zero with
    |false,some z=>match Nat.beq z.size k.size with
     |true=>some (.sl nw 0 0 l k.size none,(nw,e,w9q c k.size z)::hp,nw+1,.gen)
     |false=>none
    |_,_=>none
   |none=>none
  |_,_,_=>none
 |_,_,_=>none
def doq(a:Array Operand)(b:Array TypeId):Option gfq:=match a.toList,b.toList with
 |[x,y],[ts,tx]=>match evW C G fr x,evW C G fr y with
  |some s,some u=>ckq C hp nw ts tx s u
  |_,_=>none
 |_,_=>none
def s6q(g:Array Operand)(m:Array TypeId):Option gfq:=match g.toList,m.toList with
 | [x, y],[ts,tx]=>match evW C G fr x,evW C G fr y,C.ty ts with
  |some (.sl b _ off len esz _),some u,some j=>match j.d with
   |.slice e=>match C.ty e with
    |some k=>match aNq C hp tx k.size u with
     |some h=>match Nat.beq esz k.size,h.take len,hget hp b with
      |true,y::ys,some (ty,v)=>match Nat.ble (off+(ys.length+1)*esz) v.size with
       |true=>match v7q v off esz (y::ys) with
        |some p=>some (.int .i64 (.ofNat (ys.length+1)),apq hp b (ty,p),nw,.dirty)
        |none=>none
       |false=>none
      |_,_,_=>none
     |none=>none
    |none=>none
   |_=>none
  |_,_,_=>none
 |_,_=>none
def pRq(t:TypeId)(x:Operand)(c:Option Operand)(i:Option Operand)(h:Option Operand):Option gfq:=match C.ty t,evW C G fr x with
 |some j,some v=>match j.d,v with
  |.arr n e,.ptr b off=>match C.ty e,aCq C G fr 0 c,aCq C G fr n i,h,hget hp b with
   |some k,some l,some r,none,some (_,bv)=>match Nat.beq k.size 0||!Nat.ble l r||!Nat.ble r n||!Nat.ble (off+n*k.size) bv.size with
    |true=>none
    |false=>some (.sl b off (off+l*k.size) (r-l) k.size (some (n-l)),hp,nw,.loadO b)
   |_,_,_,_,_=>none
  |.arr n e,.fel y=>match C.ty e,aCq C G fr 0 c,aCq C G fr n i,h with
   |some k,some l,some r,none=>match Nat.beq k.size 0||!Nat.ble l r||!Nat.ble r n||!Nat.ble (n*k.size) y.size with
    |true=>none
    |false=>match ymq 50 y (l*k.size) (r-l) k.size with
     |some m=>some (.fz m k.size (Nat.beq r n),hp,nw,.gen)
     |none=>none
   |_,_,_,_=>none
  |_,_=>none
 |_,_=>none
def aDq:Op->Option gfq
 |.convert s t x=>A3q C G fr hp nw s t x
 |.load t x=>s5q C G fr hp nw t x
 |.store t x y=>iRq C G fr hp nw t x y
 |.alloc t=>pSq C hp nw t
 |.box t x=>Ebq C G fr hp nw t x
 |.buildSlice t n f=>iTq C G fr hp nw t n f
 |.makeSlice t x y=>iSq C G fr hp nw t x y
 |.call ⟨.builtin .append,args,ats⟩=>doq C G fr hp nw args ats
 |.call ⟨.builtin .copy,args,ats⟩=>s6q C G fr hp nw args ats
 |.slice t x g j h=>pRq C G fr hp nw t x g j h
 |_=>none
end
end
theorem q3q{n:Nat}{a b c:List V}(h:a.length+b.length<=n):((awq n (a++(b++c))).drop a.length).take b.length=b:=by
 simp only[awq];rw[List.drop_take,YP,Zx,List.drop_left,Zx];rw[show min b.length (n-a.length)=b.length by omega,List.take_left]
theorem drq{n:Nat}{a b g c:List V}(h:a.length+b.length<=n)(q:g.length=b.length):
  awq n (a++(g++c))=(awq n (a++(b++c))).take a.length++g++(awq n (a++(b++c))).drop (a.length+b.length):=by
 simp only[awq];apply List.ext_getElem?;intro i;simp only[Zx,Y2,YJ,Z0,Zu,Zh,Z8,q];have j:min a.length (min n (a.length+(b.length+(c.length+n))))=a.length:=by omega
 rw[j];by_cases f:i<a.length
 .simp only[f,if_true,show i<n from by omega]
 .by_cases u:i<a.length+b.length
  .simp only[f,if_false,show i<n from by omega,if_true,show i-a.length<b.length from by omega]
  .have l:a.length+b.length+(i-a.length-b.length)=i:=by omega
   simp only[f,if_false,show¬i-a.length<b.length from by omega,l]
theorem vGq:∀(l:List V) (d:Nat) (x:V) (o:Nat),Jsq l d=some (x,o) ->
  ∃a c,kfq l=a++(zmq x++c)/\a.length+o=d/\o<x.size
 |[],d,x,o,h=>by simp[QQq] at h
 |v::l,d,x,o,h=>by
  simp only[Z7q] at h;split at h
  .rename_i f;simp only[Zm,ZR] at h;obtain⟨rfl,rfl⟩:=h;exact⟨[],kfq l,by simp[kfq],by simp,f⟩
  .obtain⟨a,c,g,k,j⟩:=vGq l _ x o h;exact⟨zmq v++a,c,by simp[kfq,g],by simp;omega,j⟩
theorem qrq{l:List V}{a b c d:Nat}(h:c+d<=b):(((l.drop a).take b).drop c).take d=(l.drop (a+c)).take d:=by
 rw[List.drop_take,YP,YB,show min d (b-c)=d by omega]
theorem Q6q{e:Nat}:∀(l:List V) (i:Nat) (x:V),l[i]? =some x->∃a c,yaq e l=a++(awq e (zmq x)++c)/\a.length=i*e
 |[],i,x,h=>by simp at h
 |v::l,0,x,h=>by simp at h;subst h;exact⟨[],yaq e l,by simp[yaq],by simp⟩
 |v::l,i+1,x,h=>by
  simp at h;obtain⟨a,c,b,d⟩:=Q6q (e:=e) l i x h;exact⟨awq e (zmq v)++a,c,by simp[yaq,b],by simp[d,ZQ];omega⟩
theorem uAq:∀(f:Nat) (v:V) (g n:Nat) (w:Bool) (x:V),vgq f v g n w=some x->
  x.size=n/\g+n<=v.size/\((zmq v).drop g).take n=zmq x/\(if w then x.isAgg=true else x.leaf=true)
 |0,v,g,n,w,x,h=>by simp[vCq] at h
 | f +1,v,g,n,w,x,h=>by
  simp only[xZq] at h;split at h
  .rename_i z;simp only[Zd,beq_iff_eq] at z;obtain⟨⟨rfl,rfl⟩,rfl⟩:=z;split at h
   .rename_i K;simp only[Zm] at h;subst h;refine⟨rfl,by omega,by rw[ZX,Zp Xi],?_⟩;split
    .assumption
    .rename_i I;simpa[I] using K
   .cases h
  .split at h
   .rename_i m l E;split at h
    .rename_i y o J;split at h
     .rename_i q;obtain⟨a,c,B,F,N⟩:=vGq _ _ _ _ J;obtain⟨C,M,H,D⟩:=uAq f y o n w x h;have q:=Yb q;refine⟨C,by simp[V.size];omega,?_,D⟩;have I:a.length=g-o:=by omega
      have j:=q3q (n:=m) (a:=a) (b:=zmq y) (c:=c) Xn;rw[<-B] at j;simp only[zmq];rw[<-H,<-j,qrq Xn,F]
     .cases h
    .cases h
   .rename_i m e l E;split at h
    .rename_i y L;split at h
     .rename_i z;simp only[Zd,beq_iff_eq] at z;have q:=Yb z.2;obtain⟨a,c,B,F⟩:=Q6q (e:=e) _ _ _ L;obtain⟨C,M,H,D⟩:=uAq f y (g%e) n w x h;have A:=Nat.div_add_mod g e;rw[YE] at A;refine⟨C,by simp[V.size];omega,?_,D⟩;have G:awq e (zmq y)=zmq y:=yqq (by simp[z.1]);rw[G] at B;have j:=q3q (n:=m) (a:=a) (b:=zmq y) (c:=c) Xn;rw[<-B] at j;simp only[zmq];rw[<-H,<-j,qrq Xn,F,A]
     .cases h
    .cases h
   .cases h
def l9q(c:List V)(a:Nat)(b:List V):List V:=c.take a++b++c.drop (a+b.length)
theorem Qpq{g:V->Nat->Option V}:∀(l:List V) (b:Nat) (f:List V) (o s:Nat),KDq g l b=some (f,o,s) ->
  ∃a y d c,kfq l=a++(zmq y++c)/\kfq f=a++(zmq d++c)/\g y o=some d/\a.length+o=b/\s=y.size/\o<s
 |[],b,f,o,s,h=>by simp[Qqq] at h
 |v::l,b,f,o,s,h=>by
  simp only[ZXq] at h;split at h
  .rename_i j;split at h
   .rename_i u x;simp only[Zm,ZR] at h;obtain⟨rfl,rfl,rfl⟩:=h;exact⟨[],v,u,kfq l,by simp[kfq],by simp[kfq],x,by simp,rfl,j⟩
   .cases h
  .split at h
   .rename_i F E D w;simp only[Zm,ZR] at h;obtain⟨rfl,rfl,rfl⟩:=h;obtain⟨a,y,d,c,k,A,B,C,q,z⟩:=Qpq l _ _ _ _ w;exact⟨zmq v++a,y,d,c,by simp[kfq,k],by simp[kfq,A],B,by simp;omega,q,z⟩
   .cases h
theorem cPq{c b:List V}{a:Nat}(h:a+b.length<=c.length):(l9q c a b).length=c.length:=by simp[l9q];omega
theorem mMq{b f c g:List V}{o:Nat}(h:o+f.length<=b.length):
  c++l9q b o f++g=l9q (c++b++g) (c.length+o) f:=by
 have j:(c++b++g).take (c.length+o)=c++b.take o:=by
  rw[Zx,List.take_length_add_append,Z5 Xd]
 have i:(c++b++g).drop (c.length+o+f.length)=b.drop (o+f.length)++g:=by
  rw[Zx,ZM,YQ,Z9 Xd]
 unfold l9q;rw[j,i];simp only[Zx]
theorem eUq{n o:Nat}{a b f c vs:List V}(h:a.length+b.length<=n)(g:f=l9q b o vs)(i:o+vs.length<=b.length):
  awq n (a++(f++c))=l9q (awq n (a++(b++c))) (a.length+o) vs:=by
 have j:f.length=b.length:=by rw[g,cPq i]
 rw[drq h j,g,mMq i];congr 1
 have k:=q3q (n:=n) (a:=a) (b:=b) (c:=c) h
 have e:∀(L:List V) (p q:Nat),L.take p++(L.drop p).take q++L.drop (p+q)=L:=λL p q=>by
  rw[Zx,show L.drop (p+q)=(L.drop p).drop q by rw[YB],ZK,ZK]
 have:=e (awq n (a++(b++c))) a.length b.length;rw[k] at this;rw[this];simp only[Zu,vFq,show min a.length n=a.length by omega]
theorem J6q{e:Nat}:∀(l:List V) (i:Nat) (x y:V),l[i]? =some x->∃a c,yaq e l=a++(awq e (zmq x)++c)/\yaq e (l.set i y)=a++(awq e (zmq y)++c)/\a.length=i*e
 |[],i,x,y,h=>by simp at h
 |v::l,0,x,y,h=>by simp at h;subst h;exact⟨[],yaq e l,by simp[yaq],by simp[yaq],by simp⟩
 |v::l,i+1,x,y,h=>by
  simp at h;obtain⟨a,c,b,d,f⟩:=J6q (e:=e) l i x y h;exact⟨awq e (zmq v)++a,c,by simp[yaq,b],by simp[yaq,d],by simp[f,ZQ];omega⟩
theorem urq:∀(f:Nat) (v:V) (b:Nat) (x d:V),veq f v b x=some d->
  d.size=v.size/\b+x.size<=v.size/\zmq d=l9q (zmq v) b (zmq x)/\d.isAgg=v.isAgg/\d.leaf=v.leaf/\(x.leaf=true\/x.isAgg=true)
 |0,v,b,x,d,h=>by simp[vtq] at h
 | f +1,v,b,x,d,h=>by
  simp only[xRq] at h;split at h
  .rename_i g;simp only[Zd,beq_iff_eq] at g;obtain⟨⟨rfl,H⟩,E⟩:=g;split at h
   .rename_i u;simp only[Zm] at h;subst h;simp only[Y4,Zd] at u;refine⟨H,by omega,by simp[l9q,H],E,?_,?_⟩
    .rcases u with h|h
     .rw[h] at E;have G:∀y:V,y.isAgg=true->y.leaf=false:=λy z=>by cases y<;>simp[V.isAgg] at z<;>rfl
      rw[G _ h,G _ E.symm]
     .rw[h.1,h.2]
    .rcases u with h|h
     .exact .inr h
     .exact .inl h.2
   .cases h
  .split at h
   .rename_i m l C;split at h
    .rename_i T o s N;split at h
     .rename_i j;simp only[Zm] at h;subst h;have j:=Yb j;obtain⟨a,y,q,c,K,R,S,O,W,U⟩:=Qpq _ _ _ _ _ N;obtain⟨F,P,A,L,Q,B⟩:=urq f y o x q S;refine⟨rfl,by show b+x.size<=m;omega,?_,rfl,rfl,B⟩;simp only[zmq];rw[R,K,eUq (o:=o) (vs:=zmq x) Xn A Xn,O]
     .cases h
    .cases h
   .rename_i m e l C;split at h
    .rename_i y z;split at h
     .rename_i g;simp only[Zd,beq_iff_eq] at g;have j:=Yb g.2;split at h
      .rename_i q D;simp only[Zm] at h;subst h;obtain⟨F,P,A,L,Q,B⟩:=urq f y (b%e) x q D;obtain⟨a,c,I,J,M⟩:=J6q (e:=e) l (b/e) y q z;have k:=Nat.div_add_mod b e;rw[YE] at k;refine⟨rfl,by show b+x.size<=m;omega,?_,rfl,rfl,B⟩;rw[yqq (by simp[g.1])] at I;rw[yqq (by simp[F,g.1])] at J;simp only[zmq];rw[J,I,eUq (o:=b%e) (vs:=zmq x) Xn A Xn,M,k]
      .cases h
     .cases h
    .cases h
   .cases h
end
end
end Go.Proofs.YtcoldbcijgmidaaGreatDoor

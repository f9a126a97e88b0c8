/-
  What the proof of AutoRefuses stands on, part 2. No condition.
-/
import Derived.Lib.Bytealg
import Derived.LoopNIn
import Derived.Laws.Externs
import Derived.Shelf.Abstract
import Derived.MakeChecks
import Derived.OpenShut
import Derived.FnData
import Derived.KernelRfl
import Derived.Test.YtpjfmknefefapaaGreatDoorZAutoRefusesA
set_option linter.unusedSimpArgs false
set_option linter.unusedVariables false
namespace Go.Proofs.YtpjfmknefefapaaGreatDoor
section
open Go.RowKit
section
variable {P:Program} {C:Cfg} {s0:World} {U:Nat} {D:Nat->Prop} {ρ:Env} {fr:Tr V} {a:Act} {w:World} {h:Heap}
theorem eIq(r:Rel s0 U D ρ h w){ts tx ty e bty:TypeId}{inf:TypeInfo}{b base off len esz:Nat}{lim:Option Nat}{v v':V}{news:List V}{x:Value}(hu:P.underlying ts=some (.slice e))(hi:P.info? e=some inf)(hsz:inf.size=esz)
  (hin:InD (DD D ρ) (.sl b base off len esz lim)) (hg:h.get b=some (.cells bty v)) (hn:news≠[]) (hle:off+(len+news.length)*esz<=v.size) (hlim:∀c,lim=some c->len+news.length<=c) (hp:i3q v (off+len*esz) esz news=some v')
  (hs:Src P esz tx x news.length (znq ρ esz news) w) (hni:InDL (DD D ρ) news):
  ∃w',(Builtin.append_ #[ts,tx] ty #[aaq ρ (.sl b base off len esz lim),x]).run P w= .ok (aaq ρ (.sl b base off (len+news.length) esz lim)) w'/\Rel s0 U D ρ (h.put b (.cells bty v')) w'/\Nxt D ρ h w D ρ (h.put b (.cells bty v')) w'/\InD (DD D ρ) (.sl b base off (len+news.length) esz lim):=by
 subst hsz
 have hn0:0<news.length:=by cases news with
  |nil=>exact absurd rfl hn
  |cons _ _=>simp
 obtain⟨hpos,hlen,hD,hroom⟩:=hin;obtain⟨k1,k2,k3,k4,k5,k6,k7⟩:=vaq (ρ:=ρ) news v _ v' hp;rw[Zg hn] at k3;have hvin:InD (DD D ρ) v:=r.clo b _ hD hg;obtain⟨o,h1,pre,tail,rfl,h2,h3⟩:=r.has b _ hD hg
 have hcap:len+news.length<=z8q ρ b off inf.size lim:=by
  cases lim with
  |some c=>exact hlim c rfl
  |none=>simp only[z8q];rw[Nat.le_div_iff_mul_le hpos];omega
 have hc0:¬z8q ρ b off inf.size lim=0:=by omega
 have hmul:(len+news.length)*inf.size=len*inf.size+news.length*inf.size:=ZO _ _ _;have hnl:(znq ρ inf.size news).length=news.length*inf.size:=zBq _ _ _
 have hin2:ρ.pre b+off+len*inf.size+(znq ρ inf.size news).length<=(pre++(cellsV ρ v++tail)).toArray.size:=by
  simp only[ZR,Zj,ywq];omega
 have hcell:∀j,j<(znq ρ inf.size news).length->(w.cell? ⟨ρ.b b,ρ.pre b+off+len*inf.size+j,none⟩).isSome=true:=λj hj=>by
  simp only[World.cell?,h1];have:ρ.pre b+off+len*inf.size+j<(pre++(cellsV ρ v++tail)).toArray.size:=by omega
  simp only[Option.isSome_none,Bool.false_eq_true,if_false];rw[ZG this];rfl
 have hfrz:∀j,j<(znq ρ inf.size news).length->w.frozen? ⟨ρ.b b,ρ.pre b+off+len*inf.size+j,none⟩=false:=λj _=>by simp[World.frozen?,h1]
 have key:=run_append_room_src w ts tx ty e inf hu hi (ρ.b b) (ρ.pre b+off) len (z8q ρ b off inf.size lim) x news.length (znq ρ inf.size news) hs hcap hcell hfrz;have ht:=yeq (znq ρ inf.size news) (ρ.pre b+off+len*inf.size) w (ρ.b b) _ bty h1 hin2;obtain⟨pre',tail',g1,g2,g3⟩:=u8q r hD hg k1 k3 (by rw[hnl];omega) (k6 _ hvin hni);rw[h1] at g1
 have hcs:(pre++(cellsV ρ v++tail)).toArray=(pre'++(cellsV ρ v++tail')).toArray:=by
  simp only[Zk,Obj.cells.injEq] at g1;exact g1.1
 rw[hcs,ZK] at ht;obtain⟨r',n'⟩:=g3 _ ht;refine⟨_,?_,r',n',hpos,?_,hD,?_⟩
 .simp only[aaq,yjq,hc0,if_false];rw[key,ZK]
 .cases lim with
  |some c=>exact hlim c rfl
  |none=>exact Zc _
 .cases lim with
  |some c=>exact hroom
  |none=>simp only[YU];omega
theorem sqq(hC:CfgOK P C)(r:Rel s0 U D ρ h w)(hU:h.next+1<=U){ts tx ty e:TypeId}{k:TyI}{b base off len:Nat}{v:V}{olds news:List V}{x:Value}(hu:P.underlying ts=some (.slice e))(hk:C.ty e=some k)(hk0:0<k.size)(hso:pkq e=false)
  (hin:InD (DD D ρ) (.sl b base off len k.size none)) (hg:h.get b=some (.cells e v)) (hn:news≠[]) (ho:jEq 50 v off len k.size=some olds)
  (hs:Src P k.size tx x news.length (znq ρ k.size news) w) (hb:(len+news.length)*k.bytes<=140737488355328) (hm:len+news.length<=70368744177664) (hni:InDL (DD D ρ) news):
  ∃val D' ρ' w',(Builtin.append_ #[ts,tx] ty #[aaq ρ (.sl b base off len k.size none),x]).run P w= .ok val w'/\val=aaq ρ' (.sl h.next 0 0 (len+news.length) k.size none)/\
   Rel s0 U D' ρ' ((h.push (.cells e (.arr ((len+news.length)*k.size) k.size (olds++news)))).kill b) w'/\Nxt D ρ h w D' ρ' ((h.push (.cells e (.arr ((len+news.length)*k.size) k.size (olds++news)))).kill b) w'/\InD (DD D' ρ') (.sl h.next 0 0 (len+news.length) k.size none):=by
 have hn0:0<news.length:=by cases news with
  |nil=>exact absurd rfl hn
  |cons _ _=>simp
 obtain⟨g1,g2,g3,g4⟩:=yHq (ρ:=ρ) 50 v off len k.size olds ho;have hvin:InD (DD D ρ) v:=r.clo b _ hin.2.2.1 hg;have hoi:=g4 _ hvin;obtain⟨hpos,hlen,hD,hroom⟩:=hin;have hin:InD (DD D ρ) (.sl b base off len k.size none):=⟨hpos,hlen,hD,hroom⟩;have hval:h.val b=some v:=by simp[Heap.val,hg]
 by_cases hcap:len+news.length<=z8q ρ b off k.size none
 ·--in place
  obtain⟨inf,hi,hsz,_⟩:=(hC.ty e k hk).info;rw[<-hsz] at hs ho g2 g3 hroom hpos hcap⊢;obtain⟨o,h1,pre,tail,rfl,h2,h3⟩:=r.has b _ hD hg;have hc0:¬z8q ρ b off inf.size none=0:=by omega
  have hmul:(len+news.length)*inf.size=len*inf.size+news.length*inf.size:=ZO _ _ _;have hnl:(znq ρ inf.size news).length=news.length*inf.size:=zBq _ _ _;have hol:(znq ρ inf.size olds).length=len*inf.size:=by rw[zBq,g1]
  have hfit:off+(len+news.length)*inf.size<=ρ.cap b:=by
   have h4:=hcap;simp only[z8q] at h4;rw[Nat.le_div_iff_mul_le hpos] at h4;simp only[YU] at hroom;omega
  obtain⟨L,hL⟩:∃L,L=pre++(cellsV ρ v++tail):=⟨_,rfl⟩
  rw[<-hL] at h1;have hLl:L.length=ρ.pre b+ρ.cap b:=by rw[hL];simp only[Zj,ywq];omega
  have hin2:ρ.pre b+off+len*inf.size+(znq ρ inf.size news).length<=L.toArray.size:=by
   simp only[ZR];omega
  have hcell:∀j,j<(znq ρ inf.size news).length->(w.cell? ⟨ρ.b b,ρ.pre b+off+len*inf.size+j,none⟩).isSome=true:=λj hj=>by
   simp only[World.cell?,h1];have:ρ.pre b+off+len*inf.size+j<L.toArray.size:=by omega
   simp only[Option.isSome_none,Bool.false_eq_true,if_false];rw[ZG this];rfl
  have hfrz:∀j,j<(znq ρ inf.size news).length->w.frozen? ⟨ρ.b b,ρ.pre b+off+len*inf.size+j,none⟩=false:=λj _=>by simp[World.frozen?,h1]
  have key:=run_append_room_src w ts tx ty e inf hu hi (ρ.b b) (ρ.pre b+off) len (z8q ρ b off inf.size none) x news.length (znq ρ inf.size news) hs hcap hcell hfrz;have ht:=yeq (znq ρ inf.size news) (ρ.pre b+off+len*inf.size) w (ρ.b b) _ e h1 hin2
  have hO:(L.drop (ρ.pre b+off)).take (len*inf.size)=znq ρ inf.size olds:=by
   rw[hL,<-h2,YP,Z6 Xo,Z0 Xo,g3]
  have hv:InD (DD D ρ) (.arr ((len+news.length)*inf.size) inf.size (olds++news)):=InDL_iff.2 λy hy=>by
   rcases ZT.1 hy with h|h
   .exact InDL_iff.1 hoi y h
   .exact InDL_iff.1 hni y h
  have hne:=r.next_new hU;have hag:Env.Agree (DD D ρ) ρ (ρ.add h.next (ρ.b b) (ρ.pre b+off) (ρ.cap b-off)):=Env.add_agree hne
  have hcells:cellsV (ρ.add h.next (ρ.b b) (ρ.pre b+off) (ρ.cap b-off)) (.arr ((len+news.length)*inf.size) inf.size (olds++news))=znq ρ inf.size olds++znq ρ inf.size news:=by
   rw[yEq hag hv];simp only[cellsV];rw[yGq (by rw[zBq];simp[g1]),q3q]
  have hkn:KnB (ρ.add h.next (ρ.b b) (ρ.pre b+off) (ρ.cap b-off)) h.next (.cells e (.arr ((len+news.length)*inf.size) inf.size (olds++news))) (.cells (qMq L.toArray (ρ.pre b+off+len*inf.size) (znq ρ inf.size news).toArray) e):=by
   refine⟨L.take (ρ.pre b+off),L.drop (ρ.pre b+off+len*inf.size+(znq ρ inf.size news).length),?_,?_,?_⟩
   .rw[hcells];congr 1
    simp only[qMq,ZR];congr 1
    rw[List.take_add,hO];simp[Zz]
   .simp[Env.add];omega
   .refine⟨?_,λhq=>by rw[hso] at hq;cases hq⟩;show(len+news.length)*inf.size+_=_;simp only[Env.add,if_true,Zx];omega
  obtain⟨r',n'⟩:=r.move hU (B':=.cells e (.arr ((len+news.length)*inf.size) inf.size (olds++news))) hD hg Y Y ht hv hkn;refine⟨.slice (some ⟨ρ.b b,ρ.pre b+off,none⟩) (len+news.length) (z8q ρ b off inf.size none),_,_,_,?_,?_,r',n',hpos,Zc _,.inr rfl,?_⟩
  .simp only[aaq,yjq,hc0,if_false];exact key
  .have hsc:z8q (ρ.add h.next (ρ.b b) (ρ.pre b+off) (ρ.cap b-off)) h.next 0 inf.size none=z8q ρ b off inf.size none:=by simp[z8q,Env.add]
   simp only[aaq,yjq,hsc,hc0,if_false];simp[Env.add]
  .simp only[Env.add,if_true,YU];omega
 ·--a new row
  have hold:(Builtin.firstCells k.size len (aaq ρ (.sl b base off len k.size none))).run P w.drew= .ok (znq ρ k.size olds).toArray w.drew:=by
   simp only[aaq,yjq]
   exact run_firstCells_some w.drew k.size len _ len _ _ (by rw[zBq,g1]) λj u hj=>by
    have:=jxq r hin hval ho j u hj;simpa using this
  obtain⟨val,D',ρ',w',q1,q2,q3,q4,q5⟩:=Kiq (ty:=ty) hC r hU hu hk hk0 (base:=some (if z8q ρ b off k.size none=0 then vLq ρ b base else⟨ρ.b b,ρ.pre b+off,none⟩)) (cap:=z8q ρ b off k.size none) hold g1 hs Xd hb hm hoi hni;obtain⟨k1,k2⟩:=q3.kill b;exact⟨val,D',ρ',w',q1,q2,k1,q4.trans r.lt (by exact hU) k2,q5⟩
theorem Qcq(hC:CfgOK P C)(r:Rel s0 U D ρ h w){ts tx ty:TypeId}{s x v:V}{h':Heap}(hs:InD (DD D ρ) s)(hx:InD (DD D ρ) x)(ha:kkq C h ts tx s x=some (v,h'))(hU:h'.next<=U):
  ∃val D' ρ' w',(Builtin.append_ #[ts,tx] ty #[aaq ρ s,aaq ρ x]).run P w= .ok val w'/\val=aaq ρ' v/\Rel s0 U D' ρ' h' w'/\Nxt D ρ h w D' ρ' h' w'/\InD (DD D' ρ') v:=by
 unfold kkq at ha;split at ha
 .cases ha
 rename_i j hj;split at ha
 case h_2=>cases ha
 rename_i e he;have hd:=(hC.ty ts j hj).d;rw[he] at hd;have hu:P.underlying ts=some (.slice e):=hd;split at ha
 .cases ha
 rename_i k hk;split at ha
 .cases ha
 rename_i hz
 have hk0:0<k.size:=by
  rcases YS k.size with h0|h0
  .rw[Qsq h0] at hz;cases hz
  .exact h0
 split at ha
 .cases ha
 rename_i news hnews;obtain⟨hsrc,hni⟩:=Z8q hC r hx hnews;obtain⟨inf,hi,hsz,hby,_⟩:=(hC.ty e k hk).info;split at ha
 ·--onto nothing
  split at ha
  .cases ha;refine⟨_,D,ρ,w,?_,rfl,r,Nxt.refl _ _ _ _,trivial⟩;rcases hsrc.kind with ⟨e',hk'⟩|hk'<;>simp[aaq,Builtin.append_,Zy hu,Zy hk',sizeOf,typeInfo,hi,hsrc.len]<;>(have:=hsrc.cells;simp[znq] at this;rw[hsz];simp[this])
  .rename_i y ys;split at ha
   .rename_i hc;simp only[Zb] at hc;have hc1:=Yb hc.1;have hc2:=Yb hc.2;cases ha;obtain⟨val,D',ρ',w',q1,q2,q3,q4,q5⟩:=Kiq (ty:=ty) hC r hU hu hk hk0 (base:=none) (cap:=0) (len:=0) (olds:=[]) (news:=y::ys) (run_firstCells_none _ _ _ _ _) rfl hsrc Xi (by simpa using hc1) (by simpa using hc2) trivial hni;simp only[ZN,YX] at q2 q3 q4 q5;exact⟨val,D',ρ',w',by simpa[aaq] using q1,q2,q3,q4,q5⟩
   .cases ha
 ·-- onto a slice
  rename_i b base off len esz lim;split at ha
  .cases ha
  ·--nothing more
   rename_i hes;rw[ZE] at hes;cases ha;refine⟨_,D,ρ,w,?_,rfl,r,Nxt.refl _ _ _ _,hs⟩;have hc:=jyq hs;rcases hsrc.kind with ⟨e',hk'⟩|hk'<;>simp[aaq,yjq,Builtin.append_,Zy hu,Zy hk',sizeOf,typeInfo,hi,hsrc.len,hc]<;>(have:=hsrc.cells;simp[znq] at this;rw[hsz];simp[this,storeCells])
  .rename_i y ys hes;rw[ZE] at hes;subst hes;split at ha
   .cases ha
   rename_i hc;simp only[Zb] at hc;have hc1:=Yb hc.1;have hc2:=Yb hc.2;split at ha
   ·-- a limit is known
    rename_i c;split at ha
    .rename_i hroom;have hroom:=Yb hroom;split at ha
     .rename_i bty bv hg;split at ha
      .rename_i hle;have hle:=Yb hle;split at ha
       .rename_i v' hp;cases ha;obtain⟨w',q1,q2,q3,q4⟩:=eIq (ty:=ty) r hu hi hsz hs hg Xi hle (λc' hc'=>by cases hc';exact hroom) hp hsrc hni;exact⟨_,D,ρ,w',q1,rfl,q2,q3,q4⟩
       .cases ha
      .cases ha
     .cases ha
    .rename_i hroom;have hroom:¬len+(y::ys).length<=c:=λh'=>by rw[Zl h'] at hroom;cases hroom
     split at ha
     .rename_i bv hv;split at ha
      .rename_i olds ho;cases ha;obtain⟨g1,g2,g3,g4⟩:=yHq (ρ:=ρ) 50 bv off len k.size olds ho;obtain⟨_,_,_,_,_,_,_,hvin⟩:=r.val hs.2.2.1 hv
       have hold:(Builtin.firstCells k.size len (aaq ρ (.sl b base off len k.size (some c)))).run P w.drew= .ok (znq ρ k.size olds).toArray w.drew:=by
        simp only[aaq,yjq]
        exact run_firstCells_some w.drew k.size len _ len _ _ (by rw[zBq,g1]) λj u hj=>by
         have:=jxq r hs hv ho j u hj;simpa using this
       exact Kiq (ty:=ty) hC r hU hu hk hk0 hold g1 hsrc (by simp only[z8q];omega) hc1 hc2 (g4 _ hvin) hni
      .cases ha
     .cases ha
   .split at ha
    .rename_i bty bv hg;split at ha
     .rename_i hle;have hle:=Yb hle;split at ha
      .rename_i v' hp;cases ha;obtain⟨w',q1,q2,q3,q4⟩:=eIq (ty:=ty) r hu hi hsz hs hg Xi hle (λc' hc'=>by cases hc') hp hsrc hni;exact⟨_,D,ρ,w',q1,rfl,q2,q3,q4⟩
      .cases ha
     .split at ha
      .rename_i olds hty ho;obtain⟨rfl,hso⟩:=lhq hty;cases ha;exact sqq (ty:=ty) hC r hU hu hk hk0 hso hs hg Xi ho hsrc hc1 hc2 hni
      .cases ha
    .cases ha
 .cases ha
theorem gaq(hC:CfgOK P C)(r:Rel s0 U D ρ h w){tx:TypeId}{esz:Nat}{x:V}{all:List V}(hx:InD (DD D ρ) x)(hs:fCq C h tx esz x=some all){m:Nat}(hm:m<=all.length):
  (Builtin.firstCells esz m (aaq ρ x)).run P w= .ok (znq ρ esz (all.take m)).toArray w:=by
 unfold fCq at hs;split at hs
 .cases hs
 .rename_i j hj;split at hs
  .cases hs;obtain rfl:m=0:=by simpa using hm
   exact run_firstCells_none _ _ _ _ _
  .rename_i e b base off n e' lim he;split at hs
   .rename_i v hes hv;rw[ZE] at hes;subst hes;obtain⟨g1,g2,g3,g4⟩:=yHq (ρ:=ρ) 50 v off n e' all hs;simp only[aaq,yjq];refine run_firstCells_some w e' m _ n _ _ (by rw[zBq,Zu];congr 1;omega) λj u hj=>?_
    rw[j0q,YI] at hj;split at hj
    .exact jxq r hx hv hs j u hj
    .cases hj
   .cases hs
  .rename_i s he;split at hs
   .rename_i h1;rw[ZE] at h1;subst h1;cases hs;have hb:=kiq ρ (s.take m);have ht:(y4q s).take m=y4q (s.take m):=by simp[y4q,List.map_take]
    rw[ht,hb];simp only[aaq,Builtin.firstCells,YB];rw[show(⟨⟨s⟩⟩:ByteArray).extract 0 m=⟨⟨s.take m⟩⟩ by rw[Z5q];simp];congr 1
    apply Array.ext';simp
   .cases hs
  .cases hs
theorem ftq(hC:CfgOK P C)(r:Rel s0 U D ρ h w){ts tx ty:TypeId}{s x v:V}{h':Heap}(hs:InD (DD D ρ) s)(hx:InD (DD D ρ) x)(ha:fuq C h ts tx s x=some (v,h')):
  ∃w',(Builtin.copy_ #[ts,tx] ty #[aaq ρ s,aaq ρ x]).run P w= .ok (aaq ρ v) w'/\Rel s0 U D ρ h' w'/\Nxt D ρ h w D ρ h' w'/\InD (DD D ρ) v:=by
 unfold fuq at ha;split at ha
 .cases ha
 rename_i j hj;split at ha
 case h_2=>cases ha
 rename_i e he;have hd:=(hC.ty ts j hj).d;rw[he] at hd;have hu:P.underlying ts=some (.slice e):=hd;split at ha
 .cases ha
 rename_i k hk;split at ha
 .cases ha
 rename_i all hall;obtain⟨hsrc,hni⟩:=Z8q hC r hx hall;obtain⟨inf,hi,hsz,hby,_⟩:=(hC.ty e k hk).info;have hfirst:∀m,m<=all.length->(Builtin.firstCells inf.size m (aaq ρ x)).run P w= .ok (znq ρ k.size (all.take m)).toArray w:=λm hm=>by rw[hsz];exact gaq hC r hx hall hm
 have hmin:∀n,Nat.min all.length n<=all.length:=λn=>Nat.min_le_left _ _
 split at ha
 .cases ha;refine⟨w,?_,r,Nxt.refl _ _ _ _,trivial⟩;have:=hfirst 0 (Zi _);simp[aaq,Builtin.copy_,Zy hu,sizeOf,typeInfo,hi,hsrc.len,this,goInt]
 .rename_i b base off len esz lim;have hc:=jyq hs;split at ha
  .rename_i hes htk;cases ha;refine⟨w,?_,r,Nxt.refl _ _ _ _,trivial⟩
   have h0:Nat.min all.length len=0:=by
    have:=Ze List.length htk;simp only[Zu,YD] at this;show min all.length len=0;omega
   have:=hfirst 0 (Zi _);simp only[List.take_zero,znq] at this;simp[aaq,yjq,Builtin.copy_,Zy hu,sizeOf,typeInfo,hi,hsrc.len,h0,this,goInt,storeCells]
  .rename_i y ys hes htk;rw[ZE] at hes;subst hes;split at ha
   .rename_i bty bv hg;split at ha
    .rename_i hle;have hle:=Yb hle;split at ha
     .rename_i v' hp;cases ha
      have hnl:Nat.min all.length len=(y::ys).length:=by
       have:=Ze List.length htk;simp only[Zu] at this;show min all.length len=_;omega
      obtain⟨hpos,hlen,hD,hroom⟩:=hs;obtain⟨k1,k2,k3,k4,k5,k6,k7⟩:=vaq (ρ:=ρ) (y::ys) bv _ v' hp;rw[Zg Xi] at k3;have hvin:InD (DD D ρ) bv:=r.clo b _ hD hg;obtain⟨o,h1,pre,tail,rfl,h2,h3⟩:=r.has b _ hD hg
      have hc0:¬z8q ρ b off k.size lim=0:=by
       have:(y::ys).length<=len:=by rw[<-hnl];exact Nat.min_le_right _ _
       simp only[Zv] at this;omega
      have hlen':(y::ys).length=ys.length+1:=rfl;have hcl:(znq ρ k.size (y::ys)).length=(y::ys).length*k.size:=zBq _ _ _
      have hin2:ρ.pre b+off+(znq ρ k.size (y::ys)).length<=(pre++(cellsV ρ bv++tail)).toArray.size:=by
       simp only[ZR,Zj,ywq];rw[hcl,hlen'];omega
      have hcell:∀j,j<(znq ρ k.size (y::ys)).length->(w.cell? ⟨ρ.b b,ρ.pre b+off+0+j,none⟩).isSome=true:=λj hj=>by
       simp only[World.cell?,h1];have:ρ.pre b+off+0+j<(pre++(cellsV ρ bv++tail)).toArray.size:=by omega
       simp only[Option.isSome_none,Bool.false_eq_true,if_false];rw[ZG this];rfl
      have hfrz:∀j,j<(znq ρ k.size (y::ys)).length->w.frozen? ⟨ρ.b b,ρ.pre b+off+0+j,none⟩=false:=λj _=>by simp[World.frozen?,h1]
      have hst:=run_storeCells_cells (P:=P) (ρ.b b) (ρ.pre b+off) (znq ρ k.size (y::ys)) 0 w hcell hfrz (qvq ρ k.size (y::ys));have ht:=yeq (znq ρ k.size (y::ys)) (ρ.pre b+off) w (ρ.b b) _ bty h1 hin2;obtain⟨pre',tail',g1,g2,g3⟩:=u8q r hD hg k1 k3 (by rw[hcl,hlen'];exact hle) (k6 _ hvin (by rw[<-htk];exact InDL_iff.2 λz hz=>InDL_iff.1 hni z (ZH hz)));rw[h1] at g1
      have hcs:(pre++(cellsV ρ bv++tail)).toArray=(pre'++(cellsV ρ bv++tail')).toArray:=by
       simp only[Zk,Obj.cells.injEq] at g1;exact g1.1
      rw[hcs] at ht;obtain⟨r',n'⟩:=g3 _ ht;refine⟨_,?_,r',n',trivial⟩;have hf:=hfirst (y::ys).length (by rw[<-hnl];exact Nat.min_le_left _ _)
      have htk2:all.take (y::ys).length=y::ys:=by
       rw[<-htk];simp only[Zu];rw[List.take_eq_take_iff];omega
      rw[htk2] at hf;simp only[Y3] at hst;simp only[aaq,yjq,hc0,if_false];have hnl:Nat.min all.length len=ys.length+1:=hnl;have hf:(Builtin.firstCells inf.size (ys.length+1) (aaq ρ x)).run P w= .ok (znq ρ k.size (y::ys)).toArray w:=hf;simp[Builtin.copy_,Zy hu,sizeOf,typeInfo,hi,hsrc.len,hnl,hf,hst,goInt]
     .cases ha
    .cases ha
   .cases ha
  .cases ha
 .cases ha
theorem Jtq{P:Program}{w:World}{q:Nat}{cs:Array Value}{ty:TypeId}(h:w.heap[q]? =some (.cells cs ty (0,0))):
  ∃w',(∀off,(markStringish ⟨q,off,none⟩).run P w= .ok () w')/\Turned q (.cells cs ty (cs.size,cs.size+1)) w w':=by
 have hlt:=(Zp.1 h).1;refine⟨w.putObj q (.cells cs ty (cs.size,cs.size+1)),λoff=>?_,qkq _ hlt⟩;have hsh:w.shape? q=some (ty,cs.size):=by simp[World.shape?,h]
 have hfr:w.freeze ⟨q,cs.size,none⟩ 1=w.putObj q (.cells cs ty (cs.size,cs.size+1)):=by
  unfold World.freeze World.putObj;rw[Zg Xg];congr 1
  apply Array.ext_getElem?;intro j;rw[Array.getElem?_modify,YT];by_cases e:q=j
  .subst e
   have hq:w.heap[q]= .cells cs ty (0,0):=by
    have:=h;rw[ZG hlt] at this;exact ZB this
   simp[hlt,hq]
  .simp[e]
 simp[markStringish,hsh,hfr]
theorem xrq{e:TypeId}{d:TyD}(h:Q2q C e=some d):∃k,C.ty e=some k/\k.d=d:=by
 unfold Q2q at h;split at h
 .rename_i k hk;cases h;exact⟨k,hk,rfl⟩
 .cases h
theorem Zqq(ρ:Env):∀(l:List V) (r:List UInt8),bytesOf l=some r->r.length=l.length/\znq ρ 1 l=r.map λb=>Value.int .u8 b.toNat
 |[],r,h=>by simp[bytesOf] at h;subst h;exact⟨rfl,rfl⟩
 |v::l,r,h=>by
  unfold bytesOf at h;split at h
  .rename_i e;cases e
  .rename_i c l' e;simp only[YM] at e;obtain⟨rfl,rfl⟩:=e;split at h
   .rename_i r' h1 h2;cases h;obtain⟨g1,g2⟩:=Zqq ρ _ _ h2;rw[YQ] at h1;refine⟨by simp[g1],?_⟩;simp only[znq,ZC,g2];have:(UInt8.ofNat c).toNat=c:=by simp;omega
    rw[this];rfl
   .cases h
  .cases h
theorem v9q(ρ:Env):∀(l:List V),(∀x∈l,x.isAgg=false) ->znq ρ 1 l=l.map (jJq ρ)
 |[],_=>rfl
 |x::l,h=>by
  rw[znq,v9q ρ l λy hy=>h y (ZP _ hy),dkq (h x (ZS ..)),yGq (n:=1) (l:=[jJq ρ x]) rfl];rfl
theorem xUq(e:Nat):∀l:List V,(z6q e l).length=l.length*e
 |[]=>by simp[z6q]
 |v::l=>by simp[z6q,xUq e l,ZO];omega
theorem Zrq(ρ:Env){l:List V}{r:List UInt8}(h:bytesOf (z6q 1 l)=some r):r.length=l.length/\znq ρ 1 l=r.map λb=>Value.int .u8 b.toNat:=by
 obtain⟨h1,h2⟩:=Zqq ρ _ _ h;refine⟨by rw[h1,xUq];omega,?_⟩;rw[<-h2,v9q ρ _ (λx hx=>vpq 1 l x hx),keq]
theorem g5q(hC:CfgOK P C)(hfr:FrE C D ρ fr a)(r:Rel s0 U D ρ h w){o:Oper}{v:V}{h':Heap}(hh:opH C fr h o.op=some (v,h'))(hU:h'.next<=U):∃x D' ρ' w',Did P C s0 U o a D ρ h w v h' x D' ρ' w':=by
 obtain⟨dst,op,ty,pos,aft,g⟩:=o;simp only at hh;cases op<;>try (simp[opH,zxq,ylq,z4q,z5q,qgq,zjq,zpq,zKq,yqq,zXq] at hh;done)
 case convert s t x=>
  simp only[opH,zxq,ylq,z4q,z5q,qgq,zjq,zpq,zKq,yqq,zXq] at hh;split at hh
  .rename_i js jt u hs ht hx;obtain⟨e1,i1⟩:=hfr.ev hx;split at hh
   .rename_i e he ht2;have hd:=(hC.ty s js hs).d;rw[he] at hd;have hd:P.underlying s=some (.slice e):=hd;have hd2:=(hC.ty t jt ht).d;rw[ht2] at hd2;have hd2:P.underlying t=some .string:=hd2;split at hh
    .rename_i hed;cases hh;obtain⟨k,hk,hkd⟩:=xrq hed;have hde:=(hC.ty e k hk).d;rw[hkd] at hde;have hde:P.underlying e=some (.int .u8):=hde;refine⟨_,D,ρ,w,⟨.inl ?_,rfl,r,Nxt.refl _ _ _ _,trivial⟩⟩;have key:=run_convert_bytes_nil (P:=P) w s e hd hde 0 0 t hd2;simp[execOp,e1,aaq,key];rfl
    .rename_i b base off n esz lim hed;split at hh
     .rename_i bv hes hv;rw[ZE] at hes;subst hes;split at hh
      .rename_i l hl;split at hh
       .rename_i rr hr;cases hh;obtain⟨k,hk,hkd⟩:=xrq hed;have hde:=(hC.ty e k hk).d;rw[hkd] at hde;have hde:P.underlying e=some (.int .u8):=hde;obtain⟨g1,g2⟩:=Zrq ρ hr;obtain⟨q1,_,_,_⟩:=yHq (ρ:=ρ) 50 bv off n 1 l hl;refine⟨_,D,ρ,w,⟨.inl ?_,rfl,r,Nxt.refl _ _ _ _,trivial⟩⟩;have hcells:=jxq r i1 hv hl;rw[g2] at hcells;have hn:n=rr.length:=by omega
        subst hn;have key:=run_convert_bytes_back (P:=P) w s t e (if z8q ρ b off 1 lim=0 then vLq ρ b base else⟨ρ.b b,ρ.pre b+off,none⟩) (z8q ρ b off 1 lim) rr hd hde hd2 (λj hj=>hcells j _ (by simp[hj]));simp only[execOp,e1,aaq,yjq,ZL,key,ZA,YB]
       .cases hh
      .cases hh
     .cases hh
    .cases hh
   .rename_i e0 e b base off n esz lim hs2 ht2;have hd:=(hC.ty s js hs).d;rw[hs2] at hd;have hd:P.underlying s=some (.slice e0):=hd;have hd2:=(hC.ty t jt ht).d;rw[ht2] at hd2;have hd2:P.underlying t=some (.slice e):=hd2;split at hh
    .rename_i bty bv hst hed hgb;split at hh
     case h_2=>cases hh
     rename_i hbase;have hbase:=Yb hbase;cases hh;have hst:=Zh hst;subst hst
     obtain rfl:e0=e:=by
      have:=hd.symm.trans hd2;simpa using this
     obtain⟨k,hk,hkd⟩:=xrq hed;have hde:=(hC.ty e0 k hk).d;rw[hkd] at hde;have hde:P.underlying e0=some (.int .u8):=hde;have hD:D b:=i1.2.2.1;obtain⟨o,h1,pre,tail,rfl,h2,h3⟩:=r.has b _ hD hgb;obtain⟨w',q1,q2⟩:=Jtq (P:=P) h1;obtain⟨r',n'⟩:=r.putR (b':=.ro bv) hD hgb Y Y q2 ⟨pre,tail,bty,_,rfl,h2,by omega⟩ (show InD (DD D ρ) bv from r.clo b _ hD hgb);refine⟨_,D,ρ,w',⟨.inl ?_,rfl,r',n',i1⟩⟩;have q3:=q1 (ρ.pre b+(if z8q ρ b off esz lim=0 then base else off))
     have hz:(if z8q ρ b off esz lim=0 then vLq ρ b base else(⟨ρ.b b,ρ.pre b+off,none⟩:Addr))=⟨ρ.b b,ρ.pre b+(if z8q ρ b off esz lim=0 then base else off),none⟩:=by
      split
      .exact uVq Xd
      .rfl
     simp only[execOp,e1,aaq,yjq,hz];simp[convert,Zy hd,Zy hde,q3]
    .cases hh
   .rename_i e str hs2 ht2;have hd:=(hC.ty s js hs).d;rw[hs2] at hd;have hd:P.underlying s=some .string:=hd;have hd2:=(hC.ty t jt ht).d;rw[ht2] at hd2;have hd2:P.underlying t=some (.slice e):=hd2;split at hh
    .rename_i hed;cases hh;obtain⟨k,hk,hkd⟩:=xrq hed;have hde:=(hC.ty e k hk).d;rw[hkd] at hde;have hde:P.underlying e=some (.int .u8):=hde;have key:=run_bytes_of_string (P:=P) w s t e ⟨⟨str⟩⟩ hd hd2 hde;have hge:=grownCap_ge w (⟨⟨str⟩⟩:ByteArray).size 0 e;rw[show(⟨⟨str⟩⟩:ByteArray).size=str.length from rfl] at key hge;generalize grownCap w str.length 0 e=gc at key hge
     have hcells:(bytesRow ⟨⟨str⟩⟩ gc).toList=cellsV ρ (.arr str.length 1 (y4q str))++List.replicate (gc-str.length) (Value.int .u8 0):=by
      simp only[cellsV];rw[yGq (by rw[zBq];simp[y4q]),kiq];simp[bytesRow];rfl
     have hag:Env.Agree (DD D ρ) ρ (ρ.add h.next w.heap.size 0 gc):=Env.add_agree (r.next_new hU);have hin:InD (DD D ρ) (.arr str.length 1 (y4q str)):=InDL_iff.2 λy hy=>by obtain⟨c,_,rfl⟩:=Z1.1 hy;trivial
     obtain⟨r',n'⟩:=(r.drawn (w.drawn+1)).pushAny (w':=w.drew.alloc (.cells (bytesRow ⟨⟨str⟩⟩ gc) e ((bytesRow ⟨⟨str⟩⟩ gc).size,(bytesRow ⟨⟨str⟩⟩ gc).size+1))) (pre:=0) (cap:=gc) hU (jqq w.drew _) (heap_alloc_new w.drew _) (b:=.ro (.arr str.length 1 (y4q str))) hin ⟨[],List.replicate (gc-str.length) (Value.int .u8 0),e,_,by
      rw[yEq hag hin,YX,<-hcells],by simp[Env.add],by simp[Env.add];exact hge⟩
     obtain⟨s1,s2⟩:=bvq (D:=D) (ρ:=ρ) (w:=w) (h:=h) gc str.length 1 Xd hge (cap:=gc) Xd;refine⟨_,_,_,_,⟨.inl ?_,s1.symm,r',n'.undrew,s2⟩⟩;simp[execOp,e1,aaq,key]
    .cases hh
   .cases hh
  .cases hh
 case load t x=>
  simp only[opH,zxq,ylq,z4q,z5q,qgq,zjq,zpq,zKq,yqq,zXq] at hh;split at hh
  .rename_i b off i hx hi;split at hh
   .rename_i bv hv;split at hh
    .rename_i y hg;cases hh;obtain⟨e,hin⟩:=hfr.ev hx;obtain⟨k1,k2⟩:=QMq hC r hi hin.1 hv hg;refine⟨_,D,ρ,w,⟨.inl ?_,rfl,r,Nxt.refl _ _ _ _,k2⟩⟩;simp[execOp,e,aaq,Instr.loadAt,Instr.sureAddr,k1]
    .cases hh
   .cases hh
  .cases hh
 case store t x y=>
  simp only[opH,zxq,ylq,z4q,z5q,qgq,zjq,zpq,zKq,yqq,zXq] at hh;split at hh
  .rename_i b off u i hx hy hi;split at hh
   .rename_i bty bv hg hsz;rw[ZE] at hsz;split at hh
    .rename_i v' hp;cases hh;obtain⟨e,hin⟩:=hfr.ev hx;obtain⟨e2,hin2⟩:=hfr.ev hy;obtain⟨w',k1,k2,k3⟩:=ctq hC r hi hsz hin.1 hg hp hin2;refine⟨_,D,ρ,w',⟨.inr ⟨?_,rfl⟩,rfl,k2,k3,trivial⟩⟩;simp[execOp,e,e2,aaq,Instr.storeAt,Instr.sureAddr,k1]
    .cases hh
   .cases hh
  .cases hh
 case alloc t=>
  simp only[opH,zxq,ylq,z4q,z5q,qgq,zjq,zpq,zKq,yqq,zXq] at hh;split at hh
  .rename_i i hi;cases hh;have ok:=hC.ty t i hi;have hz:=y5q (P:=P) (ok.zero ρ)
   have hzc:(aaq ρ i.zero).cells=(cellsV ρ i.zero).toArray:=quq (by
    cases ha:i.agg with
    |true=>exact .inr Qt
    |false=>exact .inl (ok.zleaf ha))
   obtain⟨r',n'⟩:=xLq (t:=t) (tail:=[]) r hU (ok.zin.mono λ_ _ h=>h.elim);simp only[ZU] at r' n';obtain⟨p1,p2⟩:=hcq (cap:=i.zero.size+[].length (α:=Value)) r;refine⟨_,_,_,_,⟨.inl ?_,p1.symm,r',n',p2⟩⟩;simp[execOp,Instr.alloc,hz,newVar,newRow,hzc]
  .cases hh
 case box t x=>
  simp only[opH,zxq,ylq,z4q,z5q,qgq,zjq,zpq,zKq,yqq,zXq] at hh;split at hh
  .rename_i u hx;split at hh
   .rename_i hl;simp only[Y2] at hl;cases hh;obtain⟨e,hin⟩:=hfr.ev hx;obtain⟨r',n'⟩:=xLq (t:=t) (tail:=[]) r hU hin;simp only[ZU] at r' n';obtain⟨p1,p2⟩:=hcq (cap:=u.size+[].length (α:=Value)) r;refine⟨_,_,_,_,⟨.inl ?_,p1.symm,r',n',p2⟩⟩;simp[execOp,e,Instr.box,newVar,newRow,quq hl]
   .cases hh
  .cases hh
 case buildSlice t n parts=>
  simp only[opH,zxq,ylq,z4q,z5q,qgq,zjq,zpq,zKq,yqq,zXq] at hh;split at hh
  .rename_i i hi;split at hh
   .rename_i e he;have hd:=(hC.ty t i hi).d;rw[he] at hd;have hd:P.underlying t=some (.slice e):=hd;split at hh
    .rename_i k hk;split at hh
     .cases hh
     .rename_i hc;simp only[Bool.or_eq_false_iff,Bool.not_eq_false'] at hc;have hle:=Yb hc.2
      have hk0:0<k.size:=by
       rcases YS k.size with h0|h0
       .rw[Qsq h0] at hc;cases hc.1
       .exact h0
      split at hh
      .rename_i u hu;cases hh;have ok:=hC.ty e k hk;have hzin:InD (DD D ρ) (i1q n k.size k.zero):=InDL_iff.2 λy hy=>by rw[(List.mem_replicate.1 hy).2];exact ok.zin.mono λ_ _ h=>h.elim
       obtain⟨f1,f2,f3⟩:=QXq hfr parts.toList _ u hu hzin
       have hzc:(aaq ρ k.zero).cells=(cellsV ρ k.zero).toArray:=quq (by
        cases ha:k.agg with
        |true=>exact .inr Qt
        |false=>exact .inl (ok.zleaf ha))
       have hz:=y5q (P:=P) (ok.zero ρ);have hus:u.size=n*k.size:=f3;obtain⟨r',n'⟩:=xLq (t:=e) (tail:=[]) r hU f2;simp only[ZU] at r' n';obtain⟨p1,p2⟩:=bvq (D:=D) (ρ:=ρ) (w:=w) (h:=h) n n k.size hk0 (Zc _) (cap:=u.size+[].length (α:=Value)) (by simp[hus]);refine⟨_,_,_,_,⟨.inl ?_,p1.symm,r',n',p2⟩⟩;have hlist:(parts.map λ(p:Nat×Operand)=>(p.1,a.eval p.2)).toList=parts.toList.map λp=>(p.1,a.eval p.2):=by simp
       have hsz:=ok.sizeOf w;have hgt:¬n*k.size>2^24:=by omega
       have hrep:=Ycq ρ n k.size k.zero ok.zsize hk0;rw[hrep] at f1;simp only[execOp,Instr.buildSlice,ZL,Zy hd,ZA,hsz,hgt,if_false,hlist];by_cases h0:n*k.size=0
       .have hn:n=0:=by
         rcases Nat.mul_eq_zero.1 h0 with h|h
         .exact h
         .omega
        subst hn;have hr0:Array.range 0= #[]:=rfl;simp only[Nat.zero_mul,hr0,List.map_toArray,List.map_nil] at f1⊢;simp[f1,newRow]
       .simp only[h0,if_false,ZL,hz w,ZA,YB,hzc];rw[f1];simp[newRow]
      .cases hh
    .cases hh
   .cases hh
  .cases hh
 case makeSlice t x y=>
  simp only[opH,zxq,ylq,z4q,z5q,qgq,zjq,zpq,zKq,yqq,zXq] at hh;split at hh
  .rename_i i u z hi hx hy;split at hh
   .rename_i e l c he hl hc;obtain⟨kl,rfl⟩:=kbq hl;obtain⟨kc,rfl⟩:=kbq hc;have hd:=(hC.ty t i hi).d;rw[he] at hd;have hd:P.underlying t=some (.slice e):=hd;split at hh
    .rename_i k hk;split at hh
     .cases hh
     .rename_i hcc;simp only[Bool.or_eq_false_iff,Bool.not_eq_false'] at hcc;have h1:=Yb hcc.1.1.2;have h2:=Yb hcc.1.2;have h3:=Yb hcc.2
      have hk0:0<k.size:=by
       rcases YS k.size with h0|h0
       .rw[Qsq h0] at hcc;cases hcc.1.1.1
       .exact h0
      cases hh;have ok:=hC.ty e k hk;obtain⟨inf,hin,hsz,hby,hz⟩:=ok.info
      have hzc:(aaq ρ k.zero).cells=(cellsV ρ k.zero).toArray:=quq (by
       cases ha:k.agg with
       |true=>exact .inr Qt
       |false=>exact .inl (ok.zleaf ha))
      have hmul:((inf.bytes:Int)*(c:Int))<=281474976710656:=by
       have:((inf.bytes*c:Nat):Int)<=281474976710656:=by rw[hby];omega
       rwa[Int.natCast_mul] at this
      have key:=run_make (P:=P) w t e inf _ hd hin (hz ρ) kl kc (l:Int) (c:Int) Xd Xd hmul Xd;have hzin:InD (DD D ρ) (i1q c k.size k.zero):=InDL_iff.2 λy hy=>by rw[(List.mem_replicate.1 hy).2];exact ok.zin.mono λ_ _ h=>h.elim
      obtain⟨r',n'⟩:=xLq (t:=e) (tail:=[]) r hU hzin;simp only[ZU] at r' n';have hrep:=Ycq ρ c k.size k.zero ok.zsize hk0;rw[hrep] at r' n';obtain⟨p1,p2⟩:=bvq (D:=D) (ρ:=ρ) (w:=w) (h:=h) c l k.size hk0 h1 (cap:=(i1q c k.size k.zero).size+[].length (α:=Value)) (by simp[i1q,V.size]);refine⟨_,_,_,_,⟨.inl ?_,p1.symm,r',n',p2⟩⟩;simp only[Int.toNat_natCast,hzc,hsz,madeCells] at key;simp[execOp,(hfr.ev hx).1,(hfr.ev hy).1,aaq,key]
    .cases hh
   .cases hh
  .cases hh
 case slice t x lo hi mx=>
  simp only[opH,zxq,ylq,z4q,z5q,qgq,zjq,zpq,zKq,yqq,zXq] at hh;split at hh
  .rename_i j u hj hx;have hd:=(hC.ty t j hj).d;obtain⟨e1,i1⟩:=hfr.ev hx;split at hh
   .rename_i n e b off he;rw[he] at hd;split at hh
    .rename_i k l rr bv hk hl hr hv;split at hh
     .cases hh
     .rename_i hc;simp only[Bool.or_eq_false_iff,Bool.not_eq_false'] at hc;have h1:=Yb hc.1.1.2;have h2:=Yb hc.1.2;have h3:=Yb hc.2
      have hk0:0<k.size:=by
       rcases YS k.size with h0|h0
       .rw[Qsq h0] at hc;cases hc.1.1.1
       .exact h0
      cases hh;obtain⟨_,_,_,_,_,_,hcap,_⟩:=r.val i1.1 hv;have hb:=xZq (P:=P) hfr (isSl:=false) hl hr h1 h2 w;refine⟨_,D,ρ,w,⟨.inl ?_,rfl,r,Nxt.refl _ _ _ _,hk0,by simp only[Option.getD_some];omega,i1.1,?_⟩⟩
      .simp only[execOp,e1,aaq,yjq,Instr.sliceAt,ZL,Zy hd.1,ZA,Instr.sureAddr,Option.map_none,hb,(hC.ty e k hk).sizeOf w,YB,jCq];have hsc:z8q ρ b (off+l*k.size) k.size (some (n-l))=n-l:=rfl;simp only[hsc];congr 4
       by_cases hnl:n=l
       .simp[hnl,uVq (ρ:=ρ) (b:=b) (base:=off) Xd]
       .have:¬n-l=0:=by omega
        simp[hnl,this,ZK]
      .simp only[Option.getD_some];have:l*k.size+(n-l)*k.size=n*k.size:=by rw[<-ZO];congr 1;omega
       omega
    .cases hh
   .rename_i e b base off len esz lim he;rw[he] at hd;have hd:P.underlying t=some (.slice e):=hd;split at hh
    .rename_i k l rr bv hk hl hr hv;split at hh
     .cases hh
     .rename_i hc;simp only[Zb,ZE] at hc;obtain⟨⟨⟨⟨hes,h1⟩,h0⟩,h3⟩,h4⟩:=hc;have h1:=Yb h1;have h0:=Yb h0;have h3:=Yb h3;cases hh;obtain⟨_,_,_,_,_,_,hcap,_⟩:=r.val i1.2.2.1 hv;obtain⟨hpos,hlen,hD,hroom⟩:=i1
      have hrc:rr<=z8q ρ b off esz lim:=by
       cases lim with
       |some c=>exact Yb h4
       |none=>simp only[z8q];rw[Nat.le_div_iff_mul_le hpos];omega
      have hb:=xZq (P:=P) hfr (isSl:=true) hl hr h1 hrc w;refine⟨_,D,ρ,w,⟨.inl ?_,rfl,r,Nxt.refl _ _ _ _,hpos,?_,hD,?_⟩⟩
      .simp only[execOp,e1,aaq,yjq,Instr.sliceAt,ZL,Zy hd,ZA,Option.map_none,Instr.slice,hb,(hC.ty e k hk).sizeOf w,YB,hes]
       have hcap:z8q ρ b (off+l*esz) esz (qNq l lim)=z8q ρ b off esz lim-l:=by
        cases lim with
        |some c=>rfl
        |none=>
         simp only[z8q,qNq];rw[Nat.sub_add_eq,YC l esz,Nat.sub_mul_div]
       rw[hcap];congr 4
       have hc0:¬z8q ρ b off esz lim=0:=by omega
       by_cases hl0:l=0
       .subst hl0;simp[Addr.add]
       .have hb0:Nat.beq l 0=false:=nwq hl0;simp only[hb0,hc0,if_false,Option.map_some,jCq];by_cases hm:z8q ρ b off esz lim=l
        .simp[hm,uVq (ρ:=ρ) (b:=b) (base:=off) (Zs (Nat.le_add_right _ _) hroom)]
        .have:¬z8q ρ b off esz lim-l=0:=by omega
         simp[hm,this,ZK]
      .cases lim with
       |some c=>have h4:=Yb h4;simp only[qNq,Option.getD_some];omega
       |none=>simp[qNq]
      .cases lim with
       |some c=>
        have h4:=Yb h4;simp only[qNq,Option.getD_some] at hroom⊢;have:l*esz+(c-l)*esz=c*esz:=by rw[<-ZO];congr 1;omega
        omega
       |none=>
        simp only[qNq,YU];have:l*esz+(rr-l)*esz=rr*esz:=by rw[<-ZO];congr 1;omega
        omega
    .cases hh
   .cases hh
  .cases hh
 case call c=>
  obtain⟨callee,args,ats⟩:=c;cases callee<;>try (simp[opH,zxq,ylq,z4q,z5q,qgq,zjq,zpq,zKq,yqq,zXq] at hh;done)
  rename_i b;cases b<;>try (simp[opH,zxq,ylq,z4q,z5q,qgq,zjq,zpq,zKq,yqq,zXq] at hh;done)
  case append=>
   have e2:execOp a.eval ⟨dst,.call ⟨.builtin .append,args,ats⟩,ty,pos,aft,g⟩=(do pure (.value (<-Builtin.append_ ats ty (args.map a.eval)))):=rfl;simp only[opH,zxq,ylq,z4q,z5q,qgq,zjq,zpq,zKq,yqq,zXq] at hh;split at hh
   .rename_i x y ts tx h1 h2;have h1:args= #[x,y]:=by apply YA.1;simpa using h1
    have h2:ats= #[ts,tx]:=by apply YA.1;simpa using h2
    subst h1;subst h2
    split at hh
    .rename_i s u hx hy;obtain⟨e1,i1⟩:=hfr.ev hx;obtain⟨e3,i3⟩:=hfr.ev hy;obtain⟨val,D',ρ',w',q1,q2,q3,q4,q5⟩:=Qcq (ty:=ty) hC r i1 i3 hh hU;refine⟨val,D',ρ',w',⟨.inl ?_,q2,q3,q4,q5⟩⟩;rw[e2];simp[e1,e3,q1]
    .cases hh
   .cases hh
  case copy=>
   have e2:execOp a.eval ⟨dst,.call ⟨.builtin .copy,args,ats⟩,ty,pos,aft,g⟩=(do pure (.value (<-Builtin.copy_ ats ty (args.map a.eval)))):=rfl;simp only[opH,zxq,ylq,z4q,z5q,qgq,zjq,zpq,zKq,yqq,zXq] at hh;split at hh
   .rename_i x y ts tx h1 h2;have h1:args= #[x,y]:=by apply YA.1;simpa using h1
    have h2:ats= #[ts,tx]:=by apply YA.1;simpa using h2
    subst h1;subst h2
    split at hh
    .rename_i s u hx hy;obtain⟨e1,i1⟩:=hfr.ev hx;obtain⟨e3,i3⟩:=hfr.ev hy;obtain⟨w',q1,q3,q4,q5⟩:=ftq (ty:=ty) hC r i1 i3 hh;refine⟨_,D,ρ,w',⟨.inl ?_,rfl,q3,q4,q5⟩⟩;rw[e2];simp[e1,e3,q1]
    .cases hh
   .cases hh
end
noncomputable def Biq(h h1:Heap):Bool:= @decide (∀i,h1.wmin<i->i<h.next->h1.get i=h.get i) (Classical.propDecidable _)
noncomputable def mdq(h h1:Heap):Bool:=Biq h h1
theorem mcq{h h1:Heap}(ho:mdq h h1=true){i:Nat}(h2:h1.wmin<i)(h3:i<h.next):h1.get i=h.get i:= @of_decide_eq_true _ (Classical.propDecidable _) ho i h2 h3
theorem mbq{h h1:Heap}(ha:∀i,h1.wmin<i->i<h.next->h1.get i=h.get i):mdq h h1=true:= @decide_eq_true _ (Classical.propDecidable _) ha
structure Self where
 fn:FuncId->List V->Heap->Option (V×Heap)
 yield:Nat->List V->Heap->Option (V×Heap)
structure St where
 fr:Tr V
 h:Heap
 ds:List Nat
 rd:Bool
structure Flow where
 loop:Code->St->Option (Exit×St)
 scope:Code->Nat->St->Option (Exit×St)
noncomputable def Z2q(ops:Array Oper)(fr:Tr V)(o:Oper):Option Bool:=match o.guard with
 |none=>some true
 |some (j,b)=>match (ops[j]?).bind (·.dst) with
  |none=>some false
  |some t=>match fr.get t with
   |some (.bool c)=>some (c==b)
   |some _=>some false
   |none=>none
noncomputable def aBq(fr:Tr V)(d:Option Tmp)(v:V):Tr V:=match d with
 |some t=>fr.set t (some v)
 |none=>fr
noncomputable def jfq(S:Self)(C:Cfg)(fr:Tr V)(h:Heap):Op->Option (V×Heap)
 |.call ⟨.value x,xs,_⟩=>match evV C fr x,evL C fr xs.toList with
  |some (.fn f a c),some vs=>match C.ext f with
   |some e=>match e (a++vs++c) with
    |some v=>some (v,h)
    |none=>none
   |none=>S.fn f (a++vs++c) h
  |some (.yield l),some vs=>S.yield l vs h
  |_,_=>none
 |.call ⟨.invoke x m,xs,_⟩=>match evV C fr x,evL C fr xs.toList with
  |some (.iface t v),some vs=>match C.mt t m with
   |some f=>match C.ext f with
    |some _=>none
    |none=>S.fn f (v::vs) h
   |none=>none
  |_,_=>none
 |_=>none
noncomputable def opV(S:Self)(C:Cfg)(fr:Tr V)(h:Heap)(o:Oper):Option (V×Heap):=
 match ygq C fr o.type o.op with
 |some v=>some (v,h)
 |none=>match opH C fr h o.op with
  |some r=>some r
  |none=>jfq S C fr h o.op
noncomputable def qYq(S:Self)(C:Cfg)(ops:Array Oper):List Oper->Tr V->Heap->Option (Tr V×Heap)
 |[],fr,h=>some (fr,h)
 |o::l,fr,h=>match Z2q ops fr o with
  |some true=>match opV S C fr h o with
   |some (v,h')=>qYq S C ops l (aBq fr o.dst v) h'
   |none=>none
  |some false=>qYq S C ops l (aBq fr o.dst .undef) h
  |none=>none
noncomputable def eMq:List V->Option V
 |[.int .u64 (.ofNat x),.int .u64 (.ofNat y),.int .u64 (.ofNat c)]=>match Nat.ble c 1 with
  |true=>some (.tup [.int .u64 (.ofNat ((x+y+c)%18446744073709551616)),.int .u64 (.ofNat ((x+y+c)/18446744073709551616))])
  |false=>none
 |_=>none
noncomputable def xyq(ops:Array Oper):Nat->Nat->Nat->Bool
 |0,_,_=>false
 |f+1,j,k=>match ops[j]? with
  |none=>false
  |some o=>o.after.any λe=>Region.binds .any e&&(Nat.beq e.on k||xyq ops f e.on k)
inductive Ev where
 |load (b:Nat)
 |store (b:Nat)
 |gen
 |dirty
 |upd (b:Nat)
 |mk (b:Nat)
noncomputable def Ev.clash:Ev->Ev->Bool
 |.load _,.load _=>false
 |.load a,.store b=>Nat.beq a b
 |.store a,.load b=>Nat.beq a b
 |.store a,.store b=>Nat.beq a b
 |.load a,.upd b=>Nat.beq a b
 |.upd a,.load b=>Nat.beq a b
 |.gen,.load _=>false
 |.load _,.gen=>false
 |.gen,.gen=>false
 |.mk a,.store b=>Nat.beq a b
 |.store a,.mk b=>Nat.beq a b
 |.mk _,.upd _=>true
 |.mk _,.dirty=>true
 |.mk _,_=>false
 |.load _,.mk _=>false
 |.gen,.mk _=>false
 |_,_=>true
noncomputable def asq(C:Cfg)(fr:Tr V)(h h1:Heap):Op->Ev
 |.load _ x=>match evV C fr x with
  |some (.ptr b _)=>.load b
  |_=>.dirty
 |.store _ x _=>match evV C fr x with
  |some (.ptr b _)=>.store b
  |_=>.dirty
 |.call ⟨.builtin .append,xs,_⟩=>match Nat.ble h.next h1.wmin with
  |true=>.gen
  |false=>match xs.toList with
   |[x,_]=>match evV C fr x with
    |some (.sl b _ _ _ _ _)=>.upd b
    |_=>.dirty
   |_=>.dirty
 |.buildSlice _ _ _=>.mk h.next
 |.slice _ x _ _ _=>match evV C fr x with
  |some (.ptr b _)=>.load b
  |_=>match Nat.ble h.next h1.wmin with
   |true=>.gen
   |false=>.dirty
 |.call ⟨.value _,_,_⟩=>match Nat.ble h.next h1.wmin with
  |true=>.gen
  |false=>match mdq h h1 with
   |true=>.upd h1.wmin
   |false=>.dirty
 |_=>match Nat.ble h.next h1.wmin with
  |true=>.gen
  |false=>.dirty
noncomputable def c6q(ops:Array Oper)(j:Nat)(x:Ev):List (Nat×Ev) ->Bool
 |[]=>true
 |(k,y)::l=>(match y.clash x with|true=>xyq ops ops.size j k|false=>true)&&c6q ops j x l
noncomputable def d3q(a b:Nat):Nat:=match Nat.ble a b with
 |true=>a
 |false=>b
noncomputable def Qmq(S:Self)(C:Cfg)(fr:Tr V)(h:Heap)(o:Oper):Option (V×Heap×Option Ev):=
 match ygq C fr o.type o.op with
 |some v=>some (v,h,none)
 |none=>match opV S C fr {h with wmin:=h.next} o with
  |some (v,h1)=>some (v,{h1 with wmin:=d3q h.wmin h1.wmin},some (asq C fr h h1 o.op))
  |none=>none
noncomputable def yNq(S:Self)(C:Cfg)(ops:Array Oper):List Oper->Nat->List (Nat×Ev) ->Tr V->Heap->Option (Tr V×Heap)
 |[],_,_,fr,h=>some (fr,h)
 |o::l,i,es,fr,h=>match Z2q ops fr o with
  |some true=>match Qmq S C fr h o with
   |some (v,h1,some x)=>match c6q ops i x es with
    |true=>yNq S C ops l (i+1) ((i,x)::es) (aBq fr o.dst v) h1
    |false=>none
   |some (v,h1,none)=>yNq S C ops l (i+1) es (aBq fr o.dst v) h1
   |none=>none
  |some false=>yNq S C ops l (i+1) es (aBq fr o.dst .undef) h
  |none=>none
noncomputable def Jrq:Tr V->List Tmp->List V->Tr V
 |fr,p::ps,v::vs=>Jrq (fr.set p (some v)) ps vs
 |fr,_,_=>fr
noncomputable def kvq(st:St)(D l:Nat)(h:Heap):Option (Exit×St):=match h.get l with
 |some (.loop .ready none _ _ _ _ _)=>some (.normal,⟨st.fr,h.kill l,D::st.ds,st.rd⟩)
 |some (.loop .done (some .ret) _ _ _ _ _)=>some (.ret,⟨st.fr,h.kill l,D::st.ds,st.rd⟩)
 |some (.loop .done (some (.exit id)) _ _ _ _ _)=>some (.exit id,⟨st.fr,h.kill l,D::st.ds,st.rd⟩)
 |some (.loop .done (some (.goto id)) _ _ _ _ _)=>some (.goto id,⟨st.fr,h.kill l,D::st.ds,st.rd⟩)
 |_=>none
noncomputable def zdq(S:Self)(F:Flow)(C:Cfg):Code->St->Option (Exit×St)
 |.skip,st=>some (.normal,st)
 |.region _ ops dr,st=>match (match dr with
   |true=>yNq S C ops ops.toList 0 [] st.fr st.h
   |false=>qYq S C ops ops.toList st.fr st.h) with
  |some (fr,h)=>some (.normal,⟨fr,h,st.ds,st.rd⟩)
  |none=>none
 |.seq x y,st=>match zdq S F C x st with
  |some (.normal,st')=>zdq S F C y st'
  |r=>r
 |.cond c x y,st=>match evV C st.fr c with
  |some (.bool true)=>zdq S F C x st
  |some (.bool false)=>zdq S F C y st
  |_=>none
 |.block id x,st=>match zdq S F C x st with
  |some (.exit id',st')=>match Nat.beq id' id with
   |true=>some (.normal,st')
   |false=>some (.exit id',st')
  |r=>r
 |.loop x,st=>F.loop x st
 |.rangeFunc g ps asg bd,st=>match st.rd,evV C st.fr g with
  |false,some (.fn gf [] c)=>match S.fn gf ([.yield (st.h.next+1)]++c) ((st.h.push (.dfr false)).push (.loop .ready none st.fr ps asg bd st.h.next)) with
   |some (_,h)=>kvq st st.h.next (st.h.next+1) h
   |none=>none
  |_,_=>none
 |.exit id,st=>some (.exit id,st)
 |.scope x,st=>match zdq S F C x st with
  |some (.goto l,st')=>F.scope x l st'
  |r=>r
 |.label _,st=>some (.normal,st)
 |.goto l,st=>some (.goto l,st)
 |.ret,st=>some (.ret,st)
 |.refuse _,_=>none
noncomputable def x0q:Nat->List V->Tr V->Tr V
 |_,[],t=>t
 |i,v::vs,t=>x0q (i+1) vs (t.set i (some v))
noncomputable def qHq:List Nat->Heap->Option Heap
 |[],h=>some h
 |d::ds,h=>match h.get d with
  |some (.dfr false)=>qHq ds (h.put d (.dfr true))
  |_=>none
noncomputable def toq(C:Cfg)(fr:Tr V)(h:Heap):ResultVar->Option V
 |.tmp t=>fr.get t
 |.cell p T=>match fr.get p,C.ty T with
  |some (.ptr b off),some i=>match h.val b with
   |some v=>jHq 50 v off i.size i.agg
   |none=>none
  |_,_=>none
noncomputable def n3q(C:Cfg)(fr:Tr V)(h:Heap):List ResultVar->Option (List V)
 |[]=>some []
 |r::l=>match toq C fr h r,n3q C fr h l with
  |some v,some vs=>some (v::vs)
  |_,_=>none
noncomputable def c4q(C:Cfg)(fn:Func)(st:St):Option (V×Heap):=match qHq st.ds st.h with
 |none=>none
 |some h=>match n3q C st.fr h fn.results.toList with
  |some [v]=>some (v,h)
  |some vs=>some (.tup vs,h)
  |none=>none
mutual
noncomputable def yPq(C:Cfg):Nat->FuncId->List V->Heap->Option (V×Heap)
 |0,_,_,_=>none
 | n +1,f,vs,h=>match C.known f with
  |some k=>k vs h
  |none=>match C.fn f with
   |none=>none
   |some fn=>match fn.body,Nat.ble vs.length fn.ntmps with
    |some c,true=>match zdq ⟨yPq C n,zNq C n⟩ ⟨ybq C n,zRq C n⟩ C c ⟨x0q 0 vs .nil,h,[],false⟩ with
     |some (.normal,st)=>c4q C fn st
     |some (.ret,st)=>c4q C fn st
     |_=>none
    |_,_=>none
noncomputable def zNq(C:Cfg):Nat->Nat->List V->Heap->Option (V×Heap)
 |0,_,_,_=>none
 | n + 1,l,vs,h=>match h.get l with
  |some (.loop .ready none fr ps asg bd d)=>match Nat.beq vs.length ps.size with
   |false=>none
   |true=>match zdq ⟨yPq C n,zNq C n⟩ ⟨ybq C n,zRq C n⟩ C asg ⟨Jrq fr ps.toList vs,h,[],true⟩ with
    |some (.normal,st1)=>match st1.h.get l with
     |some (.loop .ready none fr1 ps1 asg1 bd1 d1)=>match zdq ⟨yPq C n,zNq C n⟩ ⟨ybq C n,zRq C n⟩ C bd ⟨st1.fr,st1.h.put l (.loop .busy none fr1 ps1 asg1 bd1 d1),st1.ds,st1.rd⟩ with
      |some (x,st2)=>match st2.h.get l with
       |some (.loop .busy none fr2 ps2 asg2 bd2 d2)=>match x with
        |.normal=>some (.bool true,st2.h.put l (.loop .ready none fr2 ps2 asg2 bd2 d2))
        |.ret=>some (.bool false,st2.h.put l (.loop .done (some .ret) fr2 ps2 asg2 bd2 d2))
        |.exit id=>some (.bool false,st2.h.put l (.loop .done (some (.exit id)) fr2 ps2 asg2 bd2 d2))
        |.goto id=>some (.bool false,st2.h.put l (.loop .done (some (.goto id)) fr2 ps2 asg2 bd2 d2))
        |_=>none
       |_=>none
      |none=>none
     |_=>none
    |_=>none
  |_=>none
noncomputable def ybq(C:Cfg):Nat->Code->St->Option (Exit×St)
 |0,_,_=>none
 |n+1,c,st=>match zdq ⟨yPq C n,zNq C n⟩ ⟨ybq C n,zRq C n⟩ C c st with
  |some (.normal,st')=>ybq C n c st'
  |r=>r
noncomputable def zRq(C:Cfg):Nat->Code->Nat->St->Option (Exit×St)
 |0,_,_,_=>none
 |n+1,c,l,st=>match findLabel c l with
  |some rest=>match zdq ⟨yPq C n,zNq C n⟩ ⟨ybq C n,zRq C n⟩ C rest st with
   |some (.goto l',st')=>zRq C n c l' st'
   |r=>r
  |none=>none
end
inductive Tr.All{α:Type}(p:Nat->α->Prop):(Nat->Nat) ->Tr α->Prop
 |nil {f:Nat->Nat}:Tr.All p f .nil
 |skip {f:Nat->Nat} {l r:Tr α} (hl:Tr.All p (λk=>f (2*k+1)) l) (hr:Tr.All p (λk=>f (2*k+2)) r):Tr.All p f (.node none l r)
 |here {f:Nat->Nat} {x:α} {l r:Tr α} (hx:p (f 0) x) (hl:Tr.All p (λk=>f (2*k+1)) l) (hr:Tr.All p (λk=>f (2*k+2)) r):Tr.All p f (.node (some x) l r)
theorem Tr.All.at_{α:Type}{p:Nat->α->Prop}:∀{t:Tr α} {f:Nat->Nat} {k:Nat} {x:α},Tr.All p f t->t.get k=some x->p (f k) x
 |.nil,f,k,x,_,hk=>by simp[Tr.get_nil] at hk
 |.node v l r,f,k,x,h,hk=>by
  rw[Tr.get_node] at hk;by_cases h0:k=0
  .rw[Zt h0] at hk;subst hk;subst h0
   cases h with
   |here hx _ _=>exact hx
  .rw[Zg h0] at hk
   have hlr:Tr.All p (λk=>f (2*k+1)) l/\Tr.All p (λk=>f (2*k+2)) r:=by
    cases h with
    |skip hl hr=>exact⟨hl,hr⟩
    |here _ hl hr=>exact⟨hl,hr⟩
   by_cases h1:k%2=1
   .rw[Zt h1] at hk;have:=hlr.1.at_ hk;rwa[show 2*(k/2)+1=k by omega] at this
   .rw[Zg h1] at hk;have:=hlr.2.at_ hk;rwa[show 2*(k/2-1)+2=k by omega] at this
structure Mono(h h':Heap):Prop where
 nxt:h.next<=h'.next
 wf:(∀i,h.next<=i->h.get i=none) ->∀i,h'.next<=i->h'.get i=none
 wmin:h'.wmin<=h.wmin
 keep:∀i,i<h.next->i<h'.wmin->h'.get i=h.get i
theorem Mono.refl(h:Heap):Mono h h:=⟨Zc _,λh=>h,Zc _,λ_ _ _=>rfl⟩
theorem Mono.trans{a b c:Heap}(x:Mono a b)(y:Mono b c):Mono a c:=
 ⟨Zs x.nxt y.nxt,λh=>y.wf (x.wf h),Zs y.wmin x.wmin,λi h1 h2=>(y.keep i (Zw h1 x.nxt) h2).trans (x.keep i h1 (Zw h2 y.wmin))⟩
theorem yrq(h:Heap)(b:Blk):Mono h (h.push b):=⟨YK _,λhw i hi=>by
  have hi:h.next+1<=i:=hi;rw[Heap.get_push,Zg Xd];exact hw i Xd,Zc _,λi h1 _=>by rw[Heap.get_push,Zg Xd]⟩
theorem yFq{h:Heap}{i:Nat}{b c:Blk}(hb:h.get i=some c):Mono h (h.put i b):=by
 have hw:=k3q h.wmin i;refine⟨Zc _,λhwf j hj=>?_,hw.1,λj _ h2=>?_⟩
 .have hj:h.next<=j:=hj;have:j≠i:=λe=>by have:=hwf j hj;rw[e,hb] at this;cases this
  rw[Heap.get_put,Zg this];exact hwf j hj
 .have h2:j<wmn h.wmin i:=h2;rw[Heap.get_put,Zg Xd]
theorem vkq(h:Heap)(i:Nat):Mono h (h.kill i):=by
 have hw:=k3q h.wmin i;refine⟨Zc _,λhwf j hj=>?_,hw.1,λj _ h2=>?_⟩
 .have hj:h.next<=j:=hj;rw[Heap.get_kill];split
  .rfl
  .exact hwf j hj
 .have h2:j<wmn h.wmin i:=h2;rw[Heap.get_kill,Zg Xd]
theorem JJq{C:Cfg}{h h':Heap}{ts tx:TypeId}{s x v:V}(ha:kkq C h ts tx s x=some (v,h')):Mono h h':=by
 unfold kkq at ha;repeat' (split at ha)
 all_goals first|(cases ha;done)|skip
 all_goals first
  |(cases ha;exact Mono.refl _)
  |(cases ha;exact yrq _ _)
  |(cases ha;rename_i hg _ _ _;exact yFq hg)
  |(cases ha;rename_i hg _ _ _ _;exact yFq hg)
  |(cases ha;rename_i hg _ _ _ _ _;exact yFq hg)
  |(cases ha;exact(yrq _ _).trans (vkq _ _))
theorem hgq{C:Cfg}{h h':Heap}{ts tx:TypeId}{s x v:V}(ha:fuq C h ts tx s x=some (v,h')):Mono h h':=by
 unfold fuq at ha;repeat' (split at ha)
 all_goals first|(cases ha;done)|skip
 all_goals first
  |(cases ha;exact Mono.refl _)
  |(cases ha;rename_i hg _ _ _;exact yFq hg)
  |(cases ha;rename_i hg _ _ _ _;exact yFq hg)
  |(cases ha;rename_i hg _ _ _ _ _;exact yFq hg)
theorem d2q{C:Cfg}{fr:Tr V}{h h':Heap}{o:Op}{v:V}(hh:opH C fr h o=some (v,h')):Mono h h':=by
 cases o<;>try (simp[opH,zxq,ylq,z4q,z5q,qgq,zjq,zpq,zKq,yqq,zXq] at hh;done)
 case convert s t x=>
  simp only[opH,zxq,ylq,z4q,z5q,qgq,zjq,zpq,zKq,yqq,zXq] at hh;repeat' (split at hh)
  all_goals first|(cases hh;done)|(cases hh;exact Mono.refl _)|(cases hh;exact yrq _ _)|(cases hh;exact yFq Yh)
 case load t x=>
  simp only[opH,zxq,ylq,z4q,z5q,qgq,zjq,zpq,zKq,yqq,zXq] at hh;repeat' (split at hh)
  all_goals first|(cases hh;done)|(cases hh;exact Mono.refl _)
 case store t x y=>
  simp only[opH,zxq,ylq,z4q,z5q,qgq,zjq,zpq,zKq,yqq,zXq] at hh;repeat' (split at hh)
  all_goals first|(cases hh;done)|(cases hh;rename_i hg _ _ _;exact yFq hg)|(cases hh;rename_i hg _ _ _ _;exact yFq hg)
 case alloc t=>
  simp only[opH,zxq,ylq,z4q,z5q,qgq,zjq,zpq,zKq,yqq,zXq] at hh;repeat' (split at hh)
  all_goals first|(cases hh;done)|(cases hh;exact yrq _ _)
 case box t x=>
  simp only[opH,zxq,ylq,z4q,z5q,qgq,zjq,zpq,zKq,yqq,zXq] at hh;repeat' (split at hh)
  all_goals first|(cases hh;done)|(cases hh;exact yrq _ _)
 case buildSlice t n ps=>
  simp only[opH,zxq,ylq,z4q,z5q,qgq,zjq,zpq,zKq,yqq,zXq] at hh;repeat' (split at hh)
  all_goals first|(cases hh;done)|(cases hh;exact yrq _ _)
 case makeSlice t x y=>
  simp only[opH,zxq,ylq,z4q,z5q,qgq,zjq,zpq,zKq,yqq,zXq] at hh;repeat' (split at hh)
  all_goals first|(cases hh;done)|(cases hh;exact yrq _ _)
 case slice t x lo hi mx=>
  simp only[opH,zxq,ylq,z4q,z5q,qgq,zjq,zpq,zKq,yqq,zXq] at hh;repeat' (split at hh)
  all_goals first|(cases hh;done)|(cases hh;exact Mono.refl _)
 case call c=>
  obtain⟨callee,args,ats⟩:=c;cases callee<;>try (simp[opH,zxq,ylq,z4q,z5q,qgq,zjq,zpq,zKq,yqq,zXq] at hh;done)
  rename_i b;cases b<;>try (simp[opH,zxq,ylq,z4q,z5q,qgq,zjq,zpq,zKq,yqq,zXq] at hh;done)
  case append=>
   simp only[opH,zxq,ylq,z4q,z5q,qgq,zjq,zpq,zKq,yqq,zXq] at hh;split at hh
   .split at hh
    .exact JJq hh
    .cases hh
   .cases hh
  case copy=>
   simp only[opH,zxq,ylq,z4q,z5q,qgq,zjq,zpq,zKq,yqq,zXq] at hh;split at hh
   .split at hh
    .exact hgq hh
    .cases hh
   .cases hh
noncomputable def k0q(s0:World)(U:Nat)(D:Nat->Prop)(ρ:Env)(h:Heap)(w:World)(v:V)(h':Heap):Ending->World->Prop:=λe w'=>
 ∃D' ρ',e= .returned (aaq ρ' v)/\Rel s0 U D' ρ' h' w'/\Nxt D ρ h w D' ρ' h' w'/\InD (DD D' ρ') v
structure SelfOK(P:Program)(C:Cfg)(S:Self):Prop where
 fnMono:∀f vs h v h',S.fn f vs h=some (v,h') ->Mono h h'
 fnEnter:∀f vs h v h',S.fn f vs h=some (v,h') ->∀args w,(callFunc f args).run P w= .ok (.enter f args) w
 fn:∀f vs h v h',S.fn f vs h=some (v,h') ->∀s0 U D ρ w,h'.next<=U->GlobOK C (DD D ρ) ρ->InDL (DD D ρ) vs->Rel s0 U D ρ h w->Calls P f (zMq ρ vs).toArray w (k0q s0 U D ρ h w v h')
 yMono:∀l vs h v h',S.yield l vs h=some (v,h') ->Mono h h'
 yield:∀l vs h v h',S.yield l vs h=some (v,h') ->∀s0 U D ρ w,h'.next<=U->GlobOK C (DD D ρ) ρ->D l->InDL (DD D ρ) vs->Rel s0 U D ρ h w->YieldAt Fence.wide 0 P (ρ.l l).1 (zMq ρ vs).toArray w (k0q s0 U D ρ h w v h')
section
variable {P:Program} {C:Cfg} {S:Self} {s0:World} {U:Nat} {D:Nat->Prop} {ρ:Env} {fr:Tr V} {a:Act} {w:World} {h:Heap}
theorem fwq(hS:SelfOK P C S){o:Op}{v:V}{h':Heap}(hc:jfq S C fr h o=some (v,h')):Mono h h':=by
 unfold jfq at hc;split at hc
 .split at hc
  .split at hc
   .split at hc
    .cases hc;exact Mono.refl _
    .cases hc
   .exact hS.fnMono _ _ _ _ _ hc
  .exact hS.yMono _ _ _ _ _ hc
  .cases hc
 .split at hc
  .split at hc
   .split at hc
    .cases hc
    .exact hS.fnMono _ _ _ _ _ hc
   .cases hc
  .cases hc
 .cases hc
theorem vgq(hS:SelfOK P C S){o:Oper}{v:V}{h':Heap}(ho:opV S C fr h o=some (v,h')):Mono h h':=by
 unfold opV at ho;split at ho
 .cases ho;exact Mono.refl _
 .split at ho
  .rename_i r hr;cases ho;exact d2q hr
  .exact fwq hS ho
theorem GlobOK.next{D':Nat->Prop}{ρ':Env}{h':Heap}{w':World}(g:GlobOK C (DD D ρ) ρ)(hl:∀i,D i->i<h.next\/U<=i)(hU:h'.next<=U)(n:Nxt D ρ h w D' ρ' h' w'):GlobOK C (DD D' ρ') ρ':=λi hi=>by
 obtain⟨h1,h2,h3⟩:=g i hi;obtain⟨e1,e2,_⟩:=n.agree hl hU i 0 h1;exact⟨n.dd hl hU i 0 h1,e1.trans h2,e2.trans h3⟩
theorem FrE.next{D':Nat->Prop}{ρ':Env}{h':Heap}{w':World}(g:FrE C D ρ fr a)(hl:∀i,D i->i<h.next\/U<=i)(hU:h'.next<=U)(n:Nxt D ρ h w D' ρ' h' w'):FrE C D' ρ' fr a:=
 ⟨λt v hv=>by rw[yQq (n.agree hl hU) (g.in_ t v hv)];exact g.at_ t v hv,λt v hv=>(g.in_ t v hv).mono (n.dd hl hU),GlobOK.next g.gl hl hU n⟩
theorem FrE.put{d:Option Tmp}{v:V}(g:FrE C D ρ fr a)(hd:YUq a.tmps.size d=true)(hv:InD (DD D ρ) v):FrE C D ρ (aBq fr d v) (a.put d (aaq ρ v)):=by
 cases d with
 |none=>exact g
 |some t=>
  have ht:t<a.tmps.size:=by simpa[YUq] using hd
  refine⟨λu x hx=>?_,λu x hx=>?_,g.gl⟩
  .simp only[aBq,Tr.get_set] at hx;simp only[Act.put,YT];by_cases e:u=t
   .subst e;rw[Zt rfl] at hx;cases hx
    simp[ht]
   .rw[Zg e] at hx;rw[Zg (λe'=>e e'.symm)];exact g.at_ u x hx
  .simp only[aBq,Tr.get_set] at hx;by_cases e:u=t
   .rw[Zt e] at hx;cases hx;exact hv
   .rw[Zg e] at hx;exact g.in_ u x hx
theorem x7q{ops:Array Oper}{o:Oper}{b:Bool}(g:FrE C D ρ fr a)(hw:Z2q ops fr o=some b):Region.wanted o (yielded ops a.tmps)=b:=by
 unfold Z2q at hw;unfold Region.wanted;cases hg:o.guard with
 |none=>simp[hg] at hw;simp[hw]
 |some p=>
  obtain⟨j,c⟩:=p;simp only[hg] at hw;simp only[yielded];cases hj:(ops[j]?).bind (·.dst) with
  |none=>simp[hj] at hw;simp[hw]
  |some t=>
   simp only[hj] at hw;simp only[Option.bind_some];split at hw
   .rename_i d hd;cases hw;have:=g.at_ t _ hd;rw[this];simp[aaq]
   .rename_i x hx hd;cases hw;have:=g.at_ t _ hd;rw[this];cases x<;>simp[aaq,yjq]<;>first|rfl|(exfalso;exact hx _ rfl)
   .cases hw
theorem Yrq(hC:CfgOK P C)(hS:SelfOK P C S){o:Oper}{r:Option Nat}{v:V}{h':Heap}{K:Act->World->Prop}{Q:Exit->Act->World->Prop}(hn:xjq o=true)(ho:opV S C fr h o=some (v,h'))(hU:h'.next<=U)(g:FrE C D ρ fr a)(rel:Rel s0 U D ρ h w)
  (k:∀D' ρ' w',Rel s0 U D' ρ' h' w'->Nxt D ρ h w D' ρ' h' w'->InD (DD D' ρ') v->K (a.put o.dst (aaq ρ' v)) w'):o.wpIn (FF r) 0 P a w K Q:=by
 unfold opV at ho;split at ho
 .rename_i u hu;cases ho;obtain⟨h1,h2⟩:=QIq hC g hu w;exact ZQq hn (.inl h1) (k D ρ w rel (Nxt.refl _ _ _ _) h2)
 .split at ho
  .rename_i r' hr;cases ho;obtain⟨x,D',ρ',w',d⟩:=g5q hC g rel hr hU;have hx:=d.val;subst hx;exact ZQq hn d.op (k D' ρ' w' d.rel d.nxt d.in_)
  ·-- a call
   obtain⟨dst,op,ty,pos,aft,gd⟩:=o;simp only at ho;unfold jfq at ho;split at ho
   .rename_i x xs ats hp0 hh0
    have hargs:∀vs,evL C fr xs.toList=some vs->xs.map a.eval=(zMq ρ vs).toArray/\InDL (DD D ρ) vs:=λvs hvs=>by
     obtain⟨e1,e2⟩:=g.evs hvs;exact⟨by apply YA.1;simpa using e1,e2⟩
    split at ho
    .rename_i f fi ca vs hx hvs;obtain⟨e1,i1⟩:=g.ev hx;obtain⟨e2,i2⟩:=hargs vs hvs
     have hin:InDL (DD D ρ) (fi++vs++ca):=InDL_iff.2 λy hy=>by
      simp only[ZT] at hy;rcases hy with (h|h)|h
      .exact InDL_iff.1 i1.1 y h
      .exact InDL_iff.1 i2 y h
      .exact InDL_iff.1 i1.2 y h
     have hcl:(zMq ρ fi).toArray++(zMq ρ vs).toArray++(zMq ρ ca).toArray=(zMq ρ (fi++vs++ca)).toArray:=by
      simp[kxq]
     have hres:∀R:Array Value->Sem Next,(execOp a.eval ⟨dst,.call ⟨.value x,xs,ats⟩,ty,pos,aft,gd⟩)=(do let d<-resolve a.eval ⟨.value x,xs,ats⟩ ty;invoke d.target d.args):=λ_=>rfl
     have hrun:(execOp a.eval ⟨dst,.call ⟨.value x,xs,ats⟩,ty,pos,aft,gd⟩).run P w=(callFunc f (zMq ρ (fi++vs++ca)).toArray).run P w:=by
      rw[hres (λ_=>pure .skip),<-hcl];simp only[resolve,e1,e2,aaq,Deferred.ofValue,ZL,YB,ZA,invoke]
     split at ho
     .rename_i e he;split at ho
      .rename_i u hu;cases ho;obtain⟨q1,q2⟩:=hC.ext f e he ρ _ _ hu;exact ZQq hn (.inl (by rw[hrun];exact q1 w)) (k D ρ w rel (Nxt.refl _ _ _ _) (q2 _ hin))
      .cases ho
     .refine⟨λf _=>Qtq r f,?_⟩;rw[Oper.semAt_plain _ _ _ (by intro c e;cases e),hrun,hS.fnEnter _ _ _ _ _ ho,Oper.uponIn_enter];refine⟨by simp[vKq],?_⟩;refine(itq (r:=r) (hS.fn _ _ _ _ _ ho s0 U D ρ w hU g.gl hin rel)).mono ?_;rintro e w' ⟨D',ρ',rfl,q1,q2,q3⟩;exact k D' ρ' w' q1 q2 q3
    .rename_i l vs hx hvs;obtain⟨e1,i1⟩:=g.ev hx;obtain⟨e2,i2⟩:=hargs vs hvs;obtain⟨fn,tmps,assign,body,hy,hR⟩:=hS.yield _ _ _ _ _ ho s0 U D ρ w hU g.gl i1.1 i2 rel;refine⟨λf _=>Qtq r f,?_⟩
     have hrun:(execOp a.eval ⟨dst,.call ⟨.value x,xs,ats⟩,ty,pos,aft,gd⟩).run P w= .ok (.round (ρ.l l).1 fn tmps assign body) w:=by
      simp only[execOp,resolve,e1,e2,aaq,Deferred.ofValue,ZL,YB,ZA,invoke];simpa using hy
     rw[Oper.semAt_plain _ _ _ (by intro c e;cases e),hrun,Oper.uponIn_round];refine⟨by simp[vKq],?_⟩
     have hR':RoundIn (FF r) 0 P (ρ.l l).1 fn tmps assign body w (k0q s0 U D ρ h w v h'):=
      ⟨Qtq r fn,λc cs _=>by have:=hR.2 c cs (room_wide _);rwa[<-YPq r] at this⟩
     refine hR'.mono ?_;rintro e w' ⟨D',ρ',rfl,q1,q2,q3⟩;exact k D' ρ' w' q1 q2 q3
    .cases ho
   .rename_i x m xs ats hp0 hh0
    have hargs:∀vs,evL C fr xs.toList=some vs->xs.map a.eval=(zMq ρ vs).toArray/\InDL (DD D ρ) vs:=λvs hvs=>by
     obtain⟨e1,e2⟩:=g.evs hvs;exact⟨by apply YA.1;simpa using e1,e2⟩
    split at ho
    .rename_i t u vs hx hvs;obtain⟨e1,i1⟩:=g.ev hx;obtain⟨e2,i2⟩:=hargs vs hvs;split at ho
     .rename_i f hf;split at ho
      .cases ho
      .have hin:InDL (DD D ρ) (u::vs):=⟨i1,i2⟩;have hcl: #[aaq ρ u]++(zMq ρ vs).toArray=(zMq ρ (u::vs)).toArray:=by simp[zMq]
       have hrun:(execOp a.eval ⟨dst,.call ⟨.invoke x m,xs,ats⟩,ty,pos,aft,gd⟩).run P w=(callFunc f (zMq ρ (u::vs)).toArray).run P w:=by
        have hex:(#[aaq ρ (.iface t u)]++(zMq ρ vs).toArray).extract 1 (#[aaq ρ (.iface t u)]++(zMq ρ vs).toArray).size=(zMq ρ vs).toArray:=by
         apply YA.1;simp
        have h0:(#[aaq ρ (.iface t u)]++(zMq ρ vs).toArray)[0]? =some (aaq ρ (.iface t u)):=by simp
        show((do let d<-resolve a.eval ⟨.invoke x m,xs,ats⟩ ty;invoke d.target d.args):Sem Next).run P w=_;simp only[resolve,e1,e2,ZL,YB,ZA,invoke];rw[<-hcl,<-hC.mt t m f hf (aaq ρ u) (zMq ρ vs).toArray w];simp only[h0,hex];rfl
       refine⟨λf _=>Qtq r f,?_⟩;rw[Oper.semAt_plain _ _ _ (by intro c e;cases e),hrun,hS.fnEnter _ _ _ _ _ ho,Oper.uponIn_enter];refine⟨by simp[vKq],?_⟩;refine(itq (r:=r) (hS.fn _ _ _ _ _ ho s0 U D ρ w hU g.gl hin rel)).mono ?_;rintro e w' ⟨D',ρ',rfl,q1,q2,q3⟩;exact k D' ρ' w' q1 q2 q3
     .cases ho
    .cases ho
   .cases ho
end
noncomputable def mkD(ρ:Env)(d:Nat):Deferred:={target:=.collected (ρ.b d),args:= #[]}
structure StR(C:Cfg)(s0:World)(U N:Nat)(r:Option Nat)(tl:List Deferred)(D:Nat->Prop)(ρ:Env)(st:St)(a:Act)(w:World):Prop where
 fr:FrE C D ρ st.fr a
 rel:Rel s0 U D ρ st.h w
 size:a.tmps.size=N
 defs:a.defers=st.ds.map (mkD ρ)++tl
 din:∀d∈st.ds,D d
 rd:st.rd=r.isSome
noncomputable def htq(J:Nat->Act->World->Prop)(Q:Exit->Act->World->Prop):Exit->Act->World->Prop
 |.goto l,a,w=>J l a w
 |e,a,w=>Q e a w
noncomputable def vSq(F:Fence)(n:Nat)(P:Program)(c:Code)(Q:Exit->Act->World->Prop):Nat->Nat->Act->World->Prop
 |0,_,_,_=>False
 |m+1,l,a,w=>∃rest,findLabel c l=some rest/\rest.wpIn F n P (htq (vSq F n P c Q m) Q) a w
theorem uWq{F:Fence}{n:Nat}{P:Program}{Q:Exit->Act->World->Prop}{a:Act}{w:World}{c:Code}(m:Nat)(h:c.wpIn F n P (htq (vSq F n P c Q m) Q) a w):(Code.scope c).wpIn F n P Q a w:=by
 intro b k cs hro hb hr;have h0:(lone (b.atR a (.code (.scope c)::k)) cs w).fenced P F:=fenced_calm hb hr rfl;have s0:step P (lone (b.atR a (.code (.scope c)::k)) cs w)= .next (lone (b.atR a (.code c:: .inScope c::k)) cs w):=step_lone_go (by simp[stepG,stepG.exec,Frame.atR]);have s1:∀a w,step P (lone (b.atR a (.inScope c::k)) cs w)= .next (lone (b.atR a k) cs w):=λa w=>step_lone_go (by simp[stepG,stepG.exec,Frame.atR])
 have hx:∀id,exitTo id (.inScope c::k)=exitTo id k:=λid=>by simp[exitTo]
 have key:∀m (d:Code) a w,d.wpIn F n P (htq (vSq F n P c Q m) Q) a w->∃e a' w',Q e a' w'/\ArrivesIn (Machine.fenced P F) P (lone (b.atR a (.code d:: .inScope c::k)) cs w) b k cs e a' w':=by
  intro m;induction m with
  |zero=>
   intro d a w h;obtain⟨e,a₁,w₁,hq,harr⟩:=h b (.inScope c::k) cs hro hb hr;cases e with
   |normal=>exact⟨.normal,a₁,w₁,hq,StepsIn.trans harr (.one (fenced_calm hb hr rfl) (s1 _ _))⟩
   |exit id=>exact⟨.exit id,a₁,w₁,hq,λk' hk=>harr.1 k' (by rw[hx];exact hk),λhr' hk=>harr.2 hr' (by rw[hx];exact hk)⟩
   |goto l=>exact hq.elim
   |ret=>exact⟨_,a₁,w₁,hq,harr⟩
   |panic ch=>exact⟨_,a₁,w₁,hq,harr⟩
   |outgrown=>exact⟨_,a₁,w₁,hq,harr⟩
  |succ m ih=>
   intro d a w h;obtain⟨e,a₁,w₁,hq,harr⟩:=h b (.inScope c::k) cs hro hb hr;cases e with
   |normal=>exact⟨.normal,a₁,w₁,hq,StepsIn.trans harr (.one (fenced_calm hb hr rfl) (s1 _ _))⟩
   |exit id=>exact⟨.exit id,a₁,w₁,hq,λk' hk=>harr.1 k' (by rw[hx];exact hk),λhr' hk=>harr.2 hr' (by rw[hx];exact hk)⟩
   |goto l=>
    obtain⟨rest,hf,hw⟩:=hq;obtain⟨e₂,a₂,w₂,hq₂,harr₂⟩:=ih rest a₁ w₁ hw;have hg:gotoIn l (.inScope c::k)=some (.code rest:: .inScope c::k):=by simp[gotoIn,hf]
    exact⟨e₂,a₂,w₂,hq₂,.of_steps (harr.1 _ hg) harr₂⟩
   |ret=>exact⟨_,a₁,w₁,hq,harr⟩
   |panic ch=>exact⟨_,a₁,w₁,hq,harr⟩
   |outgrown=>exact⟨_,a₁,w₁,hq,harr⟩
 obtain⟨e,a',w',hq,harr⟩:=key m c a w h;exact⟨e,a',w',hq,.of_steps (.one h0 s0) harr⟩
section
variable {P:Program} {C:Cfg} {S:Self} {s0:World} {U:Nat} {D:Nat->Prop} {ρ:Env} {fr:Tr V} {a:Act} {w:World} {h:Heap}
theorem jWq(hC:CfgOK P C)(hS:SelfOK P C S){N:Nat}{ops:Array Oper}{X:List Deferred}{r:Option Nat}{Q:Exit->Act->World->Prop}:∀(l:List Oper) (fr:Tr V) (h:Heap) (fr':Tr V) (h':Heap),qYq S C ops l fr h=some (fr',h') ->(∀o∈l,xjq o=true/\YUq N o.dst=true) ->
  Mono h h'/\∀D ρ a w,h'.next<=U->FrE C D ρ fr a->Rel s0 U D ρ h w->a.tmps.size=N->a.defers=X->
   (∀D' ρ' a' w',FrE C D' ρ' fr' a'->Rel s0 U D' ρ' h' w'->Nxt D ρ h w D' ρ' h' w'->a'.tmps.size=N->a'.defers=X->Q .normal a' w') ->wpListIn (FF r) 0 P ops Q l a w
 |[],fr,h,fr',h',he,_=>by
  simp only[qYq,Zk,ZQ] at he;obtain⟨rfl,rfl⟩:=he;exact⟨Mono.refl _,λD ρ a w _ g rel hs hd k=>by unfold wpListIn;exact k D ρ a w g rel (Nxt.refl _ _ _ _) hs hd⟩
 |o::l,fr,h,fr',h',he,hl=>by
  obtain⟨hn,hd⟩:=hl o Xi;simp only[qYq] at he;split at he
  .rename_i hw;split at he
   .rename_i v h1 ho;obtain⟨m2,ih⟩:=jWq hC hS (X:=X) (r:=r) (Q:=Q) l _ _ _ _ he (λo ho=>hl o (by simp[ho]));have m1:=vgq hS ho;refine⟨m1.trans m2,λD ρ a w hU g rel hs hdf k=>?_⟩;unfold wpListIn;rw[x7q g hw,Zt rfl];have hU1:=Zs m2.nxt hU;refine Yrq hC hS hn ho hU1 g rel λD1 ρ1 w1 rel1 n1 in1=>?_
    refine ih D1 ρ1 _ w1 hU ((g.next rel.lt hU1 n1).put (by rw[hs];exact hd) in1) rel1 (by cases o.dst<;>simp[Act.put,hs]) (by cases o.dst<;>simp[Act.put,hdf]) ?_;exact λD' ρ' a' w' q1 q2 q3 q4 q5=>k D' ρ' a' w' q1 q2 (n1.trans rel.lt hU q3) q4 q5
   .cases he
  .rename_i hw;obtain⟨m2,ih⟩:=jWq hC hS (X:=X) (r:=r) (Q:=Q) l _ _ _ _ he (λo ho=>hl o (by simp[ho]));refine⟨m2,λD ρ a w hU g rel hs hdf k=>?_⟩;unfold wpListIn;rw[x7q g hw,Zg Xi];refine⟨λf _=>Qtq r f,ih D ρ _ w hU (g.put (v:=.undef) (by rw[hs];exact hd) trivial) rel (by cases o.dst<;>simp[Act.put,hs]) (by cases o.dst<;>simp[Act.put,hdf]) k⟩
  .cases he
noncomputable def jKq(P:Program)(C:Cfg)(N:Nat)(ev:St->Option (Exit×St))(W:Option Nat->(Exit->Act->World->Prop) ->Act->World->Prop):Prop:=
 ∀st x st',ev st=some (x,st') ->Mono st.h st'.h/\∀s0 U r tl D ρ a w Q,st'.h.next<=U->StR C s0 U N r tl D ρ st a w->
  (∀D' ρ' a' w',StR C s0 U N r tl D' ρ' st' a' w'->Nxt D ρ st.h w D' ρ' st'.h w'->Q x a' w') ->W r Q a w
structure FlowOK(P:Program)(C:Cfg)(F:Flow) where
 m:Nat
 loop:∀N c,yAq N c=true->jKq P C N (F.loop c) (λr Q a w=>Code.roundsIn (FF r) 0 P c Q m a w)
 scope:∀N c l,yAq N c=true->jKq P C N (F.scope c l) (λr Q a w=>vSq (FF r) 0 P c Q m l a w)
noncomputable def Qgq(P:Program)(C:Cfg)(S:Self):Prop:=∀(N:Nat) (ops:Array Oper) (id:Nat) (fr:Tr V) (h:Heap) (fr':Tr V) (h':Heap),fkq N ops.toList ops.size=true->yNq S C ops ops.toList 0 [] fr h=some (fr',h') ->
 Mono h h'/\∀s0 U r D ρ a w X Q,h'.next<=U->FrE C D ρ fr a->Rel s0 U D ρ h w->a.tmps.size=N->a.defers=X->
  (∀D' ρ' a' w',FrE C D' ρ' fr' a'->Rel s0 U D' ρ' h' w'->Nxt D ρ h w D' ρ' h' w'->a'.tmps.size=N->a'.defers=X->Q .normal a' w') ->(Code.region id ops true).wpIn (FF r) 0 P Q a w
theorem Rel.gone(r:Rel s0 U D ρ h w){i:Nat}{b:Blk}{o':Obj}{w':World}(hi:D i)(hb:h.get i=some b)(ho:b.own=true)(t:Turned (ρ.b i) o' w w'):Rel s0 U D ρ (h.kill i) w'/\Nxt D ρ h w D ρ (h.kill i) w':=by
 have get:∀j c,(h.kill i).get j=some c->j≠i/\h.get j=some c:=λj c hc=>by
  rw[Heap.get_kill] at hc;split at hc
  .cases hc
  .rename_i e;exact⟨e,hc⟩
 have hil:=r.blt hb;have hw:=k3q h.wmin i;have hs:=r.own i b hi hb ho
 have ne:∀j c,D j->j≠i->h.get j=some c->ρ.b j≠ρ.b i:=λj c hj hji hc e=>by
  by_cases hoc:c.own=true
  .exact r.inj j i c b hj hi hc hb hoc ho hji e
  .exact r.old j i c b hj hi hc hb (by simpa using hoc) ho e
 refine⟨⟨r.lt,λj hj=>?_,λj c hj hc=>?_,λj c hj hc=>r.clo j c hj (get j c hc).2,λj k c d hj hk hc hd=>r.inj j k c d hj hk (get _ _ hc).2 (get _ _ hd).2,λj c hj hc=>r.own j c hj (get _ _ hc).2,λj k c d hj hk hc hd=>r.old j k c d hj hk (get _ _ hc).2 (get _ _ hd).2,?_⟩,?_⟩
 .have hj:h.next<=j:=hj;rw[Heap.get_kill];split
  .rfl
  .exact r.wf j hj
 .obtain⟨h1,h2⟩:=get j c hc;obtain⟨o,q1,q2⟩:=r.has j c hj h2;exact⟨o,by rw[t.other _ (ne j c hj h1 h2)];exact q1,q2⟩
 .exact⟨t.os.trans r.base.os,t.tape.trans r.base.tape,t.output.trans r.base.output,by rw[t.size];exact r.base.size,λk hk=>(t.other k Xd).trans (r.base.block k hk)⟩
 .refine⟨λ_ h=>h,λ_ h=>.inl h,λ_ _=>⟨rfl,rfl,rfl,rfl⟩,λc _ hno=>t.other c λe=>hno i hi hw.2 hil e.symm,λj _ hn hl=>?_,Nat.le_of_eq t.size.symm,hw.1,Zc _,t.os,t.tape,t.output⟩;have hl:j<h.next:=hl;omega
theorem StR.next{N:Nat}{r:Option Nat}{tl:List Deferred}{st:St}{D':Nat->Prop}{ρ':Env}{h':Heap}{w':World}(g:StR C s0 U N r tl D ρ st a w)(hU:h'.next<=U)(n:Nxt D ρ st.h w D' ρ' h' w')(rel:Rel s0 U D' ρ' h' w'):StR C s0 U N r tl D' ρ' ⟨st.fr,h',st.ds,st.rd⟩ a w':=by
 refine⟨g.fr.next g.rel.lt hU n,rel,g.size,?_,λd hd=>n.sub d (g.din d hd),g.rd⟩;rw[g.defs];refine Ze (· ++tl) (List.map_congr_left λd hd=>?_);have:=n.agree g.rel.lt hU d 0 ⟨g.din d hd,Zi _⟩;simp[mkD,this.1]
theorem vuq{st:St}{Dd l:Nat}{x:Exit}{st':St}(he:kvq st Dd l h=some (x,st')):Mono h st'.h:=by
 unfold kvq at he;split at he<;>first|(cases he;done)|(cases he;exact vkq _ _)
theorem jpq(hC:CfgOK P C)(hS:SelfOK P C S){F:Flow}(hF:FlowOK P C F)(hR:Qgq P C S){N:Nat}:∀c:Code,yAq N c=true->jKq P C N (zdq S F C c) (λr Q a w=>c.wpIn (FF r) 0 P Q a w)
 |.skip,_=>λst x st' he=>by
  simp only[zdq,Zk,ZQ] at he;obtain⟨rfl,rfl⟩:=he;exact⟨Mono.refl _,λs0 U r tl D ρ a w Q hU g k=>wpIn_skip (k D ρ a w g (Nxt.refl _ _ _ _))⟩
 |.label _,_=>λst x st' he=>by
  simp only[zdq,Zk,ZQ] at he;obtain⟨rfl,rfl⟩:=he;exact⟨Mono.refl _,λs0 U r tl D ρ a w Q hU g k=>wpIn_label (k D ρ a w g (Nxt.refl _ _ _ _))⟩
 |.exit id,_=>λst x st' he=>by
  simp only[zdq,Zk,ZQ] at he;obtain⟨rfl,rfl⟩:=he;exact⟨Mono.refl _,λs0 U r tl D ρ a w Q hU g k=>wpIn_exit (k D ρ a w g (Nxt.refl _ _ _ _))⟩
 |.goto id,_=>λst x st' he=>by
  simp only[zdq,Zk,ZQ] at he;obtain⟨rfl,rfl⟩:=he;exact⟨Mono.refl _,λs0 U r tl D ρ a w Q hU g k=>wpIn_goto (k D ρ a w g (Nxt.refl _ _ _ _))⟩
 |.ret,_=>λst x st' he=>by
  simp only[zdq,Zk,ZQ] at he;obtain⟨rfl,rfl⟩:=he;exact⟨Mono.refl _,λs0 U r tl D ρ a w Q hU g k=>wpIn_ret (k D ρ a w g (Nxt.refl _ _ _ _))⟩
 |.refuse _,_=>λst x st' he=>by simp[zdq] at he
 |.seq c d,hok=>λst x st' he=>by
  simp only[yAq,Zb] at hok;have s1:=jpq hC hS hF hR c hok.1;have s2:=jpq hC hS hF hR d hok.2;simp only[zdq] at he;split at he
  .rename_i st1 h1;obtain⟨m1,k1⟩:=s1 _ _ _ h1;obtain⟨m2,k2⟩:=s2 _ _ _ he;refine⟨m1.trans m2,λs0 U r tl D ρ a w Q hU g k=>wpIn_seq (k1 s0 U r tl D ρ a w _ (Zs m2.nxt hU) g λD1 ρ1 a1 w1 g1 n1=>?_)⟩;exact k2 s0 U r tl D1 ρ1 a1 w1 Q hU g1 λD2 ρ2 a2 w2 g2 n2=>k D2 ρ2 a2 w2 g2 (n1.trans g.rel.lt hU n2)
  .rename_i hne;obtain⟨m1,k1⟩:=s1 _ _ _ he;refine⟨m1,λs0 U r tl D ρ a w Q hU g k=>wpIn_seq (k1 s0 U r tl D ρ a w _ hU g λD1 ρ1 a1 w1 g1 n1=>?_)⟩;have hq:=k D1 ρ1 a1 w1 g1 n1;cases x with
   |normal=>exact absurd he (hne st')
   |_=>exact hq
 |.cond c x y,hok=>λst e st' he=>by
  simp only[yAq,Zb] at hok;simp only[zdq] at he;split at he
  .rename_i hc;obtain⟨m1,k1⟩:=jpq hC hS hF hR x hok.1 _ _ _ he;refine⟨m1,λs0 U r tl D ρ a w Q hU g k=>wpIn_cond_true ?_ (k1 s0 U r tl D ρ a w Q hU g k)⟩;have:=(g.fr.ev hc).1;simpa[aaq] using this
  .rename_i hc;obtain⟨m1,k1⟩:=jpq hC hS hF hR y hok.2 _ _ _ he;refine⟨m1,λs0 U r tl D ρ a w Q hU g k=>wpIn_cond_false ?_ (k1 s0 U r tl D ρ a w Q hU g k)⟩;have:=(g.fr.ev hc).1;simpa[aaq] using this
  .cases he
 |.block id c,hok=>λst x st' he=>by
  simp only[yAq] at hok;have s1:=jpq hC hS hF hR c hok;simp only[zdq] at he;split at he
  .rename_i id' st1 h1;obtain⟨m1,k1⟩:=s1 _ _ _ h1;split at he
   .rename_i hid;rw[ZE] at hid;cases he;refine⟨m1,λs0 U r tl D ρ a w Q hU g k=>wpIn_block (k1 s0 U r tl D ρ a w _ hU g λD1 ρ1 a1 w1 g1 n1=>?_)⟩;simp only[Exit.inBlock,hid,if_true];exact k D1 ρ1 a1 w1 g1 n1
   .rename_i hid;have hid:¬id'=id:=λe=>by rw[Qsq e] at hid;cases hid
    cases he;refine⟨m1,λs0 U r tl D ρ a w Q hU g k=>wpIn_block (k1 s0 U r tl D ρ a w _ hU g λD1 ρ1 a1 w1 g1 n1=>?_)⟩;simp only[Exit.inBlock,hid,if_false];exact k D1 ρ1 a1 w1 g1 n1
  .rename_i hne;obtain⟨m1,k1⟩:=s1 _ _ _ he;refine⟨m1,λs0 U r tl D ρ a w Q hU g k=>wpIn_block (k1 s0 U r tl D ρ a w _ hU g λD1 ρ1 a1 w1 g1 n1=>?_)⟩;have hq:=k D1 ρ1 a1 w1 g1 n1;cases x with
   |exit id'=>exact absurd he (hne id' st')
   |_=>exact hq
 |.loop c,hok=>λst x st' he=>by
  simp only[yAq] at hok;simp only[zdq] at he;obtain⟨m1,k1⟩:=hF.loop N c hok _ _ _ he;exact⟨m1,λs0 U r tl D ρ a w Q hU g k=>wpIn_loop_rounds _ (k1 s0 U r tl D ρ a w Q hU g k)⟩
 |.scope c,hok=>λst x st' he=>by
  simp only[yAq] at hok;have s1:=jpq hC hS hF hR c hok;simp only[zdq] at he;split at he
  .rename_i l st1 h1;obtain⟨m1,k1⟩:=s1 _ _ _ h1;obtain⟨m2,k2⟩:=hF.scope N c l hok _ _ _ he;refine⟨m1.trans m2,λs0 U r tl D ρ a w Q hU g k=>uWq hF.m (k1 s0 U r tl D ρ a w _ (Zs m2.nxt hU) g λD1 ρ1 a1 w1 g1 n1=>?_)⟩;exact k2 s0 U r tl D1 ρ1 a1 w1 Q hU g1 λD2 ρ2 a2 w2 g2 n2=>k D2 ρ2 a2 w2 g2 (n1.trans g.rel.lt hU n2)
  .rename_i hne;obtain⟨m1,k1⟩:=s1 _ _ _ he;refine⟨m1,λs0 U r tl D ρ a w Q hU g k=>uWq hF.m (k1 s0 U r tl D ρ a w _ hU g λD1 ρ1 a1 w1 g1 n1=>?_)⟩;have hq:=k D1 ρ1 a1 w1 g1 n1;cases x with
   |goto l=>exact absurd he (hne l st')
   |_=>exact hq
 |.region id ops dr,hok=>λst x st' he=>by
  simp only[yAq,Zb] at hok;cases dr with
  |false=>
   simp only[zdq] at he;split at he
   .rename_i fr h he1;cases he
    have hall:∀o∈ops.toList,xjq o=true/\YUq N o.dst=true:=λo ho=>by
     have:=List.all_eq_true.1 hok.1 o ho;simpa using this
    have m1:=(jWq (s0:=default) (U:=0) (X:=[]) (r:=none) (Q:=λ_ _ _=>True) hC hS ops.toList _ _ _ _ he1 hall).1;refine⟨m1,λs0 U r tl D ρ a w Q hU g k=>?_⟩
    have k1:=(jWq (s0:=s0) (U:=U) (X:=a.defers) (r:=r) (Q:=Q) hC hS ops.toList _ _ _ _ he1 hall).2 D ρ a w hU g.fr g.rel g.size rfl λD' ρ' a' w' q1 q2 q3 q4 q5=>by
     refine k D' ρ' a' w' ?_ q3;have:=g.next hU q3 q2;exact⟨q1,q2,q4,by rw[q5];exact this.defs,this.din,g.rd⟩
    have e:ops=ops.toList.toArray:=by simp
    rw[e];exact wpIn_region_lit (by rw[<-e];exact k1)
   .cases he
  |true=>
   simp only[zdq] at he;split at he
   .rename_i fr h he1;cases he;have hb:fkq N ops.toList ops.size=true:=by simpa using hok.2
    obtain⟨m1,k1⟩:=hR N ops id _ _ _ _ hb he1;refine⟨m1,λs0 U r tl D ρ a w Q hU g k=>?_⟩;refine k1 s0 U r D ρ a w a.defers Q hU g.fr g.rel g.size rfl λD' ρ' a' w' q1 q2 q3 q4 q5=>?_
    refine k D' ρ' a' w' ?_ q3;have:=g.next hU q3 q2;exact⟨q1,q2,q4,by rw[q5];exact this.defs,this.din,g.rd⟩
   .cases he
 |.rangeFunc gop ps asg bd,hok=>λst x st' he=>by
  simp only[yAq,Zb] at hok;simp only[zdq] at he;split at he
  .rename_i gf cs hrd hg;split at he
   .rename_i u h3 hcall;have m1:=hS.fnMono _ _ _ _ _ hcall;have m2:=vuq he;refine⟨((yrq _ _).trans (yrq _ _)).trans (m1.trans m2),λs0 U r tl D ρ a w Q hU gg k=>?_⟩
    have hrn:r=none:=by
     have:=gg.rd;rw[hrd] at this;cases r with
     |none=>rfl
     |some l=>cases this
    subst hrn;obtain⟨hev,hcin⟩:=gg.fr.ev hg;have hU3:h3.next<=U:=Zs m2.nxt hU;have hU2:st.h.next+1+1<=U:=Zs m1.nxt hU3;refine wpIn_rangeFunc (F:=FF none) (n:=0) ?_;intro fn _
    --the two blocks
    obtain⟨r1,n1⟩:=gg.rel.push (b:=.dfr false) (o:=.deferred (some [])) (pre:=0) (cap:=0) Xd (jqq w _) (heap_alloc_new w _) rfl trivial rfl;have hag1:=n1.agree gg.rel.lt (U:=U) (by show st.h.next+1<=U;omega);have hdd1:=n1.dd gg.rel.lt (U:=U) (by show st.h.next+1<=U;omega);have hb1:(ρ.add st.h.next w.heap.size 0 0).b st.h.next=w.heap.size:=by simp[Env.add]
    obtain⟨W1,hW1⟩:∃W1,(w.alloc (.deferred (some []))).alloc (.loop {state:=.ready,pending:=none,fn,tmps:=a.tmps,params:=ps,assign:=asg,body:=bd,defers:=w.heap.size})=W1:=⟨_,rfl⟩
    have hsz1:(w.alloc (.deferred (some []))).heap.size=w.heap.size+1:=by simp
    have hne:st.h.next+1≠st.h.next:=by omega
    obtain⟨r2,n2⟩:=r1.push (b:=.loop .ready none st.fr ps asg bd st.h.next) (o:=.loop {state:=.ready,pending:=none,fn,tmps:=a.tmps,params:=ps,assign:=asg,body:=bd,defers:=w.heap.size}) (pre:=0) (cap:=0) (by exact hU2) (jqq _ _) (heap_alloc_new _ _) rfl
     ⟨λt v hv=>(gg.fr.in_ t v hv).mono hdd1,.inr rfl,Zi _⟩
     ⟨fn,a.tmps,by simp[Env.add,Heap.push],λt v hv=>by
      have hx:=gg.fr.at_ t v hv;have hi:=gg.fr.in_ t v hv;rw[hx];congr 1
      rw[yQq (Env.add_agree (r1.next_new (by exact hU2))) (hi.mono hdd1),yQq hag1 hi],by simp[Env.add],λp hp=>by
      have:=List.all_eq_true.1 hok.1.1 p hp;rw[gg.size];simpa using this,by rw[gg.size];exact hok.1.2,by rw[gg.size];exact hok.2⟩
    rw[hsz1] at r2 n2;rw[hW1] at r2 n2;have n12:=n1.trans gg.rel.lt (by exact hU2) n2;have hag2:=n12.agree gg.rel.lt (U:=U) (by exact hU2);have hdd2:=n12.dd gg.rel.lt (U:=U) (by exact hU2)
    refine⟨w.heap.size+1,[{target:=.collected w.heap.size,args:= #[]}],W1,{target:=.fn (.func gf) (zMq ρ cs).toArray,args:= #[.func (.yield (w.heap.size+1)) #[] #[]]},W1,gf,
     #[.func (.yield (w.heap.size+1)) #[] #[]]++(zMq ρ cs).toArray,W1,?_,?_,?_,?_,(by simp[vKq]),?_⟩
    .rw[<-hW1];exact run_enterLoop_outer _ _ _ _ _
    .simp only[resolve,hev,aaq];simp[go_sem,zMq]
    .intro f' _;exact Qtq none f'
    .simp[invoke,go_sem,hS.fnEnter _ _ _ _ _ hcall]
    .refine fvq (callsIn_wide.2 ?_)
     have hargs:(zMq ((ρ.add st.h.next w.heap.size 0 0).add (st.h.next+1) (w.heap.size+1) 0 0) ([.yield (st.h.next+1)]++cs)).toArray= #[.func (.yield (w.heap.size+1)) #[] #[]]++(zMq ρ cs).toArray:=by
      have:=qoq hag2 (l:=cs) hcin.2;simp only[List.singleton_append,zMq];have e:zMq ((ρ.add st.h.next w.heap.size 0 0).add (st.h.next+1) (w.heap.size+1) 0 0) cs=zMq ρ cs:=this;rw[e];apply Array.ext';simp[aaq,Env.add]
     have hgl:=GlobOK.next gg.fr.gl gg.rel.lt (by exact hU2) n12;have key:=hS.fn _ _ _ _ _ hcall s0 U _ _ W1 hU3 hgl ⟨⟨.inr rfl,Zi _⟩,InDL.mono hdd2 hcin.2⟩ r2;have hargs':(zMq ((ρ.add st.h.next w.heap.size 0 0).add (st.h.push (.dfr false)).next (w.heap.size+1) 0 0) ([.yield (st.h.next+1)]++cs)).toArray= #[.func (.yield (w.heap.size+1)) #[] #[]]++(zMq ρ cs).toArray:=hargs;rw[hargs'] at key;refine key.mono ?_;rintro e w3 ⟨D3,ρ3,rfl,r3,n3,_⟩;have n13:=n12.trans gg.rel.lt hU3 n3;have hlD:D3 (st.h.next+1):=n3.sub _ Jm
     have hbl:ρ3.b (st.h.next+1)=w.heap.size+1:=by
      have:=(n3.env (st.h.next+1) (.inl (by show st.h.next+1<st.h.next+1+1;omega))).1;rw[this];simp[Env.add,Heap.push]
     have hbd:ρ3.b st.h.next=w.heap.size:=by
      have:=(n3.env st.h.next (.inl (by show st.h.next<st.h.next+1+1;omega))).1;rw[this];simp[Env.add,Heap.push]
     have hdD:D3 st.h.next:=n3.sub _ (.inl Jm)
     --its end
     have fin:∀(stt:LoopState) (pe:Option Code) fr' ps' as' bd' d',stt≠ .busy->h3.get (st.h.next+1)=some (.loop stt pe fr' ps' as' bd' d') ->
       ∃w4,(Instr.endLoop (w.heap.size+1)).run P w3= .ok pe w4/\(∀stx:Exit,st'=⟨st.fr,h3.kill (st.h.next+1),st.h.next::st.ds,st.rd⟩ ->x=stx->Q stx {a with defers:=[{target:=.collected w.heap.size,args:= #[]}]++a.defers} w4):=λstt pe fr' ps' as' bd' d' hb hget=>by
      obtain⟨o,q1,q2⟩:=r3.has _ _ hlD hget;obtain⟨fn',tmps',rfl,_,_,_,_,_⟩:=q2;rw[hbl] at q1;refine⟨_,run_endLoop q1 hb,λstx hst hx=>?_⟩;subst hst;subst hx;have ht:=qkq (w:=w3) (b:=w.heap.size+1) (.loop {state:=.exhausted,pending:=pe,fn:=fn',tmps:=tmps',params:=ps',assign:=as',body:=bd',defers:=ρ3.b d'}) (Zp.1 q1).1;rw[<-hbl] at ht;obtain⟨r4,n4⟩:=r3.gone hlD hget rfl ht;rw[hbl] at r4 n4;have n14:=n13.trans gg.rel.lt (by exact hU3) n4;have g4:=gg.next (by exact hU3) n14 r4;refine k D3 ρ3 _ _ ⟨⟨g4.fr.at_,g4.fr.in_,g4.fr.gl⟩,r4,gg.size,?_,λd hd=>?_,gg.rd⟩ n14
      .simp only[ZC,List.singleton_append];rw[g4.defs];simp[mkD,hbd]
      .rcases ZF.1 hd with rfl|hd
       .exact hdD
       .exact n13.sub d (gg.din d hd)
     unfold kvq at he;split at he
     .rename_i hget;cases he;obtain⟨w4,q1,q2⟩:=fin _ _ _ _ _ _ _ Xi hget;exact⟨none,w4,q1,q2 _ Y Y⟩
     .rename_i hget;cases he;obtain⟨w4,q1,q2⟩:=fin _ _ _ _ _ _ _ Xi hget;exact⟨some .ret,w4,q1,wpIn_ret (q2 _ Y Y)⟩
     .rename_i hget;cases he;obtain⟨w4,q1,q2⟩:=fin _ _ _ _ _ _ _ Xi hget;exact⟨_,w4,q1,wpIn_exit (q2 _ Y Y)⟩
     .rename_i hget;cases he;obtain⟨w4,q1,q2⟩:=fin _ _ _ _ _ _ _ Xi hget;exact⟨_,w4,q1,wpIn_goto (q2 _ Y Y)⟩
     .cases he
   .cases he
  .cases he
end
section
variable {C:Cfg} {fr fr':Tr V}
theorem xXq:∀{l:List Operand},(∀x∈l,evV C fr x=evV C fr' x) ->evL C fr l=evL C fr' l
 |[],_=>rfl
 |x::l,h=>by simp only[evL,h x Xi,xXq (l:=l) λy hy=>h y (by simp[hy])]
theorem kZq{d:Nat}{x:Option Operand}(h:∀y,x=some y->evV C fr y=evV C fr' y):axq C fr d x=axq C fr' d x:=by
 cases x with
 |none=>rfl
 |some y=>simp only[axq,h y rfl]
theorem YMq{t:TypeId}:∀{l:List (Nat×Operand)} {v:V},(∀p∈l,evV C fr p.2=evV C fr' p.2) ->YNq C fr t v l=YNq C fr' t v l
 |[],_,_=>rfl
 |(i,x)::l,v,h=>by
  simp only[YNq,h (i,x) Xi];have ih:=λv=>YMq (t:=t) (l:=l) (v:=v) λp hp=>h p (by simp[hp])
  repeat' split
  all_goals first|rfl|exact ih _
theorem YOq{e:Nat}:∀{l:List (Nat×Operand)} {v:V},(∀p∈l,evV C fr p.2=evV C fr' p.2) ->Qqq C fr e v l=Qqq C fr' e v l
 |[],_,_=>rfl
 |(i,x)::l,v,h=>by
  simp only[Qqq,h (i,x) Xi];have ih:=λv=>YOq (e:=e) (l:=l) (v:=v) λp hp=>h p (by simp[hp])
  repeat' split
  all_goals first|rfl|exact ih _
theorem uCq{rt:TypeId}(o:Op)(h:∀x∈o.operands,evV C fr x=evV C fr' x):ygq C fr rt o=ygq C fr' rt o:=by
 cases o<;>simp only[Op.operands] at h
 case unOp op t x=>
  have h1:=h x Xi;cases op<;>simp only[ygq,y1q,zWq,zLq,zUq,zVq,zTq,ymq,zQq,zHq,yvq,yuq,zAq,zzq,ytq,ykq,zmq,yaq,jaq,q8q,q9q,h1]
 case makeFunc fn first captured=>
  have h1:=xXq (C:=C) (fr:=fr) (fr':=fr') (l:=first.toList) λx hx=>h x (by simp at hx;simp[hx])
  have h2:=xXq (C:=C) (fr:=fr) (fr':=fr') (l:=captured.toList) λx hx=>h x (by simp at hx;simp[hx])
  cases fn<;>simp only[ygq,y1q,zWq,zLq,zUq,zVq,zTq,ymq,zQq,zHq,yvq,yuq,zAq,zzq,ytq,ykq,zmq,yaq,jaq,q8q,q9q,h1,h2]
 case build t ps=>
  have h1:=λv=>YMq (C:=C) (fr:=fr) (fr':=fr') (t:=t) (l:=ps.toList) (v:=v) λp hp=>h p.2 (by simp at hp;simp;exact⟨p.1,hp⟩)
  simp only[ygq,y1q,zWq,zLq,zUq,zVq,zTq,ymq,zQq,zHq,yvq,yuq,zAq,zzq,ytq,ykq,zmq,yaq,jaq,q8q,q9q,h1]
 case slice t x lo hi mx=>
  have h1:=h x Xi;have h2:=λd=>kZq (C:=C) (fr:=fr) (fr':=fr') (d:=d) (x:=lo) λy hy=>h y (by simp[hy])
  have h3:=λd=>kZq (C:=C) (fr:=fr) (fr':=fr') (d:=d) (x:=hi) λy hy=>h y (by simp[hy])
  cases mx with
  |none=>simp only[ygq,y1q,zWq,zLq,zUq,zVq,zTq,ymq,zQq,zHq,yvq,yuq,zAq,zzq,ytq,ykq,zmq,yaq,jaq,q8q,q9q,h1,h2,h3]
  |some z=>
   have h4:=kZq (C:=C) (fr:=fr) (fr':=fr') (d:=0) (x:=some z) λy hy=>h y (by simp at hy;simp[hy])
   simp only[ygq,y1q,zWq,zLq,zUq,zVq,zTq,ymq,zQq,zHq,yvq,yuq,zAq,zzq,ytq,ykq,zmq,yaq,jaq,q8q,q9q,h1,h2,h3,h4]
 case call c=>
  obtain⟨callee,args,ats⟩:=c;obtain⟨args⟩:=args;obtain⟨ats⟩:=ats;have ha:∀x∈args,evV C fr x=evV C fr' x:=λx hx=>h x (by simp[Call.operands,hx])
  cases callee<;>try rfl
  rename_i b;cases b<;>try rfl
  all_goals
   rcases args with _|⟨x,_|⟨y,_|⟨z,l⟩⟩⟩<;>rcases ats with _|⟨t,_|⟨u,_|⟨z',ats⟩⟩⟩<;>simp only[ygq,y1q,zWq,zLq,zUq,zVq,zTq,ymq,zQq,zHq,yvq,yuq,zAq,zzq,ytq,ykq,zmq,yaq,jaq,q8q,q9q]<;>(first|rfl|(simp only[ZF,YG,or_false,forall_eq_or_imp,forall_eq] at ha;simp only[ha]))
 all_goals first|rfl|(simp only[List.mem_toArray,ZF,YG,or_false,forall_eq_or_imp,forall_eq] at h;simp only[ygq,y1q,zWq,zLq,zUq,zVq,zTq,ymq,zQq,zHq,yvq,yuq,zAq,zzq,ytq,ykq,zmq,yaq,jaq,q8q,q9q,h])
theorem g6q{H:Heap}(o:Op)(h:∀x∈o.operands,evV C fr x=evV C fr' x):opH C fr H o=opH C fr' H o:=by
 cases o<;>simp only[Op.operands] at h
 case buildSlice t n ps=>
  have h1:=λe v=>YOq (C:=C) (fr:=fr) (fr':=fr') (e:=e) (l:=ps.toList) (v:=v) λp hp=>h p.2 (by simp at hp;simp;exact⟨p.1,hp⟩)
  simp only[opH,zxq,ylq,z4q,z5q,qgq,zjq,zpq,zKq,yqq,zXq,h1]
 case slice t x lo hi mx=>
  have h1:=h x Xi;have h2:=λd=>kZq (C:=C) (fr:=fr) (fr':=fr') (d:=d) (x:=lo) λy hy=>h y (by simp[hy])
  have h3:=λd=>kZq (C:=C) (fr:=fr) (fr':=fr') (d:=d) (x:=hi) λy hy=>h y (by simp[hy])
  simp only[opH,zxq,ylq,z4q,z5q,qgq,zjq,zpq,zKq,yqq,zXq,h1,h2,h3]
 case call c=>
  obtain⟨callee,args,ats⟩:=c;obtain⟨args⟩:=args;obtain⟨ats⟩:=ats;have ha:∀x∈args,evV C fr x=evV C fr' x:=λx hx=>h x (by simp[Call.operands,hx])
  cases callee<;>try rfl
  rename_i b;cases b<;>try rfl
  all_goals
   rcases args with _|⟨x,_|⟨y,_|⟨z,l⟩⟩⟩<;>rcases ats with _|⟨t,_|⟨u,_|⟨z',ats⟩⟩⟩<;>simp only[opH,zxq,ylq,z4q,z5q,qgq,zjq,zpq,zKq,yqq,zXq]<;>(first|rfl|(simp only[ZF,YG,or_false,forall_eq_or_imp,forall_eq] at ha;simp only[ha]))
 all_goals first|rfl|(simp only[List.mem_toArray,ZF,YG,or_false,forall_eq_or_imp,forall_eq] at h;simp only[opH,zxq,ylq,z4q,z5q,qgq,zjq,zpq,zKq,yqq,zXq,h])
theorem dlq{S:Self}{H:Heap}(o:Op)(h:∀x∈o.operands,evV C fr x=evV C fr' x):jfq S C fr H o=jfq S C fr' H o:=by
 cases o<;>try rfl
 rename_i c;obtain⟨callee,args,ats⟩:=c;cases callee with
 |builtin b=>rfl
 |value x=>
  have hx:=h x (by simp[Op.operands,Call.operands]);have ha:=xXq (C:=C) (fr:=fr) (fr':=fr') (l:=args.toList) λy hy=>h y (by simp at hy;simp[Op.operands,Call.operands,hy])
  simp only[jfq,hx,ha]
 |invoke x m=>
  have hx:=h x (by simp[Op.operands,Call.operands]);have ha:=xXq (C:=C) (fr:=fr) (fr':=fr') (l:=args.toList) λy hy=>h y (by simp at hy;simp[Op.operands,Call.operands,hy])
  simp only[jfq,hx,ha]
theorem vhq{S:Self}{H:Heap}(o:Oper)(h:∀x∈o.op.operands,evV C fr x=evV C fr' x):opV S C fr H o=opV S C fr' H o:=by
 unfold opV;rw[uCq o.op h,g6q o.op h,dlq o.op h]
theorem Tr.cut{α:Type}(t:Tr α)(L:List Nat):∃u:Tr α,∀k,u.get k=if k∈L then t.get k else none:=by
 induction L with
 |nil=>exact⟨.nil,λk=>by simp[Tr.get_nil]⟩
 |cons x L ih=>
  obtain⟨u,hu⟩:=ih;refine⟨u.set x (t.get x),λk=>?_⟩;rw[Tr.get_set,hu];by_cases e:k=x
  .subst e;simp
  .simp[e]
theorem Tr.of{α:Type}(g:Nat->Option α)(n:Nat):∃t:Tr α,∀k,t.get k=if k<n then g k else none:=by
 induction n with
 |zero=>exact⟨.nil,λk=>by simp[Tr.get_nil]⟩
 |succ n ih=>
  obtain⟨u,hu⟩:=ih;refine⟨u.set n (g n),λk=>?_⟩;rw[Tr.get_set,hu];by_cases e:k=n
  .subst e;simp
  .rw[Zg e];by_cases h:k<n
   .rw[Zt h,Zt Xd]
   .rw[Zg h,Zg Xd]
theorem wJq{ops:Array Oper}{o:Oper}(h:∀t∈o.looksAt ops,fr'.get t=fr.get t):∀x∈o.op.operands,evV C fr x=evV C fr' x:=λx hx=>by
 cases x with
 |tmp t=>
  have:t∈o.looksAt ops:=List.mem_append_left _ (List.mem_filterMap.2 ⟨.tmp t,by simpa using hx,rfl⟩);simp only[evV,h t this]
 |_=>rfl
theorem euq{ops:Array Oper}{o:Oper}(h:∀t∈o.looksAt ops,fr'.get t=fr.get t):Z2q ops fr o=Z2q ops fr' o:=by
 unfold Z2q;split
 .rfl
 .rename_i j b hg;split
  .rfl
  .rename_i t ht;rw[h t (List.mem_append_right _ (by simp[hg,ht]))]
end
noncomputable def StepAt(S:Self)(C:Cfg)(ops:Array Oper)(o:Oper)(fr:Tr V)(h:Heap)(v:V)(h':Heap)(x:Option Ev):Prop:=
 (Z2q ops fr o=some false/\v= .undef/\h'=h/\x=none)\/(Z2q ops fr o=some true/\Qmq S C fr h o=some (v,h',x))
structure Trace(S:Self)(C:Cfg)(ops:Array Oper)(l:List Oper)(i:Nat)(es:List (Nat×Ev))(fr:Tr V)(h:Heap)(fr':Tr V)(h':Heap)(frs:Nat->Tr V)(hs:Nat->Heap)(vs:Nat->V)(xs:Nat->Option Ev):Prop where
 f0:frs 0=fr
 h0:hs 0=h
 fn:frs l.length=fr'
 hn:hs l.length=h'
 st:∀j o,l[j]? =some o->StepAt S C ops o (frs j) (hs j) (vs j) (hs (j+1)) (xs j)/\frs (j+1)=aBq (frs j) o.dst (vs j)
 cl:∀j o x,l[j]? =some o->xs j=some x->(∀k y,(k,y)∈es->y.clash x=true->xyq ops ops.size (i+j) k=true)/\∀k y,k<j->xs k=some y->y.clash x=true->xyq ops ops.size (i+j) (i+k)=true
noncomputable def con{α:Type}(x:α)(f:Nat->α):Nat->α
 |0=>x
 |j+1=>f j
theorem QYq{ops:Array Oper}{j:Nat}{x:Ev}:∀{es:List (Nat×Ev)},c6q ops j x es=true->∀k y,(k,y)∈es->y.clash x=true->xyq ops ops.size j k=true
 |[],_,_,_,h,_=>by simp at h
 |(k',y')::es,he,k,y,h,hc=>by
  simp only[c6q,Zb] at he;rcases ZF.1 h with e|h
  .cases e;have:=he.1;rw[hc] at this;exact this
  .exact QYq he.2 k y h hc
theorem QSq{S:Self}{C:Cfg}{ops:Array Oper}:∀(l:List Oper) (i:Nat) (es:List (Nat×Ev)) (fr:Tr V) (h:Heap) (fr':Tr V) (h':Heap),yNq S C ops l i es fr h=some (fr',h') ->
  ∃frs hs vs xs,Trace S C ops l i es fr h fr' h' frs hs vs xs
 |[],i,es,fr,h,fr',h',he=>by
  simp only[yNq,Zk,ZQ] at he;obtain⟨rfl,rfl⟩:=he;exact⟨λ_=>fr,λ_=>h,λ_=>.undef,λ_=>none,rfl,rfl,rfl,rfl,by simp,by simp⟩
 | o ::l,i,es,fr,h,fr',h',he=>by
  have key:∀(v:V) (h1:Heap) (x:Option Ev) (es':List (Nat×Ev)),StepAt S C ops o fr h v h1 x->(∀y,x=some y->c6q ops i y es=true) ->(∀p∈es,p∈es') ->(∀y,x=some y->(i,y)∈es') ->
    yNq S C ops l (i+1) es' (aBq fr o.dst v) h1=some (fr',h') ->∃frs hs vs xs,Trace S C ops (o::l) i es fr h fr' h' frs hs vs xs:=λv h1 x es' hst hev hsub hin he=>by
   obtain⟨frs,hs,vs,xs,t⟩:=QSq l _ _ _ _ _ _ he;refine⟨con fr frs,con h hs,con v vs,con x xs,rfl,rfl,t.fn,t.hn,λj o' hj=>?_,λj o' y hj hy=>?_⟩
   .cases j with
    |zero=>
     simp at hj;subst hj
     refine⟨?_,?_⟩
     .show StepAt S C ops o fr h v (hs 0) x;rw[t.h0];exact hst
     .exact t.f0
    |succ j=>exact t.st j o' (by simpa using hj)
   .cases j with
    |zero=>exact⟨λk z hk hc=>QYq (hev y hy) k z hk hc,λk z hk=>by omega⟩
    |succ j=>
     obtain⟨q1,q2⟩:=t.cl j o' y (by simpa using hj) hy;have e1:i+1+j=i+(j+1):=by omega
     rw[e1] at q1 q2;refine⟨λk z hk hc=>q1 k z (hsub _ hk) hc,λk z hk hz hc=>?_⟩;cases k with
     |zero=>exact q1 i z (hin z hz) hc
     |succ k=>
      have:=q2 k z Xd hz hc;rwa[show i+1+k=i+(k+1) by omega] at this
  simp only[yNq] at he;split at he
  .rename_i hw;split at he
   .rename_i v h1 x hst;split at he
    .rename_i hev;exact key v h1 (some x) _ (.inr ⟨hw,hst⟩) (λy hy=>by cases hy;exact hev) (λp hp=>by simp[hp]) (λy hy=>by cases hy;simp) he
    .cases he
   .rename_i v h1 hst;exact key v h1 none _ (.inr ⟨hw,hst⟩) (λy hy=>by cases hy) (λp hp=>hp) (λy hy=>by cases hy) he
   .cases he
  .rename_i hw;exact key .undef h none _ (.inl ⟨hw,rfl,rfl,rfl⟩) (λy hy=>by cases hy) (λp hp=>hp) (λy hy=>by cases hy) he
  .cases he
theorem JLq(a b:Nat):d3q a b<=a/\d3q a b<=b:=k3q a b
section
variable {P:Program} {C:Cfg} {S:Self} {ops:Array Oper} {o:Oper} {fr:Tr V} {h h' h1:Heap} {v:V} {x:Option Ev}
theorem qCq(hs:Qmq S C fr h o=some (v,h',x)):(ygq C fr o.type o.op=some v/\h'=h/\x=none)\/
  (∃h1,ygq C fr o.type o.op=none/\opV S C fr {h with wmin:=h.next} o=some (v,h1)/\h'={h1 with wmin:=d3q h.wmin h1.wmin}/\x=some (asq C fr h h1 o.op)):=by
 unfold Qmq at hs;split at hs
 .rename_i u hu;simp only[Zk,ZQ] at hs;obtain⟨rfl,rfl,rfl⟩:=hs;exact .inl ⟨hu,rfl,rfl⟩
 .rename_i hu;split at hs
  .rename_i u h1 ho;simp only[Zk,ZQ] at hs;obtain⟨rfl,rfl,rfl⟩:=hs;exact .inr ⟨h1,hu,ho,rfl,rfl⟩
  .cases hs
noncomputable def QBq(C:Cfg)(fr:Tr V)(t:TypeId)(lo hi mx:Option Operand)(b off:Nat)(bv:Option V):Option V:=match C.ty t with
 |some j=>match j.d with
  |.arr n e=>match C.ty e,axq C fr 0 lo,axq C fr n hi,mx,bv with
   |some k,some l,some r,none,some bv=>match Nat.beq k.size 0||!Nat.ble l r||!Nat.ble r n||!Nat.ble (off+n*k.size) bv.size with
    |true=>none
    |false=>some (.sl b off (off+l*k.size) (r-l) k.size (some (n-l)))
   |_,_,_,_,_=>none
  |_=>none
 |none=>none
theorem cxq{C:Cfg}{fr:Tr V}{t:TypeId}{lo hi mx:Option Operand}{b off:Nat}:QBq C fr t lo hi mx b off none=none:=by
 unfold QBq;cases C.ty t with
 |none=>rfl
 |some j=>
  cases hj:j.d<;>simp only[hj]
  rename_i n e;cases C.ty e<;>cases axq C fr 0 lo<;>cases axq C fr n hi<;>cases mx<;>rfl
theorem gfq{C:Cfg}{fr:Tr V}{t:TypeId}{x:Operand}{lo hi mx:Option Operand}{b off:Nat}(hb:evV C fr x=some (.ptr b off))(H:Heap):zXq C fr H t x lo hi mx=match QBq C fr t lo hi mx b off (H.val b) with
  |some u=>some (u,H)
  |none=>none:=by
 unfold zXq QBq;rw[hb];cases C.ty t with
 |none=>rfl
 |some j=>
  cases hj:j.d<;>simp only[hj]
  rename_i n e;cases C.ty e with
  |none=>cases axq C fr 0 lo<;>cases axq C fr n hi<;>cases mx<;>cases H.val b<;>rfl
  |some k=>
   cases axq C fr 0 lo with
   |none=>cases axq C fr n hi<;>cases mx<;>cases H.val b<;>rfl
   |some l=>
    cases axq C fr n hi with
    |none=>cases mx<;>cases H.val b<;>rfl
    |some r=>
     cases mx with
     |some _=>cases H.val b<;>rfl
     |none=>
      cases H.val b with
      |none=>rfl
      |some bv=>
       simp only;cases Nat.beq k.size 0||!Nat.ble l r||!Nat.ble r n||!Nat.ble (off+n*k.size) bv.size<;>rfl
theorem c7q{b:Nat}{H1:Heap}(hp:ygq C fr o.type o.op=none)(ho:opV S C fr h o=some (v,h1))(he:asq C fr H1 h1 o.op= .load b):
  (h1=h/\∀H2:Heap,H2.get b=h.get b->opV S C fr H2 o=some (v,H2))/\(∃B,h.get b=some B)/\∃x off,x∈o.op.operands/\evV C fr x=some (.ptr b off):=by
 unfold opV at ho⊢;simp only[hp] at ho⊢;unfold asq at he;split at he
 .rename_i t x hop;split at he
  .rename_i b' off hb;cases he;rw[hop] at ho;simp only[hop];simp only[opH,zxq,ylq,z4q,z5q,qgq,zjq,zpq,zKq,yqq,zXq,hb] at ho⊢;cases ht:C.ty t with
   |none=>simp[ht,jfq] at ho
   |some i=>
    simp only[ht] at ho⊢;cases hv:h.val b with
    |none=>simp[hv,jfq] at ho
    |some u=>
     simp only[hv] at ho;cases hg:jHq 50 u off i.size i.agg with
     |none=>simp[hg,jfq] at ho
     |some r=>
      simp only[hg,Zk,ZQ] at ho;obtain⟨rfl,rfl⟩:=ho;refine⟨⟨rfl,λH2 h2=>?_⟩,?_,_,off,by simp[Op.operands],hb⟩
      .have:H2.val b=some u:=by unfold Heap.val at hv⊢;rw[h2];exact hv
       simp only[this,hg]
      .unfold Heap.val at hv;cases hgb:h.get b with
       |none=>rw[hgb] at hv;cases hv
       |some B=>exact⟨B,rfl⟩
  .cases he
 .split at he<;>cases he
 .repeat' (split at he)<;>first|(cases he;done)|skip
 .cases he
 .rename_i t x lo hi mx hop;split at he
  .rename_i b' off hb;cases he;rw[hop] at ho;simp only[hop];have hx:x∈(Op.slice t x lo hi mx).operands:=by simp[Op.operands]
   have e1:∀H:Heap,opH C fr H (.slice t x lo hi mx)=match QBq C fr t lo hi mx b off (H.val b) with
     |some u=>some (u,H)
     |none=>none:=λH=>gfq hb H
   have e2:∀H:Heap,jfq S C fr H (.slice t x lo hi mx)=none:=λ_=>rfl
   rw[e1,e2] at ho;cases hu:QBq C fr t lo hi mx b off (h.val b) with
   |none=>rw[hu] at ho;cases ho
   |some u=>
    rw[hu] at ho;cases ho;refine⟨⟨rfl,λH2 h2=>?_⟩,?_,x,off,hx,hb⟩
    .have h3:H2.val b=h.val b:=by simp only[Heap.val,h2]
     rw[e1,h3,hu]
    .cases hv:h.get b with
     |none=>
      have:h.val b=none:=by simp only[Heap.val,hv]
      rw[this] at hu;rw[cxq] at hu;cases hu
     |some B=>exact⟨B,rfl⟩
  .split at he<;>cases he
 .split at he
  .cases he
  .split at he<;>cases he
 .split at he<;>cases he
theorem J7q{b:Nat}{H1:Heap}(hp:ygq C fr o.type o.op=none)(ho:opV S C fr h o=some (v,h1))(he:asq C fr H1 h1 o.op= .store b):
  (∃B B',h.get b=some B/\h1=h.put b B'/\∀H2:Heap,H2.get b=h.get b->opV S C fr H2 o=some (v,H2.put b B'))/\∃x off,x∈o.op.operands/\evV C fr x=some (.ptr b off):=by
 unfold opV at ho⊢;simp only[hp] at ho⊢;unfold asq at he;split at he
 .split at he<;>cases he
 .rename_i t x y hop;split at he
  .rename_i b' off hb;cases he;rw[hop] at ho;simp only[hop];simp only[opH,zxq,ylq,z4q,z5q,qgq,zjq,zpq,zKq,yqq,zXq,hb] at ho⊢;cases hy:evV C fr y with
   |none=>simp[hy,jfq] at ho
   |some u=>
    simp only[hy] at ho⊢;cases ht:C.ty t with
    |none=>simp[ht,jfq] at ho
    |some i=>
     simp only[ht] at ho⊢;cases hg:h.get b with
     |none=>simp[hg,jfq] at ho
     |some B=>
      simp only[hg] at ho⊢;cases B with
      |cells ty u'=>
       cases hz:Nat.beq u.size i.size with
       |false=>simp[hz,jfq] at ho
       |true=>
        simp only[hz] at ho⊢;cases hq:xDq 50 u' off u with
        |none=>simp[hq,jfq] at ho
        |some v'=>
         simp only[hq,Zk,ZQ] at ho;obtain⟨rfl,rfl⟩:=ho;exact⟨⟨_,_,rfl,rfl,λH2 h2=>by simp only[h2,hq]⟩,_,off,by simp[Op.operands],hb⟩
      |_=>simp[jfq] at ho
  .cases he
 .repeat' (split at he)<;>first|(cases he;done)|skip
 .cases he
 .split at he
  .cases he
  .split at he<;>cases he
 .split at he
  .cases he
  .split at he<;>cases he
 .split at he<;>cases he
theorem ouq{H1:Heap}(he:asq C fr H1 h1 o.op= .gen):H1.next<=h1.wmin:=by
 unfold asq at he;split at he
 .split at he<;>cases he
 .split at he<;>cases he
 .split at he
  .rename_i hb;exact Yb hb
  .repeat' (split at he)<;>first|(cases he;done)|skip
 .cases he
 .split at he
  .cases he
  .split at he
   .rename_i hb;exact Yb hb
   .cases he
 .split at he
  .rename_i hb;exact Yb hb
  .split at he<;>cases he
 .split at he
  .rename_i hb;exact Yb hb
  .cases he
theorem rFq{b:Nat}{H1:Heap}(hp:ygq C fr o.type o.op=none)(ho:opV S C fr h o=some (v,h1))(he:asq C fr H1 h1 o.op= .mk b):b=H1.next/\∃B n k,v= .sl h.next 0 0 n k none/\h1=h.push B/\∀H2:Heap,H2.next=h.next->opV S C fr H2 o=some (v,H2.push B):=by
 unfold opV at ho⊢;simp only[hp] at ho⊢;unfold asq at he;split at he
 .split at he<;>cases he
 .split at he<;>cases he
 .repeat' (split at he)<;>first|(cases he;done)|skip
 .rename_i t n ps hop;cases he;refine⟨rfl,?_⟩;rw[hop] at ho⊢;simp only[opH,jfq] at ho⊢;split at ho
  .rename_i r hr;cases ho;unfold zjq at hr⊢;split at hr
   .rename_i i hi;split at hr
    .rename_i e hd;split at hr
     .rename_i k hk;split at hr
      .cases hr
      .rename_i hz;split at hr
       .rename_i u hu;cases hr;exact⟨_,_,_,rfl,rfl,λH2 h2=>by simp only[hi,hd,hk,hz,hu,h2]⟩
       .cases hr
     .cases hr
    .cases hr
   .cases hr
  .cases ho
 .split at he
  .cases he
  .split at he<;>cases he
 .split at he
  .cases he
  .split at he<;>cases he
 .split at he<;>cases he
theorem nAq{ts tx:TypeId}{b base off len esz:Nat}{lim:Option Nat}{x v:V}{h h1:Heap}(ha:kkq C h ts tx (.sl b base off len esz lim) x=some (v,h1)){i:Nat}(hi:i≠b)(hlt:i<h.next):h1.get i=h.get i:=by
 have hpush:∀B,(h.push B).get i=h.get i:=λB=>by rw[Heap.get_push,Zg Xd]
 unfold kkq at ha;repeat' (split at ha)
 all_goals first|(cases ha;done)|skip
 all_goals first
  |(cases ha;rfl)
  |(cases ha;exact hpush _)
  |(cases ha;rw[Heap.get_put,Zg];exact λe=>hi (by simp_all))
  |(cases ha;rw[Heap.get_kill,Zg];exact hpush _;exact λe=>hi (by simp_all))
  |simp_all
theorem otq(hS:SelfOK P C S){b:Nat}{H1:Heap}(hp:ygq C fr o.type o.op=none)(ho:opV S C fr {H1 with wmin:=H1.next} o=some (v,h1))(he:asq C fr H1 h1 o.op= .upd b){i:Nat}(hi:i≠b)(hlt:i<H1.next):h1.get i=H1.get i:=by
 have hm:=vgq hS ho;unfold opV at ho;simp only[hp] at ho;unfold asq at he;split at he
 .split at he<;>cases he
 .split at he<;>cases he
 .rename_i xs ats hop;rw[hop] at ho;split at he
  .cases he
  .split at he
   .rename_i x y hxs;split at he
    .rename_i b' base off len esz lim hb;cases he;simp only[opH,zKq] at ho;split at ho
     .rename_i r hr;cases ho;split at hr
      .rename_i x' y' ts tx h1' h2';rw[hxs] at h1';cases h1';split at hr
       .rename_i s u hs hu;rw[hb] at hs;cases hs;exact nAq hr hi hlt
       .cases hr
      .cases hr
     .simp[jfq,hxs,hb] at ho;repeat' (split at ho)
      all_goals simp_all
    .cases he
   .cases he
 .cases he
 .split at he
  .cases he
  .split at he<;>cases he
 .split at he
  .cases he
  .split at he
   .rename_i hone;cases he;rcases ZM i h1.wmin with h3|h3
    .exact hm.keep i hlt h3
    .exact mcq hone Xd hlt
   .cases he
 .split at he<;>cases he
theorem bwq{n:Nat}(m1:Mono {h with wmin:=h.next} h1)(hn:n<=h.wmin)(hm:n<=h1.wmin):Mono h {h1 with wmin:=n}:=
 ⟨m1.nxt,λhw=>m1.wf hw,hn,λi hi hj=>m1.keep i hi (Zw hj hm)⟩
theorem StepAt.mono(hS:SelfOK P C S)(st:StepAt S C ops o fr h v h' x):Mono h h':=by
 rcases st with ⟨_,_,rfl,_⟩|⟨_,st⟩
 .exact Mono.refl _
 .rcases qCq st with ⟨_,rfl,_⟩|⟨h1,_,ho,rfl,_⟩
  .exact Mono.refl _
  .have:=JLq h.wmin h1.wmin;exact bwq (vgq hS ho) this.1 this.2
noncomputable def Tch(x:Option Ev)(n n' i:Nat):Prop:=(n<=i/\i<n')\/x=some (.store i)\/((x=some .dirty\/x=some (.upd i))/\i<n)
theorem StepAt.load{b:Nat}(st:StepAt S C ops o fr h v h' (some (.load b))):h'.next=h.next:=by
 rcases st with ⟨_,_,_,hx⟩|⟨_,st⟩
 .cases hx
 .rcases qCq st with ⟨_,_,hx⟩|⟨h1,hp,ho,rfl,hx⟩
  .cases hx
  .obtain⟨⟨e,_⟩,_⟩:=c7q hp ho Jh;rw[e]
theorem StepAt.store{b:Nat}(st:StepAt S C ops o fr h v h' (some (.store b))):h'.next=h.next/\∃B,h.get b=some B:=by
 rcases st with ⟨_,_,_,hx⟩|⟨_,st⟩
 .cases hx
 .rcases qCq st with ⟨_,_,hx⟩|⟨h1,hp,ho,rfl,hx⟩
  .cases hx
  .obtain⟨⟨B,B',e1,e2,_⟩,_⟩:=J7q hp ho Jh;exact⟨by rw[e2];rfl,B,e1⟩
theorem StepAt.mk{b:Nat}(st:StepAt S C ops o fr h v h' (some (.mk b))):b=h.next/\h'.next=h.next+1:=by
 rcases st with ⟨_,_,_,hx⟩|⟨_,st⟩
 .cases hx
 .rcases qCq st with ⟨_,_,hx⟩|⟨h1,hp,ho,rfl,hx⟩
  .cases hx
  .obtain⟨e1,B,n,k,_,e2,_⟩:=rFq hp ho Jh;exact⟨e1,by rw[e2];rfl⟩
theorem StepAt.still(st:StepAt S C ops o fr h v h' none):h'=h:=by
 rcases st with ⟨_,_,hx,_⟩|⟨_,st⟩
 .exact hx
 .rcases qCq st with ⟨_,hx,_⟩|⟨h1,_,_,_,hx⟩
  .exact hx
  .cases hx
theorem StepAt.keep(hS:SelfOK P C S)(st:StepAt S C ops o fr h v h' x)(hwf:∀i,h.next<=i->h.get i=none){i:Nat}(hi:¬Tch x h.next h'.next i):h'.get i=h.get i:=by
 have hm:=st.mono hS;by_cases hge:h'.next<=i
 .rw[hm.wf hwf i hge,hwf i (Zs hm.nxt hge)]
 .have hlt:i<h.next:=by
   rcases ZM i h.next with h2|h2
   .exact h2
   .exact absurd (.inl ⟨h2,by omega⟩) hi
  rcases st with ⟨_,_,rfl,_⟩|⟨_,st⟩
  .rfl
  .rcases qCq st with ⟨_,rfl,_⟩|⟨h1,hp,ho,rfl,hx⟩
   .rfl
   .cases he:asq C fr h h1 o.op with
    |load b=>obtain⟨⟨e,_⟩,_⟩:=c7q hp ho he;rw[e];rfl
    |store b=>
     obtain⟨⟨B,B',_,e,_⟩,_⟩:=J7q hp ho he;rw[e];show(Heap.put {h with wmin:=h.next} b B').get i=h.get i;rw[Heap.get_put,Zg]
     .rfl
     .rintro rfl;exact hi (.inr (.inl (by rw[hx,he])))
    |gen=>exact(vgq hS ho).keep i hlt (Zw hlt (ouq he))
    |mk b=>
     obtain⟨_,B,n,k,_,rfl,_⟩:=rFq hp ho he;show(Heap.push {h with wmin:=h.next} B).get i=_;rw[Heap.get_push,Zg (by show i≠h.next;omega)];rfl
    |dirty=>exact absurd (.inr (.inr ⟨.inl (by rw[hx,he]),hlt⟩)) hi
    |upd b=>
     by_cases hib:i=b
     .exact absurd (.inr (.inr ⟨.inr (by rw[hx,he,hib]),hlt⟩)) hi
     .exact otq hS hp ho he hib hlt
theorem jGq{listed:Array Bool}(hcl:∀(k:Nat) (o:Oper) (e:Edge),ops[k]? =some o->listed[k]? =some true->e∈o.after->Region.binds .any e=true->listed[e.on]? =some true):
  ∀(f j k:Nat),xyq ops f j k=true->(∀o e,ops[j]? =some o->e∈o.after->Region.binds .any e=true->listed[e.on]? =some true) ->listed[k]? =some true
 |0,_,_,h,_=>by simp[xyq] at h
 |f+1,j,k,h,hj=>by
  simp only[xyq] at h;split at h
  .cases h
  .rename_i o ho;simp only[Array.any_eq_true',Zb,Y2] at h;obtain⟨e,he,hb,h⟩:=h;have hl:=hj o e ho he hb;rcases h with h|h
   .rw[<-Zh h];exact hl
   .exact jGq hcl f e.on k h λo' e' ho' he' hb'=>hcl e.on o' e' ho' hl he' hb'
end
theorem Nxt.ext{D0 D D':Nat->Prop}{ρ0 ρ ρ':Env}{h0 hn hj h1:Heap}{w0 w w':World}{U:Nat}(hl0:∀i,D0 i->i<h0.next\/U<=i)(a:Nxt D0 ρ0 h0 w0 D ρ hn w)(b:Nxt D ρ hj w D' ρ' h1 w')(hU:hn.next<=U)(h0j:h0.next<=hj.next)(h1n:h1.next<=hn.next)
  (hw:hn.wmin<=h1.wmin) (hD:∀i,D i->¬(hj.next<=i/\i<h1.next)):Nxt D0 ρ0 h0 w0 D' ρ' hn w':=by
 have hb:=b.nxt;have env:∀i,D i->ρ'.b i=ρ.b i:=λi hi=>(b.env i (by have:=hD i hi;omega)).1
 have old:∀j,D j->h1.wmin<=j->j<hj.next->w0.heap.size<=ρ.b j\/∃k,D0 k/\hn.wmin<=k/\k<h0.next/\ρ0.b k=ρ.b j:=λj hj hwj hlt=>by
  rcases a.new j hj with h|⟨h,h'⟩
  .rcases hl0 j h with h3|h3
   .exact .inr ⟨j,h,Zs hw hwj,h3,(a.env j (.inl h3)).1.symm⟩
   .omega
  .exact a.fresh j hj h h'
 refine⟨λi hi=>b.sub i (a.sub i hi),λi hi=>?_,λi hi=>?_,λc hc hno=>?_,λi hi hn' hlt=>?_,Zs a.size b.size,a.wmin,a.nxt,b.os.trans a.os,b.tape.trans a.tape,b.output.trans a.output⟩
 .rcases b.new i hi with h|⟨h,h'⟩
  .exact a.new i h
  .exact .inr ⟨by omega,by omega⟩
 .obtain⟨g1,g2,g3,g4⟩:=a.env i hi;obtain⟨k1,k2,k3,k4⟩:=b.env i Xd;exact⟨k1.trans g1,k2.trans g2,k3.trans g3,k4.trans g4⟩
 .rw[b.frame c (Zw hc a.size) λi hi hwi hlt e=>?_]
  .exact a.frame c hc hno
  .rcases old i hi hwi hlt with h|⟨k,k1,k2,k3,k4⟩
   .omega
   .exact hno k k1 k2 k3 (k4.trans e)
 .rcases b.new i hi with h|⟨h,h'⟩
  .rw[env i h];exact a.fresh i h hn' hlt
  .rcases b.fresh i hi h h' with h2|⟨j,j1,j2,j3,j4⟩
   .exact .inl (Zs a.size h2)
   .rw[<-j4];exact old j j1 j2 j3
theorem Rel.on{s0:World}{U U':Nat}{D:Nat->Prop}{ρ:Env}{h h':Heap}{w:World}(r:Rel s0 U D ρ h w)(hl:∀i,D i->i<h'.next\/U'<=i)(hwf:∀i,h'.next<=i->h'.get i=none)(hg:∀i b,D i->h'.get i=some b->h.get i=some b):Rel s0 U' D ρ h' w:=
 ⟨hl,hwf,λi b hi hb=>r.has i b hi (hg i b hi hb),λi b hi hb=>r.clo i b hi (hg i b hi hb),λi j b c hi hj hb hc=>r.inj i j b c hi hj (hg i b hi hb) (hg j c hj hc),λi b hi hb=>r.own i b hi (hg i b hi hb),λi j b c hi hj hb hc=>r.old i j b c hi hj (hg i b hi hb) (hg j c hj hc),r.base⟩
structure FCtx(P:Program)(C:Cfg)(S:Self)(U N:Nat)(ops:Array Oper)(frs:Nat->Tr V)(hs:Nat->Heap)(vs:Nat->V)(xs:Nat->Option Ev):Prop where
 hC:CfgOK P C
 hS:SelfOK P C S
 hB:fkq N ops.toList ops.size=true
 st:∀(j:Nat) (o:Oper),ops[j]? =some o->StepAt S C ops o (frs j) (hs j) (vs j) (hs (j+1)) (xs j)/\frs (j+1)=aBq (frs j) o.dst (vs j)
 cl:∀(j k:Nat) (x y:Ev),j<ops.size->k<j->xs j=some x->xs k=some y->y.clash x=true->xyq ops ops.size j k=true
 wf0:∀i,(hs 0).next<=i->(hs 0).get i=none
 hU:(hs ops.size).next<=U
structure FInv(C:Cfg)(s0:World)(U N:Nat)(X:List Deferred)(ops:Array Oper)(frs:Nat->Tr V)(hs:Nat->Heap)(vs:Nat->V)(xs:Nat->Option Ev)(D0:Nat->Prop)(ρ0:Env)(w0:World)(listed:Array Bool)(a:Act)(w:World)(D:Nat->Prop)(ρ:Env)(H:Heap):Prop where
 size:listed.size=ops.size
 asz:a.tmps.size=N
 adf:a.defers=X
 closed:∀(k:Nat) (o:Oper) (e:Edge),ops[k]? =some o->listed[k]? =some true->e∈o.after->Region.binds .any e=true->listed[e.on]? =some true
 next:H.next=(hs ops.size).next
 wmin:H.wmin=(hs ops.size).wmin
 char:∀i,D i->D0 i\/∃k:Nat,listed[k]? =some true/\(hs k).next<=i/\i<(hs (k+1)).next
 lt0:∀i,D0 i->i<(hs 0).next\/U<=i
 cont:∀i,D i->∀p,p<=ops.size->(∀k,k<p->Tch (xs k) (hs k).next (hs (k+1)).next i->listed[k]? =some true) ->(∀k,p<=k->k<ops.size->Tch (xs k) (hs k).next (hs (k+1)).next i->listed[k]? =some false) ->H.get i=(hs p).get i
 rel:Rel s0 U D ρ H w
 nxt:Nxt D0 ρ0 (hs 0) w0 D ρ (hs ops.size) w
 got:∀(k:Nat) (o:Oper) (t:Nat),ops[k]? =some o->listed[k]? =some true->o.dst=some t->a.tmps[t]? =some (aaq ρ (vs k))/\InD (DD D ρ) (vs k)
 base:∀t v,(∀(k:Nat) (o:Oper),ops[k]? =some o->o.dst=some t->listed[k]? =some false) ->(frs 0).get t=some v->a.tmps[t]? =some (aaq ρ v)/\InD (DD D ρ) v
 gl:GlobOK C (DD D ρ) ρ
section
variable {P:Program} {C:Cfg} {S:Self} {s0:World} {U N:Nat} {X:List Deferred} {ops:Array Oper} {frs:Nat->Tr V} {hs:Nat->Heap} {vs:Nat->V} {xs:Nat->Option Ev} {D0:Nat->Prop} {ρ0:Env} {w0:World} {listed:Array Bool} {a:Act} {w:World} {D:Nat->Prop} {ρ:Env} {H:Heap}
theorem FCtx.at_{j:Nat}(_:FCtx P C S U N ops frs hs vs xs)(hj:j<ops.size):∃o,ops[j]? =some o:=⟨_,ZG hj⟩
theorem FCtx.mono(c:FCtx P C S U N ops frs hs vs xs){j:Nat}:∀(d:Nat),j+d<=ops.size->Mono (hs j) (hs (j+d))
 |0,_=>Mono.refl _
 |d+1,h=>by
  obtain⟨o,ho⟩:=c.at_ (show j+d<ops.size by omega);exact(c.mono d Xd).trans ((c.st _ o ho).1.mono c.hS)
theorem FCtx.monoLe(c:FCtx P C S U N ops frs hs vs xs){j k:Nat}(h1:j<=k)(h2:k<=ops.size):Mono (hs j) (hs k):=by
 have:=c.mono (j:=j) (k-j) Xd;rwa[show j+(k-j)=k by omega] at this
theorem FCtx.wf(c:FCtx P C S U N ops frs hs vs xs){j:Nat}(h:j<=ops.size):∀i,(hs j).next<=i->(hs j).get i=none:=(c.monoLe (Zi j) h).wf c.wf0
theorem FCtx.keep(c:FCtx P C S U N ops frs hs vs xs){j i:Nat}:∀(d:Nat),j+d<=ops.size->(∀k,j<=k->k<j+d->¬Tch (xs k) (hs k).next (hs (k+1)).next i) ->(hs (j+d)).get i=(hs j).get i
 |0,_,_=>rfl
 |d+1,h,hn=>by
  obtain⟨o,ho⟩:=c.at_ (show j+d<ops.size by omega);exact((c.st _ o ho).1.keep c.hS (c.wf Xd) (hn (j+d) Xd Xd)).trans (c.keep d Xd λk h1 h2=>hn k h1 Xd)
theorem FCtx.tch_ev(c:FCtx P C S U N ops frs hs vs xs){k i:Nat}(hk:k<ops.size)(ht:Tch (xs k) (hs k).next (hs (k+1)).next i):
  i<(hs (k+1)).next/\∃x,xs k=some x/\(∀b,x≠ .load b)/\((i<(hs k).next/\(x= .store i\/x= .dirty\/x= .upd i))\/(hs k).next<=i):=by
 obtain⟨o,ho⟩:=c.at_ hk;have st:=(c.st _ o ho).1;have hm:=(st.mono c.hS).nxt;rcases ht with ⟨h1,h2⟩|h|⟨h|h,h1⟩
 .refine⟨h2,?_⟩;cases hx:xs k with
  |none=>rw[hx] at st;rw[st.still] at h2;omega
  |some x=>
   refine⟨x,rfl,λb e=>?_,.inr h1⟩;rw[hx,e] at st;rw[st.load] at h2;omega
 .have st':=st;rw[h] at st';obtain⟨e,B,hB⟩:=st'.store
  have hlt:i<(hs k).next:=by
   rcases ZM i (hs k).next with h'|h'
   .exact h'
   .rw[c.wf Xd i h'] at hB;cases hB
  exact⟨by omega,_,h,λb e=>(by cases e),.inl ⟨hlt,.inl rfl⟩⟩
 .exact⟨by omega,_,h,λb e=>(by cases e),.inl ⟨h1,.inr (.inl rfl)⟩⟩
 .exact⟨by omega,_,h,λb e=>(by cases e),.inl ⟨h1,.inr Jm⟩⟩
noncomputable def nHq(x:Ev)(i:Nat):Prop:=match x with
 |.load b=>i=b
 |.store b=>i=b
 |.gen=>True
 |.dirty=>True
 |.upd _=>True
 |.mk _=>False
theorem qFq{x y:Ev}{i:Nat}(hr:nHq x i)(hy:y= .store i\/y= .dirty\/y= .upd i):y.clash x=true/\x.clash y=true:=by
 rcases hy with rfl|rfl|rfl<;>cases x<;>simp_all[Ev.clash,nHq]
theorem FInv.now(c:FCtx P C S U N ops frs hs vs xs)(inv:FInv C s0 U N X ops frs hs vs xs D0 ρ0 w0 listed a w D ρ H){j:Nat}{o:Oper}{x:Ev}{i:Nat}(hj:ops[j]? =some o)(hjf:listed[j]? =some false)
  (hed:∀e∈o.after,Region.binds .any e=true->listed[e.on]? =some true) (hx:xs j=some x) (hr:nHq x i) (hi:D i) (hlt:i<(hs j).next):H.get i=(hs j).get i:=by
 have hjs:=(Zp.1 hj).1
 have hreach:∀k,xyq ops ops.size j k=true->listed[k]? =some true:=λk hk=>jGq inv.closed _ j k hk λo' e ho' he hb=>by
  rw[hj] at ho';cases ho';exact hed e he hb
 refine inv.cont i hi j Xd (λk hk ht=>?_) λk hk hks ht=>?_
 .obtain⟨q1,y,q2,q3,q4⟩:=c.tch_ev Xd ht;rcases q4 with ⟨_,hy⟩|hge
  .exact hreach k (c.cl j k x y hjs hk hx q2 (qFq hr hy).1)
  .rcases inv.char i hi with h|⟨k',hk',g1,g2⟩
   .have:=inv.lt0 i h;have h1:=(c.monoLe (Zi k) Xd).nxt;have h2:=(c.monoLe (show j<=ops.size by omega) (Zc _)).nxt;have h3:=c.hU;omega
   .have hk's:k'<ops.size:=by rw[<-inv.size];exact(Zp.1 hk').1
    have:k'=k:=by
     rcases Nat.lt_trichotomy k' k with h|h|h
     .have:=(c.monoLe (show k'+1<=k by omega) Xd).nxt;omega
     .exact h
     .have:=(c.monoLe (show k+1<=k' by omega) Xd).nxt;omega
    rw[<-this];exact hk'
 .by_cases e:k=j
  .rw[e];exact hjf
  .obtain⟨q1,y,q2,q3,q4⟩:=c.tch_ev hks ht;have hjk:=(c.monoLe (show j<=k by omega) Xd).nxt;rcases q4 with ⟨_,hy⟩|hge
   .have hreach:=c.cl k j y x hks Xd q2 hx (qFq hr hy).2;have hks':k<listed.size:=by rw[inv.size];exact hks
    cases hv:listed[k] with
    |false=>rw[ZG hks',hv]
    |true=>
     have hl:listed[k]? =some true:=by rw[ZG hks',hv]
     have:=jGq inv.closed _ k j hreach λo' e ho' he hb=>inv.closed k o' e ho' hl he hb
     rw[hjf] at this;cases this
   .omega
theorem FCtx.frs_get(c:FCtx P C S U N ops frs hs vs xs)(t:Nat):∀j,j<=ops.size->(∃(k:Nat) (o:Oper),k<j/\ops[k]? =some o/\o.dst=some t/\(frs j).get t=some (vs k))\/((∀(k:Nat) (o:Oper),k<j->ops[k]? =some o->o.dst≠some t)/\(frs j).get t=(frs 0).get t)
 |0,_=>.inr ⟨λk o hk=>by omega,rfl⟩
 | j +1,h=>by
  obtain⟨o,ho⟩:=c.at_ (show j<ops.size by omega);have e:=(c.st j o ho).2;by_cases hd:o.dst=some t
  .exact .inl ⟨j,o,by omega,ho,hd,by rw[e,hd];simp[aBq,Tr.get_set]⟩
  .have e2:(frs (j+1)).get t=(frs j).get t:=by
    rw[e];cases hd':o.dst with
    |none=>rfl
    |some u=>
     simp only[aBq,Tr.get_set];rw[Zg];rintro rfl;exact hd hd'
   rw[e2];rcases c.frs_get t j Xd with ⟨k,p,h1,h2,h3,h4⟩|⟨h1,h2⟩
   .exact .inl ⟨k,p,by omega,h2,h3,h4⟩
   .refine .inr ⟨λk p hk hp=>?_,h2⟩;by_cases hkj:k=j
    .subst hkj;rw[ho] at hp;cases hp;exact hd
    .exact h1 k p Xd hp
theorem FInv.fr(c:FCtx P C S U N ops frs hs vs xs)(inv:FInv C s0 U N X ops frs hs vs xs D0 ρ0 w0 listed a w D ρ H){j:Nat}{o:Oper}(hj:ops[j]? =some o)(hjf:listed[j]? =some false)
  (hed:∀e∈o.after,Region.binds .any e=true->listed[e.on]? =some true):∃fc:Tr V,(∀t∈o.looksAt ops,fc.get t=(frs j).get t)/\FrE C D ρ fc a:=by
 have hjs:=(Zp.1 hj).1;obtain⟨fc,hfc⟩:=(frs j).cut (o.looksAt ops);refine⟨fc,λt ht=>by rw[hfc,Zt ht],?_⟩;obtain⟨_,_,_,hpre,_⟩:=voq c.hB hj
 have key:∀t v,fc.get t=some v->a.tmps[t]? =some (aaq ρ v)/\InD (DD D ρ) v:=λt v hv=>by
  rw[hfc] at hv;split at hv
  .rename_i ht;rcases c.frs_get t j Xd with ⟨k,p,h1,h2,h3,h4⟩|⟨h1,h2⟩
   .rw[h4] at hv;cases hv
    rcases(hpre hjs k p t Xd h2 h3).2 ht with h|h
    .omega
    .rw[Zt h1] at h;obtain⟨e,he,hb,heq⟩:=YSq h;have:=hed e he hb;rw[heq] at this;exact inv.got k p t h2 this h3
   .rw [h2] at hv;refine inv.base t v (λk p hp hpd=>?_) hv;have hks:=(Zp.1 hp).1;have hks':k<listed.size:=by rw[inv.size];exact hks
    rcases Nat.lt_trichotomy k j with h|h|h
    .exact absurd hpd (h1 k p h hp)
    .rw[h];exact hjf
    .rcases(hpre hjs k p t hks hp hpd).2 ht with h'|h'
     .omega
     .rw[Zg Xd] at h';obtain⟨e,he,hb,heq⟩:=YSq h';rw[ZG hks'];congr 1
      cases hv':listed[k] with
      |false=>rfl
      |true=>
       have:=inv.closed k p e hp (by rw[ZG hks',hv']) he hb;rw[heq,hjf] at this;cases this
  .cases hv
 exact⟨⟨λt v hv=>(key t v hv).1,λt v hv=>(key t v hv).2,inv.gl⟩⟩
theorem FInv.upd(c:FCtx P C S U N ops frs hs vs xs)(inv:FInv C s0 U N X ops frs hs vs xs D0 ρ0 w0 listed a w D ρ H){j:Nat}{o:Oper}(hj:ops[j]? =some o)(hjf:listed[j]? =some false)
  (hed:∀e∈o.after,Region.binds .any e=true->listed[e.on]? =some true) {D':Nat->Prop} {ρ':Env} {H':Heap} {w':World} (hchar:∀i,D' i->D i\/((hs j).next<=i/\i<(hs (j+1)).next)) (hnext:H'.next=(hs ops.size).next) (hwmin:H'.wmin=(hs ops.size).wmin)
  (hkeep:∀i,D' i->¬Tch (xs j) (hs j).next (hs (j+1)).next i->H'.get i=H.get i) (hnew:∀i,D' i->Tch (xs j) (hs j).next (hs (j+1)).next i->H'.get i=(hs (j+1)).get i)
  (rel':Rel s0 U D' ρ' H' w') (nxt':Nxt D0 ρ0 (hs 0) w0 D' ρ' (hs ops.size) w') (ag:Env.Agree (DD D ρ) ρ ρ') (dd:∀i m,DD D ρ i m->DD D' ρ' i m) (hv:InD (DD D' ρ') (vs j)):
  FInv C s0 U N X ops frs hs vs xs D0 ρ0 w0 (listed.setIfInBounds j true) (a.put o.dst (aaq ρ' (vs j))) w' D' ρ' H':=by
 have hjs:=(Zp.1 hj).1;obtain⟨_,hdst,_,hpre,_⟩:=voq c.hB hj;have hjls:j<listed.size:=by rw[inv.size];exact hjs
 have anq:∀k:Nat,(listed.setIfInBounds j true)[k]? =if j=k then some true else listed[k]? :=λk=>by
  rw[YT];split
  .rename_i e;subst e;simp
  .rfl
 refine⟨by simp[inv.size],by cases o.dst<;>simp[Act.put,inv.asz],by cases o.dst<;>simp[Act.put,inv.adf],?_,hnext,hwmin,?_,inv.lt0,?_,rel',nxt',?_,?_,?_⟩
 .intro k p e hp hlk he hbe;rw[anq] at hlk;rw[anq];split
  .rfl
  .split at hlk
   .rename_i e';subst e'
    rw[hj] at hp;cases hp
    exact hed e he hbe
   .exact inv.closed k p e hp hlk he hbe
 .intro i hi;rcases hchar i hi with h|h
  .rcases inv.char i h with h|⟨k,hk,h⟩
   .exact .inl h
   .refine .inr ⟨k,?_,h⟩;rw[anq];split
    .rfl
    .exact hk
  .exact .inr ⟨j,by rw[anq,Zt rfl],h⟩
 .intro i hi p hp h1 h2;by_cases ht:Tch (xs j) (hs j).next (hs (j+1)).next i
  .have hpj:j<p:=by
    rcases ZM j p with h|h
    .exact h
    .have:=h2 j h hjs ht;rw[anq,Zt rfl] at this;cases this
   rw[hnew i hi ht]
   have:=c.keep (j:=j+1) (i:=i) (p-(j+1)) Xd λk hk1 hk2 htk=>by
    have hks:k<ops.size:=by omega
    have hl:=h1 k Xd htk;rw[anq,Zg Xd] at hl;obtain⟨q1,x,qx,q3,q4⟩:=c.tch_ev hjs ht;obtain⟨r1,y,ry,r3,r4⟩:=c.tch_ev hks htk;have hjk:=(c.monoLe (show j+1<=k by omega) Xd).nxt
    have hy:y= .store i\/y= .dirty\/y= .upd i:=by
     rcases r4 with ⟨_,h⟩|h
     .exact h
     .omega
    have hcl:x.clash y=true:=by
     rcases q4 with ⟨_,h⟩|h
     .rcases h with rfl|rfl|rfl
      .exact(qFq (x:=.store i) rfl hy).2
      .exact(qFq (x:=.dirty) (i:=i) trivial hy).2
      .exact(qFq (x:=.upd i) (i:=i) trivial hy).2
     .cases x with
      |load b=>exact absurd rfl (q3 b)
      |store b=>
       exfalso
       have:=(c.st j o hj).1;rw[qx] at this;have:=this.store.1;omega
      |gen=>exact(qFq (x:=.gen) (i:=i) trivial hy).2
      |mk b=>
       have:=(c.st j o hj).1;rw[qx] at this;obtain⟨e1,e2⟩:=this.mk;obtain rfl:i=b:=by omega
       rcases hy with rfl|rfl|rfl
       .exact YY _
       .rfl
       .rfl
      |dirty=>exact(qFq (x:=.dirty) (i:=i) trivial hy).2
      |upd b=>exact(qFq (x:=.upd b) (i:=i) trivial hy).2
    have:=jGq inv.closed _ k j (c.cl k j y x hks Xd ry qx hcl) λo' e ho' he hb=>inv.closed k o' e ho' hl he hb
    rw[hjf] at this;cases this
   rw[show j+1+(p-(j+1))=p by omega] at this;exact this.symm
  .rw[hkeep i hi ht]
   have hi':D i:=by
    rcases hchar i hi with h|h
    .exact h
    .exact absurd (.inl h) ht
   refine inv.cont i hi' p hp (λk hk htk=>?_) λk hk hks htk=>?_
   .have:=h1 k hk htk;rw[anq,Zg] at this
    .exact this
    .rintro rfl;exact ht htk
   .have:=h2 k hk hks htk;rw[anq] at this;split at this
    .cases this
    .exact this
 .intro k p t hp hlk hpd;rw[anq] at hlk;by_cases e:j=k
  .subst e;rw[hj] at hp;cases hp
   have ht:t<N:=by rw[hpd] at hdst;simpa[YUq] using hdst
   exact⟨by simp[hpd,Act.put,inv.asz,ht],hv⟩
  .rw[Zg e] at hlk;obtain⟨g1,g2⟩:=inv.got k p t hp hlk hpd;have hks:=(Zp.1 hp).1;refine⟨?_,g2.mono dd⟩;rw[yQq ag g2]
   have hne:o.dst≠some t:=by
    rcases(hpre hjs k p t hks hp hpd).1 with h|h
    .exact absurd h.symm e
    .exact h
   cases hd:o.dst with
   |none=>exact g1
   |some u=>
    rw[hd] at hne;simp only[Act.put,YT];rw[Zg (λe'=>hne (by rw[e']))];exact g1
 .intro t v hno hv'
  have hne:o.dst≠some t:=λh=>by
   have:=hno j o hj h;rw[anq,Zt rfl] at this;cases this
  obtain⟨g1,g2⟩:=inv.base t v (λk p hp hpd=>by
   have:=hno k p hp hpd;rw[anq] at this;split at this
   .cases this
   .exact this) hv'
  refine⟨?_,g2.mono dd⟩;rw[yQq ag g2];cases hd:o.dst with
  |none=>exact g1
  |some u=>
   rw[hd] at hne;simp only[Act.put,YT];rw[Zg (λe'=>hne (by rw[e']))];exact g1
 .intro i hi;obtain⟨h1,h2,h3⟩:=inv.gl i hi;obtain⟨e1,e2,_⟩:=ag i 0 h1;exact⟨dd i 0 h1,e1.trans h2,e2.trans h3⟩
end
section
variable {P:Program} {C:Cfg} {S:Self} {s0:World} {U N:Nat} {X:List Deferred} {ops:Array Oper} {frs:Nat->Tr V} {hs:Nat->Heap} {vs:Nat->V} {xs:Nat->Option Ev} {D0:Nat->Prop} {ρ0:Env} {w0:World} {listed:Array Bool} {a:Act} {w:World} {D:Nat->Prop} {ρ:Env} {H:Heap}
theorem FInv.here(c:FCtx P C S U N ops frs hs vs xs)(inv:FInv C s0 U N X ops frs hs vs xs D0 ρ0 w0 listed a w D ρ H){j:Nat}{o:Oper}(hj:ops[j]? =some o)(hjf:listed[j]? =some false)
  (hed:∀e∈o.after,Region.binds .any e=true->listed[e.on]? =some true) {fc:Tr V} (g:FrE C D ρ fc a) {H1:Heap} (ho:opV S C fc H o=some (vs j,H1)) (hn:H1.next=H.next) (hw:(hs ops.size).wmin<=H1.wmin)
  (hnn:(hs (j+1)).next=(hs j).next) (hkeep:∀i,D i->¬Tch (xs j) (hs j).next (hs (j+1)).next i->H1.get i=H.get i) (hnew:∀i,D i->Tch (xs j) (hs j).next (hs (j+1)).next i->H1.get i=(hs (j+1)).get i)
  {r:Option Nat} {K:Act->World->Prop} {Q:Exit->Act->World->Prop} (hK:∀w' D' ρ' H',FInv C s0 U N X ops frs hs vs xs D0 ρ0 w0 (listed.setIfInBounds j true) (a.put o.dst (aaq ρ' (vs j))) w' D' ρ' H'->K (a.put o.dst (aaq ρ' (vs j))) w'):o.wpIn (FF r) 0 P a w K Q:=by
 have hjs:=(Zp.1 hj).1;obtain⟨hnd,_⟩:=voq c.hB hj;have hU:H1.next<=U:=by rw[hn,inv.next];exact c.hU
 refine Yrq c.hC c.hS hnd ho hU g inv.rel λD' ρ' w' rel1 nxt1 in1=>?_
 have hD':∀i,D' i->D i:=λi hi=>by
  rcases nxt1.new i hi with h|⟨h,h'⟩
  .exact h
  .rw[hn] at h';omega
 have m0:=(c.monoLe (Zi ops.size) (Zc _)).nxt;refine hK w' D' ρ' {H1 with next:=(hs ops.size).next,wmin:=(hs ops.size).wmin} (inv.upd c hj hjf hed (λi hi=>.inl (hD' i hi)) Y Y (λi hi=>hkeep i (hD' i hi)) (λi hi=>hnew i (hD' i hi)) ?_ ?_ (nxt1.agree inv.rel.lt hU) (nxt1.dd inv.rel.lt hU) in1)
 .exact rel1.on (λi hi=>by
   have h1:=rel1.lt i hi;have h2:=inv.next;show i<(hs ops.size).next\/U<=i;omega) (λi hi=>rel1.wf i (by rw[hn,inv.next];exact hi)) λi b _ hb=>hb
 .exact Nxt.ext inv.lt0 inv.nxt nxt1 c.hU (by rw[inv.next];exact m0) (by rw[hn,inv.next];exact Zc _) hw (λi _ h=>by rw[hn] at h;omega)
theorem FInv.there(c:FCtx P C S U N ops frs hs vs xs)(inv:FInv C s0 U N X ops frs hs vs xs D0 ρ0 w0 listed a w D ρ H){j:Nat}{o:Oper}(hj:ops[j]? =some o)(hjf:listed[j]? =some false)
  (hed:∀e∈o.after,Region.binds .any e=true->listed[e.on]? =some true) {fc:Tr V} (g:FrE C D ρ fc a) {h1 hb h2:Heap} (ho:opV S C fc hb o=some (vs j,h2)) (hj1:hs (j+1)={h1 with wmin:=d3q (hs j).wmin h1.wmin})
  (hbn:hb.next=(hs j).next) (hbf:∀i,hb.next<=i->hb.get i=none) (hbr:∀i b,D i->hb.get i=some b->H.get i=some b) (h2n:h2.next=h1.next) (h2w:h2.wmin=h1.wmin) (h2g:∀i,(hs j).next<=i->i<h1.next->h2.get i=h1.get i)
  {x:Ev} (hx:xs j=some x) (hg:(h2=h1/\(x= .dirty\/∃b,x= .upd b)/\(∀i,D i->i<(hs j).next->H.get i=(hs j).get i)/\∀i,¬Tch (xs j) (hs j).next h1.next i->i<(hs j).next->h1.get i=(hs j).get i)\/((x= .gen\/∃b,x= .mk b)/\(hs j).next<=h1.wmin))
  {r:Option Nat} {K:Act->World->Prop} {Q:Exit->Act->World->Prop} (hK:∀w' D' ρ' H',FInv C s0 U N X ops frs hs vs xs D0 ρ0 w0 (listed.setIfInBounds j true) (a.put o.dst (aaq ρ' (vs j))) w' D' ρ' H'->K (a.put o.dst (aaq ρ' (vs j))) w'):o.wpIn (FF r) 0 P a w K Q:=by
 have hjs:=(Zp.1 hj).1;obtain⟨hnd,_⟩:=voq c.hB hj;have hm:=vgq c.hS ho;have hjn:(hs (j+1)).next=h1.next:=by rw[hj1]
 have hjg:∀i,(hs (j+1)).get i=h1.get i:=λi=>by rw[hj1];rfl
 have hle:=(c.monoLe (show j+1<=ops.size by omega) (Zc _)).nxt;have m0:=(c.monoLe (Zi ops.size) (Zc _)).nxt;have m0j:=(c.monoLe (Zi j) Xd).nxt;have hmj:(hs j).next<=h1.next:=by have:=hm.nxt;omega
 have hU:=c.hU
 have hwm:(hs ops.size).wmin<=h1.wmin:=by
  have q1:=(c.monoLe (show j+1<=ops.size by omega) (Zc _)).wmin;have q2:=(JLq (hs j).wmin h1.wmin).2;rw[hj1] at q1;exact Zs q1 q2
 --the blocks that are told of lie ahead of its own,or behind
 have hD:∀i,D i->i<(hs j).next\/h1.next<=i:=λi hi=>by
  rcases inv.char i hi with h|⟨k,hk,g1,g2⟩
  .have:=inv.lt0 i h;omega
  .have hks:k<ops.size:=by rw[<-inv.size];exact(Zp.1 hk).1
   rcases Nat.lt_trichotomy k j with h|h|h
   .have:=(c.monoLe (show k+1<=j by omega) Xd).nxt;omega
   .rw[h,hjf] at hk;cases hk
   .have:=(c.monoLe (show j+1<=k by omega) Xd).nxt;omega
 have rel1:Rel s0 h2.next D ρ hb w:=inv.rel.on (λi hi=>by have:=hD i hi;omega) hbf hbr;refine Yrq c.hC c.hS hnd ho (Zc _) g rel1 λD' ρ' w' rel2 nxt2 in2=>?_
 have hnew:∀i,D' i->D i\/((hs j).next<=i/\i<h1.next):=λi hi=>by have:=nxt2.new i hi;rwa[hbn,h2n] at this
 have ag:=nxt2.agree rel1.lt (Zc _);have dd:=nxt2.dd rel1.lt (Zc _)
 have nx:=Nxt.ext inv.lt0 inv.nxt nxt2 c.hU Xd Xd Xd (λi hi h=>by
  have:=hD i hi;omega)
 have ltU:∀i,D' i->i<(hs ops.size).next\/U<=i:=λi hi=>by
  rcases hnew i hi with h|h
  .have:=inv.rel.lt i h;rw[inv.next] at this;exact this
  .omega
 rcases hg with ⟨rfl,hxx,hnow,hkp⟩|⟨hxm,hwn⟩
 ·-- it turns what it likes:nothing behind it has had a turn
  have hD2:∀i,D i->i<(hs j).next\/(hs ops.size).next<=i:=λi hi=>by
   rcases inv.char i hi with h|⟨k,hk,g1,g2⟩
   .have:=inv.lt0 i h;omega
   .have hks:k<ops.size:=by rw[<-inv.size];exact(Zp.1 hk).1
    rcases Nat.lt_trichotomy k j with h|h|h
    .have:=(c.monoLe (show k+1<=j by omega) Xd).nxt;omega
    .rw[h,hjf] at hk;cases hk
    .obtain⟨_,y,ry,hnl,_⟩:=c.tch_ev hks (.inl ⟨g1,g2⟩)
     have hcl:x.clash y=true:=by
      rcases hxx with rfl|⟨b,rfl⟩
      .cases y<;>rfl
      .cases y<;>first|rfl|exact absurd rfl (hnl _)
     have:=jGq inv.closed _ k j (c.cl k j y x hks h ry hx hcl) λo' e ho' he hb=>inv.closed k o' e ho' hk he hb
     rw[hjf] at this;cases this
  refine hK w' D' ρ' {h2 with next:=(hs ops.size).next,wmin:=(hs ops.size).wmin} (inv.upd c hj hjf hed (λi hi=>by rw[hjn];exact hnew i hi) Y Y ?_ (λi _ _=>(hjg i).symm) ?_ nx ag dd in2)
  .intro i hi ht
   have hi':D i:=by
    rcases hnew i hi with h|h
    .exact h
    .exact absurd (.inl (by rw[hjn];exact h)) ht
   rcases hD2 i hi' with h|h
   .have e1:=hkp i (by rw[<-hjn];exact ht) h;have e2:=hnow i hi' h;show h2.get i=H.get i;rw[e1,e2]
   .have e1:h2.get i=none:=rel2.wf i Xd;have e2:H.get i=none:=inv.rel.wf i (by rw[inv.next];exact h);rw[e2];exact e1
  .exact rel2.on ltU (λi hi=>rel2.wf i (by have hi:(hs ops.size).next<=i:=hi;omega)) λi b _ hb=>hb
 ·-- it turns nothing:what it made comes in between
  obtain⟨tr,htr⟩:=Tr.of (λi=>if (hs j).next<=i/\i<h1.next then h2.get i else H.get i) (hs ops.size).next;have hget:∀i,(Heap.mk (hs ops.size).next (hs ops.size).wmin tr).get i=if i<(hs ops.size).next then(if (hs j).next<=i/\i<h1.next then h2.get i else H.get i) else none:=htr
  have hframe:∀b,b<w.heap.size->w'.heap[b]? =w.heap[b]? :=λb hb=>nxt2.frame b hb λi _ q1 q2=>by
   omega
  have hfresh:∀i,D' i->(hs j).next<=i->i<h1.next->w.heap.size<=ρ'.b i:=λi hi q1 q2=>by
   rcases nxt2.fresh i hi Xd Xd with h|⟨k,_,k2,k3,_⟩
   .exact h
   .omega
  have get:∀i b,D' i->(Heap.mk (hs ops.size).next (hs ops.size).wmin tr).get i=some b->((hs j).next<=i/\i<h1.next/\h2.get i=some b)\/(D i/\H.get i=some b/\ρ'.b i=ρ.b i):=λi b hi hb=>by
   rw[hget] at hb;split at hb
   .split at hb
    .rename_i h;exact .inl ⟨h.1,h.2,hb⟩
    .rename_i h
     have hi':D i:=by
      rcases hnew i hi with h'|h'
      .exact h'
      .exact absurd h' h
     exact .inr ⟨hi',hb,(ag i 0 ⟨hi',Zi _⟩).1⟩
   .cases hb
  have hsz:=nxt2.size;refine hK w' D' ρ' ⟨(hs ops.size).next,(hs ops.size).wmin,tr⟩ (inv.upd c hj hjf hed (λi hi=>by rw[hjn];exact hnew i hi) Y Y ?_ ?_ ?_ nx ag dd in2)
  .intro i hi ht;rw[hget];have hni:¬((hs j).next<=i/\i<h1.next):=λh=>ht (.inl (by rw[hjn];exact h))
   rw[Zg hni];by_cases hlt:i<(hs ops.size).next
   .rw[Zt hlt]
   .rw[Zg hlt,inv.rel.wf i (by rw[inv.next];omega)]
  .intro i hi ht;rw[hjg,hget]
   have hr:(hs j).next<=i/\i<h1.next:=by
    rcases ht with h|h|⟨h|h,_⟩
    .rw[hjn] at h;exact h
    all_goals
     rw[hx] at h;rcases hxm with rfl|⟨b,rfl⟩<;>cases h
   rw[Zt Xd,Zt hr];exact h2g i hr.1 hr.2
  .refine⟨ltU,λi hi=>?_,λi b hi hb=>?_,λi b hi hb=>?_,λi k b d hi hk hb hd hob hod hne=>?_,λi b hi hb hob=>?_,λi k b d hi hk hb hd hob hod=>?_,rel2.base⟩
   .have hi:(hs ops.size).next<=i:=hi;rw[hget,Zg Xd]
   .rcases get i b hi hb with ⟨q1,q2,q3⟩|⟨q1,q2,q3⟩
    .exact rel2.has i b hi q3
    .obtain⟨ob,g1,g2⟩:=inv.rel.has i b q1 q2;refine⟨ob,?_,KnB.agree ag (m:=0) ⟨q1,Zi _⟩ (inv.rel.clo i b q1 q2) g2⟩;rw[q3,hframe _ (Zp.1 g1).1];exact g1
   .rcases get i b hi hb with ⟨q1,q2,q3⟩|⟨q1,q2,q3⟩
    .exact rel2.clo i b hi q3
    .exact(inv.rel.clo i b q1 q2).mono dd
   .rcases get i b hi hb with ⟨q1,q2,q3⟩|⟨q1,q2,q3⟩<;>rcases get k d hk hd with ⟨p1,p2,p3⟩|⟨p1,p2,p3⟩
    .exact rel2.inj i k b d hi hk q3 p3 hob hod hne
    .rw[p3];obtain⟨od,g1,_⟩:=inv.rel.has k d p1 p2;have:=(Zp.1 g1).1;have:=hfresh i hi q1 q2;omega
    .rw[q3];obtain⟨od,g1,_⟩:=inv.rel.has i b q1 q2;have:=(Zp.1 g1).1;have:=hfresh k hk p1 p2;omega
    .rw[q3,p3];exact inv.rel.inj i k b d q1 p1 q2 p2 hob hod hne
   .rcases get i b hi hb with ⟨q1,q2,q3⟩|⟨q1,q2,q3⟩
    .exact rel2.own i b hi q3 hob
    .rw[q3];exact inv.rel.own i b q1 q2 hob
   .rcases get i b hi hb with ⟨q1,q2,q3⟩|⟨q1,q2,q3⟩<;>rcases get k d hk hd with ⟨p1,p2,p3⟩|⟨p1,p2,p3⟩
    .exact rel2.old i k b d hi hk q3 p3 hob hod
    .rw[p3];obtain⟨od,g1,_⟩:=inv.rel.has k d p1 p2;have:=(Zp.1 g1).1;have:=hfresh i hi q1 q2;omega
    .rw[q3];obtain⟨od,g1,_⟩:=inv.rel.has i b q1 q2;have:=(Zp.1 g1).1;have:=hfresh k hk p1 p2;omega
    .rw[q3,p3];exact inv.rel.old i k b d q1 p1 q2 p2 hob hod
theorem FInv.go(c:FCtx P C S U N ops frs hs vs xs)(inv:FInv C s0 U N X ops frs hs vs xs D0 ρ0 w0 listed a w D ρ H){j:Nat}{o:Oper}(hj:ops[j]? =some o)(hjf:listed[j]? =some false)
  (hed:∀e∈o.after,Region.binds .any e=true->listed[e.on]? =some true) {r:Option Nat} {K:Act->World->Prop} {Q:Exit->Act->World->Prop} (hK:∀u w' D' ρ' H',FInv C s0 U N X ops frs hs vs xs D0 ρ0 w0 (listed.setIfInBounds j true) (a.put o.dst u) w' D' ρ' H'->K (a.put o.dst u) w'):
  (Region.wanted o (yielded ops a.tmps)=true/\o.wpIn (FF r) 0 P a w K Q)\/(Region.wanted o (yielded ops a.tmps)=false/\K (a.put o.dst undef) w):=by
 have hjs:=(Zp.1 hj).1;obtain⟨hst,_⟩:=c.st j o hj;obtain⟨fc,hfc,g⟩:=inv.fr c hj hjf hed;have hev:=wJq (C:=C) (fr:=frs j) hfc;rcases hst with ⟨hw,hv,hh,hx⟩|⟨hw,hst⟩
 ·--left out
  right
  rw[euq hfc] at hw;refine⟨x7q g hw,?_⟩;have hv':aaq ρ (vs j)=undef:=by rw[hv];rfl
  refine hK undef w D ρ H ?_
  have hnt:∀i,¬Tch (xs j) (hs j).next (hs (j+1)).next i:=λi h=>by
   rw[hx,hh] at h;rcases h with h|h|h
   .omega
   .cases h
   .rcases h.1 with h|h<;>cases h
  have:=inv.upd c hj hjf hed (D':=D) (ρ':=ρ) (H':=H) (w':=w) (λi hi=>.inl hi) inv.next inv.wmin (λi _ _=>rfl) (λi _ h=>absurd h (hnt i)) inv.rel inv.nxt (λ_ _ _=>⟨rfl,rfl,rfl,rfl⟩) (λ_ _ h=>h) (by rw[hv];trivial);rwa[hv'] at this
 .left
  have hw':=hw;rw[euq hfc] at hw';refine⟨x7q g hw',?_⟩;have hK':∀w' D' ρ' H',FInv C s0 U N X ops frs hs vs xs D0 ρ0 w0 (listed.setIfInBounds j true) (a.put o.dst (aaq ρ' (vs j))) w' D' ρ' H'->K (a.put o.dst (aaq ρ' (vs j))) w':=λw' D' ρ' H'=>hK _ w' D' ρ' H'
  rcases qCq hst with ⟨hp,hh,hx⟩|⟨h1,hp,ho,hh,hx⟩
  .have hnt:∀i,¬Tch (xs j) (hs j).next (hs (j+1)).next i:=λi h=>by
    rw[hx,hh] at h;rcases h with h|h|h
    .omega
    .cases h
    .rcases h.1 with h|h<;>cases h
   rw[uCq o.op hev] at hp;refine inv.here c hj hjf hed g (H1:=H) (by unfold opV;simp only[hp]) rfl (Nat.le_of_eq inv.wmin.symm) (by rw[hh]) (λ_ _ _=>rfl) (λi _ h=>absurd h (hnt i)) hK'
  .have hnx:(hs (j+1)).next=h1.next:=by rw[hh]
   have hp2:=hp;have ho2:=ho;rw[vhq o hev] at ho;rw[uCq o.op hev] at hp
   have hb:∀{b:Nat} x off B,x∈o.op.operands->evV C (frs j) x=some (.ptr b off) ->(Heap.mk (hs j).next (hs j).next (hs j).tr).get b=some B->D b/\b<(hs j).next:=λ{b} x off B h1 h2 h3=>by
    rw[hev x h1] at h2;have h3:(hs j).get b=some B:=h3;refine⟨(g.ev h2).2.1,?_⟩;rcases ZM b (hs j).next with h|h
    .exact h
    .rw[c.wf Xd b h] at h3;cases h3
   have hbr:∀{x:Ev},xs j=some x->(∀i,nHq x i) ->∀i b,D i->(Heap.mk (hs j).next (hs j).next (hs j).tr).get i=some b->H.get i=some b:=λhx hr i b hi hb=>by
    have hb:(hs j).get i=some b:=hb
    have hlt:i<(hs j).next:=by
     rcases ZM i (hs j).next with h|h
     .exact h
     .rw[c.wf Xd i h] at hb;cases hb
    rw[inv.now c hj hjf hed hx (hr i) hi hlt];exact hb
   cases he:asq C (frs j) (hs j) h1 o.op with
   |load b=>
    obtain⟨⟨e1,e2⟩,⟨B,hB⟩,x,off,hxo,hxb⟩:=c7q hp2 ho2 he;obtain⟨hDb,hlt⟩:=hb x off B hxo hxb hB;have hxl:xs j=some (.load b):=by rw[hx,he]
    have hnn:(hs (j+1)).next=(hs j).next:=by rw[hnx,e1]
    have hnt:∀i,¬Tch (xs j) (hs j).next (hs (j+1)).next i:=λi h=>by
     rw[hxl,hnn] at h;rcases h with h|h|h
     .omega
     .cases h
     .rcases h.1 with h|h<;>cases h
    have hH:H.get b=(hs j).get b:=inv.now c hj hjf hed hxl rfl hDb hlt;have ho3:=e2 H (by rw[hH];rfl);rw[vhq o hev] at ho3;exact inv.here c hj hjf hed g ho3 rfl (Nat.le_of_eq inv.wmin.symm) hnn (λ_ _ _=>rfl) (λi _ h=>absurd h (hnt i)) hK'
   |store b=>
    obtain⟨⟨B,B',hB,e1,e2⟩,x,off,hxo,hxb⟩:=J7q hp2 ho2 he;obtain⟨hDb,hlt⟩:=hb x off B hxo hxb hB;have hxl:xs j=some (.store b):=by rw[hx,he]
    have hnn:(hs (j+1)).next=(hs j).next:=by rw[hnx,e1];rfl
    have hH:H.get b=(hs j).get b:=inv.now c hj hjf hed hxl rfl hDb hlt
    have hget:∀i,(hs (j+1)).get i=if i=b then some B' else(hs j).get i:=λi=>by
     rw[hh,e1];exact Heap.get_put _ _ _ _
    have hwb:(hs ops.size).wmin<=b:=by
     have q1:=(c.monoLe (show j+1<=ops.size by omega) (Zc _)).wmin;have q2:=(JLq (hs j).wmin h1.wmin).2;have q3:=(k3q (hs j).next b).2;rw[hh] at q1;have q4:h1.wmin=wmn (hs j).next b:=by rw[e1];rfl
     have q1:(hs ops.size).wmin<=d3q (hs j).wmin h1.wmin:=q1;omega
    have ho3:=e2 H (by rw[hH];rfl);rw[vhq o hev] at ho3;refine inv.here c hj hjf hed g ho3 Y ?_ hnn (λi _ hi=>?_) (λi _ hi=>?_) hK'
    .show(hs ops.size).wmin<=wmn H.wmin b;unfold wmn;split
     .exact Nat.le_of_eq inv.wmin.symm
     .exact hwb
    .rw[Heap.get_put,Zg];rintro rfl;exact hi (.inr (.inl hxl))
    .have:i=b:=by
      rw[hxl,hnn] at hi;rcases hi with h|h|h
      .omega
      .cases h;rfl
      .rcases h.1 with h|h<;>cases h
     rw[Heap.get_put,Zt this,hget,Zt this]
   |gen=>
    have hxl:xs j=some .gen:=by rw[hx,he]
    exact inv.there c hj hjf hed g ho hh rfl (c.wf Xd) (hbr hxl λ_=>trivial) Y Y (λ_ _ _=>rfl) hxl (.inr ⟨.inl rfl,ouq he⟩) hK'
   |mk b=>
    have hxl:xs j=some (.mk b):=by rw[hx,he]
    obtain⟨_,B,n,k,e0,e1,e2⟩:=rFq hp2 ho2 he;have e3:=e2 ⟨(hs j).next,(hs j).next,.nil⟩ rfl;rw[vhq o hev] at e3;refine inv.there c hj hjf hed g e3 hh rfl (λi _=>Tr.get_nil ..) (λi b _ hb=>by rw[show Heap.get ⟨(hs j).next,(hs j).next,.nil⟩ i=none from Tr.get_nil ..] at hb;cases hb) (by rw[e1];rfl) (by rw[e1];rfl) (λi q1 q2=>?_) hxl (.inr ⟨.inr ⟨b,rfl⟩,by rw[e1];exact Zc _⟩) hK';rw[e1] at q2⊢;have q2:i<(hs j).next+1:=q2;obtain rfl:i=(hs j).next:=by omega
    rw[Heap.get_push,Heap.get_push,Zt rfl,Zt rfl]
   |dirty=>
    have hxl:xs j=some .dirty:=by rw[hx,he]
    exact inv.there c hj hjf hed g ho hh rfl (c.wf Xd) (hbr hxl λ_=>trivial) Y Y (λ_ _ _=>rfl) hxl (.inl ⟨rfl,.inl rfl,λi hi hlt=>inv.now c hj hjf hed hxl trivial hi hlt,λi ht hi=>absurd (.inr (.inr ⟨.inl hxl,hi⟩)) ht⟩) hK'
   |upd b=>
    have hxl:xs j=some (.upd b):=by rw[hx,he]
    exact inv.there c hj hjf hed g ho hh rfl (c.wf Xd) (hbr hxl λ_=>trivial) Y Y (λ_ _ _=>rfl) hxl (.inl ⟨rfl,.inr ⟨b,rfl⟩,λi hi hlt=>inv.now c hj hjf hed hxl trivial hi hlt,λi ht hi=>by
     by_cases hib:i=b
     .exact absurd (.inr (.inr ⟨.inr (hxl.trans (by rw[hib])),hi⟩)) ht
     .exact otq c.hS hp2 ho2 he hib hi⟩) hK'
theorem FInv.all(c:FCtx P C S U N ops frs hs vs xs){r:Option Nat}{Q:Exit->Act->World->Prop}
  (hend:∀listed a w D ρ H,FInv C s0 U N X ops frs hs vs xs D0 ρ0 w0 listed a w D ρ H->(∀k:Nat,k<ops.size->listed[k]? =some true) ->Q .normal a w):
  ∀(n:Nat) (listed:Array Bool) (a:Act) (w:World) (D:Nat->Prop) (ρ:Env) (H:Heap),n+listed.toList.count true=ops.size->FInv C s0 U N X ops frs hs vs xs D0 ρ0 w0 listed a w D ρ H->wpAnyIn (FF r) 0 P .any ops Q n listed a w:=by
 intro n;induction n with
 |zero=>
  intro listed a w D ρ H hn inv
  have hall:∀k,k<ops.size->listed[k]? =some true:=by
   have h1:listed.toList.count true=listed.toList.length:=by rw[Array.length_toList,inv.size];omega
   rw[List.count_eq_length] at h1;intro k hk;have hk':k<listed.size:=by rw[inv.size];exact hk
   rw[ZG hk'];have:=h1 listed[k] Xi;rw[<-this]
  refine ppq 0 ops.size listed a w Xd inv.size (λk hk=>getD_t.2 (hall k hk)) (λk h1 h2=>by omega) (λi o hi ho=>by
   have:=(Zp.1 ho).1;omega) (λi o e hi ho=>by have:=(Zp.1 ho).1;omega) ?_
  rw[ZW Xi];unfold wpListIn;exact hend listed a w D ρ H inv hall
 |succ n ih=>
  intro listed a w D ρ H hn inv
  --one is left
  have hex:∃k,k<ops.size/\listed[k]? =some false:=by
   apply YR;intro hno
   have h1:listed.toList.count true=listed.toList.length:=by
    rw[List.count_eq_length];intro b hb;obtain⟨k,hk,rfl⟩:=List.getElem_of_mem hb;have hk':k<listed.size:=by simpa using hk
    cases hv:listed.toList[k] with
    |true=>rfl
    |false=>
     refine absurd ⟨k,by rw[<-inv.size];exact hk',?_⟩ hno;rw[ZG hk'];have:listed[k]=listed.toList[k]:=by simp
     rw[this,hv]
   rw[Array.length_toList,inv.size] at h1;omega
  obtain⟨kx,hkx⟩:=hex;obtain⟨k0,⟨hk0,hk0f⟩,_,hmin⟩:=bQq (λk=>k<ops.size/\listed[k]? =some false) kx hkx
  have hready0:k0∈Region.ready .any ops listed:=by
   have ho:ops[k0]? =some ops[k0]:=ZG hk0;refine mem_ready.2 ⟨getD_f.2 hk0f,_,ho,λe he hb=>getD_t.2 ?_⟩;have hlt:=(voq c.hB ho).2.2.1 e he hb;have hk':e.on<listed.size:=by rw[inv.size];omega
   rw[ZG hk'];congr 1
   cases hv:listed[e.on] with
   |true=>rfl
   |false=>have:=hmin e.on ⟨by omega,by rw[ZG hk',hv]⟩;omega
  refine⟨λh=>(by rw[h] at hready0;cases hready0),λj hj=>?_⟩;obtain⟨hjf,o,hoj,hedges⟩:=mem_ready.1 hj;have hjf:=getD_f.1 hjf;have hjs:=(Zp.1 hoj).1;have hjls:j<listed.size:=by rw[inv.size];exact hjs
  have hcnt:n+(listed.setIfInBounds j true).toList.count true=ops.size:=by
   have hjl:listed.toList[j]? =some false:=by simpa using hjf
   have hc:(listed.setIfInBounds j true).toList.count true=listed.toList.count true+1:=by
    rw[Array.toList_setIfInBounds,List.count_set (by simpa using hjls)]
    have:listed.toList[j]'(by simpa using hjls)=false:=by
     have:=hjl;rw[Za (by simpa using hjls)] at this;simpa using this
    rw[this];simp
   omega
  have hK:∀u w' D' ρ' H',FInv C s0 U N X ops frs hs vs xs D0 ρ0 w0 (listed.setIfInBounds j true) (a.put o.dst u) w' D' ρ' H'->wpAnyIn (FF r) 0 P .any ops Q n (listed.setIfInBounds j true) (a.put o.dst u) w':=λu w' D' ρ' H' h=>ih _ _ _ _ _ _ hcnt h
  unfold wpOpIn;simp only[hoj];rcases inv.go c hoj hjf (λe he hb=>getD_t.1 (hedges e he hb)) (r:=r) (Q:=Q) (K:=λa w=>wpAnyIn (FF r) 0 P .any ops Q n (listed.setIfInBounds j true) a w) hK with ⟨hw,h⟩|⟨hw,h⟩
  .rw[Zt hw];exact h
  .rw[Zg (by rw[hw];simp)];exact⟨λf _=>Qtq r f,h⟩
theorem biq(hmx:P.follows .mixedOrders=true)(hC:CfgOK P C)(hS:SelfOK P C S):Qgq P C S:=by
 intro N ops id fr h fr' h' hB he;obtain⟨frs,hs,vs,xs,t⟩:=QSq _ _ _ _ _ _ _ he;have hlen:ops.toList.length=ops.size:=by simp
 have hst:∀(j:Nat) (o:Oper),ops[j]? =some o->StepAt S C ops o (frs j) (hs j) (vs j) (hs (j+1)) (xs j)/\frs (j+1)=aBq (frs j) o.dst (vs j):=λj o hj=>t.st j o (by simpa using hj)
 have hn:hs ops.size=h':=by rw[<-hlen];exact t.hn
 have hf:frs ops.size=fr':=by rw[<-hlen];exact t.fn
 have hcl:∀(j k:Nat) (x y:Ev),j<ops.size->k<j->xs j=some x->xs k=some y->y.clash x=true->xyq ops ops.size j k=true:=λj k x y hj hk hx hy hc=>by
  have:=(t.cl j ops[j] x (by simp[hj]) hx).2 k y hk hy hc;simpa using this
 have hm:Mono h h':=by
  have:∀d,d<=ops.size->Mono (hs 0) (hs d):=by
   intro d;induction d with
   |zero=>intro _;exact Mono.refl _
   |succ d ih=>intro hd;exact(ih Xd).trans ((hst d ops[d] (ZG Xd)).1.mono hS)
  have:=this ops.size (Zc _);rwa[t.h0,hn] at this
 refine⟨hm,λs0 U r D ρ a w X Q hU g rel hN hX k=>?_⟩;have c:FCtx P C S U N ops frs hs vs xs:=⟨hC,hS,hB,hst,hcl,by rw[t.h0];exact rel.wf,by rw[hn];exact hU⟩;refine wpIn_region_any hmx ?_;have hw0:h'.wmin<=h.wmin:=hm.wmin;refine FInv.all (s0:=s0) (X:=X) (D0:=D) (ρ0:=ρ) (w0:=w) c (λlisted a' w' D' ρ' H inv hall=>?_) _ _ a _ D ρ {h with next:=h'.next,wmin:=h'.wmin} (by simp[List.count_replicate]) ?_
 .have hfr:FrE C D' ρ' fr' a':=by
   have key:∀t v,fr'.get t=some v->a'.tmps[t]? =some (aaq ρ' v)/\InD (DD D' ρ') v:=λt' v hv=>by
    rw[<-hf] at hv;rcases c.frs_get t' ops.size (Zc _) with ⟨k,p,h1,h2,h3,h4⟩|⟨h1,h2⟩
    .rw[h4] at hv;cases hv
     exact inv.got k p t' h2 (hall k h1) h3
    .rw[h2] at hv;exact inv.base t' v (λk p hp hpd=>absurd hpd (h1 k p (Zp.1 hp).1 hp)) hv
   exact⟨⟨λt v hv=>(key t v hv).1,λt v hv=>(key t v hv).2,inv.gl⟩⟩
  have hget:∀i,D' i->h'.get i=H.get i:=λi hi=>by
   rw[<-hn];exact(inv.cont i hi ops.size (Zc _) (λk hk _=>hall k hk) λk h1 h2=>by omega).symm
  have hnx:H.next=h'.next:=by rw[inv.next,hn]
  have hrel:Rel s0 U D' ρ' h' w':=inv.rel.on (λi hi=>by rw[<-hnx];exact inv.rel.lt i hi) (hm.wf rel.wf) λi b hi hb=>by rw[<-hget i hi];exact hb
  have hnxt:=inv.nxt;rw[t.h0,hn] at hnxt;exact k D' ρ' a' w' hfr hrel hnxt inv.asz inv.adf
 .have hlt:∀i,D i->i<h'.next\/U<=i:=λi hi=>by
   have:=rel.lt i hi;have:=hm.nxt;omega
  refine⟨by simp,hN,hX,?_,by rw[hn],by rw[hn],λi hi=>.inl hi,by rw[t.h0];exact rel.lt,?_,?_,?_,?_,?_,g.gl⟩
  .intro k o e _ hl;simp[Array.getElem?_replicate] at hl
  .intro i hi p hp h1 _
   have:=c.keep (j:=0) (i:=i) p Xd λk _ hk ht=>by
    have:=h1 k Xd ht;simp[Array.getElem?_replicate] at this
   rw[ZN] at this;rw[this,t.h0];rfl
  .exact(rel.drawn _).on hlt (λi hi=>rel.wf i (by have hi:h'.next<=i:=hi;have:=hm.nxt;omega)) λi b _ hb=>hb
  .rw[t.h0,hn];refine⟨λ_ h=>h,λ_ h=>.inl h,λ_ _=>⟨rfl,rfl,rfl,rfl⟩,λ_ _ _=>rfl,λi hi q1 q2=>?_,Zc _,hw0,hm.nxt,rfl,rfl,rfl⟩;have:=rel.lt i hi;omega
  .intro k o t' _ hl;simp[Array.getElem?_replicate] at hl
  .intro t' v _ hv;rw[t.f0] at hv;exact⟨g.at_ t' v hv,g.in_ t' v hv⟩
end
noncomputable def vJq(P:Program)(C:Cfg):Prop:=∀f fn,C.fn f=some fn->P.funcs[f]? =some fn/\(∀args w,(callFunc f args).run P w= .ok (.enter f args) w)/\∀c,fn.body=some c->yAq fn.ntmps c=true
theorem vGq:∀(vs:List V) (i:Nat) (t:Tr V) (k:Nat),(x0q i vs t).get k=if i<=k/\k<i+vs.length then vs[k-i]? else t.get k
 |[],i,t,k=>by simp only[x0q,YD];rw[Zg Xd]
 |v::vs,i,t,k=>by
  simp only[x0q];rw[vGq vs (i+1) _ k,Tr.get_set];simp only[Zv];by_cases h:k=i
  .subst h;rw[Zg Xd,Zt rfl,Zt Xd];simp
  .by_cases h2:i+1<=k/\k<i+1+vs.length
   .rw[Zt h2,Zt Xd,show k-i=(k-(i+1))+1 by omega];simp
   .rw[Zg h2,Zg h,Zg Xd]
theorem xWq{N:Nat}:∀(c:Code) (l:Nat) (rest:Code),findLabel c l=some rest->yAq N c=true->yAq N rest=true
 |.seq a b,l,rest,h,hok=>by
  simp only[yAq,Zb] at hok;simp only[findLabel] at h;split at h
  .rename_i r hr;cases h;simp only[yAq,Zb];exact⟨xWq a l r hr hok.1,hok.2⟩
  .exact xWq b l rest h hok.2
 |.label l',l,rest,h,_=>by
  simp only[findLabel] at h;split at h
  .cases h;rfl
  .cases h
 |.skip,_,_,h,_=>by simp[findLabel] at h
 |.region _ _ _,_,_,h,_=>by simp[findLabel] at h
 |.cond _ _ _,_,_,h,_=>by simp[findLabel] at h
 |.block _ _,_,_,h,_=>by simp[findLabel] at h
 |.loop _,_,_,h,_=>by simp[findLabel] at h
 |.rangeFunc _ _ _ _,_,_,h,_=>by simp[findLabel] at h
 |.exit _,_,_,h,_=>by simp[findLabel] at h
 |.scope _,_,_,h,_=>by simp[findLabel] at h
 |.goto _,_,_,h,_=>by simp[findLabel] at h
 |.ret,_,_,h,_=>by simp[findLabel] at h
 |.refuse _,_,_,h,_=>by simp[findLabel] at h
theorem QDq{ρ:Env}{D:Nat->Nat->Prop}:∀(ps:List Tmp) (vs:List V) (fr:Tr V) (tmps:Array Value),(∀t v,fr.get t=some v->tmps[t]? =some (aaq ρ v)/\InD D v) ->InDL D vs->(∀p∈ps,p<tmps.size) ->
  (∀t v,(Jrq fr ps vs).get t=some v->((ps.zip (zMq ρ vs)).foldl (λt (p:Tmp×Value)=>t.setIfInBounds p.1 p.2) tmps)[t]? =some (aaq ρ v)/\InD D v)/\
  ((ps.zip (zMq ρ vs)).foldl (λt (p:Tmp×Value)=>t.setIfInBounds p.1 p.2) tmps).size=tmps.size
 |[],_,fr,tmps,h,_,_=>⟨by simpa[Jrq] using h,by simp⟩
 |p::ps,[],fr,tmps,h,_,_=>⟨by simpa[Jrq,zMq] using h,by simp[zMq]⟩
 |p::ps,v::vs,fr,tmps,h,hv,hp=>by
  have ih:=QDq (ρ:=ρ) (D:=D) ps vs (fr.set p (some v)) (tmps.setIfInBounds p (aaq ρ v)) (λt x hx=>by
   rw[Tr.get_set] at hx;rw[YT];by_cases e:t=p
   .subst e;rw[Zt rfl] at hx;cases hx
    exact⟨by simp[hp t Xi],hv.1⟩
   .rw[Zg e] at hx;rw[Zg (λe'=>e e'.symm)];exact h t x hx) hv.2 (λq hq=>by simp[hp q (by simp[hq])])
  simp only[Jrq,zMq,List.zip_cons_cons,List.foldl_cons];exact⟨ih.1,by rw[ih.2];simp⟩
structure SelfM(S:Self):Prop where
 fn:∀f vs h v h',S.fn f vs h=some (v,h') ->Mono h h'
 yield:∀l vs h v h',S.yield l vs h=some (v,h') ->Mono h h'
structure FlowM(F:Flow):Prop where
 loop:∀c st x st',F.loop c st=some (x,st') ->Mono st.h st'.h
 scope:∀c l st x st',F.scope c l st=some (x,st') ->Mono st.h st'.h
section
variable {C:Cfg} {S:Self} {F:Flow}
theorem opM(hS:SelfM S){o:Oper}{fr:Tr V}{h h':Heap}{v:V}(ho:opV S C fr h o=some (v,h')):Mono h h':=by
 unfold opV at ho;split at ho
 .cases ho;exact Mono.refl _
 .split at ho
  .rename_i r hr;cases ho;exact d2q hr
  .unfold jfq at ho;split at ho
   .split at ho
    .split at ho
     .split at ho
      .cases ho;exact Mono.refl _
      .cases ho
     .exact hS.fn _ _ _ _ _ ho
    .exact hS.yield _ _ _ _ _ ho
    .cases ho
   .split at ho
    .split at ho
     .split at ho
      .cases ho
      .exact hS.fn _ _ _ _ _ ho
     .cases ho
    .cases ho
   .cases ho
theorem AVq(hS:SelfM S){ops:Array Oper}:∀(l:List Oper) (fr:Tr V) (h:Heap) (fr':Tr V) (h':Heap),qYq S C ops l fr h=some (fr',h') ->Mono h h'
 |[],fr,h,fr',h',he=>by
  simp only[qYq,Zk,ZQ] at he;rw[<-he.2];exact Mono.refl _
 |o::l,fr,h,fr',h',he=>by
  simp only[qYq] at he;split at he
  .split at he
   .rename_i v h1 ho;exact(opM hS ho).trans (AVq hS l _ _ _ _ he)
   .cases he
  .exact AVq hS l _ _ _ _ he
  .cases he
theorem tbq(hS:SelfM S){o:Oper}{fr:Tr V}{h h':Heap}{v:V}{x:Option Ev}(hs:Qmq S C fr h o=some (v,h',x)):Mono h h':=by
 rcases qCq hs with ⟨_,rfl,_⟩|⟨h1,_,ho,rfl,_⟩
 .exact Mono.refl _
 .have:=JLq h.wmin h1.wmin;exact bwq (opM hS ho) this.1 this.2
theorem mUq(hS:SelfM S){ops:Array Oper}:∀(l:List Oper) (i:Nat) (es:List (Nat×Ev)) (fr:Tr V) (h:Heap) (fr':Tr V) (h':Heap),yNq S C ops l i es fr h=some (fr',h') ->Mono h h'
 |[],_,_,fr,h,fr',h',he=>by
  simp only[yNq,Zk,ZQ] at he;rw[<-he.2];exact Mono.refl _
 |o::l,i,es,fr,h,fr',h',he=>by
  simp only[yNq] at he;split at he
  .split at he
   .rename_i v h1 x hst;split at he
    .exact(tbq hS hst).trans (mUq hS l _ _ _ _ _ _ he)
    .cases he
   .rename_i v h1 hst;exact(tbq hS hst).trans (mUq hS l _ _ _ _ _ _ he)
   .cases he
  .exact mUq hS l _ _ _ _ _ _ he
  .cases he
theorem Qrq(hS:SelfM S)(hF:FlowM F):∀(c:Code) (st:St) (x:Exit) (st':St),zdq S F C c st=some (x,st') ->Mono st.h st'.h
 |.skip,st,x,st',he=>by simp only[zdq,Zk,ZQ] at he;rw[<-he.2];exact Mono.refl _
 |.label _,st,x,st',he=>by simp only[zdq,Zk,ZQ] at he;rw[<-he.2];exact Mono.refl _
 |.exit _,st,x,st',he=>by simp only[zdq,Zk,ZQ] at he;rw[<-he.2];exact Mono.refl _
 |.goto _,st,x,st',he=>by simp only[zdq,Zk,ZQ] at he;rw[<-he.2];exact Mono.refl _
 |.ret,st,x,st',he=>by simp only[zdq,Zk,ZQ] at he;rw[<-he.2];exact Mono.refl _
 |.refuse _,st,x,st',he=>by simp[zdq] at he
 |.loop c,st,x,st',he=>hF.loop c st x st' he
 |.seq c d,st,x,st',he=>by
  simp only[zdq] at he;split at he
  .rename_i st1 h1;exact(Qrq hS hF c _ _ _ h1).trans (Qrq hS hF d _ _ _ he)
  .exact Qrq hS hF c _ _ _ he
 |.cond _ c d,st,x,st',he=>by
  simp only[zdq] at he;split at he
  .exact Qrq hS hF c _ _ _ he
  .exact Qrq hS hF d _ _ _ he
  .cases he
 |.block _ c,st,x,st',he=>by
  simp only[zdq] at he;split at he
  .rename_i id' st1 h1;have:=Qrq hS hF c _ _ _ h1;split at he<;>(cases he;exact this)
  .exact Qrq hS hF c _ _ _ he
 |.scope c,st,x,st',he=>by
  simp only[zdq] at he;split at he
  .rename_i l st1 h1;exact(Qrq hS hF c _ _ _ h1).trans (hF.scope _ _ _ _ _ he)
  .exact Qrq hS hF c _ _ _ he
 |.region _ ops dr,st,x,st',he=>by
  cases dr<;>simp only[zdq] at he<;>split at he
  .rename_i he1;cases he;exact AVq hS _ _ _ _ _ he1
  .cases he
  .rename_i he1;cases he;exact mUq hS _ _ _ _ _ _ _ he1
  .cases he
 |.rangeFunc _ _ _ _,st,x,st',he=>by
  simp only[zdq] at he;split at he
  .split at he
   .rename_i u h3 hcall;exact((yrq _ _).trans (yrq _ _)).trans ((hS.fn _ _ _ _ _ hcall).trans (vuq he))
   .cases he
  .cases he
end
theorem jDq:∀(ds:List Nat) (h h1:Heap),qHq ds h=some h1->Mono h h1
 |[],h,h1,e=>by simp only[qHq,Zk] at e;subst e;exact Mono.refl _
 |d::ds,h,h1,e=>by
  simp only[qHq] at e;split at e
  .rename_i hg;exact(yFq hg).trans (jDq ds _ _ e)
  .cases e
theorem vsq{C:Cfg}{fn:Func}{st:St}{v:V}{h':Heap}(hf:c4q C fn st=some (v,h')):Mono st.h h':=by
 unfold c4q at hf;split at hf
 .cases hf
 .rename_i h1 ht;have:=jDq _ _ _ ht;split at hf<;>first|(cases hf;done)|(cases hf;exact this)
theorem Aeq(C:Cfg)(hK:∀f k,C.known f=some k->∀vs h v h',k vs h=some (v,h') ->Mono h h'):∀n,SelfM ⟨yPq C n,zNq C n⟩/\FlowM ⟨ybq C n,zRq C n⟩
 |0=>⟨⟨λf vs h v h' he=>by simp[yPq] at he,λl vs h v h' he=>by simp[zNq] at he⟩,⟨λc st x st' he=>by simp[ybq] at he,λc l st x st' he=>by simp[zRq] at he⟩⟩
 | n + 1=>by
  obtain⟨hS,hF⟩:=Aeq C hK n;have cm:=Qrq (C:=C) hS hF;refine⟨⟨λf vs h v h' he=>?_,λl vs h v h' he=>?_⟩,⟨λc st x st' he=>?_,λc l st x st' he=>?_⟩⟩
  .simp only[yPq] at he;split at he
   .rename_i k hk;exact hK f k hk _ _ _ _ he
   .split at he
    .cases he
    .split at he
     .split at he
      .rename_i st h1;exact(cm _ _ _ _ h1).trans (vsq he)
      .rename_i st h1;exact(cm _ _ _ _ h1).trans (vsq he)
      .cases he
     .cases he
  .simp only[zNq] at he;split at he
   .split at he
    .cases he
    .split at he
     .rename_i st1 h1;split at he
      .rename_i hget1;split at he
       .rename_i x st2 h2;split at he
        .rename_i hget2;have m:=((cm _ _ _ _ h1).trans (yFq hget1)).trans (cm _ _ _ _ h2);split at he<;>first|(cases he;done)|(cases he;exact m.trans (yFq hget2))
        .cases he
       .cases he
      .cases he
     .cases he
   .cases he
  .simp only[ybq] at he;split at he
   .rename_i st1 h1;exact(cm _ _ _ _ h1).trans (hF.loop _ _ _ _ he)
   .exact cm _ _ _ _ he
  .simp only[zRq] at he;split at he
   .split at he
    .rename_i l' st1 h1;exact(cm _ _ _ _ h1).trans (hF.scope _ _ _ _ _ he)
    .exact cm _ _ _ _ he
   .cases he
section
variable {P:Program} {C:Cfg} {s0:World} {U N:Nat} {D:Nat->Prop} {ρ:Env} {h h':Heap} {w:World} {a:Act}
theorem uFq{fn:Func}{tmps:Array Value}{R:Ending->World->Prop}:∀(ds:List Nat) (h h1:Heap) (w:World),qHq ds h=some h1->h1.next<=U->Rel s0 U D ρ h w->(∀d∈ds,D d) ->
  (∀w',Rel s0 U D ρ h1 w'->Nxt D ρ h w D ρ h1 w'->LeavesInM Fence.wide 0 P fn tmps R [] .returning w') ->LeavesInM Fence.wide 0 P fn tmps R (ds.map (mkD ρ)) .returning w
 |[],h,h1,w,e,_,rel,_,k=>by
  simp only[qHq,Zk] at e;subst e;exact k w rel (Nxt.refl _ _ _ _)
 |d::ds,h,h1,w,e,hU,rel,hd,k=>by
  simp only[qHq] at e;split at e
  .rename_i hg;have hD:=hd d Xi;obtain⟨o,q1,q2⟩:=rel.has d _ hD hg;have q2:o= .deferred (some []):=q2;subst q2;refine⟨by simp,.inl ⟨ρ.b d,_,rfl,run_takeDeferred q1,?_⟩⟩;have ht:=qkq (w:=w) (b:=ρ.b d) (.deferred none) (Zp.1 q1).1;obtain⟨r2,n2⟩:=rel.put (b':=.dfr true) hD hg Y Y ht rfl trivial;have hU2:=Zs (jDq ds _ _ e).nxt hU;exact uFq ds _ h1 _ e hU r2 (λx hx=>hd x (by simp[hx])) λw' r3 n3=>k w' r3 (n2.trans rel.lt hU n3)
  .cases e
theorem gzq(hC:CfgOK P C){fr:Tr V}(g:FrE C D ρ fr a)(rel:Rel s0 U D ρ h w){r:ResultVar}{v:V}(hr:toq C fr h r=some v):Zhq P a.tmps w r (aaq ρ v)/\InD (DD D ρ) v:=by
 cases r with
 |tmp t=>
  have:=g.at_ t v hr;exact⟨by simp[Zhq,ZZ,this],g.in_ t v hr⟩
 |cell p T=>
  simp only[toq] at hr;split at hr
  .rename_i b off i hp hT;split at hr
   .rename_i u hu;have hb:=g.in_ p _ hp;have:=g.at_ p _ hp;obtain⟨l1,l2⟩:=QMq hC rel hT hb.1 hu hr;exact⟨⟨_,by simp[ZZ,this,aaq],l1⟩,l2⟩
   .cases hr
  .cases hr
theorem xIq(hC:CfgOK P C){fr:Tr V}(g:FrE C D ρ fr a)(rel:Rel s0 U D ρ h w):∀(l:List ResultVar) (vs:List V),n3q C fr h l=some vs->BGq (Zhq P a.tmps w) l (zMq ρ vs)/\InDL (DD D ρ) vs
 |[],vs,e=>by
  simp only[n3q,Zk] at e;subst e;exact⟨trivial,trivial⟩
 |r::l,vs,e=>by
  simp only[n3q] at e;split at e
  .rename_i v vs' h1 h2;cases e;obtain⟨q1,q2⟩:=gzq hC g rel h1;obtain⟨q3,q4⟩:=xIq hC g rel l vs' h2;exact⟨⟨q1,q3⟩,q2,q4⟩
  .cases e
theorem qjq(ρ:Env)(l:List V):(zMq ρ l).length=l.length:=by rw[kxq];simp
theorem bNq(hC:CfgOK P C){fn:Func}{st:St}{v:V}(hf:c4q C fn st=some (v,h'))(hU:h'.next<=U){r:Option Nat}(g:StR C s0 U N r [] D ρ st a w){R:Ending->World->Prop}(k:∀w',Rel s0 U D ρ h' w'->Nxt D ρ st.h w D ρ h' w'->InD (DD D ρ) v->R (.returned (aaq ρ v)) w'):
  LeavesInM Fence.wide 0 P fn a.tmps R a.defers .returning w:=by
 unfold c4q at hf;split at hf
 .cases hf
 .rename_i h1 ht;rw[g.defs,ZU];split at hf
  .rename_i u hr;cases hf;refine uFq _ _ _ _ ht hU g.rel g.din λw' r' n'=>?_
   have g':FrE C D ρ st.fr a:=g.fr;obtain⟨q1,q2⟩:=xIq hC g' r' _ _ hr
   have hrl:∃rv,fn.results.toList=[rv]:=by
    cases hl:fn.results.toList with
    |nil=>rw[hl] at q1;exact q1.elim
    |cons rv l=>cases l with
     |nil=>exact⟨rv,rfl⟩
     |cons _ _=>rw[hl] at q1;exact q1.2.elim
   obtain⟨rv,hrv⟩:=hrl;rw[hrv] at q1;exact⟨_,dLq (by apply YA.1;simpa using hrv) q1.1,k w' r' n' q2.1⟩
  .rename_i us hne hr;cases hf;refine uFq _ _ _ _ ht hU g.rel g.din λw' r' n'=>?_
   obtain⟨q1,q2⟩:=xIq hC g.fr r' _ _ hr
   refine⟨_,dKq (rvs:=fn.results.toList) Xi (λe=>?_) q1,by
    have:=k w' r' n' q2;simpa[aaq] using this⟩
   rw[qjq] at e;cases us with
   |nil=>cases e
   |cons u us=>cases us with
    |nil=>exact hne u rfl
    |cons _ _=>cases e
  .cases hf
end
noncomputable def qyq(P:Program)(C:Cfg)(f:FuncId)(k:List V->Heap->Option (V×Heap)):Prop:=∀vs h v h',k vs h=some (v,h') ->
 Mono h h'/\(∀args w,(callFunc f args).run P w= .ok (.enter f args) w)/\∀s0 U D ρ w,h'.next<=U->GlobOK C (DD D ρ) ρ->InDL (DD D ρ) vs->Rel s0 U D ρ h w->Calls P f (zMq ρ vs).toArray w (k0q s0 U D ρ h w v h')
noncomputable def jhq(P:Program)(C:Cfg):Prop:=∀f k,C.known f=some k->qyq P C f k
structure RunOK(P:Program)(C:Cfg)(n:Nat):Prop where
 self:SelfOK P C ⟨yPq C n,zNq C n⟩
 loop:∀N c,yAq N c=true->jKq P C N (ybq C n c) (λr Q a w=>Code.roundsIn (FF r) 0 P c Q n a w)
 scope:∀N c l,yAq N c=true->jKq P C N (zRq C n c l) (λr Q a w=>vSq (FF r) 0 P c Q n l a w)
section
variable {P:Program} {C:Cfg}
theorem jAq(hmx:P.follows .mixedOrders=true)(hC:CfgOK P C){n:Nat}(ih:RunOK P C n){N:Nat}{c:Code}(hok:yAq N c=true):
  jKq P C N (zdq ⟨yPq C n,zNq C n⟩ ⟨ybq C n,zRq C n⟩ C c) (λr Q a w=>c.wpIn (FF r) 0 P Q a w):=
 jpq hC ih.self ⟨n,ih.loop,ih.scope⟩ (biq hmx hC ih.self) c hok
theorem lMq(hmx:P.follows .mixedOrders=true)(hC:CfgOK P C){n:Nat}(ih:RunOK P C n)(N:Nat)(c:Code)(hok:yAq N c=true):jKq P C N (ybq C (n+1) c) (λr Q a w=>Code.roundsIn (FF r) 0 P c Q (n+1) a w):=by
 intro st x st' he;have cs:=jAq hmx hC ih hok;simp only[ybq] at he;split at he
 .rename_i st1 h1;obtain⟨m1,k1⟩:=cs _ _ _ h1;obtain⟨m2,k2⟩:=ih.loop N c hok _ _ _ he;refine⟨m1.trans m2,λs0 U r tl D ρ a w Q hU g k=>k1 s0 U r tl D ρ a w _ (Zs m2.nxt hU) g λD1 ρ1 a1 w1 g1 n1=>?_⟩;exact k2 s0 U r tl D1 ρ1 a1 w1 Q hU g1 λD2 ρ2 a2 w2 g2 n2=>k D2 ρ2 a2 w2 g2 (n1.trans g.rel.lt hU n2)
 .rename_i hne;obtain⟨m1,k1⟩:=cs _ _ _ he;refine⟨m1,λs0 U r tl D ρ a w Q hU g k=>k1 s0 U r tl D ρ a w _ hU g λD1 ρ1 a1 w1 g1 n1=>?_⟩;have hq:=k D1 ρ1 a1 w1 g1 n1;cases x with
  |normal=>exact absurd he (hne st')
  |_=>exact hq
theorem gsq(hmx:P.follows .mixedOrders=true)(hC:CfgOK P C){n:Nat}(ih:RunOK P C n)(N:Nat)(c:Code)(l:Nat)(hok:yAq N c=true):jKq P C N (zRq C (n+1) c l) (λr Q a w=>vSq (FF r) 0 P c Q (n+1) l a w):=by
 intro st x st' he;simp only[zRq] at he;split at he
 .rename_i rest hrest;have cs:=jAq hmx hC ih (xWq c l rest hrest hok);split at he
  .rename_i l' st1 h1;obtain⟨m1,k1⟩:=cs _ _ _ h1;obtain⟨m2,k2⟩:=ih.scope N c l' hok _ _ _ he;refine⟨m1.trans m2,λs0 U r tl D ρ a w Q hU g k=>⟨rest,hrest,k1 s0 U r tl D ρ a w _ (Zs m2.nxt hU) g λD1 ρ1 a1 w1 g1 n1=>?_⟩⟩;exact k2 s0 U r tl D1 ρ1 a1 w1 Q hU g1 λD2 ρ2 a2 w2 g2 n2=>k D2 ρ2 a2 w2 g2 (n1.trans g.rel.lt hU n2)
  .rename_i hne;obtain⟨m1,k1⟩:=cs _ _ _ he;refine⟨m1,λs0 U r tl D ρ a w Q hU g k=>⟨rest,hrest,k1 s0 U r tl D ρ a w _ hU g λD1 ρ1 a1 w1 g1 n1=>?_⟩⟩;have hq:=k D1 ρ1 a1 w1 g1 n1;cases x with
   |goto l=>exact absurd he (hne l st')
   |_=>exact hq
 .cases he
theorem n0q(hmx:P.follows .mixedOrders=true)(hC:CfgOK P C)(hF:vJq P C)(hK:jhq P C){n:Nat}(ih:RunOK P C n){f:FuncId}{vs:List V}{h:Heap}{v:V}{h':Heap}(hr:yPq C (n+1) f vs h=some (v,h')):
  Mono h h'/\(∀args w,(callFunc f args).run P w= .ok (.enter f args) w)/\∀s0 U D ρ w,h'.next<=U->GlobOK C (DD D ρ) ρ->InDL (DD D ρ) vs->Rel s0 U D ρ h w->Calls P f (zMq ρ vs).toArray w (k0q s0 U D ρ h w v h'):=by
 simp only[yPq] at hr;split at hr
 .rename_i k hk;exact hK f k hk _ _ _ _ hr
 split at hr
 .cases hr
 .rename_i fn hfn;obtain⟨hf,he,hok⟩:=hF f fn hfn;split at hr
  .rename_i c hb hle;have hle:=Yb hle;have cs:=jAq hmx hC ih (hok c hb)
   have key:∀x st,(x= .normal\/x= .ret) ->zdq ⟨yPq C n,zNq C n⟩ ⟨ybq C n,zRq C n⟩ C c ⟨x0q 0 vs .nil,h,[],false⟩=some (x,st) ->c4q C fn st=some (v,h') ->
     Mono h h'/\∀s0 U D ρ w,h'.next<=U->GlobOK C (DD D ρ) ρ->InDL (DD D ρ) vs->Rel s0 U D ρ h w->Calls P f (zMq ρ vs).toArray w (k0q s0 U D ρ h w v h'):=λx st hx h1 h2=>by
    obtain⟨m1,k1⟩:=cs _ _ _ h1;have m2:=vsq h2;refine⟨m1.trans m2,λs0 U D ρ w hU gl hin rel=>?_⟩;refine callsIn_wide.1 (callsIn_of_wp_marks (F:=Fence.wide) (n:=0) hf hb trivial ?_)
    have harg:∀t u,(x0q 0 vs .nil).get t=some u->((zMq ρ vs).toArray++Array.replicate (fn.ntmps-(zMq ρ vs).toArray.size) undef)[t]? =some (aaq ρ u)/\InD (DD D ρ) u:=λt u hu=>by
     rw[vGq] at hu;split at hu
     .rename_i hlt;simp only[Y8,ZN] at hu hlt;refine⟨?_,InDL.at_ hin hu⟩;rw[Array.getElem?_append_left (by simp[qjq];exact hlt.2),kxq];simp[hu]
     .simp[Tr.get_nil] at hu
    refine k1 s0 U none [] D ρ _ w _ (Zs m2.nxt hU) ⟨⟨⟨λt u hu=>(harg t u hu).1,λt u hu=>(harg t u hu).2,gl⟩⟩,rel,?_,rfl,(λd hd=>by cases hd),rfl⟩ λD1 ρ1 a1 w1 g1 n1=>?_
    .simp only[Array.size_append,Array.size_replicate,ZR,qjq];omega
    .have fin:=bNq (P:=P) hC h2 hU g1 (R:=k0q s0 U D ρ h w v h') λw' r' n' i'=>⟨D1,ρ1,rfl,r',n1.trans rel.lt hU n',i'⟩
     rcases hx with rfl|rfl<;>exact fin
   split at hr
   .rename_i st h1;obtain⟨q1,q2⟩:=key _ _ (.inl rfl) h1 hr;exact⟨q1,he,q2⟩
   .rename_i st h1;obtain⟨q1,q2⟩:=key _ _ Jm h1 hr;exact⟨q1,he,q2⟩
   .cases hr
  .cases hr
theorem prq(hmx:P.follows .mixedOrders=true)(hC:CfgOK P C){n:Nat}(ih:RunOK P C n){l:Nat}{vs:List V}{h:Heap}{v:V}{h':Heap}(hr:zNq C (n+1) l vs h=some (v,h')):
  ∀s0 U D ρ w,h'.next<=U->GlobOK C (DD D ρ) ρ->D l->InDL (DD D ρ) vs->Rel s0 U D ρ h w->YieldAt Fence.wide 0 P (ρ.l l).1 (zMq ρ vs).toArray w (k0q s0 U D ρ h w v h'):=by
 simp only[zNq] at hr;split at hr
 .rename_i fr ps asg bd d hget;split at hr
  .cases hr
  .rename_i hlen;have hlen:vs.length=ps.size:=Zh hlen;split at hr
   .rename_i st1 h1;split at hr
    .rename_i fr1 ps1 asg1 bd1 d1 hget1;split at hr
     .rename_i x st2 h2;split at hr
      .rename_i fr2 ps2 asg2 bd2 d2 hget2
       --the end of a round
       obtain⟨b,stt,pe,hb,hst,hv,hh⟩:∃(b:Bool) (stt:LoopState) (pe:Option Code),(pe.isNone=b/\stt=(if pe.isNone then .ready else .done))/\((x= .normal/\pe=none)\/(x= .ret/\pe=some .ret)\/(∃id,x= .exit id/\pe=some (.exit id))\/(∃id,x= .goto id/\pe=some (.goto id)))/\v= .bool b/\h'=st2.h.put l (.loop stt pe fr2 ps2 asg2 bd2 d2):=by
        split at hr
        .cases hr;exact⟨true,.ready,none,⟨rfl,rfl⟩,.inl ⟨rfl,rfl⟩,rfl,rfl⟩
        .cases hr;exact⟨false,.done,_,⟨rfl,rfl⟩,.inr (.inl ⟨rfl,rfl⟩),rfl,rfl⟩
        .cases hr;exact⟨false,.done,_,⟨rfl,rfl⟩,.inr (.inr (.inl ⟨_,rfl,rfl⟩)),rfl,rfl⟩
        .cases hr;exact⟨false,.done,_,⟨rfl,rfl⟩,.inr (.inr (.inr ⟨_,rfl,rfl⟩)),rfl,rfl⟩
        .cases hr
       subst hv;subst hh
       clear hr;obtain⟨hb1,hb2⟩:=hb;intro s0 U D ρ w hU gl hl hin rel;have hU2:st2.h.next<=U:=hU;obtain⟨o,q1,q2⟩:=rel.has l _ hl hget;obtain⟨fnM,tmps,rfl,qt,ql,qp,qa,qb⟩:=q2;have hcl:=rel.clo l _ hl hget;have hlh:=rel.blt hget;have hy:=run_yield (P:=P) (args:=(zMq ρ vs).toArray) q1 (by simp[qjq,hlen]);rw[ql];refine⟨fnM,_,asg,bd,hy,e0q (r:=none) (n:=0) (roundIn_of_wpIn (F:=Fence.wide) trivial ?_)⟩;clear hy;obtain⟨g1,g2⟩:=QDq (ρ:=ρ) (D:=DD D ρ) ps.toList vs fr tmps (λt u hu=>⟨qt t u hu,hcl.1 t u hu⟩) hin qp
       have hT:(ps.zip (zMq ρ vs).toArray).foldl (λtmps (t,a)=>tmps.setIfInBounds t a) tmps=(ps.toList.zip (zMq ρ vs)).foldl (λt (p:Tmp×Value)=>t.setIfInBounds p.1 p.2) tmps:=by
        rw[<-Array.foldl_toList,Array.toList_zip]
       simp only[hT];obtain⟨m1,k1⟩:=jAq hmx hC ih qa _ _ _ h1;obtain⟨m2,k2⟩:=jAq hmx hC ih qb _ _ _ h2;have hU1:st1.h.next<=U:=Zs m2.nxt hU2;refine k1 s0 U (some (ρ.b l)) [] D ρ _ w _ hU1 ⟨⟨⟨λt u hu=>(g1 t u hu).1,λt u hu=>(g1 t u hu).2,gl⟩⟩,rel,g2,rfl,(λd hd=>by cases hd),rfl⟩ λD1 ρ1 a1 w1 s1 n1=>?_
       have hl1:D1 l:=n1.sub l hl;have eb1:ρ1.b l=ρ.b l:=(n1.env l (.inl hlh)).1;obtain⟨o1,p1,p2⟩:=s1.rel.has l _ hl1 hget1;obtain⟨fn1,tmps1,rfl,pt,pl,pp,pa,pb⟩:=p2;have hcl1:=s1.rel.clo l _ hl1 hget1;have hlh1:=s1.rel.blt hget1;have p1':=p1;rw[eb1] at p1';refine⟨_,run_beginRound p1' rfl,?_⟩;have ht:=qkq (w:=w1) (b:=ρ1.b l) (.loop {state:=.busy,pending:=none,fn:=fn1,tmps:=tmps1,params:=ps1,assign:=asg1,body:=bd1,defers:=ρ1.b d1}) (Zp.1 p1).1;obtain⟨r2,n2⟩:=s1.rel.put (b':=.loop .busy none fr1 ps1 asg1 bd1 d1) hl1 hget1 Y Y ht ⟨fn1,tmps1,rfl,pt,pl,pp,pa,pb⟩ hcl1;rw[eb1] at r2 n2;have n12:=n1.trans rel.lt (by exact hU1) n2;refine k2 s0 U (some (ρ.b l)) [] D1 ρ1 a1 _ _ hU2 (s1.next hU1 n2 r2) λD3 ρ3 a3 w3 s3 n3=>?_
       have hl3:D3 l:=n3.sub l hl1;have eb3:ρ3.b l=ρ.b l:=((n3.env l (.inl hlh1)).1).trans eb1;obtain⟨o3,t1,t2⟩:=s3.rel.has l _ hl3 hget2;obtain⟨fn3,tmps3,rfl,tt,tl,tp,ta,tb⟩:=t2;have hcl3:=s3.rel.clo l _ hl3 hget2;have t1':=t1;rw[eb3] at t1';have ht3:=qkq (w:=w3) (b:=ρ3.b l) (.loop {state:=stt,pending:=pe,fn:=fn3,tmps:=tmps3,params:=ps2,assign:=asg2,body:=bd2,defers:=ρ3.b d2}) (Zp.1 t1).1;obtain⟨r4,n4⟩:=s3.rel.put (b':=.loop stt pe fr2 ps2 asg2 bd2 d2) hl3 hget2 Y Y ht3 ⟨fn3,tmps3,rfl,tt,tl,tp,ta,tb⟩ hcl3;rw[eb3] at r4 n4;have n14:=(n12.trans rel.lt hU2 n3).trans rel.lt hU n4;have hrun:=run_endRound (P:=P) pe t1'
       have fin:∃v w',(Instr.endRound (ρ.b l) pe).run P w3= .ok v w'/\k0q s0 U D ρ h w (.bool b) (st2.h.put l (.loop stt pe fr2 ps2 asg2 bd2 d2)) (.returned v) w':=by
        refine⟨_,_,hrun,D3,ρ3,?_,?_,?_,trivial⟩
        .rw[hb1];rfl
        .rw[<-hb2];exact r4
        .rw[<-hb2];exact n14
       rcases hst with ⟨rfl,rfl⟩|⟨rfl,rfl⟩|⟨id,rfl,rfl⟩|⟨id,rfl,rfl⟩<;>exact fin
      .cases hr
     .cases hr
    .cases hr
   .cases hr
 .cases hr
theorem bdq(hmx:P.follows .mixedOrders=true)(hC:CfgOK P C)(hF:vJq P C)(hK:jhq P C):∀n,RunOK P C n
 |0=>⟨⟨(Aeq C (λf k hk vs h v h' he=>(hK f k hk vs h v h' he).1) 0).1.fn,λf vs h v h' he=>by simp[yPq] at he,λf vs h v h' he=>by simp[yPq] at he,(Aeq C (λf k hk vs h v h' he=>(hK f k hk vs h v h' he).1) 0).1.yield,λl vs h v h' he=>by simp[zNq] at he⟩,
   λN c _ st x st' he=>by simp[ybq] at he,λN c l _ st x st' he=>by simp[zRq] at he⟩
 |n+1=>by
  have ih:=bdq hmx hC hF hK n;have m:=Aeq C (λf k hk vs h v h' he=>(hK f k hk vs h v h' he).1) (n+1)
  exact⟨⟨m.1.fn,λf vs h v h' he=>(n0q hmx hC hF hK ih he).2.1,λf vs h v h' he=>(n0q hmx hC hF hK ih he).2.2,m.1.yield,λl vs h v h' he=>prq hmx hC ih he⟩,
   lMq hmx hC ih,gsq hmx hC ih⟩
theorem gtq(hmx:P.follows .mixedOrders=true)(hC:CfgOK P C)(hF:vJq P C)(hK:jhq P C){n:Nat}{f:FuncId}{vs:List V}{h:Heap}{v:V}{h':Heap}(hr:yPq C n f vs h=some (v,h')){D:Nat->Prop}{ρ:Env}{w:World}(gl:GlobOK C (DD D ρ) ρ)(hin:InDL (DD D ρ) vs)(rel:Rel w h'.next D ρ h w):
  Calls P f (zMq ρ vs).toArray w λe w'=>∃D' ρ',e= .returned (aaq ρ' v)/\Below w.heap.size w w'/\Rel w h'.next D' ρ' h' w'/\Nxt D ρ h w D' ρ' h' w':=
 ((bdq hmx hC hF hK n).self.fn f vs h v h' hr w h'.next D ρ w (Zc _) gl hin rel).mono λe w'=>by
  rintro⟨D',ρ',rfl,q1,q2,_⟩;exact⟨D',ρ',rfl,q1.base,q1,q2⟩
end
mutual
noncomputable def b2q:V->Bool
 |.ptr _ _=>false
 |.sl _ _ _ _ _ _=>false
 |.map _=>false
 |.yield _=>false
 |.fn _ a c=>Zyq a&&Zyq c
 |.iface _ v=>b2q v
 |.agg _ l=>Zyq l
 |.arr _ _ l=>Zyq l
 |.tup l=>Zyq l
 |.undef=>true
 |.bool _=>true
 |.int _ _=>true
 |.str _=>true
 |.nilp=>true
 |.nils=>true
 |.nilm=>true
 |.nilf=>true
 |.nili=>true
noncomputable def Zyq:List V->Bool
 |[]=>true
 |v::l=>b2q v&&Zyq l
end
mutual
theorem bare_in{D:Nat->Nat->Prop}:∀{v:V},b2q v=true->InD D v
 |.ptr _ _,h=>by simp[b2q] at h
 |.sl _ _ _ _ _ _,h=>by simp[b2q] at h
 |.map _,h=>by simp[b2q] at h
 |.yield _,h=>by simp[b2q] at h
 |.fn _ a c,h=>by simp only[b2q,Zb] at h;exact⟨uiq h.1,uiq h.2⟩
 |.iface _ v,h=>bare_in (v:=v) h
 |.agg _ l,h=>uiq (l:=l) h
 |.arr _ _ l,h=>uiq (l:=l) h
 |.tup l,h=>uiq (l:=l) h
 |.undef,_=>trivial
 |.bool _,_=>trivial
 |.int _ _,_=>trivial
 |.str _,_=>trivial
 |.nilp,_=>trivial
 |.nils,_=>trivial
 |.nilm,_=>trivial
 |.nilf,_=>trivial
 |.nili,_=>trivial
theorem uiq{D:Nat->Nat->Prop}:∀{l:List V},Zyq l=true->InDL D l
 |[],_=>trivial
 |v::l,h=>by simp only[Zyq,Zb] at h;exact⟨bare_in h.1,uiq h.2⟩
end
theorem drq{v:V}(h:b2q v=true):InD (λ_ _=>False) v:=bare_in h
theorem l9q{P:Program}{t:TypeId}(h:(P.underlying t).map (λd=>match d with|.struct _=>false|.array _ _=>false|.interface _=>false|_=>true)=some true):TyD.Is P t .other:=by
 unfold TyD.Is;cases hu:P.underlying t with
 |none=>rw[hu] at h;cases h
 |some d=>rw[hu] at h;cases d<;>simp_all
theorem mGq{P:Program}{t:TypeId}(h:(P.underlying t).map (λd=>match d with|.interface _=>true|_=>false)=some true):TyD.Is P t .iface:=by
 unfold TyD.Is;cases hu:P.underlying t with
 |none=>rw[hu] at h;cases h
 |some d=>rw[hu] at h;cases d<;>simp_all
structure FnOK(P:Program)(f:FuncId)(fn:Func):Prop where
 at_:P.funcs[f]? =some fn
 ent:∀args w,(callFunc f args).run P w= .ok (.enter f args) w
 ok:(match fn.body with|some c=>yAq fn.ntmps c|none=>true)=true
theorem mTq{P:Program}{C:Cfg}(h:∀f fn,C.fn f=some fn->FnOK P f fn):vJq P C:=λf fn hf=>by
 obtain⟨h1,h2,h3⟩:=h f fn hf;refine⟨h1,h2,λc hc=>?_⟩;rw[hc] at h3;exact h3
noncomputable def iXq(P:Program)(f:FuncId)(e:List V->Option V):Prop:=∀ρ vs v,e vs=some v->(∀w,(callFunc f (zMq ρ vs).toArray).run P w= .ok (.value (aaq ρ v)) w)/\∀D,InDL D vs->InD D v
theorem nFq{P:Program}{f:FuncId}(hrun:∀args w,(callFunc f args).run P w=((add64Entry args).run P w).andThen λv w'=>.ok (.value v) w'):iXq P f eMq:=by
 intro ρ vs v h;unfold eMq at h;split at h
 .rename_i x y c;split at h
  .rename_i hc;have hc:=Yb hc;cases h;refine⟨λw=>?_,λD _=>⟨trivial,trivial,trivial⟩⟩;rw[hrun];simp only[zMq,aaq];rw[run_add64 _ _ _ Xi Xi Xi (by simp only[Int.ofNat_eq_natCast];omega)];simp only[Result.andThen];congr 4
  .cases h
 .cases h
noncomputable def rho0(K:Nat):Env:=⟨λi=>i,λ_=>0,λ_=>K,λi=>(i,none)⟩
theorem trod_tab{H:Type}{enc:TypeId×Value->H}{P:Program}{w:World}{base:Nat}{spare:Nat->Bool}{held:Bool}{fuel:Nat}{t e:TypeId}{n:Nat}{k:IntKind}{cs:List Value}{ns:List Int}{p:List MemPlace}
  (ht:P.underlying t=some (.array n e)) (he:P.underlying e=some (.int k)) (hc:P.cellsOf e=1) (hct:P.cellsOf t=n) (hn:ns.length=n)
  (h:DataW.trod enc P w base spare held fuel t cs=some (.agg (ns.map λz=>.lit (.int k z)),p)):cs=ns.map λz=>.int k z:=by
 obtain⟨xs,m,rfl,hx,hl,hxl,hel⟩:=DataW.trod_array ht h;simp only[ZQ,DataW.agg.injEq] at hx;have hx:=hx.1;rw[hct] at hl;apply List.ext_getElem?;intro i;by_cases hi:i<n
 .have h1:=hel i hi;rw[hc,Z2] at h1;obtain⟨x,hxi⟩:∃x,xs[i]? =some x:=⟨_,Za Xd⟩
  rw[hxi] at h1;obtain⟨z,g1,g2,_⟩:=DataW.trod_int he h1;have h2:(ns.map λz=>(DataW.lit (.int k z):DataW H))[i]? =(xs.map (·.1))[i]? :=by rw[hx]
  rw[ZY,ZY,hxi,g2] at h2;obtain⟨z',hz'⟩:∃z,ns[i]? =some z:=⟨_,Za Xd⟩
  rw[hz'] at h2;simp at h2;subst h2
  have h3:cs[i]? =some (.int k z'):=by
   have:=Ze (·[0]?) g1;simp only[List.getElem?_take_of_lt (Nat.zero_lt_one),ZX,Y3] at this;simpa using this
  rw[h3,ZY,hz'];rfl
 .rw[List.getElem?_eq_none Xd,List.getElem?_eq_none Xo]
noncomputable def hfq:List (String×FuncId) ->String->Option FuncId
 |[],_=>none
 |p::l,m=>match decide (p.1=m) with
  |true=>some p.2
  |false=>hfq l m
noncomputable def Ccq(P:Program)(t:TypeId)(l:List (String×FuncId)):Prop:=∀m f,hfq l m=some f->∀v args w,(callMethod (.iface t v) m args).run P w=(callFunc f (#[v]++args)).run P w
noncomputable def Alq(T:Tr (List (String×FuncId)))(t:TypeId)(m:String):Option FuncId:=match T.get t with
 |some l=>hfq l m
 |none=>none
theorem hdq{P:Program}{T:Tr (List (String×FuncId))}(h:∀t l,T.get t=some l->Ccq P t l)(t:TypeId)(m:String)(f:FuncId)(hm:Alq T t m=some f)(v:Value)(args:Array Value)(w:World):(callMethod (.iface t v) m args).run P w=(callFunc f (#[v]++args)).run P w:=by
 unfold Alq at hm;split at hm
 .rename_i l hl;exact h t l hl m f hm v args w
 .cases hm
noncomputable def nGq(P:Program)(k:Nat):UX->Prop
 |.ptr e=>P.underlying (k/2)=some (.pointer e)
 |.raw=>P.underlying (k/2)=some .unsafePointer
 |.fnc=>∃ps rs v,P.underlying (k/2)=some (.func ps rs v)
 |.mk e=>∃ps rs t,rs[0]? =some t/\P.underlying t=some (.slice e)/\P.underlying e=some (.int .u8)/\∀args w,(callFunc (k/2) args).run P w=(do pure (Next.value (<-Extern.BytealgMakeNoZero.makeNoZero ps rs args))).run P w
theorem clq(t:Nat):2*t/2=t:=by omega
theorem liq(t:Nat):(2*t+1)/2=t:=by omega
theorem nOq{P:Program}{T:Nat->Option UX}(h:∀k x,T k=some x->nGq P k x):∀t e,T (2*t)=some (.ptr e) ->P.underlying t=some (.pointer e):=λt e ht=>by
 have:=h _ _ ht;simp only[nGq,clq] at this;exact this
theorem nNq{P:Program}{T:Nat->Option UX}(h:∀k x,T k=some x->nGq P k x):∀t,T (2*t)=some .raw->P.underlying t=some .unsafePointer:=λt ht=>by
 have:=h _ _ ht;simp only[nGq,clq] at this;exact this
theorem nPq{P:Program}{T:Nat->Option UX}(h:∀k x,T k=some x->nGq P k x):∀t,T (2*t)=some .fnc->∃ps rs v,P.underlying t=some (.func ps rs v):=λt ht=>by
 have:=h _ _ ht;simp only[nGq,clq] at this;exact this
theorem s3q{P:Program}{T:Nat->Option UX}(h:∀k x,T k=some x->nGq P k x):∀f e,T (2*f+1)=some (.mk e) ->∃ps rs t,rs[0]? =some t/\P.underlying t=some (.slice e)/\P.underlying e=some (.int .u8)/\∀args w,(callFunc f args).run P w=(do pure (Next.value (<-Extern.BytealgMakeNoZero.makeNoZero ps rs args))).run P w:=λf e ht=>by
 have:=h _ _ ht;simp only[nGq,liq] at this;exact this
noncomputable def noV:List V->Option V:=λ_=>none
theorem A0q{P:Program}{f:FuncId}:iXq P f noV:=λρ vs v h=>by cases h
theorem igq{v:V}(h:b2q v=true)(ρ ρ':Env):aaq ρ' v=aaq ρ v:=yQq (D:=λ_ _=>False) (λ_ _ h=>h.elim) (bare_in h)
section
inductive W where
 |undef
 |bool (b:Bool)
 |int (k:IntKind) (n:Int)
 |str (s:List UInt8)
 |nilp
 |ptr (b off:Nat)
 |nils
 |sl (b base off len esz:Nat) (lim:Option Nat)
 |fz (l:List W) (esz:Nat) (full:Bool)
 |fel (x:W)
 |nilm
 |fn (f:FuncId) (first captured:List W)
 |yield (l:Nat)
 |nilf
 |iface (t:TypeId) (v:W)
 |nili
 |agg (n:Nat) (items:List W)
 |arr (n e:Nat) (items:List W)
 |tup (vs:List W)
 deriving Inhabited
noncomputable def W.size:W->Nat
 |.agg n _=>n
 |.arr n _ _=>n
 |_=>1
noncomputable def W.isAgg:W->Bool
 |.agg _ _=>true
 |.arr _ _ _=>true
 |_=>false
noncomputable def W.leaf:W->Bool
 |.agg _ _=>false
 |.arr _ _ _=>false
 |.tup _=>false
 |.undef=>false
 |_=>true
noncomputable def QVq:List W->Nat->Option (W×Nat)
 |[],_=>none
 |v::l,o=>match Nat.blt o v.size with
  |true=>some (v,o)
  |false=>QVq l (o-v.size)
noncomputable def zYq:Nat->W->Nat->Nat->Bool->Option W
 |0,_,_,_,_=>none
 |f+1,v,off,n,ag=>
  match Nat.beq off 0&&Nat.beq n v.size&&ag==v.isAgg with
  |true=>match ag||v.leaf with
   |true=>some v
   |false=>none
  |false=>match v with
   |.agg _ l=>match QVq l off with
    |some (x,o)=>zYq f x o n ag
    |none=>none
   |.arr _ e l=>match l[off/e]? with
    |some x=>zYq f x (off%e) n ag
    |none=>none
   |_=>none
noncomputable def Zjq(g:W->Nat->Option W):List W->Nat->Option (List W)
 |[],_=>none
 |v::l,o=>match Nat.blt o v.size with
  |true=>match g v o with
   |some v'=>some (v'::l)
   |none=>none
  |false=>match Zjq g l (o-v.size) with
   |some l'=>some (v::l')
   |none=>none
noncomputable def yoq:Nat->W->Nat->W->Option W
 |0,_,_,_=>none
 | f +1,v,off,x=>
  match Nat.beq off 0&&Nat.beq x.size v.size&&x.isAgg==v.isAgg with
  |true=>match x.isAgg||(v.leaf&&x.leaf) with
   |true=>some x
   |false=>none
  |false=>match v with
   |.agg m l=>match Zjq (λy o=>yoq f y o x) l off with
    |some l'=>some (.agg m l')
    |none=>none
   |.arr m e l=>match l[off/e]? with
    |some y=>match yoq f y (off%e) x with
     |some y'=>some (.arr m e (l.set (off/e) y'))
     |none=>none
    |none=>none
   |_=>none
noncomputable def ysq:Nat->W->Nat->Nat->Nat->Option (List W)
 |0,_,_,_,_=>none
 | f +1,v,off,n,e=>
  match v with
  |.arr m e' l=>match Nat.beq e' e&&Nat.beq (off%e) 0&&Nat.ble (off+n*e) m&&Nat.blt 0 e with
   |true=>some ((l.drop (off/e)).take n)
   |false=>match Nat.beq off 0&&Nat.beq n 1&&Nat.beq m e with
    |true=>some [.arr m e' l]
    |false=>match l[off/e']? with
     |some x=>match Nat.ble (off%e'+n*e) x.size with
      |true=>ysq f x (off%e') n e
      |false=>none
     |none=>none
  |.agg m l=>match Nat.beq off 0&&Nat.beq n 1&&Nat.beq m e with
   |true=>some [.agg m l]
   |false=>match QVq l off with
    |some (x,o)=>match Nat.ble (o+n*e) x.size with
     |true=>ysq f x o n e
     |false=>none
    |none=>none
  |_=>none
noncomputable def vbq:W->Nat->Nat->List W->Option W
 |v,_,_,[]=>some v
 |v,off,e,x::l=>match Nat.beq x.size e&&v.isAgg with
  |true=>match yoq 50 v off x with
   |some v'=>vbq v' (off+e) e l
   |none=>none
  |false=>none
noncomputable def iZq:List W->Nat
 |[]=>0
 |x::l=>x.size+iZq l
mutual
noncomputable def aAq:V->Option W
 |.undef=>none
 |.bool b=>some (.bool b)
 |.int k n=>some (.int k n)
 |.str s=>some (.str s)
 |.nilp=>some .nilp
 |.ptr _ _=>none
 |.nils=>some .nils
 |.sl _ _ _ _ _ _=>none
 |.nilm=>some .nilm
 |.map _=>none
 |.fn _ _ _=>none
 |.yield _=>none
 |.nilf=>some .nilf
 |.iface _ _=>none
 |.nili=>some .nili
 |.agg n l=>match m8q l with
  |some l'=>match Nat.beq (iZq l') n with
   |true=>some (.agg n l')
   |false=>none
  |none=>none
 |.arr n e l=>match m8q l with
  |some l'=>match Nat.beq (iZq l') n&&l'.all λx=>Nat.beq x.size e with
   |true=>some (.arr n e l')
   |false=>none
  |none=>none
 |.tup _=>none
noncomputable def m8q:List V->Option (List W)
 |[]=>some []
 |v::l=>match aAq v,m8q l with
  |some w,some r=>some (w::r)
  |_,_=>none
end
abbrev FrW:=List (Nat×W)
noncomputable def arq:FrW->Nat->Option W
 |[],_=>none
 |(k,w)::l,t=>match Nat.beq k t with
  |true=>some w
  |false=>arq l t
noncomputable def aoq(fr:FrW)(d:Option Tmp)(w:W):FrW:=match d with
 |some t=>(t,w)::fr
 |none=>fr
abbrev HpW:=List (Nat×TypeId×W)
noncomputable def hget:HpW->Nat->Option (TypeId×W)
 |[],_=>none
 |(k,w)::l,t=>match Nat.beq k t with
  |true=>some w
  |false=>hget l t
noncomputable def anq:HpW->Nat->TypeId×W->HpW
 |[],_,_=>[]
 |(k,w)::l,t,x=>match Nat.beq k t with
  |true=>(k,x)::l
  |false=>(k,w)::anq l t x
noncomputable def awq:HpW->Nat->HpW
 |[],_=>[]
 |(k,w)::l,t=>match Nat.beq k t with
  |true=>l
  |false=>(k,w)::awq l t
section
variable (C:Cfg) (G:Nat->Option W) (fr:FrW)
noncomputable def BXq(x:Value):Option W:=match ofV x with
 |some v=>aAq v
 |none=>none
noncomputable def evW:Operand->Option W
 |.tmp t=>arq fr t
 |.const v=>BXq v
 |.global g=>match C.glob g,G g with
  |true,some w=>some (.fel w)
  |_,_=>none
 |.func f=>some (.fn f [] [])
noncomputable def ayq:List Operand->Option (List W)
 |[]=>some []
 |x::l=>match evW C G fr x,ayq l with
  |some v,some r=>some (v::r)
  |_,_=>none
mutual
noncomputable def eqW:Nat->TypeId->W->W->Option Bool
 |0,_,_,_=>none
 | f +1,t,x,y=>match C.ty t with
  |none=>none
  |some i=>match i.d with
   |.int _=>match x,y with
    |.int j a,.int k b=>match decide (j=k) with
     |true=>some (eqI a b)
     |false=>none
    |_,_=>none
   |.bool=>match x,y with
    |.bool a,.bool b=>some (a==b)
    |_,_=>none
   |.str=>match x,y with
    |.str a,.str b=>some (kjq a b)
    |_,_=>none
   |.ptr=>match x,y with
    |.nilp,.nilp=>some true
    |.nilp,.ptr _ _=>some false
    |.ptr _ _,.nilp=>some false
    |.nilp,.fel _=>some false
    |.fel _,.nilp=>some false
    |_,_=>none
   |.slice _=>match x,y with
    |.nils,.nils=>some true
    |.nils,.sl _ _ _ _ _ _=>some false
    |.sl _ _ _ _ _ _,.nils=>some false
    |.nils,.fz (_::_) _ _=>some false
    |.fz (_::_) _ _,.nils=>some false
    |_,_=>none
   |.struct fs=>match x.isAgg&&y.isAgg with
    |true=>Zwq f fs x y
    |false=>none
   |.arr n e=>match x.isAgg&&y.isAgg,C.ty e with
    |true,some j=>YRq f e j n 0 x y
    |_,_=>none
   |_=>none
noncomputable def Zwq:Nat->List (TypeId×Nat) ->W->W->Option Bool
 |0,_,_,_=>none
 |_+1,[],_,_=>some true
 |f+1,(t,off)::fs,x,y=>match C.ty t with
  |none=>none
  |some i=>match zYq 50 x off i.size i.agg,zYq 50 y off i.size i.agg with
   |some a,some b=>match eqW f t a b with
    |some true=>Zwq f fs x y
    |some false=>some false
    |none=>none
   |_,_=>none
noncomputable def YRq:Nat->TypeId->TyI->Nat->Nat->W->W->Option Bool
 |0,_,_,_,_,_,_=>none
 |_+1,_,_,0,_,_,_=>some true
 |f+1,e,j,n+1,k,x,y=>match zYq 50 x (k*j.size) j.size j.agg,zYq 50 y (k*j.size) j.size j.agg with
  |some a,some b=>match eqW f e a b with
   |some true=>YRq f e j n (k+1) x y
   |some false=>some false
   |none=>none
  |_,_=>none
end
noncomputable def veq:W->W->Bool
 |.bool _,.bool _=>true
 |.nilp,.nilp=>true
 |.nilp,.ptr _ _=>true
 |.ptr _ _,.nilp=>true
 |.nilp,.fel _=>true
 |.fel _,.nilp=>true
 |.nils,.nils=>true
 |.nils,.sl _ _ _ _ _ _=>true
 |.sl _ _ _ _ _ _,.nils=>true
 |.nils,.fz _ _ _=>true
 |.fz _ _ _,.nils=>true
 |x,y=>x.isAgg&&y.isAgg
noncomputable def unV:V->Option W
 |.bool b=>some (.bool b)
 |.int k n=>some (.int k n)
 |.str s=>some (.str s)
 |_=>none
noncomputable def w1q(op:BinOp)(t:TypeId)(x y:W):Option W:=match x,y with
 |.int k m,.int k' n=>match op with
  |.shl=>(shI .shl k m n).bind unV
  |.shr=>(shI .shr k m n).bind unV
  |_=>match decide (k=k') with
   |true=>(w3q op k m n).bind unV
   |false=>none
 |.str a,.str b=>(w2q op a b).bind unV
 |x,y=>match veq x y with
  |false=>none
  |true=>match op with
   |.eql=>match eqW C 300 t x y with
    |some b=>some (.bool b)
    |none=>none
   |.neq=>match eqW C 300 t x y with
    |some b=>some (.bool (!b))
    |none=>none
   |_=>none
noncomputable def ccq:W->Option Nat
 |.int _ (.ofNat n)=>some n
 |_=>none
noncomputable def aCq(d:Nat):Option Operand->Option Nat
 |none=>some d
 |some x=>match evW C G fr x with
  |some v=>ccq v
  |none=>none
noncomputable def rXq(b base off len esz:Nat)(lim:Option Nat)(l h:Nat):Option Nat->Option W
 |none=>match Nat.ble l h&&Nat.ble h len with
  |true=>some (.sl b (match Nat.beq l 0 with|true=>base|false=>off) (off+l*esz) (h-l) esz (qNq l lim))
  |false=>none
 |some m=>match Nat.ble l h&&Nat.ble h m&&Nat.ble m len&&Nat.ble 1 len with
  |true=>some (.sl b off (off+l*esz) (h-l) esz (some (m-l)))
  |false=>none
noncomputable def i8q(xs:List W)(esz:Nat)(full:Bool)(l h:Nat):Option Nat->Option W
 |none=>match Nat.ble l h&&Nat.ble h xs.length with
  |true=>some (.fz ((xs.drop l).take (h-l)) esz (full&&Nat.beq h xs.length))
  |false=>none
 |some m=>match Nat.ble l h&&Nat.ble h m&&Nat.ble m xs.length&&Nat.ble 1 xs.length with
  |true=>some (.fz ((xs.drop l).take (h-l)) esz (Nat.beq h m))
  |false=>none
noncomputable def hYq(t:TypeId):W->List (Nat×Operand) ->Option W
 |v,[]=>some v
 |v,(i,x)::l=>match vWq C t i,evW C G fr x with
  |some (off,sz),some y=>match Nat.beq y.size sz with
   |true=>match yoq 50 v off y with
    |some v'=>hYq t v' l
    |none=>none
   |false=>none
  |_,_=>none
noncomputable def sXq(c:Operand)(x:Operand)(y:Operand):Option W:=match evW C G fr c with
 |some (.bool true)=>evW C G fr x
 |some (.bool false)=>evW C G fr y
 |_=>none
noncomputable def duq(x:Operand)(i:Nat):Option W:=match evW C G fr x with
 |some (.tup vs)=>vs[i]?
 |_=>none
noncomputable def BKq(x:Operand):Option W:=match evW C G fr x with
 |some (.ptr b o)=>some (.ptr b o)
 |some (.sl b base off len esz lim)=>some (.sl b base off len esz lim)
 |some (.fel y)=>some (.fel y)
 |some (.fz (y::l) e f)=>some (.fz (y::l) e f)
 |some (.fn f a c)=>some (.fn f a c)
 |some (.yield l)=>some (.yield l)
 |_=>none
noncomputable def BJq(x:Operand):Option W:=match evW C G fr x with
 |some (.bool b)=>some (.bool (!b))
 |_=>none
noncomputable def BLq(x:Operand):Option W:=match evW C G fr x with
 |some (.int k n)=>some (.int k (k2q k (0-n)))
 |_=>none
noncomputable def BIq(x:Operand):Option W:=match evW C G fr x with
 |some (.int k n)=>match Akq k n with
  |some c=>some (.int k c)
  |none=>none
 |_=>none
noncomputable def zJq(op:BinOp)(t:TypeId)(x:Operand)(y:Operand):Option W:=match evW C G fr x,evW C G fr y with
 |some u,some v=>w1q C op t u v
 |_,_=>none
noncomputable def sZq(s:TypeId)(t:TypeId)(x:Operand):Option W:=match C.ty s,C.ty t,evW C G fr x with
 |some _,some j,some v=>match j.d,v with
  |.int k,.int _ n=>some (.int k (k2q k n))
  |.str,.str a=>some (.str a)
  |_,_=>none
 |_,_,_=>none
noncomputable def sYq(f:FuncId)(a:Array Operand)(c:Array Operand):Option W:=match ayq C G fr a.toList,ayq C G fr c.toList with
 |some u,some v=>some (.fn f u v)
 |_,_=>none
noncomputable def nMq(t:TypeId)(parts:Array (Nat×Operand)):Option W:=match C.ty t with
 |some j=>match j.agg,aAq j.zero with
  |true,some z=>hYq C G fr t z parts.toList
  |_,_=>none
 |none=>none
noncomputable def fLq(t:TypeId)(x:Operand)(i:Nat):Option W:=match vQq C t i,evW C G fr x with
 |some (ft,off),some v=>match C.ty ft,v.isAgg with
  |some k,true=>zYq 50 v off k.size k.agg
  |_,_=>none
 |_,_=>none
noncomputable def vNq(t:TypeId)(x:Operand)(i:Nat):Option W:=match vQq C t i,evW C G fr x with
 |some (ft,fo),some (.ptr b off)=>match C.ty ft with
  |some k=>match Nat.beq k.size 0 with
   |true=>none
   |false=>some (.ptr b (off+fo))
  |none=>none
 |some (ft,fo),some (.fel y)=>match C.ty ft with
  |some k=>match Nat.beq k.size 0 with
   |true=>none
   |false=>match zYq 50 y fo k.size k.agg with
    |some z=>some (.fel z)
    |none=>none
  |none=>none
 |_,_=>none
noncomputable def jjq(t:TypeId)(x:Operand)(y:Operand):Option W:=match C.ty t,evW C G fr x,evW C G fr y with
 |some j,some v,some u=>match ccq u,j.d,v with
  |some i,.arr n e,.ptr b off=>match C.ty e,Nat.blt i n with
   |some k,true=>some (.ptr b (off+i*k.size))
   |_,_=>none
  |some i,.arr n e,.fel z=>match C.ty e,Nat.blt i n with
   |some k,true=>match Nat.beq k.size 0 with
    |true=>none
    |false=>match zYq 50 z (i*k.size) k.size k.agg with
     |some r=>some (.fel r)
     |none=>none
   |_,_=>none
  |some i,.slice e,.sl b _ off len esz _=>match C.ty e,Nat.blt i len with
   |some k,true=>match Nat.beq k.size esz with
    |true=>some (.ptr b (off+i*esz))
    |false=>none
   |_,_=>none
  |some i,.slice e,.fz l esz _=>match C.ty e,l[i]? with
   |some k,some r=>match Nat.beq k.size esz with
    |true=>some (.fel r)
    |false=>none
   |_,_=>none
  |_,_,_=>none
 |_,_,_=>none
noncomputable def dtq(t:TypeId)(x:Operand)(y:Operand):Option W:=match C.ty t,evW C G fr x,evW C G fr y with
 |some j,some v,some u=>match ccq u,j.d,v with
  |some i,.str,.str s=>match s[i]? with
   |some c=>some (.int .u8 (.ofNat c.toNat))
   |none=>none
  |some i,.arr n e,v=>match C.ty e,Nat.blt i n,v.isAgg with
   |some k,true,true=>zYq 50 v (i*k.size) k.size k.agg
   |_,_,_=>none
  |_,_,_=>none
 |_,_,_=>none
noncomputable def Z3q(t:TypeId)(x:Operand)(lo:Option Operand)(hi:Option Operand)(mx:Option Operand):Option W:=match C.ty t,evW C G fr x with
 |some j,some v=>match j.d,v with
  |.slice e,.sl b base off len esz lim=>match C.ty e,aCq C G fr 0 lo,aCq C G fr len hi with
   |some k,some l,some h=>match Nat.beq k.size esz with
    |true=>match mx with
     |none=>rXq b base off len esz lim l h none
     |some z=>match hi,aCq C G fr 0 (some z) with
      |some _,some m=>rXq b base off len esz lim l h (some m)
      |_,_=>none
    |false=>none
   |_,_,_=>none
  |.slice e,.fz xs esz full=>match C.ty e,aCq C G fr 0 lo,aCq C G fr xs.length hi with
   |some k,some l,some h=>match Nat.beq k.size esz with
    |true=>match mx with
     |none=>i8q xs esz full l h none
     |some z=>match hi,aCq C G fr 0 (some z) with
      |some _,some m=>i8q xs esz full l h (some m)
      |_,_=>none
    |false=>none
   |_,_,_=>none
  |.slice e,.nils=>match C.ty e,aCq C G fr 0 lo,aCq C G fr 0 hi,mx with
   |some _,some 0,some 0,none=>some .nils
   |_,_,_,_=>none
  |.str,.str s=>match aCq C G fr 0 lo,aCq C G fr s.length hi,mx with
   |some l,some h,none=>match Nat.ble l h&&Nat.ble h s.length with
    |true=>some (.str ((s.drop l).take (h-l)))
    |false=>none
   |_,_,_=>none
  |_,_=>none
 |_,_=>none
noncomputable def BMq(t:TypeId)(x:Operand):Option W:=match C.ty t,evW C G fr x with
 |some j,some v=>match j.d with
  |.iface=>none
  |_=>some (.iface t v)
 |_,_=>none
noncomputable def fMq(x:Operand)(t:TypeId)(ok:Bool):Option W:=match C.ty t,evW C G fr x with
 |some j,some v=>match j.d with
  |.iface=>none
  |_=>match v,ok with
   |.nili,true=>match aAq j.zero with
    |some z=>some (.tup [z,.bool false])
    |none=>none
   |.iface s u,true=>match Nat.beq s t with
    |true=>some (.tup [u,.bool true])
    |false=>match aAq j.zero with
     |some z=>some (.tup [z,.bool false])
     |none=>none
   |.iface s u,false=>match Nat.beq s t with
    |true=>some u
    |false=>none
   |_,_=>none
 |_,_=>none
noncomputable def BPq(args:Array Operand)(ats:Array TypeId):Option W:=match ats.toList,args.toList with
 |[t],[x]=>match C.ty t,evW C G fr x with
  |some j,some v=>match j.d,v with
   |.str,.str s=>some (.int .i64 (.ofNat s.length))
   |.slice _,.sl _ _ _ n _ _=>some (.int .i64 (.ofNat n))
   |.slice _,.fz l _ _=>some (.int .i64 (.ofNat l.length))
   |.slice _,.nils=>some (.int .i64 0)
   |.arr n _,_=>some (.int .i64 (.ofNat n))
   |_,_=>none
  |_,_=>none
 |_,_=>none
noncomputable def BNq(args:Array Operand):Option W:=match args.toList with
 |[x,y]=>match evW C G fr x,evW C G fr y with
  |some (.int k m),some (.int _ n)=>some (.int k (match ltI n m with|true=>n|false=>m))
  |_,_=>none
 |_=>none
noncomputable def BOq(args:Array Operand):Option W:=match args.toList with
 |[x,y]=>match evW C G fr x,evW C G fr y with
  |some (.int k m),some (.int _ n)=>some (.int k (match ltI m n with|true=>n|false=>m))
  |_,_=>none
 |_=>none
noncomputable def yJq(o:Op):Option W:=match o with
 |.move x=>evW C G fr x
 |.assign x=>evW C G fr x
 |.pick c x y=>sXq C G fr c x y
 |.extract x i=>duq C G fr x i
 |.nilCheck x=>BKq C G fr x
 |.unOp .not _ x=>BJq C G fr x
 |.unOp .neg _ x=>BLq C G fr x
 |.unOp .xor _ x=>BIq C G fr x
 |.binOp op t x y _=>zJq C G fr op t x y
 |.convert s t x=>sZq C G fr s t x
 |.makeFunc (.func f) a c=>sYq C G fr f a c
 |.build t parts=>nMq C G fr t parts
 |.field t x i=>fLq C G fr t x i
 |.fieldAddr t x i=>vNq C G fr t x i
 |.indexAddr t x y=>jjq C G fr t x y
 |.index t x y=>dtq C G fr t x y
 |.slice t x lo hi mx=>Z3q C G fr t x lo hi mx
 |.makeInterface t x=>BMq C G fr t x
 |.typeAssert x _ t ok=>fMq C G fr x t ok
 |.call ⟨.builtin .len,args,ats⟩=>BPq C G fr args ats
 |.call ⟨.builtin .min,args,_⟩=>BNq C G fr args
 |.call ⟨.builtin .max,args,_⟩=>BOq C G fr args
 |_=>none
end
inductive EvW where
 |loadO (b:Nat)
 |loadF
 |storeO (b:Nat)
 |gen
 |dirty
 |updO (b:Nat)
 |mkO (b:Nat)
noncomputable def zbq(s:List UInt8):List W:=s.map λc=>.int .u8 (.ofNat c.toNat)
noncomputable def xtq:List W->Option (List UInt8)
 |[]=>some []
 |.int .u8 (.ofNat c)::l=>match Nat.blt c 256,xtq l with
  |true,some r=>some (UInt8.ofNat c::r)
  |_,_=>none
 |_=>none
noncomputable def aJq(C:Cfg)(hp:HpW)(tx:TypeId)(esz:Nat)(x:W):Option (List W):=match C.ty tx with
 |none=>none
 |some j=>match j.d,x with
  |.slice _,.nils=>some []
  |.slice _,.fz l e _=>match Nat.beq e esz with
   |true=>some l
   |false=>none
  |.slice _,.sl b _ off n e _=>match Nat.beq e esz,hget hp b with
   |true,some (_,v)=>ysq 50 v off n esz
   |_,_=>none
  |.str,.str s=>match Nat.beq esz 1 with
   |true=>some (zbq s)
   |false=>none
  |_,_=>none
abbrev fBq:=W×HpW×Nat×EvW
noncomputable def b5q(C:Cfg)(hp:HpW)(nw:Nat)(ts tx:TypeId)(s x:W):Option fBq:=match C.ty ts with
 |none=>none
 | some j =>match j.d with
  | .slice e=>match C.ty e with
   |none=>none
   | some k =>match Nat.beq k.size 0 with
    |true=>none
    | false =>match aJq C hp tx k.size x with
     |none=>none
     | some news=>match s with
      |.nils=>match news with
       |[]=>some (.nils,hp,nw,.gen)
       |_::_=>match Nat.ble (news.length*k.bytes) 140737488355328&&Nat.ble news.length 70368744177664 with
        |true=>some (.sl nw 0 0 news.length k.size none,(nw,e,.arr (news.length*k.size) k.size news)::hp,nw+1,.gen)
        |false=>none
      |.fz l esz full=>match Nat.beq esz k.size,news with
       |false,_=>none
       |true,[]=>some (.fz l esz full,hp,nw,.gen)
       |true,_::_=>match Nat.ble ((l.length+news.length)*k.bytes) 140737488355328&&Nat.ble (l.length+news.length) 70368744177664&&full with
        |true=>some (.sl nw 0 0 (l.length+news.length) k.size none,(nw,e,.arr ((l.length+news.length)*k.size) k.size (l++news))::hp,nw+1,.gen)
        |false=>none
      | .sl b base off len esz lim=>match Nat.beq esz k.size,news with
       |false,_=>none
       |true,[]=>some (.sl b base off len esz lim,hp,nw,.gen)
       |true,_::_=>match Nat.ble ((len+news.length)*k.bytes) 140737488355328&&Nat.ble (len+news.length) 70368744177664,hget hp b with
        |true,some (ty,v)=>match lim with
         |some c=>match Nat.ble (len+news.length) c with
          |true=>match Nat.ble (off+(len+news.length)*esz) v.size with
           |true=>match vbq v (off+len*esz) esz news with
            |some v'=>some (.sl b base off (len+news.length) esz lim,anq hp b (ty,v'),nw,.updO b)
            |none=>none
           |false=>none
          |false=>match ysq 50 v off len esz with
           |some olds=>some (.sl nw 0 0 (len+news.length) esz none,(nw,e,.arr ((len+news.length)*esz) esz (olds++news))::hp,nw+1,.gen)
           |none=>none
         |none=>match Nat.ble (off+(len+news.length)*esz) v.size with
          |true=>match vbq v (off+len*esz) esz news with
           |some v'=>some (.sl b base off (len+news.length) esz none,anq hp b (ty,v'),nw,.updO b)
           |none=>none
          |false=>match fOq ty e,ysq 50 v off len esz with
           |true,some olds=>some (.sl nw 0 0 (len+news.length) esz none,(nw,e,.arr ((len+news.length)*esz) esz (olds++news))::awq hp b,nw+1,.updO b)
           |_,_=>none
        |_,_=>none
      |_=>none
  |_=>none
noncomputable def tqq(n e:Nat)(z:W):W:=.arr (n*e) e (List.replicate n z)
section
variable (C:Cfg) (G:Nat->Option W) (fr:FrW) (hp:HpW) (nw:Nat)
noncomputable def bPq(e:Nat):W->List (Nat×Operand) ->Option W
 |v,[]=>some v
 |v,(i,x)::l=>match evW C G fr x with
  |some y=>match Nat.beq y.size e with
   |true=>match yoq 50 v (i*e) y with
    |some v'=>bPq e v' l
    |none=>none
   |false=>none
  |none=>none
noncomputable def wcq(s:TypeId)(t:TypeId)(x:Operand):Option fBq:=match C.ty s,C.ty t,evW C G fr x with
 |some js,some jt,some v=>match js.d,jt.d,v with
  |.slice e,.str,v=>match Q2q C e,v with
   |some (.int .u8),.nils=>some (.str [],hp,nw,.gen)
   |some (.int .u8),.fz l esz _=>match Nat.beq esz 1 with
    |true=>match xtq l with
     |some r=>some (.str r,hp,nw,.gen)
     |none=>none
    |false=>none
   |some (.int .u8),.sl b _ off n esz _=>match Nat.beq esz 1,hget hp b with
    |true,some (_,bv)=>match ysq 50 bv off n esz with
     |some l=>match xtq l with
      |some r=>some (.str r,hp,nw,.gen)
      |none=>none
     |none=>none
    |_,_=>none
   |_,_=>none
  |_,_,_=>none
 |_,_,_=>none
noncomputable def rtq(t:TypeId)(x:Operand):Option fBq:=match evW C G fr x,C.ty t with
 |some (.ptr b off),some i=>match hget hp b with
  |some (_,v)=>match zYq 50 v off i.size i.agg with
   |some r=>some (r,hp,nw,.loadO b)
   |none=>none
  |none=>none
 |some (.fel v),some i=>match zYq 50 v 0 i.size i.agg with
  |some r=>some (r,hp,nw,.loadF)
  |none=>none
 |_,_=>none
noncomputable def hFq(t:TypeId)(x:Operand)(y:Operand):Option fBq:=match evW C G fr x,evW C G fr y,C.ty t with
 |some (.ptr b off),some u,some i=>match hget hp b,Nat.beq u.size i.size with
  |some (ty,v),true=>match yoq 50 v off u with
   |some v'=>some (.undef,anq hp b (ty,v'),nw,.storeO b)
   |none=>none
  |_,_=>none
 |_,_,_=>none
noncomputable def okq(t:TypeId):Option fBq:=match C.ty t with
 |some i=>match aAq i.zero with
  |some z=>some (.ptr nw 0,(nw,t,z)::hp,nw+1,.gen)
  |none=>none
 |none=>none
noncomputable def B1q(t:TypeId)(x:Operand):Option fBq:=match evW C G fr x with
 |some v=>match v.leaf||v.isAgg with
  |true=>some (.ptr nw 0,(nw,t,v)::hp,nw+1,.gen)
  |false=>none
 |none=>none
noncomputable def hHq(t:TypeId)(n:Nat)(parts:Array (Nat×Operand)):Option fBq:=match C.ty t with
 |some i=>match i.d with
  |.slice e=>match C.ty e with
   |some k=>match Nat.beq k.size 0||!Nat.ble (n*k.size) 16777216,aAq k.zero with
    |false,some z=>match Nat.beq z.size k.size,bPq C G fr k.size (tqq n k.size z) parts.toList with
     |true,some v=>some (.sl nw 0 0 n k.size none,(nw,e,v)::hp,nw+1,.mkO nw)
     |_,_=>none
    |_,_=>none
   |none=>none
  |_=>none
 |none=>none
noncomputable def hGq(t:TypeId)(x:Operand)(y:Operand):Option fBq:=match C.ty t,evW C G fr x,evW C G fr y with
 |some i,some u,some v=>match i.d,ccq u,ccq v with
  |.slice e,some l,some c=>match C.ty e with
   |some k=>match Nat.beq k.size 0||!Nat.ble l c||!Nat.ble (k.bytes*c) 281474976710656||!Nat.ble c 9223372036854775807,aAq k.zero with
    |false,some z=>match Nat.beq z.size k.size with
     |true=>some (.sl nw 0 0 l k.size none,(nw,e,tqq c k.size z)::hp,nw+1,.gen)
     |false=>none
    |_,_=>none
   |none=>none
  |_,_,_=>none
 |_,_,_=>none
noncomputable def cYq(args:Array Operand)(ats:Array TypeId):Option fBq:=match args.toList,ats.toList with
 |[x,y],[ts,tx]=>match evW C G fr x,evW C G fr y with
  |some s,some u=>b5q C hp nw ts tx s u
  |_,_=>none
 |_,_=>none
noncomputable def ruq(args:Array Operand)(ats:Array TypeId):Option fBq:=match args.toList,ats.toList with
 | [x, y],[ts,tx]=>match evW C G fr x,evW C G fr y,C.ty ts with
  |some (.sl b _ off len esz _),some u,some j=>match j.d with
   |.slice e=>match C.ty e with
    |some k=>match aJq C hp tx k.size u with
     |some all=>match Nat.beq esz k.size,all.take len,hget hp b with
      |true,y::ys,some (ty,v)=>match Nat.ble (off+(ys.length+1)*esz) v.size with
       |true=>match vbq v off esz (y::ys) with
        |some v'=>some (.int .i64 (.ofNat (ys.length+1)),anq hp b (ty,v'),nw,.dirty)
        |none=>none
       |false=>none
      |_,_,_=>none
     |none=>none
    |none=>none
   |_=>none
  |_,_,_=>none
 |_,_=>none
noncomputable def ojq(t:TypeId)(x:Operand)(lo:Option Operand)(hi:Option Operand)(mx:Option Operand):Option fBq:=match C.ty t,evW C G fr x with
 |some j,some v=>match j.d,v with
  |.arr n e,.ptr b off=>match C.ty e,aCq C G fr 0 lo,aCq C G fr n hi,mx,hget hp b with
   |some k,some l,some r,none,some (_,bv)=>match Nat.beq k.size 0||!Nat.ble l r||!Nat.ble r n||!Nat.ble (off+n*k.size) bv.size with
    |true=>none
    |false=>some (.sl b off (off+l*k.size) (r-l) k.size (some (n-l)),hp,nw,.loadO b)
   |_,_,_,_,_=>none
  |.arr n e,.fel y=>match C.ty e,aCq C G fr 0 lo,aCq C G fr n hi,mx with
   |some k,some l,some r,none=>match Nat.beq k.size 0||!Nat.ble l r||!Nat.ble r n||!Nat.ble (n*k.size) y.size with
    |true=>none
    |false=>match ysq 50 y (l*k.size) (r-l) k.size with
     |some xs=>some (.fz xs k.size (Nat.beq r n),hp,nw,.gen)
     |none=>none
   |_,_,_,_=>none
  |_,_=>none
 |_,_=>none
noncomputable def aDq:Op->Option fBq
 |.convert s t x=>wcq C G fr hp nw s t x
 |.load t x=>rtq C G fr hp nw t x
 |.store t x y=>hFq C G fr hp nw t x y
 |.alloc t=>okq C hp nw t
 |.box t x=>B1q C G fr hp nw t x
 |.buildSlice t n parts=>hHq C G fr hp nw t n parts
 |.makeSlice t x y=>hGq C G fr hp nw t x y
 |.call ⟨.builtin .append,args,ats⟩=>cYq C G fr hp nw args ats
 |.call ⟨.builtin .copy,args,ats⟩=>ruq C G fr hp nw args ats
 |.slice t x lo hi mx=>ojq C G fr hp nw t x lo hi mx
 |_=>none
end
end
theorem qLq{n:Nat}{a b c:List V}(h:a.length+b.length<=n):((auq n (a++(b++c))).drop a.length).take b.length=b:=by
 simp only[auq];rw[List.drop_take,YO,Zz,List.drop_left,Zz];rw[show min b.length (n-a.length)=b.length by omega,List.take_left]
theorem c1q{n:Nat}{a b b' c:List V}(h:a.length+b.length<=n)(hb:b'.length=b.length):
  auq n (a++(b'++c))=(auq n (a++(b++c))).take a.length++b'++(auq n (a++(b++c))).drop (a.length+b.length):=by
 simp only[auq];apply List.ext_getElem?;intro i;simp only[Zz,YZ,YI,ZX,Zu,Zj,Y7,hb];have e1:min a.length (min n (a.length+(b.length+(c.length+n))))=a.length:=by omega
 rw[e1];by_cases h1:i<a.length
 .simp only[h1,if_true,show i<n from by omega]
 .by_cases h2:i<a.length+b.length
  .simp only[h1,if_false,show i<n from by omega,if_true,show i-a.length<b.length from by omega]
  .have e2:a.length+b.length+(i-a.length-b.length)=i:=by omega
   simp only[h1,if_false,show¬i-a.length<b.length from by omega,e2]
theorem uLq:∀(l:List V) (off:Nat) (x:V) (o:Nat),Qpq l off=some (x,o) ->
  ∃a c,jNq l=a++(zlq x++c)/\a.length+o=off/\o<x.size
 |[],off,x,o,h=>by simp[YLq] at h
 |v::l,off,x,o,h=>by
  simp only[v7q] at h;split at h
  .rename_i hlt;simp only[Zk,ZQ] at h;obtain⟨rfl,rfl⟩:=h;exact⟨[],jNq l,by simp[jNq],by simp,hlt⟩
  .obtain⟨a,c,h1,h2,h3⟩:=uLq l _ x o h;exact⟨zlq v++a,c,by simp[jNq,h1],by simp;omega,h3⟩
theorem qcq{l:List V}{a b c d:Nat}(h:c+d<=b):(((l.drop a).take b).drop c).take d=(l.drop (a+c)).take d:=by
 rw[List.drop_take,YO,Z8,show min d (b-c)=d by omega]
theorem YZq{e:Nat}:∀(l:List V) (i:Nat) (x:V),l[i]? =some x->∃a c,z6q e l=a++(auq e (zlq x)++c)/\a.length=i*e
 |[],i,x,h=>by simp at h
 |v::l,0,x,h=>by simp at h;subst h;exact⟨[],z6q e l,by simp[z6q],by simp⟩
 |v::l,i+1,x,h=>by
  simp at h;obtain⟨a,c,h1,h2⟩:=YZq (e:=e) l i x h;exact⟨auq e (zlq v)++a,c,by simp[z6q,h1],by simp[h2,ZO];omega⟩
theorem xSq:∀(f:Nat) (v:V) (off n:Nat) (ag:Bool) (x:V),upq f v off n ag=some x->
  x.size=n/\off+n<=v.size/\((zlq v).drop off).take n=zlq x/\(if ag then x.isAgg=true else x.leaf=true)
 |0,v,off,n,ag,x,h=>by simp[uHq] at h
 | f +1,v,off,n,ag,x,h=>by
  simp only[xmq] at h;split at h
  .rename_i hc;simp only[Zb,beq_iff_eq] at hc;obtain⟨⟨rfl,rfl⟩,rfl⟩:=hc;split at h
   .rename_i hl;simp only[Zk] at h;subst h;refine⟨rfl,by omega,by rw[ZV,Zm Xi],?_⟩;split
    .assumption
    .rename_i ha;simpa[ha] using hl
   .cases h
  .split at h
   .rename_i m l hne;split at h
    .rename_i y o hf;split at h
     .rename_i hle;obtain⟨a,c,h1,h2,h3⟩:=uLq _ _ _ _ hf;obtain⟨g1,g2,g3,g4⟩:=xSq f y o n ag x h;have hle:=Yb hle;refine⟨g1,by simp[V.size];omega,?_,g4⟩;have ha:a.length=off-o:=by omega
      have key:=qLq (n:=m) (a:=a) (b:=zlq y) (c:=c) Xo;rw[<-h1] at key;simp only[zlq];rw[<-g3,<-key,qcq Xo,h2]
     .cases h
    .cases h
   .rename_i m e l hne;split at h
    .rename_i y hy;split at h
     .rename_i hc;simp only[Zb,beq_iff_eq] at hc;have hle:=Yb hc.2;obtain⟨a,c,h1,h2⟩:=YZq (e:=e) _ _ _ hy;obtain⟨g1,g2,g3,g4⟩:=xSq f y (off%e) n ag x h;have hdm:=Nat.div_add_mod off e;rw[YC] at hdm;refine⟨g1,by simp[V.size];omega,?_,g4⟩;have hfy:auq e (zlq y)=zlq y:=yiq (by simp[hc.1]);rw[hfy] at h1;have key:=qLq (n:=m) (a:=a) (b:=zlq y) (c:=c) Xo;rw[<-h1] at key;simp only[zlq];rw[<-g3,<-key,qcq Xo,h2,hdm]
     .cases h
    .cases h
   .cases h
noncomputable def i0q(c:List V)(off:Nat)(vs:List V):List V:=c.take off++vs++c.drop (off+vs.length)
theorem Yhq{g:V->Nat->Option V}:∀(l:List V) (off:Nat) (l':List V) (o s:Nat),JBq g l off=some (l',o,s) ->
  ∃a y y' c,jNq l=a++(zlq y++c)/\jNq l'=a++(zlq y'++c)/\g y o=some y'/\a.length+o=off/\s=y.size/\o<s
 |[],off,l',o,s,h=>by simp[Yiq] at h
 |v::l,off,l',o,s,h=>by
  simp only[vVq] at h;split at h
  .rename_i hlt;split at h
   .rename_i v' hv;simp only[Zk,ZQ] at h;obtain⟨rfl,rfl,rfl⟩:=h;exact⟨[],v,v',jNq l,by simp[jNq],by simp[jNq],hv,by simp,rfl,hlt⟩
   .cases h
  .split at h
   .rename_i l1 o1 s1 h1;simp only[Zk,ZQ] at h;obtain⟨rfl,rfl,rfl⟩:=h;obtain⟨a,y,y',c,g1,g2,g3,g4,g5,g6⟩:=Yhq l _ _ _ _ h1;exact⟨zlq v++a,y,y',c,by simp[jNq,g1],by simp[jNq,g2],g3,by simp;omega,g5,g6⟩
   .cases h
theorem cvq{c vs:List V}{off:Nat}(h:off+vs.length<=c.length):(i0q c off vs).length=c.length:=by simp[i0q];omega
theorem lBq{b vs a' c':List V}{o:Nat}(h:o+vs.length<=b.length):
  a'++i0q b o vs++c'=i0q (a'++b++c') (a'.length+o) vs:=by
 have h1:(a'++b++c').take (a'.length+o)=a'++b.take o:=by
  rw[Zz,List.take_length_add_append,Z0 Xd]
 have h2:(a'++b++c').drop (a'.length+o+vs.length)=b.drop (o+vs.length)++c':=by
  rw[Zz,ZK,YP,Z6 Xd]
 unfold i0q;rw[h1,h2];simp only[Zz]
theorem egq{n o:Nat}{a b b' c vs:List V}(h:a.length+b.length<=n)(hb:b'=i0q b o vs)(ho:o+vs.length<=b.length):
  auq n (a++(b'++c))=i0q (auq n (a++(b++c))) (a.length+o) vs:=by
 have hl:b'.length=b.length:=by rw[hb,cvq ho]
 rw[c1q h hl,hb,lBq ho];congr 1
 have k:=qLq (n:=n) (a:=a) (b:=b) (c:=c) h
 have e:∀(L:List V) (p q:Nat),L.take p++(L.drop p).take q++L.drop (p+q)=L:=λL p q=>by
  rw[Zz,show L.drop (p+q)=(L.drop p).drop q by rw[Z8],ZJ,ZJ]
 have:=e (auq n (a++(b++c))) a.length b.length;rw[k] at this;rw[this];simp only[Zu,uKq,show min a.length n=a.length by omega]
theorem Q3q{e:Nat}:∀(l:List V) (i:Nat) (x y:V),l[i]? =some x->∃a c,z6q e l=a++(auq e (zlq x)++c)/\z6q e (l.set i y)=a++(auq e (zlq y)++c)/\a.length=i*e
 |[],i,x,y,h=>by simp at h
 |v::l,0,x,y,h=>by simp at h;subst h;exact⟨[],z6q e l,by simp[z6q],by simp[z6q],by simp⟩
 |v::l,i+1,x,y,h=>by
  simp at h;obtain⟨a,c,h1,h2,h3⟩:=Q3q (e:=e) l i x y h;exact⟨auq e (zlq v)++a,c,by simp[z6q,h1],by simp[z6q,h2],by simp[h3,ZO];omega⟩
theorem xJq:∀(f:Nat) (v:V) (off:Nat) (x v':V),unq f v off x=some v'->
  v'.size=v.size/\off+x.size<=v.size/\zlq v'=i0q (zlq v) off (zlq x)/\v'.isAgg=v.isAgg/\v'.leaf=v.leaf/\(x.leaf=true\/x.isAgg=true)
 |0,v,off,x,v',h=>by simp[uAq] at h
 | f +1,v,off,x,v',h=>by
  simp only[xgq] at h;split at h
  .rename_i hc;simp only[Zb,beq_iff_eq] at hc;obtain⟨⟨rfl,hs⟩,ha⟩:=hc;split at h
   .rename_i hl;simp only[Zk] at h;subst h;simp only[Y2,Zb] at hl;refine⟨hs,by omega,by simp[i0q,hs],ha,?_,?_⟩
    .rcases hl with h|h
     .rw[h] at ha;have e1:∀y:V,y.isAgg=true->y.leaf=false:=λy hy=>by cases y<;>simp[V.isAgg] at hy<;>rfl
      rw[e1 _ h,e1 _ ha.symm]
     .rw[h.1,h.2]
    .rcases hl with h|h
     .exact .inr h
     .exact .inl h.2
   .cases h
  .split at h
   .rename_i m l hne;split at h
    .rename_i l' o s hp;split at h
     .rename_i hle;simp only[Zk] at h;subst h;have hle:=Yb hle;obtain⟨a,y,y',c,g1,g2,g3,g4,g5,g6⟩:=Yhq _ _ _ _ _ hp;obtain⟨k1,k2,k3,k4,k5,k6⟩:=xJq f y o x y' g3;refine⟨rfl,by show off+x.size<=m;omega,?_,rfl,rfl,k6⟩;simp only[zlq];rw[g2,g1,egq (o:=o) (vs:=zlq x) Xo k3 Xo,g4]
     .cases h
    .cases h
   .rename_i m e l hne;split at h
    .rename_i y hy;split at h
     .rename_i hc;simp only[Zb,beq_iff_eq] at hc;have hle:=Yb hc.2;split at h
      .rename_i y' hy';simp only[Zk] at h;subst h;obtain⟨k1,k2,k3,k4,k5,k6⟩:=xJq f y (off%e) x y' hy';obtain⟨a,c,h1,h2,h3⟩:=Q3q (e:=e) l (off/e) y y' hy;have hdm:=Nat.div_add_mod off e;rw[YC] at hdm;refine⟨rfl,by show off+x.size<=m;omega,?_,rfl,rfl,k6⟩;rw[yiq (by simp[hc.1])] at h1;rw[yiq (by simp[k1,hc.1])] at h2;simp only[zlq];rw[h2,h1,egq (o:=off%e) (vs:=zlq x) Xo k3 Xo,h3,hdm]
      .cases h
     .cases h
    .cases h
   .cases h
end
end Go.Proofs.YtpjfmknefefapaaGreatDoor

/-
  What the proof of AutoReturns stands on, part 2. No condition.
-/
import Derived.LoopNIn
import Derived.Laws.Externs
import Derived.Shelf.Abstract
import Derived.MakeChecks
import Derived.OpenShut
import Derived.FnData
import Derived.KernelRfl
import Derived.Test.YtpjfmknefefapaaGreatDoorZAutoReturnsA
set_option linter.unusedSimpArgs false
set_option linter.unusedVariables false
namespace Go.Proofs.YtpjfmknefefapaaGreatDoor
section
open Go.RowKit
section
variable {P:Program} {C:Cfg} {s0:World} {U:Nat} {D:Nat->Prop} {ρ:Env} {fr:Tr V} {a:Act} {w:World} {h:Heap}
theorem app_room(r:Rel s0 U D ρ h w){ts tx ty e bty:TypeId}{inf:TypeInfo}{b base off len esz:Nat}{lim:Option Nat}{v v':V}{news:List V}{x:Value}(hu:P.underlying ts=some (.slice e))(hi:P.info? e=some inf)(hsz:inf.size=esz)
  (hin:InD (DD D ρ) (.sl b base off len esz lim)) (hg:h.get b=some (.cells bty v)) (hn:news≠[]) (hle:off+(len+news.length)*esz<=v.size) (hlim:∀c,lim=some c->len+news.length<=c) (hp:putN v (off+len*esz) esz news=some v')
  (hs:Src P esz tx x news.length (zoq ρ esz news) w) (hni:InDL (DD D ρ) news):
  ∃w',(Builtin.append_ #[ts,tx] ty #[conc ρ (.sl b base off len esz lim),x]).run P w= .ok (conc ρ (.sl b base off (len+news.length) esz lim)) w'/\Rel s0 U D ρ (h.put b (.cells bty v')) w'/\Nxt D ρ h w D ρ (h.put b (.cells bty v')) w'/\InD (DD D ρ) (.sl b base off (len+news.length) esz lim):=by
 subst hsz
 have hn0:0<news.length:=by cases news with
  |nil=>exact absurd rfl hn
  |cons _ _=>simp
 obtain⟨hpos,hlen,hD,hroom⟩:=hin;obtain⟨k1,k2,k3,k4,k5,k6,k7⟩:=uDq (ρ:=ρ) news v _ v' hp;rw[if_neg hn] at k3;have hvin:InD (DD D ρ) v:=r.clo b _ hD hg;obtain⟨o,h1,pre,tail,rfl,h2,h3⟩:=r.has b _ hD hg
 have hcap:len+news.length<=z3q ρ b off inf.size lim:=by
  cases lim with
  |some c=>exact hlim c rfl
  |none=>simp only[z3q];rw[Nat.le_div_iff_mul_le hpos];omega
 have hc0:¬z3q ρ b off inf.size lim=0:=by omega
 have hmul:(len+news.length)*inf.size=len*inf.size+news.length*inf.size:=Nat.add_mul _ _ _;have hnl:(zoq ρ inf.size news).length=news.length*inf.size:=zIq _ _ _
 have hin2:ρ.pre b+off+len*inf.size+(zoq ρ inf.size news).length<=(pre++(cellsV ρ v++tail)).toArray.size:=by
  simp only[List.size_toArray,List.length_append,ynq];omega
 have hcell:∀j,j<(zoq ρ inf.size news).length->(w.cell? ⟨ρ.b b,ρ.pre b+off+len*inf.size+j,none⟩).isSome=true:=λj hj=>by
  simp only[World.cell?,h1];have:ρ.pre b+off+len*inf.size+j<(pre++(cellsV ρ v++tail)).toArray.size:=by omega
  simp only[Option.isSome_none,Bool.false_eq_true,if_false];rw[Array.getElem?_eq_getElem this];rfl
 have hfrz:∀j,j<(zoq ρ inf.size news).length->w.frozen? ⟨ρ.b b,ρ.pre b+off+len*inf.size+j,none⟩=false:=λj _=>by simp[World.frozen?,h1]
 have key:=run_append_room_src w ts tx ty e inf hu hi (ρ.b b) (ρ.pre b+off) len (z3q ρ b off inf.size lim) x news.length (zoq ρ inf.size news) hs hcap hcell hfrz;have ht:=ygq (zoq ρ inf.size news) (ρ.pre b+off+len*inf.size) w (ρ.b b) _ bty h1 hin2;obtain⟨pre',tail',g1,g2,g3⟩:=uCq r hD hg k1 k3 (by rw[hnl];omega) (k6 _ hvin hni);rw[h1] at g1
 have hcs:(pre++(cellsV ρ v++tail)).toArray=(pre'++(cellsV ρ v++tail')).toArray:=by
  simp only[Option.some.injEq,Obj.cells.injEq] at g1;exact g1.1
 rw[hcs,Nat.add_assoc] at ht;obtain⟨r',n'⟩:=g3 _ ht;refine⟨_,?_,r',n',hpos,?_,hD,?_⟩
 ·simp only[conc,yeq,hc0,if_false];rw[key,Nat.add_assoc]
 ·cases lim with
  |some c=>exact hlim c rfl
  |none=>exact Nat.le_refl _
 ·cases lim with
  |some c=>exact hroom
  |none=>simp only[Option.getD_none];omega
theorem app_amb(hC:CfgOK P C)(r:Rel s0 U D ρ h w)(hU:h.next+1<=U){ts tx ty e:TypeId}{k:TyI}{b base off len:Nat}{v:V}{olds news:List V}{x:Value}(hu:P.underlying ts=some (.slice e))(hk:C.ty e=some k)(hk0:0<k.size)
  (hin:InD (DD D ρ) (.sl b base off len k.size none)) (hg:h.get b=some (.cells e v)) (hn:news≠[]) (ho:jzq 50 v off len k.size=some olds)
  (hs:Src P k.size tx x news.length (zoq ρ k.size news) w) (hb:(len+news.length)*k.bytes<=140737488355328) (hm:len+news.length<=70368744177664) (hni:InDL (DD D ρ) news):
  ∃val D' ρ' w',(Builtin.append_ #[ts,tx] ty #[conc ρ (.sl b base off len k.size none),x]).run P w= .ok val w'/\val=conc ρ' (.sl h.next 0 0 (len+news.length) k.size none)/\
   Rel s0 U D' ρ' ((h.push (.cells e (.arr ((len+news.length)*k.size) k.size (olds++news)))).kill b) w'/\Nxt D ρ h w D' ρ' ((h.push (.cells e (.arr ((len+news.length)*k.size) k.size (olds++news)))).kill b) w'/\InD (DD D' ρ') (.sl h.next 0 0 (len+news.length) k.size none):=by
 have hn0:0<news.length:=by cases news with
  |nil=>exact absurd rfl hn
  |cons _ _=>simp
 obtain⟨g1,g2,g3,g4⟩:=yzq (ρ:=ρ) 50 v off len k.size olds ho;have hvin:InD (DD D ρ) v:=r.clo b _ hin.2.2.1 hg;have hoi:=g4 _ hvin;obtain⟨hpos,hlen,hD,hroom⟩:=hin;have hin:InD (DD D ρ) (.sl b base off len k.size none):=⟨hpos,hlen,hD,hroom⟩;have hval:h.val b=some v:=by simp[Heap.val,hg]
 by_cases hcap:len+news.length<=z3q ρ b off k.size none
 ·--in place
  obtain⟨inf,hi,hsz,_⟩:=(hC.ty e k hk).info;rw[<-hsz] at hs ho g2 g3 hroom hpos hcap⊢;obtain⟨o,h1,pre,tail,rfl,h2,h3⟩:=r.has b _ hD hg;have hc0:¬z3q ρ b off inf.size none=0:=by omega
  have hmul:(len+news.length)*inf.size=len*inf.size+news.length*inf.size:=Nat.add_mul _ _ _;have hnl:(zoq ρ inf.size news).length=news.length*inf.size:=zIq _ _ _;have hol:(zoq ρ inf.size olds).length=len*inf.size:=by rw[zIq,g1]
  have hfit:off+(len+news.length)*inf.size<=ρ.cap b:=by
   have h4:=hcap;simp only[z3q] at h4;rw[Nat.le_div_iff_mul_le hpos] at h4;simp only[Option.getD_none] at hroom;omega
  obtain⟨L,hL⟩:∃L,L=pre++(cellsV ρ v++tail):=⟨_,rfl⟩
  rw[<-hL] at h1;have hLl:L.length=ρ.pre b+ρ.cap b:=by rw[hL];simp only[List.length_append,ynq];omega
  have hin2:ρ.pre b+off+len*inf.size+(zoq ρ inf.size news).length<=L.toArray.size:=by
   simp only[List.size_toArray];omega
  have hcell:∀j,j<(zoq ρ inf.size news).length->(w.cell? ⟨ρ.b b,ρ.pre b+off+len*inf.size+j,none⟩).isSome=true:=λj hj=>by
   simp only[World.cell?,h1];have:ρ.pre b+off+len*inf.size+j<L.toArray.size:=by omega
   simp only[Option.isSome_none,Bool.false_eq_true,if_false];rw[Array.getElem?_eq_getElem this];rfl
  have hfrz:∀j,j<(zoq ρ inf.size news).length->w.frozen? ⟨ρ.b b,ρ.pre b+off+len*inf.size+j,none⟩=false:=λj _=>by simp[World.frozen?,h1]
  have key:=run_append_room_src w ts tx ty e inf hu hi (ρ.b b) (ρ.pre b+off) len (z3q ρ b off inf.size none) x news.length (zoq ρ inf.size news) hs hcap hcell hfrz;have ht:=ygq (zoq ρ inf.size news) (ρ.pre b+off+len*inf.size) w (ρ.b b) _ e h1 hin2
  have hO:(L.drop (ρ.pre b+off)).take (len*inf.size)=zoq ρ inf.size olds:=by
   rw[hL,<-h2,List.drop_length_add_append,List.drop_append_of_le_length Xo,List.take_append_of_le_length Xo,g3]
  have hv:InD (DD D ρ) (.arr ((len+news.length)*inf.size) inf.size (olds++news)):=InDL_iff.2 λy hy=>by
   rcases List.mem_append.1 hy with h|h
   ·exact InDL_iff.1 hoi y h
   ·exact InDL_iff.1 hni y h
  have hne:=r.next_new hU;have hag:Env.Agree (DD D ρ) ρ (ρ.add h.next (ρ.b b) (ρ.pre b+off) (ρ.cap b-off)):=Env.add_agree hne
  have hcells:cellsV (ρ.add h.next (ρ.b b) (ρ.pre b+off) (ρ.cap b-off)) (.arr ((len+news.length)*inf.size) inf.size (olds++news))=zoq ρ inf.size olds++zoq ρ inf.size news:=by
   rw[ywq hag hv];simp only[cellsV];rw[yvq (by rw[zIq];simp[g1]),jmq]
  have hkn:KnB (ρ.add h.next (ρ.b b) (ρ.pre b+off) (ρ.cap b-off)) h.next (.cells e (.arr ((len+news.length)*inf.size) inf.size (olds++news))) (.cells (qwq L.toArray (ρ.pre b+off+len*inf.size) (zoq ρ inf.size news).toArray) e):=by
   refine⟨L.take (ρ.pre b+off),L.drop (ρ.pre b+off+len*inf.size+(zoq ρ inf.size news).length),?_,?_,?_⟩
   ·rw[hcells];congr 1
    simp only[qwq,List.size_toArray];congr 1
    rw[List.take_add,hO];simp[List.append_assoc]
   ·simp[Env.add];omega
   ·show(len+news.length)*inf.size+_=_;simp only[Env.add,if_true,List.length_drop];omega
  obtain⟨r',n'⟩:=r.move hU (B':=.cells e (.arr ((len+news.length)*inf.size) inf.size (olds++news))) hD hg rfl rfl ht hv hkn;refine⟨.slice (some ⟨ρ.b b,ρ.pre b+off,none⟩) (len+news.length) (z3q ρ b off inf.size none),_,_,_,?_,?_,r',n',hpos,Nat.le_refl _,.inr rfl,?_⟩
  ·simp only[conc,yeq,hc0,if_false];exact key
  ·have hsc:z3q (ρ.add h.next (ρ.b b) (ρ.pre b+off) (ρ.cap b-off)) h.next 0 inf.size none=z3q ρ b off inf.size none:=by simp[z3q,Env.add]
   simp only[conc,yeq,hsc,hc0,if_false];simp[Env.add]
  ·simp only[Env.add,if_true,Option.getD_none];omega
 ·--a new row
  have hold:(Builtin.firstCells k.size len (conc ρ (.sl b base off len k.size none))).run P w.drew= .ok (zoq ρ k.size olds).toArray w.drew:=by
   simp only[conc,yeq]
   exact run_firstCells_some w.drew k.size len _ len _ _ (by rw[zIq,g1]) λj u hj=>by
    have:=jCq r hin hval ho j u hj;simpa using this
  obtain⟨val,D',ρ',w',q1,q2,q3,q4,q5⟩:=Jyq (ty:=ty) hC r hU hu hk hk0 (base:=some (if z3q ρ b off k.size none=0 then vcq ρ b base else⟨ρ.b b,ρ.pre b+off,none⟩)) (cap:=z3q ρ b off k.size none) hold g1 hs Xd hb hm hoi hni;obtain⟨k1,k2⟩:=q3.kill b;exact⟨val,D',ρ',w',q1,q2,k1,q4.trans r.lt (by exact hU) k2,q5⟩
theorem Yxq(hC:CfgOK P C)(r:Rel s0 U D ρ h w){ts tx ty:TypeId}{s x v:V}{h':Heap}(hs:InD (DD D ρ) s)(hx:InD (DD D ρ) x)(ha:j8q C h ts tx s x=some (v,h'))(hU:h'.next<=U):
  ∃val D' ρ' w',(Builtin.append_ #[ts,tx] ty #[conc ρ s,conc ρ x]).run P w= .ok val w'/\val=conc ρ' v/\Rel s0 U D' ρ' h' w'/\Nxt D ρ h w D' ρ' h' w'/\InD (DD D' ρ') v:=by
 unfold j8q at ha;split at ha
 ·cases ha
 rename_i j hj;split at ha
 case h_2=>cases ha
 rename_i e he;have hd:=(hC.ty ts j hj).d;rw[he] at hd;have hu:P.underlying ts=some (.slice e):=hd;split at ha
 ·cases ha
 rename_i k hk;split at ha
 ·cases ha
 rename_i hz
 have hk0:0<k.size:=by
  rcases Nat.eq_zero_or_pos k.size with h0|h0
  ·rw[YMq h0] at hz;cases hz
  ·exact h0
 split at ha
 ·cases ha
 rename_i news hnews;obtain⟨hsrc,hni⟩:=Zvq hC r hx hnews;obtain⟨inf,hi,hsz,hby,_⟩:=(hC.ty e k hk).info;split at ha
 ·--onto nothing
  split at ha
  ·cases ha;refine⟨_,D,ρ,w,?_,rfl,r,Nxt.refl _ _ _ _,trivial⟩;rcases hsrc.kind with ⟨e',hk'⟩|hk'<;>simp[conc,Builtin.append_,run_underlying hu,run_underlying hk',sizeOf,typeInfo,hi,hsrc.len]<;>(have:=hsrc.cells;simp[zoq] at this;rw[hsz];simp[this])
  ·rename_i y ys;split at ha
   ·rename_i hc;simp only[Bool.and_eq_true] at hc;have hc1:=Nat.le_of_ble_eq_true hc.1;have hc2:=Nat.le_of_ble_eq_true hc.2;cases ha;obtain⟨val,D',ρ',w',q1,q2,q3,q4,q5⟩:=Jyq (ty:=ty) hC r hU hu hk hk0 (base:=none) (cap:=0) (len:=0) (olds:=[]) (news:=y::ys) (run_firstCells_none _ _ _ _ _) rfl hsrc Xm (by simpa using hc1) (by simpa using hc2) trivial hni;simp only[Nat.zero_add,List.nil_append] at q2 q3 q4 q5;exact⟨val,D',ρ',w',by simpa[conc] using q1,q2,q3,q4,q5⟩
   ·cases ha
 ·-- onto a slice
  rename_i b base off len esz lim;split at ha
  ·cases ha
  ·--nothing more
   rename_i hes;rw[Nat.beq_eq] at hes;cases ha;refine⟨_,D,ρ,w,?_,rfl,r,Nxt.refl _ _ _ _,hs⟩;have hc:=jDq hs;rcases hsrc.kind with ⟨e',hk'⟩|hk'<;>simp[conc,yeq,Builtin.append_,run_underlying hu,run_underlying hk',sizeOf,typeInfo,hi,hsrc.len,hc]<;>(have:=hsrc.cells;simp[zoq] at this;rw[hsz];simp[this,storeCells])
  ·rename_i y ys hes;rw[Nat.beq_eq] at hes;subst hes;split at ha
   ·cases ha
   rename_i hc;simp only[Bool.and_eq_true] at hc;have hc1:=Nat.le_of_ble_eq_true hc.1;have hc2:=Nat.le_of_ble_eq_true hc.2;split at ha
   ·-- a limit is known
    rename_i c;split at ha
    ·rename_i hroom;have hroom:=Nat.le_of_ble_eq_true hroom;split at ha
     ·rename_i bty bv hg;split at ha
      ·rename_i hle;have hle:=Nat.le_of_ble_eq_true hle;split at ha
       ·rename_i v' hp;cases ha;obtain⟨w',q1,q2,q3,q4⟩:=app_room (ty:=ty) r hu hi hsz hs hg Xm hle (λc' hc'=>by cases hc';exact hroom) hp hsrc hni;exact⟨_,D,ρ,w',q1,rfl,q2,q3,q4⟩
       ·cases ha
      ·cases ha
     ·cases ha
    ·rename_i hroom;have hroom:¬len+(y::ys).length<=c:=λh'=>by rw[Nat.ble_eq_true_of_le h'] at hroom;cases hroom
     split at ha
     ·rename_i bv hv;split at ha
      ·rename_i olds ho;cases ha;obtain⟨g1,g2,g3,g4⟩:=yzq (ρ:=ρ) 50 bv off len k.size olds ho;obtain⟨_,_,_,_,_,_,_,hvin⟩:=r.val hs.2.2.1 hv
       have hold:(Builtin.firstCells k.size len (conc ρ (.sl b base off len k.size (some c)))).run P w.drew= .ok (zoq ρ k.size olds).toArray w.drew:=by
        simp only[conc,yeq]
        exact run_firstCells_some w.drew k.size len _ len _ _ (by rw[zIq,g1]) λj u hj=>by
         have:=jCq r hs hv ho j u hj;simpa using this
       exact Jyq (ty:=ty) hC r hU hu hk hk0 hold g1 hsrc (by simp only[z3q];omega) hc1 hc2 (g4 _ hvin) hni
      ·cases ha
     ·cases ha
   ·split at ha
    ·rename_i bty bv hg;split at ha
     ·rename_i hle;have hle:=Nat.le_of_ble_eq_true hle;split at ha
      ·rename_i v' hp;cases ha;obtain⟨w',q1,q2,q3,q4⟩:=app_room (ty:=ty) r hu hi hsz hs hg Xm hle (λc' hc'=>by cases hc') hp hsrc hni;exact⟨_,D,ρ,w',q1,rfl,q2,q3,q4⟩
      ·cases ha
     ·split at ha
      ·rename_i olds hty ho;rw[Nat.beq_eq] at hty;subst hty;cases ha;exact app_amb (ty:=ty) hC r hU hu hk hk0 hs hg Xm ho hsrc hc1 hc2 hni
      ·cases ha
    ·cases ha
 ·cases ha
theorem src_first(hC:CfgOK P C)(r:Rel s0 U D ρ h w){tx:TypeId}{esz:Nat}{x:V}{all:List V}(hx:InD (DD D ρ) x)(hs:srcV C h tx esz x=some all){m:Nat}(hm:m<=all.length):
  (Builtin.firstCells esz m (conc ρ x)).run P w= .ok (zoq ρ esz (all.take m)).toArray w:=by
 unfold srcV at hs;split at hs
 ·cases hs
 ·rename_i j hj;split at hs
  ·cases hs;obtain rfl:m=0:=by simpa using hm
   exact run_firstCells_none _ _ _ _ _
  ·rename_i e b base off n e' lim he;split at hs
   ·rename_i v hes hv;rw[Nat.beq_eq] at hes;subst hes;obtain⟨g1,g2,g3,g4⟩:=yzq (ρ:=ρ) 50 v off n e' all hs;simp only[conc,yeq];refine run_firstCells_some w e' m _ n _ _ (by rw[zIq,List.length_take];congr 1;omega) λj u hj=>?_
    rw[kBq,List.getElem?_take] at hj;split at hj
    ·exact jCq r hx hv hs j u hj
    ·cases hj
   ·cases hs
  ·rename_i s he;split at hs
   ·rename_i h1;rw[Nat.beq_eq] at h1;subst h1;cases hs;have hb:=j5q ρ (s.take m);have ht:(yNq s).take m=yNq (s.take m):=by simp[yNq,List.map_take]
    rw[ht,hb];simp only[conc,Builtin.firstCells,Sem.run_pure];rw[show(⟨⟨s⟩⟩:ByteArray).extract 0 m=⟨⟨s.take m⟩⟩ by rw[Zrq];simp];congr 1
    apply Array.ext';simp
   ·cases hs
  ·cases hs
theorem copy_sound(hC:CfgOK P C)(r:Rel s0 U D ρ h w){ts tx ty:TypeId}{s x v:V}{h':Heap}(hs:InD (DD D ρ) s)(hx:InD (DD D ρ) x)(ha:copyV C h ts tx s x=some (v,h')):
  ∃w',(Builtin.copy_ #[ts,tx] ty #[conc ρ s,conc ρ x]).run P w= .ok (conc ρ v) w'/\Rel s0 U D ρ h' w'/\Nxt D ρ h w D ρ h' w'/\InD (DD D ρ) v:=by
 unfold copyV at ha;split at ha
 ·cases ha
 rename_i j hj;split at ha
 case h_2=>cases ha
 rename_i e he;have hd:=(hC.ty ts j hj).d;rw[he] at hd;have hu:P.underlying ts=some (.slice e):=hd;split at ha
 ·cases ha
 rename_i k hk;split at ha
 ·cases ha
 rename_i all hall;obtain⟨hsrc,hni⟩:=Zvq hC r hx hall;obtain⟨inf,hi,hsz,hby,_⟩:=(hC.ty e k hk).info;have hfirst:∀m,m<=all.length->(Builtin.firstCells inf.size m (conc ρ x)).run P w= .ok (zoq ρ k.size (all.take m)).toArray w:=λm hm=>by rw[hsz];exact src_first hC r hx hall hm
 have hmin:∀n,Nat.min all.length n<=all.length:=λn=>Nat.min_le_left _ _
 split at ha
 ·cases ha;refine⟨w,?_,r,Nxt.refl _ _ _ _,trivial⟩;have:=hfirst 0 (Nat.zero_le _);simp[conc,Builtin.copy_,run_underlying hu,sizeOf,typeInfo,hi,hsrc.len,this,goInt]
 ·rename_i b base off len esz lim;have hc:=jDq hs;split at ha
  ·rename_i hes htk;cases ha;refine⟨w,?_,r,Nxt.refl _ _ _ _,trivial⟩
   have h0:Nat.min all.length len=0:=by
    have:=congrArg List.length htk;simp only[List.length_take,List.length_nil] at this;show min all.length len=0;omega
   have:=hfirst 0 (Nat.zero_le _);simp only[List.take_zero,zoq] at this;simp[conc,yeq,Builtin.copy_,run_underlying hu,sizeOf,typeInfo,hi,hsrc.len,h0,this,goInt,storeCells]
  ·rename_i y ys hes htk;rw[Nat.beq_eq] at hes;subst hes;split at ha
   ·rename_i bty bv hg;split at ha
    ·rename_i hle;have hle:=Nat.le_of_ble_eq_true hle;split at ha
     ·rename_i v' hp;cases ha
      have hnl:Nat.min all.length len=(y::ys).length:=by
       have:=congrArg List.length htk;simp only[List.length_take] at this;show min all.length len=_;omega
      obtain⟨hpos,hlen,hD,hroom⟩:=hs;obtain⟨k1,k2,k3,k4,k5,k6,k7⟩:=uDq (ρ:=ρ) (y::ys) bv _ v' hp;rw[if_neg Xm] at k3;have hvin:InD (DD D ρ) bv:=r.clo b _ hD hg;obtain⟨o,h1,pre,tail,rfl,h2,h3⟩:=r.has b _ hD hg
      have hc0:¬z3q ρ b off k.size lim=0:=by
       have:(y::ys).length<=len:=by rw[<-hnl];exact Nat.min_le_right _ _
       simp only[List.length_cons] at this;omega
      have hlen':(y::ys).length=ys.length+1:=rfl;have hcl:(zoq ρ k.size (y::ys)).length=(y::ys).length*k.size:=zIq _ _ _
      have hin2:ρ.pre b+off+(zoq ρ k.size (y::ys)).length<=(pre++(cellsV ρ bv++tail)).toArray.size:=by
       simp only[List.size_toArray,List.length_append,ynq];rw[hcl,hlen'];omega
      have hcell:∀j,j<(zoq ρ k.size (y::ys)).length->(w.cell? ⟨ρ.b b,ρ.pre b+off+0+j,none⟩).isSome=true:=λj hj=>by
       simp only[World.cell?,h1];have:ρ.pre b+off+0+j<(pre++(cellsV ρ bv++tail)).toArray.size:=by omega
       simp only[Option.isSome_none,Bool.false_eq_true,if_false];rw[Array.getElem?_eq_getElem this];rfl
      have hfrz:∀j,j<(zoq ρ k.size (y::ys)).length->w.frozen? ⟨ρ.b b,ρ.pre b+off+0+j,none⟩=false:=λj _=>by simp[World.frozen?,h1]
      have hst:=run_storeCells_cells (P:=P) (ρ.b b) (ρ.pre b+off) (zoq ρ k.size (y::ys)) 0 w hcell hfrz (qlq ρ k.size (y::ys));have ht:=ygq (zoq ρ k.size (y::ys)) (ρ.pre b+off) w (ρ.b b) _ bty h1 hin2;obtain⟨pre',tail',g1,g2,g3⟩:=uCq r hD hg k1 k3 (by rw[hcl,hlen'];exact hle) (k6 _ hvin (by rw[<-htk];exact InDL_iff.2 λz hz=>InDL_iff.1 hni z (List.mem_of_mem_take hz)));rw[h1] at g1
      have hcs:(pre++(cellsV ρ bv++tail)).toArray=(pre'++(cellsV ρ bv++tail')).toArray:=by
       simp only[Option.some.injEq,Obj.cells.injEq] at g1;exact g1.1
      rw[hcs] at ht;obtain⟨r',n'⟩:=g3 _ ht;refine⟨_,?_,r',n',trivial⟩;have hf:=hfirst (y::ys).length (by rw[<-hnl];exact Nat.min_le_left _ _)
      have htk2:all.take (y::ys).length=y::ys:=by
       rw[<-htk];simp only[List.length_take];rw[List.take_eq_take_iff];omega
      rw[htk2] at hf;simp only[Nat.add_zero] at hst;simp only[conc,yeq,hc0,if_false];have hnl:Nat.min all.length len=ys.length+1:=hnl;have hf:(Builtin.firstCells inf.size (ys.length+1) (conc ρ x)).run P w= .ok (zoq ρ k.size (y::ys)).toArray w:=hf;simp[Builtin.copy_,run_underlying hu,sizeOf,typeInfo,hi,hsrc.len,hnl,hf,hst,goInt]
     ·cases ha
    ·cases ha
   ·cases ha
  ·cases ha
 ·cases ha
theorem clear_sound(hC:CfgOK P C)(r:Rel s0 U D ρ h w){t ty e bty:TypeId}{k:TyI}{b base off n:Nat}{lim:Option Nat}{bv v':V}(hu:P.underlying t=some (.slice e))(hk:C.ty e=some k)(hs:InD (DD D ρ) (.sl b base off (n+1) k.size lim))(hg:h.get b=some (.cells bty bv))(hle:off+(n+1)*k.size<=bv.size)
  (hp:putN bv off k.size (List.replicate (n+1) k.zero)=some v'):
  ∃w',(Builtin.clear_ #[t] ty #[conc ρ (.sl b base off (n+1) k.size lim)]).run P w= .ok (.tuple #[]) w'/\Rel s0 U D ρ (h.put b (.cells bty v')) w'/\Nxt D ρ h w D ρ (h.put b (.cells bty v')) w':=by
 have ok:=hC.ty e k hk;have hz:=yQq (P:=P) (ok.zero ρ);have zin:InD (DD D ρ) k.zero:=ok.zin.mono λ_ _ h=>h.elim
 have hc:=jDq hs;obtain⟨hpos,hlen,hD,hroom⟩:=hs;obtain⟨k1,k2,k3,k4,k5,k6,k7⟩:=uDq (ρ:=ρ) (List.replicate (n+1) k.zero) bv _ v' hp;rw[if_neg Xm] at k3;have hvin:InD (DD D ρ) bv:=r.clo b _ hD hg;obtain⟨o,h1,pre,tail,rfl,h2,h3⟩:=r.has b _ hD hg;have hc0:¬z3q ρ b off k.size lim=0:=by omega
 have hcl:(zoq ρ k.size (List.replicate (n+1) k.zero)).length=(n+1)*k.size:=by rw[zIq];simp
 have hzs:(conc ρ k.zero).cells=(cellsV ρ k.zero).toArray:=y9q (by
  cases ha:k.agg with
  |true=>exact .inr Qb
  |false=>exact .inl (ok.zleaf ha))
 have hzc:(Builtin.zeroCells (conc ρ k.zero).cells (n+1)).toList=zoq ρ k.size (List.replicate (n+1) k.zero):=by
  have:=ZAq ρ (n+1) k.size k.zero ok.zsize hpos
  have h4:cellsV ρ (repV (n+1) k.size k.zero)=zoq ρ k.size (List.replicate (n+1) k.zero):=by
   simp only[repV,cellsV];rw[yvq hcl]
  rw[h4] at this;have h5:=congrArg Array.toList this;simp only at h5;rw[h5,hzs];unfold Builtin.zeroCells;simp[ok.zsize]
 have hin2:ρ.pre b+off+(zoq ρ k.size (List.replicate (n+1) k.zero)).length<=(pre++(cellsV ρ bv++tail)).toArray.size:=by
  simp only[List.size_toArray,List.length_append,ynq];rw[hcl];omega
 have hcell:∀j,j<(zoq ρ k.size (List.replicate (n+1) k.zero)).length->(w.cell? ⟨ρ.b b,ρ.pre b+off+0+j,none⟩).isSome=true:=λj hj=>by
  simp only[World.cell?,h1];have:ρ.pre b+off+0+j<(pre++(cellsV ρ bv++tail)).toArray.size:=by omega
  simp only[Option.isSome_none,Bool.false_eq_true,if_false];rw[Array.getElem?_eq_getElem this];rfl
 have hfrz:∀j,j<(zoq ρ k.size (List.replicate (n+1) k.zero)).length->w.frozen? ⟨ρ.b b,ρ.pre b+off+0+j,none⟩=false:=λj _=>by simp[World.frozen?,h1]
 have hst:=run_storeCells_cells (P:=P) (ρ.b b) (ρ.pre b+off) (zoq ρ k.size (List.replicate (n+1) k.zero)) 0 w hcell hfrz (qlq ρ k.size _);have ht:=ygq (zoq ρ k.size (List.replicate (n+1) k.zero)) (ρ.pre b+off) w (ρ.b b) _ bty h1 hin2;obtain⟨pre',tail',g1,g2,g3⟩:=uCq r hD hg k1 k3 (by rw[hcl];exact hle) (k6 _ hvin (InDL_iff.2 λz hz=>by rw[(List.mem_replicate.1 hz).2];exact zin));rw[h1] at g1
 have hcs:(pre++(cellsV ρ bv++tail)).toArray=(pre'++(cellsV ρ bv++tail')).toArray:=by
  simp only[Option.some.injEq,Obj.cells.injEq] at g1;exact g1.1
 rw[hcs] at ht;obtain⟨r',n'⟩:=g3 _ ht;refine⟨_,?_,r',n'⟩;simp only[Nat.add_zero] at hst;simp only[conc,yeq,hc0,if_false];simp[Builtin.clear_,run_underlying hu,hz,hzc,hst]
theorem QKq{P:Program}{w:World}{q:Nat}{cs:Array Value}{ty:TypeId}(h:w.heap[q]? =some (.cells cs ty (0,0))):
  ∃w',(∀off,(markStringish ⟨q,off,none⟩).run P w= .ok () w')/\Turned q (.cells cs ty (cs.size,cs.size+1)) w w':=by
 have hlt:=(Array.getElem?_eq_some_iff.1 h).1;refine⟨w.putObj q (.cells cs ty (cs.size,cs.size+1)),λoff=>?_,y1q _ hlt⟩;have hsh:w.shape? q=some (ty,cs.size):=by simp[World.shape?,h]
 have hfr:w.freeze ⟨q,cs.size,none⟩ 1=w.putObj q (.cells cs ty (cs.size,cs.size+1)):=by
  unfold World.freeze World.putObj;rw[if_neg Xg];congr 1
  apply Array.ext_getElem?;intro j;rw[Array.getElem?_modify,Array.getElem?_setIfInBounds];by_cases e:q=j
  ·subst e
   have hq:w.heap[q]= .cells cs ty (0,0):=by
    have:=h;rw[Array.getElem?_eq_getElem hlt] at this;exact Option.some.inj this
   simp[hlt,hq]
  ·simp[e]
 simp[markStringish,hsh,hfr]
theorem kYq{e:TypeId}{d:TyD}(h:Qlq C e=some d):∃k,C.ty e=some k/\k.d=d:=by
 unfold Qlq at h;split at h
 ·rename_i k hk;cases h;exact⟨k,hk,rfl⟩
 ·cases h
theorem vTq(ρ:Env):∀(l:List V) (r:List UInt8),bytesOf l=some r->r.length=l.length/\zoq ρ 1 l=r.map λb=>Value.int .u8 b.toNat
 |[],r,h=>by simp[bytesOf] at h;subst h;exact⟨rfl,rfl⟩
 |v::l,r,h=>by
  unfold bytesOf at h;split at h
  ·rename_i e;cases e
  ·rename_i c l' e;simp only[List.cons.injEq] at e;obtain⟨rfl,rfl⟩:=e;split at h
   ·rename_i r' h1 h2;cases h;obtain⟨g1,g2⟩:=vTq ρ _ _ h2;rw[Nat.blt_eq] at h1;refine⟨by simp[g1],?_⟩;simp only[zoq,List.map_cons,g2];have:(UInt8.ofNat c).toNat=c:=by simp;omega
    rw[this];rfl
   ·cases h
  ·cases h
theorem vBq(ρ:Env):∀(l:List V),(∀x∈l,x.isAgg=false) ->zoq ρ 1 l=l.map (joq ρ)
 |[],_=>rfl
 |x::l,h=>by
  rw[zoq,vBq ρ l λy hy=>h y (List.mem_cons_of_mem _ hy),cells_cell1 (h x (List.mem_cons_self ..)),yvq (n:=1) (l:=[joq ρ x]) rfl];rfl
theorem xkq(e:Nat):∀l:List V,(zXq e l).length=l.length*e
 |[]=>by simp[zXq]
 |v::l=>by simp[zXq,xkq e l,Nat.add_mul];omega
theorem vUq(ρ:Env){l:List V}{r:List UInt8}(h:bytesOf (zXq 1 l)=some r):r.length=l.length/\zoq ρ 1 l=r.map λb=>Value.int .u8 b.toNat:=by
 obtain⟨h1,h2⟩:=vTq ρ _ _ h;refine⟨by rw[h1,xkq];omega,?_⟩;rw[<-h2,vBq ρ _ (λx hx=>uUq 1 l x hx),j0q]
theorem bytesBEq(s s':List UInt8):((⟨⟨s⟩⟩:ByteArray)==⟨⟨s'⟩⟩)=decide (s=s'):=by
 show((⟨s⟩:Array UInt8)==⟨s'⟩)=_;rw[Bool.eq_iff_iff];simp
theorem kEqV_spec(ρ:Env){d:TypeDesc}{k k':V}{b:Bool}(hd:(∃kk j n,d= .int kk/\k= .int j n)\/(d= .string/\∃s,k= .str s))(h:kEqV k k'=some b):
  Instr.sameNow d (conc ρ k) (conc ρ k')=some b/\(b=true->conc ρ k'=conc ρ k):=by
 rcases hd with ⟨kk,j,n,rfl,rfl⟩|⟨rfl,s,rfl⟩
 ·cases k'<;>simp only[kEqV] at h<;>try (cases h;done)
  rename_i j' n';split at h
  ·rename_i hj;have hj:=of_decide_eq_true hj;subst hj;cases h;simp only[conc,Instr.sameNow,if_true,Ycq];refine⟨congrArg some ?_,λhb=>?_⟩
   ·rw[Bool.eq_iff_iff];simp
   ·have:=of_decide_eq_true hb;rw[this]
  ·cases h
 ·cases k'<;>simp only[kEqV] at h<;>try (cases h;done)
  rename_i s';cases h;simp only[conc,Instr.sameNow,xRq,bytesBEq];refine⟨trivial,λhb=>?_⟩
  ·have:=of_decide_eq_true hb;rw[this]
theorem kAq(ρ:Env){d:TypeDesc}{k:V}(hd:(∃kk j n,d= .int kk/\k= .int j n)\/(d= .string/\∃s,k= .str s)):∀(es:List (V×V×Nat)) (i:Nat) (r:Option (Nat×V×Nat)),findM k es i=some r->
  Instr.findNow d (conc ρ k) (qsq ρ es) i=some (r.map λp=>(p.1,conc ρ p.2.1))/\∀p,r=some p->∃k' m,p.1=i+m/\es[m]? =some (k',p.2.1,p.2.2)/\conc ρ k'=conc ρ k
 |[],i,r,h=>by cases h;exact⟨rfl,λp hp=>by cases hp⟩
 |e::l,i,r,h=>by
  unfold findM at h;split at h
  ·rename_i hk;cases h;obtain⟨h1,h2⟩:=kEqV_spec ρ hd hk;refine⟨?_,λp hp=>?_⟩
   ·simp only[qsq,List.map_cons,Instr.findNow,h1];rfl
   ·cases hp;exact⟨e.1,0,rfl,rfl,h2 rfl⟩
  ·rename_i hk;obtain⟨h1,_⟩:=kEqV_spec ρ hd hk;obtain⟨g1,g2⟩:=kAq ρ hd l (i+1) r h;refine⟨?_,λp hp=>?_⟩
   ·simp only[qsq,List.map_cons,Instr.findNow,h1];exact g1
   ·obtain⟨k',m,q1,q2,q3⟩:=g2 p hp;exact⟨k',m+1,by omega,q2,q3⟩
  ·cases h
theorem vuq(hC:CfgOK P C){kt:TypeId}{k:V}(h:keyOK C kt k=true):∃d,P.underlying kt=some d/\((∃kk j n,d= .int kk/\k= .int j n)\/(d= .string/\∃s,k= .str s)):=by
 unfold keyOK at h;split at h
 ·rename_i j hj;have hd:=(hC.ty kt j hj).d;split at h
  ·rename_i kk j' n he;rw[he] at hd;exact⟨_,hd,.inl ⟨_,_,_,rfl,rfl⟩⟩
  ·rename_i s he;rw[he] at hd;exact⟨_,hd,.inr ⟨rfl,_,rfl⟩⟩
  ·cases h
 ·cases h
theorem umq{kt:TypeId}{k:V}{d:TypeDesc}(hu:P.underlying kt=some d)(hd:(∃kk j n,d= .int kk/\k= .int j n)\/(d= .string/\∃s,k= .str s))(ρ:Env)(e:Bool)(w:World):(Instr.checkKey e 10000 kt (conc ρ k)).run P w= .ok () w:=by
 have key:∀m,(Instr.checkKey e (m+1) kt (conc ρ k)).run P w= .ok () w:=λm=>by
  rcases hd with ⟨kk,j,n,rfl,rfl⟩|⟨rfl,s,rfl⟩<;>(unfold Instr.checkKey;simp[run_underlying hu,conc])
 exact key 9999
theorem uAq{k:V}{d:TypeDesc}(hd:(∃kk j n,d= .int kk/\k= .int j n)\/(d= .string/\∃s,k= .str s))(ρ:Env):Instr.sameBits 10000 (conc ρ k) (conc ρ k)=true:=by
 rcases hd with ⟨kk,j,n,rfl,rfl⟩|⟨rfl,s,rfl⟩<;>simp[conc,Instr.sameBits,bytesBEq]
theorem q1q{kt:TypeId}{k:V}{d:TypeDesc}(hu:P.underlying kt=some d)(hd:(∃kk j n,d= .int kk/\k= .int j n)\/(d= .string/\∃s,k= .str s))(ρ:Env){es:List (V×V×Nat)}{r:Option (Nat×V×Nat)}(h:findM k es 0=some r)(w:World):
  (Instr.findKey kt (conc ρ k) (qsq ρ es)).run P w= .ok (r.map λp=>(p.1,conc ρ p.2.1)) w:=by
 simp[Instr.findKey,run_underlying hu,(kAq ρ hd es 0 r h).1]
theorem kWq{b:Nat}{es:Array MapEntry}{c:Nat}(h:w.heap[b]? =some (.map es c)):(getObj b).run P w= .ok (.map es c) w:=by simp[getObj,Sem.run,h]
theorem vkq{b:Nat}{es:Array MapEntry}{c:Nat}(o':Obj)(h:w.heap[b]? =some (.map es c)):(setObj b o').run P w= .ok () (w.putObj b o'):=by simp[setObj,Sem.run,h,World.putObj]
theorem Ygq(ρ:Env)(es:List (V×V×Nat))(i:Nat)(k v:V)(b:Nat){k' v':V}(he:es[i]? =some (k',v',b))(f:MapEntry->MapEntry)(hf:f ⟨conc ρ k',conc ρ v',b⟩=⟨conc ρ k,conc ρ v,b⟩):
  (qsq ρ es).modify i f=qsq ρ (es.set i (k,v,b)):=by
 apply List.ext_getElem?;intro j;rw[List.getElem?_modify];simp only[qsq,List.getElem?_map,List.getElem?_set];have hl:i<es.length:=(List.getElem?_eq_some_iff.1 he).1;by_cases h:i=j
 ·subst h;rw[he];simp[hl,hf]
 ·simp[h]
theorem Qqq(ρ:Env)(n:Nat):∀(es:List (V×V×Nat)) (i m:Nat),bornM n es i=some m->∃q,m=i+q/\(qsq ρ es).findIdx? (λe=>(e.born:Int)==(n:Int))=some q
 |[],i,m,h=>by cases h
 |e::l,i,m,h=>by
  unfold bornM at h;simp only[qsq,List.map_cons,List.findIdx?_cons];split at h
  ·rename_i hb;cases h;have hb:=Nat.eq_of_beq_eq_true hb;refine⟨0,rfl,?_⟩;simp[hb]
  ·rename_i hb;obtain⟨q,h1,h2⟩:=Qqq ρ n l (i+1) m h;have hb:¬e.2.2=n:=λe'=>by rw[YMq e'] at hb;cases hb
   refine⟨q+1,by omega,?_⟩;simp only[qsq] at h2;rw[h2];have:((e.2.2:Int)==(n:Int))=false:=by simp;omega
   simp[this]
theorem Rel.mapAt(r:Rel s0 U D ρ h w){b:Nat}{es:List (V×V×Nat)}{c:Nat}(hb:D b)(hg:h.get b=some (.map es c)):w.heap[ρ.b b]? =some (.map (qsq ρ es).toArray c)/\∀e∈es,InD (DD D ρ) e.1/\InD (DD D ρ) e.2.1:=by
 obtain⟨o,h1,h2⟩:=r.has b _ hb hg;have h2:o= .map (qsq ρ es).toArray c:=h2;subst h2;exact⟨h1,r.clo b _ hb hg⟩
theorem Rel.mapPut(r:Rel s0 U D ρ h w){b:Nat}{es es':List (V×V×Nat)}{c c':Nat}(hb:D b)(hg:h.get b=some (.map es c))(hi:∀e∈es',InD (DD D ρ) e.1/\InD (DD D ρ) e.2.1):
  Rel s0 U D ρ (h.put b (.map es' c')) (w.putObj (ρ.b b) (.map (qsq ρ es').toArray c'))/\Nxt D ρ h w D ρ (h.put b (.map es' c')) (w.putObj (ρ.b b) (.map (qsq ρ es').toArray c')):=
 r.put hb hg rfl rfl (y1q _ (Array.getElem?_eq_some_iff.1 (r.mapAt hb hg).1).1) rfl hi
theorem in_set{es:List (V×V×Nat)}{i:Nat}{k v:V}{b:Nat}{D:Nat->Nat->Prop}(hi:∀e∈es,InD D e.1/\InD D e.2.1)(hk:InD D k)(hv:InD D v):∀e∈es.set i (k,v,b),InD D e.1/\InD D e.2.1:=λe he=>by
 rcases List.mem_or_eq_of_mem_set he with h|rfl
 ·exact hi e h
 ·exact⟨hk,hv⟩
theorem in_app{es:List (V×V×Nat)}{k v:V}{b:Nat}{D:Nat->Nat->Prop}(hi:∀e∈es,InD D e.1/\InD D e.2.1)(hk:InD D k)(hv:InD D v):∀e∈es++[(k,v,b)],InD D e.1/\InD D e.2.1:=λe he=>by
 rcases List.mem_append.1 he with h|h
 ·exact hi e h
 ·obtain rfl:=List.mem_singleton.1 h;exact⟨hk,hv⟩
theorem QYq(ok:Bool)(v:V)(b:Bool)(ρ:Env):conc ρ (okT ok v b)=if ok then .tuple #[conc ρ v,.bool b] else conc ρ v:=by cases ok<;>simp[okT,conc,zJq]
theorem okT_in{D:Nat->Nat->Prop}{ok:Bool}{v:V}{b:Bool}(h:InD D v):InD D (okT ok v b):=by
 cases ok
 ·exact h
 ·exact⟨h,trivial,trivial⟩
theorem lookup_sound(hC:CfgOK P C)(hfr:FrE C D ρ fr a)(r:Rel s0 U D ρ h w){t:TypeId}{x y:Operand}{ok:Bool}{v:V}{h':Heap}(hh:zzq C fr h t x y ok=some (v,h')):
  h'=h/\(Instr.lookup t (a.eval x) (a.eval y) ok).run P w= .ok (conc ρ v) w/\InD (DD D ρ) v:=by
 unfold zzq at hh;split at hh
 ·rename_i kt et m k hm hx hy;have hu:=hC.mp _ _ _ hm;obtain⟨e1,i1⟩:=hfr.ev hx;obtain⟨e2,i2⟩:=hfr.ev hy;split at hh
  ·rename_i j hk hj;obtain⟨d,hud,hd⟩:=vuq hC hk;have hz:=yQq (P:=P) ((hC.ty et j hj).zero ρ);have zin:InD (DD D ρ) j.zero:=(hC.ty et j hj).zin.mono λ_ _ h=>h.elim
   have hck:=λe=>umq hud hd ρ e w
   split at hh
   ·cases hh;have hf:=q1q hud hd ρ (es:=[]) (r:=none) rfl w;refine⟨rfl,?_,okT_in zin⟩;simp only[qsq,List.map_nil] at hf;rw[e1,e2,QYq];simp[conc,Instr.lookup,run_underlying hu,hck,hf,hz]
   ·rename_i b;split at hh
    ·rename_i es c hg;obtain⟨hb,hes⟩:=r.mapAt i1.1 hg;split at hh
     ·rename_i i u bo hfm;cases hh;have hf:=q1q hud hd ρ hfm w;obtain⟨k',m',q1,q2,q3⟩:=(kAq ρ hd es 0 _ hfm).2 _ rfl;refine⟨rfl,?_,okT_in (hes _ (List.mem_of_getElem? q2)).2⟩;rw[e1,e2,QYq];simp[conc,Instr.lookup,run_underlying hu,kWq hb,hck,hf]
     ·rename_i hfm;cases hh;have hf:=q1q hud hd ρ hfm w;refine⟨rfl,?_,okT_in zin⟩;rw[e1,e2,QYq];simp[conc,Instr.lookup,run_underlying hu,kWq hb,hck,hf,hz]
     ·cases hh
    ·cases hh
   ·cases hh
  ·cases hh
 ·cases hh
theorem vGq(hC:CfgOK P C)(hfr:FrE C D ρ fr a)(r:Rel s0 U D ρ h w){t:TypeId}{x y z:Operand}{v:V}{h':Heap}(hh:zgq C fr h t x y z=some (v,h')):
  ∃w',v= .undef/\(Instr.mapUpdate t (a.eval x) (a.eval y) (a.eval z)).run P w= .ok () w'/\Rel s0 U D ρ h' w'/\Nxt D ρ h w D ρ h' w':=by
 unfold zgq at hh;split at hh
 ·rename_i kt et b k u hm hx hy hz;have hu:=hC.mp _ _ _ hm;obtain⟨e1,i1⟩:=hfr.ev hx;obtain⟨e2,i2⟩:=hfr.ev hy;obtain⟨e3,i3⟩:=hfr.ev hz;split at hh
  ·rename_i es c hk hg;obtain⟨d,hud,hd⟩:=vuq hC hk;have hck:=λe=>umq hud hd ρ e w
   obtain⟨hb,hes⟩:=r.mapAt i1.1 hg;split at hh
   ·rename_i i v0 bo hfm;cases hh;have hf:=q1q hud hd ρ hfm w;obtain⟨k',m',q1,q2,q3⟩:=(kAq ρ hd es 0 _ hfm).2 _ rfl;obtain rfl:i=m':=by simpa using q1
    obtain⟨r',n'⟩:=r.mapPut (c':=c) i1.1 hg (in_set (i:=i) (b:=bo) hes i2 i3);refine⟨_,rfl,?_,r',n'⟩;have hkey:((qsq ρ es)[i]?.map (·.key)).getD (conc ρ k)=conc ρ k:=by simp[qsq,q2,q3]
    have hst:(Instr.keyThatStays (conc ρ k) (conc ρ k)).run P w= .ok (conc ρ k) w:=by simp[Instr.keyThatStays,uAq hd ρ]
    rw[e1,e2,e3];have hset:=Ygq ρ es i k u bo q2 (λe=>{e with key:=conc ρ k,val:=conc ρ u}) rfl;simp[conc,Instr.mapUpdate,run_underlying hu,kWq hb,hck,hf,hkey,hst,hset,vkq _ hb]
   ·rename_i hfm;cases hh;have hf:=q1q hud hd ρ hfm w;obtain⟨r',n'⟩:=r.mapPut (c':=c+1) i1.1 hg (in_app (b:=c) hes i2 i3);refine⟨_,rfl,?_,r',n'⟩;rw[e1,e2,e3];have hpush:(qsq ρ es).toArray.push ⟨conc ρ k,conc ρ u,c⟩=(qsq ρ (es++[(k,u,c)])).toArray:=by simp[qsq]
    simp only[List.push_toArray] at hpush;simp[conc,Instr.mapUpdate,run_underlying hu,kWq hb,hck,hf,hpush,vkq _ hb]
   ·cases hh
  ·cases hh
 ·cases hh
theorem entry_sound(hC:CfgOK P C)(hfr:FrE C D ρ fr a)(r:Rel s0 U D ρ h w){t:TypeId}{x y:Operand}{v:V}{h':Heap}(hh:znq C fr h t x y=some (v,h')):
  ∃w',(Instr.mapEntry t (a.eval x) (a.eval y)).run P w= .ok (conc ρ v) w'/\Rel s0 U D ρ h' w'/\Nxt D ρ h w D ρ h' w'/\InD (DD D ρ) v:=by
 unfold znq at hh;split at hh
 ·rename_i kt et b k hm hx hy;have hu:=hC.mp _ _ _ hm;obtain⟨e1,i1⟩:=hfr.ev hx;obtain⟨e2,i2⟩:=hfr.ev hy;split at hh
  ·rename_i j es c hk hj hg;obtain⟨d,hud,hd⟩:=vuq hC hk;have hck:=λe=>umq hud hd ρ e w
   have hz:=yQq (P:=P) ((hC.ty et j hj).zero ρ);have zin:InD (DD D ρ) j.zero:=(hC.ty et j hj).zin.mono λ_ _ h=>h.elim
   obtain⟨hb,hes⟩:=r.mapAt i1.1 hg;split at hh
   ·rename_i i v0 bo hfm;cases hh;have hf:=q1q hud hd ρ hfm w;obtain⟨k',m',q1,q2,q3⟩:=(kAq ρ hd es 0 _ hfm).2 _ rfl;obtain rfl:i=m':=by simpa using q1
    have hv0:=(hes _ (List.mem_of_getElem? q2)).2;obtain⟨r',n'⟩:=r.mapPut (c':=c) i1.1 hg (in_set (i:=i) (b:=bo) hes i2 hv0);refine⟨_,?_,r',n',hv0,trivial,trivial⟩;have hkey:((qsq ρ es)[i]?.map (·.key)).getD (conc ρ k)=conc ρ k:=by simp[qsq,q2,q3]
    have hborn:((qsq ρ es)[i]?.map (λx=>(x.born:Int))).getD 0=(bo:Int):=by simp[qsq,q2]
    have hst:(Instr.keyThatStays (conc ρ k) (conc ρ k)).run P w= .ok (conc ρ k) w:=by simp[Instr.keyThatStays,uAq hd ρ]
    rw[e1,e2];have hset:=Ygq ρ es i k v0 bo q2 (λe=>{e with key:=conc ρ k}) rfl;simp[conc,zJq,Instr.mapEntry,run_underlying hu,kWq hb,hck,hf,hkey,hborn,hst,hset,vkq _ hb,goInt]
   ·rename_i hfm;cases hh;have hf:=q1q hud hd ρ hfm w;obtain⟨r',n'⟩:=r.mapPut (c':=c+1) i1.1 hg (in_app (b:=c) hes i2 zin);refine⟨_,?_,r',n',zin,trivial,trivial⟩;rw[e1,e2];have hpush:(qsq ρ es).toArray.push ⟨conc ρ k,conc ρ j.zero,c⟩=(qsq ρ (es++[(k,j.zero,c)])).toArray:=by simp[qsq]
    simp only[List.push_toArray] at hpush;simp[conc,zJq,Instr.mapEntry,run_underlying hu,kWq hb,hck,hf,hz,hpush,vkq _ hb,goInt]
   ·cases hh
  ·cases hh
 ·cases hh
theorem estore_sound(hfr:FrE C D ρ fr a)(r:Rel s0 U D ρ h w){t:TypeId}{x y z:Operand}{v:V}{h':Heap}(hh:zfq C fr h x y z=some (v,h')):
  ∃w',v= .undef/\(Instr.entryStore t (a.eval x) (a.eval y) (a.eval z)).run P w= .ok () w'/\Rel s0 U D ρ h' w'/\Nxt D ρ h w D ρ h' w':=by
 unfold zfq at hh;split at hh
 ·rename_i b ki n u hx hy hz;obtain⟨e1,i1⟩:=hfr.ev hx;obtain⟨e2,i2⟩:=hfr.ev hy;obtain⟨e3,i3⟩:=hfr.ev hz;split at hh
  ·rename_i es c hg;obtain⟨hb,hes⟩:=r.mapAt i1.1 hg;split at hh
   ·rename_i i hbo;split at hh
    ·rename_i k v0 bo he;cases hh;obtain⟨q,q1,q2⟩:=Qqq ρ n es 0 i hbo;obtain rfl:i=q:=by simpa using q1
     have hk:=(hes _ (List.mem_of_getElem? he)).1;obtain⟨r',n'⟩:=r.mapPut (c':=c) i1.1 hg (in_set (i:=i) (b:=bo) hes hk i3);refine⟨_,rfl,?_,r',n'⟩;have hset:=Ygq ρ es i k u bo he (λe=>{e with val:=conc ρ u}) rfl;rw[e1,e2,e3];simp only[Int.ofNat_eq_natCast] at*
     simp[conc,Instr.entryStore,kWq hb,asInt,asIntOf,q2,hset,vkq _ hb]
    ·cases hh
   ·cases hh
  ·cases hh
 ·cases hh
theorem opH_sound(hC:CfgOK P C)(hfr:FrE C D ρ fr a)(r:Rel s0 U D ρ h w){o:Oper}{v:V}{h':Heap}(hh:opH C fr h o.op=some (v,h'))(hU:h'.next<=U):∃x D' ρ' w',Did P C s0 U o a D ρ h w v h' x D' ρ' w':=by
 obtain⟨dst,op,ty,pos,aft,g⟩:=o;simp only at hh;cases op<;>try (simp[opH,zrq,z7q,zRq,zSq,yRq,zhq,zkq,zCq,ybq,zNq,zqq,zzq,zgq,znq,zfq,zyq,zVq,zFq,z5q] at hh;done)
 case convert s t x=>
  simp only[opH,zrq,z7q,zRq,zSq,yRq,zhq,zkq,zCq,ybq,zNq,zqq,zzq,zgq,znq,zfq,zyq,zVq,zFq,z5q] at hh;split at hh
  ·rename_i js jt u hs ht hx;obtain⟨e1,i1⟩:=hfr.ev hx;split at hh
   ·rename_i e he ht2;have hd:=(hC.ty s js hs).d;rw[he] at hd;have hd:P.underlying s=some (.slice e):=hd;have hd2:=(hC.ty t jt ht).d;rw[ht2] at hd2;have hd2:P.underlying t=some .string:=hd2;split at hh
    ·rename_i hed;cases hh;obtain⟨k,hk,hkd⟩:=kYq hed;have hde:=(hC.ty e k hk).d;rw[hkd] at hde;have hde:P.underlying e=some (.int .u8):=hde;refine⟨_,D,ρ,w,⟨.inl ?_,rfl,r,Nxt.refl _ _ _ _,trivial⟩⟩;have key:=run_convert_bytes_nil (P:=P) w s e hd hde 0 0 t hd2;simp[execOp,e1,conc,key];rfl
    ·rename_i b base off n esz lim hed;split at hh
     ·rename_i bv hes hv;rw[Nat.beq_eq] at hes;subst hes;split at hh
      ·rename_i l hl;split at hh
       ·rename_i rr hr;cases hh;obtain⟨k,hk,hkd⟩:=kYq hed;have hde:=(hC.ty e k hk).d;rw[hkd] at hde;have hde:P.underlying e=some (.int .u8):=hde;obtain⟨g1,g2⟩:=vUq ρ hr;obtain⟨q1,_,_,_⟩:=yzq (ρ:=ρ) 50 bv off n 1 l hl;refine⟨_,D,ρ,w,⟨.inl ?_,rfl,r,Nxt.refl _ _ _ _,trivial⟩⟩;have hcells:=jCq r i1 hv hl;rw[g2] at hcells;have hn:n=rr.length:=by omega
        subst hn;have key:=run_convert_bytes_back (P:=P) w s t e (if z3q ρ b off 1 lim=0 then vcq ρ b base else⟨ρ.b b,ρ.pre b+off,none⟩) (z3q ρ b off 1 lim) rr hd hde hd2 (λj hj=>hcells j _ (by simp[hj]));simp only[execOp,e1,conc,yeq,Sem.run_bind,key,Result.andThen_ok,Sem.run_pure]
       ·cases hh
      ·cases hh
     ·cases hh
    ·cases hh
   ·rename_i e0 e b base off n esz lim hs2 ht2;have hd:=(hC.ty s js hs).d;rw[hs2] at hd;have hd:P.underlying s=some (.slice e0):=hd;have hd2:=(hC.ty t jt ht).d;rw[ht2] at hd2;have hd2:P.underlying t=some (.slice e):=hd2;split at hh
    ·rename_i bty bv hst hed hgb;split at hh
     case h_2=>cases hh
     rename_i hbase;have hbase:=Nat.le_of_ble_eq_true hbase;cases hh;have hst:=Nat.eq_of_beq_eq_true hst;subst hst
     obtain rfl:e0=e:=by
      have:=hd.symm.trans hd2;simpa using this
     obtain⟨k,hk,hkd⟩:=kYq hed;have hde:=(hC.ty e0 k hk).d;rw[hkd] at hde;have hde:P.underlying e0=some (.int .u8):=hde;have hD:D b:=i1.2.2.1;obtain⟨o,h1,pre,tail,rfl,h2,h3⟩:=r.has b _ hD hgb;obtain⟨w',q1,q2⟩:=QKq (P:=P) h1;obtain⟨r',n'⟩:=r.putR (b':=.ro bv) hD hgb rfl rfl q2 ⟨pre,tail,bty,_,rfl,h2,by omega⟩ (show InD (DD D ρ) bv from r.clo b _ hD hgb);refine⟨_,D,ρ,w',⟨.inl ?_,rfl,r',n',i1⟩⟩;have q3:=q1 (ρ.pre b+(if z3q ρ b off esz lim=0 then base else off))
     have hz:(if z3q ρ b off esz lim=0 then vcq ρ b base else(⟨ρ.b b,ρ.pre b+off,none⟩:Addr))=⟨ρ.b b,ρ.pre b+(if z3q ρ b off esz lim=0 then base else off),none⟩:=by
      split
      ·exact uoq Xd
      ·rfl
     simp only[execOp,e1,conc,yeq,hz];simp[convert,run_underlying hd,run_underlying hde,q3]
    ·cases hh
   ·rename_i e str hs2 ht2;have hd:=(hC.ty s js hs).d;rw[hs2] at hd;have hd:P.underlying s=some .string:=hd;have hd2:=(hC.ty t jt ht).d;rw[ht2] at hd2;have hd2:P.underlying t=some (.slice e):=hd2;split at hh
    ·rename_i hed;cases hh;obtain⟨k,hk,hkd⟩:=kYq hed;have hde:=(hC.ty e k hk).d;rw[hkd] at hde;have hde:P.underlying e=some (.int .u8):=hde;have key:=run_bytes_of_string (P:=P) w s t e ⟨⟨str⟩⟩ hd hd2 hde;have hge:=grownCap_ge w (⟨⟨str⟩⟩:ByteArray).size 0 e;rw[show(⟨⟨str⟩⟩:ByteArray).size=str.length from rfl] at key hge;generalize grownCap w str.length 0 e=gc at key hge
     have hcells:(bytesRow ⟨⟨str⟩⟩ gc).toList=cellsV ρ (.arr str.length 1 (yNq str))++List.replicate (gc-str.length) (Value.int .u8 0):=by
      simp only[cellsV];rw[yvq (by rw[zIq];simp[yNq]),j5q];simp[bytesRow];rfl
     have hag:Env.Agree (DD D ρ) ρ (ρ.add h.next w.heap.size 0 gc):=Env.add_agree (r.next_new hU);have hin:InD (DD D ρ) (.arr str.length 1 (yNq str)):=InDL_iff.2 λy hy=>by obtain⟨c,_,rfl⟩:=List.mem_map.1 hy;trivial
     obtain⟨r',n'⟩:=(r.drawn (w.drawn+1)).pushAny (w':=w.drew.alloc (.cells (bytesRow ⟨⟨str⟩⟩ gc) e ((bytesRow ⟨⟨str⟩⟩ gc).size,(bytesRow ⟨⟨str⟩⟩ gc).size+1))) (pre:=0) (cap:=gc) hU (q5q w.drew _) (heap_alloc_new w.drew _) (b:=.ro (.arr str.length 1 (yNq str))) hin ⟨[],List.replicate (gc-str.length) (Value.int .u8 0),e,_,by
      rw[ywq hag hin,List.nil_append,<-hcells],by simp[Env.add],by simp[Env.add];exact hge⟩
     obtain⟨s1,s2⟩:=new_sl (D:=D) (ρ:=ρ) (w:=w) (h:=h) gc str.length 1 Xd hge (cap:=gc) Xd;refine⟨_,_,_,_,⟨.inl ?_,s1.symm,r',n'.undrew,s2⟩⟩;simp[execOp,e1,conc,key]
    ·cases hh
   ·cases hh
  ·cases hh
 case load t x=>
  simp only[opH,zrq,z7q,zRq,zSq,yRq,zhq,zkq,zCq,ybq,zNq,zqq,zzq,zgq,znq,zfq,zyq,zVq,zFq,z5q] at hh;split at hh
  ·rename_i b off i hx hi;split at hh
   ·rename_i bv hv;split at hh
    ·rename_i y hg;cases hh;obtain⟨e,hin⟩:=hfr.ev hx;obtain⟨k1,k2⟩:=Y3q hC r hi hin.1 hv hg;refine⟨_,D,ρ,w,⟨.inl ?_,rfl,r,Nxt.refl _ _ _ _,k2⟩⟩;simp[execOp,e,conc,Instr.loadAt,Instr.sureAddr,k1]
    ·cases hh
   ·cases hh
  ·cases hh
 case store t x y=>
  simp only[opH,zrq,z7q,zRq,zSq,yRq,zhq,zkq,zCq,ybq,zNq,zqq,zzq,zgq,znq,zfq,zyq,zVq,zFq,z5q] at hh;split at hh
  ·rename_i b off u i hx hy hi;split at hh
   ·rename_i bty bv hg hsz;rw[Nat.beq_eq] at hsz;split at hh
    ·rename_i v' hp;cases hh;obtain⟨e,hin⟩:=hfr.ev hx;obtain⟨e2,hin2⟩:=hfr.ev hy;obtain⟨w',k1,k2,k3⟩:=store_sound hC r hi hsz hin.1 hg hp hin2;refine⟨_,D,ρ,w',⟨.inr ⟨?_,rfl⟩,rfl,k2,k3,trivial⟩⟩;simp[execOp,e,e2,conc,Instr.storeAt,Instr.sureAddr,k1]
    ·cases hh
   ·cases hh
  ·cases hh
 case alloc t=>
  simp only[opH,zrq,z7q,zRq,zSq,yRq,zhq,zkq,zCq,ybq,zNq,zqq,zzq,zgq,znq,zfq,zyq,zVq,zFq,z5q] at hh;split at hh
  ·rename_i i hi;cases hh;have ok:=hC.ty t i hi;have hz:=yQq (P:=P) (ok.zero ρ)
   have hzc:(conc ρ i.zero).cells=(cellsV ρ i.zero).toArray:=y9q (by
    cases ha:i.agg with
    |true=>exact .inr Qb
    |false=>exact .inl (ok.zleaf ha))
   obtain⟨r',n'⟩:=xgq (t:=t) (tail:=[]) r hU (ok.zin.mono λ_ _ h=>h.elim);simp only[List.append_nil] at r' n';obtain⟨p1,p2⟩:=new_ptr (cap:=i.zero.size+[].length (α:=Value)) r;refine⟨_,_,_,_,⟨.inl ?_,p1.symm,r',n',p2⟩⟩;simp[execOp,Instr.alloc,hz,newVar,newRow,hzc]
  ·cases hh
 case box t x=>
  simp only[opH,zrq,z7q,zRq,zSq,yRq,zhq,zkq,zCq,ybq,zNq,zqq,zzq,zgq,znq,zfq,zyq,zVq,zFq,z5q] at hh;split at hh
  ·rename_i u hx;split at hh
   ·rename_i hl;simp only[Bool.or_eq_true] at hl;cases hh;obtain⟨e,hin⟩:=hfr.ev hx;obtain⟨r',n'⟩:=xgq (t:=t) (tail:=[]) r hU hin;simp only[List.append_nil] at r' n';obtain⟨p1,p2⟩:=new_ptr (cap:=u.size+[].length (α:=Value)) r;refine⟨_,_,_,_,⟨.inl ?_,p1.symm,r',n',p2⟩⟩;simp[execOp,e,Instr.box,newVar,newRow,y9q hl]
   ·cases hh
  ·cases hh
 case buildSlice t n parts=>
  simp only[opH,zrq,z7q,zRq,zSq,yRq,zhq,zkq,zCq,ybq,zNq,zqq,zzq,zgq,znq,zfq,zyq,zVq,zFq,z5q] at hh;split at hh
  ·rename_i i hi;split at hh
   ·rename_i e he;have hd:=(hC.ty t i hi).d;rw[he] at hd;have hd:P.underlying t=some (.slice e):=hd;split at hh
    ·rename_i k hk;split at hh
     ·cases hh
     ·rename_i hc;simp only[Bool.or_eq_false_iff,Bool.not_eq_false'] at hc;have hle:=Nat.le_of_ble_eq_true hc.2
      have hk0:0<k.size:=by
       rcases Nat.eq_zero_or_pos k.size with h0|h0
       ·rw[YMq h0] at hc;cases hc.1
       ·exact h0
      split at hh
      ·rename_i u hu;cases hh;have ok:=hC.ty e k hk;have hzin:InD (DD D ρ) (repV n k.size k.zero):=InDL_iff.2 λy hy=>by rw[(List.mem_replicate.1 hy).2];exact ok.zin.mono λ_ _ h=>h.elim
       obtain⟨f1,f2,f3⟩:=Qfq hfr parts.toList _ u hu hzin
       have hzc:(conc ρ k.zero).cells=(cellsV ρ k.zero).toArray:=y9q (by
        cases ha:k.agg with
        |true=>exact .inr Qb
        |false=>exact .inl (ok.zleaf ha))
       have hz:=yQq (P:=P) (ok.zero ρ);have hus:u.size=n*k.size:=f3;obtain⟨r',n'⟩:=xgq (t:=e) (tail:=[]) r hU f2;simp only[List.append_nil] at r' n';obtain⟨p1,p2⟩:=new_sl (D:=D) (ρ:=ρ) (w:=w) (h:=h) n n k.size hk0 (Nat.le_refl _) (cap:=u.size+[].length (α:=Value)) (by simp[hus]);refine⟨_,_,_,_,⟨.inl ?_,p1.symm,r',n',p2⟩⟩;have hlist:(parts.map λ(p:Nat×Operand)=>(p.1,a.eval p.2)).toList=parts.toList.map λp=>(p.1,a.eval p.2):=by simp
       have hsz:=ok.sizeOf w;have hgt:¬n*k.size>2^24:=by omega
       have hrep:=ZAq ρ n k.size k.zero ok.zsize hk0;rw[hrep] at f1;simp only[execOp,Instr.buildSlice,Sem.run_bind,run_underlying hd,Result.andThen_ok,hsz,hgt,if_false,hlist];by_cases h0:n*k.size=0
       ·have hn:n=0:=by
         rcases Nat.mul_eq_zero.1 h0 with h|h
         ·exact h
         ·omega
        subst hn;have hr0:Array.range 0= #[]:=rfl;simp only[Nat.zero_mul,hr0,List.map_toArray,List.map_nil] at f1⊢;simp[f1,newRow]
       ·simp only[h0,if_false,Sem.run_bind,hz w,Result.andThen_ok,Sem.run_pure,hzc];rw[f1];simp[newRow]
      ·cases hh
    ·cases hh
   ·cases hh
  ·cases hh
 case makeSlice t x y=>
  simp only[opH,zrq,z7q,zRq,zSq,yRq,zhq,zkq,zCq,ybq,zNq,zqq,zzq,zgq,znq,zfq,zyq,zVq,zFq,z5q] at hh;split at hh
  ·rename_i i u z hi hx hy;split at hh
   ·rename_i e l c he hl hc;obtain⟨kl,rfl⟩:=jXq hl;obtain⟨kc,rfl⟩:=jXq hc;have hd:=(hC.ty t i hi).d;rw[he] at hd;have hd:P.underlying t=some (.slice e):=hd;split at hh
    ·rename_i k hk;split at hh
     ·cases hh
     ·rename_i hcc;simp only[Bool.or_eq_false_iff,Bool.not_eq_false'] at hcc;have h1:=Nat.le_of_ble_eq_true hcc.1.1.2;have h2:=Nat.le_of_ble_eq_true hcc.1.2;have h3:=Nat.le_of_ble_eq_true hcc.2
      have hk0:0<k.size:=by
       rcases Nat.eq_zero_or_pos k.size with h0|h0
       ·rw[YMq h0] at hcc;cases hcc.1.1.1
       ·exact h0
      cases hh;have ok:=hC.ty e k hk;obtain⟨inf,hin,hsz,hby,hz⟩:=ok.info
      have hzc:(conc ρ k.zero).cells=(cellsV ρ k.zero).toArray:=y9q (by
       cases ha:k.agg with
       |true=>exact .inr Qb
       |false=>exact .inl (ok.zleaf ha))
      have hmul:((inf.bytes:Int)*(c:Int))<=281474976710656:=by
       have:((inf.bytes*c:Nat):Int)<=281474976710656:=by rw[hby];omega
       rwa[Int.natCast_mul] at this
      have key:=run_make (P:=P) w t e inf _ hd hin (hz ρ) kl kc (l:Int) (c:Int) Xd Xd hmul Xd;have hzin:InD (DD D ρ) (repV c k.size k.zero):=InDL_iff.2 λy hy=>by rw[(List.mem_replicate.1 hy).2];exact ok.zin.mono λ_ _ h=>h.elim
      obtain⟨r',n'⟩:=xgq (t:=e) (tail:=[]) r hU hzin;simp only[List.append_nil] at r' n';have hrep:=ZAq ρ c k.size k.zero ok.zsize hk0;rw[hrep] at r' n';obtain⟨p1,p2⟩:=new_sl (D:=D) (ρ:=ρ) (w:=w) (h:=h) c l k.size hk0 h1 (cap:=(repV c k.size k.zero).size+[].length (α:=Value)) (by simp[repV,V.size]);refine⟨_,_,_,_,⟨.inl ?_,p1.symm,r',n',p2⟩⟩;simp only[Int.toNat_natCast,hzc,hsz,madeCells] at key;simp[execOp,(hfr.ev hx).1,(hfr.ev hy).1,conc,key]
    ·cases hh
   ·cases hh
  ·cases hh
 case slice t x lo hi mx=>
  simp only[opH,zrq,z7q,zRq,zSq,yRq,zhq,zkq,zCq,ybq,zNq,zqq,zzq,zgq,znq,zfq,zyq,zVq,zFq,z5q] at hh;split at hh
  ·rename_i j u hj hx;have hd:=(hC.ty t j hj).d;obtain⟨e1,i1⟩:=hfr.ev hx;split at hh
   ·rename_i n e b off he;rw[he] at hd;split at hh
    ·rename_i k l rr bv hk hl hr hv;split at hh
     ·cases hh
     ·rename_i hc;simp only[Bool.or_eq_false_iff,Bool.not_eq_false'] at hc;have h1:=Nat.le_of_ble_eq_true hc.1.1.2;have h2:=Nat.le_of_ble_eq_true hc.1.2;have h3:=Nat.le_of_ble_eq_true hc.2
      have hk0:0<k.size:=by
       rcases Nat.eq_zero_or_pos k.size with h0|h0
       ·rw[YMq h0] at hc;cases hc.1.1.1
       ·exact h0
      cases hh;obtain⟨_,_,_,_,_,_,hcap,_⟩:=r.val i1.1 hv;have hb:=xoq (P:=P) hfr (isSl:=false) hl hr h1 h2 w;refine⟨_,D,ρ,w,⟨.inl ?_,rfl,r,Nxt.refl _ _ _ _,hk0,by simp only[Option.getD_some];omega,i1.1,?_⟩⟩
      ·simp only[execOp,e1,conc,yeq,Instr.sliceAt,Sem.run_bind,run_underlying hd.1,Result.andThen_ok,Instr.sureAddr,Option.map_none,hb,(hC.ty e k hk).sizeOf w,Sem.run_pure,jcq];have hsc:z3q ρ b (off+l*k.size) k.size (some (n-l))=n-l:=rfl;simp only[hsc];congr 4
       by_cases hnl:n=l
       ·simp[hnl,uoq (ρ:=ρ) (b:=b) (base:=off) Xd]
       ·have:¬n-l=0:=by omega
        simp[hnl,this,Nat.add_assoc]
      ·simp only[Option.getD_some];have:l*k.size+(n-l)*k.size=n*k.size:=by rw[<-Nat.add_mul];congr 1;omega
       omega
    ·cases hh
   ·rename_i e b base off len esz lim he;rw[he] at hd;have hd:P.underlying t=some (.slice e):=hd;split at hh
    ·rename_i k l rr bv hk hl hr hv;split at hh
     ·cases hh
     ·rename_i hc;simp only[Bool.and_eq_true,Nat.beq_eq] at hc;obtain⟨⟨⟨⟨hes,h1⟩,h0⟩,h3⟩,h4⟩:=hc;have h1:=Nat.le_of_ble_eq_true h1;have h0:=Nat.le_of_ble_eq_true h0;have h3:=Nat.le_of_ble_eq_true h3;cases hh;obtain⟨_,_,_,_,_,_,hcap,_⟩:=r.val i1.2.2.1 hv;obtain⟨hpos,hlen,hD,hroom⟩:=i1
      have hrc:rr<=z3q ρ b off esz lim:=by
       cases lim with
       |some c=>exact Nat.le_of_ble_eq_true h4
       |none=>simp only[z3q];rw[Nat.le_div_iff_mul_le hpos];omega
      have hb:=xoq (P:=P) hfr (isSl:=true) hl hr h1 hrc w;refine⟨_,D,ρ,w,⟨.inl ?_,rfl,r,Nxt.refl _ _ _ _,hpos,?_,hD,?_⟩⟩
      ·simp only[execOp,e1,conc,yeq,Instr.sliceAt,Sem.run_bind,run_underlying hd,Result.andThen_ok,Option.map_none,Instr.slice,hb,(hC.ty e k hk).sizeOf w,Sem.run_pure,hes]
       have hcap:z3q ρ b (off+l*esz) esz (qxq l lim)=z3q ρ b off esz lim-l:=by
        cases lim with
        |some c=>rfl
        |none=>
         simp only[z3q,qxq];rw[Nat.sub_add_eq,Nat.mul_comm l esz,Nat.sub_mul_div]
       rw[hcap];congr 4
       have hc0:¬z3q ρ b off esz lim=0:=by omega
       by_cases hl0:l=0
       ·subst hl0;simp[Addr.add]
       ·have hb0:Nat.beq l 0=false:=beq_f hl0;simp only[hb0,hc0,if_false,Option.map_some,jcq];by_cases hm:z3q ρ b off esz lim=l
        ·simp[hm,uoq (ρ:=ρ) (b:=b) (base:=off) (Nat.le_trans (Nat.le_add_right _ _) hroom)]
        ·have:¬z3q ρ b off esz lim-l=0:=by omega
         simp[hm,this,Nat.add_assoc]
      ·cases lim with
       |some c=>have h4:=Nat.le_of_ble_eq_true h4;simp only[qxq,Option.getD_some];omega
       |none=>simp[qxq]
      ·cases lim with
       |some c=>
        have h4:=Nat.le_of_ble_eq_true h4;simp only[qxq,Option.getD_some] at hroom⊢;have:l*esz+(c-l)*esz=c*esz:=by rw[<-Nat.add_mul];congr 1;omega
        omega
       |none=>
        simp only[qxq,Option.getD_none];have:l*esz+(rr-l)*esz=rr*esz:=by rw[<-Nat.add_mul];congr 1;omega
        omega
    ·cases hh
   ·cases hh
  ·cases hh
 case makeMap t x=>
  have key:∀hint:Option Operand,(∀y,hint=some y->(∃k e,P.underlying t=some (.map k e))/\∃j n,a.eval y= .int j n) ->h'=h.push (.map [] 0) ->v= .map h.next->∃x D' ρ' w',Did P C s0 U ⟨dst,.makeMap t hint,ty,pos,aft,g⟩ a D ρ h w v h' x D' ρ' w':=λhint hx he hv=>by
   subst he hv;obtain⟨r',n'⟩:=r.push (w':=w.alloc (.map #[] 0)) (pre:=0) (cap:=0) hU (q5q w _) (heap_alloc_new w _) rfl (b:=.map [] 0) (λe he=>by cases he) rfl;refine⟨_,_,_,_,⟨.inl ?_,rfl,r',n',QWq (Nat.le_refl _)⟩⟩;cases hint with
   |none=>simp[execOp,Instr.makeMap,newObj,Sem.run,conc,Env.add]
   |some y=>
    obtain⟨⟨k,e,hu⟩,j,n,hy⟩:=hx y rfl;simp[execOp,Instr.makeMap,newObj,conc,Env.add,run_underlying hu,hy,asInt];rfl
  simp only[opH,zqq] at hh;split at hh
  ·cases hh;exact key none (λy hy=>by cases hy) rfl rfl
  ·rename_i y;split at hh
   ·rename_i p j n hm hy;cases hh;exact key (some y) (λy' hy'=>by cases hy';exact⟨⟨_,_,hC.mp _ _ _ hm⟩,_,_,(hfr.ev hy).1⟩) rfl rfl
   ·cases hh
 case lookup t x y ok=>
  obtain⟨rfl,q1,q2⟩:=lookup_sound hC hfr r (show zzq C fr h t x y ok=some (v,h') from hh);exact⟨_,D,ρ,w,⟨.inl (by simp[execOp,q1]),rfl,r,Nxt.refl _ _ _ _,q2⟩⟩
 case mapUpdate t x y z=>
  obtain⟨w',rfl,q1,q2,q3⟩:=vGq hC hfr r (show zgq C fr h t x y z=some (v,h') from hh);exact⟨_,D,ρ,w',⟨.inr ⟨by simp only[execOp,Sem.run_bind,q1,Result.andThen_ok,Sem.run_pure],rfl⟩,rfl,q2,q3,trivial⟩⟩
 case insert t x y z=>
  obtain⟨w',rfl,q1,q2,q3⟩:=vGq hC hfr r (show zgq C fr h t x y z=some (v,h') from hh);exact⟨_,D,ρ,w',⟨.inr ⟨by simp only[execOp,Sem.run_bind,q1,Result.andThen_ok,Sem.run_pure],rfl⟩,rfl,q2,q3,trivial⟩⟩
 case mapEntry t x y=>
  obtain⟨w',q1,q2,q3,q4⟩:=entry_sound hC hfr r (show znq C fr h t x y=some (v,h') from hh);exact⟨_,D,ρ,w',⟨.inl (by simp[execOp,q1]),rfl,q2,q3,q4⟩⟩
 case entryStore t x y z=>
  obtain⟨w',rfl,q1,q2,q3⟩:=estore_sound (P:=P) (t:=t) hfr r (show zfq C fr h x y z=some (v,h') from hh);exact⟨_,D,ρ,w',⟨.inr ⟨by simp only[execOp,Sem.run_bind,q1,Result.andThen_ok,Sem.run_pure],rfl⟩,rfl,q2,q3,trivial⟩⟩
 case call c=>
  obtain⟨callee,args,ats⟩:=c;cases callee<;>try (simp[opH,zrq,z7q,zRq,zSq,yRq,zhq,zkq,zCq,ybq,zNq,zqq,zzq,zgq,znq,zfq,zyq,zVq,zFq,z5q] at hh;done)
  rename_i b;cases b<;>try (simp[opH,zrq,z7q,zRq,zSq,yRq,zhq,zkq,zCq,ybq,zNq,zqq,zzq,zgq,znq,zfq,zyq,zVq,zFq,z5q] at hh;done)
  case append=>
   have e2:execOp a.eval ⟨dst,.call ⟨.builtin .append,args,ats⟩,ty,pos,aft,g⟩=(do pure (.value (<-Builtin.append_ ats ty (args.map a.eval)))):=rfl;simp only[opH,zrq,z7q,zRq,zSq,yRq,zhq,zkq,zCq,ybq,zNq,zqq,zzq,zgq,znq,zfq,zyq,zVq,zFq,z5q] at hh;split at hh
   ·rename_i x y ts tx h1 h2;have h1:args= #[x,y]:=by apply Array.toList_inj.1;simpa using h1
    have h2:ats= #[ts,tx]:=by apply Array.toList_inj.1;simpa using h2
    subst h1;subst h2
    split at hh
    ·rename_i s u hx hy;obtain⟨e1,i1⟩:=hfr.ev hx;obtain⟨e3,i3⟩:=hfr.ev hy;obtain⟨val,D',ρ',w',q1,q2,q3,q4,q5⟩:=Yxq (ty:=ty) hC r i1 i3 hh hU;refine⟨val,D',ρ',w',⟨.inl ?_,q2,q3,q4,q5⟩⟩;rw[e2];simp[e1,e3,q1]
    ·cases hh
   ·cases hh
  case clear=>
   have e2:execOp a.eval ⟨dst,.call ⟨.builtin .clear,args,ats⟩,ty,pos,aft,g⟩=(do pure (.value (<-Builtin.clear_ ats ty (args.map a.eval)))):=rfl;replace hh:zyq C fr h args ats=some (v,h'):=hh
   unfold zyq at hh;split at hh
   ·rename_i r0 hh0;cases hh;have hh:=hh0;clear hh0;unfold zVq at hh;split at hh
    ·rename_i x t h1 h2;have h1:args= #[x]:=by apply Array.toList_inj.1;simpa using h1
     have h2:ats= #[t]:=by apply Array.toList_inj.1;simpa using h2
     subst h1;subst h2
     split at hh
     ·rename_i p hm hx;cases hh;obtain⟨e1,i1⟩:=hfr.ev hx;have hu:=hC.mp _ _ _ hm;refine⟨_,D,ρ,w,⟨.inl ?_,rfl,r,Nxt.refl _ _ _ _,trivial⟩⟩;rw[e2];simp[e1,conc,Builtin.clear_,run_underlying hu]
     ·rename_i p b hm hx;obtain⟨e1,i1⟩:=hfr.ev hx;have hu:=hC.mp _ _ _ hm;split at hh
      ·rename_i es c hg;cases hh;obtain⟨hb,hes⟩:=r.mapAt i1.1 hg;obtain⟨r',n'⟩:=r.mapPut (es':=[]) (c':=c) i1.1 hg (λe he=>by cases he);refine⟨_,D,ρ,_,⟨.inl ?_,rfl,r',n',trivial⟩⟩;rw[e2];simp[e1,conc,Builtin.clear_,run_underlying hu,kWq hb,vkq _ hb,qsq]
      ·cases hh
     ·cases hh
    ·cases hh
   ·unfold zFq at hh;split at hh
    ·rename_i x t h1 h2;have h1:args= #[x]:=by apply Array.toList_inj.1;simpa using h1
     have h2:ats= #[t]:=by apply Array.toList_inj.1;simpa using h2
     subst h1;subst h2
     split at hh
     ·rename_i j u hj hx;obtain⟨e1,i1⟩:=hfr.ev hx;have hd:=(hC.ty t j hj).d;split at hh
      ·rename_i e he;cases hh;rw[he] at hd;have hu:P.underlying t=some (.slice e):=hd;refine⟨_,D,ρ,w,⟨.inl ?_,rfl,r,Nxt.refl _ _ _ _,trivial⟩⟩;rw[e2];simp[e1,conc,Builtin.clear_,run_underlying hu]
      ·rename_i e b base off len esz lim he;rw[he] at hd;have hu:P.underlying t=some (.slice e):=hd;split at hh
       ·cases hh;refine⟨_,D,ρ,w,⟨.inl ?_,rfl,r,Nxt.refl _ _ _ _,trivial⟩⟩;rw[e2];simp[e1,conc,yeq,Builtin.clear_,run_underlying hu]
       ·rename_i k bty bv n hk hg;split at hh
        ·rename_i hc;simp only[Bool.and_eq_true] at hc;have hes:=Nat.eq_of_beq_eq_true hc.1;have hle:=Nat.le_of_ble_eq_true hc.2;subst hes;split at hh
         ·rename_i v' hp;cases hh;obtain⟨w',q1,q2,q3⟩:=clear_sound (ty:=ty) hC r hu hk i1 hg hle hp;refine⟨_,D,ρ,w',⟨.inl ?_,rfl,q2,q3,trivial⟩⟩;rw[e2];simp[e1,q1];rfl
         ·cases hh
        ·cases hh
       ·cases hh
      ·cases hh
     ·cases hh
    ·cases hh
  case len=>
   have e2:execOp a.eval ⟨dst,.call ⟨.builtin .len,args,ats⟩,ty,pos,aft,g⟩=(do pure (.value (<-Builtin.len_ ats ty (args.map a.eval)))):=rfl;simp only[opH,z5q] at hh;split at hh
   ·rename_i x t h1 h2;have h1:args= #[x]:=by apply Array.toList_inj.1;simpa using h1
    have h2:ats= #[t]:=by apply Array.toList_inj.1;simpa using h2
    subst h1;subst h2
    split at hh
    ·rename_i p hm hx;cases hh;obtain⟨e1,i1⟩:=hfr.ev hx;have hu:=hC.mp _ _ _ hm;refine⟨_,D,ρ,w,⟨.inl ?_,rfl,r,Nxt.refl _ _ _ _,trivial⟩⟩;rw[e2];simp[e1,conc,Builtin.len_,run_underlying hu,goInt]
    ·rename_i p b hm hx;obtain⟨e1,i1⟩:=hfr.ev hx;have hu:=hC.mp _ _ _ hm;split at hh
     ·rename_i es c hg;cases hh;obtain⟨hb,hes⟩:=r.mapAt i1.1 hg;refine⟨_,D,ρ,w,⟨.inl ?_,rfl,r,Nxt.refl _ _ _ _,trivial⟩⟩;rw[e2];simp[e1,conc,Builtin.len_,run_underlying hu,kWq hb,goInt,qsq]
     ·cases hh
    ·cases hh
   ·cases hh
  case copy=>
   have e2:execOp a.eval ⟨dst,.call ⟨.builtin .copy,args,ats⟩,ty,pos,aft,g⟩=(do pure (.value (<-Builtin.copy_ ats ty (args.map a.eval)))):=rfl;simp only[opH,zrq,z7q,zRq,zSq,yRq,zhq,zkq,zCq,ybq,zNq,zqq,zzq,zgq,znq,zfq,zyq,zVq,zFq,z5q] at hh;split at hh
   ·rename_i x y ts tx h1 h2;have h1:args= #[x,y]:=by apply Array.toList_inj.1;simpa using h1
    have h2:ats= #[ts,tx]:=by apply Array.toList_inj.1;simpa using h2
    subst h1;subst h2
    split at hh
    ·rename_i s u hx hy;obtain⟨e1,i1⟩:=hfr.ev hx;obtain⟨e3,i3⟩:=hfr.ev hy;obtain⟨w',q1,q3,q4,q5⟩:=copy_sound (ty:=ty) hC r i1 i3 hh;refine⟨_,D,ρ,w',⟨.inl ?_,rfl,q3,q4,q5⟩⟩;rw[e2];simp[e1,e3,q1]
    ·cases hh
   ·cases hh
end
structure Self where
 fn:FuncId->List V->Heap->Option (V×Heap)
 yield:Nat->List V->Heap->Option (V×Heap)
structure St where
 fr:Tr V
 h:Heap
 ds:List Nat
 rd:Bool
structure Flow where
 loop:Code->St->Option (Exit×St)
 scope:Code->Nat->St->Option (Exit×St)
noncomputable def vdq(ops:Array Oper)(fr:Tr V)(o:Oper):Option Bool:=match o.guard with
 |none=>some true
 |some (j,b)=>match (ops[j]?).bind (·.dst) with
  |none=>some false
  |some t=>match fr.get t with
   |some (.bool c)=>some (c==b)
   |some _=>some false
   |none=>none
noncomputable def putT(fr:Tr V)(d:Option Tmp)(v:V):Tr V:=match d with
 |some t=>fr.set t (some v)
 |none=>fr
noncomputable def qyq(S:Self)(C:Cfg)(fr:Tr V)(h:Heap):Op->Option (V×Heap)
 |.call ⟨.value x,xs,_⟩=>match evV C fr x,evL C fr xs.toList with
  |some (.fn f a c),some vs=>match C.ext f with
   |some e=>match e (a++vs++c) with
    |some v=>some (v,h)
    |none=>none
   |none=>S.fn f (a++vs++c) h
  |some (.yield l),some vs=>S.yield l vs h
  |_,_=>none
 |.call ⟨.invoke x m,xs,_⟩=>match evV C fr x,evL C fr xs.toList with
  |some (.iface t v),some vs=>match C.mt t m with
   |some f=>match C.ext f with
    |some _=>none
    |none=>S.fn f (v::vs) h
   |none=>none
  |_,_=>none
 |_=>none
noncomputable def opV(S:Self)(C:Cfg)(fr:Tr V)(h:Heap)(o:Oper):Option (V×Heap):=
 match z1q C fr o.type o.op with
 |some v=>some (v,h)
 |none=>match opH C fr h o.op with
  |some r=>some r
  |none=>qyq S C fr h o.op
noncomputable def qjq(S:Self)(C:Cfg)(ops:Array Oper):List Oper->Tr V->Heap->Option (Tr V×Heap)
 |[],fr,h=>some (fr,h)
 |o::l,fr,h=>match vdq ops fr o with
  |some true=>match opV S C fr h o with
   |some (v,h')=>qjq S C ops l (putT fr o.dst v) h'
   |none=>none
  |some false=>qjq S C ops l (putT fr o.dst .undef) h
  |none=>none
noncomputable def add64V:List V->Option V
 |[.int .u64 (.ofNat x),.int .u64 (.ofNat y),.int .u64 (.ofNat c)]=>match Nat.ble c 1 with
  |true=>some (.tup [.int .u64 (.ofNat ((x+y+c)%18446744073709551616)),.int .u64 (.ofNat ((x+y+c)/18446744073709551616))])
  |false=>none
 |_=>none
noncomputable def qiq(ops:Array Oper):Nat->Nat->Nat->Bool
 |0,_,_=>false
 |f+1,j,k=>match ops[j]? with
  |none=>false
  |some o=>o.after.any λe=>Region.binds .any e&&(Nat.beq e.on k||qiq ops f e.on k)
inductive Ev where
 |load (b:Nat)
 |store (b:Nat)
 |gen
 |dirty
 |upd (b:Nat)
 |mk (b:Nat)
noncomputable def Ev.clash:Ev->Ev->Bool
 |.load _,.load _=>false
 |.load a,.store b=>Nat.beq a b
 |.store a,.load b=>Nat.beq a b
 |.store a,.store b=>Nat.beq a b
 |.load a,.upd b=>Nat.beq a b
 |.upd a,.load b=>Nat.beq a b
 |.gen,.load _=>false
 |.load _,.gen=>false
 |.gen,.gen=>false
 |.mk a,.store b=>Nat.beq a b
 |.store a,.mk b=>Nat.beq a b
 |.mk _,.upd _=>true
 |.mk _,.dirty=>true
 |.mk _,_=>false
 |.load _,.mk _=>false
 |.gen,.mk _=>false
 |_,_=>true
noncomputable def evOf(C:Cfg)(fr:Tr V)(h h1:Heap):Op->Ev
 |.load _ x=>match evV C fr x with
  |some (.ptr b _)=>.load b
  |_=>.dirty
 |.store _ x _=>match evV C fr x with
  |some (.ptr b _)=>.store b
  |_=>.dirty
 |.call ⟨.builtin .append,xs,_⟩=>match Nat.ble h.next h1.wmin with
  |true=>.gen
  |false=>match xs.toList with
   |[x,_]=>match evV C fr x with
    |some (.sl b _ _ _ _ _)=>.upd b
    |_=>.dirty
   |_=>.dirty
 |.buildSlice _ _ _=>.mk h.next
 |_=>match Nat.ble h.next h1.wmin with
  |true=>.gen
  |false=>.dirty
noncomputable def Jfq(ops:Array Oper)(j:Nat)(x:Ev):List (Nat×Ev) ->Bool
 |[]=>true
 |(k,y)::l=>(match y.clash x with|true=>qiq ops ops.size j k|false=>true)&&Jfq ops j x l
noncomputable def minN(a b:Nat):Nat:=match Nat.ble a b with
 |true=>a
 |false=>b
noncomputable def vZq(S:Self)(C:Cfg)(fr:Tr V)(h:Heap)(o:Oper):Option (V×Heap×Option Ev):=
 match z1q C fr o.type o.op with
 |some v=>some (v,h,none)
 |none=>match opV S C fr {h with wmin:=h.next} o with
  |some (v,h1)=>some (v,{h1 with wmin:=minN h.wmin h1.wmin},some (evOf C fr h h1 o.op))
  |none=>none
noncomputable def ymq(S:Self)(C:Cfg)(ops:Array Oper):List Oper->Nat->List (Nat×Ev) ->Tr V->Heap->Option (Tr V×Heap)
 |[],_,_,fr,h=>some (fr,h)
 |o::l,i,es,fr,h=>match vdq ops fr o with
  |some true=>match vZq S C fr h o with
   |some (v,h1,some x)=>match Jfq ops i x es with
    |true=>ymq S C ops l (i+1) ((i,x)::es) (putT fr o.dst v) h1
    |false=>none
   |some (v,h1,none)=>ymq S C ops l (i+1) es (putT fr o.dst v) h1
   |none=>none
  |some false=>ymq S C ops l (i+1) es (putT fr o.dst .undef) h
  |none=>none
noncomputable def YHq:Tr V->List Tmp->List V->Tr V
 |fr,p::ps,v::vs=>YHq (fr.set p (some v)) ps vs
 |fr,_,_=>fr
noncomputable def jJq(st:St)(D l:Nat)(h:Heap):Option (Exit×St):=match h.get l with
 |some (.loop .ready none _ _ _ _ _)=>some (.normal,⟨st.fr,h.kill l,D::st.ds,st.rd⟩)
 |some (.loop .done (some .ret) _ _ _ _ _)=>some (.ret,⟨st.fr,h.kill l,D::st.ds,st.rd⟩)
 |some (.loop .done (some (.exit id)) _ _ _ _ _)=>some (.exit id,⟨st.fr,h.kill l,D::st.ds,st.rd⟩)
 |some (.loop .done (some (.goto id)) _ _ _ _ _)=>some (.goto id,⟨st.fr,h.kill l,D::st.ds,st.rd⟩)
 |_=>none
noncomputable def zbq(S:Self)(F:Flow)(C:Cfg):Code->St->Option (Exit×St)
 |.skip,st=>some (.normal,st)
 |.region _ ops dr,st=>match (match dr with
   |true=>ymq S C ops ops.toList 0 [] st.fr st.h
   |false=>qjq S C ops ops.toList st.fr st.h) with
  |some (fr,h)=>some (.normal,⟨fr,h,st.ds,st.rd⟩)
  |none=>none
 |.seq x y,st=>match zbq S F C x st with
  |some (.normal,st')=>zbq S F C y st'
  |r=>r
 |.cond c x y,st=>match evV C st.fr c with
  |some (.bool true)=>zbq S F C x st
  |some (.bool false)=>zbq S F C y st
  |_=>none
 |.block id x,st=>match zbq S F C x st with
  |some (.exit id',st')=>match Nat.beq id' id with
   |true=>some (.normal,st')
   |false=>some (.exit id',st')
  |r=>r
 |.loop x,st=>F.loop x st
 |.rangeFunc g ps asg bd,st=>match st.rd,evV C st.fr g with
  |false,some (.fn gf [] c)=>match S.fn gf ([.yield (st.h.next+1)]++c) ((st.h.push (.dfr false)).push (.loop .ready none st.fr ps asg bd st.h.next)) with
   |some (_,h)=>jJq st st.h.next (st.h.next+1) h
   |none=>none
  |_,_=>none
 |.exit id,st=>some (.exit id,st)
 |.scope x,st=>match zbq S F C x st with
  |some (.goto l,st')=>F.scope x l st'
  |r=>r
 |.label _,st=>some (.normal,st)
 |.goto l,st=>some (.goto l,st)
 |.ret,st=>some (.ret,st)
 |.refuse _,_=>none
noncomputable def k7q:Nat->List V->Tr V->Tr V
 |_,[],t=>t
 |i,v::vs,t=>k7q (i+1) vs (t.set i (some v))
noncomputable def qDq:List Nat->Heap->Option Heap
 |[],h=>some h
 |d::ds,h=>match h.get d with
  |some (.dfr false)=>qDq ds (h.put d (.dfr true))
  |_=>none
noncomputable def resV(C:Cfg)(fr:Tr V)(h:Heap):ResultVar->Option V
 |.tmp t=>fr.get t
 |.cell p T=>match fr.get p,C.ty T with
  |some (.ptr b off),some i=>match h.val b with
   |some v=>jjq 50 v off i.size i.agg
   |none=>none
  |_,_=>none
noncomputable def resL(C:Cfg)(fr:Tr V)(h:Heap):List ResultVar->Option (List V)
 |[]=>some []
 |r::l=>match resV C fr h r,resL C fr h l with
  |some v,some vs=>some (v::vs)
  |_,_=>none
noncomputable def finV(C:Cfg)(fn:Func)(st:St):Option (V×Heap):=match qDq st.ds st.h with
 |none=>none
 |some h=>match resL C st.fr h fn.results.toList with
  |some [v]=>some (v,h)
  |some vs=>some (.tup vs,h)
  |none=>none
mutual
noncomputable def yxq(C:Cfg):Nat->FuncId->List V->Heap->Option (V×Heap)
 |0,_,_,_=>none
 | n +1,f,vs,h=>match C.known f with
  |some k=>k vs h
  |none=>match C.fn f with
   |none=>none
   |some fn=>match fn.body,Nat.ble vs.length fn.ntmps with
    |some c,true=>match zbq ⟨yxq C n,zEq C n⟩ ⟨zYq C n,zKq C n⟩ C c ⟨k7q 0 vs .nil,h,[],false⟩ with
     |some (.normal,st)=>finV C fn st
     |some (.ret,st)=>finV C fn st
     |_=>none
    |_,_=>none
noncomputable def zEq(C:Cfg):Nat->Nat->List V->Heap->Option (V×Heap)
 |0,_,_,_=>none
 | n + 1,l,vs,h=>match h.get l with
  |some (.loop .ready none fr ps asg bd d)=>match Nat.beq vs.length ps.size with
   |false=>none
   |true=>match zbq ⟨yxq C n,zEq C n⟩ ⟨zYq C n,zKq C n⟩ C asg ⟨YHq fr ps.toList vs,h,[],true⟩ with
    |some (.normal,st1)=>match st1.h.get l with
     |some (.loop .ready none fr1 ps1 asg1 bd1 d1)=>match zbq ⟨yxq C n,zEq C n⟩ ⟨zYq C n,zKq C n⟩ C bd ⟨st1.fr,st1.h.put l (.loop .busy none fr1 ps1 asg1 bd1 d1),st1.ds,st1.rd⟩ with
      |some (x,st2)=>match st2.h.get l with
       |some (.loop .busy none fr2 ps2 asg2 bd2 d2)=>match x with
        |.normal=>some (.bool true,st2.h.put l (.loop .ready none fr2 ps2 asg2 bd2 d2))
        |.ret=>some (.bool false,st2.h.put l (.loop .done (some .ret) fr2 ps2 asg2 bd2 d2))
        |.exit id=>some (.bool false,st2.h.put l (.loop .done (some (.exit id)) fr2 ps2 asg2 bd2 d2))
        |.goto id=>some (.bool false,st2.h.put l (.loop .done (some (.goto id)) fr2 ps2 asg2 bd2 d2))
        |_=>none
       |_=>none
      |none=>none
     |_=>none
    |_=>none
  |_=>none
noncomputable def zYq(C:Cfg):Nat->Code->St->Option (Exit×St)
 |0,_,_=>none
 |n+1,c,st=>match zbq ⟨yxq C n,zEq C n⟩ ⟨zYq C n,zKq C n⟩ C c st with
  |some (.normal,st')=>zYq C n c st'
  |r=>r
noncomputable def zKq(C:Cfg):Nat->Code->Nat->St->Option (Exit×St)
 |0,_,_,_=>none
 |n+1,c,l,st=>match findLabel c l with
  |some rest=>match zbq ⟨yxq C n,zEq C n⟩ ⟨zYq C n,zKq C n⟩ C rest st with
   |some (.goto l',st')=>zKq C n c l' st'
   |r=>r
  |none=>none
end
inductive Tr.All{α:Type}(p:Nat->α->Prop):(Nat->Nat) ->Tr α->Prop
 |nil {f:Nat->Nat}:Tr.All p f .nil
 |skip {f:Nat->Nat} {l r:Tr α} (hl:Tr.All p (λk=>f (2*k+1)) l) (hr:Tr.All p (λk=>f (2*k+2)) r):Tr.All p f (.node none l r)
 |here {f:Nat->Nat} {x:α} {l r:Tr α} (hx:p (f 0) x) (hl:Tr.All p (λk=>f (2*k+1)) l) (hr:Tr.All p (λk=>f (2*k+2)) r):Tr.All p f (.node (some x) l r)
theorem Tr.All.at_{α:Type}{p:Nat->α->Prop}:∀{t:Tr α} {f:Nat->Nat} {k:Nat} {x:α},Tr.All p f t->t.get k=some x->p (f k) x
 |.nil,f,k,x,_,hk=>by simp[Tr.get_nil] at hk
 |.node v l r,f,k,x,h,hk=>by
  rw[Tr.get_node] at hk;by_cases h0:k=0
  ·rw[if_pos h0] at hk;subst hk;subst h0
   cases h with
   |here hx _ _=>exact hx
  ·rw[if_neg h0] at hk
   have hlr:Tr.All p (λk=>f (2*k+1)) l/\Tr.All p (λk=>f (2*k+2)) r:=by
    cases h with
    |skip hl hr=>exact⟨hl,hr⟩
    |here _ hl hr=>exact⟨hl,hr⟩
   by_cases h1:k%2=1
   ·rw[if_pos h1] at hk;have:=hlr.1.at_ hk;rwa[show 2*(k/2)+1=k by omega] at this
   ·rw[if_neg h1] at hk;have:=hlr.2.at_ hk;rwa[show 2*(k/2-1)+2=k by omega] at this
structure Mono(h h':Heap):Prop where
 nxt:h.next<=h'.next
 wf:(∀i,h.next<=i->h.get i=none) ->∀i,h'.next<=i->h'.get i=none
 wmin:h'.wmin<=h.wmin
 keep:∀i,i<h.next->i<h'.wmin->h'.get i=h.get i
theorem Mono.refl(h:Heap):Mono h h:=⟨Nat.le_refl _,λh=>h,Nat.le_refl _,λ_ _ _=>rfl⟩
theorem Mono.trans{a b c:Heap}(x:Mono a b)(y:Mono b c):Mono a c:=
 ⟨Nat.le_trans x.nxt y.nxt,λh=>y.wf (x.wf h),Nat.le_trans y.wmin x.wmin,λi h1 h2=>(y.keep i (Nat.lt_of_lt_of_le h1 x.nxt) h2).trans (x.keep i h1 (Nat.lt_of_lt_of_le h2 y.wmin))⟩
theorem yhq(h:Heap)(b:Blk):Mono h (h.push b):=⟨Nat.le_succ _,λhw i hi=>by
  have hi:h.next+1<=i:=hi;rw[Heap.get_push,if_neg Xd];exact hw i Xd,Nat.le_refl _,λi h1 _=>by rw[Heap.get_push,if_neg Xd]⟩
theorem yoq{h:Heap}{i:Nat}{b c:Blk}(hb:h.get i=some c):Mono h (h.put i b):=by
 have hw:=kHq h.wmin i;refine⟨Nat.le_refl _,λhwf j hj=>?_,hw.1,λj _ h2=>?_⟩
 ·have hj:h.next<=j:=hj;have:j≠i:=λe=>by have:=hwf j hj;rw[e,hb] at this;cases this
  rw[Heap.get_put,if_neg this];exact hwf j hj
 ·have h2:j<wmn h.wmin i:=h2;rw[Heap.get_put,if_neg Xd]
theorem ZQq(h:Heap)(i:Nat):Mono h (h.kill i):=by
 have hw:=kHq h.wmin i;refine⟨Nat.le_refl _,λhwf j hj=>?_,hw.1,λj _ h2=>?_⟩
 ·have hj:h.next<=j:=hj;rw[Heap.get_kill];split
  ·rfl
  ·exact hwf j hj
 ·have h2:j<wmn h.wmin i:=h2;rw[Heap.get_kill,if_neg Xd]
theorem Q0q{C:Cfg}{h h':Heap}{ts tx:TypeId}{s x v:V}(ha:j8q C h ts tx s x=some (v,h')):Mono h h':=by
 unfold j8q at ha;repeat' (split at ha)
 all_goals first|(cases ha;done)|skip
 all_goals first
  |(cases ha;exact Mono.refl _)
  |(cases ha;exact yhq _ _)
  |(cases ha;rename_i hg _ _ _;exact yoq hg)
  |(cases ha;rename_i hg _ _ _ _;exact yoq hg)
  |(cases ha;rename_i hg _ _ _ _ _;exact yoq hg)
  |(cases ha;exact(yhq _ _).trans (ZQq _ _))
theorem mono_copy{C:Cfg}{h h':Heap}{ts tx:TypeId}{s x v:V}(ha:copyV C h ts tx s x=some (v,h')):Mono h h':=by
 unfold copyV at ha;repeat' (split at ha)
 all_goals first|(cases ha;done)|skip
 all_goals first
  |(cases ha;exact Mono.refl _)
  |(cases ha;rename_i hg _ _ _;exact yoq hg)
  |(cases ha;rename_i hg _ _ _ _;exact yoq hg)
  |(cases ha;rename_i hg _ _ _ _ _;exact yoq hg)
theorem mono_clear{C:Cfg}{fr:Tr V}{h h':Heap}{args:Array Operand}{ats:Array TypeId}{v:V}(hh:zyq C fr h args ats=some (v,h')):Mono h h':=by
 unfold zyq at hh;split at hh
 ·rename_i r hr;cases hh;unfold zVq at hr;repeat' (split at hr)
  all_goals first|(cases hr;done)|(cases hr;exact Mono.refl _)|(cases hr;exact yoq Yc)
 ·unfold zFq at hh;repeat' (split at hh)
  all_goals first|(cases hh;done)|(cases hh;exact Mono.refl _)|(cases hh;exact yoq Yc)
theorem mono_opH{C:Cfg}{fr:Tr V}{h h':Heap}{o:Op}{v:V}(hh:opH C fr h o=some (v,h')):Mono h h':=by
 cases o<;>try (simp[opH,zrq,z7q,zRq,zSq,yRq,zhq,zkq,zCq,ybq,zNq,zqq,zzq,zgq,znq,zfq,zyq,zVq,zFq,z5q] at hh;done)
 case convert s t x=>
  simp only[opH,zrq,z7q,zRq,zSq,yRq,zhq,zkq,zCq,ybq,zNq,zqq,zzq,zgq,znq,zfq,zyq,zVq,zFq,z5q] at hh;repeat' (split at hh)
  all_goals first|(cases hh;done)|(cases hh;exact Mono.refl _)|(cases hh;exact yhq _ _)|(cases hh;exact yoq Yc)
 case load t x=>
  simp only[opH,zrq,z7q,zRq,zSq,yRq,zhq,zkq,zCq,ybq,zNq,zqq,zzq,zgq,znq,zfq,zyq,zVq,zFq,z5q] at hh;repeat' (split at hh)
  all_goals first|(cases hh;done)|(cases hh;exact Mono.refl _)
 case store t x y=>
  simp only[opH,zrq,z7q,zRq,zSq,yRq,zhq,zkq,zCq,ybq,zNq,zqq,zzq,zgq,znq,zfq,zyq,zVq,zFq,z5q] at hh;repeat' (split at hh)
  all_goals first|(cases hh;done)|(cases hh;rename_i hg _ _ _;exact yoq hg)|(cases hh;rename_i hg _ _ _ _;exact yoq hg)
 case alloc t=>
  simp only[opH,zrq,z7q,zRq,zSq,yRq,zhq,zkq,zCq,ybq,zNq,zqq,zzq,zgq,znq,zfq,zyq,zVq,zFq,z5q] at hh;repeat' (split at hh)
  all_goals first|(cases hh;done)|(cases hh;exact yhq _ _)
 case box t x=>
  simp only[opH,zrq,z7q,zRq,zSq,yRq,zhq,zkq,zCq,ybq,zNq,zqq,zzq,zgq,znq,zfq,zyq,zVq,zFq,z5q] at hh;repeat' (split at hh)
  all_goals first|(cases hh;done)|(cases hh;exact yhq _ _)
 case buildSlice t n ps=>
  simp only[opH,zrq,z7q,zRq,zSq,yRq,zhq,zkq,zCq,ybq,zNq,zqq,zzq,zgq,znq,zfq,zyq,zVq,zFq,z5q] at hh;repeat' (split at hh)
  all_goals first|(cases hh;done)|(cases hh;exact yhq _ _)
 case makeSlice t x y=>
  simp only[opH,zrq,z7q,zRq,zSq,yRq,zhq,zkq,zCq,ybq,zNq,zqq,zzq,zgq,znq,zfq,zyq,zVq,zFq,z5q] at hh;repeat' (split at hh)
  all_goals first|(cases hh;done)|(cases hh;exact yhq _ _)
 case slice t x lo hi mx=>
  simp only[opH,zrq,z7q,zRq,zSq,yRq,zhq,zkq,zCq,ybq,zNq,zqq,zzq,zgq,znq,zfq,zyq,zVq,zFq,z5q] at hh;repeat' (split at hh)
  all_goals first|(cases hh;done)|(cases hh;exact Mono.refl _)
 case makeMap t x=>
  simp only[opH,zrq,z7q,zRq,zSq,yRq,zhq,zkq,zCq,ybq,zNq,zqq,zzq,zgq,znq,zfq,zyq,zVq,zFq,z5q] at hh;repeat' (split at hh)
  all_goals first|(cases hh;done)|(cases hh;exact Mono.refl _)|(cases hh;exact yhq _ _)|(cases hh;exact yoq Yc)
 case lookup t x y ok=>
  simp only[opH,zrq,z7q,zRq,zSq,yRq,zhq,zkq,zCq,ybq,zNq,zqq,zzq,zgq,znq,zfq,zyq,zVq,zFq,z5q] at hh;repeat' (split at hh)
  all_goals first|(cases hh;done)|(cases hh;exact Mono.refl _)|(cases hh;exact yhq _ _)|(cases hh;exact yoq Yc)
 case mapUpdate t x y z=>
  simp only[opH,zrq,z7q,zRq,zSq,yRq,zhq,zkq,zCq,ybq,zNq,zqq,zzq,zgq,znq,zfq,zyq,zVq,zFq,z5q] at hh;repeat' (split at hh)
  all_goals first|(cases hh;done)|(cases hh;exact Mono.refl _)|(cases hh;exact yhq _ _)|(cases hh;exact yoq Yc)
 case insert t x y z=>
  simp only[opH,zrq,z7q,zRq,zSq,yRq,zhq,zkq,zCq,ybq,zNq,zqq,zzq,zgq,znq,zfq,zyq,zVq,zFq,z5q] at hh;repeat' (split at hh)
  all_goals first|(cases hh;done)|(cases hh;exact Mono.refl _)|(cases hh;exact yhq _ _)|(cases hh;exact yoq Yc)
 case mapEntry t x y=>
  simp only[opH,zrq,z7q,zRq,zSq,yRq,zhq,zkq,zCq,ybq,zNq,zqq,zzq,zgq,znq,zfq,zyq,zVq,zFq,z5q] at hh;repeat' (split at hh)
  all_goals first|(cases hh;done)|(cases hh;exact Mono.refl _)|(cases hh;exact yhq _ _)|(cases hh;exact yoq Yc)
 case entryStore t x y z=>
  simp only[opH,zrq,z7q,zRq,zSq,yRq,zhq,zkq,zCq,ybq,zNq,zqq,zzq,zgq,znq,zfq,zyq,zVq,zFq,z5q] at hh;repeat' (split at hh)
  all_goals first|(cases hh;done)|(cases hh;exact Mono.refl _)|(cases hh;exact yhq _ _)|(cases hh;exact yoq Yc)
 case call c=>
  obtain⟨callee,args,ats⟩:=c;cases callee<;>try (simp[opH,zrq,z7q,zRq,zSq,yRq,zhq,zkq,zCq,ybq,zNq,zqq,zzq,zgq,znq,zfq,zyq,zVq,zFq,z5q] at hh;done)
  rename_i b;cases b<;>try (simp[opH,zrq,z7q,zRq,zSq,yRq,zhq,zkq,zCq,ybq,zNq,zqq,zzq,zgq,znq,zfq,zyq,zVq,zFq,z5q] at hh;done)
  case append=>
   simp only[opH,zrq,z7q,zRq,zSq,yRq,zhq,zkq,zCq,ybq,zNq,zqq,zzq,zgq,znq,zfq,zyq,zVq,zFq,z5q] at hh;split at hh
   ·split at hh
    ·exact Q0q hh
    ·cases hh
   ·cases hh
  case clear=>exact mono_clear (show zyq C fr h args ats=some (v,h') from hh)
  case len=>
   simp only[opH,zrq,z7q,zRq,zSq,yRq,zhq,zkq,zCq,ybq,zNq,zqq,zzq,zgq,znq,zfq,zyq,zVq,zFq,z5q] at hh;repeat' (split at hh)
   all_goals first|(cases hh;done)|(cases hh;exact Mono.refl _)
  case copy=>
   simp only[opH,zrq,z7q,zRq,zSq,yRq,zhq,zkq,zCq,ybq,zNq,zqq,zzq,zgq,znq,zfq,zyq,zVq,zFq,z5q] at hh;split at hh
   ·split at hh
    ·exact mono_copy hh
    ·cases hh
   ·cases hh
noncomputable def kFq(s0:World)(U:Nat)(D:Nat->Prop)(ρ:Env)(h:Heap)(w:World)(v:V)(h':Heap):Ending->World->Prop:=λe w'=>
 ∃D' ρ',e= .returned (conc ρ' v)/\Rel s0 U D' ρ' h' w'/\Nxt D ρ h w D' ρ' h' w'/\InD (DD D' ρ') v
structure SelfOK(P:Program)(C:Cfg)(S:Self):Prop where
 fnMono:∀f vs h v h',S.fn f vs h=some (v,h') ->Mono h h'
 fnEnter:∀f vs h v h',S.fn f vs h=some (v,h') ->∀args w,(callFunc f args).run P w= .ok (.enter f args) w
 fn:∀f vs h v h',S.fn f vs h=some (v,h') ->∀s0 U D ρ w,h'.next<=U->GlobOK C (DD D ρ) ρ->InDL (DD D ρ) vs->Rel s0 U D ρ h w->Calls P f (zJq ρ vs).toArray w (kFq s0 U D ρ h w v h')
 yMono:∀l vs h v h',S.yield l vs h=some (v,h') ->Mono h h'
 yield:∀l vs h v h',S.yield l vs h=some (v,h') ->∀s0 U D ρ w,h'.next<=U->GlobOK C (DD D ρ) ρ->D l->InDL (DD D ρ) vs->Rel s0 U D ρ h w->YieldAt Fence.wide 0 P (ρ.l l).1 (zJq ρ vs).toArray w (kFq s0 U D ρ h w v h')
section
variable {P:Program} {C:Cfg} {S:Self} {s0:World} {U:Nat} {D:Nat->Prop} {ρ:Env} {fr:Tr V} {a:Act} {w:World} {h:Heap}
theorem callV_mono(hS:SelfOK P C S){o:Op}{v:V}{h':Heap}(hc:qyq S C fr h o=some (v,h')):Mono h h':=by
 unfold qyq at hc;split at hc
 ·split at hc
  ·split at hc
   ·split at hc
    ·cases hc;exact Mono.refl _
    ·cases hc
   ·exact hS.fnMono _ _ _ _ _ hc
  ·exact hS.yMono _ _ _ _ _ hc
  ·cases hc
 ·split at hc
  ·split at hc
   ·split at hc
    ·cases hc
    ·exact hS.fnMono _ _ _ _ _ hc
   ·cases hc
  ·cases hc
 ·cases hc
theorem v9q(hS:SelfOK P C S){o:Oper}{v:V}{h':Heap}(ho:opV S C fr h o=some (v,h')):Mono h h':=by
 unfold opV at ho;split at ho
 ·cases ho;exact Mono.refl _
 ·split at ho
  ·rename_i r hr;cases ho;exact mono_opH hr
  ·exact callV_mono hS ho
theorem GlobOK.next{D':Nat->Prop}{ρ':Env}{h':Heap}{w':World}(g:GlobOK C (DD D ρ) ρ)(hl:∀i,D i->i<h.next\/U<=i)(hU:h'.next<=U)(n:Nxt D ρ h w D' ρ' h' w'):GlobOK C (DD D' ρ') ρ':=λi hi=>by
 obtain⟨h1,h2,h3⟩:=g i hi;obtain⟨e1,e2,_⟩:=n.agree hl hU i 0 h1;exact⟨n.dd hl hU i 0 h1,e1.trans h2,e2.trans h3⟩
theorem FrE.next{D':Nat->Prop}{ρ':Env}{h':Heap}{w':World}(g:FrE C D ρ fr a)(hl:∀i,D i->i<h.next\/U<=i)(hU:h'.next<=U)(n:Nxt D ρ h w D' ρ' h' w'):FrE C D' ρ' fr a:=
 ⟨λt v hv=>by rw[yyq (n.agree hl hU) (g.in_ t v hv)];exact g.at_ t v hv,λt v hv=>(g.in_ t v hv).mono (n.dd hl hU),GlobOK.next g.gl hl hU n⟩
theorem FrE.put{d:Option Tmp}{v:V}(g:FrE C D ρ fr a)(hd:Yfq a.tmps.size d=true)(hv:InD (DD D ρ) v):FrE C D ρ (putT fr d v) (a.put d (conc ρ v)):=by
 cases d with
 |none=>exact g
 |some t=>
  have ht:t<a.tmps.size:=by simpa[Yfq] using hd
  refine⟨λu x hx=>?_,λu x hx=>?_,g.gl⟩
  ·simp only[putT,Tr.get_set] at hx;simp only[Act.put,Array.getElem?_setIfInBounds];by_cases e:u=t
   ·subst e;rw[if_pos rfl] at hx;cases hx
    simp[ht]
   ·rw[if_neg e] at hx;rw[if_neg (λe'=>e e'.symm)];exact g.at_ u x hx
  ·simp only[putT,Tr.get_set] at hx;by_cases e:u=t
   ·rw[if_pos e] at hx;cases hx;exact hv
   ·rw[if_neg e] at hx;exact g.in_ u x hx
theorem xuq{ops:Array Oper}{o:Oper}{b:Bool}(g:FrE C D ρ fr a)(hw:vdq ops fr o=some b):Region.wanted o (yielded ops a.tmps)=b:=by
 unfold vdq at hw;unfold Region.wanted;cases hg:o.guard with
 |none=>simp[hg] at hw;simp[hw]
 |some p=>
  obtain⟨j,c⟩:=p;simp only[hg] at hw;simp only[yielded];cases hj:(ops[j]?).bind (·.dst) with
  |none=>simp[hj] at hw;simp[hw]
  |some t=>
   simp only[hj] at hw;simp only[Option.bind_some];split at hw
   ·rename_i d hd;cases hw;have:=g.at_ t _ hd;rw[this];simp[conc]
   ·rename_i x hx hd;cases hw;have:=g.at_ t _ hd;rw[this];cases x<;>simp[conc,yeq]<;>first|rfl|(exfalso;exact hx _ rfl)
   ·cases hw
theorem ZOq(hC:CfgOK P C)(hS:SelfOK P C S){o:Oper}{r:Option Nat}{v:V}{h':Heap}{K:Act->World->Prop}{Q:Exit->Act->World->Prop}(hn:kSq o=true)(ho:opV S C fr h o=some (v,h'))(hU:h'.next<=U)(g:FrE C D ρ fr a)(rel:Rel s0 U D ρ h w)
  (k:∀D' ρ' w',Rel s0 U D' ρ' h' w'->Nxt D ρ h w D' ρ' h' w'->InD (DD D' ρ') v->K (a.put o.dst (conc ρ' v)) w'):o.wpIn (FF r) 0 P a w K Q:=by
 unfold opV at ho;split at ho
 ·rename_i u hu;cases ho;obtain⟨h1,h2⟩:=YZq hC g hu w;exact Zaq hn (.inl h1) (k D ρ w rel (Nxt.refl _ _ _ _) h2)
 ·split at ho
  ·rename_i r' hr;cases ho;obtain⟨x,D',ρ',w',d⟩:=opH_sound hC g rel hr hU;have hx:=d.val;subst hx;exact Zaq hn d.op (k D' ρ' w' d.rel d.nxt d.in_)
  ·-- a call
   obtain⟨dst,op,ty,pos,aft,gd⟩:=o;simp only at ho;unfold qyq at ho;split at ho
   ·rename_i x xs ats hp0 hh0
    have hargs:∀vs,evL C fr xs.toList=some vs->xs.map a.eval=(zJq ρ vs).toArray/\InDL (DD D ρ) vs:=λvs hvs=>by
     obtain⟨e1,e2⟩:=g.evs hvs;exact⟨by apply Array.toList_inj.1;simpa using e1,e2⟩
    split at ho
    ·rename_i f fi ca vs hx hvs;obtain⟨e1,i1⟩:=g.ev hx;obtain⟨e2,i2⟩:=hargs vs hvs
     have hin:InDL (DD D ρ) (fi++vs++ca):=InDL_iff.2 λy hy=>by
      simp only[List.mem_append] at hy;rcases hy with (h|h)|h
      ·exact InDL_iff.1 i1.1 y h
      ·exact InDL_iff.1 i2 y h
      ·exact InDL_iff.1 i1.2 y h
     have hcl:(zJq ρ fi).toArray++(zJq ρ vs).toArray++(zJq ρ ca).toArray=(zJq ρ (fi++vs++ca)).toArray:=by
      simp[kiq]
     have hres:∀R:Array Value->Sem Next,(execOp a.eval ⟨dst,.call ⟨.value x,xs,ats⟩,ty,pos,aft,gd⟩)=(do let d<-resolve a.eval ⟨.value x,xs,ats⟩ ty;invoke d.target d.args):=λ_=>rfl
     have hrun:(execOp a.eval ⟨dst,.call ⟨.value x,xs,ats⟩,ty,pos,aft,gd⟩).run P w=(callFunc f (zJq ρ (fi++vs++ca)).toArray).run P w:=by
      rw[hres (λ_=>pure .skip),<-hcl];simp only[resolve,e1,e2,conc,Deferred.ofValue,Sem.run_bind,Sem.run_pure,Result.andThen_ok,invoke]
     split at ho
     ·rename_i e he;split at ho
      ·rename_i u hu;cases ho;obtain⟨q1,q2⟩:=hC.ext f e he ρ _ _ hu;exact Zaq hn (.inl (by rw[hrun];exact q1 w)) (k D ρ w rel (Nxt.refl _ _ _ _) (q2 _ hin))
      ·cases ho
     ·refine⟨λf _=>YOq r f,?_⟩;rw[Oper.semAt_plain _ _ _ (by intro c e;cases e),hrun,hS.fnEnter _ _ _ _ _ ho,Oper.uponIn_enter];refine⟨by simp[vbq],?_⟩;refine(callsFF (r:=r) (hS.fn _ _ _ _ _ ho s0 U D ρ w hU g.gl hin rel)).mono ?_;rintro e w' ⟨D',ρ',rfl,q1,q2,q3⟩;exact k D' ρ' w' q1 q2 q3
    ·rename_i l vs hx hvs;obtain⟨e1,i1⟩:=g.ev hx;obtain⟨e2,i2⟩:=hargs vs hvs;obtain⟨fn,tmps,assign,body,hy,hR⟩:=hS.yield _ _ _ _ _ ho s0 U D ρ w hU g.gl i1.1 i2 rel;refine⟨λf _=>YOq r f,?_⟩
     have hrun:(execOp a.eval ⟨dst,.call ⟨.value x,xs,ats⟩,ty,pos,aft,gd⟩).run P w= .ok (.round (ρ.l l).1 fn tmps assign body) w:=by
      simp only[execOp,resolve,e1,e2,conc,Deferred.ofValue,Sem.run_bind,Sem.run_pure,Result.andThen_ok,invoke];simpa using hy
     rw[Oper.semAt_plain _ _ _ (by intro c e;cases e),hrun,Oper.uponIn_round];refine⟨by simp[vbq],?_⟩
     have hR':RoundIn (FF r) 0 P (ρ.l l).1 fn tmps assign body w (kFq s0 U D ρ h w v h'):=
      ⟨YOq r fn,λc cs _=>by have:=hR.2 c cs (room_wide _);rwa[<-Z9q r] at this⟩
     refine hR'.mono ?_;rintro e w' ⟨D',ρ',rfl,q1,q2,q3⟩;exact k D' ρ' w' q1 q2 q3
    ·cases ho
   ·rename_i x m xs ats hp0 hh0
    have hargs:∀vs,evL C fr xs.toList=some vs->xs.map a.eval=(zJq ρ vs).toArray/\InDL (DD D ρ) vs:=λvs hvs=>by
     obtain⟨e1,e2⟩:=g.evs hvs;exact⟨by apply Array.toList_inj.1;simpa using e1,e2⟩
    split at ho
    ·rename_i t u vs hx hvs;obtain⟨e1,i1⟩:=g.ev hx;obtain⟨e2,i2⟩:=hargs vs hvs;split at ho
     ·rename_i f hf;split at ho
      ·cases ho
      ·have hin:InDL (DD D ρ) (u::vs):=⟨i1,i2⟩;have hcl: #[conc ρ u]++(zJq ρ vs).toArray=(zJq ρ (u::vs)).toArray:=by simp[zJq]
       have hrun:(execOp a.eval ⟨dst,.call ⟨.invoke x m,xs,ats⟩,ty,pos,aft,gd⟩).run P w=(callFunc f (zJq ρ (u::vs)).toArray).run P w:=by
        have hex:(#[conc ρ (.iface t u)]++(zJq ρ vs).toArray).extract 1 (#[conc ρ (.iface t u)]++(zJq ρ vs).toArray).size=(zJq ρ vs).toArray:=by
         apply Array.toList_inj.1;simp
        have h0:(#[conc ρ (.iface t u)]++(zJq ρ vs).toArray)[0]? =some (conc ρ (.iface t u)):=by simp
        show((do let d<-resolve a.eval ⟨.invoke x m,xs,ats⟩ ty;invoke d.target d.args):Sem Next).run P w=_;simp only[resolve,e1,e2,Sem.run_bind,Sem.run_pure,Result.andThen_ok,invoke];rw[<-hcl,<-hC.mt t m f hf (conc ρ u) (zJq ρ vs).toArray w];simp only[h0,hex];rfl
       refine⟨λf _=>YOq r f,?_⟩;rw[Oper.semAt_plain _ _ _ (by intro c e;cases e),hrun,hS.fnEnter _ _ _ _ _ ho,Oper.uponIn_enter];refine⟨by simp[vbq],?_⟩;refine(callsFF (r:=r) (hS.fn _ _ _ _ _ ho s0 U D ρ w hU g.gl hin rel)).mono ?_;rintro e w' ⟨D',ρ',rfl,q1,q2,q3⟩;exact k D' ρ' w' q1 q2 q3
     ·cases ho
    ·cases ho
   ·cases ho
end
noncomputable def mkD(ρ:Env)(d:Nat):Deferred:={target:=.collected (ρ.b d),args:= #[]}
structure StR(C:Cfg)(s0:World)(U N:Nat)(r:Option Nat)(tl:List Deferred)(D:Nat->Prop)(ρ:Env)(st:St)(a:Act)(w:World):Prop where
 fr:FrE C D ρ st.fr a
 rel:Rel s0 U D ρ st.h w
 size:a.tmps.size=N
 defs:a.defers=st.ds.map (mkD ρ)++tl
 din:∀d∈st.ds,D d
 rd:st.rd=r.isSome
noncomputable def jumpTo(J:Nat->Act->World->Prop)(Q:Exit->Act->World->Prop):Exit->Act->World->Prop
 |.goto l,a,w=>J l a w
 |e,a,w=>Q e a w
noncomputable def vjq(F:Fence)(n:Nat)(P:Program)(c:Code)(Q:Exit->Act->World->Prop):Nat->Nat->Act->World->Prop
 |0,_,_,_=>False
 |m+1,l,a,w=>∃rest,findLabel c l=some rest/\rest.wpIn F n P (jumpTo (vjq F n P c Q m) Q) a w
theorem upq{F:Fence}{n:Nat}{P:Program}{Q:Exit->Act->World->Prop}{a:Act}{w:World}{c:Code}(m:Nat)(h:c.wpIn F n P (jumpTo (vjq F n P c Q m) Q) a w):(Code.scope c).wpIn F n P Q a w:=by
 intro b k cs hro hb hr;have h0:(lone (b.atR a (.code (.scope c)::k)) cs w).fenced P F:=fenced_calm hb hr rfl;have s0:step P (lone (b.atR a (.code (.scope c)::k)) cs w)= .next (lone (b.atR a (.code c:: .inScope c::k)) cs w):=step_lone_go (by simp[stepG,stepG.exec,Frame.atR]);have s1:∀a w,step P (lone (b.atR a (.inScope c::k)) cs w)= .next (lone (b.atR a k) cs w):=λa w=>step_lone_go (by simp[stepG,stepG.exec,Frame.atR])
 have hx:∀id,exitTo id (.inScope c::k)=exitTo id k:=λid=>by simp[exitTo]
 have key:∀m (d:Code) a w,d.wpIn F n P (jumpTo (vjq F n P c Q m) Q) a w->∃e a' w',Q e a' w'/\ArrivesIn (Machine.fenced P F) P (lone (b.atR a (.code d:: .inScope c::k)) cs w) b k cs e a' w':=by
  intro m;induction m with
  |zero=>
   intro d a w h;obtain⟨e,a₁,w₁,hq,harr⟩:=h b (.inScope c::k) cs hro hb hr;cases e with
   |normal=>exact⟨.normal,a₁,w₁,hq,StepsIn.trans harr (.one (fenced_calm hb hr rfl) (s1 _ _))⟩
   |exit id=>exact⟨.exit id,a₁,w₁,hq,λk' hk=>harr.1 k' (by rw[hx];exact hk),λhr' hk=>harr.2 hr' (by rw[hx];exact hk)⟩
   |goto l=>exact hq.elim
   |ret=>exact⟨_,a₁,w₁,hq,harr⟩
   |panic ch=>exact⟨_,a₁,w₁,hq,harr⟩
   |outgrown=>exact⟨_,a₁,w₁,hq,harr⟩
  |succ m ih=>
   intro d a w h;obtain⟨e,a₁,w₁,hq,harr⟩:=h b (.inScope c::k) cs hro hb hr;cases e with
   |normal=>exact⟨.normal,a₁,w₁,hq,StepsIn.trans harr (.one (fenced_calm hb hr rfl) (s1 _ _))⟩
   |exit id=>exact⟨.exit id,a₁,w₁,hq,λk' hk=>harr.1 k' (by rw[hx];exact hk),λhr' hk=>harr.2 hr' (by rw[hx];exact hk)⟩
   |goto l=>
    obtain⟨rest,hf,hw⟩:=hq;obtain⟨e₂,a₂,w₂,hq₂,harr₂⟩:=ih rest a₁ w₁ hw;have hg:gotoIn l (.inScope c::k)=some (.code rest:: .inScope c::k):=by simp[gotoIn,hf]
    exact⟨e₂,a₂,w₂,hq₂,.of_steps (harr.1 _ hg) harr₂⟩
   |ret=>exact⟨_,a₁,w₁,hq,harr⟩
   |panic ch=>exact⟨_,a₁,w₁,hq,harr⟩
   |outgrown=>exact⟨_,a₁,w₁,hq,harr⟩
 obtain⟨e,a',w',hq,harr⟩:=key m c a w h;exact⟨e,a',w',hq,.of_steps (.one h0 s0) harr⟩
section
variable {P:Program} {C:Cfg} {S:Self} {s0:World} {U:Nat} {D:Nat->Prop} {ρ:Env} {fr:Tr V} {a:Act} {w:World} {h:Heap}
theorem jIq(hC:CfgOK P C)(hS:SelfOK P C S){N:Nat}{ops:Array Oper}{X:List Deferred}{r:Option Nat}{Q:Exit->Act->World->Prop}:∀(l:List Oper) (fr:Tr V) (h:Heap) (fr':Tr V) (h':Heap),qjq S C ops l fr h=some (fr',h') ->(∀o∈l,kSq o=true/\Yfq N o.dst=true) ->
  Mono h h'/\∀D ρ a w,h'.next<=U->FrE C D ρ fr a->Rel s0 U D ρ h w->a.tmps.size=N->a.defers=X->
   (∀D' ρ' a' w',FrE C D' ρ' fr' a'->Rel s0 U D' ρ' h' w'->Nxt D ρ h w D' ρ' h' w'->a'.tmps.size=N->a'.defers=X->Q .normal a' w') ->wpListIn (FF r) 0 P ops Q l a w
 |[],fr,h,fr',h',he,_=>by
  simp only[qjq,Option.some.injEq,Prod.mk.injEq] at he;obtain⟨rfl,rfl⟩:=he;exact⟨Mono.refl _,λD ρ a w _ g rel hs hd k=>by unfold wpListIn;exact k D ρ a w g rel (Nxt.refl _ _ _ _) hs hd⟩
 |o::l,fr,h,fr',h',he,hl=>by
  obtain⟨hn,hd⟩:=hl o Xm;simp only[qjq] at he;split at he
  ·rename_i hw;split at he
   ·rename_i v h1 ho;obtain⟨m2,ih⟩:=jIq hC hS (X:=X) (r:=r) (Q:=Q) l _ _ _ _ he (λo ho=>hl o (by simp[ho]));have m1:=v9q hS ho;refine⟨m1.trans m2,λD ρ a w hU g rel hs hdf k=>?_⟩;unfold wpListIn;rw[xuq g hw,if_pos rfl];have hU1:=Nat.le_trans m2.nxt hU;refine ZOq hC hS hn ho hU1 g rel λD1 ρ1 w1 rel1 n1 in1=>?_
    refine ih D1 ρ1 _ w1 hU ((g.next rel.lt hU1 n1).put (by rw[hs];exact hd) in1) rel1 (by cases o.dst<;>simp[Act.put,hs]) (by cases o.dst<;>simp[Act.put,hdf]) ?_;exact λD' ρ' a' w' q1 q2 q3 q4 q5=>k D' ρ' a' w' q1 q2 (n1.trans rel.lt hU q3) q4 q5
   ·cases he
  ·rename_i hw;obtain⟨m2,ih⟩:=jIq hC hS (X:=X) (r:=r) (Q:=Q) l _ _ _ _ he (λo ho=>hl o (by simp[ho]));refine⟨m2,λD ρ a w hU g rel hs hdf k=>?_⟩;unfold wpListIn;rw[xuq g hw,if_neg Xm];refine⟨λf _=>YOq r f,ih D ρ _ w hU (g.put (v:=.undef) (by rw[hs];exact hd) trivial) rel (by cases o.dst<;>simp[Act.put,hs]) (by cases o.dst<;>simp[Act.put,hdf]) k⟩
  ·cases he
noncomputable def jpq(P:Program)(C:Cfg)(N:Nat)(ev:St->Option (Exit×St))(W:Option Nat->(Exit->Act->World->Prop) ->Act->World->Prop):Prop:=
 ∀st x st',ev st=some (x,st') ->Mono st.h st'.h/\∀s0 U r tl D ρ a w Q,st'.h.next<=U->StR C s0 U N r tl D ρ st a w->
  (∀D' ρ' a' w',StR C s0 U N r tl D' ρ' st' a' w'->Nxt D ρ st.h w D' ρ' st'.h w'->Q x a' w') ->W r Q a w
structure FlowOK(P:Program)(C:Cfg)(F:Flow) where
 m:Nat
 loop:∀N c,ykq N c=true->jpq P C N (F.loop c) (λr Q a w=>Code.roundsIn (FF r) 0 P c Q m a w)
 scope:∀N c l,ykq N c=true->jpq P C N (F.scope c l) (λr Q a w=>vjq (FF r) 0 P c Q m l a w)
noncomputable def YBq(P:Program)(C:Cfg)(S:Self):Prop:=∀(N:Nat) (ops:Array Oper) (id:Nat) (fr:Tr V) (h:Heap) (fr':Tr V) (h':Heap),flowB N ops.toList ops.size=true->ymq S C ops ops.toList 0 [] fr h=some (fr',h') ->
 Mono h h'/\∀s0 U r D ρ a w X Q,h'.next<=U->FrE C D ρ fr a->Rel s0 U D ρ h w->a.tmps.size=N->a.defers=X->
  (∀D' ρ' a' w',FrE C D' ρ' fr' a'->Rel s0 U D' ρ' h' w'->Nxt D ρ h w D' ρ' h' w'->a'.tmps.size=N->a'.defers=X->Q .normal a' w') ->(Code.region id ops true).wpIn (FF r) 0 P Q a w
theorem Rel.gone(r:Rel s0 U D ρ h w){i:Nat}{b:Blk}{o':Obj}{w':World}(hi:D i)(hb:h.get i=some b)(ho:b.own=true)(t:Turned (ρ.b i) o' w w'):Rel s0 U D ρ (h.kill i) w'/\Nxt D ρ h w D ρ (h.kill i) w':=by
 have get:∀j c,(h.kill i).get j=some c->j≠i/\h.get j=some c:=λj c hc=>by
  rw[Heap.get_kill] at hc;split at hc
  ·cases hc
  ·rename_i e;exact⟨e,hc⟩
 have hil:=r.blt hb;have hw:=kHq h.wmin i;have hs:=r.own i b hi hb ho
 have ne:∀j c,D j->j≠i->h.get j=some c->ρ.b j≠ρ.b i:=λj c hj hji hc e=>by
  by_cases hoc:c.own=true
  ·exact r.inj j i c b hj hi hc hb hoc ho hji e
  ·exact r.old j i c b hj hi hc hb (by simpa using hoc) ho e
 refine⟨⟨r.lt,λj hj=>?_,λj c hj hc=>?_,λj c hj hc=>r.clo j c hj (get j c hc).2,λj k c d hj hk hc hd=>r.inj j k c d hj hk (get _ _ hc).2 (get _ _ hd).2,λj c hj hc=>r.own j c hj (get _ _ hc).2,λj k c d hj hk hc hd=>r.old j k c d hj hk (get _ _ hc).2 (get _ _ hd).2,?_⟩,?_⟩
 ·have hj:h.next<=j:=hj;rw[Heap.get_kill];split
  ·rfl
  ·exact r.wf j hj
 ·obtain⟨h1,h2⟩:=get j c hc;obtain⟨o,q1,q2⟩:=r.has j c hj h2;exact⟨o,by rw[t.other _ (ne j c hj h1 h2)];exact q1,q2⟩
 ·exact⟨t.os.trans r.base.os,t.tape.trans r.base.tape,t.output.trans r.base.output,by rw[t.size];exact r.base.size,λk hk=>(t.other k Xd).trans (r.base.block k hk)⟩
 ·refine⟨λ_ h=>h,λ_ h=>.inl h,λ_ _=>⟨rfl,rfl,rfl,rfl⟩,λc _ hno=>t.other c λe=>hno i hi hw.2 hil e.symm,λj _ hn hl=>?_,Nat.le_of_eq t.size.symm,hw.1,Nat.le_refl _,t.os,t.tape,t.output⟩;have hl:j<h.next:=hl;omega
theorem StR.next{N:Nat}{r:Option Nat}{tl:List Deferred}{st:St}{D':Nat->Prop}{ρ':Env}{h':Heap}{w':World}(g:StR C s0 U N r tl D ρ st a w)(hU:h'.next<=U)(n:Nxt D ρ st.h w D' ρ' h' w')(rel:Rel s0 U D' ρ' h' w'):StR C s0 U N r tl D' ρ' ⟨st.fr,h',st.ds,st.rd⟩ a w':=by
 refine⟨g.fr.next g.rel.lt hU n,rel,g.size,?_,λd hd=>n.sub d (g.din d hd),g.rd⟩;rw[g.defs];refine congrArg (· ++tl) (List.map_congr_left λd hd=>?_);have:=n.agree g.rel.lt hU d 0 ⟨g.din d hd,Nat.zero_le _⟩;simp[mkD,this.1]
theorem uZq{st:St}{Dd l:Nat}{x:Exit}{st':St}(he:jJq st Dd l h=some (x,st')):Mono h st'.h:=by
 unfold jJq at he;split at he<;>first|(cases he;done)|(cases he;exact ZQq _ _)
theorem q3q(hC:CfgOK P C)(hS:SelfOK P C S){F:Flow}(hF:FlowOK P C F)(hR:YBq P C S){N:Nat}:∀c:Code,ykq N c=true->jpq P C N (zbq S F C c) (λr Q a w=>c.wpIn (FF r) 0 P Q a w)
 |.skip,_=>λst x st' he=>by
  simp only[zbq,Option.some.injEq,Prod.mk.injEq] at he;obtain⟨rfl,rfl⟩:=he;exact⟨Mono.refl _,λs0 U r tl D ρ a w Q hU g k=>wpIn_skip (k D ρ a w g (Nxt.refl _ _ _ _))⟩
 |.label _,_=>λst x st' he=>by
  simp only[zbq,Option.some.injEq,Prod.mk.injEq] at he;obtain⟨rfl,rfl⟩:=he;exact⟨Mono.refl _,λs0 U r tl D ρ a w Q hU g k=>wpIn_label (k D ρ a w g (Nxt.refl _ _ _ _))⟩
 |.exit id,_=>λst x st' he=>by
  simp only[zbq,Option.some.injEq,Prod.mk.injEq] at he;obtain⟨rfl,rfl⟩:=he;exact⟨Mono.refl _,λs0 U r tl D ρ a w Q hU g k=>wpIn_exit (k D ρ a w g (Nxt.refl _ _ _ _))⟩
 |.goto id,_=>λst x st' he=>by
  simp only[zbq,Option.some.injEq,Prod.mk.injEq] at he;obtain⟨rfl,rfl⟩:=he;exact⟨Mono.refl _,λs0 U r tl D ρ a w Q hU g k=>wpIn_goto (k D ρ a w g (Nxt.refl _ _ _ _))⟩
 |.ret,_=>λst x st' he=>by
  simp only[zbq,Option.some.injEq,Prod.mk.injEq] at he;obtain⟨rfl,rfl⟩:=he;exact⟨Mono.refl _,λs0 U r tl D ρ a w Q hU g k=>wpIn_ret (k D ρ a w g (Nxt.refl _ _ _ _))⟩
 |.refuse _,_=>λst x st' he=>by simp[zbq] at he
 |.seq c d,hok=>λst x st' he=>by
  simp only[ykq,Bool.and_eq_true] at hok;have s1:=q3q hC hS hF hR c hok.1;have s2:=q3q hC hS hF hR d hok.2;simp only[zbq] at he;split at he
  ·rename_i st1 h1;obtain⟨m1,k1⟩:=s1 _ _ _ h1;obtain⟨m2,k2⟩:=s2 _ _ _ he;refine⟨m1.trans m2,λs0 U r tl D ρ a w Q hU g k=>wpIn_seq (k1 s0 U r tl D ρ a w _ (Nat.le_trans m2.nxt hU) g λD1 ρ1 a1 w1 g1 n1=>?_)⟩;exact k2 s0 U r tl D1 ρ1 a1 w1 Q hU g1 λD2 ρ2 a2 w2 g2 n2=>k D2 ρ2 a2 w2 g2 (n1.trans g.rel.lt hU n2)
  ·rename_i hne;obtain⟨m1,k1⟩:=s1 _ _ _ he;refine⟨m1,λs0 U r tl D ρ a w Q hU g k=>wpIn_seq (k1 s0 U r tl D ρ a w _ hU g λD1 ρ1 a1 w1 g1 n1=>?_)⟩;have hq:=k D1 ρ1 a1 w1 g1 n1;cases x with
   |normal=>exact absurd he (hne st')
   |_=>exact hq
 |.cond c x y,hok=>λst e st' he=>by
  simp only[ykq,Bool.and_eq_true] at hok;simp only[zbq] at he;split at he
  ·rename_i hc;obtain⟨m1,k1⟩:=q3q hC hS hF hR x hok.1 _ _ _ he;refine⟨m1,λs0 U r tl D ρ a w Q hU g k=>wpIn_cond_true ?_ (k1 s0 U r tl D ρ a w Q hU g k)⟩;have:=(g.fr.ev hc).1;simpa[conc] using this
  ·rename_i hc;obtain⟨m1,k1⟩:=q3q hC hS hF hR y hok.2 _ _ _ he;refine⟨m1,λs0 U r tl D ρ a w Q hU g k=>wpIn_cond_false ?_ (k1 s0 U r tl D ρ a w Q hU g k)⟩;have:=(g.fr.ev hc).1;simpa[conc] using this
  ·cases he
 |.block id c,hok=>λst x st' he=>by
  simp only[ykq] at hok;have s1:=q3q hC hS hF hR c hok;simp only[zbq] at he;split at he
  ·rename_i id' st1 h1;obtain⟨m1,k1⟩:=s1 _ _ _ h1;split at he
   ·rename_i hid;rw[Nat.beq_eq] at hid;cases he;refine⟨m1,λs0 U r tl D ρ a w Q hU g k=>wpIn_block (k1 s0 U r tl D ρ a w _ hU g λD1 ρ1 a1 w1 g1 n1=>?_)⟩;simp only[Exit.inBlock,hid,if_true];exact k D1 ρ1 a1 w1 g1 n1
   ·rename_i hid;have hid:¬id'=id:=λe=>by rw[YMq e] at hid;cases hid
    cases he;refine⟨m1,λs0 U r tl D ρ a w Q hU g k=>wpIn_block (k1 s0 U r tl D ρ a w _ hU g λD1 ρ1 a1 w1 g1 n1=>?_)⟩;simp only[Exit.inBlock,hid,if_false];exact k D1 ρ1 a1 w1 g1 n1
  ·rename_i hne;obtain⟨m1,k1⟩:=s1 _ _ _ he;refine⟨m1,λs0 U r tl D ρ a w Q hU g k=>wpIn_block (k1 s0 U r tl D ρ a w _ hU g λD1 ρ1 a1 w1 g1 n1=>?_)⟩;have hq:=k D1 ρ1 a1 w1 g1 n1;cases x with
   |exit id'=>exact absurd he (hne id' st')
   |_=>exact hq
 |.loop c,hok=>λst x st' he=>by
  simp only[ykq] at hok;simp only[zbq] at he;obtain⟨m1,k1⟩:=hF.loop N c hok _ _ _ he;exact⟨m1,λs0 U r tl D ρ a w Q hU g k=>wpIn_loop_rounds _ (k1 s0 U r tl D ρ a w Q hU g k)⟩
 |.scope c,hok=>λst x st' he=>by
  simp only[ykq] at hok;have s1:=q3q hC hS hF hR c hok;simp only[zbq] at he;split at he
  ·rename_i l st1 h1;obtain⟨m1,k1⟩:=s1 _ _ _ h1;obtain⟨m2,k2⟩:=hF.scope N c l hok _ _ _ he;refine⟨m1.trans m2,λs0 U r tl D ρ a w Q hU g k=>upq hF.m (k1 s0 U r tl D ρ a w _ (Nat.le_trans m2.nxt hU) g λD1 ρ1 a1 w1 g1 n1=>?_)⟩;exact k2 s0 U r tl D1 ρ1 a1 w1 Q hU g1 λD2 ρ2 a2 w2 g2 n2=>k D2 ρ2 a2 w2 g2 (n1.trans g.rel.lt hU n2)
  ·rename_i hne;obtain⟨m1,k1⟩:=s1 _ _ _ he;refine⟨m1,λs0 U r tl D ρ a w Q hU g k=>upq hF.m (k1 s0 U r tl D ρ a w _ hU g λD1 ρ1 a1 w1 g1 n1=>?_)⟩;have hq:=k D1 ρ1 a1 w1 g1 n1;cases x with
   |goto l=>exact absurd he (hne l st')
   |_=>exact hq
 |.region id ops dr,hok=>λst x st' he=>by
  simp only[ykq,Bool.and_eq_true] at hok;cases dr with
  |false=>
   simp only[zbq] at he;split at he
   ·rename_i fr h he1;cases he
    have hall:∀o∈ops.toList,kSq o=true/\Yfq N o.dst=true:=λo ho=>by
     have:=List.all_eq_true.1 hok.1 o ho;simpa using this
    have m1:=(jIq (s0:=default) (U:=0) (X:=[]) (r:=none) (Q:=λ_ _ _=>True) hC hS ops.toList _ _ _ _ he1 hall).1;refine⟨m1,λs0 U r tl D ρ a w Q hU g k=>?_⟩
    have k1:=(jIq (s0:=s0) (U:=U) (X:=a.defers) (r:=r) (Q:=Q) hC hS ops.toList _ _ _ _ he1 hall).2 D ρ a w hU g.fr g.rel g.size rfl λD' ρ' a' w' q1 q2 q3 q4 q5=>by
     refine k D' ρ' a' w' ?_ q3;have:=g.next hU q3 q2;exact⟨q1,q2,q4,by rw[q5];exact this.defs,this.din,g.rd⟩
    have e:ops=ops.toList.toArray:=by simp
    rw[e];exact wpIn_region_lit (by rw[<-e];exact k1)
   ·cases he
  |true=>
   simp only[zbq] at he;split at he
   ·rename_i fr h he1;cases he;have hb:flowB N ops.toList ops.size=true:=by simpa using hok.2
    obtain⟨m1,k1⟩:=hR N ops id _ _ _ _ hb he1;refine⟨m1,λs0 U r tl D ρ a w Q hU g k=>?_⟩;refine k1 s0 U r D ρ a w a.defers Q hU g.fr g.rel g.size rfl λD' ρ' a' w' q1 q2 q3 q4 q5=>?_
    refine k D' ρ' a' w' ?_ q3;have:=g.next hU q3 q2;exact⟨q1,q2,q4,by rw[q5];exact this.defs,this.din,g.rd⟩
   ·cases he
 |.rangeFunc gop ps asg bd,hok=>λst x st' he=>by
  simp only[ykq,Bool.and_eq_true] at hok;simp only[zbq] at he;split at he
  ·rename_i gf cs hrd hg;split at he
   ·rename_i u h3 hcall;have m1:=hS.fnMono _ _ _ _ _ hcall;have m2:=uZq he;refine⟨((yhq _ _).trans (yhq _ _)).trans (m1.trans m2),λs0 U r tl D ρ a w Q hU gg k=>?_⟩
    have hrn:r=none:=by
     have:=gg.rd;rw[hrd] at this;cases r with
     |none=>rfl
     |some l=>cases this
    subst hrn;obtain⟨hev,hcin⟩:=gg.fr.ev hg;have hU3:h3.next<=U:=Nat.le_trans m2.nxt hU;have hU2:st.h.next+1+1<=U:=Nat.le_trans m1.nxt hU3;refine wpIn_rangeFunc (F:=FF none) (n:=0) ?_;intro fn _
    --the two blocks
    obtain⟨r1,n1⟩:=gg.rel.push (b:=.dfr false) (o:=.deferred (some [])) (pre:=0) (cap:=0) Xd (q5q w _) (heap_alloc_new w _) rfl trivial rfl;have hag1:=n1.agree gg.rel.lt (U:=U) (by show st.h.next+1<=U;omega);have hdd1:=n1.dd gg.rel.lt (U:=U) (by show st.h.next+1<=U;omega);have hb1:(ρ.add st.h.next w.heap.size 0 0).b st.h.next=w.heap.size:=by simp[Env.add]
    obtain⟨W1,hW1⟩:∃W1,(w.alloc (.deferred (some []))).alloc (.loop {state:=.ready,pending:=none,fn,tmps:=a.tmps,params:=ps,assign:=asg,body:=bd,defers:=w.heap.size})=W1:=⟨_,rfl⟩
    have hsz1:(w.alloc (.deferred (some []))).heap.size=w.heap.size+1:=by simp
    have hne:st.h.next+1≠st.h.next:=by omega
    obtain⟨r2,n2⟩:=r1.push (b:=.loop .ready none st.fr ps asg bd st.h.next) (o:=.loop {state:=.ready,pending:=none,fn,tmps:=a.tmps,params:=ps,assign:=asg,body:=bd,defers:=w.heap.size}) (pre:=0) (cap:=0) (by exact hU2) (q5q _ _) (heap_alloc_new _ _) rfl
     ⟨λt v hv=>(gg.fr.in_ t v hv).mono hdd1,.inr rfl,Nat.zero_le _⟩
     ⟨fn,a.tmps,by simp[Env.add,Heap.push],λt v hv=>by
      have hx:=gg.fr.at_ t v hv;have hi:=gg.fr.in_ t v hv;rw[hx];congr 1
      rw[yyq (Env.add_agree (r1.next_new (by exact hU2))) (hi.mono hdd1),yyq hag1 hi],by simp[Env.add],λp hp=>by
      have:=List.all_eq_true.1 hok.1.1 p hp;rw[gg.size];simpa using this,by rw[gg.size];exact hok.1.2,by rw[gg.size];exact hok.2⟩
    rw[hsz1] at r2 n2;rw[hW1] at r2 n2;have n12:=n1.trans gg.rel.lt (by exact hU2) n2;have hag2:=n12.agree gg.rel.lt (U:=U) (by exact hU2);have hdd2:=n12.dd gg.rel.lt (U:=U) (by exact hU2)
    refine⟨w.heap.size+1,[{target:=.collected w.heap.size,args:= #[]}],W1,{target:=.fn (.func gf) (zJq ρ cs).toArray,args:= #[.func (.yield (w.heap.size+1)) #[] #[]]},W1,gf,
     #[.func (.yield (w.heap.size+1)) #[] #[]]++(zJq ρ cs).toArray,W1,?_,?_,?_,?_,(by simp[vbq]),?_⟩
    ·rw[<-hW1];exact run_enterLoop_outer _ _ _ _ _
    ·simp only[resolve,hev,conc];simp[go_sem,zJq]
    ·intro f' _;exact YOq none f'
    ·simp[invoke,go_sem,hS.fnEnter _ _ _ _ _ hcall]
    ·refine callsIn_FF (callsIn_wide.2 ?_)
     have hargs:(zJq ((ρ.add st.h.next w.heap.size 0 0).add (st.h.next+1) (w.heap.size+1) 0 0) ([.yield (st.h.next+1)]++cs)).toArray= #[.func (.yield (w.heap.size+1)) #[] #[]]++(zJq ρ cs).toArray:=by
      have:=y5q hag2 (l:=cs) hcin.2;simp only[List.singleton_append,zJq];have e:zJq ((ρ.add st.h.next w.heap.size 0 0).add (st.h.next+1) (w.heap.size+1) 0 0) cs=zJq ρ cs:=this;rw[e];apply Array.ext';simp[conc,Env.add]
     have hgl:=GlobOK.next gg.fr.gl gg.rel.lt (by exact hU2) n12;have key:=hS.fn _ _ _ _ _ hcall s0 U _ _ W1 hU3 hgl ⟨⟨.inr rfl,Nat.zero_le _⟩,InDL.mono hdd2 hcin.2⟩ r2;have hargs':(zJq ((ρ.add st.h.next w.heap.size 0 0).add (st.h.push (.dfr false)).next (w.heap.size+1) 0 0) ([.yield (st.h.next+1)]++cs)).toArray= #[.func (.yield (w.heap.size+1)) #[] #[]]++(zJq ρ cs).toArray:=hargs;rw[hargs'] at key;refine key.mono ?_;rintro e w3 ⟨D3,ρ3,rfl,r3,n3,_⟩;have n13:=n12.trans gg.rel.lt hU3 n3;have hlD:D3 (st.h.next+1):=n3.sub _ Qm
     have hbl:ρ3.b (st.h.next+1)=w.heap.size+1:=by
      have:=(n3.env (st.h.next+1) (.inl (by show st.h.next+1<st.h.next+1+1;omega))).1;rw[this];simp[Env.add,Heap.push]
     have hbd:ρ3.b st.h.next=w.heap.size:=by
      have:=(n3.env st.h.next (.inl (by show st.h.next<st.h.next+1+1;omega))).1;rw[this];simp[Env.add,Heap.push]
     have hdD:D3 st.h.next:=n3.sub _ (.inl Qm)
     --its end
     have fin:∀(stt:LoopState) (pe:Option Code) fr' ps' as' bd' d',stt≠ .busy->h3.get (st.h.next+1)=some (.loop stt pe fr' ps' as' bd' d') ->
       ∃w4,(Instr.endLoop (w.heap.size+1)).run P w3= .ok pe w4/\(∀stx:Exit,st'=⟨st.fr,h3.kill (st.h.next+1),st.h.next::st.ds,st.rd⟩ ->x=stx->Q stx {a with defers:=[{target:=.collected w.heap.size,args:= #[]}]++a.defers} w4):=λstt pe fr' ps' as' bd' d' hb hget=>by
      obtain⟨o,q1,q2⟩:=r3.has _ _ hlD hget;obtain⟨fn',tmps',rfl,_,_,_,_,_⟩:=q2;rw[hbl] at q1;refine⟨_,run_endLoop q1 hb,λstx hst hx=>?_⟩;subst hst;subst hx;have ht:=y1q (w:=w3) (b:=w.heap.size+1) (.loop {state:=.exhausted,pending:=pe,fn:=fn',tmps:=tmps',params:=ps',assign:=as',body:=bd',defers:=ρ3.b d'}) (Array.getElem?_eq_some_iff.1 q1).1;rw[<-hbl] at ht;obtain⟨r4,n4⟩:=r3.gone hlD hget rfl ht;rw[hbl] at r4 n4;have n14:=n13.trans gg.rel.lt (by exact hU3) n4;have g4:=gg.next (by exact hU3) n14 r4;refine k D3 ρ3 _ _ ⟨⟨g4.fr.at_,g4.fr.in_,g4.fr.gl⟩,r4,gg.size,?_,λd hd=>?_,gg.rd⟩ n14
      ·simp only[List.map_cons,List.singleton_append];rw[g4.defs];simp[mkD,hbd]
      ·rcases List.mem_cons.1 hd with rfl|hd
       ·exact hdD
       ·exact n13.sub d (gg.din d hd)
     unfold jJq at he;split at he
     ·rename_i hget;cases he;obtain⟨w4,q1,q2⟩:=fin _ _ _ _ _ _ _ Xm hget;exact⟨none,w4,q1,q2 _ rfl rfl⟩
     ·rename_i hget;cases he;obtain⟨w4,q1,q2⟩:=fin _ _ _ _ _ _ _ Xm hget;exact⟨some .ret,w4,q1,wpIn_ret (q2 _ rfl rfl)⟩
     ·rename_i hget;cases he;obtain⟨w4,q1,q2⟩:=fin _ _ _ _ _ _ _ Xm hget;exact⟨_,w4,q1,wpIn_exit (q2 _ rfl rfl)⟩
     ·rename_i hget;cases he;obtain⟨w4,q1,q2⟩:=fin _ _ _ _ _ _ _ Xm hget;exact⟨_,w4,q1,wpIn_goto (q2 _ rfl rfl)⟩
     ·cases he
   ·cases he
  ·cases he
end
section
variable {C:Cfg} {fr fr':Tr V}
theorem xnq:∀{l:List Operand},(∀x∈l,evV C fr x=evV C fr' x) ->evL C fr l=evL C fr' l
 |[],_=>rfl
 |x::l,h=>by simp only[evL,h x Xm,xnq (l:=l) λy hy=>h y (by simp[hy])]
theorem kCq{d:Nat}{x:Option Operand}(h:∀y,x=some y->evV C fr y=evV C fr' y):bndI C fr d x=bndI C fr' d x:=by
 cases x with
 |none=>rfl
 |some y=>simp only[bndI,h y rfl]
theorem Z6q{t:TypeId}:∀{l:List (Nat×Operand)} {v:V},(∀p∈l,evV C fr p.2=evV C fr' p.2) ->Z7q C fr t v l=Z7q C fr' t v l
 |[],_,_=>rfl
 |(i,x)::l,v,h=>by
  simp only[Z7q,h (i,x) Xm];have ih:=λv=>Z6q (t:=t) (l:=l) (v:=v) λp hp=>h p (by simp[hp])
  repeat' split
  all_goals first|rfl|exact ih _
theorem Z8q{e:Nat}:∀{l:List (Nat×Operand)} {v:V},(∀p∈l,evV C fr p.2=evV C fr' p.2) ->YKq C fr e v l=YKq C fr' e v l
 |[],_,_=>rfl
 |(i,x)::l,v,h=>by
  simp only[YKq,h (i,x) Xm];have ih:=λv=>Z8q (e:=e) (l:=l) (v:=v) λp hp=>h p (by simp[hp])
  repeat' split
  all_goals first|rfl|exact ih _
theorem x6q{rt:TypeId}(o:Op)(h:∀x∈o.operands,evV C fr x=evV C fr' x):z1q C fr rt o=z1q C fr' rt o:=by
 cases o<;>simp only[Op.operands] at h
 case unOp op t x=>
  have h1:=h x Xm;cases op<;>simp only[z1q,yAq,zMq,zDq,zLq,zPq,zOq,z6q,zHq,zBq,ydq,z9q,zuq,ztq,z8q,z2q,ziq,zZq,qbq,qRq,qSq,h1]
 case makeFunc fn first captured=>
  have h1:=xnq (C:=C) (fr:=fr) (fr':=fr') (l:=first.toList) λx hx=>h x (by simp at hx;simp[hx])
  have h2:=xnq (C:=C) (fr:=fr) (fr':=fr') (l:=captured.toList) λx hx=>h x (by simp at hx;simp[hx])
  cases fn<;>simp only[z1q,yAq,zMq,zDq,zLq,zPq,zOq,z6q,zHq,zBq,ydq,z9q,zuq,ztq,z8q,z2q,ziq,zZq,qbq,qRq,qSq,h1,h2]
 case build t ps=>
  have h1:=λv=>Z6q (C:=C) (fr:=fr) (fr':=fr') (t:=t) (l:=ps.toList) (v:=v) λp hp=>h p.2 (by simp at hp;simp;exact⟨p.1,hp⟩)
  simp only[z1q,yAq,zMq,zDq,zLq,zPq,zOq,z6q,zHq,zBq,ydq,z9q,zuq,ztq,z8q,z2q,ziq,zZq,qbq,qRq,qSq,h1]
 case slice t x lo hi mx=>
  have h1:=h x Xm;have h2:=λd=>kCq (C:=C) (fr:=fr) (fr':=fr') (d:=d) (x:=lo) λy hy=>h y (by simp[hy])
  have h3:=λd=>kCq (C:=C) (fr:=fr) (fr':=fr') (d:=d) (x:=hi) λy hy=>h y (by simp[hy])
  cases mx with
  |none=>simp only[z1q,yAq,zMq,zDq,zLq,zPq,zOq,z6q,zHq,zBq,ydq,z9q,zuq,ztq,z8q,z2q,ziq,zZq,qbq,qRq,qSq,h1,h2,h3]
  |some z=>
   have h4:=kCq (C:=C) (fr:=fr) (fr':=fr') (d:=0) (x:=some z) λy hy=>h y (by simp at hy;simp[hy])
   simp only[z1q,yAq,zMq,zDq,zLq,zPq,zOq,z6q,zHq,zBq,ydq,z9q,zuq,ztq,z8q,z2q,ziq,zZq,qbq,qRq,qSq,h1,h2,h3,h4]
 case call c=>
  obtain⟨callee,args,ats⟩:=c;obtain⟨args⟩:=args;obtain⟨ats⟩:=ats;have ha:∀x∈args,evV C fr x=evV C fr' x:=λx hx=>h x (by simp[Call.operands,hx])
  cases callee<;>try rfl
  rename_i b;cases b<;>try rfl
  all_goals
   rcases args with _|⟨x,_|⟨y,_|⟨z,l⟩⟩⟩<;>rcases ats with _|⟨t,_|⟨u,_|⟨z',ats⟩⟩⟩<;>simp only[z1q,yAq,zMq,zDq,zLq,zPq,zOq,z6q,zHq,zBq,ydq,z9q,zuq,ztq,z8q,z2q,ziq,zZq,qbq,qRq,qSq]<;>(first|rfl|(simp only[List.mem_cons,List.not_mem_nil,or_false,forall_eq_or_imp,forall_eq] at ha;simp only[ha]))
 all_goals first|rfl|(simp only[List.mem_toArray,List.mem_cons,List.not_mem_nil,or_false,forall_eq_or_imp,forall_eq] at h;simp only[z1q,yAq,zMq,zDq,zLq,zPq,zOq,z6q,zHq,zBq,ydq,z9q,zuq,ztq,z8q,z2q,ziq,zZq,qbq,qRq,qSq,h])
theorem opH_congr{H:Heap}(o:Op)(h:∀x∈o.operands,evV C fr x=evV C fr' x):opH C fr H o=opH C fr' H o:=by
 cases o<;>simp only[Op.operands] at h
 case buildSlice t n ps=>
  have h1:=λe v=>Z8q (C:=C) (fr:=fr) (fr':=fr') (e:=e) (l:=ps.toList) (v:=v) λp hp=>h p.2 (by simp at hp;simp;exact⟨p.1,hp⟩)
  simp only[opH,zrq,z7q,zRq,zSq,yRq,zhq,zkq,zCq,ybq,zNq,zqq,zzq,zgq,znq,zfq,zyq,zVq,zFq,z5q,h1]
 case makeMap t x=>
  cases x with
  |none=>rfl
  |some x=>
   have h1:=h x Xm;simp only[opH,zqq,h1]
 case lookup t x y ok=>
  have h1:=h x Xm;have h2:=h y Xm;simp only[opH,zzq,h1,h2]
 case mapUpdate t x y z=>
  have h1:=h x Xm;have h2:=h y Xm;have h3:=h z Xm;simp only[opH,zgq,h1,h2,h3]
 case insert t x y z=>
  have h1:=h x Xm;have h2:=h y Xm;have h3:=h z Xm;simp only[opH,zgq,h1,h2,h3]
 case mapEntry t x y=>
  have h1:=h x Xm;have h2:=h y Xm;simp only[opH,znq,h1,h2]
 case entryStore t x y z=>
  have h1:=h x Xm;have h2:=h y Xm;have h3:=h z Xm;simp only[opH,zfq,h1,h2,h3]
 case slice t x lo hi mx=>
  have h1:=h x Xm;have h2:=λd=>kCq (C:=C) (fr:=fr) (fr':=fr') (d:=d) (x:=lo) λy hy=>h y (by simp[hy])
  have h3:=λd=>kCq (C:=C) (fr:=fr) (fr':=fr') (d:=d) (x:=hi) λy hy=>h y (by simp[hy])
  simp only[opH,zrq,z7q,zRq,zSq,yRq,zhq,zkq,zCq,ybq,zNq,zqq,zzq,zgq,znq,zfq,zyq,zVq,zFq,z5q,h1,h2,h3]
 case call c=>
  obtain⟨callee,args,ats⟩:=c;obtain⟨args⟩:=args;obtain⟨ats⟩:=ats;have ha:∀x∈args,evV C fr x=evV C fr' x:=λx hx=>h x (by simp[Call.operands,hx])
  cases callee<;>try rfl
  rename_i b;cases b<;>try rfl
  all_goals
   rcases args with _|⟨x,_|⟨y,_|⟨z,l⟩⟩⟩<;>rcases ats with _|⟨t,_|⟨u,_|⟨z',ats⟩⟩⟩<;>simp only[opH,zrq,z7q,zRq,zSq,yRq,zhq,zkq,zCq,ybq,zNq,zqq,zzq,zgq,znq,zfq,zyq,zVq,zFq,z5q]<;>(first|rfl|(simp only[List.mem_cons,List.not_mem_nil,or_false,forall_eq_or_imp,forall_eq] at ha;simp only[ha]))
 all_goals first|rfl|(simp only[List.mem_toArray,List.mem_cons,List.not_mem_nil,or_false,forall_eq_or_imp,forall_eq] at h;simp only[opH,zrq,z7q,zRq,zSq,yRq,zhq,zkq,zCq,ybq,zNq,zqq,zzq,zgq,znq,zfq,zyq,zVq,zFq,z5q,h])
theorem callV_congr{S:Self}{H:Heap}(o:Op)(h:∀x∈o.operands,evV C fr x=evV C fr' x):qyq S C fr H o=qyq S C fr' H o:=by
 cases o<;>try rfl
 rename_i c;obtain⟨callee,args,ats⟩:=c;cases callee with
 |builtin b=>rfl
 |value x=>
  have hx:=h x (by simp[Op.operands,Call.operands]);have ha:=xnq (C:=C) (fr:=fr) (fr':=fr') (l:=args.toList) λy hy=>h y (by simp at hy;simp[Op.operands,Call.operands,hy])
  simp only[qyq,hx,ha]
 |invoke x m=>
  have hx:=h x (by simp[Op.operands,Call.operands]);have ha:=xnq (C:=C) (fr:=fr) (fr':=fr') (l:=args.toList) λy hy=>h y (by simp at hy;simp[Op.operands,Call.operands,hy])
  simp only[qyq,hx,ha]
theorem uJq{S:Self}{H:Heap}(o:Oper)(h:∀x∈o.op.operands,evV C fr x=evV C fr' x):opV S C fr H o=opV S C fr' H o:=by
 unfold opV;rw[x6q o.op h,opH_congr o.op h,callV_congr o.op h]
theorem Tr.cut{α:Type}(t:Tr α)(L:List Nat):∃u:Tr α,∀k,u.get k=if k∈L then t.get k else none:=by
 induction L with
 |nil=>exact⟨.nil,λk=>by simp[Tr.get_nil]⟩
 |cons x L ih=>
  obtain⟨u,hu⟩:=ih;refine⟨u.set x (t.get x),λk=>?_⟩;rw[Tr.get_set,hu];by_cases e:k=x
  ·subst e;simp
  ·simp[e]
theorem Tr.of{α:Type}(g:Nat->Option α)(n:Nat):∃t:Tr α,∀k,t.get k=if k<n then g k else none:=by
 induction n with
 |zero=>exact⟨.nil,λk=>by simp[Tr.get_nil]⟩
 |succ n ih=>
  obtain⟨u,hu⟩:=ih;refine⟨u.set n (g n),λk=>?_⟩;rw[Tr.get_set,hu];by_cases e:k=n
  ·subst e;simp
  ·rw[if_neg e];by_cases h:k<n
   ·rw[if_pos h,if_pos Xd]
   ·rw[if_neg h,if_neg Xd]
theorem cut_ev{ops:Array Oper}{o:Oper}(h:∀t∈o.looksAt ops,fr'.get t=fr.get t):∀x∈o.op.operands,evV C fr x=evV C fr' x:=λx hx=>by
 cases x with
 |tmp t=>
  have:t∈o.looksAt ops:=List.mem_append_left _ (List.mem_filterMap.2 ⟨.tmp t,by simpa using hx,rfl⟩);simp only[evV,h t this]
 |_=>rfl
theorem cut_want{ops:Array Oper}{o:Oper}(h:∀t∈o.looksAt ops,fr'.get t=fr.get t):vdq ops fr o=vdq ops fr' o:=by
 unfold vdq;split
 ·rfl
 ·rename_i j b hg;split
  ·rfl
  ·rename_i t ht;rw[h t (List.mem_append_right _ (by simp[hg,ht]))]
end
noncomputable def StepAt(S:Self)(C:Cfg)(ops:Array Oper)(o:Oper)(fr:Tr V)(h:Heap)(v:V)(h':Heap)(x:Option Ev):Prop:=
 (vdq ops fr o=some false/\v= .undef/\h'=h/\x=none)\/(vdq ops fr o=some true/\vZq S C fr h o=some (v,h',x))
structure Trace(S:Self)(C:Cfg)(ops:Array Oper)(l:List Oper)(i:Nat)(es:List (Nat×Ev))(fr:Tr V)(h:Heap)(fr':Tr V)(h':Heap)(frs:Nat->Tr V)(hs:Nat->Heap)(vs:Nat->V)(xs:Nat->Option Ev):Prop where
 f0:frs 0=fr
 h0:hs 0=h
 fn:frs l.length=fr'
 hn:hs l.length=h'
 st:∀j o,l[j]? =some o->StepAt S C ops o (frs j) (hs j) (vs j) (hs (j+1)) (xs j)/\frs (j+1)=putT (frs j) o.dst (vs j)
 cl:∀j o x,l[j]? =some o->xs j=some x->(∀k y,(k,y)∈es->y.clash x=true->qiq ops ops.size (i+j) k=true)/\∀k y,k<j->xs k=some y->y.clash x=true->qiq ops ops.size (i+j) (i+k)=true
noncomputable def con{α:Type}(x:α)(f:Nat->α):Nat->α
 |0=>x
 |j+1=>f j
theorem Qgq{ops:Array Oper}{j:Nat}{x:Ev}:∀{es:List (Nat×Ev)},Jfq ops j x es=true->∀k y,(k,y)∈es->y.clash x=true->qiq ops ops.size j k=true
 |[],_,_,_,h,_=>by simp at h
 |(k',y')::es,he,k,y,h,hc=>by
  simp only[Jfq,Bool.and_eq_true] at he;rcases List.mem_cons.1 h with e|h
  ·cases e;have:=he.1;rw[hc] at this;exact this
  ·exact Qgq he.2 k y h hc
theorem Y9q{S:Self}{C:Cfg}{ops:Array Oper}:∀(l:List Oper) (i:Nat) (es:List (Nat×Ev)) (fr:Tr V) (h:Heap) (fr':Tr V) (h':Heap),ymq S C ops l i es fr h=some (fr',h') ->
  ∃frs hs vs xs,Trace S C ops l i es fr h fr' h' frs hs vs xs
 |[],i,es,fr,h,fr',h',he=>by
  simp only[ymq,Option.some.injEq,Prod.mk.injEq] at he;obtain⟨rfl,rfl⟩:=he;exact⟨λ_=>fr,λ_=>h,λ_=>.undef,λ_=>none,rfl,rfl,rfl,rfl,by simp,by simp⟩
 | o ::l,i,es,fr,h,fr',h',he=>by
  have key:∀(v:V) (h1:Heap) (x:Option Ev) (es':List (Nat×Ev)),StepAt S C ops o fr h v h1 x->(∀y,x=some y->Jfq ops i y es=true) ->(∀p∈es,p∈es') ->(∀y,x=some y->(i,y)∈es') ->
    ymq S C ops l (i+1) es' (putT fr o.dst v) h1=some (fr',h') ->∃frs hs vs xs,Trace S C ops (o::l) i es fr h fr' h' frs hs vs xs:=λv h1 x es' hst hev hsub hin he=>by
   obtain⟨frs,hs,vs,xs,t⟩:=Y9q l _ _ _ _ _ _ he;refine⟨con fr frs,con h hs,con v vs,con x xs,rfl,rfl,t.fn,t.hn,λj o' hj=>?_,λj o' y hj hy=>?_⟩
   ·cases j with
    |zero=>
     simp at hj;subst hj
     refine⟨?_,?_⟩
     ·show StepAt S C ops o fr h v (hs 0) x;rw[t.h0];exact hst
     ·exact t.f0
    |succ j=>exact t.st j o' (by simpa using hj)
   ·cases j with
    |zero=>exact⟨λk z hk hc=>Qgq (hev y hy) k z hk hc,λk z hk=>by omega⟩
    |succ j=>
     obtain⟨q1,q2⟩:=t.cl j o' y (by simpa using hj) hy;have e1:i+1+j=i+(j+1):=by omega
     rw[e1] at q1 q2;refine⟨λk z hk hc=>q1 k z (hsub _ hk) hc,λk z hk hz hc=>?_⟩;cases k with
     |zero=>exact q1 i z (hin z hz) hc
     |succ k=>
      have:=q2 k z Xd hz hc;rwa[show i+1+k=i+(k+1) by omega] at this
  simp only[ymq] at he;split at he
  ·rename_i hw;split at he
   ·rename_i v h1 x hst;split at he
    ·rename_i hev;exact key v h1 (some x) _ (.inr ⟨hw,hst⟩) (λy hy=>by cases hy;exact hev) (λp hp=>by simp[hp]) (λy hy=>by cases hy;simp) he
    ·cases he
   ·rename_i v h1 hst;exact key v h1 none _ (.inr ⟨hw,hst⟩) (λy hy=>by cases hy) (λp hp=>hp) (λy hy=>by cases hy) he
   ·cases he
  ·rename_i hw;exact key .undef h none _ (.inl ⟨hw,rfl,rfl,rfl⟩) (λy hy=>by cases hy) (λp hp=>hp) (λy hy=>by cases hy) he
  ·cases he
theorem Q1q(a b:Nat):minN a b<=a/\minN a b<=b:=kHq a b
section
variable {P:Program} {C:Cfg} {S:Self} {ops:Array Oper} {o:Oper} {fr:Tr V} {h h' h1:Heap} {v:V} {x:Option Ev}
theorem qgq(hs:vZq S C fr h o=some (v,h',x)):(z1q C fr o.type o.op=some v/\h'=h/\x=none)\/
  (∃h1,z1q C fr o.type o.op=none/\opV S C fr {h with wmin:=h.next} o=some (v,h1)/\h'={h1 with wmin:=minN h.wmin h1.wmin}/\x=some (evOf C fr h h1 o.op)):=by
 unfold vZq at hs;split at hs
 ·rename_i u hu;simp only[Option.some.injEq,Prod.mk.injEq] at hs;obtain⟨rfl,rfl,rfl⟩:=hs;exact .inl ⟨hu,rfl,rfl⟩
 ·rename_i hu;split at hs
  ·rename_i u h1 ho;simp only[Option.some.injEq,Prod.mk.injEq] at hs;obtain⟨rfl,rfl,rfl⟩:=hs;exact .inr ⟨h1,hu,ho,rfl,rfl⟩
  ·cases hs
theorem ev_load{b:Nat}{H1:Heap}(hp:z1q C fr o.type o.op=none)(ho:opV S C fr h o=some (v,h1))(he:evOf C fr H1 h1 o.op= .load b):
  (h1=h/\∀H2:Heap,H2.get b=h.get b->opV S C fr H2 o=some (v,H2))/\(∃B,h.get b=some B)/\∃x off,x∈o.op.operands/\evV C fr x=some (.ptr b off):=by
 unfold opV at ho⊢;simp only[hp] at ho⊢;unfold evOf at he;split at he
 ·rename_i t x hop;split at he
  ·rename_i b' off hb;cases he;rw[hop] at ho;simp only[hop];simp only[opH,zrq,z7q,zRq,zSq,yRq,zhq,zkq,zCq,ybq,zNq,zqq,zzq,zgq,znq,zfq,zyq,zVq,zFq,z5q,hb] at ho⊢;cases ht:C.ty t with
   |none=>simp[ht,qyq] at ho
   |some i=>
    simp only[ht] at ho⊢;cases hv:h.val b with
    |none=>simp[hv,qyq] at ho
    |some u=>
     simp only[hv] at ho;cases hg:jjq 50 u off i.size i.agg with
     |none=>simp[hg,qyq] at ho
     |some r=>
      simp only[hg,Option.some.injEq,Prod.mk.injEq] at ho;obtain⟨rfl,rfl⟩:=ho;refine⟨⟨rfl,λH2 h2=>?_⟩,?_,_,off,by simp[Op.operands],hb⟩
      ·have:H2.val b=some u:=by unfold Heap.val at hv⊢;rw[h2];exact hv
       simp only[this,hg]
      ·unfold Heap.val at hv;cases hgb:h.get b with
       |none=>rw[hgb] at hv;cases hv
       |some B=>exact⟨B,rfl⟩
  ·cases he
 ·split at he<;>cases he
 ·repeat' (split at he)<;>first|(cases he;done)|skip
 ·cases he
 ·split at he<;>cases he
theorem Jiq{b:Nat}{H1:Heap}(hp:z1q C fr o.type o.op=none)(ho:opV S C fr h o=some (v,h1))(he:evOf C fr H1 h1 o.op= .store b):
  (∃B B',h.get b=some B/\h1=h.put b B'/\∀H2:Heap,H2.get b=h.get b->opV S C fr H2 o=some (v,H2.put b B'))/\∃x off,x∈o.op.operands/\evV C fr x=some (.ptr b off):=by
 unfold opV at ho⊢;simp only[hp] at ho⊢;unfold evOf at he;split at he
 ·split at he<;>cases he
 ·rename_i t x y hop;split at he
  ·rename_i b' off hb;cases he;rw[hop] at ho;simp only[hop];simp only[opH,zrq,z7q,zRq,zSq,yRq,zhq,zkq,zCq,ybq,zNq,zqq,zzq,zgq,znq,zfq,zyq,zVq,zFq,z5q,hb] at ho⊢;cases hy:evV C fr y with
   |none=>simp[hy,qyq] at ho
   |some u=>
    simp only[hy] at ho⊢;cases ht:C.ty t with
    |none=>simp[ht,qyq] at ho
    |some i=>
     simp only[ht] at ho⊢;cases hg:h.get b with
     |none=>simp[hg,qyq] at ho
     |some B=>
      simp only[hg] at ho⊢;cases B with
      |cells ty u'=>
       cases hz:Nat.beq u.size i.size with
       |false=>simp[hz,qyq] at ho
       |true=>
        simp only[hz] at ho⊢;cases hq:k6q 50 u' off u with
        |none=>simp[hq,qyq] at ho
        |some v'=>
         simp only[hq,Option.some.injEq,Prod.mk.injEq] at ho;obtain⟨rfl,rfl⟩:=ho;exact⟨⟨_,_,rfl,rfl,λH2 h2=>by simp only[h2,hq]⟩,_,off,by simp[Op.operands],hb⟩
      |_=>simp[qyq] at ho
  ·cases he
 ·repeat' (split at he)<;>first|(cases he;done)|skip
 ·cases he
 ·split at he<;>cases he
theorem ev_gen{H1:Heap}(he:evOf C fr H1 h1 o.op= .gen):H1.next<=h1.wmin:=by
 unfold evOf at he;split at he
 ·split at he<;>cases he
 ·split at he<;>cases he
 ·split at he
  ·rename_i hb;exact Nat.le_of_ble_eq_true hb
  ·repeat' (split at he)<;>first|(cases he;done)|skip
 ·cases he
 ·split at he
  ·rename_i hb;exact Nat.le_of_ble_eq_true hb
  ·cases he
theorem ev_mk{b:Nat}{H1:Heap}(hp:z1q C fr o.type o.op=none)(ho:opV S C fr h o=some (v,h1))(he:evOf C fr H1 h1 o.op= .mk b):b=H1.next/\∃B n k,v= .sl h.next 0 0 n k none/\h1=h.push B/\∀H2:Heap,H2.next=h.next->opV S C fr H2 o=some (v,H2.push B):=by
 unfold opV at ho⊢;simp only[hp] at ho⊢;unfold evOf at he;split at he
 ·split at he<;>cases he
 ·split at he<;>cases he
 ·repeat' (split at he)<;>first|(cases he;done)|skip
 ·rename_i t n ps hop;cases he;refine⟨rfl,?_⟩;rw[hop] at ho⊢;simp only[opH,qyq] at ho⊢;split at ho
  ·rename_i r hr;cases ho;unfold zhq at hr⊢;split at hr
   ·rename_i i hi;split at hr
    ·rename_i e hd;split at hr
     ·rename_i k hk;split at hr
      ·cases hr
      ·rename_i hz;split at hr
       ·rename_i u hu;cases hr;exact⟨_,_,_,rfl,rfl,λH2 h2=>by simp only[hi,hd,hk,hz,hu,h2]⟩
       ·cases hr
     ·cases hr
    ·cases hr
   ·cases hr
  ·cases ho
 ·split at he<;>cases he
theorem app_keep{ts tx:TypeId}{b base off len esz:Nat}{lim:Option Nat}{x v:V}{h h1:Heap}(ha:j8q C h ts tx (.sl b base off len esz lim) x=some (v,h1)){i:Nat}(hi:i≠b)(hlt:i<h.next):h1.get i=h.get i:=by
 have hpush:∀B,(h.push B).get i=h.get i:=λB=>by rw[Heap.get_push,if_neg Xd]
 unfold j8q at ha;repeat' (split at ha)
 all_goals first|(cases ha;done)|skip
 all_goals first
  |(cases ha;rfl)
  |(cases ha;exact hpush _)
  |(cases ha;rw[Heap.get_put,if_neg];exact λe=>hi (by simp_all))
  |(cases ha;rw[Heap.get_kill,if_neg];exact hpush _;exact λe=>hi (by simp_all))
  |simp_all
theorem ev_upd{b:Nat}{H1:Heap}(hp:z1q C fr o.type o.op=none)(ho:opV S C fr h o=some (v,h1))(he:evOf C fr H1 h1 o.op= .upd b){i:Nat}(hi:i≠b)(hlt:i<h.next):h1.get i=h.get i:=by
 unfold opV at ho;simp only[hp] at ho;unfold evOf at he;split at he
 ·split at he<;>cases he
 ·split at he<;>cases he
 ·rename_i xs ats hop;rw[hop] at ho;split at he
  ·cases he
  ·split at he
   ·rename_i x y hxs;split at he
    ·rename_i b' base off len esz lim hb;cases he;simp only[opH,zCq] at ho;split at ho
     ·rename_i r hr;cases ho;split at hr
      ·rename_i x' y' ts tx h1' h2';rw[hxs] at h1';cases h1';split at hr
       ·rename_i s u hs hu;rw[hb] at hs;cases hs;exact app_keep hr hi hlt
       ·cases hr
      ·cases hr
     ·simp[qyq] at ho
    ·cases he
   ·cases he
 ·cases he
 ·split at he<;>cases he
theorem mono_wmin{n:Nat}(m1:Mono {h with wmin:=h.next} h1)(hn:n<=h.wmin)(hm:n<=h1.wmin):Mono h {h1 with wmin:=n}:=
 ⟨m1.nxt,λhw=>m1.wf hw,hn,λi hi hj=>m1.keep i hi (Nat.lt_of_lt_of_le hj hm)⟩
theorem StepAt.mono(hS:SelfOK P C S)(st:StepAt S C ops o fr h v h' x):Mono h h':=by
 rcases st with ⟨_,_,rfl,_⟩|⟨_,st⟩
 ·exact Mono.refl _
 ·rcases qgq st with ⟨_,rfl,_⟩|⟨h1,_,ho,rfl,_⟩
  ·exact Mono.refl _
  ·have:=Q1q h.wmin h1.wmin;exact mono_wmin (v9q hS ho) this.1 this.2
noncomputable def Tch(x:Option Ev)(n n' i:Nat):Prop:=(n<=i/\i<n')\/x=some (.store i)\/((x=some .dirty\/x=some (.upd i))/\i<n)
theorem StepAt.load{b:Nat}(st:StepAt S C ops o fr h v h' (some (.load b))):h'.next=h.next:=by
 rcases st with ⟨_,_,_,hx⟩|⟨_,st⟩
 ·cases hx
 ·rcases qgq st with ⟨_,_,hx⟩|⟨h1,hp,ho,rfl,hx⟩
  ·cases hx
  ·obtain⟨⟨e,_⟩,_⟩:=ev_load hp ho Qk;rw[e]
theorem StepAt.store{b:Nat}(st:StepAt S C ops o fr h v h' (some (.store b))):h'.next=h.next/\∃B,h.get b=some B:=by
 rcases st with ⟨_,_,_,hx⟩|⟨_,st⟩
 ·cases hx
 ·rcases qgq st with ⟨_,_,hx⟩|⟨h1,hp,ho,rfl,hx⟩
  ·cases hx
  ·obtain⟨⟨B,B',e1,e2,_⟩,_⟩:=Jiq hp ho Qk;exact⟨by rw[e2];rfl,B,e1⟩
theorem StepAt.mk{b:Nat}(st:StepAt S C ops o fr h v h' (some (.mk b))):b=h.next/\h'.next=h.next+1:=by
 rcases st with ⟨_,_,_,hx⟩|⟨_,st⟩
 ·cases hx
 ·rcases qgq st with ⟨_,_,hx⟩|⟨h1,hp,ho,rfl,hx⟩
  ·cases hx
  ·obtain⟨e1,B,n,k,_,e2,_⟩:=ev_mk hp ho Qk;exact⟨e1,by rw[e2];rfl⟩
theorem StepAt.still(st:StepAt S C ops o fr h v h' none):h'=h:=by
 rcases st with ⟨_,_,hx,_⟩|⟨_,st⟩
 ·exact hx
 ·rcases qgq st with ⟨_,hx,_⟩|⟨h1,_,_,_,hx⟩
  ·exact hx
  ·cases hx
theorem StepAt.keep(hS:SelfOK P C S)(st:StepAt S C ops o fr h v h' x)(hwf:∀i,h.next<=i->h.get i=none){i:Nat}(hi:¬Tch x h.next h'.next i):h'.get i=h.get i:=by
 have hm:=st.mono hS;by_cases hge:h'.next<=i
 ·rw[hm.wf hwf i hge,hwf i (Nat.le_trans hm.nxt hge)]
 ·have hlt:i<h.next:=by
   rcases Nat.lt_or_ge i h.next with h2|h2
   ·exact h2
   ·exact absurd (.inl ⟨h2,by omega⟩) hi
  rcases st with ⟨_,_,rfl,_⟩|⟨_,st⟩
  ·rfl
  ·rcases qgq st with ⟨_,rfl,_⟩|⟨h1,hp,ho,rfl,hx⟩
   ·rfl
   ·cases he:evOf C fr h h1 o.op with
    |load b=>obtain⟨⟨e,_⟩,_⟩:=ev_load hp ho he;rw[e];rfl
    |store b=>
     obtain⟨⟨B,B',_,e,_⟩,_⟩:=Jiq hp ho he;rw[e];show(Heap.put {h with wmin:=h.next} b B').get i=h.get i;rw[Heap.get_put,if_neg]
     ·rfl
     ·rintro rfl;exact hi (.inr (.inl (by rw[hx,he])))
    |gen=>exact(v9q hS ho).keep i hlt (Nat.lt_of_lt_of_le hlt (ev_gen he))
    |mk b=>
     obtain⟨_,B,n,k,_,rfl,_⟩:=ev_mk hp ho he;show(Heap.push {h with wmin:=h.next} B).get i=_;rw[Heap.get_push,if_neg (by show i≠h.next;omega)];rfl
    |dirty=>exact absurd (.inr (.inr ⟨.inl (by rw[hx,he]),hlt⟩)) hi
    |upd b=>
     by_cases hib:i=b
     ·exact absurd (.inr (.inr ⟨.inr (by rw[hx,he,hib]),hlt⟩)) hi
     ·exact ev_upd hp ho he hib hlt
theorem jhq{listed:Array Bool}(hcl:∀(k:Nat) (o:Oper) (e:Edge),ops[k]? =some o->listed[k]? =some true->e∈o.after->Region.binds .any e=true->listed[e.on]? =some true):
  ∀(f j k:Nat),qiq ops f j k=true->(∀o e,ops[j]? =some o->e∈o.after->Region.binds .any e=true->listed[e.on]? =some true) ->listed[k]? =some true
 |0,_,_,h,_=>by simp[qiq] at h
 |f+1,j,k,h,hj=>by
  simp only[qiq] at h;split at h
  ·cases h
  ·rename_i o ho;simp only[Array.any_eq_true',Bool.and_eq_true,Bool.or_eq_true] at h;obtain⟨e,he,hb,h⟩:=h;have hl:=hj o e ho he hb;rcases h with h|h
   ·rw[<-Nat.eq_of_beq_eq_true h];exact hl
   ·exact jhq hcl f e.on k h λo' e' ho' he' hb'=>hcl e.on o' e' ho' hl he' hb'
end
theorem Nxt.ext{D0 D D':Nat->Prop}{ρ0 ρ ρ':Env}{h0 hn hj h1:Heap}{w0 w w':World}{U:Nat}(hl0:∀i,D0 i->i<h0.next\/U<=i)(a:Nxt D0 ρ0 h0 w0 D ρ hn w)(b:Nxt D ρ hj w D' ρ' h1 w')(hU:hn.next<=U)(h0j:h0.next<=hj.next)(h1n:h1.next<=hn.next)
  (hw:hn.wmin<=h1.wmin) (hD:∀i,D i->¬(hj.next<=i/\i<h1.next)):Nxt D0 ρ0 h0 w0 D' ρ' hn w':=by
 have hb:=b.nxt;have env:∀i,D i->ρ'.b i=ρ.b i:=λi hi=>(b.env i (by have:=hD i hi;omega)).1
 have old:∀j,D j->h1.wmin<=j->j<hj.next->w0.heap.size<=ρ.b j\/∃k,D0 k/\hn.wmin<=k/\k<h0.next/\ρ0.b k=ρ.b j:=λj hj hwj hlt=>by
  rcases a.new j hj with h|⟨h,h'⟩
  ·rcases hl0 j h with h3|h3
   ·exact .inr ⟨j,h,Nat.le_trans hw hwj,h3,(a.env j (.inl h3)).1.symm⟩
   ·omega
  ·exact a.fresh j hj h h'
 refine⟨λi hi=>b.sub i (a.sub i hi),λi hi=>?_,λi hi=>?_,λc hc hno=>?_,λi hi hn' hlt=>?_,Nat.le_trans a.size b.size,a.wmin,a.nxt,b.os.trans a.os,b.tape.trans a.tape,b.output.trans a.output⟩
 ·rcases b.new i hi with h|⟨h,h'⟩
  ·exact a.new i h
  ·exact .inr ⟨by omega,by omega⟩
 ·obtain⟨g1,g2,g3,g4⟩:=a.env i hi;obtain⟨k1,k2,k3,k4⟩:=b.env i Xd;exact⟨k1.trans g1,k2.trans g2,k3.trans g3,k4.trans g4⟩
 ·rw[b.frame c (Nat.lt_of_lt_of_le hc a.size) λi hi hwi hlt e=>?_]
  ·exact a.frame c hc hno
  ·rcases old i hi hwi hlt with h|⟨k,k1,k2,k3,k4⟩
   ·omega
   ·exact hno k k1 k2 k3 (k4.trans e)
 ·rcases b.new i hi with h|⟨h,h'⟩
  ·rw[env i h];exact a.fresh i h hn' hlt
  ·rcases b.fresh i hi h h' with h2|⟨j,j1,j2,j3,j4⟩
   ·exact .inl (Nat.le_trans a.size h2)
   ·rw[<-j4];exact old j j1 j2 j3
theorem Rel.on{s0:World}{U U':Nat}{D:Nat->Prop}{ρ:Env}{h h':Heap}{w:World}(r:Rel s0 U D ρ h w)(hl:∀i,D i->i<h'.next\/U'<=i)(hwf:∀i,h'.next<=i->h'.get i=none)(hg:∀i b,D i->h'.get i=some b->h.get i=some b):Rel s0 U' D ρ h' w:=
 ⟨hl,hwf,λi b hi hb=>r.has i b hi (hg i b hi hb),λi b hi hb=>r.clo i b hi (hg i b hi hb),λi j b c hi hj hb hc=>r.inj i j b c hi hj (hg i b hi hb) (hg j c hj hc),λi b hi hb=>r.own i b hi (hg i b hi hb),λi j b c hi hj hb hc=>r.old i j b c hi hj (hg i b hi hb) (hg j c hj hc),r.base⟩
structure FCtx(P:Program)(C:Cfg)(S:Self)(U N:Nat)(ops:Array Oper)(frs:Nat->Tr V)(hs:Nat->Heap)(vs:Nat->V)(xs:Nat->Option Ev):Prop where
 hC:CfgOK P C
 hS:SelfOK P C S
 hB:flowB N ops.toList ops.size=true
 st:∀(j:Nat) (o:Oper),ops[j]? =some o->StepAt S C ops o (frs j) (hs j) (vs j) (hs (j+1)) (xs j)/\frs (j+1)=putT (frs j) o.dst (vs j)
 cl:∀(j k:Nat) (x y:Ev),j<ops.size->k<j->xs j=some x->xs k=some y->y.clash x=true->qiq ops ops.size j k=true
 wf0:∀i,(hs 0).next<=i->(hs 0).get i=none
 hU:(hs ops.size).next<=U
structure FInv(C:Cfg)(s0:World)(U N:Nat)(X:List Deferred)(ops:Array Oper)(frs:Nat->Tr V)(hs:Nat->Heap)(vs:Nat->V)(xs:Nat->Option Ev)(D0:Nat->Prop)(ρ0:Env)(w0:World)(listed:Array Bool)(a:Act)(w:World)(D:Nat->Prop)(ρ:Env)(H:Heap):Prop where
 size:listed.size=ops.size
 asz:a.tmps.size=N
 adf:a.defers=X
 closed:∀(k:Nat) (o:Oper) (e:Edge),ops[k]? =some o->listed[k]? =some true->e∈o.after->Region.binds .any e=true->listed[e.on]? =some true
 next:H.next=(hs ops.size).next
 wmin:H.wmin=(hs ops.size).wmin
 char:∀i,D i->D0 i\/∃k:Nat,listed[k]? =some true/\(hs k).next<=i/\i<(hs (k+1)).next
 lt0:∀i,D0 i->i<(hs 0).next\/U<=i
 cont:∀i,D i->∀p,p<=ops.size->(∀k,k<p->Tch (xs k) (hs k).next (hs (k+1)).next i->listed[k]? =some true) ->(∀k,p<=k->k<ops.size->Tch (xs k) (hs k).next (hs (k+1)).next i->listed[k]? =some false) ->H.get i=(hs p).get i
 rel:Rel s0 U D ρ H w
 nxt:Nxt D0 ρ0 (hs 0) w0 D ρ (hs ops.size) w
 got:∀(k:Nat) (o:Oper) (t:Nat),ops[k]? =some o->listed[k]? =some true->o.dst=some t->a.tmps[t]? =some (conc ρ (vs k))/\InD (DD D ρ) (vs k)
 base:∀t v,(∀(k:Nat) (o:Oper),ops[k]? =some o->o.dst=some t->listed[k]? =some false) ->(frs 0).get t=some v->a.tmps[t]? =some (conc ρ v)/\InD (DD D ρ) v
 gl:GlobOK C (DD D ρ) ρ
section
variable {P:Program} {C:Cfg} {S:Self} {s0:World} {U N:Nat} {X:List Deferred} {ops:Array Oper} {frs:Nat->Tr V} {hs:Nat->Heap} {vs:Nat->V} {xs:Nat->Option Ev} {D0:Nat->Prop} {ρ0:Env} {w0:World} {listed:Array Bool} {a:Act} {w:World} {D:Nat->Prop} {ρ:Env} {H:Heap}
theorem FCtx.at_{j:Nat}(_:FCtx P C S U N ops frs hs vs xs)(hj:j<ops.size):∃o,ops[j]? =some o:=⟨_,Array.getElem?_eq_getElem hj⟩
theorem FCtx.mono(c:FCtx P C S U N ops frs hs vs xs){j:Nat}:∀(d:Nat),j+d<=ops.size->Mono (hs j) (hs (j+d))
 |0,_=>Mono.refl _
 |d+1,h=>by
  obtain⟨o,ho⟩:=c.at_ (show j+d<ops.size by omega);exact(c.mono d Xd).trans ((c.st _ o ho).1.mono c.hS)
theorem FCtx.monoLe(c:FCtx P C S U N ops frs hs vs xs){j k:Nat}(h1:j<=k)(h2:k<=ops.size):Mono (hs j) (hs k):=by
 have:=c.mono (j:=j) (k-j) Xd;rwa[show j+(k-j)=k by omega] at this
theorem FCtx.wf(c:FCtx P C S U N ops frs hs vs xs){j:Nat}(h:j<=ops.size):∀i,(hs j).next<=i->(hs j).get i=none:=(c.monoLe (Nat.zero_le j) h).wf c.wf0
theorem FCtx.keep(c:FCtx P C S U N ops frs hs vs xs){j i:Nat}:∀(d:Nat),j+d<=ops.size->(∀k,j<=k->k<j+d->¬Tch (xs k) (hs k).next (hs (k+1)).next i) ->(hs (j+d)).get i=(hs j).get i
 |0,_,_=>rfl
 |d+1,h,hn=>by
  obtain⟨o,ho⟩:=c.at_ (show j+d<ops.size by omega);exact((c.st _ o ho).1.keep c.hS (c.wf Xd) (hn (j+d) Xd Xd)).trans (c.keep d Xd λk h1 h2=>hn k h1 Xd)
theorem FCtx.tch_ev(c:FCtx P C S U N ops frs hs vs xs){k i:Nat}(hk:k<ops.size)(ht:Tch (xs k) (hs k).next (hs (k+1)).next i):
  i<(hs (k+1)).next/\∃x,xs k=some x/\(∀b,x≠ .load b)/\((i<(hs k).next/\(x= .store i\/x= .dirty\/x= .upd i))\/(hs k).next<=i):=by
 obtain⟨o,ho⟩:=c.at_ hk;have st:=(c.st _ o ho).1;have hm:=(st.mono c.hS).nxt;rcases ht with ⟨h1,h2⟩|h|⟨h|h,h1⟩
 ·refine⟨h2,?_⟩;cases hx:xs k with
  |none=>rw[hx] at st;rw[st.still] at h2;omega
  |some x=>
   refine⟨x,rfl,λb e=>?_,.inr h1⟩;rw[hx,e] at st;rw[st.load] at h2;omega
 ·have st':=st;rw[h] at st';obtain⟨e,B,hB⟩:=st'.store
  have hlt:i<(hs k).next:=by
   rcases Nat.lt_or_ge i (hs k).next with h'|h'
   ·exact h'
   ·rw[c.wf Xd i h'] at hB;cases hB
  exact⟨by omega,_,h,λb e=>(by cases e),.inl ⟨hlt,.inl rfl⟩⟩
 ·exact⟨by omega,_,h,λb e=>(by cases e),.inl ⟨h1,.inr (.inl rfl)⟩⟩
 ·exact⟨by omega,_,h,λb e=>(by cases e),.inl ⟨h1,.inr Qm⟩⟩
noncomputable def Reads(x:Ev)(i:Nat):Prop:=match x with
 |.load b=>i=b
 |.store b=>i=b
 |.gen=>True
 |.dirty=>True
 |.upd _=>True
 |.mk _=>False
theorem qkq{x y:Ev}{i:Nat}(hr:Reads x i)(hy:y= .store i\/y= .dirty\/y= .upd i):y.clash x=true/\x.clash y=true:=by
 rcases hy with rfl|rfl|rfl<;>cases x<;>simp_all[Ev.clash,Reads]
theorem FInv.now(c:FCtx P C S U N ops frs hs vs xs)(inv:FInv C s0 U N X ops frs hs vs xs D0 ρ0 w0 listed a w D ρ H){j:Nat}{o:Oper}{x:Ev}{i:Nat}(hj:ops[j]? =some o)(hjf:listed[j]? =some false)
  (hed:∀e∈o.after,Region.binds .any e=true->listed[e.on]? =some true) (hx:xs j=some x) (hr:Reads x i) (hi:D i) (hlt:i<(hs j).next):H.get i=(hs j).get i:=by
 have hjs:=(Array.getElem?_eq_some_iff.1 hj).1
 have hreach:∀k,qiq ops ops.size j k=true->listed[k]? =some true:=λk hk=>jhq inv.closed _ j k hk λo' e ho' he hb=>by
  rw[hj] at ho';cases ho';exact hed e he hb
 refine inv.cont i hi j Xd (λk hk ht=>?_) λk hk hks ht=>?_
 ·obtain⟨q1,y,q2,q3,q4⟩:=c.tch_ev Xd ht;rcases q4 with ⟨_,hy⟩|hge
  ·exact hreach k (c.cl j k x y hjs hk hx q2 (qkq hr hy).1)
  ·rcases inv.char i hi with h|⟨k',hk',g1,g2⟩
   ·have:=inv.lt0 i h;have h1:=(c.monoLe (Nat.zero_le k) Xd).nxt;have h2:=(c.monoLe (show j<=ops.size by omega) (Nat.le_refl _)).nxt;have h3:=c.hU;omega
   ·have hk's:k'<ops.size:=by rw[<-inv.size];exact(Array.getElem?_eq_some_iff.1 hk').1
    have:k'=k:=by
     rcases Nat.lt_trichotomy k' k with h|h|h
     ·have:=(c.monoLe (show k'+1<=k by omega) Xd).nxt;omega
     ·exact h
     ·have:=(c.monoLe (show k+1<=k' by omega) Xd).nxt;omega
    rw[<-this];exact hk'
 ·by_cases e:k=j
  ·rw[e];exact hjf
  ·obtain⟨q1,y,q2,q3,q4⟩:=c.tch_ev hks ht;have hjk:=(c.monoLe (show j<=k by omega) Xd).nxt;rcases q4 with ⟨_,hy⟩|hge
   ·have hreach:=c.cl k j y x hks Xd q2 hx (qkq hr hy).2;have hks':k<listed.size:=by rw[inv.size];exact hks
    cases hv:listed[k] with
    |false=>rw[Array.getElem?_eq_getElem hks',hv]
    |true=>
     have hl:listed[k]? =some true:=by rw[Array.getElem?_eq_getElem hks',hv]
     have:=jhq inv.closed _ k j hreach λo' e ho' he hb=>inv.closed k o' e ho' hl he hb
     rw[hjf] at this;cases this
   ·omega
theorem FCtx.frs_get(c:FCtx P C S U N ops frs hs vs xs)(t:Nat):∀j,j<=ops.size->(∃(k:Nat) (o:Oper),k<j/\ops[k]? =some o/\o.dst=some t/\(frs j).get t=some (vs k))\/((∀(k:Nat) (o:Oper),k<j->ops[k]? =some o->o.dst≠some t)/\(frs j).get t=(frs 0).get t)
 |0,_=>.inr ⟨λk o hk=>by omega,rfl⟩
 | j +1,h=>by
  obtain⟨o,ho⟩:=c.at_ (show j<ops.size by omega);have e:=(c.st j o ho).2;by_cases hd:o.dst=some t
  ·exact .inl ⟨j,o,by omega,ho,hd,by rw[e,hd];simp[putT,Tr.get_set]⟩
  ·have e2:(frs (j+1)).get t=(frs j).get t:=by
    rw[e];cases hd':o.dst with
    |none=>rfl
    |some u=>
     simp only[putT,Tr.get_set];rw[if_neg];rintro rfl;exact hd hd'
   rw[e2];rcases c.frs_get t j Xd with ⟨k,p,h1,h2,h3,h4⟩|⟨h1,h2⟩
   ·exact .inl ⟨k,p,by omega,h2,h3,h4⟩
   ·refine .inr ⟨λk p hk hp=>?_,h2⟩;by_cases hkj:k=j
    ·subst hkj;rw[ho] at hp;cases hp;exact hd
    ·exact h1 k p Xd hp
theorem FInv.fr(c:FCtx P C S U N ops frs hs vs xs)(inv:FInv C s0 U N X ops frs hs vs xs D0 ρ0 w0 listed a w D ρ H){j:Nat}{o:Oper}(hj:ops[j]? =some o)(hjf:listed[j]? =some false)
  (hed:∀e∈o.after,Region.binds .any e=true->listed[e.on]? =some true):∃fc:Tr V,(∀t∈o.looksAt ops,fc.get t=(frs j).get t)/\FrE C D ρ fc a:=by
 have hjs:=(Array.getElem?_eq_some_iff.1 hj).1;obtain⟨fc,hfc⟩:=(frs j).cut (o.looksAt ops);refine⟨fc,λt ht=>by rw[hfc,if_pos ht],?_⟩;obtain⟨_,_,_,hpre,_⟩:=uTq c.hB hj
 have key:∀t v,fc.get t=some v->a.tmps[t]? =some (conc ρ v)/\InD (DD D ρ) v:=λt v hv=>by
  rw[hfc] at hv;split at hv
  ·rename_i ht;rcases c.frs_get t j Xd with ⟨k,p,h1,h2,h3,h4⟩|⟨h1,h2⟩
   ·rw[h4] at hv;cases hv
    rcases(hpre hjs k p t Xd h2 h3).2 ht with h|h
    ·omega
    ·rw[if_pos h1] at h;obtain⟨e,he,hb,heq⟩:=Ydq h;have:=hed e he hb;rw[heq] at this;exact inv.got k p t h2 this h3
   ·rw [h2] at hv;refine inv.base t v (λk p hp hpd=>?_) hv;have hks:=(Array.getElem?_eq_some_iff.1 hp).1;have hks':k<listed.size:=by rw[inv.size];exact hks
    rcases Nat.lt_trichotomy k j with h|h|h
    ·exact absurd hpd (h1 k p h hp)
    ·rw[h];exact hjf
    ·rcases(hpre hjs k p t hks hp hpd).2 ht with h'|h'
     ·omega
     ·rw[if_neg Xd] at h';obtain⟨e,he,hb,heq⟩:=Ydq h';rw[Array.getElem?_eq_getElem hks'];congr 1
      cases hv':listed[k] with
      |false=>rfl
      |true=>
       have:=inv.closed k p e hp (by rw[Array.getElem?_eq_getElem hks',hv']) he hb;rw[heq,hjf] at this;cases this
  ·cases hv
 exact⟨⟨λt v hv=>(key t v hv).1,λt v hv=>(key t v hv).2,inv.gl⟩⟩
theorem FInv.upd(c:FCtx P C S U N ops frs hs vs xs)(inv:FInv C s0 U N X ops frs hs vs xs D0 ρ0 w0 listed a w D ρ H){j:Nat}{o:Oper}(hj:ops[j]? =some o)(hjf:listed[j]? =some false)
  (hed:∀e∈o.after,Region.binds .any e=true->listed[e.on]? =some true) {D':Nat->Prop} {ρ':Env} {H':Heap} {w':World} (hchar:∀i,D' i->D i\/((hs j).next<=i/\i<(hs (j+1)).next)) (hnext:H'.next=(hs ops.size).next) (hwmin:H'.wmin=(hs ops.size).wmin)
  (hkeep:∀i,D' i->¬Tch (xs j) (hs j).next (hs (j+1)).next i->H'.get i=H.get i) (hnew:∀i,D' i->Tch (xs j) (hs j).next (hs (j+1)).next i->H'.get i=(hs (j+1)).get i)
  (rel':Rel s0 U D' ρ' H' w') (nxt':Nxt D0 ρ0 (hs 0) w0 D' ρ' (hs ops.size) w') (ag:Env.Agree (DD D ρ) ρ ρ') (dd:∀i m,DD D ρ i m->DD D' ρ' i m) (hv:InD (DD D' ρ') (vs j)):
  FInv C s0 U N X ops frs hs vs xs D0 ρ0 w0 (listed.setIfInBounds j true) (a.put o.dst (conc ρ' (vs j))) w' D' ρ' H':=by
 have hjs:=(Array.getElem?_eq_some_iff.1 hj).1;obtain⟨_,hdst,_,hpre,_⟩:=uTq c.hB hj;have hjls:j<listed.size:=by rw[inv.size];exact hjs
 have hset:∀k:Nat,(listed.setIfInBounds j true)[k]? =if j=k then some true else listed[k]? :=λk=>by
  rw[Array.getElem?_setIfInBounds];split
  ·rename_i e;subst e;simp
  ·rfl
 refine⟨by simp[inv.size],by cases o.dst<;>simp[Act.put,inv.asz],by cases o.dst<;>simp[Act.put,inv.adf],?_,hnext,hwmin,?_,inv.lt0,?_,rel',nxt',?_,?_,?_⟩
 ·intro k p e hp hlk he hbe;rw[hset] at hlk;rw[hset];split
  ·rfl
  ·split at hlk
   ·rename_i e';subst e'
    rw[hj] at hp;cases hp
    exact hed e he hbe
   ·exact inv.closed k p e hp hlk he hbe
 ·intro i hi;rcases hchar i hi with h|h
  ·rcases inv.char i h with h|⟨k,hk,h⟩
   ·exact .inl h
   ·refine .inr ⟨k,?_,h⟩;rw[hset];split
    ·rfl
    ·exact hk
  ·exact .inr ⟨j,by rw[hset,if_pos rfl],h⟩
 ·intro i hi p hp h1 h2;by_cases ht:Tch (xs j) (hs j).next (hs (j+1)).next i
  ·have hpj:j<p:=by
    rcases Nat.lt_or_ge j p with h|h
    ·exact h
    ·have:=h2 j h hjs ht;rw[hset,if_pos rfl] at this;cases this
   rw[hnew i hi ht]
   have:=c.keep (j:=j+1) (i:=i) (p-(j+1)) Xd λk hk1 hk2 htk=>by
    have hks:k<ops.size:=by omega
    have hl:=h1 k Xd htk;rw[hset,if_neg Xd] at hl;obtain⟨q1,x,qx,q3,q4⟩:=c.tch_ev hjs ht;obtain⟨r1,y,ry,r3,r4⟩:=c.tch_ev hks htk;have hjk:=(c.monoLe (show j+1<=k by omega) Xd).nxt
    have hy:y= .store i\/y= .dirty\/y= .upd i:=by
     rcases r4 with ⟨_,h⟩|h
     ·exact h
     ·omega
    have hcl:x.clash y=true:=by
     rcases q4 with ⟨_,h⟩|h
     ·rcases h with rfl|rfl|rfl
      ·exact(qkq (x:=.store i) rfl hy).2
      ·exact(qkq (x:=.dirty) (i:=i) trivial hy).2
      ·exact(qkq (x:=.upd i) (i:=i) trivial hy).2
     ·cases x with
      |load b=>exact absurd rfl (q3 b)
      |store b=>
       exfalso
       have:=(c.st j o hj).1;rw[qx] at this;have:=this.store.1;omega
      |gen=>exact(qkq (x:=.gen) (i:=i) trivial hy).2
      |mk b=>
       have:=(c.st j o hj).1;rw[qx] at this;obtain⟨e1,e2⟩:=this.mk;obtain rfl:i=b:=by omega
       rcases hy with rfl|rfl|rfl
       ·exact Nat.beq_refl _
       ·rfl
       ·rfl
      |dirty=>exact(qkq (x:=.dirty) (i:=i) trivial hy).2
      |upd b=>exact(qkq (x:=.upd b) (i:=i) trivial hy).2
    have:=jhq inv.closed _ k j (c.cl k j y x hks Xd ry qx hcl) λo' e ho' he hb=>inv.closed k o' e ho' hl he hb
    rw[hjf] at this;cases this
   rw[show j+1+(p-(j+1))=p by omega] at this;exact this.symm
  ·rw[hkeep i hi ht]
   have hi':D i:=by
    rcases hchar i hi with h|h
    ·exact h
    ·exact absurd (.inl h) ht
   refine inv.cont i hi' p hp (λk hk htk=>?_) λk hk hks htk=>?_
   ·have:=h1 k hk htk;rw[hset,if_neg] at this
    ·exact this
    ·rintro rfl;exact ht htk
   ·have:=h2 k hk hks htk;rw[hset] at this;split at this
    ·cases this
    ·exact this
 ·intro k p t hp hlk hpd;rw[hset] at hlk;by_cases e:j=k
  ·subst e;rw[hj] at hp;cases hp
   have ht:t<N:=by rw[hpd] at hdst;simpa[Yfq] using hdst
   exact⟨by simp[hpd,Act.put,inv.asz,ht],hv⟩
  ·rw[if_neg e] at hlk;obtain⟨g1,g2⟩:=inv.got k p t hp hlk hpd;have hks:=(Array.getElem?_eq_some_iff.1 hp).1;refine⟨?_,g2.mono dd⟩;rw[yyq ag g2]
   have hne:o.dst≠some t:=by
    rcases(hpre hjs k p t hks hp hpd).1 with h|h
    ·exact absurd h.symm e
    ·exact h
   cases hd:o.dst with
   |none=>exact g1
   |some u=>
    rw[hd] at hne;simp only[Act.put,Array.getElem?_setIfInBounds];rw[if_neg (λe'=>hne (by rw[e']))];exact g1
 ·intro t v hno hv'
  have hne:o.dst≠some t:=λh=>by
   have:=hno j o hj h;rw[hset,if_pos rfl] at this;cases this
  obtain⟨g1,g2⟩:=inv.base t v (λk p hp hpd=>by
   have:=hno k p hp hpd;rw[hset] at this;split at this
   ·cases this
   ·exact this) hv'
  refine⟨?_,g2.mono dd⟩;rw[yyq ag g2];cases hd:o.dst with
  |none=>exact g1
  |some u=>
   rw[hd] at hne;simp only[Act.put,Array.getElem?_setIfInBounds];rw[if_neg (λe'=>hne (by rw[e']))];exact g1
 ·intro i hi;obtain⟨h1,h2,h3⟩:=inv.gl i hi;obtain⟨e1,e2,_⟩:=ag i 0 h1;exact⟨dd i 0 h1,e1.trans h2,e2.trans h3⟩
end
section
variable {P:Program} {C:Cfg} {S:Self} {s0:World} {U N:Nat} {X:List Deferred} {ops:Array Oper} {frs:Nat->Tr V} {hs:Nat->Heap} {vs:Nat->V} {xs:Nat->Option Ev} {D0:Nat->Prop} {ρ0:Env} {w0:World} {listed:Array Bool} {a:Act} {w:World} {D:Nat->Prop} {ρ:Env} {H:Heap}
theorem FInv.here(c:FCtx P C S U N ops frs hs vs xs)(inv:FInv C s0 U N X ops frs hs vs xs D0 ρ0 w0 listed a w D ρ H){j:Nat}{o:Oper}(hj:ops[j]? =some o)(hjf:listed[j]? =some false)
  (hed:∀e∈o.after,Region.binds .any e=true->listed[e.on]? =some true) {fc:Tr V} (g:FrE C D ρ fc a) {H1:Heap} (ho:opV S C fc H o=some (vs j,H1)) (hn:H1.next=H.next) (hw:(hs ops.size).wmin<=H1.wmin)
  (hnn:(hs (j+1)).next=(hs j).next) (hkeep:∀i,D i->¬Tch (xs j) (hs j).next (hs (j+1)).next i->H1.get i=H.get i) (hnew:∀i,D i->Tch (xs j) (hs j).next (hs (j+1)).next i->H1.get i=(hs (j+1)).get i)
  {r:Option Nat} {K:Act->World->Prop} {Q:Exit->Act->World->Prop} (hK:∀w' D' ρ' H',FInv C s0 U N X ops frs hs vs xs D0 ρ0 w0 (listed.setIfInBounds j true) (a.put o.dst (conc ρ' (vs j))) w' D' ρ' H'->K (a.put o.dst (conc ρ' (vs j))) w'):o.wpIn (FF r) 0 P a w K Q:=by
 have hjs:=(Array.getElem?_eq_some_iff.1 hj).1;obtain⟨hnd,_⟩:=uTq c.hB hj;have hU:H1.next<=U:=by rw[hn,inv.next];exact c.hU
 refine ZOq c.hC c.hS hnd ho hU g inv.rel λD' ρ' w' rel1 nxt1 in1=>?_
 have hD':∀i,D' i->D i:=λi hi=>by
  rcases nxt1.new i hi with h|⟨h,h'⟩
  ·exact h
  ·rw[hn] at h';omega
 have m0:=(c.monoLe (Nat.zero_le ops.size) (Nat.le_refl _)).nxt;refine hK w' D' ρ' {H1 with next:=(hs ops.size).next,wmin:=(hs ops.size).wmin} (inv.upd c hj hjf hed (λi hi=>.inl (hD' i hi)) rfl rfl (λi hi=>hkeep i (hD' i hi)) (λi hi=>hnew i (hD' i hi)) ?_ ?_ (nxt1.agree inv.rel.lt hU) (nxt1.dd inv.rel.lt hU) in1)
 ·exact rel1.on (λi hi=>by
   have h1:=rel1.lt i hi;have h2:=inv.next;show i<(hs ops.size).next\/U<=i;omega) (λi hi=>rel1.wf i (by rw[hn,inv.next];exact hi)) λi b _ hb=>hb
 ·exact Nxt.ext inv.lt0 inv.nxt nxt1 c.hU (by rw[inv.next];exact m0) (by rw[hn,inv.next];exact Nat.le_refl _) hw (λi _ h=>by rw[hn] at h;omega)
theorem FInv.there(c:FCtx P C S U N ops frs hs vs xs)(inv:FInv C s0 U N X ops frs hs vs xs D0 ρ0 w0 listed a w D ρ H){j:Nat}{o:Oper}(hj:ops[j]? =some o)(hjf:listed[j]? =some false)
  (hed:∀e∈o.after,Region.binds .any e=true->listed[e.on]? =some true) {fc:Tr V} (g:FrE C D ρ fc a) {h1 hb h2:Heap} (ho:opV S C fc hb o=some (vs j,h2)) (hj1:hs (j+1)={h1 with wmin:=minN (hs j).wmin h1.wmin})
  (hbn:hb.next=(hs j).next) (hbf:∀i,hb.next<=i->hb.get i=none) (hbr:∀i b,D i->hb.get i=some b->H.get i=some b) (h2n:h2.next=h1.next) (h2w:h2.wmin=h1.wmin) (h2g:∀i,(hs j).next<=i->i<h1.next->h2.get i=h1.get i)
  {x:Ev} (hx:xs j=some x) (hg:(h2=h1/\(x= .dirty\/∃b,x= .upd b)/\(∀i,D i->i<(hs j).next->H.get i=(hs j).get i)/\∀i,¬Tch (xs j) (hs j).next h1.next i->i<(hs j).next->h1.get i=(hs j).get i)\/((x= .gen\/∃b,x= .mk b)/\(hs j).next<=h1.wmin))
  {r:Option Nat} {K:Act->World->Prop} {Q:Exit->Act->World->Prop} (hK:∀w' D' ρ' H',FInv C s0 U N X ops frs hs vs xs D0 ρ0 w0 (listed.setIfInBounds j true) (a.put o.dst (conc ρ' (vs j))) w' D' ρ' H'->K (a.put o.dst (conc ρ' (vs j))) w'):o.wpIn (FF r) 0 P a w K Q:=by
 have hjs:=(Array.getElem?_eq_some_iff.1 hj).1;obtain⟨hnd,_⟩:=uTq c.hB hj;have hm:=v9q c.hS ho;have hjn:(hs (j+1)).next=h1.next:=by rw[hj1]
 have hjg:∀i,(hs (j+1)).get i=h1.get i:=λi=>by rw[hj1];rfl
 have hle:=(c.monoLe (show j+1<=ops.size by omega) (Nat.le_refl _)).nxt;have m0:=(c.monoLe (Nat.zero_le ops.size) (Nat.le_refl _)).nxt;have m0j:=(c.monoLe (Nat.zero_le j) Xd).nxt;have hmj:(hs j).next<=h1.next:=by have:=hm.nxt;omega
 have hU:=c.hU
 have hwm:(hs ops.size).wmin<=h1.wmin:=by
  have q1:=(c.monoLe (show j+1<=ops.size by omega) (Nat.le_refl _)).wmin;have q2:=(Q1q (hs j).wmin h1.wmin).2;rw[hj1] at q1;exact Nat.le_trans q1 q2
 --the blocks that are told of lie ahead of its own,or behind
 have hD:∀i,D i->i<(hs j).next\/h1.next<=i:=λi hi=>by
  rcases inv.char i hi with h|⟨k,hk,g1,g2⟩
  ·have:=inv.lt0 i h;omega
  ·have hks:k<ops.size:=by rw[<-inv.size];exact(Array.getElem?_eq_some_iff.1 hk).1
   rcases Nat.lt_trichotomy k j with h|h|h
   ·have:=(c.monoLe (show k+1<=j by omega) Xd).nxt;omega
   ·rw[h,hjf] at hk;cases hk
   ·have:=(c.monoLe (show j+1<=k by omega) Xd).nxt;omega
 have rel1:Rel s0 h2.next D ρ hb w:=inv.rel.on (λi hi=>by have:=hD i hi;omega) hbf hbr;refine ZOq c.hC c.hS hnd ho (Nat.le_refl _) g rel1 λD' ρ' w' rel2 nxt2 in2=>?_
 have hnew:∀i,D' i->D i\/((hs j).next<=i/\i<h1.next):=λi hi=>by have:=nxt2.new i hi;rwa[hbn,h2n] at this
 have ag:=nxt2.agree rel1.lt (Nat.le_refl _);have dd:=nxt2.dd rel1.lt (Nat.le_refl _)
 have nx:=Nxt.ext inv.lt0 inv.nxt nxt2 c.hU Xd Xd Xd (λi hi h=>by
  have:=hD i hi;omega)
 have ltU:∀i,D' i->i<(hs ops.size).next\/U<=i:=λi hi=>by
  rcases hnew i hi with h|h
  ·have:=inv.rel.lt i h;rw[inv.next] at this;exact this
  ·omega
 rcases hg with ⟨rfl,hxx,hnow,hkp⟩|⟨hxm,hwn⟩
 ·-- it turns what it likes:nothing behind it has had a turn
  have hD2:∀i,D i->i<(hs j).next\/(hs ops.size).next<=i:=λi hi=>by
   rcases inv.char i hi with h|⟨k,hk,g1,g2⟩
   ·have:=inv.lt0 i h;omega
   ·have hks:k<ops.size:=by rw[<-inv.size];exact(Array.getElem?_eq_some_iff.1 hk).1
    rcases Nat.lt_trichotomy k j with h|h|h
    ·have:=(c.monoLe (show k+1<=j by omega) Xd).nxt;omega
    ·rw[h,hjf] at hk;cases hk
    ·obtain⟨_,y,ry,hnl,_⟩:=c.tch_ev hks (.inl ⟨g1,g2⟩)
     have hcl:x.clash y=true:=by
      rcases hxx with rfl|⟨b,rfl⟩
      ·cases y<;>rfl
      ·cases y<;>first|rfl|exact absurd rfl (hnl _)
     have:=jhq inv.closed _ k j (c.cl k j y x hks h ry hx hcl) λo' e ho' he hb=>inv.closed k o' e ho' hk he hb
     rw[hjf] at this;cases this
  refine hK w' D' ρ' {h2 with next:=(hs ops.size).next,wmin:=(hs ops.size).wmin} (inv.upd c hj hjf hed (λi hi=>by rw[hjn];exact hnew i hi) rfl rfl ?_ (λi _ _=>(hjg i).symm) ?_ nx ag dd in2)
  ·intro i hi ht
   have hi':D i:=by
    rcases hnew i hi with h|h
    ·exact h
    ·exact absurd (.inl (by rw[hjn];exact h)) ht
   rcases hD2 i hi' with h|h
   ·have e1:=hkp i (by rw[<-hjn];exact ht) h;have e2:=hnow i hi' h;show h2.get i=H.get i;rw[e1,e2]
   ·have e1:h2.get i=none:=rel2.wf i Xd;have e2:H.get i=none:=inv.rel.wf i (by rw[inv.next];exact h);rw[e2];exact e1
  ·exact rel2.on ltU (λi hi=>rel2.wf i (by have hi:(hs ops.size).next<=i:=hi;omega)) λi b _ hb=>hb
 ·-- it turns nothing:what it made comes in between
  obtain⟨tr,htr⟩:=Tr.of (λi=>if (hs j).next<=i/\i<h1.next then h2.get i else H.get i) (hs ops.size).next;have hget:∀i,(Heap.mk (hs ops.size).next (hs ops.size).wmin tr).get i=if i<(hs ops.size).next then(if (hs j).next<=i/\i<h1.next then h2.get i else H.get i) else none:=htr
  have hframe:∀b,b<w.heap.size->w'.heap[b]? =w.heap[b]? :=λb hb=>nxt2.frame b hb λi _ q1 q2=>by
   omega
  have hfresh:∀i,D' i->(hs j).next<=i->i<h1.next->w.heap.size<=ρ'.b i:=λi hi q1 q2=>by
   rcases nxt2.fresh i hi Xd Xd with h|⟨k,_,k2,k3,_⟩
   ·exact h
   ·omega
  have get:∀i b,D' i->(Heap.mk (hs ops.size).next (hs ops.size).wmin tr).get i=some b->((hs j).next<=i/\i<h1.next/\h2.get i=some b)\/(D i/\H.get i=some b/\ρ'.b i=ρ.b i):=λi b hi hb=>by
   rw[hget] at hb;split at hb
   ·split at hb
    ·rename_i h;exact .inl ⟨h.1,h.2,hb⟩
    ·rename_i h
     have hi':D i:=by
      rcases hnew i hi with h'|h'
      ·exact h'
      ·exact absurd h' h
     exact .inr ⟨hi',hb,(ag i 0 ⟨hi',Nat.zero_le _⟩).1⟩
   ·cases hb
  have hsz:=nxt2.size;refine hK w' D' ρ' ⟨(hs ops.size).next,(hs ops.size).wmin,tr⟩ (inv.upd c hj hjf hed (λi hi=>by rw[hjn];exact hnew i hi) rfl rfl ?_ ?_ ?_ nx ag dd in2)
  ·intro i hi ht;rw[hget];have hni:¬((hs j).next<=i/\i<h1.next):=λh=>ht (.inl (by rw[hjn];exact h))
   rw[if_neg hni];by_cases hlt:i<(hs ops.size).next
   ·rw[if_pos hlt]
   ·rw[if_neg hlt,inv.rel.wf i (by rw[inv.next];omega)]
  ·intro i hi ht;rw[hjg,hget]
   have hr:(hs j).next<=i/\i<h1.next:=by
    rcases ht with h|h|⟨h|h,_⟩
    ·rw[hjn] at h;exact h
    all_goals
     rw[hx] at h;rcases hxm with rfl|⟨b,rfl⟩<;>cases h
   rw[if_pos Xd,if_pos hr];exact h2g i hr.1 hr.2
  ·refine⟨ltU,λi hi=>?_,λi b hi hb=>?_,λi b hi hb=>?_,λi k b d hi hk hb hd hob hod hne=>?_,λi b hi hb hob=>?_,λi k b d hi hk hb hd hob hod=>?_,rel2.base⟩
   ·have hi:(hs ops.size).next<=i:=hi;rw[hget,if_neg Xd]
   ·rcases get i b hi hb with ⟨q1,q2,q3⟩|⟨q1,q2,q3⟩
    ·exact rel2.has i b hi q3
    ·obtain⟨ob,g1,g2⟩:=inv.rel.has i b q1 q2;refine⟨ob,?_,KnB.agree ag (m:=0) ⟨q1,Nat.zero_le _⟩ (inv.rel.clo i b q1 q2) g2⟩;rw[q3,hframe _ (Array.getElem?_eq_some_iff.1 g1).1];exact g1
   ·rcases get i b hi hb with ⟨q1,q2,q3⟩|⟨q1,q2,q3⟩
    ·exact rel2.clo i b hi q3
    ·exact(inv.rel.clo i b q1 q2).mono dd
   ·rcases get i b hi hb with ⟨q1,q2,q3⟩|⟨q1,q2,q3⟩<;>rcases get k d hk hd with ⟨p1,p2,p3⟩|⟨p1,p2,p3⟩
    ·exact rel2.inj i k b d hi hk q3 p3 hob hod hne
    ·rw[p3];obtain⟨od,g1,_⟩:=inv.rel.has k d p1 p2;have:=(Array.getElem?_eq_some_iff.1 g1).1;have:=hfresh i hi q1 q2;omega
    ·rw[q3];obtain⟨od,g1,_⟩:=inv.rel.has i b q1 q2;have:=(Array.getElem?_eq_some_iff.1 g1).1;have:=hfresh k hk p1 p2;omega
    ·rw[q3,p3];exact inv.rel.inj i k b d q1 p1 q2 p2 hob hod hne
   ·rcases get i b hi hb with ⟨q1,q2,q3⟩|⟨q1,q2,q3⟩
    ·exact rel2.own i b hi q3 hob
    ·rw[q3];exact inv.rel.own i b q1 q2 hob
   ·rcases get i b hi hb with ⟨q1,q2,q3⟩|⟨q1,q2,q3⟩<;>rcases get k d hk hd with ⟨p1,p2,p3⟩|⟨p1,p2,p3⟩
    ·exact rel2.old i k b d hi hk q3 p3 hob hod
    ·rw[p3];obtain⟨od,g1,_⟩:=inv.rel.has k d p1 p2;have:=(Array.getElem?_eq_some_iff.1 g1).1;have:=hfresh i hi q1 q2;omega
    ·rw[q3];obtain⟨od,g1,_⟩:=inv.rel.has i b q1 q2;have:=(Array.getElem?_eq_some_iff.1 g1).1;have:=hfresh k hk p1 p2;omega
    ·rw[q3,p3];exact inv.rel.old i k b d q1 p1 q2 p2 hob hod
theorem FInv.go(c:FCtx P C S U N ops frs hs vs xs)(inv:FInv C s0 U N X ops frs hs vs xs D0 ρ0 w0 listed a w D ρ H){j:Nat}{o:Oper}(hj:ops[j]? =some o)(hjf:listed[j]? =some false)
  (hed:∀e∈o.after,Region.binds .any e=true->listed[e.on]? =some true) {r:Option Nat} {K:Act->World->Prop} {Q:Exit->Act->World->Prop} (hK:∀u w' D' ρ' H',FInv C s0 U N X ops frs hs vs xs D0 ρ0 w0 (listed.setIfInBounds j true) (a.put o.dst u) w' D' ρ' H'->K (a.put o.dst u) w'):
  (Region.wanted o (yielded ops a.tmps)=true/\o.wpIn (FF r) 0 P a w K Q)\/(Region.wanted o (yielded ops a.tmps)=false/\K (a.put o.dst undef) w):=by
 have hjs:=(Array.getElem?_eq_some_iff.1 hj).1;obtain⟨hst,_⟩:=c.st j o hj;obtain⟨fc,hfc,g⟩:=inv.fr c hj hjf hed;have hev:=cut_ev (C:=C) (fr:=frs j) hfc;rcases hst with ⟨hw,hv,hh,hx⟩|⟨hw,hst⟩
 ·--left out
  right
  rw[cut_want hfc] at hw;refine⟨xuq g hw,?_⟩;have hv':conc ρ (vs j)=undef:=by rw[hv];rfl
  refine hK undef w D ρ H ?_
  have hnt:∀i,¬Tch (xs j) (hs j).next (hs (j+1)).next i:=λi h=>by
   rw[hx,hh] at h;rcases h with h|h|h
   ·omega
   ·cases h
   ·rcases h.1 with h|h<;>cases h
  have:=inv.upd c hj hjf hed (D':=D) (ρ':=ρ) (H':=H) (w':=w) (λi hi=>.inl hi) inv.next inv.wmin (λi _ _=>rfl) (λi _ h=>absurd h (hnt i)) inv.rel inv.nxt (λ_ _ _=>⟨rfl,rfl,rfl,rfl⟩) (λ_ _ h=>h) (by rw[hv];trivial);rwa[hv'] at this
 ·left
  have hw':=hw;rw[cut_want hfc] at hw';refine⟨xuq g hw',?_⟩;have hK':∀w' D' ρ' H',FInv C s0 U N X ops frs hs vs xs D0 ρ0 w0 (listed.setIfInBounds j true) (a.put o.dst (conc ρ' (vs j))) w' D' ρ' H'->K (a.put o.dst (conc ρ' (vs j))) w':=λw' D' ρ' H'=>hK _ w' D' ρ' H'
  rcases qgq hst with ⟨hp,hh,hx⟩|⟨h1,hp,ho,hh,hx⟩
  ·have hnt:∀i,¬Tch (xs j) (hs j).next (hs (j+1)).next i:=λi h=>by
    rw[hx,hh] at h;rcases h with h|h|h
    ·omega
    ·cases h
    ·rcases h.1 with h|h<;>cases h
   rw[x6q o.op hev] at hp;refine inv.here c hj hjf hed g (H1:=H) (by unfold opV;simp only[hp]) rfl (Nat.le_of_eq inv.wmin.symm) (by rw[hh]) (λ_ _ _=>rfl) (λi _ h=>absurd h (hnt i)) hK'
  ·have hnx:(hs (j+1)).next=h1.next:=by rw[hh]
   have hp2:=hp;have ho2:=ho;rw[uJq o hev] at ho;rw[x6q o.op hev] at hp
   have hb:∀{b:Nat} x off B,x∈o.op.operands->evV C (frs j) x=some (.ptr b off) ->(Heap.mk (hs j).next (hs j).next (hs j).tr).get b=some B->D b/\b<(hs j).next:=λ{b} x off B h1 h2 h3=>by
    rw[hev x h1] at h2;have h3:(hs j).get b=some B:=h3;refine⟨(g.ev h2).2.1,?_⟩;rcases Nat.lt_or_ge b (hs j).next with h|h
    ·exact h
    ·rw[c.wf Xd b h] at h3;cases h3
   have hbr:∀{x:Ev},xs j=some x->(∀i,Reads x i) ->∀i b,D i->(Heap.mk (hs j).next (hs j).next (hs j).tr).get i=some b->H.get i=some b:=λhx hr i b hi hb=>by
    have hb:(hs j).get i=some b:=hb
    have hlt:i<(hs j).next:=by
     rcases Nat.lt_or_ge i (hs j).next with h|h
     ·exact h
     ·rw[c.wf Xd i h] at hb;cases hb
    rw[inv.now c hj hjf hed hx (hr i) hi hlt];exact hb
   cases he:evOf C (frs j) (hs j) h1 o.op with
   |load b=>
    obtain⟨⟨e1,e2⟩,⟨B,hB⟩,x,off,hxo,hxb⟩:=ev_load hp2 ho2 he;obtain⟨hDb,hlt⟩:=hb x off B hxo hxb hB;have hxl:xs j=some (.load b):=by rw[hx,he]
    have hnn:(hs (j+1)).next=(hs j).next:=by rw[hnx,e1]
    have hnt:∀i,¬Tch (xs j) (hs j).next (hs (j+1)).next i:=λi h=>by
     rw[hxl,hnn] at h;rcases h with h|h|h
     ·omega
     ·cases h
     ·rcases h.1 with h|h<;>cases h
    have hH:H.get b=(hs j).get b:=inv.now c hj hjf hed hxl rfl hDb hlt;have ho3:=e2 H (by rw[hH];rfl);rw[uJq o hev] at ho3;exact inv.here c hj hjf hed g ho3 rfl (Nat.le_of_eq inv.wmin.symm) hnn (λ_ _ _=>rfl) (λi _ h=>absurd h (hnt i)) hK'
   |store b=>
    obtain⟨⟨B,B',hB,e1,e2⟩,x,off,hxo,hxb⟩:=Jiq hp2 ho2 he;obtain⟨hDb,hlt⟩:=hb x off B hxo hxb hB;have hxl:xs j=some (.store b):=by rw[hx,he]
    have hnn:(hs (j+1)).next=(hs j).next:=by rw[hnx,e1];rfl
    have hH:H.get b=(hs j).get b:=inv.now c hj hjf hed hxl rfl hDb hlt
    have hget:∀i,(hs (j+1)).get i=if i=b then some B' else(hs j).get i:=λi=>by
     rw[hh,e1];exact Heap.get_put _ _ _ _
    have hwb:(hs ops.size).wmin<=b:=by
     have q1:=(c.monoLe (show j+1<=ops.size by omega) (Nat.le_refl _)).wmin;have q2:=(Q1q (hs j).wmin h1.wmin).2;have q3:=(kHq (hs j).next b).2;rw[hh] at q1;have q4:h1.wmin=wmn (hs j).next b:=by rw[e1];rfl
     have q1:(hs ops.size).wmin<=minN (hs j).wmin h1.wmin:=q1;omega
    have ho3:=e2 H (by rw[hH];rfl);rw[uJq o hev] at ho3;refine inv.here c hj hjf hed g ho3 rfl ?_ hnn (λi _ hi=>?_) (λi _ hi=>?_) hK'
    ·show(hs ops.size).wmin<=wmn H.wmin b;unfold wmn;split
     ·exact Nat.le_of_eq inv.wmin.symm
     ·exact hwb
    ·rw[Heap.get_put,if_neg];rintro rfl;exact hi (.inr (.inl hxl))
    ·have:i=b:=by
      rw[hxl,hnn] at hi;rcases hi with h|h|h
      ·omega
      ·cases h;rfl
      ·rcases h.1 with h|h<;>cases h
     rw[Heap.get_put,if_pos this,hget,if_pos this]
   |gen=>
    have hxl:xs j=some .gen:=by rw[hx,he]
    exact inv.there c hj hjf hed g ho hh rfl (c.wf Xd) (hbr hxl λ_=>trivial) rfl rfl (λ_ _ _=>rfl) hxl (.inr ⟨.inl rfl,ev_gen he⟩) hK'
   |mk b=>
    have hxl:xs j=some (.mk b):=by rw[hx,he]
    obtain⟨_,B,n,k,e0,e1,e2⟩:=ev_mk hp2 ho2 he;have e3:=e2 ⟨(hs j).next,(hs j).next,.nil⟩ rfl;rw[uJq o hev] at e3;refine inv.there c hj hjf hed g e3 hh rfl (λi _=>Tr.get_nil ..) (λi b _ hb=>by rw[show Heap.get ⟨(hs j).next,(hs j).next,.nil⟩ i=none from Tr.get_nil ..] at hb;cases hb) (by rw[e1];rfl) (by rw[e1];rfl) (λi q1 q2=>?_) hxl (.inr ⟨.inr ⟨b,rfl⟩,by rw[e1];exact Nat.le_refl _⟩) hK';rw[e1] at q2⊢;have q2:i<(hs j).next+1:=q2;obtain rfl:i=(hs j).next:=by omega
    rw[Heap.get_push,Heap.get_push,if_pos rfl,if_pos rfl]
   |dirty=>
    have hxl:xs j=some .dirty:=by rw[hx,he]
    exact inv.there c hj hjf hed g ho hh rfl (c.wf Xd) (hbr hxl λ_=>trivial) rfl rfl (λ_ _ _=>rfl) hxl (.inl ⟨rfl,.inl rfl,λi hi hlt=>inv.now c hj hjf hed hxl trivial hi hlt,λi ht hi=>absurd (.inr (.inr ⟨.inl hxl,hi⟩)) ht⟩) hK'
   |upd b=>
    have hxl:xs j=some (.upd b):=by rw[hx,he]
    exact inv.there c hj hjf hed g ho hh rfl (c.wf Xd) (hbr hxl λ_=>trivial) rfl rfl (λ_ _ _=>rfl) hxl (.inl ⟨rfl,.inr ⟨b,rfl⟩,λi hi hlt=>inv.now c hj hjf hed hxl trivial hi hlt,λi ht hi=>by
     by_cases hib:i=b
     ·exact absurd (.inr (.inr ⟨.inr (hxl.trans (by rw[hib])),hi⟩)) ht
     ·exact ev_upd hp2 ho2 he hib hi⟩) hK'
theorem FInv.all(c:FCtx P C S U N ops frs hs vs xs){r:Option Nat}{Q:Exit->Act->World->Prop}
  (hend:∀listed a w D ρ H,FInv C s0 U N X ops frs hs vs xs D0 ρ0 w0 listed a w D ρ H->(∀k:Nat,k<ops.size->listed[k]? =some true) ->Q .normal a w):
  ∀(n:Nat) (listed:Array Bool) (a:Act) (w:World) (D:Nat->Prop) (ρ:Env) (H:Heap),n+listed.toList.count true=ops.size->FInv C s0 U N X ops frs hs vs xs D0 ρ0 w0 listed a w D ρ H->wpAnyIn (FF r) 0 P .any ops Q n listed a w:=by
 intro n;induction n with
 |zero=>
  intro listed a w D ρ H hn inv
  have hall:∀k,k<ops.size->listed[k]? =some true:=by
   have h1:listed.toList.count true=listed.toList.length:=by rw[Array.length_toList,inv.size];omega
   rw[List.count_eq_length] at h1;intro k hk;have hk':k<listed.size:=by rw[inv.size];exact hk
   rw[Array.getElem?_eq_getElem hk'];have:=h1 listed[k] Xm;rw[<-this]
  refine seq_any 0 ops.size listed a w Xd inv.size (λk hk=>getD_t.2 (hall k hk)) (λk h1 h2=>by omega) (λi o hi ho=>by
   have:=(Array.getElem?_eq_some_iff.1 ho).1;omega) (λi o e hi ho=>by have:=(Array.getElem?_eq_some_iff.1 ho).1;omega) ?_
  rw[List.drop_of_length_le Xm];unfold wpListIn;exact hend listed a w D ρ H inv hall
 |succ n ih=>
  intro listed a w D ρ H hn inv
  --one is left
  have hex:∃k,k<ops.size/\listed[k]? =some false:=by
   apply Classical.byContradiction;intro hno
   have h1:listed.toList.count true=listed.toList.length:=by
    rw[List.count_eq_length];intro b hb;obtain⟨k,hk,rfl⟩:=List.getElem_of_mem hb;have hk':k<listed.size:=by simpa using hk
    cases hv:listed.toList[k] with
    |true=>rfl
    |false=>
     refine absurd ⟨k,by rw[<-inv.size];exact hk',?_⟩ hno;rw[Array.getElem?_eq_getElem hk'];have:listed[k]=listed.toList[k]:=by simp
     rw[this,hv]
   rw[Array.length_toList,inv.size] at h1;omega
  obtain⟨kx,hkx⟩:=hex;obtain⟨k0,⟨hk0,hk0f⟩,_,hmin⟩:=exists_least (λk=>k<ops.size/\listed[k]? =some false) kx hkx
  have hready0:k0∈Region.ready .any ops listed:=by
   have ho:ops[k0]? =some ops[k0]:=Array.getElem?_eq_getElem hk0;refine mem_ready.2 ⟨getD_f.2 hk0f,_,ho,λe he hb=>getD_t.2 ?_⟩;have hlt:=(uTq c.hB ho).2.2.1 e he hb;have hk':e.on<listed.size:=by rw[inv.size];omega
   rw[Array.getElem?_eq_getElem hk'];congr 1
   cases hv:listed[e.on] with
   |true=>rfl
   |false=>have:=hmin e.on ⟨by omega,by rw[Array.getElem?_eq_getElem hk',hv]⟩;omega
  refine⟨λh=>(by rw[h] at hready0;cases hready0),λj hj=>?_⟩;obtain⟨hjf,o,hoj,hedges⟩:=mem_ready.1 hj;have hjf:=getD_f.1 hjf;have hjs:=(Array.getElem?_eq_some_iff.1 hoj).1;have hjls:j<listed.size:=by rw[inv.size];exact hjs
  have hcnt:n+(listed.setIfInBounds j true).toList.count true=ops.size:=by
   have hjl:listed.toList[j]? =some false:=by simpa using hjf
   have hc:(listed.setIfInBounds j true).toList.count true=listed.toList.count true+1:=by
    rw[Array.toList_setIfInBounds,List.count_set (by simpa using hjls)]
    have:listed.toList[j]'(by simpa using hjls)=false:=by
     have:=hjl;rw[List.getElem?_eq_getElem (by simpa using hjls)] at this;simpa using this
    rw[this];simp
   omega
  have hK:∀u w' D' ρ' H',FInv C s0 U N X ops frs hs vs xs D0 ρ0 w0 (listed.setIfInBounds j true) (a.put o.dst u) w' D' ρ' H'->wpAnyIn (FF r) 0 P .any ops Q n (listed.setIfInBounds j true) (a.put o.dst u) w':=λu w' D' ρ' H' h=>ih _ _ _ _ _ _ hcnt h
  unfold wpOpIn;simp only[hoj];rcases inv.go c hoj hjf (λe he hb=>getD_t.1 (hedges e he hb)) (r:=r) (Q:=Q) (K:=λa w=>wpAnyIn (FF r) 0 P .any ops Q n (listed.setIfInBounds j true) a w) hK with ⟨hw,h⟩|⟨hw,h⟩
  ·rw[if_pos hw];exact h
  ·rw[if_neg (by rw[hw];simp)];exact⟨λf _=>YOq r f,h⟩
theorem region_sound(hmx:P.follows .mixedOrders=true)(hC:CfgOK P C)(hS:SelfOK P C S):YBq P C S:=by
 intro N ops id fr h fr' h' hB he;obtain⟨frs,hs,vs,xs,t⟩:=Y9q _ _ _ _ _ _ _ he;have hlen:ops.toList.length=ops.size:=by simp
 have hst:∀(j:Nat) (o:Oper),ops[j]? =some o->StepAt S C ops o (frs j) (hs j) (vs j) (hs (j+1)) (xs j)/\frs (j+1)=putT (frs j) o.dst (vs j):=λj o hj=>t.st j o (by simpa using hj)
 have hn:hs ops.size=h':=by rw[<-hlen];exact t.hn
 have hf:frs ops.size=fr':=by rw[<-hlen];exact t.fn
 have hcl:∀(j k:Nat) (x y:Ev),j<ops.size->k<j->xs j=some x->xs k=some y->y.clash x=true->qiq ops ops.size j k=true:=λj k x y hj hk hx hy hc=>by
  have:=(t.cl j ops[j] x (by simp[hj]) hx).2 k y hk hy hc;simpa using this
 have hm:Mono h h':=by
  have:∀d,d<=ops.size->Mono (hs 0) (hs d):=by
   intro d;induction d with
   |zero=>intro _;exact Mono.refl _
   |succ d ih=>intro hd;exact(ih Xd).trans ((hst d ops[d] (Array.getElem?_eq_getElem Xd)).1.mono hS)
  have:=this ops.size (Nat.le_refl _);rwa[t.h0,hn] at this
 refine⟨hm,λs0 U r D ρ a w X Q hU g rel hN hX k=>?_⟩;have c:FCtx P C S U N ops frs hs vs xs:=⟨hC,hS,hB,hst,hcl,by rw[t.h0];exact rel.wf,by rw[hn];exact hU⟩;refine wpIn_region_any hmx ?_;have hw0:h'.wmin<=h.wmin:=hm.wmin;refine FInv.all (s0:=s0) (X:=X) (D0:=D) (ρ0:=ρ) (w0:=w) c (λlisted a' w' D' ρ' H inv hall=>?_) _ _ a _ D ρ {h with next:=h'.next,wmin:=h'.wmin} (by simp[List.count_replicate]) ?_
 ·have hfr:FrE C D' ρ' fr' a':=by
   have key:∀t v,fr'.get t=some v->a'.tmps[t]? =some (conc ρ' v)/\InD (DD D' ρ') v:=λt' v hv=>by
    rw[<-hf] at hv;rcases c.frs_get t' ops.size (Nat.le_refl _) with ⟨k,p,h1,h2,h3,h4⟩|⟨h1,h2⟩
    ·rw[h4] at hv;cases hv
     exact inv.got k p t' h2 (hall k h1) h3
    ·rw[h2] at hv;exact inv.base t' v (λk p hp hpd=>absurd hpd (h1 k p (Array.getElem?_eq_some_iff.1 hp).1 hp)) hv
   exact⟨⟨λt v hv=>(key t v hv).1,λt v hv=>(key t v hv).2,inv.gl⟩⟩
  have hget:∀i,D' i->h'.get i=H.get i:=λi hi=>by
   rw[<-hn];exact(inv.cont i hi ops.size (Nat.le_refl _) (λk hk _=>hall k hk) λk h1 h2=>by omega).symm
  have hnx:H.next=h'.next:=by rw[inv.next,hn]
  have hrel:Rel s0 U D' ρ' h' w':=inv.rel.on (λi hi=>by rw[<-hnx];exact inv.rel.lt i hi) (hm.wf rel.wf) λi b hi hb=>by rw[<-hget i hi];exact hb
  have hnxt:=inv.nxt;rw[t.h0,hn] at hnxt;exact k D' ρ' a' w' hfr hrel hnxt inv.asz inv.adf
 ·have hlt:∀i,D i->i<h'.next\/U<=i:=λi hi=>by
   have:=rel.lt i hi;have:=hm.nxt;omega
  refine⟨by simp,hN,hX,?_,by rw[hn],by rw[hn],λi hi=>.inl hi,by rw[t.h0];exact rel.lt,?_,?_,?_,?_,?_,g.gl⟩
  ·intro k o e _ hl;simp[Array.getElem?_replicate] at hl
  ·intro i hi p hp h1 _
   have:=c.keep (j:=0) (i:=i) p Xd λk _ hk ht=>by
    have:=h1 k Xd ht;simp[Array.getElem?_replicate] at this
   rw[Nat.zero_add] at this;rw[this,t.h0];rfl
  ·exact(rel.drawn _).on hlt (λi hi=>rel.wf i (by have hi:h'.next<=i:=hi;have:=hm.nxt;omega)) λi b _ hb=>hb
  ·rw[t.h0,hn];refine⟨λ_ h=>h,λ_ h=>.inl h,λ_ _=>⟨rfl,rfl,rfl,rfl⟩,λ_ _ _=>rfl,λi hi q1 q2=>?_,Nat.le_refl _,hw0,hm.nxt,rfl,rfl,rfl⟩;have:=rel.lt i hi;omega
  ·intro k o t' _ hl;simp[Array.getElem?_replicate] at hl
  ·intro t' v _ hv;rw[t.f0] at hv;exact⟨g.at_ t' v hv,g.in_ t' v hv⟩
end
noncomputable def vEq(P:Program)(C:Cfg):Prop:=∀f fn,C.fn f=some fn->P.funcs[f]? =some fn/\(∀args w,(callFunc f args).run P w= .ok (.enter f args) w)/\∀c,fn.body=some c->ykq fn.ntmps c=true
theorem u9q:∀(vs:List V) (i:Nat) (t:Tr V) (k:Nat),(k7q i vs t).get k=if i<=k/\k<i+vs.length then vs[k-i]? else t.get k
 |[],i,t,k=>by simp only[k7q,List.length_nil];rw[if_neg Xd]
 |v::vs,i,t,k=>by
  simp only[k7q];rw[u9q vs (i+1) _ k,Tr.get_set];simp only[List.length_cons];by_cases h:k=i
  ·subst h;rw[if_neg Xd,if_pos rfl,if_pos Xd];simp
  ·by_cases h2:i+1<=k/\k<i+1+vs.length
   ·rw[if_pos h2,if_pos Xd,show k-i=(k-(i+1))+1 by omega];simp
   ·rw[if_neg h2,if_neg h,if_neg Xd]
theorem xlq{N:Nat}:∀(c:Code) (l:Nat) (rest:Code),findLabel c l=some rest->ykq N c=true->ykq N rest=true
 |.seq a b,l,rest,h,hok=>by
  simp only[ykq,Bool.and_eq_true] at hok;simp only[findLabel] at h;split at h
  ·rename_i r hr;cases h;simp only[ykq,Bool.and_eq_true];exact⟨xlq a l r hr hok.1,hok.2⟩
  ·exact xlq b l rest h hok.2
 |.label l',l,rest,h,_=>by
  simp only[findLabel] at h;split at h
  ·cases h;rfl
  ·cases h
 |.skip,_,_,h,_=>by simp[findLabel] at h
 |.region _ _ _,_,_,h,_=>by simp[findLabel] at h
 |.cond _ _ _,_,_,h,_=>by simp[findLabel] at h
 |.block _ _,_,_,h,_=>by simp[findLabel] at h
 |.loop _,_,_,h,_=>by simp[findLabel] at h
 |.rangeFunc _ _ _ _,_,_,h,_=>by simp[findLabel] at h
 |.exit _,_,_,h,_=>by simp[findLabel] at h
 |.scope _,_,_,h,_=>by simp[findLabel] at h
 |.goto _,_,_,h,_=>by simp[findLabel] at h
 |.ret,_,_,h,_=>by simp[findLabel] at h
 |.refuse _,_,_,h,_=>by simp[findLabel] at h
theorem YVq{ρ:Env}{D:Nat->Nat->Prop}:∀(ps:List Tmp) (vs:List V) (fr:Tr V) (tmps:Array Value),(∀t v,fr.get t=some v->tmps[t]? =some (conc ρ v)/\InD D v) ->InDL D vs->(∀p∈ps,p<tmps.size) ->
  (∀t v,(YHq fr ps vs).get t=some v->((ps.zip (zJq ρ vs)).foldl (λt (p:Tmp×Value)=>t.setIfInBounds p.1 p.2) tmps)[t]? =some (conc ρ v)/\InD D v)/\
  ((ps.zip (zJq ρ vs)).foldl (λt (p:Tmp×Value)=>t.setIfInBounds p.1 p.2) tmps).size=tmps.size
 |[],_,fr,tmps,h,_,_=>⟨by simpa[YHq] using h,by simp⟩
 |p::ps,[],fr,tmps,h,_,_=>⟨by simpa[YHq,zJq] using h,by simp[zJq]⟩
 |p::ps,v::vs,fr,tmps,h,hv,hp=>by
  have ih:=YVq (ρ:=ρ) (D:=D) ps vs (fr.set p (some v)) (tmps.setIfInBounds p (conc ρ v)) (λt x hx=>by
   rw[Tr.get_set] at hx;rw[Array.getElem?_setIfInBounds];by_cases e:t=p
   ·subst e;rw[if_pos rfl] at hx;cases hx
    exact⟨by simp[hp t Xm],hv.1⟩
   ·rw[if_neg e] at hx;rw[if_neg (λe'=>e e'.symm)];exact h t x hx) hv.2 (λq hq=>by simp[hp q (by simp[hq])])
  simp only[YHq,zJq,List.zip_cons_cons,List.foldl_cons];exact⟨ih.1,by rw[ih.2];simp⟩
structure SelfM(S:Self):Prop where
 fn:∀f vs h v h',S.fn f vs h=some (v,h') ->Mono h h'
 yield:∀l vs h v h',S.yield l vs h=some (v,h') ->Mono h h'
structure FlowM(F:Flow):Prop where
 loop:∀c st x st',F.loop c st=some (x,st') ->Mono st.h st'.h
 scope:∀c l st x st',F.scope c l st=some (x,st') ->Mono st.h st'.h
section
variable {C:Cfg} {S:Self} {F:Flow}
theorem opM(hS:SelfM S){o:Oper}{fr:Tr V}{h h':Heap}{v:V}(ho:opV S C fr h o=some (v,h')):Mono h h':=by
 unfold opV at ho;split at ho
 ·cases ho;exact Mono.refl _
 ·split at ho
  ·rename_i r hr;cases ho;exact mono_opH hr
  ·unfold qyq at ho;split at ho
   ·split at ho
    ·split at ho
     ·split at ho
      ·cases ho;exact Mono.refl _
      ·cases ho
     ·exact hS.fn _ _ _ _ _ ho
    ·exact hS.yield _ _ _ _ _ ho
    ·cases ho
   ·split at ho
    ·split at ho
     ·split at ho
      ·cases ho
      ·exact hS.fn _ _ _ _ _ ho
     ·cases ho
    ·cases ho
   ·cases ho
theorem opsM(hS:SelfM S){ops:Array Oper}:∀(l:List Oper) (fr:Tr V) (h:Heap) (fr':Tr V) (h':Heap),qjq S C ops l fr h=some (fr',h') ->Mono h h'
 |[],fr,h,fr',h',he=>by
  simp only[qjq,Option.some.injEq,Prod.mk.injEq] at he;rw[<-he.2];exact Mono.refl _
 |o::l,fr,h,fr',h',he=>by
  simp only[qjq] at he;split at he
  ·split at he
   ·rename_i v h1 ho;exact(opM hS ho).trans (opsM hS l _ _ _ _ he)
   ·cases he
  ·exact opsM hS l _ _ _ _ he
  ·cases he
theorem stepM(hS:SelfM S){o:Oper}{fr:Tr V}{h h':Heap}{v:V}{x:Option Ev}(hs:vZq S C fr h o=some (v,h',x)):Mono h h':=by
 rcases qgq hs with ⟨_,rfl,_⟩|⟨h1,_,ho,rfl,_⟩
 ·exact Mono.refl _
 ·have:=Q1q h.wmin h1.wmin;exact mono_wmin (opM hS ho) this.1 this.2
theorem flowM(hS:SelfM S){ops:Array Oper}:∀(l:List Oper) (i:Nat) (es:List (Nat×Ev)) (fr:Tr V) (h:Heap) (fr':Tr V) (h':Heap),ymq S C ops l i es fr h=some (fr',h') ->Mono h h'
 |[],_,_,fr,h,fr',h',he=>by
  simp only[ymq,Option.some.injEq,Prod.mk.injEq] at he;rw[<-he.2];exact Mono.refl _
 |o::l,i,es,fr,h,fr',h',he=>by
  simp only[ymq] at he;split at he
  ·split at he
   ·rename_i v h1 x hst;split at he
    ·exact(stepM hS hst).trans (flowM hS l _ _ _ _ _ _ he)
    ·cases he
   ·rename_i v h1 hst;exact(stepM hS hst).trans (flowM hS l _ _ _ _ _ _ he)
   ·cases he
  ·exact flowM hS l _ _ _ _ _ _ he
  ·cases he
theorem YLq(hS:SelfM S)(hF:FlowM F):∀(c:Code) (st:St) (x:Exit) (st':St),zbq S F C c st=some (x,st') ->Mono st.h st'.h
 |.skip,st,x,st',he=>by simp only[zbq,Option.some.injEq,Prod.mk.injEq] at he;rw[<-he.2];exact Mono.refl _
 |.label _,st,x,st',he=>by simp only[zbq,Option.some.injEq,Prod.mk.injEq] at he;rw[<-he.2];exact Mono.refl _
 |.exit _,st,x,st',he=>by simp only[zbq,Option.some.injEq,Prod.mk.injEq] at he;rw[<-he.2];exact Mono.refl _
 |.goto _,st,x,st',he=>by simp only[zbq,Option.some.injEq,Prod.mk.injEq] at he;rw[<-he.2];exact Mono.refl _
 |.ret,st,x,st',he=>by simp only[zbq,Option.some.injEq,Prod.mk.injEq] at he;rw[<-he.2];exact Mono.refl _
 |.refuse _,st,x,st',he=>by simp[zbq] at he
 |.loop c,st,x,st',he=>hF.loop c st x st' he
 |.seq c d,st,x,st',he=>by
  simp only[zbq] at he;split at he
  ·rename_i st1 h1;exact(YLq hS hF c _ _ _ h1).trans (YLq hS hF d _ _ _ he)
  ·exact YLq hS hF c _ _ _ he
 |.cond _ c d,st,x,st',he=>by
  simp only[zbq] at he;split at he
  ·exact YLq hS hF c _ _ _ he
  ·exact YLq hS hF d _ _ _ he
  ·cases he
 |.block _ c,st,x,st',he=>by
  simp only[zbq] at he;split at he
  ·rename_i id' st1 h1;have:=YLq hS hF c _ _ _ h1;split at he<;>(cases he;exact this)
  ·exact YLq hS hF c _ _ _ he
 |.scope c,st,x,st',he=>by
  simp only[zbq] at he;split at he
  ·rename_i l st1 h1;exact(YLq hS hF c _ _ _ h1).trans (hF.scope _ _ _ _ _ he)
  ·exact YLq hS hF c _ _ _ he
 |.region _ ops dr,st,x,st',he=>by
  cases dr<;>simp only[zbq] at he<;>split at he
  ·rename_i he1;cases he;exact opsM hS _ _ _ _ _ he1
  ·cases he
  ·rename_i he1;cases he;exact flowM hS _ _ _ _ _ _ _ he1
  ·cases he
 |.rangeFunc _ _ _ _,st,x,st',he=>by
  simp only[zbq] at he;split at he
  ·split at he
   ·rename_i u h3 hcall;exact((yhq _ _).trans (yhq _ _)).trans ((hS.fn _ _ _ _ _ hcall).trans (uZq he))
   ·cases he
  ·cases he
end
theorem jdq:∀(ds:List Nat) (h h1:Heap),qDq ds h=some h1->Mono h h1
 |[],h,h1,e=>by simp only[qDq,Option.some.injEq] at e;subst e;exact Mono.refl _
 |d::ds,h,h1,e=>by
  simp only[qDq] at e;split at e
  ·rename_i hg;exact(yoq hg).trans (jdq ds _ _ e)
  ·cases e
theorem uWq{C:Cfg}{fn:Func}{st:St}{v:V}{h':Heap}(hf:finV C fn st=some (v,h')):Mono st.h h':=by
 unfold finV at hf;split at hf
 ·cases hf
 ·rename_i h1 ht;have:=jdq _ _ _ ht;split at hf<;>first|(cases hf;done)|(cases hf;exact this)
theorem runM(C:Cfg)(hK:∀f k,C.known f=some k->∀vs h v h',k vs h=some (v,h') ->Mono h h'):∀n,SelfM ⟨yxq C n,zEq C n⟩/\FlowM ⟨zYq C n,zKq C n⟩
 |0=>⟨⟨λf vs h v h' he=>by simp[yxq] at he,λl vs h v h' he=>by simp[zEq] at he⟩,⟨λc st x st' he=>by simp[zYq] at he,λc l st x st' he=>by simp[zKq] at he⟩⟩
 | n + 1=>by
  obtain⟨hS,hF⟩:=runM C hK n;have cm:=YLq (C:=C) hS hF;refine⟨⟨λf vs h v h' he=>?_,λl vs h v h' he=>?_⟩,⟨λc st x st' he=>?_,λc l st x st' he=>?_⟩⟩
  ·simp only[yxq] at he;split at he
   ·rename_i k hk;exact hK f k hk _ _ _ _ he
   ·split at he
    ·cases he
    ·split at he
     ·split at he
      ·rename_i st h1;exact(cm _ _ _ _ h1).trans (uWq he)
      ·rename_i st h1;exact(cm _ _ _ _ h1).trans (uWq he)
      ·cases he
     ·cases he
  ·simp only[zEq] at he;split at he
   ·split at he
    ·cases he
    ·split at he
     ·rename_i st1 h1;split at he
      ·rename_i hget1;split at he
       ·rename_i x st2 h2;split at he
        ·rename_i hget2;have m:=((cm _ _ _ _ h1).trans (yoq hget1)).trans (cm _ _ _ _ h2);split at he<;>first|(cases he;done)|(cases he;exact m.trans (yoq hget2))
        ·cases he
       ·cases he
      ·cases he
     ·cases he
   ·cases he
  ·simp only[zYq] at he;split at he
   ·rename_i st1 h1;exact(cm _ _ _ _ h1).trans (hF.loop _ _ _ _ he)
   ·exact cm _ _ _ _ he
  ·simp only[zKq] at he;split at he
   ·split at he
    ·rename_i l' st1 h1;exact(cm _ _ _ _ h1).trans (hF.scope _ _ _ _ _ he)
    ·exact cm _ _ _ _ he
   ·cases he
section
variable {P:Program} {C:Cfg} {s0:World} {U N:Nat} {D:Nat->Prop} {ρ:Env} {h h':Heap} {w:World} {a:Act}
theorem x9q{fn:Func}{tmps:Array Value}{R:Ending->World->Prop}:∀(ds:List Nat) (h h1:Heap) (w:World),qDq ds h=some h1->h1.next<=U->Rel s0 U D ρ h w->(∀d∈ds,D d) ->
  (∀w',Rel s0 U D ρ h1 w'->Nxt D ρ h w D ρ h1 w'->LeavesInM Fence.wide 0 P fn tmps R [] .returning w') ->LeavesInM Fence.wide 0 P fn tmps R (ds.map (mkD ρ)) .returning w
 |[],h,h1,w,e,_,rel,_,k=>by
  simp only[qDq,Option.some.injEq] at e;subst e;exact k w rel (Nxt.refl _ _ _ _)
 |d::ds,h,h1,w,e,hU,rel,hd,k=>by
  simp only[qDq] at e;split at e
  ·rename_i hg;have hD:=hd d Xm;obtain⟨o,q1,q2⟩:=rel.has d _ hD hg;have q2:o= .deferred (some []):=q2;subst q2;refine⟨by simp,.inl ⟨ρ.b d,_,rfl,run_takeDeferred q1,?_⟩⟩;have ht:=y1q (w:=w) (b:=ρ.b d) (.deferred none) (Array.getElem?_eq_some_iff.1 q1).1;obtain⟨r2,n2⟩:=rel.put (b':=.dfr true) hD hg rfl rfl ht rfl trivial;have hU2:=Nat.le_trans (jdq ds _ _ e).nxt hU;exact x9q ds _ h1 _ e hU r2 (λx hx=>hd x (by simp[hx])) λw' r3 n3=>k w' r3 (n2.trans rel.lt hU n3)
  ·cases e
theorem resV_spec(hC:CfgOK P C){fr:Tr V}(g:FrE C D ρ fr a)(rel:Rel s0 U D ρ h w){r:ResultVar}{v:V}(hr:resV C fr h r=some v):vJq P a.tmps w r (conc ρ v)/\InD (DD D ρ) v:=by
 cases r with
 |tmp t=>
  have:=g.at_ t v hr;exact⟨by simp[vJq,Array.getD_eq_getD_getElem?,this],g.in_ t v hr⟩
 |cell p T=>
  simp only[resV] at hr;split at hr
  ·rename_i b off i hp hT;split at hr
   ·rename_i u hu;have hb:=g.in_ p _ hp;have:=g.at_ p _ hp;obtain⟨l1,l2⟩:=Y3q hC rel hT hb.1 hu hr;exact⟨⟨_,by simp[Array.getD_eq_getD_getElem?,this,conc],l1⟩,l2⟩
   ·cases hr
  ·cases hr
theorem xcq(hC:CfgOK P C){fr:Tr V}(g:FrE C D ρ fr a)(rel:Rel s0 U D ρ h w):∀(l:List ResultVar) (vs:List V),resL C fr h l=some vs->All2 (vJq P a.tmps w) l (zJq ρ vs)/\InDL (DD D ρ) vs
 |[],vs,e=>by
  simp only[resL,Option.some.injEq] at e;subst e;exact⟨trivial,trivial⟩
 |r::l,vs,e=>by
  simp only[resL] at e;split at e
  ·rename_i v vs' h1 h2;cases e;obtain⟨q1,q2⟩:=resV_spec hC g rel h1;obtain⟨q3,q4⟩:=xcq hC g rel l vs' h2;exact⟨⟨q1,q3⟩,q2,q4⟩
  ·cases e
theorem y0q(ρ:Env)(l:List V):(zJq ρ l).length=l.length:=by rw[kiq];simp
theorem fin_sound(hC:CfgOK P C){fn:Func}{st:St}{v:V}(hf:finV C fn st=some (v,h'))(hU:h'.next<=U){r:Option Nat}(g:StR C s0 U N r [] D ρ st a w){R:Ending->World->Prop}(k:∀w',Rel s0 U D ρ h' w'->Nxt D ρ st.h w D ρ h' w'->InD (DD D ρ) v->R (.returned (conc ρ v)) w'):
  LeavesInM Fence.wide 0 P fn a.tmps R a.defers .returning w:=by
 unfold finV at hf;split at hf
 ·cases hf
 ·rename_i h1 ht;rw[g.defs,List.append_nil];split at hf
  ·rename_i u hr;cases hf;refine x9q _ _ _ _ ht hU g.rel g.din λw' r' n'=>?_
   have g':FrE C D ρ st.fr a:=g.fr;obtain⟨q1,q2⟩:=xcq hC g' r' _ _ hr
   have hrl:∃rv,fn.results.toList=[rv]:=by
    cases hl:fn.results.toList with
    |nil=>rw[hl] at q1;exact q1.elim
    |cons rv l=>cases l with
     |nil=>exact⟨rv,rfl⟩
     |cons _ _=>rw[hl] at q1;exact q1.2.elim
   obtain⟨rv,hrv⟩:=hrl;rw[hrv] at q1;exact⟨_,results1 (by apply Array.toList_inj.1;simpa using hrv) q1.1,k w' r' n' q2.1⟩
  ·rename_i us hne hr;cases hf;refine x9q _ _ _ _ ht hU g.rel g.din λw' r' n'=>?_
   obtain⟨q1,q2⟩:=xcq hC g.fr r' _ _ hr
   refine⟨_,resultsN (rvs:=fn.results.toList) Xm (λe=>?_) q1,by
    have:=k w' r' n' q2;simpa[conc] using this⟩
   rw[y0q] at e;cases us with
   |nil=>cases e
   |cons u us=>cases us with
    |nil=>exact hne u rfl
    |cons _ _=>cases e
  ·cases hf
end
noncomputable def jyq(P:Program)(C:Cfg)(f:FuncId)(k:List V->Heap->Option (V×Heap)):Prop:=∀vs h v h',k vs h=some (v,h') ->
 Mono h h'/\(∀args w,(callFunc f args).run P w= .ok (.enter f args) w)/\∀s0 U D ρ w,h'.next<=U->GlobOK C (DD D ρ) ρ->InDL (DD D ρ) vs->Rel s0 U D ρ h w->Calls P f (zJq ρ vs).toArray w (kFq s0 U D ρ h w v h')
noncomputable def q6q(P:Program)(C:Cfg):Prop:=∀f k,C.known f=some k->jyq P C f k
structure RunOK(P:Program)(C:Cfg)(n:Nat):Prop where
 self:SelfOK P C ⟨yxq C n,zEq C n⟩
 loop:∀N c,ykq N c=true->jpq P C N (zYq C n c) (λr Q a w=>Code.roundsIn (FF r) 0 P c Q n a w)
 scope:∀N c l,ykq N c=true->jpq P C N (zKq C n c l) (λr Q a w=>vjq (FF r) 0 P c Q n l a w)
section
variable {P:Program} {C:Cfg}
theorem jbq(hmx:P.follows .mixedOrders=true)(hC:CfgOK P C){n:Nat}(ih:RunOK P C n){N:Nat}{c:Code}(hok:ykq N c=true):
  jpq P C N (zbq ⟨yxq C n,zEq C n⟩ ⟨zYq C n,zKq C n⟩ C c) (λr Q a w=>c.wpIn (FF r) 0 P Q a w):=
 q3q hC ih.self ⟨n,ih.loop,ih.scope⟩ (region_sound hmx hC ih.self) c hok
theorem run_loop(hmx:P.follows .mixedOrders=true)(hC:CfgOK P C){n:Nat}(ih:RunOK P C n)(N:Nat)(c:Code)(hok:ykq N c=true):jpq P C N (zYq C (n+1) c) (λr Q a w=>Code.roundsIn (FF r) 0 P c Q (n+1) a w):=by
 intro st x st' he;have cs:=jbq hmx hC ih hok;simp only[zYq] at he;split at he
 ·rename_i st1 h1;obtain⟨m1,k1⟩:=cs _ _ _ h1;obtain⟨m2,k2⟩:=ih.loop N c hok _ _ _ he;refine⟨m1.trans m2,λs0 U r tl D ρ a w Q hU g k=>k1 s0 U r tl D ρ a w _ (Nat.le_trans m2.nxt hU) g λD1 ρ1 a1 w1 g1 n1=>?_⟩;exact k2 s0 U r tl D1 ρ1 a1 w1 Q hU g1 λD2 ρ2 a2 w2 g2 n2=>k D2 ρ2 a2 w2 g2 (n1.trans g.rel.lt hU n2)
 ·rename_i hne;obtain⟨m1,k1⟩:=cs _ _ _ he;refine⟨m1,λs0 U r tl D ρ a w Q hU g k=>k1 s0 U r tl D ρ a w _ hU g λD1 ρ1 a1 w1 g1 n1=>?_⟩;have hq:=k D1 ρ1 a1 w1 g1 n1;cases x with
  |normal=>exact absurd he (hne st')
  |_=>exact hq
theorem run_scope(hmx:P.follows .mixedOrders=true)(hC:CfgOK P C){n:Nat}(ih:RunOK P C n)(N:Nat)(c:Code)(l:Nat)(hok:ykq N c=true):jpq P C N (zKq C (n+1) c l) (λr Q a w=>vjq (FF r) 0 P c Q (n+1) l a w):=by
 intro st x st' he;simp only[zKq] at he;split at he
 ·rename_i rest hrest;have cs:=jbq hmx hC ih (xlq c l rest hrest hok);split at he
  ·rename_i l' st1 h1;obtain⟨m1,k1⟩:=cs _ _ _ h1;obtain⟨m2,k2⟩:=ih.scope N c l' hok _ _ _ he;refine⟨m1.trans m2,λs0 U r tl D ρ a w Q hU g k=>⟨rest,hrest,k1 s0 U r tl D ρ a w _ (Nat.le_trans m2.nxt hU) g λD1 ρ1 a1 w1 g1 n1=>?_⟩⟩;exact k2 s0 U r tl D1 ρ1 a1 w1 Q hU g1 λD2 ρ2 a2 w2 g2 n2=>k D2 ρ2 a2 w2 g2 (n1.trans g.rel.lt hU n2)
  ·rename_i hne;obtain⟨m1,k1⟩:=cs _ _ _ he;refine⟨m1,λs0 U r tl D ρ a w Q hU g k=>⟨rest,hrest,k1 s0 U r tl D ρ a w _ hU g λD1 ρ1 a1 w1 g1 n1=>?_⟩⟩;have hq:=k D1 ρ1 a1 w1 g1 n1;cases x with
   |goto l=>exact absurd he (hne l st')
   |_=>exact hq
 ·cases he
theorem run_fn(hmx:P.follows .mixedOrders=true)(hC:CfgOK P C)(hF:vEq P C)(hK:q6q P C){n:Nat}(ih:RunOK P C n){f:FuncId}{vs:List V}{h:Heap}{v:V}{h':Heap}(hr:yxq C (n+1) f vs h=some (v,h')):
  Mono h h'/\(∀args w,(callFunc f args).run P w= .ok (.enter f args) w)/\∀s0 U D ρ w,h'.next<=U->GlobOK C (DD D ρ) ρ->InDL (DD D ρ) vs->Rel s0 U D ρ h w->Calls P f (zJq ρ vs).toArray w (kFq s0 U D ρ h w v h'):=by
 simp only[yxq] at hr;split at hr
 ·rename_i k hk;exact hK f k hk _ _ _ _ hr
 split at hr
 ·cases hr
 ·rename_i fn hfn;obtain⟨hf,he,hok⟩:=hF f fn hfn;split at hr
  ·rename_i c hb hle;have hle:=Nat.le_of_ble_eq_true hle;have cs:=jbq hmx hC ih (hok c hb)
   have key:∀x st,(x= .normal\/x= .ret) ->zbq ⟨yxq C n,zEq C n⟩ ⟨zYq C n,zKq C n⟩ C c ⟨k7q 0 vs .nil,h,[],false⟩=some (x,st) ->finV C fn st=some (v,h') ->
     Mono h h'/\∀s0 U D ρ w,h'.next<=U->GlobOK C (DD D ρ) ρ->InDL (DD D ρ) vs->Rel s0 U D ρ h w->Calls P f (zJq ρ vs).toArray w (kFq s0 U D ρ h w v h'):=λx st hx h1 h2=>by
    obtain⟨m1,k1⟩:=cs _ _ _ h1;have m2:=uWq h2;refine⟨m1.trans m2,λs0 U D ρ w hU gl hin rel=>?_⟩;refine callsIn_wide.1 (callsIn_of_wp_marks (F:=Fence.wide) (n:=0) hf hb trivial ?_)
    have harg:∀t u,(k7q 0 vs .nil).get t=some u->((zJq ρ vs).toArray++Array.replicate (fn.ntmps-(zJq ρ vs).toArray.size) undef)[t]? =some (conc ρ u)/\InD (DD D ρ) u:=λt u hu=>by
     rw[u9q] at hu;split at hu
     ·rename_i hlt;simp only[Nat.sub_zero,Nat.zero_add] at hu hlt;refine⟨?_,InDL.at_ hin hu⟩;rw[Array.getElem?_append_left (by simp[y0q];exact hlt.2),kiq];simp[hu]
     ·simp[Tr.get_nil] at hu
    refine k1 s0 U none [] D ρ _ w _ (Nat.le_trans m2.nxt hU) ⟨⟨⟨λt u hu=>(harg t u hu).1,λt u hu=>(harg t u hu).2,gl⟩⟩,rel,?_,rfl,(λd hd=>by cases hd),rfl⟩ λD1 ρ1 a1 w1 g1 n1=>?_
    ·simp only[Array.size_append,Array.size_replicate,List.size_toArray,y0q];omega
    ·have fin:=fin_sound (P:=P) hC h2 hU g1 (R:=kFq s0 U D ρ h w v h') λw' r' n' i'=>⟨D1,ρ1,rfl,r',n1.trans rel.lt hU n',i'⟩
     rcases hx with rfl|rfl<;>exact fin
   split at hr
   ·rename_i st h1;obtain⟨q1,q2⟩:=key _ _ (.inl rfl) h1 hr;exact⟨q1,he,q2⟩
   ·rename_i st h1;obtain⟨q1,q2⟩:=key _ _ Qm h1 hr;exact⟨q1,he,q2⟩
   ·cases hr
  ·cases hr
theorem run_yld(hmx:P.follows .mixedOrders=true)(hC:CfgOK P C){n:Nat}(ih:RunOK P C n){l:Nat}{vs:List V}{h:Heap}{v:V}{h':Heap}(hr:zEq C (n+1) l vs h=some (v,h')):
  ∀s0 U D ρ w,h'.next<=U->GlobOK C (DD D ρ) ρ->D l->InDL (DD D ρ) vs->Rel s0 U D ρ h w->YieldAt Fence.wide 0 P (ρ.l l).1 (zJq ρ vs).toArray w (kFq s0 U D ρ h w v h'):=by
 simp only[zEq] at hr;split at hr
 ·rename_i fr ps asg bd d hget;split at hr
  ·cases hr
  ·rename_i hlen;have hlen:vs.length=ps.size:=Nat.eq_of_beq_eq_true hlen;split at hr
   ·rename_i st1 h1;split at hr
    ·rename_i fr1 ps1 asg1 bd1 d1 hget1;split at hr
     ·rename_i x st2 h2;split at hr
      ·rename_i fr2 ps2 asg2 bd2 d2 hget2
       --the end of a round
       obtain⟨b,stt,pe,hb,hst,hv,hh⟩:∃(b:Bool) (stt:LoopState) (pe:Option Code),(pe.isNone=b/\stt=(if pe.isNone then .ready else .done))/\((x= .normal/\pe=none)\/(x= .ret/\pe=some .ret)\/(∃id,x= .exit id/\pe=some (.exit id))\/(∃id,x= .goto id/\pe=some (.goto id)))/\v= .bool b/\h'=st2.h.put l (.loop stt pe fr2 ps2 asg2 bd2 d2):=by
        split at hr
        ·cases hr;exact⟨true,.ready,none,⟨rfl,rfl⟩,.inl ⟨rfl,rfl⟩,rfl,rfl⟩
        ·cases hr;exact⟨false,.done,_,⟨rfl,rfl⟩,.inr (.inl ⟨rfl,rfl⟩),rfl,rfl⟩
        ·cases hr;exact⟨false,.done,_,⟨rfl,rfl⟩,.inr (.inr (.inl ⟨_,rfl,rfl⟩)),rfl,rfl⟩
        ·cases hr;exact⟨false,.done,_,⟨rfl,rfl⟩,.inr (.inr (.inr ⟨_,rfl,rfl⟩)),rfl,rfl⟩
        ·cases hr
       subst hv;subst hh
       clear hr;obtain⟨hb1,hb2⟩:=hb;intro s0 U D ρ w hU gl hl hin rel;have hU2:st2.h.next<=U:=hU;obtain⟨o,q1,q2⟩:=rel.has l _ hl hget;obtain⟨fnM,tmps,rfl,qt,ql,qp,qa,qb⟩:=q2;have hcl:=rel.clo l _ hl hget;have hlh:=rel.blt hget;have hy:=run_yield (P:=P) (args:=(zJq ρ vs).toArray) q1 (by simp[y0q,hlen]);rw[ql];refine⟨fnM,_,asg,bd,hy,roundIn_FF (r:=none) (n:=0) (roundIn_of_wpIn (F:=Fence.wide) trivial ?_)⟩;clear hy;obtain⟨g1,g2⟩:=YVq (ρ:=ρ) (D:=DD D ρ) ps.toList vs fr tmps (λt u hu=>⟨qt t u hu,hcl.1 t u hu⟩) hin qp
       have hT:(ps.zip (zJq ρ vs).toArray).foldl (λtmps (t,a)=>tmps.setIfInBounds t a) tmps=(ps.toList.zip (zJq ρ vs)).foldl (λt (p:Tmp×Value)=>t.setIfInBounds p.1 p.2) tmps:=by
        rw[<-Array.foldl_toList,Array.toList_zip]
       simp only[hT];obtain⟨m1,k1⟩:=jbq hmx hC ih qa _ _ _ h1;obtain⟨m2,k2⟩:=jbq hmx hC ih qb _ _ _ h2;have hU1:st1.h.next<=U:=Nat.le_trans m2.nxt hU2;refine k1 s0 U (some (ρ.b l)) [] D ρ _ w _ hU1 ⟨⟨⟨λt u hu=>(g1 t u hu).1,λt u hu=>(g1 t u hu).2,gl⟩⟩,rel,g2,rfl,(λd hd=>by cases hd),rfl⟩ λD1 ρ1 a1 w1 s1 n1=>?_
       have hl1:D1 l:=n1.sub l hl;have eb1:ρ1.b l=ρ.b l:=(n1.env l (.inl hlh)).1;obtain⟨o1,p1,p2⟩:=s1.rel.has l _ hl1 hget1;obtain⟨fn1,tmps1,rfl,pt,pl,pp,pa,pb⟩:=p2;have hcl1:=s1.rel.clo l _ hl1 hget1;have hlh1:=s1.rel.blt hget1;have p1':=p1;rw[eb1] at p1';refine⟨_,run_beginRound p1' rfl,?_⟩;have ht:=y1q (w:=w1) (b:=ρ1.b l) (.loop {state:=.busy,pending:=none,fn:=fn1,tmps:=tmps1,params:=ps1,assign:=asg1,body:=bd1,defers:=ρ1.b d1}) (Array.getElem?_eq_some_iff.1 p1).1;obtain⟨r2,n2⟩:=s1.rel.put (b':=.loop .busy none fr1 ps1 asg1 bd1 d1) hl1 hget1 rfl rfl ht ⟨fn1,tmps1,rfl,pt,pl,pp,pa,pb⟩ hcl1;rw[eb1] at r2 n2;have n12:=n1.trans rel.lt (by exact hU1) n2;refine k2 s0 U (some (ρ.b l)) [] D1 ρ1 a1 _ _ hU2 (s1.next hU1 n2 r2) λD3 ρ3 a3 w3 s3 n3=>?_
       have hl3:D3 l:=n3.sub l hl1;have eb3:ρ3.b l=ρ.b l:=((n3.env l (.inl hlh1)).1).trans eb1;obtain⟨o3,t1,t2⟩:=s3.rel.has l _ hl3 hget2;obtain⟨fn3,tmps3,rfl,tt,tl,tp,ta,tb⟩:=t2;have hcl3:=s3.rel.clo l _ hl3 hget2;have t1':=t1;rw[eb3] at t1';have ht3:=y1q (w:=w3) (b:=ρ3.b l) (.loop {state:=stt,pending:=pe,fn:=fn3,tmps:=tmps3,params:=ps2,assign:=asg2,body:=bd2,defers:=ρ3.b d2}) (Array.getElem?_eq_some_iff.1 t1).1;obtain⟨r4,n4⟩:=s3.rel.put (b':=.loop stt pe fr2 ps2 asg2 bd2 d2) hl3 hget2 rfl rfl ht3 ⟨fn3,tmps3,rfl,tt,tl,tp,ta,tb⟩ hcl3;rw[eb3] at r4 n4;have n14:=(n12.trans rel.lt hU2 n3).trans rel.lt hU n4;have hrun:=run_endRound (P:=P) pe t1'
       have fin:∃v w',(Instr.endRound (ρ.b l) pe).run P w3= .ok v w'/\kFq s0 U D ρ h w (.bool b) (st2.h.put l (.loop stt pe fr2 ps2 asg2 bd2 d2)) (.returned v) w':=by
        refine⟨_,_,hrun,D3,ρ3,?_,?_,?_,trivial⟩
        ·rw[hb1];rfl
        ·rw[<-hb2];exact r4
        ·rw[<-hb2];exact n14
       rcases hst with ⟨rfl,rfl⟩|⟨rfl,rfl⟩|⟨id,rfl,rfl⟩|⟨id,rfl,rfl⟩<;>exact fin
      ·cases hr
     ·cases hr
    ·cases hr
   ·cases hr
 ·cases hr
theorem run_ok(hmx:P.follows .mixedOrders=true)(hC:CfgOK P C)(hF:vEq P C)(hK:q6q P C):∀n,RunOK P C n
 |0=>⟨⟨(runM C (λf k hk vs h v h' he=>(hK f k hk vs h v h' he).1) 0).1.fn,λf vs h v h' he=>by simp[yxq] at he,λf vs h v h' he=>by simp[yxq] at he,(runM C (λf k hk vs h v h' he=>(hK f k hk vs h v h' he).1) 0).1.yield,λl vs h v h' he=>by simp[zEq] at he⟩,
   λN c _ st x st' he=>by simp[zYq] at he,λN c l _ st x st' he=>by simp[zKq] at he⟩
 |n+1=>by
  have ih:=run_ok hmx hC hF hK n;have m:=runM C (λf k hk vs h v h' he=>(hK f k hk vs h v h' he).1) (n+1)
  exact⟨⟨m.1.fn,λf vs h v h' he=>(run_fn hmx hC hF hK ih he).2.1,λf vs h v h' he=>(run_fn hmx hC hF hK ih he).2.2,m.1.yield,λl vs h v h' he=>run_yld hmx hC ih he⟩,
   run_loop hmx hC ih,run_scope hmx hC ih⟩
theorem run_calls(hmx:P.follows .mixedOrders=true)(hC:CfgOK P C)(hF:vEq P C)(hK:q6q P C){n:Nat}{f:FuncId}{vs:List V}{h:Heap}{v:V}{h':Heap}(hr:yxq C n f vs h=some (v,h')){D:Nat->Prop}{ρ:Env}{w:World}(gl:GlobOK C (DD D ρ) ρ)(hin:InDL (DD D ρ) vs)(rel:Rel w h'.next D ρ h w):
  Calls P f (zJq ρ vs).toArray w λe w'=>∃D' ρ',e= .returned (conc ρ' v)/\Below w.heap.size w w'/\Rel w h'.next D' ρ' h' w'/\Nxt D ρ h w D' ρ' h' w':=
 ((run_ok hmx hC hF hK n).self.fn f vs h v h' hr w h'.next D ρ w (Nat.le_refl _) gl hin rel).mono λe w'=>by
  rintro⟨D',ρ',rfl,q1,q2,_⟩;exact⟨D',ρ',rfl,q1.base,q1,q2⟩
end
mutual
noncomputable def bare:V->Bool
 |.ptr _ _=>false
 |.sl _ _ _ _ _ _=>false
 |.map _=>false
 |.yield _=>false
 |.fn _ a c=>v1q a&&v1q c
 |.iface _ v=>bare v
 |.agg _ l=>v1q l
 |.arr _ _ l=>v1q l
 |.tup l=>v1q l
 |.undef=>true
 |.bool _=>true
 |.int _ _=>true
 |.str _=>true
 |.nilp=>true
 |.nils=>true
 |.nilm=>true
 |.nilf=>true
 |.nili=>true
noncomputable def v1q:List V->Bool
 |[]=>true
 |v::l=>bare v&&v1q l
end
mutual
theorem bare_in{D:Nat->Nat->Prop}:∀{v:V},bare v=true->InD D v
 |.ptr _ _,h=>by simp[bare] at h
 |.sl _ _ _ _ _ _,h=>by simp[bare] at h
 |.map _,h=>by simp[bare] at h
 |.yield _,h=>by simp[bare] at h
 |.fn _ a c,h=>by simp only[bare,Bool.and_eq_true] at h;exact⟨xSq h.1,xSq h.2⟩
 |.iface _ v,h=>bare_in (v:=v) h
 |.agg _ l,h=>xSq (l:=l) h
 |.arr _ _ l,h=>xSq (l:=l) h
 |.tup l,h=>xSq (l:=l) h
 |.undef,_=>trivial
 |.bool _,_=>trivial
 |.int _ _,_=>trivial
 |.str _,_=>trivial
 |.nilp,_=>trivial
 |.nils,_=>trivial
 |.nilm,_=>trivial
 |.nilf,_=>trivial
 |.nili,_=>trivial
theorem xSq{D:Nat->Nat->Prop}:∀{l:List V},v1q l=true->InDL D l
 |[],_=>trivial
 |v::l,h=>by simp only[v1q,Bool.and_eq_true] at h;exact⟨bare_in h.1,xSq h.2⟩
end
theorem zin_of{v:V}(h:bare v=true):InD (λ_ _=>False) v:=bare_in h
theorem zmq{P:Program}{t:TypeId}(h:(P.underlying t).map (λd=>match d with|.struct _=>false|.array _ _=>false|.interface _=>false|_=>true)=some true):TyD.Is P t .other:=by
 unfold TyD.Is;cases hu:P.underlying t with
 |none=>rw[hu] at h;cases h
 |some d=>rw[hu] at h;cases d<;>simp_all
theorem iface_of{P:Program}{t:TypeId}(h:(P.underlying t).map (λd=>match d with|.interface _=>true|_=>false)=some true):TyD.Is P t .iface:=by
 unfold TyD.Is;cases hu:P.underlying t with
 |none=>rw[hu] at h;cases h
 |some d=>rw[hu] at h;cases d<;>simp_all
structure FnOK(P:Program)(f:FuncId)(fn:Func):Prop where
 at_:P.funcs[f]? =some fn
 ent:∀args w,(callFunc f args).run P w= .ok (.enter f args) w
 ok:(match fn.body with|some c=>ykq fn.ntmps c|none=>true)=true
theorem fnsOK_of{P:Program}{C:Cfg}(h:∀f fn,C.fn f=some fn->FnOK P f fn):vEq P C:=λf fn hf=>by
 obtain⟨h1,h2,h3⟩:=h f fn hf;refine⟨h1,h2,λc hc=>?_⟩;rw[hc] at h3;exact h3
noncomputable def ExtOK(P:Program)(f:FuncId)(e:List V->Option V):Prop:=∀ρ vs v,e vs=some v->(∀w,(callFunc f (zJq ρ vs).toArray).run P w= .ok (.value (conc ρ v)) w)/\∀D,InDL D vs->InD D v
theorem add64_ok{P:Program}{f:FuncId}(hrun:∀args w,(callFunc f args).run P w=((add64Entry args).run P w).andThen λv w'=>.ok (.value v) w'):ExtOK P f add64V:=by
 intro ρ vs v h;unfold add64V at h;split at h
 ·rename_i x y c;split at h
  ·rename_i hc;have hc:=Nat.le_of_ble_eq_true hc;cases h;refine⟨λw=>?_,λD _=>⟨trivial,trivial,trivial⟩⟩;rw[hrun];simp only[zJq,conc];rw[run_add64 _ _ _ Xm Xm Xm (by simp only[Int.ofNat_eq_natCast];omega)];simp only[Result.andThen];congr 4
  ·cases h
 ·cases h
noncomputable def rho0(K:Nat):Env:=⟨λi=>i,λ_=>0,λ_=>K,λi=>(i,none)⟩
theorem trod_tab{H:Type}{enc:TypeId×Value->H}{P:Program}{w:World}{base:Nat}{spare:Nat->Bool}{held:Bool}{fuel:Nat}{t e:TypeId}{n:Nat}{k:IntKind}{cs:List Value}{ns:List Int}{p:List MemPlace}
  (ht:P.underlying t=some (.array n e)) (he:P.underlying e=some (.int k)) (hc:P.cellsOf e=1) (hct:P.cellsOf t=n) (hn:ns.length=n)
  (h:DataW.trod enc P w base spare held fuel t cs=some (.agg (ns.map λz=>.lit (.int k z)),p)):cs=ns.map λz=>.int k z:=by
 obtain⟨xs,m,rfl,hx,hl,hxl,hel⟩:=DataW.trod_array ht h;simp only[Prod.mk.injEq,DataW.agg.injEq] at hx;have hx:=hx.1;rw[hct] at hl;apply List.ext_getElem?;intro i;by_cases hi:i<n
 ·have h1:=hel i hi;rw[hc,Nat.mul_one] at h1;obtain⟨x,hxi⟩:∃x,xs[i]? =some x:=⟨_,List.getElem?_eq_getElem Xd⟩
  rw[hxi] at h1;obtain⟨z,g1,g2,_⟩:=DataW.trod_int he h1;have h2:(ns.map λz=>(DataW.lit (.int k z):DataW H))[i]? =(xs.map (·.1))[i]? :=by rw[hx]
  rw[List.getElem?_map,List.getElem?_map,hxi,g2] at h2;obtain⟨z',hz'⟩:∃z,ns[i]? =some z:=⟨_,List.getElem?_eq_getElem Xd⟩
  rw[hz'] at h2;simp at h2;subst h2
  have h3:cs[i]? =some (.int k z'):=by
   have:=congrArg (·[0]?) g1;simp only[List.getElem?_take_of_lt (Nat.zero_lt_one),List.getElem?_drop,Nat.add_zero] at this;simpa using this
  rw[h3,List.getElem?_map,hz'];rfl
 ·rw[List.getElem?_eq_none Xd,List.getElem?_eq_none Xo]
noncomputable def mtLook:List (String×FuncId) ->String->Option FuncId
 |[],_=>none
 |p::l,m=>match decide (p.1=m) with
  |true=>some p.2
  |false=>mtLook l m
noncomputable def MtOK(P:Program)(t:TypeId)(l:List (String×FuncId)):Prop:=∀m f,mtLook l m=some f->∀v args w,(callMethod (.iface t v) m args).run P w=(callFunc f (#[v]++args)).run P w
noncomputable def mtOf(T:Tr (List (String×FuncId)))(t:TypeId)(m:String):Option FuncId:=match T.get t with
 |some l=>mtLook l m
 |none=>none
theorem mtOf_ok{P:Program}{T:Tr (List (String×FuncId))}(h:∀t l,T.get t=some l->MtOK P t l)(t:TypeId)(m:String)(f:FuncId)(hm:mtOf T t m=some f)(v:Value)(args:Array Value)(w:World):(callMethod (.iface t v) m args).run P w=(callFunc f (#[v]++args)).run P w:=by
 unfold mtOf at hm;split at hm
 ·rename_i l hl;exact h t l hl m f hm v args w
 ·cases hm
theorem conc_bare{v:V}(h:bare v=true)(ρ ρ':Env):conc ρ' v=conc ρ v:=yyq (D:=λ_ _=>False) (λ_ _ h=>h.elim) (bare_in h)
section
inductive W where
 |undef
 |bool (b:Bool)
 |int (k:IntKind) (n:Int)
 |str (s:List UInt8)
 |nilp
 |ptr (b off:Nat)
 |nils
 |sl (b base off len esz:Nat) (lim:Option Nat)
 |fz (l:List W) (esz:Nat) (full:Bool)
 |fel (x:W)
 |nilm
 |fn (f:FuncId) (first captured:List W)
 |yield (l:Nat)
 |nilf
 |iface (t:TypeId) (v:W)
 |nili
 |agg (n:Nat) (items:List W)
 |arr (n e:Nat) (items:List W)
 |tup (vs:List W)
 deriving Inhabited
noncomputable def W.size:W->Nat
 |.agg n _=>n
 |.arr n _ _=>n
 |_=>1
noncomputable def W.isAgg:W->Bool
 |.agg _ _=>true
 |.arr _ _ _=>true
 |_=>false
noncomputable def W.leaf:W->Bool
 |.agg _ _=>false
 |.arr _ _ _=>false
 |.tup _=>false
 |.undef=>false
 |_=>true
noncomputable def Qdq:List W->Nat->Option (W×Nat)
 |[],_=>none
 |v::l,o=>match Nat.blt o v.size with
  |true=>some (v,o)
  |false=>Qdq l (o-v.size)
noncomputable def zWq:Nat->W->Nat->Nat->Bool->Option W
 |0,_,_,_,_=>none
 |f+1,v,off,n,ag=>
  match Nat.beq off 0&&Nat.beq n v.size&&ag==v.isAgg with
  |true=>match ag||v.leaf with
   |true=>some v
   |false=>none
  |false=>match v with
   |.agg _ l=>match Qdq l off with
    |some (x,o)=>zWq f x o n ag
    |none=>none
   |.arr _ e l=>match l[off/e]? with
    |some x=>zWq f x (off%e) n ag
    |none=>none
   |_=>none
noncomputable def putIxW(g:W->Nat->Option W):List W->Nat->Option (List W)
 |[],_=>none
 |v::l,o=>match Nat.blt o v.size with
  |true=>match g v o with
   |some v'=>some (v'::l)
   |none=>none
  |false=>match putIxW g l (o-v.size) with
   |some l'=>some (v::l')
   |none=>none
noncomputable def yDq:Nat->W->Nat->W->Option W
 |0,_,_,_=>none
 | f +1,v,off,x=>
  match Nat.beq off 0&&Nat.beq x.size v.size&&x.isAgg==v.isAgg with
  |true=>match x.isAgg||(v.leaf&&x.leaf) with
   |true=>some x
   |false=>none
  |false=>match v with
   |.agg m l=>match putIxW (λy o=>yDq f y o x) l off with
    |some l'=>some (.agg m l')
    |none=>none
   |.arr m e l=>match l[off/e]? with
    |some y=>match yDq f y (off%e) x with
     |some y'=>some (.arr m e (l.set (off/e) y'))
     |none=>none
    |none=>none
   |_=>none
noncomputable def yiq:Nat->W->Nat->Nat->Nat->Option (List W)
 |0,_,_,_,_=>none
 | f +1,v,off,n,e=>
  match v with
  |.arr m e' l=>match Nat.beq e' e&&Nat.beq (off%e) 0&&Nat.ble (off+n*e) m&&Nat.blt 0 e with
   |true=>some ((l.drop (off/e)).take n)
   |false=>match Nat.beq off 0&&Nat.beq n 1&&Nat.beq m e with
    |true=>some [.arr m e' l]
    |false=>match l[off/e']? with
     |some x=>match Nat.ble (off%e'+n*e) x.size with
      |true=>yiq f x (off%e') n e
      |false=>none
     |none=>none
  |.agg m l=>match Nat.beq off 0&&Nat.beq n 1&&Nat.beq m e with
   |true=>some [.agg m l]
   |false=>match Qdq l off with
    |some (x,o)=>match Nat.ble (o+n*e) x.size with
     |true=>yiq f x o n e
     |false=>none
    |none=>none
  |_=>none
noncomputable def putNW:W->Nat->Nat->List W->Option W
 |v,_,_,[]=>some v
 |v,off,e,x::l=>match Nat.beq x.size e&&v.isAgg with
  |true=>match yDq 50 v off x with
   |some v'=>putNW v' (off+e) e l
   |none=>none
  |false=>none
noncomputable def sumW:List W->Nat
 |[]=>0
 |x::l=>x.size+sumW l
mutual
noncomputable def embW:V->Option W
 |.undef=>none
 |.bool b=>some (.bool b)
 |.int k n=>some (.int k n)
 |.str s=>some (.str s)
 |.nilp=>some .nilp
 |.ptr _ _=>none
 |.nils=>some .nils
 |.sl _ _ _ _ _ _=>none
 |.nilm=>some .nilm
 |.map _=>none
 |.fn _ _ _=>none
 |.yield _=>none
 |.nilf=>some .nilf
 |.iface _ _=>none
 |.nili=>some .nili
 |.agg n l=>match embL l with
  |some l'=>match Nat.beq (sumW l') n with
   |true=>some (.agg n l')
   |false=>none
  |none=>none
 |.arr n e l=>match embL l with
  |some l'=>match Nat.beq (sumW l') n&&l'.all λx=>Nat.beq x.size e with
   |true=>some (.arr n e l')
   |false=>none
  |none=>none
 |.tup _=>none
noncomputable def embL:List V->Option (List W)
 |[]=>some []
 |v::l=>match embW v,embL l with
  |some w,some r=>some (w::r)
  |_,_=>none
end
abbrev FrW:=List (Nat×W)
noncomputable def getW:FrW->Nat->Option W
 |[],_=>none
 |(k,w)::l,t=>match Nat.beq k t with
  |true=>some w
  |false=>getW l t
noncomputable def putW(fr:FrW)(d:Option Tmp)(w:W):FrW:=match d with
 |some t=>(t,w)::fr
 |none=>fr
abbrev HpW:=List (Nat×TypeId×W)
noncomputable def hget:HpW->Nat->Option (TypeId×W)
 |[],_=>none
 |(k,w)::l,t=>match Nat.beq k t with
  |true=>some w
  |false=>hget l t
noncomputable def hset:HpW->Nat->TypeId×W->HpW
 |[],_,_=>[]
 |(k,w)::l,t,x=>match Nat.beq k t with
  |true=>(k,x)::l
  |false=>(k,w)::hset l t x
noncomputable def hdel:HpW->Nat->HpW
 |[],_=>[]
 |(k,w)::l,t=>match Nat.beq k t with
  |true=>l
  |false=>(k,w)::hdel l t
section
variable (C:Cfg) (G:Nat->Option W) (fr:FrW)
noncomputable def ofVW(x:Value):Option W:=match ofV x with
 |some v=>embW v
 |none=>none
noncomputable def evW:Operand->Option W
 |.tmp t=>getW fr t
 |.const v=>ofVW v
 |.global g=>match C.glob g,G g with
  |true,some w=>some (.fel w)
  |_,_=>none
 |.func f=>some (.fn f [] [])
noncomputable def evLW:List Operand->Option (List W)
 |[]=>some []
 |x::l=>match evW C G fr x,evLW l with
  |some v,some r=>some (v::r)
  |_,_=>none
mutual
noncomputable def eqW:Nat->TypeId->W->W->Option Bool
 |0,_,_,_=>none
 | f +1,t,x,y=>match C.ty t with
  |none=>none
  |some i=>match i.d with
   |.int _=>match x,y with
    |.int j a,.int k b=>match decide (j=k) with
     |true=>some (eqI a b)
     |false=>none
    |_,_=>none
   |.bool=>match x,y with
    |.bool a,.bool b=>some (a==b)
    |_,_=>none
   |.str=>match x,y with
    |.str a,.str b=>some (j6q a b)
    |_,_=>none
   |.ptr=>match x,y with
    |.nilp,.nilp=>some true
    |.nilp,.ptr _ _=>some false
    |.ptr _ _,.nilp=>some false
    |.nilp,.fel _=>some false
    |.fel _,.nilp=>some false
    |_,_=>none
   |.slice _=>match x,y with
    |.nils,.nils=>some true
    |.nils,.sl _ _ _ _ _ _=>some false
    |.sl _ _ _ _ _ _,.nils=>some false
    |.nils,.fz (_::_) _ _=>some false
    |.fz (_::_) _ _,.nils=>some false
    |_,_=>none
   |.struct fs=>match x.isAgg&&y.isAgg with
    |true=>v0q f fs x y
    |false=>none
   |.arr n e=>match x.isAgg&&y.isAgg,C.ty e with
    |true,some j=>Jjq f e j n 0 x y
    |_,_=>none
   |_=>none
noncomputable def v0q:Nat->List (TypeId×Nat) ->W->W->Option Bool
 |0,_,_,_=>none
 |_+1,[],_,_=>some true
 |f+1,(t,off)::fs,x,y=>match C.ty t with
  |none=>none
  |some i=>match zWq 50 x off i.size i.agg,zWq 50 y off i.size i.agg with
   |some a,some b=>match eqW f t a b with
    |some true=>v0q f fs x y
    |some false=>some false
    |none=>none
   |_,_=>none
noncomputable def Jjq:Nat->TypeId->TyI->Nat->Nat->W->W->Option Bool
 |0,_,_,_,_,_,_=>none
 |_+1,_,_,0,_,_,_=>some true
 |f+1,e,j,n+1,k,x,y=>match zWq 50 x (k*j.size) j.size j.agg,zWq 50 y (k*j.size) j.size j.agg with
  |some a,some b=>match eqW f e a b with
   |some true=>Jjq f e j n (k+1) x y
   |some false=>some false
   |none=>none
  |_,_=>none
end
noncomputable def uFq:W->W->Bool
 |.bool _,.bool _=>true
 |.nilp,.nilp=>true
 |.nilp,.ptr _ _=>true
 |.ptr _ _,.nilp=>true
 |.nilp,.fel _=>true
 |.fel _,.nilp=>true
 |.nils,.nils=>true
 |.nils,.sl _ _ _ _ _ _=>true
 |.sl _ _ _ _ _ _,.nils=>true
 |.nils,.fz _ _ _=>true
 |.fz _ _ _,.nils=>true
 |x,y=>x.isAgg&&y.isAgg
noncomputable def unV:V->Option W
 |.bool b=>some (.bool b)
 |.int k n=>some (.int k n)
 |.str s=>some (.str s)
 |_=>none
noncomputable def binW(op:BinOp)(t:TypeId)(x y:W):Option W:=match x,y with
 |.int k m,.int k' n=>match op with
  |.shl=>(shI .shl k m n).bind unV
  |.shr=>(shI .shr k m n).bind unV
  |_=>match decide (k=k') with
   |true=>(binI op k m n).bind unV
   |false=>none
 |.str a,.str b=>(binS op a b).bind unV
 |x,y=>match uFq x y with
  |false=>none
  |true=>match op with
   |.eql=>match eqW C 300 t x y with
    |some b=>some (.bool b)
    |none=>none
   |.neq=>match eqW C 300 t x y with
    |some b=>some (.bool (!b))
    |none=>none
   |_=>none
noncomputable def natW:W->Option Nat
 |.int _ (.ofNat n)=>some n
 |_=>none
noncomputable def bndW(d:Nat):Option Operand->Option Nat
 |none=>some d
 |some x=>match evW C G fr x with
  |some v=>natW v
  |none=>none
noncomputable def cutW(b base off len esz:Nat)(lim:Option Nat)(l h:Nat):Option Nat->Option W
 |none=>match Nat.ble l h&&Nat.ble h len with
  |true=>some (.sl b (match Nat.beq l 0 with|true=>base|false=>off) (off+l*esz) (h-l) esz (qxq l lim))
  |false=>none
 |some m=>match Nat.ble l h&&Nat.ble h m&&Nat.ble m len&&Nat.ble 1 m with
  |true=>some (.sl b off (off+l*esz) (h-l) esz (some (m-l)))
  |false=>none
noncomputable def cutF(xs:List W)(esz:Nat)(full:Bool)(l h:Nat):Option Nat->Option W
 |none=>match Nat.ble l h&&Nat.ble h xs.length with
  |true=>some (.fz ((xs.drop l).take (h-l)) esz (full&&Nat.beq h xs.length))
  |false=>none
 |some m=>match Nat.ble l h&&Nat.ble h m&&Nat.ble m xs.length&&Nat.ble 1 m with
  |true=>some (.fz ((xs.drop l).take (h-l)) esz (Nat.beq h m))
  |false=>none
noncomputable def fillW(t:TypeId):W->List (Nat×Operand) ->Option W
 |v,[]=>some v
 |v,(i,x)::l=>match vnq C t i,evW C G fr x with
  |some (off,sz),some y=>match Nat.beq y.size sz with
   |true=>match yDq 50 v off y with
    |some v'=>fillW t v' l
    |none=>none
   |false=>none
  |_,_=>none
noncomputable def wPick(c:Operand)(x:Operand)(y:Operand):Option W:=match evW C G fr c with
 |some (.bool true)=>evW C G fr x
 |some (.bool false)=>evW C G fr y
 |_=>none
noncomputable def wExtract(x:Operand)(i:Nat):Option W:=match evW C G fr x with
 |some (.tup vs)=>vs[i]?
 |_=>none
noncomputable def wNil(x:Operand):Option W:=match evW C G fr x with
 |some (.ptr b o)=>some (.ptr b o)
 |some (.sl b base off len esz lim)=>some (.sl b base off len esz lim)
 |some (.fel y)=>some (.fel y)
 |some (.fz (y::l) e f)=>some (.fz (y::l) e f)
 |some (.fn f a c)=>some (.fn f a c)
 |some (.yield l)=>some (.yield l)
 |_=>none
noncomputable def wNot(x:Operand):Option W:=match evW C G fr x with
 |some (.bool b)=>some (.bool (!b))
 |_=>none
noncomputable def wNeg(x:Operand):Option W:=match evW C G fr x with
 |some (.int k n)=>some (.int k (qoq k (0-n)))
 |_=>none
noncomputable def wXor(x:Operand):Option W:=match evW C G fr x with
 |some (.int k n)=>match notF k n with
  |some c=>some (.int k c)
  |none=>none
 |_=>none
noncomputable def wBin(op:BinOp)(t:TypeId)(x:Operand)(y:Operand):Option W:=match evW C G fr x,evW C G fr y with
 |some u,some v=>binW C op t u v
 |_,_=>none
noncomputable def wConv(s:TypeId)(t:TypeId)(x:Operand):Option W:=match C.ty s,C.ty t,evW C G fr x with
 |some _,some j,some v=>match j.d,v with
  |.int k,.int _ n=>some (.int k (qoq k n))
  |.str,.str a=>some (.str a)
  |_,_=>none
 |_,_,_=>none
noncomputable def wMake(f:FuncId)(a:Array Operand)(c:Array Operand):Option W:=match evLW C G fr a.toList,evLW C G fr c.toList with
 |some u,some v=>some (.fn f u v)
 |_,_=>none
noncomputable def wBuild(t:TypeId)(parts:Array (Nat×Operand)):Option W:=match C.ty t with
 |some j=>match j.agg,embW j.zero with
  |true,some z=>fillW C G fr t z parts.toList
  |_,_=>none
 |none=>none
noncomputable def wField(t:TypeId)(x:Operand)(i:Nat):Option W:=match vgq C t i,evW C G fr x with
 |some (ft,off),some v=>match C.ty ft,v.isAgg with
  |some k,true=>zWq 50 v off k.size k.agg
  |_,_=>none
 |_,_=>none
noncomputable def veq(t:TypeId)(x:Operand)(i:Nat):Option W:=match vgq C t i,evW C G fr x with
 |some (ft,fo),some (.ptr b off)=>match C.ty ft with
  |some k=>match Nat.beq k.size 0 with
   |true=>none
   |false=>some (.ptr b (off+fo))
  |none=>none
 |some (ft,fo),some (.fel y)=>match C.ty ft with
  |some k=>match Nat.beq k.size 0 with
   |true=>none
   |false=>match zWq 50 y fo k.size k.agg with
    |some z=>some (.fel z)
    |none=>none
  |none=>none
 |_,_=>none
noncomputable def qXq(t:TypeId)(x:Operand)(y:Operand):Option W:=match C.ty t,evW C G fr x,evW C G fr y with
 |some j,some v,some u=>match natW u,j.d,v with
  |some i,.arr n e,.ptr b off=>match C.ty e,Nat.blt i n with
   |some k,true=>some (.ptr b (off+i*k.size))
   |_,_=>none
  |some i,.arr n e,.fel z=>match C.ty e,Nat.blt i n with
   |some k,true=>match Nat.beq k.size 0 with
    |true=>none
    |false=>match zWq 50 z (i*k.size) k.size k.agg with
     |some r=>some (.fel r)
     |none=>none
   |_,_=>none
  |some i,.slice e,.sl b _ off len esz _=>match C.ty e,Nat.blt i len with
   |some k,true=>match Nat.beq k.size esz with
    |true=>some (.ptr b (off+i*esz))
    |false=>none
   |_,_=>none
  |some i,.slice e,.fz l esz _=>match C.ty e,l[i]? with
   |some k,some r=>match Nat.beq k.size esz with
    |true=>some (.fel r)
    |false=>none
   |_,_=>none
  |_,_,_=>none
 |_,_,_=>none
noncomputable def wIndex(t:TypeId)(x:Operand)(y:Operand):Option W:=match C.ty t,evW C G fr x,evW C G fr y with
 |some j,some v,some u=>match natW u,j.d,v with
  |some i,.str,.str s=>match s[i]? with
   |some c=>some (.int .u8 (.ofNat c.toNat))
   |none=>none
  |some i,.arr n e,v=>match C.ty e,Nat.blt i n,v.isAgg with
   |some k,true,true=>zWq 50 v (i*k.size) k.size k.agg
   |_,_,_=>none
  |_,_,_=>none
 |_,_,_=>none
noncomputable def Zpq(t:TypeId)(x:Operand)(lo:Option Operand)(hi:Option Operand)(mx:Option Operand):Option W:=match C.ty t,evW C G fr x with
 |some j,some v=>match j.d,v with
  |.slice e,.sl b base off len esz lim=>match C.ty e,bndW C G fr 0 lo,bndW C G fr len hi with
   |some k,some l,some h=>match Nat.beq k.size esz with
    |true=>match mx with
     |none=>cutW b base off len esz lim l h none
     |some z=>match hi,bndW C G fr 0 (some z) with
      |some _,some m=>cutW b base off len esz lim l h (some m)
      |_,_=>none
    |false=>none
   |_,_,_=>none
  |.slice e,.fz xs esz full=>match C.ty e,bndW C G fr 0 lo,bndW C G fr xs.length hi with
   |some k,some l,some h=>match Nat.beq k.size esz with
    |true=>match mx with
     |none=>cutF xs esz full l h none
     |some z=>match hi,bndW C G fr 0 (some z) with
      |some _,some m=>cutF xs esz full l h (some m)
      |_,_=>none
    |false=>none
   |_,_,_=>none
  |.slice e,.nils=>match C.ty e,bndW C G fr 0 lo,bndW C G fr 0 hi,mx with
   |some _,some 0,some 0,none=>some .nils
   |_,_,_,_=>none
  |.str,.str s=>match bndW C G fr 0 lo,bndW C G fr s.length hi,mx with
   |some l,some h,none=>match Nat.ble l h&&Nat.ble h s.length with
    |true=>some (.str ((s.drop l).take (h-l)))
    |false=>none
   |_,_,_=>none
  |_,_=>none
 |_,_=>none
noncomputable def wMkI(t:TypeId)(x:Operand):Option W:=match C.ty t,evW C G fr x with
 |some j,some v=>match j.d with
  |.iface=>none
  |_=>some (.iface t v)
 |_,_=>none
noncomputable def wLen(args:Array Operand)(ats:Array TypeId):Option W:=match ats.toList,args.toList with
 |[t],[x]=>match C.ty t,evW C G fr x with
  |some j,some v=>match j.d,v with
   |.str,.str s=>some (.int .i64 (.ofNat s.length))
   |.slice _,.sl _ _ _ n _ _=>some (.int .i64 (.ofNat n))
   |.slice _,.fz l _ _=>some (.int .i64 (.ofNat l.length))
   |.slice _,.nils=>some (.int .i64 0)
   |.arr n _,_=>some (.int .i64 (.ofNat n))
   |_,_=>none
  |_,_=>none
 |_,_=>none
noncomputable def wMin(args:Array Operand):Option W:=match args.toList with
 |[x,y]=>match evW C G fr x,evW C G fr y with
  |some (.int k m),some (.int _ n)=>some (.int k (match ltI n m with|true=>n|false=>m))
  |_,_=>none
 |_=>none
noncomputable def wMax(args:Array Operand):Option W:=match args.toList with
 |[x,y]=>match evW C G fr x,evW C G fr y with
  |some (.int k m),some (.int _ n)=>some (.int k (match ltI m n with|true=>n|false=>m))
  |_,_=>none
 |_=>none
noncomputable def yuq(o:Op):Option W:=match o with
 |.move x=>evW C G fr x
 |.assign x=>evW C G fr x
 |.pick c x y=>wPick C G fr c x y
 |.extract x i=>wExtract C G fr x i
 |.nilCheck x=>wNil C G fr x
 |.unOp .not _ x=>wNot C G fr x
 |.unOp .neg _ x=>wNeg C G fr x
 |.unOp .xor _ x=>wXor C G fr x
 |.binOp op t x y _=>wBin C G fr op t x y
 |.convert s t x=>wConv C G fr s t x
 |.makeFunc (.func f) a c=>wMake C G fr f a c
 |.build t parts=>wBuild C G fr t parts
 |.field t x i=>wField C G fr t x i
 |.fieldAddr t x i=>veq C G fr t x i
 |.indexAddr t x y=>qXq C G fr t x y
 |.index t x y=>wIndex C G fr t x y
 |.slice t x lo hi mx=>Zpq C G fr t x lo hi mx
 |.makeInterface t x=>wMkI C G fr t x
 |.call ⟨.builtin .len,args,ats⟩=>wLen C G fr args ats
 |.call ⟨.builtin .min,args,_⟩=>wMin C G fr args
 |.call ⟨.builtin .max,args,_⟩=>wMax C G fr args
 |_=>none
end
inductive EvW where
 |loadO (b:Nat)
 |loadF
 |storeO (b:Nat)
 |gen
 |dirty
 |updO (b:Nat)
 |mkO (b:Nat)
noncomputable def zcq(s:List UInt8):List W:=s.map λc=>.int .u8 (.ofNat c.toNat)
noncomputable def k0q:List W->Option (List UInt8)
 |[]=>some []
 |.int .u8 (.ofNat c)::l=>match Nat.blt c 256,k0q l with
  |true,some r=>some (UInt8.ofNat c::r)
  |_,_=>none
 |_=>none
noncomputable def srcW(C:Cfg)(hp:HpW)(tx:TypeId)(esz:Nat)(x:W):Option (List W):=match C.ty tx with
 |none=>none
 |some j=>match j.d,x with
  |.slice _,.nils=>some []
  |.slice _,.fz l e _=>match Nat.beq e esz with
   |true=>some l
   |false=>none
  |.slice _,.sl b _ off n e _=>match Nat.beq e esz,hget hp b with
   |true,some (_,v)=>yiq 50 v off n esz
   |_,_=>none
  |.str,.str s=>match Nat.beq esz 1 with
   |true=>some (zcq s)
   |false=>none
  |_,_=>none
abbrev OutW:=W×HpW×Nat×EvW
noncomputable def appW(C:Cfg)(hp:HpW)(nw:Nat)(ts tx:TypeId)(s x:W):Option OutW:=match C.ty ts with
 |none=>none
 | some j =>match j.d with
  | .slice e=>match C.ty e with
   |none=>none
   | some k =>match Nat.beq k.size 0 with
    |true=>none
    | false =>match srcW C hp tx k.size x with
     |none=>none
     | some news=>match s with
      |.nils=>match news with
       |[]=>some (.nils,hp,nw,.gen)
       |_::_=>match Nat.ble (news.length*k.bytes) 140737488355328&&Nat.ble news.length 70368744177664 with
        |true=>some (.sl nw 0 0 news.length k.size none,(nw,e,.arr (news.length*k.size) k.size news)::hp,nw+1,.gen)
        |false=>none
      |.fz l esz full=>match Nat.beq esz k.size,news with
       |false,_=>none
       |true,[]=>some (.fz l esz full,hp,nw,.gen)
       |true,_::_=>match Nat.ble ((l.length+news.length)*k.bytes) 140737488355328&&Nat.ble (l.length+news.length) 70368744177664&&full with
        |true=>some (.sl nw 0 0 (l.length+news.length) k.size none,(nw,e,.arr ((l.length+news.length)*k.size) k.size (l++news))::hp,nw+1,.gen)
        |false=>none
      | .sl b base off len esz lim=>match Nat.beq esz k.size,news with
       |false,_=>none
       |true,[]=>some (.sl b base off len esz lim,hp,nw,.gen)
       |true,_::_=>match Nat.ble ((len+news.length)*k.bytes) 140737488355328&&Nat.ble (len+news.length) 70368744177664,hget hp b with
        |true,some (ty,v)=>match lim with
         |some c=>match Nat.ble (len+news.length) c with
          |true=>match Nat.ble (off+(len+news.length)*esz) v.size with
           |true=>match putNW v (off+len*esz) esz news with
            |some v'=>some (.sl b base off (len+news.length) esz lim,hset hp b (ty,v'),nw,.updO b)
            |none=>none
           |false=>none
          |false=>match yiq 50 v off len esz with
           |some olds=>some (.sl nw 0 0 (len+news.length) esz none,(nw,e,.arr ((len+news.length)*esz) esz (olds++news))::hp,nw+1,.gen)
           |none=>none
         |none=>match Nat.ble (off+(len+news.length)*esz) v.size with
          |true=>match putNW v (off+len*esz) esz news with
           |some v'=>some (.sl b base off (len+news.length) esz none,hset hp b (ty,v'),nw,.updO b)
           |none=>none
          |false=>match Nat.beq ty e,yiq 50 v off len esz with
           |true,some olds=>some (.sl nw 0 0 (len+news.length) esz none,(nw,e,.arr ((len+news.length)*esz) esz (olds++news))::hdel hp b,nw+1,.updO b)
           |_,_=>none
        |_,_=>none
      |_=>none
  |_=>none
noncomputable def repW(n e:Nat)(z:W):W:=.arr (n*e) e (List.replicate n z)
section
variable (C:Cfg) (G:Nat->Option W) (fr:FrW) (hp:HpW) (nw:Nat)
noncomputable def fillEW(e:Nat):W->List (Nat×Operand) ->Option W
 |v,[]=>some v
 |v,(i,x)::l=>match evW C G fr x with
  |some y=>match Nat.beq y.size e with
   |true=>match yDq 50 v (i*e) y with
    |some v'=>fillEW e v' l
    |none=>none
   |false=>none
  |none=>none
noncomputable def hConv(s:TypeId)(t:TypeId)(x:Operand):Option OutW:=match C.ty s,C.ty t,evW C G fr x with
 |some js,some jt,some v=>match js.d,jt.d,v with
  |.slice e,.str,v=>match Qlq C e,v with
   |some (.int .u8),.nils=>some (.str [],hp,nw,.gen)
   |some (.int .u8),.fz l esz _=>match Nat.beq esz 1 with
    |true=>match k0q l with
     |some r=>some (.str r,hp,nw,.gen)
     |none=>none
    |false=>none
   |some (.int .u8),.sl b _ off n esz _=>match Nat.beq esz 1,hget hp b with
    |true,some (_,bv)=>match yiq 50 bv off n esz with
     |some l=>match k0q l with
      |some r=>some (.str r,hp,nw,.gen)
      |none=>none
     |none=>none
    |_,_=>none
   |_,_=>none
  |_,_,_=>none
 |_,_,_=>none
noncomputable def hLoad(t:TypeId)(x:Operand):Option OutW:=match evW C G fr x,C.ty t with
 |some (.ptr b off),some i=>match hget hp b with
  |some (_,v)=>match zWq 50 v off i.size i.agg with
   |some r=>some (r,hp,nw,.loadO b)
   |none=>none
  |none=>none
 |some (.fel v),some i=>match zWq 50 v 0 i.size i.agg with
  |some r=>some (r,hp,nw,.loadF)
  |none=>none
 |_,_=>none
noncomputable def hStore(t:TypeId)(x:Operand)(y:Operand):Option OutW:=match evW C G fr x,evW C G fr y,C.ty t with
 |some (.ptr b off),some u,some i=>match hget hp b,Nat.beq u.size i.size with
  |some (ty,v),true=>match yDq 50 v off u with
   |some v'=>some (.undef,hset hp b (ty,v'),nw,.storeO b)
   |none=>none
  |_,_=>none
 |_,_,_=>none
noncomputable def hAlloc(t:TypeId):Option OutW:=match C.ty t with
 |some i=>match embW i.zero with
  |some z=>some (.ptr nw 0,(nw,t,z)::hp,nw+1,.gen)
  |none=>none
 |none=>none
noncomputable def hBox(t:TypeId)(x:Operand):Option OutW:=match evW C G fr x with
 |some v=>match v.leaf||v.isAgg with
  |true=>some (.ptr nw 0,(nw,t,v)::hp,nw+1,.gen)
  |false=>none
 |none=>none
noncomputable def hBuildS(t:TypeId)(n:Nat)(parts:Array (Nat×Operand)):Option OutW:=match C.ty t with
 |some i=>match i.d with
  |.slice e=>match C.ty e with
   |some k=>match Nat.beq k.size 0||!Nat.ble (n*k.size) 16777216,embW k.zero with
    |false,some z=>match Nat.beq z.size k.size,fillEW C G fr k.size (repW n k.size z) parts.toList with
     |true,some v=>some (.sl nw 0 0 n k.size none,(nw,e,v)::hp,nw+1,.mkO nw)
     |_,_=>none
    |_,_=>none
   |none=>none
  |_=>none
 |none=>none
noncomputable def hMakeS(t:TypeId)(x:Operand)(y:Operand):Option OutW:=match C.ty t,evW C G fr x,evW C G fr y with
 |some i,some u,some v=>match i.d,natW u,natW v with
  |.slice e,some l,some c=>match C.ty e with
   |some k=>match Nat.beq k.size 0||!Nat.ble l c||!Nat.ble (k.bytes*c) 281474976710656||!Nat.ble c 9223372036854775807,embW k.zero with
    |false,some z=>match Nat.beq z.size k.size with
     |true=>some (.sl nw 0 0 l k.size none,(nw,e,repW c k.size z)::hp,nw+1,.gen)
     |false=>none
    |_,_=>none
   |none=>none
  |_,_,_=>none
 |_,_,_=>none
noncomputable def hAppend(args:Array Operand)(ats:Array TypeId):Option OutW:=match args.toList,ats.toList with
 |[x,y],[ts,tx]=>match evW C G fr x,evW C G fr y with
  |some s,some u=>appW C hp nw ts tx s u
  |_,_=>none
 |_,_=>none
noncomputable def hSlice(t:TypeId)(x:Operand)(lo:Option Operand)(hi:Option Operand)(mx:Option Operand):Option OutW:=match C.ty t,evW C G fr x with
 |some j,some v=>match j.d,v with
  |.arr n e,.ptr b off=>match C.ty e,bndW C G fr 0 lo,bndW C G fr n hi,mx,hget hp b with
   |some k,some l,some r,none,some (_,bv)=>match Nat.beq k.size 0||!Nat.ble l r||!Nat.ble r n||!Nat.ble (off+n*k.size) bv.size with
    |true=>none
    |false=>some (.sl b off (off+l*k.size) (r-l) k.size (some (n-l)),hp,nw,.gen)
   |_,_,_,_,_=>none
  |.arr n e,.fel y=>match C.ty e,bndW C G fr 0 lo,bndW C G fr n hi,mx with
   |some k,some l,some r,none=>match Nat.beq k.size 0||!Nat.ble l r||!Nat.ble r n||!Nat.ble (n*k.size) y.size with
    |true=>none
    |false=>match yiq 50 y (l*k.size) (r-l) k.size with
     |some xs=>some (.fz xs k.size (Nat.beq r n),hp,nw,.gen)
     |none=>none
   |_,_,_,_=>none
  |_,_=>none
 |_,_=>none
noncomputable def opHW:Op->Option OutW
 |.convert s t x=>hConv C G fr hp nw s t x
 |.load t x=>hLoad C G fr hp nw t x
 |.store t x y=>hStore C G fr hp nw t x y
 |.alloc t=>hAlloc C hp nw t
 |.box t x=>hBox C G fr hp nw t x
 |.buildSlice t n parts=>hBuildS C G fr hp nw t n parts
 |.makeSlice t x y=>hMakeS C G fr hp nw t x y
 |.call ⟨.builtin .append,args,ats⟩=>hAppend C G fr hp nw args ats
 |.slice t x lo hi mx=>hSlice C G fr hp nw t x lo hi mx
 |_=>none
end
end
theorem quq{n:Nat}{a b c:List V}(h:a.length+b.length<=n):((fitV n (a++(b++c))).drop a.length).take b.length=b:=by
 simp only[fitV];rw[List.drop_take,List.take_take,List.append_assoc,List.drop_left,List.append_assoc];rw[show min b.length (n-a.length)=b.length by omega,List.take_left]
theorem fit_spliceF{n:Nat}{a b b' c:List V}(h:a.length+b.length<=n)(hb:b'.length=b.length):
  fitV n (a++(b'++c))=(fitV n (a++(b++c))).take a.length++b'++(fitV n (a++(b++c))).drop (a.length+b.length):=by
 simp only[fitV];apply List.ext_getElem?;intro i;simp only[List.append_assoc,List.getElem?_append,List.getElem?_take,List.getElem?_drop,List.length_take,List.length_append,List.length_replicate,hb];have e1:min a.length (min n (a.length+(b.length+(c.length+n))))=a.length:=by omega
 rw[e1];by_cases h1:i<a.length
 ·simp only[h1,if_true,show i<n from by omega]
 ·by_cases h2:i<a.length+b.length
  ·simp only[h1,if_false,show i<n from by omega,if_true,show i-a.length<b.length from by omega]
  ·have e2:a.length+b.length+(i-a.length-b.length)=i:=by omega
   simp only[h1,if_false,show¬i-a.length<b.length from by omega,e2]
theorem ugq:∀(l:List V) (off:Nat) (x:V) (o:Nat),YJq l off=some (x,o) ->
  ∃a c,juq l=a++(zjq x++c)/\a.length+o=off/\o<x.size
 |[],off,x,o,h=>by simp[Z5q] at h
 |v::l,off,x,o,h=>by
  simp only[vAq] at h;split at h
  ·rename_i hlt;simp only[Option.some.injEq,Prod.mk.injEq] at h;obtain⟨rfl,rfl⟩:=h;exact⟨[],juq l,by simp[juq],by simp,hlt⟩
  ·obtain⟨a,c,h1,h2,h3⟩:=ugq l _ x o h;exact⟨zjq v++a,c,by simp[juq,h1],by simp;omega,h3⟩
theorem ySq{l:List V}{a b c d:Nat}(h:c+d<=b):(((l.drop a).take b).drop c).take d=(l.drop (a+c)).take d:=by
 rw[List.drop_take,List.take_take,List.drop_drop,show min d (b-c)=d by omega]
theorem Yjq{e:Nat}:∀(l:List V) (i:Nat) (x:V),l[i]? =some x->∃a c,zXq e l=a++(fitV e (zjq x)++c)/\a.length=i*e
 |[],i,x,h=>by simp at h
 |v::l,0,x,h=>by simp at h;subst h;exact⟨[],zXq e l,by simp[zXq],by simp⟩
 |v::l,i+1,x,h=>by
  simp at h;obtain⟨a,c,h1,h2⟩:=Yjq (e:=e) l i x h;exact⟨fitV e (zjq v)++a,c,by simp[zXq,h1],by simp[h2,Nat.add_mul];omega⟩
theorem xiq:∀(f:Nat) (v:V) (off n:Nat) (ag:Bool) (x:V),xYq f v off n ag=some x->
  x.size=n/\off+n<=v.size/\((zjq v).drop off).take n=zjq x/\(if ag then x.isAgg=true else x.leaf=true)
 |0,v,off,n,ag,x,h=>by simp[ucq] at h
 | f +1,v,off,n,ag,x,h=>by
  simp only[kVq] at h;split at h
  ·rename_i hc;simp only[Bool.and_eq_true,beq_iff_eq] at hc;obtain⟨⟨rfl,rfl⟩,rfl⟩:=hc;split at h
   ·rename_i hl;simp only[Option.some.injEq] at h;subst h;refine⟨rfl,by omega,by rw[List.drop_zero,List.take_of_length_le Xm],?_⟩;split
    ·assumption
    ·rename_i ha;simpa[ha] using hl
   ·cases h
  ·split at h
   ·rename_i m l hne;split at h
    ·rename_i y o hf;split at h
     ·rename_i hle;obtain⟨a,c,h1,h2,h3⟩:=ugq _ _ _ _ hf;obtain⟨g1,g2,g3,g4⟩:=xiq f y o n ag x h;have hle:=Nat.le_of_ble_eq_true hle;refine⟨g1,by simp[V.size];omega,?_,g4⟩;have ha:a.length=off-o:=by omega
      have key:=quq (n:=m) (a:=a) (b:=zjq y) (c:=c) Xo;rw[<-h1] at key;simp only[zjq];rw[<-g3,<-key,ySq Xo,h2]
     ·cases h
    ·cases h
   ·rename_i m e l hne;split at h
    ·rename_i y hy;split at h
     ·rename_i hc;simp only[Bool.and_eq_true,beq_iff_eq] at hc;have hle:=Nat.le_of_ble_eq_true hc.2;obtain⟨a,c,h1,h2⟩:=Yjq (e:=e) _ _ _ hy;obtain⟨g1,g2,g3,g4⟩:=xiq f y (off%e) n ag x h;have hdm:=Nat.div_add_mod off e;rw[Nat.mul_comm] at hdm;refine⟨g1,by simp[V.size];omega,?_,g4⟩;have hfy:fitV e (zjq y)=zjq y:=yaq (by simp[hc.1]);rw[hfy] at h1;have key:=quq (n:=m) (a:=a) (b:=zjq y) (c:=c) Xo;rw[<-h1] at key;simp only[zjq];rw[<-g3,<-key,ySq Xo,h2,hdm]
     ·cases h
    ·cases h
   ·cases h
noncomputable def splF(c:List V)(off:Nat)(vs:List V):List V:=c.take off++vs++c.drop (off+vs.length)
theorem ZGq{g:V->Nat->Option V}:∀(l:List V) (off:Nat) (l':List V) (o s:Nat),QVq g l off=some (l',o,s) ->
  ∃a y y' c,juq l=a++(zjq y++c)/\juq l'=a++(zjq y'++c)/\g y o=some y'/\a.length+o=off/\s=y.size/\o<s
 |[],off,l',o,s,h=>by simp[ZHq] at h
 |v::l,off,l',o,s,h=>by
  simp only[vmq] at h;split at h
  ·rename_i hlt;split at h
   ·rename_i v' hv;simp only[Option.some.injEq,Prod.mk.injEq] at h;obtain⟨rfl,rfl,rfl⟩:=h;exact⟨[],v,v',juq l,by simp[juq],by simp[juq],hv,by simp,rfl,hlt⟩
   ·cases h
  ·split at h
   ·rename_i l1 o1 s1 h1;simp only[Option.some.injEq,Prod.mk.injEq] at h;obtain⟨rfl,rfl,rfl⟩:=h;obtain⟨a,y,y',c,g1,g2,g3,g4,g5,g6⟩:=ZGq l _ _ _ _ h1;exact⟨zjq v++a,y,y',c,by simp[juq,g1],by simp[juq,g2],g3,by simp;omega,g5,g6⟩
   ·cases h
theorem spl_lengthF{c vs:List V}{off:Nat}(h:off+vs.length<=c.length):(splF c off vs).length=c.length:=by simp[splF];omega
theorem spl_splF{b vs a' c':List V}{o:Nat}(h:o+vs.length<=b.length):
  a'++splF b o vs++c'=splF (a'++b++c') (a'.length+o) vs:=by
 have h1:(a'++b++c').take (a'.length+o)=a'++b.take o:=by
  rw[List.append_assoc,List.take_length_add_append,List.take_append_of_le_length Xd]
 have h2:(a'++b++c').drop (a'.length+o+vs.length)=b.drop (o+vs.length)++c':=by
  rw[List.append_assoc,Nat.add_assoc,List.drop_length_add_append,List.drop_append_of_le_length Xd]
 unfold splF;rw[h1,h2];simp only[List.append_assoc]
theorem fit_splF{n o:Nat}{a b b' c vs:List V}(h:a.length+b.length<=n)(hb:b'=splF b o vs)(ho:o+vs.length<=b.length):
  fitV n (a++(b'++c))=splF (fitV n (a++(b++c))) (a.length+o) vs:=by
 have hl:b'.length=b.length:=by rw[hb,spl_lengthF ho]
 rw[fit_spliceF h hl,hb,spl_splF ho];congr 1
 have k:=quq (n:=n) (a:=a) (b:=b) (c:=c) h
 have e:∀(L:List V) (p q:Nat),L.take p++(L.drop p).take q++L.drop (p+q)=L:=λL p q=>by
  rw[List.append_assoc,show L.drop (p+q)=(L.drop p).drop q by rw[List.drop_drop],List.take_append_drop,List.take_append_drop]
 have:=e (fitV n (a++(b++c))) a.length b.length;rw[k] at this;rw[this];simp only[List.length_take,ufq,show min a.length n=a.length by omega]
theorem Qmq{e:Nat}:∀(l:List V) (i:Nat) (x y:V),l[i]? =some x->∃a c,zXq e l=a++(fitV e (zjq x)++c)/\zXq e (l.set i y)=a++(fitV e (zjq y)++c)/\a.length=i*e
 |[],i,x,y,h=>by simp at h
 |v::l,0,x,y,h=>by simp at h;subst h;exact⟨[],zXq e l,by simp[zXq],by simp[zXq],by simp⟩
 |v::l,i+1,x,y,h=>by
  simp at h;obtain⟨a,c,h1,h2,h3⟩:=Qmq (e:=e) l i x y h;exact⟨fitV e (zjq v)++a,c,by simp[zXq,h1],by simp[zXq,h2],by simp[h3,Nat.add_mul];omega⟩
theorem xdq:∀(f:Nat) (v:V) (off:Nat) (x v':V),xXq f v off x=some v'->
  v'.size=v.size/\off+x.size<=v.size/\zjq v'=splF (zjq v) off (zjq x)/\v'.isAgg=v.isAgg/\v'.leaf=v.leaf/\(x.leaf=true\/x.isAgg=true)
 |0,v,off,x,v',h=>by simp[x4q] at h
 | f +1,v,off,x,v',h=>by
  simp only[kQq] at h;split at h
  ·rename_i hc;simp only[Bool.and_eq_true,beq_iff_eq] at hc;obtain⟨⟨rfl,hs⟩,ha⟩:=hc;split at h
   ·rename_i hl;simp only[Option.some.injEq] at h;subst h;simp only[Bool.or_eq_true,Bool.and_eq_true] at hl;refine⟨hs,by omega,by simp[splF,hs],ha,?_,?_⟩
    ·rcases hl with h|h
     ·rw[h] at ha;have e1:∀y:V,y.isAgg=true->y.leaf=false:=λy hy=>by cases y<;>simp[V.isAgg] at hy<;>rfl
      rw[e1 _ h,e1 _ ha.symm]
     ·rw[h.1,h.2]
    ·rcases hl with h|h
     ·exact .inr h
     ·exact .inl h.2
   ·cases h
  ·split at h
   ·rename_i m l hne;split at h
    ·rename_i l' o s hp;split at h
     ·rename_i hle;simp only[Option.some.injEq] at h;subst h;have hle:=Nat.le_of_ble_eq_true hle;obtain⟨a,y,y',c,g1,g2,g3,g4,g5,g6⟩:=ZGq _ _ _ _ _ hp;obtain⟨k1,k2,k3,k4,k5,k6⟩:=xdq f y o x y' g3;refine⟨rfl,by show off+x.size<=m;omega,?_,rfl,rfl,k6⟩;simp only[zjq];rw[g2,g1,fit_splF (o:=o) (vs:=zjq x) Xo k3 Xo,g4]
     ·cases h
    ·cases h
   ·rename_i m e l hne;split at h
    ·rename_i y hy;split at h
     ·rename_i hc;simp only[Bool.and_eq_true,beq_iff_eq] at hc;have hle:=Nat.le_of_ble_eq_true hc.2;split at h
      ·rename_i y' hy';simp only[Option.some.injEq] at h;subst h;obtain⟨k1,k2,k3,k4,k5,k6⟩:=xdq f y (off%e) x y' hy';obtain⟨a,c,h1,h2,h3⟩:=Qmq (e:=e) l (off/e) y y' hy;have hdm:=Nat.div_add_mod off e;rw[Nat.mul_comm] at hdm;refine⟨rfl,by show off+x.size<=m;omega,?_,rfl,rfl,k6⟩;rw[yaq (by simp[hc.1])] at h1;rw[yaq (by simp[k1,hc.1])] at h2;simp only[zjq];rw[h2,h1,fit_splF (o:=off%e) (vs:=zjq x) Xo k3 Xo,h3,hdm]
      ·cases h
     ·cases h
    ·cases h
   ·cases h
end
end Go.Proofs.YtpjfmknefefapaaGreatDoor

/-
  What the proof of TaleNames stands on, part 2. No condition.
-/
import Derived.Laws.RangeString
import Derived.Lib.Bytealg
import Derived.Lib.AppendZeros
import Derived.LoopNIn
import Derived.Test.YthicobhmmikngaaGreatDoorZTaleNamesA
set_option linter.unusedSimpArgs false
set_option linter.unusedVariables false
namespace Go.Proofs.YthicobhmmikngaaGreatDoor
section
open Go.RowKit
section
variable {P:Program} {C:Cfg} {s0:World} {U:Nat} {D:Nat->Prop} {ρ:Env} {fr:Tr V} {a:Act} {w:World} {h:Heap}
theorem app_room(r:Rel s0 U D ρ h w){ts tx ty e bty:TypeId}{inf:TypeInfo}{b base off len esz:Nat}{lim:Option Nat}{v v':V}{news:List V}{x:Value}(hu:P.underlying ts=some (.slice e))(hi:P.info? e=some inf)(hsz:inf.size=esz)
  (hin:InD (DD D ρ) (.sl b base off len esz lim)) (hg:h.get b=some (.cells bty v)) (hn:news≠[]) (hle:off+(len+news.length)*esz<=v.size) (hlim:∀c,lim=some c->len+news.length<=c) (hp:putN v (off+len*esz) esz news=some v')
  (hs:Src P esz tx x news.length (zqq ρ esz news) w) (hni:InDL (DD D ρ) news):
  ∃w',(Builtin.append_ #[ts,tx] ty #[conc ρ (.sl b base off len esz lim),x]).run P w= .ok (conc ρ (.sl b base off (len+news.length) esz lim)) w'/\Rel s0 U D ρ (h.put b (.cells bty v')) w'/\Nxt D ρ h w D ρ (h.put b (.cells bty v')) w'/\InD (DD D ρ) (.sl b base off (len+news.length) esz lim):=by
 subst hsz
 have hn0:0<news.length:=by cases news with
  |nil=>exact absurd rfl hn
  |cons _ _=>simp
 obtain⟨hpos,hlen,hD,hroom⟩:=hin;obtain⟨k1,k2,k3,k4,k5,k6,k7⟩:=k1q (ρ:=ρ) news v _ v' hp;rw[if_neg hn] at k3;have hvin:InD (DD D ρ) v:=r.clo b _ hD hg;obtain⟨o,h1,pre,tail,rfl,h2,h3⟩:=r.has b _ hD hg
 have hcap:len+news.length<=z4q ρ b off inf.size lim:=by
  cases lim with
  |some c=>exact hlim c rfl
  |none=>simp only[z4q];rw[Nat.le_div_iff_mul_le hpos];omega
 have hc0:¬z4q ρ b off inf.size lim=0:=by omega
 have hmul:(len+news.length)*inf.size=len*inf.size+news.length*inf.size:=Nat.add_mul _ _ _;have hnl:(zqq ρ inf.size news).length=news.length*inf.size:=zIq _ _ _
 have hin2:ρ.pre b+off+len*inf.size+(zqq ρ inf.size news).length<=(pre++(cellsV ρ v++tail)).toArray.size:=by
  simp only[List.size_toArray,List.length_append,ykq];omega
 have hcell:∀j,j<(zqq ρ inf.size news).length->(w.cell? ⟨ρ.b b,ρ.pre b+off+len*inf.size+j,none⟩).isSome=true:=λj hj=>by
  simp only[World.cell?,h1];have:ρ.pre b+off+len*inf.size+j<(pre++(cellsV ρ v++tail)).toArray.size:=by omega
  simp only[Option.isSome_none,Bool.false_eq_true,if_false];rw[Array.getElem?_eq_getElem this];rfl
 have hfrz:∀j,j<(zqq ρ inf.size news).length->w.frozen? ⟨ρ.b b,ρ.pre b+off+len*inf.size+j,none⟩=false:=λj _=>by simp[World.frozen?,h1]
 have key:=run_append_room_src w ts tx ty e inf hu hi (ρ.b b) (ρ.pre b+off) len (z4q ρ b off inf.size lim) x news.length (zqq ρ inf.size news) hs hcap hcell hfrz;have ht:=yHq (zqq ρ inf.size news) (ρ.pre b+off+len*inf.size) w (ρ.b b) _ bty h1 hin2;obtain⟨pre',tail',g1,g2,g3⟩:=k0q r hD hg k1 k3 (by rw[hnl];omega) (k6 _ hvin hni);rw[h1] at g1
 have hcs:(pre++(cellsV ρ v++tail)).toArray=(pre'++(cellsV ρ v++tail')).toArray:=by
  simp only[Option.some.injEq,Obj.cells.injEq] at g1;exact g1.1
 rw[hcs,Nat.add_assoc] at ht;obtain⟨r',n'⟩:=g3 _ ht;refine⟨_,?_,r',n',hpos,?_,hD,?_⟩
 ·simp only[conc,z7q,hc0,if_false];rw[key,Nat.add_assoc]
 ·cases lim with
  |some c=>exact hlim c rfl
  |none=>exact Nat.le_refl _
 ·cases lim with
  |some c=>exact hroom
  |none=>simp only[Option.getD_none];omega
theorem app_amb(hC:CfgOK P C)(r:Rel s0 U D ρ h w)(hU:h.next+1<=U){ts tx ty e:TypeId}{k:TyI}{b base off len:Nat}{v:V}{olds news:List V}{x:Value}(hu:P.underlying ts=some (.slice e))(hk:C.ty e=some k)(hk0:0<k.size)(hso:soloB e=false)
  (hin:InD (DD D ρ) (.sl b base off len k.size none)) (hg:h.get b=some (.cells e v)) (hn:news≠[]) (ho:qMq 50 v off len k.size=some olds)
  (hs:Src P k.size tx x news.length (zqq ρ k.size news) w) (hb:(len+news.length)*k.bytes<=140737488355328) (hm:len+news.length<=70368744177664) (hni:InDL (DD D ρ) news):
  ∃val D' ρ' w',(Builtin.append_ #[ts,tx] ty #[conc ρ (.sl b base off len k.size none),x]).run P w= .ok val w'/\val=conc ρ' (.sl h.next 0 0 (len+news.length) k.size none)/\
   Rel s0 U D' ρ' ((h.push (.cells e (.arr ((len+news.length)*k.size) k.size (olds++news)))).kill b) w'/\Nxt D ρ h w D' ρ' ((h.push (.cells e (.arr ((len+news.length)*k.size) k.size (olds++news)))).kill b) w'/\InD (DD D' ρ') (.sl h.next 0 0 (len+news.length) k.size none):=by
 have hn0:0<news.length:=by cases news with
  |nil=>exact absurd rfl hn
  |cons _ _=>simp
 obtain⟨g1,g2,g3,g4⟩:=yCq (ρ:=ρ) 50 v off len k.size olds ho;have hvin:InD (DD D ρ) v:=r.clo b _ hin.2.2.1 hg;have hoi:=g4 _ hvin;obtain⟨hpos,hlen,hD,hroom⟩:=hin;have hin:InD (DD D ρ) (.sl b base off len k.size none):=⟨hpos,hlen,hD,hroom⟩;have hval:h.val b=some v:=by simp[Heap.val,hg]
 by_cases hcap:len+news.length<=z4q ρ b off k.size none
 ·--in place
  obtain⟨inf,hi,hsz,_⟩:=(hC.ty e k hk).info;rw[<-hsz] at hs ho g2 g3 hroom hpos hcap⊢;obtain⟨o,h1,pre,tail,rfl,h2,h3⟩:=r.has b _ hD hg;have hc0:¬z4q ρ b off inf.size none=0:=by omega
  have hmul:(len+news.length)*inf.size=len*inf.size+news.length*inf.size:=Nat.add_mul _ _ _;have hnl:(zqq ρ inf.size news).length=news.length*inf.size:=zIq _ _ _;have hol:(zqq ρ inf.size olds).length=len*inf.size:=by rw[zIq,g1]
  have hfit:off+(len+news.length)*inf.size<=ρ.cap b:=by
   have h4:=hcap;simp only[z4q] at h4;rw[Nat.le_div_iff_mul_le hpos] at h4;simp only[Option.getD_none] at hroom;omega
  obtain⟨L,hL⟩:∃L,L=pre++(cellsV ρ v++tail):=⟨_,rfl⟩
  rw[<-hL] at h1;have hLl:L.length=ρ.pre b+ρ.cap b:=by rw[hL];simp only[List.length_append,ykq];omega
  have hin2:ρ.pre b+off+len*inf.size+(zqq ρ inf.size news).length<=L.toArray.size:=by
   simp only[List.size_toArray];omega
  have hcell:∀j,j<(zqq ρ inf.size news).length->(w.cell? ⟨ρ.b b,ρ.pre b+off+len*inf.size+j,none⟩).isSome=true:=λj hj=>by
   simp only[World.cell?,h1];have:ρ.pre b+off+len*inf.size+j<L.toArray.size:=by omega
   simp only[Option.isSome_none,Bool.false_eq_true,if_false];rw[Array.getElem?_eq_getElem this];rfl
  have hfrz:∀j,j<(zqq ρ inf.size news).length->w.frozen? ⟨ρ.b b,ρ.pre b+off+len*inf.size+j,none⟩=false:=λj _=>by simp[World.frozen?,h1]
  have key:=run_append_room_src w ts tx ty e inf hu hi (ρ.b b) (ρ.pre b+off) len (z4q ρ b off inf.size none) x news.length (zqq ρ inf.size news) hs hcap hcell hfrz;have ht:=yHq (zqq ρ inf.size news) (ρ.pre b+off+len*inf.size) w (ρ.b b) _ e h1 hin2
  have hO:(L.drop (ρ.pre b+off)).take (len*inf.size)=zqq ρ inf.size olds:=by
   rw[hL,<-h2,List.drop_length_add_append,List.drop_append_of_le_length Xc,List.take_append_of_le_length Xc,g3]
  have hv:InD (DD D ρ) (.arr ((len+news.length)*inf.size) inf.size (olds++news)):=InDL_iff.2 λy hy=>by
   rcases List.mem_append.1 hy with h|h
   ·exact InDL_iff.1 hoi y h
   ·exact InDL_iff.1 hni y h
  have hne:=r.next_new hU;have hag:Env.Agree (DD D ρ) ρ (ρ.add h.next (ρ.b b) (ρ.pre b+off) (ρ.cap b-off)):=Env.add_agree hne
  have hcells:cellsV (ρ.add h.next (ρ.b b) (ρ.pre b+off) (ρ.cap b-off)) (.arr ((len+news.length)*inf.size) inf.size (olds++news))=zqq ρ inf.size olds++zqq ρ inf.size news:=by
   rw[yAq hag hv];simp only[cellsV];rw[yrq (by rw[zIq];simp[g1]),jZq]
  have hkn:KnB (ρ.add h.next (ρ.b b) (ρ.pre b+off) (ρ.cap b-off)) h.next (.cells e (.arr ((len+news.length)*inf.size) inf.size (olds++news))) (.cells (q9q L.toArray (ρ.pre b+off+len*inf.size) (zqq ρ inf.size news).toArray) e):=by
   refine⟨L.take (ρ.pre b+off),L.drop (ρ.pre b+off+len*inf.size+(zqq ρ inf.size news).length),?_,?_,?_⟩
   ·rw[hcells];congr 1
    simp only[q9q,List.size_toArray];congr 1
    rw[List.take_add,hO];simp[List.append_assoc]
   ·simp[Env.add];omega
   ·refine⟨?_,λhq=>by rw[hso] at hq;cases hq⟩;show(len+news.length)*inf.size+_=_;simp only[Env.add,if_true,List.length_drop];omega
  obtain⟨r',n'⟩:=r.move hU (B':=.cells e (.arr ((len+news.length)*inf.size) inf.size (olds++news))) hD hg Z Z ht hv hkn;refine⟨.slice (some ⟨ρ.b b,ρ.pre b+off,none⟩) (len+news.length) (z4q ρ b off inf.size none),_,_,_,?_,?_,r',n',hpos,Nat.le_refl _,.inr rfl,?_⟩
  ·simp only[conc,z7q,hc0,if_false];exact key
  ·have hsc:z4q (ρ.add h.next (ρ.b b) (ρ.pre b+off) (ρ.cap b-off)) h.next 0 inf.size none=z4q ρ b off inf.size none:=by simp[z4q,Env.add]
   simp only[conc,z7q,hsc,hc0,if_false];simp[Env.add]
  ·simp only[Env.add,if_true,Option.getD_none];omega
 ·--a new row
  have hold:(Builtin.firstCells k.size len (conc ρ (.sl b base off len k.size none))).run P w.drew= .ok (zqq ρ k.size olds).toArray w.drew:=by
   simp only[conc,z7q]
   exact run_firstCells_some w.drew k.size len _ len _ _ (by rw[zIq,g1]) λj u hj=>by
    have:=jmq r hin hval ho j u hj;simpa using this
  obtain⟨val,D',ρ',w',q1,q2,q3,q4,q5⟩:=ZDq (ty:=ty) hC r hU hu hk hk0 (base:=some (if z4q ρ b off k.size none=0 then x3q ρ b base else⟨ρ.b b,ρ.pre b+off,none⟩)) (cap:=z4q ρ b off k.size none) hold g1 hs Xa hb hm hoi hni;obtain⟨k1,k2⟩:=q3.kill b;exact⟨val,D',ρ',w',q1,q2,k1,q4.trans r.lt (by exact hU) k2,q5⟩
theorem app_sound(hC:CfgOK P C)(r:Rel s0 U D ρ h w){ts tx ty:TypeId}{s x v:V}{h':Heap}(hs:InD (DD D ρ) s)(hx:InD (DD D ρ) x)(ha:jDq C h ts tx s x=some (v,h'))(hU:h'.next<=U):
  ∃val D' ρ' w',(Builtin.append_ #[ts,tx] ty #[conc ρ s,conc ρ x]).run P w= .ok val w'/\val=conc ρ' v/\Rel s0 U D' ρ' h' w'/\Nxt D ρ h w D' ρ' h' w'/\InD (DD D' ρ') v:=by
 unfold jDq at ha;split at ha
 ·cases ha
 rename_i j hj;split at ha
 case h_2=>cases ha
 rename_i e he;have hd:=(hC.ty ts j hj).d;rw[he] at hd;have hu:P.underlying ts=some (.slice e):=hd;split at ha
 ·cases ha
 rename_i k hk;split at ha
 ·cases ha
 rename_i hz
 have hk0:0<k.size:=by
  rcases Nat.eq_zero_or_pos k.size with h0|h0
  ·rw[x5q h0] at hz;cases hz
  ·exact h0
 split at ha
 ·cases ha
 rename_i news hnews;obtain⟨hsrc,hni⟩:=srcV_spec hC r hx hnews;obtain⟨inf,hi,hsz,hby,_⟩:=(hC.ty e k hk).info;split at ha
 ·--onto nothing
  split at ha
  ·cases ha;refine⟨_,D,ρ,w,?_,rfl,r,Nxt.refl _ _ _ _,trivial⟩;rcases hsrc.kind with ⟨e',hk'⟩|hk'<;>simp[conc,Builtin.append_,run_underlying hu,run_underlying hk',sizeOf,typeInfo,hi,hsrc.len]<;>(have:=hsrc.cells;simp[zqq] at this;rw[hsz];simp[this])
  ·rename_i y ys;split at ha
   ·rename_i hc;simp only[Bool.and_eq_true] at hc;have hc1:=Zb hc.1;have hc2:=Zb hc.2;cases ha;obtain⟨val,D',ρ',w',q1,q2,q3,q4,q5⟩:=ZDq (ty:=ty) hC r hU hu hk hk0 (base:=none) (cap:=0) (len:=0) (olds:=[]) (news:=y::ys) (run_firstCells_none _ _ _ _ _) rfl hsrc Xe (by simpa using hc1) (by simpa using hc2) trivial hni;simp only[Nat.zero_add,List.nil_append] at q2 q3 q4 q5;exact⟨val,D',ρ',w',by simpa[conc] using q1,q2,q3,q4,q5⟩
   ·cases ha
 ·-- onto a slice
  rename_i b base off len esz lim;split at ha
  ·cases ha
  ·--nothing more
   rename_i hes;rw[Nat.beq_eq] at hes;cases ha;refine⟨_,D,ρ,w,?_,rfl,r,Nxt.refl _ _ _ _,hs⟩;have hc:=jnq hs;rcases hsrc.kind with ⟨e',hk'⟩|hk'<;>simp[conc,z7q,Builtin.append_,run_underlying hu,run_underlying hk',sizeOf,typeInfo,hi,hsrc.len,hc]<;>(have:=hsrc.cells;simp[zqq] at this;rw[hsz];simp[this,storeCells])
  ·rename_i y ys hes;rw[Nat.beq_eq] at hes;subst hes;split at ha
   ·cases ha
   rename_i hc;simp only[Bool.and_eq_true] at hc;have hc1:=Zb hc.1;have hc2:=Zb hc.2;split at ha
   ·-- a limit is known
    rename_i c;split at ha
    ·rename_i hroom;have hroom:=Zb hroom;split at ha
     ·rename_i bty bv hg;split at ha
      ·rename_i hle;have hle:=Zb hle;split at ha
       ·rename_i v' hp;cases ha;obtain⟨w',q1,q2,q3,q4⟩:=app_room (ty:=ty) r hu hi hsz hs hg Xe hle (λc' hc'=>by cases hc';exact hroom) hp hsrc hni;exact⟨_,D,ρ,w',q1,rfl,q2,q3,q4⟩
       ·cases ha
      ·cases ha
     ·cases ha
    ·rename_i hroom;have hroom:¬len+(y::ys).length<=c:=λh'=>by rw[Nat.ble_eq_true_of_le h'] at hroom;cases hroom
     split at ha
     ·rename_i bv hv;split at ha
      ·rename_i olds ho;cases ha;obtain⟨g1,g2,g3,g4⟩:=yCq (ρ:=ρ) 50 bv off len k.size olds ho;obtain⟨_,_,_,_,_,_,_,hvin⟩:=r.val hs.2.2.1 hv
       have hold:(Builtin.firstCells k.size len (conc ρ (.sl b base off len k.size (some c)))).run P w.drew= .ok (zqq ρ k.size olds).toArray w.drew:=by
        simp only[conc,z7q]
        exact run_firstCells_some w.drew k.size len _ len _ _ (by rw[zIq,g1]) λj u hj=>by
         have:=jmq r hs hv ho j u hj;simpa using this
       exact ZDq (ty:=ty) hC r hU hu hk hk0 hold g1 hsrc (by simp only[z4q];omega) hc1 hc2 (g4 _ hvin) hni
      ·cases ha
     ·cases ha
   ·split at ha
    ·rename_i bty bv hg;split at ha
     ·rename_i hle;have hle:=Zb hle;split at ha
      ·rename_i v' hp;cases ha;obtain⟨w',q1,q2,q3,q4⟩:=app_room (ty:=ty) r hu hi hsz hs hg Xe hle (λc' hc'=>by cases hc') hp hsrc hni;exact⟨_,D,ρ,w',q1,rfl,q2,q3,q4⟩
      ·cases ha
     ·split at ha
      ·rename_i olds hty ho;obtain⟨rfl,hso⟩:=tyApp_of hty;cases ha;exact app_amb (ty:=ty) hC r hU hu hk hk0 hso hs hg Xe ho hsrc hc1 hc2 hni
      ·cases ha
    ·cases ha
 ·cases ha
theorem src_first(hC:CfgOK P C)(r:Rel s0 U D ρ h w){tx:TypeId}{esz:Nat}{x:V}{all:List V}(hx:InD (DD D ρ) x)(hs:srcV C h tx esz x=some all){m:Nat}(hm:m<=all.length):
  (Builtin.firstCells esz m (conc ρ x)).run P w= .ok (zqq ρ esz (all.take m)).toArray w:=by
 unfold srcV at hs;split at hs
 ·cases hs
 ·rename_i j hj;split at hs
  ·cases hs;obtain rfl:m=0:=by simpa using hm
   exact run_firstCells_none _ _ _ _ _
  ·rename_i e b base off n e' lim he;split at hs
   ·rename_i v hes hv;rw[Nat.beq_eq] at hes;subst hes;obtain⟨g1,g2,g3,g4⟩:=yCq (ρ:=ρ) 50 v off n e' all hs;simp only[conc,z7q];refine run_firstCells_some w e' m _ n _ _ (by rw[zIq,List.length_take];congr 1;omega) λj u hj=>?_
    rw[xKq,List.getElem?_take] at hj;split at hj
    ·exact jmq r hx hv hs j u hj
    ·cases hj
   ·cases hs
  ·rename_i s he;split at hs
   ·rename_i h1;rw[Nat.beq_eq] at h1;subst h1;cases hs;have hb:=qRq ρ (s.take m);have ht:(yPq s).take m=yPq (s.take m):=by simp[yPq,List.map_take]
    rw[ht,hb];simp only[conc,Builtin.firstCells,Sem.run_pure];rw[show(⟨⟨s⟩⟩:ByteArray).extract 0 m=⟨⟨s.take m⟩⟩ by rw[ukq];simp];congr 1
    apply Array.ext';simp
   ·cases hs
  ·cases hs
theorem copy_sound(hC:CfgOK P C)(r:Rel s0 U D ρ h w){ts tx ty:TypeId}{s x v:V}{h':Heap}(hs:InD (DD D ρ) s)(hx:InD (DD D ρ) x)(ha:copyV C h ts tx s x=some (v,h')):
  ∃w',(Builtin.copy_ #[ts,tx] ty #[conc ρ s,conc ρ x]).run P w= .ok (conc ρ v) w'/\Rel s0 U D ρ h' w'/\Nxt D ρ h w D ρ h' w'/\InD (DD D ρ) v:=by
 unfold copyV at ha;split at ha
 ·cases ha
 rename_i j hj;split at ha
 case h_2=>cases ha
 rename_i e he;have hd:=(hC.ty ts j hj).d;rw[he] at hd;have hu:P.underlying ts=some (.slice e):=hd;split at ha
 ·cases ha
 rename_i k hk;split at ha
 ·cases ha
 rename_i all hall;obtain⟨hsrc,hni⟩:=srcV_spec hC r hx hall;obtain⟨inf,hi,hsz,hby,_⟩:=(hC.ty e k hk).info;have hfirst:∀m,m<=all.length->(Builtin.firstCells inf.size m (conc ρ x)).run P w= .ok (zqq ρ k.size (all.take m)).toArray w:=λm hm=>by rw[hsz];exact src_first hC r hx hall hm
 have hmin:∀n,Nat.min all.length n<=all.length:=λn=>Nat.min_le_left _ _
 split at ha
 ·cases ha;refine⟨w,?_,r,Nxt.refl _ _ _ _,trivial⟩;have:=hfirst 0 (Nat.zero_le _);simp[conc,Builtin.copy_,run_underlying hu,sizeOf,typeInfo,hi,hsrc.len,this,goInt]
 ·rename_i b base off len esz lim;have hc:=jnq hs;split at ha
  ·rename_i hes htk;cases ha;refine⟨w,?_,r,Nxt.refl _ _ _ _,trivial⟩
   have h0:Nat.min all.length len=0:=by
    have:=congrArg List.length htk;simp only[List.length_take,List.length_nil] at this;show min all.length len=0;omega
   have:=hfirst 0 (Nat.zero_le _);simp only[List.take_zero,zqq] at this;simp[conc,z7q,Builtin.copy_,run_underlying hu,sizeOf,typeInfo,hi,hsrc.len,h0,this,goInt,storeCells]
  ·rename_i y ys hes htk;rw[Nat.beq_eq] at hes;subst hes;split at ha
   ·rename_i bty bv hg;split at ha
    ·rename_i hle;have hle:=Zb hle;split at ha
     ·rename_i v' hp;cases ha
      have hnl:Nat.min all.length len=(y::ys).length:=by
       have:=congrArg List.length htk;simp only[List.length_take] at this;show min all.length len=_;omega
      obtain⟨hpos,hlen,hD,hroom⟩:=hs;obtain⟨k1,k2,k3,k4,k5,k6,k7⟩:=k1q (ρ:=ρ) (y::ys) bv _ v' hp;rw[if_neg Xe] at k3;have hvin:InD (DD D ρ) bv:=r.clo b _ hD hg;obtain⟨o,h1,pre,tail,rfl,h2,h3⟩:=r.has b _ hD hg
      have hc0:¬z4q ρ b off k.size lim=0:=by
       have:(y::ys).length<=len:=by rw[<-hnl];exact Nat.min_le_right _ _
       simp only[List.length_cons] at this;omega
      have hlen':(y::ys).length=ys.length+1:=rfl;have hcl:(zqq ρ k.size (y::ys)).length=(y::ys).length*k.size:=zIq _ _ _
      have hin2:ρ.pre b+off+(zqq ρ k.size (y::ys)).length<=(pre++(cellsV ρ bv++tail)).toArray.size:=by
       simp only[List.size_toArray,List.length_append,ykq];rw[hcl,hlen'];omega
      have hcell:∀j,j<(zqq ρ k.size (y::ys)).length->(w.cell? ⟨ρ.b b,ρ.pre b+off+0+j,none⟩).isSome=true:=λj hj=>by
       simp only[World.cell?,h1];have:ρ.pre b+off+0+j<(pre++(cellsV ρ bv++tail)).toArray.size:=by omega
       simp only[Option.isSome_none,Bool.false_eq_true,if_false];rw[Array.getElem?_eq_getElem this];rfl
      have hfrz:∀j,j<(zqq ρ k.size (y::ys)).length->w.frozen? ⟨ρ.b b,ρ.pre b+off+0+j,none⟩=false:=λj _=>by simp[World.frozen?,h1]
      have hst:=run_storeCells_cells (P:=P) (ρ.b b) (ρ.pre b+off) (zqq ρ k.size (y::ys)) 0 w hcell hfrz (jfq ρ k.size (y::ys));have ht:=yHq (zqq ρ k.size (y::ys)) (ρ.pre b+off) w (ρ.b b) _ bty h1 hin2;obtain⟨pre',tail',g1,g2,g3⟩:=k0q r hD hg k1 k3 (by rw[hcl,hlen'];exact hle) (k6 _ hvin (by rw[<-htk];exact InDL_iff.2 λz hz=>InDL_iff.1 hni z (List.mem_of_mem_take hz)));rw[h1] at g1
      have hcs:(pre++(cellsV ρ bv++tail)).toArray=(pre'++(cellsV ρ bv++tail')).toArray:=by
       simp only[Option.some.injEq,Obj.cells.injEq] at g1;exact g1.1
      rw[hcs] at ht;obtain⟨r',n'⟩:=g3 _ ht;refine⟨_,?_,r',n',trivial⟩;have hf:=hfirst (y::ys).length (by rw[<-hnl];exact Nat.min_le_left _ _)
      have htk2:all.take (y::ys).length=y::ys:=by
       rw[<-htk];simp only[List.length_take];rw[List.take_eq_take_iff];omega
      rw[htk2] at hf;simp only[Nat.add_zero] at hst;simp only[conc,z7q,hc0,if_false];have hnl:Nat.min all.length len=ys.length+1:=hnl;have hf:(Builtin.firstCells inf.size (ys.length+1) (conc ρ x)).run P w= .ok (zqq ρ k.size (y::ys)).toArray w:=hf;simp[Builtin.copy_,run_underlying hu,sizeOf,typeInfo,hi,hsrc.len,hnl,hf,hst,goInt]
     ·cases ha
    ·cases ha
   ·cases ha
  ·cases ha
 ·cases ha
theorem clear_sound(hC:CfgOK P C)(r:Rel s0 U D ρ h w){t ty e bty:TypeId}{k:TyI}{b base off n:Nat}{lim:Option Nat}{bv v':V}(hu:P.underlying t=some (.slice e))(hk:C.ty e=some k)(hs:InD (DD D ρ) (.sl b base off (n+1) k.size lim))(hg:h.get b=some (.cells bty bv))(hle:off+(n+1)*k.size<=bv.size)
  (hp:putN bv off k.size (List.replicate (n+1) k.zero)=some v'):
  ∃w',(Builtin.clear_ #[t] ty #[conc ρ (.sl b base off (n+1) k.size lim)]).run P w= .ok (.tuple #[]) w'/\Rel s0 U D ρ (h.put b (.cells bty v')) w'/\Nxt D ρ h w D ρ (h.put b (.cells bty v')) w':=by
 have ok:=hC.ty e k hk;have hz:=ytq (P:=P) (ok.zero ρ);have zin:InD (DD D ρ) k.zero:=ok.zin.mono λ_ _ h=>h.elim
 have hc:=jnq hs;obtain⟨hpos,hlen,hD,hroom⟩:=hs;obtain⟨k1,k2,k3,k4,k5,k6,k7⟩:=k1q (ρ:=ρ) (List.replicate (n+1) k.zero) bv _ v' hp;rw[if_neg Xe] at k3;have hvin:InD (DD D ρ) bv:=r.clo b _ hD hg;obtain⟨o,h1,pre,tail,rfl,h2,h3⟩:=r.has b _ hD hg;have hc0:¬z4q ρ b off k.size lim=0:=by omega
 have hcl:(zqq ρ k.size (List.replicate (n+1) k.zero)).length=(n+1)*k.size:=by rw[zIq];simp
 have hzs:(conc ρ k.zero).cells=(cellsV ρ k.zero).toArray:=yyq (by
  cases ha:k.agg with
  |true=>exact .inr Xi
  |false=>exact .inl (ok.zleaf ha))
 have hzc:(Builtin.zeroCells (conc ρ k.zero).cells (n+1)).toList=zqq ρ k.size (List.replicate (n+1) k.zero):=by
  have:=kZq ρ (n+1) k.size k.zero ok.zsize hpos
  have h4:cellsV ρ (repV (n+1) k.size k.zero)=zqq ρ k.size (List.replicate (n+1) k.zero):=by
   simp only[repV,cellsV];rw[yrq hcl]
  rw[h4] at this;have h5:=congrArg Array.toList this;simp only at h5;rw[h5,hzs];unfold Builtin.zeroCells;simp[ok.zsize]
 have hin2:ρ.pre b+off+(zqq ρ k.size (List.replicate (n+1) k.zero)).length<=(pre++(cellsV ρ bv++tail)).toArray.size:=by
  simp only[List.size_toArray,List.length_append,ykq];rw[hcl];omega
 have hcell:∀j,j<(zqq ρ k.size (List.replicate (n+1) k.zero)).length->(w.cell? ⟨ρ.b b,ρ.pre b+off+0+j,none⟩).isSome=true:=λj hj=>by
  simp only[World.cell?,h1];have:ρ.pre b+off+0+j<(pre++(cellsV ρ bv++tail)).toArray.size:=by omega
  simp only[Option.isSome_none,Bool.false_eq_true,if_false];rw[Array.getElem?_eq_getElem this];rfl
 have hfrz:∀j,j<(zqq ρ k.size (List.replicate (n+1) k.zero)).length->w.frozen? ⟨ρ.b b,ρ.pre b+off+0+j,none⟩=false:=λj _=>by simp[World.frozen?,h1]
 have hst:=run_storeCells_cells (P:=P) (ρ.b b) (ρ.pre b+off) (zqq ρ k.size (List.replicate (n+1) k.zero)) 0 w hcell hfrz (jfq ρ k.size _);have ht:=yHq (zqq ρ k.size (List.replicate (n+1) k.zero)) (ρ.pre b+off) w (ρ.b b) _ bty h1 hin2;obtain⟨pre',tail',g1,g2,g3⟩:=k0q r hD hg k1 k3 (by rw[hcl];exact hle) (k6 _ hvin (InDL_iff.2 λz hz=>by rw[(List.mem_replicate.1 hz).2];exact zin));rw[h1] at g1
 have hcs:(pre++(cellsV ρ bv++tail)).toArray=(pre'++(cellsV ρ bv++tail')).toArray:=by
  simp only[Option.some.injEq,Obj.cells.injEq] at g1;exact g1.1
 rw[hcs] at ht;obtain⟨r',n'⟩:=g3 _ ht;refine⟨_,?_,r',n'⟩;simp only[Nat.add_zero] at hst;simp only[conc,z7q,hc0,if_false];simp[Builtin.clear_,run_underlying hu,hz,hzc,hst]
theorem Zaq{P:Program}{w:World}{q:Nat}{cs:Array Value}{ty:TypeId}(h:w.heap[q]? =some (.cells cs ty (0,0))):
  ∃w',(∀off,(markStringish ⟨q,off,none⟩).run P w= .ok () w')/\Turned q (.cells cs ty (cs.size,cs.size+1)) w w':=by
 have hlt:=(Array.getElem?_eq_some_iff.1 h).1;refine⟨w.putObj q (.cells cs ty (cs.size,cs.size+1)),λoff=>?_,ybq _ hlt⟩;have hsh:w.shape? q=some (ty,cs.size):=by simp[World.shape?,h]
 have hfr:w.freeze ⟨q,cs.size,none⟩ 1=w.putObj q (.cells cs ty (cs.size,cs.size+1)):=by
  unfold World.freeze World.putObj;rw[if_neg Xd];congr 1
  apply Array.ext_getElem?;intro j;rw[Array.getElem?_modify,Array.getElem?_setIfInBounds];by_cases e:q=j
  ·subst e
   have hq:w.heap[q]= .cells cs ty (0,0):=by
    have:=h;rw[Array.getElem?_eq_getElem hlt] at this;exact Option.some.inj this
   simp[hlt,hq]
  ·simp[e]
 simp[markStringish,hsh,hfr]
theorem yvq{e:TypeId}{d:TyD}(h:jXq C e=some d):∃k,C.ty e=some k/\k.d=d:=by
 unfold jXq at h;split at h
 ·rename_i k hk;cases h;exact⟨k,hk,rfl⟩
 ·cases h
theorem xZq(ρ:Env):∀(l:List V) (r:List UInt8),bytesOf l=some r->r.length=l.length/\zqq ρ 1 l=r.map λb=>Value.int .u8 b.toNat
 |[],r,h=>by simp[bytesOf] at h;subst h;exact⟨rfl,rfl⟩
 |v::l,r,h=>by
  unfold bytesOf at h;split at h
  ·rename_i e;cases e
  ·rename_i c l' e;simp only[List.cons.injEq] at e;obtain⟨rfl,rfl⟩:=e;split at h
   ·rename_i r' h1 h2;cases h;obtain⟨g1,g2⟩:=xZq ρ _ _ h2;rw[Nat.blt_eq] at h1;refine⟨by simp[g1],?_⟩;simp only[zqq,List.map_cons,g2];have:(UInt8.ofNat c).toNat=c:=by simp;omega
    rw[this];rfl
   ·cases h
  ·cases h
theorem vRq(ρ:Env):∀(l:List V),(∀x∈l,x.isAgg=false) ->zqq ρ 1 l=l.map (qBq ρ)
 |[],_=>rfl
 |x::l,h=>by
  rw[zqq,vRq ρ l λy hy=>h y (List.mem_cons_of_mem _ hy),cells_cell1 (h x (List.mem_cons_self ..)),yrq (n:=1) (l:=[qBq ρ x]) rfl];rfl
theorem xXq(e:Nat):∀l:List V,(zVq e l).length=l.length*e
 |[]=>by simp[zVq]
 |v::l=>by simp[zVq,xXq e l,Nat.add_mul];omega
theorem j0q(ρ:Env){l:List V}{r:List UInt8}(h:bytesOf (zVq 1 l)=some r):r.length=l.length/\zqq ρ 1 l=r.map λb=>Value.int .u8 b.toNat:=by
 obtain⟨h1,h2⟩:=xZq ρ _ _ h;refine⟨by rw[h1,xXq];omega,?_⟩;rw[<-h2,vRq ρ _ (λx hx=>uLq 1 l x hx),jyq]
theorem bytesBEq(s s':List UInt8):((⟨⟨s⟩⟩:ByteArray)==⟨⟨s'⟩⟩)=decide (s=s'):=by
 show((⟨s⟩:Array UInt8)==⟨s'⟩)=_;rw[Bool.eq_iff_iff];simp
theorem kEqV_spec(ρ:Env){d:TypeDesc}{k k':V}{b:Bool}(hd:(∃kk j n,d= .int kk/\k= .int j n)\/(d= .string/\∃s,k= .str s))(h:kEqV k k'=some b):
  Instr.sameNow d (conc ρ k) (conc ρ k')=some b/\(b=true->conc ρ k'=conc ρ k):=by
 rcases hd with ⟨kk,j,n,rfl,rfl⟩|⟨rfl,s,rfl⟩
 ·cases k'<;>simp only[kEqV] at h<;>try (cases h;done)
  rename_i j' n';split at h
  ·rename_i hj;have hj:=of_decide_eq_true hj;subst hj;cases h;simp only[conc,Instr.sameNow,if_true,uVq];refine⟨congrArg some ?_,λhb=>?_⟩
   ·rw[Bool.eq_iff_iff];simp
   ·have:=of_decide_eq_true hb;rw[this]
  ·cases h
 ·cases k'<;>simp only[kEqV] at h<;>try (cases h;done)
  rename_i s';cases h;simp only[conc,Instr.sameNow,keq,bytesBEq];refine⟨trivial,λhb=>?_⟩
  ·have:=of_decide_eq_true hb;rw[this]
theorem jeq(ρ:Env){d:TypeDesc}{k:V}(hd:(∃kk j n,d= .int kk/\k= .int j n)\/(d= .string/\∃s,k= .str s)):∀(es:List (V×V×Nat)) (i:Nat) (r:Option (Nat×V×Nat)),findM k es i=some r->
  Instr.findNow d (conc ρ k) (yGq ρ es) i=some (r.map λp=>(p.1,conc ρ p.2.1))/\∀p,r=some p->∃k' m,p.1=i+m/\es[m]? =some (k',p.2.1,p.2.2)/\conc ρ k'=conc ρ k
 |[],i,r,h=>by cases h;exact⟨rfl,λp hp=>by cases hp⟩
 |e::l,i,r,h=>by
  unfold findM at h;split at h
  ·rename_i hk;cases h;obtain⟨h1,h2⟩:=kEqV_spec ρ hd hk;refine⟨?_,λp hp=>?_⟩
   ·simp only[yGq,List.map_cons,Instr.findNow,h1];rfl
   ·cases hp;exact⟨e.1,0,rfl,rfl,h2 rfl⟩
  ·rename_i hk;obtain⟨h1,_⟩:=kEqV_spec ρ hd hk;obtain⟨g1,g2⟩:=jeq ρ hd l (i+1) r h;refine⟨?_,λp hp=>?_⟩
   ·simp only[yGq,List.map_cons,Instr.findNow,h1];exact g1
   ·obtain⟨k',m,q1,q2,q3⟩:=g2 p hp;exact⟨k',m+1,by omega,q2,q3⟩
  ·cases h
theorem xDq(hC:CfgOK P C){kt:TypeId}{k:V}(h:keyOK C kt k=true):∃d,P.underlying kt=some d/\((∃kk j n,d= .int kk/\k= .int j n)\/(d= .string/\∃s,k= .str s)):=by
 unfold keyOK at h;split at h
 ·rename_i j hj;have hd:=(hC.ty kt j hj).d;split at h
  ·rename_i kk j' n he;rw[he] at hd;exact⟨_,hd,.inl ⟨_,_,_,rfl,rfl⟩⟩
  ·rename_i s he;rw[he] at hd;exact⟨_,hd,.inr ⟨rfl,_,rfl⟩⟩
  ·cases h
 ·cases h
theorem kMq{kt:TypeId}{k:V}{d:TypeDesc}(hu:P.underlying kt=some d)(hd:(∃kk j n,d= .int kk/\k= .int j n)\/(d= .string/\∃s,k= .str s))(ρ:Env)(e:Bool)(w:World):(Instr.checkKey e 10000 kt (conc ρ k)).run P w= .ok () w:=by
 have key:∀m,(Instr.checkKey e (m+1) kt (conc ρ k)).run P w= .ok () w:=λm=>by
  rcases hd with ⟨kk,j,n,rfl,rfl⟩|⟨rfl,s,rfl⟩<;>(unfold Instr.checkKey;simp[run_underlying hu,conc])
 exact key 9999
theorem kXq{k:V}{d:TypeDesc}(hd:(∃kk j n,d= .int kk/\k= .int j n)\/(d= .string/\∃s,k= .str s))(ρ:Env):Instr.sameBits 10000 (conc ρ k) (conc ρ k)=true:=by
 rcases hd with ⟨kk,j,n,rfl,rfl⟩|⟨rfl,s,rfl⟩<;>simp[conc,Instr.sameBits,bytesBEq]
theorem qoq{kt:TypeId}{k:V}{d:TypeDesc}(hu:P.underlying kt=some d)(hd:(∃kk j n,d= .int kk/\k= .int j n)\/(d= .string/\∃s,k= .str s))(ρ:Env){es:List (V×V×Nat)}{r:Option (Nat×V×Nat)}(h:findM k es 0=some r)(w:World):
  (Instr.findKey kt (conc ρ k) (yGq ρ es)).run P w= .ok (r.map λp=>(p.1,conc ρ p.2.1)) w:=by
 simp[Instr.findKey,run_underlying hu,(jeq ρ hd es 0 r h).1]
theorem q4q{b:Nat}{es:Array MapEntry}{c:Nat}(h:w.heap[b]? =some (.map es c)):(getObj b).run P w= .ok (.map es c) w:=by simp[getObj,Sem.run,h]
theorem xvq{b:Nat}{es:Array MapEntry}{c:Nat}(o':Obj)(h:w.heap[b]? =some (.map es c)):(setObj b o').run P w= .ok () (w.putObj b o'):=by simp[setObj,Sem.run,h,World.putObj]
theorem u0q(ρ:Env)(es:List (V×V×Nat))(i:Nat)(k v:V)(b:Nat){k' v':V}(he:es[i]? =some (k',v',b))(f:MapEntry->MapEntry)(hf:f ⟨conc ρ k',conc ρ v',b⟩=⟨conc ρ k,conc ρ v,b⟩):
  (yGq ρ es).modify i f=yGq ρ (es.set i (k,v,b)):=by
 apply List.ext_getElem?;intro j;rw[List.getElem?_modify];simp only[yGq,List.getElem?_map,List.getElem?_set];have hl:i<es.length:=(List.getElem?_eq_some_iff.1 he).1;by_cases h:i=j
 ·subst h;rw[he];simp[hl,hf]
 ·simp[h]
theorem vVq(ρ:Env)(n:Nat):∀(es:List (V×V×Nat)) (i m:Nat),bornM n es i=some m->∃q,m=i+q/\(yGq ρ es).findIdx? (λe=>(e.born:Int)==(n:Int))=some q
 |[],i,m,h=>by cases h
 |e::l,i,m,h=>by
  unfold bornM at h;simp only[yGq,List.map_cons,List.findIdx?_cons];split at h
  ·rename_i hb;cases h;have hb:=Nat.eq_of_beq_eq_true hb;refine⟨0,rfl,?_⟩;simp[hb]
  ·rename_i hb;obtain⟨q,h1,h2⟩:=vVq ρ n l (i+1) m h;have hb:¬e.2.2=n:=λe'=>by rw[x5q e'] at hb;cases hb
   refine⟨q+1,by omega,?_⟩;simp only[yGq] at h2;rw[h2];have:((e.2.2:Int)==(n:Int))=false:=by simp;omega
   simp[this]
theorem Rel.mapAt(r:Rel s0 U D ρ h w){b:Nat}{es:List (V×V×Nat)}{c:Nat}(hb:D b)(hg:h.get b=some (.map es c)):w.heap[ρ.b b]? =some (.map (yGq ρ es).toArray c)/\∀e∈es,InD (DD D ρ) e.1/\InD (DD D ρ) e.2.1:=by
 obtain⟨o,h1,h2⟩:=r.has b _ hb hg;have h2:o= .map (yGq ρ es).toArray c:=h2;subst h2;exact⟨h1,r.clo b _ hb hg⟩
theorem Rel.mapPut(r:Rel s0 U D ρ h w){b:Nat}{es es':List (V×V×Nat)}{c c':Nat}(hb:D b)(hg:h.get b=some (.map es c))(hi:∀e∈es',InD (DD D ρ) e.1/\InD (DD D ρ) e.2.1):
  Rel s0 U D ρ (h.put b (.map es' c')) (w.putObj (ρ.b b) (.map (yGq ρ es').toArray c'))/\Nxt D ρ h w D ρ (h.put b (.map es' c')) (w.putObj (ρ.b b) (.map (yGq ρ es').toArray c')):=
 r.put hb hg Z Z (ybq _ (Array.getElem?_eq_some_iff.1 (r.mapAt hb hg).1).1) rfl hi
theorem in_set{es:List (V×V×Nat)}{i:Nat}{k v:V}{b:Nat}{D:Nat->Nat->Prop}(hi:∀e∈es,InD D e.1/\InD D e.2.1)(hk:InD D k)(hv:InD D v):∀e∈es.set i (k,v,b),InD D e.1/\InD D e.2.1:=λe he=>by
 rcases List.mem_or_eq_of_mem_set he with h|rfl
 ·exact hi e h
 ·exact⟨hk,hv⟩
theorem in_app{es:List (V×V×Nat)}{k v:V}{b:Nat}{D:Nat->Nat->Prop}(hi:∀e∈es,InD D e.1/\InD D e.2.1)(hk:InD D k)(hv:InD D v):∀e∈es++[(k,v,b)],InD D e.1/\InD D e.2.1:=λe he=>by
 rcases List.mem_append.1 he with h|h
 ·exact hi e h
 ·obtain rfl:=List.mem_singleton.1 h;exact⟨hk,hv⟩
theorem Ziq(ok:Bool)(v:V)(b:Bool)(ρ:Env):conc ρ (okT ok v b)=if ok then .tuple #[conc ρ v,.bool b] else conc ρ v:=by cases ok<;>simp[okT,conc,zwq]
theorem okT_in{D:Nat->Nat->Prop}{ok:Bool}{v:V}{b:Bool}(h:InD D v):InD D (okT ok v b):=by
 cases ok
 ·exact h
 ·exact⟨h,trivial,trivial⟩
theorem lookup_sound(hC:CfgOK P C)(hfr:FrE C D ρ fr a)(r:Rel s0 U D ρ h w){t:TypeId}{x y:Operand}{ok:Bool}{v:V}{h':Heap}(hh:zsq C fr h t x y ok=some (v,h')):
  h'=h/\(Instr.lookup t (a.eval x) (a.eval y) ok).run P w= .ok (conc ρ v) w/\InD (DD D ρ) v:=by
 unfold zsq at hh;split at hh
 ·rename_i kt et m k hm hx hy;have hu:=hC.mp _ _ _ hm;obtain⟨e1,i1⟩:=hfr.ev hx;obtain⟨e2,i2⟩:=hfr.ev hy;split at hh
  ·rename_i j hk hj;obtain⟨d,hud,hd⟩:=xDq hC hk;have hz:=ytq (P:=P) ((hC.ty et j hj).zero ρ);have zin:InD (DD D ρ) j.zero:=(hC.ty et j hj).zin.mono λ_ _ h=>h.elim
   have hck:=λe=>kMq hud hd ρ e w
   split at hh
   ·cases hh;have hf:=qoq hud hd ρ (es:=[]) (r:=none) rfl w;refine⟨rfl,?_,okT_in zin⟩;simp only[yGq,List.map_nil] at hf;rw[e1,e2,Ziq];simp[conc,Instr.lookup,run_underlying hu,hck,hf,hz]
   ·rename_i b;split at hh
    ·rename_i es c hg;obtain⟨hb,hes⟩:=r.mapAt i1.1 hg;split at hh
     ·rename_i i u bo hfm;cases hh;have hf:=qoq hud hd ρ hfm w;obtain⟨k',m',q1,q2,q3⟩:=(jeq ρ hd es 0 _ hfm).2 _ rfl;refine⟨rfl,?_,okT_in (hes _ (List.mem_of_getElem? q2)).2⟩;rw[e1,e2,Ziq];simp[conc,Instr.lookup,run_underlying hu,q4q hb,hck,hf]
     ·rename_i hfm;cases hh;have hf:=qoq hud hd ρ hfm w;refine⟨rfl,?_,okT_in zin⟩;rw[e1,e2,Ziq];simp[conc,Instr.lookup,run_underlying hu,q4q hb,hck,hf,hz]
     ·cases hh
    ·cases hh
   ·cases hh
  ·cases hh
 ·cases hh
theorem xPq(hC:CfgOK P C)(hfr:FrE C D ρ fr a)(r:Rel s0 U D ρ h w){t:TypeId}{x y z:Operand}{v:V}{h':Heap}(hh:zeq C fr h t x y z=some (v,h')):
  ∃w',v= .undef/\(Instr.mapUpdate t (a.eval x) (a.eval y) (a.eval z)).run P w= .ok () w'/\Rel s0 U D ρ h' w'/\Nxt D ρ h w D ρ h' w':=by
 unfold zeq at hh;split at hh
 ·rename_i kt et b k u hm hx hy hz;have hu:=hC.mp _ _ _ hm;obtain⟨e1,i1⟩:=hfr.ev hx;obtain⟨e2,i2⟩:=hfr.ev hy;obtain⟨e3,i3⟩:=hfr.ev hz;split at hh
  ·rename_i es c hk hg;obtain⟨d,hud,hd⟩:=xDq hC hk;have hck:=λe=>kMq hud hd ρ e w
   obtain⟨hb,hes⟩:=r.mapAt i1.1 hg;split at hh
   ·rename_i i v0 bo hfm;cases hh;have hf:=qoq hud hd ρ hfm w;obtain⟨k',m',q1,q2,q3⟩:=(jeq ρ hd es 0 _ hfm).2 _ rfl;obtain rfl:i=m':=by simpa using q1
    obtain⟨r',n'⟩:=r.mapPut (c':=c) i1.1 hg (in_set (i:=i) (b:=bo) hes i2 i3);refine⟨_,rfl,?_,r',n'⟩;have hkey:((yGq ρ es)[i]?.map (·.key)).getD (conc ρ k)=conc ρ k:=by simp[yGq,q2,q3]
    have hst:(Instr.keyThatStays (conc ρ k) (conc ρ k)).run P w= .ok (conc ρ k) w:=by simp[Instr.keyThatStays,kXq hd ρ]
    rw[e1,e2,e3];have hset:=u0q ρ es i k u bo q2 (λe=>{e with key:=conc ρ k,val:=conc ρ u}) rfl;simp[conc,Instr.mapUpdate,run_underlying hu,q4q hb,hck,hf,hkey,hst,hset,xvq _ hb]
   ·rename_i hfm;cases hh;have hf:=qoq hud hd ρ hfm w;obtain⟨r',n'⟩:=r.mapPut (c':=c+1) i1.1 hg (in_app (b:=c) hes i2 i3);refine⟨_,rfl,?_,r',n'⟩;rw[e1,e2,e3];have hpush:(yGq ρ es).toArray.push ⟨conc ρ k,conc ρ u,c⟩=(yGq ρ (es++[(k,u,c)])).toArray:=by simp[yGq]
    simp only[List.push_toArray] at hpush;simp[conc,Instr.mapUpdate,run_underlying hu,q4q hb,hck,hf,hpush,xvq _ hb]
   ·cases hh
  ·cases hh
 ·cases hh
theorem entry_sound(hC:CfgOK P C)(hfr:FrE C D ρ fr a)(r:Rel s0 U D ρ h w){t:TypeId}{x y:Operand}{v:V}{h':Heap}(hh:zkq C fr h t x y=some (v,h')):
  ∃w',(Instr.mapEntry t (a.eval x) (a.eval y)).run P w= .ok (conc ρ v) w'/\Rel s0 U D ρ h' w'/\Nxt D ρ h w D ρ h' w'/\InD (DD D ρ) v:=by
 unfold zkq at hh;split at hh
 ·rename_i kt et b k hm hx hy;have hu:=hC.mp _ _ _ hm;obtain⟨e1,i1⟩:=hfr.ev hx;obtain⟨e2,i2⟩:=hfr.ev hy;split at hh
  ·rename_i j es c hk hj hg;obtain⟨d,hud,hd⟩:=xDq hC hk;have hck:=λe=>kMq hud hd ρ e w
   have hz:=ytq (P:=P) ((hC.ty et j hj).zero ρ);have zin:InD (DD D ρ) j.zero:=(hC.ty et j hj).zin.mono λ_ _ h=>h.elim
   obtain⟨hb,hes⟩:=r.mapAt i1.1 hg;split at hh
   ·rename_i i v0 bo hfm;cases hh;have hf:=qoq hud hd ρ hfm w;obtain⟨k',m',q1,q2,q3⟩:=(jeq ρ hd es 0 _ hfm).2 _ rfl;obtain rfl:i=m':=by simpa using q1
    have hv0:=(hes _ (List.mem_of_getElem? q2)).2;obtain⟨r',n'⟩:=r.mapPut (c':=c) i1.1 hg (in_set (i:=i) (b:=bo) hes i2 hv0);refine⟨_,?_,r',n',hv0,trivial,trivial⟩;have hkey:((yGq ρ es)[i]?.map (·.key)).getD (conc ρ k)=conc ρ k:=by simp[yGq,q2,q3]
    have hborn:((yGq ρ es)[i]?.map (λx=>(x.born:Int))).getD 0=(bo:Int):=by simp[yGq,q2]
    have hst:(Instr.keyThatStays (conc ρ k) (conc ρ k)).run P w= .ok (conc ρ k) w:=by simp[Instr.keyThatStays,kXq hd ρ]
    rw[e1,e2];have hset:=u0q ρ es i k v0 bo q2 (λe=>{e with key:=conc ρ k}) rfl;simp[conc,zwq,Instr.mapEntry,run_underlying hu,q4q hb,hck,hf,hkey,hborn,hst,hset,xvq _ hb,goInt]
   ·rename_i hfm;cases hh;have hf:=qoq hud hd ρ hfm w;obtain⟨r',n'⟩:=r.mapPut (c':=c+1) i1.1 hg (in_app (b:=c) hes i2 zin);refine⟨_,?_,r',n',zin,trivial,trivial⟩;rw[e1,e2];have hpush:(yGq ρ es).toArray.push ⟨conc ρ k,conc ρ j.zero,c⟩=(yGq ρ (es++[(k,j.zero,c)])).toArray:=by simp[yGq]
    simp only[List.push_toArray] at hpush;simp[conc,zwq,Instr.mapEntry,run_underlying hu,q4q hb,hck,hf,hz,hpush,xvq _ hb,goInt]
   ·cases hh
  ·cases hh
 ·cases hh
theorem estore_sound(hfr:FrE C D ρ fr a)(r:Rel s0 U D ρ h w){t:TypeId}{x y z:Operand}{v:V}{h':Heap}(hh:zdq C fr h x y z=some (v,h')):
  ∃w',v= .undef/\(Instr.entryStore t (a.eval x) (a.eval y) (a.eval z)).run P w= .ok () w'/\Rel s0 U D ρ h' w'/\Nxt D ρ h w D ρ h' w':=by
 unfold zdq at hh;split at hh
 ·rename_i b ki n u hx hy hz;obtain⟨e1,i1⟩:=hfr.ev hx;obtain⟨e2,i2⟩:=hfr.ev hy;obtain⟨e3,i3⟩:=hfr.ev hz;split at hh
  ·rename_i es c hg;obtain⟨hb,hes⟩:=r.mapAt i1.1 hg;split at hh
   ·rename_i i hbo;split at hh
    ·rename_i k v0 bo he;cases hh;obtain⟨q,q1,q2⟩:=vVq ρ n es 0 i hbo;obtain rfl:i=q:=by simpa using q1
     have hk:=(hes _ (List.mem_of_getElem? he)).1;obtain⟨r',n'⟩:=r.mapPut (c':=c) i1.1 hg (in_set (i:=i) (b:=bo) hes hk i3);refine⟨_,rfl,?_,r',n'⟩;have hset:=u0q ρ es i k u bo he (λe=>{e with val:=conc ρ u}) rfl;rw[e1,e2,e3];simp only[Int.ofNat_eq_natCast] at*
     simp[conc,Instr.entryStore,q4q hb,asInt,asIntOf,q2,hset,xvq _ hb]
    ·cases hh
   ·cases hh
  ·cases hh
 ·cases hh
theorem opH_sound(hC:CfgOK P C)(hfr:FrE C D ρ fr a)(r:Rel s0 U D ρ h w){o:Oper}{v:V}{h':Heap}(hh:opH C fr h o.op=some (v,h'))(hU:h'.next<=U):∃x D' ρ' w',Did P C s0 U o a D ρ h w v h' x D' ρ' w':=by
 obtain⟨dst,op,ty,pos,aft,g⟩:=o;simp only at hh;cases op<;>try (simp[opH,zpq,zXq,zEq,zFq,yuq,zfq,zjq,zuq,z0q,zBq,zlq,zsq,zeq,zkq,zdq,zrq,zHq,zxq,zWq] at hh;done)
 case convert s t x=>
  simp only[opH,zpq,zXq,zEq,zFq,yuq,zfq,zjq,zuq,z0q,zBq,zlq,zsq,zeq,zkq,zdq,zrq,zHq,zxq,zWq] at hh;split at hh
  ·rename_i js jt u hs ht hx;obtain⟨e1,i1⟩:=hfr.ev hx;split at hh
   ·rename_i e he ht2;have hd:=(hC.ty s js hs).d;rw[he] at hd;have hd:P.underlying s=some (.slice e):=hd;have hd2:=(hC.ty t jt ht).d;rw[ht2] at hd2;have hd2:P.underlying t=some .string:=hd2;split at hh
    ·rename_i hed;cases hh;obtain⟨k,hk,hkd⟩:=yvq hed;have hde:=(hC.ty e k hk).d;rw[hkd] at hde;have hde:P.underlying e=some (.int .u8):=hde;refine⟨_,D,ρ,w,⟨.inl ?_,rfl,r,Nxt.refl _ _ _ _,trivial⟩⟩;have key:=run_convert_bytes_nil (P:=P) w s e hd hde 0 0 t hd2;simp[execOp,e1,conc,key];rfl
    ·rename_i b base off n esz lim hed;split at hh
     ·rename_i bv hes hv;rw[Nat.beq_eq] at hes;subst hes;split at hh
      ·rename_i l hl;split at hh
       ·rename_i rr hr;cases hh;obtain⟨k,hk,hkd⟩:=yvq hed;have hde:=(hC.ty e k hk).d;rw[hkd] at hde;have hde:P.underlying e=some (.int .u8):=hde;obtain⟨g1,g2⟩:=j0q ρ hr;obtain⟨q1,_,_,_⟩:=yCq (ρ:=ρ) 50 bv off n 1 l hl;refine⟨_,D,ρ,w,⟨.inl ?_,rfl,r,Nxt.refl _ _ _ _,trivial⟩⟩;have hcells:=jmq r i1 hv hl;rw[g2] at hcells;have hn:n=rr.length:=by omega
        subst hn;have key:=run_convert_bytes_back (P:=P) w s t e (if z4q ρ b off 1 lim=0 then x3q ρ b base else⟨ρ.b b,ρ.pre b+off,none⟩) (z4q ρ b off 1 lim) rr hd hde hd2 (λj hj=>hcells j _ (by simp[hj]));simp only[execOp,e1,conc,z7q,Sem.run_bind,key,Result.andThen_ok,Sem.run_pure]
       ·cases hh
      ·cases hh
     ·cases hh
    ·cases hh
   ·rename_i e0 e b base off n esz lim hs2 ht2;have hd:=(hC.ty s js hs).d;rw[hs2] at hd;have hd:P.underlying s=some (.slice e0):=hd;have hd2:=(hC.ty t jt ht).d;rw[ht2] at hd2;have hd2:P.underlying t=some (.slice e):=hd2;split at hh
    ·rename_i bty bv hst hed hgb;split at hh
     case h_2=>cases hh
     rename_i hbase;have hbase:=Zb hbase;cases hh;have hst:=Nat.eq_of_beq_eq_true hst;subst hst
     obtain rfl:e0=e:=by
      have:=hd.symm.trans hd2;simpa using this
     obtain⟨k,hk,hkd⟩:=yvq hed;have hde:=(hC.ty e0 k hk).d;rw[hkd] at hde;have hde:P.underlying e0=some (.int .u8):=hde;have hD:D b:=i1.2.2.1;obtain⟨o,h1,pre,tail,rfl,h2,h3⟩:=r.has b _ hD hgb;obtain⟨w',q1,q2⟩:=Zaq (P:=P) h1;obtain⟨r',n'⟩:=r.putR (b':=.ro bv) hD hgb Z Z q2 ⟨pre,tail,bty,_,rfl,h2,by omega⟩ (show InD (DD D ρ) bv from r.clo b _ hD hgb);refine⟨_,D,ρ,w',⟨.inl ?_,rfl,r',n',i1⟩⟩;have q3:=q1 (ρ.pre b+(if z4q ρ b off esz lim=0 then base else off))
     have hz:(if z4q ρ b off esz lim=0 then x3q ρ b base else(⟨ρ.b b,ρ.pre b+off,none⟩:Addr))=⟨ρ.b b,ρ.pre b+(if z4q ρ b off esz lim=0 then base else off),none⟩:=by
      split
      ·exact kOq Xa
      ·rfl
     simp only[execOp,e1,conc,z7q,hz];simp[convert,run_underlying hd,run_underlying hde,q3]
    ·cases hh
   ·rename_i e str hs2 ht2;have hd:=(hC.ty s js hs).d;rw[hs2] at hd;have hd:P.underlying s=some .string:=hd;have hd2:=(hC.ty t jt ht).d;rw[ht2] at hd2;have hd2:P.underlying t=some (.slice e):=hd2;split at hh
    ·rename_i hed;cases hh;obtain⟨k,hk,hkd⟩:=yvq hed;have hde:=(hC.ty e k hk).d;rw[hkd] at hde;have hde:P.underlying e=some (.int .u8):=hde;have key:=run_bytes_of_string (P:=P) w s t e ⟨⟨str⟩⟩ hd hd2 hde;have hge:=grownCap_ge w (⟨⟨str⟩⟩:ByteArray).size 0 e;rw[show(⟨⟨str⟩⟩:ByteArray).size=str.length from rfl] at key hge;generalize grownCap w str.length 0 e=gc at key hge
     have hcells:(bytesRow ⟨⟨str⟩⟩ gc).toList=cellsV ρ (.arr str.length 1 (yPq str))++List.replicate (gc-str.length) (Value.int .u8 0):=by
      simp only[cellsV];rw[yrq (by rw[zIq];simp[yPq]),qRq];simp[bytesRow];rfl
     have hag:Env.Agree (DD D ρ) ρ (ρ.add h.next w.heap.size 0 gc):=Env.add_agree (r.next_new hU);have hin:InD (DD D ρ) (.arr str.length 1 (yPq str)):=InDL_iff.2 λy hy=>by obtain⟨c,_,rfl⟩:=List.mem_map.1 hy;trivial
     obtain⟨r',n'⟩:=(r.drawn (w.drawn+1)).pushAny (w':=w.drew.alloc (.cells (bytesRow ⟨⟨str⟩⟩ gc) e ((bytesRow ⟨⟨str⟩⟩ gc).size,(bytesRow ⟨⟨str⟩⟩ gc).size+1))) (pre:=0) (cap:=gc) hU (yDq w.drew _) (heap_alloc_new w.drew _) (b:=.ro (.arr str.length 1 (yPq str))) hin ⟨[],List.replicate (gc-str.length) (Value.int .u8 0),e,_,by
      rw[yAq hag hin,List.nil_append,<-hcells],by simp[Env.add],by simp[Env.add];exact hge⟩
     obtain⟨s1,s2⟩:=vzq (D:=D) (ρ:=ρ) (w:=w) (h:=h) gc str.length 1 Xa hge (cap:=gc) Xa;refine⟨_,_,_,_,⟨.inl ?_,s1.symm,r',n'.undrew,s2⟩⟩;simp[execOp,e1,conc,key]
    ·cases hh
   ·cases hh
  ·cases hh
 case load t x=>
  simp only[opH,zpq,zXq,zEq,zFq,yuq,zfq,zjq,zuq,z0q,zBq,zlq,zsq,zeq,zkq,zdq,zrq,zHq,zxq,zWq] at hh;split at hh
  ·rename_i b off i hx hi;split at hh
   ·rename_i bv hv;split at hh
    ·rename_i y hg;cases hh;obtain⟨e,hin⟩:=hfr.ev hx;obtain⟨k1,k2⟩:=vCq hC r hi hin.1 hv hg;refine⟨_,D,ρ,w,⟨.inl ?_,rfl,r,Nxt.refl _ _ _ _,k2⟩⟩;simp[execOp,e,conc,Instr.loadAt,Instr.sureAddr,k1]
    ·cases hh
   ·cases hh
  ·cases hh
 case store t x y=>
  simp only[opH,zpq,zXq,zEq,zFq,yuq,zfq,zjq,zuq,z0q,zBq,zlq,zsq,zeq,zkq,zdq,zrq,zHq,zxq,zWq] at hh;split at hh
  ·rename_i b off u i hx hy hi;split at hh
   ·rename_i bty bv hg hsz;rw[Nat.beq_eq] at hsz;split at hh
    ·rename_i v' hp;cases hh;obtain⟨e,hin⟩:=hfr.ev hx;obtain⟨e2,hin2⟩:=hfr.ev hy;obtain⟨w',k1,k2,k3⟩:=store_sound hC r hi hsz hin.1 hg hp hin2;refine⟨_,D,ρ,w',⟨.inr ⟨?_,rfl⟩,rfl,k2,k3,trivial⟩⟩;simp[execOp,e,e2,conc,Instr.storeAt,Instr.sureAddr,k1]
    ·cases hh
   ·cases hh
  ·cases hh
 case alloc t=>
  simp only[opH,zpq,zXq,zEq,zFq,yuq,zfq,zjq,zuq,z0q,zBq,zlq,zsq,zeq,zkq,zdq,zrq,zHq,zxq,zWq] at hh;split at hh
  ·rename_i i hi;cases hh;have ok:=hC.ty t i hi;have hz:=ytq (P:=P) (ok.zero ρ)
   have hzc:(conc ρ i.zero).cells=(cellsV ρ i.zero).toArray:=yyq (by
    cases ha:i.agg with
    |true=>exact .inr Xi
    |false=>exact .inl (ok.zleaf ha))
   obtain⟨r',n'⟩:=jbq (t:=t) (tail:=[]) r hU (ok.zin.mono λ_ _ h=>h.elim);simp only[List.append_nil] at r' n';obtain⟨p1,p2⟩:=uDq (cap:=i.zero.size+[].length (α:=Value)) r;refine⟨_,_,_,_,⟨.inl ?_,p1.symm,r',n',p2⟩⟩;simp[execOp,Instr.alloc,hz,newVar,newRow,hzc]
  ·cases hh
 case box t x=>
  simp only[opH,zpq,zXq,zEq,zFq,yuq,zfq,zjq,zuq,z0q,zBq,zlq,zsq,zeq,zkq,zdq,zrq,zHq,zxq,zWq] at hh;split at hh
  ·rename_i u hx;split at hh
   ·rename_i hl;simp only[Bool.or_eq_true] at hl;cases hh;obtain⟨e,hin⟩:=hfr.ev hx;obtain⟨r',n'⟩:=jbq (t:=t) (tail:=[]) r hU hin;simp only[List.append_nil] at r' n';obtain⟨p1,p2⟩:=uDq (cap:=u.size+[].length (α:=Value)) r;refine⟨_,_,_,_,⟨.inl ?_,p1.symm,r',n',p2⟩⟩;simp[execOp,e,Instr.box,newVar,newRow,yyq hl]
   ·cases hh
  ·cases hh
 case buildSlice t n parts=>
  simp only[opH,zpq,zXq,zEq,zFq,yuq,zfq,zjq,zuq,z0q,zBq,zlq,zsq,zeq,zkq,zdq,zrq,zHq,zxq,zWq] at hh;split at hh
  ·rename_i i hi;split at hh
   ·rename_i e he;have hd:=(hC.ty t i hi).d;rw[he] at hd;have hd:P.underlying t=some (.slice e):=hd;split at hh
    ·rename_i k hk;split at hh
     ·cases hh
     ·rename_i hc;simp only[Bool.or_eq_false_iff,Bool.not_eq_false'] at hc;have hle:=Zb hc.2
      have hk0:0<k.size:=by
       rcases Nat.eq_zero_or_pos k.size with h0|h0
       ·rw[x5q h0] at hc;cases hc.1
       ·exact h0
      split at hh
      ·rename_i u hu;cases hh;have ok:=hC.ty e k hk;have hzin:InD (DD D ρ) (repV n k.size k.zero):=InDL_iff.2 λy hy=>by rw[(List.mem_replicate.1 hy).2];exact ok.zin.mono λ_ _ h=>h.elim
       obtain⟨f1,f2,f3⟩:=vLq hfr parts.toList _ u hu hzin
       have hzc:(conc ρ k.zero).cells=(cellsV ρ k.zero).toArray:=yyq (by
        cases ha:k.agg with
        |true=>exact .inr Xi
        |false=>exact .inl (ok.zleaf ha))
       have hz:=ytq (P:=P) (ok.zero ρ);have hus:u.size=n*k.size:=f3;obtain⟨r',n'⟩:=jbq (t:=e) (tail:=[]) r hU f2;simp only[List.append_nil] at r' n';obtain⟨p1,p2⟩:=vzq (D:=D) (ρ:=ρ) (w:=w) (h:=h) n n k.size hk0 (Nat.le_refl _) (cap:=u.size+[].length (α:=Value)) (by simp[hus]);refine⟨_,_,_,_,⟨.inl ?_,p1.symm,r',n',p2⟩⟩;have hlist:(parts.map λ(p:Nat×Operand)=>(p.1,a.eval p.2)).toList=parts.toList.map λp=>(p.1,a.eval p.2):=by simp
       have hsz:=ok.sizeOf w;have hgt:¬n*k.size>2^24:=by omega
       have hrep:=kZq ρ n k.size k.zero ok.zsize hk0;rw[hrep] at f1;simp only[execOp,Instr.buildSlice,Sem.run_bind,run_underlying hd,Result.andThen_ok,hsz,hgt,if_false,hlist];by_cases h0:n*k.size=0
       ·have hn:n=0:=by
         rcases Nat.mul_eq_zero.1 h0 with h|h
         ·exact h
         ·omega
        subst hn;have hr0:Array.range 0= #[]:=rfl;simp only[Nat.zero_mul,hr0,List.map_toArray,List.map_nil] at f1⊢;simp[f1,newRow]
       ·simp only[h0,if_false,Sem.run_bind,hz w,Result.andThen_ok,Sem.run_pure,hzc];rw[f1];simp[newRow]
      ·cases hh
    ·cases hh
   ·cases hh
  ·cases hh
 case makeSlice t x y=>
  simp only[opH,zpq,zXq,zEq,zFq,yuq,zfq,zjq,zuq,z0q,zBq,zlq,zsq,zeq,zkq,zdq,zrq,zHq,zxq,zWq] at hh;split at hh
  ·rename_i i u z hi hx hy;split at hh
   ·rename_i e l c he hl hc;obtain⟨kl,rfl⟩:=qOq hl;obtain⟨kc,rfl⟩:=qOq hc;have hd:=(hC.ty t i hi).d;rw[he] at hd;have hd:P.underlying t=some (.slice e):=hd;split at hh
    ·rename_i k hk;split at hh
     ·cases hh
     ·rename_i hcc;simp only[Bool.or_eq_false_iff,Bool.not_eq_false'] at hcc;have h1:=Zb hcc.1.1.2;have h2:=Zb hcc.1.2;have h3:=Zb hcc.2
      have hk0:0<k.size:=by
       rcases Nat.eq_zero_or_pos k.size with h0|h0
       ·rw[x5q h0] at hcc;cases hcc.1.1.1
       ·exact h0
      cases hh;have ok:=hC.ty e k hk;obtain⟨inf,hin,hsz,hby,hz⟩:=ok.info
      have hzc:(conc ρ k.zero).cells=(cellsV ρ k.zero).toArray:=yyq (by
       cases ha:k.agg with
       |true=>exact .inr Xi
       |false=>exact .inl (ok.zleaf ha))
      have hmul:((inf.bytes:Int)*(c:Int))<=281474976710656:=by
       have:((inf.bytes*c:Nat):Int)<=281474976710656:=by rw[hby];omega
       rwa[Int.natCast_mul] at this
      have key:=run_make (P:=P) w t e inf _ hd hin (hz ρ) kl kc (l:Int) (c:Int) Xa Xa hmul Xa;have hzin:InD (DD D ρ) (repV c k.size k.zero):=InDL_iff.2 λy hy=>by rw[(List.mem_replicate.1 hy).2];exact ok.zin.mono λ_ _ h=>h.elim
      obtain⟨r',n'⟩:=jbq (t:=e) (tail:=[]) r hU hzin;simp only[List.append_nil] at r' n';have hrep:=kZq ρ c k.size k.zero ok.zsize hk0;rw[hrep] at r' n';obtain⟨p1,p2⟩:=vzq (D:=D) (ρ:=ρ) (w:=w) (h:=h) c l k.size hk0 h1 (cap:=(repV c k.size k.zero).size+[].length (α:=Value)) (by simp[repV,V.size]);refine⟨_,_,_,_,⟨.inl ?_,p1.symm,r',n',p2⟩⟩;simp only[Int.toNat_natCast,hzc,hsz,madeCells] at key;simp[execOp,(hfr.ev hx).1,(hfr.ev hy).1,conc,key]
    ·cases hh
   ·cases hh
  ·cases hh
 case slice t x lo hi mx=>
  simp only[opH,zpq,zXq,zEq,zFq,yuq,zfq,zjq,zuq,z0q,zBq,zlq,zsq,zeq,zkq,zdq,zrq,zHq,zxq,zWq] at hh;split at hh
  ·rename_i j u hj hx;have hd:=(hC.ty t j hj).d;obtain⟨e1,i1⟩:=hfr.ev hx;split at hh
   ·rename_i n e b off he;rw[he] at hd;split at hh
    ·rename_i k l rr bv hk hl hr hv;split at hh
     ·cases hh
     ·rename_i hc;simp only[Bool.or_eq_false_iff,Bool.not_eq_false'] at hc;have h1:=Zb hc.1.1.2;have h2:=Zb hc.1.2;have h3:=Zb hc.2
      have hk0:0<k.size:=by
       rcases Nat.eq_zero_or_pos k.size with h0|h0
       ·rw[x5q h0] at hc;cases hc.1.1.1
       ·exact h0
      cases hh;obtain⟨_,_,_,_,_,_,hcap,_⟩:=r.val i1.1 hv;have hb:=j1q (P:=P) hfr (isSl:=false) hl hr h1 h2 w;refine⟨_,D,ρ,w,⟨.inl ?_,rfl,r,Nxt.refl _ _ _ _,hk0,by simp only[Option.getD_some];omega,i1.1,?_⟩⟩
      ·simp only[execOp,e1,conc,z7q,Instr.sliceAt,Sem.run_bind,run_underlying hd.1,Result.andThen_ok,Instr.sureAddr,Option.map_none,hb,(hC.ty e k hk).sizeOf w,Sem.run_pure,q0q];have hsc:z4q ρ b (off+l*k.size) k.size (some (n-l))=n-l:=rfl;simp only[hsc];congr 4
       by_cases hnl:n=l
       ·simp[hnl,kOq (ρ:=ρ) (b:=b) (base:=off) Xa]
       ·have:¬n-l=0:=by omega
        simp[hnl,this,Nat.add_assoc]
      ·simp only[Option.getD_some];have:l*k.size+(n-l)*k.size=n*k.size:=by rw[<-Nat.add_mul];congr 1;omega
       omega
    ·cases hh
   ·rename_i e b base off len esz lim he;rw[he] at hd;have hd:P.underlying t=some (.slice e):=hd;split at hh
    ·rename_i k l rr bv hk hl hr hv;split at hh
     ·cases hh
     ·rename_i hc;simp only[Bool.and_eq_true,Nat.beq_eq] at hc;obtain⟨⟨⟨⟨hes,h1⟩,h0⟩,h3⟩,h4⟩:=hc;have h1:=Zb h1;have h0:=Zb h0;have h3:=Zb h3;cases hh;obtain⟨_,_,_,_,_,_,hcap,_⟩:=r.val i1.2.2.1 hv;obtain⟨hpos,hlen,hD,hroom⟩:=i1
      have hrc:rr<=z4q ρ b off esz lim:=by
       cases lim with
       |some c=>exact Zb h4
       |none=>simp only[z4q];rw[Nat.le_div_iff_mul_le hpos];omega
      have hb:=j1q (P:=P) hfr (isSl:=true) hl hr h1 hrc w;refine⟨_,D,ρ,w,⟨.inl ?_,rfl,r,Nxt.refl _ _ _ _,hpos,?_,hD,?_⟩⟩
      ·simp only[execOp,e1,conc,z7q,Instr.sliceAt,Sem.run_bind,run_underlying hd,Result.andThen_ok,Option.map_none,Instr.slice,hb,(hC.ty e k hk).sizeOf w,Sem.run_pure,hes]
       have hcap:z4q ρ b (off+l*esz) esz (y5q l lim)=z4q ρ b off esz lim-l:=by
        cases lim with
        |some c=>rfl
        |none=>
         simp only[z4q,y5q];rw[Nat.sub_add_eq,Nat.mul_comm l esz,Nat.sub_mul_div]
       rw[hcap];congr 4
       have hc0:¬z4q ρ b off esz lim=0:=by omega
       by_cases hl0:l=0
       ·subst hl0;simp[Addr.add]
       ·have hb0:Nat.beq l 0=false:=beq_f hl0;simp only[hb0,hc0,if_false,Option.map_some,q0q];by_cases hm:z4q ρ b off esz lim=l
        ·simp[hm,kOq (ρ:=ρ) (b:=b) (base:=off) (Nat.le_trans (Nat.le_add_right _ _) hroom)]
        ·have:¬z4q ρ b off esz lim-l=0:=by omega
         simp[hm,this,Nat.add_assoc]
      ·cases lim with
       |some c=>have h4:=Zb h4;simp only[y5q,Option.getD_some];omega
       |none=>simp[y5q]
      ·cases lim with
       |some c=>
        have h4:=Zb h4;simp only[y5q,Option.getD_some] at hroom⊢;have:l*esz+(c-l)*esz=c*esz:=by rw[<-Nat.add_mul];congr 1;omega
        omega
       |none=>
        simp only[y5q,Option.getD_none];have:l*esz+(rr-l)*esz=rr*esz:=by rw[<-Nat.add_mul];congr 1;omega
        omega
    ·cases hh
   ·cases hh
  ·cases hh
 case makeMap t x=>
  have key:∀hint:Option Operand,(∀y,hint=some y->(∃k e,P.underlying t=some (.map k e))/\∃j n,a.eval y= .int j n) ->h'=h.push (.map [] 0) ->v= .map h.next->∃x D' ρ' w',Did P C s0 U ⟨dst,.makeMap t hint,ty,pos,aft,g⟩ a D ρ h w v h' x D' ρ' w':=λhint hx he hv=>by
   subst he hv;obtain⟨r',n'⟩:=r.push (w':=w.alloc (.map #[] 0)) (pre:=0) (cap:=0) hU (yDq w _) (heap_alloc_new w _) rfl (b:=.map [] 0) (λe he=>by cases he) rfl;refine⟨_,_,_,_,⟨.inl ?_,rfl,r',n',Zgq (Nat.le_refl _)⟩⟩;cases hint with
   |none=>simp[execOp,Instr.makeMap,newObj,Sem.run,conc,Env.add]
   |some y=>
    obtain⟨⟨k,e,hu⟩,j,n,hy⟩:=hx y rfl;simp[execOp,Instr.makeMap,newObj,conc,Env.add,run_underlying hu,hy,asInt];rfl
  simp only[opH,zlq] at hh;split at hh
  ·cases hh;exact key none (λy hy=>by cases hy) Z Z
  ·rename_i y;split at hh
   ·rename_i p j n hm hy;cases hh;exact key (some y) (λy' hy'=>by cases hy';exact⟨⟨_,_,hC.mp _ _ _ hm⟩,_,_,(hfr.ev hy).1⟩) Z Z
   ·cases hh
 case lookup t x y ok=>
  obtain⟨rfl,q1,q2⟩:=lookup_sound hC hfr r (show zsq C fr h t x y ok=some (v,h') from hh);exact⟨_,D,ρ,w,⟨.inl (by simp[execOp,q1]),rfl,r,Nxt.refl _ _ _ _,q2⟩⟩
 case mapUpdate t x y z=>
  obtain⟨w',rfl,q1,q2,q3⟩:=xPq hC hfr r (show zeq C fr h t x y z=some (v,h') from hh);exact⟨_,D,ρ,w',⟨.inr ⟨by simp only[execOp,Sem.run_bind,q1,Result.andThen_ok,Sem.run_pure],rfl⟩,rfl,q2,q3,trivial⟩⟩
 case insert t x y z=>
  obtain⟨w',rfl,q1,q2,q3⟩:=xPq hC hfr r (show zeq C fr h t x y z=some (v,h') from hh);exact⟨_,D,ρ,w',⟨.inr ⟨by simp only[execOp,Sem.run_bind,q1,Result.andThen_ok,Sem.run_pure],rfl⟩,rfl,q2,q3,trivial⟩⟩
 case mapEntry t x y=>
  obtain⟨w',q1,q2,q3,q4⟩:=entry_sound hC hfr r (show zkq C fr h t x y=some (v,h') from hh);exact⟨_,D,ρ,w',⟨.inl (by simp[execOp,q1]),rfl,q2,q3,q4⟩⟩
 case entryStore t x y z=>
  obtain⟨w',rfl,q1,q2,q3⟩:=estore_sound (P:=P) (t:=t) hfr r (show zdq C fr h x y z=some (v,h') from hh);exact⟨_,D,ρ,w',⟨.inr ⟨by simp only[execOp,Sem.run_bind,q1,Result.andThen_ok,Sem.run_pure],rfl⟩,rfl,q2,q3,trivial⟩⟩
 case call c=>
  obtain⟨callee,args,ats⟩:=c;cases callee<;>try (simp[opH,zpq,zXq,zEq,zFq,yuq,zfq,zjq,zuq,z0q,zBq,zlq,zsq,zeq,zkq,zdq,zrq,zHq,zxq,zWq] at hh;done)
  rename_i b;cases b<;>try (simp[opH,zpq,zXq,zEq,zFq,yuq,zfq,zjq,zuq,z0q,zBq,zlq,zsq,zeq,zkq,zdq,zrq,zHq,zxq,zWq] at hh;done)
  case append=>
   have e2:execOp a.eval ⟨dst,.call ⟨.builtin .append,args,ats⟩,ty,pos,aft,g⟩=(do pure (.value (<-Builtin.append_ ats ty (args.map a.eval)))):=rfl;simp only[opH,zpq,zXq,zEq,zFq,yuq,zfq,zjq,zuq,z0q,zBq,zlq,zsq,zeq,zkq,zdq,zrq,zHq,zxq,zWq] at hh;split at hh
   ·rename_i x y ts tx h1 h2;have h1:args= #[x,y]:=by apply Array.toList_inj.1;simpa using h1
    have h2:ats= #[ts,tx]:=by apply Array.toList_inj.1;simpa using h2
    subst h1;subst h2
    split at hh
    ·rename_i s u hx hy;obtain⟨e1,i1⟩:=hfr.ev hx;obtain⟨e3,i3⟩:=hfr.ev hy;obtain⟨val,D',ρ',w',q1,q2,q3,q4,q5⟩:=app_sound (ty:=ty) hC r i1 i3 hh hU;refine⟨val,D',ρ',w',⟨.inl ?_,q2,q3,q4,q5⟩⟩;rw[e2];simp[e1,e3,q1]
    ·cases hh
   ·cases hh
  case clear=>
   have e2:execOp a.eval ⟨dst,.call ⟨.builtin .clear,args,ats⟩,ty,pos,aft,g⟩=(do pure (.value (<-Builtin.clear_ ats ty (args.map a.eval)))):=rfl;replace hh:zrq C fr h args ats=some (v,h'):=hh
   unfold zrq at hh;split at hh
   ·rename_i r0 hh0;cases hh;have hh:=hh0;clear hh0;unfold zHq at hh;split at hh
    ·rename_i x t h1 h2;have h1:args= #[x]:=by apply Array.toList_inj.1;simpa using h1
     have h2:ats= #[t]:=by apply Array.toList_inj.1;simpa using h2
     subst h1;subst h2
     split at hh
     ·rename_i p hm hx;cases hh;obtain⟨e1,i1⟩:=hfr.ev hx;have hu:=hC.mp _ _ _ hm;refine⟨_,D,ρ,w,⟨.inl ?_,rfl,r,Nxt.refl _ _ _ _,trivial⟩⟩;rw[e2];simp[e1,conc,Builtin.clear_,run_underlying hu]
     ·rename_i p b hm hx;obtain⟨e1,i1⟩:=hfr.ev hx;have hu:=hC.mp _ _ _ hm;split at hh
      ·rename_i es c hg;cases hh;obtain⟨hb,hes⟩:=r.mapAt i1.1 hg;obtain⟨r',n'⟩:=r.mapPut (es':=[]) (c':=c) i1.1 hg (λe he=>by cases he);refine⟨_,D,ρ,_,⟨.inl ?_,rfl,r',n',trivial⟩⟩;rw[e2];simp[e1,conc,Builtin.clear_,run_underlying hu,q4q hb,xvq _ hb,yGq]
      ·cases hh
     ·cases hh
    ·cases hh
   ·unfold zxq at hh;split at hh
    ·rename_i x t h1 h2;have h1:args= #[x]:=by apply Array.toList_inj.1;simpa using h1
     have h2:ats= #[t]:=by apply Array.toList_inj.1;simpa using h2
     subst h1;subst h2
     split at hh
     ·rename_i j u hj hx;obtain⟨e1,i1⟩:=hfr.ev hx;have hd:=(hC.ty t j hj).d;split at hh
      ·rename_i e he;cases hh;rw[he] at hd;have hu:P.underlying t=some (.slice e):=hd;refine⟨_,D,ρ,w,⟨.inl ?_,rfl,r,Nxt.refl _ _ _ _,trivial⟩⟩;rw[e2];simp[e1,conc,Builtin.clear_,run_underlying hu]
      ·rename_i e b base off len esz lim he;rw[he] at hd;have hu:P.underlying t=some (.slice e):=hd;split at hh
       ·cases hh;refine⟨_,D,ρ,w,⟨.inl ?_,rfl,r,Nxt.refl _ _ _ _,trivial⟩⟩;rw[e2];simp[e1,conc,z7q,Builtin.clear_,run_underlying hu]
       ·rename_i k bty bv n hk hg;split at hh
        ·rename_i hc;simp only[Bool.and_eq_true] at hc;have hes:=Nat.eq_of_beq_eq_true hc.1;have hle:=Zb hc.2;subst hes;split at hh
         ·rename_i v' hp;cases hh;obtain⟨w',q1,q2,q3⟩:=clear_sound (ty:=ty) hC r hu hk i1 hg hle hp;refine⟨_,D,ρ,w',⟨.inl ?_,rfl,q2,q3,trivial⟩⟩;rw[e2];simp[e1,q1];rfl
         ·cases hh
        ·cases hh
       ·cases hh
      ·cases hh
     ·cases hh
    ·cases hh
  case len=>
   have e2:execOp a.eval ⟨dst,.call ⟨.builtin .len,args,ats⟩,ty,pos,aft,g⟩=(do pure (.value (<-Builtin.len_ ats ty (args.map a.eval)))):=rfl;simp only[opH,zWq] at hh;split at hh
   ·rename_i x t h1 h2;have h1:args= #[x]:=by apply Array.toList_inj.1;simpa using h1
    have h2:ats= #[t]:=by apply Array.toList_inj.1;simpa using h2
    subst h1;subst h2
    split at hh
    ·rename_i p hm hx;cases hh;obtain⟨e1,i1⟩:=hfr.ev hx;have hu:=hC.mp _ _ _ hm;refine⟨_,D,ρ,w,⟨.inl ?_,rfl,r,Nxt.refl _ _ _ _,trivial⟩⟩;rw[e2];simp[e1,conc,Builtin.len_,run_underlying hu,goInt]
    ·rename_i p b hm hx;obtain⟨e1,i1⟩:=hfr.ev hx;have hu:=hC.mp _ _ _ hm;split at hh
     ·rename_i es c hg;cases hh;obtain⟨hb,hes⟩:=r.mapAt i1.1 hg;refine⟨_,D,ρ,w,⟨.inl ?_,rfl,r,Nxt.refl _ _ _ _,trivial⟩⟩;rw[e2];simp[e1,conc,Builtin.len_,run_underlying hu,q4q hb,goInt,yGq]
     ·cases hh
    ·cases hh
   ·cases hh
  case copy=>
   have e2:execOp a.eval ⟨dst,.call ⟨.builtin .copy,args,ats⟩,ty,pos,aft,g⟩=(do pure (.value (<-Builtin.copy_ ats ty (args.map a.eval)))):=rfl;simp only[opH,zpq,zXq,zEq,zFq,yuq,zfq,zjq,zuq,z0q,zBq,zlq,zsq,zeq,zkq,zdq,zrq,zHq,zxq,zWq] at hh;split at hh
   ·rename_i x y ts tx h1 h2;have h1:args= #[x,y]:=by apply Array.toList_inj.1;simpa using h1
    have h2:ats= #[ts,tx]:=by apply Array.toList_inj.1;simpa using h2
    subst h1;subst h2
    split at hh
    ·rename_i s u hx hy;obtain⟨e1,i1⟩:=hfr.ev hx;obtain⟨e3,i3⟩:=hfr.ev hy;obtain⟨w',q1,q3,q4,q5⟩:=copy_sound (ty:=ty) hC r i1 i3 hh;refine⟨_,D,ρ,w',⟨.inl ?_,rfl,q3,q4,q5⟩⟩;rw[e2];simp[e1,e3,q1]
    ·cases hh
   ·cases hh
end
noncomputable def xAq(C:Cfg)(fr:Tr V)(h:Heap)(t:TypeId)(x:Operand):Option (V×Heap):=match evV C fr x with
 |some (.str s)=>match jXq C t with
  |some .str=>some (.ptr h.next 0,h.push (.siter s 0))
  |_=>none
 |some .nilm=>match C.mp t with
  |some _=>some (.ptr h.next 0,h.push (.miter none 0 [] 0))
  |none=>none
 |some (.map r)=>match C.mp t,h.get r with
  |some _,some (.map _ c)=>some (.ptr h.next 0,h.push (.miter (some r) c [] c))
  |_,_=>none
 |_=>none
noncomputable def nextM(h:Heap)(b:Nat)(m:Nat)(since:Nat)(seen:List Nat)(last:Nat):Option (V×Heap):=match seen,h.get m with
 |[],some (.map [] _)=>some (.tup [.bool false],h)
 |[],some (.map [e] c)=>match Nat.blt e.2.2 since with
  |true=>some (.tup [.bool true,e.1,e.2.1],h.put b (.miter (some m) since [e.2.2] c))
  |false=>none
 |[n],some (.map [e] _)=>match Nat.blt e.2.2 last,Nat.beq e.2.2 n with
  |true,true=>some (.tup [.bool false],h)
  |_,_=>none
 |_,_=>none
noncomputable def vyq(C:Cfg)(fr:Tr V)(h:Heap)(x:Operand)(str:Bool):Option (V×Heap):=match evV C fr x with
 |some (.ptr b 0)=>match str,h.get b with
  |true,some (.siter s p)=>match nthR s p with
   |some c=>match Nat.blt c.toNat 128 with
    |true=>some (.tup [.bool true,.int .i64 (.ofNat p),.int .i32 (.ofNat c.toNat)],h.put b (.siter s (p+1)))
    |false=>none
   |none=>some (.tup [.bool false],h)
  |false,some (.miter none _ _ _)=>some (.tup [.bool false],h)
  |false,some (.miter (some m) since seen last)=>nextM h b m since seen last
  |_,_=>none
 |_=>none
noncomputable def xBq(C:Cfg)(fr:Tr V)(h:Heap)(x:Operand):Option (V×Heap):=match evV C fr x with
 |some (.ptr b 0)=>match h.get b with
  |some (.miter (some m) _ [n] last)=>match h.get m with
   |some (.map [e] c)=>match Nat.beq c last,Nat.beq e.2.2 n with
    |true,true=>some (.tup [e.1,e.2.1],h)
    |_,_=>none
   |_=>none
  |_=>none
 |_=>none
noncomputable def ohRaw(C:Cfg)(fr:Tr V)(h:Heap)(s t:TypeId)(x:Operand):Option (V×Heap):=match C.ux (2*s),C.ux (2*t),evV C fr x with
 |some (.ptr e),some .raw,some (.ptr b off)=>match C.ty e,h.val b with
  |some k,some bv=>match Nat.beq k.size 0,Nat.blt off bv.size with
   |false,true=>some (.ptr b off,h)
   |_,_=>none
  |_,_=>none
 |some .raw,some (.ptr e),some (.ptr b 0)=>match C.ty e,h.get b with
  |some k,some (.cells ty bv)=>match Nat.beq ty e,soloB ty,Nat.beq k.size 0,Nat.ble k.size bv.size with
   |true,true,false,true=>some (.ptr b 0,h)
   |_,_,_,_=>none
  |_,_=>none
 |_,_,_=>none
noncomputable def ohCap(C:Cfg)(fr:Tr V)(h:Heap)(args:Array Operand)(ats:Array TypeId):Option (V×Heap):=match args.toList,ats.toList with
 |[x],[t]=>match jXq C t,evV C fr x with
  |some (.slice _),some .nils=>some (.int .i64 (.ofNat 0),h)
  |some (.slice _),some (.sl _ _ _ _ _ (some c))=>some (.int .i64 (.ofNat c),h)
  |_,_=>none
 |_,_=>none
noncomputable def ohData(C:Cfg)(fr:Tr V)(h:Heap)(args:Array Operand)(ats:Array TypeId):Option (V×Heap):=match args.toList,ats.toList with
 |[x],[_]=>match evV C fr x with
  |some .nils=>some (.nilp,h)
  |some (.sl b _ off (_+1) _ _)=>some (.ptr b off,h)
  |_=>none
 |_,_=>none
noncomputable def textV(C:Cfg)(h:Heap)(e:TypeId)(b off n:Nat):Option (V×Heap):=match jXq C e,h.get b with
 |some (.int .u8),some (.cells ty bv)=>match Nat.beq ty e,Nat.ble n 9223372036854775807,qMq 50 bv off n 1 with
  |true,true,some l=>match bytesOf (zVq 1 l) with
   |some r=>match Nat.beq r.length n with
    |true=>some (.str r,h.put b (.ro bv))
    |false=>none
   |none=>none
  |_,_,_=>none
 |_,_=>none
noncomputable def ohText(C:Cfg)(fr:Tr V)(h:Heap)(args:Array Operand)(ats:Array TypeId):Option (V×Heap):=match args.toList,ats.toList with
 |[x,y],[t,_]=>match C.ux (2*t),evV C fr x,evV C fr y with
  |some (.ptr _),some .nilp,some (.int .i64 (.ofNat 0))=>some (.str [],h)
  |some (.ptr e),some (.ptr b off),some (.int .i64 (.ofNat (n+1)))=>textV C h e b off (n+1)
  |_,_,_=>none
 |_,_=>none
noncomputable def jQq(C:Cfg)(fr:Tr V)(h:Heap)(args:Array Operand)(ats:Array TypeId):Option (V×Heap):=match args.toList,ats.toList with
 |[x,y],[ts,tx]=>match jXq C ts,jXq C tx,evV C fr x,evV C fr y with
  |some (.slice e),some (.int _),some .nils,some (.int _ (.ofNat n))=>match C.ty e with
   |some k=>match Nat.beq k.size 0||Nat.beq n 0||!Nat.ble (n*k.bytes) 281474976710656||!Nat.ble n 9223372036854775807 with
    |true=>none
    |false=>some (.sl h.next 0 0 n k.size none,h.push (.cells e (repV n k.size k.zero)))
   |none=>none
  |_,_,_,_=>none
 |_,_=>none
noncomputable def opJ(C:Cfg)(fr:Tr V)(h:Heap):Op->Option (V×Heap)
 |.range t x=>xAq C fr h t x
 |.next x b=>vyq C fr h x b
 |.entry x=>xBq C fr h x
 |.convert s t x=>ohRaw C fr h s t x
 |.call ⟨.builtin .append,args,ats⟩=>jQq C fr h args ats
 |.call ⟨.builtin .cap,args,ats⟩=>ohCap C fr h args ats
 |.call ⟨.builtin .unsafeSliceData,args,ats⟩=>ohData C fr h args ats
 |.call ⟨.builtin .unsafeString,args,ats⟩=>ohText C fr h args ats
 |_=>none
noncomputable def mzV(C:Cfg)(f:FuncId)(vs:List V)(h:Heap):Option (V×Heap):=match C.ux (2*f+1),vs with
 |some (.mk e),[.int .i64 (.ofNat n)]=>match Nat.ble n 281474976710656 with
  |true=>some (.sl h.next 0 0 n 1 none,h.push (.cells e (.arr 0 1 [])))
  |false=>none
 |_,_=>none
section
variable {P:Program} {C:Cfg} {s0:World} {U:Nat} {D:Nat->Prop} {ρ:Env} {fr:Tr V} {a:Act} {w:World} {h:Heap}
theorem Rel.siter(r:Rel s0 U D ρ h w){b:Nat}{s:List UInt8}{p:Nat}(hb:D b)(hg:h.get b=some (.siter s p)):w.heap[ρ.b b]? =some (.stringIter ⟨⟨s⟩⟩ p)/\ρ.pre b=0:=by
 obtain⟨o,h1,h2,h3⟩:=r.has b _ hb hg;subst h2;exact⟨h1,h3⟩
theorem Rel.miter(r:Rel s0 U D ρ h w){b:Nat}{m:Option Nat}{since:Nat}{seen:List Nat}{last:Nat}(hb:D b)(hg:h.get b=some (.miter m since seen last)):
  w.heap[ρ.b b]? =some (.mapIter (m.map ρ.b) since seen.toArray last)/\ρ.pre b=0/\∀r,m=some r->D r:=by
 obtain⟨o,h1,h2,h3⟩:=r.has b _ hb hg;subst h2;exact⟨h1,h3,λq hq=>(r.clo b _ hb hg q hq).1⟩
theorem range_sound(hC:CfgOK P C)(hfr:FrE C D ρ fr a)(r:Rel s0 U D ρ h w){t:TypeId}{x:Operand}{v:V}{h':Heap}(hh:xAq C fr h t x=some (v,h'))(hU:h'.next<=U):
  ∃D' ρ' w',(Instr.range t (a.eval x)).run P w= .ok (conc ρ' v) w'/\Rel s0 U D' ρ' h' w'/\Nxt D ρ h w D' ρ' h' w'/\InD (DD D' ρ') v:=by
 unfold xAq at hh;split at hh
 ·rename_i s hx;split at hh
  ·rename_i hd;cases hh;obtain⟨k,hk,hkd⟩:=yvq hd;have hu:=(hC.ty t k hk).d;rw[hkd] at hu;have hu:P.underlying t=some .string:=hu;obtain⟨r',n'⟩:=r.push (b:=.siter s 0) (o:=.stringIter ⟨⟨s⟩⟩ 0) (pre:=0) (cap:=0) hU (yDq w _) (heap_alloc_new w _) rfl trivial ⟨rfl,by simp[Env.add]⟩;obtain⟨p1,p2⟩:=uDq r (cap:=0);refine⟨_,_,_,?_,r',n',p2⟩;rw[(hfr.ev hx).1,p1];simp only[conc];exact run_range_string w t ⟨⟨s⟩⟩ hu
  ·cases hh
 ·rename_i hx;split at hh
  ·rename_i p hp;cases hh;have hu:=hC.mp t p.1 p.2 hp;obtain⟨r',n'⟩:=r.push (b:=.miter none 0 [] 0) (o:=.mapIter none 0 #[] 0) (pre:=0) (cap:=0) hU (yDq w _) (heap_alloc_new w _) rfl (λq hq=>by cases hq) ⟨rfl,by simp[Env.add]⟩;obtain⟨p1,p2⟩:=uDq r (cap:=0);refine⟨_,_,_,?_,r',n',p2⟩;rw[(hfr.ev hx).1,p1];simp[conc,Instr.range,run_underlying hu]
  ·cases hh
 ·rename_i q hx;split at hh
  ·rename_i p es c hp hg;cases hh;obtain⟨e1,i1⟩:=hfr.ev hx;have hq:D q:=i1.1;have hu:=hC.mp t p.1 p.2 hp;have hm:=(r.mapAt hq hg).1;have hne:q≠h.next:=r.next_new hU q hq;obtain⟨r',n'⟩:=r.push (b:=.miter (some q) c [] c) (o:=.mapIter (some (ρ.b q)) c #[] c) (pre:=0) (cap:=0) hU (yDq w _) (heap_alloc_new w _) rfl (λk hk=>by cases hk;exact i1) ⟨by simp[Env.add,hne],by simp[Env.add]⟩;obtain⟨p1,p2⟩:=uDq r (cap:=0);refine⟨_,_,_,?_,r',n',p2⟩;rw[e1,p1];simp[conc,Instr.range,run_underlying hu,q4q hm]
  ·cases hh
 ·cases hh
theorem byte_at{s:List UInt8}{p:Nat}{c:UInt8}(hc:s[p]? =some c):∃hp:p<(⟨⟨s⟩⟩:ByteArray).size,(⟨⟨s⟩⟩:ByteArray)[p]'hp=c:=by
 obtain⟨h1,h2⟩:=List.getElem?_eq_some_iff.1 hc;exact⟨h1,h2⟩
theorem next_sound(hfr:FrE C D ρ fr a)(r:Rel s0 U D ρ h w){x:Operand}{str:Bool}{ty:TypeId}{v:V}{h':Heap}(hh:vyq C fr h x str=some (v,h')):
  ∃w',(Instr.next (a.eval x) str ty).run P w= .ok (conc ρ v) w'/\Rel s0 U D ρ h' w'/\Nxt D ρ h w D ρ h' w'/\InD (DD D ρ) v:=by
 unfold vyq at hh;split at hh
 ·rename_i b hx;obtain⟨e1,i1⟩:=hfr.ev hx;have hD:D b:=i1.1;split at hh
  ·rename_i s p hg;obtain⟨hb,hpre⟩:=r.siter hD hg;rw[<-Zjq] at hh;split at hh
   ·rename_i c hc;split at hh
    ·rename_i hlt;rw[Nat.blt_eq] at hlt;cases hh;obtain⟨hp,hpc⟩:=byte_at hc;have ha:((⟨⟨s⟩⟩:ByteArray)[p]'hp).toNat<128:=by rw[hpc];exact hlt
     obtain⟨r',n'⟩:=r.put (b':=.siter s (p+1)) hD hg Z Z (ybq (.stringIter ⟨⟨s⟩⟩ (p+1)) (Array.getElem?_eq_some_iff.1 hb).1) ⟨rfl,hpre⟩ trivial;refine⟨_,?_,r',n',trivial,trivial,trivial,trivial⟩;rw[e1];simp only[conc,hpre,Nat.zero_add,Instr.next,getObj,setObj,Sem.run_bind,Sem.run,hb,Result.andThen,hp,if_true,decode_ascii _ p hp ha,hpc];simp[conc,zwq,goInt,Sem.run,hb,World.putObj]
    ·cases hh
   ·rename_i hc;cases hh
    have hp:¬p<(⟨⟨s⟩⟩:ByteArray).size:=by
     have:=List.getElem?_eq_none_iff.1 hc;show¬p<s.length;omega
    refine⟨w,?_,r,Nxt.refl _ _ _ _,trivial,trivial⟩;rw[e1];simp[conc,zwq,hpre,Instr.next,getObj,Sem.run,hb,hp]
  ·rename_i hg;cases hh;obtain⟨hb,hpre,_⟩:=r.miter hD hg;refine⟨w,?_,r,Nxt.refl _ _ _ _,trivial,trivial⟩;rw[e1];simp at hb;simp[conc,zwq,hpre,Instr.next,getObj,Sem.run,hb]
  ·rename_i m since seen last hg;obtain⟨hb,hpre,hm⟩:=r.miter hD hg;have hm:=hm m rfl;simp only[Option.map_some] at hb;unfold nextM at hh;split at hh
   ·rename_i c hgm;cases hh;have hmm:=(r.mapAt hm hgm).1;refine⟨w,?_,r,Nxt.refl _ _ _ _,trivial,trivial⟩;rw[e1];simp only[yGq,List.map_nil] at hmm;simp[conc,zwq,hpre,Instr.next,getObj,Sem.run,hb,hmm,choose,Question.forced]
   ·rename_i e c hgm;split at hh
    ·rename_i hlt;rw[Nat.blt_eq] at hlt;cases hh;obtain⟨hmm,hin⟩:=r.mapAt hm hgm;have hin:=hin e Xe;obtain⟨r',n'⟩:=r.put (b':=.miter (some m) since [e.2.2] c) hD hg Z Z (ybq (.mapIter (some (ρ.b m)) since #[e.2.2] c) (Array.getElem?_eq_some_iff.1 hb).1) ⟨rfl,hpre⟩ (λk hk=>by cases hk;exact⟨hm,Nat.zero_le _⟩);refine⟨_,?_,r',n',trivial,hin.1,hin.2,trivial⟩;rw[e1];simp only[yGq,List.map_cons,List.map_nil] at hmm;simp[conc,zwq,hpre,Instr.next,getObj,setObj,Sem.run,hb,hmm,choose,Question.forced,hlt,Nat.not_le.2 hlt,World.putObj]
    ·cases hh
   ·rename_i n e c hgm;split at hh
    ·rename_i hlt hn;rw[Nat.blt_eq] at hlt;have hn:=Nat.eq_of_beq_eq_true hn;subst hn;cases hh;have hmm:=(r.mapAt hm hgm).1;refine⟨w,?_,r,Nxt.refl _ _ _ _,trivial,trivial⟩;rw[e1];simp only[yGq,List.map_cons,List.map_nil] at hmm;simp[conc,zwq,hpre,Instr.next,getObj,Sem.run,hb,hmm,choose,Question.forced,hlt,Nat.not_le.2 hlt]
    ·cases hh
   ·cases hh
  ·cases hh
 ·cases hh
theorem mentry_sound(hfr:FrE C D ρ fr a)(r:Rel s0 U D ρ h w){x:Operand}{v:V}{h':Heap}(hh:xBq C fr h x=some (v,h')):
  h'=h/\(Instr.entry (a.eval x)).run P w= .ok (conc ρ v) w/\InD (DD D ρ) v:=by
 unfold xBq at hh;split at hh
 ·rename_i b hx;obtain⟨e1,i1⟩:=hfr.ev hx;have hD:D b:=i1.1;split at hh
  ·rename_i m since n last hg;obtain⟨hb,hpre,hm⟩:=r.miter hD hg;have hm:=hm m rfl;simp only[Option.map_some] at hb;split at hh
   ·rename_i e c hgm;split at hh
    ·rename_i hc hn;have hc:=Nat.eq_of_beq_eq_true hc;have hn:=Nat.eq_of_beq_eq_true hn;subst hc hn;cases hh;obtain⟨hmm,hin⟩:=r.mapAt hm hgm;have hin:=hin e Xe;refine⟨rfl,?_,hin.1,hin.2,trivial⟩;rw[e1];simp only[yGq,List.map_cons,List.map_nil] at hmm;simp[conc,zwq,hpre,Instr.entry,getObj,Sem.run,hb,hmm]
    ·cases hh
   ·cases hh
  ·cases hh
 ·cases hh
theorem lies_one{e:TypeId}{n:Nat}(hn:0<P.cellsOf e)(hle:P.cellsOf e<=n):liesAt P P.depth e (n/P.cellsOf e) 0 e 1=true:=by
 have hd:P.depth=(2*(P.types.size+Made.depth)+1)+1:=rfl;have h1:1<=n/P.cellsOf e:=(Nat.le_div_iff_mul_le hn).2 Xa;rw[hd];simp only[liesAt,Bool.or_eq_true];left
 rw[hd];simp[Go.rowAt,Nat.ne_of_gt hn,h1,sameLayout]
theorem lies_bytes{e:TypeId}{count off n:Nat}(hc:P.cellsOf e=1)(hle:off+n<=count):liesAt P P.depth e (count/P.cellsOf e) off e n=true:=by
 have hd:P.depth=(2*(P.types.size+Made.depth)+1)+1:=rfl;rw[hc,Nat.div_one,hd];simp only[liesAt,Bool.or_eq_true];left
 rw[hd];simp[Go.rowAt,hc,hle,sameLayout,Nat.mod_one]
theorem vUq(hC:CfgOK P C){e:TypeId}{k:TyI}(hk:C.ty e=some k):P.cellsOf e=k.size:=by
 obtain⟨inf,hi,hs,_⟩:=(hC.ty e k hk).info;simp[Program.cellsOf,hi,hs]
theorem raw_sound(hC:CfgOK P C)(hfr:FrE C D ρ fr a)(r:Rel s0 U D ρ h w){s t:TypeId}{x:Operand}{v:V}{h':Heap}(hh:ohRaw C fr h s t x=some (v,h')):
  h'=h/\(convert s t (a.eval x)).run P w= .ok (conc ρ v) w/\InD (DD D ρ) v:=by
 unfold ohRaw at hh;split at hh
 ·rename_i e b off hs ht hx;obtain⟨e1,i1⟩:=hfr.ev hx;have hus:=hC.ptr _ _ hs;have hut:=hC.raw _ ht;split at hh
  ·rename_i k bv hk hv;split at hh
   ·rename_i hz hlt;cases hh;rw[Nat.blt_eq] at hlt;have hz:k.size≠0:=λe=>by rw[e] at hz;cases hz
    obtain⟨pre,tail,ty,fz,h1,h2,_,_⟩:=r.val i1.1 hv;obtain⟨inf,hi,hsz,_⟩:=(hC.ty e k hk).info;refine⟨rfl,?_,i1⟩;have hsh:w.shape? (ρ.b b)=some (ty,(pre++(cellsV ρ bv++tail)).toArray.size):=by simp[World.shape?,h1]
    have hoff:ρ.pre b+off<(pre++(cellsV ρ bv++tail)).toArray.size:=by simp;omega
    rw[e1];simp only[conc];generalize (pre++(cellsV ρ bv++tail)).toArray.size=cells at hsh hoff;simp[convert,run_underlying hus,run_underlying hut,Conv.unsafePointer,Conv.seenAt,viewAt,cellsIn,hsh,sizeOf,typeInfo,hi,hsz,hz];intro h;omega
   ·cases hh
  ·cases hh
 ·rename_i e b hs ht hx;obtain⟨e1,i1⟩:=hfr.ev hx;have hus:=hC.raw _ hs;have hut:=hC.ptr _ _ ht;split at hh
  ·rename_i k ty bv hk hg;split at hh
   ·rename_i hty hso hz hle;cases hh;have hty:=Nat.eq_of_beq_eq_true hty;subst hty;have hle:=Zb hle;have hz:k.size≠0:=λe=>by rw[e] at hz;cases hz
    obtain⟨o,h1,pre,tail,rfl,h2,h3⟩:=r.has b _ i1.1 hg;obtain⟨inf,hi,hsz,_⟩:=(hC.ty ty k hk).info;have hco:=vUq hC hk;refine⟨rfl,?_,i1⟩;have hsh:w.shape? (ρ.b b)=some (ty,(pre++(cellsV ρ bv++tail)).toArray.size):=by simp[World.shape?,h1]
    have hlies:liesAt P P.depth ty ((pre++(cellsV ρ bv++tail)).toArray.size/P.cellsOf ty) 0 ty 1=true:=lies_one Xa Xc;rw[e1];simp only[conc,h3.2 hso];generalize (pre++(cellsV ρ bv++tail)).toArray.size=cells at hsh hlies;simp[convert,run_underlying hus,run_underlying hut,Conv.unsafePointer,Conv.seenAt,viewAt,hsh,variablesAt,hlies,sizeOf,typeInfo,hi]
   ·cases hh
  ·cases hh
 ·cases hh
theorem cap_sound(hC:CfgOK P C)(hfr:FrE C D ρ fr a){args:Array Operand}{ats:Array TypeId}{ty:TypeId}{v:V}{h':Heap}(hh:ohCap C fr h args ats=some (v,h'))(w:World):
  h'=h/\(Builtin.cap_ ats ty (args.map a.eval)).run P w= .ok (conc ρ v) w/\InD (DD D ρ) v:=by
 obtain⟨args⟩:=args;obtain⟨ats⟩:=ats;unfold ohCap at hh;split at hh
 ·rename_i x t h1 h2;simp only at h1 h2;subst h1 h2;split at hh
  ·rename_i e hd hx;cases hh;obtain⟨k,hk,hkd⟩:=yvq hd;have hu:=(hC.ty t k hk).d;rw[hkd] at hu;have hu:P.underlying t=some (.slice e):=hu;refine⟨rfl,?_,trivial⟩;simp[Builtin.cap_,(hfr.ev hx).1,conc,run_underlying hu,goInt]
  ·rename_i e b base off len esz c hd hx;cases hh;obtain⟨k,hk,hkd⟩:=yvq hd;have hu:=(hC.ty t k hk).d;rw[hkd] at hu;have hu:P.underlying t=some (.slice e):=hu;refine⟨rfl,?_,trivial⟩;simp[Builtin.cap_,(hfr.ev hx).1,conc,z7q,z4q,run_underlying hu,goInt]
  ·cases hh
 ·cases hh
theorem data_sound(hfr:FrE C D ρ fr a){args:Array Operand}{ats:Array TypeId}{ty:TypeId}{v:V}{h':Heap}(hh:ohData C fr h args ats=some (v,h'))(w:World):
  h'=h/\(Builtin.unsafeSliceData_ ats ty (args.map a.eval)).run P w= .ok (conc ρ v) w/\InD (DD D ρ) v:=by
 obtain⟨args⟩:=args;obtain⟨ats⟩:=ats;unfold ohData at hh;split at hh
 ·rename_i x t h1 h2;simp only at h1 h2;subst h1 h2;split at hh
  ·rename_i hx;cases hh;refine⟨rfl,?_,trivial⟩;have e3:(#[x].map a.eval)= #[.slice none 0 0]:=by simp[(hfr.ev hx).1,conc]
   rw[show(⟨[x]⟩:Array Operand)= #[x] from rfl,e3];rfl
  ·rename_i b base off n esz lim hx;cases hh;obtain⟨e1,i1⟩:=hfr.ev hx
   have hcap:z4q ρ b off esz lim≠0:=by
    obtain⟨hz,hl,hd⟩:=i1;cases lim with
    |some c=>simp only[Option.getD_some] at hl;simp only[z4q];omega
    |none=>
     simp only[Option.getD_none] at hd;have h4:off+(n+1)*esz<=ρ.cap b:=hd.2;simp only[z4q];have h5:n+1<=(ρ.cap b-off)/esz:=(Nat.le_div_iff_mul_le hz).2 Xa;omega
   refine⟨rfl,?_,i1.2.2.1,Nat.zero_le _⟩;have e3:(#[x].map a.eval)= #[.slice (some ⟨ρ.b b,ρ.pre b+off,none⟩) (n+1) (z4q ρ b off esz lim)]:=by simp[e1,conc,z7q,hcap]
   rw[show(⟨[x]⟩:Array Operand)= #[x] from rfl,e3];generalize z4q ρ b off esz lim=c at hcap;obtain⟨k,rfl⟩:∃k,c=k+1:=⟨c-1,by omega⟩
   rfl
  ·cases hh
 ·cases hh
theorem vDq:∀(l:List UInt8) (a:Addr) (acc:ByteArray),(∀j x,l[j]? =some x->w.cell? (a.add j)=some (.int .u8 x.toNat)) ->
  (loadBytes a acc l.length).run P w= .ok ⟨acc.data++l.toArray⟩ w
 |[],a,acc,_=>by simp[loadBytes]
 |x::l,a,acc,h=>by
  have h0:w.cell? a=some (.int .u8 x.toNat):=by
   have:=h 0 x rfl;simpa[Addr.add] using this
  have ih:=vDq l (a.add 1) (acc.push x) (λj y hy=>by
   have:=h (j+1) y (by simpa using hy)
   have e:(a.add 1).add j=a.add (j+1):=by
    unfold Addr.add;by_cases hj:j=0
    ·subst hj;simp
    ·simp[hj];omega
   rw[e];exact this)
  have hx:((x.toNat:Int).toNat).toUInt8=x:=by simp
  simp only[List.length_cons,loadBytes,Sem.run_bind,run_load,h0,Result.andThen,hx];rw[ih];congr 1
  apply ByteArray.ext;simp[ByteArray.push]
theorem leaf_one{v:V}(h:v.leaf=true):v.size=1:=by cases v<;>simp[V.leaf] at h<;>rfl
theorem freeze_row{q off n:Nat}{cs:Array Value}{ty:TypeId}(hn:n≠0)(h:w.heap[q]? =some (.cells cs ty (0,0))):
  w.freeze ⟨q,off,none⟩ n=w.putObj q (.cells cs ty (off,off+n)):=by
 have hlt:=(Array.getElem?_eq_some_iff.1 h).1;unfold World.freeze World.putObj;rw[if_neg hn];congr 1
 apply Array.ext_getElem?;intro j;rw[Array.getElem?_modify,Array.getElem?_setIfInBounds];by_cases e:q=j
 ·subst e
  have hq:w.heap[q]= .cells cs ty (0,0):=by
   have:=h;rw[Array.getElem?_eq_getElem hlt] at this;exact Option.some.inj this
  simp[hlt,hq]
 ·simp[e]
theorem text_sound(hC:CfgOK P C)(hfr:FrE C D ρ fr a)(r:Rel s0 U D ρ h w){args:Array Operand}{ats:Array TypeId}{ty:TypeId}{v:V}{h':Heap}(hh:ohText C fr h args ats=some (v,h')):
  ∃w',(Builtin.unsafeString_ ats ty (args.map a.eval)).run P w= .ok (conc ρ v) w'/\Rel s0 U D ρ h' w'/\Nxt D ρ h w D ρ h' w'/\InD (DD D ρ) v:=by
 obtain⟨args⟩:=args;obtain⟨ats⟩:=ats;have hmax:IntKind.i64.max=9223372036854775807:=rfl;unfold ohText at hh;split at hh
 ·rename_i x y t t2 h1 h2;simp only at h1 h2;subst h1 h2;split at hh
  ·rename_i e hu hx hy;cases hh;refine⟨w,?_,r,Nxt.refl _ _ _ _,trivial⟩
   have hdef:Builtin.unsafeString_ #[t,t2] ty #[.pointer none,.int .i64 0]=
     (do
      let n<-asInt (.int .i64 0)
      if n<0 then runtimePanic (.error "unsafe.String: len out of range")
      if n>IntKind.i64.max then unsupported (.unsafePointer "String: a length above the largest int")
      if n=0 then pure (.string .empty)
      else runtimePanic (.error "unsafe.String: ptr is nil and len is not zero")):=rfl
   have e3:(#[x,y].map a.eval)= #[.pointer none,.int .i64 0]:=by simp[(hfr.ev hx).1,(hfr.ev hy).1,conc]
   rw[show(⟨[x,y]⟩:Array Operand)= #[x,y] from rfl,e3];show Sem.run P (Builtin.unsafeString_ #[t,t2] ty #[.pointer none,.int .i64 0]) w=_;rw[hdef];simp[asInt,asIntOf,hmax,conc];rfl
  ·rename_i e b off n hu hx hy;obtain⟨e1,i1⟩:=hfr.ev hx;have hD:D b:=i1.1;unfold textV at hh;split at hh
   ·rename_i bty bv hed hg;split at hh
    ·rename_i l hty hn63 hl;split at hh
     ·rename_i rr hr;split at hh
      ·rename_i hlen;cases hh;have hty:=Nat.eq_of_beq_eq_true hty;subst hty;have hlen:=Nat.eq_of_beq_eq_true hlen;have hn63:=Zb hn63;obtain⟨k,hk,hkd⟩:=yvq hed;have hkt:=hC.ty bty k hk
       have hks:k.size=1:=by
        rw[<-hkt.zsize];exact leaf_one (hkt.zleaf (by unfold TyI.agg;rw[hkd]))
       have hco:P.cellsOf bty=1:=by rw[vUq hC hk];exact hks
       have hpt:=hC.ptr _ _ hu;obtain⟨g1,g2⟩:=j0q ρ hr;obtain⟨q1,q2,q3,_⟩:=yCq (ρ:=ρ) 50 bv off (n+1) 1 l hl;obtain⟨o,hb,pre,tail,rfl,hp,hcp⟩:=r.has b _ hD hg;have hsz:(pre++(cellsV ρ bv++tail)).toArray.size=pre.length+(bv.size+tail.length):=by simp
       have hcell:∀j c,rr[j]? =some c->w.cell? ((⟨ρ.b b,ρ.pre b+off,none⟩:Addr).add j)=some (.int .u8 c.toNat):=λj c hj=>by
        have h3:(zqq ρ 1 l)[j]? =some (.int .u8 c.toNat):=by rw[g2];simp[hj]
        rw[<-q3] at h3;have hjn:j<n+1:=by have:=(List.getElem?_eq_some_iff.1 hj).1;omega
        rw[List.getElem?_take_of_lt Xa,List.getElem?_drop] at h3
        have ea:(⟨ρ.b b,ρ.pre b+off,none⟩:Addr).add j=⟨ρ.b b,ρ.pre b+off+j,none⟩:=by
         unfold Addr.add;by_cases hj0:j=0
         ·simp[hj0]
         ·simp[hj0]
        rw[ea];simp only[World.cell?,hb];have:=row_at (pre:=pre) (tail:=tail) h3;rw[<-hp,Nat.add_assoc];simpa using this
       have hlb:=vDq (P:=P) (w:=w) rr ⟨ρ.b b,ρ.pre b+off,none⟩ .empty hcell;have hlies:liesAt P P.depth bty ((pre++(cellsV ρ bv++tail)).toArray.size/P.cellsOf bty) (ρ.pre b+off) bty (n+1)=true:=lies_bytes hco (by rw[hsz];omega);have hsh:w.shape? (ρ.b b)=some (bty,(pre++(cellsV ρ bv++tail)).toArray.size):=by simp[World.shape?,hb]
       have hfz:=freeze_row (off:=ρ.pre b+off) (n:=n+1) Xa hb;obtain⟨r',n'⟩:=r.putR (b':=.ro bv) hD hg Z Z (ybq (.cells (pre++(cellsV ρ bv++tail)).toArray bty (ρ.pre b+off,ρ.pre b+off+(n+1))) (Array.getElem?_eq_some_iff.1 hb).1) ⟨pre,tail,bty,_,rfl,hp,by omega⟩ (show InD (DD D ρ) bv from r.clo b _ hD hg);refine⟨_,?_,r',n',trivial⟩
       have hdef:Builtin.unsafeString_ #[t,t2] ty #[.pointer (some ⟨ρ.b b,ρ.pre b+off,none⟩),.int .i64 ((n+1:Nat):Int)]=
         (do
          let n<-asInt (.int .i64 ((n+1:Nat):Int))
          if n<0 then runtimePanic (.error "unsafe.String: len out of range")
          if n>IntKind.i64.max then unsupported (.unsafePointer "String: a length above the largest int")
          if n=0 then pure (.string .empty)
          else if<-variablesAt ⟨ρ.b b,ρ.pre b+off,none⟩ (<-elemOf t) n.toNat then do
           let s<-loadBytes ⟨ρ.b b,ρ.pre b+off,none⟩ .empty n.toNat
           freeze ⟨ρ.b b,ρ.pre b+off,none⟩ n.toNat
           pure (.string s)
          else unsupported (.unsafePointer "String: not so many bytes at ptr")):=rfl
       have e3:(#[x,y].map a.eval)= #[.pointer (some ⟨ρ.b b,ρ.pre b+off,none⟩),.int .i64 ((n+1:Nat):Int)]:=by simp[e1,(hfr.ev hy).1,conc]
       rw[show(⟨[x,y]⟩:Array Operand)= #[x,y] from rfl,e3];show Sem.run P (Builtin.unsafeString_ #[t,t2] ty #[.pointer (some ⟨ρ.b b,ρ.pre b+off,none⟩),.int .i64 ((n+1:Nat):Int)]) w=_;rw[hdef];rw[hlen] at hlb;have h1:¬((n+1:Nat):Int)<0:=by omega
       have h2:¬(9223372036854775807:Int)<((n+1:Nat):Int):=by omega
       have h3:¬((n+1:Nat):Int)=0:=by omega
       have h4:(((n+1:Nat):Int)).toNat=n+1:=rfl;generalize hN:((n+1:Nat):Int)=N at h1 h2 h3 h4;simp only[asInt,asIntOf,hmax,Sem.run_bind,Sem.run_pure,Result.andThen_ok,gt_iff_lt,h1,h2,h3,h4,if_false,variablesAt,elemOf,run_underlying hpt,run_program,run_shape,hsh,hlies,if_true,hlb,run_freeze,hfz,conc];simp
      ·cases hh
     ·cases hh
    ·cases hh
   ·cases hh
  ·cases hh
 ·cases hh
theorem uZq:∀(n t:Nat) (acc:Array Value),(Extern.BytealgMakeNoZero.digits n t acc).size=acc.size+n
 |0,_,_=>rfl
 |n+1,t,acc=>by
  rw[Extern.BytealgMakeNoZero.digits,uZq n];simp;omega
theorem mz_sound(hC:CfgOK P C)(r:Rel s0 U D ρ h w){f:FuncId}{vs:List V}{v:V}{h':Heap}(hh:mzV C f vs h=some (v,h'))(hU:h'.next<=U):
  ∃D' ρ' w',(callFunc f (zwq ρ vs).toArray).run P w= .ok (.value (conc ρ' v)) w'/\Rel s0 U D' ρ' h' w'/\Nxt D ρ h w D' ρ' h' w'/\InD (DD D' ρ') v:=by
 unfold mzV at hh;split at hh
 ·rename_i e n hu;split at hh
  ·rename_i hle;cases hh;have hle:=Zb hle;obtain⟨ps,rs,t,hrs,hts,hte,hrun⟩:=hC.room f e hu;have hge:=grownCap_ge w n 0 e;generalize hgc:grownCap w n 0 e=gc at hge;let bits:=(Question.extern "internal/bytealg.MakeNoZero.bytes" 0).cut (w.tape (w.drawn+1) (.extern "internal/bytealg.MakeNoZero.bytes" 0))
   have hsz:(Extern.BytealgMakeNoZero.digits gc bits #[]).toList.length=gc:=by
    have:=uZq gc bits #[];simpa using this
   have hcl:cellsV (ρ.add h.next w.heap.size 0 gc) (.arr 0 1 [])=[]:=by simp[cellsV,zqq,fit]
   obtain⟨r',n'⟩:=(r.drawn (w.drawn+2)).push (w':=({w with drawn:=w.drawn+2}:World).alloc (.cells (Extern.BytealgMakeNoZero.digits gc bits #[]) e)) (pre:=0) (cap:=gc) hU (yDq _ _) (heap_alloc_new _ _) (b:=.cells e (.arr 0 1 [])) rfl (show InD (DD D ρ) (.arr 0 1 []) from trivial)
    ⟨[],(Extern.BytealgMakeNoZero.digits gc bits #[]).toList,by rw[hcl];simp,by simp[Env.add],by simp only[Env.add,if_true];rw[hsz];simp[V.size]⟩
   obtain⟨s1,s2⟩:=vzq (D:=D) (ρ:=ρ) (w:=w) (h:=h) gc n 1 Xa hge (cap:=gc) Xa;refine⟨_,_,_,?_,r',n'.undrew,s2⟩;rw[hrun,s1];have h1:¬(n:Int)<0:=by omega
   have h2:¬(281474976710656:Int)<(n:Int):=by omega
   have hdef:Extern.BytealgMakeNoZero.makeNoZero ps rs #[.int .i64 n]=
     (do
      let some t:=rs[0]? |stuck "bytealg.MakeNoZero: no result type"
      let .slice elem<-underlying t|stuck "bytealg.MakeNoZero: slice type expected"
      if (n:Int)<0||(n:Int)>2^48 then runtimePanic (.error "makeslice: len out of range")
      let cap<-choose (.appendCap (n:Int).toNat 0 elem)
      askRoom cap
      let bytes<-choose (.extern "internal/bytealg.MakeNoZero.bytes" 0)
      let a<-newRow elem (Extern.BytealgMakeNoZero.digits cap bytes #[])
      pure (.slice (some a) (n:Int).toNat cap)):=rfl
   have ha:(zwq ρ [.int .i64 (.ofNat n)]).toArray= #[.int .i64 (n:Int)]:=by simp[zwq,conc]
   rw[ha];simp only[hdef,hrs];have hgc':(Question.appendCap n 0 e).cut (w.tape w.drawn (.appendCap n 0 e))=gc:=hgc;simp[run_underlying hts,h1,h2,Question.forced,newRow,hgc',bits];rfl
  ·cases hh
 ·cases hh
theorem zeros_sound(hC:CfgOK P C)(hfr:FrE C D ρ fr a)(r:Rel s0 U D ρ h w){args:Array Operand}{ats:Array TypeId}{ty:TypeId}{v:V}{h':Heap}(hh:jQq C fr h args ats=some (v,h'))(hU:h'.next<=U):
  ∃D' ρ' w',(Builtin.append_ ats ty (args.map a.eval)).run P w= .ok (conc ρ' v) w'/\Rel s0 U D' ρ' h' w'/\Nxt D ρ h w D' ρ' h' w'/\InD (DD D' ρ') v:=by
 obtain⟨args⟩:=args;obtain⟨ats⟩:=ats;unfold jQq at hh;split at hh
 ·rename_i x y ts tx h1 h2;simp only at h1 h2;subst h1 h2;split at hh
  ·rename_i e kk kn n hts htx hx hy;split at hh
   ·rename_i k hk;split at hh
    ·cases hh
    ·rename_i hcc;simp only[Bool.or_eq_false_iff,Bool.not_eq_false'] at hcc;have h3:=Zb hcc.2;have h2:=Zb hcc.1.2
     have hk0:0<k.size:=by
      rcases Nat.eq_zero_or_pos k.size with h0|h0
      ·rw[x5q h0] at hcc;cases hcc.1.1.1
      ·exact h0
     have hn0:0<n:=by
      rcases Nat.eq_zero_or_pos n with h0|h0
      ·rw[x5q h0] at hcc;cases hcc.1.1.2
      ·exact h0
     cases hh;obtain⟨js,hjs,hjd⟩:=yvq hts;have hus:=(hC.ty ts js hjs).d;rw[hjd] at hus;have hus:P.underlying ts=some (.slice e):=hus;obtain⟨jx,hjx,hjxd⟩:=yvq htx;have hux:=(hC.ty tx jx hjx).d;rw[hjxd] at hux;have hux:P.underlying tx=some (.int kk):=hux;have ok:=hC.ty e k hk;obtain⟨inf,hin,hsz,hby,hz⟩:=ok.info
     have hzc:(conc ρ k.zero).cells=(cellsV ρ k.zero).toArray:=yyq (by
      cases ha:k.agg with
      |true=>exact .inr Xi
      |false=>exact .inl (ok.zleaf ha))
     have key:=Lib.run_append_nil_zeros (P:=P) w ts tx ty e inf _ kn kk hus hux hin (hz ρ) n hn0 Xa Xa (by rw[hby];exact h2);have hge:=grownCap_ge w n 0 e;generalize grownCap w n 0 e=gc at key hge;have hzin:InD (DD D ρ) (repV n k.size k.zero):=InDL_iff.2 λy hy=>by rw[(List.mem_replicate.1 hy).2];exact ok.zin.mono λ_ _ h=>h.elim
     have hrep:=kZq ρ n k.size k.zero ok.zsize hk0;have hzl:(cellsV ρ k.zero).toArray.size=k.size:=by simp[ok.zsize]
     have hz1:Builtin.zeroCells (conc ρ k.zero).cells n=(cellsV ρ (repV n k.size k.zero)).toArray:=by
      rw[hrep,hzc];unfold Builtin.zeroCells;rw[hzl]
     obtain⟨T,hT⟩:∃T:List Value,Builtin.zeroCells (conc ρ k.zero).cells (gc-n)=T.toArray:=⟨(Builtin.zeroCells (conc ρ k.zero).cells (gc-n)).toList,by simp⟩
     have hTl:T.length=(gc-n)*k.size:=by
      have:=congrArg Array.size hT;rw[hzc] at this;simp only[Builtin.zeroCells,hzl,Array.size_map,Array.size_range,List.size_toArray] at this;exact this.symm
     obtain⟨r',n'⟩:=jbq (t:=e) (tail:=T) (r.drawn (w.drawn+1)) hU hzin
     have hcap:(repV n k.size k.zero).size+T.length=gc*k.size:=by
      rw[hTl];show n*k.size+_=_;rw[<-Nat.add_mul];congr 1
      omega
     obtain⟨p1,p2⟩:=vzq (D:=D) (ρ:=ρ) (w:=w) (h:=h) gc n k.size hk0 hge (cap:=(repV n k.size k.zero).size+T.length) hcap;refine⟨_,_,_,?_,r',n'.undrew,p2⟩;have e3:(#[x,y].map a.eval)= #[.slice none 0 0,.int kn (n:Int)]:=by simp[(hfr.ev hx).1,(hfr.ev hy).1,conc]
     have e4:({w with drawn:=w.drawn+1}:World).heap.size=w.heap.size:=rfl;rw[show(⟨[x,y]⟩:Array Operand)= #[x,y] from rfl,e3,e4,p1];rw[hz1,hT] at key;rw[show(cellsV ρ (repV n k.size k.zero)).toArray++T.toArray=(cellsV ρ (repV n k.size k.zero)++T).toArray by simp] at key;exact key
   ·cases hh
  ·cases hh
 ·cases hh
theorem opJ_sound(hC:CfgOK P C)(hfr:FrE C D ρ fr a)(r:Rel s0 U D ρ h w){o:Oper}{v:V}{h':Heap}(hh:opJ C fr h o.op=some (v,h'))(hU:h'.next<=U):∃x D' ρ' w',Did P C s0 U o a D ρ h w v h' x D' ρ' w':=by
 obtain⟨dst,op,ty,pos,aft,g⟩:=o;simp only at hh;unfold opJ at hh;split at hh
 ·rename_i t x;obtain⟨D',ρ',w',q1,q2,q3,q4⟩:=range_sound hC hfr r hh hU;refine⟨_,D',ρ',w',⟨.inl ?_,rfl,q2,q3,q4⟩⟩;simp[execOp,q1]
 ·rename_i x b;obtain⟨w',q1,q2,q3,q4⟩:=next_sound (P:=P) (ty:=ty) hfr r hh;refine⟨_,D,ρ,w',⟨.inl ?_,rfl,q2,q3,q4⟩⟩;simp[execOp,q1]
 ·rename_i x;obtain⟨rfl,q1,q4⟩:=mentry_sound (P:=P) hfr r hh;refine⟨_,D,ρ,w,⟨.inl ?_,rfl,r,Nxt.refl _ _ _ _,q4⟩⟩;simp[execOp,q1]
 ·rename_i s t x;obtain⟨rfl,q1,q4⟩:=raw_sound hC hfr r hh;refine⟨_,D,ρ,w,⟨.inl ?_,rfl,r,Nxt.refl _ _ _ _,q4⟩⟩;simp[execOp,q1]
 ·rename_i args ats;obtain⟨D',ρ',w',q1,q2,q3,q4⟩:=zeros_sound (ty:=ty) hC hfr r hh hU;refine⟨_,D',ρ',w',⟨.inl ?_,rfl,q2,q3,q4⟩⟩;have e2:execOp a.eval ⟨dst,.call ⟨.builtin .append,args,ats⟩,ty,pos,aft,g⟩=(do pure (.value (<-Builtin.append_ ats ty (args.map a.eval)))):=rfl;rw[e2];simp[q1]
 ·rename_i args ats;obtain⟨rfl,q1,q4⟩:=cap_sound (ty:=ty) hC hfr hh w;refine⟨_,D,ρ,w,⟨.inl ?_,rfl,r,Nxt.refl _ _ _ _,q4⟩⟩;have e2:execOp a.eval ⟨dst,.call ⟨.builtin .cap,args,ats⟩,ty,pos,aft,g⟩=(do pure (.value (<-Builtin.cap_ ats ty (args.map a.eval)))):=rfl;rw[e2];simp[q1]
 ·rename_i args ats;obtain⟨rfl,q1,q4⟩:=data_sound (P:=P) (ty:=ty) hfr hh w;refine⟨_,D,ρ,w,⟨.inl ?_,rfl,r,Nxt.refl _ _ _ _,q4⟩⟩;have e2:execOp a.eval ⟨dst,.call ⟨.builtin .unsafeSliceData,args,ats⟩,ty,pos,aft,g⟩=(do pure (.value (<-Builtin.unsafeSliceData_ ats ty (args.map a.eval)))):=rfl;rw[e2];simp[q1]
 ·rename_i args ats;obtain⟨w',q1,q2,q3,q4⟩:=text_sound (ty:=ty) hC hfr r hh;refine⟨_,D,ρ,w',⟨.inl ?_,rfl,q2,q3,q4⟩⟩;have e2:execOp a.eval ⟨dst,.call ⟨.builtin .unsafeString,args,ats⟩,ty,pos,aft,g⟩=(do pure (.value (<-Builtin.unsafeString_ ats ty (args.map a.eval)))):=rfl;rw[e2];simp[q1]
 ·cases hh
end
noncomputable def kNum:IntKind->Nat
 |.i8=>0
 |.i16=>1
 |.i32=>2
 |.i64=>3
 |.u8=>4
 |.u16=>5
 |.u32=>6
 |.u64=>7
theorem kNum_inj{a b:IntKind}(h:kNum a=kNum b):a=b:=by
 cases a<;>cases b<;>first|rfl|(exact absurd h Xd)
noncomputable def sqZ:Int->Int->Bool
 |.ofNat a,.ofNat b=>Nat.beq a b
 |.negSucc a,.negSucc b=>Nat.beq a b
 |_,_=>false
theorem sqZ_of:∀{a b:Int},sqZ a b=true->a=b
 |.ofNat a,.ofNat b,h=>congrArg Int.ofNat (Nat.eq_of_beq_eq_true h)
 |.negSucc a,.negSucc b,h=>congrArg Int.negSucc (Nat.eq_of_beq_eq_true h)
 |.ofNat _,.negSucc _,h=>by cases h
 |.negSucc _,.ofNat _,h=>by cases h
noncomputable def sqBy:List UInt8->List UInt8->Bool
 |[],[]=>true
 |a::l,b::m=>match Nat.beq a.toNat b.toNat with
  |true=>sqBy l m
  |false=>false
 |_,_=>false
theorem sqBy_of:∀{l m:List UInt8},sqBy l m=true->l=m
 |[],[],_=>rfl
 |a::l,b::m,h=>by
  simp only[sqBy] at h;split at h
  ·rename_i q;rw[UInt8.toNat_inj.1 (Nat.eq_of_beq_eq_true q),sqBy_of h]
  ·cases h
 |[],_::_,h=>by cases h
 |_::_,[],h=>by cases h
noncomputable def sqO:Option Nat->Option Nat->Bool
 |none,none=>true
 |some a,some b=>Nat.beq a b
 |_,_=>false
theorem sqO_of:∀{a b:Option Nat},sqO a b=true->a=b
 |none,none,_=>rfl
 |some a,some b,h=>congrArg some (Nat.eq_of_beq_eq_true h)
 |none,some _,h=>by cases h
 |some _,none,h=>by cases h
mutual
noncomputable def sqV:V->V->Bool
 |.undef,y=>match y with
  |.undef=>true
  |_=>false
 |.bool a,y=>match y with
  |.bool b=>Bool.rec (Bool.rec true false b) (Bool.rec false true b) a
  |_=>false
 |.int k a,y=>match y with
  |.int k' b=>match Nat.beq (kNum k) (kNum k') with
   |true=>sqZ a b
   |false=>false
  |_=>false
 |.str a,y=>match y with
  |.str b=>sqBy a b
  |_=>false
 |.nilp,y=>match y with
  |.nilp=>true
  |_=>false
 |.ptr a o,y=>match y with
  |.ptr b p=>match Nat.beq a b with
   |true=>Nat.beq o p
   |false=>false
  |_=>false
 |.nils,y=>match y with
  |.nils=>true
  |_=>false
 |.sl a b c d e l,y=>match y with
  |.sl a' b' c' d' e' l'=>Nat.beq a a'&&(Nat.beq b b'&&(Nat.beq c c'&&(Nat.beq d d'&&(Nat.beq e e'&&sqO l l'))))
  |_=>false
 |.nilm,y=>match y with
  |.nilm=>true
  |_=>false
 |.nilf,y=>match y with
  |.nilf=>true
  |_=>false
 |.nili,y=>match y with
  |.nili=>true
  |_=>false
 |.agg n l,y=>match y with
  |.agg m r=>match Nat.beq n m with
   |true=>sqVL l r
   |false=>false
  |_=>false
 |.arr n e l,y=>match y with
  |.arr m e' r=>match Nat.beq n m&&Nat.beq e e' with
   |true=>sqVL l r
   |false=>false
  |_=>false
 |.tup l,y=>match y with
  |.tup r=>sqVL l r
  |_=>false
 |.iface t v,y=>match y with
  |.iface s u=>match Nat.beq t s with
   |true=>sqV v u
   |false=>false
  |_=>false
 |.map a,y=>match y with
  |.map b=>Nat.beq a b
  |_=>false
 |.yield a,y=>match y with
  |.yield b=>Nat.beq a b
  |_=>false
 |.fn f l c,y=>match y with
  |.fn g m d=>match Nat.beq f g&&sqVL l m with
   |true=>sqVL c d
   |false=>false
  |_=>false
noncomputable def sqVL:List V->List V->Bool
 |[],y=>match y with
  |[]=>true
  |_::_=>false
 |a::l,y=>match y with
  |[]=>false
  |b::r=>match sqV a b with
   |true=>sqVL l r
   |false=>false
end
mutual
theorem sqV_of:∀{a b:V},sqV a b=true->a=b
 |.undef,b,h=>by cases b<;>simp[sqV] at h;rfl
 |.bool x,b,h=>by
  cases b<;>simp only[sqV] at h
  all_goals first|(cases h;done)|skip
  rename_i y;cases x<;>cases y<;>first|rfl|(exact absurd h Xd)
 |.int k x,b,h=>by
  cases b<;>simp only[sqV] at h
  all_goals first|(cases h;done)|skip
  split at h
  ·rename_i q;rw[kNum_inj (Nat.eq_of_beq_eq_true q),sqZ_of h]
  ·cases h
 |.str x,b,h=>by
  cases b<;>simp only[sqV] at h
  all_goals first|(cases h;done)|skip
  rw[sqBy_of h]
 |.nilp,b,h=>by cases b<;>simp[sqV] at h;rfl
 |.ptr x o,b,h=>by
  cases b<;>simp only[sqV] at h
  all_goals first|(cases h;done)|skip
  split at h
  ·rename_i q;rw[Nat.eq_of_beq_eq_true q,Nat.eq_of_beq_eq_true h]
  ·cases h
 |.nils,b,h=>by cases b<;>simp[sqV] at h;rfl
 |.sl _ _ _ _ _ _,b,h=>by
  cases b<;>simp only[sqV] at h
  all_goals first|(cases h;done)|skip
  simp only[Bool.and_eq_true] at h;obtain⟨h1,h2,h3,h4,h5,h6⟩:=h;rw[Nat.eq_of_beq_eq_true h1,Nat.eq_of_beq_eq_true h2,Nat.eq_of_beq_eq_true h3,Nat.eq_of_beq_eq_true h4,Nat.eq_of_beq_eq_true h5,sqO_of h6]
 |.nilm,b,h=>by cases b<;>simp[sqV] at h;rfl
 |.nilf,b,h=>by cases b<;>simp[sqV] at h;rfl
 |.nili,b,h=>by cases b<;>simp[sqV] at h;rfl
 |.agg n l,b,h=>by
  cases b<;>simp only[sqV] at h
  all_goals first|(cases h;done)|skip
  split at h
  ·rename_i q;rw[Nat.eq_of_beq_eq_true q,kqq h]
  ·cases h
 |.arr n e l,b,h=>by
  cases b<;>simp only[sqV] at h
  all_goals first|(cases h;done)|skip
  split at h
  ·rename_i q;rw[Bool.and_eq_true] at q;rw[Nat.eq_of_beq_eq_true q.1,Nat.eq_of_beq_eq_true q.2,kqq h]
  ·cases h
 |.tup l,b,h=>by
  cases b<;>simp only[sqV] at h
  all_goals first|(cases h;done)|skip
  rw[kqq h]
 |.map _,b,h=>by
  cases b<;>simp only[sqV] at h
  all_goals first|(cases h;done)|skip
  rw[Nat.eq_of_beq_eq_true h]
 |.fn f l c,b,h=>by
  cases b<;>simp only[sqV] at h
  all_goals first|(cases h;done)|skip
  split at h
  ·rename_i q;rw[Bool.and_eq_true] at q;rw[Nat.eq_of_beq_eq_true q.1,kqq q.2,kqq h]
  ·cases h
 |.yield _,b,h=>by
  cases b<;>simp only[sqV] at h
  all_goals first|(cases h;done)|skip
  rw[Nat.eq_of_beq_eq_true h]
 |.iface t v,b,h=>by
  cases b<;>simp only[sqV] at h
  all_goals first|(cases h;done)|skip
  split at h
  ·rename_i q;rw[Nat.eq_of_beq_eq_true q,sqV_of h]
  ·cases h
theorem kqq:∀{a b:List V},sqVL a b=true->a=b
 |[],b,h=>by cases b<;>simp[sqVL] at h;rfl
 |x::l,b,h=>by
  cases b with
  |nil=>simp[sqVL] at h
  |cons y r=>
   simp only[sqVL] at h;split at h
   ·rename_i q;rw[sqV_of q,kqq h]
   ·cases h
end
noncomputable def sqBlk:Blk->Blk->Bool
 |.cells t v,.cells t' v'=>match Nat.beq t t' with
  |true=>sqV v v'
  |false=>false
 |.ro v,.ro v'=>sqV v v'
 |_,_=>false
theorem sqBlk_of:∀{a b:Blk},sqBlk a b=true->a=b:=λ{a b} h=>by
 cases a<;>cases b<;>simp only[sqBlk] at h
 all_goals first|(cases h;done)|skip
 ·split at h
  ·rename_i q;rw[Nat.eq_of_beq_eq_true q,sqV_of h]
  ·cases h
 ·rw[sqV_of h]
noncomputable def sqOB:Option Blk->Option Blk->Bool
 |none,none=>true
 |some a,some b=>sqBlk a b
 |_,_=>false
theorem sqOB_of:∀{a b:Option Blk},sqOB a b=true->a=b
 |none,none,_=>rfl
 |some a,some b,h=>congrArg some (sqBlk_of h)
 |none,some _,h=>by cases h
 |some _,none,h=>by cases h
noncomputable def sameF(t u:Tr Blk):Nat->Nat->Bool
 |0,_=>true
 |n+1,b=>match sqOB (t.get b) (u.get b) with
  |true=>sameF t u n (Nat.succ b)
  |false=>false
theorem sameF_of{t u:Tr Blk}:∀{n b:Nat},sameF t u n b=true->∀i,b<=i->i<b+n->u.get i=t.get i
 |0,b,_,i,h1,h2=>by omega
 |n+1,b,h,i,h1,h2=>by
  simp only[sameF] at h;split at h
  ·rename_i q;rcases Nat.lt_or_ge b i with h3|h3
   ·exact sameF_of h i h3 (by show i<b+1+n;omega)
   ·obtain rfl:i=b:=by omega
    exact(sqOB_of q).symm
  ·cases h
noncomputable def oneAt(h h1:Heap):Bool:=match Nat.ble h.next (Nat.add h1.wmin 40) with
 |true=>sameF h.tr h1.tr (Nat.sub h.next (Nat.succ h1.wmin)) (Nat.succ h1.wmin)
 |false=>false
theorem oneAt_of{h h1:Heap}(ho:oneAt h h1=true){i:Nat}(h2:h1.wmin<i)(h3:i<h.next):h1.get i=h.get i:=by
 unfold oneAt at ho;split at ho
 ·exact sameF_of ho i h2 (by show i<h1.wmin+1+(h.next-(h1.wmin+1));omega)
 ·cases ho
structure Self where
 fn:FuncId->List V->Heap->Option (V×Heap)
 yield:Nat->List V->Heap->Option (V×Heap)
structure St where
 fr:Tr V
 h:Heap
 ds:List Nat
 rd:Bool
structure Flow where
 loop:Code->St->Option (Exit×St)
 scope:Code->Nat->St->Option (Exit×St)
noncomputable def xpq(ops:Array Oper)(fr:Tr V)(o:Oper):Option Bool:=match o.guard with
 |none=>some true
 |some (j,b)=>match (ops[j]?).bind (·.dst) with
  |none=>some false
  |some t=>match fr.get t with
   |some (.bool c)=>some (c==b)
   |some _=>some false
   |none=>none
noncomputable def putT(fr:Tr V)(d:Option Tmp)(v:V):Tr V:=match d with
 |some t=>fr.set t (some v)
 |none=>fr
noncomputable def y9q(S:Self)(C:Cfg)(fr:Tr V)(h:Heap):Op->Option (V×Heap)
 |.call ⟨.value x,xs,_⟩=>match evV C fr x,evL C fr xs.toList with
  |some (.fn f a c),some vs=>match C.ext f with
   |some e=>match e (a++vs++c) with
    |some v=>some (v,h)
    |none=>mzV C f (a++vs++c) h
   |none=>S.fn f (a++vs++c) h
  |some (.yield l),some vs=>S.yield l vs h
  |_,_=>none
 |.call ⟨.invoke x m,xs,_⟩=>match evV C fr x,evL C fr xs.toList with
  |some (.iface t v),some vs=>match C.mt t m with
   |some f=>match C.ext f with
    |some _=>none
    |none=>S.fn f (v::vs) h
   |none=>none
  |_,_=>none
 |o=>opJ C fr h o
noncomputable def opV(S:Self)(C:Cfg)(fr:Tr V)(h:Heap)(o:Oper):Option (V×Heap):=
 match zUq C fr o.type o.op with
 |some v=>some (v,h)
 |none=>match opH C fr h o.op with
  |some r=>some r
  |none=>y9q S C fr h o.op
noncomputable def yMq(S:Self)(C:Cfg)(ops:Array Oper):List Oper->Tr V->Heap->Option (Tr V×Heap)
 |[],fr,h=>some (fr,h)
 |o::l,fr,h=>match xpq ops fr o with
  |some true=>match opV S C fr h o with
   |some (v,h')=>yMq S C ops l (putT fr o.dst v) h'
   |none=>none
  |some false=>yMq S C ops l (putT fr o.dst .undef) h
  |none=>none
noncomputable def add64V:List V->Option V
 |[.int .u64 (.ofNat x),.int .u64 (.ofNat y),.int .u64 (.ofNat c)]=>match Nat.ble c 1 with
  |true=>some (.tup [.int .u64 (.ofNat ((x+y+c)%18446744073709551616)),.int .u64 (.ofNat ((x+y+c)/18446744073709551616))])
  |false=>none
 |_=>none
noncomputable def yKq(ops:Array Oper):Nat->Nat->Nat->Bool
 |0,_,_=>false
 |f+1,j,k=>match ops[j]? with
  |none=>false
  |some o=>o.after.any λe=>Region.binds .any e&&(Nat.beq e.on k||yKq ops f e.on k)
inductive Ev where
 |load (b:Nat)
 |store (b:Nat)
 |gen
 |dirty
 |upd (b:Nat)
 |mk (b:Nat)
noncomputable def Ev.clash:Ev->Ev->Bool
 |.load _,.load _=>false
 |.load a,.store b=>Nat.beq a b
 |.store a,.load b=>Nat.beq a b
 |.store a,.store b=>Nat.beq a b
 |.load a,.upd b=>Nat.beq a b
 |.upd a,.load b=>Nat.beq a b
 |.gen,.load _=>false
 |.load _,.gen=>false
 |.gen,.gen=>false
 |.mk a,.store b=>Nat.beq a b
 |.store a,.mk b=>Nat.beq a b
 |.mk _,.upd _=>true
 |.mk _,.dirty=>true
 |.mk _,_=>false
 |.load _,.mk _=>false
 |.gen,.mk _=>false
 |_,_=>true
noncomputable def evOf(C:Cfg)(fr:Tr V)(h h1:Heap):Op->Ev
 |.load _ x=>match evV C fr x with
  |some (.ptr b _)=>.load b
  |_=>.dirty
 |.store _ x _=>match evV C fr x with
  |some (.ptr b _)=>.store b
  |_=>.dirty
 |.call ⟨.builtin .append,xs,_⟩=>match Nat.ble h.next h1.wmin with
  |true=>.gen
  |false=>match xs.toList with
   |[x,_]=>match evV C fr x with
    |some (.sl b _ _ _ _ _)=>.upd b
    |_=>.dirty
   |_=>.dirty
 |.buildSlice _ _ _=>.mk h.next
 |.slice _ x _ _ _=>match evV C fr x with
  |some (.ptr b _)=>.load b
  |_=>match Nat.ble h.next h1.wmin with
   |true=>.gen
   |false=>.dirty
 |.call ⟨.value _,_,_⟩=>match Nat.ble h.next h1.wmin with
  |true=>.gen
  |false=>match oneAt h h1 with
   |true=>.upd h1.wmin
   |false=>.dirty
 |_=>match Nat.ble h.next h1.wmin with
  |true=>.gen
  |false=>.dirty
noncomputable def Zwq(ops:Array Oper)(j:Nat)(x:Ev):List (Nat×Ev) ->Bool
 |[]=>true
 |(k,y)::l=>(match y.clash x with|true=>yKq ops ops.size j k|false=>true)&&Zwq ops j x l
noncomputable def minN(a b:Nat):Nat:=match Nat.ble a b with
 |true=>a
 |false=>b
noncomputable def x4q(S:Self)(C:Cfg)(fr:Tr V)(h:Heap)(o:Oper):Option (V×Heap×Option Ev):=
 match zUq C fr o.type o.op with
 |some v=>some (v,h,none)
 |none=>match opV S C fr {h with wmin:=h.next} o with
  |some (v,h1)=>some (v,{h1 with wmin:=minN h.wmin h1.wmin},some (evOf C fr h h1 o.op))
  |none=>none
noncomputable def ycq(S:Self)(C:Cfg)(ops:Array Oper):List Oper->Nat->List (Nat×Ev) ->Tr V->Heap->Option (Tr V×Heap)
 |[],_,_,fr,h=>some (fr,h)
 |o::l,i,es,fr,h=>match xpq ops fr o with
  |some true=>match x4q S C fr h o with
   |some (v,h1,some x)=>match Zwq ops i x es with
    |true=>ycq S C ops l (i+1) ((i,x)::es) (putT fr o.dst v) h1
    |false=>none
   |some (v,h1,none)=>ycq S C ops l (i+1) es (putT fr o.dst v) h1
   |none=>none
  |some false=>ycq S C ops l (i+1) es (putT fr o.dst .undef) h
  |none=>none
noncomputable def setPs:Tr V->List Tmp->List V->Tr V
 |fr,p::ps,v::vs=>setPs (fr.set p (some v)) ps vs
 |fr,_,_=>fr
noncomputable def xgq(st:St)(D l:Nat)(h:Heap):Option (Exit×St):=match h.get l with
 |some (.loop .ready none _ _ _ _ _)=>some (.normal,⟨st.fr,h.kill l,D::st.ds,st.rd⟩)
 |some (.loop .done (some .ret) _ _ _ _ _)=>some (.ret,⟨st.fr,h.kill l,D::st.ds,st.rd⟩)
 |some (.loop .done (some (.exit id)) _ _ _ _ _)=>some (.exit id,⟨st.fr,h.kill l,D::st.ds,st.rd⟩)
 |some (.loop .done (some (.goto id)) _ _ _ _ _)=>some (.goto id,⟨st.fr,h.kill l,D::st.ds,st.rd⟩)
 |_=>none
noncomputable def zbq(S:Self)(F:Flow)(C:Cfg):Code->St->Option (Exit×St)
 |.skip,st=>some (.normal,st)
 |.region _ ops dr,st=>match (match dr with
   |true=>ycq S C ops ops.toList 0 [] st.fr st.h
   |false=>yMq S C ops ops.toList st.fr st.h) with
  |some (fr,h)=>some (.normal,⟨fr,h,st.ds,st.rd⟩)
  |none=>none
 |.seq x y,st=>match zbq S F C x st with
  |some (.normal,st')=>zbq S F C y st'
  |r=>r
 |.cond c x y,st=>match evV C st.fr c with
  |some (.bool true)=>zbq S F C x st
  |some (.bool false)=>zbq S F C y st
  |_=>none
 |.block id x,st=>match zbq S F C x st with
  |some (.exit id',st')=>match Nat.beq id' id with
   |true=>some (.normal,st')
   |false=>some (.exit id',st')
  |r=>r
 |.loop x,st=>F.loop x st
 |.rangeFunc g ps asg bd,st=>match st.rd,evV C st.fr g with
  |false,some (.fn gf [] c)=>match S.fn gf ([.yield (st.h.next+1)]++c) ((st.h.push (.dfr false)).push (.loop .ready none st.fr ps asg bd st.h.next)) with
   |some (_,h)=>xgq st st.h.next (st.h.next+1) h
   |none=>none
  |_,_=>none
 |.exit id,st=>some (.exit id,st)
 |.scope x,st=>match zbq S F C x st with
  |some (.goto l,st')=>F.scope x l st'
  |r=>r
 |.label _,st=>some (.normal,st)
 |.goto l,st=>some (.goto l,st)
 |.ret,st=>some (.ret,st)
 |.refuse _,_=>none
noncomputable def jJq:Nat->List V->Tr V->Tr V
 |_,[],t=>t
 |i,v::vs,t=>jJq (i+1) vs (t.set i (some v))
noncomputable def y6q:List Nat->Heap->Option Heap
 |[],h=>some h
 |d::ds,h=>match h.get d with
  |some (.dfr false)=>y6q ds (h.put d (.dfr true))
  |_=>none
noncomputable def resV(C:Cfg)(fr:Tr V)(h:Heap):ResultVar->Option V
 |.tmp t=>fr.get t
 |.cell p T=>match fr.get p,C.ty T with
  |some (.ptr b off),some i=>match h.val b with
   |some v=>qwq 50 v off i.size i.agg
   |none=>none
  |_,_=>none
noncomputable def resL(C:Cfg)(fr:Tr V)(h:Heap):List ResultVar->Option (List V)
 |[]=>some []
 |r::l=>match resV C fr h r,resL C fr h l with
  |some v,some vs=>some (v::vs)
  |_,_=>none
noncomputable def finV(C:Cfg)(fn:Func)(st:St):Option (V×Heap):=match y6q st.ds st.h with
 |none=>none
 |some h=>match resL C st.fr h fn.results.toList with
  |some [v]=>some (v,h)
  |some vs=>some (.tup vs,h)
  |none=>none
mutual
noncomputable def yhq(C:Cfg):Nat->FuncId->List V->Heap->Option (V×Heap)
 |0,_,_,_=>none
 | n +1,f,vs,h=>match C.known f with
  |some k=>k vs h
  |none=>match C.fn f with
   |none=>none
   |some fn=>match fn.body,Nat.ble vs.length fn.ntmps with
    |some c,true=>match zbq ⟨yhq C n,zLq C n⟩ ⟨zRq C n,zJq C n⟩ C c ⟨jJq 0 vs .nil,h,[],false⟩ with
     |some (.normal,st)=>finV C fn st
     |some (.ret,st)=>finV C fn st
     |_=>none
    |_,_=>none
noncomputable def zLq(C:Cfg):Nat->Nat->List V->Heap->Option (V×Heap)
 |0,_,_,_=>none
 | n + 1,l,vs,h=>match h.get l with
  |some (.loop .ready none fr ps asg bd d)=>match Nat.beq vs.length ps.size with
   |false=>none
   |true=>match zbq ⟨yhq C n,zLq C n⟩ ⟨zRq C n,zJq C n⟩ C asg ⟨setPs fr ps.toList vs,h,[],true⟩ with
    |some (.normal,st1)=>match st1.h.get l with
     |some (.loop .ready none fr1 ps1 asg1 bd1 d1)=>match zbq ⟨yhq C n,zLq C n⟩ ⟨zRq C n,zJq C n⟩ C bd ⟨st1.fr,st1.h.put l (.loop .busy none fr1 ps1 asg1 bd1 d1),st1.ds,st1.rd⟩ with
      |some (x,st2)=>match st2.h.get l with
       |some (.loop .busy none fr2 ps2 asg2 bd2 d2)=>match x with
        |.normal=>some (.bool true,st2.h.put l (.loop .ready none fr2 ps2 asg2 bd2 d2))
        |.ret=>some (.bool false,st2.h.put l (.loop .done (some .ret) fr2 ps2 asg2 bd2 d2))
        |.exit id=>some (.bool false,st2.h.put l (.loop .done (some (.exit id)) fr2 ps2 asg2 bd2 d2))
        |.goto id=>some (.bool false,st2.h.put l (.loop .done (some (.goto id)) fr2 ps2 asg2 bd2 d2))
        |_=>none
       |_=>none
      |none=>none
     |_=>none
    |_=>none
  |_=>none
noncomputable def zRq(C:Cfg):Nat->Code->St->Option (Exit×St)
 |0,_,_=>none
 |n+1,c,st=>match zbq ⟨yhq C n,zLq C n⟩ ⟨zRq C n,zJq C n⟩ C c st with
  |some (.normal,st')=>zRq C n c st'
  |r=>r
noncomputable def zJq(C:Cfg):Nat->Code->Nat->St->Option (Exit×St)
 |0,_,_,_=>none
 |n+1,c,l,st=>match findLabel c l with
  |some rest=>match zbq ⟨yhq C n,zLq C n⟩ ⟨zRq C n,zJq C n⟩ C rest st with
   |some (.goto l',st')=>zJq C n c l' st'
   |r=>r
  |none=>none
end
inductive Tr.All{α:Type}(p:Nat->α->Prop):(Nat->Nat) ->Tr α->Prop
 |nil {f:Nat->Nat}:Tr.All p f .nil
 |skip {f:Nat->Nat} {l r:Tr α} (hl:Tr.All p (λk=>f (2*k+1)) l) (hr:Tr.All p (λk=>f (2*k+2)) r):Tr.All p f (.node none l r)
 |here {f:Nat->Nat} {x:α} {l r:Tr α} (hx:p (f 0) x) (hl:Tr.All p (λk=>f (2*k+1)) l) (hr:Tr.All p (λk=>f (2*k+2)) r):Tr.All p f (.node (some x) l r)
theorem Tr.All.at_{α:Type}{p:Nat->α->Prop}:∀{t:Tr α} {f:Nat->Nat} {k:Nat} {x:α},Tr.All p f t->t.get k=some x->p (f k) x
 |.nil,f,k,x,_,hk=>by simp[Tr.get_nil] at hk
 |.node v l r,f,k,x,h,hk=>by
  rw[Tr.get_node] at hk;by_cases h0:k=0
  ·rw[if_pos h0] at hk;subst hk;subst h0
   cases h with
   |here hx _ _=>exact hx
  ·rw[if_neg h0] at hk
   have hlr:Tr.All p (λk=>f (2*k+1)) l/\Tr.All p (λk=>f (2*k+2)) r:=by
    cases h with
    |skip hl hr=>exact⟨hl,hr⟩
    |here _ hl hr=>exact⟨hl,hr⟩
   by_cases h1:k%2=1
   ·rw[if_pos h1] at hk;have:=hlr.1.at_ hk;rwa[show 2*(k/2)+1=k by omega] at this
   ·rw[if_neg h1] at hk;have:=hlr.2.at_ hk;rwa[show 2*(k/2-1)+2=k by omega] at this
structure Mono(h h':Heap):Prop where
 nxt:h.next<=h'.next
 wf:(∀i,h.next<=i->h.get i=none) ->∀i,h'.next<=i->h'.get i=none
 wmin:h'.wmin<=h.wmin
 keep:∀i,i<h.next->i<h'.wmin->h'.get i=h.get i
theorem Mono.refl(h:Heap):Mono h h:=⟨Nat.le_refl _,λh=>h,Nat.le_refl _,λ_ _ _=>rfl⟩
theorem Mono.trans{a b c:Heap}(x:Mono a b)(y:Mono b c):Mono a c:=
 ⟨Nat.le_trans x.nxt y.nxt,λh=>y.wf (x.wf h),Nat.le_trans y.wmin x.wmin,λi h1 h2=>(y.keep i (Nat.lt_of_lt_of_le h1 x.nxt) h2).trans (x.keep i h1 (Nat.lt_of_lt_of_le h2 y.wmin))⟩
theorem z1q(h:Heap)(b:Blk):Mono h (h.push b):=⟨Nat.le_succ _,λhw i hi=>by
  have hi:h.next+1<=i:=hi;rw[Heap.get_push,if_neg Xa];exact hw i Xa,Nat.le_refl _,λi h1 _=>by rw[Heap.get_push,if_neg Xa]⟩
theorem z6q{h:Heap}{i:Nat}{b c:Blk}(hb:h.get i=some c):Mono h (h.put i b):=by
 have hw:=jiq h.wmin i;refine⟨Nat.le_refl _,λhwf j hj=>?_,hw.1,λj _ h2=>?_⟩
 ·have hj:h.next<=j:=hj;have:j≠i:=λe=>by have:=hwf j hj;rw[e,hb] at this;cases this
  rw[Heap.get_put,if_neg this];exact hwf j hj
 ·have h2:j<wmn h.wmin i:=h2;rw[Heap.get_put,if_neg Xa]
theorem mono_kill(h:Heap)(i:Nat):Mono h (h.kill i):=by
 have hw:=jiq h.wmin i;refine⟨Nat.le_refl _,λhwf j hj=>?_,hw.1,λj _ h2=>?_⟩
 ·have hj:h.next<=j:=hj;rw[Heap.get_kill];split
  ·rfl
  ·exact hwf j hj
 ·have h2:j<wmn h.wmin i:=h2;rw[Heap.get_kill,if_neg Xa]
theorem mono_app{C:Cfg}{h h':Heap}{ts tx:TypeId}{s x v:V}(ha:jDq C h ts tx s x=some (v,h')):Mono h h':=by
 unfold jDq at ha;repeat' (split at ha)
 all_goals first|(cases ha;done)|skip
 all_goals first
  |(cases ha;exact Mono.refl _)
  |(cases ha;exact z1q _ _)
  |(cases ha;rename_i hg _ _ _;exact z6q hg)
  |(cases ha;rename_i hg _ _ _ _;exact z6q hg)
  |(cases ha;rename_i hg _ _ _ _ _;exact z6q hg)
  |(cases ha;exact(z1q _ _).trans (mono_kill _ _))
theorem mono_copy{C:Cfg}{h h':Heap}{ts tx:TypeId}{s x v:V}(ha:copyV C h ts tx s x=some (v,h')):Mono h h':=by
 unfold copyV at ha;repeat' (split at ha)
 all_goals first|(cases ha;done)|skip
 all_goals first
  |(cases ha;exact Mono.refl _)
  |(cases ha;rename_i hg _ _ _;exact z6q hg)
  |(cases ha;rename_i hg _ _ _ _;exact z6q hg)
  |(cases ha;rename_i hg _ _ _ _ _;exact z6q hg)
theorem mono_clear{C:Cfg}{fr:Tr V}{h h':Heap}{args:Array Operand}{ats:Array TypeId}{v:V}(hh:zrq C fr h args ats=some (v,h')):Mono h h':=by
 unfold zrq at hh;split at hh
 ·rename_i r hr;cases hh;unfold zHq at hr;repeat' (split at hr)
  all_goals first|(cases hr;done)|(cases hr;exact Mono.refl _)|(cases hr;exact z6q Xf)
 ·unfold zxq at hh;repeat' (split at hh)
  all_goals first|(cases hh;done)|(cases hh;exact Mono.refl _)|(cases hh;exact z6q Xf)
theorem mono_opH{C:Cfg}{fr:Tr V}{h h':Heap}{o:Op}{v:V}(hh:opH C fr h o=some (v,h')):Mono h h':=by
 cases o<;>try (simp[opH,zpq,zXq,zEq,zFq,yuq,zfq,zjq,zuq,z0q,zBq,zlq,zsq,zeq,zkq,zdq,zrq,zHq,zxq,zWq] at hh;done)
 case convert s t x=>
  simp only[opH,zpq,zXq,zEq,zFq,yuq,zfq,zjq,zuq,z0q,zBq,zlq,zsq,zeq,zkq,zdq,zrq,zHq,zxq,zWq] at hh;repeat' (split at hh)
  all_goals first|(cases hh;done)|(cases hh;exact Mono.refl _)|(cases hh;exact z1q _ _)|(cases hh;exact z6q Xf)
 case load t x=>
  simp only[opH,zpq,zXq,zEq,zFq,yuq,zfq,zjq,zuq,z0q,zBq,zlq,zsq,zeq,zkq,zdq,zrq,zHq,zxq,zWq] at hh;repeat' (split at hh)
  all_goals first|(cases hh;done)|(cases hh;exact Mono.refl _)
 case store t x y=>
  simp only[opH,zpq,zXq,zEq,zFq,yuq,zfq,zjq,zuq,z0q,zBq,zlq,zsq,zeq,zkq,zdq,zrq,zHq,zxq,zWq] at hh;repeat' (split at hh)
  all_goals first|(cases hh;done)|(cases hh;rename_i hg _ _ _;exact z6q hg)|(cases hh;rename_i hg _ _ _ _;exact z6q hg)
 case alloc t=>
  simp only[opH,zpq,zXq,zEq,zFq,yuq,zfq,zjq,zuq,z0q,zBq,zlq,zsq,zeq,zkq,zdq,zrq,zHq,zxq,zWq] at hh;repeat' (split at hh)
  all_goals first|(cases hh;done)|(cases hh;exact z1q _ _)
 case box t x=>
  simp only[opH,zpq,zXq,zEq,zFq,yuq,zfq,zjq,zuq,z0q,zBq,zlq,zsq,zeq,zkq,zdq,zrq,zHq,zxq,zWq] at hh;repeat' (split at hh)
  all_goals first|(cases hh;done)|(cases hh;exact z1q _ _)
 case buildSlice t n ps=>
  simp only[opH,zpq,zXq,zEq,zFq,yuq,zfq,zjq,zuq,z0q,zBq,zlq,zsq,zeq,zkq,zdq,zrq,zHq,zxq,zWq] at hh;repeat' (split at hh)
  all_goals first|(cases hh;done)|(cases hh;exact z1q _ _)
 case makeSlice t x y=>
  simp only[opH,zpq,zXq,zEq,zFq,yuq,zfq,zjq,zuq,z0q,zBq,zlq,zsq,zeq,zkq,zdq,zrq,zHq,zxq,zWq] at hh;repeat' (split at hh)
  all_goals first|(cases hh;done)|(cases hh;exact z1q _ _)
 case slice t x lo hi mx=>
  simp only[opH,zpq,zXq,zEq,zFq,yuq,zfq,zjq,zuq,z0q,zBq,zlq,zsq,zeq,zkq,zdq,zrq,zHq,zxq,zWq] at hh;repeat' (split at hh)
  all_goals first|(cases hh;done)|(cases hh;exact Mono.refl _)
 case makeMap t x=>
  simp only[opH,zpq,zXq,zEq,zFq,yuq,zfq,zjq,zuq,z0q,zBq,zlq,zsq,zeq,zkq,zdq,zrq,zHq,zxq,zWq] at hh;repeat' (split at hh)
  all_goals first|(cases hh;done)|(cases hh;exact Mono.refl _)|(cases hh;exact z1q _ _)|(cases hh;exact z6q Xf)
 case lookup t x y ok=>
  simp only[opH,zpq,zXq,zEq,zFq,yuq,zfq,zjq,zuq,z0q,zBq,zlq,zsq,zeq,zkq,zdq,zrq,zHq,zxq,zWq] at hh;repeat' (split at hh)
  all_goals first|(cases hh;done)|(cases hh;exact Mono.refl _)|(cases hh;exact z1q _ _)|(cases hh;exact z6q Xf)
 case mapUpdate t x y z=>
  simp only[opH,zpq,zXq,zEq,zFq,yuq,zfq,zjq,zuq,z0q,zBq,zlq,zsq,zeq,zkq,zdq,zrq,zHq,zxq,zWq] at hh;repeat' (split at hh)
  all_goals first|(cases hh;done)|(cases hh;exact Mono.refl _)|(cases hh;exact z1q _ _)|(cases hh;exact z6q Xf)
 case insert t x y z=>
  simp only[opH,zpq,zXq,zEq,zFq,yuq,zfq,zjq,zuq,z0q,zBq,zlq,zsq,zeq,zkq,zdq,zrq,zHq,zxq,zWq] at hh;repeat' (split at hh)
  all_goals first|(cases hh;done)|(cases hh;exact Mono.refl _)|(cases hh;exact z1q _ _)|(cases hh;exact z6q Xf)
 case mapEntry t x y=>
  simp only[opH,zpq,zXq,zEq,zFq,yuq,zfq,zjq,zuq,z0q,zBq,zlq,zsq,zeq,zkq,zdq,zrq,zHq,zxq,zWq] at hh;repeat' (split at hh)
  all_goals first|(cases hh;done)|(cases hh;exact Mono.refl _)|(cases hh;exact z1q _ _)|(cases hh;exact z6q Xf)
 case entryStore t x y z=>
  simp only[opH,zpq,zXq,zEq,zFq,yuq,zfq,zjq,zuq,z0q,zBq,zlq,zsq,zeq,zkq,zdq,zrq,zHq,zxq,zWq] at hh;repeat' (split at hh)
  all_goals first|(cases hh;done)|(cases hh;exact Mono.refl _)|(cases hh;exact z1q _ _)|(cases hh;exact z6q Xf)
 case call c=>
  obtain⟨callee,args,ats⟩:=c;cases callee<;>try (simp[opH,zpq,zXq,zEq,zFq,yuq,zfq,zjq,zuq,z0q,zBq,zlq,zsq,zeq,zkq,zdq,zrq,zHq,zxq,zWq] at hh;done)
  rename_i b;cases b<;>try (simp[opH,zpq,zXq,zEq,zFq,yuq,zfq,zjq,zuq,z0q,zBq,zlq,zsq,zeq,zkq,zdq,zrq,zHq,zxq,zWq] at hh;done)
  case append=>
   simp only[opH,zpq,zXq,zEq,zFq,yuq,zfq,zjq,zuq,z0q,zBq,zlq,zsq,zeq,zkq,zdq,zrq,zHq,zxq,zWq] at hh;split at hh
   ·split at hh
    ·exact mono_app hh
    ·cases hh
   ·cases hh
  case clear=>exact mono_clear (show zrq C fr h args ats=some (v,h') from hh)
  case len=>
   simp only[opH,zpq,zXq,zEq,zFq,yuq,zfq,zjq,zuq,z0q,zBq,zlq,zsq,zeq,zkq,zdq,zrq,zHq,zxq,zWq] at hh;repeat' (split at hh)
   all_goals first|(cases hh;done)|(cases hh;exact Mono.refl _)
  case copy=>
   simp only[opH,zpq,zXq,zEq,zFq,yuq,zfq,zjq,zuq,z0q,zBq,zlq,zsq,zeq,zkq,zdq,zrq,zHq,zxq,zWq] at hh;split at hh
   ·split at hh
    ·exact mono_copy hh
    ·cases hh
   ·cases hh
noncomputable def q1q(s0:World)(U:Nat)(D:Nat->Prop)(ρ:Env)(h:Heap)(w:World)(v:V)(h':Heap):Ending->World->Prop:=λe w'=>
 ∃D' ρ',e= .returned (conc ρ' v)/\Rel s0 U D' ρ' h' w'/\Nxt D ρ h w D' ρ' h' w'/\InD (DD D' ρ') v
theorem mono_opJ{C:Cfg}{fr:Tr V}{h h':Heap}{o:Op}{v:V}(hh:opJ C fr h o=some (v,h')):Mono h h':=by
 unfold opJ at hh;split at hh
 ·unfold xAq at hh;repeat' (split at hh)
  all_goals first|(cases hh;done)|(cases hh;exact z1q _ _)
 ·unfold vyq at hh;repeat' (split at hh)
  all_goals first|(cases hh;done)|(cases hh;exact Mono.refl _)|(cases hh;exact z6q Xf)|skip
  rename_i hg;unfold nextM at hh;repeat' (split at hh)
  all_goals first|(cases hh;done)|(cases hh;exact Mono.refl _)|(cases hh;exact z6q hg)
 ·unfold xBq at hh;repeat' (split at hh)
  all_goals first|(cases hh;done)|(cases hh;exact Mono.refl _)
 ·unfold ohRaw at hh;repeat' (split at hh)
  all_goals first|(cases hh;done)|(cases hh;exact Mono.refl _)
 ·unfold jQq at hh;repeat' (split at hh)
  all_goals first|(cases hh;done)|(cases hh;exact z1q _ _)
 ·unfold ohCap at hh;repeat' (split at hh)
  all_goals first|(cases hh;done)|(cases hh;exact Mono.refl _)
 ·unfold ohData at hh;repeat' (split at hh)
  all_goals first|(cases hh;done)|(cases hh;exact Mono.refl _)
 ·unfold ohText at hh;repeat' (split at hh)
  all_goals first|(cases hh;done)|(cases hh;exact Mono.refl _)|skip
  unfold textV at hh;repeat' (split at hh)
  all_goals first|(cases hh;done)|(cases hh;exact z6q Xf)
 ·cases hh
theorem mono_mz{C:Cfg}{f:FuncId}{vs:List V}{h h':Heap}{v:V}(hh:mzV C f vs h=some (v,h')):Mono h h':=by
 unfold mzV at hh;repeat' (split at hh)
 all_goals first|(cases hh;done)|(cases hh;exact z1q _ _)
structure SelfOK(P:Program)(C:Cfg)(S:Self):Prop where
 fnMono:∀f vs h v h',S.fn f vs h=some (v,h') ->Mono h h'
 fnEnter:∀f vs h v h',S.fn f vs h=some (v,h') ->∀args w,(callFunc f args).run P w= .ok (.enter f args) w
 fn:∀f vs h v h',S.fn f vs h=some (v,h') ->∀s0 U D ρ w,h'.next<=U->GlobOK C (DD D ρ) ρ->InDL (DD D ρ) vs->Rel s0 U D ρ h w->Calls P f (zwq ρ vs).toArray w (q1q s0 U D ρ h w v h')
 yMono:∀l vs h v h',S.yield l vs h=some (v,h') ->Mono h h'
 yield:∀l vs h v h',S.yield l vs h=some (v,h') ->∀s0 U D ρ w,h'.next<=U->GlobOK C (DD D ρ) ρ->D l->InDL (DD D ρ) vs->Rel s0 U D ρ h w->YieldAt Fence.wide 0 P (ρ.l l).1 (zwq ρ vs).toArray w (q1q s0 U D ρ h w v h')
section
variable {P:Program} {C:Cfg} {S:Self} {s0:World} {U:Nat} {D:Nat->Prop} {ρ:Env} {fr:Tr V} {a:Act} {w:World} {h:Heap}
theorem callV_mono(hS:SelfOK P C S){o:Op}{v:V}{h':Heap}(hc:y9q S C fr h o=some (v,h')):Mono h h':=by
 unfold y9q at hc;split at hc
 ·split at hc
  ·split at hc
   ·split at hc
    ·cases hc;exact Mono.refl _
    ·exact mono_mz hc
   ·exact hS.fnMono _ _ _ _ _ hc
  ·exact hS.yMono _ _ _ _ _ hc
  ·cases hc
 ·split at hc
  ·split at hc
   ·split at hc
    ·cases hc
    ·exact hS.fnMono _ _ _ _ _ hc
   ·cases hc
  ·cases hc
 ·exact mono_opJ hc
theorem k4q(hS:SelfOK P C S){o:Oper}{v:V}{h':Heap}(ho:opV S C fr h o=some (v,h')):Mono h h':=by
 unfold opV at ho;split at ho
 ·cases ho;exact Mono.refl _
 ·split at ho
  ·rename_i r hr;cases ho;exact mono_opH hr
  ·exact callV_mono hS ho
theorem GlobOK.next{D':Nat->Prop}{ρ':Env}{h':Heap}{w':World}(g:GlobOK C (DD D ρ) ρ)(hl:∀i,D i->i<h.next\/U<=i)(hU:h'.next<=U)(n:Nxt D ρ h w D' ρ' h' w'):GlobOK C (DD D' ρ') ρ':=λi hi=>by
 obtain⟨h1,h2,h3⟩:=g i hi;obtain⟨e1,e2,_⟩:=n.agree hl hU i 0 h1;exact⟨n.dd hl hU i 0 h1,e1.trans h2,e2.trans h3⟩
theorem FrE.next{D':Nat->Prop}{ρ':Env}{h':Heap}{w':World}(g:FrE C D ρ fr a)(hl:∀i,D i->i<h.next\/U<=i)(hU:h'.next<=U)(n:Nxt D ρ h w D' ρ' h' w'):FrE C D' ρ' fr a:=
 ⟨λt v hv=>by rw[ypq (n.agree hl hU) (g.in_ t v hv)];exact g.at_ t v hv,λt v hv=>(g.in_ t v hv).mono (n.dd hl hU),GlobOK.next g.gl hl hU n⟩
theorem FrE.put{d:Option Tmp}{v:V}(g:FrE C D ρ fr a)(hd:uYq a.tmps.size d=true)(hv:InD (DD D ρ) v):FrE C D ρ (putT fr d v) (a.put d (conc ρ v)):=by
 cases d with
 |none=>exact g
 |some t=>
  have ht:t<a.tmps.size:=by simpa[uYq] using hd
  refine⟨λu x hx=>?_,λu x hx=>?_,g.gl⟩
  ·simp only[putT,Tr.get_set] at hx;simp only[Act.put,Array.getElem?_setIfInBounds];by_cases e:u=t
   ·subst e;rw[if_pos rfl] at hx;cases hx
    simp[ht]
   ·rw[if_neg e] at hx;rw[if_neg (λe'=>e e'.symm)];exact g.at_ u x hx
  ·simp only[putT,Tr.get_set] at hx;by_cases e:u=t
   ·rw[if_pos e] at hx;cases hx;exact hv
   ·rw[if_neg e] at hx;exact g.in_ u x hx
theorem j5q{ops:Array Oper}{o:Oper}{b:Bool}(g:FrE C D ρ fr a)(hw:xpq ops fr o=some b):Region.wanted o (yielded ops a.tmps)=b:=by
 unfold xpq at hw;unfold Region.wanted;cases hg:o.guard with
 |none=>simp[hg] at hw;simp[hw]
 |some p=>
  obtain⟨j,c⟩:=p;simp only[hg] at hw;simp only[yielded];cases hj:(ops[j]?).bind (·.dst) with
  |none=>simp[hj] at hw;simp[hw]
  |some t=>
   simp only[hj] at hw;simp only[Option.bind_some];split at hw
   ·rename_i d hd;cases hw;have:=g.at_ t _ hd;rw[this];simp[conc]
   ·rename_i x hx hd;cases hw;have:=g.at_ t _ hd;rw[this];cases x<;>simp[conc,z7q]<;>first|rfl|(exfalso;exact hx _ rfl)
   ·cases hw
theorem uBq(hC:CfgOK P C)(hS:SelfOK P C S){o:Oper}{r:Option Nat}{v:V}{h':Heap}{K:Act->World->Prop}{Q:Exit->Act->World->Prop}(hn:juq o=true)(ho:opV S C fr h o=some (v,h'))(hU:h'.next<=U)(g:FrE C D ρ fr a)(rel:Rel s0 U D ρ h w)
  (k:∀D' ρ' w',Rel s0 U D' ρ' h' w'->Nxt D ρ h w D' ρ' h' w'->InD (DD D' ρ') v->K (a.put o.dst (conc ρ' v)) w'):o.wpIn (FF r) 0 P a w K Q:=by
 unfold opV at ho;split at ho
 ·rename_i u hu;cases ho;obtain⟨h1,h2⟩:=vvq hC g hu w;exact j9q hn (.inl h1) (k D ρ w rel (Nxt.refl _ _ _ _) h2)
 ·split at ho
  ·rename_i r' hr;cases ho;obtain⟨x,D',ρ',w',d⟩:=opH_sound hC g rel hr hU;have hx:=d.val;subst hx;exact j9q hn d.op (k D' ρ' w' d.rel d.nxt d.in_)
  ·-- a call
   obtain⟨dst,op,ty,pos,aft,gd⟩:=o;simp only at ho;unfold y9q at ho;split at ho
   ·rename_i x xs ats hp0 hh0
    have hargs:∀vs,evL C fr xs.toList=some vs->xs.map a.eval=(zwq ρ vs).toArray/\InDL (DD D ρ) vs:=λvs hvs=>by
     obtain⟨e1,e2⟩:=g.evs hvs;exact⟨by apply Array.toList_inj.1;simpa using e1,e2⟩
    split at ho
    ·rename_i f fi ca vs hx hvs;obtain⟨e1,i1⟩:=g.ev hx;obtain⟨e2,i2⟩:=hargs vs hvs
     have hin:InDL (DD D ρ) (fi++vs++ca):=InDL_iff.2 λy hy=>by
      simp only[List.mem_append] at hy;rcases hy with (h|h)|h
      ·exact InDL_iff.1 i1.1 y h
      ·exact InDL_iff.1 i2 y h
      ·exact InDL_iff.1 i1.2 y h
     have hcl:(zwq ρ fi).toArray++(zwq ρ vs).toArray++(zwq ρ ca).toArray=(zwq ρ (fi++vs++ca)).toArray:=by
      simp[kdq]
     have hres:∀R:Array Value->Sem Next,(execOp a.eval ⟨dst,.call ⟨.value x,xs,ats⟩,ty,pos,aft,gd⟩)=(do let d<-resolve a.eval ⟨.value x,xs,ats⟩ ty;invoke d.target d.args):=λ_=>rfl
     have hrun:(execOp a.eval ⟨dst,.call ⟨.value x,xs,ats⟩,ty,pos,aft,gd⟩).run P w=(callFunc f (zwq ρ (fi++vs++ca)).toArray).run P w:=by
      rw[hres (λ_=>pure .skip),<-hcl];simp only[resolve,e1,e2,conc,Deferred.ofValue,Sem.run_bind,Sem.run_pure,Result.andThen_ok,invoke]
     split at ho
     ·rename_i e he;split at ho
      ·rename_i u hu;cases ho;obtain⟨q1,q2⟩:=hC.ext f e he ρ _ _ hu;exact j9q hn (.inl (by rw[hrun];exact q1 w)) (k D ρ w rel (Nxt.refl _ _ _ _) (q2 _ hin))
      ·obtain⟨D',ρ',w',m1,m2,m3,m4⟩:=mz_sound hC rel ho hU;exact j9q hn (.inl (by rw[hrun];exact m1)) (k D' ρ' w' m2 m3 m4)
     ·refine⟨λf _=>vnq r f,?_⟩;rw[Oper.semAt_plain _ _ _ (by intro c e;cases e),hrun,hS.fnEnter _ _ _ _ _ ho,Oper.uponIn_enter];refine⟨by simp[xoq],?_⟩;refine(callsFF (r:=r) (hS.fn _ _ _ _ _ ho s0 U D ρ w hU g.gl hin rel)).mono ?_;rintro e w' ⟨D',ρ',rfl,q1,q2,q3⟩;exact k D' ρ' w' q1 q2 q3
    ·rename_i l vs hx hvs;obtain⟨e1,i1⟩:=g.ev hx;obtain⟨e2,i2⟩:=hargs vs hvs;obtain⟨fn,tmps,assign,body,hy,hR⟩:=hS.yield _ _ _ _ _ ho s0 U D ρ w hU g.gl i1.1 i2 rel;refine⟨λf _=>vnq r f,?_⟩
     have hrun:(execOp a.eval ⟨dst,.call ⟨.value x,xs,ats⟩,ty,pos,aft,gd⟩).run P w= .ok (.round (ρ.l l).1 fn tmps assign body) w:=by
      simp only[execOp,resolve,e1,e2,conc,Deferred.ofValue,Sem.run_bind,Sem.run_pure,Result.andThen_ok,invoke];simpa using hy
     rw[Oper.semAt_plain _ _ _ (by intro c e;cases e),hrun,Oper.uponIn_round];refine⟨by simp[xoq],?_⟩
     have hR':RoundIn (FF r) 0 P (ρ.l l).1 fn tmps assign body w (q1q s0 U D ρ h w v h'):=
      ⟨vnq r fn,λc cs _=>by have:=hR.2 c cs (room_wide _);rwa[<-uSq r] at this⟩
     refine hR'.mono ?_;rintro e w' ⟨D',ρ',rfl,q1,q2,q3⟩;exact k D' ρ' w' q1 q2 q3
    ·cases ho
   ·rename_i x m xs ats hp0 hh0
    have hargs:∀vs,evL C fr xs.toList=some vs->xs.map a.eval=(zwq ρ vs).toArray/\InDL (DD D ρ) vs:=λvs hvs=>by
     obtain⟨e1,e2⟩:=g.evs hvs;exact⟨by apply Array.toList_inj.1;simpa using e1,e2⟩
    split at ho
    ·rename_i t u vs hx hvs;obtain⟨e1,i1⟩:=g.ev hx;obtain⟨e2,i2⟩:=hargs vs hvs;split at ho
     ·rename_i f hf;split at ho
      ·cases ho
      ·have hin:InDL (DD D ρ) (u::vs):=⟨i1,i2⟩;have hcl: #[conc ρ u]++(zwq ρ vs).toArray=(zwq ρ (u::vs)).toArray:=by simp[zwq]
       have hrun:(execOp a.eval ⟨dst,.call ⟨.invoke x m,xs,ats⟩,ty,pos,aft,gd⟩).run P w=(callFunc f (zwq ρ (u::vs)).toArray).run P w:=by
        have hex:(#[conc ρ (.iface t u)]++(zwq ρ vs).toArray).extract 1 (#[conc ρ (.iface t u)]++(zwq ρ vs).toArray).size=(zwq ρ vs).toArray:=by
         apply Array.toList_inj.1;simp
        have h0:(#[conc ρ (.iface t u)]++(zwq ρ vs).toArray)[0]? =some (conc ρ (.iface t u)):=by simp
        show((do let d<-resolve a.eval ⟨.invoke x m,xs,ats⟩ ty;invoke d.target d.args):Sem Next).run P w=_;simp only[resolve,e1,e2,Sem.run_bind,Sem.run_pure,Result.andThen_ok,invoke];rw[<-hcl,<-hC.mt t m f hf (conc ρ u) (zwq ρ vs).toArray w];simp only[h0,hex];rfl
       refine⟨λf _=>vnq r f,?_⟩;rw[Oper.semAt_plain _ _ _ (by intro c e;cases e),hrun,hS.fnEnter _ _ _ _ _ ho,Oper.uponIn_enter];refine⟨by simp[xoq],?_⟩;refine(callsFF (r:=r) (hS.fn _ _ _ _ _ ho s0 U D ρ w hU g.gl hin rel)).mono ?_;rintro e w' ⟨D',ρ',rfl,q1,q2,q3⟩;exact k D' ρ' w' q1 q2 q3
     ·cases ho
    ·cases ho
   ·obtain⟨x,D',ρ',w',d⟩:=opJ_sound (o:=⟨dst,op,ty,pos,aft,gd⟩) hC g rel ho hU;have hx:=d.val;subst hx;exact j9q hn d.op (k D' ρ' w' d.rel d.nxt d.in_)
end
noncomputable def mkD(ρ:Env)(d:Nat):Deferred:={target:=.collected (ρ.b d),args:= #[]}
structure StR(C:Cfg)(s0:World)(U N:Nat)(r:Option Nat)(tl:List Deferred)(D:Nat->Prop)(ρ:Env)(st:St)(a:Act)(w:World):Prop where
 fr:FrE C D ρ st.fr a
 rel:Rel s0 U D ρ st.h w
 size:a.tmps.size=N
 defs:a.defers=st.ds.map (mkD ρ)++tl
 din:∀d∈st.ds,D d
 rd:st.rd=r.isSome
noncomputable def jumpTo(J:Nat->Act->World->Prop)(Q:Exit->Act->World->Prop):Exit->Act->World->Prop
 |.goto l,a,w=>J l a w
 |e,a,w=>Q e a w
noncomputable def xuq(F:Fence)(n:Nat)(P:Program)(c:Code)(Q:Exit->Act->World->Prop):Nat->Nat->Act->World->Prop
 |0,_,_,_=>False
 |m+1,l,a,w=>∃rest,findLabel c l=some rest/\rest.wpIn F n P (jumpTo (xuq F n P c Q m) Q) a w
theorem kPq{F:Fence}{n:Nat}{P:Program}{Q:Exit->Act->World->Prop}{a:Act}{w:World}{c:Code}(m:Nat)(h:c.wpIn F n P (jumpTo (xuq F n P c Q m) Q) a w):(Code.scope c).wpIn F n P Q a w:=by
 intro b k cs hro hb hr;have h0:(lone (b.atR a (.code (.scope c)::k)) cs w).fenced P F:=fenced_calm hb hr rfl;have s0:step P (lone (b.atR a (.code (.scope c)::k)) cs w)= .next (lone (b.atR a (.code c:: .inScope c::k)) cs w):=step_lone_go (by simp[stepG,stepG.exec,Frame.atR]);have s1:∀a w,step P (lone (b.atR a (.inScope c::k)) cs w)= .next (lone (b.atR a k) cs w):=λa w=>step_lone_go (by simp[stepG,stepG.exec,Frame.atR])
 have hx:∀id,exitTo id (.inScope c::k)=exitTo id k:=λid=>by simp[exitTo]
 have key:∀m (d:Code) a w,d.wpIn F n P (jumpTo (xuq F n P c Q m) Q) a w->∃e a' w',Q e a' w'/\ArrivesIn (Machine.fenced P F) P (lone (b.atR a (.code d:: .inScope c::k)) cs w) b k cs e a' w':=by
  intro m;induction m with
  |zero=>
   intro d a w h;obtain⟨e,a₁,w₁,hq,harr⟩:=h b (.inScope c::k) cs hro hb hr;cases e with
   |normal=>exact⟨.normal,a₁,w₁,hq,StepsIn.trans harr (.one (fenced_calm hb hr rfl) (s1 _ _))⟩
   |exit id=>exact⟨.exit id,a₁,w₁,hq,λk' hk=>harr.1 k' (by rw[hx];exact hk),λhr' hk=>harr.2 hr' (by rw[hx];exact hk)⟩
   |goto l=>exact hq.elim
   |ret=>exact⟨_,a₁,w₁,hq,harr⟩
   |panic ch=>exact⟨_,a₁,w₁,hq,harr⟩
   |outgrown=>exact⟨_,a₁,w₁,hq,harr⟩
  |succ m ih=>
   intro d a w h;obtain⟨e,a₁,w₁,hq,harr⟩:=h b (.inScope c::k) cs hro hb hr;cases e with
   |normal=>exact⟨.normal,a₁,w₁,hq,StepsIn.trans harr (.one (fenced_calm hb hr rfl) (s1 _ _))⟩
   |exit id=>exact⟨.exit id,a₁,w₁,hq,λk' hk=>harr.1 k' (by rw[hx];exact hk),λhr' hk=>harr.2 hr' (by rw[hx];exact hk)⟩
   |goto l=>
    obtain⟨rest,hf,hw⟩:=hq;obtain⟨e₂,a₂,w₂,hq₂,harr₂⟩:=ih rest a₁ w₁ hw;have hg:gotoIn l (.inScope c::k)=some (.code rest:: .inScope c::k):=by simp[gotoIn,hf]
    exact⟨e₂,a₂,w₂,hq₂,.of_steps (harr.1 _ hg) harr₂⟩
   |ret=>exact⟨_,a₁,w₁,hq,harr⟩
   |panic ch=>exact⟨_,a₁,w₁,hq,harr⟩
   |outgrown=>exact⟨_,a₁,w₁,hq,harr⟩
 obtain⟨e,a',w',hq,harr⟩:=key m c a w h;exact⟨e,a',w',hq,.of_steps (.one h0 s0) harr⟩
section
variable {P:Program} {C:Cfg} {S:Self} {s0:World} {U:Nat} {D:Nat->Prop} {ρ:Env} {fr:Tr V} {a:Act} {w:World} {h:Heap}
theorem qHq(hC:CfgOK P C)(hS:SelfOK P C S){N:Nat}{ops:Array Oper}{X:List Deferred}{r:Option Nat}{Q:Exit->Act->World->Prop}:∀(l:List Oper) (fr:Tr V) (h:Heap) (fr':Tr V) (h':Heap),yMq S C ops l fr h=some (fr',h') ->(∀o∈l,juq o=true/\uYq N o.dst=true) ->
  Mono h h'/\∀D ρ a w,h'.next<=U->FrE C D ρ fr a->Rel s0 U D ρ h w->a.tmps.size=N->a.defers=X->
   (∀D' ρ' a' w',FrE C D' ρ' fr' a'->Rel s0 U D' ρ' h' w'->Nxt D ρ h w D' ρ' h' w'->a'.tmps.size=N->a'.defers=X->Q .normal a' w') ->wpListIn (FF r) 0 P ops Q l a w
 |[],fr,h,fr',h',he,_=>by
  simp only[yMq,Option.some.injEq,Prod.mk.injEq] at he;obtain⟨rfl,rfl⟩:=he;exact⟨Mono.refl _,λD ρ a w _ g rel hs hd k=>by unfold wpListIn;exact k D ρ a w g rel (Nxt.refl _ _ _ _) hs hd⟩
 |o::l,fr,h,fr',h',he,hl=>by
  obtain⟨hn,hd⟩:=hl o Xe;simp only[yMq] at he;split at he
  ·rename_i hw;split at he
   ·rename_i v h1 ho;obtain⟨m2,ih⟩:=qHq hC hS (X:=X) (r:=r) (Q:=Q) l _ _ _ _ he (λo ho=>hl o (by simp[ho]));have m1:=k4q hS ho;refine⟨m1.trans m2,λD ρ a w hU g rel hs hdf k=>?_⟩;unfold wpListIn;rw[j5q g hw,if_pos rfl];have hU1:=Nat.le_trans m2.nxt hU;refine uBq hC hS hn ho hU1 g rel λD1 ρ1 w1 rel1 n1 in1=>?_
    refine ih D1 ρ1 _ w1 hU ((g.next rel.lt hU1 n1).put (by rw[hs];exact hd) in1) rel1 (by cases o.dst<;>simp[Act.put,hs]) (by cases o.dst<;>simp[Act.put,hdf]) ?_;exact λD' ρ' a' w' q1 q2 q3 q4 q5=>k D' ρ' a' w' q1 q2 (n1.trans rel.lt hU q3) q4 q5
   ·cases he
  ·rename_i hw;obtain⟨m2,ih⟩:=qHq hC hS (X:=X) (r:=r) (Q:=Q) l _ _ _ _ he (λo ho=>hl o (by simp[ho]));refine⟨m2,λD ρ a w hU g rel hs hdf k=>?_⟩;unfold wpListIn;rw[j5q g hw,if_neg Xe];refine⟨λf _=>vnq r f,ih D ρ _ w hU (g.put (v:=.undef) (by rw[hs];exact hd) trivial) rel (by cases o.dst<;>simp[Act.put,hs]) (by cases o.dst<;>simp[Act.put,hdf]) k⟩
  ·cases he
noncomputable def qyq(P:Program)(C:Cfg)(N:Nat)(ev:St->Option (Exit×St))(W:Option Nat->(Exit->Act->World->Prop) ->Act->World->Prop):Prop:=
 ∀st x st',ev st=some (x,st') ->Mono st.h st'.h/\∀s0 U r tl D ρ a w Q,st'.h.next<=U->StR C s0 U N r tl D ρ st a w->
  (∀D' ρ' a' w',StR C s0 U N r tl D' ρ' st' a' w'->Nxt D ρ st.h w D' ρ' st'.h w'->Q x a' w') ->W r Q a w
structure FlowOK(P:Program)(C:Cfg)(F:Flow) where
 m:Nat
 loop:∀N c,z8q N c=true->qyq P C N (F.loop c) (λr Q a w=>Code.roundsIn (FF r) 0 P c Q m a w)
 scope:∀N c l,z8q N c=true->qyq P C N (F.scope c l) (λr Q a w=>xuq (FF r) 0 P c Q m l a w)
noncomputable def u9q(P:Program)(C:Cfg)(S:Self):Prop:=∀(N:Nat) (ops:Array Oper) (id:Nat) (fr:Tr V) (h:Heap) (fr':Tr V) (h':Heap),flowB N ops.toList ops.size=true->ycq S C ops ops.toList 0 [] fr h=some (fr',h') ->
 Mono h h'/\∀s0 U r D ρ a w X Q,h'.next<=U->FrE C D ρ fr a->Rel s0 U D ρ h w->a.tmps.size=N->a.defers=X->
  (∀D' ρ' a' w',FrE C D' ρ' fr' a'->Rel s0 U D' ρ' h' w'->Nxt D ρ h w D' ρ' h' w'->a'.tmps.size=N->a'.defers=X->Q .normal a' w') ->(Code.region id ops true).wpIn (FF r) 0 P Q a w
theorem Rel.gone(r:Rel s0 U D ρ h w){i:Nat}{b:Blk}{o':Obj}{w':World}(hi:D i)(hb:h.get i=some b)(ho:b.own=true)(t:Turned (ρ.b i) o' w w'):Rel s0 U D ρ (h.kill i) w'/\Nxt D ρ h w D ρ (h.kill i) w':=by
 have get:∀j c,(h.kill i).get j=some c->j≠i/\h.get j=some c:=λj c hc=>by
  rw[Heap.get_kill] at hc;split at hc
  ·cases hc
  ·rename_i e;exact⟨e,hc⟩
 have hil:=r.blt hb;have hw:=jiq h.wmin i;have hs:=r.own i b hi hb ho
 have ne:∀j c,D j->j≠i->h.get j=some c->ρ.b j≠ρ.b i:=λj c hj hji hc e=>by
  by_cases hoc:c.own=true
  ·exact r.inj j i c b hj hi hc hb hoc ho hji e
  ·exact r.old j i c b hj hi hc hb (by simpa using hoc) ho e
 refine⟨⟨r.lt,λj hj=>?_,λj c hj hc=>?_,λj c hj hc=>r.clo j c hj (get j c hc).2,λj k c d hj hk hc hd=>r.inj j k c d hj hk (get _ _ hc).2 (get _ _ hd).2,λj c hj hc=>r.own j c hj (get _ _ hc).2,λj k c d hj hk hc hd=>r.old j k c d hj hk (get _ _ hc).2 (get _ _ hd).2,?_⟩,?_⟩
 ·have hj:h.next<=j:=hj;rw[Heap.get_kill];split
  ·rfl
  ·exact r.wf j hj
 ·obtain⟨h1,h2⟩:=get j c hc;obtain⟨o,q1,q2⟩:=r.has j c hj h2;exact⟨o,by rw[t.other _ (ne j c hj h1 h2)];exact q1,q2⟩
 ·exact⟨t.os.trans r.base.os,t.tape.trans r.base.tape,t.output.trans r.base.output,by rw[t.size];exact r.base.size,λk hk=>(t.other k Xa).trans (r.base.block k hk)⟩
 ·refine⟨λ_ h=>h,λ_ h=>.inl h,λ_ _=>⟨rfl,rfl,rfl,rfl⟩,λc _ hno=>t.other c λe=>hno i hi hw.2 hil e.symm,λj _ hn hl=>?_,Nat.le_of_eq t.size.symm,hw.1,Nat.le_refl _,t.os,t.tape,t.output⟩;have hl:j<h.next:=hl;omega
theorem StR.next{N:Nat}{r:Option Nat}{tl:List Deferred}{st:St}{D':Nat->Prop}{ρ':Env}{h':Heap}{w':World}(g:StR C s0 U N r tl D ρ st a w)(hU:h'.next<=U)(n:Nxt D ρ st.h w D' ρ' h' w')(rel:Rel s0 U D' ρ' h' w'):StR C s0 U N r tl D' ρ' ⟨st.fr,h',st.ds,st.rd⟩ a w':=by
 refine⟨g.fr.next g.rel.lt hU n,rel,g.size,?_,λd hd=>n.sub d (g.din d hd),g.rd⟩;rw[g.defs];refine congrArg (· ++tl) (List.map_congr_left λd hd=>?_);have:=n.agree g.rel.lt hU d 0 ⟨g.din d hd,Nat.zero_le _⟩;simp[mkD,this.1]
theorem xfq{st:St}{Dd l:Nat}{x:Exit}{st':St}(he:xgq st Dd l h=some (x,st')):Mono h st'.h:=by
 unfold xgq at he;split at he<;>first|(cases he;done)|(cases he;exact mono_kill _ _)
theorem qpq(hC:CfgOK P C)(hS:SelfOK P C S){F:Flow}(hF:FlowOK P C F)(hR:u9q P C S){N:Nat}:∀c:Code,z8q N c=true->qyq P C N (zbq S F C c) (λr Q a w=>c.wpIn (FF r) 0 P Q a w)
 |.skip,_=>λst x st' he=>by
  simp only[zbq,Option.some.injEq,Prod.mk.injEq] at he;obtain⟨rfl,rfl⟩:=he;exact⟨Mono.refl _,λs0 U r tl D ρ a w Q hU g k=>wpIn_skip (k D ρ a w g (Nxt.refl _ _ _ _))⟩
 |.label _,_=>λst x st' he=>by
  simp only[zbq,Option.some.injEq,Prod.mk.injEq] at he;obtain⟨rfl,rfl⟩:=he;exact⟨Mono.refl _,λs0 U r tl D ρ a w Q hU g k=>wpIn_label (k D ρ a w g (Nxt.refl _ _ _ _))⟩
 |.exit id,_=>λst x st' he=>by
  simp only[zbq,Option.some.injEq,Prod.mk.injEq] at he;obtain⟨rfl,rfl⟩:=he;exact⟨Mono.refl _,λs0 U r tl D ρ a w Q hU g k=>wpIn_exit (k D ρ a w g (Nxt.refl _ _ _ _))⟩
 |.goto id,_=>λst x st' he=>by
  simp only[zbq,Option.some.injEq,Prod.mk.injEq] at he;obtain⟨rfl,rfl⟩:=he;exact⟨Mono.refl _,λs0 U r tl D ρ a w Q hU g k=>wpIn_goto (k D ρ a w g (Nxt.refl _ _ _ _))⟩
 |.ret,_=>λst x st' he=>by
  simp only[zbq,Option.some.injEq,Prod.mk.injEq] at he;obtain⟨rfl,rfl⟩:=he;exact⟨Mono.refl _,λs0 U r tl D ρ a w Q hU g k=>wpIn_ret (k D ρ a w g (Nxt.refl _ _ _ _))⟩
 |.refuse _,_=>λst x st' he=>by simp[zbq] at he
 |.seq c d,hok=>λst x st' he=>by
  simp only[z8q,Bool.and_eq_true] at hok;have s1:=qpq hC hS hF hR c hok.1;have s2:=qpq hC hS hF hR d hok.2;simp only[zbq] at he;split at he
  ·rename_i st1 h1;obtain⟨m1,k1⟩:=s1 _ _ _ h1;obtain⟨m2,k2⟩:=s2 _ _ _ he;refine⟨m1.trans m2,λs0 U r tl D ρ a w Q hU g k=>wpIn_seq (k1 s0 U r tl D ρ a w _ (Nat.le_trans m2.nxt hU) g λD1 ρ1 a1 w1 g1 n1=>?_)⟩;exact k2 s0 U r tl D1 ρ1 a1 w1 Q hU g1 λD2 ρ2 a2 w2 g2 n2=>k D2 ρ2 a2 w2 g2 (n1.trans g.rel.lt hU n2)
  ·rename_i hne;obtain⟨m1,k1⟩:=s1 _ _ _ he;refine⟨m1,λs0 U r tl D ρ a w Q hU g k=>wpIn_seq (k1 s0 U r tl D ρ a w _ hU g λD1 ρ1 a1 w1 g1 n1=>?_)⟩;have hq:=k D1 ρ1 a1 w1 g1 n1;cases x with
   |normal=>exact absurd he (hne st')
   |_=>exact hq
 |.cond c x y,hok=>λst e st' he=>by
  simp only[z8q,Bool.and_eq_true] at hok;simp only[zbq] at he;split at he
  ·rename_i hc;obtain⟨m1,k1⟩:=qpq hC hS hF hR x hok.1 _ _ _ he;refine⟨m1,λs0 U r tl D ρ a w Q hU g k=>wpIn_cond_true ?_ (k1 s0 U r tl D ρ a w Q hU g k)⟩;have:=(g.fr.ev hc).1;simpa[conc] using this
  ·rename_i hc;obtain⟨m1,k1⟩:=qpq hC hS hF hR y hok.2 _ _ _ he;refine⟨m1,λs0 U r tl D ρ a w Q hU g k=>wpIn_cond_false ?_ (k1 s0 U r tl D ρ a w Q hU g k)⟩;have:=(g.fr.ev hc).1;simpa[conc] using this
  ·cases he
 |.block id c,hok=>λst x st' he=>by
  simp only[z8q] at hok;have s1:=qpq hC hS hF hR c hok;simp only[zbq] at he;split at he
  ·rename_i id' st1 h1;obtain⟨m1,k1⟩:=s1 _ _ _ h1;split at he
   ·rename_i hid;rw[Nat.beq_eq] at hid;cases he;refine⟨m1,λs0 U r tl D ρ a w Q hU g k=>wpIn_block (k1 s0 U r tl D ρ a w _ hU g λD1 ρ1 a1 w1 g1 n1=>?_)⟩;simp only[Exit.inBlock,hid,if_true];exact k D1 ρ1 a1 w1 g1 n1
   ·rename_i hid;have hid:¬id'=id:=λe=>by rw[x5q e] at hid;cases hid
    cases he;refine⟨m1,λs0 U r tl D ρ a w Q hU g k=>wpIn_block (k1 s0 U r tl D ρ a w _ hU g λD1 ρ1 a1 w1 g1 n1=>?_)⟩;simp only[Exit.inBlock,hid,if_false];exact k D1 ρ1 a1 w1 g1 n1
  ·rename_i hne;obtain⟨m1,k1⟩:=s1 _ _ _ he;refine⟨m1,λs0 U r tl D ρ a w Q hU g k=>wpIn_block (k1 s0 U r tl D ρ a w _ hU g λD1 ρ1 a1 w1 g1 n1=>?_)⟩;have hq:=k D1 ρ1 a1 w1 g1 n1;cases x with
   |exit id'=>exact absurd he (hne id' st')
   |_=>exact hq
 |.loop c,hok=>λst x st' he=>by
  simp only[z8q] at hok;simp only[zbq] at he;obtain⟨m1,k1⟩:=hF.loop N c hok _ _ _ he;exact⟨m1,λs0 U r tl D ρ a w Q hU g k=>wpIn_loop_rounds _ (k1 s0 U r tl D ρ a w Q hU g k)⟩
 |.scope c,hok=>λst x st' he=>by
  simp only[z8q] at hok;have s1:=qpq hC hS hF hR c hok;simp only[zbq] at he;split at he
  ·rename_i l st1 h1;obtain⟨m1,k1⟩:=s1 _ _ _ h1;obtain⟨m2,k2⟩:=hF.scope N c l hok _ _ _ he;refine⟨m1.trans m2,λs0 U r tl D ρ a w Q hU g k=>kPq hF.m (k1 s0 U r tl D ρ a w _ (Nat.le_trans m2.nxt hU) g λD1 ρ1 a1 w1 g1 n1=>?_)⟩;exact k2 s0 U r tl D1 ρ1 a1 w1 Q hU g1 λD2 ρ2 a2 w2 g2 n2=>k D2 ρ2 a2 w2 g2 (n1.trans g.rel.lt hU n2)
  ·rename_i hne;obtain⟨m1,k1⟩:=s1 _ _ _ he;refine⟨m1,λs0 U r tl D ρ a w Q hU g k=>kPq hF.m (k1 s0 U r tl D ρ a w _ hU g λD1 ρ1 a1 w1 g1 n1=>?_)⟩;have hq:=k D1 ρ1 a1 w1 g1 n1;cases x with
   |goto l=>exact absurd he (hne l st')
   |_=>exact hq
 |.region id ops dr,hok=>λst x st' he=>by
  simp only[z8q,Bool.and_eq_true] at hok;cases dr with
  |false=>
   simp only[zbq] at he;split at he
   ·rename_i fr h he1;cases he
    have hall:∀o∈ops.toList,juq o=true/\uYq N o.dst=true:=λo ho=>by
     have:=List.all_eq_true.1 hok.1 o ho;simpa using this
    have m1:=(qHq (s0:=default) (U:=0) (X:=[]) (r:=none) (Q:=λ_ _ _=>True) hC hS ops.toList _ _ _ _ he1 hall).1;refine⟨m1,λs0 U r tl D ρ a w Q hU g k=>?_⟩
    have k1:=(qHq (s0:=s0) (U:=U) (X:=a.defers) (r:=r) (Q:=Q) hC hS ops.toList _ _ _ _ he1 hall).2 D ρ a w hU g.fr g.rel g.size rfl λD' ρ' a' w' q1 q2 q3 q4 q5=>by
     refine k D' ρ' a' w' ?_ q3;have:=g.next hU q3 q2;exact⟨q1,q2,q4,by rw[q5];exact this.defs,this.din,g.rd⟩
    have e:ops=ops.toList.toArray:=by simp
    rw[e];exact wpIn_region_lit (by rw[<-e];exact k1)
   ·cases he
  |true=>
   simp only[zbq] at he;split at he
   ·rename_i fr h he1;cases he;have hb:flowB N ops.toList ops.size=true:=by simpa using hok.2
    obtain⟨m1,k1⟩:=hR N ops id _ _ _ _ hb he1;refine⟨m1,λs0 U r tl D ρ a w Q hU g k=>?_⟩;refine k1 s0 U r D ρ a w a.defers Q hU g.fr g.rel g.size rfl λD' ρ' a' w' q1 q2 q3 q4 q5=>?_
    refine k D' ρ' a' w' ?_ q3;have:=g.next hU q3 q2;exact⟨q1,q2,q4,by rw[q5];exact this.defs,this.din,g.rd⟩
   ·cases he
 |.rangeFunc gop ps asg bd,hok=>λst x st' he=>by
  simp only[z8q,Bool.and_eq_true] at hok;simp only[zbq] at he;split at he
  ·rename_i gf cs hrd hg;split at he
   ·rename_i u h3 hcall;have m1:=hS.fnMono _ _ _ _ _ hcall;have m2:=xfq he;refine⟨((z1q _ _).trans (z1q _ _)).trans (m1.trans m2),λs0 U r tl D ρ a w Q hU gg k=>?_⟩
    have hrn:r=none:=by
     have:=gg.rd;rw[hrd] at this;cases r with
     |none=>rfl
     |some l=>cases this
    subst hrn;obtain⟨hev,hcin⟩:=gg.fr.ev hg;have hU3:h3.next<=U:=Nat.le_trans m2.nxt hU;have hU2:st.h.next+1+1<=U:=Nat.le_trans m1.nxt hU3;refine wpIn_rangeFunc (F:=FF none) (n:=0) ?_;intro fn _
    --the two blocks
    obtain⟨r1,n1⟩:=gg.rel.push (b:=.dfr false) (o:=.deferred (some [])) (pre:=0) (cap:=0) Xa (yDq w _) (heap_alloc_new w _) rfl trivial rfl;have hag1:=n1.agree gg.rel.lt (U:=U) (by show st.h.next+1<=U;omega);have hdd1:=n1.dd gg.rel.lt (U:=U) (by show st.h.next+1<=U;omega);have hb1:(ρ.add st.h.next w.heap.size 0 0).b st.h.next=w.heap.size:=by simp[Env.add]
    obtain⟨W1,hW1⟩:∃W1,(w.alloc (.deferred (some []))).alloc (.loop {state:=.ready,pending:=none,fn,tmps:=a.tmps,params:=ps,assign:=asg,body:=bd,defers:=w.heap.size})=W1:=⟨_,rfl⟩
    have hsz1:(w.alloc (.deferred (some []))).heap.size=w.heap.size+1:=by simp
    have hne:st.h.next+1≠st.h.next:=by omega
    obtain⟨r2,n2⟩:=r1.push (b:=.loop .ready none st.fr ps asg bd st.h.next) (o:=.loop {state:=.ready,pending:=none,fn,tmps:=a.tmps,params:=ps,assign:=asg,body:=bd,defers:=w.heap.size}) (pre:=0) (cap:=0) (by exact hU2) (yDq _ _) (heap_alloc_new _ _) rfl
     ⟨λt v hv=>(gg.fr.in_ t v hv).mono hdd1,.inr rfl,Nat.zero_le _⟩
     ⟨fn,a.tmps,by simp[Env.add,Heap.push],λt v hv=>by
      have hx:=gg.fr.at_ t v hv;have hi:=gg.fr.in_ t v hv;rw[hx];congr 1
      rw[ypq (Env.add_agree (r1.next_new (by exact hU2))) (hi.mono hdd1),ypq hag1 hi],by simp[Env.add],λp hp=>by
      have:=List.all_eq_true.1 hok.1.1 p hp;rw[gg.size];simpa using this,by rw[gg.size];exact hok.1.2,by rw[gg.size];exact hok.2⟩
    rw[hsz1] at r2 n2;rw[hW1] at r2 n2;have n12:=n1.trans gg.rel.lt (by exact hU2) n2;have hag2:=n12.agree gg.rel.lt (U:=U) (by exact hU2);have hdd2:=n12.dd gg.rel.lt (U:=U) (by exact hU2)
    refine⟨w.heap.size+1,[{target:=.collected w.heap.size,args:= #[]}],W1,{target:=.fn (.func gf) (zwq ρ cs).toArray,args:= #[.func (.yield (w.heap.size+1)) #[] #[]]},W1,gf,
     #[.func (.yield (w.heap.size+1)) #[] #[]]++(zwq ρ cs).toArray,W1,?_,?_,?_,?_,(by simp[xoq]),?_⟩
    ·rw[<-hW1];exact run_enterLoop_outer _ _ _ _ _
    ·simp only[resolve,hev,conc];simp[go_sem,zwq]
    ·intro f' _;exact vnq none f'
    ·simp[invoke,go_sem,hS.fnEnter _ _ _ _ _ hcall]
    ·refine callsIn_FF (callsIn_wide.2 ?_)
     have hargs:(zwq ((ρ.add st.h.next w.heap.size 0 0).add (st.h.next+1) (w.heap.size+1) 0 0) ([.yield (st.h.next+1)]++cs)).toArray= #[.func (.yield (w.heap.size+1)) #[] #[]]++(zwq ρ cs).toArray:=by
      have:=yNq hag2 (l:=cs) hcin.2;simp only[List.singleton_append,zwq];have e:zwq ((ρ.add st.h.next w.heap.size 0 0).add (st.h.next+1) (w.heap.size+1) 0 0) cs=zwq ρ cs:=this;rw[e];apply Array.ext';simp[conc,Env.add]
     have hgl:=GlobOK.next gg.fr.gl gg.rel.lt (by exact hU2) n12;have key:=hS.fn _ _ _ _ _ hcall s0 U _ _ W1 hU3 hgl ⟨⟨.inr rfl,Nat.zero_le _⟩,InDL.mono hdd2 hcin.2⟩ r2;have hargs':(zwq ((ρ.add st.h.next w.heap.size 0 0).add (st.h.push (.dfr false)).next (w.heap.size+1) 0 0) ([.yield (st.h.next+1)]++cs)).toArray= #[.func (.yield (w.heap.size+1)) #[] #[]]++(zwq ρ cs).toArray:=hargs;rw[hargs'] at key;refine key.mono ?_;rintro e w3 ⟨D3,ρ3,rfl,r3,n3,_⟩;have n13:=n12.trans gg.rel.lt hU3 n3;have hlD:D3 (st.h.next+1):=n3.sub _ (.inr rfl)
     have hbl:ρ3.b (st.h.next+1)=w.heap.size+1:=by
      have:=(n3.env (st.h.next+1) (.inl (by show st.h.next+1<st.h.next+1+1;omega))).1;rw[this];simp[Env.add,Heap.push]
     have hbd:ρ3.b st.h.next=w.heap.size:=by
      have:=(n3.env st.h.next (.inl (by show st.h.next<st.h.next+1+1;omega))).1;rw[this];simp[Env.add,Heap.push]
     have hdD:D3 st.h.next:=n3.sub _ (.inl (.inr rfl))
     --its end
     have fin:∀(stt:LoopState) (pe:Option Code) fr' ps' as' bd' d',stt≠ .busy->h3.get (st.h.next+1)=some (.loop stt pe fr' ps' as' bd' d') ->
       ∃w4,(Instr.endLoop (w.heap.size+1)).run P w3= .ok pe w4/\(∀stx:Exit,st'=⟨st.fr,h3.kill (st.h.next+1),st.h.next::st.ds,st.rd⟩ ->x=stx->Q stx {a with defers:=[{target:=.collected w.heap.size,args:= #[]}]++a.defers} w4):=λstt pe fr' ps' as' bd' d' hb hget=>by
      obtain⟨o,q1,q2⟩:=r3.has _ _ hlD hget;obtain⟨fn',tmps',rfl,_,_,_,_,_⟩:=q2;rw[hbl] at q1;refine⟨_,run_endLoop q1 hb,λstx hst hx=>?_⟩;subst hst;subst hx;have ht:=ybq (w:=w3) (b:=w.heap.size+1) (.loop {state:=.exhausted,pending:=pe,fn:=fn',tmps:=tmps',params:=ps',assign:=as',body:=bd',defers:=ρ3.b d'}) (Array.getElem?_eq_some_iff.1 q1).1;rw[<-hbl] at ht;obtain⟨r4,n4⟩:=r3.gone hlD hget rfl ht;rw[hbl] at r4 n4;have n14:=n13.trans gg.rel.lt (by exact hU3) n4;have g4:=gg.next (by exact hU3) n14 r4;refine k D3 ρ3 _ _ ⟨⟨g4.fr.at_,g4.fr.in_,g4.fr.gl⟩,r4,gg.size,?_,λd hd=>?_,gg.rd⟩ n14
      ·simp only[List.map_cons,List.singleton_append];rw[g4.defs];simp[mkD,hbd]
      ·rcases List.mem_cons.1 hd with rfl|hd
       ·exact hdD
       ·exact n13.sub d (gg.din d hd)
     unfold xgq at he;split at he
     ·rename_i hget;cases he;obtain⟨w4,q1,q2⟩:=fin _ _ _ _ _ _ _ Xe hget;exact⟨none,w4,q1,q2 _ Z Z⟩
     ·rename_i hget;cases he;obtain⟨w4,q1,q2⟩:=fin _ _ _ _ _ _ _ Xe hget;exact⟨some .ret,w4,q1,wpIn_ret (q2 _ Z Z)⟩
     ·rename_i hget;cases he;obtain⟨w4,q1,q2⟩:=fin _ _ _ _ _ _ _ Xe hget;exact⟨_,w4,q1,wpIn_exit (q2 _ Z Z)⟩
     ·rename_i hget;cases he;obtain⟨w4,q1,q2⟩:=fin _ _ _ _ _ _ _ Xe hget;exact⟨_,w4,q1,wpIn_goto (q2 _ Z Z)⟩
     ·cases he
   ·cases he
  ·cases he
end
section
variable {C:Cfg} {fr fr':Tr V}
theorem jWq:∀{l:List Operand},(∀x∈l,evV C fr x=evV C fr' x) ->evL C fr l=evL C fr' l
 |[],_=>rfl
 |x::l,h=>by simp only[evL,h x Xe,jWq (l:=l) λy hy=>h y (by simp[hy])]
theorem jgq{d:Nat}{x:Option Operand}(h:∀y,x=some y->evV C fr y=evV C fr' y):bndI C fr d x=bndI C fr' d x:=by
 cases x with
 |none=>rfl
 |some y=>simp only[bndI,h y rfl]
theorem uPq{t:TypeId}:∀{l:List (Nat×Operand)} {v:V},(∀p∈l,evV C fr p.2=evV C fr' p.2) ->uQq C fr t v l=uQq C fr' t v l
 |[],_,_=>rfl
 |(i,x)::l,v,h=>by
  simp only[uQq,h (i,x) Xe];have ih:=λv=>uPq (t:=t) (l:=l) (v:=v) λp hp=>h p (by simp[hp])
  repeat' split
  all_goals first|rfl|exact ih _
theorem uRq{e:Nat}:∀{l:List (Nat×Operand)} {v:V},(∀p∈l,evV C fr p.2=evV C fr' p.2) ->vjq C fr e v l=vjq C fr' e v l
 |[],_,_=>rfl
 |(i,x)::l,v,h=>by
  simp only[vjq,h (i,x) Xe];have ih:=λv=>uRq (e:=e) (l:=l) (v:=v) λp hp=>h p (by simp[hp])
  repeat' split
  all_goals first|rfl|exact ih _
theorem kvq{rt:TypeId}(o:Op)(h:∀x∈o.operands,evV C fr x=evV C fr' x):zUq C fr rt o=zUq C fr' rt o:=by
 cases o<;>simp only[Op.operands] at h
 case unOp op t x=>
  have h1:=h x Xe;cases op<;>simp only[zUq,ymq,zzq,zvq,zyq,zDq,zCq,z3q,zAq,ztq,z2q,zZq,znq,zmq,zYq,zSq,zgq,zMq,yFq,qiq,qjq,h1]
 case makeFunc fn first captured=>
  have h1:=jWq (C:=C) (fr:=fr) (fr':=fr') (l:=first.toList) λx hx=>h x (by simp at hx;simp[hx])
  have h2:=jWq (C:=C) (fr:=fr) (fr':=fr') (l:=captured.toList) λx hx=>h x (by simp at hx;simp[hx])
  cases fn<;>simp only[zUq,ymq,zzq,zvq,zyq,zDq,zCq,z3q,zAq,ztq,z2q,zZq,znq,zmq,zYq,zSq,zgq,zMq,yFq,qiq,qjq,h1,h2]
 case build t ps=>
  have h1:=λv=>uPq (C:=C) (fr:=fr) (fr':=fr') (t:=t) (l:=ps.toList) (v:=v) λp hp=>h p.2 (by simp at hp;simp;exact⟨p.1,hp⟩)
  simp only[zUq,ymq,zzq,zvq,zyq,zDq,zCq,z3q,zAq,ztq,z2q,zZq,znq,zmq,zYq,zSq,zgq,zMq,yFq,qiq,qjq,h1]
 case slice t x lo hi mx=>
  have h1:=h x Xe;have h2:=λd=>jgq (C:=C) (fr:=fr) (fr':=fr') (d:=d) (x:=lo) λy hy=>h y (by simp[hy])
  have h3:=λd=>jgq (C:=C) (fr:=fr) (fr':=fr') (d:=d) (x:=hi) λy hy=>h y (by simp[hy])
  cases mx with
  |none=>simp only[zUq,ymq,zzq,zvq,zyq,zDq,zCq,z3q,zAq,ztq,z2q,zZq,znq,zmq,zYq,zSq,zgq,zMq,yFq,qiq,qjq,h1,h2,h3]
  |some z=>
   have h4:=jgq (C:=C) (fr:=fr) (fr':=fr') (d:=0) (x:=some z) λy hy=>h y (by simp at hy;simp[hy])
   simp only[zUq,ymq,zzq,zvq,zyq,zDq,zCq,z3q,zAq,ztq,z2q,zZq,znq,zmq,zYq,zSq,zgq,zMq,yFq,qiq,qjq,h1,h2,h3,h4]
 case call c=>
  obtain⟨callee,args,ats⟩:=c;obtain⟨args⟩:=args;obtain⟨ats⟩:=ats;have ha:∀x∈args,evV C fr x=evV C fr' x:=λx hx=>h x (by simp[Call.operands,hx])
  cases callee<;>try rfl
  rename_i b;cases b<;>try rfl
  all_goals
   rcases args with _|⟨x,_|⟨y,_|⟨z,l⟩⟩⟩<;>rcases ats with _|⟨t,_|⟨u,_|⟨z',ats⟩⟩⟩<;>simp only[zUq,ymq,zzq,zvq,zyq,zDq,zCq,z3q,zAq,ztq,z2q,zZq,znq,zmq,zYq,zSq,zgq,zMq,yFq,qiq,qjq]<;>(first|rfl|(simp only[List.mem_cons,List.not_mem_nil,or_false,forall_eq_or_imp,forall_eq] at ha;simp only[ha]))
 all_goals first|rfl|(simp only[List.mem_toArray,List.mem_cons,List.not_mem_nil,or_false,forall_eq_or_imp,forall_eq] at h;simp only[zUq,ymq,zzq,zvq,zyq,zDq,zCq,z3q,zAq,ztq,z2q,zZq,znq,zmq,zYq,zSq,zgq,zMq,yFq,qiq,qjq,h])
theorem opH_congr{H:Heap}(o:Op)(h:∀x∈o.operands,evV C fr x=evV C fr' x):opH C fr H o=opH C fr' H o:=by
 cases o<;>simp only[Op.operands] at h
 case buildSlice t n ps=>
  have h1:=λe v=>uRq (C:=C) (fr:=fr) (fr':=fr') (e:=e) (l:=ps.toList) (v:=v) λp hp=>h p.2 (by simp at hp;simp;exact⟨p.1,hp⟩)
  simp only[opH,zpq,zXq,zEq,zFq,yuq,zfq,zjq,zuq,z0q,zBq,zlq,zsq,zeq,zkq,zdq,zrq,zHq,zxq,zWq,h1]
 case makeMap t x=>
  cases x with
  |none=>rfl
  |some x=>
   have h1:=h x Xe;simp only[opH,zlq,h1]
 case lookup t x y ok=>
  have h1:=h x Xe;have h2:=h y Xe;simp only[opH,zsq,h1,h2]
 case mapUpdate t x y z=>
  have h1:=h x Xe;have h2:=h y Xe;have h3:=h z Xe;simp only[opH,zeq,h1,h2,h3]
 case insert t x y z=>
  have h1:=h x Xe;have h2:=h y Xe;have h3:=h z Xe;simp only[opH,zeq,h1,h2,h3]
 case mapEntry t x y=>
  have h1:=h x Xe;have h2:=h y Xe;simp only[opH,zkq,h1,h2]
 case entryStore t x y z=>
  have h1:=h x Xe;have h2:=h y Xe;have h3:=h z Xe;simp only[opH,zdq,h1,h2,h3]
 case slice t x lo hi mx=>
  have h1:=h x Xe;have h2:=λd=>jgq (C:=C) (fr:=fr) (fr':=fr') (d:=d) (x:=lo) λy hy=>h y (by simp[hy])
  have h3:=λd=>jgq (C:=C) (fr:=fr) (fr':=fr') (d:=d) (x:=hi) λy hy=>h y (by simp[hy])
  simp only[opH,zpq,zXq,zEq,zFq,yuq,zfq,zjq,zuq,z0q,zBq,zlq,zsq,zeq,zkq,zdq,zrq,zHq,zxq,zWq,h1,h2,h3]
 case call c=>
  obtain⟨callee,args,ats⟩:=c;obtain⟨args⟩:=args;obtain⟨ats⟩:=ats;have ha:∀x∈args,evV C fr x=evV C fr' x:=λx hx=>h x (by simp[Call.operands,hx])
  cases callee<;>try rfl
  rename_i b;cases b<;>try rfl
  all_goals
   rcases args with _|⟨x,_|⟨y,_|⟨z,l⟩⟩⟩<;>rcases ats with _|⟨t,_|⟨u,_|⟨z',ats⟩⟩⟩<;>simp only[opH,zpq,zXq,zEq,zFq,yuq,zfq,zjq,zuq,z0q,zBq,zlq,zsq,zeq,zkq,zdq,zrq,zHq,zxq,zWq]<;>(first|rfl|(simp only[List.mem_cons,List.not_mem_nil,or_false,forall_eq_or_imp,forall_eq] at ha;simp only[ha]))
 all_goals first|rfl|(simp only[List.mem_toArray,List.mem_cons,List.not_mem_nil,or_false,forall_eq_or_imp,forall_eq] at h;simp only[opH,zpq,zXq,zEq,zFq,yuq,zfq,zjq,zuq,z0q,zBq,zlq,zsq,zeq,zkq,zdq,zrq,zHq,zxq,zWq,h])
theorem opJ_congr{H:Heap}(o:Op)(h:∀x∈o.operands,evV C fr x=evV C fr' x):opJ C fr H o=opJ C fr' H o:=by
 cases o<;>try rfl
 case range t x=>simp only[opJ,xAq,h x (by simp[Op.operands])]
 case next x b=>simp only[opJ,vyq,h x (by simp[Op.operands])]
 case entry x=>simp only[opJ,xBq,h x (by simp[Op.operands])]
 case convert s t x=>simp only[opJ,ohRaw,h x (by simp[Op.operands])]
 case call c=>
  obtain⟨callee,args,ats⟩:=c;obtain⟨args⟩:=args;obtain⟨ats⟩:=ats;have ha:∀x∈args,evV C fr x=evV C fr' x:=λx hx=>h x (by simp[Op.operands,Call.operands,hx])
  cases callee<;>try rfl
  rename_i b;cases b<;>try rfl
  all_goals
   rcases args with _|⟨x,_|⟨y,_|⟨z,l⟩⟩⟩<;>rcases ats with _|⟨t,_|⟨u,_|⟨z',ats⟩⟩⟩<;>simp only[opJ,ohCap,ohData,ohText,jQq]<;>(first|rfl|(simp only[List.mem_cons,List.not_mem_nil,or_false,forall_eq_or_imp,forall_eq] at ha;simp only[ha]))
theorem callV_congr{S:Self}{H:Heap}(o:Op)(h:∀x∈o.operands,evV C fr x=evV C fr' x):y9q S C fr H o=y9q S C fr' H o:=by
 cases o<;>try exact opJ_congr (H:=H) _ h
 rename_i c;obtain⟨callee,args,ats⟩:=c;cases callee with
 |builtin b=>exact opJ_congr (H:=H) (.call ⟨.builtin b,args,ats⟩) h
 |value x=>
  have hx:=h x (by simp[Op.operands,Call.operands]);have ha:=jWq (C:=C) (fr:=fr) (fr':=fr') (l:=args.toList) λy hy=>h y (by simp at hy;simp[Op.operands,Call.operands,hy])
  simp only[y9q,hx,ha]
 |invoke x m=>
  have hx:=h x (by simp[Op.operands,Call.operands]);have ha:=jWq (C:=C) (fr:=fr) (fr':=fr') (l:=args.toList) λy hy=>h y (by simp at hy;simp[Op.operands,Call.operands,hy])
  simp only[y9q,hx,ha]
theorem k5q{S:Self}{H:Heap}(o:Oper)(h:∀x∈o.op.operands,evV C fr x=evV C fr' x):opV S C fr H o=opV S C fr' H o:=by
 unfold opV;rw[kvq o.op h,opH_congr o.op h,callV_congr o.op h]
theorem Tr.cut{α:Type}(t:Tr α)(L:List Nat):∃u:Tr α,∀k,u.get k=if k∈L then t.get k else none:=by
 induction L with
 |nil=>exact⟨.nil,λk=>by simp[Tr.get_nil]⟩
 |cons x L ih=>
  obtain⟨u,hu⟩:=ih;refine⟨u.set x (t.get x),λk=>?_⟩;rw[Tr.get_set,hu];by_cases e:k=x
  ·subst e;simp
  ·simp[e]
theorem Tr.of{α:Type}(g:Nat->Option α)(n:Nat):∃t:Tr α,∀k,t.get k=if k<n then g k else none:=by
 induction n with
 |zero=>exact⟨.nil,λk=>by simp[Tr.get_nil]⟩
 |succ n ih=>
  obtain⟨u,hu⟩:=ih;refine⟨u.set n (g n),λk=>?_⟩;rw[Tr.get_set,hu];by_cases e:k=n
  ·subst e;simp
  ·rw[if_neg e];by_cases h:k<n
   ·rw[if_pos h,if_pos Xa]
   ·rw[if_neg h,if_neg Xa]
theorem cut_ev{ops:Array Oper}{o:Oper}(h:∀t∈o.looksAt ops,fr'.get t=fr.get t):∀x∈o.op.operands,evV C fr x=evV C fr' x:=λx hx=>by
 cases x with
 |tmp t=>
  have:t∈o.looksAt ops:=List.mem_append_left _ (List.mem_filterMap.2 ⟨.tmp t,by simpa using hx,rfl⟩);simp only[evV,h t this]
 |_=>rfl
theorem cut_want{ops:Array Oper}{o:Oper}(h:∀t∈o.looksAt ops,fr'.get t=fr.get t):xpq ops fr o=xpq ops fr' o:=by
 unfold xpq;split
 ·rfl
 ·rename_i j b hg;split
  ·rfl
  ·rename_i t ht;rw[h t (List.mem_append_right _ (by simp[hg,ht]))]
end
noncomputable def StepAt(S:Self)(C:Cfg)(ops:Array Oper)(o:Oper)(fr:Tr V)(h:Heap)(v:V)(h':Heap)(x:Option Ev):Prop:=
 (xpq ops fr o=some false/\v= .undef/\h'=h/\x=none)\/(xpq ops fr o=some true/\x4q S C fr h o=some (v,h',x))
structure Trace(S:Self)(C:Cfg)(ops:Array Oper)(l:List Oper)(i:Nat)(es:List (Nat×Ev))(fr:Tr V)(h:Heap)(fr':Tr V)(h':Heap)(frs:Nat->Tr V)(hs:Nat->Heap)(vs:Nat->V)(xs:Nat->Option Ev):Prop where
 f0:frs 0=fr
 h0:hs 0=h
 fn:frs l.length=fr'
 hn:hs l.length=h'
 st:∀j o,l[j]? =some o->StepAt S C ops o (frs j) (hs j) (vs j) (hs (j+1)) (xs j)/\frs (j+1)=putT (frs j) o.dst (vs j)
 cl:∀j o x,l[j]? =some o->xs j=some x->(∀k y,(k,y)∈es->y.clash x=true->yKq ops ops.size (i+j) k=true)/\∀k y,k<j->xs k=some y->y.clash x=true->yKq ops ops.size (i+j) (i+k)=true
noncomputable def con{α:Type}(x:α)(f:Nat->α):Nat->α
 |0=>x
 |j+1=>f j
theorem vMq{ops:Array Oper}{j:Nat}{x:Ev}:∀{es:List (Nat×Ev)},Zwq ops j x es=true->∀k y,(k,y)∈es->y.clash x=true->yKq ops ops.size j k=true
 |[],_,_,_,h,_=>by simp at h
 |(k',y')::es,he,k,y,h,hc=>by
  simp only[Zwq,Bool.and_eq_true] at he;rcases List.mem_cons.1 h with e|h
  ·cases e;have:=he.1;rw[hc] at this;exact this
  ·exact vMq he.2 k y h hc
theorem vHq{S:Self}{C:Cfg}{ops:Array Oper}:∀(l:List Oper) (i:Nat) (es:List (Nat×Ev)) (fr:Tr V) (h:Heap) (fr':Tr V) (h':Heap),ycq S C ops l i es fr h=some (fr',h') ->
  ∃frs hs vs xs,Trace S C ops l i es fr h fr' h' frs hs vs xs
 |[],i,es,fr,h,fr',h',he=>by
  simp only[ycq,Option.some.injEq,Prod.mk.injEq] at he;obtain⟨rfl,rfl⟩:=he;exact⟨λ_=>fr,λ_=>h,λ_=>.undef,λ_=>none,rfl,rfl,rfl,rfl,by simp,by simp⟩
 | o ::l,i,es,fr,h,fr',h',he=>by
  have key:∀(v:V) (h1:Heap) (x:Option Ev) (es':List (Nat×Ev)),StepAt S C ops o fr h v h1 x->(∀y,x=some y->Zwq ops i y es=true) ->(∀p∈es,p∈es') ->(∀y,x=some y->(i,y)∈es') ->
    ycq S C ops l (i+1) es' (putT fr o.dst v) h1=some (fr',h') ->∃frs hs vs xs,Trace S C ops (o::l) i es fr h fr' h' frs hs vs xs:=λv h1 x es' hst hev hsub hin he=>by
   obtain⟨frs,hs,vs,xs,t⟩:=vHq l _ _ _ _ _ _ he;refine⟨con fr frs,con h hs,con v vs,con x xs,rfl,rfl,t.fn,t.hn,λj o' hj=>?_,λj o' y hj hy=>?_⟩
   ·cases j with
    |zero=>
     simp at hj;subst hj
     refine⟨?_,?_⟩
     ·show StepAt S C ops o fr h v (hs 0) x;rw[t.h0];exact hst
     ·exact t.f0
    |succ j=>exact t.st j o' (by simpa using hj)
   ·cases j with
    |zero=>exact⟨λk z hk hc=>vMq (hev y hy) k z hk hc,λk z hk=>by omega⟩
    |succ j=>
     obtain⟨q1,q2⟩:=t.cl j o' y (by simpa using hj) hy;have e1:i+1+j=i+(j+1):=by omega
     rw[e1] at q1 q2;refine⟨λk z hk hc=>q1 k z (hsub _ hk) hc,λk z hk hz hc=>?_⟩;cases k with
     |zero=>exact q1 i z (hin z hz) hc
     |succ k=>
      have:=q2 k z Xa hz hc;rwa[show i+1+k=i+(k+1) by omega] at this
  simp only[ycq] at he;split at he
  ·rename_i hw;split at he
   ·rename_i v h1 x hst;split at he
    ·rename_i hev;exact key v h1 (some x) _ (.inr ⟨hw,hst⟩) (λy hy=>by cases hy;exact hev) (λp hp=>by simp[hp]) (λy hy=>by cases hy;simp) he
    ·cases he
   ·rename_i v h1 hst;exact key v h1 none _ (.inr ⟨hw,hst⟩) (λy hy=>by cases hy) (λp hp=>hp) (λy hy=>by cases hy) he
   ·cases he
  ·rename_i hw;exact key .undef h none _ (.inl ⟨hw,rfl,rfl,rfl⟩) (λy hy=>by cases hy) (λp hp=>hp) (λy hy=>by cases hy) he
  ·cases he
theorem Zlq(a b:Nat):minN a b<=a/\minN a b<=b:=jiq a b
section
variable {P:Program} {C:Cfg} {S:Self} {ops:Array Oper} {o:Oper} {fr:Tr V} {h h' h1:Heap} {v:V} {x:Option Ev}
theorem yIq(hs:x4q S C fr h o=some (v,h',x)):(zUq C fr o.type o.op=some v/\h'=h/\x=none)\/
  (∃h1,zUq C fr o.type o.op=none/\opV S C fr {h with wmin:=h.next} o=some (v,h1)/\h'={h1 with wmin:=minN h.wmin h1.wmin}/\x=some (evOf C fr h h1 o.op)):=by
 unfold x4q at hs;split at hs
 ·rename_i u hu;simp only[Option.some.injEq,Prod.mk.injEq] at hs;obtain⟨rfl,rfl,rfl⟩:=hs;exact .inl ⟨hu,rfl,rfl⟩
 ·rename_i hu;split at hs
  ·rename_i u h1 ho;simp only[Option.some.injEq,Prod.mk.injEq] at hs;obtain⟨rfl,rfl,rfl⟩:=hs;exact .inr ⟨h1,hu,ho,rfl,rfl⟩
  ·cases hs
noncomputable def vrq(C:Cfg)(fr:Tr V)(t:TypeId)(lo hi mx:Option Operand)(b off:Nat)(bv:Option V):Option V:=match C.ty t with
 |some j=>match j.d with
  |.arr n e=>match C.ty e,bndI C fr 0 lo,bndI C fr n hi,mx,bv with
   |some k,some l,some r,none,some bv=>match Nat.beq k.size 0||!Nat.ble l r||!Nat.ble r n||!Nat.ble (off+n*k.size) bv.size with
    |true=>none
    |false=>some (.sl b off (off+l*k.size) (r-l) k.size (some (n-l)))
   |_,_,_,_,_=>none
  |_=>none
 |none=>none
theorem sliceP_none{C:Cfg}{fr:Tr V}{t:TypeId}{lo hi mx:Option Operand}{b off:Nat}:vrq C fr t lo hi mx b off none=none:=by
 unfold vrq;cases C.ty t with
 |none=>rfl
 |some j=>
  cases hj:j.d<;>simp only[hj]
  rename_i n e;cases C.ty e<;>cases bndI C fr 0 lo<;>cases bndI C fr n hi<;>cases mx<;>rfl
theorem sliceP_eq{C:Cfg}{fr:Tr V}{t:TypeId}{x:Operand}{lo hi mx:Option Operand}{b off:Nat}(hb:evV C fr x=some (.ptr b off))(H:Heap):zBq C fr H t x lo hi mx=match vrq C fr t lo hi mx b off (H.val b) with
  |some u=>some (u,H)
  |none=>none:=by
 unfold zBq vrq;rw[hb];cases C.ty t with
 |none=>rfl
 |some j=>
  cases hj:j.d<;>simp only[hj]
  rename_i n e;cases C.ty e with
  |none=>cases bndI C fr 0 lo<;>cases bndI C fr n hi<;>cases mx<;>cases H.val b<;>rfl
  |some k=>
   cases bndI C fr 0 lo with
   |none=>cases bndI C fr n hi<;>cases mx<;>cases H.val b<;>rfl
   |some l=>
    cases bndI C fr n hi with
    |none=>cases mx<;>cases H.val b<;>rfl
    |some r=>
     cases mx with
     |some _=>cases H.val b<;>rfl
     |none=>
      cases H.val b with
      |none=>rfl
      |some bv=>
       simp only;cases Nat.beq k.size 0||!Nat.ble l r||!Nat.ble r n||!Nat.ble (off+n*k.size) bv.size<;>rfl
theorem ev_load{b:Nat}{H1:Heap}(hp:zUq C fr o.type o.op=none)(ho:opV S C fr h o=some (v,h1))(he:evOf C fr H1 h1 o.op= .load b):
  (h1=h/\∀H2:Heap,H2.get b=h.get b->opV S C fr H2 o=some (v,H2))/\(∃B,h.get b=some B)/\∃x off,x∈o.op.operands/\evV C fr x=some (.ptr b off):=by
 unfold opV at ho⊢;simp only[hp] at ho⊢;unfold evOf at he;split at he
 ·rename_i t x hop;split at he
  ·rename_i b' off hb;cases he;rw[hop] at ho;simp only[hop];simp only[opH,zpq,zXq,zEq,zFq,yuq,zfq,zjq,zuq,z0q,zBq,zlq,zsq,zeq,zkq,zdq,zrq,zHq,zxq,zWq,hb] at ho⊢;cases ht:C.ty t with
   |none=>simp[ht,y9q,opJ] at ho
   |some i=>
    simp only[ht] at ho⊢;cases hv:h.val b with
    |none=>simp[hv,y9q,opJ] at ho
    |some u=>
     simp only[hv] at ho;cases hg:qwq 50 u off i.size i.agg with
     |none=>simp[hg,y9q,opJ] at ho
     |some r=>
      simp only[hg,Option.some.injEq,Prod.mk.injEq] at ho;obtain⟨rfl,rfl⟩:=ho;refine⟨⟨rfl,λH2 h2=>?_⟩,?_,_,off,by simp[Op.operands],hb⟩
      ·have:H2.val b=some u:=by unfold Heap.val at hv⊢;rw[h2];exact hv
       simp only[this,hg]
      ·unfold Heap.val at hv;cases hgb:h.get b with
       |none=>rw[hgb] at hv;cases hv
       |some B=>exact⟨B,rfl⟩
  ·cases he
 ·split at he<;>cases he
 ·repeat' (split at he)<;>first|(cases he;done)|skip
 ·cases he
 ·rename_i t x lo hi mx hop;split at he
  ·rename_i b' off hb;cases he;rw[hop] at ho;simp only[hop];have hx:x∈(Op.slice t x lo hi mx).operands:=by simp[Op.operands]
   have e1:∀H:Heap,opH C fr H (.slice t x lo hi mx)=match vrq C fr t lo hi mx b off (H.val b) with
     |some u=>some (u,H)
     |none=>none:=λH=>sliceP_eq hb H
   have e2:∀H:Heap,y9q S C fr H (.slice t x lo hi mx)=none:=λ_=>rfl
   rw[e1,e2] at ho;cases hu:vrq C fr t lo hi mx b off (h.val b) with
   |none=>rw[hu] at ho;cases ho
   |some u=>
    rw[hu] at ho;cases ho;refine⟨⟨rfl,λH2 h2=>?_⟩,?_,x,off,hx,hb⟩
    ·have h3:H2.val b=h.val b:=by simp only[Heap.val,h2]
     rw[e1,h3,hu]
    ·cases hv:h.get b with
     |none=>
      have:h.val b=none:=by simp only[Heap.val,hv]
      rw[this] at hu;rw[sliceP_none] at hu;cases hu
     |some B=>exact⟨B,rfl⟩
  ·split at he<;>cases he
 ·split at he
  ·cases he
  ·split at he<;>cases he
 ·split at he<;>cases he
theorem Zyq{b:Nat}{H1:Heap}(hp:zUq C fr o.type o.op=none)(ho:opV S C fr h o=some (v,h1))(he:evOf C fr H1 h1 o.op= .store b):
  (∃B B',h.get b=some B/\h1=h.put b B'/\∀H2:Heap,H2.get b=h.get b->opV S C fr H2 o=some (v,H2.put b B'))/\∃x off,x∈o.op.operands/\evV C fr x=some (.ptr b off):=by
 unfold opV at ho⊢;simp only[hp] at ho⊢;unfold evOf at he;split at he
 ·split at he<;>cases he
 ·rename_i t x y hop;split at he
  ·rename_i b' off hb;cases he;rw[hop] at ho;simp only[hop];simp only[opH,zpq,zXq,zEq,zFq,yuq,zfq,zjq,zuq,z0q,zBq,zlq,zsq,zeq,zkq,zdq,zrq,zHq,zxq,zWq,hb] at ho⊢;cases hy:evV C fr y with
   |none=>simp[hy,y9q,opJ] at ho
   |some u=>
    simp only[hy] at ho⊢;cases ht:C.ty t with
    |none=>simp[ht,y9q,opJ] at ho
    |some i=>
     simp only[ht] at ho⊢;cases hg:h.get b with
     |none=>simp[hg,y9q,opJ] at ho
     |some B=>
      simp only[hg] at ho⊢;cases B with
      |cells ty u'=>
       cases hz:Nat.beq u.size i.size with
       |false=>simp[hz,y9q,opJ] at ho
       |true=>
        simp only[hz] at ho⊢;cases hq:jIq 50 u' off u with
        |none=>simp[hq,y9q,opJ] at ho
        |some v'=>
         simp only[hq,Option.some.injEq,Prod.mk.injEq] at ho;obtain⟨rfl,rfl⟩:=ho;exact⟨⟨_,_,rfl,rfl,λH2 h2=>by simp only[h2,hq]⟩,_,off,by simp[Op.operands],hb⟩
      |_=>simp[y9q,opJ] at ho
  ·cases he
 ·repeat' (split at he)<;>first|(cases he;done)|skip
 ·cases he
 ·split at he
  ·cases he
  ·split at he<;>cases he
 ·split at he
  ·cases he
  ·split at he<;>cases he
 ·split at he<;>cases he
theorem ev_gen{H1:Heap}(he:evOf C fr H1 h1 o.op= .gen):H1.next<=h1.wmin:=by
 unfold evOf at he;split at he
 ·split at he<;>cases he
 ·split at he<;>cases he
 ·split at he
  ·rename_i hb;exact Zb hb
  ·repeat' (split at he)<;>first|(cases he;done)|skip
 ·cases he
 ·split at he
  ·cases he
  ·split at he
   ·rename_i hb;exact Zb hb
   ·cases he
 ·split at he
  ·rename_i hb;exact Zb hb
  ·split at he<;>cases he
 ·split at he
  ·rename_i hb;exact Zb hb
  ·cases he
theorem ev_mk{b:Nat}{H1:Heap}(hp:zUq C fr o.type o.op=none)(ho:opV S C fr h o=some (v,h1))(he:evOf C fr H1 h1 o.op= .mk b):b=H1.next/\∃B n k,v= .sl h.next 0 0 n k none/\h1=h.push B/\∀H2:Heap,H2.next=h.next->opV S C fr H2 o=some (v,H2.push B):=by
 unfold opV at ho⊢;simp only[hp] at ho⊢;unfold evOf at he;split at he
 ·split at he<;>cases he
 ·split at he<;>cases he
 ·repeat' (split at he)<;>first|(cases he;done)|skip
 ·rename_i t n ps hop;cases he;refine⟨rfl,?_⟩;rw[hop] at ho⊢;simp only[opH,y9q,opJ] at ho⊢;split at ho
  ·rename_i r hr;cases ho;unfold zfq at hr⊢;split at hr
   ·rename_i i hi;split at hr
    ·rename_i e hd;split at hr
     ·rename_i k hk;split at hr
      ·cases hr
      ·rename_i hz;split at hr
       ·rename_i u hu;cases hr;exact⟨_,_,_,rfl,rfl,λH2 h2=>by simp only[hi,hd,hk,hz,hu,h2]⟩
       ·cases hr
     ·cases hr
    ·cases hr
   ·cases hr
  ·cases ho
 ·split at he
  ·cases he
  ·split at he<;>cases he
 ·split at he
  ·cases he
  ·split at he<;>cases he
 ·split at he<;>cases he
theorem app_keep{ts tx:TypeId}{b base off len esz:Nat}{lim:Option Nat}{x v:V}{h h1:Heap}(ha:jDq C h ts tx (.sl b base off len esz lim) x=some (v,h1)){i:Nat}(hi:i≠b)(hlt:i<h.next):h1.get i=h.get i:=by
 have hpush:∀B,(h.push B).get i=h.get i:=λB=>by rw[Heap.get_push,if_neg Xa]
 unfold jDq at ha;repeat' (split at ha)
 all_goals first|(cases ha;done)|skip
 all_goals first
  |(cases ha;rfl)
  |(cases ha;exact hpush _)
  |(cases ha;rw[Heap.get_put,if_neg];exact λe=>hi (by simp_all))
  |(cases ha;rw[Heap.get_kill,if_neg];exact hpush _;exact λe=>hi (by simp_all))
  |simp_all
theorem ev_upd(hS:SelfOK P C S){b:Nat}{H1:Heap}(hp:zUq C fr o.type o.op=none)(ho:opV S C fr {H1 with wmin:=H1.next} o=some (v,h1))(he:evOf C fr H1 h1 o.op= .upd b){i:Nat}(hi:i≠b)(hlt:i<H1.next):h1.get i=H1.get i:=by
 have hm:=k4q hS ho;unfold opV at ho;simp only[hp] at ho;unfold evOf at he;split at he
 ·split at he<;>cases he
 ·split at he<;>cases he
 ·rename_i xs ats hop;rw[hop] at ho;split at he
  ·cases he
  ·split at he
   ·rename_i x y hxs;split at he
    ·rename_i b' base off len esz lim hb;cases he;simp only[opH,zuq] at ho;split at ho
     ·rename_i r hr;cases ho;split at hr
      ·rename_i x' y' ts tx h1' h2';rw[hxs] at h1';cases h1';split at hr
       ·rename_i s u hs hu;rw[hb] at hs;cases hs;exact app_keep hr hi hlt
       ·cases hr
      ·cases hr
     ·simp[y9q,opJ,jQq,hxs,hb] at ho;repeat' (split at ho)
      all_goals simp_all
    ·cases he
   ·cases he
 ·cases he
 ·split at he
  ·cases he
  ·split at he<;>cases he
 ·split at he
  ·cases he
  ·split at he
   ·rename_i hone;cases he;rcases Nat.lt_or_ge i h1.wmin with h3|h3
    ·exact hm.keep i hlt h3
    ·exact oneAt_of hone Xa hlt
   ·cases he
 ·split at he<;>cases he
theorem mono_wmin{n:Nat}(m1:Mono {h with wmin:=h.next} h1)(hn:n<=h.wmin)(hm:n<=h1.wmin):Mono h {h1 with wmin:=n}:=
 ⟨m1.nxt,λhw=>m1.wf hw,hn,λi hi hj=>m1.keep i hi (Nat.lt_of_lt_of_le hj hm)⟩
theorem StepAt.mono(hS:SelfOK P C S)(st:StepAt S C ops o fr h v h' x):Mono h h':=by
 rcases st with ⟨_,_,rfl,_⟩|⟨_,st⟩
 ·exact Mono.refl _
 ·rcases yIq st with ⟨_,rfl,_⟩|⟨h1,_,ho,rfl,_⟩
  ·exact Mono.refl _
  ·have:=Zlq h.wmin h1.wmin;exact mono_wmin (k4q hS ho) this.1 this.2
noncomputable def Tch(x:Option Ev)(n n' i:Nat):Prop:=(n<=i/\i<n')\/x=some (.store i)\/((x=some .dirty\/x=some (.upd i))/\i<n)
theorem StepAt.load{b:Nat}(st:StepAt S C ops o fr h v h' (some (.load b))):h'.next=h.next:=by
 rcases st with ⟨_,_,_,hx⟩|⟨_,st⟩
 ·cases hx
 ·rcases yIq st with ⟨_,_,hx⟩|⟨h1,hp,ho,rfl,hx⟩
  ·cases hx
  ·obtain⟨⟨e,_⟩,_⟩:=ev_load hp ho Xn;rw[e]
theorem StepAt.store{b:Nat}(st:StepAt S C ops o fr h v h' (some (.store b))):h'.next=h.next/\∃B,h.get b=some B:=by
 rcases st with ⟨_,_,_,hx⟩|⟨_,st⟩
 ·cases hx
 ·rcases yIq st with ⟨_,_,hx⟩|⟨h1,hp,ho,rfl,hx⟩
  ·cases hx
  ·obtain⟨⟨B,B',e1,e2,_⟩,_⟩:=Zyq hp ho Xn;exact⟨by rw[e2];rfl,B,e1⟩
theorem StepAt.mk{b:Nat}(st:StepAt S C ops o fr h v h' (some (.mk b))):b=h.next/\h'.next=h.next+1:=by
 rcases st with ⟨_,_,_,hx⟩|⟨_,st⟩
 ·cases hx
 ·rcases yIq st with ⟨_,_,hx⟩|⟨h1,hp,ho,rfl,hx⟩
  ·cases hx
  ·obtain⟨e1,B,n,k,_,e2,_⟩:=ev_mk hp ho Xn;exact⟨e1,by rw[e2];rfl⟩
theorem StepAt.still(st:StepAt S C ops o fr h v h' none):h'=h:=by
 rcases st with ⟨_,_,hx,_⟩|⟨_,st⟩
 ·exact hx
 ·rcases yIq st with ⟨_,hx,_⟩|⟨h1,_,_,_,hx⟩
  ·exact hx
  ·cases hx
theorem StepAt.keep(hS:SelfOK P C S)(st:StepAt S C ops o fr h v h' x)(hwf:∀i,h.next<=i->h.get i=none){i:Nat}(hi:¬Tch x h.next h'.next i):h'.get i=h.get i:=by
 have hm:=st.mono hS;by_cases hge:h'.next<=i
 ·rw[hm.wf hwf i hge,hwf i (Nat.le_trans hm.nxt hge)]
 ·have hlt:i<h.next:=by
   rcases Nat.lt_or_ge i h.next with h2|h2
   ·exact h2
   ·exact absurd (.inl ⟨h2,by omega⟩) hi
  rcases st with ⟨_,_,rfl,_⟩|⟨_,st⟩
  ·rfl
  ·rcases yIq st with ⟨_,rfl,_⟩|⟨h1,hp,ho,rfl,hx⟩
   ·rfl
   ·cases he:evOf C fr h h1 o.op with
    |load b=>obtain⟨⟨e,_⟩,_⟩:=ev_load hp ho he;rw[e];rfl
    |store b=>
     obtain⟨⟨B,B',_,e,_⟩,_⟩:=Zyq hp ho he;rw[e];show(Heap.put {h with wmin:=h.next} b B').get i=h.get i;rw[Heap.get_put,if_neg]
     ·rfl
     ·rintro rfl;exact hi (.inr (.inl (by rw[hx,he])))
    |gen=>exact(k4q hS ho).keep i hlt (Nat.lt_of_lt_of_le hlt (ev_gen he))
    |mk b=>
     obtain⟨_,B,n,k,_,rfl,_⟩:=ev_mk hp ho he;show(Heap.push {h with wmin:=h.next} B).get i=_;rw[Heap.get_push,if_neg (by show i≠h.next;omega)];rfl
    |dirty=>exact absurd (.inr (.inr ⟨.inl (by rw[hx,he]),hlt⟩)) hi
    |upd b=>
     by_cases hib:i=b
     ·exact absurd (.inr (.inr ⟨.inr (by rw[hx,he,hib]),hlt⟩)) hi
     ·exact ev_upd hS hp ho he hib hlt
theorem quq{listed:Array Bool}(hcl:∀(k:Nat) (o:Oper) (e:Edge),ops[k]? =some o->listed[k]? =some true->e∈o.after->Region.binds .any e=true->listed[e.on]? =some true):
  ∀(f j k:Nat),yKq ops f j k=true->(∀o e,ops[j]? =some o->e∈o.after->Region.binds .any e=true->listed[e.on]? =some true) ->listed[k]? =some true
 |0,_,_,h,_=>by simp[yKq] at h
 |f+1,j,k,h,hj=>by
  simp only[yKq] at h;split at h
  ·cases h
  ·rename_i o ho;simp only[Array.any_eq_true',Bool.and_eq_true,Bool.or_eq_true] at h;obtain⟨e,he,hb,h⟩:=h;have hl:=hj o e ho he hb;rcases h with h|h
   ·rw[<-Nat.eq_of_beq_eq_true h];exact hl
   ·exact quq hcl f e.on k h λo' e' ho' he' hb'=>hcl e.on o' e' ho' hl he' hb'
end
theorem Nxt.ext{D0 D D':Nat->Prop}{ρ0 ρ ρ':Env}{h0 hn hj h1:Heap}{w0 w w':World}{U:Nat}(hl0:∀i,D0 i->i<h0.next\/U<=i)(a:Nxt D0 ρ0 h0 w0 D ρ hn w)(b:Nxt D ρ hj w D' ρ' h1 w')(hU:hn.next<=U)(h0j:h0.next<=hj.next)(h1n:h1.next<=hn.next)
  (hw:hn.wmin<=h1.wmin) (hD:∀i,D i->¬(hj.next<=i/\i<h1.next)):Nxt D0 ρ0 h0 w0 D' ρ' hn w':=by
 have hb:=b.nxt;have env:∀i,D i->ρ'.b i=ρ.b i:=λi hi=>(b.env i (by have:=hD i hi;omega)).1
 have old:∀j,D j->h1.wmin<=j->j<hj.next->w0.heap.size<=ρ.b j\/∃k,D0 k/\hn.wmin<=k/\k<h0.next/\ρ0.b k=ρ.b j:=λj hj hwj hlt=>by
  rcases a.new j hj with h|⟨h,h'⟩
  ·rcases hl0 j h with h3|h3
   ·exact .inr ⟨j,h,Nat.le_trans hw hwj,h3,(a.env j (.inl h3)).1.symm⟩
   ·omega
  ·exact a.fresh j hj h h'
 refine⟨λi hi=>b.sub i (a.sub i hi),λi hi=>?_,λi hi=>?_,λc hc hno=>?_,λi hi hn' hlt=>?_,Nat.le_trans a.size b.size,a.wmin,a.nxt,b.os.trans a.os,b.tape.trans a.tape,b.output.trans a.output⟩
 ·rcases b.new i hi with h|⟨h,h'⟩
  ·exact a.new i h
  ·exact .inr ⟨by omega,by omega⟩
 ·obtain⟨g1,g2,g3,g4⟩:=a.env i hi;obtain⟨k1,k2,k3,k4⟩:=b.env i Xa;exact⟨k1.trans g1,k2.trans g2,k3.trans g3,k4.trans g4⟩
 ·rw[b.frame c (Nat.lt_of_lt_of_le hc a.size) λi hi hwi hlt e=>?_]
  ·exact a.frame c hc hno
  ·rcases old i hi hwi hlt with h|⟨k,k1,k2,k3,k4⟩
   ·omega
   ·exact hno k k1 k2 k3 (k4.trans e)
 ·rcases b.new i hi with h|⟨h,h'⟩
  ·rw[env i h];exact a.fresh i h hn' hlt
  ·rcases b.fresh i hi h h' with h2|⟨j,j1,j2,j3,j4⟩
   ·exact .inl (Nat.le_trans a.size h2)
   ·rw[<-j4];exact old j j1 j2 j3
theorem Rel.on{s0:World}{U U':Nat}{D:Nat->Prop}{ρ:Env}{h h':Heap}{w:World}(r:Rel s0 U D ρ h w)(hl:∀i,D i->i<h'.next\/U'<=i)(hwf:∀i,h'.next<=i->h'.get i=none)(hg:∀i b,D i->h'.get i=some b->h.get i=some b):Rel s0 U' D ρ h' w:=
 ⟨hl,hwf,λi b hi hb=>r.has i b hi (hg i b hi hb),λi b hi hb=>r.clo i b hi (hg i b hi hb),λi j b c hi hj hb hc=>r.inj i j b c hi hj (hg i b hi hb) (hg j c hj hc),λi b hi hb=>r.own i b hi (hg i b hi hb),λi j b c hi hj hb hc=>r.old i j b c hi hj (hg i b hi hb) (hg j c hj hc),r.base⟩
structure FCtx(P:Program)(C:Cfg)(S:Self)(U N:Nat)(ops:Array Oper)(frs:Nat->Tr V)(hs:Nat->Heap)(vs:Nat->V)(xs:Nat->Option Ev):Prop where
 hC:CfgOK P C
 hS:SelfOK P C S
 hB:flowB N ops.toList ops.size=true
 st:∀(j:Nat) (o:Oper),ops[j]? =some o->StepAt S C ops o (frs j) (hs j) (vs j) (hs (j+1)) (xs j)/\frs (j+1)=putT (frs j) o.dst (vs j)
 cl:∀(j k:Nat) (x y:Ev),j<ops.size->k<j->xs j=some x->xs k=some y->y.clash x=true->yKq ops ops.size j k=true
 wf0:∀i,(hs 0).next<=i->(hs 0).get i=none
 hU:(hs ops.size).next<=U
structure FInv(C:Cfg)(s0:World)(U N:Nat)(X:List Deferred)(ops:Array Oper)(frs:Nat->Tr V)(hs:Nat->Heap)(vs:Nat->V)(xs:Nat->Option Ev)(D0:Nat->Prop)(ρ0:Env)(w0:World)(listed:Array Bool)(a:Act)(w:World)(D:Nat->Prop)(ρ:Env)(H:Heap):Prop where
 size:listed.size=ops.size
 asz:a.tmps.size=N
 adf:a.defers=X
 closed:∀(k:Nat) (o:Oper) (e:Edge),ops[k]? =some o->listed[k]? =some true->e∈o.after->Region.binds .any e=true->listed[e.on]? =some true
 next:H.next=(hs ops.size).next
 wmin:H.wmin=(hs ops.size).wmin
 char:∀i,D i->D0 i\/∃k:Nat,listed[k]? =some true/\(hs k).next<=i/\i<(hs (k+1)).next
 lt0:∀i,D0 i->i<(hs 0).next\/U<=i
 cont:∀i,D i->∀p,p<=ops.size->(∀k,k<p->Tch (xs k) (hs k).next (hs (k+1)).next i->listed[k]? =some true) ->(∀k,p<=k->k<ops.size->Tch (xs k) (hs k).next (hs (k+1)).next i->listed[k]? =some false) ->H.get i=(hs p).get i
 rel:Rel s0 U D ρ H w
 nxt:Nxt D0 ρ0 (hs 0) w0 D ρ (hs ops.size) w
 got:∀(k:Nat) (o:Oper) (t:Nat),ops[k]? =some o->listed[k]? =some true->o.dst=some t->a.tmps[t]? =some (conc ρ (vs k))/\InD (DD D ρ) (vs k)
 base:∀t v,(∀(k:Nat) (o:Oper),ops[k]? =some o->o.dst=some t->listed[k]? =some false) ->(frs 0).get t=some v->a.tmps[t]? =some (conc ρ v)/\InD (DD D ρ) v
 gl:GlobOK C (DD D ρ) ρ
section
variable {P:Program} {C:Cfg} {S:Self} {s0:World} {U N:Nat} {X:List Deferred} {ops:Array Oper} {frs:Nat->Tr V} {hs:Nat->Heap} {vs:Nat->V} {xs:Nat->Option Ev} {D0:Nat->Prop} {ρ0:Env} {w0:World} {listed:Array Bool} {a:Act} {w:World} {D:Nat->Prop} {ρ:Env} {H:Heap}
theorem FCtx.at_{j:Nat}(_:FCtx P C S U N ops frs hs vs xs)(hj:j<ops.size):∃o,ops[j]? =some o:=⟨_,Array.getElem?_eq_getElem hj⟩
theorem FCtx.mono(c:FCtx P C S U N ops frs hs vs xs){j:Nat}:∀(d:Nat),j+d<=ops.size->Mono (hs j) (hs (j+d))
 |0,_=>Mono.refl _
 |d+1,h=>by
  obtain⟨o,ho⟩:=c.at_ (show j+d<ops.size by omega);exact(c.mono d Xa).trans ((c.st _ o ho).1.mono c.hS)
theorem FCtx.monoLe(c:FCtx P C S U N ops frs hs vs xs){j k:Nat}(h1:j<=k)(h2:k<=ops.size):Mono (hs j) (hs k):=by
 have:=c.mono (j:=j) (k-j) Xa;rwa[show j+(k-j)=k by omega] at this
theorem FCtx.wf(c:FCtx P C S U N ops frs hs vs xs){j:Nat}(h:j<=ops.size):∀i,(hs j).next<=i->(hs j).get i=none:=(c.monoLe (Nat.zero_le j) h).wf c.wf0
theorem FCtx.keep(c:FCtx P C S U N ops frs hs vs xs){j i:Nat}:∀(d:Nat),j+d<=ops.size->(∀k,j<=k->k<j+d->¬Tch (xs k) (hs k).next (hs (k+1)).next i) ->(hs (j+d)).get i=(hs j).get i
 |0,_,_=>rfl
 |d+1,h,hn=>by
  obtain⟨o,ho⟩:=c.at_ (show j+d<ops.size by omega);exact((c.st _ o ho).1.keep c.hS (c.wf Xa) (hn (j+d) Xa Xa)).trans (c.keep d Xa λk h1 h2=>hn k h1 Xa)
theorem FCtx.tch_ev(c:FCtx P C S U N ops frs hs vs xs){k i:Nat}(hk:k<ops.size)(ht:Tch (xs k) (hs k).next (hs (k+1)).next i):
  i<(hs (k+1)).next/\∃x,xs k=some x/\(∀b,x≠ .load b)/\((i<(hs k).next/\(x= .store i\/x= .dirty\/x= .upd i))\/(hs k).next<=i):=by
 obtain⟨o,ho⟩:=c.at_ hk;have st:=(c.st _ o ho).1;have hm:=(st.mono c.hS).nxt;rcases ht with ⟨h1,h2⟩|h|⟨h|h,h1⟩
 ·refine⟨h2,?_⟩;cases hx:xs k with
  |none=>rw[hx] at st;rw[st.still] at h2;omega
  |some x=>
   refine⟨x,rfl,λb e=>?_,.inr h1⟩;rw[hx,e] at st;rw[st.load] at h2;omega
 ·have st':=st;rw[h] at st';obtain⟨e,B,hB⟩:=st'.store
  have hlt:i<(hs k).next:=by
   rcases Nat.lt_or_ge i (hs k).next with h'|h'
   ·exact h'
   ·rw[c.wf Xa i h'] at hB;cases hB
  exact⟨by omega,_,h,λb e=>(by cases e),.inl ⟨hlt,.inl rfl⟩⟩
 ·exact⟨by omega,_,h,λb e=>(by cases e),.inl ⟨h1,.inr (.inl rfl)⟩⟩
 ·exact⟨by omega,_,h,λb e=>(by cases e),.inl ⟨h1,.inr (.inr rfl)⟩⟩
noncomputable def Reads(x:Ev)(i:Nat):Prop:=match x with
 |.load b=>i=b
 |.store b=>i=b
 |.gen=>True
 |.dirty=>True
 |.upd _=>True
 |.mk _=>False
theorem yOq{x y:Ev}{i:Nat}(hr:Reads x i)(hy:y= .store i\/y= .dirty\/y= .upd i):y.clash x=true/\x.clash y=true:=by
 rcases hy with rfl|rfl|rfl<;>cases x<;>simp_all[Ev.clash,Reads]
theorem FInv.now(c:FCtx P C S U N ops frs hs vs xs)(inv:FInv C s0 U N X ops frs hs vs xs D0 ρ0 w0 listed a w D ρ H){j:Nat}{o:Oper}{x:Ev}{i:Nat}(hj:ops[j]? =some o)(hjf:listed[j]? =some false)
  (hed:∀e∈o.after,Region.binds .any e=true->listed[e.on]? =some true) (hx:xs j=some x) (hr:Reads x i) (hi:D i) (hlt:i<(hs j).next):H.get i=(hs j).get i:=by
 have hjs:=(Array.getElem?_eq_some_iff.1 hj).1
 have hreach:∀k,yKq ops ops.size j k=true->listed[k]? =some true:=λk hk=>quq inv.closed _ j k hk λo' e ho' he hb=>by
  rw[hj] at ho';cases ho';exact hed e he hb
 refine inv.cont i hi j Xa (λk hk ht=>?_) λk hk hks ht=>?_
 ·obtain⟨q1,y,q2,q3,q4⟩:=c.tch_ev Xa ht;rcases q4 with ⟨_,hy⟩|hge
  ·exact hreach k (c.cl j k x y hjs hk hx q2 (yOq hr hy).1)
  ·rcases inv.char i hi with h|⟨k',hk',g1,g2⟩
   ·have:=inv.lt0 i h;have h1:=(c.monoLe (Nat.zero_le k) Xa).nxt;have h2:=(c.monoLe (show j<=ops.size by omega) (Nat.le_refl _)).nxt;have h3:=c.hU;omega
   ·have hk's:k'<ops.size:=by rw[<-inv.size];exact(Array.getElem?_eq_some_iff.1 hk').1
    have:k'=k:=by
     rcases Nat.lt_trichotomy k' k with h|h|h
     ·have:=(c.monoLe (show k'+1<=k by omega) Xa).nxt;omega
     ·exact h
     ·have:=(c.monoLe (show k+1<=k' by omega) Xa).nxt;omega
    rw[<-this];exact hk'
 ·by_cases e:k=j
  ·rw[e];exact hjf
  ·obtain⟨q1,y,q2,q3,q4⟩:=c.tch_ev hks ht;have hjk:=(c.monoLe (show j<=k by omega) Xa).nxt;rcases q4 with ⟨_,hy⟩|hge
   ·have hreach:=c.cl k j y x hks Xa q2 hx (yOq hr hy).2;have hks':k<listed.size:=by rw[inv.size];exact hks
    cases hv:listed[k] with
    |false=>rw[Array.getElem?_eq_getElem hks',hv]
    |true=>
     have hl:listed[k]? =some true:=by rw[Array.getElem?_eq_getElem hks',hv]
     have:=quq inv.closed _ k j hreach λo' e ho' he hb=>inv.closed k o' e ho' hl he hb
     rw[hjf] at this;cases this
   ·omega
theorem FCtx.frs_get(c:FCtx P C S U N ops frs hs vs xs)(t:Nat):∀j,j<=ops.size->(∃(k:Nat) (o:Oper),k<j/\ops[k]? =some o/\o.dst=some t/\(frs j).get t=some (vs k))\/((∀(k:Nat) (o:Oper),k<j->ops[k]? =some o->o.dst≠some t)/\(frs j).get t=(frs 0).get t)
 |0,_=>.inr ⟨λk o hk=>by omega,rfl⟩
 | j +1,h=>by
  obtain⟨o,ho⟩:=c.at_ (show j<ops.size by omega);have e:=(c.st j o ho).2;by_cases hd:o.dst=some t
  ·exact .inl ⟨j,o,by omega,ho,hd,by rw[e,hd];simp[putT,Tr.get_set]⟩
  ·have e2:(frs (j+1)).get t=(frs j).get t:=by
    rw[e];cases hd':o.dst with
    |none=>rfl
    |some u=>
     simp only[putT,Tr.get_set];rw[if_neg];rintro rfl;exact hd hd'
   rw[e2];rcases c.frs_get t j Xa with ⟨k,p,h1,h2,h3,h4⟩|⟨h1,h2⟩
   ·exact .inl ⟨k,p,by omega,h2,h3,h4⟩
   ·refine .inr ⟨λk p hk hp=>?_,h2⟩;by_cases hkj:k=j
    ·subst hkj;rw[ho] at hp;cases hp;exact hd
    ·exact h1 k p Xa hp
theorem FInv.fr(c:FCtx P C S U N ops frs hs vs xs)(inv:FInv C s0 U N X ops frs hs vs xs D0 ρ0 w0 listed a w D ρ H){j:Nat}{o:Oper}(hj:ops[j]? =some o)(hjf:listed[j]? =some false)
  (hed:∀e∈o.after,Region.binds .any e=true->listed[e.on]? =some true):∃fc:Tr V,(∀t∈o.looksAt ops,fc.get t=(frs j).get t)/\FrE C D ρ fc a:=by
 have hjs:=(Array.getElem?_eq_some_iff.1 hj).1;obtain⟨fc,hfc⟩:=(frs j).cut (o.looksAt ops);refine⟨fc,λt ht=>by rw[hfc,if_pos ht],?_⟩;obtain⟨_,_,_,hpre,_⟩:=xbq c.hB hj
 have key:∀t v,fc.get t=some v->a.tmps[t]? =some (conc ρ v)/\InD (DD D ρ) v:=λt v hv=>by
  rw[hfc] at hv;split at hv
  ·rename_i ht;rcases c.frs_get t j Xa with ⟨k,p,h1,h2,h3,h4⟩|⟨h1,h2⟩
   ·rw[h4] at hv;cases hv
    rcases(hpre hjs k p t Xa h2 h3).2 ht with h|h
    ·omega
    ·rw[if_pos h1] at h;obtain⟨e,he,hb,heq⟩:=uWq h;have:=hed e he hb;rw[heq] at this;exact inv.got k p t h2 this h3
   ·rw [h2] at hv;refine inv.base t v (λk p hp hpd=>?_) hv;have hks:=(Array.getElem?_eq_some_iff.1 hp).1;have hks':k<listed.size:=by rw[inv.size];exact hks
    rcases Nat.lt_trichotomy k j with h|h|h
    ·exact absurd hpd (h1 k p h hp)
    ·rw[h];exact hjf
    ·rcases(hpre hjs k p t hks hp hpd).2 ht with h'|h'
     ·omega
     ·rw[if_neg Xa] at h';obtain⟨e,he,hb,heq⟩:=uWq h';rw[Array.getElem?_eq_getElem hks'];congr 1
      cases hv':listed[k] with
      |false=>rfl
      |true=>
       have:=inv.closed k p e hp (by rw[Array.getElem?_eq_getElem hks',hv']) he hb;rw[heq,hjf] at this;cases this
  ·cases hv
 exact⟨⟨λt v hv=>(key t v hv).1,λt v hv=>(key t v hv).2,inv.gl⟩⟩
theorem FInv.upd(c:FCtx P C S U N ops frs hs vs xs)(inv:FInv C s0 U N X ops frs hs vs xs D0 ρ0 w0 listed a w D ρ H){j:Nat}{o:Oper}(hj:ops[j]? =some o)(hjf:listed[j]? =some false)
  (hed:∀e∈o.after,Region.binds .any e=true->listed[e.on]? =some true) {D':Nat->Prop} {ρ':Env} {H':Heap} {w':World} (hchar:∀i,D' i->D i\/((hs j).next<=i/\i<(hs (j+1)).next)) (hnext:H'.next=(hs ops.size).next) (hwmin:H'.wmin=(hs ops.size).wmin)
  (hkeep:∀i,D' i->¬Tch (xs j) (hs j).next (hs (j+1)).next i->H'.get i=H.get i) (hnew:∀i,D' i->Tch (xs j) (hs j).next (hs (j+1)).next i->H'.get i=(hs (j+1)).get i)
  (rel':Rel s0 U D' ρ' H' w') (nxt':Nxt D0 ρ0 (hs 0) w0 D' ρ' (hs ops.size) w') (ag:Env.Agree (DD D ρ) ρ ρ') (dd:∀i m,DD D ρ i m->DD D' ρ' i m) (hv:InD (DD D' ρ') (vs j)):
  FInv C s0 U N X ops frs hs vs xs D0 ρ0 w0 (listed.setIfInBounds j true) (a.put o.dst (conc ρ' (vs j))) w' D' ρ' H':=by
 have hjs:=(Array.getElem?_eq_some_iff.1 hj).1;obtain⟨_,hdst,_,hpre,_⟩:=xbq c.hB hj;have hjls:j<listed.size:=by rw[inv.size];exact hjs
 have hset:∀k:Nat,(listed.setIfInBounds j true)[k]? =if j=k then some true else listed[k]? :=λk=>by
  rw[Array.getElem?_setIfInBounds];split
  ·rename_i e;subst e;simp
  ·rfl
 refine⟨by simp[inv.size],by cases o.dst<;>simp[Act.put,inv.asz],by cases o.dst<;>simp[Act.put,inv.adf],?_,hnext,hwmin,?_,inv.lt0,?_,rel',nxt',?_,?_,?_⟩
 ·intro k p e hp hlk he hbe;rw[hset] at hlk;rw[hset];split
  ·rfl
  ·split at hlk
   ·rename_i e';subst e'
    rw[hj] at hp;cases hp
    exact hed e he hbe
   ·exact inv.closed k p e hp hlk he hbe
 ·intro i hi;rcases hchar i hi with h|h
  ·rcases inv.char i h with h|⟨k,hk,h⟩
   ·exact .inl h
   ·refine .inr ⟨k,?_,h⟩;rw[hset];split
    ·rfl
    ·exact hk
  ·exact .inr ⟨j,by rw[hset,if_pos rfl],h⟩
 ·intro i hi p hp h1 h2;by_cases ht:Tch (xs j) (hs j).next (hs (j+1)).next i
  ·have hpj:j<p:=by
    rcases Nat.lt_or_ge j p with h|h
    ·exact h
    ·have:=h2 j h hjs ht;rw[hset,if_pos rfl] at this;cases this
   rw[hnew i hi ht]
   have:=c.keep (j:=j+1) (i:=i) (p-(j+1)) Xa λk hk1 hk2 htk=>by
    have hks:k<ops.size:=by omega
    have hl:=h1 k Xa htk;rw[hset,if_neg Xa] at hl;obtain⟨q1,x,qx,q3,q4⟩:=c.tch_ev hjs ht;obtain⟨r1,y,ry,r3,r4⟩:=c.tch_ev hks htk;have hjk:=(c.monoLe (show j+1<=k by omega) Xa).nxt
    have hy:y= .store i\/y= .dirty\/y= .upd i:=by
     rcases r4 with ⟨_,h⟩|h
     ·exact h
     ·omega
    have hcl:x.clash y=true:=by
     rcases q4 with ⟨_,h⟩|h
     ·rcases h with rfl|rfl|rfl
      ·exact(yOq (x:=.store i) rfl hy).2
      ·exact(yOq (x:=.dirty) (i:=i) trivial hy).2
      ·exact(yOq (x:=.upd i) (i:=i) trivial hy).2
     ·cases x with
      |load b=>exact absurd rfl (q3 b)
      |store b=>
       exfalso
       have:=(c.st j o hj).1;rw[qx] at this;have:=this.store.1;omega
      |gen=>exact(yOq (x:=.gen) (i:=i) trivial hy).2
      |mk b=>
       have:=(c.st j o hj).1;rw[qx] at this;obtain⟨e1,e2⟩:=this.mk;obtain rfl:i=b:=by omega
       rcases hy with rfl|rfl|rfl
       ·exact Nat.beq_refl _
       ·rfl
       ·rfl
      |dirty=>exact(yOq (x:=.dirty) (i:=i) trivial hy).2
      |upd b=>exact(yOq (x:=.upd b) (i:=i) trivial hy).2
    have:=quq inv.closed _ k j (c.cl k j y x hks Xa ry qx hcl) λo' e ho' he hb=>inv.closed k o' e ho' hl he hb
    rw[hjf] at this;cases this
   rw[show j+1+(p-(j+1))=p by omega] at this;exact this.symm
  ·rw[hkeep i hi ht]
   have hi':D i:=by
    rcases hchar i hi with h|h
    ·exact h
    ·exact absurd (.inl h) ht
   refine inv.cont i hi' p hp (λk hk htk=>?_) λk hk hks htk=>?_
   ·have:=h1 k hk htk;rw[hset,if_neg] at this
    ·exact this
    ·rintro rfl;exact ht htk
   ·have:=h2 k hk hks htk;rw[hset] at this;split at this
    ·cases this
    ·exact this
 ·intro k p t hp hlk hpd;rw[hset] at hlk;by_cases e:j=k
  ·subst e;rw[hj] at hp;cases hp
   have ht:t<N:=by rw[hpd] at hdst;simpa[uYq] using hdst
   exact⟨by simp[hpd,Act.put,inv.asz,ht],hv⟩
  ·rw[if_neg e] at hlk;obtain⟨g1,g2⟩:=inv.got k p t hp hlk hpd;have hks:=(Array.getElem?_eq_some_iff.1 hp).1;refine⟨?_,g2.mono dd⟩;rw[ypq ag g2]
   have hne:o.dst≠some t:=by
    rcases(hpre hjs k p t hks hp hpd).1 with h|h
    ·exact absurd h.symm e
    ·exact h
   cases hd:o.dst with
   |none=>exact g1
   |some u=>
    rw[hd] at hne;simp only[Act.put,Array.getElem?_setIfInBounds];rw[if_neg (λe'=>hne (by rw[e']))];exact g1
 ·intro t v hno hv'
  have hne:o.dst≠some t:=λh=>by
   have:=hno j o hj h;rw[hset,if_pos rfl] at this;cases this
  obtain⟨g1,g2⟩:=inv.base t v (λk p hp hpd=>by
   have:=hno k p hp hpd;rw[hset] at this;split at this
   ·cases this
   ·exact this) hv'
  refine⟨?_,g2.mono dd⟩;rw[ypq ag g2];cases hd:o.dst with
  |none=>exact g1
  |some u=>
   rw[hd] at hne;simp only[Act.put,Array.getElem?_setIfInBounds];rw[if_neg (λe'=>hne (by rw[e']))];exact g1
 ·intro i hi;obtain⟨h1,h2,h3⟩:=inv.gl i hi;obtain⟨e1,e2,_⟩:=ag i 0 h1;exact⟨dd i 0 h1,e1.trans h2,e2.trans h3⟩
end
section
variable {P:Program} {C:Cfg} {S:Self} {s0:World} {U N:Nat} {X:List Deferred} {ops:Array Oper} {frs:Nat->Tr V} {hs:Nat->Heap} {vs:Nat->V} {xs:Nat->Option Ev} {D0:Nat->Prop} {ρ0:Env} {w0:World} {listed:Array Bool} {a:Act} {w:World} {D:Nat->Prop} {ρ:Env} {H:Heap}
theorem FInv.here(c:FCtx P C S U N ops frs hs vs xs)(inv:FInv C s0 U N X ops frs hs vs xs D0 ρ0 w0 listed a w D ρ H){j:Nat}{o:Oper}(hj:ops[j]? =some o)(hjf:listed[j]? =some false)
  (hed:∀e∈o.after,Region.binds .any e=true->listed[e.on]? =some true) {fc:Tr V} (g:FrE C D ρ fc a) {H1:Heap} (ho:opV S C fc H o=some (vs j,H1)) (hn:H1.next=H.next) (hw:(hs ops.size).wmin<=H1.wmin)
  (hnn:(hs (j+1)).next=(hs j).next) (hkeep:∀i,D i->¬Tch (xs j) (hs j).next (hs (j+1)).next i->H1.get i=H.get i) (hnew:∀i,D i->Tch (xs j) (hs j).next (hs (j+1)).next i->H1.get i=(hs (j+1)).get i)
  {r:Option Nat} {K:Act->World->Prop} {Q:Exit->Act->World->Prop} (hK:∀w' D' ρ' H',FInv C s0 U N X ops frs hs vs xs D0 ρ0 w0 (listed.setIfInBounds j true) (a.put o.dst (conc ρ' (vs j))) w' D' ρ' H'->K (a.put o.dst (conc ρ' (vs j))) w'):o.wpIn (FF r) 0 P a w K Q:=by
 have hjs:=(Array.getElem?_eq_some_iff.1 hj).1;obtain⟨hnd,_⟩:=xbq c.hB hj;have hU:H1.next<=U:=by rw[hn,inv.next];exact c.hU
 refine uBq c.hC c.hS hnd ho hU g inv.rel λD' ρ' w' rel1 nxt1 in1=>?_
 have hD':∀i,D' i->D i:=λi hi=>by
  rcases nxt1.new i hi with h|⟨h,h'⟩
  ·exact h
  ·rw[hn] at h';omega
 have m0:=(c.monoLe (Nat.zero_le ops.size) (Nat.le_refl _)).nxt;refine hK w' D' ρ' {H1 with next:=(hs ops.size).next,wmin:=(hs ops.size).wmin} (inv.upd c hj hjf hed (λi hi=>.inl (hD' i hi)) Z Z (λi hi=>hkeep i (hD' i hi)) (λi hi=>hnew i (hD' i hi)) ?_ ?_ (nxt1.agree inv.rel.lt hU) (nxt1.dd inv.rel.lt hU) in1)
 ·exact rel1.on (λi hi=>by
   have h1:=rel1.lt i hi;have h2:=inv.next;show i<(hs ops.size).next\/U<=i;omega) (λi hi=>rel1.wf i (by rw[hn,inv.next];exact hi)) λi b _ hb=>hb
 ·exact Nxt.ext inv.lt0 inv.nxt nxt1 c.hU (by rw[inv.next];exact m0) (by rw[hn,inv.next];exact Nat.le_refl _) hw (λi _ h=>by rw[hn] at h;omega)
theorem FInv.there(c:FCtx P C S U N ops frs hs vs xs)(inv:FInv C s0 U N X ops frs hs vs xs D0 ρ0 w0 listed a w D ρ H){j:Nat}{o:Oper}(hj:ops[j]? =some o)(hjf:listed[j]? =some false)
  (hed:∀e∈o.after,Region.binds .any e=true->listed[e.on]? =some true) {fc:Tr V} (g:FrE C D ρ fc a) {h1 hb h2:Heap} (ho:opV S C fc hb o=some (vs j,h2)) (hj1:hs (j+1)={h1 with wmin:=minN (hs j).wmin h1.wmin})
  (hbn:hb.next=(hs j).next) (hbf:∀i,hb.next<=i->hb.get i=none) (hbr:∀i b,D i->hb.get i=some b->H.get i=some b) (h2n:h2.next=h1.next) (h2w:h2.wmin=h1.wmin) (h2g:∀i,(hs j).next<=i->i<h1.next->h2.get i=h1.get i)
  {x:Ev} (hx:xs j=some x) (hg:(h2=h1/\(x= .dirty\/∃b,x= .upd b)/\(∀i,D i->i<(hs j).next->H.get i=(hs j).get i)/\∀i,¬Tch (xs j) (hs j).next h1.next i->i<(hs j).next->h1.get i=(hs j).get i)\/((x= .gen\/∃b,x= .mk b)/\(hs j).next<=h1.wmin))
  {r:Option Nat} {K:Act->World->Prop} {Q:Exit->Act->World->Prop} (hK:∀w' D' ρ' H',FInv C s0 U N X ops frs hs vs xs D0 ρ0 w0 (listed.setIfInBounds j true) (a.put o.dst (conc ρ' (vs j))) w' D' ρ' H'->K (a.put o.dst (conc ρ' (vs j))) w'):o.wpIn (FF r) 0 P a w K Q:=by
 have hjs:=(Array.getElem?_eq_some_iff.1 hj).1;obtain⟨hnd,_⟩:=xbq c.hB hj;have hm:=k4q c.hS ho;have hjn:(hs (j+1)).next=h1.next:=by rw[hj1]
 have hjg:∀i,(hs (j+1)).get i=h1.get i:=λi=>by rw[hj1];rfl
 have hle:=(c.monoLe (show j+1<=ops.size by omega) (Nat.le_refl _)).nxt;have m0:=(c.monoLe (Nat.zero_le ops.size) (Nat.le_refl _)).nxt;have m0j:=(c.monoLe (Nat.zero_le j) Xa).nxt;have hmj:(hs j).next<=h1.next:=by have:=hm.nxt;omega
 have hU:=c.hU
 have hwm:(hs ops.size).wmin<=h1.wmin:=by
  have q1:=(c.monoLe (show j+1<=ops.size by omega) (Nat.le_refl _)).wmin;have q2:=(Zlq (hs j).wmin h1.wmin).2;rw[hj1] at q1;exact Nat.le_trans q1 q2
 --the blocks that are told of lie ahead of its own,or behind
 have hD:∀i,D i->i<(hs j).next\/h1.next<=i:=λi hi=>by
  rcases inv.char i hi with h|⟨k,hk,g1,g2⟩
  ·have:=inv.lt0 i h;omega
  ·have hks:k<ops.size:=by rw[<-inv.size];exact(Array.getElem?_eq_some_iff.1 hk).1
   rcases Nat.lt_trichotomy k j with h|h|h
   ·have:=(c.monoLe (show k+1<=j by omega) Xa).nxt;omega
   ·rw[h,hjf] at hk;cases hk
   ·have:=(c.monoLe (show j+1<=k by omega) Xa).nxt;omega
 have rel1:Rel s0 h2.next D ρ hb w:=inv.rel.on (λi hi=>by have:=hD i hi;omega) hbf hbr;refine uBq c.hC c.hS hnd ho (Nat.le_refl _) g rel1 λD' ρ' w' rel2 nxt2 in2=>?_
 have hnew:∀i,D' i->D i\/((hs j).next<=i/\i<h1.next):=λi hi=>by have:=nxt2.new i hi;rwa[hbn,h2n] at this
 have ag:=nxt2.agree rel1.lt (Nat.le_refl _);have dd:=nxt2.dd rel1.lt (Nat.le_refl _)
 have nx:=Nxt.ext inv.lt0 inv.nxt nxt2 c.hU Xa Xa Xa (λi hi h=>by
  have:=hD i hi;omega)
 have ltU:∀i,D' i->i<(hs ops.size).next\/U<=i:=λi hi=>by
  rcases hnew i hi with h|h
  ·have:=inv.rel.lt i h;rw[inv.next] at this;exact this
  ·omega
 rcases hg with ⟨rfl,hxx,hnow,hkp⟩|⟨hxm,hwn⟩
 ·-- it turns what it likes:nothing behind it has had a turn
  have hD2:∀i,D i->i<(hs j).next\/(hs ops.size).next<=i:=λi hi=>by
   rcases inv.char i hi with h|⟨k,hk,g1,g2⟩
   ·have:=inv.lt0 i h;omega
   ·have hks:k<ops.size:=by rw[<-inv.size];exact(Array.getElem?_eq_some_iff.1 hk).1
    rcases Nat.lt_trichotomy k j with h|h|h
    ·have:=(c.monoLe (show k+1<=j by omega) Xa).nxt;omega
    ·rw[h,hjf] at hk;cases hk
    ·obtain⟨_,y,ry,hnl,_⟩:=c.tch_ev hks (.inl ⟨g1,g2⟩)
     have hcl:x.clash y=true:=by
      rcases hxx with rfl|⟨b,rfl⟩
      ·cases y<;>rfl
      ·cases y<;>first|rfl|exact absurd rfl (hnl _)
     have:=quq inv.closed _ k j (c.cl k j y x hks h ry hx hcl) λo' e ho' he hb=>inv.closed k o' e ho' hk he hb
     rw[hjf] at this;cases this
  refine hK w' D' ρ' {h2 with next:=(hs ops.size).next,wmin:=(hs ops.size).wmin} (inv.upd c hj hjf hed (λi hi=>by rw[hjn];exact hnew i hi) Z Z ?_ (λi _ _=>(hjg i).symm) ?_ nx ag dd in2)
  ·intro i hi ht
   have hi':D i:=by
    rcases hnew i hi with h|h
    ·exact h
    ·exact absurd (.inl (by rw[hjn];exact h)) ht
   rcases hD2 i hi' with h|h
   ·have e1:=hkp i (by rw[<-hjn];exact ht) h;have e2:=hnow i hi' h;show h2.get i=H.get i;rw[e1,e2]
   ·have e1:h2.get i=none:=rel2.wf i Xa;have e2:H.get i=none:=inv.rel.wf i (by rw[inv.next];exact h);rw[e2];exact e1
  ·exact rel2.on ltU (λi hi=>rel2.wf i (by have hi:(hs ops.size).next<=i:=hi;omega)) λi b _ hb=>hb
 ·-- it turns nothing:what it made comes in between
  obtain⟨tr,htr⟩:=Tr.of (λi=>if (hs j).next<=i/\i<h1.next then h2.get i else H.get i) (hs ops.size).next;have hget:∀i,(Heap.mk (hs ops.size).next (hs ops.size).wmin tr).get i=if i<(hs ops.size).next then(if (hs j).next<=i/\i<h1.next then h2.get i else H.get i) else none:=htr
  have hframe:∀b,b<w.heap.size->w'.heap[b]? =w.heap[b]? :=λb hb=>nxt2.frame b hb λi _ q1 q2=>by
   omega
  have hfresh:∀i,D' i->(hs j).next<=i->i<h1.next->w.heap.size<=ρ'.b i:=λi hi q1 q2=>by
   rcases nxt2.fresh i hi Xa Xa with h|⟨k,_,k2,k3,_⟩
   ·exact h
   ·omega
  have get:∀i b,D' i->(Heap.mk (hs ops.size).next (hs ops.size).wmin tr).get i=some b->((hs j).next<=i/\i<h1.next/\h2.get i=some b)\/(D i/\H.get i=some b/\ρ'.b i=ρ.b i):=λi b hi hb=>by
   rw[hget] at hb;split at hb
   ·split at hb
    ·rename_i h;exact .inl ⟨h.1,h.2,hb⟩
    ·rename_i h
     have hi':D i:=by
      rcases hnew i hi with h'|h'
      ·exact h'
      ·exact absurd h' h
     exact .inr ⟨hi',hb,(ag i 0 ⟨hi',Nat.zero_le _⟩).1⟩
   ·cases hb
  have hsz:=nxt2.size;refine hK w' D' ρ' ⟨(hs ops.size).next,(hs ops.size).wmin,tr⟩ (inv.upd c hj hjf hed (λi hi=>by rw[hjn];exact hnew i hi) Z Z ?_ ?_ ?_ nx ag dd in2)
  ·intro i hi ht;rw[hget];have hni:¬((hs j).next<=i/\i<h1.next):=λh=>ht (.inl (by rw[hjn];exact h))
   rw[if_neg hni];by_cases hlt:i<(hs ops.size).next
   ·rw[if_pos hlt]
   ·rw[if_neg hlt,inv.rel.wf i (by rw[inv.next];omega)]
  ·intro i hi ht;rw[hjg,hget]
   have hr:(hs j).next<=i/\i<h1.next:=by
    rcases ht with h|h|⟨h|h,_⟩
    ·rw[hjn] at h;exact h
    all_goals
     rw[hx] at h;rcases hxm with rfl|⟨b,rfl⟩<;>cases h
   rw[if_pos Xa,if_pos hr];exact h2g i hr.1 hr.2
  ·refine⟨ltU,λi hi=>?_,λi b hi hb=>?_,λi b hi hb=>?_,λi k b d hi hk hb hd hob hod hne=>?_,λi b hi hb hob=>?_,λi k b d hi hk hb hd hob hod=>?_,rel2.base⟩
   ·have hi:(hs ops.size).next<=i:=hi;rw[hget,if_neg Xa]
   ·rcases get i b hi hb with ⟨q1,q2,q3⟩|⟨q1,q2,q3⟩
    ·exact rel2.has i b hi q3
    ·obtain⟨ob,g1,g2⟩:=inv.rel.has i b q1 q2;refine⟨ob,?_,KnB.agree ag (m:=0) ⟨q1,Nat.zero_le _⟩ (inv.rel.clo i b q1 q2) g2⟩;rw[q3,hframe _ (Array.getElem?_eq_some_iff.1 g1).1];exact g1
   ·rcases get i b hi hb with ⟨q1,q2,q3⟩|⟨q1,q2,q3⟩
    ·exact rel2.clo i b hi q3
    ·exact(inv.rel.clo i b q1 q2).mono dd
   ·rcases get i b hi hb with ⟨q1,q2,q3⟩|⟨q1,q2,q3⟩<;>rcases get k d hk hd with ⟨p1,p2,p3⟩|⟨p1,p2,p3⟩
    ·exact rel2.inj i k b d hi hk q3 p3 hob hod hne
    ·rw[p3];obtain⟨od,g1,_⟩:=inv.rel.has k d p1 p2;have:=(Array.getElem?_eq_some_iff.1 g1).1;have:=hfresh i hi q1 q2;omega
    ·rw[q3];obtain⟨od,g1,_⟩:=inv.rel.has i b q1 q2;have:=(Array.getElem?_eq_some_iff.1 g1).1;have:=hfresh k hk p1 p2;omega
    ·rw[q3,p3];exact inv.rel.inj i k b d q1 p1 q2 p2 hob hod hne
   ·rcases get i b hi hb with ⟨q1,q2,q3⟩|⟨q1,q2,q3⟩
    ·exact rel2.own i b hi q3 hob
    ·rw[q3];exact inv.rel.own i b q1 q2 hob
   ·rcases get i b hi hb with ⟨q1,q2,q3⟩|⟨q1,q2,q3⟩<;>rcases get k d hk hd with ⟨p1,p2,p3⟩|⟨p1,p2,p3⟩
    ·exact rel2.old i k b d hi hk q3 p3 hob hod
    ·rw[p3];obtain⟨od,g1,_⟩:=inv.rel.has k d p1 p2;have:=(Array.getElem?_eq_some_iff.1 g1).1;have:=hfresh i hi q1 q2;omega
    ·rw[q3];obtain⟨od,g1,_⟩:=inv.rel.has i b q1 q2;have:=(Array.getElem?_eq_some_iff.1 g1).1;have:=hfresh k hk p1 p2;omega
    ·rw[q3,p3];exact inv.rel.old i k b d q1 p1 q2 p2 hob hod
theorem FInv.go(c:FCtx P C S U N ops frs hs vs xs)(inv:FInv C s0 U N X ops frs hs vs xs D0 ρ0 w0 listed a w D ρ H){j:Nat}{o:Oper}(hj:ops[j]? =some o)(hjf:listed[j]? =some false)
  (hed:∀e∈o.after,Region.binds .any e=true->listed[e.on]? =some true) {r:Option Nat} {K:Act->World->Prop} {Q:Exit->Act->World->Prop} (hK:∀u w' D' ρ' H',FInv C s0 U N X ops frs hs vs xs D0 ρ0 w0 (listed.setIfInBounds j true) (a.put o.dst u) w' D' ρ' H'->K (a.put o.dst u) w'):
  (Region.wanted o (yielded ops a.tmps)=true/\o.wpIn (FF r) 0 P a w K Q)\/(Region.wanted o (yielded ops a.tmps)=false/\K (a.put o.dst undef) w):=by
 have hjs:=(Array.getElem?_eq_some_iff.1 hj).1;obtain⟨hst,_⟩:=c.st j o hj;obtain⟨fc,hfc,g⟩:=inv.fr c hj hjf hed;have hev:=cut_ev (C:=C) (fr:=frs j) hfc;rcases hst with ⟨hw,hv,hh,hx⟩|⟨hw,hst⟩
 ·--left out
  right
  rw[cut_want hfc] at hw;refine⟨j5q g hw,?_⟩;have hv':conc ρ (vs j)=undef:=by rw[hv];rfl
  refine hK undef w D ρ H ?_
  have hnt:∀i,¬Tch (xs j) (hs j).next (hs (j+1)).next i:=λi h=>by
   rw[hx,hh] at h;rcases h with h|h|h
   ·omega
   ·cases h
   ·rcases h.1 with h|h<;>cases h
  have:=inv.upd c hj hjf hed (D':=D) (ρ':=ρ) (H':=H) (w':=w) (λi hi=>.inl hi) inv.next inv.wmin (λi _ _=>rfl) (λi _ h=>absurd h (hnt i)) inv.rel inv.nxt (λ_ _ _=>⟨rfl,rfl,rfl,rfl⟩) (λ_ _ h=>h) (by rw[hv];trivial);rwa[hv'] at this
 ·left
  have hw':=hw;rw[cut_want hfc] at hw';refine⟨j5q g hw',?_⟩;have hK':∀w' D' ρ' H',FInv C s0 U N X ops frs hs vs xs D0 ρ0 w0 (listed.setIfInBounds j true) (a.put o.dst (conc ρ' (vs j))) w' D' ρ' H'->K (a.put o.dst (conc ρ' (vs j))) w':=λw' D' ρ' H'=>hK _ w' D' ρ' H'
  rcases yIq hst with ⟨hp,hh,hx⟩|⟨h1,hp,ho,hh,hx⟩
  ·have hnt:∀i,¬Tch (xs j) (hs j).next (hs (j+1)).next i:=λi h=>by
    rw[hx,hh] at h;rcases h with h|h|h
    ·omega
    ·cases h
    ·rcases h.1 with h|h<;>cases h
   rw[kvq o.op hev] at hp;refine inv.here c hj hjf hed g (H1:=H) (by unfold opV;simp only[hp]) rfl (Nat.le_of_eq inv.wmin.symm) (by rw[hh]) (λ_ _ _=>rfl) (λi _ h=>absurd h (hnt i)) hK'
  ·have hnx:(hs (j+1)).next=h1.next:=by rw[hh]
   have hp2:=hp;have ho2:=ho;rw[k5q o hev] at ho;rw[kvq o.op hev] at hp
   have hb:∀{b:Nat} x off B,x∈o.op.operands->evV C (frs j) x=some (.ptr b off) ->(Heap.mk (hs j).next (hs j).next (hs j).tr).get b=some B->D b/\b<(hs j).next:=λ{b} x off B h1 h2 h3=>by
    rw[hev x h1] at h2;have h3:(hs j).get b=some B:=h3;refine⟨(g.ev h2).2.1,?_⟩;rcases Nat.lt_or_ge b (hs j).next with h|h
    ·exact h
    ·rw[c.wf Xa b h] at h3;cases h3
   have hbr:∀{x:Ev},xs j=some x->(∀i,Reads x i) ->∀i b,D i->(Heap.mk (hs j).next (hs j).next (hs j).tr).get i=some b->H.get i=some b:=λhx hr i b hi hb=>by
    have hb:(hs j).get i=some b:=hb
    have hlt:i<(hs j).next:=by
     rcases Nat.lt_or_ge i (hs j).next with h|h
     ·exact h
     ·rw[c.wf Xa i h] at hb;cases hb
    rw[inv.now c hj hjf hed hx (hr i) hi hlt];exact hb
   cases he:evOf C (frs j) (hs j) h1 o.op with
   |load b=>
    obtain⟨⟨e1,e2⟩,⟨B,hB⟩,x,off,hxo,hxb⟩:=ev_load hp2 ho2 he;obtain⟨hDb,hlt⟩:=hb x off B hxo hxb hB;have hxl:xs j=some (.load b):=by rw[hx,he]
    have hnn:(hs (j+1)).next=(hs j).next:=by rw[hnx,e1]
    have hnt:∀i,¬Tch (xs j) (hs j).next (hs (j+1)).next i:=λi h=>by
     rw[hxl,hnn] at h;rcases h with h|h|h
     ·omega
     ·cases h
     ·rcases h.1 with h|h<;>cases h
    have hH:H.get b=(hs j).get b:=inv.now c hj hjf hed hxl rfl hDb hlt;have ho3:=e2 H (by rw[hH];rfl);rw[k5q o hev] at ho3;exact inv.here c hj hjf hed g ho3 rfl (Nat.le_of_eq inv.wmin.symm) hnn (λ_ _ _=>rfl) (λi _ h=>absurd h (hnt i)) hK'
   |store b=>
    obtain⟨⟨B,B',hB,e1,e2⟩,x,off,hxo,hxb⟩:=Zyq hp2 ho2 he;obtain⟨hDb,hlt⟩:=hb x off B hxo hxb hB;have hxl:xs j=some (.store b):=by rw[hx,he]
    have hnn:(hs (j+1)).next=(hs j).next:=by rw[hnx,e1];rfl
    have hH:H.get b=(hs j).get b:=inv.now c hj hjf hed hxl rfl hDb hlt
    have hget:∀i,(hs (j+1)).get i=if i=b then some B' else(hs j).get i:=λi=>by
     rw[hh,e1];exact Heap.get_put _ _ _ _
    have hwb:(hs ops.size).wmin<=b:=by
     have q1:=(c.monoLe (show j+1<=ops.size by omega) (Nat.le_refl _)).wmin;have q2:=(Zlq (hs j).wmin h1.wmin).2;have q3:=(jiq (hs j).next b).2;rw[hh] at q1;have q4:h1.wmin=wmn (hs j).next b:=by rw[e1];rfl
     have q1:(hs ops.size).wmin<=minN (hs j).wmin h1.wmin:=q1;omega
    have ho3:=e2 H (by rw[hH];rfl);rw[k5q o hev] at ho3;refine inv.here c hj hjf hed g ho3 Z ?_ hnn (λi _ hi=>?_) (λi _ hi=>?_) hK'
    ·show(hs ops.size).wmin<=wmn H.wmin b;unfold wmn;split
     ·exact Nat.le_of_eq inv.wmin.symm
     ·exact hwb
    ·rw[Heap.get_put,if_neg];rintro rfl;exact hi (.inr (.inl hxl))
    ·have:i=b:=by
      rw[hxl,hnn] at hi;rcases hi with h|h|h
      ·omega
      ·cases h;rfl
      ·rcases h.1 with h|h<;>cases h
     rw[Heap.get_put,if_pos this,hget,if_pos this]
   |gen=>
    have hxl:xs j=some .gen:=by rw[hx,he]
    exact inv.there c hj hjf hed g ho hh rfl (c.wf Xa) (hbr hxl λ_=>trivial) Z Z (λ_ _ _=>rfl) hxl (.inr ⟨.inl rfl,ev_gen he⟩) hK'
   |mk b=>
    have hxl:xs j=some (.mk b):=by rw[hx,he]
    obtain⟨_,B,n,k,e0,e1,e2⟩:=ev_mk hp2 ho2 he;have e3:=e2 ⟨(hs j).next,(hs j).next,.nil⟩ rfl;rw[k5q o hev] at e3;refine inv.there c hj hjf hed g e3 hh rfl (λi _=>Tr.get_nil ..) (λi b _ hb=>by rw[show Heap.get ⟨(hs j).next,(hs j).next,.nil⟩ i=none from Tr.get_nil ..] at hb;cases hb) (by rw[e1];rfl) (by rw[e1];rfl) (λi q1 q2=>?_) hxl (.inr ⟨.inr ⟨b,rfl⟩,by rw[e1];exact Nat.le_refl _⟩) hK';rw[e1] at q2⊢;have q2:i<(hs j).next+1:=q2;obtain rfl:i=(hs j).next:=by omega
    rw[Heap.get_push,Heap.get_push,if_pos rfl,if_pos rfl]
   |dirty=>
    have hxl:xs j=some .dirty:=by rw[hx,he]
    exact inv.there c hj hjf hed g ho hh rfl (c.wf Xa) (hbr hxl λ_=>trivial) Z Z (λ_ _ _=>rfl) hxl (.inl ⟨rfl,.inl rfl,λi hi hlt=>inv.now c hj hjf hed hxl trivial hi hlt,λi ht hi=>absurd (.inr (.inr ⟨.inl hxl,hi⟩)) ht⟩) hK'
   |upd b=>
    have hxl:xs j=some (.upd b):=by rw[hx,he]
    exact inv.there c hj hjf hed g ho hh rfl (c.wf Xa) (hbr hxl λ_=>trivial) Z Z (λ_ _ _=>rfl) hxl (.inl ⟨rfl,.inr ⟨b,rfl⟩,λi hi hlt=>inv.now c hj hjf hed hxl trivial hi hlt,λi ht hi=>by
     by_cases hib:i=b
     ·exact absurd (.inr (.inr ⟨.inr (hxl.trans (by rw[hib])),hi⟩)) ht
     ·exact ev_upd c.hS hp2 ho2 he hib hi⟩) hK'
theorem FInv.all(c:FCtx P C S U N ops frs hs vs xs){r:Option Nat}{Q:Exit->Act->World->Prop}
  (hend:∀listed a w D ρ H,FInv C s0 U N X ops frs hs vs xs D0 ρ0 w0 listed a w D ρ H->(∀k:Nat,k<ops.size->listed[k]? =some true) ->Q .normal a w):
  ∀(n:Nat) (listed:Array Bool) (a:Act) (w:World) (D:Nat->Prop) (ρ:Env) (H:Heap),n+listed.toList.count true=ops.size->FInv C s0 U N X ops frs hs vs xs D0 ρ0 w0 listed a w D ρ H->wpAnyIn (FF r) 0 P .any ops Q n listed a w:=by
 intro n;induction n with
 |zero=>
  intro listed a w D ρ H hn inv
  have hall:∀k,k<ops.size->listed[k]? =some true:=by
   have h1:listed.toList.count true=listed.toList.length:=by rw[Array.length_toList,inv.size];omega
   rw[List.count_eq_length] at h1;intro k hk;have hk':k<listed.size:=by rw[inv.size];exact hk
   rw[Array.getElem?_eq_getElem hk'];have:=h1 listed[k] Xe;rw[<-this]
  refine seq_any 0 ops.size listed a w Xa inv.size (λk hk=>getD_t.2 (hall k hk)) (λk h1 h2=>by omega) (λi o hi ho=>by
   have:=(Array.getElem?_eq_some_iff.1 ho).1;omega) (λi o e hi ho=>by have:=(Array.getElem?_eq_some_iff.1 ho).1;omega) ?_
  rw[List.drop_of_length_le Xe];unfold wpListIn;exact hend listed a w D ρ H inv hall
 |succ n ih=>
  intro listed a w D ρ H hn inv
  --one is left
  have hex:∃k,k<ops.size/\listed[k]? =some false:=by
   apply Classical.byContradiction;intro hno
   have h1:listed.toList.count true=listed.toList.length:=by
    rw[List.count_eq_length];intro b hb;obtain⟨k,hk,rfl⟩:=List.getElem_of_mem hb;have hk':k<listed.size:=by simpa using hk
    cases hv:listed.toList[k] with
    |true=>rfl
    |false=>
     refine absurd ⟨k,by rw[<-inv.size];exact hk',?_⟩ hno;rw[Array.getElem?_eq_getElem hk'];have:listed[k]=listed.toList[k]:=by simp
     rw[this,hv]
   rw[Array.length_toList,inv.size] at h1;omega
  obtain⟨kx,hkx⟩:=hex;obtain⟨k0,⟨hk0,hk0f⟩,_,hmin⟩:=exists_least (λk=>k<ops.size/\listed[k]? =some false) kx hkx
  have hready0:k0∈Region.ready .any ops listed:=by
   have ho:ops[k0]? =some ops[k0]:=Array.getElem?_eq_getElem hk0;refine mem_ready.2 ⟨getD_f.2 hk0f,_,ho,λe he hb=>getD_t.2 ?_⟩;have hlt:=(xbq c.hB ho).2.2.1 e he hb;have hk':e.on<listed.size:=by rw[inv.size];omega
   rw[Array.getElem?_eq_getElem hk'];congr 1
   cases hv:listed[e.on] with
   |true=>rfl
   |false=>have:=hmin e.on ⟨by omega,by rw[Array.getElem?_eq_getElem hk',hv]⟩;omega
  refine⟨λh=>(by rw[h] at hready0;cases hready0),λj hj=>?_⟩;obtain⟨hjf,o,hoj,hedges⟩:=mem_ready.1 hj;have hjf:=getD_f.1 hjf;have hjs:=(Array.getElem?_eq_some_iff.1 hoj).1;have hjls:j<listed.size:=by rw[inv.size];exact hjs
  have hcnt:n+(listed.setIfInBounds j true).toList.count true=ops.size:=by
   have hjl:listed.toList[j]? =some false:=by simpa using hjf
   have hc:(listed.setIfInBounds j true).toList.count true=listed.toList.count true+1:=by
    rw[Array.toList_setIfInBounds,List.count_set (by simpa using hjls)]
    have:listed.toList[j]'(by simpa using hjls)=false:=by
     have:=hjl;rw[List.getElem?_eq_getElem (by simpa using hjls)] at this;simpa using this
    rw[this];simp
   omega
  have hK:∀u w' D' ρ' H',FInv C s0 U N X ops frs hs vs xs D0 ρ0 w0 (listed.setIfInBounds j true) (a.put o.dst u) w' D' ρ' H'->wpAnyIn (FF r) 0 P .any ops Q n (listed.setIfInBounds j true) (a.put o.dst u) w':=λu w' D' ρ' H' h=>ih _ _ _ _ _ _ hcnt h
  unfold wpOpIn;simp only[hoj];rcases inv.go c hoj hjf (λe he hb=>getD_t.1 (hedges e he hb)) (r:=r) (Q:=Q) (K:=λa w=>wpAnyIn (FF r) 0 P .any ops Q n (listed.setIfInBounds j true) a w) hK with ⟨hw,h⟩|⟨hw,h⟩
  ·rw[if_pos hw];exact h
  ·rw[if_neg (by rw[hw];simp)];exact⟨λf _=>vnq r f,h⟩
theorem region_sound(hmx:P.follows .mixedOrders=true)(hC:CfgOK P C)(hS:SelfOK P C S):u9q P C S:=by
 intro N ops id fr h fr' h' hB he;obtain⟨frs,hs,vs,xs,t⟩:=vHq _ _ _ _ _ _ _ he;have hlen:ops.toList.length=ops.size:=by simp
 have hst:∀(j:Nat) (o:Oper),ops[j]? =some o->StepAt S C ops o (frs j) (hs j) (vs j) (hs (j+1)) (xs j)/\frs (j+1)=putT (frs j) o.dst (vs j):=λj o hj=>t.st j o (by simpa using hj)
 have hn:hs ops.size=h':=by rw[<-hlen];exact t.hn
 have hf:frs ops.size=fr':=by rw[<-hlen];exact t.fn
 have hcl:∀(j k:Nat) (x y:Ev),j<ops.size->k<j->xs j=some x->xs k=some y->y.clash x=true->yKq ops ops.size j k=true:=λj k x y hj hk hx hy hc=>by
  have:=(t.cl j ops[j] x (by simp[hj]) hx).2 k y hk hy hc;simpa using this
 have hm:Mono h h':=by
  have:∀d,d<=ops.size->Mono (hs 0) (hs d):=by
   intro d;induction d with
   |zero=>intro _;exact Mono.refl _
   |succ d ih=>intro hd;exact(ih Xa).trans ((hst d ops[d] (Array.getElem?_eq_getElem Xa)).1.mono hS)
  have:=this ops.size (Nat.le_refl _);rwa[t.h0,hn] at this
 refine⟨hm,λs0 U r D ρ a w X Q hU g rel hN hX k=>?_⟩;have c:FCtx P C S U N ops frs hs vs xs:=⟨hC,hS,hB,hst,hcl,by rw[t.h0];exact rel.wf,by rw[hn];exact hU⟩;refine wpIn_region_any hmx ?_;have hw0:h'.wmin<=h.wmin:=hm.wmin;refine FInv.all (s0:=s0) (X:=X) (D0:=D) (ρ0:=ρ) (w0:=w) c (λlisted a' w' D' ρ' H inv hall=>?_) _ _ a _ D ρ {h with next:=h'.next,wmin:=h'.wmin} (by simp[List.count_replicate]) ?_
 ·have hfr:FrE C D' ρ' fr' a':=by
   have key:∀t v,fr'.get t=some v->a'.tmps[t]? =some (conc ρ' v)/\InD (DD D' ρ') v:=λt' v hv=>by
    rw[<-hf] at hv;rcases c.frs_get t' ops.size (Nat.le_refl _) with ⟨k,p,h1,h2,h3,h4⟩|⟨h1,h2⟩
    ·rw[h4] at hv;cases hv
     exact inv.got k p t' h2 (hall k h1) h3
    ·rw[h2] at hv;exact inv.base t' v (λk p hp hpd=>absurd hpd (h1 k p (Array.getElem?_eq_some_iff.1 hp).1 hp)) hv
   exact⟨⟨λt v hv=>(key t v hv).1,λt v hv=>(key t v hv).2,inv.gl⟩⟩
  have hget:∀i,D' i->h'.get i=H.get i:=λi hi=>by
   rw[<-hn];exact(inv.cont i hi ops.size (Nat.le_refl _) (λk hk _=>hall k hk) λk h1 h2=>by omega).symm
  have hnx:H.next=h'.next:=by rw[inv.next,hn]
  have hrel:Rel s0 U D' ρ' h' w':=inv.rel.on (λi hi=>by rw[<-hnx];exact inv.rel.lt i hi) (hm.wf rel.wf) λi b hi hb=>by rw[<-hget i hi];exact hb
  have hnxt:=inv.nxt;rw[t.h0,hn] at hnxt;exact k D' ρ' a' w' hfr hrel hnxt inv.asz inv.adf
 ·have hlt:∀i,D i->i<h'.next\/U<=i:=λi hi=>by
   have:=rel.lt i hi;have:=hm.nxt;omega
  refine⟨by simp,hN,hX,?_,by rw[hn],by rw[hn],λi hi=>.inl hi,by rw[t.h0];exact rel.lt,?_,?_,?_,?_,?_,g.gl⟩
  ·intro k o e _ hl;simp[Array.getElem?_replicate] at hl
  ·intro i hi p hp h1 _
   have:=c.keep (j:=0) (i:=i) p Xa λk _ hk ht=>by
    have:=h1 k Xa ht;simp[Array.getElem?_replicate] at this
   rw[Nat.zero_add] at this;rw[this,t.h0];rfl
  ·exact(rel.drawn _).on hlt (λi hi=>rel.wf i (by have hi:h'.next<=i:=hi;have:=hm.nxt;omega)) λi b _ hb=>hb
  ·rw[t.h0,hn];refine⟨λ_ h=>h,λ_ h=>.inl h,λ_ _=>⟨rfl,rfl,rfl,rfl⟩,λ_ _ _=>rfl,λi hi q1 q2=>?_,Nat.le_refl _,hw0,hm.nxt,rfl,rfl,rfl⟩;have:=rel.lt i hi;omega
  ·intro k o t' _ hl;simp[Array.getElem?_replicate] at hl
  ·intro t' v _ hv;rw[t.f0] at hv;exact⟨g.at_ t' v hv,g.in_ t' v hv⟩
end
noncomputable def khq(P:Program)(C:Cfg):Prop:=∀f fn,C.fn f=some fn->P.funcs[f]? =some fn/\(∀args w,(callFunc f args).run P w= .ok (.enter f args) w)/\∀c,fn.body=some c->z8q fn.ntmps c=true
theorem xmq:∀(vs:List V) (i:Nat) (t:Tr V) (k:Nat),(jJq i vs t).get k=if i<=k/\k<i+vs.length then vs[k-i]? else t.get k
 |[],i,t,k=>by simp only[jJq,List.length_nil];rw[if_neg Xa]
 |v::vs,i,t,k=>by
  simp only[jJq];rw[xmq vs (i+1) _ k,Tr.get_set];simp only[List.length_cons];by_cases h:k=i
  ·subst h;rw[if_neg Xa,if_pos rfl,if_pos Xa];simp
  ·by_cases h2:i+1<=k/\k<i+1+vs.length
   ·rw[if_pos h2,if_pos Xa,show k-i=(k-(i+1))+1 by omega];simp
   ·rw[if_neg h2,if_neg h,if_neg Xa]
theorem jVq{N:Nat}:∀(c:Code) (l:Nat) (rest:Code),findLabel c l=some rest->z8q N c=true->z8q N rest=true
 |.seq a b,l,rest,h,hok=>by
  simp only[z8q,Bool.and_eq_true] at hok;simp only[findLabel] at h;split at h
  ·rename_i r hr;cases h;simp only[z8q,Bool.and_eq_true];exact⟨jVq a l r hr hok.1,hok.2⟩
  ·exact jVq b l rest h hok.2
 |.label l',l,rest,h,_=>by
  simp only[findLabel] at h;split at h
  ·cases h;rfl
  ·cases h
 |.skip,_,_,h,_=>by simp[findLabel] at h
 |.region _ _ _,_,_,h,_=>by simp[findLabel] at h
 |.cond _ _ _,_,_,h,_=>by simp[findLabel] at h
 |.block _ _,_,_,h,_=>by simp[findLabel] at h
 |.loop _,_,_,h,_=>by simp[findLabel] at h
 |.rangeFunc _ _ _ _,_,_,h,_=>by simp[findLabel] at h
 |.exit _,_,_,h,_=>by simp[findLabel] at h
 |.scope _,_,_,h,_=>by simp[findLabel] at h
 |.goto _,_,_,h,_=>by simp[findLabel] at h
 |.ret,_,_,h,_=>by simp[findLabel] at h
 |.refuse _,_,_,h,_=>by simp[findLabel] at h
theorem vsq{ρ:Env}{D:Nat->Nat->Prop}:∀(ps:List Tmp) (vs:List V) (fr:Tr V) (tmps:Array Value),(∀t v,fr.get t=some v->tmps[t]? =some (conc ρ v)/\InD D v) ->InDL D vs->(∀p∈ps,p<tmps.size) ->
  (∀t v,(setPs fr ps vs).get t=some v->((ps.zip (zwq ρ vs)).foldl (λt (p:Tmp×Value)=>t.setIfInBounds p.1 p.2) tmps)[t]? =some (conc ρ v)/\InD D v)/\
  ((ps.zip (zwq ρ vs)).foldl (λt (p:Tmp×Value)=>t.setIfInBounds p.1 p.2) tmps).size=tmps.size
 |[],_,fr,tmps,h,_,_=>⟨by simpa[setPs] using h,by simp⟩
 |p::ps,[],fr,tmps,h,_,_=>⟨by simpa[setPs,zwq] using h,by simp[zwq]⟩
 |p::ps,v::vs,fr,tmps,h,hv,hp=>by
  have ih:=vsq (ρ:=ρ) (D:=D) ps vs (fr.set p (some v)) (tmps.setIfInBounds p (conc ρ v)) (λt x hx=>by
   rw[Tr.get_set] at hx;rw[Array.getElem?_setIfInBounds];by_cases e:t=p
   ·subst e;rw[if_pos rfl] at hx;cases hx
    exact⟨by simp[hp t Xe],hv.1⟩
   ·rw[if_neg e] at hx;rw[if_neg (λe'=>e e'.symm)];exact h t x hx) hv.2 (λq hq=>by simp[hp q (by simp[hq])])
  simp only[setPs,zwq,List.zip_cons_cons,List.foldl_cons];exact⟨ih.1,by rw[ih.2];simp⟩
structure SelfM(S:Self):Prop where
 fn:∀f vs h v h',S.fn f vs h=some (v,h') ->Mono h h'
 yield:∀l vs h v h',S.yield l vs h=some (v,h') ->Mono h h'
structure FlowM(F:Flow):Prop where
 loop:∀c st x st',F.loop c st=some (x,st') ->Mono st.h st'.h
 scope:∀c l st x st',F.scope c l st=some (x,st') ->Mono st.h st'.h
section
variable {C:Cfg} {S:Self} {F:Flow}
theorem opM(hS:SelfM S){o:Oper}{fr:Tr V}{h h':Heap}{v:V}(ho:opV S C fr h o=some (v,h')):Mono h h':=by
 unfold opV at ho;split at ho
 ·cases ho;exact Mono.refl _
 ·split at ho
  ·rename_i r hr;cases ho;exact mono_opH hr
  ·unfold y9q at ho;split at ho
   ·split at ho
    ·split at ho
     ·split at ho
      ·cases ho;exact Mono.refl _
      ·exact mono_mz ho
     ·exact hS.fn _ _ _ _ _ ho
    ·exact hS.yield _ _ _ _ _ ho
    ·cases ho
   ·split at ho
    ·split at ho
     ·split at ho
      ·cases ho
      ·exact hS.fn _ _ _ _ _ ho
     ·cases ho
    ·cases ho
   ·exact mono_opJ ho
theorem opsM(hS:SelfM S){ops:Array Oper}:∀(l:List Oper) (fr:Tr V) (h:Heap) (fr':Tr V) (h':Heap),yMq S C ops l fr h=some (fr',h') ->Mono h h'
 |[],fr,h,fr',h',he=>by
  simp only[yMq,Option.some.injEq,Prod.mk.injEq] at he;rw[<-he.2];exact Mono.refl _
 |o::l,fr,h,fr',h',he=>by
  simp only[yMq] at he;split at he
  ·split at he
   ·rename_i v h1 ho;exact(opM hS ho).trans (opsM hS l _ _ _ _ he)
   ·cases he
  ·exact opsM hS l _ _ _ _ he
  ·cases he
theorem stepM(hS:SelfM S){o:Oper}{fr:Tr V}{h h':Heap}{v:V}{x:Option Ev}(hs:x4q S C fr h o=some (v,h',x)):Mono h h':=by
 rcases yIq hs with ⟨_,rfl,_⟩|⟨h1,_,ho,rfl,_⟩
 ·exact Mono.refl _
 ·have:=Zlq h.wmin h1.wmin;exact mono_wmin (opM hS ho) this.1 this.2
theorem flowM(hS:SelfM S){ops:Array Oper}:∀(l:List Oper) (i:Nat) (es:List (Nat×Ev)) (fr:Tr V) (h:Heap) (fr':Tr V) (h':Heap),ycq S C ops l i es fr h=some (fr',h') ->Mono h h'
 |[],_,_,fr,h,fr',h',he=>by
  simp only[ycq,Option.some.injEq,Prod.mk.injEq] at he;rw[<-he.2];exact Mono.refl _
 |o::l,i,es,fr,h,fr',h',he=>by
  simp only[ycq] at he;split at he
  ·split at he
   ·rename_i v h1 x hst;split at he
    ·exact(stepM hS hst).trans (flowM hS l _ _ _ _ _ _ he)
    ·cases he
   ·rename_i v h1 hst;exact(stepM hS hst).trans (flowM hS l _ _ _ _ _ _ he)
   ·cases he
  ·exact flowM hS l _ _ _ _ _ _ he
  ·cases he
theorem vkq(hS:SelfM S)(hF:FlowM F):∀(c:Code) (st:St) (x:Exit) (st':St),zbq S F C c st=some (x,st') ->Mono st.h st'.h
 |.skip,st,x,st',he=>by simp only[zbq,Option.some.injEq,Prod.mk.injEq] at he;rw[<-he.2];exact Mono.refl _
 |.label _,st,x,st',he=>by simp only[zbq,Option.some.injEq,Prod.mk.injEq] at he;rw[<-he.2];exact Mono.refl _
 |.exit _,st,x,st',he=>by simp only[zbq,Option.some.injEq,Prod.mk.injEq] at he;rw[<-he.2];exact Mono.refl _
 |.goto _,st,x,st',he=>by simp only[zbq,Option.some.injEq,Prod.mk.injEq] at he;rw[<-he.2];exact Mono.refl _
 |.ret,st,x,st',he=>by simp only[zbq,Option.some.injEq,Prod.mk.injEq] at he;rw[<-he.2];exact Mono.refl _
 |.refuse _,st,x,st',he=>by simp[zbq] at he
 |.loop c,st,x,st',he=>hF.loop c st x st' he
 |.seq c d,st,x,st',he=>by
  simp only[zbq] at he;split at he
  ·rename_i st1 h1;exact(vkq hS hF c _ _ _ h1).trans (vkq hS hF d _ _ _ he)
  ·exact vkq hS hF c _ _ _ he
 |.cond _ c d,st,x,st',he=>by
  simp only[zbq] at he;split at he
  ·exact vkq hS hF c _ _ _ he
  ·exact vkq hS hF d _ _ _ he
  ·cases he
 |.block _ c,st,x,st',he=>by
  simp only[zbq] at he;split at he
  ·rename_i id' st1 h1;have:=vkq hS hF c _ _ _ h1;split at he<;>(cases he;exact this)
  ·exact vkq hS hF c _ _ _ he
 |.scope c,st,x,st',he=>by
  simp only[zbq] at he;split at he
  ·rename_i l st1 h1;exact(vkq hS hF c _ _ _ h1).trans (hF.scope _ _ _ _ _ he)
  ·exact vkq hS hF c _ _ _ he
 |.region _ ops dr,st,x,st',he=>by
  cases dr<;>simp only[zbq] at he<;>split at he
  ·rename_i he1;cases he;exact opsM hS _ _ _ _ _ he1
  ·cases he
  ·rename_i he1;cases he;exact flowM hS _ _ _ _ _ _ _ he1
  ·cases he
 |.rangeFunc _ _ _ _,st,x,st',he=>by
  simp only[zbq] at he;split at he
  ·split at he
   ·rename_i u h3 hcall;exact((z1q _ _).trans (z1q _ _)).trans ((hS.fn _ _ _ _ _ hcall).trans (xfq he))
   ·cases he
  ·cases he
end
theorem qsq:∀(ds:List Nat) (h h1:Heap),y6q ds h=some h1->Mono h h1
 |[],h,h1,e=>by simp only[y6q,Option.some.injEq] at e;subst e;exact Mono.refl _
 |d::ds,h,h1,e=>by
  simp only[y6q] at e;split at e
  ·rename_i hg;exact(z6q hg).trans (qsq ds _ _ e)
  ·cases e
theorem xcq{C:Cfg}{fn:Func}{st:St}{v:V}{h':Heap}(hf:finV C fn st=some (v,h')):Mono st.h h':=by
 unfold finV at hf;split at hf
 ·cases hf
 ·rename_i h1 ht;have:=qsq _ _ _ ht;split at hf<;>first|(cases hf;done)|(cases hf;exact this)
theorem runM(C:Cfg)(hK:∀f k,C.known f=some k->∀vs h v h',k vs h=some (v,h') ->Mono h h'):∀n,SelfM ⟨yhq C n,zLq C n⟩/\FlowM ⟨zRq C n,zJq C n⟩
 |0=>⟨⟨λf vs h v h' he=>by simp[yhq] at he,λl vs h v h' he=>by simp[zLq] at he⟩,⟨λc st x st' he=>by simp[zRq] at he,λc l st x st' he=>by simp[zJq] at he⟩⟩
 | n + 1=>by
  obtain⟨hS,hF⟩:=runM C hK n;have cm:=vkq (C:=C) hS hF;refine⟨⟨λf vs h v h' he=>?_,λl vs h v h' he=>?_⟩,⟨λc st x st' he=>?_,λc l st x st' he=>?_⟩⟩
  ·simp only[yhq] at he;split at he
   ·rename_i k hk;exact hK f k hk _ _ _ _ he
   ·split at he
    ·cases he
    ·split at he
     ·split at he
      ·rename_i st h1;exact(cm _ _ _ _ h1).trans (xcq he)
      ·rename_i st h1;exact(cm _ _ _ _ h1).trans (xcq he)
      ·cases he
     ·cases he
  ·simp only[zLq] at he;split at he
   ·split at he
    ·cases he
    ·split at he
     ·rename_i st1 h1;split at he
      ·rename_i hget1;split at he
       ·rename_i x st2 h2;split at he
        ·rename_i hget2;have m:=((cm _ _ _ _ h1).trans (z6q hget1)).trans (cm _ _ _ _ h2);split at he<;>first|(cases he;done)|(cases he;exact m.trans (z6q hget2))
        ·cases he
       ·cases he
      ·cases he
     ·cases he
   ·cases he
  ·simp only[zRq] at he;split at he
   ·rename_i st1 h1;exact(cm _ _ _ _ h1).trans (hF.loop _ _ _ _ he)
   ·exact cm _ _ _ _ he
  ·simp only[zJq] at he;split at he
   ·split at he
    ·rename_i l' st1 h1;exact(cm _ _ _ _ h1).trans (hF.scope _ _ _ _ _ he)
    ·exact cm _ _ _ _ he
   ·cases he
section
variable {P:Program} {C:Cfg} {s0:World} {U N:Nat} {D:Nat->Prop} {ρ:Env} {h h':Heap} {w:World} {a:Act}
theorem kyq{fn:Func}{tmps:Array Value}{R:Ending->World->Prop}:∀(ds:List Nat) (h h1:Heap) (w:World),y6q ds h=some h1->h1.next<=U->Rel s0 U D ρ h w->(∀d∈ds,D d) ->
  (∀w',Rel s0 U D ρ h1 w'->Nxt D ρ h w D ρ h1 w'->LeavesInM Fence.wide 0 P fn tmps R [] .returning w') ->LeavesInM Fence.wide 0 P fn tmps R (ds.map (mkD ρ)) .returning w
 |[],h,h1,w,e,_,rel,_,k=>by
  simp only[y6q,Option.some.injEq] at e;subst e;exact k w rel (Nxt.refl _ _ _ _)
 |d::ds,h,h1,w,e,hU,rel,hd,k=>by
  simp only[y6q] at e;split at e
  ·rename_i hg;have hD:=hd d Xe;obtain⟨o,q1,q2⟩:=rel.has d _ hD hg;have q2:o= .deferred (some []):=q2;subst q2;refine⟨by simp,.inl ⟨ρ.b d,_,rfl,run_takeDeferred q1,?_⟩⟩;have ht:=ybq (w:=w) (b:=ρ.b d) (.deferred none) (Array.getElem?_eq_some_iff.1 q1).1;obtain⟨r2,n2⟩:=rel.put (b':=.dfr true) hD hg Z Z ht rfl trivial;have hU2:=Nat.le_trans (qsq ds _ _ e).nxt hU;exact kyq ds _ h1 _ e hU r2 (λx hx=>hd x (by simp[hx])) λw' r3 n3=>k w' r3 (n2.trans rel.lt hU n3)
  ·cases e
theorem resV_spec(hC:CfgOK P C){fr:Tr V}(g:FrE C D ρ fr a)(rel:Rel s0 U D ρ h w){r:ResultVar}{v:V}(hr:resV C fr h r=some v):xSq P a.tmps w r (conc ρ v)/\InD (DD D ρ) v:=by
 cases r with
 |tmp t=>
  have:=g.at_ t v hr;exact⟨by simp[xSq,Array.getD_eq_getD_getElem?,this],g.in_ t v hr⟩
 |cell p T=>
  simp only[resV] at hr;split at hr
  ·rename_i b off i hp hT;split at hr
   ·rename_i u hu;have hb:=g.in_ p _ hp;have:=g.at_ p _ hp;obtain⟨l1,l2⟩:=vCq hC rel hT hb.1 hu hr;exact⟨⟨_,by simp[Array.getD_eq_getD_getElem?,this,conc],l1⟩,l2⟩
   ·cases hr
  ·cases hr
theorem jNq(hC:CfgOK P C){fr:Tr V}(g:FrE C D ρ fr a)(rel:Rel s0 U D ρ h w):∀(l:List ResultVar) (vs:List V),resL C fr h l=some vs->All2 (xSq P a.tmps w) l (zwq ρ vs)/\InDL (DD D ρ) vs
 |[],vs,e=>by
  simp only[resL,Option.some.injEq] at e;subst e;exact⟨trivial,trivial⟩
 |r::l,vs,e=>by
  simp only[resL] at e;split at e
  ·rename_i v vs' h1 h2;cases e;obtain⟨q1,q2⟩:=resV_spec hC g rel h1;obtain⟨q3,q4⟩:=jNq hC g rel l vs' h2;exact⟨⟨q1,q3⟩,q2,q4⟩
  ·cases e
theorem yzq(ρ:Env)(l:List V):(zwq ρ l).length=l.length:=by rw[kdq];simp
theorem fin_sound(hC:CfgOK P C){fn:Func}{st:St}{v:V}(hf:finV C fn st=some (v,h'))(hU:h'.next<=U){r:Option Nat}(g:StR C s0 U N r [] D ρ st a w){R:Ending->World->Prop}(k:∀w',Rel s0 U D ρ h' w'->Nxt D ρ st.h w D ρ h' w'->InD (DD D ρ) v->R (.returned (conc ρ v)) w'):
  LeavesInM Fence.wide 0 P fn a.tmps R a.defers .returning w:=by
 unfold finV at hf;split at hf
 ·cases hf
 ·rename_i h1 ht;rw[g.defs,List.append_nil];split at hf
  ·rename_i u hr;cases hf;refine kyq _ _ _ _ ht hU g.rel g.din λw' r' n'=>?_
   have g':FrE C D ρ st.fr a:=g.fr;obtain⟨q1,q2⟩:=jNq hC g' r' _ _ hr
   have hrl:∃rv,fn.results.toList=[rv]:=by
    cases hl:fn.results.toList with
    |nil=>rw[hl] at q1;exact q1.elim
    |cons rv l=>cases l with
     |nil=>exact⟨rv,rfl⟩
     |cons _ _=>rw[hl] at q1;exact q1.2.elim
   obtain⟨rv,hrv⟩:=hrl;rw[hrv] at q1;exact⟨_,results1 (by apply Array.toList_inj.1;simpa using hrv) q1.1,k w' r' n' q2.1⟩
  ·rename_i us hne hr;cases hf;refine kyq _ _ _ _ ht hU g.rel g.din λw' r' n'=>?_
   obtain⟨q1,q2⟩:=jNq hC g.fr r' _ _ hr
   refine⟨_,resultsN (rvs:=fn.results.toList) Xe (λe=>?_) q1,by
    have:=k w' r' n' q2;simpa[conc] using this⟩
   rw[yzq] at e;cases us with
   |nil=>cases e
   |cons u us=>cases us with
    |nil=>exact hne u rfl
    |cons _ _=>cases e
  ·cases hf
end
noncomputable def qCq(P:Program)(C:Cfg)(f:FuncId)(k:List V->Heap->Option (V×Heap)):Prop:=∀vs h v h',k vs h=some (v,h') ->
 Mono h h'/\(∀args w,(callFunc f args).run P w= .ok (.enter f args) w)/\∀s0 U D ρ w,h'.next<=U->GlobOK C (DD D ρ) ρ->InDL (DD D ρ) vs->Rel s0 U D ρ h w->Calls P f (zwq ρ vs).toArray w (q1q s0 U D ρ h w v h')
noncomputable def yQq(P:Program)(C:Cfg):Prop:=∀f k,C.known f=some k->qCq P C f k
structure RunOK(P:Program)(C:Cfg)(n:Nat):Prop where
 self:SelfOK P C ⟨yhq C n,zLq C n⟩
 loop:∀N c,z8q N c=true->qyq P C N (zRq C n c) (λr Q a w=>Code.roundsIn (FF r) 0 P c Q n a w)
 scope:∀N c l,z8q N c=true->qyq P C N (zJq C n c l) (λr Q a w=>xuq (FF r) 0 P c Q n l a w)
section
variable {P:Program} {C:Cfg}
theorem qrq(hmx:P.follows .mixedOrders=true)(hC:CfgOK P C){n:Nat}(ih:RunOK P C n){N:Nat}{c:Code}(hok:z8q N c=true):
  qyq P C N (zbq ⟨yhq C n,zLq C n⟩ ⟨zRq C n,zJq C n⟩ C c) (λr Q a w=>c.wpIn (FF r) 0 P Q a w):=
 qpq hC ih.self ⟨n,ih.loop,ih.scope⟩ (region_sound hmx hC ih.self) c hok
theorem run_loop(hmx:P.follows .mixedOrders=true)(hC:CfgOK P C){n:Nat}(ih:RunOK P C n)(N:Nat)(c:Code)(hok:z8q N c=true):qyq P C N (zRq C (n+1) c) (λr Q a w=>Code.roundsIn (FF r) 0 P c Q (n+1) a w):=by
 intro st x st' he;have cs:=qrq hmx hC ih hok;simp only[zRq] at he;split at he
 ·rename_i st1 h1;obtain⟨m1,k1⟩:=cs _ _ _ h1;obtain⟨m2,k2⟩:=ih.loop N c hok _ _ _ he;refine⟨m1.trans m2,λs0 U r tl D ρ a w Q hU g k=>k1 s0 U r tl D ρ a w _ (Nat.le_trans m2.nxt hU) g λD1 ρ1 a1 w1 g1 n1=>?_⟩;exact k2 s0 U r tl D1 ρ1 a1 w1 Q hU g1 λD2 ρ2 a2 w2 g2 n2=>k D2 ρ2 a2 w2 g2 (n1.trans g.rel.lt hU n2)
 ·rename_i hne;obtain⟨m1,k1⟩:=cs _ _ _ he;refine⟨m1,λs0 U r tl D ρ a w Q hU g k=>k1 s0 U r tl D ρ a w _ hU g λD1 ρ1 a1 w1 g1 n1=>?_⟩;have hq:=k D1 ρ1 a1 w1 g1 n1;cases x with
  |normal=>exact absurd he (hne st')
  |_=>exact hq
theorem run_scope(hmx:P.follows .mixedOrders=true)(hC:CfgOK P C){n:Nat}(ih:RunOK P C n)(N:Nat)(c:Code)(l:Nat)(hok:z8q N c=true):qyq P C N (zJq C (n+1) c l) (λr Q a w=>xuq (FF r) 0 P c Q (n+1) l a w):=by
 intro st x st' he;simp only[zJq] at he;split at he
 ·rename_i rest hrest;have cs:=qrq hmx hC ih (jVq c l rest hrest hok);split at he
  ·rename_i l' st1 h1;obtain⟨m1,k1⟩:=cs _ _ _ h1;obtain⟨m2,k2⟩:=ih.scope N c l' hok _ _ _ he;refine⟨m1.trans m2,λs0 U r tl D ρ a w Q hU g k=>⟨rest,hrest,k1 s0 U r tl D ρ a w _ (Nat.le_trans m2.nxt hU) g λD1 ρ1 a1 w1 g1 n1=>?_⟩⟩;exact k2 s0 U r tl D1 ρ1 a1 w1 Q hU g1 λD2 ρ2 a2 w2 g2 n2=>k D2 ρ2 a2 w2 g2 (n1.trans g.rel.lt hU n2)
  ·rename_i hne;obtain⟨m1,k1⟩:=cs _ _ _ he;refine⟨m1,λs0 U r tl D ρ a w Q hU g k=>⟨rest,hrest,k1 s0 U r tl D ρ a w _ hU g λD1 ρ1 a1 w1 g1 n1=>?_⟩⟩;have hq:=k D1 ρ1 a1 w1 g1 n1;cases x with
   |goto l=>exact absurd he (hne l st')
   |_=>exact hq
 ·cases he
theorem run_fn(hmx:P.follows .mixedOrders=true)(hC:CfgOK P C)(hF:khq P C)(hK:yQq P C){n:Nat}(ih:RunOK P C n){f:FuncId}{vs:List V}{h:Heap}{v:V}{h':Heap}(hr:yhq C (n+1) f vs h=some (v,h')):
  Mono h h'/\(∀args w,(callFunc f args).run P w= .ok (.enter f args) w)/\∀s0 U D ρ w,h'.next<=U->GlobOK C (DD D ρ) ρ->InDL (DD D ρ) vs->Rel s0 U D ρ h w->Calls P f (zwq ρ vs).toArray w (q1q s0 U D ρ h w v h'):=by
 simp only[yhq] at hr;split at hr
 ·rename_i k hk;exact hK f k hk _ _ _ _ hr
 split at hr
 ·cases hr
 ·rename_i fn hfn;obtain⟨hf,he,hok⟩:=hF f fn hfn;split at hr
  ·rename_i c hb hle;have hle:=Zb hle;have cs:=qrq hmx hC ih (hok c hb)
   have key:∀x st,(x= .normal\/x= .ret) ->zbq ⟨yhq C n,zLq C n⟩ ⟨zRq C n,zJq C n⟩ C c ⟨jJq 0 vs .nil,h,[],false⟩=some (x,st) ->finV C fn st=some (v,h') ->
     Mono h h'/\∀s0 U D ρ w,h'.next<=U->GlobOK C (DD D ρ) ρ->InDL (DD D ρ) vs->Rel s0 U D ρ h w->Calls P f (zwq ρ vs).toArray w (q1q s0 U D ρ h w v h'):=λx st hx h1 h2=>by
    obtain⟨m1,k1⟩:=cs _ _ _ h1;have m2:=xcq h2;refine⟨m1.trans m2,λs0 U D ρ w hU gl hin rel=>?_⟩;refine callsIn_wide.1 (callsIn_of_wp_marks (F:=Fence.wide) (n:=0) hf hb trivial ?_)
    have harg:∀t u,(jJq 0 vs .nil).get t=some u->((zwq ρ vs).toArray++Array.replicate (fn.ntmps-(zwq ρ vs).toArray.size) undef)[t]? =some (conc ρ u)/\InD (DD D ρ) u:=λt u hu=>by
     rw[xmq] at hu;split at hu
     ·rename_i hlt;simp only[Nat.sub_zero,Nat.zero_add] at hu hlt;refine⟨?_,InDL.at_ hin hu⟩;rw[Array.getElem?_append_left (by simp[yzq];exact hlt.2),kdq];simp[hu]
     ·simp[Tr.get_nil] at hu
    refine k1 s0 U none [] D ρ _ w _ (Nat.le_trans m2.nxt hU) ⟨⟨⟨λt u hu=>(harg t u hu).1,λt u hu=>(harg t u hu).2,gl⟩⟩,rel,?_,rfl,(λd hd=>by cases hd),rfl⟩ λD1 ρ1 a1 w1 g1 n1=>?_
    ·simp only[Array.size_append,Array.size_replicate,List.size_toArray,yzq];omega
    ·have fin:=fin_sound (P:=P) hC h2 hU g1 (R:=q1q s0 U D ρ h w v h') λw' r' n' i'=>⟨D1,ρ1,rfl,r',n1.trans rel.lt hU n',i'⟩
     rcases hx with rfl|rfl<;>exact fin
   split at hr
   ·rename_i st h1;obtain⟨q1,q2⟩:=key _ _ (.inl rfl) h1 hr;exact⟨q1,he,q2⟩
   ·rename_i st h1;obtain⟨q1,q2⟩:=key _ _ (.inr rfl) h1 hr;exact⟨q1,he,q2⟩
   ·cases hr
  ·cases hr
theorem run_yld(hmx:P.follows .mixedOrders=true)(hC:CfgOK P C){n:Nat}(ih:RunOK P C n){l:Nat}{vs:List V}{h:Heap}{v:V}{h':Heap}(hr:zLq C (n+1) l vs h=some (v,h')):
  ∀s0 U D ρ w,h'.next<=U->GlobOK C (DD D ρ) ρ->D l->InDL (DD D ρ) vs->Rel s0 U D ρ h w->YieldAt Fence.wide 0 P (ρ.l l).1 (zwq ρ vs).toArray w (q1q s0 U D ρ h w v h'):=by
 simp only[zLq] at hr;split at hr
 ·rename_i fr ps asg bd d hget;split at hr
  ·cases hr
  ·rename_i hlen;have hlen:vs.length=ps.size:=Nat.eq_of_beq_eq_true hlen;split at hr
   ·rename_i st1 h1;split at hr
    ·rename_i fr1 ps1 asg1 bd1 d1 hget1;split at hr
     ·rename_i x st2 h2;split at hr
      ·rename_i fr2 ps2 asg2 bd2 d2 hget2
       --the end of a round
       obtain⟨b,stt,pe,hb,hst,hv,hh⟩:∃(b:Bool) (stt:LoopState) (pe:Option Code),(pe.isNone=b/\stt=(if pe.isNone then .ready else .done))/\((x= .normal/\pe=none)\/(x= .ret/\pe=some .ret)\/(∃id,x= .exit id/\pe=some (.exit id))\/(∃id,x= .goto id/\pe=some (.goto id)))/\v= .bool b/\h'=st2.h.put l (.loop stt pe fr2 ps2 asg2 bd2 d2):=by
        split at hr
        ·cases hr;exact⟨true,.ready,none,⟨rfl,rfl⟩,.inl ⟨rfl,rfl⟩,rfl,rfl⟩
        ·cases hr;exact⟨false,.done,_,⟨rfl,rfl⟩,.inr (.inl ⟨rfl,rfl⟩),rfl,rfl⟩
        ·cases hr;exact⟨false,.done,_,⟨rfl,rfl⟩,.inr (.inr (.inl ⟨_,rfl,rfl⟩)),rfl,rfl⟩
        ·cases hr;exact⟨false,.done,_,⟨rfl,rfl⟩,.inr (.inr (.inr ⟨_,rfl,rfl⟩)),rfl,rfl⟩
        ·cases hr
       subst hv;subst hh
       clear hr;obtain⟨hb1,hb2⟩:=hb;intro s0 U D ρ w hU gl hl hin rel;have hU2:st2.h.next<=U:=hU;obtain⟨o,q1,q2⟩:=rel.has l _ hl hget;obtain⟨fnM,tmps,rfl,qt,ql,qp,qa,qb⟩:=q2;have hcl:=rel.clo l _ hl hget;have hlh:=rel.blt hget;have hy:=run_yield (P:=P) (args:=(zwq ρ vs).toArray) q1 (by simp[yzq,hlen]);rw[ql];refine⟨fnM,_,asg,bd,hy,roundIn_FF (r:=none) (n:=0) (roundIn_of_wpIn (F:=Fence.wide) trivial ?_)⟩;clear hy;obtain⟨g1,g2⟩:=vsq (ρ:=ρ) (D:=DD D ρ) ps.toList vs fr tmps (λt u hu=>⟨qt t u hu,hcl.1 t u hu⟩) hin qp
       have hT:(ps.zip (zwq ρ vs).toArray).foldl (λtmps (t,a)=>tmps.setIfInBounds t a) tmps=(ps.toList.zip (zwq ρ vs)).foldl (λt (p:Tmp×Value)=>t.setIfInBounds p.1 p.2) tmps:=by
        rw[<-Array.foldl_toList,Array.toList_zip]
       simp only[hT];obtain⟨m1,k1⟩:=qrq hmx hC ih qa _ _ _ h1;obtain⟨m2,k2⟩:=qrq hmx hC ih qb _ _ _ h2;have hU1:st1.h.next<=U:=Nat.le_trans m2.nxt hU2;refine k1 s0 U (some (ρ.b l)) [] D ρ _ w _ hU1 ⟨⟨⟨λt u hu=>(g1 t u hu).1,λt u hu=>(g1 t u hu).2,gl⟩⟩,rel,g2,rfl,(λd hd=>by cases hd),rfl⟩ λD1 ρ1 a1 w1 s1 n1=>?_
       have hl1:D1 l:=n1.sub l hl;have eb1:ρ1.b l=ρ.b l:=(n1.env l (.inl hlh)).1;obtain⟨o1,p1,p2⟩:=s1.rel.has l _ hl1 hget1;obtain⟨fn1,tmps1,rfl,pt,pl,pp,pa,pb⟩:=p2;have hcl1:=s1.rel.clo l _ hl1 hget1;have hlh1:=s1.rel.blt hget1;have p1':=p1;rw[eb1] at p1';refine⟨_,run_beginRound p1' rfl,?_⟩;have ht:=ybq (w:=w1) (b:=ρ1.b l) (.loop {state:=.busy,pending:=none,fn:=fn1,tmps:=tmps1,params:=ps1,assign:=asg1,body:=bd1,defers:=ρ1.b d1}) (Array.getElem?_eq_some_iff.1 p1).1;obtain⟨r2,n2⟩:=s1.rel.put (b':=.loop .busy none fr1 ps1 asg1 bd1 d1) hl1 hget1 Z Z ht ⟨fn1,tmps1,rfl,pt,pl,pp,pa,pb⟩ hcl1;rw[eb1] at r2 n2;have n12:=n1.trans rel.lt (by exact hU1) n2;refine k2 s0 U (some (ρ.b l)) [] D1 ρ1 a1 _ _ hU2 (s1.next hU1 n2 r2) λD3 ρ3 a3 w3 s3 n3=>?_
       have hl3:D3 l:=n3.sub l hl1;have eb3:ρ3.b l=ρ.b l:=((n3.env l (.inl hlh1)).1).trans eb1;obtain⟨o3,t1,t2⟩:=s3.rel.has l _ hl3 hget2;obtain⟨fn3,tmps3,rfl,tt,tl,tp,ta,tb⟩:=t2;have hcl3:=s3.rel.clo l _ hl3 hget2;have t1':=t1;rw[eb3] at t1';have ht3:=ybq (w:=w3) (b:=ρ3.b l) (.loop {state:=stt,pending:=pe,fn:=fn3,tmps:=tmps3,params:=ps2,assign:=asg2,body:=bd2,defers:=ρ3.b d2}) (Array.getElem?_eq_some_iff.1 t1).1;obtain⟨r4,n4⟩:=s3.rel.put (b':=.loop stt pe fr2 ps2 asg2 bd2 d2) hl3 hget2 Z Z ht3 ⟨fn3,tmps3,rfl,tt,tl,tp,ta,tb⟩ hcl3;rw[eb3] at r4 n4;have n14:=(n12.trans rel.lt hU2 n3).trans rel.lt hU n4;have hrun:=run_endRound (P:=P) pe t1'
       have fin:∃v w',(Instr.endRound (ρ.b l) pe).run P w3= .ok v w'/\q1q s0 U D ρ h w (.bool b) (st2.h.put l (.loop stt pe fr2 ps2 asg2 bd2 d2)) (.returned v) w':=by
        refine⟨_,_,hrun,D3,ρ3,?_,?_,?_,trivial⟩
        ·rw[hb1];rfl
        ·rw[<-hb2];exact r4
        ·rw[<-hb2];exact n14
       rcases hst with ⟨rfl,rfl⟩|⟨rfl,rfl⟩|⟨id,rfl,rfl⟩|⟨id,rfl,rfl⟩<;>exact fin
      ·cases hr
     ·cases hr
    ·cases hr
   ·cases hr
 ·cases hr
theorem upq(hmx:P.follows .mixedOrders=true)(hC:CfgOK P C)(hF:khq P C)(hK:yQq P C):∀n,RunOK P C n
 |0=>⟨⟨(runM C (λf k hk vs h v h' he=>(hK f k hk vs h v h' he).1) 0).1.fn,λf vs h v h' he=>by simp[yhq] at he,λf vs h v h' he=>by simp[yhq] at he,(runM C (λf k hk vs h v h' he=>(hK f k hk vs h v h' he).1) 0).1.yield,λl vs h v h' he=>by simp[zLq] at he⟩,
   λN c _ st x st' he=>by simp[zRq] at he,λN c l _ st x st' he=>by simp[zJq] at he⟩
 |n+1=>by
  have ih:=upq hmx hC hF hK n;have m:=runM C (λf k hk vs h v h' he=>(hK f k hk vs h v h' he).1) (n+1)
  exact⟨⟨m.1.fn,λf vs h v h' he=>(run_fn hmx hC hF hK ih he).2.1,λf vs h v h' he=>(run_fn hmx hC hF hK ih he).2.2,m.1.yield,λl vs h v h' he=>run_yld hmx hC ih he⟩,
   run_loop hmx hC ih,run_scope hmx hC ih⟩
theorem known_of(hmx:P.follows .mixedOrders=true)(hC:CfgOK P C)(hF:khq P C)(hK:yQq P C){f:FuncId}{k:List V->Heap->Option (V×Heap)}(hk:∀vs h v h',k vs h=some (v,h') ->∃n,yhq C n f vs h=some (v,h')):qCq P C f k:=λvs h v h' he=>by
 obtain⟨n,hn⟩:=hk vs h v h' he;have s:=(upq hmx hC hF hK n).self;exact⟨s.fnMono f vs h v h' hn,s.fnEnter f vs h v h' hn,s.fn f vs h v h' hn⟩
theorem run_calls(hmx:P.follows .mixedOrders=true)(hC:CfgOK P C)(hF:khq P C)(hK:yQq P C){n:Nat}{f:FuncId}{vs:List V}{h:Heap}{v:V}{h':Heap}(hr:yhq C n f vs h=some (v,h')){D:Nat->Prop}{ρ:Env}{w:World}(gl:GlobOK C (DD D ρ) ρ)(hin:InDL (DD D ρ) vs)(rel:Rel w h'.next D ρ h w):
  Calls P f (zwq ρ vs).toArray w λe w'=>∃D' ρ',e= .returned (conc ρ' v)/\Below w.heap.size w w'/\Rel w h'.next D' ρ' h' w'/\Nxt D ρ h w D' ρ' h' w':=
 ((upq hmx hC hF hK n).self.fn f vs h v h' hr w h'.next D ρ w (Nat.le_refl _) gl hin rel).mono λe w'=>by
  rintro⟨D',ρ',rfl,q1,q2,_⟩;exact⟨D',ρ',rfl,q1.base,q1,q2⟩
end
end
end Go.Proofs.YthicobhmmikngaaGreatDoor

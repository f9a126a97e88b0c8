/-
  What the proof of AutoRolls stands on, part 7. No condition.
-/
import Derived.OpenShut
import Derived.Test.YtpjfmknefefapaaGreatDoorZAutoRollsF
set_option linter.unusedSimpArgs false
set_option linter.unusedVariables false
namespace Go.Proofs.YtpjfmknefefapaaGreatDoor
section
open Go.RowKit
theorem QZq{C:Cfg}{G G2:Nat->Option W}{f:FuncId}{m:Nat}{ws:List W}{hp:HpW}{Q:W->HpW->Nat->Prop}(hG:∀g w,G g=some w->G2 g=some w)(h:qbq C G f m ws hp Q):qbq C G2 f m ws hp Q:=λR Γ X vs e s hv=>by
 obtain⟨n,v,Γ',X',w,hp',R',h1,h2,h3,h4,h5⟩:=h R Γ X vs e ⟨s.wf,s.own,s.inj,s.nd,s.dX,s.xlt,s.dlt,s.res,λg w hg hw=>s.gl g w hg (hG g w hw)⟩ hv;refine⟨n,v,Γ',X',w,hp',R',h1,⟨h2.wf,h2.own,h2.inj,h2.nd,h2.dX,h2.xlt,h2.dlt,h2.res,λg w hg hw nw σ=>RV.mono (Γ:=⟨nw,σ,Γ.D,Γ.h⟩) (Γ':=⟨nw,σ,Γ'.D,Γ'.h⟩) ⟨Nat.le_refl _,λ_ _=>rfl,h3.dsub,λc hc=>yMq (h3.keep c (s.dlt c hc) ?_ (s.dX c hc))⟩ (s.gl g w hg hw nw σ)⟩,h3,h4,h5⟩;rintro⟨b,x,hb,rfl⟩;exact(s.own b x.1 x.2 hb).2.1 hc
theorem ps_gl{C:Cfg}{G G2:Nat->Option W}{f:FuncId}{ws:List W}{r:W}(hG:∀g w,G g=some w->G2 g=some w)(h:PS C G f ws r):PS C G2 f ws r:=QZq hG h
def hdG:Hdr:=⟨0,khq,khq,khq,0⟩
def itZ:Itm:=⟨false,⟨0,false,hdG⟩⟩
def itG:Itm:=⟨true,⟨0,false,hdG⟩⟩
noncomputable def glT:Nat->Option W:=λg=>match Nat.beq g 0 with
 |true=>some (itmW itG)
 |false=>glK g
theorem x7q(g:Nat)(w:W)(h:glK g=some w):glT g=some w:=by
 unfold glT;split
 ·rename_i e;obtain rfl:=Nat.eq_of_beq_eq_true e;cases h
 ·exact h
noncomputable instance(x y:Itm):Decidable (x=y):=Classical.propDecidable _
theorem eq_it(x y:Itm):eqW cfg 300 61 (itmW x) (itmW y)=some (decide (x=y)):=by
 rw[uuq (p:=x=y) (b:=decide (x.gap=y.gap)&&((decide (x.ev.number=y.ev.number)&&(decide (x.ev.roll=y.ev.roll)&&((decide (x.ev.hdr.height=y.ev.hdr.height)&&(decide (x.ev.hdr.parent=y.ev.hdr.parent)&&(decide (x.ev.hdr.state=y.ev.hdr.state)&&(decide (x.ev.hdr.rows=y.ev.hdr.rows)&&(decide (x.ev.hdr.many=y.ev.hdr.many)&&true)))))&&true)))&&true)) (by
  obtain⟨a,b,c,d,e,f,g,h⟩:=x;obtain⟨a',b',c',d',e',f',g',h'⟩:=y;simp only[Itm.mk.injEq,Eve.mk.injEq,Hdr.mk.injEq,Bool.and_eq_true,decide_eq_true_eq,and_true])]
 exact qrq Z Z Z Z (zuq Z Z Z (eq_bool Z Z) (zuq Z Z Z (qrq Z Z Z Z (zuq Z Z Z (qcq Z Z) (zuq Z Z Z (eq_bool Z Z) (zuq Z Z Z (qrq Z Z Z Z (zuq Z Z Z (qcq Z Z) (zuq Z Z Z (y1q Z Z Z Z Z Z _ _ _) (zuq Z Z Z (y1q Z Z Z Z Z Z _ _ _) (zuq Z Z Z (y1q Z Z Z Z Z Z _ _ _) (zuq Z Z Z (qcq Z Z) q1q)))))) q1q)))) q1q))
section
attribute [local irreducible] CoW OpW FlW Step Spec
def Q7q(l:List Itm):Nat->Itm
 |0=>itZ
 |i+1=>l.getD i itZ
theorem lastI_s{l:List Itm}{i:Nat}(h:i<l.length):l[i]? =some (Q7q l (i+1)):=by
 show l[i]? =some (l.getD i itZ);rw[List.getD_eq_getElem?_getD,List.getElem?_eq_getElem h];rfl
def ItM(p x:Itm):Prop:=if x.gap=true then x=itG/\p≠itG else EveM x.ev
theorem itm_t{p x:Itm}(h:x.gap=true):ItM p x↔x=itG/\p≠itG:=by unfold ItM;rw[if_pos h]
theorem itm_f{p x:Itm}(h:¬x.gap=true):ItM p x↔EveM x.ev:=by unfold ItM;rw[if_neg h]
def TpM(t:Tp):Prop:=t.items.length<=64/\∀i,i<t.items.length->ItM (Q7q t.items i) (Q7q t.items (i+1))
noncomputable instance(t:Tp):Decidable (TpM t):=Classical.propDecidable _
noncomputable def zd32:W:=.arr 32 1 (List.replicate 32 (.int .u8 0))
noncomputable def itZw:W:=.agg 101 [.bool false,.agg 100 [.int .i64 0,.bool false,.agg 98 [.int .i64 0,zd32,zd32,zd32,.int .i64 0]]]
theorem itZ_view{μ:Nat->Option W}:View μ itZw (itmW itZ):=.agg (.cons (.pur rfl) (.cons (.agg (.cons (.pur rfl) (.cons (.pur rfl) (.cons (.agg (.cons (.pur rfl) (.cons jLq (.cons jLq (.cons jLq (.cons (.pur rfl) .nil)))))) .nil)))) .nil))
set_option maxRecDepth 100000 in
theorem tpchk_s(t:Tp)(hl:t.items.length<=4611686018427387903):PS cfg glT 70 [tpW t] (.int .i64 (if TpM t then 0 else 8)):=by
 have rf:refL 2 (t.items.map itmW)=true:=zfq (w:=.fz (t.items.map itmW) 101 false) (show purL (t.items.map itmW)=true from Q9q _);have e:(t.items.map itmW).length=t.items.length:=List.length_map _;by_cases h0:t.items.length<=64
 ·skip
  refine gI 11 Z (λR k0=>gZ 0 Z e (gF 0 Z (ltI_not.2 Xd) (zbq 15 Z (vSq (λ_=>ent_blkv (b:=1) (w':=itmW itZ) rfl itZ_view) (yVq Z Z ?_)))))
  refine op_mem Z Z (jyq (w':=.int .i64 ((t.items.length:Nat):Int)) Z Z Xx ?_);refine zpq 4 Z ?_;refine k4q (α:=Nat×Itm) (λq=>(q.1<=t.items.length/\q.2=Q7q t.items q.1)/\∀j,j<q.1->ItM (Q7q t.items j) (Q7q t.items (j+1))) (λq=>[(14,.int .i64 (q.1:Int))]) [(2,_),(3,_),(12,_),(13,_)] (λq=>[(1,61,itmW q.2),(0,106,tpW t)]) (λq=>t.items.length-q.1) ((0,itZ)) ⟨rfl,rfl,rfl,rfl,trivial⟩ (⟨⟨Nat.zero_le _,rfl⟩,λj h=>by simp at h⟩) ⟨rfl,trivial⟩ (rfl) (λq hI=>?_);obtain⟨i,p⟩:=q;obtain⟨⟨g1,gp⟩,g2⟩:=hI;simp only at g1 gp g2;refine z9q 6 Z ?_;refine gS 0 Z (λh1=>?_) (λh1=>?_)
  ·have hi:i<t.items.length:=by omega
   have hxi:=lastI_s hi;obtain⟨x,hx⟩:∃x,Q7q t.items (i+1)=x:=⟨_,rfl⟩
   rw[hx] at hxi
   have step:ItM p x->∀j,j<i+1->ItM (Q7q t.items j) (Q7q t.items (j+1)):=λq j hj=>by
    rcases Nat.lt_succ_iff_lt_or_eq.1 hj with h|rfl
    ·exact g2 j h
    ·rw[hx,<-gp];exact q
   have stop:¬ItM p x->¬TpM t:=λq r=>q (by have:=r.2 i hi;rw[hx,<-gp] at this;exact this)
   obtain⟨g,ev⟩:=x;skip
   cases g with
   |true=>
    by_cases h1:(⟨true,ev⟩:Itm)=itG
    ·by_cases h2:p=itG
     ·exact zLq 6 Z (gP 0 Z (zGq (i:=i) Z Z Z Z Z Z Z (znq itmW hxi)) (zbq 13 Z (jyq (w':=.bool false) rfl (jcq Z Z Z Z (eq_it ⟨true,ev⟩ itG)) (by rw[decide_eq_true h1];rfl) (zpq 3 Z (jyq (w':=.bool true) rfl (yCq Z Z Z Z (eq_it p itG)) Qk (zpq 25 Z (q4q Xi (zZq 2 Z (gQ 0 Z (by rw[if_neg (stop λq=>((itm_t rfl).1 q).2 h2)]))))))))))
     ·refine zLq 6 Z (gP 0 Z (zGq (i:=i) Z Z Z Z Z Z Z (znq itmW hxi)) (zbq 13 Z (jyq (w':=.bool false) rfl (jcq Z Z Z Z (eq_it ⟨true,ev⟩ itG)) (by rw[decide_eq_true h1];rfl) (zpq 3 Z (jyq (w':=.bool false) rfl (yCq Z Z Z Z (eq_it p itG)) (by rw[decide_eq_false h2]) (zpq 25 Z (gWr 0 Z (zbq 2 Z ?_))))))));skip
      exact qwq ((i+1,(⟨true,ev⟩:Itm)):Nat×Itm) ⟨⟨by show i+1<=_;omega,hx.symm⟩,step ((itm_t rfl).2 ⟨h1,h2⟩)⟩ (by show t.items.length-(i+1)<t.items.length-i;omega) (q2q (nw2:=2) (Nat.zero_le _) Xd (by(repeat (first|exact trivial|refine⟨rfl,?_⟩))) (by simp[refB,rf]) (qtq ⟨⟨by omega,rfl,zfq (kWq _)⟩,⟨by omega,rfl,zfq (QCq t)⟩,trivial⟩) Xl)
    ·exact zLq 6 Z (gP 0 Z (zGq (i:=i) Z Z Z Z Z Z Z (znq itmW hxi)) (zbq 13 Z (jyq (w':=.bool true) rfl (jcq Z Z Z Z (eq_it ⟨true,ev⟩ itG)) (by rw[decide_eq_false h1];rfl) (zpq 29 Z (q4q Xi (zZq 2 Z (gQ 0 Z (by rw[if_neg (stop λq=>h1 ((itm_t rfl).1 q).1)]))))))))
   |false=>
    by_cases h1:EveM ev
    ·refine zLq 6 Z (gP 0 Z (zGq (i:=i) Z Z Z Z Z Z Z (znq itmW hxi)) (gC 27 Z (zxq (w':=.bool true) (Jjq ev) (by rw[decide_eq_true (h1)])) (gWr 15 Z (zbq 2 Z ?_))));skip
     exact qwq ((i+1,(⟨false,ev⟩:Itm)):Nat×Itm) ⟨⟨by show i+1<=_;omega,hx.symm⟩,step ((itm_f Xl).2 h1)⟩ (by show t.items.length-(i+1)<t.items.length-i;omega) (q2q (nw2:=2) (Nat.zero_le _) Xd (by(repeat (first|exact trivial|refine⟨rfl,?_⟩))) (by simp[refB,rf]) (qtq ⟨⟨by omega,rfl,zfq (kWq _)⟩,⟨by omega,rfl,zfq (QCq t)⟩,trivial⟩) Xl)
    ·exact zLq 6 Z (gP 0 Z (zGq (i:=i) Z Z Z Z Z Z Z (znq itmW hxi)) (gC 27 Z (zxq (w':=.bool false) (Jjq ev) (by rw[decide_eq_false (h1)])) (zbq 15 Z (q4q Xi (zZq 2 Z (gQ 0 Z (by rw[if_neg (stop λq=>h1 ((itm_f Xl).1 q))])))))))
  ·have yes:TpM t:=⟨h0,λj hj=>g2 j Xd⟩;exact zbq 2 Z (q4q Xi (zZq 8 Z (gQ 0 Z Yk)))
 ·skip
  exact gI 11 Z (λR k0=>gZ 0 Z e (gT 0 Z (ltI_iff.2 Xd) (gQ 10 Z (by rw[if_neg λq:TpM t=>h0 q.1]))))
def lastS(l:List Sb):Nat->Int
 |0=>-1
 |i+1=>((l[i]?).map (·.id)).getD (-1)
theorem lastS_s{l:List Sb}{i:Nat}{s:Sb}(h:l[i]? =some s):lastS l (i+1)=s.id:=by
 show((l[i]?).map (·.id)).getD (-1)=_;rw[h];rfl
def SbM(p n:Int)(s:Sb):Prop:=((p<s.id/\s.id<n)/\(0<=s.beg/\s.beg<1073741824))/\TpM s.tap
def HbM(h:Hb):Prop:=((0<=h.next/\h.next<1073741824)/\h.subs.length<=16)/\∀(i:Nat) s,h.subs[i]? =some s->SbM (lastS h.subs i) h.next s
noncomputable instance(h:Hb):Decidable (HbM h):=Classical.propDecidable _
theorem hbchk_s(h:Hb)(hl:h.subs.length<=4611686018427387903)(hx:∀s∈h.subs,s.tap.items.length<=4611686018427387903):PS cfg glT 32 [hbW h] (.int .i64 (if HbM h then 0 else 8)):=by
 have e:(h.subs.map sbW).length=h.subs.length:=List.length_map _;by_cases h0:0<=h.next/\h.next<1073741824
 ·by_cases hm:h.subs.length<=16
  ·skip
   refine gI 11 Z (λR k0=>gC 0 Z (zxq (w':=.bool true) (Y1q h.next) (by rw[decide_eq_true (h0)])) (gZ 4 Z e (gF 0 Z (ltI_not.2 Xd) (gZ 16 Z e ?_))));refine gLo (α:=Nat×Int) 4 (λq=>(q.1<=h.subs.length/\q.2=lastS h.subs q.1)/\∀j,j<q.1->∀s,h.subs[j]? =some s->SbM (lastS h.subs j) h.next s) (λq=>[(19,.int .i64 (q.1:Int)),(3,.int .i64 q.2)]) [1,2,17,18] (λq=>h.subs.length-q.1) ((0,-1)) rfl (⟨⟨Nat.zero_le _,rfl⟩,λj h=>by simp at h⟩) (λq hI=>?_);obtain⟨i,p⟩:=q;obtain⟨⟨g1,gp⟩,g2⟩:=hI;simp only at g1 gp g2;refine gS 6 Z (λh1=>?_) (λh1=>?_)
   ·have hi:i<h.subs.length:=by omega
    obtain⟨s,hs⟩:∃s,h.subs[i]? =some s:=⟨_,List.getElem?_eq_getElem hi⟩
    have stop:¬SbM p h.next s->¬HbM h:=λq r=>q (by have:=r.2 i s hs;rw[<-gp] at this;exact this)
    have hk:=hx s (List.mem_of_getElem? hs);skip
    by_cases k1:p<s.id
    ·by_cases k2:s.id<h.next
     ·by_cases k3:0<=s.beg/\s.beg<1073741824
      ·by_cases k4:TpM s.tap
       ·exact gP 6 Z (zGq (i:=i) Z Z Z Z Z Z Z (znq sbW hs)) (gF 11 Z (congrArg not (ltI_iff.2 (k1))) (gF 5 Z (congrArg not (ltI_iff.2 (k2))) (gC 4 Z (zxq (w':=.bool true) (Y1q s.beg) (by rw[decide_eq_true (k3)])) (gC 5 Z (zxq (w':=.int .i64 0) (tpchk_s s.tap hk) (by rw[if_pos k4])) (gF 0 Z (congrArg not (eqI_iff.2 (rfl))) (gWr 14 Z (gAg 2 Z ((i+1,s.id)) (⟨⟨hi,(lastS_s hs).symm⟩,λj hj z hz=>by rcases Nat.lt_succ_iff_lt_or_eq.1 hj with q|rfl;exact g2 j q z hz;have:=Option.some.inj (hs.symm.trans hz);subst this;rw[<-gp];exact⟨⟨⟨k1,k2⟩,k3⟩,k4⟩⟩) (by show h.subs.length-(i+1)<h.subs.length-i;omega))))))))
       ·exact gP 6 Z (zGq (i:=i) Z Z Z Z Z Z Z (znq sbW hs)) (gF 11 Z (congrArg not (ltI_iff.2 (k1))) (gF 5 Z (congrArg not (ltI_iff.2 (k2))) (gC 4 Z (zxq (w':=.bool true) (Y1q s.beg) (by rw[decide_eq_true (k3)])) (gC 5 Z (zxq (w':=.int .i64 8) (tpchk_s s.tap hk) (by rw[if_neg k4])) (gT 0 Z (congrArg not (eqI_not.2 Xg)) (gO 13 Z (gQ 2 Z (by rw[if_neg (stop λq=>k4 q.2)]))))))))
      ·exact gP 6 Z (zGq (i:=i) Z Z Z Z Z Z Z (znq sbW hs)) (gF 11 Z (congrArg not (ltI_iff.2 (k1))) (gF 5 Z (congrArg not (ltI_iff.2 (k2))) (gC 4 Z (zxq (w':=.bool false) (Y1q s.beg) (by rw[decide_eq_false (k3)])) (gO 20 Z (gQ 2 Z (by rw[if_neg (stop λq=>k3 q.1.2)]))))))
     ·exact gP 6 Z (zGq (i:=i) Z Z Z Z Z Z Z (znq sbW hs)) (gF 11 Z (congrArg not (ltI_iff.2 (k1))) (gT 5 Z (congrArg not (ltI_not.2 (k2))) (gO 25 Z (gQ 2 Z (by rw[if_neg (stop λq=>k2 q.1.1.2)])))))
    ·exact gP 6 Z (zGq (i:=i) Z Z Z Z Z Z Z (znq sbW hs)) (gT 11 Z (congrArg not (ltI_not.2 (k1))) (gO 31 Z (gQ 2 Z (by rw[if_neg (stop λq=>k1 q.1.1.1)]))))
   ·have yes:HbM h:=⟨⟨h0,hm⟩,λj s hs=>g2 j (by have:=qZq hs;omega) s hs⟩;exact gO 2 Z (gQ 8 Z Yk)
  ·skip
   exact gI 11 Z (λR k0=>gC 0 Z (zxq (w':=.bool true) (Y1q h.next) (by rw[decide_eq_true (h0)])) (gZ 4 Z e (gT 0 Z (ltI_iff.2 Xd) (gQ 11 Z (by rw[if_neg λq:HbM h=>hm q.1.2])))))
 ·skip
  exact gI 11 Z (λR k0=>gC 0 Z (zxq (w':=.bool false) (Y1q h.next) (by rw[decide_eq_false (h0)])) (gQ 17 Z (by rw[if_neg λq:HbM h=>h0 q.1.1])))
end
section
attribute [local irreducible] CoW OpW FlW Step Spec
variable {G:Nat->Option W}
def atE(k:Dig)(n:Nat):Nat:=kn k 31%n
theorem plat_s(k:Dig)(m:Nat)(hm:m<=7):PS cfg G 78 [dW k,.int .i64 ((m+1:Nat):Int)] (.tup [.int .i64 (atE k (m+1):Nat),.int .i64 0]):=by
 have hk:=u0q k 31;exact gI 11 Z (λR k0=>gF 0 Z (ltI_not.2 Xd) (gF 2 Z (ltI_not.2 Xd) (gX 8 Z (gM 0 Z (yiq Z Z Z (dW_ld k (i:=31) Xd)) (gWr 0 Z (gV (w':=.int .i64 ((atE k (m+1):Nat):Int)) 1 Z (congrArg (W.int .i64) (QDq (kn k 31) (m+1))) (gQa 5 Z)))))))
def FarL(n i:Nat)(l:Ln):Prop:=atE l.who n≠i
noncomputable instance(n i:Nat)(l:Ln):Decidable (FarL n i l):=Classical.propDecidable _
noncomputable instance(n i:Nat)(s:Shd):Decidable (∃l∈s,FarL n i l):=Classical.propDecidable _
theorem plchk1_s(l:Ln)(ps:List Shd)(h1:1<=ps.length/\ps.length<=8)(i:Nat)(hi:i<ps.length):PS cfg G 77 [lnW l,.fel (plW ps),.fel (.int .i64 (i:Int))] (.bool (decide (FarL ps.length i l))):=by
 obtain⟨m,hm⟩:∃m,ps.length=m+1:=⟨ps.length-1,by omega⟩
 have e:(ps.map shdW).length=m+1:=by rw[List.length_map,hm]
 rw[hm];by_cases h:atE l.who (m+1)=i
 ·skip
  exact gI 11 Z (λR k0=>gZ 0 Z e (gC 0 Z (plat_s l.who m Xd) (gF 11 Z (congrArg not (eqI_iff.2 Xd)) (gQ 4 Z (y2q λq=>q h)))))
 ·skip
  exact gI 11 Z (λR k0=>gZ 0 Z e (gC 0 Z (plat_s l.who m Xd) (gT 11 Z (congrArg not (eqI_not.2 Xd)) (gQ 4 Z (v6q h)))))
def PlM(ps:List Shd):Prop:=(1<=ps.length/\ps.length<=8)/\∀(i:Nat) s,ps[i]? =some s->ShM s/\¬∃l∈s,FarL ps.length i l
noncomputable instance(ps:List Shd):Decidable (PlM ps):=Classical.propDecidable _
theorem plchk_s(ps:List Shd)(hx:∀s∈ps,s.length<=1000000000/\∀l∈s,OkL l):PS cfg glK 30 [plW ps] (.int .i64 (if PlM ps then 0 else 8)):=by
 have e:(ps.map shdW).length=ps.length:=List.length_map _;have hpp:=plW_pur ps;by_cases hm1:1<=ps.length
 ·by_cases hm8:ps.length<=8
  ·skip
   refine gI 10 Z (λR k0=>gZ 0 Z e (gF 0 Z (ltI_not.2 Xd) (gZ 2 Z e (gF 0 Z (ltI_not.2 Xd) (gZ 10 Z e ?_)))));refine gLo (α:=Nat) 4 (λi=>i<=ps.length/\∀(j:Nat) s,j<i->ps[j]? =some s->ShM s/\¬∃l∈s,FarL ps.length j l) (λi=>[(15,.int .i64 (i:Int))]) [1,2,13,14] (λi=>ps.length-i) (0) rfl (⟨Nat.zero_le _,λj s h=>by omega⟩) (λi hI=>?_);obtain⟨g1,g2⟩:=hI;refine gS 6 Z (λh1=>?_) (λh1=>?_)
   ·have hi:i<ps.length:=by omega
    obtain⟨s,hs⟩:∃s,ps[i]? =some s:=⟨_,List.getElem?_eq_getElem hi⟩
    obtain⟨b1,b2⟩:=hx s (List.mem_of_getElem? hs);have hc:=ctln_s (G:=glK) s false 77 [.fel (plW ps),.fel (.int .i64 (i:Int))] (by simp[purL,purW]) (FarL ps.length i) (λl _=>plchk1_s l ps ⟨hm1,hm8⟩ i hi) rfl b1;have hps:=vyq s;have hv:∀{hp:HpW} {b:Nat},blkA hp 0=some (plW ps) ->blkA hp b=some (.int .i64 (i:Int)) ->ViewL (blkA hp) [.fz (s.map lnW) 33 false,.fn 77 [] [.ptr 0 0,.ptr b 0]] [.fz (s.map lnW) 33 false,.fn 77 [] [.fel (plW ps),.fel (.int .i64 (i:Int))]]:=λq1 q2=>.cons (.pur hps) (.cons (.fn .nil (.cons (qFq q1 hpp rfl) (.cons (qFq q2 Z Z) .nil))) .nil)
    have hpa:purL [.fz (s.map lnW) 33 false,.fn 77 [] [.fel (plW ps),.fel (.int .i64 (i:Int))]]=true:=by simp[purL,purW]
    skip
    by_cases k1:ShM s
    ·by_cases k2:∃l∈s,FarL ps.length i l
     ·exact gP 7 Z (zGq (i:=i) Z Z Z Z Z Z Z (znq shdW hs)) (gC 10 Z (zxq (w':=.int .i64 0) (ZAq s b2 Xd) (by rw[if_pos k1])) (gF 0 Z (congrArg not (eqI_iff.2 (rfl))) (zbq 4 Z (op_lk Z Z Z Z Z (hv Z Z) (zxq (w':=.bool true) hc (by rw[decide_eq_true k2])) hpa Z (zpq 12 Z (gO 0 Z (gQ 2 Z (by rw[if_neg λq:PlM ps=>(q.2 i s hs).2 k2]))))))))
     ·exact gP 7 Z (zGq (i:=i) Z Z Z Z Z Z Z (znq shdW hs)) (gC 10 Z (zxq (w':=.int .i64 0) (ZAq s b2 Xd) (by rw[if_pos k1])) (gF 0 Z (congrArg not (eqI_iff.2 (rfl))) (zbq 4 Z (op_lk Z Z Z Z Z (hv Z Z) (zxq (w':=.bool false) hc (by rw[decide_eq_false k2])) hpa Z (zpq 8 Z (gWr 0 Z (gAg 2 Z (i+1) (⟨by omega,λj z hj hz=>by rcases Nat.lt_succ_iff_lt_or_eq.1 hj with q|rfl;exact g2 j z q hz;have:=Option.some.inj (hs.symm.trans hz);subst this;exact⟨k1,k2⟩⟩) Xd)))))))
    ·exact gP 7 Z (zGq (i:=i) Z Z Z Z Z Z Z (znq shdW hs)) (gC 10 Z (zxq (w':=.int .i64 8) (ZAq s b2 Xd) (by rw[if_neg k1])) (gT 0 Z (congrArg not (eqI_not.2 Xg)) (gO 17 Z (gQ 2 Z (by rw[if_neg λq:PlM ps=>k1 (q.2 i s hs).1])))))
   ·have yes:PlM ps:=⟨⟨hm1,hm8⟩,λj s hs=>g2 j s (by have:=qZq hs;omega) hs⟩;exact gO 2 Z (gQ 8 Z Yk)
  ·skip
   exact gI 10 Z (λR k0=>gZ 0 Z e (gF 0 Z (ltI_not.2 Xd) (gZ 2 Z e (gT 0 Z (ltI_iff.2 Xd) (gQ 11 Z (by rw[if_neg λq:PlM ps=>hm8 q.1.2]))))))
 ·skip
  exact gI 10 Z (λR k0=>gZ 0 Z e (gT 0 Z (ltI_iff.2 Xd) (gQ 15 Z (by rw[if_neg λq:PlM ps=>hm1 q.1.1]))))
structure Ru where
 (shards:Int) (cap:Int) (block:Int) (window:Int) (tap:Int) (subs:Int) (box:Dig)
noncomputable def ruG(r:Ru):W:=.agg 38 [.int .i64 r.shards,.int .i64 r.cap,.int .i64 r.block,.int .i64 r.window,.int .i64 r.tap,.int .i64 r.subs,dW r.box]
@[simp] theorem ruG_pur(r:Ru):purW (ruG r)=true:=by simp[ruG]
def okU(r:Ru):Prop:=(1<=r.shards/\r.shards<=8)/\(1<=r.cap/\r.cap<=64)/\(1<=r.block/\r.block<=16)/\(1<=r.window/\r.window<=64)/\(1<=r.tap/\r.tap<=64)/\(1<=r.subs/\r.subs<=16)
noncomputable instance(r:Ru):Decidable (okU r):=Classical.propDecidable _
theorem jKq(n m:Int):PS cfg G 74 [.int .i64 n,.int .i64 m] (.bool (decide (1<=n/\n<=m))):=by
 refine gI 8 Z (λR k0=>?_);refine gD 0 Z (λh1=>?_) (λh1=>?_)
 ·refine gU 3 Z ?_;exact gQ 5 Z Yu
 ·exact gQ 9 Z Yu
theorem klq(r:Ru):PS cfg G 28 [ruG r] (.int .i64 (if okU r then 0 else 8)):=by
 refine gI 11 Z (λR k0=>gC 0 Z (jKq _ _) ?_);refine gB 0 Z (λh1=>?_) (λh1=>?_)
 ·refine gC 4 Z (jKq _ _) ?_;refine gB 0 Z (λh2=>?_) (λh2=>?_)
  ·refine gC 5 Z (jKq _ _) ?_;refine gB 0 Z (λh3=>?_) (λh3=>?_)
   ·refine gC 5 Z (jKq _ _) ?_;refine gB 0 Z (λh4=>?_) (λh4=>?_)
    ·refine gC 5 Z (jKq _ _) ?_;refine gB 0 Z (λh5=>?_) (λh5=>?_)
     ·refine gC 5 Z (jKq _ _) ?_;refine gS 4 Z (λh6=>?_) (λh6=>?_)
      ·exact gQ 7 Z (by(try simp at h6);first|rw[if_pos (show okU r by unfold okU;omega)]|rw[if_neg (show¬okU r by unfold okU;omega)])
      ·exact gQ 8 Z (by(try simp at h6);first|rw[if_pos (show okU r by unfold okU;omega)]|rw[if_neg (show¬okU r by unfold okU;omega)])
     ·exact gQ 18 Z (by(try simp at h6);first|rw[if_pos (show okU r by unfold okU;omega)]|rw[if_neg (show¬okU r by unfold okU;omega)])
    ·exact gQ 24 Z (by(try simp at h6);first|rw[if_pos (show okU r by unfold okU;omega)]|rw[if_neg (show¬okU r by unfold okU;omega)])
   ·exact gQ 30 Z (by(try simp at h6);first|rw[if_pos (show okU r by unfold okU;omega)]|rw[if_neg (show¬okU r by unfold okU;omega)])
  ·exact gQ 36 Z (by(try simp at h6);first|rw[if_pos (show okU r by unfold okU;omega)]|rw[if_neg (show¬okU r by unfold okU;omega)])
 ·exact gQ 41 Z (by(try simp at h6);first|rw[if_pos (show okU r by unfold okU;omega)]|rw[if_neg (show¬okU r by unfold okU;omega)])
end
section
attribute [local irreducible] CoW OpW FlW Step Spec
structure Au where
 (ru:Ru) (vw:Vw) (pool:List Shd) (drawn:List Tx) (back:List Tx) (wait:List Depo) (count:Nat) (tells:List Eve) (hub:Hb)
noncomputable def amW(a:Au):W:=.agg 52 [ruG a.ru,vwG a.vw,plW a.pool,.fz (a.drawn.map txW) 99 false,.fz (a.back.map txW) 99 false,.fz (a.wait.map pdW) 34 false,.int .u64 (a.count:Int),.fz (a.tells.map eveW) 100 false,hbW a.hub]
@[simp] theorem vKq(a:Au):purW (amW a)=true:=by simp[amW,purW,purL]
structure OkAu(a:Au):Prop where
 pool:∀s∈a.pool,s.length<=1000000000/\∀l∈s,OkL l
 drawn:∀x∈a.drawn,x.ok
 drawl:a.drawn.length<=1000000000
 back:∀x∈a.back,x.ok
 backl:a.back.length<=1000000000
 tells:a.tells.length<=1000000000
 subs:a.hub.subs.length<=4611686018427387903
 taps:∀s∈a.hub.subs,s.tap.items.length<=4611686018427387903
def OddE(e:Eve):Prop:=¬EveM e
noncomputable instance(e:Eve):Decidable (OddE e):=Classical.propDecidable _
noncomputable instance(l:List Eve):Decidable (∃e∈l,OddE e):=Classical.propDecidable _
structure AuM(V:Prop)(a:Au):Prop where
 ru:okU a.ru
 vw:V
 pool:PlM a.pool
 len:(a.pool.length:Int)=a.ru.shards
 block:(a.drawn.length:Int)<=a.ru.block
 drawn:¬∃x∈a.drawn,Uns x
 back:¬∃x∈a.back,Uns x
 odd:¬∃e∈a.tells,OddE e
 hub:HbM a.hub
noncomputable instance(V:Prop)(a:Au):Decidable (AuM V a):=Classical.propDecidable _
theorem odd_s(l:List Eve)(hl:l.length<=1000000000):PS cfg glT 25 [.fz (l.map eveW) 100 false,.fn 26 [] []] (.bool (decide (∃e∈l,OddE e))):=
 ctev_s l false 26 [] rfl OddE (λe _=>zxq (auchk1_s e) (congrArg W.bool (decide_eq_decide.2 Iff.rfl))) rfl hl
set_option maxRecDepth 100000 in
theorem vgq(a:Au)(ok:OkAu a)(V:Prop) [Decidable V](hv:PS cfg glT 29 [vwG a.vw] (.int .i64 (if V then 0 else 8))):PS cfg glT 8 [amW a] (.int .i64 (if AuM V a then 0 else 8)):=by
 have e1:(a.pool.map shdW).length=a.pool.length:=List.length_map _;have e2:(a.drawn.map txW).length=a.drawn.length:=List.length_map _;have hodd:=odd_s a.tells ok.tells;have hpl:=ps_gl x7q (plchk_s a.pool ok.pool);have hud:=ps_gl x7q (uns_s a.drawn false ok.drawn ok.drawl);have hub:=ps_gl x7q (uns_s a.back false ok.back ok.backl);have hhb:=hbchk_s a.hub ok.subs ok.taps;by_cases c0:okU a.ru
 ·by_cases c1:V
  ·by_cases c2:PlM a.pool
   ·by_cases c3:(a.pool.length:Int)=a.ru.shards
    ·by_cases c4:(a.drawn.length:Int)<=a.ru.block
     ·by_cases c5:¬∃x∈a.drawn,Uns x
      ·by_cases c6:¬∃x∈a.back,Uns x
       ·by_cases c7:¬∃e∈a.tells,OddE e
        ·by_cases c8:HbM a.hub
         ·skip
          exact gI 10 Z (λR k0=>gC 0 Z (zxq (w':=.bool false) (hodd) (by rw[decide_eq_false (c7)])) (gC 8 Z (zxq (w':=.int .i64 0) (klq a.ru) Yn) (gF 0 Z (congrArg not (eqI_iff.2 (rfl))) (gC 3 Z (zxq (w':=.int .i64 0) (hv) Ys) (gF 0 Z (congrArg not (eqI_iff.2 (rfl))) (gC 4 Z (zxq (w':=.int .i64 0) (hpl) Qc) (gF 0 Z (congrArg not (eqI_iff.2 (rfl))) (gZ 4 Z e1 (gF 3 Z (congrArg not (eqI_iff.2 (c3))) (gZ 4 Z e2 (gF 3 Z (ltI_not.2 Xd) (gC 4 Z (zxq (w':=.bool false) (hud) Qg) (gC 4 Z (zxq (w':=.bool false) (hub) (by rw[decide_eq_false (c6)])) (gC 7 Z (zxq (w':=.int .i64 0) (hhb) (by rw[if_pos c8])) (gF 0 Z (congrArg not (eqI_iff.2 (rfl))) (gQ 12 Z (by rw[if_pos (show AuM V a from⟨c0,c1,c2,c3,c4,c5,c6,c7,c8⟩)])))))))))))))))))
         ·skip
          exact gI 10 Z (λR k0=>gC 0 Z (zxq (w':=.bool false) (hodd) (by rw[decide_eq_false (c7)])) (gC 8 Z (zxq (w':=.int .i64 0) (klq a.ru) Yn) (gF 0 Z (congrArg not (eqI_iff.2 (rfl))) (gC 3 Z (zxq (w':=.int .i64 0) (hv) Ys) (gF 0 Z (congrArg not (eqI_iff.2 (rfl))) (gC 4 Z (zxq (w':=.int .i64 0) (hpl) Qc) (gF 0 Z (congrArg not (eqI_iff.2 (rfl))) (gZ 4 Z e1 (gF 3 Z (congrArg not (eqI_iff.2 (c3))) (gZ 4 Z e2 (gF 3 Z (ltI_not.2 Xd) (gC 4 Z (zxq (w':=.bool false) (hud) Qg) (gC 4 Z (zxq (w':=.bool false) (hub) (by rw[decide_eq_false (c6)])) (gC 7 Z (zxq (w':=.int .i64 8) (hhb) (by rw[if_neg c8])) (gT 0 Z (congrArg not (eqI_not.2 Xg)) (gQ 11 Z (by rw[if_neg (λq:AuM V a=>c8 q.hub)])))))))))))))))))
        ·skip
         exact gI 10 Z (λR k0=>gC 0 Z (zxq (w':=.bool true) (hodd) (by rw[decide_eq_true (Classical.not_not.1 c7)])) (gC 8 Z (zxq (w':=.int .i64 0) (klq a.ru) Yn) (gF 0 Z (congrArg not (eqI_iff.2 (rfl))) (gC 3 Z (zxq (w':=.int .i64 0) (hv) Ys) (gF 0 Z (congrArg not (eqI_iff.2 (rfl))) (gC 4 Z (zxq (w':=.int .i64 0) (hpl) Qc) (gF 0 Z (congrArg not (eqI_iff.2 (rfl))) (gZ 4 Z e1 (gF 3 Z (congrArg not (eqI_iff.2 (c3))) (gZ 4 Z e2 (gF 3 Z (ltI_not.2 Xd) (gC 4 Z (zxq (w':=.bool false) (hud) Qg) (gC 4 Z (zxq (w':=.bool false) (hub) (by rw[decide_eq_false (c6)])) (gQ 20 Z (by rw[if_neg (λq:AuM V a=>c7 q.odd)])))))))))))))))
       ·skip
        exact gI 10 Z (λR k0=>gC 0 Z hodd (gC 8 Z (zxq (w':=.int .i64 0) (klq a.ru) Yn) (gF 0 Z (congrArg not (eqI_iff.2 (rfl))) (gC 3 Z (zxq (w':=.int .i64 0) (hv) Ys) (gF 0 Z (congrArg not (eqI_iff.2 (rfl))) (gC 4 Z (zxq (w':=.int .i64 0) (hpl) Qc) (gF 0 Z (congrArg not (eqI_iff.2 (rfl))) (gZ 4 Z e1 (gF 3 Z (congrArg not (eqI_iff.2 (c3))) (gZ 4 Z e2 (gF 3 Z (ltI_not.2 Xd) (gC 4 Z (zxq (w':=.bool false) (hud) Qg) (gC 4 Z (zxq (w':=.bool true) (hub) (by rw[decide_eq_true (Classical.not_not.1 c6)])) (gQ 20 Z (by rw[if_neg (λq:AuM V a=>c6 q.back)])))))))))))))))
      ·skip
       exact gI 10 Z (λR k0=>gC 0 Z hodd (gC 8 Z (zxq (w':=.int .i64 0) (klq a.ru) Yn) (gF 0 Z (congrArg not (eqI_iff.2 (rfl))) (gC 3 Z (zxq (w':=.int .i64 0) (hv) Ys) (gF 0 Z (congrArg not (eqI_iff.2 (rfl))) (gC 4 Z (zxq (w':=.int .i64 0) (hpl) Qc) (gF 0 Z (congrArg not (eqI_iff.2 (rfl))) (gZ 4 Z e1 (gF 3 Z (congrArg not (eqI_iff.2 (c3))) (gZ 4 Z e2 (gF 3 Z (ltI_not.2 Xd) (gC 4 Z (zxq (w':=.bool true) (hud) (by rw[decide_eq_true (Classical.not_not.1 c5)])) (gQ 25 Z (by rw[if_neg (λq:AuM V a=>c5 q.drawn)]))))))))))))))
     ·skip
      exact gI 10 Z (λR k0=>gC 0 Z hodd (gC 8 Z (zxq (w':=.int .i64 0) (klq a.ru) Yn) (gF 0 Z (congrArg not (eqI_iff.2 (rfl))) (gC 3 Z (zxq (w':=.int .i64 0) (hv) Ys) (gF 0 Z (congrArg not (eqI_iff.2 (rfl))) (gC 4 Z (zxq (w':=.int .i64 0) (hpl) Qc) (gF 0 Z (congrArg not (eqI_iff.2 (rfl))) (gZ 4 Z e1 (gF 3 Z (congrArg not (eqI_iff.2 (c3))) (gZ 4 Z e2 (gT 3 Z (ltI_iff.2 Xd) (gQ 30 Z (by rw[if_neg (λq:AuM V a=>c4 q.block)])))))))))))))
    ·skip
     exact gI 10 Z (λR k0=>gC 0 Z hodd (gC 8 Z (zxq (w':=.int .i64 0) (klq a.ru) Yn) (gF 0 Z (congrArg not (eqI_iff.2 (rfl))) (gC 3 Z (zxq (w':=.int .i64 0) (hv) Ys) (gF 0 Z (congrArg not (eqI_iff.2 (rfl))) (gC 4 Z (zxq (w':=.int .i64 0) (hpl) Qc) (gF 0 Z (congrArg not (eqI_iff.2 (rfl))) (gZ 4 Z e1 (gT 3 Z (congrArg not (eqI_not.2 (c3))) (gQ 39 Z (by rw[if_neg (λq:AuM V a=>c3 q.len)])))))))))))
   ·skip
    exact gI 10 Z (λR k0=>gC 0 Z hodd (gC 8 Z (zxq (w':=.int .i64 0) (klq a.ru) Yn) (gF 0 Z (congrArg not (eqI_iff.2 (rfl))) (gC 3 Z (zxq (w':=.int .i64 0) (hv) Ys) (gF 0 Z (congrArg not (eqI_iff.2 (rfl))) (gC 4 Z (zxq (w':=.int .i64 8) (hpl) (by rw[if_neg c2])) (gT 0 Z (congrArg not (eqI_not.2 Xg)) (gQ 48 Z (by rw[if_neg (λq:AuM V a=>c2 q.pool)])))))))))
  ·skip
   exact gI 10 Z (λR k0=>gC 0 Z hodd (gC 8 Z (zxq (w':=.int .i64 0) (klq a.ru) Yn) (gF 0 Z (congrArg not (eqI_iff.2 (rfl))) (gC 3 Z (zxq (w':=.int .i64 8) (hv) (by rw[if_neg c1])) (gT 0 Z (congrArg not (eqI_not.2 Xg)) (gQ 54 Z (by rw[if_neg (λq:AuM V a=>c1 q.vw)])))))))
 ·skip
  exact gI 10 Z (λR k0=>gC 0 Z hodd (gC 8 Z (zxq (w':=.int .i64 8) (klq a.ru) (by rw[if_neg c0])) (gT 0 Z (congrArg not (eqI_not.2 Xg)) (gQ 59 Z (by rw[if_neg (λq:AuM V a=>c0 q.ru)])))))
end
section
attribute [local irreducible] CoW OpW FlW Step Spec
variable {G:Nat->Option W}
structure OkC(c:Ch):Prop where
 body:∀x∈c.links,BodOk x.ds x.xs
 nodes:c.tree.nodes.length<=4611686018427387903
 len:c.links.length<=4611686018427387903
 recs:∀x∈c.links,x.rs.length<=4611686018427387903
theorem prev_hd(l:List Lk)(i:Nat):∃h r b s,prevW l i= .agg 102 [hdW h,r,b,s]/\(purL [hdW h,r,b,s]=true)/\∀z,0<i->l[i-1]? =some z->h=z.hdr:=by
 cases i with
 |zero=>exact⟨hdZ,_,_,_,rfl,prev_pur l 0,λz h=>absurd h Xg⟩
 |succ i=>
  cases hz:l[i]? with
  |none=>exact⟨hdZ,_,_,_,by show lkA l i=_;unfold lkA;rw[hz];rfl,lkZ_pur,λz _ h=>by rw[Nat.add_sub_cancel,hz] at h;cases h⟩
  |some x=>exact⟨x.hdr,_,_,_,by show lkA l i=_;unfold lkA;rw[hz];rfl,lkG_pur x,λz _ h=>by rw[Nat.add_sub_cancel,hz] at h;cases h;rfl⟩
theorem vdq(c:Ch)(hc:OkC c):PS cfg glK 61 [chG c] (.int .i64 (if MayC c then 0 else 8)):=by
 have e:(c.links.map lkG).length=c.links.length:=List.length_map _;have hl:=hc.len;refine gI 11 Z (λR k0=>?_);refine gZ 0 Z e ?_;refine gD 0 Z (λh1=>?_) (λh1=>?_)
 ·have hno:¬MayC c:=λq=>by have:=q.one;omega
  exact gQ 31 Z Xu
 obtain⟨z,hz⟩:∃z,c.links[c.links.length-1]? =some z:=⟨_,List.getElem?_eq_getElem Xd⟩
 refine gZ 3 Z e ?_;refine gD 0 Z (λh2=>?_) (λh2=>?_)
 ·have hno:¬MayC c:=λq=>by have:=q.len;omega
  exact gQ 26 Z Xu
 refine gZ 9 Z e ?_;refine gA 0 Z (c.links.length-1) ?_;refine gP 0 Z (zGq (i:=c.links.length-1) Z Z Z Z Z Z Z (znq lkG hz)) ?_;refine gU 2 Z ?_;refine gS 3 Z (λh3=>?_) (λh3=>?_)
 ·have hno:¬MayC c:=λq=>h3 (q.root z hz)
  exact gQ 7 Z Xu
 refine gC 13 Z (ceach_s _ _) ?_;refine zbq 3 Z ?_;refine co_rangeG (encL c.links) (List.range c.links.length) (λi (a:Nat)=>a=i/\∀j x,j<i->c.links[j]? =some x->LkM c j x) (λa=>[(2,3,.int .i64 (a:Int)),(1,46,.int .i64 0),(0,31,chG c)]) (λ_=>R) (0) rfl Xn (ceach_it c.links false hc.len) (encL_ok c.links) (⟨rfl,λj x h=>by omega⟩) Z Z (λi a y hy hI=>?_) (λa hI=>?_)
 ·obtain⟨rfl,hI⟩:=hI;have hi:a<c.links.length:=by have:=qZq hy;simpa using this
  obtain rfl:a=y:=by rw[Zbq hi] at hy;exact Option.some.inj hy
  obtain⟨x,hx⟩:∃x,c.links[a]? =some x:=⟨_,List.getElem?_eq_getElem hi⟩
  obtain⟨ph,pr,pb,ps,hp,hpu,hph⟩:=prev_hd c.links a;have hpu:purW (.agg 102 [hdW ph,pr,pb,ps])=true:=hpu;rw[show encL c.links a=[lkG x,.agg 102 [hdW ph,pr,pb,ps]] by unfold encL;rw[lkA_at hx,hp]];have hB:=hc.body x (List.mem_of_getElem? hx);have er:(x.rs.map rcW).length=x.rs.length:=List.length_map _;refine z9q 10 Z ?_;refine ZHq ?_;refine z9q 15 Z ?_;refine gD 0 Z (λh4=>?_) (λh4=>?_)
  ·have hno:¬MayC c:=λq=>h4 (q.link a x hx).height
   refine zbq 50 Z ?_;refine jvq Xi ?_;refine zZq 2 Z ?_;exact gQ 0 Z Xu
  refine gC 2 Z (kXq x.hdr) ?_;refine gD 0 Z (λh5=>?_) (λh5=>?_)
  ·have hno:¬MayC c:=λq=>h5 (by rw[if_pos (q.link a x hx).hdr])
   refine zbq 46 Z ?_;refine jvq Xi ?_;refine zZq 2 Z ?_;exact gQ 0 Z Xu
  have hok:okH x.hdr:=Classical.byContradiction λq=>h5 (by rw[if_neg q];decide)
  refine gD 3 Z (λh6=>?_) (λh6=>?_)
  ·refine gC 4 Z (hfollows_d x.hdr ph) ?_;refine gB 0 Z (λh7=>?_) (λh7=>?_)
   ·have hF:0<a->∀w,c.links[a-1]? =some w->FolB x.hdr w.hdr:=λh0 w hw=>hph w h0 hw▸h7
    refine gZ 6 Z er ?_;refine gD 2 Z (λh8=>?_) (λh8=>?_)
    ·have hno:¬MayC c:=λq=>h8 (q.link a x hx).recs
     refine zbq 27 Z ?_;refine jvq Xi ?_;refine zZq 2 Z ?_;exact gQ 0 Z Xu
    refine gC 4 Z (cbody_s x.ds x.xs false false hB.tx hB.dl hB.xl) ?_;refine gB 0 Z (λh9=>?_) (λh9=>?_)
    ·refine gC 7 Z (ver_s c.tree x.root) ?_;refine gC 0 Z (acheck_s (verT c x.root) hc.nodes) ?_;refine gU 0 Z ?_;refine gS 3 Z (λh10=>?_) (λh10=>?_)
     ·have hno:¬MayC c:=λq=>h10 (by rw[if_pos (q.link a x hx).tree])
      refine zbq 8 Z ?_;refine jvq Xi ?_;refine zZq 2 Z ?_;exact gQ 0 Z Xu
     ·have hA:MayA (verT c x.root):=Classical.byContradiction λq=>h10 (by rw[if_neg q];decide)
      have hx2:LkM c a x:=⟨by omega,hok,λw h0 hw=>hF h0 w hw,by omega,h9,hA⟩;refine gWr 4 Z ?_;refine zbq 3 Z ?_;exact q_roundK (a+1) (⟨rfl,λj w hj hw=>by rcases Nat.lt_succ_iff_lt_or_eq.1 hj with q|rfl;exact hI j w q hw;exact Option.some.inj (hx.symm.trans hw)▸hx2⟩) Xd Xk Xz rfl
    ·have hno:¬MayC c:=λq=>h9 (q.link a x hx).body
     refine zbq 22 Z ?_;refine jvq Xi ?_;refine zZq 2 Z ?_;exact gQ 0 Z Xu
   ·have hno:¬MayC c:=λq=>by
     obtain⟨w,hw⟩:∃w,c.links[a-1]? =some w:=⟨_,List.getElem?_eq_getElem Xd⟩
     exact h7 (hph w Xd hw▸(q.link a x hx).fol w Xd hw)
    refine zbq 37 Z ?_;refine jvq Xi ?_;refine zZq 2 Z ?_;exact gQ 0 Z Xu
  ·have hF:0<a->∀w,c.links[a-1]? =some w->FolB x.hdr w.hdr:=λh0=>absurd h0 Xd
   refine gZ 11 Z er ?_;refine gD 2 Z (λh7=>?_) (λh7=>?_)
   ·have hno:¬MayC c:=λq=>h7 (q.link a x hx).recs
    refine zbq 27 Z ?_;refine jvq Xi ?_;refine zZq 2 Z ?_;exact gQ 0 Z Xu
   refine gC 4 Z (cbody_s x.ds x.xs false false hB.tx hB.dl hB.xl) ?_;refine gB 0 Z (λh8=>?_) (λh8=>?_)
   ·refine gC 7 Z (ver_s c.tree x.root) ?_;refine gC 0 Z (acheck_s (verT c x.root) hc.nodes) ?_;refine gU 0 Z ?_;refine gS 3 Z (λh9=>?_) (λh9=>?_)
    ·have hno:¬MayC c:=λq=>h9 (by rw[if_pos (q.link a x hx).tree])
     refine zbq 8 Z ?_;refine jvq Xi ?_;refine zZq 2 Z ?_;exact gQ 0 Z Xu
    ·have hA:MayA (verT c x.root):=Classical.byContradiction λq=>h9 (by rw[if_neg q];decide)
     have hx2:LkM c a x:=⟨by omega,hok,λw h0 hw=>hF h0 w hw,by omega,h8,hA⟩;refine gWr 4 Z ?_;refine zbq 3 Z ?_;exact q_roundK (a+1) (⟨rfl,λj w hj hw=>by rcases Nat.lt_succ_iff_lt_or_eq.1 hj with q|rfl;exact hI j w q hw;exact Option.some.inj (hx.symm.trans hw)▸hx2⟩) Xd Xk Xz rfl
   ·have hno:¬MayC c:=λq=>h8 (q.link a x hx).body
    refine zbq 22 Z ?_;refine jvq Xi ?_;refine zZq 2 Z ?_;exact gQ 0 Z Xu
 ·obtain⟨rfl,hI⟩:=hI;have yes:MayC c:=⟨by omega,by omega,λw hw=>by cases hz.symm.trans hw;omega,λj w hw=>hI j w (by have:=qZq hw;simpa using this) hw⟩;refine zZq 8 Z ?_;exact gQ 0 Z Yk
end
theorem fit_rc{w:W}(h:Fit (.st 34 [.int .u8,.arr 32 1 (.int .u8),.int .i64]) w):∃r:RcI,w=rcW r/\True:=by
 obtain⟨l,rfl,w1,l1,rfl,h1,w2,l2,rfl,h2,w3,l3,rfl,h3,rfl⟩:=h;obtain⟨k,rfl,_⟩:=fit_u8 h1;obtain⟨d,rfl⟩:=j0q h2;obtain⟨c,rfl,_⟩:=fit_i64 h3;exact⟨⟨k,d,c⟩,rfl,trivial⟩
theorem fit_link{w:W}(h:Fit (.st 102 [.st 98 [.int .i64,.arr 32 1 (.int .u8),.arr 32 1 (.int .u8),.arr 32 1 (.int .u8),.int .i64],.int .i64,.st 2 [.sl 34 48 (.st 34 [.int .u64,.arr 32 1 (.int .u8),.int .u64]),.sl 99 120 (.st 99 [.arr 32 1 (.int .u8),.arr 32 1 (.int .u8),.int .u64,.int .u64,.int .u64,.arr 32 1 (.int .u8)])],.sl 34 48 (.st 34 [.int .u8,.arr 32 1 (.int .u8),.int .i64])]) w):∃x:Lk,w=lkG x/\BodOk x.ds x.xs/\x.rs.length<=4611686018427387903:=by
 obtain⟨l,rfl,w1,l1,rfl,h1,w2,l2,rfl,h2,w3,l3,rfl,h3,w4,l4,rfl,h4,rfl⟩:=h;obtain⟨p,rfl,_⟩:=fit_hdr h1;obtain⟨r,rfl,_⟩:=fit_i64 h2;obtain⟨ds,xs,rfl,hB⟩:=fit_body h3;obtain⟨rs,rfl,hl,_⟩:=keq h4 λx hx=>fit_rc hx
 exact⟨⟨p,r,ds,xs,rs⟩,rfl,hB,by show rs.length<=_;omega⟩
theorem fit_chain{w:W}(h:Fit (.st 3 [.st 2 [.sl 36 80 (.st 36 [.bool,.arr 32 1 (.int .u8),.sl 1 1 (.int .u8),.int .i64,.int .i64]),.int .i64],.sl 102 192 (.st 102 [.st 98 [.int .i64,.arr 32 1 (.int .u8),.arr 32 1 (.int .u8),.arr 32 1 (.int .u8),.int .i64],.int .i64,.st 2 [.sl 34 48 (.st 34 [.int .u64,.arr 32 1 (.int .u8),.int .u64]),.sl 99 120 (.st 99 [.arr 32 1 (.int .u8),.arr 32 1 (.int .u8),.int .u64,.int .u64,.int .u64,.arr 32 1 (.int .u8)])],.sl 34 48 (.st 34 [.int .u8,.arr 32 1 (.int .u8),.int .i64])])]) w):∃c:Ch,w=chG c/\OkC c:=by
 obtain⟨l,rfl,w1,l1,rfl,h1,w2,l2,rfl,h2,rfl⟩:=h;obtain⟨t,rfl,ht,_⟩:=fit_tree h1;obtain⟨ls,rfl,hl,hx⟩:=keq h2 λx hx=>fit_link hx
 exact⟨⟨t,ls⟩,rfl,λx h=>(hx x h).1,by show t.nodes.length<=_;omega,by show ls.length<=_;omega,λx h=>(hx x h).2⟩
theorem fit_view{w:W}(h:Fit (.st 6 [.int .i64,.bool,.int .i64,.st 3 [.st 2 [.sl 36 80 (.st 36 [.bool,.arr 32 1 (.int .u8),.sl 1 1 (.int .u8),.int .i64,.int .i64]),.int .i64],.sl 102 192 (.st 102 [.st 98 [.int .i64,.arr 32 1 (.int .u8),.arr 32 1 (.int .u8),.arr 32 1 (.int .u8),.int .i64],.int .i64,.st 2 [.sl 34 48 (.st 34 [.int .u64,.arr 32 1 (.int .u8),.int .u64]),.sl 99 120 (.st 99 [.arr 32 1 (.int .u8),.arr 32 1 (.int .u8),.int .u64,.int .u64,.int .u64,.arr 32 1 (.int .u8)])],.sl 34 48 (.st 34 [.int .u8,.arr 32 1 (.int .u8),.int .i64])])]]) w):∃v:Vw,w=vwG v/\OkC v.ch/\(-9223372036854775808<=v.number/\v.number<=9223372036854775807)/\(-9223372036854775808<=v.final/\v.final<=9223372036854775807):=by
 obtain⟨l,rfl,w1,l1,rfl,h1,w2,l2,rfl,h2,w3,l3,rfl,h3,w4,l4,rfl,h4,rfl⟩:=h;obtain⟨n,rfl,hn⟩:=fit_i64 h1;obtain⟨b,rfl⟩:=u4q h2;obtain⟨f,rfl,hf⟩:=fit_i64 h3;obtain⟨c,rfl,hc⟩:=fit_chain h4;exact⟨⟨n,b,f,c⟩,rfl,hc,hn,hf⟩
theorem fit_ru2{w:W}(h:Fit (.st 38 [.int .i64,.int .i64,.int .i64,.int .i64,.int .i64,.int .i64,.arr 32 1 (.int .u8)]) w):∃r:Ru,w=ruG r:=by
 obtain⟨l,rfl,w1,l1,rfl,h1,w2,l2,rfl,h2,w3,l3,rfl,h3,w4,l4,rfl,h4,w5,l5,rfl,h5,w6,l6,rfl,h6,w7,l7,rfl,h7,rfl⟩:=h;obtain⟨a,rfl,_⟩:=fit_i64 h1;obtain⟨b,rfl,_⟩:=fit_i64 h2;obtain⟨c,rfl,_⟩:=fit_i64 h3;obtain⟨d,rfl,_⟩:=fit_i64 h4;obtain⟨e,rfl,_⟩:=fit_i64 h5;obtain⟨f,rfl,_⟩:=fit_i64 h6;obtain⟨g,rfl⟩:=j0q h7;exact⟨⟨a,b,c,d,e,f,g⟩,rfl⟩
theorem fit_ln{w:W}(h:Fit (.st 33 [.arr 32 1 (.int .u8),.sl 99 120 (.st 99 [.arr 32 1 (.int .u8),.arr 32 1 (.int .u8),.int .u64,.int .u64,.int .u64,.arr 32 1 (.int .u8)])]) w):∃l:Ln,w=lnW l/\OkL l:=by
 obtain⟨l,rfl,w1,l1,rfl,h1,w2,l2,rfl,h2,rfl⟩:=h;obtain⟨k,rfl⟩:=j0q h1;obtain⟨xs,rfl,hl,hx⟩:=keq h2 λx hx=>fit_tx hx
 exact⟨⟨k,xs⟩,rfl,hx,by show xs.length<=_;omega⟩
theorem fit_shd{w:W}(h:Fit (.st 1 [.sl 33 56 (.st 33 [.arr 32 1 (.int .u8),.sl 99 120 (.st 99 [.arr 32 1 (.int .u8),.arr 32 1 (.int .u8),.int .u64,.int .u64,.int .u64,.arr 32 1 (.int .u8)])])]) w):∃s:Shd,w=shdW s/\s.length<=4611686018427387903/\∀l∈s,OkL l:=by
 obtain⟨l,rfl,w1,l1,rfl,h1,rfl⟩:=h;obtain⟨xs,rfl,hl,hx⟩:=keq h1 λx hx=>fit_ln hx
 exact⟨xs,rfl,by omega,hx⟩
theorem fit_eve{w:W}(h:Fit (.st 100 [.int .i64,.bool,.st 98 [.int .i64,.arr 32 1 (.int .u8),.arr 32 1 (.int .u8),.arr 32 1 (.int .u8),.int .i64]]) w):∃e:Eve,w=eveW e/\True:=by
 obtain⟨l,rfl,w1,l1,rfl,h1,w2,l2,rfl,h2,w3,l3,rfl,h3,rfl⟩:=h;obtain⟨n,rfl,_⟩:=fit_i64 h1;obtain⟨b,rfl⟩:=u4q h2;obtain⟨p,rfl,_⟩:=fit_hdr h3;exact⟨⟨n,b,p⟩,rfl,trivial⟩
theorem fit_itm{w:W}(h:Fit (.st 101 [.bool,.st 100 [.int .i64,.bool,.st 98 [.int .i64,.arr 32 1 (.int .u8),.arr 32 1 (.int .u8),.arr 32 1 (.int .u8),.int .i64]]]) w):∃e:Itm,w=itmW e/\True:=by
 obtain⟨l,rfl,w1,l1,rfl,h1,w2,l2,rfl,h2,rfl⟩:=h;obtain⟨b,rfl⟩:=u4q h1;obtain⟨e,rfl,_⟩:=fit_eve h2;exact⟨⟨b,e⟩,rfl,trivial⟩
theorem fit_tap{w:W}(h:Fit (.st 2 [.sl 101 136 (.st 101 [.bool,.st 100 [.int .i64,.bool,.st 98 [.int .i64,.arr 32 1 (.int .u8),.arr 32 1 (.int .u8),.arr 32 1 (.int .u8),.int .i64]]]),.bool]) w):∃t:Tp,w=tpW t/\t.items.length<=4611686018427387903:=by
 obtain⟨l,rfl,w1,l1,rfl,h1,w2,l2,rfl,h2,rfl⟩:=h;obtain⟨xs,rfl,hl,hx⟩:=keq h1 λx hx=>fit_itm hx
 obtain⟨b,rfl⟩:=u4q h2;exact⟨⟨xs,b⟩,rfl,by show xs.length<=_;omega⟩
theorem fit_sb4{w:W}(h:Fit (.st 4 [.int .i64,.int .i64,.st 2 [.sl 101 136 (.st 101 [.bool,.st 100 [.int .i64,.bool,.st 98 [.int .i64,.arr 32 1 (.int .u8),.arr 32 1 (.int .u8),.arr 32 1 (.int .u8),.int .i64]]]),.bool]]) w):∃s:Sb,w=sbW s/\s.tap.items.length<=4611686018427387903:=by
 obtain⟨l,rfl,w1,l1,rfl,h1,w2,l2,rfl,h2,w3,l3,rfl,h3,rfl⟩:=h;obtain⟨n,rfl,_⟩:=fit_i64 h1;obtain⟨b,rfl,_⟩:=fit_i64 h2;obtain⟨t,rfl,ht⟩:=fit_tap h3;exact⟨⟨n,b,t⟩,rfl,ht⟩
theorem fit_hub{w:W}(h:Fit (.st 2 [.int .i64,.sl 4 48 (.st 4 [.int .i64,.int .i64,.st 2 [.sl 101 136 (.st 101 [.bool,.st 100 [.int .i64,.bool,.st 98 [.int .i64,.arr 32 1 (.int .u8),.arr 32 1 (.int .u8),.arr 32 1 (.int .u8),.int .i64]]]),.bool]])]) w):∃s:Hb,w=hbW s/\s.subs.length<=4611686018427387903/\∀x∈s.subs,x.tap.items.length<=4611686018427387903:=by
 obtain⟨l,rfl,w1,l1,rfl,h1,w2,l2,rfl,h2,rfl⟩:=h;obtain⟨n,rfl,_⟩:=fit_i64 h1;obtain⟨xs,rfl,hl,hx⟩:=keq h2 λx hx=>fit_sb4 hx
 exact⟨⟨n,xs⟩,rfl,by show xs.length<=_;omega,hx⟩
structure Fit25(a:Au):Prop where
 ch:OkC a.vw.ch
 pooll:a.pool.length<=4611686018427387903
 pool:∀s∈a.pool,s.length<=4611686018427387903/\∀l∈s,OkL l
 drawn:∀x∈a.drawn,x.ok
 drawl:a.drawn.length<=4611686018427387903
 back:∀x∈a.back,x.ok
 backl:a.back.length<=4611686018427387903
 waitl:a.wait.length<=4611686018427387903
 tells:a.tells.length<=4611686018427387903
 subs:a.hub.subs.length<=4611686018427387903
 taps:∀s∈a.hub.subs,s.tap.items.length<=4611686018427387903
theorem fit_auto{w:W}(h:Fit (.st 52 [.st 38 [.int .i64,.int .i64,.int .i64,.int .i64,.int .i64,.int .i64,.arr 32 1 (.int .u8)],.st 6 [.int .i64,.bool,.int .i64,.st 3 [.st 2 [.sl 36 80 (.st 36 [.bool,.arr 32 1 (.int .u8),.sl 1 1 (.int .u8),.int .i64,.int .i64]),.int .i64],.sl 102 192 (.st 102 [.st 98 [.int .i64,.arr 32 1 (.int .u8),.arr 32 1 (.int .u8),.arr 32 1 (.int .u8),.int .i64],.int .i64,.st 2 [.sl 34 48 (.st 34 [.int .u64,.arr 32 1 (.int .u8),.int .u64]),.sl 99 120 (.st 99 [.arr 32 1 (.int .u8),.arr 32 1 (.int .u8),.int .u64,.int .u64,.int .u64,.arr 32 1 (.int .u8)])],.sl 34 48 (.st 34 [.int .u8,.arr 32 1 (.int .u8),.int .i64])])]],.sl 1 24 (.st 1 [.sl 33 56 (.st 33 [.arr 32 1 (.int .u8),.sl 99 120 (.st 99 [.arr 32 1 (.int .u8),.arr 32 1 (.int .u8),.int .u64,.int .u64,.int .u64,.arr 32 1 (.int .u8)])])]),.sl 99 120 (.st 99 [.arr 32 1 (.int .u8),.arr 32 1 (.int .u8),.int .u64,.int .u64,.int .u64,.arr 32 1 (.int .u8)]),.sl 99 120 (.st 99 [.arr 32 1 (.int .u8),.arr 32 1 (.int .u8),.int .u64,.int .u64,.int .u64,.arr 32 1 (.int .u8)]),.sl 34 48 (.st 34 [.int .u64,.arr 32 1 (.int .u8),.int .u64]),.int .u64,.sl 100 128 (.st 100 [.int .i64,.bool,.st 98 [.int .i64,.arr 32 1 (.int .u8),.arr 32 1 (.int .u8),.arr 32 1 (.int .u8),.int .i64]]),.st 2 [.int .i64,.sl 4 48 (.st 4 [.int .i64,.int .i64,.st 2 [.sl 101 136 (.st 101 [.bool,.st 100 [.int .i64,.bool,.st 98 [.int .i64,.arr 32 1 (.int .u8),.arr 32 1 (.int .u8),.arr 32 1 (.int .u8),.int .i64]]]),.bool]])]]) w):∃a:Au,w=amW a/\Fit25 a:=by
 obtain⟨l,rfl,w1,l1,rfl,h1,w2,l2,rfl,h2,w3,l3,rfl,h3,w4,l4,rfl,h4,w5,l5,rfl,h5,w6,l6,rfl,h6,w7,l7,rfl,h7,w8,l8,rfl,h8,w9,l9,rfl,h9,rfl⟩:=h;obtain⟨r,rfl⟩:=fit_ru2 h1;obtain⟨v,rfl,hc,_,_⟩:=fit_view h2;obtain⟨pl,rfl,pl1,pl2⟩:=keq h3 λx hx=>fit_shd hx
 obtain⟨dr,rfl,dr1,dr2⟩:=keq h4 λx hx=>fit_tx hx
 obtain⟨bk,rfl,bk1,bk2⟩:=keq h5 λx hx=>fit_tx hx
 obtain⟨wt,rfl,wt1,wt2⟩:=keq h6 λx hx=>fit_depo2 hx
 obtain⟨n,rfl,_⟩:=vEq h7;obtain⟨te,rfl,te1,te2⟩:=keq h8 λx hx=>fit_eve hx
 obtain⟨hu,rfl,hu1,hu2⟩:=fit_hub h9;exact⟨⟨r,v,pl,dr,bk,wt,n,te,hu⟩,rfl,hc,by show pl.length<=_;omega,pl2,dr2,by show dr.length<=_;omega,bk2,by show bk.length<=_;omega,by show wt.length<=_;omega,by show te.length<=_;omega,hu1,hu2⟩
theorem rsl_u{Γ:Ctx}:∀{l:List Nat} {s:List V},RSL Γ (l.map λn=>W.int .u32 (.ofNat n)) s->s=l.map tabV
 |[],s,h=>by simpa[RSL] using h
 |c::p,s,h=>by
  have h:RS Γ (.int .u32 (.ofNat c)) (s.take 1)/\RSL Γ (p.map λn=>W.int .u32 (.ofNat n)) (s.drop 1):=h;have h1:s.take 1=[.int .u32 (.ofNat c)]:=by simpa[RS] using h.1
  rw[<-List.take_append_drop 1 s,h1,rsl_u h.2];rfl
theorem alive_w{C:Cfg}{G:Nat->Option W}{F:FuncId}{g:Nat}{ns:List Nat}(hk:C.known F=some (runK (okTab g ns)))(hg:C.glob g=true)(hG:G g=some (.arr ns.length 1 (ns.map λn=>W.int .u32 (.ofNat n)))):PS C G F [] (.bool true):=λR Γ X vs hnw s hv=>by
 obtain rfl:=RVL_nil.1 hv;obtain⟨b,off,bv,e,hD,hv,hs,ha,hl,hrs⟩:=kkq (s.gl g _ hg hG 0 λi=>i);cases e;have hz:(W.arr ns.length 1 (ns.map λn=>W.int .u32 (.ofNat n))).size=ns.length:=rfl;rw[hz] at hs hrs;rw[List.drop_zero] at hrs;have hrs:((zjq bv).take ns.length).length=ns.length/\(∀x∈(ns.map λn=>W.int .u32 (.ofNat n)),x.size=1)/\RSL ⟨0,λi=>i,Γ.D,Γ.h⟩ (ns.map λn=>W.int .u32 (.ofNat n)) ((zjq bv).take ns.length):=hrs;have hv:Γ.h.val g=some bv:=hv
 have hok:okTab g ns Γ.h=true:=by
  unfold okTab;rw[hv];show(Nat.ble ns.length bv.size&&eqTab ((zjq bv).take ns.length) ns)=true;rw[rsl_u hrs.2.2,Qeq,Nat.ble_eq_true_of_le Xd];rfl
 refine⟨1,.bool true,Γ,X,.bool true,[],R,?_,s,by rw[<-hnw];exact Frm.refl _ _ _ _,RV_bool.2 rfl,rfl,rfl⟩;simp only[yJq,hk,runK,hok]
section
attribute [local irreducible] CoW OpW FlW Step Spec
theorem alive25_s:PS cfg glT 6 [] (.bool true):=alive_w (g:=1) (ns:=kA) Z Z Z
variable {G:Nat->Option W}
theorem mem_at{α:Type}{l:List α}{t:α}(h:t∈l):∃j,j<l.length/\l[j]? =some t:=by
 obtain⟨j,hj,e⟩:=List.mem_iff_getElem.1 h;exact⟨j,hj,by rw[List.getElem?_eq_getElem hj,e]⟩
set_option maxRecDepth 100000 in
theorem goes_s(ds:List Depo)(xs:List Tx)(x:Au)(l1:ds.length<=1000000000)(l2:xs.length<=1000000000)(l3:x.back.length<=1000000000)(l4:x.wait.length<=1000000000)(in1:∀t∈xs,t∈x.back)(in2:∀d∈ds,d∈x.wait):PS cfg G 16 [bodW ds xs false false,amW x] (.bool true):=by
 have e1:(ds.map pdW).length=ds.length:=List.length_map _;have e2:(xs.map txW).length=xs.length:=List.length_map _;have e3:(x.back.map txW).length=x.back.length:=List.length_map _;have e4:(x.wait.map pdW).length=x.wait.length:=List.length_map _;refine gI 14 Z (λR k0=>?_);refine gLo (α:=Nat) 0 (λi=>i<=xs.length) (λi=>[(5,.int .i64 (i:Int))]) [2,3,4] (λi=>xs.length-i) (0) rfl (Nat.zero_le _) (λi hI=>?_);refine gZ 6 Z e2 ?_;refine gS 3 Z (λh1=>?_) (λh1=>?_)
 ·have hi:i<xs.length:=by omega
  obtain⟨t,ht⟩:∃t,xs[i]? =some t:=⟨_,List.getElem?_eq_getElem hi⟩
  refine gLo (α:=Nat×Bool) 16 (λp=>p.1<=x.back.length/\((∃j,j<p.1/\x.back[j]? =some t) ->p.2=true)) (λp=>[(7,.int .i64 (p.1:Int)),(6,.bool p.2)]) [2,3,4,5,11,12,13,14,15] (λp=>x.back.length-p.1) ((0,false)) rfl (⟨Nat.zero_le _,λ⟨j,hj,_⟩=>by omega⟩) (λp hI=>?_);obtain⟨k,b⟩:=p;obtain⟨k1,k2⟩:=hI;simp only at k1 k2;refine gZ 6 Z e3 ?_;refine gS 3 Z (λh2=>?_) (λh2=>?_)
  ·have hk:k<x.back.length:=by omega
   obtain⟨y,hy⟩:∃y,x.back[k]? =some y:=⟨_,List.getElem?_eq_getElem hk⟩
   skip
   cases b with
   |true=>
    exact zLq 25 Z (gA 0 Z (k+1) (gAg 2 Z ((k+1,true)) (⟨by omega,λ_=>rfl⟩) Xd))
   |false=>
    refine zLq 10 Z (gP 0 Z (zGq (i:=k) Z Z Z Z Z Z Z (znq txW hy)) (gP 4 Z (zGq (i:=i) Z Z Z Z Z Z Z (znq txW ht)) ?_));refine gDe 1 Z (yCq Z Z Z Z (eq_tx _ _)) yAq (λh3=>?_) (λh3=>?_)
    ·exact gA 7 Z (k+1) (gAg 2 Z ((k+1,true)) (⟨by omega,λ_=>rfl⟩) Xd)
    ·exact gA 7 Z (k+1) (gAg 2 Z ((k+1,false)) (⟨by omega,λ⟨j,hj,hjt⟩=>by rcases Nat.lt_succ_iff_lt_or_eq.1 hj with q|rfl;exact absurd (k2 ⟨j,q,hjt⟩) Xg;exact absurd (Option.some.inj (hy.symm.trans hjt)) Xw⟩) Xd)
  ·obtain⟨j,hj,hjt⟩:=mem_at (in1 t (List.mem_of_getElem? ht));obtain rfl:=k2 ⟨j,by omega,hjt⟩;skip
   exact gO 2 Z (gA 14 Z (i+1) (gAg 2 Z (i+1) (hi) Xd))
 ·refine gO 2 Z ?_;refine gLo (α:=Nat) 9 (λi=>i<=ds.length) (λi=>[(8,.int .i64 (i:Int))]) [2,3,4] (λi=>ds.length-i) (0) rfl (Nat.zero_le _) (λi hI=>?_);refine gZ 6 Z e1 ?_;refine gS 3 Z (λh2=>?_) (λh2=>?_)
  ·have hi:i<ds.length:=by omega
   obtain⟨t,ht⟩:∃t,ds[i]? =some t:=⟨_,List.getElem?_eq_getElem hi⟩
   refine gLo (α:=Nat×Bool) 16 (λp=>p.1<=x.wait.length/\((∃j,j<p.1/\x.wait[j]? =some t) ->p.2=true)) (λp=>[(10,.int .i64 (p.1:Int)),(9,.bool p.2)]) [2,3,4,8,41,42,43,44,45] (λp=>x.wait.length-p.1) ((0,false)) rfl (⟨Nat.zero_le _,λ⟨j,hj,_⟩=>by omega⟩) (λp hI=>?_);obtain⟨k,b⟩:=p;obtain⟨k1,k2⟩:=hI;simp only at k1 k2;refine gZ 6 Z e4 ?_;refine gS 3 Z (λh3=>?_) (λh3=>?_)
   ·have hk:k<x.wait.length:=by omega
    obtain⟨y,hy⟩:∃y,x.wait[k]? =some y:=⟨_,List.getElem?_eq_getElem hk⟩
    skip
    cases b with
    |true=>
     exact zLq 25 Z (gA 0 Z (k+1) (gAg 2 Z ((k+1,true)) (⟨by omega,λ_=>rfl⟩) Xd))
    |false=>
     refine zLq 10 Z (gP 0 Z (zGq (i:=k) Z Z Z Z Z Z Z (znq pdW hy)) (gP 4 Z (zGq (i:=i) Z Z Z Z Z Z Z (znq pdW ht)) ?_));refine gDe 1 Z (yCq Z Z Z Z (eq_pd _ _)) yAq (λh4=>?_) (λh4=>?_)
     ·exact gA 7 Z (k+1) (gAg 2 Z ((k+1,true)) (⟨by omega,λ_=>rfl⟩) Xd)
     ·exact gA 7 Z (k+1) (gAg 2 Z ((k+1,false)) (⟨by omega,λ⟨j,hj,hjt⟩=>by rcases Nat.lt_succ_iff_lt_or_eq.1 hj with q|rfl;exact absurd (k2 ⟨j,q,hjt⟩) Xg;exact absurd (Option.some.inj (hy.symm.trans hjt)) Xw⟩) Xd)
   ·obtain⟨j,hj,hjt⟩:=mem_at (in2 t (List.mem_of_getElem? ht));obtain rfl:=k2 ⟨j,by omega,hjt⟩;skip
    exact gO 2 Z (gA 14 Z (i+1) (gAg 2 Z (i+1) (hi) Xd))
  ·exact gO 2 Z (gQa 8 Z)
end
section
attribute [local irreducible] CoW OpW FlW Step Spec
variable {G:Nat->Option W}
structure SmAu(a:Au):Prop where
 pool:a.pool.length<=1000000
 shards:∀s∈a.pool,s.length<=1000000000/\∀y∈s,y.txs.length<=1000000000
 drawn:a.drawn.length<=1000000000
 back:a.back.length<=1000000000
 wait:a.wait.length<=1000000000
 tells:a.tells.length<=1000000000
 subs:a.hub.subs.length<=1000000000
 taps:∀s∈a.hub.subs,s.tap.items.length<=1000000000
set_option maxRecDepth 100000 in
theorem autwin_s(a:Au)(sm:SmAu a)(hv:PS cfg G 83 [vwG a.vw] (vwG a.vw)):PS cfg G 34 [amW a] (amW a):=by
 have hp:=pltw_s (G:=G) a.pool sm.pool sm.shards;have hh:=hbtw_s (G:=G) a.hub sm.subs sm.taps;exact gIv 10 Z (λR k0=>gC 0 Z (hv) (gC 2 Z (hp) (gC 2 Z (hh) (gC 12 Z (clx_s a.drawn false sm.drawn) (gC 2 Z (clx_s a.back false sm.back) (gC 2 Z (cld_s a.wait false sm.wait) (gC 2 Z (clev_s a.tells false sm.tells) (zbq 17 Z (k0q Qm rfl (.pur (vKq a)))))))))))
theorem efln2_s(l:List Ln)(F:FuncId)(hF:∀x∈l,PS cfg G F [lnW x,lnW x] (.bool true))(hF0:cfg.ext F=none)(hn:l.length<=1000000000):PS cfg G 189 [.fz (l.map lnW) 33 false,.fz (l.map lnW) 33 false,.fn F [] []] (.bool true):=by
 have e:(l.map lnW).length=l.length:=List.length_map _;have ep:purL (l.map lnW)=true:=zPq Q6q l;refine gI 9 Z (λR k0=>gZ 0 Z e (gZ 1 Z e (gF 0 Z (congrArg not (eqI_iff.2 (rfl))) (gZ 9 Z e ?_))));refine gLo (α:=Nat) 4 (λi=>i<=l.length) (λi=>[(17,.int .i64 (i:Int))]) [1,2,6,15,16] (λi=>l.length-i) (0) rfl (Nat.zero_le _) (λi hI=>?_);refine gS 6 Z (λh1=>?_) (λh1=>?_)
 ·have hi:i<l.length:=by omega
  obtain⟨x,hx⟩:∃x,l[i]? =some x:=⟨_,List.getElem?_eq_getElem hi⟩
  exact gP 7 Z (zGq (i:=i) Z Z Z Z Z Z Z (znq lnW hx)) (gP 10 Z (zGq (i:=i) Z Z Z Z Z Z Z (znq lnW hx)) (zbq 10 Z (YFq Z Z Z hF0 Z Z (hF x (List.mem_of_getElem? hx)) Xl Xl (zpq 8 Z (gA 0 Z (i+1) (gAg 2 Z (i+1) (hi) Xd))))))
 ·exact gO 2 Z (gQa 8 Z)
theorem efsh2_s(l:List Shd)(F:FuncId)(hF:∀x∈l,PS cfg G F [shdW x,shdW x] (.bool true))(hF0:cfg.ext F=none)(hn:l.length<=1000000000):PS cfg G 119 [.fz (l.map shdW) 1 false,.fz (l.map shdW) 1 false,.fn F [] []] (.bool true):=by
 have e:(l.map shdW).length=l.length:=List.length_map _;have ep:purL (l.map shdW)=true:=zPq shdW_pur l;refine gI 9 Z (λR k0=>gZ 0 Z e (gZ 1 Z e (gF 0 Z (congrArg not (eqI_iff.2 (rfl))) (gZ 9 Z e ?_))));refine gLo (α:=Nat) 4 (λi=>i<=l.length) (λi=>[(17,.int .i64 (i:Int))]) [1,2,6,15,16] (λi=>l.length-i) (0) rfl (Nat.zero_le _) (λi hI=>?_);refine gS 6 Z (λh1=>?_) (λh1=>?_)
 ·have hi:i<l.length:=by omega
  obtain⟨x,hx⟩:∃x,l[i]? =some x:=⟨_,List.getElem?_eq_getElem hi⟩
  exact gP 7 Z (zGq (i:=i) Z Z Z Z Z Z Z (znq shdW hx)) (gP 10 Z (zGq (i:=i) Z Z Z Z Z Z Z (znq shdW hx)) (zbq 10 Z (YFq Z Z Z hF0 Z Z (hF x (List.mem_of_getElem? hx)) Xl Xl (zpq 8 Z (gA 0 Z (i+1) (gAg 2 Z (i+1) (hi) Xd))))))
 ·exact gO 2 Z (gQa 8 Z)
theorem efsb2_s(l:List Sb)(F:FuncId)(hF:∀x∈l,PS cfg G F [sbW x,sbW x] (.bool true))(hF0:cfg.ext F=none)(hn:l.length<=1000000000):PS cfg G 121 [.fz (l.map sbW) 4 false,.fz (l.map sbW) 4 false,.fn F [] []] (.bool true):=by
 have e:(l.map sbW).length=l.length:=List.length_map _;have ep:purL (l.map sbW)=true:=zPq sbW_pur l;refine gI 9 Z (λR k0=>gZ 0 Z e (gZ 1 Z e (gF 0 Z (congrArg not (eqI_iff.2 (rfl))) (gZ 9 Z e ?_))));refine gLo (α:=Nat) 4 (λi=>i<=l.length) (λi=>[(17,.int .i64 (i:Int))]) [1,2,6,15,16] (λi=>l.length-i) (0) rfl (Nat.zero_le _) (λi hI=>?_);refine gS 6 Z (λh1=>?_) (λh1=>?_)
 ·have hi:i<l.length:=by omega
  obtain⟨x,hx⟩:∃x,l[i]? =some x:=⟨_,List.getElem?_eq_getElem hi⟩
  exact gP 7 Z (zGq (i:=i) Z Z Z Z Z Z Z (znq sbW hx)) (gP 10 Z (zGq (i:=i) Z Z Z Z Z Z Z (znq sbW hx)) (zbq 10 Z (YFq Z Z Z hF0 Z Z (hF x (List.mem_of_getElem? hx)) Xl Xl (zpq 8 Z (gA 0 Z (i+1) (gAg 2 Z (i+1) (hi) Xd))))))
 ·exact gO 2 Z (gQa 8 Z)
theorem eqit_s(l:List Itm)(hl:l.length<=1000000000):PS cfg G 191 [.fz (l.map itmW) 101 false,.fz (l.map itmW) 101 false] (.bool true):=by
 have e:(l.map itmW).length=l.length:=List.length_map _;have ep:purL (l.map itmW)=true:=zPq kWq l;refine gI 9 Z (λR k0=>gZ 0 Z e (gZ 1 Z e (gF 0 Z (congrArg not (eqI_iff.2 (rfl))) (gZ 9 Z e ?_))));refine gLo (α:=Nat) 4 (λi=>i<=l.length) (λi=>[(13,.int .i64 (i:Int))]) [0,1,4,12] (λi=>l.length-i) (0) rfl (Nat.zero_le _) (λi hI=>?_);refine gS 6 Z (λh1=>?_) (λh1=>?_)
 ·have hi:i<l.length:=by omega
  obtain⟨x,hx⟩:∃x,l[i]? =some x:=⟨_,List.getElem?_eq_getElem hi⟩
  exact gP 14 Z (zGq (i:=i) Z Z Z Z Z Z Z (znq itmW hx)) (gP 3 Z (zGq (i:=i) Z Z Z Z Z Z Z (znq itmW hx)) (zbq 1 Z (xxq (w':=.bool false) rfl (jcq Z Z Z Z (eq_it x x)) (by rw[decide_eq_true rfl];rfl) (qiq 7 Z (gA 0 Z (i+1) (gAg 2 Z (i+1) (hi) Xd))))))
 ·exact gO 2 Z (gQa 8 Z)
theorem qsame_s(l:Ln)(hl:l.txs.length<=1000000000):PS cfg G 190 [lnW l,lnW l] (.bool true):=by
 have hp:=qmq l.txs;exact gI 13 Z (λR k0=>jyq (w':=.bool true) rfl (yCq Z Z Z Z (y1q Z Z Z Z Z Z l.who l.who 250)) (by rw[decide_eq_true rfl]) (zpq 5 Z (gC 0 Z (zxq (w':=.bool true) (seqx_s l.txs l.txs false false hl) Yt) (gQa 5 Z))))
theorem shsame_s(s:Shd)(hl:s.length<=1000000000)(hx:∀l∈s,l.txs.length<=1000000000):PS cfg G 120 [shdW s,shdW s] (.bool true):=by
 have hp:=vyq s;exact gI 13 Z (λR k0=>gC 0 Z (efln2_s s 190 (λl h=>qsame_s l (hx l h)) rfl hl) (gQa 4 Z))
theorem plsame_s(l:List Shd)(hl:l.length<=1000000000)(hx:∀s∈l,s.length<=1000000000/\∀y∈s,y.txs.length<=1000000000):PS cfg G 53 [plW l,plW l] (.bool true):=by
 have hp:=jAq l;exact gI 9 Z (λR k0=>gC 0 Z (efsh2_s l 120 (λs h=>shsame_s s (hx s h).1 (hx s h).2) rfl hl) (gQa 4 Z))
theorem tpsame_s(t:Tp)(hl:t.items.length<=1000000000):PS cfg G 123 [tpW t,tpW t] (.bool true):=by
 obtain⟨items,lost⟩:=t;have hp:=Q9q items;simp only at hl;refine gI 13 Z (λR k0=>?_);refine gV (w':=.bool true) 0 Z (by cases lost<;>rfl) ?_;exact gC 5 Z (eqit_s items hl) (gQa 5 Z)
theorem hbsame1_s(s:Sb)(hl:s.tap.items.length<=1000000000):PS cfg G 122 [sbW s,sbW s] (.bool true):=by
 exact gI 13 Z (λR k0=>gT 0 Z (eqI_iff.2 (rfl)) (gT 5 Z (eqI_iff.2 (rfl)) (gC 6 Z (tpsame_s s.tap hl) (gQa 5 Z))))
theorem hbsame_s(h:Hb)(hl:h.subs.length<=1000000000)(hx:∀s∈h.subs,s.tap.items.length<=1000000000):PS cfg G 54 [hbW h,hbW h] (.bool true):=by
 have hp:=QMq h.subs;exact gI 13 Z (λR k0=>gT 0 Z (eqI_iff.2 (rfl)) (gC 5 Z (efsb2_s h.subs 122 (λs q=>hbsame1_s s (hx s q)) rfl hl) (gQa 5 Z)))
theorem pub_no(M:W)(hM:purW M=true)(v:Vw)(e:Int)(he:e≠0):qbq cfg G 96 1 [.ptr 0 0,vwG v,.int .i64 e] [(0,119,M)] λw hp nw=>w= .int .i64 e/\hp=[(0,119,M)]/\nw=1:=by
 intro R;refine gIs 10 Z (λk0=>?_);exact gF 0 Z (eqI_not.2 (he)) (zbq 12 Z (fin (w:=.int .i64 e) Qm (q2q (nw2:=1) (fr2:=[(6,.int .i64 e)]) (hp2:=[(0,119,M)]) Xd Xd ⟨rfl,trivial⟩ rfl (qtq ⟨⟨by omega,rfl,zfq hM⟩,trivial⟩) Xl) rfl ⟨rfl,rfl,rfl,rfl⟩))
noncomputable def rlW(h:Int):W:=.agg 35 [.int .u8 3,.arr 32 1 (List.replicate 32 (.int .u8 0)),.int .u64 0,.int .i64 h]
set_option maxRecDepth 100000 in
theorem work_no(a:Au)(h e:Int)(he:e≠0)(v0:Vw)(hr:PS cfg G 99 [vwG a.vw,.int .i64 h] (.tup [vwG v0,.fz [] 2 false,.int .i64 e])):qbq cfg G 36 1 [.ptr 0 0,rlW h] [(0,119,amW a)] λw hp nw=>w= .int .i64 e/\hp=[(0,119,amW a)]/\nw=1:=by
 have hM:=vKq a;intro R;refine gIs 16 Z (λk0=>?_);refine gF 0 Z (eqI_not.2 Xg) (gF 6 Z (eqI_not.2 Xg) (gF 6 Z (eqI_not.2 Xg) (gC 16 Z (hr) (zbq 16 Z ?_))))
 (refine z5q rfl (yNq (ext:=[0]) (ws:=[.ptr 0 0,vwG v0,.int .i64 e]) Z Z Z Z (by rw[yKq,yKq,yKq,zoq (yjq v0)];rfl) (pub_no (amW a) hM v0 e he) Xg Xp Xl (vCq (by rw[zoq hM];rfl) (zfq hM)) (by show(true&&(refB 1 (vwG v0)&&(true&&true)))=true;rw[zfq (yjq v0)];rfl) ?_);rintro w hp1 nw1 ⟨rfl,rfl,rfl⟩)
 exact jyq (w':=.bool true) Z Z (congrArg (λb=>W.bool (!b)) (eqI_not.2 (he))) (zpq 11 Z (fin (w:=.int .i64 e) Qm (q2q (nw2:=1) (fr2:=[(4,.int .i64 e)]) (hp2:=[(0,119,amW a)]) Xd Xd ⟨rfl,trivial⟩ rfl (qtq ⟨⟨by omega,by rw[renH,renH,zoq hM];rfl,zfq hM⟩,trivial⟩) Xl) rfl ⟨rfl,rfl,rfl,rfl⟩))
noncomputable def mvR(h:Int):W:=.agg 38 [.int .u8 2,.nils,rlW h,.int .i64 0]
set_option maxRecDepth 100000 in
theorem askR_s(a:Au)(h:Int)(hp:0<a.pool.length):PS cfg G 33 [amW a,mvR h] (.bool true):=by
 have e:(a.pool.map shdW).length=a.pool.length:=List.length_map _;have hm:purW (mvR h)=true:=by kernel_rfl
 have ha:=vKq a;exact gI 11 Z (λR k0=>gT 0 Z (congrArg not (ltI_not.2 Xg)) (gZ 5 Z e (gT 0 Z (ltI_iff.2 Xd) (gT 14 Z (eqI_iff.2 (rfl)) (gT 9 Z (congrArg not (ltI_not.2 Xg)) (gT 4 Z (congrArg not (ltI_not.2 Xg)) (gQa 7 Z)))))))
end
section
attribute [local irreducible] CoW OpW FlW Step Spec
noncomputable def rpE(e:Int):W:=.agg 240 [.int .u8 0,.int .i64 e,.int .i64 0,zd32,.agg 2 [.int .u64 0,.int .u64 0],.agg 34 [.int .u8 0,zd32,.int .i64 0],.agg 67 [zd32,.int .u8 0,zd32,.nils,.nils],.int .i64 0,itZw]
theorem rpE_pur(e:Int):purW (rpE e)=true:=by
 have h:purW (rpE 0)=true:=by kernel_rfl
 exact h
@[simp] theorem mvR_pur(h:Int):purW (mvR h)=true:=by
 have q:purW (mvR 0)=true:=by kernel_rfl
 exact q
set_option maxRecDepth 100000 in
theorem doR_no(a:Au)(ok:OkAu a)(sm:SmAu a)(V:Prop) [Decidable V](hv:PS cfg glT 29 [vwG a.vw] (.int .i64 (if V then 0 else 8)))(hm:AuM V a)(hd:a.vw.down=false)(ht:PS cfg glT 83 [vwG a.vw] (vwG a.vw))(h e:Int)(he:e≠0)(v0:Vw)(hr:PS cfg glT 99 [vwG a.vw,.int .i64 h] (.tup [vwG v0,.fz [] 2 false,.int .i64 e])):PS cfg glT 9 [amW a,mvR h] (.tup [amW a,rpE e,.int .i64 0]):=by
 have hck:=zxq (w':=.int .i64 0) (vgq a ok V hv) Yh;have hpl:0<a.pool.length:=hm.pool.1.1;have hak:=askR_s (G:=glT) a h hpl;have htw:=autwin_s a sm ht;have hwk:=work_no a h e he v0 hr;have hmp:purW (mvR h)=true:=by kernel_rfl
 have hM:=vKq a;obtain⟨ru,⟨num,down,fin,ch⟩,pool,drawn,back,wait,count,tells,hub⟩:=a;simp only at hd;subst hd;refine gIv 14 Z (λR k0=>gC 0 Z (hck) (gF 0 Z (congrArg not (eqI_iff.2 (rfl))) (gC 8 Z hak (gC 11 Z (htw) (gF 11 Z (eqI_not.2 Xg) (gT 20 Z (eqI_iff.2 (rfl)) (zbq 8 Z ?_)))))))
 (refine z5q rfl (yNq (ext:=[4]) (ws:=[.ptr 0 0,rlW h]) Z Z Z Z (by rw[yKq,yKq,zoq (show purW (rlW h)=true from by kernel_rfl)];rfl) hwk Xg Xp Xl (vCq (by rw[zoq hM];rfl) (zfq hM)) (by show(true&&(refB 1 (rlW h)&&true))=true;rw[zfq (show purW (rlW h)=true from by kernel_rfl)];rfl) ?_);rintro w hp1 nw1 ⟨rfl,rfl,rfl⟩;rw[jQq hM])
 exact zpq 18 Z (k0q Qm rfl (.tup (.cons (.pur (vKq _)) (.cons (.pur (rpE_pur e)) (.cons (.pur rfl) .nil)))))
end
section
attribute [local irreducible] CoW OpW FlW Step Spec
variable {G:Nat->Option W}
structure SmallC(c:Ch):Prop where
 nodes:c.tree.nodes.length<=1000000
 vals:∀x∈c.tree.nodes,x.val.length<=70368744177664
 len:c.links.length<=1000000
 link:∀x∈c.links,x.ds.length<=1000000/\x.xs.length<=1000000/\x.rs.length<=1000000
def YAq(c:Ch)(n:Nat):Prop:=Qtq c.tree 900\/n<c.links.length\/∃x∈c.links,yyq x.ds x.xs\/40<x.rs.length
noncomputable instance(c:Ch)(n:Nat):Decidable (YAq c n):=Classical.propDecidable _
theorem greatc_s(c:Ch)(n:Nat)(hb:c.tree.nodes.length<=4611686018427387903)(hl:c.links.length<=4611686018427387903):PS cfg G 67 [chG c,.int .i64 (n:Int)] (.bool (decide (YAq c n))):=by
 have e:(c.links.map lkG).length=c.links.length:=List.length_map _;by_cases hg:Qtq c.tree 900
 ·skip
  exact gI 11 Z (λR k0=>gC 0 Z (zxq (w':=.bool true) (great_s c.tree 900 hb Xd) (by rw[decide_eq_true (hg)])) (gQ 17 Z (v6q (.inl hg))))
 refine gI 11 Z (λR k0=>gC 0 Z (zxq (w':=.bool false) (great_s c.tree 900 hb Xd) (by rw[decide_eq_false (hg)])) (gZ 3 Z e (gU 1 Z ?_)));refine gS 3 Z (λh1=>?_) (λh1=>?_)
 ·exact gQ 7 Z (v6q (.inr (.inl Xd)))
 refine gLo (α:=Nat) 9 (λi=>i<=c.links.length/\∀j x,j<i->c.links[j]? =some x->¬(yyq x.ds x.xs\/40<x.rs.length)) (λi=>[(5,.int .i64 (i:Int))]) [2,4] (λi=>c.links.length-i) (0) rfl (⟨Nat.zero_le _,λj x h=>by omega⟩) (λi hI=>?_);obtain⟨g1,g2⟩:=hI;refine gZ 6 Z e ?_;refine gS 3 Z (λh2=>?_) (λh2=>?_)
 ·have hi:i<c.links.length:=by omega
  obtain⟨x,hx⟩:∃x,c.links[i]? =some x:=⟨_,List.getElem?_eq_getElem hi⟩
  have er:(x.rs.map rcW).length=x.rs.length:=List.length_map _;refine gP 9 Z (zGq (i:=i) Z Z Z Z Z Z Z (znq lkG hx)) (gC 2 Z (great16_s x.ds x.xs false false) ?_);refine gB 0 Z (λh3=>?_) (λh3=>?_)
  ·exact gO 21 Z (gQ 2 Z (v6q (.inr (.inr ⟨x,List.mem_of_getElem? hx,.inl h3⟩))))
  ·refine gP 4 Z (zGq (i:=i) Z Z Z Z Z Z Z (znq lkG hx)) (gZ 2 Z er (gU 0 Z ?_));refine gS 3 Z (λh4=>?_) (λh4=>?_)
   ·exact gO 8 Z (gQ 2 Z (v6q (.inr (.inr ⟨x,List.mem_of_getElem? hx,.inr Xd⟩))))
   ·exact gA 5 Z (i+1) (gAg 2 Z (i+1) (⟨hi,λj y hj hy=>by rcases Nat.lt_succ_iff_lt_or_eq.1 hj with q|rfl;exact g2 j y q hy;exact Option.some.inj (hx.symm.trans hy)▸λq=>q.elim h3 Xd⟩) Xd)
 ·have no:¬YAq c n:=by
   rintro(q|q|⟨x,hx,q⟩)
   ·exact hg q
   ·omega
   ·obtain⟨j,hj⟩:=List.getElem?_of_mem hx;exact g2 j x Yw hj q
  exact gO 2 Z (gQ 8 Z (y2q no))
theorem greatv_s(v:Vw)(n:Nat)(hb:v.ch.tree.nodes.length<=4611686018427387903)(hl:v.ch.links.length<=4611686018427387903):PS cfg G 22 [vwG v,.int .i64 (n:Int)] (.bool (decide (YAq v.ch n))):=by
 exact gI 11 Z (λR k0=>gC 0 Z (greatc_s v.ch n hb hl) (gQa 4 Z))
theorem greatc_no{c:Ch}{n:Nat}(h:¬YAq c n):c.tree.nodes.length<=900/\c.links.length<=n/\∀x∈c.links,¬yyq x.ds x.xs/\x.rs.length<=40:=
 ⟨Nat.le_of_not_lt λq=>h (.inl (.inl q)),Nat.le_of_not_lt λq=>h (.inr (.inl q)),λx hx=>⟨λq=>h (.inr (.inr ⟨x,hx,.inl q⟩)),Nat.le_of_not_lt λq=>h (.inr (.inr ⟨x,hx,.inr q⟩))⟩⟩
theorem clink_s(x:Lk)(h:x.ds.length<=1000000/\x.xs.length<=1000000/\x.rs.length<=1000000):PS cfg G 203 [lkG x] (lkG x):=by
 obtain⟨h1,h2,h3⟩:=h;exact gI 11 Z (λR k0=>gC 0 Z (cld_s x.ds false Xd) (gC 3 Z (clx_s x.xs false Xd) (gC 9 Z (clr_s x.rs false Xd) (gQa 11 Z))))
theorem ctrn_s(l:List Lk)(f:Bool)(hl:l.length<=1000000)(hs:∀x∈l,x.ds.length<=1000000/\x.xs.length<=1000000/\x.rs.length<=1000000):PL cfg G 202 [.fz (l.map lkG) 102 f,.fn 203 [] []] 88 102 (l.map lkG):=by
 have e:(l.map lkG).length=l.length:=List.length_map _;intro R;refine gIs 14 Z (λk0=>?_);refine gZ 0 Z e (zbq 4 Z ?_);refine Jsq (α:=Nat) (λi=>i<=l.length) 5 (λi=>(l.take i).map lkG) 88 102 (λi=>[(10,.int .i64 (i:Int))]) [(1,_),(4,_),(8,_),(9,_)] _ (λi=>l.length-i) (0) ⟨rfl,rfl,rfl,rfl,trivial⟩ (Nat.zero_le _) ⟨rfl,trivial⟩ Z Z Z (λi hI=>?_);refine z9q 6 Z ?_;refine gS 0 Z (λh1=>?_) (λh1=>?_)
 ·have hi:i<l.length:=by omega
  obtain⟨x,hx⟩:∃x,l[i]? =some x:=⟨_,List.getElem?_eq_getElem hi⟩
  have es:(l.take (i+1)).map lkG=(l.take i).map lkG++[lkG x]:=by rw[List.take_add_one,hx,List.map_append];rfl
  have el:((l.take i).map lkG).length=i:=by simp;omega
  have ep:purL ((l.take i).map lkG++[lkG x])=true:=by rw[<-es];exact xpq _
  have ep2:purL ((l.take i).map lkG)=true:=xpq _;exact gP 6 Z (zGq (i:=i) Z Z Z Z Z Z Z (znq lkG hx)) (gC 9 Z (clink_s x (hs x (List.mem_of_getElem? hx))) (gM 1 Z (ySq Z Z (Qnq [_,_] (k:=ti88) (news:=[lkG x]) Z Z Z Z Z (uIq Z Z Z Z) Xl (by show(((l.take i).map lkG).length+1)*192<=_;omega) (by show((l.take i).map lkG).length+1<=_;omega) rfl Xl)) (gWr 5 Z (zbq 2 Z (uQq 3 (i+1) (hi) Xd (Nat.zero_le _) (es) Yb Xd Yx rfl Yd ⟨rfl,trivial⟩ ⟨rfl,rfl,rfl,rfl,trivial⟩ Xh Xh rfl Xn Xk Xz)))))
 ·have hi:i=l.length:=by omega
  subst hi;rw[List.take_length];exact zbq 2 Z (q4q Xi (zZq 9 Z (fin Qm (qgq (fr2:=[(4,gW 0 102 (l.map lkG))]) ⟨rfl,trivial⟩ Z Z) rfl ⟨rfl,rfl,rfl,rfl⟩)))
theorem SmallC.vl{c:Ch}(h:SmallC c):c.tree.nodes.length<=1000000000:=by have:=h.nodes;omega
noncomputable def ownC(b:Nat)(c:Ch):W:=.agg 3 [tW c.tree,.sl b 0 0 c.links.length 102 none]
noncomputable def ownH(b0 b1 b:Nat)(c:Ch):HpW:=[(b,88,.arr (c.links.length*102) 102 (c.links.map lkG)),(b1,31,ownC b c),(b0,31,chG c)]
theorem ctwin_o(c:Ch)(hs:SmallC c)(hne:c.links≠[]):qbq cfg G 148 0 [chG c] [] λw hp nw=>w=ownC 2 c/\hp=ownH 0 1 2 c/\nw=3:=by
 have hne2:c.links.map lkG≠[]:=by simpa using hne
 have e:(c.links.map lkG).length=c.links.length:=List.length_map _;intro R;refine gIs 10 Z (λk0=>?_);refine gC 0 Z (twinp_s c.tree hs.vl hs.vals) (zbq 2 Z ?_)
 (refine qfq rfl (step_pl Z Z Z Z Z (by simp[purL,purW]) (ctrn_s c.links false hs.len hs.link) (xpq _) ?_);refine⟨by first|rfl|kernel_rfl,?_⟩;rw[xtq hne2,xuq hne2,e])
 exact qiq 5 Z (fin Qm Ent.refl rfl ⟨rfl,rfl,rfl,rfl⟩)
theorem ctwin_s(c:Ch)(hs:SmallC c)(hne:c.links≠[]):PS cfg G 148 [chG c] (chG c):=λR=>
 uJq (kwq (ctwin_o c hs hne) (Q:=λw hp _=>View (blkA hp) w (chG c)) (λw hp nw h=>by
  obtain⟨rfl,rfl,rfl⟩:=h;exact .agg (.cons (.pur (tW_pur _)) (.cons (.sl (full:=false) rfl (xpq _) (zJq Xg (by rw[List.length_map]) rfl) Xi) .nil))) R)
theorem chead_s(c:Ch)(hc:OkC c)(h:MayC c){y:Lk}(hy:c.links[c.links.length-1]? =some y):PS cfg glK 18 [chG c] (.tup [hdW y.hdr,.int .i64 0]):=by
 have e:(c.links.map lkG).length=c.links.length:=List.length_map _;have h1:=h.one;have hl:=hc.len;exact gI 11 Z (λR k0=>gC 0 Z (zxq (w':=.int .i64 0) (vdq c hc) (by rw[if_pos h])) (gFa 6 Z (gZ 11 Z e (gA 0 Z (c.links.length-1) (gP 0 Z (zGq (i:=c.links.length-1) Z Z Z Z Z Z Z (znq lkG hy)) (gQa 7 Z))))))
theorem cstate_s(c:Ch)(hc:OkC c)(hs:SmallC c)(i:Nat)(hm:MayC c){x:Lk}(hx:c.links[i]? =some x):PS cfg glK 212 [chG c,.int .i64 (i:Int)] (.tup [tW (verT c x.root),.int .i64 0]):=by
 have e:(c.links.map lkG).length=c.links.length:=List.length_map _;have hi:=qZq hx;refine gI 12 Z (λR k0=>gC 0 Z (zxq (w':=.int .i64 0) (vdq c hc) Yh) (gFa 0 Z (gF 7 Z (ltI_not.2 Xd) (gZ 4 Z e (gF 0 Z (congrArg not (ltI_iff.2 Xd)) (gP 15 Z (zGq (i:=i) Z Z Z Z Z Z Z (znq lkG hx)) (gC 2 Z (ver_s c.tree x.root) ?_)))))));first|refine gC 0 Z (twinp_s (verT c x.root) hs.vl hs.vals) ?_|refine gC 0 Z (twinp_s c.tree hs.vl hs.vals) ?_
 exact gQa 5 Z
noncomputable def noCh:W:=.agg 3 [.agg 2 [.nils,.int .i64 0],.nils]
theorem take_at{α:Type}{l:List α}{i:Nat}{x:α}(h:l[i]? =some x):(l.take (i+1))[i]? =some x:=by
 rw[List.getElem?_take,if_pos (Nat.lt_succ_self _)];exact h
theorem ccut_s(c:Ch)(hc:OkC c)(hs:SmallC c)(i:Nat)(hm:MayC c){x:Lk}(hx:c.links[i]? =some x):PS cfg glK 171 [chG c,.int .i64 (i:Int)] (.tup [chG (cutC c i x),.int .i64 0]):=by
 have e:(c.links.map lkG).length=c.links.length:=List.length_map _;have hi:=qZq hx;have h1:=hs.len;have e2:((c.links.map lkG).take (i+1))=(c.links.take (i+1)).map lkG:=(List.map_take ..).symm;exact gIv 12 Z (λR k0=>gC 0 Z (zxq (w':=.int .i64 0) (vdq c hc) Yh) (gFa 0 Z (gF 7 Z (ltI_not.2 Xd) (gZ 4 Z e (gF 0 Z (congrArg not (ltI_iff.2 Xd)) (gC 11 Z (ctwin_s c hs (λq=>by rw[q] at hi;cases hi)) (gA 9 Z (i+1) (gA 1 Z (i+1) (gP 0 Z (cut_fz3 (ys:=(c.links.take (i+1)).map lkG) (h:=i+1) (m:=i+1) (g:=true) Z Z Z Z Z Z Z Z Xd (Nat.le_refl _) Yj Xd (by rw[List.drop_zero,Nat.sub_zero];exact e2) (Nat.beq_refl _)) (gP 9 Z (zGq (i:=i) Z Z Z Z Z Z Z (znq lkG (take_at hx))) (zbq 15 Z (k0q Qm rfl (.tup (.cons (.agg (.cons (.pur (tW_pur (verT c x.root))) (.cons (.fzw (xpq _)) .nil))) (.cons (.pur rfl) .nil)))))))))))))))
end
section
attribute [local irreducible] CoW OpW FlW Step Spec
def MayV(v:Vw):Prop:=MayC v.ch/\(0<=v.final/\v.final<(v.ch.links.length:Int)/\0<=v.number/\v.number<=1073741823)
noncomputable instance(v:Vw):Decidable (MayV v):=Classical.propDecidable _
theorem uDq(v:Vw)(hc:OkC v.ch):PS cfg glK 29 [vwG v] (.int .i64 (if MayV v then 0 else 8)):=by
 have e:(v.ch.links.map lkG).length=v.ch.links.length:=List.length_map _;by_cases hm:MayC v.ch
 ·skip
  refine gI 11 Z (λR k0=>gC 0 Z (zxq (w':=.int .i64 0) (vdq v.ch hc) Yh) (gFa 0 Z ?_));refine gD 3 Z (λh1=>?_) (λh1=>?_)
  ·exact gQ 30 Z Xq
  ·refine gZ 7 Z e ?_;refine gD 0 Z (λh2=>?_) (λh2=>?_)
   ·exact gQ 21 Z Xq
   ·refine gD 4 Z (λh3=>?_) (λh3=>?_)
    ·exact gQ 16 Z Xq
    ·refine gU 4 Z ?_;refine gS 3 Z (λh4=>?_) (λh4=>?_)
     ·exact gQ 7 Z Xq
     ·exact gQ 8 Z Xq
 ·skip
  exact gI 11 Z (λR k0=>gC 0 Z (zxq (w':=.int .i64 8) (vdq v.ch hc) (by rw[if_neg hm])) (gTa 0 Z (gQ 34 Z (by rw[if_neg λq=>hm q.1]))))
theorem vtwin_s(v:Vw)(hs:SmallC v.ch)(hne:v.ch.links≠[]):PS cfg glK 83 [vwG v] (vwG v):=by
 exact gI 10 Z (λR k0=>gC 0 Z (ctwin_s v.ch hs hne) (gQa 11 Z))
noncomputable def noVw:W:=.agg 6 [.int .i64 0,.bool false,.int .i64 0,noCh]
def upV(u:Vw):Vw:={u with number:=u.number+1}
def InV(v:Vw)(h:Int):Prop:=v.final<=h/\h<(v.ch.links.length:Int)
noncomputable instance(v:Vw)(h:Int):Decidable (InV v h):=Classical.propDecidable _
theorem vwithin_s(v:Vw)(h:Int):qbq cfg glK 165 1 [.ptr 0 0,.int .i64 h] [(0,33,vwG v)] λw hp nw=>w= .bool (decide (InV v h))/\hp=[(0,33,vwG v)]/\nw=1:=by
 have e:(v.ch.links.map lkG).length=v.ch.links.length:=List.length_map _;intro R;by_cases h1:v.final<=h
 ·by_cases h2:h<(v.ch.links.length:Int)
  ·refine gIs 12 Z (λk0=>?_);exact gT 0 Z (congrArg not (ltI_not.2 Xd)) (gZ 7 Z e (gT 0 Z (ltI_iff.2 (h2)) (zbq 5 Z (fin Qm Ent.refl rfl ⟨rfl,by rw[decide_eq_true (show InV v h from⟨h1,h2⟩)],rfl,rfl⟩))))
  ·refine gIs 12 Z (λk0=>?_);exact gT 0 Z (congrArg not (ltI_not.2 Xd)) (gZ 7 Z e (gF 0 Z (ltI_not.2 (h2)) (zbq 5 Z (fin Qm Ent.refl rfl ⟨rfl,by rw[decide_eq_false (λq:InV v h=>h2 q.2)],rfl,rfl⟩))))
 ·skip
  refine gIs 12 Z (λk0=>?_);exact gF 0 Z (congrArg not (ltI_iff.2 Xd)) (zbq 14 Z (fin Qm Ent.refl rfl ⟨rfl,by rw[decide_eq_false (λq:InV v h=>h1 q.1)],rfl,rfl⟩))
theorem vw_hand(v:Vw){hp:HpW}{b nw:Nat}(h:hget hp b=some (33,vwG v)):Qsq [b] nw [(0,33,vwG v)] hp:=vCq (by rw[zoq (yjq v)];exact h) (zfq (yjq v))
abbrev Bd:=List Depo×List Tx
noncomputable def bdW(b:Bd):W:=bodW b.1 b.2 false false
@[simp] theorem bdW_pur(b:Bd):purW (bdW b)=true:=bodW_pur _ _ _ _
@[simp] theorem k8q(l:List Bd):purL (l.map bdW)=true:=zPq bdW_pur l
def voq(l:List Bd)(i:Nat):List Bd:=(List.range l.length).map λk=>((if k<i\/l.length-i<=k then l[l.length-1-k]? else l[k]?).getD ([],[]))
theorem v9q(l:List Bd)(i:Nat):(voq l i).length=l.length:=by simp[voq]
theorem xLq{l:List Bd}{i k:Nat}(h:k<l.length):(voq l i)[k]? =if k<i\/l.length-i<=k then l[l.length-1-k]? else l[k]? :=by
 unfold voq;rw[List.getElem?_map,List.getElem?_range h];show some ((if k<i\/l.length-i<=k then l[l.length-1-k]? else l[k]?).getD ([],[]))=_;split
 ·rw[List.getElem?_eq_getElem Xd];rfl
 ·rw[List.getElem?_eq_getElem h];rfl
theorem swap_ge{l:List Bd}{i k:Nat}(h:l.length<=k):(voq l i)[k]? =none:=List.getElem?_eq_none (by rw[v9q];exact h)
theorem swap_0(l:List Bd):voq l 0=l:=List.ext_getElem? λk=>by
 by_cases h:k<l.length
 ·rw[xLq h,if_neg Xd]
 ·rw[swap_ge Xd,List.getElem?_eq_none Xd]
theorem swap_end{l:List Bd}{i:Nat}(h:l.length<=2*i+1)(hi:i<=l.length):voq l i=l.reverse:=List.ext_getElem? λk=>by
 by_cases hk:k<l.length
 ·rw[xLq hk,List.getElem?_reverse hk];split
  ·rfl
  ·congr 1;omega
 ·rw[swap_ge Xd,List.getElem?_eq_none (by rw[List.length_reverse];omega)]
theorem swap_step{l:List Bd}{i:Nat}{x y:Bd}(h:2*i+1<l.length)(hx:l[i]? =some x)(hy:l[l.length-1-i]? =some y):((voq l i).set i y).set (l.length-1-i) x=voq l (i+1):=List.ext_getElem? λk=>by
 by_cases hk:k<l.length
 ·rw[xLq hk,List.getElem?_set,List.getElem?_set,List.length_set,v9q];by_cases h1:l.length-1-i=k
  ·rw[if_pos h1,if_pos Xd,if_pos Xd];rw[<-hx];congr 1;omega
  ·rw[if_neg h1];by_cases h2:i=k
   ·subst h2;rw[if_pos rfl,if_pos Xd,if_pos Xd,hy]
   ·rw[if_neg h2,xLq hk];by_cases h3:k<i\/l.length-i<=k
    ·rw[if_pos h3,if_pos Xd]
    ·rw[if_neg h3,if_neg Xd]
 ·rw[swap_ge Xd,List.getElem?_eq_none (by rw[List.length_set,List.length_set,v9q];omega)]
theorem bd_get{l:List Bd}{n i:Nat}{x:Bd}(h:l[i]? =some x)(hn:n=l.length)(h2:2<=l.length):zYq 50 (.arr (n*2) 2 (l.map bdW)) (0+i*2) 2 true=some (bdW x):=by
 subst hn
 have hb:Nat.beq 2 (l.length*2)=false:=by
  cases q:Nat.beq 2 (l.length*2) with
  |false=>rfl
  |true=>have:=Nat.eq_of_beq_eq_true q;omega
 exact get_in (off:=0) (znq bdW h) Xd Xd (by rw[hb];simp) rfl
theorem bd_put{l:List Bd}{n i:Nat}{x y:Bd}(h:l[i]? =some x)(hn:n=l.length)(h2:2<=l.length):yDq 50 (.arr (n*2) 2 (l.map bdW)) (0+i*2) (bdW y)=some (.arr (n*2) 2 ((l.set i y).map bdW)):=by
 subst hn
 have hb:Nat.beq 2 (l.length*2)=false:=by
  cases q:Nat.beq 2 (l.length*2) with
  |false=>rfl
  |true=>have:=Nat.eq_of_beq_eq_true q;omega
 rw[List.map_set];exact put_in (off:=0) (x':=bdW y) (znq bdW h) Xd Xd (by show(_&&Nat.beq 2 (l.length*2)&&_)=false;rw[hb];simp) rfl
theorem brev_nil:qbq cfg glK 170 0 [.nils] [] λw hp nw=>w= .tup []/\hp=[]/\nw=0:=by
 intro R;refine gIs 3 Z (λk0=>?_);refine gL 0 Z ?_;refine gWr 0 Z ?_;refine gLo (α:=Nat) 5 (λi=>i=0) (λi=>[(2,.int .i64 (i:Int)),(3,.int .i64 (-1))]) [0] (λi=>0) (0) rfl (rfl) (λi hI=>?_);subst hI;refine gS 8 Z (λh1=>?_) (λh1=>?_)
 ·exfalso;simp at h1
 ·refine gO 2 Z ?_;refine zbq 1 Z ?_;exact fin (.inl rfl) Ent.refl rfl ⟨rfl,rfl,rfl,rfl⟩
theorem brev_s(l:List Bd)(hl:l.length<=1000000)(h1:1<=l.length):qbq cfg glK 170 1 [.sl 0 0 0 l.length 2 none] [(0,85,.arr (l.length*2) 2 (l.map bdW))] λw hp nw=>w= .tup []/\hp=[(0,85,.arr (l.length*2) 2 (l.reverse.map bdW))]/\nw=1:=by
 intro R;refine gIs 3 Z (λk0=>?_);refine gL 0 Z ?_;refine op_z ((l.length:Int) -1-((0:Nat):Int)) Z Z Xd ⟨by omega,by omega⟩ ?_;refine zpq 5 Z ?_;refine k4q (α:=Nat) (λi=>2*i<=l.length) (λi=>[(2,.int .i64 (i:Int)),(3,.int .i64 ((l.length:Int) -1-(i:Int)))]) [(0,_)] (λi=>[(0,85,.arr (l.length*2) 2 ((voq l i).map bdW))]) (λi=>l.length-i) (0) ⟨rfl,trivial⟩ (Nat.zero_le _) ⟨rfl,rfl,trivial⟩ (by rw[swap_0]) (λi hI=>?_);refine z9q 8 Z ?_;refine gS 0 Z (λh1=>?_) (λh1=>?_)
 ·have hi:2*i+1<l.length:=by omega
  obtain⟨x,hx⟩:∃x,l[i]? =some x:=⟨_,List.getElem?_eq_getElem Xd⟩
  obtain⟨y,hy⟩:∃y,l[l.length-1-i]? =some y:=⟨_,List.getElem?_eq_getElem Xd⟩
  have hn:=(v9q l i).symm;have gx:(voq l i)[i]? =some x:=by rw[xLq Xd,if_neg Xd,hx]
  have gy:(voq l i)[l.length-1-i]? =some y:=by rw[xLq Xd,if_neg Xd,hy]
  have gy2:((voq l i).set i y)[l.length-1-i]? =some y:=by rw[List.getElem?_set_ne Xd];exact gy
  have hst:=swap_step hi hx hy;refine gV (w':=.int .i64 ((l.length-1-i:Nat):Int)) 8 Z (by congr 1;omega) ?_;refine gV (w':=.int .i64 ((l.length-1-i:Nat):Int)) 1 Z (by congr 1;omega) ?_;refine gP 0 Z (knq (i:=l.length-1-i) Z Z Z Z Z Z Z Xd) ?_;refine gM 0 Z (yiq Z Z Z (bd_get gy hn Xd)) ?_;refine gP 2 Z (knq (i:=i) Z Z Z Z Z Z Z Xd) ?_;refine gM 0 Z (yiq Z Z Z (bd_get gx hn Xd)) ?_;refine gP 0 Z (knq (i:=i) Z Z Z Z Z Z Z Xd) ?_;refine gM 0 Z (qhq Z Z Z Z Z (bd_put gx hn Xd) rfl) ?_;refine gP 0 Z (knq (i:=l.length-1-i) Z Z Z Z Z Z Z Xd) ?_;refine gM 0 Z (qhq Z Z Z Z Z (bd_put gy2 (by rw[List.length_set];exact hn) (by rw[List.length_set];omega)) (congrArg (λq:List Bd=>[(0,85,W.arr (l.length*2) 2 (q.map bdW))]) hst)) ?_;refine gA 5 Z (i+1) ?_;refine zbq 1 Z ?_;refine op_z ((l.length:Int) -1-((i+1:Nat):Int)) Z Z Xd ⟨by omega,by omega⟩ ?_;refine run_p 3 Z ?_;exact kQq (i+1) Xd Xd ⟨rfl,rfl,trivial⟩ ⟨rfl,trivial⟩ rfl
 ·rw[swap_end Xd Xd];refine zbq 2 Z ?_;refine q4q Xi ?_;refine zZq 1 Z ?_;exact fin (.inl rfl) Ent.refl rfl ⟨rfl,rfl,rfl,rfl⟩
noncomputable def encB(l:List Lk)(k:Nat):List W:=[.int .i64 ((l.length:Int) -1-(k:Int)),lkA l (l.length-1-k)]
theorem encB_ok(l:List Lk){n:Nat}:∀y∈List.range n,purL (encB l y)=true/\(encB l y).length=2:=λy _=>⟨by simp[encB,purL,purW],rfl⟩
theorem sback_s(l:List Lk)(f:Bool):PS cfg glK 169 [.fz (l.map lkG) 102 f] (.fn 214 [] [.fel (.fz (l.map lkG) 102 f)]):=by
 have hp:=xpq l;refine gI 13 Z (λR k0=>?_);refine yHq (fr2:=[(2,_)]) Xr ?_ Z Z
 (repeat (first|exact trivial|refine And.symm ⟨?_,_,rfl,?_⟩))<;>(repeat (first|exact .nil|refine .cons ?_ ?_|refine .fn ?_ ?_|(refine qFq Z ?_ rfl;(first|rfl|(focus (simp;done))))|(refine .sl Z ?_ rfl Xi;(first|rfl|(focus (simp;done))))|(refine .pur ?_;(first|rfl|(focus (simp;done))))|refine .agg ?_|refine .arr ?_|refine .tup ?_))
theorem sback_it(l:List Lk)(f:Bool)(hb:l.length<=1000000):qkq cfg glK 214 [.fel (.fz (l.map lkG) 102 f)] ((List.range l.length).map (encB l)):=by
 have e:(l.map lkG).length=l.length:=List.length_map _;refine xqq (fn:=Tryz.f214) Z Z Z (Zb rfl) (λL E R hy k0=>?_);refine z9q 3 Z (gZ 0 Z e (op_z ((l.length:Int) -1-((0:Nat):Int)) Z Z Xd ⟨by omega,by omega⟩ (zpq 4 Z ?_)));refine Zoq (α:=Nat×Res) (λp=>p.1<=l.length/\Yl cfg glK L E (((List.range l.length).drop p.1).map (encB l)) p.2) (λp=>[(3,.int .i64 ((l.length:Int) -1-(p.1:Int)))]) [(0,_),(1,_)] (λp=>p.2) (λp=>l.length-p.1) ((0,R)) ⟨rfl,rfl,trivial⟩ (⟨Nat.zero_le _,hy⟩) ⟨rfl,trivial⟩ rfl (λp hI=>?_);obtain⟨i,R⟩:=p;obtain⟨hi,hy⟩:=hI;simp only at hi hy⊢;refine z9q 7 Z ?_;refine gS 0 Z (λh1=>?_) (λh1=>?_)
 ·have hi':i<l.length:=by omega
  obtain⟨x,hx⟩:∃x,l[l.length-1-i]? =some x:=⟨_,List.getElem?_eq_getElem Xd⟩
  rw[Yiq (Zbq hi'),List.map_cons,show encB l i=[.int .i64 ((l.length:Int) -1-(i:Int)),lkG x] by unfold encB;rw[lkA_at hx]] at hy;refine gV (w':=.int .i64 ((l.length-1-i:Nat):Int)) 9 Z (by congr 1;omega) (gP 0 Z (zGq (i:=l.length-1-i) Z Z Z Z Z Z Z (znq lkG hx)) ?_);refine gSo 1 Z (qNq Z Z Z (hy) (λb R1 hb=>?_));refine gS 3 Z (λh2=>?_) (λh2=>?_)
  ·cases b with
   |true=>cases h2
   |false=>
    exact zLq 3 Z (gO 0 Z (zbq 1 Z (kfq Qm rfl hb)))
  ·cases b with
   |false=>exact absurd rfl h2
   |true=>
    exact zLq 5 Z (op_z ((l.length:Int) -1-((i+1:Nat):Int)) Z Z Xd ⟨by omega,by omega⟩ (run_p 2 Z (gAg 0 Z ((i+1,R1)) (⟨hi',hb⟩) Yf)))
 ·refine gO 2 Z (zbq 1 Z ?_);obtain rfl:i=l.length:=by omega
  rw[List.drop_of_length_le Xl] at hy;exact kfq (.inl rfl) rfl hy
def bdL(x:Lk):Bd:=(x.ds,x.xs)
def ymq(c:Ch)(i:Nat):List Bd:=(c.links.drop (i+1)).map bdL
noncomputable def rolP(u:W)(L:List Bd):HpW:=[(0,33,u),(1,210,gW 2 2 (L.map bdW))]
noncomputable def rolG(L:List Bd):HpW:=gH 2 85 2 (L.map bdW)
theorem gl_get(b e:Nat)(l:List W):zYq 50 (gW b e l) 0 1 false=some (gW b e l):=by cases l<;>rfl
theorem gl_put(b e:Nat)(l:List W)(b' n:Nat):yDq 50 (gW b e l) 0 (.sl b' 0 0 n e none)=some (.sl b' 0 0 n e none):=by cases l<;>rfl
def rolN:List Bd->Nat
 |[]=>2
 |_::_=>3
def RolQ(v:Vw)(h:Int):W->HpW->Nat->Prop:=λw hp nw=>nw=3/\((∃i x,h=((i:Nat):Int)/\v.final<=h/\v.ch.links[i]? =some x/\w= .int .i64 0/\hp=rolG (ymq v.ch i)++rolP (vwG {v with ch:=cutC v.ch i x}) (ymq v.ch i))\/(¬InV v h/\w= .int .i64 170/\hp=rolG []++rolP (vwG v) []))
theorem vroll1_s(v:Vw)(hm:MayV v)(hc:OkC v.ch)(hs:SmallC v.ch)(h:Int):qbq cfg glK 168 2 [.ptr 0 0,.fel (.int .i64 h),.ptr 1 0] [(0,33,vwG v),(1,210,.nils)] (RolQ v h):=by
 obtain⟨hM,h0,h1,_⟩:=hm;have hl:=hs.len;intro R;refine gIs 10 Z (λk0=>?_);skip
 skip
 refine gSo 0 Z (yNq (ext:=[0]) (ws:=[.ptr 0 0,.int .i64 h]) Z Z Z Z Z (vwithin_s v h) Xg Xp Xl (vw_hand v rfl) Z ?_);rintro w hp1 nw1 ⟨rfl,rfl,rfl⟩;rw[jQq (yjq v)];by_cases hI:InV v h
 ·rw[decide_eq_true hI];have hIV:=hI;obtain⟨i0,rfl⟩:=Int.eq_ofNat_of_zero_le (show 0<=h by have:=hI.1;omega);have hi0:i0<v.ch.links.length:=by have:=hI.2;omega
  obtain⟨x0,hx0⟩:∃x,v.ch.links[i0]? =some x:=⟨_,List.getElem?_eq_getElem hi0⟩
  obtain⟨ls,hls⟩:∃ls,v.ch.links.drop (i0+1)=ls:=⟨_,rfl⟩
  have hlen:ls.length<=1000000:=by rw[<-hls,List.length_drop];omega
  have ecut:((v.ch.links.map lkG).drop (i0+1)).take ((v.ch.links.map lkG).length-(i0+1))=ls.map lkG:=by
   rw[List.take_of_length_le Xl,<-List.map_drop,hls]
  obtain⟨rb,hrb⟩:∃rb,(ls.map bdL).reverse=rb:=⟨_,rfl⟩
  have hrl:rb.length=ls.length:=by rw[<-hrb,List.length_reverse,List.length_map]
  have hrv:rb.reverse=ymq v.ch i0:=by rw[<-hrb,List.reverse_reverse];unfold ymq;rw[hls]
  skip
  skip
  refine gA 15 Z (i0+1) (gP 0 Z (cut_fz (l:=i0+1) (h:=(v.ch.links.map lkG).length) (ys:=ls.map lkG) (g:=false) Z Z Z Z Z Z Z (by rw[List.length_map];omega) (Nat.le_refl _) ecut rfl) (gC 0 Z (sback_s ls false) (zbq 3 Z ?_)));refine co_rangeN (α:=List Bd) (encB ls) (List.range ls.length) (λi a=>a=rb.take i) (λa=>rolP (vwG v) a++rolG a) (λa=>rolN a) (λa=>R) ([]) rfl Xn (sback_it ls false hlen) (encB_ok ls) (rfl) Z Z Z (λi a y hy hI=>?_) (λa hI=>?_)
  ·subst hI;have hi:i<ls.length:=by have:=qZq hy;simpa using this
   obtain rfl:i=y:=by rw[Zbq hi] at hy;exact Option.some.inj hy
   obtain⟨x,hx⟩:∃x,ls[ls.length-1-i]? =some x:=⟨_,List.getElem?_eq_getElem Xd⟩
   have hrx:rb[i]? =some (bdL x):=by rw[<-hrb,List.getElem?_reverse (by simpa using hi),List.getElem?_map,List.length_map,hx];rfl
   obtain⟨b0,r0,rfl⟩:∃b0 r0,rb=b0::r0:=by
    cases rb with
    |nil=>simp at hrl;omega
    |cons b r=>exact⟨b,r,rfl⟩
   rw[show encB ls i=[.int .i64 ((ls.length:Int) -1-(i:Int)),lkG x] by unfold encB;rw[lkA_at hx]];skip
   cases i with
   |zero=>
    obtain rfl:b0=bdL x:=Option.some.inj hrx;rw[show rolN ((bdL x::r0).take 0)=2 from rfl];refine z9q 4 Z (ZHq (z9q 6 Z (gM 0 Z (ySq Z Z (uyq (k:=ti85) (news:=[bdW (bdL x)]) Z Z Z Z (uIq Z Z Z Z) Xl (by show 1*48<=_;decide) (by show 1<=_;decide))) (zbq 3 Z (vuq [bdL x] rfl ?_)))));have hne0:[bdL x].map bdW≠[]:=by simp
    unfold rolP rolG;rw[xtq hne0,xuq hne0];refine yPq (b:=2) (k:=4) Xg Xg Xg trivial ⟨⟨by omega,?_,zfq (yjq v)⟩,⟨by omega,rfl,rfl⟩,⟨by omega,?_,zfq (show purW (.arr _ _ ([bdL x].map bdW))=true from k8q _)⟩,trivial⟩ Xl
    ·rw[zoq (yjq v)];rfl
    ·rw[zoq (show purW (.arr _ _ ([bdL x].map bdW))=true from k8q _)];rfl
   |succ i=>
    have es:((b0::r0).take (i+1+1)).map bdW=((b0::r0).take (i+1)).map bdW++[bdW (bdL x)]:=by rw[List.take_add_one,hrx,List.map_append];rfl
    have ep:purL (((b0::r0).take (i+1)).map bdW++[bdW (bdL x)])=true:=by rw[<-es];exact k8q _
    have el:(((b0::r0).take (i+1)).map bdW).length<=1000000:=by rw[List.length_map,List.length_take];omega
    have hne:((b0::r0).take (i+1)).map bdW++[bdW (bdL x)]≠[]:=List.append_ne_nil_of_right_ne_nil _ Xl;rw[show rolN ((b0::r0).take (i+1))=3 from rfl];refine z9q 4 Z (ZHq (z9q 2 Z (gM 0 Z (yiq Z Z Z (gl_get 2 2 _)) (gM 3 Z (ySq Z Z (Qnq [_,_,_,_] (k:=ti85) (news:=[bdW (bdL x)]) Z Z Z Z Z (uIq Z Z Z Z) Xl (by show((((b0::r0).take (i+1)).map bdW).length+1)*48<=_;omega) (by show(((b0::r0).take (i+1)).map bdW).length+1<=_;omega) rfl Xl)) (gM 0 Z (qhq Z Z Z Z Z (gl_put 2 2 _ _ _) rfl) (zbq 2 Z (vuq ((b0::r0).take (i+1+1)) Z ?_)))))));unfold rolP rolG;rw[es,xtq hne,xuq hne];refine yPq (b:=2) (k:=5) Xg Xg Xg trivial ⟨⟨by omega,?_,zfq (yjq v)⟩,⟨by omega,rfl,rfl⟩,⟨by omega,?_,zfq ep⟩,trivial⟩ Xl
    ·rw[zoq (yjq v)];rfl
    ·rw[zoq (by exact ep)];rfl
  ·rw[List.length_range,List.take_of_length_le Xd] at hI;subst hI;skip
   cases a with
   |nil=>
    refine zZq 4 Z (gM 0 Z (yiq Z Z Z (gl_get 2 2 _)) ?_);skip
    refine gSo 0 Z (uGq Z Z Z Z Z Z brev_nil ?_);rintro w hp1 nw1 ⟨rfl,rfl,rfl⟩;skip
    exact gC 10 Z (ccut_s v.ch hc hs i0 hM hx0) (zbq 16 Z (fin Qm (ent_up (fr2:=[(4,.int .i64 0)]) ⟨rfl,trivial⟩) rfl ⟨rfl,rfl,.inl ⟨i0,x0,rfl,hIV.1,hx0,rfl,by rw[<-hrv];rfl⟩⟩))
   |cons b r=>
    have hb1:((b::r).map bdW).length=(b::r).length:=List.length_map _;have hb2:(b::r).map bdW≠[]:=by simp
    have hb3:((b::r).reverse.map bdW).length=(b::r).length:=by rw[List.length_map,List.length_reverse]
    have hb4:(b::r).reverse.map bdW≠[]:=by simp
    have epA:purW (.arr ((b::r).length*2) 2 ((b::r).map bdW))=true:=k8q _;have epB:purW (.arr ((b::r).length*2) 2 ((b::r).reverse.map bdW))=true:=k8q _;unfold rolP rolG;rw[xtq hb2,xuq hb2,hb1];refine zZq 5 Z ?_;skip
    refine gSo 0 Z (yNq (ext:=[2]) (ws:=[.sl 0 0 0 (b::r).length 2 none]) Z Z Z Z Z (brev_s (b::r) Xd Xl) Xg (by intro b hb;simp only[List.mem_cons,List.not_mem_nil,or_false] at hb;subst hb;show 2<3;decide) Xl (vCq (by rw[zoq epA];rfl) (zfq epA)) Z ?_);rintro w hp1 nw1 ⟨rfl,rfl,rfl⟩;rw[jQq epB];skip
    exact gC 10 Z (ccut_s v.ch hc hs i0 hM hx0) (zbq 16 Z (fin Qm Ent.refl rfl ⟨rfl,rfl,.inl ⟨i0,x0,rfl,hIV.1,hx0,rfl,by rw[<-hrv];unfold rolP rolG;rw[xtq hb4,xuq hb4,hb3];rfl⟩⟩))
 ·rw[decide_eq_false hI];skip
  skip
  exact zbq 11 Z (fin Qm (ent_up (fr2:=[(4,.int .i64 170)]) ⟨rfl,trivial⟩) rfl ⟨rfl,rfl,.inr ⟨hI,rfl,rfl⟩⟩)
noncomputable def rolX(a b c:Nat)(u:W)(L:List Bd):HpW:=gH c 85 2 (L.map bdW)++[(a,33,u),(b,210,gW c 2 (L.map bdW))]
theorem yZq(τ:Nat->Nat):∀(a b:HpW),renH τ (a++b)=renH τ a++renH τ b
 |[],b=>rfl
 |(k,ty,w)::a,b=>by
  show(τ k,ty,renW τ w)::renH τ (a++b)=_;rw[yZq τ a b];rfl
theorem uOq(τ:Nat->Nat)(a b c:Nat){u:W}(hu:purW u=true)(L:List Bd):renH τ (rolX a b c u L)=rolX (τ a) (τ b) (τ c) u L:=by
 unfold rolX;rw[yZq,renH_g _ _ _ _ (k8q L)];show _++[(τ a,_,renW τ u),(τ b,_,renW τ (gW c 2 _))]=_;rw[zoq hu,ren_g]
noncomputable def trW(h:Int):W:=.agg 1 [.fn 168 [] [.fel (.int .i64 h),.ptr 0 0]]
noncomputable def turnH(v:Vw)(h:Int)(u:W):HpW:=[(3,33,u),(2,33,vwG v),(1,312,trW h)]
noncomputable def ZDq(v:Vw)(h:Int):Nat:=if¬MayV v then 8 else if v.number=1073741823 then 9 else 170
structure CanRoll(v:Vw)(h:Int):Prop where
 may:MayV v
 num:v.number≠1073741823
 is:InV v h
noncomputable instance(v:Vw)(h:Int):Decidable (CanRoll v h):=Classical.propDecidable _
noncomputable def jmq(v:Vw)(i:Nat)(x:Lk):Vw:=upV {v with ch:=cutC v.ch i x}
def OfR(v:Vw)(h:Int):W->HpW->Nat->Prop:=λw hp nw=>(CanRoll v h/\∃i x,h=((i:Nat):Int)/\v.ch.links[i]? =some x/\w= .tup [vwG (jmq v i x),.int .i64 0]/\hp=rolX 4 0 5 (vwG (jmq v i x)) (ymq v.ch i)++turnH v h (vwG (jmq v i x))/\nw=6)\/(¬CanRoll v h/\w= .tup [noVw,.int .i64 (ZDq v h:Nat)]/\((hp=rolX 4 0 5 (vwG v) []++turnH v h noVw/\nw=6)\/(hp=turnH v h noVw++[(0,210,.nils)]/\nw=4)))
theorem vofr_s(v:Vw)(h:Int)(hc:OkC v.ch)(hs:SmallC v.ch):qbq cfg glK 166 1 [trW h,vwG v] [(0,210,.nils)] (OfR v h):=by
 intro R;by_cases hm:MayV v
 ·have hone:=hm.1.one;by_cases hn:v.number=1073741823
  ·skip
   refine gIs 13 Z (λk0=>?_);exact gC 0 Z (zxq (w':=.int .i64 0) (uDq v hc) Yh) (gFa 0 Z (gT 8 Z (eqI_iff.2 (hn)) (zbq 14 Z (fin Qm Ent.refl rfl ⟨rfl,.inr ⟨λq=>q.num hn,by unfold ZDq;rw[if_neg (λq=>q hm),if_pos hn];rfl,.inr ⟨rfl,rfl⟩⟩⟩))))
  ·skip
   refine gIs 13 Z (λk0=>?_);refine gC 0 Z (zxq (w':=.int .i64 0) (uDq v hc) Yh) (gFa 0 Z (gF 8 Z (eqI_not.2 (hn)) (gC 10 Z (vtwin_s v hs (λq=>by rw[q] at hone;cases hone)) (zbq 9 Z ?_))));skip
   skip
   refine gSo 0 Z (yNq (ext:=[4,0]) (ws:=[.ptr 0 0,.fel (.int .i64 h),.ptr 1 0]) Z Z Z Z Z (vroll1_s v hm hc hs h) Xg Xp Xl (handed2 (by rw[zoq (yjq v)];rfl) rfl (zfq (yjq v)) rfl) Z ?_);rintro w hp1 nw1 ⟨rfl,⟨i,x,rfl,hf,hx,rfl,rfl⟩|⟨hI,rfl,rfl⟩⟩
   ·rw[show rolG (ymq v.ch i)++rolP (vwG {v with ch:=cutC v.ch i x}) (ymq v.ch i)=rolX 0 1 2 (vwG {v with ch:=cutC v.ch i x}) (ymq v.ch i) from rfl,uOq _ _ _ _ (yjq _)];have hca:CanRoll v (i:Int):=⟨hm,hn,hf,by have:=qZq hx;omega⟩;have hnn:=hm.2.2.2;skip
    skip
    cases hb:(ymq v.ch i) with
    |nil=>
     exact zpq 6 Z (gFa 0 Z (zbq 9 Z (op_z (v.number+1) Z Z Z ⟨by omega,by omega⟩ (zpq 12 Z (fin Qm Ent.refl rfl ⟨rfl,.inl ⟨hca,i,x,rfl,hx,rfl,by rw[hb];rfl,rfl⟩⟩)))))
    |cons b r=>
     exact zpq 6 Z (gFa 0 Z (zbq 9 Z (op_z (v.number+1) Z Z Z ⟨by omega,by omega⟩ (zpq 12 Z (fin Qm Ent.refl rfl ⟨rfl,.inl ⟨hca,i,x,rfl,hx,rfl,by rw[hb];rfl,rfl⟩⟩)))))
   ·rw[show rolG []++rolP (vwG v) []=rolX 0 1 2 (vwG v) [] from rfl,uOq _ _ _ _ (yjq _)];skip
    exact gTa 6 Z (zbq 13 Z (fin Qm Ent.refl rfl ⟨rfl,.inr ⟨λq=>hI q.is,by unfold ZDq;rw[if_neg (λq=>q hm),if_neg hn];rfl,.inl ⟨rfl,rfl⟩⟩⟩))
 ·skip
  refine gIs 13 Z (λk0=>?_);exact gC 0 Z (zxq (w':=.int .i64 8) (uDq v hc) (by rw[if_neg hm])) (gTa 0 Z (zbq 14 Z (fin Qm Ent.refl rfl ⟨rfl,.inr ⟨λq=>hm q.may,by unfold ZDq;rw[if_pos hm];rfl,.inr ⟨rfl,rfl⟩⟩⟩)))
def RollA(v:Vw)(h:Int):W->Prop:=λw=>(CanRoll v h/\∃i x,h=((i:Nat):Int)/\v.ch.links[i]? =some x/\w= .tup [vwG (jmq v i x),.fz ((ymq v.ch i).map bdW) 2 false,.int .i64 0])\/(¬CanRoll v h/\w= .tup [noVw,.nils,.int .i64 (ZDq v h:Nat)])
theorem rollE_no{v:Vw}{h:Int}:ZDq v h≠0:=by
 unfold ZDq;split
 ·decide
 ·split<;>decide
theorem vroll_s(v:Vw)(h:Int)(hc:OkC v.ch)(hs:SmallC v.ch):PE cfg glK 99 [vwG v,.int .i64 h] (RollA v h):=by
 refine gIe 14 Z (λR k0=>?_);skip
 refine vSq (λ_=>ent_fr1 1 [(4,.ptr 2 0),(5,.ptr 3 0),(9,.agg 1 [.fn 168 [] [.fel (.int .i64 h),.ptr 3 0]]),(10,vwG v)] [(3,210,.nils),(2,33,noVw),(0,33,vwG v)] Z Z (Nat.zero_le _) ⟨⟨_,rfl,.ptrK rfl⟩,⟨_,rfl,.ptrK rfl⟩,⟨_,rfl,.agg (.cons (.fn .nil (.cons (.ptr (n:=1) (ag:=false) Z Z Z) (.cons (.ptrK rfl) .nil))) .nil)⟩,⟨_,rfl,.pur (yjq v)⟩,trivial⟩ ⟨⟨by omega,_,rfl,.pur rfl⟩,⟨by omega,_,rfl,.pur rfl⟩,⟨by omega,_,rfl,.pur (yjq v)⟩,trivial⟩ Xl) ?_;skip
 refine z5q rfl (yNq (ext:=[3]) (ws:=[trW h,vwG v]) Z Z Z Z (by show [W.agg 1 [.fn _ [] [.fel (.int .i64 h),.ptr 3 0]],vwG v]=[W.agg 1 [.fn _ [] [.fel (.int .i64 h),.ptr 3 0]],renW _ (vwG v)];rw[zoq (yjq v)]) (vofr_s v h hc hs) Xg Xp Xl (vCq Z Z) (by show(true&&(refB 1 (vwG v)&&true))=true;rw[zfq (yjq v)];rfl) ?_);rintro w hp1 nw1 (⟨hca,i,x,rfl,hx,rfl,rfl,rfl⟩|⟨hno,rfl,⟨rfl,rfl⟩|⟨rfl,rfl⟩⟩)
 ·rw[yZq,uOq _ _ _ _ (yjq _),zoq (show purW (.tup [vwG (jmq v i x),.int .i64 0])=true by show(purW (vwG _)&&_)=true;rw[yjq];rfl)];skip
  skip
  cases hb:(ymq v.ch i) with
  |nil=>
   exact zpq 11 Z (gFa 0 Z (zbq 15 Z (ywq (w':=.tup [vwG (jmq v i x),.fz [] 2 false,.int .i64 0]) Qm rfl (.tup (.cons (.pur (yjq _)) (.cons .nilfz (.cons (.pur rfl) .nil)))) (by show(purW (vwG _)&&_)=true;rw[yjq];rfl) (.inl ⟨hca,i,x,rfl,hx,by rw[hb];rfl⟩))))
  |cons b r=>
   exact zpq 11 Z (gFa 0 Z (zbq 15 Z (ywq (w':=.tup [vwG (jmq v i x),.fz ((b::r).map bdW) 2 false,.int .i64 0]) Qm rfl (.tup (.cons (.pur (yjq _)) (.cons (.sl (full:=false) (c:=.arr (((b::r).map bdW).length*2) 2 ((b::r).map bdW)) rfl (show purL ((b::r).map bdW)=true from k8q _) (zJq Xg Z Z) Xi) (.cons (.pur rfl) .nil)))) (by show(purW (vwG _)&&(purL ((b::r).map bdW)&&_))=true;rw[yjq,k8q];rfl) (.inl ⟨hca,i,x,rfl,hx,by rw[hb]⟩))))
 ·have hz:= @rollE_no v h;rw[yZq,uOq _ _ _ _ (yjq _)];skip
  exact zpq 11 Z (gT 0 Z (congrArg not (eqI_not.2 Xd)) (zbq 14 Z (ywq (w':=.tup [noVw,.nils,.int .i64 (ZDq v h:Nat)]) Qm rfl (.pur rfl) rfl (.inr ⟨hno,rfl⟩))))
 ·have hz:= @rollE_no v h;skip
  exact zpq 11 Z (gT 0 Z (congrArg not (eqI_not.2 Xd)) (zbq 14 Z (ywq (w':=.tup [noVw,.nils,.int .i64 (ZDq v h:Nat)]) Qm rfl (.pur rfl) rfl (.inr ⟨hno,rfl⟩))))
end
def dropX(a:Au)(i:Nat):List Tx:=(ymq a.vw.ch i).flatMap λb=>b.2
def dropD(a:Au)(i:Nat):List Depo:=(ymq a.vw.ch i).flatMap λb=>b.1
def bkX(a:Au)(i:Nat):List Tx:=(a.back++dropX a i)++a.drawn
def wtX(a:Au)(i:Nat):List Depo:=dropD a i++a.wait
def evX(a:Au)(x:Lk):Eve:=⟨a.vw.number+1,true,x.hdr⟩
noncomputable def rolA(a:Au)(i:Nat)(x:Lk):Au:=⟨a.ru,jmq a.vw i x,a.pool,[],bkX a i,wtX a i,a.count,a.tells++[evX a x],a.hub⟩
structure Few25(a:Au):Prop where
 ch:¬YAq a.vw.ch 6
 pool:a.pool.length<=10/\∀s∈a.pool,s.length<=6/\∀y∈s,y.txs.length<=20
 hub:a.hub.subs.length<=18/\∀s∈a.hub.subs,s.tap.items.length<=20
 drawn:a.drawn.length<=10
 back:a.back.length<=20
 wait:a.wait.length<=20
 tells:a.tells.length<=20
theorem xQq{c:Ch}{i:Nat}{b:Bd}(h:b∈ymq c i):∃(k:Nat) (y:Lk),i<k/\c.links[k]? =some y/\b=(y.ds,y.xs):=by
 obtain⟨y,hy,rfl⟩:=List.mem_map.1 h;obtain⟨j,hj,he⟩:=List.mem_drop_iff_getElem.1 hy;exact⟨i+1+j,y,by omega,by rw[List.getElem?_eq_getElem Xd,<-he],rfl⟩
theorem body_mem{c:Ch}{i k:Nat}{y:Lk}(hk:i<k)(h:c.links[k]? =some y):(y.ds,y.xs)∈ymq c i:=by
 refine List.mem_map.2 ⟨y,List.mem_drop_iff_getElem.2 ⟨k-(i+1),by have:=qZq h;omega,?_⟩,rfl⟩;have e:i+1+(k-(i+1))=k:=by omega
 simp only[e];exact(List.getElem?_eq_some_iff.1 h).2
theorem mem_dropX{a:Au}{i:Nat}{x:Tx}(h:x∈dropX a i):∃(k:Nat) (y:Lk),i<k/\a.vw.ch.links[k]? =some y/\x∈y.xs:=by
 obtain⟨b,hb,hx⟩:=List.mem_flatMap.1 h;obtain⟨k,y,h1,h2,rfl⟩:=xQq hb;exact⟨k,y,h1,h2,hx⟩
theorem rol_roll{v:Vw}{i:Nat}{x:Lk}(hc:CanRoll v (i:Int))(hx:v.ch.links[i]? =some x):MayV (jmq v i x):=by
 obtain⟨⟨a,b,c,d,e⟩,hn,h1,h2⟩:=hc;have hi:=qZq hx;refine⟨a.cut hx,b,?_,?_,?_⟩
 ·show v.final<((v.ch.links.take (i+1)).length:Int);rw[List.length_take];omega
 ·show 0<=v.number+1;omega
 ·show v.number+1<=_;omega
theorem rol_may{a:Au}{i:Nat}{x:Lk}(hm:AuM (MayV a.vw) a)(hc:CanRoll a.vw (i:Int))(hx:a.vw.ch.links[i]? =some x)(hn:a.vw.number<=536870912):AuM (MayV (rolA a i x).vw) (rolA a i x):=by
 have hM:=hc.may.1;refine⟨hm.ru,rol_roll hc hx,hm.pool,hm.len,?_,?_,?_,?_,hm.hub⟩
 ·have:=hm.block;show((0:Nat):Int)<=a.ru.block;omega
 ·rintro⟨y,hy,_⟩;cases hy
 ·rintro⟨y,hy,hu⟩;rcases List.mem_append.1 hy with hy|hy
  ·rcases List.mem_append.1 hy with hy|hy
   ·exact hm.back ⟨y,hy,hu⟩
   ·obtain⟨k,z,_,hz,hyz⟩:=mem_dropX hy;exact hu ((hM.link k z hz).body.2.2 y hyz)
  ·exact hm.drawn ⟨y,hy,hu⟩
 ·rintro⟨e,he,ho⟩;rcases List.mem_append.1 he with he|he
  ·exact hm.odd ⟨e,he,ho⟩
  ·obtain rfl:=List.mem_singleton.1 he;have:=hc.may.2.2.2;exact ho ⟨⟨by show 0<=a.vw.number+1;omega,by show a.vw.number+1<_;omega⟩,(hM.link i x hx).hdr⟩
theorem uZq{α β:Type}{f:α->List β}{n:Nat}:∀{l:List α},(∀x∈l,(f x).length<=n) ->(l.flatMap f).length<=l.length*n
 |[],_=>by simp
 |x::l,h=>by
  have h1:=h x (List.mem_cons_self ..);have h2:=uZq (l:=l) λy hy=>h y (List.mem_cons_of_mem _ hy)
  rw[List.flatMap_cons,List.length_append,List.length_cons,Nat.add_mul];omega
theorem dropX_len{a:Au}{i:Nat}(hM:MayC a.vw.ch):(dropX a i).length<=4096:=by
 have h1:=uZq (l:=ymq a.vw.ch i) (f:=λb=>b.2) (n:=16) λb hb=>by
  obtain⟨k,y,_,hy,rfl⟩:=xQq hb;exact(hM.link k y hy).body.2.1
 have h2:(ymq a.vw.ch i).length<=256:=by
  have:=hM.len;unfold ymq;rw[List.length_map,List.length_drop];omega
 unfold dropX;omega
theorem dropD_len{a:Au}{i:Nat}(hM:MayC a.vw.ch):(dropD a i).length<=4096:=by
 have h1:=uZq (l:=ymq a.vw.ch i) (f:=λb=>b.1) (n:=16) λb hb=>by
  obtain⟨k,y,_,hy,rfl⟩:=xQq hb;exact(hM.link k y hy).body.1
 have h2:(ymq a.vw.ch i).length<=256:=by
  have:=hM.len;unfold ymq;rw[List.length_map,List.length_drop];omega
 unfold dropD;omega
theorem few_ok{a:Au}(hf:Fit25 a)(hg:Few25 a):OkAu a:=
 ⟨λs hs=>⟨by have:=(hg.pool.2 s hs).1;omega,(hf.pool s hs).2⟩,hf.drawn,by have:=hg.drawn;omega,hf.back,by have:=hg.back;omega,by have:=hg.tells;omega,hf.subs,hf.taps⟩
theorem few_sm{a:Au}(hg:Few25 a):SmAu a:=
 ⟨by have:=hg.pool.1;omega,λs hs=>⟨by have:=(hg.pool.2 s hs).1;omega,λy hy=>by have:=(hg.pool.2 s hs).2 y hy;omega⟩,by have:=hg.drawn;omega,by have:=hg.back;omega,by have:=hg.wait;omega,by have:=hg.tells;omega,by have:=hg.hub.1;omega,λs hs=>by have:=hg.hub.2 s hs;omega⟩
theorem rol_ok{a:Au}{i:Nat}{x:Lk}(hf:Fit25 a)(hg:Few25 a)(hM:MayC a.vw.ch):OkAu (rolA a i x):=by
 have h1:=dropX_len (i:=i) hM;have:=hg.back;have:=hg.drawn;have:=hg.tells;refine⟨λs hs=>⟨by have:=(hg.pool.2 s hs).1;omega,(hf.pool s hs).2⟩,λy hy=>(by cases hy),by show(0:Nat)<=_;omega,λy hy=>?_,?_,?_,hf.subs,hf.taps⟩
 ·rcases List.mem_append.1 hy with hy|hy
  ·rcases List.mem_append.1 hy with hy|hy
   ·exact hf.back y hy
   ·obtain⟨k,z,_,hz,hyz⟩:=mem_dropX hy;exact(hf.ch.body z (List.mem_of_getElem? hz)).tx y hyz
  ·exact hf.drawn y hy
 ·show((a.back++dropX a i)++a.drawn).length<=_;rw[List.length_append,List.length_append];omega
 ·show(a.tells++[evX a x]).length<=_;rw[List.length_append];show _+1<=_;omega
section
attribute [local irreducible] CoW OpW FlW Step Spec
variable {G:Nat->Option W}
theorem min_c(k:IntKind)(n:Nat):W.int k (match ltI 100 (n:Int) with|true=>100|false=>(n:Int))=W.int k ((min n 100:Nat):Int):=by
 rcases Nat.lt_or_ge 100 n with q|q
 ·rw[ltI_iff.2 Xd,Nat.min_eq_right Xd];rfl
 ·rw[ltI_not.2 Xd,Nat.min_eq_left q]
theorem great20_s(s:Shd)(hl:s.length<=4611686018427387903)(hx:∀l∈s,l.txs.length<=4611686018427387903):PE cfg G 68 [shdW s] (λw=>∃b:Bool,w= .bool b/\(b=false->s.length<=6/\∀l∈s,l.txs.length<=20)):=by
 have e:(s.map lnW).length=s.length:=List.length_map _;have hp:=vyq s;refine gIe 18 Z (λR k0=>?_);refine gLo (α:=Nat×Nat) 0 (λp=>p.1<=s.length/\p.1<=20/\p.2<=100*p.1/\∀(j:Nat) x,j<p.1->s[j]? =some x->min x.txs.length 100<=p.2) (λp=>[(3,.int .i64 (p.2:Int)),(4,.int .i64 (p.1:Int))]) [1,2] (λp=>s.length-p.1) ((0,0)) rfl (⟨Nat.zero_le _,Nat.zero_le _,Nat.zero_le _,λj x h=>by simp at h⟩) (λp hI=>?_);obtain⟨i,n⟩:=p;obtain⟨i1,i2,i3,i4⟩:=hI;simp only at i1 i2 i3 i4;refine gZ 6 Z e ?_;refine gD 0 Z (λh1=>?_) (λh1=>?_)
 ·refine gU 2 Z ?_;refine gS 3 Z (λh2=>?_) (λh2=>?_)
  ·have hi:i<s.length:=by omega
   obtain⟨x,hxi⟩:∃x,s[i]? =some x:=⟨_,List.getElem?_eq_getElem hi⟩
   have hxm:=hx x (List.mem_of_getElem? hxi);have ex:(x.txs.map txW).length=x.txs.length:=List.length_map _;have hmn:min x.txs.length 100<=100:=Nat.min_le_right _ _;exact gP 9 Z (zGq (i:=i) Z Z Z Z Z Z Z (znq lnW hxi)) (gZ 2 Z ex (gV (w':=.int .i64 ((min x.txs.length 100:Nat):Int)) 0 Z (min_c _ _) (gA 0 Z (n+min x.txs.length 100) (gA 6 Z (i+1) (gAg 2 Z ((i+1,n+min x.txs.length 100)) (⟨by omega,by omega,by omega,λj z hj hz=>by rcases Nat.lt_succ_iff_lt_or_eq.1 hj with q|rfl;exact Nat.le_trans (i4 j z q hz) (Nat.le_add_right _ _);have:=Option.some.inj (hxi.symm.trans hz);subst this;exact Nat.le_add_left _ _⟩) Xd)))))
  ·exact gO 2 Z (gZ 6 Z e (gT 0 Z (ltI_iff.2 Xd) (zbq 8 Z (ywq (w':=.bool true) Qm rfl (.pur rfl) rfl ⟨true,rfl,λq=>by cases q⟩))))
 ·refine gO 9 Z (gZ 6 Z e ?_);refine gD 0 Z (λh2=>?_) (λh2=>?_)
  ·exact zbq 8 Z (ywq (w':=.bool true) Qm rfl (.pur rfl) rfl ⟨true,rfl,λq=>by cases q⟩)
  ·refine gD 2 Z (λh3=>?_) (λh3=>?_)
   ·exact zbq 5 Z (ywq (w':=.bool true) Qm rfl (.pur rfl) rfl ⟨true,rfl,λq=>by cases q⟩)
   ·refine zbq 5 Z ?_
    exact ywq (w':=.bool false) Qm rfl (.pur rfl) rfl ⟨false,rfl,λ_=>⟨by omega,λl hl=>by
     obtain⟨j,hj,hjl⟩:=List.mem_iff_getElem.1 hl;have:=i4 j l Xd (by rw[List.getElem?_eq_getElem hj,hjl]);omega⟩⟩
theorem great21_s(l:List Shd)(hl:l.length<=4611686018427387903)(hx:∀s∈l,s.length<=4611686018427387903/\∀y∈s,y.txs.length<=4611686018427387903):PE cfg G 23 [plW l] (λw=>∃b:Bool,w= .bool b/\(b=false->l.length<=10/\∀s∈l,s.length<=6/\∀y∈s,y.txs.length<=20)):=by
 have e:(l.map shdW).length=l.length:=List.length_map _;have hp:=jAq l;refine gIe 12 Z (λR k0=>?_);refine gLo (α:=Nat) 0 (λi=>i<=l.length/\i<=10/\∀(j:Nat) s,j<i->l[j]? =some s->s.length<=6/\∀y∈s,y.txs.length<=20) (λi=>[(3,.int .i64 (i:Int))]) [0,2] (λi=>l.length-i) (0) rfl (⟨Nat.zero_le _,Nat.zero_le _,λj x h=>by omega⟩) (λi hI=>?_);obtain⟨i1,i2,i4⟩:=hI;refine gZ 5 Z e ?_;refine gD 0 Z (λh1=>?_) (λh1=>?_)
 ·refine gU 2 Z ?_;refine gS 3 Z (λh2=>?_) (λh2=>?_)
  ·have hi:i<l.length:=by omega
   obtain⟨x,hxi⟩:∃x,l[i]? =some x:=⟨_,List.getElem?_eq_getElem hi⟩
   have hxm:=hx x (List.mem_of_getElem? hxi);refine gP 8 Z (zGq (i:=i) Z Z Z Z Z Z Z (znq shdW hxi)) (gE 1 Z (great20_s x hxm.1 hxm.2) ?_);rintro w hw ⟨b,rfl,hb⟩;refine gS 2 Z (λh3=>?_) (λh3=>?_)
   ·exact gO 8 Z (zbq 2 Z (ywq (w':=.bool true) Qm rfl (.pur rfl) rfl ⟨true,rfl,λq=>by cases q⟩))
   ·exact gA 5 Z (i+1) (gAg 2 Z (i+1) (⟨by omega,by omega,λj z hj hz=>by rcases Nat.lt_succ_iff_lt_or_eq.1 hj with q|rfl;exact i4 j z q hz;have:=Option.some.inj (hxi.symm.trans hz);subst this;exact hb (by first|assumption|simp_all)⟩) Xd)
  ·refine gO 2 Z (gZ 5 Z e ?_);refine gD 0 Z (λh3=>?_) (λh3=>?_)
   ·exact zbq 4 Z (ywq (w':=.bool true) Qm rfl (.pur rfl) rfl ⟨true,rfl,λq=>by cases q⟩)
   ·refine zbq 4 Z ?_
    exact ywq (w':=.bool false) Qm rfl (.pur rfl) rfl ⟨false,rfl,λ_=>⟨by omega,λs hs=>by
     obtain⟨j,hj,hjl⟩:=List.mem_iff_getElem.1 hs;exact i4 j s Xd (by rw[List.getElem?_eq_getElem hj,hjl])⟩⟩
 ·refine gO 9 Z (gZ 5 Z e ?_);refine gD 0 Z (λh2=>?_) (λh2=>?_)
  ·exact zbq 4 Z (ywq (w':=.bool true) Qm rfl (.pur rfl) rfl ⟨true,rfl,λq=>by cases q⟩)
  ·refine zbq 4 Z ?_
   exact ywq (w':=.bool false) Qm rfl (.pur rfl) rfl ⟨false,rfl,λ_=>⟨by omega,λs hs=>by
    obtain⟨j,hj,hjl⟩:=List.mem_iff_getElem.1 hs;exact i4 j s Xd (by rw[List.getElem?_eq_getElem hj,hjl])⟩⟩
theorem great24_s(h:Hb)(hl:h.subs.length<=4611686018427387903)(hx:∀s∈h.subs,s.tap.items.length<=4611686018427387903):PE cfg G 24 [hbW h] (λw=>∃b:Bool,w= .bool b/\(b=false->h.subs.length<=18/\∀s∈h.subs,s.tap.items.length<=20)):=by
 have e:(h.subs.map sbW).length=h.subs.length:=List.length_map _;have hp:=QMq h.subs;refine gIe 13 Z (λR k0=>?_);refine gLo (α:=Nat) 0 (λi=>i<=h.subs.length/\i<=20/\∀(j:Nat) s,j<i->h.subs[j]? =some s->s.tap.items.length<=20) (λi=>[(3,.int .i64 (i:Int))]) [1,2] (λi=>h.subs.length-i) (0) rfl (⟨Nat.zero_le _,Nat.zero_le _,λj x h=>by omega⟩) (λi hI=>?_);obtain⟨i1,i2,i4⟩:=hI;refine gZ 6 Z e ?_;refine gD 0 Z (λh1=>?_) (λh1=>?_)
 ·refine gU 2 Z ?_;refine gS 3 Z (λh2=>?_) (λh2=>?_)
  ·have hi:i<h.subs.length:=by omega
   obtain⟨x,hxi⟩:∃x,h.subs[i]? =some x:=⟨_,List.getElem?_eq_getElem hi⟩
   have hxm:=hx x (List.mem_of_getElem? hxi);have ex:(x.tap.items.map itmW).length=x.tap.items.length:=List.length_map _;refine gP 9 Z (zGq (i:=i) Z Z Z Z Z Z Z (znq sbW hxi)) (gZ 3 Z ex ?_);refine gS 3 Z (λh3=>?_) (λh3=>?_)
   ·exact gO 8 Z (zbq 2 Z (ywq (w':=.bool true) Qm rfl (.pur rfl) rfl ⟨true,rfl,λq=>by cases q⟩))
   ·exact gA 5 Z (i+1) (gAg 2 Z (i+1) (⟨by omega,by omega,λj z hj hz=>by rcases Nat.lt_succ_iff_lt_or_eq.1 hj with q|rfl;exact i4 j z q hz;have:=Option.some.inj (hxi.symm.trans hz);subst this;omega⟩) Xd)
  ·exact gO 2 Z (gZ 6 Z e (gT 0 Z (ltI_iff.2 Xd) (zbq 4 Z (ywq (w':=.bool true) Qm rfl (.pur rfl) rfl ⟨true,rfl,λq=>by cases q⟩))))
 ·refine gO 9 Z (gZ 6 Z e ?_);refine gD 0 Z (λh2=>?_) (λh2=>?_)
  ·exact zbq 4 Z (ywq (w':=.bool true) Qm rfl (.pur rfl) rfl ⟨true,rfl,λq=>by cases q⟩)
  ·refine zbq 4 Z ?_
   exact ywq (w':=.bool false) Qm rfl (.pur rfl) rfl ⟨false,rfl,λ_=>⟨by omega,λs hs=>by
    obtain⟨j,hj,hjl⟩:=List.mem_iff_getElem.1 hs;exact i4 j s Xd (by rw[List.getElem?_eq_getElem hj,hjl])⟩⟩
set_option maxRecDepth 100000 in
theorem great25_s(a:Au)(hf:Fit25 a):PE cfg G 7 [amW a] (λw=>∃b:Bool,w= .bool b/\(b=false->Few25 a)):=by
 have h1:=greatv_s (G:=G) a.vw 6 hf.ch.nodes hf.ch.len;have e1:(a.drawn.map txW).length=a.drawn.length:=List.length_map _;have e2:(a.back.map txW).length=a.back.length:=List.length_map _;have e3:(a.wait.map pdW).length=a.wait.length:=List.length_map _;have e4:(a.tells.map eveW).length=a.tells.length:=List.length_map _;have b1:=hf.drawl;have b2:=hf.backl;have b3:=hf.waitl;have b4:=hf.tells;by_cases hg:YAq a.vw.ch 6
 ·skip
  exact gIe 10 Z (λR k0=>gC 0 Z (zxq (w':=.bool true) (h1) (by rw[decide_eq_true (hg)])) (zbq 38 Z (ywq (w':=.bool true) Qm rfl (.pur rfl) rfl ⟨true,rfl,λq=>by cases q⟩)))
 ·skip
  refine gIe 10 Z (λR k0=>gC 0 Z (zxq (w':=.bool false) (h1) (by rw[decide_eq_false (hg)])) (zbq 3 Z ?_));skip
  refine gSo 0 Z (Zwq Z Z Z Z Z (great21_s a.pool hf.pooll (λs hs=>⟨(hf.pool s hs).1,λy hy=>((hf.pool s hs).2 y hy).len⟩)) Qa ?_);rintro w hw ⟨c1,rfl,hc1⟩;skip
  skip
  cases c1 with
  |true=>
   skip
   exact zpq 34 Z (ywq (w':=.bool true) Qm rfl (.pur rfl) rfl ⟨true,rfl,λq=>by cases q⟩)
  |false=>
   skip
   refine zpq 4 Z ?_;skip
   refine gSo 0 Z (Zwq Z Z Z Z Z (great24_s a.hub hf.subs hf.taps) Qa ?_);rintro w hw ⟨c2,rfl,hc2⟩;skip
   skip
   cases c2 with
   |true=>
    skip
    exact zpq 29 Z (ywq (w':=.bool true) Qm rfl (.pur rfl) rfl ⟨true,rfl,λq=>by cases q⟩)
   |false=>
    skip
    refine zpq 4 Z (gZ 0 Z e1 ?_);refine gD 0 Z (λh1=>?_) (λh1=>?_)
    ·exact zbq 23 Z (ywq (w':=.bool true) Qm rfl (.pur rfl) rfl ⟨true,rfl,λq=>by cases q⟩)
    ·refine gZ 4 Z e2 ?_;refine gD 0 Z (λh2=>?_) (λh2=>?_)
     ·exact zbq 17 Z (ywq (w':=.bool true) Qm rfl (.pur rfl) rfl ⟨true,rfl,λq=>by cases q⟩)
     ·refine gZ 4 Z e3 ?_;refine gD 0 Z (λh3=>?_) (λh3=>?_)
      ·exact zbq 11 Z (ywq (w':=.bool true) Qm rfl (.pur rfl) rfl ⟨true,rfl,λq=>by cases q⟩)
      ·refine gZ 4 Z e4 ?_;refine gD 0 Z (λh4=>?_) (λh4=>?_)
       ·exact zbq 5 Z (ywq (w':=.bool true) Qm rfl (.pur rfl) rfl ⟨true,rfl,λq=>by cases q⟩)
       ·exact zbq 5 Z (ywq (w':=.bool false) Qm rfl (.pur rfl) rfl ⟨false,rfl,λ_=>⟨hg,hc1 rfl,hc2 rfl,by omega,by omega,by omega,by omega⟩⟩)
theorem seqb_s(a b:List UInt8)(f g:Bool)(hb:a.length<=1000000000):PS cfg G 230 [.fz (zcq a) 1 f,.fz (zcq b) 1 g] (.bool (decide (a=b))):=by
 have ea:=zqq a;have eb:=zqq b;refine gI 9 Z (λR k0=>gZ 0 Z ea (gZ 1 Z eb ?_));refine gS 3 Z (λh1=>?_) (λh1=>?_)
 ·exact gQ 7 Z Xv
 ·refine gZ 6 Z ea ?_;refine gLo (α:=Nat) 4 (λi=>i<=a.length/\a.take i=b.take i) (λi=>[(13,.int .i64 (i:Int))]) [0,1,4,12] (λi=>a.length-i) (0) rfl (⟨Nat.zero_le _,rfl⟩) (λi hI=>?_);obtain⟨g1,g2⟩:=hI;refine gS 6 Z (λh2=>?_) (λh2=>?_)
  ·obtain⟨x,hx⟩:∃x,a[i]? =some x:=⟨_,List.getElem?_eq_getElem Xd⟩
   obtain⟨y,hy⟩:∃y,b[i]? =some y:=⟨_,List.getElem?_eq_getElem Xd⟩
   refine gP 14 Z (zGq (i:=i) Z Z Z Z Z Z Z (xCq hx)) (gP 3 Z (zGq (i:=i) Z Z Z Z Z Z Z (xCq hy)) ?_);refine gS 4 Z (λh3=>?_) (λh3=>?_)
   ·exact gO 8 Z (gQ 2 Z (by rw[decide_eq_false (Q3q hx hy λq=>h3 (by rw[q]))]))
   ·exact gA 4 Z (i+1) (gAg 2 Z (i+1) (⟨by omega,qSq g2 hx hy (UInt8.toNat_inj.1 (Int.ofNat.inj (Classical.not_not.1 h3)))⟩) Xd)
  ·exact gO 2 Z (gQ 8 Z Xy)
end
section
theorem eq_two{C:Cfg}{t e:TypeId}{i j:TyI}(ht:C.ty t=some i)(hi:i.d= .arr 2 e)(he:C.ty e=some j)(hj:j.d= .int .i64)(hs:j.size=1)(hg:j.agg=false)(a b c d:Int)(f:Nat):eqW C (f+50) t (.arr 2 1 [.int .i64 a,.int .i64 b]) (.arr 2 1 [.int .i64 c,.int .i64 d])=some (decide (a=c/\b=d)):=by
 have e0:eqW C (f+48) e (.int .i64 a) (.int .i64 c)=some (decide (a=c)):=qcq he hj;have e1:eqW C (f+47) e (.int .i64 b) (.int .i64 d)=some (decide (b=d)):=qcq he hj;have g0:∀x y:Int,zYq 50 (.arr 2 1 [.int .i64 x,.int .i64 y]) (0*1) 1 false=some (.int .i64 x):=λ_ _=>rfl
 have g1:∀x y:Int,zYq 50 (.arr 2 1 [.int .i64 x,.int .i64 y]) ((0+1)*1) 1 false=some (.int .i64 y):=λ_ _=>rfl
 rw[show f+50=(f+49)+1 from rfl];simp only[eqW,ht,hi,he];show Yeq C (f+48+1) e j 2 0 _ _=_;simp only[Yeq,hs,hg,g0,e0];by_cases q:a=c
 ·rw[decide_eq_true q];simp only[g1,e1];by_cases r:b=d
  ·rw[decide_eq_true r];simp[q,r]
  ·rw[decide_eq_false r];simp[q,r]
 ·rw[decide_eq_false q];simp[q]
attribute [local irreducible] CoW OpW FlW Step Spec
variable {G:Nat->Option W}
theorem nds_pur2(l:List Node):purL (l.map nW)=true:=zPq (λx=>by simp) l
attribute [local simp] nds_pur2
theorem nd_eq{a b:Node}:(a.leaf=b.leaf/\a.key=b.key/\a.val=b.val/\a.left=b.left/\a.right=b.right)↔a=b:=by
 constructor
 ·rintro⟨h1,h2,h3,h4,h5⟩;cases a;cases b
  simp only at h1 h2 h3 h4 h5;subst h1;subst h2;subst h3;subst h4;subst h5;rfl
 ·rintro rfl;exact⟨rfl,rfl,rfl,rfl,rfl⟩
noncomputable instance(a b:Node):Decidable (a=b):=Classical.propDecidable _
theorem tsame1_s(a b:Node)(hl:a.val.length<=1000000000):PS cfg G 229 [nW a,nW b] (.bool (decide (a=b))):=by
 by_cases h1:a.leaf=b.leaf
 ·by_cases h2:a.key=b.key
  ·by_cases h3:a.val=b.val
   ·skip
    refine gI 13 Z (λR k0=>?_);refine gV (w':=.bool true) 0 Z (by rw[h1];cases b.leaf<;>rfl) ?_;exact zbq 5 Z (xxq (w':=.bool true) rfl (yCq Z Z Z Z (y1q Z Z Z Z Z Z a.key b.key 250)) Qk (qiq 6 Z (gC 0 Z (zxq (w':=.bool true) (seqb_s a.val b.val false false hl) (by rw[decide_eq_true (h3)])) (gC 3 Z (kLq a) (gC 1 Z (kLq b) (xxq (w':=.bool (decide (a.left=b.left/\a.right=b.right))) rfl (yCq Z Z Z Z (eq_two Z Z Z Z Z Z a.left a.right b.left b.right 250)) Z (qiq 5 Z (gQ 0 Z (dec_c ⟨λq=>nd_eq.1 ⟨h1,h2,h3,q⟩,λq=>(nd_eq.2 q).2.2.2⟩)))))))))
   ·skip
    refine gI 13 Z (λR k0=>?_);refine gV (w':=.bool true) 0 Z (by rw[h1];cases b.leaf<;>rfl) ?_;exact zbq 5 Z (xxq (w':=.bool true) rfl (yCq Z Z Z Z (y1q Z Z Z Z Z Z a.key b.key 250)) Qk (qiq 6 Z (gC 0 Z (zxq (w':=.bool false) (seqb_s a.val b.val false false hl) (by rw[decide_eq_false (h3)])) (gQ 12 Z (y2q λq=>h3 (by rw[q]))))))
  ·skip
   refine gI 13 Z (λR k0=>?_);refine gV (w':=.bool true) 0 Z (by rw[h1];cases b.leaf<;>rfl) ?_;exact zbq 5 Z (xxq (w':=.bool false) rfl (yCq Z Z Z Z (y1q Z Z Z Z Z Z a.key b.key 250)) (by rw[decide_eq_false h2]) (qiq 19 Z (gQ 0 Z (y2q λq=>h2 (by rw[q])))))
 ·skip
  refine gI 13 Z (λR k0=>?_);refine gV (w':=.bool false) 0 Z (by revert h1;cases a.leaf<;>cases b.leaf<;>intro h1<;>first|rfl|exact absurd rfl h1) ?_;exact gQ 25 Z (y2q λq=>h1 (by rw[q]))
theorem seqn_s(a b:List Node)(f g:Bool)(hb:a.length<=1000000000)(hl:∀x∈a,x.val.length<=1000000000):PS cfg G 228 [.fz (a.map nW) 36 f,.fz (b.map nW) 36 g,.fn 229 [] []] (.bool (decide (a=b))):=by
 have ea:(a.map nW).length=a.length:=List.length_map _;have eb:(b.map nW).length=b.length:=List.length_map _;refine gI 9 Z (λR k0=>gZ 0 Z ea (gZ 1 Z eb ?_));refine gS 3 Z (λh1=>?_) (λh1=>?_)
 ·exact gQ 7 Z Xv
 ·refine gZ 6 Z ea ?_;refine gLo (α:=Nat) 4 (λi=>i<=a.length/\a.take i=b.take i) (λi=>[(17,.int .i64 (i:Int))]) [1,2,6,15,16] (λi=>a.length-i) (0) rfl (⟨Nat.zero_le _,rfl⟩) (λi hI=>?_);obtain⟨g1,g2⟩:=hI;refine gS 6 Z (λh2=>?_) (λh2=>?_)
  ·obtain⟨x,hx⟩:∃x,a[i]? =some x:=⟨_,List.getElem?_eq_getElem Xd⟩
   obtain⟨y,hy⟩:∃y,b[i]? =some y:=⟨_,List.getElem?_eq_getElem Xd⟩
   refine gP 7 Z (zGq (i:=i) Z Z Z Z Z Z Z (znq nW hx)) (gP 10 Z (zGq (i:=i) Z Z Z Z Z Z Z (znq nW hy)) (gC 10 Z (tsame1_s x y (hl x (List.mem_of_getElem? hx))) ?_));refine gS 3 Z (λh3=>?_) (λh3=>?_)
   ·exact gO 8 Z (gQ 2 Z (by rw[decide_eq_false (Q3q hx hy (by simpa using h3))]))
   ·exact gA 4 Z (i+1) (gAg 2 Z (i+1) (⟨by omega,qSq g2 hx hy (by simpa using h3)⟩) Xd)
  ·exact gO 2 Z (gQ 8 Z Xy)
noncomputable instance instTreeEqT(a b:Tree):Decidable (a=b):=Classical.propDecidable _
theorem tsame_s(a b:Tree)(hb:a.nodes.length<=1000000000)(hl:∀x∈a.nodes,x.val.length<=1000000000):PS cfg G 185 [tW a,tW b] (.bool (decide (a=b))):=by
 by_cases h:a.root=b.root
 ·skip
  exact gI 13 Z (λR k0=>gT 0 Z (eqI_iff.2 (h)) (gC 5 Z (seqn_s a.nodes b.nodes false false hb hl) (gQ 5 Z (dec_c ⟨λq=>by cases a;cases b;simp only at h q;rw[h,q],λq=>by rw[q]⟩))))
 ·skip
  exact gI 13 Z (λR k0=>gF 0 Z (eqI_not.2 (h)) (gQ 11 Z (y2q λq=>h (by rw[q]))))
end
section
attribute [local irreducible] CoW OpW FlW Step Spec
variable {G:Nat->Option W}
def SameK(x y:Lk):Prop:=x.hdr=y.hdr/\(x.ds=y.ds/\x.xs=y.xs)/\x.rs=y.rs
noncomputable instance(x y:Lk):Decidable (SameK x y):=Classical.propDecidable _
theorem rslink_s(x y:Lk)(h:x.ds.length<=1000000/\x.xs.length<=1000000/\x.rs.length<=1000000):PS cfg G 15 [lkG x,lkG y] (.bool (decide (SameK x y))):=by
 obtain⟨h1,h2,h3⟩:=h;refine gI 13 Z (λR k0=>?_);refine gDe 0 Z (yCq Z Z Z Z (eq_hd _ _)) yAq (λh1=>?_) (λh1=>?_)
 ·refine gC 5 Z (rsbody_s x.ds x.xs y.ds y.xs false false false false Xd Xd) ?_;refine gB 0 Z (λh2=>?_) (λh2=>?_)
  ·exact gC 6 Z (rseqr_s x.rs y.rs false false Xd) (gQ 5 Z (dec_c ⟨λq=>⟨by assumption,by assumption,q⟩,λq=>q.2.2⟩))
  ·exact gQ 12 Z (y2q λq=>absurd q.2.1 Xw)
 ·exact gQ 18 Z (y2q λq=>absurd q.1 Xw)
theorem lk_same{x y:Lk}:SameK x y/\x.root=y.root↔x=y:=by
 constructor
 ·rintro⟨⟨h1,⟨h2,h3⟩,h4⟩,h5⟩;cases x;cases y
  simp only at h1 h2 h3 h4 h5;subst h1;subst h2;subst h3;subst h4;subst h5;rfl
 ·rintro rfl;exact⟨⟨rfl,⟨rfl,rfl⟩,rfl⟩,rfl⟩
noncomputable instance(a b:Ch):Decidable (a=b):=Classical.propDecidable _
end
section
attribute [local irreducible] CoW OpW FlW Step Spec
attribute [local simp] QRq
variable {G:Nat->Option W}
theorem lk_eq{a b:Lk}:(a.hdr=b.hdr/\a.root=b.root/\a.ds=b.ds/\a.xs=b.xs/\a.rs=b.rs)↔a=b:=by
 constructor
 ·rintro⟨h1,h2,h3,h4,h5⟩;exact lk_same.1 ⟨⟨h1,⟨h3,h4⟩,h5⟩,h2⟩
 ·rintro rfl;exact⟨rfl,rfl,rfl,rfl,rfl⟩
noncomputable instance(a b:Lk):Decidable (a=b):=Classical.propDecidable _
theorem csame1_s(a b:Lk)(hl:a.ds.length<=1000000/\a.xs.length<=1000000/\a.rs.length<=1000000):PS cfg G 187 [lkG a,lkG b] (.bool (decide (a=b))):=by
 by_cases h1:a.hdr=b.hdr
 ·by_cases h2:a.root=b.root
  ·by_cases h3:a.ds=b.ds
   ·by_cases h4:a.xs=b.xs
    ·skip
     exact gI 13 Z (λR k0=>jyq (w':=.bool true) rfl (yCq Z Z Z Z (eq_hd a.hdr b.hdr)) Ql (zpq 5 Z (gT 0 Z (eqI_iff.2 (h2)) (gC 8 Z (zxq (w':=.bool true) (seqd_s a.ds b.ds false false Xd) (by rw[decide_eq_true (h3)])) (gC 8 Z (zxq (w':=.bool true) (seqx_s a.xs b.xs false false Xd) (by rw[decide_eq_true (h4)])) (gC 6 Z (seqr_s a.rs b.rs false false Xd) (gQ 5 Z (dec_c ⟨λq=>lk_eq.1 ⟨h1,h2,h3,h4,q⟩,λq=>(lk_eq.2 q).2.2.2.2⟩))))))))
    ·skip
     exact gI 13 Z (λR k0=>jyq (w':=.bool true) rfl (yCq Z Z Z Z (eq_hd a.hdr b.hdr)) Ql (zpq 5 Z (gT 0 Z (eqI_iff.2 (h2)) (gC 8 Z (zxq (w':=.bool true) (seqd_s a.ds b.ds false false Xd) (by rw[decide_eq_true (h3)])) (gC 8 Z (zxq (w':=.bool false) (seqx_s a.xs b.xs false false Xd) (by rw[decide_eq_false (h4)])) (gQ 12 Z (y2q λq=>h4 (by rw[q]))))))))
   ·skip
    exact gI 13 Z (λR k0=>jyq (w':=.bool true) rfl (yCq Z Z Z Z (eq_hd a.hdr b.hdr)) Ql (zpq 5 Z (gT 0 Z (eqI_iff.2 (h2)) (gC 8 Z (zxq (w':=.bool false) (seqd_s a.ds b.ds false false Xd) (by rw[decide_eq_false (h3)])) (gQ 21 Z (y2q λq=>h3 (by rw[q])))))))
  ·skip
   exact gI 13 Z (λR k0=>jyq (w':=.bool true) rfl (yCq Z Z Z Z (eq_hd a.hdr b.hdr)) Ql (zpq 5 Z (gF 0 Z (eqI_not.2 (h2)) (gQ 30 Z (y2q λq=>h2 (by rw[q]))))))
 ·skip
  exact gI 13 Z (λR k0=>jyq (w':=.bool false) rfl (yCq Z Z Z Z (eq_hd a.hdr b.hdr)) (by rw[decide_eq_false h1]) (zpq 36 Z (gQ 0 Z (y2q λq=>h1 (by rw[q])))))
theorem seql_s(a b:List Lk)(f g:Bool)(hb:a.length<=1000000000)(hl:∀x∈a,x.ds.length<=1000000/\x.xs.length<=1000000/\x.rs.length<=1000000):PS cfg G 186 [.fz (a.map lkG) 102 f,.fz (b.map lkG) 102 g,.fn 187 [] []] (.bool (decide (a=b))):=by
 have ea:(a.map lkG).length=a.length:=List.length_map _;have eb:(b.map lkG).length=b.length:=List.length_map _;refine gI 9 Z (λR k0=>gZ 0 Z ea (gZ 1 Z eb ?_));refine gS 3 Z (λh1=>?_) (λh1=>?_)
 ·exact gQ 7 Z Xv
 ·refine gZ 6 Z ea ?_;refine gLo (α:=Nat) 4 (λi=>i<=a.length/\a.take i=b.take i) (λi=>[(17,.int .i64 (i:Int))]) [1,2,6,15,16] (λi=>a.length-i) (0) rfl (⟨Nat.zero_le _,rfl⟩) (λi hI=>?_);obtain⟨g1,g2⟩:=hI;refine gS 6 Z (λh2=>?_) (λh2=>?_)
  ·obtain⟨x,hx⟩:∃x,a[i]? =some x:=⟨_,List.getElem?_eq_getElem Xd⟩
   obtain⟨y,hy⟩:∃y,b[i]? =some y:=⟨_,List.getElem?_eq_getElem Xd⟩
   refine gP 7 Z (zGq (i:=i) Z Z Z Z Z Z Z (znq lkG hx)) (gP 10 Z (zGq (i:=i) Z Z Z Z Z Z Z (znq lkG hy)) (gC 10 Z (csame1_s x y (hl x (List.mem_of_getElem? hx))) ?_));refine gS 3 Z (λh3=>?_) (λh3=>?_)
   ·exact gO 8 Z (gQ 2 Z (by rw[decide_eq_false (Q3q hx hy (by simpa using h3))]))
   ·exact gA 4 Z (i+1) (gAg 2 Z (i+1) (⟨by omega,qSq g2 hx hy (by simpa using h3)⟩) Xd)
  ·exact gO 2 Z (gQ 8 Z Xy)
theorem csame_s(a b:Ch)(ha:SmallC a)(hv:∀x∈a.tree.nodes,x.val.length<=1000000000):PS cfg G 118 [chG a,chG b] (.bool (decide (a=b))):=by
 have h1:=ha.nodes;have h2:=ha.len;by_cases h:a.tree=b.tree
 ·skip
  exact gI 13 Z (λR k0=>gC 0 Z (zxq (w':=.bool true) (tsame_s a.tree b.tree Xd hv) (by rw[decide_eq_true (h)])) (gC 5 Z (seql_s a.links b.links false false Xd ha.link) (gQ 5 Z (dec_c ⟨λq=>by cases a;cases b;simp only at h q;rw[h,q],λq=>by rw[q]⟩))))
 ·skip
  exact gI 13 Z (λR k0=>gC 0 Z (zxq (w':=.bool false) (tsame_s a.tree b.tree Xd hv) (by rw[decide_eq_false (h)])) (gQ 11 Z (y2q λq=>h (by rw[q]))))
noncomputable instance:DecidableEq Vw:=λa b=>Classical.propDecidable _
theorem vw_eq{a1 b1:Int}{a2 b2:Bool}{a3 b3:Int}{a4 b4:Ch}(h1:a1=b1)(h2:a2=b2)(h3:a3=b3):((⟨a1,a2,a3,a4⟩:Vw)=⟨b1,b2,b3,b4⟩)↔a4=b4:=⟨λq=>by injection q,λq=>by rw[h1,h2,h3,q]⟩
theorem vsame_s(a b:Vw)(ha:SmallC a.ch)(hv:∀x∈a.ch.tree.nodes,x.val.length<=1000000000):PS cfg glK 52 [vwG a,vwG b] (.bool (decide (a=b))):=by
 have hs:=csame_s (G:=glK) a.ch b.ch ha hv;obtain⟨a1,a2,a3,a4⟩:=a;obtain⟨b1,b2,b3,b4⟩:=b;refine gI 13 Z (λR k0=>?_);refine gD 0 Z (λh1=>?_) (λh1=>?_)
 ·refine gD 5 Z (λh2=>?_) (λh2=>?_)
  ·refine gD 6 Z (λh3=>?_) (λh3=>?_)
   ·refine gC 6 Z (hs) ?_;first|exact gQ 5 Z (congrArg W.bool (decide_eq_decide.2 (vw_eq h1 h2 h3).symm))|exact gQ 5 Z (y2q λq=>h3 (congrArg Vw.final q))|exact gQ 5 Z (y2q λq=>h2 (congrArg Vw.down q))|exact gQ 5 Z (y2q λq=>h1 (congrArg Vw.number q))
   ·first|exact gQ 12 Z (congrArg W.bool (decide_eq_decide.2 (vw_eq h1 h2 h3).symm))|exact gQ 12 Z (y2q λq=>h3 (congrArg Vw.final q))|exact gQ 12 Z (y2q λq=>h2 (congrArg Vw.down q))|exact gQ 12 Z (y2q λq=>h1 (congrArg Vw.number q))
  ·first|exact gQ 19 Z (congrArg W.bool (decide_eq_decide.2 (vw_eq h1 h2 h3).symm))|exact gQ 19 Z (y2q λq=>h3 (congrArg Vw.final q))|exact gQ 19 Z (y2q λq=>h2 (congrArg Vw.down q))|exact gQ 19 Z (y2q λq=>h1 (congrArg Vw.number q))
 ·first|exact gQ 25 Z (congrArg W.bool (decide_eq_decide.2 (vw_eq h1 h2 h3).symm))|exact gQ 25 Z (y2q λq=>h3 (congrArg Vw.final q))|exact gQ 25 Z (y2q λq=>h2 (congrArg Vw.down q))|exact gQ 25 Z (y2q λq=>h1 (congrArg Vw.number q))
end
section
attribute [local irreducible] CoW OpW FlW Step Spec
noncomputable instance(x y:Eve):Decidable (x=y):=Classical.propDecidable _
noncomputable instance(x y:Ru):Decidable (x=y):=Classical.propDecidable _
theorem eq_ev(x y:Eve):eqW cfg 300 59 (eveW x) (eveW y)=some (decide (x=y)):=by
 rw[uuq (p:=x=y) (b:=decide (x.number=y.number)&&(decide (x.roll=y.roll)&&((decide (x.hdr.height=y.hdr.height)&&(decide (x.hdr.parent=y.hdr.parent)&&(decide (x.hdr.state=y.hdr.state)&&(decide (x.hdr.rows=y.hdr.rows)&&(decide (x.hdr.many=y.hdr.many)&&true)))))&&true))) (by
  obtain⟨b,c,d,e,f,g,h⟩:=x;obtain⟨b',c',d',e',f',g',h'⟩:=y;simp only[Eve.mk.injEq,Hdr.mk.injEq,Bool.and_eq_true,decide_eq_true_eq,and_true])]
 exact qrq Z Z Z Z (zuq Z Z Z (qcq Z Z) (zuq Z Z Z (eq_bool Z Z) (zuq Z Z Z (qrq Z Z Z Z (zuq Z Z Z (qcq Z Z) (zuq Z Z Z (y1q Z Z Z Z Z Z _ _ _) (zuq Z Z Z (y1q Z Z Z Z Z Z _ _ _) (zuq Z Z Z (y1q Z Z Z Z Z Z _ _ _) (zuq Z Z Z (qcq Z Z) q1q)))))) q1q)))
theorem eq_ru(x y:Ru):eqW cfg 300 25 (ruG x) (ruG y)=some (decide (x=y)):=by
 rw[uuq (p:=x=y) (b:=decide (x.shards=y.shards)&&(decide (x.cap=y.cap)&&(decide (x.block=y.block)&&(decide (x.window=y.window)&&(decide (x.tap=y.tap)&&(decide (x.subs=y.subs)&&(decide (x.box=y.box)&&true))))))) (by
  obtain⟨b,c,d,e,f,g,h⟩:=x;obtain⟨b',c',d',e',f',g',h'⟩:=y;simp only[Ru.mk.injEq,Bool.and_eq_true,decide_eq_true_eq,and_true])]
 exact qrq Z Z Z Z (zuq Z Z Z (qcq Z Z) (zuq Z Z Z (qcq Z Z) (zuq Z Z Z (qcq Z Z) (zuq Z Z Z (qcq Z Z) (zuq Z Z Z (qcq Z Z) (zuq Z Z Z (qcq Z Z) (zuq Z Z Z (y1q Z Z Z Z Z Z _ _ _) q1q)))))))
section
variable {G:Nat->Option W}
theorem eqev_s(l:List Eve)(hl:l.length<=1000000000):PS cfg G 51 [.fz (l.map eveW) 100 false,.fz (l.map eveW) 100 false] (.bool true):=by
 have e:(l.map eveW).length=l.length:=List.length_map _;have ep:purL (l.map eveW)=true:=zPq k1q l;refine gI 9 Z (λR k0=>gZ 0 Z e (gZ 1 Z e (gF 0 Z (congrArg not (eqI_iff.2 (rfl))) (gZ 9 Z e ?_))));refine gLo (α:=Nat) 4 (λi=>i<=l.length) (λi=>[(13,.int .i64 (i:Int))]) [0,1,4,12] (λi=>l.length-i) (0) rfl (Nat.zero_le _) (λi hI=>?_);refine gS 6 Z (λh1=>?_) (λh1=>?_)
 ·have hi:i<l.length:=by omega
  obtain⟨x,hx⟩:∃x,l[i]? =some x:=⟨_,List.getElem?_eq_getElem hi⟩
  exact gP 14 Z (zGq (i:=i) Z Z Z Z Z Z Z (znq eveW hx)) (gP 3 Z (zGq (i:=i) Z Z Z Z Z Z Z (znq eveW hx)) (zbq 1 Z (xxq (w':=.bool false) rfl (jcq Z Z Z Z (eq_ev x x)) (by rw[decide_eq_true rfl];rfl) (qiq 7 Z (gA 0 Z (i+1) (gAg 2 Z (i+1) (hi) Xd))))))
 ·exact gO 2 Z (gQa 8 Z)
end
set_option maxRecDepth 100000 in
theorem autsame_s(a:Au)(sm:SmAu a)(hs:SmallC a.vw.ch)(hv:∀x∈a.vw.ch.tree.nodes,x.val.length<=1000000000):PS cfg glT 14 [amW a,amW a] (.bool true):=by
 have h1:=ps_gl x7q (vsame_s a.vw a.vw hs hv);exact gI 13 Z (λR k0=>gC 0 Z (zxq (w':=.bool true) (seqx_s a.drawn a.drawn false false sm.drawn) Yt) (gC 5 Z (zxq (w':=.bool true) (seqx_s a.back a.back false false sm.back) Yt) (gC 6 Z (zxq (w':=.bool true) (seqd_s a.wait a.wait false false sm.wait) Yt) (gC 6 Z (eqev_s a.tells sm.tells) (zbq 12 Z (jyq (w':=.bool true) rfl (yCq Z Z Z Z (eq_ru a.ru a.ru)) (by rw[decide_eq_true rfl]) (zpq 6 Z (gT 0 Z (eqI_iff.2 (rfl)) (gC 6 Z (zxq (w':=.bool true) (h1) Yt) (gC 6 Z (plsame_s a.pool (by have:=sm.pool;omega) sm.shards) (gC 6 Z (hbsame_s a.hub sm.subs sm.taps) (gQa 5 Z))))))))))))
end
noncomputable def oW(b e:Nat):Option (List W) ->W
 |none=>.nils
 |some l=>.sl b 0 0 l.length e none
noncomputable def oH(b:Nat)(ty:TypeId)(e:Nat):Option (List W) ->HpW
 |none=>[]
 |some l=>[(b,ty,.arr (l.length*e) e l)]
noncomputable def oA(o:Option (List W)):List W->Option (List W)
 |[]=>o
 |x::r=>some (o.getD []++x::r)
theorem qCq(o:Option (List W))(l:List W):(oA o l).getD []=o.getD []++l:=by
 cases l with
 |nil=>rw[List.append_nil];rfl
 |cons x r=>rfl
theorem qRq(τ:Nat->Nat)(b e:Nat)(o:Option (List W)):renW τ (oW b e o)=oW (τ b) e o:=by cases o<;>rfl
theorem qWq{n b e:Nat}{o:Option (List W)}(h:b<n):refB n (oW b e o)=true:=by
 cases o with
 |none=>rfl
 |some l=>simp[oW,refB,h]
theorem jRq(τ:Nat->Nat)(b:Nat)(ty:TypeId)(e:Nat){o:Option (List W)}(h:purL (o.getD [])=true):renH τ (oH b ty e o)=oH (τ b) ty e o:=by
 cases o with
 |none=>rfl
 |some l=>
  have h2:purW (.arr (l.length*e) e l)=true:=h;simp only[oH,renH,zoq h2]
theorem yrq{b e:Nat}{ty:TypeId}{o:Option (List W)}:∀p∈oH b ty e o,p.1=b:=λp hp=>by
 cases o with
 |none=>cases hp
 |some l=>simp only[oH,List.mem_cons,List.not_mem_nil,or_false] at hp;rw[hp]
noncomputable def oIn(hp:HpW)(b:Nat)(ty:TypeId)(e:Nat)(o:Option (List W)):Prop:=∀l,o=some l->hget hp b=some (ty,.arr (l.length*e) e l)
theorem ZUq{P:HpW}{b e:Nat}{ty:TypeId}{o:Option (List W)}(h:∀p∈P,p.1≠b):oIn (P++oH b ty e o) b ty e o:=λl hl=>by
 subst hl;exact Ziq h
theorem y0q{P Q:HpW}{b e:Nat}{ty:TypeId}{o:Option (List W)}(h:oIn P b ty e o):oIn (P++Q) b ty e o:=λl hl=>xVq (h l hl)
theorem view_o{hp:HpW}{b e:Nat}{ty:TypeId}{o:Option (List W)}(he:0<e)(hl:purL (o.getD [])=true)(h:oIn hp b ty e o):View (blkA hp) (oW b e o) (.fz (o.getD []) e false):=by
 cases o with
 |none=>exact .nilfz
 |some l=>exact .sl (c:=.arr (l.length*e) e l) (by unfold blkA;rw[h l rfl]) hl (zJq he Z Z) Xi
theorem QGq{τ:Nat->Nat}{n:Nat}{hp:HpW}{b e:Nat}{ty:TypeId}{o:Option (List W)}(hb:b<n)(hl:purL (o.getD [])=true)(h:oIn hp (τ b) ty e o):QHq τ n hp (oH b ty e o):=by
 cases o with
 |none=>trivial
 |some l=>
  have h2:purW (.arr (l.length*e) e l)=true:=hl;exact⟨⟨hb,by rw[zoq h2];exact h l rfl,zfq h2⟩,trivial⟩
theorem x4q{hp:HpW}{b e n:Nat}{ty:TypeId}{o:Option (List W)}(hb:b<n)(hl:purL (o.getD [])=true)(h:oIn hp b ty e o):subH hp n (oH b ty e o):=by
 cases o with
 |none=>trivial
 |some l=>
  have h2:purW (.arr (l.length*e) e l)=true:=hl;exact⟨⟨hb,h l rfl,zfq h2⟩,trivial⟩
theorem vxq{P:HpW}{b e:Nat}{ty:TypeId}{o:Option (List W)}(hh:∀p∈P,p.1≠b)(nd:(P.map (·.1)).Nodup):((P++oH b ty e o).map (·.1)).Nodup:=by
 cases o with
 |none=>rw[show oH b ty e none=[] from rfl,List.append_nil];exact nd
 |some l=>
  rw[show oH b ty e (some l)=[(b,ty,.arr (l.length*e) e l)] from rfl,List.map_append,List.nodup_append];refine⟨nd,by simp,λa ha c hc q=>?_⟩;obtain⟨p,h1,h2⟩:=List.mem_map.1 ha;have:=hh p h1;simp only[List.map_cons,List.map_nil,List.mem_cons,List.not_mem_nil,or_false] at hc;omega
noncomputable def hdO(b:Nat)(hp:HpW):Option (List W) ->HpW
 |none=>hp
 |some _=>hdel hp b
noncomputable def evO(b:Nat):Option (List W) ->EvW
 |none=>.gen
 |some _=>.updO b
section
variable {C:Cfg} {nw:Nat} {ts tx ty:TypeId} {j k:TyI} {x:W} {news:List W} {o:Option (List W)} {b:Nat} {hp:HpW}
theorem app_o{e:Nat}(he:e=k.size)(hj:C.ty ts=some j)(hd:j.d= .slice ty)(hk:C.ty ty=some k)(hz:Nat.beq k.size 0=false)(hs:srcW C hp tx k.size x=some news)(hn:news≠[])(h1:((o.getD []).length+news.length)*k.bytes<=140737488355328)(h2:(o.getD []).length+news.length<=70368744177664)(hg:oIn hp b ty e o):
  appW C hp nw ts tx (oW b e o) x=some (.sl nw 0 0 (o.getD []++news).length e none,(nw,ty,.arr ((o.getD []++news).length*e) e (o.getD []++news))::hdO b hp o,nw+1,evO b o):=by
 subst he
 have hk0:0<k.size:=by
  rcases Nat.eq_zero_or_pos k.size with h0|h0
  ·rw[h0] at hz;cases hz
  ·exact h0
 have hnl:0<news.length:=by cases news with
  |nil=>exact absurd rfl hn
  |cons _ _=>simp
 cases o with
 |none=>
  simp only[Option.getD_none,List.length_nil,Nat.zero_add] at h1 h2;rw[show oW b k.size none= .nils from rfl,uyq hj hd hk hz hs hn h1 h2];rfl
 |some l=>
  simp only[Option.getD_some] at h1 h2
  rw[show oW b k.size (some l)= .sl b 0 0 l.length k.size none from rfl,qEq hj hd hk hz hs hn h1 h2 (hg l rfl) (by
   show l.length*k.size<0+(l.length+news.length)*k.size;rw[Nat.zero_add];exact Nat.mul_lt_mul_of_pos_right Xd hk0) (by rw[Nat.beq_refl]) (zJq hk0 Z Z)]
  rw[Option.getD_some,List.length_append];rfl
theorem app_o0{e:Nat}(he:e=k.size)(hj:C.ty ts=some j)(hd:j.d= .slice ty)(hk:C.ty ty=some k)(hz:Nat.beq k.size 0=false)(hs:srcW C hp tx k.size x=some []):appW C hp nw ts tx (oW b e o) x=some (oW b e o,hp,nw,.gen):=by
 subst he;cases o with
 |none=>exact app_nil0 hj hd hk hz hs
 |some l=>exact jdq hj hd hk hz hs
end
theorem hget_hdO{hp:HpW}{b i:Nat}{o:Option (List W)}{y:TypeId×W}(hi:i≠b)(h:hget hp i=some y):hget (hdO b hp o) i=some y:=by
 cases o with
 |none=>exact h
 |some l=>
  show hget (hdel hp b) i=some y;induction hp with
  |nil=>simp[hget] at h
  |cons p q ih=>
   obtain⟨c,z⟩:=p;rw[zgq] at h;show hget (match Nat.beq c b with|true=>q|false=>(c,z)::hdel q b) i=_;cases e:Nat.beq c b with
   |true=>
    have:=Nat.eq_of_beq_eq_true e;subst this;rw[if_neg (λh=>hi h.symm)] at h;exact h
   |false=>
    simp only;rw[zgq];split at h
    ·rename_i q;rw[if_pos q];exact h
    ·rename_i q;rw[if_neg q];exact ih h
section
variable {fr:FrW} {hp:HpW}
theorem YOq{τ:Nat->Nat}{n:Nat}(hτ:∀i,i<n->τ i=i):∀{q:HpW},subH hp n q->QHq τ (n+1) hp q
 |[],_=>trivial
 |(b,x)::q,h=>⟨⟨Nat.lt_succ_of_lt h.1.1,by rw[hτ b h.1.1,xmq hτ h.1.2.2];exact h.1.2.1,kcq (Nat.le_succ _) h.1.2.2⟩,YOq hτ h.2⟩
end
structure AppQ(hp:HpW)(nw b:Nat)(ty:TypeId)(e:Nat)(u:Option (List W))(news:List W)(c:Nat)(hp':HpW)(nw':Nat):Prop where
 is:oIn hp' c ty e (oA u news)
 lt:c<nw'
 up:nw<=nw'
 old:∀i y,i≠b->i<nw->hget hp i=some y->hget hp' i=some y
 num:(news=[]/\c=b)\/(news≠[]/\c=nw)
theorem step_upd{C:Cfg}{G:Nat->Option W}{o:Oper}{fr:FrW}{hp:HpW}{nw:Nat}{R:Res}{post:W->HpW->Nat->Res->Option EvW->Prop}(b:Nat)(h:Step C G o fr hp nw R λw hp' nw' R' ev=>ev=some .gen/\post w hp' nw' R' (some (.updO b))):Step C G o fr hp nw R post:=λΓ X frv hnw s hf=>by
 obtain⟨n,w,hp',R',ev,v,h',Γ',X',⟨rfl,h1⟩,h2,⟨h3,h3'⟩,h4⟩:=h Γ X frv hnw s hf;exact⟨n,w,hp',R',some (.updO b),v,h',Γ',X',h1,h2,⟨h3,λH1 e1 e2=>.inl (h3' H1 e1 e2)⟩,h4⟩
theorem qVq{C:Cfg}{G:Nat->Option W}{fr:FrW}{hp:HpW}{nw:Nat}{R:Res}{o:Oper}{ts tx ty:TypeId}{j k:TyI}{x y:Operand}{v:W}{u:Option (List W)}{news:List W}{b e:Nat}{post:W->HpW->Nat->Res->Option EvW->Prop}(ho:o.op= .call ⟨.builtin .append, #[x,y], #[ts,tx]⟩)(hx:evW C G fr x=some (oW b e u))(hy:evW C G fr y=some v)
  (he:e=k.size) (hj:C.ty ts=some j) (hd:j.d= .slice ty) (hk:C.ty ty=some k) (hz:Nat.beq k.size 0=false) (hs:srcW C hp tx k.size v=some news) (h1:((u.getD []).length+news.length)*k.bytes<=140737488355328) (h2:(u.getD []).length+news.length<=70368744177664) (hg:oIn hp b ty e u) (hb:b<nw)
  (h:∀c hp' nw',AppQ hp nw b ty e u news c hp' nw'->post (oW c e (oA u news)) hp' nw' R (some (.updO b))):Step C G o fr hp nw R post:=by
 cases news with
 |nil=>
  have ha:opHW C G fr hp nw o.op=some (oW b e u,hp,nw,.gen):=by rw[ho];exact ySq hx hy (app_o0 he hj hd hk hz hs)
  exact step_upd b (xMq ha ⟨rfl,h b hp nw ⟨hg,hb,Nat.le_refl _,λ_ _ _ _ h=>h,.inl ⟨rfl,rfl⟩⟩⟩)
 |cons z zs=>
  have ha:opHW C G fr hp nw o.op=some (.sl nw 0 0 (u.getD []++z::zs).length e none,(nw,ty,.arr ((u.getD []++z::zs).length*e) e (u.getD []++z::zs))::hdO b hp u,nw+1,evO b u):=by
   rw[ho];exact ySq hx hy (app_o he hj hd hk hz hs Xl h1 h2 hg)
  have q:AppQ hp nw b ty e u (z::zs) nw ((nw,ty,.arr ((u.getD []++z::zs).length*e) e (u.getD []++z::zs))::hdO b hp u) (nw+1):=⟨λl hl=>by cases hl;rw[zgq,if_pos rfl],Nat.lt_succ_self _,Nat.le_succ _,λi y hi hn hy=>by rw[zgq,if_neg Xd];exact hget_hdO hi hy,.inr ⟨by simp,rfl⟩⟩;cases u with
  |none=>exact step_upd b (xMq ha ⟨rfl,h _ _ _ q⟩)
  |some l=>exact xMq ha (h _ _ _ q)
theorem Zuq{hp:HpW}{n k:Nat}{y:TypeId×W}:∀{q:HpW},subH hp n q->(∀p∈q,p.1≠k) ->subH ((k,y)::hp) n q
 |[],_,_=>trivial
 |(b,x)::q,h,hk=>⟨⟨h.1.1,by rw[zgq,if_neg (λe=>hk (b,x) (List.mem_cons_self ..) e.symm)];exact h.1.2.1,h.1.2.2⟩,Zuq h.2 λp hp=>hk p (List.mem_cons_of_mem _ hp)⟩
structure OkP(P:HpW)(m:Nat):Prop where
 sub:subH P m P
 ne:∀p∈P,p.1≠0
 nd:(P.map (·.1)).Nodup
theorem OkP.cons{P:HpW}{m:Nat}(h:OkP P m)(y:TypeId×W):subH ((0,y)::P) m P:=Zuq h.sub h.ne
theorem OkP.nd0{P:HpW}{m:Nat}(h:OkP P m)(y:TypeId×W):(((0,y)::P).map (·.1)).Nodup:=by
 rw[List.map_cons,List.nodup_cons];refine⟨λhm=>?_,h.nd⟩;obtain⟨p,hp,e⟩:=List.mem_map.1 hm;exact h.ne p hp e
theorem uHq{C:Cfg}{G:Nat->Option W}{o:Oper}{fr:FrW}{hp:HpW}{nw:Nat}{R:Res}{post:W->HpW->Nat->Res->Option EvW->Prop}(h:Step C G o fr hp nw R λw hp' nw' R' ev=>∃hp2:HpW,(∀k y,hget hp2 k=some y->hget hp' k=some y)/\(hp2.map (·.1)).Nodup/\post w hp2 nw' R' ev):Step C G o fr hp nw R post:=λΓ X frv hnw s hf=>by
 obtain⟨n,w,hp',R',ev,v,h',Γ',X',⟨hp2,hold,nd,h1⟩,h2,h3,h4,h5,h6,h7,h8⟩:=h Γ X frv hnw s hf;exact⟨n,w,hp2,R',ev,v,h',Γ',X',h1,h2,h3,h4,h5,⟨h6.wf,λk ty w h=>h6.own k ty w (hold _ _ h),λk k' y z hy hz e=>h6.inj k k' _ _ (hold _ _ hy) (hold _ _ hz) e,nd,h6.dX,h6.xlt,h6.dlt,h6.res,h6.gl⟩,h7.trans ⟨λ_ _=>rfl,λh=>h,Nat.le_refl _,λ_ _ _ _=>rfl,λ_ h=>h,λ_ h=>.inl h,λk y _ h=>⟨y,hold _ _ h⟩,λk y hk h=>.inr ⟨k,y,hk,hold _ _ h,rfl⟩,λ_ h=>.inl h,λ_ h _ _=>h⟩,h8⟩
theorem hget_turn{A:HpW}{b e:Nat}{ty:TypeId}{o:Option (List W)}(h:∀p∈A,p.1≠b):∀k y,hget (A++oH b ty e o) k=some y->hget (oH b ty e o++A) k=some y:=λk y hy=>by
 cases o with
 |none=>rwa[show oH b ty e none=[] from rfl,List.append_nil] at hy
 |some l=>
  rw[jCq] at hy;show hget ((b,_)::A) k=some y;rw[zgq];by_cases q:b=k
  ·subst q;rw[yOq h] at hy;have hy:hget [(b,(ty,W.arr (l.length*e) e l))] b=some y:=hy;rw[zgq,if_pos rfl] at hy;rw[if_pos rfl];exact hy
  ·rw[if_neg q];cases e1:hget A k with
   |some z=>rw[e1] at hy;exact hy
   |none=>
    rw[e1] at hy;have hy:hget [(b,(ty,W.arr (l.length*e) e l))] k=some y:=hy;rw[zgq,if_neg q] at hy;simp[hget] at hy
theorem ukq{A:HpW}{b:Nat}{l:List Nat}(h:A.map (·.1)=l)(hb:b∉l):∀p∈A,p.1≠b:=λp hp e=>hb (h▸List.mem_map.2 ⟨p,hp,e⟩)
theorem zXq{hp:HpW}{b:Nat}{x y:TypeId×W}(h:hget hp b=some x):hget (hset hp b y) b=some y:=by rw[jXq h,if_pos rfl]
section
variable {hp Q:HpW} {b k e e':Nat} {ty ty':TypeId} {o o':Option (List W)} {y:TypeId×W}
theorem zrq(hk:k≠b)(h:oIn hp b ty e o):oIn ((k,y)::hp) b ty e o:=λl hl=>by rw[zgq,if_neg hk];exact h l hl
theorem ysq:oIn (oH b ty e o++Q) b ty e o:=λl hl=>by
 subst hl;show hget ((b,_)::Q) b=_;rw[zgq,if_pos rfl]
theorem quq:oIn (oH b ty e o) b ty e o:=λl hl=>by
 subst hl;show hget ((b,_)::[]) b=_;rw[zgq,if_pos rfl]
theorem z8q(hk:k≠b)(h:oIn Q b ty e o):oIn (oH k ty' e' o'++Q) b ty e o:=by
 cases o' with
 |none=>exact h
 |some l=>exact zrq hk h
theorem qxq{nw c nw' d e2:Nat}{ty2:TypeId}{u:Option (List W)}{news:List W}{hp':HpW}(q:AppQ hp nw d ty2 e2 u news c hp' nw')(hd:b≠d)(hb:b<nw)(h:oIn hp b ty e o):oIn hp' b ty e o:=λl hl=>q.old b _ hd hb (h l hl)
theorem yvq{d:Nat}{z x:TypeId×W}(hd:d≠b)(hz:hget hp d=some x)(h:oIn hp b ty e o):oIn (hset hp d z) b ty e o:=λl hl=>by
 rw[jXq hz,if_neg hd];exact h l hl
theorem Z0q{ext:List Nat}{nw:Nat}{B:HpW}:∀{A:HpW},hdAll ext nw hp A->hdAll ext nw hp B->hdAll ext nw hp (A++B)
 |[],_,h=>h
 |(_,_,_)::_,h,h2=>⟨h.1,Z0q h.2 h2⟩
theorem hd_o{ext:List Nat}{nw i:Nat}(hi:ext[i]? =some b)(hl:purL (o.getD [])=true)(h:oIn hp b ty e o):hdAll ext nw hp (oH i ty e o):=by
 cases o with
 |none=>trivial
 |some l=>
  have h2:purW (.arr (l.length*e) e l)=true:=hl;exact⟨⟨(List.getElem?_eq_some_iff.1 hi).1,zfq h2,b,hi,by rw[zoq h2];exact h l rfl⟩,trivial⟩
end
section
attribute [local irreducible] CoW OpW FlW Step Spec
variable {G:Nat->Option W}
theorem clxo_s(l:List Tx)(f:Bool)(hl:l.length<=1000000000):qbq cfg G 86 0 [.fz (l.map txW) 99 f] [] λw hp nw=>(∃o:Option (List W),o.getD []=l.map txW/\w=oW 0 99 o/\hp=oH 0 72 99 o)/\nw=1:=by
 intro R;have e:(l.map txW).length=l.length:=List.length_map _;have hp:∀l:List Tx,purL (l.map txW)=true:=zPq Qyq
 refine gIs 9 Z (λk0=>?_);first|refine yVq Z Z ?_|refine z5q rfl (qUq Z Z Z Z Z (λbn hn=>?_))
 refine zpq 2 Z ?_;refine gS 0 Z (λh1=>?_) (λh1=>?_)
 ·cases bn with
  |false=>cases h1
  |true=>
   obtain rfl:l=[]:=List.map_eq_nil_iff.1 (hn rfl);exact zLq 7 Z (fin Qm (ent_up (fr2:=[(2,.nils)]) ⟨rfl,trivial⟩) rfl ⟨rfl,⟨none,rfl,rfl,rfl⟩,rfl⟩)
 ·cases l with
  |nil=>
   skip
   exact zLq 6 Z (gM 0 Z (ySq Z Z (jdq Z Z Z Z Z)) (zbq 4 Z (fin Qm Ent.refl rfl ⟨rfl,⟨some [],rfl,rfl,rfl⟩,rfl⟩)))
  |cons c l=>
   have hpp:purW (.arr (((c::l).map txW).length*99) 99 ((c::l).map txW))=true:=hp (c::l);refine zLq 6 Z (gM 0 Z (ySq Z Z (qEq (len:=0) (news:=(c::l).map txW) (olds:=[]) (k:=ti72) Z Z Z Z Z Xl (by show(0+((c::l).map txW).length)*120<=_;rw[e];omega) Yj rfl (by show 0<0+(0+((c::l).map txW).length)*99;rw[e];simp only[List.length_cons];omega) Z Z)) (zbq 4 Z ?_));refine fin Qm (yPq (b:=0) (k:=1) (fr2:=[(2,oW 0 99 (some ((c::l).map txW)))]) (hp2:=oH 0 72 99 (some ((c::l).map txW))) Xd Xd (by show 1<2;omega) ⟨⟨?_,rfl⟩,trivial⟩ ⟨⟨by omega,?_,zfq hpp⟩,trivial⟩ (by simp[oH])) rfl ⟨rfl,⟨some ((c::l).map txW),rfl,rfl,rfl⟩,rfl⟩
   ·show some (W.sl 1 0 0 (0+((c::l).map txW).length) 99 none)=some (W.sl 1 0 0 ((c::l).map txW).length 99 none);rw[Nat.zero_add]
   ·rw[zoq hpp];show some (72,W.arr ((0+((c::l).map txW).length)*99) 99 ([]++(c::l).map txW))=some (72,W.arr (((c::l).map txW).length*99) 99 ((c::l).map txW));rw[Nat.zero_add];rfl
theorem clevo_s(l:List Eve)(f:Bool)(hl:l.length<=1000000000):qbq cfg G 88 0 [.fz (l.map eveW) 100 f] [] λw hp nw=>(∃o:Option (List W),o.getD []=l.map eveW/\w=oW 0 100 o/\hp=oH 0 59 100 o)/\nw=1:=by
 intro R;have e:(l.map eveW).length=l.length:=List.length_map _;have hp:∀l:List Eve,purL (l.map eveW)=true:=zPq k1q
 refine gIs 9 Z (λk0=>?_);first|refine yVq Z Z ?_|refine z5q rfl (qUq Z Z Z Z Z (λbn hn=>?_))
 refine zpq 2 Z ?_;refine gS 0 Z (λh1=>?_) (λh1=>?_)
 ·cases bn with
  |false=>cases h1
  |true=>
   obtain rfl:l=[]:=List.map_eq_nil_iff.1 (hn rfl);exact zLq 7 Z (fin Qm (ent_up (fr2:=[(2,.nils)]) ⟨rfl,trivial⟩) rfl ⟨rfl,⟨none,rfl,rfl,rfl⟩,rfl⟩)
 ·cases l with
  |nil=>
   skip
   exact zLq 6 Z (gM 0 Z (ySq Z Z (jdq Z Z Z Z Z)) (zbq 4 Z (fin Qm Ent.refl rfl ⟨rfl,⟨some [],rfl,rfl,rfl⟩,rfl⟩)))
  |cons c l=>
   have hpp:purW (.arr (((c::l).map eveW).length*100) 100 ((c::l).map eveW))=true:=hp (c::l);refine zLq 6 Z (gM 0 Z (ySq Z Z (qEq (len:=0) (news:=(c::l).map eveW) (olds:=[]) (k:=ti59) Z Z Z Z Z Xl (by show(0+((c::l).map eveW).length)*128<=_;rw[e];omega) Yj rfl (by show 0<0+(0+((c::l).map eveW).length)*100;rw[e];simp only[List.length_cons];omega) Z Z)) (zbq 4 Z ?_));refine fin Qm (yPq (b:=0) (k:=1) (fr2:=[(2,oW 0 100 (some ((c::l).map eveW)))]) (hp2:=oH 0 59 100 (some ((c::l).map eveW))) Xd Xd (by show 1<2;omega) ⟨⟨?_,rfl⟩,trivial⟩ ⟨⟨by omega,?_,zfq hpp⟩,trivial⟩ (by simp[oH])) rfl ⟨rfl,⟨some ((c::l).map eveW),rfl,rfl,rfl⟩,rfl⟩
   ·show some (W.sl 1 0 0 (0+((c::l).map eveW).length) 100 none)=some (W.sl 1 0 0 ((c::l).map eveW).length 100 none);rw[Nat.zero_add]
   ·rw[zoq hpp];show some (59,W.arr ((0+((c::l).map eveW).length)*100) 100 ([]++(c::l).map eveW))=some (59,W.arr (((c::l).map eveW).length*100) 100 ((c::l).map eveW));rw[Nat.zero_add];rfl
noncomputable def mW(r:Ru)(v:Vw)(pl:List Shd)(dr bk wt:W)(n:Nat)(tl:W)(h:Hb):W:=.agg 52 [ruG r,vwG v,plW pl,dr,bk,wt,.int .u64 (n:Int),tl,hbW h]
section
variable {r:Ru} {v:Vw} {pl:List Shd} {dr bk wt tl:W} {n:Nat} {h:Hb} {d:List W} {b c:Nat} {o o':Option (List W)}
theorem x6q(τ:Nat->Nat):renW τ (mW r v pl dr bk wt n tl h)=mW r v pl (renW τ dr) (renW τ bk) (renW τ wt) n (renW τ tl) h:=by
 show W.agg 52 [renW τ (ruG r),renW τ (vwG v),renW τ (plW pl),renW τ dr,renW τ bk,renW τ wt,_,renW τ tl,renW τ (hbW h)]=_;rw[zoq (ruG_pur r),zoq (yjq v),zoq (show purW (plW pl)=true from jAq pl),zoq (hbW_pur h)];rfl
theorem uYq{m:Nat}(h1:refB m dr=true)(h2:refB m bk=true)(h3:refB m wt=true)(h4:refB m tl=true):refB m (mW r v pl dr bk wt n tl h)=true:=by
 show(refB m (ruG r)&&(refB m (vwG v)&&(refB m (plW pl)&&(refB m dr&&(refB m bk&&(refB m wt&&(true&&(refB m tl&&(refB m (hbW h)&&true)))))))))=true;rw[zfq (ruG_pur r),zfq (yjq v),zfq (show purW (plW pl)=true from jAq pl),zfq (hbW_pur h),h1,h2,h3,h4];rfl
end
theorem osz{b e:Nat}{o:Option (List W)}:Nat.beq (oW b e o).size 1=true:=by cases o<;>rfl
section
variable {r:Ru} {v:Vw} {pl:List Shd} {d k t:List W} {f g g2:Bool} {wt tl:W} {n:Nat} {h:Hb} {b c:Nat} {o o2:Option (List W)}
theorem tw_p4:yDq 50 (mW r v pl (.fz d 99 f) (.fz k 99 g) wt n tl h) 46 (oW b 99 o)=some (mW r v pl (.fz d 99 f) (oW b 99 o) wt n tl h):=by cases o<;>rfl
theorem tw_p5:yDq 50 (mW r v pl (.fz d 99 f) (oW b 99 o) (.fz k 34 g) n tl h) 47 (.fz t 34 g2)=some (mW r v pl (.fz d 99 f) (oW b 99 o) (.fz t 34 g2) n tl h):=by cases o<;>rfl
theorem tw_p7:yDq 50 (mW r v pl (.fz d 99 f) (oW b 99 o) (.fz k 34 g) n (.fz t 100 g2) h) 49 (oW c 100 o2)=some (mW r v pl (.fz d 99 f) (oW b 99 o) (.fz k 34 g) n (oW c 100 o2) h):=by cases o<;>cases o2<;>rfl
end
noncomputable def amO(b c:Nat)(a:Au)(ob oe:Option (List W)):W:=.agg 52 [ruG a.ru,vwG a.vw,plW a.pool,.fz (a.drawn.map txW) 99 false,oW b 99 ob,.fz (a.wait.map pdW) 34 false,.int .u64 (a.count:Int),oW c 100 oe,hbW a.hub]
set_option maxRecDepth 100000 in
theorem autwin_o(a:Au)(sm:SmAu a)(hv:PS cfg G 83 [vwG a.vw] (vwG a.vw)):qbq cfg G 34 0 [amW a] [] λw hp nw=>(∃ob oe:Option (List W),ob.getD []=a.back.map txW/\oe.getD []=a.tells.map eveW/\w=amO 2 3 a ob oe/\hp=([(1,43,amO 2 3 a ob oe),(0,43,amO 2 3 a ob oe)]++oH 2 72 99 ob)++oH 3 59 100 oe)/\nw=4:=by
 have hp:=pltw_s (G:=G) a.pool sm.pool sm.shards;have hh:=hbtw_s (G:=G) a.hub sm.subs sm.taps;intro R;refine gIs 10 Z (λk0=>?_);refine gC 0 Z (hv) (gC 2 Z (hp) (gC 2 Z (hh) (gC 12 Z (clx_s a.drawn false sm.drawn) (zbq 2 Z ?_))))
 (refine qfq rfl (uHq (uGq Z Z Z Z Z Qa (clxo_s a.back false sm.back) ?_));rintro w hp1 nw1 ⟨⟨ob,hob,rfl,rfl⟩,rfl⟩;have hpb:purL (ob.getD [])=true:=(by rw[hob];exact qmq _);rw[qRq,jRq _ _ _ _ hpb,show numC [] 2 0=2 from rfl];refine⟨_,hget_turn (ukq (l:=[1,0]) rfl Xg),vxq (ukq (l:=[1,0]) rfl Xg) (show [1,0].Nodup by decide),rfl,?_⟩)
 refine qiq 2 Z (gC 0 Z (cld_s a.wait false sm.wait) (zbq 2 Z ?_))
 (refine qfq rfl (uHq (uGq Z Z Z Z Z Qa (clevo_s a.tells false sm.tells) ?_));rintro w hp1 nw1 ⟨⟨oe,hoe,rfl,rfl⟩,rfl⟩;have hpe:purL (oe.getD [])=true:=(by rw[hoe];exact Zlq _);rw[qRq,jRq _ _ _ _ hpe,show numC [] 3 0=3 from rfl];refine⟨_,hget_turn (λp hp=>by rcases List.mem_append.1 hp with hp|hp;exact ukq (l:=[1,0]) rfl Xg p hp;rw[yrq p hp];decide),vxq (λp hp=>by rcases List.mem_append.1 hp with hp|hp;exact ukq (l:=[1,0]) rfl Xg p hp;rw[yrq p hp];decide) (vxq (ukq (l:=[1,0]) rfl Xg) (show [1,0].Nodup by decide)),rfl,?_⟩)
 exact qiq 3 Z (gM 0 Z (qhq Z Z Z Z osz tw_p4 rfl) (gM 1 Z (qhq Z Z Z Z Z tw_p5 rfl) (gM 1 Z (qhq Z Z Z Z osz tw_p7 rfl) (zbq 9 Z (fin Qm Ent.refl rfl ⟨rfl,⟨ob,oe,hob,hoe,rfl,rfl⟩,rfl⟩)))))
end
section
attribute [local irreducible] CoW OpW FlW Step Spec
set_option maxRecDepth 100000 in
theorem pub_ok{G:Nat->Option W}(r:Ru)(v0 v:Vw)(pl:List Shd)(dr bk wt:W)(n:Nat)(tl:W)(h:Hb)(P:HpW)(hP:OkP P 3)(hM:refB 3 (mW r v pl dr bk wt n tl h)=true):qbq cfg G 96 3 [.ptr 0 0,vwG v,.int .i64 0] ((0,119,mW r v0 pl dr bk wt n tl h)::P) λw hp nw=>w= .int .i64 0/\hp=(0,119,mW r v pl dr bk wt n tl h)::P/\nw=3:=by
 intro R;refine gIs 10 Z (λk0=>?_);exact gT 0 Z (eqI_iff.2 (rfl)) (zbq 19 Z (fin (w:=.int .i64 0) Qm (q2q (nw2:=3) (fr2:=[(6,.int .i64 0)]) (hp2:=(0,119,mW r v pl dr bk wt n tl h)::P) Xd Xd ⟨rfl,trivial⟩ rfl (qtq ⟨⟨by omega,rfl,hM⟩,Zuq (hP.cons _) λp hp=>by have:=(Ztq hP.sub p hp);omega⟩) (hP.nd0 _)) rfl ⟨rfl,rfl,rfl,rfl⟩))
theorem subH_of{P hp:HpW}{n:Nat}:∀{q:HpW},subH P n q->(∀p∈q,p.1≠0/\p.1≠2) ->(∀b x,b<n->b≠0->b≠2->hget P b=some x->hget hp b=some x) ->subH hp n q
 |[],_,_,_=>trivial
 |(b,x)::q,h,hn,hh=>⟨⟨h.1.1,hh b x h.1.1 (hn _ (List.mem_cons_self ..)).1 (hn _ (List.mem_cons_self ..)).2 h.1.2.1,h.1.2.2⟩,subH_of h.2 (λp hp=>hn p (List.mem_cons_of_mem _ hp)) hh⟩
noncomputable def evN(v:Vw)(y:Lk):Eve:=⟨v.number,true,y.hdr⟩
set_option maxRecDepth 100000 in
theorem event_o(r:Ru)(v:Vw)(pl:List Shd)(bk wt:W)(n:Nat)(oe:Option (List W))(h:Hb)(y:Lk)(hc:OkC v.ch)(hM:MayC v.ch)(hy:v.ch.links[v.ch.links.length-1]? =some y)(P:HpW)(hP:OkP P 4)(hP2:∀p∈P,p.1≠2)(hpe:purL (oe.getD [])=true)(hle:(oe.getD []).length<=1000000000)(hbk:refB 4 bk=true)(hwt:refB 4 wt=true)(cb cw:Nat)(ob ow:Option (List W))(eb:bk=oW cb 99 ob)(ew:wt=oW cw 34 ow):qbq cfg glT 100 4 [.ptr 0 0,.bool true] ((0,119,mW r v pl .nils bk wt n (oW 2 100 oe) h)::(P++oH 2 59 100 oe)) λw hp nw=>w= .tup []/\hp=(0,119,mW r v pl .nils bk wt n (oW 4 100 (oA oe [eveW (evN v y)])) h)::(P++oH 4 59 100 (oA oe [eveW (evN v y)]))/\nw=5:=by
 have hh:=ps_gl x7q (chead_s v.ch hc hM hy);have g7:∀k o,zYq 50 (mW r v pl .nils bk wt n (oW k 100 o) h) 49 1 false=some (oW k 100 o):=λk o=>by subst eb;subst ew;cases ob<;>cases ow<;>cases o<;>rfl
 have p7:∀k o k' o',yDq 50 (mW r v pl .nils bk wt n (oW k 100 o) h) 49 (oW k' 100 o')=some (mW r v pl .nils bk wt n (oW k' 100 o') h):=λk o k' o'=>by subst eb;subst ew;cases ob<;>cases ow<;>cases o<;>cases o'<;>rfl
 have hsz:∀k o,Nat.beq (oW k 100 o).size 1=true:=λk o=>by cases o<;>rfl
 have hpe2:purL ((oA oe [eveW (evN v y)]).getD [])=true:=by
  rw[qCq,qGq,hpe];show(true&&(purW (eveW _)&&true))=true;rw[k1q];rfl
 intro R;refine gIs 8 Z (λk0=>?_);refine gC 0 Z (hh) (gM 14 Z (yiq Z Z Z (g7 _ _)) (zbq 10 Z ?_))
 (refine qfq rfl (qVq (news:=[eveW (evN v y)]) (k:=ti59) (e:=100) Z Z Z Z Z Z Z Z (uIq Z Z Z Z) (by show(_+1)*128<=_;omega) (by show _+1<=_;omega) (zrq Xg (zrq Xg (zrq Xg (ZUq hP2)))) Xd ?_);intro c hp1 nw1 q;refine⟨by kernel_rfl,?_⟩)
 refine run_f 3 Z (gM 0 Z (qhq Z Z Z (q.old 0 _ Xg Xg rfl) (hsz _ _) (p7 _ _ _ _) rfl) (zbq 1 Z ?_))
 obtain rfl:c=6:=by
  rcases q.num with ⟨h,_⟩|⟨_,h⟩
  ·cases h
  ·exact h
 have hlt:=q.lt;have h0:=q.old 0 _ Xg Xg rfl;have hτ:∀i,i<4->tau1 4 6 i=i:=λi hi=>qvq Xd
 exact fin (w:=.tup []) (.inl rfl) (ent_num (tau1 4 6) (fr2:=[]) (hp2:=(0,119,mW r v pl .nils bk wt n (oW 4 100 (oA oe [eveW (evN v y)])) h)::(P++oH 4 59 100 (oA oe [eveW (evN v y)]))) (nw2:=5) Xd (λi hi=>hτ i hi) (λi hi=>by by_cases e:i=4;(subst e;rw[juq];exact hlt);rw[qvq e];omega) (λi h1 h2=>by have e:i=4:=Xd;rw[e,juq];decide) (λt w h=>by simp[getW] at h) (ksq ⟨⟨by omega,by
  show hget (hset hp1 0 _) 0=some (_,renW _ (mW r v pl .nils bk wt n (oW 4 100 (oA oe [eveW (evN v y)])) h));rw[x6q,qRq,xmq hτ hbk,xmq hτ hwt,juq]
  exact zXq h0,uYq rfl (kcq Xg hbk) (kcq Xg hwt) (qWq Xg)⟩,xhq (YOq hτ (subH_of hP.sub (λp hp=>⟨hP.ne p hp,hP2 p hp⟩) λb x h4 hb0 hb2 hx=>by
   rw[jXq h0,if_neg (λe=>hb0 e.symm)];refine q.old b x hb2 Xd ?_;show hget ((5,_)::(4,_)::(0,_)::(P++_)) b=some x;rw[zgq,if_neg Xd,zgq,if_neg Xd,zgq,if_neg Xd];exact xVq hx)) (QGq Xg hpe2 (by rw[juq];exact yvq Xg h0 q.is))⟩) (λb d x z hb hd e=>by
  have key:∀{b:Nat} {x:TypeId×W},hget ((0,119,mW r v pl .nils bk wt n (oW 4 100 (oA oe [eveW (evN v y)])) h)::(P++oH 4 59 100 (oA oe [eveW (evN v y)]))) b=some x->b<5:=λ{b x} hb=>by
   refine Nat.lt_of_not_le λhge=>?_
   rw[yOq (λp hp=>?_)] at hb
   ·cases hb
   ·rcases List.mem_cons.1 hp with rfl|hp
    ·show 0≠b;omega
    ·rcases List.mem_append.1 hp with hp|hp
     ·have:=Ztq hP.sub p hp;omega
     ·rw[yrq p hp];omega
  have k1:=key hb;have k2:=key hd;by_cases e1:b=4<;>by_cases e2:d=4
  ·omega
  ·subst e1;rw[juq,qvq e2] at e;omega
  ·subst e2;rw[juq,qvq e1] at e;omega
  ·rwa[qvq e1,qvq e2] at e) (by
  rw[List.map_cons,List.nodup_cons];refine⟨λhm=>?_,vxq (λp hp=>by have:=Ztq hP.sub p hp;omega) hP.nd⟩;obtain⟨p,hp,e⟩:=List.mem_map.1 hm;rcases List.mem_append.1 hp with hp|hp
  ·exact hP.ne p hp e
  ·rw[yrq p hp] at e;cases e)) rfl ⟨rfl,rfl,rfl,rfl⟩
theorem nd3{b c d e1 e2 e3:Nat}{t1 t2 t3:TypeId}{o1 o2 o3:Option (List W)}{y:TypeId×W}(h1:b≠0)(h2:c≠0)(h3:d≠0)(h4:b≠c)(h5:b≠d)(h6:c≠d):(((0,y)::(oH b t1 e1 o1++(oH c t2 e2 o2++oH d t3 e3 o3))).map (·.1)).Nodup:=by
 cases o1<;>cases o2<;>cases o3<;>simp[oH]<;>omega
theorem okp2{o1 o2:Option (List W)}{t1 t2:TypeId}{e1 e2:Nat}(h1:purL (o1.getD [])=true)(h2:purL (o2.getD [])=true):OkP (oH 1 t1 e1 o1++oH 2 t2 e2 o2) 3:=
 ⟨kGq (x4q Xg h1 ysq) (x4q Xg h2 (z8q Xg quq)),λp hp=>by
  rcases List.mem_append.1 hp with hp|hp
  ·rw[yrq p hp];decide
  ·rw[yrq p hp];decide,by cases o1<;>cases o2<;>simp[oH]⟩
section
variable {C:Cfg} {G:Nat->Option W} {k0:Nat} {fr:FrW} {hp:HpW} {nw:Nat} {R:Res}
noncomputable def tauW(c cb cw:Nat):Nat->Nat:=λi=>if i=c then cb else if i=4 then cw else i
noncomputable def auH(c:Nat)(r:Ru)(v:Vw)(pl:List Shd)(dr wt:W)(n:Nat)(h:Hb)(ob oe ow:Option (List W)):HpW:=(0,119,mW r v pl dr (oW c 99 ob) wt n (oW 2 100 oe) h)::(oH c 72 99 ob++(oH 2 59 100 oe++oH 4 148 34 ow))
theorem ent_au(fr2:FrW){c cb cw n:Nat}{r:Ru}{v:Vw}{pl:List Shd}{dr wt wt2:W}{h:Hb}{ob oe ow:Option (List W)}(hc:(c=1/\cb=1)\/(c=3/\3<=cb))(hcw:3<=cw)(hne:cw≠cb)(h1:cb<nw)(h2:cw<nw)(hnw:5<=nw)(hf:∀τ:Nat->Nat,τ 0=0->τ 4=cw->subR τ 5 fr fr2)(hM:hget hp 0=some (119,mW r v pl dr (oW cb 99 ob) wt n (oW 2 100 oe) h))(hdr:purW dr=true)(hwt:∀τ:Nat->Nat,τ 4=cw->renW τ wt2=wt)(rwt:refB 5 wt2=true)(pb:purL (ob.getD [])=true)(pe:purL (oe.getD [])=true)(pw:purL (ow.getD [])=true)(ib:oIn hp cb 72 99 ob)(ie:oIn hp 2 59 100 oe)(iw:oIn hp cw 148 34 ow):Ent C G 3 k0 fr hp nw R fr2 (auH c r v pl dr wt2 n h ob oe ow) 5 R:=by
 have hc5:c<5/\c≠0/\c≠2/\c≠4:=by omega
 have t0:tauW c cb cw 0=0:=by unfold tauW;rw[if_neg Xd,if_neg Xd]
 have t2:tauW c cb cw 2=2:=by unfold tauW;rw[if_neg Xd,if_neg Xd]
 have tc:tauW c cb cw c=cb:=by unfold tauW;rw[if_pos rfl]
 have t4:tauW c cb cw 4=cw:=by unfold tauW;rw[if_neg Xd,if_pos rfl]
 have nm :∀{i:Nat} {y:TypeId×W},hget (auH c r v pl dr wt2 n h ob oe ow) i=some y->i=0\/i=c\/i=2\/i=4:=λ{i y} hy=>by
  by_cases q0:i=0
  ·exact .inl q0
  ·by_cases q1:i=c
   ·exact .inr (.inl q1)
   ·by_cases q2:i=2
    ·exact .inr (.inr (.inl q2))
    ·by_cases q3:i=4
     ·exact .inr (.inr (.inr q3))
     ·rw [yOq (λp hp=>?_)] at hy
      ·cases hy
      ·rcases List.mem_cons.1 hp with rfl|hp
       ·exact λe=>q0 e.symm
       ·rcases List.mem_append.1 hp with hp|hp
        ·rw[yrq p hp];exact λe=>q1 e.symm
        ·rcases List.mem_append.1 hp with hp|hp
         ·rw[yrq p hp];exact λe=>q2 e.symm
         ·rw[yrq p hp];exact λe=>q3 e.symm
 refine ent_num (tauW c cb cw) Xd (λb hb=>?_) (λb hb=>?_) (λb h1 h2=>?_) (QFq (hf _ t0 t4)) (ksq (l:=auH c r v pl dr wt2 n h ob oe ow) ⟨⟨by omega,?_,?_⟩,xhq (QGq hc5.1 pb (by rw[tc];exact ib)) (xhq (QGq Xd pe (by rw[t2];exact ie)) (QGq Xd pw (by rw[t4];exact iw)))⟩) (λb d y z hy hz q=>?_) ?_
 ·unfold tauW;by_cases q:b=c
  ·rw[if_pos q];omega
  ·rw[if_neg q,if_neg Xd]
 ·unfold tauW;by_cases q:b=c
  ·rw[if_pos q];exact h1
  ·rw[if_neg q];by_cases q2:b=4
   ·rw[if_pos q2];exact h2
   ·rw[if_neg q2];omega
 ·unfold tauW;by_cases q:b=c
  ·rw[if_pos q];omega
  ·rw[if_neg q];by_cases q2:b=4
   ·rw[if_pos q2];exact hcw
   ·rw[if_neg q2];exact h1
 ·show hget hp (tauW c cb cw 0)=some (_,renW _ (mW r v pl dr (oW c 99 ob) wt2 n (oW 2 100 oe) h));rw[t0,x6q,qRq,qRq,tc,t2,hwt _ t4,zoq hdr];exact hM
 ·exact uYq (zfq hdr) (qWq hc5.1) rwt (qWq Xd)
 ·rcases nm hy with rfl|rfl|rfl|rfl<;>rcases nm hz with rfl|rfl|rfl|rfl<;>simp only[t0,t2,tc,t4] at q<;>omega
 ·exact nd3 Xd Xd Xd Xd Xd Xd
end
theorem cutx_ok{c:Ch}{i:Nat}{x:Lk}(h:OkC c):OkC (cutC c i x):=
 ⟨λy hy=>h.body y (List.mem_of_mem_take hy),h.nodes,by have:=h.len;show(c.links.take (i+1)).length<=_;rw[List.length_take];omega,λy hy=>h.recs y (List.mem_of_mem_take hy)⟩
theorem cutx_last{c:Ch}{i:Nat}{x:Lk}(h:c.links[i]? =some x):(cutC c i x).links[(cutC c i x).links.length-1]? =some x:=by
 have hi:=qZq h;show(c.links.take (i+1))[(c.links.take (i+1)).length-1]? =some x;rw[List.length_take,show min (i+1) c.links.length-1=i by omega,List.getElem?_take,if_pos (Nat.lt_succ_self _)];exact h
section
variable {r:Ru} {v:Vw} {pl:List Shd} {d d2:List W} {f:Bool} {wt tl:W} {n:Nat} {h:Hb} {b c e:Nat} {ob ow oe oz:Option (List W)}
theorem mw_g4:zYq 50 (mW r v pl (.fz d 99 false) (oW b 99 ob) wt n tl h) 46 1 false=some (oW b 99 ob):=by cases ob<;>rfl
theorem mw_p4:yDq 50 (mW r v pl (.fz d 99 false) (oW b 99 ob) wt n tl h) 46 (oW c 99 oz)=some (mW r v pl (.fz d 99 false) (oW c 99 oz) wt n tl h):=by cases ob<;>cases oz<;>rfl
theorem mw_p3:yDq 50 (mW r v pl (.fz d 99 false) (oW b 99 ob) wt n tl h) 45 .nils=some (mW r v pl .nils (oW b 99 ob) wt n tl h):=rfl
theorem mw_g5:zYq 50 (mW r v pl (.fz d 99 false) (oW b 99 ob) (.fz d2 34 false) n tl h) 47 1 false=some (.fz d2 34 false):=by cases ob<;>rfl
theorem mw_p5:yDq 50 (mW r v pl .nils (oW b 99 ob) (.fz d2 34 false) n tl h) 47 (oW c 34 oz)=some (mW r v pl .nils (oW b 99 ob) (oW c 34 oz) n tl h):=by cases ob<;>cases oz<;>rfl
end
def flX(L:List Bd)(k:Nat):List Tx:=(L.take k).flatMap λb=>b.2
def flD(L:List Bd)(k:Nat):List Depo:=(L.take k).flatMap λb=>b.1
theorem flX_succ{L:List Bd}{k:Nat}{b:Bd}(h:L[k]? =some b):flX L (k+1)=flX L k++b.2:=by
 unfold flX;rw[List.take_add_one,h,List.flatMap_append];simp
theorem flD_succ{L:List Bd}{k:Nat}{b:Bd}(h:L[k]? =some b):flD L (k+1)=flD L k++b.1:=by
 unfold flD;rw[List.take_add_one,h,List.flatMap_append];simp
theorem flx_len{a:Au}{i k:Nat}(hM:MayC a.vw.ch):(flX (ymq a.vw.ch i) k).length<=4096/\(flD (ymq a.vw.ch i) k).length<=4096:=by
 have h2:(ymq a.vw.ch i).length<=256:=by
  have:=hM.len;unfold ymq;rw[List.length_map,List.length_drop];omega
 have h3:((ymq a.vw.ch i).take k).length<=256:=by rw[List.length_take];omega
 have h1:=uZq (l:=(ymq a.vw.ch i).take k) (f:=λb=>b.2) (n:=16) λb hb=>by
  obtain⟨k,y,_,hy,rfl⟩:=xQq (List.mem_of_mem_take hb);exact(hM.link k y hy).body.2.1
 have h4:=uZq (l:=(ymq a.vw.ch i).take k) (f:=λb=>b.1) (n:=16) λb hb=>by
  obtain⟨k,y,_,hy,rfl⟩:=xQq (List.mem_of_mem_take hb);exact(hM.link k y hy).body.1
 unfold flX flD;omega
theorem flb_len{a:Au}{i k:Nat}(hM:MayC a.vw.ch){b:Bd}(h:(ymq a.vw.ch i)[k]? =some b):b.1.length<=16/\b.2.length<=16:=by
 obtain⟨k,y,_,hy,rfl⟩:=xQq (List.mem_of_getElem? h);exact⟨(hM.link k y hy).body.1,(hM.link k y hy).body.2.1⟩
theorem okp13{o1 o2:Option (List W)}{t1 t2:TypeId}{e1 e2:Nat}(h1:purL (o1.getD [])=true)(h2:purL (o2.getD [])=true):OkP (oH 1 t1 e1 o1++oH 3 t2 e2 o2) 4:=
 ⟨kGq (x4q Xg h1 ysq) (x4q Xg h2 (z8q Xg quq)),λp hp=>by
  rcases List.mem_append.1 hp with hp|hp
  ·rw[yrq p hp];decide
  ·rw[yrq p hp];decide,by cases o1<;>cases o2<;>simp[oH]⟩
theorem nd3b{e1 e2 e3:Nat}{t1 t2 t3:TypeId}{o1 o2 o3:Option (List W)}{y:TypeId×W}:(((0,y)::((oH 1 t1 e1 o1++oH 3 t2 e2 o2)++oH 2 t3 e3 o3)).map (·.1)).Nodup:=by
 cases o1<;>cases o2<;>cases o3<;>simp[oH]
def WorkQ(a:Au)(i:Nat)(x:Lk):W->HpW->Nat->Prop:=λw hp nw=>w= .int .i64 0/\∃(c:Nat) (ob ow oe:Option (List W)),(c=1\/c=3)/\ob.getD []=(bkX a i).map txW/\ow.getD []=(wtX a i).map pdW/\oe.getD []=(a.tells++[evX a x]).map eveW/\hp=(0,119,mW a.ru (jmq a.vw i x) a.pool .nils (oW c 99 ob) (oW 4 34 ow) a.count (oW 5 100 oe) a.hub)::(oH c 72 99 ob++(oH 4 148 34 ow++oH 5 59 100 oe))/\nw=6
set_option maxRecDepth 100000 in
theorem work_ok(a:Au)(i:Nat)(x:Lk)(hcan:CanRoll a.vw (i:Int))(hx:a.vw.ch.links[i]? =some x)(hOk:OkC a.vw.ch)(hr:PS cfg glT 99 [vwG a.vw,.int .i64 (i:Int)] (.tup [vwG (jmq a.vw i x),.fz ((ymq a.vw.ch i).map bdW) 2 false,.int .i64 0]))(hs1:a.back.length<=1000)(hs2:a.drawn.length<=1000)(hs3:a.wait.length<=1000)(hs4:a.tells.length<=1000)(ob oe:Option (List W))(hob:ob.getD []=a.back.map txW)(hoe:oe.getD []=a.tells.map eveW):qbq cfg glT 36 3 [.ptr 0 0,rlW i] ((0,119,amO 1 2 a ob oe)::(oH 1 72 99 ob++oH 2 59 100 oe)) (WorkQ a i x):=by
 have hM:=hcan.may.1;have hpb:purL (ob.getD [])=true:=by rw[hob];exact qmq _
 have hpe:purL (oe.getD [])=true:=by rw[hoe];exact Zlq _
 have hel:(oe.getD []).length<=1000000000:=by rw[hoe,List.length_map];omega
 have hpd:purW (.fz (a.drawn.map txW) 99 false)=true:=qmq _;have hpw:purW (.fz (a.wait.map pdW) 34 false)=true:=zPq q7q _;have hL:(((ymq a.vw.ch i)).map bdW).length=(ymq a.vw.ch i).length:=List.length_map _;have hbp:purL ((ymq a.vw.ch i).map bdW)=true:=k8q _;have ed:(a.drawn.map txW).length=a.drawn.length:=List.length_map _;have ew:(a.wait.map pdW).length=a.wait.length:=List.length_map _;have hlen:=λk=>flx_len (a:=a) (i:=i) (k:=k) hM
 have hbl:=λk b=>flb_len (a:=a) (i:=i) (k:=k) (b:=b) hM
 have hLl:(ymq a.vw.ch i).length<=256:=by
  have:=hM.len;unfold ymq;rw[List.length_map,List.length_drop];omega
 obtain⟨L,hLe⟩:∃L,ymq a.vw.ch i=L:=⟨_,rfl⟩
 obtain⟨u,hu⟩:∃u,jmq a.vw i x=u:=⟨_,rfl⟩
 have hdX:dropX a i=flX L L.length:=by unfold dropX flX;rw[hLe,List.take_length]
 have hdD:dropD a i=flD L L.length:=by unfold dropD flD;rw[hLe,List.take_length]
 have huo:OkC u.ch:=hu▸cutx_ok hOk
 have hum:MayC u.ch:=hu▸hM.cut hx
 have hul:u.ch.links[u.ch.links.length-1]? =some x:=hu▸cutx_last hx
 have hun:u.number=a.vw.number+1:=by rw[<-hu];rfl
 have hev:evN u x=evX a x:=by unfold evN evX;rw[hun]
 unfold WorkQ;rw[hLe] at hr hL hbp hlen hbl hLl;rw[hu] at hr⊢;intro R;refine gIs 16 Z (λk0=>?_);refine gF 0 Z (eqI_not.2 Xg) (gF 6 Z (eqI_not.2 Xg) (gF 6 Z (eqI_not.2 Xg) (gC 16 Z (hr) (zbq 16 Z ?_))))
 (refine z5q rfl (yNq (ext:=[0,1,2]) (ws:=[.ptr 0 0,vwG u,.int .i64 0]) Z Z Z Z (by rw[yKq,yKq,yKq,zoq (yjq u)];rfl) (pub_ok a.ru a.vw u a.pool (.fz (a.drawn.map txW) 99 false) (oW 1 99 ob) (.fz (a.wait.map pdW) 34 false) a.count (oW 2 100 oe) a.hub (oH 1 72 99 ob++oH 2 59 100 oe) (okp2 hpb hpe) (uYq (zfq hpd) (qWq Xd) (zfq hpw) (qWq Xd))) Xg Xp (okp2 hpb hpe|>.nd0 _) (kxq ⟨⟨by decide,uYq (zfq hpd) (qWq Xg) (zfq hpw) (qWq Xg),0,rfl,by rw[x6q,qRq,qRq,zoq hpd,zoq hpw];rfl⟩,Z0q (hd_o rfl hpb (zrq Xg (zrq Xg (zrq Xg ysq)))) (hd_o rfl hpe (zrq Xg (zrq Xg (zrq Xg (z8q Xg quq)))))⟩) (by show(true&&(refB 3 (vwG u)&&(true&&true)))=true;rw[zfq (yjq u)];rfl) ?_);rintro w hp1 nw1 ⟨rfl,rfl,rfl⟩;rw[show renH (numC [0,1,2] 5) ((0,119,mW a.ru u a.pool (.fz (a.drawn.map txW) 99 false) (oW 1 99 ob) (.fz (a.wait.map pdW) 34 false) a.count (oW 2 100 oe) a.hub)::(oH 1 72 99 ob++oH 2 59 100 oe))=(0,119,mW a.ru u a.pool (.fz (a.drawn.map txW) 99 false) (oW 1 99 ob) (.fz (a.wait.map pdW) 34 false) a.count (oW 2 100 oe) a.hub)::(oH 1 72 99 ob++oH 2 59 100 oe) from by rw[renH,x6q,qRq,qRq,zoq hpd,zoq hpw,yZq,jRq _ _ _ _ hpb,jRq _ _ _ _ hpe];rfl];refine vSq (λ_=>ent_au [(0,.ptr 0 0),(6,.fz (L.map bdW) 2 false),(86,.int .i64 0)] (c:=1) (cb:=1) (cw:=4) (ow:=none) (.inl ⟨rfl,rfl⟩) Xg Xg Xg Xg Xg (λτ t0 t4=>⟨⟨by show _=some (W.ptr (τ 0) 0);rw[t0];rfl,rfl⟩,⟨by rw[zoq (show purW (.fz (L.map bdW) 2 false)=true from hbp)];rfl,zfq (show purW (.fz (L.map bdW) 2 false)=true from hbp)⟩,⟨rfl,rfl⟩,trivial⟩) rfl hpd (λτ _=>zoq hpw) (zfq hpw) hpb hpe rfl (y0q (zrq Xg ysq)) (y0q (zrq Xg (z8q Xg quq))) (λl hl=>by cases hl)) ?_)
 refine jyq (w':=.bool false) Z Z (congrArg (λb=>W.bool (!b)) (eqI_iff.2 (rfl))) (zpq 14 Z (gZ 0 Z hL (zbq 4 Z ?_)));skip
 refine jbq (α:=Nat×Nat×Option (List W)×Option (List W)) (λp=>p.1<=L.length/\(p.2.1=1\/p.2.1=3)/\p.2.2.1.getD []=(a.back++flX L p.1).map txW/\p.2.2.2.getD []=(flD L p.1).map pdW) (λp=>[(0,.ptr 0 0),(8,oW 4 34 p.2.2.2),(89,.fz (L.map bdW) 2 false),(90,.int .i64 (L.length:Int)),(91,.int .i64 (p.1:Int))]) (λp=>auH p.2.1 a.ru u a.pool (.fz (a.drawn.map txW) 99 false) (.fz (a.wait.map pdW) 34 false) a.count a.hub p.2.2.1 oe p.2.2.2) (λ_=>5) (λ_=>R) (λp=>L.length-p.1) (0,1,ob,none) ⟨Nat.zero_le _,.inl rfl,by show ob.getD []=(a.back++[]).map txW;rw[hob,List.append_nil],rfl⟩ (qgq ⟨rfl,rfl,rfl,rfl,rfl,trivial⟩ Z Z) (λp hI=>?_);obtain⟨k,c,o1,o2⟩:=p;obtain⟨k1,hcc,g1,g2⟩:=hI;simp only at k1 hcc g1 g2;have p1:purL (o1.getD [])=true:=by rw[g1];exact qmq _
 have p2:purL (o2.getD [])=true:=by rw[g2];exact zPq q7q _
 have l1:(o1.getD []).length<=5096:=by rw[g1,List.length_map,List.length_append];have:=(hlen k).1;omega
 have l2:(o2.getD []).length<=4096:=by rw[g2,List.length_map];exact(hlen k).2
 dsimp only
 rcases hcc with rfl|rfl
 ·skip
  refine z9q 6 Z ?_;refine gS 0 Z (λh1=>?_) (λh1=>?_)
  ·have hk:k<L.length:=by omega
   obtain⟨b,hb⟩:∃b,L[k]? =some b:=⟨_,List.getElem?_eq_getElem hk⟩
   have hb1:=hbl k b hb;have e1:(b.2.map txW).length=b.2.length:=List.length_map _;have e2:(b.1.map pdW).length=b.1.length:=List.length_map _;have pn1:purL ((oA o1 (b.2.map txW)).getD [])=true:=by rw[qCq,qGq,p1];exact qmq _
   have pn2:purL ((oA o2 (b.1.map pdW)).getD [])=true:=by rw[qCq,qGq,p2];exact zPq q7q _
   refine gP 6 Z (zGq (i:=k) Z Z Z Z Z Z Z (znq bdW hb)) (gM 11 Z (yiq Z Z Z mw_g4) (zbq 2 Z ?_))
   (refine qfq rfl (qVq (news:=b.2.map txW) (k:=ti72) (e:=99) Z Z Z Z Z Z Z Z Z (by rw[e1];show _*120<=_;omega) (by rw[e1];omega) (zrq Xg (zrq Xg ysq)) Xg ?_);intro c1 hp1 nw1 q1;refine⟨by kernel_rfl,?_⟩)
   refine qiq 2 Z (gM 0 Z (yiq Z Z (q1.old 5 _ Xg Xg rfl) rfl) ?_)
   (refine qfq rfl (qVq (news:=b.1.map pdW) (k:=ti148) (e:=34) Z Z Z Z Z Z Z Z Z (by rw[e2];show _*48<=_;omega) (by rw[e2];omega) (qxq q1 Xg Xg (zrq Xg (zrq Xg (z8q Xg (z8q Xg quq))))) Yi ?_);intro c2 hp2 nw2 q2;refine⟨by kernel_rfl,?_⟩)
   refine qiq 3 Z (gM 0 Z (qhq Z Z Z (q2.old 0 _ Xg Yi (q1.old 0 _ Xg Xg rfl)) osz mw_p4 rfl) (gA 5 Z (k+1) (zbq 2 Z ?_)));skip
   have u1:=q1.up;have u2:=q2.up;have v1:=q1.lt;have v2:=q2.lt
   obtain⟨c',hc'⟩:∃c',(c'=1/\c1=1)\/(c'=3/\3<=c1):=by
    rcases q1.num with ⟨_,h⟩|⟨_,h⟩
    ·first|exact⟨1,.inl ⟨rfl,h⟩⟩|exact⟨3,.inr ⟨rfl,by omega⟩⟩
    ·exact⟨3,.inr ⟨rfl,by omega⟩⟩
   have w1:c1≠0/\c1≠2/\c1≠4:=by rcases q1.num with ⟨_,h⟩|⟨_,h⟩<;>omega
   have w2:3<=c2/\c2≠c1:=by rcases q1.num with ⟨_,h⟩|⟨_,h⟩<;>rcases q2.num with ⟨_,h'⟩|⟨_,h'⟩<;>omega
   have h0:=q2.old 0 _ Xg Xd (q1.old 0 _ Xg Xg rfl);refine qwq (k+1,c',oA o1 (b.2.map txW),oA o2 (b.1.map pdW)) ⟨hk,Ya,?_,?_⟩ (by show L.length-(k+1)<L.length-k;omega) (ent_au [(0,.ptr 0 0),(8,oW 4 34 (oA o2 (b.1.map pdW))),(89,.fz (L.map bdW) 2 false),(90,.int .i64 (L.length:Int)),(91,.int .i64 ((k+1:Nat):Int))] hc' w2.1 w2.2 Xd v2 Xd (λτ t0 t4=>⟨⟨by show _=some (W.ptr (τ 0) 0);rw[t0];rfl,rfl⟩,⟨by show _=some (renW τ (oW 4 34 _));rw[qRq,t4];rfl,qWq Xg⟩,⟨by rw[zoq (show purW (.fz (L.map bdW) 2 false)=true from hbp)];rfl,zfq (show purW (.fz (L.map bdW) 2 false)=true from hbp)⟩,⟨rfl,rfl⟩,⟨rfl,rfl⟩,trivial⟩) (zXq h0) hpd (λτ _=>zoq hpw) (zfq hpw) pn1 hpe pn2 (yvq (Ne.symm w1.1) h0 (qxq q2 w1.2.2 v1 q1.is)) (yvq Xg h0 (qxq q2 Xg Xd (qxq q1 Xg Xg (zrq Xg (zrq Xg (z8q Xg ysq)))))) (yvq Xd h0 q2.is))
   ·show(oA o1 (b.2.map txW)).getD []=(a.back++flX L (k+1)).map txW;rw[qCq,g1,flX_succ hb,<-List.append_assoc,List.map_append (l₁:=a.back++flX L k)]
   ·show(oA o2 (b.1.map pdW)).getD []=(flD L (k+1)).map pdW;rw[qCq,g2,flD_succ hb,List.map_append]
  ·obtain rfl:k=L.length:=by omega
   have pn1:purL ((oA o1 (a.drawn.map txW)).getD [])=true:=by rw[qCq,qGq,p1];exact qmq _
   have pn2:purL ((oA o2 (a.wait.map pdW)).getD [])=true:=by rw[qCq,qGq,p2];exact zPq q7q _
   have pn3:purL ((oA oe [eveW (evN u x)]).getD [])=true:=by
    rw[qCq,qGq,hpe];show(true&&(purW (eveW _)&&true))=true;rw[k1q];rfl
   refine zbq 2 Z (q4q Xi (zZq 11 Z (gM 0 Z (yiq Z Z Z mw_g4) (zbq 5 Z ?_))))
   (refine qfq rfl (qVq (news:=a.drawn.map txW) (k:=ti72) (e:=99) Z Z Z Z Z Z Z Z Z (by rw[ed];show _*120<=_;omega) (by rw[ed];omega) (zrq Xg ysq) Xg ?_);intro c1 hp1 nw1 q1;refine⟨by kernel_rfl,?_⟩)
   refine qiq 5 Z (gM 0 Z (yiq Z Z (q1.old 0 _ Xg Xg rfl) mw_g5) ?_)
   (refine qfq rfl (qVq (news:=a.wait.map pdW) (k:=ti148) (e:=34) Z Z Z Z Z Z Z Z Z (by rw[ew];show _*48<=_;omega) (by rw[ew];omega) (qxq q1 Xg Xg (zrq Xg (z8q Xg (z8q Xg quq)))) Yi ?_);intro c2 hp2 nw2 q2;have h0:=q2.old 0 _ Xg Yi (q1.old 0 _ Xg Xg rfl);refine⟨by kernel_rfl,?_⟩)
   refine qiq 3 Z (gM 0 Z (qhq Z Z Z h0 osz mw_p4 rfl) (gM 3 Z (qhq Z Z Z (zXq h0) rfl mw_p3 rfl) (gM 3 Z (qhq Z Z Z (zXq (zXq h0)) osz mw_p5 rfl) (zbq 5 Z ?_))))
   (have u1:=q1.up;have u2:=q2.up;have v1:=q1.lt;have v2:=q2.lt;have h3:=zXq (y:=(119,mW a.ru u a.pool .nils (oW c1 99 (oA o1 (a.drawn.map txW))) (oW c2 34 (oA o2 (a.wait.map pdW))) a.count (oW 2 100 oe) a.hub)) (zXq (y:=(119,mW a.ru u a.pool .nils (oW c1 99 (oA o1 (a.drawn.map txW))) (.fz (a.wait.map pdW) 34 false) a.count (oW 2 100 oe) a.hub)) (zXq (y:=(119,mW a.ru u a.pool (.fz (a.drawn.map txW) 99 false) (oW c1 99 (oA o1 (a.drawn.map txW))) (.fz (a.wait.map pdW) 34 false) a.count (oW 2 100 oe) a.hub)) h0));obtain⟨c',hc'⟩:∃c',(c'=1/\c1=1)\/(c'=3/\3<=c1):=Yg;have w1:c1≠0/\c1≠2/\c1≠4:=(by rcases q1.num with ⟨_,h⟩|⟨_,h⟩<;>omega);have w2:3<=c2/\c2≠c1:=Qb;have w3:c'≠0/\c'≠2/\c'≠4/\c'<5/\c'≠5:=Xd;refine vSq (λ_=>ent_au [(0,.ptr 0 0),(142,.ptr 0 0)] (dr:=.nils) (wt:=oW c2 34 (oA o2 (a.wait.map pdW))) (wt2:=oW 4 34 (oA o2 (a.wait.map pdW))) (ob:=oA o1 (a.drawn.map txW)) (ow:=oA o2 (a.wait.map pdW)) hc' w2.1 w2.2 Xd v2 Xd (λτ t0 t4=>⟨⟨by show _=some (W.ptr (τ 0) 0);rw[t0];rfl,rfl⟩,⟨by show _=some (W.ptr (τ 0) 0);rw[t0];rfl,rfl⟩,trivial⟩) h3 rfl (λτ t4=>by rw[qRq,t4]) (qWq Xg) pn1 hpe pn2 (yvq (Ne.symm w1.1) (zXq (zXq h0)) (yvq (Ne.symm w1.1) (zXq h0) (yvq (Ne.symm w1.1) h0 (qxq q2 w1.2.2 v1 q1.is)))) (yvq Xg (zXq (zXq h0)) (yvq Xg (zXq h0) (yvq Xg h0 (qxq q2 Xg Xd (qxq q1 Xg Xg (zrq Xg (z8q Xg ysq))))))) (yvq Xd (zXq (zXq h0)) (yvq Xd (zXq h0) (yvq Xd h0 q2.is)))) ?_;refine z5q rfl (yNq (ext:=[0,c',2,4]) (ws:=[.ptr 0 0,.bool true]) Z Z Z Z Z (event_o a.ru u a.pool (oW 1 99 (oA o1 (a.drawn.map txW))) (oW 3 34 (oA o2 (a.wait.map pdW))) a.count oe a.hub x huo hum hul (oH 1 72 99 (oA o1 (a.drawn.map txW))++oH 3 148 34 (oA o2 (a.wait.map pdW))) (okp13 pn1 pn2) (λp hp=>by rcases List.mem_append.1 hp with hp|hp<;>(rw[yrq p hp];decide)) hpe hel (qWq Xg) (qWq Xg) 1 3 _ _ Z Z) (by rcases hc' with ⟨h,_⟩|⟨h,_⟩<;>(subst h;decide)) Xp nd3b (kxq ⟨⟨by show 0<4;decide,uYq rfl (qWq (by show 1<4;decide)) (qWq (by show 3<4;decide)) (qWq (by show 2<4;decide)),0,rfl,by rw[x6q,qRq,qRq,qRq];rfl⟩,Z0q (Z0q (hd_o rfl pn1 (zrq (Ne.symm w3.1) ysq)) (hd_o rfl pn2 (zrq Xg (z8q w3.2.2.1 (z8q Xg quq))))) (hd_o rfl hpe (zrq Xg (z8q w3.2.1 ysq)))⟩) Z ?_);rintro w hp3 nw3 ⟨rfl,rfl,rfl⟩;rw[show renH (numC [0,c',2,4] 5) ((0,119,mW a.ru u a.pool .nils (oW 1 99 (oA o1 (a.drawn.map txW))) (oW 3 34 (oA o2 (a.wait.map pdW))) a.count (oW 4 100 (oA oe [eveW (evN u x)])) a.hub)::((oH 1 72 99 (oA o1 (a.drawn.map txW))++oH 3 148 34 (oA o2 (a.wait.map pdW)))++oH 4 59 100 (oA oe [eveW (evN u x)])))=(0,119,mW a.ru u a.pool .nils (oW c' 99 (oA o1 (a.drawn.map txW))) (oW 4 34 (oA o2 (a.wait.map pdW))) a.count (oW 5 100 (oA oe [eveW (evN u x)])) a.hub)::((oH c' 72 99 (oA o1 (a.drawn.map txW))++oH 4 148 34 (oA o2 (a.wait.map pdW)))++oH 5 59 100 (oA oe [eveW (evN u x)])) from by rw[renH,x6q,qRq,qRq,qRq,yZq,yZq,jRq _ _ _ _ pn1,jRq _ _ _ _ pn2,jRq _ _ _ _ pn3];rfl])
   exact zpq 8 Z (fin (w:=.int .i64 0) Qm (q2q (nw2:=6) (fr2:=[(4,.int .i64 0)]) (hp2:=(0,119,mW a.ru u a.pool .nils (oW c' 99 (oA o1 (a.drawn.map txW))) (oW 4 34 (oA o2 (a.wait.map pdW))) a.count (oW 5 100 (oA oe [eveW (evN u x)])) a.hub)::(oH c' 72 99 (oA o1 (a.drawn.map txW))++(oH 4 148 34 (oA o2 (a.wait.map pdW))++oH 5 59 100 (oA oe [eveW (evN u x)])))) Xg (Nat.le_refl 6) ⟨rfl,trivial⟩ rfl (qtq ⟨⟨by decide,rfl,uYq rfl (qWq Xd) (qWq Xg) (qWq Xg)⟩,kGq (x4q Xd pn1 (y0q (zrq (Ne.symm w3.1) (y0q ysq)))) (kGq (x4q Xg pn2 (y0q (zrq Xg (y0q (z8q w3.2.2.1 quq))))) (x4q Xg pn3 (y0q (zrq Xg (ZUq λp hp=>by rcases List.mem_append.1 hp with hp|hp;(rw[yrq p hp];exact w3.2.2.2.2);rw[yrq p hp];decide)))))⟩) (nd3 w3.1 Xg Xg w3.2.2.1 w3.2.2.2.2 Xg)) rfl ⟨rfl,rfl,c',_,_,_,Ya,by rw[qCq,g1,<-List.map_append,bkX,hdX],by rw[qCq,g2,<-List.map_append,wtX,hdD],by rw[qCq,hoe,hev,List.map_append];rfl,rfl,rfl⟩)
 ·skip
  refine z9q 6 Z ?_;refine gS 0 Z (λh1=>?_) (λh1=>?_)
  ·have hk:k<L.length:=by omega
   obtain⟨b,hb⟩:∃b,L[k]? =some b:=⟨_,List.getElem?_eq_getElem hk⟩
   have hb1:=hbl k b hb;have e1:(b.2.map txW).length=b.2.length:=List.length_map _;have e2:(b.1.map pdW).length=b.1.length:=List.length_map _;have pn1:purL ((oA o1 (b.2.map txW)).getD [])=true:=by rw[qCq,qGq,p1];exact qmq _
   have pn2:purL ((oA o2 (b.1.map pdW)).getD [])=true:=by rw[qCq,qGq,p2];exact zPq q7q _
   refine gP 6 Z (zGq (i:=k) Z Z Z Z Z Z Z (znq bdW hb)) (gM 11 Z (yiq Z Z Z mw_g4) (zbq 2 Z ?_))
   (refine qfq rfl (qVq (news:=b.2.map txW) (k:=ti72) (e:=99) Z Z Z Z Z Z Z Z Z (by rw[e1];show _*120<=_;omega) (by rw[e1];omega) (zrq Xg (zrq Xg ysq)) Xg ?_);intro c1 hp1 nw1 q1;refine⟨by kernel_rfl,?_⟩)
   refine qiq 2 Z (gM 0 Z (yiq Z Z (q1.old 5 _ Xg Xg rfl) rfl) ?_)
   (refine qfq rfl (qVq (news:=b.1.map pdW) (k:=ti148) (e:=34) Z Z Z Z Z Z Z Z Z (by rw[e2];show _*48<=_;omega) (by rw[e2];omega) (qxq q1 Xg Xg (zrq Xg (zrq Xg (z8q Xg (z8q Xg quq))))) Yi ?_);intro c2 hp2 nw2 q2;refine⟨by kernel_rfl,?_⟩)
   refine qiq 3 Z (gM 0 Z (qhq Z Z Z (q2.old 0 _ Xg Yi (q1.old 0 _ Xg Xg rfl)) osz mw_p4 rfl) (gA 5 Z (k+1) (zbq 2 Z ?_)));skip
   have u1:=q1.up;have u2:=q2.up;have v1:=q1.lt;have v2:=q2.lt
   obtain⟨c',hc'⟩:∃c',(c'=1/\c1=1)\/(c'=3/\3<=c1):=by
    rcases q1.num with ⟨_,h⟩|⟨_,h⟩
    ·first|exact⟨1,.inl ⟨rfl,h⟩⟩|exact⟨3,.inr ⟨rfl,by omega⟩⟩
    ·exact⟨3,.inr ⟨rfl,by omega⟩⟩
   have w1:c1≠0/\c1≠2/\c1≠4:=by rcases q1.num with ⟨_,h⟩|⟨_,h⟩<;>omega
   have w2:3<=c2/\c2≠c1:=by rcases q1.num with ⟨_,h⟩|⟨_,h⟩<;>rcases q2.num with ⟨_,h'⟩|⟨_,h'⟩<;>omega
   have h0:=q2.old 0 _ Xg Xd (q1.old 0 _ Xg Xg rfl);refine qwq (k+1,c',oA o1 (b.2.map txW),oA o2 (b.1.map pdW)) ⟨hk,Ya,?_,?_⟩ (by show L.length-(k+1)<L.length-k;omega) (ent_au [(0,.ptr 0 0),(8,oW 4 34 (oA o2 (b.1.map pdW))),(89,.fz (L.map bdW) 2 false),(90,.int .i64 (L.length:Int)),(91,.int .i64 ((k+1:Nat):Int))] hc' w2.1 w2.2 Xd v2 Xd (λτ t0 t4=>⟨⟨by show _=some (W.ptr (τ 0) 0);rw[t0];rfl,rfl⟩,⟨by show _=some (renW τ (oW 4 34 _));rw[qRq,t4];rfl,qWq Xg⟩,⟨by rw[zoq (show purW (.fz (L.map bdW) 2 false)=true from hbp)];rfl,zfq (show purW (.fz (L.map bdW) 2 false)=true from hbp)⟩,⟨rfl,rfl⟩,⟨rfl,rfl⟩,trivial⟩) (zXq h0) hpd (λτ _=>zoq hpw) (zfq hpw) pn1 hpe pn2 (yvq (Ne.symm w1.1) h0 (qxq q2 w1.2.2 v1 q1.is)) (yvq Xg h0 (qxq q2 Xg Xd (qxq q1 Xg Xg (zrq Xg (zrq Xg (z8q Xg ysq)))))) (yvq Xd h0 q2.is))
   ·show(oA o1 (b.2.map txW)).getD []=(a.back++flX L (k+1)).map txW;rw[qCq,g1,flX_succ hb,<-List.append_assoc,List.map_append (l₁:=a.back++flX L k)]
   ·show(oA o2 (b.1.map pdW)).getD []=(flD L (k+1)).map pdW;rw[qCq,g2,flD_succ hb,List.map_append]
  ·obtain rfl:k=L.length:=by omega
   have pn1:purL ((oA o1 (a.drawn.map txW)).getD [])=true:=by rw[qCq,qGq,p1];exact qmq _
   have pn2:purL ((oA o2 (a.wait.map pdW)).getD [])=true:=by rw[qCq,qGq,p2];exact zPq q7q _
   have pn3:purL ((oA oe [eveW (evN u x)]).getD [])=true:=by
    rw[qCq,qGq,hpe];show(true&&(purW (eveW _)&&true))=true;rw[k1q];rfl
   refine zbq 2 Z (q4q Xi (zZq 11 Z (gM 0 Z (yiq Z Z Z mw_g4) (zbq 5 Z ?_))))
   (refine qfq rfl (qVq (news:=a.drawn.map txW) (k:=ti72) (e:=99) Z Z Z Z Z Z Z Z Z (by rw[ed];show _*120<=_;omega) (by rw[ed];omega) (zrq Xg ysq) Xg ?_);intro c1 hp1 nw1 q1;refine⟨by kernel_rfl,?_⟩)
   refine qiq 5 Z (gM 0 Z (yiq Z Z (q1.old 0 _ Xg Xg rfl) mw_g5) ?_)
   (refine qfq rfl (qVq (news:=a.wait.map pdW) (k:=ti148) (e:=34) Z Z Z Z Z Z Z Z Z (by rw[ew];show _*48<=_;omega) (by rw[ew];omega) (qxq q1 Xg Xg (zrq Xg (z8q Xg (z8q Xg quq)))) Yi ?_);intro c2 hp2 nw2 q2;have h0:=q2.old 0 _ Xg Yi (q1.old 0 _ Xg Xg rfl);refine⟨by kernel_rfl,?_⟩)
   refine qiq 3 Z (gM 0 Z (qhq Z Z Z h0 osz mw_p4 rfl) (gM 3 Z (qhq Z Z Z (zXq h0) rfl mw_p3 rfl) (gM 3 Z (qhq Z Z Z (zXq (zXq h0)) osz mw_p5 rfl) (zbq 5 Z ?_))))
   (have u1:=q1.up;have u2:=q2.up;have v1:=q1.lt;have v2:=q2.lt;have h3:=zXq (y:=(119,mW a.ru u a.pool .nils (oW c1 99 (oA o1 (a.drawn.map txW))) (oW c2 34 (oA o2 (a.wait.map pdW))) a.count (oW 2 100 oe) a.hub)) (zXq (y:=(119,mW a.ru u a.pool .nils (oW c1 99 (oA o1 (a.drawn.map txW))) (.fz (a.wait.map pdW) 34 false) a.count (oW 2 100 oe) a.hub)) (zXq (y:=(119,mW a.ru u a.pool (.fz (a.drawn.map txW) 99 false) (oW c1 99 (oA o1 (a.drawn.map txW))) (.fz (a.wait.map pdW) 34 false) a.count (oW 2 100 oe) a.hub)) h0));obtain⟨c',hc'⟩:∃c',(c'=1/\c1=1)\/(c'=3/\3<=c1):=Yg;have w1:c1≠0/\c1≠2/\c1≠4:=(by rcases q1.num with ⟨_,h⟩|⟨_,h⟩<;>omega);have w2:3<=c2/\c2≠c1:=Qb;have w3:c'≠0/\c'≠2/\c'≠4/\c'<5/\c'≠5:=Xd;refine vSq (λ_=>ent_au [(0,.ptr 0 0),(142,.ptr 0 0)] (dr:=.nils) (wt:=oW c2 34 (oA o2 (a.wait.map pdW))) (wt2:=oW 4 34 (oA o2 (a.wait.map pdW))) (ob:=oA o1 (a.drawn.map txW)) (ow:=oA o2 (a.wait.map pdW)) hc' w2.1 w2.2 Xd v2 Xd (λτ t0 t4=>⟨⟨by show _=some (W.ptr (τ 0) 0);rw[t0];rfl,rfl⟩,⟨by show _=some (W.ptr (τ 0) 0);rw[t0];rfl,rfl⟩,trivial⟩) h3 rfl (λτ t4=>by rw[qRq,t4]) (qWq Xg) pn1 hpe pn2 (yvq (Ne.symm w1.1) (zXq (zXq h0)) (yvq (Ne.symm w1.1) (zXq h0) (yvq (Ne.symm w1.1) h0 (qxq q2 w1.2.2 v1 q1.is)))) (yvq Xg (zXq (zXq h0)) (yvq Xg (zXq h0) (yvq Xg h0 (qxq q2 Xg Xd (qxq q1 Xg Xg (zrq Xg (z8q Xg ysq))))))) (yvq Xd (zXq (zXq h0)) (yvq Xd (zXq h0) (yvq Xd h0 q2.is)))) ?_;refine z5q rfl (yNq (ext:=[0,c',2,4]) (ws:=[.ptr 0 0,.bool true]) Z Z Z Z Z (event_o a.ru u a.pool (oW 1 99 (oA o1 (a.drawn.map txW))) (oW 3 34 (oA o2 (a.wait.map pdW))) a.count oe a.hub x huo hum hul (oH 1 72 99 (oA o1 (a.drawn.map txW))++oH 3 148 34 (oA o2 (a.wait.map pdW))) (okp13 pn1 pn2) (λp hp=>by rcases List.mem_append.1 hp with hp|hp<;>(rw[yrq p hp];decide)) hpe hel (qWq Xg) (qWq Xg) 1 3 _ _ Z Z) (by rcases hc' with ⟨h,_⟩|⟨h,_⟩<;>(subst h;decide)) Xp nd3b (kxq ⟨⟨by show 0<4;decide,uYq rfl (qWq (by show 1<4;decide)) (qWq (by show 3<4;decide)) (qWq (by show 2<4;decide)),0,rfl,by rw[x6q,qRq,qRq,qRq];rfl⟩,Z0q (Z0q (hd_o rfl pn1 (zrq (Ne.symm w3.1) ysq)) (hd_o rfl pn2 (zrq Xg (z8q w3.2.2.1 (z8q Xg quq))))) (hd_o rfl hpe (zrq Xg (z8q w3.2.1 ysq)))⟩) Z ?_);rintro w hp3 nw3 ⟨rfl,rfl,rfl⟩;rw[show renH (numC [0,c',2,4] 5) ((0,119,mW a.ru u a.pool .nils (oW 1 99 (oA o1 (a.drawn.map txW))) (oW 3 34 (oA o2 (a.wait.map pdW))) a.count (oW 4 100 (oA oe [eveW (evN u x)])) a.hub)::((oH 1 72 99 (oA o1 (a.drawn.map txW))++oH 3 148 34 (oA o2 (a.wait.map pdW)))++oH 4 59 100 (oA oe [eveW (evN u x)])))=(0,119,mW a.ru u a.pool .nils (oW c' 99 (oA o1 (a.drawn.map txW))) (oW 4 34 (oA o2 (a.wait.map pdW))) a.count (oW 5 100 (oA oe [eveW (evN u x)])) a.hub)::((oH c' 72 99 (oA o1 (a.drawn.map txW))++oH 4 148 34 (oA o2 (a.wait.map pdW)))++oH 5 59 100 (oA oe [eveW (evN u x)])) from by rw[renH,x6q,qRq,qRq,qRq,yZq,yZq,jRq _ _ _ _ pn1,jRq _ _ _ _ pn2,jRq _ _ _ _ pn3];rfl])
   exact zpq 8 Z (fin (w:=.int .i64 0) Qm (q2q (nw2:=6) (fr2:=[(4,.int .i64 0)]) (hp2:=(0,119,mW a.ru u a.pool .nils (oW c' 99 (oA o1 (a.drawn.map txW))) (oW 4 34 (oA o2 (a.wait.map pdW))) a.count (oW 5 100 (oA oe [eveW (evN u x)])) a.hub)::(oH c' 72 99 (oA o1 (a.drawn.map txW))++(oH 4 148 34 (oA o2 (a.wait.map pdW))++oH 5 59 100 (oA oe [eveW (evN u x)])))) Xg (Nat.le_refl 6) ⟨rfl,trivial⟩ rfl (qtq ⟨⟨by decide,rfl,uYq rfl (qWq Xd) (qWq Xg) (qWq Xg)⟩,kGq (x4q Xd pn1 (y0q (zrq (Ne.symm w3.1) (y0q ysq)))) (kGq (x4q Xg pn2 (y0q (zrq Xg (y0q (z8q w3.2.2.1 quq))))) (x4q Xg pn3 (y0q (zrq Xg (ZUq λp hp=>by rcases List.mem_append.1 hp with hp|hp;(rw[yrq p hp];exact w3.2.2.2.2);rw[yrq p hp];decide)))))⟩) (nd3 w3.1 Xg Xg w3.2.2.1 w3.2.2.2.2 Xg)) rfl ⟨rfl,rfl,c',_,_,_,Ya,by rw[qCq,g1,<-List.map_append,bkX,hdX],by rw[qCq,g2,<-List.map_append,wtX,hdD],by rw[qCq,hoe,hev,List.map_append];rfl,rfl,rfl⟩)
theorem delA_ne{b:Nat}:∀{l:List Nat} {hp:HpW},(∀k∈l,k≠b) ->hget (delA l hp) b=hget hp b
 |[],_,_=>rfl
 |k::l,hp,h=>by
  show hget (delA l (hdel hp k)) b=_;rw[delA_ne λj hj=>h j (List.mem_cons_of_mem _ hj),xrq (h k (List.mem_cons_self ..))]
theorem amO_ren(τ:Nat->Nat)(b c:Nat)(a:Au)(ob oe:Option (List W)):renW τ (amO b c a ob oe)=amO (τ b) (τ c) a ob oe:=by
 show renW τ (mW a.ru a.vw a.pool (.fz (a.drawn.map txW) 99 false) (oW b 99 ob) (.fz (a.wait.map pdW) 34 false) a.count (oW c 100 oe) a.hub)=_;rw[x6q,qRq,qRq,zoq (show purW (.fz (a.drawn.map txW) 99 false)=true from qmq _),zoq (show purW (.fz (a.wait.map pdW) 34 false)=true from zPq q7q _)];rfl
theorem amO_ref{n b c:Nat}{a:Au}{ob oe:Option (List W)}(hb:b<n)(hc:c<n):refB n (amO b c a ob oe)=true:=
 uYq (zfq (show purW (.fz (a.drawn.map txW) 99 false)=true from qmq _)) (qWq hb) (zfq (show purW (.fz (a.wait.map pdW) 34 false)=true from zPq q7q _)) (qWq hc)
theorem hold_tw{A X:HpW}{n b1 b2 e1 e2:Nat}{t1 t2:TypeId}{o1 o2:Option (List W)}(hA:∀p∈A,p.1<n)(hX:∀p∈X,n<=p.1/\p.1≠b1/\p.1≠b2)(h1:n<=b1)(h2:n<=b2):∀k y,hget ((A++oH b1 t1 e1 o1)++oH b2 t2 e2 o2) k=some y->hget (((X++oH b1 t1 e1 o1)++oH b2 t2 e2 o2)++A) k=some y:=λk y h=>by
 rw[jCq,jCq] at h;rw[jCq,jCq,jCq];by_cases q:k<n
 ·have x1:hget X k=none:=yOq λp hp e=>by have:=(hX p hp).1;omega
  have x2:hget (oH b1 t1 e1 o1) k=none:=yOq λp hp e=>by rw[yrq p hp] at e;omega
  have x3:hget (oH b2 t2 e2 o2) k=none:=yOq λp hp e=>by rw[yrq p hp] at e;omega
  rw[x2,x3] at h;rw[x1,x2,x3];cases e:hget A k with
  |none=>rw[e] at h;exact h
  |some z=>rw[e] at h;exact h
 ·have x1:hget A k=none:=yOq λp hp e=>by have:=hA p hp;omega
  rw[x1] at h⊢;by_cases q2:hget X k=none
  ·rw[q2];cases e:((none:Option (TypeId×W)).orElse λ_=>hget (oH b1 t1 e1 o1) k).orElse λ_=>hget (oH b2 t2 e2 o2) k with
   |none=>rw[e] at h;cases h
   |some z=>rw[e] at h;exact h
  ·have x2:hget (oH b1 t1 e1 o1) k=none:=yOq λp hp e=>q2 (yOq λp' hp' e'=>by rw[yrq p hp] at e;exact(hX p' hp').2.1 (e'.trans e.symm))
   have x3:hget (oH b2 t2 e2 o2) k=none:=yOq λp hp e=>q2 (yOq λp' hp' e'=>by rw[yrq p hp] at e;exact(hX p' hp').2.2 (e'.trans e.symm))
   rw[x2,x3] at h;cases h
theorem hold_wk{Q D:HpW}{x8 x3 x2:TypeId×W}(h3:hget D 3=some x3)(h2:hget D 2=some x2)(hQ:∀p∈Q,p.1≠2/\p.1≠3):∀k y,hget ([(3,x3),(2,x2),(8,x8)]++Q) k=some y->hget (((8,x8)::Q)++D) k=some y:=λk y h=>by
 have h:hget ((3,x3)::(2,x2)::(8,x8)::Q) k=some y:=h;rw[zgq,zgq,zgq] at h;by_cases q3:3=k
 ·subst q3;rw[if_pos rfl] at h;rw[jCq,zgq,if_neg Xg,yOq (λp hp=>(hQ p hp).2)];exact h3.trans h
 ·rw[if_neg q3] at h;by_cases q2:2=k
  ·subst q2;rw[if_pos rfl] at h;rw[jCq,zgq,if_neg Xg,yOq (λp hp=>(hQ p hp).1)];exact h2.trans h
  ·rw[if_neg q2] at h;refine xVq ?_;rw[zgq];exact h
theorem keys_lt{A:HpW}{n:Nat}{l:List Nat}(h:A.map (·.1)=l)(hb:∀k∈l,k<n):∀p∈A,p.1<n:=λp hp=>hb _ (h▸List.mem_map.2 ⟨p,hp,rfl⟩)
theorem nd_wk{c e1 e2 e3:Nat}{t1 t2 t3:TypeId}{o1 o2 o3:Option (List W)}{x3 x2 x8:TypeId×W}(hc:c=6\/c=9):(List.map (·.1) ([(3,x3),(2,x2),(8,x8)]++(oH c t1 e1 o1++(oH 10 t2 e2 o2++oH 11 t3 e3 o3)):HpW)).Nodup:=by
 rcases hc with rfl|rfl<;>cases o1<;>cases o2<;>cases o3<;>simp[oH]
set_option maxRecDepth 100000 in
theorem doR_ok(a:Au)(i:Nat)(x:Lk)(ok:OkAu a)(sm:SmAu a)(V:Prop) [Decidable V](hv:PS cfg glT 29 [vwG a.vw] (.int .i64 (if V then 0 else 8)))(hm:AuM V a)(hd:a.vw.down=false)(ht:PS cfg glT 83 [vwG a.vw] (vwG a.vw))(hcan:CanRoll a.vw (i:Int))(hx:a.vw.ch.links[i]? =some x)(hOk:OkC a.vw.ch)(hr:PS cfg glT 99 [vwG a.vw,.int .i64 (i:Int)] (.tup [vwG (jmq a.vw i x),.fz ((ymq a.vw.ch i).map bdW) 2 false,.int .i64 0]))(hs1:a.back.length<=1000)(hs2:a.drawn.length<=1000)(hs3:a.wait.length<=1000)(hs4:a.tells.length<=1000):PS cfg glT 9 [amW a,mvR i] (.tup [amW (rolA a i x),rpE 0,.int .i64 0]):=by
 have hck:=zxq (w':=.int .i64 0) (vgq a ok V hv) Yh;have hpl:0<a.pool.length:=hm.pool.1.1;have hak:=askR_s (G:=glT) a i hpl;have htw:=autwin_o a sm ht;have hwk:=work_ok a i x hcan hx hOk hr hs1 hs2 hs3 hs4;have hmp:purW (mvR i)=true:=mvR_pur i
 have hrl:purW (rlW i)=true:=by
  have q:purW (rlW 0)=true:=by kernel_rfl
  exact q
 have hpd:purW (.fz (a.drawn.map txW) 99 false)=true:=qmq _;have hpw:purW (.fz (a.wait.map pdW) 34 false)=true:=zPq q7q _;have hR:rolA a i x=⟨a.ru,jmq a.vw i x,a.pool,[],bkX a i,wtX a i,a.count,a.tells++[evX a x],a.hub⟩:=rfl;have hdn:∀b c ob oe,zYq 50 (amO b c a ob oe) 39 1 false=some (.bool false):=λb c ob oe=>by show some (W.bool a.vw.down)=_;rw[hd]
 refine gIv 14 Z (λR k0=>gC 0 Z (hck) (gF 0 Z (congrArg not (eqI_iff.2 (rfl))) (gC 8 Z hak (zbq 11 Z ?_))))
 (refine z5q rfl (uHq (jhq Z Z Z Z Z Qa htw ?_));rintro w hp1 nw1 ⟨⟨ob,oe,hob,hoe,rfl,rfl⟩,rfl⟩;have hpb:purL (ob.getD [])=true:=(by rw[hob];exact qmq _);have hpe:purL (oe.getD [])=true:=(by rw[hoe];exact Zlq _);rw[amO_ren,show renH (numC [] 4) ([(1,43,amO 2 3 a ob oe),(0,43,amO 2 3 a ob oe)]++oH 2 72 99 ob++oH 3 59 100 oe)=([(5,43,amO 6 7 a ob oe),(4,43,amO 6 7 a ob oe)]++oH 6 72 99 ob)++oH 7 59 100 oe from by rw[yZq,yZq,jRq _ _ _ _ hpb,jRq _ _ _ _ hpe,renH,renH,renH,amO_ren];rfl,show numC [] 4 2=6 from rfl,show numC [] 4 3=7 from rfl];refine⟨_,hold_tw (n:=4) (keys_lt (l:=[3,2,1,0]) rfl Xg) Xl Xg Xg,vxq (λp hp=>by rcases List.mem_append.1 hp with hp|hp;(have:=keys_lt (n:=4) (l:=[3,2,1,0]) rfl Xg p hp;omega);rw[yrq p hp];decide) (vxq (λp hp=>by have:=keys_lt (n:=4) (l:=[3,2,1,0]) rfl Xg p hp;omega) (show [3,2,1,0].Nodup by decide)),?_⟩)
 refine zpq 11 Z (gF 0 Z (eqI_not.2 Xg) (gM 11 Z (yiq Z Z Z (hdn _ _ _ _)) (gT 8 Z (eqI_iff.2 (rfl)) (zbq 8 Z ?_))))
 (refine z5q rfl (uHq (yNq (ext:=[8,6,7]) (ws:=[.ptr 0 0,rlW i]) (hp0:=(0,119,amO 1 2 a ob oe)::(oH 1 72 99 ob++oH 2 59 100 oe)) Z Z Z Z (by rw[yKq,yKq,zoq hrl];rfl) (hwk ob oe hob hoe) Xg Xp (okp2 hpb hpe|>.nd0 _) (kxq ⟨⟨by decide,amO_ref Xg Xg,8,rfl,by rw[amO_ren];rfl⟩,Z0q (hd_o rfl hpb (zrq Xg (y0q (ZUq (ukq (l:=[3,2,1,0]) rfl Xg))))) (hd_o rfl hpe (zrq Xg (ZUq (λp hp=>by rcases List.mem_append.1 hp with hp|hp;exact ukq (l:=[3,2,1,0]) rfl Xg p hp;rw[yrq p hp];decide))))⟩) (by show(true&&(refB 3 (rlW i)&&true))=true;rw[zfq hrl];rfl) ?_));rintro w hp1 nw1 ⟨rfl,c,o1,o2,o3,hc,r1,r2,r3,rfl,rfl⟩;have q1:purL (o1.getD [])=true:=(by rw[r1];exact qmq _);have q2:purL (o2.getD [])=true:=(by rw[r2];exact zPq q7q _);have q3:purL (o3.getD [])=true:=(by rw[r3];exact Zlq _);obtain⟨cN,hcN,hcE⟩:∃cN,(cN=6\/cN=9)/\numC [8,6,7] 9 c=cN:=(by rcases hc with rfl|rfl;exact⟨6,.inl rfl,rfl⟩;exact⟨9,.inr rfl,rfl⟩);rw[show renH (numC [8,6,7] 9) ((0,119,mW a.ru (jmq a.vw i x) a.pool .nils (oW c 99 o1) (oW 4 34 o2) a.count (oW 5 100 o3) a.hub)::(oH c 72 99 o1++(oH 4 148 34 o2++oH 5 59 100 o3)))=(8,119,mW a.ru (jmq a.vw i x) a.pool .nils (oW cN 99 o1) (oW 10 34 o2) a.count (oW 11 100 o3) a.hub)::(oH cN 72 99 o1++(oH 10 148 34 o2++oH 11 59 100 o3)) from by rw[renH,x6q,qRq,qRq,qRq,yZq,yZq,jRq _ _ _ _ q1,jRq _ _ _ _ q2,jRq _ _ _ _ q3,hcE];rfl];refine⟨_,hold_wk ((delA_ne Xg).trans rfl) ((delA_ne Xg).trans rfl) (λp hp=>?_),nd_wk hcN,?_⟩; · (rcases List.mem_append.1 hp with hp|hp;(rw[yrq p hp];omega);rcases List.mem_append.1 hp with hp|hp;(rw[yrq p hp];decide);(rw[yrq p hp];decide)))
 refine zpq 18 Z ?_;refine k0q Qm rfl (.tup (.cons ?_ (.cons (.pur (rpE_pur 0)) (.cons (.pur rfl) .nil))));refine .agg (.cons (.pur (ruG_pur _)) (.cons (.pur (yjq _)) (.cons (.pur (jAq _)) (.cons .nilfz (.cons ?_ (.cons ?_ (.cons (.pur rfl) (.cons ?_ (.cons (.pur (hbW_pur _)) .nil)))))))))
 ·show View _ (oW cN 99 o1) (.fz ((bkX a i).map txW) 99 false);rw[<-r1];exact view_o Xg q1 (zrq Xd (zrq Xd (zrq Xd ysq)))
 ·show View _ (oW 10 34 o2) (.fz ((wtX a i).map pdW) 34 false);rw[<-r2];exact view_o Xg q2 (zrq Xd (zrq Xd (zrq Xd (z8q Xd ysq))))
 ·show View _ (oW 11 100 o3) (.fz ((a.tells++[evX a x]).map eveW) 100 false);rw[<-r3];exact view_o Xg q3 (zrq Xd (zrq Xd (zrq Xd (z8q Xd (z8q Xd quq)))))
end
section
theorem pe_seen{C:Cfg}{G:Nat->Option W}{f:FuncId}{ws:List W}{A:W->Prop}{w0:W}(h:PE C G f ws A)(hi:∀w,purW w=true->A w->View (λ_=>none) w w0):PS C G f ws w0:=λR Γ X vs h1 s hv=>by
 obtain⟨n,v,Γ',X',w',hp',R',g1,g2,g3,g4,g5,g6,g7⟩:=h R Γ X vs h1 s hv;exact⟨n,v,Γ',X',w0,hp',R',g1,g2,g3,jMq ⟨λ_ h _=>h,λ_ _ _=>rfl,λ_ h=>h,λ_ _=>rfl,λ_ _ _ h=>Qd⟩ (hi w' g6 g7) g4,g5,rfl⟩
attribute [local irreducible] CoW OpW FlW Step Spec
attribute [local simp] rpE_pur
noncomputable def nvR:Vw:=⟨0,false,0,⟨⟨[],0⟩,[]⟩⟩
theorem vroll_ref(v:Vw)(hc:OkC v.ch)(hs:SmallC v.ch)(hm:MayV v)(hn:v.number<=536870912)(h:Int)(hI:¬InV v h):PS cfg glT 99 [vwG v,.int .i64 h] (.tup [vwG nvR,.fz [] 2 false,.int .i64 170]):=by
 refine pe_seen (QZq x7q (vroll_s v h hc hs)) ?_;rintro w hp (⟨hca,_⟩|⟨hno,rfl⟩)
 ·exact absurd hca.is hI
 ·have e:ZDq v h=170:=by unfold ZDq;rw[if_neg (λq=>q hm),if_neg Xd]
  rw[e];exact .tup (.cons (.agg (.cons (.pur rfl) (.cons (.pur rfl) (.cons (.pur rfl) (.cons (.agg (.cons (.agg (.cons .nilfz (.cons (.pur rfl) .nil))) (.cons .nilfz .nil))) .nil))))) (.cons .nilfz (.cons (.pur rfl) .nil)))
theorem vroll_yes(v:Vw)(hc:OkC v.ch)(hs:SmallC v.ch){i:Nat}{x:Lk}(hca:CanRoll v (i:Int))(hx:v.ch.links[i]? =some x):PS cfg glT 99 [vwG v,.int .i64 (i:Int)] (.tup [vwG (jmq v i x),.fz ((ymq v.ch i).map bdW) 2 false,.int .i64 0]):=by
 refine pe_seen (QZq x7q (vroll_s v i hc hs)) ?_;rintro w hp (⟨_,j,y,hj,hy,rfl⟩|⟨hno,rfl⟩)
 ·obtain rfl:i=j:=by omega
  obtain rfl:=Option.some.inj (hx.symm.trans hy);exact .pur hp
 ·exact absurd hca hno
theorem few_small{a:Au}(h:Few25 a):SmallC a.vw.ch/\∀x∈a.vw.ch.tree.nodes,x.val.length<=1000000000:=by
 obtain⟨h1,h2,h3⟩:=greatc_no h.ch
 have hv:∀x∈a.vw.ch.tree.nodes,x.val.length<=100:=λx hx=>by
  obtain⟨j,hj⟩:=List.getElem?_of_mem hx;have:=qZq hj;exact Nat.le_of_not_lt λq=>h.ch (.inl (.inr ⟨j,x,by omega,hj,q⟩))
 refine⟨⟨by omega,λx hx=>by have:=hv x hx;omega,by omega,λx hx=>?_⟩,λx hx=>by have:=hv x hx;omega⟩;obtain⟨k1,k2⟩:=h3 x hx;unfold yyq at k1;omega
theorem rol_at{a:Au}{i k:Nat}{x y:Lk}(hk:k<=i)(hy:a.vw.ch.links[k]? =some y):(rolA a i x).vw.ch.links[k]? =some y:=by
 show(a.vw.ch.links.take (i+1))[k]? =some y;rw[List.getElem?_take,if_pos Xd];exact hy
theorem sameK_self(y:Lk):SameK y y:=⟨rfl,⟨rfl,rfl⟩,rfl⟩
theorem rol_back{a:Au}{i k:Nat}{x y:Lk}(hk:i<k)(hy:a.vw.ch.links[k]? =some y):(∀t∈y.xs,t∈(rolA a i x).back)/\∀d∈y.ds,d∈(rolA a i x).wait:=by
 have hb:=body_mem hk hy;refine⟨λt ht=>?_,λd hd=>?_⟩
 ·exact List.mem_append_left _ (List.mem_append_right _ (List.mem_flatMap.2 ⟨_,hb,ht⟩))
 ·exact List.mem_append_left _ (List.mem_flatMap.2 ⟨_,hb,hd⟩)
set_option maxRecDepth 100000 in
theorem rolls25_s(a:Au)(hf:Fit25 a)(h:Int):PS cfg glT 5 [amW a,.int .i64 h] (.bool true):=by
 have e5:(a.vw.ch.links.map lkG).length=a.vw.ch.links.length:=List.length_map _;have e6:(a.tells.map eveW).length=a.tells.length:=List.length_map _;have hlk:=hf.ch.len;refine gI 8 Z (λR k0=>gC 0 Z alive25_s (zbq 7 Z ?_));skip
 refine gSo 0 Z (Zwq Z Z Z Z Z (great25_s a hf) Qa ?_);rintro w hw ⟨g,rfl,hg⟩;skip
 skip
 cases g with
 |true=>
  skip
  exact zpq 31 Z (gQa 0 Z)
 |false=>
  skip
  have fw:=hg rfl;have ok:=few_ok hf fw;have sm:=few_sm fw;have hv:=ps_gl x7q (uDq a.vw hf.ch);have hck:=vgq a ok (MayV a.vw) hv;obtain⟨sc,sv⟩:=few_small fw;have f1:=fw.drawn;have f2:=fw.back;have f3:=fw.wait;have f4:=fw.tells;skip
  by_cases hm:AuM (MayV a.vw) a
  ·have hone:=hm.vw.1.one;have htn:PS cfg glT 83 [vwG a.vw] (vwG a.vw):=ps_gl x7q (vtwin_s a.vw sc (λq=>by rw[q] at hone;cases hone));have hck0:=zxq (w':=.int .i64 0) hck Yh;cases hd:a.vw.down with
   |true=>
    have hdn:zYq 50 (amW a) 39 1 false=some (.bool true):=by show some (W.bool a.vw.down)=_;rw[hd]
    exact zpq 2 Z (gC 0 Z (hck0) (gF 0 Z (congrArg not (eqI_iff.2 (rfl))) (gM 4 Z (yiq Z Z Z hdn) (gQa 22 Z))))
   |false=>
    have hdn:zYq 50 (amW a) 39 1 false=some (.bool false):=by show some (W.bool a.vw.down)=_;rw[hd]
    by_cases hn:a.vw.number<=536870912
    ·have hcap:=hm.vw.1.len;skip
     by_cases hI:InV a.vw h
     ·obtain⟨i,rfl⟩:∃i:Nat,h=(i:Int):=⟨h.toNat,by have:=hI.1;have:=hm.vw.2.1;omega⟩
      have hi:i<a.vw.ch.links.length:=by have:=hI.2;omega
      obtain⟨x,hx⟩:∃x,a.vw.ch.links[i]? =some x:=⟨_,List.getElem?_eq_getElem hi⟩
      have hca:CanRoll a.vw (i:Int):=⟨hm.vw,by omega,hI⟩;have hdo:=doR_ok a i x ok sm (MayV a.vw) hv hm hd htn hca hx hf.ch (vroll_yes a.vw hf.ch sc hca hx) Xd Xd Xd Xd;have hok2:=rol_ok (i:=i) (x:=x) hf fw hm.vw.1;have hmm:=rol_may hm hca hx hn;have hck2:=zxq (w':=.int .i64 0) (vgq (rolA a i x) hok2 (MayV (rolA a i x).vw) (ps_gl x7q (uDq (rolA a i x).vw (cutx_ok hf.ch)))) (by rw[if_pos hmm]);have hI1:=hI.1;have e7:((rolA a i x).vw.ch.links.map lkG).length=i+1:=by rw[List.length_map];show(a.vw.ch.links.take (i+1)).length=_;rw[List.length_take];omega
      have e8:((rolA a i x).tells.map eveW).length=a.tells.length+1:=by rw[List.length_map];show(a.tells++[evX a x]).length=_;rw[List.length_append];rfl
      have hbl:(rolA a i x).back.length<=1000000000:=hok2.backl
      have hwl:(rolA a i x).wait.length<=1000000000:=by
       have:=dropD_len (i:=i) hm.vw.1;show(dropD a i++a.wait).length<=_;rw[List.length_append];omega
      obtain⟨z,hz⟩:∃z,rolA a i x=z:=⟨_,rfl⟩
      have hzf:z.vw.final=a.vw.final:=by rw[<-hz];rfl
      have hzd0:(z.drawn.map txW).length=0:=by rw[<-hz];rfl
      have hzn:z.vw.number=a.vw.number+1:=by rw[<-hz];rfl
      have hzt:z.tells[a.tells.length]? =some (evX a x):=by
       rw[<-hz];show(a.tells++[evX a x])[a.tells.length]? =_;rw[List.getElem?_append_right (Nat.le_refl _),Nat.sub_self];rfl
      have hza:∀k y,k<=i->a.vw.ch.links[k]? =some y->z.vw.ch.links[k]? =some y:=λk y hk hy=>hz▸rol_at hk hy
      have hzb:∀k y,i<k->a.vw.ch.links[k]? =some y->(∀t∈y.xs,t∈z.back)/\∀d∈y.ds,d∈z.wait:=λk y hk hy=>hz▸rol_back hk hy
      have hzw:∀t∈a.drawn,t∈z.back:=λt ht=>hz▸List.mem_append_right _ ht
      rw[hz] at hdo hck2 e7 e8 hbl hwl;refine zpq 2 Z (gC 0 Z (hck0) (gF 0 Z (congrArg not (eqI_iff.2 (rfl))) (gM 4 Z (yiq Z Z Z hdn) (gF 5 Z (ltI_not.2 Xd) (gC 16 Z (hdo) (gZ 17 Z e5 (gA 0 Z (a.vw.ch.links.length-1) (gF 10 Z (ltI_not.2 Xd) (gF 3 Z (ltI_not.2 Xd) (gF 10 Z (congrArg not (eqI_iff.2 (rfl))) (gF 3 Z (congrArg not (eqI_iff.2 (rfl))) (gZ 6 Z e7 (gA 1 Z (i+1) (gF 0 Z (congrArg not (eqI_iff.2 (rfl))) (gF 8 Z (congrArg not (eqI_iff.2 (hzf))) (gZ 4 Z hzd0 (gF 0 Z (ltI_not.2 Xd) (gC 3 Z (hck2) (gF 0 Z (congrArg not (eqI_iff.2 (rfl))) ?_)))))))))))))))))));refine gLo (α:=Nat) 13 (λk=>k<=a.vw.ch.links.length) (λk=>[(10,.int .i64 (k:Int))]) [1,2,4,5,6,9] (λk=>a.vw.ch.links.length-k) (0) rfl (Nat.zero_le _) (λk hI=>?_);refine gS 8 Z (λh1=>?_) (λh1=>?_)
      ·have hk:k<a.vw.ch.links.length:=by omega
       obtain⟨y,hy⟩:∃y,a.vw.ch.links[k]? =some y:=⟨_,List.getElem?_eq_getElem hk⟩
       have hys:=sc.link y (List.mem_of_getElem? hy);skip
       by_cases hki:k<=i
       ·have hzy:=hza k y hki hy;exact gT 8 Z (congrArg not (ltI_not.2 Xd)) (gP 6 Z (zGq (i:=k) Z Z Z Z Z Z Z (znq lkG hy)) (gP 6 Z (zGq (i:=k) Z Z Z Z Z Z Z (znq lkG hzy)) (gC 1 Z (zxq (w':=.bool true) (rslink_s y y hys) (by rw[decide_eq_true (sameK_self y)])) (gF 5 Z (ltI_not.2 Xd) (gA 22 Z (k+1) (gAg 2 Z (k+1) (hk) Xd))))))
       ·obtain⟨b1,b2⟩:=hzb k y Xd hy;exact gF 8 Z (congrArg not (ltI_iff.2 Xd)) (gT 21 Z (ltI_iff.2 Xd) (gP 6 Z (zGq (i:=k) Z Z Z Z Z Z Z (znq lkG hy)) (gC 3 Z (goes_s y.ds y.xs z Xd Xd hbl hwl b1 b2) (gA 11 Z (k+1) (gAg 2 Z (k+1) (hk) Xd)))))
      ·have hx2:=hza i x (Nat.le_refl _) hx;have hgo:PS cfg glT 16 [.agg 2 [.nils,.fz (a.drawn.map txW) 99 false],amW z] (.bool true):=pspec_view (.cons (.agg (.cons .nilfz (.cons (.pur (qmq _)) .nil))) (.cons (.pur (vKq z)) .nil)) (goes_s [] a.drawn z (Nat.zero_le _) Xd hbl hwl hzw (λd h=>by cases h));exact gO 2 Z (gZ 7 Z e8 (gZ 2 Z e6 (gA 0 Z (a.tells.length+1) (gF 0 Z (congrArg not (eqI_iff.2 (rfl))) (gZ 11 Z e6 (gP 0 Z (zGq (i:=a.tells.length) Z Z Z Z Z Z Z (znq eveW hzt)) (gC 13 Z hgo (gP 13 Z (zGq (i:=i) Z Z Z Z Z Z Z (znq lkG hx2)) (zbq 2 Z (xxq (w':=.bool true) rfl (yCq Z Z Z Z (eq_hd x.hdr x.hdr)) (by rw[decide_eq_true rfl]) (qiq 7 Z (gT 0 Z (eqI_iff.2 (hzn.symm)) (gQa 5 Z)))))))))))))
     ·have hdo:=doR_no a ok sm (MayV a.vw) hv hm hd htn h 170 Xg nvR (vroll_ref a.vw hf.ch sc hm.vw hn h hI);have hsa:=autsame_s a sm sc sv;by_cases hlo:h<a.vw.final
      ·skip
       exact zpq 2 Z (gC 0 Z (hck0) (gF 0 Z (congrArg not (eqI_iff.2 (rfl))) (gM 4 Z (yiq Z Z Z hdn) (gF 5 Z (ltI_not.2 Xd) (gC 16 Z (hdo) (gZ 17 Z e5 (gA 0 Z (a.vw.ch.links.length-1) (gT 10 Z (ltI_iff.2 (hlo)) (gT 13 Z (eqI_iff.2 (rfl)) (gT 4 Z (eqI_iff.2 (rfl)) (gC 4 Z hsa (gQa 6 Z))))))))))))
      ·skip
       exact zpq 2 Z (gC 0 Z (hck0) (gF 0 Z (congrArg not (eqI_iff.2 (rfl))) (gM 4 Z (yiq Z Z Z hdn) (gF 5 Z (ltI_not.2 Xd) (gC 16 Z (hdo) (gZ 17 Z e5 (gA 0 Z (a.vw.ch.links.length-1) (gF 10 Z (ltI_not.2 (hlo)) (gT 3 Z (ltI_iff.2 ((by have:¬(h<(a.vw.ch.links.length:Int)):=(λq=>hI ⟨by omega,q⟩);omega))) (gT 9 Z (eqI_iff.2 (rfl)) (gT 4 Z (eqI_iff.2 (rfl)) (gC 4 Z hsa (gQa 6 Z)))))))))))))
    ·skip
     exact zpq 2 Z (gC 0 Z (hck0) (gF 0 Z (congrArg not (eqI_iff.2 (rfl))) (gM 4 Z (yiq Z Z Z hdn) (gT 5 Z (ltI_iff.2 Xd) (gQa 16 Z)))))
  ·skip
   exact zpq 2 Z (gC 0 Z (zxq (w':=.int .i64 8) hck (by rw[if_neg hm])) (gT 0 Z (congrArg not (eqI_not.2 Xg)) (gQa 27 Z)))
end
section
theorem p32:(4294967296:Nat)=2^32:=by decide
theorem rot_eq{x n:Nat}(hx:x<4294967296)(hn:n<=32):rotN x n=Nat.mod (Nat.shiftRight (Nat.mul x 4294967297) n) 4294967296:=by
 show((x<<<(32-n))%4294967296%4294967296)|||((x>>>n)%4294967296)=((x*4294967297)>>>n)%4294967296
 have e:x*4294967297=x<<<32|||x:=by
  rw[<-Nat.shiftLeft_add_eq_or_of_lt (by rw[<-p32];exact hx),Nat.shiftLeft_eq];omega
 rw[e,Nat.mod_mod,p32];rw[p32] at hx;apply Nat.eq_of_testBit_eq;intro i;simp only[Nat.testBit_or,Nat.testBit_mod_two_pow,Nat.testBit_shiftLeft,Nat.testBit_shiftRight];by_cases h1:i<32
 ·by_cases h2:32-n<=i
  ·have h3:32<=n+i:=by omega
   have h4:i-(32-n)=n+i-32:=by omega
   simp[h1,h2,h3,h4]
  ·have h3:¬32<=n+i:=by omega
   simp[h1,h2,h3]
 ·simp[h1]
theorem xor_eq(a b:Nat):xorN a b=Nat.mod (Nat.xor a b) 4294967296:=by
 show(a%4294967296)^^^(b%4294967296)=(a^^^b)%4294967296;rw[p32,Nat.xor_mod_two_pow]
theorem Quq{a b:Nat}(ha:a<4294967296)(hb:b<4294967296):xorN a b=Nat.xor a b:=by
 show(a%4294967296)^^^(b%4294967296)=a^^^b;rw[Nat.mod_eq_of_lt ha,Nat.mod_eq_of_lt hb]
theorem and_eq{a b:Nat}(ha:a<4294967296)(hb:b<4294967296):andN a b=Nat.land a b:=by
 show(a%4294967296)&&&(b%4294967296)=a&&&b;rw[Nat.mod_eq_of_lt ha,Nat.mod_eq_of_lt hb]
theorem Yxq{a b:Nat}(hb:b<4294967296):Nat.land a b<4294967296:=Nat.lt_of_le_of_lt (Nat.and_le_right (n:=a) (m:=b)) hb
theorem xor_lt{a b:Nat}(ha:a<4294967296)(hb:b<4294967296):Nat.xor a b<4294967296:=by
 rw[p32] at*;exact Nat.xor_lt_two_pow ha hb
theorem not_lt(e:Nat):notN e<4294967296:=by
 unfold notN;exact xor_lt Xd (Nat.mod_lt _ Xg)
noncomputable def sgF(y i j k:Nat):Nat:=Nat.mod (Nat.xor (Nat.xor (Nat.shiftRight y i) (Nat.shiftRight y j)) (Nat.shiftRight y k)) 4294967296
theorem sg_eq{x i j k:Nat}(hx:x<4294967296)(hi:i<=32)(hj:j<=32)(hk:k<=32):xorN (xorN (rotN x i) (rotN x j)) (rotN x k)=sgF (Nat.mul x 4294967297) i j k:=by
 rw[rot_eq hx hi,rot_eq hx hj,rot_eq hx hk];unfold sgF;generalize Nat.shiftRight (Nat.mul x 4294967297) i=A;generalize Nat.shiftRight (Nat.mul x 4294967297) j=B;generalize Nat.shiftRight (Nat.mul x 4294967297) k=D;show((A%4294967296%4294967296^^^B%4294967296%4294967296)%4294967296)^^^(D%4294967296%4294967296)=(A^^^B^^^D)%4294967296;simp only[Nat.mod_mod,p32,<-Nat.xor_mod_two_pow]
noncomputable def ch3(e f g:Nat):Nat:=Nat.xor g (Nat.land e (Nat.xor f g))
theorem ch_eq{e f g:Nat}(he:e<4294967296)(hf:f<4294967296)(hg:g<4294967296):xorN (andN e f) (andN (notN e) g)=ch3 e f g:=by
 rw[and_eq he hf,and_eq (not_lt e) hg,Quq (Yxq hf) (Yxq hg)]
 have e1:notN e=2^32-1^^^e:=by
  show(4294967295%4294967296)^^^(e%4294967296)=_;rw[Nat.mod_eq_of_lt he]
 show(e&&&f)^^^(notN e&&&g)=g^^^(e&&&(f^^^g));rw[e1];rw[p32] at he hf hg;apply Nat.eq_of_testBit_eq;intro i;simp only[Nat.testBit_xor,Nat.testBit_and,Nat.testBit_two_pow_sub_one];by_cases h:i<32
 ·simp only[h,decide_true];cases e.testBit i<;>cases f.testBit i<;>cases g.testBit i<;>rfl
 ·have hp:2^32<=2^i:=Nat.pow_le_pow_right Xg Xd;rw[Nat.testBit_lt_two_pow (Nat.lt_of_lt_of_le he hp),Nat.testBit_lt_two_pow (Nat.lt_of_lt_of_le hf hp),Nat.testBit_lt_two_pow (Nat.lt_of_lt_of_le hg hp)];simp
noncomputable def ma3(a b c:Nat):Nat:=Nat.xor (Nat.land a (Nat.xor b c)) (Nat.land b c)
theorem ma_eq{a b c:Nat}(ha:a<4294967296)(hb:b<4294967296)(hc:c<4294967296):xorN (xorN (andN a b) (andN a c)) (andN b c)=ma3 a b c:=by
 rw[and_eq ha hb,and_eq ha hc,and_eq hb hc,Quq (Yxq hb) (Yxq hc),Quq (xor_lt (Yxq hb) (Yxq hc)) (Yxq hc)];show((a&&&b)^^^(a&&&c))^^^(b&&&c)=(a&&&(b^^^c))^^^(b&&&c);apply Nat.eq_of_testBit_eq;intro i;simp only[Nat.testBit_xor,Nat.testBit_and];cases a.testBit i<;>cases b.testBit i<;>cases c.testBit i<;>rfl
noncomputable def s3F(y x i j k:Nat):Nat:=Nat.xor (Nat.mod (Nat.xor (Nat.shiftRight y i) (Nat.shiftRight y j)) 4294967296) (Nat.shiftRight x k)
theorem s3_eq{x i j k:Nat}(hx:x<4294967296)(hi:i<=32)(hj:j<=32)(hk:k<=32):xorN (xorN (rotN x i) (rotN x j)) (shrN x k)=s3F (Nat.mul x 4294967297) x i j k:=by
 rw[rot_eq hx hi,rot_eq hx hj,xor_eq (Nat.mod _ _)]
 have h1:shrN x k=Nat.shiftRight x k:=by
  show x>>>(min k 32)=x>>>k;rw[Nat.min_eq_left hk]
 have h2:Nat.shiftRight x k<4294967296:=Nat.lt_of_le_of_lt (by show x>>>k<=x;rw[Nat.shiftRight_eq_div_pow];exact Nat.div_le_self _ _) hx
 have e1:∀A B:Nat,Nat.mod (Nat.xor (Nat.mod A 4294967296) (Nat.mod B 4294967296)) 4294967296=Nat.mod (Nat.xor A B) 4294967296:=λA B=>by
  show((A%4294967296)^^^(B%4294967296))%4294967296=(A^^^B)%4294967296;rw[p32,<-Nat.xor_mod_two_pow,Nat.mod_mod]
 rw[e1,h1];exact Quq (Nat.mod_lt _ Xg) h2
noncomputable def fz{α:Type}(n:Nat)(c:Nat->α):α:=Nat.rec (c 0) (λm _=>c (Nat.succ m)) n
theorem fz_eq{α:Type}(n:Nat)(c:Nat->α):fz n c=c n:=by cases n<;>rfl
noncomputable def oneF(h e f g k w:Nat):Nat:=Nat.add (Nat.add (Nat.add (Nat.add h (sgF (Nat.mul e 4294967297) 6 11 25)) (ch3 e f g)) k) w
noncomputable def naF(one a b c:Nat):Nat:=Nat.mod (Nat.add (Nat.add one (sgF (Nat.mul a 4294967297) 2 13 22)) (ma3 a b c)) 4294967296
noncomputable def neF(d one:Nat):Nat:=Nat.mod (Nat.add d one) 4294967296
noncomputable def nwF(w0 w1 w9 w14:Nat):Nat:=Nat.mod (Nat.add (Nat.add (Nat.add w0 (s3F (Nat.mul w1 4294967297) w1 7 18 3)) w9) (s3F (Nat.mul w14 4294967297) w14 17 19 10)) 4294967296
structure S8.Ok(s:S8):Prop where
 a:s.a<4294967296
 b:s.b<4294967296
 c:s.c<4294967296
 d:s.d<4294967296
 e:s.e<4294967296
 f:s.f<4294967296
 g:s.g<4294967296
 h:s.h<4294967296
theorem xEq(a b:Nat):addN a b<4294967296:=Nat.mod_lt _ Xg
theorem rnd_ok{s:S8}(h:s.Ok)(k w:Nat):(roundN k w s).Ok:=⟨xEq _ _,h.a,h.b,h.c,xEq _ _,h.e,h.f,h.g⟩
theorem round_eq{s:S8}(h:s.Ok)(k w:Nat):roundN k w s=⟨naF (oneF s.h s.e s.f s.g k w) s.a s.b s.c,s.a,s.b,s.c,neF s.d (oneF s.h s.e s.f s.g k w),s.e,s.f,s.g⟩:=by
 have e1:addN (addN (addN (addN s.h (xorN (xorN (rotN s.e 6) (rotN s.e 11)) (rotN s.e 25))) (xorN (andN s.e s.f) (andN (notN s.e) s.g))) k) w=oneF s.h s.e s.f s.g k w%4294967296:=by
  rw[sg_eq h.e Xg Xg Xg,ch_eq h.e h.f h.g];unfold oneF;generalize sgF _ _ _ _=A;generalize ch3 _ _ _=B;show((((s.h+A)%4294967296+B)%4294967296+k)%4294967296+w)%4294967296=(s.h+A+B+k+w)%4294967296;omega
 unfold roundN;simp only[e1];rw[sg_eq h.a Xg Xg Xg,ma_eq h.a h.b h.c];generalize oneF _ _ _ _ _ _=O;unfold naF neF;generalize sgF _ _ _ _=A;generalize ma3 _ _ _=B
 have q1:addN (O%4294967296) (addN A B)=Nat.mod (Nat.add (Nat.add O A) B) 4294967296:=by
  show(O%4294967296+(A+B)%4294967296)%4294967296=(O+A+B)%4294967296;omega
 have q2:addN s.d (O%4294967296)=Nat.mod (Nat.add s.d O) 4294967296:=by
  show(s.d+O%4294967296)%4294967296=(s.d+O)%4294967296;omega
 rw[q1,q2]
noncomputable def goF(ks:List Nat):Nat->Nat->Nat->Nat->Nat->Nat->Nat->Nat->Nat->Nat->Nat->Nat->Nat->Nat->Nat->Nat->Nat->Nat->Nat->Nat->Nat->Nat->Nat->Nat->S8:=
 List.rec (λa b c d e f g h _ _ _ _ _ _ _ _ _ _ _ _ _ _ _ _=>⟨a,b,c,d,e,f,g,h⟩)
  (λk _ ih a b c d e f g h w0 w1 w2 w3 w4 w5 w6 w7 w8 w9 w10 w11 w12 w13 w14 w15=>
   fz (oneF h e f g k w0) λone=>fz (naF one a b c) λna=>fz (neF d one) λne=>fz (nwF w0 w1 w9 w14) λnw=>
    ih na a b c ne e f g w1 w2 w3 w4 w5 w6 w7 w8 w9 w10 w11 w12 w13 w14 w15 nw) ks
theorem goF_cons(k:Nat)(ks:List Nat)(a b c d e f g h w0 w1 w2 w3 w4 w5 w6 w7 w8 w9 w10 w11 w12 w13 w14 w15:Nat):
  goF (k::ks) a b c d e f g h w0 w1 w2 w3 w4 w5 w6 w7 w8 w9 w10 w11 w12 w13 w14 w15=
   goF ks (naF (oneF h e f g k w0) a b c) a b c (neF d (oneF h e f g k w0)) e f g w1 w2 w3 w4 w5 w6 w7 w8 w9 w10 w11 w12 w13 w14 w15 (nwF w0 w1 w9 w14):=by
 unfold goF;simp only[fz_eq]
noncomputable def wS(bs:Nat->Nat)(i:Nat):Nat:=(yzq bs (i+1)).getD i 0
theorem Qwq(bs:Nat->Nat)(i:Nat):wS bs i=YGq bs (yzq bs i):=by
 unfold wS;rw[yzq,List.getD_eq_getElem?_getD,List.getElem?_append_right (by rw[qpq];exact Nat.le_refl _),qpq,Nat.sub_self];rfl
theorem xNq(bs:Nat->Nat):∀(t i:Nat),i<t->(yzq bs t).getD i 0=wS bs i
 |0,_,h=>by omega
 |t+1,i,h=>by
  rw[yzq,List.getD_eq_getElem?_getD];by_cases e:i<t
  ·rw[List.getElem?_append_left (by rw[qpq];exact e),<-List.getD_eq_getElem?_getD];exact xNq bs t i e
  ·obtain rfl:i=t:=by omega
   rw[List.getElem?_append_right (by rw[qpq];exact Nat.le_refl _),qpq,Nat.sub_self,Qwq];rfl
theorem wS_lt(bs:Nat->Nat)(i:Nat)(hb:∀i,bs i<256):wS bs i<4294967296:=by
 rw[Qwq];unfold YGq;split
 ·unfold wordN orN;have m:∀a,a%4294967296<4294967296:=λa=>Nat.mod_lt _ Xg
  rw[p32] at*
  exact Nat.or_lt_two_pow (m _) (m _)
 ·exact xEq _ _
theorem nw_sum(X A Y B:Nat):addN (addN (addN X A) Y) B=Nat.mod (Nat.add (Nat.add (Nat.add X A) Y) B) 4294967296:=by
 show(((X+A)%4294967296+Y)%4294967296+B)%4294967296=(X+A+Y+B)%4294967296;omega
section
attribute [local irreducible] wS
theorem wS_late (bs : Nat -> Nat) (hb : ∀ i, bs i < 256) (t : Nat) : wS bs (t + 16) = nwF (wS bs t) (wS bs (t + 1)) (wS bs (t + 9)) (wS bs (t + 14)) := by
  rw [Qwq]
  unfold YGq
  have h1 : Nat.blt (yzq bs (t + 16)).length 16 = false := by
    rw [qpq]
    cases hq : Nat.blt (t + 16) 16 with
    | true => have : t + 16 < 16 := by simpa [Nat.blt_eq] using hq
              omega
    | false => rfl
  rw [h1]
  simp only [qpq]
  rw [show t + 16 - 16 = t by omega, show t + 16 - 15 = t + 1 by omega, show t + 16 - 7 = t + 9 by omega, show t + 16 - 2 = t + 14 by omega]
  rw [xNq bs _ t Xd, xNq bs _ (t + 1) Xd, xNq bs _ (t + 9) Xd, xNq bs _ (t + 14) Xd]
  rw [s3_eq (wS_lt bs _ hb) Xg Xg Xg, s3_eq (wS_lt bs _ hb) Xg Xg Xg]
  exact nw_sum _ _ _ _
end
theorem rounds_ok{s:S8}(h:s.Ok)(ws:List Nat):∀t,(kbq ws s t).Ok
 |0=>h
 |t+1=>rnd_ok (rounds_ok h ws t) _ _
theorem go_eq(bs:Nat->Nat)(hb:∀i,bs i<256){s:S8}(h:s.Ok):∀(n t:Nat),t+n=64->∀v,kbq (yzq bs 64) s t=v->
  goF (kW.drop t) v.a v.b v.c v.d v.e v.f v.g v.h (wS bs t) (wS bs (t+1)) (wS bs (t+2)) (wS bs (t+3)) (wS bs (t+4)) (wS bs (t+5)) (wS bs (t+6)) (wS bs (t+7)) (wS bs (t+8)) (wS bs (t+9)) (wS bs (t+10)) (wS bs (t+11)) (wS bs (t+12)) (wS bs (t+13)) (wS bs (t+14)) (wS bs (t+15))=kbq (yzq bs 64) s 64
 |0,t,ht,v,hv=>by
  obtain rfl:t=64:=by omega
  rw[hv,show kW.drop 64=[] from rfl];cases v;rfl
 |n+1,t,ht,v,hv=>by
  have hlt:t<kW.length:=by show t<64;omega
  have ok:v.Ok:=hv▸rounds_ok h _ t
  rw[List.drop_eq_getElem_cons hlt,goF_cons]
  have hn:kbq (yzq bs 64) s (t+1)=⟨naF (oneF v.h v.e v.f v.g kW[t] (wS bs t)) v.a v.b v.c,v.a,v.b,v.c,neF v.d (oneF v.h v.e v.f v.g kW[t] (wS bs t)),v.e,v.f,v.g⟩:=by
   rw[kbq,hv,xNq bs 64 t Xd,round_eq ok,List.getD_eq_getElem?_getD,List.getElem?_eq_getElem hlt];rfl
  have:=go_eq bs hb h n (t+1) Xd _ hn;rw[<-this,wS_late bs hb]
noncomputable def hdF(l:List Nat):Nat:=List.rec 0 (λb _ _=>b) l
noncomputable def tlF(l:List Nat):List Nat:=List.rec [] (λ_ l _=>l) l
noncomputable def w4F{α:Type}(l:List Nat)(c:Nat->List Nat->α):α:=
 fz (Nat.lor (Nat.lor (Nat.lor (Nat.shiftLeft (hdF l) 24) (Nat.shiftLeft (hdF (tlF l)) 16)) (Nat.shiftLeft (hdF (tlF (tlF l))) 8)) (hdF (tlF (tlF (tlF l))))) λw=>c w (tlF (tlF (tlF (tlF l))))
noncomputable def opS{α:Type}(s:S8)(k:Nat->Nat->Nat->Nat->Nat->Nat->Nat->Nat->α):α:=S8.rec k s
theorem opS_eq{α:Type}(s:S8)(k:Nat->Nat->Nat->Nat->Nat->Nat->Nat->Nat->α):opS s k=k s.a s.b s.c s.d s.e s.f s.g s.h:=rfl
noncomputable def uaq{α:Type}(s:S8)(l:List Nat)(k:S8->List Nat->α):α:=
 w4F l λw0 l=>w4F l λw1 l=>w4F l λw2 l=>w4F l λw3 l=>w4F l λw4 l=>w4F l λw5 l=>w4F l λw6 l=>w4F l λw7 l=>
 w4F l λw8 l=>w4F l λw9 l=>w4F l λw10 l=>w4F l λw11 l=>w4F l λw12 l=>w4F l λw13 l=>w4F l λw14 l=>w4F l λw15 l=>
 opS s λa b c d e f g h=>opS (goF kW a b c d e f g h w0 w1 w2 w3 w4 w5 w6 w7 w8 w9 w10 w11 w12 w13 w14 w15) λa' b' c' d' e' f' g' h'=>
  k ⟨Nat.mod (Nat.add a a') 4294967296,Nat.mod (Nat.add b b') 4294967296,Nat.mod (Nat.add c c') 4294967296,Nat.mod (Nat.add d d') 4294967296,Nat.mod (Nat.add e e') 4294967296,Nat.mod (Nat.add f f') 4294967296,Nat.mod (Nat.add g g') 4294967296,Nat.mod (Nat.add h h') 4294967296⟩ l
theorem hd_at:∀(l:List Nat),hdF l=atL l 0
 |[]=>rfl
 |_::_=>rfl
theorem tl_drop:∀(l:List Nat),tlF l=l.drop 1
 |[]=>rfl
 |_::_=>rfl
theorem at_drop(l:List Nat)(i j:Nat):atL (l.drop i) j=atL l (i+j):=by
 simp[atL,List.getD_eq_getElem?_getD,List.getElem?_drop]
theorem word_eq{b0 b1 b2 b3:Nat}(h0:b0<256)(h1:b1<256)(h2:b2<256)(h3:b3<256):wordN b0 b1 b2 b3=Nat.lor (Nat.lor (Nat.lor (Nat.shiftLeft b0 24) (Nat.shiftLeft b1 16)) (Nat.shiftLeft b2 8)) b3:=by
 have s:∀b n,b<256->n<=24->Nat.shiftLeft b n<4294967296:=λb n hb hn=>by
  show b<<<n<4294967296;rw[Nat.shiftLeft_eq];have:2^n<=2^24:=Nat.pow_le_pow_right Xg hn;have:=Nat.mul_le_mul (show b<=255 by omega) this;omega
 have e:∀b n,b<256->n<=24->shlN (b%4294967296) n=Nat.shiftLeft b n:=λb n hb hn=>by
  unfold shlN;rw[Nat.min_eq_left Xd,Nat.mod_eq_of_lt (show b<4294967296 by omega),Nat.mod_eq_of_lt (s b n hb hn)]
 have o:∀a b,a<4294967296->b<4294967296->orN a b=Nat.lor a b:=λa b ha hb=>by
  unfold orN;rw[Nat.mod_eq_of_lt ha,Nat.mod_eq_of_lt hb]
 have ol:∀a b,a<4294967296->b<4294967296->Nat.lor a b<4294967296:=λa b ha hb=>by
  rw[p32] at*
  exact Nat.or_lt_two_pow ha hb
 unfold wordN;rw[e b0 24 h0 Xg,e b1 16 h1 Xg,e b2 8 h2 Xg,Nat.mod_eq_of_lt (show b3<4294967296 by omega)];rw[o _ _ (s b0 24 h0 Xg) (s b1 16 h1 Xg),o _ _ (ol _ _ (s b0 24 h0 Xg) (s b1 16 h1 Xg)) (s b2 8 h2 Xg),o _ _ (ol _ _ (ol _ _ (s b0 24 h0 Xg) (s b1 16 h1 Xg)) (s b2 8 h2 Xg)) Xd]
theorem wS_early(bs:Nat->Nat)(hb:∀i,bs i<256)(t:Nat)(ht:t<16):wS bs t=Nat.lor (Nat.lor (Nat.lor (Nat.shiftLeft (bs (4*t)) 24) (Nat.shiftLeft (bs (4*t+1)) 16)) (Nat.shiftLeft (bs (4*t+2)) 8)) (bs (4*t+3)):=by
 rw[Qwq];unfold YGq;have h1:Nat.blt (yzq bs t).length 16=true:=by rw[qpq];simpa[Nat.blt_eq] using ht
 rw[h1];simp only[qpq];exact word_eq (hb _) (hb _) (hb _) (hb _)
noncomputable def jlq(l:List Nat):Prop:=∀b∈l,b<256
theorem small_at{l:List Nat}(h:jlq l)(i:Nat):atL l i<256:=by
 unfold atL;rw[List.getD_eq_getElem?_getD];cases hq:l[i]? with
 |none=>show(0:Nat)<256;decide
 |some b=>exact h b (List.mem_of_getElem? hq)
theorem x1q{α:Type}{l:List Nat}(h:jlq l)(t:Nat)(ht:t<16)(c:Nat->List Nat->α):w4F (l.drop (4*t)) c=c (wS (atL l) t) (l.drop (4*(t+1))):=by
 unfold w4F;rw[fz_eq];simp only[hd_at,tl_drop,at_drop,List.drop_drop];rw[wS_early (atL l) (small_at h) t ht];rfl
theorem block_eq{α:Type}{s:S8}(hs:s.Ok){l:List Nat}(h:jlq l)(k:S8->List Nat->α):uaq s l k=k (j5q (atL l) s) (l.drop 64):=by
 have key:goF kW s.a s.b s.c s.d s.e s.f s.g s.h (wS (atL l) 0) (wS (atL l) 1) (wS (atL l) 2) (wS (atL l) 3) (wS (atL l) 4) (wS (atL l) 5) (wS (atL l) 6) (wS (atL l) 7) (wS (atL l) 8) (wS (atL l) 9) (wS (atL l) 10) (wS (atL l) 11) (wS (atL l) 12) (wS (atL l) 13) (wS (atL l) 14) (wS (atL l) 15)=kbq (yzq (atL l) 64) s 64:=go_eq (atL l) (small_at h) hs 64 0 rfl s (by rw[kbq]);have e0:uaq s l k=uaq s (l.drop (4*0)) k:=rfl;rw[e0];unfold uaq;rw[x1q h 0 Xg,x1q h 1 Xg,x1q h 2 Xg,x1q h 3 Xg,x1q h 4 Xg,x1q h 5 Xg,x1q h 6 Xg,x1q h 7 Xg,x1q h 8 Xg,x1q h 9 Xg,x1q h 10 Xg,x1q h 11 Xg,x1q h 12 Xg,x1q h 13 Xg,x1q h 14 Xg,x1q h 15 Xg];rw[opS_eq,key,opS_eq];unfold j5q;generalize kbq (yzq (atL l) 64) s 64=X;rfl
theorem block_ok(s:S8)(bs:Nat->Nat):(j5q bs s).Ok:=⟨xEq _ _,xEq _ _,xEq _ _,xEq _ _,xEq _ _,xEq _ _,xEq _ _,xEq _ _⟩
noncomputable def lenF(l:List Nat):Nat:=List.rec 0 (λ_ _ n=>Nat.succ n) l
theorem vzq:∀l:List Nat,lenF l=l.length
 |[]=>rfl
 |_::l=>congrArg Nat.succ (vzq l)
theorem YSq{l:List Nat}(h:jlq l)(n:Nat):jlq (l.drop n):=λb hb=>h b (List.mem_of_mem_drop hb)
theorem uKq{a b:List Nat}(ha:jlq a)(hb:jlq b):jlq (a++b):=λx hx=>by
 rcases List.mem_append.1 hx with h|h
 ·exact ha x h
 ·exact hb x h
noncomputable def eatF(n:Nat):S8->List Nat->S8×List Nat:=Nat.rec (λs r=>(s,r)) (λ_ ih s r=>match Nat.ble 64 (lenF r) with
 |true=>uaq s r ih
 |false=>(s,r)) n
theorem eatF_eq:∀(n:Nat) {s:S8} {r:List Nat},s.Ok->jlq r->eatF n s r=eat n s r/\(eat n s r).1.Ok/\jlq (eat n s r).2
 |0,s,r,hs,hr=>⟨rfl,hs,hr⟩
 |n+1,s,r,hs,hr=>by
  have e:eatF (n+1) s r=match Nat.ble 64 (lenF r) with
   |true=>uaq s r (eatF n)
   |false=>(s,r):=rfl
  rw[e,vzq];unfold eat;cases Nat.ble 64 r.length with
  |true=>
   show uaq s r (eatF n)=eat n (j5q (atL r) s) (r.drop 64)/\_;rw[block_eq hs hr];exact eatF_eq n (block_ok _ _) (YSq hr 64)
  |false=>exact⟨rfl,hs,hr⟩
noncomputable def absF(a:S8×List Nat)(p:List Nat):S8×List Nat:=eatF (lenF (a.2++p)) a.1 (a.2++p)
theorem absF_eq{a:S8×List Nat}{p:List Nat}(ha:a.1.Ok)(h2:jlq a.2)(hp:jlq p):absF a p=j7q a p/\(j7q a p).1.Ok/\jlq (j7q a p).2:=by
 unfold absF j7q eats;rw[vzq];exact eatF_eq _ ha (uKq h2 hp)
noncomputable def allF(n:Nat):S8->List Nat->S8:=Nat.rec (λs _=>s) (λ_ ih s r=>match Nat.ble 1 (lenF r) with
 |true=>uaq s r ih
 |false=>s) n
theorem allF_eq:∀(n:Nat) {s:S8} {r:List Nat},s.Ok->jlq r->allF n s r=jqq n s r
 |0,s,r,_,_=>rfl
 |n+1,s,r,hs,hr=>by
  have e:allF (n+1) s r=match Nat.ble 1 (lenF r) with
   |true=>uaq s r (allF n)
   |false=>s:=rfl
  rw[e,vzq];unfold jqq;cases Nat.ble 1 r.length with
  |true=>
   show uaq s r (allF n)=jqq n (j5q (atL r) s) (r.drop 64);rw[block_eq hs hr];exact allF_eq n (block_ok _ _) (YSq hr 64)
  |false=>rfl
noncomputable def padF(r:List Nat):List Nat:=r++List.replicate (Nat.mod (Nat.sub 120 (Nat.mod (lenF r) 64)) 64) 0
theorem pad_eq:∀(n:Nat) (r:List Nat),(120-r.length%64)%64<=n->padZ n r=r++List.replicate ((120-r.length%64)%64) 0
 |0,r,h=>by
  rw[Nat.le_zero.1 h];simp[padZ]
 |n+1,r,h=>by
  unfold padZ;cases hb:Nat.beq (r.length%64) 56 with
  |true=>
   have:=Nat.eq_of_beq_eq_true hb;rw[this];simp
  |false=>
   have hne:r.length%64≠56:=λe=>by rw[e] at hb;cases hb
   show padZ n (r++[0])=_;have hl:(r++[0]).length=r.length+1:=by simp
   rw[pad_eq n (r++[0]) (by rw[hl];omega),hl,List.append_assoc];have:(120-r.length%64)%64=(120-(r.length+1)%64)%64+1:=by omega
   rw[this];rfl
theorem padF_eq(r:List Nat):padF r=padZ 64 r:=by
 rw[pad_eq 64 r Xd];unfold padF;rw[vzq];rfl
noncomputable def digF(s:S8):List Nat:=opS s λa b c d e f g h=>
 [Nat.mod (Nat.shiftRight a 24) 256,Nat.mod (Nat.shiftRight a 16) 256,Nat.mod (Nat.shiftRight a 8) 256,Nat.mod (Nat.shiftRight a 0) 256,
  Nat.mod (Nat.shiftRight b 24) 256,Nat.mod (Nat.shiftRight b 16) 256,Nat.mod (Nat.shiftRight b 8) 256,Nat.mod (Nat.shiftRight b 0) 256,
  Nat.mod (Nat.shiftRight c 24) 256,Nat.mod (Nat.shiftRight c 16) 256,Nat.mod (Nat.shiftRight c 8) 256,Nat.mod (Nat.shiftRight c 0) 256,
  Nat.mod (Nat.shiftRight d 24) 256,Nat.mod (Nat.shiftRight d 16) 256,Nat.mod (Nat.shiftRight d 8) 256,Nat.mod (Nat.shiftRight d 0) 256,
  Nat.mod (Nat.shiftRight e 24) 256,Nat.mod (Nat.shiftRight e 16) 256,Nat.mod (Nat.shiftRight e 8) 256,Nat.mod (Nat.shiftRight e 0) 256,
  Nat.mod (Nat.shiftRight f 24) 256,Nat.mod (Nat.shiftRight f 16) 256,Nat.mod (Nat.shiftRight f 8) 256,Nat.mod (Nat.shiftRight f 0) 256,
  Nat.mod (Nat.shiftRight g 24) 256,Nat.mod (Nat.shiftRight g 16) 256,Nat.mod (Nat.shiftRight g 8) 256,Nat.mod (Nat.shiftRight g 0) 256,
  Nat.mod (Nat.shiftRight h 24) 256,Nat.mod (Nat.shiftRight h 16) 256,Nat.mod (Nat.shiftRight h 8) 256,Nat.mod (Nat.shiftRight h 0) 256]
theorem digF_eq(s:S8):digF s=digN s:=rfl
noncomputable def endF(n:Nat)(s:S8)(r:List Nat):List Nat:=digF (allF (lenF (padF (r++[128])++len8 n)) s (padF (r++[128])++len8 n))
noncomputable def shaF(ps:List (List Nat)):List Nat:=Prod.rec (λs r=>endF (yTq ps) s r) (ps.foldl absF (s0,[]))
theorem small_len8(n:Nat):jlq (len8 n):=λb hb=>by
 unfold len8 at hb;obtain⟨i,_,rfl⟩:=List.mem_map.1 hb;exact Nat.mod_lt _ Xg
theorem small_pad{r:List Nat}(h:jlq r):jlq (padF r):=uKq h λb hb=>by
 rw[(List.mem_replicate.1 hb).2];decide
theorem fold_eq:∀(ps:List (List Nat)) (a:S8×List Nat),a.1.Ok->jlq a.2->(∀p∈ps,jlq p) ->ps.foldl absF a=ps.foldl j7q a/\(ps.foldl j7q a).1.Ok/\jlq (ps.foldl j7q a).2
 |[],a,h1,h2,_=>⟨rfl,h1,h2⟩
 |p::ps,a,h1,h2,h3=>by
  obtain⟨e,k1,k2⟩:=absF_eq h1 h2 (h3 p (List.mem_cons_self ..));simp only[List.foldl_cons,e];exact fold_eq ps _ k1 k2 λq hq=>h3 q (List.mem_cons_of_mem _ hq)
theorem sha_eq{ps:List (List Nat)}(h:∀p∈ps,jlq p):shaF ps=shaN ps:=by
 obtain⟨e,k1,k2⟩:=fold_eq ps (s0,[]) ⟨by decide,by decide,by decide,by decide,by decide,by decide,by decide,by decide⟩ (λb hb=>by cases hb) h;have e1:shaF ps=endF (yTq ps) (ps.foldl absF (s0,[])).1 (ps.foldl absF (s0,[])).2:=rfl;rw[e1,e];unfold endF shaN
 have h1:jlq ((ps.foldl j7q (s0,[])).2++[128]):=uKq k2 λb hb=>by
  rw[List.mem_singleton.1 hb];decide
 rw[allF_eq _ k1 (uKq (small_pad h1) (small_len8 _)),vzq,padF_eq,digF_eq]
end
mutual
/-- all blocks in it lie below n -/
noncomputable def ltB(n:Nat):V->Bool
 |.ptr b _=>decide (b<n)
 |.sl b _ _ _ _ _=>decide (b<n)
 |.map b=>decide (b<n)
 |.yield b=>decide (b<n)
 |.fn _ a c=>ltL n a&&ltL n c
 |.iface _ v=>ltB n v
 |.agg _ l=>ltL n l
 |.arr _ _ l=>ltL n l
 |.tup l=>ltL n l
 |.undef=>true
 |.bool _=>true
 |.int _ _=>true
 |.str _=>true
 |.nilp=>true
 |.nils=>true
 |.nilm=>true
 |.nilf=>true
 |.nili=>true
noncomputable def ltL(n:Nat):List V->Bool
 |[]=>true
 |v::l=>ltB n v&&ltL n l
end
mutual
theorem in_lt{D:Nat->Nat->Prop}{n:Nat}:∀{v:V},InD D v->ltB n v=true->InD (λi m=>D i m/\i<n) v
 |.ptr _ _,hi,h=>⟨hi,of_decide_eq_true h⟩
 |.sl _ _ _ _ _ _,hi,h=>⟨hi.1,hi.2.1,hi.2.2,of_decide_eq_true h⟩
 |.map _,hi,h=>⟨hi,of_decide_eq_true h⟩
 |.yield _,hi,h=>⟨hi,of_decide_eq_true h⟩
 |.fn _ a c,hi,h=>by
  simp only[ltB,Bool.and_eq_true] at h;exact⟨ZWq (l:=a) hi.1 h.1,ZWq (l:=c) hi.2 h.2⟩
 |.iface _ v,hi,h=>in_lt (v:=v) hi Qh
 |.agg _ l,hi,h=>ZWq (l:=l) hi Qh
 |.arr _ _ l,hi,h=>ZWq (l:=l) hi Qh
 |.tup l,hi,h=>ZWq (l:=l) hi Qh
 |.undef,_,_=>trivial
 |.bool _,_,_=>trivial
 |.int _ _,_,_=>trivial
 |.str _,_,_=>trivial
 |.nilp,_,_=>trivial
 |.nils,_,_=>trivial
 |.nilm,_,_=>trivial
 |.nilf,_,_=>trivial
 |.nili,_,_=>trivial
theorem ZWq{D:Nat->Nat->Prop}{n:Nat}:∀{l:List V},InDL D l->ltL n l=true->InDL (λi m=>D i m/\i<n) l
 |[],_,_=>trivial
 |v::l,hi,h=>by
  simp only[ltL,Bool.and_eq_true] at h;exact⟨in_lt hi.1 h.1,ZWq hi.2 h.2⟩
end
mutual
noncomputable def jxq:W->Bool
 |.bool _=>true
 |.int _ _=>true
 |.str _=>true
 |.nilp=>true
 |.nils=>true
 |.nilm=>true
 |.nilf=>true
 |.nili=>true
 |.agg _ l=>ZNq l
 |.arr _ _ l=>ZNq l
 |_=>false
noncomputable def ZNq:List W->Bool
 |[]=>true
 |w::l=>jxq w&&ZNq l
end
mutual
theorem rs_uniq{Γ Γ':Ctx}:∀{w:W} {s s':List V},jxq w=true->RS Γ w s->RS Γ' w s'->s=s'
 |.undef,_,_,h,_,_=>by simp[jxq] at h
 |.bool _,_,_,_,h,k=>by simp only[RS] at h k;rw[h,k]
 |.int _ _,_,_,_,h,k=>by simp only[RS] at h k;rw[h,k]
 |.str _,_,_,_,h,k=>by simp only[RS] at h k;rw[h,k]
 |.nilp,_,_,_,h,k=>by simp only[RS] at h k;rw[h,k]
 |.ptr _ _,_,_,h,_,_=>by simp[jxq] at h
 |.nils,_,_,_,h,k=>by simp only[RS] at h k;rw[h,k]
 |.sl _ _ _ _ _ _,_,_,h,_,_=>by simp[jxq] at h
 |.fz _ _ _,_,_,h,_,_=>by simp[jxq] at h
 |.fel _,_,_,h,_,_=>by simp[jxq] at h
 |.nilm,_,_,_,h,k=>by simp only[RS] at h k;rw[h,k]
 |.fn _ _ _,_,_,h,_,_=>by simp[jxq] at h
 |.yield _,_,_,h,_,_=>by simp[jxq] at h
 |.nilf,_,_,_,h,k=>by simp only[RS] at h k;rw[h,k]
 |.iface _ _,_,_,h,_,_=>by simp[jxq] at h
 |.nili,_,_,_,h,k=>by simp only[RS] at h k;rw[h,k]
 |.agg n l,_,_,hp,h,k=>by simp only[jxq] at hp;simp only[RS] at h k;exact QOq hp h.2 k.2
 |.arr n e l,_,_,hp,h,k=>by simp only[jxq] at hp;simp only[RS] at h k;exact QOq hp h.2.2 k.2.2
 |.tup _,_,_,h,_,_=>by simp[jxq] at h
theorem QOq{Γ Γ':Ctx}:∀{l:List W} {s s':List V},ZNq l=true->RSL Γ l s->RSL Γ' l s'->s=s'
 |[],_,_,_,h,k=>by simp only[RSL] at h k;rw[h,k]
 |w::l,s,s',hp,h,k=>by
  simp only[ZNq,Bool.and_eq_true] at hp;simp only[RSL] at h k;have h1:=rs_uniq hp.1 h.1 k.1;have h2:=QOq hp.2 h.2 k.2;rw[<-List.take_append_drop w.size s,<-List.take_append_drop w.size s',h1,h2]
end
theorem conc_uniq{Γ Γ':Ctx}{w:W}{v v':V}(hw:jxq w=true)(h:RV Γ w v)(k:RV Γ' w v')(ρ:Env):conc ρ v=conc ρ v':=by
 have e:=rs_uniq hw h.2 k.2;cases hv:v.isAgg with
 |true=>
  have hv':v'.isAgg=true:=by rw[<-k.1,h.1,hv]
  rw[qjq hv,qjq hv',yLq,yLq,e]
 |false=>
  have hv':v'.isAgg=false:=by rw[<-k.1,h.1,hv]
  rw[jYq hv,jYq hv'] at e;cases e;rfl
noncomputable def keepB(n:Nat):Option Blk->Option Blk
 |some (.cells ty v)=>if ltB n v then some (.cells ty v) else none
 |some (.ro v)=>if ltB n v then some (.ro v) else none
 |_=>none
theorem keepB_some{n:Nat}{o:Option Blk}{b:Blk}(h:keepB n o=some b):o=some b/\∀D,InB D b->InB (λi m=>D i m/\i<n) b:=by
 unfold keepB at h;split at h
 ·split at h
  ·rename_i hl;cases h;exact⟨rfl,λD hi=>in_lt hi hl⟩
  ·cases h
 ·split at h
  ·rename_i hl;cases h;exact⟨rfl,λD hi=>in_lt hi hl⟩
  ·cases h
 ·cases h
noncomputable def SeenK(h:Heap):Nat->Prop:=λb=>b<h.next/\∃v,h.val b=some v/\ltB h.next v=true
section
variable {P:Program} {C:Cfg} {G:Nat->Option W}
structure ReadsK(C:Cfg)(G:Nat->Option W)(vs:List V)(h:Heap)(ws:List W):Prop where
 args:RVL ⟨0,λi=>i,SeenK h,h⟩ ws vs
 lt:ltL h.next vs=true
 glt:∀g,C.glob g=true->g<h.next
 gl:GRel C G ⟨0,λi=>i,SeenK h,h⟩
theorem known_spec(hmx:P.follows .mixedOrders=true)(hC:CfgOK P C)(hF:vMq P C)(hK:jeq P C){f:FuncId}{k:List V->Heap->Option (V×Heap)}
  (hk:∀vs h v h',k vs h=some (v,h') ->h'=h/\bare v=true/\∃ws w,ReadsK C G vs h ws/\jxq w=true/\qbq C G f 0 ws [] (λw' _ _=>w'=w)/\∃Γ,RV Γ w v):xbq P C f k:=λvs h v h' he=>by
 obtain⟨rfl,hbv,ws,w,hrd,hpl,sp,Γ2,hrv⟩:=hk vs h v h' he;obtain⟨t,ht⟩:=Tr.of (λi=>keepB h'.next (h'.get i)) h'.next;let hs:Heap:=⟨h'.next,h'.next,t⟩
 have get_lt:∀i,i<h'.next->hs.get i=keepB h'.next (h'.get i):=λi hi=>by show t.get i=_;rw[ht,if_pos hi]
 have get_ge:∀i,h'.next<=i->hs.get i=none:=λi hi=>by show t.get i=_;rw[ht,if_neg Xd]
 have get_some:∀{i b},hs.get i=some b->i<h'.next/\h'.get i=some b/\∀D,InB D b->InB (λi m=>D i m/\i<h'.next) b:=λ{i b} hb=>by
  rcases Nat.lt_or_ge i h'.next with hi|hi
  ·rw[get_lt i hi] at hb;exact⟨hi,keepB_some hb⟩
  ·rw[get_ge i hi] at hb;cases hb
 have val_of:∀{b v},b<h'.next->h'.val b=some v->ltB h'.next v=true->hs.val b=some v:=λ{b v} hb h1 h2=>by
  simp only[Heap.val,get_lt b hb] at h1⊢;cases hg:h'.get b with
  |none=>rw[hg] at h1;cases h1
  |some x=>
   rw[hg] at h1;cases x with
   |cells ty u=>cases h1;simp only[keepB,h2,if_true]
   |ro u=>cases h1;simp only[keepB,h2,if_true]
   |loop=>cases h1
   |dfr=>cases h1
   |map=>cases h1
 have val_lt:∀{b v},hs.val b=some v->b<h'.next:=λ{b v} h1=>by
  simp only[Heap.val] at h1;cases hg:hs.get b with
  |none=>rw[hg] at h1;cases h1
  |some x=>exact(get_some hg).1
 have le:∀nw σ,Ctx.Le ⟨nw,σ,SeenK h',h'⟩ ⟨nw,σ,λb=>∃v,hs.val b=some v,hs⟩:=λnw σ=>
  ⟨Nat.le_refl _,λ_ _=>rfl,λb hb=>by obtain⟨h1,u,h2,h3⟩:=hb;exact⟨u,val_of h1 h2 h3⟩,λb hb=>by
   obtain⟨h1,u,h2,h3⟩:=hb;show hs.val b=h'.val b;rw[val_of h1 h2 h3,h2]⟩
 have sat:SatH C G ⟨0,λi=>i,λb=>∃v,hs.val b=some v,hs⟩ [] (λ_=>False) Res.none:=
  ⟨get_ge,λ_ _ _ h=>by simp[hget] at h,λ_ _ _ _ h=>by simp[hget] at h,List.nodup_nil,λ_ _ h=>h,λ_ h=>h.elim,λc hc=>by obtain⟨u,hu⟩:=hc;exact val_lt hu,trivial,λg w h1 h2 nw σ=>(hrd.gl g w h1 h2 nw σ).mono (le nw σ)⟩
 obtain⟨n,v1,Γ1,X1,w1,hp1,R1,g1,g2,g3,g4,rfl,hq⟩:=sp Res.none _ (λ_=>False) vs rfl sat (RVL.mono (le _ _) hrd.args)
 have hw:h'.next<=Γ1.h.wmin:=g3.wmin h'.next (Nat.le_refl _) (Nat.le_refl _) λc hc=>by
  rcases hc with ⟨b,x,h1,_⟩|hc
  ·simp[hget] at h1
  ·exact hc.elim
 have rn:=(run_ok hmx hC hF hK n).self;have hn:h'.next<=Γ1.h.next:=g3.next;refine⟨Mono.refl _,rn.fnEnter _ _ _ _ _ g1,λs0 U D ρ w0 hU gl hin rel=>?_⟩;have up:∀{b},InB (λi m=>DD D ρ i m/\i<h'.next) b->InB (DD (λi=>D i/\i<h'.next) ρ) b:=λh=>h.mono λi m hi=>⟨⟨hi.1.1,hi.2⟩,hi.1.2⟩
 have relS:Rel s0 Γ1.h.next (λi=>D i/\i<h'.next) ρ hs w0:=by
  refine⟨λi hi=>.inl hi.2,get_ge,λi b hi hb=>rel.has i b hi.1 (get_some hb).2.1,λi b hi hb=>up ((get_some hb).2.2 _ (rel.clo i b hi.1 (get_some hb).2.1)),λi j b c hi hj hb hc=>rel.inj i j b c hi.1 hj.1 (get_some hb).2.1 (get_some hc).2.1,λi b hi hb=>rel.own i b hi.1 (get_some hb).2.1,λi j b c hi hj hb hc=>rel.old i j b c hi.1 hj.1 (get_some hb).2.1 (get_some hc).2.1,rel.base⟩
 have glS:GlobOK C (DD (λi=>D i/\i<h'.next) ρ) ρ:=λg hg=>by
  obtain⟨h1,h2⟩:=gl g hg;exact⟨⟨⟨h1.1,hrd.glt g hg⟩,h1.2⟩,h2⟩
 have hinS:InDL (DD (λi=>D i/\i<h'.next) ρ) vs:=InDL_iff.2 λv hv=>InD.mono' (λi m hi=>⟨⟨hi.1.1,hi.2⟩,hi.1.2⟩) v (InDL_iff.1 (ZWq hin hrd.lt) v hv)
 refine(rn.fn _ _ _ _ _ g1 s0 Γ1.h.next _ ρ w0 (Nat.le_refl _) glS hinS relS).mono λe w'=>?_
 rintro⟨D',ρ',rfl,r',n',_⟩
 have same:∀c,c<w0.heap.size->w'.heap[c]? =w0.heap[c]? :=λc hc=>n'.frame c hc λi _ h2 h3=>by
  have h3:i<h'.next:=h3;omega
 have hval:conc ρ' v1=conc ρ v:=by
  subst hq;exact(conc_uniq hpl g4 hrv ρ').trans (conc_bare hbv ρ ρ')
 refine⟨D,ρ,by rw[hval],⟨rel.lt,rel.wf,λi b hi hb=>?_,rel.clo,rel.inj,rel.own,rel.old,r'.base⟩,⟨λ_ h=>h,λ_ h=>.inl h,λ_ _=>⟨rfl,rfl,rfl,rfl⟩,λc hc _=>same c hc,λi _ h1 h2=>by omega,n'.size,Nat.le_refl _,Nat.le_refl _,n'.os,n'.tape,n'.output⟩,bare_in hbv⟩;obtain⟨o,q1,q2⟩:=rel.has i b hi hb;exact⟨o,by rw[same _ (Array.getElem?_eq_some_iff.1 q1).1];exact q1,q2⟩
end
section
variable {kfn:List V->Heap->Option (V×Heap)}
noncomputable def u8V(n:Nat):V:=.int .u8 (.ofNat n)
noncomputable def u32V(n:Nat):V:=.int .u32 (.ofNat n)
noncomputable def cellsK(h:Heap)(b off n:Nat):Option (List V):=match Nat.blt b h.next,h.val b with
 |true,some bv=>match bv.isAgg&&ltB h.next bv&&Nat.ble (off+n) bv.size with
  |true=>some (((zjq bv).drop off).take n)
  |false=>none
 |_,_=>none
theorem Ytq{h:Heap}{b off n:Nat}{s:List V}(hs:cellsK h b off n=some s):b<h.next/\SeenK h b/\s.length=n/\∃bv,h.val b=some bv/\bv.isAgg=true/\off+n<=bv.size/\s=((zjq bv).drop off).take n:=by
 unfold cellsK at hs;split at hs
 ·rename_i bv hb hv;split at hs
  ·rename_i hc;cases hs;simp only[Bool.and_eq_true] at hc;have h1:b<h.next:=by simpa using hb
   have h2:off+n<=bv.size:=Zb hc.2;refine⟨h1,⟨h1,bv,hv,hc.1.2⟩,?_,bv,hv,hc.1.1,h2,rfl⟩;rw[List.length_take,List.length_drop,y3q];omega
  ·cases hs
 ·cases hs
noncomputable def u8s:List V->Option (List Nat)
 |[]=>some []
 |.int .u8 (.ofNat n)::l=>match Nat.blt n 256,u8s l with
  |true,some ns=>some (n::ns)
  |_,_=>none
 |_=>none
theorem u8s_spec:∀{s:List V} {l:List Nat},u8s s=some l->s=l.map u8V/\jlq l
 |[],_,h=>by cases h;exact⟨rfl,λb hb=>by cases hb⟩
 |v::s,l,h=>by
  unfold u8s at h;split at h
  ·rename_i he;cases he
  ·rename_i n l' he;cases he;split at h
   ·rename_i ns h1 hn;cases h;obtain⟨e,k⟩:=u8s_spec hn;refine⟨by rw[e];rfl,λb hb=>?_⟩;rcases List.mem_cons.1 hb with rfl|hb
    ·simpa using h1
    ·exact k b hb
   ·cases h
  ·cases h
theorem RSL_bN(Γ:Ctx):∀l:List Nat,RSL Γ (bN l) (l.map u8V)
 |[]=>rfl
 |n::l=>y9q (a:=[u8V n]) (b:=l.map u8V) (x:=.int .u8 (.ofNat n)) rfl (RSL_bN Γ l)
theorem size_bN(l:List Nat):∀x∈bN l,x.size=1:=λx hx=>by
 obtain⟨n,_,rfl⟩:=List.mem_map.1 hx;rfl
noncomputable def partK(h:Heap):V->Option (List Nat)
 |.nils=>some []
 |.sl b _ off len 1 _=>match cellsK h b off len with
  |some s=>u8s s
  |none=>none
 |_=>none
theorem YXq{h:Heap}{v:V}{l:List Nat}(hk:partK h v=some l):RS ⟨0,λi=>i,SeenK h,h⟩ (x2q (l,false)) [v]/\jlq l:=by
 unfold partK at hk;split at hk
 ·cases hk;exact⟨.inl ⟨rfl,rfl⟩,λb hb=>by cases hb⟩
 ·rename_i b base off len lim;split at hk
  ·rename_i s hs;obtain⟨_,h2,h3,bv,h4,h5,h6,h7⟩:=Ytq hs;obtain⟨e,ks⟩:=u8s_spec hk;refine⟨?_,ks⟩
   have hl:(bN l).length=len:=by
    rw[vfq,<-h3,e,List.length_map]
   refine .inr ⟨b,base,off,lim,bv,by rw[hl],λh=>Qd,h2,h4,h5,by rw[hl,Nat.mul_one];exact h6,size_bN l,?_⟩;rw[hl,Nat.mul_one,<-h7,e];exact RSL_bN _ l
  ·cases hk
 ·cases hk
noncomputable def partsK(h:Heap):List V->Option (List (List Nat))
 |[]=>some []
 |v::s=>match partK h v with
  |some l=>match partsK h s with
   |some ls=>some (l::ls)
   |none=>none
  |none=>none
noncomputable def Qvq(ps:List (List Nat)):List (List Nat×Bool):=ps.map λl=>(l,false)
theorem ZPq{h:Heap}:∀{s:List V} {ps:List (List Nat)},partsK h s=some ps->s.length=ps.length/\RSL ⟨0,λi=>i,SeenK h,h⟩ ((Qvq ps).map x2q) s/\∀p∈ps,jlq p
 |[],_,hk=>by cases hk;exact⟨rfl,rfl,λp hp=>by cases hp⟩
 | v ::s,ps,hk=>by
  unfold partsK at hk;split at hk
  ·rename_i l hl;split at hk
   ·rename_i ls hls;cases hk;obtain⟨h1,h2,h3⟩:=ZPq hls
    exact⟨congrArg (· +1) h1,y9q (a:=[v]) (b:=s) (YXq hl).1 h2,λp hp=>by
     rcases List.mem_cons.1 hp with rfl|hp
     ·exact(YXq hl).2
     ·exact h3 p hp⟩
   ·cases hk
  ·cases hk
noncomputable def argK(h:Heap):V->Option (List (List Nat))
 |.nils=>some []
 |.sl b _ off len 1 _=>match cellsK h b off len with
  |some s=>partsK h s
  |none=>none
 |_=>none
theorem size_parts(ps:List (List Nat×Bool)):∀x∈ps.map x2q,x.size=1:=λx hx=>by
 obtain⟨n,_,rfl⟩:=List.mem_map.1 hx;rfl
theorem argK_spec{h:Heap}{v:V}{ps:List (List Nat)}(hk:argK h v=some ps):RV ⟨0,λi=>i,SeenK h,h⟩ (.fz ((Qvq ps).map x2q) 1 false) v/\ltB h.next v=true/\∀p∈ps,jlq p:=by
 unfold argK at hk;split at hk
 ·cases hk;exact⟨⟨rfl,.inl ⟨rfl,rfl⟩⟩,rfl,λp hp=>by cases hp⟩
 ·rename_i b base off len lim;split at hk
  ·rename_i s hs;obtain⟨h1,h2,h3,bv,h4,h5,h6,h7⟩:=Ytq hs;obtain⟨g1,g2,g3⟩:=ZPq hk
   have hl:((Qvq ps).map x2q).length=len:=by
    rw[List.length_map,Qvq,List.length_map,<-g1,h3]
   refine⟨⟨rfl,.inr ⟨b,base,off,lim,bv,by rw[hl];rfl,λh=>Qd,h2,h4,h5,by rw[hl,Nat.mul_one];exact h6,size_parts _,?_⟩⟩,by simpa[ltB] using h1,g3⟩;rw[hl,Nat.mul_one,<-h7];exact g2
  ·cases hk
 ·cases hk
noncomputable def eqK:List V->List Nat->Bool
 |[],[]=>true
 |.int .u32 (.ofNat n)::l,m::ms=>match Nat.beq n m with
  |true=>eqK l ms
  |false=>false
 |_,_=>false
theorem eqK_spec:∀{l:List V} {ms:List Nat},eqK l ms=true->l=ms.map u32V
 |[],[],_=>rfl
 |[],_::_,h=>by simp[eqK] at h
 |v::l,ms,h=>by
  unfold eqK at h;split at h
  ·simp_all
  ·rename_i n l' m ms' e;cases e;split at h
   ·rename_i hb;obtain rfl:=Nat.eq_of_beq_eq_true hb;rw[eqK_spec h];rfl
   ·cases h
  ·cases h
noncomputable def globK(h:Heap):Bool:=match h.get 1 with
 |some (.ro (.arr 64 1 l))=>eqK l kW
 |_=>false
theorem RSL_wd(Γ:Ctx):∀l:List Nat,RSL Γ (l.map wd) (l.map u32V)
 |[]=>rfl
 |n::l=>y9q (a:=[u32V n]) (b:=l.map u32V) (x:=wd n) rfl (RSL_wd Γ l)
theorem Y2q{h:Heap}(hn:Nat.ble 3 h.next=true)(hk:globK h=true):GRel (cfgk kfn) glK ⟨0,λi=>i,SeenK h,h⟩:=by
 intro g w _ h2 nw σ;have hn:=Zb hn;unfold glK at h2;split at h2
 ·cases h2;unfold globK at hk;split at hk
  ·rename_i l hg;obtain rfl:=eqK_spec hk;have hv:h.val 1=some (.arr 64 1 (kW.map u32V)):=by simp only[Heap.val,hg]
   refine RV.of_one ⟨1,0,_,rfl,⟨by omega,_,hv,by rfl⟩,hv,by exact Nat.le_refl _,λ_=>rfl,.inr rfl,?_⟩ Z Z;have e:((zjq (.arr 64 1 (kW.map u32V))).drop 0).take 64=kW.map u32V:=by kernel_rfl
   show RS _ _ (((zjq (.arr 64 1 (kW.map u32V))).drop 0).take 64);rw[e];exact⟨rfl,λx hx=>by obtain⟨n,_,rfl⟩:=List.mem_map.1 hx;rfl,RSL_wd _ kW⟩
  ·cases hk
 ·cases h2
theorem bare_u8:∀l:List Nat,v7q (l.map u8V)=true
 |[]=>rfl
 |n::l=>by simp only[List.map_cons,v7q,u8V,bare,Bool.true_and];exact bare_u8 l
theorem plain_bN:∀l:List Nat,ZNq (bN l)=true
 |[]=>rfl
 |n::l=>by simp only[bN,List.map_cons,ZNq,jxq,Bool.true_and];exact plain_bN l
theorem flat_u8:∀l:List Nat,z2q 1 (l.map u8V)=l.map u8V
 |[]=>rfl
 |n::l=>by
  simp only[List.map_cons,z2q,flat_u8 l];rfl
theorem shaN_len(ps:List (List Nat)):(shaN ps).length=32:=by simp[shaN,digN]
noncomputable def ofK:List V->Heap->Option (V×Heap)
 |[x],h=>match Nat.ble 3 h.next&&globK h,argK h x with
  |true,some ps=>match Nat.blt (yTq ps) 2147483648&&Nat.blt ps.length 2147483648 with
   |true=>some (.arr 32 1 ((shaF ps).map u8V),h)
   |false=>none
  |_,_=>none
 |_,_=>none
theorem withF_map(ps:List (List Nat)):(Qvq ps).map (·.1)=ps:=by
 simp[Qvq,Function.comp_def]
theorem ofOK:xbq Tryz.prog (cfgk kNone) 137 ofK:=known_spec (G:=glK) mixed (cfgkOK kNone) (fnskOK kNone) (known0OK kNone λ_ _ _ _ he=>nomatch (show(none:Option (V×Heap))=some _ from he)) λvs h v h' he=>by
 unfold ofK at he;split at he
 ·rename_i x;split at he
  ·rename_i ps hg ha;split at he
   ·rename_i hb;cases he;simp only[Bool.and_eq_true] at hg hb;obtain⟨a1,a2,a3⟩:=argK_spec ha;rw[sha_eq a3];refine⟨rfl,bare_u8 _,[.fz ((Qvq ps).map x2q) 1 false],.arr 32 1 (bN (shaN ps)),⟨RVL_cons.2 ⟨_,_,rfl,a1,RVL_nil.2 rfl⟩,by simp only[ltL,a2,Bool.and_self],λg hg'=>?_,Y2q hg.1 hg.2⟩,plain_bN _,λR=>?_,⟨0,λi=>i,λ_=>False,h⟩,?_⟩
    ·have h1:Nat.ble (g+1) 3=true:=hg';have:=Zb h1;have:=Zb hg.1;omega
    ·have:=of_s (kfn:=kNone) (Qvq ps) false (by rw[withF_map];simpa using hb.1) (by rw[Qvq,List.length_map];simpa using hb.2) R;rw[withF_map] at this;exact this
    ·have hl:((shaN ps).map u8V).length=32:=by rw[List.length_map,shaN_len]
     refine⟨rfl,?_⟩;show RS _ _ (fitV 32 (z2q 1 ((shaN ps).map u8V)));rw[flat_u8,ygq hl];exact⟨hl,size_bN _,RSL_bN _ _⟩
   ·cases he
  ·cases he
 ·cases he
noncomputable def knownT:Tr (List V->Heap->Option (V×Heap)):=Tr.set .nil 137 (some ofK)
noncomputable def cfg1:Cfg:={cfg with known:=λf=>knownT.get f}
theorem known1OK:jeq Tryz.prog cfg1:=λf k hk=>by
 have e:knownT.get f=if f=137 then some ofK else none:=by
  unfold knownT;rw[Tr.get_set,Tr.get_nil]
 have hk:knownT.get f=some k:=hk;rw[e] at hk;split at hk
 ·rename_i hf;cases hk;subst hf;exact ofOK
 ·cases hk
end
mutual
noncomputable def lfW:W->List V
 |.int k n=>[.int k n]
 |.bool b=>[.bool b]
 |.agg _ l=>lfL l
 |.arr _ _ l=>lfL l
 |_=>[]
noncomputable def lfL:List W->List V
 |[]=>[]
 |w::l=>lfW w++lfL l
end
mutual
noncomputable def lfOK:W->Bool
 |.int _ _=>true
 |.bool _=>true
 |.agg n l=>Nat.beq (lfL l).length n&&lfOKL l
 |.arr n e l=>Nat.beq (lfL l).length n&&l.all (λx=>Nat.beq x.size e)&&lfOKL l
 |_=>false
noncomputable def lfOKL:List W->Bool
 |[]=>true
 |w::l=>lfOK w&&lfOKL l
end
mutual
theorem lf_rs{Γ:Ctx}:∀{w:W},lfOK w=true->RS Γ w (lfW w)
 |.int k n,_=>rfl
 |.bool b,_=>rfl
 |.agg n l,h=>by
  simp only[lfOK,Bool.and_eq_true] at h;exact⟨Nat.eq_of_beq_eq_true h.1,lf_rsl h.2⟩
 |.arr n e l,h=>by
  simp only[lfOK,Bool.and_eq_true] at h;exact⟨Nat.eq_of_beq_eq_true h.1.1,λx hx=>Nat.eq_of_beq_eq_true (List.all_eq_true.1 h.1.2 x hx),lf_rsl h.2⟩
 |.undef,h=>by simp[lfOK] at h
 |.str _,h=>by simp[lfOK] at h
 |.nilp,h=>by simp[lfOK] at h
 |.ptr _ _,h=>by simp[lfOK] at h
 |.nils,h=>by simp[lfOK] at h
 |.sl _ _ _ _ _ _,h=>by simp[lfOK] at h
 |.fz _ _ _,h=>by simp[lfOK] at h
 |.fel _,h=>by simp[lfOK] at h
 |.nilm,h=>by simp[lfOK] at h
 |.fn _ _ _,h=>by simp[lfOK] at h
 |.yield _,h=>by simp[lfOK] at h
 |.nilf,h=>by simp[lfOK] at h
 |.iface _ _,h=>by simp[lfOK] at h
 |.nili,h=>by simp[lfOK] at h
 |.tup _,h=>by simp[lfOK] at h
theorem lf_rsl{Γ:Ctx}:∀{l:List W},lfOKL l=true->RSL Γ l (lfL l)
 |[],_=>rfl
 |w::l,h=>by
  simp only[lfOKL,Bool.and_eq_true] at h;exact y9q (lf_rs h.1) (lf_rsl h.2)
end
noncomputable def digV:V:=.arr 32 1 (List.replicate 32 (.int .u8 0))
noncomputable def gapV:V:=.agg 101 [.bool true,.agg 100 [.int .i64 0,.bool false,.agg 98 [.int .i64 0,digV,digV,digV,.int .i64 0]]]
theorem k2q{α:Type}(L:List α)(a n:Nat):L.drop a=(L.drop a).take n++L.drop (a+n):=by
 rw[<-List.drop_drop];exact(List.take_append_drop n _).symm
theorem Jnq{α:Type}(L:List α)(a n:Nat)(h:L.length=a+n):L.drop a=(L.drop a).take n:=(List.take_of_length_le (by rw[List.length_drop];omega)).symm
def stL:Option TypeDesc->Option (List (TypeId×Nat))
 |some (.struct fs)=>some (fs.toList.map λf=>(f.type,f.offset))
 |_=>none
section
variable {H:Type} {enc:TypeId×Value->H} {P:Program} {w:World} {base:Nat} {spare:Nat->Bool} {held:Bool} {fuel:Nat} {cs:List Value} {p:List MemPlace}
theorem trod_st{t:TypeId}{l:List (TypeId×Nat)}{d:DataW H}(hs:stL (P.underlying t)=some l)(h:DataW.trod enc P w base spare held fuel t cs=some (d,p)):∃(xs:List (DataW H×List MemPlace)) (n:Nat),d= .agg (xs.map (·.1))/\cs.length=P.cellsOf t/\∀(i:Nat) (ty:TypeId) (o:Nat),l[i]? =some (ty,o) ->DataW.trod enc P w base spare held n ty ((cs.drop o).take (P.cellsOf ty))=xs[i]? :=by
 unfold stL at hs;split at hs
 ·rename_i fs hu;cases hs;obtain⟨xs,n,_,h2,h3,_,h5⟩:=DataW.trod_struct hu h;simp only[Prod.mk.injEq] at h2;refine⟨xs,n,h2.1,h3,λi ty o hi=>?_⟩;rw[List.getElem?_map] at hi;cases hf:fs.toList[i]? with
  |none=>rw[hf] at hi;cases hi
  |some f=>
   rw[hf] at hi;cases hi;exact h5 i f (by simpa using hf)
 ·cases hs
end
section
variable {H:Type} {enc:TypeId×Value->H} {w:World} {base:Nat} {spare:Nat->Bool} {held:Bool} {fuel:Nat} {cs:List Value} {p:List MemPlace}
def zdD:DataW H:=.agg (List.replicate 32 (.lit (.int .u8 0)))
def zdC:List Value:=List.replicate 32 (.int .u8 0)
theorem QBq(h:DataW.trod enc Tryz.prog w base spare held fuel 23 cs=some (zdD,p)):cs=zdC:=
 trod_tab (ns:=List.replicate 32 0) (k:=.u8) (n:=32) (e:=5) Xm Xm Xm Xm rfl h
theorem QAq{n:Int}(h:DataW.trod enc Tryz.prog w base spare held fuel 3 cs=some (.lit (.int .i64 n),p)):cs=[.int .i64 n]:=by
 obtain⟨z,h1,h2,_⟩:=DataW.trod_int (k:=.i64) Xm h;simp only[Prod.mk.injEq,DataW.lit.injEq,Lit.int.injEq,true_and] at h2;rw[h1,h2.1]
theorem trod_bo{b:Bool}(h:DataW.trod enc Tryz.prog w base spare held fuel 4 cs=some (.lit (.bool b),p)):cs=[.bool b]:=by
 obtain⟨z,h1,h2⟩:=DataW.trod_bool Xm h;simp only[Prod.mk.injEq,DataW.lit.injEq,Lit.bool.injEq] at h2;rw[h1,h2.1]
def hdD:DataW H:=.agg [.lit (.int .i64 0),zdD,zdD,zdD,.lit (.int .i64 0)]
def hdC:List Value:=.int .i64 0::(zdC++(zdC++(zdC++[.int .i64 0])))
theorem trod_hdr(h:DataW.trod enc Tryz.prog w base spare held fuel 57 cs=some (hdD,p)):cs=hdC:=by
 obtain⟨xs,n,hd,hl,hx⟩:=trod_st (l:=[(3,0),(23,1),(23,33),(23,65),(3,97)]) Xm h;have c1:Tryz.prog.cellsOf 3=1:=by kernel_rfl
 have c2:Tryz.prog.cellsOf 23=32:=by kernel_rfl
 have c3:Tryz.prog.cellsOf 57=98:=by kernel_rfl
 rw[c3] at hl;have hd:=(DataW.agg.inj hd).symm;match xs,hd,hx with
 |[(a,pa),(b,pb),(c,pc),(d,pd),(e,pe)],hd,hx=>
  simp only[List.map_cons,List.map_nil,List.cons.injEq,and_true] at hd;obtain⟨rfl,rfl,rfl,rfl,rfl⟩:=hd;have h0:=hx 0 _ _ rfl;have h1:=hx 1 _ _ rfl;have h2:=hx 2 _ _ rfl;have h3:=hx 3 _ _ rfl;have h4:=hx 4 _ _ rfl;rw[c1] at h0 h4;rw[c2] at h1 h2 h3;have g0:=QAq h0;have g1:=QBq h1;have g2:=QBq h2;have g3:=QBq h3;have g4:=QAq h4;have e0:=k2q cs 0 1;have e1:=k2q cs 1 32;have e2:=k2q cs 33 32;have e3:=k2q cs 65 32;have e4:=Jnq cs 97 1 hl;rw[g0] at e0;rw[g1] at e1;rw[g2] at e2;rw[g3] at e3;rw[g4] at e4;rw[List.drop_zero] at e0;rw[e0,e1,e2,e3,e4];rfl
def evD:DataW H:=.agg [.lit (.int .i64 0),.lit (.bool false),hdD]
def evC:List Value:=.int .i64 0:: .bool false::hdC
theorem trod_evt(h:DataW.trod enc Tryz.prog w base spare held fuel 59 cs=some (evD,p)):cs=evC:=by
 obtain⟨xs,n,hd,hl,hx⟩:=trod_st (l:=[(3,0),(4,1),(57,2)]) Xm h;have c1:Tryz.prog.cellsOf 3=1:=by kernel_rfl
 have c2:Tryz.prog.cellsOf 4=1:=by kernel_rfl
 have c3:Tryz.prog.cellsOf 57=98:=by kernel_rfl
 have c4:Tryz.prog.cellsOf 59=100:=by kernel_rfl
 rw[c4] at hl;have hd:=(DataW.agg.inj hd).symm;match xs,hd,hx with
 |[(a,pa),(b,pb),(c,pc)],hd,hx=>
  simp only[List.map_cons,List.map_nil,List.cons.injEq,and_true] at hd;obtain⟨rfl,rfl,rfl⟩:=hd;have h0:=hx 0 _ _ rfl;have h1:=hx 1 _ _ rfl;have h2:=hx 2 _ _ rfl;rw[c1] at h0;rw[c2] at h1;rw[c3] at h2;have g0:=QAq h0;have g1:=trod_bo h1;have g2:=trod_hdr h2;have e0:=k2q cs 0 1;have e1:=k2q cs 1 1;have e2:=Jnq cs 2 98 hl;rw[g0] at e0;rw[g1] at e1;rw[g2] at e2;rw[List.drop_zero] at e0;rw[e0,e1,e2];rfl
def itD:DataW H:=.agg [.lit (.bool true),evD]
theorem trod_gap(h:DataW.trod enc Tryz.prog w base spare held fuel 61 cs=some (itD,p)):cs= .bool true::evC:=by
 obtain⟨xs,n,hd,hl,hx⟩:=trod_st (l:=[(4,0),(59,1)]) Xm h;have c2:Tryz.prog.cellsOf 4=1:=by kernel_rfl
 have c3:Tryz.prog.cellsOf 59=100:=by kernel_rfl
 have c4:Tryz.prog.cellsOf 61=101:=by kernel_rfl
 rw[c4] at hl;have hd:=(DataW.agg.inj hd).symm;match xs,hd,hx with
 |[(a,pa),(b,pb)],hd,hx=>
  simp only[List.map_cons,List.map_nil,List.cons.injEq,and_true] at hd;obtain⟨rfl,rfl⟩:=hd;have h0:=hx 0 _ _ rfl;have h1:=hx 1 _ _ rfl;rw[c2] at h0;rw[c3] at h1;have g0:=trod_bo h0;have g1:=trod_evt h1;have e0:=k2q cs 0 1;have e1:=Jnq cs 1 100 hl;rw[g0] at e0;rw[g1] at e1;rw[List.drop_zero] at e0;rw[e0,e1];rfl
theorem gap_cells:cellsV (rho0 101) gapV= .bool true::evC:=by kernel_rfl
end
theorem gap_rel{h:Heap}(hn:3<=h.next)(hk:globK h=true)(hg:h.val 0=some gapV):GRel cfg glT (ctx0 h):=λg w hg' hw nw σ=>by
 unfold glT at hw;split at hw
 ·rename_i e;obtain rfl:=Nat.eq_of_beq_eq_true e;cases hw;refine RV.of_one ⟨0,0,_,rfl,(by show 0<h.next;omega),hg,by exact Nat.le_refl _,λ_=>rfl,.inr rfl,?_⟩ Z Z;have e:((zjq gapV).drop 0).take (itmW itG).size=lfW (itmW itG):=by kernel_rfl
  rw[e];exact lf_rs Xm
 ·exact(GRel.mono (Γ':=ctx0 h) (Y2q (Nat.ble_eq_true_of_le hn) hk) ⟨Nat.le_refl _,λ_ _=>rfl,λ_ h=>h.1,λ_ _=>rfl⟩) g w hg' hw nw σ
end
end Go.Proofs.YtpjfmknefefapaaGreatDoor

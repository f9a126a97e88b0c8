/-
  What the proof of TaleNames stands on, part 4. No condition.
-/
import Derived.Test.YthicobhmmikngaaGreatDoorProg
import Derived.Test.YthicobhmmikngaaGreatDoorZTaleNamesC
set_option linter.unusedSimpArgs false
set_option linter.unusedVariables false
namespace Go.Proofs.YthicobhmmikngaaGreatDoor
section
open Go.RowKit
noncomputable def inK(k:IntKind)(z:Int):Prop:=match k with
 |.i64=>-9223372036854775808<=z/\z<9223372036854775808
 |.u64=>0<=z/\z<18446744073709551616
 |.u32=>0<=z/\z<4294967296
 |.u8=>0<=z/\z<256
 |k=>k.wrap z=z
theorem vYq{k:IntKind}{z:Int}(h:inK k z):yYq k z=z:=by
 cases k<;>simp only[inK] at h
 case i64=>
  cases z with
  |ofNat a=>
   simp only[yYq];have:Nat.blt a 9223372036854775808=true:=by simp only[Int.ofNat_eq_natCast] at h;simpa[Nat.blt_eq] using (by omega:a<9223372036854775808)
   rw[this]
  |negSucc a=>
   simp only[yYq];have:Nat.blt a 9223372036854775808=true:=by simpa[Nat.blt_eq] using (by omega:a<9223372036854775808)
   rw[this]
 case u64=>
  obtain⟨a,rfl⟩:=Int.eq_ofNat_of_zero_le h.1;show Int.ofNat (a%_)=_;rw[Nat.mod_eq_of_lt Xa];rfl
 case u32=>
  obtain⟨a,rfl⟩:=Int.eq_ofNat_of_zero_le h.1;show Int.ofNat (a%_)=_;rw[Nat.mod_eq_of_lt Xa];rfl
 case u8=>
  obtain⟨a,rfl⟩:=Int.eq_ofNat_of_zero_le h.1;show Int.ofNat (a%_)=_;rw[Nat.mod_eq_of_lt Xa];rfl
 all_goals (cases z<;>exact h)
theorem jwq{m n:Int}:ltI m n=true↔m<n:=by
 unfold ltI;split
 ·simp[Nat.blt_eq]
 ·simp;omega
 ·simp;omega
 ·rename_i a b;simp[Nat.blt_eq];omega
theorem ltI_not{m n:Int}:ltI m n=false↔¬m<n:=by rw[<-Bool.not_eq_true,jwq]
theorem jzq{m n:Int}:eqI m n=true↔m=n:=by
 rw[uVq];simp
section
variable {C:Cfg} {G:Nat->Option W} {m:Nat} {ops:Array Oper} {l:List Oper} {i:Nat} {es:List (Nat×EvW)} {fr:FrW} {hp:HpW} {nw:Nat} {R:Res} {K:FrW->HpW->Nat->Res->Prop} {o:Oper}
theorem op_val{w w':W}(hw:yZq ops fr o=some true)(hx:yLq C G fr o.op=some w)(e:w=w')(h:OpW C G m ops l (putW fr o.dst w') hp nw R K):OpW C G m ops (o::l) fr hp nw R K:=kwq hw (e▸hx) h
theorem jFq{t:TypeId}{x:Operand}{b off:Nat}{ti:TyI}{ty:TypeId}{v r:W}(hx:evW C G fr x=some (.ptr b off))(hi:C.ty t=some ti)(hb:hget hp b=some (ty,v))(hg:ydq 50 v off ti.size ti.agg=some r):opHW C G fr hp nw (.load t x)=some (r,hp,nw,.loadO b):=by
 simp only[opHW,hLoad,hx,hi,hb,hg]
theorem st_own{t:TypeId}{x y:Operand}{b off:Nat}{ti:TyI}{ty:TypeId}{u v v':W}{hp':HpW}(hx:evW C G fr x=some (.ptr b off))(hy:evW C G fr y=some u)(hi:C.ty t=some ti)(hb:hget hp b=some (ty,v))(hs:Nat.beq u.size ti.size=true)(hg:qNq 50 v off u=some v')(hh:hset hp b (ty,v')=hp'):opHW C G fr hp nw (.store t x y)=some (.undef,hp',nw,.storeO b):=by
 simp only[opHW,hStore,hx,hy,hi,hb,hs,hg,hh]
theorem cut_hi{t:TypeId}{x z:Operand}{j k:TyI}{e:TypeId}{b base off len esz h:Nat}{lim:Option Nat}{u:W}(hj:C.ty t=some j)(hd:j.d= .slice e)(hx:evW C G fr x=some (.sl b base off len esz lim))(hk:C.ty e=some k)(hs:Nat.beq k.size esz=true)(hz:evW C G fr z=some u)(hn:natW u=some h)(hle:h<=len):
  yLq C G fr (.slice t x none (some z) none)=some (.sl b base (off+0*esz) (h-0) esz (y5q 0 lim)):=by
 have:(Nat.ble 0 h&&Nat.ble h len)=true:=by rw[Nat.ble_eq_true_of_le hle];simp
 simp only[yLq,wSlice,hj,hd,hx,hk,hs,bndW,hz,hn,cutW,this]
theorem cut_lo{t:TypeId}{x z:Operand}{j k:TyI}{e:TypeId}{b base off len esz l:Nat}{lim:Option Nat}{u:W}(hj:C.ty t=some j)(hd:j.d= .slice e)(hx:evW C G fr x=some (.sl b base off len esz lim))(hk:C.ty e=some k)(hs:Nat.beq k.size esz=true)(hz:evW C G fr z=some u)(hn:natW u=some l)(hle:l<=len)(h0:Nat.beq l 0=false):
  yLq C G fr (.slice t x (some z) none none)=some (.sl b off (off+l*esz) (len-l) esz (y5q l lim)):=by
 have:(Nat.ble l len&&Nat.ble len len)=true:=by rw[Nat.ble_eq_true_of_le hle];simp
 simp only[yLq,wSlice,hj,hd,hx,hk,hs,bndW,hz,hn,cutW,this,h0]
theorem ix_sl{t:TypeId}{x y:Operand}{j k:TyI}{e:TypeId}{b base off len esz i:Nat}{lim:Option Nat}{u:W}(hj:C.ty t=some j)(hd:j.d= .slice e)(hx:evW C G fr x=some (.sl b base off len esz lim))(hy:evW C G fr y=some u)(hn:natW u=some i)(hk:C.ty e=some k)(hs:Nat.beq k.size esz=true)(hi:i<len):
  yLq C G fr (.indexAddr t x y)=some (.ptr b (off+i*esz)):=by
 have:Nat.blt i len=true:=by simpa[Nat.blt_eq] using hi
 simp only[yLq,qmq,hj,hx,hy,hn,hd,hk,this,hs]
theorem xaq{t:TypeId}{x y:Operand}{j k:TyI}{e:TypeId}{b off n i:Nat}{u:W}(hj:C.ty t=some j)(hd:j.d= .arr n e)(hx:evW C G fr x=some (.ptr b off))(hy:evW C G fr y=some u)(hn:natW u=some i)(hk:C.ty e=some k)(hi:i<n):
  yLq C G fr (.indexAddr t x y)=some (.ptr b (off+i*k.size)):=by
 have:Nat.blt i n=true:=by simpa[Nat.blt_eq] using hi
 simp only[yLq,qmq,hj,hx,hy,hn,hd,hk,this]
theorem ix_fz{t:TypeId}{x y:Operand}{j k:TyI}{e:TypeId}{l:List W}{esz i:Nat}{full:Bool}{u r:W}(hj:C.ty t=some j)(hd:j.d= .slice e)(hx:evW C G fr x=some (.fz l esz full))(hy:evW C G fr y=some u)(hn:natW u=some i)(hk:C.ty e=some k)(hs:Nat.beq k.size esz=true)(hi:l[i]? =some r):
  yLq C G fr (.indexAddr t x y)=some (.fel r):=by
 simp only[yLq,qmq,hj,hx,hy,hn,hd,hk,hi,hs]
theorem ix_fel{t:TypeId}{x y:Operand}{j k:TyI}{e:TypeId}{v r u:W}{n i:Nat}(hj:C.ty t=some j)(hd:j.d= .arr n e)(hx:evW C G fr x=some (.fel v))(hy:evW C G fr y=some u)(hn:natW u=some i)(hk:C.ty e=some k)(hi:i<n)(h0:Nat.beq k.size 0=false)(hg:ydq 50 v (i*k.size) k.size k.agg=some r):
  yLq C G fr (.indexAddr t x y)=some (.fel r):=by
 have:Nat.blt i n=true:=by simpa[Nat.blt_eq] using hi
 simp only[yLq,qmq,hj,hx,hy,hn,hd,hk,this,h0,hg]
end
section
variable {C:Cfg} {hp:HpW} {nw:Nat} {ts tx e ty:TypeId} {j k:TyI} {x:W} {news olds l:List W}
theorem app_nil(hj:C.ty ts=some j)(hd:j.d= .slice e)(hk:C.ty e=some k)(hz:Nat.beq k.size 0=false)(hs:srcW C hp tx k.size x=some news)(hn:news≠[])(h1:news.length*k.bytes<=140737488355328)(h2:news.length<=70368744177664):
  appW C hp nw ts tx .nils x=some (.sl nw 0 0 news.length k.size none,(nw,e,.arr (news.length*k.size) k.size news)::hp,nw+1,.gen):=by
 cases news with
 |nil=>exact absurd rfl hn
 |cons a r=>simp only[appW,hj,hd,hk,hz,hs,Nat.ble_eq_true_of_le h1,Nat.ble_eq_true_of_le h2,Bool.and_self]
theorem app_sl{b base off len:Nat}{v:W}(hj:C.ty ts=some j)(hd:j.d= .slice e)(hk:C.ty e=some k)(hz:Nat.beq k.size 0=false)(hs:srcW C hp tx k.size x=some news)(hn:news≠[])(h1:(len+news.length)*k.bytes<=140737488355328)(h2:len+news.length<=70368744177664)(hg:hget hp b=some (ty,v))
  (h3:v.size<off+(len+news.length)*k.size) (ht:tyApp ty e=true) (ho:yTq 50 v off len k.size=some olds):
  appW C hp nw ts tx (.sl b base off len k.size none) x=some (.sl nw 0 0 (len+news.length) k.size none,(nw,e,.arr ((len+news.length)*k.size) k.size (olds++news))::hdel hp b,nw+1,.updO b):=by
 have h3:Nat.ble (off+(len+news.length)*k.size) v.size=false:=by
  cases hq:Nat.ble (off+(len+news.length)*k.size) v.size with
  |true=>have:=Zb hq;omega
  |false=>rfl
 cases news with
 |nil=>exact absurd rfl hn
 |cons a r=>simp only[appW,hj,hd,hk,hz,hs,Nat.ble_eq_true_of_le h1,Nat.ble_eq_true_of_le h2,Bool.and_self,show Nat.beq k.size k.size=true by simp,hg,h3,ht,ho]
theorem ap_op{G:Nat->Option W}{fr:FrW}{x y:Operand}{s u:W}{r:OutW}(hx:evW C G fr x=some s)(hy:evW C G fr y=some u)(h:appW C hp nw ts tx s u=some r):opHW C G fr hp nw (.call ⟨.builtin .append, #[x,y], #[ts,tx]⟩)=some r:=by
 simp only[opHW,hAppend,hx,hy,h]
end
section
variable {C:Cfg} {G:Nat->Option W} {m k0:Nat} {rd:Bool} {fr:FrW} {hp:HpW} {nw:Nat} {R:Res} {Q:q8q} {x:Exit}
theorem q_seqx{y:Code}(hx:x≠ .normal)(h:Q x fr hp nw R):QSeq C G m k0 rd y Q x fr hp nw R:=by cases x<;>first|exact h|exact absurd rfl hx
theorem q_blk{id:Nat}(h:Q .normal fr hp nw R):x2q id Q (.exit id) fr hp nw R:=by simp only[x2q,show Nat.beq id id=true by simp];exact h
theorem q_blkx{id id':Nat}(hne:Nat.beq id' id=false)(h:Q (.exit id') fr hp nw R):x2q id Q (.exit id') fr hp nw R:=by simp only[x2q,hne];exact h
theorem q_blkn{id:Nat}(hx:∀i,x≠ .exit i)(h:Q x fr hp nw R):x2q id Q x fr hp nw R:=by cases x<;>first|exact h|exact absurd rfl (hx _)
theorem vgq{α:Type}{I:α->Prop}{F:α->FrW}{H:α->HpW}{N:α->Nat}{RR:α->Res}{μ:α->Nat}{k:Nat}(hx:x≠ .normal)(h:Q x fr hp nw R):QRound C G m k0 I F H N RR μ k Q x fr hp nw R:=by cases x<;>first|exact h|exact absurd rfl hx
end
noncomputable def subF(fr:FrW):FrW->Prop
 |[]=>True
 |(t,w)::l=>getW fr t=some w/\subF fr l
theorem v3q{fr:FrW}:∀{l:FrW},subF fr l->∀t w,getW l t=some w->getW fr t=some w
 |[],_,t,w,h=>by simp[getW] at h
 |(k,u)::l,hs,t,w,h=>by
  simp only[getW] at h;split at h
  ·rename_i e;rw[Nat.beq_eq] at e;subst e;cases h;exact hs.1
  ·exact v3q hs.2 t w h
theorem q6q{C:Cfg}{G:Nat->Option W}{m k0:Nat}{fr fr2:FrW}{hp hp2:HpW}{nw nw2:Nat}{R:Res}(hf:subF fr fr2)(hh:hp=hp2)(hn:nw=nw2):Ent C G m k0 fr hp nw R fr2 hp2 nw2 R:=by
 subst hh;subst hn;exact ent_drop (v3q hf)
theorem co_post{C:Cfg}{G:Nat->Option W}{m k0:Nat}{rd:Bool}{c:Code}{fr:FrW}{hp:HpW}{nw:Nat}{R:Res}{Q:q8q}
  (h:CoW C G m k0 rd c fr hp nw R λx fr hp nw R=>∃fr2 hp2 nw2 R2,Ent C G m k0 fr hp nw R fr2 hp2 nw2 R2/\Q x fr2 hp2 nw2 R2):CoW C G m k0 rd c fr hp nw R Q:=λΓ X st h1 h2 h3 h4 h5=>by
 obtain⟨n,x,st',Γ',X',fr',hp',R',g1,g2,g3,g4,fr2,hp2,nw2,R2,e,g5⟩:=h Γ X st h1 h2 h3 h4 h5;obtain⟨Γ2,X2,e1,e2,e3⟩:=e Γ' X' st' rfl (g3.mle (h1▸h2)) g2;exact⟨n,x,st',Γ2,X2,fr2,hp2,R2,g1,e2,g3.trans e3,g4,e1▸g5⟩
theorem co_cut{α:Type}{C:Cfg}{G:Nat->Option W}{m k0:Nat}{rd:Bool}{x y:Code}{fr:FrW}{hp:HpW}{nw:Nat}{R:Res}{Q:q8q}(I:α->Prop)(F:α->FrW)(H:α->HpW)(N:α->Nat)
  (hx:CoW C G m k0 rd x fr hp nw R λe fr hp nw R'=>e= .normal/\∃a,I a/\Ent C G m k0 fr hp nw R' (F a) (H a) (N a) R) (hy:∀a,I a->CoW C G m k0 rd y (F a) (H a) (N a) R Q):CoW C G m k0 rd (.seq x y) fr hp nw R Q:=
 co_seq (co_post (co_mono hx λe fr hp nw R' h=>by
  obtain⟨rfl,a,h1,h2⟩:=h;exact⟨_,_,_,_,h2,hy a h1⟩))
noncomputable def QFin(C:Cfg)(G:Nat->Option W)(m k0:Nat)(rs:List ResultVar)(Q:W->HpW->Nat->Res->Prop):q8q:=λx fr hp nw R=>∃fr2 hp2 nw2 R2,Ent C G m k0 fr hp nw R fr2 hp2 nw2 R2/\(x= .normal\/x= .ret)/\∃w,outW C fr2 hp2 rs=some w/\Q w hp2 nw2 R2
theorem spec_in{C:Cfg}{G:Nat->Option W}{m:Nat}{hp:HpW}{R:Res}{f:FuncId}{fn:Func}{c:Code}{ws:List W}{Q:W->HpW->Nat->Res->Prop}(hk:C.known f=none)(hf:C.fn f=some fn)(hb:fn.body=some c)(hn:ws.length<=fn.ntmps)
  (h:∀k0,CoW C G m k0 false c (argsW 0 ws) hp m R (QFin C G m k0 fn.results.toList Q)):Spec C G f m ws hp R Q:=spec_of hk hf hb hn λk0=>co_post (h k0)
theorem fin{C:Cfg}{G:Nat->Option W}{m k0:Nat}{rs:List ResultVar}{Q:W->HpW->Nat->Res->Prop}{x:Exit}{fr fr2:FrW}{hp hp2:HpW}{nw nw2:Nat}{R R2:Res}{w:W}(hx:x= .normal\/x= .ret)(e:Ent C G m k0 fr hp nw R fr2 hp2 nw2 R2)(ho:outW C fr2 hp2 rs=some w)(hq:Q w hp2 nw2 R2):
  QFin C G m k0 rs Q x fr hp nw R:=⟨fr2,hp2,nw2,R2,e,hx,w,ho,hq⟩
theorem ent_low{C:Cfg}{G:Nat->Option W}{m k0 nw nw2:Nat}{fr fr2:FrW}{hp hp2:HpW}{R:Res}(hm:m<=nw2)(hn:nw2<=nw)(hf:subF fr fr2)(hr:fr2.all (λp=>refB nw2 p.2)=true)(hh:∀b x,hget hp2 b=some x->b<nw2/\hget hp b=some x/\refB nw2 x.2=true)(nd:(hp2.map (·.1)).Nodup):
  Ent C G m k0 fr hp nw R fr2 hp2 nw2 R:=λΓ X st hnw hmn s=>by
 let Γ2:Ctx:=⟨nw2,Γ.σ,Γ.D,Γ.h⟩
 have back:∀{w:W} {v:V},refB nw2 w=true->RV Γ w v->RV Γ2 w v:=λ{w v} q1 q2=>⟨q2.1,by
  have h1:=x1q (τ:=λb=>b) (Γ:=Γ) (Γ':=Γ) ⟨λ_ h=>h,λ_ _=>rfl,λ_ h=>h,λ_ _=>rfl⟩ q2.2;exact j3q (Γ:=Γ) (Γ':=Γ2) (τ:=λb=>b) rfl (λ_ _=>rfl) (λ_ h=>h) (λ_ _=>rfl) q1 h1⟩
 have howns:∀{c},Owns Γ2 hp2 c->Owns Γ hp c:=λ{c} h=>by
  obtain⟨k,y,g1,g2⟩:=h;exact⟨k,_,(hh k y g1).2.1,g2⟩
 refine⟨Γ2,X,rfl,⟨s.hh,λt w hw=>?_,⟨s.sat.wf,λb ty w hb=>?_,λb c x y hx hy e=>s.sat.inj b c x y (hh b x hx).2.1 (hh c y hy).2.1 e,nd,s.sat.dX,s.sat.xlt,s.sat.dlt,s.sat.res,s.sat.gl⟩,λd hd=>?_,s.nd⟩,⟨λ_ _=>rfl,λ_=>hm,Nat.le_refl _,λ_ _ _ _=>rfl,λ_ h=>h,λ_ h=>.inl h,λb x _ h=>⟨x,(hh b x h).2.1⟩,λb x hb h=>.inr ⟨b,x,hb,(hh b x h).2.1,rfl⟩,λ_ h=>.inl h,λ_ h _ _=>h⟩⟩
 ·obtain⟨v,g3,g4⟩:=s.fr _ _ (v3q hf t w hw);refine⟨v,g3,back ?_ g4⟩
  have key:∀{l:FrW},getW l t=some w->∃p∈l,p.2=w:=λ{l}=>by
   induction l with
   |nil=>intro h;simp[getW] at h
   |cons p l ih=>
    obtain⟨k,u⟩:=p;intro h;simp only[getW] at h;split at h
    ·cases h;exact⟨_,List.mem_cons_self ..,rfl⟩
    ·obtain⟨p,h1,h2⟩:=ih h;exact⟨p,List.mem_cons_of_mem _ h1,h2⟩
  obtain⟨p,h1,rfl⟩:=key hw;exact(List.all_eq_true.1 hr) p h1
 ·obtain⟨g1,g2,g3⟩:=hh b _ hb;obtain⟨q1,q2,q3,v,q4,q5⟩:=s.sat.own _ _ _ g2;exact⟨g1,q2,q3,v,q4,back g3 q5⟩
 ·obtain⟨q1,q2,q3,q4,q5,q6⟩:=s.ds d hd;exact⟨q1,q2,q3,λh=>q4 (howns h),q5,q6⟩
noncomputable def subH(hp:HpW)(nw:Nat):HpW->Prop
 |[]=>True
 |(b,x)::l=>(b<nw/\hget hp b=some x/\refB nw x.2=true)/\subH hp nw l
theorem x7q{hp:HpW}{nw:Nat}:∀{l:HpW},subH hp nw l->∀b x,hget l b=some x->b<nw/\hget hp b=some x/\refB nw x.2=true
 |[],_,b,x,h=>by simp[hget] at h
 |(k,y)::l,hs,b,x,h=>by
  rw[zOq] at h;split at h
  ·rename_i e;subst e;cases h;exact hs.1
  ·exact x7q hs.2 b x h
noncomputable def subR(τ:Nat->Nat)(nw2:Nat)(fr:FrW):FrW->Prop
 |[]=>True
 |(t,w)::l=>(getW fr t=some (renW τ w)/\refB nw2 w=true)/\subR τ nw2 fr l
theorem subR_get{τ:Nat->Nat}{nw2:Nat}{fr:FrW}:∀{l:FrW},subR τ nw2 fr l->∀t w,getW l t=some w->getW fr t=some (renW τ w)/\refB nw2 w=true
 |[],_,t,w,h=>by simp[getW] at h
 |(k,u)::l,hs,t,w,h=>by
  simp only[getW] at h;split at h
  ·rename_i e;rw[Nat.beq_eq] at e;subst e;cases h;exact hs.1
  ·exact subR_get hs.2 t w h
noncomputable def subRH(τ:Nat->Nat)(nw2:Nat)(hp:HpW):HpW->Prop
 |[]=>True
 |(b,x)::l=>(b<nw2/\hget hp (τ b)=some (x.1,renW τ x.2)/\refB nw2 x.2=true)/\subRH τ nw2 hp l
theorem kSq{τ:Nat->Nat}{nw2:Nat}{hp:HpW}:∀{l:HpW},subRH τ nw2 hp l->∀b x,hget l b=some x->b<nw2/\hget hp (τ b)=some (x.1,renW τ x.2)/\refB nw2 x.2=true
 |[],_,b,x,h=>by simp[hget] at h
 |(k,y)::l,hs,b,x,h=>by
  rw[zOq] at h;split at h
  ·rename_i e;subst e;cases h;exact hs.1
  ·exact kSq hs.2 b x h
noncomputable def tau1(b k:Nat):Nat->Nat:=λi=>match Nat.beq i b with
 |true=>k
 |false=>i
theorem v2q(b k:Nat):tau1 b k b=k:=by simp[tau1]
theorem koq{b k i:Nat}(h:i≠b):tau1 b k i=i:=by
 unfold tau1
 have:Nat.beq i b=false:=by
  cases hq:Nat.beq i b with
  |true=>exact absurd (Nat.eq_of_beq_eq_true hq) h
  |false=>rfl
 rw[this]
theorem xeq{C:Cfg}{G:Nat->Option W}{m k0 nw b k:Nat}{fr fr2:FrW}{hp hp2:HpW}{R:Res}(hm:m<=b)(hb:b<=k)(hk:k<nw)(hf:subR (tau1 b k) (b+1) fr fr2)(hh:subRH (tau1 b k) (b+1) hp hp2)(nd:(hp2.map (·.1)).Nodup):Ent C G m k0 fr hp nw R fr2 hp2 (b+1) R:=by
 refine ent_num (tau1 b k) Xa (λi hi=>koq Xa) (λi hi=>?_) (λi h1 h2=>?_) (subR_get hf) (kSq hh) (λi j x y hx hy e=>?_) nd
 ·by_cases e:i=b
  ·subst e;rw[v2q];exact hk
  ·rw[koq e];omega
 ·by_cases e:i=b
  ·subst e;rw[v2q];omega
  ·rw[koq e];exact h1
 ·have h1:=(kSq hh i x hx).1;have h2:=(kSq hh j y hy).1;by_cases e1:i=b<;>by_cases e2:j=b
  ·rw[e1,e2]
  ·subst e1;rw[v2q,koq e2] at e;omega
  ·subst e2;rw[v2q,koq e1] at e;omega
  ·rwa[koq e1,koq e2] at e
theorem handed2{b0 b1 nw:Nat}{t0 t1:TypeId}{w0 w1:W}{hp:HpW}(h0:hget hp b0=some (t0,renW (numC [b0,b1] nw) w0))(h1:hget hp b1=some (t1,renW (numC [b0,b1] nw) w1))(r0:refB 2 w0=true)(r1:refB 2 w1=true):Handed [b0,b1] nw [(0,t0,w0),(1,t1,w1)] hp:=λi ty w h=>by
 rw[zOq,zOq] at h;split at h
 ·rename_i e;subst e;cases h;exact⟨by simp,r0,b0,rfl,h0⟩
 ·split at h
  ·rename_i e;subst e;cases h;exact⟨by simp,r1,b1,rfl,h1⟩
  ·simp[hget] at h
noncomputable def bN(l:List Nat):List W:=l.map λc=>.int .u8 (.ofNat c)
theorem xlq(l:List Nat):(bN l).length=l.length:=by simp[bN]
theorem x0q:∀l:List Nat,purL (bN l)=true
 |[]=>rfl
 |_::l=>by simp only[bN,List.map_cons,purL,purW,Bool.true_and];exact x0q l
theorem bN_at{l:List Nat}{i:Nat}(h:i<l.length):(bN l)[i]? =some (.int .u8 (.ofNat (l.getD i 0))):=by
 simp[bN,List.getElem?_map,List.getElem?_eq_getElem h,List.getD]
theorem uEq{w:W}(h:w.leaf=true):w.size=1:=by cases w<;>simp[W.leaf] at h<;>rfl
theorem get_leaf{w:W}(f:Nat)(h:w.leaf=true):ydq (f+1) w 0 1 false=some w:=by
 unfold ydq;simp[uEq h,W.leaf_agg h,h]
theorem put_leaf{v w:W}(f:Nat)(h:v.leaf=true)(h':w.leaf=true):qNq (f+1) v 0 w=some w:=by
 unfold qNq;simp[uEq h,uEq h',W.leaf_agg h,W.leaf_agg h',h,h']
theorem qkq{n i f:Nat}{l:List W}{x:W}(h:l[i]? =some x)(hx:x.leaf=true):ydq (f+2) (.arr n 1 l) i 1 false=some x:=by
 unfold ydq;have:(Nat.beq i 0&&Nat.beq 1 (W.arr n 1 l).size&&false==(W.arr n 1 l).isAgg)=false:=by simp[W.isAgg]
 rw[this];simp only[Nat.div_one,Nat.mod_one,h];exact get_leaf f hx
theorem x9q{n i f:Nat}{l:List W}{x y:W}(h:l[i]? =some x)(hx:x.leaf=true)(hy:y.leaf=true):qNq (f+2) (.arr n 1 l) i y=some (.arr n 1 (l.set i y)):=by
 unfold qNq;have:(Nat.beq i 0&&Nat.beq y.size (W.arr n 1 l).size&&y.isAgg==(W.arr n 1 l).isAgg)=false:=by rw[W.leaf_agg hy,Bool.and_eq_false_iff];exact .inr rfl
 rw[this];simp only[Nat.div_one,Nat.mod_one,h,put_leaf f hx hy]
theorem x6q{n off k f:Nat}{l:List W}(hn:off+k<=n):yTq (f+1) (.arr n 1 l) off k 1=some ((l.drop off).take k):=by
 unfold yTq
 have:(Nat.beq 1 1&&Nat.beq (off%1) 0&&Nat.ble (off+k*1) n&&Nat.blt 0 1)=true:=by
  rw[Nat.mod_one,Nat.mul_one,Nat.ble_eq_true_of_le hn];rfl
 simp only[this,Nat.div_one]
theorem RVL_nil{Γ:Ctx}{vs:List V}:RVL Γ [] vs↔vs=[]:=by simp[RVL]
theorem RVL_cons{Γ:Ctx}{w:W}{ws:List W}{vs:List V}:RVL Γ (w::ws) vs↔∃v vs',vs=v::vs'/\RV Γ w v/\RVL Γ ws vs':=by simp only[RVL,RV]
theorem spec_run{C:Cfg}{G:Nat->Option W}{f:FuncId}{ws:List W}{w:W}{v:V}{vs:List V}{n:Nat}(h:∀h,yhq C n f vs h=some (v,h))(hv:∀Γ us,RVL Γ ws us->us=vs)(hw:∀Γ,RV Γ w v):vmq C G f 0 ws [] λw' hp' nw'=>w'=w/\hp'=[]/\nw'=0:=λR Γ X us h1 s hu=>by
 obtain rfl:=hv Γ us hu;exact⟨n,v,Γ,X,w,[],R,h Γ.h,s,Frm.refl _ _ _ _,hw Γ,rfl,rfl,rfl,h1⟩
theorem jRq{m n:Int}:(!ltI n m)=true↔m<=n:=by
 have:= @ltI_not n m;cases h:ltI n m<;>simp[h] at this⊢<;>omega
theorem jSq{m n:Int}:(!eqI m n)=true↔¬m=n:=by
 have:= @jzq m n;cases h:eqI m n<;>simp[h] at this⊢<;>exact this
theorem jYq{p:Prop} [Decidable p]:decide p=true↔p:=by simp
theorem qZq{b:Bool}:b=true↔b=true:=Iff.rfl
section
variable {C:Cfg} {G:Nat->Option W} {m:Nat} {ops:Array Oper} {l:List Oper} {i:Nat} {es:List (Nat×EvW)} {fr:FrW} {hp:HpW} {nw:Nat} {R:Res} {K:FrW->HpW->Nat->Res->Prop} {o:Oper}
theorem op_dec{b:Bool}{p:Prop}(hw:yZq ops fr o=some true)(hx:yLq C G fr o.op=some (.bool b))(hb:b=true↔p)(ht:p->OpW C G m ops l (putW fr o.dst (.bool true)) hp nw R K)(hf:¬p->OpW C G m ops l (putW fr o.dst (.bool false)) hp nw R K):OpW C G m ops (o::l) fr hp nw R K:=by
 cases b with
 |true=>exact kwq hw hx (ht (hb.1 rfl))
 |false=>exact kwq hw hx (hf λh=>by have:=hb.2 h;cases this)
theorem fl_dec{b:Bool}{p:Prop}(hw:yZq ops fr o=some true)(hx:yLq C G fr o.op=some (.bool b))(hb:b=true↔p)(ht:p->FlW C G m ops l (i+1) es (putW fr o.dst (.bool true)) hp nw R K)(hf:¬p->FlW C G m ops l (i+1) es (putW fr o.dst (.bool false)) hp nw R K):FlW C G m ops (o::l) i es fr hp nw R K:=by
 cases b with
 |true=>exact xFq hw hx (ht (hb.1 rfl))
 |false=>exact xFq hw hx (hf λh=>by have:=hb.2 h;cases this)
theorem op_bs{b:Bool}{p:Prop}{d:Nat}(hb:b=true↔p)(ht:p->OpW C G m ops l ((d,.bool true)::fr) hp nw R K)(hf:¬p->OpW C G m ops l ((d,.bool false)::fr) hp nw R K):OpW C G m ops l ((d,.bool b)::fr) hp nw R K:=by
 cases b with
 |true=>exact ht (hb.1 rfl)
 |false=>exact hf λh=>by have:=hb.2 h;cases this
theorem fl_bs{b:Bool}{p:Prop}{d:Nat}(hb:b=true↔p)(ht:p->FlW C G m ops l i es ((d,.bool true)::fr) hp nw R K)(hf:¬p->FlW C G m ops l i es ((d,.bool false)::fr) hp nw R K):FlW C G m ops l i es ((d,.bool b)::fr) hp nw R K:=by
 cases b with
 |true=>exact ht (hb.1 rfl)
 |false=>exact hf λh=>by have:=hb.2 h;cases this
theorem op_cmp{b:Bool}{p:Prop} [Decidable p](hw:yZq ops fr o=some true)(hx:yLq C G fr o.op=some (.bool b))(hb:b=true↔p)(h:OpW C G m ops l (putW fr o.dst (.bool (decide p))) hp nw R K):OpW C G m ops (o::l) fr hp nw R K:=
 kwq hw (by rw[hx];congr 2;rw[Bool.eq_iff_iff,hb];simp) h
theorem fl_cmp{b:Bool}{p:Prop} [Decidable p](hw:yZq ops fr o=some true)(hx:yLq C G fr o.op=some (.bool b))(hb:b=true↔p)(h:FlW C G m ops l (i+1) es (putW fr o.dst (.bool (decide p))) hp nw R K):FlW C G m ops (o::l) i es fr hp nw R K:=
 xFq hw (by rw[hx];congr 2;rw[Bool.eq_iff_iff,hb];simp) h
end
theorem co_dec{C:Cfg}{G:Nat->Option W}{m k0:Nat}{rd:Bool}{fr:FrW}{hp:HpW}{nw:Nat}{R:Res}{Q:q8q}{c:Operand}{x y:Code}{b:Bool}{p:Prop}(hc:evW C G fr c=some (.bool b))(hb:b=true↔p)(ht:p->CoW C G m k0 rd x fr hp nw R Q)(hf:¬p->CoW C G m k0 rd y fr hp nw R Q):CoW C G m k0 rd (.cond c x y) fr hp nw R Q:=
 co_cond hc (λh=>ht (hb.1 h)) (λh=>hf λhp=>by have:=hb.2 hp;rw[h] at this;cases this)
noncomputable def PS(C:Cfg)(G:Nat->Option W)(f:FuncId)(ws:List W)(w:W):Prop:=vmq C G f 0 ws [] λw' _ _=>w'=w
section
variable {C:Cfg} {G:Nat->Option W} {m:Nat} {ops:Array Oper} {l:List Oper} {i:Nat} {es:List (Nat×EvW)} {fr:FrW} {hp:HpW} {nw:Nat} {R:Res} {K:FrW->HpW->Nat->Res->Prop} {o:Oper} {x:Operand} {xs:Array Operand} {ats:Array TypeId} {f:FuncId} {a us c ws:List W} {w:W}
theorem step_ps{post:W->HpW->Nat->Res->Option EvW->Prop}(ho:o.op= .call ⟨.value x,xs,ats⟩)(hx:evW C G fr x=some (.fn f a c))(he:C.ext f=none)(hxs:evLW C G fr xs.toList=some us)(hws:a++us++c=ws)(sp:PS C G f ws w)(hpw:purL ws=true)(hw:purW w=true)(h:post w hp nw R (some .gen)):Step C G o fr hp nw R post:=by
 subst hws;exact vpq ho hx he hxs sp hpw λw' _ _ hq=>by subst hq;exact⟨hw,h⟩
theorem op_ps(hg:yZq ops fr o=some true)(ho:o.op= .call ⟨.value x,xs,ats⟩)(hx:evW C G fr x=some (.fn f a c))(he:C.ext f=none)(hxs:evLW C G fr xs.toList=some us)(hws:a++us++c=ws)(sp:PS C G f ws w)(hpw:purL ws=true)(hw:purW w=true)(h:OpW C G m ops l (putW fr o.dst w) hp nw R K):OpW C G m ops (o::l) fr hp nw R K:=
 xzq hg (step_ps ho hx he hxs hws sp hpw hw h)
theorem fl_ps(hg:yZq ops fr o=some true)(ho:o.op= .call ⟨.value x,xs,ats⟩)(hx:evW C G fr x=some (.fn f a c))(he:C.ext f=none)(hxs:evLW C G fr xs.toList=some us)(hws:a++us++c=ws)(sp:PS C G f ws w)(hpw:purL ws=true)(hw:purW w=true)(hc:evsW ops i .gen es=true)(h:FlW C G m ops l (i+1) ((i,.gen)::es) (putW fr o.dst w) hp nw R K):FlW C G m ops (o::l) i es fr hp nw R K:=
 Zuq hg (step_ps ho hx he hxs hws sp hpw hw ⟨hc,h⟩)
end
theorem v4q{fr:FrW}:∀{a b:FrW},subF fr a->subF fr b->subF fr (a++b)
 |[],b,_,h=>h
 |(t,w)::a,b,h,k=>⟨h.1,v4q h.2 k⟩
section
variable {C:Cfg} {G:Nat->Option W} {m k0:Nat} {rd:Bool} {fr:FrW} {hp hp':HpW} {nw nw':Nat} {R:Res} {Q:q8q} {c:Code}
theorem ZCq{α:Type}(I:α->Prop)(V:α->FrW)(kf:FrW)(H:α->HpW)(μ:α->Nat)(a0:α)(hk:subF fr kf)(h0:I a0)(hv:subF fr (V a0))(hh:hp=H a0)
  (step:∀a,I a->CoW C G m k0 rd c (V a++kf) (H a) nw R (QRound C G m k0 I (λa=>V a++kf) H (λ_=>nw) (λ_=>R) μ (μ a) Q)):CoW C G m k0 rd (.loop c) fr hp nw R Q:=
 kLq I (λa=>V a++kf) H (λ_=>nw) (λ_=>R) μ a0 h0 (q6q (v4q hv hk) hh rfl) step
theorem x8q{α:Type}{I:α->Prop}{V:α->FrW}{kf:FrW}{H:α->HpW}{μ:α->Nat}{k:Nat}{fr':FrW}(a:α)(ha:I a)(hμ:μ a<k)(hv:subF fr' (V a))(hk:subF fr' kf)(hh:hp=H a):
  QRound C G m k0 I (λa=>V a++kf) H (λ_=>nw) (λ_=>R) μ k Q .normal fr' hp nw R:=
 jOq a ha hμ (q6q (v4q hv hk) hh rfl)
end
theorem vwq{C:Cfg}{G:Nat->Option W}{f:FuncId}{m:Nat}{ws:List W}{hp:HpW}{P Q:W->HpW->Nat->Prop}(h:vmq C G f m ws hp P)(hi:∀w hp nw,P w hp nw->Q w hp nw):vmq C G f m ws hp Q:=λR Γ X vs h1 s hv=>by
 obtain⟨n,v,Γ',X',w',hp',R',g1,g2,g3,g4,g5,g6⟩:=h R Γ X vs h1 s hv;exact⟨n,v,Γ',X',w',hp',R',g1,g2,g3,g4,g5,hi _ _ _ g6⟩
section
variable {C:Cfg} {G:Nat->Option W} {m:Nat} {ops:Array Oper} {l:List Oper} {i:Nat} {es:List (Nat×EvW)} {fr:FrW} {hp:HpW} {nw:Nat} {R:Res} {K:FrW->HpW->Nat->Res->Prop} {o:Oper} {x:Operand} {xs:Array Operand} {ats:Array TypeId} {f:FuncId} {a us c ws:List W} {w:W} {b:Bool} {p:Prop}
theorem op_cz [Decidable p](hw:yZq ops fr o=some true)(hx:yLq C G fr o.op=some (.bool b))(h:OpW C G m ops l (putW fr o.dst (.bool (decide p))) hp nw R K)(hb:b=true↔p:=by first|exact jwq|exact jzq|exact jRq|exact jSq|exact jYq|exact qZq):OpW C G m ops (o::l) fr hp nw R K:=op_cmp hw hx hb h
theorem fl_cz [Decidable p](hw:yZq ops fr o=some true)(hx:yLq C G fr o.op=some (.bool b))(h:FlW C G m ops l (i+1) es (putW fr o.dst (.bool (decide p))) hp nw R K)(hb:b=true↔p:=by first|exact jwq|exact jzq|exact jRq|exact jSq|exact jYq|exact qZq):FlW C G m ops (o::l) i es fr hp nw R K:=fl_cmp hw hx hb h
theorem op_dz(hw:yZq ops fr o=some true)(hx:yLq C G fr o.op=some (.bool b))(ht:p->OpW C G m ops l (putW fr o.dst (.bool true)) hp nw R K)(hf:¬p->OpW C G m ops l (putW fr o.dst (.bool false)) hp nw R K)(hb:b=true↔p:=by first|exact jwq|exact jzq|exact jRq|exact jSq|exact jYq|exact qZq):OpW C G m ops (o::l) fr hp nw R K:=op_dec hw hx hb ht hf
theorem fl_dz(hw:yZq ops fr o=some true)(hx:yLq C G fr o.op=some (.bool b))(ht:p->FlW C G m ops l (i+1) es (putW fr o.dst (.bool true)) hp nw R K)(hf:¬p->FlW C G m ops l (i+1) es (putW fr o.dst (.bool false)) hp nw R K)(hb:b=true↔p:=by first|exact jwq|exact jzq|exact jRq|exact jSq|exact jYq|exact qZq):FlW C G m ops (o::l) i es fr hp nw R K:=fl_dec hw hx hb ht hf
theorem op_bz{d:Nat}(ht:p->OpW C G m ops l ((d,.bool true)::fr) hp nw R K)(hf:¬p->OpW C G m ops l ((d,.bool false)::fr) hp nw R K)(hb:b=true↔p:=by first|exact jwq|exact jzq|exact jRq|exact jSq|exact jYq|exact qZq):OpW C G m ops l ((d,.bool b)::fr) hp nw R K:=op_bs hb ht hf
theorem fl_bz{d:Nat}(ht:p->FlW C G m ops l i es ((d,.bool true)::fr) hp nw R K)(hf:¬p->FlW C G m ops l i es ((d,.bool false)::fr) hp nw R K)(hb:b=true↔p:=by first|exact jwq|exact jzq|exact jRq|exact jSq|exact jYq|exact qZq):FlW C G m ops l i es ((d,.bool b)::fr) hp nw R K:=fl_bs hb ht hf
theorem co_dz{k0:Nat}{rd:Bool}{Q:q8q}{cc:Operand}{x y:Code}(hc:evW C G fr cc=some (.bool b))(ht:p->CoW C G m k0 rd x fr hp nw R Q)(hf:¬p->CoW C G m k0 rd y fr hp nw R Q)(hb:b=true↔p:=by first|exact jwq|exact jzq|exact jRq|exact jSq|exact jYq|exact qZq):CoW C G m k0 rd (.cond cc x y) fr hp nw R Q:=co_dec hc hb ht hf
theorem op_pz(hg:yZq ops fr o=some true)(ho:o.op= .call ⟨.value x,xs,ats⟩)(hx:evW C G fr x=some (.fn f a c))(he:C.ext f=none)(hxs:evLW C G fr xs.toList=some us)(hws:a++us++c=ws)(sp:PS C G f ws w)(h:OpW C G m ops l (putW fr o.dst w) hp nw R K)(hpw:purL ws=true:=by first|rfl|assumption|(simp;done))(hw:purW w=true:=by first|rfl|assumption|(simp;done)):OpW C G m ops (o::l) fr hp nw R K:=op_ps hg ho hx he hxs hws sp hpw hw h
theorem fl_pz(hg:yZq ops fr o=some true)(ho:o.op= .call ⟨.value x,xs,ats⟩)(hx:evW C G fr x=some (.fn f a c))(he:C.ext f=none)(hxs:evLW C G fr xs.toList=some us)(hws:a++us++c=ws)(sp:PS C G f ws w)(h:FlW C G m ops l (i+1) ((i,.gen)::es) (putW fr o.dst w) hp nw R K)(hpw:purL ws=true:=by first|rfl|assumption|(simp;done))(hw:purW w=true:=by first|rfl|assumption|(simp;done))(hc:evsW ops i .gen es=true:=by first|rfl|kernel_rfl):FlW C G m ops (o::l) i es fr hp nw R K:=fl_ps hg ho hx he hxs hws sp hpw hw hc h
theorem fl_mz{w:W}{hp2:HpW}{nw2:Nat}{ev:EvW}(hw:yZq ops fr o=some true)(hx:opHW C G fr hp nw o.op=some (w,hp2,nw2,ev))(h:FlW C G m ops l (i+1) ((i,ev)::es) (putW fr o.dst w) hp2 nw2 R K)(hc:evsW ops i ev es=true:=by first|rfl|kernel_rfl):FlW C G m ops (o::l) i es fr hp nw R K:=fl_mem hw hx hc h
theorem op_pq(sp:PS C G f ws w)(h:OpW C G m ops l (putW fr o.dst w) hp nw R K)(hg:yZq ops fr o=some true:=by exact rfl)(ho:o.op= .call ⟨.value x,xs,ats⟩:=by exact rfl)(hx:evW C G fr x=some (.fn f a c):=by exact rfl)(he:C.ext f=none:=by exact rfl)(hxs:evLW C G fr xs.toList=some us:=by exact rfl)(hws:a++us++c=ws:=by exact rfl)(hpw:purL ws=true:=by first|rfl|assumption|(simp;done))(hw:purW w=true:=by first|rfl|assumption|(simp;done)):OpW C G m ops (o::l) fr hp nw R K:=op_ps hg ho hx he hxs hws sp hpw hw h
theorem fl_pq(sp:PS C G f ws w)(h:FlW C G m ops l (i+1) ((i,.gen)::es) (putW fr o.dst w) hp nw R K)(hg:yZq ops fr o=some true:=by exact rfl)(ho:o.op= .call ⟨.value x,xs,ats⟩:=by exact rfl)(hx:evW C G fr x=some (.fn f a c):=by exact rfl)(he:C.ext f=none:=by exact rfl)(hxs:evLW C G fr xs.toList=some us:=by exact rfl)(hws:a++us++c=ws:=by exact rfl)(hpw:purL ws=true:=by first|rfl|assumption|(simp;done))(hw:purW w=true:=by first|rfl|assumption|(simp;done))(hc:evsW ops i .gen es=true:=by first|rfl|kernel_rfl):FlW C G m ops (o::l) i es fr hp nw R K:=fl_ps hg ho hx he hxs hws sp hpw hw hc h
theorem op_ix(h:OpW C G m ops l (putW fr o.dst w) hp nw R K)(hw:yZq ops fr o=some true:=by exact rfl)(hx:yLq C G fr o.op=some w:=by first|exact ix_fz Z Z Z Z Z Z Z (by first|assumption|(simp;done))|exact ix_sl Z Z Z Z Z Z Z Xa|exact xaq Z Z Z Z Z Z Xa|exact rfl):OpW C G m ops (o::l) fr hp nw R K:=kwq hw hx h
theorem fl_ix(h:FlW C G m ops l (i+1) es (putW fr o.dst w) hp nw R K)(hw:yZq ops fr o=some true:=by exact rfl)(hx:yLq C G fr o.op=some w:=by first|exact ix_fz Z Z Z Z Z Z Z (by first|assumption|(simp;done))|exact ix_sl Z Z Z Z Z Z Z Xa|exact xaq Z Z Z Z Z Z Xa|exact rfl):FlW C G m ops (o::l) i es fr hp nw R K:=xFq hw hx h
end
inductive Kt where
 |seq (c:Code)
 |blk (i:Nat)
inductive At where
 |co (c:Code)
 |op (ops:Array Oper) (l:List Oper)
 |fl (ops:Array Oper) (l:List Oper) (i:Nat) (es:List (Nat×EvW))
 |ex (x:Exit)
structure Sit where
 at_:At
 ks:List Kt
 fr:FrW
 hp:HpW
 nw:Nat
@[reducible] noncomputable def QK(C:Cfg)(G:Nat->Option W)(m k0:Nat)(rd:Bool):List Kt->q8q->q8q
 |[],Q=>Q
 |.seq y::l,Q=>QSeq C G m k0 rd y (QK C G m k0 rd l Q)
 |.blk i::l,Q=>x2q i (QK C G m k0 rd l Q)
@[reducible] noncomputable def GoW(C:Cfg)(G:Nat->Option W)(m k0:Nat)(rd:Bool)(s:Sit)(R:Res)(Q:q8q):Prop:=match s with
 |⟨.co c,ks,fr,hp,nw⟩=>CoW C G m k0 rd c fr hp nw R (QK C G m k0 rd ks Q)
 |⟨.op ops l,ks,fr,hp,nw⟩=>OpW C G m ops l fr hp nw R λfr hp nw R=>QK C G m k0 rd ks Q .normal fr hp nw R
 |⟨.fl ops l i es,ks,fr,hp,nw⟩=>FlW C G m ops l i es fr hp nw R λfr hp nw R=>QK C G m k0 rd ks Q .normal fr hp nw R
 |⟨.ex x,ks,fr,hp,nw⟩=>QK C G m k0 rd ks Q x fr hp nw R
noncomputable def advC(C:Cfg)(G:Nat->Option W)(ks:List Kt)(fr:FrW)(hp:HpW)(nw:Nat):Code->Option Sit
 |.seq x y=>some ⟨.co x,.seq y::ks,fr,hp,nw⟩
 |.block i x=>some ⟨.co x,.blk i::ks,fr,hp,nw⟩
 |.skip=>some ⟨.ex .normal,ks,fr,hp,nw⟩
 |.label _=>some ⟨.ex .normal,ks,fr,hp,nw⟩
 |.exit i=>some ⟨.ex (.exit i),ks,fr,hp,nw⟩
 |.goto l=>some ⟨.ex (.goto l),ks,fr,hp,nw⟩
 |.ret=>some ⟨.ex .ret,ks,fr,hp,nw⟩
 |.region _ ops false=>some ⟨.op ops ops.toList,ks,fr,hp,nw⟩
 |.region _ ops true=>some ⟨.fl ops ops.toList 0 [],ks,fr,hp,nw⟩
 |.cond c x y=>match evW C G fr c with
  |some (.bool true)=>some ⟨.co x,ks,fr,hp,nw⟩
  |some (.bool false)=>some ⟨.co y,ks,fr,hp,nw⟩
  |_=>none
 |_=>none
noncomputable def advX(fr:FrW)(hp:HpW)(nw:Nat):Exit->List Kt->Option Sit
 |.normal,.seq y::l=>some ⟨.co y,l,fr,hp,nw⟩
 |x,.seq _::l=>some ⟨.ex x,l,fr,hp,nw⟩
 |.exit j,.blk i::l=>match Nat.beq j i with
  |true=>some ⟨.ex .normal,l,fr,hp,nw⟩
  |false=>some ⟨.ex (.exit j),l,fr,hp,nw⟩
 |x,.blk _::l=>some ⟨.ex x,l,fr,hp,nw⟩
 |_,[]=>none
noncomputable def adv(C:Cfg)(G:Nat->Option W)(b:Bool):Sit->Option (Bool×Sit)
 |⟨.co c,ks,fr,hp,nw⟩=>match advC C G ks fr hp nw c with
  |some s=>some (b,s)
  |none=>none
 |⟨.ex x,ks,fr,hp,nw⟩=>match advX fr hp nw x ks with
  |some s=>some (b,s)
  |none=>none
 |⟨.op _ [],ks,fr,hp,nw⟩=>some (b,⟨.ex .normal,ks,fr,hp,nw⟩)
 | ⟨.op ops (o::l),ks,fr,hp,nw⟩=>match yZq ops fr o with
  |some true=>match yLq C G fr o.op with
   |some w=>some (b,⟨.op ops l,ks,putW fr o.dst w,hp,nw⟩)
   |none=>match opHW C G fr hp nw o.op with
    |some (w,hp2,nw2,_)=>some (b,⟨.op ops l,ks,putW fr o.dst w,hp2,nw2⟩)
    |none=>none
  |some false=>some (b,⟨.op ops l,ks,putW fr o.dst .undef,hp,nw⟩)
  |none=>none
 |⟨.fl _ [] _ _,ks,fr,hp,nw⟩=>some (b,⟨.ex .normal,ks,fr,hp,nw⟩)
 | ⟨.fl ops (o::l) i es,ks,fr,hp,nw⟩=>match yZq ops fr o with
  |some true=>match yLq C G fr o.op with
   |some w=>some (b,⟨.fl ops l (i+1) es,ks,putW fr o.dst w,hp,nw⟩)
   |none=>match opHW C G fr hp nw o.op with
    |some (w,hp2,nw2,ev)=>some (evsW ops i ev es&&b,⟨.fl ops l (i+1) ((i,ev)::es),ks,putW fr o.dst w,hp2,nw2⟩)
    |none=>none
  |some false=>some (b,⟨.fl ops l (i+1) es,ks,putW fr o.dst .undef,hp,nw⟩)
  |none=>none
noncomputable def advN(C:Cfg)(G:Nat->Option W):Nat->Bool->Sit->Option (Bool×Sit)
 |0,b,s=>some (b,s)
 |n+1,b,s=>match adv C G b s with
  |some (b',s')=>advN C G n b' s'
  |none=>none
section
variable {C:Cfg} {G:Nat->Option W} {m k0:Nat} {rd:Bool} {R:Res} {Q:q8q}
theorem advC_ok{ks:List Kt}{fr:FrW}{hp:HpW}{nw:Nat}{c:Code}{s':Sit}(h:advC C G ks fr hp nw c=some s')(g:GoW C G m k0 rd s' R Q):CoW C G m k0 rd c fr hp nw R (QK C G m k0 rd ks Q):=by
 unfold advC at h;split at h
 ·cases h;exact co_seq g
 ·cases h;exact co_block g
 ·cases h;exact co_skip g
 ·cases h;exact co_label g
 ·cases h;exact co_exit g
 ·cases h;exact co_goto g
 ·cases h;exact co_ret g
 ·cases h;exact co_region g
 ·cases h;exact co_flow g
 ·split at h
  ·rename_i hc;cases h;exact co_true hc g
  ·rename_i hc;cases h;exact co_false hc g
  ·cases h
 ·cases h
theorem advX_ok{ks:List Kt}{fr:FrW}{hp:HpW}{nw:Nat}{x:Exit}{s':Sit}(h:advX fr hp nw x ks=some s')(g:GoW C G m k0 rd s' R Q):QK C G m k0 rd ks Q x fr hp nw R:=by
 unfold advX at h;split at h
 ·cases h;exact q_seq g
 ·rename_i x y l hx;cases h;exact q_seqx (λe=>hx e) g
 ·rename_i j i l;cases hb:Nat.beq j i with
  |true=>
   rw[hb] at h;cases h
   obtain rfl:=Nat.eq_of_beq_eq_true hb;exact q_blk g
  |false=>rw[hb] at h;cases h;exact q_blkx hb g
 ·rename_i x i l hx;cases h;exact q_blkn (λj e=>hx j e) g
 ·cases h
theorem adv_ok{b b':Bool}:∀{s s':Sit},adv C G b s=some (b',s') ->(b'=true->b=true)/\(b'=true->GoW C G m k0 rd s' R Q->GoW C G m k0 rd s R Q)
 |⟨.co c,ks,fr,hp,nw⟩,s',h=>by
  simp only[adv] at h;split at h
  ·rename_i h1;cases h;exact⟨λe=>e,λe g=>advC_ok h1 g⟩
  ·cases h
 |⟨.ex x,ks,fr,hp,nw⟩,s',h=>by
  simp only[adv] at h;split at h
  ·rename_i h1;cases h;exact⟨λe=>e,λe g=>advX_ok h1 g⟩
  ·cases h
 |⟨.op _ [],ks,fr,hp,nw⟩,s',h=>by cases h;exact⟨λe=>e,λe g=>op_nil g⟩
 | ⟨.op ops (o::l),ks,fr,hp,nw⟩,s',h=>by
  simp only[adv] at h;split at h
  ·rename_i hw;split at h
   ·rename_i w hx;cases h;exact⟨λe=>e,λe g=>kwq hw hx g⟩
   ·split at h
    ·rename_i hx;cases h;exact⟨λe=>e,λe g=>op_mem hw hx g⟩
    ·cases h
  ·rename_i hw;cases h;exact⟨λe=>e,λe g=>op_skip hw g⟩
  ·cases h
 |⟨.fl _ [] _ _,ks,fr,hp,nw⟩,s',h=>by cases h;exact⟨λe=>e,λe g=>fl_nil g⟩
 | ⟨.fl ops (o::l) i es,ks,fr,hp,nw⟩,s',h=>by
  simp only[adv] at h;split at h
  ·rename_i hw;split at h
   ·rename_i w hx;cases h;exact⟨λe=>e,λe g=>xFq hw hx g⟩
   ·split at h
    ·rename_i hx;cases h;exact⟨λe=>(Bool.and_eq_true_iff.1 e).2,λe g=>fl_mem hw hx (Bool.and_eq_true_iff.1 e).1 g⟩
    ·cases h
  ·rename_i hw;cases h;exact⟨λe=>e,λe g=>fl_skip hw g⟩
  ·cases h
theorem kNq:∀(n:Nat) {b b':Bool} {s s':Sit},advN C G n b s=some (b',s') ->(b'=true->b=true)/\(b'=true->GoW C G m k0 rd s' R Q->GoW C G m k0 rd s R Q)
 |0,_,_,_,_,h=>by cases h;exact⟨λe=>e,λ_ g=>g⟩
 |n+1,b,b',s,s',h=>by
  simp only[advN] at h;split at h
  ·rename_i b1 s1 h1;obtain⟨a1,a2⟩:=adv_ok (m:=m) (k0:=k0) (rd:=rd) (R:=R) (Q:=Q) h1;obtain⟨c1,c2⟩:=kNq n h;exact⟨λe=>a1 (c1 e),λe g=>a2 (c1 e) (c2 e g)⟩
  ·cases h
variable {b:Bool} {s:Sit} {c:Code} {ops:Array Oper} {l:List Oper} {i:Nat} {es:List (Nat×EvW)} {x:Exit} {ks:List Kt} {fr:FrW} {hp:HpW} {nw:Nat}
theorem ksq(n:Nat)(h:advN C G n true ⟨.co c,[],fr,hp,nw⟩=some (b,s))(g:GoW C G m k0 rd s R Q)(hb:b=true:=by first|rfl|kernel_rfl):CoW C G m k0 rd c fr hp nw R Q:=(kNq n h).2 hb g
theorem run_ck(n:Nat)(h:advN C G n true ⟨.co c,ks,fr,hp,nw⟩=some (b,s))(g:GoW C G m k0 rd s R Q)(hb:b=true:=by first|rfl|kernel_rfl):CoW C G m k0 rd c fr hp nw R (QK C G m k0 rd ks Q):=(kNq n h).2 hb g
theorem run_p(n:Nat)(h:advN C G n true ⟨.op ops l,[],fr,hp,nw⟩=some (b,s))(g:GoW C G m 0 false s R Q)(hb:b=true:=by first|rfl|kernel_rfl):OpW C G m ops l fr hp nw R λfr hp nw R=>Q .normal fr hp nw R:=(kNq n h).2 hb g
theorem run_pk(n:Nat)(h:advN C G n true ⟨.op ops l,ks,fr,hp,nw⟩=some (b,s))(g:GoW C G m k0 rd s R Q)(hb:b=true:=by first|rfl|kernel_rfl):OpW C G m ops l fr hp nw R λfr hp nw R=>QK C G m k0 rd ks Q .normal fr hp nw R:=(kNq n h).2 hb g
theorem kiq(n:Nat)(h:advN C G n true ⟨.ex x,ks,fr,hp,nw⟩=some (b,s))(g:GoW C G m k0 rd s R Q)(hb:b=true:=by first|rfl|kernel_rfl):QK C G m k0 rd ks Q x fr hp nw R:=(kNq n h).2 hb g
end
noncomputable def stand:Sit->Option (Oper×FrW×HpW×Nat×(W->Sit)×(W->HpW->Nat->EvW->Sit)×(EvW->Bool))
 |⟨.op ops (o::l),ks,fr,hp,nw⟩=>match yZq ops fr o with
  |some true=>some (o,fr,hp,nw,λw=>⟨.op ops l,ks,putW fr o.dst w,hp,nw⟩,λw hp2 nw2 _=>⟨.op ops l,ks,putW fr o.dst w,hp2,nw2⟩,λ_=>true)
  |_=>none
 |⟨.fl ops (o::l) i es,ks,fr,hp,nw⟩=>match yZq ops fr o with
  |some true=>some (o,fr,hp,nw,λw=>⟨.fl ops l (i+1) es,ks,putW fr o.dst w,hp,nw⟩,λw hp2 nw2 ev=>⟨.fl ops l (i+1) ((i,ev)::es),ks,putW fr o.dst w,hp2,nw2⟩,λev=>evsW ops i ev es)
  |_=>none
 |_=>none
noncomputable def goP(C:Cfg)(G:Nat->Option W)(n:Nat)(s:Sit):Option (Bool×Op×FrW×(W->Sit)):=match advN C G n true s with
 |some (b,s')=>match stand s' with
  |some (o,fr,_,_,k,_)=>some (b,o.op,fr,k)
  |none=>none
 |none=>none
noncomputable def goV(C:Cfg)(G:Nat->Option W)(n:Nat)(s:Sit):Option (Bool×W×(W->Sit)):=match advN C G n true s with
 |some (b,s')=>match stand s' with
  |some (o,fr,_,_,k,_)=>match yLq C G fr o.op with
   |some w=>some (b,w,k)
   |none=>none
  |none=>none
 |none=>none
noncomputable def goM(C:Cfg)(G:Nat->Option W)(n:Nat)(s:Sit):Option (Bool×Op×FrW×HpW×Nat×(W->HpW->Nat->EvW->Sit)×(EvW->Bool)):=match advN C G n true s with
 |some (b,s')=>match stand s' with
  |some (o,fr,hp,nw,_,k,q)=>some (b,o.op,fr,hp,nw,k,q)
  |none=>none
 |none=>none
noncomputable def goC(C:Cfg)(G:Nat->Option W)(n:Nat)(s:Sit):Option (Bool×FuncId×List W×(W->Sit)):=match advN C G n true s with
 |some (b,s')=>match stand s' with
  |some (o,fr,hp,nw,_,k,q)=>match o.op with
   |.call ⟨.value x,xs,_⟩=>match evW C G fr x,evLW C G fr xs.toList with
    |some (.fn f a c),some us=>match C.ext f with
     |none=>some (b&&q .gen,f,a++us++c,λw=>k w hp nw .gen)
     |some _=>none
    |_,_=>none
   |_=>none
  |none=>none
 |none=>none
noncomputable def goK(C:Cfg)(G:Nat->Option W)(n:Nat)(s:Sit):Option (Bool×Bool×Sit×Sit):=match advN C G n true s with
 |some (b,⟨.co (.cond c x y),ks,fr,hp,nw⟩)=>match evW C G fr c with
  |some (.bool v)=>some (b,v,⟨.co x,ks,fr,hp,nw⟩,⟨.co y,ks,fr,hp,nw⟩)
  |_=>none
 |_=>none
noncomputable def goI(C:Cfg)(G:Nat->Option W)(n:Nat)(f:FuncId)(ws:List W)(hp:HpW)(m:Nat):Option (Bool×Sit×List ResultVar):=match C.known f with
 |none=>match C.fn f with
  |some fn=>match fn.body,Nat.ble ws.length fn.ntmps with
   |some c,true=>match advN C G n true ⟨.co c,[],argsW 0 ws,hp,m⟩ with
    |some (b,s)=>some (b,s,fn.results.toList)
    |none=>none
   |_,_=>none
  |none=>none
 |some _=>none
section
variable {C:Cfg} {G:Nat->Option W} {m k0 n:Nat} {rd:Bool} {R:Res} {Q:q8q} {s s':Sit} {b:Bool} {o:Op} {fr:FrW} {hp:HpW} {nw:Nat} {k:W->Sit} {kk:W->HpW->Nat->EvW->Sit} {q:EvW->Bool} {w w':W} {p:Prop}
theorem qdq(n:Nat)(h:advN C G n true s=some (b,s'))(g:GoW C G m k0 rd s' R Q)(hb:b=true:=by first|rfl|kernel_rfl):GoW C G m k0 rd s R Q:=(kNq n h).2 hb g
theorem stand_p{oo:Oper}(h:stand s=some (oo,fr,hp,nw,k,kk,q))(e:yLq C G fr oo.op=some w)(g:GoW C G m k0 rd (k w) R Q):GoW C G m k0 rd s R Q:=by
 unfold stand at h;split at h
 ·split at h
  ·rename_i hw;cases h;exact kwq hw e g
  ·cases h
 ·split at h
  ·rename_i hw;cases h;exact xFq hw e g
  ·cases h
 ·cases h
theorem stand_s{oo:Oper}(h:stand s=some (oo,fr,hp,nw,k,kk,q))(g:Step C G oo fr hp nw R λw hp' nw' R' ev=>match ev with
  |none=>GoW C G m k0 rd (k w) R' Q/\hp'=hp/\nw'=nw
  |some e=>q e=true/\GoW C G m k0 rd (kk w hp' nw' e) R' Q):GoW C G m k0 rd s R Q:=by
 unfold stand at h;split at h
 ·split at h
  ·rename_i hw;cases h
   refine xzq hw λΓ X frv a1 a2 a3=>?_
   obtain⟨n,w,hp',R',ev,v,h',Γ',X',h1,h2⟩:=g Γ X frv a1 a2 a3;refine⟨n,w,hp',R',ev,v,h',Γ',X',?_,h2⟩;cases ev with
   |none=>obtain⟨h1,h3,h4⟩:=h1;subst h3;rw[h4];exact h1
   |some e=>exact h1.2
  ·cases h
 ·split at h
  ·rename_i hw;cases h
   refine Zuq hw λΓ X frv a1 a2 a3=>?_
   obtain⟨n,w,hp',R',ev,v,h',Γ',X',h1,h2⟩:=g Γ X frv a1 a2 a3;refine⟨n,w,hp',R',ev,v,h',Γ',X',?_,h2⟩;cases ev with
   |none=>obtain⟨h1,h3,h4⟩:=h1;subst h3;rw[h4];exact h1
   |some e=>exact h1
  ·cases h
 ·cases h
theorem gP(n:Nat)(h:goP C G n s=some (b,o,fr,k))(e:yLq C G fr o=some w)(g:GoW C G m k0 rd (k w) R Q)(hb:b=true:=by first|rfl|kernel_rfl):GoW C G m k0 rd s R Q:=by
 unfold goP at h;split at h
 ·rename_i h1;split at h
  ·rename_i h2;cases h;exact qdq n h1 (stand_p h2 e g) hb
  ·cases h
 ·cases h
theorem goV_p(h:goV C G n s=some (b,w,k)):∃o fr,goP C G n s=some (b,o,fr,k)/\yLq C G fr o=some w:=by
 unfold goV at h;unfold goP;split at h
 ·split at h
  ·rename_i h2;split at h
   ·rename_i h3;cases h;exact⟨_,_,rfl,h3⟩
   ·cases h
  ·cases h
 ·cases h
theorem gV(n:Nat)(h:goV C G n s=some (b,w,k))(e:w=w')(g:GoW C G m k0 rd (k w') R Q)(hb:b=true:=by first|rfl|kernel_rfl):GoW C G m k0 rd s R Q:=by
 subst e;obtain⟨o,fr,h1,h2⟩:=goV_p h;exact gP n h1 h2 g hb
theorem gM{hp2:HpW}{nw2:Nat}{ev:EvW}(n:Nat)(h:goM C G n s=some (b,o,fr,hp,nw,kk,q))(e:opHW C G fr hp nw o=some (w,hp2,nw2,ev))(g:GoW C G m k0 rd (kk w hp2 nw2 ev) R Q)(hb:(b&&q ev)=true:=by first|rfl|kernel_rfl):GoW C G m k0 rd s R Q:=by
 unfold goM at h;split at h
 ·rename_i h1;split at h
  ·rename_i h2;cases h
   rw[Bool.and_eq_true] at hb;exact qdq n h1 (stand_s h2 (v5q e ⟨hb.2,g⟩)) hb.1
  ·cases h
 ·cases h
theorem goC_s{f:FuncId}{ws:List W}(h:goC C G n s=some (b,f,ws,k)){P:W->Prop}(sp:vmq C G f 0 ws [] λw _ _=>purW w=true/\P w)(hp:purL ws=true)(g:∀w,purW w=true->P w->GoW C G m k0 rd (k w) R Q)(hb:b=true):GoW C G m k0 rd s R Q:=by
 unfold goC at h;split at h
 ·rename_i h1;split at h
  ·rename_i h2;split at h
   ·rename_i ho;split at h
    ·rename_i hx hxs;split at h
     ·rename_i he;cases h;rw[Bool.and_eq_true] at hb;refine qdq n h1 (stand_s h2 (vpq ho hx he hxs sp hp λw _ _ hq=>⟨hq.1,hb.2,g w hq.1 hq.2⟩)) hb.1
     ·cases h
    ·cases h
   ·cases h
  ·cases h
 ·cases h
theorem gC{f:FuncId}{ws:List W}(n:Nat)(h:goC C G n s=some (b,f,ws,k))(sp:PS C G f ws w)(g:GoW C G m k0 rd (k w) R Q)(hp:purL ws=true:=by first|rfl|assumption|(simp;done))(hw:purW w=true:=by first|rfl|assumption|(simp;done))(hb:b=true:=by first|rfl|kernel_rfl):GoW C G m k0 rd s R Q:=
 goC_s (P:=λw'=>w'=w) h (vwq sp λw' _ _ e=>⟨e▸hw,e⟩) hp (λw' _ e=>e▸g) hb
theorem goK_p{v:Bool}{x y:Sit}(h:goK C G n s=some (b,v,x,y))(hb:b=true)(g:GoW C G m k0 rd (match v with|true=>x|false=>y) R Q):GoW C G m k0 rd s R Q:=by
 unfold goK at h;split at h
 ·rename_i h1;split at h
  ·rename_i h2;cases h
   refine qdq n h1 ?_ hb;cases v with
   |true=>exact co_true h2 g
   |false=>exact co_false h2 g
  ·cases h
 ·cases h
theorem gS{v:Bool}{x y:Sit}(n:Nat)(h:goK C G n s=some (b,v,x,y))(ht:p->GoW C G m k0 rd x R Q)(hf:¬p->GoW C G m k0 rd y R Q)(hp:v=true↔p:=by first|exact jwq|exact jzq|exact jRq|exact jSq|exact jYq|exact qZq)(hb:b=true:=by first|rfl|kernel_rfl):GoW C G m k0 rd s R Q:=by
 cases v with
 |true=>exact goK_p h hb (ht (hp.1 rfl))
 |false=>exact goK_p h hb (hf λq=>by have:=hp.2 q;cases this)
theorem natE{i:IntKind}{l:Nat}:W.int i (.ofNat l)=W.int i (l:Int):=rfl
theorem gL(n:Nat)(h:goV C G n s=some (b,w,k))(g:GoW C G m k0 rd (k w') R Q)(e:w=w':=by first|exact natE|exact rfl)(hb:b=true:=by first|rfl|kernel_rfl):GoW C G m k0 rd s R Q:=gV n h e g hb
theorem gZ{l z:Nat}{i:IntKind}(n:Nat)(h:goV C G n s=some (b,.int i (.ofNat l),k))(e:l=z)(g:GoW C G m k0 rd (k (.int i (z:Int))) R Q)(hb:b=true:=by first|rfl|kernel_rfl):GoW C G m k0 rd s R Q:=gV n h (by rw[e];rfl) g hb
theorem wrapE{i:IntKind}{z:Int}(h:inK i z):W.int i (yYq i z)=W.int i z:=congrArg (W.int i) (vYq h)
theorem gWr(n:Nat)(h:goV C G n s=some (b,w,k))(g:GoW C G m k0 rd (k w') R Q)(e:w=w':=by first|exact wrapE ⟨by omega,by omega⟩|exact rfl)(hb:b=true:=by first|rfl|kernel_rfl):GoW C G m k0 rd s R Q:=gV n h e g hb
theorem gA{z:Int}{i:IntKind}(n:Nat)(h:goV C G n s=some (b,.int i (yYq i z),k))(t:Nat)(g:GoW C G m k0 rd (k (.int i (t:Int))) R Q)(e:z=(t:Int):=by first|rfl|omega)(hz:inK i (t:Int):=by exact⟨by omega,by omega⟩)(hb:b=true:=by first|rfl|kernel_rfl):GoW C G m k0 rd s R Q:=gV n h (by rw[e,vYq hz]) g hb
theorem gX(n:Nat)(h:goP C G n s=some (b,o,fr,k))(g:GoW C G m k0 rd (k w) R Q)(e:yLq C G fr o=some w:=by first|exact ix_fz Z Z Z Z Z Z Z (by first|assumption|(simp;done))|exact ix_sl Z Z Z Z Z Z Z Xa|exact xaq Z Z Z Z Z Z Xa|exact rfl)(hb:b=true:=by first|rfl|kernel_rfl):GoW C G m k0 rd s R Q:=gP n h e g hb
theorem goI_p{f:FuncId}{ws:List W}{rs:List ResultVar}{K:W->HpW->Nat->Res->Prop}(h:goI C G n f ws hp m=some (b,s,rs))(hb:b=true)(g:∀k0,GoW C G m k0 false s R (QFin C G m k0 rs K)):Spec C G f m ws hp R K:=by
 unfold goI at h;split at h
 ·rename_i hk;split at h
  ·rename_i hf;split at h
   ·rename_i hbd hle;split at h
    ·rename_i h1;cases h
     exact spec_in hk hf hbd (Zb hle) λk0=>ksq n h1 (g k0) hb
    ·cases h
   ·cases h
  ·cases h
 ·cases h
theorem gIs{f:FuncId}{ws:List W}{rs:List ResultVar}{K:W->HpW->Nat->Res->Prop}(n:Nat)(h:goI C G n f ws hp m=some (b,s,rs))(g:∀k0,GoW C G m k0 false s R (QFin C G m k0 rs K))(hb:b=true:=by first|rfl|kernel_rfl):Spec C G f m ws hp R K:=goI_p h hb g
end
end
def ti1:TyI:=⟨1,8,.nilf,.other⟩
def ti2:TyI:=⟨1,8,.int .i64 0,.int .i64⟩
def ti3:TyI:=⟨1,8,.int .i64 0,.int .i64⟩
def ti4:TyI:=⟨1,1,.bool false,.bool⟩
def ti5:TyI:=⟨1,1,.int .u8 0,.int .u8⟩
def ti6:TyI:=⟨1,1,.int .u8 0,.int .u8⟩
def ti7:TyI:=⟨4,24,.agg 4 [.int .i64 0,.int .i64 0,.bool false,.int .u8 0],.struct [(2,0),(3,1),(4,2),(6,3)]⟩
def ti8:TyI:=⟨4,24,.agg 4 [.int .i64 0,.int .i64 0,.bool false,.int .u8 0],.struct [(2,0),(3,1),(4,2),(6,3)]⟩
def ti9:TyI:=⟨1,16,.str [],.str⟩
def ti10:TyI:=⟨1,16,.str [],.str⟩
def ti11:TyI:=⟨1,16,.str [],.str⟩
def ti12:TyI:=⟨1,8,.int .u64 0,.int .u64⟩
def ti15:TyI:=⟨1,8,.nilp,.ptr⟩
def ti16:TyI:=⟨1,8,.nilp,.ptr⟩
def ti17:TyI:=⟨1,8,.nilp,.ptr⟩
def ti20:TyI:=⟨1,16,.nili,.iface⟩
def ti21:TyI:=⟨1,4,.int .i32 0,.int .i32⟩
def ti22:TyI:=⟨1,8,.nilf,.other⟩
def ti23:TyI:=⟨1,8,.nilf,.other⟩
def ti24:TyI:=⟨1,8,.nilf,.other⟩
def ti25:TyI:=⟨1,8,.nilf,.other⟩
def ti27:TyI:=⟨1,8,.nilp,.ptr⟩
def ti28:TyI:=⟨1,8,.nilm,.other⟩
def ti29:TyI:=⟨32,32,.arr 32 1 (List.replicate 32 (.int .u8 0)),.arr 32 5⟩
def ti30:TyI:=⟨32,32,.arr 32 1 (List.replicate 32 (.int .u8 0)),.arr 32 5⟩
def ti32:TyI:=⟨38,80,.agg 38 [.int .i64 0,.int .i64 0,.int .i64 0,.int .i64 0,.int .i64 0,.int .i64 0,.arr 32 1 (List.replicate 32 (.int .u8 0))],.struct [(3,0),(3,1),(3,2),(3,3),(3,4),(3,5),(30,6)]⟩
def ti33:TyI:=⟨38,80,.agg 38 [.int .i64 0,.int .i64 0,.int .i64 0,.int .i64 0,.int .i64 0,.int .i64 0,.arr 32 1 (List.replicate 32 (.int .u8 0))],.struct [(3,0),(3,1),(3,2),(3,3),(3,4),(3,5),(30,6)]⟩
def ti34:TyI:=⟨1,24,.nils,.slice 242⟩
def ti35:TyI:=⟨1,24,.nils,.slice 277⟩
def ti37:TyI:=⟨2,32,.agg 2 [.nils,.int .i64 0],.struct [(35,0),(3,1)]⟩
def ti38:TyI:=⟨1,24,.nils,.slice 299⟩
def ti40:TyI:=⟨3,56,.agg 3 [.agg 2 [.nils,.int .i64 0],.nils],.struct [(37,0),(38,2)]⟩
def ti42:TyI:=⟨6,80,.agg 6 [.int .i64 0,.bool false,.int .i64 0,.agg 3 [.agg 2 [.nils,.int .i64 0],.nils]],.struct [(3,0),(4,1),(3,2),(40,3)]⟩
def ti43:TyI:=⟨1,24,.nils,.slice 183⟩
def ti44:TyI:=⟨1,24,.nils,.slice 339⟩
def ti45:TyI:=⟨2,32,.agg 2 [.int .i64 0,.nils],.struct [(3,0),(44,1)]⟩
def ti46:TyI:=⟨2,32,.agg 2 [.int .i64 0,.nils],.struct [(3,0),(44,1)]⟩
def ti47:TyI:=⟨1,24,.nils,.slice 156⟩
def ti48:TyI:=⟨1,24,.nils,.slice 98⟩
def ti49:TyI:=⟨1,24,.nils,.slice 255⟩
def ti50:TyI:=⟨1,8,.int .u64 0,.int .u64⟩
def ti51:TyI:=⟨98,112,.agg 98 [.int .i64 0,.arr 32 1 (List.replicate 32 (.int .u8 0)),.arr 32 1 (List.replicate 32 (.int .u8 0)),.arr 32 1 (List.replicate 32 (.int .u8 0)),.int .i64 0],.struct [(3,0),(30,1),(30,33),(30,65),(3,97)]⟩
def ti52:TyI:=⟨98,112,.agg 98 [.int .i64 0,.arr 32 1 (List.replicate 32 (.int .u8 0)),.arr 32 1 (List.replicate 32 (.int .u8 0)),.arr 32 1 (List.replicate 32 (.int .u8 0)),.int .i64 0],.struct [(3,0),(30,1),(30,33),(30,65),(3,97)]⟩
def ti53:TyI:=⟨100,128,.agg 100 [.int .i64 0,.bool false,.agg 98 [.int .i64 0,.arr 32 1 (List.replicate 32 (.int .u8 0)),.arr 32 1 (List.replicate 32 (.int .u8 0)),.arr 32 1 (List.replicate 32 (.int .u8 0)),.int .i64 0]],.struct [(3,0),(4,1),(52,2)]⟩
def ti54:TyI:=⟨100,128,.agg 100 [.int .i64 0,.bool false,.agg 98 [.int .i64 0,.arr 32 1 (List.replicate 32 (.int .u8 0)),.arr 32 1 (List.replicate 32 (.int .u8 0)),.arr 32 1 (List.replicate 32 (.int .u8 0)),.int .i64 0]],.struct [(3,0),(4,1),(52,2)]⟩
def ti55:TyI:=⟨106,224,.agg 106 [.int .u8 0,.int .i64 0,.nils,.nils,.nils,.int .u64 0,.agg 100 [.int .i64 0,.bool false,.agg 98 [.int .i64 0,.arr 32 1 (List.replicate 32 (.int .u8 0)),.arr 32 1 (List.replicate 32 (.int .u8 0)),.arr 32 1 (List.replicate 32 (.int .u8 0)),.int .i64 0]]],.struct [(5,0),(3,1),(48,2),(48,3),(49,4),(50,5),(54,6)]⟩
def ti56:TyI:=⟨106,224,.agg 106 [.int .u8 0,.int .i64 0,.nils,.nils,.nils,.int .u64 0,.agg 100 [.int .i64 0,.bool false,.agg 98 [.int .i64 0,.arr 32 1 (List.replicate 32 (.int .u8 0)),.arr 32 1 (List.replicate 32 (.int .u8 0)),.arr 32 1 (List.replicate 32 (.int .u8 0)),.int .i64 0]]],.struct [(5,0),(3,1),(48,2),(48,3),(49,4),(50,5),(54,6)]⟩
def ti57:TyI:=⟨1,24,.nils,.slice 109⟩
def ti58:TyI:=⟨1,24,.nils,.slice 125⟩
def ti59:TyI:=⟨158,560,.agg 158 [.agg 38 [.int .i64 0,.int .i64 0,.int .i64 0,.int .i64 0,.int .i64 0,.int .i64 0,.arr 32 1 (List.replicate 32 (.int .u8 0))],.nils,.agg 6 [.int .i64 0,.bool false,.int .i64 0,.agg 3 [.agg 2 [.nils,.int .i64 0],.nils]],.nils,.agg 2 [.int .i64 0,.nils],.nils,.agg 106 [.int .u8 0,.int .i64 0,.nils,.nils,.nils,.int .u64 0,.agg 100 [.int .i64 0,.bool false,.agg 98 [.int .i64 0,.arr 32 1 (List.replicate 32 (.int .u8 0)),.arr 32 1 (List.replicate 32 (.int .u8 0)),.arr 32 1 (List.replicate 32 (.int .u8 0)),.int .i64 0]]],.nils,.nils,.nils],.struct [(33,0),(34,38),(42,39),(43,45),(46,46),(47,48),(56,49),(57,155),(57,156),(58,157)]⟩
def ti60:TyI:=⟨158,560,.agg 158 [.agg 38 [.int .i64 0,.int .i64 0,.int .i64 0,.int .i64 0,.int .i64 0,.int .i64 0,.arr 32 1 (List.replicate 32 (.int .u8 0))],.nils,.agg 6 [.int .i64 0,.bool false,.int .i64 0,.agg 3 [.agg 2 [.nils,.int .i64 0],.nils]],.nils,.agg 2 [.int .i64 0,.nils],.nils,.agg 106 [.int .u8 0,.int .i64 0,.nils,.nils,.nils,.int .u64 0,.agg 100 [.int .i64 0,.bool false,.agg 98 [.int .i64 0,.arr 32 1 (List.replicate 32 (.int .u8 0)),.arr 32 1 (List.replicate 32 (.int .u8 0)),.arr 32 1 (List.replicate 32 (.int .u8 0)),.int .i64 0]]],.nils,.nils,.nils],.struct [(33,0),(34,38),(42,39),(43,45),(46,46),(47,48),(56,49),(57,155),(57,156),(58,157)]⟩
def ti61:TyI:=⟨199,664,.agg 199 [.bool false,.agg 158 [.agg 38 [.int .i64 0,.int .i64 0,.int .i64 0,.int .i64 0,.int .i64 0,.int .i64 0,.arr 32 1 (List.replicate 32 (.int .u8 0))],.nils,.agg 6 [.int .i64 0,.bool false,.int .i64 0,.agg 3 [.agg 2 [.nils,.int .i64 0],.nils]],.nils,.agg 2 [.int .i64 0,.nils],.nils,.agg 106 [.int .u8 0,.int .i64 0,.nils,.nils,.nils,.int .u64 0,.agg 100 [.int .i64 0,.bool false,.agg 98 [.int .i64 0,.arr 32 1 (List.replicate 32 (.int .u8 0)),.arr 32 1 (List.replicate 32 (.int .u8 0)),.arr 32 1 (List.replicate 32 (.int .u8 0)),.int .i64 0]]],.nils,.nils,.nils],.int .i64 0,.agg 38 [.int .i64 0,.int .i64 0,.int .i64 0,.int .i64 0,.int .i64 0,.int .i64 0,.arr 32 1 (List.replicate 32 (.int .u8 0))],.nilm],.struct [(4,0),(60,1),(3,159),(33,160),(28,198)]⟩
def ti62:TyI:=⟨199,664,.agg 199 [.bool false,.agg 158 [.agg 38 [.int .i64 0,.int .i64 0,.int .i64 0,.int .i64 0,.int .i64 0,.int .i64 0,.arr 32 1 (List.replicate 32 (.int .u8 0))],.nils,.agg 6 [.int .i64 0,.bool false,.int .i64 0,.agg 3 [.agg 2 [.nils,.int .i64 0],.nils]],.nils,.agg 2 [.int .i64 0,.nils],.nils,.agg 106 [.int .u8 0,.int .i64 0,.nils,.nils,.nils,.int .u64 0,.agg 100 [.int .i64 0,.bool false,.agg 98 [.int .i64 0,.arr 32 1 (List.replicate 32 (.int .u8 0)),.arr 32 1 (List.replicate 32 (.int .u8 0)),.arr 32 1 (List.replicate 32 (.int .u8 0)),.int .i64 0]]],.nils,.nils,.nils],.int .i64 0,.agg 38 [.int .i64 0,.int .i64 0,.int .i64 0,.int .i64 0,.int .i64 0,.int .i64 0,.arr 32 1 (List.replicate 32 (.int .u8 0))],.nilm],.struct [(4,0),(60,1),(3,159),(33,160),(28,198)]⟩
def ti63:TyI:=⟨1,8,.nilf,.other⟩
def ti64:TyI:=⟨1,8,.nilm,.other⟩
def ti65:TyI:=⟨1,8,.nilp,.ptr⟩
def ti66:TyI:=⟨1,24,.nils,.slice 5⟩
def ti68:TyI:=⟨2,32,.agg 2 [.nilp,.nils],.struct [(65,0),(66,1)]⟩
def ti69:TyI:=⟨1,24,.nils,.slice 9⟩
def ti73:TyI:=⟨1,16,.nili,.iface⟩
def ti77:TyI:=⟨1,8,.nilf,.other⟩
def ti80:TyI:=⟨1,24,.nils,.slice 3⟩
def ti83:TyI:=⟨1,8,.int .i64 0,.int .i64⟩
def ti86:TyI:=⟨1,24,.nils,.slice 91⟩
def ti88:TyI:=⟨2,16,.agg 2 [.int .u64 0,.int .u64 0],.struct [(50,0),(50,1)]⟩
def ti89:TyI:=⟨2,16,.agg 2 [.int .u64 0,.int .u64 0],.struct [(50,0),(50,1)]⟩
def ti91:TyI:=⟨33,56,.agg 33 [.arr 32 1 (List.replicate 32 (.int .u8 0)),.nils],.struct [(30,0),(66,32)]⟩
def ti94:TyI:=⟨1,8,.nilf,.other⟩
def ti95:TyI:=⟨1,24,.nils,.slice 149⟩
def ti97:TyI:=⟨99,120,.agg 99 [.arr 32 1 (List.replicate 32 (.int .u8 0)),.arr 32 1 (List.replicate 32 (.int .u8 0)),.int .u64 0,.int .u64 0,.int .u64 0,.arr 32 1 (List.replicate 32 (.int .u8 0))],.struct [(30,0),(30,32),(50,64),(50,65),(50,66),(30,67)]⟩
def ti98:TyI:=⟨99,120,.agg 99 [.arr 32 1 (List.replicate 32 (.int .u8 0)),.arr 32 1 (List.replicate 32 (.int .u8 0)),.int .u64 0,.int .u64 0,.int .u64 0,.arr 32 1 (List.replicate 32 (.int .u8 0))],.struct [(30,0),(30,32),(50,64),(50,65),(50,66),(30,67)]⟩
def ti99:TyI:=⟨1,8,.nilf,.other⟩
def ti100:TyI:=⟨134,176,.agg 134 [.int .u8 0,.agg 99 [.arr 32 1 (List.replicate 32 (.int .u8 0)),.arr 32 1 (List.replicate 32 (.int .u8 0)),.int .u64 0,.int .u64 0,.int .u64 0,.arr 32 1 (List.replicate 32 (.int .u8 0))],.arr 32 1 (List.replicate 32 (.int .u8 0)),.int .i64 0,.int .i64 0],.struct [(5,0),(98,1),(30,100),(3,132),(3,133)]⟩
def ti101:TyI:=⟨134,176,.agg 134 [.int .u8 0,.agg 99 [.arr 32 1 (List.replicate 32 (.int .u8 0)),.arr 32 1 (List.replicate 32 (.int .u8 0)),.int .u64 0,.int .u64 0,.int .u64 0,.arr 32 1 (List.replicate 32 (.int .u8 0))],.arr 32 1 (List.replicate 32 (.int .u8 0)),.int .i64 0,.int .i64 0],.struct [(5,0),(98,1),(30,100),(3,132),(3,133)]⟩
def ti102:TyI:=⟨2,24,.agg 2 [.str [],.int .u8 0],.struct [(9,0),(5,1)]⟩
def ti103:TyI:=⟨2,24,.agg 2 [.str [],.int .u8 0],.struct [(9,0),(5,1)]⟩
def ti104:TyI:=⟨1,8,.nilm,.other⟩
def ti106:TyI:=⟨1,8,.nilf,.other⟩
def ti107:TyI:=⟨1,8,.nilf,.other⟩
def ti108:TyI:=⟨35,56,.agg 35 [.int .u8 0,.arr 32 1 (List.replicate 32 (.int .u8 0)),.int .u64 0,.int .i64 0],.struct [(5,0),(30,1),(50,33),(3,34)]⟩
def ti109:TyI:=⟨35,56,.agg 35 [.int .u8 0,.arr 32 1 (List.replicate 32 (.int .u8 0)),.int .u64 0,.int .i64 0],.struct [(5,0),(30,1),(50,33),(3,34)]⟩
def ti110:TyI:=⟨1,8,.nilf,.other⟩
def ti112:TyI:=⟨1,8,.nilf,.other⟩
def ti114:TyI:=⟨34,48,.agg 34 [.int .u8 0,.arr 32 1 (List.replicate 32 (.int .u8 0)),.int .i64 0],.struct [(5,0),(30,1),(83,33)]⟩
def ti115:TyI:=⟨1,24,.nils,.slice 30⟩
def ti116:TyI:=⟨67,120,.agg 67 [.arr 32 1 (List.replicate 32 (.int .u8 0)),.int .u8 0,.arr 32 1 (List.replicate 32 (.int .u8 0)),.nils,.nils],.struct [(30,0),(5,32),(30,33),(66,65),(115,66)]⟩
def ti117:TyI:=⟨67,120,.agg 67 [.arr 32 1 (List.replicate 32 (.int .u8 0)),.int .u8 0,.arr 32 1 (List.replicate 32 (.int .u8 0)),.nils,.nils],.struct [(30,0),(5,32),(30,33),(66,65),(115,66)]⟩
def ti118:TyI:=⟨101,136,.agg 101 [.bool false,.agg 100 [.int .i64 0,.bool false,.agg 98 [.int .i64 0,.arr 32 1 (List.replicate 32 (.int .u8 0)),.arr 32 1 (List.replicate 32 (.int .u8 0)),.arr 32 1 (List.replicate 32 (.int .u8 0)),.int .i64 0]]],.struct [(4,0),(54,1)]⟩
def ti119:TyI:=⟨101,136,.agg 101 [.bool false,.agg 100 [.int .i64 0,.bool false,.agg 98 [.int .i64 0,.arr 32 1 (List.replicate 32 (.int .u8 0)),.arr 32 1 (List.replicate 32 (.int .u8 0)),.arr 32 1 (List.replicate 32 (.int .u8 0)),.int .i64 0]]],.struct [(4,0),(54,1)]⟩
def ti120:TyI:=⟨240,384,.agg 240 [.int .u8 0,.int .i64 0,.int .i64 0,.arr 32 1 (List.replicate 32 (.int .u8 0)),.agg 2 [.int .u64 0,.int .u64 0],.agg 34 [.int .u8 0,.arr 32 1 (List.replicate 32 (.int .u8 0)),.int .i64 0],.agg 67 [.arr 32 1 (List.replicate 32 (.int .u8 0)),.int .u8 0,.arr 32 1 (List.replicate 32 (.int .u8 0)),.nils,.nils],.int .i64 0,.agg 101 [.bool false,.agg 100 [.int .i64 0,.bool false,.agg 98 [.int .i64 0,.arr 32 1 (List.replicate 32 (.int .u8 0)),.arr 32 1 (List.replicate 32 (.int .u8 0)),.arr 32 1 (List.replicate 32 (.int .u8 0)),.int .i64 0]]]],.struct [(5,0),(83,1),(3,2),(30,3),(89,35),(114,37),(117,71),(3,138),(119,139)]⟩
def ti121:TyI:=⟨240,384,.agg 240 [.int .u8 0,.int .i64 0,.int .i64 0,.arr 32 1 (List.replicate 32 (.int .u8 0)),.agg 2 [.int .u64 0,.int .u64 0],.agg 34 [.int .u8 0,.arr 32 1 (List.replicate 32 (.int .u8 0)),.int .i64 0],.agg 67 [.arr 32 1 (List.replicate 32 (.int .u8 0)),.int .u8 0,.arr 32 1 (List.replicate 32 (.int .u8 0)),.nils,.nils],.int .i64 0,.agg 101 [.bool false,.agg 100 [.int .i64 0,.bool false,.agg 98 [.int .i64 0,.arr 32 1 (List.replicate 32 (.int .u8 0)),.arr 32 1 (List.replicate 32 (.int .u8 0)),.arr 32 1 (List.replicate 32 (.int .u8 0)),.int .i64 0]]]],.struct [(5,0),(83,1),(3,2),(30,3),(89,35),(114,37),(117,71),(3,138),(119,139)]⟩
def ti122:TyI:=⟨38,96,.agg 38 [.int .u8 0,.nils,.agg 35 [.int .u8 0,.arr 32 1 (List.replicate 32 (.int .u8 0)),.int .u64 0,.int .i64 0],.int .i64 0],.struct [(5,0),(66,1),(109,2),(3,37)]⟩
def ti123:TyI:=⟨38,96,.agg 38 [.int .u8 0,.nils,.agg 35 [.int .u8 0,.arr 32 1 (List.replicate 32 (.int .u8 0)),.int .u64 0,.int .i64 0],.int .i64 0],.struct [(5,0),(66,1),(109,2),(3,37)]⟩
def ti125:TyI:=⟨282,528,.agg 282 [.int .u8 0,.int .i64 0,.int .i64 0,.nils,.agg 240 [.int .u8 0,.int .i64 0,.int .i64 0,.arr 32 1 (List.replicate 32 (.int .u8 0)),.agg 2 [.int .u64 0,.int .u64 0],.agg 34 [.int .u8 0,.arr 32 1 (List.replicate 32 (.int .u8 0)),.int .i64 0],.agg 67 [.arr 32 1 (List.replicate 32 (.int .u8 0)),.int .u8 0,.arr 32 1 (List.replicate 32 (.int .u8 0)),.nils,.nils],.int .i64 0,.agg 101 [.bool false,.agg 100 [.int .i64 0,.bool false,.agg 98 [.int .i64 0,.arr 32 1 (List.replicate 32 (.int .u8 0)),.arr 32 1 (List.replicate 32 (.int .u8 0)),.arr 32 1 (List.replicate 32 (.int .u8 0)),.int .i64 0]]]],.agg 38 [.int .u8 0,.nils,.agg 35 [.int .u8 0,.arr 32 1 (List.replicate 32 (.int .u8 0)),.int .u64 0,.int .i64 0],.int .i64 0]],.struct [(5,0),(3,1),(3,2),(66,3),(121,4),(123,244)]⟩
def ti128:TyI:=⟨1,8,.nilf,.other⟩
def ti136:TyI:=⟨1,8,.nilp,.ptr⟩
def ti143:TyI:=⟨1,24,.nils,.slice 54⟩
def ti145:TyI:=⟨52,320,.agg 52 [.agg 38 [.int .i64 0,.int .i64 0,.int .i64 0,.int .i64 0,.int .i64 0,.int .i64 0,.arr 32 1 (List.replicate 32 (.int .u8 0))],.agg 6 [.int .i64 0,.bool false,.int .i64 0,.agg 3 [.agg 2 [.nils,.int .i64 0],.nils]],.nils,.nils,.nils,.nils,.int .u64 0,.nils,.agg 2 [.int .i64 0,.nils]],.struct [(33,0),(42,38),(43,44),(48,45),(48,46),(49,47),(50,48),(143,49),(46,50)]⟩
def ti149:TyI:=⟨1,24,.nils,.slice 66⟩
def ti150:TyI:=⟨1,8,.nilf,.other⟩
def ti151:TyI:=⟨1,8,.nilf,.other⟩
def ti152:TyI:=⟨1,8,.nilf,.other⟩
def ti156:TyI:=⟨383,680,.agg 383 [.nils,.int .i64 0,.int .u8 0,.agg 134 [.int .u8 0,.agg 99 [.arr 32 1 (List.replicate 32 (.int .u8 0)),.arr 32 1 (List.replicate 32 (.int .u8 0)),.int .u64 0,.int .u64 0,.int .u64 0,.arr 32 1 (List.replicate 32 (.int .u8 0))],.arr 32 1 (List.replicate 32 (.int .u8 0)),.int .i64 0,.int .i64 0],.agg 6 [.int .i64 0,.bool false,.int .i64 0,.agg 3 [.agg 2 [.nils,.int .i64 0],.nils]],.agg 240 [.int .u8 0,.int .i64 0,.int .i64 0,.arr 32 1 (List.replicate 32 (.int .u8 0)),.agg 2 [.int .u64 0,.int .u64 0],.agg 34 [.int .u8 0,.arr 32 1 (List.replicate 32 (.int .u8 0)),.int .i64 0],.agg 67 [.arr 32 1 (List.replicate 32 (.int .u8 0)),.int .u8 0,.arr 32 1 (List.replicate 32 (.int .u8 0)),.nils,.nils],.int .i64 0,.agg 101 [.bool false,.agg 100 [.int .i64 0,.bool false,.agg 98 [.int .i64 0,.arr 32 1 (List.replicate 32 (.int .u8 0)),.arr 32 1 (List.replicate 32 (.int .u8 0)),.arr 32 1 (List.replicate 32 (.int .u8 0)),.int .i64 0]]]]],.struct [(149,0),(3,1),(5,2),(101,3),(42,137),(121,143)]⟩
def ti161:TyI:=⟨1,8,.int .u64 0,.int .u64⟩
def ti165:TyI:=⟨1,24,.nils,.slice 69⟩
def ti167:TyI:=⟨1,8,.nilf,.other⟩
def ti174:TyI:=⟨1,16,.nili,.iface⟩
def ti179:TyI:=⟨7,112,.arr 7 1 (List.replicate 7 (.str [])),.arr 7 9⟩
def ti181:TyI:=⟨1,24,.nils,.slice 266⟩
def ti183:TyI:=⟨1,24,.agg 1 [.nils],.struct [(181,0)]⟩
def ti186:TyI:=⟨1,8,.nilf,.other⟩
def ti187:TyI:=⟨1,24,.nils,.slice 20⟩
def ti189:TyI:=⟨1,8,.nilf,.other⟩
def ti197:TyI:=⟨1,8,.nilf,.other⟩
def ti201:TyI:=⟨1,4,.int .u32 0,.int .u32⟩
def ti203:TyI:=⟨8,32,.arr 8 1 (List.replicate 8 (.int .u32 0)),.arr 8 201⟩
def ti206:TyI:=⟨1,8,.nilf,.other⟩
def ti216:TyI:=⟨1,8,.int .i64 0,.int .i64⟩
def ti222:TyI:=⟨1,8,.nilf,.other⟩
def ti225:TyI:=⟨1,24,.nils,.slice 316⟩
def ti228:TyI:=⟨1,8,.nilp,.ptr⟩
def ti229:TyI:=⟨1,8,.nilf,.other⟩
def ti231:TyI:=⟨1,8,.nilf,.other⟩
def ti236:TyI:=⟨1,8,.int .i64 0,.int .i64⟩
def ti238:TyI:=⟨0,0,.agg 0 [],.struct []⟩
def ti239:TyI:=⟨0,0,.agg 0 [],.struct []⟩
def ti242:TyI:=⟨2,32,.agg 2 [.int .i64 0,.nils],.struct [(3,0),(80,1)]⟩
def ti249:TyI:=⟨1,8,.nilp,.ptr⟩
def ti250:TyI:=⟨1,8,.nilf,.other⟩
def ti251:TyI:=⟨1,8,.nilp,.ptr⟩
def ti253:TyI:=⟨1,8,.nilf,.other⟩
def ti255:TyI:=⟨34,48,.agg 34 [.int .u64 0,.arr 32 1 (List.replicate 32 (.int .u8 0)),.int .u64 0],.struct [(50,0),(30,1),(50,33)]⟩
def ti256:TyI:=⟨1,8,.nilp,.ptr⟩
def ti258:TyI:=⟨1,8,.nilf,.other⟩
def ti261:TyI:=⟨1,8,.nilp,.ptr⟩
def ti264:TyI:=⟨1,24,.agg 1 [.agg 1 [.nils]],.struct [(183,0)]⟩
def ti266:TyI:=⟨33,56,.agg 33 [.arr 32 1 (List.replicate 32 (.int .u8 0)),.nils],.struct [(30,0),(48,32)]⟩
def ti272:TyI:=⟨1,8,.nilf,.other⟩
def ti273:TyI:=⟨1,8,.nilf,.other⟩
def ti277:TyI:=⟨36,80,.agg 36 [.bool false,.arr 32 1 (List.replicate 32 (.int .u8 0)),.nils,.int .i64 0,.int .i64 0],.struct [(4,0),(30,1),(66,33),(3,34),(3,35)]⟩
def ti283:TyI:=⟨1,8,.nilp,.ptr⟩
def ti284:TyI:=⟨64,256,.arr 64 1 (List.replicate 64 (.int .u32 0)),.arr 64 201⟩
def ti288:TyI:=⟨1,8,.nilf,.other⟩
def ti296:TyI:=⟨2,48,.agg 2 [.nils,.nils],.struct [(49,0),(48,1)]⟩
def ti297:TyI:=⟨1,24,.nils,.slice 114⟩
def ti299:TyI:=⟨102,192,.agg 102 [.agg 98 [.int .i64 0,.arr 32 1 (List.replicate 32 (.int .u8 0)),.arr 32 1 (List.replicate 32 (.int .u8 0)),.arr 32 1 (List.replicate 32 (.int .u8 0)),.int .i64 0],.int .i64 0,.agg 2 [.nils,.nils],.nils],.struct [(52,0),(3,98),(296,99),(297,101)]⟩
def ti300:TyI:=⟨1,8,.int .u64 0,.int .u64⟩
def ti304:TyI:=⟨1,8,.nilp,.ptr⟩
def ti308:TyI:=⟨1,8,.nilf,.other⟩
def ti309:TyI:=⟨1,8,.nilf,.other⟩
def ti311:TyI:=⟨3,24,.agg 3 [.nilf,.nilf,.int .i64 0],.struct [(309,0),(308,1),(3,2)]⟩
def ti312:TyI:=⟨1,8,.nilp,.ptr⟩
def ti314:TyI:=⟨1,8,.agg 1 [.nilp],.struct [(312,0)]⟩
def ti316:TyI:=⟨1,16,.nili,.iface⟩
def ti319:TyI:=⟨3,24,.agg 3 [.nilp,.int .i64 0,.int .i64 0],.struct [(304,0),(3,1),(3,2)]⟩
def ti320:TyI:=⟨1,8,.nilp,.ptr⟩
def ti322:TyI:=⟨1,8,.agg 1 [.nilp],.struct [(320,0)]⟩
def ti323:TyI:=⟨1,8,.nilp,.ptr⟩
def ti325:TyI:=⟨2,32,.agg 2 [.nils,.bool false],.struct [(66,0),(4,1)]⟩
def ti328:TyI:=⟨1,8,.nilf,.other⟩
def ti330:TyI:=⟨1,24,.nils,.slice 50⟩
def ti331:TyI:=⟨1,8,.nilf,.other⟩
def ti332:TyI:=⟨1,8,.nilf,.other⟩
def ti335:TyI:=⟨1,24,.nils,.slice 119⟩
def ti337:TyI:=⟨2,32,.agg 2 [.nils,.bool false],.struct [(335,0),(4,1)]⟩
def ti338:TyI:=⟨4,48,.agg 4 [.int .i64 0,.int .i64 0,.agg 2 [.nils,.bool false]],.struct [(3,0),(3,1),(337,2)]⟩
def ti339:TyI:=⟨4,48,.agg 4 [.int .i64 0,.int .i64 0,.agg 2 [.nils,.bool false]],.struct [(3,0),(3,1),(337,2)]⟩
def ti340:TyI:=⟨1,8,.nilf,.other⟩
def ti342:TyI:=⟨1,8,.nilf,.other⟩
def ti345:TyI:=⟨1,8,.nilf,.other⟩
def ti348:TyI:=⟨1,8,.nilf,.other⟩
def ti350:TyI:=⟨2,32,.agg 2 [.nils,.nilf],.struct [(48,0),(348,1)]⟩
def ti352:TyI:=⟨1,8,.nilf,.other⟩
def ti353:TyI:=⟨1,8,.nilf,.other⟩
def ti355:TyI:=⟨1,8,.nilf,.other⟩
def ti359:TyI:=⟨24,24,.arr 24 1 (List.replicate 24 (.int .u8 0)),.arr 24 5⟩
def ti363:TyI:=⟨1,8,.nilf,.other⟩
def ti369:TyI:=⟨2,16,.arr 2 1 (List.replicate 2 (.int .i64 0)),.arr 2 3⟩
def ti373:TyI:=⟨256,256,.arr 256 1 (List.replicate 256 (.int .u8 0)),.arr 256 5⟩
def ti375:TyI:=⟨2,2,.agg 2 [.int .u8 0,.int .u8 0],.struct [(5,0),(5,1)]⟩
def ti376:TyI:=⟨32,32,.arr 32 2 (List.replicate 16 (.agg 2 [.int .u8 0,.int .u8 0])),.arr 16 375⟩
def ti377:TyI:=⟨1,8,.int .i64 0,.int .i64⟩
def ti380:TyI:=⟨1,8,.nilp,.ptr⟩
def ti384:TyI:=⟨1,8,.nilp,.ptr⟩
def ti387:TyI:=⟨2,32,.agg 2 [.agg 2 [.nils,.int .i64 0]],.struct [(37,0)]⟩
def ti390:TyI:=⟨1,8,.nilp,.ptr⟩
def ti393:TyI:=⟨1,8,.nilp,.ptr⟩
def ti395:TyI:=⟨1,24,.agg 1 [.nils],.struct [(66,0)]⟩
def ti396:TyI:=⟨100,144,.agg 100 [.agg 1 [.nils],.agg 99 [.arr 32 1 (List.replicate 32 (.int .u8 0)),.arr 32 1 (List.replicate 32 (.int .u8 0)),.int .u64 0,.int .u64 0,.int .u64 0,.arr 32 1 (List.replicate 32 (.int .u8 0))]],.struct [(395,0),(98,1)]⟩
def ti397:TyI:=⟨100,144,.agg 100 [.agg 1 [.nils],.agg 99 [.arr 32 1 (List.replicate 32 (.int .u8 0)),.arr 32 1 (List.replicate 32 (.int .u8 0)),.int .u64 0,.int .u64 0,.int .u64 0,.arr 32 1 (List.replicate 32 (.int .u8 0))]],.struct [(395,0),(98,1)]⟩
def ti398:TyI:=⟨1,8,.nilp,.ptr⟩
def ti399:TyI:=⟨1,24,.nils,.slice 398⟩
def ti400:TyI:=⟨1,8,.nilf,.other⟩
def ti402:TyI:=⟨1,8,.nilf,.other⟩
def ti405:TyI:=⟨1,8,.nilf,.other⟩
def ti406:TyI:=⟨1,8,.nilf,.other⟩
def ti408:TyI:=⟨1,8,.nilf,.other⟩
def ti410:TyI:=⟨1,8,.nilf,.other⟩
def ti414:TyI:=⟨20,160,.arr 20 1 (List.replicate 20 (.int .u64 0)),.arr 20 50⟩
def ti415:TyI:=⟨65,65,.arr 65 1 (List.replicate 65 (.int .u8 0)),.arr 65 5⟩
def ti418:TyI:=⟨1,8,.nilf,.other⟩
def ti419:TyI:=⟨1,8,.nilf,.other⟩
def ti421:TyI:=⟨1,8,.nilf,.other⟩
def ti422:TyI:=⟨1,8,.nilf,.other⟩
def ti423:TyI:=⟨64,64,.arr 64 32 (List.replicate 2 (.arr 32 1 (List.replicate 32 (.int .u8 0)))),.arr 2 30⟩
def ti428:TyI:=⟨1,8,.nilf,.other⟩
def ti435:TyI:=⟨1,8,.nilp,.ptr⟩
def ti437:TyI:=⟨1,8,.nilf,.other⟩
def ti439:TyI:=⟨1,8,.nilf,.other⟩
def ti442:TyI:=⟨1,8,.nilp,.ptr⟩
def ti444:TyI:=⟨1,16,.agg 1 [.str []],.struct [(9,0)]⟩
def ti446:TyI:=⟨64,64,.arr 64 1 (List.replicate 64 (.int .u8 0)),.arr 64 5⟩
def ti449:TyI:=⟨0,0,.arr 0 1 (List.replicate 0 (.nilp)),.arr 0 16⟩
def ti452:TyI:=⟨1,1,.int .u8 0,.int .u8⟩
def ti453:TyI:=⟨1,1,.int .u8 0,.int .u8⟩
def ti454:TyI:=⟨1,8,.nilf,.other⟩
def ti455:TyI:=⟨1,4,.int .i32 0,.int .i32⟩
def ti456:TyI:=⟨1,4,.int .i32 0,.int .i32⟩
def ti460:TyI:=⟨1,8,.nilp,.ptr⟩
def ti462:TyI:=⟨159,568,.agg 159 [.agg 158 [.agg 38 [.int .i64 0,.int .i64 0,.int .i64 0,.int .i64 0,.int .i64 0,.int .i64 0,.arr 32 1 (List.replicate 32 (.int .u8 0))],.nils,.agg 6 [.int .i64 0,.bool false,.int .i64 0,.agg 3 [.agg 2 [.nils,.int .i64 0],.nils]],.nils,.agg 2 [.int .i64 0,.nils],.nils,.agg 106 [.int .u8 0,.int .i64 0,.nils,.nils,.nils,.int .u64 0,.agg 100 [.int .i64 0,.bool false,.agg 98 [.int .i64 0,.arr 32 1 (List.replicate 32 (.int .u8 0)),.arr 32 1 (List.replicate 32 (.int .u8 0)),.arr 32 1 (List.replicate 32 (.int .u8 0)),.int .i64 0]]],.nils,.nils,.nils],.int .i64 0],.struct [(60,0),(3,158)]⟩
def ti463:TyI:=⟨1,8,.nilf,.other⟩
def ti464:TyI:=⟨7,56,.arr 7 1 (List.replicate 7 (.nilf)),.arr 7 463⟩
def ti485:TyI:=⟨1,8,.nilp,.ptr⟩
def ti487:TyI:=⟨1,24,.agg 1 [.nils],.struct [(80,0)]⟩
def ti491:TyI:=⟨1,8,.nilf,.other⟩
def ti494:TyI:=⟨1,8,.nilp,.ptr⟩
def ti497:TyI:=⟨1,8,.nilf,.other⟩
def ti507:TyI:=⟨1,8,.nilf,.other⟩
def ti508:TyI:=⟨1,8,.nilf,.other⟩
def ti517:TyI:=⟨1,8,.nilf,.other⟩
def ti518:TyI:=⟨1,8,.nilf,.other⟩
def ti528:TyI:=⟨1,8,.nilf,.other⟩
def ti529:TyI:=⟨1,8,.nilf,.other⟩
def ti531:TyI:=⟨1,8,.nilf,.other⟩
def ti535:TyI:=⟨1,8,.nilp,.ptr⟩
def ti537:TyI:=⟨67,120,.agg 67 [.agg 67 [.arr 32 1 (List.replicate 32 (.int .u8 0)),.int .u8 0,.arr 32 1 (List.replicate 32 (.int .u8 0)),.nils,.nils]],.struct [(117,0)]⟩
def ti543:TyI:=⟨1,8,.nilf,.other⟩
def ti544:TyI:=⟨1,8,.nilf,.other⟩
def ti550:TyI:=⟨1,8,.nilf,.other⟩
def ti555:TyI:=⟨1,8,.nilp,.ptr⟩
def ti557:TyI:=⟨158,560,.agg 158 [.agg 158 [.agg 38 [.int .i64 0,.int .i64 0,.int .i64 0,.int .i64 0,.int .i64 0,.int .i64 0,.arr 32 1 (List.replicate 32 (.int .u8 0))],.nils,.agg 6 [.int .i64 0,.bool false,.int .i64 0,.agg 3 [.agg 2 [.nils,.int .i64 0],.nils]],.nils,.agg 2 [.int .i64 0,.nils],.nils,.agg 106 [.int .u8 0,.int .i64 0,.nils,.nils,.nils,.int .u64 0,.agg 100 [.int .i64 0,.bool false,.agg 98 [.int .i64 0,.arr 32 1 (List.replicate 32 (.int .u8 0)),.arr 32 1 (List.replicate 32 (.int .u8 0)),.arr 32 1 (List.replicate 32 (.int .u8 0)),.int .i64 0]]],.nils,.nils,.nils]],.struct [(60,0)]⟩
def ti558:TyI:=⟨1,8,.nilp,.ptr⟩
def ti568:TyI:=⟨1,8,.nilp,.ptr⟩
def ti571:TyI:=⟨52,320,.agg 52 [.agg 52 [.agg 38 [.int .i64 0,.int .i64 0,.int .i64 0,.int .i64 0,.int .i64 0,.int .i64 0,.arr 32 1 (List.replicate 32 (.int .u8 0))],.agg 6 [.int .i64 0,.bool false,.int .i64 0,.agg 3 [.agg 2 [.nils,.int .i64 0],.nils]],.nils,.nils,.nils,.nils,.int .u64 0,.nils,.agg 2 [.int .i64 0,.nils]]],.struct [(145,0)]⟩
def ti585:TyI:=⟨1,24,.nils,.slice 296⟩
def ti595:TyI:=⟨1,8,.nilp,.ptr⟩
def ti597:TyI:=⟨1,8,.nilf,.other⟩
def ti599:TyI:=⟨1,8,.agg 1 [.nilf],.struct [(597,0)]⟩
def ti600:TyI:=⟨1,8,.nilf,.other⟩
def ti601:TyI:=⟨1,8,.nilf,.other⟩
def ti605:TyI:=⟨1,8,.nilf,.other⟩
def ti606:TyI:=⟨99,120,.agg 99 [.arr 32 1 (List.replicate 32 (.int .u8 0)),.arr 32 1 (List.replicate 32 (.int .u8 0)),.int .u64 0,.int .u64 0,.int .u64 0,.arr 32 1 (List.replicate 32 (.int .u8 0))],.struct [(30,0),(30,32),(50,64),(50,65),(50,66),(30,67)]⟩
def ti610:TyI:=⟨1,8,.nilf,.other⟩
def ti613:TyI:=⟨1,8,.nilp,.ptr⟩
def ti615:TyI:=⟨35,88,.agg 35 [.agg 2 [.nils,.int .i64 0],.arr 32 1 (List.replicate 32 (.int .u8 0)),.nils],.struct [(37,0),(30,2),(297,34)]⟩
def ti617:TyI:=⟨1,8,.nilf,.other⟩
def ti629:TyI:=⟨1,8,.nilp,.ptr⟩
def ti630:TyI:=⟨2,32,.agg 2 [.agg 2 [.nils,.int .i64 0]],.struct [(37,0)]⟩
def ti635:TyI:=⟨2,16,.agg 2 [.nilf,.int .i64 0],.struct [(23,0),(83,1)]⟩
def ti636:TyI:=⟨1,24,.nils,.slice 635⟩
def ti638:TyI:=⟨1,8,.nilf,.other⟩
def ti639:TyI:=⟨1,8,.nilf,.other⟩
noncomputable def tyT:Tr TyI:=.node none (.node (some ti1) (.node (some ti3) (.node (some ti7) (.node (some ti15) (.node none (.node (some ti63) (.node none (.node (some ti255) .nil .nil) (.node none (.node (some ti639) .nil .nil) .nil)) (.node none (.node (some ti319) .nil .nil) .nil)) (.node (some ti95) (.node none (.node none (.node (some ti543) .nil .nil) .nil) (.node (some ti415) .nil .nil)) .nil)) (.node (some ti47) (.node none (.node (some ti143) .nil (.node (some ti399) .nil .nil)) (.node none (.node (some ti335) .nil .nil) (.node (some ti463) .nil .nil))) (.node none .nil (.node (some ti239) .nil .nil)))) (.node (some ti23) (.node none (.node none .nil (.node none .nil (.node (some ti455) .nil .nil))) (.node (some ti103) (.node (some ti167) .nil (.node (some ti423) .nil .nil)) (.node (some ti231) (.node (some ti359) (.node (some ti615) .nil .nil) .nil) (.node (some ti487) .nil .nil)))) (.node (some ti55) (.node none (.node (some ti151) (.node none (.node (some ti535) .nil .nil) .nil) .nil) (.node none (.node none (.node (some ti599) .nil .nil) .nil) .nil)) (.node (some ti119) (.node (some ti183) (.node (some ti311) .nil .nil) (.node (some ti439) .nil .nil)) (.node none (.node (some ti375) .nil .nil) .nil))))) (.node (some ti11) (.node none (.node (some ti35) (.node none (.node none .nil (.node (some ti387) .nil .nil)) (.node none (.node (some ti323) .nil .nil) .nil)) (.node (some ti99) (.node none .nil (.node (some ti419) .nil .nil)) (.node none (.node (some ti355) .nil .nil) .nil))) (.node (some ti51) (.node (some ti83) (.node none (.node none (.node (some ti531) .nil .nil) .nil) .nil) (.node none (.node (some ti339) (.node (some ti595) .nil .nil) .nil) .nil)) (.node (some ti115) (.node (some ti179) .nil (.node (some ti435) .nil .nil)) .nil))) (.node (some ti27) (.node (some ti43) (.node none (.node none .nil (.node (some ti395) .nil .nil)) (.node (some ti203) (.node (some ti331) .nil .nil) .nil)) (.node (some ti107) (.node none (.node (some ti299) (.node (some ti555) .nil .nil) .nil) .nil) (.node none (.node (some ti363) .nil .nil) (.node (some ti491) .nil .nil)))) (.node (some ti59) (.node (some ti91) (.node none (.node (some ti283) .nil .nil) .nil) .nil) (.node (some ti123) (.node (some ti187) (.node none (.node (some ti571) .nil .nil) .nil) .nil) (.node (some ti251) (.node none (.node (some ti635) .nil .nil) .nil) (.node (some ti507) .nil .nil))))))) (.node (some ti5) (.node (some ti9) (.node (some ti17) (.node (some ti33) (.node (some ti65) .nil (.node none .nil (.node (some ti449) .nil .nil))) (.node (some ti97) (.node (some ti161) .nil .nil) (.node (some ti225) (.node (some ti353) .nil .nil) .nil))) (.node (some ti49) (.node none (.node (some ti145) (.node (some ti273) (.node (some ti529) .nil .nil) .nil) .nil) (.node none (.node (some ti337) .nil .nil) .nil)) (.node none .nil (.node none (.node (some ti369) .nil .nil) (.node (some ti497) .nil .nil))))) (.node (some ti25) (.node none (.node (some ti73) (.node none .nil (.node (some ti393) .nil .nil)) (.node (some ti201) (.node none (.node (some ti585) .nil .nil) .nil) .nil)) (.node none (.node none (.node (some ti297) .nil .nil) .nil) (.node none (.node none (.node (some ti617) .nil .nil) .nil) .nil))) (.node (some ti57) (.node (some ti89) (.node none (.node none (.node (some ti537) .nil .nil) .nil) .nil) (.node none (.node (some ti345) (.node (some ti601) .nil .nil) .nil) .nil)) (.node (some ti121) .nil (.node (some ti249) (.node (some ti377) .nil .nil) .nil))))) (.node none (.node (some ti21) (.node (some ti37) (.node (some ti69) (.node none (.node (some ti261) (.node (some ti517) .nil .nil) .nil) .nil) (.node (some ti197) (.node (some ti325) .nil .nil) (.node (some ti453) .nil .nil))) (.node (some ti101) (.node (some ti165) .nil (.node (some ti421) .nil .nil)) (.node (some ti229) (.node none (.node (some ti613) .nil .nil) .nil) (.node (some ti485) .nil .nil)))) (.node (some ti53) (.node none (.node (some ti149) (.node (some ti277) .nil .nil) (.node (some ti405) .nil .nil)) (.node none (.node none (.node (some ti597) .nil .nil) .nil) .nil)) (.node (some ti117) (.node (some ti181) (.node (some ti309) .nil .nil) (.node (some ti437) .nil .nil)) (.node none (.node (some ti373) (.node (some ti629) .nil .nil) .nil) .nil)))) (.node (some ti29) (.node (some ti45) (.node (some ti77) (.node none .nil (.node (some ti397) .nil .nil)) .nil) (.node (some ti109) (.node none (.node none (.node (some ti557) .nil .nil) .nil) .nil) .nil)) (.node (some ti61) (.node none .nil (.node none (.node none (.node (some ti605) .nil .nil) .nil) .nil)) (.node (some ti125) (.node (some ti189) .nil .nil) (.node (some ti253) .nil .nil))))))) (.node (some ti2) (.node (some ti4) (.node (some ti8) (.node (some ti16) (.node (some ti32) (.node (some ti64) (.node (some ti128) (.node (some ti256) .nil .nil) (.node (some ti384) .nil .nil)) (.node none (.node (some ti320) .nil .nil) .nil)) (.node none (.node none (.node (some ti288) (.node (some ti544) .nil .nil) .nil) .nil) (.node none (.node (some ti352) .nil .nil) .nil))) (.node (some ti48) (.node (some ti80) (.node none (.node (some ti272) (.node (some ti528) .nil .nil) .nil) (.node (some ti400) .nil .nil)) (.node none .nil (.node (some ti464) .nil .nil))) (.node (some ti112) (.node none (.node (some ti304) .nil .nil) .nil) .nil))) (.node (some ti24) (.node (some ti40) (.node none (.node (some ti136) (.node (some ti264) .nil .nil) .nil) (.node none (.node (some ti328) .nil .nil) (.node (some ti456) .nil .nil))) (.node (some ti104) (.node none (.node (some ti296) .nil .nil) .nil) .nil)) (.node (some ti56) (.node (some ti88) (.node (some ti152) .nil (.node (some ti408) .nil .nil)) (.node (some ti216) (.node none (.node (some ti600) .nil .nil) .nil) .nil)) (.node (some ti120) (.node none (.node (some ti312) (.node (some ti568) .nil .nil) .nil) .nil) (.node none (.node (some ti376) .nil .nil) .nil))))) (.node (some ti12) (.node (some ti20) (.node none (.node (some ti68) .nil (.node none .nil (.node (some ti452) .nil .nil))) (.node (some ti100) .nil (.node (some ti228) .nil .nil))) (.node (some ti52) (.node none .nil (.node none (.node (some ti340) .nil .nil) .nil)) (.node (some ti116) (.node none (.node (some ti308) .nil .nil) .nil) .nil))) (.node (some ti28) (.node (some ti44) (.node none (.node none .nil (.node (some ti396) .nil .nil)) (.node none (.node (some ti332) .nil .nil) (.node (some ti460) .nil .nil))) (.node (some ti108) (.node none (.node (some ti300) .nil .nil) (.node (some ti428) .nil .nil)) (.node (some ti236) .nil .nil))) (.node (some ti60) (.node none (.node (some ti156) (.node (some ti284) .nil .nil) .nil) (.node none (.node (some ti348) .nil .nil) .nil)) (.node none (.node none (.node (some ti316) .nil .nil) (.node (some ti444) .nil .nil)) (.node none (.node (some ti380) (.node (some ti636) .nil .nil) .nil) (.node (some ti508) .nil .nil))))))) (.node (some ti6) (.node (some ti10) (.node none (.node (some ti34) (.node (some ti66) (.node none (.node (some ti258) .nil .nil) .nil) (.node none (.node (some ti322) .nil .nil) .nil)) (.node (some ti98) (.node none .nil (.node (some ti418) .nil .nil)) (.node none (.node none (.node (some ti610) .nil .nil) .nil) .nil))) (.node (some ti50) (.node none (.node none .nil (.node (some ti402) .nil .nil)) (.node none (.node (some ti338) .nil .nil) .nil)) (.node (some ti114) .nil (.node (some ti242) .nil .nil)))) (.node none (.node (some ti42) (.node none (.node none (.node (some ti266) .nil .nil) .nil) (.node none (.node (some ti330) .nil .nil) .nil)) (.node (some ti106) .nil .nil)) (.node (some ti58) (.node none (.node none .nil (.node (some ti410) .nil .nil)) .nil) (.node (some ti122) (.node (some ti186) (.node (some ti314) .nil .nil) (.node (some ti442) .nil .nil)) (.node (some ti250) .nil .nil))))) (.node none (.node (some ti22) (.node (some ti38) (.node none (.node none (.node none (.node (some ti518) .nil .nil) .nil) (.node (some ti390) .nil .nil)) (.node none .nil (.node (some ti454) .nil .nil))) (.node (some ti102) (.node none (.node none (.node (some ti550) .nil .nil) .nil) (.node (some ti422) .nil .nil)) .nil)) (.node (some ti54) (.node (some ti86) (.node (some ti150) .nil (.node (some ti406) .nil .nil)) (.node none (.node (some ti342) .nil .nil) .nil)) (.node (some ti118) .nil (.node none (.node none (.node (some ti630) .nil .nil) .nil) .nil)))) (.node (some ti30) (.node (some ti46) (.node none (.node none .nil (.node (some ti398) .nil .nil)) (.node (some ti206) .nil (.node (some ti462) .nil .nil))) (.node (some ti110) (.node (some ti174) (.node none (.node (some ti558) .nil .nil) .nil) .nil) (.node (some ti238) .nil (.node (some ti494) .nil .nil)))) (.node (some ti62) (.node (some ti94) (.node none .nil (.node (some ti414) .nil .nil)) (.node (some ti222) (.node (some ti350) (.node (some ti606) .nil .nil) .nil) .nil)) (.node none (.node none .nil (.node (some ti446) .nil .nil)) (.node none (.node none (.node (some ti638) .nil .nil) .nil) .nil)))))))
noncomputable def fnT:Tr Func:=.node none (.node none (.node (some Tryz.f3) (.node (some Tryz.f7) (.node (some Tryz.f15) (.node (some Tryz.f31) (.node (some Tryz.f63) (.node (some Tryz.f127) (.node (some Tryz.f255) .nil .nil) (.node (some Tryz.f383) .nil .nil)) (.node (some Tryz.f191) (.node (some Tryz.f319) .nil .nil) (.node (some Tryz.f447) .nil .nil))) (.node (some Tryz.f95) (.node (some Tryz.f159) (.node (some Tryz.f287) .nil .nil) (.node (some Tryz.f415) .nil .nil)) (.node (some Tryz.f223) (.node (some Tryz.f351) .nil .nil) .nil))) (.node (some Tryz.f47) (.node (some Tryz.f79) (.node (some Tryz.f143) .nil (.node (some Tryz.f399) .nil .nil)) (.node (some Tryz.f207) (.node (some Tryz.f335) .nil .nil) .nil)) (.node (some Tryz.f111) (.node none (.node (some Tryz.f303) .nil .nil) (.node (some Tryz.f431) .nil .nil)) (.node (some Tryz.f239) (.node (some Tryz.f367) .nil .nil) .nil)))) (.node (some Tryz.f23) (.node (some Tryz.f39) (.node (some Tryz.f71) (.node (some Tryz.f135) (.node (some Tryz.f263) .nil .nil) (.node (some Tryz.f391) .nil .nil)) (.node (some Tryz.f199) (.node (some Tryz.f327) .nil .nil) (.node (some Tryz.f455) .nil .nil))) (.node (some Tryz.f103) (.node (some Tryz.f167) (.node (some Tryz.f295) .nil .nil) (.node (some Tryz.f423) .nil .nil)) (.node (some Tryz.f231) (.node (some Tryz.f359) .nil .nil) .nil))) (.node (some Tryz.f55) (.node none (.node (some Tryz.f151) .nil (.node (some Tryz.f407) .nil .nil)) (.node (some Tryz.f215) (.node (some Tryz.f343) .nil .nil) .nil)) (.node (some Tryz.f119) (.node (some Tryz.f183) (.node (some Tryz.f311) .nil .nil) (.node (some Tryz.f439) .nil .nil)) (.node (some Tryz.f247) (.node (some Tryz.f375) .nil .nil) .nil))))) (.node (some Tryz.f11) (.node (some Tryz.f19) (.node (some Tryz.f35) (.node (some Tryz.f67) (.node (some Tryz.f131) (.node (some Tryz.f259) .nil .nil) (.node (some Tryz.f387) .nil .nil)) (.node (some Tryz.f195) (.node (some Tryz.f323) .nil .nil) (.node (some Tryz.f451) .nil .nil))) (.node (some Tryz.f99) (.node (some Tryz.f163) (.node (some Tryz.f291) .nil .nil) (.node (some Tryz.f419) .nil .nil)) (.node (some Tryz.f227) (.node (some Tryz.f355) .nil .nil) .nil))) (.node (some Tryz.f51) (.node (some Tryz.f83) (.node (some Tryz.f147) .nil (.node (some Tryz.f403) .nil .nil)) (.node (some Tryz.f211) (.node (some Tryz.f339) .nil .nil) .nil)) (.node (some Tryz.f115) (.node (some Tryz.f179) (.node (some Tryz.f307) .nil .nil) (.node (some Tryz.f435) .nil .nil)) (.node none (.node (some Tryz.f371) .nil .nil) .nil)))) (.node (some Tryz.f27) (.node (some Tryz.f43) (.node (some Tryz.f75) (.node (some Tryz.f139) .nil (.node (some Tryz.f395) .nil .nil)) (.node (some Tryz.f203) (.node (some Tryz.f331) .nil .nil) .nil)) (.node (some Tryz.f107) (.node (some Tryz.f171) (.node (some Tryz.f299) .nil .nil) (.node (some Tryz.f427) .nil .nil)) (.node (some Tryz.f235) (.node (some Tryz.f363) .nil .nil) .nil))) (.node (some Tryz.f59) (.node (some Tryz.f91) (.node (some Tryz.f155) (.node (some Tryz.f283) .nil .nil) (.node (some Tryz.f411) .nil .nil)) (.node (some Tryz.f219) (.node (some Tryz.f347) .nil .nil) .nil)) (.node (some Tryz.f123) (.node (some Tryz.f187) (.node (some Tryz.f315) .nil .nil) (.node (some Tryz.f443) .nil .nil)) (.node (some Tryz.f251) (.node (some Tryz.f379) .nil .nil) .nil)))))) (.node (some Tryz.f5) (.node (some Tryz.f9) (.node (some Tryz.f17) (.node (some Tryz.f33) (.node (some Tryz.f65) (.node (some Tryz.f129) (.node (some Tryz.f257) .nil .nil) .nil) (.node (some Tryz.f193) (.node (some Tryz.f321) .nil .nil) (.node (some Tryz.f449) .nil .nil))) (.node (some Tryz.f97) (.node (some Tryz.f161) (.node (some Tryz.f289) .nil .nil) (.node (some Tryz.f417) .nil .nil)) (.node (some Tryz.f225) (.node (some Tryz.f353) .nil .nil) .nil))) (.node (some Tryz.f49) (.node (some Tryz.f81) (.node (some Tryz.f145) .nil (.node (some Tryz.f401) .nil .nil)) (.node (some Tryz.f209) (.node (some Tryz.f337) .nil .nil) .nil)) (.node (some Tryz.f113) (.node (some Tryz.f177) (.node (some Tryz.f305) .nil .nil) (.node (some Tryz.f433) .nil .nil)) (.node (some Tryz.f241) (.node (some Tryz.f369) .nil .nil) .nil)))) (.node (some Tryz.f25) (.node (some Tryz.f41) (.node (some Tryz.f73) (.node (some Tryz.f137) .nil (.node (some Tryz.f393) .nil .nil)) (.node (some Tryz.f201) (.node (some Tryz.f329) .nil .nil) .nil)) (.node (some Tryz.f105) (.node (some Tryz.f169) (.node (some Tryz.f297) .nil .nil) (.node (some Tryz.f425) .nil .nil)) (.node (some Tryz.f233) (.node (some Tryz.f361) .nil .nil) .nil))) (.node (some Tryz.f57) (.node (some Tryz.f89) (.node (some Tryz.f153) (.node (some Tryz.f281) .nil .nil) (.node (some Tryz.f409) .nil .nil)) (.node (some Tryz.f217) (.node (some Tryz.f345) .nil .nil) .nil)) (.node (some Tryz.f121) (.node (some Tryz.f185) (.node (some Tryz.f313) .nil .nil) (.node (some Tryz.f441) .nil .nil)) (.node (some Tryz.f249) (.node (some Tryz.f377) .nil .nil) .nil))))) (.node (some Tryz.f13) (.node (some Tryz.f21) (.node (some Tryz.f37) (.node (some Tryz.f69) (.node (some Tryz.f133) (.node (some Tryz.f261) .nil .nil) (.node (some Tryz.f389) .nil .nil)) (.node (some Tryz.f197) (.node (some Tryz.f325) .nil .nil) (.node (some Tryz.f453) .nil .nil))) (.node (some Tryz.f101) (.node (some Tryz.f165) (.node (some Tryz.f293) .nil .nil) (.node (some Tryz.f421) .nil .nil)) (.node (some Tryz.f229) (.node (some Tryz.f357) .nil .nil) .nil))) (.node (some Tryz.f53) (.node (some Tryz.f85) (.node (some Tryz.f149) .nil (.node (some Tryz.f405) .nil .nil)) (.node (some Tryz.f213) (.node (some Tryz.f341) .nil .nil) .nil)) (.node (some Tryz.f117) (.node (some Tryz.f181) (.node (some Tryz.f309) .nil .nil) (.node (some Tryz.f437) .nil .nil)) (.node (some Tryz.f245) (.node (some Tryz.f373) .nil .nil) .nil)))) (.node (some Tryz.f29) (.node (some Tryz.f45) (.node (some Tryz.f77) (.node (some Tryz.f141) .nil (.node (some Tryz.f397) .nil .nil)) (.node (some Tryz.f205) (.node (some Tryz.f333) .nil .nil) .nil)) (.node (some Tryz.f109) (.node (some Tryz.f173) (.node (some Tryz.f301) .nil .nil) (.node (some Tryz.f429) .nil .nil)) (.node (some Tryz.f237) (.node (some Tryz.f365) .nil .nil) .nil))) (.node (some Tryz.f61) (.node (some Tryz.f93) (.node (some Tryz.f157) (.node (some Tryz.f285) .nil .nil) (.node (some Tryz.f413) .nil .nil)) (.node (some Tryz.f221) (.node (some Tryz.f349) .nil .nil) .nil)) (.node (some Tryz.f125) (.node (some Tryz.f189) (.node (some Tryz.f317) .nil .nil) .nil) (.node (some Tryz.f253) (.node (some Tryz.f381) .nil .nil) .nil))))))) (.node none (.node (some Tryz.f4) (.node (some Tryz.f8) (.node (some Tryz.f16) (.node (some Tryz.f32) (.node (some Tryz.f64) (.node (some Tryz.f128) (.node (some Tryz.f256) .nil .nil) (.node (some Tryz.f384) .nil .nil)) (.node (some Tryz.f192) (.node (some Tryz.f320) .nil .nil) (.node (some Tryz.f448) .nil .nil))) (.node (some Tryz.f96) (.node (some Tryz.f160) (.node (some Tryz.f288) .nil .nil) (.node (some Tryz.f416) .nil .nil)) (.node (some Tryz.f224) (.node (some Tryz.f352) .nil .nil) .nil))) (.node (some Tryz.f48) (.node (some Tryz.f80) (.node (some Tryz.f144) .nil (.node (some Tryz.f400) .nil .nil)) (.node (some Tryz.f208) (.node (some Tryz.f336) .nil .nil) .nil)) (.node (some Tryz.f112) (.node (some Tryz.f176) (.node (some Tryz.f304) .nil .nil) (.node (some Tryz.f432) .nil .nil)) (.node (some Tryz.f240) (.node (some Tryz.f368) .nil .nil) .nil)))) (.node (some Tryz.f24) (.node (some Tryz.f40) (.node (some Tryz.f72) (.node (some Tryz.f136) .nil (.node (some Tryz.f392) .nil .nil)) (.node (some Tryz.f200) (.node (some Tryz.f328) .nil .nil) (.node (some Tryz.f456) .nil .nil))) (.node (some Tryz.f104) (.node (some Tryz.f168) (.node (some Tryz.f296) .nil .nil) (.node (some Tryz.f424) .nil .nil)) (.node none (.node (some Tryz.f360) .nil .nil) .nil))) (.node (some Tryz.f56) (.node (some Tryz.f88) (.node (some Tryz.f152) .nil (.node (some Tryz.f408) .nil .nil)) (.node (some Tryz.f216) (.node (some Tryz.f344) .nil .nil) .nil)) (.node (some Tryz.f120) (.node (some Tryz.f184) (.node (some Tryz.f312) .nil .nil) (.node (some Tryz.f440) .nil .nil)) (.node (some Tryz.f248) (.node (some Tryz.f376) .nil .nil) .nil))))) (.node (some Tryz.f12) (.node (some Tryz.f20) (.node (some Tryz.f36) (.node (some Tryz.f68) (.node (some Tryz.f132) (.node (some Tryz.f260) .nil .nil) (.node (some Tryz.f388) .nil .nil)) (.node (some Tryz.f196) (.node (some Tryz.f324) .nil .nil) (.node (some Tryz.f452) .nil .nil))) (.node (some Tryz.f100) (.node (some Tryz.f164) (.node (some Tryz.f292) .nil .nil) (.node (some Tryz.f420) .nil .nil)) (.node (some Tryz.f228) (.node (some Tryz.f356) .nil .nil) .nil))) (.node (some Tryz.f52) (.node (some Tryz.f84) (.node none .nil (.node (some Tryz.f404) .nil .nil)) (.node (some Tryz.f212) (.node (some Tryz.f340) .nil .nil) .nil)) (.node (some Tryz.f116) (.node (some Tryz.f180) (.node (some Tryz.f308) .nil .nil) (.node (some Tryz.f436) .nil .nil)) (.node (some Tryz.f244) (.node (some Tryz.f372) .nil .nil) .nil)))) (.node (some Tryz.f28) (.node (some Tryz.f44) (.node (some Tryz.f76) (.node (some Tryz.f140) .nil (.node (some Tryz.f396) .nil .nil)) (.node none (.node (some Tryz.f332) .nil .nil) .nil)) (.node (some Tryz.f108) (.node (some Tryz.f172) (.node (some Tryz.f300) .nil .nil) (.node (some Tryz.f428) .nil .nil)) (.node (some Tryz.f236) (.node (some Tryz.f364) .nil .nil) .nil))) (.node (some Tryz.f60) (.node (some Tryz.f92) (.node (some Tryz.f156) (.node (some Tryz.f284) .nil .nil) (.node (some Tryz.f412) .nil .nil)) (.node (some Tryz.f220) (.node (some Tryz.f348) .nil .nil) .nil)) (.node (some Tryz.f124) (.node (some Tryz.f188) (.node (some Tryz.f316) .nil .nil) (.node (some Tryz.f444) .nil .nil)) (.node (some Tryz.f252) (.node (some Tryz.f380) .nil .nil) .nil)))))) (.node (some Tryz.f6) (.node (some Tryz.f10) (.node (some Tryz.f18) (.node (some Tryz.f34) (.node (some Tryz.f66) (.node (some Tryz.f130) (.node (some Tryz.f258) .nil .nil) (.node (some Tryz.f386) .nil .nil)) (.node (some Tryz.f194) (.node (some Tryz.f322) .nil .nil) (.node (some Tryz.f450) .nil .nil))) (.node (some Tryz.f98) (.node (some Tryz.f162) (.node (some Tryz.f290) .nil .nil) (.node (some Tryz.f418) .nil .nil)) (.node (some Tryz.f226) (.node (some Tryz.f354) .nil .nil) .nil))) (.node (some Tryz.f50) (.node (some Tryz.f82) (.node (some Tryz.f146) .nil (.node (some Tryz.f402) .nil .nil)) (.node (some Tryz.f210) (.node (some Tryz.f338) .nil .nil) .nil)) (.node (some Tryz.f114) (.node (some Tryz.f178) (.node (some Tryz.f306) .nil .nil) (.node (some Tryz.f434) .nil .nil)) (.node (some Tryz.f242) (.node (some Tryz.f370) .nil .nil) .nil)))) (.node (some Tryz.f26) (.node (some Tryz.f42) (.node (some Tryz.f74) (.node (some Tryz.f138) .nil (.node (some Tryz.f394) .nil .nil)) (.node (some Tryz.f202) (.node (some Tryz.f330) .nil .nil) .nil)) (.node (some Tryz.f106) (.node (some Tryz.f170) (.node (some Tryz.f298) .nil .nil) (.node (some Tryz.f426) .nil .nil)) (.node (some Tryz.f234) (.node (some Tryz.f362) .nil .nil) .nil))) (.node (some Tryz.f58) (.node (some Tryz.f90) (.node (some Tryz.f154) (.node (some Tryz.f282) .nil .nil) (.node (some Tryz.f410) .nil .nil)) (.node (some Tryz.f218) (.node (some Tryz.f346) .nil .nil) .nil)) (.node (some Tryz.f122) (.node (some Tryz.f186) (.node (some Tryz.f314) .nil .nil) (.node (some Tryz.f442) .nil .nil)) (.node (some Tryz.f250) (.node (some Tryz.f378) .nil .nil) .nil))))) (.node (some Tryz.f14) (.node (some Tryz.f22) (.node (some Tryz.f38) (.node (some Tryz.f70) (.node (some Tryz.f134) (.node (some Tryz.f262) .nil .nil) (.node (some Tryz.f390) .nil .nil)) (.node (some Tryz.f198) (.node (some Tryz.f326) .nil .nil) (.node (some Tryz.f454) .nil .nil))) (.node (some Tryz.f102) (.node (some Tryz.f166) (.node (some Tryz.f294) .nil .nil) (.node (some Tryz.f422) .nil .nil)) (.node (some Tryz.f230) (.node (some Tryz.f358) .nil .nil) .nil))) (.node (some Tryz.f54) (.node (some Tryz.f86) (.node (some Tryz.f150) .nil (.node (some Tryz.f406) .nil .nil)) (.node (some Tryz.f214) (.node (some Tryz.f342) .nil .nil) .nil)) (.node (some Tryz.f118) (.node (some Tryz.f182) (.node (some Tryz.f310) .nil .nil) (.node (some Tryz.f438) .nil .nil)) (.node (some Tryz.f246) (.node (some Tryz.f374) .nil .nil) .nil)))) (.node (some Tryz.f30) (.node (some Tryz.f46) (.node (some Tryz.f78) (.node (some Tryz.f142) .nil (.node (some Tryz.f398) .nil .nil)) (.node (some Tryz.f206) (.node (some Tryz.f334) .nil .nil) .nil)) (.node (some Tryz.f110) (.node (some Tryz.f174) (.node (some Tryz.f302) .nil .nil) (.node (some Tryz.f430) .nil .nil)) (.node (some Tryz.f238) (.node (some Tryz.f366) .nil .nil) .nil))) (.node (some Tryz.f62) (.node (some Tryz.f94) (.node (some Tryz.f158) (.node (some Tryz.f286) .nil .nil) (.node (some Tryz.f414) .nil .nil)) (.node (some Tryz.f222) .nil .nil)) (.node (some Tryz.f126) (.node (some Tryz.f190) (.node (some Tryz.f318) .nil .nil) (.node (some Tryz.f446) .nil .nil)) (.node (some Tryz.f254) (.node (some Tryz.f382) .nil .nil) .nil)))))))
noncomputable def extT:Tr (List V->Option V):=.node none (.node none (.node none (.node none (.node none .nil (.node none .nil (.node none (.node (some noV) .nil .nil) .nil))) (.node none .nil (.node none (.node (some sameV) .nil .nil) .nil))) (.node none (.node none .nil (.node none .nil (.node none .nil (.node (some indexV) .nil .nil)))) .nil)) (.node none .nil (.node none .nil (.node none .nil (.node none .nil (.node none (.node none .nil (.node (some add64V) .nil .nil)) .nil)))))) (.node none (.node none .nil (.node none (.node none .nil (.node none (.node none (.node (some countV) .nil .nil) .nil) .nil)) .nil)) .nil)
noncomputable def mpT:Tr (TypeId×TypeId):=.node none .nil (.node none (.node none (.node none (.node none (.node none (.node (some (9,63)) .nil .nil) .nil) .nil) (.node none (.node none .nil (.node (some (9,103)) .nil .nil)) .nil)) (.node none .nil (.node (some (9,50)) .nil .nil))) .nil)
noncomputable def uxT:Tr UX:=.node none (.node none (.node none (.node none (.node none (.node none .nil (.node none .nil (.node none (.node (some (.mk 5)) .nil .nil) .nil))) .nil) .nil) .nil) .nil) (.node none (.node none (.node none (.node none .nil (.node none (.node none (.node none (.node (some (.ptr 5)) .nil .nil) .nil) .nil) .nil)) (.node none (.node none (.node none (.node none .nil (.node (some .raw) .nil .nil)) .nil) .nil) .nil)) .nil) (.node none (.node none (.node none (.node none (.node none (.node (some (.ptr 68)) .nil .nil) .nil) .nil) .nil) .nil) (.node none .nil (.node none .nil (.node none .nil (.node (some .fnc) .nil .nil))))))
noncomputable def mtT:Tr (List (String×FuncId)):=.node none (.node none (.node none (.node none (.node none .nil (.node none .nil (.node none .nil (.node (some [("beadroll/node.can",369),("beadroll/node.step",370)]) .nil .nil)))) .nil) .nil) .nil) (.node none (.node none .nil (.node none .nil (.node none (.node none .nil (.node none .nil (.node (some [("beadroll/node.can",281),("beadroll/node.step",282)]) .nil .nil))) .nil))) (.node none .nil (.node none .nil (.node none (.node none .nil (.node none .nil (.node (some [("beadroll/node.can",365),("beadroll/node.step",366)]) .nil .nil))) .nil))))
noncomputable def cfg:Cfg:=⟨λt=>tyT.get t,λf=>fnT.get f,λf=>extT.get f,λg=>Nat.ble (g+1) 10,λ_=>none,λt=>mpT.get t,λt m=>mtOf mtT t m,λk=>uxT.get k⟩
end Go.Proofs.YthicobhmmikngaaGreatDoor

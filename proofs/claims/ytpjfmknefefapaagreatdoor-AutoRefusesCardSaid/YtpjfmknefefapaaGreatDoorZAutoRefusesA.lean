/-
  What the proof of AutoRefuses stands on, part 1. No condition.
-/
import Derived.WalkKit
import Derived.ProofKit
import Derived.Below
import Derived.OwnWalk
import Derived.Deep.WholeRow
import Derived.Laws.CopyRow
import Derived.Deep.Draws
import Derived.RangeFuncLeaves
import Derived.RangeFuncCalls
import Derived.RangeFuncFrom
import Derived.Scope
import Derived.OrdersIn
import Derived.TacticsIn
import Derived.Stop.BytesEq
import Derived.IntWalk
import Derived.Laws.StructEq
import Derived.Laws.Small
import Derived.Shelf.Abstract
import Derived.OwnWalkIn
import Derived.Laws.Slices
import Derived.ChangeKeysEq
import Derived.KernelRfl
import Derived.RangeFuncNested
import Derived.RangeFuncBound
import Derived.MapKept
import Derived.Deep.AppendSrc
import Derived.Laws.AppendOwn
import Derived.Laws.MakeOwn
import Derived.Laws.BytesArg
import Derived.Laws.IdiomStrings
set_option linter.unusedSimpArgs false
set_option linter.unusedVariables false
namespace Go.Proofs.YtpjfmknefefapaaGreatDoor
section
open Go.RowKit
theorem Za:type_of% @List.getElem?_eq_getElem:=@List.getElem?_eq_getElem
theorem Zb:type_of% @Bool.and_eq_true:=@Bool.and_eq_true
theorem Zc:type_of% @Nat.le_refl:=@Nat.le_refl
theorem Zd:type_of% @List.length_map:=@List.length_map
theorem Ze:type_of% @congrArg:=@congrArg
theorem Zf:type_of% @List.mem_of_getElem?:=@List.mem_of_getElem?
theorem Zg:type_of% @if_neg:=@if_neg
theorem Zh:type_of% @Nat.eq_of_beq_eq_true:=@Nat.eq_of_beq_eq_true
theorem Zi:type_of% @Nat.zero_le:=@Nat.zero_le
theorem Zj:type_of% @List.length_append:=@List.length_append
theorem Zk:type_of% @Option.some.injEq:=@Option.some.injEq
theorem Zl:type_of% @Nat.ble_eq_true_of_le:=@Nat.ble_eq_true_of_le
theorem Zm:type_of% @List.take_of_length_le:=@List.take_of_length_le
theorem Zn:type_of% @decide_eq_true:=@decide_eq_true
theorem Zo:type_of% @decide_eq_false:=@decide_eq_false
theorem Zp:type_of% @Array.getElem?_eq_some_iff:=@Array.getElem?_eq_some_iff
theorem Zq:type_of% @List.getElem?_eq_some_iff:=@List.getElem?_eq_some_iff
theorem Zs:type_of% @Nat.le_trans:=@Nat.le_trans
theorem Zt:type_of% @if_pos:=@if_pos
theorem Zu:type_of% @List.length_take:=@List.length_take
theorem Zv:type_of% @List.length_cons:=@List.length_cons
theorem Zw:type_of% @Nat.lt_of_lt_of_le:=@Nat.lt_of_lt_of_le
theorem Zx:type_of% @List.length_drop:=@List.length_drop
theorem Zy:type_of% @run_underlying:=@run_underlying
theorem Zz:type_of% @List.append_assoc:=@List.append_assoc
theorem ZA:type_of% @Result.andThen_ok:=@Result.andThen_ok
theorem ZB:type_of% @Option.some.inj:=@Option.some.inj
theorem ZC:type_of% @List.map_cons:=@List.map_cons
theorem ZD:type_of% @List.mem_of_mem_drop:=@List.mem_of_mem_drop
theorem ZE:type_of% @Nat.beq_eq:=@Nat.beq_eq
theorem ZF:type_of% @List.mem_cons:=@List.mem_cons
theorem ZG:type_of% @Array.getElem?_eq_getElem:=@Array.getElem?_eq_getElem
theorem ZH:type_of% @List.mem_of_mem_take:=@List.mem_of_mem_take
theorem ZI:type_of% @Nat.lt_succ_iff_lt_or_eq:=@Nat.lt_succ_iff_lt_or_eq
theorem ZJ:type_of% @List.take_append_drop:=@List.take_append_drop
theorem ZK:type_of% @Nat.add_assoc:=@Nat.add_assoc
theorem ZL:type_of% @Sem.run_bind:=@Sem.run_bind
theorem ZM:type_of% @Nat.lt_or_ge:=@Nat.lt_or_ge
theorem ZN:type_of% @Nat.zero_add:=@Nat.zero_add
theorem ZO:type_of% @Nat.add_mul:=@Nat.add_mul
theorem ZP:type_of% @List.mem_cons_of_mem:=@List.mem_cons_of_mem
theorem ZQ:type_of% @Prod.mk.injEq:=@Prod.mk.injEq
theorem ZR:type_of% @List.size_toArray:=@List.size_toArray
theorem ZS:type_of% @List.mem_cons_self:=@List.mem_cons_self
theorem ZT:type_of% @List.mem_append:=@List.mem_append
theorem ZU:type_of% @List.append_nil:=@List.append_nil
theorem ZV:type_of% @List.drop_zero:=@List.drop_zero
theorem ZW:type_of% @List.drop_of_length_le:=@List.drop_of_length_le
theorem ZX:type_of% @List.getElem?_drop:=@List.getElem?_drop
theorem ZY:type_of% @List.getElem?_map:=@List.getElem?_map
theorem ZZ:type_of% @Array.getD_eq_getD_getElem?:=@Array.getD_eq_getD_getElem?
theorem Z0:type_of% @List.take_append_of_le_length:=@List.take_append_of_le_length
theorem Z1:type_of% @List.mem_map:=@List.mem_map
theorem Z2:type_of% @Nat.mul_one:=@Nat.mul_one
theorem Z3:type_of% @Nat.mul_le_mul_right:=@Nat.mul_le_mul_right
theorem Z4:type_of% @List.length_eq_zero_iff:=@List.length_eq_zero_iff
theorem Z5:type_of% @List.map_append:=@List.map_append
theorem Z6:type_of% @List.drop_append_of_le_length:=@List.drop_append_of_le_length
theorem Z7:type_of% @decide_eq_true_eq:=@decide_eq_true_eq
theorem Z8:type_of% @List.drop_drop:=@List.drop_drop
theorem Z9:type_of% @decide_eq_decide:=@decide_eq_decide
theorem YA:type_of% @Array.toList_inj:=@Array.toList_inj
theorem YB:type_of% @Sem.run_pure:=@Sem.run_pure
theorem YC:type_of% @Nat.mul_comm:=@Nat.mul_comm
theorem YD:type_of% @List.length_nil:=@List.length_nil
theorem YE:type_of% @Nat.lt_succ_self:=@Nat.lt_succ_self
theorem YF:type_of% @List.take_add_one:=@List.take_add_one
theorem YG:type_of% @List.not_mem_nil:=@List.not_mem_nil
theorem YH:type_of% @Nat.min_eq_left:=@Nat.min_eq_left
theorem YI:type_of% @List.getElem?_take:=@List.getElem?_take
theorem YJ:type_of% @List.nodup_nil:=@List.nodup_nil
theorem YK:type_of% @Nat.le_succ:=@Nat.le_succ
theorem YL:type_of% @List.length_set:=@List.length_set
theorem YM:type_of% @List.cons.injEq:=@List.cons.injEq
theorem YN:type_of% @of_decide_eq_true:=@of_decide_eq_true
theorem YO:type_of% @List.take_take:=@List.take_take
theorem YP:type_of% @List.drop_length_add_append:=@List.drop_length_add_append
theorem YQ:type_of% @Nat.blt_eq:=@Nat.blt_eq
theorem YR:type_of% @Classical.byContradiction:=@Classical.byContradiction
theorem YS:type_of% @Nat.eq_zero_or_pos:=@Nat.eq_zero_or_pos
theorem YT:type_of% @Array.getElem?_setIfInBounds:=@Array.getElem?_setIfInBounds
theorem YU:type_of% @Option.getD_none:=@Option.getD_none
theorem YV:type_of% @Nat.mod_eq_of_lt:=@Nat.mod_eq_of_lt
theorem YW:type_of% @List.cons_append:=@List.cons_append
theorem YX:type_of% @List.nil_append:=@List.nil_append
theorem YY:type_of% @Nat.beq_refl:=@Nat.beq_refl
theorem YZ:type_of% @List.getElem?_append:=@List.getElem?_append
theorem Y0:type_of% @List.nodup_cons:=@List.nodup_cons
theorem Y1:type_of% @Bool.and_false:=@Bool.and_false
theorem Y2:type_of% @Bool.or_eq_true:=@Bool.or_eq_true
theorem Y3:type_of% @Nat.add_zero:=@Nat.add_zero
theorem Y4:type_of% @List.mem_singleton:=@List.mem_singleton
theorem Y5:type_of% @Bool.true_and:=@Bool.true_and
theorem Y6:type_of% @Nat.pow_le_pow_right:=@Nat.pow_le_pow_right
theorem Y7:type_of% @List.length_replicate:=@List.length_replicate
theorem Y8:type_of% @Nat.sub_zero:=@Nat.sub_zero
def Ybq(w:World)(a:Addr)(n:Nat):Option (Array Value):=
 match w.heap[a.block]? with
 |some (.cells c _ _)=>if a.spot=none/\a.off+n<=c.size then some (c.extract a.off (a.off+n)) else none
 |_=>none
def aggLen(P:Program)(T:TypeId):Option Nat:=
 match P.underlying T with
 |some (.struct _)=>(P.info? T).map (·.size)
 |some (.array _ _)=>(P.info? T).map (·.size)
 |_=>none
def mqq(T:TypeId)(a:Addr):Sem Value:=loadVar T a
theorem b6q{P:Program}{T n:Nat}(h:aggLen P T=some n)(w:World):(isAgg T).run P w= .ok true w/\(sizeOf T).run P w= .ok n w:=by
 unfold aggLen at h;cases hu:P.underlying T with
 |none=>simp[hu] at h
 |some d=>
  cases hi:P.info? T with
  |none=>cases d<;>simp[hu,hi] at h
  |some i=>
   have hs:i.size=n:=by cases d<;>simp[hu,hi] at h<;>exact h
   refine⟨?_,?_⟩
   .unfold isAgg;rw[ZL,Zy hu w];cases d<;>simp_all
   .simp[sizeOf,typeInfo,hi,hs]
theorem eZq{w:World}{a:Addr}{n:Nat}{cs:Array Value}(h:Ybq w a n=some cs):cs.size=n/\∀j v,cs[j]? =some v->w.cell? (a.add j)=some v:=by
 unfold Ybq at h;split at h
 .rename_i c t f hb;split at h
  .rename_i hc;obtain⟨hs,hn⟩:=hc;simp only[Zk] at h;subst h;refine⟨by simp;omega,λj v hv=>?_⟩
   have hadd:a.add j=⟨a.block,a.off+j,none⟩:=by
    cases a;simp only at hs;subst hs;unfold Addr.add;split<;>simp_all
   rw[hadd];simp only[World.cell?,hb];simp only[Array.getElem?_extract] at hv;split at hv
   .simpa using hv
   .cases hv
  .cases h
 .cases h
theorem Yaq{P:Program}{T n:Nat}(h:aggLen P T=some n)(a:Addr)(w:World):
  (loadVar T a).run P w=match Ybq w a n with
   |some cs=>.ok (.agg cs) w
   |none=>(mqq T a).run P w:=by
 cases hr:Ybq w a n with
 |none=>rfl
 |some cs=>
  obtain⟨hs,hc⟩:=eZq hr;obtain⟨h1,h2⟩:=b6q h w;have hl:=run_loadCells_list (P:=P) w a cs.toList (λj v hv=>hc j v (by simpa using hv));simp only[Array.length_toList,Array.toArray_toList,hs] at hl;simp[loadVar,ZL,h1,h2,hl]
section
variable (w:World)
@[simp,go_sem] theorem sGq(a:Addr)(m:Nat):Ybq w.drew a m=Ybq w a m:=rfl
@[simp,go_sem] theorem pvq(k:Nat)(a:Addr)(m:Nat):Ybq (w.drewN k) a m=Ybq w a m:=rfl
end
def qMq(c:Array Value)(off:Nat)(vs:Array Value):Array Value:=(c.toList.take off++vs.toList++c.toList.drop (off+vs.size)).toArray
theorem uwq(c:Array Value)(off:Nat)(vs:Array Value)(h:off+vs.size<=c.size):(qMq c off vs).size=c.size:=by
 simp[qMq];omega
def ebq(w:World)(a:Addr)(n:Nat):Bool:=
 match w.heap[a.block]? with
 |some (.cells c _ f)=>decide (a.spot=none)&&decide (f=(0,0))&&decide (a.off+n<=c.size)
 |_=>false
def dGq(w:World)(a:Addr)(vs:Array Value):World:=
 match w.heap[a.block]? with
 |some (.cells c _ _)=>w.setRow a.block (qMq c a.off vs)
 |_=>w
def l5q(vs:Array Value):Bool:=vs.all (·.oneCell')
section
variable (w:World)
@[simp,go_sem] theorem rvq(a:Addr)(m:Nat):ebq w.drew a m=ebq w a m:=rfl
@[simp,go_sem] theorem ooq(k:Nat)(a:Addr)(m:Nat):ebq (w.drewN k) a m=ebq w a m:=rfl
@[simp] theorem lGq(a:Addr)(vs:Array Value):(dGq w a vs).heap.size=w.heap.size:=by
 unfold dGq;split<;>simp
end
theorem Xd{p:Prop}(h:p:=by omega):p:=h
theorem Xg{p:Prop}(h:p:=by decide):p:=h
theorem Xi{p:Prop}(h:p:=by simp):p:=h
theorem Xo{p:Prop}(h:p:=by simp;omega):p:=h
theorem Yh{p:Prop}(h:p:=by assumption):p:=h
theorem Xh{p:Prop}(h:p:=by repeat (first|exact trivial|refine⟨by first|rfl|exact zaq (by first|rfl|(simp;done)),?_⟩)):p:=h
theorem Xj{p:Prop}(h:p:=by repeat (first|exact trivial|refine⟨⟨by decide,rfl,by first|rfl|exact zaq (by first|rfl|(simp;done))⟩,?_⟩)):p:=h
theorem Xn{p:Prop}(h:p:=by first|rfl|assumption|(simp;done)):p:=h
theorem Xq{p:Prop}(h:p:=by first|exact .inr rfl|exact .inl rfl):p:=h
theorem Xw{p:Prop}(h:p:=by simp only;omega):p:=h
theorem Xx{p:Prop}(h:p:=by first|decide|simp):p:=h
theorem Yq{p:Prop}(h:p:=by intro l h;cases h):p:=h
theorem Xk{p:Prop}(h:p:=by intro h;cases h):p:=h
theorem Xl{p:Prop}(h:p:=by intro b hb;simp only[ZF,YG,or_false] at hb;omega):p:=h
theorem Ys{p:Prop}(h:p:=by rw[Zx];omega):p:=h
theorem Yv{p:Prop}(h:p:=by rw[zfq (yDq _ _ _)];rfl):p:=h
theorem Qb{p:Prop}(h:p:=by simp[abq,acq]):p:=h
theorem Qo{p:Prop}(h:p:=by rw[YY,Bool.and_true]):p:=h
theorem Xm{p:Prop}(h:p:=by congr 1;first|exact(Zn (by unfold yLq;omega)).symm|exact(Zo (by unfold yLq;omega)).symm|exact Z9.2 (by unfold yLq;omega)):p:=h
theorem Qm{p:Prop}(h:p:=by rw[<-e2];rfl):p:=h
theorem Xp{p:Prop}(h:p:=by kernel_rfl):p:=h
theorem Xr{p:Prop}(h:p:=by first|rfl|kernel_rfl):p:=h
theorem Xz{p:Prop}(h:p:=by rw[Zg hno]):p:=h
theorem Yd{p:Prop}(h:p:=by repeat (first|exact kQq|refine kTq Xd ?_|refine kRq Xd ?_|refine kSq Xd ?_)):p:=h
theorem Xt{p:Prop}(h:p:=by congr 1;first|exact(Zt ⟨hm,by omega⟩).symm|exact(Zg λq=>by have:=q.2;omega).symm):p:=h
theorem Xu{p:Prop}(h:p:=by first|assumption|(simp;done)|(simp[zbq];done)):p:=h
theorem Ya{p:Prop}(h:p:=by first|rfl|exact Zj.symm):p:=h
theorem Yo{p:Prop}(h:p:=by first|omega|decide):p:=h
theorem Yz{p:Prop}(h:p:=by intro h;rw[h] at hN;cases hN):p:=h
theorem Xv{p:Prop}(h:p:=by rw[Zt hm]):p:=h
theorem Yr{p:Prop}(h:p:=by rw[Zn (ho)]):p:=h
theorem Jk{p:Prop}(h:p:=by rw[Zn h2]):p:=h
theorem Xy{p:Prop}(h:p:=by first|rw[Zt (by unfold okH;omega)]|rw[Zg (by unfold okH;omega)]):p:=h
theorem Qe{p:Prop}(h:p:=by rw[show [beB 8 h.height.toNat,h.parent.1,h.state.1,h.rows.1,beB 4 h.many.toNat].flatten=hdB h from rfl];omega):p:=h
theorem Yc{p:Prop}(h:p:=by simp[acq]):p:=h
theorem Ye{p:Prop}(h:p:=by rw[hvl,show Nat.min m (n+m-i)=m by simp only[Nat.min_def];split<;>omega]):p:=h
theorem Yg{p:Prop}(h:p:=by simp[Act.eval,Act.put]):p:=h
theorem Qu{p:Prop}(h:p:=by rw[hdl,show Nat.min (n+m-i) (n+m-(i+m))=n-i by simp only[Nat.min_def];split<;>omega]):p:=h
theorem Qx{p:Prop}(h:p:=by rw[hdl,show Nat.min (n-i) (n+m-(i+m))=n-i by simp only[Nat.min_def];split<;>omega]):p:=h
theorem Yf{p:Prop}(h:p:=by rw[<-e];rfl):p:=h
theorem Ji{p:Prop}(h:p:=by rw[Zm Xi,uTq]):p:=h
theorem Yi{p:Prop}(h:p:=by rw[Zo λh=>h1 (by rw[h])]):p:=h
theorem Yk{p:Prop}(h:p:=by rw[Zn (x9q Xd Xd g2)]):p:=h
theorem Jd{p:Prop}(h:p:=by rw[Zo (mnq hx hy h3)]):p:=h
theorem Jg{p:Prop}(h:p:=by rw[ZN]):p:=h
theorem Jj{p:Prop}(h:p:=by rw[<-ea];rfl):p:=h
theorem Yj{p:Prop}(h:p:=by rw[Zo];intro h;rw[cMq,Zg h1] at h;omega):p:=h
theorem Yn{p:Prop}(h:p:=by rw[Zt yes]):p:=h
theorem Ym{p:Prop}(h:p:=by rw[Zu];omega):p:=h
theorem Yp{p:Prop}(h:p:=by rw[e];omega):p:=h
theorem Yt{p:Prop}(h:p:=by rw[zfq (ycq _ _)];rfl):p:=h
theorem Qg{p:Prop}(h:p:=by rw[yZq];omega):p:=h
theorem Qq{p:Prop}(h:p:=by show 4<=5;decide):p:=h
theorem Jc{p:Prop}(h:p:=by simp[psH]):p:=h
theorem Yu{p:Prop}(h:p:=by simp only[YD];omega):p:=h
theorem Yw{p:Prop}(h:p:=by show(true&&(agq 1 (hbW _)&&true))=true;rw[zaq (kcq _)];rfl):p:=h
theorem Qc{p:Prop}(h:p:=by show [_,hbW _,_]=[_,adq _ (hbW _),_];rw[zfq (kcq _)];rfl):p:=h
theorem Qn{p:Prop}(h:p:=by rw[zfq hM];rfl):p:=h
theorem Yx{p:Prop}(h:p:=by rw[Zt c1]):p:=h
theorem Yy{p:Prop}(h:p:=by rw[Zt c0]):p:=h
theorem Qr{p:Prop}(h:p:=by rw[Zt c2]):p:=h
theorem Jb{p:Prop}(h:p:=by rw[Zo (c5)]):p:=h
theorem Qa{p:Prop}(h:p:=by have:=y2q hj;omega):p:=h
theorem Qd{p:Prop}(h:p:=by split;(rename_i q;exact absurd q hd);(dsimp only;rw[hb])):p:=h
theorem Qf{p:Prop}(h:p:=by simp[hpS,Rst.hp]):p:=h
theorem Qz{p:Prop}(h:p:=by intro b hb;simp only[ZF,YG,or_false] at hb;show b<3;omega):p:=h
theorem Qh{p:Prop}(h:p:=by rw[Zn (rfl)]):p:=h
theorem Qi{p:Prop}(h:p:=by congr 1;first|exact(Zn Xd).symm|exact(Zo Xd).symm|exact Z9.2 Xd):p:=h
theorem Qj{p:Prop}(h:p:=by rw[Zd] at h;exact h):p:=h
theorem Qk{p:Prop}(h:p:=by show ns.length<=_;omega):p:=h
theorem Ql{p:Prop}(h:p:=by simp[V.size]):p:=h
theorem Qt{p:Prop}(h:p:=by rw[ok.zagg];exact ha):p:=h
theorem Qp{p:Prop}(h:p:=by rw[Zn h1]):p:=h
theorem Qs{p:Prop}(h:p:=by cases h):p:=h
theorem Qv{p:Prop}(h:p:=by simp[acq,abq]):p:=h
theorem Qw{p:Prop}(h:p:=by rw[zfq (zOq _)];rfl):p:=h
theorem Qy{p:Prop}(h:p:=by rw[Zo hw];rfl):p:=h
theorem Ja{p:Prop}(h:p:=by simpa using hf):p:=h
theorem Je{p:Prop}(h:p:=by simpa only[ltB] using h):p:=h
theorem Jf{p:Prop}(h:p:=by simp only[zNq,gL,hlv,e1,gL1,e2,gL2]):p:=h
theorem Jh{p:Prop}(h:p:=by injection hx with hx;exact hx.symm):p:=h
theorem Jl{p:Prop}(h:p:=by rw[alq,Ziq _ _ _ _ hpb,xQq];rfl):p:=h
theorem Jm{α:Sort _}{p:Prop}{a:α}:p∨a=a:=.inr rfl
theorem Y{α:Sort _}{a:α}:a=a:=rfl
theorem Yb{n m:Nat}(h:Nat.ble n m=true):n<=m:=Nat.le_of_ble_eq_true h
inductive V where
 |undef
 |bool (b:Bool)
 |int (k:IntKind) (n:Int)
 |str (s:List UInt8)
 |nilp
 |ptr (b off:Nat)
 |nils
 |sl (b base off len esz:Nat) (lim:Option Nat)
 |nilm
 |map (r:Nat)
 |fn (f:FuncId) (first captured:List V)
 |yield (l:Nat)
 |nilf
 |iface (t:TypeId) (v:V)
 |nili
 |agg (n:Nat) (items:List V)
 |arr (n e:Nat) (items:List V)
 |tup (vs:List V)
 deriving Inhabited
structure Env where
 b:Nat->Nat
 pre:Nat->Nat
 cap:Nat->Nat
 l:Nat->Nat×Option Addr
noncomputable def fit(n:Nat)(l:List Value):List Value:=(l++List.replicate n (Value.bool false)).take n
@[simp] theorem v5q(n:Nat)(l:List Value):(fit n l).length=n:=by simp[fit]
theorem yGq{n:Nat}{l:List Value}(h:l.length=n):fit n l=l:=by
 subst h;simp[fit]
noncomputable def V.size:V->Nat
 |.agg n _=>n
 |.arr n _ _=>n
 |_=>1
noncomputable def V.isAgg:V->Bool
 |.agg _ _=>true
 |.arr _ _ _=>true
 |_=>false
noncomputable def V.leaf:V->Bool
 |.agg _ _=>false
 |.arr _ _ _=>false
 |.tup _=>false
 |.undef=>false
 |_=>true
noncomputable def z8q(ρ:Env)(b off esz:Nat):Option Nat->Nat
 |some c=>c
 |none=>(ρ.cap b-off)/esz
noncomputable def vLq(ρ:Env)(b base:Nat):Addr:=match (ρ.l b).2,Nat.beq (ρ.cap b) 0&&Nat.beq base 1 with
 |some a,true=>a
 |_,_=>⟨ρ.b b,ρ.pre b+base,none⟩
theorem fIq{ρ:Env}{b base:Nat}(h:0<ρ.cap b):vLq ρ b base=⟨ρ.b b,ρ.pre b+base,none⟩:=by
 have e:(Nat.beq (ρ.cap b) 0&&Nat.beq base 1)=false:=by
  cases hb:Nat.beq (ρ.cap b) 0 with
  |false=>rfl
  |true=>have:=Zh hb;omega
 unfold vLq;rw[e];cases (ρ.l b).2<;>rfl
theorem Qvq{ρ:Env}{b base:Nat}(h:base≠1):vLq ρ b base=⟨ρ.b b,ρ.pre b+base,none⟩:=by
 have e:(Nat.beq (ρ.cap b) 0&&Nat.beq base 1)=false:=by
  cases hb:Nat.beq base 1 with
  |false=>rw[Y1]
  |true=>exact absurd (Zh hb) h
 unfold vLq;rw[e];cases (ρ.l b).2<;>rfl
@[simp] theorem sEq{ρ:Env}{b:Nat}:vLq ρ b 0=⟨ρ.b b,ρ.pre b+0,none⟩:=Qvq Xg
theorem uVq{ρ:Env}{b base:Nat}(h:base<=ρ.cap b):vLq ρ b base=⟨ρ.b b,ρ.pre b+base,none⟩:=by
 by_cases h1:base=1
 .exact fIq Xd
 .exact Qvq h1
noncomputable def yjq(ρ:Env)(b base off len esz:Nat)(lim:Option Nat):Value:=
 .slice (some (if z8q ρ b off esz lim=0 then vLq ρ b base else⟨ρ.b b,ρ.pre b+off,none⟩)) len (z8q ρ b off esz lim)
mutual
/-- what a value stands for -/
noncomputable def aaq(ρ:Env):V->Value
 |.undef=>.tuple #[]
 |.bool b=>.bool b
 |.int k n=>.int k n
 |.str s=>.string ⟨⟨s⟩⟩
 |.nilp=>.pointer none
 |.ptr b off=>.pointer (some ⟨ρ.b b,ρ.pre b+off,none⟩)
 |.nils=>.slice none 0 0
 |.sl b base off len esz lim=>yjq ρ b base off len esz lim
 |.nilm=>.map none
 |.map r=>.map (some (ρ.b r))
 |.fn f a c=>.func (.func f) (zMq ρ a).toArray (zMq ρ c).toArray
 |.yield l=>.func (.yield (ρ.l l).1) #[] #[]
 |.nilf=>.nilFunc
 |.iface t v=>.iface t (aaq ρ v)
 |.nili=>.nilIface
 |.agg n l=>.agg (fit n (jIq ρ l)).toArray
 |.arr n e l=>.agg (fit n (znq ρ e l)).toArray
 |.tup l=>.tuple (zMq ρ l).toArray
noncomputable def zMq(ρ:Env):List V->List Value
 |[]=>[]
 |v::l=>aaq ρ v::zMq ρ l
/-- the cells of one behind those of the other -/
noncomputable def jIq(ρ:Env):List V->List Value
 |[]=>[]
 |v::l=>cellsV ρ v++jIq ρ l
/-- e cells of each -/
noncomputable def znq(ρ:Env)(e:Nat):List V->List Value
 |[]=>[]
 |v::l=>fit e (cellsV ρ v)++znq ρ e l
/-- the cells of a value -/
noncomputable def cellsV(ρ:Env):V->List Value
 |.agg n l=>fit n (jIq ρ l)
 |.arr n e l=>fit n (znq ρ e l)
 |.tup _=>[.bool false]
 |.undef=>[.bool false]
 |.bool b=>[.bool b]
 |.int k n=>[.int k n]
 |.str s=>[.string ⟨⟨s⟩⟩]
 |.nilp=>[.pointer none]
 |.ptr b off=>[.pointer (some ⟨ρ.b b,ρ.pre b+off,none⟩)]
 |.nils=>[.slice none 0 0]
 |.sl b base off len esz lim=>[yjq ρ b base off len esz lim]
 |.nilm=>[.map none]
 |.map r=>[.map (some (ρ.b r))]
 |.fn f a c=>[.func (.func f) (zMq ρ a).toArray (zMq ρ c).toArray]
 |.yield l=>[.func (.yield (ρ.l l).1) #[] #[]]
 |.nilf=>[.nilFunc]
 |.iface t v=>[.iface t (aaq ρ v)]
 |.nili=>[.nilIface]
end
theorem kxq(ρ:Env):∀l:List V,zMq ρ l=l.map (aaq ρ)
 |[]=>by simp[zMq]
 |v::l=>by simp[zMq,kxq ρ l]
theorem khq{ρ:Env}{v:V}(h:v.leaf=true):cellsV ρ v=[aaq ρ v]:=by
 cases v<;>simp[V.leaf] at h<;>simp[cellsV,aaq]
theorem qzq{ρ:Env}{v:V}(h:v.isAgg=true):aaq ρ v= .agg (cellsV ρ v).toArray:=by
 cases v<;>simp[V.isAgg] at h<;>simp[cellsV,aaq]
@[simp] theorem ywq(ρ:Env)(v:V):(cellsV ρ v).length=v.size:=by
 cases v<;>simp[cellsV,V.size]
theorem quq{ρ:Env}{v:V}(h:v.leaf=true\/v.isAgg=true):(aaq ρ v).cells=(cellsV ρ v).toArray:=by
 cases v<;>simp[V.leaf,V.isAgg] at h<;>simp[cellsV,aaq,Value.cells,yjq]
theorem c2q{n:Nat}{l:List Value}{x:Value}(h:x∈fit n l):x∈l\/x= .bool false:=by
 unfold fit at h;have:=ZH h;simp only[ZT,List.mem_replicate] at this;rcases this with h|h
 .exact .inl h
 .exact .inr h.2
mutual
theorem Y4q(ρ:Env):∀(v:V),∀x∈cellsV ρ v,x.oneCell'=true
 |.agg n l=>λx hx=>by
  simp only[cellsV] at hx;rcases c2q hx with h|rfl
  .exact Q6q ρ l x h
  .rfl
 |.arr n e l=>λx hx=>by
  simp only[cellsV] at hx;rcases c2q hx with h|rfl
  .exact qvq ρ e l x h
  .rfl
 |.undef=>λx hx=>by simp[cellsV] at hx;subst hx;rfl
 |.tup _=>λx hx=>by simp[cellsV] at hx;subst hx;rfl
 |.bool _=>λx hx=>by simp[cellsV] at hx;subst hx;rfl
 |.int _ _=>λx hx=>by simp[cellsV] at hx;subst hx;rfl
 |.str _=>λx hx=>by simp[cellsV] at hx;subst hx;rfl
 |.nilp=>λx hx=>by simp[cellsV] at hx;subst hx;rfl
 |.ptr _ _=>λx hx=>by simp[cellsV] at hx;subst hx;rfl
 |.nils=>λx hx=>by simp[cellsV] at hx;subst hx;rfl
 |.sl _ _ _ _ _ _=>λx hx=>by simp[cellsV] at hx;subst hx;rfl
 |.nilm=>λx hx=>by simp[cellsV] at hx;subst hx;rfl
 |.map _=>λx hx=>by simp[cellsV] at hx;subst hx;rfl
 |.fn _ _ _=>λx hx=>by simp[cellsV] at hx;subst hx;rfl
 |.yield _=>λx hx=>by simp[cellsV] at hx;subst hx;rfl
 |.nilf=>λx hx=>by simp[cellsV] at hx;subst hx;rfl
 |.iface _ _=>λx hx=>by simp[cellsV] at hx;subst hx;rfl
 |.nili=>λx hx=>by simp[cellsV] at hx;subst hx;rfl
theorem Q6q(ρ:Env):∀(l:List V),∀x∈jIq ρ l,x.oneCell'=true
 |[]=>λx hx=>by simp[jIq] at hx
 |v::l=>λx hx=>by
  simp only[jIq,ZT] at hx;rcases hx with h|h
  .exact Y4q ρ v x h
  .exact Q6q ρ l x h
theorem qvq(ρ:Env)(e:Nat):∀(l:List V),∀x∈znq ρ e l,x.oneCell'=true
 |[]=>λx hx=>by simp[znq] at hx
 |v::l=>λx hx=>by
  simp only[znq,ZT] at hx;rcases hx with h|h
  .rcases c2q h with h|rfl
   .exact Y4q ρ v x h
   .rfl
  .exact qvq ρ e l x h
end
theorem oFq{a b:Nat}(h:a<b):Nat.blt a b=true:=by rw[YQ];exact h
theorem oGq{a b:Nat}(h:¬a<b):Nat.blt a b=false:=by
 cases hb:Nat.blt a b with
 |false=>rfl
 |true=>rw[YQ] at hb;exact absurd hb h
theorem v2q{α:Type}(b:Bool)(x y:α):(if b=true then x else y)=Bool.rec (motive:=λ_=>α) y x b:=by cases b<;>rfl
noncomputable def Bvq(a b:Bool):Bool:=Bool.rec (motive:=λ_=>Bool) (Bool.rec (motive:=λ_=>Bool) true false b) b a
theorem iAq(a b:Bool):(a==b)=Bvq a b:=by cases a<;>cases b<;>rfl
theorem izq(a b:Nat):(a==b)=Nat.beq a b:=by
 cases h:Nat.beq a b with
 |true=>have:=Zh h;simp[this]
 |false=>
  have:a≠b:=λe=>by rw[e,YY] at h;cases h
  simp[this]
noncomputable def AZq{α:Type}(l:List α):Nat->Option α:=List.rec (motive:=λ_=>Nat->Option α) (λ_=>none) (λv _ ih i=>Nat.rec (motive:=λ_=>Option α) (some v) (λj _=>ih j) i) l
theorem cNq{α:Type}:∀(l:List α) (i:Nat),l[i]? =AZq l i
 |[],i=>by simp;rfl
 |v::l,0=>rfl
 |v::l,i+1=>by
  rw[List.getElem?_cons_succ,cNq l i];rfl
noncomputable def BSq{α:Type}(x:α)(l:List α):Nat->List α:=List.rec (motive:=λ_=>Nat->List α) (λ_=>[]) (λv l ih i=>Nat.rec (motive:=λ_=>List α) (x::l) (λj _=>v::ih j) i) l
theorem gkq{α:Type}(x:α):∀(l:List α) (i:Nat),l.set i x=BSq x l i
 |[],i=>by simp;rfl
 |v::l,0=>rfl
 |v::l,i+1=>by
  rw[List.set_cons_succ,gkq x l i];rfl
noncomputable def Qpq(l:List V):Nat->Option (V×Nat):=List.rec (motive:=λ_=>Nat->Option (V×Nat)) (λ_=>none) (λv _ ih o=>Bool.rec (motive:=λ_=>Option (V×Nat)) (ih (Nat.sub o v.size)) (some (v,o)) (Nat.blt o v.size)) l
theorem YLq(o:Nat):Qpq [] o=none:=rfl
theorem v7q(v:V)(l:List V)(o:Nat):Qpq (v::l) o=if o<v.size then some (v,o) else Qpq l (o-v.size):=by
 show Bool.rec (motive:=λ_=>Option (V×Nat)) (Qpq l (o-v.size)) (some (v,o)) (Nat.blt o v.size)=_;by_cases h:o<v.size
 .rw[Zt h,oFq h]
 .rw[Zg h,oGq h]
noncomputable def wiq(g:V->Nat->Nat->Bool->Option V)(m:Nat)(l:List V)(off n:Nat)(ag:Bool):Option V:=match Qpq l off with
 |some (x,o)=>Bool.rec (motive:=λ_=>Option V) none (g x o n ag) (Nat.ble (Nat.add (Nat.sub off o) x.size) m)
 |none=>none
noncomputable def whq(g:V->Nat->Nat->Bool->Option V)(m e:Nat)(l:List V)(off n:Nat)(ag:Bool):Option V:=match AZq l (Nat.div off e) with
 |some x=>Bool.rec (motive:=λ_=>Option V) none (g x (Nat.mod off e) n ag) (Bool.and (Nat.beq x.size e) (Nat.ble (Nat.add (Nat.mul (Nat.div off e) e) e) m))
 |none=>none
noncomputable def Bgq(g:V->Nat->Nat->Bool->Option V)(v:V)(off n:Nat)(ag:Bool):Option V:=match v with
 |.agg m l=>wiq g m l off n ag
 |.arr m e l=>whq g m e l off n ag
 |_=>none
noncomputable def cZq(g:V->Nat->Nat->Bool->Option V)(v:V)(off n:Nat)(ag:Bool):Option V:=
 Bool.rec (motive:=λ_=>Option V) (Bgq g v off n ag) (Bool.rec (motive:=λ_=>Option V) none (some v) (Bool.or ag v.leaf)) (Bool.and (Bool.and (Nat.beq off 0) (Nat.beq n v.size)) (Bvq ag v.isAgg))
noncomputable def upq(f:Nat):V->Nat->Nat->Bool->Option V:=Nat.rec (motive:=λ_=>V->Nat->Nat->Bool->Option V) (λ_ _ _ _=>none) (λ_ ih=>cZq ih) f
theorem uHq(v:V)(off n:Nat)(ag:Bool):upq 0 v off n ag=none:=rfl
theorem xmq(f:Nat)(v:V)(off n:Nat)(ag:Bool):upq (f+1) v off n ag=
  if off==0&&n==v.size&&ag==v.isAgg then(if ag||v.leaf then some v else none)
  else match v with
   |.agg m l=>match Qpq l off with
    |some (x,o)=>if Nat.ble (off-o+x.size) m then upq f x o n ag else none
    |none=>none
   |.arr m e l=>match l[off/e]? with
    |some x=>if x.size==e&&Nat.ble (off/e*e+e) m then upq f x (off%e) n ag else none
    |none=>none
   |_=>none:=by
 show cZq (upq f) v off n ag=_;unfold cZq;simp only[v2q,iAq,izq,cNq];congr 1
noncomputable def JBq(g:V->Nat->Option V)(l:List V):Nat->Option (List V×Nat×Nat):=List.rec (motive:=λ_=>Nat->Option (List V×Nat×Nat)) (λ_=>none) (λv l ih o=>Bool.rec (motive:=λ_=>Option (List V×Nat×Nat))
  (match ih (Nat.sub o v.size) with
   |some (l',o',s)=>some (v::l',o',s)
   |none=>none)
  (match g v o with
   |some v'=>some (v'::l,o,v.size)
   |none=>none) (Nat.blt o v.size)) l
theorem Yiq(g:V->Nat->Option V)(o:Nat):JBq g [] o=none:=rfl
theorem vVq(g:V->Nat->Option V)(v:V)(l:List V)(o:Nat):JBq g (v::l) o=if o<v.size then(match g v o with|some v'=>some (v'::l,o,v.size)|none=>none) else
  match JBq g l (o-v.size) with
  |some (l',o',s)=>some (v::l',o',s)
  |none=>none:=by
 show Bool.rec (motive:=λ_=>Option (List V×Nat×Nat)) (match JBq g l (o-v.size) with
   |some (l',o',s)=>some (v::l',o',s)
   |none=>none) (match g v o with
   |some v'=>some (v'::l,o,v.size)
   |none=>none) (Nat.blt o v.size)=_
 by_cases h:o<v.size
 .rw[Zt h,oFq h]
 .rw[Zg h,oGq h]
noncomputable def tAq(g:V->Nat->V->Option V)(m:Nat)(l:List V)(off:Nat)(x:V):Option V:=match JBq (λy o=>g y o x) l off with
 |some (l',o,s)=>Bool.rec (motive:=λ_=>Option V) none (some (.agg m l')) (Nat.ble (Nat.add (Nat.sub off o) s) m)
 |none=>none
noncomputable def tzq(g:V->Nat->V->Option V)(m e:Nat)(l:List V)(off:Nat)(x:V):Option V:=match AZq l (Nat.div off e) with
 |some y=>Bool.rec (motive:=λ_=>Option V) none (match g y (Nat.mod off e) x with
  |some y'=>some (.arr m e (BSq y' l (Nat.div off e)))
  |none=>none) (Bool.and (Nat.beq y.size e) (Nat.ble (Nat.add (Nat.mul (Nat.div off e) e) e) m))
 |none=>none
noncomputable def AOq(g:V->Nat->V->Option V)(v:V)(off:Nat)(x:V):Option V:=match v with
 |.agg m l=>tAq g m l off x
 |.arr m e l=>tzq g m e l off x
 |_=>none
noncomputable def cFq(g:V->Nat->V->Option V)(v:V)(off:Nat)(x:V):Option V:=
 Bool.rec (motive:=λ_=>Option V) (AOq g v off x) (Bool.rec (motive:=λ_=>Option V) none (some x) (Bool.or x.isAgg (Bool.and v.leaf x.leaf))) (Bool.and (Bool.and (Nat.beq off 0) (Nat.beq x.size v.size)) (Bvq x.isAgg v.isAgg))
noncomputable def unq(f:Nat):V->Nat->V->Option V:=Nat.rec (motive:=λ_=>V->Nat->V->Option V) (λ_ _ _=>none) (λ_ ih=>cFq ih) f
theorem uAq(v:V)(off:Nat)(x:V):unq 0 v off x=none:=rfl
theorem xgq(f:Nat)(v:V)(off:Nat)(x:V):unq (f+1) v off x=
  if off==0&&x.size==v.size&&x.isAgg==v.isAgg then(if x.isAgg||(v.leaf&&x.leaf) then some x else none)
  else match v with
   |.agg m l=>match JBq (λy o=>unq f y o x) l off with
    |some (l',o,s)=>if Nat.ble (off-o+s) m then some (.agg m l') else none
    |none=>none
   |.arr m e l=>match l[off/e]? with
    |some y=>if y.size==e&&Nat.ble (off/e*e+e) m then(match unq f y (off%e) x with|some y'=>some (.arr m e (l.set (off/e) y'))|none=>none) else none
    |none=>none
   |_=>none:=by
 show cFq (unq f) v off x=_;unfold cFq;simp only[v2q,iAq,izq,cNq,gkq];congr 1
theorem q6q{n:Nat}{a b c:List Value}(h:a.length+b.length<=n):((fit n (a++(b++c))).drop a.length).take b.length=b:=by
 simp only[fit];rw[List.drop_take,YO,Zz,List.drop_left,Zz];rw[show min b.length (n-a.length)=b.length by omega,List.take_left]
theorem fmq{n:Nat}{a b b' c:List Value}(h:a.length+b.length<=n)(hb:b'.length=b.length):
  fit n (a++(b'++c))=(fit n (a++(b++c))).take a.length++b'++(fit n (a++(b++c))).drop (a.length+b.length):=by
 simp only[fit];apply List.ext_getElem?;intro i;simp only[Zz,YZ,YI,ZX,Zu,Zj,Y7,hb];have e1:min a.length (min n (a.length+(b.length+(c.length+n))))=a.length:=by omega
 rw[e1];by_cases h1:i<a.length
 .simp only[h1,if_true,show i<n from by omega]
 .by_cases h2:i<a.length+b.length
  .simp only[h1,if_false,show i<n from by omega,if_true,show i-a.length<b.length from by omega]
  .have e2:a.length+b.length+(i-a.length-b.length)=i:=by omega
   simp only[h1,if_false,show¬i-a.length<b.length from by omega,e2]
theorem v6q{ρ:Env}:∀(l:List V) (off:Nat) (x:V) (o:Nat),Qpq l off=some (x,o) ->
  ∃a c,jIq ρ l=a++(cellsV ρ x++c)/\a.length+o=off/\o<x.size
 |[],off,x,o,h=>by simp[YLq] at h
 |v::l,off,x,o,h=>by
  simp only[v7q] at h;split at h
  .rename_i hlt;simp only[Zk,ZQ] at h;obtain⟨rfl,rfl⟩:=h;exact⟨[],jIq ρ l,by simp[jIq],by simp,hlt⟩
  .obtain⟨a,c,h1,h2,h3⟩:=v6q (ρ:=ρ) l _ x o h;exact⟨cellsV ρ v++a,c,by simp[jIq,h1],by simp;omega,h3⟩
theorem qlq{l:List Value}{a b c d:Nat}(h:c+d<=b):(((l.drop a).take b).drop c).take d=(l.drop (a+c)).take d:=by
 rw[List.drop_take,YO,Z8,show min d (b-c)=d by omega]
theorem Kdq{ρ:Env}{e:Nat}:∀(l:List V) (i:Nat) (x:V),l[i]? =some x->∃a c,znq ρ e l=a++(fit e (cellsV ρ x)++c)/\a.length=i*e
 |[],i,x,h=>by simp at h
 |v::l,0,x,h=>by simp at h;subst h;exact⟨[],znq ρ e l,by simp[znq],by simp⟩
 |v::l,i+1,x,h=>by
  simp at h;obtain⟨a,c,h1,h2⟩:=Kdq (ρ:=ρ) (e:=e) l i x h;exact⟨fit e (cellsV ρ v)++a,c,by simp[znq,h1],by simp[h2,ZO];omega⟩
theorem uIq{ρ:Env}:∀(f:Nat) (v:V) (off n:Nat) (ag:Bool) (x:V),upq f v off n ag=some x->
  x.size=n/\off+n<=v.size/\((cellsV ρ v).drop off).take n=cellsV ρ x/\(if ag then x.isAgg=true else x.leaf=true)
 |0,v,off,n,ag,x,h=>by simp[uHq] at h
 | f +1,v,off,n,ag,x,h=>by
  simp only[xmq] at h;split at h
  .rename_i hc;simp only[Zb,beq_iff_eq] at hc;obtain⟨⟨rfl,rfl⟩,rfl⟩:=hc;split at h
   .rename_i hl;simp only[Zk] at h;subst h;refine⟨rfl,by omega,by rw[ZV,Zm Xi],?_⟩;split
    .assumption
    .rename_i ha;simpa[ha] using hl
   .cases h
  .split at h
   .rename_i m l hne;split at h
    .rename_i y o hf;split at h
     .rename_i hle;obtain⟨a,c,h1,h2,h3⟩:=v6q (ρ:=ρ) _ _ _ _ hf;obtain⟨g1,g2,g3,g4⟩:=uIq (ρ:=ρ) f y o n ag x h;have hle:=Yb hle;refine⟨g1,by simp[V.size];omega,?_,g4⟩;have ha:a.length=off-o:=by omega
      have key:=q6q (n:=m) (a:=a) (b:=cellsV ρ y) (c:=c) Xo;rw[<-h1] at key;simp only[cellsV];rw[<-g3,<-key,qlq Xo,h2]
     .cases h
    .cases h
   .rename_i m e l hne;split at h
    .rename_i y hy;split at h
     .rename_i hc;simp only[Zb,beq_iff_eq] at hc;have hle:=Yb hc.2;obtain⟨a,c,h1,h2⟩:=Kdq (ρ:=ρ) (e:=e) _ _ _ hy;obtain⟨g1,g2,g3,g4⟩:=uIq (ρ:=ρ) f y (off%e) n ag x h;have hdm:=Nat.div_add_mod off e;rw[YC] at hdm;refine⟨g1,by simp[V.size];omega,?_,g4⟩;have hfy:fit e (cellsV ρ y)=cellsV ρ y:=yGq (by simp[hc.1]);rw[hfy] at h1;have key:=q6q (n:=m) (a:=a) (b:=cellsV ρ y) (c:=c) Xo;rw[<-h1] at key;simp only[cellsV];rw[<-g3,<-key,qlq Xo,h2,hdm]
     .cases h
    .cases h
   .cases h
noncomputable def spl(c:List Value)(off:Nat)(vs:List Value):List Value:=c.take off++vs++c.drop (off+vs.length)
theorem QGq{ρ:Env}{g:V->Nat->Option V}:∀(l:List V) (off:Nat) (l':List V) (o s:Nat),JBq g l off=some (l',o,s) ->
  ∃a y y' c,jIq ρ l=a++(cellsV ρ y++c)/\jIq ρ l'=a++(cellsV ρ y'++c)/\g y o=some y'/\a.length+o=off/\s=y.size/\o<s
 |[],off,l',o,s,h=>by simp[Yiq] at h
 |v::l,off,l',o,s,h=>by
  simp only[vVq] at h;split at h
  .rename_i hlt;split at h
   .rename_i v' hv;simp only[Zk,ZQ] at h;obtain⟨rfl,rfl,rfl⟩:=h;exact⟨[],v,v',jIq ρ l,by simp[jIq],by simp[jIq],hv,by simp,rfl,hlt⟩
   .cases h
  .split at h
   .rename_i l1 o1 s1 h1;simp only[Zk,ZQ] at h;obtain⟨rfl,rfl,rfl⟩:=h;obtain⟨a,y,y',c,g1,g2,g3,g4,g5,g6⟩:=QGq (ρ:=ρ) l _ _ _ _ h1;exact⟨cellsV ρ v++a,y,y',c,by simp[jIq,g1],by simp[jIq,g2],g3,by simp;omega,g5,g6⟩
   .cases h
theorem eVq{c vs:List Value}{off:Nat}(h:off+vs.length<=c.length):(spl c off vs).length=c.length:=by simp[spl];omega
theorem gbq{b vs a' c':List Value}{o:Nat}(h:o+vs.length<=b.length):
  a'++spl b o vs++c'=spl (a'++b++c') (a'.length+o) vs:=by
 have h1:(a'++b++c').take (a'.length+o)=a'++b.take o:=by
  rw[Zz,List.take_length_add_append,Z0 Xd]
 have h2:(a'++b++c').drop (a'.length+o+vs.length)=b.drop (o+vs.length)++c':=by
  rw[Zz,ZK,YP,Z6 Xd]
 unfold spl;rw[h1,h2];simp only[Zz]
theorem hTq{n o:Nat}{a b b' c vs:List Value}(h:a.length+b.length<=n)(hb:b'=spl b o vs)(ho:o+vs.length<=b.length):
  fit n (a++(b'++c))=spl (fit n (a++(b++c))) (a.length+o) vs:=by
 have hl:b'.length=b.length:=by rw[hb,eVq ho]
 rw[fmq h hl,hb,gbq ho];congr 1
 have k:=q6q (n:=n) (a:=a) (b:=b) (c:=c) h
 have e:∀(L:List Value) (p q:Nat),L.take p++(L.drop p).take q++L.drop (p+q)=L:=λL p q=>by
  rw[Zz,show L.drop (p+q)=(L.drop p).drop q by rw[Z8],ZJ,ZJ]
 have:=e (fit n (a++(b++c))) a.length b.length;rw[k] at this;rw[this];simp only[Zu,v5q,show min a.length n=a.length by omega]
theorem bZq{ρ:Env}{e:Nat}:∀(l:List V) (i:Nat) (x y:V),l[i]? =some x->∃a c,znq ρ e l=a++(fit e (cellsV ρ x)++c)/\znq ρ e (l.set i y)=a++(fit e (cellsV ρ y)++c)/\a.length=i*e
 |[],i,x,y,h=>by simp at h
 |v::l,0,x,y,h=>by simp at h;subst h;exact⟨[],znq ρ e l,by simp[znq],by simp[znq],by simp⟩
 |v::l,i+1,x,y,h=>by
  simp at h;obtain⟨a,c,h1,h2,h3⟩:=bZq (ρ:=ρ) (e:=e) l i x y h;exact⟨fit e (cellsV ρ v)++a,c,by simp[znq,h1],by simp[znq,h2],by simp[h3,ZO];omega⟩
theorem uBq{ρ:Env}:∀(f:Nat) (v:V) (off:Nat) (x v':V),unq f v off x=some v'->
  v'.size=v.size/\off+x.size<=v.size/\cellsV ρ v'=spl (cellsV ρ v) off (cellsV ρ x)/\v'.isAgg=v.isAgg/\v'.leaf=v.leaf/\(x.leaf=true\/x.isAgg=true)
 |0,v,off,x,v',h=>by simp[uAq] at h
 | f +1,v,off,x,v',h=>by
  simp only[xgq] at h;split at h
  .rename_i hc;simp only[Zb,beq_iff_eq] at hc;obtain⟨⟨rfl,hs⟩,ha⟩:=hc;split at h
   .rename_i hl;simp only[Zk] at h;subst h;simp only[Y2,Zb] at hl;refine⟨hs,by omega,by simp[spl,hs],ha,?_,?_⟩
    .rcases hl with h|h
     .rw[h] at ha;have e1:∀y:V,y.isAgg=true->y.leaf=false:=λy hy=>by cases y<;>simp[V.isAgg] at hy<;>rfl
      rw[e1 _ h,e1 _ ha.symm]
     .rw[h.1,h.2]
    .rcases hl with h|h
     .exact .inr h
     .exact .inl h.2
   .cases h
  .split at h
   .rename_i m l hne;split at h
    .rename_i l' o s hp;split at h
     .rename_i hle;simp only[Zk] at h;subst h;have hle:=Yb hle;obtain⟨a,y,y',c,g1,g2,g3,g4,g5,g6⟩:=QGq (ρ:=ρ) _ _ _ _ _ hp;obtain⟨k1,k2,k3,k4,k5,k6⟩:=uBq (ρ:=ρ) f y o x y' g3;refine⟨rfl,by show off+x.size<=m;omega,?_,rfl,rfl,k6⟩;simp only[cellsV];rw[g2,g1,hTq (o:=o) (vs:=cellsV ρ x) Xo k3 Xo,g4]
     .cases h
    .cases h
   .rename_i m e l hne;split at h
    .rename_i y hy;split at h
     .rename_i hc;simp only[Zb,beq_iff_eq] at hc;have hle:=Yb hc.2;split at h
      .rename_i y' hy';simp only[Zk] at h;subst h;obtain⟨k1,k2,k3,k4,k5,k6⟩:=uBq (ρ:=ρ) f y (off%e) x y' hy';obtain⟨a,c,h1,h2,h3⟩:=bZq (ρ:=ρ) (e:=e) l (off/e) y y' hy;have hdm:=Nat.div_add_mod off e;rw[YC] at hdm;refine⟨rfl,by show off+x.size<=m;omega,?_,rfl,rfl,k6⟩;rw[yGq (by simp[hc.1])] at h1;rw[yGq (by simp[k1,hc.1])] at h2;simp only[cellsV];rw[h2,h1,hTq (o:=off%e) (vs:=cellsV ρ x) Xo k3 Xo,h3,hdm]
      .cases h
     .cases h
    .cases h
   .cases h
noncomputable def auq(n:Nat)(l:List V):List V:=(l++List.replicate n (V.bool false)).take n
@[simp] theorem uKq(n:Nat)(l:List V):(auq n l).length=n:=by simp[auq]
theorem yiq{n:Nat}{l:List V}(h:l.length=n):auq n l=l:=by
 subst h;simp[auq]
mutual
noncomputable def zlq:V->List V
 |.agg n l=>auq n (jNq l)
 |.arr n e l=>auq n (z6q e l)
 |.undef=>[.undef]
 |.bool b=>[.bool b]
 |.int k n=>[.int k n]
 |.str s=>[.str s]
 |.nilp=>[.nilp]
 |.ptr b off=>[.ptr b off]
 |.nils=>[.nils]
 |.sl b base off len esz lim=>[.sl b base off len esz lim]
 |.nilm=>[.nilm]
 |.map r=>[.map r]
 |.fn f a c=>[.fn f a c]
 |.yield l=>[.yield l]
 |.nilf=>[.nilf]
 |.iface t v=>[.iface t v]
 |.nili=>[.nili]
 |.tup l=>[.tup l]
noncomputable def jNq:List V->List V
 |[]=>[]
 |v::l=>zlq v++jNq l
noncomputable def z6q(e:Nat):List V->List V
 |[]=>[]
 |v::l=>auq e (zlq v)++z6q e l
end
noncomputable def jJq(ρ:Env):V->Value
 |.agg _ _=>.bool false
 |.arr _ _ _=>.bool false
 |.tup _=>.bool false
 |.undef=>.bool false
 |v=>aaq ρ v
theorem dkq{ρ:Env}{v:V}(h:v.isAgg=false):cellsV ρ v=[jJq ρ v]:=by cases v<;>simp[V.isAgg] at h<;>simp[cellsV,jJq,aaq]
theorem J4q{ρ:Env}{n:Nat}{l:List V}:(auq n l).map (jJq ρ)=fit n (l.map (jJq ρ)):=by
 simp[auq,fit,List.map_take,Z5,jJq,aaq]
mutual
theorem yXq(ρ:Env):∀v:V,cellsV ρ v=(zlq v).map (jJq ρ)
 |.agg n l=>by simp only[cellsV,zlq,J4q,YHq ρ l]
 |.arr n e l=>by simp only[cellsV,zlq,J4q,keq ρ e l]
 |.undef=>rfl
 |.bool _=>by simp[cellsV,zlq,jJq,aaq]
 |.int _ _=>by simp[cellsV,zlq,jJq,aaq]
 |.str _=>by simp[cellsV,zlq,jJq,aaq]
 |.nilp=>by simp[cellsV,zlq,jJq,aaq]
 |.ptr _ _=>by simp[cellsV,zlq,jJq,aaq]
 |.nils=>by simp[cellsV,zlq,jJq,aaq]
 |.sl _ _ _ _ _ _=>by simp[cellsV,zlq,jJq,aaq]
 |.nilm=>by simp[cellsV,zlq,jJq,aaq]
 |.map _=>by simp[cellsV,zlq,jJq,aaq]
 |.fn _ _ _=>by simp[cellsV,zlq,jJq,aaq]
 |.yield _=>by simp[cellsV,zlq,jJq,aaq]
 |.nilf=>by simp[cellsV,zlq,jJq,aaq]
 |.iface _ _=>by simp[cellsV,zlq,jJq,aaq]
 |.nili=>by simp[cellsV,zlq,jJq,aaq]
 |.tup _=>by simp[cellsV,zlq,jJq]
theorem YHq(ρ:Env):∀l:List V,jIq ρ l=(jNq l).map (jJq ρ)
 |[]=>rfl
 |v::l=>by simp only[jIq,jNq,Z5,yXq ρ v,YHq ρ l]
theorem keq(ρ:Env)(e:Nat):∀l:List V,znq ρ e l=(z6q e l).map (jJq ρ)
 |[]=>rfl
 |v::l=>by simp only[znq,z6q,Z5,J4q,yXq ρ v,keq ρ e l]
end
@[simp] theorem yOq(v:V):(zlq v).length=v.size:=by
 cases v<;>simp[zlq,V.size]
theorem ufq{n:Nat}{l:List V}{x:V}(h:x∈auq n l):x∈l\/x= .bool false:=by
 unfold auq at h;have:=ZH h;simp only[ZT,List.mem_replicate] at this;rcases this with h|h
 .exact .inl h
 .exact .inr h.2
mutual
theorem jVq:∀(v:V),∀x∈zlq v,x.isAgg=false
 |.agg n l=>λx hx=>by
  simp only[zlq] at hx;rcases ufq hx with h|rfl
  .exact bJq l x h
  .rfl
 |.arr n e l=>λx hx=>by
  simp only[zlq] at hx;rcases ufq hx with h|rfl
  .exact vpq e l x h
  .rfl
 |.undef=>λx hx=>by simp[zlq] at hx;subst hx;rfl
 |.bool _=>λx hx=>by simp[zlq] at hx;subst hx;rfl
 |.int _ _=>λx hx=>by simp[zlq] at hx;subst hx;rfl
 |.str _=>λx hx=>by simp[zlq] at hx;subst hx;rfl
 |.nilp=>λx hx=>by simp[zlq] at hx;subst hx;rfl
 |.ptr _ _=>λx hx=>by simp[zlq] at hx;subst hx;rfl
 |.nils=>λx hx=>by simp[zlq] at hx;subst hx;rfl
 |.sl _ _ _ _ _ _=>λx hx=>by simp[zlq] at hx;subst hx;rfl
 |.nilm=>λx hx=>by simp[zlq] at hx;subst hx;rfl
 |.map _=>λx hx=>by simp[zlq] at hx;subst hx;rfl
 |.fn _ _ _=>λx hx=>by simp[zlq] at hx;subst hx;rfl
 |.yield _=>λx hx=>by simp[zlq] at hx;subst hx;rfl
 |.nilf=>λx hx=>by simp[zlq] at hx;subst hx;rfl
 |.iface _ _=>λx hx=>by simp[zlq] at hx;subst hx;rfl
 |.nili=>λx hx=>by simp[zlq] at hx;subst hx;rfl
 |.tup _=>λx hx=>by simp[zlq] at hx;subst hx;rfl
theorem bJq:∀(l:List V),∀x∈jNq l,x.isAgg=false
 |[]=>λx hx=>by simp[jNq] at hx
 |v::l=>λx hx=>by
  simp only[jNq,ZT] at hx;rcases hx with h|h
  .exact jVq v x h
  .exact bJq l x h
theorem vpq(e:Nat):∀(l:List V),∀x∈z6q e l,x.isAgg=false
 |[]=>λx hx=>by simp[z6q] at hx
 |v::l=>λx hx=>by
  simp only[z6q,ZT] at hx;rcases hx with h|h
  .rcases ufq h with h|rfl
   .exact jVq v x h
   .rfl
  .exact vpq e l x h
end
theorem kdq{x:V}(h:x.isAgg=false):zlq x=[x]:=by cases x<;>simp[V.isAgg] at h<;>rfl
theorem QUq:∀{l:List V},(∀x∈l,x.isAgg=false) ->jNq l=l
 |[],_=>rfl
 |x::l,h=>by simp only[jNq,kdq (h x (ZS ..)),QUq (l:=l) λy hy=>h y (ZP _ hy),List.singleton_append]
theorem ZUq{l:List V}{n:Nat}(h:∀x∈l,x.isAgg=false)(hn:l.length=n):zlq (.agg n l)=l:=by
 simp only[zlq,QUq h,yiq hn]
theorem hRq{v:V}{off n:Nat}(h:off+n<=v.size):zlq (.agg n (((zlq v).drop off).take n))=((zlq v).drop off).take n:=
 ZUq (λx hx=>jVq v x (ZD (ZH hx))) Xo
noncomputable def uJq(v:V)(off n:Nat)(ag:Bool):Option V:=match v.isAgg&&Nat.ble (off+n) v.size with
 |true=>match ag with
  |true=>some (.agg n (((zlq v).drop off).take n))
  |false=>match Nat.beq n 1,(zlq v)[off]? with
   |true,some x=>match x.leaf with
    |true=>some x
    |false=>none
   |_,_=>none
 |false=>none
noncomputable def jHq(f:Nat)(v:V)(off n:Nat)(ag:Bool):Option V:=match upq f v off n ag with
 |some x=>some x
 |none=>uJq v off n ag
theorem Zoq{v:V}{off n:Nat}{ag:Bool}{x:V}(h:uJq v off n ag=some x):
  x.size=n/\off+n<=v.size/\zlq x=((zlq v).drop off).take n/\(if ag then x.isAgg=true else x.leaf=true):=by
 unfold uJq at h;split at h
 .rename_i hc;simp only[Zb] at hc;have hle:=Yb hc.2;split at h
  .cases h;exact⟨rfl,hle,hRq hle,rfl⟩
  .split at h
   .rename_i y h1 hx;split at h
    .rename_i hl;cases h;have h1:=Zh h1;subst h1;have ha:=jVq v _ (Zf hx)
     have e:((zlq v).drop off).take 1=[x]:=by
      have:(zlq v).drop off=x::(zlq v).drop (off+1):=by
       obtain⟨hlt,rfl⟩:=Zq.1 hx;exact List.drop_eq_getElem_cons hlt
      rw[this];rfl
     refine⟨by cases x<;>simp[V.isAgg] at ha<;>rfl,hle,by rw[e,kdq ha],by simpa using hl⟩
    .cases h
   .cases h
 .cases h
theorem QQq{ρ:Env}(f:Nat)(v:V)(off n:Nat)(ag:Bool)(x:V)(h:jHq f v off n ag=some x):
  x.size=n/\off+n<=v.size/\((cellsV ρ v).drop off).take n=cellsV ρ x/\(if ag then x.isAgg=true else x.leaf=true):=by
 unfold jHq at h;split at h
 .cases h;exact uIq f v off n ag x Yh
 .obtain⟨h1,h2,h3,h4⟩:=Zoq h;refine⟨h1,h2,?_,h4⟩;rw[yXq,yXq,h3,List.map_take,List.map_drop]
noncomputable def v3q(v:V)(off:Nat)(x:V):Option V:=match v.isAgg&&(x.leaf||x.isAgg)&&Nat.ble (off+x.size) v.size with
 |true=>some (.agg v.size ((zlq v).take off++zlq x++(zlq v).drop (off+x.size)))
 |false=>none
noncomputable def xDq(f:Nat)(v:V)(off:Nat)(x:V):Option V:=match unq f v off x with
 |some v'=>some v'
 |none=>v3q v off x
theorem Znq{v:V}{off:Nat}{x v':V}(h:v3q v off x=some v'):
  v'.size=v.size/\off+x.size<=v.size/\zlq v'=(zlq v).take off++zlq x++(zlq v).drop (off+x.size)/\v'.isAgg=v.isAgg/\v'.leaf=v.leaf/\(x.leaf=true\/x.isAgg=true):=by
 unfold v3q at h;split at h
 .rename_i hc;simp only[Zb,Y2] at hc;have hle:=Yb hc.2;cases h;refine⟨rfl,hle,ZUq (λy hy=>?_) Xo,hc.1.1.symm,?_,hc.1.2⟩
  .simp only[ZT] at hy;rcases hy with (hy|hy)|hy
   .exact jVq v y (ZH hy)
   .exact jVq x y hy
   .exact jVq v y (ZD hy)
  .have:=hc.1.1;cases v<;>simp[V.isAgg] at this<;>rfl
 .cases h
theorem udq{ρ:Env}(f:Nat)(v:V)(off:Nat)(x v':V)(h:xDq f v off x=some v'):
  v'.size=v.size/\off+x.size<=v.size/\cellsV ρ v'=spl (cellsV ρ v) off (cellsV ρ x)/\v'.isAgg=v.isAgg/\v'.leaf=v.leaf/\(x.leaf=true\/x.isAgg=true):=by
 unfold xDq at h;split at h
 .cases h;exact uBq f v off x v' Yh
 .obtain⟨h1,h2,h3,h4⟩:=Znq h;refine⟨h1,h2,?_,h4⟩;rw[yXq,yXq,yXq,h3];simp[spl,Z5,List.map_take,List.map_drop]
def FF:Option Nat->Fence
 |none=>Fence.wide
 |some l=>Fence.wide.inRound l
theorem Qtq(r:Option Nat)(f:FuncId):(FF r).fn f:=by cases r<;>trivial
theorem vKq(r:Option Nat):(FF r).depth=none:=by cases r<;>rfl
theorem itq{r:Option Nat}{P:Program}{f:FuncId}{args:Array Value}{w:World}{R:Ending->World->Prop}(h:Calls P f args w R):CallsIn (FF r) 0 P f args w R:=by
 cases r with
 |none=>exact callsIn_wide.2 h
 |some l=>exact CallsIn.inRound l (callsIn_wide.2 h)
abbrev Fr:=List (Nat×Value)
structure Ag(N:Nat)(ds:List Deferred)(a:Act)(fr:Fr):Prop where
 size:a.tmps.size=N
 defs:a.defers=ds
 at_:∀t v,fr.lookup t=some v->a.tmps[t]? =some v
def ev(fr:Fr):Operand->Option Value
 |.tmp t=>fr.lookup t
 |.const v=>some v
 |.global g=>some (.pointer (some ⟨g,0,none⟩))
 |.func f=>some (.func (.func f) #[] #[])
abbrev Hp:=List (Nat×Obj)
def vmq(H:Hp):List Nat:=H.map (·.1)
structure Keep(X:List Nat)(s w:World):Prop where
 os:w.os=s.os
 tape:w.tape=s.tape
 output:w.output=s.output
 size:s.heap.size<=w.heap.size
 block:∀k,k<s.heap.size->k∉X->w.heap[k]? =s.heap[k]?
structure Kn(w:World)(H:Hp)(S:List World):Prop where
 has:∀b o,(b,o)∈H->w.heap[b]? =some o
 nodup:(vmq H).Nodup
 keep:∀s∈S,Keep (vmq H) s w
theorem jqq(w:World)(o:Obj):Below w.heap.size w (w.alloc o):=(Below.refl _ _).alloc (Zc _) _
structure Turned(b:Nat)(o':Obj)(w w':World):Prop where
 os:w'.os=w.os
 tape:w'.tape=w.tape
 output:w'.output=w.output
 size:w'.heap.size=w.heap.size
 this:w'.heap[b]? =some o'
 other:∀k,k≠b->w'.heap[k]? =w.heap[k]?
section
variable (P:Program) (r:Option Nat) (N:Nat) (ds:List Deferred)
structure CW(c:Code)(Q:Exit->Act->World->Prop)(fr:Fr)(H:Hp)(S:List World):Prop where
 run:∀a w,Ag N ds a fr->Kn w H S->c.wpIn (FF r) 0 P Q a w
end
section
variable {P:Program} {r:Option Nat} {N:Nat} {ds:List Deferred} {Q:Exit->Act->World->Prop} {fr:Fr} {H:Hp} {S:List World}
theorem bQq(p:Nat->Prop):∀m,p m->∃k,p k/\k<=m/\∀j,p j->k<=j:=by
 intro m;induction m using Nat.strongRecOn with
 |_ m ih=>
  intro hm;by_cases h:∃j,j<m/\p j
  .obtain⟨j,hj,hp⟩:=h;obtain⟨k,h1,h2,h3⟩:=ih j hj hp;exact⟨k,h1,by omega,h3⟩
  .exact⟨m,hm,Zc _,λj hj=>by
    rcases ZM j m with h'|h'
    .exact absurd ⟨j,h',hj⟩ h
    .exact h'⟩
end
abbrev Dig:={l:List UInt8//l.length=32}
@[irreducible] def dv(k:Dig):Array Value:=(k.1.map Extern.Stop.cell).toArray
@[irreducible] def kn(k:Dig)(i:Nat):Nat:=(k.1[i]?.getD 0).toNat
@[simp,go_sem] theorem rSq(k:Dig):(dv k).size=32:=by simp[dv,k.2]
@[simp,go_sem] theorem B6q(k:Dig):(dv k).extract 0 32=dv k:=by
 have:=rSq k;rw[<-this];simp
theorem vlq(k:Dig)(i:Nat):kn k i<=255:=by have:=(k.1[i]?.getD 0).toNat_lt;unfold kn;omega
@[simp,go_sem] theorem Aqq(k:Dig):l5q (dv k)=true:=by
 simp[l5q,dv,Extern.Stop.cell];intros;rfl
@[irreducible] def teq(k:Dig)(i:Nat)(b:UInt8):Dig:=⟨k.1.set i b,by simp[k.2]⟩
theorem rTq{a b:Dig}(h:∀i,i<32->kn a i=kn b i):a=b:=by
 apply Subtype.ext;apply List.ext_getElem (by rw[a.2,b.2]);intro i h1 h2;have:=h i (by rw[a.2] at h1;exact h1);simp only[kn,Za h1,Za h2,Option.getD_some] at this;exact UInt8.toNat_inj.1 this
theorem t5q(k:Dig)(i j:Nat)(b:UInt8)(hj:j<32):kn (teq k i b) j=if i=j then b.toNat else kn k j:=by
 have:j<k.1.length:=by rw[k.2];omega
 unfold kn teq;simp only[List.getElem?_set];split<;>simp_all
@[irreducible] def zeroD:Dig:=⟨List.replicate 32 0,by simp⟩
def Op1(P:Program)(o:Oper)(a:Act)(w:World)(v:Value)(w':World):Prop:=
 (execOp a.eval o).run P w= .ok (.value v) w'\/((execOp a.eval o).run P w= .ok .skip w'/\v=undef)
def xjq(o:Oper):Bool:=match o.op with|.defer _=>false|_=>true
theorem buq{o:Oper}(h:xjq o=true):∀c,o.op≠ .defer c:=by
 intro c e;simp[xjq,e] at h
theorem ZQq{P:Program}{r:Option Nat}{o:Oper}{a:Act}{w w':World}{v:Value}{K:Act->World->Prop}{Q:Exit->Act->World->Prop}(hd:xjq o=true)(h:Op1 P o a w v w')(hk:K (a.put o.dst v) w'):
  o.wpIn (FF r) 0 P a w K Q:=by
 refine⟨λf _=>Qtq r f,?_⟩;rw[Oper.semAt_plain _ _ _ (buq hd)];rcases h with h|⟨h,rfl⟩
 .rw[h,Oper.uponIn_value];exact hk
 .rw[h,Oper.uponIn_skip];exact hk
def gd(ops:Array Oper)(fr:Fr)(o:Oper):Option Bool:=
 match o.guard with
 |none=>some true
 |some (j,b)=>match (ops[j]?).bind (·.dst) with
  |none=>some false
  |some t=>match fr.lookup t with
   |some (.bool c)=>some (c==b)
   |some _=>some false
   |none=>none
def YUq(N:Nat)(d:Option Tmp):Bool:=match d with|some t=>decide (t<N)|none=>true
section
variable {P:Program} {fr:Fr} {H:Hp} {S:List World} {dst:Option Tmp} {ty:TypeId} {pos:String} {aft:Array Edge} {g:Option (Nat×Bool)}
theorem c9q{op:BinOp}{t:TypeId}{x y:Operand}{xs ys:Array Value}(h:P.eqGuardType P.depth t=false)(w:World):(eqGuard op t x y (.agg xs) (.agg ys)).run P w= .ok () w:=by
 unfold eqGuard;cases op<;>simp[h]
theorem jCq(b off k:Nat):(⟨b,off,none⟩:Addr).add k=⟨b,off+k,none⟩:=by unfold Addr.add;split<;>simp_all
theorem uyq {e :TypeId}{k:Nat}(hs:(P.info? e).map (·.size)=some k)(w:World):(sizeOf e).run P w= .ok k w:=by
 cases hi:P.info? e with
 |none=>simp[hi] at hs
 | some inf => have:inf.size=k:=by simpa[hi] using hs
               simp[sizeOf,typeInfo,hi,this]
theorem t6q{w:World}{b off n:Nat}{cs:Array Value}{t:TypeId}{f:Nat×Nat}(hb:w.heap[b]? =some (.cells cs t f))(hn:off+n<=cs.size):Ybq w ⟨b,off,none⟩ n=some (cs.extract off (off+n)):=by
 simp[Ybq,hb,hn]
theorem y5q {T :TypeId}{z:Value}(hz:(P.info? T).bind (·.zero)=some z)(w:World):(zeroValue T).run P w= .ok z w:=by
 cases hi:P.info? T with
 |none=>simp[hi] at hz
 | some inf => have:inf.zero=some z:=by simpa[hi] using hz
               simp[zeroValue,typeInfo,hi,this]
theorem Qkq{w:World}{b off:Nat}{cs:Array Value}{t:TypeId}{f:Nat×Nat}(v:Value)(hb:w.heap[b]? =some (.cells cs t f)):Turned b (.cells (cs.setIfInBounds off v) t f) w (w.setCell ⟨b,off,none⟩ v):=by
 have hlt:=(Zp.1 hb).1;refine⟨rfl,rfl,rfl,by simp[World.setCell],?_,λk hk=>?_⟩
 .simp[World.setCell,Array.getElem?_modify,hb]
 .simp only[World.setCell,Array.getElem?_modify];rw[Zg (λe=>hk e.symm)]
end
inductive Kno where
 |val (v:Value)
 |sat (ψ:Value->World->Prop)
abbrev Acc:=List (Nat×Kno)
def push(acc:Acc)(d:Option Tmp)(k:Kno):Acc:=match d with|some t=>(t,k)::acc|none=>acc
def uqq(o:Oper)(j:Nat):Bool:=o.after.any λe=>Region.binds .any e&&e.on==j
def fkq(N:Nat)(ops:List Oper)(m:Nat):Bool:=
 (List.range ops.length).all λj=>match ops[j]? with
  |none=>true
  |some o=>
   xjq o&&YUq N o.dst&&
   (o.after.all λe=>!Region.binds .any e||decide (e.on<j))&&
   (if j<m then
    (List.range m).all λk=>match ops[k]? with
     |none=>true
     |some p=>match p.dst with
      |none=>true
      |some t=>(k==j||o.dst !=some t)&&(!(o.looksAt ops.toArray).contains t||k==j||(if k<j then uqq o k else uqq p j))
    else(List.range j).all λk=>uqq o k)
section
variable {P:Program} {r:Option Nat} {N:Nat} {ds:List Deferred} {Q:Exit->Act->World->Prop} {fr:Fr} {H:Hp} {S:List World}
theorem ppq{ops:Array Oper}:∀(n j:Nat) (listed:Array Bool) (a:Act) (w:World),n+j=ops.size->listed.size=ops.size->
  (∀k,k<j->listed.getD k false=true) ->(∀k,j<=k->k<ops.size->listed.getD k true=false) ->
  (∀i o,j<=i->ops[i]? =some o->∀k,k<i->uqq o k=true) ->(∀i o e,j<=i->ops[i]? =some o->e∈o.after->Region.binds .any e=true->e.on<i) ->
  wpListIn (FF r) 0 P ops Q (ops.toList.drop j) a w->wpAnyIn (FF r) 0 P .any ops Q n listed a w:=by
 intro n;induction n with
 |zero=>
  intro j listed a w hn hsz hl hu hc hlt h;have hj:j=ops.size:=by omega
  rw[hj,ZW Xi] at h;refine⟨?_,h⟩;apply List.eq_nil_iff_forall_not_mem.2;intro i hi;obtain⟨h1,o,ho,_⟩:=mem_ready.1 hi;have hi':=(Zp.1 ho).1;have:=hl i Xd;simp only[ZZ] at this h1;rw[ZG Xd] at this h1;simp at this h1;rw[this] at h1;cases h1
 |succ n ih=>
  intro j listed a w hn hsz hl hu hc hlt h;have hj:j<ops.size:=by omega
  have hdrop:ops.toList.drop j=ops[j]::ops.toList.drop (j+1):=by
   rw[List.drop_eq_getElem_cons (by simpa using hj)];simp
  have hoj:ops[j]? =some ops[j]:=ZG hj
  have hready:∀i,i∈Region.ready .any ops listed↔i=j:=by
   intro i;constructor
   .intro hi;obtain⟨h1,o,ho,he⟩:=mem_ready.1 hi;have hi':=(Zp.1 ho).1
    have hij:j<=i:=by
     rcases ZM i j with h'|h'
     .have:=hl i h';simp only[ZZ] at this h1;rw[ZG Xd] at this h1;simp at this h1;rw[this] at h1;cases h1
     .exact h'
    rcases ZM j i with h'|h'
    .have hed:=hc i o hij ho j h';simp only[uqq,Array.any_eq_true'] at hed;obtain⟨e,hem,hb⟩:=hed;simp only[Zb,beq_iff_eq] at hb;have:=he e hem hb.1;rw[hb.2] at this;have h2:=hu j (Zc _) hj;simp only[ZZ] at this h2;rw[ZG Xd] at this h2;simp at this h2;rw[this] at h2;cases h2
    .omega
   .rintro rfl;refine mem_ready.2 ⟨hu _ (Zc _) hj,_,hoj,λe he hb=>hl _ (hlt _ _ e (Zc _) hoj he hb)⟩
  refine⟨λh0=>(by have:=(hready j).2 rfl;rw[h0] at this;cases this),λi hi=>?_⟩;obtain rfl:=(hready i).1 hi;rw[hdrop] at h;unfold wpOpIn;simp only[hoj]
  have next:∀a w,wpListIn (FF r) 0 P ops Q (ops.toList.drop (i+1)) a w->wpAnyIn (FF r) 0 P .any ops Q n (listed.setIfInBounds i true) a w:=λa w hh=>by
   refine ih (i+1) _ a w Xd (by simp[hsz]) ?_ ?_ (λi' o hi'=>hc i' o Xd) (λi' o e hi'=>hlt i' o e Xd) hh
   .intro k hk;simp only[ZZ,YT];by_cases e:i=k
    .subst e;simp[hsz,hj]
    .rw[Zg e];have:=hl k Xd;simpa[ZZ] using this
   .intro k hk hks;simp only[ZZ,YT];rw[Zg Xd];have:=hu k Xd hks;simpa[ZZ] using this
  unfold wpListIn at h;split
  .rename_i hw;rw[Zt hw] at h;exact Oper.wpIn_mono next h
  .rename_i hw;rw[Zg hw] at h;exact⟨h.1,next _ _ h.2⟩
theorem getD_t{listed:Array Bool}{k:Nat}:listed.getD k false=true↔listed[k]? =some true:=by
 rw[ZZ];cases listed[k]? <;>simp
theorem getD_f{listed:Array Bool}{k:Nat}:listed.getD k true=false↔listed[k]? =some false:=by
 rw[ZZ];cases listed[k]? <;>simp
theorem voq{ops:Array Oper}{m:Nat}(hB:fkq N ops.toList m=true){j:Nat}{o:Oper}(hj:ops[j]? =some o):
  xjq o=true/\YUq N o.dst=true/\(∀e∈o.after,Region.binds .any e=true->e.on<j)/\
  (j<m->∀k p t,k<m->ops[k]? =some p->p.dst=some t->(k=j\/o.dst≠some t)/\(t∈o.looksAt ops->k=j\/(if k<j then uqq o k=true else uqq p j=true)))/\
  (m<=j->∀k,k<j->uqq o k=true):=by
 have hlt:=(Zp.1 hj).1;unfold fkq at hB;rw[List.all_eq_true] at hB;have h:=hB j (by simpa using hlt);simp only[Array.getElem?_toList,hj,Zb,Array.all_eq_true_iff_forall_mem,Y2,Bool.not_eq_true',Z7] at h;obtain⟨⟨⟨h1,h2⟩,h3⟩,h4⟩:=h;refine⟨h1,h2,λe he hb=>?_,λhjm k p t hk hp ht=>?_,λhjm k hk=>?_⟩
 .rcases h3 e he with h|h
  .rw[hb] at h;cases h
  .exact h
 .rw[Zt hjm,List.all_eq_true] at h4;have:=h4 k (by simpa using hk);simp only[hp,ht,Zb,Y2,beq_iff_eq,bne_iff_ne,ne_eq,Bool.not_eq_true',List.contains_eq_mem,decide_eq_false_iff_not,Array.toArray_toList] at this;refine⟨this.1,λhm=>?_⟩;rcases this.2 with (h|h)|h
  .exact absurd hm h
  .exact .inl h
  .right;split<;>simp_all
 .rw[Zg Xd,List.all_eq_true] at h4;exact h4 k (by simpa using hk)
theorem YSq{o:Oper}{j:Nat}(h:uqq o j=true):∃e∈o.after,Region.binds .any e=true/\e.on=j:=by
 simp only[uqq,Array.any_eq_true',Zb,beq_iff_eq] at h;obtain⟨e,he,h1,h2⟩:=h;exact⟨e,he,h1,h2⟩
end
inductive Tr(α:Type) where
 |nil
 |node (v:Option α) (l r:Tr α)
 deriving Inhabited
inductive Pth where
 |z
 |l (p:Pth)
 |r (p:Pth)
noncomputable def cbq(f:Nat):Nat->Pth:=Nat.rec (motive:=λ_=>Nat->Pth) (λ_=>.z) (λ_ ih k=>Bool.rec (motive:=λ_=>Pth) (Bool.rec (motive:=λ_=>Pth) (.r (ih (Nat.sub (Nat.div k 2) 1))) (.l (ih (Nat.div k 2))) (Nat.beq (Nat.mod k 2) 1)) .z (Nat.beq k 0)) f
noncomputable def pth(k:Nat):Pth:=cbq (Nat.succ k) k
noncomputable def sIq(p:Pth):Nat:=Pth.rec (motive:=λ_=>Nat) 0 (λ_ n=>2*n+1) (λ_ n=>2*n+2) p
noncomputable def Tr.getP{α:Type}(p:Pth):Tr α->Option α:=Pth.rec (motive:=λ_=>Tr α->Option α) (λt=>Tr.rec (motive:=λ_=>Option α) none (λv _ _ _ _=>v) t)
 (λ_ ih t=>Tr.rec (motive:=λ_=>Option α) none (λ_ l _ _ _=>ih l) t) (λ_ ih t=>Tr.rec (motive:=λ_=>Option α) none (λ_ _ r _ _=>ih r) t) p
noncomputable def Tr.setP{α:Type}(v:Option α)(p:Pth):Tr α->Tr α:=Pth.rec (motive:=λ_=>Tr α->Tr α) (λt=>Tr.rec (motive:=λ_=>Tr α) (.node v .nil .nil) (λ_ l r _ _=>.node v l r) t)
 (λ_ ih t=>Tr.rec (motive:=λ_=>Tr α) (.node none (ih .nil) .nil) (λx l r _ _=>.node x (ih l) r) t) (λ_ ih t=>Tr.rec (motive:=λ_=>Tr α) (.node none .nil (ih .nil)) (λx l r _ _=>.node x l (ih r)) t) p
noncomputable def Tr.get{α:Type}(t:Tr α)(k:Nat):Option α:=Tr.getP (pth k) t
noncomputable def Tr.set{α:Type}(t:Tr α)(k:Nat)(v:Option α):Tr α:=Tr.setP v (pth k) t
theorem Qsq{a b:Nat}(h:a=b):Nat.beq a b=true:=by subst h;exact YY a
theorem nwq{a b:Nat}(h:¬a=b):Nat.beq a b=false:=by
 cases hb:Nat.beq a b with
 |false=>rfl
 |true=>exact absurd (Zh hb) h
theorem vdq(f k:Nat):cbq (f+1) k=if k=0 then .z else if k%2=1 then .l (cbq f (k/2)) else .r (cbq f (k/2-1)):=by
 show Bool.rec (motive:=λ_=>Pth) (Bool.rec (motive:=λ_=>Pth) (.r (cbq f (k/2-1))) (.l (cbq f (k/2))) (Nat.beq (k%2) 1)) .z (Nat.beq k 0)=_;by_cases h0:k=0
 .rw[Zt h0,Qsq h0]
 .rw[Zg h0,nwq h0];by_cases h1:k%2=1
  .rw[Zt h1,Qsq h1]
  .rw[Zg h1,nwq h1]
theorem ZNq:∀(f g k:Nat),k<f->k<g->cbq f k=cbq g k
 |0,_,_,h,_=>by omega
 |_,0,_,_,h=>by omega
 |f+1,g+1,k,h1,h2=>by
  rw[vdq,vdq];by_cases h0:k=0
  .rw[Zt h0,Zt h0]
  .rw[Zg h0,Zg h0,ZNq f g (k/2) Xd Xd,ZNq f g (k/2-1) Xd Xd]
theorem ZRq:∀(f k:Nat),k<f->sIq (cbq f k)=k
 |0,_,h=>by omega
 |f+1,k,h=>by
  rw[vdq];by_cases h0:k=0
  .rw[Zt h0,h0];rfl
  .rw[Zg h0];by_cases h1:k%2=1
   .rw[Zt h1];show 2*sIq (cbq f (k/2))+1=k;rw[ZRq f _ Xd];omega
   .rw[Zg h1];show 2*sIq (cbq f (k/2-1))+2=k;rw[ZRq f _ Xd];omega
theorem pMq{j k:Nat}(h:pth j=pth k):j=k:=by
 have:=Ze sIq h;rwa[show sIq (pth j)=j from ZRq _ _ (YE _),show sIq (pth k)=k from ZRq _ _ (YE _)] at this
theorem Tr.getP_nil{α:Type}(p:Pth):Tr.getP (α:=α) p .nil=none:=by cases p<;>rfl
theorem Tr.get_nil{α:Type}(k:Nat):(Tr.nil (α:=α)).get k=none:=Tr.getP_nil _
theorem Tr.get_node{α:Type}(v:Option α)(l r:Tr α)(k:Nat):(Tr.node v l r).get k=if k=0 then v else if k%2=1 then l.get (k/2) else r.get (k/2-1):=by
 show Tr.getP (cbq (k+1) k) (Tr.node v l r)=_;rw[vdq];by_cases h0:k=0
 .rw[Zt h0,Zt h0];rfl
 .rw[Zg h0,Zg h0];by_cases h1:k%2=1
  .rw[Zt h1,Zt h1];show Tr.getP (cbq k (k/2)) l=Tr.getP (cbq (k/2+1) (k/2)) l;rw[ZNq k (k/2+1) (k/2) Xd Xd]
  .rw[Zg h1,Zg h1];show Tr.getP (cbq k (k/2-1)) r=Tr.getP (cbq (k/2-1+1) (k/2-1)) r;rw[ZNq k (k/2-1+1) (k/2-1) Xd Xd]
theorem Tr.getP_same{α:Type}(v:Option α):∀(p:Pth) (t:Tr α),Tr.getP p (Tr.setP v p t)=v
 |.z,t=>by cases t<;>rfl
 |.l p,.nil=>Tr.getP_same v p .nil
 |.l p,.node _ l _=>Tr.getP_same v p l
 |.r p,.nil=>Tr.getP_same v p .nil
 |.r p,.node _ _ r=>Tr.getP_same v p r
theorem Tr.getP_other{α:Type}(v:Option α):∀(p q:Pth) (t:Tr α),q≠p->Tr.getP q (Tr.setP v p t)=Tr.getP q t
 |.z,.z,_,h=>absurd rfl h
 |.z,.l q,.nil,_=>Tr.getP_nil q
 |.z,.r q,.nil,_=>Tr.getP_nil q
 |.z,.l _,.node _ _ _,_=>rfl
 |.z,.r _,.node _ _ _,_=>rfl
 |.l _,.z,.nil,_=>rfl
 |.l _,.z,.node _ _ _,_=>rfl
 |.l p,.l q,.nil,h=>(Tr.getP_other v p q .nil λe=>h (Ze Pth.l e)).trans (Tr.getP_nil q)
 |.l p,.l q,.node _ l _,h=>Tr.getP_other v p q l λe=>h (Ze Pth.l e)
 |.l _,.r q,.nil,_=>Tr.getP_nil q
 |.l _,.r _,.node _ _ _,_=>rfl
 |.r _,.z,.nil,_=>rfl
 |.r _,.z,.node _ _ _,_=>rfl
 |.r _,.l q,.nil,_=>Tr.getP_nil q
 |.r _,.l _,.node _ _ _,_=>rfl
 |.r p,.r q,.nil,h=>(Tr.getP_other v p q .nil λe=>h (Ze Pth.r e)).trans (Tr.getP_nil q)
 |.r p,.r q,.node _ _ r,h=>Tr.getP_other v p q r λe=>h (Ze Pth.r e)
theorem Tr.get_set{α:Type}(t:Tr α)(k:Nat)(v:Option α)(j:Nat):(t.set k v).get j=if j=k then v else t.get j:=by
 by_cases e:j=k
 .rw[Zt e,e];exact Tr.getP_same v _ t
 .rw[Zg e];exact Tr.getP_other v _ _ t λh=>e (pMq h)
mutual
noncomputable def InD(D:Nat->Nat->Prop):V->Prop
 |.ptr b _=>D b 0
 |.sl b _ off len esz lim=>0<esz/\len<=lim.getD len/\D b (off+(lim.getD len)*esz)
 |.map r=>D r 0
 |.yield l=>D l 0
 |.fn _ a c=>InDL D a/\InDL D c
 |.iface _ v=>InD D v
 |.agg _ l=>InDL D l
 |.arr _ _ l=>InDL D l
 |.tup l=>InDL D l
 |.undef=>True
 |.bool _=>True
 |.int _ _=>True
 |.str _=>True
 |.nilp=>True
 |.nils=>True
 |.nilm=>True
 |.nilf=>True
 |.nili=>True
noncomputable def InDL(D:Nat->Nat->Prop):List V->Prop
 |[]=>True
 |v::l=>InD D v/\InDL D l
end
theorem InDL_iff{D:Nat->Nat->Prop}:∀{l:List V},InDL D l↔∀v∈l,InD D v
 |[]=>by simp[InDL]
 |v::l=>by simp[InDL,InDL_iff (l:=l)]
mutual
theorem InD.mono'{D E:Nat->Nat->Prop}(h:∀i m,D i m->E i m):∀(v:V),InD D v->InD E v
 |.ptr _ _=>λhv=>h _ _ hv
 |.sl _ _ _ _ _ _=>λhv=>⟨hv.1,hv.2.1,h _ _ hv.2.2⟩
 |.map _=>λhv=>h _ _ hv
 |.yield _=>λhv=>h _ _ hv
 |.fn _ a c=>λhv=>⟨InDL.mono' h a hv.1,InDL.mono' h c hv.2⟩
 |.iface _ v=>λhv=>InD.mono' h v hv
 |.agg _ l=>λhv=>InDL.mono' h l hv
 |.arr _ _ l=>λhv=>InDL.mono' h l hv
 |.tup l=>λhv=>InDL.mono' h l hv
 |.undef=>λ_=>trivial
 |.bool _=>λ_=>trivial
 |.int _ _=>λ_=>trivial
 |.str _=>λ_=>trivial
 |.nilp=>λ_=>trivial
 |.nils=>λ_=>trivial
 |.nilm=>λ_=>trivial
 |.nilf=>λ_=>trivial
 |.nili=>λ_=>trivial
theorem InDL.mono'{D E:Nat->Nat->Prop}(h:∀i m,D i m->E i m):∀(l:List V),InDL D l->InDL E l
 |[]=>λ_=>trivial
 |v::l=>λhv=>⟨InD.mono' h v hv.1,InDL.mono' h l hv.2⟩
end
theorem InD.mono{D E:Nat->Nat->Prop}(h:∀i m,D i m->E i m){v:V}(hv:InD D v):InD E v:=InD.mono' h v hv
theorem InDL.mono{D E:Nat->Nat->Prop}(h:∀i m,D i m->E i m){l:List V}(hv:InDL D l):InDL E l:=InDL.mono' h l hv
noncomputable def Env.Agree(D:Nat->Nat->Prop)(ρ ρ':Env):Prop:=∀i m,D i m->ρ'.b i=ρ.b i/\ρ'.pre i=ρ.pre i/\ρ'.cap i=ρ.cap i/\ρ'.l i=ρ.l i
theorem Zgq{ρ ρ':Env}{b base off len esz:Nat}{lim:Option Nat}(h1:ρ'.b b=ρ.b b)(h2:ρ'.pre b=ρ.pre b)(h3:ρ'.cap b=ρ.cap b)(h4:ρ'.l b=ρ.l b):yjq ρ' b base off len esz lim=yjq ρ b base off len esz lim:=by
 have hc:z8q ρ' b off esz lim=z8q ρ b off esz lim:=by cases lim<;>simp[z8q,h3]
 unfold yjq vLq;rw[hc,h1,h2,h3,h4]
mutual
theorem yQq{D:Nat->Nat->Prop}{ρ ρ':Env}(h:Env.Agree D ρ ρ'):∀{v:V},InD D v->aaq ρ' v=aaq ρ v
 |.ptr b _,hv=>by obtain⟨h1,h2,_,_⟩:=h b _ hv;simp[aaq,h1,h2]
 |.sl b _ _ _ _ lim,hv=>by obtain⟨h1,h2,h3,h4⟩:=h b _ hv.2.2;simp only[aaq];exact Zgq h1 h2 h3 h4
 |.map b,hv=>by obtain⟨h1,_⟩:=h b _ hv;simp[aaq,h1]
 |.yield b,hv=>by obtain⟨_,_,_,h1⟩:=h b _ hv;simp[aaq,h1]
 |.fn _ a c,hv=>by simp[aaq,qoq h (l:=a) hv.1,qoq h (l:=c) hv.2]
 |.iface _ v,hv=>by simp[aaq,yQq h (v:=v) hv]
 |.agg _ l,hv=>by simp[aaq,uRq h (l:=l) hv]
 |.arr _ e l,hv=>by simp[aaq,uQq h (e:=e) (l:=l) hv]
 |.tup l,hv=>by simp[aaq,qoq h (l:=l) hv]
 |.undef,_=>by simp[aaq]
 |.bool _,_=>by simp[aaq]
 |.int _ _,_=>by simp[aaq]
 |.str _,_=>by simp[aaq]
 |.nilp,_=>by simp[aaq]
 |.nils,_=>by simp[aaq]
 |.nilm,_=>by simp[aaq]
 |.nilf,_=>by simp[aaq]
 |.nili,_=>by simp[aaq]
theorem qoq{D:Nat->Nat->Prop}{ρ ρ':Env}(h:Env.Agree D ρ ρ'):∀{l:List V},InDL D l->zMq ρ' l=zMq ρ l
 |[],_=>rfl
 |v::l,hv=>by simp[zMq,yQq h (v:=v) hv.1,qoq h (l:=l) hv.2]
theorem uRq{D:Nat->Nat->Prop}{ρ ρ':Env}(h:Env.Agree D ρ ρ'):∀{l:List V},InDL D l->jIq ρ' l=jIq ρ l
 |[],_=>rfl
 |v::l,hv=>by simp[jIq,yEq h (v:=v) hv.1,uRq h (l:=l) hv.2]
theorem uQq{D:Nat->Nat->Prop}{ρ ρ':Env}(h:Env.Agree D ρ ρ'){e:Nat}:∀{l:List V},InDL D l->znq ρ' e l=znq ρ e l
 |[],_=>rfl
 |v::l,hv=>by simp[znq,yEq h (v:=v) hv.1,uQq h (l:=l) hv.2]
theorem yEq{D:Nat->Nat->Prop}{ρ ρ':Env}(h:Env.Agree D ρ ρ'):∀{v:V},InD D v->cellsV ρ' v=cellsV ρ v
 |.ptr b _,hv=>by obtain⟨h1,h2,_,_⟩:=h b _ hv;simp[cellsV,h1,h2]
 |.sl b _ _ _ _ lim,hv=>by obtain⟨h1,h2,h3,h4⟩:=h b _ hv.2.2;simp only[cellsV];rw[Zgq h1 h2 h3 h4]
 |.map b,hv=>by obtain⟨h1,_⟩:=h b _ hv;simp[cellsV,h1]
 |.yield b,hv=>by obtain⟨_,_,_,h1⟩:=h b _ hv;simp[cellsV,h1]
 |.fn _ a c,hv=>by simp[cellsV,qoq h (l:=a) hv.1,qoq h (l:=c) hv.2]
 |.iface _ v,hv=>by simp[cellsV,yQq h (v:=v) hv]
 |.agg _ l,hv=>by simp[cellsV,uRq h (l:=l) hv]
 |.arr _ e l,hv=>by simp[cellsV,uQq h (e:=e) (l:=l) hv]
 |.tup _,_=>by simp[cellsV]
 |.undef,_=>by simp[cellsV]
 |.bool _,_=>by simp[cellsV]
 |.int _ _,_=>by simp[cellsV]
 |.str _,_=>by simp[cellsV]
 |.nilp,_=>by simp[cellsV]
 |.nils,_=>by simp[cellsV]
 |.nilm,_=>by simp[cellsV]
 |.nilf,_=>by simp[cellsV]
 |.nili,_=>by simp[cellsV]
end
theorem InDL.at_{D:Nat->Nat->Prop}{l:List V}(h:InDL D l){i:Nat}{v:V}(hi:l[i]? =some v):InD D v:=InDL_iff.1 h v (Zf hi)
theorem ZVq{D:Nat->Nat->Prop}:∀{l:List V} {off:Nat} {x:V} {o:Nat},Qpq l off=some (x,o) ->InDL D l->InD D x
 |[],_,_,_,h,_=>by simp[YLq] at h
 |v::l,off,x,o,h,hl=>by
  simp only[v7q] at h;split at h
  .simp only[Zk,ZQ] at h;rw[<-h.1];exact hl.1
  .exact ZVq h hl.2
theorem YCq{D:Nat->Nat->Prop}:∀{f:Nat} {v:V} {off n:Nat} {ag:Bool} {x:V},upq f v off n ag=some x->InD D v->InD D x
 |0,_,_,_,_,_,h,_=>by simp[uHq] at h
 | f +1,v,off,n,ag,x,h,hv=>by
  simp only[xmq] at h;split at h
  .split at h
   .simp only[Zk] at h;rw[<-h];exact hv
   .cases h
  .split at h
   .split at h
    .rename_i hf;split at h
     .exact YCq h (ZVq hf (show InDL D _ from hv))
     .cases h
    .cases h
   .split at h
    .rename_i hy;split at h
     .exact YCq h (InDL.at_ (show InDL D _ from hv) hy)
     .cases h
    .cases h
   .cases h
theorem dSq{D:Nat->Nat->Prop}{g:V->Nat->Option V}(hg:∀y o y',g y o=some y'->InD D y->InD D y'):∀{l:List V} {off:Nat} {l':List V} {o s:Nat},JBq g l off=some (l',o,s) ->InDL D l->InDL D l'
 |[],_,_,_,_,h,_=>by simp[Yiq] at h
 |v::l,off,l',o,s,h,hl=>by
  simp only[vVq] at h;split at h
  .split at h
   .rename_i hv;simp only[Zk,ZQ] at h;rw[<-h.1];exact⟨hg _ _ _ hv hl.1,hl.2⟩
   .cases h
  .split at h
   .rename_i h1;simp only[Zk,ZQ] at h;rw[<-h.1];exact⟨hl.1,dSq hg h1 hl.2⟩
   .cases h
theorem InDL.set{D:Nat->Nat->Prop}{l:List V}{i:Nat}{v:V}(hl:InDL D l)(hv:InD D v):InDL D (l.set i v):=
 InDL_iff.2 λx hx=>by
  rcases List.mem_or_eq_of_mem_set hx with h|rfl
  .exact InDL_iff.1 hl x h
  .exact hv
theorem Ykq{D:Nat->Nat->Prop}:∀{f:Nat} {v:V} {off:Nat} {x v':V},unq f v off x=some v'->InD D v->InD D x->InD D v'
 |0,_,_,_,_,h,_,_=>by simp[uAq] at h
 | f +1,v,off,x,v',h,hv,hx=>by
  simp only[xgq] at h;split at h
  .split at h
   .simp only[Zk] at h;rw[<-h];exact hx
   .cases h
  .split at h
   .split at h
    .rename_i hp;split at h
     .simp only[Zk] at h;rw[<-h];exact dSq (λy o y' hy hy'=>Ykq hy hy' hx) hp (show InDL D _ from hv)
     .cases h
    .cases h
   .split at h
    .rename_i hy;split at h
     .split at h
      .rename_i hy';simp only[Zk] at h;rw[<-h];exact InDL.set (show InDL D _ from hv) (Ykq hy' (InDL.at_ (show InDL D _ from hv) hy) hx)
      .cases h
     .cases h
    .cases h
   .cases h
mutual
theorem xTq{D:Nat->Nat->Prop}:∀{v:V},InD D v->∀x∈zlq v,InD D x
 |.agg n l,h=>λx hx=>by
  simp only[zlq] at hx;rcases ufq hx with hx|rfl
  .exact edq (l:=l) h x hx
  .trivial
 |.arr n e l,h=>λx hx=>by
  simp only[zlq] at hx;rcases ufq hx with hx|rfl
  .exact J2q (l:=l) h x hx
  .trivial
 |.undef,h=>λx hx=>by simp[zlq] at hx;subst hx;exact h
 |.bool _,h=>λx hx=>by simp[zlq] at hx;subst hx;exact h
 |.int _ _,h=>λx hx=>by simp[zlq] at hx;subst hx;exact h
 |.str _,h=>λx hx=>by simp[zlq] at hx;subst hx;exact h
 |.nilp,h=>λx hx=>by simp[zlq] at hx;subst hx;exact h
 |.ptr _ _,h=>λx hx=>by simp[zlq] at hx;subst hx;exact h
 |.nils,h=>λx hx=>by simp[zlq] at hx;subst hx;exact h
 |.sl _ _ _ _ _ _,h=>λx hx=>by simp[zlq] at hx;subst hx;exact h
 |.nilm,h=>λx hx=>by simp[zlq] at hx;subst hx;exact h
 |.map _,h=>λx hx=>by simp[zlq] at hx;subst hx;exact h
 |.fn _ _ _,h=>λx hx=>by simp[zlq] at hx;subst hx;exact h
 |.yield _,h=>λx hx=>by simp[zlq] at hx;subst hx;exact h
 |.nilf,h=>λx hx=>by simp[zlq] at hx;subst hx;exact h
 |.iface _ _,h=>λx hx=>by simp[zlq] at hx;subst hx;exact h
 |.nili,h=>λx hx=>by simp[zlq] at hx;subst hx;exact h
 |.tup _,h=>λx hx=>by simp[zlq] at hx;subst hx;exact h
theorem edq{D:Nat->Nat->Prop}:∀{l:List V},InDL D l->∀x∈jNq l,InD D x
 |[],_=>λx hx=>by simp[jNq] at hx
 |v::l,h=>λx hx=>by
  simp only[jNq,ZT] at hx;rcases hx with hx|hx
  .exact xTq h.1 x hx
  .exact edq h.2 x hx
theorem J2q{D:Nat->Nat->Prop}{e:Nat}:∀{l:List V},InDL D l->∀x∈z6q e l,InD D x
 |[],_=>λx hx=>by simp[z6q] at hx
 |v::l,h=>λx hx=>by
  simp only[z6q,ZT] at hx;rcases hx with hx|hx
  .rcases ufq hx with hx|rfl
   .exact xTq h.1 x hx
   .trivial
  .exact J2q h.2 x hx
end
theorem flq{D:Nat->Nat->Prop}{v:V}{off n:Nat}{ag:Bool}{x:V}(h:uJq v off n ag=some x)(hv:InD D v):InD D x:=by
 unfold uJq at h;split at h
 .split at h
  .cases h;exact InDL_iff.2 λy hy=>xTq hv y (ZD (ZH hy))
  .split at h
   .rename_i hx;split at h
    .cases h;exact xTq hv _ (Zf hx)
    .cases h
   .cases h
 .cases h
theorem J0q{D:Nat->Nat->Prop}{f:Nat}{v:V}{off n:Nat}{ag:Bool}{x:V}(h:jHq f v off n ag=some x)(hv:InD D v):InD D x:=by
 unfold jHq at h;split at h
 .cases h;exact YCq Yh hv
 .exact flq h hv
theorem ZMq{D:Nat->Nat->Prop}{f:Nat}{v:V}{off:Nat}{x v':V}(h:xDq f v off x=some v')(hv:InD D v)(hx:InD D x):InD D v':=by
 unfold xDq at h;split at h
 .cases h;exact Ykq Yh hv hx
 .unfold v3q at h;split at h
  .cases h;refine InDL_iff.2 λy hy=>?_
   simp only[ZT] at hy;rcases hy with (hy|hy)|hy
   .exact xTq hv y (ZH hy)
   .exact xTq hx y hy
   .exact xTq hv y (ZD hy)
  .cases h
noncomputable def pkq(_:TypeId):Bool:=false
noncomputable def fOq(ty e:TypeId):Bool:=Nat.beq ty e
theorem vPq(e:TypeId):fOq e e=true:=YY e
theorem lhq{ty e:TypeId}(h:fOq ty e=true):ty=e/\pkq e=false:=⟨Zh h,rfl⟩
inductive Blk where
 |cells (ty:TypeId) (v:V)
 |ro (v:V)
 |loop (state:LoopState) (pending:Option Code) (fr:Tr V) (ps:Array Tmp) (assign body:Code) (dfr:Nat)
 |dfr (taken:Bool)
 |map (es:List (V×V×Nat)) (clock:Nat)
 |siter (s:List UInt8) (pos:Nat)
 |miter (m:Option Nat) (since:Nat) (seen:List Nat) (last:Nat)
 deriving Inhabited
noncomputable def Blk.own:Blk->Bool
 |.ro _=>false
 |_=>true
structure Heap where
 next:Nat
 wmin:Nat
 tr:Tr Blk
 deriving Inhabited
noncomputable def wmn(a i:Nat):Nat:=match Nat.ble a i with
 |true=>a
 |false=>i
noncomputable def Heap.get(h:Heap)(i:Nat):Option Blk:=h.tr.get i
noncomputable def Heap.put(h:Heap)(i:Nat)(b:Blk):Heap:={next:=h.next,wmin:=wmn h.wmin i,tr:=h.tr.set i (some b)}
noncomputable def Heap.kill(h:Heap)(i:Nat):Heap:={next:=h.next,wmin:=wmn h.wmin i,tr:=h.tr.set i none}
noncomputable def Heap.push(h:Heap)(b:Blk):Heap:={next:=h.next+1,wmin:=h.wmin,tr:=h.tr.set h.next (some b)}
theorem Heap.get_put(h:Heap)(i:Nat)(b:Blk)(j:Nat):(h.put i b).get j=if j=i then some b else h.get j:=Tr.get_set _ _ _ _
theorem Heap.get_kill(h:Heap)(i:Nat)(j:Nat):(h.kill i).get j=if j=i then none else h.get j:=Tr.get_set _ _ _ _
theorem Heap.get_push(h:Heap)(b:Blk)(j:Nat):(h.push b).get j=if j=h.next then some b else h.get j:=Tr.get_set _ _ _ _
theorem k3q(a i:Nat):wmn a i<=a/\wmn a i<=i:=by
 unfold wmn;cases h:Nat.ble a i with
 |true=>exact⟨Zc _,Yb h⟩
 |false=>
  have:¬a<=i:=λh'=>by rw[Zl h'] at h;cases h
  exact⟨by show i<=a;omega,Zc _⟩
noncomputable def B4q(D:Nat->Nat->Prop)(fr:Tr V):Prop:=∀t v,fr.get t=some v->InD D v
noncomputable def InB(D:Nat->Nat->Prop):Blk->Prop
 |.cells _ v=>InD D v
 |.ro v=>InD D v
 |.loop _ _ fr _ _ _ d=>B4q D fr/\D d 0
 |.dfr _=>True
 |.map es _=>∀e∈es,InD D e.1/\InD D e.2.1
 |.siter _ _=>True
 |.miter m _ _ _=>∀r,m=some r->D r 0
theorem InB.mono{D E:Nat->Nat->Prop}(h:∀i m,D i m->E i m){b:Blk}(hb:InB D b):InB E b:=by
 cases b with
 |cells _ v=>exact InD.mono h hb
 |ro v=>exact InD.mono h hb
 |loop _ _ fr _ _ _ d=>exact⟨λt v hv=>InD.mono h (hb.1 t v hv),h _ _ hb.2⟩
 |dfr _=>trivial
 |map es _=>exact λe he=>⟨InD.mono h (hb e he).1,InD.mono h (hb e he).2⟩
 |siter _ _=>trivial
 |miter m _ _ _=>exact λr hr=>h _ _ (hb r hr)
noncomputable def qJq(ρ:Env)(es:List (V×V×Nat)):List MapEntry:=es.map λe=>⟨aaq ρ e.1,aaq ρ e.2.1,e.2.2⟩
theorem diq{D:Nat->Nat->Prop}{ρ ρ':Env}(h:Env.Agree D ρ ρ'){es:List (V×V×Nat)}(hi:∀e∈es,InD D e.1/\InD D e.2.1):qJq ρ' es=qJq ρ es:=
 List.map_congr_left λe he=>by rw[yQq h (hi e he).1,yQq h (hi e he).2]
noncomputable def yAq(N:Nat):Code->Bool
 |.region _ ops dr=>ops.toList.all (λo=>xjq o&&YUq N o.dst)&&(!dr||fkq N ops.toList ops.size)
 |.seq a b=>yAq N a&&yAq N b
 |.cond _ a b=>yAq N a&&yAq N b
 |.block _ a=>yAq N a
 |.loop a=>yAq N a
 |.scope a=>yAq N a
 |.rangeFunc _ ps a b=>ps.toList.all (λp=>decide (p<N))&&yAq N a&&yAq N b
 |_=>true
noncomputable def KnB(ρ:Env)(i:Nat):Blk->Obj->Prop
 |.cells ty v,o=>∃pre tail:List Value,o= .cells (pre++(cellsV ρ v++tail)).toArray ty (0,0)/\pre.length=ρ.pre i/\(v.size+tail.length=ρ.cap i/\(pkq ty=true->ρ.pre i=0))
 |.ro v,o=>∃(pre tail:List Value) (ty:TypeId) (fz:Nat×Nat),o= .cells (pre++(cellsV ρ v++tail)).toArray ty fz/\pre.length=ρ.pre i/\v.size<=ρ.cap i
 |.loop st pe fr ps asg bd d,o=>∃fn tmps,o= .loop {state:=st,pending:=pe,fn:=fn,tmps:=tmps,params:=ps,assign:=asg,body:=bd,defers:=ρ.b d}/\(∀t v,fr.get t=some v->tmps[t]? =some (aaq ρ v))/\(ρ.l i).1=ρ.b i/\(∀p∈ps.toList,p<tmps.size)/\yAq tmps.size asg=true/\yAq tmps.size bd=true
 |.dfr taken,o=>o= .deferred (if taken then none else some [])
 |.map es c,o=>o= .map (qJq ρ es).toArray c
 |.siter s p,o=>o= .stringIter ⟨⟨s⟩⟩ p/\ρ.pre i=0
 |.miter m since seen last,o=>o= .mapIter (m.map ρ.b) since seen.toArray last/\ρ.pre i=0
theorem KnB.agree{D:Nat->Nat->Prop}{ρ ρ':Env}(h:Env.Agree D ρ ρ'){i m:Nat}(hi:D i m){b:Blk}(hb:InB D b){o:Obj}(hk:KnB ρ i b o):KnB ρ' i b o:=by
 obtain⟨h1,h2,h3,h4⟩:=h i m hi;cases b with
 |cells ty v=>obtain⟨pre,tail,k1,k2,k3⟩:=hk;exact⟨pre,tail,by rw[yEq h hb];exact k1,by rw[h2];exact k2,by rw[h3,h2];exact k3⟩
 |ro v=>obtain⟨pre,tail,ty,fz,k1,k2,k3⟩:=hk;exact⟨pre,tail,ty,fz,by rw[yEq h hb];exact k1,by rw[h2];exact k2,by rw[h3];exact k3⟩
 |loop st pe fr ps asg bd d=>
  obtain⟨fn,tmps,k1,k2,k3,k4⟩:=hk;obtain⟨g1,_⟩:=h d _ hb.2;exact⟨fn,tmps,by rw[g1];exact k1,λt v hv=>by rw[yQq h (hb.1 t v hv)];exact k2 t v hv,by rw[h4,h1];exact k3,k4⟩
 |dfr _=>exact hk
 |map es c=>
  show o= .map (qJq ρ' es).toArray c;rw[diq h hb];exact hk
 |siter s p=>exact⟨hk.1,by rw[h2];exact hk.2⟩
 |miter m since seen last=>
  refine⟨?_,by rw[h2];exact hk.2⟩;cases m with
  |none=>exact hk.1
  |some r=>
   have e:ρ'.b r=ρ.b r:=(h r _ (hb r rfl)).1;show o= .mapIter (some (ρ'.b r)) since seen.toArray last;rw[e];exact hk.1
noncomputable def DD(D:Nat->Prop)(ρ:Env):Nat->Nat->Prop:=λi m=>D i/\m<=ρ.cap i
structure Rel(s0:World)(U:Nat)(D:Nat->Prop)(ρ:Env)(h:Heap)(w:World):Prop where
 lt:∀i,D i->i<h.next\/U<=i
 wf:∀i,h.next<=i->h.get i=none
 has:∀i b,D i->h.get i=some b->∃o,w.heap[ρ.b i]? =some o/\KnB ρ i b o
 clo:∀i b,D i->h.get i=some b->InB (DD D ρ) b
 inj:∀i j b c,D i->D j->h.get i=some b->h.get j=some c->b.own=true->c.own=true->i≠j->ρ.b i≠ρ.b j
 own:∀i b,D i->h.get i=some b->b.own=true->s0.heap.size<=ρ.b i
 old:∀i j b c,D i->D j->h.get i=some b->h.get j=some c->b.own=false->c.own=true->ρ.b i≠ρ.b j
 base:Below s0.heap.size s0 w
structure Nxt(D:Nat->Prop)(ρ:Env)(h:Heap)(w:World)(D':Nat->Prop)(ρ':Env)(h':Heap)(w':World):Prop where
 sub:∀i,D i->D' i
 new:∀i,D' i->D i\/(h.next<=i/\i<h'.next)
 env:∀i,(i<h.next\/h'.next<=i) ->ρ'.b i=ρ.b i/\ρ'.pre i=ρ.pre i/\ρ'.cap i=ρ.cap i/\ρ'.l i=ρ.l i
 frame:∀c,c<w.heap.size->(∀i,D i->h'.wmin<=i->i<h.next->ρ.b i≠c) ->w'.heap[c]? =w.heap[c]?
 fresh:∀i,D' i->h.next<=i->i<h'.next->w.heap.size<=ρ'.b i\/∃j,D j/\h'.wmin<=j/\j<h.next/\ρ.b j=ρ'.b i
 size:w.heap.size<=w'.heap.size
 wmin:h'.wmin<=h.wmin
 nxt:h.next<=h'.next
 os:w'.os=w.os
 tape:w'.tape=w.tape
 output:w'.output=w.output
theorem Nxt.refl(D:Nat->Prop)(ρ:Env)(h:Heap)(w:World):Nxt D ρ h w D ρ h w:=
 ⟨λ_ h=>h,λ_ h=>.inl h,λ_ _=>⟨rfl,rfl,rfl,rfl⟩,λ_ _ _=>rfl,λi _ hn hl=>by omega,Zc _,Zc _,Zc _,rfl,rfl,rfl⟩
theorem Nxt.trans{D D1 D2:Nat->Prop}{ρ ρ1 ρ2:Env}{h h1 h2:Heap}{w w1 w2:World}{U:Nat}(hl:∀i,D i->i<h.next\/U<=i)(hU:h2.next<=U)(a:Nxt D ρ h w D1 ρ1 h1 w1)(b:Nxt D1 ρ1 h1 w1 D2 ρ2 h2 w2):Nxt D ρ h w D2 ρ2 h2 w2:=by
 have hn:=a.nxt;have hn2:=b.nxt
 have hb1:∀i,D1 i->h2.wmin<=i->i<h1.next->∀c,c<w.heap.size->(∀i,D i->h2.wmin<=i->i<h.next->ρ.b i≠c) ->ρ1.b i≠c:=λi hi hw hlt c hc hno=>by
  rcases a.new i hi with h|⟨h,h'⟩
  .rcases hl i h with h3|h3
   .rw[(a.env i (.inl h3)).1];exact hno i h hw h3
   .omega
  .rcases a.fresh i hi h h' with h|⟨j,h3,h4,h5,h6⟩
   .omega
   .rw[<-h6];exact hno j h3 (Zs b.wmin h4) h5
 refine⟨λi hi=>b.sub i (a.sub i hi),λi hi=>?_,λi hi=>?_,λc hc hno=>?_,λi hi hn hlt=>?_,Zs a.size b.size,Zs b.wmin a.wmin,Zs a.nxt b.nxt,b.os.trans a.os,b.tape.trans a.tape,b.output.trans a.output⟩
 .rcases b.new i hi with h|⟨h,h'⟩
  .rcases a.new i h with h|⟨h,h'⟩
   .exact .inl h
   .exact .inr ⟨h,by omega⟩
  .exact .inr ⟨by omega,h'⟩
 .obtain⟨g1,g2,g3,g4⟩:=a.env i Xd;obtain⟨k1,k2,k3,k4⟩:=b.env i Xd;exact⟨k1.trans g1,k2.trans g2,k3.trans g3,k4.trans g4⟩
 .rw[b.frame c (Zw hc a.size) λi hi hw hlt=>hb1 i hi hw hlt c hc hno];exact a.frame c hc λi hi hw hlt=>hno i hi (Zs b.wmin hw) hlt
 ·--what is new
  have old1:∀j,D1 j->h2.wmin<=j->j<h1.next->w.heap.size<=ρ1.b j\/∃k,D k/\h2.wmin<=k/\k<h.next/\ρ.b k=ρ1.b j:=λj hj hw hlt=>by
   rcases a.new j hj with h|⟨h,h'⟩
   .rcases hl j h with h3|h3
    .exact .inr ⟨j,h,hw,h3,(a.env j (.inl h3)).1.symm⟩
    .omega
   .rcases a.fresh j hj h h' with h|⟨k,k1,k2,k3,k4⟩
    .exact .inl h
    .exact .inr ⟨k,k1,Zs b.wmin k2,k3,k4⟩
  by_cases hlt1:i<h1.next
  .have hi1:D1 i:=by
    rcases b.new i hi with h|⟨h,_⟩
    .exact h
    .omega
   rw[(b.env i (.inl hlt1)).1];rcases a.fresh i hi1 hn hlt1 with h|⟨k,k1,k2,k3,k4⟩
   .exact .inl h
   .exact .inr ⟨k,k1,Zs b.wmin k2,k3,k4⟩
  .rcases b.fresh i hi (Nat.le_of_not_lt hlt1) hlt with h|⟨j,h3,h4,h5,h6⟩
   .exact .inl (Zs a.size h)
   .rcases old1 j h3 h4 h5 with h|⟨k,k1,k2,k3,k4⟩
    .exact .inl (by rw[<-h6];exact h)
    .exact .inr ⟨k,k1,k2,k3,by rw[k4,h6]⟩
theorem Nxt.agree{D D':Nat->Prop}{ρ ρ':Env}{h h':Heap}{w w':World}{U:Nat}(hl:∀i,D i->i<h.next\/U<=i)(hU:h'.next<=U)(a:Nxt D ρ h w D' ρ' h' w'):Env.Agree (DD D ρ) ρ ρ':=λi _ hi=>a.env i (by have:=hl i hi.1;omega)
theorem Nxt.dd{D D':Nat->Prop}{ρ ρ':Env}{h h':Heap}{w w':World}{U:Nat}(hl:∀i,D i->i<h.next\/U<=i)(hU:h'.next<=U)(a:Nxt D ρ h w D' ρ' h' w'):∀i m,DD D ρ i m->DD D' ρ' i m:=λi m hi=>⟨a.sub i hi.1,by rw[(a.agree hl hU i m hi).2.2.1];exact hi.2⟩
section
variable {s0:World} {U:Nat} {D:Nat->Prop} {ρ:Env} {h:Heap} {w w':World}
theorem Rel.drawn(r:Rel s0 U D ρ h w)(n:Nat):Rel s0 U D ρ h {w with drawn:=n}:=
 ⟨r.lt,r.wf,r.has,r.clo,r.inj,r.own,r.old,⟨r.base.os,r.base.tape,r.base.output,r.base.size,r.base.block⟩⟩
theorem Rel.blt(r:Rel s0 U D ρ h w){i:Nat}{b:Blk}(hb:h.get i=some b):i<h.next:=by
 rcases ZM i h.next with h'|h'
 .exact h'
 .rw[r.wf i h'] at hb;cases hb
theorem Rel.put(r:Rel s0 U D ρ h w){i:Nat}{b b':Blk}{o':Obj}(hi:D i)(hb:h.get i=some b)(ho:b.own=true)(ho':b'.own=true)(t:Turned (ρ.b i) o' w w')(hk:KnB ρ i b' o')(hin:InB (DD D ρ) b'):
  Rel s0 U D ρ (h.put i b') w'/\Nxt D ρ h w D ρ (h.put i b') w':=by
 have get:∀j c,(h.put i b').get j=some c->(j=i/\c=b')\/(j≠i/\h.get j=some c):=λj c hc=>by
  rw[Heap.get_put] at hc;split at hc
  .rename_i e;cases hc;exact .inl ⟨e,rfl⟩
  .rename_i e;exact .inr ⟨e,hc⟩
 have hil:=r.blt hb;refine⟨⟨r.lt,λj hj=>?_,λj c hj hc=>?_,λj c hj hc=>?_,λj k c d hj hk' hc hd hoc hod hne=>?_,λj c hj hc hoc=>?_,λj k c d hj hk' hc hd hoc hod=>?_,?_⟩,?_⟩
 .have hj:h.next<=j:=hj;rw[Heap.get_put,Zg Xd];exact r.wf j hj
 .rcases get j c hc with ⟨rfl,rfl⟩|⟨hne,hc⟩
  .exact⟨o',t.this,hk⟩
  .obtain⟨o,h1,h2⟩:=r.has j c hj hc;refine⟨o,?_,h2⟩;rw[t.other]
   .exact h1
   .intro e;by_cases hoc:c.own=true
    .exact r.inj j i c b hj hi hc hb hoc ho hne e
    .exact r.old j i c b hj hi hc hb (by simpa using hoc) ho e
 .rcases get j c hc with ⟨rfl,rfl⟩|⟨_,hc⟩
  .exact hin
  .exact r.clo j c hj hc
 .rcases get j c hc with ⟨rfl,rfl⟩|⟨_,hc1⟩<;>rcases get k d hd with ⟨rfl,rfl⟩|⟨_,hd1⟩
  .exact absurd rfl hne
  .exact r.inj _ _ b d hj hk' hb hd1 ho hod hne
  .exact r.inj _ _ c b hj hk' hc1 hb hoc ho hne
  .exact r.inj _ _ c d hj hk' hc1 hd1 hoc hod hne
 .rcases get j c hc with ⟨rfl,rfl⟩|⟨_,hc⟩
  .exact r.own _ b hj hb ho
  .exact r.own j c hj hc hoc
 .rcases get j c hc with ⟨rfl,rfl⟩|⟨_,hc1⟩
  .rw[ho'] at hoc;cases hoc
  .rcases get k d hd with ⟨rfl,rfl⟩|⟨_,hd1⟩
   .exact r.old j _ c b hj hk' hc1 hb hoc ho
   .exact r.old j k c d hj hk' hc1 hd1 hoc hod
 .have hs:=r.own i b hi hb ho;exact⟨t.os.trans r.base.os,t.tape.trans r.base.tape,t.output.trans r.base.output,by rw[t.size];exact r.base.size,λk hk=>(t.other k Xd).trans (r.base.block k hk)⟩
 .have hw:=k3q h.wmin i;refine⟨λ_ h=>h,λ_ h=>.inl h,λ_ _=>⟨rfl,rfl,rfl,rfl⟩,λc _ hno=>t.other c λe=>hno i hi hw.2 hil e.symm,λj _ hn hl=>?_,Nat.le_of_eq t.size.symm,hw.1,Zc _,t.os,t.tape,t.output⟩;have hl:j<h.next:=hl;omega
theorem Rel.putR(r:Rel s0 U D ρ h w){i:Nat}{b b':Blk}{o':Obj}(hi:D i)(hb:h.get i=some b)(ho:b.own=true)(ho':b'.own=false)(t:Turned (ρ.b i) o' w w')(hk:KnB ρ i b' o')(hin:InB (DD D ρ) b'):
  Rel s0 U D ρ (h.put i b') w'/\Nxt D ρ h w D ρ (h.put i b') w':=by
 have get:∀j c,(h.put i b').get j=some c->(j=i/\c=b')\/(j≠i/\h.get j=some c):=λj c hc=>by
  rw[Heap.get_put] at hc;split at hc
  .rename_i e;cases hc;exact .inl ⟨e,rfl⟩
  .rename_i e;exact .inr ⟨e,hc⟩
 have hil:=r.blt hb;refine⟨⟨r.lt,λj hj=>?_,λj c hj hc=>?_,λj c hj hc=>?_,λj k c d hj hk' hc hd hoc hod hne=>?_,λj c hj hc hoc=>?_,λj k c d hj hk' hc hd hoc hod=>?_,?_⟩,?_⟩
 .have hj:h.next<=j:=hj;rw[Heap.get_put,Zg Xd];exact r.wf j hj
 .rcases get j c hc with ⟨rfl,rfl⟩|⟨hne,hc⟩
  .exact⟨o',t.this,hk⟩
  .obtain⟨o,h1,h2⟩:=r.has j c hj hc;refine⟨o,?_,h2⟩;rw[t.other]
   .exact h1
   .intro e;by_cases hoc:c.own=true
    .exact r.inj j i c b hj hi hc hb hoc ho hne e
    .exact r.old j i c b hj hi hc hb (by simpa using hoc) ho e
 .rcases get j c hc with ⟨rfl,rfl⟩|⟨_,hc⟩
  .exact hin
  .exact r.clo j c hj hc
 .rcases get j c hc with ⟨rfl,rfl⟩|⟨_,hc1⟩
  .rw[ho'] at hoc;cases hoc
  .rcases get k d hd with ⟨rfl,rfl⟩|⟨_,hd1⟩
   .rw[ho'] at hod;cases hod
   .exact r.inj _ _ c d hj hk' hc1 hd1 hoc hod hne
 .rcases get j c hc with ⟨rfl,rfl⟩|⟨_,hc⟩
  .rw[ho'] at hoc;cases hoc
  .exact r.own j c hj hc hoc
 .rcases get k d hd with ⟨rfl,rfl⟩|⟨hkn,hd1⟩
  .rw[ho'] at hod;cases hod
  .rcases get j c hc with ⟨rfl,rfl⟩|⟨_,hc1⟩
   .exact r.inj _ _ b d hj hk' hb hd1 ho hod (λe=>hkn e.symm)
   .exact r.old j k c d hj hk' hc1 hd1 hoc hod
 .have hs:=r.own i b hi hb ho;exact⟨t.os.trans r.base.os,t.tape.trans r.base.tape,t.output.trans r.base.output,by rw[t.size];exact r.base.size,λk hk=>(t.other k Xd).trans (r.base.block k hk)⟩
 .have hw:=k3q h.wmin i;refine⟨λ_ h=>h,λ_ h=>.inl h,λ_ _=>⟨rfl,rfl,rfl,rfl⟩,λc _ hno=>t.other c λe=>hno i hi hw.2 hil e.symm,λj _ hn hl=>?_,Nat.le_of_eq t.size.symm,hw.1,Zc _,t.os,t.tape,t.output⟩;have hl:j<h.next:=hl;omega
theorem Rel.kill(r:Rel s0 U D ρ h w)(i:Nat):Rel s0 U D ρ (h.kill i) w/\Nxt D ρ h w D ρ (h.kill i) w:=by
 have get:∀j c,(h.kill i).get j=some c->h.get j=some c:=λj c hc=>by
  rw[Heap.get_kill] at hc;split at hc
  .cases hc
  .exact hc
 have hw:=k3q h.wmin i
 refine⟨⟨r.lt,λj hj=>?_,λj c hj hc=>r.has j c hj (get j c hc),λj c hj hc=>r.clo j c hj (get j c hc),λj k c d hj hk hc hd=>r.inj j k c d hj hk (get _ _ hc) (get _ _ hd),λj c hj hc=>r.own j c hj (get _ _ hc),λj k c d hj hk hc hd=>r.old j k c d hj hk (get _ _ hc) (get _ _ hd),r.base⟩,
  ⟨λ_ h=>h,λ_ h=>.inl h,λ_ _=>⟨rfl,rfl,rfl,rfl⟩,λ_ _ _=>rfl,λj _ hn hl=>?_,Zc _,hw.1,Zc _,rfl,rfl,rfl⟩⟩
 .have hj:h.next<=j:=hj;rw[Heap.get_kill];split
  .rfl
  .exact r.wf j hj
 .have hl:j<h.next:=hl;omega
noncomputable def Env.add(ρ:Env)(i b pre cap:Nat):Env:=⟨λj=>if j=i then b else ρ.b j,λj=>if j=i then pre else ρ.pre j,λj=>if j=i then cap else ρ.cap j,λj=>if j=i then(b,none) else ρ.l j⟩
theorem Env.add_agree{ρ:Env}{i b pre cap:Nat}{D:Nat->Prop}(h:∀j,D j->j≠i):Env.Agree (DD D ρ) ρ (ρ.add i b pre cap):=λj _ hj=>by
 have:=h j hj.1;simp[Env.add,this]
theorem Rel.next_new(r:Rel s0 U D ρ h w)(hU:h.next+1<=U):∀j,D j->j≠h.next:=λj hj e=>by
 have:=r.lt j hj;omega
theorem Rel.pushAny(r:Rel s0 U D ρ h w)(hU:h.next+1<=U){b:Blk}{o:Obj}{pre cap:Nat}(g:Below w.heap.size w w')(hn:w'.heap[w.heap.size]? =some o)(hin:InB (DD D ρ) b)(hk:KnB (ρ.add h.next w.heap.size pre cap) h.next b o):
  Rel s0 U (λi=>D i\/i=h.next) (ρ.add h.next w.heap.size pre cap) (h.push b) w'/\Nxt D ρ h w (λi=>D i\/i=h.next) (ρ.add h.next w.heap.size pre cap) (h.push b) w':=by
 have hne:=r.next_new hU;have hag:Env.Agree (DD D ρ) ρ (ρ.add h.next w.heap.size pre cap):=Env.add_agree hne;have hdd:∀j m,DD D ρ j m->DD (λi=>D i\/i=h.next) (ρ.add h.next w.heap.size pre cap) j m:=λj m hj=>⟨.inl hj.1,by rw[(hag j m hj).2.2.1];exact hj.2⟩
 have hb:∀j,D j->(ρ.add h.next w.heap.size pre cap).b j=ρ.b j:=λj hj=>(hag j 0 ⟨hj,Zi _⟩).1
 have hbn:(ρ.add h.next w.heap.size pre cap).b h.next=w.heap.size:=by simp[Env.add]
 have get:∀j c,(D j\/j=h.next) ->(h.push b).get j=some c->(j=h.next/\c=b)\/(D j/\h.get j=some c):=λj c hj hc=>by
  rw[Heap.get_push] at hc;split at hc
  .rename_i e;cases hc;exact .inl ⟨e,rfl⟩
  .rename_i e;rcases hj with hj|hj
   .exact .inr ⟨hj,hc⟩
   .exact absurd hj e
 have hlt:∀j c,D j->h.get j=some c->ρ.b j<w.heap.size:=λj c hj hc=>by
  obtain⟨o,h1,_⟩:=r.has j c hj hc;exact(Zp.1 h1).1
 have hsz:s0.heap.size<=w.heap.size:=r.base.size;refine⟨⟨λj hj=>?_,λj hj=>?_,λj c hj hc=>?_,λj c hj hc=>?_,λj k c d hj hk' hc hd hoc hod hne'=>?_,λj c hj hc hoc=>?_,λj k c d hj hk' hc hd hoc hod=>?_,?_⟩,?_⟩
 .show j<h.next+1\/_;rcases hj with hj|hj
  .have:=r.lt j hj;omega
  .omega
 .have hj:h.next+1<=j:=hj;rw[Heap.get_push,Zg Xd];exact r.wf j Xd
 .rcases get j c hj hc with ⟨rfl,rfl⟩|⟨hj,hc⟩
  .exact⟨o,by rw[hbn];exact hn,hk⟩
  .obtain⟨o,h1,h2⟩:=r.has j c hj hc;exact⟨o,by rw[hb j hj,g.block _ (hlt j c hj hc)];exact h1,KnB.agree hag (m:=0) ⟨hj,Zi _⟩ (r.clo j c hj hc) h2⟩
 .rcases get j c hj hc with ⟨rfl,rfl⟩|⟨hj,hc⟩
  .exact hin.mono hdd
  .exact(r.clo j c hj hc).mono hdd
 .rcases get j c hj hc with ⟨rfl,rfl⟩|⟨hj1,hc1⟩<;>rcases get k d hk' hd with ⟨rfl,rfl⟩|⟨hk1,hd1⟩
  .exact absurd rfl hne'
  .rw[hbn,hb k hk1];have:=hlt k d hk1 hd1;omega
  .rw[hbn,hb j hj1];have:=hlt j c hj1 hc1;omega
  .rw[hb j hj1,hb k hk1];exact r.inj j k c d hj1 hk1 hc1 hd1 hoc hod hne'
 .rcases get j c hj hc with ⟨rfl,rfl⟩|⟨hj,hc⟩
  .rw[hbn];exact hsz
  .rw[hb j hj];exact r.own j c hj hc hoc
 .rcases get j c hj hc with ⟨rfl,rfl⟩|⟨hj1,hc1⟩<;>rcases get k d hk' hd with ⟨rfl,rfl⟩|⟨hk1,hd1⟩
  .rw[hoc] at hod;cases hod
  .rw[hbn,hb k hk1];have:=hlt k d hk1 hd1;omega
  .rw[hbn,hb j hj1];have:=hlt j c hj1 hc1;omega
  .rw[hb j hj1,hb k hk1];exact r.old j k c d hj1 hk1 hc1 hd1 hoc hod
 .exact⟨g.os.trans r.base.os,g.tape.trans r.base.tape,g.output.trans r.base.output,Zs hsz g.size,λk hk=>(g.block k Xd).trans (r.base.block k hk)⟩
 .refine⟨λ_ h=>.inl h,λj hj=>?_,λj hj=>?_,λc hc _=>g.block c hc,λj hj hn' hl=>?_,g.size,Zc _,YK _,g.os,g.tape,g.output⟩
  .rcases hj with hj|hj
   .exact .inl hj
   .exact .inr ⟨Nat.le_of_eq hj.symm,by show j<h.next+1;omega⟩
  .have:j≠h.next:=by
    rcases hj with hj|hj
    .omega
    .have hj:h.next+1<=j:=hj;omega
   simp[Env.add,this]
  .have hl:j<h.next+1:=hl;have hj':j=h.next:=by omega
   rw[hj',hbn];exact .inl (Zc _)
theorem Rel.push(r:Rel s0 U D ρ h w)(hU:h.next+1<=U){b:Blk}{o:Obj}{pre cap:Nat}(g:Below w.heap.size w w')(hn:w'.heap[w.heap.size]? =some o)(_ho:b.own=true)(hin:InB (DD D ρ) b)(hk:KnB (ρ.add h.next w.heap.size pre cap) h.next b o):
  Rel s0 U (λi=>D i\/i=h.next) (ρ.add h.next w.heap.size pre cap) (h.push b) w'/\Nxt D ρ h w (λi=>D i\/i=h.next) (ρ.add h.next w.heap.size pre cap) (h.push b) w':=r.pushAny hU g hn hin hk
theorem Rel.move(r:Rel s0 U D ρ h w)(hU:h.next+1<=U){b:Nat}{B B':Blk}{o':Obj}{pre cap:Nat}(hb:D b)(hg:h.get b=some B)(ho:B.own=true)(ho':B'.own=true)(t:Turned (ρ.b b) o' w w')(hin:InB (DD D ρ) B')(hk:KnB (ρ.add h.next (ρ.b b) pre cap) h.next B' o'):
  Rel s0 U (λi=>D i\/i=h.next) (ρ.add h.next (ρ.b b) pre cap) ((h.push B').kill b) w'/\Nxt D ρ h w (λi=>D i\/i=h.next) (ρ.add h.next (ρ.b b) pre cap) ((h.push B').kill b) w':=by
 have hne:=r.next_new hU;have hag:Env.Agree (DD D ρ) ρ (ρ.add h.next (ρ.b b) pre cap):=Env.add_agree hne;have hdd:∀j m,DD D ρ j m->DD (λi=>D i\/i=h.next) (ρ.add h.next (ρ.b b) pre cap) j m:=λj m hj=>⟨.inl hj.1,by rw[(hag j m hj).2.2.1];exact hj.2⟩
 have hbb:∀j,D j->(ρ.add h.next (ρ.b b) pre cap).b j=ρ.b j:=λj hj=>(hag j 0 ⟨hj,Zi _⟩).1
 have hbn:(ρ.add h.next (ρ.b b) pre cap).b h.next=ρ.b b:=by simp[Env.add]
 have hbl:=r.blt hg
 have get:∀j c,(D j\/j=h.next) ->((h.push B').kill b).get j=some c->(j=h.next/\c=B')\/(D j/\j≠b/\h.get j=some c):=λj c hj hc=>by
  rw[Heap.get_kill] at hc;split at hc
  .cases hc
  .rename_i e1;rw[Heap.get_push] at hc;split at hc
   .rename_i e;cases hc;exact .inl ⟨e,rfl⟩
   .rename_i e;rcases hj with hj|hj
    .exact .inr ⟨hj,e1,hc⟩
    .exact absurd hj e
 have ne:∀j c,D j->j≠b->h.get j=some c->ρ.b j≠ρ.b b:=λj c hj hjb hc e=>by
  by_cases hoc:c.own=true
  .exact r.inj j b c B hj hb hc hg hoc ho hjb e
  .exact r.old j b c B hj hb hc hg (by simpa using hoc) ho e
 have hw:=k3q (h.push B').wmin b;refine⟨⟨λj hj=>?_,λj hj=>?_,λj c hj hc=>?_,λj c hj hc=>?_,λj k c d hj hk' hc hd hoc hod hne'=>?_,λj c hj hc hoc=>?_,λj k c d hj hk' hc hd hoc hod=>?_,?_⟩,?_⟩
 .show j<h.next+1\/_;rcases hj with hj|hj
  .have:=r.lt j hj;omega
  .omega
 .have hj:h.next+1<=j:=hj;rw[Heap.get_kill];split
  .rfl
  .rw[Heap.get_push,Zg Xd];exact r.wf j Xd
 .rcases get j c hj hc with ⟨rfl,rfl⟩|⟨hj,hjb,hc⟩
  .exact⟨o',by rw[hbn];exact t.this,hk⟩
  .obtain⟨o,h1,h2⟩:=r.has j c hj hc;exact⟨o,by rw[hbb j hj,t.other _ (ne j c hj hjb hc)];exact h1,KnB.agree hag (m:=0) ⟨hj,Zi _⟩ (r.clo j c hj hc) h2⟩
 .rcases get j c hj hc with ⟨rfl,rfl⟩|⟨hj,hjb,hc⟩
  .exact hin.mono hdd
  .exact(r.clo j c hj hc).mono hdd
 .rcases get j c hj hc with ⟨rfl,rfl⟩|⟨hj1,hjb,hc1⟩<;>rcases get k d hk' hd with ⟨rfl,rfl⟩|⟨hk1,hkb,hd1⟩
  .exact absurd rfl hne'
  .rw[hbn,hbb k hk1];exact λe=>ne k d hk1 hkb hd1 e.symm
  .rw[hbn,hbb j hj1];exact ne j c hj1 hjb hc1
  .rw[hbb j hj1,hbb k hk1];exact r.inj j k c d hj1 hk1 hc1 hd1 hoc hod hne'
 .rcases get j c hj hc with ⟨rfl,rfl⟩|⟨hj,hjb,hc⟩
  .rw[hbn];exact r.own b B hb hg ho
  .rw[hbb j hj];exact r.own j c hj hc hoc
 .rcases get j c hj hc with ⟨rfl,rfl⟩|⟨hj1,hjb,hc1⟩
  .rw[ho'] at hoc;cases hoc
  .rcases get k d hk' hd with ⟨rfl,rfl⟩|⟨hk1,hkb,hd1⟩
   .rw[hbn,hbb j hj1];exact ne j c hj1 hjb hc1
   .rw[hbb j hj1,hbb k hk1];exact r.old j k c d hj1 hk1 hc1 hd1 hoc hod
 .have hs:=r.own b B hb hg ho;exact⟨t.os.trans r.base.os,t.tape.trans r.base.tape,t.output.trans r.base.output,by rw[t.size];exact r.base.size,λk hk=>(t.other k Xd).trans (r.base.block k hk)⟩
 .refine⟨λ_ h=>.inl h,λj hj=>?_,λj hj=>?_,λc _ hno=>t.other c λe=>hno b hb hw.2 hbl e.symm,λj hj hn' hl=>?_,Nat.le_of_eq t.size.symm,hw.1,YK _,t.os,t.tape,t.output⟩
  .rcases hj with hj|hj
   .exact .inl hj
   .exact .inr ⟨Nat.le_of_eq hj.symm,by show j<h.next+1;omega⟩
  .have:j≠h.next:=by
    rcases hj with hj|hj
    .omega
    .have hj:h.next+1<=j:=hj;omega
   simp[Env.add,this]
  .have hl:j<h.next+1:=hl;have hj':j=h.next:=by omega
   rw[hj',hbn];exact .inr ⟨b,hb,hw.2,hbl,rfl⟩
theorem Nxt.undrew{D':Nat->Prop}{ρ':Env}{h':Heap}{n:Nat}(x:Nxt D ρ h {w with drawn:=n} D' ρ' h' w'):Nxt D ρ h w D' ρ' h' w':=
 ⟨x.sub,x.new,x.env,x.frame,x.fresh,x.size,x.wmin,x.nxt,x.os,x.tape,x.output⟩
end
section
inductive TyD where
 |int (k:IntKind)
 |bool
 |str
 |arr (n:Nat) (e:TypeId)
 |slice (e:TypeId)
 |struct (fs:List (TypeId×Nat))
 |ptr
 |iface
 |other
structure TyI where
 size:Nat
 bytes:Nat
 zero:V
 d:TyD
noncomputable def TyI.agg(i:TyI):Bool:=match i.d with
 |.arr _ _=>true
 |.struct _=>true
 |_=>false
noncomputable def TyD.Is(P:Program)(t:TypeId):TyD->Prop
 |.int k=>P.underlying t=some (.int k)
 |.bool=>P.underlying t=some .bool
 |.str=>P.underlying t=some .string
 |.arr n e=>P.underlying t=some (.array n e)/\(P.info? e).isSome=true
 |.slice e=>P.underlying t=some (.slice e)
 |.struct fs=>P.underlying t=some (.struct (P.fieldsOf t))/\(P.fieldsOf t).toList.map (λf=>(f.type,f.offset))=fs/\P.stoodInHeld t=false/\(P.fieldsOf t).toList.all (λf=>f.name != "_")=true/\(P.fieldsOf t).toList.all (λf=>(P.info? f.type).isSome)=true
 |.ptr=>P.underlying t=some (.pointer (P.pointee t))
 |.iface=>∃ms,P.underlying t=some (.interface ms)
 |.other=>match P.underlying t with|some (.struct _)=>False|some (.array _ _)=>False|some (.interface _)=>False|some _=>True|none=>False
structure TyOK(P:Program)(t:TypeId)(i:TyI):Prop where
 size:(P.info? t).map (·.size)=some i.size
 bytes:(P.info? t).map (·.bytes)=some i.bytes
 zero:∀ρ,(P.info? t).bind (·.zero)=some (aaq ρ i.zero)
 zin:InD (λ_ _=>False) i.zero
 d:i.d.Is P t
 eqg:i.agg=true->P.eqGuardType P.depth t=false
 zagg:i.zero.isAgg=i.agg
 zleaf:i.agg=false->i.zero.leaf=true
 zsize:i.zero.size=i.size
inductive UX where
 |ptr (e:TypeId)
 |raw
 |fnc
 |mk (e:TypeId)
structure Cfg where
 ty:TypeId->Option TyI
 fn:FuncId->Option Func
 ext:FuncId->Option (List V->Option V)
 glob:Nat->Bool
 known:FuncId->Option (List V->Heap->Option (V×Heap))
 mp:TypeId->Option (TypeId×TypeId)
 mt:TypeId->String->Option FuncId
 ux:Nat->Option UX
structure CfgOK(P:Program)(C:Cfg):Prop where
 ty:∀t i,C.ty t=some i->TyOK P t i
 ext:∀f e,C.ext f=some e->∀ρ vs v,e vs=some v->(∀w,(callFunc f (zMq ρ vs).toArray).run P w= .ok (.value (aaq ρ v)) w)/\∀D,InDL D vs->InD D v
 mp:∀t k e,C.mp t=some (k,e) ->P.underlying t=some (.map k e)
 mt:∀t m f,C.mt t m=some f->∀v args w,(callMethod (.iface t v) m args).run P w=(callFunc f (#[v]++args)).run P w
 ptr:∀t e,C.ux (2*t)=some (.ptr e) ->P.underlying t=some (.pointer e)
 raw:∀t,C.ux (2*t)=some .raw->P.underlying t=some .unsafePointer
 fnc:∀t,C.ux (2*t)=some .fnc->∃ps rs v,P.underlying t=some (.func ps rs v)
 room:∀f e,C.ux (2*f+1)=some (.mk e) ->∃ps rs t,rs[0]? =some t/\P.underlying t=some (.slice e)/\P.underlying e=some (.int .u8)/\∀args w,(callFunc f args).run P w=(do pure (Next.value (<-Extern.BytealgMakeNoZero.makeNoZero ps rs args))).run P w
section
variable {P:Program} {t:TypeId} {i:TyI}
theorem TyOK.info(h:TyOK P t i):∃inf,P.info? t=some inf/\inf.size=i.size/\inf.bytes=i.bytes/\∀ρ,inf.zero=some (aaq ρ i.zero):=by
 cases hi:P.info? t with
 |none=>have:=h.size;simp[hi] at this
 |some inf=>exact⟨inf,rfl,by have:=h.size;simpa[hi] using this,by have:=h.bytes;simpa[hi] using this,λρ=>by have:=h.zero ρ;simpa[hi] using this⟩
theorem TyOK.isAgg(h:TyOK P t i)(w:World):(isAgg t).run P w= .ok i.agg w:=by
 have hd:=h.d;unfold TyI.agg;cases he:i.d<;>rw[he] at hd<;>simp only[TyD.Is] at hd
 case arr=>unfold Go.isAgg;rw[ZL,Zy hd.1 w];simp
 case struct=>unfold Go.isAgg;rw[ZL,Zy hd.1 w];simp
 case iface=>obtain⟨ms,hd⟩:=hd;exact run_isAgg_plain hd rfl w
 case other=>
  cases hu:P.underlying t with
  |none=>simp[hu] at hd
  |some x=>
   refine run_isAgg_plain hu ?_ w;cases x<;>simp[hu] at hd<;>rfl
 all_goals exact run_isAgg_plain hd rfl w
theorem TyOK.sizeOf(h:TyOK P t i)(w:World):(sizeOf t).run P w= .ok i.size w:=uyq h.size w
theorem TyOK.aggLen(h:TyOK P t i)(ha:i.agg=true):aggLen P t=some i.size:=by
 have hd:=h.d;unfold TyI.agg at ha;unfold Go.Proofs.YtpjfmknefefapaaGreatDoor.aggLen;cases he:i.d<;>rw[he] at hd ha<;>simp only[TyD.Is] at hd<;>try (cases ha;done)
 .rw[hd.1];exact h.size
 .rw[hd.1];exact h.size
theorem TyOK.part(h:TyOK P t i){ρ:Env}{v x:V}{off:Nat}{f:Nat}(hg:jHq f v off i.size i.agg=some x)(w:World):(part t (cellsV ρ v).toArray off).run P w= .ok (aaq ρ x) w:=by
 obtain⟨g1,g2,g3,g4⟩:=QQq (ρ:=ρ) f v off i.size i.agg x hg;unfold Go.part;rw[ZL,h.isAgg w,ZA];cases ha:i.agg with
 |true=>
  rw[ha,Zt rfl] at g4;simp only[if_true,ZL,h.sizeOf w,ZA,YB];rw[qzq g4,<-g3];congr 2
  apply Array.ext';simp[Array.toList_extract,List.extract,List.take_drop]
 |false=>
  rw[ha,Zg Xi] at g4;have h1:=khq (ρ:=ρ) g4
  have h2:x.size=1:=by
   have:=ywq ρ x;rw[h1] at this;simpa using this.symm
  have h3:(cellsV ρ v).toArray[off]? =some (aaq ρ x):=by
   have h4:(((cellsV ρ v).drop off).take i.size)[0]? =some (aaq ρ x):=by rw[g3,h1];rfl
   rw[List.getElem?_take_of_lt Xd,ZX,Y3] at h4;simpa using h4
  simp[h3]
end
noncomputable def ltI(m n:Int):Bool:=match m,n with
 |.ofNat a,.ofNat b=>Nat.blt a b
 |.ofNat _,.negSucc _=>false
 |.negSucc _,.ofNat _=>true
 |.negSucc a,.negSucc b=>Nat.blt b a
theorem QLq(m n:Int):ltI m n=decide (m<n):=by
 have hb:∀a b:Nat,Nat.blt a b=decide (a<b):=λa b=>by
  rw[Bool.eq_iff_iff,decide_eq_true_iff,YQ]
 cases m<;>cases n<;>simp only[ltI,hb]<;>rw[Bool.eq_iff_iff]<;>simp<;>omega
noncomputable def eqI(m n:Int):Bool:=match m,n with
 |.ofNat a,.ofNat b=>Nat.beq a b
 |.negSucc a,.negSucc b=>Nat.beq a b
 |_,_=>false
theorem YQq(m n:Int):eqI m n=decide (m=n):=by
 cases m<;>cases n<;>simp only[eqI]<;>rw[Bool.eq_iff_iff]<;>simp[ZE]
 omega
noncomputable def k2q(k:IntKind)(z:Int):Int:=match k,z with
 |.i64,.ofNat a=>match Nat.blt a 9223372036854775808 with
  |true=>.ofNat a
  |false=>k.wrap z
 |.i64,.negSucc a=>match Nat.blt a 9223372036854775808 with
  |true=>.negSucc a
  |false=>k.wrap z
 |.u64,.ofNat a=>.ofNat (a%18446744073709551616)
 |.u32,.ofNat a=>.ofNat (a%4294967296)
 |.u8,.ofNat a=>.ofNat (a%256)
 |_,_=>k.wrap z
theorem k1q(k:IntKind)(z:Int):k2q k z=k.wrap z:=by
 unfold k2q;split
 .split
  .rename_i h;rw[YQ] at h;rw[IntWalk.i64_in _ (by simp only[Int.ofNat_eq_natCast];omega)]
  .rfl
 .split
  .rename_i h;rw[YQ] at h;rw[IntWalk.i64_in _ Xd]
  .rfl
 .simp only[IntKind.wrap,IntKind.bits,IntKind.signed,Bool.false_and,Bool.false_eq_true,if_false];rfl
 .simp only[IntKind.wrap,IntKind.bits,IntKind.signed,Bool.false_and,Bool.false_eq_true,if_false];rfl
 .simp only[IntKind.wrap,IntKind.bits,IntKind.signed,Bool.false_and,Bool.false_eq_true,if_false];rfl
 .rfl
noncomputable def d4q:IntKind->Nat
 |.u8=>256
 |.u16=>65536
 |.u32=>4294967296
 |.u64=>18446744073709551616
 |_=>0
noncomputable def wZq(op:BinOp)(a b:Nat):Option Nat:=match op with
 |.and=>some (Nat.land a b)
 |.or=>some (Nat.lor a b)
 |.xor=>some (Nat.xor a b)
 |_=>none
noncomputable def dmq(op:BinOp)(k:IntKind)(m n:Int):Option Int:=match m,n with
 |.ofNat a,.ofNat b=>match Nat.beq (d4q k) 0 with
  |true=>none
  |false=>match wZq op (a%d4q k) (b%d4q k) with
   |some c=>some (.ofNat c)
   |none=>none
 |_,_=>none
theorem mrq{k:IntKind}(h:0<d4q k):d4q k=2^k.bits/\k.signed=false:=by
 cases k<;>simp[d4q] at h<;>exact⟨rfl,rfl⟩
theorem Z0q{op:BinOp}{k:IntKind}{m n c:Int}(h:dmq op k m n=some c){P:Program}(w:World):(Op.intBits op k m n).run P w= .ok (.int k c) w:=by
 unfold dmq at h;split at h
 .rename_i a b;split at h
  .cases h
  .rename_i hc
   have h0:0<d4q k:=by
    rcases YS (d4q k) with e|e
    .rw[e] at hc;cases hc
    .exact e
   obtain⟨h1,h2⟩:=mrq h0
   have w1:∀x:Nat,x<2^k.bits->k.wrap (x:Int)=x:=λx hx=>by
    simp only[IntKind.wrap,h2,Bool.false_and,Bool.false_eq_true,if_false];have:((x:Int)%((2:Int)^k.bits))=((x%2^k.bits:Nat):Int):=by push_cast;rfl
    rw[this,YV hx]
   have tn:∀x:Nat,(BitVec.ofInt k.bits (Int.ofNat x)).toNat=x%d4q k:=λx=>by
    rw[show Int.ofNat x=((x:Nat):Int) from rfl,BitVec.ofInt_natCast,BitVec.toNat_ofNat,h1]
   have ha:a%d4q k<2^k.bits:=by rw[<-h1];exact Nat.mod_lt _ h0
   have hb:b%d4q k<2^k.bits:=by rw[<-h1];exact Nat.mod_lt _ h0
   cases op<;>simp only[wZq] at h<;>try (cases h;done)
   all_goals
    simp only[Zk] at h;subst h;simp only[Op.intBits,YB,BitVec.toNat_and,BitVec.toNat_or,BitVec.toNat_xor,tn a,tn b]
   .rw[w1 _ (Nat.and_lt_two_pow _ hb)];rfl
   .rw[w1 _ (Nat.or_lt_two_pow ha hb)];rfl
   .rw[w1 _ (Nat.xor_lt_two_pow ha hb)];rfl
 .cases h
noncomputable def Akq(k:IntKind)(n:Int):Option Int:=dmq .xor k (.ofNat (d4q k-1)) n
theorem p8q{k:IntKind}{n c:Int}(h:Akq k n=some c){P:Program}(w:World):(Op.unary .xor (.int k n)).run P w= .ok (.int k c) w:=by
 have e:(if k.signed then-1 else k.max)=Int.ofNat (d4q k-1):=by
  cases k<;>first|rfl|(exfalso;unfold Akq dmq at h;split at h<;>first|(cases h;done)|(simp[d4q,Nat.blt] at h;done))
 unfold Op.unary;simp only[e];exact Z0q h w
noncomputable def w3q(op:BinOp)(k:IntKind)(m n:Int):Option V:=match op with
 |.add=>some (.int k (k2q k (m+n)))
 |.sub=>some (.int k (k2q k (m-n)))
 |.mul=>some (.int k (k2q k (m*n)))
 |.quo=>match eqI n 0 with
  |true=>none
  |false=>some (.int k (k2q k (m.tdiv n)))
 |.rem=>match eqI n 0 with
  |true=>none
  |false=>some (.int k (m.tmod n))
 |.and=>match dmq .and k m n with
  |some c=>some (.int k c)
  |none=>none
 |.or=>match dmq .or k m n with
  |some c=>some (.int k c)
  |none=>none
 |.xor=>match dmq .xor k m n with
  |some c=>some (.int k c)
  |none=>none
 |.lss=>some (.bool (ltI m n))
 |.leq=>some (.bool (!ltI n m))
 |.gtr=>some (.bool (ltI n m))
 |.geq=>some (.bool (!ltI m n))
 |.eql=>some (.bool (eqI m n))
 |.neq=>some (.bool (!eqI m n))
 |_=>none
noncomputable def shI(op:BinOp)(k:IntKind)(m n:Int):Option V:=match m,n with
 |.ofNat a,.ofNat b=>match op with
  |.shr=>some (.int k (.ofNat (Nat.shiftRight a (min b k.bits))))
  |.shl=>some (.int k (k2q k (.ofNat (Nat.shiftLeft a (min b k.bits)))))
  |_=>none
 |_,_=>none
section
variable {P:Program} (w:World) {x y:Operand} {t:TypeId} {k k2:IntKind} {m n:Int} {r:V} {op:BinOp} {ρ:Env}
theorem slq(h:w3q op k m n=some r):(do eqGuard op t x y (.int k m) (.int k n);binOp op t (.int k m) (.int k n)).run P w= .ok (aaq ρ r) w:=by
 unfold w3q at h;cases op<;>simp only at h<;>try (cases h;done)
 case add=>cases h;simp[eqGuard,binOp,Op.intArith,aaq,k1q]
 case sub=>cases h;simp[eqGuard,binOp,Op.intArith,aaq,k1q]
 case mul=>cases h;simp[eqGuard,binOp,Op.intArith,aaq,k1q]
 case quo=>
  split at h
  .cases h
  .rename_i h0;rw[YQq,decide_eq_false_iff_not] at h0;cases h;simp[eqGuard,binOp,Op.intDiv,aaq,k1q,h0]
 case rem=>
  split at h
  .cases h
  .rename_i h0;rw[YQq,decide_eq_false_iff_not] at h0;cases h;simp[eqGuard,binOp,Op.intDiv,aaq,h0]
 case and=>split at h;rename_i hb;cases h;simp[eqGuard,binOp,Z0q hb,aaq];cases h
 case or=>split at h;rename_i hb;cases h;simp[eqGuard,binOp,Z0q hb,aaq];cases h
 case xor=>split at h;rename_i hb;cases h;simp[eqGuard,binOp,Z0q hb,aaq];cases h
 case lss=>cases h;simp[eqGuard,binOp,Op.intCmp,aaq,QLq]
 case leq=>
  cases h;simp[eqGuard,binOp,Op.intCmp,aaq,QLq];rw[Bool.eq_iff_iff];simp
 case gtr=>cases h;simp[eqGuard,binOp,Op.intCmp,aaq,QLq]
 case geq=>
  cases h;simp[eqGuard,binOp,Op.intCmp,aaq,QLq];rw[Bool.eq_iff_iff];simp
 case eql=>
  cases h;simp[eqGuard,binOp,Op.intCmp,aaq,YQq];rw[Bool.eq_iff_iff];simp
 case neq=>
  cases h;simp[eqGuard,binOp,Op.intCmp,aaq,YQq];rw[Bool.eq_iff_iff];simp
theorem nXq(h:shI op k m n=some r):(do eqGuard op t x y (.int k m) (.int k2 n);binOp op t (.int k m) (.int k2 n)).run P w= .ok (aaq ρ r) w:=by
 unfold shI at h;split at h
 .rename_i a b;have h0:¬(Int.ofNat b<0):=by simp only[Int.ofNat_eq_natCast];omega
  have ht:(Int.ofNat b).toNat=b:=rfl;split at h
  .cases h;simp only[eqGuard,binOp,Op.shift,h0,if_false,ht,ZL,YB,ZA,aaq];simp;rw[Int.shiftRight_eq_div_pow,Int.fdiv_eq_ediv_of_nonneg _ (by exact Int.pow_nonneg Xg)];push_cast;rfl
  .cases h;simp only[eqGuard,binOp,Op.shift,h0,if_false,ht,ZL,YB,ZA,aaq,k1q];simp;congr 1
   rw[Int.shiftLeft_eq]
  .cases h
 .cases h
end
noncomputable def dZq:Value->Option V
 |.bool b=>some (.bool b)
 |.int k n=>some (.int k n)
 |.string s=>some (.str s.data.toList)
 |.pointer none=>some .nilp
 |.slice none 0 0=>some .nils
 |.map none=>some .nilm
 |.nilFunc=>some .nilf
 |.nilIface=>some .nili
 |_=>none
theorem uEq{x:Value}{v:V}(h:dZq x=some v)(ρ:Env):aaq ρ v=x/\v.leaf=true/\∀D,InD D v:=by
 unfold dZq at h;split at h<;>cases h<;>simp[aaq,V.leaf,InD]
noncomputable def vjq:List Value->Option (List V)
 |[]=>some []
 |x::l=>match dZq x,vjq l with
  |some v,some r=>some (v::r)
  |_,_=>none
theorem viq:∀{l:List Value} {r:List V},vjq l=some r->∀ρ,jIq ρ r=l/\∀D,InDL D r
 |[],r,h,ρ=>by simp[vjq] at h;subst h;exact⟨rfl,λ_=>trivial⟩
 |x::l,r,h,ρ=>by
  simp only[vjq] at h;split at h
  .rename_i v r' h1 h2;cases h;obtain⟨a1,a2,a3⟩:=uEq h1 ρ;obtain⟨b1,b2⟩:=viq h2 ρ;exact⟨by simp[jIq,khq a2,a1,b1],λD=>⟨a3 D,b2 D⟩⟩
  .cases h
noncomputable def ofV:Value->Option V
 |.agg cs=>match vjq cs.toList with
  |some l=>some (.agg cs.size l)
  |none=>none
 |x=>dZq x
theorem mfq{x:Value}{v:V}(h:ofV x=some v)(ρ:Env):aaq ρ v=x/\∀D,InD D v:=by
 unfold ofV at h;split at h
 .rename_i cs;split at h
  .rename_i l hl;cases h;obtain⟨b1,b2⟩:=viq hl ρ;refine⟨?_,b2⟩;simp[aaq,b1,yGq]
  .cases h
 .exact⟨(uEq h ρ).1,(uEq h ρ).2.2⟩
noncomputable def evV(C:Cfg)(fr:Tr V):Operand->Option V
 |.tmp t=>fr.get t
 |.const v=>ofV v
 |.global g=>match C.glob g with
  |true=>some (.ptr g 0)
  |false=>none
 |.func f=>some (.fn f [] [])
noncomputable def GlobOK(C:Cfg)(D:Nat->Nat->Prop)(ρ:Env):Prop:=∀g,C.glob g=true->D g 0/\ρ.b g=g/\ρ.pre g=0
structure FrOK(C:Cfg)(D:Nat->Nat->Prop)(ρ:Env)(fr:Tr V)(a:Act):Prop where
 at_:∀t v,fr.get t=some v->a.tmps[t]? =some (aaq ρ v)
 in_:B4q D fr
 gl:GlobOK C D ρ
section
variable {C:Cfg} {D:Nat->Nat->Prop} {ρ:Env} {fr:Tr V} {a:Act}
theorem FrOK.ev(h:FrOK C D ρ fr a){x:Operand}{v:V}(hx:evV C fr x=some v):a.eval x=aaq ρ v/\InD D v:=by
 cases x with
 |tmp t=>have:=h.at_ t v hx;exact⟨by simp[Act.eval,this],h.in_ t v hx⟩
 |const c=>obtain⟨h1,h2⟩:=mfq hx ρ;exact⟨by simp[Act.eval,h1],h2 D⟩
 |global g=>
  simp only[evV] at hx;split at hx
  .rename_i hg;cases hx;obtain⟨h1,h2,h3⟩:=h.gl g hg;exact⟨by simp[Act.eval,aaq,h2,h3],h1⟩
  .cases hx
 |func f=>simp only[evV,Zk] at hx;subst hx;exact⟨by simp[Act.eval,aaq,zMq],trivial,trivial⟩
noncomputable def evL(C:Cfg)(fr:Tr V):List Operand->Option (List V)
 |[]=>some []
 |x::l=>match evV C fr x,evL C fr l with
  |some v,some r=>some (v::r)
  |_,_=>none
theorem FrOK.evs(h:FrOK C D ρ fr a):∀{l:List Operand} {r:List V},evL C fr l=some r->l.map a.eval=zMq ρ r/\InDL D r
 |[],r,hr=>by simp[evL] at hr;subst hr;exact⟨rfl,trivial⟩
 |x::l,r,hr=>by
  simp only[evL] at hr;split at hr
  .rename_i v r' h1 h2;cases hr;obtain⟨a1,a2⟩:=h.ev h1;obtain⟨b1,b2⟩:=h.evs h2;exact⟨by simp[zMq,a1,b1],a2,b2⟩
  .cases hr
end
noncomputable def kjq:List UInt8->List UInt8->Bool
 |[],[]=>true
 |a::l,b::r=>Nat.beq a.toNat b.toNat&&kjq l r
 |_,_=>false
theorem uhq:∀a b:List UInt8,kjq a b=decide (a=b)
 |[],[]=>rfl
 |[],_::_=>rfl
 |_::_,[]=>rfl
 |a::l,b::r=>by
  rw[kjq,uhq l r,Bool.eq_iff_iff];simp[UInt8.toNat_inj]
mutual
noncomputable def eqV(C:Cfg):Nat->TypeId->V->V->Option Bool
 |0,_,_,_=>none
 | f +1,t,x,y=>match C.ty t with
  |none=>none
  |some i=>match i.d with
   |.int _=>match x,y with
    |.int j a,.int k b=>match decide (j=k) with
     |true=>some (eqI a b)
     |false=>none
    |_,_=>none
   |.bool=>match x,y with
    |.bool a,.bool b=>some (a==b)
    |_,_=>none
   |.str=>match x,y with
    |.str a,.str b=>some (kjq a b)
    |_,_=>none
   |.ptr=>match x,y with
    |.nilp,.nilp=>some true
    |.nilp,.ptr _ _=>some false
    |.ptr _ _,.nilp=>some false
    |_,_=>none
   |.slice _=>match x,y with
    |.nils,.nils=>some true
    |.nils,.sl _ _ _ _ _ _=>some false
    |.sl _ _ _ _ _ _,.nils=>some false
    |_,_=>none
   |.struct fs=>match x.isAgg&&y.isAgg with
    |true=>m4q C f fs x y
    |false=>none
   |.arr n e=>match x.isAgg&&y.isAgg,C.ty e with
    |true,some j=>m5q C f e j n 0 x y
    |_,_=>none
   |_=>none
noncomputable def m4q(C:Cfg):Nat->List (TypeId×Nat) ->V->V->Option Bool
 |0,_,_,_=>none
 |_+1,[],_,_=>some true
 |f+1,(t,off)::fs,x,y=>match C.ty t with
  |none=>none
  |some i=>match jHq 50 x off i.size i.agg,jHq 50 y off i.size i.agg with
   |some a,some b=>match eqV C f t a b with
    |some true=>m4q C f fs x y
    |some false=>some false
    |none=>none
   |_,_=>none
noncomputable def m5q(C:Cfg):Nat->TypeId->TyI->Nat->Nat->V->V->Option Bool
 |0,_,_,_,_,_,_=>none
 |_+1,_,_,0,_,_,_=>some true
 |f+1,e,j,n+1,k,x,y=>match jHq 50 x (k*j.size) j.size j.agg,jHq 50 y (k*j.size) j.size j.agg with
  |some a,some b=>match eqV C f e a b with
   |some true=>m5q C f e j n (k+1) x y
   |some false=>some false
   |none=>none
  |_,_=>none
end
section
variable {P:Program} {C:Cfg} {ρ:Env}
theorem dec1{d f:Nat}(h:f+1<=d):∃e,d=e+1/\f<=e:=⟨d-1,by omega,by omega⟩
mutual
theorem vtq(hC:CfgOK P C):∀(f:Nat) (t:TypeId) (x y:V) (b:Bool),eqV C f t x y=some b->∀d,f<=d->∀w,(Op.equalIn d t (aaq ρ x) (aaq ρ y)).run P w= .ok b w
 |0,_,_,_,_,h=>by simp[eqV] at h
 | f +1,t,x,y,b,h=>λd hd w=>by
  obtain⟨d,rfl,hd1⟩:=dec1 hd;simp only[eqV] at h;split at h
  .cases h
  .rename_i i hi;have ok:=hC.ty t i hi;have hdd:=ok.d;split at h
   .rename_i k he;rw[he] at hdd;split at h
    .split at h
     .rename_i hk;simp only[Z7] at hk;subst hk;cases h;simp only[aaq];rw[run_equalIn_int w d t _ _ _ _ hdd,YQq];congr 1
     .cases h
    .cases h
   .rename_i he;rw[he] at hdd;split at h
    .cases h;simp only[aaq];exact run_equalIn_bool' w d t _ _ hdd
    .cases h
   .rename_i he;rw[he] at hdd;split at h
    .cases h;simp only[aaq];rw[run_equalIn_string w d t _ _ hdd,ByteArray.toList_eq,ByteArray.toList_eq,uhq];congr 1
     rw[Bool.eq_iff_iff];simp
    .cases h
   .rename_i he;rw[he] at hdd;have hdd:P.underlying t=some (.pointer (P.pointee t)):=hdd;split at h<;>cases h<;>simp only[aaq]<;>simp[Op.equalIn,Zy hdd]
   .rename_i e he;rw[he] at hdd;have hdd:P.underlying t=some (.slice e):=hdd;split at h<;>cases h<;>simp only[aaq,yjq]<;>simp[Op.equalIn,Zy hdd]
   .rename_i fs he;rw[he] at hdd;obtain⟨h1,h2,h3,h4,_⟩:=hdd;split at h
    .rename_i ha;simp only[Zb] at ha;rw[qzq ha.1,qzq ha.2,run_equalIn_struct w d t _ _ h1 h3];exact bSq hC f fs x y b h _ h2 h4 d hd1 w
    .cases h
   .rename_i n e he;rw[he] at hdd;split at h
    .rename_i j ha hj;simp only[Zb] at ha;have okj:=hC.ty e j hj;obtain⟨inf,hin,hsz,_⟩:=okj.info;have hc:P.cellsOf e=j.size:=by simp[Program.cellsOf,hin,hsz]
     rw[qzq ha.1,qzq ha.2,run_equalIn_array w d _ _ hdd.1 hin,hc,List.range_eq_range'];exact bTq hC f e j n 0 x y b h okj d hd1 w
    .cases h
   .cases h
theorem bSq(hC:CfgOK P C):∀(f:Nat) (fs:List (TypeId×Nat)) (x y:V) (b:Bool),m4q C f fs x y=some b->∀(L:List Field),L.map (λf=>(f.type,f.offset))=fs->L.all (λf=>f.name != "_")=true->∀d,f<=d->∀w,
  (Op.eqFields d (cellsV ρ x).toArray (cellsV ρ y).toArray L).run P w= .ok b w
 |0,_,_,_,_,h=>by simp[m4q] at h
 |f+1,[],x,y,b,h=>λL hL _ d _ w=>by
  simp only[m4q,Zk] at h;subst h;simp at hL;subst hL;simp[Op.eqFields]
 | f +1,(t,off)::fs,x,y,b,h=>λL hL hn d hd w=>by
  match L,hL with
  |F::L,hL0=>
   simp only[ZC,YM,ZQ] at hL0;obtain⟨⟨rfl,rfl⟩,hL1⟩:=hL0;simp only[List.all_cons,Zb,bne_iff_ne,ne_eq] at hn;simp only[m4q] at h;split at h
   .cases h
   .rename_i i hi;have ok:=hC.ty _ i hi;split at h
    .rename_i u v hu hv;have p1:=ok.part (ρ:=ρ) hu w;have p2:=ok.part (ρ:=ρ) hv w;simp only[Op.eqFields,ne_eq,hn.1,not_false_eq_true,if_true,ZL,p1,p2,ZA];split at h
     .rename_i he;have p3:=vtq hC f _ u v true he d Xd w;rw[p3,ZA];simp only[Bool.not_true,Bool.false_eq_true,if_false];exact bSq hC f fs x y b h L hL1 hn.2 d Xd w
     .rename_i he;cases h;have p3:=vtq hC f _ u v false he d Xd w;rw[p3,ZA];simp
     .cases h
    .cases h
theorem bTq(hC:CfgOK P C):∀(f:Nat) (e:TypeId) (j:TyI) (n k:Nat) (x y:V) (b:Bool),m5q C f e j n k x y=some b->TyOK P e j->∀d,f<=d->∀w,
  (Op.eqItems d e j.size (cellsV ρ x).toArray (cellsV ρ y).toArray (List.range' k n)).run P w= .ok b w
 |0,_,_,_,_,_,_,_,h=>by simp[m5q] at h
 |f+1,e,j,0,k,x,y,b,h=>λ_ d _ w=>by
  simp only[m5q,Zk] at h;subst h;simp[Op.eqItems]
 |f+1,e,j,n+1,k,x,y,b,h=>λok d hd w=>by
  simp only[m5q] at h;split at h
  .rename_i u v hu hv;have p1:=ok.part (ρ:=ρ) hu w;have p2:=ok.part (ρ:=ρ) hv w;simp only[List.range'_succ,Op.eqItems,ZL,p1,p2,ZA];split at h
   .rename_i he;have p3:=vtq hC f _ u v true he d Xd w;rw[p3,ZA];simp only[Bool.not_true,Bool.false_eq_true,if_false];exact bTq hC f e j n (k+1) x y b h ok d Xd w
   .rename_i he;cases h;have p3:=vtq hC f _ u v false he d Xd w;rw[p3,ZA];simp
   .cases h
  .cases h
end
end
end
def spq:Nat->List Value->Fr
 |_,[]=>[]
 |i,v::vs=>(i,v)::spq (i+1) vs
theorem iHq:∀(i:Nat) (vs:List Value) (t:Nat) (v:Value),(spq i vs).lookup t=some v->i<=t/\vs[t-i]? =some v
 |i,[],t,v,h=>by simp[spq] at h
 |i,x::vs,t,v,h=>by
  simp only[spq,List.lookup_cons] at h;by_cases e:t=i
  .subst e;simp at h;simp[h]
  .have e':(t==i)=false:=by simpa using e
   rw[e'] at h;obtain⟨h1,h2⟩:=iHq (i+1) vs t v h;refine⟨by omega,?_⟩;rw[show t-i=(t-(i+1))+1 from by omega];simpa using h2
theorem suq{N:Nat}{vs:List Value}(hN:vs.length<=N):Ag N [] {tmps:=vs.toArray++Array.replicate (N-vs.toArray.size) undef,defers:=[]} (spq 0 vs):=by
 refine⟨by simp;omega,rfl,λt v h=>?_⟩;obtain⟨_,h2⟩:=iHq 0 vs t v h;have hlt:=(Zq.1 h2).1;simp only[Y8] at h2 hlt;rw[Array.getElem?_append_left (by simpa using hlt)];simpa using h2
section
variable {P:Program} {fn:Func} {c:Code} {f:FuncId} {vs:List Value} {w:World} {R:Ending->World->Prop} {H:Hp} {S:List World}
theorem nqq(hf:P.funcs[f]? =some fn)(hb:fn.body=some c)(hN:vs.length<=fn.ntmps)(hk:Kn w H S)(h:CW P none fn.ntmps [] c (bodyPost P fn R) (spq 0 vs) H S):Calls P f vs.toArray w R:=
 callsIn_wide.1 (callsIn_of_wp (F:=Fence.wide) (n:=0) hf hb trivial (h.run _ w (suq hN) hk))
end
section
variable {P:Program} {fn:Func} {R:Ending->World->Prop} {H:Hp} {S:List World} {fr:Fr} {N:Nat}
def Zhq(P:Program)(tmps:Array Value)(w:World)(rv:ResultVar)(v:Value):Prop:=
 match rv with
 |.tmp t=>tmps.getD t undef=v
 |.cell p T=>∃a,tmps.getD p undef= .pointer (some a)/\(loadVar T a).run P w= .ok v w
theorem dLq{rv:ResultVar}{v:Value}{tmps:Array Value}{w:World}(h:fn.results= #[rv])(h1:Zhq P tmps w rv v):(results fn tmps).run P w= .ok v w:=by
 cases rv with
 |tmp t=>simp only[Zhq] at h1;simp[results,h];simpa[ZZ] using h1
 | cell p T => obtain⟨a,e1,e2⟩:=h1;have e1':tmps[p]?.getD undef= .pointer (some a):=by simpa[ZZ] using e1
               simp[results,h,e1',asAddr,e2]
def Ysq(tmps:Array Value):ResultVar->Sem Value:=fun
 |.tmp t=>pure (tmps.getD t undef)
 |.cell a t=>do loadVar t (<-asAddr (tmps.getD a undef))
theorem e7q{tmps:Array Value}{w:World}{rv:ResultVar}{v:Value}(h1:Zhq P tmps w rv v):(Ysq tmps rv).run P w= .ok v w:=by
 cases rv with
 |tmp t=>simp only[Zhq] at h1;simp only[Ysq,YB,h1]
 |cell p T=>obtain⟨a,e1,e2⟩:=h1;simp only[Ysq,e1,asAddr,ZL,YB,ZA,e2]
theorem e1q(tmps:Array Value):results fn tmps=(do let vs<-fn.results.mapM (Ysq tmps);pure (if h:vs.size=1 then vs[0] else .tuple vs)):=by
 unfold results Ysq;rfl
def BGq{α β:Type}(R:α->β->Prop):List α->List β->Prop
 |[],[]=>True
 |x::xs,y::ys=>R x y/\BGq R xs ys
 |_,_=>False
theorem dKq{rvs:List ResultVar}{vs:List Value}{tmps:Array Value}{w:World}(h:fn.results=rvs.toArray)(hl:vs.length≠1)(h1:BGq (Zhq P tmps w) rvs vs):(results fn tmps).run P w= .ok (.tuple vs.toArray) w:=by
 rw[e1q,h]
 have key:(rvs.toArray.mapM (Ysq tmps)).run P w= .ok vs.toArray w:=by
  rw[List.mapM_toArray,Sem.run_map]
  have:(rvs.mapM (Ysq tmps)).run P w= .ok vs w:=by
   clear h hl;induction rvs generalizing vs with
   |nil=>cases vs with
    |nil=>simp
    |cons=>exact h1.elim
   |cons rv rvs ih=>cases vs with
    |nil=>exact h1.elim
    |cons v vs=>rw[List.mapM_cons];simp[e7q h1.1,ih h1.2]
  rw[this];rfl
 rw[ZL,key];simp[hl]
end
section
variable {P:Program} {fn:Func} {c:Code} {f:FuncId} {vs:List Value} {fr0:Fr} {w:World} {R:Ending->World->Prop} {H:Hp} {S:List World}
theorem enter(hf:P.funcs[f]? =some fn)(hb:fn.body=some c)(hN:vs.length<=fn.ntmps)(hk:Kn w H S)(hfr:spq 0 vs=fr0){n:Nat}(hn:fn.ntmps=n)(h:CW P none n [] c (bodyPost P fn R) fr0 H S):Calls P f vs.toArray w R:=by
 subst hfr;subst hn;exact nqq hf hb hN hk h
variable {N:Nat} {fr:Fr} {e:Exit} (he:e= .ret\/e= .normal)
include he
end
inductive Cmp where|lss|leq|gtr|geq|eql|neq
abbrev B7q:Cmp->Int->Int->Prop
 |.lss,m,n=>m<n
 |.leq,m,n=>m<=n
 |.gtr,m,n=>n<m
 |.geq,m,n=>n<=m
 |.eql,m,n=>m=n
 |.neq,m,n=>¬m=n
instance(c:Cmp)(m n:Int):Decidable (B7q c m n):=by cases c<;>unfold B7q<;>infer_instance
theorem pxq(r:Option Nat)(n:Nat):(FF r).room n:=λd h=>by rw[vKq] at h;cases h
theorem YPq(r:Option Nat)(P:Program):Machine.fenced P (FF r)=Machine.fenced P Fence.wide:=by cases r<;>rfl
theorem fvq{r:Option Nat}{n:Nat}{P:Program}{f:FuncId}{args:Array Value}{w:World}{R:Ending->World->Prop}(h:CallsIn Fence.wide 0 P f args w R):CallsIn (FF r) n P f args w R:=
 ⟨Qtq r f,λcs _=>by rw[YPq];exact h.2 cs (room_wide _)⟩
theorem e0q{r:Option Nat}{n:Nat}{P:Program}{l:Nat}{f:FuncId}{tmps:Array Value}{assign body:Code}{w:World}{R:Ending->World->Prop}(h:RoundIn (FF r) n P l f tmps assign body w R):RoundIn Fence.wide 0 P l f tmps assign body w R:=
 ⟨trivial,λc cs _=>by have:=h.2 c cs (pxq r _);rwa[YPq] at this⟩
theorem qkq{w:World}{b:Nat}(o':Obj)(hb:b<w.heap.size):Turned b o' w (w.putObj b o'):=
 ⟨rfl,rfl,rfl,by simp[World.putObj],World.putObj_heap_same hb,λk hk=>World.putObj_heap_other hk⟩
@[simp] theorem mxq(G H:Hp):vmq (G++H)=vmq G++vmq H:=by simp[vmq]
@[simp] theorem sJq:vmq []=[]:=rfl
@[simp] theorem rjq(p:Nat×Obj)(H:Hp):vmq (p::H)=p.1::vmq H:=rfl
theorem yeq:∀(vs:List Value) (off:Nat) (w:World) (b:Nat) (cs:Array Value) (t:TypeId),w.heap[b]? =some (.cells cs t) ->off+vs.length<=cs.size->Turned b (.cells (qMq cs off vs.toArray) t) w (w.setCells b off vs)
 |[],off,w,b,cs,t,hb,_=>by
  have e:qMq cs off (#[]:Array Value)=cs:=by simp[qMq]
  exact⟨rfl,rfl,rfl,rfl,by rw[show([]:List Value).toArray= #[] from rfl,e];exact hb,λ_ _=>rfl⟩
 | v ::vs,off,w,b,cs,t,hb,hl=>by
  have t1:=Qkq (off:=off) v hb;have hl':off+1+vs.length<=(cs.setIfInBounds off v).size:=by simp at hl⊢;omega
  have t2:=yeq vs (off+1) (w.setCell ⟨b,off,none⟩ v) b (cs.setIfInBounds off v) t t1.this hl'
  have e:qMq (cs.setIfInBounds off v) (off+1) vs.toArray=qMq cs off (v::vs).toArray:=by
   simp only[Zv] at hl;simp only[qMq];congr 1
   apply List.ext_getElem?;intro i;simp only[Zz,Array.toList_setIfInBounds,YZ,Zu,YL,YI,List.getElem?_set,Array.length_toList,ZX,ZR,Zv];by_cases h1:i<off
   .simp only[show i<min (off+1) cs.size from by omega,show i<min off cs.size from by omega,show i<off+1 from by omega,h1,if_true,show¬off=i from by omega,if_false]
   .by_cases h2:i=off
    .subst h2;simp only[show i<min (i+1) cs.size from by omega,show¬i<min i cs.size from by omega,show i<i+1 from by omega,if_true,if_false,show min i cs.size=i from by omega,Nat.sub_self,Nat.zero_lt_succ,List.getElem?_cons_zero,show i<cs.size from by omega];simp
    .obtain⟨d,rfl⟩:∃d,i=off+1+d:=⟨i-(off+1),by omega⟩
     have m1:min (off+1) cs.size=off+1:=by omega
     have m2:min off cs.size=off:=by omega
     have n1:¬off+1+d<off+1:=by omega
     have n2:¬off+1+d<off:=by omega
     have e1:off+1+d-(off+1)=d:=by omega
     have e2:off+1+d-off=d+1:=by omega
     simp only[m1,m2,n1,n2,if_false,e1,e2,List.getElem?_cons_succ,Nat.add_lt_add_iff_right];by_cases h3:d<vs.length
     .simp only[h3,if_true]
     .simp only[h3,if_false,show¬off=off+1+vs.length+(d-vs.length) from by omega];congr 1;omega
  show Turned b _ w ((w.setCell ⟨b,off,none⟩ v).setCells b (off+1) vs);rw[<-e];exact⟨t2.os.trans t1.os,t2.tape.trans t1.tape,t2.output.trans t1.output,t2.size.trans t1.size,t2.this,λq hq=>(t2.other q hq).trans (t1.other q hq)⟩
def Bxq(x:UInt8):Value:=.int .u8 x.toNat
def bcs(l:List UInt8):List Value:=l.map Bxq
@[simp] theorem sPq(l:List UInt8):(bcs l).length=l.length:=by simp[bcs]
noncomputable def w2q(op:BinOp)(a b:List UInt8):Option V:=match op with
 |.add=>match Nat.ble (a.length+b.length) 9223372036854775807 with
  |true=>some (.str (a++b))
  |false=>none
 |.eql=>some (.bool (kjq a b))
 |.neq=>some (.bool (!kjq a b))
 |.lss=>some (.bool (Op.bytesLess a b))
 |.leq=>some (.bool (Op.bytesLess a b||kjq a b))
 |.gtr=>some (.bool (!(Op.bytesLess a b||kjq a b)))
 |.geq=>some (.bool (!Op.bytesLess a b))
 |_=>none
noncomputable def uDq:V->V->Bool
 |.bool _,.bool _=>true
 |.nilp,.nilp=>true
 |.nilp,.ptr _ _=>true
 |.ptr _ _,.nilp=>true
 |.nils,.nils=>true
 |.nils,.sl _ _ _ _ _ _=>true
 |.sl _ _ _ _ _ _,.nils=>true
 |x,y=>x.isAgg&&y.isAgg
noncomputable def joq(C:Cfg)(op:BinOp)(t:TypeId)(x y:V):Option V:=match x,y with
 |.int k m,.int k' n=>match op with
  |.shl=>shI .shl k m n
  |.shr=>shI .shr k m n
  |_=>match decide (k=k') with
   |true=>w3q op k m n
   |false=>none
 |.str a,.str b=>w2q op a b
 |x,y=>match uDq x y with
  |false=>none
  |true=>match op with
   |.eql=>match eqV C 300 t x y with
    |some b=>some (.bool b)
    |none=>none
   |.neq=>match eqV C 300 t x y with
    |some b=>some (.bool (!b))
    |none=>none
   |_=>none
noncomputable def n9q:V->Option Nat
 |.int _ (.ofNat n)=>some n
 |_=>none
noncomputable def axq(C:Cfg)(fr:Tr V)(d:Nat):Option Operand->Option Nat
 |none=>some d
 |some x=>match evV C fr x with
  |some v=>n9q v
  |none=>none
noncomputable def qNq(l:Nat):Option Nat->Option Nat
 |some c=>some (c-l)
 |none=>none
noncomputable def idq(b base off len esz:Nat)(lim:Option Nat)(l h:Nat):Option Nat->Option V
 |none=>match Nat.ble l h&&Nat.ble h len with
  |true=>some (.sl b (match Nat.beq l 0 with|true=>base|false=>off) (off+l*esz) (h-l) esz (qNq l lim))
  |false=>none
 |some m=>match Nat.ble l h&&Nat.ble h m&&Nat.ble m len&&Nat.ble 1 len with
  |true=>some (.sl b off (off+l*esz) (h-l) esz (some (m-l)))
  |false=>none
noncomputable def vQq(C:Cfg)(t:TypeId)(i:Nat):Option (TypeId×Nat):=match C.ty t with
 |some j=>match j.d with
  |.struct fs=>fs[i]?
  |_=>none
 |none=>none
noncomputable def vWq(C:Cfg)(t:TypeId)(i:Nat):Option (Nat×Nat):=match C.ty t with
 |some j=>match j.d with
  |.struct fs=>match fs[i]? with
   |some (ft,off)=>match C.ty ft with
    |some k=>some (off,k.size)
    |none=>none
   |none=>none
  |.arr _ e=>match C.ty e with
   |some k=>some (i*k.size,k.size)
   |none=>none
  |_=>none
 |none=>none
noncomputable def YNq(C:Cfg)(fr:Tr V)(t:TypeId):V->List (Nat×Operand) ->Option V
 |v,[]=>some v
 |v,(i,x)::l=>match vWq C t i,evV C fr x with
  |some (off,sz),some y=>match Nat.beq y.size sz with
   |true=>match xDq 50 v off y with
    |some v'=>YNq C fr t v' l
    |none=>none
   |false=>none
  |_,_=>none
noncomputable def y1q(C:Cfg)(fr:Tr V)(c:Operand)(x:Operand)(y:Operand):Option V:=match evV C fr c with
 |some (.bool true)=>evV C fr x
 |some (.bool false)=>evV C fr y
 |_=>none
noncomputable def zWq(C:Cfg)(fr:Tr V)(x:Operand)(i:Nat):Option V:=match evV C fr x with
 |some (.tup vs)=>vs[i]?
 |_=>none
noncomputable def zLq(C:Cfg)(fr:Tr V)(x:Operand):Option V:=match evV C fr x with
 |some (.ptr b o)=>some (.ptr b o)
 |some (.sl b base off len esz lim)=>some (.sl b base off len esz lim)
 |some (.fn f a c)=>some (.fn f a c)
 |some (.yield l)=>some (.yield l)
 |_=>none
noncomputable def zUq(C:Cfg)(fr:Tr V)(x:Operand):Option V:=match evV C fr x with
 |some (.bool b)=>some (.bool (!b))
 |_=>none
noncomputable def zVq(C:Cfg)(fr:Tr V)(x:Operand):Option V:=match evV C fr x with
 |some (.int k n)=>some (.int k (k2q k (0-n)))
 |_=>none
noncomputable def zTq(C:Cfg)(fr:Tr V)(x:Operand):Option V:=match evV C fr x with
 |some (.int k n)=>match Akq k n with
  |some c=>some (.int k c)
  |none=>none
 |_=>none
noncomputable def raq(C:Cfg)(op:BinOp)(t:TypeId)(y:Operand)(u v:V):Option V:=match C.ty t,y,v with
 |some j,.const .nilIface,.nili=>match j.d,op,u with
  |.iface,.eql,.nili=>some (.bool true)
  |.iface,.eql,.iface _ _=>some (.bool false)
  |.iface,.neq,.nili=>some (.bool false)
  |.iface,.neq,.iface _ _=>some (.bool true)
  |_,_,_=>none
 |_,_,_=>none
noncomputable def pLq(C:Cfg)(op:BinOp)(t:TypeId)(u v:V):Option V:=match C.ux (2*t),u,v with
 |some (.ptr e),.ptr b o,.ptr b' o'=>match C.ty e,Nat.beq b b',Nat.beq o o' with
  |some _,true,true=>match op with
   |.eql=>some (.bool true)
   |.neq=>some (.bool false)
   |_=>none
  |_,_,_=>none
 |some .fnc,.nilf,.nilf=>match op with
  |.eql=>some (.bool true)
  |.neq=>some (.bool false)
  |_=>none
 |some .fnc,.fn _ _ _,.nilf=>match op with
  |.eql=>some (.bool false)
  |.neq=>some (.bool true)
  |_=>none
 |_,_,_=>none
noncomputable def ymq(C:Cfg)(fr:Tr V)(op:BinOp)(t:TypeId)(x:Operand)(y:Operand):Option V:=match evV C fr x,evV C fr y with
 |some u,some v=>match joq C op t u v with
  |some r=>some r
  |none=>match raq C op t y u v with
   |some r=>some r
   |none=>pLq C op t u v
 |_,_=>none
noncomputable def zQq(C:Cfg)(fr:Tr V)(s:TypeId)(t:TypeId)(x:Operand):Option V:=match C.ty s,C.ty t,evV C fr x with
 |some _,some j,some v=>match j.d,v with
  |.int k,.int _ n=>some (.int k (k2q k n))
  |.str,.str a=>some (.str a)
  |_,_=>none
 |_,_,_=>none
noncomputable def zHq(C:Cfg)(fr:Tr V)(f:FuncId)(a:Array Operand)(c:Array Operand):Option V:=match evL C fr a.toList,evL C fr c.toList with
 |some u,some v=>some (.fn f u v)
 |_,_=>none
noncomputable def yvq(C:Cfg)(fr:Tr V)(t:TypeId)(parts:Array (Nat×Operand)):Option V:=match C.ty t with
 |some j=>match j.agg with
  |true=>YNq C fr t j.zero parts.toList
  |false=>none
 |none=>none
noncomputable def yuq(C:Cfg)(fr:Tr V)(t:TypeId)(x:Operand)(i:Nat):Option V:=match vQq C t i,evV C fr x with
 |some (ft,off),some v=>match C.ty ft,v.isAgg with
  |some k,true=>jHq 50 v off k.size k.agg
  |_,_=>none
 |_,_=>none
noncomputable def zAq(C:Cfg)(fr:Tr V)(t:TypeId)(x:Operand)(i:Nat):Option V:=match vQq C t i,evV C fr x with
 |some (ft,fo),some (.ptr b off)=>match C.ty ft with
  |some k=>match Nat.beq k.size 0 with
   |true=>none
   |false=>some (.ptr b (off+fo))
  |none=>none
 |_,_=>none
noncomputable def zzq(C:Cfg)(fr:Tr V)(t:TypeId)(x:Operand)(y:Operand):Option V:=match C.ty t,evV C fr x,evV C fr y with
 |some j,some v,some u=>match n9q u,j.d,v with
  |some i,.arr n e,.ptr b off=>match C.ty e,Nat.blt i n with
   |some k,true=>some (.ptr b (off+i*k.size))
   |_,_=>none
  |some i,.slice e,.sl b _ off len esz _=>match C.ty e,Nat.blt i len with
   |some k,true=>match Nat.beq k.size esz with
    |true=>some (.ptr b (off+i*esz))
    |false=>none
   |_,_=>none
  |_,_,_=>none
 |_,_,_=>none
noncomputable def ytq(C:Cfg)(fr:Tr V)(t:TypeId)(x:Operand)(y:Operand):Option V:=match C.ty t,evV C fr x,evV C fr y with
 |some j,some v,some u=>match n9q u,j.d,v with
  |some i,.str,.str s=>match s[i]? with
   |some c=>some (.int .u8 (.ofNat c.toNat))
   |none=>none
  |some i,.arr n e,v=>match C.ty e,Nat.blt i n,v.isAgg with
   |some k,true,true=>jHq 50 v (i*k.size) k.size k.agg
   |_,_,_=>none
  |_,_,_=>none
 |_,_,_=>none
noncomputable def ykq(C:Cfg)(fr:Tr V)(t:TypeId)(x:Operand)(lo:Option Operand)(hi:Option Operand)(mx:Option Operand):Option V:=match C.ty t,evV C fr x with
 |some j,some v=>match j.d,v with
  |.slice e,.sl b base off len esz lim=>match C.ty e,axq C fr 0 lo,axq C fr len hi with
   |some k,some l,some h=>match Nat.beq k.size esz with
    |true=>match mx with
     |none=>idq b base off len esz lim l h none
     |some z=>match hi,axq C fr 0 (some z) with
      |some _,some m=>idq b base off len esz lim l h (some m)
      |_,_=>none
    |false=>none
   |_,_,_=>none
  |.slice e,.nils=>match C.ty e,axq C fr 0 lo,axq C fr 0 hi,mx with
   |some _,some 0,some 0,none=>some .nils
   |_,_,_,_=>none
  |.str,.str s=>match axq C fr 0 lo,axq C fr s.length hi,mx with
   |some l,some h,none=>match Nat.ble l h&&Nat.ble h s.length with
    |true=>some (.str ((s.drop l).take (h-l)))
    |false=>none
   |_,_,_=>none
  |_,_=>none
 |_,_=>none
noncomputable def zmq(C:Cfg)(fr:Tr V)(t:TypeId)(x:Operand):Option V:=match C.ty t,evV C fr x with
 |some j,some v=>match j.d with
  |.iface=>none
  |_=>some (.iface t v)
 |_,_=>none
noncomputable def yaq(C:Cfg)(fr:Tr V)(x:Operand)(t:TypeId)(ok:Bool):Option V:=match C.ty t,evV C fr x with
 |some j,some v=>match j.d with
  |.iface=>none
  |_=>match v,ok with
   |.nili,true=>some (.tup [j.zero,.bool false])
   |.iface s u,true=>match Nat.beq s t with
    |true=>some (.tup [u,.bool true])
    |false=>some (.tup [j.zero,.bool false])
   |.iface s u,false=>match Nat.beq s t with
    |true=>some u
    |false=>none
   |_,_=>none
 |_,_=>none
noncomputable def jaq(C:Cfg)(fr:Tr V)(args:Array Operand)(ats:Array TypeId):Option V:=match ats.toList,args.toList with
 |[t],[x]=>match C.ty t,evV C fr x with
  |some j,some v=>match j.d,v with
   |.str,.str s=>some (.int .i64 (.ofNat s.length))
   |.slice _,.sl _ _ _ n _ _=>some (.int .i64 (.ofNat n))
   |.slice _,.nils=>some (.int .i64 0)
   |.arr n _,_=>some (.int .i64 (.ofNat n))
   |_,_=>none
  |_,_=>none
 |_,_=>none
noncomputable def q8q(C:Cfg)(fr:Tr V)(args:Array Operand):Option V:=match args.toList with
 |[x,y]=>match evV C fr x,evV C fr y with
  |some (.int k m),some (.int _ n)=>some (.int k (match ltI n m with|true=>n|false=>m))
  |_,_=>none
 |_=>none
noncomputable def q9q(C:Cfg)(fr:Tr V)(args:Array Operand):Option V:=match args.toList with
 |[x,y]=>match evV C fr x,evV C fr y with
  |some (.int k m),some (.int _ n)=>some (.int k (match ltI m n with|true=>n|false=>m))
  |_,_=>none
 |_=>none
noncomputable def ygq(C:Cfg)(fr:Tr V)(rt:TypeId):Op->Option V
 |.move x=>evV C fr x
 |.assign x=>evV C fr x
 |.pick c x y=>y1q C fr c x y
 |.extract x i=>zWq C fr x i
 |.nilCheck x=>zLq C fr x
 |.unOp .not _ x=>zUq C fr x
 |.unOp .neg _ x=>zVq C fr x
 |.unOp .xor _ x=>zTq C fr x
 |.binOp op t x y _=>ymq C fr op t x y
 |.convert s t x=>zQq C fr s t x
 |.makeFunc (.func f) a c=>zHq C fr f a c
 |.build t parts=>yvq C fr t parts
 |.field t x i=>yuq C fr t x i
 |.fieldAddr t x i=>zAq C fr t x i
 |.indexAddr t x y=>zzq C fr t x y
 |.index t x y=>ytq C fr t x y
 |.slice t x lo hi mx=>ykq C fr t x lo hi mx
 |.makeInterface t x=>zmq C fr t x
 |.typeAssert x _ t ok=>yaq C fr x t ok
 |.call ⟨.builtin .len,args,ats⟩=>jaq C fr args ats
 |.call ⟨.builtin .min,args,_⟩=>q8q C fr args
 |.call ⟨.builtin .max,args,_⟩=>q9q C fr args
 |_=>none
structure FrE(C:Cfg)(D:Nat->Prop)(ρ:Env)(fr:Tr V)(a:Act):Prop extends FrOK C (DD D ρ) ρ fr a
section
variable {P:Program} {C:Cfg} {D:Nat->Prop} {ρ:Env} {fr:Tr V} {a:Act} {w:World}
theorem kbq{v:V}{n:Nat}(h:n9q v=some n):∃k,v= .int k (n:Int):=by
 unfold n9q at h;split at h
 .cases h;exact⟨_,rfl⟩
 .cases h
theorem jyq{b base off len esz:Nat}{lim:Option Nat}(h:InD (DD D ρ) (.sl b base off len esz lim)):len<=z8q ρ b off esz lim:=by
 obtain⟨h1,h2,_,h4⟩:=h;cases lim with
 |some c=>exact h2
 |none=>
  simp only[YU] at h4;simp only[z8q];rw[Nat.le_div_iff_mul_le h1];omega
theorem skq{op:BinOp}{a b:List UInt8}{r:V}(h:w2q op a b=some r){t:TypeId}{x y:Operand}(w:World):
  (do eqGuard op t x y (.string ⟨⟨a⟩⟩) (.string ⟨⟨b⟩⟩);binOp op t (.string ⟨⟨a⟩⟩) (.string ⟨⟨b⟩⟩)).run P w= .ok (aaq ρ r) w:=by
 have e1:∀l:List UInt8,(⟨⟨l⟩⟩:ByteArray).toList=l:=λl=>by rw[ByteArray.toList_eq]
 have e2:∀a b:List UInt8,(a==b)=kjq a b:=λa b=>by rw[uhq,Bool.eq_iff_iff];simp
 have e3:(⟨⟨a⟩⟩++⟨⟨b⟩⟩:ByteArray)=⟨⟨a++b⟩⟩:=by
  apply ByteArray.ext;simp
 unfold w2q at h;cases op<;>simp only at h<;>try (cases h;done)
 case add=>
  split at h
  .rename_i hl;have hl:=Yb hl;cases h
   have h1:¬(((ByteArray.mk ⟨a⟩).size+(ByteArray.mk ⟨b⟩).size:Nat):Int)>IntKind.i64.max:=by
    have:(ByteArray.mk ⟨a⟩).size+(ByteArray.mk ⟨b⟩).size=a.length+b.length:=rfl;rw[this];have:IntKind.i64.max=9223372036854775807:=by decide
    omega
   simp only[eqGuard,binOp,Op.stringOp,ZL,YB,ZA,h1,if_false,e3,aaq];simp
  .cases h
 all_goals
  cases h;simp[eqGuard,binOp,Op.stringOp,e1,e2,aaq]
theorem rHq{f:Nat}{t:TypeId}{u v:V}{b:Bool}(hu:u.isAgg=true)(hv:v.isAgg=true)(h:eqV C (f+1) t u v=some b):∃i,C.ty t=some i/\i.agg=true:=by
 simp only[eqV] at h;split at h
 .cases h
 .rename_i i hi;refine⟨i,hi,?_⟩;unfold TyI.agg;cases u<;>simp[V.isAgg] at hu<;>cases v<;>simp[V.isAgg] at hv<;>(cases hd:i.d<;>simp[hd] at h⊢)
theorem sjq(hC:CfgOK P C){op:BinOp}{t:TypeId}{u v r:V}(h:joq C op t u v=some r){x y:Operand}(w:World):
  (do eqGuard op t x y (aaq ρ u) (aaq ρ v);binOp op t (aaq ρ u) (aaq ρ v)).run P w= .ok (aaq ρ r) w:=by
 unfold joq at h;split at h
 .simp only[aaq];split at h
  .exact nXq w h
  .exact nXq w h
  .split at h
   .rename_i hk;simp only[Z7] at hk;subst hk;exact slq w h
   .cases h
 .simp only[aaq];exact skq h w
 .rename_i hni hns;split at h
  .cases h
  .rename_i hp
   have key:∀b,eqV C 300 t u v=some b->(eqGuard op t x y (aaq ρ u) (aaq ρ v)).run P w= .ok () w/\(op= .eql->(binOp op t (aaq ρ u) (aaq ρ v)).run P w= .ok (.bool b) w)/\(op= .neq->(binOp op t (aaq ρ u) (aaq ρ v)).run P w= .ok (.bool (!b)) w):=λb hb=>by
    have he:(Op.equal t (aaq ρ u) (aaq ρ v)).run P w= .ok b w:=vtq hC 300 t u v b hb Op.maxDepth Xg w;unfold uDq at hp;split at hp
    .simp only[aaq,yjq] at he⊢;refine⟨by unfold eqGuard;cases op<;>simp,λe=>?_,λe=>?_⟩<;>(subst e;simp[binOp,he])
    .simp only[aaq,yjq] at he⊢;refine⟨by unfold eqGuard;cases op<;>simp,λe=>?_,λe=>?_⟩<;>(subst e;simp[binOp,he])
    .simp only[aaq,yjq] at he⊢;refine⟨by unfold eqGuard;cases op<;>simp,λe=>?_,λe=>?_⟩<;>(subst e;simp[binOp,he])
    .simp only[aaq] at he⊢;refine⟨by unfold eqGuard;cases op<;>simp,λe=>?_,λe=>?_⟩<;>(subst e;simp[binOp,he])
    .simp only[aaq] at he⊢;refine⟨by unfold eqGuard;cases op<;>simp,λe=>?_,λe=>?_⟩<;>(subst e;simp[binOp,he])
    .simp only[aaq] at he⊢;refine⟨by unfold eqGuard;cases op<;>simp,λe=>?_,λe=>?_⟩<;>(subst e;simp[binOp,he])
    .simp only[aaq] at he⊢;refine⟨by unfold eqGuard;cases op<;>simp,λe=>?_,λe=>?_⟩<;>(subst e;simp[binOp,he])
    .simp only[Zb] at hp;rw[qzq hp.1,qzq hp.2] at he⊢
     have hg:P.eqGuardType P.depth t=false:=by
      obtain⟨i,hi,ha⟩:=rHq hp.1 hp.2 hb;exact(hC.ty t i hi).eqg ha
     refine⟨c9q hg w,λe=>?_,λe=>?_⟩<;>(subst e;simp[binOp,he])
   split at h
   .split at h
    .rename_i b hb;cases h;obtain⟨k1,k2,_⟩:=key b hb;rw[ZL,k1,ZA,k2 rfl];simp[aaq]
    .cases h
   .split at h
    .rename_i b hb;cases h;obtain⟨k1,_,k2⟩:=key b hb;rw[ZL,k1,ZA,k2 rfl];simp[aaq]
    .cases h
   .cases h
theorem lCq{c vs:List Value}{off:Nat}{v:Value}(h:off<c.length):spl (c.set off v) (off+1) vs=spl c off (v::vs):=by
 have e1:(c.set off v).take (off+1)=c.take off++[v]:=by
  rw[YF,List.take_set_of_le (Zc _),List.getElem?_set_self h];rfl
 have e2:(c.set off v).drop (off+1+vs.length)=c.drop (off+(v::vs).length):=by
  rw[List.drop_set_of_lt Xd];congr 1
  simp only[Zv];omega
 simp only[spl,e1,e2,Zz,List.singleton_append]
theorem J1q:∀(vs:List Value) (off j:Nat) (cs:Array Value),off+j+vs.length<=cs.size->
  (vs.zipIdx j).foldl (λcs (p:Value×Nat)=>cs.setIfInBounds (off+p.2) p.1) cs=(spl cs.toList (off+j) vs).toArray
 |[],off,j,cs,_=>by simp[spl]
 |v::vs,off,j,cs,h=>by
  simp only[Zv] at h;rw[List.zipIdx_cons,List.foldl_cons,J1q vs off (j+1) _ Xo];simp only[Array.toList_setIfInBounds];rw[show off+(j+1)=off+j+1 by omega,lCq Xo]
theorem QWq{place:Nat->Option (Nat×Nat)}(hfr:FrE C D ρ fr a){t:TypeId}(hp:∀i off sz,vWq C t i=some (off,sz) ->place i=some (off,sz)):∀(parts:List (Nat×Operand)) (v v':V),YNq C fr t v parts=some v'->InD (DD D ρ) v->
  Instr.fill place (cellsV ρ v).toArray (parts.map λp=>(p.1,a.eval p.2))=some (cellsV ρ v').toArray/\InD (DD D ρ) v'/\v'.isAgg=v.isAgg/\v'.size=v.size
 |[],v,v',h,hv=>by simp only[YNq,Zk] at h;subst h;exact⟨rfl,hv,rfl,rfl⟩
 | (i,x)::l,v,v',h,hv=>by
  simp only[YNq] at h;split at h
  .rename_i off sz y hpl hx;split at h
   .rename_i hsz;rw[ZE] at hsz;split at h
    .rename_i v1 hput;obtain⟨e1,e2⟩:=hfr.ev hx;obtain⟨k1,k2,k3,k4,k5,k6⟩:=udq (ρ:=ρ) 50 v off y v1 hput;obtain⟨g1,g2,g3,g4⟩:=QWq hfr hp l v1 v' h (ZMq hput hv e2);refine⟨?_,g2,g3.trans k4,g4.trans k1⟩;have hcells:(aaq ρ y).cells=(cellsV ρ y).toArray:=quq k6;simp only[ZC,Instr.fill,hp i off sz hpl,e1,hcells]
     have hn:¬((cellsV ρ y).toArray.size≠sz||decide (off+(cellsV ρ y).toArray.size>(cellsV ρ v).toArray.size))=true:=by
      simp[hsz];omega
     rw[Zg hn]
     have hz:(cellsV ρ y).toArray.zipIdx.foldl (λcs (p:Value×Nat)=>cs.setIfInBounds (off+p.2) p.1) (cellsV ρ v).toArray=(cellsV ρ v1).toArray:=by
      have:=J1q (cellsV ρ y) off 0 (cellsV ρ v).toArray Xo;rw[k3,<-Array.foldl_toList];simpa using this
     rw[hz];exact g1
    .cases h
   .cases h
  .cases h
theorem guq(hC:CfgOK P C)(hfr:FrE C D ρ fr a){t:TypeId}{j:TyI}{parts:Array (Nat×Operand)}{v:V}(hj:C.ty t=some j)(ha:j.agg=true)(h:YNq C fr t j.zero parts.toList=some v)(w:World):
  (Instr.build t (parts.map λ(p:Nat×Operand)=>(p.1,a.eval p.2))).run P w= .ok (aaq ρ v) w/\InD (DD D ρ) v:=by
 have ok:=hC.ty t j hj;obtain⟨inf,hin,hsz,hby,hz⟩:=ok.info;have hzero:(zeroValue t).run P w= .ok (aaq ρ j.zero) w:=y5q (ok.zero ρ) w;have hzin:InD (DD D ρ) j.zero:=ok.zin.mono λ_ _ h=>h.elim
 have hd:=ok.d;have hza:j.zero.isAgg=true:=by rw[ok.zagg];exact ha
 have hzc:(aaq ρ j.zero).cells=(cellsV ρ j.zero).toArray:=quq (.inr hza);have hlist:(parts.map λ(p:Nat×Operand)=>(p.1,a.eval p.2)).toList=parts.toList.map λp=>(p.1,a.eval p.2):=by simp
 have fin:∀place:Nat->Option (Nat×Nat),(∀i off sz,vWq C t i=some (off,sz) ->place i=some (off,sz)) ->
   Instr.fill place (aaq ρ j.zero).cells (parts.map λ(p:Nat×Operand)=>(p.1,a.eval p.2)).toList=some (cellsV ρ v).toArray/\InD (DD D ρ) v/\aaq ρ v= .agg (cellsV ρ v).toArray:=λplace hp=>by
  obtain⟨g1,g2,g3,_⟩:=QWq hfr hp parts.toList j.zero v h hzin;refine⟨by rw[hlist,hzc];exact g1,g2,qzq (by rw[g3];exact hza)⟩
 unfold TyI.agg at ha;split at ha
 .rename_i n e he;rw[he] at hd;obtain⟨hd,hie⟩:=hd;obtain⟨ie,hie⟩:=Option.isSome_iff_exists.1 hie;have hse:(sizeOf e).run P w= .ok ie.size w:=uyq (by simp[hie]) w
  obtain⟨g1,g2,g3⟩:=fin (λi=>some (i*ie.size,ie.size)) λi off sz hpl=>by
   simp only[vWq,hj,he] at hpl;split at hpl
   .rename_i k hk;obtain⟨inf',hin',hsz',_⟩:=(hC.ty e k hk).info;rw[hie] at hin';cases hin';cases hpl;rw[hsz']
   .cases hpl
  refine⟨?_,g2⟩;simp only[Instr.build,ZL,hzero,ZA,Zy hd,hse,g1,YB,g3]
 .rename_i fs he;rw[he] at hd;obtain⟨h1,h2,h3,h4,h5⟩:=hd
  have hpl:∃places:Array (Nat×Nat),((P.fieldsOf t).mapM λ(f:Field)=>(do pure (f.offset,<-sizeOf f.type):Sem (Nat×Nat))).run P w= .ok places w/\∀(i:Nat) f (k:Nat),(P.fieldsOf t)[i]? =some f->(P.info? f.type).map (·.size)=some k->places[i]? =some (f.offset,k):=by
   rw[Array.all_toList,Array.all_eq_true_iff_forall_mem] at h5
   have key:∀L:List Field,(∀f∈L,(P.info? f.type).isSome=true) ->∃ps:List (Nat×Nat),(L.mapM λ(f:Field)=>(do pure (f.offset,<-sizeOf f.type):Sem (Nat×Nat))).run P w= .ok ps w/\∀(i:Nat) f (k:Nat),L[i]? =some f->(P.info? f.type).map (·.size)=some k->ps[i]? =some (f.offset,k):=by
    intro L;induction L with
    |nil=>intro _;exact⟨[],by simp,by simp⟩
    |cons f L ih=>
     intro hL;obtain⟨ps,q1,q2⟩:=ih λg hg=>hL g (by simp[hg])
     obtain⟨inf',hin'⟩:=Option.isSome_iff_exists.1 (hL f Xi);have hs':(sizeOf f.type).run P w= .ok inf'.size w:=uyq (by simp[hin']) w;refine⟨(f.offset,inf'.size)::ps,?_,?_⟩
     .rw[List.mapM_cons];simp only[ZL,hs',ZA,YB,q1]
     .intro i g k hg hk;cases i with
      |zero=>simp at hg;subst hg;simp[hin'] at hk;simp[hk]
      |succ i=>simp at hg;simpa using q2 i g k hg hk
   obtain⟨ps,q1,q2⟩:=key (P.fieldsOf t).toList λf hf=>h5 f Ja
   refine⟨ps.toArray,?_,λi f k hf hk=>by simpa using q2 i f k Ja hk⟩;rw[show P.fieldsOf t=(P.fieldsOf t).toList.toArray by simp,List.mapM_toArray,Sem.run_map,q1];rfl
  obtain⟨places,q1,q2⟩:=hpl
  obtain⟨g1,g2,g3⟩:=fin (λi=>places[i]?) λi off sz hpl=>by
   simp only[vWq,hj,he] at hpl;split at hpl
   .rename_i ft off' hfs;split at hpl
    .rename_i k hk;obtain⟨inf',hin',hsz',_⟩:=(hC.ty ft k hk).info;cases hpl;rw[<-h2] at hfs;simp only[ZY,Option.map_eq_some_iff,ZQ] at hfs;obtain⟨F,hF,e1,e2⟩:=hfs;rw[q2 i F k.size (by simpa using hF) (by rw[e1,hin'];simp[hsz']),e2]
    .cases hpl
   .cases hpl
  refine⟨?_,g2⟩;simp only[Instr.build,ZL,hzero,ZA,Zy h1,q1,g1,YB,g3]
 .cases ha
theorem Zfq(hC:CfgOK P C){t:TypeId}{i:Nat}{ft off:Nat}(h:vQq C t i=some (ft,off)):∃F,P.underlying t=some (.struct (P.fieldsOf t))/\(P.fieldsOf t)[i]? =some F/\F.type=ft/\F.offset=off:=by
 unfold vQq at h;split at h
 .rename_i j hj;split at h
  .rename_i fs he;have hd:=(hC.ty t j hj).d;rw[he] at hd;obtain⟨h1,h2,_⟩:=hd;rw[<-h2] at h;simp only[ZY,Option.map_eq_some_iff,ZQ] at h;obtain⟨F,hF,e1,e2⟩:=h;exact⟨F,h1,by simpa using hF,e1,e2⟩
  .cases h
 .cases h
theorem pgq(s:List UInt8)(i:Nat):(⟨⟨s⟩⟩:ByteArray)[i]? =s[i]? :=by
 simp only[getElem?,decidableGetElem?];split
 .rename_i h;have h':i<s.length:=h;rw[List.get?Internal_eq_getElem?];simp[Za h'];rfl
 .rename_i h;have h':¬i<s.length:=h;rw[List.get?Internal_eq_getElem?];simp[List.getElem?_eq_none (Nat.le_of_not_lt h')]
theorem Z5q(s:List UInt8)(l h:Nat):(⟨⟨s⟩⟩:ByteArray).extract l h=⟨⟨(s.drop l).take (h-l)⟩⟩:=by
 apply ByteArray.ext;apply Array.ext';rw[ByteArray.data_extract];simp[List.extract]
theorem vDq(hfr:FrE C D ρ fr a){d n:Nat}{x:Option Operand}(h:axq C fr d x=some n):(x=none/\n=d)\/∃y k,x=some y/\a.eval y= .int k (n:Int):=by
 cases x with
 |none=>simp[axq] at h;exact .inl ⟨rfl,h.symm⟩
 |some y=>
  simp only[axq] at h;split at h
  .rename_i v hv;obtain⟨k,rfl⟩:=kbq h;exact .inr ⟨y,k,rfl,by rw[(hfr.ev hv).1];simp[aaq]⟩
  .cases h
theorem jYq{k:IntKind}{n y:Nat}{c:BoundsCode}(h:n<=y)(w:World):(Instr.sliceBound (.int k (n:Int)) y c).run P w= .ok n w:=by
 have:(0:Int)<=(n:Int)/\(n:Int)<=(y:Int):=by omega
 simp[Instr.sliceBound,asIntOf,this.2]
theorem xZq(hfr:FrE C D ρ fr a){isSl:Bool}{len cap l h:Nat}{lo hi:Option Operand}(hl:axq C fr 0 lo=some l)(hh:axq C fr len hi=some h)(h1:l<=h)(h2:h<=cap)(w:World):
  (Instr.sliceBounds isSl len cap (lo.map a.eval) (hi.map a.eval) none).run P w= .ok (l,h,cap) w:=by
 rcases vDq hfr hl with ⟨rfl,rfl⟩|⟨y,k,rfl,e1⟩<;>rcases vDq hfr hh with ⟨rfl,rfl⟩|⟨z,k',rfl,e2⟩
 .simp[Instr.sliceBounds]
 .simp[Instr.sliceBounds,e2,jYq h2]
 .simp[Instr.sliceBounds,e1,jYq h1]
 .simp[Instr.sliceBounds,e1,e2,jYq h1,jYq h2]
theorem fxq(hfr:FrE C D ρ fr a){isSl:Bool}{len cap l h m d:Nat}{lo:Option Operand}{hi mx:Operand}(hl:axq C fr 0 lo=some l)(hh:axq C fr d (some hi)=some h)(hm:axq C fr 0 (some mx)=some m)(h1:l<=h)(h2:h<=m)(h3:m<=cap)(w:World):
  (Instr.sliceBounds isSl len cap (lo.map a.eval) (some (a.eval hi)) (some (a.eval mx))).run P w= .ok (l,h,m) w:=by
 rcases vDq hfr hh with ⟨h0,_⟩|⟨z,k',e,e2⟩
 .cases h0
 cases e;rcases vDq hfr hm with ⟨h0,_⟩|⟨z',k'',e,e3⟩
 .cases h0
 cases e;rcases vDq hfr hl with ⟨rfl,rfl⟩|⟨y,k,rfl,e1⟩
 .simp[Instr.sliceBounds,e2,e3,jYq h2,jYq h3]
 .simp[Instr.sliceBounds,e1,e2,e3,jYq h1,jYq h2,jYq h3]
theorem TyOK.und{t:TypeId}{i:TyI}(h:TyOK P t i):∃d,P.underlying t=some d:=by
 have hd:=h.d;cases he:i.d<;>rw[he] at hd<;>simp only[TyD.Is] at hd
 case arr=>exact⟨_,hd.1⟩
 case struct=>exact⟨_,hd.1⟩
 case iface=>obtain⟨ms,hd⟩:=hd;exact⟨_,hd⟩
 case other=>
  cases hu:P.underlying t with
  |none=>simp[hu] at hd
  |some x=>exact⟨x,rfl⟩
 all_goals exact⟨_,hd⟩
theorem TyOK.concrete{t:TypeId}{i:TyI}(h:TyOK P t i)(hn:i.d≠ .iface):P.concrete t=true:=by
 have hd:=h.d;unfold Program.concrete;cases he:i.d<;>rw[he] at hd hn<;>simp only[TyD.Is] at hd
 case arr=>rw[hd.1]
 case struct=>rw[hd.1]
 case iface=>exact absurd rfl hn
 case other=>
  cases hu:P.underlying t with
  |none=>simp[hu] at hd
  |some x=>cases x<;>simp[hu] at hd<;>rfl
 all_goals rw[hd]
theorem lYq(hC:CfgOK P C){op:BinOp}{t:TypeId}{u v r:V}(h:pLq C op t u v=some r){x y:Operand}(w:World):
  (do eqGuard op t x y (aaq ρ u) (aaq ρ v);binOp op t (aaq ρ u) (aaq ρ v)).run P w= .ok (aaq ρ r) w/\∀D,InD D r:=by
 unfold pLq at h;split at h
 .rename_i e b o b' o' hu;have hp:=hC.ptr t e hu;split at h
  .rename_i k hk hb ho;have hb:=Zh hb;have ho:=Zh ho;subst hb ho;obtain⟨inf,hi,_⟩:=(hC.ty e k hk).info
   have key:∀d a,(Op.equalIn (d+1) t (.pointer (some a)) (.pointer (some a))).run P w= .ok true w:=λd a=>by
    simp[Op.equalIn,Zy hp,sizeOf,typeInfo,hi,sameAddr]
   have k2:(Op.equal t (aaq ρ (.ptr b o)) (aaq ρ (.ptr b o))).run P w= .ok true w:=by
    simp only[aaq];exact key 9999 _
   split at h
   .cases h;refine⟨?_,λ_=>trivial⟩;simp only[aaq] at k2⊢;simp[eqGuard,binOp,k2]
   .cases h;refine⟨?_,λ_=>trivial⟩;simp only[aaq] at k2⊢;simp[eqGuard,binOp,k2]
   .cases h
  .cases h
 .rename_i hu;obtain⟨ps,rs,vr,hp⟩:=hC.fnc t hu;have key:∀d,(Op.equalIn (d+1) t .nilFunc .nilFunc).run P w= .ok true w:=λd=>by simp[Op.equalIn,Zy hp]
  have k2:(Op.equal t .nilFunc .nilFunc).run P w= .ok true w:=key 9999;split at h
  .cases h;refine⟨?_,λ_=>trivial⟩;simp[aaq,eqGuard,binOp,k2]
  .cases h;refine⟨?_,λ_=>trivial⟩;simp[aaq,eqGuard,binOp,k2]
  .cases h
 .rename_i f fi ca hu;obtain⟨ps,rs,vr,hp⟩:=hC.fnc t hu;have key:∀d g x y,(Op.equalIn (d+1) t (.func g x y) .nilFunc).run P w= .ok false w:=λd g x y=>by simp[Op.equalIn,Zy hp]
  have k2:∀g x y,(Op.equal t (.func g x y) .nilFunc).run P w= .ok false w:=key 9999
  split at h
  .cases h;refine⟨?_,λ_=>trivial⟩;simp[aaq,eqGuard,binOp,k2]
  .cases h;refine⟨?_,λ_=>trivial⟩;simp[aaq,eqGuard,binOp,k2]
  .cases h
 .cases h
theorem mmq(hC:CfgOK P C){op:BinOp}{t:TypeId}{y:Operand}{u v r:V}(h:raq C op t y u v=some r){x:Operand}(w:World):
  y= .const .nilIface/\(do eqGuard op t x y (aaq ρ u) .nilIface;binOp op t (aaq ρ u) .nilIface).run P w= .ok (aaq ρ r) w/\∀D,InD D r:=by
 unfold raq at h;split at h
 .rename_i j hj
  have e1:∀ms,P.underlying t=some (.interface ms) ->(Op.equal t .nilIface .nilIface).run P w= .ok true w:=λms hu=>by
   have key:∀d,(Op.equalIn (d+1) t .nilIface .nilIface).run P w= .ok true w:=λd=>by unfold Op.equalIn;simp[Zy hu]
   exact key 9999
  have e2:∀ms s z,P.underlying t=some (.interface ms) ->(Op.equal t (.iface s z) .nilIface).run P w= .ok false w:=λms s z hu=>by
   have key:∀d,(Op.equalIn (d+1) t (.iface s z) .nilIface).run P w= .ok false w:=λd=>by unfold Op.equalIn;simp[Zy hu]
   exact key 9999
  have hd':=(hC.ty t j hj).d;refine⟨rfl,?_⟩;split at h
  .rename_i hd;cases h;rw[hd] at hd';obtain⟨ms,hu⟩:=hd';exact⟨by simp only[aaq,eqGuard,binOp,ZL,YB,ZA];simp[e1 ms hu],λ_=>trivial⟩
  .rename_i s z hd;cases h;rw[hd] at hd';obtain⟨ms,hu⟩:=hd';exact⟨by simp only[aaq,eqGuard,binOp,ZL,YB,ZA];simp[e2 ms _ _ hu],λ_=>trivial⟩
  .rename_i hd;cases h;rw[hd] at hd';obtain⟨ms,hu⟩:=hd';exact⟨by simp only[aaq,eqGuard,binOp,ZL,YB,ZA];simp[e1 ms hu],λ_=>trivial⟩
  .rename_i s z hd;cases h;rw[hd] at hd';obtain⟨ms,hu⟩:=hd';exact⟨by simp only[aaq,eqGuard,binOp,ZL,YB,ZA];simp[e2 ms _ _ hu],λ_=>trivial⟩
  .cases h
 .cases h
theorem boq(hC:CfgOK P C){t:TypeId}{k:TyI}(hk:C.ty t=some k){v x:V}{off:Nat}(hg:jHq 50 v off k.size k.agg=some x)(w:World):(part t (cellsV ρ v).toArray off).run P w= .ok (aaq ρ x) w:=(hC.ty t k hk).part hg w
theorem QIq(hC:CfgOK P C)(hfr:FrE C D ρ fr a){o:Oper}{v:V}(h:ygq C fr o.type o.op=some v)(w:World):(execOp a.eval o).run P w= .ok (.value (aaq ρ v)) w/\InD (DD D ρ) v:=by
 obtain⟨dst,op,ty,pos,aft,g⟩:=o;simp only at h;cases op<;>try (simp[ygq,y1q,zWq,zLq,zUq,zVq,zTq,ymq,zQq,zHq,yvq,yuq,zAq,zzq,ytq,ykq,zmq,yaq,jaq,q8q,q9q] at h;done)
 case move x=>obtain⟨e,i⟩:=hfr.ev h;exact⟨by simp[execOp,e],i⟩
 case assign x=>obtain⟨e,i⟩:=hfr.ev h;exact⟨by simp[execOp,e],i⟩
 case pick c x y=>
  simp only[ygq,y1q,zWq,zLq,zUq,zVq,zTq,ymq,zQq,zHq,yvq,yuq,zAq,zzq,ytq,ykq,zmq,yaq,jaq,q8q,q9q] at h;split at h
  .rename_i hc;obtain⟨e,i⟩:=hfr.ev h;have ec:=(hfr.ev hc).1;exact⟨by simp[execOp,e,ec,aaq,asBool],i⟩
  .rename_i hc;obtain⟨e,i⟩:=hfr.ev h;have ec:=(hfr.ev hc).1;exact⟨by simp[execOp,e,ec,aaq,asBool],i⟩
  .cases h
 case extract x i=>
  simp only[ygq,y1q,zWq,zLq,zUq,zVq,zTq,ymq,zQq,zHq,yvq,yuq,zAq,zzq,ytq,ykq,zmq,yaq,jaq,q8q,q9q] at h;split at h
  .rename_i vs hx;obtain⟨e,hi⟩:=hfr.ev hx;refine⟨?_,InDL.at_ (show InDL (DD D ρ) vs from hi) h⟩;simp[execOp,e,aaq,Instr.extract,kxq,h]
  .cases h
 case nilCheck x=>
  simp only[ygq,y1q,zWq,zLq,zUq,zVq,zTq,ymq,zQq,zHq,yvq,yuq,zAq,zzq,ytq,ykq,zmq,yaq,jaq,q8q,q9q] at h;split at h<;>try (cases h;done)
  all_goals
   rename_i hx;obtain⟨e,hi⟩:=hfr.ev hx;cases h;exact⟨by simp[execOp,e,aaq,yjq],hi⟩
 case typeAssert x xt t ok=>
  simp only[ygq,yaq] at h;split at h
  .rename_i j u hj hx;obtain⟨e,hi⟩:=hfr.ev hx;have hz:=y5q (P:=P) ((hC.ty t j hj).zero ρ);have zin:InD (DD D ρ) j.zero:=(hC.ty t j hj).zin.mono λ_ _ h=>h.elim
   obtain⟨d,hd⟩:=(hC.ty t j hj).und;split at h
   .cases h
   .rename_i hni;have hcon:=(hC.ty t j hj).concrete (λe'=>hni e')
    have hnd:∀ms,d≠ .interface ms:=λms e'=>by
     unfold Program.concrete at hcon;rw[hd,e'] at hcon;cases hcon
    split at h
    .cases h;refine⟨?_,zin,trivial,trivial⟩;cases d<;>first|exact absurd rfl (hnd _)|simp[execOp,e,aaq,zMq,Instr.typeAssert,Zy hd,hz]
    .rename_i s u;split at h
     .rename_i hs;rw[ZE] at hs;subst hs;cases h;refine⟨?_,hi,trivial,trivial⟩;cases d<;>first|exact absurd rfl (hnd _)|simp[execOp,e,aaq,zMq,Instr.typeAssert,Zy hd]
     .rename_i hs;have hs:¬s=t:=λe'=>by rw[Qsq e'] at hs;cases hs
      cases h;refine⟨?_,zin,trivial,trivial⟩;cases d<;>first|exact absurd rfl (hnd _)|simp[execOp,e,aaq,zMq,Instr.typeAssert,Zy hd,hz,hs]
    .rename_i s u;split at h
     .rename_i hs;rw[ZE] at hs;subst hs;cases h;refine⟨?_,hi⟩;cases d<;>first|exact absurd rfl (hnd _)|simp[execOp,e,aaq,Instr.typeAssert,Zy hd]
     .cases h
    .cases h
  .cases h
 case unOp u t x=>
  cases u<;>simp only[ygq,y1q,zWq,zLq,zUq,zVq,zTq,ymq,zQq,zHq,yvq,yuq,zAq,zzq,ytq,ykq,zmq,yaq,jaq,q8q,q9q] at h<;>try (cases h;done)
  .split at h
   .rename_i k n hx;cases h;exact⟨by simp[execOp,(hfr.ev hx).1,aaq,Op.unary,Op.intArith,k1q],trivial⟩
   .cases h
  .split at h
   .rename_i k n hx;split at h
    .rename_i c hc;cases h;exact⟨by simp only[execOp,(hfr.ev hx).1,aaq,ZL,p8q hc];rfl,trivial⟩
    .cases h
   .cases h
  .split at h
   .rename_i b hx;cases h;exact⟨by simp[execOp,(hfr.ev hx).1,aaq,Op.unary],trivial⟩
   .cases h
 case binOp op t x y t2=>
  simp only[ygq,y1q,zWq,zLq,zUq,zVq,zTq,ymq,zQq,zHq,yvq,yuq,zAq,zzq,ytq,ykq,zmq,yaq,jaq,q8q,q9q] at h;split at h
  .rename_i u v' hx hy;split at h
   case h_2=>
    split at h
    .rename_i r' hn;cases h;obtain⟨rfl,k1,k2⟩:=mmq (ρ:=ρ) hC hn (x:=x) w;refine⟨?_,k2 _⟩;simp only[execOp,(hfr.ev hx).1,show a.eval (.const .nilIface)= .nilIface from rfl];rw[ZL,k1];rfl
    .obtain⟨k1,k2⟩:=lYq (ρ:=ρ) hC h (x:=x) (y:=y) w;refine⟨?_,k2 _⟩;simp only[execOp,(hfr.ev hx).1,(hfr.ev hy).1];rw[ZL,k1];rfl
   rename_i rr hbv;cases h;have h:=hbv;clear hbv;have key:=sjq (ρ:=ρ) hC h (x:=x) (y:=y) w;refine⟨?_,?_⟩
   .simp only[execOp,(hfr.ev hx).1,(hfr.ev hy).1];rw[ZL,key];rfl
   .unfold joq at h;split at h
    .split at h
     .unfold shI at h;split at h<;>first|(split at h<;>first|(cases h;trivial)|cases h)|cases h
     .unfold shI at h;split at h<;>first|(split at h<;>first|(cases h;trivial)|cases h)|cases h
     .split at h
      .unfold w3q at h;split at h<;>first|(cases h;trivial)|(split at h<;>first|(cases h;trivial)|cases h)|cases h
      .cases h
    .unfold w2q at h;split at h<;>first|(cases h;trivial)|(split at h<;>first|(cases h;trivial)|cases h)|cases h
    .split at h
     .cases h
     .split at h<;>first|(split at h<;>first|(cases h;trivial)|cases h)|cases h
  .cases h
 case convert s t x=>
  simp only[ygq,y1q,zWq,zLq,zUq,zVq,zTq,ymq,zQq,zHq,yvq,yuq,zAq,zzq,ytq,ykq,zmq,yaq,jaq,q8q,q9q] at h;split at h
  .rename_i js jt u hs ht hx;obtain⟨ds,hus⟩:=(hC.ty s js hs).und;have hd:=(hC.ty t jt ht).d;obtain⟨e,hi⟩:=hfr.ev hx;split at h
   .rename_i k k' n he;rw[he] at hd;have hd:P.underlying t=some (.int k):=hd;cases h;refine⟨?_,trivial⟩;simp only[execOp,e,aaq,convert,ZL,Zy hus,Zy hd,ZA];cases ds<;>simp[Conv.intToInt,k1q]
   .rename_i b he;rw[he] at hd;have hd:P.underlying t=some .string:=hd;cases h;refine⟨?_,trivial⟩;simp only[execOp,e,aaq,convert,ZL,Zy hus,Zy hd,ZA];cases ds<;>simp
   .cases h
  .cases h
 case makeFunc fn fi ca=>
  cases fn<;>simp only[ygq,y1q,zWq,zLq,zUq,zVq,zTq,ymq,zQq,zHq,yvq,yuq,zAq,zzq,ytq,ykq,zmq,yaq,jaq,q8q,q9q] at h<;>try (cases h;done)
  split at h
  .rename_i u v' hu hv;cases h;obtain⟨e1,i1⟩:=hfr.evs hu;obtain⟨e2,i2⟩:=hfr.evs hv;have e1':fi.map a.eval=(zMq ρ u).toArray:=by apply YA.1;simpa using e1
   have e2':ca.map a.eval=(zMq ρ v').toArray:=by apply YA.1;simpa using e2
   exact⟨by simp[execOp,Instr.makeFunc,e1',e2',aaq],i1,i2⟩
  .cases h
 case build t parts=>
  simp only[ygq,y1q,zWq,zLq,zUq,zVq,zTq,ymq,zQq,zHq,yvq,yuq,zAq,zzq,ytq,ykq,zmq,yaq,jaq,q8q,q9q] at h;split at h
  .rename_i j hj;split at h
   .rename_i ha;obtain⟨k1,k2⟩:=guq hC hfr hj ha h w;refine⟨?_,k2⟩;simp only[execOp];rw[ZL,k1];rfl
   .cases h
  .cases h
 case field t x i=>
  simp only[ygq,y1q,zWq,zLq,zUq,zVq,zTq,ymq,zQq,zHq,yvq,yuq,zAq,zzq,ytq,ykq,zmq,yaq,jaq,q8q,q9q] at h;split at h
  .rename_i ft off u hs hx;split at h
   .rename_i k hk ha;obtain⟨F,h1,h2,rfl,rfl⟩:=Zfq hC hs;obtain⟨e,hi⟩:=hfr.ev hx;have hp:=boq (ρ:=ρ) hC hk h w;refine⟨?_,J0q h hi⟩;rw[qzq ha] at e;simp[execOp,e,Instr.field,Zy h1,h2,asAgg,hp]
   .cases h
  .cases h
 case fieldAddr t x i=>
  simp only[ygq,y1q,zWq,zLq,zUq,zVq,zTq,ymq,zQq,zHq,yvq,yuq,zAq,zzq,ytq,ykq,zmq,yaq,jaq,q8q,q9q] at h;split at h
  .rename_i ft fo b off hs hx;split at h
   .rename_i k hk;split at h
    .cases h
    .rename_i hz;cases h;obtain⟨F,h1,h2,rfl,rfl⟩:=Zfq hC hs;obtain⟨e,hi⟩:=hfr.ev hx;have hsz:=(hC.ty _ k hk).sizeOf w;have hz':k.size≠0:=λe=>by rw[Qsq e] at hz;cases hz
     refine⟨?_,hi⟩;simp[execOp,e,aaq,Instr.fieldAt,Zy h1,h2,Instr.sureAddr,fieldPlace,hsz,hz',jCq,ZK]
   .cases h
  .cases h
 case indexAddr t x y=>
  simp only[ygq,y1q,zWq,zLq,zUq,zVq,zTq,ymq,zQq,zHq,yvq,yuq,zAq,zzq,ytq,ykq,zmq,yaq,jaq,q8q,q9q] at h;split at h
  .rename_i j u z hj hx hy;have hd:=(hC.ty t j hj).d;obtain⟨e1,i1⟩:=hfr.ev hx;obtain⟨e2,_⟩:=hfr.ev hy;split at h
   .rename_i i n e b off hn he;obtain⟨k',rfl⟩:=kbq hn;split at h
    .rename_i k hk hlt;cases h;rw[he] at hd;have hlt':i<n:=by rwa[YQ] at hlt
     refine⟨?_,i1⟩;simp[execOp,e1,e2,aaq,Instr.indexAt,Zy hd.1,asIntOf,hlt',(hC.ty e k hk).sizeOf w,Instr.sureAddr,jCq,ZK]
    .cases h
   .rename_i i e b base off len esz lim hn he;obtain⟨k',rfl⟩:=kbq hn;split at h
    .rename_i k hk hlt;split at h
     .rename_i hes;rw[ZE] at hes;cases h;rw[he] at hd;have hd:P.underlying t=some (.slice e):=hd;have hlt':i<len:=by rwa[YQ] at hlt
      have hc:=jyq i1;have hc0:¬z8q ρ b off esz lim=0:=by omega
      refine⟨?_,⟨i1.2.2.1,Zi _⟩⟩;simp[execOp,e1,e2,aaq,yjq,hc0,Instr.indexAt,Zy hd,asIntOf,hlt',(hC.ty e k hk).sizeOf w,hes,jCq,ZK]
     .cases h
    .cases h
   .cases h
  .cases h
 case index t x y=>
  simp only[ygq,y1q,zWq,zLq,zUq,zVq,zTq,ymq,zQq,zHq,yvq,yuq,zAq,zzq,ytq,ykq,zmq,yaq,jaq,q8q,q9q] at h;split at h
  .rename_i j u z hj hx hy;have hd:=(hC.ty t j hj).d;obtain⟨e1,i1⟩:=hfr.ev hx;obtain⟨e2,_⟩:=hfr.ev hy;split at h
   .rename_i i s hn he;obtain⟨k',rfl⟩:=kbq hn;split at h
    .rename_i c hc;cases h;rw[he] at hd;have hd:P.underlying t=some .string:=hd;refine⟨?_,trivial⟩;have h0:(0:Int)<=(i:Int):=by omega
     simp[execOp,e1,e2,aaq,Instr.index,Zy hd,asIntOf,pgq,hc]
    .cases h
   .rename_i d0 v0 i n e hn he;obtain⟨k',rfl⟩:=kbq hn;split at h
    .rename_i k hk hlt ha;rw[he] at hd;have hlt':i<n:=by rwa[YQ] at hlt
     have hp:=boq (ρ:=ρ) hC hk h w;rw[qzq ha] at e1;refine⟨?_,J0q h i1⟩;simp[execOp,e1,e2,aaq,Instr.index,Zy hd.1,asIntOf,hlt',(hC.ty e k hk).sizeOf w,hp]
    .cases h
   .cases h
  .cases h
 case slice t x lo hi mx=>
  simp only[ygq,y1q,zWq,zLq,zUq,zVq,zTq,ymq,zQq,zHq,yvq,yuq,zAq,zzq,ytq,ykq,zmq,yaq,jaq,q8q,q9q] at h;split at h
  .rename_i j u hj hx;have hd:=(hC.ty t j hj).d;obtain⟨e1,i1⟩:=hfr.ev hx
   have at_:∀e,P.underlying t=some (.slice e) ->(execOp a.eval ⟨dst,.slice t x lo hi mx,ty,pos,aft,g⟩).run P w=((Instr.slice t (a.eval x) (lo.map a.eval) (hi.map a.eval) (mx.map a.eval)).run P w).andThen (λv w=>.ok (.value v) w):=λe hu=>by
    simp only[execOp,Instr.sliceAt,ZL,Zy hu,ZA];rfl
   split at h
   .rename_i e b base off len esz lim he;rw[he] at hd;have hd:P.underlying t=some (.slice e):=hd;split at h
    .rename_i k l h' hk hl hh;split at h
     .rename_i hes;rw[ZE] at hes;have hc:=jyq i1;obtain⟨hpos,hlen,hD,hroom⟩:=i1;rw[at_ e hd,e1];have hse:=(hC.ty e k hk).sizeOf w;split at h
      ·-- no third bound
       simp only[idq] at h;split at h
       .rename_i hle;simp only[Zb] at hle;have h1:=Yb hle.1;have h2:=Yb hle.2;cases h;have hb:=xZq (P:=P) hfr (isSl:=true) hl hh h1 (cap:=z8q ρ b off esz lim) Xd w;refine⟨?_,hpos,?_,hD,?_⟩
        .simp only[aaq,yjq,Option.map_none,Instr.slice,ZL,Zy hd,ZA,hb,hse,YB,hes]
         have hcap:z8q ρ b (off+l*esz) esz (qNq l lim)=z8q ρ b off esz lim-l:=by
          cases lim with
          |some c=>rfl
          |none=>
           simp only[z8q,qNq];rw[Nat.sub_add_eq,YC l esz,Nat.sub_mul_div]
         rw[hcap];congr 3
         by_cases h0:l=0
         .subst h0;simp[Addr.add]
         .have hb0:Nat.beq l 0=false:=nwq h0;have hc0:¬z8q ρ b off esz lim=0:=by omega
          simp only[hb0,hc0,if_false,Option.map_some,jCq];by_cases hm:z8q ρ b off esz lim=l
          .simp[hm,uVq (ρ:=ρ) (b:=b) (base:=off) (Zs (Nat.le_add_right _ _) hroom)]
          .have:¬z8q ρ b off esz lim-l=0:=by omega
           simp[hm,this,ZK]
        .cases lim with
         |some c=>simp only[qNq,Option.getD_some] at hlen⊢;omega
         |none=>simp[qNq]
        .cases lim with
         |some c=>
          simp only[qNq,Option.getD_some] at hlen hroom⊢;have:l*esz+(c-l)*esz=c*esz:=by rw[<-ZO];congr 1;omega
          omega
         |none=>
          simp only[qNq,YU] at hroom⊢;have:l*esz+(h'-l)*esz=h'*esz:=by rw[<-ZO];congr 1;omega
          have:=Z3 esz h2;omega
       .cases h
      .rename_i z;split at h
       .rename_i _ hi1 m hm;simp only[idq] at h;split at h
        .rename_i hle;simp only[Zb] at hle;have h1:=Yb hle.1.1.1;have h2:=Yb hle.1.1.2;have h3:=Yb hle.1.2;have h4:=Yb hle.2;cases h;have hb:=fxq (P:=P) hfr (isSl:=true) (len:=len) hl hh hm h1 h2 (cap:=z8q ρ b off esz lim) Xd w;refine⟨?_,hpos,?_,hD,?_⟩
         .simp only[aaq,yjq,Option.map_some,Instr.slice,ZL,Zy hd,ZA,hb,hse,YB,hes];have hc0:¬z8q ρ b off esz lim=0:=by omega
          have hsc:z8q ρ b (off+l*esz) esz (some (m-l))=m-l:=rfl;simp only[hsc,hc0,if_false,jCq];congr 3
          by_cases hml:m=l
          .simp[hml,uVq (ρ:=ρ) (b:=b) (base:=off) (Zs (Nat.le_add_right _ _) hroom)]
          .have:¬m-l=0:=by omega
           simp[hml,this,ZK]
         .simp only[Option.getD_some];omega
         .simp only[Option.getD_some];have e3:l*esz+(m-l)*esz=m*esz:=by rw[<-ZO];congr 1;omega
          have:=Z3 esz h3;cases lim with
          |some c=>simp only[Option.getD_some] at hlen hroom;have:=Z3 esz hlen;omega
          |none=>simp only[YU] at hroom;omega
        .cases h
       .cases h
     .cases h
    .cases h
   .rename_i e he;rw[he] at hd;have hd:P.underlying t=some (.slice e):=hd;split at h
    .rename_i k hk hl hh;cases h;have hb:=xZq (P:=P) hfr (isSl:=true) hl hh (Zc _) (cap:=0) (Zc _) w;refine⟨?_,trivial⟩;rw[at_ e hd,e1];simp[aaq,Instr.slice,Zy hd,hb,(hC.ty e k hk).sizeOf w]
    .cases h
   .rename_i s he;rw[he] at hd;have hd:P.underlying t=some .string:=hd;split at h
    .rename_i l h' hl hh;split at h
     .rename_i hle;simp only[Zb] at hle;have h1:=Yb hle.1;have h2:=Yb hle.2;cases h;have hb:=xZq (P:=P) hfr (isSl:=false) hl hh h1 (cap:=s.length) h2 w;refine⟨?_,trivial⟩;have hsz:(⟨⟨s⟩⟩:ByteArray).size=s.length:=rfl;simp[execOp,e1,aaq,Instr.sliceAt,Instr.slice,Zy hd,hsz,hb,Z5q]
     .cases h
    .cases h
   .cases h
  .cases h
 case makeInterface t x=>
  simp only[ygq,y1q,zWq,zLq,zUq,zVq,zTq,ymq,zQq,zHq,yvq,yuq,zAq,zzq,ytq,ykq,zmq,yaq,jaq,q8q,q9q] at h;split at h
  .rename_i j u hj hx;obtain⟨e,hi⟩:=hfr.ev hx;split at h
   .cases h
   .rename_i hn;cases h;refine⟨?_,hi⟩;simp[execOp,e,aaq,run_makeInterface w t _ ((hC.ty t j hj).concrete hn)]
  .cases h
 case call c=>
  obtain⟨callee,args,ats⟩:=c;cases callee<;>try (simp[ygq,y1q,zWq,zLq,zUq,zVq,zTq,ymq,zQq,zHq,yvq,yuq,zAq,zzq,ytq,ykq,zmq,yaq,jaq,q8q,q9q] at h;done)
  rename_i b;cases b<;>try (simp[ygq,y1q,zWq,zLq,zUq,zVq,zTq,ymq,zQq,zHq,yvq,yuq,zAq,zzq,ytq,ykq,zmq,yaq,jaq,q8q,q9q] at h;done)
  case len=>
   have e2:execOp a.eval ⟨dst,.call ⟨.builtin .len,args,ats⟩,ty,pos,aft,g⟩=(do pure (.value (<-Builtin.len_ ats ty (args.map a.eval)))):=rfl;rw[e2];simp only[ygq,y1q,zWq,zLq,zUq,zVq,zTq,ymq,zQq,zHq,yvq,yuq,zAq,zzq,ytq,ykq,zmq,yaq,jaq,q8q,q9q] at h;split at h
   .rename_i t x h1 h2;have h1:ats= #[t]:=by apply YA.1;simpa using h1
    have h2:args= #[x]:=by apply YA.1;simpa using h2
    subst h1;subst h2
    split at h
    .rename_i j u hj hx;have hd:=(hC.ty t j hj).d;have e1:=(hfr.ev hx).1;split at h
     .rename_i s he;rw[he] at hd;cases h;have hd:P.underlying t=some .string:=hd;have hsz:(⟨⟨s⟩⟩:ByteArray).size=s.length:=rfl;exact⟨by simp[Builtin.len_,e1,aaq,Zy hd,goInt,hsz],trivial⟩
     .rename_i e b base off n esz lim he;rw[he] at hd;cases h;have hd:P.underlying t=some (.slice e):=hd;exact⟨by simp[Builtin.len_,e1,aaq,yjq,Zy hd,goInt],trivial⟩
     .rename_i e he;rw[he] at hd;cases h;have hd:P.underlying t=some (.slice e):=hd;exact⟨by simp[Builtin.len_,e1,aaq,Zy hd,goInt],trivial⟩
     .rename_i n e u' he;rw[he] at hd;cases h;exact⟨by simp[Builtin.len_,aaq,Zy hd.1,goInt],trivial⟩
     .cases h
    .cases h
   .cases h
  case min=>
   have e2:execOp a.eval ⟨dst,.call ⟨.builtin .min,args,ats⟩,ty,pos,aft,g⟩=(do pure (.value (<-Builtin.min_ ats ty (args.map a.eval)))):=rfl;rw[e2];simp only[ygq,y1q,zWq,zLq,zUq,zVq,zTq,ymq,zQq,zHq,yvq,yuq,zAq,zzq,ytq,ykq,zmq,yaq,jaq,q8q,q9q] at h;split at h
   .rename_i x y h2;have h2:args= #[x,y]:=by apply YA.1;simpa using h2
    subst h2;split at h
    .rename_i k m k' n hx hy;cases h;refine⟨?_,trivial⟩;rw[QLq];by_cases hlt:n<m<;>simp[Builtin.min_,Builtin.min2,(hfr.ev hx).1,(hfr.ev hy).1,aaq,hlt]
    .cases h
   .cases h
  case max=>
   have e2:execOp a.eval ⟨dst,.call ⟨.builtin .max,args,ats⟩,ty,pos,aft,g⟩=(do pure (.value (<-Builtin.max_ ats ty (args.map a.eval)))):=rfl;rw[e2];simp only[ygq,y1q,zWq,zLq,zUq,zVq,zTq,ymq,zQq,zHq,yvq,yuq,zAq,zzq,ytq,ykq,zmq,yaq,jaq,q8q,q9q] at h;split at h
   .rename_i x y h2;have h2:args= #[x,y]:=by apply YA.1;simpa using h2
    subst h2;split at h
    .rename_i k m k' n hx hy;cases h;refine⟨?_,trivial⟩;rw[QLq];by_cases hlt:m<n<;>simp[Builtin.max_,Builtin.max2,(hfr.ev hx).1,(hfr.ev hy).1,aaq,hlt]
    .cases h
   .cases h
end
noncomputable def k6q:Nat->V->Nat->Nat->Nat->Option (List V)
 |0,_,_,_,_=>none
 | f +1,v,off,n,e=>
  match v with
  |.arr m e' l=>
   match Nat.beq e' e&&Nat.beq (off%e) 0&&Nat.ble (off+n*e) m with
   |true=>match Nat.beq ((l.drop (off/e)).take n).length n with
    |true=>some ((l.drop (off/e)).take n)
    |false=>none
   |false=>match Nat.beq off 0&&Nat.beq n 1&&Nat.beq m e with
    |true=>some [.arr m e' l]
    |false=>match l[off/e']? with
     |some x=>match Nat.beq x.size e'&&Nat.ble (off/e'*e'+e') m&&Nat.ble (off%e'+n*e) e' with
      |true=>k6q f x (off%e') n e
      |false=>none
     |none=>none
  |.agg m l=>match Nat.beq off 0&&Nat.beq n 1&&Nat.beq m e with
   |true=>some [.agg m l]
   |false=>match Qpq l off with
    |some (x,o)=>match Nat.ble (off-o+x.size) m&&Nat.ble (o+n*e) x.size with
     |true=>k6q f x o n e
     |false=>none
    |none=>none
  |_=>none
theorem zBq(ρ:Env)(e:Nat):∀l:List V,(znq ρ e l).length=l.length*e
 |[]=>by simp[znq]
 |v::l=>by simp[znq,zBq ρ e l,ZO];omega
theorem q3q(ρ:Env)(e:Nat):∀a b:List V,znq ρ e (a++b)=znq ρ e a++znq ρ e b
 |[],b=>by simp[znq]
 |v::a,b=>by simp[znq,q3q ρ e a b]
theorem kYq(ρ:Env)(e:Nat):∀(l:List V) (i:Nat),znq ρ e (l.drop i)=(znq ρ e l).drop (i*e)
 |[],i=>by simp[znq]
 |v::l,0=>by simp
 |v::l,i+1=>by
  have h1:(fit e (cellsV ρ v)).drop ((i+1)*e)=[]:=ZW (by rw[v5q,ZO];omega);simp only[List.drop_succ_cons,znq,kYq ρ e l i];rw[List.drop_append,h1,YX,v5q,ZO];congr 1
  omega
theorem j0q(ρ:Env)(e:Nat):∀(l:List V) (i:Nat),znq ρ e (l.take i)=(znq ρ e l).take (i*e)
 |[],i=>by simp[znq]
 |v::l,0=>by simp[znq]
 |v::l,i+1=>by
  simp only[List.take_succ_cons,znq,j0q ρ e l i];rw[List.take_append,Zm (l:=fit e (cellsV ρ v)) (by simp[ZO])];congr 2
  simp[ZO]
theorem rzq{m a b:Nat}{L:List Value}(h1:a+b<=m)(h2:a+b<=L.length):((fit m L).drop a).take b=(L.drop a).take b:=by
 simp only[fit];rw[List.drop_take,YO,show min b (m-a)=b by omega,Z6 Xd,Z0 Xo]
theorem xEq{ρ:Env}:∀(f:Nat) (v:V) (off n e:Nat) (l:List V),k6q f v off n e=some l->
  l.length=n/\off+n*e<=v.size/\((cellsV ρ v).drop off).take (n*e)=znq ρ e l/\∀D,InD D v->InDL D l
 |0,_,_,_,_,_,h=>by simp[k6q] at h
 | f +1,v,off,n,e,r,h=>by
  simp only[k6q] at h;split at h
  .rename_i m e' l;split at h
   .rename_i hc;simp only[Zb,ZE] at hc;obtain⟨⟨rfl,h0⟩,hle⟩:=hc;have hle:=Yb hle;split at h
    .rename_i hn;rw[ZE] at hn;cases h
     have hoff:off/e'*e'=off:=by
      have:=Nat.div_add_mod off e';rw[YC] at this;omega
     refine⟨hn,hle,?_,λD hv=>InDL_iff.2 λx hx=>InDL_iff.1 (show InDL D l from hv) x (ZD (ZH hx))⟩;by_cases hn0:n=0
     .subst hn0;simp[znq]
     have hlen:off+n*e'<=(znq ρ e' l).length:=by
      rw[zBq];rw[Zu,Zx] at hn;have:=Z3 e' (show off/e'+n<=l.length by omega);rw[ZO] at this;omega
     simp only[cellsV];rw[rzq hle hlen,j0q,kYq,hoff]
    .cases h
   .split at h
    .rename_i hc;simp only[Zb,ZE] at hc;obtain⟨⟨rfl,rfl⟩,rfl⟩:=hc;cases h;refine⟨rfl,by show 0+1*m<=m;omega,?_,λD hv=>⟨hv,trivial⟩⟩;simp only[znq,ZU,Nat.one_mul,ZV];rw[yGq Ql,Zm Ql]
    .split at h
     .rename_i x hx;split at h
      .rename_i hc;simp only[Zb,ZE] at hc;obtain⟨⟨h1,h2⟩,h3⟩:=hc;have h2:=Yb h2;have h3:=Yb h3;obtain⟨g1,g2,g3,g4⟩:=xEq (ρ:=ρ) f x _ n e r h;obtain⟨a,c,k1,k2⟩:=Kdq (ρ:=ρ) (e:=e') _ _ _ hx;have hdm:=Nat.div_add_mod off e';rw[YC] at hdm;refine⟨g1,by show off+n*e<=m;omega,?_,λD hv=>g4 D (InDL.at_ (show InDL D l from hv) hx)⟩;rw[yGq (by simp[h1])] at k1;have key:=q6q (n:=m) (a:=a) (b:=cellsV ρ x) (c:=c) Xo;rw[<-k1] at key;simp only[cellsV];rw[<-g3,<-key,qlq Xo,k2,hdm]
      .cases h
     .cases h
  .rename_i m l;split at h
   .rename_i hc;simp only[Zb,ZE] at hc;obtain⟨⟨rfl,rfl⟩,rfl⟩:=hc;cases h;refine⟨rfl,by show 0+1*m<=m;omega,?_,λD hv=>⟨hv,trivial⟩⟩;simp only[znq,ZU,Nat.one_mul,ZV];rw[yGq Ql,Zm Ql]
   split at h
   .rename_i x o hf;split at h
    .rename_i hc;simp only[Zb] at hc;have h2:=Yb hc.1;have h3:=Yb hc.2;obtain⟨a,c,k1,k2,k3⟩:=v6q (ρ:=ρ) _ _ _ _ hf;obtain⟨g1,g2,g3,g4⟩:=xEq (ρ:=ρ) f x o n e r h;refine⟨g1,by show off+n*e<=m;omega,?_,λD hv=>g4 D (ZVq hf (show InDL D l from hv))⟩;have ha:a.length=off-o:=by omega
     have key:=q6q (n:=m) (a:=a) (b:=cellsV ρ x) (c:=c) Xo;rw[<-k1] at key;simp only[cellsV];rw[<-g3,<-key,qlq Xo,k2]
    .cases h
   .cases h
  .cases h
noncomputable def i9q(l:List V)(e:Nat):Nat->List V
 |0=>[]
 |n+1=>.agg e (l.take e)::i9q (l.drop e) e n
theorem Y2q{e:Nat}:∀(n:Nat) (l:List V),(i9q l e n).length=n
 |0,_=>rfl
 |n+1,l=>by simp[i9q,Y2q n]
theorem Y3q{e:Nat}:∀(n:Nat) (l:List V),(∀x∈l,x.isAgg=false) ->n*e<=l.length->z6q e (i9q l e n)=l.take (n*e)/\∀x∈i9q l e n,x.size=e/\x.isAgg=true/\∀y∈zlq x,y∈l
 |0,l,_,_=>by simp[i9q,z6q]
 |n+1,l,h,hl=>by
  rw[ZO] at hl;obtain⟨g1,g2⟩:=Y3q (e:=e) n (l.drop e) (λx hx=>h x (ZD hx)) Xo;have hf:zlq (.agg e (l.take e))=l.take e:=ZUq (λx hx=>h x (ZH hx)) Xo;refine⟨?_,λx hx=>?_⟩
  .simp only[i9q,z6q,hf,g1];rw[yiq Xo,ZO,Nat.one_mul,Nat.add_comm (n*e) e,List.take_add]
  .simp only[i9q,ZF] at hx;rcases hx with rfl|hx
   .exact⟨rfl,rfl,λy hy=>by rw[hf] at hy;exact ZH hy⟩
   .obtain⟨k1,k2,k3⟩:=g2 x hx;exact⟨k1,k2,λy hy=>ZD (k3 y hy)⟩
noncomputable def kFq(v:V)(off n e:Nat):Option (List V):=match v.isAgg&&Nat.ble (off+n*e) v.size with
 |true=>some (i9q ((zlq v).drop off) e n)
 |false=>none
noncomputable def okE(e:Nat)(l:List V):Bool:=l.all λx=>Nat.beq x.size e&&(x.leaf||x.isAgg)
noncomputable def jEq(f:Nat)(v:V)(off n e:Nat):Option (List V):=match k6q f v off n e with
 |some l=>match okE e l with
  |true=>some l
  |false=>kFq v off n e
 |none=>kFq v off n e
theorem Zmq{v:V}{off n e:Nat}{l:List V}(h:kFq v off n e=some l):
  l.length=n/\off+n*e<=v.size/\((zlq v).drop off).take (n*e)=z6q e l/\(∀x∈l,x.size=e)/\∀x∈l,∀y∈zlq x,y∈zlq v:=by
 unfold kFq at h;split at h
 .rename_i hc;simp only[Zb] at hc;have hle:=Yb hc.2;cases h;obtain⟨g1,g2⟩:=Y3q n ((zlq v).drop off) (e:=e) (λx hx=>jVq v x (ZD hx)) Xo;exact⟨Y2q _ _,hle,g1.symm,λx hx=>(g2 x hx).1,λx hx y hy=>ZD ((g2 x hx).2.2 y hy)⟩
 .cases h
theorem QNq{D:Nat->Nat->Prop}{e:Nat}:∀(n:Nat) (l:List V),(∀y∈l,InD D y) ->InDL D (i9q l e n)
 |0,_,_=>trivial
 |n+1,l,h=>⟨InDL_iff.2 λy hy=>h y (ZH hy),QNq n _ λy hy=>h y (ZD hy)⟩
theorem yHq{ρ:Env}(f:Nat)(v:V)(off n e:Nat)(l:List V)(h:jEq f v off n e=some l):
  l.length=n/\off+n*e<=v.size/\((cellsV ρ v).drop off).take (n*e)=znq ρ e l/\∀D,InD D v->InDL D l:=by
 have fl:∀{l},kFq v off n e=some l->l.length=n/\off+n*e<=v.size/\((cellsV ρ v).drop off).take (n*e)=znq ρ e l/\∀D,InD D v->InDL D l:=λ{l} h=>by
  obtain⟨h1,h2,h3,h4,h5⟩:=Zmq h;refine⟨h1,h2,?_,λD hv=>?_⟩
  .rw[keq,<-h3,yXq,List.map_take,List.map_drop]
  .unfold kFq at h;split at h
   .cases h;exact QNq _ _ λy hy=>xTq hv y (ZD hy)
   .cases h
 unfold jEq at h;split at h
 .split at h
  .cases h;exact xEq f v off n e l Yh
  .exact fl h
 .exact fl h
noncomputable def i3q:V->Nat->Nat->List V->Option V
 |v,_,_,[]=>some v
 |v,off,e,x::l=>match Nat.beq x.size e with
  |true=>match xDq 50 v off x with
   |some v'=>i3q v' (off+e) e l
   |none=>none
  |false=>none
theorem piq{c a b:List Value}{off:Nat}(h:off+a.length+b.length<=c.length):spl (spl c off a) (off+a.length) b=spl c off (a++b):=by
 simp only[spl];apply List.ext_getElem?;intro i;simp only[Zz,YZ,YI,ZX,Zu,Zj,Zx];by_cases h1:i<off
 .simp only[show i<min (off+a.length) (min off c.length+(a.length+(c.length-(off+a.length)))) from by omega,show i<off+a.length from by omega,show i<min off c.length from by omega,h1,if_true]
 .by_cases h2:i<off+a.length
  .simp only[show i<min (off+a.length) (min off c.length+(a.length+(c.length-(off+a.length)))) from by omega,h2,show¬i<min off c.length from by omega,show i-min off c.length<a.length from by omega,if_true,if_false]
  .have m1:min (off+a.length) (off+(a.length+(c.length-(off+a.length))))=off+a.length:=by omega
   have m2:min off c.length=off:=by omega
   by_cases h3:i<off+a.length+b.length
   .simp only[m1,m2,h1,h2,if_false,show i-(off+a.length)<b.length from by omega,show¬i-off<a.length from by omega,show i-off-a.length<b.length from by omega,if_true];congr 1;omega
   .simp only[m1,m2,h1,h2,if_false,show¬i-(off+a.length)<b.length from by omega,show¬i-off<a.length from by omega,show¬i-off-a.length<b.length from by omega,
     show¬off+a.length+b.length+(i-(off+a.length) -b.length)<off from by omega,show¬off+a.length+b.length+(i-(off+a.length) -b.length) -off<a.length from by omega]
    congr 1;omega
theorem vaq{ρ:Env}{e:Nat}:∀(l:List V) (v:V) (off:Nat) (v':V),i3q v off e l=some v'->
  v'.size=v.size/\(l=[]\/off+l.length*e<=v.size)/\cellsV ρ v'=(if l=[] then cellsV ρ v else spl (cellsV ρ v) off (znq ρ e l))/\v'.isAgg=v.isAgg/\v'.leaf=v.leaf/\(∀D,InD D v->InDL D l->InD D v')/\∀x∈l,x.size=e
 |[],v,off,v',h=>by simp only[i3q,Zk] at h;subst h;exact⟨rfl,.inl rfl,by simp,rfl,rfl,λ_ h _=>h,by simp⟩
 | x ::l,v,off,v',h=>by
  simp only[i3q] at h;split at h
  .rename_i hs;rw[ZE] at hs;split at h
   .rename_i v1 h1;obtain⟨k1,k2,k3,k4,k5,k6⟩:=udq (ρ:=ρ) 50 v off x v1 h1;obtain⟨g1,g2,g3,g4,g5,g6,g7⟩:=vaq (ρ:=ρ) l v1 _ v' h;have hfx:fit e (cellsV ρ x)=cellsV ρ x:=yGq (by simp[hs]);refine⟨g1.trans k1,.inr ?_,?_,g4.trans k4,g5.trans k5,λD hv hl=>g6 D (ZMq h1 hv hl.1) hl.2,λy hy=>?_⟩
    .rcases g2 with h0|g2
     .subst h0;show off+1*e<=v.size;omega
     .rw[Zv,ZO];omega
    .rw[g3,Zg (show¬(x::l=[]) by simp)];by_cases hl:l=[]
     .subst hl;rw[Zt rfl,k3];simp[znq,hfx]
     .rw[Zg hl];rcases g2 with h0|g2
      .exact absurd h0 hl
      .rw[k3];simp only[znq,hfx];rw[<-piq (by rw[ywq,ywq,zBq];omega)];simp[hs]
    .rcases ZF.1 hy with rfl|hy
     .exact hs
     .exact g7 y hy
   .cases h
  .cases h
noncomputable def Heap.val(h:Heap)(b:Nat):Option V:=match h.get b with
 |some (.cells _ v)=>some v
 |some (.ro v)=>some v
 |_=>none
noncomputable def y4q(s:List UInt8):List V:=s.map λc=>.int .u8 (.ofNat c.toNat)
noncomputable def fCq(C:Cfg)(h:Heap)(tx:TypeId)(esz:Nat)(x:V):Option (List V):=match C.ty tx with
 |none=>none
 |some j=>match j.d,x with
  |.slice _,.nils=>some []
  |.slice _,.sl b _ off n e _=>match Nat.beq e esz,h.val b with
   |true,some v=>jEq 50 v off n esz
   |_,_=>none
  |.str,.str s=>match Nat.beq esz 1 with
   |true=>some (y4q s)
   |false=>none
  |_,_=>none
noncomputable def kkq(C:Cfg)(h:Heap)(ts tx:TypeId)(s x:V):Option (V×Heap):=match C.ty ts with
 |none=>none
 | some j => match j.d with
  | .slice e =>match C.ty e with
   |none=>none
   | some k =>match Nat.beq k.size 0 with
    |true=>none
    | false =>match fCq C h tx k.size x with
     |none=>none
     | some news=>match s with
      |.nils=>match news with
       |[]=>some (.nils,h)
       |_::_=>match Nat.ble (news.length*k.bytes) 140737488355328&&Nat.ble news.length 70368744177664 with
        |true=>some (.sl h.next 0 0 news.length k.size none,h.push (.cells e (.arr (news.length*k.size) k.size news)))
        |false=>none
      | .sl b base off len esz lim=>match Nat.beq esz k.size,news with
       |false,_=>none
       |true,[]=>some (.sl b base off len esz lim,h)
       |true,_::_=>match Nat.ble ((len+news.length)*k.bytes) 140737488355328&&Nat.ble (len+news.length) 70368744177664 with
        |false=>none
        |true=>match lim with
         |some c=>match Nat.ble (len+news.length) c with
          |true=>match h.get b with
           |some (.cells ty v)=>match Nat.ble (off+(len+news.length)*esz) v.size with
            |true=>match i3q v (off+len*esz) esz news with
             |some v'=>some (.sl b base off (len+news.length) esz lim,h.put b (.cells ty v'))
             |none=>none
            |false=>none
           |_=>none
          |false=>match h.val b with
           |some v=>match jEq 50 v off len esz with
            |some olds=>some (.sl h.next 0 0 (len+news.length) esz none,h.push (.cells e (.arr ((len+news.length)*esz) esz (olds++news))))
            |none=>none
           |none=>none
         |none=>match h.get b with
          |some (.cells ty v)=>match Nat.ble (off+(len+news.length)*esz) v.size with
           |true=>match i3q v (off+len*esz) esz news with
            |some v'=>some (.sl b base off (len+news.length) esz none,h.put b (.cells ty v'))
            |none=>none
           |false=>match fOq ty e,jEq 50 v off len esz with
            |true,some olds=>some (.sl h.next 0 0 (len+news.length) esz none,(h.push (.cells e (.arr ((len+news.length)*esz) esz (olds++news)))).kill b)
            |_,_=>none
          |_=>none
      |_=>none
  |_=>none
noncomputable def fuq(C:Cfg)(h:Heap)(ts tx:TypeId)(s x:V):Option (V×Heap):=match C.ty ts with
 |none=>none
 | some j=>match j.d with
  |.slice e=>match C.ty e with
   |none=>none
   |some k=>match fCq C h tx k.size x with
    |none=>none
    |some all=>match s with
     |.nils=>some (.int .i64 (.ofNat 0),h)
     |.sl b _ off len esz _=>match Nat.beq esz k.size,all.take len with
      |true,[]=>some (.int .i64 (.ofNat 0),h)
      |true,y::ys=>match h.get b with
       |some (.cells ty v)=>match Nat.ble (off+(ys.length+1)*esz) v.size with
        |true=>match i3q v off esz (y::ys) with
         |some v'=>some (.int .i64 (.ofNat (ys.length+1)),h.put b (.cells ty v'))
         |none=>none
        |false=>none
       |_=>none
      |_,_=>none
     |_=>none
  |_=>none
noncomputable def i1q(n e:Nat)(z:V):V:=.arr (n*e) e (List.replicate n z)
noncomputable def Qqq(C:Cfg)(fr:Tr V)(e:Nat):V->List (Nat×Operand) ->Option V
 |v,[]=>some v
 |v,(i,x)::l=>match evV C fr x with
  |some y=>match Nat.beq y.size e with
   |true=>match xDq 50 v (i*e) y with
    |some v'=>Qqq C fr e v' l
    |none=>none
   |false=>none
  |none=>none
noncomputable def Q2q(C:Cfg)(e:TypeId):Option TyD:=match C.ty e with
 |some k=>some k.d
 |none=>none
noncomputable def bytesOf:List V->Option (List UInt8)
 |[]=>some []
 |.int .u8 (.ofNat c)::l=>match Nat.blt c 256,bytesOf l with
  |true,some r=>some (UInt8.ofNat c::r)
  |_,_=>none
 |_=>none
noncomputable def zxq(C:Cfg)(fr:Tr V)(h:Heap)(s:TypeId)(t:TypeId)(x:Operand):Option (V×Heap):=match C.ty s,C.ty t,evV C fr x with
 |some js,some jt,some v=>match js.d,jt.d,v with
  |.slice e,.str,v=>match Q2q C e,v with
   |some (.int .u8),.nils=>some (.str [],h)
   |some (.int .u8),.sl b _ off n esz _=>match Nat.beq esz 1,h.val b with
    |true,some bv=>match jEq 50 bv off n esz with
     |some l=>match bytesOf (z6q 1 l) with
      |some r=>some (.str r,h)
      |none=>none
     |none=>none
    |_,_=>none
   |_,_=>none
  |.slice _,.slice e,.sl b base off n esz lim=>match Nat.beq s t,Q2q C e,h.get b with
   |true,some (.int .u8),some (.cells _ bv)=>match Nat.ble base bv.size with
    |true=>some (.sl b base off n esz lim,h.put b (.ro bv))
    |false=>none
   |_,_,_=>none
  |.str,.slice e,.str s=>match Q2q C e with
   |some (.int .u8)=>some (.sl h.next 0 0 s.length 1 none,h.push (.ro (.arr s.length 1 (y4q s))))
   |_=>none
  |_,_,_=>none
 |_,_,_=>none
noncomputable def ylq(C:Cfg)(fr:Tr V)(h:Heap)(t:TypeId)(x:Operand):Option (V×Heap):=match evV C fr x,C.ty t with
 |some (.ptr b off),some i=>match h.val b with
  |some v=>match jHq 50 v off i.size i.agg with
   |some r=>some (r,h)
   |none=>none
  |none=>none
 |_,_=>none
noncomputable def z4q(C:Cfg)(fr:Tr V)(h:Heap)(t:TypeId)(x:Operand)(y:Operand):Option (V×Heap):=match evV C fr x,evV C fr y,C.ty t with
 |some (.ptr b off),some u,some i=>match h.get b,Nat.beq u.size i.size with
  |some (.cells ty v),true=>match xDq 50 v off u with
   |some v'=>some (.undef,h.put b (.cells ty v'))
   |none=>none
  |_,_=>none
 |_,_,_=>none
noncomputable def z5q(C:Cfg)(fr:Tr V)(h:Heap)(t:TypeId):Option (V×Heap):=match C.ty t with
 |some i=>some (.ptr h.next 0,h.push (.cells t i.zero))
 |none=>none
noncomputable def qgq(C:Cfg)(fr:Tr V)(h:Heap)(t:TypeId)(x:Operand):Option (V×Heap):=match evV C fr x with
 |some v=>match v.leaf||v.isAgg with
  |true=>some (.ptr h.next 0,h.push (.cells t v))
  |false=>none
 |none=>none
noncomputable def zjq(C:Cfg)(fr:Tr V)(h:Heap)(t:TypeId)(n:Nat)(parts:Array (Nat×Operand)):Option (V×Heap):=match C.ty t with
 |some i=>match i.d with
  |.slice e=>match C.ty e with
   |some k=>match Nat.beq k.size 0||!Nat.ble (n*k.size) 16777216 with
    |true=>none
    |false=>match Qqq C fr k.size (i1q n k.size k.zero) parts.toList with
     |some v=>some (.sl h.next 0 0 n k.size none,h.push (.cells e v))
     |none=>none
   |none=>none
  |_=>none
 |none=>none
noncomputable def zpq(C:Cfg)(fr:Tr V)(h:Heap)(t:TypeId)(x:Operand)(y:Operand):Option (V×Heap):=match C.ty t,evV C fr x,evV C fr y with
 |some i,some u,some v=>match i.d,n9q u,n9q v with
  |.slice e,some l,some c=>match C.ty e with
   |some k=>match Nat.beq k.size 0||!Nat.ble l c||!Nat.ble (k.bytes*c) 281474976710656||!Nat.ble c 9223372036854775807 with
    |true=>none
    |false=>some (.sl h.next 0 0 l k.size none,h.push (.cells e (i1q c k.size k.zero)))
   |none=>none
  |_,_,_=>none
 |_,_,_=>none
noncomputable def zKq(C:Cfg)(fr:Tr V)(h:Heap)(args:Array Operand)(ats:Array TypeId):Option (V×Heap):=match args.toList,ats.toList with
 |[x,y],[ts,tx]=>match evV C fr x,evV C fr y with
  |some s,some u=>kkq C h ts tx s u
  |_,_=>none
 |_,_=>none
noncomputable def yqq(C:Cfg)(fr:Tr V)(h:Heap)(args:Array Operand)(ats:Array TypeId):Option (V×Heap):=match args.toList,ats.toList with
 |[x,y],[ts,tx]=>match evV C fr x,evV C fr y with
  |some s,some u=>fuq C h ts tx s u
  |_,_=>none
 |_,_=>none
noncomputable def zXq(C:Cfg)(fr:Tr V)(h:Heap)(t:TypeId)(x:Operand)(lo:Option Operand)(hi:Option Operand)(mx:Option Operand):Option (V×Heap):=match C.ty t,evV C fr x with
 |some j,some v=>match j.d,v with
  |.arr n e,.ptr b off=>match C.ty e,axq C fr 0 lo,axq C fr n hi,mx,h.val b with
   |some k,some l,some r,none,some bv=>match Nat.beq k.size 0||!Nat.ble l r||!Nat.ble r n||!Nat.ble (off+n*k.size) bv.size with
    |true=>none
    |false=>some (.sl b off (off+l*k.size) (r-l) k.size (some (n-l)),h)
   |_,_,_,_,_=>none
  |.slice e,.sl b base off len esz lim=>match C.ty e,axq C fr 0 lo,axq C fr len hi,mx,h.val b with
   |some k,some l,some r,none,some bv=>match Nat.beq k.size esz&&Nat.ble l r&&Nat.ble 1 r&&Nat.ble (off+r*esz) bv.size&&(match lim with|none=>true|some c=>Nat.ble r c) with
    |false=>none
    |true=>some (.sl b (match Nat.beq l 0 with|true=>base|false=>off) (off+l*esz) (r-l) esz (qNq l lim),h)
   |_,_,_,_,_=>none
  |_,_=>none
 |_,_=>none
noncomputable def opH(C:Cfg)(fr:Tr V)(h:Heap):Op->Option (V×Heap)
 |.convert s t x=>zxq C fr h s t x
 |.load t x=>ylq C fr h t x
 |.store t x y=>z4q C fr h t x y
 |.alloc t=>z5q C fr h t
 |.box t x=>qgq C fr h t x
 |.buildSlice t n parts=>zjq C fr h t n parts
 |.makeSlice t x y=>zpq C fr h t x y
 |.call ⟨.builtin .append,args,ats⟩=>zKq C fr h args ats
 |.call ⟨.builtin .copy,args,ats⟩=>yqq C fr h args ats
 |.slice t x lo hi mx=>zXq C fr h t x lo hi mx
 |_=>none
structure Did(P:Program)(C:Cfg)(s0:World)(U:Nat)(o:Oper)(a:Act)(D:Nat->Prop)(ρ:Env)(h:Heap)(w:World)(v:V)(h':Heap)(x:Value)(D':Nat->Prop)(ρ':Env)(w':World):Prop where
 op:Op1 P o a w x w'
 val:x=aaq ρ' v
 rel:Rel s0 U D' ρ' h' w'
 nxt:Nxt D ρ h w D' ρ' h' w'
 in_:InD (DD D' ρ') v
section
variable {P:Program} {C:Cfg} {s0:World} {U:Nat} {D:Nat->Prop} {ρ:Env} {fr:Tr V} {a:Act} {w:World} {h:Heap}
theorem JCq{pre cap m:Nat}(hm:m<=cap):DD (λi=>D i\/i=h.next) (ρ.add h.next w.heap.size pre cap) h.next m:=⟨.inr rfl,by simp[Env.add];exact hm⟩
theorem Rel.val(r:Rel s0 U D ρ h w){b:Nat}{v:V}(hb:D b)(hv:h.val b=some v):∃pre tail ty fz,w.heap[ρ.b b]? =some (.cells (pre++(cellsV ρ v++tail)).toArray ty fz)/\pre.length=ρ.pre b/\v.size<=ρ.cap b/\InD (DD D ρ) v:=by
 unfold Heap.val at hv;split at hv
 .rename_i ty v' hg;cases hv;obtain⟨o,h1,pre,tail,rfl,h2,h3⟩:=r.has b _ hb hg;exact⟨pre,tail,ty,_,h1,h2,by omega,r.clo b _ hb hg⟩
 .rename_i v' hg;cases hv;obtain⟨o,h1,pre,tail,ty,fz,rfl,h2,h3⟩:=r.has b _ hb hg;exact⟨pre,tail,ty,fz,h1,h2,h3,r.clo b _ hb hg⟩
 .cases hv
theorem puq{pre c tail:List Value}{off n:Nat}(h:off+n<=c.length):(pre++(c++tail)).toArray.extract (pre.length+off) (pre.length+off+n)=((c.drop off).take n).toArray:=by
 apply Array.ext';simp only[Array.toList_extract,List.extract];rw[show pre.length+off+n-(pre.length+off)=n by omega,YP,Z6 Xd,Z0 Xo]
theorem n2q{pre c tail:List Value}{i:Nat}{x:Value}(h:c[i]? =some x):(pre++(c++tail)).toArray[pre.length+i]? =some x:=by
 have hi:=(Zq.1 h).1;simp only[List.getElem?_toArray];rw[List.getElem?_append_right Xd,show pre.length+i-pre.length=i by omega,List.getElem?_append_left hi,h]
theorem QMq(hC:CfgOK P C)(r:Rel s0 U D ρ h w){t:TypeId}{i:TyI}{b off:Nat}{v x:V}(hi:C.ty t=some i)(hb:D b)(hv:h.val b=some v)(hg:jHq 50 v off i.size i.agg=some x):
  (loadVar t ⟨ρ.b b,ρ.pre b+off,none⟩).run P w= .ok (aaq ρ x) w/\InD (DD D ρ) x:=by
 obtain⟨pre,tail,ty,fz,h1,h2,_,h3⟩:=r.val hb hv;obtain⟨g1,g2,g3,g4⟩:=QQq (ρ:=ρ) 50 v off i.size i.agg x hg;have ok:=hC.ty t i hi;refine⟨?_,J0q hg h3⟩;cases ha:i.agg with
 |true=>
  rw[ha,Zt rfl] at g4
  have hrow:Ybq w ⟨ρ.b b,ρ.pre b+off,none⟩ i.size=some (cellsV ρ x).toArray:=by
   rw[t6q h1 Xo,<-h2,puq (by simpa using g2),g3]
  rw[Yaq (ok.aggLen ha),hrow,qzq g4]
 |false=>
  rw[ha,Zg Xi] at g4;have e1:=khq (ρ:=ρ) g4
  have e2:x.size=1:=by
   have:=ywq ρ x;rw[e1] at this;simpa using this.symm
  have hc:(cellsV ρ v)[off]? =some (aaq ρ x):=by
   have h4:(((cellsV ρ v).drop off).take i.size)[0]? =some (aaq ρ x):=by rw[g3,e1];rfl
   rw[List.getElem?_take_of_lt Xd,ZX,Y3] at h4;exact h4
  have hcell:w.cell? ⟨ρ.b b,ρ.pre b+off,none⟩=some (aaq ρ x):=by
   simp only[World.cell?,h1];rw[<-h2];simpa using n2q (pre:=pre) (tail:=tail) hc
  have ha':=ok.isAgg w;rw[ha] at ha';simp[loadVar,ha',hcell]
theorem u8q(r:Rel s0 U D ρ h w){b off:Nat}{ty:TypeId}{v v':V}{vs:List Value}(hb:D b)(hg:h.get b=some (.cells ty v))(hs:v'.size=v.size)(hv:cellsV ρ v'=spl (cellsV ρ v) off vs)(hle:off+vs.length<=v.size)(hin:InD (DD D ρ) v'):
  ∃pre tail,w.heap[ρ.b b]? =some (.cells (pre++(cellsV ρ v++tail)).toArray ty (0,0))/\pre.length=ρ.pre b/\
   ∀w',Turned (ρ.b b) (.cells (qMq (pre++(cellsV ρ v++tail)).toArray (ρ.pre b+off) vs.toArray) ty (0,0)) w w'->Rel s0 U D ρ (h.put b (.cells ty v')) w'/\Nxt D ρ h w D ρ (h.put b (.cells ty v')) w':=by
 obtain⟨o,h1,pre,tail,rfl,h2,h3⟩:=r.has b _ hb hg;refine⟨pre,tail,h1,h2,λw' t=>r.put hb hg Y Y t ⟨pre,tail,?_,h2,by rw[hs];exact h3⟩ hin⟩;congr 1
 simp only[qMq,ZR];congr 1
 rw[hv];have:=gbq (b:=cellsV ρ v) (vs:=vs) (a':=pre) (c':=tail) (o:=off) (by simp;exact hle);simp only[Zz] at this;rw[this,h2];rfl
theorem ctq(hC:CfgOK P C)(r:Rel s0 U D ρ h w){t:TypeId}{i:TyI}{b off:Nat}{ty:TypeId}{v v' x:V}(hi:C.ty t=some i)(hsz:x.size=i.size)(hb:D b)(hg:h.get b=some (.cells ty v))(hp:xDq 50 v off x=some v')(hx:InD (DD D ρ) x):
  ∃w',(storeVar t ⟨ρ.b b,ρ.pre b+off,none⟩ (aaq ρ x)).run P w= .ok () w'/\Rel s0 U D ρ (h.put b (.cells ty v')) w'/\Nxt D ρ h w D ρ (h.put b (.cells ty v')) w':=by
 obtain⟨k1,k2,k3,k4,k5,k6⟩:=udq (ρ:=ρ) 50 v off x v' hp;obtain⟨pre,tail,h1,h2,h3⟩:=u8q r hb hg k1 k3 (by simpa using k2) (ZMq hp (r.clo b _ hb hg) hx);refine⟨w.setRow (ρ.b b) (qMq (pre++(cellsV ρ v++tail)).toArray (ρ.pre b+off) (cellsV ρ x).toArray),?_,?_⟩
 .have hcells:(aaq ρ x).cells=(cellsV ρ x).toArray:=quq k6;have hst:=run_storeCells_at (P:=P) (ρ.b b) (ρ.pre b+off) ty (cellsV ρ x) 0 (pre++(cellsV ρ v++tail)).toArray w h1 Xo (Y4q ρ x);simp only[Y3] at hst;have hs:=(hC.ty t i hi).sizeOf w;simp only[storeVar,ZL,hs,ZA,hcells,ZR,ywq,hsz,ne_eq,not_true_eq_false,if_false];rw[hst];simp[qMq]
 .refine h3 _ ⟨rfl,rfl,rfl,by simp,?_,λk hk=>?_⟩
  .simp[World.setRow,Array.getElem?_modify,h1]
  .simp only[World.setRow,Array.getElem?_modify];rw[Zg (λe=>hk e.symm)]
theorem xLq(r:Rel s0 U D ρ h w)(hU:h.next+1<=U){v:V}{t:TypeId}{tail:List Value}(hv:InD (DD D ρ) v):
  Rel s0 U (λi=>D i\/i=h.next) (ρ.add h.next w.heap.size 0 (v.size+tail.length)) (h.push (.cells t v)) (w.alloc (.cells (cellsV ρ v++tail).toArray t))/\
  Nxt D ρ h w (λi=>D i\/i=h.next) (ρ.add h.next w.heap.size 0 (v.size+tail.length)) (h.push (.cells t v)) (w.alloc (.cells (cellsV ρ v++tail).toArray t)):=by
 refine r.push hU (jqq w _) (heap_alloc_new w _) rfl hv ⟨[],tail,?_,by simp[Env.add],by simp[Env.add]⟩;have hag:Env.Agree (DD D ρ) ρ (ρ.add h.next w.heap.size 0 (v.size+tail.length)):=Env.add_agree (r.next_new hU);rw[yEq hag hv];rfl
theorem hcq(r:Rel s0 U D ρ h w){cap:Nat}:aaq (ρ.add h.next w.heap.size 0 cap) (.ptr h.next 0)= .pointer (some ⟨w.heap.size,0,none⟩)/\InD (DD (λi=>D i\/i=h.next) (ρ.add h.next w.heap.size 0 cap)) (.ptr h.next 0):=
 ⟨by simp[aaq,Env.add],JCq (Zi _)⟩
theorem bvq(n len k:Nat)(hk:0<k)(hl:len<=n){cap:Nat}(hc:cap=n*k):aaq (ρ.add h.next w.heap.size 0 cap) (.sl h.next 0 0 len k none)= .slice (some ⟨w.heap.size,0,none⟩) len n/\InD (DD (λi=>D i\/i=h.next) (ρ.add h.next w.heap.size 0 cap)) (.sl h.next 0 0 len k none):=by
 subst hc;refine⟨by simp[aaq,yjq,z8q,Env.add,Nat.mul_div_cancel _ hk],hk,Zc _,?_⟩;refine JCq ?_;simp only[YU,ZN];exact Z3 k hl
theorem Ycq(ρ:Env)(n e:Nat)(z:V)(hz:z.size=e)(he:0<e):(cellsV ρ (i1q n e z)).toArray=(Array.range (n*e)).map ((cellsV ρ z).toArray[· %(cellsV ρ z).toArray.size]!):=by
 have hl:(znq ρ e (List.replicate n z)).length=n*e:=by rw[zBq];simp
 apply Array.ext';simp only[i1q,cellsV,yGq hl,Array.toList_map,Array.toList_range];apply List.ext_getElem?;intro i;rw[ZY];have hsz:(cellsV ρ z).length=e:=by simp[hz]
 have key:∀(n i:Nat),(znq ρ e (List.replicate n z))[i]? =if i<n*e then(cellsV ρ z)[i%e]? else none:=by
  intro n;induction n with
  |zero=>intro i;simp[znq]
  |succ n ih=>
   intro i;simp only[List.replicate_succ,znq,yGq hsz];by_cases h1:i<e
   .rw[List.getElem?_append_left Xd,YV h1,Zt (by rw[ZO];omega)]
   .rw[List.getElem?_append_right Xd,ih,hsz,ZO];have:(i-e)%e=i%e:=(Nat.mod_eq_sub_mod Xd).symm;rw[this];by_cases h2:i<n*e+e
    .rw[Zt Xd,Zt Xd]
    .rw[Zg Xd,Zg Xd]
 rw[key];by_cases h1:i<n*e
 .rw[Zt h1,List.getElem?_range h1];have hm:i%e<(cellsV ρ z).length:=by rw[hsz];exact Nat.mod_lt _ he
  simp only[Option.map_some,ZR,hsz];rw[Za hm];simp[hm,Za hm]
 .rw[Zg h1,List.getElem?_eq_none (by simpa using Nat.le_of_not_lt h1)];rfl
theorem QXq(hfr:FrE C D ρ fr a){e:Nat}:∀(parts:List (Nat×Operand)) (v v':V),Qqq C fr e v parts=some v'->InD (DD D ρ) v->
  Instr.fill (λi=>some (i*e,e)) (cellsV ρ v).toArray (parts.map λp=>(p.1,a.eval p.2))=some (cellsV ρ v').toArray/\InD (DD D ρ) v'/\v'.size=v.size
 |[],v,v',hh,hv=>by simp only[Qqq,Zk] at hh;subst hh;exact⟨rfl,hv,rfl⟩
 | (i,x)::l,v,v',hh,hv=>by
  simp only[Qqq] at hh;split at hh
  .rename_i y hx;split at hh
   .rename_i hsz;rw[ZE] at hsz;split at hh
    .rename_i v1 hput;obtain⟨e1,e2⟩:=hfr.ev hx;obtain⟨k1,k2,k3,k4,k5,k6⟩:=udq (ρ:=ρ) 50 v (i*e) y v1 hput;obtain⟨g1,g2,g3⟩:=QXq hfr l v1 v' hh (ZMq hput hv e2);refine⟨?_,g2,g3.trans k1⟩;have hcells:(aaq ρ y).cells=(cellsV ρ y).toArray:=quq k6;simp only[ZC,Instr.fill,e1,hcells]
     have hn:¬((cellsV ρ y).toArray.size≠e||decide (i*e+(cellsV ρ y).toArray.size>(cellsV ρ v).toArray.size))=true:=by
      simp[hsz];omega
     rw[Zg hn]
     have hz:(cellsV ρ y).toArray.zipIdx.foldl (λcs (p:Value×Nat)=>cs.setIfInBounds (i*e+p.2) p.1) (cellsV ρ v).toArray=(cellsV ρ v1).toArray:=by
      have:=J1q (cellsV ρ y) (i*e) 0 (cellsV ρ v).toArray Xo;rw[k3,<-Array.foldl_toList];simpa using this
     rw[hz];exact g1
    .cases hh
   .cases hh
  .cases hh
theorem jxq(r:Rel s0 U D ρ h w){b base off n esz:Nat}{lim:Option Nat}{v:V}{l:List V}(hin:InD (DD D ρ) (.sl b base off n esz lim))(hv:h.val b=some v)(hs:jEq 50 v off n esz=some l):
  ∀j u,(znq ρ esz l)[j]? =some u->w.cell? (Addr.add (if z8q ρ b off esz lim=0 then vLq ρ b base else⟨ρ.b b,ρ.pre b+off,none⟩) j)=some u:=by
 intro j u hj;obtain⟨g1,g2,g3,g4⟩:=yHq (ρ:=ρ) 50 v off n esz l hs;have hc:=jyq hin
 have hn:n≠0:=λe=>by
  have:(znq ρ esz l).length=0:=by rw[zBq,g1,e,Nat.zero_mul]
  have:=(Zq.1 hj).1;omega
 have hc0:¬z8q ρ b off esz lim=0:=by omega
 obtain⟨pre,tail,ty,fz,h1,h2,_,_⟩:=r.val hin.2.2.1 hv;rw[Zg hc0,jCq,<-h2]
 have hcell:(cellsV ρ v)[off+j]? =some u:=by
  rw[<-g3,YI] at hj;split at hj
  .rwa[ZX] at hj
  .cases hj
 simp only[World.cell?,h1];rw[ZK];simpa using n2q (pre:=pre) (tail:=tail) hcell
theorem kiq(ρ:Env):∀s:List UInt8,znq ρ 1 (y4q s)=s.map λb=>Value.int .u8 b.toNat
 |[]=>rfl
 |c::s=>by
  have:=kiq ρ s;simp only[y4q,ZC,znq] at this⊢;rw[this];rfl
theorem Z8q(hC:CfgOK P C)(r:Rel s0 U D ρ h w){tx:TypeId}{esz:Nat}{x:V}{news:List V}(hx:InD (DD D ρ) x)(hs:fCq C h tx esz x=some news):
  Src P esz tx (aaq ρ x) news.length (znq ρ esz news) w/\InDL (DD D ρ) news:=by
 unfold fCq at hs;split at hs
 .cases hs
 .rename_i j hj;have hd:=(hC.ty tx j hj).d;split at hs
  .rename_i e he;rw[he] at hd;cases hs;exact⟨by simpa[aaq,znq] using Src.ofNil (P:=P) (size:=esz) w hd 0,trivial⟩
  .rename_i e b base off n e' lim he;rw[he] at hd;split at hs
   .rename_i v hes hv;rw[ZE] at hes;subst hes;obtain⟨g1,g2,g3,g4⟩:=yHq (ρ:=ρ) 50 v off n e' news hs;obtain⟨pre,tail,ty,fz,h1,h2,h3,hvin⟩:=r.val hx.2.2.1 hv;refine⟨?_,g4 _ hvin⟩;simp only[aaq,yjq];rw[g1];exact Src.ofSlice w hd _ n _ _ (by rw[zBq,g1]) (jxq r hx hv hs) (qvq ρ e' news)
   .cases hs
  .rename_i s he;rw[he] at hd;split at hs
   .rename_i h1;rw[ZE] at h1;subst h1;cases hs;have:=Src.ofString (P:=P) w hd ⟨⟨s⟩⟩;rw[show(⟨⟨s⟩⟩:ByteArray).size=s.length from rfl] at this;refine⟨?_,InDL_iff.2 λy hy=>by obtain⟨c,_,rfl⟩:=Z1.1 hy;trivial⟩;rw[kiq];simpa[aaq,y4q,byteCells] using this
   .cases hs
  .cases hs
theorem Kiq(hC:CfgOK P C)(r:Rel s0 U D ρ h w)(hU:h.next+1<=U){ts tx ty e:TypeId}{k:TyI}{base:Option Addr}{len cap:Nat}{olds news:List V}{x:Value}(hu:P.underlying ts=some (.slice e))(hk:C.ty e=some k)(hk0:0<k.size)
  (hold:(Builtin.firstCells k.size len (.slice base len cap)).run P w.drew= .ok (znq ρ k.size olds).toArray w.drew) (hlen:olds.length=len) (hs:Src P k.size tx x news.length (znq ρ k.size news) w)
  (hg:cap<len+news.length) (hb:(len+news.length)*k.bytes<=140737488355328) (hm:len+news.length<=70368744177664) (hio:InDL (DD D ρ) olds) (hin:InDL (DD D ρ) news):
  ∃val D' ρ' w',(Builtin.append_ #[ts,tx] ty #[.slice base len cap,x]).run P w= .ok val w'/\val=aaq ρ' (.sl h.next 0 0 (len+news.length) k.size none)/\
   Rel s0 U D' ρ' (h.push (.cells e (.arr ((len+news.length)*k.size) k.size (olds++news)))) w'/\Nxt D ρ h w D' ρ' (h.push (.cells e (.arr ((len+news.length)*k.size) k.size (olds++news)))) w'/\InD (DD D' ρ') (.sl h.next 0 0 (len+news.length) k.size none):=by
 have ok:=hC.ty e k hk;obtain⟨inf,hin',hsz,hby,hz⟩:=ok.info;have hz:=hz ρ
 have hzs:(aaq ρ k.zero).cells.size=k.size:=by
  have:(aaq ρ k.zero).cells=(cellsV ρ k.zero).toArray:=quq (by
   cases ha:k.agg with
   |true=>exact .inr Qt
   |false=>exact .inl (ok.zleaf ha))
  rw[this];simp[ok.zsize]
 have hfit:Builtin.nextslicecap (len+news.length) cap*inf.bytes<=281474976710656:=growslice_fits hg (by rw[hby];exact hb);rw[<-hsz] at hold hs;have key:=run_append_grow_src w ts tx ty e inf _ hu hin' hz base len cap (znq ρ inf.size olds) hold x news.length (znq ρ inf.size news) hs hg Xd hfit;rw[hsz] at key;have hge:=grownCap_ge w (len+news.length) cap e;generalize grownCap w (len+news.length) cap e=gc at key hge
 have hv:InD (DD D ρ) (.arr ((len+news.length)*k.size) k.size (olds++news)):=InDL_iff.2 λy hy=>by
  rcases ZT.1 hy with h|h
  .exact InDL_iff.1 hio y h
  .exact InDL_iff.1 hin y h
 have hcells:cellsV ρ (.arr ((len+news.length)*k.size) k.size (olds++news))=znq ρ k.size olds++znq ρ k.size news:=by
  simp only[cellsV];rw[yGq (by rw[zBq];simp[hlen]),q3q]
 have htl:(Builtin.zeroCells (aaq ρ k.zero).cells (gc-(len+news.length))).toList.length=(gc-(len+news.length))*k.size:=by simp[Builtin.zeroCells,hzs]
 obtain⟨r1,n1⟩:=xLq (t:=e) (tail:=(Builtin.zeroCells (aaq ρ k.zero).cells (gc-(len+news.length))).toList) (r.drawn (w.drawn+1)) hU hv
 have hcap:(V.arr ((len+news.length)*k.size) k.size (olds++news)).size+(Builtin.zeroCells (aaq ρ k.zero).cells (gc-(len+news.length))).toList.length=gc*k.size:=by
  rw[htl];show(len+news.length)*k.size+_=_;rw[<-ZO];congr 1;omega
 have heq:((znq ρ k.size olds++znq ρ k.size news)++(Builtin.zeroCells (aaq ρ k.zero).cells (gc-(len+news.length))).toList).toArray=(znq ρ k.size olds++znq ρ k.size news).toArray++Builtin.zeroCells (aaq ρ k.zero).cells (gc-(len+news.length)):=by
  apply Array.ext';simp
 obtain⟨s1,s2⟩:=bvq (D:=D) (ρ:=ρ) (w:=w) (h:=h) gc (len+news.length) k.size hk0 hge hcap;refine⟨_,_,_,_,key,s1.symm,?_,?_,s2⟩
 .rw[hcells,heq] at r1;exact r1
 .rw[hcells,heq] at n1;exact n1.undrew
end
end
end Go.Proofs.YtpjfmknefefapaaGreatDoor

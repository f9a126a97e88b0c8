/- CallAlone's ground, part 1. No condition. -/
import Derived.WalkKit
import Derived.ProofKit
import Derived.Below
import Derived.OwnWalk
import Derived.Deep.WholeRow
import Derived.Laws.CopyRow
import Derived.Deep.Draws
import Derived.RangeFuncLeaves
import Derived.RangeFuncCalls
import Derived.RangeFuncFrom
import Derived.Scope
import Derived.OrdersIn
import Derived.TacticsIn
import Derived.Stop.BytesEq
import Derived.IntWalk
import Derived.Laws.StructEq
import Derived.Laws.Small
import Derived.Shelf.Abstract
import Derived.OwnWalkIn
import Derived.Laws.Slices
import Derived.ChangeKeysEq
import Derived.KernelRfl
import Derived.RangeFuncNested
import Derived.RangeFuncBound
import Derived.MapKept
import Derived.Deep.AppendSrc
import Derived.Laws.AppendOwn
import Derived.Laws.MakeOwn
import Derived.Laws.BytesArg
import Derived.Laws.IdiomStrings
set_option linter.unusedSimpArgs false
set_option linter.unusedVariables false
namespace Go.Proofs.YtcoldbcijgmidaaGreatDoor
noncomputable section
section
open Go.RowKit
theorem Za:type_of% @List.getElem?_eq_getElem:=@List.getElem?_eq_getElem
theorem Zb:type_of% @Nat.le_refl:=@Nat.le_refl
theorem Zc:type_of% @congrArg:=@congrArg
theorem Zd:type_of% @Bool.and_eq_true:=@Bool.and_eq_true
theorem Ze:type_of% @List.length_map:=@List.length_map
theorem Zf:type_of% @Nat.zero_le:=@Nat.zero_le
theorem Zg:type_of% @if_neg:=@if_neg
theorem Zh:type_of% @List.length_append:=@List.length_append
theorem Zi:type_of% @Nat.eq_of_beq_eq_true:=@Nat.eq_of_beq_eq_true
theorem Zj:type_of% @List.mem_of_getElem?:=@List.mem_of_getElem?
theorem Zk:type_of% @List.getElem?_eq_some_iff:=@List.getElem?_eq_some_iff
theorem Zl:type_of% @if_pos:=@if_pos
theorem Zm:type_of% @Option.some.injEq:=@Option.some.injEq
theorem Zn:type_of% @Nat.ble_eq_true_of_le:=@Nat.ble_eq_true_of_le
theorem Zo:type_of% @List.length_cons:=@List.length_cons
theorem Zp:type_of% @List.take_of_length_le:=@List.take_of_length_le
theorem Zq:type_of% @decide_eq_true:=@decide_eq_true
theorem Zs:type_of% @Array.getElem?_eq_some_iff:=@Array.getElem?_eq_some_iff
theorem Zt:type_of% @Nat.le_trans:=@Nat.le_trans
theorem Zu:type_of% @List.length_take:=@List.length_take
theorem Zv:type_of% @Nat.lt_of_lt_of_le:=@Nat.lt_of_lt_of_le
theorem Zw:type_of% @decide_eq_false:=@decide_eq_false
theorem Zx:type_of% @List.append_assoc:=@List.append_assoc
theorem Zy:type_of% @List.length_drop:=@List.length_drop
theorem Zz:type_of% @run_underlying:=@run_underlying
theorem ZA:type_of% @Option.some.inj:=@Option.some.inj
theorem ZB:type_of% @List.mem_cons:=@List.mem_cons
theorem ZC:type_of% @Nat.lt_succ_iff_lt_or_eq:=@Nat.lt_succ_iff_lt_or_eq
theorem ZD:type_of% @List.map_cons:=@List.map_cons
theorem ZE:type_of% @Result.andThen_ok:=@Result.andThen_ok
theorem ZF:type_of% @List.mem_of_mem_drop:=@List.mem_of_mem_drop
theorem ZG:type_of% @Nat.zero_add:=@Nat.zero_add
theorem ZH:type_of% @Nat.beq_eq:=@Nat.beq_eq
theorem ZI:type_of% @Array.getElem?_eq_getElem:=@Array.getElem?_eq_getElem
theorem ZJ:type_of% @List.mem_of_mem_take:=@List.mem_of_mem_take
theorem ZK:type_of% @List.take_append_drop:=@List.take_append_drop
theorem ZL:type_of% @Nat.lt_or_ge:=@Nat.lt_or_ge
theorem ZM:type_of% @Nat.add_assoc:=@Nat.add_assoc
theorem ZN:type_of% @Sem.run_bind:=@Sem.run_bind
theorem ZO:type_of% @List.mem_append:=@List.mem_append
theorem ZP:type_of% @List.length_nil:=@List.length_nil
theorem ZQ:type_of% @Nat.add_mul:=@Nat.add_mul
theorem ZR:type_of% @Prod.mk.injEq:=@Prod.mk.injEq
theorem ZS:type_of% @List.mem_cons_of_mem:=@List.mem_cons_of_mem
theorem ZT:type_of% @List.append_nil:=@List.append_nil
theorem ZU:type_of% @List.size_toArray:=@List.size_toArray
theorem ZV:type_of% @List.mem_cons_self:=@List.mem_cons_self
theorem ZW:type_of% @List.not_mem_nil:=@List.not_mem_nil
theorem ZX:type_of% @List.drop_zero:=@List.drop_zero
theorem ZY:type_of% @List.drop_of_length_le:=@List.drop_of_length_le
theorem ZZ:type_of% @List.length_eq_zero_iff:=@List.length_eq_zero_iff
theorem Z0:type_of% @List.getElem?_drop:=@List.getElem?_drop
theorem Z1:type_of% @List.getElem?_map:=@List.getElem?_map
theorem Z2:type_of% @List.mem_map:=@List.mem_map
theorem Z3:type_of% @Array.getD_eq_getD_getElem?:=@Array.getD_eq_getD_getElem?
theorem Z4:type_of% @List.map_append:=@List.map_append
theorem Z5:type_of% @List.take_append_of_le_length:=@List.take_append_of_le_length
theorem Z6:type_of% @Nat.mul_one:=@Nat.mul_one
theorem Z7:type_of% @Nat.mul_le_mul_right:=@Nat.mul_le_mul_right
theorem Z8:type_of% @List.length_replicate:=@List.length_replicate
theorem Z9:type_of% @List.drop_append_of_le_length:=@List.drop_append_of_le_length
theorem YA:type_of% @List.take_add_one:=@List.take_add_one
theorem YB:type_of% @List.drop_drop:=@List.drop_drop
theorem YC:type_of% @Array.toList_inj:=@Array.toList_inj
theorem YD:type_of% @Sem.run_pure:=@Sem.run_pure
theorem YE:type_of% @Nat.mul_comm:=@Nat.mul_comm
theorem YF:type_of% @of_decide_eq_true:=@of_decide_eq_true
theorem YG:type_of% @Nat.lt_succ_self:=@Nat.lt_succ_self
theorem YH:type_of% @List.mem_singleton:=@List.mem_singleton
theorem YI:type_of% @List.length_set:=@List.length_set
theorem YJ:type_of% @List.getElem?_take:=@List.getElem?_take
theorem YK:type_of% @decide_eq_true_eq:=@decide_eq_true_eq
theorem YL:type_of% @Nat.min_eq_left:=@Nat.min_eq_left
theorem YM:type_of% @List.cons.injEq:=@List.cons.injEq
theorem YN:type_of% @List.nodup_nil:=@List.nodup_nil
theorem YO:type_of% @Nat.le_succ:=@Nat.le_succ
theorem YP:type_of% @List.take_take:=@List.take_take
theorem YQ:type_of% @List.drop_length_add_append:=@List.drop_length_add_append
theorem YR:type_of% @Nat.blt_eq:=@Nat.blt_eq
theorem YS:type_of% @Nat.eq_zero_or_pos:=@Nat.eq_zero_or_pos
theorem YT:type_of% @Array.getElem?_setIfInBounds:=@Array.getElem?_setIfInBounds
theorem YU:type_of% @Option.getD_none:=@Option.getD_none
theorem YV:type_of% @Nat.mod_eq_of_lt:=@Nat.mod_eq_of_lt
theorem YW:type_of% @List.cons_append:=@List.cons_append
theorem YX:type_of% @List.nil_append:=@List.nil_append
theorem YY:type_of% @Classical.byContradiction:=@Classical.byContradiction
theorem YZ:type_of% @decide_eq_decide:=@decide_eq_decide
theorem Y0:type_of% @Nat.beq_refl:=@Nat.beq_refl
theorem Y1:type_of% @List.nodup_cons:=@List.nodup_cons
theorem Y2:type_of% @List.getElem?_append:=@List.getElem?_append
theorem Y3:type_of% @Bool.and_false:=@Bool.and_false
theorem Y4:type_of% @Bool.or_eq_true:=@Bool.or_eq_true
theorem Y5:type_of% @Nat.add_zero:=@Nat.add_zero
theorem Y6:type_of% @Bool.true_and:=@Bool.true_and
theorem Y7:type_of% @Nat.pow_le_pow_right:=@Nat.pow_le_pow_right
theorem Y8:type_of% @Nat.sub_zero:=@Nat.sub_zero
def Qkq(w:World)(a:Addr)(n:Nat):Option (Array Value):=
 match w.heap[a.block]? with
 |some (.cells c _ _)=>if a.spot=none/\a.off+n<=c.size then some (c.extract a.off (a.off+n)) else none
 |_=>none
def aggLen(P:Program)(T:TypeId):Option Nat:=
 match P.underlying T with
 |some (.struct _)=>(P.info? T).map (·.size)
 |some (.array _ _)=>(P.info? T).map (·.size)
 |_=>none
def nLq(T:TypeId)(a:Addr):Sem Value:=loadVar T a
theorem cmq{P:Program}{T n:Nat}(h:aggLen P T=some n)(w:World):(isAgg T).run P w= .ok true w/\(sizeOf T).run P w= .ok n w:=by
 unfold aggLen at h;cases a:P.underlying T with
 |none=>simp[a] at h
 |some d=>
  cases b:P.info? T with
  |none=>cases d<;>simp[a,b] at h
  |some i=>
   have c:i.size=n:=by grind
   refine⟨?_,?_⟩
   .unfold isAgg;rw[ZN,Zz a w];cases d<;>simp_all
   .simp[sizeOf,typeInfo,b,c]
theorem fCq{w:World}{a:Addr}{n:Nat}{b:Array Value}(h:Qkq w a n=some b):b.size=n/\∀j v,b[j]? =some v->w.cell? (a.add j)=some v:=by
 grind[Qkq,Addr.add,World.cell?]
theorem Qiq{P:Program}{T n:Nat}(h:aggLen P T=some n)(a:Addr)(w:World):
  (loadVar T a).run P w=match Qkq w a n with
   |some b=>.ok (.agg b) w
   |none=>(nLq T a).run P w:=by
 cases e:Qkq w a n with
 |none=>rfl
 |some b=>
  obtain⟨m,c⟩:=fCq e;obtain⟨f,l⟩:=cmq h w;have i:=run_loadCells_list (P:=P) w a b.toList (λj v d=>c j v (by simpa using d));simp_all[loadVar]
section
variable (w:World)
@[simp,go_sem] theorem waq(a:Addr)(m:Nat):Qkq w.drew a m=Qkq w a m:=rfl
@[simp,go_sem] theorem r6q(k:Nat)(a:Addr)(m:Nat):Qkq (w.drewN k) a m=Qkq w a m:=rfl
end
def q5q(c:Array Value)(b:Nat)(d:Array Value):Array Value:=(c.toList.take b++d.toList++c.toList.drop (b+d.size)).toArray
theorem vpq(c:Array Value)(a:Nat)(b:Array Value)(h:a+b.size<=c.size):(q5q c a b).size=c.size:=by
 simp[q5q];omega
def eOq(w:World)(a:Addr)(n:Nat):Bool:=
 match w.heap[a.block]? with
 |some (.cells c _ f)=>decide (a.spot=none)&&decide (f=(0,0))&&decide (a.off+n<=c.size)
 |_=>false
def eaq(w:World)(a:Addr)(b:Array Value):World:=
 match w.heap[a.block]? with
 |some (.cells c _ _)=>w.setRow a.block (q5q c a.off b)
 |_=>w
def nlq(a:Array Value):Bool:=a.all (·.oneCell')
section
variable (w:World)
@[simp,go_sem] theorem s8q(a:Addr)(m:Nat):eOq w.drew a m=eOq w a m:=rfl
@[simp,go_sem] theorem pWq(k:Nat)(a:Addr)(m:Nat):eOq (w.drewN k) a m=eOq w a m:=rfl
@[simp] theorem mRq(a:Addr)(b:Array Value):(eaq w a b).heap.size=w.heap.size:=by
 unfold eaq;split<;>simp
end
theorem Xd{p:Prop}(h:p:=by omega):p:=h
theorem Xg{p:Prop}(h:p:=by decide):p:=h
theorem Xi{p:Prop}(h:p:=by simp):p:=h
theorem Xn{p:Prop}(h:p:=by simp;omega):p:=h
theorem Yi{p:Prop}(h:p:=by assumption):p:=h
theorem Xh{p:Prop}(h:p:=by repeat (first|exact trivial|refine⟨by first|rfl|exact zaq (by first|rfl|(simp;done)),?_⟩)):p:=h
theorem Xk{p:Prop}(h:p:=by repeat (first|exact trivial|refine⟨⟨by decide,rfl,by first|rfl|exact zaq (by first|rfl|(simp;done))⟩,?_⟩)):p:=h
theorem Xm{p:Prop}(h:p:=by first|rfl|assumption|(simp;done)):p:=h
theorem Xo{p:Prop}(h:p:=by first|exact .inr rfl|exact .inl rfl):p:=h
theorem Xt{p:Prop}(h:p:=by first|decide|simp):p:=h
theorem Xu{p:Prop}(h:p:=by simp only;omega):p:=h
theorem Ye{p:Prop}(h:p:=by intro l h;cases h):p:=h
theorem Xj{p:Prop}(h:p:=by intro h;cases h):p:=h
theorem Xl{p:Prop}(h:p:=by intro b hb;simp only[ZB,ZW,or_false] at hb;omega):p:=h
theorem Yx{p:Prop}(h:p:=by rw[Zy];omega):p:=h
theorem Yz{p:Prop}(h:p:=by simp[aaq,acq]):p:=h
theorem Qd{p:Prop}(h:p:=by rw[zdq (yWq _ _ _)];rfl):p:=h
theorem Qs{p:Prop}(h:p:=by rw[Y0,Bool.and_true]):p:=h
theorem Xp{p:Prop}(h:p:=by kernel_rfl):p:=h
theorem Xq{p:Prop}(h:p:=by first|rfl|kernel_rfl):p:=h
theorem Xx{p:Prop}(h:p:=by repeat (first|exact kvq|refine kyq Xd ?_|refine kwq Xd ?_|refine kxq Xd ?_)):p:=h
theorem Xz{p:Prop}(h:p:=by rw[Zg hno]):p:=h
theorem Xr{p:Prop}(h:p:=by congr 1;first|exact(Zl ⟨hm,by omega⟩).symm|exact(Zg λq=>by have:=q.2;omega).symm):p:=h
theorem Xv{p:Prop}(h:p:=by simp only[Zh];omega):p:=h
theorem Yo{p:Prop}(h:p:=by show 6<7;omega):p:=h
theorem Yu{p:Prop}(h:p:=by show 5<6;omega):p:=h
theorem Yv{p:Prop}(h:p:=by show 1<5;omega):p:=h
theorem Jk{p:Prop}(h:p:=by rw[Zl hc,Zl (hc.trans hc'.symm)];exact xfq hms hok1 hm (.nil) Xd):p:=h
theorem Jl{p:Prop}(h:p:=by rw[Zg Xd,Zl (hc.trans hc'.symm)];exact xfq hms hok1 (.nil) hm Xd):p:=h
theorem Jm{p:Prop}(h:p:=by rw[Zl hc,Zg Xd];exact xfq hms hok1 hm ((Rep.leaf hx).app _) Xd):p:=h
theorem Jn{p:Prop}(h:p:=by rw[Zg Xd,Zg Xd];exact xfq hms hok1 ((Rep.leaf hx).app _) hm Xd):p:=h
theorem Xw{p:Prop}(h:p:=by first|assumption|(simp;done)|(simp[zcq];done)):p:=h
theorem Ya{p:Prop}(h:p:=by first|rfl|exact Zh.symm):p:=h
theorem Yr{p:Prop}(h:p:=by first|omega|decide):p:=h
theorem Qh{p:Prop}(h:p:=by intro h;rw[h] at hN;cases hN):p:=h
theorem Xy{p:Prop}(h:p:=by first|rw[Zl (by unfold okH;omega)]|rw[Zg (by unfold okH;omega)]):p:=h
theorem Qm{p:Prop}(h:p:=by rw[show [beB 8 h.height.toNat,h.parent.1,h.state.1,h.rows.1,beB 4 h.many.toNat].flatten=hdB h from rfl];omega):p:=h
theorem Yc{p:Prop}(h:p:=by rw[Zl hm]):p:=h
theorem Yt{p:Prop}(h:p:=by rw[Zq (ho)]):p:=h
theorem Yd{p:Prop}(h:p:=by simp[acq]):p:=h
theorem Yf{p:Prop}(h:p:=by simp[hN,hN3,oH]):p:=h
theorem Yg{p:Prop}(h:p:=by rw[hvl,show Nat.min m (n+m-i)=m by simp only[Nat.min_def];split<;>omega]):p:=h
theorem Yh{p:Prop}(h:p:=by simp[Act.eval,Act.put]):p:=h
theorem Qy{p:Prop}(h:p:=by rw[hdl,show Nat.min (n+m-i) (n+m-(i+m))=n-i by simp only[Nat.min_def];split<;>omega]):p:=h
theorem Jb{p:Prop}(h:p:=by rw[hdl,show Nat.min (n-i) (n+m-(i+m))=n-i by simp only[Nat.min_def];split<;>omega]):p:=h
theorem Yj{p:Prop}(h:p:=by rw[<-e];rfl):p:=h
theorem Jp{p:Prop}(h:p:=by rw[Zp Xi,vOq]):p:=h
theorem Yk{p:Prop}(h:p:=by rw[e];omega):p:=h
theorem Ql{p:Prop}(h:p:=by show 1<2;omega):p:=h
theorem Ym{p:Prop}(h:p:=by rw[Zw];intro h;rw[aKq,Zg h1] at h;omega):p:=h
theorem Yp{p:Prop}(h:p:=by rw[Zl yes]):p:=h
theorem Yn{p:Prop}(h:p:=by rw[Zu];omega):p:=h
theorem Yq{p:Prop}(h:p:=by have:=yGq hj;omega):p:=h
theorem Je{p:Prop}(h:p:=by rw[YZ.2 hi]):p:=h
theorem Ys{p:Prop}(h:p:=by show [_,W.agg 2 [a1,a2],_]=[_,adq _ (W.agg 2 [a1,a2]),_];rw[zdq hpo];rfl):p:=h
theorem Qb{p:Prop}(h:p:=by show(true&&(agq 1 (W.agg 2 [a1,a2])&&true))=true;rw[zaq hpo];rfl):p:=h
theorem Yw{p:Prop}(h:p:=by rw[Zq rfl]):p:=h
theorem Yy{p:Prop}(h:p:=by rw[zdq (yjq _ _)];rfl):p:=h
theorem Qo{p:Prop}(h:p:=by rw[qlq];omega):p:=h
theorem Qt{p:Prop}(h:p:=by show 4<=5;decide):p:=h
theorem Jh{p:Prop}(h:p:=by simp[psH]):p:=h
theorem Qa{p:Prop}(h:p:=by simp only[ZP];omega):p:=h
theorem Qc{p:Prop}(h:p:=by show ns.length<=_;omega):p:=h
theorem Qk{p:Prop}(h:p:=by show 4<5;omega):p:=h
theorem Qe{p:Prop}(h:p:=by show(aaq (.agg 2 [a1,a2])&&(true&&true))=true;rw[hpo2];rfl):p:=h
theorem Qf{p:Prop}(h:p:=by rw[Zl c1]):p:=h
theorem Qg{p:Prop}(h:p:=by rw[Zl c0]):p:=h
theorem Qu{p:Prop}(h:p:=by rw[Zl c2]):p:=h
theorem Jg{p:Prop}(h:p:=by rw[Zw (c5)]):p:=h
theorem Qi{p:Prop}(h:p:=by cases h):p:=h
theorem Qj{p:Prop}(h:p:=by split;(rename_i q;exact absurd q hd);(dsimp only;rw[hb])):p:=h
theorem Qn{p:Prop}(h:p:=by simp[hpS,Rst.hp]):p:=h
theorem Jd{p:Prop}(h:p:=by intro b hb;simp only[ZB,ZW,or_false] at hb;show b<3;omega):p:=h
theorem Qp{p:Prop}(h:p:=by congr 1;first|exact(Zq Xd).symm|exact(Zw Xd).symm|exact YZ.2 Xd):p:=h
theorem Qq{p:Prop}(h:p:=by rw[Ze] at h;exact h):p:=h
theorem Qr{p:Prop}(h:p:=by simp[V.size]):p:=h
theorem Qx{p:Prop}(h:p:=by rw[ok.zagg];exact ha):p:=h
theorem Qv{p:Prop}(h:p:=by rw[ZG]):p:=h
theorem Qw{p:Prop}(h:p:=by show(0:Int)<1;decide):p:=h
theorem Qz{p:Prop}(h:p:=by simp[acq,aaq]):p:=h
theorem Ja{p:Prop}(h:p:=by rw[zdq (zLq _)];rfl):p:=h
theorem Jc{p:Prop}(h:p:=by rw[Zw hw];rfl):p:=h
theorem Jf{p:Prop}(h:p:=by simpa using hf):p:=h
theorem Ji{p:Prop}(h:p:=by simpa only[ltB] using h):p:=h
theorem Jj{p:Prop}(h:p:=by simp only[zQq,gL,hlv,e1,gL1,e2,gL2]):p:=h
theorem Jo{p:Prop}(h:p:=by injection hx with hx;exact hx.symm):p:=h
theorem Jq{p:Prop}(h:p:=by rw[ahq,uoq _ _ _ _ hpb,uzq];rfl):p:=h
theorem Jr{b:Sort _}{p:Prop}{a:b}:p∨a=a:=.inr rfl
theorem Y{α:Sort _}{a:α}:a=a:=rfl
theorem Yb{n m:Nat}(h:Nat.ble n m=true):n<=m:=Nat.le_of_ble_eq_true h
inductive V where
 |undef
 |bool (b:Bool)
 |int (k:IntKind) (n:Int)
 |str (s:List UInt8)
 |nilp
 |ptr (b off:Nat)
 |nils
 |sl (b base off len esz:Nat) (lim:Option Nat)
 |nilm
 |map (r:Nat)
 |fn (f:FuncId) (first captured:List V)
 |yield (l:Nat)
 |nilf
 |iface (t:TypeId) (v:V)
 |nili
 |agg (n:Nat) (items:List V)
 |arr (n e:Nat) (items:List V)
 |tup (vs:List V)
 deriving Inhabited
structure Env where
 b:Nat->Nat
 pre:Nat->Nat
 cap:Nat->Nat
 l:Nat->Nat×Option Addr
def fit(n:Nat)(l:List Value):List Value:=(l++List.replicate n (Value.bool false)).take n
@[simp] theorem Z4q(n:Nat)(l:List Value):(fit n l).length=n:=by simp[fit]
theorem y2q{n:Nat}{l:List Value}(h:l.length=n):fit n l=l:=by
 subst h;simp[fit]
def V.size:V->Nat
 |.agg n _=>n
 |.arr n _ _=>n
 |_=>1
def V.isAgg:V->Bool
 |.agg _ _=>true
 |.arr _ _ _=>true
 |_=>false
def V.leaf:V->Bool
 |.agg _ _=>false
 |.arr _ _ _=>false
 |.tup _=>false
 |.undef=>false
 |_=>true
def ydq(e:Env)(b a d:Nat):Option Nat->Nat
 |some c=>c
 |none=>(e.cap b-a)/d
def ZIq(d:Env)(b c:Nat):Addr:=match (d.l b).2,Nat.beq (d.cap b) 0&&Nat.beq c 1 with
 |some a,true=>a
 |_,_=>⟨d.b b,d.pre b+c,none⟩
theorem grq{c:Env}{b a:Nat}(h:0<c.cap b):ZIq c b a=⟨c.b b,c.pre b+a,none⟩:=by
 grind[Zi,ZIq]
theorem Jyq{c:Env}{b a:Nat}(h:a≠1):ZIq c b a=⟨c.b b,c.pre b+a,none⟩:=by
 grind[Zi,ZIq]
@[simp] theorem t9q{a:Env}{b:Nat}:ZIq a b 0=⟨a.b b,a.pre b+0,none⟩:=Jyq Xg
theorem vQq{ρ:Env}{b base:Nat}(h:base<=ρ.cap b):ZIq ρ b base=⟨ρ.b b,ρ.pre b+base,none⟩:=by
 grind[grq,Jyq]
def ysq(d:Env)(b f a j g:Nat)(h:Option Nat):Value:=
 .slice (some (if ydq d b a g h=0 then ZIq d b f else⟨d.b b,d.pre b+a,none⟩)) j (ydq d b a g h)
mutual
/-- what a value stands for -/
def abq(h:Env):V->Value
 |.undef=>.tuple #[]
 |.bool b=>.bool b
 |.int k n=>.int k n
 |.str s=>.string ⟨⟨s⟩⟩
 |.nilp=>.pointer none
 |.ptr b j=>.pointer (some ⟨h.b b,h.pre b+j,none⟩)
 |.nils=>.slice none 0 0
 |.sl b q j z w x=>ysq h b q j z w x
 |.nilm=>.map none
 |.map r=>.map (some (h.b r))
 |.fn f a c=>.func (.func f) (zPq h a).toArray (zPq h c).toArray
 |.yield l=>.func (.yield (h.l l).1) #[] #[]
 |.nilf=>.nilFunc
 |.iface t v=>.iface t (abq h v)
 |.nili=>.nilIface
 |.agg n l=>.agg (fit n (j8q h l)).toArray
 |.arr n e l=>.agg (fit n (zpq h e l)).toArray
 |.tup l=>.tuple (zPq h l).toArray
def zPq(a:Env):List V->List Value
 |[]=>[]
 |v::l=>abq a v::zPq a l
/-- the cells of one behind those of the other -/
def j8q(a:Env):List V->List Value
 |[]=>[]
 |v::l=>cellsV a v++j8q a l
/-- e cells of each -/
def zpq(a:Env)(e:Nat):List V->List Value
 |[]=>[]
 |v::l=>fit e (cellsV a v)++zpq a e l
/-- the cells of a value -/
def cellsV(h:Env):V->List Value
 |.agg n l=>fit n (j8q h l)
 |.arr n e l=>fit n (zpq h e l)
 |.tup _=>[.bool false]
 |.undef=>[.bool false]
 |.bool b=>[.bool b]
 |.int k n=>[.int k n]
 |.str s=>[.string ⟨⟨s⟩⟩]
 |.nilp=>[.pointer none]
 |.ptr b j=>[.pointer (some ⟨h.b b,h.pre b+j,none⟩)]
 |.nils=>[.slice none 0 0]
 |.sl b q j z w x=>[ysq h b q j z w x]
 |.nilm=>[.map none]
 |.map r=>[.map (some (h.b r))]
 |.fn f a c=>[.func (.func f) (zPq h a).toArray (zPq h c).toArray]
 |.yield l=>[.func (.yield (h.l l).1) #[] #[]]
 |.nilf=>[.nilFunc]
 |.iface t v=>[.iface t (abq h v)]
 |.nili=>[.nilIface]
end
theorem k9q(a:Env):∀l:List V,zPq a l=l.map (abq a)
 |[]=>by simp[zPq]
 |v::l=>by simp[zPq,k9q a l]
theorem kRq{ρ:Env}{v:V}(h:v.leaf=true):cellsV ρ v=[abq ρ v]:=by
 cases v<;>simp[V.leaf] at h<;>simp[cellsV,abq]
theorem qPq{b:Env}{v:V}(h:v.isAgg=true):abq b v= .agg (cellsV b v).toArray:=by
 cases v<;>simp[V.isAgg] at h<;>simp[cellsV,abq]
@[simp] theorem yHq(a:Env)(v:V):(cellsV a v).length=v.size:=by
 cases v<;>simp[cellsV,V.size]
theorem qJq{b:Env}{v:V}(h:v.leaf=true\/v.isAgg=true):(abq b v).cells=(cellsV b v).toArray:=by
 cases v<;>simp[V.leaf,V.isAgg] at h<;>simp[cellsV,abq,Value.cells,ysq]
theorem dsq{n:Nat}{l:List Value}{x:Value}(h:x∈fit n l):x∈l\/x= .bool false:=by
 grind[fit]
mutual
theorem Q9q(k:Env):∀(v:V),∀x∈cellsV k v,x.oneCell'=true
 |.agg n l=>λx j=>by
  simp only[cellsV] at j;rcases dsq j with h|rfl
  .exact Kaq k l x h
  .rfl
 |.arr n e l=>λx j=>by
  simp only[cellsV] at j;rcases dsq j with h|rfl
  .exact qKq k e l x h
  .rfl
 |.undef=>λx j=>by simp[cellsV] at j;subst j;rfl
 |.tup _=>λx j=>by simp[cellsV] at j;subst j;rfl
 |.bool _=>λx j=>by simp[cellsV] at j;subst j;rfl
 |.int _ _=>λx j=>by simp[cellsV] at j;subst j;rfl
 |.str _=>λx j=>by simp[cellsV] at j;subst j;rfl
 |.nilp=>λx j=>by simp[cellsV] at j;subst j;rfl
 |.ptr _ _=>λx j=>by simp[cellsV] at j;subst j;rfl
 |.nils=>λx j=>by simp[cellsV] at j;subst j;rfl
 |.sl _ _ _ _ _ _=>λx j=>by simp[cellsV] at j;subst j;rfl
 |.nilm=>λx j=>by simp[cellsV] at j;subst j;rfl
 |.map _=>λx j=>by simp[cellsV] at j;subst j;rfl
 |.fn _ _ _=>λx j=>by simp[cellsV] at j;subst j;rfl
 |.yield _=>λx j=>by simp[cellsV] at j;subst j;rfl
 |.nilf=>λx j=>by simp[cellsV] at j;subst j;rfl
 |.iface _ _=>λx j=>by simp[cellsV] at j;subst j;rfl
 |.nili=>λx j=>by simp[cellsV] at j;subst j;rfl
theorem Kaq(d:Env):∀(l:List V),∀x∈j8q d l,x.oneCell'=true
 |[]=>λx b=>by simp[j8q] at b
 |v::l=>λx b=>by
  simp only[j8q,ZO] at b;rcases b with h|h
  .exact Q9q d v x h
  .exact Kaq d l x h
theorem qKq(d:Env)(e:Nat):∀(l:List V),∀x∈zpq d e l,x.oneCell'=true
 |[]=>λx b=>by simp[zpq] at b
 |v::l=>λx b=>by
  simp only[zpq,ZO] at b;rcases b with h|h
  .rcases dsq h with h|rfl
   .exact Q9q d v x h
   .rfl
  .exact qKq d e l x h
end
theorem rfq{a b:Nat}(h:a<b):Nat.blt a b=true:=by rw[YR];exact h
theorem rgq{a b:Nat}(h:¬a<b):Nat.blt a b=false:=by
 grind[YR]
theorem A1q{a:Type}(b:Bool)(x y:a):(if b=true then x else y)=Bool.rec (motive:=λ_=>a) y x b:=by cases b<;>rfl
def DHq(a b:Bool):Bool:=Bool.rec (motive:=λ_=>Bool) (Bool.rec (motive:=λ_=>Bool) true false b) b a
theorem lHq(a b:Bool):(a==b)=DHq a b:=by cases a<;>cases b<;>rfl
theorem lGq(a b:Nat):(a==b)=Nat.beq a b:=by
 grind[Zi,Y0]
def C6q{a:Type}(l:List a):Nat->Option a:=List.rec (motive:=λ_=>Nat->Option a) (λ_=>none) (λv _ b i=>Nat.rec (motive:=λ_=>Option a) (some v) (λj _=>b j) i) l
theorem dbq{a:Type}:∀(l:List a) (i:Nat),l[i]? =C6q l i
 |[],i=>by simp;rfl
 |v::l,0=>rfl
 |v::l,i+1=>by
  rw[List.getElem?_cons_succ,dbq l i];rfl
def D3q{a:Type}(x:a)(l:List a):Nat->List a:=List.rec (motive:=λ_=>Nat->List a) (λ_=>[]) (λv l b i=>Nat.rec (motive:=λ_=>List a) (x::l) (λj _=>v::b j) i) l
theorem hkq{a:Type}(x:a):∀(l:List a) (i:Nat),l.set i x=D3q x l i
 |[],i=>by simp;rfl
 |v::l,0=>rfl
 |v::l,i+1=>by
  rw[List.set_cons_succ,hkq x l i];rfl
def Jsq(l:List V):Nat->Option (V×Nat):=List.rec (motive:=λ_=>Nat->Option (V×Nat)) (λ_=>none) (λv _ a o=>Bool.rec (motive:=λ_=>Option (V×Nat)) (a (Nat.sub o v.size)) (some (v,o)) (Nat.blt o v.size)) l
theorem QQq(o:Nat):Jsq [] o=none:=rfl
theorem Z7q(v:V)(l:List V)(o:Nat):Jsq (v::l) o=if o<v.size then some (v,o) else Jsq l (o-v.size):=by
 show Bool.rec (motive:=λ_=>Option (V×Nat)) (Jsq l (o-v.size)) (some (v,o)) (Nat.blt o v.size)=_;by_cases h:o<v.size
 .rw[Zl h,rfq h]
 .rw[Zg h,rgq h]
def A9q(g:V->Nat->Nat->Bool->Option V)(m:Nat)(l:List V)(a n:Nat)(b:Bool):Option V:=match Jsq l a with
 |some (x,o)=>Bool.rec (motive:=λ_=>Option V) none (g x o n b) (Nat.ble (Nat.add (Nat.sub a o) x.size) m)
 |none=>none
def A8q(g:V->Nat->Nat->Bool->Option V)(m e:Nat)(l:List V)(a n:Nat)(b:Bool):Option V:=match C6q l (Nat.div a e) with
 |some x=>Bool.rec (motive:=λ_=>Option V) none (g x (Nat.mod a e) n b) (Bool.and (Nat.beq x.size e) (Nat.ble (Nat.add (Nat.mul (Nat.div a e) e) e) m))
 |none=>none
def Doq(g:V->Nat->Nat->Bool->Option V)(v:V)(b n:Nat)(c:Bool):Option V:=match v with
 |.agg m l=>A9q g m l b n c
 |.arr m e l=>A8q g m e l b n c
 |_=>none
def dpq(g:V->Nat->Nat->Bool->Option V)(v:V)(a n:Nat)(b:Bool):Option V:=
 Bool.rec (motive:=λ_=>Option V) (Doq g v a n b) (Bool.rec (motive:=λ_=>Option V) none (some v) (Bool.or b v.leaf)) (Bool.and (Bool.and (Nat.beq a 0) (Nat.beq n v.size)) (DHq b v.isAgg))
def vgq(f:Nat):V->Nat->Nat->Bool->Option V:=Nat.rec (motive:=λ_=>V->Nat->Nat->Bool->Option V) (λ_ _ _ _=>none) (λ_ a=>dpq a) f
theorem vCq(v:V)(a n:Nat)(b:Bool):vgq 0 v a n b=none:=rfl
theorem xZq(f:Nat)(v:V)(b n:Nat)(c:Bool):vgq (f+1) v b n c=
  if b==0&&n==v.size&&c==v.isAgg then(if c||v.leaf then some v else none)
  else match v with
   |.agg m l=>match Jsq l b with
    |some (x,o)=>if Nat.ble (b-o+x.size) m then vgq f x o n c else none
    |none=>none
   |.arr m e l=>match l[b/e]? with
    |some x=>if x.size==e&&Nat.ble (b/e*e+e) m then vgq f x (b%e) n c else none
    |none=>none
   |_=>none:=by
 show dpq (vgq f) v b n c=_;unfold dpq;simp only[A1q,lHq,lGq,dbq];congr 1
def KDq(g:V->Nat->Option V)(l:List V):Nat->Option (List V×Nat×Nat):=List.rec (motive:=λ_=>Nat->Option (List V×Nat×Nat)) (λ_=>none) (λv l a o=>Bool.rec (motive:=λ_=>Option (List V×Nat×Nat))
  (match a (Nat.sub o v.size) with
   |some (l',o',s)=>some (v::l',o',s)
   |none=>none)
  (match g v o with
   |some b=>some (b::l,o,v.size)
   |none=>none) (Nat.blt o v.size)) l
theorem Qqq(g:V->Nat->Option V)(o:Nat):KDq g [] o=none:=rfl
theorem ZXq(g:V->Nat->Option V)(v:V)(l:List V)(o:Nat):KDq g (v::l) o=if o<v.size then(match g v o with|some a=>some (a::l,o,v.size)|none=>none) else
  match KDq g l (o-v.size) with
  |some (l',o',s)=>some (v::l',o',s)
  |none=>none:=by
 show Bool.rec (motive:=λ_=>Option (List V×Nat×Nat)) (match KDq g l (o-v.size) with
   |some (l',o',s)=>some (v::l',o',s)
   |none=>none) (match g v o with
   |some a=>some (a::l,o,v.size)
   |none=>none) (Nat.blt o v.size)=_
 by_cases h:o<v.size
 .rw[Zl h,rfq h]
 .rw[Zg h,rgq h]
def Abq(g:V->Nat->V->Option V)(m:Nat)(l:List V)(b:Nat)(x:V):Option V:=match KDq (λy o=>g y o x) l b with
 |some (l',o,s)=>Bool.rec (motive:=λ_=>Option V) none (some (.agg m l')) (Nat.ble (Nat.add (Nat.sub b o) s) m)
 |none=>none
def Aaq(g:V->Nat->V->Option V)(m e:Nat)(l:List V)(b:Nat)(x:V):Option V:=match C6q l (Nat.div b e) with
 |some y=>Bool.rec (motive:=λ_=>Option V) none (match g y (Nat.mod b e) x with
  |some c=>some (.arr m e (D3q c l (Nat.div b e)))
  |none=>none) (Bool.and (Nat.beq y.size e) (Nat.ble (Nat.add (Nat.mul (Nat.div b e) e) e) m))
 |none=>none
def CUq(g:V->Nat->V->Option V)(v:V)(b:Nat)(x:V):Option V:=match v with
 |.agg m l=>Abq g m l b x
 |.arr m e l=>Aaq g m e l b x
 |_=>none
def c1q(g:V->Nat->V->Option V)(v:V)(a:Nat)(x:V):Option V:=
 Bool.rec (motive:=λ_=>Option V) (CUq g v a x) (Bool.rec (motive:=λ_=>Option V) none (some x) (Bool.or x.isAgg (Bool.and v.leaf x.leaf))) (Bool.and (Bool.and (Nat.beq a 0) (Nat.beq x.size v.size)) (DHq x.isAgg v.isAgg))
def veq(f:Nat):V->Nat->V->Option V:=Nat.rec (motive:=λ_=>V->Nat->V->Option V) (λ_ _ _=>none) (λ_ a=>c1q a) f
theorem vtq(v:V)(a:Nat)(x:V):veq 0 v a x=none:=rfl
theorem xRq(f:Nat)(v:V)(b:Nat)(x:V):veq (f+1) v b x=
  if b==0&&x.size==v.size&&x.isAgg==v.isAgg then(if x.isAgg||(v.leaf&&x.leaf) then some x else none)
  else match v with
   |.agg m l=>match KDq (λy o=>veq f y o x) l b with
    |some (l',o,s)=>if Nat.ble (b-o+s) m then some (.agg m l') else none
    |none=>none
   |.arr m e l=>match l[b/e]? with
    |some y=>if y.size==e&&Nat.ble (b/e*e+e) m then(match veq f y (b%e) x with|some c=>some (.arr m e (l.set (b/e) c))|none=>none) else none
    |none=>none
   |_=>none:=by
 show c1q (veq f) v b x=_;unfold c1q;simp only[A1q,lHq,lGq,dbq,hkq];congr 1
theorem jpq{n:Nat}{a b c:List Value}(h:a.length+b.length<=n):((fit n (a++(b++c))).drop a.length).take b.length=b:=by
 simp only[fit];rw[List.drop_take,YP,Zx,List.drop_left,Zx];grind
theorem fZq{n:Nat}{a b f c:List Value}(h:a.length+b.length<=n)(g:f.length=b.length):
  fit n (a++(f++c))=(fit n (a++(b++c))).take a.length++f++(fit n (a++(b++c))).drop (a.length+b.length):=by
 simp only[fit];apply List.ext_getElem?;intro i;simp only[Zx,Y2,YJ,Z0,Zu,Zh,Z8,g];grind
theorem Z6q{ρ:Env}:∀(l:List V) (d:Nat) (x:V) (o:Nat),Jsq l d=some (x,o) ->
  ∃a c,j8q ρ l=a++(cellsV ρ x++c)/\a.length+o=d/\o<x.size
 |[],d,x,o,h=>by simp[QQq] at h
 |v::l,d,x,o,h=>by
  simp only[Z7q] at h;split at h
  .simp_all[j8q]
  .obtain⟨a,c,e,g,f⟩:=Z6q (ρ:=ρ) l _ x o h;exact⟨cellsV ρ v++a,c,by simp[j8q,e],by simp;omega,f⟩
theorem qCq{l:List Value}{a b c d:Nat}(h:c+d<=b):(((l.drop a).take b).drop c).take d=(l.drop (a+c)).take d:=by
 rw[List.drop_take,YP,YB,show min d (b-c)=d by omega]
theorem Xiq{ρ:Env}{e:Nat}:∀(l:List V) (i:Nat) (x:V),l[i]? =some x->∃a c,zpq ρ e l=a++(fit e (cellsV ρ x)++c)/\a.length=i*e
 |[],i,x,h=>by simp at h
 |v::l,0,x,h=>by simp_all[zpq]
 |v::l,i+1,x,h=>by
  simp at h;obtain⟨a,c,b,d⟩:=Xiq (ρ:=ρ) (e:=e) l i x h;grind[fit,zpq]
theorem vDq{ρ:Env}:∀(f:Nat) (v:V) (g n:Nat) (u:Bool) (x:V),vgq f v g n u=some x->
  x.size=n/\g+n<=v.size/\((cellsV ρ v).drop g).take n=cellsV ρ x/\(if u then x.isAgg=true else x.leaf=true)
 |0,v,g,n,u,x,h=>by simp[vCq] at h
 | f +1,v,g,n,u,x,h=>by
  simp only[xZq] at h;split at h
  .rename_i w;simp only[Zd,beq_iff_eq] at w;obtain⟨⟨rfl,rfl⟩,rfl⟩:=w;split at h
   .rename_i K;simp only[Zm] at h;subst h;refine⟨rfl,by omega,by rw[ZX,Zp Xi],?_⟩;grind
   .cases h
  .split at h
   .rename_i m l D;split at h
    .rename_i y o H;split at h
     .rename_i q;obtain⟨a,c,A,E,L⟩:=Z6q (ρ:=ρ) _ _ _ _ H;obtain⟨B,J,G,C⟩:=vDq (ρ:=ρ) f y o n u x h;have q:=Yb q;refine⟨B,by simp[V.size];omega,?_,C⟩;have M:a.length=g-o:=by omega
      have j:=jpq (n:=m) (a:=a) (b:=cellsV ρ y) (c:=c) Xn;rw[<-A] at j;simp only[cellsV];rw[<-G,<-j,qCq Xn,E]
     .cases h
    .cases h
   .rename_i m e l D;split at h
    .rename_i y I;split at h
     .rename_i w;simp only[Zd,beq_iff_eq] at w;have q:=Yb w.2;obtain⟨a,c,A,E⟩:=Xiq (ρ:=ρ) (e:=e) _ _ _ I;obtain⟨B,J,G,C⟩:=vDq (ρ:=ρ) f y (g%e) n u x h;have z:=Nat.div_add_mod g e;rw[YE] at z;refine⟨B,by simp[V.size];omega,?_,C⟩;have F:fit e (cellsV ρ y)=cellsV ρ y:=y2q (by simp[w.1]);rw[F] at A;have j:=jpq (n:=m) (a:=a) (b:=cellsV ρ y) (c:=c) Xn;rw[<-A] at j;simp only[cellsV];rw[<-G,<-j,qCq Xn,E,z]
     .cases h
    .cases h
   .cases h
def spl(c:List Value)(a:Nat)(b:List Value):List Value:=c.take a++b++c.drop (a+b.length)
theorem JHq{ρ:Env}{g:V->Nat->Option V}:∀(l:List V) (b:Nat) (f:List V) (o s:Nat),KDq g l b=some (f,o,s) ->
  ∃a y d c,j8q ρ l=a++(cellsV ρ y++c)/\j8q ρ f=a++(cellsV ρ d++c)/\g y o=some d/\a.length+o=b/\s=y.size/\o<s
 |[],b,f,o,s,h=>by simp[Qqq] at h
 |v::l,b,f,o,s,h=>by
  simp only[ZXq] at h;split at h
  .rename_i j;split at h
   .rename_i u x;simp only[Zm,ZR] at h;obtain⟨rfl,rfl,rfl⟩:=h;exact⟨[],v,u,j8q ρ l,by simp[j8q],by simp[j8q],x,by simp,rfl,j⟩
   .cases h
  .split at h
   .rename_i F E D w;simp only[Zm,ZR] at h;obtain⟨rfl,rfl,rfl⟩:=h;obtain⟨a,y,d,c,k,A,B,C,q,z⟩:=JHq (ρ:=ρ) l _ _ _ _ w;exact⟨cellsV ρ v++a,y,d,c,by simp[j8q,k],by simp[j8q,A],B,by simp;omega,q,z⟩
   .cases h
theorem fzq{c b:List Value}{a:Nat}(h:a+b.length<=c.length):(spl c a b).length=c.length:=by simp[spl];omega
theorem hcq{b vs a' c':List Value}{o:Nat}(h:o+vs.length<=b.length):
  a'++spl b o vs++c'=spl (a'++b++c') (a'.length+o) vs:=by
 grind[List.take_length_add_append,YQ,spl]
theorem iZq{n o:Nat}{a b d c vs:List Value}(h:a.length+b.length<=n)(e:d=spl b o vs)(f:o+vs.length<=b.length):
  fit n (a++(d++c))=spl (fit n (a++(b++c))) (a.length+o) vs:=by
 grind[fzq,fZq,hcq,Z4q]
theorem cfq{ρ:Env}{e:Nat}:∀(l:List V) (i:Nat) (x y:V),l[i]? =some x->∃a c,zpq ρ e l=a++(fit e (cellsV ρ x)++c)/\zpq ρ e (l.set i y)=a++(fit e (cellsV ρ y)++c)/\a.length=i*e
 |[],i,x,y,h=>by simp at h
 |v::l,0,x,y,h=>by simp at h;subst h;exact⟨[],zpq ρ e l,by simp[zpq],by simp[zpq],by simp⟩
 |v::l,i+1,x,y,h=>by
  simp at h;obtain⟨a,c,b,d,f⟩:=cfq (ρ:=ρ) (e:=e) l i x y h;grind[fit,zpq]
theorem vuq{ρ:Env}:∀(f:Nat) (v:V) (b:Nat) (x d:V),veq f v b x=some d->
  d.size=v.size/\b+x.size<=v.size/\cellsV ρ d=spl (cellsV ρ v) b (cellsV ρ x)/\d.isAgg=v.isAgg/\d.leaf=v.leaf/\(x.leaf=true\/x.isAgg=true)
 |0,v,b,x,d,h=>by simp[vtq] at h
 | f +1,v,b,x,d,h=>by
  simp only[xRq] at h;split at h
  .rename_i g;simp only[Zd,beq_iff_eq] at g;obtain⟨⟨rfl,H⟩,D⟩:=g;split at h
   .rename_i F;simp only[Zm] at h;subst h;simp only[Y4,Zd] at F;refine⟨H,by omega,by simp[spl,H],D,?_,?_⟩
    .rcases F with h|h
     .rw[h] at D;have G:∀y:V,y.isAgg=true->y.leaf=false:=λy u=>by cases y<;>simp[V.isAgg] at u<;>rfl
      rw[G _ h,G _ D.symm]
     .rw[h.1,h.2]
    grind
   .cases h
  .split at h
   .rename_i m l B;split at h
    .rename_i T o s N;split at h
     .rename_i j;simp only[Zm] at h;subst h;have j:=Yb j;obtain⟨a,y,q,c,K,R,S,O,W,U⟩:=JHq (ρ:=ρ) _ _ _ _ _ N;obtain⟨E,P,z,L,Q,A⟩:=vuq (ρ:=ρ) f y o x q S;refine⟨rfl,by show b+x.size<=m;omega,?_,rfl,rfl,A⟩;simp only[cellsV];rw[R,K,iZq (o:=o) (vs:=cellsV ρ x) Xn z Xn,O]
     .cases h
    .cases h
   .rename_i m e l B;split at h
    .rename_i y u;split at h
     .rename_i g;simp only[Zd,beq_iff_eq] at g;have j:=Yb g.2;split at h
      .rename_i q C;simp only[Zm] at h;subst h;obtain⟨E,P,z,L,Q,A⟩:=vuq (ρ:=ρ) f y (b%e) x q C;obtain⟨a,c,I,J,M⟩:=cfq (ρ:=ρ) (e:=e) l (b/e) y q u;have k:=Nat.div_add_mod b e;rw[YE] at k;refine⟨rfl,by show b+x.size<=m;omega,?_,rfl,rfl,A⟩;rw[y2q (by simp[g.1])] at I;rw[y2q (by simp[E,g.1])] at J;simp only[cellsV];rw[J,I,iZq (o:=b%e) (vs:=cellsV ρ x) Xn z Xn,M,k]
      .cases h
     .cases h
    .cases h
   .cases h
def awq(n:Nat)(l:List V):List V:=(l++List.replicate n (V.bool false)).take n
@[simp] theorem vFq(n:Nat)(l:List V):(awq n l).length=n:=by simp[awq]
theorem yqq{n:Nat}{l:List V}(h:l.length=n):awq n l=l:=by
 subst h;simp[awq]
mutual
def zmq:V->List V
 |.agg n l=>awq n (kfq l)
 |.arr n e l=>awq n (yaq e l)
 |.undef=>[.undef]
 |.bool b=>[.bool b]
 |.int k n=>[.int k n]
 |.str s=>[.str s]
 |.nilp=>[.nilp]
 |.ptr b h=>[.ptr b h]
 |.nils=>[.nils]
 |.sl b j h w x q=>[.sl b j h w x q]
 |.nilm=>[.nilm]
 |.map r=>[.map r]
 |.fn f a c=>[.fn f a c]
 |.yield l=>[.yield l]
 |.nilf=>[.nilf]
 |.iface t v=>[.iface t v]
 |.nili=>[.nili]
 |.tup l=>[.tup l]
def kfq:List V->List V
 |[]=>[]
 |v::l=>zmq v++kfq l
def yaq(e:Nat):List V->List V
 |[]=>[]
 |v::l=>awq e (zmq v)++yaq e l
end
def j9q(c:Env):V->Value
 |.agg _ _=>.bool false
 |.arr _ _ _=>.bool false
 |.tup _=>.bool false
 |.undef=>.bool false
 |v=>abq c v
theorem dJq{a:Env}{v:V}(h:v.isAgg=false):cellsV a v=[j9q a v]:=by cases v<;>simp[V.isAgg] at h<;>simp[cellsV,j9q,abq]
theorem K7q{b:Env}{n:Nat}{l:List V}:(awq n l).map (j9q b)=fit n (l.map (j9q b)):=by
 simp[awq,fit,List.map_take,Z4,j9q,abq]
mutual
theorem qkq(h:Env):∀v:V,cellsV h v=(zmq v).map (j9q h)
 |.agg n l=>by simp only[cellsV,zmq,K7q,QNq h l]
 |.arr n e l=>by simp only[cellsV,zmq,K7q,kPq h e l]
 |.undef=>rfl
 |.bool _=>by simp[cellsV,zmq,j9q,abq]
 |.int _ _=>by simp[cellsV,zmq,j9q,abq]
 |.str _=>by simp[cellsV,zmq,j9q,abq]
 |.nilp=>by simp[cellsV,zmq,j9q,abq]
 |.ptr _ _=>by simp[cellsV,zmq,j9q,abq]
 |.nils=>by simp[cellsV,zmq,j9q,abq]
 |.sl _ _ _ _ _ _=>by simp[cellsV,zmq,j9q,abq]
 |.nilm=>by simp[cellsV,zmq,j9q,abq]
 |.map _=>by simp[cellsV,zmq,j9q,abq]
 |.fn _ _ _=>by simp[cellsV,zmq,j9q,abq]
 |.yield _=>by simp[cellsV,zmq,j9q,abq]
 |.nilf=>by simp[cellsV,zmq,j9q,abq]
 |.iface _ _=>by simp[cellsV,zmq,j9q,abq]
 |.nili=>by simp[cellsV,zmq,j9q,abq]
 |.tup _=>by simp[cellsV,zmq,j9q]
theorem QNq(b:Env):∀l:List V,j8q b l=(kfq l).map (j9q b)
 |[]=>rfl
 |v::l=>by simp only[j8q,kfq,Z4,qkq b v,QNq b l]
theorem kPq(b:Env)(e:Nat):∀l:List V,zpq b e l=(yaq e l).map (j9q b)
 |[]=>rfl
 |v::l=>by simp only[zpq,yaq,Z4,K7q,qkq b v,kPq b e l]
end
@[simp] theorem y8q(v:V):(zmq v).length=v.size:=by
 cases v<;>simp[zmq,V.size]
theorem u5q{n:Nat}{l:List V}{x:V}(h:x∈awq n l):x∈l\/x= .bool false:=by
 grind[awq]
mutual
theorem krq:∀(v:V),∀x∈zmq v,x.isAgg=false
 |.agg n l=>λx j=>by
  simp only[zmq] at j;rcases u5q j with h|rfl
  .exact b1q l x h
  .rfl
 |.arr n e l=>λx j=>by
  simp only[zmq] at j;rcases u5q j with h|rfl
  .exact Zmq e l x h
  .rfl
 |.undef=>λx j=>by simp[zmq] at j;subst j;rfl
 |.bool _=>λx j=>by simp[zmq] at j;subst j;rfl
 |.int _ _=>λx j=>by simp[zmq] at j;subst j;rfl
 |.str _=>λx j=>by simp[zmq] at j;subst j;rfl
 |.nilp=>λx j=>by simp[zmq] at j;subst j;rfl
 |.ptr _ _=>λx j=>by simp[zmq] at j;subst j;rfl
 |.nils=>λx j=>by simp[zmq] at j;subst j;rfl
 |.sl _ _ _ _ _ _=>λx j=>by simp[zmq] at j;subst j;rfl
 |.nilm=>λx j=>by simp[zmq] at j;subst j;rfl
 |.map _=>λx j=>by simp[zmq] at j;subst j;rfl
 |.fn _ _ _=>λx j=>by simp[zmq] at j;subst j;rfl
 |.yield _=>λx j=>by simp[zmq] at j;subst j;rfl
 |.nilf=>λx j=>by simp[zmq] at j;subst j;rfl
 |.iface _ _=>λx j=>by simp[zmq] at j;subst j;rfl
 |.nili=>λx j=>by simp[zmq] at j;subst j;rfl
 |.tup _=>λx j=>by simp[zmq] at j;subst j;rfl
theorem b1q:∀(l:List V),∀x∈kfq l,x.isAgg=false
 |[]=>λx b=>by simp[kfq] at b
 |v::l=>λx b=>by
  simp only[kfq,ZO] at b;rcases b with h|h
  .exact krq v x h
  .exact b1q l x h
theorem Zmq(e:Nat):∀(l:List V),∀x∈yaq e l,x.isAgg=false
 |[]=>λx b=>by simp[yaq] at b
 |v::l=>λx b=>by
  simp only[yaq,ZO] at b;rcases b with h|h
  .rcases u5q h with h|rfl
   .exact krq v x h
   .rfl
  .exact Zmq e l x h
end
theorem kOq{x:V}(h:x.isAgg=false):zmq x=[x]:=by cases x<;>simp[V.isAgg] at h<;>rfl
theorem JWq:∀{l:List V},(∀x∈l,x.isAgg=false) ->kfq l=l
 |[],_=>rfl
 |x::l,h=>by simp only[kfq,kOq (h x (ZV ..)),JWq (l:=l) λy a=>h y (ZS _ a),List.singleton_append]
theorem YYq{l:List V}{n:Nat}(h:∀x∈l,x.isAgg=false)(b:l.length=n):zmq (.agg n l)=l:=by
 simp only[zmq,JWq h,yqq b]
theorem iXq{v:V}{b n:Nat}(h:b+n<=v.size):zmq (.agg n (((zmq v).drop b).take n))=((zmq v).drop b).take n:=
 YYq (λx c=>krq v x (ZF (ZJ c))) Xn
def vEq(v:V)(b n:Nat)(c:Bool):Option V:=match v.isAgg&&Nat.ble (b+n) v.size with
 |true=>match c with
  |true=>some (.agg n (((zmq v).drop b).take n))
  |false=>match Nat.beq n 1,(zmq v)[b]? with
   |true,some x=>match x.leaf with
    |true=>some x
    |false=>none
   |_,_=>none
 |false=>none
def j6q(f:Nat)(v:V)(a n:Nat)(b:Bool):Option V:=match vgq f v a n b with
 |some x=>some x
 |none=>vEq v a n b
theorem Yoq{v:V}{b n:Nat}{q:Bool}{x:V}(h:vEq v b n q=some x):
  x.size=n/\b+n<=v.size/\zmq x=((zmq v).drop b).take n/\(if q then x.isAgg=true else x.leaf=true):=by
 unfold vEq at h;split at h
 .rename_i w;simp only[Zd] at w;have f:=Yb w.2;split at h
  .cases h;exact⟨rfl,f,iXq f,rfl⟩
  .split at h
   .rename_i y j u;split at h
    .rename_i A;cases h;have j:=Zi j;subst j;have z:=krq v _ (Zj u)
     have e:((zmq v).drop b).take 1=[x]:=by
      have:(zmq v).drop b=x::(zmq v).drop (b+1):=by
       obtain⟨g,rfl⟩:=Zk.1 u;exact List.drop_eq_getElem_cons g
      rw[this];rfl
     refine⟨by cases x<;>simp[V.isAgg] at z<;>rfl,f,by rw[e,kOq z],by simpa using A⟩
    .cases h
   .cases h
 .cases h
theorem JRq{ρ:Env}(f:Nat)(v:V)(g n:Nat)(j:Bool)(x:V)(h:j6q f v g n j=some x):
  x.size=n/\g+n<=v.size/\((cellsV ρ v).drop g).take n=cellsV ρ x/\(if j then x.isAgg=true else x.leaf=true):=by
 unfold j6q at h;split at h
 .cases h;exact vDq f v g n j x Yi
 .obtain⟨l,u,q,m⟩:=Yoq h;grind[qkq,List.map_take,List.map_drop]
def Z3q(v:V)(b:Nat)(x:V):Option V:=match v.isAgg&&(x.leaf||x.isAgg)&&Nat.ble (b+x.size) v.size with
 |true=>some (.agg v.size ((zmq v).take b++zmq x++(zmq v).drop (b+x.size)))
 |false=>none
def ueq(f:Nat)(v:V)(a:Nat)(x:V):Option V:=match veq f v a x with
 |some b=>some b
 |none=>Z3q v a x
theorem Ynq{v:V}{b:Nat}{x f:V}(h:Z3q v b x=some f):
  f.size=v.size/\b+x.size<=v.size/\zmq f=(zmq v).take b++zmq x++(zmq v).drop (b+x.size)/\f.isAgg=v.isAgg/\f.leaf=v.leaf/\(x.leaf=true\/x.isAgg=true):=by
 unfold Z3q at h;split at h
 .rename_i j;simp only[Zd,Y4] at j;have l:=Yb j.2;cases h;refine⟨rfl,l,YYq (λy q=>?_) Xn,j.1.1.symm,?_,j.1.2⟩
  .grind[krq]
  .have:=j.1.1;cases v<;>simp[V.isAgg] at this<;>rfl
 .cases h
theorem u3q{ρ:Env}(f:Nat)(v:V)(d:Nat)(x g:V)(h:ueq f v d x=some g):
  g.size=v.size/\d+x.size<=v.size/\cellsV ρ g=spl (cellsV ρ v) d (cellsV ρ x)/\g.isAgg=v.isAgg/\g.leaf=v.leaf/\(x.leaf=true\/x.isAgg=true):=by
 unfold ueq at h;split at h
 .cases h;exact vuq f v d x g Yi
 .obtain⟨j,m,l,k⟩:=Ynq h;simp_all[qkq,spl]
def FF:Option Nat->Fence
 |none=>Fence.wide
 |some l=>Fence.wide.inRound l
theorem Jwq(r:Option Nat)(f:FuncId):(FF r).fn f:=by cases r<;>trivial
theorem ZHq(r:Option Nat):(FF r).depth=none:=by cases r<;>rfl
theorem lAq{r:Option Nat}{P:Program}{f:FuncId}{a:Array Value}{w:World}{R:Ending->World->Prop}(h:Calls P f a w R):CallsIn (FF r) 0 P f a w R:=by
 cases r with
 |none=>exact callsIn_wide.2 h
 |some l=>exact CallsIn.inRound l (callsIn_wide.2 h)
abbrev Fr:=List (Nat×Value)
structure Ag(N:Nat)(ds:List Deferred)(a:Act)(fr:Fr):Prop where
 size:a.tmps.size=N
 defs:a.defers=ds
 at_:∀t v,fr.lookup t=some v->a.tmps[t]? =some v
def ev(d:Fr):Operand->Option Value
 |.tmp t=>d.lookup t
 |.const v=>some v
 |.global g=>some (.pointer (some ⟨g,0,none⟩))
 |.func f=>some (.func (.func f) #[] #[])
abbrev Hp:=List (Nat×Obj)
def Zjq(H:Hp):List Nat:=H.map (·.1)
structure Keep(X:List Nat)(s w:World):Prop where
 os:w.os=s.os
 tape:w.tape=s.tape
 output:w.output=s.output
 size:s.heap.size<=w.heap.size
 block:∀k,k<s.heap.size->k∉X->w.heap[k]? =s.heap[k]?
structure Kn(w:World)(H:Hp)(S:List World):Prop where
 has:∀b o,(b,o)∈H->w.heap[b]? =some o
 nodup:(Zjq H).Nodup
 keep:∀s∈S,Keep (Zjq H) s w
theorem jPq(w:World)(o:Obj):Below w.heap.size w (w.alloc o):=(Below.refl _ _).alloc (Zb _) _
structure Turned(b:Nat)(o':Obj)(w w':World):Prop where
 os:w'.os=w.os
 tape:w'.tape=w.tape
 output:w'.output=w.output
 size:w'.heap.size=w.heap.size
 this:w'.heap[b]? =some o'
 other:∀k,k≠b->w'.heap[k]? =w.heap[k]?
section
variable (P:Program) (r:Option Nat) (N:Nat) (ds:List Deferred)
structure CW(c:Code)(Q:Exit->Act->World->Prop)(fr:Fr)(H:Hp)(S:List World):Prop where
 run:∀a w,Ag N ds a fr->Kn w H S->c.wpIn (FF r) 0 P Q a w
end
section
variable {P:Program} {r:Option Nat} {N:Nat} {ds:List Deferred} {Q:Exit->Act->World->Prop} {fr:Fr} {H:Hp} {S:List World}
theorem b8q(p:Nat->Prop):∀m,p m->∃k,p k/\k<=m/\∀j,p j->k<=j:=by
 intro m;induction m using Nat.strongRecOn with
 |_ m a=>
  grind
end
abbrev Dig:={l:List UInt8//l.length=32}
@[irreducible] def dv(k:Dig):Array Value:=(k.1.map Extern.Stop.cell).toArray
@[irreducible] def kn(k:Dig)(i:Nat):Nat:=(k.1[i]?.getD 0).toNat
@[simp,go_sem] theorem tpq(k:Dig):(dv k).size=32:=by simp[dv,k.2]
@[simp,go_sem] theorem Egq(k:Dig):(dv k).extract 0 32=dv k:=by
 simp_all
theorem Ziq(k:Dig)(i:Nat):kn k i<=255:=by have:=(k.1[i]?.getD 0).toNat_lt;unfold kn;omega
@[simp,go_sem] theorem Csq(k:Dig):nlq (dv k)=true:=by
 simp[nlq,dv,Extern.Stop.cell];intros;rfl
@[irreducible] def wYq(k:Dig)(i:Nat)(b:UInt8):Dig:=⟨k.1.set i b,by simp[k.2]⟩
theorem tqq{a b:Dig}(h:∀i,i<32->kn a i=kn b i):a=b:=by
 apply Subtype.ext;apply List.ext_getElem (by rw[a.2,b.2]);intro i c d;have:=h i (by rw[a.2] at c;exact c);grind[kn,UInt8.toNat_inj]
theorem AQq(k:Dig)(i j:Nat)(b:UInt8)(a:j<32):kn (wYq k i b) j=if i=j then b.toNat else kn k j:=by
 grind[kn,wYq]
@[irreducible] def zeroD:Dig:=⟨List.replicate 32 0,by simp⟩
def Op1(P:Program)(o:Oper)(a:Act)(w:World)(v:Value)(b:World):Prop:=
 (execOp a.eval o).run P w= .ok (.value v) b\/((execOp a.eval o).run P w= .ok .skip b/\v=undef)
def xVq(o:Oper):Bool:=match o.op with|.defer _=>false|_=>true
theorem bJq{o:Oper}(h:xVq o=true):∀c,o.op≠ .defer c:=by
 intro c e;simp[xVq,e] at h
theorem YUq{P:Program}{r:Option Nat}{o:Oper}{a:Act}{w b:World}{v:Value}{K:Act->World->Prop}{Q:Exit->Act->World->Prop}(c:xVq o=true)(h:Op1 P o a w v b)(d:K (a.put o.dst v) b):
  o.wpIn (FF r) 0 P a w K Q:=by
 refine⟨λf _=>Jwq r f,?_⟩;rw[Oper.semAt_plain _ _ _ (bJq c)];rcases h with h|⟨h,rfl⟩
 all_goals grind[Oper.uponIn_value,Oper.uponIn_skip]
def gd(a:Array Oper)(e:Fr)(o:Oper):Option Bool:=
 match o.guard with
 |none=>some true
 |some (j,b)=>match (a[j]?).bind (·.dst) with
  |none=>some false
  |some t=>match e.lookup t with
   |some (.bool c)=>some (c==b)
   |some _=>some false
   |none=>none
def Q0q(N:Nat)(d:Option Tmp):Bool:=match d with|some t=>decide (t<N)|none=>true
section
variable {P:Program} {fr:Fr} {H:Hp} {S:List World} {dst:Option Tmp} {ty:TypeId} {pos:String} {aft:Array Edge} {g:Option (Nat×Bool)}
theorem dyq{b:BinOp}{t:TypeId}{x y:Operand}{c d:Array Value}(h:P.eqGuardType P.depth t=false)(w:World):(eqGuard b t x y (.agg c) (.agg d)).run P w= .ok () w:=by
 unfold eqGuard;cases b<;>simp[h]
theorem jZq(b c k:Nat):(⟨b,c,none⟩:Addr).add k=⟨b,c+k,none⟩:=by unfold Addr.add;split<;>simp_all
theorem vrq {e :TypeId}{k:Nat}(c:(P.info? e).map (·.size)=some k)(w:World):(sizeOf e).run P w= .ok k w:=by
 cases b:P.info? e with
 |none=>simp[b] at c
 | some inf => simp_all[sizeOf,typeInfo]
theorem ARq{w:World}{b a n:Nat}{d:Array Value}{t:TypeId}{f:Nat×Nat}(h:w.heap[b]? =some (.cells d t f))(i:a+n<=d.size):Qkq w ⟨b,a,none⟩ n=some (d.extract a (a+n)):=by
 simp[Qkq,h,i]
theorem qqq {T :TypeId}{z:Value}(c:(P.info? T).bind (·.zero)=some z)(w:World):(zeroValue T).run P w= .ok z w:=by
 cases a:P.info? T with
 |none=>simp[a] at c
 | some inf => simp_all[zeroValue,typeInfo]
theorem Jpq{w:World}{b off:Nat}{a:Array Value}{t:TypeId}{f:Nat×Nat}(v:Value)(d:w.heap[b]? =some (.cells a t f)):Turned b (.cells (a.setIfInBounds off v) t f) w (w.setCell ⟨b,off,none⟩ v):=by
 have h:=(Zs.1 d).1;refine⟨rfl,rfl,rfl,by simp[World.setCell],?_,λk i=>?_⟩
 all_goals grind[World.setCell]
end
inductive Kno where
 |val (v:Value)
 |sat (ψ:Value->World->Prop)
abbrev Acc:=List (Nat×Kno)
def push(a:Acc)(d:Option Tmp)(k:Kno):Acc:=match d with|some t=>(t,k)::a|none=>a
def vjq(o:Oper)(j:Nat):Bool:=o.after.any λe=>Region.binds .any e&&e.on==j
def fXq(N:Nat)(f:List Oper)(m:Nat):Bool:=
 (List.range f.length).all λj=>match f[j]? with
  |none=>true
  |some o=>
   xVq o&&Q0q N o.dst&&
   (o.after.all λe=>!Region.binds .any e||decide (e.on<j))&&
   (if j<m then
    (List.range m).all λk=>match f[k]? with
     |none=>true
     |some p=>match p.dst with
      |none=>true
      |some t=>(k==j||o.dst !=some t)&&(!(o.looksAt f.toArray).contains t||k==j||(if k<j then vjq o k else vjq p j))
    else(List.range j).all λk=>vjq o k)
section
variable {P:Program} {r:Option Nat} {N:Nat} {ds:List Deferred} {Q:Exit->Act->World->Prop} {fr:Fr} {H:Hp} {S:List World}
theorem rZq{f:Array Oper}:∀(n j:Nat) (b:Array Bool) (a:Act) (w:World),n+j=f.size->b.size=f.size->
  (∀k,k<j->b.getD k false=true) ->(∀k,j<=k->k<f.size->b.getD k true=false) ->
  (∀i o,j<=i->f[i]? =some o->∀k,k<i->vjq o k=true) ->(∀i o e,j<=i->f[i]? =some o->e∈o.after->Region.binds .any e=true->e.on<i) ->
  wpListIn (FF r) 0 P f Q (f.toList.drop j) a w->wpAnyIn (FF r) 0 P .any f Q n b a w:=by
 intro n;induction n with
 |zero=>
  intro j b a w M s E D C q h;have u:j=f.size:=by omega
  rw[u,ZY Xi] at h;refine⟨?_,h⟩;apply List.eq_nil_iff_forall_not_mem.2;grind[mem_ready]
 |succ n F=>
  intro j b a w M s E D C q h;have u:j<f.size:=by omega
  have m:f.toList.drop j=f[j]::f.toList.drop (j+1):=by
   rw[List.drop_eq_getElem_cons (by simpa using u)];simp
  have z:f[j]? =some f[j]:=ZI u
  have l:∀i,i∈Region.ready .any f b↔i=j:=by
   intro i;constructor
   .intro B;obtain⟨T,o,J,O⟩:=mem_ready.1 B;have p:=(Zs.1 J).1
    have I:j<=i:=by
     rcases ZL i j with v|v
     .grind
     .exact v
    rcases ZL j i with v|v
    all_goals grind[vjq]
   .grind[mem_ready]
  refine⟨λR=>(by simp_all),λi B=>?_⟩;obtain rfl:=(l i).1 B;rw[m] at h;unfold wpOpIn;simp only[z]
  have next:∀a w,wpListIn (FF r) 0 P f Q (f.toList.drop (i+1)) a w->wpAnyIn (FF r) 0 P .any f Q n (b.setIfInBounds i true) a w:=λa w G=>by
   refine F (i+1) _ a w Xd (by simp[s]) ?_ ?_ (λA o p=>C A o Xd) (λA o e p=>q A o e Xd) G
   .intro k L;simp only[Z3,YT];grind[Z3]
   .intro k L K;simp only[Z3,YT];grind[Z3]
  grind[wpListIn,Oper.wpIn_mono]
theorem getD_t{a:Array Bool}{k:Nat}:a.getD k false=true↔a[k]? =some true:=by
 rw[Z3];grind
theorem getD_f{a:Array Bool}{k:Nat}:a.getD k true=false↔a[k]? =some false:=by
 rw[Z3];grind
theorem Zlq{b:Array Oper}{m:Nat}(l:fXq N b.toList m=true){j:Nat}{o:Oper}(s:b[j]? =some o):
  xVq o=true/\Q0q N o.dst=true/\(∀e∈o.after,Region.binds .any e=true->e.on<j)/\
  (j<m->∀k p t,k<m->b[k]? =some p->p.dst=some t->(k=j\/o.dst≠some t)/\(t∈o.looksAt b->k=j\/(if k<j then vjq o k=true else vjq p j=true)))/\
  (m<=j->∀k,k<j->vjq o k=true):=by
 have f:=(Zs.1 s).1;unfold fXq at l;rw[List.all_eq_true] at l;have h:=l j (by simpa using f);simp only[Array.getElem?_toList,s,Zd,Array.all_eq_true_iff_forall_mem,Y4,Bool.not_eq_true',YK] at h;obtain⟨⟨⟨x,z⟩,D⟩,q⟩:=h;refine⟨x,z,λe B C=>?_,λc k p t u A v=>?_,λc k u=>?_⟩
 .grind
 .rw[Zl c,List.all_eq_true] at q;have:=q k (by simpa using u);simp only[A,v,Zd,Y4,beq_iff_eq,bne_iff_ne,ne_eq,Bool.not_eq_true',List.contains_eq_mem,decide_eq_false_iff_not,Array.toArray_toList] at this;grind
 grind
theorem QYq{o:Oper}{j:Nat}(h:vjq o j=true):∃e∈o.after,Region.binds .any e=true/\e.on=j:=by
 grind[vjq]
end
inductive Tr(α:Type) where
 |nil
 |node (v:Option α) (l r:Tr α)
 deriving Inhabited
inductive Pth where
 |z
 |l (p:Pth)
 |r (p:Pth)
def cqq(f:Nat):Nat->Pth:=Nat.rec (motive:=λ_=>Nat->Pth) (λ_=>.z) (λ_ a k=>Bool.rec (motive:=λ_=>Pth) (Bool.rec (motive:=λ_=>Pth) (.r (a (Nat.sub (Nat.div k 2) 1))) (.l (a (Nat.div k 2))) (Nat.beq (Nat.mod k 2) 1)) .z (Nat.beq k 0)) f
def pth(k:Nat):Pth:=cqq (Nat.succ k) k
def wcq(p:Pth):Nat:=Pth.rec (motive:=λ_=>Nat) 0 (λ_ n=>2*n+1) (λ_ n=>2*n+2) p
def Tr.getP{α:Type}(p:Pth):Tr α->Option α:=Pth.rec (motive:=λ_=>Tr α->Option α) (λt=>Tr.rec (motive:=λ_=>Option α) none (λv _ _ _ _=>v) t)
 (λ_ a t=>Tr.rec (motive:=λ_=>Option α) none (λ_ l _ _ _=>a l) t) (λ_ a t=>Tr.rec (motive:=λ_=>Option α) none (λ_ _ r _ _=>a r) t) p
def Tr.setP{a:Type}(v:Option a)(p:Pth):Tr a->Tr a:=Pth.rec (motive:=λ_=>Tr a->Tr a) (λt=>Tr.rec (motive:=λ_=>Tr a) (.node v .nil .nil) (λ_ l r _ _=>.node v l r) t)
 (λ_ b t=>Tr.rec (motive:=λ_=>Tr a) (.node none (b .nil) .nil) (λx l r _ _=>.node x (b l) r) t) (λ_ b t=>Tr.rec (motive:=λ_=>Tr a) (.node none .nil (b .nil)) (λx l r _ _=>.node x l (b r)) t) p
def Tr.get{a:Type}(t:Tr a)(k:Nat):Option a:=Tr.getP (pth k) t
def Tr.set{a:Type}(t:Tr a)(k:Nat)(v:Option a):Tr a:=Tr.setP v (pth k) t
theorem Jvq{a b:Nat}(h:a=b):Nat.beq a b=true:=by subst h;exact Y0 a
theorem oPq{a b:Nat}(h:¬a=b):Nat.beq a b=false:=by
 grind[Zi]
theorem v9q(f k:Nat):cqq (f+1) k=if k=0 then .z else if k%2=1 then .l (cqq f (k/2)) else .r (cqq f (k/2-1)):=by
 show Bool.rec (motive:=λ_=>Pth) (Bool.rec (motive:=λ_=>Pth) (.r (cqq f (k/2-1))) (.l (cqq f (k/2))) (Nat.beq (k%2) 1)) .z (Nat.beq k 0)=_;by_cases b:k=0
 .rw[Zl b,Jvq b]
 .rw[Zg b,oPq b];by_cases a:k%2=1
  .rw[Zl a,Jvq a]
  .rw[Zg a,oPq a]
theorem YQq:∀(f g k:Nat),k<f->k<g->cqq f k=cqq g k
 |0,_,_,h,_=>by omega
 |_,0,_,_,h=>by omega
 |f+1,g+1,k,h1,h2=>by
  rw[v9q,v9q];by_cases a:k=0
  .rw[Zl a,Zl a]
  .rw[Zg a,Zg a,YQq f g (k/2) Xd Xd,YQq f g (k/2-1) Xd Xd]
theorem YVq:∀(f k:Nat),k<f->wcq (cqq f k)=k
 |0,_,h=>by omega
 |f+1,k,h=>by
  rw[v9q];by_cases a:k=0
  .rw[Zl a,a];rfl
  .rw[Zg a];by_cases b:k%2=1
   .rw[Zl b];show 2*wcq (cqq f (k/2))+1=k;rw[YVq f _ Xd];omega
   .rw[Zg b];show 2*wcq (cqq f (k/2-1))+2=k;rw[YVq f _ Xd];omega
theorem slq{j k:Nat}(h:pth j=pth k):j=k:=by
 grind[pth,YVq]
theorem Tr.getP_nil{a:Type}(p:Pth):Tr.getP (α:=a) p .nil=none:=by cases p<;>rfl
theorem Tr.get_nil{a:Type}(k:Nat):(Tr.nil (α:=a)).get k=none:=Tr.getP_nil _
theorem Tr.get_node{c:Type}(v:Option c)(l r:Tr c)(k:Nat):(Tr.node v l r).get k=if k=0 then v else if k%2=1 then l.get (k/2) else r.get (k/2-1):=by
 show Tr.getP (cqq (k+1) k) (Tr.node v l r)=_;rw[v9q];by_cases a:k=0
 .rw[Zl a,Zl a];rfl
 .rw[Zg a,Zg a];by_cases b:k%2=1
  .rw[Zl b,Zl b];show Tr.getP (cqq k (k/2)) l=Tr.getP (cqq (k/2+1) (k/2)) l;rw[YQq k (k/2+1) (k/2) Xd Xd]
  .rw[Zg b,Zg b];show Tr.getP (cqq k (k/2-1)) r=Tr.getP (cqq (k/2-1+1) (k/2-1)) r;rw[YQq k (k/2-1+1) (k/2-1) Xd Xd]
theorem Tr.getP_same{a:Type}(v:Option a):∀(p:Pth) (t:Tr a),Tr.getP p (Tr.setP v p t)=v
 |.z,t=>by cases t<;>rfl
 |.l p,.nil=>Tr.getP_same v p .nil
 |.l p,.node _ l _=>Tr.getP_same v p l
 |.r p,.nil=>Tr.getP_same v p .nil
 |.r p,.node _ _ r=>Tr.getP_same v p r
theorem Tr.getP_other{b:Type}(v:Option b):∀(p q:Pth) (t:Tr b),q≠p->Tr.getP q (Tr.setP v p t)=Tr.getP q t
 |.z,.z,_,h=>absurd rfl h
 |.z,.l q,.nil,_=>Tr.getP_nil q
 |.z,.r q,.nil,_=>Tr.getP_nil q
 |.z,.l _,.node _ _ _,_=>rfl
 |.z,.r _,.node _ _ _,_=>rfl
 |.l _,.z,.nil,_=>rfl
 |.l _,.z,.node _ _ _,_=>rfl
 |.l p,.l q,.nil,h=>(Tr.getP_other v p q .nil λe=>h (Zc Pth.l e)).trans (Tr.getP_nil q)
 |.l p,.l q,.node _ l _,h=>Tr.getP_other v p q l λe=>h (Zc Pth.l e)
 |.l _,.r q,.nil,_=>Tr.getP_nil q
 |.l _,.r _,.node _ _ _,_=>rfl
 |.r _,.z,.nil,_=>rfl
 |.r _,.z,.node _ _ _,_=>rfl
 |.r _,.l q,.nil,_=>Tr.getP_nil q
 |.r _,.l _,.node _ _ _,_=>rfl
 |.r p,.r q,.nil,h=>(Tr.getP_other v p q .nil λe=>h (Zc Pth.r e)).trans (Tr.getP_nil q)
 |.r p,.r q,.node _ _ r,h=>Tr.getP_other v p q r λe=>h (Zc Pth.r e)
theorem Tr.get_set{a:Type}(t:Tr a)(k:Nat)(v:Option a)(j:Nat):(t.set k v).get j=if j=k then v else t.get j:=by
 by_cases e:j=k
 .rw[Zl e,e];exact Tr.getP_same v _ t
 .rw[Zg e];exact Tr.getP_other v _ _ t λh=>e (slq h)
mutual
def InD(D:Nat->Nat->Prop):V->Prop
 |.ptr b _=>D b 0
 |.sl b _ q h j k=>0<j/\h<=k.getD h/\D b (q+(k.getD h)*j)
 |.map r=>D r 0
 |.yield l=>D l 0
 |.fn _ a c=>InDL D a/\InDL D c
 |.iface _ v=>InD D v
 |.agg _ l=>InDL D l
 |.arr _ _ l=>InDL D l
 |.tup l=>InDL D l
 |.undef=>True
 |.bool _=>True
 |.int _ _=>True
 |.str _=>True
 |.nilp=>True
 |.nils=>True
 |.nilm=>True
 |.nilf=>True
 |.nili=>True
def InDL(D:Nat->Nat->Prop):List V->Prop
 |[]=>True
 |v::l=>InD D v/\InDL D l
end
theorem InDL_iff{D:Nat->Nat->Prop}:∀{l:List V},InDL D l↔∀v∈l,InD D v
 |[]=>by simp[InDL]
 |v::l=>by simp[InDL,InDL_iff (l:=l)]
mutual
theorem InD.mono'{D E:Nat->Nat->Prop}(h:∀i m,D i m->E i m):∀(v:V),InD D v->InD E v
 |.ptr _ _=>λj=>h _ _ j
 |.sl _ _ _ _ _ _=>λj=>⟨j.1,j.2.1,h _ _ j.2.2⟩
 |.map _=>λj=>h _ _ j
 |.yield _=>λj=>h _ _ j
 |.fn _ a c=>λj=>⟨InDL.mono' h a j.1,InDL.mono' h c j.2⟩
 |.iface _ v=>λj=>InD.mono' h v j
 |.agg _ l=>λj=>InDL.mono' h l j
 |.arr _ _ l=>λj=>InDL.mono' h l j
 |.tup l=>λj=>InDL.mono' h l j
 |.undef=>λ_=>trivial
 |.bool _=>λ_=>trivial
 |.int _ _=>λ_=>trivial
 |.str _=>λ_=>trivial
 |.nilp=>λ_=>trivial
 |.nils=>λ_=>trivial
 |.nilm=>λ_=>trivial
 |.nilf=>λ_=>trivial
 |.nili=>λ_=>trivial
theorem InDL.mono'{D E:Nat->Nat->Prop}(h:∀i m,D i m->E i m):∀(l:List V),InDL D l->InDL E l
 |[]=>λ_=>trivial
 |v::l=>λa=>⟨InD.mono' h v a.1,InDL.mono' h l a.2⟩
end
theorem InD.mono{D E:Nat->Nat->Prop}(h:∀i m,D i m->E i m){v:V}(a:InD D v):InD E v:=InD.mono' h v a
theorem InDL.mono{D E:Nat->Nat->Prop}(h:∀i m,D i m->E i m){l:List V}(a:InDL D l):InDL E l:=InDL.mono' h l a
def Env.Agree(D:Nat->Nat->Prop)(c a:Env):Prop:=∀i m,D i m->a.b i=c.b i/\a.pre i=c.pre i/\a.cap i=c.cap i/\a.l i=c.l i
theorem Ygq{g a:Env}{b f d h e:Nat}{c:Option Nat}(j:a.b b=g.b b)(n:a.pre b=g.pre b)(i:a.cap b=g.cap b)(k:a.l b=g.l b):ysq a b f d h e c=ysq g b f d h e c:=by
 have m:ydq a b d e c=ydq g b d e c:=by cases c<;>simp[ydq,i]
 unfold ysq ZIq;rw[m,j,n,i,k]
mutual
theorem qaq{D:Nat->Nat->Prop}{w k:Env}(h:Env.Agree D w k):∀{v:V},InD D v->abq k v=abq w v
 |.ptr b _,hv=>by obtain⟨j,q,_,_⟩:=h b _ hv;simp[abq,j,q]
 |.sl b _ _ _ _ lim,hv=>by obtain⟨j,q,z,x⟩:=h b _ hv.2.2;simp only[abq];exact Ygq j q z x
 |.map b,hv=>by obtain⟨j,_⟩:=h b _ hv;simp[abq,j]
 |.yield b,hv=>by obtain⟨_,_,_,j⟩:=h b _ hv;simp[abq,j]
 |.fn _ a c,hv=>by simp[abq,qGq h (l:=a) hv.1,qGq h (l:=c) hv.2]
 |.iface _ v,hv=>by simp[abq,qaq h (v:=v) hv]
 |.agg _ l,hv=>by simp[abq,vMq h (l:=l) hv]
 |.arr _ e l,hv=>by simp[abq,vLq h (e:=e) (l:=l) hv]
 |.tup l,hv=>by simp[abq,qGq h (l:=l) hv]
 |.undef,_=>by simp[abq]
 |.bool _,_=>by simp[abq]
 |.int _ _,_=>by simp[abq]
 |.str _,_=>by simp[abq]
 |.nilp,_=>by simp[abq]
 |.nils,_=>by simp[abq]
 |.nilm,_=>by simp[abq]
 |.nilf,_=>by simp[abq]
 |.nili,_=>by simp[abq]
theorem qGq{D:Nat->Nat->Prop}{b a:Env}(h:Env.Agree D b a):∀{l:List V},InDL D l->zPq a l=zPq b l
 |[],_=>rfl
 |v::l,hv=>by simp[zPq,qaq h (v:=v) hv.1,qGq h (l:=l) hv.2]
theorem vMq{D:Nat->Nat->Prop}{b a:Env}(h:Env.Agree D b a):∀{l:List V},InDL D l->j8q a l=j8q b l
 |[],_=>rfl
 |v::l,hv=>by simp[j8q,yZq h (v:=v) hv.1,vMq h (l:=l) hv.2]
theorem vLq{D:Nat->Nat->Prop}{b a:Env}(h:Env.Agree D b a){e:Nat}:∀{l:List V},InDL D l->zpq a e l=zpq b e l
 |[],_=>rfl
 |v::l,hv=>by simp[zpq,yZq h (v:=v) hv.1,vLq h (l:=l) hv.2]
theorem yZq{D:Nat->Nat->Prop}{w k:Env}(h:Env.Agree D w k):∀{v:V},InD D v->cellsV k v=cellsV w v
 |.ptr b _,hv=>by obtain⟨j,q,_,_⟩:=h b _ hv;simp[cellsV,j,q]
 |.sl b _ _ _ _ lim,hv=>by obtain⟨j,q,z,x⟩:=h b _ hv.2.2;simp only[cellsV];rw[Ygq j q z x]
 |.map b,hv=>by obtain⟨j,_⟩:=h b _ hv;simp[cellsV,j]
 |.yield b,hv=>by obtain⟨_,_,_,j⟩:=h b _ hv;simp[cellsV,j]
 |.fn _ a c,hv=>by simp[cellsV,qGq h (l:=a) hv.1,qGq h (l:=c) hv.2]
 |.iface _ v,hv=>by simp[cellsV,qaq h (v:=v) hv]
 |.agg _ l,hv=>by simp[cellsV,vMq h (l:=l) hv]
 |.arr _ e l,hv=>by simp[cellsV,vLq h (e:=e) (l:=l) hv]
 |.tup _,_=>by simp[cellsV]
 |.undef,_=>by simp[cellsV]
 |.bool _,_=>by simp[cellsV]
 |.int _ _,_=>by simp[cellsV]
 |.str _,_=>by simp[cellsV]
 |.nilp,_=>by simp[cellsV]
 |.nils,_=>by simp[cellsV]
 |.nilm,_=>by simp[cellsV]
 |.nilf,_=>by simp[cellsV]
 |.nili,_=>by simp[cellsV]
end
theorem InDL.at_{D:Nat->Nat->Prop}{l:List V}(h:InDL D l){i:Nat}{v:V}(a:l[i]? =some v):InD D v:=InDL_iff.1 h v (Zj a)
theorem YZq{D:Nat->Nat->Prop}:∀{l:List V} {b:Nat} {x:V} {o:Nat},Jsq l b=some (x,o) ->InDL D l->InD D x
 |[],_,_,_,h,_=>by simp[QQq] at h
 |v::l,b,x,o,h,hl=>by
  simp only[Z7q] at h;split at h
  .simp only[Zm,ZR] at h;rw[<-h.1];exact hl.1
  .exact YZq h hl.2
theorem QIq{D:Nat->Nat->Prop}:∀{f:Nat} {v:V} {b n:Nat} {j:Bool} {x:V},vgq f v b n j=some x->InD D v->InD D x
 |0,_,_,_,_,_,h,_=>by simp[vCq] at h
 | f +1,v,b,n,j,x,h,hv=>by
  simp only[xZq] at h;split at h
  .grind
  .split at h
   .split at h
    .rename_i k;split at h
     .exact QIq h (YZq k (show InDL D _ from hv))
     .cases h
    .cases h
   .split at h
    .rename_i o;split at h
     .exact QIq h (InDL.at_ (show InDL D _ from hv) o)
     .cases h
    .cases h
   .cases h
theorem epq{D:Nat->Nat->Prop}{g:V->Nat->Option V}(f:∀y o j,g y o=some j->InD D y->InD D j):∀{l:List V} {b:Nat} {d:List V} {o s:Nat},KDq g l b=some (d,o,s) ->InDL D l->InDL D d
 |[],_,_,_,_,h,_=>by simp[Qqq] at h
 |v::l,b,d,o,s,h,hl=>by
  simp only[ZXq] at h;split at h
  .split at h
   .rename_i q;simp only[Zm,ZR] at h;rw[<-h.1];exact⟨f _ _ _ q hl.1,hl.2⟩
   .cases h
  .split at h
   .rename_i k;simp only[Zm,ZR] at h;rw[<-h.1];exact⟨hl.1,epq f k hl.2⟩
   .cases h
theorem InDL.set{D:Nat->Nat->Prop}{l:List V}{i:Nat}{v:V}(a:InDL D l)(c:InD D v):InDL D (l.set i v):=
 InDL_iff.2 λx b=>by
  grind[InDL_iff]
theorem Qsq{D:Nat->Nat->Prop}:∀{f:Nat} {v:V} {j:Nat} {x q:V},veq f v j x=some q->InD D v->InD D x->InD D q
 |0,_,_,_,_,h,_,_=>by simp[vtq] at h
 | f +1,v,j,x,q,h,hv,hx=>by
  simp only[xRq] at h;split at h
  .grind
  .split at h
   .split at h
    .rename_i u;split at h
     .simp only[Zm] at h;rw[<-h];exact epq (λy o w k b=>Qsq k b hx) u (show InDL D _ from hv)
     .cases h
    .cases h
   .split at h
    .rename_i k;split at h
     .split at h
      .rename_i b;simp only[Zm] at h;rw[<-h];exact InDL.set (show InDL D _ from hv) (Qsq b (InDL.at_ (show InDL D _ from hv) k) hx)
      .cases h
     .cases h
    .cases h
   .cases h
mutual
theorem uBq{D:Nat->Nat->Prop}:∀{v:V},InD D v->∀x∈zmq v,InD D x
 |.agg n l,h=>λx j=>by
  simp only[zmq] at j;rcases u5q j with j|rfl
  .exact eSq (l:=l) h x j
  .trivial
 |.arr n e l,h=>λx j=>by
  simp only[zmq] at j;rcases u5q j with j|rfl
  .exact K5q (l:=l) h x j
  .trivial
 |.undef,h=>λx j=>by simp[zmq] at j;subst j;exact h
 |.bool _,h=>λx j=>by simp[zmq] at j;subst j;exact h
 |.int _ _,h=>λx j=>by simp[zmq] at j;subst j;exact h
 |.str _,h=>λx j=>by simp[zmq] at j;subst j;exact h
 |.nilp,h=>λx j=>by simp[zmq] at j;subst j;exact h
 |.ptr _ _,h=>λx j=>by simp[zmq] at j;subst j;exact h
 |.nils,h=>λx j=>by simp[zmq] at j;subst j;exact h
 |.sl _ _ _ _ _ _,h=>λx j=>by simp[zmq] at j;subst j;exact h
 |.nilm,h=>λx j=>by simp[zmq] at j;subst j;exact h
 |.map _,h=>λx j=>by simp[zmq] at j;subst j;exact h
 |.fn _ _ _,h=>λx j=>by simp[zmq] at j;subst j;exact h
 |.yield _,h=>λx j=>by simp[zmq] at j;subst j;exact h
 |.nilf,h=>λx j=>by simp[zmq] at j;subst j;exact h
 |.iface _ _,h=>λx j=>by simp[zmq] at j;subst j;exact h
 |.nili,h=>λx j=>by simp[zmq] at j;subst j;exact h
 |.tup _,h=>λx j=>by simp[zmq] at j;subst j;exact h
theorem eSq{D:Nat->Nat->Prop}:∀{l:List V},InDL D l->∀x∈kfq l,InD D x
 |[],_=>λx b=>by simp[kfq] at b
 |v::l,h=>λx b=>by
  simp only[kfq,ZO] at b;rcases b with b|b
  .exact uBq h.1 x b
  .exact eSq h.2 x b
theorem K5q{D:Nat->Nat->Prop}{e:Nat}:∀{l:List V},InDL D l->∀x∈yaq e l,InD D x
 |[],_=>λx b=>by simp[yaq] at b
 |v::l,h=>λx b=>by
  simp only[yaq,ZO] at b;rcases b with b|b
  .rcases u5q b with b|rfl
   .exact uBq h.1 x b
   .trivial
  .exact K5q h.2 x b
end
theorem fYq{D:Nat->Nat->Prop}{v:V}{b n:Nat}{f:Bool}{x:V}(h:vEq v b n f=some x)(g:InD D v):InD D x:=by
 unfold vEq at h;split at h
 .split at h
  .cases h;exact InDL_iff.2 λy d=>uBq g y (ZF (ZJ d))
  grind[uBq]
 .cases h
theorem K3q{D:Nat->Nat->Prop}{f:Nat}{v:V}{a n:Nat}{b:Bool}{x:V}(h:j6q f v a n b=some x)(c:InD D v):InD D x:=by
 grind[j6q,QIq,fYq]
theorem YPq{D:Nat->Nat->Prop}{f:Nat}{v:V}{b:Nat}{x g:V}(h:ueq f v b x=some g)(j:InD D v)(i:InD D x):InD D g:=by
 unfold ueq at h;split at h
 .cases h;exact Qsq Yi j i
 .unfold Z3q at h;split at h
  .cases h;refine InDL_iff.2 λy k=>?_
   grind[uBq]
  .cases h
def rUq(_:TypeId):Bool:=false
def gGq(a e:TypeId):Bool:=Nat.beq a e
theorem ZOq(e:TypeId):gGq e e=true:=Y0 e
theorem mtq{a e:TypeId}(h:gGq a e=true):a=e/\rUq e=false:=⟨Zi h,rfl⟩
inductive Blk where
 |cells (ty:TypeId) (v:V)
 |ro (v:V)
 |loop (state:LoopState) (pending:Option Code) (fr:Tr V) (ps:Array Tmp) (assign body:Code) (dfr:Nat)
 |dfr (taken:Bool)
 |map (es:List (V×V×Nat)) (clock:Nat)
 |siter (s:List UInt8) (pos:Nat)
 |miter (m:Option Nat) (since:Nat) (seen:List Nat) (last:Nat)
 deriving Inhabited
def Blk.own:Blk->Bool
 |.ro _=>false
 |_=>true
structure Heap where
 next:Nat
 wmin:Nat
 tr:Tr Blk
 deriving Inhabited
def wmn(a i:Nat):Nat:=match Nat.ble a i with
 |true=>a
 |false=>i
def Heap.get(h:Heap)(i:Nat):Option Blk:=h.tr.get i
def Heap.put(h:Heap)(i:Nat)(b:Blk):Heap:={next:=h.next,wmin:=wmn h.wmin i,tr:=h.tr.set i (some b)}
def Heap.kill(h:Heap)(i:Nat):Heap:={next:=h.next,wmin:=wmn h.wmin i,tr:=h.tr.set i none}
def Heap.push(h:Heap)(b:Blk):Heap:={next:=h.next+1,wmin:=h.wmin,tr:=h.tr.set h.next (some b)}
theorem Heap.get_put(h:Heap)(i:Nat)(b:Blk)(j:Nat):(h.put i b).get j=if j=i then some b else h.get j:=Tr.get_set _ _ _ _
theorem Heap.get_kill(h:Heap)(i:Nat)(j:Nat):(h.kill i).get j=if j=i then none else h.get j:=Tr.get_set _ _ _ _
theorem Heap.get_push(h:Heap)(b:Blk)(j:Nat):(h.push b).get j=if j=h.next then some b else h.get j:=Tr.get_set _ _ _ _
theorem xCq(a i:Nat):wmn a i<=a/\wmn a i<=i:=by
 grind[wmn,Yb,Zn]
def Eeq(D:Nat->Nat->Prop)(a:Tr V):Prop:=∀t v,a.get t=some v->InD D v
def InB(D:Nat->Nat->Prop):Blk->Prop
 |.cells _ v=>InD D v
 |.ro v=>InD D v
 |.loop _ _ g _ _ _ d=>Eeq D g/\D d 0
 |.dfr _=>True
 |.map b _=>∀e∈b,InD D e.1/\InD D e.2.1
 |.siter _ _=>True
 |.miter m _ _ _=>∀r,m=some r->D r 0
theorem InB.mono{D E:Nat->Nat->Prop}(h:∀i m,D i m->E i m){b:Blk}(a:InB D b):InB E b:=by
 cases b with
 |cells _ v=>exact InD.mono h a
 |ro v=>exact InD.mono h a
 |loop _ _ k _ _ _ d=>exact⟨λt v g=>InD.mono h (a.1 t v g),h _ _ a.2⟩
 |dfr _=>trivial
 |map j _=>exact λe c=>⟨InD.mono h (a e c).1,InD.mono h (a e c).2⟩
 |siter _ _=>trivial
 |miter m _ _ _=>exact λr f=>h _ _ (a r f)
def q1q(a:Env)(b:List (V×V×Nat)):List MapEntry:=b.map λe=>⟨abq a e.1,abq a e.2.1,e.2.2⟩
theorem dFq{D:Nat->Nat->Prop}{d a:Env}(h:Env.Agree D d a){b:List (V×V×Nat)}(c:∀e∈b,InD D e.1/\InD D e.2.1):q1q a b=q1q d b:=
 List.map_congr_left λe f=>by rw[qaq h (c e f).1,qaq h (c e f).2]
def yQq(N:Nat):Code->Bool
 |.region _ ops dr=>ops.toList.all (λo=>xVq o&&Q0q N o.dst)&&(!dr||fXq N ops.toList ops.size)
 |.seq a b=>yQq N a&&yQq N b
 |.cond _ a b=>yQq N a&&yQq N b
 |.block _ a=>yQq N a
 |.loop a=>yQq N a
 |.scope a=>yQq N a
 |.rangeFunc _ ps a b=>ps.toList.all (λp=>decide (p<N))&&yQq N a&&yQq N b
 |_=>true
def KnB(j:Env)(i:Nat):Blk->Obj->Prop
 |.cells u v,o=>∃q k:List Value,o= .cells (q++(cellsV j v++k)).toArray u (0,0)/\q.length=j.pre i/\(v.size+k.length=j.cap i/\(rUq u=true->j.pre i=0))
 |.ro v,o=>∃(q k:List Value) (u:TypeId) (x:Nat×Nat),o= .cells (q++(cellsV j v++k)).toArray u x/\q.length=j.pre i/\v.size<=j.cap i
 |.loop st pe fr ps asg bd d,o=>∃w h,o= .loop {state:=st,pending:=pe,fn:=w,tmps:=h,params:=ps,assign:=asg,body:=bd,defers:=j.b d}/\(∀t v,fr.get t=some v->h[t]? =some (abq j v))/\(j.l i).1=j.b i/\(∀p∈ps.toList,p<h.size)/\yQq h.size asg=true/\yQq h.size bd=true
 |.dfr taken,o=>o= .deferred (if taken then none else some [])
 |.map es c,o=>o= .map (q1q j es).toArray c
 |.siter s p,o=>o= .stringIter ⟨⟨s⟩⟩ p/\j.pre i=0
 |.miter m since seen last,o=>o= .mapIter (m.map j.b) since seen.toArray last/\j.pre i=0
theorem KnB.agree{D:Nat->Nat->Prop}{E g:Env}(h:Env.Agree D E g){i m:Nat}(N:D i m){b:Blk}(n:InB D b){o:Obj}(j:KnB E i b o):KnB g i b o:=by
 obtain⟨R,B,F,K⟩:=h i m N;cases b with
 |cells G v=>obtain⟨k,f,q,z,u⟩:=j;exact⟨k,f,by rw[yZq h n];exact q,by rw[B];exact z,by rw[F,B];exact u⟩
 |ro v=>obtain⟨k,f,G,O,q,z,u⟩:=j;exact⟨k,f,G,O,by rw[yZq h n];exact q,by rw[B];exact z,by rw[F];exact u⟩
 |loop V U W S L T d=>
  obtain⟨P,C,q,z,u,M⟩:=j;obtain⟨J,_⟩:=h d _ n.2;exact⟨P,C,by rw[J];exact q,λt v H=>by rw[qaq h (n.1 t v H)];exact z t v H,by rw[K,R];exact u,M⟩
 |dfr _=>exact j
 |map Q c=>
  show o= .map (q1q g Q).toArray c;rw[dFq h n];exact j
 |siter s p=>exact⟨j.1,by rw[B];exact j.2⟩
 |miter m l x w=>
  refine⟨?_,by rw[B];exact j.2⟩;cases m with
  |none=>exact j.1
  |some r=>
   have e:g.b r=E.b r:=(h r _ (n r rfl)).1;show o= .mapIter (some (g.b r)) l x.toArray w;rw[e];exact j.1
def DD(D:Nat->Prop)(a:Env):Nat->Nat->Prop:=λi m=>D i/\m<=a.cap i
structure Rel(s0:World)(U:Nat)(D:Nat->Prop)(ρ:Env)(h:Heap)(w:World):Prop where
 lt:∀i,D i->i<h.next\/U<=i
 wf:∀i,h.next<=i->h.get i=none
 has:∀i b,D i->h.get i=some b->∃o,w.heap[ρ.b i]? =some o/\KnB ρ i b o
 clo:∀i b,D i->h.get i=some b->InB (DD D ρ) b
 inj:∀i j b c,D i->D j->h.get i=some b->h.get j=some c->b.own=true->c.own=true->i≠j->ρ.b i≠ρ.b j
 own:∀i b,D i->h.get i=some b->b.own=true->s0.heap.size<=ρ.b i
 old:∀i j b c,D i->D j->h.get i=some b->h.get j=some c->b.own=false->c.own=true->ρ.b i≠ρ.b j
 base:Below s0.heap.size s0 w
structure Nxt(D:Nat->Prop)(ρ:Env)(h:Heap)(w:World)(D':Nat->Prop)(ρ':Env)(h':Heap)(w':World):Prop where
 sub:∀i,D i->D' i
 new:∀i,D' i->D i\/(h.next<=i/\i<h'.next)
 env:∀i,(i<h.next\/h'.next<=i) ->ρ'.b i=ρ.b i/\ρ'.pre i=ρ.pre i/\ρ'.cap i=ρ.cap i/\ρ'.l i=ρ.l i
 frame:∀c,c<w.heap.size->(∀i,D i->h'.wmin<=i->i<h.next->ρ.b i≠c) ->w'.heap[c]? =w.heap[c]?
 fresh:∀i,D' i->h.next<=i->i<h'.next->w.heap.size<=ρ'.b i\/∃j,D j/\h'.wmin<=j/\j<h.next/\ρ.b j=ρ'.b i
 size:w.heap.size<=w'.heap.size
 wmin:h'.wmin<=h.wmin
 nxt:h.next<=h'.next
 os:w'.os=w.os
 tape:w'.tape=w.tape
 output:w'.output=w.output
theorem Nxt.refl(D:Nat->Prop)(a:Env)(h:Heap)(w:World):Nxt D a h w D a h w:=
 ⟨λ_ h=>h,λ_ h=>.inl h,λ_ _=>⟨rfl,rfl,rfl,rfl⟩,λ_ _ _=>rfl,λi _ b c=>by omega,Zb _,Zb _,Zb _,rfl,rfl,rfl⟩
theorem Nxt.trans{D D1 D2:Nat->Prop}{F p C:Env}{h B y:Heap}{w w1 w2:World}{U:Nat}(O:∀i,D i->i<h.next\/U<=i)(S:y.next<=U)(a:Nxt D F h w D1 p B w1)(b:Nxt D1 p B w1 D2 C y w2):Nxt D F h w D2 C y w2:=by
 have K:=a.nxt;have P:=b.nxt
 have H:∀i,D1 i->y.wmin<=i->i<B.next->∀c,c<w.heap.size->(∀i,D i->y.wmin<=i->i<h.next->F.b i≠c) ->p.b i≠c:=λi f A d c E q=>by
  rcases a.new i f with h|⟨h,h'⟩
  .rcases O i h with z|z
   .rw[(a.env i (.inl z)).1];exact q i h A z
   .omega
  .rcases a.fresh i f h h' with h|⟨j,z,h4,h5,h6⟩
   .omega
   .rw[<-h6];exact q j z (Zt b.wmin h4) h5
 refine⟨λi f=>b.sub i (a.sub i f),λi f=>?_,λi f=>?_,λc E q=>?_,λi f K d=>?_,Zt a.size b.size,Zt b.wmin a.wmin,Zt a.nxt b.nxt,b.os.trans a.os,b.tape.trans a.tape,b.output.trans a.output⟩
 .rcases b.new i f with h|⟨h,h'⟩
  .rcases a.new i h with h|⟨h,h'⟩
   all_goals grind
  omega
 .obtain⟨Q,V,W,T⟩:=a.env i Xd;obtain⟨I,N,M,L⟩:=b.env i Xd;grind
 .rw[b.frame c (Zv E a.size) λi f A d=>H i f A d c E q];exact a.frame c E λi f A d=>q i f (Zt b.wmin A) d
 ·--what is new
  have J:∀j,D1 j->y.wmin<=j->j<B.next->w.heap.size<=p.b j\/∃k,D k/\y.wmin<=k/\k<h.next/\F.b k=p.b j:=λj R A d=>by
   grind
  by_cases u:i<B.next
  .have G:D1 i:=by
    rcases b.new i f with h|⟨h,_⟩
    .exact h
    .omega
   rw[(b.env i (.inl u)).1];rcases a.fresh i G K u with h|⟨k,I,N,M,L⟩
   .exact .inl h
   .exact .inr ⟨k,I,Zt b.wmin N,M,L⟩
  .rcases b.fresh i f (Nat.le_of_not_lt u) d with h|⟨j,z,h4,h5,h6⟩
   .exact .inl (Zt a.size h)
   grind
theorem Nxt.agree{D D':Nat->Prop}{c b:Env}{h d:Heap}{w e:World}{U:Nat}(f:∀i,D i->i<h.next\/U<=i)(j:d.next<=U)(a:Nxt D c h w D' b d e):Env.Agree (DD D c) c b:=λi _ g=>a.env i (by have:=f i g.1;omega)
theorem Nxt.dd{D D':Nat->Prop}{e b:Env}{h d:Heap}{w f:World}{U:Nat}(g:∀i,D i->i<h.next\/U<=i)(j:d.next<=U)(a:Nxt D e h w D' b d f):∀i m,DD D e i m->DD D' b i m:=λi m c=>⟨a.sub i c.1,by rw[(a.agree g j i m c).2.2.1];exact c.2⟩
section
variable {s0:World} {U:Nat} {D:Nat->Prop} {ρ:Env} {h:Heap} {w w':World}
theorem Rel.drawn(r:Rel s0 U D ρ h w)(n:Nat):Rel s0 U D ρ h {w with drawn:=n}:=
 ⟨r.lt,r.wf,r.has,r.clo,r.inj,r.own,r.old,⟨r.base.os,r.base.tape,r.base.output,r.base.size,r.base.block⟩⟩
theorem Rel.blt(r:Rel s0 U D ρ h w){i:Nat}{b:Blk}(f:h.get i=some b):i<h.next:=by
 rcases ZL i h.next with d|d
 .exact d
 .rw[r.wf i d] at f;cases f
theorem Rel.put(r:Rel s0 U D ρ h w){i:Nat}{b b':Blk}{G:Obj}(C:D i)(A:h.get i=some b)(B:b.own=true)(M:b'.own=true)(t:Turned (ρ.b i) G w w')(J:KnB ρ i b' G)(H:InB (DD D ρ) b'):
  Rel s0 U D ρ (h.put i b') w'/\Nxt D ρ h w D ρ (h.put i b') w':=by
 have q:∀j c,(h.put i b').get j=some c->(j=i/\c=b')\/(j≠i/\h.get j=some c):=λj c p=>by
  grind[Heap.get_put]
 have I:=r.blt A;refine⟨⟨r.lt,λj m=>?_,λj c m p=>?_,λj c m p=>?_,λj k c d m y p F f z u=>?_,λj c m p f=>?_,λj k c d m y p F f z=>?_,?_⟩,?_⟩
 .have m:h.next<=j:=m;rw[Heap.get_put,Zg Xd];exact r.wf j m
 .rcases q j c p with ⟨rfl,rfl⟩|⟨u,p⟩
  .exact⟨G,t.this,J⟩
  .obtain⟨o,N,O⟩:=r.has j c m p;refine⟨o,?_,O⟩;rw[t.other]
   .exact N
   .intro e;by_cases f:c.own=true
    .exact r.inj j i c b m C p A f B u e
    .exact r.old j i c b m C p A (by simpa using f) B e
 .rcases q j c p with ⟨rfl,rfl⟩|⟨_,p⟩
  .exact H
  .exact r.clo j c m p
 .rcases q j c p with ⟨rfl,rfl⟩|⟨_,hc1⟩<;>rcases q k d F with ⟨rfl,rfl⟩|⟨_,hd1⟩
  .exact absurd rfl u
  .exact r.inj _ _ b d m y A hd1 B z u
  .exact r.inj _ _ c b m y hc1 A f B u
  .exact r.inj _ _ c d m y hc1 hd1 f z u
 .rcases q j c p with ⟨rfl,rfl⟩|⟨_,p⟩
  .exact r.own _ b m A B
  .exact r.own j c m p f
 .rcases q j c p with ⟨rfl,rfl⟩|⟨_,hc1⟩
  .grind
  .rcases q k d F with ⟨rfl,rfl⟩|⟨_,hd1⟩
   .exact r.old j _ c b m y hc1 A f B
   .exact r.old j k c d m y hc1 hd1 f z
 .have P:=r.own i b C A B;exact⟨t.os.trans r.base.os,t.tape.trans r.base.tape,t.output.trans r.base.output,by rw[t.size];exact r.base.size,λk J=>(t.other k Xd).trans (r.base.block k J)⟩
 .have L:=xCq h.wmin i;refine⟨λ_ h=>h,λ_ h=>.inl h,λ_ _=>⟨rfl,rfl,rfl,rfl⟩,λc _ E=>t.other c λe=>E i C L.2 I e.symm,λj _ Q K=>?_,Nat.le_of_eq t.size.symm,L.1,Zb _,t.os,t.tape,t.output⟩;have K:j<h.next:=K;omega
theorem Rel.putR(r:Rel s0 U D ρ h w){i:Nat}{b b':Blk}{G:Obj}(B:D i)(A:h.get i=some b)(C:b.own=true)(M:b'.own=false)(t:Turned (ρ.b i) G w w')(J:KnB ρ i b' G)(H:InB (DD D ρ) b'):
  Rel s0 U D ρ (h.put i b') w'/\Nxt D ρ h w D ρ (h.put i b') w':=by
 have q:∀j c,(h.put i b').get j=some c->(j=i/\c=b')\/(j≠i/\h.get j=some c):=λj c f=>by
  grind[Heap.get_put]
 have I:=r.blt A;refine⟨⟨r.lt,λj p=>?_,λj c p f=>?_,λj c p f=>?_,λj k c d p y f F m u z=>?_,λj c p f m=>?_,λj k c d p y f F m u=>?_,?_⟩,?_⟩
 .have p:h.next<=j:=p;rw[Heap.get_put,Zg Xd];exact r.wf j p
 .rcases q j c f with ⟨rfl,rfl⟩|⟨z,f⟩
  .exact⟨G,t.this,J⟩
  .obtain⟨o,N,O⟩:=r.has j c p f;refine⟨o,?_,O⟩;rw[t.other]
   .exact N
   .intro e;by_cases m:c.own=true
    .exact r.inj j i c b p B f A m C z e
    .exact r.old j i c b p B f A (by simpa using m) C e
 .rcases q j c f with ⟨rfl,rfl⟩|⟨_,f⟩
  .exact H
  .exact r.clo j c p f
 .rcases q j c f with ⟨rfl,rfl⟩|⟨_,hc1⟩
  .grind
  .rcases q k d F with ⟨rfl,rfl⟩|⟨_,hd1⟩
   .grind
   .exact r.inj _ _ c d p y hc1 hd1 m u z
 .rcases q j c f with ⟨rfl,rfl⟩|⟨_,f⟩
  .grind
  .exact r.own j c p f m
 .rcases q k d F with ⟨rfl,rfl⟩|⟨hkn,hd1⟩
  .grind
  .rcases q j c f with ⟨rfl,rfl⟩|⟨_,hc1⟩
   .exact r.inj _ _ b d p y A hd1 C u (λe=>hkn e.symm)
   .exact r.old j k c d p y hc1 hd1 m u
 .have P:=r.own i b B A C;exact⟨t.os.trans r.base.os,t.tape.trans r.base.tape,t.output.trans r.base.output,by rw[t.size];exact r.base.size,λk J=>(t.other k Xd).trans (r.base.block k J)⟩
 .have L:=xCq h.wmin i;refine⟨λ_ h=>h,λ_ h=>.inl h,λ_ _=>⟨rfl,rfl,rfl,rfl⟩,λc _ E=>t.other c λe=>E i B L.2 I e.symm,λj _ Q K=>?_,Nat.le_of_eq t.size.symm,L.1,Zb _,t.os,t.tape,t.output⟩;have K:j<h.next:=K;omega
theorem Rel.kill(r:Rel s0 U D ρ h w)(i:Nat):Rel s0 U D ρ (h.kill i) w/\Nxt D ρ h w D ρ (h.kill i) w:=by
 have b:∀j c,(h.kill i).get j=some c->h.get j=some c:=λj c o=>by
  grind[Heap.get_kill]
 have u:=xCq h.wmin i
 refine⟨⟨r.lt,λj m=>?_,λj c m o=>r.has j c m (b j c o),λj c m o=>r.clo j c m (b j c o),λj k c d m q o p=>r.inj j k c d m q (b _ _ o) (b _ _ p),λj c m o=>r.own j c m (b _ _ o),λj k c d m q o p=>r.old j k c d m q (b _ _ o) (b _ _ p),r.base⟩,
  ⟨λ_ h=>h,λ_ h=>.inl h,λ_ _=>⟨rfl,rfl,rfl,rfl⟩,λ_ _ _=>rfl,λj _ y s=>?_,Zb _,u.1,Zb _,rfl,rfl,rfl⟩⟩
 .have m:h.next<=j:=m;rw[Heap.get_kill];split
  .rfl
  .exact r.wf j m
 .have s:j<h.next:=s;omega
def Env.add(ρ:Env)(i b a c:Nat):Env:=⟨λj=>if j=i then b else ρ.b j,λj=>if j=i then a else ρ.pre j,λj=>if j=i then c else ρ.cap j,λj=>if j=i then(b,none) else ρ.l j⟩
theorem Env.add_agree{ρ:Env}{i b c a:Nat}{D:Nat->Prop}(h:∀j,D j->j≠i):Env.Agree (DD D ρ) ρ (ρ.add i b c a):=λj _ d=>by
 have:=h j d.1;simp[Env.add,this]
theorem Rel.next_new(r:Rel s0 U D ρ h w)(b:h.next+1<=U):∀j,D j->j≠h.next:=λj a e=>by
 have:=r.lt j a;omega
theorem Rel.pushAny(r:Rel s0 U D ρ h w)(P:h.next+1<=U){b:Blk}{o:Obj}{pre cap:Nat}(g:Below w.heap.size w w')(S:w'.heap[w.heap.size]? =some o)(M:InB (DD D ρ) b)(O:KnB (ρ.add h.next w.heap.size pre cap) h.next b o):
  Rel s0 U (λi=>D i\/i=h.next) (ρ.add h.next w.heap.size pre cap) (h.push b) w'/\Nxt D ρ h w (λi=>D i\/i=h.next) (ρ.add h.next w.heap.size pre cap) (h.push b) w':=by
 have J:=r.next_new P;have A:Env.Agree (DD D ρ) ρ (ρ.add h.next w.heap.size pre cap):=Env.add_agree J;have G:∀j m,DD D ρ j m->DD (λi=>D i\/i=h.next) (ρ.add h.next w.heap.size pre cap) j m:=λj m p=>⟨.inl p.1,by rw[(A j m p).2.2.1];exact p.2⟩
 have E:∀j,D j->(ρ.add h.next w.heap.size pre cap).b j=ρ.b j:=λj p=>(A j 0 ⟨p,Zf _⟩).1
 have K:(ρ.add h.next w.heap.size pre cap).b h.next=w.heap.size:=by simp[Env.add]
 have u:∀j c,(D j\/j=h.next) ->(h.push b).get j=some c->(j=h.next/\c=b)\/(D j/\h.get j=some c):=λj c p q=>by
  grind[Heap.get_push]
 have H:∀j c,D j->h.get j=some c->ρ.b j<w.heap.size:=λj c p q=>by
  obtain⟨o,L,_⟩:=r.has j c p q;exact(Zs.1 L).1
 have F:s0.heap.size<=w.heap.size:=r.base.size;refine⟨⟨λj p=>?_,λj p=>?_,λj c p q=>?_,λj c p q=>?_,λj k c d p C q I y B z=>?_,λj c p q y=>?_,λj k c d p C q I y B=>?_,?_⟩,?_⟩
 .show j<h.next+1\/_;rcases p with p|p
  .have:=r.lt j p;omega
  .omega
 .have p:h.next+1<=j:=p;rw[Heap.get_push,Zg Xd];exact r.wf j Xd
 .rcases u j c p q with ⟨rfl,rfl⟩|⟨p,q⟩
  .grind
  .obtain⟨o,L,R⟩:=r.has j c p q;exact⟨o,by rw[E j p,g.block _ (H j c p q)];exact L,KnB.agree A (m:=0) ⟨p,Zf _⟩ (r.clo j c p q) R⟩
 .rcases u j c p q with ⟨rfl,rfl⟩|⟨p,q⟩
  .exact M.mono G
  .exact(r.clo j c p q).mono G
 .rcases u j c p q with ⟨rfl,rfl⟩|⟨hj1,hc1⟩<;>rcases u k d C I with ⟨rfl,rfl⟩|⟨hk1,hd1⟩
  .exact absurd rfl z
  .grind
  .grind
  .rw[E j hj1,E k hk1];exact r.inj j k c d hj1 hk1 hc1 hd1 y B z
 .rcases u j c p q with ⟨rfl,rfl⟩|⟨p,q⟩
  .rw[K];exact F
  .rw[E j p];exact r.own j c p q y
 .rcases u j c p q with ⟨rfl,rfl⟩|⟨hj1,hc1⟩<;>rcases u k d C I with ⟨rfl,rfl⟩|⟨hk1,hd1⟩
  .grind
  .grind
  .grind
  .rw[E j hj1,E k hk1];exact r.old j k c d hj1 hk1 hc1 hd1 y B
 .exact⟨g.os.trans r.base.os,g.tape.trans r.base.tape,g.output.trans r.base.output,Zt F g.size,λk O=>(g.block k Xd).trans (r.base.block k O)⟩
 .refine⟨λ_ h=>.inl h,λj p=>?_,λj p=>?_,λc q _=>g.block c q,λj p Q N=>?_,g.size,Zb _,YO _,g.os,g.tape,g.output⟩
  .rcases p with p|p
   .exact .inl p
   .exact .inr ⟨Nat.le_of_eq p.symm,by show j<h.next+1;omega⟩
  .have:j≠h.next:=by
    rcases p with p|p
    .omega
    .have p:h.next+1<=j:=p;omega
   simp[Env.add,this]
  .have N:j<h.next+1:=N;grind
theorem Rel.push(r:Rel s0 U D ρ h w)(d:h.next+1<=U){b:Blk}{o:Obj}{pre cap:Nat}(g:Below w.heap.size w w')(f:w'.heap[w.heap.size]? =some o)(c:b.own=true)(a:InB (DD D ρ) b)(e:KnB (ρ.add h.next w.heap.size pre cap) h.next b o):
  Rel s0 U (λi=>D i\/i=h.next) (ρ.add h.next w.heap.size pre cap) (h.push b) w'/\Nxt D ρ h w (λi=>D i\/i=h.next) (ρ.add h.next w.heap.size pre cap) (h.push b) w':=r.pushAny d g f a e
theorem Rel.move(r:Rel s0 U D ρ h w)(hU:h.next+1<=U){b:Nat}{B B':Blk}{o':Obj}{pre cap:Nat}(hb:D b)(hg:h.get b=some B)(ho:B.own=true)(ho':B'.own=true)(t:Turned (ρ.b b) o' w w')(hin:InB (DD D ρ) B')(hk:KnB (ρ.add h.next (ρ.b b) pre cap) h.next B' o'):
  Rel s0 U (λi=>D i\/i=h.next) (ρ.add h.next (ρ.b b) pre cap) ((h.push B').kill b) w'/\Nxt D ρ h w (λi=>D i\/i=h.next) (ρ.add h.next (ρ.b b) pre cap) ((h.push B').kill b) w':=by
 have hne:=r.next_new hU;have hag:Env.Agree (DD D ρ) ρ (ρ.add h.next (ρ.b b) pre cap):=Env.add_agree hne;have hdd:∀j m,DD D ρ j m->DD (λi=>D i\/i=h.next) (ρ.add h.next (ρ.b b) pre cap) j m:=λj m hj=>⟨.inl hj.1,by rw[(hag j m hj).2.2.1];exact hj.2⟩
 have hbb:∀j,D j->(ρ.add h.next (ρ.b b) pre cap).b j=ρ.b j:=λj hj=>(hag j 0 ⟨hj,Zf _⟩).1
 have hbn:(ρ.add h.next (ρ.b b) pre cap).b h.next=ρ.b b:=by simp[Env.add]
 have hbl:=r.blt hg
 have get:∀j c,(D j\/j=h.next) ->((h.push B').kill b).get j=some c->(j=h.next/\c=B')\/(D j/\j≠b/\h.get j=some c):=λj c hj hc=>by
  rw[Heap.get_kill] at hc;split at hc
  .cases hc
  .rename_i e1;rw[Heap.get_push] at hc;split at hc
   .rename_i e;cases hc;exact .inl ⟨e,rfl⟩
   .rename_i e;rcases hj with hj|hj
    .exact .inr ⟨hj,e1,hc⟩
    .exact absurd hj e
 have ne:∀j c,D j->j≠b->h.get j=some c->ρ.b j≠ρ.b b:=λj c hj hjb hc e=>by
  by_cases hoc:c.own=true
  .exact r.inj j b c B hj hb hc hg hoc ho hjb e
  .exact r.old j b c B hj hb hc hg (by simpa using hoc) ho e
 have hw:=xCq (h.push B').wmin b;refine⟨⟨λj hj=>?_,λj hj=>?_,λj c hj hc=>?_,λj c hj hc=>?_,λj k c d hj hk' hc hd hoc hod hne'=>?_,λj c hj hc hoc=>?_,λj k c d hj hk' hc hd hoc hod=>?_,?_⟩,?_⟩
 .show j<h.next+1\/_;rcases hj with hj|hj
  .have:=r.lt j hj;omega
  .omega
 .have hj:h.next+1<=j:=hj;rw[Heap.get_kill];split
  .rfl
  .rw[Heap.get_push,Zg Xd];exact r.wf j Xd
 .rcases get j c hj hc with ⟨rfl,rfl⟩|⟨hj,hjb,hc⟩
  .exact⟨o',by rw[hbn];exact t.this,hk⟩
  .obtain⟨o,h1,h2⟩:=r.has j c hj hc;exact⟨o,by rw[hbb j hj,t.other _ (ne j c hj hjb hc)];exact h1,KnB.agree hag (m:=0) ⟨hj,Zf _⟩ (r.clo j c hj hc) h2⟩
 .rcases get j c hj hc with ⟨rfl,rfl⟩|⟨hj,hjb,hc⟩
  .exact hin.mono hdd
  .exact(r.clo j c hj hc).mono hdd
 .rcases get j c hj hc with ⟨rfl,rfl⟩|⟨hj1,hjb,hc1⟩<;>rcases get k d hk' hd with ⟨rfl,rfl⟩|⟨hk1,hkb,hd1⟩
  .exact absurd rfl hne'
  .rw[hbn,hbb k hk1];exact λe=>ne k d hk1 hkb hd1 e.symm
  .rw[hbn,hbb j hj1];exact ne j c hj1 hjb hc1
  .rw[hbb j hj1,hbb k hk1];exact r.inj j k c d hj1 hk1 hc1 hd1 hoc hod hne'
 .rcases get j c hj hc with ⟨rfl,rfl⟩|⟨hj,hjb,hc⟩
  .rw[hbn];exact r.own b B hb hg ho
  .rw[hbb j hj];exact r.own j c hj hc hoc
 .rcases get j c hj hc with ⟨rfl,rfl⟩|⟨hj1,hjb,hc1⟩
  .rw[ho'] at hoc;cases hoc
  .rcases get k d hk' hd with ⟨rfl,rfl⟩|⟨hk1,hkb,hd1⟩
   .rw[hbn,hbb j hj1];exact ne j c hj1 hjb hc1
   .rw[hbb j hj1,hbb k hk1];exact r.old j k c d hj1 hk1 hc1 hd1 hoc hod
 .have hs:=r.own b B hb hg ho;exact⟨t.os.trans r.base.os,t.tape.trans r.base.tape,t.output.trans r.base.output,by rw[t.size];exact r.base.size,λk hk=>(t.other k Xd).trans (r.base.block k hk)⟩
 .refine⟨λ_ h=>.inl h,λj hj=>?_,λj hj=>?_,λc _ hno=>t.other c λe=>hno b hb hw.2 hbl e.symm,λj hj hn' hl=>?_,Nat.le_of_eq t.size.symm,hw.1,YO _,t.os,t.tape,t.output⟩
  .rcases hj with hj|hj
   .exact .inl hj
   .exact .inr ⟨Nat.le_of_eq hj.symm,by show j<h.next+1;omega⟩
  .have:j≠h.next:=by
    rcases hj with hj|hj
    .omega
    .have hj:h.next+1<=j:=hj;omega
   simp[Env.add,this]
  .have hl:j<h.next+1:=hl;have hj':j=h.next:=by omega
   rw[hj',hbn];exact .inr ⟨b,hb,hw.2,hbl,rfl⟩
theorem Nxt.undrew{D':Nat->Prop}{a:Env}{c:Heap}{n:Nat}(x:Nxt D ρ h {w with drawn:=n} D' a c w'):Nxt D ρ h w D' a c w':=
 ⟨x.sub,x.new,x.env,x.frame,x.fresh,x.size,x.wmin,x.nxt,x.os,x.tape,x.output⟩
end
section
inductive TyD where
 |int (k:IntKind)
 |bool
 |str
 |arr (n:Nat) (e:TypeId)
 |slice (e:TypeId)
 |struct (fs:List (TypeId×Nat))
 |ptr
 |iface
 |other
structure TyI where
 size:Nat
 bytes:Nat
 zero:V
 d:TyD
def TyI.agg(i:TyI):Bool:=match i.d with
 |.arr _ _=>true
 |.struct _=>true
 |_=>false
def TyD.Is(P:Program)(t:TypeId):TyD->Prop
 |.int k=>P.underlying t=some (.int k)
 |.bool=>P.underlying t=some .bool
 |.str=>P.underlying t=some .string
 |.arr n e=>P.underlying t=some (.array n e)/\(P.info? e).isSome=true
 |.slice e=>P.underlying t=some (.slice e)
 |.struct d=>P.underlying t=some (.struct (P.fieldsOf t))/\(P.fieldsOf t).toList.map (λf=>(f.type,f.offset))=d/\P.stoodInHeld t=false/\(P.fieldsOf t).toList.all (λf=>f.name != "_")=true/\(P.fieldsOf t).toList.all (λf=>(P.info? f.type).isSome)=true
 |.ptr=>P.underlying t=some (.pointer (P.pointee t))
 |.iface=>∃j,P.underlying t=some (.interface j)
 |.other=>match P.underlying t with|some (.struct _)=>False|some (.array _ _)=>False|some (.interface _)=>False|some _=>True|none=>False
structure TyOK(P:Program)(t:TypeId)(i:TyI):Prop where
 size:(P.info? t).map (·.size)=some i.size
 bytes:(P.info? t).map (·.bytes)=some i.bytes
 zero:∀ρ,(P.info? t).bind (·.zero)=some (abq ρ i.zero)
 zin:InD (λ_ _=>False) i.zero
 d:i.d.Is P t
 eqg:i.agg=true->P.eqGuardType P.depth t=false
 zagg:i.zero.isAgg=i.agg
 zleaf:i.agg=false->i.zero.leaf=true
 zsize:i.zero.size=i.size
inductive UX where
 |ptr (e:TypeId)
 |raw
 |fnc
 |mk (e:TypeId)
structure Cfg where
 ty:TypeId->Option TyI
 fn:FuncId->Option Func
 ext:FuncId->Option (List V->Option V)
 glob:Nat->Bool
 known:FuncId->Option (List V->Heap->Option (V×Heap))
 mp:TypeId->Option (TypeId×TypeId)
 mt:TypeId->String->Option FuncId
 ux:Nat->Option UX
structure CfgOK(P:Program)(C:Cfg):Prop where
 ty:∀t i,C.ty t=some i->TyOK P t i
 ext:∀f e,C.ext f=some e->∀ρ vs v,e vs=some v->(∀w,(callFunc f (zPq ρ vs).toArray).run P w= .ok (.value (abq ρ v)) w)/\∀D,InDL D vs->InD D v
 mp:∀t k e,C.mp t=some (k,e) ->P.underlying t=some (.map k e)
 mt:∀t m f,C.mt t m=some f->∀v args w,(callMethod (.iface t v) m args).run P w=(callFunc f (#[v]++args)).run P w
 ptr:∀t e,C.ux (2*t)=some (.ptr e) ->P.underlying t=some (.pointer e)
 raw:∀t,C.ux (2*t)=some .raw->P.underlying t=some .unsafePointer
 fnc:∀t,C.ux (2*t)=some .fnc->∃ps rs v,P.underlying t=some (.func ps rs v)
 room:∀f e,C.ux (2*f+1)=some (.mk e) ->∃ps rs t,rs[0]? =some t/\P.underlying t=some (.slice e)/\P.underlying e=some (.int .u8)/\∀args w,(callFunc f args).run P w=(do pure (Next.value (<-Extern.BytealgMakeNoZero.makeNoZero ps rs args))).run P w
section
variable {P:Program} {t:TypeId} {i:TyI}
theorem TyOK.info(h:TyOK P t i):∃a,P.info? t=some a/\a.size=i.size/\a.bytes=i.bytes/\∀c,a.zero=some (abq c i.zero):=by
 cases b:P.info? t with
 |none=>have:=h.size;simp[b] at this
 |some a=>exact⟨a,rfl,by have:=h.size;simpa[b] using this,by have:=h.bytes;simpa[b] using this,λc=>by have:=h.zero c;simpa[b] using this⟩
theorem TyOK.isAgg(h:TyOK P t i)(w:World):(isAgg t).run P w= .ok i.agg w:=by
 have a:=h.d;unfold TyI.agg;cases c:i.d<;>rw[c] at a<;>simp only[TyD.Is] at a
 case arr=>unfold Go.isAgg;rw[ZN,Zz a.1 w];simp
 case struct=>unfold Go.isAgg;rw[ZN,Zz a.1 w];simp
 case iface=>grind[run_isAgg_plain]
 case other=>
  cases b:P.underlying t with
  |none=>simp[b] at a
  |some x=>
   refine run_isAgg_plain b ?_ w;cases x<;>simp[b] at a<;>rfl
 all_goals exact run_isAgg_plain a rfl w
theorem TyOK.sizeOf(h:TyOK P t i)(w:World):(sizeOf t).run P w= .ok i.size w:=vrq h.size w
theorem TyOK.aggLen(h:TyOK P t i)(b:i.agg=true):aggLen P t=some i.size:=by
 have a:=h.d;unfold TyI.agg at b;unfold Go.Proofs.YtcoldbcijgmidaaGreatDoor.aggLen;cases c:i.d<;>rw[c] at a b<;>simp only[TyD.Is] at a<;>try (cases b;done)
 .rw[a.1];exact h.size
 .rw[a.1];exact h.size
theorem TyOK.part(h:TyOK P t i){ρ:Env}{v x:V}{off:Nat}{f:Nat}(hg:j6q f v off i.size i.agg=some x)(w:World):(part t (cellsV ρ v).toArray off).run P w= .ok (abq ρ x) w:=by
 obtain⟨g1,g2,g3,g4⟩:=JRq (ρ:=ρ) f v off i.size i.agg x hg;unfold Go.part;rw[ZN,h.isAgg w,ZE];cases ha:i.agg with
 |true=>
  rw[ha,Zl rfl] at g4;simp only[if_true,ZN,h.sizeOf w,ZE,YD];rw[qPq g4,<-g3];congr 2
  apply Array.ext';simp[Array.toList_extract,List.extract,List.take_drop]
 |false=>
  rw[ha,Zg Xi] at g4;have h1:=kRq (ρ:=ρ) g4
  have h2:x.size=1:=by
   have:=yHq ρ x;rw[h1] at this;simpa using this.symm
  have h3:(cellsV ρ v).toArray[off]? =some (abq ρ x):=by
   have h4:(((cellsV ρ v).drop off).take i.size)[0]? =some (abq ρ x):=by rw[g3,h1];rfl
   rw[List.getElem?_take_of_lt Xd,Z0,Y5] at h4;simpa using h4
  simp[h3]
end
def ltI(m n:Int):Bool:=match m,n with
 |.ofNat a,.ofNat b=>Nat.blt a b
 |.ofNat _,.negSucc _=>false
 |.negSucc _,.ofNat _=>true
 |.negSucc a,.negSucc b=>Nat.blt b a
theorem Yjq(m n:Int):ltI m n=decide (m<n):=by
 have c:∀a b:Nat,Nat.blt a b=decide (a<b):=λa b=>by
  grind[YR]
 cases m<;>cases n<;>simp only[ltI,c]<;>rw[Bool.eq_iff_iff]<;>simp<;>omega
def eqI(m n:Int):Bool:=match m,n with
 |.ofNat a,.ofNat b=>Nat.beq a b
 |.negSucc a,.negSucc b=>Nat.beq a b
 |_,_=>false
theorem QWq(m n:Int):eqI m n=decide (m=n):=by
 cases m<;>cases n<;>simp only[eqI]<;>rw[Bool.eq_iff_iff]<;>simp[ZH]
 omega
def xBq(k:IntKind)(z:Int):Int:=match k,z with
 |.i64,.ofNat a=>match Nat.blt a 9223372036854775808 with
  |true=>.ofNat a
  |false=>k.wrap z
 |.i64,.negSucc a=>match Nat.blt a 9223372036854775808 with
  |true=>.negSucc a
  |false=>k.wrap z
 |.u64,.ofNat a=>.ofNat (a%18446744073709551616)
 |.u32,.ofNat a=>.ofNat (a%4294967296)
 |.u8,.ofNat a=>.ofNat (a%256)
 |_,_=>k.wrap z
theorem xAq(k:IntKind)(z:Int):xBq k z=k.wrap z:=by
 unfold xBq;split
 all_goals grind[YR,IntKind.wrap,IntKind.bits,IntKind.signed]
def eDq:IntKind->Nat
 |.u8=>256
 |.u16=>65536
 |.u32=>4294967296
 |.u64=>18446744073709551616
 |_=>0
def BNq(c:BinOp)(a b:Nat):Option Nat:=match c with
 |.and=>some (Nat.land a b)
 |.or=>some (Nat.lor a b)
 |.xor=>some (Nat.xor a b)
 |_=>none
def dLq(d:BinOp)(k:IntKind)(m n:Int):Option Int:=match m,n with
 |.ofNat a,.ofNat b=>match Nat.beq (eDq k) 0 with
  |true=>none
  |false=>match BNq d (a%eDq k) (b%eDq k) with
   |some c=>some (.ofNat c)
   |none=>none
 |_,_=>none
theorem nMq{k:IntKind}(h:0<eDq k):eDq k=2^k.bits/\k.signed=false:=by
 cases k<;>simp[eDq] at h<;>exact⟨rfl,rfl⟩
theorem Y5q{d:BinOp}{k:IntKind}{m n c:Int}(h:dLq d k m n=some c){P:Program}(w:World):(Op.intBits d k m n).run P w= .ok (.int k c) w:=by
 unfold dLq at h;split at h
 .rename_i a b;split at h
  .cases h
  .rename_i j
   have f:0<eDq k:=by
    rcases YS (eDq k) with e|e
    .rw[e] at j;cases j
    .exact e
   obtain⟨l,v⟩:=nMq f
   have w1:∀x:Nat,x<2^k.bits->k.wrap (x:Int)=x:=λx q=>by
    grind[IntKind.wrap,YV]
   have g:∀x:Nat,(BitVec.ofInt k.bits (Int.ofNat x)).toNat=x%eDq k:=λx=>by
    grind
   have y:a%eDq k<2^k.bits:=by rw[<-l];exact Nat.mod_lt _ f
   have p:b%eDq k<2^k.bits:=by rw[<-l];exact Nat.mod_lt _ f
   cases d<;>simp only[BNq] at h<;>try (cases h;done)
   all_goals
    simp only[Zm] at h;subst h;simp only[Op.intBits,YD,BitVec.toNat_and,BitVec.toNat_or,BitVec.toNat_xor,g a,g b]
   all_goals simp_all[Nat.and_lt_two_pow,Nat.or_lt_two_pow,Nat.xor_lt_two_pow]
 .cases h
def Ckq(k:IntKind)(n:Int):Option Int:=dLq .xor k (.ofNat (eDq k-1)) n
theorem sEq{k:IntKind}{n c:Int}(h:Ckq k n=some c){P:Program}(w:World):(Op.unary .xor (.int k n)).run P w= .ok (.int k c) w:=by
 have e:(if k.signed then-1 else k.max)=Int.ofNat (eDq k-1):=by
  cases k<;>first|rfl|(exfalso;unfold Ckq dLq at h;split at h<;>simp_all[eDq])
 unfold Op.unary;simp only[e];exact Y5q h w
def BRq(f:BinOp)(k:IntKind)(m n:Int):Option V:=match f with
 |.add=>some (.int k (xBq k (m+n)))
 |.sub=>some (.int k (xBq k (m-n)))
 |.mul=>some (.int k (xBq k (m*n)))
 |.quo=>match eqI n 0 with
  |true=>none
  |false=>some (.int k (xBq k (m.tdiv n)))
 |.rem=>match eqI n 0 with
  |true=>none
  |false=>some (.int k (m.tmod n))
 |.and=>match dLq .and k m n with
  |some c=>some (.int k c)
  |none=>none
 |.or=>match dLq .or k m n with
  |some c=>some (.int k c)
  |none=>none
 |.xor=>match dLq .xor k m n with
  |some c=>some (.int k c)
  |none=>none
 |.lss=>some (.bool (ltI m n))
 |.leq=>some (.bool (!ltI n m))
 |.gtr=>some (.bool (ltI n m))
 |.geq=>some (.bool (!ltI m n))
 |.eql=>some (.bool (eqI m n))
 |.neq=>some (.bool (!eqI m n))
 |_=>none
def shI(c:BinOp)(k:IntKind)(m n:Int):Option V:=match m,n with
 |.ofNat a,.ofNat b=>match c with
  |.shr=>some (.int k (.ofNat (Nat.shiftRight a (min b k.bits))))
  |.shl=>some (.int k (xBq k (.ofNat (Nat.shiftLeft a (min b k.bits)))))
  |_=>none
 |_,_=>none
section
variable {P:Program} (w:World) {x y:Operand} {t:TypeId} {k k2:IntKind} {m n:Int} {r:V} {op:BinOp} {ρ:Env}
theorem tOq(h:BRq op k m n=some r):(do eqGuard op t x y (.int k m) (.int k n);binOp op t (.int k m) (.int k n)).run P w= .ok (abq ρ r) w:=by
 unfold BRq at h;cases op<;>simp only at h<;>try (cases h;done)
 case add=>cases h;simp[eqGuard,binOp,Op.intArith,abq,xAq]
 case sub=>cases h;simp[eqGuard,binOp,Op.intArith,abq,xAq]
 case mul=>cases h;simp[eqGuard,binOp,Op.intArith,abq,xAq]
 case quo=>
  split at h
  .cases h
  .rename_i b;rw[QWq,decide_eq_false_iff_not] at b;cases h;simp[eqGuard,binOp,Op.intDiv,abq,xAq,b]
 case rem=>
  split at h
  .cases h
  .rename_i b;rw[QWq,decide_eq_false_iff_not] at b;cases h;simp[eqGuard,binOp,Op.intDiv,abq,b]
 case and=>grind[eqGuard,binOp,Y5q,abq]
 case or=>grind[eqGuard,binOp,Y5q,abq]
 case xor=>grind[eqGuard,binOp,Y5q,abq]
 case lss=>cases h;simp[eqGuard,binOp,Op.intCmp,abq,Yjq]
 case leq=>
  cases h;simp[eqGuard,binOp,Op.intCmp,abq,Yjq];grind
 case gtr=>cases h;simp[eqGuard,binOp,Op.intCmp,abq,Yjq]
 case geq=>
  cases h;simp[eqGuard,binOp,Op.intCmp,abq,Yjq];grind
 case eql=>
  cases h;simp[eqGuard,binOp,Op.intCmp,abq,QWq];grind
 case neq=>
  cases h;simp[eqGuard,binOp,Op.intCmp,abq,QWq];grind
theorem ppq(h:shI op k m n=some r):(do eqGuard op t x y (.int k m) (.int k2 n);binOp op t (.int k m) (.int k2 n)).run P w= .ok (abq ρ r) w:=by
 unfold shI at h;split at h
 .rename_i a b;have f:¬(Int.ofNat b<0):=by simp only[Int.ofNat_eq_natCast];omega
  have d:(Int.ofNat b).toNat=b:=rfl;split at h
  .cases h;simp only[eqGuard,binOp,Op.shift,f,if_false,d,ZN,YD,ZE,abq];simp_all[Int.shiftRight_eq_div_pow,Int.fdiv_eq_ediv_of_nonneg,Int.pow_nonneg]
  .cases h;simp only[eqGuard,binOp,Op.shift,f,if_false,d,ZN,YD,ZE,abq,xAq];simp;congr 1
   rw[Int.shiftLeft_eq]
  .cases h
 .cases h
end
def eyq:Value->Option V
 |.bool b=>some (.bool b)
 |.int k n=>some (.int k n)
 |.string s=>some (.str s.data.toList)
 |.pointer none=>some .nilp
 |.slice none 0 0=>some .nils
 |.map none=>some .nilm
 |.nilFunc=>some .nilf
 |.nilIface=>some .nili
 |_=>none
theorem vyq{x:Value}{v:V}(h:eyq x=some v)(a:Env):abq a v=x/\v.leaf=true/\∀D,InD D v:=by
 unfold eyq at h;split at h<;>cases h<;>simp[abq,V.leaf,InD]
def Zfq:List Value->Option (List V)
 |[]=>some []
 |x::l=>match eyq x,Zfq l with
  |some v,some r=>some (v::r)
  |_,_=>none
theorem Zeq:∀{l:List Value} {r:List V},Zfq l=some r->∀b,j8q b r=l/\∀D,InDL D r
 |[],r,h,b=>by simp[Zfq] at h;subst h;exact⟨rfl,λ_=>trivial⟩
 |x::l,r,h,b=>by
  simp only[Zfq] at h;split at h
  .rename_i v q k o;cases h;obtain⟨d,f,g⟩:=vyq k b;obtain⟨p,j⟩:=Zeq o b;exact⟨by simp[j8q,kRq f,d,p],λD=>⟨g D,j D⟩⟩
  .cases h
def ofV:Value->Option V
 |.agg b=>match Zfq b.toList with
  |some l=>some (.agg b.size l)
  |none=>none
 |x=>eyq x
theorem nxq{x:Value}{v:V}(h:ofV x=some v)(b:Env):abq b v=x/\∀D,InD D v:=by
 unfold ofV at h;split at h
 .rename_i j;split at h
  .rename_i l f;cases h;obtain⟨g,d⟩:=Zeq f b;refine⟨?_,d⟩;simp[abq,g,y2q]
  .cases h
 .exact⟨(vyq h b).1,(vyq h b).2.2⟩
def evV(C:Cfg)(d:Tr V):Operand->Option V
 |.tmp t=>d.get t
 |.const v=>ofV v
 |.global g=>match C.glob g with
  |true=>some (.ptr g 0)
  |false=>none
 |.func f=>some (.fn f [] [])
def GlobOK(C:Cfg)(D:Nat->Nat->Prop)(a:Env):Prop:=∀g,C.glob g=true->D g 0/\a.b g=g/\a.pre g=0
structure FrOK(C:Cfg)(D:Nat->Nat->Prop)(ρ:Env)(fr:Tr V)(a:Act):Prop where
 at_:∀t v,fr.get t=some v->a.tmps[t]? =some (abq ρ v)
 in_:Eeq D fr
 gl:GlobOK C D ρ
section
variable {C:Cfg} {D:Nat->Nat->Prop} {ρ:Env} {fr:Tr V} {a:Act}
theorem FrOK.ev(h:FrOK C D ρ fr a){x:Operand}{v:V}(b:evV C fr x=some v):a.eval x=abq ρ v/\InD D v:=by
 cases x with
 |tmp t=>have:=h.at_ t v b;exact⟨by simp[Act.eval,this],h.in_ t v b⟩
 |const c=>obtain⟨d,j⟩:=nxq b ρ;exact⟨by simp[Act.eval,d],j D⟩
 |global g=>
  simp only[evV] at b;split at b
  .rename_i k;cases b;obtain⟨d,j,l⟩:=h.gl g k;exact⟨by simp[Act.eval,abq,j,l],d⟩
  .cases b
 |func f=>simp only[evV,Zm] at b;subst b;exact⟨by simp[Act.eval,abq,zPq],trivial,trivial⟩
def evL(C:Cfg)(fr:Tr V):List Operand->Option (List V)
 |[]=>some []
 |x::l=>match evV C fr x,evL C fr l with
  |some v,some r=>some (v::r)
  |_,_=>none
theorem FrOK.evs(h:FrOK C D ρ fr a):∀{l:List Operand} {r:List V},evL C fr l=some r->l.map a.eval=zPq ρ r/\InDL D r
 |[],r,hr=>by simp[evL] at hr;subst hr;exact⟨rfl,trivial⟩
 |x::l,r,hr=>by
  simp only[evL] at hr;split at hr
  .rename_i v o g j;cases hr;obtain⟨b,d⟩:=h.ev g;obtain⟨k,f⟩:=h.evs j;exact⟨by simp[zPq,b,k],d,f⟩
  .cases hr
end
def kTq:List UInt8->List UInt8->Bool
 |[],[]=>true
 |a::l,b::r=>Nat.beq a.toNat b.toNat&&kTq l r
 |_,_=>false
theorem u8q:∀a b:List UInt8,kTq a b=decide (a=b)
 |[],[]=>rfl
 |[],_::_=>rfl
 |_::_,[]=>rfl
 |a::l,b::r=>by
  rw[kTq,u8q l r,Bool.eq_iff_iff];simp[UInt8.toNat_inj]
mutual
def eqV(C:Cfg):Nat->TypeId->V->V->Option Bool
 |0,_,_,_=>none
 | f +1,t,x,y=>match C.ty t with
  |none=>none
  |some i=>match i.d with
   |.int _=>match x,y with
    |.int j a,.int k b=>match decide (j=k) with
     |true=>some (eqI a b)
     |false=>none
    |_,_=>none
   |.bool=>match x,y with
    |.bool a,.bool b=>some (a==b)
    |_,_=>none
   |.str=>match x,y with
    |.str a,.str b=>some (kTq a b)
    |_,_=>none
   |.ptr=>match x,y with
    |.nilp,.nilp=>some true
    |.nilp,.ptr _ _=>some false
    |.ptr _ _,.nilp=>some false
    |_,_=>none
   |.slice _=>match x,y with
    |.nils,.nils=>some true
    |.nils,.sl _ _ _ _ _ _=>some false
    |.sl _ _ _ _ _ _,.nils=>some false
    |_,_=>none
   |.struct g=>match x.isAgg&&y.isAgg with
    |true=>onq C f g x y
    |false=>none
   |.arr n e=>match x.isAgg&&y.isAgg,C.ty e with
    |true,some j=>ooq C f e j n 0 x y
    |_,_=>none
   |_=>none
def onq(C:Cfg):Nat->List (TypeId×Nat) ->V->V->Option Bool
 |0,_,_,_=>none
 |_+1,[],_,_=>some true
 |f+1,(t,off)::fs,x,y=>match C.ty t with
  |none=>none
  |some i=>match j6q 50 x off i.size i.agg,j6q 50 y off i.size i.agg with
   |some a,some b=>match eqV C f t a b with
    |some true=>onq C f fs x y
    |some false=>some false
    |none=>none
   |_,_=>none
def ooq(C:Cfg):Nat->TypeId->TyI->Nat->Nat->V->V->Option Bool
 |0,_,_,_,_,_,_=>none
 |_+1,_,_,0,_,_,_=>some true
 |f+1,e,j,n+1,k,x,y=>match j6q 50 x (k*j.size) j.size j.agg,j6q 50 y (k*j.size) j.size j.agg with
  |some a,some b=>match eqV C f e a b with
   |some true=>ooq C f e j n (k+1) x y
   |some false=>some false
   |none=>none
  |_,_=>none
end
section
variable {P:Program} {C:Cfg} {ρ:Env}
theorem dec1{d f:Nat}(h:f+1<=d):∃e,d=e+1/\f<=e:=⟨d-1,by omega,by omega⟩
mutual
theorem Zqq(D:CfgOK P C):∀(f:Nat) (t:TypeId) (x y:V) (b:Bool),eqV C f t x y=some b->∀d,f<=d->∀w,(Op.equalIn d t (abq ρ x) (abq ρ y)).run P w= .ok b w
 |0,_,_,_,_,h=>by simp[eqV] at h
 | f +1,t,x,y,b,h=>λd I w=>by
  obtain⟨d,rfl,B⟩:=dec1 I;simp only[eqV] at h;split at h
  .cases h
  .rename_i i N;have R:=D.ty t i N;have g:=R.d;split at h
   .rename_i k q;rw[q] at g;split at h
    .split at h
     .rename_i F;simp only[YK] at F;subst F;cases h;simp only[abq];rw[run_equalIn_int w d t _ _ _ _ g,QWq];congr 1
     .cases h
    .cases h
   .rename_i q;rw[q] at g;split at h
    .cases h;simp only[abq];exact run_equalIn_bool' w d t _ _ g
    .cases h
   .rename_i q;rw[q] at g;split at h
    .cases h;simp only[abq];rw[run_equalIn_string w d t _ _ g,ByteArray.toList_eq,ByteArray.toList_eq,u8q];grind
    .cases h
   .rename_i q;rw[q] at g;have g:P.underlying t=some (.pointer (P.pointee t)):=g;split at h<;>cases h<;>simp only[abq]<;>simp[Op.equalIn,Zz g]
   .rename_i e q;rw[q] at g;have g:P.underlying t=some (.slice e):=g;split at h<;>cases h<;>simp only[abq,ysq]<;>simp[Op.equalIn,Zz g]
   .rename_i K q;rw[q] at g;obtain⟨M,O,Q,G,_⟩:=g;split at h
    .rename_i v;simp only[Zd] at v;rw[qPq v.1,qPq v.2,run_equalIn_struct w d t _ _ M Q];exact caq D f K x y b h _ O G d B w
    .cases h
   .rename_i n e q;rw[q] at g;split at h
    .rename_i j v J;simp only[Zd] at v;have z:=D.ty e j J;obtain⟨H,A,E,_⟩:=z.info;have L:P.cellsOf e=j.size:=by simp[Program.cellsOf,A,E]
     rw[qPq v.1,qPq v.2,run_equalIn_array w d _ _ g.1 A,L,List.range_eq_range'];exact cbq D f e j n 0 x y b h z d B w
    .cases h
   .cases h
theorem caq(g:CfgOK P C):∀(f:Nat) (j:List (TypeId×Nat)) (x y:V) (b:Bool),onq C f j x y=some b->∀(L:List Field),L.map (λf=>(f.type,f.offset))=j->L.all (λf=>f.name != "_")=true->∀d,f<=d->∀w,
  (Op.eqFields d (cellsV ρ x).toArray (cellsV ρ y).toArray L).run P w= .ok b w
 |0,_,_,_,_,h=>by simp[onq] at h
 |f+1,[],x,y,b,h=>λL B _ d _ w=>by
  simp_all[onq,Op.eqFields]
 | f +1,(t,off)::j,x,y,b,h=>λL B z d K w=>by
  match L,B with
  |F::L,hL0=>
   simp only[ZD,YM,ZR] at hL0;obtain⟨⟨rfl,rfl⟩,p⟩:=hL0;simp only[List.all_cons,Zd,bne_iff_ne,ne_eq] at z;simp only[onq] at h;split at h
   .cases h
   .rename_i i H;have D:=g.ty _ i H;split at h
    .rename_i u v E I;have J:=D.part (ρ:=ρ) E w;have G:=D.part (ρ:=ρ) I w;simp only[Op.eqFields,ne_eq,z.1,not_false_eq_true,if_true,ZN,J,G,ZE];split at h
     .rename_i q;have l:=Zqq g f _ u v true q d Xd w;rw[l,ZE];simp only[Bool.not_true,Bool.false_eq_true,if_false];exact caq g f j x y b h L p z.2 d Xd w
     .rename_i q;cases h;have l:=Zqq g f _ u v false q d Xd w;rw[l,ZE];simp
     .cases h
    .cases h
theorem cbq(l:CfgOK P C):∀(f:Nat) (e:TypeId) (j:TyI) (n k:Nat) (x y:V) (b:Bool),ooq C f e j n k x y=some b->TyOK P e j->∀d,f<=d->∀w,
  (Op.eqItems d e j.size (cellsV ρ x).toArray (cellsV ρ y).toArray (List.range' k n)).run P w= .ok b w
 |0,_,_,_,_,_,_,_,h=>by simp[ooq] at h
 |f+1,e,j,0,k,x,y,b,h=>λ_ d _ w=>by
  simp_all[ooq,Op.eqItems]
 |f+1,e,j,n+1,k,x,y,b,h=>λq d F w=>by
  simp only[ooq] at h;split at h
  .rename_i u v z D;have E:=q.part (ρ:=ρ) z w;have B:=q.part (ρ:=ρ) D w;simp only[List.range'_succ,Op.eqItems,ZN,E,B,ZE];split at h
   .rename_i p;have g:=Zqq l f _ u v true p d Xd w;rw[g,ZE];simp only[Bool.not_true,Bool.false_eq_true,if_false];exact cbq l f e j n (k+1) x y b h q d Xd w
   .rename_i p;cases h;have g:=Zqq l f _ u v false p d Xd w;rw[g,ZE];simp
   .cases h
  .cases h
end
end
end
def tQq:Nat->List Value->Fr
 |_,[]=>[]
 |i,v::vs=>(i,v)::tQq (i+1) vs
theorem lQq:∀(i:Nat) (b:List Value) (t:Nat) (v:Value),(tQq i b).lookup t=some v->i<=t/\b[t-i]? =some v
 |i,[],t,v,h=>by simp[tQq] at h
 |i,x::b,t,v,h=>by
  simp only[tQq,List.lookup_cons] at h;by_cases e:t=i
  .grind
  .have c:(t==i)=false:=by simpa using e
   rw[c] at h;obtain⟨f,j⟩:=lQq (i+1) b t v h;grind
theorem tYq{N:Nat}{a:List Value}(hN:a.length<=N):Ag N [] {tmps:=a.toArray++Array.replicate (N-a.toArray.size) undef,defers:=[]} (tQq 0 a):=by
 refine⟨by simp;omega,rfl,λt v h=>?_⟩;obtain⟨_,b⟩:=lQq 0 a t v h;grind
section
variable {P:Program} {fn:Func} {c:Code} {f:FuncId} {vs:List Value} {w:World} {R:Ending->World->Prop} {H:Hp} {S:List World}
theorem oIq(b:P.funcs[f]? =some fn)(a:fn.body=some c)(hN:vs.length<=fn.ntmps)(d:Kn w H S)(h:CW P none fn.ntmps [] c (bodyPost P fn R) (tQq 0 vs) H S):Calls P f vs.toArray w R:=
 callsIn_wide.1 (callsIn_of_wp (F:=Fence.wide) (n:=0) b a trivial (h.run _ w (tYq hN) d))
end
section
variable {P:Program} {fn:Func} {R:Ending->World->Prop} {H:Hp} {S:List World} {fr:Fr} {N:Nat}
def Yhq(P:Program)(b:Array Value)(w:World)(d:ResultVar)(v:Value):Prop:=
 match d with
 |.tmp t=>b.getD t undef=v
 |.cell p T=>∃a,b.getD p undef= .pointer (some a)/\(loadVar T a).run P w= .ok v w
theorem efq{c:ResultVar}{v:Value}{b:Array Value}{w:World}(h:fn.results= #[c])(d:Yhq P b w c v):(results fn b).run P w= .ok v w:=by
 cases c with
 |tmp t=>simp_all[Yhq,results]
 | cell p T => obtain⟨a,e,f⟩:=d;simp_all[results,asAddr]
def Qzq(b:Array Value):ResultVar->Sem Value:=fun
 |.tmp t=>pure (b.getD t undef)
 |.cell a t=>do loadVar t (<-asAddr (b.getD a undef))
theorem fKq{b:Array Value}{w:World}{c:ResultVar}{v:Value}(f:Yhq P b w c v):(Qzq b c).run P w= .ok v w:=by
 cases c with
 |tmp t=>grind[Yhq,Qzq,YD]
 |cell p T=>obtain⟨a,d,e⟩:=f;simp only[Qzq,d,asAddr,ZN,YD,ZE,e]
theorem fEq(a:Array Value):results fn a=(do let vs<-fn.results.mapM (Qzq a);pure (if h:vs.size=1 then vs[0] else .tuple vs)):=by
 unfold results Qzq;rfl
def DSq{b a:Type}(R:b->a->Prop):List b->List a->Prop
 |[],[]=>True
 |x::xs,y::ys=>R x y/\DSq R xs ys
 |_,_=>False
theorem eeq{rvs:List ResultVar}{b:List Value}{a:Array Value}{w:World}(h:fn.results=rvs.toArray)(f:b.length≠1)(c:DSq (Yhq P a w) rvs b):(results fn a).run P w= .ok (.tuple b.toArray) w:=by
 rw[fEq,h]
 have d:(rvs.toArray.mapM (Qzq a)).run P w= .ok b.toArray w:=by
  rw[List.mapM_toArray,Sem.run_map]
  have:(rvs.mapM (Qzq a)).run P w= .ok b w:=by
   clear h f;induction rvs generalizing b with
   |nil=>cases b with
    |nil=>simp
    |cons=>exact c.elim
   |cons i rvs g=>cases b with
    |nil=>exact c.elim
    |cons v b=>rw[List.mapM_cons];simp[fKq c.1,g c.2]
  rw[this];rfl
 rw[ZN,d];simp[f]
end
section
variable {P:Program} {fn:Func} {c:Code} {f:FuncId} {vs:List Value} {fr0:Fr} {w:World} {R:Ending->World->Prop} {H:Hp} {S:List World}
theorem enter(d:P.funcs[f]? =some fn)(b:fn.body=some c)(hN:vs.length<=fn.ntmps)(g:Kn w H S)(a:tQq 0 vs=fr0){n:Nat}(e:fn.ntmps=n)(h:CW P none n [] c (bodyPost P fn R) fr0 H S):Calls P f vs.toArray w R:=by
 grind[oIq]
variable {N:Nat} {fr:Fr} {e:Exit} (he:e= .ret\/e= .normal)
include he
end
inductive Cmp where|lss|leq|gtr|geq|eql|neq
abbrev Ehq:Cmp->Int->Int->Prop
 |.lss,m,n=>m<n
 |.leq,m,n=>m<=n
 |.gtr,m,n=>n<m
 |.geq,m,n=>n<=m
 |.eql,m,n=>m=n
 |.neq,m,n=>¬m=n
instance(c:Cmp)(m n:Int):Decidable (Ehq c m n):=by cases c<;>unfold Ehq<;>infer_instance
theorem r8q(r:Option Nat)(n:Nat):(FF r).room n:=λd h=>by rw[ZHq] at h;cases h
theorem QUq(r:Option Nat)(P:Program):Machine.fenced P (FF r)=Machine.fenced P Fence.wide:=by cases r<;>rfl
theorem f8q{r:Option Nat}{n:Nat}{P:Program}{f:FuncId}{a:Array Value}{w:World}{R:Ending->World->Prop}(h:CallsIn Fence.wide 0 P f a w R):CallsIn (FF r) n P f a w R:=
 ⟨Jwq r f,λb _=>by rw[QUq];exact h.2 b (room_wide _)⟩
theorem fDq{r:Option Nat}{n:Nat}{P:Program}{l:Nat}{f:FuncId}{d:Array Value}{a b:Code}{w:World}{R:Ending->World->Prop}(h:RoundIn (FF r) n P l f d a b w R):RoundIn Fence.wide 0 P l f d a b w R:=
 ⟨trivial,λc e _=>by have:=h.2 c e (r8q r _);rwa[QUq] at this⟩
theorem qAq{w:World}{b:Nat}(a:Obj)(c:b<w.heap.size):Turned b a w (w.putObj b a):=
 ⟨rfl,rfl,rfl,by simp[World.putObj],World.putObj_heap_same c,λk d=>World.putObj_heap_other d⟩
@[simp] theorem nUq(G H:Hp):Zjq (G++H)=Zjq G++Zjq H:=by simp[Zjq]
@[simp] theorem weq:Zjq []=[]:=rfl
@[simp] theorem sXq(p:Nat×Obj)(H:Hp):Zjq (p::H)=p.1::Zjq H:=rfl
theorem ykq:∀(j:List Value) (f:Nat) (w:World) (b:Nat) (h:Array Value) (t:TypeId),w.heap[b]? =some (.cells h t) ->f+j.length<=h.size->Turned b (.cells (q5q h f j.toArray) t) w (w.setCells b f j)
 |[],f,w,b,h,t,hb,_=>by
  have e:q5q h f (#[]:Array Value)=h:=by simp[q5q]
  exact⟨rfl,rfl,rfl,rfl,by rw[show([]:List Value).toArray= #[] from rfl,e];exact hb,λ_ _=>rfl⟩
 | v ::j,f,w,b,h,t,hb,hl=>by
  have m:=Jpq (off:=f) v hb;have p:f+1+j.length<=(h.setIfInBounds f v).size:=by simp at hl⊢;omega
  have k:=ykq j (f+1) (w.setCell ⟨b,f,none⟩ v) b (h.setIfInBounds f v) t m.this p
  have e:q5q (h.setIfInBounds f v) (f+1) j.toArray=q5q h f (v::j).toArray:=by
   simp only[Zo] at hl;simp only[q5q];congr 1
   apply List.ext_getElem?;intro i;simp only[Zx,Array.toList_setIfInBounds,Y2,Zu,YI,YJ,List.getElem?_set,Array.length_toList,Z0,ZU,Zo];by_cases x:i<f
   .grind
   .grind
  show Turned b _ w ((w.setCell ⟨b,f,none⟩ v).setCells b (f+1) j);rw[<-e];exact⟨k.os.trans m.os,k.tape.trans m.tape,k.output.trans m.output,k.size.trans m.size,k.this,λq u=>(k.other q u).trans (m.other q u)⟩
def DIq(x:UInt8):Value:=.int .u8 x.toNat
def bcs(l:List UInt8):List Value:=l.map DIq
@[simp] theorem wkq(l:List UInt8):(bcs l).length=l.length:=by simp[bcs]
def BQq(c:BinOp)(a b:List UInt8):Option V:=match c with
 |.add=>match Nat.ble (a.length+b.length) 9223372036854775807 with
  |true=>some (.str (a++b))
  |false=>none
 |.eql=>some (.bool (kTq a b))
 |.neq=>some (.bool (!kTq a b))
 |.lss=>some (.bool (Op.bytesLess a b))
 |.leq=>some (.bool (Op.bytesLess a b||kTq a b))
 |.gtr=>some (.bool (!(Op.bytesLess a b||kTq a b)))
 |.geq=>some (.bool (!Op.bytesLess a b))
 |_=>none
def vwq:V->V->Bool
 |.bool _,.bool _=>true
 |.nilp,.nilp=>true
 |.nilp,.ptr _ _=>true
 |.ptr _ _,.nilp=>true
 |.nils,.nils=>true
 |.nils,.sl _ _ _ _ _ _=>true
 |.sl _ _ _ _ _ _,.nils=>true
 |x,y=>x.isAgg&&y.isAgg
def mjq(C:Cfg)(c:BinOp)(t:TypeId)(x y:V):Option V:=match x,y with
 |.int k m,.int k' n=>match c with
  |.shl=>shI .shl k m n
  |.shr=>shI .shr k m n
  |_=>match decide (k=k') with
   |true=>BRq c k m n
   |false=>none
 |.str a,.str b=>BQq c a b
 |x,y=>match vwq x y with
  |false=>none
  |true=>match c with
   |.eql=>match eqV C 300 t x y with
    |some b=>some (.bool b)
    |none=>none
   |.neq=>match eqV C 300 t x y with
    |some b=>some (.bool (!b))
    |none=>none
   |_=>none
def pFq:V->Option Nat
 |.int _ (.ofNat n)=>some n
 |_=>none
def azq(C:Cfg)(a:Tr V)(d:Nat):Option Operand->Option Nat
 |none=>some d
 |some x=>match evV C a x with
  |some v=>pFq v
  |none=>none
def q6q(l:Nat):Option Nat->Option Nat
 |some c=>some (c-l)
 |none=>none
def ljq(b e a d c:Nat)(f:Option Nat)(l h:Nat):Option Nat->Option V
 |none=>match Nat.ble l h&&Nat.ble h d with
  |true=>some (.sl b (match Nat.beq l 0 with|true=>e|false=>a) (a+l*c) (h-l) c (q6q l f))
  |false=>none
 |some m=>match Nat.ble l h&&Nat.ble h m&&Nat.ble m d&&Nat.ble 1 d with
  |true=>some (.sl b a (a+l*c) (h-l) c (some (m-l)))
  |false=>none
def ZPq(C:Cfg)(t:TypeId)(i:Nat):Option (TypeId×Nat):=match C.ty t with
 |some j=>match j.d with
  |.struct a=>a[i]?
  |_=>none
 |none=>none
def ZYq(C:Cfg)(t:TypeId)(i:Nat):Option (Nat×Nat):=match C.ty t with
 |some j=>match j.d with
  |.struct b=>match b[i]? with
   |some (ft,off)=>match C.ty ft with
    |some k=>some (off,k.size)
    |none=>none
   |none=>none
  |.arr _ e=>match C.ty e with
   |some k=>some (i*k.size,k.size)
   |none=>none
  |_=>none
 |none=>none
def QSq(C:Cfg)(a:Tr V)(t:TypeId):V->List (Nat×Operand) ->Option V
 |v,[]=>some v
 |v,(i,x)::l=>match ZYq C t i,evV C a x with
  |some (off,sz),some y=>match Nat.beq y.size sz with
   |true=>match ueq 50 v off y with
    |some b=>QSq C a t b l
    |none=>none
   |false=>none
  |_,_=>none
def qnq(C:Cfg)(a:Tr V)(c:Operand)(x:Operand)(y:Operand):Option V:=match evV C a c with
 |some (.bool true)=>evV C a x
 |some (.bool false)=>evV C a y
 |_=>none
def z3q(C:Cfg)(a:Tr V)(x:Operand)(i:Nat):Option V:=match evV C a x with
 |some (.tup vs)=>vs[i]?
 |_=>none
def zOq(C:Cfg)(g:Tr V)(x:Operand):Option V:=match evV C g x with
 |some (.ptr b o)=>some (.ptr b o)
 |some (.sl b base off len esz lim)=>some (.sl b base off len esz lim)
 |some (.fn f a c)=>some (.fn f a c)
 |some (.yield l)=>some (.yield l)
 |_=>none
def z1q(C:Cfg)(a:Tr V)(x:Operand):Option V:=match evV C a x with
 |some (.bool b)=>some (.bool (!b))
 |_=>none
def z2q(C:Cfg)(a:Tr V)(x:Operand):Option V:=match evV C a x with
 |some (.int k n)=>some (.int k (xBq k (0-n)))
 |_=>none
def z0q(C:Cfg)(a:Tr V)(x:Operand):Option V:=match evV C a x with
 |some (.int k n)=>match Ckq k n with
  |some c=>some (.int k c)
  |none=>none
 |_=>none
def sHq(C:Cfg)(g:BinOp)(t:TypeId)(y:Operand)(u v:V):Option V:=match C.ty t,y,v with
 |some j,.const .nilIface,.nili=>match j.d,g,u with
  |.iface,.eql,.nili=>some (.bool true)
  |.iface,.eql,.iface _ _=>some (.bool false)
  |.iface,.neq,.nili=>some (.bool false)
  |.iface,.neq,.iface _ _=>some (.bool true)
  |_,_,_=>none
 |_,_,_=>none
def skq(C:Cfg)(a:BinOp)(t:TypeId)(u v:V):Option V:=match C.ux (2*t),u,v with
 |some (.ptr e),.ptr b o,.ptr b' o'=>match C.ty e,Nat.beq b b',Nat.beq o o' with
  |some _,true,true=>match a with
   |.eql=>some (.bool true)
   |.neq=>some (.bool false)
   |_=>none
  |_,_,_=>none
 |some .fnc,.nilf,.nilf=>match a with
  |.eql=>some (.bool true)
  |.neq=>some (.bool false)
  |_=>none
 |some .fnc,.fn _ _ _,.nilf=>match a with
  |.eql=>some (.bool false)
  |.neq=>some (.bool true)
  |_=>none
 |_,_,_=>none
def yxq(C:Cfg)(b:Tr V)(a:BinOp)(t:TypeId)(x:Operand)(y:Operand):Option V:=match evV C b x,evV C b y with
 |some u,some v=>match mjq C a t u v with
  |some r=>some r
  |none=>match sHq C a t y u v with
   |some r=>some r
   |none=>skq C a t u v
 |_,_=>none
def zTq(C:Cfg)(b:Tr V)(s:TypeId)(t:TypeId)(x:Operand):Option V:=match C.ty s,C.ty t,evV C b x with
 |some _,some j,some v=>match j.d,v with
  |.int k,.int _ n=>some (.int k (xBq k n))
  |.str,.str a=>some (.str a)
  |_,_=>none
 |_,_,_=>none
def zJq(C:Cfg)(b:Tr V)(f:FuncId)(a:Array Operand)(c:Array Operand):Option V:=match evL C b a.toList,evL C b c.toList with
 |some u,some v=>some (.fn f u v)
 |_,_=>none
def yFq(C:Cfg)(b:Tr V)(t:TypeId)(a:Array (Nat×Operand)):Option V:=match C.ty t with
 |some j=>match j.agg with
  |true=>QSq C b t j.zero a.toList
  |false=>none
 |none=>none
def yDq(C:Cfg)(a:Tr V)(t:TypeId)(x:Operand)(i:Nat):Option V:=match ZPq C t i,evV C a x with
 |some (ft,off),some v=>match C.ty ft,v.isAgg with
  |some k,true=>j6q 50 v off k.size k.agg
  |_,_=>none
 |_,_=>none
def zBq(C:Cfg)(a:Tr V)(t:TypeId)(x:Operand)(i:Nat):Option V:=match ZPq C t i,evV C a x with
 |some (ft,fo),some (.ptr b off)=>match C.ty ft with
  |some k=>match Nat.beq k.size 0 with
   |true=>none
   |false=>some (.ptr b (off+fo))
  |none=>none
 |_,_=>none
def zAq(C:Cfg)(f:Tr V)(t:TypeId)(x:Operand)(y:Operand):Option V:=match C.ty t,evV C f x,evV C f y with
 |some j,some v,some u=>match pFq u,j.d,v with
  |some i,.arr n e,.ptr b off=>match C.ty e,Nat.blt i n with
   |some k,true=>some (.ptr b (off+i*k.size))
   |_,_=>none
  |some i,.slice e,.sl b _ off len esz _=>match C.ty e,Nat.blt i len with
   |some k,true=>match Nat.beq k.size esz with
    |true=>some (.ptr b (off+i*esz))
    |false=>none
   |_,_=>none
  |_,_,_=>none
 |_,_,_=>none
def yCq(C:Cfg)(b:Tr V)(t:TypeId)(x:Operand)(y:Operand):Option V:=match C.ty t,evV C b x,evV C b y with
 |some j,some v,some u=>match pFq u,j.d,v with
  |some i,.str,.str s=>match s[i]? with
   |some c=>some (.int .u8 (.ofNat c.toNat))
   |none=>none
  |some i,.arr n e,v=>match C.ty e,Nat.blt i n,v.isAgg with
   |some k,true,true=>j6q 50 v (i*k.size) k.size k.agg
   |_,_,_=>none
  |_,_,_=>none
 |_,_,_=>none
def yuq(C:Cfg)(f:Tr V)(t:TypeId)(x:Operand)(o:Option Operand)(g:Option Operand)(p:Option Operand):Option V:=match C.ty t,evV C f x with
 |some j,some v=>match j.d,v with
  |.slice e,.sl b base off len esz lim=>match C.ty e,azq C f 0 o,azq C f len g with
   |some k,some l,some h=>match Nat.beq k.size esz with
    |true=>match p with
     |none=>ljq b base off len esz lim l h none
     |some z=>match g,azq C f 0 (some z) with
      |some _,some m=>ljq b base off len esz lim l h (some m)
      |_,_=>none
    |false=>none
   |_,_,_=>none
  |.slice e,.nils=>match C.ty e,azq C f 0 o,azq C f 0 g,p with
   |some _,some 0,some 0,none=>some .nils
   |_,_,_,_=>none
  |.str,.str s=>match azq C f 0 o,azq C f s.length g,p with
   |some l,some h,none=>match Nat.ble l h&&Nat.ble h s.length with
    |true=>some (.str ((s.drop l).take (h-l)))
    |false=>none
   |_,_,_=>none
  |_,_=>none
 |_,_=>none
def znq(C:Cfg)(b:Tr V)(t:TypeId)(x:Operand):Option V:=match C.ty t,evV C b x with
 |some j,some v=>match j.d with
  |.iface=>none
  |_=>some (.iface t v)
 |_,_=>none
def yfq(C:Cfg)(h:Tr V)(x:Operand)(t:TypeId)(g:Bool):Option V:=match C.ty t,evV C h x with
 |some j,some v=>match j.d with
  |.iface=>none
  |_=>match v,g with
   |.nili,true=>some (.tup [j.zero,.bool false])
   |.iface s u,true=>match Nat.beq s t with
    |true=>some (.tup [u,.bool true])
    |false=>some (.tup [j.zero,.bool false])
   |.iface s u,false=>match Nat.beq s t with
    |true=>some u
    |false=>none
   |_,_=>none
 |_,_=>none
def jvq(C:Cfg)(h:Tr V)(b:Array Operand)(g:Array TypeId):Option V:=match g.toList,b.toList with
 |[t],[x]=>match C.ty t,evV C h x with
  |some j,some v=>match j.d,v with
   |.str,.str s=>some (.int .i64 (.ofNat s.length))
   |.slice _,.sl _ _ _ n _ _=>some (.int .i64 (.ofNat n))
   |.slice _,.nils=>some (.int .i64 0)
   |.arr n _,_=>some (.int .i64 (.ofNat n))
   |_,_=>none
  |_,_=>none
 |_,_=>none
def jtq(C:Cfg)(b:Tr V)(a:Array Operand):Option V:=match a.toList with
 |[x,y]=>match evV C b x,evV C b y with
  |some (.int k m),some (.int _ n)=>some (.int k (match ltI n m with|true=>n|false=>m))
  |_,_=>none
 |_=>none
def juq(C:Cfg)(b:Tr V)(a:Array Operand):Option V:=match a.toList with
 |[x,y]=>match evV C b x,evV C b y with
  |some (.int k m),some (.int _ n)=>some (.int k (match ltI m n with|true=>n|false=>m))
  |_,_=>none
 |_=>none
def ylq(C:Cfg)(j:Tr V)(G:TypeId):Op->Option V
 |.move x=>evV C j x
 |.assign x=>evV C j x
 |.pick c x y=>qnq C j c x y
 |.extract x i=>z3q C j x i
 |.nilCheck x=>zOq C j x
 |.unOp .not _ x=>z1q C j x
 |.unOp .neg _ x=>z2q C j x
 |.unOp .xor _ x=>z0q C j x
 |.binOp w t x y _=>yxq C j w t x y
 |.convert s t x=>zTq C j s t x
 |.makeFunc (.func f) a c=>zJq C j f a c
 |.build t q=>yFq C j t q
 |.field t x i=>yDq C j t x i
 |.fieldAddr t x i=>zBq C j t x i
 |.indexAddr t x y=>zAq C j t x y
 |.index t x y=>yCq C j t x y
 |.slice t x z D B=>yuq C j t x z D B
 |.makeInterface t x=>znq C j t x
 |.typeAssert x _ t E=>yfq C j x t E
 |.call ⟨.builtin .len,args,ats⟩=>jvq C j args ats
 |.call ⟨.builtin .min,args,_⟩=>jtq C j args
 |.call ⟨.builtin .max,args,_⟩=>juq C j args
 |_=>none
structure FrE(C:Cfg)(D:Nat->Prop)(ρ:Env)(fr:Tr V)(a:Act):Prop extends FrOK C (DD D ρ) ρ fr a
section
variable {P:Program} {C:Cfg} {D:Nat->Prop} {ρ:Env} {fr:Tr V} {a:Act} {w:World}
theorem kLq{v:V}{n:Nat}(h:pFq v=some n):∃k,v= .int k (n:Int):=by
 unfold pFq at h;split at h
 all_goals simp_all
theorem jWq{b f e g i:Nat}{d:Option Nat}(h:InD (DD D ρ) (.sl b f e g i d)):g<=ydq ρ b e i d:=by
 obtain⟨j,m,_,k⟩:=h;cases d with
 |some c=>exact m
 |none=>
  simp only[YU] at k;simp only[ydq];rw[Nat.le_div_iff_mul_le j];omega
theorem tNq{d:BinOp}{a b:List UInt8}{r:V}(h:BQq d a b=some r){t:TypeId}{x y:Operand}(w:World):
  (do eqGuard d t x y (.string ⟨⟨a⟩⟩) (.string ⟨⟨b⟩⟩);binOp d t (.string ⟨⟨a⟩⟩) (.string ⟨⟨b⟩⟩)).run P w= .ok (abq ρ r) w:=by
 have j:∀l:List UInt8,(⟨⟨l⟩⟩:ByteArray).toList=l:=λl=>by rw[ByteArray.toList_eq]
 have p:∀a b:List UInt8,(a==b)=kTq a b:=λa b=>by rw[u8q,Bool.eq_iff_iff];simp
 have q:(⟨⟨a⟩⟩++⟨⟨b⟩⟩:ByteArray)=⟨⟨a++b⟩⟩:=by
  apply ByteArray.ext;simp
 unfold BQq at h;cases d<;>simp only at h<;>try (cases h;done)
 case add=>
  split at h
  .rename_i f;have f:=Yb f;cases h
   have v:¬(((ByteArray.mk ⟨a⟩).size+(ByteArray.mk ⟨b⟩).size:Nat):Int)>IntKind.i64.max:=by
    have:(ByteArray.mk ⟨a⟩).size+(ByteArray.mk ⟨b⟩).size=a.length+b.length:=rfl;rw[this];have:IntKind.i64.max=9223372036854775807:=by decide
    omega
   grind[eqGuard,binOp,Op.stringOp,YD,abq]
  .cases h
 all_goals
  cases h;simp[eqGuard,binOp,Op.stringOp,j,p,abq]
theorem thq{f:Nat}{t:TypeId}{u v:V}{b:Bool}(c:u.isAgg=true)(d:v.isAgg=true)(h:eqV C (f+1) t u v=some b):∃i,C.ty t=some i/\i.agg=true:=by
 simp only[eqV] at h;grind[TyI.agg,V.isAgg]
theorem tMq(z:CfgOK P C){f:BinOp}{t:TypeId}{u v r:V}(h:mjq C f t u v=some r){x y:Operand}(w:World):
  (do eqGuard f t x y (abq ρ u) (abq ρ v);binOp f t (abq ρ u) (abq ρ v)).run P w= .ok (abq ρ r) w:=by
 unfold mjq at h;split at h
 .grind[abq,ppq,tOq]
 .simp only[abq];exact tNq h w
 .rename_i H I;split at h
  .cases h
  .rename_i j
   have F:∀b,eqV C 300 t u v=some b->(eqGuard f t x y (abq ρ u) (abq ρ v)).run P w= .ok () w/\(f= .eql->(binOp f t (abq ρ u) (abq ρ v)).run P w= .ok (.bool b) w)/\(f= .neq->(binOp f t (abq ρ u) (abq ρ v)).run P w= .ok (.bool (!b)) w):=λb A=>by
    have B:(Op.equal t (abq ρ u) (abq ρ v)).run P w= .ok b w:=Zqq z 300 t u v b A Op.maxDepth Xg w;unfold vwq at j;split at j
    .simp_all[abq,eqGuard,binOp]
    .simp_all[abq,eqGuard,binOp]
    .simp_all[abq,eqGuard,binOp]
    .simp_all[abq,eqGuard,binOp]
    .simp_all[abq,eqGuard,binOp]
    .simp_all[abq,eqGuard,binOp]
    .simp_all[abq,eqGuard,binOp]
    .simp only[Zd] at j;rw[qPq j.1,qPq j.2] at B⊢
     have J:P.eqGuardType P.depth t=false:=by
      obtain⟨i,E,G⟩:=thq j.1 j.2 A;exact(z.ty t i E).eqg G
     simp_all[dyq,binOp]
   grind[ZN,ZE,abq]
theorem mNq{c d:List Value}{b:Nat}{v:Value}(h:b<c.length):spl (c.set b v) (b+1) d=spl c b (v::d):=by
 grind[YA,List.take_set_of_le,List.drop_set_of_lt,spl]
theorem K4q:∀(e:List Value) (b j:Nat) (c:Array Value),b+j+e.length<=c.size->
  (e.zipIdx j).foldl (λc (p:Value×Nat)=>c.setIfInBounds (b+p.2) p.1) c=(spl c.toList (b+j) e).toArray
 |[],b,j,c,_=>by simp[spl]
 |v::e,b,j,c,h=>by
  simp only[Zo] at h;rw[List.zipIdx_cons,List.foldl_cons,K4q e b (j+1) _ Xn];grind[mNq]
theorem JZq{d:Nat->Option (Nat×Nat)}(q:FrE C D ρ fr a){t:TypeId}(G:∀i b u,ZYq C t i=some (b,u) ->d i=some (b,u)):∀(f:List (Nat×Operand)) (v j:V),QSq C fr t v f=some j->InD (DD D ρ) v->
  Instr.fill d (cellsV ρ v).toArray (f.map λp=>(p.1,a.eval p.2))=some (cellsV ρ j).toArray/\InD (DD D ρ) j/\j.isAgg=v.isAgg/\j.size=v.size
 |[],v,j,h,hv=>by simp only[QSq,Zm] at h;subst h;exact⟨rfl,hv,rfl,rfl⟩
 | (i,x)::l,v,j,h,hv=>by
  simp only[QSq] at h;split at h
  .rename_i b u y E N;split at h
   .rename_i B;rw[ZH] at B;split at h
    .rename_i F k;obtain⟨I,J⟩:=q.ev N;obtain⟨M,T,S,O,U,L⟩:=u3q (ρ:=ρ) 50 v b y F k;obtain⟨R,Q,K,H⟩:=JZq q G l F j h (YPq k hv J);refine⟨?_,Q,K.trans O,H.trans M⟩;have g:(abq ρ y).cells=(cellsV ρ y).toArray:=qJq L;simp only[ZD,Instr.fill,G i b u E,I,g]
     have W:¬((cellsV ρ y).toArray.size≠u||decide (b+(cellsV ρ y).toArray.size>(cellsV ρ v).toArray.size))=true:=by
      simp[B];omega
     simp_all[K4q]
    .cases h
   .cases h
  .cases h
theorem hxq(U:CfgOK P C)(hfr:FrE C D ρ fr a){t:TypeId}{j:TyI}{x:Array (Nat×Operand)}{v:V}(W:C.ty t=some j)(R:j.agg=true)(h:QSq C fr t j.zero x.toList=some v)(w:World):
  (Instr.build t (x.map λ(p:Nat×Operand)=>(p.1,a.eval p.2))).run P w= .ok (abq ρ v) w/\InD (DD D ρ) v:=by
 have N:=U.ty t j W;obtain⟨inf,hin,hsz,hby,hz⟩:=N.info;have hzero:(zeroValue t).run P w= .ok (abq ρ j.zero) w:=qqq (N.zero ρ) w;have hzin:InD (DD D ρ) j.zero:=N.zin.mono λ_ _ h=>h.elim
 have O:=N.d;have Z:j.zero.isAgg=true:=by rw[N.zagg];exact R
 have hzc:(abq ρ j.zero).cells=(cellsV ρ j.zero).toArray:=qJq (.inr Z);have hlist:(x.map λ(p:Nat×Operand)=>(p.1,a.eval p.2)).toList=x.toList.map λp=>(p.1,a.eval p.2):=by simp
 have fin:∀B:Nat->Option (Nat×Nat),(∀i G Q,ZYq C t i=some (G,Q) ->B i=some (G,Q)) ->
   Instr.fill B (abq ρ j.zero).cells (x.map λ(p:Nat×Operand)=>(p.1,a.eval p.2)).toList=some (cellsV ρ v).toArray/\InD (DD D ρ) v/\abq ρ v= .agg (cellsV ρ v).toArray:=λB hp=>by
  grind[JZq,qPq]
 unfold TyI.agg at R;split at R
 .rename_i n e K;rw[K] at O;obtain⟨O,H⟩:=O;obtain⟨ie,H⟩:=Option.isSome_iff_exists.1 H;have hse:(sizeOf e).run P w= .ok ie.size w:=vrq (by simp[H]) w
  obtain⟨g1,g2,g3⟩:=fin (λi=>some (i*ie.size,ie.size)) λi G Q q=>by
   simp only[ZYq,W,K] at q;split at q
   .rename_i k T;obtain⟨E,F,J,_⟩:=(U.ty e k T).info;grind
   .cases q
  simp_all[Instr.build,Zz]
 .rename_i fs K;rw[K] at O;obtain⟨h1,h2,h3,h4,h5⟩:=O
  have q:∃b:Array (Nat×Nat),((P.fieldsOf t).mapM λ(f:Field)=>(do pure (f.offset,<-sizeOf f.type):Sem (Nat×Nat))).run P w= .ok b w/\∀(i:Nat) f (k:Nat),(P.fieldsOf t)[i]? =some f->(P.info? f.type).map (·.size)=some k->b[i]? =some (f.offset,k):=by
   rw[Array.all_toList,Array.all_eq_true_iff_forall_mem] at h5
   have X:∀L:List Field,(∀f∈L,(P.info? f.type).isSome=true) ->∃I:List (Nat×Nat),(L.mapM λ(f:Field)=>(do pure (f.offset,<-sizeOf f.type):Sem (Nat×Nat))).run P w= .ok I w/\∀(i:Nat) f (k:Nat),L[i]? =some f->(P.info? f.type).map (·.size)=some k->I[i]? =some (f.offset,k):=by
    intro L;induction L with
    |nil=>simp_all
    |cons f L ih=>
     intro hL;obtain⟨I,Y,q2⟩:=ih λg hg=>hL g (by simp[hg])
     obtain⟨E,F⟩:=Option.isSome_iff_exists.1 (hL f Xi);have hs':(sizeOf f.type).run P w= .ok E.size w:=vrq (by simp[F]) w;refine⟨(f.offset,E.size)::I,?_,?_⟩
     .simp_all
     grind
   obtain⟨I,Y,q2⟩:=X (P.fieldsOf t).toList λf hf=>h5 f Jf
   refine⟨I.toArray,?_,λi f k hf T=>by grind⟩;rw[show P.fieldsOf t=(P.fieldsOf t).toList.toArray by simp,List.mapM_toArray,Sem.run_map,Y];rfl
  obtain⟨b,Y,q2⟩:=q
  obtain⟨g1,g2,g3⟩:=fin (λi=>b[i]?) λi G Q q=>by
   simp only[ZYq,W,K] at q;split at q
   .rename_i ft off' hfs;split at q
    .rename_i k T;obtain⟨E,F,J,_⟩:=(U.ty ft k T).info;grind
    .cases q
   .cases q
  simp_all[Instr.build,Zz]
 .cases R
theorem Yfq(o:CfgOK P C){t:TypeId}{i:Nat}{g b:Nat}(h:ZPq C t i=some (g,b)):∃F,P.underlying t=some (.struct (P.fieldsOf t))/\(P.fieldsOf t)[i]? =some F/\F.type=g/\F.offset=b:=by
 unfold ZPq at h;split at h
 .rename_i j k;split at h
  .rename_i p l;have f:=(o.ty t j k).d;rw[l] at f;obtain⟨q,v,_⟩:=f;grind
  .cases h
 .cases h
theorem rQq(s:List UInt8)(i:Nat):(⟨⟨s⟩⟩:ByteArray)[i]? =s[i]? :=by
 simp only[getElem?,decidableGetElem?];split
 .rename_i h;have b:i<s.length:=h;rw[List.get?Internal_eq_getElem?];simp[Za b];rfl
 .rename_i h;have b:¬i<s.length:=h;simp_all
theorem Qeq(s:List UInt8)(l h:Nat):(⟨⟨s⟩⟩:ByteArray).extract l h=⟨⟨(s.drop l).take (h-l)⟩⟩:=by
 apply ByteArray.ext;simp_all
theorem ZBq(b:FrE C D ρ fr a){d n:Nat}{x:Option Operand}(h:azq C fr d x=some n):(x=none/\n=d)\/∃y k,x=some y/\a.eval y= .int k (n:Int):=by
 cases x with
 |none=>grind[azq]
 |some y=>
  simp only[azq] at h;split at h
  .rename_i v f;obtain⟨k,rfl⟩:=kLq h;exact .inr ⟨y,k,rfl,by rw[(b.ev f).1];simp[abq]⟩
  .cases h
theorem ktq{k:IntKind}{n y:Nat}{c:BoundsCode}(h:n<=y)(w:World):(Instr.sliceBound (.int k (n:Int)) y c).run P w= .ok n w:=by
 simp_all[Instr.sliceBound,asIntOf]
theorem uLq(b:FrE C D ρ fr a){isSl:Bool}{c cap l h:Nat}{d e:Option Operand}(g:azq C fr 0 d=some l)(f:azq C fr c e=some h)(i:l<=h)(j:h<=cap)(w:World):
  (Instr.sliceBounds isSl c cap (d.map a.eval) (e.map a.eval) none).run P w= .ok (l,h,cap) w:=by
 rcases ZBq b g with ⟨rfl,rfl⟩|⟨y,k,rfl,e1⟩<;>rcases ZBq b f with ⟨rfl,rfl⟩|⟨z,k',rfl,e2⟩
 all_goals simp_all[Instr.sliceBounds,ktq]
theorem gaq(b:FrE C D ρ fr a){isSl:Bool}{len cap l h m d:Nat}{g:Option Operand}{j i:Operand}(p:azq C fr 0 g=some l)(t:azq C fr d (some j)=some h)(q:azq C fr 0 (some i)=some m)(v:l<=h)(x:h<=m)(A:m<=cap)(w:World):
  (Instr.sliceBounds isSl len cap (g.map a.eval) (some (a.eval j)) (some (a.eval i))).run P w= .ok (l,h,m) w:=by
 rcases ZBq b t with ⟨f,_⟩|⟨z,k',e,e2⟩
 .cases f
 cases e;rcases ZBq b q with ⟨f,_⟩|⟨z',k'',e,e3⟩
 .cases f
 cases e;rcases ZBq b p with ⟨rfl,rfl⟩|⟨y,k,rfl,e1⟩
 all_goals simp_all[Instr.sliceBounds,ktq]
theorem TyOK.und{t:TypeId}{i:TyI}(h:TyOK P t i):∃d,P.underlying t=some d:=by
 have b:=h.d;cases c:i.d<;>rw[c] at b<;>simp only[TyD.Is] at b
 case arr=>exact⟨_,b.1⟩
 case struct=>exact⟨_,b.1⟩
 case iface=>grind
 all_goals grind
theorem TyOK.concrete{t:TypeId}{i:TyI}(h:TyOK P t i)(g:i.d≠ .iface):P.concrete t=true:=by
 have b:=h.d;unfold Program.concrete;cases j:i.d<;>rw[j] at b g<;>simp only[TyD.Is] at b
 case arr=>rw[b.1]
 case struct=>rw[b.1]
 case iface=>exact absurd rfl g
 all_goals grind
theorem ncq(B:CfgOK P C){E:BinOp}{t:TypeId}{u v r:V}(h:skq C E t u v=some r){x y:Operand}(w:World):
  (do eqGuard E t x y (abq ρ u) (abq ρ v);binOp E t (abq ρ u) (abq ρ v)).run P w= .ok (abq ρ r) w/\∀D,InD D r:=by
 unfold skq at h;split at h
 .rename_i e b o R Q z;have A:=B.ptr t e z;split at h
  .rename_i k N H G;have H:=Zi H;have G:=Zi G;subst H G;obtain⟨K,J,_⟩:=(B.ty e k N).info
   have j:∀d a,(Op.equalIn (d+1) t (.pointer (some a)) (.pointer (some a))).run P w= .ok true w:=λd a=>by
    simp[Op.equalIn,Zz A,sizeOf,typeInfo,J,sameAddr]
   have q:(Op.equal t (abq ρ (.ptr b o)) (abq ρ (.ptr b o))).run P w= .ok true w:=by
    simp only[abq];exact j 9999 _
   split at h
   .cases h;refine⟨?_,λ_=>trivial⟩;simp_all[abq,eqGuard,binOp]
   .cases h;refine⟨?_,λ_=>trivial⟩;simp_all[abq,eqGuard,binOp]
   .cases h
  .cases h
 .rename_i z;obtain⟨M,I,L,A⟩:=B.fnc t z;have j:∀d,(Op.equalIn (d+1) t .nilFunc .nilFunc).run P w= .ok true w:=λd=>by simp[Op.equalIn,Zz A]
  have q:(Op.equal t .nilFunc .nilFunc).run P w= .ok true w:=j 9999;split at h
  .cases h;refine⟨?_,λ_=>trivial⟩;simp[abq,eqGuard,binOp,q]
  .cases h;refine⟨?_,λ_=>trivial⟩;simp[abq,eqGuard,binOp,q]
  .cases h
 .rename_i f S O z;obtain⟨M,I,L,A⟩:=B.fnc t z;have j:∀d g x y,(Op.equalIn (d+1) t (.func g x y) .nilFunc).run P w= .ok false w:=λd g x y=>by simp[Op.equalIn,Zz A]
  have q:∀g x y,(Op.equal t (.func g x y) .nilFunc).run P w= .ok false w:=j 9999
  split at h
  .cases h;refine⟨?_,λ_=>trivial⟩;simp[abq,eqGuard,binOp,q]
  .cases h;refine⟨?_,λ_=>trivial⟩;simp[abq,eqGuard,binOp,q]
  .cases h
 .cases h
theorem nEq(E:CfgOK P C){B:BinOp}{t:TypeId}{y:Operand}{u v r:V}(h:sHq C B t y u v=some r){x:Operand}(w:World):
  y= .const .nilIface/\(do eqGuard B t x y (abq ρ u) .nilIface;binOp B t (abq ρ u) .nilIface).run P w= .ok (abq ρ r) w/\∀D,InD D r:=by
 unfold sHq at h;split at h
 .rename_i j F
  have G:∀g,P.underlying t=some (.interface g) ->(Op.equal t .nilIface .nilIface).run P w= .ok true w:=λg p=>by
   have A:∀d,(Op.equalIn (d+1) t .nilIface .nilIface).run P w= .ok true w:=λd=>by unfold Op.equalIn;simp[Zz p]
   exact A 9999
  have H:∀g s z,P.underlying t=some (.interface g) ->(Op.equal t (.iface s z) .nilIface).run P w= .ok false w:=λg s z p=>by
   have A:∀d,(Op.equalIn (d+1) t (.iface s z) .nilIface).run P w= .ok false w:=λd=>by unfold Op.equalIn;simp[Zz p]
   exact A 9999
  have b:=(E.ty t j F).d;refine⟨rfl,?_⟩;split at h
  .rename_i q;cases h;rw[q] at b;obtain⟨g,p⟩:=b;exact⟨by simp_all[abq,eqGuard,binOp],λ_=>trivial⟩
  .rename_i s z q;cases h;rw[q] at b;obtain⟨g,p⟩:=b;exact⟨by simp_all[abq,eqGuard,binOp],λ_=>trivial⟩
  .rename_i q;cases h;rw[q] at b;obtain⟨g,p⟩:=b;exact⟨by simp_all[abq,eqGuard,binOp],λ_=>trivial⟩
  .rename_i s z q;cases h;rw[q] at b;obtain⟨g,p⟩:=b;exact⟨by simp_all[abq,eqGuard,binOp],λ_=>trivial⟩
  .cases h
 .cases h
theorem bBq(e:CfgOK P C){t:TypeId}{k:TyI}(d:C.ty t=some k){v x:V}{b:Nat}(c:j6q 50 v b k.size k.agg=some x)(w:World):(part t (cellsV ρ v).toArray b).run P w= .ok (abq ρ x) w:=(e.ty t k d).part c w
theorem JJq(K:CfgOK P C)(q:FrE C D ρ fr a){o:Oper}{v:V}(h:ylq C fr o.type o.op=some v)(w:World):(execOp a.eval o).run P w= .ok (.value (abq ρ v)) w/\InD (DD D ρ) v:=by
 obtain⟨dst,op,ty,pos,aft,g⟩:=o;simp only at h;cases op<;>try (simp[ylq,qnq,z3q,zOq,z1q,z2q,z0q,yxq,zTq,zJq,yFq,yDq,zBq,zAq,yCq,yuq,znq,yfq,jvq,jtq,juq] at h;done)
 case move x=>obtain⟨e,i⟩:=q.ev h;exact⟨by simp[execOp,e],i⟩
 case assign x=>obtain⟨e,i⟩:=q.ev h;exact⟨by simp[execOp,e],i⟩
 case pick c x y=>
  simp only[ylq,qnq,z3q,zOq,z1q,z2q,z0q,yxq,zTq,zJq,yFq,yDq,zBq,zAq,yCq,yuq,znq,yfq,jvq,jtq,juq] at h;split at h
  .rename_i hc;obtain⟨e,i⟩:=q.ev h;have ec:=(q.ev hc).1;simp_all[execOp,abq,asBool]
  .rename_i hc;obtain⟨e,i⟩:=q.ev h;have ec:=(q.ev hc).1;simp_all[execOp,abq,asBool]
  .cases h
 case extract x i=>
  simp only[ylq,qnq,z3q,zOq,z1q,z2q,z0q,yxq,zTq,zJq,yFq,yDq,zBq,zAq,yCq,yuq,znq,yfq,jvq,jtq,juq] at h;split at h
  .rename_i vs G;obtain⟨e,W⟩:=q.ev G;refine⟨?_,InDL.at_ (show InDL (DD D ρ) vs from W) h⟩;simp[execOp,e,abq,Instr.extract,k9q,h]
  .cases h
 case nilCheck x=>
  simp only[ylq,qnq,z3q,zOq,z1q,z2q,z0q,yxq,zTq,zJq,yFq,yDq,zBq,zAq,yCq,yuq,znq,yfq,jvq,jtq,juq] at h;split at h<;>try (cases h;done)
  all_goals
   rename_i G;obtain⟨e,W⟩:=q.ev G;cases h;exact⟨by simp[execOp,e,abq,ysq],W⟩
 case typeAssert x xt t ok=>
  simp only[ylq,yfq] at h;split at h
  .rename_i j u U G;obtain⟨e,W⟩:=q.ev G;have hz:=qqq (P:=P) ((K.ty t j U).zero ρ);have zin:InD (DD D ρ) j.zero:=(K.ty t j U).zin.mono λ_ _ h=>h.elim
   obtain⟨d,B⟩:=(K.ty t j U).und;split at h
   .cases h
   .rename_i hni;have hcon:=(K.ty t j U).concrete (λe'=>hni e')
    have hnd:∀ms,d≠ .interface ms:=λms e'=>by
     grind[Program.concrete]
    split at h
    .cases h;refine⟨?_,zin,trivial,trivial⟩;simp_all[execOp,abq,zPq,Instr.typeAssert,Zz]
    .rename_i s u;split at h
     .rename_i hs;rw[ZH] at hs;subst hs;cases h;refine⟨?_,W,trivial,trivial⟩;simp_all[execOp,abq,zPq,Instr.typeAssert,Zz]
     .rename_i hs;have hs:¬s=t:=λe'=>by simp_all
      cases h;refine⟨?_,zin,trivial,trivial⟩;simp_all[execOp,abq,zPq,Instr.typeAssert,Zz]
    .rename_i s u;split at h
     .rename_i hs;rw[ZH] at hs;subst hs;cases h;refine⟨?_,W⟩;simp_all[execOp,abq,Instr.typeAssert,Zz]
     .cases h
    .cases h
  .cases h
 case unOp u t x=>
  cases u<;>simp only[ylq,qnq,z3q,zOq,z1q,z2q,z0q,yxq,zTq,zJq,yFq,yDq,zBq,zAq,yCq,yuq,znq,yfq,jvq,jtq,juq] at h<;>try (cases h;done)
  .split at h
   .rename_i k n G;cases h;exact⟨by simp[execOp,(q.ev G).1,abq,Op.unary,Op.intArith,xAq],trivial⟩
   .cases h
  .split at h
   .rename_i k n G;split at h
    .rename_i c hc;cases h;exact⟨by simp only[execOp,(q.ev G).1,abq,ZN,sEq hc];rfl,trivial⟩
    .cases h
   .cases h
  .split at h
   .rename_i b G;cases h;exact⟨by simp[execOp,(q.ev G).1,abq,Op.unary],trivial⟩
   .cases h
 case binOp op t x y t2=>
  simp only[ylq,qnq,z3q,zOq,z1q,z2q,z0q,yxq,zTq,zJq,yFq,yDq,zBq,zAq,yCq,yuq,znq,yfq,jvq,jtq,juq] at h;split at h
  .rename_i u v' G hy;split at h
   case h_2=>
    split at h
    .rename_i r' hn;cases h;obtain⟨rfl,k1,k2⟩:=nEq (ρ:=ρ) K hn (x:=x) w;refine⟨?_,k2 _⟩;simp only[execOp,(q.ev G).1,show a.eval (.const .nilIface)= .nilIface from rfl];rw[ZN,k1];rfl
    .obtain⟨k1,k2⟩:=ncq (ρ:=ρ) K h (x:=x) (y:=y) w;refine⟨?_,k2 _⟩;simp only[execOp,(q.ev G).1,(q.ev hy).1];rw[ZN,k1];rfl
   rename_i rr hbv;cases h;have h:=hbv;clear hbv;have key:=tMq (ρ:=ρ) K h (x:=x) (y:=y) w;refine⟨?_,?_⟩
   .simp only[execOp,(q.ev G).1,(q.ev hy).1];rw[ZN,key];rfl
   .unfold mjq at h;split at h
    .split at h
     .unfold shI at h;split at h<;>first|(split at h<;>first|(cases h;trivial)|cases h)|cases h
     .unfold shI at h;split at h<;>first|(split at h<;>first|(cases h;trivial)|cases h)|cases h
     .split at h
      .unfold BRq at h;split at h<;>first|(cases h;trivial)|(split at h<;>first|(cases h;trivial)|cases h)|cases h
      .cases h
    .unfold BQq at h;split at h<;>first|(cases h;trivial)|(split at h<;>first|(cases h;trivial)|cases h)|cases h
    .split at h
     .cases h
     .split at h<;>first|(split at h<;>first|(cases h;trivial)|cases h)|cases h
  .cases h
 case convert s t x=>
  simp only[ylq,qnq,z3q,zOq,z1q,z2q,z0q,yxq,zTq,zJq,yFq,yDq,zBq,zAq,yCq,yuq,znq,yfq,jvq,jtq,juq] at h;split at h
  .rename_i js jt u hs ht G;obtain⟨ds,hus⟩:=(K.ty s js hs).und;have B:=(K.ty t jt ht).d;obtain⟨e,W⟩:=q.ev G;split at h
   .rename_i k k' n L;rw[L] at B;have B:P.underlying t=some (.int k):=B;cases h;refine⟨?_,trivial⟩;simp only[execOp,e,abq,convert,ZN,Zz hus,Zz B,ZE];cases ds<;>simp[Conv.intToInt,xAq]
   .rename_i b L;rw[L] at B;have B:P.underlying t=some .string:=B;cases h;refine⟨?_,trivial⟩;simp only[execOp,e,abq,convert,ZN,Zz hus,Zz B,ZE];cases ds<;>simp
   .cases h
  .cases h
 case makeFunc fn fi ca=>
  cases fn<;>simp only[ylq,qnq,z3q,zOq,z1q,z2q,z0q,yxq,zTq,zJq,yFq,yDq,zBq,zAq,yCq,yuq,znq,yfq,jvq,jtq,juq] at h<;>try (cases h;done)
  split at h
  .rename_i u v' hu hv;cases h;obtain⟨Y,i1⟩:=q.evs hu;obtain⟨e2,i2⟩:=q.evs hv;have e1':fi.map a.eval=(zPq ρ u).toArray:=by apply YC.1;simpa using Y
   have e2':ca.map a.eval=(zPq ρ v').toArray:=by apply YC.1;simpa using e2
   exact⟨by simp[execOp,Instr.makeFunc,e1',e2',abq],i1,i2⟩
  .cases h
 case build t parts=>
  simp only[ylq,qnq,z3q,zOq,z1q,z2q,z0q,yxq,zTq,zJq,yFq,yDq,zBq,zAq,yCq,yuq,znq,yfq,jvq,jtq,juq] at h;split at h
  .rename_i j U;split at h
   .rename_i ha;obtain⟨k1,k2⟩:=hxq K q U ha h w;simp_all[execOp]
   .cases h
  .cases h
 case field t x i=>
  simp only[ylq,qnq,z3q,zOq,z1q,z2q,z0q,yxq,zTq,zJq,yFq,yDq,zBq,zAq,yCq,yuq,znq,yfq,jvq,jtq,juq] at h;split at h
  .rename_i ft N u hs G;split at h
   .rename_i k hk ha;obtain⟨F,h1,Q,rfl,rfl⟩:=Yfq K hs;obtain⟨e,W⟩:=q.ev G;have hp:=bBq (ρ:=ρ) K hk h w;refine⟨?_,K3q h W⟩;simp_all[qPq,execOp,Instr.field,Zz,asAgg]
   .cases h
  .cases h
 case fieldAddr t x i=>
  simp only[ylq,qnq,z3q,zOq,z1q,z2q,z0q,yxq,zTq,zJq,yFq,yDq,zBq,zAq,yCq,yuq,znq,yfq,jvq,jtq,juq] at h;split at h
  .rename_i ft fo b N hs G;split at h
   .rename_i k hk;split at h
    .cases h
    .rename_i hz;cases h;obtain⟨F,h1,Q,rfl,rfl⟩:=Yfq K hs;obtain⟨e,W⟩:=q.ev G;have hsz:=(K.ty _ k hk).sizeOf w;have hz':k.size≠0:=λe=>by simp_all
     refine⟨?_,W⟩;simp[execOp,e,abq,Instr.fieldAt,Zz h1,Q,Instr.sureAddr,fieldPlace,hsz,hz',jZq,ZM]
   .cases h
  .cases h
 case indexAddr t x y=>
  simp only[ylq,qnq,z3q,zOq,z1q,z2q,z0q,yxq,zTq,zJq,yFq,yDq,zBq,zAq,yCq,yuq,znq,yfq,jvq,jtq,juq] at h;split at h
  .rename_i j u z U G hy;have B:=(K.ty t j U).d;obtain⟨Y,i1⟩:=q.ev G;obtain⟨e2,_⟩:=q.ev hy;split at h
   .rename_i i n e b N hn L;obtain⟨k',rfl⟩:=kLq hn;split at h
    .rename_i k hk R;cases h;rw[L] at B;have S:i<n:=by rwa[YR] at R
     refine⟨?_,i1⟩;simp[execOp,Y,e2,abq,Instr.indexAt,Zz B.1,asIntOf,S,(K.ty e k hk).sizeOf w,Instr.sureAddr,jZq,ZM]
    .cases h
   .rename_i i e b base N len E M hn L;obtain⟨k',rfl⟩:=kLq hn;split at h
    .rename_i k hk R;split at h
     .rename_i hes;rw[ZH] at hes;cases h;rw[L] at B;have B:P.underlying t=some (.slice e):=B;have S:i<len:=by rwa[YR] at R
      have hc:=jWq i1;have hc0:¬ydq ρ b N E M=0:=by omega
      refine⟨?_,⟨i1.2.2.1,Zf _⟩⟩;simp[execOp,Y,e2,abq,ysq,hc0,Instr.indexAt,Zz B,asIntOf,S,(K.ty e k hk).sizeOf w,hes,jZq,ZM]
     .cases h
    .cases h
   .cases h
  .cases h
 case index t x y=>
  simp only[ylq,qnq,z3q,zOq,z1q,z2q,z0q,yxq,zTq,zJq,yFq,yDq,zBq,zAq,yCq,yuq,znq,yfq,jvq,jtq,juq] at h;split at h
  .rename_i j u z U G hy;have B:=(K.ty t j U).d;obtain⟨Y,i1⟩:=q.ev G;obtain⟨e2,_⟩:=q.ev hy;split at h
   .rename_i i s hn L;obtain⟨k',rfl⟩:=kLq hn;split at h
    .rename_i c hc;cases h;rw[L] at B;have B:P.underlying t=some .string:=B;refine⟨?_,trivial⟩;simp_all[execOp,abq,Instr.index,Zz,asIntOf,rQq]
    .cases h
   .rename_i d0 v0 i n e hn L;obtain⟨k',rfl⟩:=kLq hn;split at h
    .rename_i k hk R ha;rw[L] at B;have S:i<n:=by rwa[YR] at R
     have hp:=bBq (ρ:=ρ) K hk h w;rw[qPq ha] at Y;refine⟨?_,K3q h i1⟩;simp[execOp,Y,e2,abq,Instr.index,Zz B.1,asIntOf,S,(K.ty e k hk).sizeOf w,hp]
    .cases h
   .cases h
  .cases h
 case slice t x lo W mx=>
  simp only[ylq,qnq,z3q,zOq,z1q,z2q,z0q,yxq,zTq,zJq,yFq,yDq,zBq,zAq,yCq,yuq,znq,yfq,jvq,jtq,juq] at h;split at h
  .rename_i j u U G;have B:=(K.ty t j U).d;obtain⟨Y,i1⟩:=q.ev G
   have at_:∀e,P.underlying t=some (.slice e) ->(execOp a.eval ⟨dst,.slice t x lo W mx,ty,pos,aft,g⟩).run P w=((Instr.slice t (a.eval x) (lo.map a.eval) (W.map a.eval) (mx.map a.eval)).run P w).andThen (λv w=>.ok (.value v) w):=λe hu=>by
    simp_all[execOp,Instr.sliceAt,Zz]
   split at h
   .rename_i e b base N len E M L;rw[L] at B;have B:P.underlying t=some (.slice e):=B;split at h
    .rename_i k l h' hk hl hh;split at h
     .rename_i hes;rw[ZH] at hes;have hc:=jWq i1;obtain⟨hpos,hlen,hD,Z⟩:=i1;rw[at_ e B,Y];have hse:=(K.ty e k hk).sizeOf w;split at h
      ·-- no third bound
       simp only[ljq] at h;split at h
       .rename_i J;simp only[Zd] at J;have h1:=Yb J.1;have Q:=Yb J.2;cases h;have hb:=uLq (P:=P) q (isSl:=true) hl hh h1 (cap:=ydq ρ b N E M) Xd w;refine⟨?_,hpos,?_,hD,?_⟩
        .simp only[abq,ysq,Option.map_none,Instr.slice,ZN,Zz B,ZE,hb,hse,YD,hes]
         have hcap:ydq ρ b (N+l*E) E (q6q l M)=ydq ρ b N E M-l:=by
          cases M with
          |some c=>rfl
          |none=>
           simp[ydq,q6q,Nat.sub_add_eq,YE,Nat.sub_mul_div]
         grind[Nat.beq,oPq,jZq,vQq]
        .cases M with
         |some c=>grind[q6q]
         |none=>simp[q6q]
        .cases M with
         |some c=>
          simp only[q6q,Option.getD_some] at hlen Z⊢;have:l*E+(c-l)*E=c*E:=by rw[<-ZQ];congr 1;omega
          omega
         |none=>
          simp only[q6q,YU] at Z⊢;have:l*E+(h'-l)*E=h'*E:=by rw[<-ZQ];congr 1;omega
          have:=Z7 E Q;omega
       .cases h
      .rename_i z;split at h
       .rename_i _ hi1 m hm;simp only[ljq] at h;split at h
        .rename_i J;simp only[Zd] at J;have h1:=Yb J.1.1.1;have Q:=Yb J.1.1.2;have h3:=Yb J.1.2;have h4:=Yb J.2;cases h;have hb:=gaq (P:=P) q (isSl:=true) (len:=len) hl hh hm h1 Q (cap:=ydq ρ b N E M) Xd w;refine⟨?_,hpos,?_,hD,?_⟩
         .simp only[abq,ysq,Option.map_some,Instr.slice,ZN,Zz B,ZE,hb,hse,YD,hes];grind[ydq,jZq,vQq]
         .grind
         .simp only[Option.getD_some];have e3:l*E+(m-l)*E=m*E:=by rw[<-ZQ];congr 1;omega
          have:=Z7 E h3;cases M with
          |some c=>simp only[Option.getD_some] at hlen Z;have:=Z7 E hlen;omega
          |none=>grind
        .cases h
       .cases h
     .cases h
    .cases h
   .rename_i e L;rw[L] at B;have B:P.underlying t=some (.slice e):=B;split at h
    .rename_i k hk hl hh;cases h;have hb:=uLq (P:=P) q (isSl:=true) hl hh (Zb _) (cap:=0) (Zb _) w;refine⟨?_,trivial⟩;rw[at_ e B,Y];simp[abq,Instr.slice,Zz B,hb,(K.ty e k hk).sizeOf w]
    .cases h
   .rename_i s L;rw[L] at B;have B:P.underlying t=some .string:=B;split at h
    .rename_i l h' hl hh;split at h
     .rename_i J;simp only[Zd] at J;have h1:=Yb J.1;have Q:=Yb J.2;cases h;have hb:=uLq (P:=P) q (isSl:=false) hl hh h1 (cap:=s.length) Q w;refine⟨?_,trivial⟩;have hsz:(⟨⟨s⟩⟩:ByteArray).size=s.length:=rfl;simp[execOp,Y,abq,Instr.sliceAt,Instr.slice,Zz B,hsz,hb,Qeq]
     .cases h
    .cases h
   .cases h
  .cases h
 case makeInterface t x=>
  simp only[ylq,qnq,z3q,zOq,z1q,z2q,z0q,yxq,zTq,zJq,yFq,yDq,zBq,zAq,yCq,yuq,znq,yfq,jvq,jtq,juq] at h;split at h
  .rename_i j u U G;obtain⟨e,W⟩:=q.ev G;split at h
   .cases h
   .rename_i hn;cases h;refine⟨?_,W⟩;simp[execOp,e,abq,run_makeInterface w t _ ((K.ty t j U).concrete hn)]
  .cases h
 case call c=>
  obtain⟨callee,H,X⟩:=c;cases callee<;>try grind[ylq]
  rename_i b;cases b<;>try grind[ylq]
  case len=>
   have e2:execOp a.eval ⟨dst,.call ⟨.builtin .len,H,X⟩,ty,pos,aft,g⟩=(do pure (.value (<-Builtin.len_ X ty (H.map a.eval)))):=rfl;rw[e2];simp only[ylq,qnq,z3q,zOq,z1q,z2q,z0q,yxq,zTq,zJq,yFq,yDq,zBq,zAq,yCq,yuq,znq,yfq,jvq,jtq,juq] at h;split at h
   .rename_i t x h1 Q;have h1:X= #[t]:=by apply YC.1;simpa using h1
    have Q:H= #[x]:=by apply YC.1;simpa using Q
    subst h1;subst Q
    split at h
    .rename_i j u U G;have B:=(K.ty t j U).d;have Y:=(q.ev G).1;split at h
     .rename_i s L;rw[L] at B;cases h;have B:P.underlying t=some .string:=B;have hsz:(⟨⟨s⟩⟩:ByteArray).size=s.length:=rfl;exact⟨by simp[Builtin.len_,Y,abq,Zz B,goInt,hsz],trivial⟩
     .rename_i e b base N n E M L;rw[L] at B;cases h;have B:P.underlying t=some (.slice e):=B;exact⟨by simp[Builtin.len_,Y,abq,ysq,Zz B,goInt],trivial⟩
     .rename_i e L;rw[L] at B;cases h;have B:P.underlying t=some (.slice e):=B;exact⟨by simp[Builtin.len_,Y,abq,Zz B,goInt],trivial⟩
     .rename_i n e u' L;rw[L] at B;cases h;exact⟨by simp[Builtin.len_,abq,Zz B.1,goInt],trivial⟩
     .cases h
    .cases h
   .cases h
  case min=>
   have e2:execOp a.eval ⟨dst,.call ⟨.builtin .min,H,X⟩,ty,pos,aft,g⟩=(do pure (.value (<-Builtin.min_ X ty (H.map a.eval)))):=rfl;rw[e2];simp only[ylq,qnq,z3q,zOq,z1q,z2q,z0q,yxq,zTq,zJq,yFq,yDq,zBq,zAq,yCq,yuq,znq,yfq,jvq,jtq,juq] at h;split at h
   .rename_i x y Q;have Q:H= #[x,y]:=by apply YC.1;simpa using Q
    subst Q;split at h
    .rename_i k m k' n G hy;cases h;refine⟨?_,trivial⟩;rw[Yjq];by_cases R:n<m<;>simp[Builtin.min_,Builtin.min2,(q.ev G).1,(q.ev hy).1,abq,R]
    .cases h
   .cases h
  case max=>
   have e2:execOp a.eval ⟨dst,.call ⟨.builtin .max,H,X⟩,ty,pos,aft,g⟩=(do pure (.value (<-Builtin.max_ X ty (H.map a.eval)))):=rfl;rw[e2];simp only[ylq,qnq,z3q,zOq,z1q,z2q,z0q,yxq,zTq,zJq,yFq,yDq,zBq,zAq,yCq,yuq,znq,yfq,jvq,jtq,juq] at h;split at h
   .rename_i x y Q;have Q:H= #[x,y]:=by apply YC.1;simpa using Q
    subst Q;split at h
    .rename_i k m k' n G hy;cases h;refine⟨?_,trivial⟩;rw[Yjq];by_cases R:m<n<;>simp[Builtin.max_,Builtin.max2,(q.ev G).1,(q.ev hy).1,abq,R]
    .cases h
   .cases h
end
def xGq:Nat->V->Nat->Nat->Nat->Option (List V)
 |0,_,_,_,_=>none
 | f +1,v,off,n,e=>
  match v with
  |.arr m b l=>
   match Nat.beq b e&&Nat.beq (off%e) 0&&Nat.ble (off+n*e) m with
   |true=>match Nat.beq ((l.drop (off/e)).take n).length n with
    |true=>some ((l.drop (off/e)).take n)
    |false=>none
   |false=>match Nat.beq off 0&&Nat.beq n 1&&Nat.beq m e with
    |true=>some [.arr m b l]
    |false=>match l[off/b]? with
     |some x=>match Nat.beq x.size b&&Nat.ble (off/b*b+b) m&&Nat.ble (off%b+n*e) b with
      |true=>xGq f x (off%b) n e
      |false=>none
     |none=>none
  |.agg m l=>match Nat.beq off 0&&Nat.beq n 1&&Nat.beq m e with
   |true=>some [.agg m l]
   |false=>match Jsq l off with
    |some (x,o)=>match Nat.ble (off-o+x.size) m&&Nat.ble (o+n*e) x.size with
     |true=>xGq f x o n e
     |false=>none
    |none=>none
  |_=>none
theorem zEq(a:Env)(e:Nat):∀l:List V,(zpq a e l).length=l.length*e
 |[]=>by simp[zpq]
 |v::l=>by simp[zpq,zEq a e l,ZQ];omega
theorem jkq(c:Env)(e:Nat):∀a b:List V,zpq c e (a++b)=zpq c e a++zpq c e b
 |[],b=>by simp[zpq]
 |v::a,b=>by simp[zpq,jkq c e a b]
theorem xvq(a:Env)(e:Nat):∀(l:List V) (i:Nat),zpq a e (l.drop i)=(zpq a e l).drop (i*e)
 |[],i=>by simp[zpq]
 |v::l,0=>by simp
 |v::l,i+1=>by
  have b:(fit e (cellsV a v)).drop ((i+1)*e)=[]:=ZY (by rw[Z4q,ZQ];omega);simp only[List.drop_succ_cons,zpq,xvq a e l i];simp_all[List.drop_append,ZQ]
theorem kAq(b:Env)(e:Nat):∀(l:List V) (i:Nat),zpq b e (l.take i)=(zpq b e l).take (i*e)
 |[],i=>by simp[zpq]
 |v::l,0=>by simp[zpq]
 |v::l,i+1=>by
  simp only[List.take_succ_cons,zpq,kAq b e l i];rw[List.take_append,Zp (l:=fit e (cellsV b v)) (by simp[ZQ])];congr 2
  simp[ZQ]
theorem tdq{m a b:Nat}{L:List Value}(f:a+b<=m)(c:a+b<=L.length):((fit m L).drop a).take b=(L.drop a).take b:=by
 grind[fit,List.drop_take]
theorem uhq{ρ:Env}:∀(f:Nat) (v:V) (j n e:Nat) (l:List V),xGq f v j n e=some l->
  l.length=n/\j+n*e<=v.size/\((cellsV ρ v).drop j).take (n*e)=zpq ρ e l/\∀D,InD D v->InDL D l
 |0,_,_,_,_,_,h=>by simp[xGq] at h
 | f +1,v,j,n,e,r,h=>by
  simp only[xGq] at h;split at h
  .rename_i m y l;split at h
   .rename_i q;simp only[Zd,ZH] at q;obtain⟨⟨rfl,T⟩,A⟩:=q;have A:=Yb A;split at h
    .rename_i M;rw[ZH] at M;cases h
     have P:j/y*y=j:=by
      have:=Nat.div_add_mod j y;rw[YE] at this;omega
     refine⟨M,A,?_,λD z=>InDL_iff.2 λx E=>InDL_iff.1 (show InDL D l from z) x (ZF (ZJ E))⟩;by_cases H:n=0
     .subst H;simp[zpq]
     have O:j+n*y<=(zpq ρ y l).length:=by
      rw[zEq];rw[Zu,Zy] at M;have:=Z7 y (show j/y+n<=l.length by omega);rw[ZQ] at this;omega
     grind[cellsV,tdq,kAq,xvq]
    .cases h
   .split at h
    .rename_i q;simp only[Zd,ZH] at q;obtain⟨⟨rfl,rfl⟩,rfl⟩:=q;cases h;refine⟨rfl,by show 0+1*m<=m;omega,?_,λD z=>⟨z,trivial⟩⟩;simp only[zpq,ZT,Nat.one_mul,ZX];rw[y2q Qr,Zp Qr]
    .split at h
     .rename_i x E;split at h
      .rename_i q;simp only[Zd,ZH] at q;obtain⟨⟨Q,L⟩,I⟩:=q;have L:=Yb L;have I:=Yb I;obtain⟨F,R,G,J⟩:=uhq (ρ:=ρ) f x _ n e r h;obtain⟨a,c,C,K⟩:=Xiq (ρ:=ρ) (e:=y) _ _ _ E;have B:=Nat.div_add_mod j y;rw[YE] at B;refine⟨F,by show j+n*e<=m;omega,?_,λD z=>J D (InDL.at_ (show InDL D l from z) E)⟩;rw[y2q (by simp[Q])] at C;have w:=jpq (n:=m) (a:=a) (b:=cellsV ρ x) (c:=c) Xn;rw[<-C] at w;simp only[cellsV];rw[<-G,<-w,qCq Xn,K,B]
      .cases h
     .cases h
  .rename_i m l;split at h
   .rename_i q;simp only[Zd,ZH] at q;obtain⟨⟨rfl,rfl⟩,rfl⟩:=q;cases h;refine⟨rfl,by show 0+1*m<=m;omega,?_,λD z=>⟨z,trivial⟩⟩;simp only[zpq,ZT,Nat.one_mul,ZX];rw[y2q Qr,Zp Qr]
   split at h
   .rename_i x o N;split at h
    .rename_i q;simp only[Zd] at q;have L:=Yb q.1;have I:=Yb q.2;obtain⟨a,c,C,K,S⟩:=Z6q (ρ:=ρ) _ _ _ _ N;obtain⟨F,R,G,J⟩:=uhq (ρ:=ρ) f x o n e r h;refine⟨F,by show j+n*e<=m;omega,?_,λD z=>J D (YZq N (show InDL D l from z))⟩;have U:a.length=j-o:=by omega
     have w:=jpq (n:=m) (a:=a) (b:=cellsV ρ x) (c:=c) Xn;rw[<-C] at w;simp only[cellsV];rw[<-G,<-w,qCq Xn,K]
    .cases h
   .cases h
  .cases h
def miq(l:List V)(e:Nat):Nat->List V
 |0=>[]
 |n+1=>.agg e (l.take e)::miq (l.drop e) e n
theorem Q7q{e:Nat}:∀(n:Nat) (l:List V),(miq l e n).length=n
 |0,_=>rfl
 |n+1,l=>by simp[miq,Q7q n]
theorem Q8q{e:Nat}:∀(n:Nat) (l:List V),(∀x∈l,x.isAgg=false) ->n*e<=l.length->yaq e (miq l e n)=l.take (n*e)/\∀x∈miq l e n,x.size=e/\x.isAgg=true/\∀y∈zmq x,y∈l
 |0,l,_,_=>by simp[miq,yaq]
 |n+1,l,h,hl=>by
  rw[ZQ] at hl;obtain⟨k,o⟩:=Q8q (e:=e) n (l.drop e) (λx b=>h x (ZF b)) Xn;have j:zmq (.agg e (l.take e))=l.take e:=YYq (λx b=>h x (ZJ b)) Xn;refine⟨?_,λx b=>?_⟩
  .grind[miq,yaq,yqq,ZQ]
  .simp only[miq,ZB] at b;rcases b with rfl|b
   .exact⟨rfl,rfl,λy f=>by grind⟩
   grind
def xgq(v:V)(a n e:Nat):Option (List V):=match v.isAgg&&Nat.ble (a+n*e) v.size with
 |true=>some (miq ((zmq v).drop a) e n)
 |false=>none
def okE(e:Nat)(l:List V):Bool:=l.all λx=>Nat.beq x.size e&&(x.leaf||x.isAgg)
def j2q(f:Nat)(v:V)(a n e:Nat):Option (List V):=match xGq f v a n e with
 |some l=>match okE e l with
  |true=>some l
  |false=>xgq v a n e
 |none=>xgq v a n e
theorem Ymq{v:V}{b n e:Nat}{l:List V}(h:xgq v b n e=some l):
  l.length=n/\b+n*e<=v.size/\((zmq v).drop b).take (n*e)=yaq e l/\(∀x∈l,x.size=e)/\∀x∈l,∀y∈zmq x,y∈zmq v:=by
 unfold xgq at h;split at h
 .rename_i f;simp only[Zd] at f;have j:=Yb f.2;cases h;obtain⟨q,u⟩:=Q8q n ((zmq v).drop b) (e:=e) (λx g=>krq v x (ZF g)) Xn;grind[Q7q]
 .cases h
theorem JOq{D:Nat->Nat->Prop}{e:Nat}:∀(n:Nat) (l:List V),(∀y∈l,InD D y) ->InDL D (miq l e n)
 |0,_,_=>trivial
 |n+1,l,h=>⟨InDL_iff.2 λy a=>h y (ZJ a),JOq n _ λy a=>h y (ZF a)⟩
theorem y3q{ρ:Env}(f:Nat)(v:V)(b n e:Nat)(l:List V)(h:j2q f v b n e=some l):
  l.length=n/\b+n*e<=v.size/\((cellsV ρ v).drop b).take (n*e)=zpq ρ e l/\∀D,InD D v->InDL D l:=by
 have q:∀{l},xgq v b n e=some l->l.length=n/\b+n*e<=v.size/\((cellsV ρ v).drop b).take (n*e)=zpq ρ e l/\∀D,InD D v->InDL D l:=λ{l} h=>by
  obtain⟨g,j,m,i,c⟩:=Ymq h;grind[kPq,qkq,List.map_take,List.map_drop,xgq,JOq,uBq]
 grind[j2q,uhq]
def mbq:V->Nat->Nat->List V->Option V
 |v,_,_,[]=>some v
 |v,off,e,x::l=>match Nat.beq x.size e with
  |true=>match ueq 50 v off x with
   |some a=>mbq a (off+e) e l
   |none=>none
  |false=>none
theorem rSq{c a b:List Value}{e:Nat}(h:e+a.length+b.length<=c.length):spl (spl c e a) (e+a.length) b=spl c e (a++b):=by
 simp only[spl];apply List.ext_getElem?;intro i;simp only[Zx,Y2,YJ,Z0,Zu,Zh,Zy];by_cases f:i<e
 .grind
 grind
theorem v6q{ρ:Env}{e:Nat}:∀(l:List V) (v:V) (f:Nat) (j:V),mbq v f e l=some j->
  j.size=v.size/\(l=[]\/f+l.length*e<=v.size)/\cellsV ρ j=(if l=[] then cellsV ρ v else spl (cellsV ρ v) f (zpq ρ e l))/\j.isAgg=v.isAgg/\j.leaf=v.leaf/\(∀D,InD D v->InDL D l->InD D j)/\∀x∈l,x.size=e
 |[],v,f,j,h=>by grind[mbq]
 | x ::l,v,f,j,h=>by
  simp only[mbq] at h;split at h
  .rename_i p;rw[ZH] at p;split at h
   .rename_i z A;obtain⟨G,Q,q,H,K,N⟩:=u3q (ρ:=ρ) 50 v f x z A;obtain⟨C,B,M,F,E,L,P⟩:=v6q (ρ:=ρ) l z _ j h;have o:fit e (cellsV ρ x)=cellsV ρ x:=y2q (by simp[p]);refine⟨C.trans G,.inr ?_,?_,F.trans H,E.trans K,λD J k=>L D (YPq A J k.1) k.2,λy O=>?_⟩
    .grind[ZQ]
    .rw[M,Zg (show¬(x::l=[]) by simp)];by_cases k:l=[]
     .subst k;rw[Zl rfl,q];simp[zpq,o]
     .rw[Zg k];rcases B with I|B
      .exact absurd I k
      .rw[q];simp only[zpq,o];rw[<-rSq (by rw[yHq,yHq,zEq];omega)];simp[p]
    grind
   .cases h
  .cases h
def Heap.val(h:Heap)(b:Nat):Option V:=match h.get b with
 |some (.cells _ v)=>some v
 |some (.ro v)=>some v
 |_=>none
def qpq(s:List UInt8):List V:=s.map λc=>.int .u8 (.ofNat c.toNat)
def giq(C:Cfg)(h:Heap)(f:TypeId)(a:Nat)(x:V):Option (List V):=match C.ty f with
 |none=>none
 |some j=>match j.d,x with
  |.slice _,.nils=>some []
  |.slice _,.sl b _ off n e _=>match Nat.beq e a,h.val b with
   |true,some v=>j2q 50 v off n a
   |_,_=>none
  |.str,.str s=>match Nat.beq a 1 with
   |true=>some (qpq s)
   |false=>none
  |_,_=>none
def kVq(C:Cfg)(h:Heap)(o m:TypeId)(s x:V):Option (V×Heap):=match C.ty o with
 |none=>none
 | some j => match j.d with
  | .slice e =>match C.ty e with
   |none=>none
   | some k =>match Nat.beq k.size 0 with
    |true=>none
    | false =>match giq C h m k.size x with
     |none=>none
     | some news=>match s with
      |.nils=>match news with
       |[]=>some (.nils,h)
       |_::_=>match Nat.ble (news.length*k.bytes) 140737488355328&&Nat.ble news.length 70368744177664 with
        |true=>some (.sl h.next 0 0 news.length k.size none,h.push (.cells e (.arr (news.length*k.size) k.size news)))
        |false=>none
      | .sl b base off len esz lim=>match Nat.beq esz k.size,news with
       |false,_=>none
       |true,[]=>some (.sl b base off len esz lim,h)
       |true,_::_=>match Nat.ble ((len+news.length)*k.bytes) 140737488355328&&Nat.ble (len+news.length) 70368744177664 with
        |false=>none
        |true=>match lim with
         |some c=>match Nat.ble (len+news.length) c with
          |true=>match h.get b with
           |some (.cells ty v)=>match Nat.ble (off+(len+news.length)*esz) v.size with
            |true=>match mbq v (off+len*esz) esz news with
             |some g=>some (.sl b base off (len+news.length) esz lim,h.put b (.cells ty g))
             |none=>none
            |false=>none
           |_=>none
          |false=>match h.val b with
           |some v=>match j2q 50 v off len esz with
            |some f=>some (.sl h.next 0 0 (len+news.length) esz none,h.push (.cells e (.arr ((len+news.length)*esz) esz (f++news))))
            |none=>none
           |none=>none
         |none=>match h.get b with
          |some (.cells ty v)=>match Nat.ble (off+(len+news.length)*esz) v.size with
           |true=>match mbq v (off+len*esz) esz news with
            |some g=>some (.sl b base off (len+news.length) esz none,h.put b (.cells ty g))
            |none=>none
           |false=>match gGq ty e,j2q 50 v off len esz with
            |true,some f=>some (.sl h.next 0 0 (len+news.length) esz none,(h.push (.cells e (.arr ((len+news.length)*esz) esz (f++news)))).kill b)
            |_,_=>none
          |_=>none
      |_=>none
  |_=>none
def f7q(C:Cfg)(h:Heap)(w r:TypeId)(s x:V):Option (V×Heap):=match C.ty w with
 |none=>none
 | some j=>match j.d with
  |.slice e=>match C.ty e with
   |none=>none
   |some k=>match giq C h r k.size x with
    |none=>none
    |some p=>match s with
     |.nils=>some (.int .i64 (.ofNat 0),h)
     |.sl b _ m q g _=>match Nat.beq g k.size,p.take q with
      |true,[]=>some (.int .i64 (.ofNat 0),h)
      |true,y::ys=>match h.get b with
       |some (.cells ty v)=>match Nat.ble (m+(ys.length+1)*g) v.size with
        |true=>match mbq v m g (y::ys) with
         |some u=>some (.int .i64 (.ofNat (ys.length+1)),h.put b (.cells ty u))
         |none=>none
        |false=>none
       |_=>none
      |_,_=>none
     |_=>none
  |_=>none
def maq(n e:Nat)(z:V):V:=.arr (n*e) e (List.replicate n z)
def Jtq(C:Cfg)(a:Tr V)(e:Nat):V->List (Nat×Operand) ->Option V
 |v,[]=>some v
 |v,(i,x)::l=>match evV C a x with
  |some y=>match Nat.beq y.size e with
   |true=>match ueq 50 v (i*e) y with
    |some b=>Jtq C a e b l
    |none=>none
   |false=>none
  |none=>none
def J5q(C:Cfg)(e:TypeId):Option TyD:=match C.ty e with
 |some k=>some k.d
 |none=>none
def bytesOf:List V->Option (List UInt8)
 |[]=>some []
 |.int .u8 (.ofNat c)::l=>match Nat.blt c 256,bytesOf l with
  |true,some r=>some (UInt8.ofNat c::r)
  |_,_=>none
 |_=>none
def zzq(C:Cfg)(f:Tr V)(h:Heap)(s:TypeId)(t:TypeId)(x:Operand):Option (V×Heap):=match C.ty s,C.ty t,evV C f x with
 |some js,some jt,some v=>match js.d,jt.d,v with
  |.slice e,.str,v=>match J5q C e,v with
   |some (.int .u8),.nils=>some (.str [],h)
   |some (.int .u8),.sl b _ off n esz _=>match Nat.beq esz 1,h.val b with
    |true,some bv=>match j2q 50 bv off n esz with
     |some l=>match bytesOf (yaq 1 l) with
      |some r=>some (.str r,h)
      |none=>none
     |none=>none
    |_,_=>none
   |_,_=>none
  |.slice _,.slice e,.sl b base off n esz lim=>match Nat.beq s t,J5q C e,h.get b with
   |true,some (.int .u8),some (.cells _ bv)=>match Nat.ble base bv.size with
    |true=>some (.sl b base off n esz lim,h.put b (.ro bv))
    |false=>none
   |_,_,_=>none
  |.str,.slice e,.str s=>match J5q C e with
   |some (.int .u8)=>some (.sl h.next 0 0 s.length 1 none,h.push (.ro (.arr s.length 1 (qpq s))))
   |_=>none
  |_,_,_=>none
 |_,_,_=>none
def ywq(C:Cfg)(a:Tr V)(h:Heap)(t:TypeId)(x:Operand):Option (V×Heap):=match evV C a x,C.ty t with
 |some (.ptr b off),some i=>match h.val b with
  |some v=>match j6q 50 v off i.size i.agg with
   |some r=>some (r,h)
   |none=>none
  |none=>none
 |_,_=>none
def z8q(C:Cfg)(a:Tr V)(h:Heap)(t:TypeId)(x:Operand)(y:Operand):Option (V×Heap):=match evV C a x,evV C a y,C.ty t with
 |some (.ptr b off),some u,some i=>match h.get b,Nat.beq u.size i.size with
  |some (.cells ty v),true=>match ueq 50 v off u with
   |some g=>some (.undef,h.put b (.cells ty g))
   |none=>none
  |_,_=>none
 |_,_,_=>none
def z9q(C:Cfg)(a:Tr V)(h:Heap)(t:TypeId):Option (V×Heap):=match C.ty t with
 |some i=>some (.ptr h.next 0,h.push (.cells t i.zero))
 |none=>none
def qwq(C:Cfg)(a:Tr V)(h:Heap)(t:TypeId)(x:Operand):Option (V×Heap):=match evV C a x with
 |some v=>match v.leaf||v.isAgg with
  |true=>some (.ptr h.next 0,h.push (.cells t v))
  |false=>none
 |none=>none
def zkq(C:Cfg)(g:Tr V)(h:Heap)(t:TypeId)(n:Nat)(f:Array (Nat×Operand)):Option (V×Heap):=match C.ty t with
 |some i=>match i.d with
  |.slice e=>match C.ty e with
   |some k=>match Nat.beq k.size 0||!Nat.ble (n*k.size) 16777216 with
    |true=>none
    |false=>match Jtq C g k.size (maq n k.size k.zero) f.toList with
     |some v=>some (.sl h.next 0 0 n k.size none,h.push (.cells e v))
     |none=>none
   |none=>none
  |_=>none
 |none=>none
def zsq(C:Cfg)(f:Tr V)(h:Heap)(t:TypeId)(x:Operand)(y:Operand):Option (V×Heap):=match C.ty t,evV C f x,evV C f y with
 |some i,some u,some v=>match i.d,pFq u,pFq v with
  |.slice e,some l,some c=>match C.ty e with
   |some k=>match Nat.beq k.size 0||!Nat.ble l c||!Nat.ble (k.bytes*c) 281474976710656||!Nat.ble c 9223372036854775807 with
    |true=>none
    |false=>some (.sl h.next 0 0 l k.size none,h.push (.cells e (maq c k.size k.zero)))
   |none=>none
  |_,_,_=>none
 |_,_,_=>none
def zNq(C:Cfg)(c:Tr V)(h:Heap)(a:Array Operand)(b:Array TypeId):Option (V×Heap):=match a.toList,b.toList with
 |[x,y],[ts,tx]=>match evV C c x,evV C c y with
  |some s,some u=>kVq C h ts tx s u
  |_,_=>none
 |_,_=>none
def yzq(C:Cfg)(c:Tr V)(h:Heap)(a:Array Operand)(b:Array TypeId):Option (V×Heap):=match a.toList,b.toList with
 |[x,y],[ts,tx]=>match evV C c x,evV C c y with
  |some s,some u=>f7q C h ts tx s u
  |_,_=>none
 |_,_=>none
def z4q(C:Cfg)(f:Tr V)(h:Heap)(t:TypeId)(x:Operand)(g:Option Operand)(o:Option Operand)(m:Option Operand):Option (V×Heap):=match C.ty t,evV C f x with
 |some j,some v=>match j.d,v with
  |.arr n e,.ptr b off=>match C.ty e,azq C f 0 g,azq C f n o,m,h.val b with
   |some k,some l,some r,none,some bv=>match Nat.beq k.size 0||!Nat.ble l r||!Nat.ble r n||!Nat.ble (off+n*k.size) bv.size with
    |true=>none
    |false=>some (.sl b off (off+l*k.size) (r-l) k.size (some (n-l)),h)
   |_,_,_,_,_=>none
  |.slice e,.sl b base off len esz lim=>match C.ty e,azq C f 0 g,azq C f len o,m,h.val b with
   |some k,some l,some r,none,some bv=>match Nat.beq k.size esz&&Nat.ble l r&&Nat.ble 1 r&&Nat.ble (off+r*esz) bv.size&&(match lim with|none=>true|some c=>Nat.ble r c) with
    |false=>none
    |true=>some (.sl b (match Nat.beq l 0 with|true=>base|false=>off) (off+l*esz) (r-l) esz (q6q l lim),h)
   |_,_,_,_,_=>none
  |_,_=>none
 |_,_=>none
def opH(C:Cfg)(f:Tr V)(h:Heap):Op->Option (V×Heap)
 |.convert s t x=>zzq C f h s t x
 |.load t x=>ywq C f h t x
 |.store t x y=>z8q C f h t x y
 |.alloc t=>z9q C f h t
 |.box t x=>qwq C f h t x
 |.buildSlice t n g=>zkq C f h t n g
 |.makeSlice t x y=>zsq C f h t x y
 |.call ⟨.builtin .append,args,ats⟩=>zNq C f h args ats
 |.call ⟨.builtin .copy,args,ats⟩=>yzq C f h args ats
 |.slice t x j w q=>z4q C f h t x j w q
 |_=>none
structure Did(P:Program)(C:Cfg)(s0:World)(U:Nat)(o:Oper)(a:Act)(D:Nat->Prop)(ρ:Env)(h:Heap)(w:World)(v:V)(h':Heap)(x:Value)(D':Nat->Prop)(ρ':Env)(w':World):Prop where
 op:Op1 P o a w x w'
 val:x=abq ρ' v
 rel:Rel s0 U D' ρ' h' w'
 nxt:Nxt D ρ h w D' ρ' h' w'
 in_:InD (DD D' ρ') v
section
variable {P:Program} {C:Cfg} {s0:World} {U:Nat} {D:Nat->Prop} {ρ:Env} {fr:Tr V} {a:Act} {w:World} {h:Heap}
theorem KEq{c b m:Nat}(d:m<=b):DD (λi=>D i\/i=h.next) (ρ.add h.next w.heap.size c b) h.next m:=⟨.inr rfl,by simp[Env.add];exact d⟩
theorem Rel.val(r:Rel s0 U D ρ h w){b:Nat}{v:V}(p:D b)(k:h.val b=some v):∃f d g x,w.heap[ρ.b b]? =some (.cells (f++(cellsV ρ v++d)).toArray g x)/\f.length=ρ.pre b/\v.size<=ρ.cap b/\InD (DD D ρ) v:=by
 unfold Heap.val at k;split at k
 .rename_i g B j;cases k;obtain⟨o,q,f,d,rfl,u,z⟩:=r.has b _ p j;exact⟨f,d,g,_,q,u,by omega,r.clo b _ p j⟩
 .rename_i B j;cases k;obtain⟨o,q,f,d,g,x,rfl,u,z⟩:=r.has b _ p j;exact⟨f,d,g,x,q,u,z,r.clo b _ p j⟩
 .cases k
theorem r5q{d c f:List Value}{b n:Nat}(h:b+n<=c.length):(d++(c++f)).toArray.extract (d.length+b) (d.length+b+n)=((c.drop b).take n).toArray:=by
 apply Array.ext';grind[YQ]
theorem ptq{pre c tail:List Value}{i:Nat}{x:Value}(h:c[i]? =some x):(pre++(c++tail)).toArray[pre.length+i]? =some x:=by
 grind
theorem JMq(hC:CfgOK P C)(r:Rel s0 U D ρ h w){t:TypeId}{i:TyI}{b off:Nat}{v x:V}(hi:C.ty t=some i)(hb:D b)(hv:h.val b=some v)(hg:j6q 50 v off i.size i.agg=some x):
  (loadVar t ⟨ρ.b b,ρ.pre b+off,none⟩).run P w= .ok (abq ρ x) w/\InD (DD D ρ) x:=by
 obtain⟨pre,tail,ty,fz,h1,h2,_,h3⟩:=r.val hb hv;obtain⟨g1,g2,g3,g4⟩:=JRq (ρ:=ρ) 50 v off i.size i.agg x hg;have ok:=hC.ty t i hi;refine⟨?_,K3q hg h3⟩;cases ha:i.agg with
 |true=>
  rw[ha,Zl rfl] at g4
  have hrow:Qkq w ⟨ρ.b b,ρ.pre b+off,none⟩ i.size=some (cellsV ρ x).toArray:=by
   rw[ARq h1 Xn,<-h2,r5q (by simpa using g2),g3]
  rw[Qiq (ok.aggLen ha),hrow,qPq g4]
 |false=>
  rw[ha,Zg Xi] at g4;have e1:=kRq (ρ:=ρ) g4
  have e2:x.size=1:=by
   have:=yHq ρ x;rw[e1] at this;simpa using this.symm
  have hc:(cellsV ρ v)[off]? =some (abq ρ x):=by
   have h4:(((cellsV ρ v).drop off).take i.size)[0]? =some (abq ρ x):=by rw[g3,e1];rfl
   rw[List.getElem?_take_of_lt Xd,Z0,Y5] at h4;exact h4
  have hcell:w.cell? ⟨ρ.b b,ρ.pre b+off,none⟩=some (abq ρ x):=by
   simp only[World.cell?,h1];rw[<-h2];simpa using ptq (pre:=pre) (tail:=tail) hc
  have ha':=ok.isAgg w;rw[ha] at ha';simp[loadVar,ha',hcell]
theorem v4q(r:Rel s0 U D ρ h w){b g:Nat}{j:TypeId}{v k:V}{i:List Value}(u:D b)(x:h.get b=some (.cells j v))(z:k.size=v.size)(E:cellsV ρ k=spl (cellsV ρ v) g i)(n:g+i.length<=v.size)(q:InD (DD D ρ) k):
  ∃f d,w.heap[ρ.b b]? =some (.cells (f++(cellsV ρ v++d)).toArray j (0,0))/\f.length=ρ.pre b/\
   ∀m,Turned (ρ.b b) (.cells (q5q (f++(cellsV ρ v++d)).toArray (ρ.pre b+g) i.toArray) j (0,0)) w m->Rel s0 U D ρ (h.put b (.cells j k)) m/\Nxt D ρ h w D ρ (h.put b (.cells j k)) m:=by
 obtain⟨o,B,f,d,rfl,p,F⟩:=r.has b _ u x;refine⟨f,d,B,p,λm t=>r.put u x Y Y t ⟨f,d,?_,p,by rw[z];exact F⟩ q⟩;congr 1
 simp only[q5q,ZU];congr 1
 rw[E];have:=hcq (b:=cellsV ρ v) (vs:=i) (a':=f) (c':=d) (o:=g) (by simp;exact n);simp only[Zx] at this;rw[this,p];rfl
theorem cNq(I:CfgOK P C)(r:Rel s0 U D ρ h w){t:TypeId}{i:TyI}{b d:Nat}{m:TypeId}{v p x:V}(R:C.ty t=some i)(T:x.size=i.size)(F:D b)(G:h.get b=some (.cells m v))(H:ueq 50 v d x=some p)(M:InD (DD D ρ) x):
  ∃B,(storeVar t ⟨ρ.b b,ρ.pre b+d,none⟩ (abq ρ x)).run P w= .ok () B/\Rel s0 U D ρ (h.put b (.cells m p)) B/\Nxt D ρ h w D ρ (h.put b (.cells m p)) B:=by
 obtain⟨L,N,J,Y,Z,K⟩:=u3q (ρ:=ρ) 50 v d x p H;obtain⟨j,g,Q,h2,S⟩:=v4q r F G L J (by simpa using N) (YPq H (r.clo b _ F G) M);refine⟨w.setRow (ρ.b b) (q5q (j++(cellsV ρ v++g)).toArray (ρ.pre b+d) (cellsV ρ x).toArray),?_,?_⟩
 .have q:(abq ρ x).cells=(cellsV ρ x).toArray:=qJq K;have E:=run_storeCells_at (P:=P) (ρ.b b) (ρ.pre b+d) m (cellsV ρ x) 0 (j++(cellsV ρ v++g)).toArray w Q Xn (Q9q ρ x);simp only[Y5] at E;have X:=(I.ty t i R).sizeOf w;simp_all[storeVar,q5q]
 .refine S _ ⟨rfl,rfl,rfl,by simp,?_,λk W=>?_⟩
  all_goals grind[World.setRow]
theorem uuq(r:Rel s0 U D ρ h w)(f:h.next+1<=U){v:V}{t:TypeId}{tail:List Value}(d:InD (DD D ρ) v):
  Rel s0 U (λi=>D i\/i=h.next) (ρ.add h.next w.heap.size 0 (v.size+tail.length)) (h.push (.cells t v)) (w.alloc (.cells (cellsV ρ v++tail).toArray t))/\
  Nxt D ρ h w (λi=>D i\/i=h.next) (ρ.add h.next w.heap.size 0 (v.size+tail.length)) (h.push (.cells t v)) (w.alloc (.cells (cellsV ρ v++tail).toArray t)):=by
 refine r.push f (jPq w _) (heap_alloc_new w _) rfl d ⟨[],tail,?_,by simp[Env.add],by simp[Env.add]⟩;have b:Env.Agree (DD D ρ) ρ (ρ.add h.next w.heap.size 0 (v.size+tail.length)):=Env.add_agree (r.next_new f);rw[yZq b d];rfl
theorem ijq(r:Rel s0 U D ρ h w){cap:Nat}:abq (ρ.add h.next w.heap.size 0 cap) (.ptr h.next 0)= .pointer (some ⟨w.heap.size,0,none⟩)/\InD (DD (λi=>D i\/i=h.next) (ρ.add h.next w.heap.size 0 cap)) (.ptr h.next 0):=
 ⟨by simp[abq,Env.add],KEq (Zf _)⟩
theorem bKq(n b k:Nat)(f:0<k)(g:b<=n){cap:Nat}(d:cap=n*k):abq (ρ.add h.next w.heap.size 0 cap) (.sl h.next 0 0 b k none)= .slice (some ⟨w.heap.size,0,none⟩) b n/\InD (DD (λi=>D i\/i=h.next) (ρ.add h.next w.heap.size 0 cap)) (.sl h.next 0 0 b k none):=by
 subst d;refine⟨by simp_all[abq,ysq,ydq,Env.add],f,Zb _,?_⟩;simp_all[KEq,Z7]
theorem Qlq(ρ:Env)(n e:Nat)(z:V)(j:z.size=e)(k:0<e):(cellsV ρ (maq n e z)).toArray=(Array.range (n*e)).map ((cellsV ρ z).toArray[· %(cellsV ρ z).toArray.size]!):=by
 have c:(zpq ρ e (List.replicate n z)).length=n*e:=by rw[zEq];simp
 apply Array.ext';simp only[maq,cellsV,y2q c,Array.toList_map,Array.toList_range];apply List.ext_getElem?;intro i;rw[Z1];have b:(cellsV ρ z).length=e:=by simp[j]
 have f:∀(n i:Nat),(zpq ρ e (List.replicate n z))[i]? =if i<n*e then(cellsV ρ z)[i%e]? else none:=by
  intro n;induction n with
  |zero=>intro i;simp[zpq]
  |succ n q=>
   intro i;simp only[List.replicate_succ,zpq,y2q b];by_cases d:i<e
   .rw[List.getElem?_append_left Xd,YV d,Zl (by rw[ZQ];omega)]
   grind[Nat.mod_eq_sub_mod]
 grind
theorem J0q(j:FrE C D ρ fr a){e:Nat}:∀(b:List (Nat×Operand)) (v g:V),Jtq C fr e v b=some g->InD (DD D ρ) v->
  Instr.fill (λi=>some (i*e,e)) (cellsV ρ v).toArray (b.map λp=>(p.1,a.eval p.2))=some (cellsV ρ g).toArray/\InD (DD D ρ) g/\g.size=v.size
 |[],v,g,hh,hv=>by simp only[Jtq,Zm] at hh;subst hh;exact⟨rfl,hv,rfl⟩
 | (i,x)::l,v,g,hh,hv=>by
  simp only[Jtq] at hh;split at hh
  .rename_i y H;split at hh
   .rename_i k;rw[ZH] at k;split at hh
    .rename_i q f;obtain⟨B,E⟩:=j.ev H;obtain⟨G,M,K,L,N,F⟩:=u3q (ρ:=ρ) 50 v (i*e) y q f;obtain⟨J,I,u⟩:=J0q j l q g hh (YPq f hv E);refine⟨?_,I,u.trans G⟩;have d:(abq ρ y).cells=(cellsV ρ y).toArray:=qJq F;simp only[ZD,Instr.fill,B,d]
     have O:¬((cellsV ρ y).toArray.size≠e||decide (i*e+(cellsV ρ y).toArray.size>(cellsV ρ v).toArray.size))=true:=by
      simp[k];omega
     simp_all[K4q]
    .cases hh
   .cases hh
  .cases hh
theorem jVq(r:Rel s0 U D ρ h w){b f d n c:Nat}{g:Option Nat}{v:V}{l:List V}(i:InD (DD D ρ) (.sl b f d n c g))(p:h.val b=some v)(m:j2q 50 v d n c=some l):
  ∀j u,(zpq ρ c l)[j]? =some u->w.cell? (Addr.add (if ydq ρ b d c g=0 then ZIq ρ b f else⟨ρ.b b,ρ.pre b+d,none⟩) j)=some u:=by
 intro j u A;obtain⟨t,B,y,x⟩:=y3q (ρ:=ρ) 50 v d n c l m;have E:=jWq i
 have I:n≠0:=λe=>by
  grind
 have q:¬ydq ρ b d c g=0:=by omega
 obtain⟨o,k,z,H,F,G,_,_⟩:=r.val i.2.2.1 p;grind[jZq,World.cell?]
theorem kSq(ρ:Env):∀s:List UInt8,zpq ρ 1 (qpq s)=s.map λb=>Value.int .u8 b.toNat
 |[]=>rfl
 |c::s=>by
  have:=kSq ρ s;simp only[qpq,ZD,zpq] at this⊢;rw[this];rfl
theorem Qgq(J:CfgOK P C)(r:Rel s0 U D ρ h w){t:TypeId}{k:Nat}{x:V}{f:List V}(H:InD (DD D ρ) x)(g:giq C h t k x=some f):
  Src P k t (abq ρ x) f.length (zpq ρ k f) w/\InDL (DD D ρ) f:=by
 unfold giq at g;split at g
 .cases g
 .rename_i j L;have l:=(J.ty t j L).d;split at g
  .rename_i e p;rw[p] at l;cases g;exact⟨by simpa[abq,zpq] using Src.ofNil (P:=P) (size:=k) w l 0,trivial⟩
  .rename_i e b F u n G K p;rw[p] at l;split at g
   .rename_i v q I;rw[ZH] at q;subst q;obtain⟨B,W,X,O⟩:=y3q (ρ:=ρ) 50 v u n G f g;obtain⟨N,E,S,R,A,T,Q,o⟩:=r.val H.2.2.1 I;refine⟨?_,O _ o⟩;simp only[abq,ysq];rw[B];exact Src.ofSlice w l _ n _ _ (by rw[zEq,B]) (jVq r H I g) (qKq ρ G f)
   .cases g
  .rename_i s p;rw[p] at l;split at g
   .rename_i A;rw[ZH] at A;subst A;cases g;have:=Src.ofString (P:=P) w l ⟨⟨s⟩⟩;rw[show(⟨⟨s⟩⟩:ByteArray).size=s.length from rfl] at this;refine⟨?_,InDL_iff.2 λy M=>by obtain⟨c,_,rfl⟩:=Z2.1 M;trivial⟩;grind[kSq,abq,qpq,byteCells]
   .cases g
  .cases g
theorem Xoq(Z:CfgOK P C)(r:Rel s0 U D ρ h w)(hU:h.next+1<=U){M I ty e:TypeId}{k:TyI}{base:Option Addr}{len cap:Nat}{olds news:List V}{x:Value}(Y:P.underlying M=some (.slice e))(hk:C.ty e=some k)(O:0<k.size)
  (j:(Builtin.firstCells k.size len (.slice base len cap)).run P w.drew= .ok (zpq ρ k.size olds).toArray w.drew) (q:olds.length=len) (T:Src P k.size I x news.length (zpq ρ k.size news) w)
  (S:cap<len+news.length) (hb:(len+news.length)*k.bytes<=140737488355328) (hm:len+news.length<=70368744177664) (hio:InDL (DD D ρ) olds) (hin:InDL (DD D ρ) news):
  ∃G D' d Q,(Builtin.append_ #[M,I] ty #[.slice base len cap,x]).run P w= .ok G Q/\G=abq d (.sl h.next 0 0 (len+news.length) k.size none)/\
   Rel s0 U D' d (h.push (.cells e (.arr ((len+news.length)*k.size) k.size (olds++news)))) Q/\Nxt D ρ h w D' d (h.push (.cells e (.arr ((len+news.length)*k.size) k.size (olds++news)))) Q/\InD (DD D' d) (.sl h.next 0 0 (len+news.length) k.size none):=by
 have ok:=Z.ty e k hk;obtain⟨f,v,E,R,J⟩:=ok.info;have J:=J ρ
 have K:(abq ρ k.zero).cells.size=k.size:=by
  have:(abq ρ k.zero).cells=(cellsV ρ k.zero).toArray:=qJq (by
   cases ha:k.agg with
   |true=>exact .inr Qx
   |false=>exact .inl (ok.zleaf ha))
  rw[this];simp[ok.zsize]
 have F:Builtin.nextslicecap (len+news.length) cap*f.bytes<=281474976710656:=growslice_fits S (by rw[R];exact hb);rw[<-E] at j T;have m:=run_append_grow_src w M I ty e f _ Y v J base len cap (zpq ρ f.size olds) j x news.length (zpq ρ f.size news) T S Xd F;rw[E] at m;have p:=grownCap_ge w (len+news.length) cap e;generalize grownCap w (len+news.length) cap e=gc at m p
 have hv:InD (DD D ρ) (.arr ((len+news.length)*k.size) k.size (olds++news)):=InDL_iff.2 λy hy=>by
  grind[InDL_iff]
 have b:cellsV ρ (.arr ((len+news.length)*k.size) k.size (olds++news))=zpq ρ k.size olds++zpq ρ k.size news:=by
  simp only[cellsV];rw[y2q (by rw[zEq];simp[q]),jkq]
 have N:(Builtin.zeroCells (abq ρ k.zero).cells (gc-(len+news.length))).toList.length=(gc-(len+news.length))*k.size:=by simp[Builtin.zeroCells,K]
 obtain⟨X,W⟩:=uuq (t:=e) (tail:=(Builtin.zeroCells (abq ρ k.zero).cells (gc-(len+news.length))).toList) (r.drawn (w.drawn+1)) hU hv
 have H:(V.arr ((len+news.length)*k.size) k.size (olds++news)).size+(Builtin.zeroCells (abq ρ k.zero).cells (gc-(len+news.length))).toList.length=gc*k.size:=by
  rw[N];show(len+news.length)*k.size+_=_;rw[<-ZQ];congr 1;omega
 have B:((zpq ρ k.size olds++zpq ρ k.size news)++(Builtin.zeroCells (abq ρ k.zero).cells (gc-(len+news.length))).toList).toArray=(zpq ρ k.size olds++zpq ρ k.size news).toArray++Builtin.zeroCells (abq ρ k.zero).cells (gc-(len+news.length)):=by
  apply Array.ext';simp
 obtain⟨s1,s2⟩:=bKq (D:=D) (ρ:=ρ) (w:=w) (h:=h) gc (len+news.length) k.size O p H;refine⟨_,_,_,_,m,s1.symm,?_,?_,s2⟩
 .rw[b,B] at X;exact X
 .rw[b,B] at W;exact W.undrew
end
end
end
end Go.Proofs.YtcoldbcijgmidaaGreatDoor

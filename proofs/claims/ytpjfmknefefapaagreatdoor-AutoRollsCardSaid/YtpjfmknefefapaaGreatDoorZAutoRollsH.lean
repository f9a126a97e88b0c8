/-
  What the proof of AutoRolls stands on, part 8. No condition.
-/
import Derived.Test.YtpjfmknefefapaaGreatDoorZAutoRollsG
set_option linter.unusedSimpArgs false
set_option linter.unusedVariables false
namespace Go.Proofs.YtpjfmknefefapaaGreatDoor
section
open Go.RowKit
noncomputable def kNum:IntKind->Nat
 |.i8=>0
 |.i16=>1
 |.i32=>2
 |.i64=>3
 |.u8=>4
 |.u16=>5
 |.u32=>6
 |.u64=>7
noncomputable def kEq(a b:IntKind):Bool:=Nat.beq (kNum a) (kNum b)
theorem kEq_eq(a b:IntKind):kEq a b=decide (a=b):=by cases a<;>cases b<;>rfl
noncomputable def addI(m n:Int):Int:=match m,n with
 |.ofNat a,.ofNat b=>.ofNat (Nat.add a b)
 |m,n=>m+n
theorem addI_eq(m n:Int):addI m n=m+n:=by cases m<;>cases n<;>rfl
noncomputable def subI(m n:Int):Int:=match m,n with
 |.ofNat a,.ofNat b=>Bool.rec (motive:=λ_=>Int) (.ofNat a- .ofNat b) (.ofNat (Nat.sub a b)) (Nat.ble b a)
 |m,n=>m-n
theorem subI_eq(m n:Int):subI m n=m-n:=by
 cases m with
 |negSucc=>rfl
 |ofNat a=>cases n with
  |negSucc=>rfl
  |ofNat b=>
   show Bool.rec (motive:=λ_=>Int) (Int.ofNat a-Int.ofNat b) (.ofNat (a-b)) (Nat.ble b a)=_;cases h:Nat.ble b a with
   |false=>rfl
   |true=>
    have:=Zb h;show Int.ofNat (a-b)=Int.ofNat a-Int.ofNat b;simp only[Int.ofNat_eq_natCast];omega
noncomputable def mulI(m n:Int):Int:=match m,n with
 |.ofNat a,.ofNat b=>.ofNat (Nat.mul a b)
 |m,n=>m*n
theorem mulI_eq(m n:Int):mulI m n=m*n:=by cases m<;>cases n<;>rfl
noncomputable def wI64(z:Int):Int:=match z with
 |.ofNat a=>Bool.rec (motive:=λ_=>Int) (qlq .i64 (.ofNat a)) (.ofNat a) (Nat.blt a 9223372036854775808)
 |.negSucc a=>Bool.rec (motive:=λ_=>Int) (qlq .i64 (.negSucc a)) (.negSucc a) (Nat.blt a 9223372036854775808)
noncomputable def wU64(z:Int):Int:=match z with
 |.ofNat a=>.ofNat (Nat.mod a 18446744073709551616)
 |.negSucc a=>qlq .u64 (.negSucc a)
noncomputable def wU32(z:Int):Int:=match z with
 |.ofNat a=>.ofNat (Nat.mod a 4294967296)
 |.negSucc a=>qlq .u32 (.negSucc a)
noncomputable def wU8(z:Int):Int:=match z with
 |.ofNat a=>.ofNat (Nat.mod a 256)
 |.negSucc a=>qlq .u8 (.negSucc a)
noncomputable def wrapR(k:IntKind):Int->Int:=match k with
 |.i8=>qlq .i8
 |.i16=>qlq .i16
 |.i32=>qlq .i32
 |.i64=>wI64
 |.u8=>wU8
 |.u16=>qlq .u16
 |.u32=>wU32
 |.u64=>wU64
theorem wrapR_eq(k:IntKind)(z:Int):wrapR k z=qlq k z:=by
 cases k<;>cases z<;>try rfl
 ·rename_i a;show Bool.rec (motive:=λ_=>Int) (qlq .i64 (.ofNat a)) (.ofNat a) (Nat.blt a 9223372036854775808)=_;cases h:Nat.blt a 9223372036854775808 with
  |false=>rfl
  |true=>unfold qlq;simp only[h]
 ·rename_i a;show Bool.rec (motive:=λ_=>Int) (qlq .i64 (.negSucc a)) (.negSucc a) (Nat.blt a 9223372036854775808)=_;cases h:Nat.blt a 9223372036854775808 with
  |false=>rfl
  |true=>unfold qlq;simp only[h]
noncomputable def bAdd(k:IntKind)(m n:Int):Option V:=some (.int k (wrapR k (addI m n)))
noncomputable def bSub(k:IntKind)(m n:Int):Option V:=some (.int k (wrapR k (subI m n)))
noncomputable def bMul(k:IntKind)(m n:Int):Option V:=some (.int k (wrapR k (mulI m n)))
noncomputable def bLss(_:IntKind)(m n:Int):Option V:=some (.bool (ltI m n))
noncomputable def bLeq(_:IntKind)(m n:Int):Option V:=some (.bool (!ltI n m))
noncomputable def bGtr(_:IntKind)(m n:Int):Option V:=some (.bool (ltI n m))
noncomputable def bGeq(_:IntKind)(m n:Int):Option V:=some (.bool (!ltI m n))
noncomputable def bEql(_:IntKind)(m n:Int):Option V:=some (.bool (eqI m n))
noncomputable def bNeq(_:IntKind)(m n:Int):Option V:=some (.bool (!eqI m n))
noncomputable def bOp(op:BinOp):IntKind->Int->Int->Option V:=match op with
 |.add=>bAdd
 |.sub=>bSub
 |.mul=>bMul
 |.quo=>binI .quo
 |.rem=>binI .rem
 |.and=>binI .and
 |.or=>binI .or
 |.xor=>binI .xor
 |.shl=>binI .shl
 |.shr=>binI .shr
 |.andNot=>binI .andNot
 |.eql=>bEql
 |.neq=>bNeq
 |.lss=>bLss
 |.leq=>bLeq
 |.gtr=>bGtr
 |.geq=>bGeq
theorem bOp_eq(op:BinOp)(k:IntKind)(m n:Int):bOp op k m n=binI op k m n:=by
 cases op<;>first|rfl|(simp only[bOp,bAdd,bSub,bMul,addI_eq,subI_eq,mulI_eq,wrapR_eq];rfl)
noncomputable def biShl(k:IntKind)(m:Int)(_:IntKind)(n:Int):Option V:=shI .shl k m n
noncomputable def biShr(k:IntKind)(m:Int)(_:IntKind)(n:Int):Option V:=shI .shr k m n
noncomputable def biOp(op:BinOp)(k:IntKind)(m:Int)(k':IntKind)(n:Int):Option V:=Bool.rec (motive:=λ_=>Option V) none (bOp op k m n) (kEq k k')
noncomputable def binInt(op:BinOp):IntKind->Int->IntKind->Int->Option V:=match op with
 |.shl=>biShl
 |.shr=>biShr
 |op=>biOp op
noncomputable def binY(C:Cfg)(op:BinOp)(t:TypeId)(k:IntKind)(m:Int)(y:V):Option V:=match y with
 |.int k' n=>binInt op k m k' n
 |y=>binV C op t (.int k m) y
noncomputable def binVF(C:Cfg)(op:BinOp)(t:TypeId)(x y:V):Option V:=match x with
 |.int k m=>binY C op t k m y
 |x=>binV C op t x y
theorem binVF_eq(C:Cfg)(op:BinOp)(t:TypeId)(x y:V):binVF C op t x y=binV C op t x y:=by
 cases x<;>try rfl
 rename_i k m;cases y<;>try rfl
 rename_i k' n;show binInt op k m k' n=binV C op t (.int k m) (.int k' n)
 have key:biOp op k m k' n=match decide (k=k') with
   |true=>binI op k m n
   |false=>none:=by
  unfold biOp;rw[kEq_eq,bOp_eq];cases decide (k=k')<;>rfl
 unfold binV;cases op<;>first|rfl|exact key
noncomputable def binNF(C:Cfg)(op:BinOp)(t:TypeId)(y:Operand)(u v:V):Option V:=match binVF C op t u v with
 |some r=>some r
 |none=>nilIB C op t y u v
noncomputable def xOq(C:Cfg)(op:BinOp)(t:TypeId)(x y:Operand)(fr:Tr V):Option V:=match evV C fr x with
 |some u=>match evV C fr y with
  |some v=>binNF C op t y u v
  |none=>none
 |none=>none
theorem ZIq(C:Cfg)(fr:Tr V)(op:BinOp)(t:TypeId)(x y:Operand):xOq C op t x y fr=yaq C fr op t x y:=by
 unfold xOq yaq binNF;cases evV C fr x with
 |none=>cases evV C fr y<;>rfl
 |some u=>cases evV C fr y with
  |none=>rfl
  |some v=>
   simp only[binVF_eq];cases binV C op t u v<;>rfl
noncomputable def evLF(C:Cfg)(fr:Tr V)(l:List Operand):Option (List V):=List.rec (motive:=λ_=>Option (List V)) (some []) (λx _ ih=>match evV C fr x with
 |some v=>match ih with
  |some r=>some (v::r)
  |none=>none
 |none=>none) l
theorem evLF_eq(C:Cfg)(fr:Tr V):∀l,evLF C fr l=evL C fr l
 |[]=>rfl
 |x::l=>by
  show(match evV C fr x with
   |some v=>match evLF C fr l with
    |some r=>some (v::r)
    |none=>none
   |none=>none)=_
  rw[evLF_eq C fr l];conv=>rhs;unfold evL
  cases evV C fr x<;>cases evL C fr l<;>rfl
noncomputable def optV(v:Option V)(h:Heap):Option (V×Heap):=match v with
 |some v=>some (v,h)
 |none=>none
noncomputable def callFn(S:Self)(C:Cfg)(f:FuncId)(vs:List V)(h:Heap):Option (V×Heap):=match C.ext f with
 |some e=>optV (e vs) h
 |none=>S.fn f vs h
noncomputable def callF(S:Self)(C:Cfg)(fr:Tr V)(h:Heap)(x:Operand)(xs:Array Operand):Option (V×Heap):=match evV C fr x with
 |some (.fn f a c)=>match evLF C fr xs.toList with
  |some vs=>callFn S C f (a++vs++c) h
  |none=>none
 |some (.yield l)=>match evLF C fr xs.toList with
  |some vs=>S.yield l vs h
  |none=>none
 |_=>none
theorem callF_eq(S:Self)(C:Cfg)(fr:Tr V)(h:Heap)(x:Operand)(xs:Array Operand)(ts:Array TypeId):callF S C fr h x xs=qLq S C fr h (.call ⟨.value x,xs,ts⟩):=by
 unfold callF qLq;rw[evLF_eq];dsimp only
 cases evV C fr x with
 |none=>cases evL C fr xs.toList<;>rfl
 |some v=>cases v<;>cases evL C fr xs.toList<;>rfl
abbrev OpK:=Self->Cfg->Tr V->Heap->TypeId->Option (V×Heap)
noncomputable def noK:OpK:=λ_ _ _ _ _=>none
noncomputable def Zzq(o:Op):OpK:=λS C fr h rt=>match z4q C fr rt o with
 |some v=>some (v,h)
 |none=>match opH C fr h o with
  |some r=>some r
  |none=>qLq S C fr h o
noncomputable def bltK(args:Array Operand)(ats:Array TypeId)(b:Builtin):OpK:=match b with
 |.len=>λ_ C fr h _=>match qeq C fr args ats with
  |some v=>some (v,h)
  |none=>z7q C fr h args ats
 |.clear=>λ_ C fr h _=>zyq C fr h args ats
 |.append=>λ_ C fr h _=>zCq C fr h args ats
 |.copy=>λ_ C fr h _=>yeq C fr h args ats
 |b=>Zzq (.call ⟨.builtin b,args,ats⟩)
noncomputable def calK(args:Array Operand)(ats:Array TypeId)(c:Callee):OpK:=match c with
 |.value x=>λS C fr h _=>callF S C fr h x args
 |.builtin b=>bltK args ats b
 |c=>Zzq (.call ⟨c,args,ats⟩)
noncomputable def callK(c:Call):OpK:=calK c.args c.argTypes c.callee
noncomputable def moveK(x:Operand):OpK:=λ_ C fr h _=>optV (evV C fr x) h
noncomputable def pickK(c a b:Operand):OpK:=λ_ C fr h _=>optV (yGq C fr c a b) h
noncomputable def unK(u:UnOp)(t:TypeId)(x:Operand):OpK:=match u with
 |.not=>λ_ C fr h _=>optV (zMq C fr x) h
 |u=>Zzq (.unOp u t x)
noncomputable def mkfK(f:Fn)(a c:Array Operand):OpK:=match f with
 |.func g=>λ_ C fr h _=>optV (zBq C fr g a c) h
 |f=>Zzq (.makeFunc f a c)
noncomputable def convK(s t:TypeId)(x:Operand):OpK:=λ_ C fr h _=>match zHq C fr s t x with
 |some v=>some (v,h)
 |none=>ztq C fr h s t x
noncomputable def sliceK(t:TypeId)(x:Operand)(lo hi mx:Option Operand):OpK:=λ_ C fr h _=>match z3q C fr t x lo hi mx with
 |some v=>some (v,h)
 |none=>zOq C fr h t x lo hi mx
noncomputable def opF(o:Op):OpK:=Op.rec (motive:=λ_=>OpK) moveK moveK pickK
 (λt _ C fr h _=>zTq C fr h t) (λt x _ C fr h _=>yWq C fr h t x)
 (λt ps _ C fr h _=>optV (yfq C fr t ps) h) (λt n ps _ C fr h _=>zhq C fr h t n ps)
 (λt x y z _ C fr h _=>zeq C fr h t x y z) (λt x _ C fr h _=>ybq C fr h t x) (λt x y _ C fr h _=>zSq C fr h t x y) (λ_=>noK) (λ_=>noK)
 (λx _ C fr h _=>optV (zDq C fr x) h) (λop t x y _ _ C fr h _=>optV (xOq C op t x y fr) h)
 unK convK (λ_ _=>noK) (λt x _ C fr h _=>optV (ziq C fr t x) h)
 mkfK (λt x _ C fr h _=>zsq C fr h t x) (λ_ _=>noK) (λt x y _ C fr h _=>zlq C fr h t x y)
 sliceK
 (λt x i _ C fr h _=>optV (zwq C fr t x i) h) (λt x i _ C fr h _=>optV (ydq C fr t x i) h) (λt x y _ C fr h _=>optV (zvq C fr t x y) h) (λt x y _ C fr h _=>optV (ycq C fr t x y) h)
 (λt x y ok _ C fr h _=>zAq C fr h t x y ok) (λt x y z _ C fr h _=>zeq C fr h t x y z) (λt x y _ C fr h _=>zmq C fr h t x y) (λ_ x y z _ C fr h _=>zdq C fr h x y z) (λ_ _=>noK) (λ_ _=>noK) (λ_=>noK) (λx _ t ok _ C fr h _=>optV (z1q C fr x t ok) h)
 (λx i _ C fr h _=>optV (zNq C fr x i) h) callK (λ_=>noK) (λ_=>noK) (λ_=>noK) (λ_ _=>noK) (λ_ _ _=>noK) (λ_ _=>noK) o
theorem some_h{r:Option (V×Heap)}:(match r with|some r=>some r|none=>none)=r:=by cases r<;>rfl
theorem joq(S:Self)(C:Cfg)(fr:Tr V)(h:Heap)(rt:TypeId)(o:Op):opF o S C fr h rt=Zzq o S C fr h rt:=by
 cases o<;>try rfl
 case alloc t=>exact some_h.symm
 case makeMap t x=>exact some_h.symm
 case lookup t x y ok=>exact some_h.symm
 case mapUpdate t x y z=>exact some_h.symm
 case insert t x y z=>exact some_h.symm
 case mapEntry t x y=>exact some_h.symm
 case entryStore t x y z=>exact some_h.symm
 case box t x=>exact some_h.symm
 case buildSlice t n ps=>exact some_h.symm
 case load t x=>exact some_h.symm
 case store t x y=>exact some_h.symm
 case binOp op t x y t'=>
  show optV (xOq C op t x y fr) h=_;rw[ZIq];rfl
 case makeSlice t x y=>exact some_h.symm
 case unOp u t x=>cases u<;>rfl
 case makeFunc f a c=>cases f<;>rfl
 case convert s t x=>
  show(match zHq C fr s t x with
   |some v=>some (v,h)
   |none=>ztq C fr h s t x)=(match zHq C fr s t x with
   |some v=>some (v,h)
   |none=>match ztq C fr h s t x with
    |some r=>some r
    |none=>none)
  cases zHq C fr s t x with
  |some v=>rfl
  |none=>exact some_h.symm
 case slice t x lo hi mx=>
  show(match z3q C fr t x lo hi mx with
   |some v=>some (v,h)
   |none=>zOq C fr h t x lo hi mx)=(match z3q C fr t x lo hi mx with
   |some v=>some (v,h)
   |none=>match zOq C fr h t x lo hi mx with
    |some r=>some r
    |none=>none)
  cases z3q C fr t x lo hi mx with
  |some v=>rfl
  |none=>exact some_h.symm
 case call c=>
  obtain⟨c,args,ats⟩:=c;cases c with
  |value x=>exact callF_eq S C fr h x args ats
  |invoke=>rfl
  |builtin b=>
   cases b<;>first
    |rfl
    |exact some_h.symm
    | (show _=(match qeq C fr args ats with
         |some v=>some (v,h)
         |none=>match z7q C fr h args ats with
          |some r=>some r
          |none=>none)
       cases hp:qeq C fr args ats with
       |some v=>simp only[opF,callK,calK,bltK,hp]
       |none=>simp only[opF,callK,calK,bltK,hp];exact some_h.symm)
noncomputable def opVF(S:Self)(C:Cfg)(fr:Tr V)(h:Heap)(o:Oper):Option (V×Heap):=opF o.op S C fr h o.type
theorem opVF_eq(S:Self)(C:Cfg)(fr:Tr V)(h:Heap)(o:Oper):opVF S C fr h o=opV S C fr h o:=joq S C fr h o.type o.op
abbrev FlK:=Self->Cfg->Tr V->Heap->TypeId->Option (V×Heap×Option Ev)
noncomputable def evHp(h h1:Heap):Ev:=Bool.rec (motive:=λ_=>Ev) .dirty .gen (Nat.ble h.next h1.wmin)
noncomputable def updE(v:Option V):Ev:=match v with
 |some (.sl b _ _ _ _ _)=>.upd b
 |_=>.dirty
noncomputable def appE(C:Cfg)(fr:Tr V)(xs:Array Operand)(h h1:Heap):Ev:=Bool.rec (motive:=λ_=>Ev) (match xs.toList with
 |[x,_]=>updE (evV C fr x)
 |_=>.dirty) .gen (Nat.ble h.next h1.wmin)
noncomputable def ptrE(f:Nat->Ev)(v:Option V):Ev:=match v with
 |some (.ptr b _)=>f b
 |_=>.dirty
noncomputable def optE(v:Option V)(h:Heap):Option (V×Heap×Option Ev):=match v with
 |some v=>some (v,h,none)
 |none=>none
noncomputable def memE(e:Heap->Ev)(h:Heap)(r:Option (V×Heap)):Option (V×Heap×Option Ev):=match r with
 |some (v,h1)=>some (v,⟨h1.next,minN h.wmin h1.wmin,h1.tr⟩,some (e h1))
 |none=>none
noncomputable def low(h:Heap):Heap:=⟨h.next,h.next,h.tr⟩
noncomputable def uLq(o:Op):FlK:=λS C fr h rt=>match z4q C fr rt o with
 |some v=>some (v,h,none)
 |none=>memE (λh1=>evOf C fr h h1 o) h (Zzq o S C fr (low h) rt)
noncomputable def pE(k:Cfg->Tr V->Option V):FlK:=λ_ C fr h _=>optE (k C fr) h
noncomputable def mE(k:OpK):FlK:=λS C fr h rt=>memE (evHp h) h (k S C fr (low h) rt)
noncomputable def bltE(args:Array Operand)(ats:Array TypeId)(b:Builtin):FlK:=match b with
 |.len=>λ_ C fr h _=>match qeq C fr args ats with
  |some v=>some (v,h,none)
  |none=>memE (evHp h) h (z7q C fr (low h) args ats)
 |.append=>λ_ C fr h _=>memE (appE C fr args h) h (zCq C fr (low h) args ats)
 |.copy=>mE λ_ C fr h _=>yeq C fr h args ats
 |.clear=>mE λ_ C fr h _=>zyq C fr h args ats
 |b=>uLq (.call ⟨.builtin b,args,ats⟩)
noncomputable def calE(args:Array Operand)(ats:Array TypeId)(c:Callee):FlK:=match c with
 |.value x=>mE λS C fr h _=>callF S C fr h x args
 |.builtin b=>bltE args ats b
 |c=>uLq (.call ⟨c,args,ats⟩)
noncomputable def callE(c:Call):FlK:=calE c.args c.argTypes c.callee
noncomputable def unE(u:UnOp)(t:TypeId)(x:Operand):FlK:=match u with
 |.not=>pE λC fr=>zMq C fr x
 |u=>uLq (.unOp u t x)
noncomputable def mkfE(f:Fn)(a c:Array Operand):FlK:=match f with
 |.func g=>pE λC fr=>zBq C fr g a c
 |f=>uLq (.makeFunc f a c)
noncomputable def noE:FlK:=λ_ _ _ _ _=>none
noncomputable def flF(o:Op):FlK:=Op.rec (motive:=λ_=>FlK) (λx=>pE λC fr=>evV C fr x) (λx=>pE λC fr=>evV C fr x) (λc a b=>pE λC fr=>yGq C fr c a b)
 (λt=>mE λ_ C fr h _=>zTq C fr h t) (λt x=>mE λ_ C fr h _=>yWq C fr h t x)
 (λt ps=>pE λC fr=>yfq C fr t ps) (λt n ps=>mE λ_ C fr h _=>zhq C fr h t n ps)
 (λt x y z=>mE λ_ C fr h _=>zeq C fr h t x y z) (λt x _ C fr h _=>memE (λ_=>ptrE .load (evV C fr x)) h (ybq C fr (low h) t x)) (λt x y _ C fr h _=>memE (λ_=>ptrE .store (evV C fr x)) h (zSq C fr (low h) t x y)) (λ_=>noE) (λ_=>noE)
 (λx=>pE λC fr=>zDq C fr x) (λop t x y _=>pE λC fr=>xOq C op t x y fr)
 unE (λs t x=>uLq (.convert s t x)) (λ_ _=>noE) (λt x=>pE λC fr=>ziq C fr t x)
 mkfE (λt x=>mE λ_ C fr h _=>zsq C fr h t x) (λ_ _=>noE) (λt x y=>mE λ_ C fr h _=>zlq C fr h t x y)
 (λt x lo hi mx=>uLq (.slice t x lo hi mx))
 (λt x i=>pE λC fr=>zwq C fr t x i) (λt x i=>pE λC fr=>ydq C fr t x i) (λt x y=>pE λC fr=>zvq C fr t x y) (λt x y=>pE λC fr=>ycq C fr t x y)
 (λt x y ok=>mE λ_ C fr h _=>zAq C fr h t x y ok) (λt x y z=>mE λ_ C fr h _=>zeq C fr h t x y z) (λt x y=>mE λ_ C fr h _=>zmq C fr h t x y) (λ_ x y z=>mE λ_ C fr h _=>zdq C fr h x y z) (λ_ _=>noE) (λ_ _=>noE) (λ_=>noE) (λx _ t ok=>pE λC fr=>z1q C fr x t ok)
 (λx i=>pE λC fr=>zNq C fr x i) callE (λ_=>noE) (λ_=>noE) (λ_=>noE) (λ_ _=>noE) (λ_ _ _=>noE) (λ_ _=>noE) o
theorem yYq{S:Self}{C:Cfg}{fr:Tr V}{h:Heap}{rt:TypeId}{o:Op}{k:Option V}(hp:z4q C fr rt o=k)(hh:opH C fr (low h) o=none)(hc:qLq S C fr (low h) o=none):optE k h=uLq o S C fr h rt:=by
 unfold uLq Zzq;rw[hp,hh,hc];cases k<;>rfl
theorem q0q(h h1:Heap):evHp h h1=match Nat.ble h.next h1.wmin with
  |true=>.gen
  |false=>.dirty:=by unfold evHp;cases Nat.ble h.next h1.wmin<;>rfl
theorem appE_eq(C:Cfg)(fr:Tr V)(xs:Array Operand)(ats:Array TypeId)(h h1:Heap):appE C fr xs h h1=evOf C fr h h1 (.call ⟨.builtin .append,xs,ats⟩):=by
 unfold appE evOf;cases Nat.ble h.next h1.wmin with
 |true=>rfl
 |false=>
  show(match xs.toList with
   |[x,_]=>updE (evV C fr x)
   |_=>.dirty)=(match xs.toList with
   |[x,_]=>match evV C fr x with
    |some (.sl b _ _ _ _ _)=>.upd b
    |_=>.dirty
   |_=>.dirty)
  rfl
theorem qyq{S:Self}{C:Cfg}{fr:Tr V}{h:Heap}{rt:TypeId}{o:Op}{k:Option (V×Heap)}{e:Heap->Ev}(hp:z4q C fr rt o=none)(hk:Zzq o S C fr (low h) rt=k)(he:∀h1,e h1=evOf C fr h h1 o):memE e h k=uLq o S C fr h rt:=by
 unfold uLq;rw[hp,hk,show e=λh1=>evOf C fr h h1 o from funext he]
theorem lenE_eq(S:Self)(C:Cfg)(fr:Tr V)(h:Heap)(rt:TypeId)(args:Array Operand)(ats:Array TypeId):bltE args ats .len S C fr h rt=uLq (.call ⟨.builtin .len,args,ats⟩) S C fr h rt:=by
 show(match qeq C fr args ats with
  |some v=>some (v,h,none)
  |none=>memE (evHp h) h (z7q C fr (low h) args ats))=_
 unfold uLq;rw[show z4q C fr rt (.call ⟨.builtin .len,args,ats⟩)=qeq C fr args ats from rfl];cases hp:qeq C fr args ats with
 |some v=>rfl
 |none=>
  have e:Zzq (.call ⟨.builtin .len,args,ats⟩) S C fr (low h) rt=z7q C fr (low h) args ats:=by
   unfold Zzq;rw[show z4q C fr rt (.call ⟨.builtin .len,args,ats⟩)=qeq C fr args ats from rfl,hp];exact some_h
  rw[e];show memE (evHp h) h _=memE (λh1=>evOf C fr h h1 (.call ⟨.builtin .len,args,ats⟩)) h _;rw[show evHp h=λh1=>evOf C fr h h1 (.call ⟨.builtin .len,args,ats⟩) from funext (q0q h)]
theorem flF_eq(S:Self)(C:Cfg)(fr:Tr V)(h:Heap)(rt:TypeId)(o:Op):flF o S C fr h rt=uLq o S C fr h rt:=by
 cases o with
 |move x=>exact yYq Z Z Z
 |assign x=>exact yYq Z Z Z
 |pick c a b=>exact yYq Z Z Z
 |alloc t=>exact qyq rfl (joq S C fr (low h) rt (.alloc t)).symm (q0q h)
 |box t x=>exact qyq rfl (joq S C fr (low h) rt (.box t x)).symm (q0q h)
 |build t ps=>exact yYq Z Z Z
 |buildSlice t n ps=>exact qyq rfl (joq S C fr (low h) rt (.buildSlice t n ps)).symm (q0q h)
 |load t x=>exact qyq rfl (joq S C fr (low h) rt (.load t x)).symm λ_=>rfl
 |store t x y=>exact qyq rfl (joq S C fr (low h) rt (.store t x y)).symm λ_=>rfl
 |nilCheck x=>exact yYq Z Z Z
 |makeMap t x=>exact qyq rfl (joq S C fr (low h) rt (.makeMap t x)).symm (q0q h)
 |lookup t x y ok=>exact qyq rfl (joq S C fr (low h) rt (.lookup t x y ok)).symm (q0q h)
 |mapUpdate t x y z=>exact qyq rfl (joq S C fr (low h) rt (.mapUpdate t x y z)).symm (q0q h)
 |insert t x y z=>exact qyq rfl (joq S C fr (low h) rt (.insert t x y z)).symm (q0q h)
 |mapEntry t x y=>exact qyq rfl (joq S C fr (low h) rt (.mapEntry t x y)).symm (q0q h)
 |entryStore t x y z=>exact qyq rfl (joq S C fr (low h) rt (.entryStore t x y z)).symm (q0q h)
 |binOp op t x y t'=>
  show optE (xOq C op t x y fr) h=_;rw[ZIq];exact yYq Z Z Z
 |unOp u t x=>cases u<;>first|rfl|exact yYq Z Z Z
 |makeInterface t x=>exact yYq Z Z Z
 |makeFunc f a c=>cases f<;>first|rfl|exact yYq Z Z Z
 |makeSlice t x y=>exact qyq rfl (joq S C fr (low h) rt (.makeSlice t x y)).symm (q0q h)
 |fieldAddr t x i=>exact yYq Z Z Z
 |field t x i=>exact yYq Z Z Z
 |indexAddr t x y=>exact yYq Z Z Z
 |index t x y=>exact yYq Z Z Z
 |extract x i=>exact yYq Z Z Z
 |typeAssert x xt t ok=>exact yYq Z Z Z
 |call c=>
  obtain⟨c,args,ats⟩:=c;cases c with
  |value x=>exact qyq rfl (joq S C fr (low h) rt (.call ⟨.value x,args,ats⟩)).symm (q0q h)
  |invoke=>rfl
  |builtin b=>
   cases b<;>first
    |rfl
    |exact yYq Z Z Z
    |exact qyq rfl (joq S C fr (low h) rt (.call ⟨.builtin .append,args,ats⟩)).symm (appE_eq C fr args ats h)
    |exact qyq rfl (joq S C fr (low h) rt (.call ⟨.builtin .copy,args,ats⟩)).symm (q0q h)
    |exact qyq rfl (joq S C fr (low h) rt (.call ⟨.builtin .clear,args,ats⟩)).symm (q0q h)
    |exact lenE_eq S C fr h rt args ats
 |_=>rfl
noncomputable def stepFF(S:Self)(C:Cfg)(fr:Tr V)(h:Heap)(o:Oper):Option (V×Heap×Option Ev):=flF o.op S C fr h o.type
theorem stepFF_eq(S:Self)(C:Cfg)(fr:Tr V)(h:Heap)(o:Oper):stepFF S C fr h o=v4q S C fr h o:=by
 unfold stepFF;rw[flF_eq];unfold uLq v4q;rw[show Zzq o.op S C fr (low h) o.type=opV S C fr {h with wmin:=h.next} o from rfl];cases z4q C fr o.type o.op with
 |some v=>rfl
 |none=>cases opV S C fr {h with wmin:=h.next} o<;>rfl
section
variable (S:Self) (F:Flow) (C:Cfg) (ops:Array Oper)
noncomputable def opsStep(o:Oper)(k:Tr V->Heap->Option (Tr V×Heap))(fr:Tr V)(h:Heap):Option (Tr V×Heap):=match vmq ops fr o with
 |some true=>match opVF S C fr h o with
  |some (v,h')=>k (putT fr o.dst v) h'
  |none=>none
 |some false=>k (putT fr o.dst .undef) h
 |none=>none
noncomputable def Jkq(l:List Oper):Tr V->Heap->Option (Tr V×Heap):=List.rec (motive:=λ_=>Tr V->Heap->Option (Tr V×Heap)) (λfr h=>some (fr,h)) (λo _ ih=>opsStep S C ops o ih) l
theorem Ybq:∀l,Jkq S C ops l=qqq S C ops l
 |[]=>rfl
 |o::l=>by
  show opsStep S C ops o (Jkq S C ops l)=_;rw[Ybq l];funext fr h
  unfold opsStep;rw[opVF_eq];conv=>rhs;unfold qqq
  all_goals rfl
noncomputable def Jfq(o:Oper)(k:Nat->List (Nat×Ev) ->Tr V->Heap->Option (Tr V×Heap))(i:Nat)(es:List (Nat×Ev))(fr:Tr V)(h:Heap):Option (Tr V×Heap):=match vmq ops fr o with
 |some true=>match stepFF S C fr h o with
  |some (v,h1,some x)=>match evsOK ops i x es with
   |true=>k (i+1) ((i,x)::es) (putT fr o.dst v) h1
   |false=>none
  |some (v,h1,none)=>k (i+1) es (putT fr o.dst v) h1
  |none=>none
 |some false=>k (i+1) es (putT fr o.dst .undef) h
 |none=>none
noncomputable def Ycq(l:List Oper):Nat->List (Nat×Ev) ->Tr V->Heap->Option (Tr V×Heap):=List.rec (motive:=λ_=>Nat->List (Nat×Ev) ->Tr V->Heap->Option (Tr V×Heap)) (λ_ _ fr h=>some (fr,h)) (λo _ ih=>Jfq S C ops o ih) l
theorem vYq:∀l,Ycq S C ops l=yqq S C ops l
 |[]=>rfl
 |o::l=>by
  show Jfq S C ops o (Ycq S C ops l)=_;rw[vYq l];funext i es fr h
  unfold Jfq;simp only[stepFF_eq];conv=>rhs;unfold yqq
  all_goals rfl
noncomputable def cRegion(ops:Array Oper)(dr:Bool)(st:St):Option (Exit×St):=match (match dr with
  |true=>Ycq S C ops ops.toList 0 [] st.fr st.h
  |false=>Jkq S C ops ops.toList st.fr st.h) with
 |some (fr,h)=>some (.normal,⟨fr,h,st.ds,st.rd⟩)
 |none=>none
noncomputable def cSeq(f g:St->Option (Exit×St))(st:St):Option (Exit×St):=match f st with
 |some (.normal,st')=>g st'
 |r=>r
noncomputable def cCond(c:Operand)(f g:St->Option (Exit×St))(st:St):Option (Exit×St):=match evV C st.fr c with
 |some (.bool true)=>f st
 |some (.bool false)=>g st
 |_=>none
noncomputable def cBlock(id:Nat)(f:St->Option (Exit×St))(st:St):Option (Exit×St):=match f st with
 |some (.exit id',st')=>match Nat.beq id' id with
  |true=>some (.normal,st')
  |false=>some (.exit id',st')
 |r=>r
noncomputable def cRange(g:Operand)(ps:Array Tmp)(asg bd:Code)(st:St):Option (Exit×St):=match st.rd,evV C st.fr g with
 |false,some (.fn gf [] c)=>match S.fn gf ([.yield (st.h.next+1)]++c) ((st.h.push (.dfr false)).push (.loop .ready none st.fr ps asg bd st.h.next)) with
  |some (_,h)=>jFq st st.h.next (st.h.next+1) h
  |none=>none
 |_,_=>none
noncomputable def cScope(x:Code)(f:St->Option (Exit×St))(st:St):Option (Exit×St):=match f st with
 |some (.goto l,st')=>F.scope x l st'
 |r=>r
noncomputable def yxq(c:Code):St->Option (Exit×St):=Code.rec (motive:=λ_=>St->Option (Exit×St)) (λst=>some (.normal,st)) (λ_ ops dr=>cRegion S C ops dr) (λ_ _ f g=>cSeq f g) (λc _ _ f g=>cCond C c f g) (λid _ f=>cBlock id f) (λx _=>F.loop x)
 (λg ps asg bd _ _=>cRange S C g ps asg bd) (λid st=>some (.exit id,st)) (λx f=>cScope F x f) (λ_ st=>some (.normal,st)) (λl st=>some (.goto l,st)) (λst=>some (.ret,st)) (λ_ _=>none) c
theorem yhq:∀c,yxq S F C c=zaq S F C c
 |.skip=>by funext st;unfold zaq;rfl
 |.region _ ops dr=>by
  funext st
  show cRegion S C ops dr st=_;unfold cRegion zaq;simp only[vYq,Ybq];rfl
 |.seq x y=>by
  funext st
  show cSeq (yxq S F C x) (yxq S F C y) st=_;rw[yhq x,yhq y];unfold cSeq;conv=>rhs;unfold zaq
  all_goals rfl
 |.cond c x y=>by
  funext st
  show cCond C c (yxq S F C x) (yxq S F C y) st=_;rw[yhq x,yhq y];unfold cCond;conv=>rhs;unfold zaq
  all_goals rfl
 |.block id x=>by
  funext st
  show cBlock id (yxq S F C x) st=_;rw[yhq x];unfold cBlock;conv=>rhs;unfold zaq
  all_goals rfl
 |.loop x=>by funext st;unfold zaq;rfl
 |.rangeFunc g ps asg bd=>by
  funext st
  show cRange S C g ps asg bd st=_;unfold cRange zaq;rfl
 |.exit id=>by funext st;unfold zaq;rfl
 |.scope x=>by
  funext st
  show cScope F x (yxq S F C x) st=_;rw[yhq x];unfold cScope;conv=>rhs;unfold zaq
  all_goals rfl
 |.label _=>by funext st;unfold zaq;rfl
 |.goto _=>by funext st;unfold zaq;rfl
 |.ret=>by funext st;unfold zaq;rfl
 |.refuse _=>by funext st;unfold zaq;rfl
end
structure Four where
 fn:FuncId->List V->Heap->Option (V×Heap)
 yield:Nat->List V->Heap->Option (V×Heap)
 loop:Code->St->Option (Exit×St)
 scope:Code->Nat->St->Option (Exit×St)
section
variable (C:Cfg) (r:Four)
noncomputable def stepFn(f:FuncId)(vs:List V)(h:Heap):Option (V×Heap):=match C.known f with
 |some k=>k vs h
 |none=>match C.fn f with
  |none=>none
  |some fn=>match fn.body,Nat.ble vs.length fn.ntmps with
   |some c,true=>match yxq ⟨r.fn,r.yield⟩ ⟨r.loop,r.scope⟩ C c ⟨xgq 0 vs .nil,h,[],false⟩ with
    |some (.normal,st)=>finV C fn st
    |some (.ret,st)=>finV C fn st
    |_=>none
   |_,_=>none
noncomputable def Zxq(l:Nat)(vs:List V)(h:Heap):Option (V×Heap):=match h.get l with
 |some (.loop .ready none fr ps asg bd d)=>match Nat.beq vs.length ps.size with
  |false=>none
  |true=>match yxq ⟨r.fn,r.yield⟩ ⟨r.loop,r.scope⟩ C asg ⟨YEq fr ps.toList vs,h,[],true⟩ with
   |some (.normal,st1)=>match st1.h.get l with
    |some (.loop .ready none fr1 ps1 asg1 bd1 d1)=>match yxq ⟨r.fn,r.yield⟩ ⟨r.loop,r.scope⟩ C bd ⟨st1.fr,st1.h.put l (.loop .busy none fr1 ps1 asg1 bd1 d1),st1.ds,st1.rd⟩ with
     |some (x,st2)=>match st2.h.get l with
      |some (.loop .busy none fr2 ps2 asg2 bd2 d2)=>match x with
       |.normal=>some (.bool true,st2.h.put l (.loop .ready none fr2 ps2 asg2 bd2 d2))
       |.ret=>some (.bool false,st2.h.put l (.loop .done (some .ret) fr2 ps2 asg2 bd2 d2))
       |.exit id=>some (.bool false,st2.h.put l (.loop .done (some (.exit id)) fr2 ps2 asg2 bd2 d2))
       |.goto id=>some (.bool false,st2.h.put l (.loop .done (some (.goto id)) fr2 ps2 asg2 bd2 d2))
       |_=>none
      |_=>none
     |none=>none
    |_=>none
   |_=>none
 |_=>none
noncomputable def QJq(c:Code)(st:St):Option (Exit×St):=match yxq ⟨r.fn,r.yield⟩ ⟨r.loop,r.scope⟩ C c st with
 |some (.normal,st')=>r.loop c st'
 |x=>x
noncomputable def Zyq(c:Code)(l:Nat)(st:St):Option (Exit×St):=match findLabel c l with
 |some rest=>match yxq ⟨r.fn,r.yield⟩ ⟨r.loop,r.scope⟩ C rest st with
  |some (.goto l',st')=>r.scope c l' st'
  |x=>x
 |none=>none
noncomputable def four(n:Nat):Four:=Nat.rec (motive:=λ_=>Four) ⟨λ_ _ _=>none,λ_ _ _=>none,λ_ _=>none,λ_ _ _=>none⟩ (λ_ r=>⟨stepFn C r,Zxq C r,QJq C r,Zyq C r⟩) n
theorem Jdq:∀n,four C n=⟨yJq C n,zEq C n,z0q C n,zKq C n⟩
 |0=>by
  show(⟨λ_ _ _=>none,λ_ _ _=>none,λ_ _=>none,λ_ _ _=>none⟩:Four)=_;congr 1
 |n+1=>by
  show(⟨stepFn C (four C n),Zxq C (four C n),QJq C (four C n),Zyq C (four C n)⟩:Four)=_;rw[Jdq n];congr 1
  ·funext f vs h
   unfold stepFn;simp only[yhq];conv=>rhs;unfold yJq
   all_goals rfl
  ·funext l vs h
   unfold Zxq;simp only[yhq];conv=>rhs;unfold zEq
   all_goals rfl
  ·funext c st
   unfold QJq;simp only[yhq];conv=>rhs;unfold z0q
   all_goals rfl
  ·funext c l st
   unfold Zyq;simp only[yhq];conv=>rhs;unfold zKq
   all_goals rfl
end
noncomputable def Qfq:Code->Option (Tmp×FuncId×List Operand)
 |.region _ ops false=>match ops.toList with
  |[⟨some t,.makeFunc (.func g) first caps,_,_,_,none⟩,⟨none,.defer ⟨.value (.tmp u),args,_⟩,_,_,_,none⟩]=>match Nat.beq t u,first.toList,args.toList with
   |true,[],[]=>some (t,g,caps.toList)
   |_,_,_=>none
  |_=>none
 |_=>none
theorem dferOf_spec{c:Code}{t:Tmp}{g:FuncId}{caps:List Operand}(h:Qfq c=some (t,g,caps)):∃id ty1 p1 a1 ats ty2 p2 a2,c= .region id #[⟨some t,.makeFunc (.func g) #[] caps.toArray,ty1,p1,a1,none⟩,⟨none,.defer ⟨.value (.tmp t), #[],ats⟩,ty2,p2,a2,none⟩] false:=by
 unfold Qfq at h;split at h
 ·rename_i id ops;split at h
  ·rename_i t' g' first caps' ty1 p1 a1 u args ats ty2 p2 a2 hops;split at h
   ·rename_i htu hf ha;cases h;have htu:=Nat.eq_of_beq_eq_true htu;subst htu;have hf:first= #[]:=by apply Array.toList_inj.1;simpa using hf
    have ha:args= #[]:=by apply Array.toList_inj.1;simpa using ha
    subst hf;subst ha
    refine⟨id,ty1,p1,a1,ats,ty2,p2,a2,?_⟩
    have:ops= #[⟨some t,.makeFunc (.func g) #[] caps',ty1,p1,a1,none⟩,⟨none,.defer ⟨.value (.tmp t), #[],ats⟩,ty2,p2,a2,none⟩]:=by
     apply Array.toList_inj.1;simpa using hops
    rw[this]
   ·cases h
  ·cases h
 ·cases h
noncomputable def preD(S:Self)(F:Flow)(C:Cfg):Code->St->Option ((Exit×St)×Option (FuncId×List V))
 |.seq x y,st=>match Qfq x with
  |some (t,g,caps)=>match st.ds,evL C st.fr caps with
   |[],some vs=>match zaq S F C y ⟨putT st.fr (some t) (.fn g [] vs),st.h,[],st.rd⟩ with
    |some r=>some (r,some (g,vs))
    |none=>none
   |_,_=>none
  |none=>match zaq S F C x st with
   |some (.normal,st')=>preD S F C y st'
   |some r=>some (r,none)
   |none=>none
 |c,st=>match zaq S F C c st with
  |some r=>some (r,none)
  |none=>none
noncomputable def Jqq(N:Nat):Code->Bool
 |.seq x y=>match Qfq x with
  |some (t,_,_)=>Nat.blt t N&&yoq N y
  |none=>yoq N x&&Jqq N y
 |c=>yoq N c
noncomputable def dTl(ρ:Env):Option (FuncId×List V) ->List Deferred
 |none=>[]
 |some (g,vs)=>[{target:=.fn (.func g) (zIq ρ vs).toArray,args:= #[]}]
noncomputable def dIn(D:Nat->Nat->Prop):Option (FuncId×List V) ->Prop
 |none=>True
 |some (_,vs)=>InDL D vs
noncomputable def resD(C:Cfg)(fn:Func)(fr:Tr V)(h:Heap):Option (V×Heap):=match resL C fr h fn.results.toList with
 |some [v]=>some (v,h)
 |some vs=>some (.tup vs,h)
 |none=>none
noncomputable def closD(C:Cfg)(n:Nat)(g:FuncId)(ws:List V)(h:Heap):Option Heap:=match C.fn g with
 |some fg=>match fg.body,fg.results.toList,Nat.ble ws.length fg.ntmps with
  |some cg,[],true=>match zaq ⟨yJq C n,zEq C n⟩ ⟨z0q C n,zKq C n⟩ C cg ⟨xgq 0 ws .nil,h,[],false⟩ with
   |some (.normal,s2)=>match s2.ds with
    |[]=>some s2.h
    |_=>none
   |some (.ret,s2)=>match s2.ds with
    |[]=>some s2.h
    |_=>none
   |_=>none
  |_,_,_=>none
 |none=>none
noncomputable def endD(C:Cfg)(n:Nat)(fn:Func)(st:St):Option (FuncId×List V) ->Option (V×Heap)
 |none=>finV C fn st
 |some (g,ws)=>match qJq st.ds st.h with
  |some h1=>match closD C n g ws h1 with
   |some h2=>resD C fn st.fr h2
   |none=>none
  |none=>none
noncomputable def runD(C:Cfg)(n:Nat)(fn:Func)(c:Code)(vs:List V)(h:Heap):Option (V×Heap):=match Nat.ble vs.length fn.ntmps,preD ⟨yJq C n,zEq C n⟩ ⟨z0q C n,zKq C n⟩ C c ⟨xgq 0 vs .nil,h,[],false⟩ with
 |true,some ((.normal,st),d)=>endD C n fn st d
 |true,some ((.ret,st),d)=>endD C n fn st d
 |_,_=>none
section
variable {P:Program} {C:Cfg} {s0:World} {U:Nat} {D:Nat->Prop} {ρ:Env} {fr:Tr V} {a:Act} {w:World} {h:Heap}
theorem vTq{fn:Func}{tmps:Array Value}{R:Ending->World->Prop}{tl:List Deferred}:∀(ds:List Nat) (h h1:Heap) (w:World),qJq ds h=some h1->h1.next<=U->Rel s0 U D ρ h w->(∀d∈ds,D d) ->
  (∀w',Rel s0 U D ρ h1 w'->Nxt D ρ h w D ρ h1 w'->LeavesInM Fence.wide 0 P fn tmps R tl .returning w') ->LeavesInM Fence.wide 0 P fn tmps R (ds.map (mkD ρ)++tl) .returning w
 |[],h,h1,w,e,_,rel,_,k=>by
  simp only[qJq,Option.some.injEq] at e;subst e;exact k w rel (Nxt.refl _ _ _ _)
 |d::ds,h,h1,w,e,hU,rel,hd,k=>by
  simp only[qJq] at e;split at e
  ·rename_i hg;have hD:=hd d Xl;obtain⟨o,q1,q2⟩:=rel.has d _ hD hg;have q2:o= .deferred (some []):=q2;subst q2;refine⟨by simp,.inl ⟨ρ.b d,_,rfl,run_takeDeferred q1,?_⟩⟩;have ht:=y6q (w:=w) (b:=ρ.b d) (.deferred none) (Array.getElem?_eq_some_iff.1 q1).1;obtain⟨r2,n2⟩:=rel.put (b':=.dfr true) hD hg Z Z ht rfl trivial;have hU2:=Nat.le_trans (jkq ds _ _ e).nxt hU;exact vTq ds _ h1 _ e hU r2 (λx hx=>hd x (by simp[hx])) λw' r3 n3=>k w' r3 (n2.trans rel.lt hU n3)
  ·cases e
theorem defer_region(hC:CfgOK P C)(g:FrE C D ρ fr a){id:Nat}{t:Tmp}{f:FuncId}{caps:Array Operand}{ty1 ty2:TypeId}{p1 p2:String}{a1 a2:Array Edge}{ats:Array TypeId}{vs:List V}(ht:t<a.tmps.size)(hv:evL C fr caps.toList=some vs){Q:Exit->Act->World->Prop}
  (k:Q .normal (({a.put (some t) (conc ρ (.fn f [] vs)) with defers:={target:=.fn (.func f) (zIq ρ vs).toArray,args:= #[]}::a.defers}:Act).put none undef) w):
  (Code.region id #[⟨some t,.makeFunc (.func f) #[] caps,ty1,p1,a1,none⟩,⟨none,.defer ⟨.value (.tmp t), #[],ats⟩,ty2,p2,a2,none⟩] false).wpIn (FF none) 0 P Q a w:=by
 have hp:z4q C fr ty1 (.makeFunc (.func f) #[] caps)=some (.fn f [] vs):=by simp[z4q,zBq,evL,hv]
 obtain⟨h1,h2⟩:=YWq hC g (o:=⟨some t,.makeFunc (.func f) #[] caps,ty1,p1,a1,none⟩) hp w;have g1:FrE C D ρ (putT fr (some t) (.fn f [] vs)) (a.put (some t) (conc ρ (.fn f [] vs))):=g.put (by simpa[Yhq] using ht) h2;have hev:=(g1.ev (x:=.tmp t) (v:=.fn f [] vs) (by simp[evV,putT,Tr.get_set])).1;refine wpIn_region_list ?_;show wpListIn _ _ _ _ _ [_,_] a w;unfold wpListIn;rw[show Region.wanted _ _=true from rfl,if_pos rfl];refine Zgq rfl (.inl h1) ?_;unfold wpListIn;rw[show Region.wanted _ _=true from rfl,if_pos rfl];refine⟨λf _=>YMq none f,?_⟩
 have hr:((⟨none,.defer ⟨.value (.tmp t), #[],ats⟩,ty2,p2,a2,none⟩:Oper).semAt (FF none).round (a.put (some t) (conc ρ (.fn f [] vs))).eval).run P w= .ok (.defer {target:=.fn (.func f) (zIq ρ vs).toArray,args:= #[]}) w:=by
  show(Oper.semAt none _ _).run P w=_;rw[Oper.semAt_none];simp only[execOp,resolve,hev];simp[conc,zIq,Deferred.ofValue]
 rw[hr,Oper.uponIn_defer];unfold wpListIn;exact k
theorem preD_sound(hmx:P.follows .mixedOrders=true)(hC:CfgOK P C){n:Nat}(ih:RunOK P C n){N:Nat}:∀c:Code,Jqq N c=true->∀st r d,preD ⟨yJq C n,zEq C n⟩ ⟨z0q C n,zKq C n⟩ C c st=some (r,d) ->
  Mono st.h r.2.h/\∀s0 U D ρ a w Q,r.2.h.next<=U->StR C s0 U N none [] D ρ st a w->
   (∀D' ρ' a' w',StR C s0 U N none (dTl ρ' d) D' ρ' r.2 a' w'->Nxt D ρ st.h w D' ρ' r.2.h w'->dIn (DD D' ρ') d->Q r.1 a' w') ->c.wpIn (FF none) 0 P Q a w:=by
 have plain:∀c:Code,yoq N c=true->∀st r d,(match zaq ⟨yJq C n,zEq C n⟩ ⟨z0q C n,zKq C n⟩ C c st with
   |some r=>some (r,none)
   |none=>none)=some (r,d) ->Mono st.h r.2.h/\∀s0 U D ρ a w Q,r.2.h.next<=U->StR C s0 U N none [] D ρ st a w->
   (∀D' ρ' a' w',StR C s0 U N none (dTl ρ' d) D' ρ' r.2 a' w'->Nxt D ρ st.h w D' ρ' r.2.h w'->dIn (DD D' ρ') d->Q r.1 a' w') ->c.wpIn (FF none) 0 P Q a w:=λc hok st r d he=>by
  split at he
  ·rename_i r' h1;cases he;obtain⟨x,st'⟩:=r;obtain⟨m1,k1⟩:=jiq hmx hC ih hok _ _ _ h1;exact⟨m1,λs0 U D ρ a w Q hU g k=>k1 s0 U none [] D ρ a w Q hU g λD' ρ' a' w' g' n'=>k D' ρ' a' w' g' n' trivial⟩
  ·cases he
 intro c;induction c with
 |seq x y _ ihy=>
  intro hok st r d he;simp only[Jqq] at hok;simp only[preD] at he;cases hd:Qfq x with
  |some p=>
   obtain⟨t,f,caps⟩:=p;rw[hd] at he hok;simp only[Bool.and_eq_true] at hok he;have htN:t<N:=by simpa using hok.1
   obtain⟨id,ty1,p1,a1,ats,ty2,p2,a2,rfl⟩:=dferOf_spec hd;split at he
   ·rename_i vs hds hv;split at he
    ·rename_i r' h1;cases he;obtain⟨x,st'⟩:=r;obtain⟨m1,k1⟩:=jiq hmx hC ih hok.2 _ _ _ h1;refine⟨m1,λs0 U D ρ a w Q hU g k=>wpIn_seq (defer_region hC g.fr (by rw[g.size];exact htN) (by simpa using hv) ?_)⟩;have hin:InDL (DD D ρ) vs:=(g.fr.evs hv).2;have hdst:Yhq a.tmps.size (some t)=true:=by rw[g.size];simpa[Yhq] using htN
     have gp:=g.fr.put (d:=some t) (v:=.fn f [] vs) hdst ⟨trivial,hin⟩;have hdf:a.defers=[]:=by have:=g.defs;rw[hds] at this;simpa using this
     refine k1 s0 U none (dTl ρ (some (f,vs))) D ρ _ w Q hU ⟨⟨⟨gp.at_,gp.in_,gp.gl⟩⟩,g.rel,?_,?_,(λd hd=>by cases hd),g.rd⟩ λD' ρ' a' w' g' n'=>?_
     ·simp[Act.put,g.size]
     ·simp[Act.put,dTl,hdf]
     ·have hag:=n'.agree g.rel.lt hU;have e:dTl ρ' (some (f,vs))=dTl ρ (some (f,vs)):=by simp only[dTl,y8q hag hin]
      refine k D' ρ' a' w' (by rw[e];exact g') n' (hin.mono (n'.dd g.rel.lt hU))
    ·cases he
   ·cases he
  |none=>
   rw[hd] at he hok;simp only[Bool.and_eq_true] at hok he;split at he
   ·rename_i st1 h1;obtain⟨m1,k1⟩:=jiq hmx hC ih hok.1 _ _ _ h1;obtain⟨m2,k2⟩:=ihy hok.2 _ _ _ he;refine⟨m1.trans m2,λs0 U D ρ a w Q hU g k=>wpIn_seq (k1 s0 U none [] D ρ a w _ (Nat.le_trans m2.nxt hU) g λD1 ρ1 a1 w1 g1 n1=>?_)⟩;exact k2 s0 U D1 ρ1 a1 w1 Q hU g1 λD2 ρ2 a2 w2 g2 n2 hi=>k D2 ρ2 a2 w2 g2 (n1.trans g.rel.lt hU n2) hi
   ·rename_i r' hne h1;cases he;obtain⟨e,st'⟩:=r;obtain⟨m1,k1⟩:=jiq hmx hC ih hok.1 _ _ _ h1;refine⟨m1,λs0 U D ρ a w Q hU g k=>wpIn_seq (k1 s0 U none [] D ρ a w _ hU g λD1 ρ1 a1 w1 g1 n1=>?_)⟩;have:=k D1 ρ1 a1 w1 g1 n1 trivial;cases e<;>first|exact this|exact absurd rfl (hne _)
   ·cases he
 |_=>exact λhok st r d he=>plain _ hok st r d he
theorem resD_spec(hC:CfgOK P C){fn:Func}{v:V}{h h':Heap}(hr:resD C fn fr h=some (v,h'))(g:FrE C D ρ fr a)(rel:Rel s0 U D ρ h w):h'=h/\∃x,(results fn a.tmps).run P w= .ok x w/\x=conc ρ v/\InD (DD D ρ) v:=by
 unfold resD at hr;split at hr
 ·rename_i u hu;cases hr;obtain⟨q1,q2⟩:=xlq hC g rel _ _ hu
  have hrl:∃rv,fn.results.toList=[rv]:=by
   cases hl:fn.results.toList with
   |nil=>rw[hl] at q1;exact q1.elim
   |cons rv l=>cases l with
    |nil=>exact⟨rv,rfl⟩
    |cons _ _=>rw[hl] at q1;exact q1.2.elim
  obtain⟨rv,hrv⟩:=hrl;rw[hrv] at q1;exact⟨rfl,_,results1 (by apply Array.toList_inj.1;simpa using hrv) q1.1,rfl,q2.1⟩
 ·rename_i us hne hu;cases hr;obtain⟨q1,q2⟩:=xlq hC g rel _ _ hu;refine⟨rfl,_,resultsN (rvs:=fn.results.toList) Xl (λe=>?_) q1,by simp[conc],q2⟩;rw[y4q] at e;cases us with
  |nil=>cases e
  |cons u us=>cases us with
   |nil=>exact hne _ rfl
   |cons _ _=>cases e
 ·cases hr
theorem known_defer(hmx:P.follows .mixedOrders=true)(hC:CfgOK P C)(hF:vMq P C)(hK:jeq P C){n:Nat}{f:FuncId}{fn:Func}{c:Code}(hf:P.funcs[f]? =some fn)(hb:fn.body=some c)(hent:∀args w,(callFunc f args).run P w= .ok (.enter f args) w)(hok:Jqq fn.ntmps c=true):
  xbq P C f (runD C n fn c):=λvs h v h' he=>by
 have ih:=run_ok hmx hC hF hK n;unfold runD at he
 have key :∀x st d,(x= .normal\/x= .ret) ->Nat.ble vs.length fn.ntmps=true->preD ⟨yJq C n,zEq C n⟩ ⟨z0q C n,zKq C n⟩ C c ⟨xgq 0 vs .nil,h,[],false⟩=some ((x,st),d) ->endD C n fn st d=some (v,h') ->
   Mono h h'/\∀s0 U D ρ w,h'.next<=U->GlobOK C (DD D ρ) ρ->InDL (DD D ρ) vs->Rel s0 U D ρ h w->Calls P f (zIq ρ vs).toArray w (kCq s0 U D ρ h w v h'):=λx st d hx hle h1 h2=>by
  have hle:=Zb hle;obtain⟨m1,k1⟩:=preD_sound hmx hC ih c hok _ _ _ h1
  have harg:∀(vs:List V) (m:Nat) (D:Nat->Prop) (ρ:Env),InDL (DD D ρ) vs->vs.length<=m->∀t u,(xgq 0 vs .nil).get t=some u->((zIq ρ vs).toArray++Array.replicate (m-(zIq ρ vs).toArray.size) undef)[t]? =some (conc ρ u)/\InD (DD D ρ) u:=λvs m D ρ hin hle t u hu=>by
   rw[vhq] at hu;split at hu
   ·rename_i hlt;simp only[Nat.sub_zero,Nat.zero_add] at hu hlt;refine⟨?_,InDL.at_ hin hu⟩;rw[Array.getElem?_append_left (by simp[y4q];exact hlt.2),kgq];simp[hu]
   ·simp[Tr.get_nil] at hu
  have hsz:∀(vs:List V) (m:Nat) (ρ:Env),vs.length<=m->((zIq ρ vs).toArray++Array.replicate (m-(zIq ρ vs).toArray.size) undef).size=m:=λvs m ρ hle=>by
   simp only[Array.size_append,Array.size_replicate,List.size_toArray,y4q];omega
  cases d with
  |none=>
   have m2:=u5q h2;refine⟨m1.trans m2,λs0 U D ρ w hU gl hin rel=>?_⟩;refine callsIn_wide.1 (callsIn_of_wp_marks (F:=Fence.wide) (n:=0) hf hb trivial ?_);refine k1 s0 U D ρ _ w _ (Nat.le_trans m2.nxt hU) ⟨⟨⟨λt u hu=>(harg vs _ D ρ hin hle t u hu).1,λt u hu=>(harg vs _ D ρ hin hle t u hu).2,gl⟩⟩,rel,hsz _ _ _ hle,rfl,(λd hd=>by cases hd),rfl⟩ λD1 ρ1 a1 w1 g1 n1 _=>?_
   have fin:=fin_sound (P:=P) hC h2 hU g1 (R:=kCq s0 U D ρ h w v h') λw' r' n' i'=>⟨D1,ρ1,rfl,r',n1.trans rel.lt hU n',i'⟩
   rcases hx with rfl|rfl<;>exact fin
  | some p=>
   obtain⟨g,ws⟩:=p;simp only[endD] at h2;split at h2
   ·rename_i hh1 htake;split at h2
    ·rename_i hh2 hclos;have mt:=jkq _ _ _ htake;unfold closD at hclos;split at hclos
     ·rename_i fg hfg;obtain⟨hgf,hge,hgok⟩:=hF g fg hfg;split at hclos
      ·rename_i cg hgb hgr hgle;have hgle:=Zb hgle;have hgres:fg.results= #[]:=by apply Array.toList_inj.1;simpa using hgr
       have key2:∃x2 s2,(x2= .normal\/x2= .ret)/\zaq ⟨yJq C n,zEq C n⟩ ⟨z0q C n,zKq C n⟩ C cg ⟨xgq 0 ws .nil,hh1,[],false⟩=some (x2,s2)/\s2.ds=[]/\s2.h=hh2:=by
        split at hclos
        ·rename_i s2 e2;split at hclos
         ·rename_i hds;cases hclos;exact⟨_,_,.inl rfl,e2,hds,rfl⟩
         ·cases hclos
        ·rename_i s2 e2;split at hclos
         ·rename_i hds;cases hclos;exact⟨_,_,.inr rfl,e2,hds,rfl⟩
         ·cases hclos
        ·cases hclos
       obtain⟨x2,s2,hx2,e2,hds2,rfl⟩:=key2;obtain⟨m3,k3⟩:=jiq hmx hC ih (hgok cg hgb) _ _ _ e2
       have hh':h'=s2.h:=by
        unfold resD at h2;split at h2<;>first|(cases h2;rfl)|cases h2
       subst hh';refine⟨(m1.trans mt).trans m3,λs0 U D ρ w hU gl hin rel=>?_⟩;have hU1:hh1.next<=U:=Nat.le_trans m3.nxt hU;refine callsIn_wide.1 (callsIn_of_wp_marks (F:=Fence.wide) (n:=0) hf hb trivial ?_);refine k1 s0 U D ρ _ w _ (Nat.le_trans mt.nxt hU1) ⟨⟨⟨λt u hu=>(harg vs _ D ρ hin hle t u hu).1,λt u hu=>(harg vs _ D ρ hin hle t u hu).2,gl⟩⟩,rel,hsz _ _ _ hle,rfl,(λd hd=>by cases hd),rfl⟩ λD1 ρ1 a1 w1 g1 n1 hi1=>?_
       have leave:LeavesInM Fence.wide 0 P fn a1.tmps (kCq s0 U D ρ h w v s2.h) a1.defers .returning w1:=by
        rw[g1.defs];refine vTq _ _ _ _ htake hU1 g1.rel g1.din λw2 r2 n2=>?_
        have hag2:=n2.agree g1.rel.lt hU1;have hws:InDL (DD D1 ρ1) ws:=hi1;have ginit:=GlobOK.next g1.fr.gl g1.rel.lt hU1 n2;show LeavesInM Fence.wide 0 P fn a1.tmps (kCq s0 U D ρ h w v s2.h) ({target:=.fn (.func g) (zIq ρ1 ws).toArray,args:= #[]}::[]) .returning w2;refine⟨by simp,.inr ⟨λh=>Qd,.func g,(zIq ρ1 ws).toArray,g,(zIq ρ1 ws).toArray,rfl,?_,λ_ _=>trivial,?_⟩⟩
        ·show(invoke (.fn (.func g) (zIq ρ1 ws).toArray) #[]).run P w2=_;have:=hge (zIq ρ1 ws).toArray w2;simpa[invoke] using this
        ·have cd:=callsDIn_of_wp (F:=Fence.wide) (n:=0-1) (P:=P) (args:=(zIq ρ1 ws).toArray) (u:=.returning) (w:=w2) (R:=λe w'=>(∃x,e= .returned x)/\∃D3 ρ3,Rel s0 U D3 ρ3 s2.h w'/\Nxt D1 ρ1 hh1 w2 D3 ρ3 s2.h w') hgf hgb trivial (by
          refine k3 s0 U none [] D1 ρ1 _ w2 _ hU ⟨⟨⟨λt u hu=>(harg ws _ D1 ρ1 hws hgle t u hu).1,λt u hu=>(harg ws _ D1 ρ1 hws hgle t u hu).2,ginit⟩⟩,r2,hsz _ _ _ hgle,rfl,(λd hd=>by cases hd),rfl⟩ λD3 ρ3 a3 w3 g3 n3=>?_
          have hd3:a3.defers=[]:=by have:=g3.defs;rw[hds2] at this;simpa using this
          have hres:∃x,(results fg a3.tmps).run P w3= .ok x w3:=⟨.tuple #[],by simp[results,hgres]⟩
          obtain⟨x,hx⟩:=hres;have:a3.defers=[]/\∃x,(results fg a3.tmps).run P w3= .ok x w3/\((∃y,Ending.returned x= .returned y)/\∃D3 ρ3,Rel s0 U D3 ρ3 s2.h w3/\Nxt D1 ρ1 hh1 w2 D3 ρ3 s2.h w3):=⟨hd3,x,hx,⟨x,rfl⟩,D3,ρ3,g3.rel,n3⟩
          rcases hx2 with rfl|rfl<;>exact this)
         refine cd.mono ?_;rintro e u' w3 ⟨rfl,⟨x,rfl⟩,D3,ρ3,r3,n3⟩;have n23:=n2.trans g1.rel.lt hU n3;have gfr:=g1.fr.next g1.rel.lt hU n23;obtain⟨_,y,y1,y2,y3⟩:=resD_spec hC h2 gfr r3;exact⟨y,y1,D3,ρ3,by rw[y2],r3,n1.trans rel.lt hU n23,y3⟩
       rcases hx with rfl|rfl<;>exact leave
      ·cases hclos
     ·cases hclos
    ·cases h2
   ·cases h2
 split at he
 ·rename_i st d h1 h2;obtain⟨q1,q2⟩:=key _ _ _ (.inl rfl) h1 h2 he;exact⟨q1,hent,q2⟩
 ·rename_i st d h1 h2;obtain⟨q1,q2⟩:=key _ _ _ Qm h1 h2 he;exact⟨q1,hent,q2⟩
 ·cases he
end
noncomputable def preDF(S:Self)(F:Flow)(C:Cfg):Code->St->Option ((Exit×St)×Option (FuncId×List V))
 |.seq x y,st=>match Qfq x with
  |some (t,g,caps)=>match st.ds,evL C st.fr caps with
   |[],some vs=>match yxq S F C y ⟨putT st.fr (some t) (.fn g [] vs),st.h,[],st.rd⟩ with
    |some r=>some (r,some (g,vs))
    |none=>none
   |_,_=>none
  |none=>match yxq S F C x st with
   |some (.normal,st')=>preDF S F C y st'
   |some r=>some (r,none)
   |none=>none
 |c,st=>match yxq S F C c st with
  |some r=>some (r,none)
  |none=>none
theorem preDF_eq(S:Self)(F:Flow)(C:Cfg):∀c,preDF S F C c=preD S F C c:=by
 intro c;induction c with
 |seq x y _ ih=>
  funext st
  simp only[preDF,preD,yhq,ih];try rfl
 |_=>
  funext st
  simp only[preDF,preD,yhq];try rfl
noncomputable def closDF(C:Cfg)(r:Four)(g:FuncId)(ws:List V)(h:Heap):Option Heap:=match C.fn g with
 |some fg=>match fg.body,fg.results.toList,Nat.ble ws.length fg.ntmps with
  |some cg,[],true=>match yxq ⟨r.fn,r.yield⟩ ⟨r.loop,r.scope⟩ C cg ⟨xgq 0 ws .nil,h,[],false⟩ with
   |some (.normal,s2)=>match s2.ds with
    |[]=>some s2.h
    |_=>none
   |some (.ret,s2)=>match s2.ds with
    |[]=>some s2.h
    |_=>none
   |_=>none
  |_,_,_=>none
 |none=>none
noncomputable def endDF(C:Cfg)(r:Four)(fn:Func)(st:St):Option (FuncId×List V) ->Option (V×Heap)
 |none=>finV C fn st
 |some (g,ws)=>match qJq st.ds st.h with
  |some h1=>match closDF C r g ws h1 with
   |some h2=>resD C fn st.fr h2
   |none=>none
  |none=>none
noncomputable def runDF(C:Cfg)(n:Nat)(fn:Func)(c:Code)(vs:List V)(h:Heap):Option (V×Heap):=match Nat.ble vs.length fn.ntmps,preDF ⟨(four C n).fn,(four C n).yield⟩ ⟨(four C n).loop,(four C n).scope⟩ C c ⟨xgq 0 vs .nil,h,[],false⟩ with
 |true,some ((.normal,st),d)=>endDF C (four C n) fn st d
 |true,some ((.ret,st),d)=>endDF C (four C n) fn st d
 |_,_=>none
theorem closDF_eq(C:Cfg)(n:Nat)(g:FuncId)(ws:List V)(h:Heap):closDF C (four C n) g ws h=closD C n g ws h:=by
 unfold closDF closD;simp only[yhq,Jdq];try rfl
theorem endDF_eq(C:Cfg)(n:Nat)(fn:Func)(st:St)(d:Option (FuncId×List V)):endDF C (four C n) fn st d=endD C n fn st d:=by
 cases d with
 |none=>rfl
 |some p=>
  obtain⟨g,ws⟩:=p;simp only[endDF,endD,closDF_eq];try rfl
theorem runDF_eq(C:Cfg)(n:Nat)(fn:Func)(c:Code):runDF C n fn c=runD C n fn c:=by
 funext vs h
 unfold runDF runD;simp only[preDF_eq,endDF_eq];simp only[Jdq];try rfl
noncomputable def isTw(N:Nat):Option (V×Heap) ->Nat
 |some (.bool true,h)=>match Nat.ble N h.wmin with
  |true=>1
  |false=>0
 |_=>0
theorem isTw_of{N:Nat}{r:Option (V×Heap)}(h:isTw N r=1):∃h1,r=some (.bool true,h1)/\N<=h1.wmin:=by
 unfold isTw at h;split at h
 ·rename_i h1;split at h
  ·rename_i hb;exact⟨h1,rfl,Zb hb⟩
  ·cases h
 ·cases h
theorem flatE_u:∀l:List Nat,z2q 1 (l.map tabV)=l.map tabV
 |[]=>rfl
 |n::l=>by
  show fitV 1 [tabV n]++z2q 1 (l.map tabV)=_;rw[flatE_u l,ygq (n:=1) (l:=[tabV n]) rfl];rfl
theorem bareL_u:∀l:List Nat,v7q (l.map tabV)=true
 |[]=>rfl
 |n::l=>by
  show(bare (tabV n)&&v7q (l.map tabV))=true;rw[bareL_u l];rfl
noncomputable def YQq(N g:Nat)(ns:List Nat):Heap:=⟨N,N,Tr.nil.set g (some (.ro (.arr ns.length 1 (ns.map tabV))))⟩
theorem YPq(N g:Nat)(ns:List Nat)(i:Nat):(YQq N g ns).get i=if i=g then some (.ro (.arr ns.length 1 (ns.map tabV))) else none:=by
 show(Tr.nil.set g (some (Blk.ro (.arr ns.length 1 (ns.map tabV))))).get i=_;rw[Tr.get_set,Tr.get_nil]
theorem flat_u(ns:List Nat):zjq (.arr ns.length 1 (ns.map tabV))=ns.map tabV:=by
 show fitV ns.length (z2q 1 (ns.map tabV))=_;rw[flatE_u];exact ygq (by rw[List.length_map])
theorem known_run{P:Program}{C:Cfg}(hmx:P.follows .mixedOrders=true)(hC:CfgOK P C)(hF:vMq P C)(hK:jeq P C){n:Nat}{f:FuncId}{N g:Nat}{ns:List Nat}
  (hr:isTw N (yJq C n f [] (YQq N g ns))=1) (hg:∀c,C.glob c=true->c<N) (hgN:g<N):xbq P C f (runK (okTab g ns)):=λvs h v h' he=>by
 unfold runK at he;split at he
 ·split at he
  ·rename_i ho;cases he;obtain⟨h1,hr,hw⟩:=isTw_of hr;have rn:=(run_ok hmx hC hF hK n).self;refine⟨Mono.refl _,rn.fnEnter _ _ _ _ _ hr,λs0 U D ρ w0 hU gl hin rel=>?_⟩;have hm:=rn.fnMono _ _ _ _ _ hr
   have hst:∀i b,(YQq N g ns).get i=some b->i=g/\b= .ro (.arr ns.length 1 (ns.map tabV)):=λi b hb=>by
    rw[YPq] at hb;split at hb
    ·rename_i e;cases hb;exact⟨e,rfl⟩
    ·cases hb
   have hno:∀i b,(YQq N g ns).get i=some b->b.own=true->False:=λi b hb ho=>by
    obtain⟨_,rfl⟩:=hst i b hb;cases ho
   have relS:Rel s0 h1.next (λi=>D i/\i<N) ρ (YQq N g ns) w0:=by
    refine⟨λi hi=>.inl hi.2,λi hi=>?_,λi b hi hb=>?_,λi b hi hb1=>?_,λi j b c hi hj hb hc h _=>(hno i b hb h).elim,λi b hi hb h=>(hno i b hb h).elim,λi j b c hi hj hb hc _ h=>(hno j c hc h).elim,rel.base⟩
    ·have hi:N<=i:=hi;rw[YPq,if_neg Xd]
    ·obtain⟨rfl,rfl⟩:=hst i b hb;unfold okTab at ho;split at ho
     ·rename_i bv hv;simp only[Bool.and_eq_true] at ho;have hs:=Zb ho.1;have ht:=Qdq ho.2
      have hcell:cellsV ρ bv=cellsV ρ (.arr ns.length 1 (ns.map tabV))++((zjq bv).drop ns.length).map (jsq ρ):=by
       rw[yLq,yLq,flat_u,<-ht,<-List.map_append,List.take_append_drop]
      have hz:(V.arr ns.length 1 (ns.map tabV)).size=ns.length:=rfl;unfold Heap.val at hv;split at hv
      ·rename_i ty v' hget;cases hv;obtain⟨o,q1,pre,tail,q2,q3,q4⟩:=rel.has _ _ hi.1 hget;exact⟨o,q1,pre,_,ty,(0,0),by rw[q2,hcell,List.append_assoc],q3,by rw[hz];omega⟩
      ·rename_i v' hget;cases hv;obtain⟨o,q1,pre,tail,ty,fz,q2,q3,q4⟩:=rel.has _ _ hi.1 hget;exact⟨o,q1,pre,_,ty,fz,by rw[q2,hcell,List.append_assoc],q3,by rw[hz];omega⟩
      ·cases hv
     ·cases ho
    ·obtain⟨_,rfl⟩:=hst i b hb1;exact bare_in (v:=.arr ns.length 1 (ns.map tabV)) (bareL_u ns)
   have glS:GlobOK C (DD (λi=>D i/\i<N) ρ) ρ:=λc h0=>by
    obtain⟨h1,h2⟩:=gl c h0;exact⟨⟨⟨h1.1,hg c h0⟩,h1.2⟩,h2⟩
   refine(rn.fn _ _ _ _ _ hr s0 h1.next _ ρ w0 (Nat.le_refl _) glS trivial relS).mono λe w'=>?_
   rintro⟨D',ρ',rfl,r',n',_⟩
   have same:∀c,c<w0.heap.size->w'.heap[c]? =w0.heap[c]? :=λc hc=>n'.frame c hc λi _ h2 h3=>by
    have h3:i<N:=h3;omega
   refine⟨D,ρ,rfl,⟨rel.lt,rel.wf,λi b hi hb=>?_,rel.clo,rel.inj,rel.own,rel.old,r'.base⟩,⟨λ_ h=>h,λ_ h=>.inl h,λ_ _=>⟨rfl,rfl,rfl,rfl⟩,λc hc _=>same c hc,λi _ h1 h2=>by omega,n'.size,Nat.le_refl _,Nat.le_refl _,n'.os,n'.tape,n'.output⟩,trivial⟩;obtain⟨o,q1,q2⟩:=rel.has i b hi hb;exact⟨o,by rw[same _ (Array.getElem?_eq_some_iff.1 q1).1];exact q1,q2⟩
  ·cases he
 ·cases he
theorem run_fastTw{C:Cfg}{N n:Nat}{f:FuncId}{vs:List V}{h:Heap}(e:isTw N ((four C n).fn f vs h)=1):isTw N (yJq C n f vs h)=1:=by
 rw[Jdq] at e;exact e
noncomputable def kn2T:Tr (List V->Heap->Option (V×Heap)):=knownT.set 198 (some Q8q)
noncomputable def cfg2:Cfg:={cfg with known:=λf=>kn2T.get f}
theorem cfg2OK:CfgOK Tryz.prog cfg2:=⟨cfgOK.ty,cfgOK.ext,cfgOK.mp,cfgOK.mt⟩
theorem fns2OK:vMq Tryz.prog cfg2:=fnsOK
theorem known2OK:jeq Tryz.prog cfg2:=λf k hk=>by
 have e:kn2T.get f=if f=198 then some Q8q else knownT.get f:=by
  unfold kn2T;rw[Tr.get_set]
 have hk:kn2T.get f=some k:=hk;rw[e] at hk;split at hk
 ·rename_i hf;cases hk;subst hf;exact joinOK
 ·exact known1OK f k hk
noncomputable def askBody:Code:=match Tryz.f35.body with
 |some c=>c
 |none=>.skip
noncomputable def askK:List V->Heap->Option (V×Heap):=runDF cfg2 3000 Tryz.f35 askBody
theorem askOK:xbq Tryz.prog cfg2 35 askK:=by
 unfold askK;rw[runDF_eq];exact known_defer mixed cfg2OK fns2OK known2OK Tryz.func35 Xm (Go.Proofs.enters_of Tryz.func35 Xm rfl) Xm
noncomputable def kn3T:Tr (List V->Heap->Option (V×Heap)):=kn2T.set 35 (some askK)
noncomputable def cfg3:Cfg:={cfg with known:=λf=>kn3T.get f}
theorem cfg3OK:CfgOK Tryz.prog cfg3:=⟨cfgOK.ty,cfgOK.ext,cfgOK.mp,cfgOK.mt⟩
theorem fns3OK:vMq Tryz.prog cfg3:=fnsOK
theorem known3OK:jeq Tryz.prog cfg3:=λf k hk=>by
 have e:kn3T.get f=if f=35 then some askK else kn2T.get f:=by
  unfold kn3T;rw[Tr.get_set]
 have hk:kn3T.get f=some k:=hk;rw[e] at hk;split at hk
 ·rename_i hf;cases hk;subst hf;exact askOK
 ·exact known2OK f k hk
set_option maxRecDepth 1000000 in
theorem runA:isTw 3 ((four cfg3 3000).fn 6 [] (YQq 3 1 kA))=1:=by kernel_rfl
theorem knownA:xbq Tryz.prog cfg 6 (runK (okTab 1 kA)):=
 known_run mixed cfg3OK fns3OK known3OK (run_fastTw runA) (λg hg=>Zb (show Nat.ble (g+1) 3=true from hg)) Xg
theorem knownAOK:jeq Tryz.prog cfg:=known0OK _ knownA
end
end Go.Proofs.YtpjfmknefefapaaGreatDoor

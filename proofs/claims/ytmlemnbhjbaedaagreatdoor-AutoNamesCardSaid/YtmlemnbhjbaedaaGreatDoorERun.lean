/-
  The plain machine's run: regions, control, calls, ranges over functions. Nothing here speaks of a program.
-/
import Derived.Test.YtmlemnbhjbaedaaGreatDoorEApp
import Derived.Test.YtmlemnbhjbaedaaGreatDoorIter
namespace Go.Proofs.YtmlemnbhjbaedaaGreatDoor
open Go.RowKit
set_option linter.unusedSimpArgs false
set_option linter.unusedVariables false

/-- what a run leans on: calls, rounds, loops, jumps -/
structure Self where
  fn : FuncId → List V → Heap → Option (V × Heap)
  yield : Nat → List V → Heap → Option (V × Heap)
structure St where
  fr : Tr V
  h : Heap
  ds : List Nat
  rd : Bool
structure Flow where
  loop : Code → St → Option (Exit × St)
  scope : Code → Nat → St → Option (Exit × St)
noncomputable def wantV (ops : Array Oper) (fr : Tr V) (o : Oper) : Option Bool := match o.guard with
  | none => some true
  | some (j, b) => match (ops[j]?).bind (·.dst) with
    | none => some false
    | some t => match fr.get t with
      | some (.bool c) => some (c == b)
      | some _ => some false
      | none => none
noncomputable def putT (fr : Tr V) (d : Option Tmp) (v : V) : Tr V := match d with
  | some t => fr.set t (some v)
  | none => fr
noncomputable def callV (S : Self) (C : Cfg) (fr : Tr V) (h : Heap) : Op → Option (V × Heap)
  | .call ⟨.value x, xs, _⟩ => match evV C fr x, evL C fr xs.toList with
    | some (.fn f a c), some vs => match C.ext f with
      | some e => match e (a ++ vs ++ c) with
        | some v => some (v, h)
        | none => none
      | none => S.fn f (a ++ vs ++ c) h
    | some (.yield l), some vs => S.yield l vs h
    | _, _ => none
  | .call ⟨.invoke x m, xs, _⟩ => match evV C fr x, evL C fr xs.toList with
    | some (.iface t v), some vs => match C.mt t m with
      | some f => match C.ext f with
        | some _ => none
        | none => S.fn f (v :: vs) h
      | none => none
    | _, _ => none
  | _ => none
noncomputable def opV (S : Self) (C : Cfg) (fr : Tr V) (h : Heap) (o : Oper) : Option (V × Heap) :=
  match pureV C fr o.type o.op with
  | some v => some (v, h)
  | none => match opH C fr h o.op with
    | some r => some r
    | none => callV S C fr h o.op
noncomputable def evalOps (S : Self) (C : Cfg) (ops : Array Oper) : List Oper → Tr V → Heap → Option (Tr V × Heap)
  | [], fr, h => some (fr, h)
  | o :: l, fr, h => match wantV ops fr o with
    | some true => match opV S C fr h o with
      | some (v, h') => evalOps S C ops l (putT fr o.dst v) h'
      | none => none
    | some false => evalOps S C ops l (putT fr o.dst .undef) h
    | none => none
/-! ### functions that the model stands in for -/
noncomputable def add64V : List V → Option V
  | [.int .u64 (.ofNat x), .int .u64 (.ofNat y), .int .u64 (.ofNat c)] => match Nat.ble c 1 with
    | true => some (.tup [.int .u64 (.ofNat ((x + y + c) % 18446744073709551616)), .int .u64 (.ofNat ((x + y + c) / 18446744073709551616))])
    | false => none
  | _ => none
/-! ### a region that draws its order -/
/-- one comes behind another one, by edges -/
noncomputable def reachB (ops : Array Oper) : Nat → Nat → Nat → Bool
  | 0, _, _ => false
  | f + 1, j, k => match ops[j]? with
    | none => false
    | some o => o.after.any fun e => Region.binds .any e && (Nat.beq e.on k || reachB ops f e.on k)
/-- what an operation did with memory: it read a block, wrote one, read what it liked (and made some), or turned what it liked -/
inductive Ev where
  | load (b : Nat)
  | store (b : Nat)
  | gen
  | dirty
  | upd (b : Nat)
noncomputable def Ev.clash : Ev → Ev → Bool
  | .load _, .load _ => false
  | .load a, .store b => Nat.beq a b
  | .store a, .load b => Nat.beq a b
  | .store a, .store b => Nat.beq a b
  | .load a, .upd b => Nat.beq a b
  | .upd a, .load b => Nat.beq a b
  | .gen, .load _ => false
  | .load _, .gen => false
  | .gen, .gen => false
  | _, _ => true
noncomputable def evOf (C : Cfg) (fr : Tr V) (h h1 : Heap) : Op → Ev
  | .load _ x => match evV C fr x with
    | some (.ptr b _) => .load b
    | _ => .dirty
  | .store _ x _ => match evV C fr x with
    | some (.ptr b _) => .store b
    | _ => .dirty
  | .call ⟨.builtin .append, xs, _⟩ => match Nat.ble h.next h1.wmin with
    | true => .gen
    | false => match xs.toList with
      | [x, _] => match evV C fr x with
        | some (.sl b _ _ _ _ _) => .upd b
        | _ => .dirty
      | _ => .dirty
  | _ => match Nat.ble h.next h1.wmin with
    | true => .gen
    | false => .dirty
noncomputable def evsOK (ops : Array Oper) (j : Nat) (x : Ev) : List (Nat × Ev) → Bool
  | [] => true
  | (k, y) :: l => (match y.clash x with | true => reachB ops ops.size j k | false => true) && evsOK ops j x l
noncomputable def minN (a b : Nat) : Nat := match Nat.ble a b with
  | true => a
  | false => b
/-- an operation of such a region: its value, the heap behind it, what it did -/
noncomputable def stepF (S : Self) (C : Cfg) (fr : Tr V) (h : Heap) (o : Oper) : Option (V × Heap × Option Ev) :=
  match pureV C fr o.type o.op with
  | some v => some (v, h, none)
  | none => match opV S C fr { h with wmin := h.next } o with
    | some (v, h1) => some (v, { h1 with wmin := minN h.wmin h1.wmin }, some (evOf C fr h h1 o.op))
    | none => none
noncomputable def evalFlow (S : Self) (C : Cfg) (ops : Array Oper) : List Oper → Nat → List (Nat × Ev) → Tr V → Heap → Option (Tr V × Heap)
  | [], _, _, fr, h => some (fr, h)
  | o :: l, i, es, fr, h => match wantV ops fr o with
    | some true => match stepF S C fr h o with
      | some (v, h1, some x) => match evsOK ops i x es with
        | true => evalFlow S C ops l (i + 1) ((i, x) :: es) (putT fr o.dst v) h1
        | false => none
      | some (v, h1, none) => evalFlow S C ops l (i + 1) es (putT fr o.dst v) h1
      | none => none
    | some false => evalFlow S C ops l (i + 1) es (putT fr o.dst .undef) h
    | none => none
/-! ### control -/
noncomputable def setPs : Tr V → List Tmp → List V → Tr V
  | fr, p :: ps, v :: vs => setPs (fr.set p (some v)) ps vs
  | fr, _, _ => fr
/-- behind a range over a function -/
noncomputable def endRange (st : St) (D l : Nat) (h : Heap) : Option (Exit × St) := match h.get l with
  | some (.loop .ready none _ _ _ _ _) => some (.normal, ⟨st.fr, h.kill l, D :: st.ds, st.rd⟩)
  | some (.loop .done (some .ret) _ _ _ _ _) => some (.ret, ⟨st.fr, h.kill l, D :: st.ds, st.rd⟩)
  | some (.loop .done (some (.exit id)) _ _ _ _ _) => some (.exit id, ⟨st.fr, h.kill l, D :: st.ds, st.rd⟩)
  | some (.loop .done (some (.goto id)) _ _ _ _ _) => some (.goto id, ⟨st.fr, h.kill l, D :: st.ds, st.rd⟩)
  | _ => none
noncomputable def evalCode (S : Self) (F : Flow) (C : Cfg) : Code → St → Option (Exit × St)
  | .skip, st => some (.normal, st)
  | .region _ ops dr, st => match (match dr with
      | true => evalFlow S C ops ops.toList 0 [] st.fr st.h
      | false => evalOps S C ops ops.toList st.fr st.h) with
    | some (fr, h) => some (.normal, ⟨fr, h, st.ds, st.rd⟩)
    | none => none
  | .seq x y, st => match evalCode S F C x st with
    | some (.normal, st') => evalCode S F C y st'
    | r => r
  | .cond c x y, st => match evV C st.fr c with
    | some (.bool true) => evalCode S F C x st
    | some (.bool false) => evalCode S F C y st
    | _ => none
  | .block id x, st => match evalCode S F C x st with
    | some (.exit id', st') => match Nat.beq id' id with
      | true => some (.normal, st')
      | false => some (.exit id', st')
    | r => r
  | .loop x, st => F.loop x st
  | .rangeFunc g ps asg bd, st => match st.rd, evV C st.fr g with
    | false, some (.fn gf [] c) => match S.fn gf ([.yield (st.h.next + 1)] ++ c) ((st.h.push (.dfr false)).push (.loop .ready none st.fr ps asg bd st.h.next)) with
      | some (_, h) => endRange st st.h.next (st.h.next + 1) h
      | none => none
    | _, _ => none
  | .exit id, st => some (.exit id, st)
  | .scope x, st => match evalCode S F C x st with
    | some (.goto l, st') => F.scope x l st'
    | r => r
  | .label _, st => some (.normal, st)
  | .goto l, st => some (.goto l, st)
  | .ret, st => some (.ret, st)
  | .refuse _, _ => none
noncomputable def argsT : Nat → List V → Tr V → Tr V
  | _, [], t => t
  | i, v :: vs, t => argsT (i + 1) vs (t.set i (some v))
noncomputable def takeAll : List Nat → Heap → Option Heap
  | [], h => some h
  | d :: ds, h => match h.get d with
    | some (.dfr false) => takeAll ds (h.put d (.dfr true))
    | _ => none
noncomputable def resV (C : Cfg) (fr : Tr V) (h : Heap) : ResultVar → Option V
  | .tmp t => fr.get t
  | .cell p T => match fr.get p, C.ty T with
    | some (.ptr b off), some i => match h.val b with
      | some v => getAt 50 v off i.size i.agg
      | none => none
    | _, _ => none
noncomputable def resL (C : Cfg) (fr : Tr V) (h : Heap) : List ResultVar → Option (List V)
  | [] => some []
  | r :: l => match resV C fr h r, resL C fr h l with
    | some v, some vs => some (v :: vs)
    | _, _ => none
noncomputable def finV (C : Cfg) (fn : Func) (st : St) : Option (V × Heap) := match takeAll st.ds st.h with
  | none => none
  | some h => match resL C st.fr h fn.results.toList with
    | some [v] => some (v, h)
    | some vs => some (.tup vs, h)
    | none => none
mutual
noncomputable def runFn (C : Cfg) : Nat → FuncId → List V → Heap → Option (V × Heap)
  | 0, _, _, _ => none
  | n + 1, f, vs, h => match C.known f with
    | some k => k vs h
    | none => match C.fn f with
      | none => none
      | some fn => match fn.body, Nat.ble vs.length fn.ntmps with
        | some c, true => match evalCode ⟨runFn C n, runYield C n⟩ ⟨runLoop C n, runScope C n⟩ C c ⟨argsT 0 vs .nil, h, [], false⟩ with
          | some (.normal, st) => finV C fn st
          | some (.ret, st) => finV C fn st
          | _ => none
        | _, _ => none
noncomputable def runYield (C : Cfg) : Nat → Nat → List V → Heap → Option (V × Heap)
  | 0, _, _, _ => none
  | n + 1, l, vs, h => match h.get l with
    | some (.loop .ready none fr ps asg bd d) => match Nat.beq vs.length ps.size with
      | false => none
      | true => match evalCode ⟨runFn C n, runYield C n⟩ ⟨runLoop C n, runScope C n⟩ C asg ⟨setPs fr ps.toList vs, h, [], true⟩ with
        | some (.normal, st1) => match st1.h.get l with
          | some (.loop .ready none fr1 ps1 asg1 bd1 d1) => match evalCode ⟨runFn C n, runYield C n⟩ ⟨runLoop C n, runScope C n⟩ C bd ⟨st1.fr, st1.h.put l (.loop .busy none fr1 ps1 asg1 bd1 d1), st1.ds, st1.rd⟩ with
            | some (x, st2) => match st2.h.get l with
              | some (.loop .busy none fr2 ps2 asg2 bd2 d2) => match x with
                | .normal => some (.bool true, st2.h.put l (.loop .ready none fr2 ps2 asg2 bd2 d2))
                | .ret => some (.bool false, st2.h.put l (.loop .done (some .ret) fr2 ps2 asg2 bd2 d2))
                | .exit id => some (.bool false, st2.h.put l (.loop .done (some (.exit id)) fr2 ps2 asg2 bd2 d2))
                | .goto id => some (.bool false, st2.h.put l (.loop .done (some (.goto id)) fr2 ps2 asg2 bd2 d2))
                | _ => none
              | _ => none
            | none => none
          | _ => none
        | _ => none
    | _ => none
noncomputable def runLoop (C : Cfg) : Nat → Code → St → Option (Exit × St)
  | 0, _, _ => none
  | n + 1, c, st => match evalCode ⟨runFn C n, runYield C n⟩ ⟨runLoop C n, runScope C n⟩ C c st with
    | some (.normal, st') => runLoop C n c st'
    | r => r
noncomputable def runScope (C : Cfg) : Nat → Code → Nat → St → Option (Exit × St)
  | 0, _, _, _ => none
  | n + 1, c, l, st => match findLabel c l with
    | some rest => match evalCode ⟨runFn C n, runYield C n⟩ ⟨runLoop C n, runScope C n⟩ C rest st with
      | some (.goto l', st') => runScope C n c l' st'
      | r => r
    | none => none
end
end Go.Proofs.YtmlemnbhjbaedaaGreatDoor

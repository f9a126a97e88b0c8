/-
  The plain machine's run, told so that the kernel reckons it fast: the same run. Nothing here speaks of a program.
-/
import Derived.Test.YtmlemnbhjbaedaaGreatDoorETop
namespace Go.Proofs.YtmlemnbhjbaedaaGreatDoor
open Go.RowKit
set_option linter.unusedSimpArgs false
set_option linter.unusedVariables false
/-! ### reckoning -/
noncomputable def kNum : IntKind → Nat
  | .i8 => 0
  | .i16 => 1
  | .i32 => 2
  | .i64 => 3
  | .u8 => 4
  | .u16 => 5
  | .u32 => 6
  | .u64 => 7
noncomputable def kEq (a b : IntKind) : Bool := Nat.beq (kNum a) (kNum b)
theorem kEq_eq (a b : IntKind) : kEq a b = decide (a = b) := by cases a <;> cases b <;> rfl
noncomputable def addI (m n : Int) : Int := match m, n with
  | .ofNat a, .ofNat b => .ofNat (Nat.add a b)
  | m, n => m + n
theorem addI_eq (m n : Int) : addI m n = m + n := by cases m <;> cases n <;> rfl
noncomputable def subI (m n : Int) : Int := match m, n with
  | .ofNat a, .ofNat b => Bool.rec (motive := fun _ => Int) (.ofNat a - .ofNat b) (.ofNat (Nat.sub a b)) (Nat.ble b a)
  | m, n => m - n
theorem subI_eq (m n : Int) : subI m n = m - n := by
  cases m with
  | negSucc => rfl
  | ofNat a => cases n with
    | negSucc => rfl
    | ofNat b =>
      show Bool.rec (motive := fun _ => Int) (Int.ofNat a - Int.ofNat b) (.ofNat (a - b)) (Nat.ble b a) = _
      cases h : Nat.ble b a with
      | false => rfl
      | true =>
        have := Nat.le_of_ble_eq_true h
        show Int.ofNat (a - b) = Int.ofNat a - Int.ofNat b
        simp only [Int.ofNat_eq_natCast]
        omega
noncomputable def mulI (m n : Int) : Int := match m, n with
  | .ofNat a, .ofNat b => .ofNat (Nat.mul a b)
  | m, n => m * n
theorem mulI_eq (m n : Int) : mulI m n = m * n := by cases m <;> cases n <;> rfl
noncomputable def wI64 (z : Int) : Int := match z with
  | .ofNat a => Bool.rec (motive := fun _ => Int) (wrapF .i64 (.ofNat a)) (.ofNat a) (Nat.blt a 9223372036854775808)
  | .negSucc a => Bool.rec (motive := fun _ => Int) (wrapF .i64 (.negSucc a)) (.negSucc a) (Nat.blt a 9223372036854775808)
noncomputable def wU64 (z : Int) : Int := match z with
  | .ofNat a => .ofNat (Nat.mod a 18446744073709551616)
  | .negSucc a => wrapF .u64 (.negSucc a)
noncomputable def wU32 (z : Int) : Int := match z with
  | .ofNat a => .ofNat (Nat.mod a 4294967296)
  | .negSucc a => wrapF .u32 (.negSucc a)
noncomputable def wU8 (z : Int) : Int := match z with
  | .ofNat a => .ofNat (Nat.mod a 256)
  | .negSucc a => wrapF .u8 (.negSucc a)
noncomputable def wrapR (k : IntKind) : Int → Int := match k with
  | .i8 => wrapF .i8
  | .i16 => wrapF .i16
  | .i32 => wrapF .i32
  | .i64 => wI64
  | .u8 => wU8
  | .u16 => wrapF .u16
  | .u32 => wU32
  | .u64 => wU64
theorem wrapR_eq (k : IntKind) (z : Int) : wrapR k z = wrapF k z := by
  cases k <;> cases z <;> try rfl
  · rename_i a
    show Bool.rec (motive := fun _ => Int) (wrapF .i64 (.ofNat a)) (.ofNat a) (Nat.blt a 9223372036854775808) = _
    cases h : Nat.blt a 9223372036854775808 with
    | false => rfl
    | true => unfold wrapF; simp only [h]
  · rename_i a
    show Bool.rec (motive := fun _ => Int) (wrapF .i64 (.negSucc a)) (.negSucc a) (Nat.blt a 9223372036854775808) = _
    cases h : Nat.blt a 9223372036854775808 with
    | false => rfl
    | true => unfold wrapF; simp only [h]
noncomputable def bAdd (k : IntKind) (m n : Int) : Option V := some (.int k (wrapR k (addI m n)))
noncomputable def bSub (k : IntKind) (m n : Int) : Option V := some (.int k (wrapR k (subI m n)))
noncomputable def bMul (k : IntKind) (m n : Int) : Option V := some (.int k (wrapR k (mulI m n)))
noncomputable def bLss (_ : IntKind) (m n : Int) : Option V := some (.bool (ltI m n))
noncomputable def bLeq (_ : IntKind) (m n : Int) : Option V := some (.bool (!ltI n m))
noncomputable def bGtr (_ : IntKind) (m n : Int) : Option V := some (.bool (ltI n m))
noncomputable def bGeq (_ : IntKind) (m n : Int) : Option V := some (.bool (!ltI m n))
noncomputable def bEql (_ : IntKind) (m n : Int) : Option V := some (.bool (eqI m n))
noncomputable def bNeq (_ : IntKind) (m n : Int) : Option V := some (.bool (!eqI m n))
noncomputable def bOp (op : BinOp) : IntKind → Int → Int → Option V := match op with
  | .add => bAdd
  | .sub => bSub
  | .mul => bMul
  | .quo => binI .quo
  | .rem => binI .rem
  | .and => binI .and
  | .or => binI .or
  | .xor => binI .xor
  | .shl => binI .shl
  | .shr => binI .shr
  | .andNot => binI .andNot
  | .eql => bEql
  | .neq => bNeq
  | .lss => bLss
  | .leq => bLeq
  | .gtr => bGtr
  | .geq => bGeq
theorem bOp_eq (op : BinOp) (k : IntKind) (m n : Int) : bOp op k m n = binI op k m n := by
  cases op <;> first | rfl | (simp only [bOp, bAdd, bSub, bMul, addI_eq, subI_eq, mulI_eq, wrapR_eq]; rfl)
noncomputable def biShl (k : IntKind) (m : Int) (_ : IntKind) (n : Int) : Option V := shI .shl k m n
noncomputable def biShr (k : IntKind) (m : Int) (_ : IntKind) (n : Int) : Option V := shI .shr k m n
noncomputable def biOp (op : BinOp) (k : IntKind) (m : Int) (k' : IntKind) (n : Int) : Option V := Bool.rec (motive := fun _ => Option V) none (bOp op k m n) (kEq k k')
noncomputable def binInt (op : BinOp) : IntKind → Int → IntKind → Int → Option V := match op with
  | .shl => biShl
  | .shr => biShr
  | op => biOp op
noncomputable def binY (C : Cfg) (op : BinOp) (t : TypeId) (k : IntKind) (m : Int) (y : V) : Option V := match y with
  | .int k' n => binInt op k m k' n
  | y => binV C op t (.int k m) y
noncomputable def binVF (C : Cfg) (op : BinOp) (t : TypeId) (x y : V) : Option V := match x with
  | .int k m => binY C op t k m y
  | x => binV C op t x y
theorem binVF_eq (C : Cfg) (op : BinOp) (t : TypeId) (x y : V) : binVF C op t x y = binV C op t x y := by
  cases x <;> try rfl
  rename_i k m
  cases y <;> try rfl
  rename_i k' n
  show binInt op k m k' n = binV C op t (.int k m) (.int k' n)
  have key : biOp op k m k' n = match decide (k = k') with
      | true => binI op k m n
      | false => none := by
    unfold biOp
    rw [kEq_eq, bOp_eq]
    cases decide (k = k') <;> rfl
  unfold binV
  cases op <;> first | rfl | exact key
noncomputable def binNF (C : Cfg) (op : BinOp) (t : TypeId) (y : Operand) (u v : V) : Option V := match binVF C op t u v with
  | some r => some r
  | none => nilIB C op t y u v
noncomputable def pvBinopF (C : Cfg) (op : BinOp) (t : TypeId) (x y : Operand) (fr : Tr V) : Option V := match evV C fr x with
  | some u => match evV C fr y with
    | some v => binNF C op t y u v
    | none => none
  | none => none
theorem pvBinopF_eq (C : Cfg) (fr : Tr V) (op : BinOp) (t : TypeId) (x y : Operand) : pvBinopF C op t x y fr = pvBinop C fr op t x y := by
  unfold pvBinopF pvBinop binNF
  cases evV C fr x with
  | none => cases evV C fr y <;> rfl
  | some u => cases evV C fr y with
    | none => rfl
    | some v =>
      simp only [binVF_eq]
      cases binV C op t u v <;> rfl
noncomputable def evLF (C : Cfg) (fr : Tr V) (l : List Operand) : Option (List V) := List.rec (motive := fun _ => Option (List V)) (some []) (fun x _ ih => match evV C fr x with
  | some v => match ih with
    | some r => some (v :: r)
    | none => none
  | none => none) l
theorem evLF_eq (C : Cfg) (fr : Tr V) : ∀ l, evLF C fr l = evL C fr l
  | [] => rfl
  | x :: l => by
    show (match evV C fr x with
      | some v => match evLF C fr l with
        | some r => some (v :: r)
        | none => none
      | none => none) = _
    rw [evLF_eq C fr l]
    conv => rhs; unfold evL
    cases evV C fr x <;> cases evL C fr l <;> rfl
/-! ### an operation -/
noncomputable def optV (v : Option V) (h : Heap) : Option (V × Heap) := match v with
  | some v => some (v, h)
  | none => none
noncomputable def callFn (S : Self) (C : Cfg) (f : FuncId) (vs : List V) (h : Heap) : Option (V × Heap) := match C.ext f with
  | some e => optV (e vs) h
  | none => S.fn f vs h
noncomputable def callF (S : Self) (C : Cfg) (fr : Tr V) (h : Heap) (x : Operand) (xs : Array Operand) : Option (V × Heap) := match evV C fr x with
  | some (.fn f a c) => match evLF C fr xs.toList with
    | some vs => callFn S C f (a ++ vs ++ c) h
    | none => none
  | some (.yield l) => match evLF C fr xs.toList with
    | some vs => S.yield l vs h
    | none => none
  | _ => none
theorem callF_eq (S : Self) (C : Cfg) (fr : Tr V) (h : Heap) (x : Operand) (xs : Array Operand) (ts : Array TypeId) : callF S C fr h x xs = callV S C fr h (.call ⟨.value x, xs, ts⟩) := by
  unfold callF callV
  rw [evLF_eq]
  dsimp only
  cases evV C fr x with
  | none => cases evL C fr xs.toList <;> rfl
  | some v => cases v <;> cases evL C fr xs.toList <;> rfl
abbrev OpK := Self → Cfg → Tr V → Heap → TypeId → Option (V × Heap)
noncomputable def noK : OpK := fun _ _ _ _ _ => none
noncomputable def slowK (o : Op) : OpK := fun S C fr h rt => match pureV C fr rt o with
  | some v => some (v, h)
  | none => match opH C fr h o with
    | some r => some r
    | none => callV S C fr h o
noncomputable def bltK (args : Array Operand) (ats : Array TypeId) (b : Builtin) : OpK := match b with
  | .len => fun _ C fr h _ => match pvLen C fr args ats with
    | some v => some (v, h)
    | none => ohLenM C fr h args ats
  | .clear => fun _ C fr h _ => ohClearA C fr h args ats
  | .append => fun _ C fr h _ => ohAppend C fr h args ats
  | .copy => fun _ C fr h _ => ohCopy C fr h args ats
  | b => slowK (.call ⟨.builtin b, args, ats⟩)
noncomputable def calK (args : Array Operand) (ats : Array TypeId) (c : Callee) : OpK := match c with
  | .value x => fun S C fr h _ => callF S C fr h x args
  | .builtin b => bltK args ats b
  | c => slowK (.call ⟨c, args, ats⟩)
noncomputable def callK (c : Call) : OpK := calK c.args c.argTypes c.callee
noncomputable def moveK (x : Operand) : OpK := fun _ C fr h _ => optV (evV C fr x) h
noncomputable def pickK (c a b : Operand) : OpK := fun _ C fr h _ => optV (pvPick C fr c a b) h
noncomputable def unK (u : UnOp) (t : TypeId) (x : Operand) : OpK := match u with
  | .not => fun _ C fr h _ => optV (pvUnopNot C fr x) h
  | u => slowK (.unOp u t x)
noncomputable def mkfK (f : Fn) (a c : Array Operand) : OpK := match f with
  | .func g => fun _ C fr h _ => optV (pvMakefunc C fr g a c) h
  | f => slowK (.makeFunc f a c)
noncomputable def convK (s t : TypeId) (x : Operand) : OpK := fun _ C fr h _ => match pvConvert C fr s t x with
  | some v => some (v, h)
  | none => ohConvert C fr h s t x
noncomputable def sliceK (t : TypeId) (x : Operand) (lo hi mx : Option Operand) : OpK := fun _ C fr h _ => match pvSlice C fr t x lo hi mx with
  | some v => some (v, h)
  | none => ohSlice C fr h t x lo hi mx
noncomputable def opF (o : Op) : OpK := Op.rec (motive := fun _ => OpK) moveK moveK pickK
  (fun t _ C fr h _ => ohAlloc C fr h t) (fun t x _ C fr h _ => ohBox C fr h t x)
  (fun t ps _ C fr h _ => optV (pvBuild C fr t ps) h) (fun t n ps _ C fr h _ => ohBuildslice C fr h t n ps)
  (fun t x y z _ C fr h _ => ohMapupdate C fr h t x y z) (fun t x _ C fr h _ => ohLoad C fr h t x) (fun t x y _ C fr h _ => ohStore C fr h t x y) (fun _ => noK) (fun _ => noK)
  (fun x _ C fr h _ => optV (pvNilcheck C fr x) h) (fun op t x y _ _ C fr h _ => optV (pvBinopF C op t x y fr) h)
  unK convK (fun _ _ => noK) (fun t x _ C fr h _ => optV (pvMakeinterface C fr t x) h)
  mkfK (fun t x _ C fr h _ => ohMakemap C fr h t x) (fun _ _ => noK) (fun t x y _ C fr h _ => ohMakeslice C fr h t x y)
  sliceK
  (fun t x i _ C fr h _ => optV (pvFieldaddr C fr t x i) h) (fun t x i _ C fr h _ => optV (pvField C fr t x i) h) (fun t x y _ C fr h _ => optV (pvIndexaddr C fr t x y) h) (fun t x y _ C fr h _ => optV (pvIndex C fr t x y) h)
  (fun t x y ok _ C fr h _ => ohLookup C fr h t x y ok) (fun t x y z _ C fr h _ => ohMapupdate C fr h t x y z) (fun t x y _ C fr h _ => ohMapentry C fr h t x y) (fun _ x y z _ C fr h _ => ohEntrystore C fr h x y z) (fun _ _ => noK) (fun _ _ => noK) (fun _ => noK) (fun x _ t ok _ C fr h _ => optV (pvAssert C fr x t ok) h)
  (fun x i _ C fr h _ => optV (pvExtract C fr x i) h) callK (fun _ => noK) (fun _ => noK) (fun _ => noK) (fun _ _ => noK) (fun _ _ _ => noK) (fun _ _ => noK) o
theorem some_h {r : Option (V × Heap)} : (match r with | some r => some r | none => none) = r := by cases r <;> rfl
theorem opF_eq (S : Self) (C : Cfg) (fr : Tr V) (h : Heap) (rt : TypeId) (o : Op) : opF o S C fr h rt = slowK o S C fr h rt := by
  cases o <;> try rfl
  case alloc t => exact some_h.symm
  case makeMap t x => exact some_h.symm
  case lookup t x y ok => exact some_h.symm
  case mapUpdate t x y z => exact some_h.symm
  case insert t x y z => exact some_h.symm
  case mapEntry t x y => exact some_h.symm
  case entryStore t x y z => exact some_h.symm
  case box t x => exact some_h.symm
  case buildSlice t n ps => exact some_h.symm
  case load t x => exact some_h.symm
  case store t x y => exact some_h.symm
  case binOp op t x y t' =>
    show optV (pvBinopF C op t x y fr) h = _
    rw [pvBinopF_eq]; rfl
  case makeSlice t x y => exact some_h.symm
  case unOp u t x => cases u <;> rfl
  case makeFunc f a c => cases f <;> rfl
  case convert s t x =>
    show (match pvConvert C fr s t x with
      | some v => some (v, h)
      | none => ohConvert C fr h s t x) = (match pvConvert C fr s t x with
      | some v => some (v, h)
      | none => match ohConvert C fr h s t x with
        | some r => some r
        | none => none)
    cases pvConvert C fr s t x with
    | some v => rfl
    | none => exact some_h.symm
  case slice t x lo hi mx =>
    show (match pvSlice C fr t x lo hi mx with
      | some v => some (v, h)
      | none => ohSlice C fr h t x lo hi mx) = (match pvSlice C fr t x lo hi mx with
      | some v => some (v, h)
      | none => match ohSlice C fr h t x lo hi mx with
        | some r => some r
        | none => none)
    cases pvSlice C fr t x lo hi mx with
    | some v => rfl
    | none => exact some_h.symm
  case call c =>
    obtain ⟨c, args, ats⟩ := c
    cases c with
    | value x => exact callF_eq S C fr h x args ats
    | invoke => rfl
    | builtin b =>
      cases b <;> first
        | rfl
        | exact some_h.symm
        | (show _ = (match pvLen C fr args ats with
             | some v => some (v, h)
             | none => match ohLenM C fr h args ats with
               | some r => some r
               | none => none)
           cases hp : pvLen C fr args ats with
           | some v => simp only [opF, callK, calK, bltK, hp]
           | none => simp only [opF, callK, calK, bltK, hp]; exact some_h.symm)
noncomputable def opVF (S : Self) (C : Cfg) (fr : Tr V) (h : Heap) (o : Oper) : Option (V × Heap) := opF o.op S C fr h o.type
theorem opVF_eq (S : Self) (C : Cfg) (fr : Tr V) (h : Heap) (o : Oper) : opVF S C fr h o = opV S C fr h o := opF_eq S C fr h o.type o.op
/-! ### an operation of a region that draws its order -/
abbrev FlK := Self → Cfg → Tr V → Heap → TypeId → Option (V × Heap × Option Ev)
noncomputable def evHp (h h1 : Heap) : Ev := Bool.rec (motive := fun _ => Ev) .dirty .gen (Nat.ble h.next h1.wmin)
noncomputable def updE (v : Option V) : Ev := match v with
  | some (.sl b _ _ _ _ _) => .upd b
  | _ => .dirty
noncomputable def appE (C : Cfg) (fr : Tr V) (xs : Array Operand) (h h1 : Heap) : Ev := Bool.rec (motive := fun _ => Ev) (match xs.toList with
  | [x, _] => updE (evV C fr x)
  | _ => .dirty) .gen (Nat.ble h.next h1.wmin)
noncomputable def ptrE (f : Nat → Ev) (v : Option V) : Ev := match v with
  | some (.ptr b _) => f b
  | _ => .dirty
noncomputable def optE (v : Option V) (h : Heap) : Option (V × Heap × Option Ev) := match v with
  | some v => some (v, h, none)
  | none => none
noncomputable def memE (e : Heap → Ev) (h : Heap) (r : Option (V × Heap)) : Option (V × Heap × Option Ev) := match r with
  | some (v, h1) => some (v, ⟨h1.next, minN h.wmin h1.wmin, h1.tr⟩, some (e h1))
  | none => none
noncomputable def low (h : Heap) : Heap := ⟨h.next, h.next, h.tr⟩
noncomputable def slowE (o : Op) : FlK := fun S C fr h rt => match pureV C fr rt o with
  | some v => some (v, h, none)
  | none => memE (fun h1 => evOf C fr h h1 o) h (slowK o S C fr (low h) rt)
/-- reckons alone -/
noncomputable def pE (k : Cfg → Tr V → Option V) : FlK := fun _ C fr h _ => optE (k C fr) h
/-- touches memory -/
noncomputable def mE (k : OpK) : FlK := fun S C fr h rt => memE (evHp h) h (k S C fr (low h) rt)
noncomputable def bltE (args : Array Operand) (ats : Array TypeId) (b : Builtin) : FlK := match b with
  | .len => fun _ C fr h _ => match pvLen C fr args ats with
    | some v => some (v, h, none)
    | none => memE (evHp h) h (ohLenM C fr (low h) args ats)
  | .append => fun _ C fr h _ => memE (appE C fr args h) h (ohAppend C fr (low h) args ats)
  | .copy => mE fun _ C fr h _ => ohCopy C fr h args ats
  | .clear => mE fun _ C fr h _ => ohClearA C fr h args ats
  | b => slowE (.call ⟨.builtin b, args, ats⟩)
noncomputable def calE (args : Array Operand) (ats : Array TypeId) (c : Callee) : FlK := match c with
  | .value x => mE fun S C fr h _ => callF S C fr h x args
  | .builtin b => bltE args ats b
  | c => slowE (.call ⟨c, args, ats⟩)
noncomputable def callE (c : Call) : FlK := calE c.args c.argTypes c.callee
noncomputable def unE (u : UnOp) (t : TypeId) (x : Operand) : FlK := match u with
  | .not => pE fun C fr => pvUnopNot C fr x
  | u => slowE (.unOp u t x)
noncomputable def mkfE (f : Fn) (a c : Array Operand) : FlK := match f with
  | .func g => pE fun C fr => pvMakefunc C fr g a c
  | f => slowE (.makeFunc f a c)
noncomputable def noE : FlK := fun _ _ _ _ _ => none
noncomputable def flF (o : Op) : FlK := Op.rec (motive := fun _ => FlK) (fun x => pE fun C fr => evV C fr x) (fun x => pE fun C fr => evV C fr x) (fun c a b => pE fun C fr => pvPick C fr c a b)
  (fun t => mE fun _ C fr h _ => ohAlloc C fr h t) (fun t x => mE fun _ C fr h _ => ohBox C fr h t x)
  (fun t ps => pE fun C fr => pvBuild C fr t ps) (fun t n ps => mE fun _ C fr h _ => ohBuildslice C fr h t n ps)
  (fun t x y z => mE fun _ C fr h _ => ohMapupdate C fr h t x y z) (fun t x _ C fr h _ => memE (fun _ => ptrE .load (evV C fr x)) h (ohLoad C fr (low h) t x)) (fun t x y _ C fr h _ => memE (fun _ => ptrE .store (evV C fr x)) h (ohStore C fr (low h) t x y)) (fun _ => noE) (fun _ => noE)
  (fun x => pE fun C fr => pvNilcheck C fr x) (fun op t x y _ => pE fun C fr => pvBinopF C op t x y fr)
  unE (fun s t x => slowE (.convert s t x)) (fun _ _ => noE) (fun t x => pE fun C fr => pvMakeinterface C fr t x)
  mkfE (fun t x => mE fun _ C fr h _ => ohMakemap C fr h t x) (fun _ _ => noE) (fun t x y => mE fun _ C fr h _ => ohMakeslice C fr h t x y)
  (fun t x lo hi mx => slowE (.slice t x lo hi mx))
  (fun t x i => pE fun C fr => pvFieldaddr C fr t x i) (fun t x i => pE fun C fr => pvField C fr t x i) (fun t x y => pE fun C fr => pvIndexaddr C fr t x y) (fun t x y => pE fun C fr => pvIndex C fr t x y)
  (fun t x y ok => mE fun _ C fr h _ => ohLookup C fr h t x y ok) (fun t x y z => mE fun _ C fr h _ => ohMapupdate C fr h t x y z) (fun t x y => mE fun _ C fr h _ => ohMapentry C fr h t x y) (fun _ x y z => mE fun _ C fr h _ => ohEntrystore C fr h x y z) (fun _ _ => noE) (fun _ _ => noE) (fun _ => noE) (fun x _ t ok => pE fun C fr => pvAssert C fr x t ok)
  (fun x i => pE fun C fr => pvExtract C fr x i) callE (fun _ => noE) (fun _ => noE) (fun _ => noE) (fun _ _ => noE) (fun _ _ _ => noE) (fun _ _ => noE) o
theorem slowE_of {S : Self} {C : Cfg} {fr : Tr V} {h : Heap} {rt : TypeId} {o : Op} {k : Option V} (hp : pureV C fr rt o = k) (hh : opH C fr (low h) o = none) (hc : callV S C fr (low h) o = none) : optE k h = slowE o S C fr h rt := by
  unfold slowE slowK
  rw [hp, hh, hc]
  cases k <;> rfl
theorem evHp_eq (h h1 : Heap) : evHp h h1 = match Nat.ble h.next h1.wmin with
    | true => .gen
    | false => .dirty := by unfold evHp; cases Nat.ble h.next h1.wmin <;> rfl
theorem appE_eq (C : Cfg) (fr : Tr V) (xs : Array Operand) (ats : Array TypeId) (h h1 : Heap) : appE C fr xs h h1 = evOf C fr h h1 (.call ⟨.builtin .append, xs, ats⟩) := by
  unfold appE evOf
  cases Nat.ble h.next h1.wmin with
  | true => rfl
  | false =>
    show (match xs.toList with
      | [x, _] => updE (evV C fr x)
      | _ => .dirty) = (match xs.toList with
      | [x, _] => match evV C fr x with
        | some (.sl b _ _ _ _ _) => .upd b
        | _ => .dirty
      | _ => .dirty)
    rfl
theorem memE_of {S : Self} {C : Cfg} {fr : Tr V} {h : Heap} {rt : TypeId} {o : Op} {k : Option (V × Heap)} {e : Heap → Ev} (hp : pureV C fr rt o = none) (hk : slowK o S C fr (low h) rt = k) (he : ∀ h1, e h1 = evOf C fr h h1 o) : memE e h k = slowE o S C fr h rt := by
  unfold slowE
  rw [hp, hk, show e = fun h1 => evOf C fr h h1 o from funext he]
theorem lenE_eq (S : Self) (C : Cfg) (fr : Tr V) (h : Heap) (rt : TypeId) (args : Array Operand) (ats : Array TypeId) : bltE args ats .len S C fr h rt = slowE (.call ⟨.builtin .len, args, ats⟩) S C fr h rt := by
  show (match pvLen C fr args ats with
    | some v => some (v, h, none)
    | none => memE (evHp h) h (ohLenM C fr (low h) args ats)) = _
  unfold slowE
  rw [show pureV C fr rt (.call ⟨.builtin .len, args, ats⟩) = pvLen C fr args ats from rfl]
  cases hp : pvLen C fr args ats with
  | some v => rfl
  | none =>
    have e : slowK (.call ⟨.builtin .len, args, ats⟩) S C fr (low h) rt = ohLenM C fr (low h) args ats := by
      unfold slowK
      rw [show pureV C fr rt (.call ⟨.builtin .len, args, ats⟩) = pvLen C fr args ats from rfl, hp]
      exact some_h
    rw [e]
    show memE (evHp h) h _ = memE (fun h1 => evOf C fr h h1 (.call ⟨.builtin .len, args, ats⟩)) h _
    rw [show evHp h = fun h1 => evOf C fr h h1 (.call ⟨.builtin .len, args, ats⟩) from funext (evHp_eq h)]
theorem flF_eq (S : Self) (C : Cfg) (fr : Tr V) (h : Heap) (rt : TypeId) (o : Op) : flF o S C fr h rt = slowE o S C fr h rt := by
  cases o with
  | move x => exact slowE_of rfl rfl rfl
  | assign x => exact slowE_of rfl rfl rfl
  | pick c a b => exact slowE_of rfl rfl rfl
  | alloc t => exact memE_of rfl (opF_eq S C fr (low h) rt (.alloc t)).symm (evHp_eq h)
  | box t x => exact memE_of rfl (opF_eq S C fr (low h) rt (.box t x)).symm (evHp_eq h)
  | build t ps => exact slowE_of rfl rfl rfl
  | buildSlice t n ps => exact memE_of rfl (opF_eq S C fr (low h) rt (.buildSlice t n ps)).symm (evHp_eq h)
  | load t x => exact memE_of rfl (opF_eq S C fr (low h) rt (.load t x)).symm fun _ => rfl
  | store t x y => exact memE_of rfl (opF_eq S C fr (low h) rt (.store t x y)).symm fun _ => rfl
  | nilCheck x => exact slowE_of rfl rfl rfl
  | makeMap t x => exact memE_of rfl (opF_eq S C fr (low h) rt (.makeMap t x)).symm (evHp_eq h)
  | lookup t x y ok => exact memE_of rfl (opF_eq S C fr (low h) rt (.lookup t x y ok)).symm (evHp_eq h)
  | mapUpdate t x y z => exact memE_of rfl (opF_eq S C fr (low h) rt (.mapUpdate t x y z)).symm (evHp_eq h)
  | insert t x y z => exact memE_of rfl (opF_eq S C fr (low h) rt (.insert t x y z)).symm (evHp_eq h)
  | mapEntry t x y => exact memE_of rfl (opF_eq S C fr (low h) rt (.mapEntry t x y)).symm (evHp_eq h)
  | entryStore t x y z => exact memE_of rfl (opF_eq S C fr (low h) rt (.entryStore t x y z)).symm (evHp_eq h)
  | binOp op t x y t' =>
    show optE (pvBinopF C op t x y fr) h = _
    rw [pvBinopF_eq]; exact slowE_of rfl rfl rfl
  | unOp u t x => cases u <;> first | rfl | exact slowE_of rfl rfl rfl
  | makeInterface t x => exact slowE_of rfl rfl rfl
  | makeFunc f a c => cases f <;> first | rfl | exact slowE_of rfl rfl rfl
  | makeSlice t x y => exact memE_of rfl (opF_eq S C fr (low h) rt (.makeSlice t x y)).symm (evHp_eq h)
  | fieldAddr t x i => exact slowE_of rfl rfl rfl
  | field t x i => exact slowE_of rfl rfl rfl
  | indexAddr t x y => exact slowE_of rfl rfl rfl
  | index t x y => exact slowE_of rfl rfl rfl
  | extract x i => exact slowE_of rfl rfl rfl
  | typeAssert x xt t ok => exact slowE_of rfl rfl rfl
  | call c =>
    obtain ⟨c, args, ats⟩ := c
    cases c with
    | value x => exact memE_of rfl (opF_eq S C fr (low h) rt (.call ⟨.value x, args, ats⟩)).symm (evHp_eq h)
    | invoke => rfl
    | builtin b =>
      cases b <;> first
        | rfl
        | exact slowE_of rfl rfl rfl
        | exact memE_of rfl (opF_eq S C fr (low h) rt (.call ⟨.builtin .append, args, ats⟩)).symm (appE_eq C fr args ats h)
        | exact memE_of rfl (opF_eq S C fr (low h) rt (.call ⟨.builtin .copy, args, ats⟩)).symm (evHp_eq h)
        | exact memE_of rfl (opF_eq S C fr (low h) rt (.call ⟨.builtin .clear, args, ats⟩)).symm (evHp_eq h)
        | exact lenE_eq S C fr h rt args ats
  | _ => rfl
noncomputable def stepFF (S : Self) (C : Cfg) (fr : Tr V) (h : Heap) (o : Oper) : Option (V × Heap × Option Ev) := flF o.op S C fr h o.type
theorem stepFF_eq (S : Self) (C : Cfg) (fr : Tr V) (h : Heap) (o : Oper) : stepFF S C fr h o = stepF S C fr h o := by
  unfold stepFF
  rw [flF_eq]
  unfold slowE stepF
  rw [show slowK o.op S C fr (low h) o.type = opV S C fr { h with wmin := h.next } o from rfl]
  cases pureV C fr o.type o.op with
  | some v => rfl
  | none => cases opV S C fr { h with wmin := h.next } o <;> rfl
section
variable (S : Self) (F : Flow) (C : Cfg) (ops : Array Oper)
noncomputable def opsStep (o : Oper) (k : Tr V → Heap → Option (Tr V × Heap)) (fr : Tr V) (h : Heap) : Option (Tr V × Heap) := match wantV ops fr o with
  | some true => match opVF S C fr h o with
    | some (v, h') => k (putT fr o.dst v) h'
    | none => none
  | some false => k (putT fr o.dst .undef) h
  | none => none
noncomputable def evalOpsF (l : List Oper) : Tr V → Heap → Option (Tr V × Heap) := List.rec (motive := fun _ => Tr V → Heap → Option (Tr V × Heap)) (fun fr h => some (fr, h)) (fun o _ ih => opsStep S C ops o ih) l
theorem evalOpsF_eq : ∀ l, evalOpsF S C ops l = evalOps S C ops l
  | [] => rfl
  | o :: l => by
    show opsStep S C ops o (evalOpsF S C ops l) = _
    rw [evalOpsF_eq l]
    funext fr h
    unfold opsStep
    rw [opVF_eq]
    conv => rhs; unfold evalOps
    all_goals rfl
noncomputable def flowStep (o : Oper) (k : Nat → List (Nat × Ev) → Tr V → Heap → Option (Tr V × Heap)) (i : Nat) (es : List (Nat × Ev)) (fr : Tr V) (h : Heap) : Option (Tr V × Heap) := match wantV ops fr o with
  | some true => match stepFF S C fr h o with
    | some (v, h1, some x) => match evsOK ops i x es with
      | true => k (i + 1) ((i, x) :: es) (putT fr o.dst v) h1
      | false => none
    | some (v, h1, none) => k (i + 1) es (putT fr o.dst v) h1
    | none => none
  | some false => k (i + 1) es (putT fr o.dst .undef) h
  | none => none
noncomputable def evalFlowF (l : List Oper) : Nat → List (Nat × Ev) → Tr V → Heap → Option (Tr V × Heap) := List.rec (motive := fun _ => Nat → List (Nat × Ev) → Tr V → Heap → Option (Tr V × Heap)) (fun _ _ fr h => some (fr, h)) (fun o _ ih => flowStep S C ops o ih) l
theorem evalFlowF_eq : ∀ l, evalFlowF S C ops l = evalFlow S C ops l
  | [] => rfl
  | o :: l => by
    show flowStep S C ops o (evalFlowF S C ops l) = _
    rw [evalFlowF_eq l]
    funext i es fr h
    unfold flowStep
    simp only [stepFF_eq]
    conv => rhs; unfold evalFlow
    all_goals rfl
noncomputable def cRegion (ops : Array Oper) (dr : Bool) (st : St) : Option (Exit × St) := match (match dr with
    | true => evalFlowF S C ops ops.toList 0 [] st.fr st.h
    | false => evalOpsF S C ops ops.toList st.fr st.h) with
  | some (fr, h) => some (.normal, ⟨fr, h, st.ds, st.rd⟩)
  | none => none
noncomputable def cSeq (f g : St → Option (Exit × St)) (st : St) : Option (Exit × St) := match f st with
  | some (.normal, st') => g st'
  | r => r
noncomputable def cCond (c : Operand) (f g : St → Option (Exit × St)) (st : St) : Option (Exit × St) := match evV C st.fr c with
  | some (.bool true) => f st
  | some (.bool false) => g st
  | _ => none
noncomputable def cBlock (id : Nat) (f : St → Option (Exit × St)) (st : St) : Option (Exit × St) := match f st with
  | some (.exit id', st') => match Nat.beq id' id with
    | true => some (.normal, st')
    | false => some (.exit id', st')
  | r => r
noncomputable def cRange (g : Operand) (ps : Array Tmp) (asg bd : Code) (st : St) : Option (Exit × St) := match st.rd, evV C st.fr g with
  | false, some (.fn gf [] c) => match S.fn gf ([.yield (st.h.next + 1)] ++ c) ((st.h.push (.dfr false)).push (.loop .ready none st.fr ps asg bd st.h.next)) with
    | some (_, h) => endRange st st.h.next (st.h.next + 1) h
    | none => none
  | _, _ => none
noncomputable def cScope (x : Code) (f : St → Option (Exit × St)) (st : St) : Option (Exit × St) := match f st with
  | some (.goto l, st') => F.scope x l st'
  | r => r
noncomputable def evalCodeF (c : Code) : St → Option (Exit × St) := Code.rec (motive := fun _ => St → Option (Exit × St)) (fun st => some (.normal, st)) (fun _ ops dr => cRegion S C ops dr) (fun _ _ f g => cSeq f g) (fun c _ _ f g => cCond C c f g) (fun id _ f => cBlock id f) (fun x _ => F.loop x)
  (fun g ps asg bd _ _ => cRange S C g ps asg bd) (fun id st => some (.exit id, st)) (fun x f => cScope F x f) (fun _ st => some (.normal, st)) (fun l st => some (.goto l, st)) (fun st => some (.ret, st)) (fun _ _ => none) c
theorem evalCodeF_eq : ∀ c, evalCodeF S F C c = evalCode S F C c
  | .skip => by funext st; unfold evalCode; rfl
  | .region _ ops dr => by
    funext st
    show cRegion S C ops dr st = _
    unfold cRegion evalCode
    simp only [evalFlowF_eq, evalOpsF_eq]
    rfl
  | .seq x y => by
    funext st
    show cSeq (evalCodeF S F C x) (evalCodeF S F C y) st = _
    rw [evalCodeF_eq x, evalCodeF_eq y]
    unfold cSeq
    conv => rhs; unfold evalCode
    all_goals rfl
  | .cond c x y => by
    funext st
    show cCond C c (evalCodeF S F C x) (evalCodeF S F C y) st = _
    rw [evalCodeF_eq x, evalCodeF_eq y]
    unfold cCond
    conv => rhs; unfold evalCode
    all_goals rfl
  | .block id x => by
    funext st
    show cBlock id (evalCodeF S F C x) st = _
    rw [evalCodeF_eq x]
    unfold cBlock
    conv => rhs; unfold evalCode
    all_goals rfl
  | .loop x => by funext st; unfold evalCode; rfl
  | .rangeFunc g ps asg bd => by
    funext st
    show cRange S C g ps asg bd st = _
    unfold cRange evalCode
    rfl
  | .exit id => by funext st; unfold evalCode; rfl
  | .scope x => by
    funext st
    show cScope F x (evalCodeF S F C x) st = _
    rw [evalCodeF_eq x]
    unfold cScope
    conv => rhs; unfold evalCode
    all_goals rfl
  | .label _ => by funext st; unfold evalCode; rfl
  | .goto _ => by funext st; unfold evalCode; rfl
  | .ret => by funext st; unfold evalCode; rfl
  | .refuse _ => by funext st; unfold evalCode; rfl
end
structure Four where
  fn : FuncId → List V → Heap → Option (V × Heap)
  yield : Nat → List V → Heap → Option (V × Heap)
  loop : Code → St → Option (Exit × St)
  scope : Code → Nat → St → Option (Exit × St)
section
variable (C : Cfg) (r : Four)
noncomputable def stepFn (f : FuncId) (vs : List V) (h : Heap) : Option (V × Heap) := match C.known f with
  | some k => k vs h
  | none => match C.fn f with
    | none => none
    | some fn => match fn.body, Nat.ble vs.length fn.ntmps with
      | some c, true => match evalCodeF ⟨r.fn, r.yield⟩ ⟨r.loop, r.scope⟩ C c ⟨argsT 0 vs .nil, h, [], false⟩ with
        | some (.normal, st) => finV C fn st
        | some (.ret, st) => finV C fn st
        | _ => none
      | _, _ => none
noncomputable def stepYield (l : Nat) (vs : List V) (h : Heap) : Option (V × Heap) := match h.get l with
  | some (.loop .ready none fr ps asg bd d) => match Nat.beq vs.length ps.size with
    | false => none
    | true => match evalCodeF ⟨r.fn, r.yield⟩ ⟨r.loop, r.scope⟩ C asg ⟨setPs fr ps.toList vs, h, [], true⟩ with
      | some (.normal, st1) => match st1.h.get l with
        | some (.loop .ready none fr1 ps1 asg1 bd1 d1) => match evalCodeF ⟨r.fn, r.yield⟩ ⟨r.loop, r.scope⟩ C bd ⟨st1.fr, st1.h.put l (.loop .busy none fr1 ps1 asg1 bd1 d1), st1.ds, st1.rd⟩ with
          | some (x, st2) => match st2.h.get l with
            | some (.loop .busy none fr2 ps2 asg2 bd2 d2) => match x with
              | .normal => some (.bool true, st2.h.put l (.loop .ready none fr2 ps2 asg2 bd2 d2))
              | .ret => some (.bool false, st2.h.put l (.loop .done (some .ret) fr2 ps2 asg2 bd2 d2))
              | .exit id => some (.bool false, st2.h.put l (.loop .done (some (.exit id)) fr2 ps2 asg2 bd2 d2))
              | .goto id => some (.bool false, st2.h.put l (.loop .done (some (.goto id)) fr2 ps2 asg2 bd2 d2))
              | _ => none
            | _ => none
          | none => none
        | _ => none
      | _ => none
  | _ => none
noncomputable def stepLoop (c : Code) (st : St) : Option (Exit × St) := match evalCodeF ⟨r.fn, r.yield⟩ ⟨r.loop, r.scope⟩ C c st with
  | some (.normal, st') => r.loop c st'
  | x => x
noncomputable def stepScope (c : Code) (l : Nat) (st : St) : Option (Exit × St) := match findLabel c l with
  | some rest => match evalCodeF ⟨r.fn, r.yield⟩ ⟨r.loop, r.scope⟩ C rest st with
    | some (.goto l', st') => r.scope c l' st'
    | x => x
  | none => none
noncomputable def four (n : Nat) : Four := Nat.rec (motive := fun _ => Four) ⟨fun _ _ _ => none, fun _ _ _ => none, fun _ _ => none, fun _ _ _ => none⟩ (fun _ r => ⟨stepFn C r, stepYield C r, stepLoop C r, stepScope C r⟩) n
theorem four_eq : ∀ n, four C n = ⟨runFn C n, runYield C n, runLoop C n, runScope C n⟩
  | 0 => by
    show (⟨fun _ _ _ => none, fun _ _ _ => none, fun _ _ => none, fun _ _ _ => none⟩ : Four) = _
    congr 1
  | n + 1 => by
    show (⟨stepFn C (four C n), stepYield C (four C n), stepLoop C (four C n), stepScope C (four C n)⟩ : Four) = _
    rw [four_eq n]
    congr 1
    · funext f vs h
      unfold stepFn
      simp only [evalCodeF_eq]
      conv => rhs; unfold runFn
      all_goals rfl
    · funext l vs h
      unfold stepYield
      simp only [evalCodeF_eq]
      conv => rhs; unfold runYield
      all_goals rfl
    · funext c st
      unfold stepLoop
      simp only [evalCodeF_eq]
      conv => rhs; unfold runLoop
      all_goals rfl
    · funext c l st
      unfold stepScope
      simp only [evalCodeF_eq]
      conv => rhs; unfold runScope
      all_goals rfl
end
/-- the fast run is the run -/
theorem run_fast {C : Cfg} {n : Nat} {f : FuncId} {vs : List V} {h : Heap} {x : Option (V × Heap)} (e : (four C n).fn f vs h = x) : runFn C n f vs h = x := by
  rw [four_eq] at e; exact e
theorem run_fastT {C : Cfg} {n : Nat} {f : FuncId} {vs : List V} {h : Heap} (e : isT ((four C n).fn f vs h) = 1) : isT (runFn C n f vs h) = 1 := by
  rw [four_eq] at e; exact e
end Go.Proofs.YtmlemnbhjbaedaaGreatDoor

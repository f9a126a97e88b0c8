/-
  Values with what they hold: a slice that nobody writes to any more is a list. Operations on such values. Nothing here speaks of a program.
-/
import Derived.Test.YtmlemnbhjbaedaaGreatDoorEFrm
namespace Go.Proofs.YtmlemnbhjbaedaaGreatDoor
open Go.RowKit
set_option linter.unusedSimpArgs false
set_option linter.unusedVariables false

/-- a value: fz is a slice whose elements stay as they are (full: no room behind them), fel a pointer to what stays as it is; ptr and sl point to blocks of one's own -/
inductive W where
  | undef
  | bool (b : Bool)
  | int (k : IntKind) (n : Int)
  | str (s : List UInt8)
  | nilp
  | ptr (b off : Nat)
  | nils
  | sl (b base off len esz : Nat) (lim : Option Nat)
  | fz (l : List W) (esz : Nat) (full : Bool)
  | fel (x : W)
  | nilm
  | fn (f : FuncId) (first captured : List W)
  | yield (l : Nat)
  | nilf
  | iface (t : TypeId) (v : W)
  | nili
  | agg (n : Nat) (items : List W)
  | arr (n e : Nat) (items : List W)
  | tup (vs : List W)
  deriving Inhabited

noncomputable def W.size : W → Nat
  | .agg n _ => n
  | .arr n _ _ => n
  | _ => 1
noncomputable def W.isAgg : W → Bool
  | .agg _ _ => true
  | .arr _ _ _ => true
  | _ => false
noncomputable def W.leaf : W → Bool
  | .agg _ _ => false
  | .arr _ _ _ => false
  | .tup _ => false
  | .undef => false
  | _ => true
noncomputable def findIW : List W → Nat → Option (W × Nat)
  | [], _ => none
  | v :: l, o => match Nat.blt o v.size with
    | true => some (v, o)
    | false => findIW l (o - v.size)
noncomputable def getAtW : Nat → W → Nat → Nat → Bool → Option W
  | 0, _, _, _, _ => none
  | f + 1, v, off, n, ag =>
    match Nat.beq off 0 && Nat.beq n v.size && ag == v.isAgg with
    | true => match ag || v.leaf with
      | true => some v
      | false => none
    | false => match v with
      | .agg _ l => match findIW l off with
        | some (x, o) => getAtW f x o n ag
        | none => none
      | .arr _ e l => match l[off / e]? with
        | some x => getAtW f x (off % e) n ag
        | none => none
      | _ => none
noncomputable def putIxW (g : W → Nat → Option W) : List W → Nat → Option (List W)
  | [], _ => none
  | v :: l, o => match Nat.blt o v.size with
    | true => match g v o with
      | some v' => some (v' :: l)
      | none => none
    | false => match putIxW g l (o - v.size) with
      | some l' => some (v :: l')
      | none => none
noncomputable def putAtW : Nat → W → Nat → W → Option W
  | 0, _, _, _ => none
  | f + 1, v, off, x =>
    match Nat.beq off 0 && Nat.beq x.size v.size && x.isAgg == v.isAgg with
    | true => match x.isAgg || (v.leaf && x.leaf) with
      | true => some x
      | false => none
    | false => match v with
      | .agg m l => match putIxW (fun y o => putAtW f y o x) l off with
        | some l' => some (.agg m l')
        | none => none
      | .arr m e l => match l[off / e]? with
        | some y => match putAtW f y (off % e) x with
          | some y' => some (.arr m e (l.set (off / e) y'))
          | none => none
        | none => none
      | _ => none
noncomputable def subArrW : Nat → W → Nat → Nat → Nat → Option (List W)
  | 0, _, _, _, _ => none
  | f + 1, v, off, n, e =>
    match v with
    | .arr m e' l => match Nat.beq e' e && Nat.beq (off % e) 0 && Nat.ble (off + n * e) m && Nat.blt 0 e with
      | true => some ((l.drop (off / e)).take n)
      | false => match Nat.beq off 0 && Nat.beq n 1 && Nat.beq m e with
        | true => some [.arr m e' l]
        | false => match l[off / e']? with
          | some x => match Nat.ble (off % e' + n * e) x.size with
            | true => subArrW f x (off % e') n e
            | false => none
          | none => none
    | .agg m l => match Nat.beq off 0 && Nat.beq n 1 && Nat.beq m e with
      | true => some [.agg m l]
      | false => match findIW l off with
        | some (x, o) => match Nat.ble (o + n * e) x.size with
          | true => subArrW f x o n e
          | false => none
        | none => none
    | _ => none
noncomputable def putNW : W → Nat → Nat → List W → Option W
  | v, _, _, [] => some v
  | v, off, e, x :: l => match Nat.beq x.size e && v.isAgg with
    | true => match putAtW 50 v off x with
      | some v' => putNW v' (off + e) e l
      | none => none
    | false => none

/-! ### values that name no block, taken over -/
noncomputable def sumW : List W → Nat
  | [] => 0
  | x :: l => x.size + sumW l
mutual
noncomputable def embW : V → Option W
  | .undef => none
  | .bool b => some (.bool b)
  | .int k n => some (.int k n)
  | .str s => some (.str s)
  | .nilp => some .nilp
  | .ptr _ _ => none
  | .nils => some .nils
  | .sl _ _ _ _ _ _ => none
  | .nilm => some .nilm
  | .map _ => none
  | .fn _ _ _ => none
  | .yield _ => none
  | .nilf => some .nilf
  | .iface _ _ => none
  | .nili => some .nili
  | .agg n l => match embL l with
    | some l' => match Nat.beq (sumW l') n with
      | true => some (.agg n l')
      | false => none
    | none => none
  | .arr n e l => match embL l with
    | some l' => match Nat.beq (sumW l') n && l'.all fun x => Nat.beq x.size e with
      | true => some (.arr n e l')
      | false => none
    | none => none
  | .tup _ => none
noncomputable def embL : List V → Option (List W)
  | [] => some []
  | v :: l => match embW v, embL l with
    | some w, some r => some (w :: r)
    | _, _ => none
end

/-! ### frames, blocks -/
abbrev FrW := List (Nat × W)
noncomputable def getW : FrW → Nat → Option W
  | [], _ => none
  | (k, w) :: l, t => match Nat.beq k t with
    | true => some w
    | false => getW l t
noncomputable def putW (fr : FrW) (d : Option Tmp) (w : W) : FrW := match d with
  | some t => (t, w) :: fr
  | none => fr
abbrev HpW := List (Nat × TypeId × W)
noncomputable def hget : HpW → Nat → Option (TypeId × W)
  | [], _ => none
  | (k, w) :: l, t => match Nat.beq k t with
    | true => some w
    | false => hget l t
noncomputable def hset : HpW → Nat → TypeId × W → HpW
  | [], _, _ => []
  | (k, w) :: l, t, x => match Nat.beq k t with
    | true => (k, x) :: l
    | false => (k, w) :: hset l t x
noncomputable def hdel : HpW → Nat → HpW
  | [], _ => []
  | (k, w) :: l, t => match Nat.beq k t with
    | true => l
    | false => (k, w) :: hdel l t

/-! ### operations -/
section
variable (C : Cfg) (G : Nat → Option W) (fr : FrW)
noncomputable def ofVW (x : Value) : Option W := match ofV x with
  | some v => embW v
  | none => none
noncomputable def evW : Operand → Option W
  | .tmp t => getW fr t
  | .const v => ofVW v
  | .global g => match C.glob g, G g with
    | true, some w => some (.fel w)
    | _, _ => none
  | .func f => some (.fn f [] [])
noncomputable def evLW : List Operand → Option (List W)
  | [] => some []
  | x :: l => match evW C G fr x, evLW l with
    | some v, some r => some (v :: r)
    | _, _ => none
mutual
noncomputable def eqW : Nat → TypeId → W → W → Option Bool
  | 0, _, _, _ => none
  | f + 1, t, x, y => match C.ty t with
    | none => none
    | some i => match i.d with
      | .int _ => match x, y with
        | .int j a, .int k b => match decide (j = k) with
          | true => some (eqI a b)
          | false => none
        | _, _ => none
      | .bool => match x, y with
        | .bool a, .bool b => some (a == b)
        | _, _ => none
      | .str => match x, y with
        | .str a, .str b => some (bytesEq a b)
        | _, _ => none
      | .ptr => match x, y with
        | .nilp, .nilp => some true
        | .nilp, .ptr _ _ => some false
        | .ptr _ _, .nilp => some false
        | .nilp, .fel _ => some false
        | .fel _, .nilp => some false
        | _, _ => none
      | .slice _ => match x, y with
        | .nils, .nils => some true
        | .nils, .sl _ _ _ _ _ _ => some false
        | .sl _ _ _ _ _ _, .nils => some false
        | .nils, .fz (_ :: _) _ _ => some false
        | .fz (_ :: _) _ _, .nils => some false
        | _, _ => none
      | .struct fs => match x.isAgg && y.isAgg with
        | true => eqFsW f fs x y
        | false => none
      | .arr n e => match x.isAgg && y.isAgg, C.ty e with
        | true, some j => eqEsW f e j n 0 x y
        | _, _ => none
      | _ => none
noncomputable def eqFsW : Nat → List (TypeId × Nat) → W → W → Option Bool
  | 0, _, _, _ => none
  | _ + 1, [], _, _ => some true
  | f + 1, (t, off) :: fs, x, y => match C.ty t with
    | none => none
    | some i => match getAtW 50 x off i.size i.agg, getAtW 50 y off i.size i.agg with
      | some a, some b => match eqW f t a b with
        | some true => eqFsW f fs x y
        | some false => some false
        | none => none
      | _, _ => none
noncomputable def eqEsW : Nat → TypeId → TyI → Nat → Nat → W → W → Option Bool
  | 0, _, _, _, _, _, _ => none
  | _ + 1, _, _, 0, _, _, _ => some true
  | f + 1, e, j, n + 1, k, x, y => match getAtW 50 x (k * j.size) j.size j.agg, getAtW 50 y (k * j.size) j.size j.agg with
    | some a, some b => match eqW f e a b with
      | some true => eqEsW f e j n (k + 1) x y
      | some false => some false
      | none => none
    | _, _ => none
end
noncomputable def plainEqW : W → W → Bool
  | .bool _, .bool _ => true
  | .nilp, .nilp => true
  | .nilp, .ptr _ _ => true
  | .ptr _ _, .nilp => true
  | .nilp, .fel _ => true
  | .fel _, .nilp => true
  | .nils, .nils => true
  | .nils, .sl _ _ _ _ _ _ => true
  | .sl _ _ _ _ _ _, .nils => true
  | .nils, .fz _ _ _ => true
  | .fz _ _ _, .nils => true
  | x, y => x.isAgg && y.isAgg
/-- a leaf that names no block -/
noncomputable def unV : V → Option W
  | .bool b => some (.bool b)
  | .int k n => some (.int k n)
  | .str s => some (.str s)
  | _ => none
noncomputable def binW (op : BinOp) (t : TypeId) (x y : W) : Option W := match x, y with
  | .int k m, .int k' n => match op with
    | .shl => (shI .shl k m n).bind unV
    | .shr => (shI .shr k m n).bind unV
    | _ => match decide (k = k') with
      | true => (binI op k m n).bind unV
      | false => none
  | .str a, .str b => (binS op a b).bind unV
  | x, y => match plainEqW x y with
    | false => none
    | true => match op with
      | .eql => match eqW C 300 t x y with
        | some b => some (.bool b)
        | none => none
      | .neq => match eqW C 300 t x y with
        | some b => some (.bool (!b))
        | none => none
      | _ => none
noncomputable def natW : W → Option Nat
  | .int _ (.ofNat n) => some n
  | _ => none
noncomputable def bndW (d : Nat) : Option Operand → Option Nat
  | none => some d
  | some x => match evW C G fr x with
    | some v => natW v
    | none => none
noncomputable def cutW (b base off len esz : Nat) (lim : Option Nat) (l h : Nat) : Option Nat → Option W
  | none => match Nat.ble l h && Nat.ble h len with
    | true => some (.sl b (match Nat.beq l 0 with | true => base | false => off) (off + l * esz) (h - l) esz (limCut l lim))
    | false => none
  | some m => match Nat.ble l h && Nat.ble h m && Nat.ble m len && Nat.ble 1 m with
    | true => some (.sl b off (off + l * esz) (h - l) esz (some (m - l)))
    | false => none
noncomputable def cutF (xs : List W) (esz : Nat) (full : Bool) (l h : Nat) : Option Nat → Option W
  | none => match Nat.ble l h && Nat.ble h xs.length with
    | true => some (.fz ((xs.drop l).take (h - l)) esz (full && Nat.beq h xs.length))
    | false => none
  | some m => match Nat.ble l h && Nat.ble h m && Nat.ble m xs.length && Nat.ble 1 m with
    | true => some (.fz ((xs.drop l).take (h - l)) esz (Nat.beq h m))
    | false => none
noncomputable def fillW (t : TypeId) : W → List (Nat × Operand) → Option W
  | v, [] => some v
  | v, (i, x) :: l => match placeOf C t i, evW C G fr x with
    | some (off, sz), some y => match Nat.beq y.size sz with
      | true => match putAtW 50 v off y with
        | some v' => fillW t v' l
        | none => none
      | false => none
    | _, _ => none
noncomputable def wPick (c : Operand) (x : Operand) (y : Operand) : Option W := match evW C G fr c with
  | some (.bool true) => evW C G fr x
  | some (.bool false) => evW C G fr y
  | _ => none
noncomputable def wExtract (x : Operand) (i : Nat) : Option W := match evW C G fr x with
  | some (.tup vs) => vs[i]?
  | _ => none
noncomputable def wNil (x : Operand) : Option W := match evW C G fr x with
  | some (.ptr b o) => some (.ptr b o)
  | some (.sl b base off len esz lim) => some (.sl b base off len esz lim)
  | some (.fel y) => some (.fel y)
  | some (.fz (y :: l) e f) => some (.fz (y :: l) e f)
  | some (.fn f a c) => some (.fn f a c)
  | some (.yield l) => some (.yield l)
  | _ => none
noncomputable def wNot (x : Operand) : Option W := match evW C G fr x with
  | some (.bool b) => some (.bool (!b))
  | _ => none
noncomputable def wNeg (x : Operand) : Option W := match evW C G fr x with
  | some (.int k n) => some (.int k (wrapF k (0 - n)))
  | _ => none
noncomputable def wXor (x : Operand) : Option W := match evW C G fr x with
  | some (.int k n) => match notF k n with
    | some c => some (.int k c)
    | none => none
  | _ => none
noncomputable def wBin (op : BinOp) (t : TypeId) (x : Operand) (y : Operand) : Option W := match evW C G fr x, evW C G fr y with
  | some u, some v => binW C op t u v
  | _, _ => none
noncomputable def wConv (s : TypeId) (t : TypeId) (x : Operand) : Option W := match C.ty s, C.ty t, evW C G fr x with
  | some _, some j, some v => match j.d, v with
    | .int k, .int _ n => some (.int k (wrapF k n))
    | .str, .str a => some (.str a)
    | _, _ => none
  | _, _, _ => none
noncomputable def wMake (f : FuncId) (a : Array Operand) (c : Array Operand) : Option W := match evLW C G fr a.toList, evLW C G fr c.toList with
  | some u, some v => some (.fn f u v)
  | _, _ => none
noncomputable def wBuild (t : TypeId) (parts : Array (Nat × Operand)) : Option W := match C.ty t with
  | some j => match j.agg, embW j.zero with
    | true, some z => fillW C G fr t z parts.toList
    | _, _ => none
  | none => none
noncomputable def wField (t : TypeId) (x : Operand) (i : Nat) : Option W := match structF C t i, evW C G fr x with
  | some (ft, off), some v => match C.ty ft, v.isAgg with
    | some k, true => getAtW 50 v off k.size k.agg
    | _, _ => none
  | _, _ => none
noncomputable def wFieldaddr (t : TypeId) (x : Operand) (i : Nat) : Option W := match structF C t i, evW C G fr x with
  | some (ft, fo), some (.ptr b off) => match C.ty ft with
    | some k => match Nat.beq k.size 0 with
      | true => none
      | false => some (.ptr b (off + fo))
    | none => none
  | some (ft, fo), some (.fel y) => match C.ty ft with
    | some k => match Nat.beq k.size 0 with
      | true => none
      | false => match getAtW 50 y fo k.size k.agg with
        | some z => some (.fel z)
        | none => none
    | none => none
  | _, _ => none
noncomputable def wIndexaddr (t : TypeId) (x : Operand) (y : Operand) : Option W := match C.ty t, evW C G fr x, evW C G fr y with
  | some j, some v, some u => match natW u, j.d, v with
    | some i, .arr n e, .ptr b off => match C.ty e, Nat.blt i n with
      | some k, true => some (.ptr b (off + i * k.size))
      | _, _ => none
    | some i, .arr n e, .fel z => match C.ty e, Nat.blt i n with
      | some k, true => match Nat.beq k.size 0 with
        | true => none
        | false => match getAtW 50 z (i * k.size) k.size k.agg with
          | some r => some (.fel r)
          | none => none
      | _, _ => none
    | some i, .slice e, .sl b _ off len esz _ => match C.ty e, Nat.blt i len with
      | some k, true => match Nat.beq k.size esz with
        | true => some (.ptr b (off + i * esz))
        | false => none
      | _, _ => none
    | some i, .slice e, .fz l esz _ => match C.ty e, l[i]? with
      | some k, some r => match Nat.beq k.size esz with
        | true => some (.fel r)
        | false => none
      | _, _ => none
    | _, _, _ => none
  | _, _, _ => none
noncomputable def wIndex (t : TypeId) (x : Operand) (y : Operand) : Option W := match C.ty t, evW C G fr x, evW C G fr y with
  | some j, some v, some u => match natW u, j.d, v with
    | some i, .str, .str s => match s[i]? with
      | some c => some (.int .u8 (.ofNat c.toNat))
      | none => none
    | some i, .arr n e, v => match C.ty e, Nat.blt i n, v.isAgg with
      | some k, true, true => getAtW 50 v (i * k.size) k.size k.agg
      | _, _, _ => none
    | _, _, _ => none
  | _, _, _ => none
noncomputable def wSlice (t : TypeId) (x : Operand) (lo : Option Operand) (hi : Option Operand) (mx : Option Operand) : Option W := match C.ty t, evW C G fr x with
  | some j, some v => match j.d, v with
    | .slice e, .sl b base off len esz lim => match C.ty e, bndW C G fr 0 lo, bndW C G fr len hi with
      | some k, some l, some h => match Nat.beq k.size esz with
        | true => match mx with
          | none => cutW b base off len esz lim l h none
          | some z => match hi, bndW C G fr 0 (some z) with
            | some _, some m => cutW b base off len esz lim l h (some m)
            | _, _ => none
        | false => none
      | _, _, _ => none
    | .slice e, .fz xs esz full => match C.ty e, bndW C G fr 0 lo, bndW C G fr xs.length hi with
      | some k, some l, some h => match Nat.beq k.size esz with
        | true => match mx with
          | none => cutF xs esz full l h none
          | some z => match hi, bndW C G fr 0 (some z) with
            | some _, some m => cutF xs esz full l h (some m)
            | _, _ => none
        | false => none
      | _, _, _ => none
    | .slice e, .nils => match C.ty e, bndW C G fr 0 lo, bndW C G fr 0 hi, mx with
      | some _, some 0, some 0, none => some .nils
      | _, _, _, _ => none
    | .str, .str s => match bndW C G fr 0 lo, bndW C G fr s.length hi, mx with
      | some l, some h, none => match Nat.ble l h && Nat.ble h s.length with
        | true => some (.str ((s.drop l).take (h - l)))
        | false => none
      | _, _, _ => none
    | _, _ => none
  | _, _ => none
noncomputable def wMkI (t : TypeId) (x : Operand) : Option W := match C.ty t, evW C G fr x with
  | some j, some v => match j.d with
    | .iface => none
    | _ => some (.iface t v)
  | _, _ => none
noncomputable def wLen (args : Array Operand) (ats : Array TypeId) : Option W := match ats.toList, args.toList with
  | [t], [x] => match C.ty t, evW C G fr x with
    | some j, some v => match j.d, v with
      | .str, .str s => some (.int .i64 (.ofNat s.length))
      | .slice _, .sl _ _ _ n _ _ => some (.int .i64 (.ofNat n))
      | .slice _, .fz l _ _ => some (.int .i64 (.ofNat l.length))
      | .slice _, .nils => some (.int .i64 0)
      | .arr n _, _ => some (.int .i64 (.ofNat n))
      | _, _ => none
    | _, _ => none
  | _, _ => none
noncomputable def wMin (args : Array Operand) : Option W := match args.toList with
  | [x, y] => match evW C G fr x, evW C G fr y with
    | some (.int k m), some (.int _ n) => some (.int k (match ltI n m with | true => n | false => m))
    | _, _ => none
  | _ => none
noncomputable def wMax (args : Array Operand) : Option W := match args.toList with
  | [x, y] => match evW C G fr x, evW C G fr y with
    | some (.int k m), some (.int _ n) => some (.int k (match ltI m n with | true => n | false => m))
    | _, _ => none
  | _ => none
noncomputable def pureW (o : Op) : Option W := match o with
  | .move x => evW C G fr x
  | .assign x => evW C G fr x
  | .pick c x y => wPick C G fr c x y
  | .extract x i => wExtract C G fr x i
  | .nilCheck x => wNil C G fr x
  | .unOp .not _ x => wNot C G fr x
  | .unOp .neg _ x => wNeg C G fr x
  | .unOp .xor _ x => wXor C G fr x
  | .binOp op t x y _ => wBin C G fr op t x y
  | .convert s t x => wConv C G fr s t x
  | .makeFunc (.func f) a c => wMake C G fr f a c
  | .build t parts => wBuild C G fr t parts
  | .field t x i => wField C G fr t x i
  | .fieldAddr t x i => wFieldaddr C G fr t x i
  | .indexAddr t x y => wIndexaddr C G fr t x y
  | .index t x y => wIndex C G fr t x y
  | .slice t x lo hi mx => wSlice C G fr t x lo hi mx
  | .makeInterface t x => wMkI C G fr t x
  | .call ⟨.builtin .len, args, ats⟩ => wLen C G fr args ats
  | .call ⟨.builtin .min, args, _⟩ => wMin C G fr args
  | .call ⟨.builtin .max, args, _⟩ => wMax C G fr args
  | _ => none
end

/-! ### operations on blocks -/
/-- what an operation did with memory -/
inductive EvW where
  | loadO (b : Nat)
  | loadF
  | storeO (b : Nat)
  | gen
  | dirty
noncomputable def bytesW (s : List UInt8) : List W := s.map fun c => .int .u8 (.ofNat c.toNat)
noncomputable def bytesOfW : List W → Option (List UInt8)
  | [] => some []
  | .int .u8 (.ofNat c) :: l => match Nat.blt c 256, bytesOfW l with
    | true, some r => some (UInt8.ofNat c :: r)
    | _, _ => none
  | _ => none
noncomputable def srcW (C : Cfg) (hp : HpW) (tx : TypeId) (esz : Nat) (x : W) : Option (List W) := match C.ty tx with
  | none => none
  | some j => match j.d, x with
    | .slice _, .nils => some []
    | .slice _, .fz l e _ => match Nat.beq e esz with
      | true => some l
      | false => none
    | .slice _, .sl b _ off n e _ => match Nat.beq e esz, hget hp b with
      | true, some (_, v) => subArrW 50 v off n esz
      | _, _ => none
    | .str, .str s => match Nat.beq esz 1 with
      | true => some (bytesW s)
      | false => none
    | _, _ => none
/-- a value, the blocks, how many numbers are used, what was done -/
abbrev OutW := W × HpW × Nat × EvW
noncomputable def appW (C : Cfg) (hp : HpW) (nw : Nat) (ts tx : TypeId) (s x : W) : Option OutW := match C.ty ts with
  | none => none
  | some j => match j.d with
    | .slice e => match C.ty e with
      | none => none
      | some k => match Nat.beq k.size 0 with
        | true => none
        | false => match srcW C hp tx k.size x with
          | none => none
          | some news => match s with
            | .nils => match news with
              | [] => some (.nils, hp, nw, .gen)
              | _ :: _ => match Nat.ble (news.length * k.bytes) 140737488355328 && Nat.ble news.length 70368744177664 with
                | true => some (.sl nw 0 0 news.length k.size none, (nw, e, .arr (news.length * k.size) k.size news) :: hp, nw + 1, .gen)
                | false => none
            | .fz l esz full => match Nat.beq esz k.size, news with
              | false, _ => none
              | true, [] => some (.fz l esz full, hp, nw, .gen)
              | true, _ :: _ => match Nat.ble ((l.length + news.length) * k.bytes) 140737488355328 && Nat.ble (l.length + news.length) 70368744177664 && full with
                | true => some (.sl nw 0 0 (l.length + news.length) k.size none, (nw, e, .arr ((l.length + news.length) * k.size) k.size (l ++ news)) :: hp, nw + 1, .gen)
                | false => none
            | .sl b base off len esz lim => match Nat.beq esz k.size, news with
              | false, _ => none
              | true, [] => some (.sl b base off len esz lim, hp, nw, .gen)
              | true, _ :: _ => match Nat.ble ((len + news.length) * k.bytes) 140737488355328 && Nat.ble (len + news.length) 70368744177664, hget hp b with
                | true, some (ty, v) => match lim with
                  | some c => match Nat.ble (len + news.length) c with
                    | true => match Nat.ble (off + (len + news.length) * esz) v.size with
                      | true => match putNW v (off + len * esz) esz news with
                        | some v' => some (.sl b base off (len + news.length) esz lim, hset hp b (ty, v'), nw, .dirty)
                        | none => none
                      | false => none
                    | false => match subArrW 50 v off len esz with
                      | some olds => some (.sl nw 0 0 (len + news.length) esz none, (nw, e, .arr ((len + news.length) * esz) esz (olds ++ news)) :: hp, nw + 1, .gen)
                      | none => none
                  | none => match Nat.ble (off + (len + news.length) * esz) v.size with
                    | true => match putNW v (off + len * esz) esz news with
                      | some v' => some (.sl b base off (len + news.length) esz none, hset hp b (ty, v'), nw, .dirty)
                      | none => none
                    | false => match Nat.beq ty e, subArrW 50 v off len esz with
                      | true, some olds => some (.sl nw 0 0 (len + news.length) esz none, (nw, e, .arr ((len + news.length) * esz) esz (olds ++ news)) :: hdel hp b, nw + 1, .dirty)
                      | _, _ => none
                | _, _ => none
            | _ => none
    | _ => none
noncomputable def repW (n e : Nat) (z : W) : W := .arr (n * e) e (List.replicate n z)
section
variable (C : Cfg) (G : Nat → Option W) (fr : FrW) (hp : HpW) (nw : Nat)
noncomputable def fillEW (e : Nat) : W → List (Nat × Operand) → Option W
  | v, [] => some v
  | v, (i, x) :: l => match evW C G fr x with
    | some y => match Nat.beq y.size e with
      | true => match putAtW 50 v (i * e) y with
        | some v' => fillEW e v' l
        | none => none
      | false => none
    | none => none
noncomputable def hConv (s : TypeId) (t : TypeId) (x : Operand) : Option OutW := match C.ty s, C.ty t, evW C G fr x with
  | some js, some jt, some v => match js.d, jt.d, v with
    | .slice e, .str, v => match descOf C e, v with
      | some (.int .u8), .nils => some (.str [], hp, nw, .gen)
      | some (.int .u8), .fz l esz _ => match Nat.beq esz 1 with
        | true => match bytesOfW l with
          | some r => some (.str r, hp, nw, .gen)
          | none => none
        | false => none
      | some (.int .u8), .sl b _ off n esz _ => match Nat.beq esz 1, hget hp b with
        | true, some (_, bv) => match subArrW 50 bv off n esz with
          | some l => match bytesOfW l with
            | some r => some (.str r, hp, nw, .gen)
            | none => none
          | none => none
        | _, _ => none
      | _, _ => none
    | _, _, _ => none
  | _, _, _ => none
noncomputable def hLoad (t : TypeId) (x : Operand) : Option OutW := match evW C G fr x, C.ty t with
  | some (.ptr b off), some i => match hget hp b with
    | some (_, v) => match getAtW 50 v off i.size i.agg with
      | some r => some (r, hp, nw, .loadO b)
      | none => none
    | none => none
  | some (.fel v), some i => match getAtW 50 v 0 i.size i.agg with
    | some r => some (r, hp, nw, .loadF)
    | none => none
  | _, _ => none
noncomputable def hStore (t : TypeId) (x : Operand) (y : Operand) : Option OutW := match evW C G fr x, evW C G fr y, C.ty t with
  | some (.ptr b off), some u, some i => match hget hp b, Nat.beq u.size i.size with
    | some (ty, v), true => match putAtW 50 v off u with
      | some v' => some (.undef, hset hp b (ty, v'), nw, .storeO b)
      | none => none
    | _, _ => none
  | _, _, _ => none
noncomputable def hAlloc (t : TypeId) : Option OutW := match C.ty t with
  | some i => match embW i.zero with
    | some z => some (.ptr nw 0, (nw, t, z) :: hp, nw + 1, .gen)
    | none => none
  | none => none
noncomputable def hBox (t : TypeId) (x : Operand) : Option OutW := match evW C G fr x with
  | some v => match v.leaf || v.isAgg with
    | true => some (.ptr nw 0, (nw, t, v) :: hp, nw + 1, .gen)
    | false => none
  | none => none
noncomputable def hBuildS (t : TypeId) (n : Nat) (parts : Array (Nat × Operand)) : Option OutW := match C.ty t with
  | some i => match i.d with
    | .slice e => match C.ty e with
      | some k => match Nat.beq k.size 0 || !Nat.ble (n * k.size) 16777216, embW k.zero with
        | false, some z => match Nat.beq z.size k.size, fillEW C G fr k.size (repW n k.size z) parts.toList with
          | true, some v => some (.sl nw 0 0 n k.size none, (nw, e, v) :: hp, nw + 1, .gen)
          | _, _ => none
        | _, _ => none
      | none => none
    | _ => none
  | none => none
noncomputable def hMakeS (t : TypeId) (x : Operand) (y : Operand) : Option OutW := match C.ty t, evW C G fr x, evW C G fr y with
  | some i, some u, some v => match i.d, natW u, natW v with
    | .slice e, some l, some c => match C.ty e with
      | some k => match Nat.beq k.size 0 || !Nat.ble l c || !Nat.ble (k.bytes * c) 281474976710656 || !Nat.ble c 9223372036854775807, embW k.zero with
        | false, some z => match Nat.beq z.size k.size with
          | true => some (.sl nw 0 0 l k.size none, (nw, e, repW c k.size z) :: hp, nw + 1, .gen)
          | false => none
        | _, _ => none
      | none => none
    | _, _, _ => none
  | _, _, _ => none
noncomputable def hAppend (args : Array Operand) (ats : Array TypeId) : Option OutW := match args.toList, ats.toList with
  | [x, y], [ts, tx] => match evW C G fr x, evW C G fr y with
    | some s, some u => appW C hp nw ts tx s u
    | _, _ => none
  | _, _ => none
noncomputable def hSlice (t : TypeId) (x : Operand) (lo : Option Operand) (hi : Option Operand) (mx : Option Operand) : Option OutW := match C.ty t, evW C G fr x with
  | some j, some v => match j.d, v with
    | .arr n e, .ptr b off => match C.ty e, bndW C G fr 0 lo, bndW C G fr n hi, mx, hget hp b with
      | some k, some l, some r, none, some (_, bv) => match Nat.beq k.size 0 || !Nat.ble l r || !Nat.ble r n || !Nat.ble (off + n * k.size) bv.size with
        | true => none
        | false => some (.sl b off (off + l * k.size) (r - l) k.size (some (n - l)), hp, nw, .gen)
      | _, _, _, _, _ => none
    | .arr n e, .fel y => match C.ty e, bndW C G fr 0 lo, bndW C G fr n hi, mx with
      | some k, some l, some r, none => match Nat.beq k.size 0 || !Nat.ble l r || !Nat.ble r n || !Nat.ble (n * k.size) y.size with
        | true => none
        | false => match subArrW 50 y (l * k.size) (r - l) k.size with
          | some xs => some (.fz xs k.size (Nat.beq r n), hp, nw, .gen)
          | none => none
      | _, _, _, _ => none
    | _, _ => none
  | _, _ => none
noncomputable def opHW : Op → Option OutW
  | .convert s t x => hConv C G fr hp nw s t x
  | .load t x => hLoad C G fr hp nw t x
  | .store t x y => hStore C G fr hp nw t x y
  | .alloc t => hAlloc C hp nw t
  | .box t x => hBox C G fr hp nw t x
  | .buildSlice t n parts => hBuildS C G fr hp nw t n parts
  | .makeSlice t x y => hMakeS C G fr hp nw t x y
  | .call ⟨.builtin .append, args, ats⟩ => hAppend C G fr hp nw args ats
  | .slice t x lo hi mx => hSlice C G fr hp nw t x lo hi mx
  | _ => none
end
end Go.Proofs.YtmlemnbhjbaedaaGreatDoor

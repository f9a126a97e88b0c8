/-
  The plain machine's operations: those that only reckon ('pureV'), those that touch memory ('opH'). Nothing here speaks of a program.
-/
import Derived.Test.YtmlemnbhjbaedaaGreatDoorEPure
import Derived.Test.YtmlemnbhjbaedaaGreatDoorByt
namespace Go.Proofs.YtmlemnbhjbaedaaGreatDoor
open Go.RowKit
set_option linter.unusedSimpArgs false
set_option linter.unusedVariables false

noncomputable def binS (op : BinOp) (a b : List UInt8) : Option V := match op with
  | .add => match Nat.ble (a.length + b.length) 9223372036854775807 with
    | true => some (.str (a ++ b))
    | false => none
  | .eql => some (.bool (bytesEq a b))
  | .neq => some (.bool (!bytesEq a b))
  | .lss => some (.bool (Op.bytesLess a b))
  | .leq => some (.bool (Op.bytesLess a b || bytesEq a b))
  | .gtr => some (.bool (!(Op.bytesLess a b || bytesEq a b)))
  | .geq => some (.bool (!Op.bytesLess a b))
  | _ => none
/-- values that are held against each other but are no numbers, no texts -/
noncomputable def plainEq : V → V → Bool
  | .bool _, .bool _ => true
  | .nilp, .nilp => true
  | .nilp, .ptr _ _ => true
  | .ptr _ _, .nilp => true
  | .nils, .nils => true
  | .nils, .sl _ _ _ _ _ _ => true
  | .sl _ _ _ _ _ _, .nils => true
  | x, y => x.isAgg && y.isAgg
noncomputable def binV (C : Cfg) (op : BinOp) (t : TypeId) (x y : V) : Option V := match x, y with
  | .int k m, .int k' n => match op with
    | .shl => shI .shl k m n
    | .shr => shI .shr k m n
    | _ => match decide (k = k') with
      | true => binI op k m n
      | false => none
  | .str a, .str b => binS op a b
  | x, y => match plainEq x y with
    | false => none
    | true => match op with
      | .eql => match eqV C 300 t x y with
        | some b => some (.bool b)
        | none => none
      | .neq => match eqV C 300 t x y with
        | some b => some (.bool (!b))
        | none => none
      | _ => none
noncomputable def natI : V → Option Nat
  | .int _ (.ofNat n) => some n
  | _ => none
/-- a bound of a part; none: it is left out -/
noncomputable def bndI (C : Cfg) (fr : Tr V) (d : Nat) : Option Operand → Option Nat
  | none => some d
  | some x => match evV C fr x with
    | some v => natI v
    | none => none
noncomputable def limCut (l : Nat) : Option Nat → Option Nat
  | some c => some (c - l)
  | none => none
/-- a part of a slice, within its length -/
noncomputable def cutV (b base off len esz : Nat) (lim : Option Nat) (l h : Nat) : Option Nat → Option V
  | none => match Nat.ble l h && Nat.ble h len with
    | true => some (.sl b (match Nat.beq l 0 with | true => base | false => off) (off + l * esz) (h - l) esz (limCut l lim))
    | false => none
  | some m => match Nat.ble l h && Nat.ble h m && Nat.ble m len && Nat.ble 1 m with
    | true => some (.sl b off (off + l * esz) (h - l) esz (some (m - l)))
    | false => none
noncomputable def structF (C : Cfg) (t : TypeId) (i : Nat) : Option (TypeId × Nat) := match C.ty t with
  | some j => match j.d with
    | .struct fs => fs[i]?
    | _ => none
  | none => none
noncomputable def placeOf (C : Cfg) (t : TypeId) (i : Nat) : Option (Nat × Nat) := match C.ty t with
  | some j => match j.d with
    | .struct fs => match fs[i]? with
      | some (ft, off) => match C.ty ft with
        | some k => some (off, k.size)
        | none => none
      | none => none
    | .arr _ e => match C.ty e with
      | some k => some (i * k.size, k.size)
      | none => none
    | _ => none
  | none => none
noncomputable def fillV (C : Cfg) (fr : Tr V) (t : TypeId) : V → List (Nat × Operand) → Option V
  | v, [] => some v
  | v, (i, x) :: l => match placeOf C t i, evV C fr x with
    | some (off, sz), some y => match Nat.beq y.size sz with
      | true => match putAt 50 v off y with
        | some v' => fillV C fr t v' l
        | none => none
      | false => none
    | _, _ => none
noncomputable def pvPick (C : Cfg) (fr : Tr V) (c : Operand) (x : Operand) (y : Operand) : Option V := match evV C fr c with
  | some (.bool true) => evV C fr x
  | some (.bool false) => evV C fr y
  | _ => none
noncomputable def pvExtract (C : Cfg) (fr : Tr V) (x : Operand) (i : Nat) : Option V := match evV C fr x with
  | some (.tup vs) => vs[i]?
  | _ => none
noncomputable def pvNilcheck (C : Cfg) (fr : Tr V) (x : Operand) : Option V := match evV C fr x with
  | some (.ptr b o) => some (.ptr b o)
  | some (.sl b base off len esz lim) => some (.sl b base off len esz lim)
  | some (.fn f a c) => some (.fn f a c)
  | some (.yield l) => some (.yield l)
  | _ => none
noncomputable def pvUnopNot (C : Cfg) (fr : Tr V) (x : Operand) : Option V := match evV C fr x with
  | some (.bool b) => some (.bool (!b))
  | _ => none
noncomputable def pvUnopNeg (C : Cfg) (fr : Tr V) (x : Operand) : Option V := match evV C fr x with
  | some (.int k n) => some (.int k (wrapF k (0 - n)))
  | _ => none
noncomputable def pvUnopXor (C : Cfg) (fr : Tr V) (x : Operand) : Option V := match evV C fr x with
  | some (.int k n) => match notF k n with
    | some c => some (.int k c)
    | none => none
  | _ => none
/-- a value of an interface against the literal nil -/
noncomputable def nilIB (C : Cfg) (op : BinOp) (t : TypeId) (y : Operand) (u v : V) : Option V := match C.ty t, y, v with
  | some j, .const .nilIface, .nili => match j.d, op, u with
    | .iface, .eql, .nili => some (.bool true)
    | .iface, .eql, .iface _ _ => some (.bool false)
    | .iface, .neq, .nili => some (.bool false)
    | .iface, .neq, .iface _ _ => some (.bool true)
    | _, _, _ => none
  | _, _, _ => none
noncomputable def pvBinop (C : Cfg) (fr : Tr V) (op : BinOp) (t : TypeId) (x : Operand) (y : Operand) : Option V := match evV C fr x, evV C fr y with
  | some u, some v => match binV C op t u v with
    | some r => some r
    | none => nilIB C op t y u v
  | _, _ => none
noncomputable def pvConvert (C : Cfg) (fr : Tr V) (s : TypeId) (t : TypeId) (x : Operand) : Option V := match C.ty s, C.ty t, evV C fr x with
  | some _, some j, some v => match j.d, v with
    | .int k, .int _ n => some (.int k (wrapF k n))
    | .str, .str a => some (.str a)
    | _, _ => none
  | _, _, _ => none
noncomputable def pvMakefunc (C : Cfg) (fr : Tr V) (f : FuncId) (a : Array Operand) (c : Array Operand) : Option V := match evL C fr a.toList, evL C fr c.toList with
  | some u, some v => some (.fn f u v)
  | _, _ => none
noncomputable def pvBuild (C : Cfg) (fr : Tr V) (t : TypeId) (parts : Array (Nat × Operand)) : Option V := match C.ty t with
  | some j => match j.agg with
    | true => fillV C fr t j.zero parts.toList
    | false => none
  | none => none
noncomputable def pvField (C : Cfg) (fr : Tr V) (t : TypeId) (x : Operand) (i : Nat) : Option V := match structF C t i, evV C fr x with
  | some (ft, off), some v => match C.ty ft, v.isAgg with
    | some k, true => getAt 50 v off k.size k.agg
    | _, _ => none
  | _, _ => none
noncomputable def pvFieldaddr (C : Cfg) (fr : Tr V) (t : TypeId) (x : Operand) (i : Nat) : Option V := match structF C t i, evV C fr x with
  | some (ft, fo), some (.ptr b off) => match C.ty ft with
    | some k => match Nat.beq k.size 0 with
      | true => none
      | false => some (.ptr b (off + fo))
    | none => none
  | _, _ => none
noncomputable def pvIndexaddr (C : Cfg) (fr : Tr V) (t : TypeId) (x : Operand) (y : Operand) : Option V := match C.ty t, evV C fr x, evV C fr y with
  | some j, some v, some u => match natI u, j.d, v with
    | some i, .arr n e, .ptr b off => match C.ty e, Nat.blt i n with
      | some k, true => some (.ptr b (off + i * k.size))
      | _, _ => none
    | some i, .slice e, .sl b _ off len esz _ => match C.ty e, Nat.blt i len with
      | some k, true => match Nat.beq k.size esz with
        | true => some (.ptr b (off + i * esz))
        | false => none
      | _, _ => none
    | _, _, _ => none
  | _, _, _ => none
noncomputable def pvIndex (C : Cfg) (fr : Tr V) (t : TypeId) (x : Operand) (y : Operand) : Option V := match C.ty t, evV C fr x, evV C fr y with
  | some j, some v, some u => match natI u, j.d, v with
    | some i, .str, .str s => match s[i]? with
      | some c => some (.int .u8 (.ofNat c.toNat))
      | none => none
    | some i, .arr n e, v => match C.ty e, Nat.blt i n, v.isAgg with
      | some k, true, true => getAt 50 v (i * k.size) k.size k.agg
      | _, _, _ => none
    | _, _, _ => none
  | _, _, _ => none
noncomputable def pvSlice (C : Cfg) (fr : Tr V) (t : TypeId) (x : Operand) (lo : Option Operand) (hi : Option Operand) (mx : Option Operand) : Option V := match C.ty t, evV C fr x with
  | some j, some v => match j.d, v with
    | .slice e, .sl b base off len esz lim => match C.ty e, bndI C fr 0 lo, bndI C fr len hi with
      | some k, some l, some h => match Nat.beq k.size esz with
        | true => match mx with
          | none => cutV b base off len esz lim l h none
          | some z => match hi, bndI C fr 0 (some z) with
            | some _, some m => cutV b base off len esz lim l h (some m)
            | _, _ => none
        | false => none
      | _, _, _ => none
    | .slice e, .nils => match C.ty e, bndI C fr 0 lo, bndI C fr 0 hi, mx with
      | some _, some 0, some 0, none => some .nils
      | _, _, _, _ => none
    | .str, .str s => match bndI C fr 0 lo, bndI C fr s.length hi, mx with
      | some l, some h, none => match Nat.ble l h && Nat.ble h s.length with
        | true => some (.str ((s.drop l).take (h - l)))
        | false => none
      | _, _, _ => none
    | _, _ => none
  | _, _ => none
noncomputable def pvMakeinterface (C : Cfg) (fr : Tr V) (t : TypeId) (x : Operand) : Option V := match C.ty t, evV C fr x with
  | some j, some v => match j.d with
    | .iface => none
    | _ => some (.iface t v)
  | _, _ => none
/-- what a value of an interface holds, if it is of a type that is none -/
noncomputable def pvAssert (C : Cfg) (fr : Tr V) (x : Operand) (t : TypeId) (ok : Bool) : Option V := match C.ty t, evV C fr x with
  | some j, some v => match j.d with
    | .iface => none
    | _ => match v, ok with
      | .nili, true => some (.tup [j.zero, .bool false])
      | .iface s u, true => match Nat.beq s t with
        | true => some (.tup [u, .bool true])
        | false => some (.tup [j.zero, .bool false])
      | .iface s u, false => match Nat.beq s t with
        | true => some u
        | false => none
      | _, _ => none
  | _, _ => none
noncomputable def pvLen (C : Cfg) (fr : Tr V) (args : Array Operand) (ats : Array TypeId) : Option V := match ats.toList, args.toList with
  | [t], [x] => match C.ty t, evV C fr x with
    | some j, some v => match j.d, v with
      | .str, .str s => some (.int .i64 (.ofNat s.length))
      | .slice _, .sl _ _ _ n _ _ => some (.int .i64 (.ofNat n))
      | .slice _, .nils => some (.int .i64 0)
      | .arr n _, _ => some (.int .i64 (.ofNat n))
      | _, _ => none
    | _, _ => none
  | _, _ => none
noncomputable def pvMin (C : Cfg) (fr : Tr V) (args : Array Operand) : Option V := match args.toList with
  | [x, y] => match evV C fr x, evV C fr y with
    | some (.int k m), some (.int _ n) => some (.int k (match ltI n m with | true => n | false => m))
    | _, _ => none
  | _ => none
noncomputable def pvMax (C : Cfg) (fr : Tr V) (args : Array Operand) : Option V := match args.toList with
  | [x, y] => match evV C fr x, evV C fr y with
    | some (.int k m), some (.int _ n) => some (.int k (match ltI m n with | true => n | false => m))
    | _, _ => none
  | _ => none
noncomputable def pureV (C : Cfg) (fr : Tr V) (rt : TypeId) : Op → Option V
  | .move x => evV C fr x
  | .assign x => evV C fr x
  | .pick c x y => pvPick C fr c x y
  | .extract x i => pvExtract C fr x i
  | .nilCheck x => pvNilcheck C fr x
  | .unOp .not _ x => pvUnopNot C fr x
  | .unOp .neg _ x => pvUnopNeg C fr x
  | .unOp .xor _ x => pvUnopXor C fr x
  | .binOp op t x y _ => pvBinop C fr op t x y
  | .convert s t x => pvConvert C fr s t x
  | .makeFunc (.func f) a c => pvMakefunc C fr f a c
  | .build t parts => pvBuild C fr t parts
  | .field t x i => pvField C fr t x i
  | .fieldAddr t x i => pvFieldaddr C fr t x i
  | .indexAddr t x y => pvIndexaddr C fr t x y
  | .index t x y => pvIndex C fr t x y
  | .slice t x lo hi mx => pvSlice C fr t x lo hi mx
  | .makeInterface t x => pvMakeinterface C fr t x
  | .typeAssert x _ t ok => pvAssert C fr x t ok
  | .call ⟨.builtin .len, args, ats⟩ => pvLen C fr args ats
  | .call ⟨.builtin .min, args, _⟩ => pvMin C fr args
  | .call ⟨.builtin .max, args, _⟩ => pvMax C fr args
  | _ => none

/-! ### what is reckoned is what the model reckons -/
structure FrE (C : Cfg) (D : Nat → Prop) (ρ : Env) (fr : Tr V) (a : Act) : Prop extends FrOK C (DD D ρ) ρ fr a
section
variable {P : Program} {C : Cfg} {D : Nat → Prop} {ρ : Env} {fr : Tr V} {a : Act} {w : World}
theorem natI_spec {v : V} {n : Nat} (h : natI v = some n) : ∃ k, v = .int k (n : Int) := by
  unfold natI at h
  split at h
  · cases h; exact ⟨_, rfl⟩
  · cases h
theorem slCap_ge {b base off len esz : Nat} {lim : Option Nat} (h : InD (DD D ρ) (.sl b base off len esz lim)) : len ≤ slCap ρ b off esz lim := by
  obtain ⟨h1, h2, _, h4⟩ := h
  cases lim with
  | some c => exact h2
  | none =>
    simp only [Option.getD_none] at h4
    simp only [slCap]
    rw [Nat.le_div_iff_mul_le h1]
    omega
theorem binS_eq {op : BinOp} {a b : List UInt8} {r : V} (h : binS op a b = some r) {t : TypeId} {x y : Operand} (w : World) :
    (do eqGuard op t x y (.string ⟨⟨a⟩⟩) (.string ⟨⟨b⟩⟩); binOp op t (.string ⟨⟨a⟩⟩) (.string ⟨⟨b⟩⟩)).run P w = .ok (conc ρ r) w := by
  have e1 : ∀ l : List UInt8, (⟨⟨l⟩⟩ : ByteArray).toList = l := fun l => by rw [ByteArray.toList_eq]
  have e2 : ∀ a b : List UInt8, (a == b) = bytesEq a b := fun a b => by rw [bytesEq_eq, Bool.eq_iff_iff]; simp
  have e3 : (⟨⟨a⟩⟩ ++ ⟨⟨b⟩⟩ : ByteArray) = ⟨⟨a ++ b⟩⟩ := by
    apply ByteArray.ext
    simp
  unfold binS at h
  cases op <;> simp only at h <;> try (cases h; done)
  case add =>
    split at h
    · rename_i hl
      have hl := Nat.le_of_ble_eq_true hl
      cases h
      have h1 : ¬ (((ByteArray.mk ⟨a⟩).size + (ByteArray.mk ⟨b⟩).size : Nat) : Int) > IntKind.i64.max := by
        have : (ByteArray.mk ⟨a⟩).size + (ByteArray.mk ⟨b⟩).size = a.length + b.length := rfl
        rw [this]
        have : IntKind.i64.max = 9223372036854775807 := by decide
        omega
      simp only [eqGuard, binOp, Op.stringOp, Sem.run_bind, Sem.run_pure, Result.andThen_ok, h1, if_false, e3, conc]
      simp
    · cases h
  all_goals
    cases h
    simp [eqGuard, binOp, Op.stringOp, e1, e2, conc]
theorem eqV_agg {f : Nat} {t : TypeId} {u v : V} {b : Bool} (hu : u.isAgg = true) (hv : v.isAgg = true) (h : eqV C (f + 1) t u v = some b) : ∃ i, C.ty t = some i ∧ i.agg = true := by
  simp only [eqV] at h
  split at h
  · cases h
  · rename_i i hi
    refine ⟨i, hi, ?_⟩
    unfold TyI.agg
    cases u <;> simp [V.isAgg] at hu <;> cases v <;> simp [V.isAgg] at hv <;> (cases hd : i.d <;> simp [hd] at h ⊢)
theorem binV_eq (hC : CfgOK P C) {op : BinOp} {t : TypeId} {u v r : V} (h : binV C op t u v = some r) {x y : Operand} (w : World) :
    (do eqGuard op t x y (conc ρ u) (conc ρ v); binOp op t (conc ρ u) (conc ρ v)).run P w = .ok (conc ρ r) w := by
  unfold binV at h
  split at h
  · simp only [conc]
    split at h
    · exact shI_eq w h
    · exact shI_eq w h
    · split at h
      · rename_i hk
        simp only [decide_eq_true_eq] at hk
        subst hk
        exact binI_eq w h
      · cases h
  · simp only [conc]
    exact binS_eq h w
  · rename_i hni hns
    split at h
    · cases h
    · rename_i hp
      have key : ∀ b, eqV C 300 t u v = some b → (eqGuard op t x y (conc ρ u) (conc ρ v)).run P w = .ok () w ∧ (op = .eql → (binOp op t (conc ρ u) (conc ρ v)).run P w = .ok (.bool b) w) ∧ (op = .neq → (binOp op t (conc ρ u) (conc ρ v)).run P w = .ok (.bool (!b)) w) := fun b hb => by
        have he : (Op.equal t (conc ρ u) (conc ρ v)).run P w = .ok b w := eqV_spec hC 300 t u v b hb Op.maxDepth (by decide) w
        unfold plainEq at hp
        split at hp
        · simp only [conc, slConc] at he ⊢
          refine ⟨by unfold eqGuard; cases op <;> simp, fun e => ?_, fun e => ?_⟩ <;> (subst e; simp [binOp, he])
        · simp only [conc, slConc] at he ⊢
          refine ⟨by unfold eqGuard; cases op <;> simp, fun e => ?_, fun e => ?_⟩ <;> (subst e; simp [binOp, he])
        · simp only [conc, slConc] at he ⊢
          refine ⟨by unfold eqGuard; cases op <;> simp, fun e => ?_, fun e => ?_⟩ <;> (subst e; simp [binOp, he])
        · simp only [conc] at he ⊢
          refine ⟨by unfold eqGuard; cases op <;> simp, fun e => ?_, fun e => ?_⟩ <;> (subst e; simp [binOp, he])
        · simp only [conc] at he ⊢
          refine ⟨by unfold eqGuard; cases op <;> simp, fun e => ?_, fun e => ?_⟩ <;> (subst e; simp [binOp, he])
        · simp only [conc] at he ⊢
          refine ⟨by unfold eqGuard; cases op <;> simp, fun e => ?_, fun e => ?_⟩ <;> (subst e; simp [binOp, he])
        · simp only [conc] at he ⊢
          refine ⟨by unfold eqGuard; cases op <;> simp, fun e => ?_, fun e => ?_⟩ <;> (subst e; simp [binOp, he])
        · simp only [Bool.and_eq_true] at hp
          rw [conc_agg hp.1, conc_agg hp.2] at he ⊢
          have hg : P.eqGuardType P.depth t = false := by
            obtain ⟨i, hi, ha⟩ := eqV_agg hp.1 hp.2 hb
            exact (hC.ty t i hi).eqg ha
          refine ⟨eqGuard_agg hg w, fun e => ?_, fun e => ?_⟩ <;> (subst e; simp [binOp, he])
      split at h
      · split at h
        · rename_i b hb
          cases h
          obtain ⟨k1, k2, _⟩ := key b hb
          rw [Sem.run_bind, k1, Result.andThen_ok, k2 rfl]; simp [conc]
        · cases h
      · split at h
        · rename_i b hb
          cases h
          obtain ⟨k1, _, k2⟩ := key b hb
          rw [Sem.run_bind, k1, Result.andThen_ok, k2 rfl]; simp [conc]
        · cases h
      · cases h
/-! parts put together -/
theorem spl_cons {c vs : List Value} {off : Nat} {v : Value} (h : off < c.length) : spl (c.set off v) (off + 1) vs = spl c off (v :: vs) := by
  have e1 : (c.set off v).take (off + 1) = c.take off ++ [v] := by
    rw [List.take_add_one, List.take_set_of_le (Nat.le_refl _), List.getElem?_set_self h]; rfl
  have e2 : (c.set off v).drop (off + 1 + vs.length) = c.drop (off + (v :: vs).length) := by
    rw [List.drop_set_of_lt (by omega)]
    congr 1
    simp only [List.length_cons]; omega
  simp only [spl, e1, e2, List.append_assoc, List.singleton_append]
theorem fold_spl : ∀ (vs : List Value) (off j : Nat) (cs : Array Value), off + j + vs.length ≤ cs.size →
    (vs.zipIdx j).foldl (fun cs (p : Value × Nat) => cs.setIfInBounds (off + p.2) p.1) cs = (spl cs.toList (off + j) vs).toArray
  | [], off, j, cs, _ => by simp [spl]
  | v :: vs, off, j, cs, h => by
    simp only [List.length_cons] at h
    rw [List.zipIdx_cons, List.foldl_cons, fold_spl vs off (j + 1) _ (by simp; omega)]
    simp only [Array.toList_setIfInBounds]
    rw [show off + (j + 1) = off + j + 1 by omega, spl_cons (by simp; omega)]
theorem fillV_spec {place : Nat → Option (Nat × Nat)} (hfr : FrE C D ρ fr a) {t : TypeId} (hp : ∀ i off sz, placeOf C t i = some (off, sz) → place i = some (off, sz)) : ∀ (parts : List (Nat × Operand)) (v v' : V), fillV C fr t v parts = some v' → InD (DD D ρ) v →
    Instr.fill place (cellsV ρ v).toArray (parts.map fun p => (p.1, a.eval p.2)) = some (cellsV ρ v').toArray ∧ InD (DD D ρ) v' ∧ v'.isAgg = v.isAgg ∧ v'.size = v.size
  | [], v, v', h, hv => by simp only [fillV, Option.some.injEq] at h; subst h; exact ⟨rfl, hv, rfl, rfl⟩
  | (i, x) :: l, v, v', h, hv => by
    simp only [fillV] at h
    split at h
    · rename_i off sz y hpl hx
      split at h
      · rename_i hsz
        rw [Nat.beq_eq] at hsz
        split at h
        · rename_i v1 hput
          obtain ⟨e1, e2⟩ := hfr.ev hx
          obtain ⟨k1, k2, k3, k4, k5, k6⟩ := putAt_spec (ρ := ρ) 50 v off y v1 hput
          obtain ⟨g1, g2, g3, g4⟩ := fillV_spec hfr hp l v1 v' h (putAt_in hput hv e2)
          refine ⟨?_, g2, g3.trans k4, g4.trans k1⟩
          have hcells : (conc ρ y).cells = (cellsV ρ y).toArray := conc_cells k6
          simp only [List.map_cons, Instr.fill, hp i off sz hpl, e1, hcells]
          have hn : ¬ ((cellsV ρ y).toArray.size ≠ sz || decide (off + (cellsV ρ y).toArray.size > (cellsV ρ v).toArray.size)) = true := by
            simp [hsz]; omega
          rw [if_neg hn]
          have hz : (cellsV ρ y).toArray.zipIdx.foldl (fun cs (p : Value × Nat) => cs.setIfInBounds (off + p.2) p.1) (cellsV ρ v).toArray = (cellsV ρ v1).toArray := by
            have := fold_spl (cellsV ρ y) off 0 (cellsV ρ v).toArray (by simp; omega)
            rw [k3, ← Array.foldl_toList]
            simpa using this
          rw [hz]
          exact g1
        · cases h
      · cases h
    · cases h
theorem run_build (hC : CfgOK P C) (hfr : FrE C D ρ fr a) {t : TypeId} {j : TyI} {parts : Array (Nat × Operand)} {v : V} (hj : C.ty t = some j) (ha : j.agg = true) (h : fillV C fr t j.zero parts.toList = some v) (w : World) :
    (Instr.build t (parts.map fun (p : Nat × Operand) => (p.1, a.eval p.2))).run P w = .ok (conc ρ v) w ∧ InD (DD D ρ) v := by
  have ok := hC.ty t j hj
  obtain ⟨inf, hin, hsz, hby, hz⟩ := ok.info
  have hzero : (zeroValue t).run P w = .ok (conc ρ j.zero) w := run_zeroValue' (ok.zero ρ) w
  have hzin : InD (DD D ρ) j.zero := ok.zin.mono fun _ _ h => h.elim
  have hd := ok.d
  have hza : j.zero.isAgg = true := by rw [ok.zagg]; exact ha
  have hzc : (conc ρ j.zero).cells = (cellsV ρ j.zero).toArray := conc_cells (.inr hza)
  have hlist : (parts.map fun (p : Nat × Operand) => (p.1, a.eval p.2)).toList = parts.toList.map fun p => (p.1, a.eval p.2) := by simp
  have fin : ∀ place : Nat → Option (Nat × Nat), (∀ i off sz, placeOf C t i = some (off, sz) → place i = some (off, sz)) →
      Instr.fill place (conc ρ j.zero).cells (parts.map fun (p : Nat × Operand) => (p.1, a.eval p.2)).toList = some (cellsV ρ v).toArray ∧ InD (DD D ρ) v ∧ conc ρ v = .agg (cellsV ρ v).toArray := fun place hp => by
    obtain ⟨g1, g2, g3, _⟩ := fillV_spec hfr hp parts.toList j.zero v h hzin
    refine ⟨by rw [hlist, hzc]; exact g1, g2, conc_agg (by rw [g3]; exact hza)⟩
  unfold TyI.agg at ha
  split at ha
  · rename_i n e he
    rw [he] at hd
    obtain ⟨hd, hie⟩ := hd
    obtain ⟨ie, hie⟩ := Option.isSome_iff_exists.1 hie
    have hse : (sizeOf e).run P w = .ok ie.size w := run_sizeOf' (by simp [hie]) w
    obtain ⟨g1, g2, g3⟩ := fin (fun i => some (i * ie.size, ie.size)) fun i off sz hpl => by
      simp only [placeOf, hj, he] at hpl
      split at hpl
      · rename_i k hk
        obtain ⟨inf', hin', hsz', _⟩ := (hC.ty e k hk).info
        rw [hie] at hin'
        cases hin'
        cases hpl
        rw [hsz']
      · cases hpl
    refine ⟨?_, g2⟩
    simp only [Instr.build, Sem.run_bind, hzero, Result.andThen_ok, run_underlying hd, hse, g1, Sem.run_pure, g3]
  · rename_i fs he
    rw [he] at hd
    obtain ⟨h1, h2, h3, h4, h5⟩ := hd
    have hpl : ∃ places : Array (Nat × Nat), ((P.fieldsOf t).mapM fun (f : Field) => (do pure (f.offset, ← sizeOf f.type) : Sem (Nat × Nat))).run P w = .ok places w ∧ ∀ (i : Nat) f (k : Nat), (P.fieldsOf t)[i]? = some f → (P.info? f.type).map (·.size) = some k → places[i]? = some (f.offset, k) := by
      rw [Array.all_toList, Array.all_eq_true_iff_forall_mem] at h5
      have key : ∀ L : List Field, (∀ f ∈ L, (P.info? f.type).isSome = true) → ∃ ps : List (Nat × Nat), (L.mapM fun (f : Field) => (do pure (f.offset, ← sizeOf f.type) : Sem (Nat × Nat))).run P w = .ok ps w ∧ ∀ (i : Nat) f (k : Nat), L[i]? = some f → (P.info? f.type).map (·.size) = some k → ps[i]? = some (f.offset, k) := by
        intro L
        induction L with
        | nil => intro _; exact ⟨[], by simp, by simp⟩
        | cons f L ih =>
          intro hL
          obtain ⟨ps, q1, q2⟩ := ih fun g hg => hL g (by simp [hg])
          obtain ⟨inf', hin'⟩ := Option.isSome_iff_exists.1 (hL f (by simp))
          have hs' : (sizeOf f.type).run P w = .ok inf'.size w := run_sizeOf' (by simp [hin']) w
          refine ⟨(f.offset, inf'.size) :: ps, ?_, ?_⟩
          · rw [List.mapM_cons]; simp only [Sem.run_bind, hs', Result.andThen_ok, Sem.run_pure, q1]
          · intro i g k hg hk
            cases i with
            | zero => simp at hg; subst hg; simp [hin'] at hk; simp [hk]
            | succ i => simp at hg; simpa using q2 i g k hg hk
      obtain ⟨ps, q1, q2⟩ := key (P.fieldsOf t).toList fun f hf => h5 f (by simpa using hf)
      refine ⟨ps.toArray, ?_, fun i f k hf hk => by simpa using q2 i f k (by simpa using hf) hk⟩
      rw [show P.fieldsOf t = (P.fieldsOf t).toList.toArray by simp, List.mapM_toArray, Sem.run_map, q1]; rfl
    obtain ⟨places, q1, q2⟩ := hpl
    obtain ⟨g1, g2, g3⟩ := fin (fun i => places[i]?) fun i off sz hpl => by
      simp only [placeOf, hj, he] at hpl
      split at hpl
      · rename_i ft off' hfs
        split at hpl
        · rename_i k hk
          obtain ⟨inf', hin', hsz', _⟩ := (hC.ty ft k hk).info
          cases hpl
          rw [← h2] at hfs
          simp only [List.getElem?_map, Option.map_eq_some_iff, Prod.mk.injEq] at hfs
          obtain ⟨F, hF, e1, e2⟩ := hfs
          rw [q2 i F k.size (by simpa using hF) (by rw [e1, hin']; simp [hsz']), e2]
        · cases hpl
      · cases hpl
    refine ⟨?_, g2⟩
    simp only [Instr.build, Sem.run_bind, hzero, Result.andThen_ok, run_underlying h1, q1, g1, Sem.run_pure, g3]
  · cases ha

theorem structF_spec (hC : CfgOK P C) {t : TypeId} {i : Nat} {ft off : Nat} (h : structF C t i = some (ft, off)) : ∃ F, P.underlying t = some (.struct (P.fieldsOf t)) ∧ (P.fieldsOf t)[i]? = some F ∧ F.type = ft ∧ F.offset = off := by
  unfold structF at h
  split at h
  · rename_i j hj
    split at h
    · rename_i fs he
      have hd := (hC.ty t j hj).d
      rw [he] at hd
      obtain ⟨h1, h2, _⟩ := hd
      rw [← h2] at h
      simp only [List.getElem?_map, Option.map_eq_some_iff, Prod.mk.injEq] at h
      obtain ⟨F, hF, e1, e2⟩ := h
      exact ⟨F, h1, by simpa using hF, e1, e2⟩
    · cases h
  · cases h
theorem cut_len {n i : Nat} (h : Nat.blt i n = true) : (0 : Int) ≤ (i : Int) ∧ (i : Int) < (n : Int) := by
  rw [Nat.blt_eq] at h; omega
theorem str_get (s : List UInt8) (i : Nat) : (⟨⟨s⟩⟩ : ByteArray)[i]? = s[i]? := by
  simp only [getElem?, decidableGetElem?]
  split
  · rename_i h
    have h' : i < s.length := h
    rw [List.get?Internal_eq_getElem?]
    simp [List.getElem?_eq_getElem h']; rfl
  · rename_i h
    have h' : ¬ i < s.length := h
    rw [List.get?Internal_eq_getElem?]
    simp [List.getElem?_eq_none (Nat.le_of_not_lt h')]
theorem str_extract (s : List UInt8) (l h : Nat) : (⟨⟨s⟩⟩ : ByteArray).extract l h = ⟨⟨(s.drop l).take (h - l)⟩⟩ := by
  apply ByteArray.ext
  apply Array.ext'
  rw [ByteArray.data_extract]
  simp [List.extract]
/-- a bound, or what stands for one that is left out -/
theorem bnd_spec (hfr : FrE C D ρ fr a) {d n : Nat} {x : Option Operand} (h : bndI C fr d x = some n) : (x = none ∧ n = d) ∨ ∃ y k, x = some y ∧ a.eval y = .int k (n : Int) := by
  cases x with
  | none => simp [bndI] at h; exact .inl ⟨rfl, h.symm⟩
  | some y =>
    simp only [bndI] at h
    split at h
    · rename_i v hv
      obtain ⟨k, rfl⟩ := natI_spec h
      exact .inr ⟨y, k, rfl, by rw [(hfr.ev hv).1]; simp [conc]⟩
    · cases h
theorem bound_ok {k : IntKind} {n y : Nat} {c : BoundsCode} (h : n ≤ y) (w : World) : (Instr.sliceBound (.int k (n : Int)) y c).run P w = .ok n w := by
  have : (0 : Int) ≤ (n : Int) ∧ (n : Int) ≤ (y : Int) := by omega
  simp [Instr.sliceBound, asIntOf, this.2]
theorem bounds_ok (hfr : FrE C D ρ fr a) {isSl : Bool} {len cap l h : Nat} {lo hi : Option Operand} (hl : bndI C fr 0 lo = some l) (hh : bndI C fr len hi = some h) (h1 : l ≤ h) (h2 : h ≤ cap) (w : World) :
    (Instr.sliceBounds isSl len cap (lo.map a.eval) (hi.map a.eval) none).run P w = .ok (l, h, cap) w := by
  rcases bnd_spec hfr hl with ⟨rfl, rfl⟩ | ⟨y, k, rfl, e1⟩ <;> rcases bnd_spec hfr hh with ⟨rfl, rfl⟩ | ⟨z, k', rfl, e2⟩
  · simp [Instr.sliceBounds]
  · simp [Instr.sliceBounds, e2, bound_ok h2]
  · simp [Instr.sliceBounds, e1, bound_ok h1]
  · simp [Instr.sliceBounds, e1, e2, bound_ok h1, bound_ok h2]
theorem bounds3_ok (hfr : FrE C D ρ fr a) {isSl : Bool} {len cap l h m d : Nat} {lo : Option Operand} {hi mx : Operand} (hl : bndI C fr 0 lo = some l) (hh : bndI C fr d (some hi) = some h) (hm : bndI C fr 0 (some mx) = some m) (h1 : l ≤ h) (h2 : h ≤ m) (h3 : m ≤ cap) (w : World) :
    (Instr.sliceBounds isSl len cap (lo.map a.eval) (some (a.eval hi)) (some (a.eval mx))).run P w = .ok (l, h, m) w := by
  rcases bnd_spec hfr hh with ⟨h0, _⟩ | ⟨z, k', e, e2⟩
  · cases h0
  cases e
  rcases bnd_spec hfr hm with ⟨h0, _⟩ | ⟨z', k'', e, e3⟩
  · cases h0
  cases e
  rcases bnd_spec hfr hl with ⟨rfl, rfl⟩ | ⟨y, k, rfl, e1⟩
  · simp [Instr.sliceBounds, e2, e3, bound_ok h2, bound_ok h3]
  · simp [Instr.sliceBounds, e1, e2, e3, bound_ok h1, bound_ok h2, bound_ok h3]
theorem TyOK.und {t : TypeId} {i : TyI} (h : TyOK P t i) : ∃ d, P.underlying t = some d := by
  have hd := h.d
  cases he : i.d <;> rw [he] at hd <;> simp only [TyD.Is] at hd
  case arr => exact ⟨_, hd.1⟩
  case struct => exact ⟨_, hd.1⟩
  case iface => obtain ⟨ms, hd⟩ := hd; exact ⟨_, hd⟩
  case other =>
    cases hu : P.underlying t with
    | none => simp [hu] at hd
    | some x => exact ⟨x, rfl⟩
  all_goals exact ⟨_, hd⟩
theorem TyOK.concrete {t : TypeId} {i : TyI} (h : TyOK P t i) (hn : i.d ≠ .iface) : P.concrete t = true := by
  have hd := h.d
  unfold Program.concrete
  cases he : i.d <;> rw [he] at hd hn <;> simp only [TyD.Is] at hd
  case arr => rw [hd.1]
  case struct => rw [hd.1]
  case iface => exact absurd rfl hn
  case other =>
    cases hu : P.underlying t with
    | none => simp [hu] at hd
    | some x => cases x <;> simp [hu] at hd <;> rfl
  all_goals rw [hd]
theorem nilIB_eq (hC : CfgOK P C) {op : BinOp} {t : TypeId} {y : Operand} {u v r : V} (h : nilIB C op t y u v = some r) {x : Operand} (w : World) :
    y = .const .nilIface ∧ (do eqGuard op t x y (conc ρ u) .nilIface; binOp op t (conc ρ u) .nilIface).run P w = .ok (conc ρ r) w ∧ ∀ D, InD D r := by
  unfold nilIB at h
  split at h
  · rename_i j hj
    have e1 : ∀ ms, P.underlying t = some (.interface ms) → (Op.equal t .nilIface .nilIface).run P w = .ok true w := fun ms hu => by
      have key : ∀ d, (Op.equalIn (d + 1) t .nilIface .nilIface).run P w = .ok true w := fun d => by unfold Op.equalIn; simp [run_underlying hu]
      exact key 9999
    have e2 : ∀ ms s z, P.underlying t = some (.interface ms) → (Op.equal t (.iface s z) .nilIface).run P w = .ok false w := fun ms s z hu => by
      have key : ∀ d, (Op.equalIn (d + 1) t (.iface s z) .nilIface).run P w = .ok false w := fun d => by unfold Op.equalIn; simp [run_underlying hu]
      exact key 9999
    have hd' := (hC.ty t j hj).d
    refine ⟨rfl, ?_⟩
    split at h
    · rename_i hd
      cases h
      rw [hd] at hd'
      obtain ⟨ms, hu⟩ := hd'
      exact ⟨by simp only [conc, eqGuard, binOp, Sem.run_bind, Sem.run_pure, Result.andThen_ok]; simp [e1 ms hu], fun _ => trivial⟩
    · rename_i s z hd
      cases h
      rw [hd] at hd'
      obtain ⟨ms, hu⟩ := hd'
      exact ⟨by simp only [conc, eqGuard, binOp, Sem.run_bind, Sem.run_pure, Result.andThen_ok]; simp [e2 ms _ _ hu], fun _ => trivial⟩
    · rename_i hd
      cases h
      rw [hd] at hd'
      obtain ⟨ms, hu⟩ := hd'
      exact ⟨by simp only [conc, eqGuard, binOp, Sem.run_bind, Sem.run_pure, Result.andThen_ok]; simp [e1 ms hu], fun _ => trivial⟩
    · rename_i s z hd
      cases h
      rw [hd] at hd'
      obtain ⟨ms, hu⟩ := hd'
      exact ⟨by simp only [conc, eqGuard, binOp, Sem.run_bind, Sem.run_pure, Result.andThen_ok]; simp [e2 ms _ _ hu], fun _ => trivial⟩
    · cases h
  · cases h
theorem part_pure (hC : CfgOK P C) {t : TypeId} {k : TyI} (hk : C.ty t = some k) {v x : V} {off : Nat} (hg : getAt 50 v off k.size k.agg = some x) (w : World) : (part t (cellsV ρ v).toArray off).run P w = .ok (conc ρ x) w := (hC.ty t k hk).part hg w
theorem pure_sound (hC : CfgOK P C) (hfr : FrE C D ρ fr a) {o : Oper} {v : V} (h : pureV C fr o.type o.op = some v) (w : World) : (execOp a.eval o).run P w = .ok (.value (conc ρ v)) w ∧ InD (DD D ρ) v := by
  obtain ⟨dst, op, ty, pos, aft, g⟩ := o
  simp only at h
  cases op <;> try (simp [pureV, pvPick, pvExtract, pvNilcheck, pvUnopNot, pvUnopNeg, pvUnopXor, pvBinop, pvConvert, pvMakefunc, pvBuild, pvField, pvFieldaddr, pvIndexaddr, pvIndex, pvSlice, pvMakeinterface, pvAssert, pvLen, pvMin, pvMax] at h; done)
  case move x => obtain ⟨e, i⟩ := hfr.ev h; exact ⟨by simp [execOp, e], i⟩
  case assign x => obtain ⟨e, i⟩ := hfr.ev h; exact ⟨by simp [execOp, e], i⟩
  case pick c x y =>
    simp only [pureV, pvPick, pvExtract, pvNilcheck, pvUnopNot, pvUnopNeg, pvUnopXor, pvBinop, pvConvert, pvMakefunc, pvBuild, pvField, pvFieldaddr, pvIndexaddr, pvIndex, pvSlice, pvMakeinterface, pvAssert, pvLen, pvMin, pvMax] at h
    split at h
    · rename_i hc
      obtain ⟨e, i⟩ := hfr.ev h
      have ec := (hfr.ev hc).1
      exact ⟨by simp [execOp, e, ec, conc, asBool], i⟩
    · rename_i hc
      obtain ⟨e, i⟩ := hfr.ev h
      have ec := (hfr.ev hc).1
      exact ⟨by simp [execOp, e, ec, conc, asBool], i⟩
    · cases h
  case extract x i =>
    simp only [pureV, pvPick, pvExtract, pvNilcheck, pvUnopNot, pvUnopNeg, pvUnopXor, pvBinop, pvConvert, pvMakefunc, pvBuild, pvField, pvFieldaddr, pvIndexaddr, pvIndex, pvSlice, pvMakeinterface, pvAssert, pvLen, pvMin, pvMax] at h
    split at h
    · rename_i vs hx
      obtain ⟨e, hi⟩ := hfr.ev hx
      refine ⟨?_, InDL.at_ (show InDL (DD D ρ) vs from hi) h⟩
      simp [execOp, e, conc, Instr.extract, concL_eq, h]
    · cases h
  case nilCheck x =>
    simp only [pureV, pvPick, pvExtract, pvNilcheck, pvUnopNot, pvUnopNeg, pvUnopXor, pvBinop, pvConvert, pvMakefunc, pvBuild, pvField, pvFieldaddr, pvIndexaddr, pvIndex, pvSlice, pvMakeinterface, pvAssert, pvLen, pvMin, pvMax] at h
    split at h <;> try (cases h; done)
    all_goals
      rename_i hx
      obtain ⟨e, hi⟩ := hfr.ev hx
      cases h
      exact ⟨by simp [execOp, e, conc, slConc], hi⟩
  case typeAssert x xt t ok =>
    simp only [pureV, pvAssert] at h
    split at h
    · rename_i j u hj hx
      obtain ⟨e, hi⟩ := hfr.ev hx
      have hz := run_zeroValue' (P := P) ((hC.ty t j hj).zero ρ)
      have zin : InD (DD D ρ) j.zero := (hC.ty t j hj).zin.mono fun _ _ h => h.elim
      obtain ⟨d, hd⟩ := (hC.ty t j hj).und
      split at h
      · cases h
      · rename_i hni
        have hcon := (hC.ty t j hj).concrete (fun e' => hni e')
        have hnd : ∀ ms, d ≠ .interface ms := fun ms e' => by
          unfold Program.concrete at hcon
          rw [hd, e'] at hcon
          cases hcon
        split at h
        · cases h
          refine ⟨?_, zin, trivial, trivial⟩
          cases d <;> first | exact absurd rfl (hnd _) | simp [execOp, e, conc, concL, Instr.typeAssert, run_underlying hd, hz]
        · rename_i s u
          split at h
          · rename_i hs
            rw [Nat.beq_eq] at hs
            subst hs
            cases h
            refine ⟨?_, hi, trivial, trivial⟩
            cases d <;> first | exact absurd rfl (hnd _) | simp [execOp, e, conc, concL, Instr.typeAssert, run_underlying hd]
          · rename_i hs
            have hs : ¬ s = t := fun e' => by rw [beq_t e'] at hs; cases hs
            cases h
            refine ⟨?_, zin, trivial, trivial⟩
            cases d <;> first | exact absurd rfl (hnd _) | simp [execOp, e, conc, concL, Instr.typeAssert, run_underlying hd, hz, hs]
        · rename_i s u
          split at h
          · rename_i hs
            rw [Nat.beq_eq] at hs
            subst hs
            cases h
            refine ⟨?_, hi⟩
            cases d <;> first | exact absurd rfl (hnd _) | simp [execOp, e, conc, Instr.typeAssert, run_underlying hd]
          · cases h
        · cases h
    · cases h
  case unOp u t x =>
    cases u <;> simp only [pureV, pvPick, pvExtract, pvNilcheck, pvUnopNot, pvUnopNeg, pvUnopXor, pvBinop, pvConvert, pvMakefunc, pvBuild, pvField, pvFieldaddr, pvIndexaddr, pvIndex, pvSlice, pvMakeinterface, pvAssert, pvLen, pvMin, pvMax] at h <;> try (cases h; done)
    · split at h
      · rename_i k n hx
        cases h
        exact ⟨by simp [execOp, (hfr.ev hx).1, conc, Op.unary, Op.intArith, wrapF_eq], trivial⟩
      · cases h
    · split at h
      · rename_i k n hx
        split at h
        · rename_i c hc
          cases h
          exact ⟨by simp only [execOp, (hfr.ev hx).1, conc, Sem.run_bind, notF_eq hc]; rfl, trivial⟩
        · cases h
      · cases h
    · split at h
      · rename_i b hx
        cases h
        exact ⟨by simp [execOp, (hfr.ev hx).1, conc, Op.unary], trivial⟩
      · cases h
  case binOp op t x y t2 =>
    simp only [pureV, pvPick, pvExtract, pvNilcheck, pvUnopNot, pvUnopNeg, pvUnopXor, pvBinop, pvConvert, pvMakefunc, pvBuild, pvField, pvFieldaddr, pvIndexaddr, pvIndex, pvSlice, pvMakeinterface, pvAssert, pvLen, pvMin, pvMax] at h
    split at h
    · rename_i u v' hx hy
      split at h
      case h_2 =>
        obtain ⟨rfl, k1, k2⟩ := nilIB_eq (ρ := ρ) hC h (x := x) w
        refine ⟨?_, k2 _⟩
        simp only [execOp, (hfr.ev hx).1, show a.eval (.const .nilIface) = .nilIface from rfl]
        rw [Sem.run_bind, k1]; rfl
      rename_i rr hbv
      cases h
      have h := hbv
      clear hbv
      have key := binV_eq (ρ := ρ) hC h (x := x) (y := y) w
      refine ⟨?_, ?_⟩
      · simp only [execOp, (hfr.ev hx).1, (hfr.ev hy).1]
        rw [Sem.run_bind, key]; rfl
      · unfold binV at h
        split at h
        · split at h
          · unfold shI at h; split at h <;> first | (split at h <;> first | (cases h; trivial) | cases h) | cases h
          · unfold shI at h; split at h <;> first | (split at h <;> first | (cases h; trivial) | cases h) | cases h
          · split at h
            · unfold binI at h
              split at h <;> first | (cases h; trivial) | (split at h <;> first | (cases h; trivial) | cases h) | cases h
            · cases h
        · unfold binS at h
          split at h <;> first | (cases h; trivial) | (split at h <;> first | (cases h; trivial) | cases h) | cases h
        · split at h
          · cases h
          · split at h <;> first | (split at h <;> first | (cases h; trivial) | cases h) | cases h
    · cases h
  case convert s t x =>
    simp only [pureV, pvPick, pvExtract, pvNilcheck, pvUnopNot, pvUnopNeg, pvUnopXor, pvBinop, pvConvert, pvMakefunc, pvBuild, pvField, pvFieldaddr, pvIndexaddr, pvIndex, pvSlice, pvMakeinterface, pvAssert, pvLen, pvMin, pvMax] at h
    split at h
    · rename_i js jt u hs ht hx
      obtain ⟨ds, hus⟩ := (hC.ty s js hs).und
      have hd := (hC.ty t jt ht).d
      obtain ⟨e, hi⟩ := hfr.ev hx
      split at h
      · rename_i k k' n he
        rw [he] at hd
        have hd : P.underlying t = some (.int k) := hd
        cases h
        refine ⟨?_, trivial⟩
        simp only [execOp, e, conc, convert, Sem.run_bind, run_underlying hus, run_underlying hd, Result.andThen_ok]
        cases ds <;> simp [Conv.intToInt, wrapF_eq]
      · rename_i b he
        rw [he] at hd
        have hd : P.underlying t = some .string := hd
        cases h
        refine ⟨?_, trivial⟩
        simp only [execOp, e, conc, convert, Sem.run_bind, run_underlying hus, run_underlying hd, Result.andThen_ok]
        cases ds <;> simp
      · cases h
    · cases h
  case makeFunc fn fi ca =>
    cases fn <;> simp only [pureV, pvPick, pvExtract, pvNilcheck, pvUnopNot, pvUnopNeg, pvUnopXor, pvBinop, pvConvert, pvMakefunc, pvBuild, pvField, pvFieldaddr, pvIndexaddr, pvIndex, pvSlice, pvMakeinterface, pvAssert, pvLen, pvMin, pvMax] at h <;> try (cases h; done)
    split at h
    · rename_i u v' hu hv
      cases h
      obtain ⟨e1, i1⟩ := hfr.evs hu
      obtain ⟨e2, i2⟩ := hfr.evs hv
      have e1' : fi.map a.eval = (concL ρ u).toArray := by apply Array.toList_inj.1; simpa using e1
      have e2' : ca.map a.eval = (concL ρ v').toArray := by apply Array.toList_inj.1; simpa using e2
      exact ⟨by simp [execOp, Instr.makeFunc, e1', e2', conc], i1, i2⟩
    · cases h
  case build t parts =>
    simp only [pureV, pvPick, pvExtract, pvNilcheck, pvUnopNot, pvUnopNeg, pvUnopXor, pvBinop, pvConvert, pvMakefunc, pvBuild, pvField, pvFieldaddr, pvIndexaddr, pvIndex, pvSlice, pvMakeinterface, pvAssert, pvLen, pvMin, pvMax] at h
    split at h
    · rename_i j hj
      split at h
      · rename_i ha
        obtain ⟨k1, k2⟩ := run_build hC hfr hj ha h w
        refine ⟨?_, k2⟩
        simp only [execOp]
        rw [Sem.run_bind, k1]; rfl
      · cases h
    · cases h
  case field t x i =>
    simp only [pureV, pvPick, pvExtract, pvNilcheck, pvUnopNot, pvUnopNeg, pvUnopXor, pvBinop, pvConvert, pvMakefunc, pvBuild, pvField, pvFieldaddr, pvIndexaddr, pvIndex, pvSlice, pvMakeinterface, pvAssert, pvLen, pvMin, pvMax] at h
    split at h
    · rename_i ft off u hs hx
      split at h
      · rename_i k hk ha
        obtain ⟨F, h1, h2, rfl, rfl⟩ := structF_spec hC hs
        obtain ⟨e, hi⟩ := hfr.ev hx
        have hp := part_pure (ρ := ρ) hC hk h w
        refine ⟨?_, getAt_in h hi⟩
        rw [conc_agg ha] at e
        simp [execOp, e, Instr.field, run_underlying h1, h2, asAgg, hp]
      · cases h
    · cases h
  case fieldAddr t x i =>
    simp only [pureV, pvPick, pvExtract, pvNilcheck, pvUnopNot, pvUnopNeg, pvUnopXor, pvBinop, pvConvert, pvMakefunc, pvBuild, pvField, pvFieldaddr, pvIndexaddr, pvIndex, pvSlice, pvMakeinterface, pvAssert, pvLen, pvMin, pvMax] at h
    split at h
    · rename_i ft fo b off hs hx
      split at h
      · rename_i k hk
        split at h
        · cases h
        · rename_i hz
          cases h
          obtain ⟨F, h1, h2, rfl, rfl⟩ := structF_spec hC hs
          obtain ⟨e, hi⟩ := hfr.ev hx
          have hsz := (hC.ty _ k hk).sizeOf w
          have hz' : k.size ≠ 0 := fun e => by rw [beq_t e] at hz; cases hz
          refine ⟨?_, hi⟩
          simp [execOp, e, conc, Instr.fieldAt, run_underlying h1, h2, Instr.sureAddr, fieldPlace, hsz, hz', addr_add, Nat.add_assoc]
      · cases h
    · cases h
  case indexAddr t x y =>
    simp only [pureV, pvPick, pvExtract, pvNilcheck, pvUnopNot, pvUnopNeg, pvUnopXor, pvBinop, pvConvert, pvMakefunc, pvBuild, pvField, pvFieldaddr, pvIndexaddr, pvIndex, pvSlice, pvMakeinterface, pvAssert, pvLen, pvMin, pvMax] at h
    split at h
    · rename_i j u z hj hx hy
      have hd := (hC.ty t j hj).d
      obtain ⟨e1, i1⟩ := hfr.ev hx
      obtain ⟨e2, _⟩ := hfr.ev hy
      split at h
      · rename_i i n e b off hn he
        obtain ⟨k', rfl⟩ := natI_spec hn
        split at h
        · rename_i k hk hlt
          cases h
          rw [he] at hd
          have hlt' : i < n := by rwa [Nat.blt_eq] at hlt
          refine ⟨?_, i1⟩
          simp [execOp, e1, e2, conc, Instr.indexAt, run_underlying hd.1, asIntOf, hlt', (hC.ty e k hk).sizeOf w, Instr.sureAddr, addr_add, Nat.add_assoc]
        · cases h
      · rename_i i e b base off len esz lim hn he
        obtain ⟨k', rfl⟩ := natI_spec hn
        split at h
        · rename_i k hk hlt
          split at h
          · rename_i hes
            rw [Nat.beq_eq] at hes
            cases h
            rw [he] at hd
            have hd : P.underlying t = some (.slice e) := hd
            have hlt' : i < len := by rwa [Nat.blt_eq] at hlt
            have hc := slCap_ge i1
            have hc0 : ¬ slCap ρ b off esz lim = 0 := by omega
            refine ⟨?_, ⟨i1.2.2.1, Nat.zero_le _⟩⟩
            simp [execOp, e1, e2, conc, slConc, hc0, Instr.indexAt, run_underlying hd, asIntOf, hlt', (hC.ty e k hk).sizeOf w, hes, addr_add, Nat.add_assoc]
          · cases h
        · cases h
      · cases h
    · cases h
  case index t x y =>
    simp only [pureV, pvPick, pvExtract, pvNilcheck, pvUnopNot, pvUnopNeg, pvUnopXor, pvBinop, pvConvert, pvMakefunc, pvBuild, pvField, pvFieldaddr, pvIndexaddr, pvIndex, pvSlice, pvMakeinterface, pvAssert, pvLen, pvMin, pvMax] at h
    split at h
    · rename_i j u z hj hx hy
      have hd := (hC.ty t j hj).d
      obtain ⟨e1, i1⟩ := hfr.ev hx
      obtain ⟨e2, _⟩ := hfr.ev hy
      split at h
      · rename_i i s hn he
        obtain ⟨k', rfl⟩ := natI_spec hn
        split at h
        · rename_i c hc
          cases h
          rw [he] at hd
          have hd : P.underlying t = some .string := hd
          refine ⟨?_, trivial⟩
          have h0 : (0 : Int) ≤ (i : Int) := by omega
          simp [execOp, e1, e2, conc, Instr.index, run_underlying hd, asIntOf, str_get, hc]
        · cases h
      · rename_i d0 v0 i n e hn he
        obtain ⟨k', rfl⟩ := natI_spec hn
        split at h
        · rename_i k hk hlt ha
          rw [he] at hd
          have hlt' : i < n := by rwa [Nat.blt_eq] at hlt
          have hp := part_pure (ρ := ρ) hC hk h w
          rw [conc_agg ha] at e1
          refine ⟨?_, getAt_in h i1⟩
          simp [execOp, e1, e2, conc, Instr.index, run_underlying hd.1, asIntOf, hlt', (hC.ty e k hk).sizeOf w, hp]
        · cases h
      · cases h
    · cases h
  case slice t x lo hi mx =>
    simp only [pureV, pvPick, pvExtract, pvNilcheck, pvUnopNot, pvUnopNeg, pvUnopXor, pvBinop, pvConvert, pvMakefunc, pvBuild, pvField, pvFieldaddr, pvIndexaddr, pvIndex, pvSlice, pvMakeinterface, pvAssert, pvLen, pvMin, pvMax] at h
    split at h
    · rename_i j u hj hx
      have hd := (hC.ty t j hj).d
      obtain ⟨e1, i1⟩ := hfr.ev hx
      have at_ : ∀ e, P.underlying t = some (.slice e) → (execOp a.eval ⟨dst, .slice t x lo hi mx, ty, pos, aft, g⟩).run P w = ((Instr.slice t (a.eval x) (lo.map a.eval) (hi.map a.eval) (mx.map a.eval)).run P w).andThen (fun v w => .ok (.value v) w) := fun e hu => by
        simp only [execOp, Instr.sliceAt, Sem.run_bind, run_underlying hu, Result.andThen_ok]
        rfl
      split at h
      · rename_i e b base off len esz lim he
        rw [he] at hd
        have hd : P.underlying t = some (.slice e) := hd
        split at h
        · rename_i k l h' hk hl hh
          split at h
          · rename_i hes
            rw [Nat.beq_eq] at hes
            have hc := slCap_ge i1
            obtain ⟨hpos, hlen, hD, hroom⟩ := i1
            rw [at_ e hd, e1]
            have hse := (hC.ty e k hk).sizeOf w
            split at h
            · -- no third bound
              simp only [cutV] at h
              split at h
              · rename_i hle
                simp only [Bool.and_eq_true] at hle
                have h1 := Nat.le_of_ble_eq_true hle.1
                have h2 := Nat.le_of_ble_eq_true hle.2
                cases h
                have hb := bounds_ok (P := P) hfr (isSl := true) hl hh h1 (cap := slCap ρ b off esz lim) (by omega) w
                refine ⟨?_, hpos, ?_, hD, ?_⟩
                · simp only [conc, slConc, Option.map_none, Instr.slice, Sem.run_bind, run_underlying hd, Result.andThen_ok, hb, hse, Sem.run_pure, hes]
                  have hcap : slCap ρ b (off + l * esz) esz (limCut l lim) = slCap ρ b off esz lim - l := by
                    cases lim with
                    | some c => rfl
                    | none =>
                      simp only [slCap, limCut]
                      rw [Nat.sub_add_eq, Nat.mul_comm l esz, Nat.sub_mul_div]
                  rw [hcap]
                  congr 3
                  by_cases h0 : l = 0
                  · subst h0
                    simp [addr_add]
                  · have hb0 : Nat.beq l 0 = false := beq_f h0
                    have hc0 : ¬ slCap ρ b off esz lim = 0 := by omega
                    simp only [hb0, hc0, if_false, Option.map_some, addr_add]
                    by_cases hm : slCap ρ b off esz lim = l
                    · simp [hm]
                    · have : ¬ slCap ρ b off esz lim - l = 0 := by omega
                      simp [hm, this, Nat.add_assoc]
                · cases lim with
                  | some c => simp only [limCut, Option.getD_some] at hlen ⊢; omega
                  | none => simp [limCut]
                · cases lim with
                  | some c =>
                    simp only [limCut, Option.getD_some] at hlen hroom ⊢
                    have : l * esz + (c - l) * esz = c * esz := by rw [← Nat.add_mul]; congr 1; omega
                    omega
                  | none =>
                    simp only [limCut, Option.getD_none] at hroom ⊢
                    have : l * esz + (h' - l) * esz = h' * esz := by rw [← Nat.add_mul]; congr 1; omega
                    have := Nat.mul_le_mul_right esz h2
                    omega
              · cases h
            · rename_i z
              split at h
              · rename_i _ hi1 m hm
                simp only [cutV] at h
                split at h
                · rename_i hle
                  simp only [Bool.and_eq_true] at hle
                  have h1 := Nat.le_of_ble_eq_true hle.1.1.1
                  have h2 := Nat.le_of_ble_eq_true hle.1.1.2
                  have h3 := Nat.le_of_ble_eq_true hle.1.2
                  have h4 := Nat.le_of_ble_eq_true hle.2
                  cases h
                  have hb := bounds3_ok (P := P) hfr (isSl := true) (len := len) hl hh hm h1 h2 (cap := slCap ρ b off esz lim) (by omega) w
                  refine ⟨?_, hpos, ?_, hD, ?_⟩
                  · simp only [conc, slConc, Option.map_some, Instr.slice, Sem.run_bind, run_underlying hd, Result.andThen_ok, hb, hse, Sem.run_pure, hes]
                    have hc0 : ¬ slCap ρ b off esz lim = 0 := by omega
                    have hsc : slCap ρ b (off + l * esz) esz (some (m - l)) = m - l := rfl
                    simp only [hsc, hc0, if_false, addr_add]
                    congr 3
                    by_cases hml : m = l
                    · simp [hml]
                    · have : ¬ m - l = 0 := by omega
                      simp [hml, this, Nat.add_assoc]
                  · simp only [Option.getD_some]; omega
                  · simp only [Option.getD_some]
                    have e3 : l * esz + (m - l) * esz = m * esz := by rw [← Nat.add_mul]; congr 1; omega
                    have := Nat.mul_le_mul_right esz h3
                    cases lim with
                    | some c => simp only [Option.getD_some] at hlen hroom; have := Nat.mul_le_mul_right esz hlen; omega
                    | none => simp only [Option.getD_none] at hroom; omega
                · cases h
              · cases h
          · cases h
        · cases h
      · rename_i e he
        rw [he] at hd
        have hd : P.underlying t = some (.slice e) := hd
        split at h
        · rename_i k hk hl hh
          cases h
          have hb := bounds_ok (P := P) hfr (isSl := true) hl hh (Nat.le_refl _) (cap := 0) (Nat.le_refl _) w
          refine ⟨?_, trivial⟩
          rw [at_ e hd, e1]
          simp [conc, Instr.slice, run_underlying hd, hb, (hC.ty e k hk).sizeOf w]
        · cases h
      · rename_i s he
        rw [he] at hd
        have hd : P.underlying t = some .string := hd
        split at h
        · rename_i l h' hl hh
          split at h
          · rename_i hle
            simp only [Bool.and_eq_true] at hle
            have h1 := Nat.le_of_ble_eq_true hle.1
            have h2 := Nat.le_of_ble_eq_true hle.2
            cases h
            have hb := bounds_ok (P := P) hfr (isSl := false) hl hh h1 (cap := s.length) h2 w
            refine ⟨?_, trivial⟩
            have hsz : (⟨⟨s⟩⟩ : ByteArray).size = s.length := rfl
            simp [execOp, e1, conc, Instr.sliceAt, Instr.slice, run_underlying hd, hsz, hb, str_extract]
          · cases h
        · cases h
      · cases h
    · cases h
  case makeInterface t x =>
    simp only [pureV, pvPick, pvExtract, pvNilcheck, pvUnopNot, pvUnopNeg, pvUnopXor, pvBinop, pvConvert, pvMakefunc, pvBuild, pvField, pvFieldaddr, pvIndexaddr, pvIndex, pvSlice, pvMakeinterface, pvAssert, pvLen, pvMin, pvMax] at h
    split at h
    · rename_i j u hj hx
      obtain ⟨e, hi⟩ := hfr.ev hx
      split at h
      · cases h
      · rename_i hn
        cases h
        refine ⟨?_, hi⟩
        simp [execOp, e, conc, run_makeInterface w t _ ((hC.ty t j hj).concrete hn)]
    · cases h
  case call c =>
    obtain ⟨callee, args, ats⟩ := c
    cases callee <;> try (simp [pureV, pvPick, pvExtract, pvNilcheck, pvUnopNot, pvUnopNeg, pvUnopXor, pvBinop, pvConvert, pvMakefunc, pvBuild, pvField, pvFieldaddr, pvIndexaddr, pvIndex, pvSlice, pvMakeinterface, pvAssert, pvLen, pvMin, pvMax] at h; done)
    rename_i b
    cases b <;> try (simp [pureV, pvPick, pvExtract, pvNilcheck, pvUnopNot, pvUnopNeg, pvUnopXor, pvBinop, pvConvert, pvMakefunc, pvBuild, pvField, pvFieldaddr, pvIndexaddr, pvIndex, pvSlice, pvMakeinterface, pvAssert, pvLen, pvMin, pvMax] at h; done)
    case len =>
      have e2 : execOp a.eval ⟨dst, .call ⟨.builtin .len, args, ats⟩, ty, pos, aft, g⟩ = (do pure (.value (← Builtin.len_ ats ty (args.map a.eval)))) := rfl
      rw [e2]
      simp only [pureV, pvPick, pvExtract, pvNilcheck, pvUnopNot, pvUnopNeg, pvUnopXor, pvBinop, pvConvert, pvMakefunc, pvBuild, pvField, pvFieldaddr, pvIndexaddr, pvIndex, pvSlice, pvMakeinterface, pvAssert, pvLen, pvMin, pvMax] at h
      split at h
      · rename_i t x h1 h2
        have h1 : ats = #[t] := by apply Array.toList_inj.1; simpa using h1
        have h2 : args = #[x] := by apply Array.toList_inj.1; simpa using h2
        subst h1; subst h2
        split at h
        · rename_i j u hj hx
          have hd := (hC.ty t j hj).d
          have e1 := (hfr.ev hx).1
          split at h
          · rename_i s he
            rw [he] at hd
            cases h
            have hd : P.underlying t = some .string := hd
            have hsz : (⟨⟨s⟩⟩ : ByteArray).size = s.length := rfl
            exact ⟨by simp [Builtin.len_, e1, conc, run_underlying hd, goInt, hsz], trivial⟩
          · rename_i e b base off n esz lim he
            rw [he] at hd
            cases h
            have hd : P.underlying t = some (.slice e) := hd
            exact ⟨by simp [Builtin.len_, e1, conc, slConc, run_underlying hd, goInt], trivial⟩
          · rename_i e he
            rw [he] at hd
            cases h
            have hd : P.underlying t = some (.slice e) := hd
            exact ⟨by simp [Builtin.len_, e1, conc, run_underlying hd, goInt], trivial⟩
          · rename_i n e u' he
            rw [he] at hd
            cases h
            exact ⟨by simp [Builtin.len_, conc, run_underlying hd.1, goInt], trivial⟩
          · cases h
        · cases h
      · cases h
    case min =>
      have e2 : execOp a.eval ⟨dst, .call ⟨.builtin .min, args, ats⟩, ty, pos, aft, g⟩ = (do pure (.value (← Builtin.min_ ats ty (args.map a.eval)))) := rfl
      rw [e2]
      simp only [pureV, pvPick, pvExtract, pvNilcheck, pvUnopNot, pvUnopNeg, pvUnopXor, pvBinop, pvConvert, pvMakefunc, pvBuild, pvField, pvFieldaddr, pvIndexaddr, pvIndex, pvSlice, pvMakeinterface, pvAssert, pvLen, pvMin, pvMax] at h
      split at h
      · rename_i x y h2
        have h2 : args = #[x, y] := by apply Array.toList_inj.1; simpa using h2
        subst h2
        split at h
        · rename_i k m k' n hx hy
          cases h
          refine ⟨?_, trivial⟩
          rw [ltI_eq]
          by_cases hlt : n < m <;> simp [Builtin.min_, Builtin.min2, (hfr.ev hx).1, (hfr.ev hy).1, conc, hlt]
        · cases h
      · cases h
    case max =>
      have e2 : execOp a.eval ⟨dst, .call ⟨.builtin .max, args, ats⟩, ty, pos, aft, g⟩ = (do pure (.value (← Builtin.max_ ats ty (args.map a.eval)))) := rfl
      rw [e2]
      simp only [pureV, pvPick, pvExtract, pvNilcheck, pvUnopNot, pvUnopNeg, pvUnopXor, pvBinop, pvConvert, pvMakefunc, pvBuild, pvField, pvFieldaddr, pvIndexaddr, pvIndex, pvSlice, pvMakeinterface, pvAssert, pvLen, pvMin, pvMax] at h
      split at h
      · rename_i x y h2
        have h2 : args = #[x, y] := by apply Array.toList_inj.1; simpa using h2
        subst h2
        split at h
        · rename_i k m k' n hx hy
          cases h
          refine ⟨?_, trivial⟩
          rw [ltI_eq]
          by_cases hlt : m < n <;> simp [Builtin.max_, Builtin.max2, (hfr.ev hx).1, (hfr.ev hy).1, conc, hlt]
        · cases h
      · cases h
end
end Go.Proofs.YtmlemnbhjbaedaaGreatDoor

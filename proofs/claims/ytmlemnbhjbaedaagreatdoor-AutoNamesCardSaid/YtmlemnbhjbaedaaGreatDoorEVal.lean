/-
  A plain machine beside the model: its values, what they stand for in the model, how a part of one is read and written. Nothing here speaks of a program.
-/
import Derived.Test.YtmlemnbhjbaedaaGreatDoorRow
namespace Go.Proofs.YtmlemnbhjbaedaaGreatDoor
open Go.RowKit
set_option linter.unusedSimpArgs false
set_option linter.unusedVariables false

/-- a value of the plain machine: blocks bear numbers of its own -/
inductive V where
  | undef
  | bool (b : Bool)
  | int (k : IntKind) (n : Int)
  | str (s : List UInt8)
  | nilp
  | ptr (b off : Nat)
  | nils
  | sl (b base off len esz : Nat) (lim : Option Nat)
  | nilm
  | map (r : Nat)
  | fn (f : FuncId) (first captured : List V)
  | yield (l : Nat)
  | nilf
  | iface (t : TypeId) (v : V)
  | nili
  | agg (n : Nat) (items : List V)
  | arr (n e : Nat) (items : List V)
  | tup (vs : List V)
  deriving Inhabited

/-- where the plain machine's blocks lie in the model: the block, the cells ahead, how many cells from there on -/
structure Env where
  b : Nat → Nat
  pre : Nat → Nat
  cap : Nat → Nat
  l : Nat → Nat

/-- exactly n of them -/
noncomputable def fit (n : Nat) (l : List Value) : List Value := (l ++ List.replicate n (Value.bool false)).take n
@[simp] theorem fit_length (n : Nat) (l : List Value) : (fit n l).length = n := by simp [fit]
theorem fit_self {n : Nat} {l : List Value} (h : l.length = n) : fit n l = l := by
  subst h; simp [fit]

noncomputable def V.size : V → Nat
  | .agg n _ => n
  | .arr n _ _ => n
  | _ => 1
noncomputable def V.isAgg : V → Bool
  | .agg _ _ => true
  | .arr _ _ _ => true
  | _ => false
/-- a value of one cell -/
noncomputable def V.leaf : V → Bool
  | .agg _ _ => false
  | .arr _ _ _ => false
  | .tup _ => false
  | .undef => false
  | _ => true

/-- how many elements a slice may have -/
noncomputable def slCap (ρ : Env) (b off esz : Nat) : Option Nat → Nat
  | some c => c
  | none => (ρ.cap b - off) / esz
noncomputable def slConc (ρ : Env) (b base off len esz : Nat) (lim : Option Nat) : Value :=
  .slice (some ⟨ρ.b b, ρ.pre b + (if slCap ρ b off esz lim = 0 then base else off), none⟩) len (slCap ρ b off esz lim)
mutual
/-- what a value stands for -/
noncomputable def conc (ρ : Env) : V → Value
  | .undef => .tuple #[]
  | .bool b => .bool b
  | .int k n => .int k n
  | .str s => .string ⟨⟨s⟩⟩
  | .nilp => .pointer none
  | .ptr b off => .pointer (some ⟨ρ.b b, ρ.pre b + off, none⟩)
  | .nils => .slice none 0 0
  | .sl b base off len esz lim => slConc ρ b base off len esz lim
  | .nilm => .map none
  | .map r => .map (some (ρ.b r))
  | .fn f a c => .func (.func f) (concL ρ a).toArray (concL ρ c).toArray
  | .yield l => .func (.yield (ρ.l l)) #[] #[]
  | .nilf => .nilFunc
  | .iface t v => .iface t (conc ρ v)
  | .nili => .nilIface
  | .agg n l => .agg (fit n (concC ρ l)).toArray
  | .arr n e l => .agg (fit n (concE ρ e l)).toArray
  | .tup l => .tuple (concL ρ l).toArray
noncomputable def concL (ρ : Env) : List V → List Value
  | [] => []
  | v :: l => conc ρ v :: concL ρ l
/-- the cells of one behind those of the other -/
noncomputable def concC (ρ : Env) : List V → List Value
  | [] => []
  | v :: l => cellsV ρ v ++ concC ρ l
/-- e cells of each -/
noncomputable def concE (ρ : Env) (e : Nat) : List V → List Value
  | [] => []
  | v :: l => fit e (cellsV ρ v) ++ concE ρ e l
/-- the cells of a value -/
noncomputable def cellsV (ρ : Env) : V → List Value
  | .agg n l => fit n (concC ρ l)
  | .arr n e l => fit n (concE ρ e l)
  | .tup _ => [.bool false]
  | .undef => [.bool false]
  | .bool b => [.bool b]
  | .int k n => [.int k n]
  | .str s => [.string ⟨⟨s⟩⟩]
  | .nilp => [.pointer none]
  | .ptr b off => [.pointer (some ⟨ρ.b b, ρ.pre b + off, none⟩)]
  | .nils => [.slice none 0 0]
  | .sl b base off len esz lim => [slConc ρ b base off len esz lim]
  | .nilm => [.map none]
  | .map r => [.map (some (ρ.b r))]
  | .fn f a c => [.func (.func f) (concL ρ a).toArray (concL ρ c).toArray]
  | .yield l => [.func (.yield (ρ.l l)) #[] #[]]
  | .nilf => [.nilFunc]
  | .iface t v => [.iface t (conc ρ v)]
  | .nili => [.nilIface]
end
theorem concL_eq (ρ : Env) : ∀ l : List V, concL ρ l = l.map (conc ρ)
  | [] => by simp [concL]
  | v :: l => by simp [concL, concL_eq ρ l]
theorem concC_eq (ρ : Env) : ∀ l : List V, concC ρ l = l.flatMap (cellsV ρ)
  | [] => by simp [concC]
  | v :: l => by simp [concC, concC_eq ρ l]
theorem concE_eq (ρ : Env) (e : Nat) : ∀ l : List V, concE ρ e l = l.flatMap (fun v => fit e (cellsV ρ v))
  | [] => by simp [concE]
  | v :: l => by simp [concE, concE_eq ρ e l]
theorem cellsV_leaf {ρ : Env} {v : V} (h : v.leaf = true) : cellsV ρ v = [conc ρ v] := by
  cases v <;> simp [V.leaf] at h <;> simp [cellsV, conc]
theorem conc_agg {ρ : Env} {v : V} (h : v.isAgg = true) : conc ρ v = .agg (cellsV ρ v).toArray := by
  cases v <;> simp [V.isAgg] at h <;> simp [cellsV, conc]
@[simp] theorem cellsV_length (ρ : Env) (v : V) : (cellsV ρ v).length = v.size := by
  cases v <;> simp [cellsV, V.size]
theorem conc_cells {ρ : Env} {v : V} (h : v.leaf = true ∨ v.isAgg = true) : (conc ρ v).cells = (cellsV ρ v).toArray := by
  cases v <;> simp [V.leaf, V.isAgg] at h <;> simp [cellsV, conc, Value.cells, slConc]

theorem one_of_leaf {ρ : Env} {v : V} (h : v.leaf = true) : (conc ρ v).oneCell' = true := by
  cases v <;> simp [V.leaf] at h <;> simp [conc, Value.oneCell', slConc]
theorem fit_mem {n : Nat} {l : List Value} {x : Value} (h : x ∈ fit n l) : x ∈ l ∨ x = .bool false := by
  unfold fit at h
  have := List.mem_of_mem_take h
  simp only [List.mem_append, List.mem_replicate] at this
  rcases this with h | h
  · exact .inl h
  · exact .inr h.2
mutual
theorem cells_one (ρ : Env) : ∀ (v : V), ∀ x ∈ cellsV ρ v, x.oneCell' = true
  | .agg n l => fun x hx => by
    simp only [cellsV] at hx
    rcases fit_mem hx with h | rfl
    · exact cells_oneC ρ l x h
    · rfl
  | .arr n e l => fun x hx => by
    simp only [cellsV] at hx
    rcases fit_mem hx with h | rfl
    · exact cells_oneE ρ e l x h
    · rfl
  | .undef => fun x hx => by simp [cellsV] at hx; subst hx; rfl
  | .tup _ => fun x hx => by simp [cellsV] at hx; subst hx; rfl
  | .bool _ => fun x hx => by simp [cellsV] at hx; subst hx; rfl
  | .int _ _ => fun x hx => by simp [cellsV] at hx; subst hx; rfl
  | .str _ => fun x hx => by simp [cellsV] at hx; subst hx; rfl
  | .nilp => fun x hx => by simp [cellsV] at hx; subst hx; rfl
  | .ptr _ _ => fun x hx => by simp [cellsV] at hx; subst hx; rfl
  | .nils => fun x hx => by simp [cellsV] at hx; subst hx; rfl
  | .sl _ _ _ _ _ _ => fun x hx => by simp [cellsV] at hx; subst hx; rfl
  | .nilm => fun x hx => by simp [cellsV] at hx; subst hx; rfl
  | .map _ => fun x hx => by simp [cellsV] at hx; subst hx; rfl
  | .fn _ _ _ => fun x hx => by simp [cellsV] at hx; subst hx; rfl
  | .yield _ => fun x hx => by simp [cellsV] at hx; subst hx; rfl
  | .nilf => fun x hx => by simp [cellsV] at hx; subst hx; rfl
  | .iface _ _ => fun x hx => by simp [cellsV] at hx; subst hx; rfl
  | .nili => fun x hx => by simp [cellsV] at hx; subst hx; rfl
theorem cells_oneC (ρ : Env) : ∀ (l : List V), ∀ x ∈ concC ρ l, x.oneCell' = true
  | [] => fun x hx => by simp [concC] at hx
  | v :: l => fun x hx => by
    simp only [concC, List.mem_append] at hx
    rcases hx with h | h
    · exact cells_one ρ v x h
    · exact cells_oneC ρ l x h
theorem cells_oneE (ρ : Env) (e : Nat) : ∀ (l : List V), ∀ x ∈ concE ρ e l, x.oneCell' = true
  | [] => fun x hx => by simp [concE] at hx
  | v :: l => fun x hx => by
    simp only [concE, List.mem_append] at hx
    rcases hx with h | h
    · rcases fit_mem h with h | rfl
      · exact cells_one ρ v x h
      · rfl
    · exact cells_oneE ρ e l x h
end
theorem cells_plain (ρ : Env) (v : V) : plain (cellsV ρ v).toArray = true := by
  unfold plain
  rw [Array.all_eq_true_iff_forall_mem]
  intro x hx
  exact cells_one ρ v x (by simpa using hx)

/-! ### a part -/
/-! told by raw recursors: the kernel reckons these often -/
theorem blt_tt {a b : Nat} (h : a < b) : Nat.blt a b = true := by rw [Nat.blt_eq]; exact h
theorem blt_ff {a b : Nat} (h : ¬ a < b) : Nat.blt a b = false := by
  cases hb : Nat.blt a b with
  | false => rfl
  | true => rw [Nat.blt_eq] at hb; exact absurd hb h
theorem ite_b {α : Type} (b : Bool) (x y : α) : (if b = true then x else y) = Bool.rec (motive := fun _ => α) y x b := by cases b <;> rfl
noncomputable def beqB (a b : Bool) : Bool := Bool.rec (motive := fun _ => Bool) (Bool.rec (motive := fun _ => Bool) true false b) b a
theorem beqB_eq (a b : Bool) : (a == b) = beqB a b := by cases a <;> cases b <;> rfl
theorem beqN_eq (a b : Nat) : (a == b) = Nat.beq a b := by
  cases h : Nat.beq a b with
  | true => have := Nat.eq_of_beq_eq_true h; simp [this]
  | false =>
    have : a ≠ b := fun e => by rw [e, Nat.beq_refl] at h; cases h
    simp [this]
noncomputable def nthR {α : Type} (l : List α) : Nat → Option α := List.rec (motive := fun _ => Nat → Option α) (fun _ => none) (fun v _ ih i => Nat.rec (motive := fun _ => Option α) (some v) (fun j _ => ih j) i) l
theorem nthR_eq {α : Type} : ∀ (l : List α) (i : Nat), l[i]? = nthR l i
  | [], i => by simp; rfl
  | v :: l, 0 => rfl
  | v :: l, i + 1 => by
    rw [List.getElem?_cons_succ, nthR_eq l i]; rfl
noncomputable def setR {α : Type} (x : α) (l : List α) : Nat → List α := List.rec (motive := fun _ => Nat → List α) (fun _ => []) (fun v l ih i => Nat.rec (motive := fun _ => List α) (x :: l) (fun j _ => v :: ih j) i) l
theorem setR_eq {α : Type} (x : α) : ∀ (l : List α) (i : Nat), l.set i x = setR x l i
  | [], i => by simp; rfl
  | v :: l, 0 => rfl
  | v :: l, i + 1 => by
    rw [List.set_cons_succ, setR_eq x l i]; rfl
/-- where an offset lies among items -/
noncomputable def findI (l : List V) : Nat → Option (V × Nat) := List.rec (motive := fun _ => Nat → Option (V × Nat)) (fun _ => none) (fun v _ ih o => Bool.rec (motive := fun _ => Option (V × Nat)) (ih (Nat.sub o v.size)) (some (v, o)) (Nat.blt o v.size)) l
theorem findI_nil (o : Nat) : findI [] o = none := rfl
theorem findI_cons (v : V) (l : List V) (o : Nat) : findI (v :: l) o = if o < v.size then some (v, o) else findI l (o - v.size) := by
  show Bool.rec (motive := fun _ => Option (V × Nat)) (findI l (o - v.size)) (some (v, o)) (Nat.blt o v.size) = _
  by_cases h : o < v.size
  · rw [if_pos h, blt_tt h]
  · rw [if_neg h, blt_ff h]
noncomputable def getAgg (g : V → Nat → Nat → Bool → Option V) (m : Nat) (l : List V) (off n : Nat) (ag : Bool) : Option V := match findI l off with
  | some (x, o) => Bool.rec (motive := fun _ => Option V) none (g x o n ag) (Nat.ble (Nat.add (Nat.sub off o) x.size) m)
  | none => none
noncomputable def getArr (g : V → Nat → Nat → Bool → Option V) (m e : Nat) (l : List V) (off n : Nat) (ag : Bool) : Option V := match nthR l (Nat.div off e) with
  | some x => Bool.rec (motive := fun _ => Option V) none (g x (Nat.mod off e) n ag) (Bool.and (Nat.beq x.size e) (Nat.ble (Nat.add (Nat.mul (Nat.div off e) e) e) m))
  | none => none
noncomputable def getIn (g : V → Nat → Nat → Bool → Option V) (v : V) (off n : Nat) (ag : Bool) : Option V := match v with
  | .agg m l => getAgg g m l off n ag
  | .arr m e l => getArr g m e l off n ag
  | _ => none
noncomputable def getStep (g : V → Nat → Nat → Bool → Option V) (v : V) (off n : Nat) (ag : Bool) : Option V :=
  Bool.rec (motive := fun _ => Option V) (getIn g v off n ag) (Bool.rec (motive := fun _ => Option V) none (some v) (Bool.or ag v.leaf)) (Bool.and (Bool.and (Nat.beq off 0) (Nat.beq n v.size)) (beqB ag v.isAgg))
/-- a part of n cells (an aggregate's) or of one, at an offset -/
noncomputable def getAtS (f : Nat) : V → Nat → Nat → Bool → Option V := Nat.rec (motive := fun _ => V → Nat → Nat → Bool → Option V) (fun _ _ _ _ => none) (fun _ ih => getStep ih) f
theorem getAtS_zero (v : V) (off n : Nat) (ag : Bool) : getAtS 0 v off n ag = none := rfl
theorem getAtS_succ (f : Nat) (v : V) (off n : Nat) (ag : Bool) : getAtS (f + 1) v off n ag =
    if off == 0 && n == v.size && ag == v.isAgg then (if ag || v.leaf then some v else none)
    else match v with
      | .agg m l => match findI l off with
        | some (x, o) => if Nat.ble (off - o + x.size) m then getAtS f x o n ag else none
        | none => none
      | .arr m e l => match l[off / e]? with
        | some x => if x.size == e && Nat.ble (off / e * e + e) m then getAtS f x (off % e) n ag else none
        | none => none
      | _ => none := by
  show getStep (getAtS f) v off n ag = _
  unfold getStep
  simp only [ite_b, beqB_eq, beqN_eq, nthR_eq]
  congr 1
/-- among items, one is turned at an offset -/
noncomputable def putIx (g : V → Nat → Option V) (l : List V) : Nat → Option (List V × Nat × Nat) := List.rec (motive := fun _ => Nat → Option (List V × Nat × Nat)) (fun _ => none) (fun v l ih o => Bool.rec (motive := fun _ => Option (List V × Nat × Nat))
    (match ih (Nat.sub o v.size) with
      | some (l', o', s) => some (v :: l', o', s)
      | none => none)
    (match g v o with
      | some v' => some (v' :: l, o, v.size)
      | none => none) (Nat.blt o v.size)) l
theorem putIx_nil (g : V → Nat → Option V) (o : Nat) : putIx g [] o = none := rfl
theorem putIx_cons (g : V → Nat → Option V) (v : V) (l : List V) (o : Nat) : putIx g (v :: l) o = if o < v.size then (match g v o with | some v' => some (v' :: l, o, v.size) | none => none) else
    match putIx g l (o - v.size) with
    | some (l', o', s) => some (v :: l', o', s)
    | none => none := by
  show Bool.rec (motive := fun _ => Option (List V × Nat × Nat)) (match putIx g l (o - v.size) with
      | some (l', o', s) => some (v :: l', o', s)
      | none => none) (match g v o with
      | some v' => some (v' :: l, o, v.size)
      | none => none) (Nat.blt o v.size) = _
  by_cases h : o < v.size
  · rw [if_pos h, blt_tt h]
  · rw [if_neg h, blt_ff h]
noncomputable def putAgg (g : V → Nat → V → Option V) (m : Nat) (l : List V) (off : Nat) (x : V) : Option V := match putIx (fun y o => g y o x) l off with
  | some (l', o, s) => Bool.rec (motive := fun _ => Option V) none (some (.agg m l')) (Nat.ble (Nat.add (Nat.sub off o) s) m)
  | none => none
noncomputable def putArr (g : V → Nat → V → Option V) (m e : Nat) (l : List V) (off : Nat) (x : V) : Option V := match nthR l (Nat.div off e) with
  | some y => Bool.rec (motive := fun _ => Option V) none (match g y (Nat.mod off e) x with
    | some y' => some (.arr m e (setR y' l (Nat.div off e)))
    | none => none) (Bool.and (Nat.beq y.size e) (Nat.ble (Nat.add (Nat.mul (Nat.div off e) e) e) m))
  | none => none
noncomputable def putIn (g : V → Nat → V → Option V) (v : V) (off : Nat) (x : V) : Option V := match v with
  | .agg m l => putAgg g m l off x
  | .arr m e l => putArr g m e l off x
  | _ => none
noncomputable def putStep (g : V → Nat → V → Option V) (v : V) (off : Nat) (x : V) : Option V :=
  Bool.rec (motive := fun _ => Option V) (putIn g v off x) (Bool.rec (motive := fun _ => Option V) none (some x) (Bool.or x.isAgg (Bool.and v.leaf x.leaf))) (Bool.and (Bool.and (Nat.beq off 0) (Nat.beq x.size v.size)) (beqB x.isAgg v.isAgg))
noncomputable def putAtS (f : Nat) : V → Nat → V → Option V := Nat.rec (motive := fun _ => V → Nat → V → Option V) (fun _ _ _ => none) (fun _ ih => putStep ih) f
theorem putAtS_zero (v : V) (off : Nat) (x : V) : putAtS 0 v off x = none := rfl
theorem putAtS_succ (f : Nat) (v : V) (off : Nat) (x : V) : putAtS (f + 1) v off x =
    if off == 0 && x.size == v.size && x.isAgg == v.isAgg then (if x.isAgg || (v.leaf && x.leaf) then some x else none)
    else match v with
      | .agg m l => match putIx (fun y o => putAtS f y o x) l off with
        | some (l', o, s) => if Nat.ble (off - o + s) m then some (.agg m l') else none
        | none => none
      | .arr m e l => match l[off / e]? with
        | some y => if y.size == e && Nat.ble (off / e * e + e) m then (match putAtS f y (off % e) x with | some y' => some (.arr m e (l.set (off / e) y')) | none => none) else none
        | none => none
      | _ => none := by
  show putStep (putAtS f) v off x = _
  unfold putStep
  simp only [ite_b, beqB_eq, beqN_eq, nthR_eq, setR_eq]
  congr 1

theorem take_drop_fit {n : Nat} {a b c : List Value} (h : a.length + b.length ≤ n) : ((fit n (a ++ (b ++ c))).drop a.length).take b.length = b := by
  simp only [fit]
  rw [List.drop_take, List.take_take, List.append_assoc, List.drop_left, List.append_assoc]
  rw [show min b.length (n - a.length) = b.length by omega, List.take_left]
theorem fit_splice {n : Nat} {a b b' c : List Value} (h : a.length + b.length ≤ n) (hb : b'.length = b.length) :
    fit n (a ++ (b' ++ c)) = (fit n (a ++ (b ++ c))).take a.length ++ b' ++ (fit n (a ++ (b ++ c))).drop (a.length + b.length) := by
  simp only [fit]
  apply List.ext_getElem?
  intro i
  simp only [List.append_assoc, List.getElem?_append, List.getElem?_take, List.getElem?_drop, List.length_take, List.length_append, List.length_replicate, hb]
  have e1 : min a.length (min n (a.length + (b.length + (c.length + n)))) = a.length := by omega
  rw [e1]
  by_cases h1 : i < a.length
  · simp only [h1, if_true, show i < n from by omega]
  · by_cases h2 : i < a.length + b.length
    · simp only [h1, if_false, show i < n from by omega, if_true, show i - a.length < b.length from by omega]
    · have e2 : a.length + b.length + (i - a.length - b.length) = i := by omega
      simp only [h1, if_false, show ¬ i - a.length < b.length from by omega, e2]

theorem findI_spec {ρ : Env} : ∀ (l : List V) (off : Nat) (x : V) (o : Nat), findI l off = some (x, o) →
    ∃ a c, concC ρ l = a ++ (cellsV ρ x ++ c) ∧ a.length + o = off ∧ o < x.size
  | [], off, x, o, h => by simp [findI_nil] at h
  | v :: l, off, x, o, h => by
    simp only [findI_cons] at h
    split at h
    · rename_i hlt
      simp only [Option.some.injEq, Prod.mk.injEq] at h
      obtain ⟨rfl, rfl⟩ := h
      exact ⟨[], concC ρ l, by simp [concC], by simp, hlt⟩
    · obtain ⟨a, c, h1, h2, h3⟩ := findI_spec (ρ := ρ) l _ x o h
      exact ⟨cellsV ρ v ++ a, c, by simp [concC, h1], by simp; omega, h3⟩
theorem take_drop_take_drop {l : List Value} {a b c d : Nat} (h : c + d ≤ b) : (((l.drop a).take b).drop c).take d = (l.drop (a + c)).take d := by
  rw [List.drop_take, List.take_take, List.drop_drop, show min d (b - c) = d by omega]
theorem concE_at {ρ : Env} {e : Nat} : ∀ (l : List V) (i : Nat) (x : V), l[i]? = some x → ∃ a c, concE ρ e l = a ++ (fit e (cellsV ρ x) ++ c) ∧ a.length = i * e
  | [], i, x, h => by simp at h
  | v :: l, 0, x, h => by simp at h; subst h; exact ⟨[], concE ρ e l, by simp [concE], by simp⟩
  | v :: l, i + 1, x, h => by
    simp at h
    obtain ⟨a, c, h1, h2⟩ := concE_at (ρ := ρ) (e := e) l i x h
    exact ⟨fit e (cellsV ρ v) ++ a, c, by simp [concE, h1], by simp [h2, Nat.add_mul]; omega⟩

/-- a part's cells -/
theorem getAtS_spec {ρ : Env} : ∀ (f : Nat) (v : V) (off n : Nat) (ag : Bool) (x : V), getAtS f v off n ag = some x →
    x.size = n ∧ off + n ≤ v.size ∧ ((cellsV ρ v).drop off).take n = cellsV ρ x ∧ (if ag then x.isAgg = true else x.leaf = true)
  | 0, v, off, n, ag, x, h => by simp [getAtS_zero] at h
  | f + 1, v, off, n, ag, x, h => by
    simp only [getAtS_succ] at h
    split at h
    · rename_i hc
      simp only [Bool.and_eq_true, beq_iff_eq] at hc
      obtain ⟨⟨rfl, rfl⟩, rfl⟩ := hc
      split at h
      · rename_i hl
        simp only [Option.some.injEq] at h
        subst h
        refine ⟨rfl, by omega, by rw [List.drop_zero, List.take_of_length_le (by simp)], ?_⟩
        split
        · assumption
        · rename_i ha; simpa [ha] using hl
      · cases h
    · split at h
      · rename_i m l hne
        split at h
        · rename_i y o hf
          split at h
          · rename_i hle
            obtain ⟨a, c, h1, h2, h3⟩ := findI_spec (ρ := ρ) _ _ _ _ hf
            obtain ⟨g1, g2, g3, g4⟩ := getAtS_spec (ρ := ρ) f y o n ag x h
            have hle := Nat.le_of_ble_eq_true hle
            refine ⟨g1, by simp [V.size]; omega, ?_, g4⟩
            have ha : a.length = off - o := by omega
            have key := take_drop_fit (n := m) (a := a) (b := cellsV ρ y) (c := c) (by simp; omega)
            rw [← h1] at key
            simp only [cellsV]
            rw [← g3, ← key, take_drop_take_drop (by simp; omega), h2]
          · cases h
        · cases h
      · rename_i m e l hne
        split at h
        · rename_i y hy
          split at h
          · rename_i hc
            simp only [Bool.and_eq_true, beq_iff_eq] at hc
            have hle := Nat.le_of_ble_eq_true hc.2
            obtain ⟨a, c, h1, h2⟩ := concE_at (ρ := ρ) (e := e) _ _ _ hy
            obtain ⟨g1, g2, g3, g4⟩ := getAtS_spec (ρ := ρ) f y (off % e) n ag x h
            have hdm := Nat.div_add_mod off e
            rw [Nat.mul_comm] at hdm
            refine ⟨g1, by simp [V.size]; omega, ?_, g4⟩
            have hfy : fit e (cellsV ρ y) = cellsV ρ y := fit_self (by simp [hc.1])
            rw [hfy] at h1
            have key := take_drop_fit (n := m) (a := a) (b := cellsV ρ y) (c := c) (by simp; omega)
            rw [← h1] at key
            simp only [cellsV]
            rw [← g3, ← key, take_drop_take_drop (by simp; omega), h2, hdm]
          · cases h
        · cases h
      · cases h

/-- a row written over -/
noncomputable def spl (c : List Value) (off : Nat) (vs : List Value) : List Value := c.take off ++ vs ++ c.drop (off + vs.length)
theorem putIx_spec {ρ : Env} {g : V → Nat → Option V} : ∀ (l : List V) (off : Nat) (l' : List V) (o s : Nat), putIx g l off = some (l', o, s) →
    ∃ a y y' c, concC ρ l = a ++ (cellsV ρ y ++ c) ∧ concC ρ l' = a ++ (cellsV ρ y' ++ c) ∧ g y o = some y' ∧ a.length + o = off ∧ s = y.size ∧ o < s
  | [], off, l', o, s, h => by simp [putIx_nil] at h
  | v :: l, off, l', o, s, h => by
    simp only [putIx_cons] at h
    split at h
    · rename_i hlt
      split at h
      · rename_i v' hv
        simp only [Option.some.injEq, Prod.mk.injEq] at h
        obtain ⟨rfl, rfl, rfl⟩ := h
        exact ⟨[], v, v', concC ρ l, by simp [concC], by simp [concC], hv, by simp, rfl, hlt⟩
      · cases h
    · split at h
      · rename_i l1 o1 s1 h1
        simp only [Option.some.injEq, Prod.mk.injEq] at h
        obtain ⟨rfl, rfl, rfl⟩ := h
        obtain ⟨a, y, y', c, g1, g2, g3, g4, g5, g6⟩ := putIx_spec (ρ := ρ) l _ _ _ _ h1
        exact ⟨cellsV ρ v ++ a, y, y', c, by simp [concC, g1], by simp [concC, g2], g3, by simp; omega, g5, g6⟩
      · cases h
theorem spl_length {c vs : List Value} {off : Nat} (h : off + vs.length ≤ c.length) : (spl c off vs).length = c.length := by simp [spl]; omega
theorem spl_spl {b vs a' c' : List Value} {o : Nat} (h : o + vs.length ≤ b.length) :
    a' ++ spl b o vs ++ c' = spl (a' ++ b ++ c') (a'.length + o) vs := by
  have h1 : (a' ++ b ++ c').take (a'.length + o) = a' ++ b.take o := by
    rw [List.append_assoc, List.take_length_add_append, List.take_append_of_le_length (by omega)]
  have h2 : (a' ++ b ++ c').drop (a'.length + o + vs.length) = b.drop (o + vs.length) ++ c' := by
    rw [List.append_assoc, Nat.add_assoc, List.drop_length_add_append, List.drop_append_of_le_length (by omega)]
  unfold spl
  rw [h1, h2]
  simp only [List.append_assoc]
theorem fit_spl {n o : Nat} {a b b' c vs : List Value} (h : a.length + b.length ≤ n) (hb : b' = spl b o vs) (ho : o + vs.length ≤ b.length) :
    fit n (a ++ (b' ++ c)) = spl (fit n (a ++ (b ++ c))) (a.length + o) vs := by
  have hl : b'.length = b.length := by rw [hb, spl_length ho]
  rw [fit_splice h hl, hb, spl_spl ho]
  congr 1
  have k := take_drop_fit (n := n) (a := a) (b := b) (c := c) h
  have e : ∀ (L : List Value) (p q : Nat), L.take p ++ (L.drop p).take q ++ L.drop (p + q) = L := fun L p q => by
    rw [List.append_assoc, show L.drop (p + q) = (L.drop p).drop q by rw [List.drop_drop], List.take_append_drop, List.take_append_drop]
  have := e (fit n (a ++ (b ++ c))) a.length b.length
  rw [k] at this
  rw [this]
  simp only [List.length_take, fit_length, show min a.length n = a.length by omega]
theorem concE_set {ρ : Env} {e : Nat} : ∀ (l : List V) (i : Nat) (x y : V), l[i]? = some x → ∃ a c, concE ρ e l = a ++ (fit e (cellsV ρ x) ++ c) ∧ concE ρ e (l.set i y) = a ++ (fit e (cellsV ρ y) ++ c) ∧ a.length = i * e
  | [], i, x, y, h => by simp at h
  | v :: l, 0, x, y, h => by simp at h; subst h; exact ⟨[], concE ρ e l, by simp [concE], by simp [concE], by simp⟩
  | v :: l, i + 1, x, y, h => by
    simp at h
    obtain ⟨a, c, h1, h2, h3⟩ := concE_set (ρ := ρ) (e := e) l i x y h
    exact ⟨fit e (cellsV ρ v) ++ a, c, by simp [concE, h1], by simp [concE, h2], by simp [h3, Nat.add_mul]; omega⟩
/-- a part written over -/
theorem putAtS_spec {ρ : Env} : ∀ (f : Nat) (v : V) (off : Nat) (x v' : V), putAtS f v off x = some v' →
    v'.size = v.size ∧ off + x.size ≤ v.size ∧ cellsV ρ v' = spl (cellsV ρ v) off (cellsV ρ x) ∧ v'.isAgg = v.isAgg ∧ v'.leaf = v.leaf ∧ (x.leaf = true ∨ x.isAgg = true)
  | 0, v, off, x, v', h => by simp [putAtS_zero] at h
  | f + 1, v, off, x, v', h => by
    simp only [putAtS_succ] at h
    split at h
    · rename_i hc
      simp only [Bool.and_eq_true, beq_iff_eq] at hc
      obtain ⟨⟨rfl, hs⟩, ha⟩ := hc
      split at h
      · rename_i hl
        simp only [Option.some.injEq] at h
        subst h
        simp only [Bool.or_eq_true, Bool.and_eq_true] at hl
        refine ⟨hs, by omega, by simp [spl, hs], ha, ?_, ?_⟩
        · rcases hl with h | h
          · rw [h] at ha
            have e1 : ∀ y : V, y.isAgg = true → y.leaf = false := fun y hy => by cases y <;> simp [V.isAgg] at hy <;> rfl
            rw [e1 _ h, e1 _ ha.symm]
          · rw [h.1, h.2]
        · rcases hl with h | h
          · exact .inr h
          · exact .inl h.2
      · cases h
    · split at h
      · rename_i m l hne
        split at h
        · rename_i l' o s hp
          split at h
          · rename_i hle
            simp only [Option.some.injEq] at h
            subst h
            have hle := Nat.le_of_ble_eq_true hle
            obtain ⟨a, y, y', c, g1, g2, g3, g4, g5, g6⟩ := putIx_spec (ρ := ρ) _ _ _ _ _ hp
            obtain ⟨k1, k2, k3, k4, k5, k6⟩ := putAtS_spec (ρ := ρ) f y o x y' g3
            refine ⟨rfl, by show off + x.size ≤ m; omega, ?_, rfl, rfl, k6⟩
            simp only [cellsV]
            rw [g2, g1, fit_spl (o := o) (vs := cellsV ρ x) (by simp; omega) k3 (by simp; omega), g4]
          · cases h
        · cases h
      · rename_i m e l hne
        split at h
        · rename_i y hy
          split at h
          · rename_i hc
            simp only [Bool.and_eq_true, beq_iff_eq] at hc
            have hle := Nat.le_of_ble_eq_true hc.2
            split at h
            · rename_i y' hy'
              simp only [Option.some.injEq] at h
              subst h
              obtain ⟨k1, k2, k3, k4, k5, k6⟩ := putAtS_spec (ρ := ρ) f y (off % e) x y' hy'
              obtain ⟨a, c, h1, h2, h3⟩ := concE_set (ρ := ρ) (e := e) l (off / e) y y' hy
              have hdm := Nat.div_add_mod off e
              rw [Nat.mul_comm] at hdm
              refine ⟨rfl, by show off + x.size ≤ m; omega, ?_, rfl, rfl, k6⟩
              rw [fit_self (by simp [hc.1])] at h1
              rw [fit_self (by simp [k1, hc.1])] at h2
              simp only [cellsV]
              rw [h2, h1, fit_spl (o := off % e) (vs := cellsV ρ x) (by simp; omega) k3 (by simp; omega), h3, hdm]
            · cases h
          · cases h
        · cases h
      · cases h
/-! ### a value's cells, one behind the other -/
noncomputable def fitV (n : Nat) (l : List V) : List V := (l ++ List.replicate n (V.bool false)).take n
@[simp] theorem fitV_length (n : Nat) (l : List V) : (fitV n l).length = n := by simp [fitV]
theorem fitV_self {n : Nat} {l : List V} (h : l.length = n) : fitV n l = l := by
  subst h; simp [fitV]
mutual
noncomputable def flatV : V → List V
  | .agg n l => fitV n (flatC l)
  | .arr n e l => fitV n (flatE e l)
  | .undef => [.undef]
  | .bool b => [.bool b]
  | .int k n => [.int k n]
  | .str s => [.str s]
  | .nilp => [.nilp]
  | .ptr b off => [.ptr b off]
  | .nils => [.nils]
  | .sl b base off len esz lim => [.sl b base off len esz lim]
  | .nilm => [.nilm]
  | .map r => [.map r]
  | .fn f a c => [.fn f a c]
  | .yield l => [.yield l]
  | .nilf => [.nilf]
  | .iface t v => [.iface t v]
  | .nili => [.nili]
  | .tup l => [.tup l]
noncomputable def flatC : List V → List V
  | [] => []
  | v :: l => flatV v ++ flatC l
noncomputable def flatE (e : Nat) : List V → List V
  | [] => []
  | v :: l => fitV e (flatV v) ++ flatE e l
end
/-- one cell of a value that is no aggregate -/
noncomputable def cell1 (ρ : Env) : V → Value
  | .agg _ _ => .bool false
  | .arr _ _ _ => .bool false
  | .tup _ => .bool false
  | .undef => .bool false
  | v => conc ρ v
theorem cell1_leaf {ρ : Env} {v : V} (h : v.leaf = true) : cell1 ρ v = conc ρ v := by cases v <;> simp [V.leaf] at h <;> rfl
theorem cells_cell1 {ρ : Env} {v : V} (h : v.isAgg = false) : cellsV ρ v = [cell1 ρ v] := by cases v <;> simp [V.isAgg] at h <;> simp [cellsV, cell1, conc]
theorem fitV_map {ρ : Env} {n : Nat} {l : List V} : (fitV n l).map (cell1 ρ) = fit n (l.map (cell1 ρ)) := by
  simp [fitV, fit, List.map_take, List.map_append, cell1, conc]
mutual
theorem cells_flat (ρ : Env) : ∀ v : V, cellsV ρ v = (flatV v).map (cell1 ρ)
  | .agg n l => by simp only [cellsV, flatV, fitV_map, flatC_cells ρ l]
  | .arr n e l => by simp only [cellsV, flatV, fitV_map, flatE_cells ρ e l]
  | .undef => rfl
  | .bool _ => by simp [cellsV, flatV, cell1, conc]
  | .int _ _ => by simp [cellsV, flatV, cell1, conc]
  | .str _ => by simp [cellsV, flatV, cell1, conc]
  | .nilp => by simp [cellsV, flatV, cell1, conc]
  | .ptr _ _ => by simp [cellsV, flatV, cell1, conc]
  | .nils => by simp [cellsV, flatV, cell1, conc]
  | .sl _ _ _ _ _ _ => by simp [cellsV, flatV, cell1, conc]
  | .nilm => by simp [cellsV, flatV, cell1, conc]
  | .map _ => by simp [cellsV, flatV, cell1, conc]
  | .fn _ _ _ => by simp [cellsV, flatV, cell1, conc]
  | .yield _ => by simp [cellsV, flatV, cell1, conc]
  | .nilf => by simp [cellsV, flatV, cell1, conc]
  | .iface _ _ => by simp [cellsV, flatV, cell1, conc]
  | .nili => by simp [cellsV, flatV, cell1, conc]
  | .tup _ => by simp [cellsV, flatV, cell1]
theorem flatC_cells (ρ : Env) : ∀ l : List V, concC ρ l = (flatC l).map (cell1 ρ)
  | [] => rfl
  | v :: l => by simp only [concC, flatC, List.map_append, cells_flat ρ v, flatC_cells ρ l]
theorem flatE_cells (ρ : Env) (e : Nat) : ∀ l : List V, concE ρ e l = (flatE e l).map (cell1 ρ)
  | [] => rfl
  | v :: l => by simp only [concE, flatE, List.map_append, fitV_map, cells_flat ρ v, flatE_cells ρ e l]
end
@[simp] theorem flatV_length (v : V) : (flatV v).length = v.size := by
  cases v <;> simp [flatV, V.size]
theorem fitV_mem {n : Nat} {l : List V} {x : V} (h : x ∈ fitV n l) : x ∈ l ∨ x = .bool false := by
  unfold fitV at h
  have := List.mem_of_mem_take h
  simp only [List.mem_append, List.mem_replicate] at this
  rcases this with h | h
  · exact .inl h
  · exact .inr h.2
mutual
theorem flat_one : ∀ (v : V), ∀ x ∈ flatV v, x.isAgg = false
  | .agg n l => fun x hx => by
    simp only [flatV] at hx
    rcases fitV_mem hx with h | rfl
    · exact flat_oneC l x h
    · rfl
  | .arr n e l => fun x hx => by
    simp only [flatV] at hx
    rcases fitV_mem hx with h | rfl
    · exact flat_oneE e l x h
    · rfl
  | .undef => fun x hx => by simp [flatV] at hx; subst hx; rfl
  | .bool _ => fun x hx => by simp [flatV] at hx; subst hx; rfl
  | .int _ _ => fun x hx => by simp [flatV] at hx; subst hx; rfl
  | .str _ => fun x hx => by simp [flatV] at hx; subst hx; rfl
  | .nilp => fun x hx => by simp [flatV] at hx; subst hx; rfl
  | .ptr _ _ => fun x hx => by simp [flatV] at hx; subst hx; rfl
  | .nils => fun x hx => by simp [flatV] at hx; subst hx; rfl
  | .sl _ _ _ _ _ _ => fun x hx => by simp [flatV] at hx; subst hx; rfl
  | .nilm => fun x hx => by simp [flatV] at hx; subst hx; rfl
  | .map _ => fun x hx => by simp [flatV] at hx; subst hx; rfl
  | .fn _ _ _ => fun x hx => by simp [flatV] at hx; subst hx; rfl
  | .yield _ => fun x hx => by simp [flatV] at hx; subst hx; rfl
  | .nilf => fun x hx => by simp [flatV] at hx; subst hx; rfl
  | .iface _ _ => fun x hx => by simp [flatV] at hx; subst hx; rfl
  | .nili => fun x hx => by simp [flatV] at hx; subst hx; rfl
  | .tup _ => fun x hx => by simp [flatV] at hx; subst hx; rfl
theorem flat_oneC : ∀ (l : List V), ∀ x ∈ flatC l, x.isAgg = false
  | [] => fun x hx => by simp [flatC] at hx
  | v :: l => fun x hx => by
    simp only [flatC, List.mem_append] at hx
    rcases hx with h | h
    · exact flat_one v x h
    · exact flat_oneC l x h
theorem flat_oneE (e : Nat) : ∀ (l : List V), ∀ x ∈ flatE e l, x.isAgg = false
  | [] => fun x hx => by simp [flatE] at hx
  | v :: l => fun x hx => by
    simp only [flatE, List.mem_append] at hx
    rcases hx with h | h
    · rcases fitV_mem h with h | rfl
      · exact flat_one v x h
      · rfl
    · exact flat_oneE e l x h
end
theorem flat_self {x : V} (h : x.isAgg = false) : flatV x = [x] := by cases x <;> simp [V.isAgg] at h <;> rfl
theorem flatC_self : ∀ {l : List V}, (∀ x ∈ l, x.isAgg = false) → flatC l = l
  | [], _ => rfl
  | x :: l, h => by simp only [flatC, flat_self (h x (List.mem_cons_self ..)), flatC_self (l := l) fun y hy => h y (List.mem_cons_of_mem _ hy), List.singleton_append]
/-- cells, taken as an aggregate -/
theorem flat_agg {l : List V} {n : Nat} (h : ∀ x ∈ l, x.isAgg = false) (hn : l.length = n) : flatV (.agg n l) = l := by
  simp only [flatV, flatC_self h, fitV_self hn]
theorem flat_part {v : V} {off n : Nat} (h : off + n ≤ v.size) : flatV (.agg n (((flatV v).drop off).take n)) = ((flatV v).drop off).take n :=
  flat_agg (fun x hx => flat_one v x (List.mem_of_mem_drop (List.mem_of_mem_take hx))) (by simp; omega)
/-! ### a part, whatever the shape -/
noncomputable def flatGet (v : V) (off n : Nat) (ag : Bool) : Option V := match v.isAgg && Nat.ble (off + n) v.size with
  | true => match ag with
    | true => some (.agg n (((flatV v).drop off).take n))
    | false => match Nat.beq n 1, (flatV v)[off]? with
      | true, some x => match x.leaf with
        | true => some x
        | false => none
      | _, _ => none
  | false => none
noncomputable def getAt (f : Nat) (v : V) (off n : Nat) (ag : Bool) : Option V := match getAtS f v off n ag with
  | some x => some x
  | none => flatGet v off n ag
theorem flatGet_spec {v : V} {off n : Nat} {ag : Bool} {x : V} (h : flatGet v off n ag = some x) :
    x.size = n ∧ off + n ≤ v.size ∧ flatV x = ((flatV v).drop off).take n ∧ (if ag then x.isAgg = true else x.leaf = true) := by
  unfold flatGet at h
  split at h
  · rename_i hc
    simp only [Bool.and_eq_true] at hc
    have hle := Nat.le_of_ble_eq_true hc.2
    split at h
    · cases h
      exact ⟨rfl, hle, flat_part hle, rfl⟩
    · split at h
      · rename_i y h1 hx
        split at h
        · rename_i hl
          cases h
          have h1 := Nat.eq_of_beq_eq_true h1
          subst h1
          have ha := flat_one v _ (List.mem_of_getElem? hx)
          have e : ((flatV v).drop off).take 1 = [x] := by
            have : (flatV v).drop off = x :: (flatV v).drop (off + 1) := by
              obtain ⟨hlt, rfl⟩ := List.getElem?_eq_some_iff.1 hx
              exact List.drop_eq_getElem_cons hlt
            rw [this]; rfl
          refine ⟨by cases x <;> simp [V.isAgg] at ha <;> rfl, hle, by rw [e, flat_self ha], by simpa using hl⟩
        · cases h
      · cases h
  · cases h
/-- a part's cells -/
theorem getAt_spec {ρ : Env} (f : Nat) (v : V) (off n : Nat) (ag : Bool) (x : V) (h : getAt f v off n ag = some x) :
    x.size = n ∧ off + n ≤ v.size ∧ ((cellsV ρ v).drop off).take n = cellsV ρ x ∧ (if ag then x.isAgg = true else x.leaf = true) := by
  unfold getAt at h
  split at h
  · cases h; exact getAtS_spec f v off n ag x (by assumption)
  · obtain ⟨h1, h2, h3, h4⟩ := flatGet_spec h
    refine ⟨h1, h2, ?_, h4⟩
    rw [cells_flat, cells_flat, h3, List.map_take, List.map_drop]
noncomputable def flatPut (v : V) (off : Nat) (x : V) : Option V := match v.isAgg && (x.leaf || x.isAgg) && Nat.ble (off + x.size) v.size with
  | true => some (.agg v.size ((flatV v).take off ++ flatV x ++ (flatV v).drop (off + x.size)))
  | false => none
noncomputable def putAt (f : Nat) (v : V) (off : Nat) (x : V) : Option V := match putAtS f v off x with
  | some v' => some v'
  | none => flatPut v off x
theorem flatPut_spec {v : V} {off : Nat} {x v' : V} (h : flatPut v off x = some v') :
    v'.size = v.size ∧ off + x.size ≤ v.size ∧ flatV v' = (flatV v).take off ++ flatV x ++ (flatV v).drop (off + x.size) ∧ v'.isAgg = v.isAgg ∧ v'.leaf = v.leaf ∧ (x.leaf = true ∨ x.isAgg = true) := by
  unfold flatPut at h
  split at h
  · rename_i hc
    simp only [Bool.and_eq_true, Bool.or_eq_true] at hc
    have hle := Nat.le_of_ble_eq_true hc.2
    cases h
    refine ⟨rfl, hle, flat_agg (fun y hy => ?_) (by simp; omega), hc.1.1.symm, ?_, hc.1.2⟩
    · simp only [List.mem_append] at hy
      rcases hy with (hy | hy) | hy
      · exact flat_one v y (List.mem_of_mem_take hy)
      · exact flat_one x y hy
      · exact flat_one v y (List.mem_of_mem_drop hy)
    · have := hc.1.1
      cases v <;> simp [V.isAgg] at this <;> rfl
  · cases h
/-- a part written over -/
theorem putAt_spec {ρ : Env} (f : Nat) (v : V) (off : Nat) (x v' : V) (h : putAt f v off x = some v') :
    v'.size = v.size ∧ off + x.size ≤ v.size ∧ cellsV ρ v' = spl (cellsV ρ v) off (cellsV ρ x) ∧ v'.isAgg = v.isAgg ∧ v'.leaf = v.leaf ∧ (x.leaf = true ∨ x.isAgg = true) := by
  unfold putAt at h
  split at h
  · cases h; exact putAtS_spec f v off x v' (by assumption)
  · obtain ⟨h1, h2, h3, h4⟩ := flatPut_spec h
    refine ⟨h1, h2, ?_, h4⟩
    rw [cells_flat, cells_flat, cells_flat, h3]
    simp [spl, List.map_append, List.map_take, List.map_drop]
end Go.Proofs.YtmlemnbhjbaedaaGreatDoor

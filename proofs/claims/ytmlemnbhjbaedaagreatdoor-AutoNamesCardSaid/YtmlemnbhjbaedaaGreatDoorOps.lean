/-
  The engine's laws for operations: one for each kind. Nothing here speaks of a program.
-/
import Derived.Test.YtmlemnbhjbaedaaGreatDoorEng
import Derived.Test.YtmlemnbhjbaedaaGreatDoorDig
import Derived.Laws.StructEq
import Derived.Laws.Small
import Derived.Shelf.Abstract
import Derived.OwnWalkIn
namespace Go.Proofs.YtmlemnbhjbaedaaGreatDoor
open Go.RowKit
set_option linter.unusedSimpArgs false
set_option linter.unusedVariables false

/-- an operation carried out: a value, or nothing -/
def Op1 (P : Program) (o : Oper) (a : Act) (w : World) (v : Value) (w' : World) : Prop :=
  (execOp a.eval o).run P w = .ok (.value v) w' ∨ ((execOp a.eval o).run P w = .ok .skip w' ∧ v = undef)
def noDefer (o : Oper) : Bool := match o.op with | .defer _ => false | _ => true
theorem noDefer_spec {o : Oper} (h : noDefer o = true) : ∀ c, o.op ≠ .defer c := by
  intro c e; simp [noDefer, e] at h
theorem op1_wpIn {P : Program} {r : Option Nat} {o : Oper} {a : Act} {w w' : World} {v : Value} {K : Act → World → Prop} {Q : Exit → Act → World → Prop} (hd : noDefer o = true) (h : Op1 P o a w v w') (hk : K (a.put o.dst v) w') :
    o.wpIn (FF r) 0 P a w K Q := by
  refine ⟨fun f _ => FF_fn r f, ?_⟩
  rw [Oper.semAt_plain _ _ _ (noDefer_spec hd)]
  rcases h with h | ⟨h, rfl⟩
  · rw [h, Oper.uponIn_value]; exact hk
  · rw [h, Oper.uponIn_skip]; exact hk
/-- the guard of an operation -/
def gd (ops : Array Oper) (fr : Fr) (o : Oper) : Option Bool :=
  match o.guard with
  | none => some true
  | some (j, b) => match (ops[j]?).bind (·.dst) with
    | none => some false
    | some t => match fr.lookup t with
      | some (.bool c) => some (c == b)
      | some _ => some false
      | none => none
theorem gd_spec {N : Nat} {ds : List Deferred} {ops : Array Oper} {a : Act} {fr : Fr} {o : Oper} {c : Bool} (ha : Ag N ds a fr) (h : gd ops fr o = some c) : Region.wanted o (yielded ops a.tmps) = c := by
  unfold gd at h
  unfold Region.wanted
  cases hg : o.guard with
  | none => simp [hg] at h; simp [h]
  | some p =>
    obtain ⟨j, b⟩ := p
    simp only [hg] at h
    simp only [yielded]
    cases hj : (ops[j]?).bind (·.dst) with
    | none => simp [hj] at h; simp [h]
    | some t =>
      simp only [hj] at h
      cases hl : fr.lookup t with
      | none => simp [hl] at h
      | some v =>
        simp only [hl] at h
        have ht := ha.at_ t v hl
        simp only [Option.bind_some, ht]
        cases v <;> simp at h <;> simp [h]
/-- put, a slot or none -/
def putF (fr : Fr) (d : Option Tmp) (v : Value) : Fr := match d with | some t => (t, v) :: fr | none => fr
def dstOk (N : Nat) (d : Option Tmp) : Bool := match d with | some t => decide (t < N) | none => true
theorem Ag.putF {N : Nat} {ds : List Deferred} {a : Act} {fr : Fr} (h : Ag N ds a fr) {d : Option Tmp} (hd : dstOk N d = true) (v : Value) : Ag N ds (a.put d v) (putF fr d v) := by
  cases d with
  | none => exact h
  | some t => exact h.put (by simpa [dstOk] using hd) v

section
variable {P : Program} {r : Option Nat} {N : Nat} {ds : List Deferred} {ops : Array Oper} {Q : Exit → Act → World → Prop} {fr : Fr} {H H' : Hp} {S : List World} {o : Oper} {l : List Oper}

theorem ow_split {t : Nat} {c : Bool} (hl : fr.lookup t = some (.bool c)) (ht : c = true → OW P r N ds ops l Q ((t, .bool true) :: fr) H S) (hf : c = false → OW P r N ds ops l Q ((t, .bool false) :: fr) H S) : OW P r N ds ops l Q fr H S := by
  refine ⟨fun a w ha hw => ?_⟩
  have key : Ag N ds a ((t, .bool c) :: fr) := ⟨ha.size, ha.defs, fun u v hu => by
    simp only [List.lookup_cons] at hu
    by_cases e : u = t
    · subst e; simp at hu; subst hu; exact ha.at_ _ _ hl
    · have e' : (u == t) = false := by simpa using e
      rw [e'] at hu; exact ha.at_ u v hu⟩
  cases c
  · exact (hf rfl).run a w key hw
  · exact (ht rfl).run a w key hw
theorem cw_split {t : Nat} {c : Bool} {k : Code} (hl : fr.lookup t = some (.bool c)) (ht : c = true → CW P r N ds k Q ((t, .bool true) :: fr) H S) (hf : c = false → CW P r N ds k Q ((t, .bool false) :: fr) H S) : CW P r N ds k Q fr H S := by
  refine ⟨fun a w ha hw => ?_⟩
  have key : Ag N ds a ((t, .bool c) :: fr) := ⟨ha.size, ha.defs, fun u v hu => by
    simp only [List.lookup_cons] at hu
    by_cases e : u = t
    · subst e; simp at hu; subst hu; exact ha.at_ _ _ hl
    · have e' : (u == t) = false := by simpa using e
      rw [e'] at hu; exact ha.at_ u v hu⟩
  cases c
  · exact (hf rfl).run a w key hw
  · exact (ht rfl).run a w key hw
theorem ow_skip (hg : gd ops fr o = some false) (hd : dstOk N o.dst = true) (h : OW P r N ds ops l Q (putF fr o.dst undef) H S) : OW P r N ds ops (o :: l) Q fr H S := by
  refine ⟨fun a w ha hw => ?_⟩
  unfold wpListIn
  rw [gd_spec ha hg]
  exact ⟨fun f _ => FF_fn r f, h.run _ _ (ha.putF hd _) hw⟩
theorem ow_gen (hg : gd ops fr o = some true) (hn : noDefer o = true) (hd : dstOk N o.dst = true)
    (h : ∀ a w, Ag N ds a fr → Kn w H S → ∃ v w' H' S', Op1 P o a w v w' ∧ Kn w' H' S' ∧ OW P r N ds ops l Q (putF fr o.dst v) H' S') : OW P r N ds ops (o :: l) Q fr H S := by
  refine ⟨fun a w ha hw => ?_⟩
  unfold wpListIn
  rw [gd_spec ha hg]
  obtain ⟨v, w', H', S', h1, h2, h3⟩ := h a w ha hw
  exact op1_wpIn hn h1 (h3.run _ _ (ha.putF hd v) h2)
/-- reads, or only reckons -/
def RD (P : Program) (o : Oper) (fr : Fr) (H : Hp) (S : List World) (v : Value) : Prop := ∀ N ds a w, Ag N ds a fr → Kn w H S → Op1 P o a w v w
theorem ow_rd {v : Value} (hg : gd ops fr o = some true) (hn : noDefer o = true) (hd : dstOk N o.dst = true) (h1 : RD P o fr H S v) (h : OW P r N ds ops l Q (putF fr o.dst v) H S) : OW P r N ds ops (o :: l) Q fr H S :=
  ow_gen hg hn hd fun a w ha hw => ⟨v, w, H, S, h1 _ _ a w ha hw, hw, h⟩
/-- writes to a block that is known -/
def WR (P : Program) (o : Oper) (fr : Fr) (H : Hp) (S : List World) (v : Value) (H' : Hp) : Prop := ∀ N ds a w, Ag N ds a fr → Kn w H S → ∃ w', Op1 P o a w v w' ∧ Kn w' H' S
theorem ow_wr {v : Value} (hg : gd ops fr o = some true) (hn : noDefer o = true) (hd : dstOk N o.dst = true) (h1 : WR P o fr H S v H') (h : OW P r N ds ops l Q (putF fr o.dst v) H' S) : OW P r N ds ops (o :: l) Q fr H S :=
  ow_gen hg hn hd fun a w ha hw => let ⟨w', h2, h3⟩ := h1 _ _ a w ha hw; ⟨v, w', H', S, h2, h3, h⟩
/-- makes a block -/
def AL (P : Program) (o : Oper) (fr : Fr) (H : Hp) (S : List World) (f : Nat → Value) (ob : Obj) : Prop := ∀ N ds a w, Ag N ds a fr → Kn w H S → ∃ w', Op1 P o a w (f w.heap.size) w' ∧ Kn w' ((w.heap.size, ob) :: H) S
theorem ow_al {f : Nat → Value} {ob : Obj} (hg : gd ops fr o = some true) (hn : noDefer o = true) (hd : dstOk N o.dst = true) (h1 : AL P o fr H S f ob) (h : ∀ b, Fresh b H S → OW P r N ds ops l Q (putF fr o.dst (f b)) ((b, ob) :: H) S) : OW P r N ds ops (o :: l) Q fr H S :=
  ow_gen hg hn hd fun a w ha hw => let ⟨w', h2, h3⟩ := h1 _ _ a w ha hw; ⟨f w.heap.size, w', _, S, h2, h3, h _ hw.fresh⟩
end

/-! ### operations that only reckon -/
section
variable {P : Program} {fr : Fr} {H : Hp} {S : List World} {dst : Option Tmp} {ty : TypeId} {pos : String} {aft : Array Edge} {g : Option (Nat × Bool)}
theorem rd_move {x : Operand} {v : Value} (hx : ev fr x = some v) : RD P ⟨dst, .move x, ty, pos, aft, g⟩ fr H S v := fun _ _ a w ha _ => .inl (by simp [execOp, ha.ev hx])
theorem rd_assign {x : Operand} {v : Value} (hx : ev fr x = some v) : RD P ⟨dst, .assign x, ty, pos, aft, g⟩ fr H S v := fun _ _ a w ha _ => .inl (by simp [execOp, ha.ev hx])
theorem rd_pick_true {c x y : Operand} {v : Value} (hc : ev fr c = some (.bool true)) (hx : ev fr x = some v) : RD P ⟨dst, .pick c x y, ty, pos, aft, g⟩ fr H S v := fun _ _ a w ha _ => .inl (by simp [execOp, ha.ev hc, ha.ev hx, asBool])
theorem rd_pick_false {c x y : Operand} {v : Value} (hc : ev fr c = some (.bool false)) (hy : ev fr y = some v) : RD P ⟨dst, .pick c x y, ty, pos, aft, g⟩ fr H S v := fun _ _ a w ha _ => .inl (by simp [execOp, ha.ev hc, ha.ev hy, asBool])
theorem rd_extract {x : Operand} {i : Nat} {vs : Array Value} {v : Value} (hx : ev fr x = some (.tuple vs)) (hi : vs[i]? = some v) : RD P ⟨dst, .extract x i, ty, pos, aft, g⟩ fr H S v := fun _ _ a w ha _ => .inl (by simp [execOp, ha.ev hx, Instr.extract, hi])
theorem rd_nilCheck {x : Operand} {p : Addr} (hx : ev fr x = some (.pointer (some p))) : RD P ⟨dst, .nilCheck x, ty, pos, aft, g⟩ fr H S (.pointer (some p)) := fun _ _ a w ha _ => .inl (by simp [execOp, ha.ev hx])
theorem rd_makeFunc {fn : Fn} {fi ca : Array Operand} {vf vc : List Value} (hf : fi.toList.mapM (ev fr) = some vf) (hc : ca.toList.mapM (ev fr) = some vc) : RD P ⟨dst, .makeFunc fn fi ca, ty, pos, aft, g⟩ fr H S (.func fn vf.toArray vc.toArray) := fun _ _ a w ha _ => .inl (by
  have key : ∀ (l : List Operand) (vs : List Value), l.mapM (ev fr) = some vs → l.map a.eval = vs := by
    intro l
    induction l with
    | nil => intro vs h; simp at h; simp [h]
    | cons x l ih =>
      intro vs h
      rw [List.mapM_cons] at h
      simp only [bind, Option.bind_eq_some_iff, pure, Option.some.injEq] at h
      obtain ⟨v, hv, vs', hvs, rfl⟩ := h
      simp [ha.ev hv, ih vs' hvs]
  have e1 : fi.map a.eval = vf.toArray := by apply Array.toList_inj.1; simp [key _ _ hf]
  have e2 : ca.map a.eval = vc.toArray := by apply Array.toList_inj.1; simp [key _ _ hc]
  simp [execOp, Instr.makeFunc, e1, e2])

section ints
variable {x y : Operand} {k : IntKind} {m n e : Int} {t1 t2 : TypeId}
theorem rd_add (hx : ev fr x = some (.int k m)) (hy : ev fr y = some (.int k n)) (he : k.wrap (m + n) = e) : RD P ⟨dst, .binOp .add t1 x y t2, ty, pos, aft, g⟩ fr H S (.int k e) := fun _ _ a w ha _ => .inl (by
  simp [execOp, ha.ev hx, ha.ev hy, eqGuard, binOp, Op.intArith, he])
theorem rd_sub (hx : ev fr x = some (.int k m)) (hy : ev fr y = some (.int k n)) (he : k.wrap (m - n) = e) : RD P ⟨dst, .binOp .sub t1 x y t2, ty, pos, aft, g⟩ fr H S (.int k e) := fun _ _ a w ha _ => .inl (by
  simp [execOp, ha.ev hx, ha.ev hy, eqGuard, binOp, Op.intArith, he])
theorem rd_mul (hx : ev fr x = some (.int k m)) (hy : ev fr y = some (.int k n)) (he : k.wrap (m * n) = e) : RD P ⟨dst, .binOp .mul t1 x y t2, ty, pos, aft, g⟩ fr H S (.int k e) := fun _ _ a w ha _ => .inl (by
  simp [execOp, ha.ev hx, ha.ev hy, eqGuard, binOp, Op.intArith, he])
theorem rd_quo (hx : ev fr x = some (.int k m)) (hy : ev fr y = some (.int k n)) (h0 : n ≠ 0) (he : k.wrap (m.tdiv n) = e) : RD P ⟨dst, .binOp .quo t1 x y t2, ty, pos, aft, g⟩ fr H S (.int k e) := fun _ _ a w ha _ => .inl (by
  simp [execOp, ha.ev hx, ha.ev hy, eqGuard, binOp, Op.intDiv, h0, he])
theorem rd_rem (hx : ev fr x = some (.int k m)) (hy : ev fr y = some (.int k n)) (h0 : n ≠ 0) (he : m.tmod n = e) : RD P ⟨dst, .binOp .rem t1 x y t2, ty, pos, aft, g⟩ fr H S (.int k e) := fun _ _ a w ha _ => .inl (by
  simp [execOp, ha.ev hx, ha.ev hy, eqGuard, binOp, Op.intDiv, h0, he])
theorem rd_min {ats : Array TypeId} {k' : IntKind} (hx : ev fr x = some (.int k m)) (hy : ev fr y = some (.int k' n)) : RD P ⟨dst, .call ⟨.builtin .min, #[x, y], ats⟩, ty, pos, aft, g⟩ fr H S (.int k (min m n)) := fun _ _ a w ha _ => .inl (by
  have e : (if n < m then n else m) = min m n := by omega
  have e2 : execOp a.eval ⟨dst, .call ⟨.builtin .min, #[x, y], ats⟩, ty, pos, aft, g⟩ = (do pure (.value (← Builtin.min_ ats ty (#[x, y].map a.eval)))) := rfl
  rw [e2]
  simp [ha.ev hx, ha.ev hy, run_min_int2, e])
theorem rd_and (hx : ev fr x = some (.int k m)) (hy : ev fr y = some (.int k n)) (he : k.wrap ((((m % 2 ^ k.bits).toNat &&& (n % 2 ^ k.bits).toNat : Nat)) : Int) = e) : RD P ⟨dst, .binOp .and t1 x y t2, ty, pos, aft, g⟩ fr H S (.int k e) := fun _ _ a w ha _ => .inl (by
  simp only [execOp, ha.ev hx, ha.ev hy, eqGuard, binOp, Op.intBits]; simp [he])
theorem rd_or (hx : ev fr x = some (.int k m)) (hy : ev fr y = some (.int k n)) (he : k.wrap ((((m % 2 ^ k.bits).toNat ||| (n % 2 ^ k.bits).toNat : Nat)) : Int) = e) : RD P ⟨dst, .binOp .or t1 x y t2, ty, pos, aft, g⟩ fr H S (.int k e) := fun _ _ a w ha _ => .inl (by
  simp only [execOp, ha.ev hx, ha.ev hy, eqGuard, binOp, Op.intBits]; simp [he])
theorem rd_xor (hx : ev fr x = some (.int k m)) (hy : ev fr y = some (.int k n)) (he : k.wrap ((((m % 2 ^ k.bits).toNat ^^^ (n % 2 ^ k.bits).toNat : Nat)) : Int) = e) : RD P ⟨dst, .binOp .xor t1 x y t2, ty, pos, aft, g⟩ fr H S (.int k e) := fun _ _ a w ha _ => .inl (by
  simp only [execOp, ha.ev hx, ha.ev hy, eqGuard, binOp, Op.intBits]; simp [he])
theorem rd_shr {k2 : IntKind} (hx : ev fr x = some (.int k m)) (hy : ev fr y = some (.int k2 n)) (h0 : 0 ≤ n) (he : m.fdiv (2 ^ min n.toNat k.bits) = e) : RD P ⟨dst, .binOp .shr t1 x y t2, ty, pos, aft, g⟩ fr H S (.int k e) := fun _ _ a w ha _ => .inl (by
  have : ¬ n < 0 := by omega
  simp [execOp, ha.ev hx, ha.ev hy, eqGuard, binOp, Op.shift, this, he])
theorem rd_shl {k2 : IntKind} (hx : ev fr x = some (.int k m)) (hy : ev fr y = some (.int k2 n)) (h0 : 0 ≤ n) (he : k.wrap (m * 2 ^ min n.toNat k.bits) = e) : RD P ⟨dst, .binOp .shl t1 x y t2, ty, pos, aft, g⟩ fr H S (.int k e) := fun _ _ a w ha _ => .inl (by
  have : ¬ n < 0 := by omega
  simp [execOp, ha.ev hx, ha.ev hy, eqGuard, binOp, Op.shift, this, he])
theorem rd_lss {b : Bool} (hx : ev fr x = some (.int k m)) (hy : ev fr y = some (.int k n)) (hb : decide (m < n) = b) : RD P ⟨dst, .binOp .lss t1 x y t2, ty, pos, aft, g⟩ fr H S (.bool b) := fun _ _ a w ha _ => .inl (by
  simp [execOp, ha.ev hx, ha.ev hy, eqGuard, binOp, Op.intCmp, hb])
theorem rd_leq {b : Bool} (hx : ev fr x = some (.int k m)) (hy : ev fr y = some (.int k n)) (hb : decide (m ≤ n) = b) : RD P ⟨dst, .binOp .leq t1 x y t2, ty, pos, aft, g⟩ fr H S (.bool b) := fun _ _ a w ha _ => .inl (by
  simp [execOp, ha.ev hx, ha.ev hy, eqGuard, binOp, Op.intCmp, hb])
theorem rd_gtr {b : Bool} (hx : ev fr x = some (.int k m)) (hy : ev fr y = some (.int k n)) (hb : decide (n < m) = b) : RD P ⟨dst, .binOp .gtr t1 x y t2, ty, pos, aft, g⟩ fr H S (.bool b) := fun _ _ a w ha _ => .inl (by
  simp [execOp, ha.ev hx, ha.ev hy, eqGuard, binOp, Op.intCmp, hb])
theorem rd_geq {b : Bool} (hx : ev fr x = some (.int k m)) (hy : ev fr y = some (.int k n)) (hb : decide (n ≤ m) = b) : RD P ⟨dst, .binOp .geq t1 x y t2, ty, pos, aft, g⟩ fr H S (.bool b) := fun _ _ a w ha _ => .inl (by
  simp [execOp, ha.ev hx, ha.ev hy, eqGuard, binOp, Op.intCmp, hb])
theorem rd_eql {b : Bool} (hx : ev fr x = some (.int k m)) (hy : ev fr y = some (.int k n)) (hb : decide (m = n) = b) : RD P ⟨dst, .binOp .eql t1 x y t2, ty, pos, aft, g⟩ fr H S (.bool b) := fun _ _ a w ha _ => .inl (by
  have : (m == n) = b := by rw [← hb]; rfl
  simp [execOp, ha.ev hx, ha.ev hy, eqGuard, binOp, Op.intCmp, this])
theorem rd_neq {b : Bool} (hx : ev fr x = some (.int k m)) (hy : ev fr y = some (.int k n)) (hb : decide (m ≠ n) = b) : RD P ⟨dst, .binOp .neq t1 x y t2, ty, pos, aft, g⟩ fr H S (.bool b) := fun _ _ a w ha _ => .inl (by
  have : (m != n) = b := by rw [← hb, Bool.eq_iff_iff]; simp
  simp [execOp, ha.ev hx, ha.ev hy, eqGuard, binOp, Op.intCmp, this])
theorem rd_convert {src tdst : TypeId} {kd : IntKind} {ds : TypeDesc} (hs : P.underlying src = some ds) (ht : P.underlying tdst = some (.int kd)) (hx : ev fr x = some (.int k m)) (he : kd.wrap m = e) : RD P ⟨dst, .convert src tdst x, ty, pos, aft, g⟩ fr H S (.int kd e) := fun _ _ a w ha _ => .inl (by
  simp only [execOp, ha.ev hx, convert, Sem.run_bind, run_underlying hs, run_underlying ht, Result.andThen_ok]
  cases ds <;> simp [Conv.intToInt, he])
end ints
theorem rd_not {x : Operand} {b c : Bool} {t : TypeId} (hx : ev fr x = some (.bool b)) (hc : (!b) = c) : RD P ⟨dst, .unOp .not t x, ty, pos, aft, g⟩ fr H S (.bool c) := fun _ _ a w ha _ => .inl (by simp [execOp, ha.ev hx, Op.unary, hc])
theorem rd_eql_bool {x y : Operand} {b c e : Bool} {t t2 : TypeId} (ht : P.underlying t = some .bool) (hx : ev fr x = some (.bool b)) (hy : ev fr y = some (.bool c)) (he : (b == c) = e) : RD P ⟨dst, .binOp .eql t x y t2, ty, pos, aft, g⟩ fr H S (.bool e) := fun _ _ a w ha _ => .inl (by
  simp [execOp, ha.ev hx, ha.ev hy, eqGuard, binOp, run_equal_bool w t b c ht, he])
theorem eqGuard_agg {op : BinOp} {t : TypeId} {x y : Operand} {xs ys : Array Value} (h : P.eqGuardType P.depth t = false) (w : World) : (eqGuard op t x y (.agg xs) (.agg ys)).run P w = .ok () w := by
  unfold eqGuard
  cases op <;> simp [h]
theorem rd_eql_agg {x y : Operand} {xs ys : Array Value} {e : Bool} {t t2 : TypeId} (hg : P.eqGuardType P.depth t = false) (hx : ev fr x = some (.agg xs)) (hy : ev fr y = some (.agg ys))
    (he : ∀ w, (Op.equalIn 10000 t (.agg xs) (.agg ys)).run P w = .ok e w) : RD P ⟨dst, .binOp .eql t x y t2, ty, pos, aft, g⟩ fr H S (.bool e) := fun _ _ a w ha _ => .inl (by
  simp only [execOp, ha.ev hx, ha.ev hy, Sem.run_bind, eqGuard_agg hg, Result.andThen_ok, run_eql_struct, he, Sem.run_pure])
theorem rd_neq_agg {x y : Operand} {xs ys : Array Value} {e f : Bool} {t t2 : TypeId} (hg : P.eqGuardType P.depth t = false) (hx : ev fr x = some (.agg xs)) (hy : ev fr y = some (.agg ys))
    (he : ∀ w, (Op.equalIn 10000 t (.agg xs) (.agg ys)).run P w = .ok e w) (hf : (!e) = f) : RD P ⟨dst, .binOp .neq t x y t2, ty, pos, aft, g⟩ fr H S (.bool f) := fun _ _ a w ha _ => .inl (by
  simp only [execOp, ha.ev hx, ha.ev hy, Sem.run_bind, eqGuard_agg hg, Result.andThen_ok, run_neq_struct, he, Sem.run_pure, hf])
/-- a part of an aggregate -/
def partOf (P : Program) (t : TypeId) (cs : Array Value) (off : Nat) : Option Value :=
  match aggLen P t with
  | some n => some (.agg (cs.extract off (off + n)))
  | none => match P.underlying t with
    | some _ => cs[off]?
    | none => none
theorem run_part {t : TypeId} {cs : Array Value} {off : Nat} {v : Value} (h : partOf P t cs off = some v) (hi : (P.info? t).isSome = true) (w : World) : (part t cs off).run P w = .ok v w := by
  unfold partOf at h
  cases ha : aggLen P t with
  | some n =>
    simp only [ha, Option.some.injEq] at h
    obtain ⟨h1, h2⟩ := aggLen_isAgg ha w
    simp [part, h1, h2, h]
  | none =>
    simp only [ha] at h
    cases hu : P.underlying t with
    | none => simp [hu] at h
    | some d =>
      simp only [hu] at h
      have : (isAgg t).run P w = .ok false w := by
        refine run_isAgg_plain hu ?_ w
        unfold aggLen at ha
        obtain ⟨i, hi'⟩ := Option.isSome_iff_exists.1 hi
        cases d <;> simp [hu, hi'] at ha <;> rfl
      simp [part, this, h]
theorem rd_field {x : Operand} {xt : TypeId} {i : Nat} {cs : Array Value} {fs : Array Field} {f : Field} {v : Value} (hu : P.underlying xt = some (.struct fs)) (hf : fs[i]? = some f) (hx : ev fr x = some (.agg cs))
    (hi : (P.info? f.type).isSome = true) (hp : partOf P f.type cs f.offset = some v) : RD P ⟨dst, .field xt x i, ty, pos, aft, g⟩ fr H S v := fun _ _ a w ha _ => .inl (by
  simp [execOp, ha.ev hx, Instr.field, run_underlying hu, hf, asAgg, run_part hp hi])
theorem rd_index_arr {x y : Operand} {xt e : TypeId} {n k : Nat} {cs : Array Value} {kd : IntKind} {i : Int} {v : Value} (hu : P.underlying xt = some (.array n e)) (hs : (P.info? e).map (·.size) = some k) (hx : ev fr x = some (.agg cs)) (hy : ev fr y = some (.int kd i))
    (h0 : 0 ≤ i) (h1 : i < n) (hp : partOf P e cs (i.toNat * k) = some v) : RD P ⟨dst, .index xt x y, ty, pos, aft, g⟩ fr H S v := fun _ _ a w ha _ => .inl (by
  obtain ⟨inf, hi, hk⟩ : ∃ inf, P.info? e = some inf ∧ inf.size = k := by
    cases hi : P.info? e with
    | none => simp [hi] at hs
    | some inf => exact ⟨inf, rfl, by simpa [hi] using hs⟩
  have hsz : (sizeOf e).run P w = .ok k w := by simp [sizeOf, typeInfo, hi, hk]
  simp [execOp, ha.ev hx, ha.ev hy, Instr.index, run_underlying hu, asIntOf, h0, h1, hsz, run_part hp (by simp [hi])])
theorem rd_index_str {x y : Operand} {xt : TypeId} {s : ByteArray} {kd : IntKind} {i : Int} {b : UInt8} (hu : P.underlying xt = some .string) (hx : ev fr x = some (.string s)) (hy : ev fr y = some (.int kd i))
    (h0 : 0 ≤ i) (hp : s[i.toNat]? = some b) : RD P ⟨dst, .index xt x y, ty, pos, aft, g⟩ fr H S (.int .u8 b.toNat) := fun _ _ a w ha _ => .inl (by
  simp [execOp, ha.ev hx, ha.ev hy, Instr.index, run_underlying hu, asIntOf, h0, hp])
theorem rd_build {T : TypeId} {parts : List (Nat × Operand)} {vs : List (Nat × Value)} {v : Value} (hp : parts.mapM (fun p => (ev fr p.2).map fun v => (p.1, v)) = some vs) (hb : ∀ w, (Instr.build T vs.toArray).run P w = .ok v w) :
    RD P ⟨dst, .build T parts.toArray, ty, pos, aft, g⟩ fr H S v := fun _ _ a w ha _ => .inl (by
  have key : ∀ (l : List (Nat × Operand)) (us : List (Nat × Value)), l.mapM (fun p => (ev fr p.2).map fun v => (p.1, v)) = some us → l.map (fun p => (p.1, a.eval p.2)) = us := by
    intro l
    induction l with
    | nil => intro us h; simp at h; simp [h]
    | cons q l ih =>
      intro us h
      rw [List.mapM_cons] at h
      simp only [bind, Option.bind_eq_some_iff, pure, Option.some.injEq, Option.map_eq_some_iff] at h
      obtain ⟨x, ⟨y, hy, rfl⟩, us', hus, rfl⟩ := h
      simp [ha.ev hy, ih us' hus]
  have e1 : parts.toArray.map (fun (x : Nat × Operand) => (x.1, a.eval x.2)) = vs.toArray := by rw [← key _ _ hp]; simp
  simp only [execOp, e1, hb, Sem.run_bind, Result.andThen_ok, Sem.run_pure])
/-! addresses -/
theorem addr_add (b off k : Nat) : (⟨b, off, none⟩ : Addr).add k = ⟨b, off + k, none⟩ := by unfold Addr.add; split <;> simp_all
theorem rd_fieldAddr {x : Operand} {xt : TypeId} {i b off k : Nat} {fs : Array Field} {f : Field} (hu : P.underlying xt = some (.struct fs)) (hf : fs[i]? = some f) (hx : ev fr x = some (.pointer (some ⟨b, off, none⟩)))
    (hs : (P.info? f.type).map (·.size) = some (k + 1)) {o' : Nat} (ho : off + f.offset = o') : RD P ⟨dst, .fieldAddr xt x i, ty, pos, aft, g⟩ fr H S (.pointer (some ⟨b, o', none⟩)) := fun _ _ a w ha _ => .inl (by
  subst ho
  obtain ⟨inf, hi, hk⟩ : ∃ inf, P.info? f.type = some inf ∧ inf.size = k + 1 := by
    cases hi : P.info? f.type with
    | none => simp [hi] at hs
    | some inf => exact ⟨inf, rfl, by simpa [hi] using hs⟩
  have hsz : (sizeOf f.type).run P w = .ok (k + 1) w := by simp [sizeOf, typeInfo, hi, hk]
  simp [execOp, ha.ev hx, Instr.fieldAt, run_underlying hu, hf, Instr.sureAddr, fieldPlace, hsz, addr_add])
theorem run_sizeOf' {e : TypeId} {k : Nat} (hs : (P.info? e).map (·.size) = some k) (w : World) : (sizeOf e).run P w = .ok k w := by
  cases hi : P.info? e with
  | none => simp [hi] at hs
  | some inf => have : inf.size = k := by simpa [hi] using hs
                simp [sizeOf, typeInfo, hi, this]
theorem rd_indexAddr_arr {x y : Operand} {xt e : TypeId} {n k b off : Nat} {kd : IntKind} {i : Int} (hu : P.underlying xt = some (.array n e)) (hs : (P.info? e).map (·.size) = some k) (hx : ev fr x = some (.pointer (some ⟨b, off, none⟩))) (hy : ev fr y = some (.int kd i))
    (h0 : 0 ≤ i) (h1 : i < n) {o' : Nat} (ho : off + i.toNat * k = o') : RD P ⟨dst, .indexAddr xt x y, ty, pos, aft, g⟩ fr H S (.pointer (some ⟨b, o', none⟩)) := fun _ _ a w ha _ => .inl (by
  subst ho
  simp [execOp, ha.ev hx, ha.ev hy, Instr.indexAt, run_underlying hu, asIntOf, h0, h1, run_sizeOf' hs, Instr.sureAddr, addr_add])
theorem rd_indexAddr_sl {x y : Operand} {xt e : TypeId} {k b off len cap : Nat} {kd : IntKind} {i : Int} (hu : P.underlying xt = some (.slice e)) (hs : (P.info? e).map (·.size) = some k) (hx : ev fr x = some (.slice (some ⟨b, off, none⟩) len cap)) (hy : ev fr y = some (.int kd i))
    (h0 : 0 ≤ i) (h1 : i < len) {o' : Nat} (ho : off + i.toNat * k = o') : RD P ⟨dst, .indexAddr xt x y, ty, pos, aft, g⟩ fr H S (.pointer (some ⟨b, o', none⟩)) := fun _ _ a w ha _ => .inl (by
  subst ho
  simp [execOp, ha.ev hx, ha.ev hy, Instr.indexAt, run_underlying hu, asIntOf, h0, h1, run_sizeOf' hs, addr_add])

/-- a struct's field: its type, where it lies -/
def fieldIs (P : Program) (T i ft off : Nat) : Bool :=
  match P.underlying T with
  | some (.struct fs) => match fs[i]? with
    | some f => f.type == ft && f.offset == off && (P.info? ft).isSome
    | none => false
  | _ => false
theorem fieldIs_spec {T i ft off : Nat} (h : fieldIs P T i ft off = true) : ∃ fs f, P.underlying T = some (.struct fs) ∧ fs[i]? = some f ∧ f.type = ft ∧ f.offset = off ∧ (P.info? ft).isSome = true := by
  unfold fieldIs at h
  split at h
  · rename_i fs hu
    split at h
    · rename_i f hf
      simp only [Bool.and_eq_true, beq_iff_eq] at h
      exact ⟨fs, f, hu, hf, h.1.1, h.1.2, h.2⟩
    · cases h
  · cases h
theorem rd_fa {x : Operand} {xt ft i fo b off k : Nat} (hi : fieldIs P xt i ft fo = true) (hx : ev fr x = some (.pointer (some ⟨b, off, none⟩))) (hs : (P.info? ft).map (·.size) = some (k + 1)) {o' : Nat} (ho : off + fo = o') :
    RD P ⟨dst, .fieldAddr xt x i, ty, pos, aft, g⟩ fr H S (.pointer (some ⟨b, o', none⟩)) := by
  obtain ⟨fs, f, h1, h2, h3, h4, _⟩ := fieldIs_spec hi
  exact rd_fieldAddr h1 h2 hx (by rw [h3]; exact hs) (by rw [h4]; exact ho)
theorem rd_fl {x : Operand} {xt ft i fo : Nat} {cs : Array Value} {v : Value} (hi : fieldIs P xt i ft fo = true) (hx : ev fr x = some (.agg cs)) (hp : partOf P ft cs fo = some v) : RD P ⟨dst, .field xt x i, ty, pos, aft, g⟩ fr H S v := by
  obtain ⟨fs, f, h1, h2, h3, h4, h5⟩ := fieldIs_spec hi
  exact rd_field h1 h2 hx (by rw [h3]; exact h5) (by rw [h3, h4]; exact hp)

/-! loads -/
theorem kn_row {w : World} {b off n : Nat} {cs : Array Value} {t : TypeId} {f : Nat × Nat} (hb : w.heap[b]? = some (.cells cs t f)) (hn : off + n ≤ cs.size) : rowAt w ⟨b, off, none⟩ n = some (cs.extract off (off + n)) := by
  simp [rowAt, hb, hn]
theorem rd_load_agg {x : Operand} {T n b off : Nat} {cs cs' : Array Value} {t : TypeId} {f : Nat × Nat} (hx : ev fr x = some (.pointer (some ⟨b, off, none⟩))) (hm : (b, Obj.cells cs t f) ∈ H) (ha : aggLen P T = some n) (hn : off + n ≤ cs.size) (hc : cs.extract off (off + n) = cs') :
    RD P ⟨dst, .load T x, ty, pos, aft, g⟩ fr H S (.agg cs') := fun _ _ a w hg hw => .inl (by
  subst hc
  have h1 : (loadVar T ⟨b, off, none⟩).run P w = .ok (.agg (cs.extract off (off + n))) w := by rw [run_loadVar_agg ha, kn_row (hw.has _ _ hm) hn]
  simp [execOp, hg.ev hx, Instr.loadAt, Instr.sureAddr, h1])
theorem isAgg_none {T : TypeId} (h : aggLen P T = none) (hi : (P.info? T).isSome = true) {d : TypeDesc} (hu : P.underlying T = some d) (w : World) : (isAgg T).run P w = .ok false w := by
  refine run_isAgg_plain hu ?_ w
  unfold aggLen at h
  obtain ⟨i, hi'⟩ := Option.isSome_iff_exists.1 hi
  cases d <;> simp [hu, hi'] at h <;> rfl
/-- a type of one cell -/
def oneT (P : Program) (T : TypeId) : Bool := (aggLen P T).isNone && (P.info? T).isSome && (P.underlying T).isSome
theorem oneT_run {T : TypeId} (h : oneT P T = true) (w : World) : (isAgg T).run P w = .ok false w := by
  simp only [oneT, Bool.and_eq_true, Option.isNone_iff_eq_none] at h
  obtain ⟨d, hu⟩ := Option.isSome_iff_exists.1 h.2
  exact isAgg_none h.1.1 h.1.2 hu w
theorem run_load_one {T : TypeId} {w : World} {p : Addr} {v : Value} (h : oneT P T = true) (hc : w.cell? p = some v) : (loadVar T p).run P w = .ok v w := by
  simp [loadVar, oneT_run h, hc]
theorem rd_load {x : Operand} {T b off : Nat} {cs : Array Value} {t : TypeId} {f : Nat × Nat} {v : Value} (hx : ev fr x = some (.pointer (some ⟨b, off, none⟩))) (hm : (b, Obj.cells cs t f) ∈ H) (ht : oneT P T = true) (hc : cs[off]? = some v) :
    RD P ⟨dst, .load T x, ty, pos, aft, g⟩ fr H S v := fun _ _ a w hg hw => .inl (by
  have hcell : w.cell? ⟨b, off, none⟩ = some v := by simp [World.cell?, hw.has _ _ hm, hc]
  simp [execOp, hg.ev hx, Instr.loadAt, Instr.sureAddr, run_load_one ht hcell])
theorem rd_load_old {x : Operand} {T b off : Nat} {s : World} {v : Value} (hx : ev fr x = some (.pointer (some ⟨b, off, none⟩))) (hs : s ∈ S) (ht : oneT P T = true) (hc : s.cell? ⟨b, off, none⟩ = some v) (hb : b < s.heap.size) (hk : b ∉ keysOf H) :
    RD P ⟨dst, .load T x, ty, pos, aft, g⟩ fr H S v := fun _ _ a w hg hw => .inl (by
  have hcell : w.cell? ⟨b, off, none⟩ = some v := by rw [← hc]; exact World.cell?_of_block (hw.old hs hb hk)
  simp [execOp, hg.ev hx, Instr.loadAt, Instr.sureAddr, run_load_one ht hcell])
theorem rd_load_agg_old {x : Operand} {T n b off : Nat} {s : World} {cs : Array Value} (hx : ev fr x = some (.pointer (some ⟨b, off, none⟩))) (hs : s ∈ S) (ht : aggLen P T = some n) (hc : rowAt s ⟨b, off, none⟩ n = some cs) (hb : b < s.heap.size) (hk : b ∉ keysOf H) :
    RD P ⟨dst, .load T x, ty, pos, aft, g⟩ fr H S (.agg cs) := fun _ _ a w hg hw => .inl (by
  have hr : rowAt w ⟨b, off, none⟩ n = some cs := by rw [← hc]; unfold rowAt; rw [hw.old hs hb hk]
  have h1 : (loadVar T ⟨b, off, none⟩).run P w = .ok (.agg cs) w := by rw [run_loadVar_agg ht, hr]
  simp [execOp, hg.ev hx, Instr.loadAt, Instr.sureAddr, h1])

theorem rd_load_all {x : Operand} {T n b : Nat} {cs : Array Value} {t : TypeId} {f : Nat × Nat} (hx : ev fr x = some (.pointer (some ⟨b, 0, none⟩))) (hm : (b, Obj.cells cs t f) ∈ H) (ha : aggLen P T = some n) (hn : cs.size = n) :
    RD P ⟨dst, .load T x, ty, pos, aft, g⟩ fr H S (.agg cs) := rd_load_agg hx hm ha (by omega) (by subst hn; simp)

/-! new blocks -/
theorem al_box {x : Operand} {T : TypeId} {v : Value} (hx : ev fr x = some v) : AL P ⟨dst, .box T x, ty, pos, aft, g⟩ fr H S (fun b => .pointer (some ⟨b, 0, none⟩)) (.cells v.cells T) := fun _ _ a w ha hw =>
  ⟨w.alloc (.cells v.cells T), .inl (by simp [execOp, ha.ev hx, Instr.box, newVar, newRow]), hw.alloc _⟩
theorem run_zeroValue' {T : TypeId} {z : Value} (hz : (P.info? T).bind (·.zero) = some z) (w : World) : (zeroValue T).run P w = .ok z w := by
  cases hi : P.info? T with
  | none => simp [hi] at hz
  | some inf => have : inf.zero = some z := by simpa [hi] using hz
                simp [zeroValue, typeInfo, hi, this]
theorem al_alloc {T : TypeId} {z : Value} (hz : (P.info? T).bind (·.zero) = some z) : AL P ⟨dst, .alloc T, ty, pos, aft, g⟩ fr H S (fun b => .pointer (some ⟨b, 0, none⟩)) (.cells z.cells T) := fun _ _ a w ha hw =>
  ⟨w.alloc (.cells z.cells T), .inl (by simp [execOp, Instr.alloc, run_zeroValue' hz, newVar, newRow]), hw.alloc _⟩

theorem al_box_agg {x : Operand} {T : TypeId} {cs : Array Value} (hx : ev fr x = some (.agg cs)) : AL P ⟨dst, .box T x, ty, pos, aft, g⟩ fr H S (fun b => .pointer (some ⟨b, 0, none⟩)) (.cells cs T) := al_box hx
theorem al_alloc_agg {T : TypeId} {cs : Array Value} (hz : (P.info? T).bind (·.zero) = some (.agg cs)) : AL P ⟨dst, .alloc T, ty, pos, aft, g⟩ fr H S (fun b => .pointer (some ⟨b, 0, none⟩)) (.cells cs T) := al_alloc hz
/-! stores -/
theorem turned_setCell {w : World} {b off : Nat} {cs : Array Value} {t : TypeId} {f : Nat × Nat} (v : Value) (hb : w.heap[b]? = some (.cells cs t f)) : Turned b (.cells (cs.setIfInBounds off v) t f) w (w.setCell ⟨b, off, none⟩ v) := by
  have hlt := (Array.getElem?_eq_some_iff.1 hb).1
  refine ⟨rfl, rfl, rfl, by simp [World.setCell], ?_, fun k hk => ?_⟩
  · simp [World.setCell, Array.getElem?_modify, hb]
  · simp only [World.setCell, Array.getElem?_modify]; rw [if_neg (fun e => hk e.symm)]
theorem wr_store {p x : Operand} {T b off : Nat} {cs : Array Value} {t : TypeId} {v : Value} (hp : ev fr p = some (.pointer (some ⟨b, off, none⟩))) (hx : ev fr x = some v) (ht : (P.info? T).map (·.size) = some 1) (h1 : v.oneCell' = true)
    {H' : Hp} (hu : Upd H b (Obj.cells cs t (0, 0)) (.cells (cs.setIfInBounds off v) t (0, 0)) H') (ho : off < cs.size) : WR P ⟨dst, .store T p x, ty, pos, aft, g⟩ fr H S undef H' := fun _ _ a w ha hw => by
  have hb := hw.has _ _ hu.mem
  have hc : w.cell? ⟨b, off, none⟩ = some cs[off] := by simp [World.cell?, hb, ho]
  have hf : w.frozen? ⟨b, off, none⟩ = false := by simp [World.frozen?, hb]
  refine ⟨w.setCell ⟨b, off, none⟩ v, .inr ⟨?_, rfl⟩, hw.turn hu (turned_setCell v hb)⟩
  have hcs : v.cells = #[v] := by cases v <;> first | rfl | (simp [Value.oneCell'] at h1)
  simp [execOp, ha.ev hp, ha.ev hx, Instr.storeAt, Instr.sureAddr, storeVar, run_sizeOf' ht, hcs, storeCells, addr_add, run_store P w _ v _ h1, hc, hf]
theorem turned_setRowAt {w : World} {b off : Nat} {cs : Array Value} {t : TypeId} {f : Nat × Nat} (vs : Array Value) (hb : w.heap[b]? = some (.cells cs t f)) : Turned b (.cells (splice cs off vs) t f) w (setRowAt w ⟨b, off, none⟩ vs) := by
  have e : setRowAt w ⟨b, off, none⟩ vs = w.setRow b (splice cs off vs) := by simp [setRowAt, hb]
  rw [e]
  refine ⟨rfl, rfl, rfl, by simp, ?_, fun k hk => ?_⟩
  · simp [World.setRow, Array.getElem?_modify, hb]
  · simp only [World.setRow, Array.getElem?_modify]; rw [if_neg (fun e => hk e.symm)]
theorem wr_store_agg {p x : Operand} {T n b off : Nat} {cs vs cs' : Array Value} {t : TypeId} (hp : ev fr p = some (.pointer (some ⟨b, off, none⟩))) (hx : ev fr x = some (.agg vs)) (ht : aggLen P T = some n) (hn : vs.size = n) (h1 : plain vs = true) (hs : splice cs off vs = cs')
    {H' : Hp} (hu : Upd H b (Obj.cells cs t (0, 0)) (.cells cs' t (0, 0)) H') (ho : off + n ≤ cs.size) : WR P ⟨dst, .store T p x, ty, pos, aft, g⟩ fr H S undef H' := fun _ _ a w ha hw => by
  subst hs
  have hb := hw.has _ _ hu.mem
  refine ⟨setRowAt w ⟨b, off, none⟩ vs, .inr ⟨?_, rfl⟩, hw.turn hu (turned_setRowAt vs hb)⟩
  have hst : (storeVar T ⟨b, off, none⟩ (.agg vs)).run P w = .ok () (setRowAt w ⟨b, off, none⟩ vs) := by
    rw [run_storeVar_agg ht, if_pos ⟨hn, h1, by simp [freeAt, hb, ho]⟩]
  simp [execOp, ha.ev hp, ha.ev hx, Instr.storeAt, Instr.sureAddr, hst]
theorem wr_store_all {p x : Operand} {T n b : Nat} {cs vs : Array Value} {t : TypeId} (hp : ev fr p = some (.pointer (some ⟨b, 0, none⟩))) (hx : ev fr x = some (.agg vs)) (ht : aggLen P T = some n) (hn : vs.size = n) (h1 : plain vs = true)
    {H' : Hp} (hu : Upd H b (Obj.cells cs t (0, 0)) (.cells vs t (0, 0)) H') (hc : cs.size = n) : WR P ⟨dst, .store T p x, ty, pos, aft, g⟩ fr H S undef H' :=
  wr_store_agg hp hx ht hn h1 (splice_all _ _ (by omega)) hu (by omega)
/-- one byte of a digest -/
theorem wr_store_dig {p x : Operand} {T b off : Nat} {k : Dig} {t : TypeId} {v : Int} (hp : ev fr p = some (.pointer (some ⟨b, off, none⟩))) (hx : ev fr x = some (.int .u8 v)) (ht : (P.info? T).map (·.size) = some 1) (h0 : 0 ≤ v) (h1 : v ≤ 255)
    {H' : Hp} (hu : Upd H b (Obj.cells (dv k) t (0, 0)) (.cells (dv (setD k off (UInt8.ofNat v.toNat))) t (0, 0)) H') (ho : off < 32) : WR P ⟨dst, .store T p x, ty, pos, aft, g⟩ fr H S undef H' :=
  wr_store hp hx ht rfl (by rw [dv_set _ _ _ h0 h1]; exact hu) (by rw [dv_size]; exact ho)
end

/-! ### calls -/
section
variable {P : Program} {r : Option Nat} {N : Nat} {ds : List Deferred} {ops : Array Oper} {Q : Exit → Act → World → Prop} {fr : Fr} {H : Hp} {S : List World} {l : List Oper}
variable {dst : Option Tmp} {ty : TypeId} {pos : String} {aft : Array Edge} {g : Option (Nat × Bool)}
theorem evs_map {N : Nat} {ds : List Deferred} {a : Act} (ha : Ag N ds a fr) : ∀ (xs : List Operand) (vs : List Value), xs.mapM (ev fr) = some vs → xs.map a.eval = vs := by
  intro xs
  induction xs with
  | nil => intro vs h; simp at h; simp [h]
  | cons x l ih =>
    intro vs h
    rw [List.mapM_cons] at h
    simp only [bind, Option.bind_eq_some_iff, pure, Option.some.injEq] at h
    obtain ⟨v, hv, vs', hvs, rfl⟩ := h
    simp [ha.ev hv, ih vs' hvs]
theorem ow_call {x : Operand} {xs : List Operand} {ats : Array TypeId} {f : FuncId} {fi ca : Array Value} {vs : List Value} {args : Array Value} (hg : gd ops fr ⟨dst, .call ⟨.value x, xs.toArray, ats⟩, ty, pos, aft, g⟩ = some true) (hd : dstOk N dst = true)
    (hx : ev fr x = some (.func (.func f) fi ca)) (hxs : xs.mapM (ev fr) = some vs) (he : ∀ args w, (callFunc f args).run P w = .ok (.enter f args) w) (hargs : fi ++ vs.toArray ++ ca = args)
    (h : ∀ w, Kn w H S → Calls P f args w fun e w' => ∃ v H' S', e = .returned v ∧ Kn w' H' S' ∧ OW P r N ds ops l Q (putF fr dst v) H' S') :
    OW P r N ds ops (⟨dst, .call ⟨.value x, xs.toArray, ats⟩, ty, pos, aft, g⟩ :: l) Q fr H S := by
  refine ⟨fun a w ha hw => ?_⟩
  unfold wpListIn
  rw [gd_spec ha hg, if_pos rfl]
  refine ⟨fun f _ => FF_fn r f, ?_⟩
  rw [Oper.semAt_plain _ _ _ (by intro c e; cases e)]
  subst hargs
  have hrun : (execOp a.eval ⟨dst, .call ⟨.value x, xs.toArray, ats⟩, ty, pos, aft, g⟩).run P w = .ok (.enter f (fi ++ vs.toArray ++ ca)) w := by
    have e1 : xs.toArray.map a.eval = vs.toArray := by rw [← evs_map ha _ _ hxs]; simp
    simp only [execOp, resolve, e1, ha.ev hx, Deferred.ofValue, Sem.run_bind, Sem.run_pure, Result.andThen_ok, invoke]
    exact he _ _
  rw [hrun, Oper.uponIn_enter]
  refine ⟨by simp [FF_depth], ?_⟩
  refine (callsFF (r := r) (h w hw)).mono ?_
  rintro e w' ⟨v, H', S', rfl, hk, ho⟩
  exact ho.run _ _ (ha.putF hd v) hk
end
end Go.Proofs.YtmlemnbhjbaedaaGreatDoor

/-
  The plain machine's operations that only reckon. Nothing here speaks of a program.
-/
import Derived.Test.YtmlemnbhjbaedaaGreatDoorEHeap
import Derived.Test.YtmlemnbhjbaedaaGreatDoorOps
import Derived.IntWalk
import Derived.Laws.StructEq
import Derived.Laws.Slices
import Derived.ChangeKeysEq
namespace Go.Proofs.YtmlemnbhjbaedaaGreatDoor
open Go.RowKit
set_option linter.unusedSimpArgs false
set_option linter.unusedVariables false

/-! ### types -/
inductive TyD where
  | int (k : IntKind)
  | bool
  | str
  | arr (n : Nat) (e : TypeId)
  | slice (e : TypeId)
  | struct (fs : List (TypeId × Nat))
  | ptr
  | iface
  | other
structure TyI where
  size : Nat
  bytes : Nat
  zero : V
  d : TyD
noncomputable def TyI.agg (i : TyI) : Bool := match i.d with
  | .arr _ _ => true
  | .struct _ => true
  | _ => false
noncomputable def TyD.Is (P : Program) (t : TypeId) : TyD → Prop
  | .int k => P.underlying t = some (.int k)
  | .bool => P.underlying t = some .bool
  | .str => P.underlying t = some .string
  | .arr n e => P.underlying t = some (.array n e) ∧ (P.info? e).isSome = true
  | .slice e => P.underlying t = some (.slice e)
  | .struct fs => P.underlying t = some (.struct (P.fieldsOf t)) ∧ (P.fieldsOf t).toList.map (fun f => (f.type, f.offset)) = fs ∧ P.stoodInHeld t = false ∧ (P.fieldsOf t).toList.all (fun f => f.name != "_") = true ∧ (P.fieldsOf t).toList.all (fun f => (P.info? f.type).isSome) = true
  | .ptr => P.underlying t = some (.pointer (P.pointee t))
  | .iface => ∃ ms, P.underlying t = some (.interface ms)
  | .other => match P.underlying t with | some (.struct _) => False | some (.array _ _) => False | some (.interface _) => False | some _ => True | none => False
structure TyOK (P : Program) (t : TypeId) (i : TyI) : Prop where
  size : (P.info? t).map (·.size) = some i.size
  bytes : (P.info? t).map (·.bytes) = some i.bytes
  zero : ∀ ρ, (P.info? t).bind (·.zero) = some (conc ρ i.zero)
  zin : InD (fun _ _ => False) i.zero
  d : i.d.Is P t
  eqg : i.agg = true → P.eqGuardType P.depth t = false
  zagg : i.zero.isAgg = i.agg
  zleaf : i.agg = false → i.zero.leaf = true
  zsize : i.zero.size = i.size
structure Cfg where
  ty : TypeId → Option TyI
  fn : FuncId → Option Func
  ext : FuncId → Option (List V → Option V)
  glob : Nat → Bool
  known : FuncId → Option (List V → Heap → Option (V × Heap))
  mp : TypeId → Option (TypeId × TypeId)
  mt : TypeId → String → Option FuncId
structure CfgOK (P : Program) (C : Cfg) : Prop where
  ty : ∀ t i, C.ty t = some i → TyOK P t i
  ext : ∀ f e, C.ext f = some e → ∀ ρ vs v, e vs = some v → (∀ w, (callFunc f (concL ρ vs).toArray).run P w = .ok (.value (conc ρ v)) w) ∧ ∀ D, InDL D vs → InD D v
  mp : ∀ t k e, C.mp t = some (k, e) → P.underlying t = some (.map k e)
  mt : ∀ t m f, C.mt t m = some f → ∀ v args w, (callMethod (.iface t v) m args).run P w = (callFunc f (#[v] ++ args)).run P w

section
variable {P : Program} {t : TypeId} {i : TyI}
theorem TyOK.info (h : TyOK P t i) : ∃ inf, P.info? t = some inf ∧ inf.size = i.size ∧ inf.bytes = i.bytes ∧ ∀ ρ, inf.zero = some (conc ρ i.zero) := by
  cases hi : P.info? t with
  | none => have := h.size; simp [hi] at this
  | some inf => exact ⟨inf, rfl, by have := h.size; simpa [hi] using this, by have := h.bytes; simpa [hi] using this, fun ρ => by have := h.zero ρ; simpa [hi] using this⟩
theorem TyOK.isAgg (h : TyOK P t i) (w : World) : (isAgg t).run P w = .ok i.agg w := by
  have hd := h.d
  unfold TyI.agg
  cases he : i.d <;> rw [he] at hd <;> simp only [TyD.Is] at hd
  case arr => unfold Go.isAgg; rw [Sem.run_bind, run_underlying hd.1 w]; simp
  case struct => unfold Go.isAgg; rw [Sem.run_bind, run_underlying hd.1 w]; simp
  case iface => obtain ⟨ms, hd⟩ := hd; exact run_isAgg_plain hd rfl w
  case other =>
    cases hu : P.underlying t with
    | none => simp [hu] at hd
    | some x =>
      refine run_isAgg_plain hu ?_ w
      cases x <;> simp [hu] at hd <;> rfl
  all_goals exact run_isAgg_plain hd rfl w
theorem TyOK.sizeOf (h : TyOK P t i) (w : World) : (sizeOf t).run P w = .ok i.size w := run_sizeOf' h.size w
theorem TyOK.aggLen (h : TyOK P t i) (ha : i.agg = true) : aggLen P t = some i.size := by
  have hd := h.d
  unfold TyI.agg at ha
  unfold Go.Proofs.YtmlemnbhjbaedaaGreatDoor.aggLen
  cases he : i.d <;> rw [he] at hd ha <;> simp only [TyD.Is] at hd <;> try (cases ha; done)
  · rw [hd.1]; exact h.size
  · rw [hd.1]; exact h.size
theorem TyOK.part (h : TyOK P t i) {ρ : Env} {v x : V} {off : Nat} {f : Nat} (hg : getAt f v off i.size i.agg = some x) (w : World) : (part t (cellsV ρ v).toArray off).run P w = .ok (conc ρ x) w := by
  obtain ⟨g1, g2, g3, g4⟩ := getAt_spec (ρ := ρ) f v off i.size i.agg x hg
  unfold Go.part
  rw [Sem.run_bind, h.isAgg w, Result.andThen_ok]
  cases ha : i.agg with
  | true =>
    rw [ha, if_pos rfl] at g4
    simp only [if_true, Sem.run_bind, h.sizeOf w, Result.andThen_ok, Sem.run_pure]
    rw [conc_agg g4, ← g3]
    congr 2
    apply Array.ext'
    simp [Array.toList_extract, List.extract, List.take_drop]
  | false =>
    rw [ha, if_neg (by simp)] at g4
    have h1 := cellsV_leaf (ρ := ρ) g4
    have h2 : x.size = 1 := by
      have := cellsV_length ρ x
      rw [h1] at this; simpa using this.symm
    have h3 : (cellsV ρ v).toArray[off]? = some (conc ρ x) := by
      have h4 : (((cellsV ρ v).drop off).take i.size)[0]? = some (conc ρ x) := by rw [g3, h1]; rfl
      rw [List.getElem?_take_of_lt (by omega), List.getElem?_drop, Nat.add_zero] at h4
      simpa using h4
    simp [h3]
end

/-! ### whole numbers -/
noncomputable def ltI (m n : Int) : Bool := match m, n with
  | .ofNat a, .ofNat b => Nat.blt a b
  | .ofNat _, .negSucc _ => false
  | .negSucc _, .ofNat _ => true
  | .negSucc a, .negSucc b => Nat.blt b a
theorem ltI_eq (m n : Int) : ltI m n = decide (m < n) := by
  have hb : ∀ a b : Nat, Nat.blt a b = decide (a < b) := fun a b => by
    rw [Bool.eq_iff_iff, decide_eq_true_iff, Nat.blt_eq]
  cases m <;> cases n <;> simp only [ltI, hb] <;> rw [Bool.eq_iff_iff] <;> simp <;> omega
noncomputable def eqI (m n : Int) : Bool := match m, n with
  | .ofNat a, .ofNat b => Nat.beq a b
  | .negSucc a, .negSucc b => Nat.beq a b
  | _, _ => false
theorem eqI_eq (m n : Int) : eqI m n = decide (m = n) := by
  cases m <;> cases n <;> simp only [eqI] <;> rw [Bool.eq_iff_iff] <;> simp [Nat.beq_eq]
  omega
noncomputable def wrapF (k : IntKind) (z : Int) : Int := match k, z with
  | .i64, .ofNat a => match Nat.blt a 9223372036854775808 with
    | true => .ofNat a
    | false => k.wrap z
  | .i64, .negSucc a => match Nat.blt a 9223372036854775808 with
    | true => .negSucc a
    | false => k.wrap z
  | .u64, .ofNat a => .ofNat (a % 18446744073709551616)
  | .u32, .ofNat a => .ofNat (a % 4294967296)
  | .u8, .ofNat a => .ofNat (a % 256)
  | _, _ => k.wrap z
theorem wrapF_eq (k : IntKind) (z : Int) : wrapF k z = k.wrap z := by
  unfold wrapF
  split
  · split
    · rename_i h; rw [Nat.blt_eq] at h; rw [IntWalk.i64_in _ (by simp only [Int.ofNat_eq_natCast]; omega)]
    · rfl
  · split
    · rename_i h; rw [Nat.blt_eq] at h; rw [IntWalk.i64_in _ (by omega)]
    · rfl
  · simp only [IntKind.wrap, IntKind.bits, IntKind.signed, Bool.false_and, Bool.false_eq_true, if_false]; rfl
  · simp only [IntKind.wrap, IntKind.bits, IntKind.signed, Bool.false_and, Bool.false_eq_true, if_false]; rfl
  · simp only [IntKind.wrap, IntKind.bits, IntKind.signed, Bool.false_and, Bool.false_eq_true, if_false]; rfl
  · rfl
/-- the numbers of a kind lie below -/
noncomputable def limK : IntKind → Nat
  | .u8 => 256
  | .u16 => 65536
  | .u32 => 4294967296
  | .u64 => 18446744073709551616
  | _ => 0
noncomputable def bitsN (op : BinOp) (a b : Nat) : Option Nat := match op with
  | .and => some (Nat.land a b)
  | .or => some (Nat.lor a b)
  | .xor => some (Nat.xor a b)
  | _ => none
noncomputable def bitsF (op : BinOp) (k : IntKind) (m n : Int) : Option Int := match m, n with
  | .ofNat a, .ofNat b => match Nat.beq (limK k) 0 with
    | true => none
    | false => match bitsN op (a % limK k) (b % limK k) with
      | some c => some (.ofNat c)
      | none => none
  | _, _ => none
theorem limK_pow {k : IntKind} (h : 0 < limK k) : limK k = 2 ^ k.bits ∧ k.signed = false := by
  cases k <;> simp [limK] at h <;> exact ⟨rfl, rfl⟩
theorem bitsF_eq {op : BinOp} {k : IntKind} {m n c : Int} (h : bitsF op k m n = some c) {P : Program} (w : World) : (Op.intBits op k m n).run P w = .ok (.int k c) w := by
  unfold bitsF at h
  split at h
  · rename_i a b
    split at h
    · cases h
    · rename_i hc
      have h0 : 0 < limK k := by
        rcases Nat.eq_zero_or_pos (limK k) with e | e
        · rw [e] at hc; cases hc
        · exact e
      obtain ⟨h1, h2⟩ := limK_pow h0
      have w1 : ∀ x : Nat, x < 2 ^ k.bits → k.wrap (x : Int) = x := fun x hx => by
        simp only [IntKind.wrap, h2, Bool.false_and, Bool.false_eq_true, if_false]
        have : ((x : Int) % ((2 : Int) ^ k.bits)) = ((x % 2 ^ k.bits : Nat) : Int) := by push_cast; rfl
        rw [this, Nat.mod_eq_of_lt hx]
      have tn : ∀ x : Nat, (BitVec.ofInt k.bits (Int.ofNat x)).toNat = x % limK k := fun x => by
        rw [show Int.ofNat x = ((x : Nat) : Int) from rfl, BitVec.ofInt_natCast, BitVec.toNat_ofNat, h1]
      have ha : a % limK k < 2 ^ k.bits := by rw [← h1]; exact Nat.mod_lt _ h0
      have hb : b % limK k < 2 ^ k.bits := by rw [← h1]; exact Nat.mod_lt _ h0
      cases op <;> simp only [bitsN] at h <;> try (cases h; done)
      all_goals
        simp only [Option.some.injEq] at h
        subst h
        simp only [Op.intBits, Sem.run_pure, BitVec.toNat_and, BitVec.toNat_or, BitVec.toNat_xor, tn a, tn b]
      · rw [w1 _ (Nat.and_lt_two_pow _ hb)]; rfl
      · rw [w1 _ (Nat.or_lt_two_pow ha hb)]; rfl
      · rw [w1 _ (Nat.xor_lt_two_pow ha hb)]; rfl
  · cases h
/-- every bit turned -/
noncomputable def notF (k : IntKind) (n : Int) : Option Int := bitsF .xor k (.ofNat (limK k - 1)) n
theorem notF_eq {k : IntKind} {n c : Int} (h : notF k n = some c) {P : Program} (w : World) : (Op.unary .xor (.int k n)).run P w = .ok (.int k c) w := by
  have e : (if k.signed then -1 else k.max) = Int.ofNat (limK k - 1) := by
    cases k <;> first | rfl | (exfalso; unfold notF bitsF at h; split at h <;> first | (cases h; done) | (simp [limK, Nat.blt] at h; done))
  unfold Op.unary
  simp only [e]
  exact bitsF_eq h w
/-- two whole numbers of a kind -/
noncomputable def binI (op : BinOp) (k : IntKind) (m n : Int) : Option V := match op with
  | .add => some (.int k (wrapF k (m + n)))
  | .sub => some (.int k (wrapF k (m - n)))
  | .mul => some (.int k (wrapF k (m * n)))
  | .quo => match eqI n 0 with
    | true => none
    | false => some (.int k (wrapF k (m.tdiv n)))
  | .rem => match eqI n 0 with
    | true => none
    | false => some (.int k (m.tmod n))
  | .and => match bitsF .and k m n with
    | some c => some (.int k c)
    | none => none
  | .or => match bitsF .or k m n with
    | some c => some (.int k c)
    | none => none
  | .xor => match bitsF .xor k m n with
    | some c => some (.int k c)
    | none => none
  | .lss => some (.bool (ltI m n))
  | .leq => some (.bool (!ltI n m))
  | .gtr => some (.bool (ltI n m))
  | .geq => some (.bool (!ltI m n))
  | .eql => some (.bool (eqI m n))
  | .neq => some (.bool (!eqI m n))
  | _ => none
/-- shifts -/
noncomputable def shI (op : BinOp) (k : IntKind) (m n : Int) : Option V := match m, n with
  | .ofNat a, .ofNat b => match op with
    | .shr => some (.int k (.ofNat (Nat.shiftRight a (min b k.bits))))
    | .shl => some (.int k (wrapF k (.ofNat (Nat.shiftLeft a (min b k.bits)))))
    | _ => none
  | _, _ => none
section
variable {P : Program} (w : World) {x y : Operand} {t : TypeId} {k k2 : IntKind} {m n : Int} {r : V} {op : BinOp} {ρ : Env}
theorem binI_eq (h : binI op k m n = some r) : (do eqGuard op t x y (.int k m) (.int k n); binOp op t (.int k m) (.int k n)).run P w = .ok (conc ρ r) w := by
  unfold binI at h
  cases op <;> simp only at h <;> try (cases h; done)
  case add => cases h; simp [eqGuard, binOp, Op.intArith, conc, wrapF_eq]
  case sub => cases h; simp [eqGuard, binOp, Op.intArith, conc, wrapF_eq]
  case mul => cases h; simp [eqGuard, binOp, Op.intArith, conc, wrapF_eq]
  case quo =>
    split at h
    · cases h
    · rename_i h0
      rw [eqI_eq, decide_eq_false_iff_not] at h0
      cases h; simp [eqGuard, binOp, Op.intDiv, conc, wrapF_eq, h0]
  case rem =>
    split at h
    · cases h
    · rename_i h0
      rw [eqI_eq, decide_eq_false_iff_not] at h0
      cases h; simp [eqGuard, binOp, Op.intDiv, conc, h0]
  case and => split at h; rename_i hb; cases h; simp [eqGuard, binOp, bitsF_eq hb, conc]; cases h
  case or => split at h; rename_i hb; cases h; simp [eqGuard, binOp, bitsF_eq hb, conc]; cases h
  case xor => split at h; rename_i hb; cases h; simp [eqGuard, binOp, bitsF_eq hb, conc]; cases h
  case lss => cases h; simp [eqGuard, binOp, Op.intCmp, conc, ltI_eq]
  case leq =>
    cases h
    simp [eqGuard, binOp, Op.intCmp, conc, ltI_eq]
    rw [Bool.eq_iff_iff]; simp
  case gtr => cases h; simp [eqGuard, binOp, Op.intCmp, conc, ltI_eq]
  case geq =>
    cases h
    simp [eqGuard, binOp, Op.intCmp, conc, ltI_eq]
    rw [Bool.eq_iff_iff]; simp
  case eql =>
    cases h
    simp [eqGuard, binOp, Op.intCmp, conc, eqI_eq]
    rw [Bool.eq_iff_iff]; simp
  case neq =>
    cases h
    simp [eqGuard, binOp, Op.intCmp, conc, eqI_eq]
    rw [Bool.eq_iff_iff]; simp
theorem shI_eq (h : shI op k m n = some r) : (do eqGuard op t x y (.int k m) (.int k2 n); binOp op t (.int k m) (.int k2 n)).run P w = .ok (conc ρ r) w := by
  unfold shI at h
  split at h
  · rename_i a b
    have h0 : ¬ (Int.ofNat b < 0) := by simp only [Int.ofNat_eq_natCast]; omega
    have ht : (Int.ofNat b).toNat = b := rfl
    split at h
    · cases h
      simp only [eqGuard, binOp, Op.shift, h0, if_false, ht, Sem.run_bind, Sem.run_pure, Result.andThen_ok, conc]
      simp
      rw [Int.shiftRight_eq_div_pow, Int.fdiv_eq_ediv_of_nonneg _ (by exact Int.pow_nonneg (by decide))]
      push_cast; rfl
    · cases h
      simp only [eqGuard, binOp, Op.shift, h0, if_false, ht, Sem.run_bind, Sem.run_pure, Result.andThen_ok, conc, wrapF_eq]
      simp
      congr 1
      rw [Int.shiftLeft_eq]
    · cases h
  · cases h
end

/-! ### operands -/
noncomputable def ofLeaf : Value → Option V
  | .bool b => some (.bool b)
  | .int k n => some (.int k n)
  | .string s => some (.str s.data.toList)
  | .pointer none => some .nilp
  | .slice none 0 0 => some .nils
  | .map none => some .nilm
  | .nilFunc => some .nilf
  | .nilIface => some .nili
  | _ => none
theorem ofLeaf_spec {x : Value} {v : V} (h : ofLeaf x = some v) (ρ : Env) : conc ρ v = x ∧ v.leaf = true ∧ ∀ D, InD D v := by
  unfold ofLeaf at h
  split at h <;> cases h <;> simp [conc, V.leaf, InD]
noncomputable def ofLeaves : List Value → Option (List V)
  | [] => some []
  | x :: l => match ofLeaf x, ofLeaves l with
    | some v, some r => some (v :: r)
    | _, _ => none
theorem ofLeaves_spec : ∀ {l : List Value} {r : List V}, ofLeaves l = some r → ∀ ρ, concC ρ r = l ∧ ∀ D, InDL D r
  | [], r, h, ρ => by simp [ofLeaves] at h; subst h; exact ⟨rfl, fun _ => trivial⟩
  | x :: l, r, h, ρ => by
    simp only [ofLeaves] at h
    split at h
    · rename_i v r' h1 h2
      cases h
      obtain ⟨a1, a2, a3⟩ := ofLeaf_spec h1 ρ
      obtain ⟨b1, b2⟩ := ofLeaves_spec h2 ρ
      exact ⟨by simp [concC, cellsV_leaf a2, a1, b1], fun D => ⟨a3 D, b2 D⟩⟩
    · cases h
noncomputable def ofV : Value → Option V
  | .agg cs => match ofLeaves cs.toList with
    | some l => some (.agg cs.size l)
    | none => none
  | x => ofLeaf x
theorem ofV_spec {x : Value} {v : V} (h : ofV x = some v) (ρ : Env) : conc ρ v = x ∧ ∀ D, InD D v := by
  unfold ofV at h
  split at h
  · rename_i cs
    split at h
    · rename_i l hl
      cases h
      obtain ⟨b1, b2⟩ := ofLeaves_spec hl ρ
      refine ⟨?_, b2⟩
      simp [conc, b1, fit_self]
    · cases h
  · exact ⟨(ofLeaf_spec h ρ).1, (ofLeaf_spec h ρ).2.2⟩
noncomputable def evV (C : Cfg) (fr : Tr V) : Operand → Option V
  | .tmp t => fr.get t
  | .const v => ofV v
  | .global g => match C.glob g with
    | true => some (.ptr g 0)
    | false => none
  | .func f => some (.fn f [] [])
/-- the globals lie where they lie -/
noncomputable def GlobOK (C : Cfg) (D : Nat → Nat → Prop) (ρ : Env) : Prop := ∀ g, C.glob g = true → D g 0 ∧ ρ.b g = g ∧ ρ.pre g = 0
structure FrOK (C : Cfg) (D : Nat → Nat → Prop) (ρ : Env) (fr : Tr V) (a : Act) : Prop where
  at_ : ∀ t v, fr.get t = some v → a.tmps[t]? = some (conc ρ v)
  in_ : frIn D fr
  gl : GlobOK C D ρ
section
variable {C : Cfg} {D : Nat → Nat → Prop} {ρ : Env} {fr : Tr V} {a : Act}
theorem FrOK.ev (h : FrOK C D ρ fr a) {x : Operand} {v : V} (hx : evV C fr x = some v) : a.eval x = conc ρ v ∧ InD D v := by
  cases x with
  | tmp t => have := h.at_ t v hx; exact ⟨by simp [Act.eval, this], h.in_ t v hx⟩
  | const c => obtain ⟨h1, h2⟩ := ofV_spec hx ρ; exact ⟨by simp [Act.eval, h1], h2 D⟩
  | global g =>
    simp only [evV] at hx
    split at hx
    · rename_i hg
      cases hx
      obtain ⟨h1, h2, h3⟩ := h.gl g hg
      exact ⟨by simp [Act.eval, conc, h2, h3], h1⟩
    · cases hx
  | func f => simp only [evV, Option.some.injEq] at hx; subst hx; exact ⟨by simp [Act.eval, conc, concL], trivial, trivial⟩
noncomputable def evL (C : Cfg) (fr : Tr V) : List Operand → Option (List V)
  | [] => some []
  | x :: l => match evV C fr x, evL C fr l with
    | some v, some r => some (v :: r)
    | _, _ => none
theorem FrOK.evs (h : FrOK C D ρ fr a) : ∀ {l : List Operand} {r : List V}, evL C fr l = some r → l.map a.eval = concL ρ r ∧ InDL D r
  | [], r, hr => by simp [evL] at hr; subst hr; exact ⟨rfl, trivial⟩
  | x :: l, r, hr => by
    simp only [evL] at hr
    split at hr
    · rename_i v r' h1 h2
      cases hr
      obtain ⟨a1, a2⟩ := h.ev h1
      obtain ⟨b1, b2⟩ := h.evs h2
      exact ⟨by simp [concL, a1, b1], a2, b2⟩
    · cases hr
end

/-! ### equality -/
noncomputable def bytesEq : List UInt8 → List UInt8 → Bool
  | [], [] => true
  | a :: l, b :: r => Nat.beq a.toNat b.toNat && bytesEq l r
  | _, _ => false
theorem bytesEq_eq : ∀ a b : List UInt8, bytesEq a b = decide (a = b)
  | [], [] => rfl
  | [], _ :: _ => rfl
  | _ :: _, [] => rfl
  | a :: l, b :: r => by
    rw [bytesEq, bytesEq_eq l r, Bool.eq_iff_iff]
    simp [UInt8.toNat_inj]
noncomputable def intsEq : List V → List V → Option Bool
  | [], [] => some true
  | .int j a :: l, .int k b :: r => match decide (j = k) with
    | true => match eqI a b with
      | true => intsEq l r
      | false => match intsEq l r with
        | some _ => some false
        | none => none
    | false => none
  | _, _ => none
mutual
noncomputable def eqV (C : Cfg) : Nat → TypeId → V → V → Option Bool
  | 0, _, _, _ => none
  | f + 1, t, x, y => match C.ty t with
    | none => none
    | some i => match i.d with
      | .int _ => match x, y with
        | .int j a, .int k b => match decide (j = k) with
          | true => some (eqI a b)
          | false => none
        | _, _ => none
      | .bool => match x, y with
        | .bool a, .bool b => some (a == b)
        | _, _ => none
      | .str => match x, y with
        | .str a, .str b => some (bytesEq a b)
        | _, _ => none
      | .ptr => match x, y with
        | .nilp, .nilp => some true
        | .nilp, .ptr _ _ => some false
        | .ptr _ _, .nilp => some false
        | _, _ => none
      | .slice _ => match x, y with
        | .nils, .nils => some true
        | .nils, .sl _ _ _ _ _ _ => some false
        | .sl _ _ _ _ _ _, .nils => some false
        | _, _ => none
      | .struct fs => match x.isAgg && y.isAgg with
        | true => eqFs C f fs x y
        | false => none
      | .arr n e => match x.isAgg && y.isAgg, C.ty e with
        | true, some j => eqEs C f e j n 0 x y
        | _, _ => none
      | _ => none
noncomputable def eqFs (C : Cfg) : Nat → List (TypeId × Nat) → V → V → Option Bool
  | 0, _, _, _ => none
  | _ + 1, [], _, _ => some true
  | f + 1, (t, off) :: fs, x, y => match C.ty t with
    | none => none
    | some i => match getAt 50 x off i.size i.agg, getAt 50 y off i.size i.agg with
      | some a, some b => match eqV C f t a b with
        | some true => eqFs C f fs x y
        | some false => some false
        | none => none
      | _, _ => none
noncomputable def eqEs (C : Cfg) : Nat → TypeId → TyI → Nat → Nat → V → V → Option Bool
  | 0, _, _, _, _, _, _ => none
  | _ + 1, _, _, 0, _, _, _ => some true
  | f + 1, e, j, n + 1, k, x, y => match getAt 50 x (k * j.size) j.size j.agg, getAt 50 y (k * j.size) j.size j.agg with
    | some a, some b => match eqV C f e a b with
      | some true => eqEs C f e j n (k + 1) x y
      | some false => some false
      | none => none
    | _, _ => none
end
section
variable {P : Program} {C : Cfg} {ρ : Env}
theorem dec1 {d f : Nat} (h : f + 1 ≤ d) : ∃ e, d = e + 1 ∧ f ≤ e := ⟨d - 1, by omega, by omega⟩
mutual
theorem eqV_spec (hC : CfgOK P C) : ∀ (f : Nat) (t : TypeId) (x y : V) (b : Bool), eqV C f t x y = some b → ∀ d, f ≤ d → ∀ w, (Op.equalIn d t (conc ρ x) (conc ρ y)).run P w = .ok b w
  | 0, _, _, _, _, h => by simp [eqV] at h
  | f + 1, t, x, y, b, h => fun d hd w => by
    obtain ⟨d, rfl, hd1⟩ := dec1 hd
    simp only [eqV] at h
    split at h
    · cases h
    · rename_i i hi
      have ok := hC.ty t i hi
      have hdd := ok.d
      split at h
      · rename_i k he
        rw [he] at hdd
        split at h
        · split at h
          · rename_i hk
            simp only [decide_eq_true_eq] at hk
            subst hk
            cases h
            simp only [conc]
            rw [run_equalIn_int w d t _ _ _ _ hdd, eqI_eq]
            congr 1
          · cases h
        · cases h
      · rename_i he
        rw [he] at hdd
        split at h
        · cases h
          simp only [conc]
          exact run_equalIn_bool' w d t _ _ hdd
        · cases h
      · rename_i he
        rw [he] at hdd
        split at h
        · cases h
          simp only [conc]
          rw [run_equalIn_string w d t _ _ hdd, ByteArray.toList_eq, ByteArray.toList_eq, bytesEq_eq]
          congr 1
          rw [Bool.eq_iff_iff]; simp
        · cases h
      · rename_i he
        rw [he] at hdd
        have hdd : P.underlying t = some (.pointer (P.pointee t)) := hdd
        split at h <;> cases h <;> simp only [conc] <;> simp [Op.equalIn, run_underlying hdd]
      · rename_i e he
        rw [he] at hdd
        have hdd : P.underlying t = some (.slice e) := hdd
        split at h <;> cases h <;> simp only [conc, slConc] <;> simp [Op.equalIn, run_underlying hdd]
      · rename_i fs he
        rw [he] at hdd
        obtain ⟨h1, h2, h3, h4, _⟩ := hdd
        split at h
        · rename_i ha
          simp only [Bool.and_eq_true] at ha
          rw [conc_agg ha.1, conc_agg ha.2, run_equalIn_struct w d t _ _ h1 h3]
          exact eqFs_spec hC f fs x y b h _ h2 h4 d hd1 w
        · cases h
      · rename_i n e he
        rw [he] at hdd
        split at h
        · rename_i j ha hj
          simp only [Bool.and_eq_true] at ha
          have okj := hC.ty e j hj
          obtain ⟨inf, hin, hsz, _⟩ := okj.info
          have hc : P.cellsOf e = j.size := by simp [Program.cellsOf, hin, hsz]
          rw [conc_agg ha.1, conc_agg ha.2, run_equalIn_array w d _ _ hdd.1 hin, hc, List.range_eq_range']
          exact eqEs_spec hC f e j n 0 x y b h okj d hd1 w
        · cases h
      · cases h
theorem eqFs_spec (hC : CfgOK P C) : ∀ (f : Nat) (fs : List (TypeId × Nat)) (x y : V) (b : Bool), eqFs C f fs x y = some b → ∀ (L : List Field), L.map (fun f => (f.type, f.offset)) = fs → L.all (fun f => f.name != "_") = true → ∀ d, f ≤ d → ∀ w,
    (Op.eqFields d (cellsV ρ x).toArray (cellsV ρ y).toArray L).run P w = .ok b w
  | 0, _, _, _, _, h => by simp [eqFs] at h
  | f + 1, [], x, y, b, h => fun L hL _ d _ w => by
    simp only [eqFs, Option.some.injEq] at h
    subst h
    simp at hL
    subst hL
    simp [Op.eqFields]
  | f + 1, (t, off) :: fs, x, y, b, h => fun L hL hn d hd w => by
    match L, hL with
    | F :: L, hL0 =>
      simp only [List.map_cons, List.cons.injEq, Prod.mk.injEq] at hL0
      obtain ⟨⟨rfl, rfl⟩, hL1⟩ := hL0
      simp only [List.all_cons, Bool.and_eq_true, bne_iff_ne, ne_eq] at hn
      simp only [eqFs] at h
      split at h
      · cases h
      · rename_i i hi
        have ok := hC.ty _ i hi
        split at h
        · rename_i u v hu hv
          have p1 := ok.part (ρ := ρ) hu w
          have p2 := ok.part (ρ := ρ) hv w
          simp only [Op.eqFields, ne_eq, hn.1, not_false_eq_true, if_true, Sem.run_bind, p1, p2, Result.andThen_ok]
          split at h
          · rename_i he
            have p3 := eqV_spec hC f _ u v true he d (by omega) w
            rw [p3, Result.andThen_ok]
            simp only [Bool.not_true, Bool.false_eq_true, if_false]
            exact eqFs_spec hC f fs x y b h L hL1 hn.2 d (by omega) w
          · rename_i he
            cases h
            have p3 := eqV_spec hC f _ u v false he d (by omega) w
            rw [p3, Result.andThen_ok]
            simp
          · cases h
        · cases h
theorem eqEs_spec (hC : CfgOK P C) : ∀ (f : Nat) (e : TypeId) (j : TyI) (n k : Nat) (x y : V) (b : Bool), eqEs C f e j n k x y = some b → TyOK P e j → ∀ d, f ≤ d → ∀ w,
    (Op.eqItems d e j.size (cellsV ρ x).toArray (cellsV ρ y).toArray (List.range' k n)).run P w = .ok b w
  | 0, _, _, _, _, _, _, _, h => by simp [eqEs] at h
  | f + 1, e, j, 0, k, x, y, b, h => fun _ d _ w => by
    simp only [eqEs, Option.some.injEq] at h
    subst h
    simp [Op.eqItems]
  | f + 1, e, j, n + 1, k, x, y, b, h => fun ok d hd w => by
    simp only [eqEs] at h
    split at h
    · rename_i u v hu hv
      have p1 := ok.part (ρ := ρ) hu w
      have p2 := ok.part (ρ := ρ) hv w
      simp only [List.range'_succ, Op.eqItems, Sem.run_bind, p1, p2, Result.andThen_ok]
      split at h
      · rename_i he
        have p3 := eqV_spec hC f _ u v true he d (by omega) w
        rw [p3, Result.andThen_ok]
        simp only [Bool.not_true, Bool.false_eq_true, if_false]
        exact eqEs_spec hC f e j n (k + 1) x y b h ok d (by omega) w
      · rename_i he
        cases h
        have p3 := eqV_spec hC f _ u v false he d (by omega) w
        rw [p3, Result.andThen_ok]
        simp
      · cases h
    · cases h
end
end
end Go.Proofs.YtmlemnbhjbaedaaGreatDoor

/-
  What values with what they hold stand for in the plain machine. Nothing here speaks of a program.
-/
import Derived.Test.YtmlemnbhjbaedaaGreatDoorWFlat
namespace Go.Proofs.YtmlemnbhjbaedaaGreatDoor
open Go.RowKit
set_option linter.unusedSimpArgs false
set_option linter.unusedVariables false

/-- one's own numbers below nw, their blocks; the blocks that stay as they are; the heap -/
structure Ctx where
  nw : Nat
  σ : Nat → Nat
  D : Nat → Prop
  h : Heap
mutual
/-- a value's cells -/
noncomputable def RS (Γ : Ctx) : W → List V → Prop
  | .undef, s => s = [.undef]
  | .bool b, s => s = [.bool b]
  | .int k n, s => s = [.int k n]
  | .str x, s => s = [.str x]
  | .nilp, s => s = [.nilp]
  | .ptr b off, s => b < Γ.nw ∧ s = [.ptr (Γ.σ b) off]
  | .nils, s => s = [.nils]
  | .sl b base off len esz lim, s => b < Γ.nw ∧ s = [.sl (Γ.σ b) base off len esz lim]
  | .fz l e full, s => (l = [] ∧ s = [.nils]) ∨ ∃ b base off lim bv, s = [.sl b base off l.length e lim] ∧ (full = true → lim = some l.length) ∧ Γ.D b ∧ Γ.h.val b = some bv ∧ bv.isAgg = true ∧ off + l.length * e ≤ bv.size ∧ (∀ x ∈ l, x.size = e) ∧ RSL Γ l (((flatV bv).drop off).take (l.length * e))
  | .fel x, s => ∃ b off bv, s = [.ptr b off] ∧ Γ.D b ∧ Γ.h.val b = some bv ∧ off + x.size ≤ bv.size ∧ (x.isAgg = true → bv.isAgg = true) ∧ (bv.leaf = true ∨ bv.isAgg = true) ∧ RS Γ x (((flatV bv).drop off).take x.size)
  | .nilm, s => s = [.nilm]
  | .fn f a c, s => ∃ a' c', s = [.fn f a' c'] ∧ RVL Γ a a' ∧ RVL Γ c c'
  | .yield l, s => s = [.yield l]
  | .nilf, s => s = [.nilf]
  | .iface t x, s => ∃ v, s = [.iface t v] ∧ x.isAgg = v.isAgg ∧ RS Γ x (flatV v)
  | .nili, s => s = [.nili]
  | .agg n l, s => s.length = n ∧ RSL Γ l s
  | .arr n e l, s => s.length = n ∧ (∀ x ∈ l, x.size = e) ∧ RSL Γ l s
  | .tup l, s => ∃ vs, s = [.tup vs] ∧ RVL Γ l vs
/-- the cells of some, one behind the other -/
noncomputable def RSL (Γ : Ctx) : List W → List V → Prop
  | [], s => s = []
  | x :: l, s => RS Γ x (s.take x.size) ∧ RSL Γ l (s.drop x.size)
/-- one by one -/
noncomputable def RVL (Γ : Ctx) : List W → List V → Prop
  | [], vs => vs = []
  | x :: l, vs => ∃ v vs', vs = v :: vs' ∧ (x.isAgg = v.isAgg ∧ RS Γ x (flatV v)) ∧ RVL Γ l vs'
end
noncomputable def RV (Γ : Ctx) (w : W) (v : V) : Prop := w.isAgg = v.isAgg ∧ RS Γ w (flatV v)

section
variable {Γ Γ' : Ctx}
theorem RS_len {w : W} {s : List V} (h : RS Γ w s) : s.length = w.size := by
  cases w <;> simp only [RS] at h
  case ptr => rw [h.2]; rfl
  case sl => rw [h.2]; rfl
  case fz =>
    rcases h with ⟨_, rfl⟩ | ⟨b, base, off, lim, bv, rfl, _⟩ <;> rfl
  case fel => obtain ⟨_, _, _, rfl, _⟩ := h; rfl
  case fn => obtain ⟨_, _, rfl, _⟩ := h; rfl
  case iface => obtain ⟨_, rfl, _⟩ := h; rfl
  case tup => obtain ⟨_, rfl, _⟩ := h; rfl
  case agg => exact h.1
  case arr => exact h.1
  all_goals (rw [h]; rfl)
theorem RV.size {w : W} {v : V} (h : RV Γ w v) : v.size = w.size := by rw [← RS_len h.2, flatV_length]
/-- a value that is no aggregate is one cell -/
theorem RV.one {w : W} {v : V} (h : RV Γ w v) (hw : w.isAgg = false) : RS Γ w [v] := by
  have := h.2
  rwa [flat_self (by rw [← h.1]; exact hw)] at this
theorem RV.of_one {w : W} {v : V} (h : RS Γ w [v]) (hw : w.isAgg = false) (hv : v.isAgg = false) : RV Γ w v := ⟨by rw [hw, hv], by rwa [flat_self hv]⟩
theorem RS_leaf {w : W} {v : V} (h : RS Γ w [v]) (hw : w.leaf = true) : v.leaf = true := by
  cases w <;> simp only [RS, List.cons.injEq, and_true] at h <;> simp [W.leaf] at hw
  case ptr => rw [h.2]; rfl
  case sl => rw [h.2]; rfl
  case fz =>
    rcases h with ⟨_, rfl⟩ | ⟨b, base, off, lim, bv, rfl, _⟩ <;> rfl
  case fel => obtain ⟨_, _, _, rfl, _⟩ := h; rfl
  case fn => obtain ⟨_, _, rfl, _⟩ := h; rfl
  case iface => obtain ⟨_, rfl, _⟩ := h; rfl
  all_goals (rw [h]; rfl)
theorem W.leaf_agg {w : W} (h : w.leaf = true) : w.isAgg = false := by cases w <;> simp [W.leaf] at h <;> rfl
theorem V.leaf_agg {v : V} (h : v.leaf = true) : v.isAgg = false := by cases v <;> simp [V.leaf] at h <;> rfl
theorem RV.leaf {w : W} {v : V} (h : RV Γ w v) (hw : w.leaf = true) : v.leaf = true := RS_leaf (h.one (W.leaf_agg hw)) hw
theorem RS_leaf' {w : W} {v : V} (h : RS Γ w [v]) (ha : v.isAgg = false) (hw : v.leaf = true) (hwa : w.isAgg = false) : w.leaf = true := by
  cases w <;> simp only [RS, List.cons.injEq, and_true] at h <;> simp [W.isAgg] at hwa <;> simp only [W.leaf]
  · subst h; simp [V.leaf] at hw
  · obtain ⟨_, rfl, _⟩ := h; simp [V.leaf] at hw

/-! ### later -/
structure Ctx.Le (Γ Γ' : Ctx) : Prop where
  nw : Γ.nw ≤ Γ'.nw
  σ : ∀ b, b < Γ.nw → Γ'.σ b = Γ.σ b
  D : ∀ b, Γ.D b → Γ'.D b
  val : ∀ b, Γ.D b → Γ'.h.val b = Γ.h.val b
theorem Ctx.Le.refl (Γ : Ctx) : Γ.Le Γ := ⟨Nat.le_refl _, fun _ _ => rfl, fun _ h => h, fun _ _ => rfl⟩
mutual
theorem RS.mono (le : Γ.Le Γ') : ∀ {w : W} {s : List V}, RS Γ w s → RS Γ' w s
  | .undef, _, h => by simp only [RS] at h ⊢; exact h
  | .bool _, _, h => by simp only [RS] at h ⊢; exact h
  | .int _ _, _, h => by simp only [RS] at h ⊢; exact h
  | .str _, _, h => by simp only [RS] at h ⊢; exact h
  | .nilp, _, h => by simp only [RS] at h ⊢; exact h
  | .ptr b off, _, h => by simp only [RS] at h ⊢; rw [le.σ b h.1]; exact ⟨Nat.lt_of_lt_of_le h.1 le.nw, h.2⟩
  | .nils, _, h => by simp only [RS] at h ⊢; exact h
  | .sl b _ _ _ _ _, _, h => by simp only [RS] at h ⊢; rw [le.σ b h.1]; exact ⟨Nat.lt_of_lt_of_le h.1 le.nw, h.2⟩
  | .fz l e full, _, h => by
    simp only [RS] at h ⊢
    rcases h with h | ⟨b, base, off, lim, bv, h1, h2, h3, h4, ha, h5, h6, h7⟩
    · exact .inl h
    · exact .inr ⟨b, base, off, lim, bv, h1, h2, le.D b h3, by rw [le.val b h3]; exact h4, ha, h5, h6, RSL.mono le h7⟩
  | .fel x, _, h => by
    simp only [RS] at h ⊢
    obtain ⟨b, off, bv, h1, h3, h4, h5, ha, hb, h7⟩ := h
    exact ⟨b, off, bv, h1, le.D b h3, by rw [le.val b h3]; exact h4, h5, ha, hb, RS.mono le h7⟩
  | .nilm, _, h => by simp only [RS] at h ⊢; exact h
  | .fn f a c, _, h => by
    simp only [RS] at h ⊢
    obtain ⟨a', c', h1, h2, h3⟩ := h
    exact ⟨a', c', h1, RVL.mono le h2, RVL.mono le h3⟩
  | .yield _, _, h => by simp only [RS] at h ⊢; exact h
  | .nilf, _, h => by simp only [RS] at h ⊢; exact h
  | .iface t x, _, h => by
    simp only [RS] at h ⊢
    obtain ⟨v, h1, h2, h3⟩ := h
    exact ⟨v, h1, h2, RS.mono le h3⟩
  | .nili, _, h => by simp only [RS] at h ⊢; exact h
  | .agg n l, _, h => by simp only [RS] at h ⊢; exact ⟨h.1, RSL.mono le h.2⟩
  | .arr n e l, _, h => by simp only [RS] at h ⊢; exact ⟨h.1, h.2.1, RSL.mono le h.2.2⟩
  | .tup l, _, h => by
    simp only [RS] at h ⊢
    obtain ⟨vs, h1, h2⟩ := h
    exact ⟨vs, h1, RVL.mono le h2⟩
theorem RSL.mono (le : Γ.Le Γ') : ∀ {l : List W} {s : List V}, RSL Γ l s → RSL Γ' l s
  | [], _, h => by simp only [RSL] at h ⊢; exact h
  | x :: l, _, h => by simp only [RSL] at h ⊢; exact ⟨RS.mono le h.1, RSL.mono le h.2⟩
theorem RVL.mono (le : Γ.Le Γ') : ∀ {l : List W} {vs : List V}, RVL Γ l vs → RVL Γ' l vs
  | [], _, h => by simp only [RVL] at h ⊢; exact h
  | x :: l, _, h => by
    simp only [RVL] at h ⊢
    obtain ⟨v, vs', h1, ⟨h2, h3⟩, h4⟩ := h
    exact ⟨v, vs', h1, ⟨h2, RS.mono le h3⟩, RVL.mono le h4⟩
end
theorem RV.mono (le : Γ.Le Γ') {w : W} {v : V} (h : RV Γ w v) : RV Γ' w v := ⟨h.1, RS.mono le h.2⟩

/-! ### lists -/
theorem RSL_cons {x : W} {l : List W} {a b : List V} (hx : RS Γ x a) (hl : RSL Γ l b) : RSL Γ (x :: l) (a ++ b) := by
  have e := RS_len hx
  simp only [RSL]
  rw [← e, List.take_left, List.drop_left]
  exact ⟨hx, hl⟩
theorem RSL_uncons {x : W} {l : List W} {s : List V} (h : RSL Γ (x :: l) s) : ∃ a b, s = a ++ b ∧ RS Γ x a ∧ RSL Γ l b := by
  simp only [RSL] at h
  exact ⟨_, _, (List.take_append_drop x.size s).symm, h.1, h.2⟩
theorem RSL_append {l r : List W} : ∀ {a b : List V}, RSL Γ l a → RSL Γ r b → RSL Γ (l ++ r) (a ++ b) := by
  induction l with
  | nil => intro a b h1 h2; simp only [RSL] at h1; subst h1; exact h2
  | cons x l ih =>
    intro a b h1 h2
    obtain ⟨p, q, rfl, hx, hl⟩ := RSL_uncons h1
    rw [List.cons_append, List.append_assoc]
    exact RSL_cons hx (ih hl h2)
theorem RSL_split {l r : List W} : ∀ {s : List V}, RSL Γ (l ++ r) s → ∃ a b, s = a ++ b ∧ RSL Γ l a ∧ RSL Γ r b := by
  induction l with
  | nil => intro s h; exact ⟨[], s, rfl, by simp [RSL], h⟩
  | cons x l ih =>
    intro s h
    obtain ⟨p, q, rfl, hx, hl⟩ := RSL_uncons h
    obtain ⟨a, b, rfl, h1, h2⟩ := ih hl
    exact ⟨p ++ a, b, by rw [List.append_assoc], RSL_cons hx h1, h2⟩
theorem RSL_len {l : List W} : ∀ {s : List V}, RSL Γ l s → s.length = sumW l := by
  induction l with
  | nil => intro s h; simp only [RSL] at h; subst h; rfl
  | cons x l ih =>
    intro s h
    obtain ⟨p, q, rfl, hx, hl⟩ := RSL_uncons h
    rw [List.length_append, RS_len hx, ih hl]; rfl
theorem sumW_eq {e : Nat} {l : List W} (h : ∀ x ∈ l, x.size = e) : sumW l = l.length * e := by
  induction l with
  | nil => simp [sumW]
  | cons x l ih =>
    rw [sumW, ih fun y hy => h y (List.mem_cons_of_mem _ hy), h x (List.mem_cons_self ..), List.length_cons, Nat.add_mul]; omega
theorem sumW_append {l r : List W} : sumW (l ++ r) = sumW l + sumW r := by
  induction l with
  | nil => simp [sumW]
  | cons x l ih => rw [List.cons_append, sumW, sumW, ih]; omega
theorem RSL_one {x : W} {s : List V} (h : RS Γ x s) : RSL Γ [x] s := by
  have := RSL_cons (l := []) (b := []) h (by simp [RSL])
  simpa using this
/-- the part at a place -/
theorem RSL_part {l : List W} {i : Nat} {x : W} {s : List V} (h : RSL Γ l s) (hi : l[i]? = some x) : ∃ a b c, s = a ++ (b ++ c) ∧ RS Γ x b ∧ RSL Γ (l.take i) a ∧ RSL Γ (l.drop (i + 1)) c := by
  have hlt : i < l.length := (List.getElem?_eq_some_iff.1 hi).1
  have e : l = l.take i ++ (x :: l.drop (i + 1)) := by
    obtain ⟨_, rfl⟩ := List.getElem?_eq_some_iff.1 hi
    rw [List.getElem_cons_drop, List.take_append_drop]
  rw [e] at h
  obtain ⟨a, t, rfl, h1, h2⟩ := RSL_split h
  obtain ⟨b, c, rfl, h3, h4⟩ := RSL_uncons h2
  exact ⟨a, b, c, rfl, h3, h1, h4⟩
theorem RSL_at {l : List W} {i e : Nat} {x : W} {s : List V} (h : RSL Γ l s) (he : ∀ x ∈ l, x.size = e) (hi : l[i]? = some x) : RS Γ x ((s.drop (i * e)).take e) ∧ i * e + e ≤ s.length := by
  obtain ⟨a, b, c, rfl, h1, h2, h3⟩ := RSL_part h hi
  have hlt : i < l.length := (List.getElem?_eq_some_iff.1 hi).1
  have la : a.length = i * e := by
    rw [RSL_len h2, sumW_eq (e := e) fun y hy => he y (List.mem_of_mem_take hy), List.length_take, Nat.min_eq_left (by omega)]
  have lb : b.length = e := by rw [RS_len h1]; exact he x (List.mem_of_getElem? hi)
  rw [← la, List.drop_left, ← lb, List.take_left]
  exact ⟨h1, by simp only [List.length_append]; omega⟩
theorem blt_t {a b : Nat} (h : Nat.blt a b = true) : a < b := by simpa [Nat.blt_eq] using h
theorem blt_f {a b : Nat} (h : Nat.blt a b = false) : ¬ a < b := fun h1 => by
  have : Nat.blt a b = true := by simpa [Nat.blt_eq] using h1
  rw [h] at this; cases this
theorem findIW_spec : ∀ {l : List W} {off : Nat} {x : W} {o : Nat} {s : List V}, findIW l off = some (x, o) → RSL Γ l s → ∃ a b c, s = a ++ (b ++ c) ∧ RS Γ x b ∧ a.length + o = off ∧ o < x.size
  | [], off, x, o, s, h, _ => by simp [findIW] at h
  | v :: l, off, x, o, s, h, hs => by
    obtain ⟨p, q, rfl, hp, hq⟩ := RSL_uncons hs
    simp only [findIW] at h
    split at h
    · rename_i hlt
      cases h
      exact ⟨[], p, q, rfl, hp, by simp, blt_t hlt⟩
    · rename_i hlt
      obtain ⟨a, b, c, rfl, h1, h2, h3⟩ := findIW_spec h hq
      have hlt := blt_f hlt
      exact ⟨p ++ a, b, c, by simp, h1, by rw [List.length_append, RS_len hp]; omega, h3⟩

/-! ### a part -/
theorem seg_seg {α : Type} {a b c : List α} {o n : Nat} (h : o + n ≤ b.length) : ((a ++ (b ++ c)).drop (a.length + o)).take n = (b.drop o).take n := by
  rw [List.drop_length_add_append, List.drop_append_of_le_length (by omega), List.take_append_of_le_length (by simp; omega)]
theorem getAtW_spec : ∀ (f : Nat) {w : W} {off n : Nat} {ag : Bool} {x : W} {s : List V}, getAtW f w off n ag = some x → RS Γ w s →
    x.size = n ∧ off + n ≤ w.size ∧ RS Γ x ((s.drop off).take n) ∧ x.isAgg = ag ∧ (ag = false → x.leaf = true)
  | 0, _, _, _, _, _, _, h, _ => by simp [getAtW] at h
  | f + 1, w, off, n, ag, x, s, h, hs => by
    have ls := RS_len hs
    simp only [getAtW] at h
    split at h
    · rename_i hc
      simp only [Bool.and_eq_true, beq_iff_eq, Nat.beq_eq] at hc
      obtain ⟨⟨rfl, rfl⟩, rfl⟩ := hc
      split at h
      · rename_i hl
        cases h
        refine ⟨rfl, by omega, by rw [List.drop_zero, List.take_of_length_le (by omega)]; exact hs, rfl, fun ha => by simpa [ha] using hl⟩
      · cases h
    · split at h
      · rename_i m l hne
        simp only [RS] at hs
        split at h
        · rename_i y o hf
          obtain ⟨a, b, c, rfl, h1, h2, h3⟩ := findIW_spec hf hs.2
          obtain ⟨g1, g2, g3, g4⟩ := getAtW_spec f h h1
          have lb := RS_len h1
          refine ⟨g1, ?_, ?_, g4⟩
          · rw [← ls]; simp only [List.length_append]; omega
          · rw [← h2, seg_seg (by omega)]; exact g3
        · cases h
      · rename_i m e l hne
        simp only [RS] at hs
        split at h
        · rename_i y hy
          obtain ⟨h1, h2⟩ := RSL_at hs.2.2 hs.2.1 hy
          obtain ⟨g1, g2, g3, g4⟩ := getAtW_spec f h h1
          have hy := hs.2.1 y (List.mem_of_getElem? hy)
          have hdm := Nat.div_add_mod off e
          rw [Nat.mul_comm] at hdm
          refine ⟨g1, by rw [← ls]; omega, ?_, g4⟩
          have : ((s.drop (off / e * e)).take e).drop (off % e) = (s.drop off).take (e - off % e) := by
            rw [List.drop_take, List.drop_drop, hdm]
          rw [this, List.take_take, Nat.min_eq_left (by omega)] at g3
          exact g3
        · cases h
      · cases h
theorem getAt_flat {f : Nat} {v : V} {off n : Nat} {ag : Bool} {x : V} (h : getAt f v off n ag = some x) : x.size = n ∧ off + n ≤ v.size ∧ flatV x = ((flatV v).drop off).take n ∧ (if ag then x.isAgg = true else x.leaf = true) := by
  unfold getAt at h
  split at h
  · cases h
    obtain ⟨h1, h2, h3, h4⟩ := getAtS_specF _ _ _ _ _ _ (by assumption)
    exact ⟨h1, h2, h3.symm, h4⟩
  · exact flatGet_spec h
/-- whatever the shape, a part is there -/
theorem getAt_some {v : V} {off n : Nat} (hv : v.isAgg = true) (h : off + n ≤ v.size) : (∃ x, getAt 50 v off n true = some x) ∧ ∀ y, ((flatV v).drop off).take n = [y] → y.leaf = true → ∃ x, getAt 50 v off n false = some x := by
  have hb : Nat.ble (off + n) v.size = true := Nat.ble_eq_true_of_le h
  constructor
  · unfold getAt
    split
    · exact ⟨_, rfl⟩
    · unfold flatGet
      simp [hv, hb]
  · intro y hy hl
    unfold getAt
    split
    · exact ⟨_, rfl⟩
    · unfold flatGet
      have hn : n = 1 := by
        have := congrArg List.length hy
        rw [List.length_take, List.length_drop, flatV_length] at this
        simp at this; omega
      subst hn
      have he : (flatV v)[off]? = some y := by
        have := congrArg (·[0]?) hy
        simpa using this
      simp [hv, hb, he, hl]
theorem getAtS_leaf (f : Nat) {v : V} (hv : v.leaf = true) : getAtS (f + 1) v 0 v.size false = some v := by
  cases v <;> simp [V.leaf] at hv <;> simp [getAtS_succ, V.size, V.isAgg, V.leaf]
theorem putAtS_leaf (f : Nat) {v x : V} (hv : v.leaf = true) (hx : x.leaf = true) : putAtS (f + 1) v 0 x = some x := by
  have e : x.size = 1 := by cases x <;> simp [V.leaf] at hx <;> rfl
  have ea := V.leaf_agg hx
  have e' : v.size = 1 := by cases v <;> simp [V.leaf] at hv <;> rfl
  have ea' := V.leaf_agg hv
  rw [putAtS_succ]
  simp [e, ea, e', ea', hv, hx]
theorem getAtW_one {f : Nat} {w : W} {off n : Nat} {ag : Bool} {x : W} (hw : w.isAgg = false) (h : getAtW (f + 1) w off n ag = some x) : off = 0 ∧ n = 1 ∧ ag = false ∧ w.leaf = true ∧ x = w := by
  have hs : w.size = 1 := by cases w <;> simp [W.isAgg] at hw <;> rfl
  simp only [getAtW] at h
  split at h
  · rename_i hc
    simp only [Bool.and_eq_true, beq_iff_eq, Nat.beq_eq] at hc
    obtain ⟨⟨rfl, rfl⟩, rfl⟩ := hc
    split at h
    · rename_i hl
      cases h
      exact ⟨rfl, hs, hw, by simpa [hw] using hl, rfl⟩
    · cases h
  · split at h <;> simp [W.isAgg] at hw
    cases h
theorem sim_get {w : W} {v : V} {off n : Nat} {ag : Bool} {x : W} (hr : RV Γ w v) (h : getAtW 50 w off n ag = some x) : ∃ y, getAt 50 v off n ag = some y ∧ RV Γ x y ∧ x.size = n := by
  obtain ⟨h1, h2, h3, h4, h5⟩ := getAtW_spec (Γ := Γ) 50 h hr.2
  have hsz := hr.size
  cases hw : w.isAgg with
  | true =>
    have hv : v.isAgg = true := by rw [← hr.1]; exact hw
    obtain ⟨g1, g2⟩ := getAt_some (off := off) (n := n) hv (by omega)
    cases ag with
    | true =>
      obtain ⟨y, hy⟩ := g1
      obtain ⟨k1, k2, k3, k4⟩ := getAt_flat hy
      exact ⟨y, hy, ⟨by rw [h4]; exact k4.symm, by rw [k3]; exact h3⟩, h1⟩
    | false =>
      have hx1 : x.size = 1 := by have := h5 rfl; cases x <;> simp [W.leaf] at this <;> rfl
      have hlen := RS_len h3
      rw [hx1] at hlen
      obtain ⟨y0, hy0⟩ : ∃ y, ((flatV v).drop off).take n = [y] := List.length_eq_one_iff.1 hlen
      have hl0 : y0.leaf = true := by rw [hy0] at h3; exact RS_leaf h3 (h5 rfl)
      obtain ⟨y, hy⟩ := g2 y0 hy0 hl0
      obtain ⟨k1, k2, k3, k4⟩ := getAt_flat hy
      exact ⟨y, hy, ⟨by rw [h4]; exact (V.leaf_agg k4).symm, by rw [k3]; exact h3⟩, h1⟩
  | false =>
    have hv : v.isAgg = false := by rw [← hr.1]; exact hw
    have hw1 : w.size = 1 := by cases w <;> simp [W.isAgg] at hw <;> rfl
    obtain ⟨rfl, rfl, rfl, hl, rfl⟩ := getAtW_one hw h
    refine ⟨v, ?_, hr, hw1⟩
    unfold getAt
    have e := getAtS_leaf 49 (hr.leaf hl)
    rw [hsz, hw1] at e
    rw [e]

/-! ### a part written over -/
theorem putIxW_spec {g : W → Nat → Option W} : ∀ {l : List W} {off : Nat} {l' : List W} {s : List V}, putIxW g l off = some l' → RSL Γ l s → ∃ a b c y y' o, s = a ++ (b ++ c) ∧ RS Γ y b ∧ g y o = some y' ∧ a.length + o = off ∧ o < y.size ∧ ∀ b', RS Γ y' b' → RSL Γ l' (a ++ (b' ++ c))
  | [], off, l', s, h, _ => by simp [putIxW] at h
  | v :: l, off, l', s, h, hs => by
    obtain ⟨p, q, rfl, hp, hq⟩ := RSL_uncons hs
    simp only [putIxW] at h
    split at h
    · rename_i hlt
      split at h
      · rename_i v' hv
        cases h
        exact ⟨[], p, q, v, v', off, rfl, hp, hv, by simp, blt_t hlt, fun b' hb' => show RSL Γ (v' :: l) (b' ++ q) from RSL_cons hb' hq⟩
      · cases h
    · rename_i hlt
      have hlt := blt_f hlt
      split at h
      · rename_i l1 h1
        cases h
        obtain ⟨a, b, c, y, y', o, rfl, g1, g2, g3, g4, g5⟩ := putIxW_spec h1 hq
        refine ⟨p ++ a, b, c, y, y', o, by simp, g1, g2, by rw [List.length_append, RS_len hp]; omega, g4, fun b' hb' => ?_⟩
        rw [List.append_assoc]
        exact RSL_cons hp (g5 b' hb')
      · cases h
theorem RSL_set {l : List W} {i : Nat} {x x' : W} {s : List V} (h : RSL Γ l s) (hi : l[i]? = some x) : ∃ a b c, s = a ++ (b ++ c) ∧ RS Γ x b ∧ RSL Γ (l.take i) a ∧ ∀ b', RS Γ x' b' → RSL Γ (l.set i x') (a ++ (b' ++ c)) := by
  obtain ⟨a, b, c, rfl, h1, h2, h3⟩ := RSL_part h hi
  refine ⟨a, b, c, rfl, h1, h2, fun b' hb' => ?_⟩
  have hlt : i < l.length := (List.getElem?_eq_some_iff.1 hi).1
  rw [List.set_eq_take_append_cons_drop, if_pos hlt]
  exact RSL_append h2 (RSL_cons hb' h3)
theorem spl_mid {α : Type} {a b c : List α} {o n : Nat} {x : List α} (h : o + n ≤ b.length) : a ++ ((b.take o ++ x ++ b.drop (o + n)) ++ c) = (a ++ (b ++ c)).take (a.length + o) ++ x ++ (a ++ (b ++ c)).drop (a.length + o + n) := by
  rw [List.take_length_add_append, Nat.add_assoc, List.drop_length_add_append, List.take_append_of_le_length (by omega), List.drop_append_of_le_length (by omega)]
  simp only [List.append_assoc]
theorem putAtW_spec : ∀ (f : Nat) {w : W} {off : Nat} {x w' : W} {s sx : List V}, putAtW f w off x = some w' → RS Γ w s → RS Γ x sx →
    w'.size = w.size ∧ off + x.size ≤ w.size ∧ RS Γ w' (s.take off ++ sx ++ s.drop (off + x.size)) ∧ w'.isAgg = w.isAgg ∧ (x.leaf = true ∨ x.isAgg = true) ∧ (w.isAgg = false → w.leaf = true ∧ x.leaf = true ∧ w' = x)
  | 0, _, _, _, _, _, _, h, _, _ => by simp [putAtW] at h
  | f + 1, w, off, x, w', s, sx, h, hs, hx => by
    have ls := RS_len hs
    simp only [putAtW] at h
    split at h
    · rename_i hc
      simp only [Bool.and_eq_true, beq_iff_eq, Nat.beq_eq] at hc
      obtain ⟨⟨rfl, h1⟩, h2⟩ := hc
      split at h
      · rename_i hl
        cases h
        simp only [Bool.or_eq_true, Bool.and_eq_true] at hl
        refine ⟨h1, by omega, ?_, h2, ?_, fun hw => ?_⟩
        · rw [List.take_zero, List.nil_append, List.drop_of_length_le (by omega), List.append_nil]; exact hx
        · rcases hl with h | h
          · exact .inr h
          · exact .inl h.2
        · rcases hl with h | h
          · rw [h2, hw] at h; cases h
          · exact ⟨h.1, h.2, rfl⟩
      · cases h
    · split at h
      · rename_i m l hne
        simp only [RS] at hs
        split at h
        · rename_i l' hp
          cases h
          obtain ⟨a, b, c, y, y', o, rfl, g1, g2, g3, g4, g5⟩ := putIxW_spec hp hs.2
          obtain ⟨k1, k2, k3, k4, k5, _⟩ := putAtW_spec f g2 g1 hx
          have lb := RS_len g1
          have ll := hs.1
          simp only [List.length_append] at ll
          refine ⟨rfl, by show off + x.size ≤ m; omega, ?_, rfl, k5, fun hw => by cases hw⟩
          have lsx := RS_len hx
          have := g5 _ k3
          rw [← g3, ← spl_mid (by omega)]
          simp only [RS]
          exact ⟨by simp only [List.length_append, List.length_take, List.length_drop]; omega, this⟩
        · cases h
      · rename_i m e l hne
        simp only [RS] at hs
        split at h
        · rename_i y hy
          split at h
          · rename_i y' hy'
            cases h
            obtain ⟨a, b, c, rfl, h1, h2, h3⟩ := RSL_set (Γ := Γ) (x' := y') hs.2.2 hy
            have hlt : off / e < l.length := (List.getElem?_eq_some_iff.1 hy).1
            have la : a.length = off / e * e := by
              rw [RSL_len h2, sumW_eq (e := e) fun z hz => hs.2.1 z (List.mem_of_mem_take hz), List.length_take, Nat.min_eq_left (by omega)]
            obtain ⟨k1, k2, k3, k4, k5, _⟩ := putAtW_spec f hy' h1 hx
            have lb := RS_len h1
            have hys := hs.2.1 y (List.mem_of_getElem? hy)
            have ll := hs.1
            simp only [List.length_append] at ll
            have hdm := Nat.div_add_mod off e
            rw [Nat.mul_comm] at hdm
            have lsx := RS_len hx
            refine ⟨rfl, by show off + x.size ≤ m; omega, ?_, rfl, k5, fun hw => by cases hw⟩
            have := h3 _ k3
            have e1 : off = a.length + off % e := by omega
            have e2 := spl_mid (a := a) (b := b) (c := c) (o := off % e) (n := x.size) (x := sx) (by omega)
            rw [← e1] at e2
            rw [← e2]
            simp only [RS]
            refine ⟨by simp only [List.length_append, List.length_take, List.length_drop]; omega, fun z hz => ?_, this⟩
            rcases List.mem_or_eq_of_mem_set hz with hz | rfl
            · exact hs.2.1 z hz
            · rw [k1, hys]
          · cases h
        · cases h
      · cases h
theorem putAt_flat {f : Nat} {v : V} {off : Nat} {x v' : V} (h : putAt f v off x = some v') :
    v'.size = v.size ∧ off + x.size ≤ v.size ∧ flatV v' = (flatV v).take off ++ flatV x ++ (flatV v).drop (off + x.size) ∧ v'.isAgg = v.isAgg := by
  unfold putAt at h
  split at h
  · cases h
    obtain ⟨h1, h2, h3, h4, _⟩ := putAtS_specF _ _ _ _ _ (by assumption)
    exact ⟨h1, h2, by rw [h3, splF, flatV_length], h4⟩
  · obtain ⟨h1, h2, h3, h4, _⟩ := flatPut_spec h
    exact ⟨h1, h2, h3, h4⟩
theorem sim_put {w : W} {v : V} {off : Nat} {x w' : W} {y : V} (hr : RV Γ w v) (hx : RV Γ x y) (h : putAtW 50 w off x = some w') : ∃ v', putAt 50 v off y = some v' ∧ RV Γ w' v' ∧ w'.size = w.size := by
  obtain ⟨h1, h2, h3, h4, h5, h6⟩ := putAtW_spec (Γ := Γ) 50 h hr.2 hx.2
  have hsz := hr.size
  have hxs := hx.size
  have hyl : y.leaf = true ∨ y.isAgg = true := by
    rcases h5 with h5 | h5
    · exact .inl (hx.leaf h5)
    · exact .inr (by rw [← hx.1]; exact h5)
  cases hw : w.isAgg with
  | true =>
    have hv : v.isAgg = true := by rw [← hr.1]; exact hw
    have : ∃ v', putAt 50 v off y = some v' := by
      unfold putAt
      split
      · exact ⟨_, rfl⟩
      · unfold flatPut
        have hb : Nat.ble (off + y.size) v.size = true := Nat.ble_eq_true_of_le (by omega)
        have hy : (y.leaf || y.isAgg) = true := by simpa using hyl
        rw [show (v.isAgg && (y.leaf || y.isAgg) && Nat.ble (off + y.size) v.size) = true by rw [hv, hy, hb]; rfl]
        exact ⟨_, rfl⟩
    obtain ⟨v', hv'⟩ := this
    obtain ⟨k1, k2, k3, k4⟩ := putAt_flat hv'
    exact ⟨v', hv', ⟨by rw [h4, k4, hw, hv], by rw [k3, hxs]; exact h3⟩, h1⟩
  | false =>
    obtain ⟨hl, hxl, rfl⟩ := h6 hw
    have hv : v.isAgg = false := by rw [← hr.1]; exact hw
    have hvl := hr.leaf hl
    have hyl := hx.leaf hxl
    have s1 : w.size = 1 := by cases w <;> simp [W.isAgg] at hw <;> rfl
    have s2 : w'.size = 1 := by cases w' <;> simp [W.leaf] at hxl <;> rfl
    have : off = 0 := by omega
    subst this
    refine ⟨y, ?_, hx, h1⟩
    unfold putAt
    rw [putAtS_leaf 49 hvl hyl]

/-! ### elements -/
theorem subArrW_spec : ∀ (f : Nat) {w : W} {off n e : Nat} {ws : List W} {s : List V}, subArrW f w off n e = some ws → RS Γ w s →
    ws.length = n ∧ off + n * e ≤ w.size ∧ (∀ x ∈ ws, x.size = e) ∧ RSL Γ ws ((s.drop off).take (n * e)) ∧ w.isAgg = true
  | 0, _, _, _, _, _, _, h, _ => by simp [subArrW] at h
  | f + 1, w, off, n, e, ws, s, h, hs => by
    have ls := RS_len hs
    simp only [subArrW] at h
    split at h
    · rename_i m e' l
      have hs0 := hs
      simp only [RS] at hs
      split at h
      · rename_i hc
        simp only [Bool.and_eq_true, Nat.beq_eq] at hc
        obtain ⟨⟨⟨rfl, h0⟩, hle⟩, hpos⟩ := hc
        have hle := Nat.le_of_ble_eq_true hle
        have hpos := blt_t hpos
        cases h
        have hoff : off / e' * e' = off := by
          have := Nat.div_add_mod off e'
          rw [Nat.mul_comm] at this; omega
        have hsl : sumW l = l.length * e' := sumW_eq hs.2.1
        have hm : m = l.length * e' := by rw [← hsl, ← RSL_len hs.2.2]; exact hs.1.symm
        have hlen : off / e' + n ≤ l.length := by
          have : (off / e' + n) * e' ≤ l.length * e' := by rw [Nat.add_mul, hoff, ← hm]; exact hle
          exact Nat.le_of_mul_le_mul_right this hpos
        refine ⟨by simp; omega, hle, fun x hx => hs.2.1 x (List.mem_of_mem_drop (List.mem_of_mem_take hx)), ?_, rfl⟩
        have e1 : l = l.take (off / e') ++ ((l.drop (off / e')).take n ++ (l.drop (off / e')).drop n) := by rw [List.take_append_drop, List.take_append_drop]
        have h2 := hs.2.2
        rw [e1] at h2
        obtain ⟨a, t, rfl, g1, g2⟩ := RSL_split h2
        obtain ⟨b, c, rfl, g3, g4⟩ := RSL_split g2
        have la : a.length = off := by
          rw [RSL_len g1, sumW_eq (e := e') fun z hz => hs.2.1 z (List.mem_of_mem_take hz), List.length_take, Nat.min_eq_left (by omega), hoff]
        have lb : b.length = n * e' := by
          rw [RSL_len g3, sumW_eq (e := e') fun z hz => hs.2.1 z (List.mem_of_mem_drop (List.mem_of_mem_take hz)), List.length_take, List.length_drop, Nat.min_eq_left (by omega)]
        rw [List.drop_left' la, List.take_left' lb]
        exact g3
      · split at h
        · rename_i hc
          simp only [Bool.and_eq_true, Nat.beq_eq] at hc
          obtain ⟨⟨rfl, rfl⟩, rfl⟩ := hc
          cases h
          refine ⟨rfl, by show 0 + 1 * m ≤ m; omega, fun x hx => by simp at hx; rw [hx]; rfl, ?_, rfl⟩
          rw [List.drop_zero, List.take_of_length_le (by rw [ls]; show m ≤ 1 * m; omega)]
          exact RSL_one hs0
        split at h
        · rename_i x hx
          split at h
          · rename_i hc
            have hc := Nat.le_of_ble_eq_true hc
            obtain ⟨h1, h2⟩ := RSL_at hs.2.2 hs.2.1 hx
            obtain ⟨g1, g2, g3, g4, g5⟩ := subArrW_spec f h h1
            have hxs := hs.2.1 x (List.mem_of_getElem? hx)
            have hdm := Nat.div_add_mod off e'
            rw [Nat.mul_comm] at hdm
            refine ⟨g1, by rw [← ls]; omega, g3, ?_, rfl⟩
            have : ((s.drop (off / e' * e')).take e').drop (off % e') = (s.drop off).take (e' - off % e') := by
              rw [List.drop_take, List.drop_drop, hdm]
            rw [this, List.take_take, Nat.min_eq_left (by omega)] at g4
            exact g4
          · cases h
        · cases h
    · rename_i m l
      have hs0 := hs
      simp only [RS] at hs
      split at h
      · rename_i hc
        simp only [Bool.and_eq_true, Nat.beq_eq] at hc
        obtain ⟨⟨rfl, rfl⟩, rfl⟩ := hc
        cases h
        refine ⟨rfl, by show 0 + 1 * m ≤ m; omega, fun x hx => by simp at hx; rw [hx]; rfl, ?_, rfl⟩
        rw [List.drop_zero, List.take_of_length_le (by rw [ls]; show m ≤ 1 * m; omega)]
        exact RSL_one hs0
      split at h
      · rename_i y o hf
        split at h
        · rename_i hc
          have hc := Nat.le_of_ble_eq_true hc
          obtain ⟨a, b, c, rfl, h1, h2, h3⟩ := findIW_spec hf hs.2
          obtain ⟨g1, g2, g3, g4, g5⟩ := subArrW_spec f h h1
          have lb := RS_len h1
          refine ⟨g1, ?_, g3, ?_, rfl⟩
          · rw [← ls]; simp only [List.length_append]; omega
          · rw [← h2, seg_seg (by omega)]; exact g4
        · cases h
      · cases h
    · cases h
end
theorem concE_lengthF (e : Nat) : ∀ l : List V, (flatE e l).length = l.length * e
  | [] => by simp [flatE]
  | v :: l => by simp [flatE, concE_lengthF e l, Nat.add_mul]; omega
theorem concE_appendF (e : Nat) : ∀ a b : List V, flatE e (a ++ b) = flatE e a ++ flatE e b
  | [], b => by simp [flatE]
  | v :: a, b => by simp [flatE, concE_appendF e a b]
theorem concE_dropF (e : Nat) : ∀ (l : List V) (i : Nat), flatE e (l.drop i) = (flatE e l).drop (i * e)
  | [], i => by simp [flatE]
  | v :: l, 0 => by simp
  | v :: l, i + 1 => by
    have h1 : (fitV e (flatV v)).drop ((i + 1) * e) = [] := List.drop_of_length_le (by rw [fitV_length, Nat.add_mul]; omega)
    simp only [List.drop_succ_cons, flatE, concE_dropF e l i]
    rw [List.drop_append, h1, List.nil_append, fitV_length, Nat.add_mul]
    congr 1
    omega
theorem concE_takeF (e : Nat) : ∀ (l : List V) (i : Nat), flatE e (l.take i) = (flatE e l).take (i * e)
  | [], i => by simp [flatE]
  | v :: l, 0 => by simp [flatE]
  | v :: l, i + 1 => by
    simp only [List.take_succ_cons, flatE, concE_takeF e l i]
    rw [List.take_append, List.take_of_length_le (l := fitV e (flatV v)) (by simp [Nat.add_mul])]
    congr 2
    simp [Nat.add_mul]
theorem fit_subF {m a b : Nat} {L : List V} (h1 : a + b ≤ m) (h2 : a + b ≤ L.length) : ((fitV m L).drop a).take b = (L.drop a).take b := by
  simp only [fitV]
  rw [List.drop_take, List.take_take, show min b (m - a) = b by omega, List.drop_append_of_le_length (by omega), List.take_append_of_le_length (by simp; omega)]
theorem subArrS_specF : ∀ (f : Nat) (v : V) (off n e : Nat) (l : List V), subArrS f v off n e = some l →
    l.length = n ∧ off + n * e ≤ v.size ∧ ((flatV v).drop off).take (n * e) = flatE e l ∧ ∀ D, InD D v → InDL D l
  | 0, _, _, _, _, _, h => by simp [subArrS] at h
  | f + 1, v, off, n, e, r, h => by
    simp only [subArrS] at h
    split at h
    · rename_i m e' l
      split at h
      · rename_i hc
        simp only [Bool.and_eq_true, Nat.beq_eq] at hc
        obtain ⟨⟨rfl, h0⟩, hle⟩ := hc
        have hle := Nat.le_of_ble_eq_true hle
        split at h
        · rename_i hn
          rw [Nat.beq_eq] at hn
          cases h
          have hoff : off / e' * e' = off := by
            have := Nat.div_add_mod off e'
            rw [Nat.mul_comm] at this; omega
          refine ⟨hn, hle, ?_, fun D hv => InDL_iff.2 fun x hx => InDL_iff.1 (show InDL D l from hv) x (List.mem_of_mem_drop (List.mem_of_mem_take hx))⟩
          by_cases hn0 : n = 0
          · subst hn0; simp [flatE]
          have hlen : off + n * e' ≤ (flatE e' l).length := by
            rw [concE_lengthF]
            rw [List.length_take, List.length_drop] at hn
            have := Nat.mul_le_mul_right e' (show off / e' + n ≤ l.length by omega)
            rw [Nat.add_mul] at this; omega
          simp only [flatV]
          rw [fit_subF hle hlen, concE_takeF, concE_dropF, hoff]
        · cases h
      · split at h
        · rename_i hc
          simp only [Bool.and_eq_true, Nat.beq_eq] at hc
          obtain ⟨⟨rfl, rfl⟩, rfl⟩ := hc
          cases h
          refine ⟨rfl, by show 0 + 1 * m ≤ m; omega, ?_, fun D hv => ⟨hv, trivial⟩⟩
          simp only [flatE, List.append_nil, Nat.one_mul, List.drop_zero]
          rw [fitV_self (by simp [V.size]), List.take_of_length_le (by simp [V.size])]
        · split at h
          · rename_i x hx
            split at h
            · rename_i hc
              simp only [Bool.and_eq_true, Nat.beq_eq] at hc
              obtain ⟨⟨h1, h2⟩, h3⟩ := hc
              have h2 := Nat.le_of_ble_eq_true h2
              have h3 := Nat.le_of_ble_eq_true h3
              obtain ⟨g1, g2, g3, g4⟩ := subArrS_specF f x _ n e r h
              obtain ⟨a, c, k1, k2⟩ := concE_atF (e := e') _ _ _ hx
              have hdm := Nat.div_add_mod off e'
              rw [Nat.mul_comm] at hdm
              refine ⟨g1, by show off + n * e ≤ m; omega, ?_, fun D hv => g4 D (InDL.at_ (show InDL D l from hv) hx)⟩
              rw [fitV_self (by simp [h1])] at k1
              have key := take_drop_fitF (n := m) (a := a) (b := flatV x) (c := c) (by simp; omega)
              rw [← k1] at key
              simp only [flatV]
              rw [← g3, ← key, take_drop_take_dropF (by simp; omega), k2, hdm]
            · cases h
          · cases h
    · rename_i m l
      split at h
      · rename_i hc
        simp only [Bool.and_eq_true, Nat.beq_eq] at hc
        obtain ⟨⟨rfl, rfl⟩, rfl⟩ := hc
        cases h
        refine ⟨rfl, by show 0 + 1 * m ≤ m; omega, ?_, fun D hv => ⟨hv, trivial⟩⟩
        simp only [flatE, List.append_nil, Nat.one_mul, List.drop_zero]
        rw [fitV_self (by simp [V.size]), List.take_of_length_le (by simp [V.size])]
      split at h
      · rename_i x o hf
        split at h
        · rename_i hc
          simp only [Bool.and_eq_true] at hc
          have h2 := Nat.le_of_ble_eq_true hc.1
          have h3 := Nat.le_of_ble_eq_true hc.2
          obtain ⟨a, c, k1, k2, k3⟩ := findI_specF _ _ _ _ hf
          obtain ⟨g1, g2, g3, g4⟩ := subArrS_specF f x o n e r h
          refine ⟨g1, by show off + n * e ≤ m; omega, ?_, fun D hv => g4 D (findI_in hf (show InDL D l from hv))⟩
          have ha : a.length = off - o := by omega
          have key := take_drop_fitF (n := m) (a := a) (b := flatV x) (c := c) (by simp; omega)
          rw [← k1] at key
          simp only [flatV]
          rw [← g3, ← key, take_drop_take_dropF (by simp; omega), k2]
        · cases h
      · cases h
    · cases h
section
variable {Γ Γ' : Ctx}
end
end Go.Proofs.YtmlemnbhjbaedaaGreatDoor

/-
  The plain machine's memory, and how it lies in the model's. Nothing here speaks of a program.
-/
import Derived.Test.YtmlemnbhjbaedaaGreatDoorEVal
import Derived.Test.YtmlemnbhjbaedaaGreatDoorFlow
namespace Go.Proofs.YtmlemnbhjbaedaaGreatDoor
open Go.RowKit
set_option linter.unusedSimpArgs false
set_option linter.unusedVariables false

/-! ### maps from numbers -/
inductive Tr (α : Type) where
  | nil
  | node (v : Option α) (l r : Tr α)
  deriving Inhabited
/-- a number's way down: told once, walked often -/
inductive Pth where
  | z
  | l (p : Pth)
  | r (p : Pth)
noncomputable def pthF (f : Nat) : Nat → Pth := Nat.rec (motive := fun _ => Nat → Pth) (fun _ => .z) (fun _ ih k => Bool.rec (motive := fun _ => Pth) (Bool.rec (motive := fun _ => Pth) (.r (ih (Nat.sub (Nat.div k 2) 1))) (.l (ih (Nat.div k 2))) (Nat.beq (Nat.mod k 2) 1)) .z (Nat.beq k 0)) f
noncomputable def pth (k : Nat) : Pth := pthF (Nat.succ k) k
noncomputable def numP (p : Pth) : Nat := Pth.rec (motive := fun _ => Nat) 0 (fun _ n => 2 * n + 1) (fun _ n => 2 * n + 2) p
noncomputable def Tr.getP {α : Type} (p : Pth) : Tr α → Option α := Pth.rec (motive := fun _ => Tr α → Option α) (fun t => Tr.rec (motive := fun _ => Option α) none (fun v _ _ _ _ => v) t)
  (fun _ ih t => Tr.rec (motive := fun _ => Option α) none (fun _ l _ _ _ => ih l) t) (fun _ ih t => Tr.rec (motive := fun _ => Option α) none (fun _ _ r _ _ => ih r) t) p
noncomputable def Tr.setP {α : Type} (v : Option α) (p : Pth) : Tr α → Tr α := Pth.rec (motive := fun _ => Tr α → Tr α) (fun t => Tr.rec (motive := fun _ => Tr α) (.node v .nil .nil) (fun _ l r _ _ => .node v l r) t)
  (fun _ ih t => Tr.rec (motive := fun _ => Tr α) (.node none (ih .nil) .nil) (fun x l r _ _ => .node x (ih l) r) t) (fun _ ih t => Tr.rec (motive := fun _ => Tr α) (.node none .nil (ih .nil)) (fun x l r _ _ => .node x l (ih r)) t) p
noncomputable def Tr.get {α : Type} (t : Tr α) (k : Nat) : Option α := Tr.getP (pth k) t
noncomputable def Tr.set {α : Type} (t : Tr α) (k : Nat) (v : Option α) : Tr α := Tr.setP v (pth k) t
theorem beq_t {a b : Nat} (h : a = b) : Nat.beq a b = true := by subst h; exact Nat.beq_refl a
theorem beq_f {a b : Nat} (h : ¬ a = b) : Nat.beq a b = false := by
  cases hb : Nat.beq a b with
  | false => rfl
  | true => exact absurd (Nat.eq_of_beq_eq_true hb) h
theorem pthF_succ (f k : Nat) : pthF (f + 1) k = if k = 0 then .z else if k % 2 = 1 then .l (pthF f (k / 2)) else .r (pthF f (k / 2 - 1)) := by
  show Bool.rec (motive := fun _ => Pth) (Bool.rec (motive := fun _ => Pth) (.r (pthF f (k / 2 - 1))) (.l (pthF f (k / 2))) (Nat.beq (k % 2) 1)) .z (Nat.beq k 0) = _
  by_cases h0 : k = 0
  · rw [if_pos h0, beq_t h0]
  · rw [if_neg h0, beq_f h0]
    by_cases h1 : k % 2 = 1
    · rw [if_pos h1, beq_t h1]
    · rw [if_neg h1, beq_f h1]
theorem pthF_any : ∀ (f g k : Nat), k < f → k < g → pthF f k = pthF g k
  | 0, _, _, h, _ => by omega
  | _, 0, _, _, h => by omega
  | f + 1, g + 1, k, h1, h2 => by
    rw [pthF_succ, pthF_succ]
    by_cases h0 : k = 0
    · rw [if_pos h0, if_pos h0]
    · rw [if_neg h0, if_neg h0, pthF_any f g (k / 2) (by omega) (by omega), pthF_any f g (k / 2 - 1) (by omega) (by omega)]
theorem num_pthF : ∀ (f k : Nat), k < f → numP (pthF f k) = k
  | 0, _, h => by omega
  | f + 1, k, h => by
    rw [pthF_succ]
    by_cases h0 : k = 0
    · rw [if_pos h0, h0]; rfl
    · rw [if_neg h0]
      by_cases h1 : k % 2 = 1
      · rw [if_pos h1]
        show 2 * numP (pthF f (k / 2)) + 1 = k
        rw [num_pthF f _ (by omega)]; omega
      · rw [if_neg h1]
        show 2 * numP (pthF f (k / 2 - 1)) + 2 = k
        rw [num_pthF f _ (by omega)]; omega
theorem pth_inj {j k : Nat} (h : pth j = pth k) : j = k := by
  have := congrArg numP h
  rwa [show numP (pth j) = j from num_pthF _ _ (Nat.lt_succ_self _), show numP (pth k) = k from num_pthF _ _ (Nat.lt_succ_self _)] at this
theorem Tr.getP_nil {α : Type} (p : Pth) : Tr.getP (α := α) p .nil = none := by cases p <;> rfl
theorem Tr.get_nil {α : Type} (k : Nat) : (Tr.nil (α := α)).get k = none := Tr.getP_nil _
theorem Tr.get_node {α : Type} (v : Option α) (l r : Tr α) (k : Nat) : (Tr.node v l r).get k = if k = 0 then v else if k % 2 = 1 then l.get (k / 2) else r.get (k / 2 - 1) := by
  show Tr.getP (pthF (k + 1) k) (Tr.node v l r) = _
  rw [pthF_succ]
  by_cases h0 : k = 0
  · rw [if_pos h0, if_pos h0]; rfl
  · rw [if_neg h0, if_neg h0]
    by_cases h1 : k % 2 = 1
    · rw [if_pos h1, if_pos h1]
      show Tr.getP (pthF k (k / 2)) l = Tr.getP (pthF (k / 2 + 1) (k / 2)) l
      rw [pthF_any k (k / 2 + 1) (k / 2) (by omega) (by omega)]
    · rw [if_neg h1, if_neg h1]
      show Tr.getP (pthF k (k / 2 - 1)) r = Tr.getP (pthF (k / 2 - 1 + 1) (k / 2 - 1)) r
      rw [pthF_any k (k / 2 - 1 + 1) (k / 2 - 1) (by omega) (by omega)]
theorem Tr.getP_same {α : Type} (v : Option α) : ∀ (p : Pth) (t : Tr α), Tr.getP p (Tr.setP v p t) = v
  | .z, t => by cases t <;> rfl
  | .l p, .nil => Tr.getP_same v p .nil
  | .l p, .node _ l _ => Tr.getP_same v p l
  | .r p, .nil => Tr.getP_same v p .nil
  | .r p, .node _ _ r => Tr.getP_same v p r
theorem Tr.getP_other {α : Type} (v : Option α) : ∀ (p q : Pth) (t : Tr α), q ≠ p → Tr.getP q (Tr.setP v p t) = Tr.getP q t
  | .z, .z, _, h => absurd rfl h
  | .z, .l q, .nil, _ => Tr.getP_nil q
  | .z, .r q, .nil, _ => Tr.getP_nil q
  | .z, .l _, .node _ _ _, _ => rfl
  | .z, .r _, .node _ _ _, _ => rfl
  | .l _, .z, .nil, _ => rfl
  | .l _, .z, .node _ _ _, _ => rfl
  | .l p, .l q, .nil, h => (Tr.getP_other v p q .nil fun e => h (congrArg Pth.l e)).trans (Tr.getP_nil q)
  | .l p, .l q, .node _ l _, h => Tr.getP_other v p q l fun e => h (congrArg Pth.l e)
  | .l _, .r q, .nil, _ => Tr.getP_nil q
  | .l _, .r _, .node _ _ _, _ => rfl
  | .r _, .z, .nil, _ => rfl
  | .r _, .z, .node _ _ _, _ => rfl
  | .r _, .l q, .nil, _ => Tr.getP_nil q
  | .r _, .l _, .node _ _ _, _ => rfl
  | .r p, .r q, .nil, h => (Tr.getP_other v p q .nil fun e => h (congrArg Pth.r e)).trans (Tr.getP_nil q)
  | .r p, .r q, .node _ _ r, h => Tr.getP_other v p q r fun e => h (congrArg Pth.r e)
theorem Tr.get_set {α : Type} (t : Tr α) (k : Nat) (v : Option α) (j : Nat) : (t.set k v).get j = if j = k then v else t.get j := by
  by_cases e : j = k
  · rw [if_pos e, e]; exact Tr.getP_same v _ t
  · rw [if_neg e]; exact Tr.getP_other v _ _ t fun h => e (pth_inj h)

/-! ### which blocks a value names -/
mutual
noncomputable def InD (D : Nat → Nat → Prop) : V → Prop
  | .ptr b _ => D b 0
  | .sl b _ off len esz lim => 0 < esz ∧ len ≤ lim.getD len ∧ D b (off + (lim.getD len) * esz)
  | .map r => D r 0
  | .yield l => D l 0
  | .fn _ a c => InDL D a ∧ InDL D c
  | .iface _ v => InD D v
  | .agg _ l => InDL D l
  | .arr _ _ l => InDL D l
  | .tup l => InDL D l
  | .undef => True
  | .bool _ => True
  | .int _ _ => True
  | .str _ => True
  | .nilp => True
  | .nils => True
  | .nilm => True
  | .nilf => True
  | .nili => True
noncomputable def InDL (D : Nat → Nat → Prop) : List V → Prop
  | [] => True
  | v :: l => InD D v ∧ InDL D l
end
theorem InDL_iff {D : Nat → Nat → Prop} : ∀ {l : List V}, InDL D l ↔ ∀ v ∈ l, InD D v
  | [] => by simp [InDL]
  | v :: l => by simp [InDL, InDL_iff (l := l)]
mutual
theorem InD.mono' {D E : Nat → Nat → Prop} (h : ∀ i m, D i m → E i m) : ∀ (v : V), InD D v → InD E v
  | .ptr _ _ => fun hv => h _ _ hv
  | .sl _ _ _ _ _ _ => fun hv => ⟨hv.1, hv.2.1, h _ _ hv.2.2⟩
  | .map _ => fun hv => h _ _ hv
  | .yield _ => fun hv => h _ _ hv
  | .fn _ a c => fun hv => ⟨InDL.mono' h a hv.1, InDL.mono' h c hv.2⟩
  | .iface _ v => fun hv => InD.mono' h v hv
  | .agg _ l => fun hv => InDL.mono' h l hv
  | .arr _ _ l => fun hv => InDL.mono' h l hv
  | .tup l => fun hv => InDL.mono' h l hv
  | .undef => fun _ => trivial
  | .bool _ => fun _ => trivial
  | .int _ _ => fun _ => trivial
  | .str _ => fun _ => trivial
  | .nilp => fun _ => trivial
  | .nils => fun _ => trivial
  | .nilm => fun _ => trivial
  | .nilf => fun _ => trivial
  | .nili => fun _ => trivial
theorem InDL.mono' {D E : Nat → Nat → Prop} (h : ∀ i m, D i m → E i m) : ∀ (l : List V), InDL D l → InDL E l
  | [] => fun _ => trivial
  | v :: l => fun hv => ⟨InD.mono' h v hv.1, InDL.mono' h l hv.2⟩
end
theorem InD.mono {D E : Nat → Nat → Prop} (h : ∀ i m, D i m → E i m) {v : V} (hv : InD D v) : InD E v := InD.mono' h v hv
theorem InDL.mono {D E : Nat → Nat → Prop} (h : ∀ i m, D i m → E i m) {l : List V} (hv : InDL D l) : InDL E l := InDL.mono' h l hv
/-- two places that agree there -/
noncomputable def Env.Agree (D : Nat → Nat → Prop) (ρ ρ' : Env) : Prop := ∀ i m, D i m → ρ'.b i = ρ.b i ∧ ρ'.pre i = ρ.pre i ∧ ρ'.cap i = ρ.cap i ∧ ρ'.l i = ρ.l i
theorem slConc_agree {ρ ρ' : Env} {b base off len esz : Nat} {lim : Option Nat} (h1 : ρ'.b b = ρ.b b) (h2 : ρ'.pre b = ρ.pre b) (h3 : ρ'.cap b = ρ.cap b) : slConc ρ' b base off len esz lim = slConc ρ b base off len esz lim := by
  have hc : slCap ρ' b off esz lim = slCap ρ b off esz lim := by cases lim <;> simp [slCap, h3]
  unfold slConc
  rw [hc, h1, h2]
mutual
theorem conc_agree {D : Nat → Nat → Prop} {ρ ρ' : Env} (h : Env.Agree D ρ ρ') : ∀ {v : V}, InD D v → conc ρ' v = conc ρ v
  | .ptr b _, hv => by obtain ⟨h1, h2, _, _⟩ := h b _ hv; simp [conc, h1, h2]
  | .sl b _ _ _ _ lim, hv => by obtain ⟨h1, h2, h3, _⟩ := h b _ hv.2.2; simp only [conc]; exact slConc_agree h1 h2 h3
  | .map b, hv => by obtain ⟨h1, _⟩ := h b _ hv; simp [conc, h1]
  | .yield b, hv => by obtain ⟨_, _, _, h1⟩ := h b _ hv; simp [conc, h1]
  | .fn _ a c, hv => by simp [conc, concL_agree h (l := a) hv.1, concL_agree h (l := c) hv.2]
  | .iface _ v, hv => by simp [conc, conc_agree h (v := v) hv]
  | .agg _ l, hv => by simp [conc, concC_agree h (l := l) hv]
  | .arr _ e l, hv => by simp [conc, concE_agree h (e := e) (l := l) hv]
  | .tup l, hv => by simp [conc, concL_agree h (l := l) hv]
  | .undef, _ => by simp [conc]
  | .bool _, _ => by simp [conc]
  | .int _ _, _ => by simp [conc]
  | .str _, _ => by simp [conc]
  | .nilp, _ => by simp [conc]
  | .nils, _ => by simp [conc]
  | .nilm, _ => by simp [conc]
  | .nilf, _ => by simp [conc]
  | .nili, _ => by simp [conc]
theorem concL_agree {D : Nat → Nat → Prop} {ρ ρ' : Env} (h : Env.Agree D ρ ρ') : ∀ {l : List V}, InDL D l → concL ρ' l = concL ρ l
  | [], _ => rfl
  | v :: l, hv => by simp [concL, conc_agree h (v := v) hv.1, concL_agree h (l := l) hv.2]
theorem concC_agree {D : Nat → Nat → Prop} {ρ ρ' : Env} (h : Env.Agree D ρ ρ') : ∀ {l : List V}, InDL D l → concC ρ' l = concC ρ l
  | [], _ => rfl
  | v :: l, hv => by simp [concC, cellsV_agree h (v := v) hv.1, concC_agree h (l := l) hv.2]
theorem concE_agree {D : Nat → Nat → Prop} {ρ ρ' : Env} (h : Env.Agree D ρ ρ') {e : Nat} : ∀ {l : List V}, InDL D l → concE ρ' e l = concE ρ e l
  | [], _ => rfl
  | v :: l, hv => by simp [concE, cellsV_agree h (v := v) hv.1, concE_agree h (l := l) hv.2]
theorem cellsV_agree {D : Nat → Nat → Prop} {ρ ρ' : Env} (h : Env.Agree D ρ ρ') : ∀ {v : V}, InD D v → cellsV ρ' v = cellsV ρ v
  | .ptr b _, hv => by obtain ⟨h1, h2, _, _⟩ := h b _ hv; simp [cellsV, h1, h2]
  | .sl b _ _ _ _ lim, hv => by obtain ⟨h1, h2, h3, _⟩ := h b _ hv.2.2; simp only [cellsV]; rw [slConc_agree h1 h2 h3]
  | .map b, hv => by obtain ⟨h1, _⟩ := h b _ hv; simp [cellsV, h1]
  | .yield b, hv => by obtain ⟨_, _, _, h1⟩ := h b _ hv; simp [cellsV, h1]
  | .fn _ a c, hv => by simp [cellsV, concL_agree h (l := a) hv.1, concL_agree h (l := c) hv.2]
  | .iface _ v, hv => by simp [cellsV, conc_agree h (v := v) hv]
  | .agg _ l, hv => by simp [cellsV, concC_agree h (l := l) hv]
  | .arr _ e l, hv => by simp [cellsV, concE_agree h (e := e) (l := l) hv]
  | .tup _, _ => by simp [cellsV]
  | .undef, _ => by simp [cellsV]
  | .bool _, _ => by simp [cellsV]
  | .int _ _, _ => by simp [cellsV]
  | .str _, _ => by simp [cellsV]
  | .nilp, _ => by simp [cellsV]
  | .nils, _ => by simp [cellsV]
  | .nilm, _ => by simp [cellsV]
  | .nilf, _ => by simp [cellsV]
  | .nili, _ => by simp [cellsV]
end
theorem InDL.at_ {D : Nat → Nat → Prop} {l : List V} (h : InDL D l) {i : Nat} {v : V} (hi : l[i]? = some v) : InD D v := InDL_iff.1 h v (List.mem_of_getElem? hi)
theorem findI_in {D : Nat → Nat → Prop} : ∀ {l : List V} {off : Nat} {x : V} {o : Nat}, findI l off = some (x, o) → InDL D l → InD D x
  | [], _, _, _, h, _ => by simp [findI_nil] at h
  | v :: l, off, x, o, h, hl => by
    simp only [findI_cons] at h
    split at h
    · simp only [Option.some.injEq, Prod.mk.injEq] at h; rw [← h.1]; exact hl.1
    · exact findI_in h hl.2
theorem getAtS_in {D : Nat → Nat → Prop} : ∀ {f : Nat} {v : V} {off n : Nat} {ag : Bool} {x : V}, getAtS f v off n ag = some x → InD D v → InD D x
  | 0, _, _, _, _, _, h, _ => by simp [getAtS_zero] at h
  | f + 1, v, off, n, ag, x, h, hv => by
    simp only [getAtS_succ] at h
    split at h
    · split at h
      · simp only [Option.some.injEq] at h; rw [← h]; exact hv
      · cases h
    · split at h
      · split at h
        · rename_i hf
          split at h
          · exact getAtS_in h (findI_in hf (show InDL D _ from hv))
          · cases h
        · cases h
      · split at h
        · rename_i hy
          split at h
          · exact getAtS_in h (InDL.at_ (show InDL D _ from hv) hy)
          · cases h
        · cases h
      · cases h
theorem putIx_in {D : Nat → Nat → Prop} {g : V → Nat → Option V} (hg : ∀ y o y', g y o = some y' → InD D y → InD D y') : ∀ {l : List V} {off : Nat} {l' : List V} {o s : Nat}, putIx g l off = some (l', o, s) → InDL D l → InDL D l'
  | [], _, _, _, _, h, _ => by simp [putIx_nil] at h
  | v :: l, off, l', o, s, h, hl => by
    simp only [putIx_cons] at h
    split at h
    · split at h
      · rename_i hv
        simp only [Option.some.injEq, Prod.mk.injEq] at h
        rw [← h.1]; exact ⟨hg _ _ _ hv hl.1, hl.2⟩
      · cases h
    · split at h
      · rename_i h1
        simp only [Option.some.injEq, Prod.mk.injEq] at h
        rw [← h.1]; exact ⟨hl.1, putIx_in hg h1 hl.2⟩
      · cases h
theorem InDL.set {D : Nat → Nat → Prop} {l : List V} {i : Nat} {v : V} (hl : InDL D l) (hv : InD D v) : InDL D (l.set i v) :=
  InDL_iff.2 fun x hx => by
    rcases List.mem_or_eq_of_mem_set hx with h | rfl
    · exact InDL_iff.1 hl x h
    · exact hv
theorem putAtS_in {D : Nat → Nat → Prop} : ∀ {f : Nat} {v : V} {off : Nat} {x v' : V}, putAtS f v off x = some v' → InD D v → InD D x → InD D v'
  | 0, _, _, _, _, h, _, _ => by simp [putAtS_zero] at h
  | f + 1, v, off, x, v', h, hv, hx => by
    simp only [putAtS_succ] at h
    split at h
    · split at h
      · simp only [Option.some.injEq] at h; rw [← h]; exact hx
      · cases h
    · split at h
      · split at h
        · rename_i hp
          split at h
          · simp only [Option.some.injEq] at h
            rw [← h]
            exact putIx_in (fun y o y' hy hy' => putAtS_in hy hy' hx) hp (show InDL D _ from hv)
          · cases h
        · cases h
      · split at h
        · rename_i hy
          split at h
          · split at h
            · rename_i hy'
              simp only [Option.some.injEq] at h
              rw [← h]
              exact InDL.set (show InDL D _ from hv) (putAtS_in hy' (InDL.at_ (show InDL D _ from hv) hy) hx)
            · cases h
          · cases h
        · cases h
      · cases h
mutual
theorem flat_in {D : Nat → Nat → Prop} : ∀ {v : V}, InD D v → ∀ x ∈ flatV v, InD D x
  | .agg n l, h => fun x hx => by
    simp only [flatV] at hx
    rcases fitV_mem hx with hx | rfl
    · exact flat_inC (l := l) h x hx
    · trivial
  | .arr n e l, h => fun x hx => by
    simp only [flatV] at hx
    rcases fitV_mem hx with hx | rfl
    · exact flat_inE (l := l) h x hx
    · trivial
  | .undef, h => fun x hx => by simp [flatV] at hx; subst hx; exact h
  | .bool _, h => fun x hx => by simp [flatV] at hx; subst hx; exact h
  | .int _ _, h => fun x hx => by simp [flatV] at hx; subst hx; exact h
  | .str _, h => fun x hx => by simp [flatV] at hx; subst hx; exact h
  | .nilp, h => fun x hx => by simp [flatV] at hx; subst hx; exact h
  | .ptr _ _, h => fun x hx => by simp [flatV] at hx; subst hx; exact h
  | .nils, h => fun x hx => by simp [flatV] at hx; subst hx; exact h
  | .sl _ _ _ _ _ _, h => fun x hx => by simp [flatV] at hx; subst hx; exact h
  | .nilm, h => fun x hx => by simp [flatV] at hx; subst hx; exact h
  | .map _, h => fun x hx => by simp [flatV] at hx; subst hx; exact h
  | .fn _ _ _, h => fun x hx => by simp [flatV] at hx; subst hx; exact h
  | .yield _, h => fun x hx => by simp [flatV] at hx; subst hx; exact h
  | .nilf, h => fun x hx => by simp [flatV] at hx; subst hx; exact h
  | .iface _ _, h => fun x hx => by simp [flatV] at hx; subst hx; exact h
  | .nili, h => fun x hx => by simp [flatV] at hx; subst hx; exact h
  | .tup _, h => fun x hx => by simp [flatV] at hx; subst hx; exact h
theorem flat_inC {D : Nat → Nat → Prop} : ∀ {l : List V}, InDL D l → ∀ x ∈ flatC l, InD D x
  | [], _ => fun x hx => by simp [flatC] at hx
  | v :: l, h => fun x hx => by
    simp only [flatC, List.mem_append] at hx
    rcases hx with hx | hx
    · exact flat_in h.1 x hx
    · exact flat_inC h.2 x hx
theorem flat_inE {D : Nat → Nat → Prop} {e : Nat} : ∀ {l : List V}, InDL D l → ∀ x ∈ flatE e l, InD D x
  | [], _ => fun x hx => by simp [flatE] at hx
  | v :: l, h => fun x hx => by
    simp only [flatE, List.mem_append] at hx
    rcases hx with hx | hx
    · rcases fitV_mem hx with hx | rfl
      · exact flat_in h.1 x hx
      · trivial
    · exact flat_inE h.2 x hx
end
theorem flatGet_in {D : Nat → Nat → Prop} {v : V} {off n : Nat} {ag : Bool} {x : V} (h : flatGet v off n ag = some x) (hv : InD D v) : InD D x := by
  unfold flatGet at h
  split at h
  · split at h
    · cases h
      exact InDL_iff.2 fun y hy => flat_in hv y (List.mem_of_mem_drop (List.mem_of_mem_take hy))
    · split at h
      · rename_i hx
        split at h
        · cases h; exact flat_in hv _ (List.mem_of_getElem? hx)
        · cases h
      · cases h
  · cases h
theorem getAt_in {D : Nat → Nat → Prop} {f : Nat} {v : V} {off n : Nat} {ag : Bool} {x : V} (h : getAt f v off n ag = some x) (hv : InD D v) : InD D x := by
  unfold getAt at h
  split at h
  · cases h; exact getAtS_in (by assumption) hv
  · exact flatGet_in h hv
theorem putAt_in {D : Nat → Nat → Prop} {f : Nat} {v : V} {off : Nat} {x v' : V} (h : putAt f v off x = some v') (hv : InD D v) (hx : InD D x) : InD D v' := by
  unfold putAt at h
  split at h
  · cases h; exact putAtS_in (by assumption) hv hx
  · unfold flatPut at h
    split at h
    · cases h
      refine InDL_iff.2 fun y hy => ?_
      simp only [List.mem_append] at hy
      rcases hy with (hy | hy) | hy
      · exact flat_in hv y (List.mem_of_mem_take hy)
      · exact flat_in hx y hy
      · exact flat_in hv y (List.mem_of_mem_drop hy)
    · cases h

/-! ### blocks -/
inductive Blk where
  | cells (ty : TypeId) (v : V)
  | ro (v : V)
  | loop (state : LoopState) (pending : Option Code) (fr : Tr V) (ps : Array Tmp) (assign body : Code) (dfr : Nat)
  | dfr (taken : Bool)
  | map (es : List (V × V × Nat)) (clock : Nat)
  deriving Inhabited
noncomputable def Blk.own : Blk → Bool
  | .ro _ => false
  | _ => true
structure Heap where
  next : Nat
  wmin : Nat
  tr : Tr Blk
  deriving Inhabited
noncomputable def wmn (a i : Nat) : Nat := match Nat.ble a i with
  | true => a
  | false => i
noncomputable def Heap.get (h : Heap) (i : Nat) : Option Blk := h.tr.get i
noncomputable def Heap.put (h : Heap) (i : Nat) (b : Blk) : Heap := { next := h.next, wmin := wmn h.wmin i, tr := h.tr.set i (some b) }
noncomputable def Heap.kill (h : Heap) (i : Nat) : Heap := { next := h.next, wmin := wmn h.wmin i, tr := h.tr.set i none }
noncomputable def Heap.push (h : Heap) (b : Blk) : Heap := { next := h.next + 1, wmin := h.wmin, tr := h.tr.set h.next (some b) }
theorem Heap.get_put (h : Heap) (i : Nat) (b : Blk) (j : Nat) : (h.put i b).get j = if j = i then some b else h.get j := Tr.get_set _ _ _ _
theorem Heap.get_kill (h : Heap) (i : Nat) (j : Nat) : (h.kill i).get j = if j = i then none else h.get j := Tr.get_set _ _ _ _
theorem Heap.get_push (h : Heap) (b : Blk) (j : Nat) : (h.push b).get j = if j = h.next then some b else h.get j := Tr.get_set _ _ _ _
theorem wmin_le (a i : Nat) : wmn a i ≤ a ∧ wmn a i ≤ i := by
  unfold wmn
  cases h : Nat.ble a i with
  | true => exact ⟨Nat.le_refl _, Nat.le_of_ble_eq_true h⟩
  | false =>
    have : ¬ a ≤ i := fun h' => by rw [Nat.ble_eq_true_of_le h'] at h; cases h
    exact ⟨by show i ≤ a; omega, Nat.le_refl _⟩

/-- slots: what is known of them -/
noncomputable def frIn (D : Nat → Nat → Prop) (fr : Tr V) : Prop := ∀ t v, fr.get t = some v → InD D v
noncomputable def InB (D : Nat → Nat → Prop) : Blk → Prop
  | .cells _ v => InD D v
  | .ro v => InD D v
  | .loop _ _ fr _ _ _ d => frIn D fr ∧ D d 0
  | .dfr _ => True
  | .map es _ => ∀ e ∈ es, InD D e.1 ∧ InD D e.2.1
theorem InB.mono {D E : Nat → Nat → Prop} (h : ∀ i m, D i m → E i m) {b : Blk} (hb : InB D b) : InB E b := by
  cases b with
  | cells _ v => exact InD.mono h hb
  | ro v => exact InD.mono h hb
  | loop _ _ fr _ _ _ d => exact ⟨fun t v hv => InD.mono h (hb.1 t v hv), h _ _ hb.2⟩
  | dfr _ => trivial
  | map es _ => exact fun e he => ⟨InD.mono h (hb e he).1, InD.mono h (hb e he).2⟩
/-- a map's entries -/
noncomputable def concM (ρ : Env) (es : List (V × V × Nat)) : List MapEntry := es.map fun e => ⟨conc ρ e.1, conc ρ e.2.1, e.2.2⟩
theorem concM_agree {D : Nat → Nat → Prop} {ρ ρ' : Env} (h : Env.Agree D ρ ρ') {es : List (V × V × Nat)} (hi : ∀ e ∈ es, InD D e.1 ∧ InD D e.2.1) : concM ρ' es = concM ρ es :=
  List.map_congr_left fun e he => by rw [conc_agree h (hi e he).1, conc_agree h (hi e he).2]
/-- the check on a body -/
noncomputable def codeOK (N : Nat) : Code → Bool
  | .region _ ops dr => ops.toList.all (fun o => noDefer o && dstOk N o.dst) && (!dr || flowB N ops.toList ops.size)
  | .seq a b => codeOK N a && codeOK N b
  | .cond _ a b => codeOK N a && codeOK N b
  | .block _ a => codeOK N a
  | .loop a => codeOK N a
  | .scope a => codeOK N a
  | .rangeFunc _ ps a b => ps.toList.all (fun p => decide (p < N)) && codeOK N a && codeOK N b
  | _ => true
/-- a block's object in the model -/
noncomputable def KnB (ρ : Env) (i : Nat) : Blk → Obj → Prop
  | .cells ty v, o => ∃ pre tail : List Value, o = .cells (pre ++ (cellsV ρ v ++ tail)).toArray ty (0, 0) ∧ pre.length = ρ.pre i ∧ v.size + tail.length = ρ.cap i
  | .ro v, o => ∃ (pre tail : List Value) (ty : TypeId) (fz : Nat × Nat), o = .cells (pre ++ (cellsV ρ v ++ tail)).toArray ty fz ∧ pre.length = ρ.pre i ∧ v.size ≤ ρ.cap i
  | .loop st pe fr ps asg bd d, o => ∃ fn tmps, o = .loop { state := st, pending := pe, fn := fn, tmps := tmps, params := ps, assign := asg, body := bd, defers := ρ.b d } ∧ (∀ t v, fr.get t = some v → tmps[t]? = some (conc ρ v)) ∧ ρ.l i = ρ.b i ∧ (∀ p ∈ ps.toList, p < tmps.size) ∧ codeOK tmps.size asg = true ∧ codeOK tmps.size bd = true
  | .dfr taken, o => o = .deferred (if taken then none else some [])
  | .map es c, o => o = .map (concM ρ es).toArray c
theorem KnB.agree {D : Nat → Nat → Prop} {ρ ρ' : Env} (h : Env.Agree D ρ ρ') {i m : Nat} (hi : D i m) {b : Blk} (hb : InB D b) {o : Obj} (hk : KnB ρ i b o) : KnB ρ' i b o := by
  obtain ⟨h1, h2, h3, h4⟩ := h i m hi
  cases b with
  | cells ty v => obtain ⟨pre, tail, k1, k2, k3⟩ := hk; exact ⟨pre, tail, by rw [cellsV_agree h hb]; exact k1, by rw [h2]; exact k2, by rw [h3]; exact k3⟩
  | ro v => obtain ⟨pre, tail, ty, fz, k1, k2, k3⟩ := hk; exact ⟨pre, tail, ty, fz, by rw [cellsV_agree h hb]; exact k1, by rw [h2]; exact k2, by rw [h3]; exact k3⟩
  | loop st pe fr ps asg bd d =>
    obtain ⟨fn, tmps, k1, k2, k3, k4⟩ := hk
    obtain ⟨g1, _⟩ := h d _ hb.2
    exact ⟨fn, tmps, by rw [g1]; exact k1, fun t v hv => by rw [conc_agree h (hb.1 t v hv)]; exact k2 t v hv, by rw [h4, h1]; exact k3, k4⟩
  | dfr _ => exact hk
  | map es c =>
    show o = .map (concM ρ' es).toArray c
    rw [concM_agree h hb]; exact hk

/-- the blocks that are told of, with room for so many cells -/
noncomputable def DD (D : Nat → Prop) (ρ : Env) : Nat → Nat → Prop := fun i m => D i ∧ m ≤ ρ.cap i
/-- how the plain machine's memory lies in the model's; D: the blocks that are told of, none of them between the next one and U -/
structure Rel (s0 : World) (U : Nat) (D : Nat → Prop) (ρ : Env) (h : Heap) (w : World) : Prop where
  lt : ∀ i, D i → i < h.next ∨ U ≤ i
  wf : ∀ i, h.next ≤ i → h.get i = none
  has : ∀ i b, D i → h.get i = some b → ∃ o, w.heap[ρ.b i]? = some o ∧ KnB ρ i b o
  clo : ∀ i b, D i → h.get i = some b → InB (DD D ρ) b
  inj : ∀ i j b c, D i → D j → h.get i = some b → h.get j = some c → b.own = true → c.own = true → i ≠ j → ρ.b i ≠ ρ.b j
  own : ∀ i b, D i → h.get i = some b → b.own = true → s0.heap.size ≤ ρ.b i
  old : ∀ i j b c, D i → D j → h.get i = some b → h.get j = some c → b.own = false → c.own = true → ρ.b i ≠ ρ.b j
  base : Below s0.heap.size s0 w
/-- from one state to a later one -/
structure Nxt (D : Nat → Prop) (ρ : Env) (h : Heap) (w : World) (D' : Nat → Prop) (ρ' : Env) (h' : Heap) (w' : World) : Prop where
  sub : ∀ i, D i → D' i
  new : ∀ i, D' i → D i ∨ (h.next ≤ i ∧ i < h'.next)
  env : ∀ i, (i < h.next ∨ h'.next ≤ i) → ρ'.b i = ρ.b i ∧ ρ'.pre i = ρ.pre i ∧ ρ'.cap i = ρ.cap i ∧ ρ'.l i = ρ.l i
  frame : ∀ c, c < w.heap.size → (∀ i, D i → h'.wmin ≤ i → i < h.next → ρ.b i ≠ c) → w'.heap[c]? = w.heap[c]?
  fresh : ∀ i, D' i → h.next ≤ i → i < h'.next → w.heap.size ≤ ρ'.b i ∨ ∃ j, D j ∧ h'.wmin ≤ j ∧ j < h.next ∧ ρ.b j = ρ'.b i
  size : w.heap.size ≤ w'.heap.size
  wmin : h'.wmin ≤ h.wmin
  nxt : h.next ≤ h'.next
  os : w'.os = w.os
  tape : w'.tape = w.tape
  output : w'.output = w.output
theorem Nxt.refl (D : Nat → Prop) (ρ : Env) (h : Heap) (w : World) : Nxt D ρ h w D ρ h w :=
  ⟨fun _ h => h, fun _ h => .inl h, fun _ _ => ⟨rfl, rfl, rfl, rfl⟩, fun _ _ _ => rfl, fun i _ hn hl => by omega, Nat.le_refl _, Nat.le_refl _, Nat.le_refl _, rfl, rfl, rfl⟩
theorem Nxt.trans {D D1 D2 : Nat → Prop} {ρ ρ1 ρ2 : Env} {h h1 h2 : Heap} {w w1 w2 : World} {U : Nat} (hl : ∀ i, D i → i < h.next ∨ U ≤ i) (hU : h2.next ≤ U) (a : Nxt D ρ h w D1 ρ1 h1 w1) (b : Nxt D1 ρ1 h1 w1 D2 ρ2 h2 w2) : Nxt D ρ h w D2 ρ2 h2 w2 := by
  have hn := a.nxt
  have hn2 := b.nxt
  have hb1 : ∀ i, D1 i → h2.wmin ≤ i → i < h1.next → ∀ c, c < w.heap.size → (∀ i, D i → h2.wmin ≤ i → i < h.next → ρ.b i ≠ c) → ρ1.b i ≠ c := fun i hi hw hlt c hc hno => by
    rcases a.new i hi with h | ⟨h, h'⟩
    · rcases hl i h with h3 | h3
      · rw [(a.env i (.inl h3)).1]; exact hno i h hw h3
      · omega
    · rcases a.fresh i hi h h' with h | ⟨j, h3, h4, h5, h6⟩
      · omega
      · rw [← h6]; exact hno j h3 (Nat.le_trans b.wmin h4) h5
  refine ⟨fun i hi => b.sub i (a.sub i hi), fun i hi => ?_, fun i hi => ?_, fun c hc hno => ?_, fun i hi hn hlt => ?_, Nat.le_trans a.size b.size, Nat.le_trans b.wmin a.wmin, Nat.le_trans a.nxt b.nxt, b.os.trans a.os, b.tape.trans a.tape, b.output.trans a.output⟩
  · rcases b.new i hi with h | ⟨h, h'⟩
    · rcases a.new i h with h | ⟨h, h'⟩
      · exact .inl h
      · exact .inr ⟨h, by omega⟩
    · exact .inr ⟨by omega, h'⟩
  · obtain ⟨g1, g2, g3, g4⟩ := a.env i (by omega)
    obtain ⟨k1, k2, k3, k4⟩ := b.env i (by omega)
    exact ⟨k1.trans g1, k2.trans g2, k3.trans g3, k4.trans g4⟩
  · rw [b.frame c (Nat.lt_of_lt_of_le hc a.size) fun i hi hw hlt => hb1 i hi hw hlt c hc hno]
    exact a.frame c hc fun i hi hw hlt => hno i hi (Nat.le_trans b.wmin hw) hlt
  · -- what is new
    have old1 : ∀ j, D1 j → h2.wmin ≤ j → j < h1.next → w.heap.size ≤ ρ1.b j ∨ ∃ k, D k ∧ h2.wmin ≤ k ∧ k < h.next ∧ ρ.b k = ρ1.b j := fun j hj hw hlt => by
      rcases a.new j hj with h | ⟨h, h'⟩
      · rcases hl j h with h3 | h3
        · exact .inr ⟨j, h, hw, h3, (a.env j (.inl h3)).1.symm⟩
        · omega
      · rcases a.fresh j hj h h' with h | ⟨k, k1, k2, k3, k4⟩
        · exact .inl h
        · exact .inr ⟨k, k1, Nat.le_trans b.wmin k2, k3, k4⟩
    by_cases hlt1 : i < h1.next
    · have hi1 : D1 i := by
        rcases b.new i hi with h | ⟨h, _⟩
        · exact h
        · omega
      rw [(b.env i (.inl hlt1)).1]
      rcases a.fresh i hi1 hn hlt1 with h | ⟨k, k1, k2, k3, k4⟩
      · exact .inl h
      · exact .inr ⟨k, k1, Nat.le_trans b.wmin k2, k3, k4⟩
    · rcases b.fresh i hi (Nat.le_of_not_lt hlt1) hlt with h | ⟨j, h3, h4, h5, h6⟩
      · exact .inl (Nat.le_trans a.size h)
      · rcases old1 j h3 h4 h5 with h | ⟨k, k1, k2, k3, k4⟩
        · exact .inl (by rw [← h6]; exact h)
        · exact .inr ⟨k, k1, k2, k3, by rw [k4, h6]⟩
theorem Nxt.agree {D D' : Nat → Prop} {ρ ρ' : Env} {h h' : Heap} {w w' : World} {U : Nat} (hl : ∀ i, D i → i < h.next ∨ U ≤ i) (hU : h'.next ≤ U) (a : Nxt D ρ h w D' ρ' h' w') : Env.Agree (DD D ρ) ρ ρ' := fun i _ hi => a.env i (by have := hl i hi.1; omega)
theorem Nxt.dd {D D' : Nat → Prop} {ρ ρ' : Env} {h h' : Heap} {w w' : World} {U : Nat} (hl : ∀ i, D i → i < h.next ∨ U ≤ i) (hU : h'.next ≤ U) (a : Nxt D ρ h w D' ρ' h' w') : ∀ i m, DD D ρ i m → DD D' ρ' i m := fun i m hi => ⟨a.sub i hi.1, by rw [(a.agree hl hU i m hi).2.2.1]; exact hi.2⟩

section
variable {s0 : World} {U : Nat} {D : Nat → Prop} {ρ : Env} {h : Heap} {w w' : World}
/-- a world that differs in nothing that is told -/
theorem Rel.drawn (r : Rel s0 U D ρ h w) (n : Nat) : Rel s0 U D ρ h { w with drawn := n } :=
  ⟨r.lt, r.wf, r.has, r.clo, r.inj, r.own, r.old, ⟨r.base.os, r.base.tape, r.base.output, r.base.size, r.base.block⟩⟩
theorem Rel.blt (r : Rel s0 U D ρ h w) {i : Nat} {b : Blk} (hb : h.get i = some b) : i < h.next := by
  rcases Nat.lt_or_ge i h.next with h' | h'
  · exact h'
  · rw [r.wf i h'] at hb; cases hb
/-- a block written over -/
theorem Rel.put (r : Rel s0 U D ρ h w) {i : Nat} {b b' : Blk} {o' : Obj} (hi : D i) (hb : h.get i = some b) (ho : b.own = true) (ho' : b'.own = true) (t : Turned (ρ.b i) o' w w') (hk : KnB ρ i b' o') (hin : InB (DD D ρ) b') :
    Rel s0 U D ρ (h.put i b') w' ∧ Nxt D ρ h w D ρ (h.put i b') w' := by
  have get : ∀ j c, (h.put i b').get j = some c → (j = i ∧ c = b') ∨ (j ≠ i ∧ h.get j = some c) := fun j c hc => by
    rw [Heap.get_put] at hc
    split at hc
    · rename_i e; cases hc; exact .inl ⟨e, rfl⟩
    · rename_i e; exact .inr ⟨e, hc⟩
  have hil := r.blt hb
  refine ⟨⟨r.lt, fun j hj => ?_, fun j c hj hc => ?_, fun j c hj hc => ?_, fun j k c d hj hk' hc hd hoc hod hne => ?_, fun j c hj hc hoc => ?_, fun j k c d hj hk' hc hd hoc hod => ?_, ?_⟩, ?_⟩
  · have hj : h.next ≤ j := hj
    rw [Heap.get_put, if_neg (by omega)]; exact r.wf j hj
  · rcases get j c hc with ⟨rfl, rfl⟩ | ⟨hne, hc⟩
    · exact ⟨o', t.this, hk⟩
    · obtain ⟨o, h1, h2⟩ := r.has j c hj hc
      refine ⟨o, ?_, h2⟩
      rw [t.other]
      · exact h1
      · intro e
        by_cases hoc : c.own = true
        · exact r.inj j i c b hj hi hc hb hoc ho hne e
        · exact r.old j i c b hj hi hc hb (by simpa using hoc) ho e
  · rcases get j c hc with ⟨rfl, rfl⟩ | ⟨_, hc⟩
    · exact hin
    · exact r.clo j c hj hc
  · rcases get j c hc with ⟨rfl, rfl⟩ | ⟨_, hc1⟩ <;> rcases get k d hd with ⟨rfl, rfl⟩ | ⟨_, hd1⟩
    · exact absurd rfl hne
    · exact r.inj _ _ b d hj hk' hb hd1 ho hod hne
    · exact r.inj _ _ c b hj hk' hc1 hb hoc ho hne
    · exact r.inj _ _ c d hj hk' hc1 hd1 hoc hod hne
  · rcases get j c hc with ⟨rfl, rfl⟩ | ⟨_, hc⟩
    · exact r.own _ b hj hb ho
    · exact r.own j c hj hc hoc
  · rcases get j c hc with ⟨rfl, rfl⟩ | ⟨_, hc1⟩
    · rw [ho'] at hoc; cases hoc
    · rcases get k d hd with ⟨rfl, rfl⟩ | ⟨_, hd1⟩
      · exact r.old j _ c b hj hk' hc1 hb hoc ho
      · exact r.old j k c d hj hk' hc1 hd1 hoc hod
  · have hs := r.own i b hi hb ho
    exact ⟨t.os.trans r.base.os, t.tape.trans r.base.tape, t.output.trans r.base.output, by rw [t.size]; exact r.base.size, fun k hk => (t.other k (by omega)).trans (r.base.block k hk)⟩
  · have hw := wmin_le h.wmin i
    refine ⟨fun _ h => h, fun _ h => .inl h, fun _ _ => ⟨rfl, rfl, rfl, rfl⟩, fun c _ hno => t.other c fun e => hno i hi hw.2 hil e.symm, fun j _ hn hl => ?_, Nat.le_of_eq t.size.symm, hw.1, Nat.le_refl _, t.os, t.tape, t.output⟩
    have hl : j < h.next := hl
    omega
/-- a block that nobody writes to any more -/
theorem Rel.putR (r : Rel s0 U D ρ h w) {i : Nat} {b b' : Blk} {o' : Obj} (hi : D i) (hb : h.get i = some b) (ho : b.own = true) (ho' : b'.own = false) (t : Turned (ρ.b i) o' w w') (hk : KnB ρ i b' o') (hin : InB (DD D ρ) b') :
    Rel s0 U D ρ (h.put i b') w' ∧ Nxt D ρ h w D ρ (h.put i b') w' := by
  have get : ∀ j c, (h.put i b').get j = some c → (j = i ∧ c = b') ∨ (j ≠ i ∧ h.get j = some c) := fun j c hc => by
    rw [Heap.get_put] at hc
    split at hc
    · rename_i e; cases hc; exact .inl ⟨e, rfl⟩
    · rename_i e; exact .inr ⟨e, hc⟩
  have hil := r.blt hb
  refine ⟨⟨r.lt, fun j hj => ?_, fun j c hj hc => ?_, fun j c hj hc => ?_, fun j k c d hj hk' hc hd hoc hod hne => ?_, fun j c hj hc hoc => ?_, fun j k c d hj hk' hc hd hoc hod => ?_, ?_⟩, ?_⟩
  · have hj : h.next ≤ j := hj
    rw [Heap.get_put, if_neg (by omega)]; exact r.wf j hj
  · rcases get j c hc with ⟨rfl, rfl⟩ | ⟨hne, hc⟩
    · exact ⟨o', t.this, hk⟩
    · obtain ⟨o, h1, h2⟩ := r.has j c hj hc
      refine ⟨o, ?_, h2⟩
      rw [t.other]
      · exact h1
      · intro e
        by_cases hoc : c.own = true
        · exact r.inj j i c b hj hi hc hb hoc ho hne e
        · exact r.old j i c b hj hi hc hb (by simpa using hoc) ho e
  · rcases get j c hc with ⟨rfl, rfl⟩ | ⟨_, hc⟩
    · exact hin
    · exact r.clo j c hj hc
  · rcases get j c hc with ⟨rfl, rfl⟩ | ⟨_, hc1⟩
    · rw [ho'] at hoc; cases hoc
    · rcases get k d hd with ⟨rfl, rfl⟩ | ⟨_, hd1⟩
      · rw [ho'] at hod; cases hod
      · exact r.inj _ _ c d hj hk' hc1 hd1 hoc hod hne
  · rcases get j c hc with ⟨rfl, rfl⟩ | ⟨_, hc⟩
    · rw [ho'] at hoc; cases hoc
    · exact r.own j c hj hc hoc
  · rcases get k d hd with ⟨rfl, rfl⟩ | ⟨hkn, hd1⟩
    · rw [ho'] at hod; cases hod
    · rcases get j c hc with ⟨rfl, rfl⟩ | ⟨_, hc1⟩
      · exact r.inj _ _ b d hj hk' hb hd1 ho hod (fun e => hkn e.symm)
      · exact r.old j k c d hj hk' hc1 hd1 hoc hod
  · have hs := r.own i b hi hb ho
    exact ⟨t.os.trans r.base.os, t.tape.trans r.base.tape, t.output.trans r.base.output, by rw [t.size]; exact r.base.size, fun k hk => (t.other k (by omega)).trans (r.base.block k hk)⟩
  · have hw := wmin_le h.wmin i
    refine ⟨fun _ h => h, fun _ h => .inl h, fun _ _ => ⟨rfl, rfl, rfl, rfl⟩, fun c _ hno => t.other c fun e => hno i hi hw.2 hil e.symm, fun j _ hn hl => ?_, Nat.le_of_eq t.size.symm, hw.1, Nat.le_refl _, t.os, t.tape, t.output⟩
    have hl : j < h.next := hl
    omega
/-- a block let go -/
theorem Rel.kill (r : Rel s0 U D ρ h w) (i : Nat) : Rel s0 U D ρ (h.kill i) w ∧ Nxt D ρ h w D ρ (h.kill i) w := by
  have get : ∀ j c, (h.kill i).get j = some c → h.get j = some c := fun j c hc => by
    rw [Heap.get_kill] at hc
    split at hc
    · cases hc
    · exact hc
  have hw := wmin_le h.wmin i
  refine ⟨⟨r.lt, fun j hj => ?_, fun j c hj hc => r.has j c hj (get j c hc), fun j c hj hc => r.clo j c hj (get j c hc), fun j k c d hj hk hc hd => r.inj j k c d hj hk (get _ _ hc) (get _ _ hd), fun j c hj hc => r.own j c hj (get _ _ hc), fun j k c d hj hk hc hd => r.old j k c d hj hk (get _ _ hc) (get _ _ hd), r.base⟩,
    ⟨fun _ h => h, fun _ h => .inl h, fun _ _ => ⟨rfl, rfl, rfl, rfl⟩, fun _ _ _ => rfl, fun j _ hn hl => ?_, Nat.le_refl _, hw.1, Nat.le_refl _, rfl, rfl, rfl⟩⟩
  · have hj : h.next ≤ j := hj
    rw [Heap.get_kill]
    split
    · rfl
    · exact r.wf j hj
  · have hl : j < h.next := hl
    omega
/-- the place of one more block -/
noncomputable def Env.add (ρ : Env) (i b pre cap : Nat) : Env := ⟨fun j => if j = i then b else ρ.b j, fun j => if j = i then pre else ρ.pre j, fun j => if j = i then cap else ρ.cap j, fun j => if j = i then b else ρ.l j⟩
theorem Env.add_agree {ρ : Env} {i b pre cap : Nat} {D : Nat → Prop} (h : ∀ j, D j → j ≠ i) : Env.Agree (DD D ρ) ρ (ρ.add i b pre cap) := fun j _ hj => by
  have := h j hj.1
  simp [Env.add, this]
theorem Rel.next_new (r : Rel s0 U D ρ h w) (hU : h.next + 1 ≤ U) : ∀ j, D j → j ≠ h.next := fun j hj e => by
  have := r.lt j hj; omega
/-- a new block -/
theorem Rel.pushAny (r : Rel s0 U D ρ h w) (hU : h.next + 1 ≤ U) {b : Blk} {o : Obj} {pre cap : Nat} (g : Below w.heap.size w w') (hn : w'.heap[w.heap.size]? = some o) (hin : InB (DD D ρ) b) (hk : KnB (ρ.add h.next w.heap.size pre cap) h.next b o) :
    Rel s0 U (fun i => D i ∨ i = h.next) (ρ.add h.next w.heap.size pre cap) (h.push b) w' ∧ Nxt D ρ h w (fun i => D i ∨ i = h.next) (ρ.add h.next w.heap.size pre cap) (h.push b) w' := by
  have hne := r.next_new hU
  have hag : Env.Agree (DD D ρ) ρ (ρ.add h.next w.heap.size pre cap) := Env.add_agree hne
  have hdd : ∀ j m, DD D ρ j m → DD (fun i => D i ∨ i = h.next) (ρ.add h.next w.heap.size pre cap) j m := fun j m hj => ⟨.inl hj.1, by rw [(hag j m hj).2.2.1]; exact hj.2⟩
  have hb : ∀ j, D j → (ρ.add h.next w.heap.size pre cap).b j = ρ.b j := fun j hj => (hag j 0 ⟨hj, Nat.zero_le _⟩).1
  have hbn : (ρ.add h.next w.heap.size pre cap).b h.next = w.heap.size := by simp [Env.add]
  have get : ∀ j c, (D j ∨ j = h.next) → (h.push b).get j = some c → (j = h.next ∧ c = b) ∨ (D j ∧ h.get j = some c) := fun j c hj hc => by
    rw [Heap.get_push] at hc
    split at hc
    · rename_i e; cases hc; exact .inl ⟨e, rfl⟩
    · rename_i e
      rcases hj with hj | hj
      · exact .inr ⟨hj, hc⟩
      · exact absurd hj e
  have hlt : ∀ j c, D j → h.get j = some c → ρ.b j < w.heap.size := fun j c hj hc => by
    obtain ⟨o, h1, _⟩ := r.has j c hj hc
    exact (Array.getElem?_eq_some_iff.1 h1).1
  have hsz : s0.heap.size ≤ w.heap.size := r.base.size
  refine ⟨⟨fun j hj => ?_, fun j hj => ?_, fun j c hj hc => ?_, fun j c hj hc => ?_, fun j k c d hj hk' hc hd hoc hod hne' => ?_, fun j c hj hc hoc => ?_, fun j k c d hj hk' hc hd hoc hod => ?_, ?_⟩, ?_⟩
  · show j < h.next + 1 ∨ _
    rcases hj with hj | hj
    · have := r.lt j hj; omega
    · omega
  · have hj : h.next + 1 ≤ j := hj
    rw [Heap.get_push, if_neg (by omega)]; exact r.wf j (by omega)
  · rcases get j c hj hc with ⟨rfl, rfl⟩ | ⟨hj, hc⟩
    · exact ⟨o, by rw [hbn]; exact hn, hk⟩
    · obtain ⟨o, h1, h2⟩ := r.has j c hj hc
      exact ⟨o, by rw [hb j hj, g.block _ (hlt j c hj hc)]; exact h1, KnB.agree hag (m := 0) ⟨hj, Nat.zero_le _⟩ (r.clo j c hj hc) h2⟩
  · rcases get j c hj hc with ⟨rfl, rfl⟩ | ⟨hj, hc⟩
    · exact hin.mono hdd
    · exact (r.clo j c hj hc).mono hdd
  · rcases get j c hj hc with ⟨rfl, rfl⟩ | ⟨hj1, hc1⟩ <;> rcases get k d hk' hd with ⟨rfl, rfl⟩ | ⟨hk1, hd1⟩
    · exact absurd rfl hne'
    · rw [hbn, hb k hk1]; have := hlt k d hk1 hd1; omega
    · rw [hbn, hb j hj1]; have := hlt j c hj1 hc1; omega
    · rw [hb j hj1, hb k hk1]; exact r.inj j k c d hj1 hk1 hc1 hd1 hoc hod hne'
  · rcases get j c hj hc with ⟨rfl, rfl⟩ | ⟨hj, hc⟩
    · rw [hbn]; exact hsz
    · rw [hb j hj]; exact r.own j c hj hc hoc
  · rcases get j c hj hc with ⟨rfl, rfl⟩ | ⟨hj1, hc1⟩ <;> rcases get k d hk' hd with ⟨rfl, rfl⟩ | ⟨hk1, hd1⟩
    · rw [hoc] at hod; cases hod
    · rw [hbn, hb k hk1]; have := hlt k d hk1 hd1; omega
    · rw [hbn, hb j hj1]; have := hlt j c hj1 hc1; omega
    · rw [hb j hj1, hb k hk1]; exact r.old j k c d hj1 hk1 hc1 hd1 hoc hod
  · exact ⟨g.os.trans r.base.os, g.tape.trans r.base.tape, g.output.trans r.base.output, Nat.le_trans hsz g.size, fun k hk => (g.block k (by omega)).trans (r.base.block k hk)⟩
  · refine ⟨fun _ h => .inl h, fun j hj => ?_, fun j hj => ?_, fun c hc _ => g.block c hc, fun j hj hn' hl => ?_, g.size, Nat.le_refl _, Nat.le_succ _, g.os, g.tape, g.output⟩
    · rcases hj with hj | hj
      · exact .inl hj
      · exact .inr ⟨Nat.le_of_eq hj.symm, by show j < h.next + 1; omega⟩
    · have : j ≠ h.next := by
        rcases hj with hj | hj
        · omega
        · have hj : h.next + 1 ≤ j := hj
          omega
      simp [Env.add, this]
    · have hl : j < h.next + 1 := hl
      have hj' : j = h.next := by omega
      rw [hj', hbn]; exact .inl (Nat.le_refl _)
theorem Rel.push (r : Rel s0 U D ρ h w) (hU : h.next + 1 ≤ U) {b : Blk} {o : Obj} {pre cap : Nat} (g : Below w.heap.size w w') (hn : w'.heap[w.heap.size]? = some o) (_ho : b.own = true) (hin : InB (DD D ρ) b) (hk : KnB (ρ.add h.next w.heap.size pre cap) h.next b o) :
    Rel s0 U (fun i => D i ∨ i = h.next) (ρ.add h.next w.heap.size pre cap) (h.push b) w' ∧ Nxt D ρ h w (fun i => D i ∨ i = h.next) (ρ.add h.next w.heap.size pre cap) (h.push b) w' := r.pushAny hU g hn hin hk
/-- a block that goes on under another number -/
theorem Rel.move (r : Rel s0 U D ρ h w) (hU : h.next + 1 ≤ U) {b : Nat} {B B' : Blk} {o' : Obj} {pre cap : Nat} (hb : D b) (hg : h.get b = some B) (ho : B.own = true) (ho' : B'.own = true) (t : Turned (ρ.b b) o' w w') (hin : InB (DD D ρ) B') (hk : KnB (ρ.add h.next (ρ.b b) pre cap) h.next B' o') :
    Rel s0 U (fun i => D i ∨ i = h.next) (ρ.add h.next (ρ.b b) pre cap) ((h.push B').kill b) w' ∧ Nxt D ρ h w (fun i => D i ∨ i = h.next) (ρ.add h.next (ρ.b b) pre cap) ((h.push B').kill b) w' := by
  have hne := r.next_new hU
  have hag : Env.Agree (DD D ρ) ρ (ρ.add h.next (ρ.b b) pre cap) := Env.add_agree hne
  have hdd : ∀ j m, DD D ρ j m → DD (fun i => D i ∨ i = h.next) (ρ.add h.next (ρ.b b) pre cap) j m := fun j m hj => ⟨.inl hj.1, by rw [(hag j m hj).2.2.1]; exact hj.2⟩
  have hbb : ∀ j, D j → (ρ.add h.next (ρ.b b) pre cap).b j = ρ.b j := fun j hj => (hag j 0 ⟨hj, Nat.zero_le _⟩).1
  have hbn : (ρ.add h.next (ρ.b b) pre cap).b h.next = ρ.b b := by simp [Env.add]
  have hbl := r.blt hg
  have get : ∀ j c, (D j ∨ j = h.next) → ((h.push B').kill b).get j = some c → (j = h.next ∧ c = B') ∨ (D j ∧ j ≠ b ∧ h.get j = some c) := fun j c hj hc => by
    rw [Heap.get_kill] at hc
    split at hc
    · cases hc
    · rename_i e1
      rw [Heap.get_push] at hc
      split at hc
      · rename_i e; cases hc; exact .inl ⟨e, rfl⟩
      · rename_i e
        rcases hj with hj | hj
        · exact .inr ⟨hj, e1, hc⟩
        · exact absurd hj e
  have ne : ∀ j c, D j → j ≠ b → h.get j = some c → ρ.b j ≠ ρ.b b := fun j c hj hjb hc e => by
    by_cases hoc : c.own = true
    · exact r.inj j b c B hj hb hc hg hoc ho hjb e
    · exact r.old j b c B hj hb hc hg (by simpa using hoc) ho e
  have hw := wmin_le (h.push B').wmin b
  refine ⟨⟨fun j hj => ?_, fun j hj => ?_, fun j c hj hc => ?_, fun j c hj hc => ?_, fun j k c d hj hk' hc hd hoc hod hne' => ?_, fun j c hj hc hoc => ?_, fun j k c d hj hk' hc hd hoc hod => ?_, ?_⟩, ?_⟩
  · show j < h.next + 1 ∨ _
    rcases hj with hj | hj
    · have := r.lt j hj; omega
    · omega
  · have hj : h.next + 1 ≤ j := hj
    rw [Heap.get_kill]
    split
    · rfl
    · rw [Heap.get_push, if_neg (by omega)]; exact r.wf j (by omega)
  · rcases get j c hj hc with ⟨rfl, rfl⟩ | ⟨hj, hjb, hc⟩
    · exact ⟨o', by rw [hbn]; exact t.this, hk⟩
    · obtain ⟨o, h1, h2⟩ := r.has j c hj hc
      exact ⟨o, by rw [hbb j hj, t.other _ (ne j c hj hjb hc)]; exact h1, KnB.agree hag (m := 0) ⟨hj, Nat.zero_le _⟩ (r.clo j c hj hc) h2⟩
  · rcases get j c hj hc with ⟨rfl, rfl⟩ | ⟨hj, hjb, hc⟩
    · exact hin.mono hdd
    · exact (r.clo j c hj hc).mono hdd
  · rcases get j c hj hc with ⟨rfl, rfl⟩ | ⟨hj1, hjb, hc1⟩ <;> rcases get k d hk' hd with ⟨rfl, rfl⟩ | ⟨hk1, hkb, hd1⟩
    · exact absurd rfl hne'
    · rw [hbn, hbb k hk1]; exact fun e => ne k d hk1 hkb hd1 e.symm
    · rw [hbn, hbb j hj1]; exact ne j c hj1 hjb hc1
    · rw [hbb j hj1, hbb k hk1]; exact r.inj j k c d hj1 hk1 hc1 hd1 hoc hod hne'
  · rcases get j c hj hc with ⟨rfl, rfl⟩ | ⟨hj, hjb, hc⟩
    · rw [hbn]; exact r.own b B hb hg ho
    · rw [hbb j hj]; exact r.own j c hj hc hoc
  · rcases get j c hj hc with ⟨rfl, rfl⟩ | ⟨hj1, hjb, hc1⟩
    · rw [ho'] at hoc; cases hoc
    · rcases get k d hk' hd with ⟨rfl, rfl⟩ | ⟨hk1, hkb, hd1⟩
      · rw [hbn, hbb j hj1]; exact ne j c hj1 hjb hc1
      · rw [hbb j hj1, hbb k hk1]; exact r.old j k c d hj1 hk1 hc1 hd1 hoc hod
  · have hs := r.own b B hb hg ho
    exact ⟨t.os.trans r.base.os, t.tape.trans r.base.tape, t.output.trans r.base.output, by rw [t.size]; exact r.base.size, fun k hk => (t.other k (by omega)).trans (r.base.block k hk)⟩
  · refine ⟨fun _ h => .inl h, fun j hj => ?_, fun j hj => ?_, fun c _ hno => t.other c fun e => hno b hb hw.2 hbl e.symm, fun j hj hn' hl => ?_, Nat.le_of_eq t.size.symm, hw.1, Nat.le_succ _, t.os, t.tape, t.output⟩
    · rcases hj with hj | hj
      · exact .inl hj
      · exact .inr ⟨Nat.le_of_eq hj.symm, by show j < h.next + 1; omega⟩
    · have : j ≠ h.next := by
        rcases hj with hj | hj
        · omega
        · have hj : h.next + 1 ≤ j := hj
          omega
      simp [Env.add, this]
    · have hl : j < h.next + 1 := hl
      have hj' : j = h.next := by omega
      rw [hj', hbn]; exact .inr ⟨b, hb, hw.2, hbl, rfl⟩
theorem Nxt.undrew {D' : Nat → Prop} {ρ' : Env} {h' : Heap} {n : Nat} (x : Nxt D ρ h { w with drawn := n } D' ρ' h' w') : Nxt D ρ h w D' ρ' h' w' :=
  ⟨x.sub, x.new, x.env, x.frame, x.fresh, x.size, x.wmin, x.nxt, x.os, x.tape, x.output⟩
end
end Go.Proofs.YtmlemnbhjbaedaaGreatDoor

/-
  Calls, on values that hold what they hold. Nothing here speaks of a program.
-/
import Derived.Test.YtmlemnbhjbaedaaGreatDoorWCtl
namespace Go.Proofs.YtmlemnbhjbaedaaGreatDoor
open Go.RowKit
set_option linter.unusedSimpArgs false
set_option linter.unusedVariables false

/-! ### values under other numbers -/
mutual
noncomputable def renW (τ : Nat → Nat) : W → W
  | .undef => .undef
  | .bool b => .bool b
  | .int k n => .int k n
  | .str s => .str s
  | .nilp => .nilp
  | .ptr b off => .ptr (τ b) off
  | .nils => .nils
  | .sl b base off len esz lim => .sl (τ b) base off len esz lim
  | .fz l esz full => .fz (renWL τ l) esz full
  | .fel x => .fel (renW τ x)
  | .nilm => .nilm
  | .fn f a c => .fn f (renWL τ a) (renWL τ c)
  | .yield l => .yield l
  | .nilf => .nilf
  | .iface t v => .iface t (renW τ v)
  | .nili => .nili
  | .agg n l => .agg n (renWL τ l)
  | .arr n e l => .arr n e (renWL τ l)
  | .tup l => .tup (renWL τ l)
noncomputable def renWL (τ : Nat → Nat) : List W → List W
  | [] => []
  | w :: l => renW τ w :: renWL τ l
end
mutual
/-- no block of one's own in it -/
noncomputable def purW : W → Bool
  | .ptr _ _ => false
  | .sl _ _ _ _ _ _ => false
  | .fz l _ _ => purL l
  | .fel x => purW x
  | .fn _ a c => purL a && purL c
  | .iface _ v => purW v
  | .agg _ l => purL l
  | .arr _ _ l => purL l
  | .tup l => purL l
  | .undef => true
  | .bool _ => true
  | .int _ _ => true
  | .str _ => true
  | .nilp => true
  | .nils => true
  | .nilm => true
  | .yield _ => true
  | .nilf => true
  | .nili => true
noncomputable def purL : List W → Bool
  | [] => true
  | w :: l => purW w && purL l
end
mutual
/-- all numbers in it lie below m -/
noncomputable def refB (m : Nat) : W → Bool
  | .ptr b _ => decide (b < m)
  | .sl b _ _ _ _ _ => decide (b < m)
  | .fz l _ _ => refL m l
  | .fel x => refB m x
  | .fn _ a c => refL m a && refL m c
  | .iface _ v => refB m v
  | .agg _ l => refL m l
  | .arr _ _ l => refL m l
  | .tup l => refL m l
  | .undef => true
  | .bool _ => true
  | .int _ _ => true
  | .str _ => true
  | .nilp => true
  | .nils => true
  | .nilm => true
  | .yield _ => true
  | .nilf => true
  | .nili => true
noncomputable def refL (m : Nat) : List W → Bool
  | [] => true
  | w :: l => refB m w && refL m l
end
theorem renWL_len (τ : Nat → Nat) : ∀ l : List W, (renWL τ l).length = l.length
  | [] => rfl
  | w :: l => by simp [renWL, renWL_len τ l]
theorem renW_size (τ : Nat → Nat) (w : W) : (renW τ w).size = w.size := by cases w <;> rfl
theorem renW_agg (τ : Nat → Nat) (w : W) : (renW τ w).isAgg = w.isAgg := by cases w <;> rfl
theorem renWL_all {τ : Nat → Nat} {e : Nat} : ∀ {l : List W}, (∀ x ∈ l, x.size = e) → ∀ x ∈ renWL τ l, x.size = e
  | [], _, x, hx => by simp [renWL] at hx
  | w :: l, h, x, hx => by
    simp only [renWL, List.mem_cons] at hx
    rcases hx with rfl | hx
    · rw [renW_size]; exact h w (List.mem_cons_self ..)
    · exact renWL_all (fun y hy => h y (List.mem_cons_of_mem _ hy)) x hx
theorem renWL_all' {τ : Nat → Nat} {e : Nat} : ∀ {l : List W}, (∀ x ∈ renWL τ l, x.size = e) → ∀ x ∈ l, x.size = e
  | [], _, x, hx => by simp at hx
  | w :: l, h, x, hx => by
    simp only [List.mem_cons] at hx
    rcases hx with rfl | hx
    · rw [← renW_size τ]; exact h _ (by simp [renWL])
    · exact renWL_all' (τ := τ) (fun y hy => h y (by simp [renWL, hy])) x hx
mutual
theorem ref_pur {m : Nat} : ∀ {w : W}, purW w = true → refB m w = true
  | .undef, _ => rfl
  | .bool _, _ => rfl
  | .int _ _, _ => rfl
  | .str _, _ => rfl
  | .nilp, _ => rfl
  | .ptr _ _, h => by simp [purW] at h
  | .nils, _ => rfl
  | .sl _ _ _ _ _ _, h => by simp [purW] at h
  | .fz l _ _, h => by simp only [purW] at h; simp only [refB, ref_purL h]
  | .fel x, h => by simp only [purW] at h; simp only [refB, ref_pur h]
  | .nilm, _ => rfl
  | .fn _ a c, h => by simp only [purW, Bool.and_eq_true] at h; simp only [refB, ref_purL h.1, ref_purL h.2, Bool.and_self]
  | .yield _, _ => rfl
  | .nilf, _ => rfl
  | .iface _ v, h => by simp only [purW] at h; simp only [refB, ref_pur h]
  | .nili, _ => rfl
  | .agg _ l, h => by simp only [purW] at h; simp only [refB, ref_purL h]
  | .arr _ _ l, h => by simp only [purW] at h; simp only [refB, ref_purL h]
  | .tup l, h => by simp only [purW] at h; simp only [refB, ref_purL h]
theorem ref_purL {m : Nat} : ∀ {l : List W}, purL l = true → refL m l = true
  | [], _ => rfl
  | w :: l, h => by simp only [purL, Bool.and_eq_true] at h; simp only [refL, ref_pur h.1, ref_purL h.2, Bool.and_self]
end
mutual
theorem ren_pur {τ : Nat → Nat} : ∀ {w : W}, purW w = true → renW τ w = w
  | .undef, _ => rfl
  | .bool _, _ => rfl
  | .int _ _, _ => rfl
  | .str _, _ => rfl
  | .nilp, _ => rfl
  | .ptr _ _, h => by simp [purW] at h
  | .nils, _ => rfl
  | .sl _ _ _ _ _ _, h => by simp [purW] at h
  | .fz l _ _, h => by simp only [purW] at h; simp only [renW, ren_purL h]
  | .fel x, h => by simp only [purW] at h; simp only [renW, ren_pur h]
  | .nilm, _ => rfl
  | .fn _ a c, h => by simp only [purW, Bool.and_eq_true] at h; simp only [renW, ren_purL h.1, ren_purL h.2]
  | .yield _, _ => rfl
  | .nilf, _ => rfl
  | .iface _ v, h => by simp only [purW] at h; simp only [renW, ren_pur h]
  | .nili, _ => rfl
  | .agg _ l, h => by simp only [purW] at h; simp only [renW, ren_purL h]
  | .arr _ _ l, h => by simp only [purW] at h; simp only [renW, ren_purL h]
  | .tup l, h => by simp only [purW] at h; simp only [renW, ren_purL h]
theorem ren_purL {τ : Nat → Nat} : ∀ {l : List W}, purL l = true → renWL τ l = l
  | [], _ => rfl
  | w :: l, h => by simp only [purL, Bool.and_eq_true] at h; simp only [renWL, ren_pur h.1, ren_purL h.2]
end
theorem purL_iff : ∀ {l : List W}, purL l = true ↔ ∀ x ∈ l, purW x = true
  | [] => by simp [purL]
  | w :: l => by simp [purL, purL_iff (l := l)]
section
variable {Γ Γ' : Ctx}
/-- one context seen through other numbers -/
structure Via (τ : Nat → Nat) (Γ Γ' : Ctx) : Prop where
  nw : ∀ b, b < Γ.nw → τ b < Γ'.nw
  σ : ∀ b, b < Γ.nw → Γ'.σ (τ b) = Γ.σ b
  D : ∀ b, Γ.D b → Γ'.D b
  val : ∀ b, Γ.D b → Γ'.h.val b = Γ.h.val b
mutual
theorem RS_via {τ : Nat → Nat} (v : Via τ Γ Γ') : ∀ {w : W} {s : List V}, RS Γ w s → RS Γ' (renW τ w) s
  | .undef, _, h => by simp only [renW, RS] at h ⊢; exact h
  | .bool _, _, h => by simp only [renW, RS] at h ⊢; exact h
  | .int _ _, _, h => by simp only [renW, RS] at h ⊢; exact h
  | .str _, _, h => by simp only [renW, RS] at h ⊢; exact h
  | .nilp, _, h => by simp only [renW, RS] at h ⊢; exact h
  | .ptr b _, _, h => by simp only [renW, RS] at h ⊢; exact ⟨v.nw b h.1, by rw [v.σ b h.1]; exact h.2⟩
  | .nils, _, h => by simp only [renW, RS] at h ⊢; exact h
  | .sl b _ _ _ _ _, _, h => by simp only [renW, RS] at h ⊢; exact ⟨v.nw b h.1, by rw [v.σ b h.1]; exact h.2⟩
  | .fz l e full, _, h => by
    simp only [renW, RS, renWL_len] at h ⊢
    rcases h with ⟨rfl, h⟩ | ⟨b, base, off, lim, bv, h1, h2, h3, h4, ha, h5, h6, h7⟩
    · exact .inl ⟨rfl, h⟩
    · exact .inr ⟨b, base, off, lim, bv, h1, h2, v.D b h3, by rw [v.val b h3]; exact h4, ha, h5, renWL_all h6, RSL_via v h7⟩
  | .fel x, _, h => by
    simp only [renW, RS, renW_size, renW_agg] at h ⊢
    obtain ⟨b, off, bv, h1, h3, h4, h5, ha, hb, h7⟩ := h
    exact ⟨b, off, bv, h1, v.D b h3, by rw [v.val b h3]; exact h4, h5, ha, hb, RS_via v h7⟩
  | .nilm, _, h => by simp only [renW, RS] at h ⊢; exact h
  | .fn f a c, _, h => by
    simp only [renW, RS] at h ⊢
    obtain ⟨a', c', h1, h2, h3⟩ := h
    exact ⟨a', c', h1, RVL_via v h2, RVL_via v h3⟩
  | .yield _, _, h => by simp only [renW, RS] at h ⊢; exact h
  | .nilf, _, h => by simp only [renW, RS] at h ⊢; exact h
  | .iface t x, _, h => by
    simp only [renW, RS, renW_agg] at h ⊢
    obtain ⟨u, h1, h2, h3⟩ := h
    exact ⟨u, h1, h2, RS_via v h3⟩
  | .nili, _, h => by simp only [renW, RS] at h ⊢; exact h
  | .agg n l, _, h => by simp only [renW, RS] at h ⊢; exact ⟨h.1, RSL_via v h.2⟩
  | .arr n e l, _, h => by simp only [renW, RS] at h ⊢; exact ⟨h.1, renWL_all h.2.1, RSL_via v h.2.2⟩
  | .tup l, _, h => by
    simp only [renW, RS] at h ⊢
    obtain ⟨vs, h1, h2⟩ := h
    exact ⟨vs, h1, RVL_via v h2⟩
theorem RSL_via {τ : Nat → Nat} (v : Via τ Γ Γ') : ∀ {l : List W} {s : List V}, RSL Γ l s → RSL Γ' (renWL τ l) s
  | [], _, h => by simp only [renWL, RSL] at h ⊢; exact h
  | x :: l, _, h => by simp only [renWL, RSL, renW_size] at h ⊢; exact ⟨RS_via v h.1, RSL_via v h.2⟩
theorem RVL_via {τ : Nat → Nat} (v : Via τ Γ Γ') : ∀ {l : List W} {vs : List V}, RVL Γ l vs → RVL Γ' (renWL τ l) vs
  | [], _, h => by simp only [renWL, RVL] at h ⊢; exact h
  | x :: l, _, h => by
    simp only [renWL, RVL, renW_agg] at h ⊢
    obtain ⟨u, vs', h1, ⟨h2, h3⟩, h4⟩ := h
    exact ⟨u, vs', h1, ⟨h2, RS_via v h3⟩, RVL_via v h4⟩
end
theorem RV_via {τ : Nat → Nat} (v : Via τ Γ Γ') {w : W} {u : V} (h : RV Γ w u) : RV Γ' (renW τ w) u := ⟨by rw [renW_agg]; exact h.1, RS_via v h.2⟩
mutual
/-- and back: what is under other numbers -/
theorem RS_back {τ : Nat → Nat} {m : Nat} (hm : Γ'.nw = m) (hσ : ∀ b, b < m → Γ'.σ b = Γ.σ (τ b)) (hD : ∀ b, Γ.D b → Γ'.D b) (hv : ∀ b, Γ.D b → Γ'.h.val b = Γ.h.val b) : ∀ {w : W} {s : List V}, refB m w = true → RS Γ (renW τ w) s → RS Γ' w s
  | .undef, _, _, h => by simp only [renW, RS] at h ⊢; exact h
  | .bool _, _, _, h => by simp only [renW, RS] at h ⊢; exact h
  | .int _ _, _, _, h => by simp only [renW, RS] at h ⊢; exact h
  | .str _, _, _, h => by simp only [renW, RS] at h ⊢; exact h
  | .nilp, _, _, h => by simp only [renW, RS] at h ⊢; exact h
  | .ptr b _, _, hr, h => by
    simp only [refB, decide_eq_true_eq] at hr
    simp only [renW, RS] at h ⊢; exact ⟨hm ▸ hr, by rw [hσ b hr]; exact h.2⟩
  | .nils, _, _, h => by simp only [renW, RS] at h ⊢; exact h
  | .sl b _ _ _ _ _, _, hr, h => by
    simp only [refB, decide_eq_true_eq] at hr
    simp only [renW, RS] at h ⊢; exact ⟨hm ▸ hr, by rw [hσ b hr]; exact h.2⟩
  | .fz l e full, _, hr, h => by
    simp only [refB] at hr
    simp only [renW, RS, renWL_len] at h ⊢
    rcases h with ⟨hl, h⟩ | ⟨b, base, off, lim, bv, h1, h2, h3, h4, ha, h5, h6, h7⟩
    · refine .inl ⟨?_, h⟩
      cases l with
      | nil => rfl
      | cons _ _ => simp [renWL] at hl
    · exact .inr ⟨b, base, off, lim, bv, h1, h2, hD b h3, by rw [hv b h3]; exact h4, ha, h5, renWL_all' h6, RSL_back hm hσ hD hv hr h7⟩
  | .fel x, _, hr, h => by
    simp only [refB] at hr
    simp only [renW, RS, renW_size, renW_agg] at h ⊢
    obtain ⟨b, off, bv, h1, h3, h4, h5, ha, hb, h7⟩ := h
    exact ⟨b, off, bv, h1, hD b h3, by rw [hv b h3]; exact h4, h5, ha, hb, RS_back hm hσ hD hv hr h7⟩
  | .nilm, _, _, h => by simp only [renW, RS] at h ⊢; exact h
  | .fn f a c, _, hr, h => by
    simp only [refB, Bool.and_eq_true] at hr
    simp only [renW, RS] at h ⊢
    obtain ⟨a', c', h1, h2, h3⟩ := h
    exact ⟨a', c', h1, RVL_back hm hσ hD hv hr.1 h2, RVL_back hm hσ hD hv hr.2 h3⟩
  | .yield _, _, _, h => by simp only [renW, RS] at h ⊢; exact h
  | .nilf, _, _, h => by simp only [renW, RS] at h ⊢; exact h
  | .iface t x, _, hr, h => by
    simp only [refB] at hr
    simp only [renW, RS, renW_agg] at h ⊢
    obtain ⟨u, h1, h2, h3⟩ := h
    exact ⟨u, h1, h2, RS_back hm hσ hD hv hr h3⟩
  | .nili, _, _, h => by simp only [renW, RS] at h ⊢; exact h
  | .agg n l, _, hr, h => by
    simp only [refB] at hr
    simp only [renW, RS] at h ⊢; exact ⟨h.1, RSL_back hm hσ hD hv hr h.2⟩
  | .arr n e l, _, hr, h => by
    simp only [refB] at hr
    simp only [renW, RS] at h ⊢; exact ⟨h.1, renWL_all' h.2.1, RSL_back hm hσ hD hv hr h.2.2⟩
  | .tup l, _, hr, h => by
    simp only [refB] at hr
    simp only [renW, RS] at h ⊢
    obtain ⟨vs, h1, h2⟩ := h
    exact ⟨vs, h1, RVL_back hm hσ hD hv hr h2⟩
theorem RSL_back {τ : Nat → Nat} {m : Nat} (hm : Γ'.nw = m) (hσ : ∀ b, b < m → Γ'.σ b = Γ.σ (τ b)) (hD : ∀ b, Γ.D b → Γ'.D b) (hv : ∀ b, Γ.D b → Γ'.h.val b = Γ.h.val b) : ∀ {l : List W} {s : List V}, refL m l = true → RSL Γ (renWL τ l) s → RSL Γ' l s
  | [], _, _, h => by simp only [renWL, RSL] at h ⊢; exact h
  | x :: l, _, hr, h => by
    simp only [refL, Bool.and_eq_true] at hr
    simp only [renWL, RSL, renW_size] at h ⊢; exact ⟨RS_back hm hσ hD hv hr.1 h.1, RSL_back hm hσ hD hv hr.2 h.2⟩
theorem RVL_back {τ : Nat → Nat} {m : Nat} (hm : Γ'.nw = m) (hσ : ∀ b, b < m → Γ'.σ b = Γ.σ (τ b)) (hD : ∀ b, Γ.D b → Γ'.D b) (hv : ∀ b, Γ.D b → Γ'.h.val b = Γ.h.val b) : ∀ {l : List W} {vs : List V}, refL m l = true → RVL Γ (renWL τ l) vs → RVL Γ' l vs
  | [], _, _, h => by simp only [renWL, RVL] at h ⊢; exact h
  | x :: l, _, hr, h => by
    simp only [refL, Bool.and_eq_true] at hr
    simp only [renWL, RVL, renW_agg] at h ⊢
    obtain ⟨u, vs', h1, ⟨h2, h3⟩, h4⟩ := h
    exact ⟨u, vs', h1, ⟨h2, RS_back hm hσ hD hv hr.1 h3⟩, RVL_back hm hσ hD hv hr.2 h4⟩
end
end

/-! ### a call -/
/-- what a function does, whatever others have -/
noncomputable def PSpec (C : Cfg) (G : Nat → Option W) (f : FuncId) (m : Nat) (ws : List W) (hp : HpW) (Q : W → HpW → Nat → Prop) : Prop :=
  ∀ R, Spec C G f m ws hp R fun w hp' nw' R' => R' = R ∧ Q w hp' nw'
/-- the caller's numbers for the called one's -/
noncomputable def numC (ext : List Nat) (nw : Nat) (i : Nat) : Nat := match ext[i]? with
  | some b => b
  | none => nw + (i - ext.length)
noncomputable def renH (τ : Nat → Nat) : HpW → HpW
  | [] => []
  | (b, ty, w) :: hp => (τ b, ty, renW τ w) :: renH τ hp
noncomputable def delA : List Nat → HpW → HpW
  | [], hp => hp
  | b :: l, hp => delA l (hdel hp b)
section
variable {C : Cfg} {G : Nat → Option W}
theorem nodup_map {τ : Nat → Nat} (h : ∀ i j, τ i = τ j → i = j) : ∀ {l : List Nat}, l.Nodup → (l.map τ).Nodup
  | [], _ => List.nodup_nil
  | a :: l, hl => by
    simp only [List.nodup_cons, List.map_cons] at hl ⊢
    refine ⟨fun hm => ?_, nodup_map h hl.2⟩
    obtain ⟨b, h1, h2⟩ := List.mem_map.1 hm
    exact hl.1 (h b a h2 ▸ h1)
theorem delA_get {b : Nat} : ∀ {l : List Nat} {hp : HpW}, (hp.map (·.1)).Nodup → hget (delA l hp) b = if b ∈ l then none else hget hp b
  | [], hp, _ => by simp [delA]
  | k :: l, hp, h => by
    simp only [delA]
    rw [delA_get (h.sublist hdel_sub), hget_hdel h]
    by_cases e : k = b
    · subst e; simp
    · rw [if_neg e]
      by_cases e2 : b ∈ l
      · rw [if_pos e2, if_pos (List.mem_cons_of_mem _ e2)]
      · rw [if_neg e2, if_neg]
        simp only [List.mem_cons, not_or]; exact ⟨fun e3 => e e3.symm, e2⟩
theorem delA_sub : ∀ {l : List Nat} {hp : HpW}, ((delA l hp).map (·.1)).Sublist (hp.map (·.1))
  | [], _ => List.Sublist.refl _
  | b :: l, hp => (delA_sub (l := l) (hp := hdel hp b)).trans hdel_sub
theorem hget_of_mem {b : Nat} : ∀ {hp : HpW}, b ∈ hp.map (·.1) → ∃ x, hget hp b = some x
  | [], h => by simp at h
  | (k, y) :: hp, h => by
    rw [hget_cons]
    split
    · exact ⟨_, rfl⟩
    · rename_i hne
      simp only [List.map_cons, List.mem_cons] at h
      rcases h with h | h
      · exact absurd h.symm hne
      · exact hget_of_mem h
theorem renH_get {τ : Nat → Nat} {n : Nat} (inj : ∀ i j, i < n → j < n → τ i = τ j → i = j) : ∀ {hp : HpW} {b : Nat} {x : TypeId × W}, (∀ i y, hget hp i = some y → i < n) → (hp.map (·.1)).Nodup → hget (renH τ hp) b = some x → ∃ i y, hget hp i = some y ∧ b = τ i ∧ x = (y.1, renW τ y.2)
  | [], b, x, _, _, h => by simp [renH, hget] at h
  | (k, ty, w) :: hp, b, x, hn, nd, h => by
    simp only [renH] at h
    rw [hget_cons] at h
    split at h
    · rename_i e
      cases h
      exact ⟨k, (ty, w), by rw [hget_cons, if_pos rfl], e.symm, rfl⟩
    · simp only [List.map_cons, List.nodup_cons] at nd
      have hsub : ∀ i y, hget hp i = some y → k ≠ i := fun i y hy e => nd.1 (e ▸ hget_mem hy)
      obtain ⟨i, y, h1, h2, h3⟩ := renH_get inj (fun i y hy => hn i y (by rw [hget_cons, if_neg (hsub i y hy)]; exact hy)) nd.2 h
      exact ⟨i, y, by rw [hget_cons, if_neg (hsub i y h1)]; exact h1, h2, h3⟩
theorem renH_keys {τ : Nat → Nat} : ∀ {hp : HpW}, (renH τ hp).map (·.1) = (hp.map (·.1)).map τ
  | [] => rfl
  | (k, ty, w) :: hp => by simp [renH, renH_keys]
theorem hget_append {b : Nat} {r : HpW} : ∀ {hp : HpW}, hget (hp ++ r) b = match hget hp b with | some x => some x | none => hget r b
  | [] => rfl
  | (k, y) :: hp => by
    rw [List.cons_append, hget_cons, hget_cons]
    split
    · rfl
    · exact hget_append
/-- the blocks that are handed over -/
noncomputable def Handed (ext : List Nat) (nw : Nat) (hp0 hp : HpW) : Prop := ∀ i ty w, hget hp0 i = some (ty, w) → i < ext.length ∧ refB ext.length w = true ∧ ∃ b, ext[i]? = some b ∧ hget hp b = some (ty, renW (numC ext nw) w)
theorem call_spec {f : FuncId} {ext : List Nat} {ws : List W} {hp0 : HpW} {Q : W → HpW → Nat → Prop} (sp : PSpec C G f ext.length ws hp0 Q) {Γ : Ctx} {hp : HpW} {X : Nat → Prop} {R : Res} (s : SatH C G Γ hp X R) {vs : List V}
    (hnd : ext.Nodup) (hext : ∀ b ∈ ext, b < Γ.nw) (hkn : (hp0.map (·.1)).Nodup) (hh : Handed ext Γ.nw hp0 hp) (hr : refL ext.length ws = true) (hv : RVL Γ (renWL (numC ext Γ.nw) ws) vs) :
    ∃ n v Γ' w hp1 nw1, runFn C n f vs Γ.h = some (v, Γ'.h) ∧ Q w hp1 nw1 ∧ Γ'.nw = Γ.nw + (nw1 - ext.length) ∧ Γ.Le Γ' ∧ SatH C G Γ' (renH (numC ext Γ.nw) hp1 ++ delA ext hp) X R ∧ Frm Γ.nw Γ hp X Γ' (renH (numC ext Γ.nw) hp1 ++ delA ext hp) X ∧ RV Γ' (renW (numC ext Γ.nw) w) v ∧
      (ext = [] → Γ.h.wmin = Γ.h.next → Γ.h.next ≤ Γ'.h.wmin) := by
  -- the called one's view
  have num_lt : ∀ {i}, i < ext.length → ∃ b, ext[i]? = some b ∧ numC ext Γ.nw i = b ∧ b < Γ.nw := fun {i} hi => by
    obtain ⟨b, hb⟩ : ∃ b, ext[i]? = some b := ⟨_, List.getElem?_eq_getElem hi⟩
    exact ⟨b, hb, by simp only [numC, hb], hext b (List.mem_of_getElem? hb)⟩
  have num_ge : ∀ {i}, ext.length ≤ i → numC ext Γ.nw i = Γ.nw + (i - ext.length) := fun {i} hi => by
    simp only [numC, List.getElem?_eq_none hi]
  have num_inj : ∀ i j, numC ext Γ.nw i = numC ext Γ.nw j → i = j := fun i j e => by
    rcases Nat.lt_or_ge i ext.length with hi | hi <;> rcases Nat.lt_or_ge j ext.length with hj | hj
    · obtain ⟨b, h1, h2, _⟩ := num_lt hi
      obtain ⟨c, h3, h4, _⟩ := num_lt hj
      rw [h2, h4] at e; subst e
      exact (List.getElem?_inj hi hnd).1 (h1.trans h3.symm)
    · obtain ⟨b, h1, h2, h5⟩ := num_lt hi
      rw [h2, num_ge hj] at e; omega
    · obtain ⟨b, h1, h2, h5⟩ := num_lt hj
      rw [h2, num_ge hi] at e; omega
    · rw [num_ge hi, num_ge hj] at e; omega
  have own0 : ∀ {i x}, hget hp0 i = some x → i < ext.length ∧ ∃ b, ext[i]? = some b ∧ numC ext Γ.nw i = b ∧ b < Γ.nw ∧ hget hp b = some (x.1, renW (numC ext Γ.nw) x.2) := fun {i x} h => by
    obtain ⟨h1, h2, b, h3, h4⟩ := hh i x.1 x.2 h
    obtain ⟨b', h5, h6, h7⟩ := num_lt h1
    rw [h3] at h5; cases h5
    exact ⟨h1, b, h3, h6, h7, h4⟩
  let Γ0 : Ctx := ⟨ext.length, fun i => Γ.σ (numC ext Γ.nw i), Γ.D, Γ.h⟩
  have back : ∀ {w : W} {v : V}, refB ext.length w = true → RV Γ (renW (numC ext Γ.nw) w) v → RV Γ0 w v := fun {w v} h1 h2 => ⟨by rw [← renW_agg (numC ext Γ.nw)]; exact h2.1, RS_back (Γ := Γ) (Γ' := Γ0) (τ := numC ext Γ.nw) rfl (fun _ _ => rfl) (fun _ h => h) (fun _ _ => rfl) h1 h2.2⟩
  have s0 : SatH C G Γ0 hp0 (fun _ => False) Res.none := by
    refine ⟨s.wf, fun i ty w h => ?_, fun i j x y hx hy e => ?_, hkn, fun _ _ h => h, fun _ h => h.elim, s.dlt, trivial, s.gl⟩
    · obtain ⟨h1, b, h2, h3, h4, h5⟩ := own0 h
      obtain ⟨q1, q2, q3, u, q4, q5⟩ := s.own b _ _ h5
      refine ⟨h1, ?_, fun h => h, u, ?_, back (hh i ty w h).2.1 q5⟩
      · show ¬ Γ.D (Γ.σ (numC ext Γ.nw i)); rw [h3]; exact q2
      · show Γ.h.get (Γ.σ (numC ext Γ.nw i)) = _; rw [h3]; exact q4
    · obtain ⟨h1, b, h2, h3, h4, h5⟩ := own0 hx
      obtain ⟨g1, c, g2, g3, g4, g5⟩ := own0 hy
      have e : Γ.σ (numC ext Γ.nw i) = Γ.σ (numC ext Γ.nw j) := e
      rw [h3, g3] at e
      have := s.inj b c _ _ h5 g5 e
      exact num_inj i j (by rw [h3, g3]; exact this)
  have hv0 : RVL Γ0 ws vs := RVL_back (Γ := Γ) (Γ' := Γ0) (τ := numC ext Γ.nw) rfl (fun _ _ => rfl) (fun _ h => h) (fun _ _ => rfl) hr hv
  obtain ⟨n, v, Γ1, X1, w, hp1, R1, g1, g2, g3, g4, rfl, hq⟩ := sp Res.none Γ0 (fun _ => False) vs rfl s0 hv0
  -- the caller's view behind it
  let Γ' : Ctx := ⟨Γ.nw + (Γ1.nw - ext.length), fun i => if i < Γ.nw then Γ.σ i else Γ1.σ (i - Γ.nw + ext.length), Γ1.D, Γ1.h⟩
  have hnw1 : ext.length ≤ Γ1.nw := g3.mle (Nat.le_refl _)
  have own0' : ∀ {c}, Owns Γ0 hp0 c → Owns Γ hp c := fun {c} h => by
    obtain ⟨i, x, h1, h2⟩ := h
    obtain ⟨_, b, _, h3, _, h5⟩ := own0 h1
    have h2 : Γ.σ (numC ext Γ.nw i) = c := h2
    exact ⟨b, _, h5, by rw [← h3]; exact h2⟩
  have keepD : ∀ {c}, c < Γ.h.next → ¬ Owns Γ0 hp0 c → Γ1.h.get c = Γ.h.get c := fun h1 h2 => g3.keep _ h1 h2 (fun h => h)
  have dOwn : ∀ {c}, Γ.D c → ¬ Owns Γ hp c := fun hd h => by
    obtain ⟨b, x, h1, rfl⟩ := h
    exact (s.own b x.1 x.2 h1).2.1 hd
  have le : Γ.Le Γ' := by
    refine ⟨Nat.le_add_right _ _, fun b hb => by show (if b < Γ.nw then _ else _) = _; rw [if_pos hb], g3.dsub, fun c hc => val_congr ?_⟩
    exact keepD (s.dlt c hc) fun h => dOwn hc (own0' h)
  have σ' : ∀ {j}, j < Γ1.nw → Γ'.σ (numC ext Γ.nw j) = Γ1.σ j := fun {j} hj => by
    rcases Nat.lt_or_ge j ext.length with h | h
    · obtain ⟨b, h1, h2, h3⟩ := num_lt h
      show (if numC ext Γ.nw j < Γ.nw then _ else _) = _
      rw [if_pos (by rw [h2]; exact h3), g3.sig j h]
    · show (if numC ext Γ.nw j < Γ.nw then _ else _) = _
      rw [num_ge h, if_neg (by omega)]
      congr 1; omega
  have via : Via (numC ext Γ.nw) Γ1 Γ' := by
    refine ⟨fun b hb => ?_, fun b hb => σ' hb, fun _ h => h, fun _ _ => rfl⟩
    show _ < Γ.nw + (Γ1.nw - ext.length)
    rcases Nat.lt_or_ge b ext.length with h | h
    · obtain ⟨c, h1, h2, h3⟩ := num_lt h
      rw [h2]; omega
    · rw [num_ge h]; omega
  have lt1 : ∀ i y, hget hp1 i = some y → i < Γ1.nw := fun i y h => (g2.own i y.1 y.2 h).1
  have rest : ∀ {b x}, hget (delA ext hp) b = some x → b ∉ ext ∧ hget hp b = some x := fun {b x} h => by
    rw [delA_get s.nd] at h
    split at h
    · cases h
    · rename_i h2; exact ⟨h2, h⟩
  have notOwn0 : ∀ {b x}, b ∉ ext → hget hp b = some x → ¬ Owns Γ0 hp0 (Γ.σ b) := fun {b x} h1 h2 h => by
    obtain ⟨i, y, h3, h4⟩ := h
    obtain ⟨_, c, h5, h6, h7, h8⟩ := own0 h3
    have h4 : Γ.σ (numC ext Γ.nw i) = Γ.σ b := h4
    rw [h6] at h4
    have := s.inj c b _ _ h8 h2 h4
    exact h1 (this ▸ List.mem_of_getElem? h5)
  have ownlt : ∀ {b x}, hget hp b = some x → Γ.σ b < Γ.h.next := fun {b x} h => by
    obtain ⟨_, _, _, u, h1, _⟩ := s.own b x.1 x.2 h
    rcases Nat.lt_or_ge (Γ.σ b) Γ.h.next with h | h
    · exact h
    · rw [s.wf _ h] at h1; cases h1
  -- where a block of hp' comes from
  have split' : ∀ {b x}, hget (renH (numC ext Γ.nw) hp1 ++ delA ext hp) b = some x → (∃ j y, hget hp1 j = some y ∧ b = numC ext Γ.nw j ∧ x = (y.1, renW (numC ext Γ.nw) y.2)) ∨ (b ∉ ext ∧ hget hp b = some x) := fun {b x} h => by
    rw [hget_append] at h
    split at h
    · rename_i z hz
      cases h
      exact .inl (renH_get (fun i j _ _ e => num_inj i j e) (fun i y hy => lt1 i y hy) g2.nd hz)
    · exact .inr (rest h)
  have new1 : ∀ {j y}, hget hp1 j = some y → ext.length ≤ j → Γ.h.next ≤ Γ1.σ j := fun {j y} h1 h2 => by
    rcases g3.onum j y h2 h1 with h | ⟨k, z, h3, h4, _⟩
    · exact h
    · have := (own0 h4).1; omega
  have ext1 : ∀ {j y}, hget hp1 j = some y → j < ext.length → ∃ b z, ext[j]? = some b ∧ numC ext Γ.nw j = b ∧ hget hp b = some z ∧ Γ1.σ j = Γ.σ b := fun {j y} h1 h2 => by
    obtain ⟨z, hz⟩ := g3.oext j y h2 h1
    obtain ⟨_, b, h3, h4, _, h5⟩ := own0 hz
    exact ⟨b, _, h3, h4, h5, by rw [g3.sig j h2]; show Γ.σ (numC ext Γ.nw j) = _; rw [h4]⟩
  have xkeep : ∀ {c}, X c → Γ1.h.get c = Γ.h.get c := fun {c} h => by
    refine keepD (s.xlt c h) fun ho => ?_
    obtain ⟨b, x, h1, rfl⟩ := own0' ho
    exact (s.own b x.1 x.2 h1).2.2.1 h
  have s' : SatH C G Γ' (renH (numC ext Γ.nw) hp1 ++ delA ext hp) X R := by
    refine ⟨g2.wf, fun b ty w h => ?_, fun b b' x y hx hy e => ?_, ?_, fun c hc hX => ?_, fun c hc => Nat.lt_of_lt_of_le (s.xlt c hc) g3.next, g2.dlt, ?_, s.gl.mono le⟩
    · rcases split' h with ⟨j, y, h1, rfl, h3⟩ | ⟨h1, h2⟩
      · cases h3
        obtain ⟨q1, q2, q3, u, q4, q5⟩ := g2.own j y.1 y.2 h1
        rw [σ' q1]
        refine ⟨via.nw j q1, q2, fun hX => ?_, u, q4, RV_via via q5⟩
        rcases Nat.lt_or_ge j ext.length with hj | hj
        · obtain ⟨b, z, h5, h6, h7, h8⟩ := ext1 h1 hj
          rw [h8] at hX
          exact (s.own b z.1 z.2 h7).2.2.1 hX
        · have := new1 h1 hj
          have := s.xlt _ hX
          omega
      · obtain ⟨q1, q2, q3, u, q4, q5⟩ := s.own b ty w h2
        rw [le.σ b q1]
        refine ⟨Nat.lt_of_lt_of_le q1 le.nw, fun hd => ?_, q3, u, ?_, q5.mono le⟩
        · rcases g3.dnew _ hd with h | (h | h) | h
          · exact q2 h
          · exact notOwn0 h1 h2 h
          · exact h.elim
          · have := ownlt h2
            have h : Γ.h.next ≤ _ := h
            omega
        · rw [← q4]; exact keepD (ownlt h2) (notOwn0 h1 h2)
    · rcases split' hx with ⟨j, y1, h1, rfl, _⟩ | ⟨h1, h2⟩ <;> rcases split' hy with ⟨j', y2, k1, rfl, _⟩ | ⟨k1, k2⟩
      · rw [σ' (lt1 _ _ h1), σ' (lt1 _ _ k1)] at e
        rw [g2.inj j j' _ _ h1 k1 e]
      · exfalso
        rw [σ' (lt1 _ _ h1), le.σ b' (s.own b' y.1 y.2 k2).1] at e
        rcases Nat.lt_or_ge j ext.length with hj | hj
        · obtain ⟨c, z, h5, h6, h7, h8⟩ := ext1 h1 hj
          rw [h8] at e
          have := s.inj c b' _ _ h7 k2 e
          exact k1 (this ▸ List.mem_of_getElem? h5)
        · have := new1 h1 hj
          have := ownlt k2
          omega
      · exfalso
        rw [σ' (lt1 _ _ k1), le.σ b (s.own b x.1 x.2 h2).1] at e
        rcases Nat.lt_or_ge j' ext.length with hj | hj
        · obtain ⟨c, z, h5, h6, h7, h8⟩ := ext1 k1 hj
          rw [h8] at e
          have := s.inj b c _ _ h2 h7 e
          exact h1 (this ▸ List.mem_of_getElem? h5)
        · have := new1 k1 hj
          have := ownlt h2
          omega
      · rw [le.σ b (s.own b x.1 x.2 h2).1, le.σ b' (s.own b' y.1 y.2 k2).1] at e
        exact s.inj b b' _ _ h2 k2 e
    · rw [List.map_append, renH_keys]
      refine List.nodup_append.2 ⟨?_, s.nd.sublist delA_sub, fun a ha b hb e => ?_⟩
      · exact nodup_map num_inj g2.nd
      · subst e
        obtain ⟨x, hx⟩ := hget_of_mem hb
        obtain ⟨h1, h2⟩ := rest hx
        obtain ⟨j, hj, rfl⟩ := List.mem_map.1 ha
        obtain ⟨y, hy⟩ := hget_of_mem hj
        rcases Nat.lt_or_ge j ext.length with hj | hj
        · obtain ⟨c, h5, h6, _⟩ := num_lt hj
          rw [h6] at h1
          exact h1 (List.mem_of_getElem? h5)
        · have := (s.own _ x.1 x.2 h2).1
          rw [num_ge hj] at this; omega
    · rcases g3.dnew c hc with h | (h | h) | h
      · exact s.dX c h hX
      · obtain ⟨b, x, h1, rfl⟩ := own0' h
        exact (s.own b x.1 x.2 h1).2.2.1 hX
      · exact h.elim
      · have := s.xlt c hX
        have h : Γ.h.next ≤ c := h
        omega
    · exact R.st _ _ _ _ _ s.res le.D le.val (fun c hc => xkeep hc) g3.next
  refine ⟨n, v, Γ', w, hp1, Γ1.nw, g1, hq, rfl, le, s', ⟨fun b hb => le.σ b hb, fun h => Nat.le_trans h le.nw, g3.next, fun c h1 h2 _ => keepD h1 fun h => h2 (own0' h), g3.dsub, fun c hc => ?_, fun b x hb h => ?_, fun b x hb h => ?_, fun _ h => .inl h, fun k h1 h2 h3 => ?_⟩, RV_via via g4, fun he hw => ?_⟩
  · rcases g3.dnew c hc with h | (h | h) | h
    · exact .inl h
    · exact .inr (.inl (.inl (own0' h)))
    · exact h.elim
    · exact .inr (.inr h)
  · rcases split' h with ⟨j, y, h1, rfl, h3⟩ | ⟨h1, h2⟩
    · rcases Nat.lt_or_ge j ext.length with hj | hj
      · obtain ⟨c, z, h5, h6, h7, h8⟩ := ext1 h1 hj
        exact ⟨z, by rw [h6]; exact h7⟩
      · rw [num_ge hj] at hb; omega
    · exact ⟨x, h2⟩
  · rcases split' h with ⟨j, y, h1, rfl, h3⟩ | ⟨h1, h2⟩
    · rcases Nat.lt_or_ge j ext.length with hj | hj
      · obtain ⟨c, h5, h6, h7⟩ := num_lt hj
        rw [h6] at hb; omega
      · left; rw [σ' (lt1 _ _ h1)]; exact new1 h1 hj
    · have := (s.own b x.1 x.2 h2).1
      omega
  · exact g3.wmin k h1 h2 fun c hc => by
      rcases hc with hc | hc
      · exact h3 c (.inl (own0' hc))
      · exact hc.elim
  · refine g3.wmin Γ.h.next (by show Γ.h.next ≤ Γ.h.wmin; omega) (Nat.le_refl _) fun c hc => ?_
    rcases hc with ⟨i, x, h1, _⟩ | hc
    · have := (own0 h1).1
      subst he
      simp at this
    · exact hc.elim
end
end Go.Proofs.YtmlemnbhjbaedaaGreatDoor

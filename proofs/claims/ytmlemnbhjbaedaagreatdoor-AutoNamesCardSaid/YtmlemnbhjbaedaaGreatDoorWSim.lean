/-
  Operations that only reckon, on values with what they hold: the plain machine does the same. Nothing here speaks of a program.
-/
import Derived.Test.YtmlemnbhjbaedaaGreatDoorWRel
namespace Go.Proofs.YtmlemnbhjbaedaaGreatDoor
open Go.RowKit
set_option linter.unusedSimpArgs false
set_option linter.unusedVariables false

section
variable {Γ : Ctx}
/-! ### elements -/
theorem sub_some {v : V} {off n e : Nat} (hv : v.isAgg = true) (h : off + n * e ≤ v.size) : ∃ us, subArr 50 v off n e = some us ∧ us.length = n ∧ flatE e us = ((flatV v).drop off).take (n * e) ∧ ∀ u ∈ us, u.size = e ∧ (u.leaf = true ∨ u.isAgg = true) := by
  have fl : ∃ us, flatSub v off n e = some us := by
    unfold flatSub
    rw [hv, Nat.ble_eq_true_of_le h]
    exact ⟨_, rfl⟩
  have fl' : ∀ {us}, flatSub v off n e = some us → us.length = n ∧ flatE e us = ((flatV v).drop off).take (n * e) ∧ ∀ u ∈ us, u.size = e ∧ (u.leaf = true ∨ u.isAgg = true) := fun {us} hu => by
    obtain ⟨h1, h2, h3, h4, _⟩ := flatSub_spec hu
    refine ⟨h1, h3.symm, fun u hm => ⟨h4 u hm, .inr ?_⟩⟩
    unfold flatSub at hu
    rw [hv, Nat.ble_eq_true_of_le h] at hu
    cases hu
    exact ((chop_flat n _ (fun x hx => flat_one v x (List.mem_of_mem_drop hx)) (by simp; omega)).2 u hm).2.1
  unfold subArr
  split
  · rename_i l hl
    split
    · rename_i hok
      refine ⟨l, rfl, ?_⟩
      obtain ⟨h1, h2, h3, _⟩ := subArrS_specF _ _ _ _ _ _ hl
      refine ⟨h1, h3.symm, fun u hu => ?_⟩
      unfold okE at hok
      have := (List.all_eq_true.1 hok) u hu
      simpa only [Bool.and_eq_true, Bool.or_eq_true, Nat.beq_eq] using this
    · obtain ⟨us, hu⟩ := fl
      exact ⟨us, hu, fl' hu⟩
  · obtain ⟨us, hu⟩ := fl
    exact ⟨us, hu, fl' hu⟩
/-- elements, one by one -/
structure Els (Γ : Ctx) (e : Nat) (ws : List W) (us : List V) : Prop where
  len : us.length = ws.length
  sz : ∀ x ∈ ws, x.size = e
  szv : ∀ u ∈ us, u.size = e ∧ (u.leaf = true ∨ u.isAgg = true)
  rs : RSL Γ ws (flatE e us)
theorem Els.nil (e : Nat) : Els Γ e [] [] := ⟨rfl, by simp, by simp, by simp [RSL, flatE]⟩
theorem Els.mono {Γ' : Ctx} (le : Γ.Le Γ') {e : Nat} {ws : List W} {us : List V} (h : Els Γ e ws us) : Els Γ' e ws us := ⟨h.len, h.sz, h.szv, RSL.mono le h.rs⟩
theorem Els.append {e : Nat} {a b : List W} {a' b' : List V} (h : Els Γ e a a') (k : Els Γ e b b') : Els Γ e (a ++ b) (a' ++ b') := by
  refine ⟨by simp [h.len, k.len], fun x hx => ?_, fun x hx => ?_, ?_⟩
  · rcases List.mem_append.1 hx with hx | hx
    · exact h.sz x hx
    · exact k.sz x hx
  · rcases List.mem_append.1 hx with hx | hx
    · exact h.szv x hx
    · exact k.szv x hx
  · rw [concE_appendF]; exact RSL_append h.rs k.rs
theorem Els.cons {e : Nat} {x : W} {l : List W} {us : List V} (h : Els Γ e (x :: l) us) : ∃ u us', us = u :: us' ∧ RS Γ x (flatV u) ∧ u.size = e ∧ (u.leaf = true ∨ u.isAgg = true) ∧ Els Γ e l us' := by
  cases us with
  | nil => have := h.len; simp at this
  | cons u us' =>
    have hu := h.szv u (List.mem_cons_self ..)
    have hr := h.rs
    obtain ⟨a, b, e1, h1, h2⟩ := RSL_uncons hr
    rw [flatE, fitV_self (by rw [flatV_length, hu.1])] at e1
    have la : a.length = e := by rw [RS_len h1]; exact h.sz x (List.mem_cons_self ..)
    obtain ⟨e2, e3⟩ := List.append_inj e1 (by rw [flatV_length, hu.1, la])
    rw [← e2] at h1
    rw [← e3] at h2
    exact ⟨u, us', rfl, h1, hu.1, hu.2, by have := h.len; simpa using this, fun y hy => h.sz y (List.mem_cons_of_mem _ hy), fun y hy => h.szv y (List.mem_cons_of_mem _ hy), h2⟩
/-- a block of elements -/
theorem Els.arr {e : Nat} {ws : List W} {us : List V} (h : Els Γ e ws us) : RV Γ (.arr (ws.length * e) e ws) (.arr (us.length * e) e us) := by
  refine ⟨rfl, ?_⟩
  have hl := RSL_len h.rs
  rw [sumW_eq h.sz] at hl
  simp only [RS, flatV]
  rw [h.len, fitV_self hl]
  exact ⟨hl, h.sz, h.rs⟩
theorem sim_sub {w : W} {v : V} {off n e : Nat} {ws : List W} (hr : RV Γ w v) (h : subArrW 50 w off n e = some ws) :
    ∃ us, subArr 50 v off n e = some us ∧ ws.length = n ∧ Els Γ e ws us := by
  obtain ⟨h1, h2, h3, h4, h5⟩ := subArrW_spec (Γ := Γ) 50 h hr.2
  obtain ⟨us, g1, g2, g3, g4⟩ := sub_some (v := v) (off := off) (n := n) (e := e) (by rw [← hr.1]; exact h5) (by rw [hr.size]; exact h2)
  exact ⟨us, g1, h1, by rw [g2, h1], h3, g4, by rw [g3]; exact h4⟩
/-- a slice of elements that stay -/
theorem sim_fz {l : List W} {e : Nat} {full : Bool} {v : V} (hr : RV Γ (.fz l e full) v) : (l = [] ∧ v = .nils) ∨ ∃ b base off lim bv us, v = .sl b base off l.length e lim ∧ (full = true → lim = some l.length) ∧ Γ.D b ∧ Γ.h.val b = some bv ∧
    bv.isAgg = true ∧ off + l.length * e ≤ bv.size ∧ (∀ x ∈ l, x.size = e) ∧ RSL Γ l (((flatV bv).drop off).take (l.length * e)) ∧ subArr 50 bv off l.length e = some us ∧ Els Γ e l us := by
  have h := hr.one rfl
  simp only [RS, List.cons.injEq, and_true] at h
  rcases h with h | ⟨b, base, off, lim, bv, h1, h2, h3, h4, h5, h6, h7, h8⟩
  · exact .inl h
  · obtain ⟨us, g1, g2, g3, g4⟩ := sub_some (e := e) h5 h6
    exact .inr ⟨b, base, off, lim, bv, us, h1, h2, h3, h4, h5, h6, h7, h8, g1, g2, h7, g4, by rw [g3]; exact h8⟩
theorem RSL_sub {l : List W} {e a n : Nat} {s : List V} (h : RSL Γ l s) (he : ∀ x ∈ l, x.size = e) (hn : a + n ≤ l.length) : RSL Γ ((l.drop a).take n) ((s.drop (a * e)).take (n * e)) := by
  have e1 : l = l.take a ++ ((l.drop a).take n ++ (l.drop a).drop n) := by rw [List.take_append_drop, List.take_append_drop]
  rw [e1] at h
  obtain ⟨p, t, rfl, g1, g2⟩ := RSL_split h
  obtain ⟨b, c, rfl, g3, g4⟩ := RSL_split g2
  have la : p.length = a * e := by
    rw [RSL_len g1, sumW_eq (e := e) fun z hz => he z (List.mem_of_mem_take hz), List.length_take, Nat.min_eq_left (by omega)]
  have lb : b.length = n * e := by
    rw [RSL_len g3, sumW_eq (e := e) fun z hz => he z (List.mem_of_mem_drop (List.mem_of_mem_take hz)), List.length_take, List.length_drop, Nat.min_eq_left (by omega)]
  rw [List.drop_left' la, List.take_left' lb]
  exact g3
theorem RV_fz {l : List W} {e : Nat} {full : Bool} {b base off : Nat} {lim : Option Nat} {bv : V} (h1 : full = true → lim = some l.length) (h2 : Γ.D b) (h3 : Γ.h.val b = some bv) (h4 : bv.isAgg = true) (h5 : off + l.length * e ≤ bv.size) (h6 : ∀ x ∈ l, x.size = e)
    (h7 : RSL Γ l (((flatV bv).drop off).take (l.length * e))) : RV Γ (.fz l e full) (.sl b base off l.length e lim) :=
  RV.of_one (by simp only [RS, List.cons.injEq, and_true]; exact .inr ⟨b, base, off, lim, bv, rfl, h1, h2, h3, h4, h5, h6, h7⟩) rfl rfl
/-- a pointer to what stays -/
theorem sim_fel {x : W} {v : V} (hr : RV Γ (.fel x) v) : ∃ b off bv, v = .ptr b off ∧ Γ.D b ∧ Γ.h.val b = some bv ∧ off + x.size ≤ bv.size ∧ (x.isAgg = true → bv.isAgg = true) ∧ (bv.leaf = true ∨ bv.isAgg = true) ∧ RS Γ x (((flatV bv).drop off).take x.size) := by
  have h := hr.one rfl
  simpa only [RS, List.cons.injEq, and_true] using h
theorem RV_fel {x : W} {b off : Nat} {bv : V} (h2 : Γ.D b) (h3 : Γ.h.val b = some bv) (h5 : off + x.size ≤ bv.size) (ha : x.isAgg = true → bv.isAgg = true) (hl : bv.leaf = true ∨ bv.isAgg = true) (h7 : RS Γ x (((flatV bv).drop off).take x.size)) : RV Γ (.fel x) (.ptr b off) :=
  RV.of_one (by simp only [RS, List.cons.injEq, and_true]; exact ⟨b, off, bv, rfl, h2, h3, h5, ha, hl, h7⟩) rfl rfl
/-- a part of what a pointer points to -/
theorem fel_part {x y : W} {b off o n : Nat} {ag : Bool} {bv : V} (h : getAtW 50 x o n ag = some y) (h2 : Γ.D b) (h3 : Γ.h.val b = some bv) (h5 : off + x.size ≤ bv.size) (ha : x.isAgg = true → bv.isAgg = true) (hl : bv.leaf = true ∨ bv.isAgg = true) (h7 : RS Γ x (((flatV bv).drop off).take x.size)) :
    RV Γ (.fel y) (.ptr b (off + o)) ∧ y.size = n := by
  obtain ⟨g1, g2, g3, g4, g5⟩ := getAtW_spec (Γ := Γ) 50 h h7
  refine ⟨RV_fel h2 h3 (by omega) (fun hy => ?_) hl ?_, g1⟩
  · cases hx : x.isAgg with
    | true => exact ha hx
    | false =>
      obtain ⟨_, _, _, _, rfl⟩ := getAtW_one (f := 49) hx h
      rw [hx] at hy; cases hy
  · rw [List.drop_take, List.drop_drop, List.take_take, Nat.min_eq_left (by omega)] at g3
    rw [g1]; exact g3
/-- what a pointer points to, taken -/
theorem fel_load {x y : W} {off n : Nat} {ag : Bool} {bv : V} (h : getAtW 50 x 0 n ag = some y) (h5 : off + x.size ≤ bv.size) (ha : x.isAgg = true → bv.isAgg = true) (hl : bv.leaf = true ∨ bv.isAgg = true) (h7 : RS Γ x (((flatV bv).drop off).take x.size)) :
    ∃ u, getAt 50 bv off n ag = some u ∧ RV Γ y u := by
  obtain ⟨g1, g2, g3, g4, g5⟩ := getAtW_spec (Γ := Γ) 50 h h7
  rw [List.drop_zero, List.take_take, Nat.min_eq_left (by omega)] at g3
  cases hb : bv.isAgg with
  | true =>
    obtain ⟨k1, k2⟩ := getAt_some (off := off) (n := n) hb (by omega)
    cases ag with
    | true =>
      obtain ⟨u, hu⟩ := k1
      obtain ⟨j1, j2, j3, j4⟩ := getAt_flat hu
      exact ⟨u, hu, by rw [g4]; exact j4.symm, by rw [j3]; exact g3⟩
    | false =>
      have hx1 : y.size = 1 := by have := g5 rfl; cases y <;> simp [W.leaf] at this <;> rfl
      have hlen := RS_len g3
      rw [hx1] at hlen
      obtain ⟨y0, hy0⟩ : ∃ y, ((flatV bv).drop off).take n = [y] := List.length_eq_one_iff.1 hlen
      have hl0 : y0.leaf = true := by rw [hy0] at g3; exact RS_leaf g3 (g5 rfl)
      obtain ⟨u, hu⟩ := k2 y0 hy0 hl0
      obtain ⟨j1, j2, j3, j4⟩ := getAt_flat hu
      exact ⟨u, hu, by rw [g4]; exact (V.leaf_agg j4).symm, by rw [j3]; exact g3⟩
  | false =>
    have hxa : x.isAgg = false := by
      cases hx : x.isAgg with
      | true => rw [ha hx] at hb; cases hb
      | false => rfl
    have hbl : bv.leaf = true := by rcases hl with h | h; exact h; rw [h] at hb; cases hb
    obtain ⟨_, rfl, rfl, hxl, rfl⟩ := getAtW_one (f := 49) hxa h
    have hbs : bv.size = 1 := by cases bv <;> simp [V.leaf] at hbl <;> rfl
    have hxs : y.size = 1 := g1
    have : off = 0 := by omega
    subst this
    refine ⟨bv, ?_, ?_⟩
    · unfold getAt
      have e := getAtS_leaf 49 hbl
      rw [hbs] at e
      rw [e]
    · refine RV.of_one ?_ hxa hb
      rw [hxs, List.drop_zero, flat_self hb] at h7
      exact h7

/-! ### values that name no block -/
mutual
theorem emb_sim : ∀ {v : V} {w : W}, embW v = some w → RV Γ w v
  | .undef, _, h => by simp [embW] at h
  | .bool b, _, h => by simp only [embW] at h; cases h; exact ⟨rfl, by simp [RS, flatV]⟩
  | .int k n, _, h => by simp only [embW] at h; cases h; exact ⟨rfl, by simp [RS, flatV]⟩
  | .str s, _, h => by simp only [embW] at h; cases h; exact ⟨rfl, by simp [RS, flatV]⟩
  | .nilp, _, h => by simp only [embW] at h; cases h; exact ⟨rfl, by simp [RS, flatV]⟩
  | .ptr _ _, _, h => by simp [embW] at h
  | .nils, _, h => by simp only [embW] at h; cases h; exact ⟨rfl, by simp [RS, flatV]⟩
  | .sl _ _ _ _ _ _, _, h => by simp [embW] at h
  | .nilm, _, h => by simp only [embW] at h; cases h; exact ⟨rfl, by simp [RS, flatV]⟩
  | .map _, _, h => by simp [embW] at h
  | .fn _ _ _, _, h => by simp [embW] at h
  | .yield _, _, h => by simp [embW] at h
  | .nilf, _, h => by simp only [embW] at h; cases h; exact ⟨rfl, by simp [RS, flatV]⟩
  | .iface _ _, _, h => by simp [embW] at h
  | .nili, _, h => by simp only [embW] at h; cases h; exact ⟨rfl, by simp [RS, flatV]⟩
  | .tup _, _, h => by simp [embW] at h
  | .agg n l, _, h => by
    simp only [embW] at h
    split at h
    · rename_i l' hl
      split at h
      · rename_i hn
        cases h
        have hn := Nat.eq_of_beq_eq_true hn
        have h1 := embC_sim hl
        have h2 := RSL_len h1
        refine ⟨rfl, ?_⟩
        simp only [RS, flatV]
        rw [fitV_self (by rw [h2, hn])]
        exact ⟨by rw [h2, hn], h1⟩
      · cases h
    · cases h
  | .arr n e l, _, h => by
    simp only [embW] at h
    split at h
    · rename_i l' hl
      split at h
      · rename_i hc
        cases h
        simp only [Bool.and_eq_true, List.all_eq_true, Nat.beq_eq] at hc
        obtain ⟨hn, he⟩ := hc
        have h1 := embE_sim hl he
        have h2 := RSL_len h1
        refine ⟨rfl, ?_⟩
        simp only [RS, flatV]
        rw [fitV_self (by rw [h2, hn])]
        exact ⟨by rw [h2, hn], he, h1⟩
      · cases h
    · cases h
theorem embC_sim : ∀ {l : List V} {l' : List W}, embL l = some l' → RSL Γ l' (flatC l)
  | [], _, h => by simp only [embL] at h; cases h; simp [RSL, flatC]
  | v :: l, _, h => by
    simp only [embL] at h
    split at h
    · rename_i w r hv hl
      cases h
      exact RSL_cons (emb_sim hv).2 (embC_sim hl)
    · cases h
theorem embE_sim {e : Nat} : ∀ {l : List V} {l' : List W}, embL l = some l' → (∀ x ∈ l', x.size = e) → RSL Γ l' (flatE e l)
  | [], _, h, _ => by simp only [embL] at h; cases h; simp [RSL, flatE]
  | v :: l, _, h, he => by
    simp only [embL] at h
    split at h
    · rename_i w r hv hl
      cases h
      have h1 := emb_sim (v := v) hv
      rw [flatE, fitV_self (by rw [flatV_length, h1.size]; exact he w (List.mem_cons_self ..))]
      exact RSL_cons h1.2 (embE_sim hl fun x hx => he x (List.mem_cons_of_mem _ hx))
    · cases h
end

/-! ### equality -/
theorem RV_bool {b : Bool} {v : V} : RV Γ (.bool b) v ↔ v = .bool b := ⟨fun h => by have := h.one rfl; simpa [RS] using this, fun h => by subst h; exact ⟨rfl, by simp [RS, flatV]⟩⟩
theorem RV_int {k : IntKind} {n : Int} {v : V} : RV Γ (.int k n) v ↔ v = .int k n := ⟨fun h => by have := h.one rfl; simpa [RS] using this, fun h => by subst h; exact ⟨rfl, by simp [RS, flatV]⟩⟩
theorem RV_str {s : List UInt8} {v : V} : RV Γ (.str s) v ↔ v = .str s := ⟨fun h => by have := h.one rfl; simpa [RS] using this, fun h => by subst h; exact ⟨rfl, by simp [RS, flatV]⟩⟩
theorem RV_nilp {v : V} : RV Γ .nilp v ↔ v = .nilp := ⟨fun h => by have := h.one rfl; simpa [RS] using this, fun h => by subst h; exact ⟨rfl, by simp [RS, flatV]⟩⟩
theorem RV_nils {v : V} : RV Γ .nils v ↔ v = .nils := ⟨fun h => by have := h.one rfl; simpa [RS] using this, fun h => by subst h; exact ⟨rfl, by simp [RS, flatV]⟩⟩
theorem RV_undef {v : V} : RV Γ .undef v ↔ v = .undef := ⟨fun h => by have := h.one rfl; simpa [RS] using this, fun h => by subst h; exact ⟨rfl, by simp [RS, flatV]⟩⟩
theorem RV_yield {l : Nat} {v : V} : RV Γ (.yield l) v ↔ v = .yield l := ⟨fun h => by have := h.one rfl; simpa [RS] using this, fun h => by subst h; exact ⟨rfl, by simp [RS, flatV]⟩⟩
theorem RV_ptr {b o : Nat} {v : V} : RV Γ (.ptr b o) v ↔ b < Γ.nw ∧ v = .ptr (Γ.σ b) o := ⟨fun h => by have := h.one rfl; simpa [RS] using this, fun h => by obtain ⟨h1, rfl⟩ := h; exact ⟨rfl, by simp [RS, flatV, h1]⟩⟩
theorem RV_sl {b base off len esz : Nat} {lim : Option Nat} {v : V} : RV Γ (.sl b base off len esz lim) v ↔ b < Γ.nw ∧ v = .sl (Γ.σ b) base off len esz lim := ⟨fun h => by have := h.one rfl; simpa [RS] using this, fun h => by obtain ⟨h1, rfl⟩ := h; exact ⟨rfl, by simp [RS, flatV, h1]⟩⟩
theorem RV_tup {l : List W} {v : V} : RV Γ (.tup l) v ↔ ∃ vs, v = .tup vs ∧ RVL Γ l vs := ⟨fun h => by have := h.one rfl; simpa [RS] using this, fun h => by obtain ⟨vs, rfl, h2⟩ := h; exact ⟨rfl, by simp [RS, flatV]; exact h2⟩⟩
theorem RV_fn {f : FuncId} {a c : List W} {v : V} : RV Γ (.fn f a c) v ↔ ∃ a' c', v = .fn f a' c' ∧ RVL Γ a a' ∧ RVL Γ c c' := ⟨fun h => by have := h.one rfl; simpa [RS] using this, fun h => by obtain ⟨a', c', rfl, h2⟩ := h; exact ⟨rfl, by simp [RS, flatV]; exact ⟨a', c', ⟨rfl, rfl⟩, h2⟩⟩⟩
variable {C : Cfg}
mutual
theorem eq_sim : ∀ (f : Nat) {t : TypeId} {x y : W} {x' y' : V} {r : Bool}, eqW C f t x y = some r → RV Γ x x' → RV Γ y y' → eqV C f t x' y' = some r
  | 0, _, _, _, _, _, _, h, _, _ => by simp [eqW] at h
  | f + 1, t, x, y, x', y', r, h, hx, hy => by
    simp only [eqW] at h
    simp only [eqV]
    split at h
    · cases h
    · rename_i i hi
      rw [hi]
      simp only
      split at h
      · rename_i k hk
        rw [hk]
        split at h
        · rename_i j a k b
          rw [RV_int] at hx hy
          subst hx; subst hy
          exact h
        · cases h
      · rename_i hk
        rw [hk]
        split at h
        · rw [RV_bool] at hx hy
          subst hx; subst hy
          exact h
        · cases h
      · rename_i hk
        rw [hk]
        split at h
        · rw [RV_str] at hx hy
          subst hx; subst hy
          exact h
        · cases h
      · rename_i hk
        rw [hk]
        split at h
        · rw [RV_nilp] at hx hy
          subst hx; subst hy
          exact h
        · rw [RV_nilp] at hx
          rw [RV_ptr] at hy
          obtain ⟨_, rfl⟩ := hy
          subst hx
          exact h
        · rw [RV_nilp] at hy
          rw [RV_ptr] at hx
          obtain ⟨_, rfl⟩ := hx
          subst hy
          exact h
        · rw [RV_nilp] at hx
          obtain ⟨_, _, _, rfl, _⟩ := sim_fel hy
          subst hx
          exact h
        · rw [RV_nilp] at hy
          obtain ⟨_, _, _, rfl, _⟩ := sim_fel hx
          subst hy
          exact h
        · cases h
      · rename_i hk
        rw [hk]
        split at h
        · rw [RV_nils] at hx hy
          subst hx; subst hy
          exact h
        · rw [RV_nils] at hx
          rw [RV_sl] at hy
          obtain ⟨_, rfl⟩ := hy
          subst hx
          exact h
        · rw [RV_nils] at hy
          rw [RV_sl] at hx
          obtain ⟨_, rfl⟩ := hx
          subst hy
          exact h
        · rw [RV_nils] at hx
          rcases sim_fz hy with ⟨h0, _⟩ | ⟨_, _, _, _, _, _, rfl, _⟩
          · cases h0
          subst hx
          exact h
        · rw [RV_nils] at hy
          rcases sim_fz hx with ⟨h0, _⟩ | ⟨_, _, _, _, _, _, rfl, _⟩
          · cases h0
          subst hy
          exact h
        · cases h
      · rename_i fs hk
        rw [hk]
        simp only
        rw [← hx.1, ← hy.1]
        split at h
        · rename_i ha
          rw [ha]
          exact eqFs_sim f h hx hy
        · cases h
      · rename_i n e hk
        rw [hk]
        simp only
        rw [← hx.1, ← hy.1]
        split at h
        · rename_i j ha hj
          rw [ha, hj]
          exact eqEs_sim f h hx hy
        · cases h
      · cases h
theorem eqFs_sim : ∀ (f : Nat) {fs : List (TypeId × Nat)} {x y : W} {x' y' : V} {r : Bool}, eqFsW C f fs x y = some r → RV Γ x x' → RV Γ y y' → eqFs C f fs x' y' = some r
  | 0, _, _, _, _, _, _, h, _, _ => by simp [eqFsW] at h
  | f + 1, [], _, _, _, _, _, h, _, _ => by simp only [eqFsW] at h; simp only [eqFs]; exact h
  | f + 1, (t, off) :: fs, x, y, x', y', r, h, hx, hy => by
    simp only [eqFsW] at h
    simp only [eqFs]
    split at h
    · cases h
    · rename_i i hi
      rw [hi]
      simp only
      split at h
      · rename_i a b ha hb
        obtain ⟨a', ha', hra, _⟩ := sim_get hx ha
        obtain ⟨b', hb', hrb, _⟩ := sim_get hy hb
        rw [ha', hb']
        simp only
        split at h
        · rename_i he
          rw [eq_sim f he hra hrb]
          exact eqFs_sim f h hx hy
        · rename_i he
          rw [eq_sim f he hra hrb]
          exact h
        · cases h
      · cases h
theorem eqEs_sim : ∀ (f : Nat) {e : TypeId} {j : TyI} {n k : Nat} {x y : W} {x' y' : V} {r : Bool}, eqEsW C f e j n k x y = some r → RV Γ x x' → RV Γ y y' → eqEs C f e j n k x' y' = some r
  | 0, _, _, _, _, _, _, _, _, _, h, _, _ => by simp [eqEsW] at h
  | f + 1, _, _, 0, _, _, _, _, _, _, h, _, _ => by simp only [eqEsW] at h; simp only [eqEs]; exact h
  | f + 1, e, j, n + 1, k, x, y, x', y', r, h, hx, hy => by
    simp only [eqEsW] at h
    simp only [eqEs]
    split at h
    · rename_i a b ha hb
      obtain ⟨a', ha', hra, _⟩ := sim_get hx ha
      obtain ⟨b', hb', hrb, _⟩ := sim_get hy hb
      rw [ha', hb']
      simp only
      split at h
      · rename_i he
        rw [eq_sim f he hra hrb]
        exact eqEs_sim f h hx hy
      · rename_i he
        rw [eq_sim f he hra hrb]
        exact h
      · cases h
    · cases h
end
theorem unV_sim {v : V} {w : W} (h : unV v = some w) : RV Γ w v := by
  unfold unV at h
  split at h <;> cases h
  · exact RV_bool.2 rfl
  · exact RV_int.2 rfl
  · exact RV_str.2 rfl
theorem bindV {o : Option V} {w : W} (h : o.bind unV = some w) : ∃ v, o = some v ∧ RV Γ w v := by
  cases o with
  | none => cases h
  | some v => exact ⟨v, rfl, unV_sim h⟩
theorem plain_sim {x y : W} {x' y' : V} (h : plainEqW x y = true) (hx : RV Γ x x') (hy : RV Γ y y') : plainEq x' y' = true := by
  unfold plainEqW at h
  split at h
  · rw [RV_bool] at hx hy; subst hx; subst hy; rfl
  · rw [RV_nilp] at hx hy; subst hx; subst hy; rfl
  · rw [RV_nilp] at hx; rw [RV_ptr] at hy; obtain ⟨_, rfl⟩ := hy; subst hx; rfl
  · rw [RV_nilp] at hy; rw [RV_ptr] at hx; obtain ⟨_, rfl⟩ := hx; subst hy; rfl
  · rw [RV_nilp] at hx; obtain ⟨_, _, _, rfl, _⟩ := sim_fel hy; subst hx; rfl
  · rw [RV_nilp] at hy; obtain ⟨_, _, _, rfl, _⟩ := sim_fel hx; subst hy; rfl
  · rw [RV_nils] at hx hy; subst hx; subst hy; rfl
  · rw [RV_nils] at hx; rw [RV_sl] at hy; obtain ⟨_, rfl⟩ := hy; subst hx; rfl
  · rw [RV_nils] at hy; rw [RV_sl] at hx; obtain ⟨_, rfl⟩ := hx; subst hy; rfl
  · rw [RV_nils] at hx
    subst hx
    rcases sim_fz hy with ⟨_, rfl⟩ | ⟨_, _, _, _, _, _, rfl, _⟩ <;> rfl
  · rw [RV_nils] at hy
    subst hy
    rcases sim_fz hx with ⟨_, rfl⟩ | ⟨_, _, _, _, _, _, rfl, _⟩ <;> rfl
  · rw [hx.1, hy.1] at h
    simp only [Bool.and_eq_true] at h
    obtain ⟨h1, h2⟩ := h
    cases x' <;> simp [V.isAgg] at h1 <;> cases y' <;> simp [V.isAgg] at h2 <;> rfl
theorem binV_plain {op : BinOp} {t : TypeId} {x' y' : V} (h : plainEq x' y' = true) : binV C op t x' y' = match op with
      | .eql => match eqV C 300 t x' y' with
        | some b => some (.bool b)
        | none => none
      | .neq => match eqV C 300 t x' y' with
        | some b => some (.bool (!b))
        | none => none
      | _ => none := by
  cases x' <;> cases y' <;> first | (simp [plainEq, V.isAgg] at h; done) | (simp only [binV, h]; cases op <;> rfl)
theorem bin_sim {op : BinOp} {t : TypeId} {x y w : W} {x' y' : V} (h : binW C op t x y = some w) (hx : RV Γ x x') (hy : RV Γ y y') : ∃ v, binV C op t x' y' = some v ∧ RV Γ w v := by
  unfold binW at h
  split at h
  · rw [RV_int] at hx hy
    subst hx; subst hy
    simp only [binV]
    split at h
    · exact bindV h
    · exact bindV h
    · split at h
      · rename_i hk
        obtain ⟨v, h1, h2⟩ := bindV h
        refine ⟨v, ?_, h2⟩
        split
        · simp_all
        · simp_all
        · rw [hk]; exact h1
      · cases h
  · rw [RV_str] at hx hy
    subst hx; subst hy
    exact bindV h
  · split at h
    · cases h
    · rename_i hp
      rw [binV_plain (plain_sim hp hx hy)]
      split at h
      · split at h
        · rename_i he
          cases h
          rw [eq_sim 300 he hx hy]
          exact ⟨_, rfl, RV_bool.2 rfl⟩
        · cases h
      · split at h
        · rename_i he
          cases h
          rw [eq_sim 300 he hx hy]
          exact ⟨_, rfl, RV_bool.2 rfl⟩
        · cases h
      · cases h

/-! ### frames -/
noncomputable def FRel (Γ : Ctx) (fr : FrW) (frv : Tr V) : Prop := ∀ t w, getW fr t = some w → ∃ v, frv.get t = some v ∧ RV Γ w v
noncomputable def GRel (C : Cfg) (G : Nat → Option W) (Γ : Ctx) : Prop := ∀ g w, C.glob g = true → G g = some w → ∀ nw σ, RV ⟨nw, σ, Γ.D, Γ.h⟩ (.fel w) (.ptr g 0)
variable {G : Nat → Option W} {fr : FrW} {frv : Tr V}
theorem ev_sim (hf : FRel Γ fr frv) (hg : GRel C G Γ) {x : Operand} {w : W} (h : evW C G fr x = some w) : ∃ v, evV C frv x = some v ∧ RV Γ w v := by
  cases x with
  | tmp t => exact hf t w h
  | const c =>
    simp only [evW, ofVW] at h
    split at h
    · rename_i v hv
      exact ⟨v, hv, emb_sim h⟩
    · cases h
  | global g =>
    simp only [evW] at h
    split at h
    · rename_i w' h1 h2
      cases h
      exact ⟨_, by simp only [evV, h1], hg g _ h1 h2 Γ.nw Γ.σ⟩
    · cases h
  | func f =>
    simp only [evW] at h
    cases h
    exact ⟨_, rfl, RV_fn.2 ⟨[], [], rfl, by simp [RVL], by simp [RVL]⟩⟩
theorem evL_sim (hf : FRel Γ fr frv) (hg : GRel C G Γ) : ∀ {l : List Operand} {ws : List W}, evLW C G fr l = some ws → ∃ vs, evL C frv l = some vs ∧ RVL Γ ws vs
  | [], _, h => by simp only [evLW] at h; cases h; exact ⟨[], rfl, by simp [RVL]⟩
  | x :: l, _, h => by
    simp only [evLW] at h
    split at h
    · rename_i v r hv hr
      cases h
      obtain ⟨u, h1, h2⟩ := ev_sim hf hg hv
      obtain ⟨us, h3, h4⟩ := evL_sim hf hg hr
      refine ⟨u :: us, by simp only [evL, h1, h3], ?_⟩
      simp only [RVL]
      exact ⟨u, us, rfl, h2, h4⟩
    · cases h
theorem nat_sim {x : W} {v : V} {n : Nat} (hx : RV Γ x v) (h : natW x = some n) : natI v = some n := by
  unfold natW at h
  split at h
  · cases h
    rw [RV_int] at hx
    subst hx; rfl
  · cases h
theorem bnd_sim (hf : FRel Γ fr frv) (hg : GRel C G Γ) {d n : Nat} : ∀ {x : Option Operand}, bndW C G fr d x = some n → bndI C frv d x = some n
  | none, h => h
  | some x, h => by
    simp only [bndW] at h
    split at h
    · rename_i w hw
      obtain ⟨v, h1, h2⟩ := ev_sim hf hg hw
      simp only [bndI, h1]
      exact nat_sim h2 h
    · cases h
theorem fill_sim (hf : FRel Γ fr frv) (hg : GRel C G Γ) {t : TypeId} : ∀ {l : List (Nat × Operand)} {z w : W} {zv : V}, RV Γ z zv → fillW C G fr t z l = some w → ∃ v, fillV C frv t zv l = some v ∧ RV Γ w v
  | [], _, _, zv, hz, h => by simp only [fillW] at h; cases h; exact ⟨zv, rfl, hz⟩
  | (i, x) :: l, z, w, zv, hz, h => by
    simp only [fillW] at h
    split at h
    · rename_i off sz y hp hy
      obtain ⟨y', h1, h2⟩ := ev_sim hf hg hy
      split at h
      · rename_i hs
        split at h
        · rename_i z' hz'
          obtain ⟨v', h3, h4, _⟩ := sim_put hz h2 hz'
          obtain ⟨v, h5, h6⟩ := fill_sim hf hg h4 h
          refine ⟨v, ?_, h6⟩
          simp only [fillV, hp, h1, h2.size, hs, h3]
          exact h5
        · cases h
      · cases h
    · cases h
end
end Go.Proofs.YtmlemnbhjbaedaaGreatDoor

/-
  Reckoning on values with what they hold: the plain machine does the same. Nothing here speaks of a program.
-/
import Derived.Test.YtmlemnbhjbaedaaGreatDoorWSim
namespace Go.Proofs.YtmlemnbhjbaedaaGreatDoor
open Go.RowKit
set_option linter.unusedSimpArgs false
set_option linter.unusedVariables false

section
variable {Γ : Ctx} {C : Cfg} {G : Nat → Option W} {fr : FrW} {frv : Tr V} (hf : FRel Γ fr frv) (hg : GRel C G Γ)
theorem RVL_at : ∀ {l : List W} {vs : List V} {i : Nat} {w : W}, RVL Γ l vs → l[i]? = some w → ∃ v, vs[i]? = some v ∧ RV Γ w v
  | [], _, _, _, _, h => by simp at h
  | x :: l, _, 0, _, hl, h => by
    simp only [RVL] at hl
    obtain ⟨v, vs, rfl, h1, h2⟩ := hl
    simp at h; subst h
    exact ⟨v, rfl, h1⟩
  | x :: l, _, i + 1, _, hl, h => by
    simp only [RVL] at hl
    obtain ⟨v, vs, rfl, h1, h2⟩ := hl
    simp at h
    obtain ⟨u, h3, h4⟩ := RVL_at h2 h
    exact ⟨u, by simpa using h3, h4⟩
theorem cutF_sim {xs : List W} {esz : Nat} {full : Bool} {l h : Nat} {w : W} {b base off : Nat} {lim : Option Nat} {bv : V} (hc : cutF xs esz full l h none = some w) (h1 : full = true → lim = some xs.length) (h2 : Γ.D b) (h3 : Γ.h.val b = some bv) (h4 : bv.isAgg = true) (h5 : off + xs.length * esz ≤ bv.size) (h6 : ∀ x ∈ xs, x.size = esz)
    (h7 : RSL Γ xs (((flatV bv).drop off).take (xs.length * esz))) : ∃ v, cutV b base off xs.length esz lim l h none = some v ∧ RV Γ w v := by
  simp only [cutF] at hc
  simp only [cutV]
  split at hc
  · rename_i hle
    rw [hle]
    simp only [Bool.and_eq_true] at hle
    have l1 := Nat.le_of_ble_eq_true hle.1
    have l2 := Nat.le_of_ble_eq_true hle.2
    cases hc
    refine ⟨_, rfl, ?_⟩
    have hl : ((xs.drop l).take (h - l)).length = h - l := by simp; omega
    have hb : l * esz + (h - l) * esz ≤ xs.length * esz := by
      rw [← Nat.add_mul]; exact Nat.mul_le_mul_right _ (by omega)
    have := RSL_sub (a := l) (n := h - l) h7 h6 (by omega)
    rw [List.drop_take, List.drop_drop, List.take_take, Nat.min_eq_left (by omega)] at this
    have := RV_fz (full := full && Nat.beq h xs.length) (base := (match Nat.beq l 0 with | true => base | false => off)) (lim := limCut l lim) (off := off + l * esz) (fun hfull => ?_) h2 h3 h4 (by rw [hl]; omega) (fun x hx => h6 x (List.mem_of_mem_drop (List.mem_of_mem_take hx))) (by rw [hl]; exact this)
    · rw [hl] at this
      exact this
    · simp only [Bool.and_eq_true, Nat.beq_eq] at hfull
      rw [h1 hfull.1, hl]
      simp only [limCut, ← hfull.2]
  · cases hc
theorem cutF3_sim {xs : List W} {esz : Nat} {full : Bool} {l h m : Nat} {w : W} {b base off : Nat} {lim : Option Nat} {bv : V} (hc : cutF xs esz full l h (some m) = some w) (h2 : Γ.D b) (h3 : Γ.h.val b = some bv) (h4 : bv.isAgg = true) (h5 : off + xs.length * esz ≤ bv.size) (h6 : ∀ x ∈ xs, x.size = esz)
    (h7 : RSL Γ xs (((flatV bv).drop off).take (xs.length * esz))) : ∃ v, cutV b base off xs.length esz lim l h (some m) = some v ∧ RV Γ w v := by
  simp only [cutF] at hc
  simp only [cutV]
  split at hc
  · rename_i hle
    rw [hle]
    simp only [Bool.and_eq_true] at hle
    have l1 := Nat.le_of_ble_eq_true hle.1.1.1
    have l2 := Nat.le_of_ble_eq_true hle.1.1.2
    have l3 := Nat.le_of_ble_eq_true hle.1.2
    cases hc
    refine ⟨_, rfl, ?_⟩
    have hl : ((xs.drop l).take (h - l)).length = h - l := by simp; omega
    have hb : l * esz + (h - l) * esz ≤ xs.length * esz := by
      rw [← Nat.add_mul]; exact Nat.mul_le_mul_right _ (by omega)
    have := RSL_sub (a := l) (n := h - l) h7 h6 (by omega)
    rw [List.drop_take, List.drop_drop, List.take_take, Nat.min_eq_left (by omega)] at this
    have := RV_fz (full := Nat.beq h m) (base := off) (lim := some (m - l)) (off := off + l * esz) (fun hfull => ?_) h2 h3 h4 (by rw [hl]; omega) (fun x hx => h6 x (List.mem_of_mem_drop (List.mem_of_mem_take hx))) (by rw [hl]; exact this)
    · rw [hl] at this
      exact this
    · simp only [Nat.beq_eq] at hfull
      rw [hl, hfull]
  · cases hc
theorem cutW_sim {b base off len esz : Nat} {lim : Option Nat} {l h : Nat} {mx : Option Nat} {w : W} (hb : b < Γ.nw) (hc : cutW b base off len esz lim l h mx = some w) : ∃ v, cutV (Γ.σ b) base off len esz lim l h mx = some v ∧ RV Γ w v := by
  cases mx with
  | none =>
    simp only [cutW] at hc
    simp only [cutV]
    split at hc
    · rename_i hle
      rw [hle]
      cases hc
      exact ⟨_, rfl, RV_sl.2 ⟨hb, rfl⟩⟩
    · cases hc
  | some m =>
    simp only [cutW] at hc
    simp only [cutV]
    split at hc
    · rename_i hle
      rw [hle]
      cases hc
      exact ⟨_, rfl, RV_sl.2 ⟨hb, rfl⟩⟩
    · cases hc
include hf hg
theorem wSlice_sim {t : TypeId} {x : Operand} {lo hi mx : Option Operand} {w : W} (h : wSlice C G fr t x lo hi mx = some w) : ∃ v, pvSlice C frv t x lo hi mx = some v ∧ RV Γ w v := by
  unfold wSlice at h
  unfold pvSlice
  split at h
  · rename_i j u hj hu
    obtain ⟨v, h1, h2⟩ := ev_sim hf hg hu
    rw [hj, h1]
    simp only
    split at h
    · rename_i e b base off len esz lim hd
      rw [hd]
      rw [RV_sl] at h2
      obtain ⟨hb, rfl⟩ := h2
      simp only
      split at h
      · rename_i k l r hk hl hr
        rw [hk, bnd_sim hf hg hl, bnd_sim hf hg hr]
        simp only
        split at h
        · rename_i hs
          rw [hs]
          simp only
          split at h
          · exact cutW_sim hb h
          · rename_i z
            split at h
            · rename_i y m hm
              simp only [bnd_sim hf hg hm]
              exact cutW_sim hb h
            · cases h
        · cases h
      · cases h
    · rename_i e xs esz full hd
      rw [hd]
      rcases sim_fz h2 with ⟨rfl, rfl⟩ | ⟨b, base, off, lim, bv, us, rfl, g1, g2, g3, g4, g5, g6, g7, _⟩
      · simp only
        split at h
        · rename_i k l r hk hl hr
          rw [hk, bnd_sim hf hg hl]
          rw [List.length_nil] at hr
          rw [bnd_sim hf hg hr]
          split at h
          · split at h
            · simp only [cutF, List.length_nil] at h
              split at h
              · rename_i hle
                simp only [Bool.and_eq_true] at hle
                have l1 := Nat.le_of_ble_eq_true hle.1
                have l2 := Nat.le_of_ble_eq_true hle.2
                obtain rfl : r = 0 := by omega
                obtain rfl : l = 0 := by omega
                cases h
                exact ⟨_, rfl, RV.of_one (by simp [RS]) rfl rfl⟩
              · cases h
            · split at h
              · simp only [cutF, List.length_nil] at h
                split at h
                · rename_i hle
                  simp only [Bool.and_eq_true] at hle
                  have l1 := Nat.le_of_ble_eq_true hle.1.2
                  have l2 := Nat.le_of_ble_eq_true hle.2
                  omega
                · cases h
              · cases h
          · cases h
        · cases h
      · simp only
        split at h
        · rename_i k l r hk hl hr
          rw [hk, bnd_sim hf hg hl, bnd_sim hf hg hr]
          simp only
          split at h
          · rename_i hs
            rw [hs]
            simp only
            split at h
            · exact cutF_sim h g1 g2 g3 g4 g5 g6 g7
            · rename_i z
              split at h
              · rename_i y m hm
                simp only [bnd_sim hf hg hm]
                exact cutF3_sim h g2 g3 g4 g5 g6 g7
              · cases h
          · cases h
        · cases h
    · rename_i e hd
      rw [hd]
      rw [RV_nils] at h2
      subst h2
      simp only
      split at h
      · rename_i k hk hl hr
        cases h
        rw [hk, bnd_sim hf hg hl, bnd_sim hf hg hr]
        exact ⟨_, rfl, RV_nils.2 rfl⟩
      · cases h
    · rename_i s hd
      rw [hd]
      rw [RV_str] at h2
      subst h2
      simp only
      split at h
      · rename_i l r hl hr
        rw [bnd_sim hf hg hl, bnd_sim hf hg hr]
        simp only
        split at h
        · rename_i hle
          rw [hle]
          cases h
          exact ⟨_, rfl, RV_str.2 rfl⟩
        · cases h
      · cases h
    · cases h
  · cases h
theorem wIndexaddr_sim {t : TypeId} {x y : Operand} {w : W} (h : wIndexaddr C G fr t x y = some w) : ∃ v, pvIndexaddr C frv t x y = some v ∧ RV Γ w v := by
  unfold wIndexaddr at h
  unfold pvIndexaddr
  split at h
  · rename_i j u k hj hu hk
    obtain ⟨u', h1, h2⟩ := ev_sim hf hg hu
    obtain ⟨k', h3, h4⟩ := ev_sim hf hg hk
    rw [hj, h1, h3]
    simp only
    split at h
    · rename_i i n e b off hi hd
      rw [nat_sim h4 hi, hd]
      rw [RV_ptr] at h2
      obtain ⟨hb, rfl⟩ := h2
      simp only
      split at h
      · rename_i k0 hk0 hlt
        cases h
        rw [hk0, hlt]
        exact ⟨_, rfl, RV_ptr.2 ⟨hb, rfl⟩⟩
      · cases h
    · rename_i i n e z hi hd
      rw [nat_sim h4 hi, hd]
      obtain ⟨b, off, bv, rfl, g1, g2, g3, g4, g5, g6⟩ := sim_fel h2
      simp only
      split at h
      · rename_i k0 hk0 hlt
        rw [hk0, hlt]
        split at h
        · cases h
        · split at h
          · rename_i r hr
            cases h
            exact ⟨_, rfl, (fel_part hr g1 g2 g3 g4 g5 g6).1⟩
          · cases h
      · cases h
    · rename_i i e b base off len esz lim hi hd
      rw [nat_sim h4 hi, hd]
      rw [RV_sl] at h2
      obtain ⟨hb, rfl⟩ := h2
      simp only
      split at h
      · rename_i k0 hk0 hlt
        split at h
        · rename_i hs
          cases h
          rw [hk0, hlt]
          simp only [hs]
          exact ⟨_, rfl, RV_ptr.2 ⟨hb, rfl⟩⟩
        · cases h
      · cases h
    · rename_i i e l esz full hi hd
      rw [nat_sim h4 hi, hd]
      split at h
      · rename_i k0 r hk0 hr
        split at h
        · rename_i hs
          cases h
          rcases sim_fz h2 with ⟨rfl, _⟩ | ⟨b, base, off, lim, bv, us, rfl, g1, g2, g3, g4, g5, g6, g7, _⟩
          · simp at hr
          · have hlt : i < l.length := (List.getElem?_eq_some_iff.1 hr).1
            have hble : Nat.blt i l.length = true := by simpa [Nat.blt_eq] using hlt
            simp only
            rw [hk0, hble]
            simp only [hs]
            refine ⟨_, rfl, ?_⟩
            obtain ⟨k1, k2⟩ := RSL_at g7 g6 hr
            have hrs := g6 r (List.mem_of_getElem? hr)
            rw [List.length_take] at k2
            have hb : i * esz + esz ≤ l.length * esz := by
              have := Nat.mul_le_mul_right esz (show i + 1 ≤ l.length from hlt)
              rw [Nat.add_mul] at this; omega
            refine RV_fel g2 g3 (by omega) (fun _ => g4) (.inr g4) ?_
            rw [hrs]
            rw [List.drop_take, List.drop_drop, List.take_take, Nat.min_eq_left (by omega)] at k1
            exact k1
        · cases h
      · cases h
    · cases h
  · cases h
theorem wFieldaddr_sim {t : TypeId} {x : Operand} {i : Nat} {w : W} (h : wFieldaddr C G fr t x i = some w) : ∃ v, pvFieldaddr C frv t x i = some v ∧ RV Γ w v := by
  unfold wFieldaddr at h
  unfold pvFieldaddr
  split at h
  · rename_i ft fo b off hs hx
    obtain ⟨u, h1, h2⟩ := ev_sim hf hg hx
    rw [RV_ptr] at h2
    obtain ⟨hb, rfl⟩ := h2
    rw [hs, h1]
    simp only
    split at h
    · rename_i k hk
      rw [hk]
      simp only
      split at h
      · cases h
      · rename_i hz
        cases h
        rw [hz]
        exact ⟨_, rfl, RV_ptr.2 ⟨hb, rfl⟩⟩
    · cases h
  · rename_i ft fo y hs hx
    obtain ⟨u, h1, h2⟩ := ev_sim hf hg hx
    obtain ⟨b, off, bv, rfl, g1, g2, g3, g4, g5, g6⟩ := sim_fel h2
    rw [hs, h1]
    simp only
    split at h
    · rename_i k hk
      rw [hk]
      simp only
      split at h
      · cases h
      · rename_i hz
        rw [hz]
        split at h
        · rename_i z hz
          cases h
          exact ⟨_, rfl, (fel_part hz g1 g2 g3 g4 g5 g6).1⟩
        · cases h
    · cases h
  · cases h
theorem wIndex_sim {t : TypeId} {x y : Operand} {w : W} (h : wIndex C G fr t x y = some w) : ∃ v, pvIndex C frv t x y = some v ∧ RV Γ w v := by
  unfold wIndex at h
  unfold pvIndex
  split at h
  · rename_i j u k hj hu hk
    obtain ⟨u', h1, h2⟩ := ev_sim hf hg hu
    obtain ⟨k', h3, h4⟩ := ev_sim hf hg hk
    rw [hj, h1, h3]
    simp only
    split at h
    · rename_i i s hi hd
      rw [RV_str] at h2
      subst h2
      rw [nat_sim h4 hi, hd]
      simp only
      split at h
      · rename_i c hc
        cases h
        rw [hc]
        exact ⟨_, rfl, RV_int.2 rfl⟩
      · cases h
    · rename_i i n e hi hd
      rw [nat_sim h4 hi, hd]
      simp only
      split at h
      · rename_i k0 hk0 hlt ha
        rw [hk0, hlt, ← h2.1, ha]
        obtain ⟨v, g1, g2, _⟩ := sim_get h2 h
        exact ⟨v, g1, g2⟩
      · cases h
    · cases h
  · cases h
theorem wField_sim {t : TypeId} {x : Operand} {i : Nat} {w : W} (h : wField C G fr t x i = some w) : ∃ v, pvField C frv t x i = some v ∧ RV Γ w v := by
  unfold wField at h
  unfold pvField
  split at h
  · rename_i ft off u hs hx
    obtain ⟨u', h1, h2⟩ := ev_sim hf hg hx
    rw [hs, h1]
    simp only
    split at h
    · rename_i k hk ha
      rw [hk, ← h2.1, ha]
      obtain ⟨v, g1, g2, _⟩ := sim_get h2 h
      exact ⟨v, g1, g2⟩
    · cases h
  · cases h
theorem pure_sim {rt : TypeId} {o : Op} {w : W} (h : pureW C G fr o = some w) : ∃ v, pureV C frv rt o = some v ∧ RV Γ w v := by
  unfold pureW at h
  split at h
  · exact ev_sim hf hg h
  · exact ev_sim hf hg h
  · unfold wPick at h
    simp only [pureV, pvPick]
    split at h
    · rename_i hc
      obtain ⟨u, h1, h2⟩ := ev_sim hf hg hc
      rw [RV_bool] at h2; subst h2
      rw [h1]
      exact ev_sim hf hg h
    · rename_i hc
      obtain ⟨u, h1, h2⟩ := ev_sim hf hg hc
      rw [RV_bool] at h2; subst h2
      rw [h1]
      exact ev_sim hf hg h
    · cases h
  · unfold wExtract at h
    simp only [pureV, pvExtract]
    split at h
    · rename_i hc
      obtain ⟨u, h1, h2⟩ := ev_sim hf hg hc
      rw [RV_tup] at h2
      obtain ⟨vs, rfl, h2⟩ := h2
      rw [h1]
      exact RVL_at h2 h
    · cases h
  · unfold wNil at h
    simp only [pureV, pvNilcheck]
    split at h
    · rename_i hc
      cases h
      obtain ⟨u, h1, h2⟩ := ev_sim hf hg hc
      obtain ⟨_, rfl⟩ := RV_ptr.1 h2
      rw [h1]; exact ⟨_, rfl, h2⟩
    · rename_i hc
      cases h
      obtain ⟨u, h1, h2⟩ := ev_sim hf hg hc
      obtain ⟨_, rfl⟩ := RV_sl.1 h2
      rw [h1]; exact ⟨_, rfl, h2⟩
    · rename_i hc
      cases h
      obtain ⟨u, h1, h2⟩ := ev_sim hf hg hc
      obtain ⟨_, _, _, rfl, _⟩ := sim_fel h2
      rw [h1]; exact ⟨_, rfl, h2⟩
    · rename_i hc
      cases h
      obtain ⟨u, h1, h2⟩ := ev_sim hf hg hc
      rcases sim_fz h2 with ⟨h0, _⟩ | ⟨_, _, _, _, _, _, rfl, _⟩
      · cases h0
      rw [h1]; exact ⟨_, rfl, h2⟩
    · rename_i hc
      cases h
      obtain ⟨u, h1, h2⟩ := ev_sim hf hg hc
      obtain ⟨_, _, rfl, _⟩ := RV_fn.1 h2
      rw [h1]; exact ⟨_, rfl, h2⟩
    · rename_i hc
      cases h
      obtain ⟨u, h1, h2⟩ := ev_sim hf hg hc
      have := RV_yield.1 h2
      subst this
      rw [h1]; exact ⟨_, rfl, h2⟩
    · cases h
  · unfold wNot at h
    simp only [pureV, pvUnopNot]
    split at h
    · rename_i hc
      cases h
      obtain ⟨u, h1, h2⟩ := ev_sim hf hg hc
      rw [RV_bool] at h2; subst h2
      rw [h1]; exact ⟨_, rfl, RV_bool.2 rfl⟩
    · cases h
  · unfold wNeg at h
    simp only [pureV, pvUnopNeg]
    split at h
    · rename_i hc
      cases h
      obtain ⟨u, h1, h2⟩ := ev_sim hf hg hc
      rw [RV_int] at h2; subst h2
      rw [h1]; exact ⟨_, rfl, RV_int.2 rfl⟩
    · cases h
  · unfold wXor at h
    simp only [pureV, pvUnopXor]
    split at h
    · rename_i hc
      obtain ⟨u, h1, h2⟩ := ev_sim hf hg hc
      rw [RV_int] at h2; subst h2
      rw [h1]
      split at h
      · rename_i hn
        cases h
        simp only [hn]
        exact ⟨_, rfl, RV_int.2 rfl⟩
      · cases h
    · cases h
  · unfold wBin at h
    simp only [pureV, pvBinop]
    split at h
    · rename_i hx hy
      obtain ⟨u, h1, h2⟩ := ev_sim hf hg hx
      obtain ⟨u', h3, h4⟩ := ev_sim hf hg hy
      obtain ⟨r, q1, q2⟩ := bin_sim h h2 h4
      exact ⟨r, by simp only [h1, h3, q1], q2⟩
    · cases h
  · unfold wConv at h
    simp only [pureV, pvConvert]
    split at h
    · rename_i i j u hi hj hx
      obtain ⟨u', h1, h2⟩ := ev_sim hf hg hx
      rw [hi, hj, h1]
      simp only
      split at h
      · rename_i hd
        cases h
        rw [RV_int] at h2; subst h2
        rw [hd]; exact ⟨_, rfl, RV_int.2 rfl⟩
      · rename_i hd
        cases h
        rw [RV_str] at h2; subst h2
        rw [hd]; exact ⟨_, rfl, RV_str.2 rfl⟩
      · cases h
    · cases h
  · unfold wMake at h
    simp only [pureV, pvMakefunc]
    split at h
    · rename_i hx hy
      obtain ⟨us, h1, h2⟩ := evL_sim hf hg hx
      obtain ⟨us', h3, h4⟩ := evL_sim hf hg hy
      cases h
      rw [h1, h3]
      exact ⟨_, rfl, RV_fn.2 ⟨_, _, rfl, h2, h4⟩⟩
    · cases h
  · unfold wBuild at h
    simp only [pureV, pvBuild]
    split at h
    · rename_i j hj
      rw [hj]
      simp only
      split at h
      · rename_i z ha hz
        rw [ha]
        exact fill_sim hf hg (emb_sim hz) h
      · cases h
    · cases h
  · exact wField_sim hf hg h
  · exact wFieldaddr_sim hf hg h
  · exact wIndexaddr_sim hf hg h
  · exact wIndex_sim hf hg h
  · exact wSlice_sim hf hg h
  · unfold wMkI at h
    simp only [pureV, pvMakeinterface]
    split at h
    · rename_i j u hj hx
      obtain ⟨u', h1, h2⟩ := ev_sim hf hg hx
      rw [hj, h1]
      simp only
      split at h
      · cases h
      · rename_i hd
        cases h
        refine ⟨.iface _ u', ?_, RV.of_one (by simp only [RS]; exact ⟨u', rfl, h2.1, h2.2⟩) rfl rfl⟩
        split
        · rename_i hd'; exact absurd hd' hd
        · rfl
    · cases h
  · unfold wLen at h
    simp only [pureV, pvLen]
    split at h
    · rename_i t x ht hxs
      rw [ht, hxs]
      simp only
      split at h
      · rename_i j u hj hx
        obtain ⟨u', h1, h2⟩ := ev_sim hf hg hx
        rw [hj, h1]
        simp only
        split at h
        · rename_i hd
          cases h
          rw [RV_str] at h2; subst h2
          rw [hd]; exact ⟨_, rfl, RV_int.2 rfl⟩
        · rename_i hd
          cases h
          obtain ⟨_, rfl⟩ := RV_sl.1 h2
          rw [hd]; exact ⟨_, rfl, RV_int.2 rfl⟩
        · rename_i hd
          cases h
          rw [hd]
          rcases sim_fz h2 with ⟨rfl, rfl⟩ | ⟨_, _, _, _, _, _, rfl, _⟩
          · exact ⟨_, rfl, RV_int.2 rfl⟩
          · exact ⟨_, rfl, RV_int.2 rfl⟩
        · rename_i hd
          cases h
          rw [RV_nils] at h2; subst h2
          rw [hd]; exact ⟨_, rfl, RV_int.2 rfl⟩
        · rename_i hd
          cases h
          rw [hd]; exact ⟨_, rfl, RV_int.2 rfl⟩
        · cases h
      · cases h
    · cases h
  · unfold wMin at h
    simp only [pureV, pvMin]
    split at h
    · rename_i x y hxs
      rw [hxs]
      simp only
      split at h
      · rename_i hx hy
        obtain ⟨u, h1, h2⟩ := ev_sim hf hg hx
        obtain ⟨u', h3, h4⟩ := ev_sim hf hg hy
        rw [RV_int] at h2 h4; subst h2; subst h4
        rw [h1, h3]
        cases h
        exact ⟨_, rfl, RV_int.2 rfl⟩
      · cases h
    · cases h
  · unfold wMax at h
    simp only [pureV, pvMax]
    split at h
    · rename_i x y hxs
      rw [hxs]
      simp only
      split at h
      · rename_i hx hy
        obtain ⟨u, h1, h2⟩ := ev_sim hf hg hx
        obtain ⟨u', h3, h4⟩ := ev_sim hf hg hy
        rw [RV_int] at h2 h4; subst h2; subst h4
        rw [h1, h3]
        cases h
        exact ⟨_, rfl, RV_int.2 rfl⟩
      · cases h
    · cases h
  · cases h
end
end Go.Proofs.YtmlemnbhjbaedaaGreatDoor

/-
  Parts of a value, by its cells one behind the other. Nothing here speaks of a program.
-/
import Derived.Test.YtmlemnbhjbaedaaGreatDoorWDef
namespace Go.Proofs.YtmlemnbhjbaedaaGreatDoor
open Go.RowKit
set_option linter.unusedSimpArgs false
set_option linter.unusedVariables false

theorem take_drop_fitF {n : Nat} {a b c : List V} (h : a.length + b.length ≤ n) : ((fitV n (a ++ (b ++ c))).drop a.length).take b.length = b := by
  simp only [fitV]
  rw [List.drop_take, List.take_take, List.append_assoc, List.drop_left, List.append_assoc]
  rw [show min b.length (n - a.length) = b.length by omega, List.take_left]
theorem fit_spliceF {n : Nat} {a b b' c : List V} (h : a.length + b.length ≤ n) (hb : b'.length = b.length) :
    fitV n (a ++ (b' ++ c)) = (fitV n (a ++ (b ++ c))).take a.length ++ b' ++ (fitV n (a ++ (b ++ c))).drop (a.length + b.length) := by
  simp only [fitV]
  apply List.ext_getElem?
  intro i
  simp only [List.append_assoc, List.getElem?_append, List.getElem?_take, List.getElem?_drop, List.length_take, List.length_append, List.length_replicate, hb]
  have e1 : min a.length (min n (a.length + (b.length + (c.length + n)))) = a.length := by omega
  rw [e1]
  by_cases h1 : i < a.length
  · simp only [h1, if_true, show i < n from by omega]
  · by_cases h2 : i < a.length + b.length
    · simp only [h1, if_false, show i < n from by omega, if_true, show i - a.length < b.length from by omega]
    · have e2 : a.length + b.length + (i - a.length - b.length) = i := by omega
      simp only [h1, if_false, show ¬ i - a.length < b.length from by omega, e2]

theorem findI_specF : ∀ (l : List V) (off : Nat) (x : V) (o : Nat), findI l off = some (x, o) →
    ∃ a c, flatC l = a ++ (flatV x ++ c) ∧ a.length + o = off ∧ o < x.size
  | [], off, x, o, h => by simp [findI_nil] at h
  | v :: l, off, x, o, h => by
    simp only [findI_cons] at h
    split at h
    · rename_i hlt
      simp only [Option.some.injEq, Prod.mk.injEq] at h
      obtain ⟨rfl, rfl⟩ := h
      exact ⟨[], flatC l, by simp [flatC], by simp, hlt⟩
    · obtain ⟨a, c, h1, h2, h3⟩ := findI_specF l _ x o h
      exact ⟨flatV v ++ a, c, by simp [flatC, h1], by simp; omega, h3⟩
theorem take_drop_take_dropF {l : List V} {a b c d : Nat} (h : c + d ≤ b) : (((l.drop a).take b).drop c).take d = (l.drop (a + c)).take d := by
  rw [List.drop_take, List.take_take, List.drop_drop, show min d (b - c) = d by omega]
theorem concE_atF {e : Nat} : ∀ (l : List V) (i : Nat) (x : V), l[i]? = some x → ∃ a c, flatE e l = a ++ (fitV e (flatV x) ++ c) ∧ a.length = i * e
  | [], i, x, h => by simp at h
  | v :: l, 0, x, h => by simp at h; subst h; exact ⟨[], flatE e l, by simp [flatE], by simp⟩
  | v :: l, i + 1, x, h => by
    simp at h
    obtain ⟨a, c, h1, h2⟩ := concE_atF (e := e) l i x h
    exact ⟨fitV e (flatV v) ++ a, c, by simp [flatE, h1], by simp [h2, Nat.add_mul]; omega⟩

/-- a part's cells -/
theorem getAtS_specF : ∀ (f : Nat) (v : V) (off n : Nat) (ag : Bool) (x : V), getAtS f v off n ag = some x →
    x.size = n ∧ off + n ≤ v.size ∧ ((flatV v).drop off).take n = flatV x ∧ (if ag then x.isAgg = true else x.leaf = true)
  | 0, v, off, n, ag, x, h => by simp [getAtS_zero] at h
  | f + 1, v, off, n, ag, x, h => by
    simp only [getAtS_succ] at h
    split at h
    · rename_i hc
      simp only [Bool.and_eq_true, beq_iff_eq] at hc
      obtain ⟨⟨rfl, rfl⟩, rfl⟩ := hc
      split at h
      · rename_i hl
        simp only [Option.some.injEq] at h
        subst h
        refine ⟨rfl, by omega, by rw [List.drop_zero, List.take_of_length_le (by simp)], ?_⟩
        split
        · assumption
        · rename_i ha; simpa [ha] using hl
      · cases h
    · split at h
      · rename_i m l hne
        split at h
        · rename_i y o hf
          split at h
          · rename_i hle
            obtain ⟨a, c, h1, h2, h3⟩ := findI_specF _ _ _ _ hf
            obtain ⟨g1, g2, g3, g4⟩ := getAtS_specF f y o n ag x h
            have hle := Nat.le_of_ble_eq_true hle
            refine ⟨g1, by simp [V.size]; omega, ?_, g4⟩
            have ha : a.length = off - o := by omega
            have key := take_drop_fitF (n := m) (a := a) (b := flatV y) (c := c) (by simp; omega)
            rw [← h1] at key
            simp only [flatV]
            rw [← g3, ← key, take_drop_take_dropF (by simp; omega), h2]
          · cases h
        · cases h
      · rename_i m e l hne
        split at h
        · rename_i y hy
          split at h
          · rename_i hc
            simp only [Bool.and_eq_true, beq_iff_eq] at hc
            have hle := Nat.le_of_ble_eq_true hc.2
            obtain ⟨a, c, h1, h2⟩ := concE_atF (e := e) _ _ _ hy
            obtain ⟨g1, g2, g3, g4⟩ := getAtS_specF f y (off % e) n ag x h
            have hdm := Nat.div_add_mod off e
            rw [Nat.mul_comm] at hdm
            refine ⟨g1, by simp [V.size]; omega, ?_, g4⟩
            have hfy : fitV e (flatV y) = flatV y := fitV_self (by simp [hc.1])
            rw [hfy] at h1
            have key := take_drop_fitF (n := m) (a := a) (b := flatV y) (c := c) (by simp; omega)
            rw [← h1] at key
            simp only [flatV]
            rw [← g3, ← key, take_drop_take_dropF (by simp; omega), h2, hdm]
          · cases h
        · cases h
      · cases h

/-- a row written over -/
noncomputable def splF (c : List V) (off : Nat) (vs : List V) : List V := c.take off ++ vs ++ c.drop (off + vs.length)
theorem putIx_specF {g : V → Nat → Option V} : ∀ (l : List V) (off : Nat) (l' : List V) (o s : Nat), putIx g l off = some (l', o, s) →
    ∃ a y y' c, flatC l = a ++ (flatV y ++ c) ∧ flatC l' = a ++ (flatV y' ++ c) ∧ g y o = some y' ∧ a.length + o = off ∧ s = y.size ∧ o < s
  | [], off, l', o, s, h => by simp [putIx_nil] at h
  | v :: l, off, l', o, s, h => by
    simp only [putIx_cons] at h
    split at h
    · rename_i hlt
      split at h
      · rename_i v' hv
        simp only [Option.some.injEq, Prod.mk.injEq] at h
        obtain ⟨rfl, rfl, rfl⟩ := h
        exact ⟨[], v, v', flatC l, by simp [flatC], by simp [flatC], hv, by simp, rfl, hlt⟩
      · cases h
    · split at h
      · rename_i l1 o1 s1 h1
        simp only [Option.some.injEq, Prod.mk.injEq] at h
        obtain ⟨rfl, rfl, rfl⟩ := h
        obtain ⟨a, y, y', c, g1, g2, g3, g4, g5, g6⟩ := putIx_specF l _ _ _ _ h1
        exact ⟨flatV v ++ a, y, y', c, by simp [flatC, g1], by simp [flatC, g2], g3, by simp; omega, g5, g6⟩
      · cases h
theorem spl_lengthF {c vs : List V} {off : Nat} (h : off + vs.length ≤ c.length) : (splF c off vs).length = c.length := by simp [splF]; omega
theorem spl_splF {b vs a' c' : List V} {o : Nat} (h : o + vs.length ≤ b.length) :
    a' ++ splF b o vs ++ c' = splF (a' ++ b ++ c') (a'.length + o) vs := by
  have h1 : (a' ++ b ++ c').take (a'.length + o) = a' ++ b.take o := by
    rw [List.append_assoc, List.take_length_add_append, List.take_append_of_le_length (by omega)]
  have h2 : (a' ++ b ++ c').drop (a'.length + o + vs.length) = b.drop (o + vs.length) ++ c' := by
    rw [List.append_assoc, Nat.add_assoc, List.drop_length_add_append, List.drop_append_of_le_length (by omega)]
  unfold splF
  rw [h1, h2]
  simp only [List.append_assoc]
theorem fit_splF {n o : Nat} {a b b' c vs : List V} (h : a.length + b.length ≤ n) (hb : b' = splF b o vs) (ho : o + vs.length ≤ b.length) :
    fitV n (a ++ (b' ++ c)) = splF (fitV n (a ++ (b ++ c))) (a.length + o) vs := by
  have hl : b'.length = b.length := by rw [hb, spl_lengthF ho]
  rw [fit_spliceF h hl, hb, spl_splF ho]
  congr 1
  have k := take_drop_fitF (n := n) (a := a) (b := b) (c := c) h
  have e : ∀ (L : List V) (p q : Nat), L.take p ++ (L.drop p).take q ++ L.drop (p + q) = L := fun L p q => by
    rw [List.append_assoc, show L.drop (p + q) = (L.drop p).drop q by rw [List.drop_drop], List.take_append_drop, List.take_append_drop]
  have := e (fitV n (a ++ (b ++ c))) a.length b.length
  rw [k] at this
  rw [this]
  simp only [List.length_take, fitV_length, show min a.length n = a.length by omega]
theorem concE_setF {e : Nat} : ∀ (l : List V) (i : Nat) (x y : V), l[i]? = some x → ∃ a c, flatE e l = a ++ (fitV e (flatV x) ++ c) ∧ flatE e (l.set i y) = a ++ (fitV e (flatV y) ++ c) ∧ a.length = i * e
  | [], i, x, y, h => by simp at h
  | v :: l, 0, x, y, h => by simp at h; subst h; exact ⟨[], flatE e l, by simp [flatE], by simp [flatE], by simp⟩
  | v :: l, i + 1, x, y, h => by
    simp at h
    obtain ⟨a, c, h1, h2, h3⟩ := concE_setF (e := e) l i x y h
    exact ⟨fitV e (flatV v) ++ a, c, by simp [flatE, h1], by simp [flatE, h2], by simp [h3, Nat.add_mul]; omega⟩
/-- a part written over -/
theorem putAtS_specF : ∀ (f : Nat) (v : V) (off : Nat) (x v' : V), putAtS f v off x = some v' →
    v'.size = v.size ∧ off + x.size ≤ v.size ∧ flatV v' = splF (flatV v) off (flatV x) ∧ v'.isAgg = v.isAgg ∧ v'.leaf = v.leaf ∧ (x.leaf = true ∨ x.isAgg = true)
  | 0, v, off, x, v', h => by simp [putAtS_zero] at h
  | f + 1, v, off, x, v', h => by
    simp only [putAtS_succ] at h
    split at h
    · rename_i hc
      simp only [Bool.and_eq_true, beq_iff_eq] at hc
      obtain ⟨⟨rfl, hs⟩, ha⟩ := hc
      split at h
      · rename_i hl
        simp only [Option.some.injEq] at h
        subst h
        simp only [Bool.or_eq_true, Bool.and_eq_true] at hl
        refine ⟨hs, by omega, by simp [splF, hs], ha, ?_, ?_⟩
        · rcases hl with h | h
          · rw [h] at ha
            have e1 : ∀ y : V, y.isAgg = true → y.leaf = false := fun y hy => by cases y <;> simp [V.isAgg] at hy <;> rfl
            rw [e1 _ h, e1 _ ha.symm]
          · rw [h.1, h.2]
        · rcases hl with h | h
          · exact .inr h
          · exact .inl h.2
      · cases h
    · split at h
      · rename_i m l hne
        split at h
        · rename_i l' o s hp
          split at h
          · rename_i hle
            simp only [Option.some.injEq] at h
            subst h
            have hle := Nat.le_of_ble_eq_true hle
            obtain ⟨a, y, y', c, g1, g2, g3, g4, g5, g6⟩ := putIx_specF _ _ _ _ _ hp
            obtain ⟨k1, k2, k3, k4, k5, k6⟩ := putAtS_specF f y o x y' g3
            refine ⟨rfl, by show off + x.size ≤ m; omega, ?_, rfl, rfl, k6⟩
            simp only [flatV]
            rw [g2, g1, fit_splF (o := o) (vs := flatV x) (by simp; omega) k3 (by simp; omega), g4]
          · cases h
        · cases h
      · rename_i m e l hne
        split at h
        · rename_i y hy
          split at h
          · rename_i hc
            simp only [Bool.and_eq_true, beq_iff_eq] at hc
            have hle := Nat.le_of_ble_eq_true hc.2
            split at h
            · rename_i y' hy'
              simp only [Option.some.injEq] at h
              subst h
              obtain ⟨k1, k2, k3, k4, k5, k6⟩ := putAtS_specF f y (off % e) x y' hy'
              obtain ⟨a, c, h1, h2, h3⟩ := concE_setF (e := e) l (off / e) y y' hy
              have hdm := Nat.div_add_mod off e
              rw [Nat.mul_comm] at hdm
              refine ⟨rfl, by show off + x.size ≤ m; omega, ?_, rfl, rfl, k6⟩
              rw [fitV_self (by simp [hc.1])] at h1
              rw [fitV_self (by simp [k1, hc.1])] at h2
              simp only [flatV]
              rw [h2, h1, fit_splF (o := off % e) (vs := flatV x) (by simp; omega) k3 (by simp; omega), h3, hdm]
            · cases h
          · cases h
        · cases h
      · cases h
end Go.Proofs.YtmlemnbhjbaedaaGreatDoor

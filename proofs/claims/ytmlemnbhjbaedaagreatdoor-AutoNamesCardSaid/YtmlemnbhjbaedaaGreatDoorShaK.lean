/-
  SHA-256 of the program: known by what it does, so that a run need not go through it.
-/
import Derived.Test.YtmlemnbhjbaedaaGreatDoorShaF
import Derived.Test.YtmlemnbhjbaedaaGreatDoorWKn
namespace Go.Proofs.YtmlemnbhjbaedaaGreatDoor
open Go.RowKit
set_option linter.unusedSimpArgs false
set_option linter.unusedVariables false
noncomputable def u8V (n : Nat) : V := .int .u8 (.ofNat n)
noncomputable def u32V (n : Nat) : V := .int .u32 (.ofNat n)
/-! ### what it reads -/
noncomputable def cellsK (h : Heap) (b off n : Nat) : Option (List V) := match Nat.blt b h.next, h.val b with
  | true, some bv => match bv.isAgg && ltB h.next bv && Nat.ble (off + n) bv.size with
    | true => some (((flatV bv).drop off).take n)
    | false => none
  | _, _ => none
theorem cellsK_spec {h : Heap} {b off n : Nat} {s : List V} (hs : cellsK h b off n = some s) : b < h.next ∧ SeenK h b ∧ s.length = n ∧ ∃ bv, h.val b = some bv ∧ bv.isAgg = true ∧ off + n ≤ bv.size ∧ s = ((flatV bv).drop off).take n := by
  unfold cellsK at hs
  split at hs
  · rename_i bv hb hv
    split at hs
    · rename_i hc
      cases hs
      simp only [Bool.and_eq_true] at hc
      have h1 : b < h.next := by simpa using hb
      have h2 : off + n ≤ bv.size := Nat.le_of_ble_eq_true hc.2
      refine ⟨h1, ⟨h1, bv, hv, hc.1.2⟩, ?_, bv, hv, hc.1.1, h2, rfl⟩
      rw [List.length_take, List.length_drop, flatV_length]; omega
    · cases hs
  · cases hs
noncomputable def u8s : List V → Option (List Nat)
  | [] => some []
  | .int .u8 (.ofNat n) :: l => match Nat.blt n 256, u8s l with
    | true, some ns => some (n :: ns)
    | _, _ => none
  | _ => none
theorem u8s_spec : ∀ {s : List V} {l : List Nat}, u8s s = some l → s = l.map u8V ∧ small l
  | [], _, h => by cases h; exact ⟨rfl, fun b hb => by cases hb⟩
  | v :: s, l, h => by
    unfold u8s at h
    split at h
    · rename_i he; cases he
    · rename_i n l' he
      cases he
      split at h
      · rename_i ns h1 hn
        cases h
        obtain ⟨e, k⟩ := u8s_spec hn
        refine ⟨by rw [e]; rfl, fun b hb => ?_⟩
        rcases List.mem_cons.1 hb with rfl | hb
        · simpa using h1
        · exact k b hb
      · cases h
    · cases h
theorem RSL_bN (Γ : Ctx) : ∀ l : List Nat, RSL Γ (bN l) (l.map u8V)
  | [] => rfl
  | n :: l => RSL_cons (a := [u8V n]) (b := l.map u8V) (x := .int .u8 (.ofNat n)) rfl (RSL_bN Γ l)
theorem size_bN (l : List Nat) : ∀ x ∈ bN l, x.size = 1 := fun x hx => by
  obtain ⟨n, _, rfl⟩ := List.mem_map.1 hx; rfl
noncomputable def partK (h : Heap) : V → Option (List Nat)
  | .nils => some []
  | .sl b _ off len 1 _ => match cellsK h b off len with
    | some s => u8s s
    | none => none
  | _ => none
theorem partK_spec {h : Heap} {v : V} {l : List Nat} (hk : partK h v = some l) : RS ⟨0, fun i => i, SeenK h, h⟩ (partW (l, false)) [v] ∧ small l := by
  unfold partK at hk
  split at hk
  · cases hk; exact ⟨.inl ⟨rfl, rfl⟩, fun b hb => by cases hb⟩
  · rename_i b base off len lim
    split at hk
    · rename_i s hs
      obtain ⟨_, h2, h3, bv, h4, h5, h6, h7⟩ := cellsK_spec hs
      obtain ⟨e, ks⟩ := u8s_spec hk
      refine ⟨?_, ks⟩
      have hl : (bN l).length = len := by
        rw [bN_len, ← h3, e, List.length_map]
      refine .inr ⟨b, base, off, lim, bv, by rw [hl], fun h => (by cases h), h2, h4, h5, by rw [hl, Nat.mul_one]; exact h6, size_bN l, ?_⟩
      rw [hl, Nat.mul_one, ← h7, e]
      exact RSL_bN _ l
    · cases hk
  · cases hk
noncomputable def partsK (h : Heap) : List V → Option (List (List Nat))
  | [] => some []
  | v :: s => match partK h v with
    | some l => match partsK h s with
      | some ls => some (l :: ls)
      | none => none
    | none => none
noncomputable def withF (ps : List (List Nat)) : List (List Nat × Bool) := ps.map fun l => (l, false)
theorem partsK_spec {h : Heap} : ∀ {s : List V} {ps : List (List Nat)}, partsK h s = some ps → s.length = ps.length ∧ RSL ⟨0, fun i => i, SeenK h, h⟩ ((withF ps).map partW) s ∧ ∀ p ∈ ps, small p
  | [], _, hk => by cases hk; exact ⟨rfl, rfl, fun p hp => by cases hp⟩
  | v :: s, ps, hk => by
    unfold partsK at hk
    split at hk
    · rename_i l hl
      split at hk
      · rename_i ls hls
        cases hk
        obtain ⟨h1, h2, h3⟩ := partsK_spec hls
        exact ⟨congrArg (· + 1) h1, RSL_cons (a := [v]) (b := s) (partK_spec hl).1 h2, fun p hp => by
          rcases List.mem_cons.1 hp with rfl | hp
          · exact (partK_spec hl).2
          · exact h3 p hp⟩
      · cases hk
    · cases hk
noncomputable def argK (h : Heap) : V → Option (List (List Nat))
  | .nils => some []
  | .sl b _ off len 1 _ => match cellsK h b off len with
    | some s => partsK h s
    | none => none
  | _ => none
theorem size_parts (ps : List (List Nat × Bool)) : ∀ x ∈ ps.map partW, x.size = 1 := fun x hx => by
  obtain ⟨n, _, rfl⟩ := List.mem_map.1 hx; rfl
theorem argK_spec {h : Heap} {v : V} {ps : List (List Nat)} (hk : argK h v = some ps) : RV ⟨0, fun i => i, SeenK h, h⟩ (.fz ((withF ps).map partW) 1 false) v ∧ ltB h.next v = true ∧ ∀ p ∈ ps, small p := by
  unfold argK at hk
  split at hk
  · cases hk; exact ⟨⟨rfl, .inl ⟨rfl, rfl⟩⟩, rfl, fun p hp => by cases hp⟩
  · rename_i b base off len lim
    split at hk
    · rename_i s hs
      obtain ⟨h1, h2, h3, bv, h4, h5, h6, h7⟩ := cellsK_spec hs
      obtain ⟨g1, g2, g3⟩ := partsK_spec hk
      have hl : ((withF ps).map partW).length = len := by
        rw [List.length_map, withF, List.length_map, ← g1, h3]
      refine ⟨⟨rfl, .inr ⟨b, base, off, lim, bv, by rw [hl]; rfl, fun h => (by cases h), h2, h4, h5, by rw [hl, Nat.mul_one]; exact h6, size_parts _, ?_⟩⟩, by simpa [ltB] using h1, g3⟩
      rw [hl, Nat.mul_one, ← h7]
      exact g2
    · cases hk
  · cases hk
/-! ### the table -/
noncomputable def eqK : List V → List Nat → Bool
  | [], [] => true
  | .int .u32 (.ofNat n) :: l, m :: ms => match Nat.beq n m with
    | true => eqK l ms
    | false => false
  | _, _ => false
theorem eqK_spec : ∀ {l : List V} {ms : List Nat}, eqK l ms = true → l = ms.map u32V
  | [], [], _ => rfl
  | [], _ :: _, h => by simp [eqK] at h
  | v :: l, ms, h => by
    unfold eqK at h
    split at h
    · simp_all
    · rename_i n l' m ms' e
      cases e
      split at h
      · rename_i hb
        obtain rfl := Nat.eq_of_beq_eq_true hb
        rw [eqK_spec h]; rfl
      · cases h
    · cases h
noncomputable def globK (h : Heap) : Bool := match h.get 1 with
  | some (.ro (.arr 64 1 l)) => eqK l kW
  | _ => false
theorem RSL_wd (Γ : Ctx) : ∀ l : List Nat, RSL Γ (l.map wd) (l.map u32V)
  | [] => rfl
  | n :: l => RSL_cons (a := [u32V n]) (b := l.map u32V) (x := wd n) rfl (RSL_wd Γ l)
theorem globK_spec {h : Heap} (hn : Nat.ble 3 h.next = true) (hk : globK h = true) : GRel cfg glK ⟨0, fun i => i, SeenK h, h⟩ := by
  intro g w _ h2 nw σ
  have hn := Nat.le_of_ble_eq_true hn
  unfold glK at h2
  split at h2
  · cases h2
    unfold globK at hk
    split at hk
    · rename_i l hg
      obtain rfl := eqK_spec hk
      have hv : h.val 1 = some (.arr 64 1 (kW.map u32V)) := by simp only [Heap.val, hg]
      refine RV.of_one ⟨1, 0, _, rfl, ⟨by omega, _, hv, by rfl⟩, hv, by exact Nat.le_refl _, fun _ => rfl, .inr rfl, ?_⟩ rfl rfl
      have e : ((flatV (.arr 64 1 (kW.map u32V))).drop 0).take 64 = kW.map u32V := by kernel_rfl
      show RS _ _ (((flatV (.arr 64 1 (kW.map u32V))).drop 0).take 64)
      rw [e]
      exact ⟨rfl, fun x hx => by obtain ⟨n, _, rfl⟩ := List.mem_map.1 hx; rfl, RSL_wd _ kW⟩
    · cases hk
  · cases h2
/-! ### what it answers -/
theorem bare_u8 : ∀ l : List Nat, bareL (l.map u8V) = true
  | [] => rfl
  | n :: l => by simp only [List.map_cons, bareL, u8V, bare, Bool.true_and]; exact bare_u8 l
theorem plain_bN : ∀ l : List Nat, plainL (bN l) = true
  | [] => rfl
  | n :: l => by simp only [bN, List.map_cons, plainL, plainB, Bool.true_and]; exact plain_bN l
theorem flat_u8 : ∀ l : List Nat, flatE 1 (l.map u8V) = l.map u8V
  | [] => rfl
  | n :: l => by
    simp only [List.map_cons, flatE, flat_u8 l]; rfl
theorem shaN_len (ps : List (List Nat)) : (shaN ps).length = 32 := by simp [shaN, digN]
noncomputable def ofK : List V → Heap → Option (V × Heap)
  | [x], h => match Nat.ble 3 h.next && globK h, argK h x with
    | true, some ps => match Nat.blt (total ps) 2147483648 && Nat.blt ps.length 2147483648 with
      | true => some (.arr 32 1 ((shaF ps).map u8V), h)
      | false => none
    | _, _ => none
  | _, _ => none
theorem withF_map (ps : List (List Nat)) : (withF ps).map (·.1) = ps := by
  simp [withF, Function.comp_def]
theorem ofOK : KnownFn Tryz.prog cfg 234 ofK := known_spec (G := glK) mixed cfgOK fnsOK (known_none fun _ => rfl) fun vs h v h' he => by
  unfold ofK at he
  split at he
  · rename_i x
    split at he
    · rename_i ps hg ha
      split at he
      · rename_i hb
        cases he
        simp only [Bool.and_eq_true] at hg hb
        obtain ⟨a1, a2, a3⟩ := argK_spec ha
        rw [sha_eq a3]
        refine ⟨rfl, bare_u8 _, [.fz ((withF ps).map partW) 1 false], .arr 32 1 (bN (shaN ps)), ⟨RVL_cons.2 ⟨_, _, rfl, a1, RVL_nil.2 rfl⟩, by simp only [ltL, a2, Bool.and_self], fun g hg' => ?_, globK_spec hg.1 hg.2⟩, plain_bN _, fun R => ?_, ⟨0, fun i => i, fun _ => False, h⟩, ?_⟩
        · have h1 : Nat.ble (g + 1) 3 = true := hg'
          have := Nat.le_of_ble_eq_true h1
          have := Nat.le_of_ble_eq_true hg.1
          omega
        · have := of_s (withF ps) false (by rw [withF_map]; simpa using hb.1) (by rw [withF, List.length_map]; simpa using hb.2) R
          rw [withF_map] at this
          exact this
        · have hl : ((shaN ps).map u8V).length = 32 := by rw [List.length_map, shaN_len]
          refine ⟨rfl, ?_⟩
          show RS _ _ (fitV 32 (flatE 1 ((shaN ps).map u8V)))
          rw [flat_u8, fitV_self hl]
          exact ⟨hl, size_bN _, RSL_bN _ _⟩
      · cases he
    · cases he
  · cases he
noncomputable def knownT : Tr (List V → Heap → Option (V × Heap)) := Tr.set .nil 234 (some ofK)
noncomputable def cfg1 : Cfg := { cfg with known := fun f => knownT.get f }
theorem cfg1OK : CfgOK Tryz.prog cfg1 := ⟨cfgOK.ty, cfgOK.ext, cfgOK.mp, cfgOK.mt⟩
theorem fns1OK : FnsOK Tryz.prog cfg1 := fnsOK
theorem known1OK : KnownOK Tryz.prog cfg1 := fun f k hk => by
  have e : knownT.get f = if f = 234 then some ofK else none := by
    unfold knownT
    rw [Tr.get_set, Tr.get_nil]
  have hk : knownT.get f = some k := hk
  rw [e] at hk
  split at hk
  · rename_i hf
    cases hk
    subst hf
    exact ofOK
  · cases hk
end Go.Proofs.YtmlemnbhjbaedaaGreatDoor

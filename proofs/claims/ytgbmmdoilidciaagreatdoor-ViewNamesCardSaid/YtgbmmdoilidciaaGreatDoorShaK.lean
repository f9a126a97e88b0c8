/-
  A function whose answer hangs on no memory, known by what it does: from its contract to the model. Nothing here speaks of a program.
-/
import Derived.Test.YtgbmmdoilidciaaGreatDoorWLib
import Derived.Test.YtgbmmdoilidciaaGreatDoorShaF
namespace Go.Proofs.YtgbmmdoilidciaaGreatDoor
open Go.RowKit
set_option linter.unusedSimpArgs false
set_option linter.unusedVariables false

mutual
/-- all blocks in it lie below n -/
noncomputable def ltB (n : Nat) : V → Bool
  | .ptr b _ => decide (b < n)
  | .sl b _ _ _ _ _ => decide (b < n)
  | .map b => decide (b < n)
  | .yield b => decide (b < n)
  | .fn _ a c => ltL n a && ltL n c
  | .iface _ v => ltB n v
  | .agg _ l => ltL n l
  | .arr _ _ l => ltL n l
  | .tup l => ltL n l
  | .undef => true
  | .bool _ => true
  | .int _ _ => true
  | .str _ => true
  | .nilp => true
  | .nils => true
  | .nilm => true
  | .nilf => true
  | .nili => true
noncomputable def ltL (n : Nat) : List V → Bool
  | [] => true
  | v :: l => ltB n v && ltL n l
end
mutual
theorem in_lt {D : Nat → Nat → Prop} {n : Nat} : ∀ {v : V}, InD D v → ltB n v = true → InD (fun i m => D i m ∧ i < n) v
  | .ptr _ _, hi, h => ⟨hi, of_decide_eq_true h⟩
  | .sl _ _ _ _ _ _, hi, h => ⟨hi.1, hi.2.1, hi.2.2, of_decide_eq_true h⟩
  | .map _, hi, h => ⟨hi, of_decide_eq_true h⟩
  | .yield _, hi, h => ⟨hi, of_decide_eq_true h⟩
  | .fn _ a c, hi, h => by
    simp only [ltB, Bool.and_eq_true] at h
    exact ⟨in_ltL (l := a) hi.1 h.1, in_ltL (l := c) hi.2 h.2⟩
  | .iface _ v, hi, h => in_lt (v := v) hi (by simpa only [ltB] using h)
  | .agg _ l, hi, h => in_ltL (l := l) hi (by simpa only [ltB] using h)
  | .arr _ _ l, hi, h => in_ltL (l := l) hi (by simpa only [ltB] using h)
  | .tup l, hi, h => in_ltL (l := l) hi (by simpa only [ltB] using h)
  | .undef, _, _ => trivial
  | .bool _, _, _ => trivial
  | .int _ _, _, _ => trivial
  | .str _, _, _ => trivial
  | .nilp, _, _ => trivial
  | .nils, _, _ => trivial
  | .nilm, _, _ => trivial
  | .nilf, _, _ => trivial
  | .nili, _, _ => trivial
theorem in_ltL {D : Nat → Nat → Prop} {n : Nat} : ∀ {l : List V}, InDL D l → ltL n l = true → InDL (fun i m => D i m ∧ i < n) l
  | [], _, _ => trivial
  | v :: l, hi, h => by
    simp only [ltL, Bool.and_eq_true] at h
    exact ⟨in_lt hi.1 h.1, in_ltL hi.2 h.2⟩
end
mutual
noncomputable def plainB : W → Bool
  | .bool _ => true
  | .int _ _ => true
  | .str _ => true
  | .nilp => true
  | .nils => true
  | .nilm => true
  | .nilf => true
  | .nili => true
  | .agg _ l => plainL l
  | .arr _ _ l => plainL l
  | _ => false
noncomputable def plainL : List W → Bool
  | [] => true
  | w :: l => plainB w && plainL l
end
mutual
theorem rs_uniq {Γ Γ' : Ctx} : ∀ {w : W} {s s' : List V}, plainB w = true → RS Γ w s → RS Γ' w s' → s = s'
  | .undef, _, _, h, _, _ => by simp [plainB] at h
  | .bool _, _, _, _, h, k => by simp only [RS] at h k; rw [h, k]
  | .int _ _, _, _, _, h, k => by simp only [RS] at h k; rw [h, k]
  | .str _, _, _, _, h, k => by simp only [RS] at h k; rw [h, k]
  | .nilp, _, _, _, h, k => by simp only [RS] at h k; rw [h, k]
  | .ptr _ _, _, _, h, _, _ => by simp [plainB] at h
  | .nils, _, _, _, h, k => by simp only [RS] at h k; rw [h, k]
  | .sl _ _ _ _ _ _, _, _, h, _, _ => by simp [plainB] at h
  | .fz _ _ _, _, _, h, _, _ => by simp [plainB] at h
  | .fel _, _, _, h, _, _ => by simp [plainB] at h
  | .nilm, _, _, _, h, k => by simp only [RS] at h k; rw [h, k]
  | .fn _ _ _, _, _, h, _, _ => by simp [plainB] at h
  | .yield _, _, _, h, _, _ => by simp [plainB] at h
  | .nilf, _, _, _, h, k => by simp only [RS] at h k; rw [h, k]
  | .iface _ _, _, _, h, _, _ => by simp [plainB] at h
  | .nili, _, _, _, h, k => by simp only [RS] at h k; rw [h, k]
  | .agg n l, _, _, hp, h, k => by simp only [plainB] at hp; simp only [RS] at h k; exact rsl_uniq hp h.2 k.2
  | .arr n e l, _, _, hp, h, k => by simp only [plainB] at hp; simp only [RS] at h k; exact rsl_uniq hp h.2.2 k.2.2
  | .tup _, _, _, h, _, _ => by simp [plainB] at h
theorem rsl_uniq {Γ Γ' : Ctx} : ∀ {l : List W} {s s' : List V}, plainL l = true → RSL Γ l s → RSL Γ' l s' → s = s'
  | [], _, _, _, h, k => by simp only [RSL] at h k; rw [h, k]
  | w :: l, s, s', hp, h, k => by
    simp only [plainL, Bool.and_eq_true] at hp
    simp only [RSL] at h k
    have h1 := rs_uniq hp.1 h.1 k.1
    have h2 := rsl_uniq hp.2 h.2 k.2
    rw [← List.take_append_drop w.size s, ← List.take_append_drop w.size s', h1, h2]
end
/-- what hangs on no memory is one thing -/
theorem conc_uniq {Γ Γ' : Ctx} {w : W} {v v' : V} (hw : plainB w = true) (h : RV Γ w v) (k : RV Γ' w v') (ρ : Env) : conc ρ v = conc ρ v' := by
  have e := rs_uniq hw h.2 k.2
  cases hv : v.isAgg with
  | true =>
    have hv' : v'.isAgg = true := by rw [← k.1, h.1, hv]
    rw [conc_agg hv, conc_agg hv', cells_flat, cells_flat, e]
  | false =>
    have hv' : v'.isAgg = false := by rw [← k.1, h.1, hv]
    rw [flat_self hv, flat_self hv'] at e
    cases e; rfl
/-- cells that are known and hold nothing later -/
noncomputable def keepB (n : Nat) : Option Blk → Option Blk
  | some (.cells ty v) => if ltB n v then some (.cells ty v) else none
  | some (.ro v) => if ltB n v then some (.ro v) else none
  | _ => none
theorem keepB_some {n : Nat} {o : Option Blk} {b : Blk} (h : keepB n o = some b) : o = some b ∧ ∀ D, InB D b → InB (fun i m => D i m ∧ i < n) b := by
  unfold keepB at h
  split at h
  · split at h
    · rename_i hl; cases h; exact ⟨rfl, fun D hi => in_lt hi hl⟩
    · cases h
  · split at h
    · rename_i hl; cases h; exact ⟨rfl, fun D hi => in_lt hi hl⟩
    · cases h
  · cases h
/-- the blocks that a known function may look at -/
noncomputable def SeenK (h : Heap) : Nat → Prop := fun b => b < h.next ∧ ∃ v, h.val b = some v ∧ ltB h.next v = true
section
variable {P : Program} {C : Cfg} {G : Nat → Option W}
/-- what a known function's summary leans on, in one heap -/
structure ReadsK (C : Cfg) (G : Nat → Option W) (vs : List V) (h : Heap) (ws : List W) : Prop where
  args : RVL ⟨0, fun i => i, SeenK h, h⟩ ws vs
  lt : ltL h.next vs = true
  glt : ∀ g, C.glob g = true → g < h.next
  gl : GRel C G ⟨0, fun i => i, SeenK h, h⟩
theorem known_spec (hmx : P.follows .mixedOrders = true) (hC : CfgOK P C) (hF : FnsOK P C) (hK : KnownOK P C) {f : FuncId} {k : List V → Heap → Option (V × Heap)}
    (hk : ∀ vs h v h', k vs h = some (v, h') → h' = h ∧ bare v = true ∧ ∃ ws w, ReadsK C G vs h ws ∧ plainB w = true ∧ PSpec C G f 0 ws [] (fun w' _ _ => w' = w) ∧ ∃ Γ, RV Γ w v) : KnownFn P C f k := fun vs h v h' he => by
  obtain ⟨rfl, hbv, ws, w, hrd, hpl, sp, Γ2, hrv⟩ := hk vs h v h' he
  obtain ⟨t, ht⟩ := Tr.of (fun i => keepB h'.next (h'.get i)) h'.next
  let hs : Heap := ⟨h'.next, h'.next, t⟩
  have get_lt : ∀ i, i < h'.next → hs.get i = keepB h'.next (h'.get i) := fun i hi => by show t.get i = _; rw [ht, if_pos hi]
  have get_ge : ∀ i, h'.next ≤ i → hs.get i = none := fun i hi => by show t.get i = _; rw [ht, if_neg (by omega)]
  have get_some : ∀ {i b}, hs.get i = some b → i < h'.next ∧ h'.get i = some b ∧ ∀ D, InB D b → InB (fun i m => D i m ∧ i < h'.next) b := fun {i b} hb => by
    rcases Nat.lt_or_ge i h'.next with hi | hi
    · rw [get_lt i hi] at hb
      exact ⟨hi, keepB_some hb⟩
    · rw [get_ge i hi] at hb; cases hb
  have val_of : ∀ {b v}, b < h'.next → h'.val b = some v → ltB h'.next v = true → hs.val b = some v := fun {b v} hb h1 h2 => by
    simp only [Heap.val, get_lt b hb] at h1 ⊢
    cases hg : h'.get b with
    | none => rw [hg] at h1; cases h1
    | some x =>
      rw [hg] at h1
      cases x with
      | cells ty u => cases h1; simp only [keepB, h2, if_true]
      | ro u => cases h1; simp only [keepB, h2, if_true]
      | loop => cases h1
      | dfr => cases h1
      | map => cases h1
  have val_lt : ∀ {b v}, hs.val b = some v → b < h'.next := fun {b v} h1 => by
    simp only [Heap.val] at h1
    cases hg : hs.get b with
    | none => rw [hg] at h1; cases h1
    | some x => exact (get_some hg).1
  have le : ∀ nw σ, Ctx.Le ⟨nw, σ, SeenK h', h'⟩ ⟨nw, σ, fun b => ∃ v, hs.val b = some v, hs⟩ := fun nw σ =>
    ⟨Nat.le_refl _, fun _ _ => rfl, fun b hb => by obtain ⟨h1, u, h2, h3⟩ := hb; exact ⟨u, val_of h1 h2 h3⟩, fun b hb => by
      obtain ⟨h1, u, h2, h3⟩ := hb
      show hs.val b = h'.val b
      rw [val_of h1 h2 h3, h2]⟩
  have sat : SatH C G ⟨0, fun i => i, fun b => ∃ v, hs.val b = some v, hs⟩ [] (fun _ => False) Res.none :=
    ⟨get_ge, fun _ _ _ h => by simp [hget] at h, fun _ _ _ _ h => by simp [hget] at h, List.nodup_nil, fun _ _ h => h, fun _ h => h.elim, fun c hc => by obtain ⟨u, hu⟩ := hc; exact val_lt hu, trivial, fun g w h1 h2 nw σ => (hrd.gl g w h1 h2 nw σ).mono (le nw σ)⟩
  obtain ⟨n, v1, Γ1, X1, w1, hp1, R1, g1, g2, g3, g4, rfl, hq⟩ := sp Res.none _ (fun _ => False) vs rfl sat (RVL.mono (le _ _) hrd.args)
  have hw : h'.next ≤ Γ1.h.wmin := g3.wmin h'.next (Nat.le_refl _) (Nat.le_refl _) fun c hc => by
    rcases hc with ⟨b, x, h1, _⟩ | hc
    · simp [hget] at h1
    · exact hc.elim
  have rn := (run_ok hmx hC hF hK n).self
  have hn : h'.next ≤ Γ1.h.next := g3.next
  refine ⟨Mono.refl _, rn.fnEnter _ _ _ _ _ g1, fun s0 U D ρ w0 hU gl hin rel => ?_⟩
  have up : ∀ {b}, InB (fun i m => DD D ρ i m ∧ i < h'.next) b → InB (DD (fun i => D i ∧ i < h'.next) ρ) b := fun h => h.mono fun i m hi => ⟨⟨hi.1.1, hi.2⟩, hi.1.2⟩
  have relS : Rel s0 Γ1.h.next (fun i => D i ∧ i < h'.next) ρ hs w0 := by
    refine ⟨fun i hi => .inl hi.2, get_ge, fun i b hi hb => rel.has i b hi.1 (get_some hb).2.1, fun i b hi hb => up ((get_some hb).2.2 _ (rel.clo i b hi.1 (get_some hb).2.1)), fun i j b c hi hj hb hc => rel.inj i j b c hi.1 hj.1 (get_some hb).2.1 (get_some hc).2.1, fun i b hi hb => rel.own i b hi.1 (get_some hb).2.1, fun i j b c hi hj hb hc => rel.old i j b c hi.1 hj.1 (get_some hb).2.1 (get_some hc).2.1, rel.base⟩
  have glS : GlobOK C (DD (fun i => D i ∧ i < h'.next) ρ) ρ := fun g hg => by
    obtain ⟨h1, h2⟩ := gl g hg
    exact ⟨⟨⟨h1.1, hrd.glt g hg⟩, h1.2⟩, h2⟩
  have hinS : InDL (DD (fun i => D i ∧ i < h'.next) ρ) vs := InDL_iff.2 fun v hv => InD.mono' (fun i m hi => ⟨⟨hi.1.1, hi.2⟩, hi.1.2⟩) v (InDL_iff.1 (in_ltL hin hrd.lt) v hv)
  refine (rn.fn _ _ _ _ _ g1 s0 Γ1.h.next _ ρ w0 (Nat.le_refl _) glS hinS relS).mono fun e w' => ?_
  rintro ⟨D', ρ', rfl, r', n', _⟩
  have same : ∀ c, c < w0.heap.size → w'.heap[c]? = w0.heap[c]? := fun c hc => n'.frame c hc fun i _ h2 h3 => by
    have h3 : i < h'.next := h3
    omega
  have hval : conc ρ' v1 = conc ρ v := by
    subst hq
    exact (conc_uniq hpl g4 hrv ρ').trans (conc_bare hbv ρ ρ')
  refine ⟨D, ρ, by rw [hval], ⟨rel.lt, rel.wf, fun i b hi hb => ?_, rel.clo, rel.inj, rel.own, rel.old, r'.base⟩, ⟨fun _ h => h, fun _ h => .inl h, fun _ _ => ⟨rfl, rfl, rfl, rfl⟩, fun c hc _ => same c hc, fun i _ h1 h2 => by omega, n'.size, Nat.le_refl _, Nat.le_refl _, n'.os, n'.tape, n'.output⟩, bare_in hbv⟩
  obtain ⟨o, q1, q2⟩ := rel.has i b hi hb
  exact ⟨o, by rw [same _ (Array.getElem?_eq_some_iff.1 q1).1]; exact q1, q2⟩
end
end Go.Proofs.YtgbmmdoilidciaaGreatDoor
/-
  SHA-256 of the program: known by what it does, so that a run need not go through it.
-/
namespace Go.Proofs.YtgbmmdoilidciaaGreatDoor
open Go.RowKit
set_option linter.unusedSimpArgs false
set_option linter.unusedVariables false
noncomputable def u8V (n : Nat) : V := .int .u8 (.ofNat n)
noncomputable def u32V (n : Nat) : V := .int .u32 (.ofNat n)
/-! ### what it reads -/
noncomputable def cellsK (h : Heap) (b off n : Nat) : Option (List V) := match Nat.blt b h.next, h.val b with
  | true, some bv => match bv.isAgg && ltB h.next bv && Nat.ble (off + n) bv.size with
    | true => some (((flatV bv).drop off).take n)
    | false => none
  | _, _ => none
theorem cellsK_spec {h : Heap} {b off n : Nat} {s : List V} (hs : cellsK h b off n = some s) : b < h.next ∧ SeenK h b ∧ s.length = n ∧ ∃ bv, h.val b = some bv ∧ bv.isAgg = true ∧ off + n ≤ bv.size ∧ s = ((flatV bv).drop off).take n := by
  unfold cellsK at hs
  split at hs
  · rename_i bv hb hv
    split at hs
    · rename_i hc
      cases hs
      simp only [Bool.and_eq_true] at hc
      have h1 : b < h.next := by simpa using hb
      have h2 : off + n ≤ bv.size := Nat.le_of_ble_eq_true hc.2
      refine ⟨h1, ⟨h1, bv, hv, hc.1.2⟩, ?_, bv, hv, hc.1.1, h2, rfl⟩
      rw [List.length_take, List.length_drop, flatV_length]; omega
    · cases hs
  · cases hs
noncomputable def u8s : List V → Option (List Nat)
  | [] => some []
  | .int .u8 (.ofNat n) :: l => match Nat.blt n 256, u8s l with
    | true, some ns => some (n :: ns)
    | _, _ => none
  | _ => none
theorem u8s_spec : ∀ {s : List V} {l : List Nat}, u8s s = some l → s = l.map u8V ∧ small l
  | [], _, h => by cases h; exact ⟨rfl, fun b hb => by cases hb⟩
  | v :: s, l, h => by
    unfold u8s at h
    split at h
    · rename_i he; cases he
    · rename_i n l' he
      cases he
      split at h
      · rename_i ns h1 hn
        cases h
        obtain ⟨e, k⟩ := u8s_spec hn
        refine ⟨by rw [e]; rfl, fun b hb => ?_⟩
        rcases List.mem_cons.1 hb with rfl | hb
        · simpa using h1
        · exact k b hb
      · cases h
    · cases h
theorem RSL_bN (Γ : Ctx) : ∀ l : List Nat, RSL Γ (bN l) (l.map u8V)
  | [] => rfl
  | n :: l => RSL_cons (a := [u8V n]) (b := l.map u8V) (x := .int .u8 (.ofNat n)) rfl (RSL_bN Γ l)
theorem size_bN (l : List Nat) : ∀ x ∈ bN l, x.size = 1 := fun x hx => by
  obtain ⟨n, _, rfl⟩ := List.mem_map.1 hx; rfl
noncomputable def partK (h : Heap) : V → Option (List Nat)
  | .nils => some []
  | .sl b _ off len 1 _ => match cellsK h b off len with
    | some s => u8s s
    | none => none
  | _ => none
theorem partK_spec {h : Heap} {v : V} {l : List Nat} (hk : partK h v = some l) : RS ⟨0, fun i => i, SeenK h, h⟩ (partW (l, false)) [v] ∧ small l := by
  unfold partK at hk
  split at hk
  · cases hk; exact ⟨.inl ⟨rfl, rfl⟩, fun b hb => by cases hb⟩
  · rename_i b base off len lim
    split at hk
    · rename_i s hs
      obtain ⟨_, h2, h3, bv, h4, h5, h6, h7⟩ := cellsK_spec hs
      obtain ⟨e, ks⟩ := u8s_spec hk
      refine ⟨?_, ks⟩
      have hl : (bN l).length = len := by
        rw [bN_len, ← h3, e, List.length_map]
      refine .inr ⟨b, base, off, lim, bv, by rw [hl], fun h => (by cases h), h2, h4, h5, by rw [hl, Nat.mul_one]; exact h6, size_bN l, ?_⟩
      rw [hl, Nat.mul_one, ← h7, e]
      exact RSL_bN _ l
    · cases hk
  · cases hk
noncomputable def partsK (h : Heap) : List V → Option (List (List Nat))
  | [] => some []
  | v :: s => match partK h v with
    | some l => match partsK h s with
      | some ls => some (l :: ls)
      | none => none
    | none => none
noncomputable def withF (ps : List (List Nat)) : List (List Nat × Bool) := ps.map fun l => (l, false)
theorem partsK_spec {h : Heap} : ∀ {s : List V} {ps : List (List Nat)}, partsK h s = some ps → s.length = ps.length ∧ RSL ⟨0, fun i => i, SeenK h, h⟩ ((withF ps).map partW) s ∧ ∀ p ∈ ps, small p
  | [], _, hk => by cases hk; exact ⟨rfl, rfl, fun p hp => by cases hp⟩
  | v :: s, ps, hk => by
    unfold partsK at hk
    split at hk
    · rename_i l hl
      split at hk
      · rename_i ls hls
        cases hk
        obtain ⟨h1, h2, h3⟩ := partsK_spec hls
        exact ⟨congrArg (· + 1) h1, RSL_cons (a := [v]) (b := s) (partK_spec hl).1 h2, fun p hp => by
          rcases List.mem_cons.1 hp with rfl | hp
          · exact (partK_spec hl).2
          · exact h3 p hp⟩
      · cases hk
    · cases hk
noncomputable def argK (h : Heap) : V → Option (List (List Nat))
  | .nils => some []
  | .sl b _ off len 1 _ => match cellsK h b off len with
    | some s => partsK h s
    | none => none
  | _ => none
theorem size_parts (ps : List (List Nat × Bool)) : ∀ x ∈ ps.map partW, x.size = 1 := fun x hx => by
  obtain ⟨n, _, rfl⟩ := List.mem_map.1 hx; rfl
theorem argK_spec {h : Heap} {v : V} {ps : List (List Nat)} (hk : argK h v = some ps) : RV ⟨0, fun i => i, SeenK h, h⟩ (.fz ((withF ps).map partW) 1 false) v ∧ ltB h.next v = true ∧ ∀ p ∈ ps, small p := by
  unfold argK at hk
  split at hk
  · cases hk; exact ⟨⟨rfl, .inl ⟨rfl, rfl⟩⟩, rfl, fun p hp => by cases hp⟩
  · rename_i b base off len lim
    split at hk
    · rename_i s hs
      obtain ⟨h1, h2, h3, bv, h4, h5, h6, h7⟩ := cellsK_spec hs
      obtain ⟨g1, g2, g3⟩ := partsK_spec hk
      have hl : ((withF ps).map partW).length = len := by
        rw [List.length_map, withF, List.length_map, ← g1, h3]
      refine ⟨⟨rfl, .inr ⟨b, base, off, lim, bv, by rw [hl]; rfl, fun h => (by cases h), h2, h4, h5, by rw [hl, Nat.mul_one]; exact h6, size_parts _, ?_⟩⟩, by simpa [ltB] using h1, g3⟩
      rw [hl, Nat.mul_one, ← h7]
      exact g2
    · cases hk
  · cases hk
/-! ### the table -/
noncomputable def eqK : List V → List Nat → Bool
  | [], [] => true
  | .int .u32 (.ofNat n) :: l, m :: ms => match Nat.beq n m with
    | true => eqK l ms
    | false => false
  | _, _ => false
theorem eqK_spec : ∀ {l : List V} {ms : List Nat}, eqK l ms = true → l = ms.map u32V
  | [], [], _ => rfl
  | [], _ :: _, h => by simp [eqK] at h
  | v :: l, ms, h => by
    unfold eqK at h
    split at h
    · simp_all
    · rename_i n l' m ms' e
      cases e
      split at h
      · rename_i hb
        obtain rfl := Nat.eq_of_beq_eq_true hb
        rw [eqK_spec h]; rfl
      · cases h
    · cases h
noncomputable def globK (h : Heap) : Bool := match h.get 0 with
  | some (.ro (.arr 64 1 l)) => eqK l kW
  | _ => false
theorem RSL_wd (Γ : Ctx) : ∀ l : List Nat, RSL Γ (l.map wd) (l.map u32V)
  | [] => rfl
  | n :: l => RSL_cons (a := [u32V n]) (b := l.map u32V) (x := wd n) rfl (RSL_wd Γ l)
theorem globK_spec {h : Heap} (hn : Nat.ble 3 h.next = true) (hk : globK h = true) : GRel cfg glK ⟨0, fun i => i, SeenK h, h⟩ := by
  intro g w _ h2 nw σ
  have hn := Nat.le_of_ble_eq_true hn
  unfold glK at h2
  split at h2
  · cases h2
    unfold globK at hk
    split at hk
    · rename_i l hg
      obtain rfl := eqK_spec hk
      have hv : h.val 0 = some (.arr 64 1 (kW.map u32V)) := by simp only [Heap.val, hg]
      refine RV.of_one ⟨0, 0, _, rfl, ⟨by omega, _, hv, by rfl⟩, hv, by exact Nat.le_refl _, fun _ => rfl, .inr rfl, ?_⟩ rfl rfl
      have e : ((flatV (.arr 64 1 (kW.map u32V))).drop 0).take 64 = kW.map u32V := by kernel_rfl
      show RS _ _ (((flatV (.arr 64 1 (kW.map u32V))).drop 0).take 64)
      rw [e]
      exact ⟨rfl, fun x hx => by obtain ⟨n, _, rfl⟩ := List.mem_map.1 hx; rfl, RSL_wd _ kW⟩
    · cases hk
  · cases h2
/-! ### what it answers -/
theorem bare_u8 : ∀ l : List Nat, bareL (l.map u8V) = true
  | [] => rfl
  | n :: l => by simp only [List.map_cons, bareL, u8V, bare, Bool.true_and]; exact bare_u8 l
theorem plain_bN : ∀ l : List Nat, plainL (bN l) = true
  | [] => rfl
  | n :: l => by simp only [bN, List.map_cons, plainL, plainB, Bool.true_and]; exact plain_bN l
theorem flat_u8 : ∀ l : List Nat, flatE 1 (l.map u8V) = l.map u8V
  | [] => rfl
  | n :: l => by
    simp only [List.map_cons, flatE, flat_u8 l]; rfl
theorem shaN_len (ps : List (List Nat)) : (shaN ps).length = 32 := by simp [shaN, digN]
noncomputable def ofK : List V → Heap → Option (V × Heap)
  | [x], h => match Nat.ble 3 h.next && globK h, argK h x with
    | true, some ps => match Nat.blt (total ps) 2147483648 && Nat.blt ps.length 2147483648 with
      | true => some (.arr 32 1 ((shaF ps).map u8V), h)
      | false => none
    | _, _ => none
  | _, _ => none
theorem withF_map (ps : List (List Nat)) : (withF ps).map (·.1) = ps := by
  simp [withF, Function.comp_def]
theorem ofOK : KnownFn Tryz.prog cfg 122 ofK := known_spec (G := glK) mixed cfgOK fnsOK (known_none fun _ => rfl) fun vs h v h' he => by
  unfold ofK at he
  split at he
  · rename_i x
    split at he
    · rename_i ps hg ha
      split at he
      · rename_i hb
        cases he
        simp only [Bool.and_eq_true] at hg hb
        obtain ⟨a1, a2, a3⟩ := argK_spec ha
        rw [sha_eq a3]
        refine ⟨rfl, bare_u8 _, [.fz ((withF ps).map partW) 1 false], .arr 32 1 (bN (shaN ps)), ⟨RVL_cons.2 ⟨_, _, rfl, a1, RVL_nil.2 rfl⟩, by simp only [ltL, a2, Bool.and_self], fun g hg' => ?_, globK_spec hg.1 hg.2⟩, plain_bN _, fun R => ?_, ⟨0, fun i => i, fun _ => False, h⟩, ?_⟩
        · have h1 : Nat.ble (g + 1) 3 = true := hg'
          have := Nat.le_of_ble_eq_true h1
          have := Nat.le_of_ble_eq_true hg.1
          omega
        · have := of_s (withF ps) false (by rw [withF_map]; simpa using hb.1) (by rw [withF, List.length_map]; simpa using hb.2) R
          rw [withF_map] at this
          exact this
        · have hl : ((shaN ps).map u8V).length = 32 := by rw [List.length_map, shaN_len]
          refine ⟨rfl, ?_⟩
          show RS _ _ (fitV 32 (flatE 1 ((shaN ps).map u8V)))
          rw [flat_u8, fitV_self hl]
          exact ⟨hl, size_bN _, RSL_bN _ _⟩
      · cases he
    · cases he
  · cases he
noncomputable def knownT : Tr (List V → Heap → Option (V × Heap)) := Tr.set .nil 122 (some ofK)
noncomputable def cfg1 : Cfg := { cfg with known := fun f => knownT.get f }
theorem cfg1OK : CfgOK Tryz.prog cfg1 := ⟨cfgOK.ty, cfgOK.ext, cfgOK.mp, cfgOK.mt⟩
theorem fns1OK : FnsOK Tryz.prog cfg1 := fnsOK
theorem known1OK : KnownOK Tryz.prog cfg1 := fun f k hk => by
  have e : knownT.get f = if f = 122 then some ofK else none := by
    unfold knownT
    rw [Tr.get_set, Tr.get_nil]
  have hk : knownT.get f = some k := hk
  rw [e] at hk
  split at hk
  · rename_i hf
    cases hk
    subst hf
    exact ofOK
  · cases hk
end Go.Proofs.YtgbmmdoilidciaaGreatDoor

/-
  A function whose answer hangs on no memory, known by what it does: from its contract to the model. Nothing here speaks of a program.
-/
import Derived.Test.YtmlemnbhjbaedaaGreatDoorWLib
namespace Go.Proofs.YtmlemnbhjbaedaaGreatDoor
open Go.RowKit
set_option linter.unusedSimpArgs false
set_option linter.unusedVariables false

mutual
/-- all blocks in it lie below n -/
noncomputable def ltB (n : Nat) : V → Bool
  | .ptr b _ => decide (b < n)
  | .sl b _ _ _ _ _ => decide (b < n)
  | .map b => decide (b < n)
  | .yield b => decide (b < n)
  | .fn _ a c => ltL n a && ltL n c
  | .iface _ v => ltB n v
  | .agg _ l => ltL n l
  | .arr _ _ l => ltL n l
  | .tup l => ltL n l
  | .undef => true
  | .bool _ => true
  | .int _ _ => true
  | .str _ => true
  | .nilp => true
  | .nils => true
  | .nilm => true
  | .nilf => true
  | .nili => true
noncomputable def ltL (n : Nat) : List V → Bool
  | [] => true
  | v :: l => ltB n v && ltL n l
end
mutual
theorem in_lt {D : Nat → Nat → Prop} {n : Nat} : ∀ {v : V}, InD D v → ltB n v = true → InD (fun i m => D i m ∧ i < n) v
  | .ptr _ _, hi, h => ⟨hi, of_decide_eq_true h⟩
  | .sl _ _ _ _ _ _, hi, h => ⟨hi.1, hi.2.1, hi.2.2, of_decide_eq_true h⟩
  | .map _, hi, h => ⟨hi, of_decide_eq_true h⟩
  | .yield _, hi, h => ⟨hi, of_decide_eq_true h⟩
  | .fn _ a c, hi, h => by
    simp only [ltB, Bool.and_eq_true] at h
    exact ⟨in_ltL (l := a) hi.1 h.1, in_ltL (l := c) hi.2 h.2⟩
  | .iface _ v, hi, h => in_lt (v := v) hi (by simpa only [ltB] using h)
  | .agg _ l, hi, h => in_ltL (l := l) hi (by simpa only [ltB] using h)
  | .arr _ _ l, hi, h => in_ltL (l := l) hi (by simpa only [ltB] using h)
  | .tup l, hi, h => in_ltL (l := l) hi (by simpa only [ltB] using h)
  | .undef, _, _ => trivial
  | .bool _, _, _ => trivial
  | .int _ _, _, _ => trivial
  | .str _, _, _ => trivial
  | .nilp, _, _ => trivial
  | .nils, _, _ => trivial
  | .nilm, _, _ => trivial
  | .nilf, _, _ => trivial
  | .nili, _, _ => trivial
theorem in_ltL {D : Nat → Nat → Prop} {n : Nat} : ∀ {l : List V}, InDL D l → ltL n l = true → InDL (fun i m => D i m ∧ i < n) l
  | [], _, _ => trivial
  | v :: l, hi, h => by
    simp only [ltL, Bool.and_eq_true] at h
    exact ⟨in_lt hi.1 h.1, in_ltL hi.2 h.2⟩
end
mutual
noncomputable def plainB : W → Bool
  | .bool _ => true
  | .int _ _ => true
  | .str _ => true
  | .nilp => true
  | .nils => true
  | .nilm => true
  | .nilf => true
  | .nili => true
  | .agg _ l => plainL l
  | .arr _ _ l => plainL l
  | _ => false
noncomputable def plainL : List W → Bool
  | [] => true
  | w :: l => plainB w && plainL l
end
mutual
theorem rs_uniq {Γ Γ' : Ctx} : ∀ {w : W} {s s' : List V}, plainB w = true → RS Γ w s → RS Γ' w s' → s = s'
  | .undef, _, _, h, _, _ => by simp [plainB] at h
  | .bool _, _, _, _, h, k => by simp only [RS] at h k; rw [h, k]
  | .int _ _, _, _, _, h, k => by simp only [RS] at h k; rw [h, k]
  | .str _, _, _, _, h, k => by simp only [RS] at h k; rw [h, k]
  | .nilp, _, _, _, h, k => by simp only [RS] at h k; rw [h, k]
  | .ptr _ _, _, _, h, _, _ => by simp [plainB] at h
  | .nils, _, _, _, h, k => by simp only [RS] at h k; rw [h, k]
  | .sl _ _ _ _ _ _, _, _, h, _, _ => by simp [plainB] at h
  | .fz _ _ _, _, _, h, _, _ => by simp [plainB] at h
  | .fel _, _, _, h, _, _ => by simp [plainB] at h
  | .nilm, _, _, _, h, k => by simp only [RS] at h k; rw [h, k]
  | .fn _ _ _, _, _, h, _, _ => by simp [plainB] at h
  | .yield _, _, _, h, _, _ => by simp [plainB] at h
  | .nilf, _, _, _, h, k => by simp only [RS] at h k; rw [h, k]
  | .iface _ _, _, _, h, _, _ => by simp [plainB] at h
  | .nili, _, _, _, h, k => by simp only [RS] at h k; rw [h, k]
  | .agg n l, _, _, hp, h, k => by simp only [plainB] at hp; simp only [RS] at h k; exact rsl_uniq hp h.2 k.2
  | .arr n e l, _, _, hp, h, k => by simp only [plainB] at hp; simp only [RS] at h k; exact rsl_uniq hp h.2.2 k.2.2
  | .tup _, _, _, h, _, _ => by simp [plainB] at h
theorem rsl_uniq {Γ Γ' : Ctx} : ∀ {l : List W} {s s' : List V}, plainL l = true → RSL Γ l s → RSL Γ' l s' → s = s'
  | [], _, _, _, h, k => by simp only [RSL] at h k; rw [h, k]
  | w :: l, s, s', hp, h, k => by
    simp only [plainL, Bool.and_eq_true] at hp
    simp only [RSL] at h k
    have h1 := rs_uniq hp.1 h.1 k.1
    have h2 := rsl_uniq hp.2 h.2 k.2
    rw [← List.take_append_drop w.size s, ← List.take_append_drop w.size s', h1, h2]
end
/-- what hangs on no memory is one thing -/
theorem conc_uniq {Γ Γ' : Ctx} {w : W} {v v' : V} (hw : plainB w = true) (h : RV Γ w v) (k : RV Γ' w v') (ρ : Env) : conc ρ v = conc ρ v' := by
  have e := rs_uniq hw h.2 k.2
  cases hv : v.isAgg with
  | true =>
    have hv' : v'.isAgg = true := by rw [← k.1, h.1, hv]
    rw [conc_agg hv, conc_agg hv', cells_flat, cells_flat, e]
  | false =>
    have hv' : v'.isAgg = false := by rw [← k.1, h.1, hv]
    rw [flat_self hv, flat_self hv'] at e
    cases e; rfl
/-- cells that are known and hold nothing later -/
noncomputable def keepB (n : Nat) : Option Blk → Option Blk
  | some (.cells ty v) => if ltB n v then some (.cells ty v) else none
  | some (.ro v) => if ltB n v then some (.ro v) else none
  | _ => none
theorem keepB_some {n : Nat} {o : Option Blk} {b : Blk} (h : keepB n o = some b) : o = some b ∧ ∀ D, InB D b → InB (fun i m => D i m ∧ i < n) b := by
  unfold keepB at h
  split at h
  · split at h
    · rename_i hl; cases h; exact ⟨rfl, fun D hi => in_lt hi hl⟩
    · cases h
  · split at h
    · rename_i hl; cases h; exact ⟨rfl, fun D hi => in_lt hi hl⟩
    · cases h
  · cases h
/-- the blocks that a known function may look at -/
noncomputable def SeenK (h : Heap) : Nat → Prop := fun b => b < h.next ∧ ∃ v, h.val b = some v ∧ ltB h.next v = true
section
variable {P : Program} {C : Cfg} {G : Nat → Option W}
/-- what a known function's summary leans on, in one heap -/
structure ReadsK (C : Cfg) (G : Nat → Option W) (vs : List V) (h : Heap) (ws : List W) : Prop where
  args : RVL ⟨0, fun i => i, SeenK h, h⟩ ws vs
  lt : ltL h.next vs = true
  glt : ∀ g, C.glob g = true → g < h.next
  gl : GRel C G ⟨0, fun i => i, SeenK h, h⟩
theorem known_spec (hmx : P.follows .mixedOrders = true) (hC : CfgOK P C) (hF : FnsOK P C) (hK : KnownOK P C) {f : FuncId} {k : List V → Heap → Option (V × Heap)}
    (hk : ∀ vs h v h', k vs h = some (v, h') → h' = h ∧ bare v = true ∧ ∃ ws w, ReadsK C G vs h ws ∧ plainB w = true ∧ PSpec C G f 0 ws [] (fun w' _ _ => w' = w) ∧ ∃ Γ, RV Γ w v) : KnownFn P C f k := fun vs h v h' he => by
  obtain ⟨rfl, hbv, ws, w, hrd, hpl, sp, Γ2, hrv⟩ := hk vs h v h' he
  obtain ⟨t, ht⟩ := Tr.of (fun i => keepB h'.next (h'.get i)) h'.next
  let hs : Heap := ⟨h'.next, h'.next, t⟩
  have get_lt : ∀ i, i < h'.next → hs.get i = keepB h'.next (h'.get i) := fun i hi => by show t.get i = _; rw [ht, if_pos hi]
  have get_ge : ∀ i, h'.next ≤ i → hs.get i = none := fun i hi => by show t.get i = _; rw [ht, if_neg (by omega)]
  have get_some : ∀ {i b}, hs.get i = some b → i < h'.next ∧ h'.get i = some b ∧ ∀ D, InB D b → InB (fun i m => D i m ∧ i < h'.next) b := fun {i b} hb => by
    rcases Nat.lt_or_ge i h'.next with hi | hi
    · rw [get_lt i hi] at hb
      exact ⟨hi, keepB_some hb⟩
    · rw [get_ge i hi] at hb; cases hb
  have val_of : ∀ {b v}, b < h'.next → h'.val b = some v → ltB h'.next v = true → hs.val b = some v := fun {b v} hb h1 h2 => by
    simp only [Heap.val, get_lt b hb] at h1 ⊢
    cases hg : h'.get b with
    | none => rw [hg] at h1; cases h1
    | some x =>
      rw [hg] at h1
      cases x with
      | cells ty u => cases h1; simp only [keepB, h2, if_true]
      | ro u => cases h1; simp only [keepB, h2, if_true]
      | loop => cases h1
      | dfr => cases h1
      | map => cases h1
  have val_lt : ∀ {b v}, hs.val b = some v → b < h'.next := fun {b v} h1 => by
    simp only [Heap.val] at h1
    cases hg : hs.get b with
    | none => rw [hg] at h1; cases h1
    | some x => exact (get_some hg).1
  have le : ∀ nw σ, Ctx.Le ⟨nw, σ, SeenK h', h'⟩ ⟨nw, σ, fun b => ∃ v, hs.val b = some v, hs⟩ := fun nw σ =>
    ⟨Nat.le_refl _, fun _ _ => rfl, fun b hb => by obtain ⟨h1, u, h2, h3⟩ := hb; exact ⟨u, val_of h1 h2 h3⟩, fun b hb => by
      obtain ⟨h1, u, h2, h3⟩ := hb
      show hs.val b = h'.val b
      rw [val_of h1 h2 h3, h2]⟩
  have sat : SatH C G ⟨0, fun i => i, fun b => ∃ v, hs.val b = some v, hs⟩ [] (fun _ => False) Res.none :=
    ⟨get_ge, fun _ _ _ h => by simp [hget] at h, fun _ _ _ _ h => by simp [hget] at h, List.nodup_nil, fun _ _ h => h, fun _ h => h.elim, fun c hc => by obtain ⟨u, hu⟩ := hc; exact val_lt hu, trivial, fun g w h1 h2 nw σ => (hrd.gl g w h1 h2 nw σ).mono (le nw σ)⟩
  obtain ⟨n, v1, Γ1, X1, w1, hp1, R1, g1, g2, g3, g4, rfl, hq⟩ := sp Res.none _ (fun _ => False) vs rfl sat (RVL.mono (le _ _) hrd.args)
  have hw : h'.next ≤ Γ1.h.wmin := g3.wmin h'.next (Nat.le_refl _) (Nat.le_refl _) fun c hc => by
    rcases hc with ⟨b, x, h1, _⟩ | hc
    · simp [hget] at h1
    · exact hc.elim
  have rn := (run_ok hmx hC hF hK n).self
  have hn : h'.next ≤ Γ1.h.next := g3.next
  refine ⟨Mono.refl _, rn.fnEnter _ _ _ _ _ g1, fun s0 U D ρ w0 hU gl hin rel => ?_⟩
  have up : ∀ {b}, InB (fun i m => DD D ρ i m ∧ i < h'.next) b → InB (DD (fun i => D i ∧ i < h'.next) ρ) b := fun h => h.mono fun i m hi => ⟨⟨hi.1.1, hi.2⟩, hi.1.2⟩
  have relS : Rel s0 Γ1.h.next (fun i => D i ∧ i < h'.next) ρ hs w0 := by
    refine ⟨fun i hi => .inl hi.2, get_ge, fun i b hi hb => rel.has i b hi.1 (get_some hb).2.1, fun i b hi hb => up ((get_some hb).2.2 _ (rel.clo i b hi.1 (get_some hb).2.1)), fun i j b c hi hj hb hc => rel.inj i j b c hi.1 hj.1 (get_some hb).2.1 (get_some hc).2.1, fun i b hi hb => rel.own i b hi.1 (get_some hb).2.1, fun i j b c hi hj hb hc => rel.old i j b c hi.1 hj.1 (get_some hb).2.1 (get_some hc).2.1, rel.base⟩
  have glS : GlobOK C (DD (fun i => D i ∧ i < h'.next) ρ) ρ := fun g hg => by
    obtain ⟨h1, h2⟩ := gl g hg
    exact ⟨⟨⟨h1.1, hrd.glt g hg⟩, h1.2⟩, h2⟩
  have hinS : InDL (DD (fun i => D i ∧ i < h'.next) ρ) vs := InDL_iff.2 fun v hv => InD.mono' (fun i m hi => ⟨⟨hi.1.1, hi.2⟩, hi.1.2⟩) v (InDL_iff.1 (in_ltL hin hrd.lt) v hv)
  refine (rn.fn _ _ _ _ _ g1 s0 Γ1.h.next _ ρ w0 (Nat.le_refl _) glS hinS relS).mono fun e w' => ?_
  rintro ⟨D', ρ', rfl, r', n', _⟩
  have same : ∀ c, c < w0.heap.size → w'.heap[c]? = w0.heap[c]? := fun c hc => n'.frame c hc fun i _ h2 h3 => by
    have h3 : i < h'.next := h3
    omega
  have hval : conc ρ' v1 = conc ρ v := by
    subst hq
    exact (conc_uniq hpl g4 hrv ρ').trans (conc_bare hbv ρ ρ')
  refine ⟨D, ρ, by rw [hval], ⟨rel.lt, rel.wf, fun i b hi hb => ?_, rel.clo, rel.inj, rel.own, rel.old, r'.base⟩, ⟨fun _ h => h, fun _ h => .inl h, fun _ _ => ⟨rfl, rfl, rfl, rfl⟩, fun c hc _ => same c hc, fun i _ h1 h2 => by omega, n'.size, Nat.le_refl _, Nat.le_refl _, n'.os, n'.tape, n'.output⟩, bare_in hbv⟩
  obtain ⟨o, q1, q2⟩ := rel.has i b hi hb
  exact ⟨o, by rw [same _ (Array.getElem?_eq_some_iff.1 q1).1]; exact q1, q2⟩
end
end Go.Proofs.YtmlemnbhjbaedaaGreatDoor

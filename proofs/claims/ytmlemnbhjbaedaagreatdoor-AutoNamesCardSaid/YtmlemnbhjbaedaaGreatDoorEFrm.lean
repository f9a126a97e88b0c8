/-
  A run on a small memory, carried into a large one: blocks under other numbers. Nothing here speaks of a program.
-/
import Derived.Test.YtmlemnbhjbaedaaGreatDoorETop
namespace Go.Proofs.YtmlemnbhjbaedaaGreatDoor
open Go.RowKit
set_option linter.unusedSimpArgs false
set_option linter.unusedVariables false

mutual
/-- a value whose blocks go by other numbers -/
noncomputable def ren (σ : Nat → Nat) : V → V
  | .ptr b o => .ptr (σ b) o
  | .sl b base off len esz lim => .sl (σ b) base off len esz lim
  | .map b => .map (σ b)
  | .yield b => .yield (σ b)
  | .fn f a c => .fn f (renL σ a) (renL σ c)
  | .iface t v => .iface t (ren σ v)
  | .agg n l => .agg n (renL σ l)
  | .arr n e l => .arr n e (renL σ l)
  | .tup l => .tup (renL σ l)
  | .undef => .undef
  | .bool b => .bool b
  | .int k n => .int k n
  | .str s => .str s
  | .nilp => .nilp
  | .nils => .nils
  | .nilm => .nilm
  | .nilf => .nilf
  | .nili => .nili
noncomputable def renL (σ : Nat → Nat) : List V → List V
  | [] => []
  | v :: l => ren σ v :: renL σ l
end
/-- the places under the other numbers -/
noncomputable def Env.via (ρ : Env) (σ : Nat → Nat) : Env := ⟨fun i => ρ.b (σ i), fun i => ρ.pre (σ i), fun i => ρ.cap (σ i), fun i => ρ.l (σ i)⟩
mutual
theorem conc_ren (ρ : Env) (σ : Nat → Nat) : ∀ v : V, conc (ρ.via σ) v = conc ρ (ren σ v)
  | .ptr _ _ => rfl
  | .sl _ _ _ _ _ lim => by cases lim <;> rfl
  | .map _ => rfl
  | .yield _ => rfl
  | .fn _ a c => by simp only [conc, ren, concL_ren ρ σ a, concL_ren ρ σ c]
  | .iface _ v => by simp only [conc, ren, conc_ren ρ σ v]
  | .agg _ l => by simp only [conc, ren, concC_ren ρ σ l]
  | .arr _ e l => by simp only [conc, ren, concE_ren ρ σ e l]
  | .tup l => by simp only [conc, ren, concL_ren ρ σ l]
  | .undef => rfl
  | .bool _ => rfl
  | .int _ _ => rfl
  | .str _ => rfl
  | .nilp => rfl
  | .nils => rfl
  | .nilm => rfl
  | .nilf => rfl
  | .nili => rfl
theorem concL_ren (ρ : Env) (σ : Nat → Nat) : ∀ l : List V, concL (ρ.via σ) l = concL ρ (renL σ l)
  | [] => rfl
  | v :: l => by simp only [concL, renL, conc_ren ρ σ v, concL_ren ρ σ l]
theorem concC_ren (ρ : Env) (σ : Nat → Nat) : ∀ l : List V, concC (ρ.via σ) l = concC ρ (renL σ l)
  | [] => rfl
  | v :: l => by simp only [concC, renL, cellsV_ren ρ σ v, concC_ren ρ σ l]
theorem concE_ren (ρ : Env) (σ : Nat → Nat) (e : Nat) : ∀ l : List V, concE (ρ.via σ) e l = concE ρ e (renL σ l)
  | [] => rfl
  | v :: l => by simp only [concE, renL, cellsV_ren ρ σ v, concE_ren ρ σ e l]
theorem cellsV_ren (ρ : Env) (σ : Nat → Nat) : ∀ v : V, cellsV (ρ.via σ) v = cellsV ρ (ren σ v)
  | .ptr _ _ => rfl
  | .sl _ _ _ _ _ lim => by cases lim <;> rfl
  | .map _ => rfl
  | .yield _ => rfl
  | .fn _ a c => by simp only [cellsV, ren, concL_ren ρ σ a, concL_ren ρ σ c]
  | .iface _ v => by simp only [cellsV, ren, conc_ren ρ σ v]
  | .agg _ l => by simp only [cellsV, ren, concC_ren ρ σ l]
  | .arr _ e l => by simp only [cellsV, ren, concE_ren ρ σ e l]
  | .tup l => rfl
  | .undef => rfl
  | .bool _ => rfl
  | .int _ _ => rfl
  | .str _ => rfl
  | .nilp => rfl
  | .nils => rfl
  | .nilm => rfl
  | .nilf => rfl
  | .nili => rfl
end
mutual
theorem in_ren {D : Nat → Nat → Prop} (σ : Nat → Nat) : ∀ v : V, InD (fun i m => D (σ i) m) v ↔ InD D (ren σ v)
  | .ptr _ _ => Iff.rfl
  | .sl _ _ _ _ _ _ => Iff.rfl
  | .map _ => Iff.rfl
  | .yield _ => Iff.rfl
  | .fn _ a c => by simp only [InD, ren, inL_ren σ a, inL_ren σ c]
  | .iface _ v => by simp only [InD, ren, in_ren σ v]
  | .agg _ l => by simp only [InD, ren, inL_ren σ l]
  | .arr _ _ l => by simp only [InD, ren, inL_ren σ l]
  | .tup l => by simp only [InD, ren, inL_ren σ l]
  | .undef => Iff.rfl
  | .bool _ => Iff.rfl
  | .int _ _ => Iff.rfl
  | .str _ => Iff.rfl
  | .nilp => Iff.rfl
  | .nils => Iff.rfl
  | .nilm => Iff.rfl
  | .nilf => Iff.rfl
  | .nili => Iff.rfl
theorem inL_ren {D : Nat → Nat → Prop} (σ : Nat → Nat) : ∀ l : List V, InDL (fun i m => D (σ i) m) l ↔ InDL D (renL σ l)
  | [] => Iff.rfl
  | v :: l => by simp only [InDL, renL, in_ren σ v, inL_ren σ l]
end
/-- a block under other numbers -/
noncomputable def renB (σ : Nat → Nat) : Blk → Blk
  | .cells ty v => .cells ty (ren σ v)
  | .ro v => .ro (ren σ v)
  | b => b
/-- cells alone -/
noncomputable def Blk.plain : Blk → Bool
  | .cells _ _ => true
  | .ro _ => true
  | _ => false
theorem knB_ren {ρ : Env} {σ : Nat → Nat} {i : Nat} {b : Blk} {o : Obj} (hb : b.plain = true) : KnB (ρ.via σ) i b o ↔ KnB ρ (σ i) (renB σ b) o := by
  cases b with
  | cells ty v =>
    have e : (ren σ v).size = v.size := by
      have h1 := cellsV_length ρ (ren σ v)
      have h2 := cellsV_length (ρ.via σ) v
      rw [cellsV_ren] at h2
      omega
    simp only [KnB, renB, cellsV_ren, e]
    exact Iff.rfl
  | ro v =>
    have e : (ren σ v).size = v.size := by
      have h1 := cellsV_length ρ (ren σ v)
      have h2 := cellsV_length (ρ.via σ) v
      rw [cellsV_ren] at h2
      omega
    simp only [KnB, renB, cellsV_ren, e]
    exact Iff.rfl
  | loop => cases hb
  | dfr => cases hb
  | map => cases hb
theorem own_ren {σ : Nat → Nat} {b : Blk} : (renB σ b).own = b.own := by cases b <;> rfl
theorem inB_ren {D : Nat → Nat → Prop} {σ : Nat → Nat} {b : Blk} (hb : b.plain = true) : InB (fun i m => D (σ i) m) b ↔ InB D (renB σ b) := by
  cases b with
  | cells ty v => exact in_ren σ v
  | ro v => exact in_ren σ v
  | loop => cases hb
  | dfr => cases hb
  | map => cases hb
theorem conc_bare {v : V} (h : bare v = true) (ρ ρ' : Env) : conc ρ' v = conc ρ v := conc_agree (D := fun _ _ => False) (fun _ _ h => h.elim) (bare_in h)
/-- a small memory within a large one: what the run makes of it -/
structure Small (C : Cfg) (σ : Nat → Nat) (hs hs' h h' : Heap) : Prop where
  glob : ∀ g, C.glob g = true → (hs.get g).isSome = true ∧ σ g = g
  wf : ∀ i, hs.next ≤ i → hs.get i = none
  blk : ∀ i b, hs.get i = some b → b.plain = true ∧ h.get (σ i) = some (renB σ b)
  inj : ∀ i j, (hs.get i).isSome = true → (hs.get j).isSome = true → σ i = σ j → i = j
  next : h'.next = h.next
  wmin : h'.wmin ≤ h.wmin
  wmin' : ∀ i, (hs.get i).isSome = true → hs'.wmin ≤ i → h'.wmin ≤ σ i
  own : ∀ i b, hs.get i = some b → hs'.wmin ≤ i → b.own = true
  own' : ∀ i b b', hs.get i = some b → hs'.get i = some b' → b'.own = b.own
  got : ∀ i, (hs.get i).isSome = true → h'.get (σ i) = (hs'.get i).map (renB σ)
  same : ∀ k, (∀ i, (hs.get i).isSome = true → k ≠ σ i) → h'.get k = h.get k
theorem small_calls {P : Program} {C : Cfg} (hmx : P.follows .mixedOrders = true) (hC : CfgOK P C) (hF : FnsOK P C) (hK : KnownOK P C) {n : Nat} {f : FuncId} {vs : List V} {hs hs' h h' : Heap} {v : V} {σ : Nat → Nat} (hr : runFn C n f vs hs = some (v, hs')) (sm : Small C σ hs hs' h h') (hv : bare v = true)
    {s0 : World} {U : Nat} {D : Nat → Prop} {ρ : Env} {w : World} (gl : GlobOK C (DD D ρ) ρ) (hD : ∀ i, (hs.get i).isSome = true → D (σ i)) (hin : InDL (DD (fun i => (hs.get i).isSome = true) (ρ.via σ)) vs)
    (clo : ∀ i b, hs.get i = some b → InB (DD (fun i => (hs.get i).isSome = true) (ρ.via σ)) b) (clo' : ∀ i b, (hs.get i).isSome = true → hs'.get i = some b → b.plain = true ∧ InB (DD (fun i => (hs.get i).isSome = true) (ρ.via σ)) b)
    (rel : Rel s0 U D ρ h w) : Calls P f (concL ρ (renL σ vs)).toArray w (FnPost s0 U D ρ h w v h') := by
  have some_of : ∀ {i b}, hs.get i = some b → (hs.get i).isSome = true := fun h => by rw [h]; rfl
  have blk_of : ∀ {i}, (hs.get i).isSome = true → ∃ b, hs.get i = some b := fun h => Option.isSome_iff_exists.1 h
  have lt_of : ∀ {i}, (hs.get i).isSome = true → i < hs.next := fun {i} hi => by
    rcases Nat.lt_or_ge i hs.next with h | h
    · exact h
    · rw [sm.wf i h] at hi; cases hi
  have hm := (run_ok hmx hC hF hK n).self.fnMono _ _ _ _ _ hr
  have relS : Rel s0 hs'.next (fun i => (hs.get i).isSome = true) (ρ.via σ) hs w := by
    refine ⟨fun i hi => .inl (lt_of hi), sm.wf, fun i b hi hb => ?_, fun i b hi hb => clo i b hb, fun i j b c hi hj hb hc hob hoc hne => ?_, fun i b hi hb ho => ?_, fun i j b c hi hj hb hc hob hoc => ?_, rel.base⟩
    · obtain ⟨hp, hg⟩ := sm.blk i b hb
      obtain ⟨o, h1, h2⟩ := rel.has (σ i) _ (hD i hi) hg
      exact ⟨o, h1, (knB_ren hp).2 h2⟩
    · exact rel.inj (σ i) (σ j) _ _ (hD i hi) (hD j hj) (sm.blk i b hb).2 (sm.blk j c hc).2 (own_ren.trans hob) (own_ren.trans hoc) fun e => hne (sm.inj i j hi hj e)
    · exact rel.own (σ i) _ (hD i hi) (sm.blk i b hb).2 (own_ren.trans ho)
    · exact rel.old (σ i) (σ j) _ _ (hD i hi) (hD j hj) (sm.blk i b hb).2 (sm.blk j c hc).2 (own_ren.trans hob) (own_ren.trans hoc)
  have glS : GlobOK C (DD (fun i => (hs.get i).isSome = true) (ρ.via σ)) (ρ.via σ) := fun g hg => by
    obtain ⟨h1, h2⟩ := sm.glob g hg
    obtain ⟨_, h3, h4⟩ := gl g hg
    exact ⟨⟨h1, Nat.zero_le _⟩, by show ρ.b (σ g) = g; rw [h2]; exact h3, by show ρ.pre (σ g) = 0; rw [h2]; exact h4⟩
  have key := (run_ok hmx hC hF hK n).self.fn _ _ _ _ _ hr s0 hs'.next _ _ w (Nat.le_refl _) glS hin relS
  rw [concL_ren] at key
  refine key.mono fun e w' => ?_
  rintro ⟨D', ρ', rfl, r', n', _⟩
  have env : ∀ i, (hs.get i).isSome = true → ρ'.b i = ρ.b (σ i) ∧ ρ'.pre i = ρ.pre (σ i) ∧ ρ'.cap i = ρ.cap (σ i) ∧ ρ'.l i = ρ.l (σ i) := fun i hi => n'.env i (.inl (lt_of hi))
  have ag : Env.Agree (DD (fun i => (hs.get i).isSome = true) (ρ.via σ)) ρ' (ρ.via σ) := fun i m hi => by
    obtain ⟨e1, e2, e3, e4⟩ := env i hi.1
    exact ⟨e1.symm, e2.symm, e3.symm, e4.symm⟩
  have up : ∀ {b}, InB (DD (fun i => (hs.get i).isSome = true) (ρ.via σ)) b → InB (fun i m => DD D ρ (σ i) m) b := fun h => h.mono fun i m hi => ⟨hD i hi.1, hi.2⟩
  -- a block of the large memory
  have get : ∀ k b, h'.get k = some b → (∃ i b1 b0, k = σ i ∧ hs.get i = some b1 ∧ hs'.get i = some b0 ∧ b = renB σ b0 ∧ h.get k = some (renB σ b1) ∧ b.own = (renB σ b1).own) ∨ ((∀ i, (hs.get i).isSome = true → k ≠ σ i) ∧ h.get k = some b) := fun k b hb => by
    by_cases hk : ∃ i, (hs.get i).isSome = true ∧ k = σ i
    · obtain ⟨i, hi, rfl⟩ := hk
      obtain ⟨b1, h1⟩ := blk_of hi
      rw [sm.got i hi] at hb
      cases h0 : hs'.get i with
      | none => rw [h0] at hb; cases hb
      | some b0 =>
        rw [h0] at hb
        cases hb
        exact .inl ⟨i, b1, b0, rfl, h1, h0, rfl, (sm.blk i b1 h1).2, by rw [own_ren, own_ren]; exact sm.own' i b1 b0 h1 h0⟩
    · have hk' : ∀ i, (hs.get i).isSome = true → k ≠ σ i := fun i hi e => hk ⟨i, hi, e⟩
      rw [sm.same k hk'] at hb
      exact .inr ⟨hk', hb⟩
  have old : ∀ k b, h'.get k = some b → ∃ b1, h.get k = some b1 ∧ b1.own = b.own := fun k b hb => by
    rcases get k b hb with ⟨i, b1, b0, _, _, _, _, h2, h3⟩ | ⟨_, h2⟩
    · exact ⟨_, h2, h3.symm⟩
    · exact ⟨_, h2, rfl⟩
  refine ⟨D, ρ, by rw [conc_bare hv], ⟨?_, ?_, ?_, ?_, ?_, ?_, ?_, r'.base⟩, ?_, bare_in hv⟩
  · intro i hi; rw [sm.next]; exact rel.lt i hi
  · intro k hk
    rw [sm.next] at hk
    cases hb : h'.get k with
    | none => rfl
    | some b =>
      obtain ⟨b1, h1, _⟩ := old k b hb
      rw [rel.wf k hk] at h1; cases h1
  · intro k b hk hb
    rcases get k b hb with ⟨i, b1, b0, rfl, h1, h0, rfl, _, _⟩ | ⟨hk', h1⟩
    · have hi := some_of h1
      obtain ⟨o, q1, q2⟩ := r'.has i b0 (n'.sub i hi) h0
      obtain ⟨hp, hc⟩ := clo' i b0 hi h0
      have q3 := KnB.agree ag (m := 0) ⟨hi, Nat.zero_le _⟩ hc q2
      rw [(env i hi).1] at q1
      exact ⟨o, q1, (knB_ren hp).1 q3⟩
    · obtain ⟨o, q1, q2⟩ := rel.has k b hk h1
      refine ⟨o, ?_, q2⟩
      rw [n'.frame _ (Array.getElem?_eq_some_iff.1 q1).1 fun i hi hw hl => ?_]
      · exact q1
      · obtain ⟨b1, g1⟩ := blk_of hi
        have ho := sm.own i b1 g1 hw
        show ρ.b (σ i) ≠ ρ.b k
        by_cases hob : b.own = true
        · exact rel.inj (σ i) k _ _ (hD i hi) hk (sm.blk i b1 g1).2 h1 (own_ren.trans ho) hob fun e => hk' i hi e.symm
        · exact fun e => rel.old k (σ i) b _ hk (hD i hi) h1 (sm.blk i b1 g1).2 (by simpa using hob) (own_ren.trans ho) e.symm
  · intro k b hk hb
    rcases get k b hb with ⟨i, b1, b0, rfl, h1, h0, rfl, _, _⟩ | ⟨hk', h1⟩
    · obtain ⟨hp, hc⟩ := clo' i b0 (some_of h1) h0
      exact (inB_ren hp).1 (up hc)
    · exact rel.clo k b hk h1
  · intro i j b c hi hj hb hc hob hoc hne
    obtain ⟨b1, h1, e1⟩ := old i b hb
    obtain ⟨c1, h2, e2⟩ := old j c hc
    exact rel.inj i j b1 c1 hi hj h1 h2 (e1.trans hob) (e2.trans hoc) hne
  · intro i b hi hb ho
    obtain ⟨b1, h1, e1⟩ := old i b hb
    exact rel.own i b1 hi h1 (e1.trans ho)
  · intro i j b c hi hj hb hc hob hoc
    obtain ⟨b1, h1, e1⟩ := old i b hb
    obtain ⟨c1, h2, e2⟩ := old j c hc
    exact rel.old i j b1 c1 hi hj h1 h2 (e1.trans hob) (e2.trans hoc)
  · refine ⟨fun _ h => h, fun _ h => .inl h, fun _ _ => ⟨rfl, rfl, rfl, rfl⟩, fun c hc hno => ?_, fun i _ q1 q2 => by rw [sm.next] at q2; omega, n'.size, sm.wmin, Nat.le_of_eq sm.next.symm, n'.os, n'.tape, n'.output⟩
    exact n'.frame c hc fun i hi hw hl => hno (σ i) (hD i hi) (sm.wmin' i hi hw) (rel.blt (sm.blk i _ (blk_of hi).choose_spec).2)
end Go.Proofs.YtmlemnbhjbaedaaGreatDoor

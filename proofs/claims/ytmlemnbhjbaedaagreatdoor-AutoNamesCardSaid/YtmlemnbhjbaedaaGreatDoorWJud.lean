/-
  What code does with values that hold what they hold: laws for operations, regions, control. Nothing here speaks of a program.
-/
import Derived.Test.YtmlemnbhjbaedaaGreatDoorWMono
namespace Go.Proofs.YtmlemnbhjbaedaaGreatDoor
open Go.RowKit
set_option linter.unusedSimpArgs false
set_option linter.unusedVariables false

noncomputable def wantW (ops : Array Oper) (fr : FrW) (o : Oper) : Option Bool := match o.guard with
  | none => some true
  | some (j, b) => match (ops[j]?).bind (·.dst) with
    | none => some false
    | some t => match getW fr t with
      | some (.bool c) => some (c == b)
      | some .undef => some false
      | _ => none
section
variable {C : Cfg} {G : Nat → Option W}
theorem want_sim {Γ : Ctx} {fr : FrW} {frv : Tr V} {ops : Array Oper} {o : Oper} {b : Bool} (hf : FRel Γ fr frv) (h : wantW ops fr o = some b) : wantV ops frv o = some b := by
  unfold wantW at h
  unfold wantV
  split at h
  · rename_i hg
    try rw [hg]
    exact h
  · rename_i j b' hg
    try rw [hg]
    try simp only
    split at h
    · rename_i ho
      try rw [ho]
      exact h
    · rename_i t ho
      try rw [ho]
      try simp only
      split at h
      · rename_i c hc
        obtain ⟨v, h1, h2⟩ := hf _ _ hc
        rw [RV_bool] at h2; subst h2
        rw [h1]; exact h
      · rename_i hc
        obtain ⟨v, h1, h2⟩ := hf _ _ hc
        rw [RV_undef] at h2; subst h2
        rw [h1]; exact h
      · cases h
theorem FRel.put {Γ : Ctx} {fr : FrW} {frv : Tr V} (hf : FRel Γ fr frv) {d : Option Tmp} {w : W} {v : V} (hv : RV Γ w v) : FRel Γ (putW fr d w) (putT frv d v) := by
  cases d with
  | none => exact hf
  | some t =>
    intro k u hk
    simp only [putW, getW] at hk
    simp only [putT, Tr.get_set]
    split at hk
    · rename_i e
      rw [Nat.beq_eq] at e
      subst e
      cases hk
      exact ⟨v, by rw [if_pos rfl], hv⟩
    · rename_i e
      have hne : k ≠ t := fun e2 => by subst e2; simp at e
      obtain ⟨v', h1, h2⟩ := hf k u hk
      exact ⟨v', by rw [if_neg hne]; exact h1, h2⟩

/-! ### one operation -/
/-- what an operation does, from every state of that kind on -/
noncomputable def Step (C : Cfg) (G : Nat → Option W) (o : Oper) (fr : FrW) (hp : HpW) (nw : Nat) (R : Res) (post : W → HpW → Nat → Res → Option EvW → Prop) : Prop :=
  ∀ Γ X frv, Γ.nw = nw → SatH C G Γ hp X R → FRel Γ fr frv → ∃ n w hp' R' ev v h' Γ' X', post w hp' Γ'.nw R' ev ∧
    opV (Sn C n) C frv Γ.h o = some (v, h') ∧ (match ev with
      | none => pureV C frv o.type o.op = some v ∧ h' = Γ.h
      | some e => pureV C frv o.type o.op = none ∧ ∀ H1 : Heap, H1.next = Γ.h.next → Γ.h.wmin = Γ.h.next → EvR Γ hp e (evOf C frv H1 h' o.op)) ∧
    Γ'.h = h' ∧ Γ.Le Γ' ∧ SatH C G Γ' hp' X' R' ∧ Frm Γ.nw Γ hp X Γ' hp' X' ∧ RV Γ' w v
theorem step_pure {o : Oper} {fr : FrW} {hp : HpW} {nw : Nat} {R : Res} {w : W} {post : W → HpW → Nat → Res → Option EvW → Prop} (h : pureW C G fr o.op = some w) (hp' : post w hp nw R none) : Step C G o fr hp nw R post := fun Γ X frv hnw s hf => by
  obtain ⟨v, h1, h2⟩ := pure_sim (rt := o.type) hf s.gl h
  subst hnw
  exact ⟨0, w, hp, R, none, v, Γ.h, Γ, X, hp', by simp only [opV, h1], ⟨h1, rfl⟩, rfl, Ctx.Le.refl _, s, Frm.refl _ _ _ _, h2⟩
theorem step_mem {o : Oper} {fr : FrW} {hp hp2 : HpW} {nw nw2 : Nat} {R : Res} {w : W} {ev : EvW} {post : W → HpW → Nat → Res → Option EvW → Prop} (h : opHW C G fr hp nw o.op = some (w, hp2, nw2, ev)) (hp' : post w hp2 nw2 R (some ev)) : Step C G o fr hp nw R post := fun Γ X frv hnw s hf => by
  subst hnw
  obtain ⟨v, h', Γ', h1, h2, h3, h4⟩ := opH_sim (rt := o.type) hf s h
  exact ⟨0, w, hp2, R, some ev, v, h', Γ', X, by rw [h3.nw]; exact hp', by simp only [opV, h1, h2], ⟨h1, h4⟩, h3.hh, h3.le, h3.sat, h3.frm, h3.val⟩

/-! ### regions -/
/-- what comes behind the operations of a region -/
noncomputable def OpW (C : Cfg) (G : Nat → Option W) (m : Nat) (ops : Array Oper) (l : List Oper) (fr : FrW) (hp : HpW) (nw : Nat) (R : Res) (K : FrW → HpW → Nat → Res → Prop) : Prop :=
  ∀ Γ X frv, Γ.nw = nw → m ≤ nw → SatH C G Γ hp X R → FRel Γ fr frv → ∃ n frv' Γ' X' fr' hp' R', evalOps (Sn C n) C ops l frv Γ.h = some (frv', Γ'.h) ∧
    SatH C G Γ' hp' X' R' ∧ FRel Γ' fr' frv' ∧ Frm m Γ hp X Γ' hp' X' ∧ K fr' hp' Γ'.nw R'
section
variable {m : Nat} {ops : Array Oper} {l : List Oper} {fr : FrW} {hp : HpW} {nw : Nat} {R : Res} {K : FrW → HpW → Nat → Res → Prop} {o : Oper}
theorem op_nil (h : K fr hp nw R) : OpW C G m ops [] fr hp nw R K := fun Γ X frv hnw hm s hf => ⟨0, frv, Γ, X, fr, hp, R, rfl, s, hf, Frm.refl _ _ _ _, hnw ▸ h⟩
theorem op_step (hw : wantW ops fr o = some true) (h : Step C G o fr hp nw R fun w hp' nw' R' _ => OpW C G m ops l (putW fr o.dst w) hp' nw' R' K) : OpW C G m ops (o :: l) fr hp nw R K := fun Γ X frv hnw hm s hf => by
  obtain ⟨n, w, hp', R', ev, v, h', Γ', X', h1, h2, h3, rfl, h5, h6, h7, h8⟩ := h Γ X frv hnw s hf
  obtain ⟨n', frv', Γ2, X2, fr2, hp2, R2, g1, g2, g3, g4, g5⟩ := h1 Γ' X' (putT frv o.dst v) rfl (Nat.le_trans (hnw ▸ hm) h5.nw) h6 ((hf.mono h5).put h8)
  refine ⟨max n n', frv', Γ2, X2, fr2, hp2, R2, ?_, g2, g3, (h7.le (hnw ▸ hm) (Nat.le_refl _)).trans g4, g5⟩
  have a1 := opV_le (run_le C (Nat.le_max_left n n')).1 h2
  have a2 := evalOps_le (run_le C (Nat.le_max_right n n')).1 l g1
  simp only [evalOps, want_sim hf hw, a1]
  exact a2
theorem op_skip (hw : wantW ops fr o = some false) (h : OpW C G m ops l (putW fr o.dst .undef) hp nw R K) : OpW C G m ops (o :: l) fr hp nw R K := fun Γ X frv hnw hm s hf => by
  obtain ⟨n', frv', Γ2, X2, fr2, hp2, R2, g1, g2⟩ := h Γ X (putT frv o.dst .undef) hnw hm s (hf.put (RV_undef.2 rfl))
  exact ⟨n', frv', Γ2, X2, fr2, hp2, R2, by simp only [evalOps, want_sim hf hw]; exact g1, g2⟩
theorem op_pure {w : W} (hw : wantW ops fr o = some true) (hx : pureW C G fr o.op = some w) (h : OpW C G m ops l (putW fr o.dst w) hp nw R K) : OpW C G m ops (o :: l) fr hp nw R K := op_step hw (step_pure hx h)
theorem op_mem {w : W} {hp2 : HpW} {nw2 : Nat} {ev : EvW} (hw : wantW ops fr o = some true) (hx : opHW C G fr hp nw o.op = some (w, hp2, nw2, ev)) (h : OpW C G m ops l (putW fr o.dst w) hp2 nw2 R K) : OpW C G m ops (o :: l) fr hp nw R K := op_step hw (step_mem hx h)
/-- a value by another name -/
theorem op_eq {fr' : FrW} {hp' : HpW} {nw' : Nat} (e1 : fr = fr') (e2 : hp = hp') (e3 : nw = nw') (h : OpW C G m ops l fr' hp' nw' R K) : OpW C G m ops l fr hp nw R K := by subst e1; subst e2; subst e3; exact h
end

/-! ### regions that draw their order -/
noncomputable def EvW.clash : EvW → EvW → Bool
  | .loadO _, .loadO _ => false
  | .loadO _, .loadF => false
  | .loadF, .loadO _ => false
  | .loadF, .loadF => false
  | .loadO a, .storeO b => Nat.beq a b
  | .storeO a, .loadO b => Nat.beq a b
  | .storeO a, .storeO b => Nat.beq a b
  | .loadF, .storeO _ => false
  | .gen, .loadO _ => false
  | .gen, .loadF => false
  | .loadO _, .gen => false
  | .loadF, .gen => false
  | .gen, .gen => false
  | _, _ => true
noncomputable def evsW (ops : Array Oper) (j : Nat) (x : EvW) : List (Nat × EvW) → Bool
  | [] => true
  | (k, y) :: l => (match y.clash x with | true => reachB ops ops.size j k | false => true) && evsW ops j x l
/-- what was done, seen later -/
noncomputable def EvP (Γ : Ctx) (hp : HpW) : EvW → Ev → Prop
  | .loadO b, e => ∃ c, e = .load c ∧ c < Γ.h.next ∧ b < Γ.nw ∧ Γ.σ b = c ∧ ∀ k x, hget hp k = some x → Γ.σ k = c → k = b
  | .loadF, e => ∃ c, e = .load c ∧ Γ.D c
  | .storeO b, e => ∃ c, e = .store c ∧ c < Γ.h.next ∧ b < Γ.nw ∧ Γ.σ b = c ∧ ∀ k x, hget hp k = some x → Γ.σ k = c → k = b
  | .gen, e => e = .gen
  | .dirty, _ => True
noncomputable def EsP (Γ : Ctx) (hp : HpW) : List (Nat × EvW) → List (Nat × Ev) → Prop
  | [], l => l = []
  | (i, x) :: es, l => ∃ y l', l = (i, y) :: l' ∧ EvP Γ hp x y ∧ EsP Γ hp es l'
theorem EvP.later {Γ Γ' : Ctx} {hp hp' : HpW} {X X' : Nat → Prop} {x : EvW} {y : Ev} (le : Γ.Le Γ') (f : Frm Γ.nw Γ hp X Γ' hp' X') (h : EvP Γ hp x y) : EvP Γ' hp' x y := by
  have key : ∀ {b c}, c < Γ.h.next → b < Γ.nw → Γ.σ b = c → (∀ k x, hget hp k = some x → Γ.σ k = c → k = b) → c < Γ'.h.next ∧ b < Γ'.nw ∧ Γ'.σ b = c ∧ ∀ k x, hget hp' k = some x → Γ'.σ k = c → k = b := fun {b c} h1 h2 h3 h4 => by
    refine ⟨Nat.lt_of_lt_of_le h1 f.next, Nat.lt_of_lt_of_le h2 le.nw, (le.σ b h2).trans h3, fun k z hk hc => ?_⟩
    rcases Nat.lt_or_ge k Γ.nw with hlt | hge
    · obtain ⟨u, hu⟩ := f.oext k z hlt hk
      exact h4 k u hu (by rw [← hc, le.σ k hlt])
    · rcases f.onum k z hge hk with h5 | ⟨j, u, h5, h6, h7⟩
      · omega
      · have := h4 j u h6 (by rw [h7, hc])
        omega
  cases x with
  | loadO b =>
    obtain ⟨c, rfl, h1, h2, h3, h4⟩ := h
    exact ⟨c, rfl, key h1 h2 h3 h4⟩
  | storeO b =>
    obtain ⟨c, rfl, h1, h2, h3, h4⟩ := h
    exact ⟨c, rfl, key h1 h2 h3 h4⟩
  | loadF =>
    obtain ⟨c, rfl, h1⟩ := h
    exact ⟨c, rfl, le.D c h1⟩
  | gen => exact h
  | dirty => exact h
theorem EsP.later {Γ Γ' : Ctx} {hp hp' : HpW} {X X' : Nat → Prop} (le : Γ.Le Γ') (f : Frm Γ.nw Γ hp X Γ' hp' X') : ∀ {es : List (Nat × EvW)} {l : List (Nat × Ev)}, EsP Γ hp es l → EsP Γ' hp' es l
  | [], _, h => h
  | (i, x) :: es, _, h => by
    obtain ⟨y, l', rfl, h1, h2⟩ := h
    exact ⟨y, l', rfl, h1.later le f, EsP.later le f h2⟩
theorem EvR.keep {Γ : Ctx} {hp : HpW} {X : Nat → Prop} {R : Res} (s : SatH C G Γ hp X R) {x : EvW} {y : Ev} (h : EvR Γ hp x y) : EvP Γ hp x y := by
  have key : ∀ {b z}, hget hp b = some z → Γ.σ b < Γ.h.next ∧ b < Γ.nw ∧ Γ.σ b = Γ.σ b ∧ ∀ k x, hget hp k = some x → Γ.σ k = Γ.σ b → k = b := fun {b z} hz => by
    obtain ⟨h1, _, _, v, h2, _⟩ := s.own b z.1 z.2 hz
    refine ⟨?_, h1, rfl, fun k u hk e => s.inj k b u z hk hz e⟩
    rcases Nat.lt_or_ge (Γ.σ b) Γ.h.next with h | h
    · exact h
    · rw [s.wf _ h] at h2; cases h2
  cases x with
  | loadO b => obtain ⟨z, hz, rfl⟩ := h; exact ⟨_, rfl, key hz⟩
  | storeO b => obtain ⟨z, hz, rfl⟩ := h; exact ⟨_, rfl, key hz⟩
  | loadF => obtain ⟨c, h1, rfl⟩ := h; exact ⟨c, rfl, h1⟩
  | gen => exact h
  | dirty => exact h
theorem clash_sim {Γ : Ctx} {hp : HpW} {X : Nat → Prop} {R : Res} (s : SatH C G Γ hp X R) {x y : EvW} {x' y' : Ev} (hy : EvP Γ hp y y') (hx : EvR Γ hp x x') (h : y.clash x = false) : y'.clash x' = false := by
  have ne : ∀ {a b : Nat}, Nat.beq a b = false → a ≠ b := fun h e => by subst e; simp at h
  have beq : ∀ {a b : Nat}, a ≠ b → Nat.beq a b = false := fun {a b} h => by
    cases hq : Nat.beq a b with
    | true => exact absurd (Nat.eq_of_beq_eq_true hq) h
    | false => rfl
  cases y <;> cases x <;> simp only [EvW.clash] at h <;> try (cases h; done)
  case loadO.loadO => obtain ⟨_, rfl, _⟩ := hy; obtain ⟨_, _, rfl⟩ := hx; rfl
  case loadO.loadF => obtain ⟨_, rfl, _⟩ := hy; obtain ⟨_, _, rfl⟩ := hx; rfl
  case loadO.storeO a b =>
    obtain ⟨c, rfl, h1, h2, h3, h4⟩ := hy
    obtain ⟨z, hz, rfl⟩ := hx
    exact beq fun e => ne h (h4 b z hz e.symm).symm
  case loadO.gen => obtain ⟨_, rfl, _⟩ := hy; rw [show x' = .gen from hx]; rfl
  case loadF.loadO => obtain ⟨_, rfl, _⟩ := hy; obtain ⟨_, _, rfl⟩ := hx; rfl
  case loadF.loadF => obtain ⟨_, rfl, _⟩ := hy; obtain ⟨_, _, rfl⟩ := hx; rfl
  case loadF.storeO b =>
    obtain ⟨c, rfl, h1⟩ := hy
    obtain ⟨z, hz, rfl⟩ := hx
    exact beq fun e => (s.own b z.1 z.2 hz).2.1 (e ▸ h1)
  case loadF.gen => obtain ⟨_, rfl, _⟩ := hy; rw [show x' = .gen from hx]; rfl
  case storeO.loadO a b =>
    obtain ⟨c, rfl, h1, h2, h3, h4⟩ := hy
    obtain ⟨z, hz, rfl⟩ := hx
    exact beq fun e => ne h (h4 b z hz e.symm).symm
  case storeO.storeO a b =>
    obtain ⟨c, rfl, h1, h2, h3, h4⟩ := hy
    obtain ⟨z, hz, rfl⟩ := hx
    exact beq fun e => ne h (h4 b z hz e.symm).symm
  case gen.loadO => rw [show y' = .gen from hy]; obtain ⟨_, _, rfl⟩ := hx; rfl
  case gen.loadF => rw [show y' = .gen from hy]; obtain ⟨_, _, rfl⟩ := hx; rfl
  case gen.gen => rw [show y' = .gen from hy, show x' = .gen from hx]; rfl
theorem evs_sim {Γ : Ctx} {hp : HpW} {X : Nat → Prop} {R : Res} (s : SatH C G Γ hp X R) {ops : Array Oper} {j : Nat} {x : EvW} {x' : Ev} (hx : EvR Γ hp x x') : ∀ {es : List (Nat × EvW)} {l : List (Nat × Ev)}, EsP Γ hp es l → evsW ops j x es = true → evsOK ops j x' l = true
  | [], _, hl, _ => by rw [show _ = [] from hl]; rfl
  | (k, y) :: es, _, hl, h => by
    obtain ⟨y', l', rfl, h1, h2⟩ := hl
    simp only [evsW, Bool.and_eq_true] at h
    simp only [evsOK, Bool.and_eq_true]
    refine ⟨?_, evs_sim s hx h2 h.2⟩
    have h := h.1
    split at h
    · split
      · exact h
      · rfl
    · rename_i hc
      rw [clash_sim s h1 hx hc]
/-- what comes behind the operations of a region that draws its order -/
noncomputable def FlW (C : Cfg) (G : Nat → Option W) (m : Nat) (ops : Array Oper) (l : List Oper) (i : Nat) (es : List (Nat × EvW)) (fr : FrW) (hp : HpW) (nw : Nat) (R : Res) (K : FrW → HpW → Nat → Res → Prop) : Prop :=
  ∀ Γ X frv esv, Γ.nw = nw → m ≤ nw → SatH C G Γ hp X R → FRel Γ fr frv → EsP Γ hp es esv → ∃ n frv' Γ' X' fr' hp' R', evalFlow (Sn C n) C ops l i esv frv Γ.h = some (frv', Γ'.h) ∧
    SatH C G Γ' hp' X' R' ∧ FRel Γ' fr' frv' ∧ Frm m Γ hp X Γ' hp' X' ∧ K fr' hp' Γ'.nw R'
noncomputable def Ctx.wm (Γ : Ctx) (k : Nat) : Ctx := { Γ with h := { Γ.h with wmin := k } }
theorem wm_le (Γ : Ctx) (k : Nat) : Γ.Le (Γ.wm k) := ⟨Nat.le_refl _, fun _ _ => rfl, fun _ h => h, fun _ _ => rfl⟩
theorem wm_le' (Γ : Ctx) (k : Nat) : (Γ.wm k).Le Γ := ⟨Nat.le_refl _, fun _ _ => rfl, fun _ h => h, fun _ _ => rfl⟩
theorem wm_sat {Γ : Ctx} {hp : HpW} {X : Nat → Prop} {R : Res} (s : SatH C G Γ hp X R) (k : Nat) : SatH C G (Γ.wm k) hp X R :=
  ⟨s.wf, fun b ty w h => by
    obtain ⟨h1, h2, h3, v, h4, h5⟩ := s.own b ty w h
    exact ⟨h1, h2, h3, v, h4, h5.mono (wm_le Γ k)⟩, s.inj, s.nd, s.dX, s.xlt, s.dlt, R.st _ _ _ _ _ s.res (wm_le Γ k).D (wm_le Γ k).val (fun _ _ => rfl) (Nat.le_refl _), s.gl.mono (wm_le Γ k)⟩
theorem EvP.wm {Γ : Ctx} {hp : HpW} {x : EvW} {y : Ev} {k : Nat} (h : EvP Γ hp x y) : EvP (Γ.wm k) hp x y := by cases x <;> exact h
theorem EsP.wm {Γ : Ctx} {hp : HpW} {k : Nat} : ∀ {es : List (Nat × EvW)} {l : List (Nat × Ev)}, EsP Γ hp es l → EsP (Γ.wm k) hp es l
  | [], _, h => h
  | (i, x) :: es, _, h => by
    obtain ⟨y, l', rfl, h1, h2⟩ := h
    exact ⟨y, l', rfl, h1.wm, EsP.wm h2⟩
theorem EvP.unwm {Γ : Ctx} {hp : HpW} {x : EvW} {y : Ev} {k : Nat} (h : EvP (Γ.wm k) hp x y) : EvP Γ hp x y := by cases x <;> exact h
theorem EsP.unwm {Γ : Ctx} {hp : HpW} {k : Nat} : ∀ {es : List (Nat × EvW)} {l : List (Nat × Ev)}, EsP (Γ.wm k) hp es l → EsP Γ hp es l
  | [], _, h => h
  | (i, x) :: es, _, h => by
    obtain ⟨y, l', rfl, h1, h2⟩ := h
    exact ⟨y, l', rfl, h1.unwm, EsP.unwm h2⟩
theorem minN_ge {a b k : Nat} (h1 : k ≤ a) (h2 : k ≤ b) : k ≤ minN a b := by unfold minN; split <;> assumption
section
variable {m : Nat} {ops : Array Oper} {l : List Oper} {i : Nat} {es : List (Nat × EvW)} {fr : FrW} {hp : HpW} {nw : Nat} {R : Res} {K : FrW → HpW → Nat → Res → Prop} {o : Oper}
theorem fl_nil (h : K fr hp nw R) : FlW C G m ops [] i es fr hp nw R K := fun Γ X frv esv hnw hm s hf _ => ⟨0, frv, Γ, X, fr, hp, R, rfl, s, hf, Frm.refl _ _ _ _, hnw ▸ h⟩
theorem fl_step (hw : wantW ops fr o = some true) (h : Step C G o fr hp nw R fun w hp' nw' R' ev => match ev with
    | none => FlW C G m ops l (i + 1) es (putW fr o.dst w) hp' nw' R' K
    | some e => evsW ops i e es = true ∧ FlW C G m ops l (i + 1) ((i, e) :: es) (putW fr o.dst w) hp' nw' R' K) : FlW C G m ops (o :: l) i es fr hp nw R K := fun Γ X frv esv hnw hm s hf he => by
  obtain ⟨n, w, hp', R', ev, v, h', Γ', X', h1, h2, h3, h4, h5, h6, h7, h8⟩ := h (Γ.wm Γ.h.next) X frv hnw (wm_sat s _) (hf.mono (wm_le _ _))
  cases ev with
  | none =>
    obtain ⟨h3, h3'⟩ := h3
    -- nothing was done to memory
    have e0 : Γ'.h = (Γ.wm Γ.h.next).h := h4.trans h3'
    have le1 : Γ.Le (Γ'.wm Γ.h.wmin) := ⟨h5.nw, h5.σ, h5.D, h5.val⟩
    have eh : (Γ'.wm Γ.h.wmin).h = Γ.h := by
      simp only [Ctx.wm, e0]
    have fr1 : Frm Γ.nw Γ hp X (Γ'.wm Γ.h.wmin) hp' X' := ⟨h7.sig, h7.mle, by rw [eh]; exact Nat.le_refl _, fun c _ _ _ => by rw [eh], h7.dsub, h7.dnew, h7.oext, h7.onum, h7.xnew, fun k hk _ _ => by rw [eh]; exact hk⟩
    obtain ⟨n', frv', Γ2, X2, fr2, hp2, R2, g1, g2, g3, g4, g5⟩ := h1 (Γ'.wm Γ.h.wmin) X' (putT frv o.dst v) esv rfl (Nat.le_trans (hnw ▸ hm) h5.nw) (wm_sat h6 _) ((hf.mono le1).put (h8.mono (wm_le _ _))) (he.later le1 fr1)
    refine ⟨n', frv', Γ2, X2, fr2, hp2, R2, ?_, g2, g3, (fr1.le (hnw ▸ hm) (Nat.le_refl _)).trans g4, g5⟩
    rw [eh] at g1
    simp only [evalFlow, want_sim hf hw, stepF, h3]
    exact g1
  | some e =>
    obtain ⟨h3, h3'⟩ := h3
    obtain ⟨hev, h1⟩ := h1
    have hx : EvR (Γ.wm Γ.h.next) hp e (evOf C frv Γ.h h' o.op) := h3' Γ.h rfl rfl
    have le1 : Γ.Le (Γ'.wm (minN Γ.h.wmin Γ'.h.wmin)) := ⟨h5.nw, h5.σ, h5.D, h5.val⟩
    have fr1 : Frm Γ.nw Γ hp X (Γ'.wm (minN Γ.h.wmin Γ'.h.wmin)) hp' X' := ⟨h7.sig, h7.mle, h7.next, h7.keep, h7.dsub, h7.dnew, h7.oext, h7.onum, h7.xnew, fun k hk h9 h10 => minN_ge hk (h7.wmin k h9 h9 h10)⟩
    have hP : EvP (Γ'.wm (minN Γ.h.wmin Γ'.h.wmin)) hp' e (evOf C frv Γ.h h' o.op) := ((EvR.keep (wm_sat s _) hx).unwm).later le1 fr1
    obtain ⟨n', frv', Γ2, X2, fr2, hp2, R2, g1, g2, g3, g4, g5⟩ := h1 (Γ'.wm (minN Γ.h.wmin Γ'.h.wmin)) X' (putT frv o.dst v) ((i, evOf C frv Γ.h h' o.op) :: esv) rfl (Nat.le_trans (hnw ▸ hm) h5.nw) (wm_sat h6 _) ((hf.mono le1).put (h8.mono (wm_le _ _))) ⟨_, _, rfl, hP, he.later le1 fr1⟩
    refine ⟨max n n', frv', Γ2, X2, fr2, hp2, R2, ?_, g2, g3, (fr1.le (hnw ▸ hm) (Nat.le_refl _)).trans g4, g5⟩
    have a1 := opV_le (run_le C (Nat.le_max_left n n')).1 h2
    have a2 := evalFlow_le (run_le C (Nat.le_max_right n n')).1 l g1
    have a3 := evs_sim (ops := ops) (j := i) (wm_sat s Γ.h.next) hx he.wm hev
    have a1 : opV (Sn C (max n n')) C frv { Γ.h with wmin := Γ.h.next } o = some (v, h') := a1
    simp only [evalFlow, want_sim hf hw, stepF, h3, a1, a3]
    have eh : (Γ'.wm (minN Γ.h.wmin Γ'.h.wmin)).h = { h' with wmin := minN Γ.h.wmin h'.wmin } := by simp only [Ctx.wm, h4]
    rw [eh] at a2
    exact a2
theorem fl_skip (hw : wantW ops fr o = some false) (h : FlW C G m ops l (i + 1) es (putW fr o.dst .undef) hp nw R K) : FlW C G m ops (o :: l) i es fr hp nw R K := fun Γ X frv esv hnw hm s hf he => by
  obtain ⟨n', frv', Γ2, X2, fr2, hp2, R2, g1, g2⟩ := h Γ X (putT frv o.dst .undef) esv hnw hm s (hf.put (RV_undef.2 rfl)) he
  exact ⟨n', frv', Γ2, X2, fr2, hp2, R2, by simp only [evalFlow, want_sim hf hw]; exact g1, g2⟩
theorem fl_pure {w : W} (hw : wantW ops fr o = some true) (hx : pureW C G fr o.op = some w) (h : FlW C G m ops l (i + 1) es (putW fr o.dst w) hp nw R K) : FlW C G m ops (o :: l) i es fr hp nw R K := fl_step hw (step_pure hx h)
theorem fl_mem {w : W} {hp2 : HpW} {nw2 : Nat} {ev : EvW} (hw : wantW ops fr o = some true) (hx : opHW C G fr hp nw o.op = some (w, hp2, nw2, ev)) (hc : evsW ops i ev es = true) (h : FlW C G m ops l (i + 1) ((i, ev) :: es) (putW fr o.dst w) hp2 nw2 R K) : FlW C G m ops (o :: l) i es fr hp nw R K := fl_step hw (step_mem hx ⟨hc, h⟩)
end
end
end Go.Proofs.YtmlemnbhjbaedaaGreatDoor

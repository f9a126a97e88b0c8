/-
  Control, and functions, on values that hold what they hold. Nothing here speaks of a program.
-/
import Derived.Test.YtmlemnbhjbaedaaGreatDoorWJud
namespace Go.Proofs.YtmlemnbhjbaedaaGreatDoor
open Go.RowKit
set_option linter.unusedSimpArgs false
set_option linter.unusedVariables false

/-- a state of the plain machine within a function -/
structure SatS (C : Cfg) (G : Nat → Option W) (k0 : Nat) (Γ : Ctx) (hp : HpW) (X : Nat → Prop) (R : Res) (fr : FrW) (st : St) : Prop where
  hh : st.h = Γ.h
  fr : FRel Γ fr st.fr
  sat : SatH C G Γ hp X R
  ds : ∀ d ∈ st.ds, k0 ≤ d ∧ d < Γ.h.next ∧ Γ.h.get d = some (.dfr false) ∧ ¬ Owns Γ hp d ∧ ¬ X d ∧ ¬ Γ.D d
  nd : st.ds.Nodup
abbrev PostW := Exit → FrW → HpW → Nat → Res → Prop
/-- what comes behind a piece of code -/
noncomputable def CoW (C : Cfg) (G : Nat → Option W) (m k0 : Nat) (rd : Bool) (c : Code) (fr : FrW) (hp : HpW) (nw : Nat) (R : Res) (Q : PostW) : Prop :=
  ∀ Γ X st, Γ.nw = nw → m ≤ nw → k0 ≤ Γ.h.next → st.rd = rd → SatS C G k0 Γ hp X R fr st → ∃ n x st' Γ' X' fr' hp' R', evalCode (Sn C n) (Fl C n) C c st = some (x, st') ∧
    SatS C G k0 Γ' hp' X' R' fr' st' ∧ Frm m Γ hp X Γ' hp' X' ∧ st'.rd = rd ∧ Q x fr' hp' Γ'.nw R'
section
variable {C : Cfg} {G : Nat → Option W} {m k0 : Nat} {rd : Bool} {fr fr2 : FrW} {hp hp2 : HpW} {nw nw2 : Nat} {R R2 : Res} {Q : PostW}
theorem ds_later {Γ Γ' : Ctx} {X X' : Nat → Prop} {k : Nat} {ds : List Nat} (h : ∀ d ∈ ds, k0 ≤ d ∧ d < Γ.h.next ∧ Γ.h.get d = some (.dfr false) ∧ ¬ Owns Γ hp d ∧ ¬ X d ∧ ¬ Γ.D d) (f : Frm k Γ hp X Γ' hp2 X') :
    ∀ d ∈ ds, k0 ≤ d ∧ d < Γ'.h.next ∧ Γ'.h.get d = some (.dfr false) ∧ ¬ Owns Γ' hp2 d ∧ ¬ X' d ∧ ¬ Γ'.D d := fun d hd => by
  obtain ⟨h1, h2, h3, h4, h5, h6⟩ := h d hd
  refine ⟨h1, Nat.lt_of_lt_of_le h2 f.next, by rw [f.keep d h2 h4 h5]; exact h3, fun h => ?_, fun h => ?_, fun h => ?_⟩
  · rcases f.onew d h with h | h
    · exact h4 h
    · omega
  · rcases f.xnew d h with h | h
    · exact h5 h
    · omega
  · rcases f.dnew d h with h | (h | h) | h
    · exact h6 h
    · exact h4 h
    · exact h5 h
    · omega
theorem co_mono {c : Code} {Q' : PostW} (h : CoW C G m k0 rd c fr hp nw R Q) (hq : ∀ x fr hp nw R, Q x fr hp nw R → Q' x fr hp nw R) : CoW C G m k0 rd c fr hp nw R Q' := fun Γ X st h1 h2 h3 h4 h5 => by
  obtain ⟨n, x, st', Γ', X', fr', hp', R', g1, g2, g3, g4, g5⟩ := h Γ X st h1 h2 h3 h4 h5
  exact ⟨n, x, st', Γ', X', fr', hp', R', g1, g2, g3, g4, hq _ _ _ _ _ g5⟩
/-- an exit at once -/
theorem co_at {c : Code} {x : Exit} (hc : ∀ (n : Nat) st, evalCode (Sn C n) (Fl C n) C c st = some (x, st)) (h : Q x fr hp nw R) : CoW C G m k0 rd c fr hp nw R Q := fun Γ X st h1 h2 h3 h4 h5 =>
  ⟨0, x, st, Γ, X, fr, hp, R, hc 0 st, h5, Frm.refl _ _ _ _, h4, h1 ▸ h⟩
theorem co_skip (h : Q .normal fr hp nw R) : CoW C G m k0 rd .skip fr hp nw R Q := co_at (fun _ _ => by simp only [evalCode]) h
theorem co_exit {id : Nat} (h : Q (.exit id) fr hp nw R) : CoW C G m k0 rd (.exit id) fr hp nw R Q := co_at (fun _ _ => by simp only [evalCode]) h
theorem co_ret (h : Q .ret fr hp nw R) : CoW C G m k0 rd .ret fr hp nw R Q := co_at (fun _ _ => by simp only [evalCode]) h
theorem co_goto {l : Nat} (h : Q (.goto l) fr hp nw R) : CoW C G m k0 rd (.goto l) fr hp nw R Q := co_at (fun _ _ => by simp only [evalCode]) h
theorem co_label {l : Nat} (h : Q .normal fr hp nw R) : CoW C G m k0 rd (.label l) fr hp nw R Q := co_at (fun _ _ => by simp only [evalCode]) h
theorem co_region {id : Nat} {ops : Array Oper} (h : OpW C G m ops ops.toList fr hp nw R fun fr' hp' nw' R' => Q .normal fr' hp' nw' R') : CoW C G m k0 rd (.region id ops false) fr hp nw R Q := fun Γ X st h1 h2 h3 h4 h5 => by
  obtain ⟨n, frv', Γ', X', fr', hp', R', g1, g2, g3, g4, g5⟩ := h Γ X st.fr h1 h2 h5.sat h5.fr
  refine ⟨n, .normal, ⟨frv', Γ'.h, st.ds, st.rd⟩, Γ', X', fr', hp', R', ?_, ⟨rfl, g3, g2, ds_later h5.ds g4, h5.nd⟩, g4, h4, g5⟩
  simp only [evalCode, h5.hh, g1]
theorem co_flow {id : Nat} {ops : Array Oper} (h : FlW C G m ops ops.toList 0 [] fr hp nw R fun fr' hp' nw' R' => Q .normal fr' hp' nw' R') : CoW C G m k0 rd (.region id ops true) fr hp nw R Q := fun Γ X st h1 h2 h3 h4 h5 => by
  obtain ⟨n, frv', Γ', X', fr', hp', R', g1, g2, g3, g4, g5⟩ := h Γ X st.fr [] h1 h2 h5.sat h5.fr rfl
  refine ⟨n, .normal, ⟨frv', Γ'.h, st.ds, st.rd⟩, Γ', X', fr', hp', R', ?_, ⟨rfl, g3, g2, ds_later h5.ds g4, h5.nd⟩, g4, h4, g5⟩
  simp only [evalCode, h5.hh, g1]
/-- behind the first of two -/
noncomputable def QSeq (C : Cfg) (G : Nat → Option W) (m k0 : Nat) (rd : Bool) (y : Code) (Q : PostW) : PostW
  | .normal, fr, hp, nw, R => CoW C G m k0 rd y fr hp nw R Q
  | x, fr, hp, nw, R => Q x fr hp nw R
theorem co_seq {x y : Code} (h : CoW C G m k0 rd x fr hp nw R (QSeq C G m k0 rd y Q)) : CoW C G m k0 rd (.seq x y) fr hp nw R Q := fun Γ X st h1 h2 h3 h4 h5 => by
  obtain ⟨n, e, st', Γ', X', fr', hp', R', g1, g2, g3, g4, g5⟩ := h Γ X st h1 h2 h3 h4 h5
  by_cases he : e = .normal
  · subst he
    obtain ⟨n2, e2, st2, Γ2, X2, fr2, hp2, R2, k1, k2, k3, k4, k5⟩ := g5 Γ' X' st' rfl (g3.mle (h1 ▸ h2) |> fun q => q) (Nat.le_trans h3 g3.next) g4 g2
    refine ⟨max n n2, e2, st2, Γ2, X2, fr2, hp2, R2, ?_, k2, g3.trans k3, k4, k5⟩
    have l1 := run_le C (Nat.le_max_left n n2)
    have l2 := run_le C (Nat.le_max_right n n2)
    simp only [evalCode, evalCode_le l1.1 l1.2 x g1]
    exact evalCode_le l2.1 l2.2 y k1
  · refine ⟨n, e, st', Γ', X', fr', hp', R', ?_, g2, g3, g4, ?_⟩
    · simp only [evalCode, g1]
      cases e <;> first | rfl | exact absurd rfl he
    · cases e <;> first | exact g5 | exact absurd rfl he
theorem co_cond {c : Operand} {x y : Code} {b : Bool} (hc : evW C G fr c = some (.bool b)) (ht : b = true → CoW C G m k0 rd x fr hp nw R Q) (hf : b = false → CoW C G m k0 rd y fr hp nw R Q) : CoW C G m k0 rd (.cond c x y) fr hp nw R Q := fun Γ X st h1 h2 h3 h4 h5 => by
  obtain ⟨v, e1, e2⟩ := ev_sim h5.fr h5.sat.gl hc
  rw [RV_bool] at e2; subst e2
  cases b with
  | true =>
    obtain ⟨n, g⟩ := ht rfl Γ X st h1 h2 h3 h4 h5
    exact ⟨n, by simpa only [evalCode, e1] using g⟩
  | false =>
    obtain ⟨n, g⟩ := hf rfl Γ X st h1 h2 h3 h4 h5
    exact ⟨n, by simpa only [evalCode, e1] using g⟩
theorem co_true {c : Operand} {x y : Code} (hc : evW C G fr c = some (.bool true)) (h : CoW C G m k0 rd x fr hp nw R Q) : CoW C G m k0 rd (.cond c x y) fr hp nw R Q := co_cond hc (fun _ => h) (fun h => by cases h)
theorem co_false {c : Operand} {x y : Code} (hc : evW C G fr c = some (.bool false)) (h : CoW C G m k0 rd y fr hp nw R Q) : CoW C G m k0 rd (.cond c x y) fr hp nw R Q := co_cond hc (fun h => by cases h) (fun _ => h)
/-- behind a block -/
noncomputable def QBlock (id : Nat) (Q : PostW) : PostW
  | .exit id', fr, hp, nw, R => match Nat.beq id' id with
    | true => Q .normal fr hp nw R
    | false => Q (.exit id') fr hp nw R
  | x, fr, hp, nw, R => Q x fr hp nw R
theorem co_block {id : Nat} {x : Code} (h : CoW C G m k0 rd x fr hp nw R (QBlock id Q)) : CoW C G m k0 rd (.block id x) fr hp nw R Q := fun Γ X st h1 h2 h3 h4 h5 => by
  obtain ⟨n, e, st', Γ', X', fr', hp', R', g1, g2, g3, g4, g5⟩ := h Γ X st h1 h2 h3 h4 h5
  cases e with
  | exit id' =>
    simp only [QBlock] at g5
    refine ⟨n, (match Nat.beq id' id with | true => .normal | false => .exit id'), st', Γ', X', fr', hp', R', ?_, g2, g3, g4, ?_⟩
    · simp only [evalCode, g1]
      cases Nat.beq id' id <;> rfl
    · cases hb : Nat.beq id' id with
      | true => rw [hb] at g5; exact g5
      | false => rw [hb] at g5; exact g5
  | normal => exact ⟨n, _, st', Γ', X', fr', hp', R', by simp only [evalCode, g1], g2, g3, g4, g5⟩
  | ret => exact ⟨n, _, st', Γ', X', fr', hp', R', by simp only [evalCode, g1], g2, g3, g4, g5⟩
  | goto l => exact ⟨n, _, st', Γ', X', fr', hp', R', by simp only [evalCode, g1], g2, g3, g4, g5⟩
  | panic p => exact ⟨n, _, st', Γ', X', fr', hp', R', by simp only [evalCode, g1], g2, g3, g4, g5⟩
  | outgrown => exact ⟨n, _, st', Γ', X', fr', hp', R', by simp only [evalCode, g1], g2, g3, g4, g5⟩
/-- behind a body that is jumped about in -/
noncomputable def QScope (C : Cfg) (G : Nat → Option W) (m k0 : Nat) (rd : Bool) (c : Code) (Q : PostW) : Nat → PostW
  | 0, .goto _, _, _, _, _ => False
  | k + 1, .goto l, fr, hp, nw, R => ∃ rest, findLabel c l = some rest ∧ CoW C G m k0 rd rest fr hp nw R (QScope C G m k0 rd c Q k)
  | _, x, fr, hp, nw, R => Q x fr hp nw R
theorem scope_run {c : Code} : ∀ (k : Nat) {x : Exit} {st : St} {Γ : Ctx} {X : Nat → Prop} {fr : FrW} {hp : HpW} {R : Res}, m ≤ Γ.nw → k0 ≤ Γ.h.next → st.rd = rd → SatS C G k0 Γ hp X R fr st → QScope C G m k0 rd c Q k x fr hp Γ.nw R →
    ∃ n x' st' Γ' X' fr' hp' R', (match x with | .goto l => (Fl C n).scope c l st | _ => some (x, st)) = some (x', st') ∧ SatS C G k0 Γ' hp' X' R' fr' st' ∧ Frm m Γ hp X Γ' hp' X' ∧ st'.rd = rd ∧ Q x' fr' hp' Γ'.nw R'
  | k, .normal, st, Γ, X, fr, hp, R, _, _, h3, h4, h5 => ⟨0, _, st, Γ, X, fr, hp, R, rfl, h4, Frm.refl _ _ _ _, h3, by cases k <;> exact h5⟩
  | k, .ret, st, Γ, X, fr, hp, R, _, _, h3, h4, h5 => ⟨0, _, st, Γ, X, fr, hp, R, rfl, h4, Frm.refl _ _ _ _, h3, by cases k <;> exact h5⟩
  | k, .exit id, st, Γ, X, fr, hp, R, _, _, h3, h4, h5 => ⟨0, _, st, Γ, X, fr, hp, R, rfl, h4, Frm.refl _ _ _ _, h3, by cases k <;> exact h5⟩
  | k, .panic p, st, Γ, X, fr, hp, R, _, _, h3, h4, h5 => ⟨0, _, st, Γ, X, fr, hp, R, rfl, h4, Frm.refl _ _ _ _, h3, by cases k <;> exact h5⟩
  | k, .outgrown, st, Γ, X, fr, hp, R, _, _, h3, h4, h5 => ⟨0, _, st, Γ, X, fr, hp, R, rfl, h4, Frm.refl _ _ _ _, h3, by cases k <;> exact h5⟩
  | 0, .goto l, st, Γ, X, fr, hp, R, _, _, h3, h4, h5 => by simp only [QScope] at h5
  | k + 1, .goto l, st, Γ, X, fr, hp, R, h1, h2, h3, h4, h5 => by
    simp only [QScope] at h5
    obtain ⟨rest, hr, h5⟩ := h5
    obtain ⟨n, e, st', Γ', X', fr', hp', R', g1, g2, g3, g4, g5⟩ := h5 Γ X st rfl h1 h2 h3 h4
    obtain ⟨n2, x2, st2, Γ2, X2, fr2, hp2, R2, k1, k2, k3, k4, k5⟩ := scope_run k (g3.mle h1) (Nat.le_trans h2 g3.next) g4 g2 g5
    refine ⟨max n n2 + 1, x2, st2, Γ2, X2, fr2, hp2, R2, ?_, k2, g3.trans k3, k4, k5⟩
    have l1 := run_le C (Nat.le_max_left n n2)
    have l2 := run_le C (Nat.le_max_right n n2)
    show runScope C (max n n2 + 1) c l st = some (x2, st2)
    have e1 := evalCode_le l1.1 l1.2 rest g1
    have e1 : evalCode ⟨runFn C (max n n2), runYield C (max n n2)⟩ ⟨runLoop C (max n n2), runScope C (max n n2)⟩ C rest st = some (e, st') := e1
    simp only [runScope, hr, e1]
    cases e with
    | goto l' => exact l2.2.scope _ _ _ _ k1
    | normal => exact k1
    | ret => exact k1
    | exit id => exact k1
    | panic p => exact k1
    | outgrown => exact k1
theorem co_scope (k : Nat) {c : Code} (h : CoW C G m k0 rd c fr hp nw R (QScope C G m k0 rd c Q k)) : CoW C G m k0 rd (.scope c) fr hp nw R Q := fun Γ X st h1 h2 h3 h4 h5 => by
  obtain ⟨n, e, st', Γ', X', fr', hp', R', g1, g2, g3, g4, g5⟩ := h Γ X st h1 h2 h3 h4 h5
  obtain ⟨n2, x2, st2, Γ2, X2, fr2, hp2, R2, k1, k2, k3, k4, k5⟩ := scope_run k (g3.mle (h1 ▸ h2)) (Nat.le_trans h3 g3.next) g4 g2 g5
  refine ⟨max n n2, x2, st2, Γ2, X2, fr2, hp2, R2, ?_, k2, g3.trans k3, k4, k5⟩
  have l1 := run_le C (Nat.le_max_left n n2)
  have l2 := run_le C (Nat.le_max_right n n2)
  simp only [evalCode, evalCode_le l1.1 l1.2 c g1]
  cases e with
  | goto l' => exact l2.2.scope _ _ _ _ k1
  | normal => exact k1
  | ret => exact k1
  | exit id => exact k1
  | panic p => exact k1
  | outgrown => exact k1

/-! ### one state, told otherwise -/
noncomputable def Ent (C : Cfg) (G : Nat → Option W) (m k0 : Nat) (fr : FrW) (hp : HpW) (nw : Nat) (R : Res) (fr2 : FrW) (hp2 : HpW) (nw2 : Nat) (R2 : Res) : Prop :=
  ∀ Γ X st, Γ.nw = nw → m ≤ nw → SatS C G k0 Γ hp X R fr st → ∃ Γ2 X2, Γ2.nw = nw2 ∧ SatS C G k0 Γ2 hp2 X2 R2 fr2 st ∧ Frm m Γ hp X Γ2 hp2 X2
theorem Ent.refl : Ent C G m k0 fr hp nw R fr hp nw R := fun Γ X _ h _ s => ⟨Γ, X, h, s, Frm.refl _ _ _ _⟩
theorem Ent.trans {fr3 : FrW} {hp3 : HpW} {nw3 : Nat} {R3 : Res} (a : Ent C G m k0 fr hp nw R fr2 hp2 nw2 R2) (b : Ent C G m k0 fr2 hp2 nw2 R2 fr3 hp3 nw3 R3) : Ent C G m k0 fr hp nw R fr3 hp3 nw3 R3 := fun Γ X st h hm s => by
  obtain ⟨Γ2, X2, h2, s2, f2⟩ := a Γ X st h hm s
  obtain ⟨Γ3, X3, h3, s3, f3⟩ := b Γ2 X2 st h2 (h2 ▸ f2.mle (h ▸ hm)) s2
  exact ⟨Γ3, X3, h3, s3, f2.trans f3⟩
theorem co_ent {c : Code} (e : Ent C G m k0 fr hp nw R fr2 hp2 nw2 R2) (h : CoW C G m k0 rd c fr2 hp2 nw2 R2 Q) : CoW C G m k0 rd c fr hp nw R Q := fun Γ X st h1 h2 h3 h4 h5 => by
  obtain ⟨Γ2, X2, e1, e2, e3⟩ := e Γ X st h1 h2 h5
  obtain ⟨n, x, st', Γ', X', fr', hp', R', g1, g2, g3, g4, g5⟩ := h Γ2 X2 st e1 (e1 ▸ e3.mle (h1 ▸ h2)) (Nat.le_trans h3 e3.next) h4 e2
  exact ⟨n, x, st', Γ', X', fr', hp', R', g1, g2, e3.trans g3, g4, g5⟩
/-- fewer temporaries -/
theorem ent_drop (h : ∀ t w, getW fr2 t = some w → getW fr t = some w) : Ent C G m k0 fr hp nw R fr2 hp nw R := fun Γ X st h1 _ s =>
  ⟨Γ, X, h1, ⟨s.hh, fun t w hw => s.fr t w (h t w hw), s.sat, s.ds, s.nd⟩, Frm.refl _ _ _ _⟩
/-- a block let go (by name alone) -/
theorem ent_del {b : Nat} : Ent C G m k0 fr hp nw R fr (hdel hp b) nw R := fun Γ X st h1 _ s => by
  have hold : ∀ {k y}, hget (hdel hp b) k = some y → hget hp k = some y := fun {k y} h => by
    rw [hget_hdel s.sat.nd] at h
    split at h
    · cases h
    · exact h
  have howns : ∀ {c}, Owns Γ (hdel hp b) c → Owns Γ hp c := fun {c} h => by
    obtain ⟨k, y, h1, h2⟩ := h
    exact ⟨k, y, hold h1, h2⟩
  refine ⟨Γ, X, h1, ⟨s.hh, s.fr, ⟨s.sat.wf, fun k ty w h => s.sat.own k ty w (hold h), fun k k' y z hy hz e => s.sat.inj k k' _ _ (hold hy) (hold hz) e, s.sat.nd.sublist hdel_sub, s.sat.dX, s.sat.xlt, s.sat.dlt, s.sat.res, s.sat.gl⟩, fun d hd => ?_, s.nd⟩, ?_⟩
  · obtain ⟨q1, q2, q3, q4, q5⟩ := s.ds d hd
    exact ⟨q1, q2, q3, fun h => q4 (howns h), q5⟩
  · exact ⟨fun _ _ => rfl, fun h => h, Nat.le_refl _, fun _ _ _ _ => rfl, fun _ h => h, fun _ h => .inl h, fun k y _ h => ⟨y, hold h⟩, fun k y hk h => .inr ⟨k, y, hk, hold h, rfl⟩, fun _ h => .inl h, fun _ h _ _ => h⟩

/-! ### rounds -/
/-- behind a round -/
noncomputable def QRound {α : Type} (C : Cfg) (G : Nat → Option W) (m k0 : Nat) (I : α → Prop) (F : α → FrW) (H : α → HpW) (N : α → Nat) (RR : α → Res) (μ : α → Nat) (k : Nat) (Q : PostW) : PostW
  | .normal, fr, hp, nw, R => ∃ a, I a ∧ μ a < k ∧ Ent C G m k0 fr hp nw R (F a) (H a) (N a) (RR a)
  | x, fr, hp, nw, R => Q x fr hp nw R
theorem co_loop {α : Type} {c : Code} (I : α → Prop) (F : α → FrW) (H : α → HpW) (N : α → Nat) (RR : α → Res) (μ : α → Nat) (a0 : α) (h0 : I a0) (he : Ent C G m k0 fr hp nw R (F a0) (H a0) (N a0) (RR a0))
    (step : ∀ a, I a → CoW C G m k0 rd c (F a) (H a) (N a) (RR a) (QRound C G m k0 I F H N RR μ (μ a) Q)) : CoW C G m k0 rd (.loop c) fr hp nw R Q := by
  have key : ∀ k a, I a → μ a < k → ∀ Γ X st, Γ.nw = N a → m ≤ N a → k0 ≤ Γ.h.next → st.rd = rd → SatS C G k0 Γ (H a) X (RR a) (F a) st → ∃ n x st' Γ' X' fr' hp' R', runLoop C n c st = some (x, st') ∧
      SatS C G k0 Γ' hp' X' R' fr' st' ∧ Frm m Γ (H a) X Γ' hp' X' ∧ st'.rd = rd ∧ Q x fr' hp' Γ'.nw R' := by
    intro k
    induction k with
    | zero => intro a _ h; omega
    | succ k ih =>
      intro a ha hk Γ X st h1 h2 h3 h4 h5
      obtain ⟨n, e, st', Γ', X', fr', hp', R', g1, g2, g3, g4, g5⟩ := step a ha Γ X st h1 h2 h3 h4 h5
      by_cases hx : e = .normal
      · subst hx
        obtain ⟨a', i1, i2, i3⟩ := g5
        obtain ⟨Γ2, X2, e1, e2, e3⟩ := i3 Γ' X' st' rfl (g3.mle (h1 ▸ h2)) g2
        obtain ⟨n2, x2, st2, Γ3, X3, fr3, hp3, R3, k1, k2, k3, k4, k5⟩ := ih a' i1 (by omega) Γ2 X2 st' e1 (e1 ▸ e3.mle (g3.mle (h1 ▸ h2))) (Nat.le_trans h3 (Nat.le_trans g3.next e3.next)) g4 e2
        refine ⟨max n n2 + 1, x2, st2, Γ3, X3, fr3, hp3, R3, ?_, k2, (g3.trans e3).trans k3, k4, k5⟩
        have l1 := run_le C (Nat.le_max_left n n2)
        have l2 := run_le C (Nat.le_max_right n n2)
        have q1 : evalCode ⟨runFn C (max n n2), runYield C (max n n2)⟩ ⟨runLoop C (max n n2), runScope C (max n n2)⟩ C c st = some (.normal, st') := evalCode_le l1.1 l1.2 c g1
        simp only [runLoop, q1]
        exact l2.2.loop _ _ _ k1
      · refine ⟨n + 1, e, st', Γ', X', fr', hp', R', ?_, g2, g3, g4, ?_⟩
        · have q1 : evalCode ⟨runFn C n, runYield C n⟩ ⟨runLoop C n, runScope C n⟩ C c st = some (e, st') := g1
          simp only [runLoop, q1]
          cases e <;> first | rfl | exact absurd rfl hx
        · cases e <;> first | exact g5 | exact absurd rfl hx
  refine co_ent he fun Γ X st h1 h2 h3 h4 h5 => ?_
  obtain ⟨n, x, st', Γ', X', fr', hp', R', g1, g2⟩ := key (μ a0 + 1) a0 h0 (Nat.lt_succ_self _) Γ X st h1 h2 h3 h4 h5
  exact ⟨n, x, st', Γ', X', fr', hp', R', by simp only [evalCode, Fl]; exact g1, g2⟩
theorem q_again {α : Type} {I : α → Prop} {F : α → FrW} {H : α → HpW} {N : α → Nat} {RR : α → Res} {μ : α → Nat} {k : Nat} (a : α) (ha : I a) (hk : μ a < k) (he : Ent C G m k0 fr hp nw R (F a) (H a) (N a) (RR a)) : QRound C G m k0 I F H N RR μ k Q .normal fr hp nw R := ⟨a, ha, hk, he⟩
theorem q_seq {y : Code} (h : CoW C G m k0 rd y fr hp nw R Q) : QSeq C G m k0 rd y Q .normal fr hp nw R := h

/-! ### functions -/
noncomputable def Spec (C : Cfg) (G : Nat → Option W) (f : FuncId) (m : Nat) (ws : List W) (hp : HpW) (R : Res) (Q : W → HpW → Nat → Res → Prop) : Prop :=
  ∀ Γ X vs, Γ.nw = m → SatH C G Γ hp X R → RVL Γ ws vs → ∃ n v Γ' X' w hp' R', runFn C n f vs Γ.h = some (v, Γ'.h) ∧ SatH C G Γ' hp' X' R' ∧ Frm m Γ hp X Γ' hp' X' ∧ RV Γ' w v ∧ Q w hp' Γ'.nw R'
noncomputable def argsW : Nat → List W → FrW
  | _, [] => []
  | i, w :: ws => (i, w) :: argsW (i + 1) ws
theorem args_get : ∀ (ws : List W) (i k : Nat), getW (argsW i ws) k = if i ≤ k ∧ k < i + ws.length then ws[k - i]? else none
  | [], i, k => by simp only [argsW, getW, List.length_nil]; rw [if_neg (by omega)]
  | w :: ws, i, k => by
    simp only [argsW, getW, args_get ws (i + 1) k, List.length_cons]
    by_cases h : i = k
    · subst h; simp
    · have : Nat.beq i k = false := by
        cases hq : Nat.beq i k with
        | true => exact absurd (Nat.eq_of_beq_eq_true hq) h
        | false => rfl
      rw [this]
      by_cases h2 : i + 1 ≤ k ∧ k < i + 1 + ws.length
      · rw [if_pos h2, if_pos (by omega), show k - i = (k - (i + 1)) + 1 by omega]; simp
      · simp only
        rw [if_neg h2, if_neg (by omega)]
theorem RVL_len {Γ : Ctx} : ∀ {ws : List W} {vs : List V}, RVL Γ ws vs → vs.length = ws.length
  | [], _, h => by simp only [RVL] at h; subst h; rfl
  | w :: ws, _, h => by
    simp only [RVL] at h
    obtain ⟨v, vs, rfl, _, h2⟩ := h
    simp [RVL_len h2]
theorem args_rel {Γ : Ctx} {ws : List W} {vs : List V} (h : RVL Γ ws vs) : FRel Γ (argsW 0 ws) (argsT 0 vs .nil) := fun t w ht => by
  rw [args_get] at ht
  split at ht
  · rename_i hc
    obtain ⟨v, h1, h2⟩ := RVL_at h ht
    refine ⟨v, ?_, h2⟩
    rw [argsT_get, if_pos (by rw [RVL_len h]; exact hc)]
    exact h1
  · cases ht
noncomputable def resW (C : Cfg) (fr : FrW) (hp : HpW) : ResultVar → Option W
  | .tmp t => getW fr t
  | .cell p T => match getW fr p, C.ty T with
    | some (.ptr b off), some i => match hget hp b with
      | some (_, v) => getAtW 50 v off i.size i.agg
      | none => none
    | _, _ => none
noncomputable def resLW (C : Cfg) (fr : FrW) (hp : HpW) : List ResultVar → Option (List W)
  | [] => some []
  | r :: l => match resW C fr hp r, resLW C fr hp l with
    | some v, some vs => some (v :: vs)
    | _, _ => none
/-- the results, as one value -/
noncomputable def outW (C : Cfg) (fr : FrW) (hp : HpW) (rs : List ResultVar) : Option W := match resLW C fr hp rs with
  | some [w] => some w
  | some ws => some (.tup ws)
  | none => none
theorem res_sim {Γ : Ctx} {hp : HpW} {X : Nat → Prop} {R : Res} {fr : FrW} {frv : Tr V} (s : SatH C G Γ hp X R) (hf : FRel Γ fr frv) {r : ResultVar} {w : W} (h : resW C fr hp r = some w) : ∃ v, resV C frv Γ.h r = some v ∧ RV Γ w v := by
  cases r with
  | tmp t => exact hf t w h
  | cell p T =>
    simp only [resW] at h
    split at h
    · rename_i b off i hx hi
      obtain ⟨v, h1, h2⟩ := hf _ _ hx
      obtain ⟨hbn, rfl⟩ := RV_ptr.1 h2
      split at h
      · rename_i ty bv hgb
        obtain ⟨u, q1, q2, q3⟩ := own_val s hgb
        obtain ⟨y, p1, p2, _⟩ := sim_get q3 h
        exact ⟨y, by simp only [resV, h1, hi, q2, p1], p2⟩
      · cases h
    · cases h
theorem resL_sim {Γ : Ctx} {hp : HpW} {X : Nat → Prop} {R : Res} {fr : FrW} {frv : Tr V} (s : SatH C G Γ hp X R) (hf : FRel Γ fr frv) : ∀ {rs : List ResultVar} {ws : List W}, resLW C fr hp rs = some ws → ∃ vs, resL C frv Γ.h rs = some vs ∧ RVL Γ ws vs
  | [], _, h => by simp only [resLW] at h; cases h; exact ⟨[], rfl, by simp [RVL]⟩
  | r :: rs, _, h => by
    simp only [resLW] at h
    split at h
    · rename_i w ws hw hws
      cases h
      obtain ⟨v, h1, h2⟩ := res_sim s hf hw
      obtain ⟨vs, h3, h4⟩ := resL_sim s hf hws
      refine ⟨v :: vs, by simp only [resL, h1, h3], ?_⟩
      simp only [RVL]
      exact ⟨v, vs, rfl, h2, h4⟩
    · cases h
/-- the deferred lists are taken -/
theorem take_sim : ∀ (ds : List Nat) {Γ : Ctx} {hp : HpW} {X : Nat → Prop} {R : Res} {k1 : Nat}, SatH C G Γ hp X R → (∀ d ∈ ds, k1 ≤ d ∧ d < Γ.h.next ∧ Γ.h.get d = some (.dfr false) ∧ ¬ Owns Γ hp d ∧ ¬ X d) → ds.Nodup →
    (∀ d ∈ ds, ¬ Γ.D d) → ∃ h', takeAll ds Γ.h = some h' ∧ SatH C G { Γ with h := h' } hp X R ∧ Γ.Le { Γ with h := h' } ∧ h'.next = Γ.h.next ∧ (∀ c, c < k1 → h'.get c = Γ.h.get c) ∧ (∀ k, k ≤ Γ.h.wmin → k ≤ k1 → k ≤ h'.wmin)
  | [], Γ, hp, X, R, k1, s, _, _, _ => ⟨Γ.h, rfl, s, Ctx.Le.refl _, rfl, fun _ _ => rfl, fun _ h _ => h⟩
  | d :: ds, Γ, hp, X, R, k1, s, hd, nd, hD => by
    obtain ⟨h1, h2, h3, h4, h5⟩ := hd d (List.mem_cons_self ..)
    have hDd := hD d (List.mem_cons_self ..)
    simp only [List.nodup_cons] at nd
    have le1 : Γ.Le { Γ with h := Γ.h.put d (.dfr true) } := ⟨Nat.le_refl _, fun _ _ => rfl, fun _ h => h, fun c hc => val_congr (by
      simp only [Heap.get_put]
      rw [if_neg fun e : c = d => by subst e; exact hDd hc])⟩
    have s1 : SatH C G { Γ with h := Γ.h.put d (.dfr true) } hp X R := by
      refine ⟨fun i hi => ?_, fun k ty w hk => ?_, s.inj, s.nd, s.dX, s.xlt, s.dlt, ?_, s.gl.mono le1⟩
      · simp only [Heap.get_put]
        have hi : Γ.h.next ≤ i := hi
        rw [if_neg (by omega)]; exact s.wf i hi
      · obtain ⟨q1, q2, q3, u, q4, q5⟩ := s.own k ty w hk
        refine ⟨q1, q2, q3, u, ?_, q5.mono le1⟩
        simp only [Heap.get_put]
        rw [if_neg fun e => h4 ⟨k, _, hk, e⟩]; exact q4
      · exact R.st _ _ _ _ _ s.res le1.D le1.val (fun c hc => by
          simp only [Heap.get_put]; rw [if_neg fun e : c = d => by subst e; exact h5 hc]) (Nat.le_refl _)
    obtain ⟨h', g1, g2, g3, g4, g5, g6⟩ := take_sim ds (Γ := { Γ with h := Γ.h.put d (.dfr true) }) (k1 := k1) s1 (fun e he => by
      obtain ⟨q1, q2, q3, q4, q5⟩ := hd e (List.mem_cons_of_mem _ he)
      refine ⟨q1, q2, ?_, q4, q5⟩
      simp only [Heap.get_put]
      rw [if_neg fun e' : e = d => by subst e'; exact nd.1 he]; exact q3) nd.2 (fun e he => hD e (List.mem_cons_of_mem _ he))
    refine ⟨h', ?_, g2, ⟨Nat.le_refl _, fun _ _ => rfl, fun _ h => h, fun c hc => (g3.val c hc).trans (le1.val c hc)⟩, g4, fun c hc => ?_, fun k hk hk1 => g6 k ?_ hk1⟩
    · simp only [takeAll, h3]; exact g1
    · rw [g5 c hc]
      simp only [Heap.get_put]
      rw [if_neg (by omega)]
    · exact wmn_le hk (by omega)
/-- **a function, by its body** -/
theorem spec_of {f : FuncId} {fn : Func} {c : Code} {ws : List W} {Q : W → HpW → Nat → Res → Prop} (hk : C.known f = none) (hf : C.fn f = some fn) (hb : fn.body = some c) (hn : ws.length ≤ fn.ntmps)
    (h : ∀ k0, CoW C G m k0 false c (argsW 0 ws) hp m R fun x fr' hp' nw' R' => (x = .normal ∨ x = .ret) ∧ ∃ w, outW C fr' hp' fn.results.toList = some w ∧ Q w hp' nw' R') : Spec C G f m ws hp R Q := fun Γ X vs h1 s hv => by
  obtain ⟨n, x, st', Γ', X', fr', hp', R', g1, g2, g3, g4, hx, w, hw, hq⟩ := h Γ.h.next Γ X ⟨argsT 0 vs .nil, Γ.h, [], false⟩ h1 (Nat.le_refl _) (Nat.le_refl _) rfl ⟨rfl, args_rel hv, s, by simp, List.nodup_nil⟩
  have hDd : ∀ d ∈ st'.ds, ¬ Γ'.D d := fun d hd => (g2.ds d hd).2.2.2.2.2
  obtain ⟨h', t1, t2, t3, t4, t5, t6⟩ := take_sim st'.ds g2.sat (fun d hd => by obtain ⟨q1, q2, q3, q4, q5, _⟩ := g2.ds d hd; exact ⟨q1, q2, q3, q4, q5⟩) g2.nd hDd
  have hf2 : FRel { Γ' with h := h' } fr' st'.fr := g2.fr.mono t3
  have hres : ∃ v, finV C fn st' = some (v, h') ∧ RV { Γ' with h := h' } w v := by
    unfold outW at hw
    unfold finV
    rw [g2.hh, t1]
    simp only
    split at hw
    · rename_i w0 hr
      cases hw
      obtain ⟨vs', e1, e2⟩ := resL_sim t2 hf2 hr
      simp only [RVL] at e2
      obtain ⟨v, vs2, rfl, e3, rfl⟩ := e2
      exact ⟨v, by rw [e1], e3⟩
    · rename_i ws' hne hr
      cases hw
      obtain ⟨vs', e1, e2⟩ := resL_sim t2 hf2 hr
      refine ⟨.tup vs', ?_, RV_tup.2 ⟨vs', rfl, e2⟩⟩
      rw [e1]
      have hl := RVL_len e2
      cases vs' with
      | nil => rfl
      | cons v vs2 => cases vs2 with
        | nil =>
          cases ws' with
          | nil => simp at hl
          | cons a l => cases l with
            | nil => exact absurd rfl (hne a)
            | cons _ _ => simp at hl
        | cons _ _ => rfl
    · cases hw
  obtain ⟨v, hfin, hrv⟩ := hres
  refine ⟨n + 1, v, { Γ' with h := h' }, X', w, hp', R', ?_, t2, ?_, hrv, hq⟩
  · have g1 : evalCode ⟨runFn C n, runYield C n⟩ ⟨runLoop C n, runScope C n⟩ C c ⟨argsT 0 vs .nil, Γ.h, [], false⟩ = some (x, st') := g1
    have hle : Nat.ble vs.length fn.ntmps = true := Nat.ble_eq_true_of_le (by rw [RVL_len hv]; exact hn)
    simp only [runFn, hk, hf, hb, hle, g1]
    rcases hx with rfl | rfl <;> exact hfin
  · exact ⟨g3.sig, g3.mle, by rw [t4]; exact g3.next, fun c hc h2 h3 => by rw [t5 c hc]; exact g3.keep c hc h2 h3, g3.dsub, g3.dnew, g3.oext, g3.onum, g3.xnew, fun k a1 a2 a3 => t6 k (g3.wmin k a1 a2 a3) a2⟩
end
end Go.Proofs.YtmlemnbhjbaedaaGreatDoor

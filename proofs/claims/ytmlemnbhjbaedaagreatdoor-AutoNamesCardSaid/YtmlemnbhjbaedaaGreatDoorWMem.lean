/-
  Operations on blocks of one's own, on values with what they hold: the plain machine does the same. Nothing here speaks of a program.
-/
import Derived.Test.YtmlemnbhjbaedaaGreatDoorWPur
namespace Go.Proofs.YtmlemnbhjbaedaaGreatDoor
open Go.RowKit
set_option linter.unusedSimpArgs false
set_option linter.unusedVariables false

/-- what somebody else has: it hangs on its blocks alone -/
structure Res where
  p : Heap → (Nat → Prop) → (Nat → Prop) → Prop
  st : ∀ h h' D D' X, p h D X → (∀ c, D c → D' c) → (∀ c, D c → h'.val c = h.val c) → (∀ c, X c → h'.get c = h.get c) → h.next ≤ h'.next → p h' D' X
noncomputable def Res.none : Res := ⟨fun _ _ _ => True, fun _ _ _ _ _ _ _ _ _ _ => trivial⟩
noncomputable def Owns (Γ : Ctx) (hp : HpW) (c : Nat) : Prop := ∃ b x, hget hp b = some x ∧ Γ.σ b = c
structure SatH (C : Cfg) (G : Nat → Option W) (Γ : Ctx) (hp : HpW) (X : Nat → Prop) (R : Res) : Prop where
  wf : ∀ i, Γ.h.next ≤ i → Γ.h.get i = none
  own : ∀ b ty w, hget hp b = some (ty, w) → b < Γ.nw ∧ ¬ Γ.D (Γ.σ b) ∧ ¬ X (Γ.σ b) ∧ ∃ v, Γ.h.get (Γ.σ b) = some (.cells ty v) ∧ RV Γ w v
  inj : ∀ b b' x y, hget hp b = some x → hget hp b' = some y → Γ.σ b = Γ.σ b' → b = b'
  nd : (hp.map (·.1)).Nodup
  dX : ∀ c, Γ.D c → ¬ X c
  xlt : ∀ c, X c → c < Γ.h.next
  dlt : ∀ c, Γ.D c → c < Γ.h.next
  res : R.p Γ.h Γ.D X
  gl : GRel C G Γ
/-- from one state to a later one: what is kept -/
structure Frm (m : Nat) (Γ : Ctx) (hp : HpW) (X : Nat → Prop) (Γ' : Ctx) (hp' : HpW) (X' : Nat → Prop) : Prop where
  sig : ∀ b, b < m → Γ'.σ b = Γ.σ b
  mle : m ≤ Γ.nw → m ≤ Γ'.nw
  next : Γ.h.next ≤ Γ'.h.next
  keep : ∀ c, c < Γ.h.next → ¬ Owns Γ hp c → ¬ X c → Γ'.h.get c = Γ.h.get c
  dsub : ∀ c, Γ.D c → Γ'.D c
  dnew : ∀ c, Γ'.D c → Γ.D c ∨ (Owns Γ hp c ∨ X c) ∨ Γ.h.next ≤ c
  oext : ∀ b x, b < m → hget hp' b = some x → ∃ y, hget hp b = some y
  onum : ∀ b x, m ≤ b → hget hp' b = some x → Γ.h.next ≤ Γ'.σ b ∨ ∃ k y, m ≤ k ∧ hget hp k = some y ∧ Γ.σ k = Γ'.σ b
  xnew : ∀ c, X' c → X c ∨ Γ.h.next ≤ c
  wmin : ∀ k, k ≤ Γ.h.wmin → k ≤ Γ.h.next → (∀ c, Owns Γ hp c ∨ X c → k ≤ c) → k ≤ Γ'.h.wmin
section
variable {m : Nat} {Γ Γ' Γ'' : Ctx} {hp hp' hp'' : HpW} {X X' X'' : Nat → Prop}
theorem Frm.onew (a : Frm m Γ hp X Γ' hp' X') (c : Nat) (h : Owns Γ' hp' c) : Owns Γ hp c ∨ Γ.h.next ≤ c := by
  obtain ⟨b, x, h1, rfl⟩ := h
  rcases Nat.lt_or_ge b m with hb | hb
  · obtain ⟨y, hy⟩ := a.oext b x hb h1
    exact .inl ⟨b, y, hy, (a.sig b hb).symm⟩
  · rcases a.onum b x hb h1 with h | ⟨k, y, _, h2, h3⟩
    · exact .inr h
    · exact .inl ⟨k, y, h2, h3⟩
theorem Frm.refl (m : Nat) (Γ : Ctx) (hp : HpW) (X : Nat → Prop) : Frm m Γ hp X Γ hp X :=
  ⟨fun _ _ => rfl, fun h => h, Nat.le_refl _, fun _ _ _ _ => rfl, fun _ h => h, fun _ h => .inl h, fun _ x _ h => ⟨x, h⟩, fun b x hb h => .inr ⟨b, x, hb, h, rfl⟩, fun _ h => .inl h, fun _ h _ _ => h⟩
theorem Frm.trans (a : Frm m Γ hp X Γ' hp' X') (b : Frm m Γ' hp' X' Γ'' hp'' X'') : Frm m Γ hp X Γ'' hp'' X'' := by
  refine ⟨fun i hi => (b.sig i hi).trans (a.sig i hi), fun h => b.mle (a.mle h), Nat.le_trans a.next b.next, fun c h1 h2 h3 => ?_, fun c h => b.dsub c (a.dsub c h), fun c h => ?_, fun i x hi h => ?_, fun i x hi h => ?_, fun c h => ?_, fun k h1 h2 h3 => ?_⟩
  · rw [b.keep c (Nat.lt_of_lt_of_le h1 a.next) (fun ho => ?_) (fun hx => ?_)]
    · exact a.keep c h1 h2 h3
    · rcases a.onew c ho with h | h
      · exact h2 h
      · omega
    · rcases a.xnew c hx with h | h
      · exact h3 h
      · omega
  · rcases b.dnew c h with h | (h | h) | h
    · exact a.dnew c h
    · rcases a.onew c h with h | h
      · exact .inr (.inl (.inl h))
      · exact .inr (.inr h)
    · rcases a.xnew c h with h | h
      · exact .inr (.inl (.inr h))
      · exact .inr (.inr h)
    · exact .inr (.inr (Nat.le_trans a.next h))
  · obtain ⟨y, hy⟩ := b.oext i x hi h
    exact a.oext i y hi hy
  · rcases b.onum i x hi h with h | ⟨k, y, h1, h2, h3⟩
    · exact .inl (Nat.le_trans a.next h)
    · rcases a.onum k y h1 h2 with h | ⟨j, z, h4, h5, h6⟩
      · exact .inl (by rw [← h3]; exact h)
      · exact .inr ⟨j, z, h4, h5, h6.trans h3⟩
  · rcases b.xnew c h with h | h
    · exact a.xnew c h
    · exact .inr (Nat.le_trans a.next h)
  · refine b.wmin k (a.wmin k h1 h2 h3) (Nat.le_trans h2 a.next) fun c hc => ?_
    rcases hc with hc | hc
    · rcases a.onew c hc with h | h
      · exact h3 c (.inl h)
      · omega
    · rcases a.xnew c hc with h | h
      · exact h3 c (.inr h)
      · omega
theorem Frm.le {m' : Nat} (a : Frm m Γ hp X Γ' hp' X') (h' : m' ≤ m) (hm : m ≤ Γ.nw) : Frm m' Γ hp X Γ' hp' X' :=
  ⟨fun i hi => a.sig i (Nat.lt_of_lt_of_le hi h'), fun _ => Nat.le_trans h' (a.mle hm), a.next, a.keep, a.dsub, a.dnew, fun b x hb h => a.oext b x (Nat.lt_of_lt_of_le hb h') h, fun b x hb h => by
    rcases Nat.lt_or_ge b m with hlt | hge
    · obtain ⟨y, hy⟩ := a.oext b x hlt h
      exact .inr ⟨b, y, hb, hy, (a.sig b hlt).symm⟩
    · rcases a.onum b x hge h with h | ⟨k, y, h1, h2, h3⟩
      · exact .inl h
      · exact .inr ⟨k, y, Nat.le_trans h' h1, h2, h3⟩, a.xnew, a.wmin⟩

/-! ### lists of blocks -/
theorem hget_cons {k b : Nat} {x : TypeId × W} {hp : HpW} : hget ((k, x) :: hp) b = if k = b then some x else hget hp b := by
  simp only [hget]
  by_cases h : k = b
  · subst h; simp
  · rw [if_neg h]
    have : Nat.beq k b = false := by
      cases hb : Nat.beq k b with
      | true => exact absurd (Nat.eq_of_beq_eq_true hb) h
      | false => rfl
    rw [this]
theorem hget_mem {b : Nat} {x : TypeId × W} : ∀ {hp : HpW}, hget hp b = some x → b ∈ hp.map (·.1)
  | [], h => by simp [hget] at h
  | (k, y) :: hp, h => by
    rw [hget_cons] at h
    split at h
    · rename_i e; subst e; simp
    · simp only [List.map_cons, List.mem_cons]; exact .inr (hget_mem h)
theorem hget_hset {b k : Nat} {x y : TypeId × W} : ∀ {hp : HpW}, hget hp b = some y → hget (hset hp b x) k = if b = k then some x else hget hp k
  | [], h => by simp [hget] at h
  | (j, z) :: hp, h => by
    rw [hget_cons] at h
    simp only [hset]
    by_cases e : j = b
    · subst e
      simp only [show Nat.beq j j = true from by simp]
      rw [hget_cons, hget_cons]
      split <;> rfl
    · rw [if_neg e] at h
      have : Nat.beq j b = false := by
        cases hb : Nat.beq j b with
        | true => exact absurd (Nat.eq_of_beq_eq_true hb) e
        | false => rfl
      simp only [this]
      rw [hget_cons, hget_cons, hget_hset h]
      by_cases e2 : j = k
      · rw [if_pos e2, if_pos e2, if_neg (fun e3 => e (e2.trans e3.symm))]
      · rw [if_neg e2, if_neg e2]
theorem hset_keys {b : Nat} {x : TypeId × W} : ∀ {hp : HpW}, (hset hp b x).map (·.1) = hp.map (·.1)
  | [] => rfl
  | (j, z) :: hp => by
    simp only [hset]
    split
    · rfl
    · simp only [List.map_cons, hset_keys]
theorem hget_hdel {b k : Nat} : ∀ {hp : HpW}, (hp.map (·.1)).Nodup → hget (hdel hp b) k = if b = k then none else hget hp k
  | [], _ => by simp [hdel, hget]
  | (j, z) :: hp, h => by
    simp only [List.map_cons, List.nodup_cons] at h
    simp only [hdel]
    by_cases e : j = b
    · subst e
      simp only [show Nat.beq j j = true from by simp]
      rw [hget_cons]
      by_cases e2 : j = k
      · rw [if_pos e2]
        cases hg : hget hp k with
        | none => rfl
        | some x => exact absurd (hget_mem hg) (by rw [← e2]; exact h.1)
      · rw [if_neg e2, if_neg e2]
    · have : Nat.beq j b = false := by
        cases hb : Nat.beq j b with
        | true => exact absurd (Nat.eq_of_beq_eq_true hb) e
        | false => rfl
      simp only [this]
      rw [hget_cons, hget_cons, hget_hdel h.2]
      by_cases e2 : j = k
      · rw [if_pos e2, if_pos e2, if_neg (fun e3 => e (e2.trans e3.symm))]
      · rw [if_neg e2, if_neg e2]
theorem hdel_sub {b : Nat} : ∀ {hp : HpW}, ((hdel hp b).map (·.1)).Sublist (hp.map (·.1))
  | [] => List.Sublist.refl _
  | (j, z) :: hp => by
    simp only [hdel]
    split
    · exact List.sublist_cons_self _ _
    · exact hdel_sub.cons_cons _
variable {C : Cfg} {G : Nat → Option W} {R : Res}
theorem GRel.mono (g : GRel C G Γ) (le : Γ.Le Γ') : GRel C G Γ' := fun i w h1 h2 nw σ => RV.mono (Γ := ⟨nw, σ, Γ.D, Γ.h⟩) (Γ' := ⟨nw, σ, Γ'.D, Γ'.h⟩) ⟨Nat.le_refl _, fun _ _ => rfl, le.D, le.val⟩ (g i w h1 h2 nw σ)
theorem FRel.mono {fr : FrW} {frv : Tr V} (g : FRel Γ fr frv) (le : Γ.Le Γ') : FRel Γ' fr frv := fun t w h => by
  obtain ⟨v, h1, h2⟩ := g t w h
  exact ⟨v, h1, h2.mono le⟩
theorem val_of_get {h : Heap} {b : Nat} {ty : TypeId} {v : V} (hg : h.get b = some (.cells ty v)) : h.val b = some v := by simp only [Heap.val, hg]
theorem val_congr {h h' : Heap} {b : Nat} (hg : h'.get b = h.get b) : h'.val b = h.val b := by simp only [Heap.val, hg]
/-- a new block -/
noncomputable def Ctx.push (Γ : Ctx) (B : Blk) : Ctx := ⟨Γ.nw + 1, fun i => if i = Γ.nw then Γ.h.next else Γ.σ i, Γ.D, Γ.h.push B⟩
theorem push_le (s : SatH C G Γ hp X R) (B : Blk) : Γ.Le (Γ.push B) :=
  ⟨Nat.le_succ _, fun b hb => by simp only [Ctx.push]; rw [if_neg (by omega)], fun _ h => h, fun b hb => val_congr (by
    have := s.dlt b hb
    simp only [Ctx.push, Heap.get_push]; rw [if_neg (by omega)])⟩
theorem own_push {B : Blk} {x : TypeId × W} (s : SatH C G Γ hp X R) {c : Nat} (h : Owns (Γ.push B) ((Γ.nw, x) :: hp) c) : Owns Γ hp c ∨ c = Γ.h.next := by
  obtain ⟨b, y, h1, rfl⟩ := h
  rw [hget_cons] at h1
  split at h1
  · rename_i e
    subst e
    right; simp [Ctx.push]
  · left
    have := (s.own b y.1 y.2 h1).1
    exact ⟨b, y, h1, by simp only [Ctx.push]; rw [if_neg (by omega)]⟩
theorem push_sat (s : SatH C G Γ hp X R) {ty : TypeId} {w : W} {v : V} (hv : RV Γ w v) : SatH C G (Γ.push (.cells ty v)) ((Γ.nw, ty, w) :: hp) X R ∧ Frm Γ.nw Γ hp X (Γ.push (.cells ty v)) ((Γ.nw, ty, w) :: hp) X := by
  have le := push_le s (.cells ty v)
  have hlt : ∀ {b x}, hget hp b = some x → b < Γ.nw := fun h => (s.own _ _ _ h).1
  have hσ : ∀ {b x}, hget hp b = some x → (Γ.push (.cells ty v)).σ b = Γ.σ b := fun h => le.σ _ (hlt h)
  have hon : ∀ {b x}, hget hp b = some x → Γ.σ b < Γ.h.next := fun {b x} h => by
    obtain ⟨_, _, _, u, h1, _⟩ := s.own b x.1 x.2 h
    rcases Nat.lt_or_ge (Γ.σ b) Γ.h.next with h | h
    · exact h
    · rw [s.wf _ h] at h1; cases h1
  constructor
  · refine ⟨fun i hi => ?_, fun b ty' w' hb => ?_, fun b b' x y hx hy he => ?_, ?_, s.dX, fun c hc => Nat.lt_succ_of_lt (s.xlt c hc), fun c hc => Nat.lt_succ_of_lt (s.dlt c hc), ?_, s.gl.mono le⟩
    · have hi : Γ.h.next + 1 ≤ i := hi
      simp only [Ctx.push, Heap.get_push]
      rw [if_neg (by omega)]; exact s.wf i (by omega)
    · rw [hget_cons] at hb
      split at hb
      · rename_i e
        cases hb
        subst e
        have e1 : (Γ.push (.cells ty v)).σ Γ.nw = Γ.h.next := by simp [Ctx.push]
        rw [e1]
        refine ⟨Nat.lt_succ_self _, fun hd => Nat.lt_irrefl _ (s.dlt _ hd), fun hx => Nat.lt_irrefl _ (s.xlt _ hx), v, ?_, hv.mono le⟩
        simp only [Ctx.push, Heap.get_push, if_true]
      · obtain ⟨h1, h2, h3, u, h4, h5⟩ := s.own b ty' w' hb
        rw [hσ hb]
        refine ⟨Nat.lt_succ_of_lt h1, h2, h3, u, ?_, h5.mono le⟩
        have := hon hb
        simp only [Ctx.push, Heap.get_push]; rw [if_neg (by omega)]; exact h4
    · rw [hget_cons] at hx hy
      split at hx <;> split at hy
      · rename_i e1 e2; exact e1.symm.trans e2
      · rename_i e1 e2
        subst e1
        rw [hσ hy] at he
        have := hon hy
        simp [Ctx.push] at he; omega
      · rename_i e1 e2
        subst e2
        rw [hσ hx] at he
        have := hon hx
        simp [Ctx.push] at he; omega
      · rw [hσ hx, hσ hy] at he
        exact s.inj b b' x y hx hy he
    · simp only [List.map_cons, List.nodup_cons]
      refine ⟨fun hm => ?_, s.nd⟩
      have key : ∀ {l : HpW}, Γ.nw ∈ l.map (·.1) → ∃ x, hget l Γ.nw = some x := fun {l} => by
        induction l with
        | nil => intro h; simp at h
        | cons p l ih =>
          intro h
          obtain ⟨k, y⟩ := p
          rw [hget_cons]
          split
          · exact ⟨_, rfl⟩
          · rename_i hne
            simp only [List.map_cons, List.mem_cons] at h
            rcases h with h | h
            · exact absurd h.symm hne
            · exact ih h
      obtain ⟨x, hx⟩ := key hm
      exact Nat.lt_irrefl _ (hlt hx)
    · exact R.st _ _ _ _ _ s.res le.D le.val (fun c hc => by
        have := s.xlt c hc
        simp only [Ctx.push, Heap.get_push]; rw [if_neg (by omega)]) (Nat.le_succ _)
  · refine ⟨fun b hb => le.σ b hb, fun _ => Nat.le_succ _, Nat.le_succ _, fun c h1 _ _ => ?_, fun _ h => h, fun _ h => .inl h, fun b x hb h => ?_, fun b x hb h => ?_, fun _ h => .inl h, fun k h _ _ => h⟩
    · simp only [Ctx.push, Heap.get_push]; rw [if_neg (by omega)]
    · rw [hget_cons, if_neg (by omega)] at h
      exact ⟨x, h⟩
    · rw [hget_cons] at h
      split at h
      · rename_i e; subst e; exact .inl (by simp [Ctx.push])
      · have := hlt h; omega
/-- a block of one's own, written -/
noncomputable def Ctx.put (Γ : Ctx) (b : Nat) (B : Blk) : Ctx := { Γ with h := Γ.h.put (Γ.σ b) B }
theorem wmn_le {a i k : Nat} (h1 : k ≤ a) (h2 : k ≤ i) : k ≤ wmn a i := by
  unfold wmn; split <;> assumption
theorem put_le (s : SatH C G Γ hp X R) {b : Nat} {x : TypeId × W} (hb : hget hp b = some x) (B : Blk) : Γ.Le (Γ.put b B) :=
  ⟨Nat.le_refl _, fun _ _ => rfl, fun _ h => h, fun c hc => val_congr (by
    simp only [Ctx.put, Heap.get_put]
    rw [if_neg fun e : c = Γ.σ b => by subst e; exact (s.own b x.1 x.2 hb).2.1 hc])⟩
theorem put_sat (s : SatH C G Γ hp X R) {b : Nat} {x : TypeId × W} {ty : TypeId} {w : W} {v : V} (hb : hget hp b = some x) (hv : RV Γ w v) : SatH C G (Γ.put b (.cells ty v)) (hset hp b (ty, w)) X R ∧ Frm Γ.nw Γ hp X (Γ.put b (.cells ty v)) (hset hp b (ty, w)) X := by
  have le := put_le s hb (.cells ty v)
  obtain ⟨q1, q2, q3, u, q4, q5⟩ := s.own b x.1 x.2 hb
  have hold : ∀ {k y}, hget (hset hp b (ty, w)) k = some y → ∃ z, hget hp k = some z := fun {k y} h => by
    rw [hget_hset hb] at h
    split at h
    · rename_i e; exact ⟨x, e ▸ hb⟩
    · exact ⟨y, h⟩
  constructor
  · refine ⟨fun i hi => ?_, fun k ty' w' hk => ?_, fun k k' y z hy hz he => ?_, by rw [hset_keys]; exact s.nd, s.dX, s.xlt, s.dlt, ?_, s.gl.mono le⟩
    · simp only [Ctx.put, Heap.get_put]
      rw [if_neg fun e => by rw [e] at hi; have := s.wf _ hi; rw [q4] at this; cases this]
      exact s.wf i hi
    · rw [hget_hset hb] at hk
      split at hk
      · rename_i e
        subst e
        cases hk
        refine ⟨q1, q2, q3, v, ?_, hv.mono le⟩
        simp only [Ctx.put, Heap.get_put, if_true]
      · rename_i hne
        obtain ⟨h1, h2, h3, u', h4, h5⟩ := s.own k ty' w' hk
        refine ⟨h1, h2, h3, u', ?_, h5.mono le⟩
        simp only [Ctx.put, Heap.get_put]
        rw [if_neg fun e => hne (s.inj b k _ _ hb hk e.symm)]
        exact h4
    · obtain ⟨y', hy'⟩ := hold hy
      obtain ⟨z', hz'⟩ := hold hz
      exact s.inj k k' _ _ hy' hz' he
    · exact R.st _ _ _ _ _ s.res le.D le.val (fun c hc => by
        simp only [Ctx.put, Heap.get_put]; rw [if_neg fun e : c = Γ.σ b => by subst e; exact q3 hc]) (Nat.le_refl _)
  · refine ⟨fun _ _ => rfl, fun h => h, Nat.le_refl _, fun c h1 h2 _ => ?_, fun _ h => h, fun _ h => .inl h, fun k y _ h => hold h, fun k y hk h => by obtain ⟨z, hz⟩ := hold h; have := (s.own _ _ _ hz).1; omega, fun _ h => .inl h, fun k h1 _ h3 => ?_⟩
    · simp only [Ctx.put, Heap.get_put]
      rw [if_neg fun e => h2 ⟨b, x, hb, e.symm⟩]
    · exact wmn_le h1 (h3 _ (.inl ⟨b, x, hb, rfl⟩))
/-- a block of one's own, let go -/
theorem kill_sat (s : SatH C G Γ hp X R) {b : Nat} {x : TypeId × W} (hb : hget hp b = some x) : Γ.Le { Γ with h := Γ.h.kill (Γ.σ b) } ∧ SatH C G { Γ with h := Γ.h.kill (Γ.σ b) } (hdel hp b) X R ∧ Frm Γ.nw Γ hp X { Γ with h := Γ.h.kill (Γ.σ b) } (hdel hp b) X := by
  obtain ⟨q1, q2, q3, u, q4, q5⟩ := s.own b x.1 x.2 hb
  have le : Γ.Le { Γ with h := Γ.h.kill (Γ.σ b) } := ⟨Nat.le_refl _, fun _ _ => rfl, fun _ h => h, fun c hc => val_congr (by
    simp only [Heap.get_kill]
    rw [if_neg fun e : c = Γ.σ b => by subst e; exact q2 hc])⟩
  have hold : ∀ {k y}, hget (hdel hp b) k = some y → b ≠ k ∧ hget hp k = some y := fun {k y} h => by
    rw [hget_hdel s.nd] at h
    split at h
    · cases h
    · rename_i e; exact ⟨e, h⟩
  refine ⟨le, ⟨fun i hi => ?_, fun k ty' w' hk => ?_, fun k k' y z hy hz he => s.inj k k' _ _ (hold hy).2 (hold hz).2 he, s.nd.sublist hdel_sub, s.dX, s.xlt, s.dlt, ?_, s.gl.mono le⟩, ?_⟩
  · simp only [Heap.get_kill]
    split
    · rfl
    · exact s.wf i hi
  · obtain ⟨hne, hk⟩ := hold hk
    obtain ⟨h1, h2, h3, u', h4, h5⟩ := s.own k ty' w' hk
    refine ⟨h1, h2, h3, u', ?_, h5.mono le⟩
    simp only [Heap.get_kill]
    rw [if_neg fun e => hne (s.inj b k _ _ hb hk e.symm)]
    exact h4
  · exact R.st _ _ _ _ _ s.res le.D le.val (fun c hc => by
      simp only [Heap.get_kill]; rw [if_neg fun e : c = Γ.σ b => by subst e; exact q3 hc]) (Nat.le_refl _)
  · refine ⟨fun _ _ => rfl, fun h => h, Nat.le_refl _, fun c h1 h2 _ => ?_, fun _ h => h, fun _ h => .inl h, fun k y _ h => ⟨y, (hold h).2⟩, fun k y hk h => by have := (s.own _ _ _ (hold h).2).1; omega, fun _ h => .inl h, fun k h1 _ h3 => ?_⟩
    · simp only [Heap.get_kill]
      rw [if_neg fun e => h2 ⟨b, x, hb, e.symm⟩]
    · exact wmn_le h1 (h3 _ (.inl ⟨b, x, hb, rfl⟩))
end

/-! ### what an operation did -/
/-- what it did in the plain machine -/
noncomputable def EvR (Γ : Ctx) (hp : HpW) : EvW → Ev → Prop
  | .loadO b, e => ∃ x, hget hp b = some x ∧ e = .load (Γ.σ b)
  | .loadF, e => ∃ c, Γ.D c ∧ e = .load c
  | .storeO b, e => ∃ x, hget hp b = some x ∧ e = .store (Γ.σ b)
  | .gen, e => e = .gen
  | .dirty, _ => True
/-- what an operation leaves -/
structure Out (C : Cfg) (G : Nat → Option W) (X : Nat → Prop) (R : Res) (Γ : Ctx) (hp : HpW) (v : V) (h' : Heap) (w : W) (hp' : HpW) (nw' : Nat) (Γ' : Ctx) : Prop where
  hh : Γ'.h = h'
  nw : Γ'.nw = nw'
  le : Γ.Le Γ'
  sat : SatH C G Γ' hp' X R
  frm : Frm Γ.nw Γ hp X Γ' hp' X
  val : RV Γ' w v
section
variable {Γ : Ctx} {hp : HpW} {X : Nat → Prop} {C : Cfg} {G : Nat → Option W} {R : Res} {fr : FrW} {frv : Tr V}
theorem Out.same (s : SatH C G Γ hp X R) {v : V} {w : W} (h : RV Γ w v) : Out C G X R Γ hp v Γ.h w hp Γ.nw Γ := ⟨rfl, rfl, Ctx.Le.refl _, s, Frm.refl _ _ _ _, h⟩
theorem Out.new (s : SatH C G Γ hp X R) {ty : TypeId} {w u : W} {v z : V} (hv : RV Γ w v) (hu : RV (Γ.push (.cells ty v)) u z) : Out C G X R Γ hp z (Γ.h.push (.cells ty v)) u ((Γ.nw, ty, w) :: hp) (Γ.nw + 1) (Γ.push (.cells ty v)) :=
  ⟨rfl, rfl, push_le s _, (push_sat s hv).1, (push_sat s hv).2, hu⟩
theorem put_new {B : Blk} : (Γ.push B).σ Γ.nw = Γ.h.next := by simp [Ctx.push]
theorem RV_newp {B : Blk} : RV (Γ.push B) (.ptr Γ.nw 0) (.ptr Γ.h.next 0) := RV_ptr.2 ⟨Nat.lt_succ_self _, by rw [put_new]⟩
theorem RV_news {B : Blk} {n e : Nat} : RV (Γ.push B) (.sl Γ.nw 0 0 n e none) (.sl Γ.h.next 0 0 n e none) := RV_sl.2 ⟨Nat.lt_succ_self _, by rw [put_new]⟩
theorem rep_sim {z : W} {zv : V} {e n : Nat} (hz : RV Γ z zv) (he : z.size = e) : RV Γ (repW n e z) (repV n e zv) := by
  have h1 : ∀ n, RSL Γ (List.replicate n z) (flatE e (List.replicate n zv)) := fun n => by
    induction n with
    | zero => simp [RSL, flatE]
    | succ n ih =>
      rw [List.replicate_succ, List.replicate_succ, flatE, fitV_self (by rw [flatV_length, hz.size, he])]
      exact RSL_cons hz.2 ih
  have h2 := RSL_len (h1 n)
  have h3 : sumW (List.replicate n z) = n * e := by
    rw [sumW_eq (e := e) fun x hx => by rw [(List.mem_replicate.1 hx).2, he], List.length_replicate]
  refine ⟨rfl, ?_⟩
  simp only [repW, repV, RS, flatV]
  rw [fitV_self (by rw [h2, h3])]
  exact ⟨by rw [h2, h3], fun x hx => by rw [(List.mem_replicate.1 hx).2, he], h1 n⟩
theorem fillE_sim (hf : FRel Γ fr frv) (hg : GRel C G Γ) {e : Nat} : ∀ {l : List (Nat × Operand)} {z w : W} {zv : V}, RV Γ z zv → fillEW C G fr e z l = some w → ∃ v, fillE C frv e zv l = some v ∧ RV Γ w v
  | [], _, _, zv, hz, h => by simp only [fillEW] at h; cases h; exact ⟨zv, rfl, hz⟩
  | (i, x) :: l, z, w, zv, hz, h => by
    simp only [fillEW] at h
    split at h
    · rename_i y hy
      obtain ⟨y', h1, h2⟩ := ev_sim hf hg hy
      split at h
      · rename_i hs
        split at h
        · rename_i z' hz'
          obtain ⟨v', h3, h4, _⟩ := sim_put hz h2 hz'
          obtain ⟨v, h5, h6⟩ := fillE_sim hf hg h4 h
          refine ⟨v, ?_, h6⟩
          simp only [fillE, h1, h2.size, hs, h3]
          exact h5
        · cases h
      · cases h
    · cases h
theorem putN_sim {e : Nat} : ∀ {l : List W} {us : List V} {off : Nat} {z w : W} {zv : V}, RV Γ z zv → Els Γ e l us → putNW z off e l = some w → ∃ v, putN zv off e us = some v ∧ RV Γ w v
  | [], us, _, _, _, zv, hz, hl, h => by
    have : us = [] := List.length_eq_zero_iff.1 hl.len
    subst this
    simp only [putNW] at h; cases h
    exact ⟨zv, rfl, hz⟩
  | x :: l, us, off, z, w, zv, hz, hl, h => by
    obtain ⟨u, us', rfl, h1, h2, h3, h4⟩ := hl.cons
    simp only [putNW] at h
    split at h
    · rename_i hs
      simp only [Bool.and_eq_true, Nat.beq_eq] at hs
      obtain ⟨hs, hzg⟩ := hs
      split at h
      · rename_i z' hz'
        -- the element's shape may differ: only its cells count
        obtain ⟨k1, k2, k3, k4, k5, k6⟩ := putAtW_spec (Γ := Γ) 50 hz' hz.2 h1
        have hza : zv.isAgg = z.isAgg := hz.1.symm
        have hb : Nat.ble (off + u.size) zv.size = true := Nat.ble_eq_true_of_le (by rw [h2, hz.size, ← hs]; omega)
        have hu : (u.leaf || u.isAgg) = true := by simpa using h3
        have : ∃ v', putAt 50 zv off u = some v' := by
          unfold putAt
          split
          · exact ⟨_, rfl⟩
          · unfold flatPut
            rw [show (zv.isAgg && (u.leaf || u.isAgg) && Nat.ble (off + u.size) zv.size) = true by rw [hza, hzg, hu, hb]; rfl]
            exact ⟨_, rfl⟩
        obtain ⟨v', hv'⟩ := this
        obtain ⟨j1, j2, j3, j4⟩ := putAt_flat hv'
        have hr' : RV Γ z' v' := ⟨by rw [k4, j4, hza], by rw [j3, h2, ← hs]; exact k3⟩
        obtain ⟨v, g1, g2⟩ := putN_sim hr' h4 h
        refine ⟨v, ?_, g2⟩
        simp only [putN, h2, show Nat.beq e e = true by simp, hv']
        exact g1
      · cases h
    · cases h
end
end Go.Proofs.YtmlemnbhjbaedaaGreatDoor

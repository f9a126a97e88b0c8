/-
  One state, told otherwise: other numbers; blocks that nobody writes to any more. Calls. Nothing here speaks of a program.
-/
import Derived.Test.YtmlemnbhjbaedaaGreatDoorWCall
namespace Go.Proofs.YtmlemnbhjbaedaaGreatDoor
open Go.RowKit
set_option linter.unusedSimpArgs false
set_option linter.unusedVariables false

mutual
/-- a value, some blocks of one's own in it seen as what stays -/
inductive View (blk : Nat → Option W) : W → W → Prop where
  | pur {w : W} (h : purW w = true) : View blk w w
  | sl {b base off len esz : Nat} {lim : Option Nat} {c : W} {xs : List W} {full : Bool} (hb : blk b = some c) (hc : purW c = true) (hx : subArrW 50 c off len esz = some xs) (hf : full = true → lim = some len) : View blk (.sl b base off len esz lim) (.fz xs esz full)
  | ptr {b off n : Nat} {ag : Bool} {c x : W} (hb : blk b = some c) (hc : purW c = true) (hx : getAtW 50 c off n ag = some x) : View blk (.ptr b off) (.fel x)
  | ptrK {b off : Nat} (hb : blk b = none) : View blk (.ptr b off) (.ptr b off)
  | slK {b base off len esz : Nat} {lim : Option Nat} (hb : blk b = none) : View blk (.sl b base off len esz lim) (.sl b base off len esz lim)
  | agg {n : Nat} {l l' : List W} (h : ViewL blk l l') : View blk (.agg n l) (.agg n l')
  | arr {n e : Nat} {l l' : List W} (h : ViewL blk l l') : View blk (.arr n e l) (.arr n e l')
  | tup {l l' : List W} (h : ViewL blk l l') : View blk (.tup l) (.tup l')
  | fn {f : FuncId} {a a' c c' : List W} (h : ViewL blk a a') (k : ViewL blk c c') : View blk (.fn f a c) (.fn f a' c')
  | iface {t : TypeId} {v v' : W} (h : View blk v v') : View blk (.iface t v) (.iface t v')
inductive ViewL (blk : Nat → Option W) : List W → List W → Prop where
  | nil : ViewL blk [] []
  | cons {x x' : W} {l l' : List W} (h : View blk x x') (k : ViewL blk l l') : ViewL blk (x :: l) (x' :: l')
end
theorem View.shape {blk : Nat → Option W} {w w' : W} (h : View blk w w') : w'.size = w.size ∧ w'.isAgg = w.isAgg := by
  cases h <;> exact ⟨rfl, rfl⟩
theorem ViewL.all {blk : Nat → Option W} {e : Nat} : ∀ {l l' : List W}, ViewL blk l l' → (∀ x ∈ l, x.size = e) → ∀ x ∈ l', x.size = e
  | _, _, .nil, _, x, hx => by simp at hx
  | _, _, .cons h k, hl, x, hx => by
    simp only [List.mem_cons] at hx
    rcases hx with rfl | hx
    · rw [h.shape.1]; exact hl _ (List.mem_cons_self ..)
    · exact k.all (fun y hy => hl y (List.mem_cons_of_mem _ hy)) x hx
section
variable {Γ Γ' : Ctx} {blk : Nat → Option W}
/-- what a view leans on -/
structure Seen (blk : Nat → Option W) (Γ Γ' : Ctx) : Prop where
  nw : ∀ b, b < Γ.nw → blk b = none → b < Γ'.nw
  σ : ∀ b, b < Γ.nw → blk b = none → Γ'.σ b = Γ.σ b
  D : ∀ b, Γ.D b → Γ'.D b
  val : ∀ b, Γ.D b → Γ'.h.val b = Γ.h.val b
  at_ : ∀ b c, b < Γ.nw → blk b = some c → Γ'.D (Γ.σ b) ∧ ∃ v, Γ'.h.val (Γ.σ b) = some v ∧ RV Γ c v
theorem RS_pur (hD : ∀ b, Γ.D b → Γ'.D b) (hv : ∀ b, Γ.D b → Γ'.h.val b = Γ.h.val b) {w : W} {s : List V} (hp : purW w = true) (h : RS Γ w s) : RS Γ' w s := by
  have h1 := RS_via (τ := fun b => b) (Γ := Γ) (Γ' := ⟨Γ.nw, Γ.σ, Γ'.D, Γ'.h⟩) ⟨fun _ h => h, fun _ _ => rfl, hD, hv⟩ h
  rw [ren_pur hp] at h1
  have e : renW (fun b => b) w = w := ren_pur hp
  rw [← e] at h1
  have := RS_back (Γ := ⟨Γ.nw, Γ.σ, Γ'.D, Γ'.h⟩) (Γ' := ⟨0, Γ.σ, Γ'.D, Γ'.h⟩) (τ := fun b => b) (m := 0) rfl (fun b hb => by omega) (fun _ h => h) (fun _ _ => rfl) (ref_pur hp) h1
  have h2 := RS_via (τ := fun b => b) (Γ := ⟨0, Γ.σ, Γ'.D, Γ'.h⟩) (Γ' := Γ') ⟨fun b hb => by have hb : b < 0 := hb; omega, fun b hb => by have hb : b < 0 := hb; omega, fun _ h => h, fun _ _ => rfl⟩ this
  rwa [ren_pur hp] at h2
theorem RV_pur (hD : ∀ b, Γ.D b → Γ'.D b) (hv : ∀ b, Γ.D b → Γ'.h.val b = Γ.h.val b) {w : W} {v : V} (hp : purW w = true) (h : RV Γ w v) : RV Γ' w v := ⟨h.1, RS_pur hD hv hp h.2⟩
mutual
theorem view_rs (q : Seen blk Γ Γ') : ∀ {w w' : W} {s : List V}, View blk w w' → RS Γ w s → RS Γ' w' s
  | _, _, _, .pur h, hs => RS_pur q.D q.val h hs
  | _, _, _, .sl (b := b) (base := base) (off := off) (len := len) (esz := esz) (lim := lim) (c := c) (xs := xs) (full := full) hb hc hx hf, hs => by
    simp only [RS] at hs
    obtain ⟨hbn, rfl⟩ := hs
    obtain ⟨h1, v, h2, h3⟩ := q.at_ b c hbn hb
    have h3 := RV_pur q.D q.val hc h3
    obtain ⟨g1, g2, g3, g4, g5⟩ := subArrW_spec (Γ := Γ') 50 hx h3.2
    simp only [RS]
    subst g1
    exact .inr ⟨Γ.σ b, base, off, lim, v, rfl, hf, h1, h2, by rw [← h3.1]; exact g5, by rw [h3.size]; exact g2, g3, g4⟩
  | _, _, _, .ptr (b := b) (off := off) (n := n) (ag := ag) (c := c) (x := x) hb hc hx, hs => by
    simp only [RS] at hs
    obtain ⟨hbn, rfl⟩ := hs
    obtain ⟨h1, v, h2, h3⟩ := q.at_ b c hbn hb
    have h3 := RV_pur q.D q.val hc h3
    obtain ⟨g1, g2, g3, g4, g5⟩ := getAtW_spec (Γ := Γ') 50 hx h3.2
    simp only [RS]
    refine ⟨Γ.σ b, off, v, rfl, h1, h2, by rw [g1, h3.size]; exact g2, fun ha => ?_, ?_, by rw [g1]; exact g3⟩
    · rw [← h3.1]
      cases hca : c.isAgg with
      | true => rfl
      | false =>
        obtain ⟨_, _, _, _, rfl⟩ := getAtW_one (f := 49) hca hx
        rw [hca] at ha; cases ha
    · cases hca : c.isAgg with
      | true => exact .inr (by rw [← h3.1]; exact hca)
      | false =>
        obtain ⟨_, _, _, hl, rfl⟩ := getAtW_one (f := 49) hca hx
        exact .inl (h3.leaf hl)
  | _, _, _, .ptrK hb, hs => by
    simp only [RS] at hs ⊢
    exact ⟨q.nw _ hs.1 hb, by rw [q.σ _ hs.1 hb]; exact hs.2⟩
  | _, _, _, .slK hb, hs => by
    simp only [RS] at hs ⊢
    exact ⟨q.nw _ hs.1 hb, by rw [q.σ _ hs.1 hb]; exact hs.2⟩
  | _, _, _, .agg h, hs => by
    simp only [RS] at hs ⊢
    exact ⟨hs.1, view_rsl q h hs.2⟩
  | _, _, _, .arr h, hs => by
    simp only [RS] at hs ⊢
    exact ⟨hs.1, h.all hs.2.1, view_rsl q h hs.2.2⟩
  | _, _, _, .tup h, hs => by
    simp only [RS] at hs ⊢
    obtain ⟨vs, rfl, hs⟩ := hs
    exact ⟨vs, rfl, view_rvl q h hs⟩
  | _, _, _, .fn h k, hs => by
    simp only [RS] at hs ⊢
    obtain ⟨a', c', rfl, h1, h2⟩ := hs
    exact ⟨a', c', rfl, view_rvl q h h1, view_rvl q k h2⟩
  | _, _, _, .iface h, hs => by
    simp only [RS] at hs ⊢
    obtain ⟨v, rfl, h1, h2⟩ := hs
    exact ⟨v, rfl, by rw [h.shape.2]; exact h1, view_rs q h h2⟩
theorem view_rsl (q : Seen blk Γ Γ') : ∀ {l l' : List W} {s : List V}, ViewL blk l l' → RSL Γ l s → RSL Γ' l' s
  | _, _, _, .nil, hs => by simp only [RSL] at hs ⊢; exact hs
  | _, _, _, .cons h k, hs => by
    simp only [RSL] at hs ⊢
    rw [h.shape.1]
    exact ⟨view_rs q h hs.1, view_rsl q k hs.2⟩
theorem view_rvl (q : Seen blk Γ Γ') : ∀ {l l' : List W} {vs : List V}, ViewL blk l l' → RVL Γ l vs → RVL Γ' l' vs
  | _, _, _, .nil, hs => by simp only [RVL] at hs ⊢; exact hs
  | _, _, _, .cons h k, hs => by
    simp only [RVL] at hs ⊢
    obtain ⟨v, vs', rfl, ⟨h1, h2⟩, h3⟩ := hs
    exact ⟨v, vs', rfl, ⟨by rw [h.shape.2]; exact h1, view_rs q h h2⟩, view_rvl q k h3⟩
end
theorem view_rv (q : Seen blk Γ Γ') {w w' : W} {v : V} (h : View blk w w') (hs : RV Γ w v) : RV Γ' w' v := ⟨by rw [h.shape.2]; exact hs.1, view_rs q h hs.2⟩
end
section
variable {C : Cfg} {G : Nat → Option W} {m k0 : Nat} {fr fr2 : FrW} {hp hp2 : HpW} {nw nw2 : Nat} {R : Res}
/-- **other numbers**: fr2 and hp2, their numbers taken through τ, are there -/
theorem ent_num (τ : Nat → Nat) (hm : m ≤ nw2) (h1 : ∀ b, b < m → τ b = b) (h2 : ∀ b, b < nw2 → τ b < nw) (h3 : ∀ b, m ≤ b → b < nw2 → m ≤ τ b) (hf : ∀ t w, getW fr2 t = some w → getW fr t = some (renW τ w) ∧ refB nw2 w = true)
    (hh : ∀ b x, hget hp2 b = some x → b < nw2 ∧ hget hp (τ b) = some (x.1, renW τ x.2) ∧ refB nw2 x.2 = true) (inj : ∀ b c x y, hget hp2 b = some x → hget hp2 c = some y → τ b = τ c → b = c) (nd : (hp2.map (·.1)).Nodup) :
    Ent C G m k0 fr hp nw R fr2 hp2 nw2 R := fun Γ X st hnw hmn s => by
  let Γ2 : Ctx := ⟨nw2, fun i => Γ.σ (τ i), Γ.D, Γ.h⟩
  have back : ∀ {w : W} {v : V}, refB nw2 w = true → RV Γ (renW τ w) v → RV Γ2 w v := fun {w v} q1 q2 => ⟨by rw [← renW_agg τ]; exact q2.1, RS_back (Γ := Γ) (Γ' := Γ2) (τ := τ) rfl (fun _ _ => rfl) (fun _ h => h) (fun _ _ => rfl) q1 q2.2⟩
  have howns : ∀ {c}, Owns Γ2 hp2 c → Owns Γ hp c := fun {c} h => by
    obtain ⟨k, y, g1, g2⟩ := h
    exact ⟨τ k, _, (hh k y g1).2.1, g2⟩
  refine ⟨Γ2, X, rfl, ⟨s.hh, fun t w hw => ?_, ⟨s.sat.wf, fun b ty w hb => ?_, fun b c x y hx hy e => ?_, nd, s.sat.dX, s.sat.xlt, s.sat.dlt, s.sat.res, s.sat.gl⟩, fun d hd => ?_, s.nd⟩, ⟨fun b hb => ?_, fun _ => hm, Nat.le_refl _, fun _ _ _ _ => rfl, fun _ h => h, fun _ h => .inl h, fun b x hb h => ?_, fun b x hb h => ?_, fun _ h => .inl h, fun _ h _ _ => h⟩⟩
  · obtain ⟨g1, g2⟩ := hf t w hw
    obtain ⟨v, g3, g4⟩ := s.fr _ _ g1
    exact ⟨v, g3, back g2 g4⟩
  · obtain ⟨g1, g2, g3⟩ := hh b _ hb
    obtain ⟨q1, q2, q3, v, q4, q5⟩ := s.sat.own _ _ _ g2
    exact ⟨g1, q2, q3, v, q4, back g3 q5⟩
  · exact inj b c x y hx hy (s.sat.inj _ _ _ _ (hh b x hx).2.1 (hh c y hy).2.1 e)
  · obtain ⟨q1, q2, q3, q4, q5, q6⟩ := s.ds d hd
    exact ⟨q1, q2, q3, fun h => q4 (howns h), q5, q6⟩
  · show Γ.σ (τ b) = Γ.σ b
    rw [h1 b hb]
  · have := (hh b x h).2.1
    rw [h1 b hb] at this
    exact ⟨_, this⟩
  · obtain ⟨g1, g2, _⟩ := hh b x h
    exact .inr ⟨τ b, _, h3 b hb g1, g2, rfl⟩
/-- only what names no block is kept -/
theorem ent_pur (hm : m ≤ nw) (hf : ∀ t w, getW fr2 t = some w → getW fr t = some w ∧ purW w = true) : Ent C G m k0 fr hp nw R fr2 [] m R :=
  ent_num (fun b => b) (Nat.le_refl _) (fun _ _ => rfl) (fun b hb => Nat.lt_of_lt_of_le hb hm) (fun _ h _ => h) (fun t w h => by
    obtain ⟨h1, h2⟩ := hf t w h
    exact ⟨by rw [ren_pur h2]; exact h1, ref_pur h2⟩) (fun b x h => by simp [hget] at h) (fun b c x y h => by simp [hget] at h) List.nodup_nil
noncomputable def blk1 (b : Nat) (c : W) : Nat → Option W := fun k => match Nat.beq k b with
  | true => some c
  | false => none
/-- **a block that nobody writes to any more** -/
theorem ent_frz {b : Nat} {ty : TypeId} {c : W} (hb : hget hp b = some (ty, c)) (hc : purW c = true) (hbm : m ≤ b) (hf : ∀ t w, getW fr2 t = some w → ∃ w0, getW fr t = some w0 ∧ View (blk1 b c) w0 w)
    (hh : ∀ k ty w, hget hp2 k = some (ty, w) → k ≠ b ∧ ∃ w0, hget hp k = some (ty, w0) ∧ View (blk1 b c) w0 w) (nd : (hp2.map (·.1)).Nodup) : Ent C G m k0 fr hp nw R fr2 hp2 nw R := fun Γ X st hnw hmn s => by
  obtain ⟨p1, p2, p3, v, p4, p5⟩ := s.sat.own b ty c hb
  let Γ2 : Ctx := ⟨Γ.nw, Γ.σ, fun c => Γ.D c ∨ c = Γ.σ b, Γ.h⟩
  have le : Γ.Le Γ2 := ⟨Nat.le_refl _, fun _ _ => rfl, fun _ h => .inl h, fun _ _ => rfl⟩
  have q : Seen (blk1 b c) Γ Γ2 := ⟨fun _ h _ => h, fun _ _ _ => rfl, fun _ h => .inl h, fun _ _ => rfl, fun k c' hk h => by
    unfold blk1 at h
    split at h
    · rename_i e
      rw [Nat.beq_eq] at e
      subst e
      cases h
      exact ⟨.inr rfl, v, val_of_get p4, p5⟩
    · cases h⟩
  have hlt : Γ.σ b < Γ.h.next := by
    rcases Nat.lt_or_ge (Γ.σ b) Γ.h.next with h | h
    · exact h
    · rw [s.sat.wf _ h] at p4; cases p4
  have howns : ∀ {c}, Owns Γ2 hp2 c → Owns Γ hp c ∧ c ≠ Γ.σ b := fun {c'} h => by
    obtain ⟨k, y, g1, g2⟩ := h
    obtain ⟨g3, w0, g4, _⟩ := hh k y.1 y.2 g1
    have g2 : Γ.σ k = c' := g2
    refine ⟨⟨k, _, g4, g2⟩, fun e => g3 (s.sat.inj k b _ _ g4 hb (by rw [g2, e]))⟩
  refine ⟨Γ2, X, hnw, ⟨s.hh, fun t w hw => ?_, ⟨s.sat.wf, fun k ty' w hk => ?_, fun k k' x y hx hy e => ?_, nd, fun d hd hX => ?_, s.sat.xlt, fun d hd => ?_, R.st _ _ _ _ _ s.sat.res le.D le.val (fun _ _ => rfl) (Nat.le_refl _), s.sat.gl.mono le⟩, fun d hd => ?_, s.nd⟩, ⟨fun _ _ => rfl, fun h => h, Nat.le_refl _, fun _ _ _ _ => rfl, fun _ h => .inl h, fun d hd => ?_, fun k x hk h => ?_, fun k x hk h => ?_, fun _ h => .inl h, fun _ h _ _ => h⟩⟩
  · obtain ⟨w0, g1, g2⟩ := hf t w hw
    obtain ⟨u, g3, g4⟩ := s.fr _ _ g1
    exact ⟨u, g3, view_rv q g2 g4⟩
  · obtain ⟨g1, w0, g2, g3⟩ := hh k _ _ hk
    obtain ⟨q1, q2, q3, u, q4, q5⟩ := s.sat.own _ _ _ g2
    refine ⟨q1, fun h => ?_, q3, u, q4, view_rv q g3 q5⟩
    rcases h with h | h
    · exact q2 h
    · exact g1 (s.sat.inj k b _ _ g2 hb h)
  · obtain ⟨_, w0, g2, _⟩ := hh k x.1 x.2 hx
    obtain ⟨_, w1, g4, _⟩ := hh k' y.1 y.2 hy
    exact s.sat.inj _ _ _ _ g2 g4 e
  · rcases hd with h | rfl
    · exact s.sat.dX d h hX
    · exact p3 hX
  · rcases hd with h | rfl
    · exact s.sat.dlt d h
    · exact hlt
  · obtain ⟨q1, q2, q3, q4, q5, q6⟩ := s.ds d hd
    refine ⟨q1, q2, q3, fun h => q4 (howns h).1, q5, fun h => ?_⟩
    rcases h with h | rfl
    · exact q6 h
    · exact q4 ⟨b, _, hb, rfl⟩
  · rcases hd with h | rfl
    · exact .inl h
    · exact .inr (.inl (.inl ⟨b, _, hb, rfl⟩))
  · obtain ⟨_, w0, g2, _⟩ := hh k x.1 x.2 h
    exact ⟨_, g2⟩
  · obtain ⟨_, w0, g2, _⟩ := hh k x.1 x.2 h
    exact .inr ⟨k, _, hk, g2, rfl⟩

/-! ### calls -/
theorem call_op {o : Oper} {x : Operand} {xs : Array Operand} {ats : Array TypeId} (ho : o.op = .call ⟨.value x, xs, ats⟩) (frv : Tr V) (h : Heap) : pureV C frv o.type o.op = none ∧ opH C frv h o.op = none := by
  rw [ho]; exact ⟨rfl, rfl⟩
/-- **a call** -/
theorem step_call {o : Oper} {post : W → HpW → Nat → Res → Option EvW → Prop} {x : Operand} {xs : Array Operand} {ats : Array TypeId} {f : FuncId} {a us c : List W} {ext : List Nat} {ws : List W} {hp0 : HpW} {Q : W → HpW → Nat → Prop}
    (ho : o.op = .call ⟨.value x, xs, ats⟩) (hx : evW C G fr x = some (.fn f a c)) (he : C.ext f = none) (hxs : evLW C G fr xs.toList = some us) (hws : a ++ us ++ c = renWL (numC ext nw) ws) (sp : PSpec C G f ext.length ws hp0 Q)
    (hnd : ext.Nodup) (hext : ∀ b ∈ ext, b < nw) (hkn : (hp0.map (·.1)).Nodup) (hh : Handed ext nw hp0 hp) (hr : refL ext.length ws = true)
    (hpost : ∀ w hp1 nw1, Q w hp1 nw1 → post (renW (numC ext nw) w) (renH (numC ext nw) hp1 ++ delA ext hp) (nw + (nw1 - ext.length)) R (some .dirty)) : Step C G o fr hp nw R post := fun Γ X frv hnw s hf => by
  subst hnw
  obtain ⟨u, e1, e2⟩ := ev_sim hf s.gl hx
  obtain ⟨a', c', rfl, e3, e4⟩ := RV_fn.1 e2
  obtain ⟨us', e5, e6⟩ := evL_sim hf s.gl hxs
  have app : ∀ {l r : List W} {l' r' : List V}, RVL Γ l l' → RVL Γ r r' → RVL Γ (l ++ r) (l' ++ r') := fun {l} => by
    induction l with
    | nil => intro r l' r' h1 h2; simp only [RVL] at h1; subst h1; exact h2
    | cons w l ih =>
      intro r l' r' h1 h2
      simp only [RVL] at h1
      obtain ⟨v, vs, rfl, h3, h4⟩ := h1
      simp only [List.cons_append, RVL]
      exact ⟨v, vs ++ r', rfl, h3, ih h4 h2⟩
  have hv := app (app e3 e6) e4
  rw [hws] at hv
  obtain ⟨n, v, Γ', w, hp1, nw1, g1, g2, g3, g4, g5, g6, g7, g8⟩ := call_spec sp s hnd hext hkn hh hr hv
  obtain ⟨k1, k2⟩ := call_op (C := C) ho frv Γ.h
  refine ⟨n, _, _, R, some .dirty, v, Γ'.h, Γ', X, by rw [g3]; exact hpost w hp1 nw1 g2, ?_, ⟨k1, fun H1 _ _ => ?_⟩, rfl, g4, g5, g6, g7⟩
  · simp only [opV, k1, k2]
    simp only [ho, callV, e1, e5, he]
    exact g1
  · exact trivial
/-- blocks seen, all of one's own -/
noncomputable def blkA (hp : HpW) : Nat → Option W := fun b => match hget hp b with
  | some (_, c) => some c
  | none => none
mutual
/-- a value that hangs on no memory -/
noncomputable def flatB : W → Bool
  | .undef => true
  | .bool _ => true
  | .int _ _ => true
  | .str _ => true
  | .nilp => true
  | .nils => true
  | .nilm => true
  | .nilf => true
  | .nili => true
  | .agg _ l => flatL l
  | .arr _ _ l => flatL l
  | .tup l => flatL l
  | _ => false
noncomputable def flatL : List W → Bool
  | [] => true
  | w :: l => flatB w && flatL l
end
mutual
theorem RS_flat {Γ Γ' : Ctx} : ∀ {w : W} {s : List V}, flatB w = true → RS Γ w s → RS Γ' w s
  | .undef, _, _, h => by simp only [RS] at h ⊢; exact h
  | .bool _, _, _, h => by simp only [RS] at h ⊢; exact h
  | .int _ _, _, _, h => by simp only [RS] at h ⊢; exact h
  | .str _, _, _, h => by simp only [RS] at h ⊢; exact h
  | .nilp, _, _, h => by simp only [RS] at h ⊢; exact h
  | .ptr _ _, _, h, _ => by simp [flatB] at h
  | .nils, _, _, h => by simp only [RS] at h ⊢; exact h
  | .sl _ _ _ _ _ _, _, h, _ => by simp [flatB] at h
  | .fz _ _ _, _, h, _ => by simp [flatB] at h
  | .fel _, _, h, _ => by simp [flatB] at h
  | .nilm, _, _, h => by simp only [RS] at h ⊢; exact h
  | .fn _ _ _, _, h, _ => by simp [flatB] at h
  | .yield _, _, h, _ => by simp [flatB] at h
  | .nilf, _, _, h => by simp only [RS] at h ⊢; exact h
  | .iface _ _, _, h, _ => by simp [flatB] at h
  | .nili, _, _, h => by simp only [RS] at h ⊢; exact h
  | .agg n l, _, hf, h => by simp only [flatB] at hf; simp only [RS] at h ⊢; exact ⟨h.1, RSL_flat hf h.2⟩
  | .arr n e l, _, hf, h => by simp only [flatB] at hf; simp only [RS] at h ⊢; exact ⟨h.1, h.2.1, RSL_flat hf h.2.2⟩
  | .tup l, _, hf, h => by
    simp only [flatB] at hf
    simp only [RS] at h ⊢
    obtain ⟨vs, h1, h2⟩ := h
    exact ⟨vs, h1, RVL_flat hf h2⟩
theorem RSL_flat {Γ Γ' : Ctx} : ∀ {l : List W} {s : List V}, flatL l = true → RSL Γ l s → RSL Γ' l s
  | [], _, _, h => by simp only [RSL] at h ⊢; exact h
  | w :: l, _, hf, h => by
    simp only [flatL, Bool.and_eq_true] at hf
    simp only [RSL] at h ⊢
    exact ⟨RS_flat hf.1 h.1, RSL_flat hf.2 h.2⟩
theorem RVL_flat {Γ Γ' : Ctx} : ∀ {l : List W} {vs : List V}, flatL l = true → RVL Γ l vs → RVL Γ' l vs
  | [], _, _, h => by simp only [RVL] at h ⊢; exact h
  | w :: l, _, hf, h => by
    simp only [flatL, Bool.and_eq_true] at hf
    simp only [RVL] at h ⊢
    obtain ⟨v, vs', rfl, ⟨h1, h2⟩, h3⟩ := h
    exact ⟨v, vs', rfl, ⟨h1, RS_flat hf.1 h2⟩, RVL_flat hf.2 h3⟩
end
theorem RV_flat {Γ Γ' : Ctx} {w : W} {v : V} (hf : flatB w = true) (h : RV Γ w v) : RV Γ' w v := ⟨h.1, RS_flat hf h.2⟩
/-- **a call that looks at blocks of one's own, and answers something that hangs on no memory** -/
theorem step_look {o : Oper} {post : W → HpW → Nat → Res → Option EvW → Prop} {x : Operand} {xs : Array Operand} {ats : Array TypeId} {f : FuncId} {a us c ws : List W} {Q : W → HpW → Nat → Prop}
    (ho : o.op = .call ⟨.value x, xs, ats⟩) (hx : evW C G fr x = some (.fn f a c)) (he : C.ext f = none) (hxs : evLW C G fr xs.toList = some us) (hws : ViewL (blkA hp) (a ++ us ++ c) ws) (sp : PSpec C G f 0 ws [] Q) (hpw : purL ws = true)
    (hpost : ∀ w hp1 nw1, Q w hp1 nw1 → flatB w = true ∧ post w hp nw R (some .gen)) : Step C G o fr hp nw R post := fun Γ X frv hnw s hf => by
  subst hnw
  obtain ⟨u, e1, e2⟩ := ev_sim hf s.gl hx
  obtain ⟨a', c', rfl, e3, e4⟩ := RV_fn.1 e2
  obtain ⟨us', e5, e6⟩ := evL_sim hf s.gl hxs
  have app : ∀ {l r : List W} {l' r' : List V}, RVL Γ l l' → RVL Γ r r' → RVL Γ (l ++ r) (l' ++ r') := fun {l} => by
    induction l with
    | nil => intro r l' r' h1 h2; simp only [RVL] at h1; subst h1; exact h2
    | cons w l ih =>
      intro r l' r' h1 h2
      simp only [RVL] at h1
      obtain ⟨v, vs, rfl, h3, h4⟩ := h1
      simp only [List.cons_append, RVL]
      exact ⟨v, vs ++ r', rfl, h3, ih h4 h2⟩
  have hv := app (app e3 e6) e4
  have hlt : ∀ {b y}, hget hp b = some y → Γ.σ b < Γ.h.next := fun {b y} h => by
    obtain ⟨_, _, _, u, h1, _⟩ := s.own b y.1 y.2 h
    rcases Nat.lt_or_ge (Γ.σ b) Γ.h.next with h | h
    · exact h
    · rw [s.wf _ h] at h1; cases h1
  -- all of one's own blocks count as what stays
  let Γ0 : Ctx := ⟨0, Γ.σ, fun c => Γ.D c ∨ Owns Γ hp c, Γ.h⟩
  have s0 : SatH C G Γ0 [] (fun _ => False) Res.none := ⟨s.wf, fun b ty w h => by simp [hget] at h, fun b c x y h => by simp [hget] at h, List.nodup_nil, fun _ _ h => h, fun _ h => h.elim, fun d hd => by
    rcases hd with h | ⟨b, y, h1, rfl⟩
    · exact s.dlt d h
    · exact hlt h1, trivial, fun g w h1 h2 n τ => RV.mono (Γ := ⟨n, τ, Γ.D, Γ.h⟩) (Γ' := ⟨n, τ, fun c => Γ.D c ∨ Owns Γ hp c, Γ.h⟩) ⟨Nat.le_refl _, fun _ _ => rfl, fun _ h => .inl h, fun _ _ => rfl⟩ (s.gl g w h1 h2 n τ)⟩
  let Γs : Ctx := ⟨Γ.nw, Γ.σ, fun c => Γ.D c ∨ Owns Γ hp c, Γ.h⟩
  have q : Seen (blkA hp) Γ Γs := ⟨fun _ h _ => h, fun _ _ _ => rfl, fun _ h => .inl h, fun _ _ => rfl, fun b c _ h => by
    unfold blkA at h
    split at h
    · rename_i ty c' hg
      cases h
      obtain ⟨v, h1, h2, h3⟩ := own_val s hg
      exact ⟨.inr ⟨b, _, hg, rfl⟩, v, h2, h3⟩
    · cases h⟩
  have app2 : RVL Γ0 ws (a' ++ us' ++ c') := by
    have h1 := view_rvl q hws hv
    have : ∀ {l : List W} {vs : List V}, purL l = true → RVL Γs l vs → RVL Γ0 l vs := fun {l} => by
      induction l with
      | nil => intro vs _ h; simp only [RVL] at h ⊢; exact h
      | cons w l ih =>
        intro vs hp h
        simp only [purL, Bool.and_eq_true] at hp
        simp only [RVL] at h ⊢
        obtain ⟨v, vs', rfl, ⟨h2, h3⟩, h4⟩ := h
        exact ⟨v, vs', rfl, ⟨h2, RS_pur (Γ := Γs) (Γ' := Γ0) (fun _ h => h) (fun _ _ => rfl) hp.1 h3⟩, ih hp.2 h4⟩
    exact this hpw h1
  obtain ⟨n, v, Γ1, X1, w, hp1, R1, g1, g2, g3, g4, rfl, hq⟩ := sp Res.none Γ0 (fun _ => False) _ rfl s0 app2
  obtain ⟨hfl, hpo⟩ := hpost w hp1 _ hq
  have keep : ∀ {c}, c < Γ.h.next → Γ1.h.get c = Γ.h.get c := fun {c} h => g3.keep c h (fun ⟨b, x, h1, _⟩ => by simp [hget] at h1) (fun h => h)
  let Γ' : Ctx := ⟨Γ.nw, Γ.σ, Γ.D, Γ1.h⟩
  have le : Γ.Le Γ' := ⟨Nat.le_refl _, fun _ _ => rfl, fun _ h => h, fun c hc => val_congr (keep (s.dlt c hc))⟩
  have hw : ∀ k, k ≤ Γ.h.wmin → k ≤ Γ.h.next → k ≤ Γ1.h.wmin := fun k h1 h2 => g3.wmin k h1 h2 fun c hc => by
    rcases hc with ⟨b, x, h1, _⟩ | hc
    · simp [hget] at h1
    · exact hc.elim
  have s' : SatH C G Γ' hp X R := ⟨g2.wf, fun b ty w h => by
    obtain ⟨q1, q2, q3, u, q4, q5⟩ := s.own b ty w h
    exact ⟨q1, q2, q3, u, (keep (hlt h)).trans q4, q5.mono le⟩, s.inj, s.nd, s.dX, fun c hc => Nat.lt_of_lt_of_le (s.xlt c hc) g3.next, fun c hc => Nat.lt_of_lt_of_le (s.dlt c hc) g3.next, R.st _ _ _ _ _ s.res le.D le.val (fun c hc => keep (s.xlt c hc)) g3.next, s.gl.mono le⟩
  have f' : Frm Γ.nw Γ hp X Γ' hp X := ⟨fun _ _ => rfl, fun h => h, g3.next, fun c h _ _ => keep h, fun _ h => h, fun _ h => .inl h, fun _ x _ h => ⟨x, h⟩, fun b x hb h => .inr ⟨b, x, hb, h, rfl⟩, fun _ h => .inl h, fun k h1 h2 _ => hw k h1 h2⟩
  obtain ⟨k1, k2⟩ := call_op (C := C) ho frv Γ.h
  refine ⟨n, w, hp, R, some .gen, v, Γ1.h, Γ', X, hpo, ?_, ⟨k1, fun H1 e1' e2' => ?_⟩, rfl, le, s', f', RV_flat hfl g4⟩
  · simp only [opV, k1, k2]
    simp only [ho, callV, e1, e5, he]
    exact g1
  · have := hw Γ.h.next (by omega) (Nat.le_refl _)
    simp only [EvR, ho, evOf]
    rw [e1', Nat.ble_eq_true_of_le this]
/-- **a call with values that name no block, and an answer that names none** -/
theorem step_pcall {o : Oper} {post : W → HpW → Nat → Res → Option EvW → Prop} {x : Operand} {xs : Array Operand} {ats : Array TypeId} {f : FuncId} {a us c : List W} {Q : W → HpW → Nat → Prop}
    (ho : o.op = .call ⟨.value x, xs, ats⟩) (hx : evW C G fr x = some (.fn f a c)) (he : C.ext f = none) (hxs : evLW C G fr xs.toList = some us) (sp : PSpec C G f 0 (a ++ us ++ c) [] Q) (hpw : purL (a ++ us ++ c) = true)
    (hpost : ∀ w hp1 nw1, Q w hp1 nw1 → purW w = true ∧ post w hp nw R (some .gen)) : Step C G o fr hp nw R post := fun Γ X frv hnw s hf => by
  subst hnw
  obtain ⟨u, e1, e2⟩ := ev_sim hf s.gl hx
  obtain ⟨a', c', rfl, e3, e4⟩ := RV_fn.1 e2
  obtain ⟨us', e5, e6⟩ := evL_sim hf s.gl hxs
  have app : ∀ {l r : List W} {l' r' : List V}, RVL Γ l l' → RVL Γ r r' → RVL Γ (l ++ r) (l' ++ r') := fun {l} => by
    induction l with
    | nil => intro r l' r' h1 h2; simp only [RVL] at h1; subst h1; exact h2
    | cons w l ih =>
      intro r l' r' h1 h2
      simp only [RVL] at h1
      obtain ⟨v, vs, rfl, h3, h4⟩ := h1
      simp only [List.cons_append, RVL]
      exact ⟨v, vs ++ r', rfl, h3, ih h4 h2⟩
  have hv := app (app e3 e6) e4
  have hlt : ∀ {b y}, hget hp b = some y → Γ.σ b < Γ.h.next := fun {b y} h => by
    obtain ⟨_, _, _, u, h1, _⟩ := s.own b y.1 y.2 h
    rcases Nat.lt_or_ge (Γ.σ b) Γ.h.next with h | h
    · exact h
    · rw [s.wf _ h] at h1; cases h1
  let Γ0 : Ctx := ⟨0, Γ.σ, Γ.D, Γ.h⟩
  have s0 : SatH C G Γ0 [] (fun _ => False) Res.none := ⟨s.wf, fun b ty w h => by simp [hget] at h, fun b c x y h => by simp [hget] at h, List.nodup_nil, fun _ _ h => h, fun _ h => h.elim, s.dlt, trivial, s.gl⟩
  have app2 : RVL Γ0 (a ++ us ++ c) (a' ++ us' ++ c') := by
    have : ∀ {l : List W} {vs : List V}, purL l = true → RVL Γ l vs → RVL Γ0 l vs := fun {l} => by
      induction l with
      | nil => intro vs _ h; simp only [RVL] at h ⊢; exact h
      | cons w l ih =>
        intro vs hp h
        simp only [purL, Bool.and_eq_true] at hp
        simp only [RVL] at h ⊢
        obtain ⟨v, vs', rfl, ⟨h2, h3⟩, h4⟩ := h
        exact ⟨v, vs', rfl, ⟨h2, RS_pur (Γ := Γ) (Γ' := Γ0) (fun _ h => h) (fun _ _ => rfl) hp.1 h3⟩, ih hp.2 h4⟩
    exact this hpw hv
  obtain ⟨n, v, Γ1, X1, w, hp1, R1, g1, g2, g3, g4, rfl, hq⟩ := sp Res.none Γ0 (fun _ => False) _ rfl s0 app2
  obtain ⟨hfl, hpo⟩ := hpost w hp1 _ hq
  have keep : ∀ {c}, c < Γ.h.next → Γ1.h.get c = Γ.h.get c := fun {c} h => g3.keep c h (fun ⟨b, x, h1, _⟩ => by simp [hget] at h1) (fun h => h)
  have dnew : ∀ {c}, Γ1.D c → Γ.D c ∨ Γ.h.next ≤ c := fun {c} h => by
    rcases g3.dnew c h with h | (⟨b, x, h1, _⟩ | h) | h
    · exact .inl h
    · simp [hget] at h1
    · exact h.elim
    · exact .inr h
  let Γ' : Ctx := ⟨Γ.nw, Γ.σ, Γ1.D, Γ1.h⟩
  have le : Γ.Le Γ' := ⟨Nat.le_refl _, fun _ _ => rfl, g3.dsub, fun c hc => val_congr (keep (s.dlt c hc))⟩
  have hw : ∀ k, k ≤ Γ.h.wmin → k ≤ Γ.h.next → k ≤ Γ1.h.wmin := fun k h1 h2 => g3.wmin k h1 h2 fun c hc => by
    rcases hc with ⟨b, x, h1, _⟩ | hc
    · simp [hget] at h1
    · exact hc.elim
  have s' : SatH C G Γ' hp X R := ⟨g2.wf, fun b ty w h => by
    obtain ⟨q1, q2, q3, u, q4, q5⟩ := s.own b ty w h
    refine ⟨q1, fun hd => ?_, q3, u, (keep (hlt h)).trans q4, q5.mono le⟩
    rcases dnew hd with hd | hd
    · exact q2 hd
    · have := hlt h
      have hd : Γ.h.next ≤ Γ.σ b := hd
      omega, s.inj, s.nd, fun c hc hX => by
      rcases dnew hc with hd | hd
      · exact s.dX c hd hX
      · have := s.xlt c hX; omega, fun c hc => Nat.lt_of_lt_of_le (s.xlt c hc) g3.next, g2.dlt, R.st _ _ _ _ _ s.res le.D le.val (fun c hc => keep (s.xlt c hc)) g3.next, s.gl.mono le⟩
  have f' : Frm Γ.nw Γ hp X Γ' hp X := ⟨fun _ _ => rfl, fun h => h, g3.next, fun c h _ _ => keep h, g3.dsub, fun c h => by
    rcases dnew h with h | h
    · exact .inl h
    · exact .inr (.inr h), fun _ x _ h => ⟨x, h⟩, fun b x hb h => .inr ⟨b, x, hb, h, rfl⟩, fun _ h => .inl h, fun k h1 h2 _ => hw k h1 h2⟩
  obtain ⟨k1, k2⟩ := call_op (C := C) ho frv Γ.h
  refine ⟨n, w, hp, R, some .gen, v, Γ1.h, Γ', X, hpo, ?_, ⟨k1, fun H1 e1' e2' => ?_⟩, rfl, le, s', f', RV_pur (Γ := Γ1) (Γ' := Γ') (fun _ h => h) (fun _ _ => rfl) hfl g4⟩
  · simp only [opV, k1, k2]
    simp only [ho, callV, e1, e5, he]
    exact g1
  · have := hw Γ.h.next (by omega) (Nat.le_refl _)
    simp only [EvR, ho, evOf]
    rw [e1', Nat.ble_eq_true_of_le this]
/-- a call of a function that the model stands in for -/
theorem step_ext {o : Oper} {post : W → HpW → Nat → Res → Option EvW → Prop} {x : Operand} {xs : Array Operand} {ats : Array TypeId} {f : FuncId} {a us c : List W} {w : W} {e : List V → Option V}
    (ho : o.op = .call ⟨.value x, xs, ats⟩) (hx : evW C G fr x = some (.fn f a c)) (he : C.ext f = some e) (hxs : evLW C G fr xs.toList = some us) (hE : ∀ Γ vs, RVL Γ (a ++ us ++ c) vs → ∃ v, e vs = some v ∧ RV Γ w v) (hpost : post w hp nw R (some .gen)) : Step C G o fr hp nw R post := fun Γ X frv hnw s hf => by
  subst hnw
  obtain ⟨u, e1, e2⟩ := ev_sim hf s.gl hx
  obtain ⟨a', c', rfl, e3, e4⟩ := RV_fn.1 e2
  obtain ⟨us', e5, e6⟩ := evL_sim hf s.gl hxs
  have app : ∀ {l r : List W} {l' r' : List V}, RVL Γ l l' → RVL Γ r r' → RVL Γ (l ++ r) (l' ++ r') := fun {l} => by
    induction l with
    | nil => intro r l' r' h1 h2; simp only [RVL] at h1; subst h1; exact h2
    | cons w l ih =>
      intro r l' r' h1 h2
      simp only [RVL] at h1
      obtain ⟨v, vs, rfl, h3, h4⟩ := h1
      simp only [List.cons_append, RVL]
      exact ⟨v, vs ++ r', rfl, h3, ih h4 h2⟩
  obtain ⟨v, h1, h2⟩ := hE Γ _ (app (app e3 e6) e4)
  obtain ⟨k1, k2⟩ := call_op (C := C) ho frv Γ.h
  refine ⟨0, w, hp, R, some .gen, v, Γ.h, Γ, X, hpost, ?_, ⟨k1, fun H1 e1' e2' => ?_⟩, rfl, Ctx.Le.refl _, s, Frm.refl _ _ _ _, h2⟩
  · simp only [opV, k1, k2]
    simp only [ho, callV, e1, e5, he, h1]
  · simp only [EvR, ho, evOf]
    rw [e1', e2', Nat.ble_eq_true_of_le (Nat.le_refl _)]
end
end Go.Proofs.YtmlemnbhjbaedaaGreatDoor

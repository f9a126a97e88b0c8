/-
  What the proof of PursePays stands on, part 4. No condition.
-/
import Derived.OpenShut
import Derived.Handed
import Derived.ChangeArms
import Derived.ChangeOld
import Derived.OpenVars
import Derived.Carry
import Derived.Test.YtgeelfdgnehdnaaGreatDoorProg
import Derived.Test.YtgeelfdgnehdnaaGreatDoorZPursePaysC
set_option linter.unusedSimpArgs false
set_option linter.unusedVariables false
noncomputable section
namespace Go.Proofs.YtgeelfdgnehdnaaGreatDoor
section
open Go.RowKit
section
mutual
/-- a value, some blocks of one's own in it seen as what stays -/
inductive View (blk : Nat -> Option W) : W -> W -> Prop where
 | pur {w : W} (h : purW w = true) : View blk w w
 | nilfz {e : Nat} {f : Bool} : View blk .nils (.fz [] e f)
 | fzw {l : List W} {e : Nat} {f : Bool} (h : purL l = true) : View blk (.fz l e f) (.fz l e false)
 | sl {b base off len esz : Nat} {lim : Option Nat} {c : W} {xs : List W} {full : Bool} (hb : blk b = some c) (hc : purW c = true) (hx : y6q 50 c off len esz = some xs) (hf : full = true -> lim = some len) : View blk (.sl b base off len esz lim) (.fz xs esz full)
 | sl2 {b base off len esz : Nat} {lim : Option Nat} {c c' : W} {xs : List W} {full : Bool} (hb : blk b = some c) (hv : View blk c c') (hx : y6q 50 c' off len esz = some xs) (hf : full = true -> lim = some len) : View blk (.sl b base off len esz lim) (.fz xs esz full)
 | ptr {b off n : Nat} {ag : Bool} {c x : W} (hb : blk b = some c) (hc : purW c = true) (hx : ypq 50 c off n ag = some x) : View blk (.ptr b off) (.fel x)
 | ptrK {b off : Nat} (hb : blk b = none) : View blk (.ptr b off) (.ptr b off)
 | slK {b base off len esz : Nat} {lim : Option Nat} (hb : blk b = none) : View blk (.sl b base off len esz lim) (.sl b base off len esz lim)
 | agg {n : Nat} {l l' : List W} (h : ViewL blk l l') : View blk (.agg n l) (.agg n l')
 | arr {n e : Nat} {l l' : List W} (h : ViewL blk l l') : View blk (.arr n e l) (.arr n e l')
 | tup {l l' : List W} (h : ViewL blk l l') : View blk (.tup l) (.tup l')
 | fn {f : FuncId} {a a' c c' : List W} (h : ViewL blk a a') (k : ViewL blk c c') : View blk (.fn f a c) (.fn f a' c')
 | iface {t : TypeId} {v v' : W} (h : View blk v v') : View blk (.iface t v) (.iface t v')
inductive ViewL (blk : Nat -> Option W) : List W -> List W -> Prop where
 | nil : ViewL blk [] []
 | cons {x x' : W} {l l' : List W} (h : View blk x x') (k : ViewL blk l l') : ViewL blk (x :: l) (x' :: l')
end
theorem View.shape {blk : Nat -> Option W} {w w' : W} (h : View blk w w') : w'.size = w.size /\ w'.isAgg = w.isAgg := by
 cases h <;> exact ⟨rfl, rfl⟩
theorem ViewL.all {blk : Nat -> Option W} {e : Nat} : ∀ {l l' : List W}, ViewL blk l l' -> (∀ x ∈ l, x.size = e) -> ∀ x ∈ l', x.size = e
 | _, _, .nil, _, x, hx => by simp at hx
 | _, _, .cons h k, hl, x, hx => by
  simp only [List.mem_cons] at hx
  rcases hx with rfl | hx
  ·rw [h.shape.1]; exact hl _ (List.mem_cons_self ..)
  ·exact k.all (fun y hy => hl y (List.mem_cons_of_mem _ hy)) x hx
section
variable {Γ Γ' : Ctx} {blk : Nat -> Option W}
structure Seen (blk : Nat -> Option W) (Γ Γ' : Ctx) : Prop where
 nw : ∀ b, b < Γ.nw -> blk b = none -> b < Γ'.nw
 σ : ∀ b, b < Γ.nw -> blk b = none -> Γ'.σ b = Γ.σ b
 D : ∀ b, Γ.D b -> Γ'.D b
 val : ∀ b, Γ.D b -> Γ'.h.val b = Γ.h.val b
 at_ : ∀ b c, b < Γ.nw -> blk b = some c -> Γ'.D (Γ.σ b) /\ ∃ v, Γ'.h.val (Γ.σ b) = some v /\ RV Γ c v
theorem Qkq (hD : ∀ b, Γ.D b -> Γ'.D b) (hv : ∀ b, Γ.D b -> Γ'.h.val b = Γ.h.val b) {w : W} {s : List V} (hp : purW w = true) (h : RS Γ w s) : RS Γ' w s := by
 have h1 := v7q (τ := fun b => b) (Γ := Γ) (Γ' := ⟨Γ.nw, Γ.σ, Γ'.D, Γ'.h⟩) ⟨fun _ h => h, fun _ _ => rfl, hD, hv⟩ h
 rw [zlq hp] at h1
 have e : renW (fun b => b) w = w := zlq hp
 rw [<- e] at h1
 have := xNq (Γ := ⟨Γ.nw, Γ.σ, Γ'.D, Γ'.h⟩) (Γ' := ⟨0, Γ.σ, Γ'.D, Γ'.h⟩) (τ := fun b => b) (m := 0) rfl (fun b hb => by omega) (fun _ h => h) (fun _ _ => rfl) (zfq hp) h1
 have h2 := v7q (τ := fun b => b) (Γ := ⟨0, Γ.σ, Γ'.D, Γ'.h⟩) (Γ' := Γ') ⟨fun b hb => by have hb : b < 0 := hb; omega, fun b hb => by have hb : b < 0 := hb; omega, fun _ h => h, fun _ _ => rfl⟩ this
 rwa [zlq hp] at h2
theorem RV_pur (hD : ∀ b, Γ.D b -> Γ'.D b) (hv : ∀ b, Γ.D b -> Γ'.h.val b = Γ.h.val b) {w : W} {v : V} (hp : purW w = true) (h : RV Γ w v) : RV Γ' w v := ⟨h.1, Qkq hD hv hp h.2⟩
mutual
theorem Zvq (q : Seen blk Γ Γ') : ∀ {w w' : W} {s : List V}, View blk w w' -> RS Γ w s -> RS Γ' w' s
 | _, _, _, .pur h, hs => Qkq q.D q.val h hs
 | _, _, _, .nilfz, hs => by
  simp only [RS] at hs ⊢
  exact .inl ⟨trivial, hs⟩
 | _, _, _, .fzw (l := l) (e := e) (f := f) h, hs => by
  have h1 := Qkq q.D q.val (w := .fz l e f) h hs
  simp only [RS] at h1 ⊢
  rcases h1 with h1 | ⟨b, base, off, lim, bv, g1, _, g3⟩
  ·exact .inl h1
  ·exact .inr ⟨b, base, off, lim, bv, g1, fun h => (by cases h), g3⟩
 | _, _, _, .sl (b := b) (base := base) (off := off) (len := len) (esz := esz) (lim := lim) (c := c) (xs := xs) (full := full) hb hc hx hf, hs => by
  simp only [RS] at hs
  obtain ⟨hbn, rfl⟩ := hs
  obtain ⟨h1, v, h2, h3⟩ := q.at_ b c hbn hb
  have h3 := RV_pur q.D q.val hc h3
  obtain ⟨g1, g2, g3, g4, g5⟩ := q6q (Γ := Γ') 50 hx h3.2
  simp only [RS]
  subst g1
  exact .inr ⟨Γ.σ b, base, off, lim, v, rfl, hf, h1, h2, by rw [<- h3.1]; exact g5, by rw [h3.size]; exact g2, g3, g4⟩
 | _, _, _, .sl2 (b := b) (base := base) (off := off) (len := len) (esz := esz) (lim := lim) (c := c) (c' := c') (xs := xs) (full := full) hb hv hx hf, hs => by
  simp only [RS] at hs
  obtain ⟨hbn, rfl⟩ := hs
  obtain ⟨h1, v, h2, h3⟩ := q.at_ b c hbn hb
  have h3 : RV Γ' c' v := ⟨by rw [hv.shape.2]; exact h3.1, Zvq q hv h3.2⟩
  obtain ⟨g1, g2, g3, g4, g5⟩ := q6q (Γ := Γ') 50 hx h3.2
  simp only [RS]
  subst g1
  exact .inr ⟨Γ.σ b, base, off, lim, v, rfl, hf, h1, h2, by rw [<- h3.1]; exact g5, by rw [h3.size]; exact g2, g3, g4⟩
 | _, _, _, .ptr (b := b) (off := off) (n := n) (ag := ag) (c := c) (x := x) hb hc hx, hs => by
  simp only [RS] at hs
  obtain ⟨hbn, rfl⟩ := hs
  obtain ⟨h1, v, h2, h3⟩ := q.at_ b c hbn hb
  have h3 := RV_pur q.D q.val hc h3
  obtain ⟨g1, g2, g3, g4, g5⟩ := jxq (Γ := Γ') 50 hx h3.2
  simp only [RS]
  refine ⟨Γ.σ b, off, v, rfl, h1, h2, by rw [g1, h3.size]; exact g2, fun ha => ?_, ?_, by rw [g1]; exact g3⟩
  ·rw [<- h3.1]
   cases hca : c.isAgg with
   | true => rfl
   | false =>
    obtain ⟨_, _, _, _, rfl⟩ := kCq (f := 49) hca hx
    rw [hca] at ha; cases ha
  ·cases hca : c.isAgg with
   | true => exact .inr (by rw [<- h3.1]; exact hca)
   | false =>
    obtain ⟨_, _, _, hl, rfl⟩ := kCq (f := 49) hca hx
    exact .inl (h3.leaf hl)
 | _, _, _, .ptrK hb, hs => by
  simp only [RS] at hs ⊢
  exact ⟨q.nw _ hs.1 hb, by rw [q.σ _ hs.1 hb]; exact hs.2⟩
 | _, _, _, .slK hb, hs => by
  simp only [RS] at hs ⊢
  exact ⟨q.nw _ hs.1 hb, by rw [q.σ _ hs.1 hb]; exact hs.2⟩
 | _, _, _, .agg h, hs => by
  simp only [RS] at hs ⊢
  exact ⟨hs.1, Qnq q h hs.2⟩
 | _, _, _, .arr h, hs => by
  simp only [RS] at hs ⊢
  exact ⟨hs.1, h.all hs.2.1, Qnq q h hs.2.2⟩
 | _, _, _, .tup h, hs => by
  simp only [RS] at hs ⊢
  obtain ⟨vs, rfl, hs⟩ := hs
  exact ⟨vs, rfl, uIq q h hs⟩
 | _, _, _, .fn h k, hs => by
  simp only [RS] at hs ⊢
  obtain ⟨a', c', rfl, h1, h2⟩ := hs
  exact ⟨a', c', rfl, uIq q h h1, uIq q k h2⟩
 | _, _, _, .iface h, hs => by
  simp only [RS] at hs ⊢
  obtain ⟨v, rfl, h1, h2⟩ := hs
  exact ⟨v, rfl, by rw [h.shape.2]; exact h1, Zvq q h h2⟩
theorem Qnq (q : Seen blk Γ Γ') : ∀ {l l' : List W} {s : List V}, ViewL blk l l' -> RSL Γ l s -> RSL Γ' l' s
 | _, _, _, .nil, hs => by simp only [RSL] at hs ⊢; exact hs
 | _, _, _, .cons h k, hs => by
  simp only [RSL] at hs ⊢
  rw [h.shape.1]
  exact ⟨Zvq q h hs.1, Qnq q k hs.2⟩
theorem uIq (q : Seen blk Γ Γ') : ∀ {l l' : List W} {vs : List V}, ViewL blk l l' -> RVL Γ l vs -> RVL Γ' l' vs
 | _, _, _, .nil, hs => by simp only [RVL] at hs ⊢; exact hs
 | _, _, _, .cons h k, hs => by
  simp only [RVL] at hs ⊢
  obtain ⟨v, vs', rfl, ⟨h1, h2⟩, h3⟩ := hs
  exact ⟨v, vs', rfl, ⟨by rw [h.shape.2]; exact h1, Zvq q h h2⟩, uIq q k h3⟩
end
theorem Qmq (q : Seen blk Γ Γ') {w w' : W} {v : V} (h : View blk w w') (hs : RV Γ w v) : RV Γ' w' v := ⟨by rw [h.shape.2]; exact hs.1, Zvq q h hs.2⟩
end
section
variable {C : Cfg} {G : Nat -> Option W} {m k0 : Nat} {fr fr2 : FrW} {hp hp2 : HpW} {nw nw2 : Nat} {R : Res}
theorem ent_num (τ : Nat -> Nat) (hm : m <= nw2) (h1 : ∀ b, b < m -> τ b = b) (h2 : ∀ b, b < nw2 -> τ b < nw) (h3 : ∀ b, m <= b -> b < nw2 -> m <= τ b) (hf : ∀ t w, getW fr2 t = some w -> getW fr t = some (renW τ w) /\ refB nw2 w = true)
  (hh : ∀ b x, hget hp2 b = some x -> b < nw2 /\ hget hp (τ b) = some (x.1, renW τ x.2) /\ refB nw2 x.2 = true) (inj : ∀ b c x y, hget hp2 b = some x -> hget hp2 c = some y -> τ b = τ c -> b = c) (nd : (hp2.map (·.1)).Nodup) :
  Ent C G m k0 fr hp nw R fr2 hp2 nw2 R := fun Γ X st hnw hmn s => by
 let Γ2 : Ctx := ⟨nw2, fun i => Γ.σ (τ i), Γ.D, Γ.h⟩
 have back : ∀ {w : W} {v : V}, refB nw2 w = true -> RV Γ (renW τ w) v -> RV Γ2 w v := fun {w v} q1 q2 => ⟨by rw [<- jPq τ]; exact q2.1, xNq (Γ := Γ) (Γ' := Γ2) (τ := τ) rfl (fun _ _ => rfl) (fun _ h => h) (fun _ _ => rfl) q1 q2.2⟩
 have howns : ∀ {c}, Owns Γ2 hp2 c -> Owns Γ hp c := fun {c} h => by
  obtain ⟨k, y, g1, g2⟩ := h
  exact ⟨τ k, _, (hh k y g1).2.1, g2⟩
 refine ⟨Γ2, X, rfl, ⟨s.hh, fun t w hw => ?_, ⟨s.sat.wf, fun b ty w hb => ?_, fun b c x y hx hy e => ?_, nd, s.sat.dX, s.sat.xlt, s.sat.dlt, s.sat.res, s.sat.gl⟩, fun d hd => ?_, s.nd⟩, ⟨fun b hb => ?_, fun _ => hm, Nat.le_refl _, fun _ _ _ _ => rfl, fun _ h => h, fun _ h => .inl h, fun b x hb h => ?_, fun b x hb h => ?_, fun _ h => .inl h, fun _ h _ _ => h⟩⟩
 ·obtain ⟨g1, g2⟩ := hf t w hw
  obtain ⟨v, g3, g4⟩ := s.fr _ _ g1
  exact ⟨v, g3, back g2 g4⟩
 ·obtain ⟨g1, g2, g3⟩ := hh b _ hb
  obtain ⟨q1, q2, q3, v, q4, q5⟩ := s.sat.own _ _ _ g2
  exact ⟨g1, q2, q3, v, q4, back g3 q5⟩
 ·exact inj b c x y hx hy (s.sat.inj _ _ _ _ (hh b x hx).2.1 (hh c y hy).2.1 e)
 ·obtain ⟨q1, q2, q3, q4, q5, q6⟩ := s.ds d hd
  exact ⟨q1, q2, q3, fun h => q4 (howns h), q5, q6⟩
 ·show Γ.σ (τ b) = Γ.σ b
  rw [h1 b hb]
 ·have := (hh b x h).2.1
  rw [h1 b hb] at this
  exact ⟨_, this⟩
 ·obtain ⟨g1, g2, _⟩ := hh b x h
  exact .inr ⟨τ b, _, h3 b hb g1, g2, rfl⟩
def blk1 (b : Nat) (c : W) : Nat -> Option W := fun k => match Nat.beq k b with
 | true => some c
 | false => none
theorem ent_frz {b : Nat} {ty : TypeId} {c : W} (hb : hget hp b = some (ty, c)) (hc : purW c = true) (hbm : m <= b) (hf : ∀ t w, getW fr2 t = some w -> ∃ w0, getW fr t = some w0 /\ View (blk1 b c) w0 w)
  (hh : ∀ k ty w, hget hp2 k = some (ty, w) -> k ≠ b /\ ∃ w0, hget hp k = some (ty, w0) /\ View (blk1 b c) w0 w) (nd : (hp2.map (·.1)).Nodup) : Ent C G m k0 fr hp nw R fr2 hp2 nw R := fun Γ X st hnw hmn s => by
 obtain ⟨p1, p2, p3, v, p4, p5⟩ := s.sat.own b ty c hb
 let Γ2 : Ctx := ⟨Γ.nw, Γ.σ, fun c => Γ.D c \/ c = Γ.σ b, Γ.h⟩
 have le : Γ.Le Γ2 := ⟨Nat.le_refl _, fun _ _ => rfl, fun _ h => .inl h, fun _ _ => rfl⟩
 have q : Seen (blk1 b c) Γ Γ2 := ⟨fun _ h _ => h, fun _ _ _ => rfl, fun _ h => .inl h, fun _ _ => rfl, fun k c' hk h => by
  unfold blk1 at h
  split at h
  ·rename_i e
   rw [Nat.beq_eq] at e
   subst e
   cases h
   exact ⟨.inr rfl, v, YPq p4, p5⟩
  ·cases h⟩
 have hlt : Γ.σ b < Γ.h.next := by
  rcases Nat.lt_or_ge (Γ.σ b) Γ.h.next with h | h
  ·exact h
  ·rw [s.sat.wf _ h] at p4; cases p4
 have howns : ∀ {c}, Owns Γ2 hp2 c -> Owns Γ hp c /\ c ≠ Γ.σ b := fun {c'} h => by
  obtain ⟨k, y, g1, g2⟩ := h
  obtain ⟨g3, w0, g4, _⟩ := hh k y.1 y.2 g1
  have g2 : Γ.σ k = c' := g2
  refine ⟨⟨k, _, g4, g2⟩, fun e => g3 (s.sat.inj k b _ _ g4 hb (by rw [g2, e]))⟩
 refine ⟨Γ2, X, hnw, ⟨s.hh, fun t w hw => ?_, ⟨s.sat.wf, fun k ty' w hk => ?_, fun k k' x y hx hy e => ?_, nd, fun d hd hX => ?_, s.sat.xlt, fun d hd => ?_, R.st _ _ _ _ _ s.sat.res le.D le.val (fun _ _ => rfl) (Nat.le_refl _), s.sat.gl.mono le⟩, fun d hd => ?_, s.nd⟩, ⟨fun _ _ => rfl, fun h => h, Nat.le_refl _, fun _ _ _ _ => rfl, fun _ h => .inl h, fun d hd => ?_, fun k x hk h => ?_, fun k x hk h => ?_, fun _ h => .inl h, fun _ h _ _ => h⟩⟩
 ·obtain ⟨w0, g1, g2⟩ := hf t w hw
  obtain ⟨u, g3, g4⟩ := s.fr _ _ g1
  exact ⟨u, g3, Qmq q g2 g4⟩
 ·obtain ⟨g1, w0, g2, g3⟩ := hh k _ _ hk
  obtain ⟨q1, q2, q3, u, q4, q5⟩ := s.sat.own _ _ _ g2
  refine ⟨q1, fun h => ?_, q3, u, q4, Qmq q g3 q5⟩
  rcases h with h | h
  ·exact q2 h
  ·exact g1 (s.sat.inj k b _ _ g2 hb h)
 ·obtain ⟨_, w0, g2, _⟩ := hh k x.1 x.2 hx
  obtain ⟨_, w1, g4, _⟩ := hh k' y.1 y.2 hy
  exact s.sat.inj _ _ _ _ g2 g4 e
 ·rcases hd with h | rfl
  ·exact s.sat.dX d h hX
  ·exact p3 hX
 ·rcases hd with h | rfl
  ·exact s.sat.dlt d h
  ·exact hlt
 ·obtain ⟨q1, q2, q3, q4, q5, q6⟩ := s.ds d hd
  refine ⟨q1, q2, q3, fun h => q4 (howns h).1, q5, fun h => ?_⟩
  rcases h with h | rfl
  ·exact q6 h
  ·exact q4 ⟨b, _, hb, rfl⟩
 ·rcases hd with h | rfl
  ·exact .inl h
  ·exact .inr (.inl (.inl ⟨b, _, hb, rfl⟩))
 ·obtain ⟨_, w0, g2, _⟩ := hh k x.1 x.2 h
  exact ⟨_, g2⟩
 ·obtain ⟨_, w0, g2, _⟩ := hh k x.1 x.2 h
  exact .inr ⟨k, _, hk, g2, rfl⟩
theorem vLq {o : Oper} {x : Operand} {xs : Array Operand} {ats : Array TypeId} (ho : o.op = .call ⟨.value x, xs, ats⟩) (frv : Tr V) (h : Heap) : yvq C frv o.type o.op = none /\ opH C frv h o.op = none := by
 rw [ho]; exact ⟨rfl, rfl⟩
theorem yOq {o : Oper} {post : W -> HpW -> Nat -> Res -> Option EvW -> Prop} {x : Operand} {xs : Array Operand} {ats : Array TypeId} {f : FuncId} {a us c : List W} {ext : List Nat} {ws : List W} {hp0 : HpW} {Q : W -> HpW -> Nat -> Prop}
  (ho : o.op = .call ⟨.value x, xs, ats⟩) (hx : evW C G fr x = some (.fn f a c)) (he : C.ext f = none) (hxs : evLW C G fr xs.toList = some us) (hws : a ++ us ++ c = qlq (numC ext nw) ws) (sp : qkq C G f ext.length ws hp0 Q)
  (hnd : ext.Nodup) (hext : ∀ b ∈ ext, b < nw) (hkn : (hp0.map (·.1)).Nodup) (hh : Handed ext nw hp0 hp) (hr : refL ext.length ws = true)
  (hpost : ∀ w hp1 nw1, Q w hp1 nw1 -> post (renW (numC ext nw) w) (renH (numC ext nw) hp1 ++ delA ext hp) (nw + (nw1 - ext.length)) R (some .dirty)) : Step C G o fr hp nw R post := fun Γ X frv hnw s hf => by
 subst hnw
 obtain ⟨u, e1, e2⟩ := z6q hf s.gl hx
 obtain ⟨a', c', rfl, e3, e4⟩ := RV_fn.1 e2
 obtain ⟨us', e5, e6⟩ := k5q hf s.gl hxs
 have app : ∀ {l r : List W} {l' r' : List V}, RVL Γ l l' -> RVL Γ r r' -> RVL Γ (l ++ r) (l' ++ r') := fun {l} => by
  induction l with
  | nil => intro r l' r' h1 h2; simp only [RVL] at h1; subst h1; exact h2
  | cons w l ih =>
   intro r l' r' h1 h2
   simp only [RVL] at h1
   obtain ⟨v, vs, rfl, h3, h4⟩ := h1
   simp only [List.cons_append, RVL]
   exact ⟨v, vs ++ r', rfl, h3, ih h4 h2⟩
 have hv := app (app e3 e6) e4
 rw [hws] at hv
 obtain ⟨n, v, Γ', w, hp1, nw1, g1, g2, g3, g4, g5, g6, g7, g8⟩ := call_spec sp s hnd hext hkn hh hr hv
 obtain ⟨k1, k2⟩ := vLq (C := C) ho frv Γ.h
 refine ⟨n, _, _, R, some .dirty, v, Γ'.h, Γ', X, by rw [g3]; exact hpost w hp1 nw1 g2, ?_, ⟨k1, fun H1 _ _ => ?_⟩, rfl, g4, g5, g6, g7⟩
 ·simp only [opV, k1, k2]
  simp only [ho, jmq, e1, e5, he]
  exact g1
 ·exact trivial
def blkA (hp : HpW) : Nat -> Option W := fun b => match hget hp b with
 | some (_, c) => some c
 | none => none
mutual
/-- a value that hangs on no memory -/
def x3q : W -> Bool
 | .undef => true
 | .bool _ => true
 | .int _ _ => true
 | .str _ => true
 | .nilp => true
 | .nils => true
 | .nilm => true
 | .nilf => true
 | .nili => true
 | .agg _ l => flatL l
 | .arr _ _ l => flatL l
 | .tup l => flatL l
 | _ => false
def flatL : List W -> Bool
 | [] => true
 | w :: l => x3q w && flatL l
end
mutual
theorem RS_flat {Γ Γ' : Ctx} : ∀ {w : W} {s : List V}, x3q w = true -> RS Γ w s -> RS Γ' w s
 | .undef, _, _, h => by simp only [RS] at h ⊢; exact h
 | .bool _, _, _, h => by simp only [RS] at h ⊢; exact h
 | .int _ _, _, _, h => by simp only [RS] at h ⊢; exact h
 | .str _, _, _, h => by simp only [RS] at h ⊢; exact h
 | .nilp, _, _, h => by simp only [RS] at h ⊢; exact h
 | .ptr _ _, _, h, _ => by simp [x3q] at h
 | .nils, _, _, h => by simp only [RS] at h ⊢; exact h
 | .sl _ _ _ _ _ _, _, h, _ => by simp [x3q] at h
 | .fz _ _ _, _, h, _ => by simp [x3q] at h
 | .fel _, _, h, _ => by simp [x3q] at h
 | .nilm, _, _, h => by simp only [RS] at h ⊢; exact h
 | .fn _ _ _, _, h, _ => by simp [x3q] at h
 | .yield _, _, h, _ => by simp [x3q] at h
 | .nilf, _, _, h => by simp only [RS] at h ⊢; exact h
 | .iface _ _, _, h, _ => by simp [x3q] at h
 | .nili, _, _, h => by simp only [RS] at h ⊢; exact h
 | .agg n l, _, hf, h => by simp only [x3q] at hf; simp only [RS] at h ⊢; exact ⟨h.1, Jkq hf h.2⟩
 | .arr n e l, _, hf, h => by simp only [x3q] at hf; simp only [RS] at h ⊢; exact ⟨h.1, h.2.1, Jkq hf h.2.2⟩
 | .tup l, _, hf, h => by
  simp only [x3q] at hf
  simp only [RS] at h ⊢
  obtain ⟨vs, h1, h2⟩ := h
  exact ⟨vs, h1, RVL_flat hf h2⟩
theorem Jkq {Γ Γ' : Ctx} : ∀ {l : List W} {s : List V}, flatL l = true -> RSL Γ l s -> RSL Γ' l s
 | [], _, _, h => by simp only [RSL] at h ⊢; exact h
 | w :: l, _, hf, h => by
  simp only [flatL, Bool.and_eq_true] at hf
  simp only [RSL] at h ⊢
  exact ⟨RS_flat hf.1 h.1, Jkq hf.2 h.2⟩
theorem RVL_flat {Γ Γ' : Ctx} : ∀ {l : List W} {vs : List V}, flatL l = true -> RVL Γ l vs -> RVL Γ' l vs
 | [], _, _, h => by simp only [RVL] at h ⊢; exact h
 | w :: l, _, hf, h => by
  simp only [flatL, Bool.and_eq_true] at hf
  simp only [RVL] at h ⊢
  obtain ⟨v, vs', rfl, ⟨h1, h2⟩, h3⟩ := h
  exact ⟨v, vs', rfl, ⟨h1, RS_flat hf.1 h2⟩, RVL_flat hf.2 h3⟩
end
theorem RV_flat {Γ Γ' : Ctx} {w : W} {v : V} (hf : x3q w = true) (h : RV Γ w v) : RV Γ' w v := ⟨h.1, RS_flat hf h.2⟩
theorem step_look {o : Oper} {post : W -> HpW -> Nat -> Res -> Option EvW -> Prop} {x : Operand} {xs : Array Operand} {ats : Array TypeId} {f : FuncId} {a us c ws : List W} {Q : W -> HpW -> Nat -> Prop}
  (ho : o.op = .call ⟨.value x, xs, ats⟩) (hx : evW C G fr x = some (.fn f a c)) (he : C.ext f = none) (hxs : evLW C G fr xs.toList = some us) (hws : ViewL (blkA hp) (a ++ us ++ c) ws) (sp : qkq C G f 0 ws [] Q) (hpw : purL ws = true)
  (hpost : ∀ w hp1 nw1, Q w hp1 nw1 -> x3q w = true /\ post w hp nw R (some .gen)) : Step C G o fr hp nw R post := fun Γ X frv hnw s hf => by
 subst hnw
 obtain ⟨u, e1, e2⟩ := z6q hf s.gl hx
 obtain ⟨a', c', rfl, e3, e4⟩ := RV_fn.1 e2
 obtain ⟨us', e5, e6⟩ := k5q hf s.gl hxs
 have app : ∀ {l r : List W} {l' r' : List V}, RVL Γ l l' -> RVL Γ r r' -> RVL Γ (l ++ r) (l' ++ r') := fun {l} => by
  induction l with
  | nil => intro r l' r' h1 h2; simp only [RVL] at h1; subst h1; exact h2
  | cons w l ih =>
   intro r l' r' h1 h2
   simp only [RVL] at h1
   obtain ⟨v, vs, rfl, h3, h4⟩ := h1
   simp only [List.cons_append, RVL]
   exact ⟨v, vs ++ r', rfl, h3, ih h4 h2⟩
 have hv := app (app e3 e6) e4
 have hlt : ∀ {b y}, hget hp b = some y -> Γ.σ b < Γ.h.next := fun {b y} h => by
  obtain ⟨_, _, _, u, h1, _⟩ := s.own b y.1 y.2 h
  rcases Nat.lt_or_ge (Γ.σ b) Γ.h.next with h | h
  ·exact h
  ·rw [s.wf _ h] at h1; cases h1
 -- all of one's own blocks count as what stays
 let Γ0 : Ctx := ⟨0, Γ.σ, fun c => Γ.D c \/ Owns Γ hp c, Γ.h⟩
 have s0 : SatH C G Γ0 [] (fun _ => False) Res.none := ⟨s.wf, fun b ty w h => by simp [hget] at h, fun b c x y h => by simp [hget] at h, List.nodup_nil, fun _ _ h => h, fun _ h => h.elim, fun d hd => by
  rcases hd with h | ⟨b, y, h1, rfl⟩
  ·exact s.dlt d h
  ·exact hlt h1, trivial, fun g w h1 h2 n τ => RV.mono (Γ := ⟨n, τ, Γ.D, Γ.h⟩) (Γ' := ⟨n, τ, fun c => Γ.D c \/ Owns Γ hp c, Γ.h⟩) ⟨Nat.le_refl _, fun _ _ => rfl, fun _ h => .inl h, fun _ _ => rfl⟩ (s.gl g w h1 h2 n τ)⟩
 let Γs : Ctx := ⟨Γ.nw, Γ.σ, fun c => Γ.D c \/ Owns Γ hp c, Γ.h⟩
 have q : Seen (blkA hp) Γ Γs := ⟨fun _ h _ => h, fun _ _ _ => rfl, fun _ h => .inl h, fun _ _ => rfl, fun b c _ h => by
  unfold blkA at h
  split at h
  ·rename_i ty c' hg
   cases h
   obtain ⟨v, h1, h2, h3⟩ := krq s hg
   exact ⟨.inr ⟨b, _, hg, rfl⟩, v, h2, h3⟩
  ·cases h⟩
 have app2 : RVL Γ0 ws (a' ++ us' ++ c') := by
  have h1 := uIq q hws hv
  have : ∀ {l : List W} {vs : List V}, purL l = true -> RVL Γs l vs -> RVL Γ0 l vs := fun {l} => by
   induction l with
   | nil => intro vs _ h; simp only [RVL] at h ⊢; exact h
   | cons w l ih =>
    intro vs hp h
    simp only [purL, Bool.and_eq_true] at hp
    simp only [RVL] at h ⊢
    obtain ⟨v, vs', rfl, ⟨h2, h3⟩, h4⟩ := h
    exact ⟨v, vs', rfl, ⟨h2, Qkq (Γ := Γs) (Γ' := Γ0) (fun _ h => h) (fun _ _ => rfl) hp.1 h3⟩, ih hp.2 h4⟩
  exact this hpw h1
 obtain ⟨n, v, Γ1, X1, w, hp1, R1, g1, g2, g3, g4, rfl, hq⟩ := sp Res.none Γ0 (fun _ => False) _ rfl s0 app2
 obtain ⟨hfl, hpo⟩ := hpost w hp1 _ hq
 have keep : ∀ {c}, c < Γ.h.next -> Γ1.h.get c = Γ.h.get c := fun {c} h => g3.keep c h (fun ⟨b, x, h1, _⟩ => by simp [hget] at h1) (fun h => h)
 let Γ' : Ctx := ⟨Γ.nw, Γ.σ, Γ.D, Γ1.h⟩
 have le : Γ.Le Γ' := ⟨Nat.le_refl _, fun _ _ => rfl, fun _ h => h, fun c hc => qrq (keep (s.dlt c hc))⟩
 have hw : ∀ k, k <= Γ.h.wmin -> k <= Γ.h.next -> k <= Γ1.h.wmin := fun k h1 h2 => g3.wmin k h1 h2 fun c hc => by
  rcases hc with ⟨b, x, h1, _⟩ | hc
  ·simp [hget] at h1
  ·exact hc.elim
 have s' : SatH C G Γ' hp X R := ⟨g2.wf, fun b ty w h => by
  obtain ⟨q1, q2, q3, u, q4, q5⟩ := s.own b ty w h
  exact ⟨q1, q2, q3, u, (keep (hlt h)).trans q4, q5.mono le⟩, s.inj, s.nd, s.dX, fun c hc => Nat.lt_of_lt_of_le (s.xlt c hc) g3.next, fun c hc => Nat.lt_of_lt_of_le (s.dlt c hc) g3.next, R.st _ _ _ _ _ s.res le.D le.val (fun c hc => keep (s.xlt c hc)) g3.next, s.gl.mono le⟩
 have f' : Frm Γ.nw Γ hp X Γ' hp X := ⟨fun _ _ => rfl, fun h => h, g3.next, fun c h _ _ => keep h, fun _ h => h, fun _ h => .inl h, fun _ x _ h => ⟨x, h⟩, fun b x hb h => .inr ⟨b, x, hb, h, rfl⟩, fun _ h => .inl h, fun k h1 h2 _ => hw k h1 h2⟩
 obtain ⟨k1, k2⟩ := vLq (C := C) ho frv Γ.h
 refine ⟨n, w, hp, R, some .gen, v, Γ1.h, Γ', X, hpo, ?_, ⟨k1, fun H1 e1' e2' => ?_⟩, rfl, le, s', f', RV_flat hfl g4⟩
 ·simp only [opV, k1, k2]
  simp only [ho, jmq, e1, e5, he]
  exact g1
 ·have := hw Γ.h.next (by omega) (Nat.le_refl _)
  simp only [EvR, ho, evOf]
  rw [e1', Nat.ble_eq_true_of_le this]
theorem y8q {o : Oper} {post : W -> HpW -> Nat -> Res -> Option EvW -> Prop} {x : Operand} {xs : Array Operand} {ats : Array TypeId} {f : FuncId} {a us c : List W} {Q : W -> HpW -> Nat -> Prop}
  (ho : o.op = .call ⟨.value x, xs, ats⟩) (hx : evW C G fr x = some (.fn f a c)) (he : C.ext f = none) (hxs : evLW C G fr xs.toList = some us) (sp : qkq C G f 0 (a ++ us ++ c) [] Q) (hpw : purL (a ++ us ++ c) = true)
  (hpost : ∀ w hp1 nw1, Q w hp1 nw1 -> purW w = true /\ post w hp nw R (some .gen)) : Step C G o fr hp nw R post := fun Γ X frv hnw s hf => by
 subst hnw
 obtain ⟨u, e1, e2⟩ := z6q hf s.gl hx
 obtain ⟨a', c', rfl, e3, e4⟩ := RV_fn.1 e2
 obtain ⟨us', e5, e6⟩ := k5q hf s.gl hxs
 have app : ∀ {l r : List W} {l' r' : List V}, RVL Γ l l' -> RVL Γ r r' -> RVL Γ (l ++ r) (l' ++ r') := fun {l} => by
  induction l with
  | nil => intro r l' r' h1 h2; simp only [RVL] at h1; subst h1; exact h2
  | cons w l ih =>
   intro r l' r' h1 h2
   simp only [RVL] at h1
   obtain ⟨v, vs, rfl, h3, h4⟩ := h1
   simp only [List.cons_append, RVL]
   exact ⟨v, vs ++ r', rfl, h3, ih h4 h2⟩
 have hv := app (app e3 e6) e4
 have hlt : ∀ {b y}, hget hp b = some y -> Γ.σ b < Γ.h.next := fun {b y} h => by
  obtain ⟨_, _, _, u, h1, _⟩ := s.own b y.1 y.2 h
  rcases Nat.lt_or_ge (Γ.σ b) Γ.h.next with h | h
  ·exact h
  ·rw [s.wf _ h] at h1; cases h1
 let Γ0 : Ctx := ⟨0, Γ.σ, Γ.D, Γ.h⟩
 have s0 : SatH C G Γ0 [] (fun _ => False) Res.none := ⟨s.wf, fun b ty w h => by simp [hget] at h, fun b c x y h => by simp [hget] at h, List.nodup_nil, fun _ _ h => h, fun _ h => h.elim, s.dlt, trivial, s.gl⟩
 have app2 : RVL Γ0 (a ++ us ++ c) (a' ++ us' ++ c') := by
  have : ∀ {l : List W} {vs : List V}, purL l = true -> RVL Γ l vs -> RVL Γ0 l vs := fun {l} => by
   induction l with
   | nil => intro vs _ h; simp only [RVL] at h ⊢; exact h
   | cons w l ih =>
    intro vs hp h
    simp only [purL, Bool.and_eq_true] at hp
    simp only [RVL] at h ⊢
    obtain ⟨v, vs', rfl, ⟨h2, h3⟩, h4⟩ := h
    exact ⟨v, vs', rfl, ⟨h2, Qkq (Γ := Γ) (Γ' := Γ0) (fun _ h => h) (fun _ _ => rfl) hp.1 h3⟩, ih hp.2 h4⟩
  exact this hpw hv
 obtain ⟨n, v, Γ1, X1, w, hp1, R1, g1, g2, g3, g4, rfl, hq⟩ := sp Res.none Γ0 (fun _ => False) _ rfl s0 app2
 obtain ⟨hfl, hpo⟩ := hpost w hp1 _ hq
 have keep : ∀ {c}, c < Γ.h.next -> Γ1.h.get c = Γ.h.get c := fun {c} h => g3.keep c h (fun ⟨b, x, h1, _⟩ => by simp [hget] at h1) (fun h => h)
 have dnew : ∀ {c}, Γ1.D c -> Γ.D c \/ Γ.h.next <= c := fun {c} h => by
  rcases g3.dnew c h with h | (⟨b, x, h1, _⟩ | h) | h
  ·exact .inl h
  ·simp [hget] at h1
  ·exact h.elim
  ·exact .inr h
 let Γ' : Ctx := ⟨Γ.nw, Γ.σ, Γ1.D, Γ1.h⟩
 have le : Γ.Le Γ' := ⟨Nat.le_refl _, fun _ _ => rfl, g3.dsub, fun c hc => qrq (keep (s.dlt c hc))⟩
 have hw : ∀ k, k <= Γ.h.wmin -> k <= Γ.h.next -> k <= Γ1.h.wmin := fun k h1 h2 => g3.wmin k h1 h2 fun c hc => by
  rcases hc with ⟨b, x, h1, _⟩ | hc
  ·simp [hget] at h1
  ·exact hc.elim
 have s' : SatH C G Γ' hp X R := ⟨g2.wf, fun b ty w h => by
  obtain ⟨q1, q2, q3, u, q4, q5⟩ := s.own b ty w h
  refine ⟨q1, fun hd => ?_, q3, u, (keep (hlt h)).trans q4, q5.mono le⟩
  rcases dnew hd with hd | hd
  ·exact q2 hd
  ·have := hlt h
   have hd : Γ.h.next <= Γ.σ b := hd
   omega, s.inj, s.nd, fun c hc hX => by
   rcases dnew hc with hd | hd
   ·exact s.dX c hd hX
   ·have := s.xlt c hX; omega, fun c hc => Nat.lt_of_lt_of_le (s.xlt c hc) g3.next, g2.dlt, R.st _ _ _ _ _ s.res le.D le.val (fun c hc => keep (s.xlt c hc)) g3.next, s.gl.mono le⟩
 have f' : Frm Γ.nw Γ hp X Γ' hp X := ⟨fun _ _ => rfl, fun h => h, g3.next, fun c h _ _ => keep h, g3.dsub, fun c h => by
  rcases dnew h with h | h
  ·exact .inl h
  ·exact .inr (.inr h), fun _ x _ h => ⟨x, h⟩, fun b x hb h => .inr ⟨b, x, hb, h, rfl⟩, fun _ h => .inl h, fun k h1 h2 _ => hw k h1 h2⟩
 obtain ⟨k1, k2⟩ := vLq (C := C) ho frv Γ.h
 refine ⟨n, w, hp, R, some .gen, v, Γ1.h, Γ', X, hpo, ?_, ⟨k1, fun H1 e1' e2' => ?_⟩, rfl, le, s', f', RV_pur (Γ := Γ1) (Γ' := Γ') (fun _ h => h) (fun _ _ => rfl) hfl g4⟩
 ·simp only [opV, k1, k2]
  simp only [ho, jmq, e1, e5, he]
  exact g1
 ·have := hw Γ.h.next (by omega) (Nat.le_refl _)
  simp only [EvR, ho, evOf]
  rw [e1', Nat.ble_eq_true_of_le this]
theorem step_ext {o : Oper} {post : W -> HpW -> Nat -> Res -> Option EvW -> Prop} {x : Operand} {xs : Array Operand} {ats : Array TypeId} {f : FuncId} {a us c : List W} {w : W} {e : List V -> Option V}
  (ho : o.op = .call ⟨.value x, xs, ats⟩) (hx : evW C G fr x = some (.fn f a c)) (he : C.ext f = some e) (hxs : evLW C G fr xs.toList = some us) (hE : ∀ Γ vs, RVL Γ (a ++ us ++ c) vs -> ∃ v, e vs = some v /\ RV Γ w v) (hpost : post w hp nw R (some .gen)) : Step C G o fr hp nw R post := fun Γ X frv hnw s hf => by
 subst hnw
 obtain ⟨u, e1, e2⟩ := z6q hf s.gl hx
 obtain ⟨a', c', rfl, e3, e4⟩ := RV_fn.1 e2
 obtain ⟨us', e5, e6⟩ := k5q hf s.gl hxs
 have app : ∀ {l r : List W} {l' r' : List V}, RVL Γ l l' -> RVL Γ r r' -> RVL Γ (l ++ r) (l' ++ r') := fun {l} => by
  induction l with
  | nil => intro r l' r' h1 h2; simp only [RVL] at h1; subst h1; exact h2
  | cons w l ih =>
   intro r l' r' h1 h2
   simp only [RVL] at h1
   obtain ⟨v, vs, rfl, h3, h4⟩ := h1
   simp only [List.cons_append, RVL]
   exact ⟨v, vs ++ r', rfl, h3, ih h4 h2⟩
 obtain ⟨v, h1, h2⟩ := hE Γ _ (app (app e3 e6) e4)
 obtain ⟨k1, k2⟩ := vLq (C := C) ho frv Γ.h
 refine ⟨0, w, hp, R, some .gen, v, Γ.h, Γ, X, hpost, ?_, ⟨k1, fun H1 e1' e2' => ?_⟩, rfl, Ctx.Le.refl _, s, Frm.refl _ _ _ _, h2⟩
 ·simp only [opV, k1, k2]
  simp only [ho, jmq, e1, e5, he, h1]
 ·simp only [EvR, ho, evOf]
  rw [e1', e2', Nat.ble_eq_true_of_le (Nat.le_refl _)]
end
end
def inK (k : IntKind) (z : Int) : Prop := match k with
 | .i64 => -9223372036854775808 <= z /\ z < 9223372036854775808
 | .u64 => 0 <= z /\ z < 18446744073709551616
 | .u32 => 0 <= z /\ z < 4294967296
 | .u8 => 0 <= z /\ z < 256
 | k => k.wrap z = z
theorem uFq {k : IntKind} {z : Int} (h : inK k z) : kdq k z = z := by
 cases k <;> simp only [inK] at h
 case i64 =>
  cases z with
  | ofNat a =>
   simp only [kdq]
   have : Nat.blt a 9223372036854775808 = true := by simp only [Int.ofNat_eq_natCast] at h; simpa [Nat.blt_eq] using (by omega : a < 9223372036854775808)
   rw [this]
  | negSucc a =>
   simp only [kdq]
   have : Nat.blt a 9223372036854775808 = true := by simpa [Nat.blt_eq] using (by omega : a < 9223372036854775808)
   rw [this]
 case u64 =>
  obtain ⟨a, rfl⟩ := Int.eq_ofNat_of_zero_le h.1
  show Int.ofNat (a % _) = _
  rw [Nat.mod_eq_of_lt (by omega)]; rfl
 case u32 =>
  obtain ⟨a, rfl⟩ := Int.eq_ofNat_of_zero_le h.1
  show Int.ofNat (a % _) = _
  rw [Nat.mod_eq_of_lt (by omega)]; rfl
 case u8 =>
  obtain ⟨a, rfl⟩ := Int.eq_ofNat_of_zero_le h.1
  show Int.ofNat (a % _) = _
  rw [Nat.mod_eq_of_lt (by omega)]; rfl
 all_goals (cases z <;> exact h)
theorem ltI_iff {m n : Int} : ltI m n = true ↔ m < n := by
 unfold ltI
 split
 ·simp [Nat.blt_eq]
 ·simp; omega
 ·simp; omega
 ·rename_i a b; simp [Nat.blt_eq]; omega
theorem ltI_not {m n : Int} : ltI m n = false ↔ ¬ m < n := by rw [<- Bool.not_eq_true, ltI_iff]
theorem eqI_iff {m n : Int} : eqI m n = true ↔ m = n := by
 rw [Yaq]; simp
theorem eqI_not {m n : Int} : eqI m n = false ↔ ¬ m = n := by rw [<- Bool.not_eq_true, eqI_iff]
theorem eqI_dec {m n : Int} : eqI m n = decide (m = n) := by rw [Bool.eq_iff_iff, eqI_iff]; simp
section
variable {C : Cfg} {G : Nat -> Option W} {m : Nat} {ops : Array Oper} {l : List Oper} {i : Nat} {es : List (Nat × EvW)} {fr : FrW} {hp : HpW} {nw : Nat} {R : Res} {K : FrW -> HpW -> Nat -> Res -> Prop} {o : Oper}
theorem ytq {k : IntKind} {z : Int} (hw : qBq ops fr o = some true) (hx : y7q C G fr o.op = some (.int k (kdq k z))) (hz : inK k z) (h : OpW C G m ops l (putW fr o.dst (.int k z)) hp nw R K) : OpW C G m ops (o :: l) fr hp nw R K :=
 zaq hw (by rw [hx, uFq hz]) h
theorem yQq {k : IntKind} {z : Int} (hw : qBq ops fr o = some true) (hx : y7q C G fr o.op = some (.int k (kdq k z))) (hz : inK k z) (h : FlW C G m ops l (i + 1) es (putW fr o.dst (.int k z)) hp nw R K) : FlW C G m ops (o :: l) i es fr hp nw R K :=
 zcq hw (by rw [hx, uFq hz]) h
theorem ziq {k : IntKind} {z : Int} (n : Nat) (hw : qBq ops fr o = some true) (hx : y7q C G fr o.op = some (.int k (kdq k z))) (hn : z = (n : Int)) (hz : inK k (n : Int)) (h : OpW C G m ops l (putW fr o.dst (.int k (n : Int))) hp nw R K) : OpW C G m ops (o :: l) fr hp nw R K :=
 zaq hw (by rw [hx, hn, uFq hz]) h
theorem qtq {k : IntKind} {z : Int} (n : Nat) (hw : qBq ops fr o = some true) (hx : y7q C G fr o.op = some (.int k (kdq k z))) (hn : z = (n : Int)) (hz : inK k (n : Int)) (h : FlW C G m ops l (i + 1) es (putW fr o.dst (.int k (n : Int))) hp nw R K) : FlW C G m ops (o :: l) i es fr hp nw R K :=
 zcq hw (by rw [hx, hn, uFq hz]) h
theorem zqq {w w' : W} (hw : qBq ops fr o = some true) (hx : y7q C G fr o.op = some w) (e : w = w') (h : OpW C G m ops l (putW fr o.dst w') hp nw R K) : OpW C G m ops (o :: l) fr hp nw R K := zaq hw (e ▸ hx) h
theorem jpq {w w' : W} (hw : qBq ops fr o = some true) (hx : y7q C G fr o.op = some w) (e : w = w') (h : FlW C G m ops l (i + 1) es (putW fr o.dst w') hp nw R K) : FlW C G m ops (o :: l) i es fr hp nw R K := zcq hw (e ▸ hx) h
theorem ykq {t : TypeId} {x : Operand} {b off : Nat} {ti : TyI} {ty : TypeId} {v r : W} (hx : evW C G fr x = some (.ptr b off)) (hi : C.ty t = some ti) (hb : hget hp b = some (ty, v)) (hg : ypq 50 v off ti.size ti.agg = some r) : opHW C G fr hp nw (.load t x) = some (r, hp, nw, .loadO b) := by
 simp only [opHW, hLoad, hx, hi, hb, hg]
theorem jOq {t : TypeId} {x y : Operand} {b off : Nat} {ti : TyI} {ty : TypeId} {u v v' : W} {hp' : HpW} (hx : evW C G fr x = some (.ptr b off)) (hy : evW C G fr y = some u) (hi : C.ty t = some ti) (hb : hget hp b = some (ty, v)) (hs : Nat.beq u.size ti.size = true) (hg : qTq 50 v off u = some v') (hh : hset hp b (ty, v') = hp') : opHW C G fr hp nw (.store t x y) = some (.undef, hp', nw, .storeO b) := by
 simp only [opHW, hStore, hx, hy, hi, hb, hs, hg, hh]
theorem cut_hi {t : TypeId} {x z : Operand} {j k : TyI} {e : TypeId} {b base off len esz h : Nat} {lim : Option Nat} {u : W} (hj : C.ty t = some j) (hd : j.d = .slice e) (hx : evW C G fr x = some (.sl b base off len esz lim)) (hk : C.ty e = some k) (hs : Nat.beq k.size esz = true) (hz : evW C G fr z = some u) (hn : natW u = some h) (hle : h <= len) :
  y7q C G fr (.slice t x none (some z) none) = some (.sl b base (off + 0 * esz) (h - 0) esz (qVq 0 lim)) := by
 have : (Nat.ble 0 h && Nat.ble h len) = true := by rw [Nat.ble_eq_true_of_le hle]; simp
 simp only [y7q, Zuq, hj, hd, hx, hk, hs, bndW, hz, hn, cutW, this]
theorem cut_lo {t : TypeId} {x z : Operand} {j k : TyI} {e : TypeId} {b base off len esz l : Nat} {lim : Option Nat} {u : W} (hj : C.ty t = some j) (hd : j.d = .slice e) (hx : evW C G fr x = some (.sl b base off len esz lim)) (hk : C.ty e = some k) (hs : Nat.beq k.size esz = true) (hz : evW C G fr z = some u) (hn : natW u = some l) (hle : l <= len) (h0 : Nat.beq l 0 = false) :
  y7q C G fr (.slice t x (some z) none none) = some (.sl b off (off + l * esz) (len - l) esz (qVq l lim)) := by
 have : (Nat.ble l len && Nat.ble len len) = true := by rw [Nat.ble_eq_true_of_le hle]; simp
 simp only [y7q, Zuq, hj, hd, hx, hk, hs, bndW, hz, hn, cutW, this, h0]
theorem zFq {t : TypeId} {x y : Operand} {j k : TyI} {e : TypeId} {b base off len esz i : Nat} {lim : Option Nat} {u : W} (hj : C.ty t = some j) (hd : j.d = .slice e) (hx : evW C G fr x = some (.sl b base off len esz lim)) (hy : evW C G fr y = some u) (hn : natW u = some i) (hk : C.ty e = some k) (hs : Nat.beq k.size esz = true) (hi : i < len) :
  y7q C G fr (.indexAddr t x y) = some (.ptr b (off + i * esz)) := by
 have : Nat.blt i len = true := by simpa [Nat.blt_eq] using hi
 simp only [y7q, jtq, hj, hx, hy, hn, hd, hk, this, hs]
theorem zpq {t : TypeId} {x y : Operand} {j k : TyI} {e : TypeId} {b off n i : Nat} {u : W} (hj : C.ty t = some j) (hd : j.d = .arr n e) (hx : evW C G fr x = some (.ptr b off)) (hy : evW C G fr y = some u) (hn : natW u = some i) (hk : C.ty e = some k) (hi : i < n) :
  y7q C G fr (.indexAddr t x y) = some (.ptr b (off + i * k.size)) := by
 have : Nat.blt i n = true := by simpa [Nat.blt_eq] using hi
 simp only [y7q, jtq, hj, hx, hy, hn, hd, hk, this]
theorem zBq {t : TypeId} {x y : Operand} {j k : TyI} {e : TypeId} {l : List W} {esz i : Nat} {full : Bool} {u r : W} (hj : C.ty t = some j) (hd : j.d = .slice e) (hx : evW C G fr x = some (.fz l esz full)) (hy : evW C G fr y = some u) (hn : natW u = some i) (hk : C.ty e = some k) (hs : Nat.beq k.size esz = true) (hi : l[i]? = some r) :
  y7q C G fr (.indexAddr t x y) = some (.fel r) := by
 simp only [y7q, jtq, hj, hx, hy, hn, hd, hk, hi, hs]
theorem ix_fel {t : TypeId} {x y : Operand} {j k : TyI} {e : TypeId} {v r u : W} {n i : Nat} (hj : C.ty t = some j) (hd : j.d = .arr n e) (hx : evW C G fr x = some (.fel v)) (hy : evW C G fr y = some u) (hn : natW u = some i) (hk : C.ty e = some k) (hi : i < n) (h0 : Nat.beq k.size 0 = false) (hg : ypq 50 v (i * k.size) k.size k.agg = some r) :
  y7q C G fr (.indexAddr t x y) = some (.fel r) := by
 have : Nat.blt i n = true := by simpa [Nat.blt_eq] using hi
 simp only [y7q, jtq, hj, hx, hy, hn, hd, hk, this, h0, hg]
end
section
variable {C : Cfg} {hp : HpW} {nw : Nat} {ts tx e ty : TypeId} {j k : TyI} {x : W} {news olds l : List W}
theorem Jcq (hj : C.ty ts = some j) (hd : j.d = .slice e) (hk : C.ty e = some k) (hz : Nat.beq k.size 0 = false) (hs : srcW C hp tx k.size x = some []) : appW C hp nw ts tx .nils x = some (.nils, hp, nw, .gen) := by
 simp only [appW, hj, hd, hk, hz, hs]
theorem xKq (hj : C.ty ts = some j) (hd : j.d = .slice e) (hk : C.ty e = some k) (hz : Nat.beq k.size 0 = false) (hs : srcW C hp tx k.size x = some news) (hn : news ≠ []) (h1 : news.length * k.bytes <= 140737488355328) (h2 : news.length <= 70368744177664) :
  appW C hp nw ts tx .nils x = some (.sl nw 0 0 news.length k.size none, (nw, e, .arr (news.length * k.size) k.size news) :: hp, nw + 1, .gen) := by
 cases news with
 | nil => exact absurd rfl hn
 | cons a r => simp only [appW, hj, hd, hk, hz, hs, Nat.ble_eq_true_of_le h1, Nat.ble_eq_true_of_le h2, Bool.and_self]
theorem vNq {b base off len : Nat} {lim : Option Nat} (hj : C.ty ts = some j) (hd : j.d = .slice e) (hk : C.ty e = some k) (hz : Nat.beq k.size 0 = false) (hs : srcW C hp tx k.size x = some []) : appW C hp nw ts tx (.sl b base off len k.size lim) x = some (.sl b base off len k.size lim, hp, nw, .gen) := by
 simp only [appW, hj, hd, hk, hz, hs, show Nat.beq k.size k.size = true by simp]
theorem qOq {b base off len : Nat} {v : W} (hj : C.ty ts = some j) (hd : j.d = .slice e) (hk : C.ty e = some k) (hz : Nat.beq k.size 0 = false) (hs : srcW C hp tx k.size x = some news) (hn : news ≠ []) (h1 : (len + news.length) * k.bytes <= 140737488355328) (h2 : len + news.length <= 70368744177664) (hg : hget hp b = some (ty, v))
  (h3 : v.size < off + (len + news.length) * k.size) (ht : Nat.beq ty e = true) (ho : y6q 50 v off len k.size = some olds) :
  appW C hp nw ts tx (.sl b base off len k.size none) x = some (.sl nw 0 0 (len + news.length) k.size none, (nw, e, .arr ((len + news.length) * k.size) k.size (olds ++ news)) :: hdel hp b, nw + 1, .dirty) := by
 have h3 : Nat.ble (off + (len + news.length) * k.size) v.size = false := by
  cases hq : Nat.ble (off + (len + news.length) * k.size) v.size with
  | true => have := Yb hq; omega
  | false => rfl
 cases news with
 | nil => exact absurd rfl hn
 | cons a r => simp only [appW, hj, hd, hk, hz, hs, Nat.ble_eq_true_of_le h1, Nat.ble_eq_true_of_le h2, Bool.and_self, show Nat.beq k.size k.size = true by simp, hg, h3, ht, ho]
theorem y5q {G : Nat -> Option W} {fr : FrW} {x y : Operand} {s u : W} {r : OutW} (hx : evW C G fr x = some s) (hy : evW C G fr y = some u) (h : appW C hp nw ts tx s u = some r) : opHW C G fr hp nw (.call ⟨.builtin .append, #[x, y], #[ts, tx]⟩) = some r := by
 simp only [opHW, hAppend, hx, hy, h]
end
section
variable {C : Cfg} {G : Nat -> Option W} {m k0 : Nat} {rd : Bool} {fr : FrW} {hp : HpW} {nw : Nat} {R : Res} {Q : qyq} {x : Exit}
theorem xiq {y : Code} (hx : x ≠ .normal) (h : Q x fr hp nw R) : QSeq C G m k0 rd y Q x fr hp nw R := by cases x <;> first | exact h | exact absurd rfl hx
theorem Zbq {id : Nat} (h : Q .normal fr hp nw R) : v9q id Q (.exit id) fr hp nw R := by simp only [v9q, show Nat.beq id id = true by simp]; exact h
theorem q_blkx {id id' : Nat} (hne : Nat.beq id' id = false) (h : Q (.exit id') fr hp nw R) : v9q id Q (.exit id') fr hp nw R := by simp only [v9q, hne]; exact h
theorem jnq {id : Nat} (hx : ∀ i, x ≠ .exit i) (h : Q x fr hp nw R) : v9q id Q x fr hp nw R := by cases x <;> first | exact h | exact absurd rfl (hx _)
theorem qAq {α : Type} {I : α -> Prop} {F : α -> FrW} {H : α -> HpW} {N : α -> Nat} {RR : α -> Res} {μ : α -> Nat} {k : Nat} (hx : x ≠ .normal) (h : Q x fr hp nw R) : xlq C G m k0 I F H N RR μ k Q x fr hp nw R := by cases x <;> first | exact h | exact absurd rfl hx
theorem kpq {c : Code} {k : Nat} (hx : ∀ i, x ≠ .goto i) (h : Q x fr hp nw R) : v8q C G m k0 rd c Q k x fr hp nw R := by cases x <;> cases k <;> first | exact h | exact absurd rfl (hx _)
end
def subF (fr : FrW) : FrW -> Prop
 | [] => True
 | (t, w) :: l => getW fr t = some w /\ subF fr l
theorem Zdq {fr : FrW} : ∀ {l : FrW}, subF fr l -> ∀ t w, getW l t = some w -> getW fr t = some w
 | [], _, t, w, h => by simp [getW] at h
 | (k, u) :: l, hs, t, w, h => by
  simp only [getW] at h
  split at h
  ·rename_i e
   rw [Nat.beq_eq] at e
   subst e
   cases h
   exact hs.1
  ·exact Zdq hs.2 t w h
theorem yqq {C : Cfg} {G : Nat -> Option W} {m k0 : Nat} {fr fr2 : FrW} {hp hp2 : HpW} {nw nw2 : Nat} {R : Res} (hf : subF fr fr2) (hh : hp = hp2) (hn : nw = nw2) : Ent C G m k0 fr hp nw R fr2 hp2 nw2 R := by
 subst hh; subst hn; exact ent_drop (Zdq hf)
theorem co_post {C : Cfg} {G : Nat -> Option W} {m k0 : Nat} {rd : Bool} {c : Code} {fr : FrW} {hp : HpW} {nw : Nat} {R : Res} {Q : qyq}
  (h : CoW C G m k0 rd c fr hp nw R fun x fr hp nw R => ∃ fr2 hp2 nw2 R2, Ent C G m k0 fr hp nw R fr2 hp2 nw2 R2 /\ Q x fr2 hp2 nw2 R2) : CoW C G m k0 rd c fr hp nw R Q := fun Γ X st h1 h2 h3 h4 h5 => by
 obtain ⟨n, x, st', Γ', X', fr', hp', R', g1, g2, g3, g4, fr2, hp2, nw2, R2, e, g5⟩ := h Γ X st h1 h2 h3 h4 h5
 obtain ⟨Γ2, X2, e1, e2, e3⟩ := e Γ' X' st' rfl (g3.mle (h1 ▸ h2)) g2
 exact ⟨n, x, st', Γ2, X2, fr2, hp2, R2, g1, e2, g3.trans e3, g4, e1 ▸ g5⟩
theorem co_cut {α : Type} {C : Cfg} {G : Nat -> Option W} {m k0 : Nat} {rd : Bool} {x y : Code} {fr : FrW} {hp : HpW} {nw : Nat} {R : Res} {Q : qyq} (I : α -> Prop) (F : α -> FrW) (H : α -> HpW) (N : α -> Nat)
  (hx : CoW C G m k0 rd x fr hp nw R fun e fr hp nw R' => e = .normal /\ ∃ a, I a /\ Ent C G m k0 fr hp nw R' (F a) (H a) (N a) R) (hy : ∀ a, I a -> CoW C G m k0 rd y (F a) (H a) (N a) R Q) : CoW C G m k0 rd (.seq x y) fr hp nw R Q :=
 zMq (co_post (Q7q hx fun e fr hp nw R' h => by
  obtain ⟨rfl, a, h1, h2⟩ := h
  exact ⟨_, _, _, _, h2, hy a h1⟩))
def QFin (C : Cfg) (G : Nat -> Option W) (m k0 : Nat) (rs : List ResultVar) (Q : W -> HpW -> Nat -> Res -> Prop) : qyq := fun x fr hp nw R => ∃ fr2 hp2 nw2 R2, Ent C G m k0 fr hp nw R fr2 hp2 nw2 R2 /\ (x = .normal \/ x = .ret) /\ ∃ w, outW C fr2 hp2 rs = some w /\ Q w hp2 nw2 R2
theorem z0q {C : Cfg} {G : Nat -> Option W} {m : Nat} {hp : HpW} {R : Res} {f : FuncId} {fn : Func} {c : Code} {ws : List W} {Q : W -> HpW -> Nat -> Res -> Prop} (hk : C.known f = none) (hf : C.fn f = some fn) (hb : fn.body = some c) (hn : ws.length <= fn.ntmps)
  (h : ∀ k0, CoW C G m k0 false c (Yvq 0 ws) hp m R (QFin C G m k0 fn.results.toList Q)) : Spec C G f m ws hp R Q := spec_of hk hf hb hn fun k0 => co_post (h k0)
theorem fin {C : Cfg} {G : Nat -> Option W} {m k0 : Nat} {rs : List ResultVar} {Q : W -> HpW -> Nat -> Res -> Prop} {x : Exit} {fr fr2 : FrW} {hp hp2 : HpW} {nw nw2 : Nat} {R R2 : Res} {w : W} (hx : x = .normal \/ x = .ret) (e : Ent C G m k0 fr hp nw R fr2 hp2 nw2 R2) (ho : outW C fr2 hp2 rs = some w) (hq : Q w hp2 nw2 R2) :
  QFin C G m k0 rs Q x fr hp nw R := ⟨fr2, hp2, nw2, R2, e, hx, w, ho, hq⟩
theorem qpq {C : Cfg} {G : Nat -> Option W} {m k0 nw nw2 : Nat} {fr fr2 : FrW} {hp hp2 : HpW} {R : Res} (hm : m <= nw2) (hn : nw2 <= nw) (hf : subF fr fr2) (hr : fr2.all (fun p => refB nw2 p.2) = true) (hh : ∀ b x, hget hp2 b = some x -> b < nw2 /\ hget hp b = some x /\ refB nw2 x.2 = true) (nd : (hp2.map (·.1)).Nodup) :
  Ent C G m k0 fr hp nw R fr2 hp2 nw2 R := fun Γ X st hnw hmn s => by
 let Γ2 : Ctx := ⟨nw2, Γ.σ, Γ.D, Γ.h⟩
 have back : ∀ {w : W} {v : V}, refB nw2 w = true -> RV Γ w v -> RV Γ2 w v := fun {w v} q1 q2 => ⟨q2.1, by
  have h1 := v7q (τ := fun b => b) (Γ := Γ) (Γ' := Γ) ⟨fun _ h => h, fun _ _ => rfl, fun _ h => h, fun _ _ => rfl⟩ q2.2
  exact xNq (Γ := Γ) (Γ' := Γ2) (τ := fun b => b) rfl (fun _ _ => rfl) (fun _ h => h) (fun _ _ => rfl) q1 h1⟩
 have howns : ∀ {c}, Owns Γ2 hp2 c -> Owns Γ hp c := fun {c} h => by
  obtain ⟨k, y, g1, g2⟩ := h
  exact ⟨k, _, (hh k y g1).2.1, g2⟩
 refine ⟨Γ2, X, rfl, ⟨s.hh, fun t w hw => ?_, ⟨s.sat.wf, fun b ty w hb => ?_, fun b c x y hx hy e => s.sat.inj b c x y (hh b x hx).2.1 (hh c y hy).2.1 e, nd, s.sat.dX, s.sat.xlt, s.sat.dlt, s.sat.res, s.sat.gl⟩, fun d hd => ?_, s.nd⟩, ⟨fun _ _ => rfl, fun _ => hm, Nat.le_refl _, fun _ _ _ _ => rfl, fun _ h => h, fun _ h => .inl h, fun b x _ h => ⟨x, (hh b x h).2.1⟩, fun b x hb h => .inr ⟨b, x, hb, (hh b x h).2.1, rfl⟩, fun _ h => .inl h, fun _ h _ _ => h⟩⟩
 ·obtain ⟨v, g3, g4⟩ := s.fr _ _ (Zdq hf t w hw)
  refine ⟨v, g3, back ?_ g4⟩
  have key : ∀ {l : FrW}, getW l t = some w -> ∃ p ∈ l, p.2 = w := fun {l} => by
   induction l with
   | nil => intro h; simp [getW] at h
   | cons p l ih =>
    obtain ⟨k, u⟩ := p
    intro h
    simp only [getW] at h
    split at h
    ·cases h; exact ⟨_, List.mem_cons_self .., rfl⟩
    ·obtain ⟨p, h1, h2⟩ := ih h
     exact ⟨p, List.mem_cons_of_mem _ h1, h2⟩
  obtain ⟨p, h1, rfl⟩ := key hw
  exact (List.all_eq_true.1 hr) p h1
 ·obtain ⟨g1, g2, g3⟩ := hh b _ hb
  obtain ⟨q1, q2, q3, v, q4, q5⟩ := s.sat.own _ _ _ g2
  exact ⟨g1, q2, q3, v, q4, back g3 q5⟩
 ·obtain ⟨q1, q2, q3, q4, q5, q6⟩ := s.ds d hd
  exact ⟨q1, q2, q3, fun h => q4 (howns h), q5, q6⟩
def subH (hp : HpW) (nw : Nat) : HpW -> Prop
 | [] => True
 | (b, x) :: l => (b < nw /\ hget hp b = some x /\ refB nw x.2 = true) /\ subH hp nw l
theorem qgq {hp : HpW} {nw : Nat} : ∀ {l : HpW}, subH hp nw l -> ∀ b x, hget l b = some x -> b < nw /\ hget hp b = some x /\ refB nw x.2 = true
 | [], _, b, x, h => by simp [hget] at h
 | (k, y) :: l, hs, b, x, h => by
  rw [zCq] at h
  split at h
  ·rename_i e
   subst e
   cases h
   exact hs.1
  ·exact qgq hs.2 b x h
def subR (τ : Nat -> Nat) (nw2 : Nat) (fr : FrW) : FrW -> Prop
 | [] => True
 | (t, w) :: l => (getW fr t = some (renW τ w) /\ refB nw2 w = true) /\ subR τ nw2 fr l
theorem subR_get {τ : Nat -> Nat} {nw2 : Nat} {fr : FrW} : ∀ {l : FrW}, subR τ nw2 fr l -> ∀ t w, getW l t = some w -> getW fr t = some (renW τ w) /\ refB nw2 w = true
 | [], _, t, w, h => by simp [getW] at h
 | (k, u) :: l, hs, t, w, h => by
  simp only [getW] at h
  split at h
  ·rename_i e
   rw [Nat.beq_eq] at e
   subst e
   cases h
   exact hs.1
  ·exact subR_get hs.2 t w h
def subRH (τ : Nat -> Nat) (nw2 : Nat) (hp : HpW) : HpW -> Prop
 | [] => True
 | (b, x) :: l => (b < nw2 /\ hget hp (τ b) = some (x.1, renW τ x.2) /\ refB nw2 x.2 = true) /\ subRH τ nw2 hp l
theorem uMq {τ : Nat -> Nat} {nw2 : Nat} {hp : HpW} : ∀ {l : HpW}, subRH τ nw2 hp l -> ∀ b x, hget l b = some x -> b < nw2 /\ hget hp (τ b) = some (x.1, renW τ x.2) /\ refB nw2 x.2 = true
 | [], _, b, x, h => by simp [hget] at h
 | (k, y) :: l, hs, b, x, h => by
  rw [zCq] at h
  split at h
  ·rename_i e
   subst e
   cases h
   exact hs.1
  ·exact uMq hs.2 b x h
def tau1 (b k : Nat) : Nat -> Nat := fun i => match Nat.beq i b with
 | true => k
 | false => i
theorem vqq (b k : Nat) : tau1 b k b = k := by simp [tau1]
theorem kmq {b k i : Nat} (h : i ≠ b) : tau1 b k i = i := by
 unfold tau1
 have : Nat.beq i b = false := by
  cases hq : Nat.beq i b with
  | true => exact absurd (Nat.eq_of_beq_eq_true hq) h
  | false => rfl
 rw [this]
theorem qiq {C : Cfg} {G : Nat -> Option W} {m k0 nw b k : Nat} {fr fr2 : FrW} {hp hp2 : HpW} {R : Res} (hm : m <= b) (hb : b <= k) (hk : k < nw) (hf : subR (tau1 b k) (b + 1) fr fr2) (hh : subRH (tau1 b k) (b + 1) hp hp2) (nd : (hp2.map (·.1)).Nodup) : Ent C G m k0 fr hp nw R fr2 hp2 (b + 1) R := by
 refine ent_num (tau1 b k) (by omega) (fun i hi => kmq (by omega)) (fun i hi => ?_) (fun i h1 h2 => ?_) (subR_get hf) (uMq hh) (fun i j x y hx hy e => ?_) nd
 ·by_cases e : i = b
  ·subst e; rw [vqq]; exact hk
  ·rw [kmq e]; omega
 ·by_cases e : i = b
  ·subst e; rw [vqq]; omega
  ·rw [kmq e]; exact h1
 ·have h1 := (uMq hh i x hx).1
  have h2 := (uMq hh j y hy).1
  by_cases e1 : i = b <;> by_cases e2 : j = b
  ·rw [e1, e2]
  ·subst e1; rw [vqq, kmq e2] at e; omega
  ·subst e2; rw [vqq, kmq e1] at e; omega
  ·rwa [kmq e1, kmq e2] at e
theorem ZXq {b0 b1 nw : Nat} {t0 t1 : TypeId} {w0 w1 : W} {hp : HpW} (h0 : hget hp b0 = some (t0, renW (numC [b0, b1] nw) w0)) (h1 : hget hp b1 = some (t1, renW (numC [b0, b1] nw) w1)) (r0 : refB 2 w0 = true) (r1 : refB 2 w1 = true) : Handed [b0, b1] nw [(0, t0, w0), (1, t1, w1)] hp := fun i ty w h => by
 rw [zCq, zCq] at h
 split at h
 ·rename_i e; subst e; cases h; exact ⟨by simp, r0, b0, rfl, h0⟩
 ·split at h
  ·rename_i e; subst e; cases h; exact ⟨by simp, r1, b1, rfl, h1⟩
  ·simp [hget] at h
theorem handed1 {b0 nw : Nat} {t0 : TypeId} {w0 : W} {hp : HpW} (h0 : hget hp b0 = some (t0, renW (numC [b0] nw) w0)) (r0 : refB 1 w0 = true) : Handed [b0] nw [(0, t0, w0)] hp := fun i ty w h => by
 rw [zCq] at h
 split at h
 ·rename_i e; subst e; cases h; exact ⟨by simp, r0, b0, rfl, h0⟩
 ·simp [hget] at h
def bN (l : List Nat) : List W := l.map fun c => .int .u8 (.ofNat c)
theorem kbq (l : List Nat) : (bN l).length = l.length := by simp [bN]
theorem v5q : ∀ l : List Nat, purL (bN l) = true
 | [] => rfl
 | _ :: l => by simp only [bN, List.map_cons, purL, purW, Bool.true_and]; exact v5q l
theorem bN_at {l : List Nat} {i : Nat} (h : i < l.length) : (bN l)[i]? = some (.int .u8 (.ofNat (l.getD i 0))) := by
 simp [bN, List.getElem?_map, List.getElem?_eq_getElem h, List.getD]
theorem ZUq {w : W} (h : w.leaf = true) : w.size = 1 := by cases w <;> simp [W.leaf] at h <;> rfl
theorem get_leaf {w : W} (f : Nat) (h : w.leaf = true) : ypq (f + 1) w 0 1 false = some w := by
 unfold ypq
 simp [ZUq h, W.leaf_agg h, h]
theorem put_leaf {v w : W} (f : Nat) (h : v.leaf = true) (h' : w.leaf = true) : qTq (f + 1) v 0 w = some w := by
 unfold qTq
 simp [ZUq h, ZUq h', W.leaf_agg h, W.leaf_agg h', h, h']
theorem yUq {n i f : Nat} {l : List W} {x : W} (h : l[i]? = some x) (hx : x.leaf = true) : ypq (f + 2) (.arr n 1 l) i 1 false = some x := by
 unfold ypq
 have : (Nat.beq i 0 && Nat.beq 1 (W.arr n 1 l).size && false == (W.arr n 1 l).isAgg) = false := by simp [W.isAgg]
 rw [this]
 simp only [Nat.div_one, Nat.mod_one, h]
 exact get_leaf f hx
theorem qzq {n i f : Nat} {l : List W} {x y : W} (h : l[i]? = some x) (hx : x.leaf = true) (hy : y.leaf = true) : qTq (f + 2) (.arr n 1 l) i y = some (.arr n 1 (l.set i y)) := by
 unfold qTq
 have : (Nat.beq i 0 && Nat.beq y.size (W.arr n 1 l).size && y.isAgg == (W.arr n 1 l).isAgg) = false := by rw [W.leaf_agg hy, Bool.and_eq_false_iff]; exact .inr rfl
 rw [this]
 simp only [Nat.div_one, Nat.mod_one, h, put_leaf f hx hy]
theorem uLq {n off k f : Nat} {l : List W} (hn : off + k <= n) : y6q (f + 1) (.arr n 1 l) off k 1 = some ((l.drop off).take k) := by
 unfold y6q
 have : (Nat.beq 1 1 && Nat.beq (off % 1) 0 && Nat.ble (off + k * 1) n && Nat.blt 0 1) = true := by
  rw [Nat.mod_one, Nat.mul_one, Nat.ble_eq_true_of_le hn]; rfl
 simp only [this, Nat.div_one]
theorem RVL_nil {Γ : Ctx} {vs : List V} : RVL Γ [] vs ↔ vs = [] := by simp [RVL]
theorem RVL_cons {Γ : Ctx} {w : W} {ws : List W} {vs : List V} : RVL Γ (w :: ws) vs ↔ ∃ v vs', vs = v :: vs' /\ RV Γ w v /\ RVL Γ ws vs' := by simp only [RVL, RV]
theorem spec_run {C : Cfg} {G : Nat -> Option W} {f : FuncId} {ws : List W} {w : W} {v : V} {vs : List V} {n : Nat} (h : ∀ h, qDq C n f vs h = some (v, h)) (hv : ∀ Γ us, RVL Γ ws us -> us = vs) (hw : ∀ Γ, RV Γ w v) : qkq C G f 0 ws [] fun w' hp' nw' => w' = w /\ hp' = [] /\ nw' = 0 := fun R Γ X us h1 s hu => by
 obtain rfl := hv Γ us hu
 exact ⟨n, v, Γ, X, w, [], R, h Γ.h, s, Frm.refl _ _ _ _, hw Γ, rfl, rfl, rfl, h1⟩
section
variable {C : Cfg} {G : Nat -> Option W}
theorem RVL_pur {Γ Γ' : Ctx} (hD : ∀ b, Γ.D b -> Γ'.D b) (hv : ∀ b, Γ.D b -> Γ'.h.val b = Γ.h.val b) : ∀ {l : List W} {vs : List V}, purL l = true -> RVL Γ l vs -> RVL Γ' l vs
 | [], vs, _, h => by simp only [RVL] at h ⊢; exact h
 | w :: l, vs, hp, h => by
  simp only [purL, Bool.and_eq_true] at hp
  simp only [RVL] at h ⊢
  obtain ⟨v, vs', rfl, ⟨h2, h3⟩, h4⟩ := h
  exact ⟨v, vs', rfl, ⟨h2, Qkq hD hv hp.1 h3⟩, RVL_pur hD hv hp.2 h4⟩
def YieldOK (C : Cfg) (G : Nat -> Option W) (L : Nat) (R : Res) (ws : List W) (P : Bool -> Res -> Prop) : Prop :=
 ∀ Γ hp X vs, SatH C G Γ hp X R -> RVL Γ ws vs -> ∃ b R' n Γ' X', P b R' /\ z7q C n L vs Γ.h = some (.bool b, Γ'.h) /\ Γ'.nw = Γ.nw /\ Γ.Le Γ' /\ SatH C G Γ' hp X' R' /\ Frm Γ.nw Γ hp X Γ' hp X'
def Yl (C : Cfg) (G : Nat -> Option W) (L : Nat) (E : Res -> Prop) : List (List W) -> Res -> Prop
 | [], R => E R
 | x :: l, R => YieldOK C G L R x fun b R1 => match b with
  | true => Yl C G L E l R1
  | false => E R1
def jjq (C : Cfg) (G : Nat -> Option W) (f : FuncId) (c : List W) (l : List (List W)) : Prop :=
 ∀ L E R, Yl C G L E l R -> Spec C G f 0 (.yield L :: c) [] R fun _ _ _ R' => E R'
theorem jVq {o : Oper} {fr : FrW} {hp : HpW} {nw : Nat} {R : Res} {post : W -> HpW -> Nat -> Res -> Option EvW -> Prop} {x : Operand} {xs : Array Operand} {ats : Array TypeId} {L : Nat} {us : List W} {P : Bool -> Res -> Prop}
  (ho : o.op = .call ⟨.value x, xs, ats⟩) (hx : evW C G fr x = some (.yield L)) (hxs : evLW C G fr xs.toList = some us) (hy : YieldOK C G L R us P) (hpost : ∀ b R', P b R' -> post (.bool b) hp nw R' (some .dirty)) : Step C G o fr hp nw R post := fun Γ X frv hnw s hf => by
 subst hnw
 obtain ⟨u, e1, e2⟩ := z6q hf s.gl hx
 rw [RV_yield] at e2; subst e2
 obtain ⟨us', e5, e6⟩ := k5q hf s.gl hxs
 obtain ⟨b, R', n, Γ', X', g1, g2, g3, g4, g5, g6⟩ := hy Γ hp X us' s e6
 obtain ⟨k1, k2⟩ := vLq (C := C) ho frv Γ.h
 refine ⟨n, _, hp, R', some .dirty, .bool b, Γ'.h, Γ', X', by rw [g3]; exact hpost b R' g1, ?_, ⟨k1, fun _ _ _ => trivial⟩, rfl, g4, g5, g6, RV_bool.2 rfl⟩
 simp only [opV, k1, k2]
 simp only [ho, jmq, e1, e5]
 exact g2
def setPW : FrW -> List Tmp -> List W -> FrW
 | fr, p :: ps, w :: ws => setPW ((p, w) :: fr) ps ws
 | fr, _, _ => fr
theorem setP_rel {Γ : Ctx} : ∀ {ps : List Tmp} {ws : List W} {vs : List V} {fr : FrW} {frv : Tr V}, FRel Γ fr frv -> RVL Γ ws vs -> FRel Γ (setPW fr ps ws) (Quq frv ps vs)
 | [], ws, vs, fr, frv, hf, hv => by cases ws <;> cases vs <;> exact hf
 | p :: ps, [], vs, fr, frv, hf, hv => by
  simp only [RVL] at hv; subst hv
  exact hf
 | p :: ps, w :: ws, vs, fr, frv, hf, hv => by
  simp only [RVL] at hv
  obtain ⟨v, vs', rfl, h1, h2⟩ := hv
  exact setP_rel (fr := (p, w) :: fr) (frv := frv.set p (some v)) (FRel.put (d := some p) hf h1) h2
theorem FRel.le {Γ Γ' : Ctx} {fr : FrW} {frv : Tr V} (le : Γ.Le Γ') (h : FRel Γ fr frv) : FRel Γ' fr frv := h.mono le
structure SatN (C : Cfg) (G : Nat -> Option W) (Γ : Ctx) (hp : HpW) (X : Nat -> Prop) (R : Res) : Prop where
 own : ∀ b ty w, hget hp b = some (ty, w) -> b < Γ.nw /\ ¬ Γ.D (Γ.σ b) /\ ¬ X (Γ.σ b) /\ Γ.σ b < Γ.h.next /\ ∃ v, Γ.h.get (Γ.σ b) = some (.cells ty v) /\ RV Γ w v
 inj : ∀ b b' x y, hget hp b = some x -> hget hp b' = some y -> Γ.σ b = Γ.σ b' -> b = b'
 nd : (hp.map (·.1)).Nodup
 dX : ∀ c, Γ.D c -> ¬ X c
 xlt : ∀ c, X c -> c < Γ.h.next
 dlt : ∀ c, Γ.D c -> c < Γ.h.next
 res : R.p Γ.h Γ.D X
 gl : GRel C G Γ
theorem SatH.own_lt {Γ : Ctx} {hp : HpW} {X : Nat -> Prop} {R : Res} (s : SatH C G Γ hp X R) {b : Nat} {x : TypeId × W} (h : hget hp b = some x) : Γ.σ b < Γ.h.next := by
 obtain ⟨_, _, _, u, h1, _⟩ := s.own b x.1 x.2 h
 rcases Nat.lt_or_ge (Γ.σ b) Γ.h.next with h | h
 ·exact h
 ·rw [s.wf _ h] at h1; cases h1
theorem SatH.n {Γ : Ctx} {hp : HpW} {X : Nat -> Prop} {R : Res} (s : SatH C G Γ hp X R) : SatN C G Γ hp X R :=
 ⟨fun b ty w h => by obtain ⟨q1, q2, q3, q4⟩ := s.own b ty w h; exact ⟨q1, q2, q3, s.own_lt h, q4⟩, s.inj, s.nd, s.dX, s.xlt, s.dlt, s.res, s.gl⟩
theorem SatN.later {nw : Nat} {σ : Nat -> Nat} {D D' : Nat -> Prop} {h h' : Heap} {hp : HpW} {X X' : Nat -> Prop} {R : Res} (s : SatN C G ⟨nw, σ, D, h⟩ hp X R) (hD : ∀ c, D c -> D' c) (hv : ∀ c, D c -> h'.val c = h.val c) (hn : h.next <= h'.next)
  (hX : ∀ c, Owns ⟨nw, σ, D, h⟩ hp c \/ X c -> X' c) (hk : ∀ c, X' c -> h'.get c = h.get c) (hdX : ∀ c, D' c -> ¬ X' c) (hdl : ∀ c, D' c -> c < h'.next) : SatN C G ⟨nw, σ, D', h'⟩ hp X R := by
 have le : Ctx.Le ⟨nw, σ, D, h⟩ ⟨nw, σ, D', h'⟩ := ⟨Nat.le_refl _, fun _ _ => rfl, hD, hv⟩
 refine ⟨fun b ty w hb => ?_, s.inj, s.nd, fun c hd hx => hdX c hd (hX c (.inr hx)), fun c hx => Nat.lt_of_lt_of_le (s.xlt c hx) hn, hdl, R.st _ _ _ _ _ s.res hD hv (fun c hc => hk c (hX c (.inr hc))) hn, s.gl.mono le⟩
 obtain ⟨q1, q2, q3, q4, u, q5, q6⟩ := s.own b ty w hb
 have hx := hX (σ b) (.inl ⟨b, _, hb, rfl⟩)
 exact ⟨q1, fun hd => hdX _ hd hx, q3, Nat.lt_of_lt_of_le q4 hn, u, (hk _ hx).trans q5, q6.mono le⟩
theorem SatN.h {Γ : Ctx} {hp : HpW} {X : Nat -> Prop} {R : Res} (s : SatN C G Γ hp X R) (wf : ∀ i, Γ.h.next <= i -> Γ.h.get i = none) : SatH C G Γ hp X R :=
 ⟨wf, fun b ty w h => by obtain ⟨q1, q2, q3, _, q4⟩ := s.own b ty w h; exact ⟨q1, q2, q3, q4⟩, s.inj, s.nd, s.dX, s.xlt, s.dlt, s.res, s.gl⟩
structure FrmC (N0 : Nat) (Γs : Ctx) (hps : HpW) (Xs : Nat -> Prop) (σ : Nat -> Nat) (hp : HpW) (X : Nat -> Prop) : Prop where
 sig : ∀ b, b < N0 -> σ b = Γs.σ b
 oext : ∀ b x, b < N0 -> hget hp b = some x -> ∃ y, hget hps b = some y
 onum : ∀ b x, N0 <= b -> hget hp b = some x -> Γs.h.next <= σ b \/ ∃ k y, N0 <= k /\ hget hps k = some y /\ Γs.σ k = σ b
 xnew : ∀ c, X c -> Xs c \/ Γs.h.next <= c
theorem FrmC.own {N0 : Nat} {Γs Γ : Ctx} {hps hp : HpW} {Xs X : Nat -> Prop} (a : FrmC N0 Γs hps Xs Γ.σ hp X) {c : Nat} (h : Owns Γ hp c) : Owns Γs hps c \/ Γs.h.next <= c := by
 obtain ⟨b, x, h1, rfl⟩ := h
 rcases Nat.lt_or_ge b N0 with hb | hb
 ·obtain ⟨y, hy⟩ := a.oext b x hb h1
  exact .inl ⟨b, y, hy, (a.sig b hb).symm⟩
 ·rcases a.onum b x hb h1 with h | ⟨k, y, _, h2, h3⟩
  ·exact .inr h
  ·exact .inl ⟨k, y, h2, h3⟩
theorem FrmC.step {N0 : Nat} {Γs Γ Γ' : Ctx} {hps hp hp' : HpW} {Xs X X' S : Nat -> Prop} (a : FrmC N0 Γs hps Xs Γ.σ hp X) (hn : Γs.h.next <= Γ.h.next) (hS : ∀ c, S c -> Γs.h.next <= c) (f : Frm N0 Γ hp (fun c => X c \/ S c) Γ' hp' (fun c => X' c \/ S c)) : FrmC N0 Γs hps Xs Γ'.σ hp' X' := by
 refine ⟨fun b hb => (f.sig b hb).trans (a.sig b hb), fun b x hb h => ?_, fun b x hb h => ?_, fun c h => ?_⟩
 ·obtain ⟨y, hy⟩ := f.oext b x hb h
  exact a.oext b y hb hy
 ·rcases f.onum b x hb h with h | ⟨k, y, h1, h2, h3⟩
  ·exact .inl (Nat.le_trans hn h)
  ·rcases a.onum k y h1 h2 with h | ⟨j, z, h4, h5, h6⟩
   ·exact .inl (by rw [<- h3]; exact h)
   ·exact .inr ⟨j, z, h4, h5, h6.trans h3⟩
 ·rcases f.xnew c (.inl h) with (h | h) | h
  ·exact a.xnew c h
  ·exact .inr (hS c h)
  ·exact .inr (Nat.le_trans hn h)
theorem Frm.more {m : Nat} {Γ Γ' : Ctx} {hp hp' : HpW} {X X' : Nat -> Prop} (S : Nat -> Prop) (f : Frm m Γ hp X Γ' hp' X') : Frm m Γ hp (fun c => X c \/ S c) Γ' hp' (fun c => X' c \/ S c) :=
 ⟨f.sig, f.mle, f.next, fun c h1 h2 h3 => f.keep c h1 h2 (fun h => h3 (.inl h)), f.dsub, fun c h => by
  rcases f.dnew c h with h | (h | h) | h
  ·exact .inl h
  ·exact .inr (.inl (.inl h))
  ·exact .inr (.inl (.inr (.inl h)))
  ·exact .inr (.inr h), f.oext, f.onum, fun c h => by
  rcases h with h | h
  ·rcases f.xnew c h with h | h
   ·exact .inl (.inl h)
   ·exact .inr h
  ·exact .inl (.inr h), fun k h1 h2 h3 => f.wmin k h1 h2 fun c hc => h3 c (by
   rcases hc with hc | hc
   ·exact .inl hc
   ·exact .inr (.inl hc))⟩
theorem put_other {Γ : Ctx} {hp : HpW} {X : Nat -> Prop} {R : Res} (s : SatH C G Γ hp X R) {L : Nat} {B : Blk} (hL : L < Γ.h.next) (h1 : ¬ Owns Γ hp L) (h2 : ¬ X L) (h3 : ¬ Γ.D L) :
  Γ.Le { Γ with h := Γ.h.put L B } /\ SatH C G { Γ with h := Γ.h.put L B } hp X R := by
 have ne : ∀ {c}, c ≠ L -> (Γ.h.put L B).get c = Γ.h.get c := fun {c} h => by rw [Heap.get_put, if_neg h]
 have le : Γ.Le { Γ with h := Γ.h.put L B } := ⟨Nat.le_refl _, fun _ _ => rfl, fun _ h => h, fun c hc => qrq (ne fun e => h3 (e ▸ hc))⟩
 refine ⟨le, fun i hi => ?_, fun b ty w hb => ?_, s.inj, s.nd, s.dX, s.xlt, s.dlt, R.st _ _ _ _ _ s.res le.D le.val (fun c hc => ne fun e => h2 (e ▸ hc)) (Nat.le_refl _), s.gl.mono le⟩
 ·have hi : Γ.h.next <= i := hi
  show (Γ.h.put L B).get i = none
  rw [ne (by omega)]; exact s.wf i hi
 ·obtain ⟨q1, q2, q3, u, q4, q5⟩ := s.own b ty w hb
  exact ⟨q1, q2, q3, u, (ne fun e => h1 ⟨b, _, hb, e⟩).trans q4, q5.mono le⟩
theorem put_frm {m : Nat} {Γ : Ctx} {hp : HpW} {X S : Nat -> Prop} {L : Nat} {B : Blk} (hS : S L) : Frm m Γ hp (fun c => X c \/ S c) { Γ with h := Γ.h.put L B } hp (fun c => X c \/ S c) :=
 ⟨fun _ _ => rfl, fun h => h, Nat.le_refl _, fun c _ _ h3 => by
  show (Γ.h.put L B).get c = _
  rw [Heap.get_put, if_neg fun e : c = L => h3 (.inr (by rw [e]; exact hS))], fun _ h => h, fun _ h => .inl h, fun _ x _ h => ⟨x, h⟩, fun b x hb h => .inr ⟨b, x, hb, h, rfl⟩, fun _ h => .inl h, fun k h1 _ h3 => wmn_le h1 (h3 L (.inr (.inr hS)))⟩
section
variable (C : Cfg) (G : Nat -> Option W) (N0 : Nat) (Γs : Ctx) (hps : HpW) (Xs : Nat -> Prop) (frv : Tr V) (ps : Array Tmp) (asg bd : Code) (fr : FrW)
def Two (Γs : Ctx) : Nat -> Prop := fun c => c = Γs.h.next + 1 \/ c = Γs.h.next
def InRange (ls : LoopState) (pend : Option Code) (hp : HpW) (nw : Nat) (R : Res) (h : Heap) (D X : Nat -> Prop) : Prop :=
 ∃ σ Dc Xc, h.get (Γs.h.next + 1) = some (.loop ls pend frv ps asg bd Γs.h.next) /\ h.get Γs.h.next = some (.dfr false) /\ (∀ c, Two Γs c -> X c) /\ (∀ c, Dc c -> D c) /\ SatN C G ⟨nw, σ, Dc, h⟩ hp Xc R /\ FRel ⟨N0, σ, Dc, h⟩ fr frv /\ N0 <= nw /\
  (∀ c, Owns ⟨nw, σ, Dc, h⟩ hp c \/ Xc c -> X c) /\ (∀ c, Two Γs c -> ¬ Owns ⟨nw, σ, Dc, h⟩ hp c /\ ¬ Xc c) /\ FrmC N0 Γs hps Xs σ hp Xc /\ Γs.h.next + 2 <= h.next
def xkq (ls : LoopState) (pend : Option Code) (hp : HpW) (nw : Nat) (R : Res) : Res :=
 ⟨InRange C G N0 Γs hps Xs frv ps asg bd fr ls pend hp nw R, fun h h' D D' X hp' hD hv hk hn => by
  obtain ⟨σ, Dc, Xc, g1, g2, g3, g4, g5, g6, g7, g8, g9, g10, g11⟩ := hp'
  have hvc : ∀ c, Dc c -> h'.val c = h.val c := fun c hc => hv c (g4 c hc)
  refine ⟨σ, Dc, Xc, (hk _ (g3 _ (.inl rfl))).trans g1, (hk _ (g3 _ (.inr rfl))).trans g2, g3, fun c hc => hD c (g4 c hc), ?_, FRel.le (Γ := ⟨N0, σ, Dc, h⟩) (Γ' := ⟨N0, σ, Dc, h'⟩) ⟨Nat.le_refl _, fun _ _ => rfl, fun _ h => h, hvc⟩ g6, g7, g8, g9, g10, Nat.le_trans g11 hn⟩
  have le : Ctx.Le ⟨nw, σ, Dc, h⟩ ⟨nw, σ, Dc, h'⟩ := ⟨Nat.le_refl _, fun _ _ => rfl, fun _ h => h, hvc⟩
  refine ⟨fun b ty w hb => ?_, g5.inj, g5.nd, g5.dX, fun c hc => Nat.lt_of_lt_of_le (g5.xlt c hc) hn, fun c hc => Nat.lt_of_lt_of_le (g5.dlt c hc) hn, R.st _ _ _ _ _ g5.res le.D le.val (fun c hc => hk c (g8 c (.inr hc))) hn, g5.gl.mono le⟩
  obtain ⟨q1, q2, q3, q4, u, q5, q6⟩ := g5.own b ty w hb
  exact ⟨q1, q2, q3, Nat.lt_of_lt_of_le q4 hn, u, (hk _ (g8 _ (.inl ⟨b, _, hb, rfl⟩))).trans q5, q6.mono le⟩⟩
end
theorem round_close {N0 : Nat} {Γs : Ctx} {hps : HpW} {Xs : Nat -> Prop} {frv : Tr V} {ps : Array Tmp} {asg bd : Code} {fr : FrW} {ls : LoopState} {pend : Option Code} {hpc hp2 : HpW} {σ : Nat -> Nat} {nwc : Nat} {R2 Re : Res} {Γ Γ2 : Ctx} {hpe : HpW} {X Xc X2 : Nat -> Prop} {Dc : Nat -> Prop}
  (s : SatH C G Γ hpe X Re) (hX : ∀ c, Owns ⟨nwc, σ, Γ.D, Γ.h⟩ hpc c \/ Xc c -> X c) (hT : ∀ c, Two Γs c -> X c) (hDc : ∀ c, Dc c -> Γ.D c) (hfr : FRel ⟨N0, σ, Dc, Γ.h⟩ fr frv) (fc : FrmC N0 Γs hps Xs σ hpc Xc) (hsn : Γs.h.next + 2 <= Γ.h.next)
  (F : Frm N0 ⟨nwc, σ, Γ.D, Γ.h⟩ hpc (fun c => Xc c \/ Two Γs c) Γ2 hp2 (fun c => X2 c \/ Two Γs c)) (s2 : SatH C G Γ2 hp2 X2 R2) (hN : N0 <= Γ2.nw)
  (hL : Γ2.h.get (Γs.h.next + 1) = some (.loop ls pend frv ps asg bd Γs.h.next)) (hd : Γ2.h.get Γs.h.next = some (.dfr false)) (hne : ∀ c, Two Γs c -> ¬ Owns Γ2 hp2 c /\ ¬ X2 c /\ ¬ Γ2.D c) :
  ∃ Γ' X', Γ'.h = Γ2.h /\ Γ'.nw = Γ.nw /\ Γ.Le Γ' /\ SatH C G Γ' hpe X' (xkq C G N0 Γs hps Xs frv ps asg bd fr ls pend hp2 Γ2.nw R2) /\ Frm Γ.nw Γ hpe X Γ' hpe X' := by
 have inX : ∀ {c}, Owns ⟨nwc, σ, Γ.D, Γ.h⟩ hpc c \/ Xc c \/ Two Γs c -> X c := fun {c} h => by
  rcases h with h | h | h
  ·exact hX c (.inl h)
  ·exact hX c (.inr h)
  ·exact hT c h
 have hn : Γ.h.next <= Γ2.h.next := F.next
 have keep : ∀ {c}, c < Γ.h.next -> ¬ X c -> Γ2.h.get c = Γ.h.get c := fun {c} h1 h2 => F.keep c h1 (fun h => h2 (inX (.inl h))) (fun h => h2 (inX (.inr h)))
 let X' : Nat -> Prop := fun c => Owns Γ2 hp2 c \/ X2 c \/ Two Γs c
 let Γ' : Ctx := ⟨Γ.nw, Γ.σ, Γ2.D, Γ2.h⟩
 have xnew : ∀ c, X' c -> X c \/ Γ.h.next <= c := fun c h => by
  rcases h with h | h | h
  ·rcases F.onew c h with h | h
   ·exact .inl (inX (.inl h))
   ·exact .inr h
  ·rcases F.xnew c (.inl h) with h | h
   ·exact .inl (inX (.inr h))
   ·exact .inr h
  ·exact .inl (inX (.inr (.inr h)))
 have dnew : ∀ c, Γ2.D c -> Γ.D c \/ X c \/ Γ.h.next <= c := fun c h => by
  rcases F.dnew c h with h | (h | h) | h
  ·exact .inl h
  ·exact .inr (.inl (inX (.inl h)))
  ·exact .inr (.inl (inX (.inr h)))
  ·exact .inr (.inr h)
 have le : Γ.Le Γ' := ⟨Nat.le_refl _, fun _ _ => rfl, F.dsub, fun c hc => qrq (keep (s.dlt c hc) (s.dX c hc))⟩
 have two : ∀ c, Two Γs c -> Γs.h.next <= c /\ c < Γs.h.next + 2 := fun c h => by rcases h with rfl | rfl <;> omega
 have fc2 : FrmC N0 Γs hps Xs Γ2.σ hp2 X2 := FrmC.step (Γ := ⟨nwc, σ, Γ.D, Γ.h⟩) fc (by show Γs.h.next <= Γ.h.next; omega) (fun c h => (two c h).1) F
 have hfr' : FRel ⟨N0, Γ2.σ, Γ2.D, Γ2.h⟩ fr frv := FRel.le (Γ := ⟨N0, σ, Dc, Γ.h⟩) ⟨Nat.le_refl _, fun b hb => F.sig b hb, fun c hc => F.dsub c (hDc c hc), fun c hc => qrq (keep (s.dlt c (hDc c hc)) (s.dX c (hDc c hc)))⟩ hfr
 refine ⟨Γ', X', rfl, rfl, le, ⟨s2.wf, fun b ty w hb => ?_, s.inj, s.nd, fun c hd hx => ?_, fun c hx => ?_, s2.dlt, ?_, s.gl.mono le⟩, ⟨fun _ _ => rfl, fun h => h, hn, fun c h1 _ h3 => keep h1 h3, F.dsub, fun c h => ?_, fun _ x _ h => ⟨x, h⟩, fun b x hb h => .inr ⟨b, x, hb, h, rfl⟩, xnew, fun k h1 h2 h3 => F.wmin k h1 h2 fun c hc => h3 c (.inr (inX hc))⟩⟩
 ·obtain ⟨q1, q2, q3, u, q4, q5⟩ := s.own b ty w hb
  have lt := s.own_lt hb
  refine ⟨q1, fun hd => ?_, fun hx => ?_, u, (keep lt q3).trans q4, q5.mono le⟩
  ·rcases dnew _ hd with h | h | h
   ·exact q2 h
   ·exact q3 h
   ·have h : Γ.h.next <= Γ.σ b := h
    omega
  ·rcases xnew _ hx with h | h
   ·exact q3 h
   ·have h : Γ.h.next <= Γ.σ b := h
    omega
 ·rcases hx with ⟨b, x, h1, rfl⟩ | hx | hx
  ·exact (s2.own b x.1 x.2 h1).2.1 hd
  ·exact s2.dX c hd hx
  ·exact (hne c hx).2.2 hd
 ·rcases hx with ⟨b, x, h1, rfl⟩ | hx | hx
  ·exact s2.own_lt h1
  ·exact s2.xlt c hx
  ·have := two c hx
   show c < Γ2.h.next
   omega
 ·exact ⟨Γ2.σ, Γ2.D, X2, hL, hd, fun c h => .inr (.inr h), fun _ h => h, s2.n, hfr', hN, fun c h => by
   rcases h with h | h
   ·exact .inl h
   ·exact .inr (.inl h), fun c h => ⟨(hne c h).1, (hne c h).2.1⟩, fc2, by show _ <= Γ2.h.next; omega⟩
 ·rcases dnew c h with h | h | h
  ·exact .inl h
  ·exact .inr (.inl (.inr h))
  ·exact .inr (.inr h)
def ZNq : Exit -> Option Code
 | .ret => some .ret
 | .exit id => some (.exit id)
 | .goto l => some (.goto l)
 | _ => none
def QBod {α : Type} (C : Cfg) (G : Nat -> Option W) (m k0 : Nat) (I : α -> Prop) (H : α -> HpW) (N : α -> Nat) (RR : α -> Res) (fr : FrW) (Q : qyq) : qyq
 | .normal, fr', hp', nw', R' => ∃ a, I a /\ Ent C G m k0 fr' hp' nw' R' [] (H a) (N a) (RR a)
 | .ret, _, hp', nw', R' => Q .ret fr hp' nw' R'
 | .exit id, _, hp', nw', R' => Q (.exit id) fr hp' nw' R'
 | .goto l, _, hp', nw', R' => Q (.goto l) fr hp' nw' R'
 | _, _, _, _, _ => False
def QAsg (C : Cfg) (G : Nat -> Option W) (m k0 : Nat) (bd : Code) (Q : qyq) : qyq := fun x fr hp nw R => x = .normal /\ CoW C G m k0 true bd fr hp nw R Q
theorem q_asg {m k0 : Nat} {bd : Code} {fr : FrW} {hp : HpW} {nw : Nat} {R : Res} {Q : qyq} (h : CoW C G m k0 true bd fr hp nw R Q) : QAsg C G m k0 bd Q .normal fr hp nw R := ⟨rfl, h⟩
theorem q_round {α : Type} {m k0 : Nat} {I : α -> Prop} {H : α -> HpW} {N : α -> Nat} {RR : α -> Res} {fr fr' : FrW} {hp : HpW} {nw : Nat} {R : Res} {Q : qyq} (a : α) (ha : I a) (he : Ent C G m k0 fr' hp nw R [] (H a) (N a) (RR a)) : QBod C G m k0 I H N RR fr Q .normal fr' hp nw R := ⟨a, ha, he⟩
theorem q_leave {α : Type} {m k0 : Nat} {I : α -> Prop} {H : α -> HpW} {N : α -> Nat} {RR : α -> Res} {fr fr' : FrW} {hp : HpW} {nw : Nat} {R : Res} {Q : qyq} {x : Exit} (hx : ZNq x ≠ none) (h : Q x fr hp nw R) : QBod C G m k0 I H N RR fr Q x fr' hp nw R := by
 cases x <;> first | exact h | exact absurd rfl hx
theorem Qoq {m : Nat} {Γs Γa Γb : Ctx} {hpa hpb : HpW} {Xa Xb : Nat -> Prop} (f : Frm m Γa hpa Xa Γb hpb Xb) (h : ∀ c, Two Γs c -> c < Γa.h.next /\ ¬ Owns Γa hpa c /\ ¬ Xa c /\ ¬ Γa.D c) :
  (∀ c, Two Γs c -> c < Γb.h.next /\ ¬ Owns Γb hpb c /\ ¬ Xb c /\ ¬ Γb.D c) /\ ∀ c, Two Γs c -> Γb.h.get c = Γa.h.get c := by
 refine ⟨fun c hc => ?_, fun c hc => ?_⟩
 ·obtain ⟨h1, h2, h3, h4⟩ := h c hc
  refine ⟨Nat.lt_of_lt_of_le h1 f.next, fun ho => ?_, fun hx => ?_, fun hd => ?_⟩
  ·rcases f.onew c ho with h | h
   ·exact h2 h
   ·omega
  ·rcases f.xnew c hx with h | h
   ·exact h3 h
   ·omega
  ·rcases f.dnew c hd with h | (h | h) | h
   ·exact h4 h
   ·exact h2 h
   ·exact h3 h
   ·omega
 ·obtain ⟨h1, h2, h3, h4⟩ := h c hc
  exact f.keep c h1 h2 h3
theorem round_ok {α : Type} {N0 k0 : Nat} {Γs : Ctx} {hps : HpW} {Xs : Nat -> Prop} {frv : Tr V} {ps : Array Tmp} {asg bd : Code} {fr : FrW} {I : α -> Prop} {H : α -> HpW} {N : α -> Nat} {RR : α -> Res} {Q : qyq} {hp : HpW} {nw : Nat} {R : Res} {x : List W} (hk0 : k0 <= Γs.h.next)
  (hx : purL x = true) (hlen : x.length = ps.size) (hb : CoW C G N0 k0 true asg (setPW fr ps.toList x) hp nw R (QAsg C G N0 k0 bd (QBod C G N0 k0 I H N RR fr Q))) :
  YieldOK C G (Γs.h.next + 1) (xkq C G N0 Γs hps Xs frv ps asg bd fr .ready none hp nw R) x fun b R' => match b with
   | true => ∃ a, I a /\ R' = xkq C G N0 Γs hps Xs frv ps asg bd fr .ready none (H a) (N a) (RR a)
   | false => ∃ e pend hp' nw' R'', ZNq e = some pend /\ Q e fr hp' nw' R'' /\ R' = xkq C G N0 Γs hps Xs frv ps asg bd fr .done (some pend) hp' nw' R'' := by
 intro Γ hpe X vs s hv
 obtain ⟨σ, Dc, Xc, gL, gd, hT, hDc, sn, hfr, hN, hX, hne, fc, hsn⟩ := s.res
 let Γc : Ctx := ⟨nw, σ, Γ.D, Γ.h⟩
 have sc : SatH C G Γc hp Xc R := (sn.later (D' := Γ.D) (h' := Γ.h) hDc (fun _ _ => rfl) (Nat.le_refl _) hX (fun _ _ => rfl) s.dX s.dlt).h s.wf
 have hvc : RVL Γc x vs := RVL_pur (Γ := Γ) (Γ' := Γc) (fun _ h => h) (fun _ _ => rfl) hx hv
 have hfc : FRel Γc fr frv := FRel.le (Γ := ⟨N0, σ, Dc, Γ.h⟩) ⟨hN, fun _ _ => rfl, hDc, fun _ _ => rfl⟩ hfr
 have two : ∀ c, Two Γs c -> Γs.h.next <= c /\ c < Γs.h.next + 2 := fun c h => by rcases h with rfl | rfl <;> omega
 have t0 : ∀ c, Two Γs c -> c < Γc.h.next /\ ¬ Owns Γc hp c /\ ¬ Xc c /\ ¬ Γc.D c := fun c h => ⟨by have := two c h; show c < Γ.h.next; omega, (hne c h).1, (hne c h).2, fun hd => s.dX c hd (hT c h)⟩
 obtain ⟨n1, x1, st1, Γ1, X1, fr1, hp1, R1, g1, s1, f1, r1, rfl, hbd⟩ := hb Γc Xc ⟨Quq frv ps.toList vs, Γ.h, [], true⟩ rfl hN (by show k0 <= Γ.h.next; omega) rfl ⟨rfl, setP_rel hfc hvc, sc, by simp, List.nodup_nil⟩
 obtain ⟨t1, k1⟩ := Qoq f1 t0
 have gL1 : st1.h.get (Γs.h.next + 1) = some (.loop .ready none frv ps asg bd Γs.h.next) := by rw [s1.hh, k1 _ (.inl rfl)]; exact gL
 have gd1 : Γ1.h.get Γs.h.next = some (.dfr false) := by rw [k1 _ (.inr rfl)]; exact gd
 obtain ⟨le1, sb⟩ := put_other (B := .loop .busy none frv ps asg bd Γs.h.next) s1.sat (t1 _ (.inl rfl)).1 (t1 _ (.inl rfl)).2.1 (t1 _ (.inl rfl)).2.2.1 (t1 _ (.inl rfl)).2.2.2
 let Γb : Ctx := { Γ1 with h := Γ1.h.put (Γs.h.next + 1) (.loop .busy none frv ps asg bd Γs.h.next) }
 have ds1 : ∀ d ∈ st1.ds, k0 <= d /\ d < Γb.h.next /\ Γb.h.get d = some (.dfr false) /\ ¬ Owns Γb hp1 d /\ ¬ X1 d /\ ¬ Γb.D d := fun d hd => by
  obtain ⟨q1, q2, q3, q4, q5, q6⟩ := s1.ds d hd
  refine ⟨q1, q2, ?_, q4, q5, q6⟩
  show (Γ1.h.put _ _).get d = _
  have hne : d ≠ Γs.h.next + 1 := fun e => by rw [e, <- s1.hh, gL1] at q3; cases q3
  rw [Heap.get_put, if_neg hne]
  exact q3
 have tb : ∀ c, Two Γs c -> c < Γb.h.next /\ ¬ Owns Γb hp1 c /\ ¬ X1 c /\ ¬ Γb.D c := t1
 obtain ⟨n2, x2, st2, Γ2, X2, fr2, hp2, R2, g2, s2, f2, r2, q⟩ := hbd Γb X1 ⟨st1.fr, st1.h.put (Γs.h.next + 1) (.loop .busy none frv ps asg bd Γs.h.next), st1.ds, st1.rd⟩ rfl (f1.mle hN) (by have := f1.next; have : Γ.h.next <= Γ1.h.next := this; show k0 <= Γ1.h.next; omega) r1
  ⟨by rw [s1.hh], s1.fr.mono le1, sb, ds1, s1.nd⟩
 obtain ⟨t2, k2⟩ := Qoq f2 tb
 have gL2 : st2.h.get (Γs.h.next + 1) = some (.loop .busy none frv ps asg bd Γs.h.next) := by
  rw [s2.hh, k2 _ (.inl rfl)]
  show (Γ1.h.put _ _).get _ = _
  rw [Heap.get_put, if_pos rfl]
 have gd2 : Γ2.h.get Γs.h.next = some (.dfr false) := by
  rw [k2 _ (.inr rfl)]
  show (Γ1.h.put _ _).get _ = _
  rw [Heap.get_put, if_neg (by omega)]; exact gd1
 have F : Frm N0 Γc hp (fun c => Xc c \/ Two Γs c) Γ2 hp2 (fun c => X2 c \/ Two Γs c) := (f1.more (Two Γs)).trans ((put_frm (.inl rfl)).trans (f2.more (Two Γs)))
 have key : ∀ {Γe : Ctx} {hpe2 : HpW} {Xe : Nat -> Prop} {Re : Res} (ls : LoopState) (pend : Option Code), SatH C G Γe hpe2 Xe Re -> Frm N0 Γc hp (fun c => Xc c \/ Two Γs c) Γe hpe2 (fun c => Xe c \/ Two Γs c) -> N0 <= Γe.nw -> (∀ c, Two Γs c -> c < Γe.h.next /\ ¬ Owns Γe hpe2 c /\ ¬ Xe c /\ ¬ Γe.D c) -> Γe.h.get Γs.h.next = some (.dfr false) ->
   ∃ Γ' X', Γ'.h = Γe.h.put (Γs.h.next + 1) (.loop ls pend frv ps asg bd Γs.h.next) /\ Γ'.nw = Γ.nw /\ Γ.Le Γ' /\ SatH C G Γ' hpe X' (xkq C G N0 Γs hps Xs frv ps asg bd fr ls pend hpe2 Γe.nw Re) /\ Frm Γ.nw Γ hpe X Γ' hpe X' := fun {Γe hpe2 Xe Re} ls pend se Fe hNe te gde => by
  obtain ⟨le2, sf⟩ := put_other (B := .loop ls pend frv ps asg bd Γs.h.next) se (te _ (.inl rfl)).1 (te _ (.inl rfl)).2.1 (te _ (.inl rfl)).2.2.1 (te _ (.inl rfl)).2.2.2
  exact round_close (Γ2 := { Γe with h := Γe.h.put (Γs.h.next + 1) (.loop ls pend frv ps asg bd Γs.h.next) }) s hX hT hDc hfr fc hsn (Fe.trans (put_frm (.inl rfl))) sf hNe (by rw [Heap.get_put, if_pos rfl]) (by rw [Heap.get_put, if_neg (by omega)]; exact gde) (fun c h => (te c h).2)
 have l1 := j1q C (Nat.le_max_left n1 n2)
 have l2 := j1q C (Nat.le_max_right n1 n2)
 have e1 : zmq ⟨qDq C (max n1 n2), z7q C (max n1 n2)⟩ ⟨yzq C (max n1 n2), ygq C (max n1 n2)⟩ C asg ⟨Quq frv ps.toList vs, Γ.h, [], true⟩ = some (.normal, st1) := yoq l1.1 l1.2 asg g1
 have e2 : zmq ⟨qDq C (max n1 n2), z7q C (max n1 n2)⟩ ⟨yzq C (max n1 n2), ygq C (max n1 n2)⟩ C bd ⟨st1.fr, st1.h.put (Γs.h.next + 1) (.loop .busy none frv ps asg bd Γs.h.next), st1.ds, st1.rd⟩ = some (x2, st2) := yoq l2.1 l2.2 bd g2
 have hlv : Nat.beq vs.length ps.size = true := by rw [Yzq hv, hlen]; simp
 have hN2 : N0 <= Γ2.nw := f2.mle (f1.mle hN)
 have leave : ∀ (e : Exit) (pend : Code), x2 = e -> ZNq e = some pend -> Q e fr hp2 Γ2.nw R2 -> z7q C (max n1 n2 + 1) (Γs.h.next + 1) vs Γ.h = some (.bool false, st2.h.put (Γs.h.next + 1) (.loop .done (some pend) frv ps asg bd Γs.h.next)) ->
   ∃ b R' n Γ' X', (match b with
    | true => ∃ a, I a /\ R' = xkq C G N0 Γs hps Xs frv ps asg bd fr .ready none (H a) (N a) (RR a)
    | false => ∃ e pend hp' nw' R'', ZNq e = some pend /\ Q e fr hp' nw' R'' /\ R' = xkq C G N0 Γs hps Xs frv ps asg bd fr .done (some pend) hp' nw' R'') /\ z7q C n (Γs.h.next + 1) vs Γ.h = some (.bool b, Γ'.h) /\ Γ'.nw = Γ.nw /\ Γ.Le Γ' /\ SatH C G Γ' hpe X' R' /\ Frm Γ.nw Γ hpe X Γ' hpe X' := fun e pend _ hp hq hr => by
  obtain ⟨Γ', X', h1, h2, h3, h4, h5⟩ := key .done (some pend) s2.sat F hN2 t2 gd2
  exact ⟨false, _, max n1 n2 + 1, Γ', X', ⟨e, pend, hp2, Γ2.nw, R2, hp, hq, rfl⟩, by rw [h1, <- s2.hh]; exact hr, h2, h3, h4, h5⟩
 cases x2 with
 | normal =>
  obtain ⟨a, ha, he⟩ := q
  obtain ⟨Γ3, X3, hn3, s3, f3⟩ := he Γ2 X2 st2 rfl hN2 s2
  obtain ⟨t3, k3⟩ := Qoq f3 t2
  obtain ⟨Γ', X', h1, h2, h3, h4, h5⟩ := key .ready none s3.sat (F.trans (f3.more (Two Γs))) (f3.mle hN2) t3 (by rw [k3 _ (.inr rfl)]; exact gd2)
  refine ⟨true, _, max n1 n2 + 1, Γ', X', ⟨a, ha, rfl⟩, ?_, h2, h3, hn3 ▸ h4, h5⟩
  rw [h1, <- s3.hh]
  simp only [z7q, gL, hlv, e1, gL1, e2, gL2]
 | ret => exact leave .ret _ Y Y q (by simp only [z7q, gL, hlv, e1, gL1, e2, gL2])
 | exit id => exact leave (.exit id) _ Y Y q (by simp only [z7q, gL, hlv, e1, gL1, e2, gL2])
 | goto l => exact leave (.goto l) _ Y Y q (by simp only [z7q, gL, hlv, e1, gL1, e2, gL2])
 | panic p => exact q.elim
 | outgrown => exact q.elim
theorem YieldOK.mono {L : Nat} {R : Res} {ws : List W} {P P' : Bool -> Res -> Prop} (h : ∀ b R, P b R -> P' b R) (hy : YieldOK C G L R ws P) : YieldOK C G L R ws P' := fun Γ hp X vs s hv => by
 obtain ⟨b, R', n, Γ', X', g1, g2⟩ := hy Γ hp X vs s hv
 exact ⟨b, R', n, Γ', X', h _ _ g1, g2⟩
theorem kill_other {Γ : Ctx} {hp : HpW} {X : Nat -> Prop} {R : Res} (s : SatH C G Γ hp X R) {L : Nat} (h1 : ¬ Owns Γ hp L) (h2 : ¬ X L) (h3 : ¬ Γ.D L) :
  Γ.Le { Γ with h := Γ.h.kill L } /\ SatH C G { Γ with h := Γ.h.kill L } hp X R := by
 have ne : ∀ {c}, c ≠ L -> (Γ.h.kill L).get c = Γ.h.get c := fun {c} h => by rw [Heap.get_kill, if_neg h]
 have le : Γ.Le { Γ with h := Γ.h.kill L } := ⟨Nat.le_refl _, fun _ _ => rfl, fun _ h => h, fun c hc => qrq (ne fun e => h3 (e ▸ hc))⟩
 refine ⟨le, fun i hi => ?_, fun b ty w hb => ?_, s.inj, s.nd, s.dX, s.xlt, s.dlt, R.st _ _ _ _ _ s.res le.D le.val (fun c hc => ne fun e => h2 (e ▸ hc)) (Nat.le_refl _), s.gl.mono le⟩
 ·have hi : Γ.h.next <= i := hi
  show (Γ.h.kill L).get i = none
  rw [Heap.get_kill]
  split
  ·rfl
  ·exact s.wf i hi
 ·obtain ⟨q1, q2, q3, u, q4, q5⟩ := s.own b ty w hb
  exact ⟨q1, q2, q3, u, (ne fun e => h1 ⟨b, _, hb, e⟩).trans q4, q5.mono le⟩
theorem range_end {N0 m k0 : Nat} {Γs : Ctx} {hps : HpW} {Xs : Nat -> Prop} {Rs : Res} {st : St} {ps : Array Tmp} {asg bd : Code} {fr : FrW} {ls : LoopState} {pend : Option Code} {hp' : HpW} {nw' : Nat} {R' : Res} {Γ1 : Ctx} {hp1 : HpW} {X1 : Nat -> Prop} {h2 : Heap} (hm : m <= N0) (hN0 : N0 = Γs.nw) (hk0 : k0 <= Γs.h.next)
  (ss : SatS C G k0 Γs hps Xs Rs fr st) (hh2 : h2.next = Γs.h.next + 2) (hw2 : h2.wmin = Γs.h.wmin) (hg2 : ∀ c, c < Γs.h.next -> h2.get c = Γs.h.get c)
  (s1 : SatH C G Γ1 hp1 X1 (xkq C G N0 Γs hps Xs st.fr ps asg bd fr ls pend hp' nw' R')) (f1 : Frm 0 ⟨0, Γs.σ, Γs.D, h2⟩ [] (fun c => Owns Γs hps c \/ Xs c \/ Two Γs c) Γ1 hp1 X1) :
  Γ1.h.get (Γs.h.next + 1) = some (.loop ls pend st.fr ps asg bd Γs.h.next) /\ ∃ Γf Xf, Γf.nw = nw' /\ SatS C G k0 Γf hp' Xf R' fr ⟨st.fr, Γ1.h.kill (Γs.h.next + 1), Γs.h.next :: st.ds, st.rd⟩ /\ Frm m Γs hps Xs Γf hp' Xf := by
 obtain ⟨σ, Dc, Xc, gL, gd, hT, hDc, sn, hfr, hN, hX, hne, fc, hsn⟩ := s1.res
 refine ⟨gL, ?_⟩
 have two : ∀ c, Two Γs c -> Γs.h.next <= c /\ c < Γs.h.next + 2 := fun c h => by rcases h with rfl | rfl <;> omega
 have tl : Two Γs (Γs.h.next + 1) := .inl rfl
 have td : Two Γs Γs.h.next := .inr rfl
 let Γm : Ctx := ⟨nw', σ, Γ1.D, Γ1.h⟩
 have sm : SatH C G Γm hp' Xc R' := (sn.later (D' := Γ1.D) (h' := Γ1.h) hDc (fun _ _ => rfl) (Nat.le_refl _) hX (fun _ _ => rfl) s1.dX s1.dlt).h s1.wf
 obtain ⟨le, sf⟩ := kill_other (L := Γs.h.next + 1) sm (hne _ tl).1 (hne _ tl).2 (fun hd => s1.dX _ hd (hT _ tl))
 have keep : ∀ {c}, c < Γs.h.next -> ¬ Owns Γs hps c -> ¬ Xs c -> Γ1.h.get c = Γs.h.get c := fun {c} h1 h2' h3 => by
  rw [<- hg2 c h1]
  refine f1.keep c (by show c < h2.next; omega) (fun ho => ?_) (fun hx => ?_)
  ·obtain ⟨b, x, h, _⟩ := ho
   simp [hget] at h
  ·rcases hx with h | h | h
   ·exact h2' h
   ·exact h3 h
   ·have := two c h; omega
 have keepK : ∀ {c}, c < Γs.h.next -> ¬ Owns Γs hps c -> ¬ Xs c -> (Γ1.h.kill (Γs.h.next + 1)).get c = Γs.h.get c := fun {c} h1 h2' h3 => by
  rw [Heap.get_kill, if_neg (by omega)]; exact keep h1 h2' h3
 have hn1 : h2.next <= Γ1.h.next := f1.next
 have dnew : ∀ c, Γ1.D c -> Γs.D c \/ (Owns Γs hps c \/ Xs c) \/ Γs.h.next <= c := fun c h => by
  rcases f1.dnew c h with h | (⟨b, x, h, _⟩ | h) | h
  ·exact .inl h
  ·simp [hget] at h
  ·rcases h with h | h | h
   ·exact .inr (.inl (.inl h))
   ·exact .inr (.inl (.inr h))
   ·exact .inr (.inr (two c h).1)
  ·have h : h2.next <= c := h
   exact .inr (.inr (by omega))
 let Γf : Ctx := ⟨nw', σ, Γ1.D, Γ1.h.kill (Γs.h.next + 1)⟩
 have ownf : ∀ c, Owns Γf hp' c -> Owns Γs hps c \/ Γs.h.next <= c := fun c h => fc.own (Γ := Γf) h
 have F : Frm N0 Γs hps Xs Γf hp' Xc := ⟨fc.sig, fun _ => hN, by show Γs.h.next <= Γ1.h.next; omega, fun c h1 h2 h3 => keepK h1 h2 h3, fun c h => f1.dsub c h, dnew, fc.oext, fc.onum, fc.xnew, fun k a1 a2 a3 => by
  refine wmn_le (f1.wmin k (by show k <= h2.wmin; omega) (by show k <= h2.next; omega) fun c hc => ?_) (by omega)
  rcases hc with ⟨b, x, h, _⟩ | h | h | h
  ·simp [hget] at h
  ·exact a3 c (.inl h)
  ·exact a3 c (.inr h)
  ·have := two c h; omega⟩
 refine ⟨Γf, Xc, rfl, ⟨rfl, ?_, sf, fun d hd => ?_, ?_⟩, F.le hm (by omega)⟩
 ·exact FRel.le (Γ := ⟨N0, σ, Dc, Γ1.h⟩) ⟨hN, fun _ _ => rfl, hDc, fun c hc => le.val c (hDc c hc)⟩ hfr
 ·rcases List.mem_cons.1 hd with rfl | hd
  ·refine ⟨hk0, ?_, ?_, (hne _ td).1, (hne _ td).2, fun hd => s1.dX _ hd (hT _ td)⟩
   ·show Γs.h.next < Γ1.h.next; omega
   ·show (Γ1.h.kill _).get _ = _
    rw [Heap.get_kill, if_neg (by omega)]; exact gd
  ·obtain ⟨q1, q2, q3, q4, q5, q6⟩ := ss.ds d hd
   refine ⟨q1, ?_, (keepK q2 q4 q5).trans q3, fun h => ?_, fun h => ?_, fun h => ?_⟩
   ·show d < Γ1.h.next; omega
   ·rcases ownf d h with h | h
    ·exact q4 h
    ·omega
   ·rcases fc.xnew d h with h | h
    ·exact q5 h
    ·omega
   ·rcases dnew d h with h | (h | h) | h
    ·exact q6 h
    ·exact q4 h
    ·exact q5 h
    ·omega
 ·refine List.nodup_cons.2 ⟨fun h => ?_, ss.nd⟩
  have := (ss.ds _ h).2.1
  omega
theorem Q6q {α : Type} {m k0 : Nat} {g : Operand} {ps : Array Tmp} {asg bd : Code} {gf : FuncId} {c : List W} {l : List (List W)} {fr : FrW} {hp : HpW} {nw : Nat} {R : Res} {Q : qyq} (I : Nat -> α -> Prop) (H : α -> HpW) (N : α -> Nat) (RR : α -> Res) (a0 : α)
  (hg : evW C G fr g = some (.fn gf [] c)) (hpu : purL c = true) (it : jjq C G gf c l) (hl : ∀ x ∈ l, purL x = true /\ x.length = ps.size) (h0 : I 0 a0) (e0 : hp = H a0) (n0 : nw = N a0) (r0 : R = RR a0)
  (round : ∀ i a x, l[i]? = some x -> I i a -> CoW C G nw k0 true asg (setPW fr ps.toList x) (H a) (N a) (RR a) (QAsg C G nw k0 bd (QBod C G nw k0 (I (i + 1)) H N RR fr Q)))
  (done : ∀ a, I l.length a -> Q .normal fr (H a) (N a) (RR a)) : CoW C G m k0 false (.rangeFunc g ps asg bd) fr hp nw R Q := fun Γs Xs st hnw hm hk0 hrd ss => by
 obtain ⟨u, e1, e2⟩ := z6q ss.fr ss.sat.gl hg
 obtain ⟨a', c', rfl, e3, e4⟩ := RV_fn.1 e2
 rw [RVL_nil] at e3; subst e3
 have hh : st.h = Γs.h := ss.hh
 have two : ∀ c, Two Γs c -> Γs.h.next <= c /\ c < Γs.h.next + 2 := fun c h => by rcases h with rfl | rfl <;> omega
 let h2 : Heap := (Γs.h.push (.dfr false)).push (.loop .ready none st.fr ps asg bd Γs.h.next)
 have n2 : h2.next = Γs.h.next + 2 := rfl
 have g2 : ∀ c, c < Γs.h.next -> h2.get c = Γs.h.get c := fun c hc => by
  show ((Γs.h.push _).push _).get c = _
  rw [Heap.get_push, if_neg (by show c ≠ Γs.h.next + 1; omega), Heap.get_push, if_neg (by omega)]
 have gL : h2.get (Γs.h.next + 1) = some (.loop .ready none st.fr ps asg bd Γs.h.next) := by
  show ((Γs.h.push _).push _).get _ = _
  rw [Heap.get_push]; exact if_pos rfl
 have gd : h2.get Γs.h.next = some (.dfr false) := by
  show ((Γs.h.push _).push _).get _ = _
  rw [Heap.get_push, if_neg (by show Γs.h.next ≠ Γs.h.next + 1; omega), Heap.get_push, if_pos rfl]
 have le2 : Γs.Le ⟨Γs.nw, Γs.σ, Γs.D, h2⟩ := ⟨Nat.le_refl _, fun _ _ => rfl, fun _ h => h, fun c hc => qrq (g2 c (ss.sat.dlt c hc))⟩
 let X0 : Nat -> Prop := fun c => Owns Γs hp c \/ Xs c \/ Two Γs c
 let R0 : Res := xkq C G nw Γs hp Xs st.fr ps asg bd fr .ready none (H a0) (N a0) (RR a0)
 have sn : SatN C G ⟨Γs.nw, Γs.σ, Γs.D, h2⟩ hp Xs R := ⟨fun b ty w hb => by
  obtain ⟨q1, q2, q3, v, q4, q5⟩ := ss.sat.own b ty w hb
  have lt := ss.sat.own_lt hb
  exact ⟨q1, q2, q3, by show Γs.σ b < h2.next; omega, v, (g2 _ lt).trans q4, q5.mono le2⟩, ss.sat.inj, ss.sat.nd, ss.sat.dX, fun c hc => by have := ss.sat.xlt c hc; show c < h2.next; omega, fun c hc => by have := ss.sat.dlt c hc; show c < h2.next; omega,
  R.st _ _ _ _ _ ss.sat.res le2.D le2.val (fun c hc => g2 c (ss.sat.xlt c hc)) (by show Γs.h.next <= h2.next; omega), ss.sat.gl.mono le2⟩
 have s0 : SatH C G ⟨0, Γs.σ, Γs.D, h2⟩ [] X0 R0 := by
  refine ⟨fun i hi => ?_, fun b ty w h => by simp [hget] at h, fun b b' x y h => by simp [hget] at h, List.nodup_nil, fun c hd hx => ?_, fun c hx => ?_, fun c hd => by have := ss.sat.dlt c hd; show c < h2.next; omega, ?_, (show GRel C G ⟨Γs.nw, Γs.σ, Γs.D, h2⟩ from ss.sat.gl.mono le2)⟩
  ·have hi : h2.next <= i := hi
   show ((Γs.h.push _).push _).get i = none
   rw [Heap.get_push, if_neg (by show i ≠ Γs.h.next + 1; omega), Heap.get_push, if_neg (by omega)]
   exact ss.sat.wf i (by omega)
  ·rcases hx with ⟨b, x, h1, rfl⟩ | h | h
   ·exact (ss.sat.own b x.1 x.2 h1).2.1 hd
   ·exact ss.sat.dX c hd h
   ·have := two c h
    have := ss.sat.dlt c hd
    omega
  ·show c < h2.next
   rcases hx with ⟨b, x, h1, rfl⟩ | h | h
   ·have := ss.sat.own_lt h1; omega
   ·have := ss.sat.xlt c h; omega
   ·have := two c h; omega
  ·refine ⟨Γs.σ, Γs.D, Xs, gL, gd, fun c h => .inr (.inr h), fun _ h => h, ?_, ?_, by omega, fun c h => ?_, fun c h => ⟨fun ho => ?_, fun hx => ?_⟩, ?_, by show _ <= h2.next; omega⟩
   ·rw [<- e0, <- n0, <- r0, <- hnw]; exact sn
   ·rw [<- hnw]; exact ss.fr.mono le2
   ·rw [<- e0] at h
    rcases h with h | h
    ·exact .inl h
    ·exact .inr (.inl h)
   ·rw [<- e0] at ho
    obtain ⟨b, x, h1, h3⟩ := ho
    have := ss.sat.own_lt h1
    have := two c h
    have h3 : Γs.σ b = c := h3
    omega
   ·have := ss.sat.xlt c hx
    have := two c h
    omega
   ·rw [<- e0]
    exact ⟨fun _ _ => rfl, fun b x _ h => ⟨x, h⟩, fun b x hb h => .inr ⟨b, x, hb, h, rfl⟩, fun _ h => .inl h⟩
 let E : Res -> Prop := fun R' => (∃ a, I l.length a /\ R' = xkq C G nw Γs hp Xs st.fr ps asg bd fr .ready none (H a) (N a) (RR a)) \/ ∃ e pend hp' nw' R'', ZNq e = some pend /\ Q e fr hp' nw' R'' /\ R' = xkq C G nw Γs hp Xs st.fr ps asg bd fr .done (some pend) hp' nw' R''
 have yl : ∀ (r : List (List W)) (i : Nat) (a : α), i <= l.length -> l.drop i = r -> I i a -> Yl C G (Γs.h.next + 1) E r (xkq C G nw Γs hp Xs st.fr ps asg bd fr .ready none (H a) (N a) (RR a)) := by
  intro r
  induction r with
  | nil =>
   intro i a hi hd ha
   have : i = l.length := by have := List.drop_eq_nil_iff.1 hd; omega
   subst this
   exact .inl ⟨a, ha, rfl⟩
  | cons x r ih =>
   intro i a hi hd ha
   have hx : l[i]? = some x := by
    have := congrArg (fun z => z[0]?) hd
    simpa using this
   have hlt : i < l.length := (List.getElem?_eq_some_iff.1 hx).1
   have hd' : l.drop (i + 1) = r := by
    have := congrArg (fun z => z.drop 1) hd
    simpa [Nat.add_comm] using this
   refine YieldOK.mono (fun b R' h => ?_) (round_ok hk0 (hl x (List.mem_of_getElem? hx)).1 (hl x (List.mem_of_getElem? hx)).2 (round i a x hx ha))
   cases b with
   | true =>
    obtain ⟨a', h1, rfl⟩ := h
    exact ih (i + 1) a' hlt hd' h1
   | false =>
    obtain ⟨e, pend, hp', nw', R'', h1, h2, h3⟩ := h
    exact .inr ⟨e, pend, hp', nw', R'', h1, h2, h3⟩
 have hv : RVL ⟨0, Γs.σ, Γs.D, h2⟩ (.yield (Γs.h.next + 1) :: c) (.yield (Γs.h.next + 1) :: c') := by
  refine RVL_cons.2 ⟨_, _, rfl, RV_yield.2 rfl, ?_⟩
  exact RVL_pur (Γ := Γs) (Γ' := ⟨0, Γs.σ, Γs.D, h2⟩) (fun _ h => h) le2.val hpu e4
 obtain ⟨n, v, Γ1, X1, w, hp1, R1, r1, s1, f1, _, hE⟩ := it (Γs.h.next + 1) E R0 (yl l 0 a0 (Nat.zero_le _) rfl h0) ⟨0, Γs.σ, Γs.D, h2⟩ X0 _ rfl s0 hv
 have ev : ∀ (y : Exit × St), kiq st Γs.h.next (Γs.h.next + 1) Γ1.h = some y -> zmq (Sn C n) (Fl C n) C (.rangeFunc g ps asg bd) st = some y := fun y hy => by
  have r1 : (Sn C n).fn gf ([.yield (st.h.next + 1)] ++ c') ((st.h.push (.dfr false)).push (.loop .ready none st.fr ps asg bd st.h.next)) = some (v, Γ1.h) := by rw [hh]; exact r1
  have hy : kiq st st.h.next (st.h.next + 1) Γ1.h = some y := by rw [hh]; exact hy
  simp only [zmq, hrd, e1, r1]
  exact hy
 rcases hE with ⟨a, ha, rfl⟩ | ⟨e, pend, hp', nw', R', hpe, hq, rfl⟩
 ·obtain ⟨gl, Γf, Xf, nf, sf, ff⟩ := range_end (m := m) hm hnw.symm hk0 ss n2 rfl g2 s1 f1
  refine ⟨n, .normal, _, Γf, Xf, fr, _, _, ev _ ?_, sf, ff, hrd, nf ▸ done a ha⟩
  simp only [kiq, gl]
 ·obtain ⟨gl, Γf, Xf, nf, sf, ff⟩ := range_end (m := m) hm hnw.symm hk0 ss n2 rfl g2 s1 f1
  refine ⟨n, e, _, Γf, Xf, fr, _, _, ev _ ?_, sf, ff, hrd, nf ▸ hq⟩
  cases e <;> simp only [ZNq, Option.some.injEq, reduceCtorEq] at hpe <;> subst hpe <;> simp only [kiq, gl]
end
section
theorem ulq {m n : Int} : (!ltI n m) = true ↔ m <= n := by
 have := @ltI_not n m
 cases h : ltI n m <;> simp [h] at this ⊢ <;> omega
theorem umq {m n : Int} : (!eqI m n) = true ↔ ¬ m = n := by
 have := @eqI_iff m n
 cases h : eqI m n <;> simp [h] at this ⊢ <;> exact this
theorem ySq {p : Prop} [Decidable p] : decide p = true ↔ p := by simp
theorem vAq {b : Bool} {p : Prop} (h : b = true ↔ p) : (!b) = true ↔ ¬ p := by
 cases b <;> simp at h ⊢ <;> exact h
theorem xaq {b : Bool} : b = true ↔ b = true := Iff.rfl
section
variable {C : Cfg} {G : Nat -> Option W} {m : Nat} {ops : Array Oper} {l : List Oper} {i : Nat} {es : List (Nat × EvW)} {fr : FrW} {hp : HpW} {nw : Nat} {R : Res} {K : FrW -> HpW -> Nat -> Res -> Prop} {o : Oper}
theorem op_dec {b : Bool} {p : Prop} (hw : qBq ops fr o = some true) (hx : y7q C G fr o.op = some (.bool b)) (hb : b = true ↔ p) (ht : p -> OpW C G m ops l (putW fr o.dst (.bool true)) hp nw R K) (hf : ¬ p -> OpW C G m ops l (putW fr o.dst (.bool false)) hp nw R K) : OpW C G m ops (o :: l) fr hp nw R K := by
 cases b with
 | true => exact zaq hw hx (ht (hb.1 rfl))
 | false => exact zaq hw hx (hf fun h => by have := hb.2 h; cases this)
theorem fl_dec {b : Bool} {p : Prop} (hw : qBq ops fr o = some true) (hx : y7q C G fr o.op = some (.bool b)) (hb : b = true ↔ p) (ht : p -> FlW C G m ops l (i + 1) es (putW fr o.dst (.bool true)) hp nw R K) (hf : ¬ p -> FlW C G m ops l (i + 1) es (putW fr o.dst (.bool false)) hp nw R K) : FlW C G m ops (o :: l) i es fr hp nw R K := by
 cases b with
 | true => exact zcq hw hx (ht (hb.1 rfl))
 | false => exact zcq hw hx (hf fun h => by have := hb.2 h; cases this)
theorem op_bs {b : Bool} {p : Prop} {d : Nat} (hb : b = true ↔ p) (ht : p -> OpW C G m ops l ((d, .bool true) :: fr) hp nw R K) (hf : ¬ p -> OpW C G m ops l ((d, .bool false) :: fr) hp nw R K) : OpW C G m ops l ((d, .bool b) :: fr) hp nw R K := by
 cases b with
 | true => exact ht (hb.1 rfl)
 | false => exact hf fun h => by have := hb.2 h; cases this
theorem fl_bs {b : Bool} {p : Prop} {d : Nat} (hb : b = true ↔ p) (ht : p -> FlW C G m ops l i es ((d, .bool true) :: fr) hp nw R K) (hf : ¬ p -> FlW C G m ops l i es ((d, .bool false) :: fr) hp nw R K) : FlW C G m ops l i es ((d, .bool b) :: fr) hp nw R K := by
 cases b with
 | true => exact ht (hb.1 rfl)
 | false => exact hf fun h => by have := hb.2 h; cases this
theorem kBq {b : Bool} {p : Prop} [Decidable p] (hw : qBq ops fr o = some true) (hx : y7q C G fr o.op = some (.bool b)) (hb : b = true ↔ p) (h : OpW C G m ops l (putW fr o.dst (.bool (decide p))) hp nw R K) : OpW C G m ops (o :: l) fr hp nw R K :=
 zaq hw (by rw [hx]; congr 2; rw [Bool.eq_iff_iff, hb]; simp) h
theorem fl_cmp {b : Bool} {p : Prop} [Decidable p] (hw : qBq ops fr o = some true) (hx : y7q C G fr o.op = some (.bool b)) (hb : b = true ↔ p) (h : FlW C G m ops l (i + 1) es (putW fr o.dst (.bool (decide p))) hp nw R K) : FlW C G m ops (o :: l) i es fr hp nw R K :=
 zcq hw (by rw [hx]; congr 2; rw [Bool.eq_iff_iff, hb]; simp) h
theorem ZOq {n : Nat} (hw : qBq ops fr o = some true) (hx : y7q C G fr o.op = some (.int .i64 (.ofNat n))) (h : OpW C G m ops l (putW fr o.dst (.int .i64 (n : Int))) hp nw R K) : OpW C G m ops (o :: l) fr hp nw R K := zaq hw hx h
theorem qKq {t t' : TypeId} {x y : Operand} {u v : W} {b : Bool} (hx : evW C G fr x = some u) (hy : evW C G fr y = some v) (ha : u.isAgg = true) (hb : v.isAgg = true) (he : eqW C 300 t u v = some b) : y7q C G fr (.binOp .eql t x y t') = some (.bool b) := by
 simp only [y7q, wBin, hx, hy]
 cases u <;> simp [W.isAgg] at ha <;> cases v <;> simp [W.isAgg] at hb <;> simp only [binW, uUq, W.isAgg, Bool.and_self, he]
theorem kuq {t t' : TypeId} {x y : Operand} {u v : W} {b : Bool} (hx : evW C G fr x = some u) (hy : evW C G fr y = some v) (ha : u.isAgg = true) (hb : v.isAgg = true) (he : eqW C 300 t u v = some b) : y7q C G fr (.binOp .neq t x y t') = some (.bool (!b)) := by
 simp only [y7q, wBin, hx, hy]
 cases u <;> simp [W.isAgg] at ha <;> cases v <;> simp [W.isAgg] at hb <;> simp only [binW, uUq, W.isAgg, Bool.and_self, he]
end
theorem ix_str {C : Cfg} {G : Nat -> Option W} {fr : FrW} {t : TypeId} {x y : Operand} {j : TyI} {s : List UInt8} {u : W} {i : Nat} {c : UInt8} (hj : C.ty t = some j) (hd : j.d = .str) (hx : evW C G fr x = some (.str s)) (hy : evW C G fr y = some u) (hn : natW u = some i) (hi : s[i]? = some c) :
  y7q C G fr (.index t x y) = some (.int .u8 (.ofNat c.toNat)) := by
 simp only [y7q, wIndex, hj, hd, hx, hy, hn, hi]
theorem QNq {C : Cfg} {G : Nat -> Option W} {fr : FrW} {hp : HpW} {nw : Nat} {t e : TypeId} {x y : Operand} {j k : TyI} {u v z : W} {l c : Nat} (hj : C.ty t = some j) (hd : j.d = .slice e) (hx : evW C G fr x = some u) (hy : evW C G fr y = some v) (hl : natW u = some l) (hc : natW v = some c) (hk : C.ty e = some k) (h0 : Nat.beq k.size 0 = false) (h1 : l <= c) (h2 : k.bytes * c <= 281474976710656) (h3 : c <= 9223372036854775807) (hz : embW k.zero = some z) (hs : Nat.beq z.size k.size = true) :
  opHW C G fr hp nw (.makeSlice t x y) = some (.sl nw 0 0 l k.size none, (nw, e, .arr (c * k.size) k.size (List.replicate c z)) :: hp, nw + 1, .gen) := by
 have : (Nat.beq k.size 0 || !Nat.ble l c || !Nat.ble (k.bytes * c) 281474976710656 || !Nat.ble c 9223372036854775807) = false := by
  rw [h0, Nat.ble_eq_true_of_le h1, Nat.ble_eq_true_of_le h2, Nat.ble_eq_true_of_le h3]; rfl
 simp only [opHW, hMakeS, hj, hd, hx, hy, hl, hc, hk, this, hz, hs, repW]
theorem qsq {C : Cfg} {hp : HpW} {tx e ty : TypeId} {j : TyI} {esz b base off n : Nat} {lim : Option Nat} {v : W} {l : List W} (hj : C.ty tx = some j) (hd : j.d = .slice e) (hb : hget hp b = some (ty, v)) (hl : y6q 50 v off n esz = some l) : srcW C hp tx esz (.sl b base off n esz lim) = some l := by
 simp only [srcW, hj, hd, show Nat.beq esz esz = true by simp, hb, hl]
theorem hset_same {b : Nat} {x : TypeId × W} : ∀ {hp : HpW}, hget hp b = some x -> hset hp b x = hp
 | [], h => rfl
 | (j, z) :: hp, h => by
  rw [zCq] at h
  simp only [hset]
  split
  ·rename_i e
   rw [Nat.beq_eq] at e
   rw [if_pos e] at h
   cases h; rfl
  ·rename_i e
   have hne : j ≠ b := fun e2 => by subst e2; simp at e
   rw [if_neg hne] at h
   rw [hset_same h]
theorem st_same {C : Cfg} {G : Nat -> Option W} {fr : FrW} {hp : HpW} {nw : Nat} {t : TypeId} {x y : Operand} {b off : Nat} {ti : TyI} {ty : TypeId} {u v : W} (hx : evW C G fr x = some (.ptr b off)) (hy : evW C G fr y = some u) (hi : C.ty t = some ti) (hb : hget hp b = some (ty, v)) (hs : Nat.beq u.size ti.size = true) (hg : qTq 50 v off u = some v) : opHW C G fr hp nw (.store t x y) = some (.undef, hp, nw, .storeO b) :=
 jOq hx hy hi hb hs hg (hset_same hb)
theorem renH_pur1 {τ : Nat -> Nat} {b : Nat} {ty : TypeId} {c : W} (h : purW c = true) : renH τ [(b, ty, c)] = [(τ b, ty, c)] := by simp only [renH, zlq h]
theorem vdq {C : Cfg} {G : Nat -> Option W} {fr : FrW} {t e : TypeId} {x : Operand} {lo hi : Option Operand} {j k : TyI} {xs ys : List W} {esz l h : Nat} {full g : Bool} (hj : C.ty t = some j) (hd : j.d = .slice e) (hx : evW C G fr x = some (.fz xs esz full)) (hk : C.ty e = some k) (hs : Nat.beq k.size esz = true) (hl : bndW C G fr 0 lo = some l) (hh : bndW C G fr xs.length hi = some h) (h1 : l <= h) (h2 : h <= xs.length) (hy : (xs.drop l).take (h - l) = ys) (hg : (full && Nat.beq h xs.length) = g) :
  y7q C G fr (.slice t x lo hi none) = some (.fz ys esz g) := by
 subst hy; subst hg
 have : (Nat.ble l h && Nat.ble h xs.length) = true := by rw [Nat.ble_eq_true_of_le h1, Nat.ble_eq_true_of_le h2]; rfl
 simp only [y7q, Zuq, hj, hd, hx, hk, hs, hl, hh, cutF, this]
theorem cut_fz3 {C : Cfg} {G : Nat -> Option W} {fr : FrW} {t e : TypeId} {x z zm : Operand} {lo : Option Operand} {j k : TyI} {xs ys : List W} {esz l h m : Nat} {full g : Bool} (hj : C.ty t = some j) (hd : j.d = .slice e) (hx : evW C G fr x = some (.fz xs esz full)) (hk : C.ty e = some k) (hs : Nat.beq k.size esz = true) (hl : bndW C G fr 0 lo = some l) (hh : bndW C G fr xs.length (some z) = some h) (hm : bndW C G fr 0 (some zm) = some m) (h1 : l <= h) (h2 : h <= m) (h3 : m <= xs.length) (h4 : 1 <= m) (hy : (xs.drop l).take (h - l) = ys) (hg : Nat.beq h m = g) :
  y7q C G fr (.slice t x lo (some z) (some zm)) = some (.fz ys esz g) := by
 subst hy; subst hg
 have : (Nat.ble l h && Nat.ble h m && Nat.ble m xs.length && Nat.ble 1 m) = true := by rw [Nat.ble_eq_true_of_le h1, Nat.ble_eq_true_of_le h2, Nat.ble_eq_true_of_le h3, Nat.ble_eq_true_of_le h4]; rfl
 simp only [y7q, Zuq, hj, hd, hx, hk, hs, hl, hh, hm, cutF, this]
theorem co_dec {C : Cfg} {G : Nat -> Option W} {m k0 : Nat} {rd : Bool} {fr : FrW} {hp : HpW} {nw : Nat} {R : Res} {Q : qyq} {c : Operand} {x y : Code} {b : Bool} {p : Prop} (hc : evW C G fr c = some (.bool b)) (hb : b = true ↔ p) (ht : p -> CoW C G m k0 rd x fr hp nw R Q) (hf : ¬ p -> CoW C G m k0 rd y fr hp nw R Q) : CoW C G m k0 rd (.cond c x y) fr hp nw R Q :=
 jAq hc (fun h => ht (hb.1 h)) (fun h => hf fun hp => by have := hb.2 hp; rw [h] at this; cases this)
theorem step_nil {C : Cfg} {G : Nat -> Option W} {o : Oper} {fr : FrW} {hp : HpW} {nw : Nat} {R : Res} {post : W -> HpW -> Nat -> Res -> Option EvW -> Prop} {t t' e0 : TypeId} {x y : Operand} {j : TyI} {l : List W} {e : Nat} {f : Bool} (ho : o.op = .binOp .eql t x y t') (hj : C.ty t = some j) (hd : j.d = .slice e0) (hx : evW C G fr x = some (.fz l e f)) (hy : evW C G fr y = some .nils)
  (h : ∀ b, (b = true -> l = []) -> post (.bool b) hp nw R none) : Step C G o fr hp nw R post := fun Γ X frv hnw s hf => by
 subst hnw
 obtain ⟨u, e1, e2⟩ := z6q hf s.gl hx
 obtain ⟨v, e3, e4⟩ := z6q hf s.gl hy
 rw [RV_nils] at e4; subst e4
 have h1 := e2.one rfl
 simp only [RS, List.cons.injEq, and_true] at h1
 rcases h1 with ⟨rfl, rfl⟩ | ⟨b, base, off, lim, bv, rfl, _⟩
 ·have hp' : yvq C frv o.type o.op = some (.bool true) := by
   rw [ho]
   simp only [yvq, yAq, e1, e3, binV, uiq, eqV, hj, hd]
  exact ⟨0, .bool true, hp, R, none, .bool true, Γ.h, Γ, X, h true (fun _ => rfl), by simp only [opV, hp'], ⟨hp', rfl⟩, rfl, Ctx.Le.refl _, s, Frm.refl _ _ _ _, RV_bool.2 rfl⟩
 ·have hp' : yvq C frv o.type o.op = some (.bool false) := by
   rw [ho]
   simp only [yvq, yAq, e1, e3, binV, uiq, eqV, hj, hd]
  exact ⟨0, .bool false, hp, R, none, .bool false, Γ.h, Γ, X, h false (fun h => by cases h), by simp only [opV, hp'], ⟨hp', rfl⟩, rfl, Ctx.Le.refl _, s, Frm.refl _ _ _ _, RV_bool.2 rfl⟩
def PS (C : Cfg) (G : Nat -> Option W) (f : FuncId) (ws : List W) (w : W) : Prop := qkq C G f 0 ws [] fun w' _ _ => w' = w
section
variable {C : Cfg} {G : Nat -> Option W} {m : Nat} {ops : Array Oper} {l : List Oper} {i : Nat} {es : List (Nat × EvW)} {fr : FrW} {hp : HpW} {nw : Nat} {R : Res} {K : FrW -> HpW -> Nat -> Res -> Prop} {o : Oper} {x : Operand} {xs : Array Operand} {ats : Array TypeId} {f : FuncId} {a us c ws : List W} {w : W}
theorem step_ps {post : W -> HpW -> Nat -> Res -> Option EvW -> Prop} (ho : o.op = .call ⟨.value x, xs, ats⟩) (hx : evW C G fr x = some (.fn f a c)) (he : C.ext f = none) (hxs : evLW C G fr xs.toList = some us) (hws : a ++ us ++ c = ws) (sp : PS C G f ws w) (hpw : purL ws = true) (hw : purW w = true) (h : post w hp nw R (some .gen)) : Step C G o fr hp nw R post := by
 subst hws
 exact y8q ho hx he hxs sp hpw fun w' _ _ hq => by subst hq; exact ⟨hw, h⟩
theorem op_ps (hg : qBq ops fr o = some true) (ho : o.op = .call ⟨.value x, xs, ats⟩) (hx : evW C G fr x = some (.fn f a c)) (he : C.ext f = none) (hxs : evLW C G fr xs.toList = some us) (hws : a ++ us ++ c = ws) (sp : PS C G f ws w) (hpw : purL ws = true) (hw : purW w = true) (h : OpW C G m ops l (putW fr o.dst w) hp nw R K) : OpW C G m ops (o :: l) fr hp nw R K :=
 zzq hg (step_ps ho hx he hxs hws sp hpw hw h)
theorem fl_ps (hg : qBq ops fr o = some true) (ho : o.op = .call ⟨.value x, xs, ats⟩) (hx : evW C G fr x = some (.fn f a c)) (he : C.ext f = none) (hxs : evLW C G fr xs.toList = some us) (hws : a ++ us ++ c = ws) (sp : PS C G f ws w) (hpw : purL ws = true) (hw : purW w = true) (hc : evsW ops i .gen es = true) (h : FlW C G m ops l (i + 1) ((i, .gen) :: es) (putW fr o.dst w) hp nw R K) : FlW C G m ops (o :: l) i es fr hp nw R K :=
 ymq hg (step_ps ho hx he hxs hws sp hpw hw ⟨hc, h⟩)
theorem step_lk {post : W -> HpW -> Nat -> Res -> Option EvW -> Prop} (ho : o.op = .call ⟨.value x, xs, ats⟩) (hx : evW C G fr x = some (.fn f a c)) (he : C.ext f = none) (hxs : evLW C G fr xs.toList = some us) (hws : ViewL (blkA hp) (a ++ us ++ c) ws) (sp : PS C G f ws w) (hpw : purL ws = true) (hw : x3q w = true) (h : post w hp nw R (some .gen)) : Step C G o fr hp nw R post :=
 step_look ho hx he hxs hws sp hpw fun w' _ _ hq => by subst hq; exact ⟨hw, h⟩
theorem op_lk (hg : qBq ops fr o = some true) (ho : o.op = .call ⟨.value x, xs, ats⟩) (hx : evW C G fr x = some (.fn f a c)) (he : C.ext f = none) (hxs : evLW C G fr xs.toList = some us) (hws : ViewL (blkA hp) (a ++ us ++ c) ws) (sp : PS C G f ws w) (hpw : purL ws = true) (hw : x3q w = true) (h : OpW C G m ops l (putW fr o.dst w) hp nw R K) : OpW C G m ops (o :: l) fr hp nw R K :=
 zzq hg (step_lk ho hx he hxs hws sp hpw hw h)
end
theorem j3q {τ : Nat -> Nat} {l : List W} (h : purL l = true) : qlq τ l = l := by
 have := zlq (τ := τ) (w := .tup l) h
 simpa only [renW, W.tup.injEq] using this
theorem jDq {C : Cfg} {G : Nat -> Option W} {o : Oper} {fr : FrW} {hp : HpW} {nw : Nat} {R : Res} {post : W -> HpW -> Nat -> Res -> Option EvW -> Prop} {x : Operand} {xs : Array Operand} {ats : Array TypeId} {f : FuncId} {a us c ws : List W} {Q : W -> HpW -> Nat -> Prop} (ho : o.op = .call ⟨.value x, xs, ats⟩) (hx : evW C G fr x = some (.fn f a c)) (he : C.ext f = none) (hxs : evLW C G fr xs.toList = some us) (hws : a ++ us ++ c = ws) (hpw : purL ws = true) (sp : qkq C G f 0 ws [] Q)
  (hpost : ∀ w hp1 nw1, Q w hp1 nw1 -> post (renW (numC [] nw) w) (renH (numC [] nw) hp1 ++ hp) (nw + nw1) R (some .dirty)) : Step C G o fr hp nw R post :=
 yOq (ext := []) (ws := ws) (hp0 := []) ho hx he hxs (by rw [hws, j3q hpw]) sp List.nodup_nil (by simp) (by simp) (fun i ty w h => by simp [hget] at h) (zfq (w := .tup ws) hpw) hpost
def refF (n : Nat) : FrW -> Prop
 | [] => True
 | (_, w) :: l => refB n w = true /\ refF n l
theorem uQq {n : Nat} : ∀ {l : FrW}, refF n l -> l.all (fun p => refB n p.2) = true
 | [], _ => rfl
 | (t, w) :: l, h => by simp only [List.all_cons, h.1, Bool.true_and]; exact uQq h.2
theorem kVq {n : Nat} : ∀ {a b : FrW}, refF n a -> refF n b -> refF n (a ++ b)
 | [], b, _, h => h
 | (t, w) :: a, b, h, k => ⟨h.1, kVq h.2 k⟩
theorem qXq {fr : FrW} : ∀ {a b : FrW}, subF fr a -> subF fr b -> subF fr (a ++ b)
 | [], b, _, h => h
 | (t, w) :: a, b, h, k => ⟨h.1, qXq h.2 k⟩
mutual
theorem Qjq {Γ : Ctx} : ∀ {w : W} {s : List V}, RS Γ w s -> refB Γ.nw w = true
 | .undef, _, _ => rfl
 | .bool _, _, _ => rfl
 | .int _ _, _, _ => rfl
 | .str _, _, _ => rfl
 | .nilp, _, _ => rfl
 | .ptr b off, _, h => by simp only [RS] at h; exact decide_eq_true h.1
 | .nils, _, _ => rfl
 | .sl b _ _ _ _ _, _, h => by simp only [RS] at h; exact decide_eq_true h.1
 | .fz l e full, _, h => by
  simp only [RS] at h
  simp only [refB]
  rcases h with ⟨rfl, _⟩ | ⟨b, base, off, lim, bv, _, _, _, _, _, _, _, h⟩
  ·rfl
  ·exact Jjq h
 | .fel x, _, h => by
  simp only [RS] at h
  obtain ⟨b, off, bv, _, _, _, _, _, _, h⟩ := h
  exact Qjq (w := x) h
 | .nilm, _, _ => rfl
 | .fn f a c, _, h => by
  simp only [RS] at h
  obtain ⟨a', c', _, h1, h2⟩ := h
  simp only [refB, Jhq h1, Jhq h2, Bool.and_self]
 | .yield _, _, _ => rfl
 | .nilf, _, _ => rfl
 | .iface t x, _, h => by
  simp only [RS] at h
  obtain ⟨v, _, _, h⟩ := h
  exact Qjq (w := x) h
 | .nili, _, _ => rfl
 | .agg n l, _, h => by simp only [RS] at h; exact Jjq (l := l) h.2
 | .arr n e l, _, h => by simp only [RS] at h; exact Jjq (l := l) h.2.2
 | .tup l, _, h => by
  simp only [RS] at h
  obtain ⟨vs, _, h⟩ := h
  exact Jhq (l := l) h
theorem Jjq {Γ : Ctx} : ∀ {l : List W} {s : List V}, RSL Γ l s -> refL Γ.nw l = true
 | [], _, _ => rfl
 | w :: l, s, h => by
  simp only [RSL] at h
  simp only [refL, Qjq h.1, Jjq h.2, Bool.and_self]
theorem Jhq {Γ : Ctx} : ∀ {l : List W} {vs : List V}, RVL Γ l vs -> refL Γ.nw l = true
 | [], _, _ => rfl
 | w :: l, _, h => by
  simp only [RVL] at h
  obtain ⟨v, vs, _, h1, h2⟩ := h
  simp only [refL, Qjq h1.2, Jhq h2, Bool.and_self]
end
section
variable {C : Cfg} {G : Nat -> Option W} {m k0 : Nat} {rd : Bool} {fr : FrW} {hp hp' : HpW} {nw nw' : Nat} {R : Res} {Q : qyq} {c : Code}
theorem co_facts (h : m <= nw -> (∀ t w, getW fr t = some w -> refB nw w = true) -> (∀ b x, hget hp b = some x -> b < nw /\ refB nw x.2 = true) -> (hp.map (·.1)).Nodup -> CoW C G m k0 rd c fr hp nw R Q) : CoW C G m k0 rd c fr hp nw R Q := fun Γ X st h1 h2 h3 h4 h5 =>
 h h2 (fun t w hw => by obtain ⟨v, _, hv⟩ := h5.fr t w hw; exact h1 ▸ Qjq hv.2) (fun b x hb => by
  obtain ⟨q1, _, _, v, _, q5⟩ := h5.sat.own b x.1 x.2 hb
  exact ⟨h1 ▸ q1, h1 ▸ Qjq q5.2⟩) h5.sat.nd Γ X st h1 h2 h3 h4 h5
def YAq (hp' hp : HpW) (nw : Nat) : Prop := ∀ b x, b < nw -> hget hp b = some x -> hget hp' b = some x
theorem zNq : YAq hp hp nw := fun _ _ _ h => h
theorem zQq {k : Nat} {y : TypeId × W} (hk : nw <= k) (h : YAq hp' hp nw) : YAq ((k, y) :: hp') hp nw := fun b x hb hx => by
 rw [zCq, if_neg (by omega)]; exact h b x hb hx
theorem vYq {k b : Nat} {y : TypeId × W} (hne : k ≠ b) : ∀ {hp : HpW}, hget (hset hp k y) b = hget hp b
 | [] => rfl
 | (j, z) :: hp => by
  simp only [hset]
  split
  ·rename_i e
   rw [Nat.beq_eq] at e
   subst e
   rw [zCq, zCq, if_neg hne, if_neg hne]
  ·rw [zCq, zCq, vYq hne]
theorem zOq {k : Nat} {y : TypeId × W} (hk : nw <= k) (h : YAq hp' hp nw) : YAq (hset hp' k y) hp nw := fun b x hb hx => by
 rw [vYq (by omega)]; exact h b x hb hx
theorem vZq {k b : Nat} (hne : k ≠ b) : ∀ {hp : HpW}, hget (hdel hp k) b = hget hp b
 | [] => rfl
 | (j, z) :: hp => by
  simp only [hdel]
  split
  ·rename_i e
   rw [Nat.beq_eq] at e
   subst e
   rw [zCq, if_neg hne]
  ·rw [zCq, zCq, vZq hne]
theorem zPq {k : Nat} (hk : nw <= k) (h : YAq hp' hp nw) : YAq (hdel hp' k) hp nw := fun b x hb hx => by
 rw [vZq (by omega)]; exact h b x hb hx
def QRk {α : Type} (I : α -> Prop) (V : α -> FrW) (kf : FrW) (hp : HpW) (nw : Nat) (RR : α -> Res) (μ : α -> Nat) (k : Nat) (Q : qyq) : qyq
 | .normal, fr', hp', nw', R' => ∃ a, I a /\ μ a < k /\ subF fr' (V a) /\ subF fr' kf /\ refF nw (V a) /\ nw <= nw' /\ YAq hp' hp nw /\ R' = RR a
 | x, fr', hp', nw', R' => Q x fr' hp' nw' R'
theorem Q8q {α : Type} (I : α -> Prop) (V : α -> FrW) (kf : FrW) (RR : α -> Res) (μ : α -> Nat) (a0 : α) (hk : subF fr kf) (h0 : I a0) (hv : subF fr (V a0)) (hR : R = RR a0)
  (step : ∀ a, I a -> CoW C G m k0 rd c (V a ++ kf) hp nw (RR a) (QRk I V kf hp nw RR μ (μ a) Q)) : CoW C G m k0 rd (.loop c) fr hp nw R Q := by
 subst hR
 exact co_facts fun hm f1 f2 f3 => qHq I (fun a => V a ++ kf) (fun _ => hp) (fun _ => nw) RR μ a0 h0 (yqq (qXq hv hk) Y Y) fun a ha =>
  Q7q (step a ha) fun x fr' hp' nw' R' h => by
   cases x with
   | normal =>
    obtain ⟨a', h1, h2, h3, h4, h5, h6, h7, rfl⟩ := h
    have kref : ∀ {l : FrW}, subF fr l -> refF nw l := fun {l} => by
     induction l with
     | nil => intro _; trivial
     | cons p l ih =>
      obtain ⟨t, w⟩ := p
      intro h
      exact ⟨f1 t w h.1, ih h.2⟩
    exact ⟨a', h1, h2, qpq hm h6 (qXq h3 h4) (uQq (kVq h5 (kref hk))) (fun b x hb => ⟨(f2 b x hb).1, h7 b x (f2 b x hb).1 hb, (f2 b x hb).2⟩) f3⟩
   | ret => exact h
   | exit _ => exact h
   | goto _ => exact h
   | panic _ => exact h
   | outgrown => exact h
theorem y0q {α : Type} (I : α -> Prop) (V : α -> FrW) (kf : FrW) (μ : α -> Nat) (a0 : α) (hk : subF fr kf) (h0 : I a0) (hv : subF fr (V a0))
  (step : ∀ a, I a -> CoW C G m k0 rd c (V a ++ kf) hp nw R (QRk I V kf hp nw (fun _ => R) μ (μ a) Q)) : CoW C G m k0 rd (.loop c) fr hp nw R Q := Q8q I V kf (fun _ => R) μ a0 hk h0 hv rfl step
theorem yfq {α : Type} {I : α -> Prop} {V : α -> FrW} {kf : FrW} {RR : α -> Res} {μ : α -> Nat} {k : Nat} {x : Exit} {fr' : FrW} {R' : Res} (hx : x ≠ .normal) (h : Q x fr' hp' nw' R') : QRk I V kf hp nw RR μ k Q x fr' hp' nw' R' := by cases x <;> first | exact h | exact absurd rfl hx
theorem yhq {α : Type} {I : α -> Prop} {V : α -> FrW} {kf : FrW} {RR : α -> Res} {μ : α -> Nat} {k : Nat} {fr' : FrW} (a : α) (ha : I a) (hμ : μ a < k) (hv : subF fr' (V a)) (hk : subF fr' kf) (hr : refF nw (V a)) (hn : nw <= nw') (hh : YAq hp' hp nw) (hR : R = RR a) :
  QRk I V kf hp nw RR μ k Q .normal fr' hp' nw' R := ⟨a, ha, hμ, hv, hk, hr, hn, hh, hR⟩
theorem qNq {α : Type} (I : α -> Prop) (V : α -> FrW) (kf : FrW) (H : α -> HpW) (μ : α -> Nat) (a0 : α) (hk : subF fr kf) (h0 : I a0) (hv : subF fr (V a0)) (hh : hp = H a0)
  (step : ∀ a, I a -> CoW C G m k0 rd c (V a ++ kf) (H a) nw R (xlq C G m k0 I (fun a => V a ++ kf) H (fun _ => nw) (fun _ => R) μ (μ a) Q)) : CoW C G m k0 rd (.loop c) fr hp nw R Q :=
 qHq I (fun a => V a ++ kf) H (fun _ => nw) (fun _ => R) μ a0 h0 (yqq (qXq hv hk) hh rfl) step
theorem q_againH {α : Type} {I : α -> Prop} {V : α -> FrW} {kf : FrW} {H : α -> HpW} {μ : α -> Nat} {k : Nat} {fr' : FrW} (a : α) (ha : I a) (hμ : μ a < k) (hm : m <= nw) (hv : subF fr' (V a)) (hk : subF fr' kf) (hr : refF nw (V a)) (hr2 : refF nw kf) (hn : nw <= nw') (hh : subH hp' nw (H a)) (nd : ((H a).map (·.1)).Nodup) :
  xlq C G m k0 I (fun a => V a ++ kf) H (fun _ => nw) (fun _ => R) μ k Q .normal fr' hp' nw' R :=
 yDq a ha hμ (qpq hm hn (qXq hv hk) (uQq (kVq hr hr2)) (qgq hh) nd)
theorem jcq {α : Type} {I : α -> Prop} {V : α -> FrW} {kf : FrW} {H : α -> HpW} {μ : α -> Nat} {k : Nat} {fr' : FrW} (a : α) (ha : I a) (hμ : μ a < k) (hv : subF fr' (V a)) (hk : subF fr' kf) (hh : hp = H a) :
  xlq C G m k0 I (fun a => V a ++ kf) H (fun _ => nw) (fun _ => R) μ k Q .normal fr' hp nw R :=
 yDq a ha hμ (yqq (qXq hv hk) hh rfl)
end
theorem zYq {C : Cfg} {G : Nat -> Option W} {f : FuncId} {fn : Func} {c : Code} {ws : List W} {w : W} (hk : C.known f = none) (hf : C.fn f = some fn) (hb : fn.body = some c) (hn : ws.length <= fn.ntmps)
  (h : ∀ R k0, CoW C G 0 k0 false c (Yvq 0 ws) [] 0 R (QFin C G 0 k0 fn.results.toList fun w' _ _ R' => R' = R /\ w' = w)) : PS C G f ws w := fun R => z0q hk hf hb hn (h R)
theorem yMq {C : Cfg} {G : Nat -> Option W} {f : FuncId} {ws : List W} {w w' : W} (h : PS C G f ws w) (e : w = w') : PS C G f ws w' := e ▸ h
theorem zgq {C : Cfg} {G : Nat -> Option W} {m k0 : Nat} {rs : List ResultVar} {fr : FrW} {hp : HpW} {nw : Nat} {R : Res} {w w' : W} {x : Exit} (hx : x = .normal \/ x = .ret) (ho : outW C fr hp rs = some w) (e : w = w') : QFin C G m k0 rs (fun v _ _ R' => R' = R /\ v = w') x fr hp nw R :=
 fin hx Ent.refl ho ⟨rfl, e⟩
def subV (blk : Nat -> Option W) (fr : FrW) : FrW -> Prop
 | [] => True
 | (t, w) :: l => (∃ w0, getW fr t = some w0 /\ View blk w0 w) /\ subV blk fr l
theorem Qqq {blk : Nat -> Option W} {fr : FrW} : ∀ {l : FrW}, subV blk fr l -> ∀ t w, getW l t = some w -> ∃ w0, getW fr t = some w0 /\ View blk w0 w
 | [], _, t, w, h => by simp [getW] at h
 | (k, u) :: l, hs, t, w, h => by
  simp only [getW] at h
  split at h
  ·rename_i e
   rw [Nat.beq_eq] at e
   subst e
   cases h
   exact hs.1
  ·exact Qqq hs.2 t w h
theorem qeq {blk : Nat -> Option W} {b : Nat} {c : W} (hb : blk b = some c) (hc : purW c = true) (ha : (c.isAgg || c.leaf) = true) : View blk (.ptr b 0) (.fel c) := by
 refine .ptr (n := c.size) (ag := c.isAgg) hb hc ?_
 unfold ypq
 cases hg : c.isAgg <;> simp [hg] at ha ⊢
 rw [ha]
section
variable {C : Cfg} {G : Nat -> Option W} {m k0 : Nat} {fr fr2 : FrW} {hp : HpW} {nw : Nat} {R : Res}
theorem ent_frzA (hf : subV (blkA hp) fr fr2) : Ent C G m k0 fr hp nw R fr2 [] nw R := fun Γ X st hnw hmn s => by
 let Γ2 : Ctx := ⟨Γ.nw, Γ.σ, fun c => Γ.D c \/ Owns Γ hp c, Γ.h⟩
 have le : Γ.Le Γ2 := ⟨Nat.le_refl _, fun _ _ => rfl, fun _ h => .inl h, fun _ _ => rfl⟩
 have q : Seen (blkA hp) Γ Γ2 := ⟨fun _ h _ => h, fun _ _ _ => rfl, fun _ h => .inl h, fun _ _ => rfl, fun b c _ h => by
  unfold blkA at h
  split at h
  ·rename_i ty c' hg
   cases h
   obtain ⟨v, h1, h2, h3⟩ := krq s.sat hg
   exact ⟨.inr ⟨b, _, hg, rfl⟩, v, h2, h3⟩
  ·cases h⟩
 have none_ : ∀ {c}, ¬ Owns Γ2 [] c := fun {c} h => by
  obtain ⟨b, x, h, _⟩ := h
  simp [hget] at h
 refine ⟨Γ2, X, hnw, ⟨s.hh, fun t w hw => ?_, ⟨s.sat.wf, fun k ty' w hk => by simp [hget] at hk, fun k k' x y hx => by simp [hget] at hx, List.nodup_nil, fun d hd hX => ?_, s.sat.xlt, fun d hd => ?_, R.st _ _ _ _ _ s.sat.res le.D le.val (fun _ _ => rfl) (Nat.le_refl _), s.sat.gl.mono le⟩, fun d hd => ?_, s.nd⟩, ⟨fun _ _ => rfl, fun h => h, Nat.le_refl _, fun _ _ _ _ => rfl, fun _ h => .inl h, fun d hd => ?_, fun k x hk h => by simp [hget] at h, fun k x hk h => by simp [hget] at h, fun _ h => .inl h, fun _ h _ _ => h⟩⟩
 ·obtain ⟨w0, g1, g2⟩ := Qqq hf t w hw
  obtain ⟨u, g3, g4⟩ := s.fr _ _ g1
  exact ⟨u, g3, Qmq q g2 g4⟩
 ·rcases hd with h | ⟨b, x, h, rfl⟩
  ·exact s.sat.dX d h hX
  ·exact (s.sat.own b x.1 x.2 h).2.2.1 hX
 ·rcases hd with h | ⟨b, x, h, rfl⟩
  ·exact s.sat.dlt d h
  ·exact s.sat.own_lt h
 ·obtain ⟨q1, q2, q3, q4, q5, q6⟩ := s.ds d hd
  refine ⟨q1, q2, q3, none_, q5, fun h => ?_⟩
  rcases h with h | h
  ·exact q6 h
  ·exact q4 h
 ·rcases hd with h | h
  ·exact .inl h
  ·exact .inr (.inl (.inl h))
theorem xGq {rs : List ResultVar} {w w' : W} {x : Exit} (hx : x = .normal \/ x = .ret) (hv : subV (blkA hp) fr fr2) (ho : outW C fr2 [] rs = some w) (e : w = w') : QFin C G m k0 rs (fun v _ _ R' => R' = R /\ v = w') x fr hp nw R :=
 fin hx (ent_frzA hv) ho ⟨rfl, e⟩
end
theorem YSq {C : Cfg} {G : Nat -> Option W} {f : FuncId} {m : Nat} {ws : List W} {hp : HpW} {R : Res} {A : W -> Prop} (h : Spec C G f m ws hp R fun w hp' _ R' => R' = R /\ ∃ w', View (blkA hp') w w' /\ A w') : Spec C G f m ws hp R fun w _ _ R' => R' = R /\ A w := fun Γ X vs h1 s hv => by
 obtain ⟨n, v, Γ', X', w, hp', R', g1, g2, g3, g4, rfl, w', g5, gA⟩ := h Γ X vs h1 s hv
 let Γ2 : Ctx := ⟨Γ'.nw, Γ'.σ, fun c => Γ'.D c \/ Owns Γ' hp' c, Γ'.h⟩
 have le : Γ'.Le Γ2 := ⟨Nat.le_refl _, fun _ _ => rfl, fun _ h => .inl h, fun _ _ => rfl⟩
 have q : Seen (blkA hp') Γ' Γ2 := ⟨fun _ h _ => h, fun _ _ _ => rfl, fun _ h => .inl h, fun _ _ => rfl, fun b c _ h => by
  unfold blkA at h
  split at h
  ·rename_i ty c' hg
   cases h
   obtain ⟨v, h1, h2, h3⟩ := krq g2 hg
   exact ⟨.inr ⟨b, _, hg, rfl⟩, v, h2, h3⟩
  ·cases h⟩
 have hD : ∀ d, Γ2.D d -> Γ'.D d \/ Owns Γ' hp' d := fun d h => h
 refine ⟨n, v, Γ2, X', w', [], R', g1, ⟨g2.wf, fun k ty' w hk => by simp [hget] at hk, fun k k' x y hx => by simp [hget] at hx, List.nodup_nil, fun d hd hX => ?_, g2.xlt, fun d hd => ?_, R'.st _ _ _ _ _ g2.res le.D le.val (fun _ _ => rfl) (Nat.le_refl _), g2.gl.mono le⟩, ⟨g3.sig, g3.mle, g3.next, g3.keep, fun c h => .inl (g3.dsub c h), fun d hd => ?_, fun k x hk h => by simp [hget] at h, fun k x hk h => by simp [hget] at h, g3.xnew, g3.wmin⟩, Qmq q g5 g4, rfl, gA⟩
 ·rcases hD d hd with h | ⟨b, x, h, rfl⟩
  ·exact g2.dX d h hX
  ·exact (g2.own b x.1 x.2 h).2.2.1 hX
 ·rcases hD d hd with h | ⟨b, x, h, rfl⟩
  ·exact g2.dlt d h
  ·exact g2.own_lt h
 ·rcases hD d hd with h | h
  ·exact g3.dnew d h
  ·rcases g3.onew d h with h | h
   ·exact .inr (.inl (.inl h))
   ·exact .inr (.inr h)
theorem Zzq {C : Cfg} {G : Nat -> Option W} {f : FuncId} {m : Nat} {ws : List W} {hp : HpW} {R : Res} {w' : W} (h : Spec C G f m ws hp R fun w hp' _ R' => R' = R /\ View (blkA hp') w w') : Spec C G f m ws hp R fun w _ _ R' => R' = R /\ w = w' :=
 YSq (A := fun w => w = w') fun Γ X vs h1 s hv => by
  obtain ⟨n, v, Γ', X', w, hp', R', g1, g2, g3, g4, g5, g6⟩ := h Γ X vs h1 s hv
  exact ⟨n, v, Γ', X', w, hp', R', g1, g2, g3, g4, g5, w', g6, rfl⟩
theorem xSq {C : Cfg} {G : Nat -> Option W} {f : FuncId} {m : Nat} {ws : List W} {hp : HpW} {P Q : W -> HpW -> Nat -> Prop} (h : qkq C G f m ws hp P) (hi : ∀ w hp nw, P w hp nw -> Q w hp nw) : qkq C G f m ws hp Q := fun R Γ X vs h1 s hv => by
 obtain ⟨n, v, Γ', X', w', hp', R', g1, g2, g3, g4, g5, g6⟩ := h R Γ X vs h1 s hv
 exact ⟨n, v, Γ', X', w', hp', R', g1, g2, g3, g4, g5, hi _ _ _ g6⟩
def PE (C : Cfg) (G : Nat -> Option W) (f : FuncId) (ws : List W) (A : W -> Prop) : Prop := qkq C G f 0 ws [] fun w _ _ => purW w = true /\ A w
theorem YXq {C : Cfg} {G : Nat -> Option W} {f : FuncId} {fn : Func} {c : Code} {ws : List W} {A : W -> Prop} (hk : C.known f = none) (hf : C.fn f = some fn) (hb : fn.body = some c) (hn : ws.length <= fn.ntmps)
  (h : ∀ R k0, CoW C G 0 k0 false c (Yvq 0 ws) [] 0 R (QFin C G 0 k0 fn.results.toList fun w' hp' _ R' => R' = R /\ ∃ w, View (blkA hp') w' w /\ (purW w = true /\ A w))) : PE C G f ws A := fun R => YSq (z0q hk hf hb hn (h R))
theorem xjq {C : Cfg} {G : Nat -> Option W} {m k0 : Nat} {rs : List ResultVar} {fr : FrW} {hp : HpW} {nw : Nat} {R : Res} {w w' : W} {A : W -> Prop} {x : Exit} (hx : x = .normal \/ x = .ret) (ho : outW C fr hp rs = some w) (hv : View (blkA hp) w w') (hw : purW w' = true) (ha : A w') : QFin C G m k0 rs (fun v hp' _ R' => R' = R /\ ∃ w, View (blkA hp') v w /\ (purW w = true /\ A w)) x fr hp nw R :=
 fin hx Ent.refl ho ⟨rfl, w', hv, hw, ha⟩
theorem Qsq {C : Cfg} {G : Nat -> Option W} {o : Oper} {fr : FrW} {hp : HpW} {nw : Nat} {R : Res} {post : W -> HpW -> Nat -> Res -> Option EvW -> Prop} {x : Operand} {xs : Array Operand} {ats : Array TypeId} {f : FuncId} {a us c ws : List W} {A : W -> Prop} (ho : o.op = .call ⟨.value x, xs, ats⟩) (hx : evW C G fr x = some (.fn f a c)) (he : C.ext f = none) (hxs : evLW C G fr xs.toList = some us) (hws : a ++ us ++ c = ws) (sp : PE C G f ws A) (hpw : purL ws = true) (h : ∀ w, purW w = true -> A w -> post w hp nw R (some .gen)) : Step C G o fr hp nw R post := by
 subst hws
 exact y8q ho hx he hxs sp hpw fun w' _ _ hq => ⟨hq.1, h w' hq.1 hq.2⟩
theorem j6q {C : Cfg} {G : Nat -> Option W} {f : FuncId} {fn : Func} {c : Code} {ws : List W} {w : W} (hk : C.known f = none) (hf : C.fn f = some fn) (hb : fn.body = some c) (hn : ws.length <= fn.ntmps)
  (h : ∀ R k0, CoW C G 0 k0 false c (Yvq 0 ws) [] 0 R (QFin C G 0 k0 fn.results.toList fun w' hp' _ R' => R' = R /\ View (blkA hp') w' w)) : PS C G f ws w := fun R => Zzq (z0q hk hf hb hn (h R))
theorem keq {C : Cfg} {G : Nat -> Option W} {m k0 : Nat} {rs : List ResultVar} {fr : FrW} {hp : HpW} {nw : Nat} {R : Res} {w w' : W} {x : Exit} (hx : x = .normal \/ x = .ret) (ho : outW C fr hp rs = some w) (hv : View (blkA hp) w w') : QFin C G m k0 rs (fun v hp' _ R' => R' = R /\ View (blkA hp') v w') x fr hp nw R :=
 fin hx Ent.refl ho ⟨rfl, hv⟩
section
variable {C : Cfg} {G : Nat -> Option W}
theorem vEq {f : FuncId} {fn : Func} {c : Code} {cs : List W} {l : List (List W)} (hk : C.known f = none) (hf : C.fn f = some fn) (hb : fn.body = some c) (hn : cs.length + 1 <= fn.ntmps)
  (h : ∀ L E R, Yl C G L E l R -> ∀ k0, CoW C G 0 k0 false c (Yvq 0 (.yield L :: cs)) [] 0 R (QFin C G 0 k0 fn.results.toList fun _ _ _ R' => E R')) : jjq C G f cs l := fun L E R hy => z0q hk hf hb hn (h L E R hy)
theorem x7q {m k0 : Nat} {rs : List ResultVar} {fr : FrW} {hp : HpW} {nw : Nat} {R : Res} {w : W} {x : Exit} {E : Res -> Prop} (hx : x = .normal \/ x = .ret) (ho : outW C fr hp rs = some w) (h : E R) : QFin C G m k0 rs (fun _ _ _ R' => E R') x fr hp nw R := fin hx Ent.refl ho h
variable {m k0 : Nat} {rd : Bool} {fr : FrW} {hp hp' : HpW} {nw nw' : Nat} {R : Res} {Q : qyq} {c : Code}
theorem co_loopR {α : Type} (I : α -> Prop) (V : α -> FrW) (kf : FrW) (H : α -> HpW) (RR : α -> Res) (μ : α -> Nat) (a0 : α) (hk : subF fr kf) (h0 : I a0) (hv : subF fr (V a0)) (hh : hp = H a0) (hR : R = RR a0)
  (step : ∀ a, I a -> CoW C G m k0 rd c (V a ++ kf) (H a) nw (RR a) (xlq C G m k0 I (fun a => V a ++ kf) H (fun _ => nw) RR μ (μ a) Q)) : CoW C G m k0 rd (.loop c) fr hp nw R Q := by
 subst hR
 exact qHq I (fun a => V a ++ kf) H (fun _ => nw) RR μ a0 h0 (yqq (qXq hv hk) hh rfl) step
theorem q_againR {α : Type} {I : α -> Prop} {V : α -> FrW} {kf : FrW} {H : α -> HpW} {RR : α -> Res} {μ : α -> Nat} {k : Nat} {fr' : FrW} (a : α) (ha : I a) (hμ : μ a < k) (hm : m <= nw) (hv : subF fr' (V a)) (hk : subF fr' kf) (hr : refF nw (V a)) (hr2 : refF nw kf) (hn : nw <= nw') (hh : subH hp' nw (H a)) (nd : ((H a).map (·.1)).Nodup) (hR : R = RR a) :
  xlq C G m k0 I (fun a => V a ++ kf) H (fun _ => nw) RR μ k Q .normal fr' hp' nw' R := by
 subst hR
 exact yDq a ha hμ (qpq hm hn (qXq hv hk) (uQq (kVq hr hr2)) (qgq hh) nd)
theorem Ykq {β : Type} {g : Operand} {ps : Array Tmp} {asg bd : Code} {gf : FuncId} {cs : List W} (enc : β -> List W) (ls : List β) (I : Nat -> Prop)
  (hg : evW C G fr g = some (.fn gf [] cs)) (hpu : purL cs = true) (it : jjq C G gf cs (ls.map enc)) (hl : ∀ y ∈ ls, purL (enc y) = true /\ (enc y).length = ps.size) (h0 : I 0)
  (round : ∀ i y, ls[i]? = some y -> I i -> CoW C G nw k0 true asg (setPW fr ps.toList (enc y)) hp nw R (QAsg C G nw k0 bd (QBod C G nw k0 (fun _ : Unit => I (i + 1)) (fun _ => hp) (fun _ => nw) (fun _ => R) fr Q)))
  (done : I ls.length -> Q .normal fr hp nw R) : CoW C G m k0 false (.rangeFunc g ps asg bd) fr hp nw R Q :=
 Q6q (α := Unit) (fun i _ => I i) (fun _ => hp) (fun _ => nw) (fun _ => R) () hg hpu it (fun x hx => by obtain ⟨y, hy, rfl⟩ := List.mem_map.1 hx; exact hl y hy) h0 Y Y Y
  (fun i a x hx hi => by
   rw [List.getElem?_map, Option.map_eq_some_iff] at hx
   obtain ⟨y, hy, rfl⟩ := hx
   exact round i y hy hi) (fun a h => done (by rw [List.length_map] at h; exact h))
def QBk {α : Type} (I : α -> Prop) (hp : HpW) (nw : Nat) (RR : α -> Res) (fr : FrW) (Q : qyq) : qyq
 | .normal, _, hp', nw', R' => ∃ a, I a /\ nw <= nw' /\ YAq hp' hp nw /\ R' = RR a
 | .ret, _, hp', nw', R' => Q .ret fr hp' nw' R'
 | .exit id, _, hp', nw', R' => Q (.exit id) fr hp' nw' R'
 | .goto l, _, hp', nw', R' => Q (.goto l) fr hp' nw' R'
 | _, _, _, _, _ => False
theorem QDq {α : Type} {I : α -> Prop} {RR : α -> Res} {fr' : FrW} {R' : Res} {x : Exit} (hx : ZNq x ≠ none) (h : Q x fr hp' nw' R') : QBk I hp nw RR fr Q x fr' hp' nw' R' := by
 cases x <;> first | exact h | exact absurd rfl hx
theorem QCq {α : Type} {I : α -> Prop} {RR : α -> Res} {fr' : FrW} (a : α) (ha : I a) (hn : nw <= nw') (hh : YAq hp' hp nw) (hR : R = RR a) : QBk I hp nw RR fr Q .normal fr' hp' nw' R := ⟨a, ha, hn, hh, hR⟩
theorem Yjq {α β : Type} {g : Operand} {ps : Array Tmp} {asg bd : Code} {gf : FuncId} {cs : List W} (enc : β -> List W) (ls : List β) (I : Nat -> α -> Prop) (RR : α -> Res) (a0 : α)
  (hg : evW C G fr g = some (.fn gf [] cs)) (hpu : purL cs = true) (it : jjq C G gf cs (ls.map enc)) (hl : ∀ y ∈ ls, purL (enc y) = true /\ (enc y).length = ps.size) (h0 : I 0 a0) (hR : R = RR a0)
  (round : ∀ i a y, ls[i]? = some y -> I i a -> CoW C G nw k0 true asg (setPW fr ps.toList (enc y)) hp nw (RR a) (QAsg C G nw k0 bd (QBk (I (i + 1)) hp nw RR fr Q)))
  (done : ∀ a, I ls.length a -> Q .normal fr hp nw (RR a)) : CoW C G m k0 false (.rangeFunc g ps asg bd) fr hp nw R Q := by
 subst hR
 refine co_facts fun hm f1 f2 f3 => Q6q I (fun _ => hp) (fun _ => nw) RR a0 hg hpu it (fun x hx => by obtain ⟨y, hy, rfl⟩ := List.mem_map.1 hx; exact hl y hy) h0 Y Y Y (fun i a x hx hi => ?_) (fun a h => done a (by rw [List.length_map] at h; exact h))
 rw [List.getElem?_map, Option.map_eq_some_iff] at hx
 obtain ⟨y, hy, rfl⟩ := hx
 refine Q7q (round i a y hy hi) fun x fr' hp' nw' R' h => ?_
 obtain ⟨rfl, h⟩ := h
 refine ⟨rfl, Q7q h fun x fr' hp' nw' R' h => ?_⟩
 cases x with
 | normal =>
  obtain ⟨a', h1, h2, h3, rfl⟩ := h
  exact q_round a' h1 (qpq (Nat.le_refl _) h2 trivial rfl (fun b x hb => ⟨(f2 b x hb).1, h3 b x (f2 b x hb).1 hb, (f2 b x hb).2⟩) f3)
 | ret => exact h
 | exit _ => exact h
 | goto _ => exact h
 | panic _ => exact h.elim
 | outgrown => exact h.elim
theorem co_rangeN {α β : Type} {g : Operand} {ps : Array Tmp} {asg bd : Code} {gf : FuncId} {cs : List W} (enc : β -> List W) (ls : List β) (I : Nat -> α -> Prop) (H : α -> HpW) (N : α -> Nat) (RR : α -> Res) (a0 : α)
  (hg : evW C G fr g = some (.fn gf [] cs)) (hpu : purL cs = true) (it : jjq C G gf cs (ls.map enc)) (hl : ∀ y ∈ ls, purL (enc y) = true /\ (enc y).length = ps.size) (h0 : I 0 a0) (hh : hp = H a0) (hn : nw = N a0) (hR : R = RR a0)
  (round : ∀ i a y, ls[i]? = some y -> I i a -> CoW C G nw k0 true asg (setPW fr ps.toList (enc y)) (H a) (N a) (RR a) (QAsg C G nw k0 bd (QBod C G nw k0 (I (i + 1)) H N RR fr Q)))
  (done : ∀ a, I ls.length a -> Q .normal fr (H a) (N a) (RR a)) : CoW C G m k0 false (.rangeFunc g ps asg bd) fr hp nw R Q :=
 Q6q I H N RR a0 hg hpu it (fun x hx => by obtain ⟨y, hy, rfl⟩ := List.mem_map.1 hx; exact hl y hy) h0 hh hn hR
  (fun i a x hx hi => by
   rw [List.getElem?_map, Option.map_eq_some_iff] at hx
   obtain ⟨y, hy, rfl⟩ := hx
   exact round i a y hy hi) (fun a h => done a (by rw [List.length_map] at h; exact h))
end
section
variable {C : Cfg} {G : Nat -> Option W} {m : Nat} {ops : Array Oper} {l : List Oper} {i : Nat} {es : List (Nat × EvW)} {fr : FrW} {hp : HpW} {nw : Nat} {R : Res} {K : FrW -> HpW -> Nat -> Res -> Prop} {o : Oper} {x : Operand} {xs : Array Operand} {ats : Array TypeId} {f : FuncId} {a us c ws : List W} {w : W} {b : Bool} {p : Prop}
theorem yYq [Decidable p] (hw : qBq ops fr o = some true) (hx : y7q C G fr o.op = some (.bool b)) (h : OpW C G m ops l (putW fr o.dst (.bool (decide p))) hp nw R K) (hb : b = true ↔ p := by first | exact ltI_iff | exact eqI_iff | exact ulq | exact umq | exact ySq | exact xaq) : OpW C G m ops (o :: l) fr hp nw R K := kBq hw hx hb h
theorem fl_cz [Decidable p] (hw : qBq ops fr o = some true) (hx : y7q C G fr o.op = some (.bool b)) (h : FlW C G m ops l (i + 1) es (putW fr o.dst (.bool (decide p))) hp nw R K) (hb : b = true ↔ p := by first | exact ltI_iff | exact eqI_iff | exact ulq | exact umq | exact ySq | exact xaq) : FlW C G m ops (o :: l) i es fr hp nw R K := fl_cmp hw hx hb h
theorem qdq (hw : qBq ops fr o = some true) (hx : y7q C G fr o.op = some (.bool b)) (ht : p -> OpW C G m ops l (putW fr o.dst (.bool true)) hp nw R K) (hf : ¬ p -> OpW C G m ops l (putW fr o.dst (.bool false)) hp nw R K) (hb : b = true ↔ p := by first | exact ltI_iff | exact eqI_iff | exact ulq | exact umq | exact ySq | exact xaq) : OpW C G m ops (o :: l) fr hp nw R K := op_dec hw hx hb ht hf
theorem fl_dz (hw : qBq ops fr o = some true) (hx : y7q C G fr o.op = some (.bool b)) (ht : p -> FlW C G m ops l (i + 1) es (putW fr o.dst (.bool true)) hp nw R K) (hf : ¬ p -> FlW C G m ops l (i + 1) es (putW fr o.dst (.bool false)) hp nw R K) (hb : b = true ↔ p := by first | exact ltI_iff | exact eqI_iff | exact ulq | exact umq | exact ySq | exact xaq) : FlW C G m ops (o :: l) i es fr hp nw R K := fl_dec hw hx hb ht hf
theorem x0q {d : Nat} (ht : p -> OpW C G m ops l ((d, .bool true) :: fr) hp nw R K) (hf : ¬ p -> OpW C G m ops l ((d, .bool false) :: fr) hp nw R K) (hb : b = true ↔ p := by first | exact ltI_iff | exact eqI_iff | exact ulq | exact umq | exact ySq | exact xaq) : OpW C G m ops l ((d, .bool b) :: fr) hp nw R K := op_bs hb ht hf
theorem fl_bz {d : Nat} (ht : p -> FlW C G m ops l i es ((d, .bool true) :: fr) hp nw R K) (hf : ¬ p -> FlW C G m ops l i es ((d, .bool false) :: fr) hp nw R K) (hb : b = true ↔ p := by first | exact ltI_iff | exact eqI_iff | exact ulq | exact umq | exact ySq | exact xaq) : FlW C G m ops l i es ((d, .bool b) :: fr) hp nw R K := fl_bs hb ht hf
theorem zAq {k0 : Nat} {rd : Bool} {Q : qyq} {cc : Operand} {x y : Code} (hc : evW C G fr cc = some (.bool b)) (ht : p -> CoW C G m k0 rd x fr hp nw R Q) (hf : ¬ p -> CoW C G m k0 rd y fr hp nw R Q) (hb : b = true ↔ p := by first | exact ltI_iff | exact eqI_iff | exact ulq | exact umq | exact ySq | exact xaq) : CoW C G m k0 rd (.cond cc x y) fr hp nw R Q := co_dec hc hb ht hf
theorem zjq (hg : qBq ops fr o = some true) (ho : o.op = .call ⟨.value x, xs, ats⟩) (hx : evW C G fr x = some (.fn f a c)) (he : C.ext f = none) (hxs : evLW C G fr xs.toList = some us) (hws : a ++ us ++ c = ws) (sp : PS C G f ws w) (h : OpW C G m ops l (putW fr o.dst w) hp nw R K) (hpw : purL ws = true := by first | rfl | assumption | (simp; done)) (hw : purW w = true := by first | rfl | assumption | (simp; done)) : OpW C G m ops (o :: l) fr hp nw R K := op_ps hg ho hx he hxs hws sp hpw hw h
theorem y2q (hg : qBq ops fr o = some true) (ho : o.op = .call ⟨.value x, xs, ats⟩) (hx : evW C G fr x = some (.fn f a c)) (he : C.ext f = none) (hxs : evLW C G fr xs.toList = some us) (hws : a ++ us ++ c = ws) (sp : PS C G f ws w) (h : FlW C G m ops l (i + 1) ((i, .gen) :: es) (putW fr o.dst w) hp nw R K) (hpw : purL ws = true := by first | rfl | assumption | (simp; done)) (hw : purW w = true := by first | rfl | assumption | (simp; done)) (hc : evsW ops i .gen es = true := by first | rfl | kernel_rfl) : FlW C G m ops (o :: l) i es fr hp nw R K := fl_ps hg ho hx he hxs hws sp hpw hw hc h
theorem yRq {w : W} {hp2 : HpW} {nw2 : Nat} {ev : EvW} (hw : qBq ops fr o = some true) (hx : opHW C G fr hp nw o.op = some (w, hp2, nw2, ev)) (h : FlW C G m ops l (i + 1) ((i, ev) :: es) (putW fr o.dst w) hp2 nw2 R K) (hc : evsW ops i ev es = true := by first | rfl | kernel_rfl) : FlW C G m ops (o :: l) i es fr hp nw R K := yHq hw hx hc h
end
end
inductive Kt where
 | seq (c : Code)
 | blk (i : Nat)
inductive At where
 | co (c : Code)
 | op (ops : Array Oper) (l : List Oper)
 | fl (ops : Array Oper) (l : List Oper) (i : Nat) (es : List (Nat × EvW))
 | ex (x : Exit)
structure Sit where
 at_ : At
 ks : List Kt
 fr : FrW
 hp : HpW
 nw : Nat
@[reducible] def QK (C : Cfg) (G : Nat -> Option W) (m k0 : Nat) (rd : Bool) : List Kt -> qyq -> qyq
 | [], Q => Q
 | .seq y :: l, Q => QSeq C G m k0 rd y (QK C G m k0 rd l Q)
 | .blk i :: l, Q => v9q i (QK C G m k0 rd l Q)
@[reducible] def GoW (C : Cfg) (G : Nat -> Option W) (m k0 : Nat) (rd : Bool) (s : Sit) (R : Res) (Q : qyq) : Prop := match s with
 | ⟨.co c, ks, fr, hp, nw⟩ => CoW C G m k0 rd c fr hp nw R (QK C G m k0 rd ks Q)
 | ⟨.op ops l, ks, fr, hp, nw⟩ => OpW C G m ops l fr hp nw R fun fr hp nw R => QK C G m k0 rd ks Q .normal fr hp nw R
 | ⟨.fl ops l i es, ks, fr, hp, nw⟩ => FlW C G m ops l i es fr hp nw R fun fr hp nw R => QK C G m k0 rd ks Q .normal fr hp nw R
 | ⟨.ex x, ks, fr, hp, nw⟩ => QK C G m k0 rd ks Q x fr hp nw R
def advC (C : Cfg) (G : Nat -> Option W) (ks : List Kt) (fr : FrW) (hp : HpW) (nw : Nat) : Code -> Option Sit
 | .seq x y => some ⟨.co x, .seq y :: ks, fr, hp, nw⟩
 | .block i x => some ⟨.co x, .blk i :: ks, fr, hp, nw⟩
 | .skip => some ⟨.ex .normal, ks, fr, hp, nw⟩
 | .label _ => some ⟨.ex .normal, ks, fr, hp, nw⟩
 | .exit i => some ⟨.ex (.exit i), ks, fr, hp, nw⟩
 | .goto l => some ⟨.ex (.goto l), ks, fr, hp, nw⟩
 | .ret => some ⟨.ex .ret, ks, fr, hp, nw⟩
 | .region _ ops false => some ⟨.op ops ops.toList, ks, fr, hp, nw⟩
 | .region _ ops true => some ⟨.fl ops ops.toList 0 [], ks, fr, hp, nw⟩
 | .cond c x y => match evW C G fr c with
  | some (.bool true) => some ⟨.co x, ks, fr, hp, nw⟩
  | some (.bool false) => some ⟨.co y, ks, fr, hp, nw⟩
  | _ => none
 | _ => none
def advX (fr : FrW) (hp : HpW) (nw : Nat) : Exit -> List Kt -> Option Sit
 | .normal, .seq y :: l => some ⟨.co y, l, fr, hp, nw⟩
 | x, .seq _ :: l => some ⟨.ex x, l, fr, hp, nw⟩
 | .exit j, .blk i :: l => match Nat.beq j i with
  | true => some ⟨.ex .normal, l, fr, hp, nw⟩
  | false => some ⟨.ex (.exit j), l, fr, hp, nw⟩
 | x, .blk _ :: l => some ⟨.ex x, l, fr, hp, nw⟩
 | _, [] => none
def adv (C : Cfg) (G : Nat -> Option W) (b : Bool) : Sit -> Option (Bool × Sit)
 | ⟨.co c, ks, fr, hp, nw⟩ => match advC C G ks fr hp nw c with
  | some s => some (b, s)
  | none => none
 | ⟨.ex x, ks, fr, hp, nw⟩ => match advX fr hp nw x ks with
  | some s => some (b, s)
  | none => none
 | ⟨.op _ [], ks, fr, hp, nw⟩ => some (b, ⟨.ex .normal, ks, fr, hp, nw⟩)
 | ⟨.op ops (o :: l), ks, fr, hp, nw⟩ => match qBq ops fr o with
  | some true => match y7q C G fr o.op with
   | some w => some (b, ⟨.op ops l, ks, putW fr o.dst w, hp, nw⟩)
   | none => match opHW C G fr hp nw o.op with
    | some (w, hp2, nw2, _) => some (b, ⟨.op ops l, ks, putW fr o.dst w, hp2, nw2⟩)
    | none => none
  | some false => some (b, ⟨.op ops l, ks, putW fr o.dst .undef, hp, nw⟩)
  | none => none
 | ⟨.fl _ [] _ _, ks, fr, hp, nw⟩ => some (b, ⟨.ex .normal, ks, fr, hp, nw⟩)
 | ⟨.fl ops (o :: l) i es, ks, fr, hp, nw⟩ => match qBq ops fr o with
  | some true => match y7q C G fr o.op with
   | some w => some (b, ⟨.fl ops l (i + 1) es, ks, putW fr o.dst w, hp, nw⟩)
   | none => match opHW C G fr hp nw o.op with
    | some (w, hp2, nw2, ev) => some (evsW ops i ev es && b, ⟨.fl ops l (i + 1) ((i, ev) :: es), ks, putW fr o.dst w, hp2, nw2⟩)
    | none => none
  | some false => some (b, ⟨.fl ops l (i + 1) es, ks, putW fr o.dst .undef, hp, nw⟩)
  | none => none
def advN (C : Cfg) (G : Nat -> Option W) : Nat -> Bool -> Sit -> Option (Bool × Sit)
 | 0, b, s => some (b, s)
 | n + 1, b, s => match adv C G b s with
  | some (b', s') => advN C G n b' s'
  | none => none
section
variable {C : Cfg} {G : Nat -> Option W} {m k0 : Nat} {rd : Bool} {R : Res} {Q : qyq}
theorem advC_ok {ks : List Kt} {fr : FrW} {hp : HpW} {nw : Nat} {c : Code} {s' : Sit} (h : advC C G ks fr hp nw c = some s') (g : GoW C G m k0 rd s' R Q) : CoW C G m k0 rd c fr hp nw R (QK C G m k0 rd ks Q) := by
 unfold advC at h
 split at h
 ·cases h; exact zMq g
 ·cases h; exact yrq g
 ·cases h; exact qwq g
 ·cases h; exact co_label g
 ·cases h; exact jMq g
 ·cases h; exact co_goto g
 ·cases h; exact co_ret g
 ·cases h; exact zrq g
 ·cases h; exact jhq g
 ·split at h
  ·rename_i hc; cases h; exact co_true hc g
  ·rename_i hc; cases h; exact co_false hc g
  ·cases h
 ·cases h
theorem advX_ok {ks : List Kt} {fr : FrW} {hp : HpW} {nw : Nat} {x : Exit} {s' : Sit} (h : advX fr hp nw x ks = some s') (g : GoW C G m k0 rd s' R Q) : QK C G m k0 rd ks Q x fr hp nw R := by
 unfold advX at h
 split at h
 ·cases h; exact yaq g
 ·rename_i x y l hx; cases h; exact xiq (fun e => hx e) g
 ·rename_i j i l
  cases hb : Nat.beq j i with
  | true =>
   rw [hb] at h; cases h
   obtain rfl := Nat.eq_of_beq_eq_true hb
   exact Zbq g
  | false => rw [hb] at h; cases h; exact q_blkx hb g
 ·rename_i x i l hx; cases h; exact jnq (fun j e => hx j e) g
 ·cases h
theorem adv_ok {b b' : Bool} : ∀ {s s' : Sit}, adv C G b s = some (b', s') -> (b' = true -> b = true) /\ (b' = true -> GoW C G m k0 rd s' R Q -> GoW C G m k0 rd s R Q)
 | ⟨.co c, ks, fr, hp, nw⟩, s', h => by
  simp only [adv] at h
  split at h
  ·rename_i h1; cases h; exact ⟨fun e => e, fun e g => advC_ok h1 g⟩
  ·cases h
 | ⟨.ex x, ks, fr, hp, nw⟩, s', h => by
  simp only [adv] at h
  split at h
  ·rename_i h1; cases h; exact ⟨fun e => e, fun e g => advX_ok h1 g⟩
  ·cases h
 | ⟨.op _ [], ks, fr, hp, nw⟩, s', h => by cases h; exact ⟨fun e => e, fun e g => zXq g⟩
 | ⟨.op ops (o :: l), ks, fr, hp, nw⟩, s', h => by
  simp only [adv] at h
  split at h
  ·rename_i hw
   split at h
   ·rename_i w hx; cases h; exact ⟨fun e => e, fun e g => zaq hw hx g⟩
   ·split at h
    ·rename_i hx; cases h; exact ⟨fun e => e, fun e g => znq hw hx g⟩
    ·cases h
  ·rename_i hw; cases h; exact ⟨fun e => e, fun e g => op_skip hw g⟩
  ·cases h
 | ⟨.fl _ [] _ _, ks, fr, hp, nw⟩, s', h => by cases h; exact ⟨fun e => e, fun e g => khq g⟩
 | ⟨.fl ops (o :: l) i es, ks, fr, hp, nw⟩, s', h => by
  simp only [adv] at h
  split at h
  ·rename_i hw
   split at h
   ·rename_i w hx; cases h; exact ⟨fun e => e, fun e g => zcq hw hx g⟩
   ·split at h
    ·rename_i hx; cases h; exact ⟨fun e => (Bool.and_eq_true_iff.1 e).2, fun e g => yHq hw hx (Bool.and_eq_true_iff.1 e).1 g⟩
    ·cases h
  ·rename_i hw; cases h; exact ⟨fun e => e, fun e g => fl_skip hw g⟩
  ·cases h
theorem uDq : ∀ (n : Nat) {b b' : Bool} {s s' : Sit}, advN C G n b s = some (b', s') -> (b' = true -> b = true) /\ (b' = true -> GoW C G m k0 rd s' R Q -> GoW C G m k0 rd s R Q)
 | 0, _, _, _, _, h => by cases h; exact ⟨fun e => e, fun _ g => g⟩
 | n + 1, b, b', s, s', h => by
  simp only [advN] at h
  split at h
  ·rename_i b1 s1 h1
   obtain ⟨a1, a2⟩ := adv_ok (m := m) (k0 := k0) (rd := rd) (R := R) (Q := Q) h1
   obtain ⟨c1, c2⟩ := uDq n h
   exact ⟨fun e => a1 (c1 e), fun e g => a2 (c1 e) (c2 e g)⟩
  ·cases h
variable {b : Bool} {s : Sit} {c : Code} {ops : Array Oper} {l : List Oper} {i : Nat} {es : List (Nat × EvW)} {x : Exit} {ks : List Kt} {fr : FrW} {hp : HpW} {nw : Nat}
theorem zhq (n : Nat) (h : advN C G n true ⟨.co c, [], fr, hp, nw⟩ = some (b, s)) (g : GoW C G m k0 rd s R Q) (hb : b = true := by first | rfl | kernel_rfl) : CoW C G m k0 rd c fr hp nw R Q := (uDq n h).2 hb g
theorem zeq (n : Nat) (h : advN C G n true ⟨.co c, ks, fr, hp, nw⟩ = some (b, s)) (g : GoW C G m k0 rd s R Q) (hb : b = true := by first | rfl | kernel_rfl) : CoW C G m k0 rd c fr hp nw R (QK C G m k0 rd ks Q) := (uDq n h).2 hb g
theorem yLq (n : Nat) (h : advN C G n true ⟨.op ops l, [], fr, hp, nw⟩ = some (b, s)) (g : GoW C G m 0 false s R Q) (hb : b = true := by first | rfl | kernel_rfl) : OpW C G m ops l fr hp nw R fun fr hp nw R => Q .normal fr hp nw R := (uDq n h).2 hb g
theorem zbq (n : Nat) (h : advN C G n true ⟨.op ops l, ks, fr, hp, nw⟩ = some (b, s)) (g : GoW C G m k0 rd s R Q) (hb : b = true := by first | rfl | kernel_rfl) : OpW C G m ops l fr hp nw R fun fr hp nw R => QK C G m k0 rd ks Q .normal fr hp nw R := (uDq n h).2 hb g
theorem zuq (n : Nat) (h : advN C G n true ⟨.fl ops l i es, ks, fr, hp, nw⟩ = some (b, s)) (g : GoW C G m k0 rd s R Q) (hb : b = true := by first | rfl | kernel_rfl) : FlW C G m ops l i es fr hp nw R fun fr hp nw R => QK C G m k0 rd ks Q .normal fr hp nw R := (uDq n h).2 hb g
theorem zDq (n : Nat) (h : advN C G n true ⟨.ex x, ks, fr, hp, nw⟩ = some (b, s)) (g : GoW C G m k0 rd s R Q) (hb : b = true := by first | rfl | kernel_rfl) : QK C G m k0 rd ks Q x fr hp nw R := (uDq n h).2 hb g
theorem q_goto {c0 rest : Code} {k l : Nat} (hr : findLabel c0 l = some rest) (h : CoW C G m k0 rd rest fr hp nw R (v8q C G m k0 rd c0 Q k)) : v8q C G m k0 rd c0 Q (k + 1) (.goto l) fr hp nw R := ⟨rest, hr, h⟩
end
attribute [simp] purW purL
@[simp] theorem purL_app : ∀ a b : List W, purL (a ++ b) = (purL a && purL b)
 | [], b => by simp
 | x :: a, b => by simp [purL_app a b, Bool.and_assoc]
theorem zkq (l : List UInt8) : (zdq l).length = l.length := by simp [zdq]
theorem vgq {l : List UInt8} {i : Nat} {c : UInt8} (h : l[i]? = some c) : (zdq l)[i]? = some (.int .u8 (.ofNat c.toNat)) := by simp [zdq, h]
@[simp] theorem y3q : ∀ l : List UInt8, purL (zdq l) = true
 | [] => rfl
 | c :: l => by simp only [zdq, List.map_cons, purL, purW, Bool.true_and]; exact y3q l
theorem yVq (a b : List UInt8) : zdq (a ++ b) = zdq a ++ zdq b := by simp [zdq]
theorem Yqq (a : List UInt8) (n : Nat) : (zdq a).take n = zdq (a.take n) := by simp [zdq, List.map_take]
theorem Yrq (a : List UInt8) (n : Nat) : (zdq a).drop n = zdq (a.drop n) := by simp [zdq, List.map_drop]
theorem bytesOf_W : ∀ l : List UInt8, jTq (zdq l) = some l
 | [] => rfl
 | c :: l => by
  have : Nat.blt c.toNat 256 = true := by simpa [Nat.blt_eq] using c.toNat_lt
  simp only [zdq, List.map_cons, jTq, this]
  have ih := bytesOf_W l
  simp only [zdq] at ih
  rw [ih]
  simp
theorem jZq {l : List W} {n m : Nat} (hn : n = l.length) (hm : m = n) : y6q 50 (.arr m 1 l) 0 n 1 = some l := by
 subst hm; subst hn
 rw [uLq (by omega), List.drop_zero, List.take_length]
theorem zGq {l : List W} {n m e : Nat} (he : 0 < e) (hn : n = l.length) (hm : m = n * e) : y6q 50 (.arr m e l) 0 n e = some l := by
 subst hm; subst hn
 unfold y6q
 have : (Nat.beq e e && Nat.beq (0 % e) 0 && Nat.ble (0 + l.length * e) (l.length * e) && Nat.blt 0 e) = true := by
  simp [Nat.blt_eq, he]
 simp only [this]
 simp
def dW (k : Dig) : W := .arr 32 1 (zdq k.1)
@[simp] theorem dW_pur (k : Dig) : purW (dW k) = true := y3q _
theorem dW_agg (k : Dig) : (dW k).isAgg = true := rfl
theorem dW_at (k : Dig) {i : Nat} (h : i < 32) : (zdq k.1)[i]? = some (.int .u8 (kn k i : Nat)) := by
 have : i < k.1.length := by rw [k.2]; exact h
 rw [vgq (List.getElem?_eq_getElem this)]
 simp [kn, this]
theorem dW_get (k : Dig) {i : Nat} (h : i < 32) : ypq 50 (dW k) (i * 1) 1 false = some (.int .u8 (kn k i : Nat)) := by
 rw [Nat.mul_one]; exact yUq (dW_at k h) rfl
theorem dW_set (k : Dig) (i : Nat) {n : Nat} (h : n < 256) : (zdq k.1).set i (.int .u8 (n : Int)) = zdq (setD k i (UInt8.ofNat n)).1 := by
 have : (UInt8.ofNat n).toNat = n := by simp; omega
 simp [zdq, setD, List.map_set, this]
theorem kn_eq {a b : Dig} (i : Nat) (h : i < 32) : kn a i = kn b i ↔ a.1[i]? = b.1[i]? := by
 have ha : i < a.1.length := by rw [a.2]; exact h
 have hb : i < b.1.length := by rw [b.2]; exact h
 simp [kn, ha, hb, UInt8.toNat_inj]
theorem eq_digE {C : Cfg} {e : TypeId} {j : TyI} (he : C.ty e = some j) (hj : j.d = .int .u8) (hs : j.size = 1) (hg : j.agg = false) (a b : Dig) : ∀ (n k f : Nat), n + 1 < f -> k + n = 32 -> Q3q C f e j n k (dW a) (dW b) = some (decide (a.1.drop k = b.1.drop k))
 | 0, k, 0, h, _ => by omega
 | 0, k, f + 1, h, hk => by
  simp only [Q3q]
  rw [List.drop_of_length_le (by rw [a.2]; omega), List.drop_of_length_le (by rw [b.2]; omega)]
  simp
 | n + 1, k, 0, h, _ => by omega
 | n + 1, k, 1, h, _ => by omega
 | n + 1, k, f + 2, h, hk => by
  have ha : k < a.1.length := by rw [a.2]; omega
  have hb : k < b.1.length := by rw [b.2]; omega
  have h1 := dW_get a (i := k) (by omega)
  have h2 := dW_get b (i := k) (by omega)
  have ih := eq_digE he hj hs hg a b n (k + 1) (f + 1) (by omega) (by omega)
  have e3 : eqW C (f + 1) e (.int .u8 (kn a k : Nat)) (.int .u8 (kn b k : Nat)) = some (eqI (kn a k : Nat) (kn b k : Nat)) := by
   simp only [eqW, he, hj, decide_true]
  have e4 := kn_eq (a := a) (b := b) k (by omega)
  rw [List.getElem?_eq_getElem ha, List.getElem?_eq_getElem hb, Option.some.injEq] at e4
  simp only [Q3q, hs, hg, h1, h2, e3]
  rw [List.drop_eq_getElem_cons ha, List.drop_eq_getElem_cons hb]
  rw [eqI_dec]
  by_cases q : kn a k = kn b k
  ·rw [show decide (((kn a k : Nat) : Int) = (kn b k : Nat)) = true by simp [q]]
   simp only [ih]
   congr 1
   rw [decide_eq_decide, List.cons.injEq]
   simp only [e4.1 q, true_and]
  ·rw [show decide (((kn a k : Nat) : Int) = (kn b k : Nat)) = false by simp; omega]
   simp only
   have : ¬ a.1[k] = b.1[k] := fun h => q (e4.2 h)
   rw [decide_eq_false fun h => this (List.cons.inj h).1]
theorem qFq {C : Cfg} {t e : TypeId} {i j : TyI} (ht : C.ty t = some i) (hi : i.d = .arr 32 e) (he : C.ty e = some j) (hj : j.d = .int .u8) (hs : j.size = 1) (hg : j.agg = false) (a b : Dig) (f : Nat) : eqW C (f + 50) t (dW a) (dW b) = some (decide (a = b)) := by
 have h := eq_digE he hj hs hg a b 32 0 (f + 49) (by omega) rfl
 rw [show f + 50 = (f + 49) + 1 from rfl]
 simp only [eqW, ht, hi, dW_agg, Bool.and_self, he, h, List.drop_zero]
 congr 1
 simp [Subtype.ext_iff]
theorem vJq : W.arr 32 1 (List.replicate 32 (.int .u8 (.ofNat 0))) = dW jkq := by
 unfold dW jkq
 simp [zdq]
theorem jaq {blk : Nat -> Option W} : View blk (.arr 32 1 (List.replicate 32 (.int .u8 (.ofNat 0)))) (dW jkq) := by rw [vJq]; exact .pur (dW_pur _)
def bW (l : List UInt8) : W := .fz (zdq l) 1 false
@[simp] theorem bW_pur (l : List UInt8) : purW (bW l) = true := y3q l
theorem ynq {α : Type} {l : List α} {i : Nat} {x : α} (f : α -> W) (h : l[i]? = some x) : (l.map f)[i]? = some (f x) := by simp [h]
theorem xzq {α : Type} {f : α -> W} (h : ∀ x, purW (f x) = true) : ∀ l : List α, purL (l.map f) = true
 | [] => rfl
 | x :: l => by simp only [List.map_cons, purL, h x, Bool.true_and]; exact xzq h l
theorem get_in {n e i off k f : Nat} {ag : Bool} {l : List W} {x y : W} (h : l[i]? = some x) (he : 0 < e) (hk : off < e) (hne : (Nat.beq (0 + i * e + off) 0 && Nat.beq k n && ag == true) = false) (hx : ypq f x off k ag = some y) : ypq (f + 1) (.arr n e l) (0 + i * e + off) k ag = some y := by
 unfold ypq
 have h1 : (Nat.beq (0 + i * e + off) 0 && Nat.beq k (W.arr n e l).size && ag == (W.arr n e l).isAgg) = false := hne
 have h2 : (0 + i * e + off) / e = i := by rw [Nat.zero_add, Nat.mul_comm, Nat.mul_add_div he, Nat.div_eq_of_lt hk, Nat.add_zero]
 have h3 : (0 + i * e + off) % e = off := by rw [Nat.zero_add, Nat.mul_comm, Nat.mul_add_mod, Nat.mod_eq_of_lt hk]
 rw [h1]
 simp only [h2, h3, h]
 exact hx
theorem put_in {n e i off f : Nat} {l : List W} {x x' y : W} (h : l[i]? = some x) (he : 0 < e) (hk : off < e) (hne : (Nat.beq (0 + i * e + off) 0 && Nat.beq y.size n && y.isAgg == true) = false) (hx : qTq f x off y = some x') : qTq (f + 1) (.arr n e l) (0 + i * e + off) y = some (.arr n e (l.set i x')) := by
 unfold qTq
 have h1 : (Nat.beq (0 + i * e + off) 0 && Nat.beq y.size (W.arr n e l).size && y.isAgg == (W.arr n e l).isAgg) = false := hne
 have h2 : (0 + i * e + off) / e = i := by rw [Nat.zero_add, Nat.mul_comm, Nat.mul_add_div he, Nat.div_eq_of_lt hk, Nat.add_zero]
 have h3 : (0 + i * e + off) % e = off := by rw [Nat.zero_add, Nat.mul_comm, Nat.mul_add_mod, Nat.mod_eq_of_lt hk]
 rw [h1]
 simp only [h2, h3, h, hx]
theorem set_same {α : Type} {l : List α} {i : Nat} {x : α} (h : l[i]? = some x) : l.set i x = l := by
 apply List.ext_getElem?
 intro j
 rw [List.getElem?_set]
 split
 ·rename_i e; subst e
  obtain ⟨hl, _⟩ := List.getElem?_eq_some_iff.1 h
  rw [if_pos hl, h]
 ·rfl
section
variable {C : Cfg} {f : Nat} {t : TypeId} {i : TyI} {x y a b : W} {p q : Bool}
theorem eq_int {k : IntKind} {m n : Int} (hi : C.ty t = some i) (hd : i.d = .int k) : eqW C (f + 1) t (.int k m) (.int k n) = some (decide (m = n)) := by
 simp only [eqW, hi, hd, decide_true]
 rw [eqI_dec]
theorem eqFs_nil : Zcq C (f + 1) [] x y = some true := by simp only [Zcq]
theorem eqFs_step {off : Nat} {fs : List (TypeId × Nat)} (hi : C.ty t = some i) (ha : ypq 50 x off i.size i.agg = some a) (hb : ypq 50 y off i.size i.agg = some b) (he : eqW C f t a b = some p) (hr : Zcq C f fs x y = some q) : Zcq C (f + 1) ((t, off) :: fs) x y = some (p && q) := by
 simp only [Zcq, hi, ha, hb, he]
 cases p
 ·rfl
 ·simp only [Bool.true_and]; exact hr
theorem eq_struct {fs : List (TypeId × Nat)} (hi : C.ty t = some i) (hd : i.d = .struct fs) (ha : x.isAgg = true) (hb : y.isAgg = true) (h : Zcq C f fs x y = some p) : eqW C (f + 1) t x y = some p := by
 simp only [eqW, hi, hd, ha, hb, Bool.and_self, h]
end
end
section
open Go.RowKit Go.ChangeShapes Go.WideShapes
mutual
/-- cells of the memory at the start that hold what a value says -/
def HC (W0 : World) : W -> List Value -> Prop
 | .bool b, cs => cs = [.bool b]
 | .int k n, cs => cs = [.int k n]
 | .agg n l, cs => cs.length = n /\ HCL W0 l cs
 | .arr n e l, cs => cs.length = n /\ (∀ x ∈ l, x.size = e) /\ l.length * e = n /\ HCL W0 l cs
 | .str x, cs => cs = [.string ⟨⟨x⟩⟩]
 | .fz l e f, cs => f = false /\ ((l = [] /\ cs = [.slice none 0 0]) \/ (l = [] /\ 0 < e /\ ∃ (a : Addr) (bn : Nat) (cs' : Array Value) (ty : TypeId) (fz : Nat × Nat), cs = [.slice (some a) 0 0] /\ W0.heap[bn]? = some (.cells cs' ty fz)) \/ ∃ (a : Addr) (cap : Nat), cs = [.slice (some a) l.length cap] /\ l.length <= cap /\ a.spot = none /\ 0 < e /\ (∀ x ∈ l, x.size = e) /\
   ∃ (pre mid tail : List Value) (ty : TypeId) (fz : Nat × Nat), W0.heap[a.block]? = some (.cells (pre ++ (mid ++ tail)).toArray ty fz) /\ pre.length = a.off /\ HCL W0 l mid)
 | _, _ => False
def HCL (W0 : World) : List W -> List Value -> Prop
 | [], cs => cs = []
 | x :: l, cs => ∃ a b, cs = a ++ b /\ HC W0 x a /\ HCL W0 l b
end
theorem HC.len {W0 : World} {w : W} {cs : List Value} (h : HC W0 w cs) : cs.length = w.size := by
 cases w <;> simp only [HC] at h <;> first
  | (subst h; rfl)
  | exact h.1
  | exact h.elim
  | (rcases h with ⟨_, ⟨_, rfl⟩ | ⟨_, _, _, _, _, _, _, rfl, _⟩ | ⟨a, cap, rfl, _⟩⟩ <;> rfl)
structure Start (W0 : World) (h : Heap) (ρ : Env) : Prop where
 wf : ∀ i, h.next <= i -> h.get i = none
 ro : ∀ i b, h.get i = some b -> ∃ v o, b = .ro v /\ W0.heap[ρ.b i]? = some o /\ KnB ρ i b o /\ InB (DD (fun i => i < h.next) ρ) b
theorem Start.rel {W0 : World} {h : Heap} {ρ : Env} (s : Start W0 h ρ) {U : Nat} (hU : h.next <= U) : Rel W0 U (fun i => i < h.next) ρ h W0 := by
 refine ⟨fun i hi => .inl hi, s.wf, fun i b _ hb => ?_, fun i b _ hb => ?_, fun i j b c _ _ hb _ ho => ?_, fun i b _ hb ho => ?_, fun i j b c _ _ _ hc _ ho => ?_, Below.refl _ _⟩
 ·obtain ⟨v, o, rfl, h1, h2, h3⟩ := s.ro i b hb
  exact ⟨o, h1, h2⟩
 ·obtain ⟨v, o, rfl, h1, h2, h3⟩ := s.ro i b hb
  exact h3
 ·obtain ⟨v, o, rfl, _⟩ := s.ro i b hb
  cases ho
 ·obtain ⟨v, o, rfl, _⟩ := s.ro i b hb
  cases ho
 ·obtain ⟨v, o, rfl, _⟩ := s.ro j c hc
  cases ho
theorem law1 {P : Program} {C : Cfg} {G : Nat -> Option W} (hmx : P.follows .mixedOrders = true) (hC : CfgOK P C) (hF : FnsOK P C) (hK : vPq P C) {f : FuncId} {ws : List W} (sp : PS C G f ws (.bool true)) {W0 : World} {h : Heap} {ρ : Env} {vs : List V} (s : Start W0 h ρ)
  (gl : GlobOK C (DD (fun i => i < h.next) ρ) ρ) (gr : GRel C G ⟨0, fun i => i, fun i => i < h.next, h⟩) (hin : InDL (DD (fun i => i < h.next) ρ) vs) (hv : RVL ⟨0, fun i => i, fun i => i < h.next, h⟩ ws vs) :
  Calls P f (ylq ρ vs).toArray W0 fun e w' => e = .returned (.bool true) /\ Below W0.heap.size W0 w' := by
 obtain ⟨n, v, Γ', X', w, hp', R', g1, g2, g3, g4, g5, rfl⟩ := sp Res.none ⟨0, fun i => i, fun i => i < h.next, h⟩ (fun _ => False) vs rfl
  ⟨s.wf, fun b ty w hb => by simp [hget] at hb, fun b b' x y hb => by simp [hget] at hb, List.nodup_nil, fun _ _ h => h, fun _ h => h.elim, fun _ h => h, trivial, gr⟩ hv
 refine (run_calls hmx hC hF hK g1 gl hin (s.rel g3.next)).mono fun e w' => ?_
 rintro ⟨D', ρ', rfl, hb, _⟩
 have hvb : v = .bool true := by
  have := g4.one rfl
  simpa [RS] using this
 subst hvb
 exact ⟨rfl, hb⟩
end
section
open Go.RowKit
structure Later (h : Heap) (ρ : Env) (h' : Heap) (ρ' : Env) : Prop where
 next : h.next <= h'.next
 get : ∀ i, i < h.next -> h'.get i = h.get i
 env : ∀ i, i < h.next -> ρ'.b i = ρ.b i /\ ρ'.pre i = ρ.pre i /\ ρ'.cap i = ρ.cap i /\ ρ'.l i = ρ.l i
theorem Later.refl (h : Heap) (ρ : Env) : Later h ρ h ρ := ⟨Nat.le_refl _, fun _ _ => rfl, fun _ _ => ⟨rfl, rfl, rfl, rfl⟩⟩
theorem Later.trans {h1 h2 h3 : Heap} {ρ1 ρ2 ρ3 : Env} (a : Later h1 ρ1 h2 ρ2) (b : Later h2 ρ2 h3 ρ3) : Later h1 ρ1 h3 ρ3 :=
 ⟨Nat.le_trans a.next b.next, fun i hi => (b.get i (Nat.lt_of_lt_of_le hi a.next)).trans (a.get i hi), fun i hi => by
  obtain ⟨p1, p2, p3, p4⟩ := a.env i hi
  obtain ⟨q1, q2, q3, q4⟩ := b.env i (Nat.lt_of_lt_of_le hi a.next)
  exact ⟨q1.trans p1, q2.trans p2, q3.trans p3, q4.trans p4⟩⟩
def ctx0 (h : Heap) : Ctx := ⟨0, fun i => i, fun i => i < h.next, h⟩
theorem Later.le {h h' : Heap} {ρ ρ' : Env} (a : Later h ρ h' ρ') : (ctx0 h).Le (ctx0 h') :=
 ⟨Nat.le_refl _, fun _ _ => rfl, fun c hc => Nat.lt_of_lt_of_le hc a.next, fun c hc => by
  show h'.val c = h.val c
  unfold Heap.val
  rw [a.get c hc]⟩
theorem Later.agree {h h' : Heap} {ρ ρ' : Env} (a : Later h ρ h' ρ') : Env.Agree (DD (fun i => i < h.next) ρ) ρ ρ' := fun i m hi => a.env i hi.1
def Env.more (ρ : Env) (n bn pre cap : Nat) (z : Option Addr) : Env := ⟨fun i => if i = n then bn else ρ.b i, fun i => if i = n then pre else ρ.pre i, fun i => if i = n then cap else ρ.cap i, fun i => if i = n then (bn, z) else ρ.l i⟩
theorem vCq (h : Heap) (ρ : Env) (v : V) (bn pre cap : Nat) (z : Option Addr) : Later h ρ (h.push (.ro v)) (ρ.more h.next bn pre cap z) := by
 refine ⟨Nat.le_succ _, fun i hi => ?_, fun i hi => ?_⟩
 ·rw [Heap.get_push, if_neg (by omega)]
 ·have e : i ≠ h.next := by omega
  simp only [Env.more, if_neg e, and_self]
theorem Start.push {W0 : World} {h : Heap} {ρ : Env} (s : Start W0 h ρ) (z : Option Addr) {v : V} {bn cap : Nat} {pre tail : List Value} {ty : TypeId} {fz : Nat × Nat} (ho : W0.heap[bn]? = some (.cells (pre ++ (cellsV ρ v ++ tail)).toArray ty fz)) (hv : InD (DD (fun i => i < h.next) ρ) v) (hc : v.size <= cap) : Start W0 (h.push (.ro v)) (ρ.more h.next bn pre.length cap z) := by
 have la := vCq h ρ v bn pre.length cap z
 have mono : ∀ i m, DD (fun i => i < h.next) ρ i m -> DD (fun i => i < (h.push (.ro v)).next) (ρ.more h.next bn pre.length cap z) i m := fun i m hi => ⟨Nat.lt_of_lt_of_le hi.1 la.next, by rw [(la.env i hi.1).2.2.1]; exact hi.2⟩
 refine ⟨fun i hi => ?_, fun i b hb => ?_⟩
 ·have hi : h.next + 1 <= i := hi
  rw [Heap.get_push, if_neg (by omega)]
  exact s.wf i (by omega)
 ·rw [Heap.get_push] at hb
  split at hb
  ·rename_i e
   cases hb
   subst e
   refine ⟨v, _, rfl, by simp only [Env.more, if_true]; exact ho, ⟨pre, tail, ty, fz, ?_, by simp [Env.more], by simp only [Env.more, if_true]; exact hc⟩, InD.mono mono hv⟩
   rw [qmq la.agree hv]
  ·obtain ⟨v', o, rfl, h1, h2, h3⟩ := s.ro i b hb
   have hi : i < h.next := Nat.lt_of_not_le fun q => by rw [s.wf i q] at hb; cases hb
   exact ⟨v', o, rfl, by rw [(la.env i hi).1]; exact h1, h2.agree la.agree (m := 0) ⟨hi, Nat.zero_le _⟩ h3, InB.mono mono h3⟩
theorem Start.ghost {W0 : World} {h : Heap} {ρ : Env} (s : Start W0 h ρ) {bn : Nat} {cs : Array Value} {ty : TypeId} {fz : Nat × Nat} (ho : W0.heap[bn]? = some (.cells cs ty fz)) (a : Addr) : Start W0 (h.push (.ro (.agg 0 []))) (ρ.more h.next bn 0 0 (some a)) := by
 refine Start.push s (some a) (v := .agg 0 []) (pre := []) (tail := cs.toList) (ty := ty) (fz := fz) ?_ trivial (Nat.le_refl _)
 rw [ho]
 simp [cellsV, fit]
structure Opnd (W0 : World) (h : Heap) (ρ : Env) (cs : List Value) (s : List V) (h' : Heap) (ρ' : Env) : Prop where
 la : Later h ρ h' ρ'
 st : Start W0 h' ρ'
 eq : cs = s.map (conc ρ')
 leaf : ∀ v ∈ s, v.leaf = true
 ind : InDL (DD (fun i => i < h'.next) ρ') s
theorem Later.dd {h h' : Heap} {ρ ρ' : Env} (a : Later h ρ h' ρ') : ∀ i m, DD (fun i => i < h.next) ρ i m -> DD (fun i => i < h'.next) ρ' i m := fun i m hi => ⟨Nat.lt_of_lt_of_le hi.1 a.next, by rw [(a.env i hi.1).2.2.1]; exact hi.2⟩
theorem Later.map {h h' : Heap} {ρ ρ' : Env} (a : Later h ρ h' ρ') {s : List V} (hs : InDL (DD (fun i => i < h.next) ρ) s) : s.map (conc ρ') = s.map (conc ρ) := by
 rw [<- k7q, <- k7q, qGq a.agree hs]
theorem InDL_app {D : Nat -> Nat -> Prop} {a b : List V} (ha : InDL D a) (hb : InDL D b) : InDL D (a ++ b) := InDL_iff.2 fun v hv => by
 rcases List.mem_append.1 hv with h | h
 ·exact InDL_iff.1 ha v h
 ·exact InDL_iff.1 hb v h
theorem Qfq {ρ : Env} : ∀ {s : List V}, (∀ v ∈ s, v.leaf = true) -> jHq ρ s = s.map (conc ρ)
 | [], _ => rfl
 | v :: s, h => by
  rw [jHq, k8q (h v (List.mem_cons_self ..)), Qfq (s := s) fun x hx => h x (List.mem_cons_of_mem _ hx)]; rfl
theorem Ypq {ρ : Env} {s : List V} (h : ∀ v ∈ s, v.leaf = true) : cellsV ρ (.agg s.length s) = s.map (conc ρ) := by
 simp only [cellsV, Qfq h]
 exact qhq (by simp)
theorem Y5q {s : List V} (h : ∀ v ∈ s, v.leaf = true) : zwq (.agg s.length s) = s := Zmq (fun x hx => V.leaf_agg (h x hx)) rfl
theorem HCL.len {W0 : World} : ∀ {l : List W} {cs : List Value}, HCL W0 l cs -> cs.length = sumW l
 | [], cs, h => by simp only [HCL] at h; subst h; rfl
 | x :: l, cs, h => by
  simp only [HCL] at h
  obtain ⟨a, b, rfl, h1, h2⟩ := h
  rw [List.length_append, HC.len h1, HCL.len h2]; rfl
mutual
theorem open_w {W0 : World} : ∀ (w : W) {cs : List Value} {h : Heap} {ρ : Env}, HC W0 w cs -> Start W0 h ρ -> ∃ h' ρ' s, Opnd W0 h ρ cs s h' ρ' /\ RS (ctx0 h') w s
 | .bool b, cs, h, ρ, hc, st => by
  simp only [HC] at hc; subst hc
  exact ⟨h, ρ, [.bool b], ⟨Later.refl _ _, st, by simp [conc], by simp [V.leaf], ⟨trivial, trivial⟩⟩, by simp [RS]⟩
 | .int k n, cs, h, ρ, hc, st => by
  simp only [HC] at hc; subst hc
  exact ⟨h, ρ, [.int k n], ⟨Later.refl _ _, st, by simp [conc], by simp [V.leaf], ⟨trivial, trivial⟩⟩, by simp [RS]⟩
 | .str x, cs, h, ρ, hc, st => by
  simp only [HC] at hc; subst hc
  exact ⟨h, ρ, [.str x], ⟨Later.refl _ _, st, by simp [conc], by simp [V.leaf], ⟨trivial, trivial⟩⟩, by simp [RS]⟩
 | .agg n l, cs, h, ρ, hc, st => by
  simp only [HC] at hc
  obtain ⟨h', ρ', s, o, r⟩ := open_l l hc.2 st
  exact ⟨h', ρ', s, o, by simp only [RS]; exact ⟨by rw [<- hc.1, o.eq]; simp, r⟩⟩
 | .arr n e l, cs, h, ρ, hc, st => by
  simp only [HC] at hc
  obtain ⟨h', ρ', s, o, r⟩ := open_l l hc.2.2.2 st
  exact ⟨h', ρ', s, o, by simp only [RS]; exact ⟨by rw [<- hc.1, o.eq]; simp, hc.2.1, r⟩⟩
 | .fz l e f, cs, h, ρ, hc, st => by
  simp only [HC] at hc
  obtain ⟨rfl, ⟨rfl, rfl⟩ | ⟨rfl, he, a, bn, cs', ty, fz, rfl, ho⟩ | ⟨a, cap, rfl, hle, hsp, he, hsz, pre, mid, tail, ty, fz, ho, hpre, hl⟩⟩ := hc
  ·exact ⟨h, ρ, [.nils], ⟨Later.refl _ _, st, by simp [conc], by simp [V.leaf], ⟨trivial, trivial⟩⟩, by simp [RS]⟩
  ·have la := vCq h ρ (.agg 0 []) bn 0 0 (some a)
   refine ⟨_, _, [.sl h.next 1 0 0 e (some 0)], ⟨la, st.ghost ho a, ?_, by simp [V.leaf], ⟨⟨he, Nat.le_refl _, Nat.lt_succ_self _, by simp⟩, trivial⟩⟩, ?_⟩
   ·simp [conc, yNq, yKq, vnq, Env.more]
   ·simp only [RS]
    refine .inr ⟨h.next, 1, 0, some 0, .agg 0 [], rfl, fun h => (by cases h), Nat.lt_succ_self _, ?_, rfl, by simp [V.size], by simp, ?_⟩
    ·simp [ctx0, Heap.val, Heap.get_push]
    ·simp [RSL]
  ·obtain ⟨h1, ρ1, s, o, r⟩ := open_l l hl st
   have hlen : s.length = l.length * e := by
    have h1 := HCL.len hl
    rw [koq hsz, o.eq, List.length_map] at h1
    exact h1
   have la := vCq h1 ρ1 (.agg s.length s) a.block a.off (cap * e) none
   have hcl : l.length * e <= cap * e := Nat.mul_le_mul_right e hle
   have stp : Start W0 (h1.push (.ro (.agg s.length s))) (ρ1.more h1.next a.block a.off (cap * e) none) := by
    rw [<- hpre]
    refine o.st.push none (tail := tail) (ty := ty) (fz := fz) ?_ o.ind (by show s.length <= cap * e; omega)
    rw [Ypq o.leaf, <- o.eq]; exact ho
   refine ⟨_, _, [.sl h1.next 0 0 l.length e (some cap)], ⟨o.la.trans la, stp, ?_, by simp [V.leaf], ⟨⟨he, hle, Nat.lt_succ_self _, by simp [Env.more]⟩, trivial⟩⟩, ?_⟩
   ·obtain ⟨ab, ao, asp⟩ := a
    simp only at hsp
    subst hsp
    by_cases hc0 : cap = 0
    ·subst hc0
     simp [conc, yNq, yKq, Env.more]
    ·simp [conc, yNq, yKq, Env.more, hc0]
   ·simp only [RS]
    refine .inr ⟨h1.next, 0, 0, some cap, .agg s.length s, rfl, fun h => (by cases h), Nat.lt_succ_self _, ?_, rfl, by simp only [V.size]; omega, hsz, ?_⟩
    ·simp [ctx0, Heap.val, Heap.get_push]
    ·rw [List.drop_zero, Y5q o.leaf, List.take_of_length_le (by omega)]
     exact RSL.mono la.le r
 | .undef, cs, h, ρ, hc, st => by simp [HC] at hc
 | .nilp, cs, h, ρ, hc, st => by simp [HC] at hc
 | .ptr _ _, cs, h, ρ, hc, st => by simp [HC] at hc
 | .nils, cs, h, ρ, hc, st => by simp [HC] at hc
 | .sl _ _ _ _ _ _, cs, h, ρ, hc, st => by simp [HC] at hc
 | .fel _, cs, h, ρ, hc, st => by simp [HC] at hc
 | .nilm, cs, h, ρ, hc, st => by simp [HC] at hc
 | .fn _ _ _, cs, h, ρ, hc, st => by simp [HC] at hc
 | .yield _, cs, h, ρ, hc, st => by simp [HC] at hc
 | .nilf, cs, h, ρ, hc, st => by simp [HC] at hc
 | .iface _ _, cs, h, ρ, hc, st => by simp [HC] at hc
 | .nili, cs, h, ρ, hc, st => by simp [HC] at hc
 | .tup _, cs, h, ρ, hc, st => by simp [HC] at hc
theorem open_l {W0 : World} : ∀ (l : List W) {cs : List Value} {h : Heap} {ρ : Env}, HCL W0 l cs -> Start W0 h ρ -> ∃ h' ρ' s, Opnd W0 h ρ cs s h' ρ' /\ RSL (ctx0 h') l s
 | [], cs, h, ρ, hc, st => by
  simp only [HCL] at hc; subst hc
  exact ⟨h, ρ, [], ⟨Later.refl _ _, st, rfl, by simp, trivial⟩, by simp [RSL]⟩
 | x :: l, cs, h, ρ, hc, st => by
  simp only [HCL] at hc
  obtain ⟨a, b, rfl, h1, h2⟩ := hc
  obtain ⟨h1', ρ1, s1, o1, r1⟩ := open_w x h1 st
  obtain ⟨h2', ρ2, s2, o2, r2⟩ := open_l l h2 o1.st
  refine ⟨h2', ρ2, s1 ++ s2, ⟨o1.la.trans o2.la, o2.st, ?_, ?_, InDL_app (o1.ind.mono o2.la.dd) o2.ind⟩, q0q (RS.mono o2.la.le r1) r2⟩
  ·rw [List.map_append, o2.la.map o1.ind, <- o1.eq, <- o2.eq]
  ·intro v hv
   rcases List.mem_append.1 hv with h | h
   ·exact o1.leaf v h
   ·exact o2.leaf v h
end
def HV (W0 : World) (w : W) (v : Value) : Prop := match w.isAgg with
 | true => ∃ cs, v = .agg cs.toArray /\ HC W0 w cs
 | false => HC W0 w [v]
def HVL (W0 : World) : List W -> List Value -> Prop
 | [], vs => vs = []
 | w :: ws, vs => ∃ v vs', vs = v :: vs' /\ HV W0 w v /\ HVL W0 ws vs'
theorem open_v {W0 : World} {w : W} {v : Value} {h : Heap} {ρ : Env} (hv : HV W0 w v) (st : Start W0 h ρ) : ∃ h' ρ' x, Later h ρ h' ρ' /\ Start W0 h' ρ' /\ conc ρ' x = v /\ InD (DD (fun i => i < h'.next) ρ') x /\ RV (ctx0 h') w x := by
 unfold HV at hv
 split at hv
 ·rename_i ha
  obtain ⟨cs, rfl, hc⟩ := hv
  obtain ⟨h', ρ', s, o, r⟩ := open_w w hc st
  refine ⟨h', ρ', .agg s.length s, o.la, o.st, ?_, o.ind, ha, by rw [Y5q o.leaf]; exact r⟩
  rw [qYq rfl, Ypq o.leaf, <- o.eq]
 ·rename_i ha
  obtain ⟨h', ρ', s, o, r⟩ := open_w w hv st
  have hl := congrArg List.length o.eq
  simp only [List.length_cons, List.length_nil, List.length_map] at hl
  match s, hl, o, r with
  | [x], _, o, r =>
   have e := o.eq
   simp only [List.map_cons, List.map_nil, List.cons.injEq, and_true] at e
   exact ⟨h', ρ', x, o.la, o.st, e.symm, o.ind.1, RV.of_one r ha (V.leaf_agg (o.leaf x (by simp)))⟩
theorem open_vs {W0 : World} : ∀ {ws : List W} {vs : List Value} {h : Heap} {ρ : Env}, HVL W0 ws vs -> Start W0 h ρ -> ∃ h' ρ' xs, Later h ρ h' ρ' /\ Start W0 h' ρ' /\ ylq ρ' xs = vs /\ InDL (DD (fun i => i < h'.next) ρ') xs /\ RVL (ctx0 h') ws xs
 | [], vs, h, ρ, hv, st => by
  simp only [HVL] at hv; subst hv
  exact ⟨h, ρ, [], Later.refl _ _, st, rfl, trivial, by simp [RVL]⟩
 | w :: ws, vs, h, ρ, hv, st => by
  simp only [HVL] at hv
  obtain ⟨v, vs', rfl, h1, h2⟩ := hv
  obtain ⟨ha, ρa, x, la, sa, ea, ia, ra⟩ := open_v h1 st
  obtain ⟨hb, ρb, xs, lb, sb, eb, ib, rb⟩ := open_vs h2 sa
  refine ⟨hb, ρb, x :: xs, la.trans lb, sb, ?_, ⟨ia.mono lb.dd, ib⟩, ?_⟩
  ·rw [ylq, eb, y9q lb.agree ia, ea]
  ·simp only [RVL]
   exact ⟨x, xs, rfl, RV.mono lb.le ra, rb⟩
end
section
open Go.RowKit Go.ChangeShapes Go.WideShapes
inductive Sh where
 | bool
 | int (k : IntKind)
 | str
 | arr (n sz : Nat) (s : Sh)
 | st (n : Nat) (fs : List Sh)
 | sl (sz bz : Nat) (s : Sh)
def Sh.cells : Sh -> Nat
 | .arr n sz _ => n * sz
 | .st n _ => n
 | _ => 1
def Sh.agg : Sh -> Bool
 | .arr _ _ _ => true
 | .st _ _ => true
 | _ => false
def shF (g : TypeId -> Option Sh) (P : Program) : List Field -> Nat -> Option (List Sh × Nat)
 | [], off => some ([], off)
 | F :: Fs, off => match g F.type with
  | some s => match Nat.beq F.offset off && Nat.beq (P.cellsOf F.type) s.cells with
   | true => match shF g P Fs (off + s.cells) with
    | some (l, n) => some (s :: l, n)
    | none => none
   | false => none
  | none => none
def shOf (P : Program) : Nat -> TypeId -> Option Sh
 | 0, _ => none
 | d + 1, t => match P.underlying t with
  | some .bool => some .bool
  | some (.int k) => some (.int k)
  | some .string => some .str
  | some (.array n e) => match shOf P d e with
   | some s => match Nat.beq (P.cellsOf e) s.cells && Nat.beq (P.cellsOf t) (n * s.cells) with
    | true => some (.arr n s.cells s)
    | false => none
   | none => none
  | some (.slice e) => match shOf P d e with
   | some s => match Nat.beq (P.cellsOf e) s.cells && Nat.blt 0 s.cells with
    | true => some (.sl s.cells (P.bytesOf e) s)
    | false => none
   | none => none
  | some (.struct F) => match shF (shOf P d) P F.toList 0 with
   | some (l, n) => match Nat.beq (P.cellsOf t) n with
    | true => some (.st n l)
    | false => none
   | none => none
  | _ => none
mutual
/-- a value of that shape -/
def Fit : Sh -> W -> Prop
 | .bool, w => ∃ b, w = .bool b
 | .int k, w => ∃ n, w = .int k n /\ (Lit.int k n).wf = true
 | .str, w => ∃ x, w = .str x /\ x.length <= reachBytes
 | .arr n sz s, w => ∃ l, w = .arr (n * sz) sz l /\ l.length = n /\ ∀ x ∈ l, Fit s x
 | .st n fs, w => ∃ l, w = .agg n l /\ FitL fs l
 | .sl sz bz s, w => ∃ l, w = .fz l sz false /\ l.length * bz <= reachBytes /\ ∀ x ∈ l, Fit s x
def FitL : List Sh -> List W -> Prop
 | [], l => l = []
 | s :: fs, l => ∃ x l', l = x :: l' /\ Fit s x /\ FitL fs l'
end
theorem Fit.size {s : Sh} {w : W} (h : Fit s w) : w.size = s.cells := by
 cases s <;> simp only [Fit] at h
 case bool => obtain ⟨_, rfl⟩ := h; rfl
 case int => obtain ⟨_, rfl, _⟩ := h; rfl
 case str => obtain ⟨_, rfl, _⟩ := h; rfl
 all_goals (obtain ⟨_, rfl, _⟩ := h; rfl)
theorem Fit.agg {s : Sh} {w : W} (h : Fit s w) : w.isAgg = s.agg := by
 cases s <;> simp only [Fit] at h
 case bool => obtain ⟨_, rfl⟩ := h; rfl
 case int => obtain ⟨_, rfl, _⟩ := h; rfl
 case str => obtain ⟨_, rfl, _⟩ := h; rfl
 all_goals (obtain ⟨_, rfl, _⟩ := h; rfl)
def Ex0 (W0 : World) : Prop := ∃ (bn : Nat) (cs : Array Value) (ty : TypeId) (fz : Nat × Nat), W0.heap[bn]? = some (.cells cs ty fz)
theorem segs {W0 : World} {s : Sh} {sz : Nat} : ∀ (n : Nat) (L : List Value), (∀ i, i < n -> ∃ w, Fit s w /\ HC W0 w ((L.drop (i * sz)).take sz)) -> ∃ l : List W, l.length = n /\ (∀ x ∈ l, Fit s x) /\ HCL W0 l (L.take (n * sz))
 | 0, L, _ => ⟨[], rfl, by simp, by simp [HCL]⟩
 | n + 1, L, h => by
  obtain ⟨w, f, hc⟩ := h 0 (by omega)
  obtain ⟨l, h1, h2, h3⟩ := segs n (L.drop sz) (fun i hi => by
   have := h (i + 1) (by omega)
   rw [List.drop_drop, show sz + i * sz = (i + 1) * sz by rw [Nat.add_mul]; omega]
   exact this)
  refine ⟨w :: l, by simp [h1], ?_, ?_⟩
  ·intro x hx
   rcases List.mem_cons.1 hx with rfl | hx
   ·exact f
   ·exact h2 x hx
  ·simp only [HCL]
   refine ⟨L.take sz, (L.drop sz).take (n * sz), ?_, by simpa using hc, h3⟩
   rw [show (n + 1) * sz = sz + n * sz by rw [Nat.add_mul]; omega, List.take_add]
section
variable {H : Type} {enc : TypeId × Value -> H} {P : Program} {W0 : World}
theorem ksq {e : TypeId} : ∀ {l : List (DataW H)} {d : DataW H} {n : Nat}, d ∈ l -> n ∈ d.weights P e -> n ∈ DataW.weightsAll P e l
 | [], _, _, h, _ => by simp at h
 | x :: l, d, n, h, hn => by
  rw [DataW.weightsAll]
  rcases List.mem_cons.1 h with rfl | h
  ·exact List.mem_append_left _ hn
  ·exact List.mem_append_right _ (ksq h hn)
abbrev Tr0 (enc : TypeId × Value -> H) (P : Program) (W0 : World) := DataW.trod enc P W0 0 (fun _ => true) true
theorem fields {g : TypeId -> Option Sh} {m : Nat} (ih : ∀ t sh, g t = some sh -> ∀ cs x, Tr0 enc P W0 m t cs = some x -> (∀ n ∈ x.1.weights P t, n <= reachBytes) -> ((∃ a n c, Value.slice (some a) n c ∈ cs) -> Ex0 W0) -> ∃ w, Fit sh w /\ HC W0 w cs) (cs : List Value) (hE : (∃ a n c, Value.slice (some a) n c ∈ cs) -> Ex0 W0) :
  ∀ (Fs : List Field) (xs : List (DataW H × List MemPlace)) (off : Nat) (fs : List Sh) (n : Nat), shF g P Fs off = some (fs, n) -> xs.length = Fs.length -> (∀ (i : Nat) (f : Field), Fs[i]? = some f -> Tr0 enc P W0 m f.type ((cs.drop f.offset).take (P.cellsOf f.type)) = xs[i]?) ->
   (∀ n ∈ DataW.weightsEach P (Fs.map (·.type)) (xs.map (·.1)), n <= reachBytes) -> ∃ l, FitL fs l /\ HCL W0 l ((cs.drop off).take (n - off)) /\ off <= n
 | [], xs, off, fs, n, hs, hl, hx, hw => by
  simp only [shF, Option.some.injEq, Prod.mk.injEq] at hs
  obtain ⟨rfl, rfl⟩ := hs
  exact ⟨[], by simp [FitL], by simp [HCL], Nat.le_refl _⟩
 | F :: Fs, [], off, fs, n, hs, hl, hx, hw => by simp at hl
 | F :: Fs, x :: xs, off, fs, n, hs, hl, hx, hw => by
  unfold shF at hs
  split at hs
  ·rename_i s hg
   split at hs
   ·rename_i hc
    simp only [Bool.and_eq_true, Nat.beq_eq] at hc
    split at hs
    ·rename_i l' n' hr
     simp only [Option.some.injEq, Prod.mk.injEq] at hs
     obtain ⟨rfl, rfl⟩ := hs
     simp only [List.map_cons, DataW.weightsEach] at hw
     obtain ⟨l, k1, k2, k3⟩ := fields ih cs hE Fs xs (off + s.cells) l' n' hr (by simpa using hl) (fun i f hf => by
      have := hx (i + 1) f (by simpa using hf)
      simpa using this) (fun k hk => hw k (List.mem_append_right _ hk))
     have h0 := hx 0 F rfl
     simp only [List.getElem?_cons_zero] at h0
     obtain ⟨w, f1, f2⟩ := ih F.type s hg _ x h0 (fun k hk => hw k (List.mem_append_left _ hk)) (fun ⟨a, n, c, hm⟩ => hE ⟨a, n, c, List.mem_of_mem_drop (List.mem_of_mem_take hm)⟩)
     rw [hc.1, hc.2] at f2
     refine ⟨w :: l, ⟨w, l, rfl, f1, k1⟩, ?_, by omega⟩
     simp only [HCL]
     refine ⟨_, _, ?_, f2, k2⟩
     rw [show n' - off = s.cells + (n' - (off + s.cells)) by omega, List.take_add, List.drop_drop]
    ·cases hs
   ·cases hs
  ·cases hs
theorem uXq : ∀ (d : Nat) (t : TypeId) (sh : Sh), shOf P d t = some sh -> ∀ (fuel : Nat) (cs : List Value) (x : DataW H × List MemPlace), Tr0 enc P W0 fuel t cs = some x -> (∀ n ∈ x.1.weights P t, n <= reachBytes) -> ((∃ a n c, Value.slice (some a) n c ∈ cs) -> Ex0 W0) -> ∃ w, Fit sh w /\ HC W0 w cs
 | 0, t, sh, hs => by simp [shOf] at hs
 | d + 1, t, sh, hs => fun fuel cs x h hw hE => by
  unfold shOf at hs
  split at hs
  ·rename_i ht
   cases hs
   obtain ⟨b, rfl, rfl⟩ := DataW.trod_bool ht h
   exact ⟨.bool b, ⟨b, rfl⟩, by simp [HC]⟩
  ·rename_i k ht
   cases hs
   obtain ⟨n, rfl, rfl, hwf⟩ := DataW.trod_int ht h
   exact ⟨.int k n, ⟨n, rfl, hwf⟩, by simp [HC]⟩
  ·rename_i ht
   cases hs
   obtain ⟨s, rfl, rfl, hsz⟩ := DataW.trod_string ht h
   refine ⟨.str s.data.toList, ⟨_, rfl, ?_⟩, ?_⟩
   ·exact hw _ (by simp [DataW.weights])
   ·simp only [HC]
  ·rename_i n e ht
   split at hs
   ·rename_i s he
    split at hs
    ·rename_i hc
     cases hs
     simp only [Bool.and_eq_true, Nat.beq_eq] at hc
     obtain ⟨xs, m, rfl, rfl, hl, hxl, hx⟩ := DataW.trod_array ht h
     rw [hc.1] at hx
     have hw : ∀ k ∈ DataW.weightsAll P e (xs.map (·.1)), k <= reachBytes := fun k hk => hw k (by simp only [DataW.weights, ht]; exact hk)
     obtain ⟨l, l1, l2, l3⟩ := segs (W0 := W0) (s := s) (sz := s.cells) n cs (fun i hi => by
      have h1 := hx i hi
      have hlt : i < xs.length := by omega
      rw [List.getElem?_eq_getElem hlt] at h1
      exact uXq d e s he m _ _ h1 (fun k hk => hw k (ksq (List.mem_map_of_mem (List.getElem_mem hlt)) hk)) (fun ⟨a, n, c, hm⟩ => hE ⟨a, n, c, List.mem_of_mem_drop (List.mem_of_mem_take hm)⟩))
     have hcl : cs.length = n * s.cells := by rw [hl, hc.2]
     refine ⟨.arr (n * s.cells) s.cells l, ⟨l, rfl, l1, l2⟩, ?_⟩
     simp only [HC]
     refine ⟨hcl, fun x hx => (l2 x hx).size, by rw [l1], ?_⟩
     rwa [List.take_of_length_le (by omega)] at l3
    ·cases hs
   ·cases hs
  ·rename_i e ht
   split at hs
   ·rename_i s he
    split at hs
    ·rename_i hc
     cases hs
     simp only [Bool.and_eq_true, Nat.beq_eq] at hc
     obtain ⟨hce, hpos⟩ := hc
     have hpos : 0 < s.cells := blt_t hpos
     rcases DataW.trod_slice ht h with ⟨rfl, rfl⟩ | ⟨a, len, cap, elems, rest, n, rfl, rfl, rfl, hb, hl, hm, hlen, hel, hsp, _⟩
     ·exact ⟨.fz [] s.cells false, ⟨[], rfl, by simp, by simp⟩, by unfold HC; exact ⟨rfl, .inl ⟨rfl, rfl⟩⟩⟩
     ·by_cases hc0 : cap = 0
      ·subst hc0
       obtain rfl : len = 0 := by omega
       obtain ⟨bn, cs', ty, fz, ho⟩ := hE ⟨a, 0, 0, by simp⟩
       exact ⟨.fz [] s.cells false, ⟨[], rfl, by simp, by simp⟩, by unfold HC; exact ⟨rfl, .inr (.inl ⟨rfl, hpos, a, bn, cs', ty, fz, rfl, ho⟩)⟩⟩
      ·obtain ⟨hrl, hr⟩ := hsp rfl
       rw [hce] at hel hr
       have each : ∀ i, i < cap -> ∃ csi y, W0.cells? 0 (a.add (i * s.cells)) s.cells = some csi /\ Tr0 enc P W0 n e csi = some y /\ (i < len -> elems[i]? = some y) := fun i hi => by
        by_cases h1 : i < len
        ·have h2 := hel i h1
         have hlt : i < elems.length := by omega
         rw [List.getElem?_eq_getElem hlt, Option.bind_eq_some_iff] at h2
         obtain ⟨csi, q1, q2⟩ := h2
         exact ⟨csi, _, q1, q2, fun _ => List.getElem?_eq_getElem hlt⟩
        ·have h2 := hr (i - len) (by omega)
         have hlt : i - len < rest.length := by omega
         rw [List.getElem?_eq_getElem hlt, Option.bind_eq_some_iff, show len + (i - len) = i by omega] at h2
         obtain ⟨csi, q1, q2⟩ := h2
         exact ⟨csi, _, q1, q2, fun h => absurd h h1⟩
       -- the block
       obtain ⟨cs0, y0, e0, _, _⟩ := each 0 (by omega)
       obtain ⟨_, l0, c0⟩ := World.cells?_some e0
       have c1 := c0 0 hpos
       rw [Nat.zero_mul] at c1
       have ha0 : (a.add 0).add 0 = a := by simp [Addr.add]
       rw [ha0, List.getElem?_eq_getElem (by omega)] at c1
       obtain ⟨ab, ao, asp⟩ := a
       unfold World.cell? at c1
       split at c1
       ·rename_i cs' ty fz ho
        simp only at ho c1
        split at c1
        ·cases c1
        ·rename_i hsp0
         have hsp0 : asp = none := by simpa using hsp0
         subst hsp0
         obtain ⟨L, hL⟩ : ∃ L, L = cs'.toList.drop ao := ⟨_, rfl⟩
         have seg : ∀ i, i < cap -> ∀ csi, W0.cells? 0 (Addr.add ⟨ab, ao, none⟩ (i * s.cells)) s.cells = some csi -> csi = (L.drop (i * s.cells)).take s.cells := fun i hi csi hcs => by
          obtain ⟨_, q1, q2⟩ := World.cells?_some hcs
          apply List.ext_getElem?
          intro k
          by_cases hk : k < s.cells
          ·have := q2 k hk
           rw [jEq, jEq] at this
           simp only [World.cell?, ho] at this
           rw [<- this, List.getElem?_take_of_lt hk, List.getElem?_drop, hL, List.getElem?_drop, Array.getElem?_toList, Nat.add_assoc]
           simp
          ·rw [List.getElem?_eq_none (by omega), List.getElem?_eq_none (by simp; omega)]
         have hLlen : cap * s.cells <= L.length := by
          obtain ⟨csi, y, q1, _, _⟩ := each (cap - 1) (by omega)
          obtain ⟨_, q2, _⟩ := World.cells?_some q1
          have q3 := seg (cap - 1) (by omega) csi q1
          have q4 := congrArg List.length q3
          rw [q2, List.length_take, List.length_drop] at q4
          have : cap * s.cells = (cap - 1) * s.cells + s.cells := by
           have := Nat.add_mul (cap - 1) 1 s.cells
           rw [show cap - 1 + 1 = cap by omega] at this; omega
          omega
         have hw2 : ∀ k ∈ DataW.weightsAll P e (elems.map (·.1)), k <= reachBytes := fun k hk => hw k (by simp only [DataW.weights, ht]; exact List.mem_cons_of_mem _ (List.mem_append_left _ hk))
         have hw1 : (elems.length + rest.length) * P.bytesOf e <= reachBytes := hw _ (by simp only [DataW.weights, ht, List.length_map]; exact List.mem_cons_self ..)
         obtain ⟨l, l1, l2, l3⟩ := segs (W0 := W0) (s := s) (sz := s.cells) len L (fun i hi => by
          obtain ⟨csi, y, q1, q2, q3⟩ := each i (by omega)
          rw [seg i (by omega) csi q1] at q2
          exact uXq d e s he n _ _ q2 (fun k hk => hw2 k (ksq (List.mem_map_of_mem (List.mem_of_getElem? (q3 hi))) hk)) (fun _ => ⟨ab, cs', ty, fz, ho⟩))
         have hlc : len * s.cells <= cap * s.cells := Nat.mul_le_mul_right _ hl
         refine ⟨.fz l s.cells false, ⟨l, rfl, ?_, l2⟩, ?_⟩
         ·rw [l1]
          refine Nat.le_trans (Nat.mul_le_mul_right _ ?_) hw1
          omega
         ·unfold HC
          refine ⟨rfl, .inr (.inr ⟨⟨ab, ao, none⟩, cap, by rw [l1], by omega, rfl, hpos, fun x hx => (l2 x hx).size, cs'.toList.take ao, L.take (len * s.cells), L.drop (len * s.cells), ty, fz, ?_, ?_, l3⟩)⟩
          ·rw [List.take_append_drop, hL, List.take_append_drop, Array.toArray_toList]; exact ho
          ·have hq : (cs'.toList.take ao).length = min ao cs'.toList.length := List.length_take
           have := congrArg List.length hL
           rw [List.length_drop] at this
           have h2 : 0 < cap * s.cells := Nat.mul_pos (by omega) hpos
           show (cs'.toList.take ao).length = ao
           omega
       ·cases c1
    ·cases hs
   ·cases hs
  ·rename_i F ht
   split at hs
   ·rename_i fs n hF
    split at hs
    ·rename_i hc
     cases hs
     have hc := Nat.eq_of_beq_eq_true hc
     obtain ⟨xs, m, rfl, rfl, hl, hxl, hx⟩ := DataW.trod_struct ht h
     obtain ⟨l, k1, k2, k3⟩ := fields (enc := enc) (fun t sh hs cs x h1 h2 h3 => uXq d t sh hs m cs x h1 h2 h3) cs hE F.toList xs 0 fs n hF (by simpa using hxl) (fun i f hf => hx i f (by simpa using hf)) (fun k hk => hw k (by simp only [DataW.weights, ht]; exact hk))
     have hcl : cs.length = n := by rw [hl, hc]
     refine ⟨.agg n l, ⟨l, rfl, k1⟩, ?_⟩
     simp only [HC]
     refine ⟨hcl, ?_⟩
     rwa [List.drop_zero, Nat.sub_zero, List.take_of_length_le (by omega)] at k2
    ·cases hs
   ·cases hs
  ·cases hs
theorem shape_ex {b : Nat} {x : TypeId × Nat} (h : W0.shape? b = some x) : Ex0 W0 := by
 unfold World.shape? at h
 split at h
 ·rename_i cs ty fz ho; exact ⟨b, cs, ty, fz, ho⟩
 ·cases h
theorem cell_ex {r : Reach} {base : Nat} {u : TypeId} {a : Addr} {n c : Nat} (h : Cell.okWide P W0 r base u (.slice (some a) n c)) : Ex0 W0 := by
 unfold Cell.okWide at h
 split at h
 all_goals first
  | (rename_i he; cases he; done)
  | skip
 unfold Cell.ok at h
 split at h
 all_goals first
  | exact h.elim
  | (rename_i he; cases he; done)
  | skip
 rename_i he
 cases he
 obtain ⟨_, _, row, cells, hs, _⟩ := h.2.2
 exact shape_ex hs
theorem cell_one {r : Reach} {base : Nat} {u : TypeId} {v : Value} (h : Cell.okWide P W0 r base u v) : v.cells = #[v] := by
 cases v <;> first
  | rfl
  | (exfalso
     unfold Cell.okWide at h
     split at h
     all_goals first
      | (rename_i he; cases he; done)
      | skip
     unfold Cell.ok at h
     split at h
     all_goals first
      | exact h.elim
      | (rename_i he; cases he; done))
theorem row_ex {r : Reach} {base : Nat} {t : TypeId} {cs : Array Value} (h : Row.okWide P W0 r base t cs) {a : Addr} {n c : Nat} (hm : Value.slice (some a) n c ∈ cs.toList) : Ex0 W0 := by
 obtain ⟨ts, _, _, hc⟩ := h
 obtain ⟨i, hi⟩ := List.getElem?_of_mem hm
 obtain ⟨u, _, hu⟩ := hc i _ (by simpa using hi)
 exact cell_ex hu
theorem ok_agg {r : Reach} {base d : Nat} {t : TypeId} {sh : Sh} {v : Value} (hs : shOf P d t = some sh) (hv : Value.okWide P W0 r base t v) : match sh.agg with
  | true => ∃ cs : Array Value, v = .agg cs /\ Row.okWide P W0 r base t cs
  | false => Cell.okWide P W0 r base t v := by
 cases d with
 | zero => simp [shOf] at hs
 | succ d =>
  unfold shOf at hs
  unfold Value.okWide at hv
  split at hs
  ·rename_i ht; cases hs; rw [ht] at hv; exact hv
  ·rename_i k ht; cases hs; rw [ht] at hv; exact hv
  ·rename_i ht; cases hs; rw [ht] at hv; exact hv
  ·rename_i n e ht
   rw [ht] at hv
   obtain ⟨cs, rfl, _, hr⟩ := hv
   split at hs
   ·split at hs
    ·cases hs; exact ⟨cs, rfl, hr⟩
    ·cases hs
   ·cases hs
  ·rename_i e ht
   rw [ht] at hv
   split at hs
   ·split at hs
    ·cases hs; exact hv
    ·cases hs
   ·cases hs
  ·rename_i F ht
   rw [ht] at hv
   obtain ⟨cs, rfl, _, hr⟩ := hv
   split at hs
   ·split at hs
    ·cases hs; exact ⟨cs, rfl, hr⟩
    ·cases hs
   ·cases hs
  ·cases hs
theorem open_arg {r : Reach} {base d : Nat} {t : TypeId} {sh : Sh} {v : Value} {x : DataW H} {p : List MemPlace} (hs : shOf P d t = some sh) (hv : Value.okWide P W0 r base t v) (hd : DataW.Trod enc P W0 0 (fun _ => true) true t v x p) (hw : ∀ n ∈ x.weights P t, n <= reachBytes) : ∃ w, Fit sh w /\ HV W0 w v := by
 obtain ⟨fuel, hf⟩ := hd
 have hk := ok_agg hs hv
 obtain ⟨w, f, hc⟩ := uXq d t sh hs fuel _ _ hf hw (fun ⟨a, n, c, hm⟩ => by
  split at hk
  ·obtain ⟨cs, rfl, hr⟩ := hk
   exact row_ex hr hm
  ·rw [cell_one hk] at hm
   simp only [List.mem_cons, List.not_mem_nil, or_false] at hm
   rw [<- hm] at hk
   exact cell_ex hk)
 refine ⟨w, f, ?_⟩
 unfold HV
 rw [f.agg]
 generalize sh.agg = ag at hk
 cases ag with
 | true =>
  obtain ⟨cs, rfl, hr⟩ := hk
  exact ⟨cs.toList, by simp, hc⟩
 | false =>
  have hk : Cell.okWide P W0 r base t v := hk
  rw [cell_one hk] at hc
  exact hc
def shAll (P : Program) (d : Nat) : List TypeId -> Option (List Sh)
 | [] => some []
 | t :: ts => match shOf P d t, shAll P d ts with
  | some s, some l => some (s :: l)
  | _, _ => none
theorem open_all {r : Reach} {base d : Nat} : ∀ {ts : List TypeId} {shs : List Sh} {vs : List Value} {xs : List (DataW H)} {p : List MemPlace}, shAll P d ts = some shs -> (∀ (j : Nat) t v, ts[j]? = some t -> vs[j]? = some v -> Value.okWide P W0 r base t v) ->
  DataW.TrodAll enc P W0 0 (fun _ => true) true ts vs xs p -> (∀ n ∈ DataW.weightsEach P ts xs, n <= reachBytes) -> ∃ ws, FitL shs ws /\ HVL W0 ws vs
 | [], shs, vs, xs, p, hs, hv, hd, hw => by
  obtain ⟨rfl, rfl, rfl⟩ := trodAll_nil hd
  simp only [shAll, Option.some.injEq] at hs
  subst hs
  exact ⟨[], by simp [FitL], by simp [HVL]⟩
 | t :: ts, shs, vs, xs, p, hs, hv, hd, hw => by
  obtain ⟨v, vs', x, xs', p', q, rfl, rfl, rfl, h1, h2⟩ := trodAll_cons hd
  simp only [shAll] at hs
  split at hs
  ·rename_i s l e1 e2
   cases hs
   simp only [DataW.weightsEach] at hw
   obtain ⟨w, f, k⟩ := open_arg e1 (hv 0 t v Y Y) h1 (fun n hn => hw n (List.mem_append_left _ hn))
   obtain ⟨ws, fs, ks⟩ := open_all e2 (fun j t v h3 h4 => hv (j + 1) t v (by simpa using h3) (by simpa using h4)) h2 (fun n hn => hw n (List.mem_append_right _ hn))
   exact ⟨w :: ws, ⟨w, ws, rfl, f, fs⟩, ⟨v, vs', rfl, k, ks⟩⟩
  ·cases hs
def rowedAll (P : Program) : List TypeId -> Bool
 | [] => true
 | t :: ts => P.readableRec t && Nat.blt t P.types.size && rowedAll P ts
theorem Below.trodAll (hl : laidOutB P = true) {W W' : World} (hb : Below W.heap.size W W') : ∀ {ts : List TypeId} {vs : List Value} {xs : List (DataW H)} {p : List MemPlace}, rowedAll P ts = true -> DataW.TrodAll enc P W 0 (fun _ => true) true ts vs xs p -> DataW.TrodAll enc P W' 0 (fun b => decide (b < W.heap.size)) true ts vs xs p
 | [], vs, xs, p, hr, h => by
  obtain ⟨rfl, rfl, rfl⟩ := trodAll_nil h
  exact trodAll_mk0
 | t :: ts, vs, xs, p, hr, h => by
  simp only [rowedAll, Bool.and_eq_true] at hr
  obtain ⟨v, vs', x, xs', p', q, rfl, rfl, rfl, h1, h2⟩ := trodAll_cons h
  refine trodAll_cons_mk (Below.trod hl hr.1.1 (blt_t hr.1.2) h1 hb ?_) (Below.trodAll hl hb hr.2 h2)
  obtain ⟨m, hm⟩ := h1
  exact DataW.trod_lt m _ _ _ hm
end
theorem Later.glob {C : Cfg} {h h' : Heap} {ρ ρ' : Env} (la : Later h ρ h' ρ') (gl : GlobOK C (DD (fun i => i < h.next) ρ) ρ) : GlobOK C (DD (fun i => i < h'.next) ρ') ρ' := fun g hg => by
 obtain ⟨h1, h2, h3⟩ := gl g hg
 obtain ⟨e1, e2, _, _⟩ := la.env g h1.1
 exact ⟨la.dd _ _ h1, by rw [e1]; exact h2, by rw [e2]; exact h3⟩
theorem Later.grel {C : Cfg} {G : Nat -> Option W} {h h' : Heap} {ρ ρ' : Env} (la : Later h ρ h' ρ') (gr : GRel C G (ctx0 h)) : GRel C G (ctx0 h') := fun g w hg hw nw σ =>
 RV.mono (Γ := ⟨nw, σ, (ctx0 h).D, (ctx0 h).h⟩) (Γ' := ⟨nw, σ, (ctx0 h').D, (ctx0 h').h⟩) ⟨Nat.le_refl _, fun _ _ => rfl, la.le.D, la.le.val⟩ (gr g w hg hw nw σ)
theorem calls_of {P : Program} {C : Cfg} {G : Nat -> Option W} (hmx : P.follows .mixedOrders = true) (hC : CfgOK P C) (hF : FnsOK P C) (hK : vPq P C) {f : FuncId} {shs : List Sh} (ps : ∀ ws, FitL shs ws -> PS C G f ws (.bool true)) {W0 : World} {h : Heap} {ρ : Env} (s : Start W0 h ρ)
  (gl : GlobOK C (DD (fun i => i < h.next) ρ) ρ) (gr : GRel C G (ctx0 h)) {vs : List Value} (hv : ∃ ws, FitL shs ws /\ HVL W0 ws vs) :
  Calls P f vs.toArray W0 fun e w' => e = .returned (.bool true) /\ Below W0.heap.size W0 w' := by
 obtain ⟨ws, f1, hv⟩ := hv
 obtain ⟨h', ρ', xs, la, st, rfl, i, r⟩ := open_vs hv s
 exact law1 hmx hC hF hK (ps ws f1) st (la.glob gl) (la.grel gr) i r
mutual
def zCells : Sh -> List Value
 | .bool => [.bool false]
 | .int k => [.int k 0]
 | .str => [.string ⟨#[]⟩]
 | .arr n _ s => (List.replicate n (zCells s)).flatten
 | .st _ fs => zCellsL fs
 | .sl _ _ _ => [.slice none 0 0]
def zCellsL : List Sh -> List Value
 | [] => []
 | s :: l => zCells s ++ zCellsL l
end
def zVal (s : Sh) : Value := match s.agg, zCells s with
 | true, l => .agg l.toArray
 | false, v :: _ => v
 | false, [] => .bool false
end
section
open Go.RowKit
theorem QWq {α : Type} {f : α -> W} {Q : α -> Prop} : ∀ {l : List W}, (∀ x ∈ l, ∃ a, x = f a /\ Q a) -> ∃ ys : List α, l = ys.map f /\ ∀ a ∈ ys, Q a
 | [], _ => ⟨[], rfl, by simp⟩
 | x :: l, h => by
  obtain ⟨a, rfl, ha⟩ := h x (List.mem_cons_self ..)
  obtain ⟨ys, rfl, hs⟩ := QWq (l := l) fun y hy => h y (List.mem_cons_of_mem _ hy)
  exact ⟨a :: ys, rfl, fun b hb => by
   rcases List.mem_cons.1 hb with rfl | hb
   ·exact ha
   ·exact hs b hb⟩
theorem fit_u8 {w : W} (h : Fit (.int .u8) w) : ∃ c : UInt8, w = .int .u8 (.ofNat c.toNat) /\ True := by
 obtain ⟨n, rfl, hw⟩ := h
 have hb : 0 <= n /\ n <= 255 := by
  simp [Lit.wf, IntKind.min, IntKind.max, IntKind.signed, IntKind.bits] at hw
  omega
 refine ⟨UInt8.ofNat n.toNat, ?_, trivial⟩
 congr 1
 have : (UInt8.ofNat n.toNat).toNat = n.toNat := by simp; omega
 rw [this]
 show n = ((n.toNat : Nat) : Int)
 omega
theorem fit_u64 {w : W} (h : Fit (.int .u64) w) : ∃ n : Nat, w = .int .u64 (n : Int) /\ n < 18446744073709551616 := by
 obtain ⟨n, rfl, hw⟩ := h
 have hb : 0 <= n /\ n <= 18446744073709551615 := by
  simp [Lit.wf, IntKind.min, IntKind.max, IntKind.signed, IntKind.bits] at hw
  omega
 exact ⟨n.toNat, by congr 1; omega, by omega⟩
theorem fit_i64 {w : W} (h : Fit (.int .i64) w) : ∃ n : Int, w = .int .i64 n /\ -9223372036854775808 <= n /\ n <= 9223372036854775807 := by
 obtain ⟨n, rfl, hw⟩ := h
 have hb : -9223372036854775808 <= n /\ n <= 9223372036854775807 := by
  simp [Lit.wf, IntKind.min, IntKind.max, IntKind.signed, IntKind.bits] at hw
  omega
 exact ⟨n, rfl, hb⟩
theorem fit_bool {w : W} (h : Fit .bool w) : ∃ b, w = .bool b := h
theorem fit_bytes {l : List W} (h : ∀ x ∈ l, Fit (.int .u8) x) : ∃ bs : List UInt8, l = zdq bs := by
 obtain ⟨bs, rfl, _⟩ := QWq (f := fun c : UInt8 => W.int .u8 (.ofNat c.toNat)) (Q := fun _ => True) fun x hx => fit_u8 (h x hx)
 exact ⟨bs, rfl⟩
theorem fit_dig {w : W} (h : Fit (.arr 32 1 (.int .u8)) w) : ∃ k : Dig, w = dW k := by
 obtain ⟨l, rfl, hl, hx⟩ := h
 obtain ⟨bs, rfl⟩ := fit_bytes hx
 exact ⟨⟨bs, by simpa [zdq] using hl⟩, rfl⟩
theorem fit_bW {bz : Nat} {w : W} (h : Fit (.sl 1 bz (.int .u8)) w) : ∃ b : List UInt8, w = bW b /\ b.length * bz <= 140737488351232 := by
 obtain ⟨l, rfl, hl, hx⟩ := h
 obtain ⟨bs, rfl⟩ := fit_bytes hx
 exact ⟨bs, rfl, by simpa [zdq, reachBytes] using hl⟩
theorem fit_sl {α : Type} {f : α -> W} {Q : α -> Prop} {sz bz : Nat} {s : Sh} {w : W} (h : Fit (.sl sz bz s) w) (hx : ∀ x, Fit s x -> ∃ a, x = f a /\ Q a) : ∃ ys : List α, w = .fz (ys.map f) sz false /\ ys.length * bz <= 140737488351232 /\ ∀ a ∈ ys, Q a := by
 obtain ⟨l, rfl, hl, hs⟩ := h
 obtain ⟨ys, rfl, hq⟩ := QWq fun x hm => hx x (hs x hm)
 exact ⟨ys, rfl, by simpa [reachBytes] using hl, hq⟩
end
def ti1 : TyI := ⟨1, 8, .nilf, .other⟩
def ti2 : TyI := ⟨1, 8, .int .i64 0, .int .i64⟩
def ti3 : TyI := ⟨1, 8, .int .i64 0, .int .i64⟩
def ti4 : TyI := ⟨1, 1, .bool false, .bool⟩
def ti5 : TyI := ⟨1, 1, .int .u8 0, .int .u8⟩
def ti6 : TyI := ⟨1, 1, .int .u8 0, .int .u8⟩
def ti7 : TyI := ⟨4, 24, .agg 4 [.int .i64 0, .int .i64 0, .bool false, .int .u8 0], .struct [(2, 0), (3, 1), (4, 2), (6, 3)]⟩
def ti8 : TyI := ⟨4, 24, .agg 4 [.int .i64 0, .int .i64 0, .bool false, .int .u8 0], .struct [(2, 0), (3, 1), (4, 2), (6, 3)]⟩
def ti9 : TyI := ⟨1, 16, .str [], .str⟩
def ti10 : TyI := ⟨1, 16, .str [], .str⟩
def ti11 : TyI := ⟨1, 16, .str [], .str⟩
def ti12 : TyI := ⟨1, 8, .int .u64 0, .int .u64⟩
def ti15 : TyI := ⟨1, 8, .nilp, .ptr⟩
def ti16 : TyI := ⟨1, 8, .nilp, .ptr⟩
def ti17 : TyI := ⟨1, 8, .nilp, .ptr⟩
def ti20 : TyI := ⟨1, 16, .nili, .iface⟩
def ti21 : TyI := ⟨1, 4, .int .i32 0, .int .i32⟩
def ti22 : TyI := ⟨32, 32, .arr 32 1 (List.replicate 32 (.int .u8 0)), .arr 32 5⟩
def ti23 : TyI := ⟨32, 32, .arr 32 1 (List.replicate 32 (.int .u8 0)), .arr 32 5⟩
def ti24 : TyI := ⟨38, 80, .agg 38 [.int .i64 0, .int .i64 0, .int .i64 0, .int .i64 0, .int .i64 0, .int .i64 0, .arr 32 1 (List.replicate 32 (.int .u8 0))], .struct [(3, 0), (3, 1), (3, 2), (3, 3), (3, 4), (3, 5), (23, 6)]⟩
def ti25 : TyI := ⟨38, 80, .agg 38 [.int .i64 0, .int .i64 0, .int .i64 0, .int .i64 0, .int .i64 0, .int .i64 0, .arr 32 1 (List.replicate 32 (.int .u8 0))], .struct [(3, 0), (3, 1), (3, 2), (3, 3), (3, 4), (3, 5), (23, 6)]⟩
def ti26 : TyI := ⟨1, 24, .nils, .slice 90⟩
def ti27 : TyI := ⟨1, 8, .nilf, .other⟩
def ti28 : TyI := ⟨1, 24, .nils, .slice 106⟩
def ti29 : TyI := ⟨2, 32, .agg 2 [.nils, .int .i64 0], .struct [(28, 0), (3, 1)]⟩
def ti30 : TyI := ⟨2, 32, .agg 2 [.nils, .int .i64 0], .struct [(28, 0), (3, 1)]⟩
def ti31 : TyI := ⟨1, 24, .nils, .slice 199⟩
def ti32 : TyI := ⟨3, 56, .agg 3 [.agg 2 [.nils, .int .i64 0], .nils], .struct [(30, 0), (31, 2)]⟩
def ti33 : TyI := ⟨3, 56, .agg 3 [.agg 2 [.nils, .int .i64 0], .nils], .struct [(30, 0), (31, 2)]⟩
def ti34 : TyI := ⟨6, 80, .agg 6 [.int .i64 0, .bool false, .int .i64 0, .agg 3 [.agg 2 [.nils, .int .i64 0], .nils]], .struct [(3, 0), (4, 1), (3, 2), (33, 3)]⟩
def ti35 : TyI := ⟨6, 80, .agg 6 [.int .i64 0, .bool false, .int .i64 0, .agg 3 [.agg 2 [.nils, .int .i64 0], .nils]], .struct [(3, 0), (4, 1), (3, 2), (33, 3)]⟩
def ti36 : TyI := ⟨1, 24, .nils, .slice 209⟩
def ti37 : TyI := ⟨1, 24, .nils, .slice 57⟩
def ti38 : TyI := ⟨1, 24, .nils, .slice 186⟩
def ti39 : TyI := ⟨1, 8, .int .u64 0, .int .u64⟩
def ti40 : TyI := ⟨1, 24, .nils, .slice 75⟩
def ti41 : TyI := ⟨1, 24, .nils, .slice 217⟩
def ti42 : TyI := ⟨2, 32, .agg 2 [.int .i64 0, .nils], .struct [(3, 0), (41, 1)]⟩
def ti43 : TyI := ⟨2, 32, .agg 2 [.int .i64 0, .nils], .struct [(3, 0), (41, 1)]⟩
def ti44 : TyI := ⟨52, 320, .agg 52 [.agg 38 [.int .i64 0, .int .i64 0, .int .i64 0, .int .i64 0, .int .i64 0, .int .i64 0, .arr 32 1 (List.replicate 32 (.int .u8 0))], .agg 6 [.int .i64 0, .bool false, .int .i64 0, .agg 3 [.agg 2 [.nils, .int .i64 0], .nils]], .nils, .nils, .nils, .nils, .int .u64 0, .nils, .agg 2 [.int .i64 0, .nils]], .struct [(25, 0), (35, 38), (36, 44), (37, 45), (37, 46), (38, 47), (39, 48), (40, 49), (43, 50)]⟩
def ti45 : TyI := ⟨52, 320, .agg 52 [.agg 38 [.int .i64 0, .int .i64 0, .int .i64 0, .int .i64 0, .int .i64 0, .int .i64 0, .arr 32 1 (List.replicate 32 (.int .u8 0))], .agg 6 [.int .i64 0, .bool false, .int .i64 0, .agg 3 [.agg 2 [.nils, .int .i64 0], .nils]], .nils, .nils, .nils, .nils, .int .u64 0, .nils, .agg 2 [.int .i64 0, .nils]], .struct [(25, 0), (35, 38), (36, 44), (37, 45), (37, 46), (38, 47), (39, 48), (40, 49), (43, 50)]⟩
def ti46 : TyI := ⟨1, 8, .int .i64 0, .int .i64⟩
def ti48 : TyI := ⟨1, 8, .nilf, .other⟩
def ti50 : TyI := ⟨1, 8, .nilf, .other⟩
def ti51 : TyI := ⟨1, 8, .nilf, .other⟩
def ti52 : TyI := ⟨1, 8, .nilf, .other⟩
def ti53 : TyI := ⟨1, 8, .nilf, .other⟩
def ti54 : TyI := ⟨1, 8, .nilf, .other⟩
def ti55 : TyI := ⟨1, 8, .nilf, .other⟩
def ti56 : TyI := ⟨99, 120, .agg 99 [.arr 32 1 (List.replicate 32 (.int .u8 0)), .arr 32 1 (List.replicate 32 (.int .u8 0)), .int .u64 0, .int .u64 0, .int .u64 0, .arr 32 1 (List.replicate 32 (.int .u8 0))], .struct [(23, 0), (23, 32), (39, 64), (39, 65), (39, 66), (23, 67)]⟩
def ti57 : TyI := ⟨99, 120, .agg 99 [.arr 32 1 (List.replicate 32 (.int .u8 0)), .arr 32 1 (List.replicate 32 (.int .u8 0)), .int .u64 0, .int .u64 0, .int .u64 0, .arr 32 1 (List.replicate 32 (.int .u8 0))], .struct [(23, 0), (23, 32), (39, 64), (39, 65), (39, 66), (23, 67)]⟩
def ti58 : TyI := ⟨1, 8, .nilf, .other⟩
def ti59 : TyI := ⟨1, 8, .nilf, .other⟩
def ti61 : TyI := ⟨1, 8, .nilf, .other⟩
def ti63 : TyI := ⟨1, 8, .nilf, .other⟩
def ti73 : TyI := ⟨98, 112, .agg 98 [.int .i64 0, .arr 32 1 (List.replicate 32 (.int .u8 0)), .arr 32 1 (List.replicate 32 (.int .u8 0)), .arr 32 1 (List.replicate 32 (.int .u8 0)), .int .i64 0], .struct [(3, 0), (23, 1), (23, 33), (23, 65), (3, 97)]⟩
def ti75 : TyI := ⟨100, 128, .agg 100 [.int .i64 0, .bool false, .agg 98 [.int .i64 0, .arr 32 1 (List.replicate 32 (.int .u8 0)), .arr 32 1 (List.replicate 32 (.int .u8 0)), .arr 32 1 (List.replicate 32 (.int .u8 0)), .int .i64 0]], .struct [(3, 0), (4, 1), (73, 2)]⟩
def ti88 : TyI := ⟨1, 24, .nils, .slice 5⟩
def ti90 : TyI := ⟨33, 56, .agg 33 [.arr 32 1 (List.replicate 32 (.int .u8 0)), .nils], .struct [(23, 0), (88, 32)]⟩
def ti106 : TyI := ⟨36, 80, .agg 36 [.bool false, .arr 32 1 (List.replicate 32 (.int .u8 0)), .nils, .int .i64 0, .int .i64 0], .struct [(4, 0), (23, 1), (88, 33), (3, 34), (3, 35)]⟩
def ti110 : TyI := ⟨2, 16, .agg 2 [.int .u64 0, .int .u64 0], .struct [(39, 0), (39, 1)]⟩
def ti115 : TyI := ⟨1, 8, .nilp, .ptr⟩
def ti117 : TyI := ⟨2, 32, .agg 2 [.agg 2 [.nils, .int .i64 0]], .struct [(30, 0)]⟩
def ti121 : TyI := ⟨1, 8, .nilf, .other⟩
def ti123 : TyI := ⟨2, 16, .agg 2 [.nilf, .int .i64 0], .struct [(121, 0), (46, 1)]⟩
def ti125 : TyI := ⟨1, 24, .nils, .slice 123⟩
def ti128 : TyI := ⟨1, 8, .nilf, .other⟩
def ti133 : TyI := ⟨1, 24, .nils, .slice 88⟩
def ti145 : TyI := ⟨34, 48, .agg 34 [.int .u8 0, .arr 32 1 (List.replicate 32 (.int .u8 0)), .int .i64 0], .struct [(5, 0), (23, 1), (46, 33)]⟩
def ti146 : TyI := ⟨1, 24, .nils, .slice 23⟩
def ti148 : TyI := ⟨67, 120, .agg 67 [.arr 32 1 (List.replicate 32 (.int .u8 0)), .int .u8 0, .arr 32 1 (List.replicate 32 (.int .u8 0)), .nils, .nils], .struct [(23, 0), (5, 32), (23, 33), (88, 65), (146, 66)]⟩
def ti150 : TyI := ⟨101, 136, .agg 101 [.bool false, .agg 100 [.int .i64 0, .bool false, .agg 98 [.int .i64 0, .arr 32 1 (List.replicate 32 (.int .u8 0)), .arr 32 1 (List.replicate 32 (.int .u8 0)), .arr 32 1 (List.replicate 32 (.int .u8 0)), .int .i64 0]]], .struct [(4, 0), (75, 1)]⟩
def ti151 : TyI := ⟨240, 384, .agg 240 [.int .u8 0, .int .i64 0, .int .i64 0, .arr 32 1 (List.replicate 32 (.int .u8 0)), .agg 2 [.int .u64 0, .int .u64 0], .agg 34 [.int .u8 0, .arr 32 1 (List.replicate 32 (.int .u8 0)), .int .i64 0], .agg 67 [.arr 32 1 (List.replicate 32 (.int .u8 0)), .int .u8 0, .arr 32 1 (List.replicate 32 (.int .u8 0)), .nils, .nils], .int .i64 0, .agg 101 [.bool false, .agg 100 [.int .i64 0, .bool false, .agg 98 [.int .i64 0, .arr 32 1 (List.replicate 32 (.int .u8 0)), .arr 32 1 (List.replicate 32 (.int .u8 0)), .arr 32 1 (List.replicate 32 (.int .u8 0)), .int .i64 0]]]], .struct [(5, 0), (46, 1), (3, 2), (23, 3), (110, 35), (145, 37), (148, 71), (3, 138), (150, 139)]⟩
def ti186 : TyI := ⟨34, 48, .agg 34 [.int .u64 0, .arr 32 1 (List.replicate 32 (.int .u8 0)), .int .u64 0], .struct [(39, 0), (23, 1), (39, 33)]⟩
def ti196 : TyI := ⟨2, 48, .agg 2 [.nils, .nils], .struct [(38, 0), (37, 1)]⟩
def ti197 : TyI := ⟨1, 24, .nils, .slice 145⟩
def ti199 : TyI := ⟨102, 192, .agg 102 [.agg 98 [.int .i64 0, .arr 32 1 (List.replicate 32 (.int .u8 0)), .arr 32 1 (List.replicate 32 (.int .u8 0)), .arr 32 1 (List.replicate 32 (.int .u8 0)), .int .i64 0], .int .i64 0, .agg 2 [.nils, .nils], .nils], .struct [(73, 0), (3, 98), (196, 99), (197, 101)]⟩
def ti207 : TyI := ⟨1, 24, .nils, .slice 212⟩
def ti209 : TyI := ⟨1, 24, .agg 1 [.nils], .struct [(207, 0)]⟩
def ti212 : TyI := ⟨33, 56, .agg 33 [.arr 32 1 (List.replicate 32 (.int .u8 0)), .nils], .struct [(23, 0), (37, 32)]⟩
def ti213 : TyI := ⟨1, 24, .nils, .slice 150⟩
def ti215 : TyI := ⟨2, 32, .agg 2 [.nils, .bool false], .struct [(213, 0), (4, 1)]⟩
def ti216 : TyI := ⟨4, 48, .agg 4 [.int .i64 0, .int .i64 0, .agg 2 [.nils, .bool false]], .struct [(3, 0), (3, 1), (215, 2)]⟩
def ti217 : TyI := ⟨4, 48, .agg 4 [.int .i64 0, .int .i64 0, .agg 2 [.nils, .bool false]], .struct [(3, 0), (3, 1), (215, 2)]⟩
def ti242 : TyI := ⟨1, 8, .nilf, .other⟩
def ti257 : TyI := ⟨1, 8, .nilf, .other⟩
def ti260 : TyI := ⟨1, 8, .nilp, .ptr⟩
def ti261 : TyI := ⟨2, 32, .agg 2 [.agg 2 [.nils, .int .i64 0]], .struct [(30, 0)]⟩
def ti263 : TyI := ⟨1, 8, .nilf, .other⟩
def ti264 : TyI := ⟨1, 8, .nilf, .other⟩
def ti306 : TyI := ⟨1, 8, .nilf, .other⟩
def ti307 : TyI := ⟨1, 8, .nilf, .other⟩
def ti311 : TyI := ⟨2, 16, .arr 2 1 (List.replicate 2 (.int .i64 0)), .arr 2 3⟩
def ti316 : TyI := ⟨1, 8, .nilf, .other⟩
def ti324 : TyI := ⟨1, 8, .int .u64 0, .int .u64⟩
def ti326 : TyI := ⟨1, 8, .nilf, .other⟩
def ti328 : TyI := ⟨1, 24, .nils, .slice 39⟩
def ti331 : TyI := ⟨1, 8, .nilf, .other⟩
def ti341 : TyI := ⟨1, 8, .nilf, .other⟩
def ti343 : TyI := ⟨64, 64, .arr 64 32 (List.replicate 2 (.arr 32 1 (List.replicate 32 (.int .u8 0)))), .arr 2 23⟩
def ti347 : TyI := ⟨1, 8, .nilf, .other⟩
def ti348 : TyI := ⟨1, 8, .nilf, .other⟩
def ti350 : TyI := ⟨1, 4, .int .u32 0, .int .u32⟩
def ti351 : TyI := ⟨8, 32, .arr 8 1 (List.replicate 8 (.int .u32 0)), .arr 8 350⟩
def ti352 : TyI := ⟨8, 32, .arr 8 1 (List.replicate 8 (.int .u32 0)), .arr 8 350⟩
def ti355 : TyI := ⟨64, 256, .arr 64 1 (List.replicate 64 (.int .u32 0)), .arr 64 350⟩
def ti361 : TyI := ⟨1, 8, .nilf, .other⟩
def ti362 : TyI := ⟨1, 8, .nilp, .ptr⟩
def ti364 : TyI := ⟨8, 8, .arr 8 1 (List.replicate 8 (.int .u8 0)), .arr 8 5⟩
def ti369 : TyI := ⟨0, 0, .arr 0 1 (List.replicate 0 (.nilp)), .arr 0 16⟩
def ti373 : TyI := ⟨1, 1, .int .u8 0, .int .u8⟩
def ti374 : TyI := ⟨1, 1, .int .u8 0, .int .u8⟩
def ti375 : TyI := ⟨1, 8, .nilf, .other⟩
def ti376 : TyI := ⟨1, 8, .nilp, .ptr⟩
def ti377 : TyI := ⟨1, 4, .int .i32 0, .int .i32⟩
def ti378 : TyI := ⟨1, 4, .int .i32 0, .int .i32⟩
def tyT : Tr TyI := .node none (.node (some ti1) (.node (some ti3) (.node (some ti7) (.node (some ti15) (.node (some ti31) (.node (some ti63) .nil .nil) (.node none .nil (.node none (.node (some ti351) .nil .nil) .nil))) (.node none (.node none .nil (.node (some ti207) .nil .nil)) .nil)) (.node (some ti23) (.node (some ti39) (.node none (.node none (.node (some ti263) .nil .nil) .nil) (.node (some ti199) .nil .nil)) .nil) (.node (some ti55) (.node none (.node (some ti151) .nil .nil) (.node (some ti215) (.node (some ti343) .nil .nil) .nil)) (.node none (.node none (.node (some ti311) .nil .nil) .nil) (.node none (.node (some ti375) .nil .nil) .nil))))) (.node (some ti11) (.node none (.node (some ti35) .nil (.node none .nil (.node none (.node (some ti355) .nil .nil) .nil))) (.node (some ti51) .nil (.node (some ti115) (.node none (.node (some ti307) .nil .nil) .nil) .nil))) (.node (some ti27) (.node (some ti43) (.node (some ti75) .nil (.node none (.node (some ti331) .nil .nil) .nil)) .nil) (.node (some ti59) (.node none .nil (.node none (.node (some ti347) .nil .nil) .nil)) (.node (some ti123) .nil .nil))))) (.node (some ti5) (.node (some ti9) (.node (some ti17) (.node (some ti33) (.node none (.node none (.node (some ti257) .nil .nil) .nil) .nil) .nil) (.node none (.node none (.node (some ti145) .nil .nil) (.node (some ti209) .nil .nil)) (.node none .nil (.node none (.node (some ti369) .nil .nil) .nil)))) (.node (some ti25) (.node (some ti41) (.node (some ti73) .nil .nil) (.node none .nil (.node none (.node (some ti361) .nil .nil) .nil))) (.node (some ti57) (.node none .nil (.node (some ti217) .nil .nil)) (.node (some ti121) .nil (.node none (.node (some ti377) .nil .nil) .nil))))) (.node none (.node (some ti21) (.node (some ti37) (.node none (.node (some ti133) (.node (some ti261) .nil .nil) .nil) (.node (some ti197) .nil .nil)) .nil) (.node (some ti53) (.node none .nil (.node (some ti213) (.node (some ti341) .nil .nil) .nil)) (.node (some ti117) .nil (.node none (.node (some ti373) .nil .nil) .nil)))) (.node (some ti29) (.node (some ti45) .nil .nil) (.node (some ti61) .nil (.node (some ti125) .nil .nil)))))) (.node (some ti2) (.node (some ti4) (.node (some ti8) (.node (some ti16) (.node (some ti32) (.node none (.node (some ti128) .nil .nil) .nil) (.node none .nil (.node none (.node (some ti352) .nil .nil) .nil))) (.node (some ti48) .nil .nil)) (.node (some ti24) (.node (some ti40) (.node none (.node none (.node (some ti264) .nil .nil) .nil) (.node none (.node (some ti328) .nil .nil) .nil)) .nil) (.node (some ti56) (.node (some ti88) .nil (.node (some ti216) .nil .nil)) (.node none .nil (.node none (.node (some ti376) .nil .nil) .nil))))) (.node (some ti12) (.node (some ti20) (.node (some ti36) (.node none (.node none (.node (some ti260) .nil .nil) .nil) (.node (some ti196) (.node (some ti324) .nil .nil) .nil)) .nil) (.node (some ti52) (.node none (.node (some ti148) .nil .nil) (.node (some ti212) .nil .nil)) .nil)) (.node (some ti28) (.node (some ti44) .nil (.node none .nil (.node none (.node (some ti364) .nil .nil) .nil))) (.node none (.node none .nil (.node none (.node (some ti348) .nil .nil) .nil)) (.node none (.node none (.node (some ti316) .nil .nil) .nil) .nil))))) (.node (some ti6) (.node (some ti10) (.node none (.node (some ti34) .nil .nil) (.node (some ti50) (.node none (.node (some ti146) .nil .nil) .nil) (.node none (.node none (.node (some ti306) .nil .nil) .nil) (.node (some ti242) .nil .nil)))) (.node (some ti26) (.node (some ti42) .nil (.node (some ti106) .nil (.node none (.node (some ti362) .nil .nil) .nil))) (.node (some ti58) (.node (some ti90) .nil .nil) (.node none (.node (some ti186) .nil .nil) (.node none (.node (some ti378) .nil .nil) .nil))))) (.node none (.node (some ti22) (.node (some ti38) (.node none .nil (.node none (.node (some ti326) .nil .nil) .nil)) .nil) (.node (some ti54) (.node none (.node (some ti150) .nil .nil) .nil) (.node none .nil (.node none (.node (some ti374) .nil .nil) .nil)))) (.node (some ti30) (.node (some ti46) .nil (.node (some ti110) .nil .nil)) (.node none (.node none .nil (.node none (.node (some ti350) .nil .nil) .nil)) .nil)))))
def fnT : Tr Func := .node none (.node none (.node none (.node none (.node (some Tryz.f15) (.node none (.node none (.node none (.node (some Tryz.f255) .nil .nil) .nil) (.node (some Tryz.f191) .nil .nil)) (.node none (.node (some Tryz.f159) .nil .nil) .nil)) (.node (some Tryz.f47) .nil (.node (some Tryz.f111) .nil .nil))) (.node none (.node (some Tryz.f39) .nil (.node none .nil (.node (some Tryz.f231) .nil .nil))) (.node (some Tryz.f55) (.node none .nil (.node (some Tryz.f215) .nil .nil)) (.node (some Tryz.f119) (.node (some Tryz.f183) .nil .nil) (.node (some Tryz.f247) .nil .nil))))) (.node none (.node none (.node none (.node none (.node none (.node (some Tryz.f259) .nil .nil) .nil) .nil) (.node none .nil (.node (some Tryz.f227) .nil .nil))) (.node (some Tryz.f51) (.node none .nil (.node (some Tryz.f211) .nil .nil)) (.node (some Tryz.f115) (.node (some Tryz.f179) .nil .nil) (.node (some Tryz.f243) .nil .nil)))) (.node none (.node (some Tryz.f43) .nil (.node none .nil (.node (some Tryz.f235) .nil .nil))) (.node none (.node (some Tryz.f91) (.node (some Tryz.f155) .nil .nil) (.node (some Tryz.f219) .nil .nil)) (.node (some Tryz.f123) (.node (some Tryz.f187) .nil .nil) (.node (some Tryz.f251) .nil .nil)))))) (.node none (.node none (.node (some Tryz.f17) (.node none (.node none (.node none (.node (some Tryz.f257) .nil .nil) .nil) .nil) (.node none (.node (some Tryz.f161) .nil .nil) .nil)) (.node (some Tryz.f49) .nil (.node (some Tryz.f113) (.node (some Tryz.f177) .nil .nil) .nil))) (.node none (.node (some Tryz.f41) .nil (.node none .nil (.node (some Tryz.f233) .nil .nil))) (.node (some Tryz.f57) (.node (some Tryz.f89) .nil (.node (some Tryz.f217) .nil .nil)) (.node (some Tryz.f121) (.node (some Tryz.f185) .nil .nil) .nil)))) (.node (some Tryz.f13) (.node none (.node none (.node none (.node none (.node (some Tryz.f261) .nil .nil) .nil) .nil) (.node none .nil (.node (some Tryz.f229) .nil .nil))) (.node (some Tryz.f53) (.node none .nil (.node (some Tryz.f213) .nil .nil)) (.node (some Tryz.f117) (.node (some Tryz.f181) .nil .nil) (.node (some Tryz.f245) .nil .nil)))) (.node none (.node (some Tryz.f45) .nil .nil) (.node none (.node none (.node (some Tryz.f157) .nil .nil) .nil) (.node (some Tryz.f125) (.node (some Tryz.f189) .nil .nil) (.node (some Tryz.f253) .nil .nil))))))) (.node none (.node (some Tryz.f4) (.node none (.node (some Tryz.f16) (.node none (.node none (.node none (.node (some Tryz.f256) .nil .nil) .nil) (.node (some Tryz.f192) .nil .nil)) .nil) (.node (some Tryz.f48) .nil (.node (some Tryz.f112) (.node (some Tryz.f176) .nil .nil) .nil))) (.node none (.node (some Tryz.f40) .nil (.node none .nil (.node (some Tryz.f232) .nil .nil))) (.node (some Tryz.f56) (.node (some Tryz.f88) .nil (.node (some Tryz.f216) .nil .nil)) (.node (some Tryz.f120) (.node (some Tryz.f184) .nil .nil) (.node (some Tryz.f248) .nil .nil))))) (.node none (.node none (.node none (.node none (.node none (.node (some Tryz.f260) .nil .nil) .nil) .nil) (.node none .nil (.node (some Tryz.f228) .nil .nil))) (.node (some Tryz.f52) (.node none .nil (.node (some Tryz.f212) .nil .nil)) (.node (some Tryz.f116) (.node (some Tryz.f180) .nil .nil) (.node (some Tryz.f244) .nil .nil)))) (.node none (.node (some Tryz.f44) .nil .nil) (.node none (.node none (.node (some Tryz.f156) .nil .nil) (.node (some Tryz.f220) .nil .nil)) (.node (some Tryz.f124) (.node (some Tryz.f188) .nil .nil) (.node (some Tryz.f252) .nil .nil)))))) (.node none (.node none (.node (some Tryz.f18) (.node none (.node none (.node none (.node (some Tryz.f258) .nil .nil) .nil) .nil) (.node none .nil (.node (some Tryz.f226) .nil .nil))) (.node (some Tryz.f50) (.node none .nil (.node (some Tryz.f210) .nil .nil)) (.node (some Tryz.f114) (.node (some Tryz.f178) .nil .nil) (.node (some Tryz.f242) .nil .nil)))) (.node none (.node (some Tryz.f42) .nil (.node none (.node (some Tryz.f170) .nil .nil) (.node (some Tryz.f234) .nil .nil))) (.node none (.node (some Tryz.f90) (.node (some Tryz.f154) .nil .nil) (.node (some Tryz.f218) .nil .nil)) (.node (some Tryz.f122) (.node (some Tryz.f186) .nil .nil) (.node (some Tryz.f250) .nil .nil))))) (.node (some Tryz.f14) (.node none (.node (some Tryz.f38) .nil (.node none .nil (.node (some Tryz.f230) .nil .nil))) (.node (some Tryz.f54) (.node none .nil (.node (some Tryz.f214) .nil .nil)) (.node (some Tryz.f118) (.node (some Tryz.f182) .nil .nil) (.node (some Tryz.f246) .nil .nil)))) (.node none (.node none .nil (.node (some Tryz.f110) .nil .nil)) (.node none (.node none (.node (some Tryz.f158) .nil .nil) .nil) (.node none (.node (some Tryz.f190) .nil .nil) .nil))))))
def extT : Tr (List V -> Option V) := .node none .nil (.node none .nil (.node none .nil (.node none .nil (.node none (.node (some add64V) .nil .nil) .nil))))
def mpT : Tr (TypeId × TypeId) := .nil
def mtT : Tr (List (String × FuncId)) := .nil
def cfg : Cfg := ⟨fun t => tyT.get t, fun f => fnT.get f, fun f => extT.get f, fun g => Nat.ble (g + 1) 1, fun _ => none, fun t => mpT.get t, fun t m => mtOf mtT t m⟩
end Go.Proofs.YtgeelfdgnehdnaaGreatDoor
end

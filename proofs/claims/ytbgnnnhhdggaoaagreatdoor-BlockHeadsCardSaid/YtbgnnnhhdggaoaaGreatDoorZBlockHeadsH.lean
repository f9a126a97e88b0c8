/-
  What the proof of BlockHeads stands on, part 8. No condition.
-/
import Derived.Test.YtbgnnnhhdggaoaaGreatDoorZBlockHeadsG
set_option linter.unusedSimpArgs false
set_option linter.unusedVariables false
namespace Go.Proofs.YtbgnnnhhdggaoaaGreatDoor
section
open Go.RowKit
section
section
variable {C : Cfg} {G : Nat -> Option W} {m k0 : Nat} {fr fr2 : FrW} {hp hp2 : HpW} {nw nw2 : Nat} {R : Res}
theorem ent_viewH (hf : subV (fun _ => none) fr fr2) (hh : ∀ k ty w, hget hp2 k = some (ty, w) -> ∃ w0, hget hp k = some (ty, w0) /\ View (fun _ => none) w0 w) (nd : (hp2.map (·.1)).Nodup) : Ent C G m k0 fr hp nw R fr2 hp2 nw R := fun Γ X st h1 _ s => by
 have q : Seen (fun _ => none) Γ Γ := ⟨fun _ h _ => h, fun _ _ _ => rfl, fun _ h => h, fun _ _ => rfl, fun _ _ _ h => (by cases h)⟩
 have howns : ∀ {c}, Owns Γ hp2 c -> Owns Γ hp c := fun {c} h => by
  obtain ⟨k, y, h1, h2⟩ := h;obtain ⟨w0, g1, _⟩ := hh k y.1 y.2 h1;exact ⟨k, _, g1, h2⟩
 refine ⟨Γ, X, h1, ⟨s.hh, fun t w hw => ?_, ⟨s.sat.wf, fun k ty w h => ?_, fun k k' y z hy hz e => ?_, nd, s.sat.dX, s.sat.xlt, s.sat.dlt, s.sat.res, s.sat.gl⟩, fun d hd => ?_, s.nd⟩, ?_⟩
 ·obtain ⟨w0, g1, g2⟩ := xDq hf t w hw;obtain ⟨u, g3, g4⟩ := s.fr _ _ g1;exact ⟨u, g3, xgq q g2 g4⟩
 ·obtain ⟨w0, g1, g2⟩ := hh k ty w h;obtain ⟨q1, q2, q3, u, q4, q5⟩ := s.sat.own _ _ _ g1;exact ⟨q1, q2, q3, u, q4, xgq q g2 q5⟩
 ·obtain ⟨w0, g1, _⟩ := hh k y.1 y.2 hy;obtain ⟨w1, g2, _⟩ := hh k' z.1 z.2 hz;exact s.sat.inj k k' _ _ g1 g2 e
 ·obtain ⟨q1, q2, q3, q4, q5⟩ := s.ds d hd;exact ⟨q1, q2, q3, fun h => q4 (howns h), q5⟩
 ·exact ⟨fun _ _ => rfl, fun h => h, Nat.le_refl _, fun _ _ _ _ => rfl, fun _ h => h, fun _ h => .inl h, fun k y _ h => (by obtain ⟨w0, g1, _⟩ := hh k y.1 y.2 h; exact ⟨_, g1⟩), fun k y hk h => (by obtain ⟨w0, g1, _⟩ := hh k y.1 y.2 h; exact .inr ⟨k, _, hk, g1, rfl⟩), fun _ h => .inl h, fun _ h _ _ => h⟩
end
attribute [local irreducible] CoW OpW FlW Step Spec
noncomputable def bodW (ds : List Depo) (xs : List Tx) (f g : Bool) : W := .agg 2 [.fz (ds.map pdW) 34 f, .fz (xs.map txW) 99 g]
@[simp] theorem bodW_pur (ds : List Depo) (xs : List Tx) (f g : Bool) : purW (bodW ds xs f g) = true := by
 have h1 : purW (.fz (ds.map pdW) 34 f) = true := q9q Zzq ds;have h2 : purW (.fz (xs.map txW) 99 g) = true := q9q jFq xs;show (purW (.fz (ds.map pdW) 34 f) && (purW (.fz (xs.map txW) 99 g) && true)) = true;rw [h1, h2]; rfl
def hdZ : Hdr := ⟨0, qTq, qTq, qTq, 0⟩
noncomputable def refW (c : Nat) : W := .tup [noT, hdW hdZ, .nils, .int .i64 (c : Int)]
theorem ref_w (c : Nat) : W.tup [noT, .agg 98 [.int .i64 0, qcq, qcq, qcq, .int .i64 0], .nils, .int .i64 (c : Int)] = refW c := by
 unfold refW hdW hdZ;rw [<- knq]; rfl
def MayBk (t : Tree) (p : Hdr) : Prop := MayA t /\ okH p /\ p.height ≠ 1073741824
theorem apply_bad (t : Tree) (p : Hdr) (ds : List Depo) (xs : List Tx) (f g : Bool) (box : Dig) (hb : t.nodes.length <= 4611686018427387903) (h : ¬ MayBk t p) : PS cfg glK 11 [tW t, hdW p, bodW ds xs f g, dW box] (refW 8) := by
 by_cases hA : MayA t
 ·have c := qFq (G := glK) t hb;rw [if_pos hA] at c;by_cases hB : okH p
  ·have hC : p.height = 1073741824 := Classical.byContradiction fun q => h ⟨hA, hB, q⟩
   refine zUq (fn := Tryz.f11) O O O (Ob rfl) (fun R k0 => ?_);refine zkq 15 O ?_;refine ziq O O O O O O (vmq p hB) ?_;refine zbq 13 O ?_;refine ziq O O O O O O (c) ?_;refine zfq (w' := .bool false) O O (congrArg W.bool (by first | rfl | exact eqI_iff.2 rfl | (simp; done) | decide | (simp [ltI_iff, eqI_iff]; done))) ?_;refine zbq 2 O ?_;refine zfq (w' := .bool false) O O (congrArg W.bool (by first | rfl | exact eqI_iff.2 rfl | (simp; done) | decide | (simp [ltI_iff, eqI_iff]; done))) ?_;refine zbq 4 O ?_;refine zfq (w' := .bool true) O O (congrArg W.bool (eqI_iff.2 hC)) ?_;refine zbq 18 O ?_;exact zlq (.inr rfl) rfl (ref_w _)
  ·skip
   refine zUq (fn := Tryz.f11) O O O (Ob rfl) (fun R k0 => ?_);refine zkq 15 O ?_;refine ziq O O O O O O (hhash_no p hB) ?_;refine zbq 13 O ?_;refine ziq O O O O O O (c) ?_;refine zfq (w' := .bool false) O O (congrArg W.bool (by first | rfl | exact eqI_iff.2 rfl | (simp; done) | decide | (simp [ltI_iff, eqI_iff]; done))) ?_;refine zbq 2 O ?_;refine zfq (w' := .bool true) O O (congrArg W.bool (by first | rfl | exact eqI_iff.2 rfl | (simp; done) | decide | (simp [ltI_iff, eqI_iff]; done))) ?_;refine zbq 23 O ?_;exact zlq (.inr rfl) rfl (ref_w _)
 ·have c := qFq (G := glK) t hb;rw [if_neg hA] at c;by_cases hB : okH p
  ·skip
   refine zUq (fn := Tryz.f11) O O O (Ob rfl) (fun R k0 => ?_);refine zkq 15 O ?_;refine ziq O O O O O O (vmq p hB) ?_;refine zbq 13 O ?_;refine ziq O O O O O O (c) ?_;refine zfq (w' := .bool true) O O (congrArg W.bool (by first | rfl | exact eqI_iff.2 rfl | (simp; done) | decide | (simp [ltI_iff, eqI_iff]; done))) ?_;refine zbq 26 O ?_;exact zlq (.inr rfl) rfl (ref_w _)
  ·skip
   refine zUq (fn := Tryz.f11) O O O (Ob rfl) (fun R k0 => ?_);refine zkq 15 O ?_;refine ziq O O O O O O (hhash_no p hB) ?_;refine zbq 13 O ?_;refine ziq O O O O O O (c) ?_;refine zfq (w' := .bool true) O O (congrArg W.bool (by first | rfl | exact eqI_iff.2 rfl | (simp; done) | decide | (simp [ltI_iff, eqI_iff]; done))) ?_;refine zbq 26 O ?_;exact zlq (.inr rfl) rfl (ref_w _)
theorem max_op {m n : Nat} {k : IntKind} : W.int k (match ltI (m : Int) (n : Int) with | true => (n : Int) | false => (m : Int)) = .int k ((max m n : Nat) : Int) := by
 cases h : ltI (m : Int) (n : Int) with
 | true => have := ltI_iff.1 h; exact congrArg (W.int k) (by show (n : Int) = _; omega)
 | false => have : ¬ ((m : Int) < n) := fun q => by rw [ltI_iff.2 q] at h; cases h
            exact congrArg (W.int k) (by show (m : Int) = _; omega)
theorem apply_many (t : Tree) (p : Hdr) (ds : List Depo) (xs : List Tx) (f g : Bool) (box : Dig) (hb : t.nodes.length <= 4611686018427387903) (h : MayBk t p) (hm : 16 < ds.length \/ 16 < xs.length) : PS cfg glK 11 [tW t, hdW p, bodW ds xs f g, dW box] (refW 4) := by
 have c := qFq (G := glK) t hb;rw [if_pos h.1] at c;have e1 : (ds.map pdW).length = ds.length := List.length_map _;have e2 : (xs.map txW).length = xs.length := List.length_map _;refine zUq (fn := Tryz.f11) O O O (Ob rfl) (fun R k0 => ?_);refine zkq 15 O ?_;refine ziq O O O O O O (vmq p h.2.1) ?_;refine zbq 13 O ?_;refine ziq O O O O O O (c) ?_;refine zfq (w' := .bool false) O O (congrArg W.bool (by first | rfl | exact eqI_iff.2 rfl | (simp; done) | decide | (simp [ltI_iff, eqI_iff]; done))) ?_;refine zbq 2 O ?_;refine zfq (w' := .bool false) O O (congrArg W.bool (by first | rfl | exact eqI_iff.2 rfl | (simp; done) | decide | (simp [ltI_iff, eqI_iff]; done))) ?_;refine zbq 4 O ?_;refine zfq (w' := .bool false) O O (congrArg W.bool (eqI_not.2 h.2.2)) ?_;refine zbq 9 O ?_;refine zfq (w' := .int .i64 (ds.length : Int)) O O (by rw [<- e1]; rfl) ?_;refine zbq 2 O ?_;refine zfq (w' := .int .i64 (xs.length : Int)) O O (by rw [<- e2]; rfl) ?_;refine zfq (w' := .int .i64 ((max ds.length xs.length : Nat) : Int)) O O max_op (zfq (w' := .bool true) O O (congrArg W.bool (ltI_iff.2 (by omega))) ?_);refine zbq 17 O ?_;exact zlq (.inr rfl) rfl (ref_w _)
end
section
theorem xWq {blk : Nat -> Option W} {b : Nat} {P H : HpW} : ∀ {Q : HpW}, Zgq blk b P Q -> Zgq blk b (P ++ H) Q
 | [], _ => trivial
 | (k, ty, w) :: Q, h => by
  obtain ⟨⟨h1, w0, h2, h3⟩, h4⟩ := h;exact ⟨⟨h1, w0, xHq h2, h3⟩, xWq h4⟩
noncomputable def wkF (t : Tree) (box : Dig) (L : List Rec) : W := .agg 35 [tW t, dW box, .fz (L.map recW) 34 false]
@[simp] theorem wkF_pur (t : Tree) (box : Dig) (L : List Rec) : purW (wkF t box L) = true := by
 show (purW (tW t) && (purW (dW box) && (purW (.fz (L.map recW) 34 false) && true))) = true;rw [qYq, kzq, show purW (.fz (L.map recW) 34 false) = true from kcq L]; rfl
theorem ent_wkF {G : Nat -> Option W} {m k0 : Nat} {fr fr2 : FrW} {nw : Nat} {R : Res} {P P2 : HpW} {w0 k : Nat} {t : Tree} {box : Dig} {L : List Rec} (hm : m <= k) (hw : w0 ≠ k) (hf : ∀ blk : Nat -> Option W, (∀ i, i ≠ k -> blk i = none) -> subV blk fr fr2) (hP : ∀ blk : Nat -> Option W, (∀ i, i ≠ k -> blk i = none) -> Zgq blk k P P2) (hPk : ∀ p ∈ P, p.1 ≠ w0 /\ p.1 ≠ k) (nd : ((P2 ++ ([(w0, 77, wkF t box L)] : HpW)).map (·.1)).Nodup) : Ent cfg G m k0 fr (P ++ wkH w0 k t box L) nw R fr2 (P2 ++ [(w0, 77, wkF t box L)]) nw R := by
 have h1 := hget_wk (w0 := w0) (k := k) (P := P) (t := t) (box := box) (L := L) fun p hp => (hPk p hp).1
 have hpl := kcq L;cases e : L.map recW with
 | nil =>
  have key : Zgq (fun _ => none) k (P ++ wkH w0 k t box L) (P2 ++ [(w0, 77, wkF t box L)]) := Zfq (xWq (hP _ fun _ _ => rfl)) ⟨⟨hw, _, h1, by unfold wkW wkF; rw [e]; exact .agg (.cons (.pur (qYq t)) (.cons (.pur (kzq box)) (.cons .nilfz .nil)))⟩, trivial⟩;exact ent_viewH (hf _ fun _ _ => rfl) (fun i ty w h => (Zeq key i ty w h).2) nd
 | cons x r =>
  have hpa : purW (.arr ((x :: r).length * 34) 34 (x :: r)) = true := by rw [e] at hpl; exact hpl
  have hne : ∀ i, i ≠ k -> blk1 k (.arr ((x :: r).length * 34) 34 (x :: r)) i = none := fun i hi => by
   unfold blk1
   have : Nat.beq i k = false := by
    cases q : Nat.beq i k with
    | true => exact absurd (Nat.eq_of_beq_eq_true q) hi
    | false => rfl
   rw [this]
  exact ueq k fr2 _ (hget_wkl (fun p hp => (hPk p hp).2) hw e) hpa hm (hf _ hne) (Zfq (xWq (hP _ hne)) ⟨⟨hw, _, h1, by unfold wkW wkF; rw [e]; exact .agg (.cons (.pur (qYq t)) (.cons (.pur (kzq box)) (.cons (.sl (c := .arr ((x :: r).length * 34) 34 (x :: r)) (by unfold blk1; rw [Nat.beq_refl]) hpa (zIq (by decide) O O) (by intro h; cases h)) .nil)))⟩, trivial⟩) nd
attribute [local irreducible] CoW OpW FlW Step Spec
attribute [local simp] kcq
@[local simp] theorem rws_pur (L : List Rec) : purL (L.map (bW ∘ recB)) = true := q9q (fun r => by simp) L
@[local simp] theorem rws_pur2 (L : List Rec) (i : Nat) : purL ((L.map (bW ∘ recB)).take i) = true := by rw [<- List.map_take]; exact rws_pur _
theorem gv_code (l : List Pr) (d : Depo) : (gvL l d).2 = 0 \/ (gvL l d).2 = 151 := by
 unfold gvL;split
 ·exact .inl rfl
 ·exact .inr rfl
theorem paid_code (l : List Pr) (x : Tx) (box : Dig) : (y3q l x box).2 = 0 \/ (y3q l x box).2 = 151 \/ (y3q l x box).2 = 150 := by
 unfold y3q;split
 ·split
  ·exact .inr (.inl rfl)
  ·split
   ·exact .inr (.inl rfl)
   ·exact .inl rfl
 ·exact .inr (.inr rfl)
theorem doD_rec : ∀ {ds : List Depo} {l : List Pr}, ∀ r ∈ (doD l ds).2, r.kind = 1 /\ okR r
 | [], l, r, h => by cases h
 | d :: ds, l, r, h => by
  rcases List.mem_cons.1 h with rfl | h
  ·exact ⟨rfl, .inl rfl, by rcases gv_code l d with e | e <;> simp [e]⟩
  ·exact doD_rec r h
theorem doX_rec {box : Dig} : ∀ {xs : List Tx} {l : List Pr} {q : List Pr × List Rec}, doX box l xs = some q -> ∀ r ∈ q.2, r.kind = 2 /\ okR r
 | [], l, q, e, r, h => by cases e; cases h
 | x :: xs, l, q, e, r, h => by
  by_cases hg : goX l x
  ·rw [uUq hg] at e;cases e2 : doX box (y3q l x box).1 xs with
   | none => rw [e2] at e; cases e
   | some s =>
    rw [e2] at e;cases e;rcases List.mem_cons.1 h with rfl | h
    ·exact ⟨rfl, .inr rfl, by rcases paid_code l x box with e | e | e <;> simp [e]⟩
    ·exact doX_rec e2 r h
  ·rw [show doX box l (x :: xs) = none from if_neg hg] at e; cases e
theorem doX_len {box : Dig} : ∀ {xs : List Tx} {l : List Pr} {q : List Pr × List Rec}, doX box l xs = some q -> q.2.length = xs.length
 | [], l, q, e => by cases e; rfl
 | x :: xs, l, q, e => by
  by_cases hg : goX l x
  ·rw [uUq hg] at e;cases e2 : doX box (y3q l x box).1 xs with
   | none => rw [e2] at e; cases e
   | some s =>
    rw [e2] at e;cases e;exact congrArg (· + 1) (doX_len e2)
  ·rw [show doX box l (x :: xs) = none from if_neg hg] at e; cases e
theorem doD_len : ∀ (ds : List Depo) (l : List Pr), (doD l ds).2.length = ds.length
 | [], l => rfl
 | d :: ds, l => congrArg (· + 1) (doD_len ds (gvL l d).1)
noncomputable def headD (p : Hdr) (t1 : T) (L : List Rec) : Hdr := ⟨p.height + 1, hashD p, sumD t1, rootD (L.map recB), L.length⟩
def ApA (t : Tree) (t0 : T) (p : Hdr) (ds : List Depo) (xs : List Tx) (box : Dig) : W -> Prop := fun w => (∃ t' n' t1 rs, IsA t' n' t1 /\ kaq t (257 * ds.length + 1028 * xs.length) t1.all t' t1 /\ doX box (doD t0.all ds).1 xs = some (t1.all, rs) /\ w = .tup [tW t', hdW (headD p t1 ((doD t0.all ds).2 ++ rs)), .fz (((doD t0.all ds).2 ++ rs).map recW) 34 false, .int .i64 0]) \/ (doX box (doD t0.all ds).1 xs = none /\ w = refW (badX box (doD t0.all ds).1 xs))
noncomputable def apP (p : Hdr) (ds : List Depo) (xs : List Tx) (f g : Bool) : HpW := [(1, 28, hdW p), (2, 32, bodW ds xs f g), (4, 24, noT), (5, 28, .agg 98 [.int .i64 0, qcq, qcq, qcq, .int .i64 0]), (6, 26, dW (hashD p))]
theorem ap_sub (p : Hdr) (ds : List Depo) (xs : List Tx) (f g : Bool) : subH (apP p ds xs f g) 8 (apP p ds xs f g) := ⟨⟨by decide, rfl, zeq (hdW_pur p)⟩, ⟨by decide, rfl, zeq (bodW_pur ds xs f g)⟩, ⟨by decide, rfl, rfl⟩, ⟨by decide, rfl, rfl⟩, ⟨by decide, rfl, zeq (kzq _)⟩, trivial⟩
theorem numC_thr (n : Nat) : numC [7, 8] 9 (thr2 n) = 8 \/ numC [7, 8] 9 (thr2 n) = 9 := by
 cases n with
 | zero => exact .inl rfl
 | succ n => exact .inr rfl
theorem Q9q (t : Tree) (n : Nat) (t0 : T) (hA : IsA t n t0) (p : Hdr) (hp : okH p) (hp2 : p.height ≠ 1073741824) (ds : List Depo) (xs : List Tx) (f g : Bool) (hds : ∀ d ∈ ds, d.number < 18446744073709551616 /\ d.amount < 18446744073709551616) (hxs : ∀ x ∈ xs, x.ok) (box : Dig) (hm : ds.length <= 16 /\ xs.length <= 16) (hf : t.nodes.length + 300 * ds.length + 1200 * xs.length <= 260944) : PE cfg glK 11 [tW t, hdW p, bodW ds xs f g, dW box] (ApA t t0 p ds xs box) := by
 have yes : MayA t := ⟨n, t0, hA⟩;obtain ⟨q1, q2, q3, q4⟩ := hp;have c := qFq (G := glK) t (by omega);rw [if_pos yes] at c;have hvals : ∀ x ∈ t.nodes, x.val.length <= 70368744177664 := IsT.vals (root := t.root) hA.toIsT
 have e0 : (t.nodes.map nW).length = t.nodes.length := List.length_map _;have e1 : (ds.map pdW).length = ds.length := List.length_map _;have e2 : (xs.map txW).length = xs.length := List.length_map _;have pfd : purW (.fz (ds.map pdW) 34 f) = true := q9q Zzq ds;have pfx : purW (.fz (xs.map txW) 99 g) = true := q9q jFq xs;unfold ApA;have hdl := doD_len ds t0.all;have hdr := @doD_rec ds t0.all;obtain ⟨D, eD⟩ : ∃ D, doD t0.all ds = D := ⟨_, rfl⟩
 rw [eD] at hdl hdr ⊢;refine uDq (fn := Tryz.f11) O O O (Ob rfl) (fun R k0 => ?_);refine zkq 15 O ?_;refine ziq O O O O O O (vmq p ⟨q1, q2, q3, q4⟩) ?_;refine zbq 13 O ?_;refine ziq O O O O O O (c) ?_;refine zfq (w' := .bool false) O O (congrArg W.bool (by first | rfl | exact eqI_iff.2 rfl | (simp; done) | decide | (simp [ltI_iff, eqI_iff]; done))) ?_;refine zbq 2 O ?_;refine zfq (w' := .bool false) O O (congrArg W.bool (by first | rfl | exact eqI_iff.2 rfl | (simp; done) | decide | (simp [ltI_iff, eqI_iff]; done))) ?_;refine zbq 4 O ?_;refine zfq (w' := .bool false) O O (congrArg W.bool (eqI_not.2 hp2)) ?_;refine zbq 9 O ?_;refine zfq (w' := .int .i64 (ds.length : Int)) O O (by rw [<- e1]; rfl) ?_;refine zbq 2 O ?_;refine zfq (w' := .int .i64 (xs.length : Int)) O O (by rw [<- e2]; rfl) ?_;refine zfq (w' := .int .i64 ((max ds.length xs.length : Nat) : Int)) O O max_op (zfq (w' := .bool false) O O (congrArg W.bool (ltI_not.2 (by omega))) ?_);refine zbq 8 O ?_;refine zfq (w' := .int .i64 (t.nodes.length : Int)) O O (by rw [<- e0]; rfl) ?_;refine zbq 2 O ?_;refine zfq (w' := .int .i64 (ds.length : Int)) O O (by rw [<- e1]; rfl) ?_;refine zxq (300 * ds.length) O O (by first | rfl | omega) ⟨by omega, by omega⟩ ?_;refine zxq (260944 - 300 * ds.length) O O (by first | rfl | omega) ⟨by omega, by omega⟩ ?_;refine zbq 2 O ?_;refine zfq (w' := .int .i64 (xs.length : Int)) O O (by rw [<- e2]; rfl) ?_;refine zxq (1200 * xs.length) O O (by first | rfl | omega) ⟨by omega, by omega⟩ ?_;refine zxq (260944 - 300 * ds.length - 1200 * xs.length) O O (by first | rfl | omega) ⟨by omega, by omega⟩ ?_;refine zfq (w' := .bool false) O O (congrArg W.bool (ltI_not.2 (by omega))) ?_;refine zbq 10 O ?_;refine jJq O O O O O O (Qmq t (by omega) hvals) ?_;refine zAq 9 O ?_
 (refine uFq (fun _ => Ent.trans (ent_up (fr2 := [(5, .ptr 1 0), (6, .ptr 2 0), (8, .ptr 4 0), (9, .ptr 5 0), (10, .nils), (11, .int .i64 0), (12, .ptr 6 0), (14, .ptr 7 0)]) ⟨rfl, rfl, rfl, rfl, rfl, rfl, rfl, rfl, trivial⟩) (y9q (nw2 := 9) (hp2 := (apP p ds xs f g) ++ wkH 7 8 t box []) (fr2 := [(5, .ptr 1 0), (6, .ptr 2 0), (8, .ptr 4 0), (9, .ptr 5 0), (10, .nils), (11, .int .i64 0), (12, .ptr 6 0), (14, .ptr 7 0)]) (Nat.zero_le _) (by decide) ⟨rfl, rfl, rfl, rfl, rfl, rfl, rfl, rfl, trivial⟩ rfl (qkq ⟨⟨by decide, rfl, zeq (hdW_pur p)⟩, ⟨by decide, rfl, zeq (bodW_pur ds xs f g)⟩, ⟨by decide, rfl, rfl⟩, ⟨by decide, rfl, rfl⟩, ⟨by decide, rfl, zeq (kzq _)⟩, ⟨by decide, rfl, ref_wk (by decide) t box []⟩, trivial⟩) (by show ([1, 2, 4, 5, 6, 7] : List Nat).Nodup; decide))) ?_; refine zaq O O ?_)
 refine zbq 3 O ?_
 (refine ztq rfl (xXq 7 8 (apP p ds xs f g) (ws := [.fz (ds.map pdW) 34 f, .fn 31 [.ptr 0 0] []]) O O O O (by show [W.fz (ds.map pdW) 34 f, W.fn _ [.ptr 7 0] []] = [renW _ (W.fz (ds.map pdW) 34 f), W.fn _ [.ptr 7 0] []]; rw [zhq pfd]) (by show (refB 2 (W.fz (ds.map pdW) 34 f) && (refB 2 (W.fn _ [.ptr 0 0] []) && true)) = true; rw [zeq pfd]; rfl) rfl (by simp [apP]) (by decide) (by decide) (by decide) (eachd_s t n t0 hA box [] ds f hds hm.1 (by simp) (by omega)) ?_); rintro w hp1 nw1 ⟨t1, n1, u1, hT, hgo, rfl, rfl, rfl⟩; rw [veq]; have hk := numC_thr ds.length; generalize numC [7, 8] 9 (thr2 ds.length) = k1 at hk ⊢; rw [eD] at hgo ⊢; refine uFq (fun _ => Y8q (w0 := 7) (b := 8) (k := k1) (P := (apP p ds xs f g)) (P2 := (apP p ds xs f g)) (fr2 := [(5, .ptr 1 0), (6, .ptr 2 0), (8, .ptr 4 0), (9, .ptr 5 0), (10, .nils), (11, .int .i64 0), (12, .ptr 6 0), (14, .ptr 7 0), (77, .int .i64 0)]) (Nat.zero_le _) (by decide) (by omega) (by omega) ⟨rfl, rfl, rfl, rfl, rfl, rfl, rfl, rfl, rfl, trivial⟩ ⟨rfl, rfl, rfl, rfl, rfl, rfl, rfl, rfl, rfl, trivial⟩ rfl (ap_sub ..) (by simp [apP]) (by simp [apP])) ?_)
 refine zbq 6 O ?_;refine zfq (w' := .bool true) O O (congrArg W.bool (by first | rfl | exact eqI_iff.2 rfl | (simp; done) | decide | (simp [ltI_iff, eqI_iff]; done))) ?_;refine zbq 8 O ?_;skip
 have hle := ext_le hgo.2;skip
 refine ztq rfl (xXq 7 8 (apP p ds xs f g) (ws := [.fz (xs.map txW) 99 g, .fn 33 [.ptr 0 0] []]) O O O O (by show [W.fz (xs.map txW) 99 g, W.fn _ [.ptr 7 0] []] = [renW _ (W.fz (xs.map txW) 99 g), W.fn _ [.ptr 7 0] []]; rw [zhq pfx]) (by show (refB 2 (W.fz (xs.map txW) 99 g) && (refB 2 (W.fn _ [.ptr 0 0] []) && true)) = true; rw [zeq pfx]; rfl) rfl (by simp [apP]) (by decide) (by decide) (by decide) (eachx_s t1 n1 u1 hT box ([] ++ D.2) xs g hxs hm.2 (by show D.2.length <= 100; omega) (by omega)) ?_);rintro w hp1 nw1 (⟨t2, n2, u2, rs, hT2, hgo2, hst, rfl, rfl, rfl⟩ | ⟨hst, rfl, rfl, rfl⟩)
 ·skip
  rw [veq];have hk := numC_thr xs.length;generalize numC [7, 8] 9 (thr2 xs.length) = k2 at hk ⊢;refine uFq (fun _ => Y8q (w0 := 7) (b := 8) (k := k2) (P := (apP p ds xs f g)) (P2 := (apP p ds xs f g)) (fr2 := [(5, .ptr 1 0), (8, .ptr 4 0), (9, .ptr 5 0), (10, .nils), (11, .int .i64 0), (12, .ptr 6 0), (14, .ptr 7 0), (84, .int .i64 0)]) (Nat.zero_le _) (by decide) (by omega) (by omega) ⟨rfl, rfl, rfl, rfl, rfl, rfl, rfl, rfl, trivial⟩ ⟨rfl, rfl, rfl, rfl, rfl, rfl, rfl, rfl, trivial⟩ rfl (ap_sub ..) (by simp [apP]) (by simp [apP])) ?_;rw [hgo.1] at hst;have hrl := doX_len hst;have hrr := @doX_rec box xs D.1 _ hst;simp only at hrl hrr;have hLl : (D.2 ++ rs).length = ds.length + xs.length := by rw [List.length_append]; omega
  have hLk : ∀ r ∈ D.2 ++ rs, okR r := fun r h => by
   rcases List.mem_append.1 h with h | h
   ·exact (hdr r h).2
   ·exact (hrr r h).2
  have hext := Z1q hgo.2 hgo2.2;show OpW _ _ _ _ _ _ (apP p ds xs f g ++ wkH 7 8 t2 box (D.2 ++ rs)) _ _ _;obtain ⟨L, hLe⟩ : ∃ L, D.2 ++ rs = L := ⟨_, rfl⟩
  rw [hLe] at hLl hLk ⊢;have eL : (L.map recW).length = L.length := List.length_map _
  have hrow : ∀ q ∈ L.map recB, q.length <= 4096 := fun q h => by
   obtain ⟨r, _, rfl⟩ := List.mem_map.1 h;rw [recB_len]; omega
  refine zbq 7 O ?_;refine zfq (w' := .bool false) O O (congrArg W.bool (by first | rfl | exact eqI_iff.2 rfl | (simp; done) | decide | (simp [ltI_iff, eqI_iff]; done))) ?_;refine zbq 13 O ?_
  (refine uFq (fun _ => ent_wkF (w0 := 7) (k := 8) (P2 := [(1, 28, hdW p), (4, 24, noT), (5, 28, .agg 98 [.int .i64 0, qcq, qcq, qcq, .int .i64 0]), (6, 26, dW (hashD p))]) (fr2 := [(5, .ptr 1 0), (8, .ptr 4 0), (9, .ptr 5 0), (10, .nils), (11, .int .i64 0), (12, .ptr 6 0), (14, .ptr 7 0), (15, .nils)]) (Nat.zero_le _) (by decide) (fun blk h => ⟨⟨_, rfl, .ptrK (h 1 (by decide))⟩, ⟨_, rfl, .ptrK (h 4 (by decide))⟩, ⟨_, rfl, .ptrK (h 5 (by decide))⟩, ⟨_, rfl, .pur rfl⟩, ⟨_, rfl, .pur rfl⟩, ⟨_, rfl, .ptrK (h 6 (by decide))⟩, ⟨_, rfl, .ptrK (h 7 (by decide))⟩, ⟨_, rfl, .pur rfl⟩, trivial⟩) (fun blk h => ⟨⟨by decide, _, rfl, .pur (by simp)⟩, ⟨by decide, _, rfl, .pur rfl⟩, ⟨by decide, _, rfl, .pur rfl⟩, ⟨by decide, _, rfl, .pur (by simp)⟩, trivial⟩) (by simp [apP]) (by show ([1, 4, 5, 6, 7] : List Nat).Nodup; decide)) ?_; refine zaq O O ?_)
  refine zbq 3 O ?_;refine zfq (w' := .int .i64 (L.length : Int)) O O (by rw [<- eL]; rfl) ?_;refine zbq 4 O ?_;refine Q7q (α := Nat) (fun i => i <= L.length) 15 (fun i => ((L.map recB).take i).map bW) 53 1 (fun i => [(95, .int .i64 (i : Int))]) [(5, _), (8, _), (9, _), (10, _), (11, _), (12, _), (14, _), (93, _), (94, _)] _ (fun i => L.length - i) (0) ⟨rfl, rfl, rfl, rfl, rfl, rfl, rfl, rfl, rfl, trivial⟩ (Nat.zero_le _) ⟨rfl, trivial⟩ O O O (fun i hI => ?_);refine zkq 6 O ?_;refine zQq rfl (fun h1 => ?_) (fun h1 => ?_)
  ·have hi : i < L.length := by omega
   obtain ⟨r, hx⟩ : ∃ r, L[i]? = some r := ⟨_, List.getElem?_eq_getElem hi⟩
   have hr := hLk r (List.mem_of_getElem? hx);have hnx : ((L.map recB).take (i + 1)).map bW = ((L.map recB).take i).map bW ++ [bW (recB r)] := by rw [List.take_add_one, List.getElem?_map, hx, List.map_append]; rfl
   have hlt : (((L.map recB).take i).map bW).length <= 100 := by rw [List.length_map, List.length_take, List.length_map]; omega
   refine zgq 6 O ?_;refine zaq rfl (zDq (i := i) O O O O O O O (yNq recW hx)) ?_;refine zbq 8 O ?_;refine ziq O O O O O O (Qvq r hr) ?_;refine zbq 11 O ?_;refine zvq rfl (qOq O O (Ypq [_, _, _, _, _, _, _] (k := ti53) (news := [bW (recB r)]) O O O O O (jfq O O O O) (by simp) (by show ((((L.map recB).take i).map bW).length + 1) * 24 <= _; omega) (by show (((L.map recB).take i).map bW).length + 1 <= _; omega) rfl (by simp))) ?_;refine zbq 5 O ?_;refine zxq (i + 1) O O (by first | rfl | omega) ⟨by omega, by omega⟩ ?_;refine qoq 2 O ?_;exact xEq 12 (i + 1) (hi) (by omega) (Nat.zero_le _) (hnx) (by first | assumption | (simp; done) | (simp [zdq]; done)) (by omega) (by first | omega | decide) rfl (by first | rfl | exact List.length_append.symm) ⟨rfl, trivial⟩ ⟨rfl, rfl, rfl, rfl, rfl, rfl, rfl, rfl, rfl, trivial⟩ (by repeat (first | exact trivial | refine ⟨by first | rfl | exact zeq (by first | rfl | (simp; done)), ?_⟩)) (by repeat (first | exact trivial | refine ⟨by first | rfl | exact zeq (by first | rfl | (simp; done)), ?_⟩)) rfl (by first | rfl | assumption | (simp; done)) (by repeat (first | exact trivial | refine ⟨⟨by decide, rfl, by first | rfl | exact zeq (by first | rfl | (simp; done))⟩, ?_⟩)) (by first | decide | simp)
  ·have hi : i = L.length := by omega
   subst hi;have eB : ((L.map recB).map bW).length = L.length := by rw [List.length_map, List.length_map]
   have pB : purL ((L.map recB).map bW) = true := bWs_pur _;rw [show (L.map recB).take L.length = L.map recB from List.take_of_length_le (by rw [List.length_map]; omega)];refine zgq 2 O ?_;refine jzq (by intro h; cases h) ?_;refine zVq 4 O ?_
   (refine uFq (fun _ => ent_frg (b := 9) (X := [(1, 28, hdW p), (4, 24, noT), (5, 28, .agg 98 [.int .i64 0, qcq, qcq, qcq, .int .i64 0]), (6, 26, dW (hashD p)), (7, 77, wkF t2 box L)]) (fr2 := [(5, .ptr 1 0), (8, .ptr 4 0), (9, .ptr 5 0), (12, .ptr 6 0), (14, .ptr 7 0)]) 15 (by decide) pB (Nat.zero_le _) rfl (fun blk h => ⟨⟨_, rfl, .ptrK (h 1 (by decide))⟩, ⟨_, rfl, .ptrK (h 4 (by decide))⟩, ⟨_, rfl, .ptrK (h 5 (by decide))⟩, ⟨_, rfl, .ptrK (h 6 (by decide))⟩, ⟨_, rfl, .ptrK (h 7 (by decide))⟩, trivial⟩) (fun blk h => ⟨⟨by decide, _, rfl, .pur (by simp)⟩, ⟨by decide, _, rfl, .pur rfl⟩, ⟨by decide, _, rfl, .pur rfl⟩, ⟨by decide, _, rfl, .pur (by simp)⟩, ⟨by decide, _, rfl, .pur (by simp)⟩, trivial⟩) (by show ([1, 4, 5, 6, 7] : List Nat).Nodup; decide) (by simp)) ?_; refine zaq O O ?_)
   refine zvq O O ?_;first | refine ytq O O ⟨by omega, by omega⟩ ?_ | refine zaq O O ?_
   refine zbq 2 O ?_;refine zfq (w' := .int .i64 (L.length : Int)) O O (by rw [<- eB]; rfl) ?_;refine zbq 10 O ?_;refine ziq O O O O O O (tsum_ok t2 n2 u2 hT2.toIsT) ?_;refine zbq 10 O ?_;refine ziq O O O O O O (rRoot_s (L.map recB) false (by rw [List.length_map]; omega) hrow) ?_;refine zbq 25 O ?_;exact jNq (w' := .tup [tW t2, hdW (headD p u2 L), .fz (L.map recW) 34 false, .int .i64 0]) (.inr rfl) rfl (.pur (by simp [purW, purL])) (by simp [purW, purL]) (.inl ⟨t2, n2, u2, rs, hT2, ⟨rfl, hext⟩, hst, by rw [hLe]⟩)
 ·skip
  have hbn := bad_no hst;refine zbq 7 O ?_;refine zfq (w' := .bool true) O O (congrArg (fun b => W.bool (!b)) (eqI_not.2 (by omega))) ?_;refine zbq 16 O ?_;refine jNq (w' := .tup [noT, .agg 98 [.int .i64 0, qcq, qcq, qcq, .int .i64 0], .nils, .int .i64 (badX box u1.all xs : Nat)]) (.inr rfl) rfl (.pur rfl) rfl (.inr ?_);rw [hgo.1] at hst ⊢;exact ⟨hst, ref_w _⟩
end
section
attribute [local irreducible] CoW OpW FlW Step Spec
theorem ap_some {t : Tree} {t0 : T} {p : Hdr} {ds : List Depo} {xs : List Tx} {box : Dig} {w : W} (h : ApA t t0 p ds xs box w) {l : List Pr} {rs : List Rec} (e : doX box (doD t0.all ds).1 xs = some (l, rs)) : ∃ t' n' t1, IsA t' n' t1 /\ kaq t (257 * ds.length + 1028 * xs.length) l t' t1 /\ w = .tup [tW t', hdW (headD p t1 ((doD t0.all ds).2 ++ rs)), .fz (((doD t0.all ds).2 ++ rs).map recW) 34 false, .int .i64 0] := by
 rcases h with ⟨t', n', t1, rs', hT, hgo, hst, hw⟩ | ⟨hst, _⟩
 ·rw [e] at hst;cases hst;exact ⟨t', n', t1, hT, ⟨hgo.1, hgo.2⟩, hw⟩
 ·rw [e] at hst; cases hst
theorem ap_none {t : Tree} {t0 : T} {p : Hdr} {ds : List Depo} {xs : List Tx} {box : Dig} {w : W} (h : ApA t t0 p ds xs box w) (e : doX box (doD t0.all ds).1 xs = none) : w = refW (badX box (doD t0.all ds).1 xs) := by
 rcases h with ⟨t', n', t1, rs', hT, hgo, hst, hw⟩ | ⟨_, hw⟩
 ·rw [e] at hst; cases hst
 ·exact hw
theorem nil_of {t : Tree} {n : Nat} {t0 : T} (h : IsT t n t0) (e : t0.all = []) : t0 = .nil := by
 have ok := h.ok;cases t0 with
 | nil => rfl
 | leaf k v => simp [T.all] at e
 | fork l r =>
  obtain ⟨_, h1, h2, h3⟩ := ok_fork.1 ok;have := two_len h1 h2 h3;have e2 : (T.fork l r).all.length = l.all.length + r.all.length := by simp [T.all]
  rw [e] at e2;simp at e2;omega
theorem eq_rec (r : Rec) : eqW cfg 300 57 (recW r) (recW r) = some true := by
 have e : true = (decide (((.ofNat r.kind.toNat : Int)) = (.ofNat r.kind.toNat : Int)) && (decide (r.id = r.id) && (decide ((r.code : Int) = (r.code : Int)) && true))) := by simp
 rw [e];exact Z2q O O O O (qNq O O O (Y7q O O) (qNq O O O (qHq O O O O O O _ _ _) (qNq O O O (Y7q O O) QZq)))
def t00 : Tree := ⟨[], 0⟩
theorem isA00 : IsA t00 0 .nil := ⟨⟨by simp [t00], fun i x h => by simp [t00] at h, rfl, .nil, rfl⟩, fun p hp => by simp [T.all] at hp⟩
theorem ok00 : okH hdZ := ⟨by decide, by decide, by decide, by decide⟩
def dig1 : Dig := ⟨1 :: List.replicate 31 0, rfl⟩
def dep5 : Depo := ⟨0, dig1, 5⟩
theorem ap0 : PE cfg glK 11 [tW t00, hdW hdZ, bodW [] [] false false, dW qTq] (ApA t00 .nil hdZ [] [] qTq) := Q9q t00 0 .nil isA00 hdZ ok00 (by decide) [] [] false false (by simp) (by simp) qTq (by simp) (by simp [t00])
theorem ap5 : PE cfg glK 11 [tW t00, hdW hdZ, bodW [dep5] [] false false, dW qTq] (ApA t00 .nil hdZ [dep5] [] qTq) := Q9q t00 0 .nil isA00 hdZ ok00 (by decide) [dep5] [] false false (by intro d hd; simp only [List.mem_cons, List.not_mem_nil, or_false] at hd; subst hd; exact ⟨by decide, by decide⟩) (by simp) qTq (by simp) (by simp [t00])
theorem u1q : PS cfg glK 19 [] (.bool true) := by
 refine zUq (fn := Tryz.f19) O O O (Ob rfl) (fun R k0 => ?_);refine zkq 7 O ?_;refine zfq (w' := hdW hdZ) O O (by show W.agg 98 [_, W.arr 32 1 (List.replicate 32 (.int .u8 (.ofNat 0))), W.arr 32 1 (List.replicate 32 (.int .u8 (.ofNat 0))), W.arr 32 1 (List.replicate 32 (.int .u8 (.ofNat 0))), _] = _; rw [knq]; rfl) ?_;refine ziq O O O O O O (vmq hdZ ok00) ?_;refine zbq 13 O ?_;refine zfq O O knq ?_
 (refine uFq (fun _ => ent_view [(1, .ptr 0 0), (2, .int .i64 0), (21, tW t00), (22, hdW hdZ), (23, bodW [] [] false false), (24, dW qTq)] ⟨⟨_, rfl, .ptrK rfl⟩, ⟨_, rfl, .pur rfl⟩, ⟨_, rfl, .agg (.cons .nilfz (.cons (.pur rfl) .nil))⟩, ⟨_, rfl, .agg (.cons (.pur rfl) (.cons xfq (.cons xfq (.cons xfq (.cons (.pur rfl) .nil)))))⟩, ⟨_, rfl, .agg (.cons .nilfz (.cons .nilfz .nil))⟩, ⟨_, rfl, .pur (by simp)⟩, trivial⟩) ?_; refine ztq rfl (kKq O O O O O ap0 (by simp) ?_); rintro w hw hA; obtain ⟨t', n', t1, hT, hgo, rfl⟩ := ap_some hA (l := []) (rs := []) rfl; obtain rfl := nil_of hT.toIsT hgo.1)
 refine zbq 15 O ?_;refine zfq (w' := dW dig1) O O O (zfq (w' := pdW dep5) O O O ?_);refine zbq 7 O ?_;refine zfq (w' := hdW hdZ) O O (by show W.agg 98 [_, W.arr 32 1 (List.replicate 32 (.int .u8 (.ofNat 0))), W.arr 32 1 (List.replicate 32 (.int .u8 (.ofNat 0))), W.arr 32 1 (List.replicate 32 (.int .u8 (.ofNat 0))), _] = _; rw [knq]; rfl) ?_;refine zbq 3 O ?_;refine zfq O O knq ?_
 (refine uFq (fun _ => ueq 4 [(1, .ptr 0 0), (2, .int .i64 0), (4, .ptr 2 0), (5, .fz [] 34 false), (6, .int .i64 0), (7, .ptr 3 0), (33, tW t00), (34, hdW hdZ), (37, bodW [dep5] [] false false), (38, dW qTq)] [(3, 70, pdW dep5), (2, 28, hdW (headD hdZ .nil [])), (0, 26, dW (hashD hdZ))] rfl (show purL [pdW dep5] = true by simp [purL]) (Nat.zero_le _) ⟨⟨_, rfl, .ptrK rfl⟩, ⟨_, rfl, .pur rfl⟩, ⟨_, rfl, .ptrK rfl⟩, ⟨_, rfl, .pur rfl⟩, ⟨_, rfl, .pur rfl⟩, ⟨_, rfl, .ptrK rfl⟩, ⟨_, rfl, .agg (.cons .nilfz (.cons (.pur rfl) .nil))⟩, ⟨_, rfl, .pur (by simp)⟩, ⟨_, rfl, .agg (.cons (.sl (full := false) rfl (show purL [pdW dep5] = true by simp [purL]) rfl (by intro h; cases h)) (.cons .nilfz .nil))⟩, ⟨_, rfl, .pur (by simp)⟩, trivial⟩ ⟨⟨by omega, _, rfl, .pur (by simp)⟩, ⟨by omega, _, rfl, .pur (by simp)⟩, ⟨by omega, _, rfl, .pur (by simp)⟩, trivial⟩ (by simp)) ?_; refine ztq rfl (kKq O O O O O ap5 (by simp) ?_); rintro w hw hA; obtain ⟨t5, n5, u5, hT5, hgo5, rfl⟩ := ap_some hA (l := setL [] dig1 ⟨0, 5⟩) (rs := []) rfl; have e5 := (k7q hT5.toIsT dig1).trans (by rw [hgo5.1, acL_set (l := []) List.Pairwise.nil ⟨by decide, by decide⟩, if_pos rfl]))
 refine zbq 16 O ?_;refine zfq (w' := dW dig1) O O O (ziq O O O O O O (qeq (w' := .tup [aW ⟨0, 5⟩, .int .i64 0]) (Yrq t5 n5 u5 hT5 dig1) (by rw [e5])) ?_);refine zbq 11 O ?_;refine qmq (w' := .bool true) O O (congrArg W.bool (by first | rfl | exact eqI_iff.2 rfl | (simp; done) | decide | (simp [ltI_iff, eqI_iff]; done))) ?_;refine zAq 2 O ?_;refine qmq (w' := .bool true) O O (congrArg W.bool (by first | rfl | exact eqI_iff.2 rfl | (simp; done) | decide | (simp [ltI_iff, eqI_iff]; done))) ?_;refine zAq 3 O ?_;first | refine fl_len O O ?_ | refine zcq O O ?_
 refine qmq (w' := .bool true) O O (congrArg W.bool (by first | rfl | exact eqI_iff.2 rfl | (simp; done) | decide | (simp [ltI_iff, eqI_iff]; done))) ?_;refine zAq 4 O ?_;refine jJq O O O O O O (Zdq) ?_;refine jJq O O O O O O (Zdq) ?_;refine zcq O O (qmq (w' := .bool true) rfl (qaq O O O O (eq_hdr (headD hdZ .nil []))) O ?_);refine zAq 9 O ?_;refine qmq (w' := .bool true) O O (congrArg W.bool (by first | rfl | exact eqI_iff.2 rfl | (simp; done) | decide | (simp [ltI_iff, eqI_iff]; done))) ?_;refine zAq 4 O ?_;refine qmq (w' := .bool true) O O (congrArg W.bool (by first | rfl | exact eqI_iff.2 rfl | (simp; done) | decide | (simp [ltI_iff, eqI_iff]; done))) ?_;refine zAq 3 O ?_;first | refine fl_len O O ?_ | refine zcq O O ?_
 refine qmq (w' := .bool true) O O (congrArg W.bool (by first | rfl | exact eqI_iff.2 rfl | (simp; done) | decide | (simp [ltI_iff, eqI_iff]; done))) ?_;refine zAq 3 O ?_;first | refine zcq rfl (zDq O O O O O O O (by first | assumption | (simp; done))) ?_ | refine zcq rfl (zGq O O O O O O O (by omega)) ?_ | refine zcq rfl (zyq O O O O O O (by omega)) ?_ | refine zcq O O ?_
 refine zAq 2 O ?_;refine jJq O O O O O O (rdepo_s dep5 (by decide) (by decide)) ?_;refine zcq O O (qmq (w' := .bool true) rfl (qaq O O O O (eq_rec ⟨1, depD dep5, 0⟩)) O ?_);refine zAq 3 O ?_;refine qmq (w' := .bool true) O O (congrArg W.bool (by first | rfl | exact eqI_iff.2 rfl | (simp; done) | decide | (simp [ltI_iff, eqI_iff]; done))) ?_;refine zAq 4 O ?_;refine qmq (w' := .bool true) rfl (qaq O O O O (Z3q ⟨0, 5⟩ ⟨0, 5⟩)) (by rw [decide_eq_true rfl]) ?_;refine zAq 5 O ?_;exact zlq (.inr rfl) O O
end
theorem fit_tx {w : W} (h : Fit (.st 99 [.arr 32 1 (.int .u8), .arr 32 1 (.int .u8), .int .u64, .int .u64, .int .u64, .arr 32 1 (.int .u8)]) w) : ∃ x : Tx, w = txW x /\ x.ok := by
 obtain ⟨l, rfl, w1, l1, rfl, h1, w2, l2, rfl, h2, w3, l3, rfl, h3, w4, l4, rfl, h4, w5, l5, rfl, h5, w6, l6, rfl, h6, rfl⟩ := h;obtain ⟨a, rfl⟩ := fit_dig h1;obtain ⟨b, rfl⟩ := fit_dig h2;obtain ⟨n, rfl, hn⟩ := ZSq h3;obtain ⟨m, rfl, hm⟩ := ZSq h4;obtain ⟨f, rfl, hf⟩ := ZSq h5;obtain ⟨s, rfl⟩ := fit_dig h6;exact ⟨⟨a, b, n, m, f, s⟩, rfl, hn, hm, hf⟩
section
attribute [local irreducible] CoW OpW FlW Step Spec
variable {G : Nat -> Option W}
structure BodOk (ds : List Depo) (xs : List Tx) : Prop where
 dep : ∀ d ∈ ds, d.number < 18446744073709551616 /\ d.amount < 18446744073709551616
 tx : ∀ x ∈ xs, x.ok
 dl : ds.length <= 140737488351232
 xl : xs.length <= 140737488351232
theorem fit_depo2 {w : W} (h : Fit (.st 34 [.int .u64, .arr 32 1 (.int .u8), .int .u64]) w) : ∃ d : Depo, w = pdW d /\ d.number < 18446744073709551616 /\ d.amount < 18446744073709551616 := by
 obtain ⟨l, rfl, w1, l1, rfl, h1, w2, l2, rfl, h2, w3, l3, rfl, h3, rfl⟩ := h;obtain ⟨n, rfl, hn⟩ := ZSq h1;obtain ⟨k, rfl⟩ := fit_dig h2;obtain ⟨m, rfl, hm⟩ := ZSq h3;exact ⟨⟨n, k, m⟩, rfl, hn, hm⟩
theorem fit_hdr {w : W} (h : Fit (.st 98 [.int .i64, .arr 32 1 (.int .u8), .arr 32 1 (.int .u8), .arr 32 1 (.int .u8), .int .i64]) w) : ∃ p : Hdr, w = hdW p /\ p.height <= 9223372036854775807 := by
 obtain ⟨l, rfl, w1, l1, rfl, h1, w2, l2, rfl, h2, w3, l3, rfl, h3, w4, l4, rfl, h4, w5, l5, rfl, h5, rfl⟩ := h;obtain ⟨i, rfl, _, hi⟩ := ZTq h1;obtain ⟨a, rfl⟩ := fit_dig h2;obtain ⟨b, rfl⟩ := fit_dig h3;obtain ⟨c, rfl⟩ := fit_dig h4;obtain ⟨j, rfl, _⟩ := ZTq h5;exact ⟨⟨i, a, b, c, j⟩, rfl, hi⟩
theorem fit_body {w : W} (h : Fit (.st 2 [.sl 34 48 (.st 34 [.int .u64, .arr 32 1 (.int .u8), .int .u64]), .sl 99 120 (.st 99 [.arr 32 1 (.int .u8), .arr 32 1 (.int .u8), .int .u64, .int .u64, .int .u64, .arr 32 1 (.int .u8)])]) w) : ∃ ds xs, w = bodW ds xs false false /\ BodOk ds xs := by
 obtain ⟨l, rfl, w1, l1, rfl, h1, w2, l2, rfl, h2, rfl⟩ := h;obtain ⟨ds, rfl, hl, hd⟩ := fit_sl h1 fun x hx => fit_depo2 hx
 obtain ⟨xs, rfl, hl2, hx⟩ := fit_sl h2 fun x hx => fit_tx hx
 exact ⟨ds, xs, rfl, hd, hx, by omega, by omega⟩
def yOq (ds : List Depo) (xs : List Tx) : Prop := (4 < ds.length /\ ds.length <= 16) \/ 20 < ds.length \/ (4 < xs.length /\ xs.length <= 16) \/ 20 < xs.length
noncomputable instance (ds : List Depo) (xs : List Tx) : Decidable (yOq ds xs) := Classical.propDecidable _
theorem ZKq (ds : List Depo) (xs : List Tx) (f g : Bool) : PS cfg G 8 [bodW ds xs f g] (.bool (decide (yOq ds xs))) := by
 have e1 : (ds.map pdW).length = ds.length := List.length_map _;have e2 : (xs.map txW).length = xs.length := List.length_map _;refine zUq (fn := Tryz.f8) O O O (Ob rfl) (fun R k0 => ?_);refine zkq 10 O ?_;refine zfq (w' := .int .i64 (ds.length : Int)) O O (by rw [<- e1]; rfl) ?_;refine qsq O O (fun h1 => ?_) (fun h1 => ?_)
 ·refine zbq 3 O ?_;refine zfq (w' := .int .i64 (ds.length : Int)) O O (by rw [<- e1]; rfl) ?_;refine qsq O O (fun h2 => ?_) (fun h2 => ?_)
  ·refine zbq 29 O ?_;exact zlq (.inr rfl) rfl (by congr 1; first | exact (decide_eq_true (by unfold yOq; omega)).symm | exact (decide_eq_false (by unfold yOq; omega)).symm | exact decide_eq_decide.2 (by unfold yOq; omega))
  ·refine zbq 4 O ?_;refine zfq (w' := .int .i64 (ds.length : Int)) O O (by rw [<- e1]; rfl) ?_;refine qsq O O (fun h3 => ?_) (fun h3 => ?_)
   ·refine zbq 23 O ?_;exact zlq (.inr rfl) rfl (by congr 1; first | exact (decide_eq_true (by unfold yOq; omega)).symm | exact (decide_eq_false (by unfold yOq; omega)).symm | exact decide_eq_decide.2 (by unfold yOq; omega))
   ·refine zbq 4 O ?_;refine zfq (w' := .int .i64 (xs.length : Int)) O O (by rw [<- e2]; rfl) ?_;refine qsq O O (fun h4 => ?_) (fun h4 => ?_)
    ·refine zbq 3 O ?_;refine zfq (w' := .int .i64 (xs.length : Int)) O O (by rw [<- e2]; rfl) ?_;refine qsq O O (fun h5 => ?_) (fun h5 => ?_)
     ·refine zbq 12 O ?_;exact zlq (.inr rfl) rfl (by congr 1; first | exact (decide_eq_true (by unfold yOq; omega)).symm | exact (decide_eq_false (by unfold yOq; omega)).symm | exact decide_eq_decide.2 (by unfold yOq; omega))
     ·refine zbq 5 O ?_;refine zfq (w' := .int .i64 (xs.length : Int)) O O (by rw [<- e2]; rfl) ?_;refine y8q O O ?_;refine zbq 5 O ?_;exact zlq (.inr rfl) rfl (by congr 1; first | exact (decide_eq_true (by unfold yOq; omega)).symm | exact (decide_eq_false (by unfold yOq; omega)).symm | exact decide_eq_decide.2 (by unfold yOq; omega))
    ·refine zbq 10 O ?_;refine zfq (w' := .int .i64 (xs.length : Int)) O O (by rw [<- e2]; rfl) ?_;refine y8q O O ?_;refine zbq 5 O ?_;exact zlq (.inr rfl) rfl (by congr 1; first | exact (decide_eq_true (by unfold yOq; omega)).symm | exact (decide_eq_false (by unfold yOq; omega)).symm | exact decide_eq_decide.2 (by unfold yOq; omega))
 ·refine zbq 9 O ?_;refine zfq (w' := .int .i64 (ds.length : Int)) O O (by rw [<- e1]; rfl) ?_;refine qsq O O (fun h2 => ?_) (fun h2 => ?_)
  ·refine zbq 23 O ?_;exact zlq (.inr rfl) rfl (by congr 1; first | exact (decide_eq_true (by unfold yOq; omega)).symm | exact (decide_eq_false (by unfold yOq; omega)).symm | exact decide_eq_decide.2 (by unfold yOq; omega))
  ·refine zbq 4 O ?_;refine zfq (w' := .int .i64 (xs.length : Int)) O O (by rw [<- e2]; rfl) ?_;refine qsq O O (fun h3 => ?_) (fun h3 => ?_)
   ·refine zbq 3 O ?_;refine zfq (w' := .int .i64 (xs.length : Int)) O O (by rw [<- e2]; rfl) ?_;refine qsq O O (fun h4 => ?_) (fun h4 => ?_)
    ·refine zbq 12 O ?_;exact zlq (.inr rfl) rfl (by congr 1; first | exact (decide_eq_true (by unfold yOq; omega)).symm | exact (decide_eq_false (by unfold yOq; omega)).symm | exact decide_eq_decide.2 (by unfold yOq; omega))
    ·refine zbq 5 O ?_;refine zfq (w' := .int .i64 (xs.length : Int)) O O (by rw [<- e2]; rfl) ?_;refine y8q O O ?_;refine zbq 5 O ?_;exact zlq (.inr rfl) rfl (by congr 1; first | exact (decide_eq_true (by unfold yOq; omega)).symm | exact (decide_eq_false (by unfold yOq; omega)).symm | exact decide_eq_decide.2 (by unfold yOq; omega))
   ·refine zbq 10 O ?_;refine zfq (w' := .int .i64 (xs.length : Int)) O O (by rw [<- e2]; rfl) ?_;refine y8q O O ?_;refine zbq 5 O ?_;exact zlq (.inr rfl) rfl (by congr 1; first | exact (decide_eq_true (by unfold yOq; omega)).symm | exact (decide_eq_false (by unfold yOq; omega)).symm | exact decide_eq_decide.2 (by unfold yOq; omega))
theorem great_600 {t : Tree} (h : ¬ xVq t 600) : t.nodes.length <= 600 := Nat.le_of_not_lt fun q => h (.inl q)
end
section
attribute [local irreducible] CoW OpW FlW Step Spec
theorem refW_pur (c : Nat) : purW (refW c) = true := by
 show (purW noT && (purW (hdW hdZ) && (true && (true && true)))) = true;rw [hdW_pur]; rfl
theorem ap_ref (t : Tree) (p : Hdr) (ds : List Depo) (xs : List Tx) (box : Dig) (hB : BodOk ds xs) (hb : t.nodes.length <= 600) : (∃ c, c ≠ 0 /\ PE cfg glK 11 [tW t, hdW p, bodW ds xs false false, dW box] (· = refW c)) \/ (∃ n t0 l rs, IsA t n t0 /\ okH p /\ p.height ≠ 1073741824 /\ (ds.length <= 16 /\ xs.length <= 16) /\ doX box (doD t0.all ds).1 xs = some (l, rs)) := by
 by_cases hP : MayBk t p
 ·by_cases hm : ds.length <= 16 /\ xs.length <= 16
  ·obtain ⟨⟨n, t0, hA⟩, hp, hp2⟩ := hP;cases e : doX box (doD t0.all ds).1 xs with
   | some q => exact .inr ⟨n, t0, q.1, q.2, hA, hp, hp2, hm, e⟩
   | none => exact .inl ⟨_, (by rcases bad_no e with h | h <;> omega : badX box (doD t0.all ds).1 xs ≠ 0), pe_mono (Q9q t n t0 hA p hp hp2 ds xs false false hB.dep hB.tx box hm (by omega)) fun w h => ap_none h e⟩
  ·exact .inl ⟨4, by decide, pe_of (apply_many t p ds xs false false box (by omega) hP (by omega)) (refW_pur 4) rfl⟩
 ·exact .inl ⟨8, by decide, pe_of (apply_bad t p ds xs false false box (by omega) hP) (refW_pur 8) rfl⟩
end
section
attribute [local irreducible] CoW OpW FlW Step Spec
attribute [local simp] kcq rws_pur rws_pur2
theorem heads_g (t : Tree) (p : Hdr) (ds : List Depo) (xs : List Tx) (box : Dig) (hb : t.nodes.length <= 4611686018427387903) (h : xVq t 600 \/ yOq ds xs) : PS cfg glK 4 [tW t, hdW p, bodW ds xs false false, dW box] (.bool true) := by
 by_cases hg : xVq t 600
 ·skip
  refine zUq (fn := Tryz.f4) O O O (Ob rfl) (fun R k0 => ?_);refine zkq 11 O ?_;refine ziq O O O O O O u1q ?_;refine zbq 7 O ?_;refine ziq O O O O O O (qeq (w' := .bool true) (QNq t 600 hb (by omega)) (by rw [decide_eq_true hg])) ?_;refine zbq 19 O ?_;exact zlq (.inr rfl) O O
 ·have hk : yOq ds xs := h.resolve_left hg;refine zUq (fn := Tryz.f4) O O O (Ob rfl) (fun R k0 => ?_);refine zkq 11 O ?_;refine ziq O O O O O O u1q ?_;refine zbq 7 O ?_;refine ziq O O O O O O (qeq (w' := .bool false) (QNq t 600 hb (by omega)) (by rw [decide_eq_false hg])) ?_;refine zbq 2 O ?_;refine ziq O O O O O O (qeq (w' := .bool true) (ZKq ds xs false false) (by rw [decide_eq_true hk])) ?_;refine zbq 16 O ?_;exact zlq (.inr rfl) O O
theorem heads_e (t : Tree) (p : Hdr) (ds : List Depo) (xs : List Tx) (box : Dig) (hb : t.nodes.length <= 4611686018427387903) (hg : ¬ xVq t 600) (hk : ¬ yOq ds xs) (c : Nat) (hc : c ≠ 0) (hP : PE cfg glK 11 [tW t, hdW p, bodW ds xs false false, dW box] (· = refW c)) : PS cfg glK 4 [tW t, hdW p, bodW ds xs false false, dW box] (.bool true) := by
 refine zUq (fn := Tryz.f4) O O O (Ob rfl) (fun R k0 => ?_);refine zkq 11 O ?_;refine ziq O O O O O O u1q ?_;refine zbq 7 O ?_;refine ziq O O O O O O (qeq (w' := .bool false) (QNq t 600 hb (by omega)) (by rw [decide_eq_false hg])) ?_;refine zbq 2 O ?_;refine ziq O O O O O O (qeq (w' := .bool false) (ZKq ds xs false false) (by rw [decide_eq_false hk])) ?_;refine zbq 16 O ?_
 (refine ztq rfl (kKq O O O O O hP (by simp) ?_); rintro w hw rfl)
 refine zbq 17 O ?_;refine zfq (w' := .bool true) O O (congrArg (fun b => W.bool (!b)) (eqI_not.2 (by omega))) ?_;refine zbq 8 O ?_;refine zfq (w' := hdW hdZ) O O (by show W.agg 98 [_, W.arr 32 1 (List.replicate 32 (.int .u8 (.ofNat 0))), W.arr 32 1 (List.replicate 32 (.int .u8 (.ofNat 0))), W.arr 32 1 (List.replicate 32 (.int .u8 (.ofNat 0))), _] = _; rw [knq]; rfl) ?_;refine zfq (w' := .bool true) rfl (qaq O O O O (eq_hdr hdZ)) O ?_;refine zbq 3 O ?_;first | refine xmq O O ?_ | refine zaq O O ?_
 refine zfq (w' := .bool true) O O (congrArg W.bool (by first | rfl | exact eqI_iff.2 rfl | (simp; done) | decide | (simp [ltI_iff, eqI_iff]; done))) ?_;refine zbq 4 O ?_;first | refine xmq O O ?_ | refine zaq O O ?_
 refine zfq (w' := .bool true) O O (congrArg W.bool (by first | rfl | exact eqI_iff.2 rfl | (simp; done) | decide | (simp [ltI_iff, eqI_iff]; done))) ?_;refine zbq 6 O ?_;exact zlq (.inr rfl) O O
theorem heads_ok (t : Tree) (n : Nat) (t0 : T) (hA : IsA t n t0) (p : Hdr) (hp : okH p) (hp2 : p.height ≠ 1073741824) (ds : List Depo) (xs : List Tx) (box : Dig) (hB : BodOk ds xs) (hb : t.nodes.length <= 4611686018427387903) (hg : ¬ xVq t 600) (hk : ¬ yOq ds xs) (hm : ds.length <= 16 /\ xs.length <= 16) (l : List Pr) (rs : List Rec) (hst : doX box (doD t0.all ds).1 xs = some (l, rs)) : PS cfg glK 4 [tW t, hdW p, bodW ds xs false false, dW box] (.bool true) := by
 have hl := great_600 hg;have hP := Q9q t n t0 hA p hp hp2 ds xs false false hB.dep hB.tx box hm (by omega);have e1 : (ds.map pdW).length = ds.length := List.length_map _;have e2 : (xs.map txW).length = xs.length := List.length_map _;have hrl := doX_len hst;have hdl := doD_len ds t0.all;have hdr := @doD_rec ds t0.all;have hrr := @doX_rec box xs _ _ hst;simp only at hrl hrr;obtain ⟨L, hL⟩ : ∃ L, (doD t0.all ds).2 ++ rs = L := ⟨_, rfl⟩
 have hLl : L.length = ds.length + xs.length := by rw [<- hL, List.length_append]; omega
 have hkind : ∀ (i : Nat) r, L[i]? = some r -> (i < ds.length -> r.kind = 1) /\ (¬ i < ds.length -> r.kind = 2) /\ okR r := fun i r h => by
  rw [<- hL] at h;by_cases hi : i < ds.length
  ·rw [List.getElem?_append_left (by omega)] at h;have := hdr r (List.mem_of_getElem? h);exact ⟨fun _ => this.1, fun q => absurd hi q, this.2⟩
  ·rw [List.getElem?_append_right (by omega)] at h;have := hrr r (List.mem_of_getElem? h);exact ⟨fun q => absurd q hi, fun _ => this.1, this.2⟩
 have eL : (L.map recW).length = L.length := List.length_map _
 have hrow : ∀ q ∈ L.map recB, q.length <= 4096 := fun q h => by
  obtain ⟨r, _, rfl⟩ := List.mem_map.1 h;rw [recB_len]; omega
 refine zUq (fn := Tryz.f4) O O O (Ob rfl) (fun R k0 => ?_);refine zkq 11 O ?_;refine ziq O O O O O O u1q ?_;refine zbq 7 O ?_;refine ziq O O O O O O (qeq (w' := .bool false) (QNq t 600 hb (by omega)) (by rw [decide_eq_false hg])) ?_;refine zbq 2 O ?_;refine ziq O O O O O O (qeq (w' := .bool false) (ZKq ds xs false false) (by rw [decide_eq_false hk])) ?_;refine zbq 16 O ?_
 (refine ztq rfl (kKq O O O O O hP (by simp) ?_); rintro w hw hq; obtain ⟨t', n', t1, hT, hgo, rfl⟩ := ap_some hq hst; rw [hL])
 refine zbq 17 O ?_;refine zfq (w' := .bool false) O O (congrArg W.bool (by first | rfl | exact eqI_iff.2 rfl | (simp; done) | decide | (simp [ltI_iff, eqI_iff]; done))) ?_;refine zbq 17 O ?_;show CoW _ _ _ _ _ _ _ [(5, _, _), (4, _, _), (3, _, _), (2, _, _), (1, _, _), (0, _, _)] _ _ _;refine Q7q (α := Nat) (fun i => i <= L.length) 14 (fun i => ((L.map recB).take i).map bW) 53 1 (fun i => [(15, .int .i64 (i : Int))]) [(5, _), (6, _), (8, _), (9, _), (10, _), (11, _), (12, _)] _ (fun i => L.length - i) (0) ⟨rfl, rfl, rfl, rfl, rfl, rfl, rfl, trivial⟩ (Nat.zero_le _) ⟨rfl, trivial⟩ O O O (fun i hI => ?_);refine zkq 5 O ?_;refine zfq (w' := .int .i64 (L.length : Int)) O O (by rw [<- eL]; rfl) ?_;refine zbq 3 O ?_;refine zQq rfl (fun h1 => ?_) (fun h1 => ?_)
 ·have hi : i < L.length := by omega
  obtain ⟨r, hx⟩ : ∃ r, L[i]? = some r := ⟨_, List.getElem?_eq_getElem hi⟩
  obtain ⟨k1, k2, hr⟩ := hkind i r hx;have hnx : ((L.map recB).take (i + 1)).map bW = ((L.map recB).take i).map bW ++ [bW (recB r)] := by rw [List.take_add_one, List.getElem?_map, hx, List.map_append]; rfl
  have hlt : (((L.map recB).take i).map bW).length <= 100 := by rw [List.length_map, List.length_take, List.length_map]; omega
  skip
  by_cases hid : i < ds.length
  ·have kk : ((.ofNat r.kind.toNat : Int)) = 1 := by rw [k1 hid]; rfl
   refine zgq 8 O ?_;refine zaq rfl (zDq (i := i) O O O O O O O (yNq recW hx)) (zvq O O (ziq O O O O O O (Qvq r hr) ?_));refine zbq 11 O ?_;refine qmq (w' := .bool false) O O (congrArg W.bool (by first | rfl | exact eqI_iff.2 rfl | (simp; done) | decide | (simp [ltI_iff, eqI_iff]; done))) ?_;refine zAq 3 O ?_;refine zcq rfl (zDq (i := i) O O O O O O O (yNq recW hx)) ?_;refine zAq 2 O ?_;refine qmq (w' := .bool true) O O (congrArg W.bool (eqI_iff.2 kk)) ?_;refine zAq 3 O ?_;refine qmq (w' := .int .i64 (ds.length : Int)) O O (by rw [<- e1]; rfl) ?_;refine qmq (w' := .bool true) O O (congrArg W.bool (ltI_iff.2 (by omega))) ?_;refine qmq (w' := .bool false) O O (congrArg W.bool (by first | rfl | exact eqI_iff.2 rfl | (simp; done) | decide | (simp [ltI_iff, eqI_iff]; done))) ?_;refine zAq 10 O ?_;refine zvq rfl (qOq O O (Ypq [_, _, _, _, _, _, _] (k := ti53) (news := [bW (recB r)]) O O O O O (jfq O O O O) (by simp) (by show ((((L.map recB).take i).map bW).length + 1) * 24 <= _; omega) (by show (((L.map recB).take i).map bW).length + 1 <= _; omega) rfl (by simp))) ?_;refine zbq 6 O ?_;refine zxq (i + 1) O O (by first | rfl | omega) ⟨by omega, by omega⟩ ?_;refine qoq 2 O ?_;exact xEq 8 (i + 1) (hi) (by omega) (Nat.zero_le _) (hnx) (by first | assumption | (simp; done) | (simp [zdq]; done)) (by omega) (by first | omega | decide) rfl (by first | rfl | exact List.length_append.symm) ⟨rfl, trivial⟩ ⟨rfl, rfl, rfl, rfl, rfl, rfl, rfl, trivial⟩ (by repeat (first | exact trivial | refine ⟨by first | rfl | exact zeq (by first | rfl | (simp; done)), ?_⟩)) (by repeat (first | exact trivial | refine ⟨by first | rfl | exact zeq (by first | rfl | (simp; done)), ?_⟩)) rfl (by first | rfl | assumption | (simp; done)) (by repeat (first | exact trivial | refine ⟨⟨by decide, rfl, by first | rfl | exact zeq (by first | rfl | (simp; done))⟩, ?_⟩)) (by first | decide | simp)
  ·have kk : ¬ ((.ofNat r.kind.toNat : Int)) = 1 := by rw [k2 hid]; decide
   refine zgq 8 O ?_;refine zaq rfl (zDq (i := i) O O O O O O O (yNq recW hx)) (zvq O O (ziq O O O O O O (Qvq r hr) ?_));refine zbq 11 O ?_;refine qmq (w' := .bool false) O O (congrArg W.bool (by first | rfl | exact eqI_iff.2 rfl | (simp; done) | decide | (simp [ltI_iff, eqI_iff]; done))) ?_;refine zAq 3 O ?_;refine zcq rfl (zDq (i := i) O O O O O O O (yNq recW hx)) ?_;refine zAq 2 O ?_;refine qmq (w' := .bool false) O O (congrArg W.bool (eqI_not.2 kk)) ?_;refine zAq 3 O ?_;refine qmq (w' := .int .i64 (ds.length : Int)) O O (by rw [<- e1]; rfl) ?_;refine qmq (w' := .bool false) O O (congrArg W.bool (ltI_not.2 (by omega))) ?_;refine qmq (w' := .bool false) O O (congrArg W.bool (by first | rfl | exact eqI_iff.2 rfl | (simp; done) | decide | (simp [ltI_iff, eqI_iff]; done))) ?_;refine zAq 10 O ?_;refine zvq rfl (qOq O O (Ypq [_, _, _, _, _, _, _] (k := ti53) (news := [bW (recB r)]) O O O O O (jfq O O O O) (by simp) (by show ((((L.map recB).take i).map bW).length + 1) * 24 <= _; omega) (by show (((L.map recB).take i).map bW).length + 1 <= _; omega) rfl (by simp))) ?_;refine zbq 6 O ?_;refine zxq (i + 1) O O (by first | rfl | omega) ⟨by omega, by omega⟩ ?_;refine qoq 2 O ?_;exact xEq 8 (i + 1) (hi) (by omega) (Nat.zero_le _) (hnx) (by first | assumption | (simp; done) | (simp [zdq]; done)) (by omega) (by first | omega | decide) rfl (by first | rfl | exact List.length_append.symm) ⟨rfl, trivial⟩ ⟨rfl, rfl, rfl, rfl, rfl, rfl, rfl, trivial⟩ (by repeat (first | exact trivial | refine ⟨by first | rfl | exact zeq (by first | rfl | (simp; done)), ?_⟩)) (by repeat (first | exact trivial | refine ⟨by first | rfl | exact zeq (by first | rfl | (simp; done)), ?_⟩)) rfl (by first | rfl | assumption | (simp; done)) (by repeat (first | exact trivial | refine ⟨⟨by decide, rfl, by first | rfl | exact zeq (by first | rfl | (simp; done))⟩, ?_⟩)) (by first | decide | simp)
 ·have hi : i = L.length := by omega
  subst hi;have hok : okH (headD p t1 L) := ⟨by show 0 <= p.height + 1; have := hp.1; omega, by show p.height + 1 <= _; have := hp.2.1; omega, by show (0 : Int) <= (L.length : Int); omega, by show (L.length : Int) <= 256; omega⟩;rw [show (L.map recB).take L.length = L.map recB from List.take_of_length_le (by rw [List.length_map]; omega)];refine zgq 2 O ?_;refine jzq (by intro h; cases h) ?_;refine zVq 5 O ?_;refine ziq O O O O O O (tsum_ok t' n' t1 hT.toIsT) ?_;refine zbq 11 O ?_;refine vOq O O O O O (.cons (view_g (H0 := [_, _, _, _, _, _, _]) (by decide) (bWs_pur _) (by simp)) .nil) (rRoot_s (L.map recB) false (by rw [List.length_map]; omega) hrow) (by simp [purL, purW]) (by show (kmq (dW _) && (kmq (.int .i64 0) && true)) = true; rw [flat_dW]; rfl) ?_;refine zbq 14 O ?_;refine ziq O O O O O O (hfollows_s (headD p t1 L) p hok hp O O) ?_;refine zbq 3 O ?_;refine zfq (w' := .bool true) O O (congrArg W.bool (by first | rfl | exact eqI_iff.2 rfl | (simp; done) | decide | (simp [ltI_iff, eqI_iff]; done))) ?_;refine zbq 5 O ?_;refine zfq (w' := .bool true) rfl (qaq O O O O (qHq O O O O O O (sumD t1) (sumD t1) 250)) (by rw [decide_eq_true rfl]) ?_;refine zbq 3 O ?_;refine zfq (w' := .bool true) O O (congrArg W.bool (by first | rfl | exact eqI_iff.2 rfl | (simp; done) | decide | (simp [ltI_iff, eqI_iff]; done))) ?_;refine zbq 5 O ?_;refine zfq (w' := .bool true) rfl (qaq O O O O (qHq O O O O O O (rootD (L.map recB)) (rootD (L.map recB)) 250)) (by rw [decide_eq_true rfl]) ?_;refine zbq 5 O ?_;refine zfq (w' := .int .i64 (L.length : Int)) O O (by rw [<- eL]; rfl) ?_;refine zfq (w' := .bool true) O O (congrArg W.bool (by first | rfl | exact eqI_iff.2 rfl | (simp; done) | decide | (simp [ltI_iff, eqI_iff]; done))) ?_;refine zbq 3 O ?_;refine zfq (w' := .int .i64 (L.length : Int)) O O (by rw [<- eL]; rfl) ?_;refine zbq 2 O ?_;refine zfq (w' := .int .i64 (ds.length : Int)) O O (by rw [<- e1]; rfl) ?_;refine zbq 2 O ?_;refine zfq (w' := .int .i64 (xs.length : Int)) O O (by rw [<- e2]; rfl) ?_;refine zxq (ds.length + xs.length) O O (by first | rfl | omega) ⟨by omega, by omega⟩ ?_;refine zfq (w' := .bool true) O O (congrArg W.bool (eqI_iff.2 (by rw [hLl]))) ?_;refine zbq 3 O ?_;refine ziq O O O O O O (qeq (w' := .int .i64 0) (qFq t' (by have := hT.len; omega)) (by rw [if_pos ⟨n', t1, hT⟩])) ?_;refine zfq (w' := .bool true) O O (congrArg W.bool (by first | rfl | exact eqI_iff.2 rfl | (simp; done) | decide | (simp [ltI_iff, eqI_iff]; done))) ?_;refine zbq 5 O ?_;exact zlq (.inr rfl) O O
theorem heads16_s (t : Tree) (p : Hdr) (ds : List Depo) (xs : List Tx) (box : Dig) (hB : BodOk ds xs) (hb : t.nodes.length <= 4611686018427387903) : PS cfg glK 4 [tW t, hdW p, bodW ds xs false false, dW box] (.bool true) := by
 by_cases hg : xVq t 600
 ·exact heads_g t p ds xs box hb (.inl hg)
 by_cases hk : yOq ds xs
 ·exact heads_g t p ds xs box hb (.inr hk)
 rcases ap_ref t p ds xs box hB (great_600 hg) with ⟨c, hc, hP⟩ | ⟨n, t0, l, rs, hA, hp, hp2, hm, hst⟩
 ·exact heads_e t p ds xs box hb hg hk c hc hP
 ·exact heads_ok t n t0 hA p hp hp2 ds xs box hB hb hg hk hm l rs hst
end
noncomputable def fz {α : Type} (n : Nat) (c : Nat -> α) : α := Nat.rec (c 0) (fun m _ => c (Nat.succ m)) n
noncomputable def wS (bs : Nat -> Nat) (i : Nat) : Nat := (qwq bs (i + 1)).getD i 0
attribute [local irreducible] wS in
mutual
/-- all blocks in it lie below n -/
noncomputable def ltB (n : Nat) : V -> Bool
 | .ptr b _ => decide (b < n)
 | .sl b _ _ _ _ _ => decide (b < n)
 | .map b => decide (b < n)
 | .yield b => decide (b < n)
 | .fn _ a c => ltL n a && ltL n c
 | .iface _ v => ltB n v
 | .agg _ l => ltL n l
 | .arr _ _ l => ltL n l
 | .tup l => ltL n l
 | .undef => true
 | .bool _ => true
 | .int _ _ => true
 | .str _ => true
 | .nilp => true
 | .nils => true
 | .nilm => true
 | .nilf => true
 | .nili => true
noncomputable def ltL (n : Nat) : List V -> Bool
 | [] => true
 | v :: l => ltB n v && ltL n l
end
noncomputable def SeenK (h : Heap) : Nat -> Prop := fun b => b < h.next /\ ∃ v, h.val b = some v /\ ltB h.next v = true
noncomputable def u32V (n : Nat) : V := .int .u32 (.ofNat n)
noncomputable def eqK : List V -> List Nat -> Bool
 | [], [] => true
 | .int .u32 (.ofNat n) :: l, m :: ms => match Nat.beq n m with
  | true => eqK l ms
  | false => false
 | _, _ => false
theorem eqK_spec : ∀ {l : List V} {ms : List Nat}, eqK l ms = true -> l = ms.map u32V
 | [], [], _ => rfl
 | [], _ :: _, h => by simp [eqK] at h
 | v :: l, ms, h => by
  unfold eqK at h;split at h
  ·simp_all
  ·rename_i n l' m ms' e;cases e;split at h
   ·rename_i hb;obtain rfl := Nat.eq_of_beq_eq_true hb;rw [eqK_spec h]; rfl
   ·cases h
  ·cases h
noncomputable def globK (h : Heap) : Bool := match h.get 0 with
 | some (.ro (.arr 64 1 l)) => eqK l kW
 | _ => false
theorem RSL_wd (Γ : Ctx) : ∀ l : List Nat, RSL Γ (l.map wd) (l.map u32V)
 | [] => rfl
 | n :: l => qRq (a := [u32V n]) (b := l.map u32V) (x := wd n) rfl (RSL_wd Γ l)
theorem globK_spec {h : Heap} (hn : Nat.ble 2 h.next = true) (hk : globK h = true) : GRel cfg glK ⟨0, fun i => i, SeenK h, h⟩ := by
 intro g w _ h2 nw σ;have hn := Ob hn;unfold glK at h2;split at h2
 ·cases h2;unfold globK at hk;split at hk
  ·rename_i l hg;obtain rfl := eqK_spec hk;have hv : h.val 0 = some (.arr 64 1 (kW.map u32V)) := by simp only [Heap.val, hg]
   refine RV.of_one ⟨0, 0, _, rfl, ⟨by omega, _, hv, by rfl⟩, hv, by exact Nat.le_refl _, fun _ => rfl, .inr rfl, ?_⟩ O O;have e : ((zsq (.arr 64 1 (kW.map u32V))).drop 0).take 64 = kW.map u32V := by kernel_rfl
   show RS _ _ (((zsq (.arr 64 1 (kW.map u32V))).drop 0).take 64);rw [e];exact ⟨rfl, fun x hx => by obtain ⟨n, _, rfl⟩ := List.mem_map.1 hx; rfl, RSL_wd _ kW⟩
  ·cases hk
 ·cases h2
end
end Go.Proofs.YtbgnnnhhdggaoaaGreatDoor

/-
  What the proof of AutoBegins stands on, part 8. No condition.
-/
import Derived.Test.YtgeelfdgnehdnaaGreatDoorZAutoBeginsG
set_option linter.unusedSimpArgs false
set_option linter.unusedVariables false
namespace Go.Proofs.YtgeelfdgnehdnaaGreatDoor
section
open Go.RowKit
section
attribute [local irreducible] CoW OpW FlW Step Spec
section
variable {C : Cfg} {G : Nat -> Option W} {m k0 : Nat} {fr fr2 : FrW} {hp hp2 : HpW} {nw nw2 : Nat} {R : Res}
theorem ent_keep (hold : ∀ k y, hget hp2 k = some y -> hget hp k = some y) (nd : (hp2.map (·.1)).Nodup) : Ent C G m k0 fr hp nw R fr hp2 nw R := fun Γ X st h1 _ s => by
 have howns : ∀ {c}, Owns Γ hp2 c -> Owns Γ hp c := fun {c} h => by
  obtain ⟨k, y, h1, h2⟩ := h;exact ⟨k, y, hold _ _ h1, h2⟩
 refine ⟨Γ, X, h1, ⟨s.hh, s.fr, ⟨s.sat.wf, fun k ty w h => s.sat.own k ty w (hold _ _ h), fun k k' y z hy hz e => s.sat.inj k k' _ _ (hold _ _ hy) (hold _ _ hz) e, nd, s.sat.dX, s.sat.xlt, s.sat.dlt, s.sat.res, s.sat.gl⟩, fun d hd => ?_, s.nd⟩, ?_⟩
 ·obtain ⟨q1, q2, q3, q4, q5⟩ := s.ds d hd;exact ⟨q1, q2, q3, fun h => q4 (howns h), q5⟩
 ·exact ⟨fun _ _ => rfl, fun h => h, Nat.le_refl _, fun _ _ _ _ => rfl, fun _ h => h, fun _ h => .inl h, fun k y _ h => ⟨y, hold _ _ h⟩, fun k y hk h => .inr ⟨k, y, hk, hold _ _ h, rfl⟩, fun _ h => .inl h, fun _ h _ _ => h⟩
theorem ent_mid {b k : Nat} (hm : m <= b) (hb : b < nw2) (hb2 : nw2 <= k) (hk : k < nw) (hf : subR (tau1 b k) nw2 fr fr2) (hh : subRH (tau1 b k) nw2 hp hp2) (nd : (hp2.map (·.1)).Nodup) : Ent C G m k0 fr hp nw R fr2 hp2 nw2 R := by
 refine ent_num (tau1 b k) (by omega) (fun i hi => qsq (by omega)) (fun i hi => ?_) (fun i h1 h2 => ?_) (YJq hf) (jOq hh) (fun i j x y hx hy e => ?_) nd
 ·by_cases e : i = b
  ·subst e; rw [j8q]; exact hk
  ·rw [qsq e]; omega
 ·by_cases e : i = b
  ·subst e; rw [j8q]; omega
  ·rw [qsq e]; exact h1
 ·have h1 := (jOq hh i x hx).1;have h2 := (jOq hh j y hy).1;by_cases e1 : i = b <;> by_cases e2 : j = b
  ·rw [e1, e2]
  ·subst e1; rw [j8q, qsq e2] at e; omega
  ·subst e2; rw [j8q, qsq e1] at e; omega
  ·rwa [qsq e1, qsq e2] at e
theorem ren_g (τ : Nat -> Nat) (b e : Nat) (l : List W) : renW τ (gW b e l) = gW (τ b) e l := by cases l <;> rfl
theorem ref_g {n b e : Nat} {l : List W} (h : b < n) : refB n (gW b e l) = true := by
 cases l with
 | nil => rfl
 | cons x r => simp [gW, refB, h]
theorem renH_g (τ : Nat -> Nat) (b : Nat) (ty : TypeId) (e : Nat) {l : List W} (hl : purL l = true) : renH τ (gH b ty e l) = gH (τ b) ty e l := by
 cases l with
 | nil => rfl
 | cons x r =>
  have hpa : purW (.arr ((x :: r).length * e) e (x :: r)) = true := hl;simp only [gH, renH, yfq hpa]
theorem hdel_g {b : Nat} {ty : TypeId} {e : Nat} {l : List W} {P : HpW} (hP : ∀ p ∈ P, p.1 ≠ b) : hdel (P ++ gH b ty e l) b = P := by
 cases l with
 | cons x r => exact Y6q hP
 | nil =>
  rw [show gH b ty e [] = [] from rfl, List.append_nil];induction P with
  | nil => rfl
  | cons p P ih =>
   obtain ⟨c, y⟩ := p;have hc := hP (c, y) (List.mem_cons_self ..)
   have e : Nat.beq c b = false := by
    cases q : Nat.beq c b with
    | true => exact absurd (Nat.eq_of_beq_eq_true q) hc
    | false => rfl
   show (match Nat.beq c b with | true => P | false => (c, y) :: hdel P b) = _;rw [e];exact congrArg _ (ih fun p hp => hP p (List.mem_cons_of_mem _ hp))
theorem xgq {b : Nat} : ∀ {P : HpW}, (∀ p ∈ P, p.1 ≠ b) -> hget P b = none
 | [], _ => rfl
 | (c, y) :: P, h => by
  rw [zxq, if_neg fun e => h (c, y) (List.mem_cons_self ..) e];exact xgq fun p hp => h p (List.mem_cons_of_mem _ hp)
theorem Y5q {b : Nat} {Q : HpW} : ∀ {P : HpW}, hget (P ++ Q) b = (hget P b).orElse fun _ => hget Q b
 | [] => by simp [hget]
 | (c, y) :: P => by
  rw [List.cons_append, zxq, zxq];split
  ·rfl
  ·exact Y5q
theorem j3q {P : HpW} {b e : Nat} {ty : TypeId} {l : List W} (hh : ∀ p ∈ P, p.1 ≠ b) (nd : (P.map (·.1)).Nodup) : ((P ++ gH b ty e l).map (·.1)).Nodup := by
 cases l with
 | nil => rw [show gH b ty e [] = [] from rfl, List.append_nil]; exact nd
 | cons x r =>
  rw [show gH b ty e (x :: r) = [(b, ty, .arr ((x :: r).length * e) e (x :: r))] from rfl, List.map_append, List.nodup_append];refine ⟨nd, by simp, fun a ha c hc q => ?_⟩;obtain ⟨p, h1, h2⟩ := List.mem_map.1 ha;have := hh p h1;simp only [List.map_cons, List.map_nil, List.mem_cons, List.not_mem_nil, or_false] at hc;omega
theorem YGq {blk : Nat -> Option W} {b e : Nat} {l : List W} (h : blk b = none) : View blk (gW b e l) (gW b e l) := by
 cases l with
 | nil => exact .pur rfl
 | cons x r => exact .slK h
theorem subVH_g {blk : Nat -> Option W} {b c e : Nat} {ty : TypeId} {l : List W} (hc : c ≠ b) (hl : purL l = true) (hg : ∀ x r, l = x :: r -> hget hp c = some (ty, .arr ((x :: r).length * e) e (x :: r))) : subVH blk b hp (gH c ty e l) := by
 cases l with
 | nil => trivial
 | cons x r =>
  have hpa : purW (.arr ((x :: r).length * e) e (x :: r)) = true := hl;exact ⟨⟨hc, _, hg x r rfl, .pur hpa⟩, trivial⟩
theorem uoq {blk : Nat -> Option W} {b : Nat} {Y : HpW} : ∀ {X : HpW}, subVH blk b hp X -> subVH blk b hp Y -> subVH blk b hp (X ++ Y)
 | [], _, h => h
 | _ :: _, h, h2 => ⟨h.1, uoq h.2 h2⟩
theorem ent_frg {b e : Nat} {ty : TypeId} {l : List W} {X : HpW} (s : Nat) (he : 0 < e) (hl : purL l = true) (hbm : m <= b) (hs : getW fr s = some (gW b e l)) (hf : ∀ blk : Nat -> Option W, (∀ i, i ≠ b -> blk i = none) -> subV blk fr fr2) (hX : ∀ blk : Nat -> Option W, (∀ i, i ≠ b -> blk i = none) -> subVH blk b (X ++ gH b ty e l) X) (nd : (X.map (·.1)).Nodup) (hXb : ∀ p ∈ X, p.1 ≠ b) : Ent C G m k0 fr (X ++ gH b ty e l) nw R ((s, .fz l e false) :: fr2) X nw R := by
 cases l with
 | nil =>
  rw [show gH b ty e [] = [] from rfl, List.append_nil];exact ent_view _ ⟨⟨_, hs, .nilfz⟩, hf _ fun _ _ => rfl⟩
 | cons x r =>
  have hne : ∀ i, i ≠ b -> blk1 b (.arr ((x :: r).length * e) e (x :: r)) i = none := fun i hi => by
   unfold blk1
   have : Nat.beq i b = false := by
    cases q : Nat.beq i b with
    | true => exact absurd (Nat.eq_of_beq_eq_true q) hi
    | false => rfl
   rw [this]
  exact ent_fr1 b _ X (jFq hXb) hl hbm ⟨⟨_, hs, .sl (c := .arr ((x :: r).length * e) e (x :: r)) (by unfold blk1; rw [Nat.beq_refl]) hl (zUq he O O) (by intro h; cases h)⟩, hf _ hne⟩ (hX _ hne) nd
theorem keep2 {c d b e : Nat} {x z : TypeId × W} {ty : TypeId} {l : List W} (hd : d ≠ b) {k : Nat} {y : TypeId × W} (h : hget ([(c, x)] ++ gH b ty e l) k = some y) : hget ((c, x) :: (d, z) :: gH b ty e l) k = some y := by
 rw [List.cons_append, List.nil_append, zxq] at h;rw [zxq, zxq];split at h
 ·rename_i q; rw [if_pos q]; exact h
 ·rename_i q;rw [if_neg q];by_cases q2 : d = k
  ·subst q2; rw [xgq (fun p hp => by rw [xjq p hp]; exact Ne.symm hd)] at h; cases h
  ·rw [if_neg q2]; exact h
end
variable {G : Nat -> Option W}
def cntT : T -> Nat
 | .nil => 0
 | .leaf _ _ => 1
 | .fork l r => cntT l + cntT r + 1
def th : Nat -> Nat
 | 0 => 0
 | _ + 1 => 1
noncomputable def tgW (b : Nat) (ns : List Node) (r : Int) : W := .agg 2 [gW b 36 (ns.map nW), .int .i64 r]
def OfQ (ns : List Node) (r : Int) (t : T) : W -> HpW -> Nat -> Prop := fun w hp nw => ∃ ms n, ms.length = cntT t /\ Rep (ns ++ ms) n t /\ w = .tup [tgW (th (cntT t)) (ns ++ ms) r, .int .i64 ((n : Nat) : Int)] /\ hp = [(2, 30, tgW (th (cntT t)) (ns ++ ms) r)] ++ gH (th (cntT t)) 106 36 ((ns ++ ms).map nW) /\ nw = 3
def OfS (G : Nat -> Option W) (t : T) (d : Nat) : Prop := ∀ (f : Bool) (ns : List Node) (r : Int), ns.length + cntT t <= 1000000 -> jdq cfg G 163 1 [tgW 0 ns r, .fz (t.all.map pW) 33 f, .int .i64 (d : Int)] (gH 0 106 36 (ns.map nW)) (OfQ ns r t)
section
variable {ops : Array Oper} {l : List Oper} {K : FrW -> HpW -> Nat -> Res -> Prop} {m nw : Nat} {fr : FrW} {hp : HpW} {R : Res} {o : Oper} {x : Operand} {xs : Array Operand} {ats : Array TypeId} {t : T} {d : Nat} {f : Bool} {ns : List Node} {r : Int}
theorem op_of (k : Nat) (P : HpW) (hg : qeq ops fr o = some true) (ho : o.op = .call ⟨.value x, xs, ats⟩) (hx : evW cfg G fr x = some (.fn 163 [] [])) (he : cfg.ext 163 = none) (hxs : evLW cfg G fr xs.toList = some [tgW k ns r, .fz (t.all.map pW) 33 f, .int .i64 (d : Int)]) (hhp : hp = P ++ gH k 106 36 (ns.map nW)) (hP : ∀ p ∈ P, p.1 ≠ k /\ p.1 < nw) (nd : (P.map (·.1)).Nodup) (hk : k < nw) (sp : OfS G t d) (hl : ns.length + cntT t <= 1000000)
  (h : ∀ (ms : List Node) (n k' : Nat), ms.length = cntT t -> Rep (ns ++ ms) n t -> (k' = k \/ k' = nw) -> OpW cfg G m ops l (putW fr o.dst (.tup [tgW k' (ns ++ ms) r, .int .i64 ((n : Nat) : Int)])) (P ++ gH k' 106 36 ((ns ++ ms).map nW)) (nw + 2) R K) : OpW cfg G m ops (o :: l) fr hp nw R K := by
 have pn : purL (ns.map nW) = true := jAq vtq _;have pp : purL (t.all.map pW) = true := qUq _;refine z2q hg (jPq (ext := [k]) (ws := [tgW 0 ns r, .fz (t.all.map pW) 33 f, .int .i64 (d : Int)]) (hp0 := gH 0 106 36 (ns.map nW)) ho hx he hxs ?_ (sp f ns r hl) (by simp) (by intro b hb; simp only [List.mem_cons, List.not_mem_nil, or_false] at hb; omega) ?_ ?_ ?_ ?_)
 ·show [tgW k ns r, .fz (t.all.map pW) 33 f, .int .i64 (d : Int)] = [renW _ (tgW 0 ns r), renW _ (.fz (t.all.map pW) 33 f), .int .i64 (d : Int)];rw [yfq (show purW (.fz (t.all.map pW) 33 f) = true from pp)];unfold tgW;simp only [renW, qaq, ren_g];rfl
 ·cases ns.map nW with
  | nil => exact List.nodup_nil
  | cons y q => simp [gH]
 ·intro i ty w hi;cases e : ns.map nW with
  | nil => rw [e] at hi; simp [gH, hget] at hi
  | cons y q =>
   rw [e] at hi pn hhp;have hpa : purW (.arr ((y :: q).length * 36) 36 (y :: q)) = true := pn;simp only [gH] at hi;rw [zxq] at hi;split at hi
   ·rename_i e0;subst e0;cases hi;refine ⟨by simp, ziq hpa, k, rfl, ?_⟩;rw [hhp, yfq hpa];exact jFq fun p hp => (hP p hp).1
   ·simp [hget] at hi
 ·show (refB 1 (tgW 0 ns r) && (refB 1 (.fz (t.all.map pW) 33 f) && (refB 1 (.int .i64 (d : Int)) && true))) = true;rw [ziq (m := 1) (show purW (.fz (t.all.map pW) 33 f) = true from pp)];unfold tgW;simp [refB, refL, ref_g]
 ·rintro w hp1 nw1 ⟨ms, n, h1, h2, rfl, rfl, rfl⟩;have pm : purL ((ns ++ ms).map nW) = true := jAq vtq _
  obtain ⟨k', hk', ek⟩ : ∃ k', (k' = k \/ k' = nw) /\ numC [k] nw (th (cntT t)) = k' := by
   cases cntT t with
   | zero => exact ⟨k, .inl rfl, rfl⟩
   | succ c => exact ⟨nw, .inr rfl, rfl⟩
  have h := h ms n k' h1 h2 hk'
  have e1 : renW (numC [k] nw) (.tup [tgW (th (cntT t)) (ns ++ ms) r, .int .i64 ((n : Nat) : Int)]) = .tup [tgW k' (ns ++ ms) r, .int .i64 ((n : Nat) : Int)] := by
   unfold tgW;simp only [renW, qaq, ren_g, ek]
  have e2 : renH (numC [k] nw) ([(2, 30, tgW (th (cntT t)) (ns ++ ms) r)] ++ gH (th (cntT t)) 106 36 ((ns ++ ms).map nW)) = (nw + 1, 30, tgW k' (ns ++ ms) r) :: gH k' 106 36 ((ns ++ ms).map nW) := by
   rw [List.cons_append, List.nil_append];show (numC [k] nw 2, 30, renW (numC [k] nw) (tgW (th (cntT t)) (ns ++ ms) r)) :: renH (numC [k] nw) (gH (th (cntT t)) 106 36 ((ns ++ ms).map nW)) = _;rw [renH_g _ _ _ _ pm, ek];unfold tgW;simp only [renW, qaq, ren_g, ek];rfl
  rw [e1, e2, show ([k] : List Nat).length = 1 from rfl, show nw + (3 - 1) = nw + 2 from rfl];show OpW cfg G m ops l _ (((nw + 1, 30, tgW k' (ns ++ ms) r) :: gH k' 106 36 ((ns ++ ms).map nW)) ++ hdel hp k) (nw + 2) R K;rw [hhp, hdel_g fun p hp => (hP p hp).1];have hPk : ∀ p ∈ P, p.1 ≠ k' := fun p hp => by have := hP p hp; rcases hk' with rfl | rfl <;> omega
  refine Yeq (fun _ => ent_keep (hp2 := P ++ gH k' 106 36 ((ns ++ ms).map nW)) (fun i y hy => ?_) (j3q hPk nd)) h
  have hi : i ≠ nw + 1 := by
   rintro rfl;rw [xgq fun p hp => ?_] at hy
   ·cases hy
   ·rcases List.mem_append.1 hp with q | q
    ·have := (hP p q).2; omega
    ·rw [xjq p q]; rcases hk' with rfl | rfl <;> omega
  rw [List.cons_append, zxq, if_neg (Ne.symm hi), Y5q];rw [Y5q] at hy;cases hq : hget P i with
  | none =>
   rw [hq] at hy;have hy : hget (gH k' 106 36 ((ns ++ ms).map nW)) i = some y := hy;rw [hy]; rfl
  | some z =>
   rw [hq] at hy;have hy : some z = some y := hy
   have hik : i ≠ k' := by
    rintro rfl;rw [xgq hPk] at hq;cases hq
   rw [xgq fun p hp => by rw [xjq p hp]; exact Ne.symm hik];exact hy
end
theorem of_nil (d : Nat) : OfS G .nil d := by
 intro f ns r hl R;refine yqq (fn := Tryz.f163) O O O (Ob rfl) (fun k0 => ?_);refine zgq 11 O ?_;first | refine ydq O O ?_ | refine zbq O O ?_
 refine zcq 13 O ?_;exact fin (w := .tup [tgW 0 ns r, .int .i64 ((0 : Nat) : Int)]) (.inr rfl) ((ent_keep (hp2 := [(2, 30, tgW 0 ns r)] ++ gH 0 106 36 (ns.map nW)) (fun k y h => keep2 (d := 1) (by omega) h) (j3q (by simp) (by simp))).trans (ynq (fr2 := [(6, .ptr 2 0), (7, .int .i64 0)]) ⟨rfl, rfl, trivial⟩ O O)) rfl (show _ = _ /\ OfQ ns r .nil _ _ _ from ⟨rfl, [], 0, rfl, .nil, by rw [List.append_nil]; rfl, by rw [List.append_nil]; rfl, rfl⟩)
def lfN (k : Dig) (v : List UInt8) : Node := ⟨true, k, v, 0, 0⟩
theorem of_leaf (d : Nat) (k : Dig) (v : List UInt8) (hv : v.length <= 70368744177664) : OfS G (.leaf k v) d := by
 intro f ns r hl R;have hl : ns.length + 1 <= 1000000 := hl;obtain ⟨L, eL⟩ : ∃ L, ns.map nW = L := ⟨_, rfl⟩
 have hL : L.length <= 1000000 := by rw [<- eL, List.length_map]; omega
 have pL : purL L = true := by rw [<- eL]; exact jAq vtq _
 have e2 : (ns ++ [lfN k v]).map nW = L ++ [nW (lfN k v)] := by rw [List.map_append, eL]; rfl
 have pn : purL (L ++ [nW (lfN k v)]) = true := by rw [<- e2]; exact jAq vtq _
 have en : (L ++ [nW (lfN k v)]).length = ns.length + 1 := by rw [<- e2, List.length_map, List.length_append]; rfl
 have hne : L ++ [nW (lfN k v)] ≠ [] := by simp
 have hrep : Rep (ns ++ [lfN k v]) (ns.length + 1) (.leaf k v) := .leaf (l := 0) (r := 0) (by rw [List.getElem?_append_right (Nat.le_refl _), Nat.sub_self]; rfl);unfold tgW;rw [eL];refine yqq (fn := Tryz.f163) O O O (Ob rfl) (fun k0 => ?_);skip
 cases L with
 | nil =>
  refine zgq 11 O ?_;first | refine ydq O O ?_ | refine zbq O O ?_
  refine zcq 10 O ?_;first | refine ydq O O ?_ | refine zbq O O ?_
  refine zcq 7 O ?_;refine yoq rfl (ysq O O O (g_get 0 36 _ _)) (by first | rfl | kernel_rfl) ?_;refine zaq O O ?_;first | refine zaq rfl (zBq O O O O O O O (by first | assumption | (simp; done))) ?_ | refine zaq rfl (zTq O O O O O O O (by omega)) ?_ | refine zaq rfl (zsq O O O O O O (by omega)) ?_ | refine zaq O O ?_
  refine zjq 3 O ?_;first | refine zaq rfl (zBq O O O O O O O (by first | assumption | (simp; done))) ?_ | refine zaq rfl (zTq O O O O O O O (by omega)) ?_ | refine zaq rfl (zsq O O O O O O (by omega)) ?_ | refine zaq O O ?_
  refine zjq 2 O ?_;refine fl_ps O O O O O O (rtwin_s v false hv) (by simp) (by simp) (by first | rfl | kernel_rfl) ?_;refine zjq 2 O ?_;refine yoq rfl (qhq O O (k2q [_, _, _] (k := ti106) (news := [nW (lfN k v)]) O O O O O (qXq O O O O) (by simp) (by show (_ + 1) * 80 <= _; omega) (by show _ + 1 <= _; omega) rfl (by simp))) (by first | rfl | kernel_rfl) ?_;refine zaq O O ?_;refine yoq rfl (q3q O O O O O (g_put 0 36 _ _ _ _) rfl) (by first | rfl | kernel_rfl) ?_;refine zjq 7 O ?_;first | refine fl_len O O ?_ | refine zaq O O ?_
  refine zjq 6 O ?_;refine fin (w := .tup [tgW 1 (ns ++ [lfN k v]) r, .int .i64 ((ns.length + 1 : Nat) : Int)]) (.inr rfl) (ent_mid (b := 1) (k := 4) (nw2 := 3) (fr2 := [(6, .ptr 2 0), (7, .int .i64 ((ns.length + 1 : Nat) : Int))]) (hp2 := [(2, 30, tgW 1 (ns ++ [lfN k v]) r)] ++ gH 1 106 36 ((ns ++ [lfN k v]).map nW)) (by omega) (by omega) (by omega) (by show 4 < 5; omega) ⟨⟨rfl, rfl⟩, ⟨?_, rfl⟩, trivial⟩ ?_ (j3q (by simp) (by simp))) rfl (show _ = _ /\ OfQ ns r (.leaf k v) _ _ _ from ⟨rfl, [lfN k v], ns.length + 1, rfl, hrep, rfl, rfl, rfl⟩)
  ·show some (W.int .i64 (((([] : List W) ++ [nW (lfN k v)] : List W).length : Nat) : Int)) = some (W.int .i64 ((ns.length + 1 : Nat) : Int));rw [en]
  ·unfold tgW;rw [e2, Ziq hne, Zjq hne];exact ⟨⟨by omega, rfl, rfl⟩, ⟨by omega, by rw [yfq (show purW (.arr _ 36 _) = true from pn)]; rfl, ziq (show purW (.arr _ 36 _) = true from pn)⟩, trivial⟩
 | cons y q =>
  refine zgq 11 O ?_;first | refine ydq O O ?_ | refine zbq O O ?_
  refine zcq 10 O ?_;first | refine ydq O O ?_ | refine zbq O O ?_
  refine zcq 7 O ?_;refine yoq rfl (ysq O O O (g_get 0 36 _ _)) (by first | rfl | kernel_rfl) ?_;refine zaq O O ?_;first | refine zaq rfl (zBq O O O O O O O (by first | assumption | (simp; done))) ?_ | refine zaq rfl (zTq O O O O O O O (by omega)) ?_ | refine zaq rfl (zsq O O O O O O (by omega)) ?_ | refine zaq O O ?_
  refine zjq 3 O ?_;first | refine zaq rfl (zBq O O O O O O O (by first | assumption | (simp; done))) ?_ | refine zaq rfl (zTq O O O O O O O (by omega)) ?_ | refine zaq rfl (zsq O O O O O O (by omega)) ?_ | refine zaq O O ?_
  refine zjq 2 O ?_;refine fl_ps O O O O O O (rtwin_s v false hv) (by simp) (by simp) (by first | rfl | kernel_rfl) ?_;refine zjq 2 O ?_;refine yoq rfl (qhq O O (k2q [_, _, _] (k := ti106) (news := [nW (lfN k v)]) O O O O O (qXq O O O O) (by simp) (by show (_ + 1) * 80 <= _; omega) (by show _ + 1 <= _; omega) rfl (by simp))) (by first | rfl | kernel_rfl) ?_;refine zaq O O ?_;refine yoq rfl (q3q O O O O O (g_put 0 36 _ _ _ _) rfl) (by first | rfl | kernel_rfl) ?_;refine zjq 7 O ?_;first | refine fl_len O O ?_ | refine zaq O O ?_
  refine zjq 6 O ?_;refine fin (w := .tup [tgW 1 (ns ++ [lfN k v]) r, .int .i64 ((ns.length + 1 : Nat) : Int)]) (.inr rfl) (ent_mid (b := 1) (k := 4) (nw2 := 3) (fr2 := [(6, .ptr 2 0), (7, .int .i64 ((ns.length + 1 : Nat) : Int))]) (hp2 := [(2, 30, tgW 1 (ns ++ [lfN k v]) r)] ++ gH 1 106 36 ((ns ++ [lfN k v]).map nW)) (by omega) (by omega) (by omega) (by show 4 < 5; omega) ⟨⟨rfl, rfl⟩, ⟨?_, rfl⟩, trivial⟩ ?_ (j3q (by simp) (by simp))) rfl (show _ = _ /\ OfQ ns r (.leaf k v) _ _ _ from ⟨rfl, [lfN k v], ns.length + 1, rfl, hrep, rfl, rfl, rfl⟩)
  ·show some (W.int .i64 ((((y :: q) ++ [nW (lfN k v)] : List W).length : Nat) : Int)) = some (W.int .i64 ((ns.length + 1 : Nat) : Int));rw [en]
  ·unfold tgW;rw [e2, Ziq hne, Zjq hne];exact ⟨⟨by omega, rfl, rfl⟩, ⟨by omega, by rw [yfq (show purW (.arr _ 36 _) = true from pn)]; rfl, ziq (show purW (.arr _ 36 _) = true from pn)⟩, trivial⟩
noncomputable def zT : W := .agg 2 [.nils, .int .i64 0]
noncomputable def ofP (k : Nat) (ns : List Node) (r : Int) : HpW := [(2, 30, zT), (1, 30, tgW k ns r)]
noncomputable def ofG (ns : List Node) (r : Int) : HpW := ofP 0 ns r ++ gH 0 106 36 (ns.map nW)
noncomputable def ofH2 (ns : List Node) (r : Int) (A B : List Pr) : HpW := (ofG ns r ++ gH 3 90 33 (A.map pW)) ++ gH 4 90 33 (B.map pW)
theorem ofH2_l (ns : List Node) (r : Int) (A : List Pr) : ofH2 ns r A [] = ofG ns r ++ gH 3 90 33 (A.map pW) := List.append_nil _
theorem juq {ns : List Node} {r : Int} : ∀ p ∈ ofG ns r, p.1 < 3 := fun p hp => by
 rcases List.mem_append.1 hp with q | q
 ·simp only [ofP, List.mem_cons, List.not_mem_nil, or_false] at q; rcases q with q | q <;> rw [q] <;> first | (show 2 < 3; omega) | (show 1 < 3; omega)
 ·rw [xjq p q]; omega
theorem ofG_g {ns : List Node} {r : Int} {x : W} {q : List W} (h : ns.map nW = x :: q) : hget (ofG ns r) 0 = some (106, .arr ((x :: q).length * 36) 36 (x :: q)) := by
 unfold ofG;rw [h]; rfl
theorem ofG_nd (ns : List Node) (r : Int) : ((ofG ns r).map (·.1)).Nodup := j3q (by simp [ofP]) (by simp [ofP])
theorem of_fork (tl tr : T) (d : Nat) (b : Dig) (hz : Zr d b) (ok : (T.fork tl tr).ok d b = true) (hl : (T.fork tl tr).all.length <= 1000000) (cL : OfS G tl (d + 1)) (cR : OfS G tr (d + 1)) : OfS G (.fork tl tr) d := by
 intro f ns r hc R;obtain ⟨hd, okL, okR, two⟩ := ok_fork.1 ok;obtain ⟨b0, b1⟩ := ok_bits hz ok;have hall : (T.fork tl tr).all = tl.all ++ tr.all := by simp [T.all]
 have hn2 : 2 <= tl.all.length + tr.all.length := two_len okL okR two;have hc : ns.length + (cntT tl + cntT tr + 1) <= 1000000 := hc;rw [hall] at hl ⊢;rw [List.length_append] at hl;obtain ⟨L, eL⟩ : ∃ L, tl.all = L := ⟨_, rfl⟩
 obtain ⟨Q, eQ⟩ : ∃ Q, tr.all = Q := ⟨_, rfl⟩
 rw [eL] at b0;rw [eQ] at b1;rw [eL, eQ] at hn2 hl ⊢;have e : ((L ++ Q).map pW).length = L.length + Q.length := by rw [List.length_map, List.length_append]
 have hat : ∀ i, i < L.length + Q.length -> ∃ x, (L ++ Q)[i]? = some x := fun i hi => ⟨_, List.getElem?_eq_getElem (by rw [List.length_append]; exact hi)⟩
 have pn : purL (ns.map nW) = true := jAq vtq _;have pf : purW (.fz ((L ++ Q).map pW) 33 f) = true := qUq _;refine yqq (fn := Tryz.f163) O O O (Ob rfl) (fun k0 => ?_);refine zgq 11 O ?_;refine zkq (w' := .int .i64 ((L.length + Q.length : Nat) : Int)) O O (by rw [<- e]; rfl) ?_;refine zkq (w' := .bool false) O O (congrArg W.bool (eqI_not.2 (by omega))) ?_;refine zcq 9 O ?_;refine zkq (w' := .int .i64 ((L.length + Q.length : Nat) : Int)) O O (by rw [<- e]; rfl) ?_;refine zkq (w' := .bool false) O O (congrArg W.bool (eqI_not.2 (by omega))) ?_;refine zcq 18 O ?_;have z0 : Q.take (0 - L.length) = [] := by rw [Nat.zero_sub]; rfl
 refine qJq (α := Nat) (fun i => i <= L.length + Q.length) (fun i => [(8, gW 3 33 ((L.take i).map pW)), (10, .int .i64 (i : Int)), (9, gW 4 33 ((Q.take (i - L.length)).map pW)), (1, .fz ((L ++ Q).map pW) 33 f), (2, .int .i64 (d : Int)), (3, .ptr 1 0), (6, .ptr 2 0)]) (fun i => ofH2 ns r (L.take i) (Q.take (i - L.length))) (fun _ => 5) (fun _ => R) (fun i => L.length + Q.length - i) 0 (Nat.zero_le _) ((vAq (fr2 := [(8, .nils), (10, .int .i64 0), (9, .nils), (1, .fz ((L ++ Q).map pW) 33 f), (2, .int .i64 (d : Int)), (3, .ptr 1 0), (6, .ptr 2 0)]) ⟨rfl, rfl, rfl, rfl, rfl, rfl, rfl, trivial⟩).trans ((vAq (fr2 := [(8, .nils), (10, .int .i64 0), (9, .nils), (1, .fz ((L ++ Q).map pW) 33 f), (2, .int .i64 (d : Int)), (3, .ptr 1 0), (6, .ptr 2 0)]) ⟨rfl, rfl, rfl, rfl, rfl, rfl, rfl, trivial⟩).trans (ynq ⟨rfl, rfl, by rw [z0]; rfl, rfl, rfl, rfl, rfl, trivial⟩ (by rw [z0]; unfold ofH2; rw [show gH 4 90 33 (([] : List Pr).map pW) = [] from rfl, show gH 3 90 33 ((L.take 0).map pW) = [] from rfl, List.append_nil, List.append_nil]; rfl) rfl))) (fun i hI => ?_);skip
 have hI : i <= L.length + Q.length := hI;refine zgq 5 O ?_;refine zkq (w' := .int .i64 ((L.length + Q.length : Nat) : Int)) O O (by rw [<- e]; rfl) ?_;refine zcq 3 O ?_;refine zzq rfl (fun h1 => ?_) (fun h1 => ?_)
 ·have hi : i < L.length + Q.length := by omega
  obtain ⟨x, hx⟩ := hat i hi;skip
  by_cases hcl : i < L.length
  ·have hxl : L[i]? = some x := by rw [List.getElem?_append_left hcl] at hx; exact hx
   have hbit : bitN x.1 d = 0 := b0 x (List.mem_of_getElem? hxl);have zq : Q.take (i - L.length) = [] := by rw [show i - L.length = 0 by omega]; rfl
   have zq' : Q.take (i + 1 - L.length) = [] := by rw [show i + 1 - L.length = 0 by omega]; rfl
   have hL2 : (L.take (i + 1)).map pW = (L.take i).map pW ++ [pW x] := by rw [List.take_add_one, hxl, List.map_append]; rfl
   have hlt : ((L.take i).map pW).length <= 1000000 := by rw [List.length_map, List.length_take]; omega
   rw [zq, ofH2_l];refine zdq 8 O ?_;refine zbq rfl (zBq (i := i) O O O O O O O (ygq pW hx)) ?_;refine zcq 3 O ?_;refine zlq O O O O O O (YOq x.1 d hd) ?_;refine zkq (w' := .bool true) O O (congrArg W.bool (eqI_iff.2 (by rw [hbit]; rfl))) ?_;refine zcq 7 O ?_;refine zbq rfl (zBq (i := i) O O O O O O O (ygq pW hx)) ?_;refine zcq 2 O ?_;refine zwq rfl (qhq O O (k2q ((5, _) :: ofG ns r) (k := ti90) (news := [pW x]) O O O O O (qXq O O O O) (by simp) (by show (((L.take i).map pW).length + 1) * 56 <= _; omega) (by show ((L.take i).map pW).length + 1 <= _; omega) rfl (fun p hp => by rcases List.mem_cons.1 hp with q | q; (rw [q]; show ¬ 5 = 3; omega); have := juq p q; omega))) ?_;refine zcq 6 O ?_;refine zoq (i + 1) O O (by first | rfl | omega) ⟨by omega, by omega⟩ ?_;refine yNq 2 O ?_;skip
   refine yIq (i + 1) hi (by omega) ?_;simp only [zq', ofH2_l, hL2];exact Ent.trans (qwq (b := 3) (H0 := ofG ns r) (l2 := (L.take i).map pW ++ [pW x]) (n := ((L.take i).map pW ++ [pW x]).length) (fr2 := [(10, .int .i64 ((i + 1 : Nat) : Int)), (9, .nils), (1, .fz ((L ++ Q).map pW) 33 f), (2, .int .i64 (d : Int)), (3, .ptr 1 0), (6, .ptr 2 0)]) 6 8 (by omega) (by omega) (by show 6 < 7; omega) (by simp) O O ⟨rfl, rfl, rfl, rfl, rfl, rfl, trivial⟩ ⟨rfl, rfl, ziq pf, rfl, rfl, rfl, trivial⟩ rfl (by simp) (xzq ⟨⟨by omega, rfl, rfl⟩, ⟨by omega, rfl, by simp [tgW, refB, refL, ref_g]⟩, trivial⟩ (subH_g (by omega) pn (fun x q h => ofG_g (r := r) h))) (ofG_nd ns r)) (vAq ⟨rfl, rfl, rfl, rfl, rfl, rfl, rfl, trivial⟩)
  ·have hxq : Q[i - L.length]? = some x := by rw [List.getElem?_append_right (by omega)] at hx; exact hx
   have hbit : bitN x.1 d = 1 := b1 x (List.mem_of_getElem? hxq);have zl : L.take i = L := List.take_of_length_le (by omega);have zl' : L.take (i + 1) = L := List.take_of_length_le (by omega);have hQ2 : (Q.take (i + 1 - L.length)).map pW = (Q.take (i - L.length)).map pW ++ [pW x] := by rw [show i + 1 - L.length = (i - L.length) + 1 by omega, List.take_add_one, hxq, List.map_append]; rfl
   have hlt : ((Q.take (i - L.length)).map pW).length <= 1000000 := by rw [List.length_map, List.length_take]; omega
   have hnm : ∀ p ∈ ofG ns r ++ gH 3 90 33 (L.map pW), p.1 < 4 := fun p hp => by
    rcases List.mem_append.1 hp with hp | hp
    ·have := juq p hp; omega
    ·rw [xjq p hp]; omega
   rw [zl];refine zdq 8 O ?_;refine zbq rfl (zBq (i := i) O O O O O O O (ygq pW hx)) ?_;refine zcq 3 O ?_;refine zlq O O O O O O (YOq x.1 d hd) ?_;refine zkq (w' := .bool false) O O (congrArg W.bool (eqI_not.2 (by rw [hbit]; decide))) ?_;refine zcq 7 O ?_;refine zbq rfl (zBq (i := i) O O O O O O O (ygq pW hx)) ?_;refine zcq 2 O ?_;refine zwq rfl (qhq O O (k2q ((5, _) :: (ofG ns r ++ gH 3 90 33 (L.map pW))) (k := ti90) (news := [pW x]) O O O O O (qXq O O O O) (by simp) (by show (((Q.take (i - L.length)).map pW).length + 1) * 56 <= _; omega) (by show ((Q.take (i - L.length)).map pW).length + 1 <= _; omega) rfl (fun p hp => by rcases List.mem_cons.1 hp with q | q; (rw [q]; show ¬ 5 = 4; omega); have := hnm p q; omega))) ?_;refine zcq 6 O ?_;refine zoq (i + 1) O O (by first | rfl | omega) ⟨by omega, by omega⟩ ?_;refine yNq 2 O ?_;skip
   refine yIq (i + 1) hi (by omega) ?_;simp only [zl', hQ2];exact Ent.trans (qwq (b := 4) (H0 := ofG ns r ++ gH 3 90 33 (L.map pW)) (l2 := (Q.take (i - L.length)).map pW ++ [pW x]) (n := ((Q.take (i - L.length)).map pW ++ [pW x]).length) (fr2 := [(8, gW 3 33 (L.map pW)), (10, .int .i64 ((i + 1 : Nat) : Int)), (1, .fz ((L ++ Q).map pW) 33 f), (2, .int .i64 (d : Int)), (3, .ptr 1 0), (6, .ptr 2 0)]) 6 9 (by omega) (by omega) (by show 6 < 7; omega) (by simp) O O ⟨rfl, rfl, rfl, rfl, rfl, rfl, trivial⟩ ⟨ref_g (by omega), rfl, ziq pf, rfl, rfl, rfl, trivial⟩ rfl (by simp) (xzq (xzq ⟨⟨by omega, rfl, rfl⟩, ⟨by omega, rfl, by simp [tgW, refB, refL, ref_g]⟩, trivial⟩ (subH_g (by omega) pn (fun x q h => qYq (ofG_g (r := r) h)))) (subH_g (by omega) (by simp) (fun x q h => by show hget (ofG ns r ++ gH 3 90 33 (L.map pW)) 3 = _; rw [h]; exact jFq (fun p hp => by have := juq p hp; omega)))) (j3q (fun p hp => by have := juq p hp; omega) (ofG_nd ns r))) (ynq ⟨rfl, rfl, rfl, rfl, rfl, rfl, rfl, trivial⟩ (by unfold ofH2; rw [hQ2]) rfl)
 ·have hi : i = L.length + Q.length := by omega
  have zl : L.take i = L := List.take_of_length_le (by omega);have zq : Q.take (i - L.length) = Q := List.take_of_length_le (by omega);rw [zl, zq];have pL : purL (L.map pW) = true := qUq _;have pQ : purL (Q.map pW) = true := qUq _
  have nG : ∀ p ∈ ofG ns r ++ gH 3 90 33 (L.map pW), p.1 ≠ 4 := fun p hp => by
   rcases List.mem_append.1 hp with hp | hp
   ·have := juq p hp; omega
   ·rw [xjq p hp]; omega
  have nP : ∀ (k : Nat) (ns' : List Node), ∀ p ∈ ofP k ns' r, p.1 = 2 \/ p.1 = 1 := fun k ns' p hp => by
   simp only [ofP, List.mem_cons, List.not_mem_nil, or_false] at hp;rcases hp with q | q <;> rw [q]
   ·exact .inl rfl
   ·exact .inr rfl
  have frz : ∀ k0, Ent cfg G 1 k0 [(8, gW 3 33 (L.map pW)), (10, .int .i64 (i : Int)), (9, gW 4 33 (Q.map pW)), (1, .fz ((L ++ Q).map pW) 33 f), (2, .int .i64 (d : Int)), (3, .ptr 1 0), (6, .ptr 2 0)] (ofH2 ns r L Q) 5 R [(8, .fz (L.map pW) 33 false), (9, .fz (Q.map pW) 33 false), (2, .int .i64 (d : Int)), (3, .ptr 1 0), (6, .ptr 2 0)] (ofG ns r) 5 R := fun k0 =>
   Ent.trans (ent_frg (b := 4) (X := ofG ns r ++ gH 3 90 33 (L.map pW)) (fr2 := [(8, gW 3 33 (L.map pW)), (2, .int .i64 (d : Int)), (3, .ptr 1 0), (6, .ptr 2 0)]) 9 (by decide) pQ (by omega) rfl (fun blk h => ⟨⟨_, rfl, YGq (h 3 (by decide))⟩, ⟨_, rfl, .pur rfl⟩, ⟨_, rfl, .ptrK (h 1 (by decide))⟩, ⟨_, rfl, .ptrK (h 2 (by decide))⟩, trivial⟩) (fun blk h => uoq (uoq ⟨⟨by decide, _, rfl, .pur rfl⟩, ⟨by decide, _, rfl, .agg (.cons (YGq (h 0 (by decide))) (.cons (.pur rfl) .nil))⟩, trivial⟩ (subVH_g (by decide) pn (fun x q h => qYq (qYq (ofG_g (r := r) h))))) (subVH_g (by decide) pL (fun x q h => by rw [h]; exact qYq (jFq (fun p hp => by have := juq p hp; omega))))) (j3q (fun p hp => by have := juq p hp; omega) (ofG_nd ns r)) nG)
    (ent_frg (b := 3) (X := ofG ns r) (fr2 := [(9, .fz (Q.map pW) 33 false), (2, .int .i64 (d : Int)), (3, .ptr 1 0), (6, .ptr 2 0)]) 8 (by decide) pL (by omega) rfl (fun blk h => ⟨⟨_, rfl, .pur pQ⟩, ⟨_, rfl, .pur rfl⟩, ⟨_, rfl, .ptrK (h 1 (by decide))⟩, ⟨_, rfl, .ptrK (h 2 (by decide))⟩, trivial⟩) (fun blk h => uoq ⟨⟨by decide, _, rfl, .pur rfl⟩, ⟨by decide, _, rfl, .agg (.cons (YGq (h 0 (by decide))) (.cons (.pur rfl) .nil))⟩, trivial⟩ (subVH_g (by decide) pn (fun x q h => qYq (ofG_g (r := r) h)))) (ofG_nd ns r) (fun p hp => by have := juq p hp; omega))
  refine co_ent (Ent.trans (ynq (fr2 := [(8, gW 3 33 (L.map pW)), (10, .int .i64 (i : Int)), (9, gW 4 33 (Q.map pW)), (1, .fz ((L ++ Q).map pW) 33 f), (2, .int .i64 (d : Int)), (3, .ptr 1 0), (6, .ptr 2 0)]) ⟨rfl, rfl, rfl, rfl, rfl, rfl, rfl, trivial⟩ O O) (frz _)) ?_;have hP : ∀ (k nw : Nat) (ns' : List Node), k ≠ 2 -> k ≠ 1 -> 3 <= nw -> ∀ p ∈ ofP k ns' r, p.1 ≠ k /\ p.1 < nw := fun k nw ns' h1 h2 h3 p hp => by rcases nP k ns' p hp with q | q <;> omega
  have ndP : ∀ (k : Nat) (ns' : List Node), ((ofP k ns' r).map (·.1)).Nodup := fun k ns' => by simp [ofP]
  refine zdq 2 O ?_;refine qTq (by intro h; cases h) ?_;refine zAq 7 O ?_;refine zoq (d + 1) O O (by first | rfl | omega) ⟨by omega, by omega⟩ ?_;refine op_of (f := false) 0 (ofP 0 ns r) O O O O (by rw [eL]; rfl) rfl (hP 0 5 ns (by omega) (by omega) (by omega)) (ndP _ _) (by omega) cL (by omega) ?_; intro m1 n1 k1 hm1 hr1 hk1; have a1 : (ns ++ m1).length = ns.length + cntT tl := by rw [List.length_append, hm1]
  refine zcq 12 O ?_;refine zoq (d + 1) O O (by first | rfl | omega) ⟨by omega, by omega⟩ ?_;refine op_of (f := false) k1 (ofP k1 (ns ++ m1) r) O O O O (by rw [eQ]; rfl) rfl (hP k1 7 (ns ++ m1) (by omega) (by omega) (by omega)) (ndP _ _) (by omega) cR (by omega) ?_; intro m2 n2 k2 hm2 hr2 hk2; have a2 : ((ns ++ m1) ++ m2).length = ns.length + cntT tl + cntT tr := by rw [List.length_append, a1, hm2]
  refine zcq 10 O ?_;refine zwq rfl (ysq O O O (g_get k2 36 _ _)) ?_;refine zcq 3 O ?_;refine Yeq (fun _ => ent_view [(87, nW (knq n1 n2)), (84, gW k2 36 (((ns ++ m1) ++ m2).map nW)), (3, .ptr 1 0), (6, .ptr 2 0)] ⟨⟨_, rfl, .agg (.cons (.pur rfl) (.cons qqq (.cons .nilfz (.cons (.pur rfl) (.cons (.pur rfl) .nil)))))⟩, ⟨_, rfl, YGq rfl⟩, ⟨_, rfl, .ptrK rfl⟩, ⟨_, rfl, .ptrK rfl⟩, trivial⟩) ?_; refine zwq O O ?_
  refine zwq rfl (qhq O O (k2q ((9, _) :: ofP k2 ((ns ++ m1) ++ m2) r) (k := ti106) (news := [nW (knq n1 n2)]) O O O O O (qXq O O O O) (by simp) (by show ((((ns ++ m1) ++ m2).map nW).length + 1) * 80 <= _; rw [List.length_map]; omega) (by show (((ns ++ m1) ++ m2).map nW).length + 1 <= _; rw [List.length_map]; omega) rfl (fun p hp => by rcases List.mem_cons.1 hp with q | q; (rw [q]; show ¬ 9 = k2; omega); rcases nP k2 _ p q with q | q <;> omega))) ?_;refine zbq O O (zwq rfl (q3q O O O O O (g_put k2 36 _ _ _ _) rfl) ?_);refine zcq 7 O ?_;first | refine fl_len O O ?_ | refine zaq O O ?_
  refine zjq 5 O ?_;obtain ⟨M, eM⟩ : ∃ M, (ns ++ m1) ++ m2 = M := ⟨_, rfl⟩
  rw [eM] at a2 ⊢;have e2 : (M ++ [knq n1 n2]).map nW = M.map nW ++ [nW (knq n1 n2)] := by rw [List.map_append]; rfl
  have pM : purL (M.map nW ++ [nW (knq n1 n2)]) = true := by rw [<- e2]; exact jAq vtq _
  have en : (M.map nW ++ [nW (knq n1 n2)]).length = M.length + 1 := by rw [<- e2, List.length_map, List.length_append]; rfl
  have hne : M.map nW ++ [nW (knq n1 n2)] ≠ [] := by simp
  have ems : ns ++ (m1 ++ m2 ++ [knq n1 n2]) = M ++ [knq n1 n2] := by rw [<- eM]; simp
  have hM1 : n1 <= M.length := by have := hr1.le; rw [a1] at this; omega
  have hM2 : n2 <= M.length := by have := hr2.le; rw [eM] at this; exact this
  have hrep : Rep (M ++ [knq n1 n2]) (M.length + 1) (.fork tl tr) := .fork (l := n1) (r := n2) (k := qoq) (v := []) (by rw [List.getElem?_append_right (Nat.le_refl _), Nat.sub_self]; rfl) hM1 hM2 (by rw [<- eM]; exact (hr1.app m2).app _) (by have := hr2.app [knq n1 n2]; rwa [eM] at this);refine fin (w := .tup [tgW 1 (M ++ [knq n1 n2]) r, .int .i64 ((M.length + 1 : Nat) : Int)]) (.inr rfl) (ent_mid (b := 1) (k := 10) (nw2 := 3) (fr2 := [(6, .ptr 2 0), (7, .int .i64 ((M.length + 1 : Nat) : Int))]) (hp2 := [(2, 30, tgW 1 (M ++ [knq n1 n2]) r)] ++ gH 1 106 36 ((M ++ [knq n1 n2]).map nW)) (by omega) (by omega) (by omega) (by show 10 < 11; omega) ⟨⟨rfl, rfl⟩, ⟨?_, rfl⟩, trivial⟩ ?_ (j3q (by simp) (by simp))) rfl (show _ = _ /\ OfQ ns r (.fork tl tr) _ _ _ from ⟨rfl, m1 ++ m2 ++ [knq n1 n2], M.length + 1, by simp [hm1, hm2, cntT]; omega, by rw [ems]; exact hrep, by rw [ems]; rfl, by rw [ems]; rfl, rfl⟩)
  ·show some (W.int .i64 (((M.map nW ++ [nW (knq n1 n2)]).length : Nat) : Int)) = some (W.int .i64 ((M.length + 1 : Nat) : Int));rw [en]
  ·unfold tgW;rw [e2, Ziq hne, Zjq hne];exact ⟨⟨by omega, rfl, rfl⟩, ⟨by omega, by rw [yfq (show purW (.arr _ 36 _) = true from pM)]; rfl, ziq (show purW (.arr _ 36 _) = true from pM)⟩, trivial⟩
theorem ofs_all : ∀ (t : T) (d : Nat) (b : Dig), Zr d b -> t.ok d b = true -> t.all.length <= 1000000 -> (∀ p ∈ t.all, p.2.length <= 70368744177664) -> OfS G t d
 | .nil, d, b, _, _, _, _ => of_nil d
 | .leaf k v, d, b, _, _, _, hv => of_leaf d k v (hv (k, v) (by simp [T.all]))
 | .fork l r, d, b, hz, ok, hl, hv => by
  obtain ⟨hd, okL, okR, two⟩ := ok_fork.1 ok;have hall : (T.fork l r).all = l.all ++ r.all := by simp [T.all]
  have h2 := hl;rw [hall, List.length_append] at h2;exact of_fork l r d b hz ok hl (ofs_all l (d + 1) b (jhq hz) okL (by omega) fun p hp => hv p (by rw [hall]; exact List.mem_append_left _ hp)) (ofs_all r (d + 1) (qpq b d) (jgq hz hd) okR (by omega) fun p hp => hv p (by rw [hall]; exact List.mem_append_right _ hp))
theorem cnt_le : ∀ {t : T} {d : Nat} {b : Dig}, t.ok d b = true -> d <= 256 -> cntT t <= t.all.length * (257 - d)
 | .nil, d, b, _, _ => Nat.zero_le _
 | .leaf k v, d, b, _, hd => by simp only [cntT, T.all, List.length_cons, List.length_nil]; omega
 | .fork l r, d, b, h, hd => by
  obtain ⟨h0, h1, h2, h3⟩ := ok_fork.1 h;have l1 := cnt_le h1 (by omega);have l2 := cnt_le h2 (by omega);have l3 := two_len h1 h2 h3;have e : (T.fork l r).all.length = l.all.length + r.all.length := by simp [T.all]
  rw [e];show cntT l + cntT r + 1 <= _;have e1 : 257 - d = (257 - (d + 1)) + 1 := by omega
  rw [e1, Nat.mul_succ, Nat.add_mul];omega
end
section
attribute [local irreducible] CoW OpW FlW Step Spec
variable {G : Nat -> Option W}
theorem mayp_srt {l : List Pr} (h : MayP l) : Srt l := by
 have key : ∀ n i j (hi : i < l.length) (hj : j < l.length), i + n + 1 = j -> yRq l[i].1 l[j].1 = true := by
  intro n;induction n with
  | zero =>
   intro i j hi hj e;subst e;exact (h.2 (i + 1) hj l[i + 1] (List.getElem?_eq_getElem hj)).2 l[i] (by omega) (by show l[i + 1 - 1]? = _; rw [Nat.add_sub_cancel]; exact List.getElem?_eq_getElem hi)
  | succ n ih =>
   intro i j hi hj e;have h1 := ih i (j - 1) hi (by omega) (by omega);have h2 := (h.2 j hj l[j] (List.getElem?_eq_getElem hj)).2 l[j - 1] (by omega) (List.getElem?_eq_getElem (by omega));exact ZSq h1 h2
 exact List.pairwise_iff_getElem.2 fun i j hi hj hij => key (j - i - 1) i j hi hj (by omega)
theorem take_with {l : List Pr} (h : Srt l) {i : Nat} {x : Pr} (hx : l[i]? = some x) : xJq (l.take i) x.1 x.2 = l.take (i + 1) := by
 obtain ⟨hi, ex⟩ := List.getElem?_eq_some_iff.1 hx
 have hp : ∀ p ∈ l.take i, yRq p.1 x.1 = true := fun p hp => by
  obtain ⟨j, hj⟩ := List.getElem?_of_mem hp;obtain ⟨hj1, hj2⟩ := List.getElem?_eq_some_iff.1 hj;rw [List.length_take] at hj1;rw [List.getElem_take] at hj2;rw [<- hj2, <- ex];exact List.pairwise_iff_getElem.1 h j i (by omega) hi (by omega)
 unfold xJq;rw [List.filter_eq_self.2 hp, List.filter_eq_nil_iff.2 fun p q => by rw [jYq (hp p q)]; simp, List.take_add_one, hx];rfl
theorem rpmay_s (ps : List Pr) (f : Bool) (hb : ps.length <= 1000000000) : PS cfg G 162 [.fz (ps.map pW) 33 f] (.bool (decide (MayP ps))) := by
 have e : (ps.map pW).length = ps.length := List.length_map _;refine zOq (fn := Tryz.f162) O O O (Ob rfl) (fun R k0 => ?_);refine zgq 9 O ?_;refine zkq (w' := .int .i64 (ps.length : Int)) O O (by rw [<- e]; rfl) ?_;refine zcq 3 O ?_;refine zzq rfl (fun h1 => ?_) (fun h1 => ?_)
 ·refine zdq 7 O ?_;exact zfq (.inr rfl) rfl (by rw [decide_eq_false fun h : MayP ps => by have := h.1; omega])
 ·refine zdq 9 O ?_;refine z4q (α := Nat) (fun i => i <= ps.length /\ ∀ j, j < i -> okAt ps j) (fun i => [(3, .int .i64 (i : Int))]) [(0, _), (2, _)] (fun i => ps.length - i) (0) ⟨rfl, rfl, trivial⟩ (⟨Nat.zero_le _, fun j hj => by omega⟩) ⟨rfl, trivial⟩ (fun i hI => ?_);obtain ⟨hi, hI⟩ := hI;refine zgq 5 O ?_;refine zkq (w' := .int .i64 (ps.length : Int)) O O (by rw [<- e]; rfl) ?_;refine zcq 3 O ?_;refine zzq rfl (fun h2 => ?_) (fun h2 => ?_)
  ·have hi' : i < ps.length := by omega
   obtain ⟨x, hx⟩ : ∃ x, ps[i]? = some x := ⟨_, List.getElem?_eq_getElem hi'⟩
   skip
   by_cases hv : valB x.2 = true
   ·by_cases h0 : 0 < i
    ·obtain ⟨y, hy⟩ : ∃ y, ps[i - 1]? = some y := ⟨_, List.getElem?_eq_getElem (by omega)⟩
     by_cases ha : yRq y.1 x.1 = true
     ·have ok : okAt ps i := fun x' hx' => by
       obtain rfl := Option.some.inj (hx.symm.trans hx');refine ⟨hv, fun z _ hz => ?_⟩;obtain rfl := Option.some.inj (hy.symm.trans hz);exact ha
      refine zdq 8 O ?_;refine zaq rfl (zBq (i := i) O O O O O O O (ygq pW hx)) ?_;refine zjq 2 O ?_;refine y2q O O O O O O (y7q (w' := .bool true) (urq x.2 false) (by rw [hv])) ?_;refine zjq 3 O ?_;refine qvq (w' := .bool true) O O (congrArg W.bool (ltI_iff.2 (by omega))) ?_;refine zjq 3 O ?_;refine qgq (i - 1) O O (by first | rfl | omega) ⟨by omega, by omega⟩ ?_;refine zaq rfl (zBq (i := i - 1) O O O O O O O (ygq pW hy)) ?_;refine zjq 4 O ?_;refine zaq rfl (zBq (i := i) O O O O O O O (ygq pW hx)) ?_;refine zjq 2 O ?_;refine y2q O O O O O O (y7q (w' := .bool true) (rahead_s y.1 x.1) (by rw [ha])) ?_;refine zjq 11 O ?_;refine zoq (i + 1) O O (by first | rfl | omega) ⟨by omega, by omega⟩ ?_;refine yNq 2 O ?_;exact ycq (i + 1) (⟨hi', fun j hj => by rcases Nat.lt_succ_iff_lt_or_eq.1 hj with h | rfl <;> first | exact hI j h | exact ok⟩) (by omega) ⟨rfl, trivial⟩ ⟨rfl, rfl, trivial⟩ (by repeat (first | exact trivial | refine ⟨by first | rfl | exact ziq (by first | rfl | (simp; done)), ?_⟩)) (by omega) (by repeat (first | exact zEq | refine zHq (by omega) ?_ | refine zFq (by omega) ?_ | refine zGq (by omega) ?_)) rfl
     ·have no : ¬ MayP ps := fun h => ha ((h.2 i hi' x hx).2 y h0 hy)
      refine zdq 8 O ?_;refine zaq rfl (zBq (i := i) O O O O O O O (ygq pW hx)) ?_;refine zjq 2 O ?_;refine y2q O O O O O O (y7q (w' := .bool true) (urq x.2 false) (by rw [hv])) ?_;refine zjq 3 O ?_;refine qvq (w' := .bool true) O O (congrArg W.bool (ltI_iff.2 (by omega))) ?_;refine zjq 3 O ?_;refine qgq (i - 1) O O (by first | rfl | omega) ⟨by omega, by omega⟩ ?_;refine zaq rfl (zBq (i := i - 1) O O O O O O O (ygq pW hy)) ?_;refine zjq 4 O ?_;refine zaq rfl (zBq (i := i) O O O O O O O (ygq pW hx)) ?_;refine zjq 2 O ?_;refine y2q O O O O O O (y7q (w' := .bool false) (rahead_s y.1 x.1) (by rw [Bool.not_eq_true] at ha; rw [ha])) ?_;refine zjq 14 O ?_;refine zXq (by intro h; cases h) ?_;refine zAq 2 O ?_;exact zfq (.inr rfl) rfl (by rw [decide_eq_false no])
    ·have ok : okAt ps i := fun x' hx' => by
      obtain rfl := Option.some.inj (hx.symm.trans hx');exact ⟨hv, fun y h _ => absurd h h0⟩
     refine zdq 8 O ?_;refine zaq rfl (zBq (i := i) O O O O O O O (ygq pW hx)) ?_;refine zjq 2 O ?_;refine y2q O O O O O O (y7q (w' := .bool true) (urq x.2 false) (by rw [hv])) ?_;refine zjq 3 O ?_;refine qvq (w' := .bool false) O O (congrArg W.bool (ltI_not.2 (by omega))) ?_;refine zjq 24 O ?_;refine zoq (i + 1) O O (by first | rfl | omega) ⟨by omega, by omega⟩ ?_;refine yNq 2 O ?_;exact ycq (i + 1) (⟨hi', fun j hj => by rcases Nat.lt_succ_iff_lt_or_eq.1 hj with h | rfl <;> first | exact hI j h | exact ok⟩) (by omega) ⟨rfl, trivial⟩ ⟨rfl, rfl, trivial⟩ (by repeat (first | exact trivial | refine ⟨by first | rfl | exact ziq (by first | rfl | (simp; done)), ?_⟩)) (by omega) (by repeat (first | exact zEq | refine zHq (by omega) ?_ | refine zFq (by omega) ?_ | refine zGq (by omega) ?_)) rfl
   ·have no : ¬ MayP ps := fun h => hv (h.2 i hi' x hx).1
    refine zdq 8 O ?_;refine zaq rfl (zBq (i := i) O O O O O O O (ygq pW hx)) ?_;refine zjq 2 O ?_;refine y2q O O O O O O (y7q (w' := .bool false) (urq x.2 false) (by rw [Bool.not_eq_true] at hv; rw [hv])) ?_;refine zjq 31 O ?_;refine zXq (by intro h; cases h) ?_;refine zAq 2 O ?_;exact zfq (.inr rfl) rfl (by rw [decide_eq_false no])
  ·refine zdq 2 O ?_;refine zXq (by intro h; cases h) ?_;refine zAq 8 O ?_;have yes : MayP ps := ⟨by omega, fun j hj => hI j (by omega)⟩;exact zfq (.inr rfl) rfl (by rw [decide_eq_true yes])
def okB (l : List Pr) : Prop := MayP l /\ Qyq l
noncomputable instance (l : List Pr) : Decidable (okB l) := Classical.propDecidable _
theorem begun_s (l : List Pr) (f : Bool) (hb : l.length <= 1000000000) : PS cfg G 95 [.fz (l.map pW) 33 f] (.bool (decide (okB l))) := by
 by_cases hm : MayP l
 ·by_cases hh : Qyq l
  ·rw [decide_eq_true (show okB l from ⟨hm, hh⟩)];refine zOq (fn := Tryz.f95) O O O (Ob rfl) (fun R k0 => ?_);refine zgq 8 O ?_;refine zlq O O O O O O (y7q (w' := .bool true) (rpmay_s l f hb) (by rw [decide_eq_true hm])) ?_;refine zcq 2 O ?_;refine zlq O O O O O O (y7q (w' := .bool true) (rheld_s l f hb) (by rw [decide_eq_true hh])) ?_;refine zcq 5 O ?_;exact zfq (.inr rfl) O O
  ·rw [decide_eq_false (show ¬ okB l from fun h => hh h.2)];refine zOq (fn := Tryz.f95) O O O (Ob rfl) (fun R k0 => ?_);refine zgq 8 O ?_;refine zlq O O O O O O (y7q (w' := .bool true) (rpmay_s l f hb) (by rw [decide_eq_true hm])) ?_;refine zcq 2 O ?_;refine zlq O O O O O O (y7q (w' := .bool false) (rheld_s l f hb) (by rw [decide_eq_false hh])) ?_;refine zcq 5 O ?_;exact zfq (.inr rfl) O O
 ·rw [decide_eq_false (show ¬ okB l from fun h => hm h.1)];refine zOq (fn := Tryz.f95) O O O (Ob rfl) (fun R k0 => ?_);refine zgq 8 O ?_;refine zlq O O O O O O (y7q (w' := .bool false) (rpmay_s l f hb) (by rw [decide_eq_false hm])) ?_;refine zcq 8 O ?_;exact zfq (.inr rfl) O O
theorem rall_rep (t : Tree) (n : Nat) (t0 : T) (h3 : t.root = n) (rep : Rep t.nodes n t0) (hb : t.nodes.length <= 4611686018427387903) (hl : t0.all.length <= 1000000) (hv : ∀ p ∈ t0.all, p.2.length <= 70368744177664) : PS cfg G 52 [tW t] (psW t0.all) := by
 obtain ⟨ns, root⟩ := t;simp only at h3 rep hb;subst h3;have P := (rfor_s (G := G) ⟨ns, (n : Int)⟩ hb t0 n rep hl hv).ps (by decide) (qUq _);refine zOq (fn := Tryz.f52) O O O (Ob rfl) (fun R k0 => ?_);refine zgq 11 O ?_;refine op_ps O O O O O O P (by simp) (by simp) ?_;refine zcq 4 O ?_;exact zfq (.inr rfl) O O
theorem held_of (t : Tree) (h : Hdr) (l : List Pr) (p : PS cfg G 52 [tW t] (psW l)) : PS cfg G 175 [chW t h, .int .i64 ((0 : Nat) : Int)] (psW l) := by
 refine zOq (fn := Tryz.f175) O O O (Ob rfl) (fun R k0 => ?_);refine zgq 10 O ?_;refine zlq O O O O O O (at0_s t h) ?_;refine zlq O O O O O O (p) ?_;refine zcq 4 O ?_;exact zfq (.inr rfl) O O
end
section
attribute [local irreducible] CoW OpW FlW Step Spec
variable {G : Nat -> Option W}
theorem g_put1 (b e : Nat) (l : List W) (r : Int) (n : Int) : qFq 50 (.agg 2 [gW b e l, .int .i64 r]) 1 (.int .i64 n) = some (.agg 2 [gW b e l, .int .i64 n]) := by cases l <;> rfl
theorem nat_of {i : Int} (h : 0 <= i) : natW (.int .i64 i) = some i.toNat := by
 obtain ⟨k, rfl⟩ := Int.eq_ofNat_of_zero_le h;rfl
def MadeA (t0 : T) : W -> Prop := fun w => ∃ (ms : List Node) (n : Nat), ms.length = cntT t0 /\ Rep ms n t0 /\ w = tW ⟨ms, (n : Int)⟩
theorem made_s (t0 : T) (f : Bool) (ok : t0.ok 0 qoq = true) (hl : t0.all.length <= 1000) (hv : ∀ p ∈ t0.all, p.2.length <= 70368744177664) : PE cfg G 96 [.fz (t0.all.map pW) 33 f] (MadeA t0) := by
 have hc := cnt_le ok (by omega);have sp : OfS G t0 0 := ofs_all t0 0 qoq uUq ok (by omega) hv;refine vrq (fn := Tryz.f96) O O O (Ob rfl) (fun R k0 => ?_);refine zgq 8 O ?_;refine Yeq (fun _ => vAq (fr2 := [(2, .ptr 0 0), (6, tgW 0 [] 0), (0, .fz (t0.all.map pW) 33 f)]) ⟨rfl, rfl, rfl, trivial⟩) ?_; refine zbq O O ?_
 refine op_of (f := f) (ns := []) (r := 0) (t := t0) (d := 0) 1 [(0, _)] O O O O O O (by simp) (by simp) (by omega) sp (by show 0 + _ <= _; omega) ?_; intro ms n k' hms hrep hk'; rw [List.nil_append] at hrep ⊢
 refine zcq 12 O ?_;refine zwq rfl (q3q O O O O O (g_put1 _ 36 _ _ _) rfl) ?_;refine zcq 9 O ?_;refine xnq (w' := tW ⟨ms, (n : Int)⟩) (.inr rfl) rfl (.agg (.cons (view_g (H0 := [(4, 30, .agg 2 [gW k' 36 (ms.map nW), .int .i64 (n : Int)]), (0, 30, .agg 2 [gW k' 36 (ms.map nW), .int .i64 (n : Int)])]) (by decide) (jAq vtq _) (fun p hp => by simp only [List.mem_cons, List.not_mem_nil, or_false] at hp; rcases hp with q | q <;> rw [q] <;> first | (show ¬ 4 = k'; omega) | (show ¬ 0 = k'; omega))) (.cons (.pur rfl) .nil))) (by simp) ⟨ms, n, hms, hrep, rfl⟩
noncomputable def hdr0 (t0 : T) : Hdr := ⟨0, qoq, sumD t0, tagD 0 [], 0⟩
theorem first_s (t0 : T) (f : Bool) (ok : t0.ok 0 qoq = true) (hs : xuq t0) (hl : t0.all.length <= 1000) : PS cfg G 97 [.fz (t0.all.map pW) 33 f] (hdW (hdr0 t0)) := by
 refine zOq (fn := Tryz.f97) O O O (Ob rfl) (fun R k0 => ?_);refine zgq 8 O ?_;refine zlq O O O O O O (rof_s t0 0 qoq f uUq ok hs (by omega)) ?_;refine zlq O O O O O O (rtnone_s) ?_;refine zkq (w' := hdW (hdr0 t0)) O O (by show W.agg 98 [_, W.arr 32 1 (List.replicate 32 (.int .u8 (.ofNat 0))), _, _, _] = _; rw [kfq]; rfl) ?_;refine zcq 4 O ?_;exact zfq (.inr rfl) O O
def NewCh (t0 : T) : W -> Prop := fun w => ∃ (ms : List Node) (n : Nat), ms.length = cntT t0 /\ Rep ms n t0 /\ w = .tup [chW ⟨ms, (n : Int)⟩ (hdr0 t0), .int .i64 0]
noncomputable def noCh : W := .agg 3 [.agg 2 [.nils, .int .i64 0], .nils]
theorem rchnew_no (l : List Pr) (f : Bool) (hb : l.length <= 1000000000) (h : ¬ okB l) : PS cfg G 29 [.fz (l.map pW) 33 f] (.tup [noCh, .int .i64 8]) := by
 refine zOq (fn := Tryz.f29) O O O (Ob rfl) (fun R k0 => ?_);refine zgq 10 O ?_;refine zlq O O O O O O (y7q (w' := .bool false) (begun_s l f hb) (by rw [decide_eq_false h])) ?_;refine zcq 13 O ?_;exact zfq (.inr rfl) O O
theorem rchnew_s (t0 : T) (f : Bool) (ok : t0.ok 0 qoq = true) (hs : xuq t0) (hl : t0.all.length <= 1000) (h : okB t0.all) : PE cfg G 29 [.fz (t0.all.map pW) 33 f] (NewCh t0) := by
 have hv : ∀ p ∈ t0.all, p.2.length <= 70368744177664 := fun p hp => by have := hs p hp; omega
 refine vrq (fn := Tryz.f29) O O O (Ob rfl) (fun R k0 => ?_);refine zgq 10 O ?_;refine zlq O O O O O O (y7q (w' := .bool true) (begun_s t0.all f (by omega)) (by rw [decide_eq_true h])) ?_;refine zcq 9 O ?_
 (refine z2q rfl (uZq O O O O O (made_s t0 f ok hl hv) (by simp) ?_); rintro w hw ⟨ms, n, hms, hrep, rfl⟩)
 refine zcq 8 O ?_;refine y2q O O O O O O (first_s t0 f ok hs hl) ?_;refine zjq 10 O ?_;refine xnq (w' := .tup [chW ⟨ms, (n : Int)⟩ (hdr0 t0), .int .i64 0]) (.inr rfl) rfl (.tup (.cons (.agg (.cons (.pur (by simp)) (.cons (.sl (full := false) (xs := [lkW (hdr0 t0) (n : Int)]) rfl (by simp [lkW_pur]) rfl (by intro h; cases h)) .nil))) (.cons (.pur rfl) .nil))) (by simp) ⟨ms, n, hms, hrep, rfl⟩
def NewAu (r : Rules) (t0 : T) : W -> Prop := fun w => ∃ (ms : List Node) (n : Nat), ms.length = cntT t0 /\ Rep ms n t0 /\ w = .tup [auW r ⟨ms, (n : Int)⟩ (hdr0 t0), .int .i64 0]
noncomputable def noAu : W := .agg 52 [ruW ⟨0, 0, 0, 0, 0, 0, qoq⟩, .agg 6 [.int .i64 0, .bool false, .int .i64 0, noCh], .nils, .nils, .nils, .nils, .int .u64 0, .nils, hub0]
theorem raunew_no (r : Rules) (l : List Pr) (f : Bool) (hb : l.length <= 1000000000) (h : ¬ (okR r /\ okB l)) : PS cfg G 8 [ruW r, .fz (l.map pW) 33 f] (.tup [noAu, .int .i64 8]) := by
 by_cases hr : okR r
 ·have hl : ¬ okB l := fun q => h ⟨hr, q⟩
  refine zOq (fn := Tryz.f8) O O O (Ob rfl) (fun R k0 => ?_);refine zgq 11 O ?_;refine zlq O O O O O O (y7q (w' := .bool true) (jMq r) (by rw [decide_eq_true hr])) ?_;refine zcq 9 O ?_;refine zlq O O O O O O (rchnew_no l f hb hl) ?_;refine zcq 12 O ?_;refine zkq (w' := .bool true) O O (congrArg W.bool (by first | rfl | exact eqI_iff.2 rfl | (simp; done) | decide | (simp [ltI_iff, eqI_iff]; done))) ?_;refine zcq 13 O ?_;exact zfq (.inr rfl) rfl (by unfold noAu ruW; rw [<- kfq]; rfl)
 ·skip
  refine zOq (fn := Tryz.f8) O O O (Ob rfl) (fun R k0 => ?_);refine zgq 11 O ?_;refine zlq O O O O O O (y7q (w' := .bool false) (jMq r) (by rw [decide_eq_false hr])) ?_;refine zcq 13 O ?_;exact zfq (.inr rfl) rfl (by unfold noAu ruW; rw [<- kfq]; rfl)
theorem raunew_s (r : Rules) (t0 : T) (f : Bool) (hr : okR r) (ok : t0.ok 0 qoq = true) (hs : xuq t0) (hl : t0.all.length <= 1000) (h : okB t0.all) : PE cfg G 8 [ruW r, .fz (t0.all.map pW) 33 f] (NewAu r t0) := by
 have hr2 := hr;obtain ⟨⟨q1, q2⟩, _⟩ := hr2;have en : r.shards = ((r.shards.toNat : Nat) : Int) := by omega
 refine vrq (fn := Tryz.f8) O O O (Ob rfl) (fun R k0 => ?_);refine zgq 11 O ?_;refine zlq O O O O O O (y7q (w' := .bool true) (jMq r) (by rw [decide_eq_true hr])) ?_;refine zcq 9 O ?_
 (refine z2q rfl (uZq O O O O O (rchnew_s t0 f ok hs hl h) (by simp) ?_); rintro w hw ⟨ms, n, hms, hrep, rfl⟩)
 refine zcq 12 O ?_;refine zkq (w' := .bool false) O O (congrArg W.bool (by first | rfl | exact eqI_iff.2 rfl | (simp; done) | decide | (simp [ltI_iff, eqI_iff]; done))) ?_;refine zcq 12 O ?_;refine yoq rfl (uCq (l := r.shards.toNat) (c := r.shards.toNat) O O O O (nat_of (by omega)) (nat_of (by omega)) O O (Nat.le_refl _) (by show 24 * r.shards.toNat <= _; omega) (by omega) O O) (by first | rfl | kernel_rfl) ?_;refine zjq 6 O ?_;refine xnq (w' := .tup [auW r ⟨ms, (n : Int)⟩ (hdr0 t0), .int .i64 0]) (.inr rfl) rfl (.tup (.cons (.agg (.cons (.pur (by simp)) (.cons (.pur (by simp)) (.cons (.sl (full := false) (xs := List.replicate r.shards.toNat shW) rfl (shs_p _) (zUq (by decide) (List.length_replicate ..).symm rfl) (by intro h; cases h)) (.cons (.pur rfl) (.cons (.pur rfl) (.cons (.pur rfl) (.cons (.pur rfl) (.cons (.pur rfl) (.cons (.pur rfl) .nil)))))))))) (.cons (.pur rfl) .nil))) (by simp) ⟨ms, n, hms, hrep, rfl⟩
end
section
attribute [local irreducible] CoW OpW FlW Step Spec
theorem ent_blkv {C : Cfg} {G : Nat -> Option W} {m k0 : Nat} {fr : FrW} {hp : HpW} {nw : Nat} {R : Res} {b : Nat} {ty : TypeId} {w w' : W} (hb : hget hp b = some (ty, w)) (h : View (fun _ => none) w w') : Ent C G m k0 fr hp nw R fr (hset hp b (ty, w')) nw R :=
 ent_blk hb fun Γ v hv => uXq ⟨fun _ h _ => h, fun _ _ _ => rfl, fun _ h => h, fun _ _ => rfl, fun _ _ _ h => (by cases h)⟩ h hv
theorem pool_s (n : Int) (h1 : 1 <= n) (h8 : n <= 8) : PS cfg glK 27 [.int .i64 n] (.tup [shsW n.toNat, .int .i64 0]) := by
 refine vqq (fn := Tryz.f27) O O O (Ob rfl) (fun R k0 => ?_);refine zgq 10 O ?_;refine zkq (w' := .bool false) O O (congrArg W.bool (ltI_not.2 (by omega))) ?_;refine zcq 2 O ?_;refine zkq (w' := .bool false) O O (congrArg W.bool (ltI_not.2 (by omega))) ?_;refine zcq 9 O ?_;refine zwq rfl (uCq (l := n.toNat) (c := n.toNat) O O O O (nat_of (by omega)) (nat_of (by omega)) O O (Nat.le_refl _) (by show 24 * n.toNat <= _; omega) (by omega) O O) ?_;refine zcq 5 O ?_;exact uGq (.inr rfl) rfl (.tup (.cons (.sl (full := false) (xs := List.replicate n.toNat shW) rfl (shs_p _) (zUq (by decide) (List.length_replicate ..).symm rfl) (by intro h; cases h)) (.cons (.pur rfl) .nil)))
def ChA (l : List Pr) : W -> Prop := fun w => (¬ okB l /\ w = .tup [noCh, .int .i64 8]) \/ (okB l /\ ∃ t n t0, IsA t n t0 /\ t0.all = l /\ w = .tup [chW t (hdr0 t0), .int .i64 0])
theorem chnew_s (l : List Pr) (f : Bool) (hb : l.length <= 1000000000) : PE cfg glK 26 [.fz (l.map pW) 33 f] (ChA l) := by
 by_cases hm : MayP l
 ·have hs := mayp_srt hm;have e : (l.map pW).length = l.length := List.length_map _;have h512 := hm.1;refine vrq (fn := Tryz.f26) O O O (Ob rfl) (fun R k0 => ?_);refine zgq 10 O ?_;refine zlq O O O O O O (y7q (w' := .int .i64 0) (YWq l f (by omega)) (by rw [if_pos hm])) ?_;refine zcq 21 O ?_;refine zkq (w' := .int .i64 (l.length : Int)) O O (by rw [<- e]; rfl) ?_;refine zcq 4 O ?_;refine co_ent (ent_blkv (b := 1) (w' := tW ⟨[], 0⟩) rfl (.agg (.cons .nilfz (.cons (.pur rfl) .nil)))) ?_;refine qDq (α := Nat × Tree × T) (fun p => p.1 <= l.length /\ (∃ n, IsT p.2.1 n p.2.2) /\ p.2.2.all = l.take p.1 /\ p.2.1.nodes.length <= 257 * p.1) (fun p => [(22, .int .i64 (p.1 : Int))]) [(2, _), (3, _), (5, _), (20, _), (21, _)] (fun p => [(1, 30, tW p.2.1), (0, 33, noCh)]) (fun p => l.length - p.1) ((0, ⟨[], 0⟩, .nil)) ⟨rfl, rfl, rfl, rfl, rfl, trivial⟩ (⟨Nat.zero_le _, ⟨0, by show (0 : Nat) <= _; omega, fun i x h => by simp at h, rfl, .nil, rfl⟩, rfl, Nat.le_refl _⟩) ⟨rfl, trivial⟩ (rfl) (fun p hI => ?_);obtain ⟨i, t, t0⟩ := p;obtain ⟨g1, ⟨n, g2⟩, g3, g4⟩ := hI;simp only at g1 g2 g3 g4 ⊢;refine zgq 6 O ?_;refine zzq rfl (fun h1 => ?_) (fun h1 => ?_)
  ·have hi : i < l.length := by omega
   obtain ⟨x, hx⟩ : ∃ x, l[i]? = some x := ⟨_, List.getElem?_eq_getElem hi⟩
   have hv : MayP [(x.1, x.2)] := (mayp_val x.1 x.2).2 (hm.2 i hi x hx).1;refine zdq 6 O ?_;refine zbq rfl (zBq (i := i) O O O O O O O (ygq pW hx)) ?_;refine zcq 12 O ?_
   (refine z2q rfl (uZq O O O O O (tput_s t n t0 x.1 x.2 false g2 hv (by omega)) (by simp) ?_); rintro w hw ⟨t', n', ht', ⟨ms, hms, hml⟩, rfl⟩)
   refine zcq 12 O ?_;refine zkq (w' := .bool false) O O (congrArg W.bool (by first | rfl | exact eqI_iff.2 rfl | (simp; done) | decide | (simp [ltI_iff, eqI_iff]; done))) ?_;refine zcq 12 O ?_;refine zoq (i + 1) O O (by first | rfl | omega) ⟨by omega, by omega⟩ ?_;refine yNq 2 O ?_;have hall : (t0.put x.1 x.2 256).all = l.take (i + 1) := by rw [(j2q x.1 x.2 256 t0 (d := 0) (b := qoq) rfl uUq g2.ok (Nat.zero_le _)).2, g3]; exact take_with hs hx
   exact q_againH ((i + 1, t', t0.put x.1 x.2 256)) (⟨hi, ⟨n', ht'⟩, hall, by show t'.nodes.length <= _; rw [hms, List.length_append]; omega⟩) (by simp only; omega) (Nat.zero_le _) ⟨rfl, trivial⟩ ⟨rfl, rfl, rfl, rfl, rfl, trivial⟩ (by repeat (first | exact trivial | refine ⟨by first | rfl | exact ziq (by first | rfl | (simp; done)), ?_⟩)) (by repeat (first | exact trivial | refine ⟨by first | rfl | exact ziq (by first | rfl | (simp; done)), ?_⟩)) (by omega) (by repeat (first | exact trivial | refine ⟨⟨by decide, rfl, by first | rfl | exact ziq (by first | rfl | (simp; done))⟩, ?_⟩)) (by first | decide | simp)
  ·have hi : i = l.length := by omega
   have hall : t0.all = l := by rw [g3, hi, List.take_length]
   have hiff := mayA_iff g2;rw [hall] at hiff;by_cases hh : Qyq l
   ·skip
    have hA : MayA t := hiff.2 hh;obtain ⟨n2, t2, hA2⟩ := hA;refine zdq 2 O ?_;refine qTq (by intro h; cases h) ?_;refine zAq 6 O ?_;refine zlq O O O O O O (y7q (w' := .int .i64 0) (acheck_s t (by omega)) (by rw [if_pos ⟨n2, t2, hA2⟩])) ?_;refine zcq 6 O ?_;refine zkq (w' := .bool false) O O (congrArg W.bool (by first | rfl | exact eqI_iff.2 rfl | (simp; done) | decide | (simp [ltI_iff, eqI_iff]; done))) ?_;refine zcq 8 O ?_;refine zlq O O O O O O (tsum_ok t n t0 g2) ?_;refine zcq 11 O ?_;refine y2q O O O O O O tnone_s ?_;refine qvq (w' := hdW (hdr0 t0)) O O (by show W.agg 98 [_, W.arr 32 1 (List.replicate 32 (.int .u8 (.ofNat 0))), _, _, _] = _; rw [kfq]; rfl) ?_;refine zjq 18 O ?_;refine xnq (w' := .tup [chW t (hdr0 t0), .int .i64 0]) (.inr rfl) rfl (.tup (.cons (.agg (.cons (.pur (by simp)) (.cons (.sl (full := false) (xs := [lkW (hdr0 t0) t.root]) rfl (by simp [lkW_pur]) rfl (by intro h; cases h)) .nil))) (.cons (.pur rfl) .nil))) (by simp) (.inr ⟨⟨hm, hh⟩, t, n, t0, ?_, hall, rfl⟩);exact ⟨g2, by rw [hall]; exact hh⟩
   ·refine zdq 2 O ?_;refine qTq (by intro h; cases h) ?_;refine zAq 6 O ?_;refine zlq O O O O O O (y7q (w' := .int .i64 8) (acheck_s t (by omega)) (by rw [if_neg (fun q => hh (hiff.1 q))])) ?_;refine zcq 6 O ?_;refine zkq (w' := .bool true) O O (congrArg W.bool (by first | rfl | exact eqI_iff.2 rfl | (simp; done) | decide | (simp [ltI_iff, eqI_iff]; done))) ?_;refine zcq 13 O ?_;exact xnq (w' := .tup [noCh, .int .i64 8]) (.inr rfl) rfl (.pur rfl) rfl (.inl ⟨fun q => hh q.2, rfl⟩)
 ·skip
  refine vrq (fn := Tryz.f26) O O O (Ob rfl) (fun R k0 => ?_);refine zgq 10 O ?_;refine zlq O O O O O O (y7q (w' := .int .i64 8) (YWq l f (by omega)) (by rw [if_neg hm])) ?_;refine zcq 20 O ?_;exact xnq (w' := .tup [noCh, .int .i64 8]) (.inr rfl) rfl (.pur rfl) rfl (.inl ⟨fun q => hm q.1, rfl⟩)
def AuA (r : Rules) (l : List Pr) : W -> Prop := fun w => (¬ (okR r /\ okB l) /\ w = .tup [noAu, .int .i64 8]) \/ (okR r /\ okB l /\ ∃ t n t0, IsA t n t0 /\ t0.all = l /\ w = .tup [auW r t (hdr0 t0), .int .i64 0])
theorem aunew_s (r : Rules) (l : List Pr) (f : Bool) (hb : l.length <= 1000000000) : PE cfg glK 7 [ruW r, .fz (l.map pW) 33 f] (AuA r l) := by
 by_cases hr : okR r
 ·have hr2 := hr;obtain ⟨⟨q1, q2⟩, _⟩ := hr2;refine vrq (fn := Tryz.f7) O O O (Ob rfl) (fun R k0 => ?_);refine zgq 11 O ?_;refine zlq O O O O O O (y7q (w' := .int .i64 0) (u2q r) (by rw [if_pos hr])) ?_;refine zcq 15 O ?_;skip
  skip
  refine z2q rfl (uZq O O O O O (chnew_s l f hb) (by simp) ?_);rintro w hw (⟨hn, rfl⟩ | ⟨hy, t, n, t0, hA, hall, rfl⟩)
  ·skip
   refine zcq 12 O ?_;refine zkq (w' := .bool true) O O (congrArg W.bool (by first | rfl | exact eqI_iff.2 rfl | (simp; done) | decide | (simp [ltI_iff, eqI_iff]; done))) ?_;refine zcq 13 O ?_;exact xnq (w' := .tup [noAu, .int .i64 8]) (.inr rfl) rfl (.tup (.cons (.agg (.cons (.agg (.cons (.pur rfl) (.cons (.pur rfl) (.cons (.pur rfl) (.cons (.pur rfl) (.cons (.pur rfl) (.cons (.pur rfl) (.cons qqq .nil)))))))) (.cons (.pur rfl) (.cons (.pur rfl) (.cons (.pur rfl) (.cons (.pur rfl) (.cons (.pur rfl) (.cons (.pur rfl) (.cons (.pur rfl) (.cons (.pur rfl) .nil)))))))))) (.cons (.pur rfl) .nil))) (by simp [noAu, noCh, hub0, purW, purL]) (.inl ⟨fun q => hn q.2, rfl⟩)
  ·skip
   refine zcq 12 O ?_;refine zkq (w' := .bool false) O O (congrArg W.bool (by first | rfl | exact eqI_iff.2 rfl | (simp; done) | decide | (simp [ltI_iff, eqI_iff]; done))) ?_;refine zcq 9 O ?_;refine zlq O O O O O O (pool_s r.shards q1 q2) ?_;refine zcq 20 O ?_;exact xnq (w' := .tup [auW r t (hdr0 t0), .int .i64 0]) (.inr rfl) rfl (.pur (by simp [purW, purL])) (by simp) (.inr ⟨hr, hy, t, n, t0, hA, hall, rfl⟩)
 ·skip
  refine vrq (fn := Tryz.f7) O O O (Ob rfl) (fun R k0 => ?_);refine zgq 11 O ?_;refine zlq O O O O O O (y7q (w' := .int .i64 8) (u2q r) (by rw [if_neg hr])) ?_;refine zcq 20 O ?_;exact xnq (w' := .tup [noAu, .int .i64 8]) (.inr rfl) rfl (.tup (.cons (.agg (.cons (.agg (.cons (.pur rfl) (.cons (.pur rfl) (.cons (.pur rfl) (.cons (.pur rfl) (.cons (.pur rfl) (.cons (.pur rfl) (.cons qqq .nil)))))))) (.cons (.pur rfl) (.cons (.pur rfl) (.cons (.pur rfl) (.cons (.pur rfl) (.cons (.pur rfl) (.cons (.pur rfl) (.cons (.pur rfl) (.cons (.pur rfl) .nil)))))))))) (.cons (.pur rfl) .nil))) (by simp [noAu, noCh, hub0, purW, purL]) (.inl ⟨fun q => hr q.1, rfl⟩)
def YEq (l : List Pr) (m : Nat) : Prop := m < l.length \/ ∃ x ∈ l, 100 < x.2.length
noncomputable instance (l : List Pr) (m : Nat) : Decidable (YEq l m) := Classical.propDecidable _
theorem great5_s (l : List Pr) (f : Bool) (m : Nat) (hb : l.length <= 1000000000000000) : PS cfg glK 6 [.fz (l.map pW) 33 f, .int .i64 (m : Int)] (.bool (decide (YEq l m))) := by
 have e : (l.map pW).length = l.length := List.length_map _;refine zOq (fn := Tryz.f6) O O O (Ob rfl) (fun R k0 => ?_);refine zgq 9 O ?_;refine zkq (w' := .int .i64 (l.length : Int)) O O (by rw [<- e]; rfl) ?_;refine zcq 4 O ?_;refine zzq rfl (fun h1 => ?_) (fun h1 => ?_)
 ·refine zdq 7 O ?_;exact zfq (.inr rfl) rfl (by rw [decide_eq_true (show YEq l m from .inl (by omega))])
 ·refine zdq 9 O ?_;refine z4q (α := Nat) (fun i => i <= l.length /\ ∀ j x, j < i -> l[j]? = some x -> ¬ 100 < x.2.length) (fun i => [(5, .int .i64 (i : Int))]) [(0, _), (4, _)] (fun i => l.length - i) (0) ⟨rfl, rfl, trivial⟩ (⟨Nat.zero_le _, fun j x h => by omega⟩) ⟨rfl, trivial⟩ (fun i hI => ?_);obtain ⟨g1, g2⟩ := hI;refine zgq 5 O ?_;refine zkq (w' := .int .i64 (l.length : Int)) O O (by rw [<- e]; rfl) ?_;refine zcq 3 O ?_;refine zzq rfl (fun h2 => ?_) (fun h2 => ?_)
  ·have hi : i < l.length := by omega
   obtain ⟨x, hx⟩ : ∃ x, l[i]? = some x := ⟨_, List.getElem?_eq_getElem hi⟩
   have ex := zvq x.2;refine zdq 8 O ?_;refine zbq rfl (zBq (i := i) O O O O O O O (ygq pW hx)) ?_;refine zcq 2 O ?_;refine zkq (w' := .int .i64 (x.2.length : Int)) O O (by rw [<- ex]; rfl) ?_;refine zcq 3 O ?_;refine zzq rfl (fun h3 => ?_) (fun h3 => ?_)
   ·refine zdq 8 O ?_;refine zXq (by intro h; cases h) ?_;refine zAq 2 O ?_;exact zfq (.inr rfl) rfl (by rw [decide_eq_true (show YEq l m from .inr ⟨x, List.mem_of_getElem? hx, by omega⟩)])
   ·refine zdq 5 O ?_;refine zoq (i + 1) O O (by first | rfl | omega) ⟨by omega, by omega⟩ ?_;refine yNq 2 O ?_;exact ycq (i + 1) (⟨hi, fun j y hj hy => by rcases Nat.lt_succ_iff_lt_or_eq.1 hj with q | rfl; exact g2 j y q hy; have := Option.some.inj (hx.symm.trans hy); subst this; omega⟩) (by omega) ⟨rfl, trivial⟩ ⟨rfl, rfl, trivial⟩ (by repeat (first | exact trivial | refine ⟨by first | rfl | exact ziq (by first | rfl | (simp; done)), ?_⟩)) (by omega) (by repeat (first | exact zEq | refine zHq (by omega) ?_ | refine zFq (by omega) ?_ | refine zGq (by omega) ?_)) rfl
  ·refine zdq 2 O ?_;refine zXq (by intro h; cases h) ?_;refine zAq 8 O ?_
   have no : ¬ YEq l m := by
    rintro (q | ⟨x, hx, q⟩)
    ·omega
    ·obtain ⟨j, hj⟩ := List.getElem?_of_mem hx;have := (List.getElem?_eq_some_iff.1 hj).1;exact g2 j x (by omega) hj q
   exact zfq (.inr rfl) rfl (by rw [decide_eq_false no])
theorem begins_s (r : Rules) (l : List Pr) (hb : l.length <= 1000000000000000) : PS cfg glK 3 [ruW r, .fz (l.map pW) 33 false] (.bool true) := by
 by_cases hg : YEq l 20
 ·skip
  refine zOq (fn := Tryz.f3) O O O (Ob rfl) (fun R k0 => ?_);refine zgq 10 O ?_;refine zlq O O O O O O (y7q (w' := .bool true) (great5_s l false 20 hb) (by rw [decide_eq_true hg])) ?_;refine zcq 10 O ?_;exact zfq (.inr rfl) O O
 have h20 : l.length <= 20 := Nat.le_of_not_lt fun q => hg (.inl q)
 refine zOq (fn := Tryz.f3) O O O (Ob rfl) (fun R k0 => ?_);refine zgq 10 O ?_;refine zlq O O O O O O (y7q (w' := .bool false) (great5_s l false 20 hb) (by rw [decide_eq_false hg])) ?_;refine zcq 9 O ?_;skip
 skip
 refine z2q rfl (uZq O O O O O (aunew_s r l false (by omega)) (by simp) ?_);rintro w hw (⟨hn, rfl⟩ | ⟨hr, hy, t, n, t0, hA, hall, rfl⟩)
 ·skip
  refine zcq 12 O ?_;refine zlq O O O O O O (raunew_no r l false (by omega) hn) ?_;refine zcq 12 O ?_;first | refine y2q O O O O O O (u2q r) ?_ | refine y2q O O O O O O (y7q (w' := .int .i64 8) (u2q r) (by rw [if_neg hr])) ?_
  refine yKq O O ?_;refine y2q O O O O O O (rrules_s r) ?_;refine qvq (w' := .bool false) O O (congrArg (fun b => W.bool (!b)) (eqI_iff.2 rfl)) ?_;refine zjq 3 O ?_;refine qvq (w' := .bool false) O O (congrArg W.bool (by first | rfl | exact eqI_iff.2 rfl | (simp; done) | decide | (simp [ltI_iff, eqI_iff]; done))) ?_;refine zjq 9 O ?_;refine zkq (w' := .bool true) O O (congrArg W.bool (by first | rfl | exact eqI_iff.2 rfl | (simp; done) | decide | (simp [ltI_iff, eqI_iff]; done))) ?_;refine zcq 3 O ?_;first | refine ydq O O ?_ | refine zbq O O ?_
  refine zkq (w' := .bool true) O O (congrArg W.bool (by first | rfl | exact eqI_iff.2 rfl | (simp; done) | decide | (simp [ltI_iff, eqI_iff]; done))) ?_;refine zcq 18 O ?_;exact zfq (.inr rfl) O O
 ·subst hall;have hr2 := hr;obtain ⟨⟨q1, q2⟩, _⟩ := hr2;have hs : xuq t0 := fun p hp => by have := (hA.toIsT.val p hp).2; omega
  have hlen := hA.toIsT.len;have ok := hA.toIsT.ok;have hc := cnt_le ok (by omega);skip
  refine zcq 12 O ?_
  (refine z2q rfl (uZq O O O O O (raunew_s r t0 false hr ok hs (by omega) hy) (by simp) ?_); rintro w hw ⟨ms, m, hms, hrep, rfl⟩)
  refine zcq 12 O ?_;first | refine y2q O O O O O O (u2q r) ?_ | refine y2q O O O O O O (y7q (w' := .int .i64 8) (u2q r) (by rw [if_neg hr])) ?_
  refine yKq O O ?_;refine y2q O O O O O O (rrules_s r) ?_;refine qvq (w' := .bool false) O O (congrArg (fun b => W.bool (!b)) (eqI_iff.2 rfl)) ?_;refine zjq 3 O ?_;refine qvq (w' := .bool false) O O (congrArg W.bool (by first | rfl | exact eqI_iff.2 rfl | (simp; done) | decide | (simp [ltI_iff, eqI_iff]; done))) ?_;refine zjq 9 O ?_;refine zkq (w' := .bool false) O O (congrArg W.bool (by first | rfl | exact eqI_iff.2 rfl | (simp; done) | decide | (simp [ltI_iff, eqI_iff]; done))) ?_;refine zcq 8 O ?_;refine zkq (w' := .bool true) O O (congrArg W.bool (by first | rfl | exact eqI_iff.2 rfl | (simp; done) | decide | (simp [ltI_iff, eqI_iff]; done))) ?_;refine zcq 2 O ?_;refine zlq O O O O O O (aumay_s r t (hdr0 t0) hr (by omega) ⟨n, t0, hA⟩ (show (0 : Int) <= 0 /\ (0 : Int) <= 1073741824 /\ (0 : Int) <= 0 /\ (0 : Int) <= 256 by omega) O O) ?_;refine zcq 4 O ?_;refine zlq O O O O O O (aualike_s r t ⟨ms, (m : Int)⟩ (hdr0 t0) (by omega) (chalike_s t ⟨ms, (m : Int)⟩ t0.all (hdr0 t0) (by omega) (held_of t (hdr0 t0) t0.all (rall_s t n t0 hA.toIsT)) (held_of ⟨ms, (m : Int)⟩ (hdr0 t0) t0.all (rall_rep ⟨ms, (m : Int)⟩ m t0 rfl hrep (by show ms.length <= _; omega) (by omega) (fun p hp => by have := hs p hp; omega))))) ?_;refine zcq 6 O ?_;exact zfq (.inr rfl) O O
theorem fit_rules {w : W} (h : Fit (.st 38 [.int .i64, .int .i64, .int .i64, .int .i64, .int .i64, .int .i64, .arr 32 1 (.int .u8)]) w) : ∃ r : Rules, w = ruW r := by
 obtain ⟨l, rfl, w1, l1, rfl, h1, w2, l2, rfl, h2, w3, l3, rfl, h3, w4, l4, rfl, h4, w5, l5, rfl, h5, w6, l6, rfl, h6, w7, l7, rfl, h7, rfl⟩ := h;obtain ⟨a, rfl, _⟩ := vdq h1;obtain ⟨b, rfl, _⟩ := vdq h2;obtain ⟨c, rfl, _⟩ := vdq h3;obtain ⟨d, rfl, _⟩ := vdq h4;obtain ⟨e, rfl, _⟩ := vdq h5;obtain ⟨f, rfl, _⟩ := vdq h6;obtain ⟨k, rfl⟩ := fit_dig h7;exact ⟨⟨a, b, c, d, e, f, k⟩, rfl⟩
theorem fit_pr {w : W} (h : Fit (.st 33 [.arr 32 1 (.int .u8), .sl 1 1 (.int .u8)]) w) : ∃ p : Pr, w = pW p /\ True := by
 obtain ⟨l, rfl, w1, l1, rfl, h1, w2, l2, rfl, h2, rfl⟩ := h;obtain ⟨k, rfl⟩ := fit_dig h1;obtain ⟨v, rfl, _⟩ := fit_bW h2;exact ⟨(k, v), rfl, trivial⟩
end
mutual
/-- all blocks in it lie below n -/
noncomputable def ltB (n : Nat) : V -> Bool
 | .ptr b _ => decide (b < n)
 | .sl b _ _ _ _ _ => decide (b < n)
 | .map b => decide (b < n)
 | .yield b => decide (b < n)
 | .fn _ a c => ltL n a && ltL n c
 | .iface _ v => ltB n v
 | .agg _ l => ltL n l
 | .arr _ _ l => ltL n l
 | .tup l => ltL n l
 | .undef => true
 | .bool _ => true
 | .int _ _ => true
 | .str _ => true
 | .nilp => true
 | .nils => true
 | .nilm => true
 | .nilf => true
 | .nili => true
noncomputable def ltL (n : Nat) : List V -> Bool
 | [] => true
 | v :: l => ltB n v && ltL n l
end
noncomputable def SeenK (h : Heap) : Nat -> Prop := fun b => b < h.next /\ ∃ v, h.val b = some v /\ ltB h.next v = true
noncomputable def u32V (n : Nat) : V := .int .u32 (.ofNat n)
noncomputable def eqK : List V -> List Nat -> Bool
 | [], [] => true
 | .int .u32 (.ofNat n) :: l, m :: ms => match Nat.beq n m with
  | true => eqK l ms
  | false => false
 | _, _ => false
theorem eqK_spec : ∀ {l : List V} {ms : List Nat}, eqK l ms = true -> l = ms.map u32V
 | [], [], _ => rfl
 | [], _ :: _, h => by simp [eqK] at h
 | v :: l, ms, h => by
  unfold eqK at h;split at h
  ·simp_all
  ·rename_i n l' m ms' e;cases e;split at h
   ·rename_i hb;obtain rfl := Nat.eq_of_beq_eq_true hb;rw [eqK_spec h]; rfl
   ·cases h
  ·cases h
noncomputable def globK (h : Heap) : Bool := match h.get 0 with
 | some (.ro (.arr 64 1 l)) => eqK l kW
 | _ => false
theorem RSL_wd (Γ : Ctx) : ∀ l : List Nat, RSL Γ (l.map wd) (l.map u32V)
 | [] => rfl
 | n :: l => qRq (a := [u32V n]) (b := l.map u32V) (x := wd n) rfl (RSL_wd Γ l)
theorem globK_spec {h : Heap} (hn : Nat.ble 1 h.next = true) (hk : globK h = true) : GRel cfg glK ⟨0, fun i => i, SeenK h, h⟩ := by
 intro g w _ h2 nw σ;have hn := Ob hn;unfold glK at h2;split at h2
 ·cases h2;unfold globK at hk;split at hk
  ·rename_i l hg;obtain rfl := eqK_spec hk;have hv : h.val 0 = some (.arr 64 1 (kW.map u32V)) := by simp only [Heap.val, hg]
   refine RV.of_one ⟨0, 0, _, rfl, ⟨by omega, _, hv, by rfl⟩, hv, by exact Nat.le_refl _, fun _ => rfl, .inr rfl, ?_⟩ O O;have e : ((ztq (.arr 64 1 (kW.map u32V))).drop 0).take 64 = kW.map u32V := by kernel_rfl
   show RS _ _ (((ztq (.arr 64 1 (kW.map u32V))).drop 0).take 64);rw [e];exact ⟨rfl, fun x hx => by obtain ⟨n, _, rfl⟩ := List.mem_map.1 hx; rfl, RSL_wd _ kW⟩
  ·cases hk
 ·cases h2
end
end Go.Proofs.YtgeelfdgnehdnaaGreatDoor

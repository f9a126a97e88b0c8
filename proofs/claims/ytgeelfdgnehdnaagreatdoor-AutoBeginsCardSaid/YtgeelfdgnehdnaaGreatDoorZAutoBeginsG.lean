/-
  What the proof of AutoBegins stands on, part 7. No condition.
-/
import Derived.Test.YtgeelfdgnehdnaaGreatDoorZAutoBeginsF
set_option linter.unusedSimpArgs false
set_option linter.unusedVariables false
namespace Go.Proofs.YtgeelfdgnehdnaaGreatDoor
section
open Go.RowKit
section
attribute [local irreducible] CoW OpW FlW Step Spec
variable {G : Nat -> Option W}
theorem mayp_val (k : Dig) (v : List UInt8) : MayP [(k, v)] ↔ valB v = true := by
 constructor
 ·intro h;exact (h.2 0 (by simp) _ rfl).1
 ·intro h;refine ⟨by simp, fun i hi x hx => ?_⟩;obtain rfl : i = 0 := by simpa using hi
  cases hx;exact ⟨h, fun y h0 => by omega⟩
theorem rone_s (x : Node) (n : Nat) (hn : n <= 4611686018427387903) : PS cfg G 124 [nW x, .int .i64 (n : Int)] (.bool (decide (oneB x n))) := by
 have e := zvq x.val
 have yes : ∀ {b : Bool}, x.leaf = true -> b = (valB x.val && decide (x.left = 0) && decide (x.right = 0)) -> W.bool b = W.bool (decide (oneB x n)) := fun {b} h1 hb => by
  rw [hb];congr 1
  rw [Bool.eq_iff_iff];simp only [Bool.and_eq_true, decide_eq_true_eq, oneB, if_pos h1, mayp_val];exact ⟨fun ⟨⟨a, b⟩, c⟩ => ⟨b, c, a⟩, fun ⟨b, c, a⟩ => ⟨⟨a, b⟩, c⟩⟩
 have no : ¬ x.leaf = true -> ¬ ((0 <= x.left /\ x.left <= n) /\ (0 <= x.right /\ x.right <= n) /\ 0 < x.left + x.right) -> W.bool false = W.bool (decide (oneB x n)) := fun h1 h => by
  rw [decide_eq_false];rw [oneB, if_neg h1];exact fun q => h ⟨q.1, q.2.1, q.2.2.2.2⟩
 have fork : ∀ {b : Bool}, ¬ x.leaf = true -> 0 <= x.left -> x.left <= n -> 0 <= x.right -> x.right <= n -> 0 < x.left + x.right -> b = (decide (x.key = qoq) && decide (x.val = [])) -> W.bool b = W.bool (decide (oneB x n)) := fun {b} h1 q1 q2 q3 q4 q5 hb => by
  rw [hb];congr 1
  rw [Bool.eq_iff_iff];simp only [Bool.and_eq_true, decide_eq_true_eq, oneB, if_neg h1];exact ⟨fun ⟨a, c⟩ => ⟨⟨q1, q2⟩, ⟨q3, q4⟩, a, c, q5⟩, fun h => ⟨h.2.2.1, h.2.2.2.1⟩⟩
 refine zOq (fn := Tryz.f124) O O O (Ob rfl) (fun R k0 => ?_);refine zgq 13 O ?_;refine zzq rfl (fun h1 => ?_) (fun h1 => ?_)
 ·refine zdq 4 O ?_;refine zlq O O O O O O (urq _ _) ?_;refine jzq (fun h2 => ?_) (fun h2 => ?_)
  ·refine zcq 3 O ?_;refine qGq O O (fun h3 => ?_) (fun h3 => ?_)
   ·refine zcq 4 O ?_;refine qHq O O ?_;refine zcq 6 O ?_;exact zfq (.inr rfl) rfl (by first | exact yes (by assumption) (by simp_all) | exact no (by assumption) (by omega))
   ·refine zcq 11 O ?_;exact zfq (.inr rfl) rfl (by first | exact yes (by assumption) (by simp_all) | exact no (by assumption) (by omega))
  ·refine zcq 15 O ?_;exact zfq (.inr rfl) rfl (by first | exact yes (by assumption) (by simp_all) | exact no (by assumption) (by omega))
 ·refine zdq 7 O ?_;refine qGq O O (fun h2 => ?_) (fun h2 => ?_)
  ·refine zcq 37 O ?_;exact zfq (.inr rfl) rfl (by first | exact yes (by assumption) (by simp_all) | exact no (by assumption) (by omega))
  ·refine zcq 4 O ?_;refine qGq O O (fun h3 => ?_) (fun h3 => ?_)
   ·refine zcq 32 O ?_;exact zfq (.inr rfl) rfl (by first | exact yes (by assumption) (by simp_all) | exact no (by assumption) (by omega))
   ·refine zcq 4 O ?_;refine qGq O O (fun h4 => ?_) (fun h4 => ?_)
    ·refine zcq 27 O ?_;exact zfq (.inr rfl) rfl (by first | exact yes (by assumption) (by simp_all) | exact no (by assumption) (by omega))
    ·refine zcq 5 O ?_;refine qGq O O (fun h5 => ?_) (fun h5 => ?_)
     ·refine zcq 21 O ?_;exact zfq (.inr rfl) rfl (by first | exact yes (by assumption) (by simp_all) | exact no (by assumption) (by omega))
     ·refine zcq 4 O ?_;refine qGq O O (fun h6 => ?_) (fun h6 => ?_)
      ·refine zcq 3 O ?_;refine qHq O O ?_;refine zcq 4 O ?_;refine zzq rfl (fun h7 => ?_) (fun h7 => ?_)
       ·refine zdq 7 O ?_;exact zfq (.inr rfl) rfl (by first | exact yes (by assumption) (by simp_all) | exact no (by assumption) (by omega))
       ·have h2 : ¬ x.left < 0 := h2;have h3 : ¬ (n : Int) < x.left := h3;have h4 : ¬ x.right < 0 := h4;have h5 : ¬ (n : Int) < x.right := h5;refine zdq 6 O ?_;refine zkq O O kfq ?_;refine op_dec rfl (qlq O O O O (qZq O O O O O O _ _ 250)) yXq (fun h8 => ?_) (fun h8 => ?_)
        ·refine zcq 3 O ?_;refine zkq (w' := .int .i64 (x.val.length : Int)) O O (by rw [<- e]; rfl) ?_;refine qHq O O ?_;refine zcq 5 O ?_;refine zfq (.inr rfl) rfl (fork h1 (by omega) (by omega) (by omega) (by omega) (by omega) ?_);rw [decide_eq_true (by assumption : x.key = qoq), Bool.true_and];refine decide_eq_decide.2 ⟨fun q => List.eq_nil_of_length_eq_zero (by omega), fun q => by rw [q]; rfl⟩
        ·refine zcq 10 O ?_;refine zfq (.inr rfl) rfl (fork h1 (by omega) (by omega) (by omega) (by omega) (by omega) ?_);rw [decide_eq_false (by assumption : ¬ x.key = qoq), Bool.false_and]
      ·have h2 : ¬ x.left < 0 := h2;have h3 : ¬ (n : Int) < x.left := h3;have h4 : ¬ x.right < 0 := h4;have h5 : ¬ (n : Int) < x.right := h5;refine zcq 15 O ?_;refine zkq O O kfq ?_;refine op_dec rfl (qlq O O O O (qZq O O O O O O _ _ 250)) yXq (fun h7 => ?_) (fun h7 => ?_)
       ·refine zcq 3 O ?_;refine zkq (w' := .int .i64 (x.val.length : Int)) O O (by rw [<- e]; rfl) ?_;refine qHq O O ?_;refine zcq 5 O ?_;refine zfq (.inr rfl) rfl (fork h1 (by omega) (by omega) (by omega) (by omega) (by omega) ?_);rw [decide_eq_true (by assumption : x.key = qoq), Bool.true_and];refine decide_eq_decide.2 ⟨fun q => List.eq_nil_of_length_eq_zero (by omega), fun q => by rw [q]; rfl⟩
       ·refine zcq 10 O ?_;refine zfq (.inr rfl) rfl (fork h1 (by omega) (by omega) (by omega) (by omega) (by omega) ?_);rw [decide_eq_false (by assumption : ¬ x.key = qoq), Bool.false_and]
def cntR (t : T) (d : Nat) (b : Dig) : Int := if t.ok d b = true then (match t with | .nil => 0 | .leaf _ _ => 1 | .fork _ _ => 2) else -1
theorem cntR_lt (t : T) (d : Nat) (b : Dig) : cntR t d b < 0 ↔ ¬ t.ok d b = true := by
 unfold cntR;split
 ·rename_i h;cases t <;> simp [h]
 ·rename_i h; simp [h]
theorem cntR_ge (t : T) (d : Nat) (b : Dig) : 0 <= cntR t d b ↔ t.ok d b = true := by
 have := cntR_lt t d b;constructor
 ·intro h;refine Classical.byContradiction fun q => ?_
  have := this.2 q;omega
 ·intro h;refine Int.not_lt.1 fun q => this.1 q h
theorem cntR_fork {l r : T} {d : Nat} {b : Dig} (hd : d < 256) (h1 : ¬ cntR l (d + 1) b < 0) (h2 : ¬ cntR r (d + 1) (qpq b d) < 0) : cntR (.fork l r) d b = if cntR l (d + 1) b + cntR r (d + 1) (qpq b d) < 2 then -1 else 2 := by
 have e1 : l.ok (d + 1) b = true := (cntR_ge l _ _).1 (by omega);have e2 : r.ok (d + 1) (qpq b d) = true := (cntR_ge r _ _).1 (by omega);have e : (T.fork l r).ok d b = T.two l r := by simp only [T.ok]; rw [decide_eq_true hd, e1, e2]; rfl
 unfold cntR;rw [e, e1, e2];cases l <;> cases r <;> simp [T.two, T.isFork, T.non]
theorem cntR_le (t : T) (d : Nat) (b : Dig) : cntR t d b <= 2 := by
 unfold cntR;split
 ·cases t <;> simp
 ·omega
theorem cntR_no {l r : T} {d : Nat} {b : Dig} (h : ¬ (T.fork l r).ok d b = true) : cntR (.fork l r) d b = -1 := by unfold cntR; rw [if_neg h]
theorem rright_s (t0 : Tree) (hb : t0.nodes.length <= 4611686018427387903) : ∀ (t : T) (n d : Nat) (b : Dig), Rep t0.nodes n t -> d <= 256 -> PS cfg G 125 [tW t0, .int .i64 (n : Int), .int .i64 (d : Int), dW b] (.int .i64 (cntR t d b)) := by
 intro t;induction t with
 | nil =>
  intro n d b hr hd;obtain rfl : n = 0 := by cases hr; rfl
  refine zOq (fn := Tryz.f125) O O O (Ob rfl) (fun R k0 => ?_);refine zgq 14 O ?_;refine zzq rfl (fun h1 => ?_) (fun h1 => ?_)
  ·refine zdq 7 O ?_;exact zfq (.inr rfl) O O
  ·exfalso; omega
 | leaf k v =>
  intro n d b hr hd;have hle := hr.le;cases hr with
  | leaf h =>
  rename_i n l r;refine zOq (fn := Tryz.f125) O O O (Ob rfl) (fun R k0 => ?_);refine zgq 14 O ?_;refine zzq rfl (fun h1 => ?_) (fun h1 => ?_)
  ·exfalso; omega
  ·refine zdq 7 O ?_;refine zoq (n) O O (by first | rfl | omega) ⟨by omega, by omega⟩ ?_;refine zbq rfl (zBq (i := n) O O O O O O O (ygq nW h)) ?_;refine zcq 19 O ?_;refine zlq O O O O O O (rshared_s _ _) ?_;refine zcq 4 O ?_;refine zzq rfl (fun h2 => ?_) (fun h2 => ?_)
   ·refine zdq 8 O ?_;refine zfq (.inr rfl) O ?_;unfold cntR;rw [if_neg];simp only [T.ok, decide_eq_true_eq];have h2 : ((z9q k b : Nat) : Int) < d := h2;omega
   ·refine zdq 9 O ?_;refine zfq (.inr rfl) O ?_;unfold cntR;rw [if_pos];simp only [T.ok, decide_eq_true_eq];have h2 : ¬ ((z9q k b : Nat) : Int) < d := h2;omega
 | fork tl tr ihL ihR =>
  intro n d b hr hd;have hle := hr.le;cases hr with
  | fork h hl hr hL hR =>
  rename_i n l r k v;refine zOq (fn := Tryz.f125) O O O (Ob rfl) (fun R k0 => ?_);refine zgq 14 O ?_;refine zzq rfl (fun h1 => ?_) (fun h1 => ?_)
  ·exfalso; omega
  ·refine zdq 7 O ?_;refine zoq (n) O O (by first | rfl | omega) ⟨by omega, by omega⟩ ?_;refine zbq rfl (zBq (i := n) O O O O O O O (ygq nW h)) ?_;refine zcq 22 O ?_;refine zzq rfl (fun h2 => ?_) (fun h2 => ?_)
   ·refine zdq 7 O ?_;refine zfq (.inr rfl) O ?_;rw [cntR_no fun q => by have := (ok_fork.1 q).1; omega]
   ·have hd' : d < 256 := by omega
    refine zdq 6 O ?_;refine zlq O O O O O O (rturn_in _ _ (by omega)) ?_;refine zcq 14 O ?_;refine zoq (d + 1) O O (by first | rfl | omega) ⟨by omega, by omega⟩ ?_;refine zwq O O (zlq O O O O O O (ihL l (d + 1) b hL (by omega)) ?_);refine zcq 10 O ?_;refine zzq rfl (fun h3 => ?_) (fun h3 => ?_)
    ·refine zdq 7 O ?_;refine zfq (.inr rfl) O ?_;rw [cntR_no fun q => (cntR_lt tl _ _).1 (by assumption) (ok_fork.1 q).2.1]
    ·refine zdq 8 O ?_;refine zoq (d + 1) O O (by first | rfl | omega) ⟨by omega, by omega⟩ ?_;refine zwq O O (zlq O O O O O O (ihR r (d + 1) (qpq b d) hR (by omega)) ?_);refine zcq 7 O ?_;refine qGq O O (fun h4 => ?_) (fun h4 => ?_)
     ·refine zcq 16 O ?_;refine zfq (.inr rfl) O ?_;rw [cntR_no fun q => (cntR_lt tr _ _).1 (by assumption) (ok_fork.1 q).2.2.1]
     ·have hc := cntR_fork (l := tl) (r := tr) hd' h3 h4;have b1 := cntR_le tl (d + 1) b;have b2 := cntR_le tr (d + 1) (qpq b d);refine zcq 3 O ?_;first | refine yAq O O ⟨by omega, by omega⟩ ?_ | refine zbq O O ?_
      refine qHq O O ?_;refine zcq 3 O ?_;refine zzq rfl (fun h5 => ?_) (fun h5 => ?_)
      ·refine zdq 7 O ?_;exact zfq (.inr rfl) rfl (by rw [hc, if_pos (by assumption)])
      ·refine zdq 8 O ?_;exact zfq (.inr rfl) rfl (by rw [hc, if_neg (by assumption)])
theorem rmay_s (t : Tree) (hb : t.nodes.length <= 4611686018427387903) : PS cfg G 55 [tW t] (.bool (decide (MayT t))) := by
 have e : (t.nodes.map nW).length = t.nodes.length := List.length_map _;refine zOq (fn := Tryz.f55) O O O (Ob rfl) (fun R k0 => ?_);refine zgq 11 O ?_;refine zkq (w' := .int .i64 (t.nodes.length : Int)) O O (by rw [<- e]; rfl) ?_;refine qGq O O (fun h1 => ?_) (fun h1 => ?_)
 ·have hno : ¬ MayT t := fun h => by have := h.1; omega
  refine zcq 23 O ?_;exact zfq (.inr rfl) rfl (by rw [decide_eq_false hno])
 refine zcq 3 O ?_;refine qGq O O (fun h2 => ?_) (fun h2 => ?_)
 ·have hno : ¬ MayT t := fun h => by obtain ⟨_, _, n, _, h, _⟩ := h; have h2 : t.root < 0 := h2; omega
  refine zcq 19 O ?_;exact zfq (.inr rfl) rfl (by rw [decide_eq_false hno])
 refine zcq 6 O ?_;refine zkq (w' := .int .i64 (t.nodes.length : Int)) O O (by rw [<- e]; rfl) ?_;refine qHq O O ?_;refine zcq 3 O ?_;refine zzq rfl (fun h3 => ?_) (fun h3 => ?_)
 ·have hno : ¬ MayT t := fun h => by obtain ⟨_, _, n, _, h, hr, _⟩ := h; have h3 : (t.nodes.length : Int) < t.root := h3; have := hr.le; omega
  refine zdq 7 O ?_;exact zfq (.inr rfl) rfl (by rw [decide_eq_false hno])
 have h2 : ¬ t.root < 0 := h2;have h3 : ¬ (t.nodes.length : Int) < t.root := h3;obtain ⟨n0, hn0⟩ := Int.eq_ofNat_of_zero_le (show 0 <= t.root by omega);refine zdq 9 O ?_;refine z4q (α := Nat) (fun i => i <= t.nodes.length /\ ∀ j x, j < i -> t.nodes[j]? = some x -> oneB x j) (fun i => [(3, .int .i64 (i : Int))]) [(1, _), (2, _)] (fun i => t.nodes.length - i) (0) ⟨rfl, rfl, trivial⟩ (⟨Nat.zero_le _, fun j x hj => by omega⟩) ⟨rfl, trivial⟩ (fun i hI => ?_);obtain ⟨hi, hI⟩ := hI;refine zgq 6 O ?_;refine zkq (w' := .int .i64 (t.nodes.length : Int)) O O (by rw [<- e]; rfl) ?_;refine zcq 3 O ?_;refine zzq rfl (fun h4 => ?_) (fun h4 => ?_)
 ·have hi' : i < t.nodes.length := by omega
  obtain ⟨x, hx⟩ : ∃ x, t.nodes[i]? = some x := ⟨_, List.getElem?_eq_getElem hi'⟩
  refine zdq 9 O ?_;refine zbq rfl (zBq (i := i) O O O O O O O (ygq nW hx)) ?_;refine zcq 2 O ?_;refine zlq O O O O O O (rone_s _ _ (by omega)) ?_;refine zcq 3 O ?_;refine zzq rfl (fun h5 => ?_) (fun h5 => ?_)
  ·have hno : ¬ MayT t := fun h => by have := h.2.1 i x hx; simp [this] at h5
   refine zdq 8 O ?_;refine zXq (by intro h; cases h) ?_;refine zAq 2 O ?_;exact zfq (.inr rfl) rfl (by rw [decide_eq_false hno])
  ·have h5 : oneB x i := by simpa using h5
   refine zdq 5 O ?_;refine zoq (i + 1) O O (by first | rfl | omega) ⟨by omega, by omega⟩ ?_;refine yNq 2 O ?_;exact ycq (i + 1) (⟨hi', fun j y hj hy => by rcases Nat.lt_succ_iff_lt_or_eq.1 hj with h | rfl; exact hI j y h hy; exact (Option.some.inj (hx.symm.trans hy)) ▸ h5⟩) (by omega) ⟨rfl, trivial⟩ ⟨rfl, rfl, trivial⟩ (by repeat (first | exact trivial | refine ⟨by first | rfl | exact ziq (by first | rfl | (simp; done)), ?_⟩)) (by omega) (by repeat (first | exact zEq | refine zHq (by omega) ?_ | refine zFq (by omega) ?_ | refine zGq (by omega) ?_)) rfl
 ·have okn : okN t.nodes := fun j x hx => hI j x (by have := (List.getElem?_eq_some_iff.1 hx).1; omega) hx
  obtain ⟨t0, ht0⟩ := rep_of okn n0 (by omega)
  have key : MayT t ↔ t0.ok 0 qoq = true := by
   constructor
   ·rintro ⟨_, _, n, t1, hn, hr, hk⟩;obtain rfl : n = n0 := by omega
    rw [ht0.uniq hr]; exact hk
   ·exact fun h => ⟨by omega, okn, n0, t0, hn0, ht0, h⟩
  refine zdq 2 O ?_;refine zXq (by intro h; cases h) ?_;refine zAq 7 O ?_;refine zkq O O kfq ?_;refine op_ps O O O O O (by rw [hn0]; rfl) (rright_s t (by omega) t0 n0 0 qoq ht0 (by omega)) (by simp) (by simp) ?_;refine qHq O O ?_;refine zcq 4 O ?_;refine zfq (.inr rfl) O ?_;rw [show decide (MayT t) = decide (0 <= cntR t0 0 qoq) from decide_eq_decide.2 (key.trans (cntR_ge t0 0 qoq).symm)]
theorem rfor_s (t0 : Tree) (hb : t0.nodes.length <= 4611686018427387903) : ∀ (t : T) (n : Nat), Rep t0.nodes n t -> t.all.length <= 1000000 -> (∀ p ∈ t.all, p.2.length <= 70368744177664) -> PL cfg G 119 [tW t0, .int .i64 (n : Int)] 90 33 (t.all.map pW) := by
 intro t;induction t with
 | nil =>
  intro n hr hl hv R;obtain rfl : n = 0 := by cases hr; rfl
  refine yqq (fn := Tryz.f119) O O O (Ob rfl) (fun k0 => ?_);refine zgq 13 O ?_;refine zzq rfl (fun h1 => ?_) (fun h1 => ?_)
  ·refine zdq 7 O ?_;exact fin (w := gW 0 33 []) (.inr rfl) (Qhq (b := 0) (ty := 90) (l2 := []) (H0 := []) (fr2 := []) 4 (by omega) (by omega) rfl trivial trivial (fun x r h => by cases h) rfl trivial List.nodup_nil) rfl ⟨rfl, rfl, rfl, rfl⟩
  ·exfalso; omega
 | leaf k v =>
  intro n hr hl hv R;have hle := hr.le;have hvl := hv (k, v) (by simp [T.all]);simp only at hvl;cases hr with
  | leaf h =>
  rename_i n l r;refine yqq (fn := Tryz.f119) O O O (Ob rfl) (fun k0 => ?_);refine zgq 13 O ?_;refine zzq rfl (fun h1 => ?_) (fun h1 => ?_)
  ·exfalso; omega
  ·refine zdq 7 O ?_;refine zoq (n) O O (by first | rfl | omega) ⟨by omega, by omega⟩ ?_;refine zbq rfl (zBq (i := n) O O O O O O O (ygq nW h)) ?_;refine zcq 19 O ?_;refine fl_ps O O O O O O (rtwin_s v false hvl) (by simp) (by simp) (by first | rfl | kernel_rfl) ?_;refine zjq 7 O ?_;exact fin (w := gW 0 33 [pW (k, v)]) (.inr rfl) (ent_one (b := 0) (x := pW (k, v)) 2 4 (by omega) (by omega) (by omega) O O O O (by simp)) rfl ⟨rfl, rfl, rfl, rfl⟩
 | fork tl tr ihL ihR =>
  intro n hr hl hv R;have hle := hr.le;cases hr with
  | fork h hl0 hr0 hL hR =>
  rename_i n l r k v;have hlen : tl.all.length + tr.all.length <= 1000000 := by simpa [T.all] using hl
  obtain ⟨l1, e1⟩ : ∃ q, q = tl.all.map pW := ⟨_, rfl⟩
  obtain ⟨l2, e2⟩ : ∃ q, q = tr.all.map pW := ⟨_, rfl⟩
  have P1 : PL cfg G 119 [tW t0, .int .i64 (l : Int)] 90 33 l1 := e1 ▸ ihL l hL (by omega) fun p hp => hv p (by simp [T.all, hp])
  have P2 : PL cfg G 119 [tW t0, .int .i64 (r : Int)] 90 33 l2 := e2 ▸ ihR r hR (by omega) fun p hp => hv p (by simp [T.all, hp])
  have p1 : purL l1 = true := by rw [e1]; exact qUq _
  have p2 : purL l2 = true := by rw [e2]; exact qUq _
  have hl1 : l1.length <= 1000000 := by rw [e1, List.length_map]; omega
  have hl2 : l2.length <= 1000000 := by rw [e2, List.length_map]; omega
  have e3 : (T.fork tl tr).all.map pW = l1 ++ l2 := by rw [e1, e2]; simp [T.all]
  rw [e3];clear e1 e2 e3;refine yqq (fn := Tryz.f119) O O O (Ob rfl) (fun k0 => ?_);refine zgq 13 O ?_;refine zzq rfl (fun h1 => ?_) (fun h1 => ?_)
  ·exfalso; omega
  ·refine zdq 7 O ?_;refine zoq (n) O O (by first | rfl | omega) ⟨by omega, by omega⟩ ?_;refine zbq rfl (zBq (i := n) O O O O O O O (ygq nW h)) ?_;refine zcq 20 O ?_;skip
   skip
   cases l1 with
   | nil =>
    cases l2 with
    | nil =>
     (refine yuq rfl (k7q O O O O O (by simp) P1 (by assumption) ?_); refine ⟨by first | rfl | kernel_rfl, ?_⟩)
     refine zjq 3 O ?_
     (refine yuq rfl (k7q O O O O O (by simp) P2 (by assumption) ?_); refine ⟨by first | rfl | kernel_rfl, ?_⟩)
     refine yoq rfl (qhq O O (Qoq O O O O O)) (by first | rfl | kernel_rfl) ?_;refine zjq 4 O ?_;refine fin (w := gW 0 33 ([] : List W)) (.inr rfl) (Qhq (b := 0) (ty := 90) (l2 := []) (H0 := []) (fr2 := []) 4 (by omega) (by omega) rfl trivial trivial (fun x r h => by cases h) rfl trivial List.nodup_nil) rfl ⟨rfl, ?_, ?_, rfl⟩
     ·rfl
     ·rfl
    | cons y2 r2 =>
     (refine yuq rfl (k7q O O O O O (by simp) P1 (by assumption) ?_); refine ⟨by first | rfl | kernel_rfl, ?_⟩)
     refine zjq 3 O ?_
     (refine yuq rfl (k7q O O O O O (by simp) P2 (by assumption) ?_); refine ⟨by first | rfl | kernel_rfl, ?_⟩)
     refine yoq rfl (qhq O O (ugq (news := y2 :: r2) (k := ti90) O O O O (qXq O O O (zUq (by decide) O O)) (by simp) (by show (y2 :: r2).length * 56 <= _; omega) (by omega))) (by first | rfl | kernel_rfl) ?_;refine zjq 4 O ?_;refine fin (w := gW 0 33 (y2 :: r2)) (.inr rfl) (qwq (b := 0) (l2 := y2 :: r2) (H0 := []) (fr2 := []) 4 4 (by omega) (by omega) (by omega) (by simp) O O trivial trivial rfl p2 trivial List.nodup_nil) rfl ⟨rfl, ?_, ?_, rfl⟩
     ·rfl
     ·rfl
   | cons y1 r1 =>
    cases l2 with
    | nil =>
     (refine yuq rfl (k7q O O O O O (by simp) P1 (by assumption) ?_); refine ⟨by first | rfl | kernel_rfl, ?_⟩)
     refine zjq 3 O ?_
     (refine yuq rfl (k7q O O O O O (by simp) P2 (by assumption) ?_); refine ⟨by first | rfl | kernel_rfl, ?_⟩)
     refine yoq rfl (qhq O O (vjq (k := ti90) O O O O O)) (by first | rfl | kernel_rfl) ?_;refine zjq 4 O ?_;refine fin (w := gW 0 33 (y1 :: r1)) (.inr rfl) (qwq (b := 0) (l2 := y1 :: r1) (H0 := []) (fr2 := []) 2 4 (by omega) (by omega) (by omega) (by simp) O O trivial trivial rfl p1 trivial List.nodup_nil) rfl ⟨rfl, ?_, ?_, rfl⟩
     ·rw [List.append_nil]
     ·rw [List.append_nil]; rfl
    | cons y2 r2 =>
     (refine yuq rfl (k7q O O O O O (by simp) P1 (by assumption) ?_); refine ⟨by first | rfl | kernel_rfl, ?_⟩)
     refine zjq 3 O ?_
     (refine yuq rfl (k7q O O O O O (by simp) P2 (by assumption) ?_); refine ⟨by first | rfl | kernel_rfl, ?_⟩)
     refine yoq rfl (qhq O O (j7q (len := (y1 :: r1).length) (news := y2 :: r2) (olds := y1 :: r1) (k := ti90) O O O O (qXq O O O (zUq (by decide) O O)) (by simp) (by show ((y1 :: r1).length + (y2 :: r2).length) * 56 <= _; omega) (by omega) rfl (by show (y1 :: r1).length * 33 < 0 + ((y1 :: r1).length + (y2 :: r2).length) * 33; simp only [List.length_cons]; omega) rfl (zUq (by decide) O O))) (by first | rfl | kernel_rfl) ?_;refine zjq 4 O ?_;refine fin (w := gW 0 33 ((y1 :: r1) ++ (y2 :: r2))) (.inr rfl) (qwq (b := 0) (l2 := (y1 :: r1) ++ (y2 :: r2)) (n := (y1 :: r1).length + (y2 :: r2).length) (H0 := []) (fr2 := []) 4 4 (by omega) (by omega) (by omega) (by simp) rfl (by rw [List.length_append]) trivial trivial rfl (by rw [purL_app, p1, p2]; rfl) trivial List.nodup_nil) rfl ⟨rfl, ?_, ?_, rfl⟩
     ·rfl
     ·rfl
theorem g_get (b e : Nat) (l : List W) (r : W) : ymq 50 (.agg 2 [gW b e l, r]) 0 1 false = some (gW b e l) := by cases l <;> rfl
theorem g_put (b e : Nat) (l : List W) (r : W) (b' n : Nat) : qFq 50 (.agg 2 [gW b e l, r]) 0 (.sl b' 0 0 n e none) = some (.agg 2 [.sl b' 0 0 n e none, r]) := by cases l <;> rfl
noncomputable instance (a b : Tree) : Decidable (a = b) := Classical.propDecidable _
theorem rall_s (t : Tree) (n : Nat) (t0 : T) (h : IsT t n t0) : PS cfg G 52 [tW t] (psW t0.all) := by
 have h1 := h.all_le;have h2 := h.len;have h3 := h.root;obtain ⟨ns, root⟩ := t;simp only at h1 h2 h3;subst h3;have P := (rfor_s (G := G) ⟨ns, (n : Int)⟩ (by show ns.length <= _; omega) t0 n h.rep (by omega) (fun p hp => by have := (h.val p hp).2; omega)).ps (by decide) (qUq _);refine zOq (fn := Tryz.f52) O O O (Ob rfl) (fun R k0 => ?_);refine zgq 11 O ?_;refine op_ps O O O O O O P (by simp) (by simp) ?_;refine zcq 4 O ?_;exact zfq (.inr rfl) O O
end
section
attribute [local irreducible] CoW OpW FlW Step Spec
variable {G : Nat -> Option W}
theorem rnumber_s (l : List UInt8) (f : Bool) (hl : l.length <= 8) : PS cfg G 232 [.fz (zeq l) 1 f] (.int .u64 (numB l : Nat)) := by
 have e := zvq l;refine zOq (fn := Tryz.f232) O O O (Ob rfl) (fun R k0 => ?_);refine zgq 17 O ?_;refine z4q (α := Nat) (fun i => i <= l.length) (fun i => [(4, .int .i64 (i : Int)), (3, .int .u64 (numB (l.take i) : Nat))]) [(0, _), (2, _)] (fun i => l.length - i) (0) ⟨rfl, rfl, trivial⟩ (Nat.zero_le _) ⟨rfl, rfl, trivial⟩ (fun i hI => ?_);refine zgq 5 O ?_;refine zkq (w' := .int .i64 (l.length : Int)) O O (by rw [<- e]; rfl) ?_;refine zcq 3 O ?_;refine zzq rfl (fun h1 => ?_) (fun h1 => ?_)
 ·have hi : i < l.length := by omega
  obtain ⟨c, hc⟩ : ∃ c, l[i]? = some c := ⟨_, List.getElem?_eq_getElem hi⟩
  have hcl := c.toNat_lt;have hn := vsq (l := l) (i := i) (by omega);have ht := numB_take hc
  have hlt : numB (l.take (i + 1)) < 18446744073709551616 := by
   have h1 := numB_lt (l.take (i + 1));have h2 : 256 ^ (l.take (i + 1)).length <= 256 ^ (i + 1) := Nat.pow_le_pow_right (by omega) (by simp; omega);have h3 := pow256_le (i := i + 1) (by omega);omega
  refine zdq 6 O ?_;refine zoq (256 * numB (l.take i)) O O (by first | rfl | omega) ⟨by omega, by omega⟩ ?_;refine zcq 2 O ?_;refine zbq rfl (zBq (i := i) O O O O O O O (uOq hc)) (zwq O O (zoq (c.toNat) O O (by first | rfl | omega) ⟨by omega, by omega⟩ ?_));refine zoq (numB (l.take (i + 1))) O O (by rw [ht]; omega) ⟨by omega, by omega⟩ ?_;refine zcq 6 O ?_;refine zoq (i + 1) O O (by first | rfl | omega) ⟨by omega, by omega⟩ ?_;refine yNq 2 O ?_;exact ycq (i + 1) (hi) (by omega) ⟨rfl, rfl, trivial⟩ ⟨rfl, rfl, trivial⟩ (by repeat (first | exact trivial | refine ⟨by first | rfl | exact ziq (by first | rfl | (simp; done)), ?_⟩)) (by omega) (by repeat (first | exact zEq | refine zHq (by omega) ?_ | refine zFq (by omega) ?_ | refine zGq (by omega) ?_)) rfl
 ·have hi : i = l.length := by omega
  subst hi;rw [List.take_length];refine zdq 2 O ?_;refine zXq (by intro h; cases h) ?_;refine zAq 9 O ?_;exact zfq (.inr rfl) O O
theorem rdigits_s (n size : Nat) (hn : n < 18446744073709551616) (hs8 : size <= 8) : jdq cfg G 184 0 [.int .u64 (n : Int), .int .i64 (size : Int)] [] fun w hp nw =>
  w = .tup [.sl 0 0 0 size 1 none, .bool (decide (n / 256 ^ size = 0))] /\ hp = [(0, 5, .arr (size * 1) 1 (zeq (beB size n)))] /\ nw = 1 := by
 intro R;refine yqq (fn := Tryz.f184) O O O (Ob rfl) (fun k0 => ?_);refine zgq 9 O ?_;refine zwq rfl (uCq (l := size) (c := size) O O O O O O O O (Nat.le_refl _) (by show 1 * size <= _; omega) (by omega) O O) ?_;refine zcq 7 O ?_;refine op_z ((size : Int) - 1 - ((0 : Nat) : Int)) O O (by omega) ⟨by omega, by omega⟩ ?_;refine zcq 4 O ?_;refine qDq (α := Nat × Nat) (fun p => p.1 <= size /\ p.2 = n / 256 ^ p.1) (fun p => [(7, .int .i64 ((size : Int) - 1 - (p.1 : Int))), (0, .int .u64 (p.2 : Nat))]) [(4, _), (5, _), (6, _)] (fun p => [(0, 5, .arr (size * 1) 1 (zeq (List.replicate (size - p.1) 0 ++ beB p.1 n)))]) (fun p => size - p.1) ((0, n)) ⟨rfl, rfl, rfl, trivial⟩ (⟨Nat.zero_le _, by simp⟩) ⟨rfl, rfl, trivial⟩ (by simp only [be_zero]; rfl) (fun p hI => ?_);obtain ⟨i, q⟩ := p;obtain ⟨g1, g2⟩ := hI;simp only at g1 g2 ⊢;have hlt : q < 18446744073709551616 := by rw [g2]; exact Nat.lt_of_le_of_lt (Nat.div_le_self _ _) hn
 refine zgq 7 O ?_;refine zzq rfl (fun h1 => ?_) (fun h1 => ?_)
 ·have hi : i < size := by omega
  have hq : q / 256 = n / 256 ^ (i + 1) := by rw [g2, Nat.div_div_eq_div_mul, <- Nat.pow_succ]
  have hset := be_set n size i hi;rw [<- g2] at hset;refine zdq 7 O ?_;refine zkq (w' := .int .i64 ((size - 1 - i : Nat) : Int)) O O (by congr 1; omega) ?_;refine zbq O O (zkq (w' := .int .u64 ((q % 256 : Nat) : Int)) O O (congrArg (W.int .u64) (kvq q 256)) (zoq (q % 256) O O (by first | rfl | omega) ⟨by omega, by omega⟩ ?_));refine zbq rfl (zTq (i := size - 1 - i) O O O O O O O (by omega)) ?_;refine zwq rfl (q3q O O O O O (qnq (be_at n size i hi) O O) (congrArg (fun L => [(0, 5, W.arr (size * 1) 1 L)]) hset)) ?_;refine zcq 4 O ?_;refine zoq (q / 256) O O (j1q q 256) ⟨by omega, by omega⟩ ?_;refine zcq 6 O ?_;refine op_z ((size : Int) - 1 - ((i + 1 : Nat) : Int)) O O (by omega) ⟨by omega, by omega⟩ ?_;refine yNq 2 O ?_;exact q4q ((i + 1, q / 256)) (⟨hi, hq⟩) (by simp only; omega) ⟨rfl, rfl, trivial⟩ ⟨rfl, rfl, rfl, trivial⟩ rfl
 ·have hi : i = size := by omega
  subst hi;refine zdq 2 O ?_;refine qTq (by intro h; cases h) ?_;refine zAq 6 O ?_;refine zkq (w' := .bool (decide (n / 256 ^ i = 0))) O O (congrArg W.bool (by rw [Bool.eq_iff_iff, eqI_iff, decide_eq_true_iff, <- g2]; omega)) ?_;refine zcq 5 O ?_;refine fin (.inr rfl) Ent.refl rfl ⟨rfl, rfl, ?_, rfl⟩;rw [Nat.sub_self];rfl
theorem raread_s (l : List UInt8) (f : Bool) : PS cfg G 182 [.fz (zeq l) 1 f] (.tup [aW (jcq l).1, .int .i64 ((jcq l).2 : Nat)]) := by
 have e := zvq l;refine vqq (fn := Tryz.f182) O O O (Ob rfl) (fun R k0 => ?_);refine zgq 10 O ?_;refine zkq (w' := .int .i64 (l.length : Int)) O O (by rw [<- e]; rfl) ?_;refine zcq 3 O ?_;refine zzq rfl (fun h1 => ?_) (fun h1 => ?_)
 ·have q : jcq l = (.zero, 10) := by unfold jcq; rw [if_pos (by omega)]
  rw [q];refine zdq 9 O ?_;refine uGq (by first | exact .inr rfl | exact .inl rfl) O ?_
  (repeat (first | exact .nil | refine .cons ?_ ?_ | exact qqq | exact .nilfz | refine .fn ?_ ?_ | (refine qzq O ?_ rfl; (first | rfl | (focus (simp; done)))) | (refine .sl O ?_ rfl (by intro h; cases h); (first | rfl | (focus (simp; done)))) | (refine .pur ?_; (first | rfl | (focus (simp; done)))) | (refine .fzw ?_; (first | rfl | (focus (simp; done)))) | refine .agg ?_ | refine .arr ?_ | refine .tup ?_))
 refine zdq 6 O ?_;refine zkq (w' := .int .i64 (l.length : Int)) O O (by rw [<- e]; rfl) ?_;refine zcq 3 O ?_;refine zzq rfl (fun h2 => ?_) (fun h2 => ?_)
 ·have q : jcq l = (.zero, 11) := by unfold jcq; rw [if_neg (by omega), if_pos (by omega)]
  rw [q];refine zdq 9 O ?_;refine uGq (by first | exact .inr rfl | exact .inl rfl) O ?_
  (repeat (first | exact .nil | refine .cons ?_ ?_ | exact qqq | exact .nilfz | refine .fn ?_ ?_ | (refine qzq O ?_ rfl; (first | rfl | (focus (simp; done)))) | (refine .sl O ?_ rfl (by intro h; cases h); (first | rfl | (focus (simp; done)))) | (refine .pur ?_; (first | rfl | (focus (simp; done)))) | (refine .fzw ?_; (first | rfl | (focus (simp; done)))) | refine .agg ?_ | refine .arr ?_ | refine .tup ?_))
 have hl : l.length = 16 := by omega
 have q : jcq l = if (⟨numB (l.take 8), numB (l.drop 8)⟩ : Acct) = .zero then (.zero, 8) else (⟨numB (l.take 8), numB (l.drop 8)⟩, 0) := by unfold jcq; rw [if_neg (by omega), if_neg (by omega)]
 rw [q];refine zdq 5 O ?_;refine zaq rfl (cut_fz (ys := zeq (l.take 8)) (l := 0) (h := 8) O O O O O O O (by omega) (by omega) (by rw [List.drop_zero, ZLq]) rfl) ?_;refine y2q O O O O O O (rnumber_s _ _ (by simp; omega)) ?_;refine zaq O O (zaq rfl (cut_fz (ys := zeq (l.drop 8)) (l := 8) (h := (zeq l).length) O O O O O O O (by omega) (Nat.le_refl _) (by rw [List.take_of_length_le (by simp), ZMq]) rfl) ?_);refine y2q O O O O O O (rnumber_s _ _ (by simp; omega)) ?_;refine zjq 10 O ?_;refine qGq O O (fun h3 => ?_) (fun h3 => ?_)
 ·have z1 : numB (l.take 8) = 0 := by omega
  refine zcq 3 O ?_;refine qHq O O ?_;refine zcq 3 O ?_;refine zzq rfl (fun h4 => ?_) (fun h4 => ?_)
  ·have z2 : numB (l.drop 8) = 0 := by omega
   rw [if_pos (by rw [z1, z2]; rfl)];refine zdq 9 O ?_;refine uGq (by first | exact .inr rfl | exact .inl rfl) O ?_
   (repeat (first | exact .nil | refine .cons ?_ ?_ | exact qqq | exact .nilfz | refine .fn ?_ ?_ | (refine qzq O ?_ rfl; (first | rfl | (focus (simp; done)))) | (refine .sl O ?_ rfl (by intro h; cases h); (first | rfl | (focus (simp; done)))) | (refine .pur ?_; (first | rfl | (focus (simp; done)))) | (refine .fzw ?_; (first | rfl | (focus (simp; done)))) | refine .agg ?_ | refine .arr ?_ | refine .tup ?_))
  ·have z2 : ¬ numB (l.drop 8) = 0 := by omega
   rw [if_neg fun h => z2 (by injection h)];refine zdq 10 O ?_;refine uGq (by first | exact .inr rfl | exact .inl rfl) O ?_
   (repeat (first | exact .nil | refine .cons ?_ ?_ | exact qqq | exact .nilfz | refine .fn ?_ ?_ | (refine qzq O ?_ rfl; (first | rfl | (focus (simp; done)))) | (refine .sl O ?_ rfl (by intro h; cases h); (first | rfl | (focus (simp; done)))) | (refine .pur ?_; (first | rfl | (focus (simp; done)))) | (refine .fzw ?_; (first | rfl | (focus (simp; done)))) | refine .agg ?_ | refine .arr ?_ | refine .tup ?_))
 ·have z1 : ¬ numB (l.take 8) = 0 := by omega
  rw [if_neg fun h => z1 (by injection h)];refine zcq 18 O ?_;refine uGq (by first | exact .inr rfl | exact .inl rfl) O ?_
  (repeat (first | exact .nil | refine .cons ?_ ?_ | exact qqq | exact .nilfz | refine .fn ?_ ?_ | (refine qzq O ?_ rfl; (first | rfl | (focus (simp; done)))) | (refine .sl O ?_ rfl (by intro h; cases h); (first | rfl | (focus (simp; done)))) | (refine .pur ?_; (first | rfl | (focus (simp; done)))) | (refine .fzw ?_; (first | rfl | (focus (simp; done)))) | refine .agg ?_ | refine .arr ?_ | refine .tup ?_))
end
section
attribute [local irreducible] CoW OpW FlW Step Spec
variable {G : Nat -> Option W}
def Qyq (ps : List Pr) : Prop := ∀ p ∈ ps, (jcq p.2).2 = 0
noncomputable instance (ps : List Pr) : Decidable (Qyq ps) := Classical.propDecidable _
theorem rheld_s (ps : List Pr) (f : Bool) (hb : ps.length <= 1000000000) : PS cfg G 116 [.fz (ps.map pW) 33 f] (.bool (decide (Qyq ps))) := by
 have e : (ps.map pW).length = ps.length := List.length_map _;refine zOq (fn := Tryz.f116) O O O (Ob rfl) (fun R k0 => ?_);refine zgq 12 O ?_;refine z4q (α := Nat) (fun i => i <= ps.length /\ ∀ j x, j < i -> ps[j]? = some x -> (jcq x.2).2 = 0) (fun i => [(3, .int .i64 (i : Int))]) [(0, _), (2, _)] (fun i => ps.length - i) (0) ⟨rfl, rfl, trivial⟩ (⟨Nat.zero_le _, fun j x h => by omega⟩) ⟨rfl, trivial⟩ (fun i hI => ?_);obtain ⟨g1, g2⟩ := hI;refine zgq 5 O ?_;refine zkq (w' := .int .i64 (ps.length : Int)) O O (by rw [<- e]; rfl) ?_;refine zcq 3 O ?_;refine zzq rfl (fun h1 => ?_) (fun h1 => ?_)
 ·have hi : i < ps.length := by omega
  obtain ⟨x, hx⟩ : ∃ x, ps[i]? = some x := ⟨_, List.getElem?_eq_getElem hi⟩
  refine zdq 8 O ?_;refine zbq rfl (zBq (i := i) O O O O O O O (ygq pW hx)) ?_;refine zcq 2 O ?_;refine zlq O O O O O O (raread_s _ _) ?_;refine zcq 14 O ?_;refine zzq rfl (fun h2 => ?_) (fun h2 => ?_)
  ·refine zdq 8 O ?_;refine zXq (by intro h; cases h) ?_;refine zAq 2 O ?_;have hno : ¬ Qyq ps := fun h => by have := h x (List.mem_of_getElem? hx); omega
   exact zfq (.inr rfl) rfl (by rw [decide_eq_false hno])
  ·have h0 : (jcq x.2).2 = 0 := by omega
   refine zdq 5 O ?_;refine zoq (i + 1) O O (by first | rfl | omega) ⟨by omega, by omega⟩ ?_;refine yNq 2 O ?_;exact ycq (i + 1) (⟨hi, fun j y hj hy => by rcases Nat.lt_succ_iff_lt_or_eq.1 hj with q | rfl; exact g2 j y q hy; have := Option.some.inj (hx.symm.trans hy); subst this; exact h0⟩) (by omega) ⟨rfl, trivial⟩ ⟨rfl, rfl, trivial⟩ (by repeat (first | exact trivial | refine ⟨by first | rfl | exact ziq (by first | rfl | (simp; done)), ?_⟩)) (by omega) (by repeat (first | exact zEq | refine zHq (by omega) ?_ | refine zFq (by omega) ?_ | refine zGq (by omega) ?_)) rfl
 ·refine zdq 2 O ?_;refine zXq (by intro h; cases h) ?_;refine zAq 8 O ?_
  have yes : Qyq ps := fun p hp => by
   obtain ⟨j, hj⟩ := List.getElem?_of_mem hp;have := (List.getElem?_eq_some_iff.1 hj).1;exact g2 j p (by omega) hj
  exact zfq (.inr rfl) rfl (by rw [decide_eq_true yes])
theorem mayA_iff {t : Tree} {n : Nat} {t0 : T} (h : IsT t n t0) : MayA t ↔ Qyq t0.all := by
 constructor
 ·rintro ⟨n', t', h'⟩;have hn : n = n' := by have := h.root; have := h'.root; omega
  subst hn;rw [h.rep.uniq h'.rep];exact h'.held
 ·exact fun q => ⟨n, t0, h, q⟩
theorem mayA_T {t : Tree} (h : MayA t) : MayT t := by obtain ⟨n, t0, h⟩ := h; exact h.toIsT.may
theorem ramay_s (t : Tree) (hb : t.nodes.length <= 4611686018427387903) : PS cfg G 50 [tW t] (.bool (decide (MayA t))) := by
 by_cases hT : MayT t
 ·obtain ⟨n, t0, h⟩ := may_is hT;have hl : t0.all.length <= 1000000000 := by have := h.all_le; have := h.len; omega
  have h2 : decide (MayA t) = decide (Qyq t0.all) := decide_eq_decide.2 (mayA_iff h);rw [h2];refine zOq (fn := Tryz.f50) O O O (Ob rfl) (fun R k0 => ?_);refine zgq 9 O ?_;refine zlq O O O O O O (y7q (w' := .bool true) (rmay_s t hb) (by rw [decide_eq_true hT])) ?_;refine jzq (fun h1 => ?_) (fun h1 => ?_)
  ·refine zcq 2 O ?_;refine zlq O O O O O O (rall_s t n t0 h) ?_;refine zlq O O O O O O (rheld_s _ _ (by assumption)) ?_;refine zcq 5 O ?_;exact zfq (.inr rfl) O O
  ·exfalso; exact h1 rfl
 ·have h2 : decide (MayA t) = false := decide_eq_false fun h => hT (mayA_T h)
  rw [h2];refine zOq (fn := Tryz.f50) O O O (Ob rfl) (fun R k0 => ?_);refine zgq 9 O ?_;refine zlq O O O O O O (y7q (w' := .bool false) (rmay_s t hb) (by rw [decide_eq_false hT])) ?_;refine jzq (fun h1 => ?_) (fun h1 => ?_)
  ·exfalso; cases h1
  ·refine zcq 9 O ?_;exact zfq (.inr rfl) O O
end
section
attribute [local irreducible] CoW OpW FlW Step Spec
variable {G : Nat -> Option W}
structure Hdr where
 height : Int
 parent : Dig
 state : Dig
 rows : Dig
 many : Int
noncomputable def hdW (h : Hdr) : W := .agg 98 [.int .i64 h.height, dW h.parent, dW h.state, dW h.rows, .int .i64 h.many]
@[simp] theorem hdW_pur (h : Hdr) : purW (hdW h) = true := by simp [hdW]
theorem eq_hdr (h : Hdr) : eqW cfg 300 73 (hdW h) (hdW h) = some true := by
 have e : true = (decide (h.height = h.height) && (decide (h.parent = h.parent) && (decide (h.state = h.state) && (decide (h.rows = h.rows) && (decide (h.many = h.many) && true))))) := by simp
 rw [e];exact Ztq O O O O (y3q O O O (xOq O O) (y3q O O O (qZq O O O O O O _ _ _) (y3q O O O (qZq O O O O O O _ _ _) (y3q O O O (qZq O O O O O O _ _ _) (y3q O O O (xOq O O) Qfq)))))
def okH (h : Hdr) : Prop := 0 <= h.height /\ h.height <= 1073741824 /\ 0 <= h.many /\ h.many <= 256
noncomputable instance (h : Hdr) : Decidable (okH h) := Classical.propDecidable _
theorem rhmay_s (h : Hdr) : PS cfg G 98 [hdW h] (.bool (decide (okH h))) := by
 refine zOq (fn := Tryz.f98) O O O (Ob rfl) (fun R k0 => ?_);refine zgq 10 O ?_;refine qGq O O (fun h1 => ?_) (fun h1 => ?_)
 ·refine zcq 3 O ?_;refine qGq O O (fun h2 => ?_) (fun h2 => ?_)
  ·refine zcq 4 O ?_;refine qGq O O (fun h3 => ?_) (fun h3 => ?_)
   ·refine zcq 4 O ?_;refine qHq O O ?_;refine zcq 5 O ?_;exact zfq (.inr rfl) rfl (by congr 1; first | exact (decide_eq_true (by unfold okH; omega)).symm | exact (decide_eq_false (by unfold okH; omega)).symm | exact decide_eq_decide.2 (by unfold okH; omega))
   ·refine zcq 10 O ?_;exact zfq (.inr rfl) rfl (by congr 1; first | exact (decide_eq_true (by unfold okH; omega)).symm | exact (decide_eq_false (by unfold okH; omega)).symm | exact decide_eq_decide.2 (by unfold okH; omega))
  ·refine zcq 15 O ?_;exact zfq (.inr rfl) rfl (by congr 1; first | exact (decide_eq_true (by unfold okH; omega)).symm | exact (decide_eq_false (by unfold okH; omega)).symm | exact decide_eq_decide.2 (by unfold okH; omega))
 ·refine zcq 19 O ?_;exact zfq (.inr rfl) rfl (by congr 1; first | exact (decide_eq_true (by unfold okH; omega)).symm | exact (decide_eq_false (by unfold okH; omega)).symm | exact decide_eq_decide.2 (by unfold okH; omega))
noncomputable def body0 : W := .agg 2 [.nils, .nils]
theorem mbody0_s : PS cfg G 166 [body0] (.bool true) := by
 refine zOq (fn := Tryz.f166) O O O (Ob rfl) (fun R k0 => ?_);refine zgq 13 O ?_;refine z4q (α := Nat) (fun i => i = 0) (fun i => [(3, .int .i64 (i : Int))]) [(1, _), (2, _)] (fun i => 0) (0) ⟨rfl, rfl, trivial⟩ (rfl) ⟨rfl, trivial⟩ (fun i hI => ?_);subst hI;refine zgq 6 O ?_;first | refine ydq O O ?_ | refine zbq O O ?_
 refine zcq 3 O ?_;refine zzq rfl (fun h1 => ?_) (fun h1 => ?_)
 ·exfalso; simp at h1
 ·refine zdq 2 O ?_;refine zXq (by intro h; cases h) ?_;refine zAq 6 O ?_;first | refine ydq O O ?_ | refine zbq O O ?_
  refine zkq (w' := .bool true) O O (congrArg W.bool (by first | rfl | exact eqI_iff.2 rfl | (simp; done) | decide | (simp [ltI_iff, eqI_iff]; done))) ?_;refine zcq 3 O ?_;first | refine ydq O O ?_ | refine zbq O O ?_
  refine zkq (w' := .bool true) O O (congrArg W.bool (by first | rfl | exact eqI_iff.2 rfl | (simp; done) | decide | (simp [ltI_iff, eqI_iff]; done))) ?_;refine zcq 5 O ?_;exact zfq (.inr rfl) O O
noncomputable def lkW (h : Hdr) (root : Int) : W := .agg 102 [hdW h, .int .i64 root, body0, .nils]
@[simp] theorem lkW_pur (h : Hdr) (root : Int) : purW (lkW h root) = true := by simp [lkW, body0, purW, purL]
noncomputable def chW (t : Tree) (h : Hdr) : W := .agg 3 [tW t, .fz [lkW h t.root] 102 false]
@[simp] theorem chW_pur (t : Tree) (h : Hdr) : purW (chW t h) = true := by simp [chW, purW, purL]
theorem at0_s (t : Tree) (h : Hdr) : PS cfg G 168 [chW t h, .int .i64 ((0 : Nat) : Int)] (tW t) := by
 refine zOq (fn := Tryz.f168) O O O (Ob rfl) (fun R k0 => ?_);refine zgq 19 O ?_;first | refine zbq rfl (zBq O O O O O O O (by first | assumption | (simp; done))) ?_ | refine zbq rfl (zTq O O O O O O O (by omega)) ?_ | refine zbq rfl (zsq O O O O O O (by omega)) ?_ | refine zbq O O ?_
 refine zcq 13 O ?_;exact zfq (.inr rfl) O O
theorem chmay_s (t : Tree) (h : Hdr) (hb : t.nodes.length <= 4611686018427387903) (hm : MayA t) (hh : okH h) (hz : h.height = 0) (hy : h.many = 0) : PS cfg G 99 [chW t h] (.bool true) := by
 refine zOq (fn := Tryz.f99) O O O (Ob rfl) (fun R k0 => ?_);refine zgq 10 O ?_;first | refine ydq O O ?_ | refine zbq O O ?_
 refine zcq 7 O ?_;refine qvq (w' := .bool false) O O (congrArg W.bool (by first | rfl | exact eqI_iff.2 rfl | (simp; done) | decide | (simp [ltI_iff, eqI_iff]; done))) ?_;refine zjq 2 O ?_;refine qvq (w' := .bool false) O O (congrArg W.bool (by first | rfl | exact eqI_iff.2 rfl | (simp; done) | decide | (simp [ltI_iff, eqI_iff]; done))) ?_;refine zjq 8 O ?_;first | refine yJq O O ⟨by omega, by omega⟩ ?_ | refine zaq O O ?_
 first | refine zaq rfl (zBq O O O O O O O (by first | assumption | (simp; done))) ?_ | refine zaq rfl (zTq O O O O O O O (by omega)) ?_ | refine zaq rfl (zsq O O O O O O (by omega)) ?_ | refine zaq O O ?_
 refine zjq 2 O ?_;refine qvq (w' := .bool false) O O (congrArg (fun b => W.bool (!b)) (eqI_iff.2 rfl)) ?_;refine zjq 13 O ?_;refine z4q (α := Nat) (fun i => i <= 1) (fun i => [(4, .int .i64 (i : Int))]) [(1, _), (2, _), (3, _)] (fun i => 1 - i) (0) ⟨rfl, rfl, rfl, trivial⟩ (Nat.zero_le _) ⟨rfl, trivial⟩ (fun i hI => ?_);refine zgq 8 O ?_;refine zzq rfl (fun h1 => ?_) (fun h1 => ?_)
 ·have h1 : (i : Int) < 1 := h1;have hi : i = 0 := by omega
  subst hi;refine zdq 9 O ?_;first | refine zbq rfl (zBq O O O O O O O (by first | assumption | (simp; done))) ?_ | refine zbq rfl (zTq O O O O O O O (by omega)) ?_ | refine zbq rfl (zsq O O O O O O (by omega)) ?_ | refine zbq O O ?_
  refine zcq 12 O ?_;refine zkq (w' := .bool false) O O (congrArg (fun b => W.bool (!b)) (eqI_iff.2 hz)) ?_;refine zcq 3 O ?_;refine zlq O O O O O O (y7q (w' := .bool true) (rhmay_s h) (by rw [decide_eq_true hh])) ?_;refine zcq 5 O ?_;first | refine ydq O O ?_ | refine zbq O O ?_
  refine zcq 3 O ?_;refine zkq (w' := .bool false) O O (congrArg (fun b => W.bool (!b)) (eqI_iff.2 hy.symm)) ?_;refine zcq 4 O ?_;refine zlq O O O O O O (mbody0_s) ?_;refine zcq 10 O ?_;refine qvq (w' := .bool false) O O (congrArg W.bool (by first | rfl | exact eqI_iff.2 rfl | (simp; done) | decide | (simp [ltI_iff, eqI_iff]; done))) ?_;refine zjq 16 O ?_;refine y2q O O O O O O (at0_s t h) ?_;refine y2q O O O O O O (y7q (w' := .bool true) (ramay_s t hb) (by rw [decide_eq_true hm])) ?_;refine zjq 10 O ?_;first | refine yAq O O ⟨by omega, by omega⟩ ?_ | refine zbq O O ?_
  refine yNq 2 O ?_;exact ycq (1) (Nat.le_refl _) (by omega) ⟨rfl, trivial⟩ ⟨rfl, rfl, rfl, trivial⟩ (by repeat (first | exact trivial | refine ⟨by first | rfl | exact ziq (by first | rfl | (simp; done)), ?_⟩)) (by omega) (by repeat (first | exact zEq | refine zHq (by omega) ?_ | refine zFq (by omega) ?_ | refine zGq (by omega) ?_)) rfl
 ·refine zdq 2 O ?_;refine zXq (by intro h; cases h) ?_;refine zAq 8 O ?_;exact zfq (.inr rfl) O O
noncomputable def vwW (t : Tree) (h : Hdr) : W := .agg 6 [.int .i64 0, .bool false, .int .i64 0, chW t h]
@[simp] theorem vwW_pur (t : Tree) (h : Hdr) : purW (vwW t h) = true := by simp [vwW, purW, purL]
theorem top0_s (t : Tree) (h : Hdr) : PS cfg G 100 [vwW t h] (.int .i64 ((0 : Nat) : Int)) := by
 refine zOq (fn := Tryz.f100) O O O (Ob rfl) (fun R k0 => ?_);refine zgq 11 O ?_;first | refine ydq O O ?_ | refine zbq O O ?_
 first | refine yAq O O ⟨by omega, by omega⟩ ?_ | refine zbq O O ?_
 refine zcq 4 O ?_;exact zfq (.inr rfl) O O
theorem vwmay_s (t : Tree) (h : Hdr) (hb : t.nodes.length <= 4611686018427387903) (hm : MayA t) (hh : okH h) (hz : h.height = 0) (hy : h.many = 0) : PS cfg G 32 [vwW t h] (.bool true) := by
 refine zOq (fn := Tryz.f32) O O O (Ob rfl) (fun R k0 => ?_);refine zgq 10 O ?_;refine y2q O O O O O O (chmay_s t h hb hm hh hz hy) ?_;refine zjq 3 O ?_;refine qvq (w' := .bool true) O O (congrArg W.bool (by first | rfl | exact eqI_iff.2 rfl | (simp; done) | decide | (simp [ltI_iff, eqI_iff]; done))) ?_;refine zjq 5 O ?_;refine y2q O O O O O O (top0_s _ _) ?_;refine qvq (w' := .bool true) O O (congrArg W.bool (by first | rfl | exact eqI_iff.2 rfl | (simp; done) | decide | (simp [ltI_iff, eqI_iff]; done))) ?_;refine zjq 4 O ?_;refine qvq (w' := .bool true) O O (congrArg W.bool (by first | rfl | exact eqI_iff.2 rfl | (simp; done) | decide | (simp [ltI_iff, eqI_iff]; done))) ?_;refine zjq 4 O ?_;refine qvq (w' := .bool true) O O (congrArg W.bool (by first | rfl | exact eqI_iff.2 rfl | (simp; done) | decide | (simp [ltI_iff, eqI_iff]; done))) ?_;refine zjq 5 O ?_;exact zfq (.inr rfl) O O
end
section
attribute [local irreducible] CoW OpW FlW Step Spec
variable {G : Nat -> Option W}
noncomputable def shW : W := .agg 1 [.nils]
noncomputable def shsW (k : Nat) : W := .fz (List.replicate k shW) 1 false
theorem shs_p : ∀ k : Nat, purL (List.replicate k shW) = true
 | 0 => rfl
 | k + 1 => by rw [List.replicate_succ]; simp only [purL, shs_p k]; rfl
@[simp] theorem shsW_pur (k : Nat) : purW (shsW k) = true := shs_p k
theorem shs_at {k i : Nat} (h : i < k) : (List.replicate k shW)[i]? = some shW := by simp [h]
theorem shmay_s : PS cfg G 101 [shW] (.bool true) := by
 refine zOq (fn := Tryz.f101) O O O (Ob rfl) (fun R k0 => ?_);refine zgq 13 O ?_;refine z4q (α := Nat) (fun i => i = 0) (fun i => [(3, .int .i64 (i : Int))]) [(1, _), (2, _)] (fun i => 0) (0) ⟨rfl, rfl, trivial⟩ (rfl) ⟨rfl, trivial⟩ (fun i hI => ?_);subst hI;refine zgq 6 O ?_;first | refine ydq O O ?_ | refine zbq O O ?_
 refine zcq 3 O ?_;refine zzq rfl (fun h1 => ?_) (fun h1 => ?_)
 ·exfalso; simp at h1
 ·refine zdq 2 O ?_;refine zXq (by intro h; cases h) ?_;refine zAq 8 O ?_;exact zfq (.inr rfl) O O
theorem shsmay_s (k : Nat) (hk : 1 <= k) (hk8 : k <= 8) : PS cfg G 33 [shsW k] (.bool true) := by
 have e : (List.replicate k shW).length = k := List.length_replicate ..;refine zOq (fn := Tryz.f33) O O O (Ob rfl) (fun R k0 => ?_);refine zgq 9 O ?_;refine zkq (w' := .int .i64 (k : Int)) O O (congrArg (fun n : Nat => W.int .i64 (Int.ofNat n)) e) (zkq (w' := .bool false) O O (congrArg W.bool (ltI_not.2 (by omega))) ?_);refine zcq 2 O ?_;refine zkq (w' := .int .i64 (k : Int)) O O (congrArg (fun n : Nat => W.int .i64 (Int.ofNat n)) e) (zkq (w' := .bool false) O O (congrArg W.bool (ltI_not.2 (by omega))) ?_);refine zcq 13 O ?_;refine z4q (α := Nat) (fun i => i <= k) (fun i => [(3, .int .i64 (i : Int))]) [(0, _), (2, _)] (fun i => k - i) (0) ⟨rfl, rfl, trivial⟩ (Nat.zero_le _) ⟨rfl, trivial⟩ (fun i hI => ?_);refine zgq 5 O ?_;refine zkq (w' := .int .i64 (k : Int)) O O (congrArg (fun n : Nat => W.int .i64 (Int.ofNat n)) e) ?_;refine zcq 3 O ?_;refine zzq rfl (fun h1 => ?_) (fun h1 => ?_)
 ·have h1 : (i : Int) < (k : Int) := h1;have hi : i < k := by omega
  refine zdq 9 O ?_;refine zbq rfl (zBq (i := i) O O O O O O O (shs_at hi)) (zwq O O (zlq O O O O O O (shmay_s) ?_));refine zcq 12 O ?_;refine z4q (α := Nat) (fun j => j = 0) (fun j => [(4, .int .i64 (j : Int))]) [(0, _), (2, _), (3, _), (13, _), (14, _), (15, _), (16, _), (19, _), (20, _), (21, _), (22, _), (23, _), (24, _)] (fun j => 0) (0) ⟨rfl, rfl, rfl, rfl, rfl, rfl, rfl, rfl, rfl, rfl, rfl, rfl, rfl, trivial⟩ (rfl) ⟨rfl, trivial⟩ (fun j hI => ?_);subst hI;refine zgq 6 O ?_;refine zbq rfl (zBq (i := i) O O O O O O O (shs_at hi)) ?_;refine zcq 2 O ?_;first | refine ydq O O ?_ | refine zbq O O ?_
  refine zcq 3 O ?_;refine zzq rfl (fun h2 => ?_) (fun h2 => ?_)
  ·exfalso; simp at h2
  ·refine zdq 2 O ?_;refine zXq (by intro h; cases h) ?_;refine zAq 5 O ?_;refine zoq (i + 1) O O (by first | rfl | omega) ⟨by omega, by omega⟩ ?_;refine yNq 2 O ?_;skip
   exact ycq (i + 1) (hi) (by omega) ⟨rfl, trivial⟩ ⟨rfl, rfl, trivial⟩ (by repeat (first | exact trivial | refine ⟨by first | rfl | exact ziq (by first | rfl | (simp; done)), ?_⟩)) (by omega) (by repeat (first | exact zEq | refine zHq (by omega) ?_ | refine zFq (by omega) ?_ | refine zGq (by omega) ?_)) rfl
 ·refine zdq 2 O ?_;refine zXq (by intro h; cases h) ?_;refine zAq 8 O ?_;exact zfq (.inr rfl) O O
theorem signed0_s : PS cfg G 34 [.nils] (.bool true) := by
 refine zOq (fn := Tryz.f34) O O O (Ob rfl) (fun R k0 => ?_);refine zgq 12 O ?_;refine z4q (α := Nat) (fun i => i = 0) (fun i => [(3, .int .i64 (i : Int))]) [(0, _), (2, _)] (fun i => 0) (0) ⟨rfl, rfl, trivial⟩ (rfl) ⟨rfl, trivial⟩ (fun i hI => ?_);subst hI;refine zgq 5 O ?_;first | refine ydq O O ?_ | refine zbq O O ?_
 refine zcq 3 O ?_;refine zzq rfl (fun h1 => ?_) (fun h1 => ?_)
 ·exfalso; simp at h1
 ·refine zdq 2 O ?_;refine zXq (by intro h; cases h) ?_;refine zAq 8 O ?_;exact zfq (.inr rfl) O O
noncomputable def hub0 : W := .agg 2 [.int .i64 0, .nils]
theorem hubmay_s : PS cfg G 35 [hub0] (.bool true) := by
 refine zOq (fn := Tryz.f35) O O O (Ob rfl) (fun R k0 => ?_);refine zgq 11 O ?_;refine zkq (w' := .bool false) O O (congrArg W.bool (by first | rfl | exact eqI_iff.2 rfl | (simp; done) | decide | (simp [ltI_iff, eqI_iff]; done))) ?_;refine zcq 3 O ?_;refine zkq (w' := .bool false) O O (congrArg W.bool (by first | rfl | exact eqI_iff.2 rfl | (simp; done) | decide | (simp [ltI_iff, eqI_iff]; done))) ?_;refine zcq 4 O ?_;first | refine ydq O O ?_ | refine zbq O O ?_
 refine zkq (w' := .bool false) O O (congrArg W.bool (by first | rfl | exact eqI_iff.2 rfl | (simp; done) | decide | (simp [ltI_iff, eqI_iff]; done))) ?_;refine zcq 13 O ?_;refine z4q (α := Nat) (fun i => i = 0) (fun i => [(3, .int .i64 (i : Int))]) [(1, _), (2, _)] (fun i => 0) (0) ⟨rfl, rfl, trivial⟩ (rfl) ⟨rfl, trivial⟩ (fun i hI => ?_);subst hI;refine zgq 6 O ?_;first | refine ydq O O ?_ | refine zbq O O ?_
 refine zcq 3 O ?_;refine zzq rfl (fun h1 => ?_) (fun h1 => ?_)
 ·exfalso; simp at h1
 ·refine zdq 2 O ?_;refine zXq (by intro h; cases h) ?_;refine zAq 8 O ?_;exact zfq (.inr rfl) O O
noncomputable def auW (r : Rules) (t : Tree) (h : Hdr) : W := .agg 52 [ruW r, vwW t h, shsW r.shards.toNat, .nils, .nils, .nils, .int .u64 0, .nils, hub0]
@[simp] theorem auW_pur (r : Rules) (t : Tree) (h : Hdr) : purW (auW r t h) = true := by simp [auW, purW, purL, hub0]
theorem aumay_s (r : Rules) (t : Tree) (h : Hdr) (hr : okR r) (hb : t.nodes.length <= 4611686018427387903) (hm : MayA t) (hh : okH h) (hz : h.height = 0) (hy : h.many = 0) : PS cfg G 11 [auW r t h] (.bool true) := by
 have hr2 := hr;obtain ⟨⟨q1, q2⟩, _, ⟨q3, q4⟩, _⟩ := hr2;have e : (List.replicate r.shards.toNat shW).length = r.shards.toNat := List.length_replicate ..;have en : ((r.shards.toNat : Nat) : Int) = r.shards := by omega
 refine zOq (fn := Tryz.f11) O O O (Ob rfl) (fun R k0 => ?_);refine zgq 13 O ?_;refine z4q (α := Nat) (fun i => i = 0) (fun i => [(3, .int .i64 (i : Int))]) [(1, _), (2, _)] (fun i => 0) (0) ⟨rfl, rfl, trivial⟩ (rfl) ⟨rfl, trivial⟩ (fun i hI => ?_);subst hI;refine zgq 6 O ?_;first | refine ydq O O ?_ | refine zbq O O ?_
 refine zcq 3 O ?_;refine zzq rfl (fun h1 => ?_) (fun h1 => ?_)
 ·exfalso; simp at h1
 ·refine zdq 2 O ?_;refine zXq (by intro h; cases h) ?_;refine zAq 7 O ?_;refine zlq O O O O O O (y7q (w' := .bool true) (jMq r) (by rw [decide_eq_true hr])) ?_;refine zcq 4 O ?_;refine zlq O O O O O O (vwmay_s t h hb hm hh hz hy) ?_;refine zcq 5 O ?_;refine zlq O O O O O O (shsmay_s r.shards.toNat (by omega) (by omega)) ?_;refine zcq 5 O ?_;refine zkq (w' := .int .i64 r.shards) O O ((congrArg (fun n : Nat => W.int .i64 (Int.ofNat n)) e).trans (congrArg (W.int .i64) en)) ?_;refine zcq 3 O ?_;refine zkq (w' := .bool false) O O (congrArg (fun b => W.bool (!b)) (eqI_iff.2 rfl)) ?_;refine zcq 10 O ?_;first | refine ydq O O ?_ | refine zbq O O ?_
  refine zcq 3 O ?_;refine zkq (w' := .bool true) O O (congrArg (fun b => W.bool (!b)) (ltI_not.2 (by omega))) ?_;refine zcq 3 O ?_;refine zlq O O O O O O (signed0_s) ?_;refine zcq 4 O ?_;refine zlq O O O O O O (signed0_s) ?_;refine zcq 4 O ?_;refine zlq O O O O O O (hubmay_s) ?_;refine zcq 5 O ?_;exact zfq (.inr rfl) O O
end
section
attribute [local irreducible] CoW OpW FlW Step Spec
variable {G : Nat -> Option W}
theorem shsame_s : PS cfg G 171 [shW, shW] (.bool true) := by
 refine zOq (fn := Tryz.f171) O O O (Ob rfl) (fun R k0 => ?_);refine zgq 12 O ?_;first | refine ydq O O ?_ | refine zbq O O ?_
 refine zcq 2 O ?_;first | refine ydq O O ?_ | refine zbq O O ?_
 refine zkq (w' := .bool false) O O (congrArg W.bool (by first | rfl | exact eqI_iff.2 rfl | (simp; done) | decide | (simp [ltI_iff, eqI_iff]; done))) ?_;refine zcq 12 O ?_;refine z4q (α := Nat) (fun i => i = 0) (fun i => [(5, .int .i64 (i : Int))]) [(2, _), (3, _), (4, _)] (fun i => 0) (0) ⟨rfl, rfl, rfl, trivial⟩ (rfl) ⟨rfl, trivial⟩ (fun i hI => ?_);subst hI;refine zgq 6 O ?_;first | refine ydq O O ?_ | refine zbq O O ?_
 refine zcq 3 O ?_;refine zzq rfl (fun h1 => ?_) (fun h1 => ?_)
 ·exfalso; simp at h1
 ·refine zdq 2 O ?_;refine zXq (by intro h; cases h) ?_;refine zAq 8 O ?_;exact zfq (.inr rfl) O O
theorem shssame_s (k : Nat) (hk8 : k <= 8) : PS cfg G 104 [shsW k, shsW k] (.bool true) := by
 have e : (List.replicate k shW).length = k := List.length_replicate ..;refine zOq (fn := Tryz.f104) O O O (Ob rfl) (fun R k0 => ?_);refine zgq 9 O ?_;first | refine ydq O O ?_ | refine zbq O O ?_
 refine zbq O O ?_;first | refine ydq O O ?_ | refine zbq O O ?_
 refine zkq (w' := .bool false) O O (congrArg (fun b => W.bool (!b)) (eqI_iff.2 rfl)) ?_;refine zcq 12 O ?_;refine z4q (α := Nat) (fun i => i <= k) (fun i => [(5, .int .i64 (i : Int))]) [(0, _), (1, _), (4, _)] (fun i => k - i) (0) ⟨rfl, rfl, rfl, trivial⟩ (Nat.zero_le _) ⟨rfl, trivial⟩ (fun i hI => ?_);refine zgq 5 O ?_;refine zkq (w' := .int .i64 (k : Int)) O O (congrArg (fun n : Nat => W.int .i64 (Int.ofNat n)) e) ?_;refine zcq 3 O ?_;refine zzq rfl (fun h1 => ?_) (fun h1 => ?_)
 ·have h1 : (i : Int) < (k : Int) := h1;have hi : i < k := by omega
  refine zdq 8 O ?_;refine zaq rfl (zBq (i := i) O O O O O O O (shs_at hi)) ?_;refine zjq 3 O ?_;refine zaq rfl (zBq (i := i) O O O O O O O (shs_at hi)) (yKq O O ?_);refine y2q O O O O O O (shsame_s) ?_;refine zjq 9 O ?_;refine zoq (i + 1) O O (by first | rfl | omega) ⟨by omega, by omega⟩ ?_;refine yNq 2 O ?_;exact ycq (i + 1) (hi) (by omega) ⟨rfl, trivial⟩ ⟨rfl, rfl, rfl, trivial⟩ (by repeat (first | exact trivial | refine ⟨by first | rfl | exact ziq (by first | rfl | (simp; done)), ?_⟩)) (by omega) (by repeat (first | exact zEq | refine zHq (by omega) ?_ | refine zFq (by omega) ?_ | refine zGq (by omega) ?_)) rfl
 ·refine zdq 2 O ?_;refine zXq (by intro h; cases h) ?_;refine zAq 8 O ?_;exact zfq (.inr rfl) O O
theorem txs0_s : PS cfg G 105 [.nils, .nils] (.bool true) := by
 refine zOq (fn := Tryz.f105) O O O (Ob rfl) (fun R k0 => ?_);refine zgq 9 O ?_;first | refine ydq O O ?_ | refine zbq O O ?_
 refine zbq O O ?_;first | refine ydq O O ?_ | refine zbq O O ?_
 refine zkq (w' := .bool false) O O (congrArg W.bool (by first | rfl | exact eqI_iff.2 rfl | (simp; done) | decide | (simp [ltI_iff, eqI_iff]; done))) ?_;refine zcq 12 O ?_;refine z4q (α := Nat) (fun i => i = 0) (fun i => [(5, .int .i64 (i : Int))]) [(0, _), (1, _), (4, _)] (fun i => 0) (0) ⟨rfl, rfl, rfl, trivial⟩ (rfl) ⟨rfl, trivial⟩ (fun i hI => ?_);subst hI;refine zgq 5 O ?_;first | refine ydq O O ?_ | refine zbq O O ?_
 refine zcq 3 O ?_;refine zzq rfl (fun h1 => ?_) (fun h1 => ?_)
 ·exfalso; simp at h1
 ·refine zdq 2 O ?_;refine zXq (by intro h; cases h) ?_;refine zAq 8 O ?_;exact zfq (.inr rfl) O O
theorem evs0_s : PS cfg G 107 [.nils, .nils] (.bool true) := by
 refine zOq (fn := Tryz.f107) O O O (Ob rfl) (fun R k0 => ?_);refine zgq 9 O ?_;first | refine ydq O O ?_ | refine zbq O O ?_
 refine zbq O O ?_;first | refine ydq O O ?_ | refine zbq O O ?_
 refine zkq (w' := .bool false) O O (congrArg W.bool (by first | rfl | exact eqI_iff.2 rfl | (simp; done) | decide | (simp [ltI_iff, eqI_iff]; done))) ?_;refine zcq 12 O ?_;refine z4q (α := Nat) (fun i => i = 0) (fun i => [(5, .int .i64 (i : Int))]) [(0, _), (1, _), (4, _)] (fun i => 0) (0) ⟨rfl, rfl, rfl, trivial⟩ (rfl) ⟨rfl, trivial⟩ (fun i hI => ?_);subst hI;refine zgq 5 O ?_;first | refine ydq O O ?_ | refine zbq O O ?_
 refine zcq 3 O ?_;refine zzq rfl (fun h1 => ?_) (fun h1 => ?_)
 ·exfalso; simp at h1
 ·refine zdq 2 O ?_;refine zXq (by intro h; cases h) ?_;refine zAq 8 O ?_;exact zfq (.inr rfl) O O
theorem recs0_s : PS cfg G 225 [.nils, .nils] (.bool true) := by
 refine zOq (fn := Tryz.f225) O O O (Ob rfl) (fun R k0 => ?_);refine zgq 9 O ?_;first | refine ydq O O ?_ | refine zbq O O ?_
 refine zbq O O ?_;first | refine ydq O O ?_ | refine zbq O O ?_
 refine zkq (w' := .bool false) O O (congrArg W.bool (by first | rfl | exact eqI_iff.2 rfl | (simp; done) | decide | (simp [ltI_iff, eqI_iff]; done))) ?_;refine zcq 12 O ?_;refine z4q (α := Nat) (fun i => i = 0) (fun i => [(5, .int .i64 (i : Int))]) [(0, _), (1, _), (4, _)] (fun i => 0) (0) ⟨rfl, rfl, rfl, trivial⟩ (rfl) ⟨rfl, trivial⟩ (fun i hI => ?_);subst hI;refine zgq 5 O ?_;first | refine ydq O O ?_ | refine zbq O O ?_
 refine zcq 3 O ?_;refine zzq rfl (fun h1 => ?_) (fun h1 => ?_)
 ·exfalso; simp at h1
 ·refine zdq 2 O ?_;refine zXq (by intro h; cases h) ?_;refine zAq 8 O ?_;exact zfq (.inr rfl) O O
theorem body0_s : PS cfg G 172 [body0, body0] (.bool true) := by
 refine zOq (fn := Tryz.f172) O O O (Ob rfl) (fun R k0 => ?_);refine zgq 12 O ?_;first | refine ydq O O ?_ | refine zbq O O ?_
 refine zcq 2 O ?_;first | refine ydq O O ?_ | refine zbq O O ?_
 refine zkq (w' := .bool false) O O (congrArg W.bool (by first | rfl | exact eqI_iff.2 rfl | (simp; done) | decide | (simp [ltI_iff, eqI_iff]; done))) ?_;refine zcq 3 O ?_;first | refine ydq O O ?_ | refine zbq O O ?_
 refine zcq 2 O ?_;first | refine ydq O O ?_ | refine zbq O O ?_
 refine zkq (w' := .bool false) O O (congrArg W.bool (by first | rfl | exact eqI_iff.2 rfl | (simp; done) | decide | (simp [ltI_iff, eqI_iff]; done))) ?_;refine zcq 13 O ?_;refine z4q (α := Nat) (fun i => i = 0) (fun i => [(5, .int .i64 (i : Int))]) [(2, _), (3, _), (4, _)] (fun i => 0) (0) ⟨rfl, rfl, rfl, trivial⟩ (rfl) ⟨rfl, trivial⟩ (fun i hI => ?_);subst hI;refine zgq 6 O ?_;first | refine ydq O O ?_ | refine zbq O O ?_
 refine zcq 3 O ?_;refine zzq rfl (fun h1 => ?_) (fun h1 => ?_)
 ·exfalso; simp at h1
 ·refine zdq 2 O ?_;refine zXq (by intro h; cases h) ?_;refine zAq 9 O ?_;refine z4q (α := Nat) (fun j => j = 0) (fun j => [(6, .int .i64 (j : Int))]) [(2, _), (3, _), (4, _)] (fun j => 0) (0) ⟨rfl, rfl, rfl, trivial⟩ (rfl) ⟨rfl, trivial⟩ (fun j hI => ?_);subst hI;refine zgq 6 O ?_;first | refine ydq O O ?_ | refine zbq O O ?_
  refine zcq 3 O ?_;refine zzq rfl (fun h2 => ?_) (fun h2 => ?_)
  ·exfalso; simp at h2
  ·refine zdq 2 O ?_;refine zXq (by intro h; cases h) ?_;refine zAq 8 O ?_;exact zfq (.inr rfl) O O
theorem deps0_s : PS cfg G 106 [.nils, .nils] (.bool true) := by
 refine zOq (fn := Tryz.f106) O O O (Ob rfl) (fun R k0 => ?_);refine zgq 11 O ?_;refine zlq O O O O O O (body0_s) ?_;refine zcq 4 O ?_;exact zfq (.inr rfl) O O
theorem hub0_s : PS cfg G 108 [hub0, hub0] (.bool true) := by
 refine zOq (fn := Tryz.f108) O O O (Ob rfl) (fun R k0 => ?_);refine zgq 14 O ?_;refine zkq (w' := .bool false) O O (congrArg W.bool (by first | rfl | exact eqI_iff.2 rfl | (simp; done) | decide | (simp [ltI_iff, eqI_iff]; done))) ?_;refine zcq 3 O ?_;first | refine ydq O O ?_ | refine zbq O O ?_
 refine zcq 2 O ?_;first | refine ydq O O ?_ | refine zbq O O ?_
 refine zkq (w' := .bool false) O O (congrArg W.bool (by first | rfl | exact eqI_iff.2 rfl | (simp; done) | decide | (simp [ltI_iff, eqI_iff]; done))) ?_;refine zcq 13 O ?_;refine z4q (α := Nat) (fun i => i = 0) (fun i => [(5, .int .i64 (i : Int))]) [(2, _), (3, _), (4, _)] (fun i => 0) (0) ⟨rfl, rfl, rfl, trivial⟩ (rfl) ⟨rfl, trivial⟩ (fun i hI => ?_);subst hI;refine zgq 6 O ?_;first | refine ydq O O ?_ | refine zbq O O ?_
 refine zcq 3 O ?_;refine zzq rfl (fun h1 => ?_) (fun h1 => ?_)
 ·exfalso; simp at h1
 ·refine zdq 2 O ?_;refine zXq (by intro h; cases h) ?_;refine zAq 8 O ?_;exact zfq (.inr rfl) O O
theorem link0_s (h : Hdr) (a b : Int) : PS cfg G 174 [lkW h a, lkW h b] (.bool true) := by
 refine zOq (fn := Tryz.f174) O O O (Ob rfl) (fun R k0 => ?_);refine zgq 13 O ?_;refine zkq (w' := .bool true) rfl (qlq O O O O (eq_hdr h)) O ?_;refine zcq 5 O ?_;refine zlq O O O O O O (body0_s) ?_;refine zcq 6 O ?_;refine zlq O O O O O O (recs0_s) ?_;refine zcq 5 O ?_;exact zfq (.inr rfl) O O
theorem chalike_s (t u : Tree) (l : List Pr) (h : Hdr) (hl : l.length <= 1000000000) (pt : PS cfg G 175 [chW t h, .int .i64 ((0 : Nat) : Int)] (psW l)) (pu : PS cfg G 175 [chW u h, .int .i64 ((0 : Nat) : Int)] (psW l)) : PS cfg G 109 [chW t h, chW u h] (.bool true) := by
 refine zOq (fn := Tryz.f109) O O O (Ob rfl) (fun R k0 => ?_);refine zgq 12 O ?_;first | refine ydq O O ?_ | refine zbq O O ?_
 refine zcq 2 O ?_;first | refine ydq O O ?_ | refine zbq O O ?_
 refine zkq (w' := .bool false) O O (congrArg W.bool (by first | rfl | exact eqI_iff.2 rfl | (simp; done) | decide | (simp [ltI_iff, eqI_iff]; done))) ?_;refine zcq 12 O ?_;refine z4q (α := Nat) (fun i => i <= 1) (fun i => [(5, .int .i64 (i : Int))]) [(2, _), (3, _), (4, _)] (fun i => 1 - i) (0) ⟨rfl, rfl, rfl, trivial⟩ (Nat.zero_le _) ⟨rfl, trivial⟩ (fun i hI => ?_);refine zgq 6 O ?_;first | refine ydq O O ?_ | refine zbq O O ?_
 refine zcq 3 O ?_;refine zzq rfl (fun h1 => ?_) (fun h1 => ?_)
 ·have h1 : (i : Int) < 1 := h1;have hi : i = 0 := by omega
  subst hi;refine zdq 9 O ?_;first | refine zaq rfl (zBq O O O O O O O (by first | assumption | (simp; done))) ?_ | refine zaq rfl (zTq O O O O O O O (by omega)) ?_ | refine zaq rfl (zsq O O O O O O (by omega)) ?_ | refine zaq O O ?_
  refine zjq 4 O ?_;first | refine zaq rfl (zBq O O O O O O O (by first | assumption | (simp; done))) ?_ | refine zaq rfl (zTq O O O O O O O (by omega)) ?_ | refine zaq rfl (zsq O O O O O O (by omega)) ?_ | refine zaq O O ?_
  refine yKq O O ?_;refine y2q O O O O O O (link0_s h _ _) ?_;refine zjq 4 O ?_;refine y2q O O O O O O pt ?_;refine zjq 2 O ?_;refine y2q O O O O O O pu ?_;refine y2q O O O O O O (y7q (w' := .bool true) (rpsame_s l l false false hl) (by rw [decide_eq_true rfl])) ?_;refine zjq 10 O ?_;first | refine yAq O O ⟨by omega, by omega⟩ ?_ | refine zbq O O ?_
  refine yNq 2 O ?_;exact ycq (1) (Nat.le_refl _) (by omega) ⟨rfl, trivial⟩ ⟨rfl, rfl, rfl, trivial⟩ (by repeat (first | exact trivial | refine ⟨by first | rfl | exact ziq (by first | rfl | (simp; done)), ?_⟩)) (by omega) (by repeat (first | exact zEq | refine zHq (by omega) ?_ | refine zFq (by omega) ?_ | refine zGq (by omega) ?_)) rfl
 ·refine zdq 2 O ?_;refine zXq (by intro h; cases h) ?_;refine zAq 8 O ?_;exact zfq (.inr rfl) O O
theorem vwalike_s (t u : Tree) (h : Hdr) (p : PS cfg G 109 [chW t h, chW u h] (.bool true)) : PS cfg G 37 [vwW t h, vwW u h] (.bool true) := by
 refine zOq (fn := Tryz.f37) O O O (Ob rfl) (fun R k0 => ?_);refine zgq 13 O ?_;refine zkq (w' := .bool true) O O (congrArg W.bool (by first | rfl | exact eqI_iff.2 rfl | (simp; done) | decide | (simp [ltI_iff, eqI_iff]; done))) ?_;refine zcq 5 O ?_;refine zkq (w' := .bool true) O O (congrArg W.bool (by first | rfl | exact eqI_iff.2 rfl | (simp; done) | decide | (simp [ltI_iff, eqI_iff]; done))) ?_;refine zcq 6 O ?_;refine zkq (w' := .bool true) O O (congrArg W.bool (by first | rfl | exact eqI_iff.2 rfl | (simp; done) | decide | (simp [ltI_iff, eqI_iff]; done))) ?_;refine zcq 6 O ?_;refine zlq O O O O O O (p) ?_;refine zcq 5 O ?_;exact zfq (.inr rfl) O O
theorem rest0_s (r : Rules) (t u : Tree) (h : Hdr) (hr : r.shards.toNat <= 8) : PS cfg G 36 [auW r t h, auW r u h] (.bool true) := by
 refine zOq (fn := Tryz.f36) O O O (Ob rfl) (fun R k0 => ?_);refine zgq 13 O ?_;refine zkq (w' := .bool true) rfl (qlq O O O O (eq_rules r)) O ?_;refine zcq 5 O ?_;refine zkq (w' := .bool true) O O (congrArg W.bool (by first | rfl | exact eqI_iff.2 rfl | (simp; done) | decide | (simp [ltI_iff, eqI_iff]; done))) ?_;refine zcq 6 O ?_;refine zlq O O O O O O (shssame_s r.shards.toNat hr) ?_;refine zcq 6 O ?_;refine zlq O O O O O O (txs0_s) ?_;refine zcq 6 O ?_;refine zlq O O O O O O (txs0_s) ?_;refine zcq 6 O ?_;refine zlq O O O O O O (deps0_s) ?_;refine zcq 6 O ?_;refine zlq O O O O O O (evs0_s) ?_;refine zcq 6 O ?_;refine zlq O O O O O O (hub0_s) ?_;refine zcq 5 O ?_;exact zfq (.inr rfl) O O
theorem aualike_s (r : Rules) (t u : Tree) (h : Hdr) (hr : r.shards.toNat <= 8) (p : PS cfg G 109 [chW t h, chW u h] (.bool true)) : PS cfg G 12 [auW r t h, auW r u h] (.bool true) := by
 refine zOq (fn := Tryz.f12) O O O (Ob rfl) (fun R k0 => ?_);refine zgq 11 O ?_;refine zlq O O O O O O (rest0_s r t u h hr) ?_;refine zcq 5 O ?_;refine zlq O O O O O O (vwalike_s t u h p) ?_;refine zcq 5 O ?_;exact zfq (.inr rfl) O O
end
noncomputable def rotN (x n : Nat) : Nat := Nat.lor (Nat.shiftLeft x (32 - n) % 4294967296 % 4294967296) (Nat.shiftRight x n % 4294967296)
noncomputable def addN (a b : Nat) : Nat := (a + b) % 4294967296
noncomputable def xorN (a b : Nat) : Nat := Nat.xor (a % 4294967296) (b % 4294967296)
noncomputable def andN (a b : Nat) : Nat := Nat.land (a % 4294967296) (b % 4294967296)
noncomputable def shrN (a k : Nat) : Nat := Nat.shiftRight a (min k 32)
noncomputable def shlN (a k : Nat) : Nat := Nat.shiftLeft a (min k 32) % 4294967296
noncomputable def orN (a b : Nat) : Nat := Nat.lor (a % 4294967296) (b % 4294967296)
noncomputable def notN (a : Nat) : Nat := Nat.xor (4294967295 % 4294967296) (a % 4294967296)
noncomputable def wd (x : Nat) : W := .int .u32 (.ofNat x)
theorem jpq (n : Nat) (hn : n = 2 \/ n = 6 \/ n = 7 \/ n = 11 \/ n = 13 \/ n = 17 \/ n = 18 \/ n = 19 \/ n = 22 \/ n = 25) (G : Nat -> Option W) (x : Nat) : jdq cfg G 258 0 [wd x, .int .i64 (.ofNat n)] [] fun w hp nw => w = wd (rotN x n) /\ hp = [] /\ nw = 0 := by
 have key : ∀ h, qtq cfg 20 258 [.int .u32 (.ofNat x), .int .i64 (.ofNat n)] h = some (.int .u32 (.ofNat (rotN x n)), h) := by
  intro h;rcases hn with rfl | rfl | rfl | rfl | rfl | rfl | rfl | rfl | rfl | rfl <;> kernel_rfl
 refine spec_run key (fun Γ us h => ?_) (fun Γ => RV_int.2 rfl);obtain ⟨v, vs, rfl, h1, h2⟩ := RVL_cons.1 h;obtain ⟨v', vs', rfl, h3, h4⟩ := RVL_cons.1 h2;rw [RVL_nil.1 h4, RV_int.1 h1, RV_int.1 h3]
section
attribute [local irreducible] CoW OpW FlW Step Spec
noncomputable def wordN (b0 b1 b2 b3 : Nat) : Nat := orN (orN (orN (shlN (b0 % 4294967296) 24) (shlN (b1 % 4294967296) 16)) (shlN (b2 % 4294967296) 8)) (b3 % 4294967296)
noncomputable def xeq (bs : Nat -> Nat) (l : List Nat) : Nat := match Nat.blt l.length 16 with
 | true => wordN (bs (4 * l.length)) (bs (4 * l.length + 1)) (bs (4 * l.length + 2)) (bs (4 * l.length + 3))
 | false => addN (addN (addN (l.getD (l.length - 16) 0) (xorN (xorN (rotN (l.getD (l.length - 15) 0) 7) (rotN (l.getD (l.length - 15) 0) 18)) (shrN (l.getD (l.length - 15) 0) 3))) (l.getD (l.length - 7) 0)) (xorN (xorN (rotN (l.getD (l.length - 2) 0) 17) (rotN (l.getD (l.length - 2) 0) 19)) (shrN (l.getD (l.length - 2) 0) 10))
noncomputable def yxq (bs : Nat -> Nat) : Nat -> List Nat
 | 0 => []
 | t + 1 => yxq bs t ++ [xeq bs (yxq bs t)]
theorem k9q (bs : Nat -> Nat) : ∀ t, (yxq bs t).length = t
 | 0 => rfl
 | t + 1 => by simp [yxq, k9q bs t]
theorem u7q {l : List Nat} {i : Nat} (h : i < l.length) : (l.map wd)[i]? = some (wd (l.getD i 0)) := by
 simp [List.getElem?_map, List.getElem?_eq_getElem h, List.getD]
noncomputable def kW : List Nat := [1116352408, 1899447441, 3049323471, 3921009573, 961987163, 1508970993, 2453635748, 2870763221, 3624381080, 310598401, 607225278, 1426881987, 1925078388, 2162078206, 2614888103, 3248222580, 3835390401, 4022224774, 264347078, 604807628, 770255983, 1249150122, 1555081692, 1996064986, 2554220882, 2821834349, 2952996808, 3210313671, 3336571891, 3584528711, 113926993, 338241895, 666307205, 773529912, 1294757372, 1396182291, 1695183700, 1986661051, 2177026350, 2456956037, 2730485921, 2820302411, 3259730800, 3345764771, 3516065817, 3600352804, 4094571909, 275423344, 430227734, 506948616, 659060556, 883997877, 958139571, 1322822218, 1537002063, 1747873779, 1955562222, 2024104815, 2227730452, 2361852424, 2428436474, 2756734187, 3204031479, 3329325298]
noncomputable def glK : Nat -> Option W := fun g => match g with
 | 0 => some (.arr 64 1 (kW.map wd))
 | _ => none
noncomputable def pad0 (l : List Nat) (n : Nat) : List Nat := l ++ List.replicate (n - l.length) 0
theorem pad0_at {l : List Nat} {n i : Nat} (h : i < l.length) : ((pad0 l n).map wd)[i]? = some (wd (l.getD i 0)) := by
 have : i < (pad0 l n).length := by simp [pad0]; omega
 rw [u7q this];simp [pad0, List.getD, List.getElem?_append, h]
theorem pad0_ge {l : List Nat} {n : Nat} (h : l.length < n) : ((pad0 l n).map wd)[l.length]? = some (wd 0) := by
 have : l.length < (pad0 l n).length := by simp [pad0]; omega
 rw [u7q this];simp [pad0, List.getD, List.getElem?_append, List.getElem?_replicate, show 0 < n - l.length by omega]
theorem pad0_set {l : List Nat} {n x : Nat} (h : l.length < n) : ((pad0 l n).map wd).set l.length (wd x) = (pad0 (l ++ [x]) n).map wd := by
 rw [<- List.map_set];congr 1
 unfold pad0;rw [List.set_append_right _ _ (Nat.le_refl _)];have : n - l.length = (n - (l ++ [x]).length) + 1 := by simp; omega
 rw [this, Nat.sub_self, List.replicate_succ, List.set_cons_zero, List.append_assoc];rfl
structure S8 where
 (a b c d e f g h : Nat)
noncomputable def S8.l (s : S8) : List W := [wd s.a, wd s.b, wd s.c, wd s.d, wd s.e, wd s.f, wd s.g, wd s.h]
noncomputable def roundN (k w : Nat) (v : S8) : S8 :=
 let one := addN (addN (addN (addN v.h (xorN (xorN (rotN v.e 6) (rotN v.e 11)) (rotN v.e 25))) (xorN (andN v.e v.f) (andN (notN v.e) v.g))) k) w
 let two := addN (xorN (xorN (rotN v.a 2) (rotN v.a 13)) (rotN v.a 22)) (xorN (xorN (andN v.a v.b) (andN v.a v.c)) (andN v.b v.c))
 ⟨addN one two, v.a, v.b, v.c, addN v.d one, v.e, v.f, v.g⟩
noncomputable def xaq (ws : List Nat) (s : S8) : Nat -> S8
 | 0 => s
 | t + 1 => roundN (kW.getD t 0) (ws.getD t 0) (xaq ws s t)
noncomputable def add8 (s v : S8) : S8 := ⟨addN s.a v.a, addN s.b v.b, addN s.c v.c, addN s.d v.d, addN s.e v.e, addN s.f v.f, addN s.g v.g, addN s.h v.h⟩
noncomputable def jfq (bs : Nat -> Nat) (s : S8) : S8 := add8 s (xaq (yxq bs 64) s 64)
noncomputable def mix8 (s v : S8) : Nat -> List W
 | 0 => s.l
 | 1 => [wd (addN s.a v.a), wd s.b, wd s.c, wd s.d, wd s.e, wd s.f, wd s.g, wd s.h]
 | 2 => [wd (addN s.a v.a), wd (addN s.b v.b), wd s.c, wd s.d, wd s.e, wd s.f, wd s.g, wd s.h]
 | 3 => [wd (addN s.a v.a), wd (addN s.b v.b), wd (addN s.c v.c), wd s.d, wd s.e, wd s.f, wd s.g, wd s.h]
 | 4 => [wd (addN s.a v.a), wd (addN s.b v.b), wd (addN s.c v.c), wd (addN s.d v.d), wd s.e, wd s.f, wd s.g, wd s.h]
 | 5 => [wd (addN s.a v.a), wd (addN s.b v.b), wd (addN s.c v.c), wd (addN s.d v.d), wd (addN s.e v.e), wd s.f, wd s.g, wd s.h]
 | 6 => [wd (addN s.a v.a), wd (addN s.b v.b), wd (addN s.c v.c), wd (addN s.d v.d), wd (addN s.e v.e), wd (addN s.f v.f), wd s.g, wd s.h]
 | 7 => [wd (addN s.a v.a), wd (addN s.b v.b), wd (addN s.c v.c), wd (addN s.d v.d), wd (addN s.e v.e), wd (addN s.f v.f), wd (addN s.g v.g), wd s.h]
 | _ => (add8 s v).l
theorem kW_len : kW.length = 64 := rfl
set_option maxHeartbeats 1600000 in
theorem block_s (s : S8) (bs : Nat -> Nat) (c : W) (base off : Nat) (lim : Option Nat) (ty : TypeId) (hc : refB 2 c = true) (hby : ∀ i, i < 64 -> ymq 50 c (off + i * 1) 1 false = some (.int .u8 (.ofNat (bs i)))) (R : Res) :
  Spec cfg glK 248 2 [.ptr 0 0, .sl 1 base off 64 1 lim] [(0, 352, .arr 8 1 s.l), (1, ty, c)] R fun w hp nw R' => R' = R /\ w = .tup [] /\ hp = [(0, 352, .arr 8 1 (jfq bs s).l), (1, ty, c)] /\ nw = 2 := by
 refine yqq (fn := Tryz.f248) O O O (Ob rfl) (fun k0 => ?_);refine zLq (znq (zwq O O (zVq ?_)));refine z8q (zLq (zLq (znq (zbq O O (zVq ?_)))));refine z8q (ypq ?_);refine qJq (fun t : Nat => t <= 64) (fun t => [(19, .int .i64 (t : Int)), (4, .ptr 2 0), (1, .sl 1 base off 64 1 lim), (0, .ptr 0 0)]) (fun t => [(2, 355, .arr 64 1 ((pad0 (yxq bs t) 64).map wd)), (0, 352, .arr 8 1 s.l), (1, ty, c)]) (fun _ => 3) (fun _ => R) (fun t => 64 - t) 0 (Nat.zero_le _) ?_ (fun t ht => ?_)
 ·exact ynq ⟨rfl, rfl, rfl, rfl, trivial⟩ O O
 have hl := k9q bs t;refine zLq (znq (zbq O O (zVq ?_)));refine z8q (zLq ?_);refine jnq rfl (fun hc1 => ?_) (fun hc1 => ?_)
 ·have ht1 : t < 64 := by have := ltI_iff.1 hc1; omega
  have h0 : ((pad0 (yxq bs t) 64).map wd)[0 + t * 1]? = some (wd 0) := by
   have := pad0_ge (l := yxq bs t) (n := 64) (by omega);rw [hl] at this; simpa using this
  have key : ∀ x, xeq bs (yxq bs t) = x -> ((pad0 (yxq bs t) 64).map wd).set (0 + t * 1) (wd x) = (pad0 (yxq bs (t + 1)) 64).map wd := fun x hx => by
   have := pad0_set (l := yxq bs t) (n := 64) (x := x) (by omega);rw [hl] at this;rw [Nat.zero_add, Nat.mul_one, this, yxq, hx]
  refine qkq (z8q (zLq (ypq (zLq (znq (zbq O O (zbq O O (zVq ?_))))))));refine z8q (zLq (zLq (znq (zbq O O (zbq O O (zVq ?_))))));refine z8q ?_;refine jnq rfl (fun hc2 => ?_) (fun hc2 => ?_)
  ·have ht2 : t < 16 := by have := ltI_iff.1 hc2; omega
   refine zLq (q8q (zaq O O (zaq O O (zaq O O ?_))));first | refine yJq O O ⟨by omega, by omega⟩ ?_ | refine zaq O O ?_
   refine zaq rfl (zTq (i := 4 * t) O O O O O O O (by omega)) ?_;refine yoq rfl (ysq O O O (hby _ (by omega))) (by first | rfl | kernel_rfl) ?_;first | refine yJq O O ⟨by omega, by omega⟩ ?_ | refine zaq O O ?_
   refine zaq O O (zaq O O (zaq O O ?_));first | refine yJq O O ⟨by omega, by omega⟩ ?_ | refine zaq O O ?_
   first | refine yJq O O ⟨by omega, by omega⟩ ?_ | refine zaq O O ?_
   refine zaq rfl (zTq (i := 4 * t + 1) O O O O O O O (by omega)) ?_;refine yoq rfl (ysq O O O (hby _ (by omega))) (by first | rfl | kernel_rfl) ?_;first | refine yJq O O ⟨by omega, by omega⟩ ?_ | refine zaq O O ?_
   refine zaq O O (zaq O O (zaq O O (zaq O O ?_)));first | refine yJq O O ⟨by omega, by omega⟩ ?_ | refine zaq O O ?_
   first | refine yJq O O ⟨by omega, by omega⟩ ?_ | refine zaq O O ?_
   refine zaq rfl (zTq (i := 4 * t + 2) O O O O O O O (by omega)) ?_;refine yoq rfl (ysq O O O (hby _ (by omega))) (by first | rfl | kernel_rfl) ?_;first | refine yJq O O ⟨by omega, by omega⟩ ?_ | refine zaq O O ?_
   refine zaq O O (zaq O O (zaq O O (zaq O O ?_)));first | refine yJq O O ⟨by omega, by omega⟩ ?_ | refine zaq O O ?_
   first | refine yJq O O ⟨by omega, by omega⟩ ?_ | refine zaq O O ?_
   refine zaq rfl (zTq (i := 4 * t + 3) O O O O O O O (by omega)) ?_;refine yoq rfl (ysq O O O (hby _ (by omega))) (by first | rfl | kernel_rfl) ?_;first | refine yJq O O ⟨by omega, by omega⟩ ?_ | refine zaq O O ?_
   refine zaq O O (zaq rfl (zsq (i := t) O O O O O O (by omega)) ?_);refine yoq rfl (q3q O O O O O (qnq h0 O O) rfl) (by first | rfl | kernel_rfl) ?_;refine j4q ?_;refine z8q (jCq ?_);refine k1q (by intro h; cases h) ?_;refine vFq (z8q (znq ?_));first | refine yAq O O ⟨by omega, by omega⟩ ?_ | refine zbq O O ?_
   refine zbq O O (zVq ?_);refine yIq (t + 1) (by omega) (by omega) (ynq ⟨rfl, rfl, rfl, rfl, trivial⟩ (congrArg (fun L => [(2, 355, W.arr 64 1 L), (0, 352, .arr 8 1 s.l), (1, ty, c)]) (key (wordN (bs (4 * t)) (bs (4 * t + 1)) (bs (4 * t + 2)) (bs (4 * t + 3))) ?_)) rfl);have hb : Nat.blt (yxq bs t).length 16 = true := by rw [hl]; simpa [Nat.blt_eq] using ht2
   unfold xeq;rw [hb];simp only [hl]
  ·have ht2 : ¬ t < 16 := by have := ltI_not.1 hc2; omega
   have hA : ∀ k, k < t -> ((pad0 (yxq bs t) 64).map wd)[0 + k * 1]? = some (wd ((yxq bs t).getD k 0)) := fun k hk => by
    rw [Nat.zero_add, Nat.mul_one]; exact pad0_at (by omega)
   refine qkq (z8q (zLq (q8q (zaq O O (qgq (t - 15) O O (by first | rfl | omega) ⟨by omega, by omega⟩ ?_)))));refine zaq rfl (zsq (i := t - 15) O O O O O O (by omega)) ?_;refine yoq rfl (ysq O O O (yQq (hA (t - 15) (by omega)) rfl)) (by first | rfl | kernel_rfl) ?_;refine zaq O O (qgq (t - 2) O O (by first | rfl | omega) ⟨by omega, by omega⟩ ?_);refine zaq rfl (zsq (i := t - 2) O O O O O O (by omega)) ?_;refine yoq rfl (ysq O O O (yQq (hA (t - 2) (by omega)) rfl)) (by first | rfl | kernel_rfl) ?_;refine zaq O O (zaq O O (j4q ?_));refine z8q (q8q (zaq O O (zaq O O (qgq (t - 16) O O (by first | rfl | omega) ⟨by omega, by omega⟩ ?_))));refine zaq rfl (zsq (i := t - 16) O O O O O O (by omega)) ?_;refine yoq rfl (ysq O O O (yQq (hA (t - 16) (by omega)) rfl)) (by first | rfl | kernel_rfl) ?_;refine zaq O O ?_
   (refine yuq rfl (yZq O O O O (jpq _ (by decide) _ _) O ?_); rintro w hp1 nw1 ⟨rfl, rfl, rfl⟩; first | refine ⟨rfl, rfl, ?_⟩ | refine ⟨rfl, ?_⟩)
   refine zaq O O ?_
   (refine yuq rfl (yZq O O O O (jpq _ (by decide) _ _) O ?_); rintro w hp1 nw1 ⟨rfl, rfl, rfl⟩; first | refine ⟨rfl, rfl, ?_⟩ | refine ⟨rfl, ?_⟩)
   refine zaq O O (zaq O O (zaq O O (zaq O O ?_)));first | refine yJq O O ⟨by omega, by omega⟩ ?_ | refine zaq O O ?_
   refine zaq O O (qgq (t - 7) O O (by first | rfl | omega) ⟨by omega, by omega⟩ ?_);refine zaq rfl (zsq (i := t - 7) O O O O O O (by omega)) ?_;refine yoq rfl (ysq O O O (yQq (hA (t - 7) (by omega)) rfl)) (by first | rfl | kernel_rfl) ?_;first | refine yJq O O ⟨by omega, by omega⟩ ?_ | refine zaq O O ?_
   refine zaq O O ?_
   (refine yuq rfl (yZq O O O O (jpq _ (by decide) _ _) O ?_); rintro w hp1 nw1 ⟨rfl, rfl, rfl⟩; first | refine ⟨rfl, rfl, ?_⟩ | refine ⟨rfl, ?_⟩)
   refine zaq O O ?_
   (refine yuq rfl (yZq O O O O (jpq _ (by decide) _ _) O ?_); rintro w hp1 nw1 ⟨rfl, rfl, rfl⟩; first | refine ⟨rfl, rfl, ?_⟩ | refine ⟨rfl, ?_⟩)
   refine zaq O O (zaq O O (zaq O O (zaq O O ?_)));first | refine yJq O O ⟨by omega, by omega⟩ ?_ | refine zaq O O ?_
   refine zaq rfl (zsq (i := t) O O O O O O (by omega)) ?_;refine yoq rfl (q3q O O O O O (qnq h0 O O) rfl) (by first | rfl | kernel_rfl) ?_;refine j4q ?_;refine jeq (by intro i h; cases h) ?_;refine z8q (znq ?_);first | refine yAq O O ⟨by omega, by omega⟩ ?_ | refine zbq O O ?_
   refine zbq O O (zVq ?_);refine yIq (t + 1) (by omega) (by omega) (ynq ⟨rfl, rfl, rfl, rfl, trivial⟩ (congrArg (fun L => [(2, 355, W.arr 64 1 L), (0, 352, .arr 8 1 s.l), (1, ty, c)]) (key (addN (addN (addN ((yxq bs t).getD (t - 16) 0) (xorN (xorN (rotN ((yxq bs t).getD (t - 15) 0) 7) (rotN ((yxq bs t).getD (t - 15) 0) 18)) (shrN ((yxq bs t).getD (t - 15) 0) 3))) ((yxq bs t).getD (t - 7) 0)) (xorN (xorN (rotN ((yxq bs t).getD (t - 2) 0) 17) (rotN ((yxq bs t).getD (t - 2) 0) 19)) (shrN ((yxq bs t).getD (t - 2) 0) 10))) ?_)) rfl)
   have hb : Nat.blt (yxq bs t).length 16 = false := by
    cases hq : Nat.blt (yxq bs t).length 16 with
    | true => exact absurd (blt_t hq) (by omega)
    | false => rfl
   unfold xeq;rw [hb];simp only [hl]
 ·obtain rfl : t = 64 := by have := ltI_not.1 hc1; omega
  have hS : (pad0 (yxq bs 64) 64) = yxq bs 64 := by
   unfold pad0; rw [hl]; simp
  simp only [hS];refine jCq ?_;refine k1q (by intro h; cases h) ?_;refine qTq (by intro h; cases h) ?_;refine vFq (z8q (zLq (znq (zbq O O (zbq O O (zwq O O (zwq O O (zwq O O (zVq ?_)))))))));refine z8q (zLq (zLq (znq (zbq O O (zVq ?_)))));refine z8q (ypq ?_);refine qJq (fun t : Nat => t <= 64) (fun t => [(100, .int .i64 (t : Int)), (8, .ptr 3 0), (4, .ptr 2 0), (0, .ptr 0 0)]) (fun t => [(3, 352, .arr 8 1 (xaq (yxq bs 64) s t).l), (2, 355, .arr 64 1 ((yxq bs 64).map wd)), (0, 352, .arr 8 1 s.l), (1, ty, c)]) (fun _ => 4) (fun _ => R) (fun t => 64 - t) 0 (Nat.zero_le _) ?_ (fun t ht => ?_)
  ·exact ynq ⟨rfl, rfl, rfl, rfl, trivial⟩ O O
  refine zLq (znq (zbq O O (zVq ?_)));refine z8q (zLq ?_);refine jnq rfl (fun hc3 => ?_) (fun hc3 => ?_)
  ·have ht1 : t < 64 := by have := ltI_iff.1 hc3; omega
   have hK : ymq 50 (.arr 64 1 (kW.map wd)) (t * 1) 1 false = some (wd (kW.getD t 0)) := yQq (by rw [Nat.mul_one]; exact u7q (by rw [kW_len]; exact ht1)) rfl;have hW : ymq 50 (.arr 64 1 ((yxq bs 64).map wd)) (0 + t * 1) 1 false = some (wd ((yxq bs 64).getD t 0)) := yQq (by rw [Nat.zero_add, Nat.mul_one]; exact u7q (by omega)) rfl;refine qkq (z8q (zLq (ypq (zLq (znq (zbq O O (zbq O O (zVq ?_))))))));refine z8q (zLq (q8q ?_));first | refine zaq O O ?_ | refine zaq rfl (zTq O O O O O O O (by omega)) ?_ | refine zaq rfl (zsq O O O O O O (by omega)) ?_ | refine zaq rfl (zBq O O O O O O O (by first | assumption | (simp; done))) ?_
   refine yKq O O ?_;first | refine zaq O O ?_ | refine zaq rfl (zTq O O O O O O O (by omega)) ?_ | refine zaq rfl (zsq O O O O O O (by omega)) ?_ | refine zaq rfl (zBq O O O O O O O (by first | assumption | (simp; done))) ?_
   refine yKq O O ?_;first | refine zaq O O ?_ | refine zaq rfl (zTq O O O O O O O (by omega)) ?_ | refine zaq rfl (zsq O O O O O O (by omega)) ?_ | refine zaq rfl (zBq O O O O O O O (by first | assumption | (simp; done))) ?_
   refine yKq O O ?_;first | refine zaq O O ?_ | refine zaq rfl (zTq O O O O O O O (by omega)) ?_ | refine zaq rfl (zsq O O O O O O (by omega)) ?_ | refine zaq rfl (zBq O O O O O O O (by first | assumption | (simp; done))) ?_
   refine yKq O O ?_;first | refine zaq O O ?_ | refine zaq rfl (zTq O O O O O O O (by omega)) ?_ | refine zaq rfl (zsq O O O O O O (by omega)) ?_ | refine zaq rfl (zBq O O O O O O O (by first | assumption | (simp; done))) ?_
   refine yKq O O ?_;first | refine zaq O O ?_ | refine zaq rfl (zTq O O O O O O O (by omega)) ?_ | refine zaq rfl (zsq O O O O O O (by omega)) ?_ | refine zaq rfl (zBq O O O O O O O (by first | assumption | (simp; done))) ?_
   refine yKq O O ?_;refine zaq O O (zaq O O (zaq O O (zaq O O (zaq O O (zaq O O (j4q ?_))))));refine z8q (zLq (q8q ?_));first | refine zaq O O ?_ | refine zaq rfl (zTq O O O O O O O (by omega)) ?_ | refine zaq rfl (zsq O O O O O O (by omega)) ?_ | refine zaq rfl (zBq O O O O O O O (by first | assumption | (simp; done))) ?_
   refine yKq O O ?_;refine zaq O O ?_
   (refine yuq rfl (yZq O O O O (jpq _ (by decide) _ _) O ?_); rintro w hp1 nw1 ⟨rfl, rfl, rfl⟩; first | refine ⟨rfl, rfl, ?_⟩ | refine ⟨rfl, ?_⟩)
   refine zaq O O ?_
   (refine yuq rfl (yZq O O O O (jpq _ (by decide) _ _) O ?_); rintro w hp1 nw1 ⟨rfl, rfl, rfl⟩; first | refine ⟨rfl, rfl, ?_⟩ | refine ⟨rfl, ?_⟩)
   refine zaq O O (zaq O O ?_)
   (refine yuq rfl (yZq O O O O (jpq _ (by decide) _ _) O ?_); rintro w hp1 nw1 ⟨rfl, rfl, rfl⟩; first | refine ⟨rfl, rfl, ?_⟩ | refine ⟨rfl, ?_⟩)
   refine zaq O O ?_;first | refine yJq O O ⟨by omega, by omega⟩ ?_ | refine zaq O O ?_
   refine zaq O O (zaq O O (zaq O O (zaq O O (zaq O O (zaq O O (zaq O O (zaq O O ?_)))))));first | refine yJq O O ⟨by omega, by omega⟩ ?_ | refine zaq O O ?_
   refine zaq O O (zaq rfl (ix_fel (i := t) O O O O O O (by omega) rfl hK) ?_);refine yKq O O ?_;first | refine yJq O O ⟨by omega, by omega⟩ ?_ | refine zaq O O ?_
   refine zaq O O (zaq rfl (zsq (i := t) O O O O O O (by omega)) ?_);refine yoq rfl (ysq O O O hW) (by first | rfl | kernel_rfl) ?_;first | refine yJq O O ⟨by omega, by omega⟩ ?_ | refine zaq O O ?_
   refine zaq O O (j4q ?_);refine z8q (zLq (znq (zbq O O ?_)))
   (refine z2q rfl (yZq O O O O (jpq _ (by decide) _ _) O ?_); rintro w hp1 nw1 ⟨rfl, rfl, rfl⟩; first | refine ⟨rfl, rfl, ?_⟩ | refine ⟨rfl, ?_⟩)
   refine zbq O O ?_
   (refine z2q rfl (yZq O O O O (jpq _ (by decide) _ _) O ?_); rintro w hp1 nw1 ⟨rfl, rfl, rfl⟩; first | refine ⟨rfl, rfl, ?_⟩ | refine ⟨rfl, ?_⟩)
   refine zbq O O (zbq O O ?_)
   (refine z2q rfl (yZq O O O O (jpq _ (by decide) _ _) O ?_); rintro w hp1 nw1 ⟨rfl, rfl, rfl⟩; first | refine ⟨rfl, rfl, ?_⟩ | refine ⟨rfl, ?_⟩)
   refine zbq O O (zbq O O (zbq O O (zbq O O (zbq O O (zbq O O (zbq O O (zbq O O (zbq O O (zbq O O (zbq O O (zbq O O ?_)))))))))));first | refine yAq O O ⟨by omega, by omega⟩ ?_ | refine zbq O O ?_
   refine zbq O O (zVq ?_);refine z8q (znq (zbq O O (zbq O O ?_)));first | refine yAq O O ⟨by omega, by omega⟩ ?_ | refine zbq O O ?_
   refine zbq O O (zbq O O (zbq O O ?_));first | refine zbq O O ?_ | refine zbq rfl (zTq O O O O O O O (by omega)) ?_ | refine zbq rfl (zsq O O O O O O (by omega)) ?_ | refine zbq rfl (zBq O O O O O O O (by first | assumption | (simp; done))) ?_
   refine zwq O O (zbq O O ?_);first | refine yAq O O ⟨by omega, by omega⟩ ?_ | refine zbq O O ?_
   refine zbq O O (zbq O O (zbq O O (zbq O O (zwq O O (zVq ?_)))));refine jeq (by intro i h; cases h) ?_;refine z8q (znq ?_);first | refine yAq O O ⟨by omega, by omega⟩ ?_ | refine zbq O O ?_
   refine zbq O O (zVq ?_);refine yIq (t + 1) (by omega) (by omega) (ynq ⟨rfl, rfl, rfl, rfl, trivial⟩ O O)
  ·obtain rfl : t = 64 := by have := ltI_not.1 hc3; omega
   refine jCq ?_;refine k1q (by intro h; cases h) ?_;refine qTq (by intro h; cases h) ?_;refine vFq (z8q (zLq (znq (zbq O O (zVq ?_)))));refine z8q (ypq ?_);refine qJq (fun i : Nat => i <= 8) (fun i => [(178, .int .i64 (i : Int)), (8, .ptr 3 0), (0, .ptr 0 0)]) (fun i => [(3, 352, .arr 8 1 (xaq (yxq bs 64) s 64).l), (0, 352, .arr 8 1 (mix8 s (xaq (yxq bs 64) s 64) i)), (1, ty, c)]) (fun _ => 4) (fun _ => R) (fun i => 8 - i) 0 (Nat.zero_le _) ?_ (fun i hi => ?_)
   ·exact (ent_del (b := 2)).trans (ynq ⟨rfl, rfl, rfl, trivial⟩ O O)
   refine zLq (znq (zbq O O (zVq ?_)));refine z8q (zLq ?_);refine jnq rfl (fun hc4 => ?_) (fun hc4 => ?_)
   ·have hi1 : i < 8 := by have := ltI_iff.1 hc4; omega
    have hq : i = 0 \/ i = 1 \/ i = 2 \/ i = 3 \/ i = 4 \/ i = 5 \/ i = 6 \/ i = 7 := by omega
    skip
    rcases hq with rfl | rfl | rfl | rfl | rfl | rfl | rfl | rfl
    ·skip
     refine qkq (z8q (zLq (ypq (zLq (znq (zbq O O (zbq O O (zVq ?_))))))));refine z8q (q8q (zaq O O (zaq O O (zaq O O ?_))));first | refine zaq O O ?_ | refine zaq rfl (zTq O O O O O O O (by omega)) ?_ | refine zaq rfl (zsq O O O O O O (by omega)) ?_ | refine zaq rfl (zBq O O O O O O O (by first | assumption | (simp; done))) ?_
     refine yKq O O ?_;refine zaq O O ?_;first | refine zaq O O ?_ | refine zaq rfl (zTq O O O O O O O (by omega)) ?_ | refine zaq rfl (zsq O O O O O O (by omega)) ?_ | refine zaq rfl (zBq O O O O O O O (by first | assumption | (simp; done))) ?_
     refine yKq O O ?_;first | refine yJq O O ⟨by omega, by omega⟩ ?_ | refine zaq O O ?_
     refine zaq O O ?_;first | refine zaq O O ?_ | refine zaq rfl (zTq O O O O O O O (by omega)) ?_ | refine zaq rfl (zsq O O O O O O (by omega)) ?_ | refine zaq rfl (zBq O O O O O O O (by first | assumption | (simp; done))) ?_
     refine yKq O O ?_;refine j4q ?_;refine jeq (by intro i h; cases h) ?_;refine z8q (znq ?_);first | refine yAq O O ⟨by omega, by omega⟩ ?_ | refine zbq O O ?_
     refine zbq O O (zVq ?_);exact yIq 1 (by decide) (by decide) (ynq ⟨rfl, rfl, rfl, trivial⟩ O O)
    ·skip
     refine qkq (z8q (zLq (ypq (zLq (znq (zbq O O (zbq O O (zVq ?_))))))));refine z8q (q8q (zaq O O (zaq O O (zaq O O ?_))));first | refine zaq O O ?_ | refine zaq rfl (zTq O O O O O O O (by omega)) ?_ | refine zaq rfl (zsq O O O O O O (by omega)) ?_ | refine zaq rfl (zBq O O O O O O O (by first | assumption | (simp; done))) ?_
     refine yKq O O ?_;refine zaq O O ?_;first | refine zaq O O ?_ | refine zaq rfl (zTq O O O O O O O (by omega)) ?_ | refine zaq rfl (zsq O O O O O O (by omega)) ?_ | refine zaq rfl (zBq O O O O O O O (by first | assumption | (simp; done))) ?_
     refine yKq O O ?_;first | refine yJq O O ⟨by omega, by omega⟩ ?_ | refine zaq O O ?_
     refine zaq O O ?_;first | refine zaq O O ?_ | refine zaq rfl (zTq O O O O O O O (by omega)) ?_ | refine zaq rfl (zsq O O O O O O (by omega)) ?_ | refine zaq rfl (zBq O O O O O O O (by first | assumption | (simp; done))) ?_
     refine yKq O O ?_;refine j4q ?_;refine jeq (by intro i h; cases h) ?_;refine z8q (znq ?_);first | refine yAq O O ⟨by omega, by omega⟩ ?_ | refine zbq O O ?_
     refine zbq O O (zVq ?_);exact yIq 2 (by decide) (by decide) (ynq ⟨rfl, rfl, rfl, trivial⟩ O O)
    ·skip
     refine qkq (z8q (zLq (ypq (zLq (znq (zbq O O (zbq O O (zVq ?_))))))));refine z8q (q8q (zaq O O (zaq O O (zaq O O ?_))));first | refine zaq O O ?_ | refine zaq rfl (zTq O O O O O O O (by omega)) ?_ | refine zaq rfl (zsq O O O O O O (by omega)) ?_ | refine zaq rfl (zBq O O O O O O O (by first | assumption | (simp; done))) ?_
     refine yKq O O ?_;refine zaq O O ?_;first | refine zaq O O ?_ | refine zaq rfl (zTq O O O O O O O (by omega)) ?_ | refine zaq rfl (zsq O O O O O O (by omega)) ?_ | refine zaq rfl (zBq O O O O O O O (by first | assumption | (simp; done))) ?_
     refine yKq O O ?_;first | refine yJq O O ⟨by omega, by omega⟩ ?_ | refine zaq O O ?_
     refine zaq O O ?_;first | refine zaq O O ?_ | refine zaq rfl (zTq O O O O O O O (by omega)) ?_ | refine zaq rfl (zsq O O O O O O (by omega)) ?_ | refine zaq rfl (zBq O O O O O O O (by first | assumption | (simp; done))) ?_
     refine yKq O O ?_;refine j4q ?_;refine jeq (by intro i h; cases h) ?_;refine z8q (znq ?_);first | refine yAq O O ⟨by omega, by omega⟩ ?_ | refine zbq O O ?_
     refine zbq O O (zVq ?_);exact yIq 3 (by decide) (by decide) (ynq ⟨rfl, rfl, rfl, trivial⟩ O O)
    ·skip
     refine qkq (z8q (zLq (ypq (zLq (znq (zbq O O (zbq O O (zVq ?_))))))));refine z8q (q8q (zaq O O (zaq O O (zaq O O ?_))));first | refine zaq O O ?_ | refine zaq rfl (zTq O O O O O O O (by omega)) ?_ | refine zaq rfl (zsq O O O O O O (by omega)) ?_ | refine zaq rfl (zBq O O O O O O O (by first | assumption | (simp; done))) ?_
     refine yKq O O ?_;refine zaq O O ?_;first | refine zaq O O ?_ | refine zaq rfl (zTq O O O O O O O (by omega)) ?_ | refine zaq rfl (zsq O O O O O O (by omega)) ?_ | refine zaq rfl (zBq O O O O O O O (by first | assumption | (simp; done))) ?_
     refine yKq O O ?_;first | refine yJq O O ⟨by omega, by omega⟩ ?_ | refine zaq O O ?_
     refine zaq O O ?_;first | refine zaq O O ?_ | refine zaq rfl (zTq O O O O O O O (by omega)) ?_ | refine zaq rfl (zsq O O O O O O (by omega)) ?_ | refine zaq rfl (zBq O O O O O O O (by first | assumption | (simp; done))) ?_
     refine yKq O O ?_;refine j4q ?_;refine jeq (by intro i h; cases h) ?_;refine z8q (znq ?_);first | refine yAq O O ⟨by omega, by omega⟩ ?_ | refine zbq O O ?_
     refine zbq O O (zVq ?_);exact yIq 4 (by decide) (by decide) (ynq ⟨rfl, rfl, rfl, trivial⟩ O O)
    ·skip
     refine qkq (z8q (zLq (ypq (zLq (znq (zbq O O (zbq O O (zVq ?_))))))));refine z8q (q8q (zaq O O (zaq O O (zaq O O ?_))));first | refine zaq O O ?_ | refine zaq rfl (zTq O O O O O O O (by omega)) ?_ | refine zaq rfl (zsq O O O O O O (by omega)) ?_ | refine zaq rfl (zBq O O O O O O O (by first | assumption | (simp; done))) ?_
     refine yKq O O ?_;refine zaq O O ?_;first | refine zaq O O ?_ | refine zaq rfl (zTq O O O O O O O (by omega)) ?_ | refine zaq rfl (zsq O O O O O O (by omega)) ?_ | refine zaq rfl (zBq O O O O O O O (by first | assumption | (simp; done))) ?_
     refine yKq O O ?_;first | refine yJq O O ⟨by omega, by omega⟩ ?_ | refine zaq O O ?_
     refine zaq O O ?_;first | refine zaq O O ?_ | refine zaq rfl (zTq O O O O O O O (by omega)) ?_ | refine zaq rfl (zsq O O O O O O (by omega)) ?_ | refine zaq rfl (zBq O O O O O O O (by first | assumption | (simp; done))) ?_
     refine yKq O O ?_;refine j4q ?_;refine jeq (by intro i h; cases h) ?_;refine z8q (znq ?_);first | refine yAq O O ⟨by omega, by omega⟩ ?_ | refine zbq O O ?_
     refine zbq O O (zVq ?_);exact yIq 5 (by decide) (by decide) (ynq ⟨rfl, rfl, rfl, trivial⟩ O O)
    ·skip
     refine qkq (z8q (zLq (ypq (zLq (znq (zbq O O (zbq O O (zVq ?_))))))));refine z8q (q8q (zaq O O (zaq O O (zaq O O ?_))));first | refine zaq O O ?_ | refine zaq rfl (zTq O O O O O O O (by omega)) ?_ | refine zaq rfl (zsq O O O O O O (by omega)) ?_ | refine zaq rfl (zBq O O O O O O O (by first | assumption | (simp; done))) ?_
     refine yKq O O ?_;refine zaq O O ?_;first | refine zaq O O ?_ | refine zaq rfl (zTq O O O O O O O (by omega)) ?_ | refine zaq rfl (zsq O O O O O O (by omega)) ?_ | refine zaq rfl (zBq O O O O O O O (by first | assumption | (simp; done))) ?_
     refine yKq O O ?_;first | refine yJq O O ⟨by omega, by omega⟩ ?_ | refine zaq O O ?_
     refine zaq O O ?_;first | refine zaq O O ?_ | refine zaq rfl (zTq O O O O O O O (by omega)) ?_ | refine zaq rfl (zsq O O O O O O (by omega)) ?_ | refine zaq rfl (zBq O O O O O O O (by first | assumption | (simp; done))) ?_
     refine yKq O O ?_;refine j4q ?_;refine jeq (by intro i h; cases h) ?_;refine z8q (znq ?_);first | refine yAq O O ⟨by omega, by omega⟩ ?_ | refine zbq O O ?_
     refine zbq O O (zVq ?_);exact yIq 6 (by decide) (by decide) (ynq ⟨rfl, rfl, rfl, trivial⟩ O O)
    ·skip
     refine qkq (z8q (zLq (ypq (zLq (znq (zbq O O (zbq O O (zVq ?_))))))));refine z8q (q8q (zaq O O (zaq O O (zaq O O ?_))));first | refine zaq O O ?_ | refine zaq rfl (zTq O O O O O O O (by omega)) ?_ | refine zaq rfl (zsq O O O O O O (by omega)) ?_ | refine zaq rfl (zBq O O O O O O O (by first | assumption | (simp; done))) ?_
     refine yKq O O ?_;refine zaq O O ?_;first | refine zaq O O ?_ | refine zaq rfl (zTq O O O O O O O (by omega)) ?_ | refine zaq rfl (zsq O O O O O O (by omega)) ?_ | refine zaq rfl (zBq O O O O O O O (by first | assumption | (simp; done))) ?_
     refine yKq O O ?_;first | refine yJq O O ⟨by omega, by omega⟩ ?_ | refine zaq O O ?_
     refine zaq O O ?_;first | refine zaq O O ?_ | refine zaq rfl (zTq O O O O O O O (by omega)) ?_ | refine zaq rfl (zsq O O O O O O (by omega)) ?_ | refine zaq rfl (zBq O O O O O O O (by first | assumption | (simp; done))) ?_
     refine yKq O O ?_;refine j4q ?_;refine jeq (by intro i h; cases h) ?_;refine z8q (znq ?_);first | refine yAq O O ⟨by omega, by omega⟩ ?_ | refine zbq O O ?_
     refine zbq O O (zVq ?_);exact yIq 7 (by decide) (by decide) (ynq ⟨rfl, rfl, rfl, trivial⟩ O O)
    ·skip
     refine qkq (z8q (zLq (ypq (zLq (znq (zbq O O (zbq O O (zVq ?_))))))));refine z8q (q8q (zaq O O (zaq O O (zaq O O ?_))));first | refine zaq O O ?_ | refine zaq rfl (zTq O O O O O O O (by omega)) ?_ | refine zaq rfl (zsq O O O O O O (by omega)) ?_ | refine zaq rfl (zBq O O O O O O O (by first | assumption | (simp; done))) ?_
     refine yKq O O ?_;refine zaq O O ?_;first | refine zaq O O ?_ | refine zaq rfl (zTq O O O O O O O (by omega)) ?_ | refine zaq rfl (zsq O O O O O O (by omega)) ?_ | refine zaq rfl (zBq O O O O O O O (by first | assumption | (simp; done))) ?_
     refine yKq O O ?_;first | refine yJq O O ⟨by omega, by omega⟩ ?_ | refine zaq O O ?_
     refine zaq O O ?_;first | refine zaq O O ?_ | refine zaq rfl (zTq O O O O O O O (by omega)) ?_ | refine zaq rfl (zsq O O O O O O (by omega)) ?_ | refine zaq rfl (zBq O O O O O O O (by first | assumption | (simp; done))) ?_
     refine yKq O O ?_;refine j4q ?_;refine jeq (by intro i h; cases h) ?_;refine z8q (znq ?_);first | refine yAq O O ⟨by omega, by omega⟩ ?_ | refine zbq O O ?_
     refine zbq O O (zVq ?_);exact yIq 8 (by decide) (by decide) (ynq ⟨rfl, rfl, rfl, trivial⟩ O O)
   ·obtain rfl : i = 8 := by have := ltI_not.1 hc4; omega
    refine jCq ?_;refine k1q (by intro h; cases h) ?_;refine qTq (by intro h; cases h) ?_;refine vFq ?_;refine fin (.inl rfl) (xqq (fr2 := []) (hp2 := [(0, 352, .arr 8 1 (jfq bs s).l), (1, ty, c)]) (nw2 := 2) (by omega) (by omega) trivial rfl (kwq ⟨⟨by omega, rfl, rfl⟩, ⟨by omega, rfl, hc⟩, trivial⟩) (by simp)) rfl ⟨rfl, rfl, rfl, rfl⟩
end
section
attribute [local irreducible] CoW OpW FlW Step Spec
noncomputable def atL (r : List Nat) (i : Nat) : Nat := r.getD i 0
noncomputable def eat : Nat -> S8 -> List Nat -> S8 × List Nat
 | 0, s, r => (s, r)
 | n + 1, s, r => match Nat.ble 64 r.length with
  | true => eat n (jfq (atL r) s) (r.drop 64)
  | false => (s, r)
theorem jIq : ∀ (n : Nat) (s : S8) (r : List Nat), r.length < 64 -> eat n s r = (s, r)
 | 0, _, _, _ => rfl
 | n + 1, s, r, h => by
  have : Nat.ble 64 r.length = false := by
   cases hq : Nat.ble 64 r.length with
   | true => have := Ob hq; omega
   | false => rfl
  simp only [eat, this]
theorem Qiq {n : Nat} {s : S8} {r : List Nat} (h : 64 <= r.length) : eat (n + 1) s r = eat n (jfq (atL r) s) (r.drop 64) := by
 simp only [eat, Nat.ble_eq_true_of_le h]
theorem eat_fuel : ∀ (n m : Nat) (s : S8) (r : List Nat), r.length <= n -> r.length <= m -> eat n s r = eat m s r
 | 0, m, s, r, h, _ => by rw [jIq m s r (by omega)]; rfl
 | n + 1, 0, s, r, _, h => by rw [jIq _ s r (by omega)]; rfl
 | n + 1, m + 1, s, r, h1, h2 => by
  by_cases h : 64 <= r.length
  ·rw [Qiq h, Qiq h];exact eat_fuel n m _ _ (by simp; omega) (by simp; omega)
  ·rw [jIq _ s r (by omega), jIq _ s r (by omega)]
noncomputable def eats (s : S8) (r : List Nat) : S8 × List Nat := eat r.length s r
theorem Zwq {s : S8} {r : List Nat} (h : 64 <= r.length) : eats s r = eats (jfq (atL r) s) (r.drop 64) := by
 unfold eats;obtain ⟨n, hn⟩ : ∃ n, r.length = n + 1 := ⟨r.length - 1, by omega⟩
 rw [hn, Qiq h];exact eat_fuel _ _ _ _ (by simp; omega) (Nat.le_refl _)
noncomputable def xtq (a : S8 × List Nat) (p : List Nat) : S8 × List Nat := eats a.1 (a.2 ++ p)
noncomputable def s0 : S8 := ⟨1779033703, 3144134277, 1013904242, 2773480762, 1359893119, 2600822924, 528734635, 1541459225⟩
noncomputable def padZ : Nat -> List Nat -> List Nat
 | 0, r => r
 | n + 1, r => match Nat.beq (r.length % 64) 56 with
  | true => r
  | false => padZ n (r ++ [0])
noncomputable def len8 (many : Nat) : List Nat := [56, 48, 40, 32, 24, 16, 8, 0].map fun i => Nat.shiftRight (8 * many % 18446744073709551616) i % 256
noncomputable def qOq : Nat -> S8 -> List Nat -> S8
 | 0, s, _ => s
 | n + 1, s, r => match Nat.ble 1 r.length with
  | true => qOq n (jfq (atL r) s) (r.drop 64)
  | false => s
theorem jNq : ∀ (n : Nat) (s : S8), qOq n s [] = s
 | 0, _ => rfl
 | n + 1, s => rfl
theorem ucq {n : Nat} {s : S8} {r : List Nat} (h : 1 <= r.length) : qOq (n + 1) s r = qOq n (jfq (atL r) s) (r.drop 64) := by
 simp only [qOq, Nat.ble_eq_true_of_le h]
theorem Zxq : ∀ (n m : Nat) (s : S8) (r : List Nat), r.length <= n -> r.length <= m -> qOq n s r = qOq m s r
 | 0, m, s, r, h, _ => by
  obtain rfl : r = [] := List.length_eq_zero_iff.1 (by omega);rw [jNq, jNq]
 | n + 1, 0, s, r, _, h => by
  obtain rfl : r = [] := List.length_eq_zero_iff.1 (by omega);rw [jNq, jNq]
 | n + 1, m + 1, s, r, h1, h2 => by
  by_cases h : 1 <= r.length
  ·rw [ucq h, ucq h];exact Zxq n m _ _ (by simp; omega) (by simp; omega)
  ·obtain rfl : r = [] := List.length_eq_zero_iff.1 (by omega);rw [jNq, jNq]
theorem ubq {s : S8} {r : List Nat} (h : 1 <= r.length) : qOq r.length s r = qOq (r.drop 64).length (jfq (atL r) s) (r.drop 64) := by
 obtain ⟨n, hn⟩ : ∃ n, r.length = n + 1 := ⟨r.length - 1, by omega⟩
 rw [hn, ucq h];exact Zxq _ _ _ _ (by simp; omega) (Nat.le_refl _)
noncomputable def S8.get (s : S8) : Nat -> Nat
 | 0 => s.a
 | 1 => s.b
 | 2 => s.c
 | 3 => s.d
 | 4 => s.e
 | 5 => s.f
 | 6 => s.g
 | _ => s.h
noncomputable def digN (s : S8) : List Nat := (List.range 32).map fun i => Nat.shiftRight (s.get (i / 4)) (24 - 8 * (i % 4)) % 256
noncomputable def y4q (ps : List (List Nat)) : Nat := (ps.map List.length).foldr (· + ·) 0
noncomputable def shaN (ps : List (List Nat)) : List Nat :=
 let a := ps.foldl xtq (s0, [])
 let r := padZ 64 (a.2 ++ [128]) ++ len8 (y4q ps)
 digN (qOq r.length a.1 r)
inductive Rst where
 | nil
 | sl (all : List Nat) (base off : Nat)
noncomputable def Rst.w : Rst -> W
 | .nil => .nils
 | .sl all base off => .sl 2 base off (all.length - off) 1 none
noncomputable def Rst.hp : Rst -> HpW
 | .nil => []
 | .sl all _ _ => [(2, 5, .arr all.length 1 (bN all))]
noncomputable def Rst.r : Rst -> List Nat
 | .nil => []
 | .sl all _ off => all.drop off
noncomputable def Rst.ok : Rst -> Prop
 | .nil => True
 | .sl all _ off => off <= all.length /\ all.length < 4294967296
noncomputable def Rst.nw : Rst -> Nat
 | .nil => 2
 | .sl _ _ _ => 3
noncomputable def hpS (x : Rst) (d : W) (s : S8) : HpW := x.hp ++ [(1, 352, .arr 8 1 s.l), (0, 23, d)]
noncomputable def jsq : W := .arr 32 1 (List.replicate 32 (.int .u8 0))
noncomputable def Z0q (p : List Nat × Bool) : W := .fz (bN p.1) 1 p.2
theorem app_r (r : Rst) (hr : r.ok) (d : W) (s : S8) (p : List Nat) (f : Bool) (hp : p.length < 2147483648) (h64 : r.r.length < 64) : ∃ w hp' nw ev, appW cfg (hpS r d s) r.nw 88 88 r.w (.fz (bN p) 1 f) = some (w, hp', nw, ev) /\
  ∃ r' : Rst, r'.ok /\ r'.r = r.r ++ p /\ ((w = r'.w /\ hp' = hpS r' d s /\ nw = r'.nw) \/ ∃ all, r' = .sl all 0 0 /\ w = .sl 3 0 0 all.length 1 none /\ hp' = [(3, 5, .arr all.length 1 (bN all)), (1, 352, .arr 8 1 s.l), (0, 23, d)] /\ nw = 4) := by
 cases r with
 | nil => cases p with
  | nil => exact ⟨_, _, _, _, rfl, .nil, trivial, rfl, .inl ⟨rfl, rfl, rfl⟩⟩
  | cons a l =>
   have hl : (bN (a :: l)).length = l.length + 1 := by rw [jXq]; rfl
   have hlt : l.length + 1 < 2147483648 := hp;have hbl : (bN (a :: l)).length * 1 <= 140737488355328 := by omega
   refine ⟨_, _, _, _, ugq (k := ti5) O O O O O (by simp [bN]) hbl (by omega), .sl (a :: l) 0 0, ⟨Nat.zero_le _, by show l.length + 1 < _; omega⟩, rfl, .inl ⟨?_, ?_, rfl⟩⟩
   ·rw [jXq]; rfl
   ·rw [jXq, show (ti5).size = 1 from rfl, Nat.mul_one]; rfl
 | sl all base off =>
  obtain ⟨h1, h2⟩ := hr;cases p with
  | nil => exact ⟨_, _, _, _, rfl, .sl all base off, ⟨h1, h2⟩, by simp, .inl ⟨rfl, rfl, rfl⟩⟩
  | cons a l =>
   have hl : (bN (a :: l)).length = l.length + 1 := by rw [jXq]; rfl
   have hlt : l.length + 1 < 2147483648 := hp;have hbl : (all.length - off + (bN (a :: l)).length) * 1 <= 140737488355328 := by omega
   have hdt : ((bN all).drop off).take (all.length - off) = bN (all.drop off) := by
    rw [List.take_of_length_le (by simp [jXq])]; simp [bN, List.map_drop]
   refine ⟨_, _, _, _, j7q (k := ti5) (v := .arr all.length 1 (bN all)) (off := off) O O O O O (by simp [bN]) hbl (by omega) O ?_ rfl (unq (by omega)), .sl (all.drop off ++ a :: l) 0 0, ⟨Nat.zero_le _, ?_⟩, rfl, .inr ⟨_, rfl, ?_, ?_, rfl⟩⟩
   ·show all.length < off + (all.length - off + (bN (a :: l)).length) * 1;omega
   ·simp only [Rst.r, List.length_drop] at h64; simp only [List.length_append, List.length_drop, List.length_cons]; omega
   ·simp only [hl, List.length_append, List.length_drop, List.length_cons]; rfl
   ·rw [hdt, hl];simp only [List.length_append, List.length_drop, List.length_cons, show (ti5).size = 1 from rfl, Nat.mul_one];rw [show bN (all.drop off) ++ bN (a :: l) = bN (all.drop off ++ a :: l) by simp [bN]];rfl
theorem padZ_spec : ∀ (n j : Nat) (r : List Nat), (∀ i, i < j -> (r.length + i) % 64 ≠ 56) -> (r.length + j) % 64 = 56 -> j <= n -> padZ n r = r ++ List.replicate j 0
 | 0, j, r, _, _, h => by
  obtain rfl : j = 0 := by omega
  simp [padZ]
 | n + 1, 0, r, _, h, _ => by
  have : Nat.beq (r.length % 64) 56 = true := by rw [Nat.beq_eq]; simpa using h
  simp only [padZ, this]; simp
 | n + 1, j + 1, r, h1, h2, h3 => by
  have : Nat.beq (r.length % 64) 56 = false := by
   cases hq : Nat.beq (r.length % 64) 56 with
   | true => rw [Nat.beq_eq] at hq; exact absurd (by simpa using hq) (h1 0 (by omega))
   | false => rfl
  simp only [padZ, this];rw [padZ_spec n j (r ++ [0]) (fun i hi => by simp only [List.length_append, List.length_singleton]; have := h1 (i + 1) (by omega); rwa [show r.length + 1 + i = r.length + (i + 1) by omega]) (by simp only [List.length_append, List.length_singleton]; rwa [show r.length + 1 + j = r.length + (j + 1) by omega]) (by omega)];rw [List.append_assoc]; rfl
theorem S8_at (s : S8) {k : Nat} (h : k < 8) : s.l[0 + k * 1]? = some (wd (s.get k)) := by
 have hq : k = 0 \/ k = 1 \/ k = 2 \/ k = 3 \/ k = 4 \/ k = 5 \/ k = 6 \/ k = 7 := by omega
 rcases hq with rfl | rfl | rfl | rfl | rfl | rfl | rfl | rfl <;> rfl
noncomputable def dI (s : S8) (i : Nat) : List Nat := (digN s).take i ++ List.replicate (32 - i) 0
theorem uJq (s : S8) : (digN s).length = 32 := by simp [digN]
theorem dI_len (s : S8) {i : Nat} (h : i <= 32) : (dI s i).length = 32 := by simp [dI, uJq]; omega
theorem dI_at (s : S8) {i : Nat} (h : i < 32) : (bN (dI s i))[0 + i * 1]? = some (.int .u8 (.ofNat 0)) := by
 rw [Nat.zero_add, Nat.mul_one, bN_at (by rw [dI_len s (by omega)]; exact h)]
 have : (dI s i).getD i 0 = 0 := by
  simp [dI, List.getD, List.getElem?_append, uJq, show min i 32 = i by omega, List.getElem?_replicate, show 0 < 32 - i by omega]
 rw [this]
theorem dI_set (s : S8) {i : Nat} (h : i < 32) : (bN (dI s i)).set (0 + i * 1) (.int .u8 (.ofNat (Nat.shiftRight (s.get (i / 4)) (min (24 - 8 * (i % 4)) 32) % 256))) = bN (dI s (i + 1)) := by
 have e : (digN s).take (i + 1) = (digN s).take i ++ [Nat.shiftRight (s.get (i / 4)) (24 - 8 * (i % 4)) % 256] := by
  rw [List.take_add_one];congr 1
  simp [digN, List.getElem?_map, List.getElem?_range h]
 have hm : min (24 - 8 * (i % 4)) 32 = 24 - 8 * (i % 4) := by omega
 have hl : ((digN s).take i).length = i := by simp [uJq]; omega
 rw [Nat.zero_add, Nat.mul_one, hm];unfold bN;rw [<- List.map_set (f := fun c => W.int .u8 (.ofNat c))];congr 1
 unfold dI;rw [e, show 32 - i = (32 - (i + 1)) + 1 by omega, List.replicate_succ, List.set_append_right _ _ (by omega), hl, Nat.sub_self, List.set_cons_zero, List.append_assoc];rfl
theorem mid1 (L : List Nat) (c : Nat) : some (W.sl 4 0 0 (L.length + (bN [c]).length) 1 none) = some (renW (tau1 2 4) (W.sl 2 0 0 (L ++ [c]).length 1 none)) := by
 rw [List.length_append]; rfl
theorem mid2 (L : List Nat) (c : Nat) : some (5, W.arr ((L.length + (bN [c]).length) * 1) 1 (((bN L).drop 0).take L.length ++ bN [c])) = some (5, renW (tau1 2 4) (W.arr (L ++ [c]).length 1 (bN (L ++ [c])))) := by
 rw [yfq (show purW (.arr (L ++ [c]).length 1 (bN (L ++ [c]))) = true from vCq _), List.drop_zero, List.take_of_length_le (by rw [jXq]; exact Nat.le_refl _), Nat.mul_one, List.length_append];simp [bN]
theorem parts_pur : ∀ ps : List (List Nat × Bool), purL (ps.map Z0q) = true
 | [] => rfl
 | p :: ps => by simp only [List.map_cons, purL, Z0q, purW, vCq, Bool.true_and]; exact parts_pur ps
set_option maxHeartbeats 1600000 in
theorem of_s (ps : List (List Nat × Bool)) (fl : Bool) (hb : y4q (ps.map (·.1)) < 2147483648) (hpn : ps.length < 2147483648) (R : Res) :
  Spec cfg glK 218 0 [.fz (ps.map Z0q) 1 fl] [] R fun w hp nw R' => R' = R /\ w = .arr 32 1 (bN (shaN (ps.map (·.1)))) := by
 refine yqq (fn := Tryz.f218) O O O (Ob rfl) (fun k0 => ?_);refine zLq (znq (zwq O O (zVq ?_)));refine z8q (zLq (znq (zbq O O (zwq O O (zwq O O (zVq ?_))))));refine z8q (zLq (znq (zbq O O (zVq ?_))));refine z8q (zLq (znq (zbq O O (zVq ?_))));refine z8q (zLq (zLq (znq (zbq O O (zbq O O (zbq O O (zVq ?_)))))));refine z8q (ypq ?_);refine qJq (α := Nat × S8 × Rst) (fun a => a.1 <= ps.length /\ a.2.2.ok /\ (a.2.1, a.2.2.r) = ((ps.map (·.1)).take a.1).foldl xtq (s0, []) /\ a.2.2.r.length < 64) (fun a => [(13, .int .i64 (a.1 : Int)), (12, .int .i64 (ps.length : Int)), (11, .fz (ps.map Z0q) 1 fl), (5, .int .u64 (y4q ((ps.map (·.1)).take a.1) : Int)), (4, a.2.2.w), (3, .ptr 1 0), (2, .ptr 0 0)]) (fun a => hpS a.2.2 jsq a.2.1) (fun a => a.2.2.nw) (fun _ => R) (fun a => ps.length - a.1) (0, s0, .nil) ⟨Nat.zero_le _, trivial, rfl, by decide⟩ ?_ (fun a ha => ?_)
 ·exact ynq ⟨rfl, by simp [getW, putW], rfl, rfl, rfl, rfl, rfl, trivial⟩ O O
 have hPp : purW (.fz (ps.map Z0q) 1 fl) = true := parts_pur ps;obtain ⟨i, s, r⟩ := a;obtain ⟨hi, hok, hfold, hr64⟩ := ha;refine zLq (znq (zbq O O (zVq ?_)));refine z8q (zLq ?_);refine jnq rfl (fun hc1 => ?_) (fun hc1 => ?_)
 ·simp only at hi hok hfold hr64;have hi1 : i < ps.length := by have := ltI_iff.1 hc1; simp only at this; omega
  obtain ⟨p, hp⟩ : ∃ p, ps[i]? = some p := ⟨_, List.getElem?_eq_getElem hi1⟩
  have hpw : (ps.map Z0q)[i]? = some (.fz (bN p.1) 1 p.2) := by rw [List.getElem?_map, hp]; rfl
  have htk : (ps.map (·.1)).take (i + 1) = (ps.map (·.1)).take i ++ [p.1] := by
   rw [List.take_add_one, List.getElem?_map, hp]; rfl
  have htot : ∀ l r : List (List Nat), y4q (l ++ r) = y4q l + y4q r := fun l r => by
   unfold y4q;induction l with
   | nil => simp
   | cons x l ih => simp only [List.cons_append, List.map_cons, List.foldr_cons, ih]; omega
  have ht1 : y4q ((ps.map (·.1)).take (i + 1)) = y4q ((ps.map (·.1)).take i) + p.1.length := by rw [htk, htot]; simp [y4q]
  have htle : y4q ((ps.map (·.1)).take (i + 1)) <= y4q (ps.map (·.1)) := by
   have := htot ((ps.map (·.1)).take (i + 1)) ((ps.map (·.1)).drop (i + 1));rw [List.take_append_drop] at this; omega
  have hpl : p.1.length < 2147483648 := by omega
  refine qkq (z8q (zLq (ypq (zLq (znq (zbq rfl (zBq (i := i) O O O O O O O hpw) (zwq O O (zbq O O (zVq ?_)))))))));refine z8q (zLq (znq (zbq O O (zbq O O (zkq O O (show _ = W.int .i64 (p.1.length : Int) by first | rfl | (simp [jXq]; done) | (simp [jXq]; rfl)) ?_)))));refine zoq (p.1.length) O O (by first | rfl | omega) ⟨by omega, by omega⟩ ?_;refine zoq (y4q ((ps.map (·.1)).take i) + p.1.length) O O (by first | rfl | omega) ⟨by omega, by omega⟩ ?_;refine zbq O O (zVq ?_);refine z8q ?_;refine co_cut (α := Rst) (fun r' => r'.ok /\ r'.r = r.r ++ p.1) (fun r' => [(13, .int .i64 (i : Int)), (12, .int .i64 (ps.length : Int)), (11, .fz (ps.map Z0q) 1 fl), (5, .int .u64 (y4q ((ps.map (·.1)).take (i + 1)) : Int)), (4, r'.w), (3, .ptr 1 0), (2, .ptr 0 0)]) (fun r' => hpS r' jsq s) (fun r' => r'.nw) ?_ (fun a ha => ?_)
  ·obtain ⟨w, hp', nw', ev, e1, r', e2, e3, e4⟩ := app_r r hok jsq s p.1 p.2 hpl hr64;refine znq (zbq O O (zbq O O (zwq rfl (qhq O O e1) (zbq O O (zVq ?_)))));refine ⟨rfl, r', ⟨e2, e3⟩, ?_⟩;rcases e4 with ⟨rfl, rfl, rfl⟩ | ⟨all, rfl, rfl, rfl, rfl⟩
   ·exact ynq ⟨rfl, rfl, rfl, by rw [ht1]; rfl, rfl, rfl, rfl, trivial⟩ O O
   ·refine qCq (b := 2) (k := 3) (by omega) (by omega) (by omega) ⟨⟨rfl, rfl⟩, ⟨rfl, rfl⟩, ⟨by rw [yfq hPp]; rfl, ziq hPp⟩, ⟨by rw [ht1]; rfl, rfl⟩, ⟨rfl, rfl⟩, ⟨rfl, rfl⟩, ⟨rfl, rfl⟩, trivial⟩ ⟨⟨by omega, by rw [yfq (show purW (.arr all.length 1 (bN all)) = true from vCq _)]; rfl, ziq (show purW (.arr all.length 1 (bN all)) = true from vCq _)⟩, ⟨by omega, rfl, rfl⟩, ⟨by omega, rfl, rfl⟩, trivial⟩ (by simp [hpS, Rst.hp])
  obtain ⟨hak, har⟩ := ha;have hstep : (ps.map (·.1)).take (i + 1) = (ps.map (·.1)).take i ++ [p.1] := htk;have hnext : ((ps.map (·.1)).take (i + 1)).foldl xtq (s0, []) = xtq (s, r.r) p.1 := by rw [hstep, List.foldl_append, <- hfold]; rfl
  refine ypq ?_;refine qJq (α := S8 × Rst) (fun b => b.2.ok /\ eats b.1 b.2.r = xtq (s, r.r) p.1) (fun b => [(13, .int .i64 (i : Int)), (12, .int .i64 (ps.length : Int)), (11, .fz (ps.map Z0q) 1 fl), (5, .int .u64 (y4q ((ps.map (·.1)).take (i + 1)) : Int)), (4, b.2.w), (3, .ptr 1 0), (2, .ptr 0 0)]) (fun b => hpS b.2 jsq b.1) (fun b => b.2.nw) (fun _ => R) (fun b => b.2.r.length) (s, a) ⟨hak, by simp only [xtq, har]⟩ (Ent.refl) (fun b hb => ?_);obtain ⟨s', r'⟩ := b;obtain ⟨hok', heat⟩ := hb;simp only at hok' heat
  have done : r'.r.length < 64 -> (s', r'.r) = ((ps.map (·.1)).take (i + 1)).foldl xtq (s0, []) := fun h => by
   rw [hnext, <- heat, eats, jIq _ _ _ h]
  skip
  cases r' with
  | nil =>
   refine zLq (zLq (znq (zbq O O (zbq O O (zbq O O (zVq ?_))))));refine z8q (co_false rfl (jCq ?_));refine k1q (by intro h; cases h) ?_;refine qTq (by intro h; cases h) ?_;refine vFq (jeq (by intro i h; cases h) ?_);refine z8q (znq (zoq (i + 1) O O (by first | rfl | omega) ⟨by omega, by omega⟩ ?_));refine zbq O O (zVq ?_);refine yIq (i + 1, s', .nil) ⟨hi1, trivial, done (by show 0 < 64; omega), (by show 0 < 64; omega)⟩ (by simp only; omega) (ynq ⟨rfl, rfl, rfl, rfl, rfl, rfl, rfl, trivial⟩ O O)
  | sl all base off =>
   obtain ⟨ho1, ho2⟩ := hok';have hrl : (Rst.sl all base off).r.length = all.length - off := by simp [Rst.r]
   refine zLq (zLq (znq (zbq O O (zkq O O (show _ = W.int .i64 ((all.length - off : Nat) : Int) by first | rfl | (simp [jXq]; done) | (simp [jXq]; rfl)) ?_))));refine zbq O O (zVq ?_);refine z8q ?_;refine jnq rfl (fun hc2 => ?_) (fun hc2 => ?_)
   ·have h64 : 64 <= all.length - off := by
     have := hc2;simp only [Bool.not_eq_true'] at this;have := ltI_not.1 this;omega
    have hpa : purW (.arr all.length 1 (bN all)) = true := vCq all
    have hby : ∀ k, k < 64 -> ymq 50 (.arr all.length 1 (bN all)) (off + 0 * 1 + k * 1) 1 false = some (.int .u8 (.ofNat (atL (all.drop off) k))) := fun k hk => by
     have := bN_at (l := all) (i := off + k) (by omega);refine yQq ?_ rfl;rw [Nat.zero_mul, Nat.add_zero, Nat.mul_one, this];simp [atL, List.getD, List.getElem?_drop]
    have hr' : (Rst.sl all off (off + 64)).r = ((Rst.sl all base off).r).drop 64 := by simp [Rst.r]
    refine qkq (z8q (zLq (ypq (znq (zbq O O (zbq rfl (cut_hi (h := 64) O O O O O O O h64) ?_))))))
    (refine z2q rfl (jPq (ext := [1, 2]) (ws := [.ptr 0 0, .sl 1 base (off + 0 * 1) (64 - 0) 1 none]) O O O O O (fun R => block_s s' (atL (all.drop off)) (.arr all.length 1 (bN all)) base _ none 5 (ziq hpa) hby R) (by decide) (by intro b hb; simp only [List.mem_cons, List.not_mem_nil, or_false] at hb; show b < 3; omega) (by simp) (Y7q rfl (by rw [yfq hpa]; rfl) rfl (ziq hpa)) O ?_); rintro w hp1 nw1 ⟨rfl, rfl, rfl⟩)
    refine zVq ?_;refine jeq (by intro i h; cases h) ?_;refine z8q (znq (zbq O O (zbq rfl (cut_lo (l := 64) O O O O O O O h64 rfl) (zbq O O (zVq ?_)))));refine yIq (jfq (atL (all.drop off)) s', .sl all off (off + 64)) ⟨⟨by omega, ho2⟩, ?_⟩ (by simp only [hr']; simp only [hrl, List.length_drop]; omega) (xqq (by omega) (Nat.le_refl _) ⟨rfl, rfl, rfl, rfl, ?_, rfl, rfl, trivial⟩ (by simp only [List.all_cons, List.all_nil, ziq hPp, Bool.and_true]; rfl) (kwq ⟨⟨by show 2 < 3; omega, by show some (5, renW _ (W.arr all.length 1 (bN all))) = _; rw [yfq hpa], ziq hpa⟩, ⟨by show 1 < 3; omega, rfl, rfl⟩, ⟨by show 0 < 3; omega, rfl, rfl⟩, trivial⟩) (by simp [hpS, Rst.hp]))
    ·rw [hr', <- heat];exact (Zwq (r := (Rst.sl all base off).r) (by rw [hrl]; exact h64)).symm
    ·show some (W.sl 2 off (off + 64 * 1) (all.length - off - 64) 1 (qNq 64 none)) = some (W.sl 2 off (off + 64) (all.length - (off + 64)) 1 none);rw [Nat.sub_sub]; rfl
   ·have h64 : all.length - off < 64 := by
     have := hc2;simp only [Bool.not_eq_false'] at this;have := ltI_iff.1 this;omega
    refine jCq ?_;refine k1q (by intro h; cases h) ?_;refine qTq (by intro h; cases h) ?_;refine vFq (jeq (by intro i h; cases h) ?_);refine z8q (znq (zoq (i + 1) O O (by first | rfl | omega) ⟨by omega, by omega⟩ ?_));refine zbq O O (zVq ?_);refine yIq (i + 1, s', .sl all base off) ⟨hi1, ⟨ho1, ho2⟩, done (by rw [hrl]; exact h64), by simp only [hrl]; exact h64⟩ (by simp only; omega) (ynq ⟨rfl, rfl, rfl, rfl, rfl, rfl, rfl, trivial⟩ O O)
 ·simp only at hi hok hfold hr64;obtain rfl : i = ps.length := by have := ltI_not.1 hc1; simp only at this; omega
  rw [show (ps.map (·.1)).take ps.length = ps.map (·.1) by rw [List.take_of_length_le (by simp)]] at hfold;have hT : (ps.map (·.1)).take ps.length = ps.map (·.1) := by rw [List.take_of_length_le (by simp)]
  have hdt : ∀ (all : List Nat) (off : Nat), ((bN all).drop off).take (all.length - off) = bN (all.drop off) := fun all off => by
   rw [List.take_of_length_le (by simp [jXq])]; simp [bN, List.map_drop]
  have bapp : ∀ a b : List Nat, bN a ++ bN b = bN (a ++ b) := fun a b => by simp [bN]
  have apur : ∀ all : List Nat, purW (.arr all.length 1 (bN all)) = true := fun all => vCq all
  refine jCq ?_;refine k1q (by intro h; cases h) ?_;refine qTq (by intro h; cases h) ?_;refine vFq (z8q ?_);refine co_cut (α := Unit) (fun _ => True) (fun _ => [(5, .int .u64 (y4q (ps.map (·.1)) : Int)), (4, .sl 2 0 0 (r.r ++ [128]).length 1 none), (3, .ptr 1 0), (2, .ptr 0 0)]) (fun _ => hpS (.sl (r.r ++ [128]) 0 0) jsq s) (fun _ => 3) ?_ (fun a ha => ?_)
  ·skip
   cases r with
   | nil =>
    refine znq (zbq O O (zwq O O (zwq rfl (qhq O O (ugq (news := bN [128]) (k := ti5) O O O O O (by simp [bN]) (by decide) (by decide))) ?_)));refine zbq O O (zVq ?_);refine ⟨rfl, (), trivial, ?_⟩;exact qCq (b := 2) (k := 3) (by omega) (by omega) (by show 3 < 4; omega) ⟨⟨by show some (W.int .u64 ((y4q ((ps.map (·.1)).take ps.length) : Nat) : Int)) = _; rw [hT]; rfl, rfl⟩, ⟨rfl, rfl⟩, ⟨rfl, rfl⟩, ⟨rfl, rfl⟩, trivial⟩ ⟨⟨by omega, rfl, rfl⟩, ⟨by omega, rfl, rfl⟩, ⟨by omega, rfl, rfl⟩, trivial⟩ (by simp [hpS, Rst.hp])
   | sl all base off =>
    obtain ⟨ho1, ho2⟩ := hok;simp only [Rst.r, List.length_drop] at hr64;have hle : ((Rst.sl all base off).r ++ [128]).length = all.length - off + 1 := by simp [Rst.r]
    refine znq (zbq O O (zwq O O (zwq rfl (qhq O O (j7q (news := bN [128]) (k := ti5) (v := .arr all.length 1 (bN all)) (off := off) O O O O O (by simp [bN]) (show (all.length - off + 1) * 1 <= 140737488355328 by omega) (show all.length - off + 1 <= 70368744177664 by omega) rfl (show all.length < off + (all.length - off + 1) * 1 by omega) rfl (unq (by omega)))) ?_)));refine zbq O O (zVq ?_);refine ⟨rfl, (), trivial, ?_⟩;refine qCq (b := 2) (k := 4) (by omega) (by omega) (by show 4 < 5; omega) ⟨⟨by show some (W.int .u64 ((y4q ((ps.map (·.1)).take ps.length) : Nat) : Int)) = _; rw [hT]; rfl, rfl⟩, ⟨?_, rfl⟩, ⟨rfl, rfl⟩, ⟨rfl, rfl⟩, trivial⟩ ⟨⟨by omega, ?_, ziq (apur _)⟩, ⟨by omega, rfl, rfl⟩, ⟨by omega, rfl, rfl⟩, trivial⟩ (by simp [hpS, Rst.hp])
    ·rw [hle]; rfl
    ·rw [yfq (apur _), hle, <- bapp];show some (5, W.arr ((all.length - off + 1) * 1) 1 (((bN all).drop off).take (all.length - off) ++ bN [128])) = _;rw [hdt, Nat.mul_one]; rfl
  -- noughts
  have htm : ∀ n : Nat, ((n : Int)).tmod 64 = ((n % 64 : Nat) : Int) := fun n => by rw [Int.tmod_eq_emod_of_nonneg (by omega)]; omega
  have hA0 : (r.r ++ [128]).length <= 64 := by simp; omega
  generalize hA : r.r ++ [128] = A at *
  refine zLq (ypq ?_);refine qJq (α := Nat) (fun j => ∀ i, i < j -> (A.length + i) % 64 ≠ 56) (fun j => [(5, .int .u64 (y4q (ps.map (·.1)) : Int)), (4, .sl 2 0 0 (A ++ List.replicate j 0).length 1 none), (3, .ptr 1 0), (2, .ptr 0 0)]) (fun j => hpS (.sl (A ++ List.replicate j 0) 0 0) jsq s) (fun _ => 3) (fun _ => R) (fun j => 64 - j) 0 (fun i hi => absurd hi (by omega)) (by rw [List.replicate_zero, List.append_nil]; exact Ent.refl) (fun j hj => ?_)
  have hj64 : j < 64 := by
   refine Nat.lt_of_not_le fun h => ?_
   have := hj ((56 + 64 - A.length % 64) % 64) (by omega);omega
  have hlj : (A ++ List.replicate j 0).length = A.length + j := by simp
  refine zLq (zLq (znq (zbq O O (zkq O O (show _ = W.int .i64 ((A ++ List.replicate j 0).length : Int) by first | rfl | (simp [jXq]; done) | (simp [jXq]; rfl)) ?_))));refine zkq O O (congrArg (W.int .i64) (htm _)) (zbq O O (zVq ?_));refine z8q ?_;refine jnq rfl (fun hc3 => ?_) (fun hc3 => ?_)
  ·have hne : (A.length + j) % 64 ≠ 56 := by
    have := hc3;simp only [Bool.not_eq_true'] at this;have := eqI_not.1 this;rw [hlj] at this; omega
   refine qkq (z8q (ypq (znq (zbq O O (zwq O O (zwq rfl (qhq O O (j7q (news := bN [0]) (k := ti5) (v := .arr (A ++ List.replicate j 0).length 1 (bN (A ++ List.replicate j 0))) (off := 0) O O O O O (by simp [bN]) (show ((A ++ List.replicate j 0).length + 1) * 1 <= 140737488355328 by omega) (show (A ++ List.replicate j 0).length + 1 <= 70368744177664 by omega) rfl (show (A ++ List.replicate j 0).length < 0 + ((A ++ List.replicate j 0).length + 1) * 1 by omega) rfl (unq (by omega)))) ?_))))));refine zbq O O (zVq ?_);refine jeq (by intro i h; cases h) ?_;have hrep : A ++ List.replicate (j + 1) 0 = (A ++ List.replicate j 0) ++ [0] := by rw [List.append_assoc, <- List.replicate_succ']
   refine yIq (j + 1) (fun i hi => ?_) (by omega) (qCq (b := 2) (k := 4) (by omega) (by omega) (by show 4 < 5; omega) ⟨⟨rfl, rfl⟩, ⟨?_, rfl⟩, ⟨rfl, rfl⟩, ⟨rfl, rfl⟩, trivial⟩ ⟨⟨by omega, ?_, ziq (apur _)⟩, ⟨by omega, rfl, rfl⟩, ⟨by omega, rfl, rfl⟩, trivial⟩ (by simp [hpS, Rst.hp]))
   ·rcases Nat.lt_succ_iff_lt_or_eq.1 hi with h | rfl
    ·exact hj i h
    ·exact hne
   ·rw [hrep]; exact mid1 _ 0
   ·rw [hrep]; exact mid2 _ 0
  ·have he : (A.length + j) % 64 = 56 := by
    have := hc3;simp only [Bool.not_eq_false'] at this;have := eqI_iff.1 this;rw [hlj] at this; omega
   have hpz : padZ 64 A = A ++ List.replicate j 0 := padZ_spec 64 j A hj he (by omega);rw [<- hpz];have hBl : (padZ 64 A).length < 200 := by rw [hpz, hlj]; omega
   have hB64 : (padZ 64 A).length % 64 = 56 := by rw [hpz, hlj]; exact he
   generalize hB : padZ 64 A = B at hBl hB64;refine jCq ?_;refine k1q (by intro h; cases h) ?_;refine qTq (by intro h; cases h) ?_;refine vFq (z8q (zLq (zLq (znq (zbq O O (zVq ?_))))));refine z8q (ypq ?_);have h8 : ∀ k, k <= 8 -> ((len8 (y4q (ps.map (·.1)))).take k).length = k := fun k hk => by simp [len8]; omega
   refine qJq (α := Nat) (fun k => k <= 8) (fun k => [(8, .int .i64 (56 - 8 * (k : Int))), (5, .int .u64 (y4q (ps.map (·.1)) : Int)), (4, .sl 2 0 0 (B ++ (len8 (y4q (ps.map (·.1)))).take k).length 1 none), (3, .ptr 1 0), (2, .ptr 0 0)]) (fun k => hpS (.sl (B ++ (len8 (y4q (ps.map (·.1)))).take k) 0 0) jsq s) (fun _ => 3) (fun _ => R) (fun k => 8 - k) 0 (Nat.zero_le _) (by rw [List.take_zero, List.append_nil]; exact ynq ⟨rfl, rfl, rfl, rfl, rfl, trivial⟩ O O) (fun k hk => ?_);refine zLq (zLq (znq (zbq O O (zbq O O (zVq ?_)))));refine z8q ?_;refine jnq rfl (fun hc4 => ?_) (fun hc4 => ?_)
   ·have hk8 : k < 8 := by
     have := hc4;simp only [Bool.not_eq_true'] at this;have := ltI_not.1 this;omega
    have hLk := h8 k hk;have hll : (B ++ (len8 (y4q (ps.map (·.1)))).take k).length = B.length + k := by rw [List.length_append, hLk]
    have hnx : B ++ (len8 (y4q (ps.map (·.1)))).take (k + 1) = (B ++ (len8 (y4q (ps.map (·.1)))).take k) ++ [Nat.shiftRight (8 * y4q (ps.map (·.1)) % 18446744073709551616) (min (56 - 8 * k) 64) % 256] := by
     rw [List.take_add_one, <- List.append_assoc];congr 1
     have hq : k = 0 \/ k = 1 \/ k = 2 \/ k = 3 \/ k = 4 \/ k = 5 \/ k = 6 \/ k = 7 := by omega
     rcases hq with rfl | rfl | rfl | rfl | rfl | rfl | rfl | rfl <;> rfl
    have hw8 : j0q .i64 (56 - 8 * (k : Int) - 8) = 56 - 8 * (k : Int) - 8 := ujq (k := .i64) ⟨by omega, by omega⟩;refine qkq (z8q (zLq (ypq (znq (zbq O O (zbq O O (zbq O O (zkq O O (show W.int .i64 (56 - 8 * (k : Int)) = W.int .i64 ((56 - 8 * k : Nat) : Int) by congr 1; omega) ?_))))))));refine zbq O O (zbq O O (zwq O O (zwq rfl (qhq O O (j7q (news := bN [Nat.shiftRight (8 * y4q (ps.map (·.1)) % 18446744073709551616) (min (56 - 8 * k) 64) % 256]) (k := ti5) (v := .arr (B ++ (len8 (y4q (ps.map (·.1)))).take k).length 1 (bN (B ++ (len8 (y4q (ps.map (·.1)))).take k))) (off := 0) O O O O O (by simp [bN]) (show ((B ++ (len8 (y4q (ps.map (·.1)))).take k).length + 1) * 1 <= 140737488355328 by omega) (show (B ++ (len8 (y4q (ps.map (·.1)))).take k).length + 1 <= 70368744177664 by omega) rfl (show (B ++ (len8 (y4q (ps.map (·.1)))).take k).length < 0 + ((B ++ (len8 (y4q (ps.map (·.1)))).take k).length + 1) * 1 by omega) rfl (unq (by omega)))) ?_)));refine zbq O O (zVq ?_);refine jeq (by intro i h; cases h) ?_;refine z8q (znq (zbq O O (zkq (w := W.int .i64 (j0q .i64 (56 - 8 * (k : Int) - 8))) O O (show _ = W.int .i64 (56 - 8 * ((k + 1 : Nat) : Int)) by rw [hw8]; congr 1; omega) ?_)));refine zbq O O (zVq ?_);refine yIq (k + 1) (by omega) (by omega) (qCq (b := 2) (k := 4) (by omega) (by omega) (by show 4 < 5; omega) ⟨⟨rfl, rfl⟩, ⟨rfl, rfl⟩, ⟨?_, rfl⟩, ⟨rfl, rfl⟩, ⟨rfl, rfl⟩, trivial⟩ ⟨⟨by omega, ?_, ziq (apur _)⟩, ⟨by omega, rfl, rfl⟩, ⟨by omega, rfl, rfl⟩, trivial⟩ (by simp [hpS, Rst.hp]))
    ·rw [hnx]; exact mid1 _ _
    ·rw [hnx]; exact mid2 _ _
   ·obtain rfl : k = 8 := by
     have := hc4;simp only [Bool.not_eq_false'] at this;have := ltI_iff.1 this;omega
    have ht8 : (len8 (y4q (ps.map (·.1)))).take 8 = len8 (y4q (ps.map (·.1))) := rfl;rw [ht8];have hMl : (B ++ len8 (y4q (ps.map (·.1)))).length = B.length + 8 := by simp [len8]
    have hsha : shaN (ps.map (·.1)) = digN (qOq (B ++ len8 (y4q (ps.map (·.1)))).length s (B ++ len8 (y4q (ps.map (·.1))))) := by
     simp only [shaN, <- hfold, hA, hB]
    generalize hM : B ++ len8 (y4q (ps.map (·.1))) = M at hMl hsha;refine jCq ?_;refine k1q (by intro h; cases h) ?_;refine qTq (by intro h; cases h) ?_;refine vFq (z8q (zLq (ypq ?_)));refine qJq (α := S8 × Nat × Nat) (fun b => b.2.2 <= M.length /\ (M.length - b.2.2) % 64 = 0 /\ qOq M.length s M = qOq (M.drop b.2.2).length b.1 (M.drop b.2.2)) (fun b => [(4, .sl 2 b.2.1 b.2.2 (M.length - b.2.2) 1 none), (3, .ptr 1 0), (2, .ptr 0 0)]) (fun b => hpS (.sl M b.2.1 b.2.2) jsq b.1) (fun _ => 3) (fun _ => R) (fun b => M.length - b.2.2) (s, 0, 0) ⟨Nat.zero_le _, by show (M.length - 0) % 64 = 0; omega, rfl⟩ (ynq ⟨rfl, rfl, rfl, trivial⟩ O O) (fun b hb5 => ?_);obtain ⟨s', base, off⟩ := b;obtain ⟨ho, hmod, heat⟩ := hb5;simp only at ho hmod heat;refine zLq (zLq (znq (zbq O O (zkq O O (show _ = W.int .i64 ((M.length - off : Nat) : Int) by first | rfl | (simp [jXq]; done) | (simp [jXq]; rfl)) ?_))));refine zbq O O (zVq ?_);refine z8q ?_;refine jnq rfl (fun hc5 => ?_) (fun hc5 => ?_)
    ·have h1 : 1 <= M.length - off := by have := ltI_iff.1 hc5; omega
     have h64 : 64 <= M.length - off := by omega
     have hpa : purW (.arr M.length 1 (bN M)) = true := vCq M
     have hby : ∀ k, k < 64 -> ymq 50 (.arr M.length 1 (bN M)) (off + 0 * 1 + k * 1) 1 false = some (.int .u8 (.ofNat (atL (M.drop off) k))) := fun k hk => by
      have := bN_at (l := M) (i := off + k) (by omega);refine yQq ?_ rfl;rw [Nat.zero_mul, Nat.add_zero, Nat.mul_one, this];simp [atL, List.getD, List.getElem?_drop]
     refine qkq (z8q (zLq (ypq (znq (zbq O O (zbq rfl (cut_hi (h := 64) O O O O O O O h64) ?_))))))
     (refine z2q rfl (jPq (ext := [1, 2]) (ws := [.ptr 0 0, .sl 1 base (off + 0 * 1) (64 - 0) 1 none]) O O O O O (fun R => block_s s' (atL (M.drop off)) (.arr M.length 1 (bN M)) base _ none 5 (ziq hpa) hby R) (by decide) (by intro b hb; simp only [List.mem_cons, List.not_mem_nil, or_false] at hb; show b < 3; omega) (by simp) (Y7q rfl (by rw [yfq hpa]; rfl) rfl (ziq hpa)) O ?_); rintro w hp1 nw1 ⟨rfl, rfl, rfl⟩)
     refine zVq ?_;refine jeq (by intro i h; cases h) ?_;refine z8q (znq (zbq O O (zbq rfl (cut_lo (l := 64) O O O O O O O h64 rfl) (zbq O O (zVq ?_)))));refine yIq (jfq (atL (M.drop off)) s', off, off + 64) ⟨by simp only; omega, by simp only; omega, ?_⟩ (by simp only; omega) (xqq (by omega) (Nat.le_refl _) ⟨?_, rfl, rfl, trivial⟩ rfl (kwq ⟨⟨by omega, by show some (5, renW _ (W.arr M.length 1 (bN M))) = _; rw [yfq hpa], ziq hpa⟩, ⟨by omega, rfl, rfl⟩, ⟨by omega, rfl, rfl⟩, trivial⟩) (by simp [hpS, Rst.hp]))
     ·rw [heat, ubq (by simp; omega), List.drop_drop]
     ·show some (W.sl 2 off (off + 64 * 1) (M.length - off - 64) 1 (qNq 64 none)) = some (W.sl 2 off (off + 64) (M.length - (off + 64)) 1 none);rw [Nat.sub_sub]; rfl
    ·have h0 : M.length - off = 0 := by have := ltI_not.1 hc5; omega
     have hend : qOq M.length s M = s' := by
      rw [heat, List.drop_of_length_le (by omega)]; rfl
     rw [hend] at hsha;refine jCq ?_;refine k1q (by intro h; cases h) ?_;refine qTq (by intro h; cases h) ?_;refine vFq (z8q (zLq (zLq (znq (zbq O O (zVq ?_))))));refine z8q (ypq ?_);have htd4 : ∀ n : Nat, ((n : Int)).tdiv 4 = ((n / 4 : Nat) : Int) := fun n => by rw [Int.tdiv_eq_ediv_of_nonneg (by omega)]; omega
     have htm4 : ∀ n : Nat, ((n : Int)).tmod 4 = ((n % 4 : Nat) : Int) := fun n => by rw [Int.tmod_eq_emod_of_nonneg (by omega)]; omega
     refine qJq (α := Nat) (fun i => i <= 32) (fun i => [(64, .int .i64 (i : Int)), (3, .ptr 1 0), (2, .ptr 0 0)]) (fun i => hpS (.sl M base off) (.arr 32 1 (bN (dI s' i))) s') (fun _ => 3) (fun _ => R) (fun i => 32 - i) 0 (Nat.zero_le _) (ynq ⟨rfl, rfl, rfl, trivial⟩ O O) (fun i hi => ?_);refine zLq (znq (zbq O O (zVq ?_)));refine z8q (zLq ?_);refine jnq rfl (fun hc6 => ?_) (fun hc6 => ?_)
     ·have hi32 : i < 32 := by have := ltI_iff.1 hc6; omega
      refine qkq (z8q (zLq (ypq (zLq (znq (zbq O O (zbq O O (zVq ?_))))))));refine z8q (znq (zbq O O (zbq O O (zoq (i / 4) O O (htd4 i) ⟨by omega, by omega⟩ ?_))));refine zbq rfl (zsq (i := i / 4) O O O O O O (by omega)) ?_;refine zwq rfl (ysq O O O (yQq (S8_at s' (by omega)) rfl)) ?_;refine zbq O O (zkq O O (congrArg (W.int .i64) (htm4 i)) (zoq (8 * (i % 4)) O O (by first | rfl | omega) ⟨by omega, by omega⟩ ?_));refine zoq (24 - 8 * (i % 4)) O O (by first | rfl | omega) ⟨by omega, by omega⟩ ?_;refine zbq O O (zbq O O (zbq rfl (zsq (i := i) O O O O O O (by omega)) ?_));refine zwq rfl (q3q O O O O O (qnq (dI_at s' hi32) O O) rfl) (zVq ?_);refine jeq (by intro i h; cases h) ?_;refine z8q (znq ?_);first | refine yAq O O ⟨by omega, by omega⟩ ?_ | refine zbq O O ?_
      refine zbq O O (zVq ?_);refine yIq (i + 1) (by omega) (by omega) (ynq ⟨rfl, rfl, rfl, trivial⟩ ?_ rfl);exact congrArg (fun L => hpS (.sl M base off) (.arr 32 1 L) s') (dI_set s' hi32)
     ·obtain rfl : i = 32 := by have := ltI_not.1 hc6; omega
      refine jCq ?_;refine k1q (by intro h; cases h) ?_;refine qTq (by intro h; cases h) ?_;refine vFq (z8q (zLq (znq (zwq O O (zwq O O (zVq ?_))))));refine z8q (co_ret ?_);refine fin (.inr rfl) Ent.refl rfl ⟨rfl, ?_⟩;rw [hsha];have : dI s' 32 = digN s' := by simp [dI, List.take_of_length_le, uJq]
      rw [<- this]
end
section
attribute [local irreducible] CoW OpW FlW Step Spec
theorem bytes_bN (l : List UInt8) : zeq l = bN (l.map UInt8.toNat) := by simp [zeq, bN]
theorem shaN_l (ps : List (List Nat)) : (shaN ps).length = 32 := by simp [shaN, digN]
theorem shaN_lt (ps : List (List Nat)) : ∀ n ∈ shaN ps, n < 256 := fun n h => by
 simp only [shaN, digN, List.mem_map] at h;obtain ⟨i, _, rfl⟩ := h;exact Nat.mod_lt _ (by decide)
noncomputable def shaD (ps : List (List UInt8)) : Dig := ⟨(shaN (ps.map fun p => p.map UInt8.toNat)).map UInt8.ofNat, by simp [shaN_l]⟩
theorem bytes_of {l : List Nat} (h : ∀ n ∈ l, n < 256) : zeq (l.map UInt8.ofNat) = bN l := by
 rw [bytes_bN, List.map_map];congr 1
 conv => rhs; rw [<- List.map_id l]
 refine List.map_congr_left fun n hn => ?_
 have := h n hn;simp; omega
theorem sha_s (ps : List (List UInt8 × Bool)) (f : Bool) (hb : ((ps.map (·.1)).map List.length).foldr (· + ·) 0 < 2147483648) (hn : ps.length < 2147483648) : PS cfg glK 218 [.fz (ps.map fun p => .fz (zeq p.1) 1 p.2) 1 f] (dW (shaD (ps.map (·.1)))) := fun R => by
 have e1 : (ps.map fun p => (p.1.map UInt8.toNat, p.2)).map Z0q = ps.map fun p => .fz (zeq p.1) 1 p.2 := by simp [Z0q, bytes_bN]
 have e2 : (ps.map fun p => (p.1.map UInt8.toNat, p.2)).map (·.1) = (ps.map (·.1)).map fun p => p.map UInt8.toNat := by simp
 have h := of_s (ps.map fun p => (p.1.map UInt8.toNat, p.2)) f (by rw [e2]; show (List.map List.length _).foldr _ 0 < _; rw [List.map_map]; simpa [Function.comp_def] using hb) (by simpa using hn) R;rw [e1, e2] at h
 have e3 : dW (shaD (ps.map (·.1))) = .arr 32 1 (bN (shaN ((ps.map (·.1)).map fun p => p.map UInt8.toNat))) := by
  show W.arr 32 1 (zeq _) = _;rw [<- bytes_of (shaN_lt _)]; rfl
 show Spec cfg glK _ 0 _ [] R fun w hp nw R' => R' = R /\ w = dW (shaD (ps.map (·.1)))
 rw [e3];exact h
def kJq (p : List UInt8) : List UInt8 := beB 4 (p.length % 4294967296) ++ p
def tagB (kind : UInt8) (ps : List (List UInt8)) : List UInt8 := kind :: ps.flatMap kJq
variable {G : Nat -> Option W}
@[simp] theorem bWs_pur (ps : List (List UInt8)) : purL (ps.map bW) = true := jAq (fun x => by simp) ps
theorem Qbq {m : Nat} : ∀ {ps : List (List UInt8)} (i : Nat), (∀ p ∈ ps, p.length < m) -> ((ps.take i).flatMap kJq).length <= i * (m + 4)
 | [], i, _ => by simp
 | p :: ps, 0, _ => by simp
 | p :: ps, i + 1, h => by
  have h1 := Qbq (ps := ps) i fun q hq => h q (List.mem_cons_of_mem _ hq)
  have h2 := h p (List.mem_cons_self ..);simp only [List.take_succ_cons, List.flatMap_cons, List.length_append, kJq, viq, Nat.succ_mul];omega
theorem tbytes_s (kind : UInt8) (ps : List (List UInt8)) (f : Bool) (hn : ps.length < 1000000) (hb : ∀ p ∈ ps, p.length < 1000000) : PS cfg G 219 [.int .u8 (.ofNat kind.toNat), .fz (ps.map bW) 1 f] (bW (tagB kind ps)) := by
 have e : (ps.map bW).length = ps.length := List.length_map _;refine vqq (fn := Tryz.f219) O O O (Ob rfl) (fun R k0 => ?_);refine zgq 16 O ?_;refine zkq (w' := .int .i64 (ps.length : Int)) O O (by rw [<- e]; rfl) ?_;refine zcq 4 O ?_;refine co_loopG1 (α := Nat) (fun i => i <= ps.length) 5 (fun i => zeq (kind :: (ps.take i).flatMap kJq)) 5 1 (fun i => [(14, .int .i64 (i : Int))]) [(4, _), (12, _), (13, _)] ([]) 0 0 (fun i => ps.length - i) (0) ⟨rfl, rfl, rfl, trivial⟩ (Nat.zero_le _) ⟨rfl, trivial⟩ (by omega) (by omega) (by first | omega | decide) (by simp [zeq]) rfl (by simp [zeq]) (by repeat (first | exact trivial | refine ⟨by first | rfl | exact ziq (by first | rfl | (simp; done)), ?_⟩)) (by repeat (first | exact trivial | refine ⟨by first | rfl | exact ziq (by first | rfl | (simp; done)), ?_⟩)) rfl (by first | rfl | assumption | (simp; done)) (by repeat (first | exact trivial | refine ⟨⟨by decide, rfl, by first | rfl | exact ziq (by first | rfl | (simp; done))⟩, ?_⟩)) (by first | decide | simp) (fun i hI => ?_);refine zgq 6 O ?_;refine zzq rfl (fun h1 => ?_) (fun h1 => ?_)
 ·have hi : i < ps.length := by omega
  obtain ⟨x, hx⟩ : ∃ x, ps[i]? = some x := ⟨_, List.getElem?_eq_getElem hi⟩
  have hxl := hb x (List.mem_of_getElem? hx);have hfl : ((ps.take i).flatMap kJq).length <= i * 1000004 := Qbq i hb;have hL : (zeq (kind :: (ps.take i).flatMap kJq)).length <= 1 + i * 1000004 := by rw [zvq, List.length_cons]; omega
  have hN : (zeq (beB 4 x.length)).length = 4 := by rw [zvq, viq]
  have hnx : zeq (kind :: (ps.take (i + 1)).flatMap kJq) = (zeq (kind :: (ps.take i).flatMap kJq) ++ zeq (beB 4 x.length)) ++ zeq x := by
   rw [List.take_add_one, hx, <- qjq, <- qjq];congr 1
   simp [kJq, Nat.mod_eq_of_lt (show x.length < 4294967296 by omega)]
  skip
  cases x with
  | nil =>
   refine zdq 6 O ?_;refine zbq rfl (zBq (i := i) O O O O O O O (ygq bW hx)) ?_;refine zcq 7 O ?_;refine zkq (w' := .int .i64 (([] : List UInt8).length : Int)) O O (by show W.int .i64 ((zeq (([] : List UInt8))).length : Int) = _; rw [zvq]) ?_;first | refine yAq O O ⟨by omega, by omega⟩ ?_ | refine zbq O O ?_
   first | refine yAq O O ⟨by omega, by omega⟩ ?_ | refine zbq O O ?_
   (refine z2q rfl (xAq O O O O O O (put_s ([] : List UInt8).length 4 (by omega) (by omega) (by show ([] : List UInt8).length < 4294967296; omega)) ?_); rintro w hp1 nw1 ⟨rfl, rfl, rfl⟩)
   refine zcq 10 O ?_;refine zwq rfl (qhq O O (k2q [_] (k := ti5) (news := zeq (beB 4 ([] : List UInt8).length)) O O O O O (qXq O O O (zUq (by decide) hN.symm rfl)) (by intro h; rw [h] at hN; cases hN) (by rw [hN]; show (_ + 4) * 1 <= _; omega) (by rw [hN]; omega) rfl (by simp [numC]))) ?_;refine zbq O O (zwq rfl (qhq O O (vjq (k := ti5) O O O O O)) ?_);refine zcq 5 O ?_;first | refine yAq O O ⟨by omega, by omega⟩ ?_ | refine zbq O O ?_
   refine yNq 2 O ?_;exact vJq 2 (i + 1) (hi) (by omega) (Nat.zero_le _) (by rw [hnx]; exact List.append_nil _) (by first | assumption | (simp; done) | (simp [zeq]; done)) (by omega) (by first | omega | decide) rfl (by first | rfl | exact List.length_append.symm) ⟨rfl, trivial⟩ ⟨rfl, rfl, rfl, trivial⟩ (by repeat (first | exact trivial | refine ⟨by first | rfl | exact ziq (by first | rfl | (simp; done)), ?_⟩)) (by repeat (first | exact trivial | refine ⟨by first | rfl | exact ziq (by first | rfl | (simp; done)), ?_⟩)) rfl (by first | rfl | assumption | (simp; done)) (by repeat (first | exact trivial | refine ⟨⟨by decide, rfl, by first | rfl | exact ziq (by first | rfl | (simp; done))⟩, ?_⟩)) (by first | decide | simp)
  | cons c x =>
   refine zdq 6 O ?_;refine zbq rfl (zBq (i := i) O O O O O O O (ygq bW hx)) ?_;refine zcq 7 O ?_;refine zkq (w' := .int .i64 ((c :: x).length : Int)) O O (by show W.int .i64 ((zeq ((c :: x))).length : Int) = _; rw [zvq]) ?_;first | refine yAq O O ⟨by omega, by omega⟩ ?_ | refine zbq O O ?_
   first | refine yAq O O ⟨by omega, by omega⟩ ?_ | refine zbq O O ?_
   (refine z2q rfl (xAq O O O O O O (put_s (c :: x).length 4 (by omega) (by omega) (by show (c :: x).length < 4294967296; omega)) ?_); rintro w hp1 nw1 ⟨rfl, rfl, rfl⟩)
   refine zcq 10 O ?_;refine zwq rfl (qhq O O (k2q [_] (k := ti5) (news := zeq (beB 4 (c :: x).length)) O O O O O (qXq O O O (zUq (by decide) hN.symm rfl)) (by intro h; rw [h] at hN; cases hN) (by rw [hN]; show (_ + 4) * 1 <= _; omega) (by rw [hN]; omega) rfl (by simp [numC]))) ?_;refine zbq O O (zwq rfl (qhq O O (j7q (k := ti5) (len := (zeq (kind :: (ps.take i).flatMap kJq) ++ zeq (beB 4 (c :: x).length)).length) (news := zeq (c :: x)) (olds := zeq (kind :: (ps.take i).flatMap kJq) ++ zeq (beB 4 (c :: x).length)) O O O O O (by simp [zeq]) (by rw [List.length_append, hN, zvq (c :: x)]; show (_ + _) * 1 <= _; omega) (by rw [List.length_append, hN, zvq (c :: x)]; omega) rfl (by show (_ ++ _ : List W).length * 1 < 0 + ((_ ++ _ : List W).length + (zeq (c :: x)).length) * 1; rw [zvq (c :: x), List.length_cons]; omega) rfl (zUq (by decide) O O))) ?_);refine zcq 5 O ?_;first | refine yAq O O ⟨by omega, by omega⟩ ?_ | refine zbq O O ?_
   refine yNq 2 O ?_;exact vJq 3 (i + 1) (hi) (by omega) (Nat.zero_le _) (hnx) (by first | assumption | (simp; done) | (simp [zeq]; done)) (by omega) (by first | omega | decide) rfl (by first | rfl | exact List.length_append.symm) ⟨rfl, trivial⟩ ⟨rfl, rfl, rfl, trivial⟩ (by repeat (first | exact trivial | refine ⟨by first | rfl | exact ziq (by first | rfl | (simp; done)), ?_⟩)) (by repeat (first | exact trivial | refine ⟨by first | rfl | exact ziq (by first | rfl | (simp; done)), ?_⟩)) rfl (by first | rfl | assumption | (simp; done)) (by repeat (first | exact trivial | refine ⟨⟨by decide, rfl, by first | rfl | exact ziq (by first | rfl | (simp; done))⟩, ?_⟩)) (by first | decide | simp)
 ·have hi : i = ps.length := by omega
  subst hi;refine zdq 2 O ?_;refine qTq (by intro h; cases h) ?_;refine zAq 9 O ?_;refine uGq (by first | exact .inr rfl | exact .inl rfl) O ?_;rw [List.take_length];exact view_g (H0 := []) (by decide) (by simp) (by simp)
theorem tag_le {m : Nat} (kind : UInt8) (ps : List (List UInt8)) (h : ∀ p ∈ ps, p.length < m) : (tagB kind ps).length <= 1 + ps.length * (m + 4) := by
 have := Qbq (m := m) ps.length h;rw [List.take_length] at this;simp only [tagB, List.length_cons]; omega
noncomputable def tagD (kind : UInt8) (ps : List (List UInt8)) : Dig := shaD [tagB kind ps]
theorem YIq (kind : UInt8) (ps : List (List UInt8)) (f : Bool) (hn : ps.length < 1000) (hb : ∀ p ∈ ps, p.length < 1000000) : PS cfg glK 161 [.int .u8 (.ofNat kind.toNat), .fz (ps.map bW) 1 f] (dW (tagD kind ps)) := by
 have hl := tag_le kind ps hb;refine zOq (fn := Tryz.f161) O O O (Ob rfl) (fun R k0 => ?_);refine zgq 9 O ?_;refine zlq O O O O O O (tbytes_s kind ps f (by omega) hb) ?_;refine zwq O O ?_;refine op_lk O O O O O (by (repeat (first | exact .nil | refine .cons ?_ ?_ | (refine .sl O ?_ rfl (by intro h; cases h); first | rfl | (focus (simp; done))) | (refine qzq O ?_ rfl; first | rfl | (focus (simp; done))) | (refine .pur ?_; first | rfl | (focus (simp; done)))))) (sha_s [(tagB kind ps, false)] false (by simp; omega) (by simp)) (by first | rfl | assumption | (simp; done)) (by first | rfl | assumption | (simp; done)) ?_;refine zcq 4 O ?_;exact zfq (.inr rfl) O O
end
theorem p32 : (4294967296 : Nat) = 2 ^ 32 := by decide
noncomputable def fz {α : Type} (n : Nat) (c : Nat -> α) : α := Nat.rec (c 0) (fun m _ => c (Nat.succ m)) n
structure S8.Ok (s : S8) : Prop where
 a : s.a < 4294967296
 b : s.b < 4294967296
 c : s.c < 4294967296
 d : s.d < 4294967296
 e : s.e < 4294967296
 f : s.f < 4294967296
 g : s.g < 4294967296
 h : s.h < 4294967296
theorem xQq (a b : Nat) : addN a b < 4294967296 := Nat.mod_lt _ (by decide)
theorem rnd_ok {s : S8} (h : s.Ok) (k w : Nat) : (roundN k w s).Ok := ⟨xQq _ _, h.a, h.b, h.c, xQq _ _, h.e, h.f, h.g⟩
noncomputable def wS (bs : Nat -> Nat) (i : Nat) : Nat := (yxq bs (i + 1)).getD i 0
attribute [local irreducible] wS in
theorem rounds_ok {s : S8} (h : s.Ok) (ws : List Nat) : ∀ t, (xaq ws s t).Ok
 | 0 => h
 | t + 1 => rnd_ok (rounds_ok h ws t) _ _
theorem word_eq {b0 b1 b2 b3 : Nat} (h0 : b0 < 256) (h1 : b1 < 256) (h2 : b2 < 256) (h3 : b3 < 256) : wordN b0 b1 b2 b3 = Nat.lor (Nat.lor (Nat.lor (Nat.shiftLeft b0 24) (Nat.shiftLeft b1 16)) (Nat.shiftLeft b2 8)) b3 := by
 have s : ∀ b n, b < 256 -> n <= 24 -> Nat.shiftLeft b n < 4294967296 := fun b n hb hn => by
  show b <<< n < 4294967296;rw [Nat.shiftLeft_eq];have : 2 ^ n <= 2 ^ 24 := Nat.pow_le_pow_right (by decide) hn;have := Nat.mul_le_mul (show b <= 255 by omega) this;omega
 have e : ∀ b n, b < 256 -> n <= 24 -> shlN (b % 4294967296) n = Nat.shiftLeft b n := fun b n hb hn => by
  unfold shlN;rw [Nat.min_eq_left (by omega), Nat.mod_eq_of_lt (show b < 4294967296 by omega), Nat.mod_eq_of_lt (s b n hb hn)]
 have o : ∀ a b, a < 4294967296 -> b < 4294967296 -> orN a b = Nat.lor a b := fun a b ha hb => by
  unfold orN;rw [Nat.mod_eq_of_lt ha, Nat.mod_eq_of_lt hb]
 have ol : ∀ a b, a < 4294967296 -> b < 4294967296 -> Nat.lor a b < 4294967296 := fun a b ha hb => by
  rw [p32] at *
  exact Nat.or_lt_two_pow ha hb
 unfold wordN;rw [e b0 24 h0 (by decide), e b1 16 h1 (by decide), e b2 8 h2 (by decide), Nat.mod_eq_of_lt (show b3 < 4294967296 by omega)];rw [o _ _ (s b0 24 h0 (by decide)) (s b1 16 h1 (by decide)), o _ _ (ol _ _ (s b0 24 h0 (by decide)) (s b1 16 h1 (by decide))) (s b2 8 h2 (by decide)), o _ _ (ol _ _ (ol _ _ (s b0 24 h0 (by decide)) (s b1 16 h1 (by decide))) (s b2 8 h2 (by decide))) (by omega)]
noncomputable def small (l : List Nat) : Prop := ∀ b ∈ l, b < 256
theorem small_at {l : List Nat} (h : small l) (i : Nat) : atL l i < 256 := by
 unfold atL;rw [List.getD_eq_getElem?_getD];cases hq : l[i]? with
 | none => show (0 : Nat) < 256; decide
 | some b => exact h b (List.mem_of_getElem? hq)
theorem block_ok (s : S8) (bs : Nat -> Nat) : (jfq bs s).Ok := ⟨xQq _ _, xQq _ _, xQq _ _, xQq _ _, xQq _ _, xQq _ _, xQq _ _, xQq _ _⟩
theorem pad_eq : ∀ (n : Nat) (r : List Nat), (120 - r.length % 64) % 64 <= n -> padZ n r = r ++ List.replicate ((120 - r.length % 64) % 64) 0
 | 0, r, h => by
  rw [Nat.le_zero.1 h]; simp [padZ]
 | n + 1, r, h => by
  unfold padZ;cases hb : Nat.beq (r.length % 64) 56 with
  | true =>
   have := Nat.eq_of_beq_eq_true hb;rw [this]; simp
  | false =>
   have hne : r.length % 64 ≠ 56 := fun e => by rw [e] at hb; cases hb
   show padZ n (r ++ [0]) = _;have hl : (r ++ [0]).length = r.length + 1 := by simp
   rw [pad_eq n (r ++ [0]) (by rw [hl]; omega), hl, List.append_assoc];have : (120 - r.length % 64) % 64 = (120 - (r.length + 1) % 64) % 64 + 1 := by omega
   rw [this];rfl
section
attribute [local irreducible] CoW OpW FlW Step Spec
variable {G : Nat -> Option W}
noncomputable def rotT (x n : Nat) : Nat := orN (shrN x n) (shlN x (32 - n))
theorem rotT_eq {x n : Nat} (hn : n <= 32) : rotT x n = rotN x n := by
 unfold rotT rotN orN shrN shlN;rw [Nat.min_eq_left hn, Nat.min_eq_left (Nat.sub_le _ _)];exact Nat.or_comm _ _
theorem qMq (n : Nat) (hn : n = 2 \/ n = 6 \/ n = 7 \/ n = 11 \/ n = 13 \/ n = 17 \/ n = 18 \/ n = 19 \/ n = 22 \/ n = 25) (x : Nat) : PS cfg G 259 [wd x, wd n] (wd (rotN x n)) := by
 have key : ∀ h, qtq cfg 20 259 [.int .u32 (.ofNat x), .int .u32 (.ofNat n)] h = some (.int .u32 (.ofNat (rotT x n)), h) := by
  intro h;rcases hn with rfl | rfl | rfl | rfl | rfl | rfl | rfl | rfl | rfl | rfl <;> kernel_rfl
 have e : rotT x n = rotN x n := rotT_eq (by omega);rw [e] at key;refine Ydq (spec_run key (fun Γ us h => ?_) (fun Γ => RV_int.2 rfl)) fun w hp nw h => h.1
 obtain ⟨v, vs, rfl, h1, h2⟩ := RVL_cons.1 h;obtain ⟨v', vs', rfl, h3, h4⟩ := RVL_cons.1 h2;rw [RVL_nil.1 h4, RV_int.1 h1, RV_int.1 h3]
theorem sub_not {e : Nat} (he : e < 4294967296) : 4294967295 - e = notN e := by
 unfold notN;rw [Nat.mod_eq_of_lt he];have h := BitVec.toNat_not (x := BitVec.ofNat 32 e);rw [<- BitVec.allOnes_xor] at h;simp only [BitVec.toNat_xor, BitVec.toNat_allOnes, BitVec.toNat_ofNat] at h;rw [Nat.mod_eq_of_lt (show e < 2 ^ 32 from he)] at h;exact h.symm
theorem wrap_not {e : Nat} (he : e < 4294967296) : W.int .u32 (j0q .u32 ((4294967295 : Int) - Int.ofNat e)) = wd (notN e) := by
 rw [<- sub_not he]
 have : (4294967295 : Int) - Int.ofNat e = ((4294967295 - e : Nat) : Int) := by
  show (4294967295 : Int) - (e : Int) = _;omega
 rw [this];show W.int .u32 (((4294967295 - e) % 4294967296 : Nat) : Int) = W.int .u32 ((4294967295 - e : Nat) : Int);rw [Nat.mod_eq_of_lt (by omega)]
theorem rround_s (v : S8) (hv : v.Ok) (k w : Nat) : PS cfg G 253 [.arr 8 1 v.l, wd k, wd w] (.arr 8 1 (roundN k w v).l) := by
 refine zOq (fn := Tryz.f253) O O O (Ob rfl) (fun R k0 => ?_);refine zgq 8 O ?_;first | refine zaq rfl (zBq O O O O O O O (by first | assumption | (simp; done))) ?_ | refine zaq rfl (zTq O O O O O O O (by omega)) ?_ | refine zaq rfl (zsq O O O O O O (by omega)) ?_ | refine zaq O O ?_
 refine yKq O O ?_;first | refine zaq rfl (zBq O O O O O O O (by first | assumption | (simp; done))) ?_ | refine zaq rfl (zTq O O O O O O O (by omega)) ?_ | refine zaq rfl (zsq O O O O O O (by omega)) ?_ | refine zaq O O ?_
 refine yKq O O ?_;first | refine zaq rfl (zBq O O O O O O O (by first | assumption | (simp; done))) ?_ | refine zaq rfl (zTq O O O O O O O (by omega)) ?_ | refine zaq rfl (zsq O O O O O O (by omega)) ?_ | refine zaq O O ?_
 refine yKq O O ?_;first | refine zaq rfl (zBq O O O O O O O (by first | assumption | (simp; done))) ?_ | refine zaq rfl (zTq O O O O O O O (by omega)) ?_ | refine zaq rfl (zsq O O O O O O (by omega)) ?_ | refine zaq O O ?_
 refine yKq O O ?_;first | refine zaq rfl (zBq O O O O O O O (by first | assumption | (simp; done))) ?_ | refine zaq rfl (zTq O O O O O O O (by omega)) ?_ | refine zaq rfl (zsq O O O O O O (by omega)) ?_ | refine zaq O O ?_
 refine yKq O O ?_;first | refine zaq rfl (zBq O O O O O O O (by first | assumption | (simp; done))) ?_ | refine zaq rfl (zTq O O O O O O O (by omega)) ?_ | refine zaq rfl (zsq O O O O O O (by omega)) ?_ | refine zaq O O ?_
 refine yKq O O ?_;first | refine zaq rfl (zBq O O O O O O O (by first | assumption | (simp; done))) ?_ | refine zaq rfl (zTq O O O O O O O (by omega)) ?_ | refine zaq rfl (zsq O O O O O O (by omega)) ?_ | refine zaq O O ?_
 refine yKq O O ?_;first | refine zaq rfl (zBq O O O O O O O (by first | assumption | (simp; done))) ?_ | refine zaq rfl (zTq O O O O O O O (by omega)) ?_ | refine zaq rfl (zsq O O O O O O (by omega)) ?_ | refine zaq O O ?_
 refine zjq 15 O ?_;refine zlq O O O O O O (qMq _ (by simp) _) ?_;refine zbq O O (zlq O O O O O O (qMq _ (by simp) _) ?_);refine zcq 2 O ?_;refine zlq O O O O O O (qMq _ (by simp) _) ?_;refine zcq 6 O ?_;refine zkq (w' := wd (notN v.e)) O O (wrap_not hv.e) ?_;refine zcq 14 O ?_;refine zlq O O O O O O (qMq _ (by simp) _) ?_;refine zbq O O (zlq O O O O O O (qMq _ (by simp) _) ?_);refine zcq 2 O ?_;refine zlq O O O O O O (qMq _ (by simp) _) ?_;refine zcq 35 O ?_;exact zfq (.inr rfl) O O
end
section
attribute [local irreducible] CoW OpW FlW Step Spec
variable {G : Nat -> Option W}
theorem words_s : PS cfg G 251 [] (.arr 64 1 (kW.map wd)) := by
 refine zOq (fn := Tryz.f251) O O O (Ob rfl) (fun R k0 => ?_);refine zgq 12 O ?_;exact zfq (.inr rfl) O O
noncomputable def horn (bs : Nat -> Nat) (t : Nat) : Nat -> Nat
 | 0 => 0
 | i + 1 => addN (256 * horn bs t i % 4294967296) (bs (4 * t + i))
theorem horn_word {bs : Nat -> Nat} (hb : ∀ i, bs i < 256) (t : Nat) : horn bs t 4 = wordN (bs (4 * t)) (bs (4 * t + 1)) (bs (4 * t + 2)) (bs (4 * t + 3)) := by
 have h0 := hb (4 * t);have h1 := hb (4 * t + 1);have h2 := hb (4 * t + 2);have h3 := hb (4 * t + 3);rw [word_eq h0 h1 h2 h3];have e1 := Nat.shiftLeft_add_eq_or_of_lt (i := 8) (b := bs (4 * t + 1)) (by omega) (bs (4 * t));have s : ∀ a i : Nat, Nat.shiftLeft a i = a * 2 ^ i := fun a i => Nat.shiftLeft_eq a i
 have o1 : Nat.lor (Nat.shiftLeft (bs (4 * t)) 24) (Nat.shiftLeft (bs (4 * t + 1)) 16) = bs (4 * t) * 16777216 + bs (4 * t + 1) * 65536 := by
  have := Nat.shiftLeft_add_eq_or_of_lt (i := 24) (b := bs (4 * t + 1) * 65536) (by omega) (bs (4 * t));rw [Nat.shiftLeft_eq] at this;rw [s (bs (4 * t + 1)) 16];show bs (4 * t) <<< 24 ||| (bs (4 * t + 1) * 2 ^ 16) = _
  rw [Nat.shiftLeft_eq];exact this.symm
 have o2 : Nat.lor (bs (4 * t) * 16777216 + bs (4 * t + 1) * 65536) (Nat.shiftLeft (bs (4 * t + 2)) 8) = bs (4 * t) * 16777216 + bs (4 * t + 1) * 65536 + bs (4 * t + 2) * 256 := by
  have q : bs (4 * t) * 16777216 + bs (4 * t + 1) * 65536 = (bs (4 * t) * 256 + bs (4 * t + 1)) * 65536 := by rw [Nat.add_mul, Nat.mul_assoc]
  have := Nat.shiftLeft_add_eq_or_of_lt (i := 16) (b := bs (4 * t + 2) * 256) (by omega) (bs (4 * t) * 256 + bs (4 * t + 1));rw [Nat.shiftLeft_eq, show (2 : Nat) ^ 16 = 65536 from rfl] at this;rw [s];show (bs (4 * t) * 16777216 + bs (4 * t + 1) * 65536) ||| (bs (4 * t + 2) * 256) = _
  rw [q];exact this.symm
 have o3 : Nat.lor (bs (4 * t) * 16777216 + bs (4 * t + 1) * 65536 + bs (4 * t + 2) * 256) (bs (4 * t + 3)) = bs (4 * t) * 16777216 + bs (4 * t + 1) * 65536 + bs (4 * t + 2) * 256 + bs (4 * t + 3) := by
  have q : bs (4 * t) * 16777216 + bs (4 * t + 1) * 65536 + bs (4 * t + 2) * 256 = (bs (4 * t) * 65536 + bs (4 * t + 1) * 256 + bs (4 * t + 2)) * 256 := by rw [Nat.add_mul, Nat.add_mul, Nat.mul_assoc, Nat.mul_assoc]
  have := Nat.shiftLeft_add_eq_or_of_lt (i := 8) (b := bs (4 * t + 3)) (by omega) (bs (4 * t) * 65536 + bs (4 * t + 1) * 256 + bs (4 * t + 2));rw [Nat.shiftLeft_eq, show (2 : Nat) ^ 8 = 256 from rfl] at this;show (bs (4 * t) * 16777216 + bs (4 * t + 1) * 65536 + bs (4 * t + 2) * 256) ||| bs (4 * t + 3) = _
  rw [q];exact this.symm
 rw [o1, o2, o3];simp only [horn, addN];rw [show 4 * t + 0 = 4 * t from rfl];omega
end
section
attribute [local irreducible] CoW OpW FlW Step Spec
variable {G : Nat -> Option W}
noncomputable def bsL (l : List UInt8) : Nat -> Nat := atL (l.map UInt8.toNat)
theorem bsL_lt (l : List UInt8) (i : Nat) : bsL l i < 256 := small_at (fun b hb => by obtain ⟨c, _, rfl⟩ := List.mem_map.1 hb; exact c.toNat_lt) i
theorem bsL_at {l : List UInt8} {i : Nat} (h : i < l.length) : (zeq l)[i]? = some (.int .u8 ((bsL l i : Nat) : Int)) := by
 unfold zeq bsL atL;rw [List.getElem?_map, List.getElem?_eq_getElem h];simp [List.getD, List.getElem?_eq_getElem h]
theorem pad0_snoc {L : List Nat} {n : Nat} (h : L.length < n) : pad0 (L ++ [0]) n = pad0 L n := by
 unfold pad0;rw [show n - L.length = (n - (L ++ [0]).length) + 1 by simp; omega, List.replicate_succ, List.append_assoc];rfl
theorem pad0_last {L : List Nat} {n x : Nat} (h : L.length < n) : ((pad0 (L ++ [x]) n).map wd)[L.length]? = some (wd x) := by
 rw [pad0_at (by simp)];simp [List.getD]
theorem pad0_turn {L : List Nat} {n x y : Nat} (h : L.length < n) : ((pad0 (L ++ [x]) n).map wd).set L.length (wd y) = (pad0 (L ++ [y]) n).map wd := by
 rw [<- List.map_set];congr 1
 unfold pad0;rw [show (L ++ [x]).length = (L ++ [y]).length by simp, List.append_assoc, List.append_assoc, List.set_append_right _ _ (Nat.le_refl _), Nat.sub_self];rfl
noncomputable def schH (L : List Nat) : HpW := [(1, 355, .arr 64 1 ((pad0 L 64).map wd)), (0, 355, .arr 64 1 (List.replicate 64 (wd 0)))]
theorem sched_s (l : List UInt8) (f : Bool) (hl : l.length = 64) : PS cfg G 252 [.fz (zeq l) 1 f] (.arr 64 1 ((yxq (bsL l) 64).map wd)) := by
 obtain ⟨bs, eb⟩ : ∃ bs, bsL l = bs := ⟨_, rfl⟩
 have hb : ∀ i, bs i < 256 := fun i => by rw [<- eb]; exact bsL_lt l i
 have hat : ∀ i, i < 64 -> (zeq l)[i]? = some (.int .u8 ((bs i : Nat) : Int)) := fun i hi => by rw [<- eb]; exact bsL_at (by omega)
 rw [eb];refine zOq (fn := Tryz.f252) O O O (Ob rfl) (fun R k0 => ?_);refine zgq 17 O ?_;refine qDq (α := Nat) (fun t => t <= 16) (fun t => [(4, .int .i64 (t : Int))]) [(0, _), (2, _), (3, _)] (fun t => schH (yxq bs t)) (fun t => 16 - t) (0) ⟨rfl, rfl, rfl, trivial⟩ (Nat.zero_le _) ⟨rfl, trivial⟩ (rfl) (fun t hI => ?_);have hsl := k9q bs t;refine zgq 7 O ?_;refine zzq rfl (fun h1 => ?_) (fun h1 => ?_)
 ·have ht : t < 16 := by omega
  refine zdq 10 O ?_;refine qDq (α := Nat) (fun i => i <= 4) (fun i => [(5, .int .i64 (i : Int))]) [(0, _), (2, _), (3, _), (4, _), (9, _), (10, _)] (fun i => schH (yxq bs t ++ [horn bs t i])) (fun i => 4 - i) (0) ⟨rfl, rfl, rfl, rfl, rfl, rfl, trivial⟩ (Nat.zero_le _) ⟨rfl, trivial⟩ (by show schH (yxq bs t) = schH (yxq bs t ++ [0]); unfold schH; rw [pad0_snoc (by omega)]) (fun i hI => ?_);have hc := hb (4 * t + i);have hL : ((pad0 (yxq bs t ++ [horn bs t i]) 64).map wd)[0 + t * 1]? = some (wd (horn bs t i)) := by have := pad0_last (L := yxq bs t) (n := 64) (x := horn bs t i) (by omega); rw [hsl] at this; rw [Nat.zero_add, Nat.mul_one]; exact this
  refine zgq 7 O ?_;refine zzq rfl (fun h2 => ?_) (fun h2 => ?_)
  ·have hi : i < 4 := by omega
   have hset : ((pad0 (yxq bs t ++ [horn bs t i]) 64).map wd).set (0 + t * 1) (wd (horn bs t (i + 1))) = (pad0 (yxq bs t ++ [horn bs t (i + 1)]) 64).map wd := by have := pad0_turn (L := yxq bs t) (n := 64) (x := horn bs t i) (y := horn bs t (i + 1)) (by omega); rw [hsl] at this; rw [Nat.zero_add, Nat.mul_one]; exact this
   refine zdq 7 O ?_;refine zaq rfl (zsq (i := t) O O O O O O (by omega)) ?_;refine yoq rfl (ysq O O O (yQq hL rfl)) (by first | rfl | kernel_rfl) ?_;refine qvq (w' := wd (256 * horn bs t i % 4294967296)) O O O ?_;refine zjq 2 O ?_;refine qgq (4 * t) O O (by first | rfl | omega) ⟨by omega, by omega⟩ ?_;refine zaq O O (qgq (4 * t + i) O O (by first | rfl | omega) ⟨by omega, by omega⟩ ?_);refine zaq rfl (zBq (i := 4 * t + i) O O O O O O O (hat _ (by omega))) ?_;refine yKq O O ?_;refine qgq (bs (4 * t + i)) O O (by first | rfl | omega) ⟨by omega, by omega⟩ ?_;refine qvq (w' := wd (horn bs t (i + 1))) O O O (zaq rfl (zsq (i := t) O O O O O O (by omega)) ?_);refine yoq rfl (q3q O O O O O (qnq hL O O) rfl) (by first | rfl | kernel_rfl) ?_;refine zjq 5 O ?_;refine zoq (i + 1) O O (by first | rfl | omega) ⟨by omega, by omega⟩ ?_;refine yNq 2 O ?_;skip
   exact q4q (i + 1) hi (by omega) ⟨rfl, trivial⟩ ⟨rfl, rfl, rfl, rfl, rfl, rfl, trivial⟩ (by unfold schH; exact congrArg (fun q => [(1, 355, W.arr 64 1 q), (0, 355, W.arr 64 1 (List.replicate 64 (wd 0)))]) hset)
  ·have hi : i = 4 := by omega
   subst hi
   have hnx : yxq bs (t + 1) = yxq bs t ++ [horn bs t 4] := by
    rw [horn_word hb];show yxq bs t ++ [xeq bs (yxq bs t)] = _;unfold xeq;rw [hsl, show Nat.blt t 16 = true from Nat.ble_eq_true_of_le ht]
   refine zdq 2 O ?_;refine qTq (by intro h; cases h) ?_;refine zAq 5 O ?_;refine zoq (t + 1) O O (by first | rfl | omega) ⟨by omega, by omega⟩ ?_;refine yNq 2 O ?_;skip
   exact q4q (t + 1) ht (by omega) ⟨rfl, trivial⟩ ⟨rfl, rfl, rfl, trivial⟩ (by rw [hnx])
 ·have ht : t = 16 := by omega
  subst ht;refine zdq 2 O ?_;refine qTq (by intro h; cases h) ?_;refine zAq 9 O ?_;refine qDq (α := Nat) (fun u => 16 <= u /\ u <= 64) (fun u => [(6, .int .i64 (u : Int))]) [(2, _), (3, _)] (fun u => schH (yxq bs u)) (fun u => 64 - u) (16) ⟨rfl, rfl, trivial⟩ (⟨by omega, by omega⟩) ⟨rfl, trivial⟩ (rfl) (fun u hI => ?_);obtain ⟨g1, g2⟩ := hI;have hsu := k9q bs u;refine zgq 7 O ?_;refine zzq rfl (fun h2 => ?_) (fun h2 => ?_)
  ·have hu : u < 64 := by omega
   obtain ⟨L, eL⟩ : ∃ L, yxq bs u = L := ⟨_, rfl⟩
   rw [eL] at hsu ⊢;have hat2 : ∀ i, i < u -> ((pad0 L 64).map wd)[0 + i * 1]? = some (wd (L.getD i 0)) := fun i hi => by rw [Nat.zero_add, Nat.mul_one]; exact pad0_at (by omega)
   have hge : ((pad0 L 64).map wd)[0 + u * 1]? = some (wd 0) := by have := pad0_ge (l := L) (n := 64) (by omega); rw [hsu] at this; rw [Nat.zero_add, Nat.mul_one]; exact this
   have hnx : xeq bs L = addN (addN (addN (L.getD (u - 16) 0) (xorN (xorN (rotN (L.getD (u - 15) 0) 7) (rotN (L.getD (u - 15) 0) 18)) (shrN (L.getD (u - 15) 0) 3))) (L.getD (u - 7) 0)) (xorN (xorN (rotN (L.getD (u - 2) 0) 17) (rotN (L.getD (u - 2) 0) 19)) (shrN (L.getD (u - 2) 0) 10)) := by
    have hbl : Nat.blt u 16 = false := by
     cases hq : Nat.blt u 16 with
     | false => rfl
     | true => have := Ob hq; omega
    unfold xeq;rw [hsu, hbl]
   have hset : ((pad0 L 64).map wd).set (0 + u * 1) (wd (xeq bs L)) = (pad0 (yxq bs (u + 1)) 64).map wd := by
    have := pad0_set (l := L) (n := 64) (x := xeq bs L) (by omega);rw [hsu] at this;rw [Nat.zero_add, Nat.mul_one, this];show _ = (pad0 (yxq bs u ++ [xeq bs (yxq bs u)]) 64).map wd;rw [eL]
   refine zdq 7 O ?_;refine qgq (u - 15) O O (by first | rfl | omega) ⟨by omega, by omega⟩ ?_;refine zaq rfl (zsq (i := u - 15) O O O O O O (by omega)) ?_;refine yoq rfl (ysq O O O (yQq (hat2 (u - 15) (by omega)) rfl)) (by first | rfl | kernel_rfl) ?_;refine zaq O O (qgq (u - 2) O O (by first | rfl | omega) ⟨by omega, by omega⟩ ?_);refine zaq rfl (zsq (i := u - 2) O O O O O O (by omega)) ?_;refine yoq rfl (ysq O O O (yQq (hat2 (u - 2) (by omega)) rfl)) (by first | rfl | kernel_rfl) ?_;refine zjq 7 O ?_;refine qgq (u - 16) O O (by first | rfl | omega) ⟨by omega, by omega⟩ ?_;refine zaq rfl (zsq (i := u - 16) O O O O O O (by omega)) ?_;refine yoq rfl (ysq O O O (yQq (hat2 (u - 16) (by omega)) rfl)) (by first | rfl | kernel_rfl) ?_;refine zaq O O ?_;refine y2q O O O O O O (qMq _ (by simp) _) ?_;refine zaq O O ?_;refine y2q O O O O O O (qMq _ (by simp) _) ?_;refine zjq 6 O ?_;refine qgq (u - 7) O O (by first | rfl | omega) ⟨by omega, by omega⟩ ?_;refine zaq rfl (zsq (i := u - 7) O O O O O O (by omega)) ?_;refine yoq rfl (ysq O O O (yQq (hat2 (u - 7) (by omega)) rfl)) (by first | rfl | kernel_rfl) ?_;refine zjq 2 O ?_;refine y2q O O O O O O (qMq _ (by simp) _) ?_;refine zaq O O ?_;refine y2q O O O O O O (qMq _ (by simp) _) ?_;refine zjq 4 O ?_;refine qvq (w' := wd (xeq bs L)) O O (by rw [hnx]; rfl) ?_;refine zaq rfl (zsq (i := u) O O O O O O (by omega)) ?_;refine yoq rfl (q3q O O O O O (qnq hge O O) rfl) (by first | rfl | kernel_rfl) ?_;refine zjq 5 O ?_;refine zoq (u + 1) O O (by first | rfl | omega) ⟨by omega, by omega⟩ ?_;refine yNq 2 O ?_;skip
   exact q4q (u + 1) ⟨by omega, hu⟩ (by omega) ⟨rfl, trivial⟩ ⟨rfl, rfl, trivial⟩ (by unfold schH; exact congrArg (fun q => [(1, 355, W.arr 64 1 q), (0, 355, W.arr 64 1 (List.replicate 64 (wd 0)))]) hset)
  ·have hu : u = 64 := by omega
   subst hu;refine zdq 2 O ?_;refine qTq (by intro h; cases h) ?_;refine zAq 9 O ?_;have ep : pad0 (yxq bs 64) 64 = yxq bs 64 := by unfold pad0; rw [hsu]; simp
   exact zfq (.inr rfl) rfl (by rw [ep])
end
section
attribute [local irreducible] CoW OpW FlW Step Spec
variable {G : Nat -> Option W}
def padJ (l : List UInt8) (j : Nat) : List UInt8 := l ++ [128] ++ List.replicate j 0
theorem uyq (l : List UInt8) (j : Nat) : (padJ l j).length = l.length + 1 + j := by simp [padJ]; omega
theorem padJ_next (l : List UInt8) (j : Nat) : zeq (padJ l (j + 1)) = zeq (padJ l j) ++ zeq [0] := by
 rw [<- qjq];congr 1
 unfold padJ;rw [List.append_assoc (l ++ [128]), <- List.replicate_succ']
noncomputable def padH (l : List UInt8) (j : Nat) : HpW := [(0, 5, .arr (padJ l j).length 1 (zeq (padJ l j)))]
def padR (l : List UInt8) : List UInt8 := padJ l ((119 - l.length % 64) % 64) ++ beB 8 (8 * l.length)
theorem padded_s (l : List UInt8) (f : Bool) (hl : l.length < 2147483648) : PS cfg G 250 [.fz (zeq l) 1 f] (bW (padR l)) := by
 have el : (zeq l).length = l.length := zvq l;refine vqq (fn := Tryz.f250) O O O (Ob rfl) (fun R k0 => ?_);refine zgq 14 O ?_;refine Yeq (fun _ => vAq (fr2 := [(0, .fz (zeq l) 1 f), (2, .nils), (7, gW 0 1 []), (8, .fz (zeq l) 1 f)]) ⟨rfl, rfl, rfl, rfl, trivial⟩) ?_; refine op_grow (b := 0) (xs := []) (news := zeq l) (k := ti5) (H0 := []) [] [(0, .fz (zeq l) 1 f), (2, .nils)] O O O O O O O O O O O (by show (0 + (zeq l).length) * 1 <= _; omega) (by show 0 + (zeq l).length <= _; omega) rfl (by simp) (by omega) (by omega) ⟨rfl, rfl, trivial⟩ rfl ⟨ziq (show purW (.fz (zeq l) 1 f) = true from qEq l), rfl, trivial⟩ (by simp) trivial (by simp) ?_
 refine zcq 7 O ?_;refine op_grow (b := 0) (xs := zeq l) (news := zeq [128]) (k := ti5) (H0 := []) [_] [(0, .fz (zeq l) 1 f), (2, .nils)] O O O O O O O O O O (qXq O O O O) (by show ((zeq l).length + 1) * 1 <= _; omega) (by show (zeq l).length + 1 <= _; omega) rfl (by simp) (by omega) (by omega) ⟨rfl, rfl, trivial⟩ rfl ⟨ziq (show purW (.fz (zeq l) 1 f) = true from qEq l), rfl, trivial⟩ (by rw [<- qjq]; simp) trivial (by simp) ?_;refine zcq 5 O ?_;have e0 : zeq l ++ zeq [128] = zeq (padJ l 0) := by rw [<- qjq]; congr 1; simp [padJ]
 have hne : zeq (padJ l 0) ≠ [] := fun h => by have := congrArg List.length h; rw [zvq, uyq] at this; simp at this
 have htm : ∀ n : Nat, ((n : Int)).tmod 64 = ((n % 64 : Nat) : Int) := fun n => by rw [Int.tmod_eq_emod_of_nonneg (by omega)]; omega
 refine qJq (α := Nat) (fun j => ∀ i, i < j -> (l.length + 1 + i) % 64 ≠ 56) (fun j => [(3, .sl 0 0 0 (padJ l j).length 1 none), (0, .fz (zeq l) 1 f), (2, .nils)]) (fun j => padH l j) (fun _ => 1) (fun _ => R) (fun j => 64 - j) 0 (fun i hi => absurd hi (by omega)) (ynq ⟨by show some (gW 0 1 (zeq l ++ zeq [128])) = _; rw [e0, Ziq hne, zvq], rfl, rfl, trivial⟩ (by show [] ++ gH 0 5 1 (zeq l ++ zeq [128]) = padH l 0; rw [e0, Zjq hne, zvq, Nat.mul_one]; rfl) rfl) (fun j hj => ?_);skip
 have hj64 : j < 64 := by
  refine Nat.lt_of_not_le fun h => ?_
  have := hj ((56 + 64 - (l.length + 1) % 64) % 64) (by omega);omega
 have hlj := uyq l j;refine zgq 4 O ?_;refine zkq (w' := .int .i64 ((l.length + 1 + j : Nat) : Int)) O O (by rw [<- hlj]; rfl) ?_;refine zkq O O (congrArg (W.int .i64) (htm _)) ?_;refine zcq 3 O ?_;refine zzq rfl (fun h1 => ?_) (fun h1 => ?_)
 ·have h1 : ¬ (((l.length + 1 + j) % 64 : Nat) : Int) = 56 := h1;refine zdq 6 O ?_;refine zwq rfl (qhq O O (j7q (k := ti5) (len := (padJ l j).length) (news := zeq [0]) (olds := zeq (padJ l j)) O O O O (qXq O O O O) (by simp [zeq]) (by show ((padJ l j).length + 1) * 1 <= _; omega) (by show (padJ l j).length + 1 <= _; omega) rfl (by show (padJ l j).length < 0 + ((padJ l j).length + 1) * 1; omega) rfl (zUq (by decide) (zvq _).symm (Nat.mul_one _).symm))) ?_;refine zcq 3 O ?_;have hl2 : (padJ l j).length + 1 = (padJ l (j + 1)).length := by rw [uyq, uyq]; omega
  have hp : purW (.fz (zeq l) 1 f) = true := qEq l;skip
  refine yIq (j + 1) (fun i hi => ?_) (show 64 - (j + 1) < 64 - j by omega) ?_
  ·rcases Nat.lt_succ_iff_lt_or_eq.1 hi with h | rfl
   ·exact hj i h
   ·omega
  ·refine qCq (b := 0) (k := 2) (by omega) (by omega) (by show 2 < 3; omega) ⟨⟨?_, rfl⟩, ⟨by rw [yfq hp]; rfl, ziq hp⟩, ⟨rfl, rfl⟩, trivial⟩ ⟨⟨by show 0 < 1; omega, ?_, ziq (show purW (.arr _ 1 (zeq _)) = true from qEq _)⟩, trivial⟩ (by show ([0] : List Nat).Nodup; simp)
   ·show some (W.sl 2 0 0 ((padJ l j).length + 1) 1 none) = some (W.sl 2 0 0 (padJ l (j + 1)).length 1 none);rw [hl2]
   ·show some (5, W.arr (((padJ l j).length + 1) * 1) 1 (zeq (padJ l j) ++ zeq [0])) = some (5, renW _ (W.arr (padJ l (j + 1)).length 1 (zeq (padJ l (j + 1)))));rw [yfq (show purW (.arr _ 1 (zeq _)) = true from qEq _), hl2, padJ_next, Nat.mul_one]
 ·have h56 : (l.length + 1 + j) % 64 = 56 := by omega
  obtain rfl : j = (119 - l.length % 64) % 64 := by omega
  generalize hj0 : (119 - l.length % 64) % 64 = j at *
  refine zdq 2 O ?_;refine qTq (by intro h; cases h) ?_;refine zAq 5 O ?_;refine zkq (w' := .int .i64 (l.length : Int)) O O (by rw [<- el]; rfl) ?_;first | refine yAq O O ⟨by omega, by omega⟩ ?_ | refine zbq O O ?_
  refine zoq (8 * l.length) O O (by first | rfl | omega) ⟨by omega, by omega⟩ ?_;refine zcq 15 O ?_;obtain ⟨n, en⟩ : ∃ n, n = 8 * l.length := ⟨_, rfl⟩
  rw [<- en];have hn : n < 18446744073709551616 := by omega
  refine qDq (α := Nat × Nat) (fun p => p.1 <= 8 /\ p.2 = n / 256 ^ p.1) (fun p => [(6, .int .i64 ((7 : Int) - (p.1 : Int))), (4, .int .u64 (p.2 : Nat))]) [(2, _), (3, _), (5, _)] (fun p => (1, 364, .arr 8 1 (zeq (List.replicate (8 - p.1) 0 ++ beB p.1 n))) :: padH l j) (fun p => 8 - p.1) ((0, n)) ⟨rfl, rfl, rfl, trivial⟩ (⟨Nat.zero_le _, by simp⟩) ⟨rfl, rfl, trivial⟩ (rfl) (fun p hI => ?_);obtain ⟨i, q⟩ := p;obtain ⟨g1, g2⟩ := hI;simp only at g1 g2 ⊢;have hlt : q < 18446744073709551616 := by rw [g2]; exact Nat.lt_of_le_of_lt (Nat.div_le_self _ _) hn
  refine zgq 7 O ?_;refine zzq rfl (fun h2 => ?_) (fun h2 => ?_)
  ·have hi : i < 8 := by omega
   have hq : q / 256 = n / 256 ^ (i + 1) := by rw [g2, Nat.div_div_eq_div_mul, <- Nat.pow_succ]
   have hset := be_set n 8 i hi;rw [<- g2] at hset;refine zdq 6 O ?_;refine zkq (w' := .int .i64 ((8 - 1 - i : Nat) : Int)) O O (by congr 1; omega) ?_;refine zbq O O (zkq (w' := .int .u64 ((q % 256 : Nat) : Int)) O O (congrArg (W.int .u64) (kvq q 256)) (zoq (q % 256) O O (by first | rfl | omega) ⟨by omega, by omega⟩ ?_));refine zbq rfl (zsq (i := 8 - 1 - i) O O O O O O (by omega)) ?_;refine zwq rfl (q3q O O O O O (qnq (be_at n 8 i hi) O O) (congrArg (fun L => (1, 364, W.arr 8 1 L) :: padH l j) hset)) ?_;refine zcq 4 O ?_;refine zoq (q / 256) O O (j1q q 256) ⟨by omega, by omega⟩ ?_;refine zcq 6 O ?_;refine op_z ((7 : Int) - ((i + 1 : Nat) : Int)) O O (by omega) ⟨by omega, by omega⟩ ?_;refine yNq 2 O ?_;exact q4q ((i + 1, q / 256)) (⟨hi, hq⟩) (by simp only; omega) ⟨rfl, rfl, trivial⟩ ⟨rfl, rfl, rfl, trivial⟩ rfl
  ·have hi : i = 8 := by omega
   subst hi;have hN : (zeq (beB 8 n)).length = 8 := by rw [zvq, viq]
   refine zdq 2 O ?_;refine qTq (by intro h; cases h) ?_;refine zAq 6 O ?_;refine zwq rfl (qhq O O (j7q (k := ti5) (len := (padJ l j).length) (news := zeq (beB 8 n)) (olds := zeq (padJ l j)) O O O O (qXq O O O (zUq (by decide) hN.symm rfl)) (by intro h; rw [h] at hN; cases hN) (by rw [hN]; show (_ + 8) * 1 <= _; omega) (by rw [hN]; omega) rfl (by rw [hN]; show (padJ l j).length < 0 + (_ + 8) * 1; omega) rfl (zUq (by decide) (zvq _).symm (Nat.mul_one _).symm))) ?_;refine zcq 4 O ?_;have er : zeq (padR l) = zeq (padJ l j) ++ zeq (beB 8 n) := by unfold padR; rw [hj0, <- en, qjq]
   have el2 : (padR l).length = (padJ l j).length + (zeq (beB 8 n)).length := by rw [<- zvq, er, List.length_append, zvq (padJ l j)]
   exact uGq (.inr rfl) rfl (.sl (full := false) (c := .arr (padR l).length 1 (zeq (padR l))) (xs := zeq (padR l)) (by show some (W.arr (((padJ l j).length + (zeq (beB 8 n)).length) * 1) 1 (zeq (padJ l j) ++ zeq (beB 8 n))) = _; rw [er, el2, Nat.mul_one]) (show purW (.arr _ 1 (zeq _)) = true from qEq _) (by rw [<- el2]; exact zUq (by decide) (zvq _).symm (Nat.mul_one _).symm) (by intro h; cases h))
end
theorem next_congr {bs bs' : Nat -> Nat} (h : ∀ i, i < 64 -> bs i = bs' i) (L : List Nat) : xeq bs L = xeq bs' L := by
 unfold xeq;cases hq : Nat.blt L.length 16 with
 | false => rfl
 | true =>
  have hn : L.length < 16 := Ob hq;show wordN (bs (4 * L.length)) (bs (4 * L.length + 1)) (bs (4 * L.length + 2)) (bs (4 * L.length + 3)) = wordN (bs' (4 * L.length)) (bs' (4 * L.length + 1)) (bs' (4 * L.length + 2)) (bs' (4 * L.length + 3));rw [h (4 * L.length) (by omega), h (4 * L.length + 1) (by omega), h (4 * L.length + 2) (by omega), h (4 * L.length + 3) (by omega)]
theorem vXq {bs bs' : Nat -> Nat} (h : ∀ i, i < 64 -> bs i = bs' i) : ∀ n, yxq bs n = yxq bs' n
 | 0 => rfl
 | n + 1 => by
  have ih := vXq h n;show yxq bs n ++ [xeq bs (yxq bs n)] = yxq bs' n ++ [xeq bs' (yxq bs' n)];rw [ih, next_congr h]
theorem ZNq {bs bs' : Nat -> Nat} (h : ∀ i, i < 64 -> bs i = bs' i) (s : S8) : jfq bs s = jfq bs' s := by
 unfold jfq;rw [vXq h]
theorem atL_app {a b : List Nat} {i : Nat} (h : i < a.length) : atL (a ++ b) i = atL a i := by
 unfold atL;simp [List.getD, List.getElem?_append_left h]
theorem eats_app : ∀ (k : Nat) (s : S8) (b t : List Nat), b.length <= k -> 1 <= t.length -> qOq (b ++ t).length s (b ++ t) = qOq ((eats s b).2 ++ t).length (eats s b).1 ((eats s b).2 ++ t)
 | 0, s, b, t, hb, ht => by
  have e : eats s b = (s, b) := jIq _ _ _ (by omega);rw [e]
 | k + 1, s, b, t, hb, ht => by
  by_cases h : b.length < 64
  ·have e : eats s b = (s, b) := jIq _ _ _ h;rw [e]
  ·have h64 : 64 <= b.length := by omega
   have ed : (b ++ t).drop 64 = b.drop 64 ++ t := List.drop_append_of_le_length h64;rw [Zwq h64, ubq (by rw [List.length_append]; omega), ed, ZNq (fun i hi => atL_app (by omega)) s];exact eats_app k _ (b.drop 64) t (by rw [List.length_drop]; omega) ht
theorem eats_mod : ∀ (k : Nat) (s : S8) (b : List Nat), b.length <= k -> (eats s b).2.length = b.length % 64
 | 0, s, b, hb => by
  have e : eats s b = (s, b) := jIq _ _ _ (by omega);rw [e]; show b.length = _; omega
 | k + 1, s, b, hb => by
  by_cases h : b.length < 64
  ·have e : eats s b = (s, b) := jIq _ _ _ h;rw [e]; show b.length = _; omega
  ·have h64 : 64 <= b.length := by omega
   rw [Zwq h64, eats_mod k _ _ (by rw [List.length_drop]; omega), List.length_drop];omega
theorem be8_len8 {n : Nat} (hn : n < 2147483648) : (beB 8 (8 * n)).map UInt8.toNat = len8 n := by
 have e : ∀ i, Nat.shiftRight (8 * n % 18446744073709551616) i % 256 = 8 * n / 2 ^ i % 256 := fun i => by
  have h8 : 8 * n % 18446744073709551616 = 8 * n := Nat.mod_eq_of_lt (by omega);rw [h8];show (8 * n) >>> i % 256 = _;rw [Nat.shiftRight_eq_div_pow]
 have t : ∀ x : Nat, (UInt8.ofNat (x % 256)).toNat = x % 256 := fun x => by simp
 simp only [beB, len8, List.map_cons, List.map_nil, e, t]
theorem sha_one (l : List UInt8) (hl : l.length < 2147483648) : shaN [l.map UInt8.toNat] = digN (qOq ((padR l).map UInt8.toNat).length s0 ((padR l).map UInt8.toNat)) := by
 obtain ⟨b, eb⟩ : ∃ b, l.map UInt8.toNat = b := ⟨_, rfl⟩
 have el : b.length = l.length := by rw [<- eb, List.length_map]
 have ht : y4q [b] = l.length := by show b.length + 0 = _; omega
 have hm := eats_mod b.length s0 b (Nat.le_refl _)
 have er : (padR l).map UInt8.toNat = b ++ ([128] ++ List.replicate ((119 - l.length % 64) % 64) 0 ++ len8 l.length) := by
  unfold padR padJ;rw [List.map_append, List.map_append, List.map_append, be8_len8 hl, eb, List.append_assoc, List.append_assoc];simp [List.map_replicate]
 have ea : ([b].foldl xtq (s0, [])) = eats s0 b := rfl;rw [eb, er, eats_app b.length s0 b _ (Nat.le_refl _) (by simp)];have hp := pad_eq 64 ((eats s0 b).2 ++ [128]) (by omega)
 have hj : (120 - ((eats s0 b).2 ++ [128]).length % 64) % 64 = (119 - l.length % 64) % 64 := by
  rw [List.length_append, hm, el];simp only [List.length_cons, List.length_nil];omega
 rw [hj] at hp
 have e2 : padZ 64 ((eats s0 b).2 ++ [128]) ++ len8 l.length = (eats s0 b).2 ++ ([128] ++ List.replicate ((119 - l.length % 64) % 64) 0 ++ len8 l.length) := by
  rw [hp, List.append_assoc, List.append_assoc, List.append_assoc]
 have eS : shaN [b] = digN (qOq (padZ 64 (([b].foldl xtq (s0, [])).2 ++ [128]) ++ len8 (y4q [b])).length ([b].foldl xtq (s0, [])).1 (padZ 64 (([b].foldl xtq (s0, [])).2 ++ [128]) ++ len8 (y4q [b]))) := rfl;rw [eS, ea, ht, e2]
section
attribute [local irreducible] CoW OpW FlW Step Spec
variable {G : Nat -> Option W}
noncomputable def sumH (s : S8) : HpW := [(2, 355, .arr 64 1 (kW.map wd)), (1, 351, .arr 8 1 s.l), (0, 23, jsq)]
noncomputable def sumH2 (v : S8) (ws : List Nat) (L : List W) : HpW := [(4, 351, .arr 8 1 v.l), (3, 355, .arr 64 1 (ws.map wd)), (2, 355, .arr 64 1 (kW.map wd)), (1, 351, .arr 8 1 L), (0, 23, jsq)]
theorem s0_ok : s0.Ok := ⟨by decide, by decide, by decide, by decide, by decide, by decide, by decide, by decide⟩
theorem padR_len (l : List UInt8) : (padR l).length % 64 = 0 /\ (padR l).length <= l.length + 72 := by
 unfold padR;rw [List.length_append, uyq, viq];omega
theorem bsL_blk (M : List UInt8) (i : Nat) : ∀ k, k < 64 -> bsL ((M.drop (64 * i)).take 64) k = atL ((M.map UInt8.toNat).drop (64 * i)) k := fun k hk => by
 unfold bsL atL;rw [List.map_take, List.map_drop, List.getD_eq_getElem?_getD, List.getD_eq_getElem?_getD, List.getElem?_take_of_lt hk]
set_option maxHeartbeats 1600000 in
theorem rsum_s (l : List UInt8) (f : Bool) (hl : l.length < 2147483648) : PS cfg G 233 [.fz (zeq l) 1 f] (dW (shaD [l])) := by
 have hsha := sha_one l hl;obtain ⟨hm, hle⟩ := padR_len l
 have e3 : dW (shaD [l]) = .arr 32 1 (bN (shaN [l.map UInt8.toNat])) := by
  show W.arr 32 1 (zeq _) = _;rw [<- bytes_of (shaN_lt _)]; rfl
 rw [e3, hsha];have hpad := padded_s (G := G) l f hl;generalize padR l = M at *
 obtain ⟨MN, eMN⟩ : ∃ MN, M.map UInt8.toNat = MN := ⟨_, rfl⟩
 rw [eMN];have hMN : MN.length = M.length := by rw [<- eMN, List.length_map]
 have eM : (zeq M).length = M.length := zvq M;refine zOq (fn := Tryz.f233) O O O (Ob rfl) (fun R k0 => ?_);refine zgq 15 O ?_;refine zlq O O O O O O (hpad) ?_;refine zcq 5 O ?_;refine zlq O O O O O O (words_s) ?_;refine zcq 11 O ?_;refine qDq (α := S8 × Nat) (fun p => p.1.Ok /\ 64 * p.2 <= M.length /\ qOq MN.length s0 MN = qOq (MN.drop (64 * p.2)).length p.1 (MN.drop (64 * p.2))) (fun p => [(6, .int .i64 ((64 * p.2 : Nat) : Int))]) [(2, _), (3, _), (4, _), (5, _)] (fun p => sumH p.1) (fun p => M.length - 64 * p.2) ((s0, 0)) ⟨rfl, rfl, rfl, rfl, trivial⟩ (⟨s0_ok, Nat.zero_le _, rfl⟩) ⟨rfl, trivial⟩ (rfl) (fun p hI => ?_);obtain ⟨s, i⟩ := p;obtain ⟨hs, hi, heat⟩ := hI;simp only at hs hi heat ⊢;refine zgq 5 O ?_;refine zkq (w' := .int .i64 (M.length : Int)) O O (by rw [<- eM]; rfl) ?_;refine zcq 3 O ?_;refine zzq rfl (fun h1 => ?_) (fun h1 => ?_)
 ·have h1 : ((64 * i : Nat) : Int) < (M.length : Int) := h1;have hi2 : 64 * i + 64 <= M.length := by omega
  have hblk : ((M.drop (64 * i)).take 64).length = 64 := by rw [List.length_take, List.length_drop]; omega
  have ey : ((zeq M).drop (64 * i)).take (64 * i + 64 - 64 * i) = zeq ((M.drop (64 * i)).take 64) := by
   rw [show 64 * i + 64 - 64 * i = 64 by omega]; simp [zeq, List.map_take, List.map_drop]
  obtain ⟨ws, ews⟩ : ∃ ws, yxq (bsL ((M.drop (64 * i)).take 64)) 64 = ws := ⟨_, rfl⟩
  have hws : ws.length = 64 := by rw [<- ews]; exact k9q _ _
  have hsch := fun g => sched_s (G := G) ((M.drop (64 * i)).take 64) g hblk
  rw [ews] at hsch;have hW : ∀ t, t < 64 -> (ws.map wd)[0 + t * 1]? = some (wd (ws.getD t 0)) := fun t ht => by rw [Nat.zero_add, Nat.mul_one]; exact u7q (by omega)
  have hK : ∀ t, t < 64 -> (kW.map wd)[0 + t * 1]? = some (wd (kW.getD t 0)) := fun t ht => by rw [Nat.zero_add, Nat.mul_one]; exact u7q (by rw [kW_len]; exact ht)
  have hnew : jfq (bsL ((M.drop (64 * i)).take 64)) s = jfq (atL (MN.drop (64 * i))) s := by rw [<- eMN]; exact ZNq (bsL_blk M i) s
  have hadd : mix8 s (xaq ws s 64) 8 = (jfq (atL (MN.drop (64 * i))) s).l := by rw [<- hnew, <- ews]; rfl
  refine zdq 9 O ?_;refine zoq (64 * i + 64) O O (by first | rfl | omega) ⟨by omega, by omega⟩ ?_;refine zbq rfl (cut_fz (ys := zeq ((M.drop (64 * i)).take 64)) (l := 64 * i) (h := 64 * i + 64) O O O O O O O (by omega) (by omega) ey rfl) ?_;refine op_ps O O O O O O (hsch _) (by simp) (show purL (ws.map wd) = true from jAq (fun x => rfl) ws) ?_;refine zcq 18 O ?_;refine qDq (α := Nat) (fun t => t <= 64) (fun t => [(9, .int .i64 (t : Int))]) [(2, _), (3, _), (4, _), (5, _), (6, _), (7, _), (8, _), (18, _), (19, _), (20, _), (21, _), (24, _), (25, _), (26, _), (27, _), (28, _), (29, _), (30, _)] (fun t => sumH2 (xaq ws s t) ws s.l) (fun t => 64 - t) (0) ⟨rfl, rfl, rfl, rfl, rfl, rfl, rfl, rfl, rfl, rfl, rfl, rfl, rfl, rfl, rfl, rfl, rfl, rfl, trivial⟩ (Nat.zero_le _) ⟨rfl, trivial⟩ (rfl) (fun t hI => ?_);refine zgq 7 O ?_;refine zzq rfl (fun h2 => ?_) (fun h2 => ?_)
  ·have ht : t < 64 := by omega
   obtain ⟨v, ev⟩ : ∃ v, xaq ws s t = v := ⟨_, rfl⟩
   have hv : v.Ok := by rw [<- ev]; exact rounds_ok hs ws t
   have hKt := hK t ht;have hWt := hW t ht;have hnx : xaq ws s (t + 1) = roundN (kW.getD t 0) (ws.getD t 0) v := by rw [<- ev]; rfl
   rw [ev];generalize kW.getD t 0 = kt at *
   generalize ws.getD t 0 = wt at *
   refine zdq 7 O ?_;refine zaq rfl (zsq (i := t) O O O O O O (by omega)) ?_;refine yoq rfl (ysq O O O (yQq hKt rfl)) (by first | rfl | kernel_rfl) ?_;refine zaq O O (zaq rfl (zsq (i := t) O O O O O O (by omega)) ?_);refine yoq rfl (ysq O O O (yQq hWt rfl)) (by first | rfl | kernel_rfl) ?_;refine fl_ps O O O O O O (rround_s v hv kt wt) O O (by first | rfl | kernel_rfl) ?_;refine zjq 6 O ?_;refine zoq (t + 1) O O (by first | rfl | omega) ⟨by omega, by omega⟩ ?_;refine yNq 2 O ?_;skip
   exact q4q (t + 1) ht (by omega) ⟨rfl, trivial⟩ (by repeat (first | exact trivial | refine ⟨rfl, ?_⟩)) (by rw [hnx]; rfl)
  ·have ht : t = 64 := by omega
   subst ht;obtain ⟨v, ev⟩ : ∃ v, xaq ws s 64 = v := ⟨_, rfl⟩
   rw [ev] at hadd ⊢;refine zdq 2 O ?_;refine qTq (by intro h; cases h) ?_;refine zAq 8 O ?_;refine qDq (α := Nat) (fun j => j <= 8) (fun j => [(10, .int .i64 (j : Int))]) [(2, _), (3, _), (4, _), (5, _), (6, _), (7, _), (8, _), (9, _), (18, _), (19, _), (20, _), (21, _), (24, _), (25, _), (26, _), (27, _), (28, _), (29, _), (30, _), (31, _), (32, _)] (fun j => sumH2 v ws (mix8 s v j)) (fun j => 8 - j) (0) ⟨rfl, rfl, rfl, rfl, rfl, rfl, rfl, rfl, rfl, rfl, rfl, rfl, rfl, rfl, rfl, rfl, rfl, rfl, rfl, rfl, rfl, trivial⟩ (Nat.zero_le _) ⟨rfl, trivial⟩ (rfl) (fun j hI => ?_);refine zgq 7 O ?_;refine zzq rfl (fun h3 => ?_) (fun h3 => ?_)
   ·have hj : j < 8 := by omega
    have hq : j = 0 \/ j = 1 \/ j = 2 \/ j = 3 \/ j = 4 \/ j = 5 \/ j = 6 \/ j = 7 := by omega
    have g1 : (mix8 s v j)[0 + j * 1]? = some (wd (s.get j)) := by rcases hq with rfl | rfl | rfl | rfl | rfl | rfl | rfl | rfl <;> rfl
    have g2 : v.l[0 + j * 1]? = some (wd (v.get j)) := S8_at v hj;have g3 : (mix8 s v j).set (0 + j * 1) (wd (addN (s.get j) (v.get j))) = mix8 s v (j + 1) := by rcases hq with rfl | rfl | rfl | rfl | rfl | rfl | rfl | rfl <;> rfl
    generalize s.get j = x at *
    generalize v.get j = y at *
    refine zdq 6 O ?_;refine zaq rfl (zsq (i := j) O O O O O O (by omega)) ?_;refine yoq rfl (ysq O O O (yQq g1 rfl)) (by first | rfl | kernel_rfl) ?_;refine zaq O O (zaq rfl (zsq (i := j) O O O O O O (by omega)) ?_);refine yoq rfl (ysq O O O (yQq g2 rfl)) (by first | rfl | kernel_rfl) ?_;refine qvq (w' := wd (addN x y)) O O O (zaq rfl (zsq (i := j) O O O O O O (by omega)) ?_);refine yoq rfl (q3q O O O O O (qnq g1 O O) rfl) (by first | rfl | kernel_rfl) ?_;refine zjq 5 O ?_;refine zoq (j + 1) O O (by first | rfl | omega) ⟨by omega, by omega⟩ ?_;refine yNq 2 O ?_;skip
    exact q4q (j + 1) hj (by omega) ⟨rfl, trivial⟩ (by repeat (first | exact trivial | refine ⟨rfl, ?_⟩)) (congrArg (fun L => sumH2 v ws L) g3)
   ·have hj : j = 8 := by omega
    subst hj;rw [hadd];refine zdq 2 O ?_;refine qTq (by intro h; cases h) ?_;refine zAq 5 O ?_;refine zoq (64 * i + 64) O O (by first | rfl | omega) ⟨by omega, by omega⟩ ?_;refine yNq 2 O ?_;skip
    exact q_againH (jfq (atL (MN.drop (64 * i))) s, i + 1) ⟨block_ok _ _, by simp only; omega, by rw [heat, ubq (by simp; omega), List.drop_drop]; rfl⟩ (by simp only; omega) (Nat.zero_le _) ⟨rfl, trivial⟩ (by repeat (first | exact trivial | refine ⟨rfl, ?_⟩)) (by repeat (first | exact trivial | refine ⟨by first | rfl | exact ziq (by first | rfl | (simp; done)), ?_⟩)) (by repeat (first | exact trivial | refine ⟨by first | rfl | exact ziq (by first | rfl | (simp; done)), ?_⟩)) (by omega) (by repeat (first | exact trivial | refine ⟨⟨by decide, rfl, by first | rfl | exact ziq (by first | rfl | (simp; done))⟩, ?_⟩)) (by show ([2, 1, 0] : List Nat).Nodup; decide)
 ·have h1 : ¬ ((64 * i : Nat) : Int) < (M.length : Int) := h1;have hend : qOq MN.length s0 MN = s := by rw [heat, List.drop_of_length_le (by omega)]; rfl
  rw [hend];refine zdq 2 O ?_;refine qTq (by intro h; cases h) ?_;refine zAq 14 O ?_;refine qDq (α := Nat) (fun a => a <= 8) (fun a => [(12, .int .i64 (a : Int))]) [(2, _), (3, _), (11, _)] (fun a => (3, 23, .arr 32 1 (bN (dI s (4 * a)))) :: sumH s) (fun a => 8 - a) (0) ⟨rfl, rfl, rfl, trivial⟩ (Nat.zero_le _) ⟨rfl, trivial⟩ (rfl) (fun a hI => ?_);refine zgq 7 O ?_;refine zzq rfl (fun h2 => ?_) (fun h2 => ?_)
  ·have ha : a < 8 := by omega
   refine zdq 10 O ?_;refine qDq (α := Nat) (fun b => b <= 4) (fun b => [(13, .int .i64 (b : Int))]) [(2, _), (3, _), (11, _), (12, _), (55, _), (56, _)] (fun b => (3, 23, .arr 32 1 (bN (dI s (4 * a + b)))) :: sumH s) (fun b => 4 - b) (0) ⟨rfl, rfl, rfl, rfl, rfl, rfl, trivial⟩ (Nat.zero_le _) ⟨rfl, trivial⟩ (rfl) (fun b hI => ?_);refine zgq 7 O ?_;refine zzq rfl (fun h3 => ?_) (fun h3 => ?_)
   ·have hb : b < 4 := by omega
    have hdv : (4 * a + b) / 4 = a := by omega
    have hmd : (4 * a + b) % 4 = b := by omega
    have hset := dI_set s (i := 4 * a + b) (by omega);rw [hdv, hmd] at hset;refine zdq 6 O ?_;refine zoq (4 * a) O O (by first | rfl | omega) ⟨by omega, by omega⟩ ?_;refine zbq O O (zoq (4 * a + b) O O (by first | rfl | omega) ⟨by omega, by omega⟩ ?_);refine zbq O O (zbq rfl (zsq (i := a) O O O O O O (by omega)) ?_);refine zwq rfl (ysq O O O (yQq (S8_at s ha) rfl)) (zbq O O (zoq (8 * b) O O (by first | rfl | omega) ⟨by omega, by omega⟩ ?_));refine zoq (24 - 8 * b) O O (by first | rfl | omega) ⟨by omega, by omega⟩ ?_;refine zoq (24 - 8 * b) O O (by first | rfl | omega) ⟨by omega, by omega⟩ ?_;refine zkq (w' := wd (Nat.shiftRight (s.get a) (min (24 - 8 * b) 32))) O O O (zkq (w' := .int .u8 (.ofNat (Nat.shiftRight (s.get a) (min (24 - 8 * b) 32) % 256))) O O O (zbq rfl (zsq (i := 4 * a + b) O O O O O O (by omega)) ?_));refine zwq rfl (q3q O O O O O (qnq (dI_at s (by omega)) O O) rfl) ?_;refine zcq 5 O ?_;refine zoq (b + 1) O O (by first | rfl | omega) ⟨by omega, by omega⟩ ?_;refine yNq 2 O ?_;skip
    exact q4q (b + 1) hb (by omega) ⟨rfl, trivial⟩ (by repeat (first | exact trivial | refine ⟨rfl, ?_⟩)) (congrArg (fun L => (3, 23, W.arr 32 1 L) :: sumH s) hset)
   ·have hb : b = 4 := by omega
    subst hb;refine zdq 2 O ?_;refine qTq (by intro h; cases h) ?_;refine zAq 5 O ?_;refine zoq (a + 1) O O (by first | rfl | omega) ⟨by omega, by omega⟩ ?_;refine yNq 2 O ?_;skip
    exact q4q (a + 1) ha (by omega) ⟨rfl, trivial⟩ (by repeat (first | exact trivial | refine ⟨rfl, ?_⟩)) rfl
  ·have ha : a = 8 := by omega
   subst ha;refine zdq 2 O ?_;refine qTq (by intro h; cases h) ?_;refine zAq 9 O ?_;have ed : dI s 32 = digN s := by simp [dI, List.take_of_length_le, uJq]
   exact zfq (.inr rfl) rfl (by rw [<- ed])
end
section
attribute [local irreducible] CoW OpW FlW Step Spec
variable {G : Nat -> Option W}
theorem rtbytes_s (kind : UInt8) (ps : List (List UInt8)) (f : Bool) (hn : ps.length < 1000000) (hb : ∀ p ∈ ps, p.length < 1000000) : PS cfg G 234 [.int .u8 (.ofNat kind.toNat), .fz (ps.map bW) 1 f] (bW (tagB kind ps)) := by
 have e : (ps.map bW).length = ps.length := List.length_map _;have htm : ∀ n : Nat, n < 4294967296 -> ((n : Int)).tmod 4294967296 = (n : Int) := fun n hn => by rw [Int.tmod_eq_emod_of_nonneg (by omega)]; omega
 refine vqq (fn := Tryz.f234) O O O (Ob rfl) (fun R k0 => ?_);refine zgq 19 O ?_;refine co_loopG1 (α := Nat) (fun i => i <= ps.length) 5 (fun i => zeq (kind :: (ps.take i).flatMap kJq)) 5 1 (fun i => [(6, .int .i64 (i : Int))]) [(1, _), (4, _)] ([]) 0 0 (fun i => ps.length - i) (0) ⟨rfl, rfl, trivial⟩ (Nat.zero_le _) ⟨rfl, trivial⟩ (by omega) (by omega) (by first | omega | decide) (by simp [zeq]) rfl (by simp [zeq]) (by repeat (first | exact trivial | refine ⟨by first | rfl | exact ziq (by first | rfl | (simp; done)), ?_⟩)) (by repeat (first | exact trivial | refine ⟨by first | rfl | exact ziq (by first | rfl | (simp; done)), ?_⟩)) rfl (by first | rfl | assumption | (simp; done)) (by repeat (first | exact trivial | refine ⟨⟨by decide, rfl, by first | rfl | exact ziq (by first | rfl | (simp; done))⟩, ?_⟩)) (by first | decide | simp) (fun i hI => ?_);refine zgq 5 O ?_;refine zkq (w' := .int .i64 (ps.length : Int)) O O (by rw [<- e]; rfl) ?_;refine zcq 3 O ?_;refine zzq rfl (fun h1 => ?_) (fun h1 => ?_)
 ·have hi : i < ps.length := by omega
  obtain ⟨x, hx⟩ : ∃ x, ps[i]? = some x := ⟨_, List.getElem?_eq_getElem hi⟩
  have hxl := hb x (List.mem_of_getElem? hx);have hfl : ((ps.take i).flatMap kJq).length <= i * 1000004 := Qbq i hb;have hL : (zeq (kind :: (ps.take i).flatMap kJq)).length <= 1 + i * 1000004 := by rw [zvq, List.length_cons]; omega
  have hN : (zeq (beB 4 x.length)).length = 4 := by rw [zvq, viq]
  have hnx : zeq (kind :: (ps.take (i + 1)).flatMap kJq) = (zeq (kind :: (ps.take i).flatMap kJq) ++ zeq (beB 4 x.length)) ++ zeq x := by
   rw [List.take_add_one, hx, <- qjq, <- qjq];congr 1
   simp [kJq, Nat.mod_eq_of_lt (show x.length < 4294967296 by omega)]
  skip
  cases x with
  | nil =>
   refine zdq 8 O ?_;refine zbq rfl (zBq (i := i) O O O O O O O (ygq bW hx)) (zwq O O (zkq (w' := .int .i64 (([] : List UInt8).length : Int)) O O (by show W.int .i64 ((zeq (([] : List UInt8))).length : Int) = _; rw [zvq]) ?_));refine zbq O O (zkq (w' := .int .u64 (([] : List UInt8).length : Int)) O O O ?_)
   (refine z2q rfl (xAq O O O O O O (rdigits_s ([] : List UInt8).length 4 (by decide) (by omega)) ?_); rintro w hp1 nw1 ⟨rfl, rfl, rfl⟩)
   refine zcq 11 O ?_;refine zwq rfl (qhq O O (k2q [_] (k := ti5) (news := zeq (beB 4 ([] : List UInt8).length)) O O O O O (qXq O O O (zUq (by decide) hN.symm rfl)) (by intro h; rw [h] at hN; cases hN) (by rw [hN]; show (_ + 4) * 1 <= _; omega) (by rw [hN]; omega) rfl (by simp [numC]))) ?_;refine zcq 7 O ?_;refine zbq rfl (zBq (i := i) O O O O O O O (ygq bW hx)) (zwq O O (zwq rfl (qhq O O (vjq (k := ti5) O O O O O)) ?_));refine zcq 6 O ?_;refine zoq (i + 1) O O (by first | rfl | omega) ⟨by omega, by omega⟩ ?_;refine yNq 2 O ?_;exact vJq 2 (i + 1) (hi) (by omega) (Nat.zero_le _) (by rw [hnx]; exact List.append_nil _) (by first | assumption | (simp; done) | (simp [zeq]; done)) (by omega) (by first | omega | decide) rfl (by first | rfl | exact List.length_append.symm) ⟨rfl, trivial⟩ ⟨rfl, rfl, trivial⟩ (by repeat (first | exact trivial | refine ⟨by first | rfl | exact ziq (by first | rfl | (simp; done)), ?_⟩)) (by repeat (first | exact trivial | refine ⟨by first | rfl | exact ziq (by first | rfl | (simp; done)), ?_⟩)) rfl (by first | rfl | assumption | (simp; done)) (by repeat (first | exact trivial | refine ⟨⟨by decide, rfl, by first | rfl | exact ziq (by first | rfl | (simp; done))⟩, ?_⟩)) (by first | decide | simp)
  | cons c x =>
   refine zdq 8 O ?_;refine zbq rfl (zBq (i := i) O O O O O O O (ygq bW hx)) (zwq O O (zkq (w' := .int .i64 ((c :: x).length : Int)) O O (by show W.int .i64 ((zeq ((c :: x))).length : Int) = _; rw [zvq]) ?_));refine zoq ((c :: x).length) O O (by first | rfl | omega) ⟨by omega, by omega⟩ ?_;refine zkq (w' := .int .u64 ((c :: x).length : Int)) O O (congrArg (W.int .u64) (htm _ (by omega))) ?_
   (refine z2q rfl (xAq O O O O O O (rdigits_s (c :: x).length 4 (by omega) (by omega)) ?_); rintro w hp1 nw1 ⟨rfl, rfl, rfl⟩)
   refine zcq 11 O ?_;refine zwq rfl (qhq O O (k2q [_] (k := ti5) (news := zeq (beB 4 (c :: x).length)) O O O O O (qXq O O O (zUq (by decide) hN.symm rfl)) (by intro h; rw [h] at hN; cases hN) (by rw [hN]; show (_ + 4) * 1 <= _; omega) (by rw [hN]; omega) rfl (by simp [numC]))) ?_;refine zcq 7 O ?_;refine zbq rfl (zBq (i := i) O O O O O O O (ygq bW hx)) (zwq O O (zwq rfl (qhq O O (j7q (k := ti5) (len := (zeq (kind :: (ps.take i).flatMap kJq) ++ zeq (beB 4 (c :: x).length)).length) (news := zeq (c :: x)) (olds := zeq (kind :: (ps.take i).flatMap kJq) ++ zeq (beB 4 (c :: x).length)) O O O O O (by simp [zeq]) (by rw [List.length_append, hN, zvq (c :: x)]; show (_ + _) * 1 <= _; omega) (by rw [List.length_append, hN, zvq (c :: x)]; omega) rfl (by show (_ ++ _ : List W).length * 1 < 0 + ((_ ++ _ : List W).length + (zeq (c :: x)).length) * 1; rw [zvq (c :: x), List.length_cons]; omega) rfl (zUq (by decide) O O))) ?_));refine zcq 6 O ?_;refine zoq (i + 1) O O (by first | rfl | omega) ⟨by omega, by omega⟩ ?_;refine yNq 2 O ?_;exact vJq 3 (i + 1) (hi) (by omega) (Nat.zero_le _) (hnx) (by first | assumption | (simp; done) | (simp [zeq]; done)) (by omega) (by first | omega | decide) rfl (by first | rfl | exact List.length_append.symm) ⟨rfl, trivial⟩ ⟨rfl, rfl, trivial⟩ (by repeat (first | exact trivial | refine ⟨by first | rfl | exact ziq (by first | rfl | (simp; done)), ?_⟩)) (by repeat (first | exact trivial | refine ⟨by first | rfl | exact ziq (by first | rfl | (simp; done)), ?_⟩)) rfl (by first | rfl | assumption | (simp; done)) (by repeat (first | exact trivial | refine ⟨⟨by decide, rfl, by first | rfl | exact ziq (by first | rfl | (simp; done))⟩, ?_⟩)) (by first | decide | simp)
 ·have hi : i = ps.length := by omega
  subst hi;refine zdq 2 O ?_;refine qTq (by intro h; cases h) ?_;refine zAq 9 O ?_;refine uGq (by first | exact .inr rfl | exact .inl rfl) O ?_;rw [List.take_length];exact view_g (H0 := []) (by decide) (by simp) (by simp)
theorem rtagof_s (kind : UInt8) (ps : List (List UInt8)) (f : Bool) (hn : ps.length < 1000) (hb : ∀ p ∈ ps, p.length < 1000000) : PS cfg G 183 [.int .u8 (.ofNat kind.toNat), .fz (ps.map bW) 1 f] (dW (tagD kind ps)) := by
 have hl := tag_le kind ps hb;refine zOq (fn := Tryz.f183) O O O (Ob rfl) (fun R k0 => ?_);refine zgq 9 O ?_;refine zlq O O O O O O (rtbytes_s kind ps f (by omega) hb) ?_;refine zlq O O O O O O (rsum_s (tagB kind ps) false (by omega)) ?_;refine zcq 4 O ?_;exact zfq (.inr rfl) O O
end
section
attribute [local irreducible] CoW OpW FlW Step Spec
noncomputable def sumD : T -> Dig
 | .nil => tagD 0 []
 | .leaf k v => tagD 1 [k.1, v]
 | .fork l r => tagD 2 [(sumD l).1, (sumD r).1]
def xuq (t : T) : Prop := ∀ p ∈ t.all, p.2.length < 1000000
theorem node_sub (x : Node) : y5q 50 (nW x) 1 32 1 = some (zeq x.key.1) := by
 have h : (zeq x.key.1).length = 32 := by rw [zvq, x.key.2]
 show some (((zeq x.key.1).drop (0 / 1)).take 32) = _;rw [show 0 / 1 = 0 from rfl, List.drop_zero, List.take_of_length_le (by rw [h]; omega)]
theorem tnone_s : PS cfg glK 93 [] (dW (tagD 0 [])) := by
 refine zOq (fn := Tryz.f93) O O O (Ob rfl) (fun R k0 => ?_);refine zgq 7 O ?_;refine op_lk O O O O O (.cons (.pur rfl) (.cons .nilfz .nil)) (YIq 0 [] false (by simp) (by simp)) (by first | rfl | assumption | (simp; done)) (by first | rfl | assumption | (simp; done)) ?_;refine zcq 4 O ?_;exact zfq (.inr rfl) O O
theorem tsum_s (t0 : Tree) (hb : t0.nodes.length <= 4611686018427387903) : ∀ (t : T) (n : Nat), Rep t0.nodes n t -> xuq t -> PS cfg glK 160 [tW t0, .int .i64 (n : Int)] (dW (sumD t)) := by
 intro t;induction t with
 | nil =>
  intro n hr hs;obtain rfl : n = 0 := by cases hr; rfl
  refine zOq (fn := Tryz.f160) O O O (Ob rfl) (fun R k0 => ?_);refine zgq 13 O ?_;refine zzq rfl (fun h1 => ?_) (fun h1 => ?_)
  ·refine zdq 2 O ?_;refine zlq O O O O O O (tnone_s) ?_;refine zcq 5 O ?_;exact zfq (.inr rfl) O O
  ·exfalso; omega
 | leaf k v =>
  intro n hr hs;have hle := hr.le;have hv : v.length < 1000000 := hs (k, v) (by simp [T.all]);cases hr with
  | leaf h =>
  rename_i n l r;refine zOq (fn := Tryz.f160) O O O (Ob rfl) (fun R k0 => ?_);refine zgq 13 O ?_;refine zzq rfl (fun h1 => ?_) (fun h1 => ?_)
  ·exfalso; omega
  ·refine zdq 7 O ?_;refine zoq (n) O O (by first | rfl | omega) ⟨by omega, by omega⟩ ?_;refine zbq rfl (zBq (i := n) O O O O O O O (ygq nW h)) ?_;refine zcq 20 O ?_;first | refine fl_lk O O O O O (.cons (.pur rfl) (.cons (.sl2 (full := false) rfl (.arr (.cons (.sl (full := false) (c := nW ⟨true, k, v, l, r⟩) (xs := zeq k.1) rfl (by simp) (node_sub _) (by intro h; cases h)) (.cons (.pur (by simp)) .nil))) rfl (by intro h; cases h)) .nil)) (YIq 1 [k.1, v] false (by simp) (by simp [k.2, hv])) (by first | rfl | assumption | (simp; done)) (by first | rfl | assumption | (simp; done)) (by first | rfl | kernel_rfl) ?_ | refine fl_lk O O O O O (.cons (.pur rfl) (.cons .nilfz .nil)) (YIq 0 [] false (by simp) (by simp)) (by first | rfl | assumption | (simp; done)) (by first | rfl | assumption | (simp; done)) (by first | rfl | kernel_rfl) ?_
   refine zjq 5 O ?_;exact zfq (.inr rfl) O O
 | fork tl tr ihL ihR =>
  intro n hr hs;have hle := hr.le;cases hr with
  | fork h hl0 hr0 hL hR =>
  rename_i n l r k v;have sL : xuq tl := fun p hp => hs p (by simp [T.all, hp])
  have sR : xuq tr := fun p hp => hs p (by simp [T.all, hp])
  refine zOq (fn := Tryz.f160) O O O (Ob rfl) (fun R k0 => ?_);refine zgq 13 O ?_;refine zzq rfl (fun h1 => ?_) (fun h1 => ?_)
  ·exfalso; omega
  ·refine zdq 7 O ?_;refine zoq (n) O O (by first | rfl | omega) ⟨by omega, by omega⟩ ?_;refine zbq rfl (zBq (i := n) O O O O O O O (ygq nW h)) ?_;refine zcq 20 O ?_;refine y2q O O O O O O (ihL l hL sL) ?_;refine zjq 3 O ?_;refine y2q O O O O O O (ihR r hR sR) ?_;refine zjq 11 O ?_;refine fl_lk O O O O O (.cons (.pur rfl) (.cons (.sl2 (full := false) rfl (.arr (.cons (.sl (full := false) (xs := zeq (sumD tl).1) rfl (by simp) (zUq (by decide) (by simp [zvq, (sumD tl).2]) rfl) (by intro h; cases h)) (.cons (.sl (full := false) (xs := zeq (sumD tr).1) rfl (by simp) (zUq (by decide) (by simp [zvq, (sumD tr).2]) rfl) (by intro h; cases h)) .nil))) rfl (by intro h; cases h)) .nil)) (YIq 2 [(sumD tl).1, (sumD tr).1] false (by simp) (by simp [(sumD tl).2, (sumD tr).2])) (by first | rfl | assumption | (simp; done)) (by first | rfl | assumption | (simp; done)) (by first | rfl | kernel_rfl) ?_;refine zjq 4 O ?_;exact zfq (.inr rfl) O O
theorem tsum_ok (t : Tree) (n : Nat) (t0 : T) (h : IsT t n t0) : PS cfg glK 92 [tW t] (.tup [dW (sumD t0), .int .i64 0]) := by
 have hs : xuq t0 := fun p hp => by have := (h.val p hp).2; omega
 have hlen := h.len;refine zOq (fn := Tryz.f92) O O O (Ob rfl) (fun R k0 => ?_);refine zgq 11 O ?_;first | refine zlq O O O O O O (y7q (qBq t (by omega)) (by rw [if_pos h.may])) ?_ | refine zlq O O O O O O (qBq _ (by omega)) ?_
 refine zcq 17 O ?_;refine zlq O O O O O (by rw [h.root]; rfl) (tsum_s t (by omega) t0 n h.rep hs) ?_;refine zcq 5 O ?_;exact zfq (.inr rfl) O O
end
section
attribute [local irreducible] CoW OpW FlW Step Spec
variable {G : Nat -> Option W}
theorem view_g2 {b e : Nat} {ty : TypeId} {l : List W} {H0 Q : HpW} (he : 0 < e) (hl : purL l = true) (hP : ∀ p ∈ H0, p.1 ≠ b) : View (blkA ((H0 ++ gH b ty e l) ++ Q)) (gW b e l) (.fz l e false) := by
 cases l with
 | nil => exact .nilfz
 | cons y r => exact .sl (c := .arr ((y :: r).length * e) e (y :: r)) (by
   unfold blkA;rw [show H0 ++ gH b ty e (y :: r) = H0 ++ [(b, ty, .arr ((y :: r).length * e) e (y :: r))] from rfl, qYq (jFq hP)]) hl (zUq he O O) (by intro h; cases h)
theorem subH_g {hp : HpW} {b e : Nat} {ty : TypeId} {l : List W} {n : Nat} (hb : b < n) (hl : purL l = true) (hg : ∀ x r, l = x :: r -> hget hp b = some (ty, .arr ((x :: r).length * e) e (x :: r))) : subH hp n (gH b ty e l) := by
 cases l with
 | nil => trivial
 | cons x r =>
  have hpa : purW (.arr ((x :: r).length * e) e (x :: r)) = true := hl;exact ⟨⟨hb, hg x r rfl, ziq hpa⟩, trivial⟩
theorem Ymq : ∀ l : List UInt8, Z1q (zeq l) = true
 | [] => rfl
 | c :: l => by
  show (kQq (W.int .u8 (.ofNat c.toNat)) && Z1q (zeq l)) = true;rw [Ymq l]; rfl
theorem flat_dW (k : Dig) : kQq (dW k) = true := Ymq k.1
theorem ok_len : ∀ {t : T} {d : Nat} {b : Dig}, t.ok d b = true -> (t.isFork = true -> 2 <= t.all.length) /\ (t.non = true -> 1 <= t.all.length)
 | .nil, _, _, _ => ⟨fun h => (by cases h), fun h => (by cases h)⟩
 | .leaf k v, _, _, _ => ⟨fun h => (by cases h), fun _ => by simp [T.all]⟩
 | .fork l r, d, b, h => by
  obtain ⟨_, h1, h2, h3⟩ := ok_fork.1 h;obtain ⟨l1, l2⟩ := ok_len h1;obtain ⟨r1, r2⟩ := ok_len h2
  have key : 2 <= l.all.length + r.all.length := by
   unfold T.two at h3;rcases Bool.or_eq_true_iff.1 h3 with h3 | h3
   ·rcases Bool.or_eq_true_iff.1 h3 with h3 | h3
    ·have := l1 h3; omega
    ·have := r1 h3; omega
   ·obtain ⟨q1, q2⟩ := Bool.and_eq_true_iff.1 h3;have := l2 q1;have := r2 q2;omega
  have e : (T.fork l r).all.length = l.all.length + r.all.length := by simp [T.all]
  exact ⟨fun _ => by omega, fun _ => by omega⟩
theorem two_len {l r : T} {d d' : Nat} {b b' : Dig} (h1 : l.ok d b = true) (h2 : r.ok d' b' = true) (h3 : T.two l r = true) : 2 <= l.all.length + r.all.length := by
 obtain ⟨l1, l2⟩ := ok_len h1;obtain ⟨r1, r2⟩ := ok_len h2;unfold T.two at h3;rcases Bool.or_eq_true_iff.1 h3 with h3 | h3
 ·rcases Bool.or_eq_true_iff.1 h3 with h3 | h3
  ·have := l1 h3; omega
  ·have := r1 h3; omega
 ·obtain ⟨q1, q2⟩ := Bool.and_eq_true_iff.1 h3;have := l2 q1;have := r2 q2;omega
theorem rtnone_s : PS cfg G 165 [] (dW (tagD 0 [])) := by
 refine zOq (fn := Tryz.f165) O O O (Ob rfl) (fun R k0 => ?_);refine zgq 7 O ?_;refine op_lk O O O O O (.cons (.pur rfl) (.cons .nilfz .nil)) (rtagof_s 0 [] false (by simp) (by simp)) (by first | rfl | assumption | (simp; done)) (by first | rfl | assumption | (simp; done)) ?_;refine zcq 4 O ?_;exact zfq (.inr rfl) O O
theorem rtwo_s (kind : UInt8) (a b : List UInt8) (f g : Bool) (ha : a.length < 1000000) (hb : b.length < 1000000) : PS cfg G 221 [.int .u8 (.ofNat kind.toNat), .fz (zeq a) 1 f, .fz (zeq b) 1 g] (dW (tagD kind [a, b])) := by
 refine zOq (fn := Tryz.f221) O O O (Ob rfl) (fun R k0 => ?_);refine zgq 11 O ?_;refine op_lk O O O O O (.cons (.pur rfl) (.cons (.sl2 (full := false) rfl (.arr (.cons (.fzw (by simp)) (.cons (.fzw (by simp)) .nil))) rfl (by intro h; cases h)) .nil)) (rtagof_s kind [a, b] false (by simp) (by simp [ha, hb])) (by first | rfl | assumption | (simp; done)) (by first | rfl | assumption | (simp; done)) ?_;refine zcq 4 O ?_;exact zfq (.inr rfl) O O
noncomputable def ofH (A B : List Pr) : HpW := ([(0, 23, jsq)] ++ gH 1 90 33 (A.map pW)) ++ gH 2 90 33 (B.map pW)
theorem ofH_l (A : List Pr) : ofH A [] = [(0, 23, jsq)] ++ gH 1 90 33 (A.map pW) := List.append_nil _
theorem xjq {b e : Nat} {ty : TypeId} {l : List W} : ∀ p ∈ gH b ty e l, p.1 = b := fun p hp => by
 cases l with
 | nil => cases hp
 | cons x r => simp only [gH, List.mem_cons, List.not_mem_nil, or_false] at hp; rw [hp]
theorem rof_s : ∀ (t : T) (d : Nat) (b : Dig) (f : Bool), Zr d b -> t.ok d b = true -> xuq t -> t.all.length <= 1000000 -> PS cfg G 164 [.fz (t.all.map pW) 33 f, .int .i64 (d : Int)] (dW (sumD t)) := by
 intro t;induction t with
 | nil =>
  intro d b f hz ok hs hl;refine zOq (fn := Tryz.f164) O O O (Ob rfl) (fun R k0 => ?_);refine zgq 9 O ?_;first | refine ydq O O ?_ | refine zbq O O ?_
  refine zcq 6 O ?_;refine zlq O O O O O O (rtnone_s) ?_;refine zcq 5 O ?_;exact zfq (.inr rfl) O O
 | leaf k v =>
  intro d b f hz ok hs hl;have hv : v.length < 1000000 := hs (k, v) (by simp [T.all]);refine zOq (fn := Tryz.f164) O O O (Ob rfl) (fun R k0 => ?_);refine zgq 9 O ?_;first | refine ydq O O ?_ | refine zbq O O ?_
  refine zcq 10 O ?_;first | refine ydq O O ?_ | refine zbq O O ?_
  refine zcq 7 O ?_;first | refine zaq rfl (zBq O O O O O O O (by first | assumption | (simp; done))) ?_ | refine zaq rfl (zTq O O O O O O O (by omega)) ?_ | refine zaq rfl (zsq O O O O O O (by omega)) ?_ | refine zaq O O ?_
  refine zjq 3 O ?_;first | refine zaq rfl (zBq O O O O O O O (by first | assumption | (simp; done))) ?_ | refine zaq rfl (zTq O O O O O O O (by omega)) ?_ | refine zaq rfl (zsq O O O O O O (by omega)) ?_ | refine zaq O O ?_
  refine zjq 2 O ?_;refine fl_ps O O O O O (by show [_, W.fz (((zeq k.1).drop (0 / 1)).take 32) 1 true, _] = [_, W.fz (zeq k.1) 1 true, _]; rw [show 0 / 1 = 0 from rfl, List.drop_zero, List.take_of_length_le (by rw [zvq, k.2]; omega)]; rfl) (rtwo_s 1 k.1 v true false (by simp [k.2]) hv) (by simp) (by simp) (by first | rfl | kernel_rfl) ?_;refine zjq 5 O ?_;exact zfq (.inr rfl) O O
 | fork tl tr ihL ihR =>
  intro d b f hz ok hs hl;obtain ⟨hd, okL, okR, two⟩ := ok_fork.1 ok;obtain ⟨b0, b1⟩ := ok_bits hz ok;have sL : xuq tl := fun p hp => hs p (by simp [T.all, hp])
  have sR : xuq tr := fun p hp => hs p (by simp [T.all, hp])
  have hall : (T.fork tl tr).all = tl.all ++ tr.all := by simp [T.all]
  have cL := ihL (d + 1) b false (jhq hz) okL sL (by rw [hall, List.length_append] at hl; omega);have cR := ihR (d + 1) (qpq b d) false (jgq hz hd) okR sR (by rw [hall, List.length_append] at hl; omega);have hn2 : 2 <= tl.all.length + tr.all.length := two_len okL okR two;rw [hall] at hl ⊢;rw [List.length_append] at hl;generalize tl.all = L at *
  generalize tr.all = Q at *
  have e : ((L ++ Q).map pW).length = L.length + Q.length := by rw [List.length_map, List.length_append]
  have hat : ∀ i, i < L.length + Q.length -> ∃ x, (L ++ Q)[i]? = some x := fun i hi => ⟨_, List.getElem?_eq_getElem (by rw [List.length_append]; exact hi)⟩
  refine zOq (fn := Tryz.f164) O O O (Ob rfl) (fun R k0 => ?_);refine zgq 9 O ?_;refine zkq (w' := .int .i64 ((L.length + Q.length : Nat) : Int)) O O (by rw [<- e]; rfl) ?_;refine zkq (w' := .bool false) O O (congrArg W.bool (eqI_not.2 (by omega))) ?_;refine zcq 9 O ?_;refine zkq (w' := .int .i64 ((L.length + Q.length : Nat) : Int)) O O (by rw [<- e]; rfl) ?_;refine zkq (w' := .bool false) O O (congrArg W.bool (eqI_not.2 (by omega))) ?_;refine zcq 18 O ?_;have z0 : Q.take (0 - L.length) = [] := by rw [Nat.zero_sub]; rfl
  refine qJq (α := Nat) (fun i => i <= L.length + Q.length) (fun i => [(5, gW 1 33 ((L.take i).map pW)), (7, .int .i64 (i : Int)), (6, gW 2 33 ((Q.take (i - L.length)).map pW)), (0, .fz ((L ++ Q).map pW) 33 f), (1, .int .i64 (d : Int)), (4, .ptr 0 0)]) (fun i => ofH (L.take i) (Q.take (i - L.length))) (fun _ => 3) (fun _ => R) (fun i => L.length + Q.length - i) 0 (Nat.zero_le _) ((vAq (fr2 := [(5, .nils), (7, .int .i64 0), (6, .nils), (0, .fz ((L ++ Q).map pW) 33 f), (1, .int .i64 (d : Int)), (4, .ptr 0 0)]) ⟨rfl, rfl, rfl, rfl, rfl, rfl, trivial⟩).trans ((vAq (fr2 := [(5, .nils), (7, .int .i64 0), (6, .nils), (0, .fz ((L ++ Q).map pW) 33 f), (1, .int .i64 (d : Int)), (4, .ptr 0 0)]) ⟨rfl, rfl, rfl, rfl, rfl, rfl, trivial⟩).trans (ynq ⟨rfl, rfl, by rw [z0]; rfl, rfl, rfl, rfl, trivial⟩ (by rw [z0]; rfl) rfl))) (fun i hI => ?_);skip
  have hI : i <= L.length + Q.length := hI;refine zgq 5 O ?_;refine zkq (w' := .int .i64 ((L.length + Q.length : Nat) : Int)) O O (by rw [<- e]; rfl) ?_;refine zcq 3 O ?_;refine zzq rfl (fun h1 => ?_) (fun h1 => ?_)
  ·have hi : i < L.length + Q.length := by omega
   obtain ⟨x, hx⟩ := hat i hi;skip
   by_cases hc : i < L.length
   ·have hxl : L[i]? = some x := by rw [List.getElem?_append_left hc] at hx; exact hx
    have hbit : bitN x.1 d = 0 := b0 x (List.mem_of_getElem? hxl);have zq : Q.take (i - L.length) = [] := by rw [show i - L.length = 0 by omega]; rfl
    have zq' : Q.take (i + 1 - L.length) = [] := by rw [show i + 1 - L.length = 0 by omega]; rfl
    have hL2 : (L.take (i + 1)).map pW = (L.take i).map pW ++ [pW x] := by rw [List.take_add_one, hxl, List.map_append]; rfl
    have hlt : ((L.take i).map pW).length <= 1000000 := by rw [List.length_map, List.length_take]; omega
    rw [zq, ofH_l];refine zdq 8 O ?_;refine zbq rfl (zBq (i := i) O O O O O O O (ygq pW hx)) ?_;refine zcq 3 O ?_;refine zlq O O O O O O (YOq x.1 d hd) ?_;refine zkq (w' := .bool true) O O (congrArg W.bool (eqI_iff.2 (by rw [hbit]; rfl))) ?_;refine zcq 7 O ?_;refine zbq rfl (zBq (i := i) O O O O O O O (ygq pW hx)) ?_;refine zcq 2 O ?_;refine zwq rfl (qhq O O (k2q [_, _] (k := ti90) (news := [pW x]) O O O O O (qXq O O O O) (by simp) (by show (((L.take i).map pW).length + 1) * 56 <= _; omega) (by show ((L.take i).map pW).length + 1 <= _; omega) rfl (by simp))) ?_;refine zcq 6 O ?_;refine zoq (i + 1) O O (by first | rfl | omega) ⟨by omega, by omega⟩ ?_;refine yNq 2 O ?_;skip
    refine yIq (i + 1) hi (by omega) ?_;simp only [zq', ofH_l, hL2];exact (qwq (b := 1) (H0 := [(0, 23, jsq)]) (l2 := (L.take i).map pW ++ [pW x]) (n := ((L.take i).map pW ++ [pW x]).length) (fr2 := [(7, .int .i64 ((i + 1 : Nat) : Int)), (6, .nils), (0, .fz ((L ++ Q).map pW) 33 f), (1, .int .i64 (d : Int)), (4, .ptr 0 0)]) 4 5 (by omega) (by omega) (by show 4 < 5; omega) (by simp) O O ⟨rfl, rfl, rfl, rfl, rfl, trivial⟩ ⟨rfl, rfl, ziq (show purW (.fz ((L ++ Q).map pW) 33 f) = true from qUq _), rfl, rfl, trivial⟩ rfl (by simp) ⟨⟨by omega, rfl, rfl⟩, trivial⟩ (by simp)).trans (vAq ⟨rfl, rfl, rfl, rfl, rfl, rfl, trivial⟩)
   ·have hxq : Q[i - L.length]? = some x := by rw [List.getElem?_append_right (by omega)] at hx; exact hx
    have hbit : bitN x.1 d = 1 := b1 x (List.mem_of_getElem? hxq);have zl : L.take i = L := List.take_of_length_le (by omega);have zl' : L.take (i + 1) = L := List.take_of_length_le (by omega);have hQ2 : (Q.take (i + 1 - L.length)).map pW = (Q.take (i - L.length)).map pW ++ [pW x] := by rw [show i + 1 - L.length = (i - L.length) + 1 by omega, List.take_add_one, hxq, List.map_append]; rfl
    have hlt : ((Q.take (i - L.length)).map pW).length <= 1000000 := by rw [List.length_map, List.length_take]; omega
    have hnm : ∀ p ∈ [((0 : Nat), 23, jsq)] ++ gH 1 90 33 (L.map pW), p.1 < 2 := fun p hp => by
     rcases List.mem_append.1 hp with hp | hp
     ·simp only [List.mem_cons, List.not_mem_nil, or_false] at hp; rw [hp]; show 0 < 2; omega
     ·rw [xjq p hp]; omega
    rw [zl];refine zdq 8 O ?_;refine zbq rfl (zBq (i := i) O O O O O O O (ygq pW hx)) ?_;refine zcq 3 O ?_;refine zlq O O O O O O (YOq x.1 d hd) ?_;refine zkq (w' := .bool false) O O (congrArg W.bool (eqI_not.2 (by rw [hbit]; decide))) ?_;refine zcq 7 O ?_;refine zbq rfl (zBq (i := i) O O O O O O O (ygq pW hx)) ?_;refine zcq 2 O ?_;refine zwq rfl (qhq O O (k2q ((3, _) :: ([(0, _)] ++ gH 1 90 33 (L.map pW))) (k := ti90) (news := [pW x]) O O O O O (qXq O O O O) (by simp) (by show (((Q.take (i - L.length)).map pW).length + 1) * 56 <= _; omega) (by show ((Q.take (i - L.length)).map pW).length + 1 <= _; omega) rfl (fun p hp => by rcases List.mem_cons.1 hp with q | q; (rw [q]; show ¬ 3 = 2; omega); have := hnm p q; omega))) ?_;refine zcq 6 O ?_;refine zoq (i + 1) O O (by first | rfl | omega) ⟨by omega, by omega⟩ ?_;refine yNq 2 O ?_;skip
    refine yIq (i + 1) hi (by omega) ?_;simp only [zl', hQ2];exact (qwq (b := 2) (H0 := [(0, 23, jsq)] ++ gH 1 90 33 (L.map pW)) (l2 := (Q.take (i - L.length)).map pW ++ [pW x]) (n := ((Q.take (i - L.length)).map pW ++ [pW x]).length) (fr2 := [(5, gW 1 33 (L.map pW)), (7, .int .i64 ((i + 1 : Nat) : Int)), (0, .fz ((L ++ Q).map pW) 33 f), (1, .int .i64 (d : Int)), (4, .ptr 0 0)]) 4 6 (by omega) (by omega) (by show 4 < 5; omega) (by simp) O O ⟨rfl, rfl, rfl, rfl, rfl, trivial⟩ ⟨by cases L.map pW <;> rfl, rfl, ziq (show purW (.fz ((L ++ Q).map pW) 33 f) = true from qUq _), rfl, rfl, trivial⟩ rfl (by simp) (xzq ⟨⟨by omega, rfl, rfl⟩, trivial⟩ (subH_g (by omega) (by simp) (fun x r h => by rw [h]; rfl))) (by cases L.map pW <;> simp [gH])).trans (ynq ⟨rfl, rfl, rfl, rfl, rfl, rfl, trivial⟩ (by unfold ofH; rw [hQ2]) rfl)
  ·have hi : i = L.length + Q.length := by omega
   have zl : L.take i = L := List.take_of_length_le (by omega);have zq : Q.take (i - L.length) = Q := List.take_of_length_le (by omega);rw [zl, zq];refine zdq 2 O ?_;refine qTq (by intro h; cases h) ?_;refine zAq 6 O ?_;refine zoq (d + 1) O O (by first | rfl | omega) ⟨by omega, by omega⟩ ?_;refine op_lk O O O O O (.cons (view_g2 (H0 := [(0, 23, jsq)]) (by decide) (by simp) (by simp)) (.cons (.pur rfl) .nil)) cL (by simp) (flat_dW _) ?_;refine zcq 2 O ?_;refine zoq (d + 1) O O (by first | rfl | omega) ⟨by omega, by omega⟩ ?_;refine op_lk O O O O O (.cons (view_g (H0 := [(0, 23, jsq)] ++ gH 1 90 33 (L.map pW)) (by decide) (by simp) (fun p hp => by rcases List.mem_append.1 hp with q | q; (simp only [List.mem_cons, List.not_mem_nil, or_false] at q; rw [q]; show ¬ 0 = 2; omega); (rw [xjq p q]; omega))) (.cons (.pur rfl) .nil)) cR (by simp) (flat_dW _) ?_;refine zcq 10 O ?_;refine fl_lk O O O O O (.cons (.pur rfl) (.cons (.sl (full := false) (xs := zeq (sumD tl).1) rfl (by simp) (zUq (by decide) (by simp [zvq, (sumD tl).2]) rfl) (by intro h; cases h)) (.cons (.sl (full := false) (xs := zeq (sumD tr).1) rfl (by simp) (zUq (by decide) (by simp [zvq, (sumD tr).2]) rfl) (by intro h; cases h)) .nil))) (rtwo_s 2 (sumD tl).1 (sumD tr).1 false false (by simp [(sumD tl).2]) (by simp [(sumD tr).2])) (by first | rfl | assumption | (simp; done)) (by first | rfl | assumption | (simp; done)) (by first | rfl | kernel_rfl) ?_;refine zjq 4 O ?_;exact zfq (.inr rfl) O O
end
end
end Go.Proofs.YtgeelfdgnehdnaaGreatDoor

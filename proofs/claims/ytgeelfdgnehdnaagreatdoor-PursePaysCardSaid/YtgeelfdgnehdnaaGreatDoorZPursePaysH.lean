/-
  What the proof of PursePays stands on, part 8. No condition.
-/
import Derived.Test.YtgeelfdgnehdnaaGreatDoorZPursePaysG
set_option linter.unusedSimpArgs false
set_option linter.unusedVariables false
noncomputable section
namespace Go.Proofs.YtgeelfdgnehdnaaGreatDoor
section
open Go.RowKit
section
attribute [local irreducible] CoW OpW FlW Step Spec
variable {G : Nat -> Option W}
theorem mayp_val (k : Dig) (v : List UInt8) : MayP [(k, v)] ↔ valB v = true := by
 constructor
 ·intro h
  exact (h.2 0 (by simp) _ rfl).1
 ·intro h
  refine ⟨by simp, fun i hi x hx => ?_⟩
  obtain rfl : i = 0 := by simpa using hi
  cases hx
  exact ⟨h, fun y h0 => by omega⟩
theorem rone_s (x : Node) (n : Nat) (hn : n <= 4611686018427387903) : PS cfg G 124 [nW x, .int .i64 (n : Int)] (.bool (decide (oneB x n))) := by
 have e := zkq x.val
 have yes : ∀ {b : Bool}, x.leaf = true -> b = (valB x.val && decide (x.left = 0) && decide (x.right = 0)) -> W.bool b = W.bool (decide (oneB x n)) := fun {b} h1 hb => by
  rw [hb]
  congr 1
  rw [Bool.eq_iff_iff]
  simp only [Bool.and_eq_true, decide_eq_true_eq, oneB, if_pos h1, mayp_val]
  exact ⟨fun ⟨⟨a, b⟩, c⟩ => ⟨b, c, a⟩, fun ⟨b, c, a⟩ => ⟨⟨a, b⟩, c⟩⟩
 have no : ¬ x.leaf = true -> ¬ ((0 <= x.left /\ x.left <= n) /\ (0 <= x.right /\ x.right <= n) /\ 0 < x.left + x.right) -> W.bool false = W.bool (decide (oneB x n)) := fun h1 h => by
  rw [decide_eq_false]
  rw [oneB, if_neg h1]
  exact fun q => h ⟨q.1, q.2.1, q.2.2.2.2⟩
 have fork : ∀ {b : Bool}, ¬ x.leaf = true -> 0 <= x.left -> x.left <= n -> 0 <= x.right -> x.right <= n -> 0 < x.left + x.right -> b = (decide (x.key = jkq) && decide (x.val = [])) -> W.bool b = W.bool (decide (oneB x n)) := fun {b} h1 q1 q2 q3 q4 q5 hb => by
  rw [hb]
  congr 1
  rw [Bool.eq_iff_iff]
  simp only [Bool.and_eq_true, decide_eq_true_eq, oneB, if_neg h1]
  exact ⟨fun ⟨a, c⟩ => ⟨⟨q1, q2⟩, ⟨q3, q4⟩, a, c, q5⟩, fun h => ⟨h.2.2.1, h.2.2.2.1⟩⟩
 refine zYq (fn := Tryz.f124) Y Y Y (Yb rfl) (fun R k0 => ?_)
 refine zhq 13 Y ?_
 refine zAq rfl (fun h1 => ?_) (fun h1 => ?_)
 ·refine zeq 4 Y ?_
  refine zjq Y Y Y Y Y Y (rvalue_s _ _) ?_
  refine x0q (fun h2 => ?_) (fun h2 => ?_)
  ·refine zbq 3 Y ?_
   refine qdq Y Y (fun h3 => ?_) (fun h3 => ?_)
   ·refine zbq 4 Y ?_
    refine yYq Y Y ?_
    refine zbq 6 Y ?_
    exact zgq (.inr rfl) rfl (by first | exact yes (by assumption) (by simp_all) | exact no (by assumption) (by omega))
   ·refine zbq 11 Y ?_
    exact zgq (.inr rfl) rfl (by first | exact yes (by assumption) (by simp_all) | exact no (by assumption) (by omega))
  ·refine zbq 15 Y ?_
   exact zgq (.inr rfl) rfl (by first | exact yes (by assumption) (by simp_all) | exact no (by assumption) (by omega))
 ·refine zeq 7 Y ?_
  refine qdq Y Y (fun h2 => ?_) (fun h2 => ?_)
  ·refine zbq 37 Y ?_
   exact zgq (.inr rfl) rfl (by first | exact yes (by assumption) (by simp_all) | exact no (by assumption) (by omega))
  ·refine zbq 4 Y ?_
   refine qdq Y Y (fun h3 => ?_) (fun h3 => ?_)
   ·refine zbq 32 Y ?_
    exact zgq (.inr rfl) rfl (by first | exact yes (by assumption) (by simp_all) | exact no (by assumption) (by omega))
   ·refine zbq 4 Y ?_
    refine qdq Y Y (fun h4 => ?_) (fun h4 => ?_)
    ·refine zbq 27 Y ?_
     exact zgq (.inr rfl) rfl (by first | exact yes (by assumption) (by simp_all) | exact no (by assumption) (by omega))
    ·refine zbq 5 Y ?_
     refine qdq Y Y (fun h5 => ?_) (fun h5 => ?_)
     ·refine zbq 21 Y ?_
      exact zgq (.inr rfl) rfl (by first | exact yes (by assumption) (by simp_all) | exact no (by assumption) (by omega))
     ·refine zbq 4 Y ?_
      refine qdq Y Y (fun h6 => ?_) (fun h6 => ?_)
      ·refine zbq 3 Y ?_
       refine yYq Y Y ?_
       refine zbq 4 Y ?_
       refine zAq rfl (fun h7 => ?_) (fun h7 => ?_)
       ·refine zeq 7 Y ?_
        exact zgq (.inr rfl) rfl (by first | exact yes (by assumption) (by simp_all) | exact no (by assumption) (by omega))
       ·have h2 : ¬ x.left < 0 := h2
        have h3 : ¬ (n : Int) < x.left := h3
        have h4 : ¬ x.right < 0 := h4
        have h5 : ¬ (n : Int) < x.right := h5
        refine zeq 6 Y ?_
        refine zqq Y Y vJq ?_
        refine op_dec rfl (qKq Y Y Y Y (qFq Y Y Y Y Y Y _ _ 250)) ySq (fun h8 => ?_) (fun h8 => ?_)
        ·refine zbq 3 Y ?_
         refine zqq (w' := .int .i64 (x.val.length : Int)) Y Y (by rw [<- e]; rfl) ?_
         refine yYq Y Y ?_
         refine zbq 5 Y ?_
         refine zgq (.inr rfl) rfl (fork h1 (by omega) (by omega) (by omega) (by omega) (by omega) ?_)
         rw [decide_eq_true (by assumption : x.key = jkq), Bool.true_and]
         refine decide_eq_decide.2 ⟨fun q => List.eq_nil_of_length_eq_zero (by omega), fun q => by rw [q]; rfl⟩
        ·refine zbq 10 Y ?_
         refine zgq (.inr rfl) rfl (fork h1 (by omega) (by omega) (by omega) (by omega) (by omega) ?_)
         rw [decide_eq_false (by assumption : ¬ x.key = jkq), Bool.false_and]
      ·have h2 : ¬ x.left < 0 := h2
       have h3 : ¬ (n : Int) < x.left := h3
       have h4 : ¬ x.right < 0 := h4
       have h5 : ¬ (n : Int) < x.right := h5
       refine zbq 15 Y ?_
       refine zqq Y Y vJq ?_
       refine op_dec rfl (qKq Y Y Y Y (qFq Y Y Y Y Y Y _ _ 250)) ySq (fun h7 => ?_) (fun h7 => ?_)
       ·refine zbq 3 Y ?_
        refine zqq (w' := .int .i64 (x.val.length : Int)) Y Y (by rw [<- e]; rfl) ?_
        refine yYq Y Y ?_
        refine zbq 5 Y ?_
        refine zgq (.inr rfl) rfl (fork h1 (by omega) (by omega) (by omega) (by omega) (by omega) ?_)
        rw [decide_eq_true (by assumption : x.key = jkq), Bool.true_and]
        refine decide_eq_decide.2 ⟨fun q => List.eq_nil_of_length_eq_zero (by omega), fun q => by rw [q]; rfl⟩
       ·refine zbq 10 Y ?_
        refine zgq (.inr rfl) rfl (fork h1 (by omega) (by omega) (by omega) (by omega) (by omega) ?_)
        rw [decide_eq_false (by assumption : ¬ x.key = jkq), Bool.false_and]
def cntR (t : T) (d : Nat) (b : Dig) : Int := if t.ok d b = true then (match t with | .nil => 0 | .leaf _ _ => 1 | .fork _ _ => 2) else -1
theorem cntR_lt (t : T) (d : Nat) (b : Dig) : cntR t d b < 0 ↔ ¬ t.ok d b = true := by
 unfold cntR
 split
 ·rename_i h
  cases t <;> simp [h]
 ·rename_i h; simp [h]
theorem cntR_ge (t : T) (d : Nat) (b : Dig) : 0 <= cntR t d b ↔ t.ok d b = true := by
 have := cntR_lt t d b
 constructor
 ·intro h
  refine Classical.byContradiction fun q => ?_
  have := this.2 q
  omega
 ·intro h
  refine Int.not_lt.1 fun q => this.1 q h
theorem cntR_fork {l r : T} {d : Nat} {b : Dig} (hd : d < 256) (h1 : ¬ cntR l (d + 1) b < 0) (h2 : ¬ cntR r (d + 1) (qvq b d) < 0) : cntR (.fork l r) d b = if cntR l (d + 1) b + cntR r (d + 1) (qvq b d) < 2 then -1 else 2 := by
 have e1 : l.ok (d + 1) b = true := (cntR_ge l _ _).1 (by omega)
 have e2 : r.ok (d + 1) (qvq b d) = true := (cntR_ge r _ _).1 (by omega)
 have e : (T.fork l r).ok d b = T.two l r := by simp only [T.ok]; rw [decide_eq_true hd, e1, e2]; rfl
 unfold cntR
 rw [e, e1, e2]
 cases l <;> cases r <;> simp [T.two, T.isFork, T.non]
theorem cntR_le (t : T) (d : Nat) (b : Dig) : cntR t d b <= 2 := by
 unfold cntR
 split
 ·cases t <;> simp
 ·omega
theorem cntR_no {l r : T} {d : Nat} {b : Dig} (h : ¬ (T.fork l r).ok d b = true) : cntR (.fork l r) d b = -1 := by unfold cntR; rw [if_neg h]
theorem rright_s (t0 : Tree) (hb : t0.nodes.length <= 4611686018427387903) : ∀ (t : T) (n d : Nat) (b : Dig), Rep t0.nodes n t -> d <= 256 -> PS cfg G 125 [tW t0, .int .i64 (n : Int), .int .i64 (d : Int), dW b] (.int .i64 (cntR t d b)) := by
 intro t
 induction t with
 | nil =>
  intro n d b hr hd
  obtain rfl : n = 0 := by cases hr; rfl
  refine zYq (fn := Tryz.f125) Y Y Y (Yb rfl) (fun R k0 => ?_)
  refine zhq 14 Y ?_
  refine zAq rfl (fun h1 => ?_) (fun h1 => ?_)
  ·refine zeq 7 Y ?_
   exact zgq (.inr rfl) Y Y
  ·exfalso; omega
 | leaf k v =>
  intro n d b hr hd
  have hle := hr.le
  cases hr with
  | leaf h =>
  rename_i n l r
  refine zYq (fn := Tryz.f125) Y Y Y (Yb rfl) (fun R k0 => ?_)
  refine zhq 14 Y ?_
  refine zAq rfl (fun h1 => ?_) (fun h1 => ?_)
  ·exfalso; omega
  ·refine zeq 7 Y ?_
   refine ziq (n) Y Y (by first | rfl | omega) ⟨by omega, by omega⟩ ?_
   refine zaq rfl (zBq (i := n) Y Y Y Y Y Y Y (ynq nW h)) ?_
   refine zbq 19 Y ?_
   refine zjq Y Y Y Y Y Y (rshared_s _ _) ?_
   refine zbq 4 Y ?_
   refine zAq rfl (fun h2 => ?_) (fun h2 => ?_)
   ·refine zeq 8 Y ?_
    refine zgq (.inr rfl) Y ?_
    unfold cntR
    rw [if_neg]
    simp only [T.ok, decide_eq_true_eq]
    have h2 : ((ybq k b : Nat) : Int) < d := h2
    omega
   ·refine zeq 9 Y ?_
    refine zgq (.inr rfl) Y ?_
    unfold cntR
    rw [if_pos]
    simp only [T.ok, decide_eq_true_eq]
    have h2 : ¬ ((ybq k b : Nat) : Int) < d := h2
    omega
 | fork tl tr ihL ihR =>
  intro n d b hr hd
  have hle := hr.le
  cases hr with
  | fork h hl hr hL hR =>
  rename_i n l r k v
  refine zYq (fn := Tryz.f125) Y Y Y (Yb rfl) (fun R k0 => ?_)
  refine zhq 14 Y ?_
  refine zAq rfl (fun h1 => ?_) (fun h1 => ?_)
  ·exfalso; omega
  ·refine zeq 7 Y ?_
   refine ziq (n) Y Y (by first | rfl | omega) ⟨by omega, by omega⟩ ?_
   refine zaq rfl (zBq (i := n) Y Y Y Y Y Y Y (ynq nW h)) ?_
   refine zbq 22 Y ?_
   refine zAq rfl (fun h2 => ?_) (fun h2 => ?_)
   ·refine zeq 7 Y ?_
    refine zgq (.inr rfl) Y ?_
    rw [cntR_no fun q => by have := (ok_fork.1 q).1; omega]
   ·have hd' : d < 256 := by omega
    refine zeq 6 Y ?_
    refine zjq Y Y Y Y Y Y (rturn_in _ _ (by omega)) ?_
    refine zbq 14 Y ?_
    refine ziq (d + 1) Y Y (by first | rfl | omega) ⟨by omega, by omega⟩ ?_
    refine znq Y Y (zjq Y Y Y Y Y Y (ihL l (d + 1) b hL (by omega)) ?_)
    refine zbq 10 Y ?_
    refine zAq rfl (fun h3 => ?_) (fun h3 => ?_)
    ·refine zeq 7 Y ?_
     refine zgq (.inr rfl) Y ?_
     rw [cntR_no fun q => (cntR_lt tl _ _).1 (by assumption) (ok_fork.1 q).2.1]
    ·refine zeq 8 Y ?_
     refine ziq (d + 1) Y Y (by first | rfl | omega) ⟨by omega, by omega⟩ ?_
     refine znq Y Y (zjq Y Y Y Y Y Y (ihR r (d + 1) (qvq b d) hR (by omega)) ?_)
     refine zbq 7 Y ?_
     refine qdq Y Y (fun h4 => ?_) (fun h4 => ?_)
     ·refine zbq 16 Y ?_
      refine zgq (.inr rfl) Y ?_
      rw [cntR_no fun q => (cntR_lt tr _ _).1 (by assumption) (ok_fork.1 q).2.2.1]
     ·have hc := cntR_fork (l := tl) (r := tr) hd' h3 h4
      have b1 := cntR_le tl (d + 1) b
      have b2 := cntR_le tr (d + 1) (qvq b d)
      refine zbq 3 Y ?_
      first | refine ytq Y Y ⟨by omega, by omega⟩ ?_ | refine zaq Y Y ?_
      refine yYq Y Y ?_
      refine zbq 3 Y ?_
      refine zAq rfl (fun h5 => ?_) (fun h5 => ?_)
      ·refine zeq 7 Y ?_
       exact zgq (.inr rfl) rfl (by rw [hc, if_pos (by assumption)])
      ·refine zeq 8 Y ?_
       exact zgq (.inr rfl) rfl (by rw [hc, if_neg (by assumption)])
theorem rmay_s (t : Tree) (hb : t.nodes.length <= 4611686018427387903) : PS cfg G 55 [tW t] (.bool (decide (MayT t))) := by
 have e : (t.nodes.map nW).length = t.nodes.length := List.length_map _
 refine zYq (fn := Tryz.f55) Y Y Y (Yb rfl) (fun R k0 => ?_)
 refine zhq 11 Y ?_
 refine zqq (w' := .int .i64 (t.nodes.length : Int)) Y Y (by rw [<- e]; rfl) ?_
 refine qdq Y Y (fun h1 => ?_) (fun h1 => ?_)
 ·have hno : ¬ MayT t := fun h => by have := h.1; omega
  refine zbq 23 Y ?_
  exact zgq (.inr rfl) rfl (by rw [decide_eq_false hno])
 refine zbq 3 Y ?_
 refine qdq Y Y (fun h2 => ?_) (fun h2 => ?_)
 ·have hno : ¬ MayT t := fun h => by obtain ⟨_, _, n, _, h, _⟩ := h; have h2 : t.root < 0 := h2; omega
  refine zbq 19 Y ?_
  exact zgq (.inr rfl) rfl (by rw [decide_eq_false hno])
 refine zbq 6 Y ?_
 refine zqq (w' := .int .i64 (t.nodes.length : Int)) Y Y (by rw [<- e]; rfl) ?_
 refine yYq Y Y ?_
 refine zbq 3 Y ?_
 refine zAq rfl (fun h3 => ?_) (fun h3 => ?_)
 ·have hno : ¬ MayT t := fun h => by obtain ⟨_, _, n, _, h, hr, _⟩ := h; have h3 : (t.nodes.length : Int) < t.root := h3; have := hr.le; omega
  refine zeq 7 Y ?_
  exact zgq (.inr rfl) rfl (by rw [decide_eq_false hno])
 have h2 : ¬ t.root < 0 := h2
 have h3 : ¬ (t.nodes.length : Int) < t.root := h3
 obtain ⟨n0, hn0⟩ := Int.eq_ofNat_of_zero_le (show 0 <= t.root by omega)
 refine zeq 9 Y ?_
 refine y0q (α := Nat) (fun i => i <= t.nodes.length /\ ∀ j x, j < i -> t.nodes[j]? = some x -> oneB x j) (fun i => [(3, .int .i64 (i : Int))]) [(1, _), (2, _)] (fun i => t.nodes.length - i) (0) ⟨rfl, rfl, trivial⟩ (⟨Nat.zero_le _, fun j x hj => by omega⟩) ⟨rfl, trivial⟩ (fun i hI => ?_)
 obtain ⟨hi, hI⟩ := hI
 refine zhq 6 Y ?_
 refine zqq (w' := .int .i64 (t.nodes.length : Int)) Y Y (by rw [<- e]; rfl) ?_
 refine zbq 3 Y ?_
 refine zAq rfl (fun h4 => ?_) (fun h4 => ?_)
 ·have hi' : i < t.nodes.length := by omega
  obtain ⟨x, hx⟩ : ∃ x, t.nodes[i]? = some x := ⟨_, List.getElem?_eq_getElem hi'⟩
  refine zeq 9 Y ?_
  refine zaq rfl (zBq (i := i) Y Y Y Y Y Y Y (ynq nW hx)) ?_
  refine zbq 2 Y ?_
  refine zjq Y Y Y Y Y Y (rone_s _ _ (by omega)) ?_
  refine zbq 3 Y ?_
  refine zAq rfl (fun h5 => ?_) (fun h5 => ?_)
  ·have hno : ¬ MayT t := fun h => by have := h.2.1 i x hx; simp [this] at h5
   refine zeq 8 Y ?_
   refine yfq (by intro h; cases h) ?_
   refine zDq 2 Y ?_
   exact zgq (.inr rfl) rfl (by rw [decide_eq_false hno])
  ·have h5 : oneB x i := by simpa using h5
   refine zeq 5 Y ?_
   refine ziq (i + 1) Y Y (by first | rfl | omega) ⟨by omega, by omega⟩ ?_
   refine yLq 2 Y ?_
   exact yhq (i + 1) (⟨hi', fun j y hj hy => by rcases Nat.lt_succ_iff_lt_or_eq.1 hj with h | rfl; exact hI j y h hy; exact (Option.some.inj (hx.symm.trans hy)) ▸ h5⟩) (by omega) ⟨rfl, trivial⟩ ⟨rfl, rfl, trivial⟩ (by repeat (first | exact trivial | refine ⟨by first | rfl | exact zfq (by first | rfl | (simp; done)), ?_⟩)) (by omega) (by repeat (first | exact zNq | refine zQq (by omega) ?_ | refine zOq (by omega) ?_ | refine zPq (by omega) ?_)) rfl
 ·have okn : okN t.nodes := fun j x hx => hI j x (by have := (List.getElem?_eq_some_iff.1 hx).1; omega) hx
  obtain ⟨t0, ht0⟩ := rep_of okn n0 (by omega)
  have key : MayT t ↔ t0.ok 0 jkq = true := by
   constructor
   ·rintro ⟨_, _, n, t1, hn, hr, hk⟩
    obtain rfl : n = n0 := by omega
    rw [ht0.uniq hr]; exact hk
   ·exact fun h => ⟨by omega, okn, n0, t0, hn0, ht0, h⟩
  refine zeq 2 Y ?_
  refine yfq (by intro h; cases h) ?_
  refine zDq 7 Y ?_
  refine zqq Y Y vJq ?_
  refine op_ps Y Y Y Y Y (by rw [hn0]; rfl) (rright_s t (by omega) t0 n0 0 jkq ht0 (by omega)) (by simp) (by simp) ?_
  refine yYq Y Y ?_
  refine zbq 4 Y ?_
  refine zgq (.inr rfl) Y ?_
  rw [show decide (MayT t) = decide (0 <= cntR t0 0 jkq) from decide_eq_decide.2 (key.trans (cntR_ge t0 0 jkq).symm)]
theorem rfor_s (t0 : Tree) (hb : t0.nodes.length <= 4611686018427387903) : ∀ (t : T) (n : Nat), Rep t0.nodes n t -> t.all.length <= 1000000 -> (∀ p ∈ t.all, p.2.length <= 70368744177664) -> PL cfg G 119 [tW t0, .int .i64 (n : Int)] 90 33 (t.all.map pW) := by
 intro t
 induction t with
 | nil =>
  intro n hr hl hv R
  obtain rfl : n = 0 := by cases hr; rfl
  refine z0q (fn := Tryz.f119) Y Y Y (Yb rfl) (fun k0 => ?_)
  refine zhq 13 Y ?_
  refine zAq rfl (fun h1 => ?_) (fun h1 => ?_)
  ·refine zeq 7 Y ?_
   exact fin (w := gW 0 33 []) (.inr rfl) (Zoq (b := 0) (ty := 90) (l2 := []) (H0 := []) (fr2 := []) 4 (by omega) (by omega) rfl trivial trivial (fun x r h => by cases h) rfl trivial List.nodup_nil) rfl ⟨rfl, rfl, rfl, rfl⟩
  ·exfalso; omega
 | leaf k v =>
  intro n hr hl hv R
  have hle := hr.le
  have hvl := hv (k, v) (by simp [T.all])
  simp only at hvl
  cases hr with
  | leaf h =>
  rename_i n l r
  refine z0q (fn := Tryz.f119) Y Y Y (Yb rfl) (fun k0 => ?_)
  refine zhq 13 Y ?_
  refine zAq rfl (fun h1 => ?_) (fun h1 => ?_)
  ·exfalso; omega
  ·refine zeq 7 Y ?_
   refine ziq (n) Y Y (by first | rfl | omega) ⟨by omega, by omega⟩ ?_
   refine zaq rfl (zBq (i := n) Y Y Y Y Y Y Y (ynq nW h)) ?_
   refine zbq 19 Y ?_
   refine fl_ps Y Y Y Y Y Y (ZCq v false hvl) (by simp) (by simp) (by first | rfl | kernel_rfl) ?_
   refine zuq 7 Y ?_
   exact fin (w := gW 0 33 [pW (k, v)]) (.inr rfl) (ent_one (b := 0) (x := pW (k, v)) 2 4 (by omega) (by omega) (by omega) Y Y Y Y (by simp)) rfl ⟨rfl, rfl, rfl, rfl⟩
 | fork tl tr ihL ihR =>
  intro n hr hl hv R
  have hle := hr.le
  cases hr with
  | fork h hl0 hr0 hL hR =>
  rename_i n l r k v
  have hlen : tl.all.length + tr.all.length <= 1000000 := by simpa [T.all] using hl
  obtain ⟨l1, e1⟩ : ∃ q, q = tl.all.map pW := ⟨_, rfl⟩
  obtain ⟨l2, e2⟩ : ∃ q, q = tr.all.map pW := ⟨_, rfl⟩
  have P1 : PL cfg G 119 [tW t0, .int .i64 (l : Int)] 90 33 l1 := e1 ▸ ihL l hL (by omega) fun p hp => hv p (by simp [T.all, hp])
  have P2 : PL cfg G 119 [tW t0, .int .i64 (r : Int)] 90 33 l2 := e2 ▸ ihR r hR (by omega) fun p hp => hv p (by simp [T.all, hp])
  have p1 : purL l1 = true := by rw [e1]; exact kqq _
  have p2 : purL l2 = true := by rw [e2]; exact kqq _
  have hl1 : l1.length <= 1000000 := by rw [e1, List.length_map]; omega
  have hl2 : l2.length <= 1000000 := by rw [e2, List.length_map]; omega
  have e3 : (T.fork tl tr).all.map pW = l1 ++ l2 := by rw [e1, e2]; simp [T.all]
  rw [e3]
  clear e1 e2 e3
  refine z0q (fn := Tryz.f119) Y Y Y (Yb rfl) (fun k0 => ?_)
  refine zhq 13 Y ?_
  refine zAq rfl (fun h1 => ?_) (fun h1 => ?_)
  ·exfalso; omega
  ·refine zeq 7 Y ?_
   refine ziq (n) Y Y (by first | rfl | omega) ⟨by omega, by omega⟩ ?_
   refine zaq rfl (zBq (i := n) Y Y Y Y Y Y Y (ynq nW h)) ?_
   refine zbq 20 Y ?_
   skip
   skip
   cases l1 with
   | nil =>
    cases l2 with
    | nil =>
     (refine ymq rfl (xqq Y Y Y Y Y (by simp) P1 (by assumption) ?_); refine ⟨by first | rfl | kernel_rfl, ?_⟩)
     refine zuq 3 Y ?_
     (refine ymq rfl (xqq Y Y Y Y Y (by simp) P2 (by assumption) ?_); refine ⟨by first | rfl | kernel_rfl, ?_⟩)
     refine yHq rfl (y5q Y Y (Jcq Y Y Y Y Y)) (by first | rfl | kernel_rfl) ?_
     refine zuq 4 Y ?_
     refine fin (w := gW 0 33 ([] : List W)) (.inr rfl) (Zoq (b := 0) (ty := 90) (l2 := []) (H0 := []) (fr2 := []) 4 (by omega) (by omega) rfl trivial trivial (fun x r h => by cases h) rfl trivial List.nodup_nil) rfl ⟨rfl, ?_, ?_, rfl⟩
     ·rfl
     ·rfl
    | cons y2 r2 =>
     (refine ymq rfl (xqq Y Y Y Y Y (by simp) P1 (by assumption) ?_); refine ⟨by first | rfl | kernel_rfl, ?_⟩)
     refine zuq 3 Y ?_
     (refine ymq rfl (xqq Y Y Y Y Y (by simp) P2 (by assumption) ?_); refine ⟨by first | rfl | kernel_rfl, ?_⟩)
     refine yHq rfl (y5q Y Y (xKq (news := y2 :: r2) (k := ti90) Y Y Y Y (qsq Y Y Y (zGq (by decide) Y Y)) (by simp) (by show (y2 :: r2).length * 56 <= _; omega) (by omega))) (by first | rfl | kernel_rfl) ?_
     refine zuq 4 Y ?_
     refine fin (w := gW 0 33 (y2 :: r2)) (.inr rfl) (jgq (b := 0) (l2 := y2 :: r2) (H0 := []) (fr2 := []) 4 4 (by omega) (by omega) (by omega) (by simp) Y Y trivial trivial rfl p2 trivial List.nodup_nil) rfl ⟨rfl, ?_, ?_, rfl⟩
     ·rfl
     ·rfl
   | cons y1 r1 =>
    cases l2 with
    | nil =>
     (refine ymq rfl (xqq Y Y Y Y Y (by simp) P1 (by assumption) ?_); refine ⟨by first | rfl | kernel_rfl, ?_⟩)
     refine zuq 3 Y ?_
     (refine ymq rfl (xqq Y Y Y Y Y (by simp) P2 (by assumption) ?_); refine ⟨by first | rfl | kernel_rfl, ?_⟩)
     refine yHq rfl (y5q Y Y (vNq (k := ti90) Y Y Y Y Y)) (by first | rfl | kernel_rfl) ?_
     refine zuq 4 Y ?_
     refine fin (w := gW 0 33 (y1 :: r1)) (.inr rfl) (jgq (b := 0) (l2 := y1 :: r1) (H0 := []) (fr2 := []) 2 4 (by omega) (by omega) (by omega) (by simp) Y Y trivial trivial rfl p1 trivial List.nodup_nil) rfl ⟨rfl, ?_, ?_, rfl⟩
     ·rw [List.append_nil]
     ·rw [List.append_nil]; rfl
    | cons y2 r2 =>
     (refine ymq rfl (xqq Y Y Y Y Y (by simp) P1 (by assumption) ?_); refine ⟨by first | rfl | kernel_rfl, ?_⟩)
     refine zuq 3 Y ?_
     (refine ymq rfl (xqq Y Y Y Y Y (by simp) P2 (by assumption) ?_); refine ⟨by first | rfl | kernel_rfl, ?_⟩)
     refine yHq rfl (y5q Y Y (qOq (len := (y1 :: r1).length) (news := y2 :: r2) (olds := y1 :: r1) (k := ti90) Y Y Y Y (qsq Y Y Y (zGq (by decide) Y Y)) (by simp) (by show ((y1 :: r1).length + (y2 :: r2).length) * 56 <= _; omega) (by omega) rfl (by show (y1 :: r1).length * 33 < 0 + ((y1 :: r1).length + (y2 :: r2).length) * 33; simp only [List.length_cons]; omega) rfl (zGq (by decide) Y Y))) (by first | rfl | kernel_rfl) ?_
     refine zuq 4 Y ?_
     refine fin (w := gW 0 33 ((y1 :: r1) ++ (y2 :: r2))) (.inr rfl) (jgq (b := 0) (l2 := (y1 :: r1) ++ (y2 :: r2)) (n := (y1 :: r1).length + (y2 :: r2).length) (H0 := []) (fr2 := []) 4 4 (by omega) (by omega) (by omega) (by simp) rfl (by rw [List.length_append]) trivial trivial rfl (by rw [purL_app, p1, p2]; rfl) trivial List.nodup_nil) rfl ⟨rfl, ?_, ?_, rfl⟩
     ·rfl
     ·rfl
theorem g_get (b e : Nat) (l : List W) (r : W) : ypq 50 (.agg 2 [gW b e l, r]) 0 1 false = some (gW b e l) := by cases l <;> rfl
theorem g_put (b e : Nat) (l : List W) (r : W) (b' n : Nat) : qTq 50 (.agg 2 [gW b e l, r]) 0 (.sl b' 0 0 n e none) = some (.agg 2 [.sl b' 0 0 n e none, r]) := by cases l <;> rfl
theorem rttwin_s (t : Tree) (hb : t.nodes.length <= 1000000000) (hv : ∀ x ∈ t.nodes, x.val.length <= 70368744177664) : PS cfg G 14 [tW t] (tW t) := by
 have e : (t.nodes.map nW).length = t.nodes.length := List.length_map _
 refine j6q (fn := Tryz.f14) Y Y Y (Yb rfl) (fun R k0 => ?_)
 refine zhq 18 Y ?_
 refine xvq (fun _ => ent_up (fr2 := [(1, .ptr 0 0), (2, .ptr 1 0), (3, .ptr 2 0)]) ⟨rfl, rfl, rfl, trivial⟩) ?_; refine zaq Y Y ?_
 refine zbq 3 Y ?_
 refine qNq (α := Nat) (fun i => i <= t.nodes.length) (fun i => [(4, .int .i64 (i : Int))]) [(1, _), (2, _), (3, _)] (fun i => [(2, 30, .agg 2 [gW 3 36 ((t.nodes.take i).map nW), .int .i64 t.root]), (1, 30, .agg 2 [.nils, .int .i64 0]), (0, 30, tW t)] ++ gH 3 106 36 ((t.nodes.take i).map nW)) (fun i => t.nodes.length - i) (0) ⟨rfl, rfl, rfl, trivial⟩ (Nat.zero_le _) ⟨rfl, trivial⟩ (rfl) (fun i hI => ?_)
 refine zhq 6 Y ?_
 refine zqq (w' := .int .i64 (t.nodes.length : Int)) Y Y (by rw [<- e]; rfl) ?_
 refine zbq 3 Y ?_
 refine zAq rfl (fun h1 => ?_) (fun h1 => ?_)
 ·have hi : i < t.nodes.length := by omega
  obtain ⟨x, hx⟩ : ∃ x, t.nodes[i]? = some x := ⟨_, List.getElem?_eq_getElem hi⟩
  have hxv := hv x (List.mem_of_getElem? hx)
  have el : ((t.nodes.take i).map nW).length = i := by simp; omega
  have es : (t.nodes.take (i + 1)).map nW = (t.nodes.take i).map nW ++ [nW x] := by rw [List.take_add_one, hx, List.map_append]; rfl
  have ep : purL ((t.nodes.take i).map nW ++ [nW x]) = true := by rw [<- es]; exact xzq nW_pur _
  refine zeq 9 Y ?_
  refine zaq rfl (zBq (i := i) Y Y Y Y Y Y Y (ynq nW hx)) ?_
  refine zbq 9 Y ?_
  refine zjq Y Y Y Y Y Y (ZCq x.val false hxv) ?_
  refine zbq 6 Y ?_
  refine znq rfl (ykq Y Y Y (g_get 3 36 _ _)) ?_
  refine zbq 2 Y ?_
  refine znq rfl (y5q Y Y (xLq [_, _, _, _, _] (k := ti106) (news := [nW x]) Y Y Y Y Y (qsq Y Y Y Y) (by simp) (by show (((t.nodes.take i).map nW).length + 1) * 80 <= _; omega) (by show ((t.nodes.take i).map nW).length + 1 <= _; omega) rfl (by simp))) ?_
  refine zaq Y Y (znq rfl (jOq Y Y Y Y Y (g_put 3 36 _ _ _ _) rfl) ?_)
  refine zbq 5 Y ?_
  refine ziq (i + 1) Y Y (by first | rfl | omega) ⟨by omega, by omega⟩ ?_
  refine yLq 2 Y ?_
  skip
  refine yDq (i + 1) hi (by omega) ?_
  simp only
  have hne : (t.nodes.take i).map nW ++ [nW x] ≠ [] := List.append_ne_nil_of_right_ne_nil _ (by simp)
  rw [es, QSq hne, QTq hne]
  refine qiq (b := 3) (k := 6) (by omega) (by omega) (by omega) ⟨⟨rfl, rfl⟩, ⟨rfl, rfl⟩, ⟨rfl, rfl⟩, ⟨rfl, rfl⟩, trivial⟩ ⟨⟨by omega, rfl, rfl⟩, ⟨by omega, rfl, rfl⟩, ⟨by omega, ?_, zfq (by simp)⟩, ⟨by omega, ?_, zfq ep⟩, trivial⟩ (by simp)
  ·rw [zlq (by simp)]; rfl
  ·rw [zlq (by exact ep)]; rfl
 ·have hi : i = t.nodes.length := by omega
  subst hi
  rw [List.take_length]
  refine zeq 2 Y ?_
  refine qAq (by intro h; cases h) ?_
  refine zDq 9 Y ?_
  refine keq (by first | exact .inr rfl | exact .inl rfl) Y ?_
  exact .agg (.cons (vRq (H0 := [(2, 30, .agg 2 [gW 3 36 (t.nodes.map nW), .int .i64 t.root]), (1, 30, .agg 2 [gW 3 36 (t.nodes.map nW), .int .i64 t.root]), (0, 30, tW t)]) (by decide) (ukq _) (by simp)) (.cons (.pur rfl) .nil))
theorem tree_ext {a b : Tree} (h1 : a.nodes = b.nodes) (h2 : a.root = b.root) : a = b := by cases a; cases b; simp only at h1 h2; subst h1; subst h2; rfl
theorem node_ext {a b : Node} (h1 : a.leaf = b.leaf) (h2 : a.key = b.key) (h3 : a.val = b.val) (h4 : a.left = b.left) (h5 : a.right = b.right) : a = b := by cases a; cases b; simp only at h1 h2 h3 h4 h5; subst h1; subst h2; subst h3; subst h4; subst h5; rfl
instance (a b : Tree) : Decidable (a = b) := Classical.propDecidable _
theorem Qwq (a b : Tree) (hb : a.nodes.length <= 1000000000) : PS cfg G 18 [tW a, tW b] (.bool (decide (a = b))) := by
 have ea : (a.nodes.map nW).length = a.nodes.length := List.length_map _
 have eb : (b.nodes.map nW).length = b.nodes.length := List.length_map _
 refine zYq (fn := Tryz.f18) Y Y Y (Yb rfl) (fun R k0 => ?_)
 refine zhq 14 Y ?_
 refine qdq Y Y (fun h1 => ?_) (fun h1 => ?_)
 ·have hno : ¬ a = b := fun h => h1 (by rw [h])
  refine zbq 19 Y ?_
  exact zgq (.inr rfl) rfl (by rw [decide_eq_false hno])
 have hroot : a.root = b.root := by simpa using h1
 refine zbq 3 Y ?_
 refine zqq (w' := .int .i64 (a.nodes.length : Int)) Y Y (by rw [<- ea]; rfl) ?_
 refine zbq 2 Y ?_
 refine zqq (w' := .int .i64 (b.nodes.length : Int)) Y Y (by rw [<- eb]; rfl) ?_
 refine yYq Y Y ?_
 refine zbq 3 Y ?_
 refine zAq rfl (fun h2 => ?_) (fun h2 => ?_)
 ·have hno : ¬ a = b := fun h => h2 (by rw [h])
  refine zeq 7 Y ?_
  exact zgq (.inr rfl) rfl (by rw [decide_eq_false hno])
 have hlen : a.nodes.length = b.nodes.length := by omega
 refine zeq 9 Y ?_
 refine y0q (α := Nat) (fun i => i <= a.nodes.length /\ a.nodes.take i = b.nodes.take i) (fun i => [(5, .int .i64 (i : Int))]) [(2, _), (3, _), (4, _)] (fun i => a.nodes.length - i) (0) ⟨rfl, rfl, rfl, trivial⟩ (⟨Nat.zero_le _, rfl⟩) ⟨rfl, trivial⟩ (fun i hI => ?_)
 obtain ⟨g1, g2⟩ := hI
 refine zhq 6 Y ?_
 refine zqq (w' := .int .i64 (a.nodes.length : Int)) Y Y (by rw [<- ea]; rfl) ?_
 refine zbq 3 Y ?_
 refine zAq rfl (fun h3 => ?_) (fun h3 => ?_)
 ·have hi : i < a.nodes.length := by omega
  obtain ⟨x, hx⟩ : ∃ x, a.nodes[i]? = some x := ⟨_, List.getElem?_eq_getElem hi⟩
  obtain ⟨y, hy⟩ : ∃ y, b.nodes[i]? = some y := ⟨_, List.getElem?_eq_getElem (by omega)⟩
  have no : x ≠ y -> ¬ a = b := fun h q => h (by subst q; exact Option.some.inj (hx.symm.trans hy))
  refine zeq 9 Y ?_
  refine zcq rfl (zBq (i := i) Y Y Y Y Y Y Y (ynq nW hx)) ?_
  refine zuq 4 Y ?_
  refine zcq rfl (zBq (i := i) Y Y Y Y Y Y Y (ynq nW hy)) ?_
  refine zuq 13 Y ?_
  refine qdq Y Y (fun h4 => ?_) (fun h4 => ?_)
  ·have hno := no fun q => by rw [q] at h4; simp at h4
   refine zbq 40 Y ?_
   refine yfq (by intro h; cases h) ?_
   refine zDq 2 Y ?_
   exact zgq (.inr rfl) rfl (by rw [decide_eq_false hno])
  refine zbq 5 Y ?_
  refine op_dec rfl (kuq Y Y Y Y (qFq Y Y Y Y Y Y _ _ 250)) (vAq ySq) (fun h5 => ?_) (fun h5 => ?_)
  ·have hno := no fun q => h5 (by rw [q])
   refine zbq 34 Y ?_
   refine yfq (by intro h; cases h) ?_
   refine zDq 2 Y ?_
   exact zgq (.inr rfl) rfl (by rw [decide_eq_false hno])
  refine zbq 6 Y ?_
  refine zjq Y Y Y Y Y Y (same_s _ _ _ _) ?_
  refine x0q (fun h6 => ?_) (fun h6 => ?_)
  ·refine zbq 7 Y ?_
   refine qdq Y Y (fun h7 => ?_) (fun h7 => ?_)
   ·have hno := no fun q => h7 (by rw [q])
    refine zbq 19 Y ?_
    refine yfq (by intro h; cases h) ?_
    refine zDq 2 Y ?_
    exact zgq (.inr rfl) rfl (by rw [decide_eq_false hno])
   refine zbq 6 Y ?_
   refine yYq Y Y ?_
   refine zbq 3 Y ?_
   refine zAq rfl (fun h8 => ?_) (fun h8 => ?_)
   ·have hno := no fun q => h8 (by rw [q])
    refine zeq 8 Y ?_
    refine yfq (by intro h; cases h) ?_
    refine zDq 2 Y ?_
    exact zgq (.inr rfl) rfl (by rw [decide_eq_false hno])
   have hxy : x = y := node_ext (by simpa using h4) (by simpa using h5) h6 (by simpa using h7) (by simpa using h8)
   refine zeq 5 Y ?_
   refine ziq (i + 1) Y Y (by first | rfl | omega) ⟨by omega, by omega⟩ ?_
   refine yLq 2 Y ?_
   exact yhq (i + 1) (⟨hi, by rw [List.take_add_one, List.take_add_one, g2, hx, hy, hxy]⟩) (by omega) ⟨rfl, trivial⟩ ⟨rfl, rfl, rfl, trivial⟩ (by repeat (first | exact trivial | refine ⟨by first | rfl | exact zfq (by first | rfl | (simp; done)), ?_⟩)) (by omega) (by repeat (first | exact zNq | refine zQq (by omega) ?_ | refine zOq (by omega) ?_ | refine zPq (by omega) ?_)) rfl
  ·have hno := no fun q => h6 (by rw [q])
   refine zbq 27 Y ?_
   refine yfq (by intro h; cases h) ?_
   refine zDq 2 Y ?_
   exact zgq (.inr rfl) rfl (by rw [decide_eq_false hno])
 ·refine zeq 2 Y ?_
  refine yfq (by intro h; cases h) ?_
  refine zDq 8 Y ?_
  refine zgq (.inr rfl) Y ?_
  rw [decide_eq_true]
  have := g2
  rw [List.take_of_length_le (by omega), List.take_of_length_le (by omega)] at this
  exact tree_ext this hroot
theorem rall_s (t : Tree) (n : Nat) (t0 : T) (h : IsT t n t0) : PS cfg G 52 [tW t] (psW t0.all) := by
 have h1 := h.all_le
 have h2 := h.len
 have h3 := h.root
 obtain ⟨ns, root⟩ := t
 simp only at h1 h2 h3
 subst h3
 have P := (rfor_s (G := G) ⟨ns, (n : Int)⟩ (by show ns.length <= _; omega) t0 n h.rep (by omega) (fun p hp => by have := (h.val p hp).2; omega)).ps (by decide) (kqq _)
 refine zYq (fn := Tryz.f52) Y Y Y (Yb rfl) (fun R k0 => ?_)
 refine zhq 11 Y ?_
 refine op_ps Y Y Y Y Y Y P (by simp) (by simp) ?_
 refine zbq 4 Y ?_
 exact zgq (.inr rfl) Y Y
end
section
attribute [local irreducible] CoW OpW FlW Step Spec
variable {G : Nat -> Option W}
def HeldB (ps : List Pr) : Prop := ∀ p ∈ ps, (qoq p.2).2 = 0
instance (ps : List Pr) : Decidable (HeldB ps) := Classical.propDecidable _
theorem rheld_s (ps : List Pr) (f : Bool) (hb : ps.length <= 1000000000) : PS cfg G 116 [.fz (ps.map pW) 33 f] (.bool (decide (HeldB ps))) := by
 have e : (ps.map pW).length = ps.length := List.length_map _
 refine zYq (fn := Tryz.f116) Y Y Y (Yb rfl) (fun R k0 => ?_)
 refine zhq 12 Y ?_
 refine y0q (α := Nat) (fun i => i <= ps.length /\ ∀ j x, j < i -> ps[j]? = some x -> (qoq x.2).2 = 0) (fun i => [(3, .int .i64 (i : Int))]) [(0, _), (2, _)] (fun i => ps.length - i) (0) ⟨rfl, rfl, trivial⟩ (⟨Nat.zero_le _, fun j x h => by omega⟩) ⟨rfl, trivial⟩ (fun i hI => ?_)
 obtain ⟨g1, g2⟩ := hI
 refine zhq 5 Y ?_
 refine zqq (w' := .int .i64 (ps.length : Int)) Y Y (by rw [<- e]; rfl) ?_
 refine zbq 3 Y ?_
 refine zAq rfl (fun h1 => ?_) (fun h1 => ?_)
 ·have hi : i < ps.length := by omega
  obtain ⟨x, hx⟩ : ∃ x, ps[i]? = some x := ⟨_, List.getElem?_eq_getElem hi⟩
  refine zeq 8 Y ?_
  refine zaq rfl (zBq (i := i) Y Y Y Y Y Y Y (ynq pW hx)) ?_
  refine zbq 2 Y ?_
  refine zjq Y Y Y Y Y Y (raread_s _ _) ?_
  refine zbq 14 Y ?_
  refine zAq rfl (fun h2 => ?_) (fun h2 => ?_)
  ·refine zeq 8 Y ?_
   refine yfq (by intro h; cases h) ?_
   refine zDq 2 Y ?_
   have hno : ¬ HeldB ps := fun h => by have := h x (List.mem_of_getElem? hx); omega
   exact zgq (.inr rfl) rfl (by rw [decide_eq_false hno])
  ·have h0 : (qoq x.2).2 = 0 := by omega
   refine zeq 5 Y ?_
   refine ziq (i + 1) Y Y (by first | rfl | omega) ⟨by omega, by omega⟩ ?_
   refine yLq 2 Y ?_
   exact yhq (i + 1) (⟨hi, fun j y hj hy => by rcases Nat.lt_succ_iff_lt_or_eq.1 hj with q | rfl; exact g2 j y q hy; have := Option.some.inj (hx.symm.trans hy); subst this; exact h0⟩) (by omega) ⟨rfl, trivial⟩ ⟨rfl, rfl, trivial⟩ (by repeat (first | exact trivial | refine ⟨by first | rfl | exact zfq (by first | rfl | (simp; done)), ?_⟩)) (by omega) (by repeat (first | exact zNq | refine zQq (by omega) ?_ | refine zOq (by omega) ?_ | refine zPq (by omega) ?_)) rfl
 ·refine zeq 2 Y ?_
  refine yfq (by intro h; cases h) ?_
  refine zDq 8 Y ?_
  have yes : HeldB ps := fun p hp => by
   obtain ⟨j, hj⟩ := List.getElem?_of_mem hp
   have := (List.getElem?_eq_some_iff.1 hj).1
   exact g2 j p (by omega) hj
  exact zgq (.inr rfl) rfl (by rw [decide_eq_true yes])
theorem mayA_iff {t : Tree} {n : Nat} {t0 : T} (h : IsT t n t0) : MayA t ↔ HeldB t0.all := by
 constructor
 ·rintro ⟨n', t', h'⟩
  have hn : n = n' := by have := h.root; have := h'.root; omega
  subst hn
  rw [h.rep.uniq h'.rep]
  exact h'.held
 ·exact fun q => ⟨n, t0, h, q⟩
theorem mayA_T {t : Tree} (h : MayA t) : MayT t := by obtain ⟨n, t0, h⟩ := h; exact h.toIsT.may
theorem QBq (t : Tree) (hb : t.nodes.length <= 4611686018427387903) : PS cfg G 50 [tW t] (.bool (decide (MayA t))) := by
 by_cases hT : MayT t
 ·obtain ⟨n, t0, h⟩ := may_is hT
  have hl : t0.all.length <= 1000000000 := by have := h.all_le; have := h.len; omega
  have h2 : decide (MayA t) = decide (HeldB t0.all) := decide_eq_decide.2 (mayA_iff h)
  rw [h2]
  refine zYq (fn := Tryz.f50) Y Y Y (Yb rfl) (fun R k0 => ?_)
  refine zhq 9 Y ?_
  refine zjq Y Y Y Y Y Y (yMq (w' := .bool true) (rmay_s t hb) (by rw [decide_eq_true hT])) ?_
  refine x0q (fun h1 => ?_) (fun h1 => ?_)
  ·refine zbq 2 Y ?_
   refine zjq Y Y Y Y Y Y (rall_s t n t0 h) ?_
   refine zjq Y Y Y Y Y Y (rheld_s _ _ (by assumption)) ?_
   refine zbq 5 Y ?_
   exact zgq (.inr rfl) Y Y
  ·exfalso; exact h1 rfl
 ·have h2 : decide (MayA t) = false := decide_eq_false fun h => hT (mayA_T h)
  rw [h2]
  refine zYq (fn := Tryz.f50) Y Y Y (Yb rfl) (fun R k0 => ?_)
  refine zhq 9 Y ?_
  refine zjq Y Y Y Y Y Y (yMq (w' := .bool false) (rmay_s t hb) (by rw [decide_eq_false hT])) ?_
  refine x0q (fun h1 => ?_) (fun h1 => ?_)
  ·exfalso; cases h1
  ·refine zbq 9 Y ?_
   exact zgq (.inr rfl) Y Y
theorem idx_find (k : Dig) : ∀ ps : List Pr, (∃ (i : Nat) (x : Pr), ps[i]? = some x /\ idxP ps k = i /\ q3q ps k = some x.2) \/ (idxP ps k = -1 /\ q3q ps k = none)
 | [] => .inr ⟨rfl, rfl⟩
 | p :: ps => by
  by_cases e : p.1 = k
  ·refine .inl ⟨0, p, rfl, ?_, ?_⟩
   ·simp [idxP, List.findIdx?_cons, e]
   ·simp [q3q, e]
  ·rcases idx_find k ps with ⟨i, x, h1, h2, h3⟩ | ⟨h1, h2⟩
   ·refine .inl ⟨i + 1, x, by simpa using h1, ?_, ?_⟩
    ·unfold idxP at h2 ⊢
     rw [List.findIdx?_cons]
     simp only [e, decide_false, Bool.false_eq_true, if_false]
     cases hq : ps.findIdx? (fun p => decide (p.1 = k)) with
     | none => rw [hq] at h2; exfalso; simp only at h2; omega
     | some j => rw [hq] at h2; simp only [Option.map_some] at h2 ⊢; omega
    ·rw [<- h3]; simp [q3q, e]
   ·refine .inr ⟨?_, ?_⟩
    ·unfold idxP at h1 ⊢
     rw [List.findIdx?_cons]
     simp only [e, decide_false, Bool.false_eq_true, if_false]
     cases hq : ps.findIdx? (fun p => decide (p.1 = k)) with
     | none => rfl
     | some j => rw [hq] at h1; simp only at h1; omega
    ·rw [<- h2]; simp [q3q, e]
def inA (ps : List Pr) (k : Dig) : Acct := match q3q ps k with
 | some v => (qoq v).1
 | none => .zero
theorem Zaq (ps : List Pr) (f : Bool) (k : Dig) (hb : ps.length <= 1000000000) : PS cfg G 120 [.fz (ps.map pW) 33 f, dW k] (aW (inA ps k)) := by
 rcases idx_find k ps with ⟨i, x, q1, q2, q3⟩ | ⟨q1, q2⟩
 ·have e : inA ps k = (qoq x.2).1 := by unfold inA; rw [q3]
  have hi := (List.getElem?_eq_some_iff.1 q1).1
  rw [e]
  refine zYq (fn := Tryz.f120) Y Y Y (Yb rfl) (fun R k0 => ?_)
  refine zhq 10 Y ?_
  refine zjq Y Y Y Y Y Y (yMq (w' := .int .i64 (i : Int)) (rfind_s ps f k hb) (by rw [q2])) ?_
  refine zbq 10 Y ?_
  refine zAq rfl (fun h1 => ?_) (fun h1 => ?_)
  ·exfalso; omega
  ·refine zeq 6 Y ?_
   refine zaq rfl (zBq (i := i) Y Y Y Y Y Y Y (ynq pW q1)) ?_
   refine zbq 2 Y ?_
   refine zjq Y Y Y Y Y Y (raread_s _ _) ?_
   refine zbq 15 Y ?_
   exact zgq (.inr rfl) Y Y
 ·have e : inA ps k = .zero := by unfold inA; rw [q2]
  rw [e]
  refine zYq (fn := Tryz.f120) Y Y Y (Yb rfl) (fun R k0 => ?_)
  refine zhq 10 Y ?_
  refine zjq Y Y Y Y Y Y (yMq (w' := .int .i64 (-1)) (rfind_s ps f k hb) (by rw [q1])) ?_
  refine zbq 10 Y ?_
  refine zAq rfl (fun h1 => ?_) (fun h1 => ?_)
  ·refine zeq 8 Y ?_
   exact zgq (.inr rfl) Y Y
  ·exfalso; omega
end
section
attribute [local irreducible] CoW OpW FlW Step Spec
variable {G : Nat -> Option W}
theorem IsT.le {t : Tree} {n : Nat} {t0 : T} (h : IsT t n t0) : t0.all.length <= 262144 := Nat.le_trans h.all_le h.len
theorem IsT.vle {t : Tree} {n : Nat} {t0 : T} (h : IsT t n t0) : ∀ x ∈ t0.all, x.2.length <= 70368744177664 := fun x hx => by have := (h.val x hx).2; omega
def withA (ps : List Pr) (k : Dig) (a : Acct) : List Pr := if a = .zero then zKq ps k else withR ps k (qJq a)
theorem Zsq {l : List Pr} (h : Srt l) (k : Dig) (a : Acct) : withA l k a = setL l k a := by
 unfold withA setL
 rw [withR_eq h]
theorem acct_zero {a : Acct} : a = .zero ↔ a.nonce = 0 /\ a.balance = 0 := by cases a; simp [Acct.zero]
theorem QAq (ps : List Pr) (f : Bool) (k : Dig) (a : Acct) (ha : a.ok) (hb : ps.length <= 1000000) (hv : ∀ x ∈ ps, x.2.length <= 70368744177664) : PS cfg G 122 [.fz (ps.map pW) 33 f, dW k, aW a] (psW (withA ps k a)) := by
 have lb := vMq a
 refine zYq (fn := Tryz.f122) Y Y Y (Yb rfl) (fun R k0 => ?_)
 refine zhq 12 Y ?_
 refine qdq Y Y (fun h1 => ?_) (fun h1 => ?_)
 ·refine zbq 3 Y ?_
  refine yYq Y Y ?_
  refine zbq 3 Y ?_
  refine zAq rfl (fun h2 => ?_) (fun h2 => ?_)
  ·have hz : a = .zero := acct_zero.2 ⟨by omega, by omega⟩
   refine zeq 4 Y ?_
   refine zjq Y Y Y Y Y Y (YUq ps f k (by omega) hv) ?_
   refine zbq 5 Y ?_
   exact zgq (.inr rfl) rfl (by unfold withA; rw [if_pos hz])
  ·have hz : ¬ a = .zero := fun q => by have := acct_zero.1 q; omega
   refine zeq 7 Y ?_
   refine y2q Y Y Y Y Y Y (rabytes_s _ (by assumption)) ?_
   refine y2q Y Y Y Y Y Y (rwith_s ps f false k (qJq a) hb hv (by omega)) ?_
   refine zuq 4 Y ?_
   exact zgq (.inr rfl) rfl (by unfold withA; rw [if_neg hz])
 ·have hz : ¬ a = .zero := fun q => by have := acct_zero.1 q; omega
  refine zbq 15 Y ?_
  refine y2q Y Y Y Y Y Y (rabytes_s _ (by assumption)) ?_
  refine y2q Y Y Y Y Y Y (rwith_s ps f false k (qJq a) hb hv (by omega)) ?_
  refine zuq 4 Y ?_
  exact zgq (.inr rfl) rfl (by unfold withA; rw [if_neg hz])
end
section
attribute [local irreducible] CoW OpW FlW Step Spec
variable {G : Nat -> Option W}
theorem inA_ok (ps : List Pr) (k : Dig) : (inA ps k).ok := by
 unfold inA
 split
 ·exact Qzq _
 ·exact ⟨Nat.zero_lt_succ _, Nat.zero_lt_succ _⟩
theorem rmore_s (ps : List Pr) (f : Bool) (k : Dig) (c : Nat) (hc : c < 18446744073709551616) (hb : ps.length <= 1000000) (hv : ∀ x ∈ ps, x.2.length <= 70368744177664) : PS cfg G 123 [.fz (ps.map pW) 33 f, dW k, .int .u64 (c : Int)] (if 18446744073709551616 <= (inA ps k).balance + c then .tup [.nils, .bool false] else .tup [psW (withA ps k ⟨(inA ps k).nonce, (inA ps k).balance + c⟩), .bool true]) := by
 obtain ⟨h0, hA⟩ := inA_ok ps k
 refine zYq (fn := Tryz.f123) Y Y Y (Yb rfl) (fun R k0 => ?_)
 refine zhq 11 Y ?_
 refine zjq Y Y Y Y Y Y (Zaq _ _ _ (by omega)) ?_
 refine zbq 10 Y ?_
 refine ziq (18446744073709551615 - (inA ps k).balance) Y Y (by first | rfl | omega) ⟨by omega, by omega⟩ ?_
 refine zbq 3 Y ?_
 refine zAq rfl (fun h1 => ?_) (fun h1 => ?_)
 ·have h1 : ((18446744073709551615 - (inA ps k).balance : Nat) : Int) < (c : Int) := h1
  refine zeq 8 Y ?_
  exact zgq (.inr rfl) rfl (by rw [if_pos (by omega)])
 ·have h1 : ¬ ((18446744073709551615 - (inA ps k).balance : Nat) : Int) < (c : Int) := h1
  have hs : (inA ps k).balance + c < 18446744073709551616 := by omega
  refine zeq 7 Y ?_
  refine ziq ((inA ps k).balance + c) Y Y (by first | rfl | omega) ⟨by omega, by omega⟩ ?_
  refine zbq 9 Y ?_
  refine zjq Y Y Y Y Y Y (QAq ps f k ⟨(inA ps k).nonce, (inA ps k).balance + c⟩ ⟨h0, hs⟩ hb hv) ?_
  refine zbq 5 Y ?_
  exact zgq (.inr rfl) rfl (by rw [if_neg (by omega)])
theorem grown_s {m : Nat} (t x : Tree) (n : Nat) (t1 : T) (l : List Pr) (h : IsT x n t1) (hg : uaq t m l x t1) : PS cfg G 17 [tW x, tW t, psW l] (.bool true) := by
 obtain ⟨hall, ms, hms, hml⟩ := hg
 have hlen := h.len
 have hxl : x.nodes.length = t.nodes.length + ms.length := by rw [hms, List.length_append]
 have ex : (x.nodes.map nW).length = x.nodes.length := List.length_map _
 have et : (t.nodes.map nW).length = t.nodes.length := List.length_map _
 have ey : ((x.nodes.map nW).drop 0).take (t.nodes.length - 0) = t.nodes.map nW := by
  rw [List.drop_zero, Nat.sub_zero, hms, List.map_append, List.take_append_of_le_length (by simp), List.take_of_length_le (by simp)]
 refine zYq (fn := Tryz.f17) Y Y Y (Yb rfl) (fun R k0 => ?_)
 refine zhq 12 Y ?_
 refine zqq (w' := .int .i64 (x.nodes.length : Int)) Y Y (by rw [<- ex]; rfl) ?_
 refine zbq 2 Y ?_
 refine zqq (w' := .int .i64 (t.nodes.length : Int)) Y Y (by rw [<- et]; rfl) ?_
 refine zqq (w' := .bool false) Y Y (congrArg W.bool (ltI_not.2 (by omega))) ?_
 refine zbq 2 Y ?_
 refine zjq Y Y Y Y Y Y (yMq (w' := .bool true) (rmay_s x (by omega)) (by rw [decide_eq_true h.may])) ?_
 refine zbq 13 Y ?_
 refine jpq (w' := .int .i64 (t.nodes.length : Int)) Y Y (by rw [<- et]; rfl) ?_
 refine zcq rfl (vdq (ys := t.nodes.map nW) (l := 0) (h := t.nodes.length) Y Y Y Y Y Y Y (Nat.zero_le _) (by omega) ey rfl) ?_
 refine zuq 11 Y ?_
 refine op_ps Y Y Y Y Y (show _ = [tW t, tW t] from rfl) (yMq (w' := .bool true) (Qwq t t (by omega)) (by rw [decide_eq_true rfl])) (by simp) Y ?_
 refine zbq 2 Y ?_
 refine zjq Y Y Y Y Y Y (rall_s x n t1 h) ?_
 refine zaq Y Y (zjq Y Y Y Y Y Y (yMq (w' := .bool true) (rpsame_s t1.all l false false (by have := h.le; omega)) (by rw [decide_eq_true hall])) ?_)
 refine zbq 5 Y ?_
 exact zgq (.inr rfl) Y Y
end
section
attribute [local irreducible] CoW OpW FlW Step Spec
variable {G : Nat -> Option W}
structure Tx where
 pub : Dig
 to : Dig
 nonce : Nat
 amount : Nat
 fee : Nat
 sign : Dig
def txW (x : Tx) : W := .agg 99 [dW x.pub, dW x.to, .int .u64 (x.nonce : Int), .int .u64 (x.amount : Int), .int .u64 (x.fee : Int), dW x.sign]
@[simp] theorem Zwq (x : Tx) : purW (txW x) = true := by simp [txW]
structure Tx.ok (x : Tx) : Prop where
 nonce : x.nonce < 18446744073709551616
 amount : x.amount < 18446744073709551616
 fee : x.fee < 18446744073709551616
def xnq (x : Tx) : List UInt8 := (x.pub.1 ++ x.to.1) ++ [x.nonce, x.amount, x.fee].flatMap (beB 8)
theorem body1_s (d : Dig) : PS cfg G 227 [dW d] (bW d.1) := by
 refine j6q (fn := Tryz.f227) Y Y Y (Yb rfl) (fun R k0 => ?_)
 refine zhq 13 Y ?_
 exact keq (.inr rfl) rfl (.sl (full := false) (xs := zdq d.1) rfl (by simp) (zGq (by decide) (by simp [zkq, d.2]) rfl) (by intro h; cases h))
theorem body2_s (n : Nat) (hn : n < 18446744073709551616) : PS cfg G 229 [.int .u64 (n : Int)] (bW (beB 8 n)) := by
 refine j6q (fn := Tryz.f229) Y Y Y (Yb rfl) (fun R k0 => ?_)
 refine zhq 8 Y ?_
 (refine zzq rfl (jDq Y Y Y Y Y Y (put_s n 8 (by omega) (by omega) (by show n < 18446744073709551616; omega)) ?_); rintro w hp1 nw1 ⟨rfl, rfl, rfl⟩)
 refine zbq 14 Y ?_
 exact keq (.inr rfl) rfl (.sl (full := false) (c := .arr (8 * 1) 1 (zdq (beB 8 n))) (xs := zdq (beB 8 n)) rfl (by simp) (zGq (by decide) (by rw [zkq, qxq]) rfl) (by intro h; cases h))
theorem flat_app {ds : List Dig} {i : Nat} {d : Dig} (h : ds[i]? = some d) : zdq ((ds.take (i + 1)).flatMap (·.1)) = zdq ((ds.take i).flatMap (·.1)) ++ zdq d.1 := by
 rw [List.take_add_one, h, <- yVq]
 congr 1
 simp
theorem flat_dig : ∀ (ds : List Dig) (i : Nat), ((ds.take i).flatMap (·.1)).length <= i * 32
 | [], i => by simp
 | d :: ds, 0 => by simp
 | d :: ds, i + 1 => by
  have := flat_dig ds i
  simp only [List.take_succ_cons, List.flatMap_cons, List.length_append, d.2, Nat.succ_mul]
  omega
@[simp] theorem dWs_pur (ds : List Dig) : purL (ds.map dW) = true := xzq (fun x => by simp) ds
theorem putd_s (ds : List Dig) (f : Bool) (hn : ds.length < 1000) : PL cfg G 226 [.nils, .fz (ds.map dW) 32 f, .fn 227 [] []] 5 1 (zdq (ds.flatMap (·.1))) := by
 have e : (ds.map dW).length = ds.length := List.length_map _
 intro R
 refine z0q (fn := Tryz.f226) Y Y Y (Yb rfl) (fun k0 => ?_)
 refine zhq 9 Y ?_
 refine zqq (w' := .int .i64 (ds.length : Int)) Y Y (by rw [<- e]; rfl) ?_
 refine zbq 4 Y ?_
 refine Q9q (α := Nat) (fun i => i <= ds.length) 0 (fun i => zdq ((ds.take i).flatMap (·.1))) 5 1 (fun i => [(11, .int .i64 (i : Int))]) [(2, _), (6, _), (9, _), (10, _)] _ (fun i => ds.length - i) (0) ⟨rfl, rfl, rfl, rfl, trivial⟩ (Nat.zero_le _) ⟨rfl, trivial⟩ Y Y Y (fun i hI => ?_)
 refine zhq 6 Y ?_
 refine zAq rfl (fun h1 => ?_) (fun h1 => ?_)
 ·have hi : i < ds.length := by omega
  obtain ⟨d, hd⟩ : ∃ d, ds[i]? = some d := ⟨_, List.getElem?_eq_getElem hi⟩
  have hN : (zdq d.1).length = 32 := by rw [zkq, d.2]
  have hne : zdq ((ds.take i).flatMap (·.1)) ++ zdq d.1 ≠ [] := fun h => by have := congrArg List.length h; rw [List.length_append, hN] at this; simp at this
  have hL : (zdq ((ds.take i).flatMap (·.1))).length <= i * 32 := by rw [zkq]; exact flat_dig ds i
  refine zeq 6 Y ?_
  refine zaq rfl (zBq (i := i) Y Y Y Y Y Y Y (ynq dW hd)) ?_
  refine zbq 9 Y ?_
  refine zjq Y Y Y Y Y Y (body1_s d) ?_
  refine znq rfl (y5q Y Y (xLq [_] (k := ti5) (news := zdq d.1) Y Y Y Y Y Y (by intro h; rw [h] at hN; cases hN) (by rw [hN]; show (_ + 32) * 1 <= _; omega) (by rw [hN]; omega) rfl (by simp))) ?_
  refine zbq 5 Y ?_
  first | refine ytq Y Y ⟨by omega, by omega⟩ ?_ | refine zaq Y Y ?_
  refine yLq 2 Y ?_
  exact kWq 2 (i + 1) (hi) (by omega) (Nat.zero_le _) (flat_app hd) (by first | assumption | (simp; done) | (simp [zdq]; done)) (by omega) (by first | omega | decide) rfl (by first | rfl | exact List.length_append.symm) ⟨rfl, trivial⟩ ⟨rfl, rfl, rfl, rfl, trivial⟩ (by repeat (first | exact trivial | refine ⟨by first | rfl | exact zfq (by first | rfl | (simp; done)), ?_⟩)) (by repeat (first | exact trivial | refine ⟨by first | rfl | exact zfq (by first | rfl | (simp; done)), ?_⟩)) rfl (by first | rfl | assumption | (simp; done)) (by repeat (first | exact trivial | refine ⟨⟨by decide, rfl, by first | rfl | exact zfq (by first | rfl | (simp; done))⟩, ?_⟩)) (by first | decide | simp)
 ·have hi : i = ds.length := by omega
  subst hi
  refine zeq 2 Y ?_
  refine qAq (by intro h; cases h) ?_
  refine zDq 9 Y ?_
  rw [List.take_length]
  exact fin (.inr rfl) (yqq (fr2 := [(6, gW 0 1 (zdq (ds.flatMap (·.1))))]) ⟨rfl, trivial⟩ Y Y) rfl ⟨rfl, rfl, rfl, rfl⟩
theorem flat_num : ∀ (ns : List Nat) (i : Nat), ((ns.take i).flatMap (beB 8)).length <= i * 8
 | [], i => by simp
 | d :: ds, 0 => by simp
 | d :: ds, i + 1 => by
  have := flat_num ds i
  simp only [List.take_succ_cons, List.flatMap_cons, List.length_append, qxq, Nat.succ_mul]
  omega
def uW (n : Nat) : W := .int .u64 (n : Int)
@[simp] theorem uWs_pur (ns : List Nat) : purL (ns.map uW) = true := xzq (fun x => rfl) ns
def thr (i : Nat) : Nat := match i with
 | 0 => 0
 | _ + 1 => 1
theorem putu_s (l : List UInt8) (hl0 : l ≠ []) (hl : l.length < 100000) (ns : List Nat) (f : Bool) (hn : ns.length < 1000) (hns : ns ≠ []) (hu : ∀ n ∈ ns, n < 18446744073709551616) : qkq cfg G 228 1 [.sl 0 0 0 l.length 1 none, .fz (ns.map uW) 1 f, .fn 229 [] []] [(0, 5, .arr l.length 1 (zdq l))] fun w hp nw => w = .sl 1 0 0 (l ++ ns.flatMap (beB 8)).length 1 none /\ hp = [(1, 5, .arr (l ++ ns.flatMap (beB 8)).length 1 (zdq (l ++ ns.flatMap (beB 8))))] /\ nw = 2 := by
 have e : (ns.map uW).length = ns.length := List.length_map _
 intro R
 refine z0q (fn := Tryz.f228) Y Y Y (Yb rfl) (fun k0 => ?_)
 refine zhq 9 Y ?_
 refine zqq (w' := .int .i64 (ns.length : Int)) Y Y (by rw [<- e]; rfl) ?_
 refine zbq 4 Y ?_
 refine qHq (α := Nat) (fun i => i <= ns.length) (fun i => [(11, .int .i64 (i : Int)), (0, .sl (thr i) 0 0 (l ++ (ns.take i).flatMap (beB 8)).length 1 none), (2, .fn 229 [] []), (6, .nils), (9, .fz (ns.map uW) 1 f), (10, .int .i64 (ns.length : Int))]) (fun i => [(thr i, 5, .arr (l ++ (ns.take i).flatMap (beB 8)).length 1 (zdq (l ++ (ns.take i).flatMap (beB 8))))]) (fun i => thr i + 1) (fun _ => R) (fun i => ns.length - i) 0 (Nat.zero_le _) (yqq ⟨rfl, by show some (W.sl 0 0 0 l.length 1 none) = some (W.sl 0 0 0 (l ++ []).length 1 none); rw [List.append_nil], rfl, rfl, rfl, rfl, trivial⟩ (by simp [thr]) rfl) (fun i hI => ?_)
 skip
 refine zhq 6 Y ?_
 refine zAq rfl (fun h1 => ?_) (fun h1 => ?_)
 ·have hi : i < ns.length := by omega
  obtain ⟨u, hu0⟩ : ∃ u, ns[i]? = some u := ⟨_, List.getElem?_eq_getElem hi⟩
  have hu1 := hu u (List.mem_of_getElem? hu0)
  have hN : (zdq (beB 8 u)).length = 8 := by rw [zkq, qxq]
  have hL : (l ++ (ns.take i).flatMap (beB 8)).length <= 100000 + i * 8 := by have := flat_num ns i; rw [List.length_append]; omega
  have hnx : l ++ (ns.take (i + 1)).flatMap (beB 8) = (l ++ (ns.take i).flatMap (beB 8)) ++ beB 8 u := by rw [List.take_add_one, hu0]; simp
  have hlen : (l ++ (ns.take i).flatMap (beB 8)).length + (zdq (beB 8 u)).length = (l ++ (ns.take (i + 1)).flatMap (beB 8)).length := by rw [hnx, List.length_append (bs := beB 8 u), zkq]
  have hby : zdq (l ++ (ns.take i).flatMap (beB 8)) ++ zdq (beB 8 u) = zdq (l ++ (ns.take (i + 1)).flatMap (beB 8)) := by rw [hnx, yVq (b := beB 8 u)]
  skip
  cases i with
  | zero =>
   refine zeq 6 Y ?_
   refine zaq rfl (zBq (i := 0) Y Y Y Y Y Y Y (ynq uW hu0)) ?_
   refine zbq 8 Y ?_
   refine zjq Y Y Y Y Y Y (body2_s u hu1) ?_
   refine znq rfl (y5q Y Y (qOq (k := ti5) (len := (l ++ (ns.take 0).flatMap (beB 8)).length) (news := zdq (beB 8 u)) (olds := zdq (l ++ (ns.take 0).flatMap (beB 8))) Y Y Y Y Y (by intro h; rw [h] at hN; cases hN) (by rw [hN]; show (_ + 8) * 1 <= _; omega) (by rw [hN]; omega) rfl (by rw [hN]; show (l ++ (ns.take 0).flatMap (beB 8)).length < 0 + (_ + 8) * 1; omega) rfl (zGq (by decide) (zkq _).symm (Nat.mul_one _).symm))) ?_
   refine zbq 5 Y ?_
   refine ziq (0 + 1) Y Y (by first | rfl | omega) ⟨by omega, by omega⟩ ?_
   refine yLq 2 Y ?_
   skip
   refine yDq 1 hi (by omega) (yqq ⟨rfl, ?_, rfl, rfl, rfl, rfl, trivial⟩ ?_ rfl)
   ·show some (W.sl 1 0 0 ((l ++ (ns.take 0).flatMap (beB 8)).length + (zdq (beB 8 u)).length) 1 none) = some (W.sl 1 0 0 (l ++ (ns.take (0 + 1)).flatMap (beB 8)).length 1 none)
    rw [hlen]
   ·show [(1, 5, W.arr (((l ++ (ns.take 0).flatMap (beB 8)).length + (zdq (beB 8 u)).length) * 1) 1 (zdq (l ++ (ns.take 0).flatMap (beB 8)) ++ zdq (beB 8 u)))] = [(1, 5, W.arr (l ++ (ns.take (0 + 1)).flatMap (beB 8)).length 1 (zdq (l ++ (ns.take (0 + 1)).flatMap (beB 8))))]
    rw [hlen, hby, Nat.mul_one]
  | succ i =>
   refine zeq 6 Y ?_
   refine zaq rfl (zBq (i := (i + 1)) Y Y Y Y Y Y Y (ynq uW hu0)) ?_
   refine zbq 8 Y ?_
   refine zjq Y Y Y Y Y Y (body2_s u hu1) ?_
   refine znq rfl (y5q Y Y (qOq (k := ti5) (len := (l ++ (ns.take (i + 1)).flatMap (beB 8)).length) (news := zdq (beB 8 u)) (olds := zdq (l ++ (ns.take (i + 1)).flatMap (beB 8))) Y Y Y Y Y (by intro h; rw [h] at hN; cases hN) (by rw [hN]; show (_ + 8) * 1 <= _; omega) (by rw [hN]; omega) rfl (by rw [hN]; show (l ++ (ns.take (i + 1)).flatMap (beB 8)).length < 0 + (_ + 8) * 1; omega) rfl (zGq (by decide) (zkq _).symm (Nat.mul_one _).symm))) ?_
   refine zbq 5 Y ?_
   refine ziq ((i + 1) + 1) Y Y (by first | rfl | omega) ⟨by omega, by omega⟩ ?_
   refine yLq 2 Y ?_
   skip
   refine yDq (i + 1 + 1) hi (show ns.length - (i + 1 + 1) < ns.length - (i + 1) by omega) ?_
   refine (qiq (b := 1) (k := 2) (by omega) (by omega) (by show 2 < 3; omega) ⟨⟨rfl, rfl⟩, ⟨?_, rfl⟩, ⟨rfl, rfl⟩, ⟨rfl, rfl⟩, ⟨by rw [zlq (show purW (.fz (ns.map uW) 1 f) = true from uWs_pur ns)]; rfl, zfq (show purW (.fz (ns.map uW) 1 f) = true from uWs_pur ns)⟩, ⟨rfl, rfl⟩, trivial⟩ ⟨⟨by show 1 < 2; omega, ?_, zfq (show purW (.arr _ 1 (zdq _)) = true from y3q _)⟩, trivial⟩ (by simp))
   ·show some (W.sl 2 0 0 ((l ++ (ns.take (i + 1)).flatMap (beB 8)).length + (zdq (beB 8 u)).length) 1 none) = some (W.sl 2 0 0 (l ++ (ns.take (i + 1 + 1)).flatMap (beB 8)).length 1 none)
    rw [hlen]
   ·show some (5, W.arr (((l ++ (ns.take (i + 1)).flatMap (beB 8)).length + (zdq (beB 8 u)).length) * 1) 1 (zdq (l ++ (ns.take (i + 1)).flatMap (beB 8)) ++ zdq (beB 8 u))) = some (5, renW _ (W.arr (l ++ (ns.take (i + 1 + 1)).flatMap (beB 8)).length 1 (zdq (l ++ (ns.take (i + 1 + 1)).flatMap (beB 8)))))
    rw [zlq (show purW (.arr _ 1 (zdq _)) = true from y3q _), hlen, hby, Nat.mul_one]
 ·have hi : i = ns.length := by omega
  subst hi
  refine zeq 2 Y ?_
  refine qAq (by intro h; cases h) ?_
  refine zDq 9 Y ?_
  rw [List.take_length]
  cases ns with
  | nil => exact absurd rfl hns
  | cons a r =>
   exact fin (.inr rfl) (yqq (fr2 := [(6, .sl 1 0 0 (l ++ (a :: r).flatMap (beB 8)).length 1 none)]) ⟨rfl, trivial⟩ Y Y) rfl ⟨rfl, rfl, rfl, rfl⟩
theorem put2_s (a b : Dig) (f : Bool) : qkq cfg G 226 0 [.nils, .fz [dW a, dW b] 32 f, .fn 227 [] []] [] fun w hp nw => w = .sl 0 0 0 (a.1 ++ b.1).length 1 none /\ hp = [(0, 5, .arr (a.1 ++ b.1).length 1 (zdq (a.1 ++ b.1)))] /\ nw = 1 := by
 refine xSq (putd_s [a, b] f (by simp)) fun w hp nw h => ?_
 obtain ⟨rfl, rfl, rfl⟩ := h
 have e : [a, b].flatMap (·.1) = a.1 ++ b.1 := by simp
 have hl : (zdq (a.1 ++ b.1)).length = 64 := by rw [zkq, List.length_append, a.2, b.2]
 have hne : zdq (a.1 ++ b.1) ≠ [] := fun h => by rw [h] at hl; cases hl
 rw [e, QSq hne, QTq hne, zkq, Nat.mul_one]
 exact ⟨rfl, rfl, rfl⟩
theorem Jbq (x : Tx) : (xnq x).length = 88 := by simp [xnq, x.pub.2, x.to.2, qxq]
theorem body_s (x : Tx) (hx : x.ok) : PS cfg G 179 [txW x] (bW (xnq x)) := by
 have hl : (x.pub.1 ++ x.to.1).length = 64 := by rw [List.length_append, x.pub.2, x.to.2]
 have hb := Jbq x
 have hns : ∀ n ∈ [x.nonce, x.amount, x.fee], n < 18446744073709551616 := fun n hn => by
  simp only [List.mem_cons, List.not_mem_nil, or_false] at hn
  rcases hn with rfl | rfl | rfl
  ·exact hx.nonce
  ·exact hx.amount
  ·exact hx.fee
 have hpa : purW (.arr (x.pub.1 ++ x.to.1).length 1 (zdq (x.pub.1 ++ x.to.1))) = true := y3q _
 refine j6q (fn := Tryz.f179) Y Y Y (Yb rfl) (fun R k0 => ?_)
 refine zhq 13 Y ?_
 (refine xvq (fun _ => ent_fr1 1 [(1, .ptr 0 0), (2, .nils), (8, .fz [dW x.pub, dW x.to] 32 false)] [(0, 57, txW x)] rfl (show purL [dW x.pub, dW x.to] = true by simp) (Nat.zero_le _) ⟨⟨_, rfl, .ptrK rfl⟩, ⟨_, rfl, .pur rfl⟩, ⟨_, rfl, .sl (full := false) rfl (show purL [dW x.pub, dW x.to] = true by simp) rfl (by intro h; cases h)⟩, trivial⟩ ⟨⟨by omega, _, rfl, .pur (by simp)⟩, trivial⟩ (by simp)) ?_; refine zzq rfl (jDq Y Y Y Y Y (by simp) (put2_s x.pub x.to false) ?_); rintro w hp1 nw1 ⟨rfl, rfl, rfl⟩)
 refine zbq 13 Y ?_
 (refine xvq (fun _ => ent_fr1 3 [(1, .ptr 0 0), (2, .nils), (10, .sl 2 0 0 (x.pub.1 ++ x.to.1).length 1 none), (17, .fz ([x.nonce, x.amount, x.fee].map uW) 1 false)] [(2, 5, .arr (x.pub.1 ++ x.to.1).length 1 (zdq (x.pub.1 ++ x.to.1))), (0, 57, txW x)] Y Y (Nat.zero_le _) ⟨⟨_, rfl, .ptrK rfl⟩, ⟨_, rfl, .pur rfl⟩, ⟨_, rfl, .slK rfl⟩, ⟨_, rfl, .sl (full := false) Y Y Y (by intro h; cases h)⟩, trivial⟩ ⟨⟨by omega, _, rfl, by rw [zlq hpa]; exact .pur hpa⟩, ⟨by omega, _, rfl, .pur (by simp)⟩, trivial⟩ (by simp)) ?_; refine zzq rfl (yOq (ext := [2]) (ws := [.sl 0 0 0 (x.pub.1 ++ x.to.1).length 1 none, .fz ([x.nonce, x.amount, x.fee].map uW) 1 false, .fn 229 [] []]) Y Y Y Y Y (putu_s (x.pub.1 ++ x.to.1) (by intro h; rw [h] at hl; cases hl) (by omega) [x.nonce, x.amount, x.fee] false (by simp) (by simp) hns) (by simp) (by simp) (by simp) (handed1 (by rw [zlq hpa]; rfl) (zfq hpa)) Y ?_); rintro w hp1 nw1 ⟨rfl, rfl, rfl⟩)
 refine zbq 4 Y ?_
 have hpb : purW (.arr (xnq x).length 1 (zdq (xnq x))) = true := y3q _
 exact keq (.inr rfl) rfl (.sl (full := false) (c := .arr (xnq x).length 1 (zdq (xnq x))) (xs := zdq (xnq x)) (by show some (renW _ (W.arr (xnq x).length 1 (zdq (xnq x)))) = _; rw [zlq hpb]) hpb (zGq (by decide) (zkq _).symm (Nat.mul_one _).symm) (by intro h; cases h))
def xZq (x : Tx) : Dig := tagD 4 [xnq x]
theorem sign_s (x : Tx) (hx : x.ok) : PS cfg glK 113 [txW x] (dW (xZq x)) := by
 have hb := Jbq x
 refine zYq (fn := Tryz.f113) Y Y Y (Yb rfl) (fun R k0 => ?_)
 refine zhq 9 Y ?_
 refine zjq Y Y Y Y Y Y (body_s x hx) ?_
 refine znq Y Y ?_
 refine op_lk Y Y Y Y Y (by (repeat (first | exact .nil | refine .cons ?_ ?_ | (refine .sl Y ?_ rfl (by intro h; cases h); first | rfl | (focus (simp; done))) | (refine qeq Y ?_ rfl; first | rfl | (focus (simp; done))) | (refine .pur ?_; first | rfl | (focus (simp; done)))))) (tagof_s 4 [xnq x] false (by simp) (by simp [hb])) (by first | rfl | assumption | (simp; done)) (by first | rfl | assumption | (simp; done)) ?_
 refine zbq 4 Y ?_
 exact zgq (.inr rfl) Y Y
theorem uJq (x : Tx) (hx : x.ok) : PS cfg glK 41 [txW x] (.int .i64 (if x.sign = xZq x then 0 else 110)) := by
 refine zYq (fn := Tryz.f41) Y Y Y (Yb rfl) (fun R k0 => ?_)
 by_cases h : x.sign = xZq x
 ·rw [if_pos h]
  skip
  refine zhq 12 Y ?_
  refine y2q Y Y Y Y Y Y (sign_s x hx) ?_
  refine jpq (w' := .bool false) rfl (kuq Y Y Y Y (qFq Y Y Y Y Y Y x.sign (xZq x) 250)) (by rw [decide_eq_true h]; rfl) ?_
  refine zuq 11 Y ?_
  exact zgq (.inr rfl) Y Y
 ·rw [if_neg h]
  refine zhq 12 Y ?_
  refine y2q Y Y Y Y Y Y (sign_s x hx) ?_
  refine jpq (w' := .bool true) rfl (kuq Y Y Y Y (qFq Y Y Y Y Y Y x.sign (xZq x) 250)) (by rw [decide_eq_false h]; rfl) ?_
  refine zuq 10 Y ?_
  exact zgq (.inr rfl) Y Y
theorem from_s (x : Tx) : PS cfg glK 39 [txW x] (dW (keyD x.pub)) := by
 refine zYq (fn := Tryz.f39) Y Y Y (Yb rfl) (fun R k0 => ?_)
 refine zhq 10 Y ?_
 refine zjq Y Y Y Y Y Y (key_s x.pub) ?_
 refine zbq 4 Y ?_
 exact zgq (.inr rfl) Y Y
end
section
attribute [local irreducible] CoW OpW FlW Step Spec
variable {G : Nat -> Option W}
def StepA (H : Tree -> HpW) (m : Nat) (b : Bool) (P : Tree -> T -> Prop) : W -> HpW -> Nat -> Prop := fun w hp nw => ∃ t n t0, IsA t n t0 /\ P t t0 /\ w = .bool b /\ hp = H t /\ nw = m
def pay1H (x : Tx) (a : Acct) (k : Dig) (t : Tree) : HpW := [(0, 57, txW x), (1, 110, aW a), (2, 115, .ptr 4 0), (3, 23, dW k), (4, 117, tW t)]
def YHq (x : Tx) (t : Tree) : HpW := [(0, 115, .ptr 2 0), (1, 57, txW x), (2, 117, tW t)]
def YGq (x : Tx) (k : Dig) (t : Tree) : HpW := [(0, 115, .ptr 3 0), (1, 23, dW k), (2, 57, txW x), (3, 117, tW t)]
theorem pay1_no (x : Tx) (hx : x.ok) (a : Acct) (ha : a.ok) (k : Dig) (t : Tree) (n : Nat) (t0 : T) (h : IsA t n t0) (ho : ¬ x.amount + x.fee <= a.balance) : qkq cfg G 45 5 [.ptr 0 0, .ptr 1 0, .ptr 2 0, .ptr 3 0] (pay1H x a k t) (StepA (pay1H x a k) 5 false (fun t' t1 => t' = t /\ t1 = t0)) := by
 intro R
 have h1 := hx.amount
 have h2 := hx.fee
 have h3 := ha.2
 by_cases ov : x.amount + x.fee < 18446744073709551616
 ·skip
  refine z0q (fn := Tryz.f45) Y Y Y (Yb rfl) (fun k0 => ?_)
  refine zhq 11 Y ?_
  (refine zzq rfl (kyq (a := x.amount) (b := x.fee) Y Y Y Y ?_))
  refine zaq Y Y (zqq (w' := .int .u64 ((x.amount + x.fee : Nat) : Int)) Y Y (congrArg (fun q : Nat => W.int .u64 (q : Int)) (by omega)) ?_)
  refine zqq (w' := .int .u64 ((0 : Nat) : Int)) Y Y (congrArg (fun q : Nat => W.int .u64 (q : Int)) (by omega)) ?_
  refine zbq 8 Y ?_
  refine zqq (w' := .bool false) Y Y (congrArg W.bool (by first | rfl | exact eqI_iff.2 rfl | (simp; done) | decide | (simp [ltI_iff, eqI_iff]; done))) ?_
  refine zbq 4 Y ?_
  refine zqq (w' := .bool true) Y Y (congrArg W.bool (ltI_iff.2 (by omega))) ?_
  refine zbq 11 Y ?_
  exact fin (.inr rfl) (yqq (fr2 := [(4, .bool false)]) ⟨rfl, trivial⟩ Y Y) rfl ⟨rfl, t, n, t0, h, ⟨rfl, rfl⟩, rfl, rfl, rfl⟩
 ·skip
  refine z0q (fn := Tryz.f45) Y Y Y (Yb rfl) (fun k0 => ?_)
  refine zhq 11 Y ?_
  (refine zzq rfl (kyq (a := x.amount) (b := x.fee) Y Y Y Y ?_))
  refine zbq 2 Y ?_
  refine zqq (w' := .int .u64 ((1 : Nat) : Int)) Y Y (congrArg (fun q : Nat => W.int .u64 (q : Int)) (by omega)) ?_
  refine zbq 8 Y ?_
  refine zqq (w' := .bool true) Y Y (congrArg W.bool (by first | rfl | exact eqI_iff.2 rfl | (simp; done) | decide | (simp [ltI_iff, eqI_iff]; done))) ?_
  refine zbq 16 Y ?_
  exact fin (.inr rfl) (yqq (fr2 := [(4, .bool false)]) ⟨rfl, trivial⟩ Y Y) rfl ⟨rfl, t, n, t0, h, ⟨rfl, rfl⟩, rfl, rfl, rfl⟩
theorem pay1_st (x : Tx) (hx : x.ok) (a : Acct) (ha : a.ok) (k : Dig) (t : Tree) (n : Nat) (t0 : T) (h : IsA t n t0) (hl : t.nodes.length <= 261844) (ho : x.amount + x.fee <= a.balance) : qkq cfg G 45 5 [.ptr 0 0, .ptr 1 0, .ptr 2 0, .ptr 3 0] (pay1H x a k t) (StepA (pay1H x a k) 5 true (uaq t 257 (setL t0.all k ⟨a.nonce, a.balance - (x.amount + x.fee)⟩))) := by
 intro R
 have h1 := hx.amount
 have h2 := hx.fee
 have h3 := ha.2
 refine z0q (fn := Tryz.f45) Y Y Y (Yb rfl) (fun k0 => ?_)
 refine zhq 11 Y ?_
 (refine zzq rfl (kyq (a := x.amount) (b := x.fee) Y Y Y Y ?_))
 refine zaq Y Y (zqq (w' := .int .u64 ((x.amount + x.fee : Nat) : Int)) Y Y (congrArg (fun q : Nat => W.int .u64 (q : Int)) (by omega)) ?_)
 refine zqq (w' := .int .u64 ((0 : Nat) : Int)) Y Y (congrArg (fun q : Nat => W.int .u64 (q : Int)) (by omega)) ?_
 refine zbq 8 Y ?_
 refine zqq (w' := .bool false) Y Y (congrArg W.bool (by first | rfl | exact eqI_iff.2 rfl | (simp; done) | decide | (simp [ltI_iff, eqI_iff]; done))) ?_
 refine zbq 4 Y ?_
 refine zqq (w' := .bool false) Y Y (congrArg W.bool (ltI_not.2 (by omega))) ?_
 refine zbq 15 Y ?_
 refine ziq (a.balance - (x.amount + x.fee)) Y Y (by first | rfl | omega) ⟨by omega, by omega⟩ ?_
 refine zaq Y Y ?_
 (refine zzq rfl (ubq 4 Y Y Y Y (by simp) (by omega) Y Y (turn_st t n t0 k ⟨a.nonce, a.balance - (x.amount + x.fee)⟩ h ⟨ha.1, by show a.balance - (x.amount + x.fee) < _; omega⟩ hl) ?_); rintro t' n' t1 h' hP)
 refine zbq 8 Y ?_
 exact fin (hp2 := pay1H x a k t') (.inr rfl) (qpq (nw2 := 5) (fr2 := [(4, .bool true)]) (by omega) (by omega) ⟨rfl, trivial⟩ rfl (qgq ⟨⟨by omega, rfl, zfq (Zwq x)⟩, ⟨by omega, rfl, rfl⟩, ⟨by omega, rfl, rfl⟩, ⟨by omega, rfl, zfq (dW_pur k)⟩, ⟨by omega, rfl, zfq (uKq t')⟩, trivial⟩) (by simp [pay1H])) rfl ⟨rfl, t', n', t1, h', hP, rfl, rfl, rfl⟩
theorem pay2_no (x : Tx) (hx : x.ok) (t : Tree) (n : Nat) (t0 : T) (h : IsA t n t0) (ho : 18446744073709551616 <= (yXq t0 x.to).balance + x.amount) : qkq cfg G 47 3 [.ptr 0 0, .ptr 1 0] (YHq x t) (StepA (YHq x) 3 false (uaq t 257 t0.all)) := by
 intro R
 refine z0q (fn := Tryz.f47) Y Y Y (Yb rfl) (fun k0 => ?_)
 refine zhq 12 Y ?_
 (refine zzq rfl (ubq 2 Y Y Y Y (by simp) (by omega) Y Y (more_no t n t0 x.to x.amount h hx.amount ho) ?_); rintro t' n' t1 h' hP)
 refine zbq 4 Y ?_
 exact fin (hp2 := YHq x t') (.inr rfl) (qpq (nw2 := 3) (fr2 := [(2, .bool false)]) (by omega) (by omega) ⟨rfl, trivial⟩ rfl (qgq ⟨⟨by omega, rfl, rfl⟩, ⟨by omega, rfl, zfq (Zwq x)⟩, ⟨by omega, rfl, zfq (uKq t')⟩, trivial⟩) (by simp [YHq])) rfl ⟨rfl, t', n', t1, h', hP, rfl, rfl, rfl⟩
theorem pay2_st (x : Tx) (t : Tree) (n : Nat) (t0 : T) (h : IsA t n t0) (hl : t.nodes.length <= 261844) (ho : (yXq t0 x.to).balance + x.amount < 18446744073709551616) : qkq cfg G 47 3 [.ptr 0 0, .ptr 1 0] (YHq x t) (StepA (YHq x) 3 true (uaq t 257 (setL t0.all x.to ⟨(yXq t0 x.to).nonce, (yXq t0 x.to).balance + x.amount⟩))) := by
 intro R
 refine z0q (fn := Tryz.f47) Y Y Y (Yb rfl) (fun k0 => ?_)
 refine zhq 12 Y ?_
 (refine zzq rfl (ubq 2 Y Y Y Y (by simp) (by omega) Y Y (more_st t n t0 x.to x.amount h ho hl) ?_); rintro t' n' t1 h' hP)
 refine zbq 4 Y ?_
 exact fin (hp2 := YHq x t') (.inr rfl) (qpq (nw2 := 3) (fr2 := [(2, .bool true)]) (by omega) (by omega) ⟨rfl, trivial⟩ rfl (qgq ⟨⟨by omega, rfl, rfl⟩, ⟨by omega, rfl, zfq (Zwq x)⟩, ⟨by omega, rfl, zfq (uKq t')⟩, trivial⟩) (by simp [YHq])) rfl ⟨rfl, t', n', t1, h', hP, rfl, rfl, rfl⟩
theorem pay3_no (x : Tx) (hx : x.ok) (k : Dig) (t : Tree) (n : Nat) (t0 : T) (h : IsA t n t0) (ho : 18446744073709551616 <= (yXq t0 k).balance + x.fee) : qkq cfg G 49 4 [.ptr 0 0, .ptr 1 0, .ptr 2 0] (YGq x k t) (StepA (YGq x k) 4 false (uaq t 257 t0.all)) := by
 intro R
 refine z0q (fn := Tryz.f49) Y Y Y (Yb rfl) (fun k0 => ?_)
 refine zhq 11 Y ?_
 (refine zzq rfl (ubq 3 Y Y Y Y (by simp) (by omega) Y Y (more_no t n t0 k x.fee h hx.fee ho) ?_); rintro t' n' t1 h' hP)
 refine zbq 4 Y ?_
 exact fin (hp2 := YGq x k t') (.inr rfl) (qpq (nw2 := 4) (fr2 := [(3, .bool false)]) (by omega) (by omega) ⟨rfl, trivial⟩ rfl (qgq ⟨⟨by omega, rfl, rfl⟩, ⟨by omega, rfl, zfq (dW_pur k)⟩, ⟨by omega, rfl, zfq (Zwq x)⟩, ⟨by omega, rfl, zfq (uKq t')⟩, trivial⟩) (by simp [YGq])) rfl ⟨rfl, t', n', t1, h', hP, rfl, rfl, rfl⟩
theorem pay3_st (x : Tx) (k : Dig) (t : Tree) (n : Nat) (t0 : T) (h : IsA t n t0) (hl : t.nodes.length <= 261844) (ho : (yXq t0 k).balance + x.fee < 18446744073709551616) : qkq cfg G 49 4 [.ptr 0 0, .ptr 1 0, .ptr 2 0] (YGq x k t) (StepA (YGq x k) 4 true (uaq t 257 (setL t0.all k ⟨(yXq t0 k).nonce, (yXq t0 k).balance + x.fee⟩))) := by
 intro R
 refine z0q (fn := Tryz.f49) Y Y Y (Yb rfl) (fun k0 => ?_)
 refine zhq 11 Y ?_
 (refine zzq rfl (ubq 3 Y Y Y Y (by simp) (by omega) Y Y (more_st t n t0 k x.fee h ho hl) ?_); rintro t' n' t1 h' hP)
 refine zbq 4 Y ?_
 exact fin (hp2 := YGq x k t') (.inr rfl) (qpq (nw2 := 4) (fr2 := [(3, .bool true)]) (by omega) (by omega) ⟨rfl, trivial⟩ rfl (qgq ⟨⟨by omega, rfl, rfl⟩, ⟨by omega, rfl, zfq (dW_pur k)⟩, ⟨by omega, rfl, zfq (Zwq x)⟩, ⟨by omega, rfl, zfq (uKq t')⟩, trivial⟩) (by simp [YGq])) rfl ⟨rfl, t', n', t1, h', hP, rfl, rfl, rfl⟩
end
section
attribute [local irreducible] CoW OpW FlW Step Spec
def acL (l : List Pr) (k : Dig) : Acct := match q3q l k with
 | some v => (qoq v).1
 | none => .zero
theorem vjq {t : Tree} {n : Nat} {t0 : T} (h : IsT t n t0) (k : Dig) : yXq t0 k = acL t0.all k := by
 unfold yXq acL
 rw [xEq k kIq h.ok]
 cases q3q t0.all k <;> rfl
def jvq (l : List Pr) (k : Dig) (c : Nat) : Option (List Pr) := if (acL l k).balance + c < 18446744073709551616 then some (setL l k ⟨(acL l k).nonce, (acL l k).balance + c⟩) else none
def x1q (l : List Pr) (x : Tx) : List Pr := setL l (keyD x.pub) ⟨(acL l (keyD x.pub)).nonce + 1, (acL l (keyD x.pub)).balance⟩
def x2q (l : List Pr) (x : Tx) : List Pr := setL (x1q l x) (keyD x.pub) ⟨(acL l (keyD x.pub)).nonce + 1, (acL l (keyD x.pub)).balance - (x.amount + x.fee)⟩
def uVq (l : List Pr) (x : Tx) (box : Dig) : List Pr × Nat := if x.amount + x.fee <= (acL l (keyD x.pub)).balance then (match jvq (x2q l x) x.to x.amount with
  | none => (x1q l x, 151)
  | some p => match jvq p box x.fee with
   | none => (x1q l x, 151)
   | some q => (q, 0)) else (x1q l x, 150)
def stg (x : Tx) (box : Dig) (l : List Pr) : Nat -> List Pr -> Prop
 | 0, q => q = x1q l x
 | 1, q => x.amount + x.fee <= (acL l (keyD x.pub)).balance /\ q = x2q l x
 | 2, q => x.amount + x.fee <= (acL l (keyD x.pub)).balance /\ jvq (x2q l x) x.to x.amount = some q
 | _, q => x.amount + x.fee <= (acL l (keyD x.pub)).balance /\ ∃ p, jvq (x2q l x) x.to x.amount = some p /\ jvq p box x.fee = some q
theorem QJq {x : Tx} {box : Dig} {l : List Pr} (ho : ¬ x.amount + x.fee <= (acL l (keyD x.pub)).balance) : uVq l x box = (x1q l x, 150) := by unfold uVq; rw [if_neg ho]
theorem paid_1 {x : Tx} {box : Dig} {l : List Pr} (ho : x.amount + x.fee <= (acL l (keyD x.pub)).balance) (h : jvq (x2q l x) x.to x.amount = none) : uVq l x box = (x1q l x, 151) := by unfold uVq; rw [if_pos ho, h]
theorem paid_2 {x : Tx} {box : Dig} {l p : List Pr} (ho : x.amount + x.fee <= (acL l (keyD x.pub)).balance) (h : jvq (x2q l x) x.to x.amount = some p) (h2 : jvq p box x.fee = none) : uVq l x box = (x1q l x, 151) := by unfold uVq; rw [if_pos ho, h]; simp only; rw [h2]
theorem paid_3 {x : Tx} {box : Dig} {l p q : List Pr} (ho : x.amount + x.fee <= (acL l (keyD x.pub)).balance) (h : jvq (x2q l x) x.to x.amount = some p) (h2 : jvq p box x.fee = some q) : uVq l x box = (q, 0) := by unfold uVq; rw [if_pos ho, h]; simp only; rw [h2]
def PayA (t : Tree) (t0 : T) (x : Tx) (box : Dig) : W -> Prop := fun w => ∃ t' n' t1, IsA t' n' t1 /\ uaq t 1028 (uVq t0.all x box).1 t' t1 /\ w = .tup [tW t', .int .i64 ((uVq t0.all x box).2 : Nat), .int .i64 0]
theorem pay_no (t : Tree) (x : Tx) (box : Dig) (hb : t.nodes.length <= 4611686018427387903) (h : ¬ MayA t) : PS cfg glK 15 [tW t, txW x, dW box] (.tup [noT, .int .i64 0, .int .i64 8]) := by
 refine zYq (fn := Tryz.f15) Y Y Y (Yb rfl) (fun R k0 => ?_)
 refine zhq 10 Y ?_
 refine xXq 3 ?_
 refine zhq 3 Y ?_
 refine zjq Y Y Y Y Y Y (from_s _) ?_
 refine zbq 8 Y ?_
 refine zjq Y Y Y Y Y Y (aget_no t hb h _) ?_
 refine zbq 13 Y ?_
 refine yYq Y Y ?_
 refine zbq 16 Y ?_
 refine kpq (by intro l h; cases h) ?_
 exact zgq (.inr rfl) Y Y
theorem pay_sign (t : Tree) (n : Nat) (t0 : T) (x : Tx) (hx : x.ok) (box : Dig) (h : IsA t n t0) (hs : x.sign ≠ xZq x) : PS cfg glK 15 [tW t, txW x, dW box] (.tup [noT, .int .i64 0, .int .i64 110]) := by
 refine zYq (fn := Tryz.f15) Y Y Y (Yb rfl) (fun R k0 => ?_)
 refine zhq 10 Y ?_
 refine xXq 3 ?_
 refine zhq 3 Y ?_
 refine zjq Y Y Y Y Y Y (from_s _) ?_
 refine zbq 8 Y ?_
 refine zjq Y Y Y Y Y Y (Qiq t n t0 h _) ?_
 refine zbq 13 Y ?_
 refine yYq Y Y ?_
 refine zbq 7 Y ?_
 refine zjq Y Y Y Y Y Y (yMq (w' := .int .i64 110) (uJq x hx) (by rw [if_neg hs])) ?_
 refine yYq Y Y ?_
 refine zbq 15 Y ?_
 refine kpq (by intro l h; cases h) ?_
 exact zgq (.inr rfl) Y Y
theorem pay_nonce (t : Tree) (n : Nat) (t0 : T) (x : Tx) (hx : x.ok) (box : Dig) (h : IsA t n t0) (hs : x.sign = xZq x) (hn : ¬ (x.nonce = (acL t0.all (keyD x.pub)).nonce /\ x.nonce < 18446744073709551615)) : PS cfg glK 15 [tW t, txW x, dW box] (.tup [noT, .int .i64 0, .int .i64 2]) := by
 have h1 := hx.nonce
 have ea := vjq h.toIsT (keyD x.pub)
 by_cases q : x.nonce = (acL t0.all (keyD x.pub)).nonce
 ·have q2 : x.nonce = 18446744073709551615 := by have : ¬ x.nonce < 18446744073709551615 := fun r => hn ⟨q, r⟩; omega
  refine zYq (fn := Tryz.f15) Y Y Y (Yb rfl) (fun R k0 => ?_)
  refine zhq 10 Y ?_
  refine xXq 3 ?_
  refine zhq 3 Y ?_
  refine zjq Y Y Y Y Y Y (from_s _) ?_
  refine zbq 8 Y ?_
  refine zjq Y Y Y Y Y Y (Qiq t n t0 h _) ?_
  refine zbq 13 Y ?_
  refine yYq Y Y ?_
  refine zbq 7 Y ?_
  refine zjq Y Y Y Y Y Y (yMq (w' := .int .i64 0) (uJq x hx) (by rw [if_pos hs])) ?_
  refine yYq Y Y ?_
  refine zbq 10 Y ?_
  refine zqq (w' := .bool false) Y Y (congrArg (fun b => W.bool (!b)) (eqI_iff.2 (by rw [ea, q]))) ?_
  refine zbq 3 Y ?_
  refine zqq (w' := .bool true) Y Y (congrArg W.bool (eqI_iff.2 (by omega))) ?_
  refine zbq 16 Y ?_
  refine kpq (by intro l h; cases h) ?_
  exact zgq (.inr rfl) Y Y
 ·skip
  refine zYq (fn := Tryz.f15) Y Y Y (Yb rfl) (fun R k0 => ?_)
  refine zhq 10 Y ?_
  refine xXq 3 ?_
  refine zhq 3 Y ?_
  refine zjq Y Y Y Y Y Y (from_s _) ?_
  refine zbq 8 Y ?_
  refine zjq Y Y Y Y Y Y (Qiq t n t0 h _) ?_
  refine zbq 13 Y ?_
  refine yYq Y Y ?_
  refine zbq 7 Y ?_
  refine zjq Y Y Y Y Y Y (yMq (w' := .int .i64 0) (uJq x hx) (by rw [if_pos hs])) ?_
  refine yYq Y Y ?_
  refine zbq 10 Y ?_
  refine zqq (w' := .bool true) Y Y (congrArg (fun b => W.bool (!b)) (eqI_not.2 (by rw [ea]; omega))) ?_
  refine zbq 20 Y ?_
  refine kpq (by intro l h; cases h) ?_
  exact zgq (.inr rfl) Y Y
def stepsW : W := .arr 6 2 [.agg 2 [.fn 45 [] [.ptr 1 0, .ptr 5 0, .ptr 8 0, .ptr 4 0], .int .i64 150], .agg 2 [.fn 47 [] [.ptr 8 0, .ptr 1 0], .int .i64 151], .agg 2 [.fn 49 [] [.ptr 8 0, .ptr 2 0, .ptr 1 0], .int .i64 151]]
def payH (x : Tx) (box k : Dig) (a : Acct) (tb t : Tree) : HpW := [(7, 117, tW t), (1, 57, txW x), (2, 23, dW box), (3, 30, noT), (4, 23, dW k), (5, 110, aW a), (6, 117, tW tb), (8, 115, .ptr 7 0), (9, 123, stepsW)]
theorem Q0q {t t' t2 : Tree} {m : Nat} (h : ∃ ms, t'.nodes = t.nodes ++ ms /\ ms.length <= m) (h2 : ∃ ms, t2.nodes = t'.nodes ++ ms /\ ms.length <= 257) : ∃ ms, t2.nodes = t.nodes ++ ms /\ ms.length <= m + 257 := by
 obtain ⟨a, ha, ha2⟩ := h
 obtain ⟨b, hb, hb2⟩ := h2
 exact ⟨a ++ b, by rw [hb, ha, List.append_assoc], by rw [List.length_append]; omega⟩
theorem ext_le {t t' : Tree} {m : Nat} (h : ∃ ms, t'.nodes = t.nodes ++ ms /\ ms.length <= m) : t'.nodes.length <= t.nodes.length + m := by
 obtain ⟨a, ha, ha2⟩ := h
 rw [ha, List.length_append]; omega
theorem ext_up {t t' : Tree} {m k : Nat} (h : ∃ ms, t'.nodes = t.nodes ++ ms /\ ms.length <= m) (hk : m <= k) : ∃ ms, t'.nodes = t.nodes ++ ms /\ ms.length <= k := by
 obtain ⟨a, ha, ha2⟩ := h
 exact ⟨a, ha, by omega⟩
theorem pay_s (t : Tree) (n : Nat) (t0 : T) (x : Tx) (hx : x.ok) (box : Dig) (h : IsA t n t0) (hs : x.sign = xZq x) (hn : x.nonce = (acL t0.all (keyD x.pub)).nonce) (hn2 : x.nonce < 18446744073709551615) (hl : t.nodes.length <= 260944) : PE cfg glK 15 [tW t, txW x, dW box] (PayA t t0 x box) := by
 have hvals : ∀ x ∈ t.nodes, x.val.length <= 70368744177664 := IsT.vals (root := t.root) h.toIsT
 have hA := Yxq t0 (keyD x.pub)
 rw [vjq h.toIsT] at hA
 have ea := vjq h.toIsT (keyD x.pub)
 unfold PayA
 obtain ⟨A, eA⟩ : ∃ A, acL t0.all (keyD x.pub) = A := ⟨_, rfl⟩
 obtain ⟨l, el⟩ : ∃ l, t0.all = l := ⟨_, rfl⟩
 rw [eA] at hn hA ea
 have e0 : x1q l x = setL l (keyD x.pub) ⟨A.nonce + 1, A.balance⟩ := by unfold x1q; rw [<- el, eA]
 have e1 : x2q l x = setL (x1q l x) (keyD x.pub) ⟨A.nonce + 1, A.balance - (x.amount + x.fee)⟩ := by unfold x2q; rw [<- el, eA]
 rw [el] at eA ⊢
 have hA1 : A.nonce + 1 < 18446744073709551616 := by omega
 have hA2 := hA.2
 refine YXq (fn := Tryz.f15) Y Y Y (Yb rfl) (fun R k0 => ?_)
 refine zhq 10 Y ?_
 refine xXq 3 ?_
 refine zhq 3 Y ?_
 refine zjq Y Y Y Y Y Y (from_s _) ?_
 refine zbq 8 Y ?_
 refine zjq Y Y Y Y Y Y (yMq (w' := .tup [aW A, .int .i64 0]) (Qiq t n t0 h (keyD x.pub)) (by rw [ea])) ?_
 refine zbq 13 Y ?_
 refine yYq Y Y ?_
 refine zbq 7 Y ?_
 refine zjq Y Y Y Y Y Y (yMq (w' := .int .i64 0) (uJq x hx) (by rw [if_pos hs])) ?_
 refine yYq Y Y ?_
 refine zbq 10 Y ?_
 refine zqq (w' := .bool false) Y Y (congrArg (fun b => W.bool (!b)) (eqI_iff.2 (by rw [hn]))) ?_
 refine zbq 3 Y ?_
 refine zqq (w' := .bool false) Y Y (congrArg W.bool (eqI_not.2 (by omega))) ?_
 refine zbq 8 Y ?_
 refine zjq Y Y Y Y Y Y (yMq (w' := .bool false) (full_s t (by omega)) (by rw [decide_eq_false (by omega)])) ?_
 refine zbq 11 Y ?_
 refine ziq (A.nonce + 1) Y Y (by first | rfl | omega) ⟨by omega, by omega⟩ ?_
 refine zbq 7 Y ?_
 refine zjq Y Y Y Y Y Y (twinp_s t (by omega) hvals) ?_
 refine zbq 10 Y ?_
 (refine zzq rfl (ubq 6 Y Y Y Y (by simp) (by omega) Y Y (turn_st t n t0 (keyD x.pub) ⟨A.nonce + 1, A.balance⟩ h ⟨hA1, hA2⟩ (by omega)) ?_); rintro tb nb tb0 hb hPb)
 refine zbq 36 Y ?_
 first | refine ZOq Y Y ?_ | refine zaq Y Y ?_
 refine zbq 4 Y ?_
 have hmb := ext_up hPb.2 (show 257 <= 1028 by omega)
 rw [el] at hPb
 refine qHq (α := Nat × Tree) (fun p => p.1 <= 3 /\ ∃ n1 t1, IsA p.2 n1 t1 /\ (∃ ms, p.2.nodes = t.nodes ++ ms /\ ms.length <= 257 * (p.1 + 1)) /\ stg x box l p.1 t1.all) (fun p => [(79, .int .i64 (p.1 : Int)), (6, .ptr 3 0), (11, .ptr 6 0), (12, .ptr 8 0), (77, .sl 9 0 0 3 2 none), (78, .int .i64 3)]) (fun p => payH x box (keyD x.pub) ⟨A.nonce + 1, A.balance⟩ tb p.2) (fun _ => 10) (fun _ => R) (fun p => 3 - p.1) (0, tb) ⟨by omega, nb, tb0, hb, hPb.2, hPb.1.trans e0.symm⟩ (qpq (nw2 := 10) (Nat.zero_le _) (by omega) ⟨rfl, rfl, rfl, rfl, rfl, rfl, trivial⟩ rfl (qgq ⟨⟨by omega, (by first | rfl | exact congrArg (fun w => some (_, w)) (zlq (by simp))), zfq (by simp)⟩, ⟨by omega, (by first | rfl | exact congrArg (fun w => some (_, w)) (zlq (by simp))), zfq (by simp)⟩, ⟨by omega, (by first | rfl | exact congrArg (fun w => some (_, w)) (zlq (by simp))), zfq (by simp)⟩, ⟨by omega, (by first | rfl | exact congrArg (fun w => some (_, w)) (zlq (by simp))), rfl⟩, ⟨by omega, (by first | rfl | exact congrArg (fun w => some (_, w)) (zlq (by simp))), zfq (by simp)⟩, ⟨by omega, (by first | rfl | exact congrArg (fun w => some (_, w)) (zlq (by simp))), rfl⟩, ⟨by omega, (by first | rfl | exact congrArg (fun w => some (_, w)) (zlq (by simp))), zfq (by simp)⟩, ⟨by omega, (by first | rfl | exact congrArg (fun w => some (_, w)) (zlq (by simp))), rfl⟩, ⟨by omega, (by first | rfl | exact congrArg (fun w => some (_, w)) (zlq (by simp))), rfl⟩, trivial⟩) (by simp [payH])) (fun p hI => ?_)
 skip
 obtain ⟨i, t'⟩ := p
 obtain ⟨hi, n1, t1, hT, hms, hst⟩ := hI
 simp only at hi hT hms hst ⊢
 have hle := ext_le hms
 refine zhq 6 Y ?_
 refine zAq rfl (fun h1 => ?_) (fun h1 => ?_)
 ·skip
  skip
  rcases (show i = 0 \/ i = 1 \/ i = 2 by omega) with rfl | rfl | rfl
  ·by_cases ho : x.amount + x.fee <= A.balance
   ·skip
    refine zeq 6 Y ?_
    first | refine zaq rfl (zBq Y Y Y Y Y Y Y (by first | assumption | (simp; done))) ?_ | refine zaq rfl (zFq Y Y Y Y Y Y Y (by omega)) ?_ | refine zaq rfl (zpq Y Y Y Y Y Y (by omega)) ?_ | refine zaq Y Y ?_
    refine zbq 16 Y ?_
    (refine zzq rfl (yOq (ext := [1, 5, 8, 4, 7]) (ws := [.ptr 0 0, .ptr 1 0, .ptr 2 0, .ptr 3 0]) Y Y Y Y Y (pay1_st x hx ⟨A.nonce + 1, A.balance⟩ ⟨hA1, hA2⟩ (keyD x.pub) t' n1 t1 hT (by omega) ho) (by decide) (by intro b hb; simp only [List.mem_cons, List.not_mem_nil, or_false] at hb; omega) (by simp [pay1H]) (jwq ⟨⟨by decide, zfq (by simp), _, rfl, by first | rfl | (rw [zlq (by simp)]; rfl)⟩, ⟨by decide, rfl, _, rfl, by first | rfl | (rw [zlq (by simp)]; rfl)⟩, ⟨by decide, rfl, _, rfl, by first | rfl | (rw [zlq (by simp)]; rfl)⟩, ⟨by decide, zfq (by simp), _, rfl, by first | rfl | (rw [zlq (by simp)]; rfl)⟩, ⟨by decide, zfq (by simp), _, rfl, by first | rfl | (rw [zlq (by simp)]; rfl)⟩, trivial⟩) Y ?_); rintro w hp1 nw1 ⟨t2, n2, t3, h2, hP2, rfl, rfl, rfl⟩)
    refine zbq 8 Y ?_
    first | refine ytq Y Y ⟨by omega, by omega⟩ ?_ | refine zaq Y Y ?_
    refine yLq 2 Y ?_
    skip
    exact yDq (1, t2) ⟨by omega, n2, t3, h2, ext_up (Q0q hms hP2.2) (by omega), ⟨by rw [eA]; exact ho, by rw [e1, <- hst]; exact hP2.1⟩⟩ (by show 3 - 1 < 3 - 0; omega) (qpq (nw2 := 10) (Nat.zero_le _) (by omega) ⟨rfl, rfl, rfl, rfl, rfl, rfl, trivial⟩ rfl (qgq ⟨⟨by omega, (by first | rfl | exact congrArg (fun w => some (_, w)) (zlq (by simp))), zfq (by simp)⟩, ⟨by omega, (by first | rfl | exact congrArg (fun w => some (_, w)) (zlq (by simp))), zfq (by simp)⟩, ⟨by omega, (by first | rfl | exact congrArg (fun w => some (_, w)) (zlq (by simp))), zfq (by simp)⟩, ⟨by omega, (by first | rfl | exact congrArg (fun w => some (_, w)) (zlq (by simp))), rfl⟩, ⟨by omega, (by first | rfl | exact congrArg (fun w => some (_, w)) (zlq (by simp))), zfq (by simp)⟩, ⟨by omega, (by first | rfl | exact congrArg (fun w => some (_, w)) (zlq (by simp))), rfl⟩, ⟨by omega, (by first | rfl | exact congrArg (fun w => some (_, w)) (zlq (by simp))), zfq (by simp)⟩, ⟨by omega, (by first | rfl | exact congrArg (fun w => some (_, w)) (zlq (by simp))), rfl⟩, ⟨by omega, (by first | rfl | exact congrArg (fun w => some (_, w)) (zlq (by simp))), rfl⟩, trivial⟩) (by simp [payH]))
   ·skip
    refine zeq 6 Y ?_
    first | refine zaq rfl (zBq Y Y Y Y Y Y Y (by first | assumption | (simp; done))) ?_ | refine zaq rfl (zFq Y Y Y Y Y Y Y (by omega)) ?_ | refine zaq rfl (zpq Y Y Y Y Y Y (by omega)) ?_ | refine zaq Y Y ?_
    refine zbq 16 Y ?_
    (refine zzq rfl (yOq (ext := [1, 5, 8, 4, 7]) (ws := [.ptr 0 0, .ptr 1 0, .ptr 2 0, .ptr 3 0]) Y Y Y Y Y (pay1_no x hx ⟨A.nonce + 1, A.balance⟩ ⟨hA1, hA2⟩ (keyD x.pub) t' n1 t1 hT ho) (by decide) (by intro b hb; simp only [List.mem_cons, List.not_mem_nil, or_false] at hb; omega) (by simp [pay1H]) (jwq ⟨⟨by decide, zfq (by simp), _, rfl, by first | rfl | (rw [zlq (by simp)]; rfl)⟩, ⟨by decide, rfl, _, rfl, by first | rfl | (rw [zlq (by simp)]; rfl)⟩, ⟨by decide, rfl, _, rfl, by first | rfl | (rw [zlq (by simp)]; rfl)⟩, ⟨by decide, zfq (by simp), _, rfl, by first | rfl | (rw [zlq (by simp)]; rfl)⟩, ⟨by decide, zfq (by simp), _, rfl, by first | rfl | (rw [zlq (by simp)]; rfl)⟩, trivial⟩) Y ?_); rintro w hp1 nw1 ⟨t2, n2, t3, h2, hP2, rfl, rfl, rfl⟩)
    refine zbq 7 Y ?_
    refine qAq (by intro h; cases h) ?_
    refine zDq 2 Y ?_
    refine q_goto Y ?_
    refine zhq 16 Y ?_
    refine kpq (by intro l h; cases h) ?_
    refine xjq (w' := .tup [tW tb, .int .i64 150, .int .i64 0]) (.inr rfl) rfl (.pur (by simp)) (by simp) ⟨tb, nb, tb0, hb, ?_, ?_⟩
    ·rw [QJq (l := l) (box := box) (by rw [eA]; exact ho)]; exact ⟨hPb.1.trans e0.symm, hmb⟩
    ·rw [QJq (l := l) (box := box) (by rw [eA]; exact ho)]; rfl
  ·obtain ⟨ho, hst⟩ := hst
   have ec := vjq hT.toIsT x.to
   rw [hst] at ec
   by_cases hq : (yXq t1 x.to).balance + x.amount < 18446744073709551616
   ·have hm : jvq (x2q l x) x.to x.amount = some (setL (x2q l x) x.to ⟨(yXq t1 x.to).nonce, (yXq t1 x.to).balance + x.amount⟩) := by unfold jvq; rw [<- ec, if_pos hq]
    refine zeq 6 Y ?_
    first | refine zaq rfl (zBq Y Y Y Y Y Y Y (by first | assumption | (simp; done))) ?_ | refine zaq rfl (zFq Y Y Y Y Y Y Y (by omega)) ?_ | refine zaq rfl (zpq Y Y Y Y Y Y (by omega)) ?_ | refine zaq Y Y ?_
    refine zbq 16 Y ?_
    (refine zzq rfl (yOq (ext := [8, 1, 7]) (ws := [.ptr 0 0, .ptr 1 0]) Y Y Y Y Y (pay2_st x t' n1 t1 hT (by omega) hq) (by decide) (by intro b hb; simp only [List.mem_cons, List.not_mem_nil, or_false] at hb; omega) (by simp [YHq]) (jwq ⟨⟨by decide, rfl, _, rfl, by first | rfl | (rw [zlq (by simp)]; rfl)⟩, ⟨by decide, zfq (by simp), _, rfl, by first | rfl | (rw [zlq (by simp)]; rfl)⟩, ⟨by decide, zfq (by simp), _, rfl, by first | rfl | (rw [zlq (by simp)]; rfl)⟩, trivial⟩) Y ?_); rintro w hp1 nw1 ⟨t2, n2, t3, h2, hP2, rfl, rfl, rfl⟩)
    refine zbq 8 Y ?_
    first | refine ytq Y Y ⟨by omega, by omega⟩ ?_ | refine zaq Y Y ?_
    refine yLq 2 Y ?_
    skip
    exact yDq (2, t2) ⟨by omega, n2, t3, h2, ext_up (Q0q hms hP2.2) (by omega), ⟨ho, by rw [hP2.1, hst]; exact hm⟩⟩ (by show 3 - 2 < 3 - 1; omega) (qpq (nw2 := 10) (Nat.zero_le _) (by omega) ⟨rfl, rfl, rfl, rfl, rfl, rfl, trivial⟩ rfl (qgq ⟨⟨by omega, (by first | rfl | exact congrArg (fun w => some (_, w)) (zlq (by simp))), zfq (by simp)⟩, ⟨by omega, (by first | rfl | exact congrArg (fun w => some (_, w)) (zlq (by simp))), zfq (by simp)⟩, ⟨by omega, (by first | rfl | exact congrArg (fun w => some (_, w)) (zlq (by simp))), zfq (by simp)⟩, ⟨by omega, (by first | rfl | exact congrArg (fun w => some (_, w)) (zlq (by simp))), rfl⟩, ⟨by omega, (by first | rfl | exact congrArg (fun w => some (_, w)) (zlq (by simp))), zfq (by simp)⟩, ⟨by omega, (by first | rfl | exact congrArg (fun w => some (_, w)) (zlq (by simp))), rfl⟩, ⟨by omega, (by first | rfl | exact congrArg (fun w => some (_, w)) (zlq (by simp))), zfq (by simp)⟩, ⟨by omega, (by first | rfl | exact congrArg (fun w => some (_, w)) (zlq (by simp))), rfl⟩, ⟨by omega, (by first | rfl | exact congrArg (fun w => some (_, w)) (zlq (by simp))), rfl⟩, trivial⟩) (by simp [payH]))
   ·have hm : jvq (x2q l x) x.to x.amount = none := by unfold jvq; rw [<- ec, if_neg hq]
    refine zeq 6 Y ?_
    first | refine zaq rfl (zBq Y Y Y Y Y Y Y (by first | assumption | (simp; done))) ?_ | refine zaq rfl (zFq Y Y Y Y Y Y Y (by omega)) ?_ | refine zaq rfl (zpq Y Y Y Y Y Y (by omega)) ?_ | refine zaq Y Y ?_
    refine zbq 16 Y ?_
    (refine zzq rfl (yOq (ext := [8, 1, 7]) (ws := [.ptr 0 0, .ptr 1 0]) Y Y Y Y Y (pay2_no x hx t' n1 t1 hT (by omega)) (by decide) (by intro b hb; simp only [List.mem_cons, List.not_mem_nil, or_false] at hb; omega) (by simp [YHq]) (jwq ⟨⟨by decide, rfl, _, rfl, by first | rfl | (rw [zlq (by simp)]; rfl)⟩, ⟨by decide, zfq (by simp), _, rfl, by first | rfl | (rw [zlq (by simp)]; rfl)⟩, ⟨by decide, zfq (by simp), _, rfl, by first | rfl | (rw [zlq (by simp)]; rfl)⟩, trivial⟩) Y ?_); rintro w hp1 nw1 ⟨t2, n2, t3, h2, hP2, rfl, rfl, rfl⟩)
    refine zbq 7 Y ?_
    refine qAq (by intro h; cases h) ?_
    refine zDq 2 Y ?_
    refine q_goto Y ?_
    refine zhq 16 Y ?_
    refine kpq (by intro l h; cases h) ?_
    refine xjq (w' := .tup [tW tb, .int .i64 151, .int .i64 0]) (.inr rfl) rfl (.pur (by simp)) (by simp) ⟨tb, nb, tb0, hb, ?_, ?_⟩
    ·rw [paid_1 ho hm]; exact ⟨hPb.1.trans e0.symm, hmb⟩
    ·rw [paid_1 ho hm]; rfl
  ·obtain ⟨ho, hst⟩ := hst
   have ec := vjq hT.toIsT box
   by_cases hq : (yXq t1 box).balance + x.fee < 18446744073709551616
   ·have hm : jvq t1.all box x.fee = some (setL t1.all box ⟨(yXq t1 box).nonce, (yXq t1 box).balance + x.fee⟩) := by unfold jvq; rw [<- ec, if_pos hq]
    refine zeq 6 Y ?_
    first | refine zaq rfl (zBq Y Y Y Y Y Y Y (by first | assumption | (simp; done))) ?_ | refine zaq rfl (zFq Y Y Y Y Y Y Y (by omega)) ?_ | refine zaq rfl (zpq Y Y Y Y Y Y (by omega)) ?_ | refine zaq Y Y ?_
    refine zbq 16 Y ?_
    (refine zzq rfl (yOq (ext := [8, 2, 1, 7]) (ws := [.ptr 0 0, .ptr 1 0, .ptr 2 0]) Y Y Y Y Y (pay3_st x box t' n1 t1 hT (by omega) hq) (by decide) (by intro b hb; simp only [List.mem_cons, List.not_mem_nil, or_false] at hb; omega) (by simp [YGq]) (jwq ⟨⟨by decide, rfl, _, rfl, by first | rfl | (rw [zlq (by simp)]; rfl)⟩, ⟨by decide, zfq (by simp), _, rfl, by first | rfl | (rw [zlq (by simp)]; rfl)⟩, ⟨by decide, zfq (by simp), _, rfl, by first | rfl | (rw [zlq (by simp)]; rfl)⟩, ⟨by decide, zfq (by simp), _, rfl, by first | rfl | (rw [zlq (by simp)]; rfl)⟩, trivial⟩) Y ?_); rintro w hp1 nw1 ⟨t2, n2, t3, h2, hP2, rfl, rfl, rfl⟩)
    refine zbq 8 Y ?_
    first | refine ytq Y Y ⟨by omega, by omega⟩ ?_ | refine zaq Y Y ?_
    refine yLq 2 Y ?_
    skip
    exact yDq (3, t2) ⟨by omega, n2, t3, h2, ext_up (Q0q hms hP2.2) (by omega), ⟨ho, _, hst, by rw [hP2.1]; exact hm⟩⟩ (by show 3 - 3 < 3 - 2; omega) (qpq (nw2 := 10) (Nat.zero_le _) (by omega) ⟨rfl, rfl, rfl, rfl, rfl, rfl, trivial⟩ rfl (qgq ⟨⟨by omega, (by first | rfl | exact congrArg (fun w => some (_, w)) (zlq (by simp))), zfq (by simp)⟩, ⟨by omega, (by first | rfl | exact congrArg (fun w => some (_, w)) (zlq (by simp))), zfq (by simp)⟩, ⟨by omega, (by first | rfl | exact congrArg (fun w => some (_, w)) (zlq (by simp))), zfq (by simp)⟩, ⟨by omega, (by first | rfl | exact congrArg (fun w => some (_, w)) (zlq (by simp))), rfl⟩, ⟨by omega, (by first | rfl | exact congrArg (fun w => some (_, w)) (zlq (by simp))), zfq (by simp)⟩, ⟨by omega, (by first | rfl | exact congrArg (fun w => some (_, w)) (zlq (by simp))), rfl⟩, ⟨by omega, (by first | rfl | exact congrArg (fun w => some (_, w)) (zlq (by simp))), zfq (by simp)⟩, ⟨by omega, (by first | rfl | exact congrArg (fun w => some (_, w)) (zlq (by simp))), rfl⟩, ⟨by omega, (by first | rfl | exact congrArg (fun w => some (_, w)) (zlq (by simp))), rfl⟩, trivial⟩) (by simp [payH]))
   ·have hm : jvq t1.all box x.fee = none := by unfold jvq; rw [<- ec, if_neg hq]
    refine zeq 6 Y ?_
    first | refine zaq rfl (zBq Y Y Y Y Y Y Y (by first | assumption | (simp; done))) ?_ | refine zaq rfl (zFq Y Y Y Y Y Y Y (by omega)) ?_ | refine zaq rfl (zpq Y Y Y Y Y Y (by omega)) ?_ | refine zaq Y Y ?_
    refine zbq 16 Y ?_
    (refine zzq rfl (yOq (ext := [8, 2, 1, 7]) (ws := [.ptr 0 0, .ptr 1 0, .ptr 2 0]) Y Y Y Y Y (pay3_no x hx box t' n1 t1 hT (by omega)) (by decide) (by intro b hb; simp only [List.mem_cons, List.not_mem_nil, or_false] at hb; omega) (by simp [YGq]) (jwq ⟨⟨by decide, rfl, _, rfl, by first | rfl | (rw [zlq (by simp)]; rfl)⟩, ⟨by decide, zfq (by simp), _, rfl, by first | rfl | (rw [zlq (by simp)]; rfl)⟩, ⟨by decide, zfq (by simp), _, rfl, by first | rfl | (rw [zlq (by simp)]; rfl)⟩, ⟨by decide, zfq (by simp), _, rfl, by first | rfl | (rw [zlq (by simp)]; rfl)⟩, trivial⟩) Y ?_); rintro w hp1 nw1 ⟨t2, n2, t3, h2, hP2, rfl, rfl, rfl⟩)
    refine zbq 7 Y ?_
    refine qAq (by intro h; cases h) ?_
    refine zDq 2 Y ?_
    refine q_goto Y ?_
    refine zhq 16 Y ?_
    refine kpq (by intro l h; cases h) ?_
    refine xjq (w' := .tup [tW tb, .int .i64 151, .int .i64 0]) (.inr rfl) rfl (.pur (by simp)) (by simp) ⟨tb, nb, tb0, hb, ?_, ?_⟩
    ·rw [paid_2 ho hst hm]; exact ⟨hPb.1.trans e0.symm, hmb⟩
    ·rw [paid_2 ho hst hm]; rfl
 ·have hi3 : i = 3 := by omega
  subst hi3
  obtain ⟨ho, p, hp1, hp2⟩ := hst
  refine zeq 2 Y ?_
  refine qAq (by intro h; cases h) ?_
  refine zDq 16 Y ?_
  refine kpq (by intro l h; cases h) ?_
  refine xjq (w' := .tup [tW t', .int .i64 0, .int .i64 0]) (.inr rfl) rfl (.pur (by simp)) (by simp) ⟨t', n1, t1, hT, ?_, ?_⟩
  ·rw [paid_3 ho hp1 hp2]; exact ⟨rfl, ext_up hms (by omega)⟩
  ·rw [paid_3 ho hp1 hp2]; rfl
end
section
attribute [local irreducible] CoW OpW FlW Step Spec
variable {G : Nat -> Option W}
theorem jYq (p : Pr) (l : List Pr) : sumB (p :: l) = bal p + sumB l := by simp [sumB]
theorem sumB_app (l r : List Pr) : sumB (l ++ r) = sumB l + sumB r := by simp [sumB]
theorem sumB_two (k : Dig) : ∀ l : List Pr, sumB (l.filter fun p => z1q p.1 k) + sumB (l.filter fun p => z1q k p.1) = sumB (zKq l k)
 | [] => rfl
 | p :: l => by
  have ih := sumB_two k l
  simp only [zKq] at ih ⊢
  by_cases e : p.1 = k
  ·have h1 : z1q p.1 k = false := by rw [e]; exact jBq k
   have h2 : z1q k p.1 = false := by rw [e]; exact jBq k
   rw [List.filter_cons_of_neg (by rw [h1]; exact Bool.false_ne_true), List.filter_cons_of_neg (by rw [h2]; exact Bool.false_ne_true), List.filter_cons_of_neg (by simp [e])]
   exact ih
  ·rw [List.filter_cons_of_pos (p := fun p : Pr => decide (p.1 ≠ k)) (by simp [e]), jYq]
   rcases uCq e with h | h
   ·rw [List.filter_cons_of_pos (p := fun p : Pr => z1q p.1 k) h, List.filter_cons_of_neg (by rw [qqq h]; exact Bool.false_ne_true), jYq]
    omega
   ·rw [List.filter_cons_of_neg (p := fun p : Pr => z1q p.1 k) (by rw [qqq h]; exact Bool.false_ne_true), List.filter_cons_of_pos (p := fun p : Pr => z1q k p.1) h, jYq]
    omega
theorem sumB_with (l : List Pr) (k : Dig) (v : List UInt8) : sumB (klq l k v) = sumB (zKq l k) + bal (k, v) := by
 have h := sumB_two k l
 unfold klq
 rw [sumB_app, jYq]
 show sumB (l.filter fun p => z1q p.1 k) + (bal (k, v) + sumB (l.filter fun p => z1q k p.1)) = _
 rw [<- h]
 omega
def optB (k : Dig) : Option (List UInt8) -> Nat
 | none => 0
 | some v => bal (k, v)
theorem YRq (k : Dig) : ∀ l : List Pr, Srt l -> sumB l = sumB (zKq l k) + optB k (q3q l k)
 | [], _ => rfl
 | p :: l, hs => by
  obtain ⟨h1, h2⟩ := List.pairwise_cons.1 hs
  by_cases e : p.1 = k
  ·have hno : ∀ q ∈ l, q.1 ≠ k := fun q hq => by rw [<- e]; exact (xdq (h1 q hq)).symm
   have h3 : zKq (p :: l) k = l := by
    have := q9q hno
    simp only [zKq] at this ⊢
    rw [List.filter_cons_of_neg (by simp [e]), this]
   have h4 : q3q (p :: l) k = some p.2 := by simp [q3q, List.find?_cons, e]
   rw [h3, h4, jYq]
   simp only [optB]
   have : bal (k, p.2) = bal p := rfl
   omega
  ·have ih := YRq k l h2
   have h3 : zKq (p :: l) k = p :: zKq l k := by simp only [zKq]; rw [List.filter_cons_of_pos (by simp [e])]
   have h4 : q3q (p :: l) k = q3q l k := by simp [q3q, List.find?_cons, e]
   rw [h3, h4, jYq, jYq]
   omega
end
theorem acL_ok (l : List Pr) (k : Dig) : (acL l k).ok := by
 unfold acL
 split
 ·exact Qzq _
 ·exact ⟨Nat.zero_lt_succ _, Nat.zero_lt_succ _⟩
theorem acL_set {l : List Pr} (h : Srt l) {a : Acct} (ha : a.ok) (k j : Dig) : acL (setL l k a) j = if j = k then a else acL l j := by
 unfold acL setL
 by_cases hz : a = .zero
 ·rw [if_pos hz, QYq h]
  by_cases e : j = k
  ·rw [if_pos e, if_pos e]; exact hz.symm
  ·rw [if_neg e, if_neg e]
 ·rw [if_neg hz, findL_with h]
  by_cases e : j = k
  ·rw [if_pos e, if_pos e]; simp only; rw [vwq a ha hz]
  ·rw [if_neg e, if_neg e]
theorem srt_set {l : List Pr} (h : Srt l) (k : Dig) (a : Acct) : Srt (setL l k a) := by
 unfold setL
 split
 ·exact vUq h k
 ·exact Zyq h k _
theorem sum_set {l : List Pr} (h : Srt l) {a : Acct} (ha : a.ok) (k : Dig) : sumB (setL l k a) + (acL l k).balance = sumB l + a.balance := by
 have e : (acL l k).balance = optB k (q3q l k) := by
  unfold acL
  cases q3q l k <;> rfl
 have hs := YRq k l h
 unfold setL
 by_cases hz : a = .zero
 ·rw [if_pos hz, hz]
  show _ = _ + 0
  omega
 ·rw [if_neg hz, sumB_with]
  have : bal (k, qJq a) = a.balance := by unfold bal; rw [vwq a ha hz]
  omega
theorem more_ok {p q : List Pr} {k : Dig} {c : Nat} (h : Srt p) (hm : jvq p k c = some q) : Srt q /\ (∀ j, j ≠ k -> acL q j = acL p j) /\ (∀ j, (acL q j).nonce = (acL p j).nonce) /\ sumB q = sumB p + c := by
 unfold jvq at hm
 split at hm
 ·rename_i hb
  cases hm
  have ha : Acct.ok ⟨(acL p k).nonce, (acL p k).balance + c⟩ := ⟨(acL_ok p k).1, hb⟩
  refine ⟨srt_set h k _, fun j hj => by rw [acL_set h ha, if_neg hj], fun j => ?_, ?_⟩
  ·rw [acL_set h ha]
   by_cases e : j = k
   ·rw [if_pos e, e]
   ·rw [if_neg e]
  ·have := sum_set h ha k
   simp only at this
   omega
 ·cases hm
section
attribute [local irreducible] CoW OpW FlW Step Spec
variable {G : Nat -> Option W}
theorem tx_sub (x : Tx) : y6q 50 (txW x) 0 32 1 = some (zdq x.pub.1) /\ y6q 50 (txW x) 32 32 1 = some (zdq x.to.1) := by
 have h : ∀ d : Dig, (zdq d.1).length = 32 := fun d => by rw [zkq, d.2]
 constructor
 ·show some (((zdq x.pub.1).drop (0 / 1)).take 32) = _
  rw [show 0 / 1 = 0 from rfl, List.drop_zero, List.take_of_length_le (by rw [h]; omega)]
 ·show some (((zdq x.to.1).drop (0 / 1)).take 32) = _
  rw [show 0 / 1 = 0 from rfl, List.drop_zero, List.take_of_length_le (by rw [h]; omega)]
theorem rbody_s (x : Tx) (hx : x.ok) : PS cfg G 118 [txW x] (bW (xnq x)) := by
 have h1 := hx.nonce
 have h2 := hx.amount
 have h3 := hx.fee
 have l1 : (zdq x.pub.1).length = 32 := by rw [zkq, x.pub.2]
 have l2 : (zdq x.to.1).length = 32 := by rw [zkq, x.to.2]
 have n1 : (zdq (beB 8 x.nonce)).length = 8 := by rw [zkq, qxq]
 have n2 : (zdq (beB 8 x.amount)).length = 8 := by rw [zkq, qxq]
 have n3 : (zdq (beB 8 x.fee)).length = 8 := by rw [zkq, qxq]
 have eb : zdq (xnq x) = (((zdq x.pub.1 ++ zdq x.to.1) ++ zdq (beB 8 x.nonce)) ++ zdq (beB 8 x.amount)) ++ zdq (beB 8 x.fee) := by simp [xnq, zdq]
 refine j6q (fn := Tryz.f118) Y Y Y (Yb rfl) (fun R k0 => ?_)
 refine zhq 16 Y ?_
 refine znq rfl (y5q Y Y (xKq (k := ti5) (news := zdq x.pub.1) Y Y Y Y (qsq Y Y Y (tx_sub x).1) (by intro h; rw [h] at l1; cases l1) (by rw [l1]; decide) (by rw [l1]; decide))) ?_
 refine zbq 8 Y ?_
 refine znq rfl (y5q Y Y (qOq (k := ti5) (len := (zdq x.pub.1).length) (news := zdq x.to.1) (olds := zdq x.pub.1) Y Y Y Y (qsq Y Y Y (tx_sub x).2) (by intro h; rw [h] at l2; cases l2) (by rw [l1, l2]; decide) (by rw [l1, l2]; decide) rfl (by show (zdq x.pub.1).length * 1 < 0 + (_ + _) * 1; rw [l1, l2]; decide) rfl (zGq (by decide) Y Y))) ?_
 refine zbq 7 Y ?_
 ((refine zzq rfl (kxq Y Y Y Y Y Y (j5q _ 8 (by assumption) (by omega)) ?_); rintro w hp1 nw1 ⟨rfl, rfl, rfl⟩))
 refine zbq 11 Y ?_
 ((refine zzq rfl (kxq Y Y Y Y Y Y (j5q _ 8 (by assumption) (by omega)) ?_); rintro w hp1 nw1 ⟨rfl, rfl, rfl⟩))
 refine zbq 11 Y ?_
 ((refine zzq rfl (kxq Y Y Y Y Y Y (j5q _ 8 (by assumption) (by omega)) ?_); rintro w hp1 nw1 ⟨rfl, rfl, rfl⟩))
 refine zbq 11 Y ?_
 refine znq rfl (y5q Y Y (qOq (k := ti5) (len := (zdq x.pub.1).length + (zdq x.to.1).length) (news := zdq (beB 8 x.nonce)) (olds := zdq x.pub.1 ++ zdq x.to.1) Y Y Y Y (qsq Y Y Y (zGq (by decide) n1.symm rfl)) (by intro h; rw [h] at n1; cases n1) (by rw [l1, l2, n1]; decide) (by rw [l1, l2, n1]; decide) rfl (by show (_ + _) * 1 < 0 + (_ + _) * 1; rw [l1, l2, n1]; decide) rfl (zGq (by decide) List.length_append.symm rfl))) ?_
 refine zbq 7 Y ?_
 refine znq rfl (y5q Y Y (qOq (k := ti5) (len := (zdq x.pub.1).length + (zdq x.to.1).length + (zdq (beB 8 x.nonce)).length) (news := zdq (beB 8 x.amount)) (olds := (zdq x.pub.1 ++ zdq x.to.1) ++ zdq (beB 8 x.nonce)) Y Y Y Y (qsq Y Y Y (zGq (by decide) n2.symm rfl)) (by intro h; rw [h] at n2; cases n2) (by rw [l1, l2, n1, n2]; decide) (by rw [l1, l2, n1, n2]; decide) rfl (by show (_ + _) * 1 < 0 + (_ + _) * 1; rw [l1, l2, n1, n2]; decide) rfl (zGq (by decide) (by rw [List.length_append, List.length_append]) rfl))) ?_
 refine zbq 7 Y ?_
 refine znq rfl (y5q Y Y (qOq (k := ti5) (len := (zdq x.pub.1).length + (zdq x.to.1).length + (zdq (beB 8 x.nonce)).length + (zdq (beB 8 x.amount)).length) (news := zdq (beB 8 x.fee)) (olds := ((zdq x.pub.1 ++ zdq x.to.1) ++ zdq (beB 8 x.nonce)) ++ zdq (beB 8 x.amount)) Y Y Y Y (qsq Y Y Y (zGq (by decide) n3.symm rfl)) (by intro h; rw [h] at n3; cases n3) (by rw [l1, l2, n1, n2, n3]; decide) (by rw [l1, l2, n1, n2, n3]; decide) rfl (by show (_ + _) * 1 < 0 + (_ + _) * 1; rw [l1, l2, n1, n2, n3]; decide) rfl (zGq (by decide) (by rw [List.length_append, List.length_append, List.length_append]) rfl))) ?_
 refine zbq 4 Y ?_
 refine keq (.inr rfl) Y ?_
 exact .sl (full := false) (xs := zdq (xnq x)) rfl (show purL ((((zdq x.pub.1 ++ zdq x.to.1) ++ zdq (beB 8 x.nonce)) ++ zdq (beB 8 x.amount)) ++ zdq (beB 8 x.fee)) = true by rw [<- eb]; simp) (by rw [eb, l1, l2, n1, n2, n3]; exact zGq (by decide) (by simp [l1, l2, n1, n2, n3]) rfl) (by intro h; cases h)
theorem vuq (x : Tx) (hx : x.ok) : PS cfg G 51 [txW x] (.int .i64 (if x.sign = xZq x then 0 else 110)) := by
 have hb := Jbq x
 refine zYq (fn := Tryz.f51) Y Y Y (Yb rfl) (fun R k0 => ?_)
 by_cases h : x.sign = xZq x
 ·rw [if_pos h]
  skip
  refine zhq 12 Y ?_
  refine y2q Y Y Y Y Y Y (rbody_s x hx) ?_
  refine y2q Y Y Y Y Y Y (rtone_s 4 (xnq x) (by omega)) ?_
  refine jpq (w' := .bool false) rfl (kuq Y Y Y Y (qFq Y Y Y Y Y Y x.sign (xZq x) 250)) (by rw [decide_eq_true h]; rfl) ?_
  refine zuq 11 Y ?_
  exact zgq (.inr rfl) Y Y
 ·rw [if_neg h]
  refine zhq 12 Y ?_
  refine y2q Y Y Y Y Y Y (rbody_s x hx) ?_
  refine y2q Y Y Y Y Y Y (rtone_s 4 (xnq x) (by omega)) ?_
  refine jpq (w' := .bool true) rfl (kuq Y Y Y Y (qFq Y Y Y Y Y Y x.sign (xZq x) 250)) (by rw [decide_eq_false h]; rfl) ?_
  refine zuq 10 Y ?_
  exact zgq (.inr rfl) Y Y
theorem ueq (x : Tx) : PS cfg G 121 [txW x] (dW (keyD x.pub)) := by
 refine zYq (fn := Tryz.f121) Y Y Y (Yb rfl) (fun R k0 => ?_)
 refine zhq 10 Y ?_
 refine zjq Y Y Y Y Y Y (rkey_s x.pub) ?_
 refine zbq 4 Y ?_
 exact zgq (.inr rfl) Y Y
theorem v6q (l : List Pr) (k : Dig) : acL l k = inA l k := by
 unfold acL inA
 cases q3q l k <;> rfl
theorem rnext_s (ps : List Pr) (f : Bool) (x : Tx) (hx : x.ok) (hb : ps.length <= 1000000) : PS cfg G 53 [.fz (ps.map pW) 33 f, txW x] (.bool (decide (x.nonce = (acL ps (keyD x.pub)).nonce /\ x.nonce < 18446744073709551615))) := by
 have h1 := hx.nonce
 rw [v6q]
 refine zYq (fn := Tryz.f53) Y Y Y (Yb rfl) (fun R k0 => ?_)
 by_cases q : x.nonce = (inA ps (keyD x.pub)).nonce
 ·skip
  by_cases q2 : x.nonce < 18446744073709551615
  ·rw [decide_eq_true ⟨q, q2⟩]
   skip
   refine zhq 12 Y ?_
   refine y2q Y Y Y Y Y Y (ueq _) ?_
   refine y2q Y Y Y Y Y Y (Zaq ps f (keyD x.pub) (by omega)) ?_
   refine zcq Y Y (jpq (w' := .bool true) Y Y (congrArg W.bool (eqI_iff.2 (by rw [q]))) ?_)
   refine zuq 3 Y ?_
   refine jpq (w' := .bool true) Y Y (congrArg W.bool (ltI_iff.2 (by omega))) ?_
   refine zuq 5 Y ?_
   exact zgq (.inr rfl) Y Y
  ·rw [decide_eq_false fun h => q2 h.2]
   refine zhq 12 Y ?_
   refine y2q Y Y Y Y Y Y (ueq _) ?_
   refine y2q Y Y Y Y Y Y (Zaq ps f (keyD x.pub) (by omega)) ?_
   refine zcq Y Y (jpq (w' := .bool true) Y Y (congrArg W.bool (eqI_iff.2 (by rw [q]))) ?_)
   refine zuq 3 Y ?_
   refine jpq (w' := .bool false) Y Y (congrArg W.bool (ltI_not.2 (by omega))) ?_
   refine zuq 5 Y ?_
   exact zgq (.inr rfl) Y Y
 ·rw [decide_eq_false fun h => q h.1]
  refine zhq 12 Y ?_
  refine y2q Y Y Y Y Y Y (ueq _) ?_
  refine y2q Y Y Y Y Y Y (Zaq ps f (keyD x.pub) (by omega)) ?_
  refine zcq Y Y (jpq (w' := .bool false) Y Y (congrArg W.bool (eqI_not.2 (by omega))) ?_)
  refine zuq 9 Y ?_
  exact zgq (.inr rfl) Y Y
theorem rmoreL_no {l : List Pr} {k : Dig} {c : Nat} (h : jvq l k c = none) (hc : c < 18446744073709551616) (hb : l.length <= 1000000) (hv : ∀ x ∈ l, x.2.length <= 70368744177664) : PS cfg G 123 [psW l, dW k, .int .u64 (c : Int)] (.tup [.nils, .bool false]) := by
 refine yMq (rmore_s l false k c hc hb hv) ?_
 unfold jvq at h
 split at h
 ·cases h
 ·rename_i q; rw [if_pos (by rw [<- v6q]; omega)]
theorem Qxq {l q : List Pr} {k : Dig} {c : Nat} (hs : Srt l) (h : jvq l k c = some q) (hc : c < 18446744073709551616) (hb : l.length <= 1000000) (hv : ∀ x ∈ l, x.2.length <= 70368744177664) : PS cfg G 123 [psW l, dW k, .int .u64 (c : Int)] (.tup [psW q, .bool true]) := by
 refine yMq (rmore_s l false k c hc hb hv) ?_
 unfold jvq at h
 split at h
 ·rename_i g
  rw [if_neg (by rw [<- v6q]; omega), <- v6q, Zsq hs, Option.some.inj h]
 ·cases h
def Few (n : Nat) (l : List Pr) : Prop := l.length <= n /\ ∀ x ∈ l, x.2.length <= 70368744177664
theorem few_set {n : Nat} {l : List Pr} (hs : Srt l) (h : Few n l) (k : Dig) (a : Acct) : Few (n + 1) (setL l k a) := by
 have hw : Few n (zKq l k) := ⟨Nat.le_trans (List.length_filter_le ..) h.1, fun x hx => h.2 x (List.mem_filter.1 hx).1⟩
 unfold setL
 split
 ·exact ⟨Nat.le_succ_of_le hw.1, hw.2⟩
 ·rw [<- withR_eq hs]
  unfold withR
  have e := List.takeWhile_append_dropWhile (p := fun p : Pr => z1q p.1 k) (l := zKq l k)
  generalize (zKq l k).takeWhile (fun p => z1q p.1 k) = A at *
  generalize (zKq l k).dropWhile (fun p => z1q p.1 k) = B at *
  rw [<- e] at hw
  obtain ⟨g1, g2⟩ := hw
  have lb := vMq a
  refine ⟨by simp only [List.length_append, List.length_cons] at g1 ⊢; omega, fun x hx => ?_⟩
  rcases List.mem_append.1 hx with q | q
  ·exact g2 x (List.mem_append_left _ q)
  ·rcases List.mem_cons.1 q with rfl | q
   ·show (qJq a).length <= _
    omega
   ·exact g2 x (List.mem_append_right _ q)
theorem rpaid_s (l : List Pr) (hs : Srt l) (hb : Few 500000 l) (x : Tx) (hx : x.ok) (box : Dig) (hn : (acL l (keyD x.pub)).nonce + 1 < 18446744073709551616) : PS cfg G 54 [psW l, txW x, dW box] (.tup [psW (uVq l x box).1, .int .i64 ((uVq l x box).2 : Nat)]) := by
 have h2 := hx.amount
 have h3 := hx.fee
 obtain ⟨g1, g2⟩ := acL_ok l (keyD x.pub)
 have nS : Srt (x1q l x) := srt_set hs _ _
 have nF : Few 500001 (x1q l x) := few_set hs hb _ _
 have lS : Srt (x2q l x) := srt_set nS _ _
 have lF : Few 500002 (x2q l x) := few_set nS nF _ _
 have w1 : PS cfg G 122 [psW l, dW (keyD x.pub), aW ⟨(acL l (keyD x.pub)).nonce + 1, (acL l (keyD x.pub)).balance⟩] (psW (x1q l x)) := yMq (QAq l false (keyD x.pub) ⟨(acL l (keyD x.pub)).nonce + 1, (acL l (keyD x.pub)).balance⟩ ⟨hn, g2⟩ (Nat.le_trans hb.1 (by omega)) hb.2) (by rw [Zsq hs]; rfl)
 have w2 : PS cfg G 122 [psW (x1q l x), dW (keyD x.pub), aW ⟨(acL l (keyD x.pub)).nonce + 1, (acL l (keyD x.pub)).balance - (x.amount + x.fee)⟩] (psW (x2q l x)) := yMq (QAq (x1q l x) false (keyD x.pub) ⟨(acL l (keyD x.pub)).nonce + 1, (acL l (keyD x.pub)).balance - (x.amount + x.fee)⟩ ⟨hn, by show (acL l (keyD x.pub)).balance - (x.amount + x.fee) < 18446744073709551616; omega⟩ (Nat.le_trans nF.1 (by omega)) nF.2) (by rw [Zsq nS]; rfl)
 by_cases ho : x.amount + x.fee <= (acL l (keyD x.pub)).balance
 ·cases hm : jvq (x2q l x) x.to x.amount with
  | none =>
   rw [paid_1 ho hm]
   refine zYq (fn := Tryz.f54) Y Y Y (Yb rfl) (fun R k0 => ?_)
   refine zhq 11 Y ?_
   refine zjq Y Y Y Y Y Y (ueq _) ?_
   refine zbq 8 Y ?_
   first | refine zjq Y Y Y Y Y Y (yMq (Zaq l false (keyD x.pub) (Nat.le_trans hb.1 (by omega))) (by rw [<- v6q])) ?_ | refine zjq Y Y Y Y Y Y (Zaq ps f (keyD x.pub) (by omega)) ?_
   refine zbq 8 Y ?_
   refine ziq ((acL l (keyD x.pub)).nonce + 1) Y Y (by first | rfl | omega) ⟨by omega, by omega⟩ ?_
   refine zbq 9 Y ?_
   refine zjq Y Y Y Y Y Y w1 ?_
   refine zbq 10 Y ?_
   refine ziq (18446744073709551615 - x.fee) Y Y (by first | rfl | omega) ⟨by omega, by omega⟩ ?_
   refine zqq (w' := .bool false) Y Y (congrArg W.bool (ltI_not.2 (by omega))) ?_
   refine zbq 5 Y ?_
   refine ziq (x.amount + x.fee) Y Y (by first | rfl | omega) ⟨by omega, by omega⟩ ?_
   refine zbq 2 Y ?_
   refine zqq (w' := .bool false) Y Y (congrArg W.bool (ltI_not.2 (by omega))) ?_
   refine zbq 14 Y ?_
   refine ziq (x.amount + x.fee) Y Y (by first | rfl | omega) ⟨by omega, by omega⟩ ?_
   refine ziq ((acL l (keyD x.pub)).balance - (x.amount + x.fee)) Y Y (by first | rfl | omega) ⟨by omega, by omega⟩ ?_
   refine zbq 9 Y ?_
   refine y2q Y Y Y Y Y Y w2 ?_
   refine zuq 4 Y ?_
   refine y2q Y Y Y Y Y Y (rmoreL_no hm h2 (Nat.le_trans lF.1 (by omega)) lF.2) ?_
   refine zuq 11 Y ?_
   refine zqq (w' := .bool true) Y Y (congrArg W.bool (by first | rfl | exact eqI_iff.2 rfl | (simp; done) | decide | (simp [ltI_iff, eqI_iff]; done))) ?_
   refine zbq 12 Y ?_
   exact zgq (.inr rfl) Y Y
  | some p =>
   have pS : Srt p := (more_ok lS hm).1
   have pF : Few 500003 p := by
    unfold jvq at hm
    split at hm
    ·rw [<- Option.some.inj hm]; exact few_set lS lF _ _
    ·cases hm
   cases hm2 : jvq p box x.fee with
   | none =>
    rw [paid_2 ho hm hm2]
    refine zYq (fn := Tryz.f54) Y Y Y (Yb rfl) (fun R k0 => ?_)
    refine zhq 11 Y ?_
    refine zjq Y Y Y Y Y Y (ueq _) ?_
    refine zbq 8 Y ?_
    first | refine zjq Y Y Y Y Y Y (yMq (Zaq l false (keyD x.pub) (Nat.le_trans hb.1 (by omega))) (by rw [<- v6q])) ?_ | refine zjq Y Y Y Y Y Y (Zaq ps f (keyD x.pub) (by omega)) ?_
    refine zbq 8 Y ?_
    refine ziq ((acL l (keyD x.pub)).nonce + 1) Y Y (by first | rfl | omega) ⟨by omega, by omega⟩ ?_
    refine zbq 9 Y ?_
    refine zjq Y Y Y Y Y Y w1 ?_
    refine zbq 10 Y ?_
    refine ziq (18446744073709551615 - x.fee) Y Y (by first | rfl | omega) ⟨by omega, by omega⟩ ?_
    refine zqq (w' := .bool false) Y Y (congrArg W.bool (ltI_not.2 (by omega))) ?_
    refine zbq 5 Y ?_
    refine ziq (x.amount + x.fee) Y Y (by first | rfl | omega) ⟨by omega, by omega⟩ ?_
    refine zbq 2 Y ?_
    refine zqq (w' := .bool false) Y Y (congrArg W.bool (ltI_not.2 (by omega))) ?_
    refine zbq 14 Y ?_
    refine ziq (x.amount + x.fee) Y Y (by first | rfl | omega) ⟨by omega, by omega⟩ ?_
    refine ziq ((acL l (keyD x.pub)).balance - (x.amount + x.fee)) Y Y (by first | rfl | omega) ⟨by omega, by omega⟩ ?_
    refine zbq 9 Y ?_
    refine y2q Y Y Y Y Y Y w2 ?_
    refine zuq 4 Y ?_
    refine y2q Y Y Y Y Y Y (Qxq lS hm h2 (Nat.le_trans lF.1 (by omega)) lF.2) ?_
    refine zuq 11 Y ?_
    refine zqq (w' := .bool false) Y Y (congrArg W.bool (by first | rfl | exact eqI_iff.2 rfl | (simp; done) | decide | (simp [ltI_iff, eqI_iff]; done))) ?_
    refine zbq 11 Y ?_
    refine zjq Y Y Y Y Y Y (rmoreL_no hm2 h3 (Nat.le_trans pF.1 (by omega)) pF.2) ?_
    refine zbq 11 Y ?_
    refine zqq (w' := .bool true) Y Y (congrArg W.bool (by first | rfl | exact eqI_iff.2 rfl | (simp; done) | decide | (simp [ltI_iff, eqI_iff]; done))) ?_
    refine zbq 12 Y ?_
    exact zgq (.inr rfl) Y Y
   | some q =>
    rw [paid_3 ho hm hm2]
    refine zYq (fn := Tryz.f54) Y Y Y (Yb rfl) (fun R k0 => ?_)
    refine zhq 11 Y ?_
    refine zjq Y Y Y Y Y Y (ueq _) ?_
    refine zbq 8 Y ?_
    first | refine zjq Y Y Y Y Y Y (yMq (Zaq l false (keyD x.pub) (Nat.le_trans hb.1 (by omega))) (by rw [<- v6q])) ?_ | refine zjq Y Y Y Y Y Y (Zaq ps f (keyD x.pub) (by omega)) ?_
    refine zbq 8 Y ?_
    refine ziq ((acL l (keyD x.pub)).nonce + 1) Y Y (by first | rfl | omega) ⟨by omega, by omega⟩ ?_
    refine zbq 9 Y ?_
    refine zjq Y Y Y Y Y Y w1 ?_
    refine zbq 10 Y ?_
    refine ziq (18446744073709551615 - x.fee) Y Y (by first | rfl | omega) ⟨by omega, by omega⟩ ?_
    refine zqq (w' := .bool false) Y Y (congrArg W.bool (ltI_not.2 (by omega))) ?_
    refine zbq 5 Y ?_
    refine ziq (x.amount + x.fee) Y Y (by first | rfl | omega) ⟨by omega, by omega⟩ ?_
    refine zbq 2 Y ?_
    refine zqq (w' := .bool false) Y Y (congrArg W.bool (ltI_not.2 (by omega))) ?_
    refine zbq 14 Y ?_
    refine ziq (x.amount + x.fee) Y Y (by first | rfl | omega) ⟨by omega, by omega⟩ ?_
    refine ziq ((acL l (keyD x.pub)).balance - (x.amount + x.fee)) Y Y (by first | rfl | omega) ⟨by omega, by omega⟩ ?_
    refine zbq 9 Y ?_
    refine y2q Y Y Y Y Y Y w2 ?_
    refine zuq 4 Y ?_
    refine y2q Y Y Y Y Y Y (Qxq lS hm h2 (Nat.le_trans lF.1 (by omega)) lF.2) ?_
    refine zuq 11 Y ?_
    refine zqq (w' := .bool false) Y Y (congrArg W.bool (by first | rfl | exact eqI_iff.2 rfl | (simp; done) | decide | (simp [ltI_iff, eqI_iff]; done))) ?_
    refine zbq 11 Y ?_
    refine zjq Y Y Y Y Y Y (Qxq pS hm2 h3 (Nat.le_trans pF.1 (by omega)) pF.2) ?_
    refine zbq 11 Y ?_
    refine zqq (w' := .bool false) Y Y (congrArg W.bool (by first | rfl | exact eqI_iff.2 rfl | (simp; done) | decide | (simp [ltI_iff, eqI_iff]; done))) ?_
    refine zbq 13 Y ?_
    exact zgq (.inr rfl) Y Y
 ·rw [QJq ho]
  refine zYq (fn := Tryz.f54) Y Y Y (Yb rfl) (fun R k0 => ?_)
  refine zhq 11 Y ?_
  refine zjq Y Y Y Y Y Y (ueq _) ?_
  refine zbq 8 Y ?_
  first | refine zjq Y Y Y Y Y Y (yMq (Zaq l false (keyD x.pub) (Nat.le_trans hb.1 (by omega))) (by rw [<- v6q])) ?_ | refine zjq Y Y Y Y Y Y (Zaq ps f (keyD x.pub) (by omega)) ?_
  refine zbq 8 Y ?_
  refine ziq ((acL l (keyD x.pub)).nonce + 1) Y Y (by first | rfl | omega) ⟨by omega, by omega⟩ ?_
  refine zbq 9 Y ?_
  refine zjq Y Y Y Y Y Y w1 ?_
  refine zbq 10 Y ?_
  refine ziq (18446744073709551615 - x.fee) Y Y (by first | rfl | omega) ⟨by omega, by omega⟩ ?_
  refine qdq Y Y (fun h1 => ?_) (fun h1 => ?_)
  ·refine zbq 22 Y ?_
   exact zgq (.inr rfl) Y Y
  ·have q1 : ¬ ((18446744073709551615 - x.fee : Nat) : Int) < (x.amount : Int) := h1
   refine zbq 5 Y ?_
   refine ziq (x.amount + x.fee) Y Y (by first | rfl | omega) ⟨by omega, by omega⟩ ?_
   refine zbq 2 Y ?_
   refine zqq (w' := .bool true) Y Y (congrArg W.bool (ltI_iff.2 (by omega))) ?_
   refine zbq 13 Y ?_
   exact zgq (.inr rfl) Y Y
end
section
attribute [local irreducible] CoW OpW FlW Step Spec
variable {G : Nat -> Option W}
theorem great_no {t : Tree} (h : ¬ YBq t 600) : t.nodes.length <= 600 /\ ∀ x ∈ t.nodes, x.val.length <= 100 := by
 have h1 : t.nodes.length <= 600 := Nat.le_of_not_lt fun q => h (.inl q)
 refine ⟨h1, fun x hx => ?_⟩
 obtain ⟨i, hi⟩ := List.getElem?_of_mem hx
 have := (List.getElem?_eq_some_iff.1 hi).1
 exact Nat.le_of_not_lt fun q => h (.inr ⟨i, x, by omega, hi, q⟩)
end
theorem fit_tx {w : W} (h : Fit (.st 99 [.arr 32 1 (.int .u8), .arr 32 1 (.int .u8), .int .u64, .int .u64, .int .u64, .arr 32 1 (.int .u8)]) w) : ∃ x : Tx, w = txW x /\ x.ok := by
 obtain ⟨l, rfl, w1, l1, rfl, h1, w2, l2, rfl, h2, w3, l3, rfl, h3, w4, l4, rfl, h4, w5, l5, rfl, h5, w6, l6, rfl, h6, rfl⟩ := h
 obtain ⟨a, rfl⟩ := fit_dig h1
 obtain ⟨b, rfl⟩ := fit_dig h2
 obtain ⟨n, rfl, hn⟩ := fit_u64 h3
 obtain ⟨m, rfl, hm⟩ := fit_u64 h4
 obtain ⟨f, rfl, hf⟩ := fit_u64 h5
 obtain ⟨s, rfl⟩ := fit_dig h6
 exact ⟨⟨a, b, n, m, f, s⟩, rfl, hn, hm, hf⟩
section
attribute [local irreducible] CoW OpW FlW Step Spec
theorem rpay_no (t : Tree) (x : Tx) (box : Dig) (hb : t.nodes.length <= 4611686018427387903) (h : ¬ MayA t) : PS cfg glK 16 [tW t, txW x, dW box] (.tup [.nils, .int .i64 0, .int .i64 8]) := by
 refine zYq (fn := Tryz.f16) Y Y Y (Yb rfl) (fun R k0 => ?_)
 refine zhq 14 Y ?_
 refine zjq Y Y Y Y Y Y (yMq (w' := .bool false) (QBq t hb) (by rw [decide_eq_false h])) ?_
 refine zbq 13 Y ?_
 exact zgq (.inr rfl) Y Y
theorem rpay_sign (t : Tree) (n : Nat) (t0 : T) (x : Tx) (hx : x.ok) (box : Dig) (h : IsA t n t0) (hl : t.nodes.length <= 260944) (hs : x.sign ≠ xZq x) : PS cfg glK 16 [tW t, txW x, dW box] (.tup [.nils, .int .i64 0, .int .i64 110]) := by
 have yes : MayA t := ⟨n, t0, h⟩
 refine zYq (fn := Tryz.f16) Y Y Y (Yb rfl) (fun R k0 => ?_)
 refine zhq 14 Y ?_
 refine zjq Y Y Y Y Y Y (yMq (w' := .bool true) (QBq t (by omega)) (by rw [decide_eq_true yes])) ?_
 refine zbq 10 Y ?_
 refine zjq Y Y Y Y Y Y (yMq (w' := .int .i64 110) (vuq x hx) (by rw [if_neg hs])) ?_
 refine zbq 13 Y ?_
 exact zgq (.inr rfl) Y Y
theorem rpay_nonce (t : Tree) (n : Nat) (t0 : T) (x : Tx) (hx : x.ok) (box : Dig) (h : IsA t n t0) (hl : t.nodes.length <= 260944) (hs : x.sign = xZq x) (hn : ¬ (x.nonce = (acL t0.all (keyD x.pub)).nonce /\ x.nonce < 18446744073709551615)) : PS cfg glK 16 [tW t, txW x, dW box] (.tup [.nils, .int .i64 0, .int .i64 2]) := by
 have yes : MayA t := ⟨n, t0, h⟩
 have hle := h.toIsT.le
 refine zYq (fn := Tryz.f16) Y Y Y (Yb rfl) (fun R k0 => ?_)
 refine zhq 14 Y ?_
 refine zjq Y Y Y Y Y Y (yMq (w' := .bool true) (QBq t (by omega)) (by rw [decide_eq_true yes])) ?_
 refine zbq 10 Y ?_
 refine zjq Y Y Y Y Y Y (yMq (w' := .int .i64 0) (vuq x hx) (by rw [if_pos hs])) ?_
 refine zbq 9 Y ?_
 refine zjq Y Y Y Y Y Y (rall_s t n t0 h.toIsT) ?_
 refine zbq 8 Y ?_
 refine zjq Y Y Y Y Y Y (yMq (w' := .bool false) (rnext_s t0.all false x hx (by omega)) (by rw [decide_eq_false hn])) ?_
 refine zbq 13 Y ?_
 exact zgq (.inr rfl) Y Y
theorem rpay_s (t : Tree) (n : Nat) (t0 : T) (x : Tx) (hx : x.ok) (box : Dig) (h : IsA t n t0) (hl : t.nodes.length <= 260944) (hs : x.sign = xZq x) (hn : x.nonce = (acL t0.all (keyD x.pub)).nonce) (hn2 : x.nonce < 18446744073709551615) : PS cfg glK 16 [tW t, txW x, dW box] (.tup [psW (uVq t0.all x box).1, .int .i64 ((uVq t0.all x box).2 : Nat), .int .i64 0]) := by
 have yes : MayA t := ⟨n, t0, h⟩
 have e : (t.nodes.map nW).length = t.nodes.length := List.length_map _
 have hle := h.toIsT.le
 refine zYq (fn := Tryz.f16) Y Y Y (Yb rfl) (fun R k0 => ?_)
 refine zhq 14 Y ?_
 refine zjq Y Y Y Y Y Y (yMq (w' := .bool true) (QBq t (by omega)) (by rw [decide_eq_true yes])) ?_
 refine zbq 10 Y ?_
 refine zjq Y Y Y Y Y Y (yMq (w' := .int .i64 0) (vuq x hx) (by rw [if_pos hs])) ?_
 refine zbq 9 Y ?_
 refine zjq Y Y Y Y Y Y (rall_s t n t0 h.toIsT) ?_
 refine zbq 8 Y ?_
 refine zjq Y Y Y Y Y Y (yMq (w' := .bool true) (rnext_s t0.all false x hx (by omega)) (by rw [decide_eq_true ⟨hn, hn2⟩])) ?_
 refine zbq 11 Y ?_
 refine zqq (w' := .int .i64 (t.nodes.length : Int)) Y Y (by rw [<- e]; rfl) ?_
 refine zqq (w' := .bool false) Y Y (congrArg W.bool (ltI_not.2 (by omega))) ?_
 refine zbq 10 Y ?_
 refine zjq Y Y Y Y Y Y (rpaid_s t0.all h.toIsT.srt ⟨by omega, h.toIsT.vle⟩ x hx box (by omega)) ?_
 refine zbq 17 Y ?_
 exact zgq (.inr rfl) Y Y
theorem pays_no (t : Tree) (x : Tx) (box : Dig) (c : Nat) (hc : c ≠ 0) (hb : t.nodes.length <= 4611686018427387903) (hg : ¬ YBq t 600) (hP : PS cfg glK 15 [tW t, txW x, dW box] (.tup [noT, .int .i64 0, .int .i64 (c : Int)])) (hR : PS cfg glK 16 [tW t, txW x, dW box] (.tup [.nils, .int .i64 0, .int .i64 (c : Int)])) : PS cfg glK 4 [tW t, txW x, dW box] (.bool true) := by
 obtain ⟨hn, hx⟩ := great_no hg
 have hv : ∀ x ∈ t.nodes, x.val.length <= 70368744177664 := fun x h => by have := hx x h; omega
 refine zYq (fn := Tryz.f4) Y Y Y (Yb rfl) (fun R k0 => ?_)
 refine zhq 12 Y ?_
 refine zjq Y Y Y Y Y Y (yMq (w' := .bool false) (great_s t 600 hb (by omega)) (by rw [decide_eq_false hg])) ?_
 refine zbq 8 Y ?_
 refine zjq Y Y Y Y Y Y (rttwin_s t (by omega) hv) ?_
 refine zbq 9 Y ?_
 refine zjq Y Y Y Y Y Y (hP) ?_
 refine zbq 15 Y ?_
 refine zjq Y Y Y Y Y Y (hR) ?_
 refine zbq 13 Y ?_
 refine zqq (w' := .bool true) Y Y (congrArg W.bool (by first | rfl | exact eqI_iff.2 rfl | (simp; done) | decide | (simp [ltI_iff, eqI_iff]; done))) ?_
 refine zbq 3 Y ?_
 refine zqq (w' := .bool true) Y Y (congrArg W.bool (eqI_iff.2 rfl)) ?_
 refine zbq 3 Y ?_
 refine zqq (w' := .bool true) Y Y (congrArg (fun b => W.bool (!b)) (eqI_not.2 (by omega))) ?_
 refine zbq 3 Y ?_
 first | refine ZOq Y Y ?_ | refine zaq Y Y ?_
 refine zqq (w' := .bool true) Y Y (congrArg W.bool (by first | rfl | exact eqI_iff.2 rfl | (simp; done) | decide | (simp [ltI_iff, eqI_iff]; done))) ?_
 refine zbq 21 Y ?_
 refine zjq Y Y Y Y Y Y (yMq (w' := .bool true) (Qwq t t (by omega)) (by rw [decide_eq_true rfl])) ?_
 refine zbq 5 Y ?_
 exact zgq (.inr rfl) Y Y
theorem pays_s (t : Tree) (x : Tx) (hx : x.ok) (box : Dig) (hb : t.nodes.length <= 4611686018427387903) : PS cfg glK 4 [tW t, txW x, dW box] (.bool true) := by
 by_cases hg : YBq t 600
 ·skip
  refine zYq (fn := Tryz.f4) Y Y Y (Yb rfl) (fun R k0 => ?_)
  refine zhq 12 Y ?_
  refine zjq Y Y Y Y Y Y (yMq (w' := .bool true) (great_s t 600 hb (by omega)) (by rw [decide_eq_true hg])) ?_
  refine zbq 10 Y ?_
  exact zgq (.inr rfl) Y Y
 obtain ⟨hn, hx0⟩ := great_no hg
 have hv : ∀ x ∈ t.nodes, x.val.length <= 70368744177664 := fun x h => by have := hx0 x h; omega
 by_cases hA : MayA t
 ·obtain ⟨n, t0, h⟩ := hA
  by_cases hs : x.sign = xZq x
  ·by_cases hq : x.nonce = (acL t0.all (keyD x.pub)).nonce /\ x.nonce < 18446744073709551615
   ·obtain ⟨q1, q2⟩ := hq
    refine zYq (fn := Tryz.f4) Y Y Y (Yb rfl) (fun R k0 => ?_)
    refine zhq 12 Y ?_
    refine zjq Y Y Y Y Y Y (yMq (w' := .bool false) (great_s t 600 hb (by omega)) (by rw [decide_eq_false hg])) ?_
    refine zbq 8 Y ?_
    refine zjq Y Y Y Y Y Y (rttwin_s t (by omega) hv) ?_
    refine zbq 9 Y ?_
    ((refine zzq rfl (Qsq Y Y Y Y Y (pay_s t n t0 x hx box h hs q1 q2 (by omega)) (by simp) ?_); rintro w hw ⟨t', n', t1, ht', hgo, rfl⟩))
    refine zbq 15 Y ?_
    refine zjq Y Y Y Y Y Y (rpay_s t n t0 x hx box h (by omega) hs q1 q2) ?_
    refine zbq 13 Y ?_
    refine zqq (w' := .bool true) Y Y (congrArg W.bool (by first | rfl | exact eqI_iff.2 rfl | (simp; done) | decide | (simp [ltI_iff, eqI_iff]; done))) ?_
    refine zbq 3 Y ?_
    refine zqq (w' := .bool true) Y Y (congrArg W.bool (by first | rfl | exact eqI_iff.2 rfl | (simp; done) | decide | (simp [ltI_iff, eqI_iff]; done))) ?_
    refine zbq 3 Y ?_
    refine zqq (w' := .bool false) Y Y (congrArg W.bool (by first | rfl | exact eqI_iff.2 rfl | (simp; done) | decide | (simp [ltI_iff, eqI_iff]; done))) ?_
    refine zbq 8 Y ?_
    refine zqq (w' := .bool true) Y Y (congrArg W.bool (by first | rfl | exact eqI_iff.2 rfl | (simp; done) | decide | (simp [ltI_iff, eqI_iff]; done))) ?_
    refine zbq 4 Y ?_
    refine zjq Y Y Y Y Y Y (grown_s t t' n' t1 _ ht'.toIsT hgo) ?_
    refine zbq 12 Y ?_
    refine zjq Y Y Y Y Y Y (yMq (w' := .bool true) (Qwq t t (by omega)) (by rw [decide_eq_true rfl])) ?_
    refine zbq 5 Y ?_
    exact zgq (.inr rfl) Y Y
   ·exact pays_no t x box 2 (by decide) hb hg (pay_nonce t n t0 x hx box h hs hq) (rpay_nonce t n t0 x hx box h (by omega) hs hq)
  ·exact pays_no t x box 110 (by decide) hb hg (pay_sign t n t0 x hx box h hs) (rpay_sign t n t0 x hx box h (by omega) hs)
 ·exact pays_no t x box 8 (by decide) hb hg (pay_no t x box hb hA) (rpay_no t x box hb hA)
end
mutual
/-- all blocks in it lie below n -/
def ltB (n : Nat) : V -> Bool
 | .ptr b _ => decide (b < n)
 | .sl b _ _ _ _ _ => decide (b < n)
 | .map b => decide (b < n)
 | .yield b => decide (b < n)
 | .fn _ a c => ltL n a && ltL n c
 | .iface _ v => ltB n v
 | .agg _ l => ltL n l
 | .arr _ _ l => ltL n l
 | .tup l => ltL n l
 | .undef => true
 | .bool _ => true
 | .int _ _ => true
 | .str _ => true
 | .nilp => true
 | .nils => true
 | .nilm => true
 | .nilf => true
 | .nili => true
def ltL (n : Nat) : List V -> Bool
 | [] => true
 | v :: l => ltB n v && ltL n l
end
def SeenK (h : Heap) : Nat -> Prop := fun b => b < h.next /\ ∃ v, h.val b = some v /\ ltB h.next v = true
def u32V (n : Nat) : V := .int .u32 (.ofNat n)
def eqK : List V -> List Nat -> Bool
 | [], [] => true
 | .int .u32 (.ofNat n) :: l, m :: ms => match Nat.beq n m with
  | true => eqK l ms
  | false => false
 | _, _ => false
theorem eqK_spec : ∀ {l : List V} {ms : List Nat}, eqK l ms = true -> l = ms.map u32V
 | [], [], _ => rfl
 | [], _ :: _, h => by simp [eqK] at h
 | v :: l, ms, h => by
  unfold eqK at h
  split at h
  ·simp_all
  ·rename_i n l' m ms' e
   cases e
   split at h
   ·rename_i hb
    obtain rfl := Nat.eq_of_beq_eq_true hb
    rw [eqK_spec h]; rfl
   ·cases h
  ·cases h
def globK (h : Heap) : Bool := match h.get 0 with
 | some (.ro (.arr 64 1 l)) => eqK l kW
 | _ => false
theorem RSL_wd (Γ : Ctx) : ∀ l : List Nat, RSL Γ (l.map wd) (l.map u32V)
 | [] => rfl
 | n :: l => q0q (a := [u32V n]) (b := l.map u32V) (x := wd n) rfl (RSL_wd Γ l)
theorem globK_spec {h : Heap} (hn : Nat.ble 1 h.next = true) (hk : globK h = true) : GRel cfg glK ⟨0, fun i => i, SeenK h, h⟩ := by
 intro g w _ h2 nw σ
 have hn := Yb hn
 unfold glK at h2
 split at h2
 ·cases h2
  unfold globK at hk
  split at hk
  ·rename_i l hg
   obtain rfl := eqK_spec hk
   have hv : h.val 0 = some (.arr 64 1 (kW.map u32V)) := by simp only [Heap.val, hg]
   refine RV.of_one ⟨0, 0, _, rfl, ⟨by omega, _, hv, by rfl⟩, hv, by exact Nat.le_refl _, fun _ => rfl, .inr rfl, ?_⟩ Y Y
   have e : ((zwq (.arr 64 1 (kW.map u32V))).drop 0).take 64 = kW.map u32V := by kernel_rfl
   show RS _ _ (((zwq (.arr 64 1 (kW.map u32V))).drop 0).take 64)
   rw [e]
   exact ⟨rfl, fun x hx => by obtain ⟨n, _, rfl⟩ := List.mem_map.1 hx; rfl, RSL_wd _ kW⟩
  ·cases hk
 ·cases h2
end
end Go.Proofs.YtgeelfdgnehdnaaGreatDoor
end

/-
  What the proof of PurseKeeps stands on, part 7. No condition.
-/
import Derived.Test.YtgeelfdgnehdnaaDoorZPurseKeepsF
namespace Go.Proofs.YtgeelfdgnehdnaaDoor
open Go.RowKit
set_option linter.unusedSimpArgs false
set_option linter.unusedVariables false
attribute [local irreducible] CoW OpW FlW Step Spec
variable {G : Nat → Option W}
theorem jEq {o : Oper} {fr : FrW} {hp : HpW} {nw : Nat} {R : Res} {post : W → HpW → Nat → Res → Option EvW → Prop} {x : Operand} {xs : Array Operand} {ats : Array TypeId} {f : FuncId} {a b : Nat}
  (ho : o.op = .call ⟨.value x, xs, ats⟩) (hx : evW cfg G fr x = some (.fn f [] [])) (he : cfg.ext f = some add64V) (hxs : evLW cfg G fr xs.toList = some [.int .u64 ((a : Nat) : Int), .int .u64 ((b : Nat) : Int), .int .u64 ((0 : Nat) : Int)])
  (hpost : post (.tup [.int .u64 (((a + b) % 18446744073709551616 : Nat) : Int), .int .u64 (((a + b) / 18446744073709551616 : Nat) : Int)]) hp nw R (some .gen)) : Step cfg G o fr hp nw R post := by
 refine step_ext ho hx he hxs (fun Γ vs h => ?_) hpost
 simp only [List.nil_append, List.append_nil, RVL_cons, RV_int] at h
 obtain ⟨v1, vs1, rfl, rfl, v2, vs2, rfl, rfl, v3, vs3, rfl, rfl, h⟩ := h
 obtain rfl : vs3 = [] := by simpa [RVL] using h
 refine ⟨.tup [.int .u64 (.ofNat ((a + b + 0) % 18446744073709551616)), .int .u64 (.ofNat ((a + b + 0) / 18446744073709551616))], rfl, ?_⟩
 rw [RV_tup]
 refine ⟨_, rfl, ?_⟩
 simp only [RVL_cons, RV_int]
 exact ⟨_, _, rfl, rfl, _, _, rfl, rfl, rfl⟩
theorem total1_s (n lo hi : Nat) (hh : hi + (lo + n) / 18446744073709551616 < 18446744073709551616) : y8q cfg G 41 2 [.int .u64 (n : Int), .ptr 0 0, .ptr 1 0] [(0, 24, .int .u64 (lo : Int)), (1, 24, .int .u64 (hi : Int))] fun w hp nw =>
  hp = [(0, 24, .int .u64 (((lo + n) % 18446744073709551616 : Nat) : Int)), (1, 24, .int .u64 ((hi + (lo + n) / 18446744073709551616 : Nat) : Int))] ∧ nw = 2 := by
 intro R
 refine zZq (fn := Tryd.f41) rfl rfl rfl (Nat.le_of_ble_eq_true rfl) (fun k0 => ?_)
 refine zpq 4 rfl ?_
 (refine zrq rfl (jEq (a := lo) (b := n) rfl rfl rfl rfl ?_))
 refine zbq 11 rfl ?_
 refine qTq (hi + (lo + n) / 18446744073709551616) rfl rfl (by first | rfl | omega) ⟨by omega, by omega⟩ ?_
 refine run_f 3 rfl ?_
 exact fin (w := .tup []) (.inl rfl) (yhq (fr2 := []) trivial rfl rfl) rfl ⟨rfl, rfl, rfl⟩
noncomputable def totH (t : Tree) (a : Nat) : HpW := [(3, 79, .fn 41 [] [.ptr 2 0, .ptr 1 0]), (2, 24, .int .u64 ((a % 18446744073709551616 : Nat) : Int)), (1, 24, .int .u64 ((a / 18446744073709551616 : Nat) : Int)), (0, 40, tW t)]
def bal (p : Pr) : Nat := (q5q p.2).1.balance
def sumB (l : List Pr) : Nat := (l.map bal).sum
theorem bal_lt (p : Pr) : bal p < 18446744073709551616 := by
 unfold bal q5q
 split
 ·exact Nat.zero_lt_succ _
 ·split
  ·exact Nat.zero_lt_succ _
  ·split
   ·exact Nat.zero_lt_succ _
   ·have h := Zpq (p.2.drop 8)
    have e : (p.2.drop 8).length = 8 := by rw [List.length_drop]; omega
    rw [e] at h
    exact h
theorem sumB_take {l : List Pr} {i : Nat} {y : Pr} (h : l[i]? = some y) : sumB (l.take (i + 1)) = sumB (l.take i) + bal y := by
 rw [List.take_add_one, h]
 simp [sumB]
theorem Y0q : ∀ l : List Pr, sumB l ≤ l.length * 18446744073709551615
 | [] => by simp [sumB]
 | p :: l => by
  have h1 := bal_lt p
  have h2 := Y0q l
  simp only [sumB, List.map_cons, List.sum_cons, List.length_cons] at h2 ⊢
  omega
theorem atotal_no (t : Tree) (hb : t.nodes.length ≤ 4611686018427387903) (h : ¬ MayA t) : PS cfg G 17 [tW t] (.tup [.int .u64 ((0 : Nat) : Int), .int .u64 ((0 : Nat) : Int), .int .i64 8]) := by
 refine yqq (fn := Tryd.f17) rfl rfl rfl (Nat.le_of_ble_eq_true rfl) (fun R k0 => ?_)
 refine zpq 12 rfl ?_
 refine zjq rfl rfl rfl rfl rfl rfl (y7q (w' := .int .i64 8) (qVq t hb) (by rw [if_neg h])) ?_
 refine zbq 20 rfl ?_
 exact zuq (.inr rfl) rfl rfl
theorem uOq (t : Tree) (n : Nat) (t0 : T) (h : IsA t n t0) : PS cfg G 17 [tW t] (.tup [.int .u64 ((sumB t0.all / 18446744073709551616 : Nat) : Int), .int .u64 ((sumB t0.all % 18446744073709551616 : Nat) : Int), .int .i64 0]) := by
 have yes : MayA t := ⟨n, t0, h⟩
 have hl := h.len
 have hal := h.all_le
 refine yqq (fn := Tryd.f17) rfl rfl rfl (Nat.le_of_ble_eq_true rfl) (fun R k0 => ?_)
 refine zpq 12 rfl ?_
 refine zjq rfl rfl rfl rfl rfl rfl (y7q (w' := .int .i64 0) (qVq t (by omega)) (by rw [if_pos yes])) ?_
 refine zbq 23 rfl ?_
 refine zjq rfl rfl rfl rfl rfl rfl (aeach_s _) ?_
 refine zbq 3 rfl ?_
 refine co_rangeG (encA) (t0.all) (fun i (a : Nat) => a = sumB (t0.all.take i)) (fun a => totH t a) (fun _ => R) (0) rfl (by first | rfl | assumption | (simp; done)) (aeach_it t n t0 h.toIsT) (encA_ok) (by simp [sumB]) rfl rfl (fun i a y hy hI => ?_) (fun a hI => ?_)
 ·have hi := (List.getElem?_eq_some_iff.1 hy).1
  have hs := sumB_take hy
  have hb := Y0q (t0.all.take (i + 1))
  have hb2 : (t0.all.take (i + 1)).length ≤ 262144 := by rw [List.length_take]; omega
  rw [← hI] at hs
  rw [hs] at hb
  refine zpq 4 rfl ?_
  refine Qaq ?_
  refine zpq 5 rfl ?_
  (refine zrq rfl (yCq (ext := [2, 1]) (ws := [.int .u64 ((bal y : Nat) : Int), .ptr 0 0, .ptr 1 0]) rfl rfl rfl rfl rfl (total1_s (bal y) (a % 18446744073709551616) (a / 18446744073709551616) (by omega)) (by decide) (by intro b hb; simp only [List.mem_cons, List.not_mem_nil, or_false] at hb; show b < 5; omega) (by simp) (vdq rfl rfl rfl rfl) rfl ?_); rintro w hp1 nw1 ⟨rfl, rfl⟩)
  refine zbq 2 rfl ?_
  refine Y8q (sumB (t0.all.take (i + 1))) rfl (qeq (nw2 := 4) (by show 4 ≤ 4; omega) (by show 4 ≤ 5; omega) trivial rfl (fun b x hb => ?_) (by show ([3, 2, 1, 0] : List Nat).Nodup; decide))
  have e1 : (a % 18446744073709551616 + bal y) % 18446744073709551616 = sumB (t0.all.take (i + 1)) % 18446744073709551616 := by rw [hs]; omega
  have e2 : a / 18446744073709551616 + (a % 18446744073709551616 + bal y) / 18446744073709551616 = sumB (t0.all.take (i + 1)) / 18446744073709551616 := by rw [hs]; omega
  match b, hb with
  | 0, hb => cases hb; exact ⟨by omega, rfl, zdq (xFq t)⟩
  | 1, hb => cases hb; exact ⟨by omega, by show some (24, W.int .u64 _) = _; rw [e2], rfl⟩
  | 2, hb => cases hb; exact ⟨by omega, by show some (24, W.int .u64 _) = _; rw [e1], rfl⟩
  | 3, hb => cases hb; exact ⟨by omega, rfl, rfl⟩
  | b + 4, hb => cases hb
 ·rw [List.take_length] at hI
  subst hI
  refine z5q 12 rfl ?_
  exact zuq (.inr rfl) rfl rfl
end Go.Proofs.YtgeelfdgnehdnaaDoor
namespace Go.Proofs.YtgeelfdgnehdnaaDoor
open Go.RowKit
set_option linter.unusedSimpArgs false
set_option linter.unusedVariables false
attribute [local irreducible] CoW OpW FlW Step Spec
variable {G : Nat → Option W}
def uRq (t : Tree) (m : Nat) : Prop := m < t.nodes.length ∨ ∃ i x, i ≤ m ∧ t.nodes[i]? = some x ∧ 100 < x.val.length
noncomputable instance (t : Tree) (m : Nat) : Decidable (uRq t m) := Classical.propDecidable _
theorem veq (t : Tree) (m : Nat) (hb : t.nodes.length ≤ 4611686018427387903) (hm : m ≤ 4611686018427387903) : PS cfg G 21 [tW t, .int .i64 (m : Int)] (.bool (decide (uRq t m))) := by
 have e : (t.nodes.map nW).length = t.nodes.length := List.length_map _
 refine yqq (fn := Tryd.f21) rfl rfl rfl (Nat.le_of_ble_eq_true rfl) (fun R k0 => ?_)
 refine zpq 13 rfl ?_
 refine jAq (α := Nat) (fun i => i ≤ t.nodes.length ∧ ∀ j x, j < i → t.nodes[j]? = some x → x.val.length ≤ 100) (fun i => [(5, .int .i64 (i : Int))]) [(1, _), (2, _), (4, _)] (fun i => t.nodes.length - i) (0) ⟨rfl, rfl, rfl, trivial⟩ (⟨Nat.zero_le _, fun j x h => by omega⟩) ⟨rfl, trivial⟩ (fun i hI => ?_)
 obtain ⟨hI, hJ⟩ := hI
 refine zpq 6 rfl ?_
 refine zwq (w' := .int .i64 (t.nodes.length : Int)) rfl rfl (by rw [← e]; rfl) ?_
 refine jqq rfl rfl (fun h1 => ?_) (fun h1 => ?_)
 ·have hi : i < t.nodes.length := by omega
  obtain ⟨x, hx⟩ : ∃ x, t.nodes[i]? = some x := ⟨_, List.getElem?_eq_getElem hi⟩
  have ex := zJq x.val
  refine zbq 3 rfl ?_
  refine qcq rfl rfl ?_
  refine zbq 3 rfl ?_
  refine zQq rfl (fun h2 => ?_) (fun h2 => ?_)
  ·refine zeq 9 rfl ?_
   refine zaq rfl (zIq (i := i) rfl rfl rfl rfl rfl rfl rfl (qlq nW hx)) ?_
   refine zbq 2 rfl ?_
   refine zwq (w' := .int .i64 (x.val.length : Int)) rfl rfl (by rw [← ex]; rfl) ?_
   refine zbq 3 rfl ?_
   refine zQq rfl (fun h3 => ?_) (fun h3 => ?_)
   ·refine zeq 8 rfl ?_
    refine yWq (by intro h; cases h) ?_
    refine z5q 2 rfl ?_
    exact zuq (.inr rfl) rfl (by rw [decide_eq_true (show uRq t m from .inr ⟨i, x, by omega, hx, by omega⟩)])
   ·refine zeq 5 rfl ?_
    refine zxq (i + 1) rfl rfl (by first | rfl | omega) ⟨by omega, by omega⟩ ?_
    refine qFq 2 rfl ?_
    exact yNq (i + 1) (⟨hi, fun j y hj hy => by rcases Nat.lt_succ_iff_lt_or_eq.1 hj with q | rfl; exact hJ j y q hy; have := Option.some.inj (hx.symm.trans hy); subst this; omega⟩) (by omega) ⟨rfl, trivial⟩ ⟨rfl, rfl, rfl, trivial⟩ (by repeat (first | exact trivial | refine ⟨by first | rfl | exact zdq (by first | rfl | (simp; done)), ?_⟩)) (by omega) (by repeat (first | exact z7q | refine yaq (by omega) ?_ | refine z8q (by omega) ?_ | refine z9q (by omega) ?_)) rfl
  ·refine zeq 2 rfl ?_
   refine yWq (by intro h; cases h) ?_
   refine z5q 6 rfl ?_
   refine zwq (w' := .int .i64 (t.nodes.length : Int)) rfl rfl (by rw [← e]; rfl) ?_
   refine zaq rfl rfl (qcq rfl rfl ?_)
   refine zbq 4 rfl ?_
   exact zuq (.inr rfl) rfl (by rw [decide_eq_true (show uRq t m from .inl (by omega))]; congr 1; exact decide_eq_true (show (m : Int) < (t.nodes.length : Int) by omega))
 ·refine zbq 10 rfl ?_
  refine yWq (by intro h; cases h) ?_
  refine z5q 6 rfl ?_
  refine zwq (w' := .int .i64 (t.nodes.length : Int)) rfl rfl (by rw [← e]; rfl) ?_
  refine zaq rfl rfl (qcq rfl rfl ?_)
  refine zbq 4 rfl ?_
  refine zuq (.inr rfl) rfl ?_
  congr 1
  refine decide_eq_decide.2 ⟨fun q => .inl (show m < t.nodes.length by have q : (m : Int) < (t.nodes.length : Int) := q; omega), ?_⟩
  rintro (q | ⟨j, x, _, hx, hq⟩)
  ·show (m : Int) < (t.nodes.length : Int)
   omega
  ·have := hJ j x (by have := (List.getElem?_eq_some_iff.1 hx).1; omega) hx
   omega
end Go.Proofs.YtgeelfdgnehdnaaDoor
namespace Go.Proofs.YtgeelfdgnehdnaaDoor
open Go.RowKit
set_option linter.unusedSimpArgs false
set_option linter.unusedVariables false
attribute [local irreducible] CoW OpW FlW Step Spec
variable {G : Nat → Option W}
def StA (w0 : W) (P : Tree → T → Prop) : W → HpW → Nat → Prop := fun w hp nw => ∃ t n t0, IsA t n t0 ∧ P t t0 ∧ w = w0 ∧ hp = [(0, 92, tW t)] ∧ nw = 1
theorem fin_st {k0 : Nat} {rs : List ResultVar} {x : Exit} {fr : FrW} {hp : HpW} {nw : Nat} {R : Res} {w0 : W} {P : Tree → T → Prop} {t : Tree} {n : Nat} {t0 : T} (fr2 : FrW) (hx : x = .normal ∨ x = .ret) (hf : subF fr fr2) (hr : fr2.all (fun p => refB 1 p.2) = true) (hn : 1 ≤ nw) (hh : hget hp 0 = some (92, tW t)) (ho : outW cfg fr2 [(0, 92, tW t)] rs = some w0) (h : IsA t n t0) (hP : P t t0) :
  QFin cfg G 1 k0 rs (fun w hp nw R' => R' = R ∧ StA w0 P w hp nw) x fr hp nw R :=
 fin hx (qeq (nw2 := 1) (hp2 := [(0, 92, tW t)]) (Nat.le_refl 1) hn hf hr (fun b x hb => by
  match b, hb with
  | 0, hb => cases hb; exact ⟨by omega, hh, zdq (xFq t)⟩
  | b + 1, hb => cases hb) (by simp)) ho ⟨rfl, t, n, t0, h, hP, rfl, rfl, rfl⟩
theorem kzq {o : Oper} {fr : FrW} {hp : HpW} {nw : Nat} {R : Res} {post : W → HpW → Nat → Res → Option EvW → Prop} {x : Operand} {xs : Array Operand} {ats : Array TypeId} {f : FuncId} {us : List W} {t : Tree} {w0 : W} {P : Tree → T → Prop} (j : Nat)
  (ho : o.op = .call ⟨.value x, xs, ats⟩) (hx : evW cfg G fr x = some (.fn f [] [])) (he : cfg.ext f = none) (hxs : evLW cfg G fr xs.toList = some (.ptr j 0 :: us)) (hpu : purL us = true) (hj : j < nw) (hw0 : purW w0 = true)
  (h0 : hget hp j = some (92, tW t)) (sp : y8q cfg G f 1 (.ptr 0 0 :: us) [(0, 92, tW t)] (StA w0 P))
  (hpost : ∀ t' n' t1, IsA t' n' t1 → P t' t1 → post w0 ((j, 92, tW t') :: delA [j] hp) nw R (some .dirty)) : Step cfg G o fr hp nw R post := by
 refine yCq (ext := [j]) (ws := .ptr 0 0 :: us) ho hx he hxs ?_ sp (by simp) ?_ (by simp) (handed1 (by rw [zhq (xFq t)]; exact h0) (zdq (xFq t))) ?_ ?_
 ·show .ptr j 0 :: (us ++ []) = W.ptr j 0 :: y6q (numC [j] nw) us
  rw [kkq hpu, List.append_nil]
 ·intro b hb
  simp only [List.mem_cons, List.not_mem_nil, or_false] at hb
  omega
 ·have h := zdq (m := 1) (w := .tup us) hpu
  have h : refL 1 us = true := h
  show (refB 1 (.ptr 0 0) && refL 1 us) = true
  rw [h]; rfl
 ·rintro w hp1 nw1 ⟨t', n', t1, h1, h2, rfl, rfl, rfl⟩
  have e : renH (numC [j] nw) [(0, 92, tW t')] = [(j, 92, tW t')] := by
   simp only [renH, zhq (xFq t')]; rfl
  have h := hpost t' n' t1 h1 h2
  rw [e, zhq hw0]
  exact h
theorem asked_s (t : Tree) (hb : t.nodes.length ≤ 4611686018427387903) : PS cfg G 54 [tW t] (.int .i64 (if MayA t then 0 else 8)) := by
 refine yqq (fn := Tryd.f54) rfl rfl rfl (Nat.le_of_ble_eq_true rfl) (fun R k0 => ?_)
 refine zpq 9 rfl ?_
 refine zjq rfl rfl rfl rfl rfl rfl (qVq t hb) ?_
 refine zbq 4 rfl ?_
 exact zuq (.inr rfl) rfl rfl
theorem full_s (t : Tree) (hb : t.nodes.length ≤ 4611686018427387903) : PS cfg G 47 [tW t] (.bool (decide (260944 < t.nodes.length))) := by
 have e : (t.nodes.map nW).length = t.nodes.length := List.length_map _
 refine yqq (fn := Tryd.f47) rfl rfl rfl (Nat.le_of_ble_eq_true rfl) (fun R k0 => ?_)
 refine zpq 10 rfl ?_
 refine zwq (w' := .int .i64 (t.nodes.length : Int)) rfl rfl (by rw [← e]; rfl) ?_
 refine qcq rfl rfl ?_
 refine zbq 4 rfl ?_
 exact zuq (.inr rfl) rfl (by congr 1; rw [decide_eq_decide]; omega)
def xNq (t : Tree) (m : Nat) (l : List Pr) : Tree → T → Prop := fun t' t1 => t1.all = l ∧ ∃ ms, t'.nodes = t.nodes ++ ms ∧ ms.length ≤ m
theorem turn_st (t : Tree) (n : Nat) (t0 : T) (k : Dig) (a : Acct) (h : IsA t n t0) (ha : a.ok) (hl : t.nodes.length ≤ 261844) : y8q cfg G 48 1 [.ptr 0 0, dW k, aW a] [(0, 92, tW t)] (StA (.tup []) (xNq t 257 (setL t0.all k a))) := by
 intro R
 refine zZq (fn := Tryd.f48) rfl rfl rfl (Nat.le_of_ble_eq_true rfl) (fun k0 => ?_)
 refine zpq 14 rfl ?_
 (refine yBq rfl (jpq rfl rfl rfl rfl rfl (aset_s t n t0 k a h ha hl) (by simp) ?_); rintro w hw ⟨t', n', t1, ht', hall, hx, rfl⟩; refine ⟨by first | rfl | kernel_rfl, ?_⟩)
 refine zSq 14 rfl ?_
 refine zQq rfl (fun h1 => ?_) (fun h1 => ?_)
 ·refine zpq 7 rfl ?_
  exact fin_st [] (.inl rfl) trivial rfl (by omega) rfl rfl ht' ⟨hall, hx⟩
 ·exfalso; omega
theorem readA_ok (l : List UInt8) : (q5q l).1.ok := by
 unfold q5q
 split
 ·exact ⟨Nat.zero_lt_succ _, Nat.zero_lt_succ _⟩
 ·split
  ·exact ⟨Nat.zero_lt_succ _, Nat.zero_lt_succ _⟩
  ·split
   ·exact ⟨Nat.zero_lt_succ _, Nat.zero_lt_succ _⟩
   ·have h1 := Zpq (l.take 8)
    have h2 := Zpq (l.drop 8)
    rw [show (l.take 8).length = 8 by rw [List.length_take]; omega] at h1
    rw [show (l.drop 8).length = 8 by rw [List.length_drop]; omega] at h2
    exact ⟨h1, h2⟩
theorem Z7q (t0 : T) (k : Dig) : (yzq t0 k).ok := by
 unfold yzq
 split
 ·exact ⟨Nat.zero_lt_succ _, Nat.zero_lt_succ _⟩
 ·exact readA_ok _
theorem more_no (t : Tree) (n : Nat) (t0 : T) (k : Dig) (c : Nat) (h : IsA t n t0) (hc : c < 18446744073709551616) (ho : 18446744073709551616 ≤ (yzq t0 k).balance + c) : y8q cfg G 51 1 [.ptr 0 0, dW k, .int .u64 (c : Int)] [(0, 92, tW t)] (StA (.bool false) (xNq t 257 t0.all)) := by
 intro R
 have hA := (Z7q t0 k).2
 refine zZq (fn := Tryd.f51) rfl rfl rfl (Nat.le_of_ble_eq_true rfl) (fun k0 => ?_)
 refine zpq 13 rfl ?_
 refine xeq rfl rfl rfl rfl rfl rfl (Z6q t n t0 h k) ?_
 refine zSq 13 rfl ?_
 (refine zrq rfl (jEq (a := (yzq t0 k).balance) (b := c) rfl rfl rfl rfl ?_))
 refine zbq 2 rfl ?_
 refine zwq (w' := .int .u64 ((1 : Nat) : Int)) rfl rfl (congrArg (fun q : Nat => W.int .u64 (q : Int)) (by omega)) ?_
 refine zbq 11 rfl ?_
 refine zQq rfl (fun h1 => ?_) (fun h1 => ?_)
 ·refine zeq 7 rfl ?_
  exact fin_st [(6, .bool false)] (.inr rfl) ⟨rfl, trivial⟩ rfl (by omega) rfl rfl h ⟨rfl, [], by simp, by simp⟩
 ·exfalso; omega
theorem more_st (t : Tree) (n : Nat) (t0 : T) (k : Dig) (c : Nat) (h : IsA t n t0) (ho : (yzq t0 k).balance + c < 18446744073709551616) (hl : t.nodes.length ≤ 261844) : y8q cfg G 51 1 [.ptr 0 0, dW k, .int .u64 (c : Int)] [(0, 92, tW t)] (StA (.bool true) (xNq t 257 (setL t0.all k ⟨(yzq t0 k).nonce, (yzq t0 k).balance + c⟩))) := by
 intro R
 have hA := (Z7q t0 k).1
 refine zZq (fn := Tryd.f51) rfl rfl rfl (Nat.le_of_ble_eq_true rfl) (fun k0 => ?_)
 refine zpq 13 rfl ?_
 refine xeq rfl rfl rfl rfl rfl rfl (Z6q t n t0 h k) ?_
 refine zSq 13 rfl ?_
 (refine zrq rfl (jEq (a := (yzq t0 k).balance) (b := c) rfl rfl rfl rfl ?_))
 refine zaq rfl rfl (zwq (w' := .int .u64 (((yzq t0 k).balance + c : Nat) : Int)) rfl rfl (congrArg (fun q : Nat => W.int .u64 (q : Int)) (by omega)) ?_)
 refine zwq (w' := .int .u64 ((0 : Nat) : Int)) rfl rfl (congrArg (fun q : Nat => W.int .u64 (q : Int)) (by omega)) ?_
 refine zbq 11 rfl ?_
 refine zQq rfl (fun h1 => ?_) (fun h1 => ?_)
 ·exfalso; omega
 ·refine zeq 14 rfl ?_
  (refine zrq rfl (kzq 0 rfl rfl rfl rfl (by simp) (by show 0 < 3; omega) rfl rfl (turn_st t n t0 k ⟨(yzq t0 k).nonce, (yzq t0 k).balance + c⟩ h ⟨hA, ho⟩ hl) ?_); rintro t' n' t1 h' hP)
  refine zbq 8 rfl ?_
  exact fin_st [(6, .bool true)] (.inr rfl) ⟨rfl, trivial⟩ rfl (by omega) rfl rfl h' hP
theorem twinp_s (t : Tree) (hl : t.nodes.length ≤ 1000000000) (hv : ∀ x ∈ t.nodes, x.val.length ≤ 70368744177664) : PS cfg G 39 [tW t] (tW t) := fun R =>
 spec_view (u4q (twin_s t.nodes t.root hl hv) (Q := fun w hp _ => View (blkA hp) w (tW t)) (fun w hp nw h => by
  rcases h with ⟨hn, rfl, rfl, rfl⟩ | ⟨rfl, rfl, rfl⟩
  ·refine .agg (.cons ?_ (.cons (.pur rfl) .nil))
   rw [hn]
   exact .nilfz
  ·exact uWq (b := 2) (ns := t.nodes) (root := t.root) rfl) R)
end Go.Proofs.YtgeelfdgnehdnaaDoor
namespace Go.Proofs.YtgeelfdgnehdnaaDoor
open Go.RowKit
set_option linter.unusedSimpArgs false
set_option linter.unusedVariables false
attribute [local irreducible] CoW OpW FlW Step Spec
variable {G : Nat → Option W}
structure Depo where
 number : Nat
 to : Dig
 amount : Nat
noncomputable def pdW (d : Depo) : W := .agg 34 [.int .u64 (d.number : Int), dW d.to, .int .u64 (d.amount : Int)]
@[simp] theorem pdW_pur (d : Depo) : purW (pdW d) = true := by simp [pdW]
def overB (t0 : T) (d : Depo) : Prop := 18446744073709551616 ≤ (yzq t0 d.to).balance + d.amount
instance (t0 : T) (d : Depo) : Decidable (overB t0 d) := inferInstanceAs (Decidable (_ ≤ _))
noncomputable def givL (t0 : T) (d : Depo) : List Pr := if overB t0 d then t0.all else setL t0.all d.to ⟨(yzq t0 d.to).nonce, (yzq t0 d.to).balance + d.amount⟩
def givC (t0 : T) (d : Depo) : Nat := if overB t0 d then 151 else 0
def GivA (t : Tree) (t0 : T) (d : Depo) : W → Prop := fun w => ∃ t' n' t1, IsA t' n' t1 ∧ xNq t 257 (givL t0 d) t' t1 ∧ w = .tup [tW t', .int .i64 (givC t0 d : Nat), .int .i64 0]
theorem give_s (t : Tree) (n : Nat) (t0 : T) (d : Depo) (h : IsA t n t0) (hd : d.amount < 18446744073709551616) (hl : t.nodes.length ≤ 260944) : PE cfg G 27 [tW t, pdW d] (GivA t t0 d) := by
 have yes : MayA t := ⟨n, t0, h⟩
 have hvals : ∀ x ∈ t.nodes, x.val.length ≤ 70368744177664 := IsT.vals (root := t.root) h.toIsT
 by_cases ho : overB t0 d
 ·skip
  refine uvq (fn := Tryd.f27) rfl rfl rfl (Nat.le_of_ble_eq_true rfl) (fun R k0 => ?_)
  refine zpq 14 rfl ?_
  refine zjq rfl rfl rfl rfl rfl rfl (y7q (w' := .int .i64 0) (asked_s t (by omega)) (by rw [if_pos yes])) ?_
  refine qcq rfl rfl ?_
  refine zbq 7 rfl ?_
  refine zjq rfl rfl rfl rfl rfl rfl (y7q (w' := .bool false) (full_s t (by omega)) (by rw [decide_eq_false (by omega)])) ?_
  refine zbq 10 rfl ?_
  refine zjq rfl rfl rfl rfl rfl rfl (twinp_s t (by omega) hvals) ?_
  refine zbq 13 rfl ?_
  (refine zrq rfl (kzq 3 rfl rfl rfl rfl (by simp) (by show 3 < 4; omega) rfl rfl (more_no t n t0 d.to d.amount h hd ho) ?_); rintro t' n' t1 h' hP)
  refine zbq 17 rfl ?_
  refine jMq (w' := .tup [tW t', .int .i64 151, .int .i64 0]) (.inr rfl) rfl (.pur (by simp)) (by simp) ⟨t', n', t1, h', ?_, ?_⟩
  ·unfold givL; rw [if_pos ho]; exact hP
  ·unfold givC; rw [if_pos ho]; rfl
 ·have ho' : (yzq t0 d.to).balance + d.amount < 18446744073709551616 := Nat.lt_of_not_le ho
  refine uvq (fn := Tryd.f27) rfl rfl rfl (Nat.le_of_ble_eq_true rfl) (fun R k0 => ?_)
  refine zpq 14 rfl ?_
  refine zjq rfl rfl rfl rfl rfl rfl (y7q (w' := .int .i64 0) (asked_s t (by omega)) (by rw [if_pos yes])) ?_
  refine qcq rfl rfl ?_
  refine zbq 7 rfl ?_
  refine zjq rfl rfl rfl rfl rfl rfl (y7q (w' := .bool false) (full_s t (by omega)) (by rw [decide_eq_false (by omega)])) ?_
  refine zbq 10 rfl ?_
  refine zjq rfl rfl rfl rfl rfl rfl (twinp_s t (by omega) hvals) ?_
  refine zbq 13 rfl ?_
  (refine zrq rfl (kzq 3 rfl rfl rfl rfl (by simp) (by show 3 < 4; omega) rfl rfl (more_st t n t0 d.to d.amount h ho' (by omega)) ?_); rintro t' n' t1 h' hP)
  refine zbq 18 rfl ?_
  refine jMq (w' := .tup [tW t', .int .i64 0, .int .i64 0]) (.inr rfl) rfl (.pur (by simp)) (by simp) ⟨t', n', t1, h', ?_, ?_⟩
  ·unfold givL; rw [if_neg ho]; exact hP
  ·unfold givC; rw [if_neg ho]; rfl
end Go.Proofs.YtgeelfdgnehdnaaDoor
namespace Go.Proofs.YtgeelfdgnehdnaaDoor
open Go.RowKit
set_option linter.unusedSimpArgs false
set_option linter.unusedVariables false
noncomputable def rotN (x n : Nat) : Nat := Nat.lor (Nat.shiftLeft x (32 - n) % 4294967296 % 4294967296) (Nat.shiftRight x n % 4294967296)
noncomputable def addN (a b : Nat) : Nat := (a + b) % 4294967296
noncomputable def xorN (a b : Nat) : Nat := Nat.xor (a % 4294967296) (b % 4294967296)
noncomputable def andN (a b : Nat) : Nat := Nat.land (a % 4294967296) (b % 4294967296)
noncomputable def shrN (a k : Nat) : Nat := Nat.shiftRight a (min k 32)
noncomputable def shlN (a k : Nat) : Nat := Nat.shiftLeft a (min k 32) % 4294967296
noncomputable def orN (a b : Nat) : Nat := Nat.lor (a % 4294967296) (b % 4294967296)
noncomputable def notN (a : Nat) : Nat := Nat.xor (4294967295 % 4294967296) (a % 4294967296)
noncomputable def wd (x : Nat) : W := .int .u32 (.ofNat x)
theorem jfq (n : Nat) (hn : n = 2 ∨ n = 6 ∨ n = 7 ∨ n = 11 ∨ n = 13 ∨ n = 17 ∨ n = 18 ∨ n = 19 ∨ n = 22 ∨ n = 25) (G : Nat → Option W) (x : Nat) : y8q cfg G 77 0 [wd x, .int .i64 (.ofNat n)] [] fun w hp nw => w = wd (rotN x n) ∧ hp = [] ∧ nw = 0 := by
 have key : ∀ h, qrq cfg 20 77 [.int .u32 (.ofNat x), .int .i64 (.ofNat n)] h = some (.int .u32 (.ofNat (rotN x n)), h) := by
  intro h
  rcases hn with rfl | rfl | rfl | rfl | rfl | rfl | rfl | rfl | rfl | rfl <;> kernel_rfl
 refine spec_run key (fun Γ us h => ?_) (fun Γ => RV_int.2 rfl)
 obtain ⟨v, vs, rfl, h1, h2⟩ := RVL_cons.1 h
 obtain ⟨v', vs', rfl, h3, h4⟩ := RVL_cons.1 h2
 rw [RVL_nil.1 h4, RV_int.1 h1, RV_int.1 h3]
end Go.Proofs.YtgeelfdgnehdnaaDoor
namespace Go.Proofs.YtgeelfdgnehdnaaDoor
open Go.RowKit
set_option linter.unusedSimpArgs false
set_option linter.unusedVariables false
attribute [local irreducible] CoW OpW FlW Step Spec
noncomputable def wordN (b0 b1 b2 b3 : Nat) : Nat := orN (orN (orN (shlN (b0 % 4294967296) 24) (shlN (b1 % 4294967296) 16)) (shlN (b2 % 4294967296) 8)) (b3 % 4294967296)
noncomputable def nextW (bs : Nat → Nat) (l : List Nat) : Nat := match Nat.blt l.length 16 with
 | true => wordN (bs (4 * l.length)) (bs (4 * l.length + 1)) (bs (4 * l.length + 2)) (bs (4 * l.length + 3))
 | false => addN (addN (addN (l.getD (l.length - 16) 0) (xorN (xorN (rotN (l.getD (l.length - 15) 0) 7) (rotN (l.getD (l.length - 15) 0) 18)) (shrN (l.getD (l.length - 15) 0) 3))) (l.getD (l.length - 7) 0)) (xorN (xorN (rotN (l.getD (l.length - 2) 0) 17) (rotN (l.getD (l.length - 2) 0) 19)) (shrN (l.getD (l.length - 2) 0) 10))
noncomputable def ySq (bs : Nat → Nat) : Nat → List Nat
 | 0 => []
 | t + 1 => ySq bs t ++ [nextW bs (ySq bs t)]
theorem qkq (bs : Nat → Nat) : ∀ t, (ySq bs t).length = t
 | 0 => rfl
 | t + 1 => by simp [ySq, qkq bs t]
theorem Qnq {l : List Nat} {i : Nat} (h : i < l.length) : (l.map wd)[i]? = some (wd (l.getD i 0)) := by
 simp [List.getElem?_map, List.getElem?_eq_getElem h, List.getD]
noncomputable def kW : List Nat := [1116352408, 1899447441, 3049323471, 3921009573, 961987163, 1508970993, 2453635748, 2870763221, 3624381080, 310598401, 607225278, 1426881987, 1925078388, 2162078206, 2614888103, 3248222580, 3835390401, 4022224774, 264347078, 604807628, 770255983, 1249150122, 1555081692, 1996064986, 2554220882, 2821834349, 2952996808, 3210313671, 3336571891, 3584528711, 113926993, 338241895, 666307205, 773529912, 1294757372, 1396182291, 1695183700, 1986661051, 2177026350, 2456956037, 2730485921, 2820302411, 3259730800, 3345764771, 3516065817, 3600352804, 4094571909, 275423344, 430227734, 506948616, 659060556, 883997877, 958139571, 1322822218, 1537002063, 1747873779, 1955562222, 2024104815, 2227730452, 2361852424, 2428436474, 2756734187, 3204031479, 3329325298]
noncomputable def glK : Nat → Option W := fun g => match g with
 | 0 => some (.arr 64 1 (kW.map wd))
 | _ => none
noncomputable def pad0 (l : List Nat) (n : Nat) : List Nat := l ++ List.replicate (n - l.length) 0
theorem pad0_at {l : List Nat} {n i : Nat} (h : i < l.length) : ((pad0 l n).map wd)[i]? = some (wd (l.getD i 0)) := by
 have : i < (pad0 l n).length := by simp [pad0]; omega
 rw [Qnq this]
 simp [pad0, List.getD, List.getElem?_append, h]
theorem pad0_ge {l : List Nat} {n : Nat} (h : l.length < n) : ((pad0 l n).map wd)[l.length]? = some (wd 0) := by
 have : l.length < (pad0 l n).length := by simp [pad0]; omega
 rw [Qnq this]
 simp [pad0, List.getD, List.getElem?_append, List.getElem?_replicate, show 0 < n - l.length by omega]
theorem pad0_set {l : List Nat} {n x : Nat} (h : l.length < n) : ((pad0 l n).map wd).set l.length (wd x) = (pad0 (l ++ [x]) n).map wd := by
 rw [← List.map_set]
 congr 1
 unfold pad0
 rw [List.set_append_right _ _ (Nat.le_refl _)]
 have : n - l.length = (n - (l ++ [x]).length) + 1 := by simp; omega
 rw [this, Nat.sub_self, List.replicate_succ, List.set_cons_zero, List.append_assoc]
 rfl
structure S8 where
 (a b c d e f g h : Nat)
noncomputable def S8.l (s : S8) : List W := [wd s.a, wd s.b, wd s.c, wd s.d, wd s.e, wd s.f, wd s.g, wd s.h]
noncomputable def roundN (k w : Nat) (v : S8) : S8 :=
 let one := addN (addN (addN (addN v.h (xorN (xorN (rotN v.e 6) (rotN v.e 11)) (rotN v.e 25))) (xorN (andN v.e v.f) (andN (notN v.e) v.g))) k) w
 let two := addN (xorN (xorN (rotN v.a 2) (rotN v.a 13)) (rotN v.a 22)) (xorN (xorN (andN v.a v.b) (andN v.a v.c)) (andN v.b v.c))
 ⟨addN one two, v.a, v.b, v.c, addN v.d one, v.e, v.f, v.g⟩
noncomputable def kiq (ws : List Nat) (s : S8) : Nat → S8
 | 0 => s
 | t + 1 => roundN (kW.getD t 0) (ws.getD t 0) (kiq ws s t)
noncomputable def add8 (s v : S8) : S8 := ⟨addN s.a v.a, addN s.b v.b, addN s.c v.c, addN s.d v.d, addN s.e v.e, addN s.f v.f, addN s.g v.g, addN s.h v.h⟩
noncomputable def jRq (bs : Nat → Nat) (s : S8) : S8 := add8 s (kiq (ySq bs 64) s 64)
noncomputable def mix8 (s v : S8) : Nat → List W
 | 0 => s.l
 | 1 => [wd (addN s.a v.a), wd s.b, wd s.c, wd s.d, wd s.e, wd s.f, wd s.g, wd s.h]
 | 2 => [wd (addN s.a v.a), wd (addN s.b v.b), wd s.c, wd s.d, wd s.e, wd s.f, wd s.g, wd s.h]
 | 3 => [wd (addN s.a v.a), wd (addN s.b v.b), wd (addN s.c v.c), wd s.d, wd s.e, wd s.f, wd s.g, wd s.h]
 | 4 => [wd (addN s.a v.a), wd (addN s.b v.b), wd (addN s.c v.c), wd (addN s.d v.d), wd s.e, wd s.f, wd s.g, wd s.h]
 | 5 => [wd (addN s.a v.a), wd (addN s.b v.b), wd (addN s.c v.c), wd (addN s.d v.d), wd (addN s.e v.e), wd s.f, wd s.g, wd s.h]
 | 6 => [wd (addN s.a v.a), wd (addN s.b v.b), wd (addN s.c v.c), wd (addN s.d v.d), wd (addN s.e v.e), wd (addN s.f v.f), wd s.g, wd s.h]
 | 7 => [wd (addN s.a v.a), wd (addN s.b v.b), wd (addN s.c v.c), wd (addN s.d v.d), wd (addN s.e v.e), wd (addN s.f v.f), wd (addN s.g v.g), wd s.h]
 | _ => (add8 s v).l
theorem kW_len : kW.length = 64 := rfl
set_option maxHeartbeats 1600000 in
theorem block_s (s : S8) (bs : Nat → Nat) (c : W) (base off : Nat) (lim : Option Nat) (ty : TypeId) (hc : refB 2 c = true) (hby : ∀ i, i < 64 → ygq 50 c (off + i * 1) 1 false = some (.int .u8 (.ofNat (bs i)))) (R : Res) :
  Spec cfg glK 65 2 [.ptr 0 0, .sl 1 base off 64 1 lim] [(0, 116, .arr 8 1 s.l), (1, ty, c)] R fun w hp nw R' => R' = R ∧ w = .tup [] ∧ hp = [(0, 116, .arr 8 1 (jRq bs s).l), (1, ty, c)] ∧ nw = 2 := by
 refine zZq (fn := Tryd.f65) rfl rfl rfl (Nat.le_of_ble_eq_true rfl) (fun k0 => ?_)
 refine zFq (zkq (zvq rfl rfl (zPq ?_)))
 refine z2q (zFq (zFq (zkq (zaq rfl rfl (zPq ?_)))))
 refine z2q (yiq ?_)
 refine quq (fun t : Nat => t ≤ 64) (fun t => [(19, .int .i64 (t : Int)), (4, .ptr 2 0), (1, .sl 1 base off 64 1 lim), (0, .ptr 0 0)]) (fun t => [(2, 133, .arr 64 1 ((pad0 (ySq bs t) 64).map wd)), (0, 116, .arr 8 1 s.l), (1, ty, c)]) (fun _ => 3) (fun _ => R) (fun t => 64 - t) 0 (Nat.zero_le _) ?_ (fun t ht => ?_)
 ·exact yhq ⟨rfl, rfl, rfl, rfl, trivial⟩ rfl rfl
 have hl := qkq bs t
 refine zFq (zkq (zaq rfl rfl (zPq ?_)))
 refine z2q (zFq ?_)
 refine jaq rfl (fun hc1 => ?_) (fun hc1 => ?_)
 ·have ht1 : t < 64 := by have := ltI_iff.1 hc1; omega
  have h0 : ((pad0 (ySq bs t) 64).map wd)[0 + t * 1]? = some (wd 0) := by
   have := pad0_ge (l := ySq bs t) (n := 64) (by omega)
   rw [hl] at this; simpa using this
  have key : ∀ x, nextW bs (ySq bs t) = x → ((pad0 (ySq bs t) 64).map wd).set (0 + t * 1) (wd x) = (pad0 (ySq bs (t + 1)) 64).map wd := fun x hx => by
   have := pad0_set (l := ySq bs t) (n := 64) (x := x) (by omega)
   rw [hl] at this
   rw [Nat.zero_add, Nat.mul_one, this, ySq, hx]
  refine qfq (z2q (zFq (yiq (zFq (zkq (zaq rfl rfl (zaq rfl rfl (zPq ?_))))))))
  refine z2q (zFq (zFq (zkq (zaq rfl rfl (zaq rfl rfl (zPq ?_))))))
  refine z2q ?_
  refine jaq rfl (fun hc2 => ?_) (fun hc2 => ?_)
  ·have ht2 : t < 16 := by have := ltI_iff.1 hc2; omega
   refine zFq (qUq (zcq rfl rfl (zcq rfl rfl (zcq rfl rfl ?_))))
   first | refine yJq rfl rfl ⟨by omega, by omega⟩ ?_ | refine zcq rfl rfl ?_
   refine zcq rfl (zDq (i := 4 * t) rfl rfl rfl rfl rfl rfl rfl (by omega)) ?_
   refine qzq rfl (yIq rfl rfl rfl (hby _ (by omega))) (by first | rfl | kernel_rfl) ?_
   first | refine yJq rfl rfl ⟨by omega, by omega⟩ ?_ | refine zcq rfl rfl ?_
   refine zcq rfl rfl (zcq rfl rfl (zcq rfl rfl ?_))
   first | refine yJq rfl rfl ⟨by omega, by omega⟩ ?_ | refine zcq rfl rfl ?_
   first | refine yJq rfl rfl ⟨by omega, by omega⟩ ?_ | refine zcq rfl rfl ?_
   refine zcq rfl (zDq (i := 4 * t + 1) rfl rfl rfl rfl rfl rfl rfl (by omega)) ?_
   refine qzq rfl (yIq rfl rfl rfl (hby _ (by omega))) (by first | rfl | kernel_rfl) ?_
   first | refine yJq rfl rfl ⟨by omega, by omega⟩ ?_ | refine zcq rfl rfl ?_
   refine zcq rfl rfl (zcq rfl rfl (zcq rfl rfl (zcq rfl rfl ?_)))
   first | refine yJq rfl rfl ⟨by omega, by omega⟩ ?_ | refine zcq rfl rfl ?_
   first | refine yJq rfl rfl ⟨by omega, by omega⟩ ?_ | refine zcq rfl rfl ?_
   refine zcq rfl (zDq (i := 4 * t + 2) rfl rfl rfl rfl rfl rfl rfl (by omega)) ?_
   refine qzq rfl (yIq rfl rfl rfl (hby _ (by omega))) (by first | rfl | kernel_rfl) ?_
   first | refine yJq rfl rfl ⟨by omega, by omega⟩ ?_ | refine zcq rfl rfl ?_
   refine zcq rfl rfl (zcq rfl rfl (zcq rfl rfl (zcq rfl rfl ?_)))
   first | refine yJq rfl rfl ⟨by omega, by omega⟩ ?_ | refine zcq rfl rfl ?_
   first | refine yJq rfl rfl ⟨by omega, by omega⟩ ?_ | refine zcq rfl rfl ?_
   refine zcq rfl (zDq (i := 4 * t + 3) rfl rfl rfl rfl rfl rfl rfl (by omega)) ?_
   refine qzq rfl (yIq rfl rfl rfl (hby _ (by omega))) (by first | rfl | kernel_rfl) ?_
   first | refine yJq rfl rfl ⟨by omega, by omega⟩ ?_ | refine zcq rfl rfl ?_
   refine zcq rfl rfl (zcq rfl (ztq (i := t) rfl rfl rfl rfl rfl rfl (by omega)) ?_)
   refine qzq rfl (v5q rfl rfl rfl rfl rfl (xtq h0 rfl rfl) rfl) (by first | rfl | kernel_rfl) ?_
   refine j0q ?_
   refine z2q (jtq ?_)
   refine k0q (by intro h; cases h) ?_
   refine vEq (z2q (zkq ?_))
   first | refine yxq rfl rfl ⟨by omega, by omega⟩ ?_ | refine zaq rfl rfl ?_
   refine zaq rfl rfl (zPq ?_)
   refine yGq (t + 1) (by omega) (by omega) (yhq ⟨rfl, rfl, rfl, rfl, trivial⟩ (congrArg (fun L => [(2, 133, W.arr 64 1 L), (0, 116, .arr 8 1 s.l), (1, ty, c)]) (key (wordN (bs (4 * t)) (bs (4 * t + 1)) (bs (4 * t + 2)) (bs (4 * t + 3))) ?_)) rfl)
   have hb : Nat.blt (ySq bs t).length 16 = true := by rw [hl]; simpa [Nat.blt_eq] using ht2
   unfold nextW
   rw [hb]
   simp only [hl]
  ·have ht2 : ¬ t < 16 := by have := ltI_not.1 hc2; omega
   have hA : ∀ k, k < t → ((pad0 (ySq bs t) 64).map wd)[0 + k * 1]? = some (wd ((ySq bs t).getD k 0)) := fun k hk => by
    rw [Nat.zero_add, Nat.mul_one]; exact pad0_at (by omega)
   refine qfq (z2q (zFq (qUq (zcq rfl rfl (qTq (t - 15) rfl rfl (by first | rfl | omega) ⟨by omega, by omega⟩ ?_)))))
   refine zcq rfl (ztq (i := t - 15) rfl rfl rfl rfl rfl rfl (by omega)) ?_
   refine qzq rfl (yIq rfl rfl rfl (jhq (hA (t - 15) (by omega)) rfl)) (by first | rfl | kernel_rfl) ?_
   refine zcq rfl rfl (qTq (t - 2) rfl rfl (by first | rfl | omega) ⟨by omega, by omega⟩ ?_)
   refine zcq rfl (ztq (i := t - 2) rfl rfl rfl rfl rfl rfl (by omega)) ?_
   refine qzq rfl (yIq rfl rfl rfl (jhq (hA (t - 2) (by omega)) rfl)) (by first | rfl | kernel_rfl) ?_
   refine zcq rfl rfl (zcq rfl rfl (j0q ?_))
   refine z2q (qUq (zcq rfl rfl (zcq rfl rfl (qTq (t - 16) rfl rfl (by first | rfl | omega) ⟨by omega, by omega⟩ ?_))))
   refine zcq rfl (ztq (i := t - 16) rfl rfl rfl rfl rfl rfl (by omega)) ?_
   refine qzq rfl (yIq rfl rfl rfl (jhq (hA (t - 16) (by omega)) rfl)) (by first | rfl | kernel_rfl) ?_
   refine zcq rfl rfl ?_
   (refine yBq rfl (yUq rfl rfl rfl rfl (jfq _ (by decide) _ _) rfl ?_); rintro w hp1 nw1 ⟨rfl, rfl, rfl⟩; first | refine ⟨rfl, rfl, ?_⟩ | refine ⟨rfl, ?_⟩)
   refine zcq rfl rfl ?_
   (refine yBq rfl (yUq rfl rfl rfl rfl (jfq _ (by decide) _ _) rfl ?_); rintro w hp1 nw1 ⟨rfl, rfl, rfl⟩; first | refine ⟨rfl, rfl, ?_⟩ | refine ⟨rfl, ?_⟩)
   refine zcq rfl rfl (zcq rfl rfl (zcq rfl rfl (zcq rfl rfl ?_)))
   first | refine yJq rfl rfl ⟨by omega, by omega⟩ ?_ | refine zcq rfl rfl ?_
   refine zcq rfl rfl (qTq (t - 7) rfl rfl (by first | rfl | omega) ⟨by omega, by omega⟩ ?_)
   refine zcq rfl (ztq (i := t - 7) rfl rfl rfl rfl rfl rfl (by omega)) ?_
   refine qzq rfl (yIq rfl rfl rfl (jhq (hA (t - 7) (by omega)) rfl)) (by first | rfl | kernel_rfl) ?_
   first | refine yJq rfl rfl ⟨by omega, by omega⟩ ?_ | refine zcq rfl rfl ?_
   refine zcq rfl rfl ?_
   (refine yBq rfl (yUq rfl rfl rfl rfl (jfq _ (by decide) _ _) rfl ?_); rintro w hp1 nw1 ⟨rfl, rfl, rfl⟩; first | refine ⟨rfl, rfl, ?_⟩ | refine ⟨rfl, ?_⟩)
   refine zcq rfl rfl ?_
   (refine yBq rfl (yUq rfl rfl rfl rfl (jfq _ (by decide) _ _) rfl ?_); rintro w hp1 nw1 ⟨rfl, rfl, rfl⟩; first | refine ⟨rfl, rfl, ?_⟩ | refine ⟨rfl, ?_⟩)
   refine zcq rfl rfl (zcq rfl rfl (zcq rfl rfl (zcq rfl rfl ?_)))
   first | refine yJq rfl rfl ⟨by omega, by omega⟩ ?_ | refine zcq rfl rfl ?_
   refine zcq rfl (ztq (i := t) rfl rfl rfl rfl rfl rfl (by omega)) ?_
   refine qzq rfl (v5q rfl rfl rfl rfl rfl (xtq h0 rfl rfl) rfl) (by first | rfl | kernel_rfl) ?_
   refine j0q ?_
   refine qYq (by intro i h; cases h) ?_
   refine z2q (zkq ?_)
   first | refine yxq rfl rfl ⟨by omega, by omega⟩ ?_ | refine zaq rfl rfl ?_
   refine zaq rfl rfl (zPq ?_)
   refine yGq (t + 1) (by omega) (by omega) (yhq ⟨rfl, rfl, rfl, rfl, trivial⟩ (congrArg (fun L => [(2, 133, W.arr 64 1 L), (0, 116, .arr 8 1 s.l), (1, ty, c)]) (key (addN (addN (addN ((ySq bs t).getD (t - 16) 0) (xorN (xorN (rotN ((ySq bs t).getD (t - 15) 0) 7) (rotN ((ySq bs t).getD (t - 15) 0) 18)) (shrN ((ySq bs t).getD (t - 15) 0) 3))) ((ySq bs t).getD (t - 7) 0)) (xorN (xorN (rotN ((ySq bs t).getD (t - 2) 0) 17) (rotN ((ySq bs t).getD (t - 2) 0) 19)) (shrN ((ySq bs t).getD (t - 2) 0) 10))) ?_)) rfl)
   have hb : Nat.blt (ySq bs t).length 16 = false := by
    cases hq : Nat.blt (ySq bs t).length 16 with
    | true => exact absurd (blt_t hq) (by omega)
    | false => rfl
   unfold nextW
   rw [hb]
   simp only [hl]
 ·obtain rfl : t = 64 := by have := ltI_not.1 hc1; omega
  have hS : (pad0 (ySq bs 64) 64) = ySq bs 64 := by
   unfold pad0; rw [hl]; simp
  simp only [hS]
  refine jtq ?_
  refine k0q (by intro h; cases h) ?_
  refine j8q (by intro h; cases h) ?_
  refine vEq (z2q (zFq (zkq (zaq rfl rfl (zaq rfl rfl (zvq rfl rfl (zvq rfl rfl (zvq rfl rfl (zPq ?_)))))))))
  refine z2q (zFq (zFq (zkq (zaq rfl rfl (zPq ?_)))))
  refine z2q (yiq ?_)
  refine quq (fun t : Nat => t ≤ 64) (fun t => [(100, .int .i64 (t : Int)), (8, .ptr 3 0), (4, .ptr 2 0), (0, .ptr 0 0)]) (fun t => [(3, 116, .arr 8 1 (kiq (ySq bs 64) s t).l), (2, 133, .arr 64 1 ((ySq bs 64).map wd)), (0, 116, .arr 8 1 s.l), (1, ty, c)]) (fun _ => 4) (fun _ => R) (fun t => 64 - t) 0 (Nat.zero_le _) ?_ (fun t ht => ?_)
  ·exact yhq ⟨rfl, rfl, rfl, rfl, trivial⟩ rfl rfl
  refine zFq (zkq (zaq rfl rfl (zPq ?_)))
  refine z2q (zFq ?_)
  refine jaq rfl (fun hc3 => ?_) (fun hc3 => ?_)
  ·have ht1 : t < 64 := by have := ltI_iff.1 hc3; omega
   have hK : ygq 50 (.arr 64 1 (kW.map wd)) (t * 1) 1 false = some (wd (kW.getD t 0)) := jhq (by rw [Nat.mul_one]; exact Qnq (by rw [kW_len]; exact ht1)) rfl
   have hW : ygq 50 (.arr 64 1 ((ySq bs 64).map wd)) (0 + t * 1) 1 false = some (wd ((ySq bs 64).getD t 0)) := jhq (by rw [Nat.zero_add, Nat.mul_one]; exact Qnq (by omega)) rfl
   refine qfq (z2q (zFq (yiq (zFq (zkq (zaq rfl rfl (zaq rfl rfl (zPq ?_))))))))
   refine z2q (zFq (qUq ?_))
   first | refine zcq rfl rfl ?_ | refine zcq rfl (zDq rfl rfl rfl rfl rfl rfl rfl (by omega)) ?_ | refine zcq rfl (ztq rfl rfl rfl rfl rfl rfl (by omega)) ?_ | refine zcq rfl (zIq rfl rfl rfl rfl rfl rfl rfl (by first | assumption | (simp; done))) ?_
   refine yTq rfl rfl ?_
   first | refine zcq rfl rfl ?_ | refine zcq rfl (zDq rfl rfl rfl rfl rfl rfl rfl (by omega)) ?_ | refine zcq rfl (ztq rfl rfl rfl rfl rfl rfl (by omega)) ?_ | refine zcq rfl (zIq rfl rfl rfl rfl rfl rfl rfl (by first | assumption | (simp; done))) ?_
   refine yTq rfl rfl ?_
   first | refine zcq rfl rfl ?_ | refine zcq rfl (zDq rfl rfl rfl rfl rfl rfl rfl (by omega)) ?_ | refine zcq rfl (ztq rfl rfl rfl rfl rfl rfl (by omega)) ?_ | refine zcq rfl (zIq rfl rfl rfl rfl rfl rfl rfl (by first | assumption | (simp; done))) ?_
   refine yTq rfl rfl ?_
   first | refine zcq rfl rfl ?_ | refine zcq rfl (zDq rfl rfl rfl rfl rfl rfl rfl (by omega)) ?_ | refine zcq rfl (ztq rfl rfl rfl rfl rfl rfl (by omega)) ?_ | refine zcq rfl (zIq rfl rfl rfl rfl rfl rfl rfl (by first | assumption | (simp; done))) ?_
   refine yTq rfl rfl ?_
   first | refine zcq rfl rfl ?_ | refine zcq rfl (zDq rfl rfl rfl rfl rfl rfl rfl (by omega)) ?_ | refine zcq rfl (ztq rfl rfl rfl rfl rfl rfl (by omega)) ?_ | refine zcq rfl (zIq rfl rfl rfl rfl rfl rfl rfl (by first | assumption | (simp; done))) ?_
   refine yTq rfl rfl ?_
   first | refine zcq rfl rfl ?_ | refine zcq rfl (zDq rfl rfl rfl rfl rfl rfl rfl (by omega)) ?_ | refine zcq rfl (ztq rfl rfl rfl rfl rfl rfl (by omega)) ?_ | refine zcq rfl (zIq rfl rfl rfl rfl rfl rfl rfl (by first | assumption | (simp; done))) ?_
   refine yTq rfl rfl ?_
   refine zcq rfl rfl (zcq rfl rfl (zcq rfl rfl (zcq rfl rfl (zcq rfl rfl (zcq rfl rfl (j0q ?_))))))
   refine z2q (zFq (qUq ?_))
   first | refine zcq rfl rfl ?_ | refine zcq rfl (zDq rfl rfl rfl rfl rfl rfl rfl (by omega)) ?_ | refine zcq rfl (ztq rfl rfl rfl rfl rfl rfl (by omega)) ?_ | refine zcq rfl (zIq rfl rfl rfl rfl rfl rfl rfl (by first | assumption | (simp; done))) ?_
   refine yTq rfl rfl ?_
   refine zcq rfl rfl ?_
   (refine yBq rfl (yUq rfl rfl rfl rfl (jfq _ (by decide) _ _) rfl ?_); rintro w hp1 nw1 ⟨rfl, rfl, rfl⟩; first | refine ⟨rfl, rfl, ?_⟩ | refine ⟨rfl, ?_⟩)
   refine zcq rfl rfl ?_
   (refine yBq rfl (yUq rfl rfl rfl rfl (jfq _ (by decide) _ _) rfl ?_); rintro w hp1 nw1 ⟨rfl, rfl, rfl⟩; first | refine ⟨rfl, rfl, ?_⟩ | refine ⟨rfl, ?_⟩)
   refine zcq rfl rfl (zcq rfl rfl ?_)
   (refine yBq rfl (yUq rfl rfl rfl rfl (jfq _ (by decide) _ _) rfl ?_); rintro w hp1 nw1 ⟨rfl, rfl, rfl⟩; first | refine ⟨rfl, rfl, ?_⟩ | refine ⟨rfl, ?_⟩)
   refine zcq rfl rfl ?_
   first | refine yJq rfl rfl ⟨by omega, by omega⟩ ?_ | refine zcq rfl rfl ?_
   refine zcq rfl rfl (zcq rfl rfl (zcq rfl rfl (zcq rfl rfl (zcq rfl rfl (zcq rfl rfl (zcq rfl rfl (zcq rfl rfl ?_)))))))
   first | refine yJq rfl rfl ⟨by omega, by omega⟩ ?_ | refine zcq rfl rfl ?_
   refine zcq rfl rfl (zcq rfl (ix_fel (i := t) rfl rfl rfl rfl rfl rfl (by omega) rfl hK) ?_)
   refine yTq rfl rfl ?_
   first | refine yJq rfl rfl ⟨by omega, by omega⟩ ?_ | refine zcq rfl rfl ?_
   refine zcq rfl rfl (zcq rfl (ztq (i := t) rfl rfl rfl rfl rfl rfl (by omega)) ?_)
   refine qzq rfl (yIq rfl rfl rfl hW) (by first | rfl | kernel_rfl) ?_
   first | refine yJq rfl rfl ⟨by omega, by omega⟩ ?_ | refine zcq rfl rfl ?_
   refine zcq rfl rfl (j0q ?_)
   refine z2q (zFq (zkq (zaq rfl rfl ?_)))
   (refine zrq rfl (yUq rfl rfl rfl rfl (jfq _ (by decide) _ _) rfl ?_); rintro w hp1 nw1 ⟨rfl, rfl, rfl⟩; first | refine ⟨rfl, rfl, ?_⟩ | refine ⟨rfl, ?_⟩)
   refine zaq rfl rfl ?_
   (refine zrq rfl (yUq rfl rfl rfl rfl (jfq _ (by decide) _ _) rfl ?_); rintro w hp1 nw1 ⟨rfl, rfl, rfl⟩; first | refine ⟨rfl, rfl, ?_⟩ | refine ⟨rfl, ?_⟩)
   refine zaq rfl rfl (zaq rfl rfl ?_)
   (refine zrq rfl (yUq rfl rfl rfl rfl (jfq _ (by decide) _ _) rfl ?_); rintro w hp1 nw1 ⟨rfl, rfl, rfl⟩; first | refine ⟨rfl, rfl, ?_⟩ | refine ⟨rfl, ?_⟩)
   refine zaq rfl rfl (zaq rfl rfl (zaq rfl rfl (zaq rfl rfl (zaq rfl rfl (zaq rfl rfl (zaq rfl rfl (zaq rfl rfl (zaq rfl rfl (zaq rfl rfl (zaq rfl rfl (zaq rfl rfl ?_)))))))))))
   first | refine yxq rfl rfl ⟨by omega, by omega⟩ ?_ | refine zaq rfl rfl ?_
   refine zaq rfl rfl (zPq ?_)
   refine z2q (zkq (zaq rfl rfl (zaq rfl rfl ?_)))
   first | refine yxq rfl rfl ⟨by omega, by omega⟩ ?_ | refine zaq rfl rfl ?_
   refine zaq rfl rfl (zaq rfl rfl (zaq rfl rfl ?_))
   first | refine zaq rfl rfl ?_ | refine zaq rfl (zDq rfl rfl rfl rfl rfl rfl rfl (by omega)) ?_ | refine zaq rfl (ztq rfl rfl rfl rfl rfl rfl (by omega)) ?_ | refine zaq rfl (zIq rfl rfl rfl rfl rfl rfl rfl (by first | assumption | (simp; done))) ?_
   refine zvq rfl rfl (zaq rfl rfl ?_)
   first | refine yxq rfl rfl ⟨by omega, by omega⟩ ?_ | refine zaq rfl rfl ?_
   refine zaq rfl rfl (zaq rfl rfl (zaq rfl rfl (zaq rfl rfl (zvq rfl rfl (zPq ?_)))))
   refine qYq (by intro i h; cases h) ?_
   refine z2q (zkq ?_)
   first | refine yxq rfl rfl ⟨by omega, by omega⟩ ?_ | refine zaq rfl rfl ?_
   refine zaq rfl rfl (zPq ?_)
   refine yGq (t + 1) (by omega) (by omega) (yhq ⟨rfl, rfl, rfl, rfl, trivial⟩ rfl rfl)
  ·obtain rfl : t = 64 := by have := ltI_not.1 hc3; omega
   refine jtq ?_
   refine k0q (by intro h; cases h) ?_
   refine j8q (by intro h; cases h) ?_
   refine vEq (z2q (zFq (zkq (zaq rfl rfl (zPq ?_)))))
   refine z2q (yiq ?_)
   refine quq (fun i : Nat => i ≤ 8) (fun i => [(178, .int .i64 (i : Int)), (8, .ptr 3 0), (0, .ptr 0 0)]) (fun i => [(3, 116, .arr 8 1 (kiq (ySq bs 64) s 64).l), (0, 116, .arr 8 1 (mix8 s (kiq (ySq bs 64) s 64) i)), (1, ty, c)]) (fun _ => 4) (fun _ => R) (fun i => 8 - i) 0 (Nat.zero_le _) ?_ (fun i hi => ?_)
   ·exact (ent_del (b := 2)).trans (yhq ⟨rfl, rfl, rfl, trivial⟩ rfl rfl)
   refine zFq (zkq (zaq rfl rfl (zPq ?_)))
   refine z2q (zFq ?_)
   refine jaq rfl (fun hc4 => ?_) (fun hc4 => ?_)
   ·have hi1 : i < 8 := by have := ltI_iff.1 hc4; omega
    have hq : i = 0 ∨ i = 1 ∨ i = 2 ∨ i = 3 ∨ i = 4 ∨ i = 5 ∨ i = 6 ∨ i = 7 := by omega
    skip
    rcases hq with rfl | rfl | rfl | rfl | rfl | rfl | rfl | rfl
    ·skip
     refine qfq (z2q (zFq (yiq (zFq (zkq (zaq rfl rfl (zaq rfl rfl (zPq ?_))))))))
     refine z2q (qUq (zcq rfl rfl (zcq rfl rfl (zcq rfl rfl ?_))))
     first | refine zcq rfl rfl ?_ | refine zcq rfl (zDq rfl rfl rfl rfl rfl rfl rfl (by omega)) ?_ | refine zcq rfl (ztq rfl rfl rfl rfl rfl rfl (by omega)) ?_ | refine zcq rfl (zIq rfl rfl rfl rfl rfl rfl rfl (by first | assumption | (simp; done))) ?_
     refine yTq rfl rfl ?_
     refine zcq rfl rfl ?_
     first | refine zcq rfl rfl ?_ | refine zcq rfl (zDq rfl rfl rfl rfl rfl rfl rfl (by omega)) ?_ | refine zcq rfl (ztq rfl rfl rfl rfl rfl rfl (by omega)) ?_ | refine zcq rfl (zIq rfl rfl rfl rfl rfl rfl rfl (by first | assumption | (simp; done))) ?_
     refine yTq rfl rfl ?_
     first | refine yJq rfl rfl ⟨by omega, by omega⟩ ?_ | refine zcq rfl rfl ?_
     refine zcq rfl rfl ?_
     first | refine zcq rfl rfl ?_ | refine zcq rfl (zDq rfl rfl rfl rfl rfl rfl rfl (by omega)) ?_ | refine zcq rfl (ztq rfl rfl rfl rfl rfl rfl (by omega)) ?_ | refine zcq rfl (zIq rfl rfl rfl rfl rfl rfl rfl (by first | assumption | (simp; done))) ?_
     refine yTq rfl rfl ?_
     refine j0q ?_
     refine qYq (by intro i h; cases h) ?_
     refine z2q (zkq ?_)
     first | refine yxq rfl rfl ⟨by omega, by omega⟩ ?_ | refine zaq rfl rfl ?_
     refine zaq rfl rfl (zPq ?_)
     exact yGq 1 (by decide) (by decide) (yhq ⟨rfl, rfl, rfl, trivial⟩ rfl rfl)
    ·skip
     refine qfq (z2q (zFq (yiq (zFq (zkq (zaq rfl rfl (zaq rfl rfl (zPq ?_))))))))
     refine z2q (qUq (zcq rfl rfl (zcq rfl rfl (zcq rfl rfl ?_))))
     first | refine zcq rfl rfl ?_ | refine zcq rfl (zDq rfl rfl rfl rfl rfl rfl rfl (by omega)) ?_ | refine zcq rfl (ztq rfl rfl rfl rfl rfl rfl (by omega)) ?_ | refine zcq rfl (zIq rfl rfl rfl rfl rfl rfl rfl (by first | assumption | (simp; done))) ?_
     refine yTq rfl rfl ?_
     refine zcq rfl rfl ?_
     first | refine zcq rfl rfl ?_ | refine zcq rfl (zDq rfl rfl rfl rfl rfl rfl rfl (by omega)) ?_ | refine zcq rfl (ztq rfl rfl rfl rfl rfl rfl (by omega)) ?_ | refine zcq rfl (zIq rfl rfl rfl rfl rfl rfl rfl (by first | assumption | (simp; done))) ?_
     refine yTq rfl rfl ?_
     first | refine yJq rfl rfl ⟨by omega, by omega⟩ ?_ | refine zcq rfl rfl ?_
     refine zcq rfl rfl ?_
     first | refine zcq rfl rfl ?_ | refine zcq rfl (zDq rfl rfl rfl rfl rfl rfl rfl (by omega)) ?_ | refine zcq rfl (ztq rfl rfl rfl rfl rfl rfl (by omega)) ?_ | refine zcq rfl (zIq rfl rfl rfl rfl rfl rfl rfl (by first | assumption | (simp; done))) ?_
     refine yTq rfl rfl ?_
     refine j0q ?_
     refine qYq (by intro i h; cases h) ?_
     refine z2q (zkq ?_)
     first | refine yxq rfl rfl ⟨by omega, by omega⟩ ?_ | refine zaq rfl rfl ?_
     refine zaq rfl rfl (zPq ?_)
     exact yGq 2 (by decide) (by decide) (yhq ⟨rfl, rfl, rfl, trivial⟩ rfl rfl)
    ·skip
     refine qfq (z2q (zFq (yiq (zFq (zkq (zaq rfl rfl (zaq rfl rfl (zPq ?_))))))))
     refine z2q (qUq (zcq rfl rfl (zcq rfl rfl (zcq rfl rfl ?_))))
     first | refine zcq rfl rfl ?_ | refine zcq rfl (zDq rfl rfl rfl rfl rfl rfl rfl (by omega)) ?_ | refine zcq rfl (ztq rfl rfl rfl rfl rfl rfl (by omega)) ?_ | refine zcq rfl (zIq rfl rfl rfl rfl rfl rfl rfl (by first | assumption | (simp; done))) ?_
     refine yTq rfl rfl ?_
     refine zcq rfl rfl ?_
     first | refine zcq rfl rfl ?_ | refine zcq rfl (zDq rfl rfl rfl rfl rfl rfl rfl (by omega)) ?_ | refine zcq rfl (ztq rfl rfl rfl rfl rfl rfl (by omega)) ?_ | refine zcq rfl (zIq rfl rfl rfl rfl rfl rfl rfl (by first | assumption | (simp; done))) ?_
     refine yTq rfl rfl ?_
     first | refine yJq rfl rfl ⟨by omega, by omega⟩ ?_ | refine zcq rfl rfl ?_
     refine zcq rfl rfl ?_
     first | refine zcq rfl rfl ?_ | refine zcq rfl (zDq rfl rfl rfl rfl rfl rfl rfl (by omega)) ?_ | refine zcq rfl (ztq rfl rfl rfl rfl rfl rfl (by omega)) ?_ | refine zcq rfl (zIq rfl rfl rfl rfl rfl rfl rfl (by first | assumption | (simp; done))) ?_
     refine yTq rfl rfl ?_
     refine j0q ?_
     refine qYq (by intro i h; cases h) ?_
     refine z2q (zkq ?_)
     first | refine yxq rfl rfl ⟨by omega, by omega⟩ ?_ | refine zaq rfl rfl ?_
     refine zaq rfl rfl (zPq ?_)
     exact yGq 3 (by decide) (by decide) (yhq ⟨rfl, rfl, rfl, trivial⟩ rfl rfl)
    ·skip
     refine qfq (z2q (zFq (yiq (zFq (zkq (zaq rfl rfl (zaq rfl rfl (zPq ?_))))))))
     refine z2q (qUq (zcq rfl rfl (zcq rfl rfl (zcq rfl rfl ?_))))
     first | refine zcq rfl rfl ?_ | refine zcq rfl (zDq rfl rfl rfl rfl rfl rfl rfl (by omega)) ?_ | refine zcq rfl (ztq rfl rfl rfl rfl rfl rfl (by omega)) ?_ | refine zcq rfl (zIq rfl rfl rfl rfl rfl rfl rfl (by first | assumption | (simp; done))) ?_
     refine yTq rfl rfl ?_
     refine zcq rfl rfl ?_
     first | refine zcq rfl rfl ?_ | refine zcq rfl (zDq rfl rfl rfl rfl rfl rfl rfl (by omega)) ?_ | refine zcq rfl (ztq rfl rfl rfl rfl rfl rfl (by omega)) ?_ | refine zcq rfl (zIq rfl rfl rfl rfl rfl rfl rfl (by first | assumption | (simp; done))) ?_
     refine yTq rfl rfl ?_
     first | refine yJq rfl rfl ⟨by omega, by omega⟩ ?_ | refine zcq rfl rfl ?_
     refine zcq rfl rfl ?_
     first | refine zcq rfl rfl ?_ | refine zcq rfl (zDq rfl rfl rfl rfl rfl rfl rfl (by omega)) ?_ | refine zcq rfl (ztq rfl rfl rfl rfl rfl rfl (by omega)) ?_ | refine zcq rfl (zIq rfl rfl rfl rfl rfl rfl rfl (by first | assumption | (simp; done))) ?_
     refine yTq rfl rfl ?_
     refine j0q ?_
     refine qYq (by intro i h; cases h) ?_
     refine z2q (zkq ?_)
     first | refine yxq rfl rfl ⟨by omega, by omega⟩ ?_ | refine zaq rfl rfl ?_
     refine zaq rfl rfl (zPq ?_)
     exact yGq 4 (by decide) (by decide) (yhq ⟨rfl, rfl, rfl, trivial⟩ rfl rfl)
    ·skip
     refine qfq (z2q (zFq (yiq (zFq (zkq (zaq rfl rfl (zaq rfl rfl (zPq ?_))))))))
     refine z2q (qUq (zcq rfl rfl (zcq rfl rfl (zcq rfl rfl ?_))))
     first | refine zcq rfl rfl ?_ | refine zcq rfl (zDq rfl rfl rfl rfl rfl rfl rfl (by omega)) ?_ | refine zcq rfl (ztq rfl rfl rfl rfl rfl rfl (by omega)) ?_ | refine zcq rfl (zIq rfl rfl rfl rfl rfl rfl rfl (by first | assumption | (simp; done))) ?_
     refine yTq rfl rfl ?_
     refine zcq rfl rfl ?_
     first | refine zcq rfl rfl ?_ | refine zcq rfl (zDq rfl rfl rfl rfl rfl rfl rfl (by omega)) ?_ | refine zcq rfl (ztq rfl rfl rfl rfl rfl rfl (by omega)) ?_ | refine zcq rfl (zIq rfl rfl rfl rfl rfl rfl rfl (by first | assumption | (simp; done))) ?_
     refine yTq rfl rfl ?_
     first | refine yJq rfl rfl ⟨by omega, by omega⟩ ?_ | refine zcq rfl rfl ?_
     refine zcq rfl rfl ?_
     first | refine zcq rfl rfl ?_ | refine zcq rfl (zDq rfl rfl rfl rfl rfl rfl rfl (by omega)) ?_ | refine zcq rfl (ztq rfl rfl rfl rfl rfl rfl (by omega)) ?_ | refine zcq rfl (zIq rfl rfl rfl rfl rfl rfl rfl (by first | assumption | (simp; done))) ?_
     refine yTq rfl rfl ?_
     refine j0q ?_
     refine qYq (by intro i h; cases h) ?_
     refine z2q (zkq ?_)
     first | refine yxq rfl rfl ⟨by omega, by omega⟩ ?_ | refine zaq rfl rfl ?_
     refine zaq rfl rfl (zPq ?_)
     exact yGq 5 (by decide) (by decide) (yhq ⟨rfl, rfl, rfl, trivial⟩ rfl rfl)
    ·skip
     refine qfq (z2q (zFq (yiq (zFq (zkq (zaq rfl rfl (zaq rfl rfl (zPq ?_))))))))
     refine z2q (qUq (zcq rfl rfl (zcq rfl rfl (zcq rfl rfl ?_))))
     first | refine zcq rfl rfl ?_ | refine zcq rfl (zDq rfl rfl rfl rfl rfl rfl rfl (by omega)) ?_ | refine zcq rfl (ztq rfl rfl rfl rfl rfl rfl (by omega)) ?_ | refine zcq rfl (zIq rfl rfl rfl rfl rfl rfl rfl (by first | assumption | (simp; done))) ?_
     refine yTq rfl rfl ?_
     refine zcq rfl rfl ?_
     first | refine zcq rfl rfl ?_ | refine zcq rfl (zDq rfl rfl rfl rfl rfl rfl rfl (by omega)) ?_ | refine zcq rfl (ztq rfl rfl rfl rfl rfl rfl (by omega)) ?_ | refine zcq rfl (zIq rfl rfl rfl rfl rfl rfl rfl (by first | assumption | (simp; done))) ?_
     refine yTq rfl rfl ?_
     first | refine yJq rfl rfl ⟨by omega, by omega⟩ ?_ | refine zcq rfl rfl ?_
     refine zcq rfl rfl ?_
     first | refine zcq rfl rfl ?_ | refine zcq rfl (zDq rfl rfl rfl rfl rfl rfl rfl (by omega)) ?_ | refine zcq rfl (ztq rfl rfl rfl rfl rfl rfl (by omega)) ?_ | refine zcq rfl (zIq rfl rfl rfl rfl rfl rfl rfl (by first | assumption | (simp; done))) ?_
     refine yTq rfl rfl ?_
     refine j0q ?_
     refine qYq (by intro i h; cases h) ?_
     refine z2q (zkq ?_)
     first | refine yxq rfl rfl ⟨by omega, by omega⟩ ?_ | refine zaq rfl rfl ?_
     refine zaq rfl rfl (zPq ?_)
     exact yGq 6 (by decide) (by decide) (yhq ⟨rfl, rfl, rfl, trivial⟩ rfl rfl)
    ·skip
     refine qfq (z2q (zFq (yiq (zFq (zkq (zaq rfl rfl (zaq rfl rfl (zPq ?_))))))))
     refine z2q (qUq (zcq rfl rfl (zcq rfl rfl (zcq rfl rfl ?_))))
     first | refine zcq rfl rfl ?_ | refine zcq rfl (zDq rfl rfl rfl rfl rfl rfl rfl (by omega)) ?_ | refine zcq rfl (ztq rfl rfl rfl rfl rfl rfl (by omega)) ?_ | refine zcq rfl (zIq rfl rfl rfl rfl rfl rfl rfl (by first | assumption | (simp; done))) ?_
     refine yTq rfl rfl ?_
     refine zcq rfl rfl ?_
     first | refine zcq rfl rfl ?_ | refine zcq rfl (zDq rfl rfl rfl rfl rfl rfl rfl (by omega)) ?_ | refine zcq rfl (ztq rfl rfl rfl rfl rfl rfl (by omega)) ?_ | refine zcq rfl (zIq rfl rfl rfl rfl rfl rfl rfl (by first | assumption | (simp; done))) ?_
     refine yTq rfl rfl ?_
     first | refine yJq rfl rfl ⟨by omega, by omega⟩ ?_ | refine zcq rfl rfl ?_
     refine zcq rfl rfl ?_
     first | refine zcq rfl rfl ?_ | refine zcq rfl (zDq rfl rfl rfl rfl rfl rfl rfl (by omega)) ?_ | refine zcq rfl (ztq rfl rfl rfl rfl rfl rfl (by omega)) ?_ | refine zcq rfl (zIq rfl rfl rfl rfl rfl rfl rfl (by first | assumption | (simp; done))) ?_
     refine yTq rfl rfl ?_
     refine j0q ?_
     refine qYq (by intro i h; cases h) ?_
     refine z2q (zkq ?_)
     first | refine yxq rfl rfl ⟨by omega, by omega⟩ ?_ | refine zaq rfl rfl ?_
     refine zaq rfl rfl (zPq ?_)
     exact yGq 7 (by decide) (by decide) (yhq ⟨rfl, rfl, rfl, trivial⟩ rfl rfl)
    ·skip
     refine qfq (z2q (zFq (yiq (zFq (zkq (zaq rfl rfl (zaq rfl rfl (zPq ?_))))))))
     refine z2q (qUq (zcq rfl rfl (zcq rfl rfl (zcq rfl rfl ?_))))
     first | refine zcq rfl rfl ?_ | refine zcq rfl (zDq rfl rfl rfl rfl rfl rfl rfl (by omega)) ?_ | refine zcq rfl (ztq rfl rfl rfl rfl rfl rfl (by omega)) ?_ | refine zcq rfl (zIq rfl rfl rfl rfl rfl rfl rfl (by first | assumption | (simp; done))) ?_
     refine yTq rfl rfl ?_
     refine zcq rfl rfl ?_
     first | refine zcq rfl rfl ?_ | refine zcq rfl (zDq rfl rfl rfl rfl rfl rfl rfl (by omega)) ?_ | refine zcq rfl (ztq rfl rfl rfl rfl rfl rfl (by omega)) ?_ | refine zcq rfl (zIq rfl rfl rfl rfl rfl rfl rfl (by first | assumption | (simp; done))) ?_
     refine yTq rfl rfl ?_
     first | refine yJq rfl rfl ⟨by omega, by omega⟩ ?_ | refine zcq rfl rfl ?_
     refine zcq rfl rfl ?_
     first | refine zcq rfl rfl ?_ | refine zcq rfl (zDq rfl rfl rfl rfl rfl rfl rfl (by omega)) ?_ | refine zcq rfl (ztq rfl rfl rfl rfl rfl rfl (by omega)) ?_ | refine zcq rfl (zIq rfl rfl rfl rfl rfl rfl rfl (by first | assumption | (simp; done))) ?_
     refine yTq rfl rfl ?_
     refine j0q ?_
     refine qYq (by intro i h; cases h) ?_
     refine z2q (zkq ?_)
     first | refine yxq rfl rfl ⟨by omega, by omega⟩ ?_ | refine zaq rfl rfl ?_
     refine zaq rfl rfl (zPq ?_)
     exact yGq 8 (by decide) (by decide) (yhq ⟨rfl, rfl, rfl, trivial⟩ rfl rfl)
   ·obtain rfl : i = 8 := by have := ltI_not.1 hc4; omega
    refine jtq ?_
    refine k0q (by intro h; cases h) ?_
    refine j8q (by intro h; cases h) ?_
    refine vEq ?_
    refine fin (.inl rfl) (qeq (fr2 := []) (hp2 := [(0, 116, .arr 8 1 (jRq bs s).l), (1, ty, c)]) (nw2 := 2) (by omega) (by omega) trivial rfl (qhq ⟨⟨by omega, rfl, rfl⟩, ⟨by omega, rfl, hc⟩, trivial⟩) (by simp)) rfl ⟨rfl, rfl, rfl, rfl⟩
end Go.Proofs.YtgeelfdgnehdnaaDoor
namespace Go.Proofs.YtgeelfdgnehdnaaDoor
open Go.RowKit
set_option linter.unusedSimpArgs false
set_option linter.unusedVariables false
attribute [local irreducible] CoW OpW FlW Step Spec
noncomputable def atL (r : List Nat) (i : Nat) : Nat := r.getD i 0
noncomputable def eat : Nat → S8 → List Nat → S8 × List Nat
 | 0, s, r => (s, r)
 | n + 1, s, r => match Nat.ble 64 r.length with
  | true => eat n (jRq (atL r) s) (r.drop 64)
  | false => (s, r)
theorem uHq : ∀ (n : Nat) (s : S8) (r : List Nat), r.length < 64 → eat n s r = (s, r)
 | 0, _, _, _ => rfl
 | n + 1, s, r, h => by
  have : Nat.ble 64 r.length = false := by
   cases hq : Nat.ble 64 r.length with
   | true => have := Nat.le_of_ble_eq_true hq; omega
   | false => rfl
  simp only [eat, this]
theorem Qzq {n : Nat} {s : S8} {r : List Nat} (h : 64 ≤ r.length) : eat (n + 1) s r = eat n (jRq (atL r) s) (r.drop 64) := by
 simp only [eat, Nat.ble_eq_true_of_le h]
theorem eat_fuel : ∀ (n m : Nat) (s : S8) (r : List Nat), r.length ≤ n → r.length ≤ m → eat n s r = eat m s r
 | 0, m, s, r, h, _ => by rw [uHq m s r (by omega)]; rfl
 | n + 1, 0, s, r, _, h => by rw [uHq _ s r (by omega)]; rfl
 | n + 1, m + 1, s, r, h1, h2 => by
  by_cases h : 64 ≤ r.length
  ·rw [Qzq h, Qzq h]
   exact eat_fuel n m _ _ (by simp; omega) (by simp; omega)
  ·rw [uHq _ s r (by omega), uHq _ s r (by omega)]
noncomputable def eats (s : S8) (r : List Nat) : S8 × List Nat := eat r.length s r
theorem eats_more {s : S8} {r : List Nat} (h : 64 ≤ r.length) : eats s r = eats (jRq (atL r) s) (r.drop 64) := by
 unfold eats
 obtain ⟨n, hn⟩ : ∃ n, r.length = n + 1 := ⟨r.length - 1, by omega⟩
 rw [hn, Qzq h]
 exact eat_fuel _ _ _ _ (by simp; omega) (Nat.le_refl _)
noncomputable def jUq (a : S8 × List Nat) (p : List Nat) : S8 × List Nat := eats a.1 (a.2 ++ p)
noncomputable def s0 : S8 := ⟨1779033703, 3144134277, 1013904242, 2773480762, 1359893119, 2600822924, 528734635, 1541459225⟩
noncomputable def padZ : Nat → List Nat → List Nat
 | 0, r => r
 | n + 1, r => match Nat.beq (r.length % 64) 56 with
  | true => r
  | false => padZ n (r ++ [0])
noncomputable def len8 (many : Nat) : List Nat := [56, 48, 40, 32, 24, 16, 8, 0].map fun i => Nat.shiftRight (8 * many % 18446744073709551616) i % 256
noncomputable def jlq : Nat → S8 → List Nat → S8
 | 0, s, _ => s
 | n + 1, s, r => match Nat.ble 1 r.length with
  | true => jlq n (jRq (atL r) s) (r.drop 64)
  | false => s
theorem jGq : ∀ (n : Nat) (s : S8), jlq n s [] = s
 | 0, _ => rfl
 | n + 1, s => rfl
theorem x7q {n : Nat} {s : S8} {r : List Nat} (h : 1 ≤ r.length) : jlq (n + 1) s r = jlq n (jRq (atL r) s) (r.drop 64) := by
 simp only [jlq, Nat.ble_eq_true_of_le h]
theorem ZJq : ∀ (n m : Nat) (s : S8) (r : List Nat), r.length ≤ n → r.length ≤ m → jlq n s r = jlq m s r
 | 0, m, s, r, h, _ => by
  obtain rfl : r = [] := List.length_eq_zero_iff.1 (by omega)
  rw [jGq, jGq]
 | n + 1, 0, s, r, _, h => by
  obtain rfl : r = [] := List.length_eq_zero_iff.1 (by omega)
  rw [jGq, jGq]
 | n + 1, m + 1, s, r, h1, h2 => by
  by_cases h : 1 ≤ r.length
  ·rw [x7q h, x7q h]
   exact ZJq n m _ _ (by simp; omega) (by simp; omega)
  ·obtain rfl : r = [] := List.length_eq_zero_iff.1 (by omega)
   rw [jGq, jGq]
theorem eatAll_step {s : S8} {r : List Nat} (h : 1 ≤ r.length) : jlq r.length s r = jlq (r.drop 64).length (jRq (atL r) s) (r.drop 64) := by
 obtain ⟨n, hn⟩ : ∃ n, r.length = n + 1 := ⟨r.length - 1, by omega⟩
 rw [hn, x7q h]
 exact ZJq _ _ _ _ (by simp; omega) (Nat.le_refl _)
noncomputable def S8.get (s : S8) : Nat → Nat
 | 0 => s.a
 | 1 => s.b
 | 2 => s.c
 | 3 => s.d
 | 4 => s.e
 | 5 => s.f
 | 6 => s.g
 | _ => s.h
noncomputable def digN (s : S8) : List Nat := (List.range 32).map fun i => Nat.shiftRight (s.get (i / 4)) (24 - 8 * (i % 4)) % 256
noncomputable def y0q (ps : List (List Nat)) : Nat := (ps.map List.length).foldr (· + ·) 0
noncomputable def shaN (ps : List (List Nat)) : List Nat :=
 let a := ps.foldl jUq (s0, [])
 let r := padZ 64 (a.2 ++ [128]) ++ len8 (y0q ps)
 digN (jlq r.length a.1 r)
inductive Rst where
 | nil
 | sl (all : List Nat) (base off : Nat)
noncomputable def Rst.w : Rst → W
 | .nil => .nils
 | .sl all base off => .sl 2 base off (all.length - off) 1 none
noncomputable def Rst.hp : Rst → HpW
 | .nil => []
 | .sl all _ _ => [(2, 5, .arr all.length 1 (bN all))]
noncomputable def Rst.r : Rst → List Nat
 | .nil => []
 | .sl all _ off => all.drop off
noncomputable def Rst.ok : Rst → Prop
 | .nil => True
 | .sl all _ off => off ≤ all.length ∧ all.length < 4294967296
noncomputable def Rst.nw : Rst → Nat
 | .nil => 2
 | .sl _ _ _ => 3
noncomputable def hpS (x : Rst) (d : W) (s : S8) : HpW := x.hp ++ [(1, 116, .arr 8 1 s.l), (0, 23, d)]
noncomputable def vnq : W := .arr 32 1 (List.replicate 32 (.int .u8 0))
noncomputable def Yhq (p : List Nat × Bool) : W := .fz (bN p.1) 1 p.2
theorem app_r (r : Rst) (hr : r.ok) (d : W) (s : S8) (p : List Nat) (f : Bool) (hp : p.length < 2147483648) (h64 : r.r.length < 64) : ∃ w hp' nw ev, appW cfg (hpS r d s) r.nw 27 27 r.w (.fz (bN p) 1 f) = some (w, hp', nw, ev) ∧
  ∃ r' : Rst, r'.ok ∧ r'.r = r.r ++ p ∧ ((w = r'.w ∧ hp' = hpS r' d s ∧ nw = r'.nw) ∨ ∃ all, r' = .sl all 0 0 ∧ w = .sl 3 0 0 all.length 1 none ∧ hp' = [(3, 5, .arr all.length 1 (bN all)), (1, 116, .arr 8 1 s.l), (0, 23, d)] ∧ nw = 4) := by
 cases r with
 | nil => cases p with
  | nil => exact ⟨_, _, _, _, rfl, .nil, trivial, rfl, .inl ⟨rfl, rfl, rfl⟩⟩
  | cons a l =>
   have hl : (bN (a :: l)).length = l.length + 1 := by rw [jTq]; rfl
   have hlt : l.length + 1 < 2147483648 := hp
   have hbl : (bN (a :: l)).length * 1 ≤ 140737488355328 := by omega
   refine ⟨_, _, _, _, Z2q (k := ti5) rfl rfl rfl rfl rfl (by simp [bN]) hbl (by omega), .sl (a :: l) 0 0, ⟨Nat.zero_le _, by show l.length + 1 < _; omega⟩, rfl, .inl ⟨?_, ?_, rfl⟩⟩
   ·rw [jTq]; rfl
   ·rw [jTq, show (ti5).size = 1 from rfl, Nat.mul_one]; rfl
 | sl all base off =>
  obtain ⟨h1, h2⟩ := hr
  cases p with
  | nil => exact ⟨_, _, _, _, rfl, .sl all base off, ⟨h1, h2⟩, by simp, .inl ⟨rfl, rfl, rfl⟩⟩
  | cons a l =>
   have hl : (bN (a :: l)).length = l.length + 1 := by rw [jTq]; rfl
   have hlt : l.length + 1 < 2147483648 := hp
   have hbl : (all.length - off + (bN (a :: l)).length) * 1 ≤ 140737488355328 := by omega
   have hdt : ((bN all).drop off).take (all.length - off) = bN (all.drop off) := by
    rw [List.take_of_length_le (by simp [jTq])]; simp [bN, List.map_drop]
   refine ⟨_, _, _, _, krq (k := ti5) (v := .arr all.length 1 (bN all)) (off := off) rfl rfl rfl rfl rfl (by simp [bN]) hbl (by omega) rfl ?_ rfl (uiq (by omega)), .sl (all.drop off ++ a :: l) 0 0, ⟨Nat.zero_le _, ?_⟩, rfl, .inr ⟨_, rfl, ?_, ?_, rfl⟩⟩
   ·show all.length < off + (all.length - off + (bN (a :: l)).length) * 1
    omega
   ·simp only [Rst.r, List.length_drop] at h64; simp only [List.length_append, List.length_drop, List.length_cons]; omega
   ·simp only [hl, List.length_append, List.length_drop, List.length_cons]; rfl
   ·rw [hdt, hl]
    simp only [List.length_append, List.length_drop, List.length_cons, show (ti5).size = 1 from rfl, Nat.mul_one]
    rw [show bN (all.drop off) ++ bN (a :: l) = bN (all.drop off ++ a :: l) by simp [bN]]
    rfl
theorem padZ_spec : ∀ (n j : Nat) (r : List Nat), (∀ i, i < j → (r.length + i) % 64 ≠ 56) → (r.length + j) % 64 = 56 → j ≤ n → padZ n r = r ++ List.replicate j 0
 | 0, j, r, _, _, h => by
  obtain rfl : j = 0 := by omega
  simp [padZ]
 | n + 1, 0, r, _, h, _ => by
  have : Nat.beq (r.length % 64) 56 = true := by rw [Nat.beq_eq]; simpa using h
  simp only [padZ, this]; simp
 | n + 1, j + 1, r, h1, h2, h3 => by
  have : Nat.beq (r.length % 64) 56 = false := by
   cases hq : Nat.beq (r.length % 64) 56 with
   | true => rw [Nat.beq_eq] at hq; exact absurd (by simpa using hq) (h1 0 (by omega))
   | false => rfl
  simp only [padZ, this]
  rw [padZ_spec n j (r ++ [0]) (fun i hi => by simp only [List.length_append, List.length_singleton]; have := h1 (i + 1) (by omega); rwa [show r.length + 1 + i = r.length + (i + 1) by omega]) (by simp only [List.length_append, List.length_singleton]; rwa [show r.length + 1 + j = r.length + (j + 1) by omega]) (by omega)]
  rw [List.append_assoc]; rfl
theorem S8_at (s : S8) {k : Nat} (h : k < 8) : s.l[0 + k * 1]? = some (wd (s.get k)) := by
 have hq : k = 0 ∨ k = 1 ∨ k = 2 ∨ k = 3 ∨ k = 4 ∨ k = 5 ∨ k = 6 ∨ k = 7 := by omega
 rcases hq with rfl | rfl | rfl | rfl | rfl | rfl | rfl | rfl <;> rfl
noncomputable def dI (s : S8) (i : Nat) : List Nat := (digN s).take i ++ List.replicate (32 - i) 0
theorem vUq (s : S8) : (digN s).length = 32 := by simp [digN]
theorem dI_len (s : S8) {i : Nat} (h : i ≤ 32) : (dI s i).length = 32 := by simp [dI, vUq]; omega
theorem dI_at (s : S8) {i : Nat} (h : i < 32) : (bN (dI s i))[0 + i * 1]? = some (.int .u8 (.ofNat 0)) := by
 rw [Nat.zero_add, Nat.mul_one, bN_at (by rw [dI_len s (by omega)]; exact h)]
 have : (dI s i).getD i 0 = 0 := by
  simp [dI, List.getD, List.getElem?_append, vUq, show min i 32 = i by omega, List.getElem?_replicate, show 0 < 32 - i by omega]
 rw [this]
theorem dI_set (s : S8) {i : Nat} (h : i < 32) : (bN (dI s i)).set (0 + i * 1) (.int .u8 (.ofNat (Nat.shiftRight (s.get (i / 4)) (min (24 - 8 * (i % 4)) 32) % 256))) = bN (dI s (i + 1)) := by
 have e : (digN s).take (i + 1) = (digN s).take i ++ [Nat.shiftRight (s.get (i / 4)) (24 - 8 * (i % 4)) % 256] := by
  rw [List.take_add_one]
  congr 1
  simp [digN, List.getElem?_map, List.getElem?_range h]
 have hm : min (24 - 8 * (i % 4)) 32 = 24 - 8 * (i % 4) := by omega
 have hl : ((digN s).take i).length = i := by simp [vUq]; omega
 rw [Nat.zero_add, Nat.mul_one, hm]
 unfold bN
 rw [← List.map_set (f := fun c => W.int .u8 (.ofNat c))]
 congr 1
 unfold dI
 rw [e, show 32 - i = (32 - (i + 1)) + 1 by omega, List.replicate_succ, List.set_append_right _ _ (by omega), hl, Nat.sub_self, List.set_cons_zero, List.append_assoc]
 rfl
theorem mid1 (L : List Nat) (c : Nat) : some (W.sl 4 0 0 (L.length + (bN [c]).length) 1 none) = some (renW (tau1 2 4) (W.sl 2 0 0 (L ++ [c]).length 1 none)) := by
 rw [List.length_append]; rfl
theorem mid2 (L : List Nat) (c : Nat) : some (5, W.arr ((L.length + (bN [c]).length) * 1) 1 (((bN L).drop 0).take L.length ++ bN [c])) = some (5, renW (tau1 2 4) (W.arr (L ++ [c]).length 1 (bN (L ++ [c])))) := by
 rw [zhq (show purW (.arr (L ++ [c]).length 1 (bN (L ++ [c]))) = true from vAq _), List.drop_zero, List.take_of_length_le (by rw [jTq]; exact Nat.le_refl _), Nat.mul_one, List.length_append]
 simp [bN]
theorem parts_pur : ∀ ps : List (List Nat × Bool), purL (ps.map Yhq) = true
 | [] => rfl
 | p :: ps => by simp only [List.map_cons, purL, Yhq, purW, vAq, Bool.true_and]; exact parts_pur ps
set_option maxHeartbeats 1600000 in
theorem of_s (ps : List (List Nat × Bool)) (fl : Bool) (hb : y0q (ps.map (·.1)) < 2147483648) (hpn : ps.length < 2147483648) (R : Res) :
  Spec cfg glK 44 0 [.fz (ps.map Yhq) 1 fl] [] R fun w hp nw R' => R' = R ∧ w = .arr 32 1 (bN (shaN (ps.map (·.1)))) := by
 refine zZq (fn := Tryd.f44) rfl rfl rfl (Nat.le_of_ble_eq_true rfl) (fun k0 => ?_)
 refine zFq (zkq (zvq rfl rfl (zPq ?_)))
 refine z2q (zFq (zkq (zaq rfl rfl (zvq rfl rfl (zvq rfl rfl (zPq ?_))))))
 refine z2q (zFq (zkq (zaq rfl rfl (zPq ?_))))
 refine z2q (zFq (zkq (zaq rfl rfl (zPq ?_))))
 refine z2q (zFq (zFq (zkq (zaq rfl rfl (zaq rfl rfl (zaq rfl rfl (zPq ?_)))))))
 refine z2q (yiq ?_)
 refine quq (α := Nat × S8 × Rst) (fun a => a.1 ≤ ps.length ∧ a.2.2.ok ∧ (a.2.1, a.2.2.r) = ((ps.map (·.1)).take a.1).foldl jUq (s0, []) ∧ a.2.2.r.length < 64) (fun a => [(13, .int .i64 (a.1 : Int)), (12, .int .i64 (ps.length : Int)), (11, .fz (ps.map Yhq) 1 fl), (5, .int .u64 (y0q ((ps.map (·.1)).take a.1) : Int)), (4, a.2.2.w), (3, .ptr 1 0), (2, .ptr 0 0)]) (fun a => hpS a.2.2 vnq a.2.1) (fun a => a.2.2.nw) (fun _ => R) (fun a => ps.length - a.1) (0, s0, .nil) ⟨Nat.zero_le _, trivial, rfl, by decide⟩ ?_ (fun a ha => ?_)
 ·exact yhq ⟨rfl, by simp [getW, putW], rfl, rfl, rfl, rfl, rfl, trivial⟩ rfl rfl
 have hPp : purW (.fz (ps.map Yhq) 1 fl) = true := parts_pur ps
 obtain ⟨i, s, r⟩ := a
 obtain ⟨hi, hok, hfold, hr64⟩ := ha
 refine zFq (zkq (zaq rfl rfl (zPq ?_)))
 refine z2q (zFq ?_)
 refine jaq rfl (fun hc1 => ?_) (fun hc1 => ?_)
 ·simp only at hi hok hfold hr64
  have hi1 : i < ps.length := by have := ltI_iff.1 hc1; simp only at this; omega
  obtain ⟨p, hp⟩ : ∃ p, ps[i]? = some p := ⟨_, List.getElem?_eq_getElem hi1⟩
  have hpw : (ps.map Yhq)[i]? = some (.fz (bN p.1) 1 p.2) := by rw [List.getElem?_map, hp]; rfl
  have htk : (ps.map (·.1)).take (i + 1) = (ps.map (·.1)).take i ++ [p.1] := by
   rw [List.take_add_one, List.getElem?_map, hp]; rfl
  have htot : ∀ l r : List (List Nat), y0q (l ++ r) = y0q l + y0q r := fun l r => by
   unfold y0q
   induction l with
   | nil => simp
   | cons x l ih => simp only [List.cons_append, List.map_cons, List.foldr_cons, ih]; omega
  have ht1 : y0q ((ps.map (·.1)).take (i + 1)) = y0q ((ps.map (·.1)).take i) + p.1.length := by rw [htk, htot]; simp [y0q]
  have htle : y0q ((ps.map (·.1)).take (i + 1)) ≤ y0q (ps.map (·.1)) := by
   have := htot ((ps.map (·.1)).take (i + 1)) ((ps.map (·.1)).drop (i + 1))
   rw [List.take_append_drop] at this; omega
  have hpl : p.1.length < 2147483648 := by omega
  refine qfq (z2q (zFq (yiq (zFq (zkq (zaq rfl (zIq (i := i) rfl rfl rfl rfl rfl rfl rfl hpw) (zvq rfl rfl (zaq rfl rfl (zPq ?_)))))))))
  refine z2q (zFq (zkq (zaq rfl rfl (zaq rfl rfl (zwq rfl rfl (show _ = W.int .i64 (p.1.length : Int) by first | rfl | (simp [jTq]; done) | (simp [jTq]; rfl)) ?_)))))
  refine zxq (p.1.length) rfl rfl (by first | rfl | omega) ⟨by omega, by omega⟩ ?_
  refine zxq (y0q ((ps.map (·.1)).take i) + p.1.length) rfl rfl (by first | rfl | omega) ⟨by omega, by omega⟩ ?_
  refine zaq rfl rfl (zPq ?_)
  refine z2q ?_
  refine co_cut (α := Rst) (fun r' => r'.ok ∧ r'.r = r.r ++ p.1) (fun r' => [(13, .int .i64 (i : Int)), (12, .int .i64 (ps.length : Int)), (11, .fz (ps.map Yhq) 1 fl), (5, .int .u64 (y0q ((ps.map (·.1)).take (i + 1)) : Int)), (4, r'.w), (3, .ptr 1 0), (2, .ptr 0 0)]) (fun r' => hpS r' vnq s) (fun r' => r'.nw) ?_ (fun a ha => ?_)
  ·obtain ⟨w, hp', nw', ev, e1, r', e2, e3, e4⟩ := app_r r hok vnq s p.1 p.2 hpl hr64
   refine zkq (zaq rfl rfl (zaq rfl rfl (zvq rfl (keq rfl rfl e1) (zaq rfl rfl (zPq ?_)))))
   refine ⟨rfl, r', ⟨e2, e3⟩, ?_⟩
   rcases e4 with ⟨rfl, rfl, rfl⟩ | ⟨all, rfl, rfl, rfl, rfl⟩
   ·exact yhq ⟨rfl, rfl, rfl, by rw [ht1]; rfl, rfl, rfl, rfl, trivial⟩ rfl rfl
   ·refine qiq (b := 2) (k := 3) (by omega) (by omega) (by omega) ⟨⟨rfl, rfl⟩, ⟨rfl, rfl⟩, ⟨by rw [zhq hPp]; rfl, zdq hPp⟩, ⟨by rw [ht1]; rfl, rfl⟩, ⟨rfl, rfl⟩, ⟨rfl, rfl⟩, ⟨rfl, rfl⟩, trivial⟩ ⟨⟨by omega, by rw [zhq (show purW (.arr all.length 1 (bN all)) = true from vAq _)]; rfl, zdq (show purW (.arr all.length 1 (bN all)) = true from vAq _)⟩, ⟨by omega, rfl, rfl⟩, ⟨by omega, rfl, rfl⟩, trivial⟩ (by simp [hpS, Rst.hp])
  obtain ⟨hak, har⟩ := ha
  have hstep : (ps.map (·.1)).take (i + 1) = (ps.map (·.1)).take i ++ [p.1] := htk
  have hnext : ((ps.map (·.1)).take (i + 1)).foldl jUq (s0, []) = jUq (s, r.r) p.1 := by rw [hstep, List.foldl_append, ← hfold]; rfl
  refine yiq ?_
  refine quq (α := S8 × Rst) (fun b => b.2.ok ∧ eats b.1 b.2.r = jUq (s, r.r) p.1) (fun b => [(13, .int .i64 (i : Int)), (12, .int .i64 (ps.length : Int)), (11, .fz (ps.map Yhq) 1 fl), (5, .int .u64 (y0q ((ps.map (·.1)).take (i + 1)) : Int)), (4, b.2.w), (3, .ptr 1 0), (2, .ptr 0 0)]) (fun b => hpS b.2 vnq b.1) (fun b => b.2.nw) (fun _ => R) (fun b => b.2.r.length) (s, a) ⟨hak, by simp only [jUq, har]⟩ (Ent.refl) (fun b hb => ?_)
  obtain ⟨s', r'⟩ := b
  obtain ⟨hok', heat⟩ := hb
  simp only at hok' heat
  have done : r'.r.length < 64 → (s', r'.r) = ((ps.map (·.1)).take (i + 1)).foldl jUq (s0, []) := fun h => by
   rw [hnext, ← heat, eats, uHq _ _ _ h]
  skip
  cases r' with
  | nil =>
   refine zFq (zFq (zkq (zaq rfl rfl (zaq rfl rfl (zaq rfl rfl (zPq ?_))))))
   refine z2q (co_false rfl (jtq ?_))
   refine k0q (by intro h; cases h) ?_
   refine j8q (by intro h; cases h) ?_
   refine vEq (qYq (by intro i h; cases h) ?_)
   refine z2q (zkq (zxq (i + 1) rfl rfl (by first | rfl | omega) ⟨by omega, by omega⟩ ?_))
   refine zaq rfl rfl (zPq ?_)
   refine yGq (i + 1, s', .nil) ⟨hi1, trivial, done (by show 0 < 64; omega), (by show 0 < 64; omega)⟩ (by simp only; omega) (yhq ⟨rfl, rfl, rfl, rfl, rfl, rfl, rfl, trivial⟩ rfl rfl)
  | sl all base off =>
   obtain ⟨ho1, ho2⟩ := hok'
   have hrl : (Rst.sl all base off).r.length = all.length - off := by simp [Rst.r]
   refine zFq (zFq (zkq (zaq rfl rfl (zwq rfl rfl (show _ = W.int .i64 ((all.length - off : Nat) : Int) by first | rfl | (simp [jTq]; done) | (simp [jTq]; rfl)) ?_))))
   refine zaq rfl rfl (zPq ?_)
   refine z2q ?_
   refine jaq rfl (fun hc2 => ?_) (fun hc2 => ?_)
   ·have h64 : 64 ≤ all.length - off := by
     have := hc2
     simp only [Bool.not_eq_true'] at this
     have := ltI_not.1 this
     omega
    have hpa : purW (.arr all.length 1 (bN all)) = true := vAq all
    have hby : ∀ k, k < 64 → ygq 50 (.arr all.length 1 (bN all)) (off + 0 * 1 + k * 1) 1 false = some (.int .u8 (.ofNat (atL (all.drop off) k))) := fun k hk => by
     have := bN_at (l := all) (i := off + k) (by omega)
     refine jhq ?_ rfl
     rw [Nat.zero_mul, Nat.add_zero, Nat.mul_one, this]
     simp [atL, List.getD, List.getElem?_drop]
    have hr' : (Rst.sl all off (off + 64)).r = ((Rst.sl all base off).r).drop 64 := by simp [Rst.r]
    refine qfq (z2q (zFq (yiq (zkq (zaq rfl rfl (zaq rfl (cut_hi (h := 64) rfl rfl rfl rfl rfl rfl rfl h64) ?_))))))
    (refine zrq rfl (yCq (ext := [1, 2]) (ws := [.ptr 0 0, .sl 1 base (off + 0 * 1) (64 - 0) 1 none]) rfl rfl rfl rfl rfl (fun R => block_s s' (atL (all.drop off)) (.arr all.length 1 (bN all)) base _ none 5 (zdq hpa) hby R) (by decide) (by intro b hb; simp only [List.mem_cons, List.not_mem_nil, or_false] at hb; show b < 3; omega) (by simp) (vdq rfl (by rw [zhq hpa]; rfl) rfl (zdq hpa)) rfl ?_); rintro w hp1 nw1 ⟨rfl, rfl, rfl⟩)
    refine zPq ?_
    refine qYq (by intro i h; cases h) ?_
    refine z2q (zkq (zaq rfl rfl (zaq rfl (cut_lo (l := 64) rfl rfl rfl rfl rfl rfl rfl h64 rfl) (zaq rfl rfl (zPq ?_)))))
    refine yGq (jRq (atL (all.drop off)) s', .sl all off (off + 64)) ⟨⟨by omega, ho2⟩, ?_⟩ (by simp only [hr']; simp only [hrl, List.length_drop]; omega) (qeq (by omega) (Nat.le_refl _) ⟨rfl, rfl, rfl, rfl, ?_, rfl, rfl, trivial⟩ (by simp only [List.all_cons, List.all_nil, zdq hPp, Bool.and_true]; rfl) (qhq ⟨⟨by show 2 < 3; omega, by show some (5, renW _ (W.arr all.length 1 (bN all))) = _; rw [zhq hpa], zdq hpa⟩, ⟨by show 1 < 3; omega, rfl, rfl⟩, ⟨by show 0 < 3; omega, rfl, rfl⟩, trivial⟩) (by simp [hpS, Rst.hp]))
    ·rw [hr', ← heat]
     exact (eats_more (r := (Rst.sl all base off).r) (by rw [hrl]; exact h64)).symm
    ·show some (W.sl 2 off (off + 64 * 1) (all.length - off - 64) 1 (qyq 64 none)) = some (W.sl 2 off (off + 64) (all.length - (off + 64)) 1 none)
     rw [Nat.sub_sub]; rfl
   ·have h64 : all.length - off < 64 := by
     have := hc2
     simp only [Bool.not_eq_false'] at this
     have := ltI_iff.1 this
     omega
    refine jtq ?_
    refine k0q (by intro h; cases h) ?_
    refine j8q (by intro h; cases h) ?_
    refine vEq (qYq (by intro i h; cases h) ?_)
    refine z2q (zkq (zxq (i + 1) rfl rfl (by first | rfl | omega) ⟨by omega, by omega⟩ ?_))
    refine zaq rfl rfl (zPq ?_)
    refine yGq (i + 1, s', .sl all base off) ⟨hi1, ⟨ho1, ho2⟩, done (by rw [hrl]; exact h64), by simp only [hrl]; exact h64⟩ (by simp only; omega) (yhq ⟨rfl, rfl, rfl, rfl, rfl, rfl, rfl, trivial⟩ rfl rfl)
 ·simp only at hi hok hfold hr64
  obtain rfl : i = ps.length := by have := ltI_not.1 hc1; simp only at this; omega
  rw [show (ps.map (·.1)).take ps.length = ps.map (·.1) by rw [List.take_of_length_le (by simp)]] at hfold
  have hT : (ps.map (·.1)).take ps.length = ps.map (·.1) := by rw [List.take_of_length_le (by simp)]
  have hdt : ∀ (all : List Nat) (off : Nat), ((bN all).drop off).take (all.length - off) = bN (all.drop off) := fun all off => by
   rw [List.take_of_length_le (by simp [jTq])]; simp [bN, List.map_drop]
  have bapp : ∀ a b : List Nat, bN a ++ bN b = bN (a ++ b) := fun a b => by simp [bN]
  have apur : ∀ all : List Nat, purW (.arr all.length 1 (bN all)) = true := fun all => vAq all
  refine jtq ?_
  refine k0q (by intro h; cases h) ?_
  refine j8q (by intro h; cases h) ?_
  refine vEq (z2q ?_)
  refine co_cut (α := Unit) (fun _ => True) (fun _ => [(5, .int .u64 (y0q (ps.map (·.1)) : Int)), (4, .sl 2 0 0 (r.r ++ [128]).length 1 none), (3, .ptr 1 0), (2, .ptr 0 0)]) (fun _ => hpS (.sl (r.r ++ [128]) 0 0) vnq s) (fun _ => 3) ?_ (fun a ha => ?_)
  ·skip
   cases r with
   | nil =>
    refine zkq (zaq rfl rfl (zvq rfl rfl (zvq rfl (keq rfl rfl (Z2q (news := bN [128]) (k := ti5) rfl rfl rfl rfl rfl (by simp [bN]) (by decide) (by decide))) ?_)))
    refine zaq rfl rfl (zPq ?_)
    refine ⟨rfl, (), trivial, ?_⟩
    exact qiq (b := 2) (k := 3) (by omega) (by omega) (by show 3 < 4; omega) ⟨⟨by show some (W.int .u64 ((y0q ((ps.map (·.1)).take ps.length) : Nat) : Int)) = _; rw [hT]; rfl, rfl⟩, ⟨rfl, rfl⟩, ⟨rfl, rfl⟩, ⟨rfl, rfl⟩, trivial⟩ ⟨⟨by omega, rfl, rfl⟩, ⟨by omega, rfl, rfl⟩, ⟨by omega, rfl, rfl⟩, trivial⟩ (by simp [hpS, Rst.hp])
   | sl all base off =>
    obtain ⟨ho1, ho2⟩ := hok
    simp only [Rst.r, List.length_drop] at hr64
    have hle : ((Rst.sl all base off).r ++ [128]).length = all.length - off + 1 := by simp [Rst.r]
    refine zkq (zaq rfl rfl (zvq rfl rfl (zvq rfl (keq rfl rfl (krq (news := bN [128]) (k := ti5) (v := .arr all.length 1 (bN all)) (off := off) rfl rfl rfl rfl rfl (by simp [bN]) (show (all.length - off + 1) * 1 ≤ 140737488355328 by omega) (show all.length - off + 1 ≤ 70368744177664 by omega) rfl (show all.length < off + (all.length - off + 1) * 1 by omega) rfl (uiq (by omega)))) ?_)))
    refine zaq rfl rfl (zPq ?_)
    refine ⟨rfl, (), trivial, ?_⟩
    refine qiq (b := 2) (k := 4) (by omega) (by omega) (by show 4 < 5; omega) ⟨⟨by show some (W.int .u64 ((y0q ((ps.map (·.1)).take ps.length) : Nat) : Int)) = _; rw [hT]; rfl, rfl⟩, ⟨?_, rfl⟩, ⟨rfl, rfl⟩, ⟨rfl, rfl⟩, trivial⟩ ⟨⟨by omega, ?_, zdq (apur _)⟩, ⟨by omega, rfl, rfl⟩, ⟨by omega, rfl, rfl⟩, trivial⟩ (by simp [hpS, Rst.hp])
    ·rw [hle]; rfl
    ·rw [zhq (apur _), hle, ← bapp]
     show some (5, W.arr ((all.length - off + 1) * 1) 1 (((bN all).drop off).take (all.length - off) ++ bN [128])) = _
     rw [hdt, Nat.mul_one]; rfl
  -- noughts
  have htm : ∀ n : Nat, ((n : Int)).tmod 64 = ((n % 64 : Nat) : Int) := fun n => by rw [Int.tmod_eq_emod_of_nonneg (by omega)]; omega
  have hA0 : (r.r ++ [128]).length ≤ 64 := by simp; omega
  generalize hA : r.r ++ [128] = A at *
  refine zFq (yiq ?_)
  refine quq (α := Nat) (fun j => ∀ i, i < j → (A.length + i) % 64 ≠ 56) (fun j => [(5, .int .u64 (y0q (ps.map (·.1)) : Int)), (4, .sl 2 0 0 (A ++ List.replicate j 0).length 1 none), (3, .ptr 1 0), (2, .ptr 0 0)]) (fun j => hpS (.sl (A ++ List.replicate j 0) 0 0) vnq s) (fun _ => 3) (fun _ => R) (fun j => 64 - j) 0 (fun i hi => absurd hi (by omega)) (by rw [List.replicate_zero, List.append_nil]; exact Ent.refl) (fun j hj => ?_)
  have hj64 : j < 64 := by
   refine Nat.lt_of_not_le fun h => ?_
   have := hj ((56 + 64 - A.length % 64) % 64) (by omega)
   omega
  have hlj : (A ++ List.replicate j 0).length = A.length + j := by simp
  refine zFq (zFq (zkq (zaq rfl rfl (zwq rfl rfl (show _ = W.int .i64 ((A ++ List.replicate j 0).length : Int) by first | rfl | (simp [jTq]; done) | (simp [jTq]; rfl)) ?_))))
  refine zwq rfl rfl (congrArg (W.int .i64) (htm _)) (zaq rfl rfl (zPq ?_))
  refine z2q ?_
  refine jaq rfl (fun hc3 => ?_) (fun hc3 => ?_)
  ·have hne : (A.length + j) % 64 ≠ 56 := by
    have := hc3
    simp only [Bool.not_eq_true'] at this
    have := eqI_not.1 this
    rw [hlj] at this; omega
   refine qfq (z2q (yiq (zkq (zaq rfl rfl (zvq rfl rfl (zvq rfl (keq rfl rfl (krq (news := bN [0]) (k := ti5) (v := .arr (A ++ List.replicate j 0).length 1 (bN (A ++ List.replicate j 0))) (off := 0) rfl rfl rfl rfl rfl (by simp [bN]) (show ((A ++ List.replicate j 0).length + 1) * 1 ≤ 140737488355328 by omega) (show (A ++ List.replicate j 0).length + 1 ≤ 70368744177664 by omega) rfl (show (A ++ List.replicate j 0).length < 0 + ((A ++ List.replicate j 0).length + 1) * 1 by omega) rfl (uiq (by omega)))) ?_))))))
   refine zaq rfl rfl (zPq ?_)
   refine qYq (by intro i h; cases h) ?_
   have hrep : A ++ List.replicate (j + 1) 0 = (A ++ List.replicate j 0) ++ [0] := by rw [List.append_assoc, ← List.replicate_succ']
   refine yGq (j + 1) (fun i hi => ?_) (by omega) (qiq (b := 2) (k := 4) (by omega) (by omega) (by show 4 < 5; omega) ⟨⟨rfl, rfl⟩, ⟨?_, rfl⟩, ⟨rfl, rfl⟩, ⟨rfl, rfl⟩, trivial⟩ ⟨⟨by omega, ?_, zdq (apur _)⟩, ⟨by omega, rfl, rfl⟩, ⟨by omega, rfl, rfl⟩, trivial⟩ (by simp [hpS, Rst.hp]))
   ·rcases Nat.lt_succ_iff_lt_or_eq.1 hi with h | rfl
    ·exact hj i h
    ·exact hne
   ·rw [hrep]; exact mid1 _ 0
   ·rw [hrep]; exact mid2 _ 0
  ·have he : (A.length + j) % 64 = 56 := by
    have := hc3
    simp only [Bool.not_eq_false'] at this
    have := eqI_iff.1 this
    rw [hlj] at this; omega
   have hpz : padZ 64 A = A ++ List.replicate j 0 := padZ_spec 64 j A hj he (by omega)
   rw [← hpz]
   have hBl : (padZ 64 A).length < 200 := by rw [hpz, hlj]; omega
   have hB64 : (padZ 64 A).length % 64 = 56 := by rw [hpz, hlj]; exact he
   generalize hB : padZ 64 A = B at hBl hB64
   refine jtq ?_
   refine k0q (by intro h; cases h) ?_
   refine j8q (by intro h; cases h) ?_
   refine vEq (z2q (zFq (zFq (zkq (zaq rfl rfl (zPq ?_))))))
   refine z2q (yiq ?_)
   have h8 : ∀ k, k ≤ 8 → ((len8 (y0q (ps.map (·.1)))).take k).length = k := fun k hk => by simp [len8]; omega
   refine quq (α := Nat) (fun k => k ≤ 8) (fun k => [(8, .int .i64 (56 - 8 * (k : Int))), (5, .int .u64 (y0q (ps.map (·.1)) : Int)), (4, .sl 2 0 0 (B ++ (len8 (y0q (ps.map (·.1)))).take k).length 1 none), (3, .ptr 1 0), (2, .ptr 0 0)]) (fun k => hpS (.sl (B ++ (len8 (y0q (ps.map (·.1)))).take k) 0 0) vnq s) (fun _ => 3) (fun _ => R) (fun k => 8 - k) 0 (Nat.zero_le _) (by rw [List.take_zero, List.append_nil]; exact yhq ⟨rfl, rfl, rfl, rfl, rfl, trivial⟩ rfl rfl) (fun k hk => ?_)
   refine zFq (zFq (zkq (zaq rfl rfl (zaq rfl rfl (zPq ?_)))))
   refine z2q ?_
   refine jaq rfl (fun hc4 => ?_) (fun hc4 => ?_)
   ·have hk8 : k < 8 := by
     have := hc4
     simp only [Bool.not_eq_true'] at this
     have := ltI_not.1 this
     omega
    have hLk := h8 k hk
    have hll : (B ++ (len8 (y0q (ps.map (·.1)))).take k).length = B.length + k := by rw [List.length_append, hLk]
    have hnx : B ++ (len8 (y0q (ps.map (·.1)))).take (k + 1) = (B ++ (len8 (y0q (ps.map (·.1)))).take k) ++ [Nat.shiftRight (8 * y0q (ps.map (·.1)) % 18446744073709551616) (min (56 - 8 * k) 64) % 256] := by
     rw [List.take_add_one, ← List.append_assoc]
     congr 1
     have hq : k = 0 ∨ k = 1 ∨ k = 2 ∨ k = 3 ∨ k = 4 ∨ k = 5 ∨ k = 6 ∨ k = 7 := by omega
     rcases hq with rfl | rfl | rfl | rfl | rfl | rfl | rfl | rfl <;> rfl
    have hw8 : j3q .i64 (56 - 8 * (k : Int) - 8) = 56 - 8 * (k : Int) - 8 := ucq (k := .i64) ⟨by omega, by omega⟩
    refine qfq (z2q (zFq (yiq (zkq (zaq rfl rfl (zaq rfl rfl (zaq rfl rfl (zwq rfl rfl (show W.int .i64 (56 - 8 * (k : Int)) = W.int .i64 ((56 - 8 * k : Nat) : Int) by congr 1; omega) ?_))))))))
    refine zaq rfl rfl (zaq rfl rfl (zvq rfl rfl (zvq rfl (keq rfl rfl (krq (news := bN [Nat.shiftRight (8 * y0q (ps.map (·.1)) % 18446744073709551616) (min (56 - 8 * k) 64) % 256]) (k := ti5) (v := .arr (B ++ (len8 (y0q (ps.map (·.1)))).take k).length 1 (bN (B ++ (len8 (y0q (ps.map (·.1)))).take k))) (off := 0) rfl rfl rfl rfl rfl (by simp [bN]) (show ((B ++ (len8 (y0q (ps.map (·.1)))).take k).length + 1) * 1 ≤ 140737488355328 by omega) (show (B ++ (len8 (y0q (ps.map (·.1)))).take k).length + 1 ≤ 70368744177664 by omega) rfl (show (B ++ (len8 (y0q (ps.map (·.1)))).take k).length < 0 + ((B ++ (len8 (y0q (ps.map (·.1)))).take k).length + 1) * 1 by omega) rfl (uiq (by omega)))) ?_)))
    refine zaq rfl rfl (zPq ?_)
    refine qYq (by intro i h; cases h) ?_
    refine z2q (zkq (zaq rfl rfl (zwq (w := W.int .i64 (j3q .i64 (56 - 8 * (k : Int) - 8))) rfl rfl (show _ = W.int .i64 (56 - 8 * ((k + 1 : Nat) : Int)) by rw [hw8]; congr 1; omega) ?_)))
    refine zaq rfl rfl (zPq ?_)
    refine yGq (k + 1) (by omega) (by omega) (qiq (b := 2) (k := 4) (by omega) (by omega) (by show 4 < 5; omega) ⟨⟨rfl, rfl⟩, ⟨rfl, rfl⟩, ⟨?_, rfl⟩, ⟨rfl, rfl⟩, ⟨rfl, rfl⟩, trivial⟩ ⟨⟨by omega, ?_, zdq (apur _)⟩, ⟨by omega, rfl, rfl⟩, ⟨by omega, rfl, rfl⟩, trivial⟩ (by simp [hpS, Rst.hp]))
    ·rw [hnx]; exact mid1 _ _
    ·rw [hnx]; exact mid2 _ _
   ·obtain rfl : k = 8 := by
     have := hc4
     simp only [Bool.not_eq_false'] at this
     have := ltI_iff.1 this
     omega
    have ht8 : (len8 (y0q (ps.map (·.1)))).take 8 = len8 (y0q (ps.map (·.1))) := rfl
    rw [ht8]
    have hMl : (B ++ len8 (y0q (ps.map (·.1)))).length = B.length + 8 := by simp [len8]
    have hsha : shaN (ps.map (·.1)) = digN (jlq (B ++ len8 (y0q (ps.map (·.1)))).length s (B ++ len8 (y0q (ps.map (·.1))))) := by
     simp only [shaN, ← hfold, hA, hB]
    generalize hM : B ++ len8 (y0q (ps.map (·.1))) = M at hMl hsha
    refine jtq ?_
    refine k0q (by intro h; cases h) ?_
    refine j8q (by intro h; cases h) ?_
    refine vEq (z2q (zFq (yiq ?_)))
    refine quq (α := S8 × Nat × Nat) (fun b => b.2.2 ≤ M.length ∧ (M.length - b.2.2) % 64 = 0 ∧ jlq M.length s M = jlq (M.drop b.2.2).length b.1 (M.drop b.2.2)) (fun b => [(4, .sl 2 b.2.1 b.2.2 (M.length - b.2.2) 1 none), (3, .ptr 1 0), (2, .ptr 0 0)]) (fun b => hpS (.sl M b.2.1 b.2.2) vnq b.1) (fun _ => 3) (fun _ => R) (fun b => M.length - b.2.2) (s, 0, 0) ⟨Nat.zero_le _, by show (M.length - 0) % 64 = 0; omega, rfl⟩ (yhq ⟨rfl, rfl, rfl, trivial⟩ rfl rfl) (fun b hb5 => ?_)
    obtain ⟨s', base, off⟩ := b
    obtain ⟨ho, hmod, heat⟩ := hb5
    simp only at ho hmod heat
    refine zFq (zFq (zkq (zaq rfl rfl (zwq rfl rfl (show _ = W.int .i64 ((M.length - off : Nat) : Int) by first | rfl | (simp [jTq]; done) | (simp [jTq]; rfl)) ?_))))
    refine zaq rfl rfl (zPq ?_)
    refine z2q ?_
    refine jaq rfl (fun hc5 => ?_) (fun hc5 => ?_)
    ·have h1 : 1 ≤ M.length - off := by have := ltI_iff.1 hc5; omega
     have h64 : 64 ≤ M.length - off := by omega
     have hpa : purW (.arr M.length 1 (bN M)) = true := vAq M
     have hby : ∀ k, k < 64 → ygq 50 (.arr M.length 1 (bN M)) (off + 0 * 1 + k * 1) 1 false = some (.int .u8 (.ofNat (atL (M.drop off) k))) := fun k hk => by
      have := bN_at (l := M) (i := off + k) (by omega)
      refine jhq ?_ rfl
      rw [Nat.zero_mul, Nat.add_zero, Nat.mul_one, this]
      simp [atL, List.getD, List.getElem?_drop]
     refine qfq (z2q (zFq (yiq (zkq (zaq rfl rfl (zaq rfl (cut_hi (h := 64) rfl rfl rfl rfl rfl rfl rfl h64) ?_))))))
     (refine zrq rfl (yCq (ext := [1, 2]) (ws := [.ptr 0 0, .sl 1 base (off + 0 * 1) (64 - 0) 1 none]) rfl rfl rfl rfl rfl (fun R => block_s s' (atL (M.drop off)) (.arr M.length 1 (bN M)) base _ none 5 (zdq hpa) hby R) (by decide) (by intro b hb; simp only [List.mem_cons, List.not_mem_nil, or_false] at hb; show b < 3; omega) (by simp) (vdq rfl (by rw [zhq hpa]; rfl) rfl (zdq hpa)) rfl ?_); rintro w hp1 nw1 ⟨rfl, rfl, rfl⟩)
     refine zPq ?_
     refine qYq (by intro i h; cases h) ?_
     refine z2q (zkq (zaq rfl rfl (zaq rfl (cut_lo (l := 64) rfl rfl rfl rfl rfl rfl rfl h64 rfl) (zaq rfl rfl (zPq ?_)))))
     refine yGq (jRq (atL (M.drop off)) s', off, off + 64) ⟨by simp only; omega, by simp only; omega, ?_⟩ (by simp only; omega) (qeq (by omega) (Nat.le_refl _) ⟨?_, rfl, rfl, trivial⟩ rfl (qhq ⟨⟨by omega, by show some (5, renW _ (W.arr M.length 1 (bN M))) = _; rw [zhq hpa], zdq hpa⟩, ⟨by omega, rfl, rfl⟩, ⟨by omega, rfl, rfl⟩, trivial⟩) (by simp [hpS, Rst.hp]))
     ·rw [heat, eatAll_step (by simp; omega), List.drop_drop]
     ·show some (W.sl 2 off (off + 64 * 1) (M.length - off - 64) 1 (qyq 64 none)) = some (W.sl 2 off (off + 64) (M.length - (off + 64)) 1 none)
      rw [Nat.sub_sub]; rfl
    ·have h0 : M.length - off = 0 := by have := ltI_not.1 hc5; omega
     have hend : jlq M.length s M = s' := by
      rw [heat, List.drop_of_length_le (by omega)]; rfl
     rw [hend] at hsha
     refine jtq ?_
     refine k0q (by intro h; cases h) ?_
     refine j8q (by intro h; cases h) ?_
     refine vEq (z2q (zFq (zFq (zkq (zaq rfl rfl (zPq ?_))))))
     refine z2q (yiq ?_)
     have htd4 : ∀ n : Nat, ((n : Int)).tdiv 4 = ((n / 4 : Nat) : Int) := fun n => by rw [Int.tdiv_eq_ediv_of_nonneg (by omega)]; omega
     have htm4 : ∀ n : Nat, ((n : Int)).tmod 4 = ((n % 4 : Nat) : Int) := fun n => by rw [Int.tmod_eq_emod_of_nonneg (by omega)]; omega
     refine quq (α := Nat) (fun i => i ≤ 32) (fun i => [(64, .int .i64 (i : Int)), (3, .ptr 1 0), (2, .ptr 0 0)]) (fun i => hpS (.sl M base off) (.arr 32 1 (bN (dI s' i))) s') (fun _ => 3) (fun _ => R) (fun i => 32 - i) 0 (Nat.zero_le _) (yhq ⟨rfl, rfl, rfl, trivial⟩ rfl rfl) (fun i hi => ?_)
     refine zFq (zkq (zaq rfl rfl (zPq ?_)))
     refine z2q (zFq ?_)
     refine jaq rfl (fun hc6 => ?_) (fun hc6 => ?_)
     ·have hi32 : i < 32 := by have := ltI_iff.1 hc6; omega
      refine qfq (z2q (zFq (yiq (zFq (zkq (zaq rfl rfl (zaq rfl rfl (zPq ?_))))))))
      refine z2q (zkq (zaq rfl rfl (zaq rfl rfl (zxq (i / 4) rfl rfl (htd4 i) ⟨by omega, by omega⟩ ?_))))
      refine zaq rfl (ztq (i := i / 4) rfl rfl rfl rfl rfl rfl (by omega)) ?_
      refine zvq rfl (yIq rfl rfl rfl (jhq (S8_at s' (by omega)) rfl)) ?_
      refine zaq rfl rfl (zwq rfl rfl (congrArg (W.int .i64) (htm4 i)) (zxq (8 * (i % 4)) rfl rfl (by first | rfl | omega) ⟨by omega, by omega⟩ ?_))
      refine zxq (24 - 8 * (i % 4)) rfl rfl (by first | rfl | omega) ⟨by omega, by omega⟩ ?_
      refine zaq rfl rfl (zaq rfl rfl (zaq rfl (ztq (i := i) rfl rfl rfl rfl rfl rfl (by omega)) ?_))
      refine zvq rfl (v5q rfl rfl rfl rfl rfl (xtq (dI_at s' hi32) rfl rfl) rfl) (zPq ?_)
      refine qYq (by intro i h; cases h) ?_
      refine z2q (zkq ?_)
      first | refine yxq rfl rfl ⟨by omega, by omega⟩ ?_ | refine zaq rfl rfl ?_
      refine zaq rfl rfl (zPq ?_)
      refine yGq (i + 1) (by omega) (by omega) (yhq ⟨rfl, rfl, rfl, trivial⟩ ?_ rfl)
      exact congrArg (fun L => hpS (.sl M base off) (.arr 32 1 L) s') (dI_set s' hi32)
     ·obtain rfl : i = 32 := by have := ltI_not.1 hc6; omega
      refine jtq ?_
      refine k0q (by intro h; cases h) ?_
      refine j8q (by intro h; cases h) ?_
      refine vEq (z2q (zFq (zkq (zvq rfl rfl (zvq rfl rfl (zPq ?_))))))
      refine z2q (co_ret ?_)
      refine fin (.inr rfl) Ent.refl rfl ⟨rfl, ?_⟩
      rw [hsha]
      have : dI s' 32 = digN s' := by simp [dI, List.take_of_length_le, vUq]
      rw [← this]
end Go.Proofs.YtgeelfdgnehdnaaDoor
namespace Go.Proofs.YtgeelfdgnehdnaaDoor
open Go.RowKit
set_option linter.unusedSimpArgs false
set_option linter.unusedVariables false
mutual
theorem Zcq {τ : Nat → Nat} {b : Nat} (h : ∀ i, i < b → τ i = i) : ∀ {w : W}, refB b w = true → renW τ w = w
 | .ptr c o, hw => by simp only [renW]; rw [h c (of_decide_eq_true hw)]
 | .sl c _ _ _ _ _, hw => by simp only [renW]; rw [h c (of_decide_eq_true hw)]
 | .fz l _ _, hw => by simp only [renW]; rw [kEq h (l := l) hw]
 | .fel x, hw => by simp only [renW]; rw [Zcq h (w := x) hw]
 | .fn _ a c, hw => by
  simp only [refB, Bool.and_eq_true] at hw
  simp only [renW]; rw [kEq h (l := a) hw.1, kEq h (l := c) hw.2]
 | .iface _ v, hw => by simp only [renW]; rw [Zcq h (w := v) hw]
 | .agg _ l, hw => by simp only [renW]; rw [kEq h (l := l) hw]
 | .arr _ _ l, hw => by simp only [renW]; rw [kEq h (l := l) hw]
 | .tup l, hw => by simp only [renW]; rw [kEq h (l := l) hw]
 | .undef, _ => rfl
 | .bool _, _ => rfl
 | .int _ _, _ => rfl
 | .str _, _ => rfl
 | .nilp, _ => rfl
 | .nils, _ => rfl
 | .nilm, _ => rfl
 | .yield _, _ => rfl
 | .nilf, _ => rfl
 | .nili, _ => rfl
theorem kEq {τ : Nat → Nat} {b : Nat} (h : ∀ i, i < b → τ i = i) : ∀ {l : List W}, refL b l = true → y6q τ l = l
 | [], _ => rfl
 | w :: l, hw => by
  simp only [refL, Bool.and_eq_true] at hw
  simp only [y6q]; rw [Zcq h (w := w) hw.1, kEq h (l := l) hw.2]
end
mutual
theorem upq {b c : Nat} (h : b ≤ c) : ∀ {w : W}, refB b w = true → refB c w = true
 | .ptr d o, hw => decide_eq_true (Nat.lt_of_lt_of_le (of_decide_eq_true hw) h)
 | .sl d _ _ _ _ _, hw => decide_eq_true (Nat.lt_of_lt_of_le (of_decide_eq_true hw) h)
 | .fz l _ _, hw => jKq h (l := l) hw
 | .fel x, hw => upq h (w := x) hw
 | .fn _ a d, hw => by
  simp only [refB, Bool.and_eq_true] at hw ⊢
  exact ⟨jKq h hw.1, jKq h hw.2⟩
 | .iface _ v, hw => upq h (w := v) hw
 | .agg _ l, hw => jKq h (l := l) hw
 | .arr _ _ l, hw => jKq h (l := l) hw
 | .tup l, hw => jKq h (l := l) hw
 | .undef, _ => rfl
 | .bool _, _ => rfl
 | .int _ _, _ => rfl
 | .str _, _ => rfl
 | .nilp, _ => rfl
 | .nils, _ => rfl
 | .nilm, _ => rfl
 | .yield _, _ => rfl
 | .nilf, _ => rfl
 | .nili, _ => rfl
theorem jKq {b c : Nat} (h : b ≤ c) : ∀ {l : List W}, refL b l = true → refL c l = true
 | [], _ => rfl
 | w :: l, hw => by
  simp only [refL, Bool.and_eq_true] at hw ⊢
  exact ⟨upq h hw.1, jKq h hw.2⟩
end
noncomputable def gW (b e : Nat) : List W → W
 | [] => .nils
 | x :: r => .sl b 0 0 (x :: r).length e none
noncomputable def gH (b : Nat) (ty : TypeId) (e : Nat) : List W → HpW
 | [] => []
 | x :: r => [(b, ty, .arr ((x :: r).length * e) e (x :: r))]
noncomputable def evG : List W → EvW
 | [] => .gen
 | _ :: _ => .dirty
theorem gW_some {b e : Nat} {l : List W} (h : l ≠ []) : gW b e l = .sl b 0 0 l.length e none := by cases l with
 | nil => exact absurd rfl h
 | cons x r => rfl
theorem gH_some {b e : Nat} {ty : TypeId} {l : List W} (h : l ≠ []) : gH b ty e l = [(b, ty, .arr (l.length * e) e l)] := by cases l with
 | nil => exact absurd rfl h
 | cons x r => rfl
section
variable {C : Cfg} {nw : Nat} {ts tx ty : TypeId} {j k : TyI} {x : W} {news l : List W} {b : Nat} {H0 : HpW}
theorem hdel_pre {b : Nat} {x : TypeId × W} : ∀ {P : HpW}, (∀ p ∈ P, p.1 ≠ b) → hdel (P ++ [(b, x)]) b = P
 | [], _ => by
  show (match Nat.beq b b with | true => [] | false => _) = []
  rw [Nat.beq_refl]
 | (c, y) :: P, h => by
  have hc := h (c, y) (List.mem_cons_self ..)
  have e : Nat.beq c b = false := by
   cases q : Nat.beq c b with
   | true => exact absurd (Nat.eq_of_beq_eq_true q) hc
   | false => rfl
  show (match Nat.beq c b with | true => P ++ [(b, x)] | false => (c, y) :: hdel (P ++ [(b, x)]) b) = _
  rw [e]
  exact congrArg _ (hdel_pre fun p hp => h p (List.mem_cons_of_mem _ hp))
theorem Qoq {b : Nat} {x : TypeId × W} : ∀ {P : HpW}, (∀ p ∈ P, p.1 ≠ b) → hget (P ++ [(b, x)]) b = some x
 | [], _ => by rw [List.nil_append, zCq, if_pos rfl]
 | (c, y) :: P, h => by
  rw [List.cons_append, zCq, if_neg fun e => h (c, y) (List.mem_cons_self ..) e]
  exact Qoq fun p hp => h p (List.mem_cons_of_mem _ hp)
theorem app_gr (P : HpW) {e : Nat} {hp : HpW} (he : e = k.size) (hj : C.ty ts = some j) (hd : j.d = .slice ty) (hk : C.ty ty = some k) (hz : Nat.beq k.size 0 = false) (hs : srcW C hp tx k.size x = some news) (hn : news ≠ []) (h1 : (l.length + news.length) * k.bytes ≤ 140737488355328) (h2 : l.length + news.length ≤ 70368744177664)
  (hg : hp = P ++ gH b ty e l) (hP : ∀ p ∈ P, p.1 ≠ b) :
  appW C hp nw ts tx (gW b e l) x = some (.sl nw 0 0 (l ++ news).length e none, (nw, ty, .arr ((l ++ news).length * e) e (l ++ news)) :: P, nw + 1, evG l) := by
 subst he
 have hk0 : 0 < k.size := by
  rcases Nat.eq_zero_or_pos k.size with h0 | h0
  ·rw [h0] at hz; cases hz
  ·exact h0
 have hnl : 0 < news.length := by cases news with
  | nil => exact absurd rfl hn
  | cons _ _ => simp
 cases l with
 | nil =>
  simp only [List.length_nil, Nat.zero_add] at h1 h2
  rw [show gW b k.size [] = .nils from rfl, Z2q hj hd hk hz hs hn h1 h2, hg, show gH b ty k.size [] = [] from rfl, List.append_nil]
  rfl
 | cons y r =>
  have hget : hget hp b = some (ty, .arr ((y :: r).length * k.size) k.size (y :: r)) := by rw [hg]; exact Qoq hP
  rw [show gW b k.size (y :: r) = .sl b 0 0 (y :: r).length k.size none from rfl, krq hj hd hk hz hs hn h1 h2 hget (by
   show (y :: r).length * k.size < 0 + ((y :: r).length + news.length) * k.size
   rw [Nat.zero_add]
   exact Nat.mul_lt_mul_of_pos_right (by omega) hk0) (by rw [Nat.beq_refl]) (yDq hk0 rfl rfl)]
  rw [hg, show gH b ty k.size (y :: r) = [(b, ty, .arr ((y :: r).length * k.size) k.size (y :: r))] from rfl, hdel_pre hP, List.length_append]
  rfl
end
theorem view_g {b e : Nat} {ty : TypeId} {l : List W} {H0 : HpW} (he : 0 < e) (hl : purL l = true) (hP : ∀ p ∈ H0, p.1 ≠ b) : View (blkA (H0 ++ gH b ty e l)) (gW b e l) (.fz l e false) := by
 cases l with
 | nil => exact .nilfz
 | cons y r => exact .sl (c := .arr ((y :: r).length * e) e (y :: r)) (by
   unfold blkA
   rw [show H0 ++ gH b ty e (y :: r) = H0 ++ [(b, ty, .arr ((y :: r).length * e) e (y :: r))] from rfl, Qoq hP]) hl (yDq he rfl rfl) (by intro h; cases h)
section
variable {C : Cfg} {G : Nat → Option W} {m k0 : Nat} {rd : Bool} {fr fr2 : FrW} {hp hp' : HpW} {nw nw' : Nat} {R : Res} {Q : qgq} {c : Code}
theorem ent_up (hf : subF fr fr2) : Ent C G m k0 fr hp nw R fr2 hp (nw + 1) R := fun Γ X st hnw hmn s => by
 let Γ2 : Ctx := ⟨nw + 1, Γ.σ, Γ.D, Γ.h⟩
 have le : Γ.Le Γ2 := ⟨by rw [hnw]; exact Nat.le_succ _, fun _ _ => rfl, fun _ h => h, fun _ _ => rfl⟩
 refine ⟨Γ2, X, rfl, ⟨s.hh, fun t w hw => ?_, ⟨s.sat.wf, fun b ty w hb => ?_, s.sat.inj, s.sat.nd, s.sat.dX, s.sat.xlt, s.sat.dlt, s.sat.res, s.sat.gl⟩, s.ds, s.nd⟩, ⟨fun _ _ => rfl, fun h => Nat.le_trans h le.nw, Nat.le_refl _, fun _ _ _ _ => rfl, fun _ h => h, fun _ h => .inl h, fun b x _ h => ⟨x, h⟩, fun b x hb h => .inr ⟨b, x, hb, h, rfl⟩, fun _ h => .inl h, fun _ h _ _ => h⟩⟩
 ·obtain ⟨v, g3, g4⟩ := s.fr _ _ (vJq hf t w hw)
  exact ⟨v, g3, g4.mono le⟩
 ·obtain ⟨q1, q2, q3, v, q4, q5⟩ := s.sat.own _ _ _ hb
  exact ⟨Nat.lt_of_lt_of_le q1 le.nw, q2, q3, v, q4, q5.mono le⟩
theorem subR_low {k : Nat} : ∀ {l : FrW}, subF fr l → refF nw l → subR (tau1 nw k) (nw + 1) fr l
 | [], _, _ => trivial
 | (t, w) :: l, h, r => ⟨⟨by rw [Zcq (fun i hi => j4q (by omega)) r.1]; exact h.1, upq (Nat.le_succ _) r.1⟩, subR_low h.2 r.2⟩
theorem subRH_low {k : Nat} : ∀ {l : HpW}, subH hp nw l → subRH (tau1 nw k) (nw + 1) hp l
 | [], _ => trivial
 | (b, x) :: l, h => ⟨⟨Nat.lt_succ_of_lt h.1.1, by rw [j4q (by have := h.1.1; omega), Zcq (fun i hi => j4q (by omega)) h.1.2.2]; exact h.1.2.1, upq (Nat.le_succ _) h.1.2.2⟩, subRH_low h.2⟩
theorem subH_lt : ∀ {l : HpW}, subH hp nw l → ∀ p ∈ l, p.1 < nw
 | [], _, p, h => by simp at h
 | (b, x) :: l, h, p, hp => by
  rcases List.mem_cons.1 hp with rfl | hp
  ·exact h.1.1
  ·exact subH_lt h.2 p hp
theorem subRH_app {τ : Nat → Nat} {n : Nat} {b : HpW} : ∀ {a : HpW}, subRH τ n hp a → subRH τ n hp b → subRH τ n hp (a ++ b)
 | [], _, h => h
 | _ :: _, h, h2 => ⟨h.1, subRH_app h.2 h2⟩
theorem nodup_g {H0 : HpW} {b e : Nat} {ty : TypeId} {l2 : List W} (hh : ∀ p ∈ H0, p.1 < b) (nd : (H0.map (·.1)).Nodup) : ((H0 ++ gH b ty e l2).map (·.1)).Nodup := by
 cases l2 with
 | nil => rw [show gH b ty e [] = [] from rfl, List.append_nil]; exact nd
 | cons x r =>
  rw [show gH b ty e (x :: r) = [(b, ty, .arr ((x :: r).length * e) e (x :: r))] from rfl, List.map_append, List.nodup_append]
  refine ⟨nd, by simp, fun a ha c hc q => ?_⟩
  obtain ⟨p, h1, h2⟩ := List.mem_map.1 ha
  have := hh p h1
  simp only [List.map_cons, List.map_nil, List.mem_cons, List.not_mem_nil, or_false] at hc
  omega
theorem co_loopG {α : Type} (I : α → Prop) (s : Nat) (L : α → List W) (ty : TypeId) (e : Nat) (V : α → FrW) (kf : FrW) (H0 : HpW) (μ : α → Nat) (a0 : α) (hk : subF fr kf) (h0 : I a0) (hv : subF fr (V a0)) (hL : L a0 = []) (hs : getW fr s = some .nils) (hh : hp = H0)
  (step : ∀ a, I a → CoW C G m k0 rd c ((s, gW nw e (L a)) :: (V a ++ kf)) (H0 ++ gH nw ty e (L a)) (nw + 1) R (xMq C G m k0 I (fun a => (s, gW nw e (L a)) :: (V a ++ kf)) (fun a => H0 ++ gH nw ty e (L a)) (fun _ => nw + 1) (fun _ => R) μ (μ a) Q)) : CoW C G m k0 rd (.loop c) fr hp nw R Q := by
 subst hh
 refine quq I (fun a => (s, gW nw e (L a)) :: (V a ++ kf)) (fun a => hp ++ gH nw ty e (L a)) (fun _ => nw + 1) (fun _ => R) μ a0 h0 ?_ step
 have := ent_up (C := C) (G := G) (m := m) (k0 := k0) (fr := fr) (fr2 := (s, gW nw e (L a0)) :: (V a0 ++ kf)) (hp := hp) (nw := nw) (R := R) ⟨by rw [hL]; exact hs, jgq hv hk⟩
 rw [hL] at this ⊢
 rw [show gH nw ty e [] = [] from rfl, List.append_nil]
 exact this
theorem ent_grown {b : Nat} {ty : TypeId} {e : Nat} {H0 : HpW} {l2 : List W} {n : Nat} (k s : Nat) (hm : m ≤ b) (hk : b ≤ k) (hk2 : k < nw) (hne : l2 ≠ []) (hs : getW fr s = some (.sl k 0 0 n e none)) (hn : n = l2.length) (hf : subF fr fr2) (hr : refF b fr2) (hg : hget hp k = some (ty, .arr (n * e) e l2)) (hp2 : purL l2 = true) (hh : subH hp b H0) (nd : (H0.map (·.1)).Nodup) :
  Ent C G m k0 fr hp nw R ((s, gW b e l2) :: fr2) (H0 ++ gH b ty e l2) (b + 1) R := by
 subst hn
 have hpa : purW (.arr (l2.length * e) e l2) = true := hp2
 refine qiq (b := b) (k := k) hm hk hk2 ?_ ?_ (nodup_g (subH_lt hh) nd)
 ·rw [gW_some hne]
  refine ⟨⟨?_, by simp [refB]⟩, subR_low hf hr⟩
  rw [hs]
  simp only [renW, uXq]
 ·rw [gH_some hne]
  refine subRH_app (subRH_low hh) ⟨⟨Nat.lt_succ_self _, ?_, zdq hpa⟩, trivial⟩
  rw [uXq, hg, zhq hpa]
noncomputable def hdAll (ext : List Nat) (nw : Nat) (hp : HpW) : HpW → Prop
 | [] => True
 | (i, ty, w) :: l => (i < ext.length ∧ refB ext.length w = true ∧ ∃ b, ext[i]? = some b ∧ hget hp b = some (ty, renW (numC ext nw) w)) ∧ hdAll ext nw hp l
theorem q6q {ext : List Nat} {nw : Nat} {hp : HpW} : ∀ {l : HpW}, hdAll ext nw hp l → Handed ext nw l hp
 | [], _ => fun i ty w h => by simp [hget] at h
 | (j, ty', w') :: l, hs => fun i ty w h => by
  rw [zCq] at h
  split at h
  ·rename_i e
   subst e
   cases h
   exact hs.1
  ·exact q6q hs.2 i ty w h
theorem ent_view (fr2 : FrW) (hf : subV (fun _ => none) fr fr2) : Ent C G m k0 fr hp nw R fr2 hp nw R := fun Γ X st h1 _ s =>
 ⟨Γ, X, h1, ⟨s.hh, fun t w hw => by
  obtain ⟨w0, g1, g2⟩ := vIq hf t w hw
  obtain ⟨v, g3, g4⟩ := s.fr t w0 g1
  exact ⟨v, g3, v1q ⟨fun _ h _ => h, fun _ _ _ => rfl, fun _ h => h, fun _ _ => rfl, fun _ _ _ h => (by cases h)⟩ g2 g4⟩, s.sat, s.ds, s.nd⟩, Frm.refl _ _ _ _⟩
noncomputable def subVH (blk : Nat → Option W) (b : Nat) (hp : HpW) : HpW → Prop
 | [] => True
 | (k, ty, w) :: l => (k ≠ b ∧ ∃ w0, hget hp k = some (ty, w0) ∧ View blk w0 w) ∧ subVH blk b hp l
theorem subVH_get {blk : Nat → Option W} {b : Nat} : ∀ {l : HpW}, subVH blk b hp l → ∀ k ty w, hget l k = some (ty, w) → k ≠ b ∧ ∃ w0, hget hp k = some (ty, w0) ∧ View blk w0 w
 | [], _, k, ty, w, h => by simp [hget] at h
 | (j, ty', w') :: l, hs, k, ty, w, h => by
  rw [zCq] at h
  split at h
  ·rename_i e
   subst e
   cases h
   exact hs.1
  ·exact subVH_get hs.2 k ty w h
theorem ent_fr1 (b : Nat) (fr2 : FrW) (hp2 : HpW) {ty : TypeId} {c : W} (hb : hget hp b = some (ty, c)) (hc : purW c = true) (hbm : m ≤ b) (hf : subV (blk1 b c) fr fr2) (hh : subVH (blk1 b c) b hp hp2) (nd : (hp2.map (·.1)).Nodup) : Ent C G m k0 fr hp nw R fr2 hp2 nw R :=
 ent_frz hb hc hbm (vIq hf) (subVH_get hh) nd
theorem co_loopG1 {α : Type} (I : α → Prop) (s : Nat) (L : α → List W) (ty : TypeId) (e : Nat) (V : α → FrW) (kf : FrW) (H0 : HpW) (b k : Nat) (μ : α → Nat) (a0 : α) {n : Nat} (hk : subF fr kf) (h0 : I a0) (hv : subF fr (V a0)) (hm : m ≤ b) (hbk : b ≤ k) (hkn : k < nw) (hne : L a0 ≠ []) (hs : getW fr s = some (.sl k 0 0 n e none)) (hn : n = (L a0).length)
  (hr : refF b (V a0)) (hr2 : refF b kf) (hg : hget hp k = some (ty, .arr (n * e) e (L a0))) (hp2 : purL (L a0) = true) (hh : subH hp b H0) (nd : (H0.map (·.1)).Nodup)
  (step : ∀ a, I a → CoW C G m k0 rd c ((s, gW b e (L a)) :: (V a ++ kf)) (H0 ++ gH b ty e (L a)) (b + 1) R (xMq C G m k0 I (fun a => (s, gW b e (L a)) :: (V a ++ kf)) (fun a => H0 ++ gH b ty e (L a)) (fun _ => b + 1) (fun _ => R) μ (μ a) Q)) : CoW C G m k0 rd (.loop c) fr hp nw R Q :=
 quq I (fun a => (s, gW b e (L a)) :: (V a ++ kf)) (fun a => H0 ++ gH b ty e (L a)) (fun _ => b + 1) (fun _ => R) μ a0 h0 (ent_grown k s hm hbk hkn hne hs hn (jgq hv hk) (uqq hr hr2) hg hp2 hh nd) step
theorem Qbq {α : Type} {I : α → Prop} {s : Nat} {L : α → List W} {ty : TypeId} {e : Nat} {V : α → FrW} {kf : FrW} {H0 : HpW} {μ : α → Nat} {kk : Nat} {fr' : FrW} {l2 : List W} {n : Nat} (k : Nat) (a : α) (ha : I a) (hμ : μ a < kk) (hm : m ≤ nw) (hL : L a = l2) (hne : l2 ≠ []) (hk : nw ≤ k) (hk2 : k < nw') (hs : getW fr' s = some (.sl k 0 0 n e none)) (hn : n = l2.length)
  (hv : subF fr' (V a)) (hkf : subF fr' kf) (hr : refF nw (V a)) (hr2 : refF nw kf) (hg : hget hp' k = some (ty, .arr (n * e) e l2)) (hp2 : purL l2 = true) (hh : subH hp' nw H0) (nd : (H0.map (·.1)).Nodup) :
  xMq C G m k0 I (fun a => (s, gW nw e (L a)) :: (V a ++ kf)) (fun a => H0 ++ gH nw ty e (L a)) (fun _ => nw + 1) (fun _ => R) μ kk Q .normal fr' hp' nw' R := by
 subst hL
 exact yGq a ha hμ (ent_grown k s hm hk hk2 hne hs hn (jgq hv hkf) (uqq hr hr2) hg hp2 hh nd)
noncomputable def PL (C : Cfg) (G : Nat → Option W) (f : FuncId) (ws : List W) (ty : TypeId) (e : Nat) (l : List W) : Prop := y8q C G f 0 ws [] fun w hp nw => w = gW 0 e l ∧ hp = gH 0 ty e l ∧ nw = 1
variable {ops : Array Oper} {l : List Oper} {K : FrW → HpW → Nat → Res → Prop} {hp2 : HpW} {nw2 : Nat} {R2 : Res}
theorem op_ent (e : ∀ k0, Ent C G m k0 fr hp nw R fr2 hp2 nw2 R2) (h : OpW C G m ops l fr2 hp2 nw2 R2 K) : OpW C G m ops l fr hp nw R K := fun Γ X frv hnw hm s hf => by
 obtain ⟨Γ2, X2, e1, e2, e3⟩ := e 0 Γ X ⟨frv, Γ.h, [], false⟩ hnw hm ⟨rfl, hf, s, by simp, List.nodup_nil⟩
 obtain ⟨n, frv', Γ', X', fr', hp', R', g1, g2, g3, g4, g5⟩ := h Γ2 X2 frv e1 (e1 ▸ e3.mle (hnw ▸ hm)) e2.sat e2.fr
 have hh : Γ.h = Γ2.h := e2.hh
 exact ⟨n, frv', Γ', X', fr', hp', R', by rw [hh]; exact g1, g2, g3, e3.trans g4, g5⟩
end
end Go.Proofs.YtgeelfdgnehdnaaDoor
namespace Go.Proofs.YtgeelfdgnehdnaaDoor
open Go.RowKit
set_option linter.unusedSimpArgs false
set_option linter.unusedVariables false
attribute [local irreducible] CoW OpW FlW Step Spec
theorem bytes_bN (l : List UInt8) : zgq l = bN (l.map UInt8.toNat) := by simp [zgq, bN]
theorem shaN_l (ps : List (List Nat)) : (shaN ps).length = 32 := by simp [shaN, digN]
theorem shaN_lt (ps : List (List Nat)) : ∀ n ∈ shaN ps, n < 256 := fun n h => by
 simp only [shaN, digN, List.mem_map] at h
 obtain ⟨i, _, rfl⟩ := h
 exact Nat.mod_lt _ (by decide)
noncomputable def shaD (ps : List (List UInt8)) : Dig := ⟨(shaN (ps.map fun p => p.map UInt8.toNat)).map UInt8.ofNat, by simp [shaN_l]⟩
theorem bytes_of {l : List Nat} (h : ∀ n ∈ l, n < 256) : zgq (l.map UInt8.ofNat) = bN l := by
 rw [bytes_bN, List.map_map]
 congr 1
 conv => rhs; rw [← List.map_id l]
 refine List.map_congr_left fun n hn => ?_
 have := h n hn
 simp; omega
theorem sha_s (ps : List (List UInt8 × Bool)) (f : Bool) (hb : ((ps.map (·.1)).map List.length).foldr (· + ·) 0 < 2147483648) (hn : ps.length < 2147483648) : PS cfg glK 44 [.fz (ps.map fun p => .fz (zgq p.1) 1 p.2) 1 f] (dW (shaD (ps.map (·.1)))) := fun R => by
 have e1 : (ps.map fun p => (p.1.map UInt8.toNat, p.2)).map Yhq = ps.map fun p => .fz (zgq p.1) 1 p.2 := by simp [Yhq, bytes_bN]
 have e2 : (ps.map fun p => (p.1.map UInt8.toNat, p.2)).map (·.1) = (ps.map (·.1)).map fun p => p.map UInt8.toNat := by simp
 have h := of_s (ps.map fun p => (p.1.map UInt8.toNat, p.2)) f (by rw [e2]; show (List.map List.length _).foldr _ 0 < _; rw [List.map_map]; simpa [Function.comp_def] using hb) (by simpa using hn) R
 rw [e1, e2] at h
 have e3 : dW (shaD (ps.map (·.1))) = .arr 32 1 (bN (shaN ((ps.map (·.1)).map fun p => p.map UInt8.toNat))) := by
  show W.arr 32 1 (zgq _) = _
  rw [← bytes_of (shaN_lt _)]; rfl
 show Spec cfg glK _ 0 _ [] R fun w hp nw R' => R' = R ∧ w = dW (shaD (ps.map (·.1)))
 rw [e3]
 exact h
def Zkq (p : List UInt8) : List UInt8 := beB 4 (p.length % 4294967296) ++ p
def tagB (kind : UInt8) (ps : List (List UInt8)) : List UInt8 := kind :: ps.flatMap Zkq
variable {G : Nat → Option W}
@[simp] theorem bWs_pur (ps : List (List UInt8)) : purL (ps.map bW) = true := u7q (fun x => by simp) ps
theorem flat_le {m : Nat} : ∀ {ps : List (List UInt8)} (i : Nat), (∀ p ∈ ps, p.length < m) → ((ps.take i).flatMap Zkq).length ≤ i * (m + 4)
 | [], i, _ => by simp
 | p :: ps, 0, _ => by simp
 | p :: ps, i + 1, h => by
  have h1 := flat_le (ps := ps) i fun q hq => h q (List.mem_cons_of_mem _ hq)
  have h2 := h p (List.mem_cons_self ..)
  simp only [List.take_succ_cons, List.flatMap_cons, List.length_append, Zkq, kdq, Nat.succ_mul]
  omega
theorem tbytes_s (kind : UInt8) (ps : List (List UInt8)) (f : Bool) (hn : ps.length < 1000000) (hb : ∀ p ∈ ps, p.length < 1000000) : PS cfg G 45 [.int .u8 (.ofNat kind.toNat), .fz (ps.map bW) 1 f] (bW (tagB kind ps)) := by
 have e : (ps.map bW).length = ps.length := List.length_map _
 refine Yvq (fn := Tryd.f45) rfl rfl rfl (Nat.le_of_ble_eq_true rfl) (fun R k0 => ?_)
 refine zpq 16 rfl ?_
 refine zwq (w' := .int .i64 (ps.length : Int)) rfl rfl (by rw [← e]; rfl) ?_
 refine zbq 4 rfl ?_
 refine co_loopG1 (α := Nat) (fun i => i ≤ ps.length) 5 (fun i => zgq (kind :: (ps.take i).flatMap Zkq)) 5 1 (fun i => [(14, .int .i64 (i : Int))]) [(4, _), (12, _), (13, _)] ([]) 0 0 (fun i => ps.length - i) (0) ⟨rfl, rfl, rfl, trivial⟩ (Nat.zero_le _) ⟨rfl, trivial⟩ (by omega) (by omega) (by first | omega | decide) (by simp [zgq]) rfl (by simp [zgq]) (by repeat (first | exact trivial | refine ⟨by first | rfl | exact zdq (by first | rfl | (simp; done)), ?_⟩)) (by repeat (first | exact trivial | refine ⟨by first | rfl | exact zdq (by first | rfl | (simp; done)), ?_⟩)) rfl (by first | rfl | assumption | (simp; done)) (by repeat (first | exact trivial | refine ⟨⟨by decide, rfl, by first | rfl | exact zdq (by first | rfl | (simp; done))⟩, ?_⟩)) (by first | decide | simp) (fun i hI => ?_)
 refine zpq 6 rfl ?_
 refine zQq rfl (fun h1 => ?_) (fun h1 => ?_)
 ·have hi : i < ps.length := by omega
  obtain ⟨x, hx⟩ : ∃ x, ps[i]? = some x := ⟨_, List.getElem?_eq_getElem hi⟩
  have hxl := hb x (List.mem_of_getElem? hx)
  have hfl : ((ps.take i).flatMap Zkq).length ≤ i * 1000004 := flat_le i hb
  have hL : (zgq (kind :: (ps.take i).flatMap Zkq)).length ≤ 1 + i * 1000004 := by rw [zJq, List.length_cons]; omega
  have hN : (zgq (beB 4 x.length)).length = 4 := by rw [zJq, kdq]
  have hnx : zgq (kind :: (ps.take (i + 1)).flatMap Zkq) = (zgq (kind :: (ps.take i).flatMap Zkq) ++ zgq (beB 4 x.length)) ++ zgq x := by
   rw [List.take_add_one, hx, ← jdq, ← jdq]
   congr 1
   simp [Zkq, Nat.mod_eq_of_lt (show x.length < 4294967296 by omega)]
  skip
  cases x with
  | nil =>
   refine zeq 6 rfl ?_
   refine zaq rfl (zIq (i := i) rfl rfl rfl rfl rfl rfl rfl (qlq bW hx)) ?_
   refine zbq 7 rfl ?_
   refine zwq (w' := .int .i64 (([] : List UInt8).length : Int)) rfl rfl (by show W.int .i64 ((zgq (([] : List UInt8))).length : Int) = _; rw [zJq]) ?_
   first | refine yxq rfl rfl ⟨by omega, by omega⟩ ?_ | refine zaq rfl rfl ?_
   first | refine yxq rfl rfl ⟨by omega, by omega⟩ ?_ | refine zaq rfl rfl ?_
   (refine zrq rfl (jYq rfl rfl rfl rfl rfl rfl (put_s ([] : List UInt8).length 4 (by omega) (by omega) (by show ([] : List UInt8).length < 4294967296; omega)) ?_); rintro w hp1 nw1 ⟨rfl, rfl, rfl⟩)
   refine zbq 10 rfl ?_
   refine zvq rfl (keq rfl rfl (app_gr [_] (k := ti5) (news := zgq (beB 4 ([] : List UInt8).length)) rfl rfl rfl rfl rfl (v7q rfl rfl rfl (yDq (by decide) hN.symm rfl)) (by intro h; rw [h] at hN; cases hN) (by rw [hN]; show (_ + 4) * 1 ≤ _; omega) (by rw [hN]; omega) rfl (by simp [numC]))) ?_
   refine zaq rfl rfl (zvq rfl (keq rfl rfl (app_sl0 (k := ti5) rfl rfl rfl rfl rfl)) ?_)
   refine zbq 5 rfl ?_
   first | refine yxq rfl rfl ⟨by omega, by omega⟩ ?_ | refine zaq rfl rfl ?_
   refine qFq 2 rfl ?_
   exact Qbq 2 (i + 1) (hi) (by omega) (Nat.zero_le _) (by rw [hnx]; exact List.append_nil _) (by first | assumption | (simp; done) | (simp [zgq]; done)) (by omega) (by first | omega | decide) rfl (by first | rfl | exact List.length_append.symm) ⟨rfl, trivial⟩ ⟨rfl, rfl, rfl, trivial⟩ (by repeat (first | exact trivial | refine ⟨by first | rfl | exact zdq (by first | rfl | (simp; done)), ?_⟩)) (by repeat (first | exact trivial | refine ⟨by first | rfl | exact zdq (by first | rfl | (simp; done)), ?_⟩)) rfl (by first | rfl | assumption | (simp; done)) (by repeat (first | exact trivial | refine ⟨⟨by decide, rfl, by first | rfl | exact zdq (by first | rfl | (simp; done))⟩, ?_⟩)) (by first | decide | simp)
  | cons c x =>
   refine zeq 6 rfl ?_
   refine zaq rfl (zIq (i := i) rfl rfl rfl rfl rfl rfl rfl (qlq bW hx)) ?_
   refine zbq 7 rfl ?_
   refine zwq (w' := .int .i64 ((c :: x).length : Int)) rfl rfl (by show W.int .i64 ((zgq ((c :: x))).length : Int) = _; rw [zJq]) ?_
   first | refine yxq rfl rfl ⟨by omega, by omega⟩ ?_ | refine zaq rfl rfl ?_
   first | refine yxq rfl rfl ⟨by omega, by omega⟩ ?_ | refine zaq rfl rfl ?_
   (refine zrq rfl (jYq rfl rfl rfl rfl rfl rfl (put_s (c :: x).length 4 (by omega) (by omega) (by show (c :: x).length < 4294967296; omega)) ?_); rintro w hp1 nw1 ⟨rfl, rfl, rfl⟩)
   refine zbq 10 rfl ?_
   refine zvq rfl (keq rfl rfl (app_gr [_] (k := ti5) (news := zgq (beB 4 (c :: x).length)) rfl rfl rfl rfl rfl (v7q rfl rfl rfl (yDq (by decide) hN.symm rfl)) (by intro h; rw [h] at hN; cases hN) (by rw [hN]; show (_ + 4) * 1 ≤ _; omega) (by rw [hN]; omega) rfl (by simp [numC]))) ?_
   refine zaq rfl rfl (zvq rfl (keq rfl rfl (krq (k := ti5) (len := (zgq (kind :: (ps.take i).flatMap Zkq) ++ zgq (beB 4 (c :: x).length)).length) (news := zgq (c :: x)) (olds := zgq (kind :: (ps.take i).flatMap Zkq) ++ zgq (beB 4 (c :: x).length)) rfl rfl rfl rfl rfl (by simp [zgq]) (by rw [List.length_append, hN, zJq (c :: x)]; show (_ + _) * 1 ≤ _; omega) (by rw [List.length_append, hN, zJq (c :: x)]; omega) rfl (by show (_ ++ _ : List W).length * 1 < 0 + ((_ ++ _ : List W).length + (zgq (c :: x)).length) * 1; rw [zJq (c :: x), List.length_cons]; omega) rfl (yDq (by decide) rfl rfl))) ?_)
   refine zbq 5 rfl ?_
   first | refine yxq rfl rfl ⟨by omega, by omega⟩ ?_ | refine zaq rfl rfl ?_
   refine qFq 2 rfl ?_
   exact Qbq 3 (i + 1) (hi) (by omega) (Nat.zero_le _) (hnx) (by first | assumption | (simp; done) | (simp [zgq]; done)) (by omega) (by first | omega | decide) rfl (by first | rfl | exact List.length_append.symm) ⟨rfl, trivial⟩ ⟨rfl, rfl, rfl, trivial⟩ (by repeat (first | exact trivial | refine ⟨by first | rfl | exact zdq (by first | rfl | (simp; done)), ?_⟩)) (by repeat (first | exact trivial | refine ⟨by first | rfl | exact zdq (by first | rfl | (simp; done)), ?_⟩)) rfl (by first | rfl | assumption | (simp; done)) (by repeat (first | exact trivial | refine ⟨⟨by decide, rfl, by first | rfl | exact zdq (by first | rfl | (simp; done))⟩, ?_⟩)) (by first | decide | simp)
 ·have hi : i = ps.length := by omega
  subst hi
  refine zeq 2 rfl ?_
  refine j8q (by intro h; cases h) ?_
  refine z5q 9 rfl ?_
  refine fin_v (by first | exact .inr rfl | exact .inl rfl) rfl ?_
  rw [List.take_length]
  exact view_g (H0 := []) (by decide) (by simp) (by simp)
theorem tag_le {m : Nat} (kind : UInt8) (ps : List (List UInt8)) (h : ∀ p ∈ ps, p.length < m) : (tagB kind ps).length ≤ 1 + ps.length * (m + 4) := by
 have := flat_le (m := m) ps.length h
 rw [List.take_length] at this
 simp only [tagB, List.length_cons]; omega
noncomputable def tagD (kind : UInt8) (ps : List (List UInt8)) : Dig := shaD [tagB kind ps]
theorem tagof_s (kind : UInt8) (ps : List (List UInt8)) (f : Bool) (hn : ps.length < 1000) (hb : ∀ p ∈ ps, p.length < 1000000) : PS cfg glK 19 [.int .u8 (.ofNat kind.toNat), .fz (ps.map bW) 1 f] (dW (tagD kind ps)) := by
 have hl := tag_le kind ps hb
 refine yqq (fn := Tryd.f19) rfl rfl rfl (Nat.le_of_ble_eq_true rfl) (fun R k0 => ?_)
 refine zpq 9 rfl ?_
 refine zjq rfl rfl rfl rfl rfl rfl (tbytes_s kind ps f (by omega) hb) ?_
 refine zvq rfl rfl ?_
 refine op_lk rfl rfl rfl rfl rfl (by (repeat (first | exact .nil | refine .cons ?_ ?_ | (refine .sl rfl ?_ rfl (by intro h; cases h); first | rfl | (focus (simp; done))) | (refine jXq rfl ?_ rfl; first | rfl | (focus (simp; done))) | (refine .pur ?_; first | rfl | (focus (simp; done)))))) (sha_s [(tagB kind ps, false)] false (by simp; omega) (by simp)) (by first | rfl | assumption | (simp; done)) (by first | rfl | assumption | (simp; done)) ?_
 refine zbq 4 rfl ?_
 exact zuq (.inr rfl) rfl rfl
noncomputable def keyD (k : Dig) : Dig := tagD 3 [k.1]
theorem key_s (k : Dig) : PS cfg glK 11 [dW k] (dW (keyD k)) := by
 refine yqq (fn := Tryd.f11) rfl rfl rfl (Nat.le_of_ble_eq_true rfl) (fun R k0 => ?_)
 refine zpq 10 rfl ?_
 refine op_lk rfl rfl rfl rfl rfl (.cons (.pur rfl) (.cons (.sl2 (full := false) rfl (.arr (.cons (.sl (full := false) (xs := zgq k.1) rfl (by simp) (yDq (by decide) (by simp [zJq, k.2]) rfl) (by intro h; cases h)) .nil)) rfl (by intro h; cases h)) .nil)) (tagof_s 3 [k.1] false (by simp) (by simp [k.2])) (by first | rfl | assumption | (simp; done)) (by first | rfl | assumption | (simp; done)) ?_
 refine zbq 4 rfl ?_
 exact zuq (.inr rfl) rfl rfl
end Go.Proofs.YtgeelfdgnehdnaaDoor
namespace Go.Proofs.YtgeelfdgnehdnaaDoor
open Go.RowKit
set_option linter.unusedSimpArgs false
set_option linter.unusedVariables false
attribute [local irreducible] CoW OpW FlW Step Spec
variable {G : Nat → Option W}
structure Tx where
 pub : Dig
 to : Dig
 nonce : Nat
 amount : Nat
 fee : Nat
 sign : Dig
noncomputable def txW (x : Tx) : W := .agg 99 [dW x.pub, dW x.to, .int .u64 (x.nonce : Int), .int .u64 (x.amount : Int), .int .u64 (x.fee : Int), dW x.sign]
@[simp] theorem v3q (x : Tx) : purW (txW x) = true := by simp [txW]
structure Tx.ok (x : Tx) : Prop where
 nonce : x.nonce < 18446744073709551616
 amount : x.amount < 18446744073709551616
 fee : x.fee < 18446744073709551616
def vHq (x : Tx) : List UInt8 := (x.pub.1 ++ x.to.1) ++ [x.nonce, x.amount, x.fee].flatMap (beB 8)
theorem body1_s (d : Dig) : PS cfg G 92 [dW d] (bW d.1) := by
 refine Yvq (fn := Tryd.f92) rfl rfl rfl (Nat.le_of_ble_eq_true rfl) (fun R k0 => ?_)
 refine zpq 13 rfl ?_
 exact fin_v (.inr rfl) rfl (.sl (full := false) (xs := zgq d.1) rfl (by simp) (yDq (by decide) (by simp [zJq, d.2]) rfl) (by intro h; cases h))
theorem body2_s (n : Nat) (hn : n < 18446744073709551616) : PS cfg G 94 [.int .u64 (n : Int)] (bW (beB 8 n)) := by
 refine Yvq (fn := Tryd.f94) rfl rfl rfl (Nat.le_of_ble_eq_true rfl) (fun R k0 => ?_)
 refine zpq 8 rfl ?_
 (refine zrq rfl (jYq rfl rfl rfl rfl rfl rfl (put_s n 8 (by omega) (by omega) (by show n < 18446744073709551616; omega)) ?_); rintro w hp1 nw1 ⟨rfl, rfl, rfl⟩)
 refine zbq 14 rfl ?_
 exact fin_v (.inr rfl) rfl (.sl (full := false) (c := .arr (8 * 1) 1 (zgq (beB 8 n))) (xs := zgq (beB 8 n)) rfl (by simp) (yDq (by decide) (by rw [zJq, kdq]) rfl) (by intro h; cases h))
theorem flat_app {ds : List Dig} {i : Nat} {d : Dig} (h : ds[i]? = some d) : zgq ((ds.take (i + 1)).flatMap (·.1)) = zgq ((ds.take i).flatMap (·.1)) ++ zgq d.1 := by
 rw [List.take_add_one, h, ← jdq]
 congr 1
 simp
theorem flat_dig : ∀ (ds : List Dig) (i : Nat), ((ds.take i).flatMap (·.1)).length ≤ i * 32
 | [], i => by simp
 | d :: ds, 0 => by simp
 | d :: ds, i + 1 => by
  have := flat_dig ds i
  simp only [List.take_succ_cons, List.flatMap_cons, List.length_append, d.2, Nat.succ_mul]
  omega
@[simp] theorem dWs_pur (ds : List Dig) : purL (ds.map dW) = true := u7q (fun x => by simp) ds
theorem putd_s (ds : List Dig) (f : Bool) (hn : ds.length < 1000) : PL cfg G 91 [.nils, .fz (ds.map dW) 32 f, .fn 92 [] []] 5 1 (zgq (ds.flatMap (·.1))) := by
 have e : (ds.map dW).length = ds.length := List.length_map _
 intro R
 refine zZq (fn := Tryd.f91) rfl rfl rfl (Nat.le_of_ble_eq_true rfl) (fun k0 => ?_)
 refine zpq 9 rfl ?_
 refine zwq (w' := .int .i64 (ds.length : Int)) rfl rfl (by rw [← e]; rfl) ?_
 refine zbq 4 rfl ?_
 refine co_loopG (α := Nat) (fun i => i ≤ ds.length) 0 (fun i => zgq ((ds.take i).flatMap (·.1))) 5 1 (fun i => [(11, .int .i64 (i : Int))]) [(2, _), (6, _), (9, _), (10, _)] _ (fun i => ds.length - i) (0) ⟨rfl, rfl, rfl, rfl, trivial⟩ (Nat.zero_le _) ⟨rfl, trivial⟩ rfl rfl rfl (fun i hI => ?_)
 refine zpq 6 rfl ?_
 refine zQq rfl (fun h1 => ?_) (fun h1 => ?_)
 ·have hi : i < ds.length := by omega
  obtain ⟨d, hd⟩ : ∃ d, ds[i]? = some d := ⟨_, List.getElem?_eq_getElem hi⟩
  have hN : (zgq d.1).length = 32 := by rw [zJq, d.2]
  have hne : zgq ((ds.take i).flatMap (·.1)) ++ zgq d.1 ≠ [] := fun h => by have := congrArg List.length h; rw [List.length_append, hN] at this; simp at this
  have hL : (zgq ((ds.take i).flatMap (·.1))).length ≤ i * 32 := by rw [zJq]; exact flat_dig ds i
  refine zeq 6 rfl ?_
  refine zaq rfl (zIq (i := i) rfl rfl rfl rfl rfl rfl rfl (qlq dW hd)) ?_
  refine zbq 9 rfl ?_
  refine zjq rfl rfl rfl rfl rfl rfl (body1_s d) ?_
  refine zvq rfl (keq rfl rfl (app_gr [_] (k := ti5) (news := zgq d.1) rfl rfl rfl rfl rfl rfl (by intro h; rw [h] at hN; cases hN) (by rw [hN]; show (_ + 32) * 1 ≤ _; omega) (by rw [hN]; omega) rfl (by simp))) ?_
  refine zbq 5 rfl ?_
  first | refine yxq rfl rfl ⟨by omega, by omega⟩ ?_ | refine zaq rfl rfl ?_
  refine qFq 2 rfl ?_
  exact Qbq 2 (i + 1) (hi) (by omega) (Nat.zero_le _) (flat_app hd) (by first | assumption | (simp; done) | (simp [zgq]; done)) (by omega) (by first | omega | decide) rfl (by first | rfl | exact List.length_append.symm) ⟨rfl, trivial⟩ ⟨rfl, rfl, rfl, rfl, trivial⟩ (by repeat (first | exact trivial | refine ⟨by first | rfl | exact zdq (by first | rfl | (simp; done)), ?_⟩)) (by repeat (first | exact trivial | refine ⟨by first | rfl | exact zdq (by first | rfl | (simp; done)), ?_⟩)) rfl (by first | rfl | assumption | (simp; done)) (by repeat (first | exact trivial | refine ⟨⟨by decide, rfl, by first | rfl | exact zdq (by first | rfl | (simp; done))⟩, ?_⟩)) (by first | decide | simp)
 ·have hi : i = ds.length := by omega
  subst hi
  refine zeq 2 rfl ?_
  refine j8q (by intro h; cases h) ?_
  refine z5q 9 rfl ?_
  rw [List.take_length]
  exact fin (.inr rfl) (yhq (fr2 := [(6, gW 0 1 (zgq (ds.flatMap (·.1))))]) ⟨rfl, trivial⟩ rfl rfl) rfl ⟨rfl, rfl, rfl, rfl⟩
theorem flat_num : ∀ (ns : List Nat) (i : Nat), ((ns.take i).flatMap (beB 8)).length ≤ i * 8
 | [], i => by simp
 | d :: ds, 0 => by simp
 | d :: ds, i + 1 => by
  have := flat_num ds i
  simp only [List.take_succ_cons, List.flatMap_cons, List.length_append, kdq, Nat.succ_mul]
  omega
noncomputable def uW (n : Nat) : W := .int .u64 (n : Int)
@[simp] theorem uWs_pur (ns : List Nat) : purL (ns.map uW) = true := u7q (fun x => rfl) ns
noncomputable def thr (i : Nat) : Nat := match i with
 | 0 => 0
 | _ + 1 => 1
theorem putu_s (l : List UInt8) (hl0 : l ≠ []) (hl : l.length < 100000) (ns : List Nat) (f : Bool) (hn : ns.length < 1000) (hns : ns ≠ []) (hu : ∀ n ∈ ns, n < 18446744073709551616) : y8q cfg G 93 1 [.sl 0 0 0 l.length 1 none, .fz (ns.map uW) 1 f, .fn 94 [] []] [(0, 5, .arr l.length 1 (zgq l))] fun w hp nw => w = .sl 1 0 0 (l ++ ns.flatMap (beB 8)).length 1 none ∧ hp = [(1, 5, .arr (l ++ ns.flatMap (beB 8)).length 1 (zgq (l ++ ns.flatMap (beB 8))))] ∧ nw = 2 := by
 have e : (ns.map uW).length = ns.length := List.length_map _
 intro R
 refine zZq (fn := Tryd.f93) rfl rfl rfl (Nat.le_of_ble_eq_true rfl) (fun k0 => ?_)
 refine zpq 9 rfl ?_
 refine zwq (w' := .int .i64 (ns.length : Int)) rfl rfl (by rw [← e]; rfl) ?_
 refine zbq 4 rfl ?_
 refine quq (α := Nat) (fun i => i ≤ ns.length) (fun i => [(11, .int .i64 (i : Int)), (0, .sl (thr i) 0 0 (l ++ (ns.take i).flatMap (beB 8)).length 1 none), (2, .fn 94 [] []), (6, .nils), (9, .fz (ns.map uW) 1 f), (10, .int .i64 (ns.length : Int))]) (fun i => [(thr i, 5, .arr (l ++ (ns.take i).flatMap (beB 8)).length 1 (zgq (l ++ (ns.take i).flatMap (beB 8))))]) (fun i => thr i + 1) (fun _ => R) (fun i => ns.length - i) 0 (Nat.zero_le _) (yhq ⟨rfl, by show some (W.sl 0 0 0 l.length 1 none) = some (W.sl 0 0 0 (l ++ []).length 1 none); rw [List.append_nil], rfl, rfl, rfl, rfl, trivial⟩ (by simp [thr]) rfl) (fun i hI => ?_)
 skip
 refine zpq 6 rfl ?_
 refine zQq rfl (fun h1 => ?_) (fun h1 => ?_)
 ·have hi : i < ns.length := by omega
  obtain ⟨u, hu0⟩ : ∃ u, ns[i]? = some u := ⟨_, List.getElem?_eq_getElem hi⟩
  have hu1 := hu u (List.mem_of_getElem? hu0)
  have hN : (zgq (beB 8 u)).length = 8 := by rw [zJq, kdq]
  have hL : (l ++ (ns.take i).flatMap (beB 8)).length ≤ 100000 + i * 8 := by have := flat_num ns i; rw [List.length_append]; omega
  have hnx : l ++ (ns.take (i + 1)).flatMap (beB 8) = (l ++ (ns.take i).flatMap (beB 8)) ++ beB 8 u := by rw [List.take_add_one, hu0]; simp
  have hlen : (l ++ (ns.take i).flatMap (beB 8)).length + (zgq (beB 8 u)).length = (l ++ (ns.take (i + 1)).flatMap (beB 8)).length := by rw [hnx, List.length_append (bs := beB 8 u), zJq]
  have hby : zgq (l ++ (ns.take i).flatMap (beB 8)) ++ zgq (beB 8 u) = zgq (l ++ (ns.take (i + 1)).flatMap (beB 8)) := by rw [hnx, jdq (b := beB 8 u)]
  skip
  cases i with
  | zero =>
   refine zeq 6 rfl ?_
   refine zaq rfl (zIq (i := 0) rfl rfl rfl rfl rfl rfl rfl (qlq uW hu0)) ?_
   refine zbq 8 rfl ?_
   refine zjq rfl rfl rfl rfl rfl rfl (body2_s u hu1) ?_
   refine zvq rfl (keq rfl rfl (krq (k := ti5) (len := (l ++ (ns.take 0).flatMap (beB 8)).length) (news := zgq (beB 8 u)) (olds := zgq (l ++ (ns.take 0).flatMap (beB 8))) rfl rfl rfl rfl rfl (by intro h; rw [h] at hN; cases hN) (by rw [hN]; show (_ + 8) * 1 ≤ _; omega) (by rw [hN]; omega) rfl (by rw [hN]; show (l ++ (ns.take 0).flatMap (beB 8)).length < 0 + (_ + 8) * 1; omega) rfl (yDq (by decide) (zJq _).symm (Nat.mul_one _).symm))) ?_
   refine zbq 5 rfl ?_
   refine zxq (0 + 1) rfl rfl (by first | rfl | omega) ⟨by omega, by omega⟩ ?_
   refine qFq 2 rfl ?_
   skip
   refine yGq 1 hi (by omega) (yhq ⟨rfl, ?_, rfl, rfl, rfl, rfl, trivial⟩ ?_ rfl)
   ·show some (W.sl 1 0 0 ((l ++ (ns.take 0).flatMap (beB 8)).length + (zgq (beB 8 u)).length) 1 none) = some (W.sl 1 0 0 (l ++ (ns.take (0 + 1)).flatMap (beB 8)).length 1 none)
    rw [hlen]
   ·show [(1, 5, W.arr (((l ++ (ns.take 0).flatMap (beB 8)).length + (zgq (beB 8 u)).length) * 1) 1 (zgq (l ++ (ns.take 0).flatMap (beB 8)) ++ zgq (beB 8 u)))] = [(1, 5, W.arr (l ++ (ns.take (0 + 1)).flatMap (beB 8)).length 1 (zgq (l ++ (ns.take (0 + 1)).flatMap (beB 8))))]
    rw [hlen, hby, Nat.mul_one]
  | succ i =>
   refine zeq 6 rfl ?_
   refine zaq rfl (zIq (i := (i + 1)) rfl rfl rfl rfl rfl rfl rfl (qlq uW hu0)) ?_
   refine zbq 8 rfl ?_
   refine zjq rfl rfl rfl rfl rfl rfl (body2_s u hu1) ?_
   refine zvq rfl (keq rfl rfl (krq (k := ti5) (len := (l ++ (ns.take (i + 1)).flatMap (beB 8)).length) (news := zgq (beB 8 u)) (olds := zgq (l ++ (ns.take (i + 1)).flatMap (beB 8))) rfl rfl rfl rfl rfl (by intro h; rw [h] at hN; cases hN) (by rw [hN]; show (_ + 8) * 1 ≤ _; omega) (by rw [hN]; omega) rfl (by rw [hN]; show (l ++ (ns.take (i + 1)).flatMap (beB 8)).length < 0 + (_ + 8) * 1; omega) rfl (yDq (by decide) (zJq _).symm (Nat.mul_one _).symm))) ?_
   refine zbq 5 rfl ?_
   refine zxq ((i + 1) + 1) rfl rfl (by first | rfl | omega) ⟨by omega, by omega⟩ ?_
   refine qFq 2 rfl ?_
   skip
   refine yGq (i + 1 + 1) hi (show ns.length - (i + 1 + 1) < ns.length - (i + 1) by omega) ?_
   refine (qiq (b := 1) (k := 2) (by omega) (by omega) (by show 2 < 3; omega) ⟨⟨rfl, rfl⟩, ⟨?_, rfl⟩, ⟨rfl, rfl⟩, ⟨rfl, rfl⟩, ⟨by rw [zhq (show purW (.fz (ns.map uW) 1 f) = true from uWs_pur ns)]; rfl, zdq (show purW (.fz (ns.map uW) 1 f) = true from uWs_pur ns)⟩, ⟨rfl, rfl⟩, trivial⟩ ⟨⟨by show 1 < 2; omega, ?_, zdq (show purW (.arr _ 1 (zgq _)) = true from jcq _)⟩, trivial⟩ (by simp))
   ·show some (W.sl 2 0 0 ((l ++ (ns.take (i + 1)).flatMap (beB 8)).length + (zgq (beB 8 u)).length) 1 none) = some (W.sl 2 0 0 (l ++ (ns.take (i + 1 + 1)).flatMap (beB 8)).length 1 none)
    rw [hlen]
   ·show some (5, W.arr (((l ++ (ns.take (i + 1)).flatMap (beB 8)).length + (zgq (beB 8 u)).length) * 1) 1 (zgq (l ++ (ns.take (i + 1)).flatMap (beB 8)) ++ zgq (beB 8 u))) = some (5, renW _ (W.arr (l ++ (ns.take (i + 1 + 1)).flatMap (beB 8)).length 1 (zgq (l ++ (ns.take (i + 1 + 1)).flatMap (beB 8)))))
    rw [zhq (show purW (.arr _ 1 (zgq _)) = true from jcq _), hlen, hby, Nat.mul_one]
 ·have hi : i = ns.length := by omega
  subst hi
  refine zeq 2 rfl ?_
  refine j8q (by intro h; cases h) ?_
  refine z5q 9 rfl ?_
  rw [List.take_length]
  cases ns with
  | nil => exact absurd rfl hns
  | cons a r =>
   exact fin (.inr rfl) (yhq (fr2 := [(6, .sl 1 0 0 (l ++ (a :: r).flatMap (beB 8)).length 1 none)]) ⟨rfl, trivial⟩ rfl rfl) rfl ⟨rfl, rfl, rfl, rfl⟩
theorem put2_s (a b : Dig) (f : Bool) : y8q cfg G 91 0 [.nils, .fz [dW a, dW b] 32 f, .fn 92 [] []] [] fun w hp nw => w = .sl 0 0 0 (a.1 ++ b.1).length 1 none ∧ hp = [(0, 5, .arr (a.1 ++ b.1).length 1 (zgq (a.1 ++ b.1)))] ∧ nw = 1 := by
 refine u4q (putd_s [a, b] f (by simp)) fun w hp nw h => ?_
 obtain ⟨rfl, rfl, rfl⟩ := h
 have e : [a, b].flatMap (·.1) = a.1 ++ b.1 := by simp
 have hl : (zgq (a.1 ++ b.1)).length = 64 := by rw [zJq, List.length_append, a.2, b.2]
 have hne : zgq (a.1 ++ b.1) ≠ [] := fun h => by rw [h] at hl; cases hl
 rw [e, gW_some hne, gH_some hne, zJq, Nat.mul_one]
 exact ⟨rfl, rfl, rfl⟩
theorem body_len (x : Tx) : (vHq x).length = 88 := by simp [vHq, x.pub.2, x.to.2, kdq]
theorem body_s (x : Tx) (hx : x.ok) : PS cfg G 78 [txW x] (bW (vHq x)) := by
 have hl : (x.pub.1 ++ x.to.1).length = 64 := by rw [List.length_append, x.pub.2, x.to.2]
 have hb := body_len x
 have hns : ∀ n ∈ [x.nonce, x.amount, x.fee], n < 18446744073709551616 := fun n hn => by
  simp only [List.mem_cons, List.not_mem_nil, or_false] at hn
  rcases hn with rfl | rfl | rfl
  ·exact hx.nonce
  ·exact hx.amount
  ·exact hx.fee
 have hpa : purW (.arr (x.pub.1 ++ x.to.1).length 1 (zgq (x.pub.1 ++ x.to.1))) = true := jcq _
 refine Yvq (fn := Tryd.f78) rfl rfl rfl (Nat.le_of_ble_eq_true rfl) (fun R k0 => ?_)
 refine zpq 13 rfl ?_
 (refine op_ent (fun _ => ent_fr1 1 [(1, .ptr 0 0), (2, .nils), (8, .fz [dW x.pub, dW x.to] 32 false)] [(0, 48, txW x)] rfl (show purL [dW x.pub, dW x.to] = true by simp) (Nat.zero_le _) ⟨⟨_, rfl, .ptrK rfl⟩, ⟨_, rfl, .pur rfl⟩, ⟨_, rfl, .sl (full := false) rfl (show purL [dW x.pub, dW x.to] = true by simp) rfl (by intro h; cases h)⟩, trivial⟩ ⟨⟨by omega, _, rfl, .pur (by simp)⟩, trivial⟩ (by simp)) ?_; refine zrq rfl (jYq rfl rfl rfl rfl rfl (by simp) (put2_s x.pub x.to false) ?_); rintro w hp1 nw1 ⟨rfl, rfl, rfl⟩)
 refine zbq 13 rfl ?_
 (refine op_ent (fun _ => ent_fr1 3 [(1, .ptr 0 0), (2, .nils), (10, .sl 2 0 0 (x.pub.1 ++ x.to.1).length 1 none), (17, .fz ([x.nonce, x.amount, x.fee].map uW) 1 false)] [(2, 5, .arr (x.pub.1 ++ x.to.1).length 1 (zgq (x.pub.1 ++ x.to.1))), (0, 48, txW x)] rfl rfl (Nat.zero_le _) ⟨⟨_, rfl, .ptrK rfl⟩, ⟨_, rfl, .pur rfl⟩, ⟨_, rfl, .slK rfl⟩, ⟨_, rfl, .sl (full := false) rfl rfl rfl (by intro h; cases h)⟩, trivial⟩ ⟨⟨by omega, _, rfl, by rw [zhq hpa]; exact .pur hpa⟩, ⟨by omega, _, rfl, .pur (by simp)⟩, trivial⟩ (by simp)) ?_; refine zrq rfl (yCq (ext := [2]) (ws := [.sl 0 0 0 (x.pub.1 ++ x.to.1).length 1 none, .fz ([x.nonce, x.amount, x.fee].map uW) 1 false, .fn 94 [] []]) rfl rfl rfl rfl rfl (putu_s (x.pub.1 ++ x.to.1) (by intro h; rw [h] at hl; cases hl) (by omega) [x.nonce, x.amount, x.fee] false (by simp) (by simp) hns) (by simp) (by simp) (by simp) (handed1 (by rw [zhq hpa]; rfl) (zdq hpa)) rfl ?_); rintro w hp1 nw1 ⟨rfl, rfl, rfl⟩)
 refine zbq 4 rfl ?_
 have hpb : purW (.arr (vHq x).length 1 (zgq (vHq x))) = true := jcq _
 exact fin_v (.inr rfl) rfl (.sl (full := false) (c := .arr (vHq x).length 1 (zgq (vHq x))) (xs := zgq (vHq x)) (by show some (renW _ (W.arr (vHq x).length 1 (zgq (vHq x)))) = _; rw [zhq hpb]) hpb (yDq (by decide) (zJq _).symm (Nat.mul_one _).symm) (by intro h; cases h))
noncomputable def umq (x : Tx) : Dig := tagD 4 [vHq x]
theorem sign_s (x : Tx) (hx : x.ok) : PS cfg glK 66 [txW x] (dW (umq x)) := by
 have hb := body_len x
 refine yqq (fn := Tryd.f66) rfl rfl rfl (Nat.le_of_ble_eq_true rfl) (fun R k0 => ?_)
 refine zpq 9 rfl ?_
 refine zjq rfl rfl rfl rfl rfl rfl (body_s x hx) ?_
 refine zvq rfl rfl ?_
 refine op_lk rfl rfl rfl rfl rfl (by (repeat (first | exact .nil | refine .cons ?_ ?_ | (refine .sl rfl ?_ rfl (by intro h; cases h); first | rfl | (focus (simp; done))) | (refine jXq rfl ?_ rfl; first | rfl | (focus (simp; done))) | (refine .pur ?_; first | rfl | (focus (simp; done)))))) (tagof_s 4 [vHq x] false (by simp) (by simp [hb])) (by first | rfl | assumption | (simp; done)) (by first | rfl | assumption | (simp; done)) ?_
 refine zbq 4 rfl ?_
 exact zuq (.inr rfl) rfl rfl
theorem ugq (x : Tx) (hx : x.ok) : PS cfg glK 46 [txW x] (.int .i64 (if x.sign = umq x then 0 else 110)) := by
 refine yqq (fn := Tryd.f46) rfl rfl rfl (Nat.le_of_ble_eq_true rfl) (fun R k0 => ?_)
 by_cases h : x.sign = umq x
 ·rw [if_pos h]
  skip
  refine zpq 12 rfl ?_
  refine xeq rfl rfl rfl rfl rfl rfl (sign_s x hx) ?_
  refine xIq (w' := .bool false) rfl (ZZq rfl rfl rfl rfl (jOq rfl rfl rfl rfl rfl rfl x.sign (umq x) 250)) (by rw [decide_eq_true h]; rfl) ?_
  refine zSq 11 rfl ?_
  exact zuq (.inr rfl) rfl rfl
 ·rw [if_neg h]
  refine zpq 12 rfl ?_
  refine xeq rfl rfl rfl rfl rfl rfl (sign_s x hx) ?_
  refine xIq (w' := .bool true) rfl (ZZq rfl rfl rfl rfl (jOq rfl rfl rfl rfl rfl rfl x.sign (umq x) 250)) (by rw [decide_eq_false h]; rfl) ?_
  refine zSq 10 rfl ?_
  exact zuq (.inr rfl) rfl rfl
theorem from_s (x : Tx) : PS cfg glK 24 [txW x] (dW (keyD x.pub)) := by
 refine yqq (fn := Tryd.f24) rfl rfl rfl (Nat.le_of_ble_eq_true rfl) (fun R k0 => ?_)
 refine zpq 10 rfl ?_
 refine zjq rfl rfl rfl rfl rfl rfl (key_s x.pub) ?_
 refine zbq 4 rfl ?_
 exact zuq (.inr rfl) rfl rfl
theorem txsign_s (x : Tx) (hx : x.ok) : PS cfg glK 53 [txW x] (txW { x with sign := umq x }) := by
 refine yqq (fn := Tryd.f53) rfl rfl rfl (Nat.le_of_ble_eq_true rfl) (fun R k0 => ?_)
 refine zpq 9 rfl ?_
 refine zjq rfl rfl rfl rfl rfl rfl (sign_s x hx) ?_
 refine zbq 11 rfl ?_
 exact zuq (.inr rfl) rfl rfl
end Go.Proofs.YtgeelfdgnehdnaaDoor
namespace Go.Proofs.YtgeelfdgnehdnaaDoor
open Go.RowKit
set_option linter.unusedSimpArgs false
set_option linter.unusedVariables false
attribute [local irreducible] CoW OpW FlW Step Spec
variable {G : Nat → Option W}
def StepA (H : Tree → HpW) (m : Nat) (b : Bool) (P : Tree → T → Prop) : W → HpW → Nat → Prop := fun w hp nw => ∃ t n t0, IsA t n t0 ∧ P t t0 ∧ w = .bool b ∧ hp = H t ∧ nw = m
noncomputable def pay1H (x : Tx) (a : Acct) (k : Dig) (t : Tree) : HpW := [(0, 48, txW x), (1, 26, aW a), (2, 90, .ptr 4 0), (3, 23, dW k), (4, 92, tW t)]
noncomputable def Ygq (x : Tx) (t : Tree) : HpW := [(0, 90, .ptr 2 0), (1, 48, txW x), (2, 92, tW t)]
noncomputable def Yfq (x : Tx) (k : Dig) (t : Tree) : HpW := [(0, 90, .ptr 3 0), (1, 23, dW k), (2, 48, txW x), (3, 92, tW t)]
theorem pay1_no (x : Tx) (hx : x.ok) (a : Acct) (ha : a.ok) (k : Dig) (t : Tree) (n : Nat) (t0 : T) (h : IsA t n t0) (ho : ¬ x.amount + x.fee ≤ a.balance) : y8q cfg G 49 5 [.ptr 0 0, .ptr 1 0, .ptr 2 0, .ptr 3 0] (pay1H x a k t) (StepA (pay1H x a k) 5 false (fun t' t1 => t' = t ∧ t1 = t0)) := by
 intro R
 have h1 := hx.amount
 have h2 := hx.fee
 have h3 := ha.2
 by_cases ov : x.amount + x.fee < 18446744073709551616
 ·skip
  refine zZq (fn := Tryd.f49) rfl rfl rfl (Nat.le_of_ble_eq_true rfl) (fun k0 => ?_)
  refine zpq 11 rfl ?_
  (refine zrq rfl (jEq (a := x.amount) (b := x.fee) rfl rfl rfl rfl ?_))
  refine zaq rfl rfl (zwq (w' := .int .u64 ((x.amount + x.fee : Nat) : Int)) rfl rfl (congrArg (fun q : Nat => W.int .u64 (q : Int)) (by omega)) ?_)
  refine zwq (w' := .int .u64 ((0 : Nat) : Int)) rfl rfl (congrArg (fun q : Nat => W.int .u64 (q : Int)) (by omega)) ?_
  refine zbq 8 rfl ?_
  refine zwq (w' := .bool false) rfl rfl (congrArg W.bool (by first | rfl | exact eqI_iff.2 rfl | (simp; done) | decide | (simp [ltI_iff, eqI_iff]; done))) ?_
  refine zbq 4 rfl ?_
  refine zwq (w' := .bool true) rfl rfl (congrArg W.bool (ltI_iff.2 (by omega))) ?_
  refine zbq 11 rfl ?_
  exact fin (.inr rfl) (yhq (fr2 := [(4, .bool false)]) ⟨rfl, trivial⟩ rfl rfl) rfl ⟨rfl, t, n, t0, h, ⟨rfl, rfl⟩, rfl, rfl, rfl⟩
 ·skip
  refine zZq (fn := Tryd.f49) rfl rfl rfl (Nat.le_of_ble_eq_true rfl) (fun k0 => ?_)
  refine zpq 11 rfl ?_
  (refine zrq rfl (jEq (a := x.amount) (b := x.fee) rfl rfl rfl rfl ?_))
  refine zbq 2 rfl ?_
  refine zwq (w' := .int .u64 ((1 : Nat) : Int)) rfl rfl (congrArg (fun q : Nat => W.int .u64 (q : Int)) (by omega)) ?_
  refine zbq 8 rfl ?_
  refine zwq (w' := .bool true) rfl rfl (congrArg W.bool (by first | rfl | exact eqI_iff.2 rfl | (simp; done) | decide | (simp [ltI_iff, eqI_iff]; done))) ?_
  refine zbq 16 rfl ?_
  exact fin (.inr rfl) (yhq (fr2 := [(4, .bool false)]) ⟨rfl, trivial⟩ rfl rfl) rfl ⟨rfl, t, n, t0, h, ⟨rfl, rfl⟩, rfl, rfl, rfl⟩
theorem pay1_st (x : Tx) (hx : x.ok) (a : Acct) (ha : a.ok) (k : Dig) (t : Tree) (n : Nat) (t0 : T) (h : IsA t n t0) (hl : t.nodes.length ≤ 261844) (ho : x.amount + x.fee ≤ a.balance) : y8q cfg G 49 5 [.ptr 0 0, .ptr 1 0, .ptr 2 0, .ptr 3 0] (pay1H x a k t) (StepA (pay1H x a k) 5 true (xNq t 257 (setL t0.all k ⟨a.nonce, a.balance - (x.amount + x.fee)⟩))) := by
 intro R
 have h1 := hx.amount
 have h2 := hx.fee
 have h3 := ha.2
 refine zZq (fn := Tryd.f49) rfl rfl rfl (Nat.le_of_ble_eq_true rfl) (fun k0 => ?_)
 refine zpq 11 rfl ?_
 (refine zrq rfl (jEq (a := x.amount) (b := x.fee) rfl rfl rfl rfl ?_))
 refine zaq rfl rfl (zwq (w' := .int .u64 ((x.amount + x.fee : Nat) : Int)) rfl rfl (congrArg (fun q : Nat => W.int .u64 (q : Int)) (by omega)) ?_)
 refine zwq (w' := .int .u64 ((0 : Nat) : Int)) rfl rfl (congrArg (fun q : Nat => W.int .u64 (q : Int)) (by omega)) ?_
 refine zbq 8 rfl ?_
 refine zwq (w' := .bool false) rfl rfl (congrArg W.bool (by first | rfl | exact eqI_iff.2 rfl | (simp; done) | decide | (simp [ltI_iff, eqI_iff]; done))) ?_
 refine zbq 4 rfl ?_
 refine zwq (w' := .bool false) rfl rfl (congrArg W.bool (ltI_not.2 (by omega))) ?_
 refine zbq 15 rfl ?_
 refine zxq (a.balance - (x.amount + x.fee)) rfl rfl (by first | rfl | omega) ⟨by omega, by omega⟩ ?_
 refine zaq rfl rfl ?_
 (refine zrq rfl (kzq 4 rfl rfl rfl rfl (by simp) (by omega) rfl rfl (turn_st t n t0 k ⟨a.nonce, a.balance - (x.amount + x.fee)⟩ h ⟨ha.1, by show a.balance - (x.amount + x.fee) < _; omega⟩ hl) ?_); rintro t' n' t1 h' hP)
 refine zbq 8 rfl ?_
 exact fin (hp2 := pay1H x a k t') (.inr rfl) (qeq (nw2 := 5) (fr2 := [(4, .bool true)]) (by omega) (by omega) ⟨rfl, trivial⟩ rfl (qhq ⟨⟨by omega, rfl, zdq (v3q x)⟩, ⟨by omega, rfl, rfl⟩, ⟨by omega, rfl, rfl⟩, ⟨by omega, rfl, zdq (dW_pur k)⟩, ⟨by omega, rfl, zdq (xFq t')⟩, trivial⟩) (by simp [pay1H])) rfl ⟨rfl, t', n', t1, h', hP, rfl, rfl, rfl⟩
theorem pay2_no (x : Tx) (hx : x.ok) (t : Tree) (n : Nat) (t0 : T) (h : IsA t n t0) (ho : 18446744073709551616 ≤ (yzq t0 x.to).balance + x.amount) : y8q cfg G 50 3 [.ptr 0 0, .ptr 1 0] (Ygq x t) (StepA (Ygq x) 3 false (xNq t 257 t0.all)) := by
 intro R
 refine zZq (fn := Tryd.f50) rfl rfl rfl (Nat.le_of_ble_eq_true rfl) (fun k0 => ?_)
 refine zpq 12 rfl ?_
 (refine zrq rfl (kzq 2 rfl rfl rfl rfl (by simp) (by omega) rfl rfl (more_no t n t0 x.to x.amount h hx.amount ho) ?_); rintro t' n' t1 h' hP)
 refine zbq 4 rfl ?_
 exact fin (hp2 := Ygq x t') (.inr rfl) (qeq (nw2 := 3) (fr2 := [(2, .bool false)]) (by omega) (by omega) ⟨rfl, trivial⟩ rfl (qhq ⟨⟨by omega, rfl, rfl⟩, ⟨by omega, rfl, zdq (v3q x)⟩, ⟨by omega, rfl, zdq (xFq t')⟩, trivial⟩) (by simp [Ygq])) rfl ⟨rfl, t', n', t1, h', hP, rfl, rfl, rfl⟩
theorem pay2_st (x : Tx) (t : Tree) (n : Nat) (t0 : T) (h : IsA t n t0) (hl : t.nodes.length ≤ 261844) (ho : (yzq t0 x.to).balance + x.amount < 18446744073709551616) : y8q cfg G 50 3 [.ptr 0 0, .ptr 1 0] (Ygq x t) (StepA (Ygq x) 3 true (xNq t 257 (setL t0.all x.to ⟨(yzq t0 x.to).nonce, (yzq t0 x.to).balance + x.amount⟩))) := by
 intro R
 refine zZq (fn := Tryd.f50) rfl rfl rfl (Nat.le_of_ble_eq_true rfl) (fun k0 => ?_)
 refine zpq 12 rfl ?_
 (refine zrq rfl (kzq 2 rfl rfl rfl rfl (by simp) (by omega) rfl rfl (more_st t n t0 x.to x.amount h ho hl) ?_); rintro t' n' t1 h' hP)
 refine zbq 4 rfl ?_
 exact fin (hp2 := Ygq x t') (.inr rfl) (qeq (nw2 := 3) (fr2 := [(2, .bool true)]) (by omega) (by omega) ⟨rfl, trivial⟩ rfl (qhq ⟨⟨by omega, rfl, rfl⟩, ⟨by omega, rfl, zdq (v3q x)⟩, ⟨by omega, rfl, zdq (xFq t')⟩, trivial⟩) (by simp [Ygq])) rfl ⟨rfl, t', n', t1, h', hP, rfl, rfl, rfl⟩
theorem pay3_no (x : Tx) (hx : x.ok) (k : Dig) (t : Tree) (n : Nat) (t0 : T) (h : IsA t n t0) (ho : 18446744073709551616 ≤ (yzq t0 k).balance + x.fee) : y8q cfg G 52 4 [.ptr 0 0, .ptr 1 0, .ptr 2 0] (Yfq x k t) (StepA (Yfq x k) 4 false (xNq t 257 t0.all)) := by
 intro R
 refine zZq (fn := Tryd.f52) rfl rfl rfl (Nat.le_of_ble_eq_true rfl) (fun k0 => ?_)
 refine zpq 11 rfl ?_
 (refine zrq rfl (kzq 3 rfl rfl rfl rfl (by simp) (by omega) rfl rfl (more_no t n t0 k x.fee h hx.fee ho) ?_); rintro t' n' t1 h' hP)
 refine zbq 4 rfl ?_
 exact fin (hp2 := Yfq x k t') (.inr rfl) (qeq (nw2 := 4) (fr2 := [(3, .bool false)]) (by omega) (by omega) ⟨rfl, trivial⟩ rfl (qhq ⟨⟨by omega, rfl, rfl⟩, ⟨by omega, rfl, zdq (dW_pur k)⟩, ⟨by omega, rfl, zdq (v3q x)⟩, ⟨by omega, rfl, zdq (xFq t')⟩, trivial⟩) (by simp [Yfq])) rfl ⟨rfl, t', n', t1, h', hP, rfl, rfl, rfl⟩
theorem pay3_st (x : Tx) (k : Dig) (t : Tree) (n : Nat) (t0 : T) (h : IsA t n t0) (hl : t.nodes.length ≤ 261844) (ho : (yzq t0 k).balance + x.fee < 18446744073709551616) : y8q cfg G 52 4 [.ptr 0 0, .ptr 1 0, .ptr 2 0] (Yfq x k t) (StepA (Yfq x k) 4 true (xNq t 257 (setL t0.all k ⟨(yzq t0 k).nonce, (yzq t0 k).balance + x.fee⟩))) := by
 intro R
 refine zZq (fn := Tryd.f52) rfl rfl rfl (Nat.le_of_ble_eq_true rfl) (fun k0 => ?_)
 refine zpq 11 rfl ?_
 (refine zrq rfl (kzq 3 rfl rfl rfl rfl (by simp) (by omega) rfl rfl (more_st t n t0 k x.fee h ho hl) ?_); rintro t' n' t1 h' hP)
 refine zbq 4 rfl ?_
 exact fin (hp2 := Yfq x k t') (.inr rfl) (qeq (nw2 := 4) (fr2 := [(3, .bool true)]) (by omega) (by omega) ⟨rfl, trivial⟩ rfl (qhq ⟨⟨by omega, rfl, rfl⟩, ⟨by omega, rfl, zdq (dW_pur k)⟩, ⟨by omega, rfl, zdq (v3q x)⟩, ⟨by omega, rfl, zdq (xFq t')⟩, trivial⟩) (by simp [Yfq])) rfl ⟨rfl, t', n', t1, h', hP, rfl, rfl, rfl⟩
end Go.Proofs.YtgeelfdgnehdnaaDoor
namespace Go.Proofs.YtgeelfdgnehdnaaDoor
open Go.RowKit
set_option linter.unusedSimpArgs false
set_option linter.unusedVariables false
attribute [local irreducible] CoW OpW FlW Step Spec
def acL (l : List Pr) (k : Dig) : Acct := match jyq l k with
 | some v => (q5q v).1
 | none => .zero
theorem jCq {t : Tree} {n : Nat} {t0 : T} (h : IsT t n t0) (k : Dig) : yzq t0 k = acL t0.all k := by
 unfold yzq acL
 rw [xfq k ktq h.ok]
 cases jyq t0.all k <;> rfl
noncomputable def qXq (l : List Pr) (k : Dig) (c : Nat) : Option (List Pr) := if (acL l k).balance + c < 18446744073709551616 then some (setL l k ⟨(acL l k).nonce, (acL l k).balance + c⟩) else none
noncomputable def kIq (l : List Pr) (x : Tx) : List Pr := setL l (keyD x.pub) ⟨(acL l (keyD x.pub)).nonce + 1, (acL l (keyD x.pub)).balance⟩
noncomputable def kbq (l : List Pr) (x : Tx) : List Pr := setL (kIq l x) (keyD x.pub) ⟨(acL l (keyD x.pub)).nonce + 1, (acL l (keyD x.pub)).balance - (x.amount + x.fee)⟩
noncomputable def xTq (l : List Pr) (x : Tx) (box : Dig) : List Pr × Nat := if x.amount + x.fee ≤ (acL l (keyD x.pub)).balance then (match qXq (kbq l x) x.to x.amount with
  | none => (kIq l x, 151)
  | some p => match qXq p box x.fee with
   | none => (kIq l x, 151)
   | some q => (q, 0)) else (kIq l x, 150)
def stg (x : Tx) (box : Dig) (l : List Pr) : Nat → List Pr → Prop
 | 0, q => q = kIq l x
 | 1, q => x.amount + x.fee ≤ (acL l (keyD x.pub)).balance ∧ q = kbq l x
 | 2, q => x.amount + x.fee ≤ (acL l (keyD x.pub)).balance ∧ qXq (kbq l x) x.to x.amount = some q
 | _, q => x.amount + x.fee ≤ (acL l (keyD x.pub)).balance ∧ ∃ p, qXq (kbq l x) x.to x.amount = some p ∧ qXq p box x.fee = some q
theorem Qhq {x : Tx} {box : Dig} {l : List Pr} (ho : ¬ x.amount + x.fee ≤ (acL l (keyD x.pub)).balance) : xTq l x box = (kIq l x, 150) := by unfold xTq; rw [if_neg ho]
theorem paid_1 {x : Tx} {box : Dig} {l : List Pr} (ho : x.amount + x.fee ≤ (acL l (keyD x.pub)).balance) (h : qXq (kbq l x) x.to x.amount = none) : xTq l x box = (kIq l x, 151) := by unfold xTq; rw [if_pos ho, h]
theorem paid_2 {x : Tx} {box : Dig} {l p : List Pr} (ho : x.amount + x.fee ≤ (acL l (keyD x.pub)).balance) (h : qXq (kbq l x) x.to x.amount = some p) (h2 : qXq p box x.fee = none) : xTq l x box = (kIq l x, 151) := by unfold xTq; rw [if_pos ho, h]; simp only; rw [h2]
theorem paid_3 {x : Tx} {box : Dig} {l p q : List Pr} (ho : x.amount + x.fee ≤ (acL l (keyD x.pub)).balance) (h : qXq (kbq l x) x.to x.amount = some p) (h2 : qXq p box x.fee = some q) : xTq l x box = (q, 0) := by unfold xTq; rw [if_pos ho, h]; simp only; rw [h2]
def PayA (t : Tree) (t0 : T) (x : Tx) (box : Dig) : W → Prop := fun w => ∃ t' n' t1, IsA t' n' t1 ∧ xNq t 1028 (xTq t0.all x box).1 t' t1 ∧ w = .tup [tW t', .int .i64 ((xTq t0.all x box).2 : Nat), .int .i64 0]
theorem pay_no (t : Tree) (x : Tx) (box : Dig) (hb : t.nodes.length ≤ 4611686018427387903) (h : ¬ MayA t) : PS cfg glK 22 [tW t, txW x, dW box] (.tup [noT, .int .i64 0, .int .i64 8]) := by
 refine yqq (fn := Tryd.f22) rfl rfl rfl (Nat.le_of_ble_eq_true rfl) (fun R k0 => ?_)
 refine zpq 10 rfl ?_
 refine xzq 3 ?_
 refine zpq 3 rfl ?_
 refine zjq rfl rfl rfl rfl rfl rfl (from_s _) ?_
 refine zbq 8 rfl ?_
 refine zjq rfl rfl rfl rfl rfl rfl (aget_no t hb h _) ?_
 refine zbq 13 rfl ?_
 refine qcq rfl rfl ?_
 refine zbq 16 rfl ?_
 refine j7q (by intro l h; cases h) ?_
 exact zuq (.inr rfl) rfl rfl
theorem pay_sign (t : Tree) (n : Nat) (t0 : T) (x : Tx) (hx : x.ok) (box : Dig) (h : IsA t n t0) (hs : x.sign ≠ umq x) : PS cfg glK 22 [tW t, txW x, dW box] (.tup [noT, .int .i64 0, .int .i64 110]) := by
 refine yqq (fn := Tryd.f22) rfl rfl rfl (Nat.le_of_ble_eq_true rfl) (fun R k0 => ?_)
 refine zpq 10 rfl ?_
 refine xzq 3 ?_
 refine zpq 3 rfl ?_
 refine zjq rfl rfl rfl rfl rfl rfl (from_s _) ?_
 refine zbq 8 rfl ?_
 refine zjq rfl rfl rfl rfl rfl rfl (Z6q t n t0 h _) ?_
 refine zbq 13 rfl ?_
 refine qcq rfl rfl ?_
 refine zbq 7 rfl ?_
 refine zjq rfl rfl rfl rfl rfl rfl (y7q (w' := .int .i64 110) (ugq x hx) (by rw [if_neg hs])) ?_
 refine qcq rfl rfl ?_
 refine zbq 15 rfl ?_
 refine j7q (by intro l h; cases h) ?_
 exact zuq (.inr rfl) rfl rfl
theorem pay_nonce (t : Tree) (n : Nat) (t0 : T) (x : Tx) (hx : x.ok) (box : Dig) (h : IsA t n t0) (hs : x.sign = umq x) (hn : ¬ (x.nonce = (acL t0.all (keyD x.pub)).nonce ∧ x.nonce < 18446744073709551615)) : PS cfg glK 22 [tW t, txW x, dW box] (.tup [noT, .int .i64 0, .int .i64 2]) := by
 have h1 := hx.nonce
 have ea := jCq h.toIsT (keyD x.pub)
 by_cases q : x.nonce = (acL t0.all (keyD x.pub)).nonce
 ·have q2 : x.nonce = 18446744073709551615 := by have : ¬ x.nonce < 18446744073709551615 := fun r => hn ⟨q, r⟩; omega
  refine yqq (fn := Tryd.f22) rfl rfl rfl (Nat.le_of_ble_eq_true rfl) (fun R k0 => ?_)
  refine zpq 10 rfl ?_
  refine xzq 3 ?_
  refine zpq 3 rfl ?_
  refine zjq rfl rfl rfl rfl rfl rfl (from_s _) ?_
  refine zbq 8 rfl ?_
  refine zjq rfl rfl rfl rfl rfl rfl (Z6q t n t0 h _) ?_
  refine zbq 13 rfl ?_
  refine qcq rfl rfl ?_
  refine zbq 7 rfl ?_
  refine zjq rfl rfl rfl rfl rfl rfl (y7q (w' := .int .i64 0) (ugq x hx) (by rw [if_pos hs])) ?_
  refine qcq rfl rfl ?_
  refine zbq 10 rfl ?_
  refine zwq (w' := .bool false) rfl rfl (congrArg (fun b => W.bool (!b)) (eqI_iff.2 (by rw [ea, q]))) ?_
  refine zbq 3 rfl ?_
  refine zwq (w' := .bool true) rfl rfl (congrArg W.bool (eqI_iff.2 (by omega))) ?_
  refine zbq 16 rfl ?_
  refine j7q (by intro l h; cases h) ?_
  exact zuq (.inr rfl) rfl rfl
 ·skip
  refine yqq (fn := Tryd.f22) rfl rfl rfl (Nat.le_of_ble_eq_true rfl) (fun R k0 => ?_)
  refine zpq 10 rfl ?_
  refine xzq 3 ?_
  refine zpq 3 rfl ?_
  refine zjq rfl rfl rfl rfl rfl rfl (from_s _) ?_
  refine zbq 8 rfl ?_
  refine zjq rfl rfl rfl rfl rfl rfl (Z6q t n t0 h _) ?_
  refine zbq 13 rfl ?_
  refine qcq rfl rfl ?_
  refine zbq 7 rfl ?_
  refine zjq rfl rfl rfl rfl rfl rfl (y7q (w' := .int .i64 0) (ugq x hx) (by rw [if_pos hs])) ?_
  refine qcq rfl rfl ?_
  refine zbq 10 rfl ?_
  refine zwq (w' := .bool true) rfl rfl (congrArg (fun b => W.bool (!b)) (eqI_not.2 (by rw [ea]; omega))) ?_
  refine zbq 20 rfl ?_
  refine j7q (by intro l h; cases h) ?_
  exact zuq (.inr rfl) rfl rfl
noncomputable def stepsW : W := .arr 6 2 [.agg 2 [.fn 49 [] [.ptr 1 0, .ptr 5 0, .ptr 8 0, .ptr 4 0], .int .i64 150], .agg 2 [.fn 50 [] [.ptr 8 0, .ptr 1 0], .int .i64 151], .agg 2 [.fn 52 [] [.ptr 8 0, .ptr 2 0, .ptr 1 0], .int .i64 151]]
noncomputable def payH (x : Tx) (box k : Dig) (a : Acct) (tb t : Tree) : HpW := [(7, 92, tW t), (1, 48, txW x), (2, 23, dW box), (3, 40, noT), (4, 23, dW k), (5, 26, aW a), (6, 92, tW tb), (8, 90, .ptr 7 0), (9, 95, stepsW)]
theorem Qwq {t t' t2 : Tree} {m : Nat} (h : ∃ ms, t'.nodes = t.nodes ++ ms ∧ ms.length ≤ m) (h2 : ∃ ms, t2.nodes = t'.nodes ++ ms ∧ ms.length ≤ 257) : ∃ ms, t2.nodes = t.nodes ++ ms ∧ ms.length ≤ m + 257 := by
 obtain ⟨a, ha, ha2⟩ := h
 obtain ⟨b, hb, hb2⟩ := h2
 exact ⟨a ++ b, by rw [hb, ha, List.append_assoc], by rw [List.length_append]; omega⟩
theorem ext_le {t t' : Tree} {m : Nat} (h : ∃ ms, t'.nodes = t.nodes ++ ms ∧ ms.length ≤ m) : t'.nodes.length ≤ t.nodes.length + m := by
 obtain ⟨a, ha, ha2⟩ := h
 rw [ha, List.length_append]; omega
theorem ext_up {t t' : Tree} {m k : Nat} (h : ∃ ms, t'.nodes = t.nodes ++ ms ∧ ms.length ≤ m) (hk : m ≤ k) : ∃ ms, t'.nodes = t.nodes ++ ms ∧ ms.length ≤ k := by
 obtain ⟨a, ha, ha2⟩ := h
 exact ⟨a, ha, by omega⟩
theorem pay_s (t : Tree) (n : Nat) (t0 : T) (x : Tx) (hx : x.ok) (box : Dig) (h : IsA t n t0) (hs : x.sign = umq x) (hn : x.nonce = (acL t0.all (keyD x.pub)).nonce) (hn2 : x.nonce < 18446744073709551615) (hl : t.nodes.length ≤ 260944) : PE cfg glK 22 [tW t, txW x, dW box] (PayA t t0 x box) := by
 have hvals : ∀ x ∈ t.nodes, x.val.length ≤ 70368744177664 := IsT.vals (root := t.root) h.toIsT
 have hA := Z7q t0 (keyD x.pub)
 rw [jCq h.toIsT] at hA
 have ea := jCq h.toIsT (keyD x.pub)
 unfold PayA
 obtain ⟨A, eA⟩ : ∃ A, acL t0.all (keyD x.pub) = A := ⟨_, rfl⟩
 obtain ⟨l, el⟩ : ∃ l, t0.all = l := ⟨_, rfl⟩
 rw [eA] at hn hA ea
 have e0 : kIq l x = setL l (keyD x.pub) ⟨A.nonce + 1, A.balance⟩ := by unfold kIq; rw [← el, eA]
 have e1 : kbq l x = setL (kIq l x) (keyD x.pub) ⟨A.nonce + 1, A.balance - (x.amount + x.fee)⟩ := by unfold kbq; rw [← el, eA]
 rw [el] at eA ⊢
 have hA1 : A.nonce + 1 < 18446744073709551616 := by omega
 have hA2 := hA.2
 refine uvq (fn := Tryd.f22) rfl rfl rfl (Nat.le_of_ble_eq_true rfl) (fun R k0 => ?_)
 refine zpq 10 rfl ?_
 refine xzq 3 ?_
 refine zpq 3 rfl ?_
 refine zjq rfl rfl rfl rfl rfl rfl (from_s _) ?_
 refine zbq 8 rfl ?_
 refine zjq rfl rfl rfl rfl rfl rfl (y7q (w' := .tup [aW A, .int .i64 0]) (Z6q t n t0 h (keyD x.pub)) (by rw [ea])) ?_
 refine zbq 13 rfl ?_
 refine qcq rfl rfl ?_
 refine zbq 7 rfl ?_
 refine zjq rfl rfl rfl rfl rfl rfl (y7q (w' := .int .i64 0) (ugq x hx) (by rw [if_pos hs])) ?_
 refine qcq rfl rfl ?_
 refine zbq 10 rfl ?_
 refine zwq (w' := .bool false) rfl rfl (congrArg (fun b => W.bool (!b)) (eqI_iff.2 (by rw [hn]))) ?_
 refine zbq 3 rfl ?_
 refine zwq (w' := .bool false) rfl rfl (congrArg W.bool (eqI_not.2 (by omega))) ?_
 refine zbq 8 rfl ?_
 refine zjq rfl rfl rfl rfl rfl rfl (y7q (w' := .bool false) (full_s t (by omega)) (by rw [decide_eq_false (by omega)])) ?_
 refine zbq 11 rfl ?_
 refine zxq (A.nonce + 1) rfl rfl (by first | rfl | omega) ⟨by omega, by omega⟩ ?_
 refine zbq 7 rfl ?_
 refine zjq rfl rfl rfl rfl rfl rfl (twinp_s t (by omega) hvals) ?_
 refine zbq 10 rfl ?_
 (refine zrq rfl (kzq 6 rfl rfl rfl rfl (by simp) (by omega) rfl rfl (turn_st t n t0 (keyD x.pub) ⟨A.nonce + 1, A.balance⟩ h ⟨hA1, hA2⟩ (by omega)) ?_); rintro tb nb tb0 hb hPb)
 refine zbq 36 rfl ?_
 first | refine Ywq rfl rfl ?_ | refine zaq rfl rfl ?_
 refine zbq 4 rfl ?_
 have hmb := ext_up hPb.2 (show 257 ≤ 1028 by omega)
 rw [el] at hPb
 refine quq (α := Nat × Tree) (fun p => p.1 ≤ 3 ∧ ∃ n1 t1, IsA p.2 n1 t1 ∧ (∃ ms, p.2.nodes = t.nodes ++ ms ∧ ms.length ≤ 257 * (p.1 + 1)) ∧ stg x box l p.1 t1.all) (fun p => [(79, .int .i64 (p.1 : Int)), (6, .ptr 3 0), (11, .ptr 6 0), (12, .ptr 8 0), (77, .sl 9 0 0 3 2 none), (78, .int .i64 3)]) (fun p => payH x box (keyD x.pub) ⟨A.nonce + 1, A.balance⟩ tb p.2) (fun _ => 10) (fun _ => R) (fun p => 3 - p.1) (0, tb) ⟨by omega, nb, tb0, hb, hPb.2, hPb.1.trans e0.symm⟩ (qeq (nw2 := 10) (Nat.zero_le _) (by omega) ⟨rfl, rfl, rfl, rfl, rfl, rfl, trivial⟩ rfl (qhq ⟨⟨by omega, (by first | rfl | exact congrArg (fun w => some (_, w)) (zhq (by simp))), zdq (by simp)⟩, ⟨by omega, (by first | rfl | exact congrArg (fun w => some (_, w)) (zhq (by simp))), zdq (by simp)⟩, ⟨by omega, (by first | rfl | exact congrArg (fun w => some (_, w)) (zhq (by simp))), zdq (by simp)⟩, ⟨by omega, (by first | rfl | exact congrArg (fun w => some (_, w)) (zhq (by simp))), rfl⟩, ⟨by omega, (by first | rfl | exact congrArg (fun w => some (_, w)) (zhq (by simp))), zdq (by simp)⟩, ⟨by omega, (by first | rfl | exact congrArg (fun w => some (_, w)) (zhq (by simp))), rfl⟩, ⟨by omega, (by first | rfl | exact congrArg (fun w => some (_, w)) (zhq (by simp))), zdq (by simp)⟩, ⟨by omega, (by first | rfl | exact congrArg (fun w => some (_, w)) (zhq (by simp))), rfl⟩, ⟨by omega, (by first | rfl | exact congrArg (fun w => some (_, w)) (zhq (by simp))), rfl⟩, trivial⟩) (by simp [payH])) (fun p hI => ?_)
 skip
 obtain ⟨i, t'⟩ := p
 obtain ⟨hi, n1, t1, hT, hms, hst⟩ := hI
 simp only at hi hT hms hst ⊢
 have hle := ext_le hms
 refine zpq 6 rfl ?_
 refine zQq rfl (fun h1 => ?_) (fun h1 => ?_)
 ·skip
  skip
  rcases (show i = 0 ∨ i = 1 ∨ i = 2 by omega) with rfl | rfl | rfl
  ·by_cases ho : x.amount + x.fee ≤ A.balance
   ·skip
    refine zeq 6 rfl ?_
    first | refine zaq rfl (zIq rfl rfl rfl rfl rfl rfl rfl (by first | assumption | (simp; done))) ?_ | refine zaq rfl (zDq rfl rfl rfl rfl rfl rfl rfl (by omega)) ?_ | refine zaq rfl (ztq rfl rfl rfl rfl rfl rfl (by omega)) ?_ | refine zaq rfl rfl ?_
    refine zbq 16 rfl ?_
    (refine zrq rfl (yCq (ext := [1, 5, 8, 4, 7]) (ws := [.ptr 0 0, .ptr 1 0, .ptr 2 0, .ptr 3 0]) rfl rfl rfl rfl rfl (pay1_st x hx ⟨A.nonce + 1, A.balance⟩ ⟨hA1, hA2⟩ (keyD x.pub) t' n1 t1 hT (by omega) ho) (by decide) (by intro b hb; simp only [List.mem_cons, List.not_mem_nil, or_false] at hb; omega) (by simp [pay1H]) (q6q ⟨⟨by decide, zdq (by simp), _, rfl, by first | rfl | (rw [zhq (by simp)]; rfl)⟩, ⟨by decide, rfl, _, rfl, by first | rfl | (rw [zhq (by simp)]; rfl)⟩, ⟨by decide, rfl, _, rfl, by first | rfl | (rw [zhq (by simp)]; rfl)⟩, ⟨by decide, zdq (by simp), _, rfl, by first | rfl | (rw [zhq (by simp)]; rfl)⟩, ⟨by decide, zdq (by simp), _, rfl, by first | rfl | (rw [zhq (by simp)]; rfl)⟩, trivial⟩) rfl ?_); rintro w hp1 nw1 ⟨t2, n2, t3, h2, hP2, rfl, rfl, rfl⟩)
    refine zbq 8 rfl ?_
    first | refine yxq rfl rfl ⟨by omega, by omega⟩ ?_ | refine zaq rfl rfl ?_
    refine qFq 2 rfl ?_
    skip
    exact yGq (1, t2) ⟨by omega, n2, t3, h2, ext_up (Qwq hms hP2.2) (by omega), ⟨by rw [eA]; exact ho, by rw [e1, ← hst]; exact hP2.1⟩⟩ (by show 3 - 1 < 3 - 0; omega) (qeq (nw2 := 10) (Nat.zero_le _) (by omega) ⟨rfl, rfl, rfl, rfl, rfl, rfl, trivial⟩ rfl (qhq ⟨⟨by omega, (by first | rfl | exact congrArg (fun w => some (_, w)) (zhq (by simp))), zdq (by simp)⟩, ⟨by omega, (by first | rfl | exact congrArg (fun w => some (_, w)) (zhq (by simp))), zdq (by simp)⟩, ⟨by omega, (by first | rfl | exact congrArg (fun w => some (_, w)) (zhq (by simp))), zdq (by simp)⟩, ⟨by omega, (by first | rfl | exact congrArg (fun w => some (_, w)) (zhq (by simp))), rfl⟩, ⟨by omega, (by first | rfl | exact congrArg (fun w => some (_, w)) (zhq (by simp))), zdq (by simp)⟩, ⟨by omega, (by first | rfl | exact congrArg (fun w => some (_, w)) (zhq (by simp))), rfl⟩, ⟨by omega, (by first | rfl | exact congrArg (fun w => some (_, w)) (zhq (by simp))), zdq (by simp)⟩, ⟨by omega, (by first | rfl | exact congrArg (fun w => some (_, w)) (zhq (by simp))), rfl⟩, ⟨by omega, (by first | rfl | exact congrArg (fun w => some (_, w)) (zhq (by simp))), rfl⟩, trivial⟩) (by simp [payH]))
   ·skip
    refine zeq 6 rfl ?_
    first | refine zaq rfl (zIq rfl rfl rfl rfl rfl rfl rfl (by first | assumption | (simp; done))) ?_ | refine zaq rfl (zDq rfl rfl rfl rfl rfl rfl rfl (by omega)) ?_ | refine zaq rfl (ztq rfl rfl rfl rfl rfl rfl (by omega)) ?_ | refine zaq rfl rfl ?_
    refine zbq 16 rfl ?_
    (refine zrq rfl (yCq (ext := [1, 5, 8, 4, 7]) (ws := [.ptr 0 0, .ptr 1 0, .ptr 2 0, .ptr 3 0]) rfl rfl rfl rfl rfl (pay1_no x hx ⟨A.nonce + 1, A.balance⟩ ⟨hA1, hA2⟩ (keyD x.pub) t' n1 t1 hT ho) (by decide) (by intro b hb; simp only [List.mem_cons, List.not_mem_nil, or_false] at hb; omega) (by simp [pay1H]) (q6q ⟨⟨by decide, zdq (by simp), _, rfl, by first | rfl | (rw [zhq (by simp)]; rfl)⟩, ⟨by decide, rfl, _, rfl, by first | rfl | (rw [zhq (by simp)]; rfl)⟩, ⟨by decide, rfl, _, rfl, by first | rfl | (rw [zhq (by simp)]; rfl)⟩, ⟨by decide, zdq (by simp), _, rfl, by first | rfl | (rw [zhq (by simp)]; rfl)⟩, ⟨by decide, zdq (by simp), _, rfl, by first | rfl | (rw [zhq (by simp)]; rfl)⟩, trivial⟩) rfl ?_); rintro w hp1 nw1 ⟨t2, n2, t3, h2, hP2, rfl, rfl, rfl⟩)
    refine zbq 7 rfl ?_
    refine j8q (by intro h; cases h) ?_
    refine z5q 2 rfl ?_
    refine q_goto rfl ?_
    refine zpq 16 rfl ?_
    refine j7q (by intro l h; cases h) ?_
    refine jMq (w' := .tup [tW tb, .int .i64 150, .int .i64 0]) (.inr rfl) rfl (.pur (by simp)) (by simp) ⟨tb, nb, tb0, hb, ?_, ?_⟩
    ·rw [Qhq (l := l) (box := box) (by rw [eA]; exact ho)]; exact ⟨hPb.1.trans e0.symm, hmb⟩
    ·rw [Qhq (l := l) (box := box) (by rw [eA]; exact ho)]; rfl
  ·obtain ⟨ho, hst⟩ := hst
   have ec := jCq hT.toIsT x.to
   rw [hst] at ec
   by_cases hq : (yzq t1 x.to).balance + x.amount < 18446744073709551616
   ·have hm : qXq (kbq l x) x.to x.amount = some (setL (kbq l x) x.to ⟨(yzq t1 x.to).nonce, (yzq t1 x.to).balance + x.amount⟩) := by unfold qXq; rw [← ec, if_pos hq]
    refine zeq 6 rfl ?_
    first | refine zaq rfl (zIq rfl rfl rfl rfl rfl rfl rfl (by first | assumption | (simp; done))) ?_ | refine zaq rfl (zDq rfl rfl rfl rfl rfl rfl rfl (by omega)) ?_ | refine zaq rfl (ztq rfl rfl rfl rfl rfl rfl (by omega)) ?_ | refine zaq rfl rfl ?_
    refine zbq 16 rfl ?_
    (refine zrq rfl (yCq (ext := [8, 1, 7]) (ws := [.ptr 0 0, .ptr 1 0]) rfl rfl rfl rfl rfl (pay2_st x t' n1 t1 hT (by omega) hq) (by decide) (by intro b hb; simp only [List.mem_cons, List.not_mem_nil, or_false] at hb; omega) (by simp [Ygq]) (q6q ⟨⟨by decide, rfl, _, rfl, by first | rfl | (rw [zhq (by simp)]; rfl)⟩, ⟨by decide, zdq (by simp), _, rfl, by first | rfl | (rw [zhq (by simp)]; rfl)⟩, ⟨by decide, zdq (by simp), _, rfl, by first | rfl | (rw [zhq (by simp)]; rfl)⟩, trivial⟩) rfl ?_); rintro w hp1 nw1 ⟨t2, n2, t3, h2, hP2, rfl, rfl, rfl⟩)
    refine zbq 8 rfl ?_
    first | refine yxq rfl rfl ⟨by omega, by omega⟩ ?_ | refine zaq rfl rfl ?_
    refine qFq 2 rfl ?_
    skip
    exact yGq (2, t2) ⟨by omega, n2, t3, h2, ext_up (Qwq hms hP2.2) (by omega), ⟨ho, by rw [hP2.1, hst]; exact hm⟩⟩ (by show 3 - 2 < 3 - 1; omega) (qeq (nw2 := 10) (Nat.zero_le _) (by omega) ⟨rfl, rfl, rfl, rfl, rfl, rfl, trivial⟩ rfl (qhq ⟨⟨by omega, (by first | rfl | exact congrArg (fun w => some (_, w)) (zhq (by simp))), zdq (by simp)⟩, ⟨by omega, (by first | rfl | exact congrArg (fun w => some (_, w)) (zhq (by simp))), zdq (by simp)⟩, ⟨by omega, (by first | rfl | exact congrArg (fun w => some (_, w)) (zhq (by simp))), zdq (by simp)⟩, ⟨by omega, (by first | rfl | exact congrArg (fun w => some (_, w)) (zhq (by simp))), rfl⟩, ⟨by omega, (by first | rfl | exact congrArg (fun w => some (_, w)) (zhq (by simp))), zdq (by simp)⟩, ⟨by omega, (by first | rfl | exact congrArg (fun w => some (_, w)) (zhq (by simp))), rfl⟩, ⟨by omega, (by first | rfl | exact congrArg (fun w => some (_, w)) (zhq (by simp))), zdq (by simp)⟩, ⟨by omega, (by first | rfl | exact congrArg (fun w => some (_, w)) (zhq (by simp))), rfl⟩, ⟨by omega, (by first | rfl | exact congrArg (fun w => some (_, w)) (zhq (by simp))), rfl⟩, trivial⟩) (by simp [payH]))
   ·have hm : qXq (kbq l x) x.to x.amount = none := by unfold qXq; rw [← ec, if_neg hq]
    refine zeq 6 rfl ?_
    first | refine zaq rfl (zIq rfl rfl rfl rfl rfl rfl rfl (by first | assumption | (simp; done))) ?_ | refine zaq rfl (zDq rfl rfl rfl rfl rfl rfl rfl (by omega)) ?_ | refine zaq rfl (ztq rfl rfl rfl rfl rfl rfl (by omega)) ?_ | refine zaq rfl rfl ?_
    refine zbq 16 rfl ?_
    (refine zrq rfl (yCq (ext := [8, 1, 7]) (ws := [.ptr 0 0, .ptr 1 0]) rfl rfl rfl rfl rfl (pay2_no x hx t' n1 t1 hT (by omega)) (by decide) (by intro b hb; simp only [List.mem_cons, List.not_mem_nil, or_false] at hb; omega) (by simp [Ygq]) (q6q ⟨⟨by decide, rfl, _, rfl, by first | rfl | (rw [zhq (by simp)]; rfl)⟩, ⟨by decide, zdq (by simp), _, rfl, by first | rfl | (rw [zhq (by simp)]; rfl)⟩, ⟨by decide, zdq (by simp), _, rfl, by first | rfl | (rw [zhq (by simp)]; rfl)⟩, trivial⟩) rfl ?_); rintro w hp1 nw1 ⟨t2, n2, t3, h2, hP2, rfl, rfl, rfl⟩)
    refine zbq 7 rfl ?_
    refine j8q (by intro h; cases h) ?_
    refine z5q 2 rfl ?_
    refine q_goto rfl ?_
    refine zpq 16 rfl ?_
    refine j7q (by intro l h; cases h) ?_
    refine jMq (w' := .tup [tW tb, .int .i64 151, .int .i64 0]) (.inr rfl) rfl (.pur (by simp)) (by simp) ⟨tb, nb, tb0, hb, ?_, ?_⟩
    ·rw [paid_1 ho hm]; exact ⟨hPb.1.trans e0.symm, hmb⟩
    ·rw [paid_1 ho hm]; rfl
  ·obtain ⟨ho, hst⟩ := hst
   have ec := jCq hT.toIsT box
   by_cases hq : (yzq t1 box).balance + x.fee < 18446744073709551616
   ·have hm : qXq t1.all box x.fee = some (setL t1.all box ⟨(yzq t1 box).nonce, (yzq t1 box).balance + x.fee⟩) := by unfold qXq; rw [← ec, if_pos hq]
    refine zeq 6 rfl ?_
    first | refine zaq rfl (zIq rfl rfl rfl rfl rfl rfl rfl (by first | assumption | (simp; done))) ?_ | refine zaq rfl (zDq rfl rfl rfl rfl rfl rfl rfl (by omega)) ?_ | refine zaq rfl (ztq rfl rfl rfl rfl rfl rfl (by omega)) ?_ | refine zaq rfl rfl ?_
    refine zbq 16 rfl ?_
    (refine zrq rfl (yCq (ext := [8, 2, 1, 7]) (ws := [.ptr 0 0, .ptr 1 0, .ptr 2 0]) rfl rfl rfl rfl rfl (pay3_st x box t' n1 t1 hT (by omega) hq) (by decide) (by intro b hb; simp only [List.mem_cons, List.not_mem_nil, or_false] at hb; omega) (by simp [Yfq]) (q6q ⟨⟨by decide, rfl, _, rfl, by first | rfl | (rw [zhq (by simp)]; rfl)⟩, ⟨by decide, zdq (by simp), _, rfl, by first | rfl | (rw [zhq (by simp)]; rfl)⟩, ⟨by decide, zdq (by simp), _, rfl, by first | rfl | (rw [zhq (by simp)]; rfl)⟩, ⟨by decide, zdq (by simp), _, rfl, by first | rfl | (rw [zhq (by simp)]; rfl)⟩, trivial⟩) rfl ?_); rintro w hp1 nw1 ⟨t2, n2, t3, h2, hP2, rfl, rfl, rfl⟩)
    refine zbq 8 rfl ?_
    first | refine yxq rfl rfl ⟨by omega, by omega⟩ ?_ | refine zaq rfl rfl ?_
    refine qFq 2 rfl ?_
    skip
    exact yGq (3, t2) ⟨by omega, n2, t3, h2, ext_up (Qwq hms hP2.2) (by omega), ⟨ho, _, hst, by rw [hP2.1]; exact hm⟩⟩ (by show 3 - 3 < 3 - 2; omega) (qeq (nw2 := 10) (Nat.zero_le _) (by omega) ⟨rfl, rfl, rfl, rfl, rfl, rfl, trivial⟩ rfl (qhq ⟨⟨by omega, (by first | rfl | exact congrArg (fun w => some (_, w)) (zhq (by simp))), zdq (by simp)⟩, ⟨by omega, (by first | rfl | exact congrArg (fun w => some (_, w)) (zhq (by simp))), zdq (by simp)⟩, ⟨by omega, (by first | rfl | exact congrArg (fun w => some (_, w)) (zhq (by simp))), zdq (by simp)⟩, ⟨by omega, (by first | rfl | exact congrArg (fun w => some (_, w)) (zhq (by simp))), rfl⟩, ⟨by omega, (by first | rfl | exact congrArg (fun w => some (_, w)) (zhq (by simp))), zdq (by simp)⟩, ⟨by omega, (by first | rfl | exact congrArg (fun w => some (_, w)) (zhq (by simp))), rfl⟩, ⟨by omega, (by first | rfl | exact congrArg (fun w => some (_, w)) (zhq (by simp))), zdq (by simp)⟩, ⟨by omega, (by first | rfl | exact congrArg (fun w => some (_, w)) (zhq (by simp))), rfl⟩, ⟨by omega, (by first | rfl | exact congrArg (fun w => some (_, w)) (zhq (by simp))), rfl⟩, trivial⟩) (by simp [payH]))
   ·have hm : qXq t1.all box x.fee = none := by unfold qXq; rw [← ec, if_neg hq]
    refine zeq 6 rfl ?_
    first | refine zaq rfl (zIq rfl rfl rfl rfl rfl rfl rfl (by first | assumption | (simp; done))) ?_ | refine zaq rfl (zDq rfl rfl rfl rfl rfl rfl rfl (by omega)) ?_ | refine zaq rfl (ztq rfl rfl rfl rfl rfl rfl (by omega)) ?_ | refine zaq rfl rfl ?_
    refine zbq 16 rfl ?_
    (refine zrq rfl (yCq (ext := [8, 2, 1, 7]) (ws := [.ptr 0 0, .ptr 1 0, .ptr 2 0]) rfl rfl rfl rfl rfl (pay3_no x hx box t' n1 t1 hT (by omega)) (by decide) (by intro b hb; simp only [List.mem_cons, List.not_mem_nil, or_false] at hb; omega) (by simp [Yfq]) (q6q ⟨⟨by decide, rfl, _, rfl, by first | rfl | (rw [zhq (by simp)]; rfl)⟩, ⟨by decide, zdq (by simp), _, rfl, by first | rfl | (rw [zhq (by simp)]; rfl)⟩, ⟨by decide, zdq (by simp), _, rfl, by first | rfl | (rw [zhq (by simp)]; rfl)⟩, ⟨by decide, zdq (by simp), _, rfl, by first | rfl | (rw [zhq (by simp)]; rfl)⟩, trivial⟩) rfl ?_); rintro w hp1 nw1 ⟨t2, n2, t3, h2, hP2, rfl, rfl, rfl⟩)
    refine zbq 7 rfl ?_
    refine j8q (by intro h; cases h) ?_
    refine z5q 2 rfl ?_
    refine q_goto rfl ?_
    refine zpq 16 rfl ?_
    refine j7q (by intro l h; cases h) ?_
    refine jMq (w' := .tup [tW tb, .int .i64 151, .int .i64 0]) (.inr rfl) rfl (.pur (by simp)) (by simp) ⟨tb, nb, tb0, hb, ?_, ?_⟩
    ·rw [paid_2 ho hst hm]; exact ⟨hPb.1.trans e0.symm, hmb⟩
    ·rw [paid_2 ho hst hm]; rfl
 ·have hi3 : i = 3 := by omega
  subst hi3
  obtain ⟨ho, p, hp1, hp2⟩ := hst
  refine zeq 2 rfl ?_
  refine j8q (by intro h; cases h) ?_
  refine z5q 16 rfl ?_
  refine j7q (by intro l h; cases h) ?_
  refine jMq (w' := .tup [tW t', .int .i64 0, .int .i64 0]) (.inr rfl) rfl (.pur (by simp)) (by simp) ⟨t', n1, t1, hT, ?_, ?_⟩
  ·rw [paid_3 ho hp1 hp2]; exact ⟨rfl, ext_up hms (by omega)⟩
  ·rw [paid_3 ho hp1 hp2]; rfl
end Go.Proofs.YtgeelfdgnehdnaaDoor
namespace Go.Proofs.YtgeelfdgnehdnaaDoor
open Go.RowKit
set_option linter.unusedSimpArgs false
set_option linter.unusedVariables false
attribute [local irreducible] CoW OpW FlW Step Spec
variable {G : Nat → Option W}
theorem jHq (p : Pr) (l : List Pr) : sumB (p :: l) = bal p + sumB l := by simp [sumB]
theorem sumB_app (l r : List Pr) : sumB (l ++ r) = sumB l + sumB r := by simp [sumB]
theorem sumB_two (k : Dig) : ∀ l : List Pr, sumB (l.filter fun p => yyq p.1 k) + sumB (l.filter fun p => yyq k p.1) = sumB (yMq l k)
 | [] => rfl
 | p :: l => by
  have ih := sumB_two k l
  simp only [yMq] at ih ⊢
  by_cases e : p.1 = k
  ·have h1 : yyq p.1 k = false := by rw [e]; exact xCq k
   have h2 : yyq k p.1 = false := by rw [e]; exact xCq k
   rw [List.filter_cons_of_neg (by rw [h1]; exact Bool.false_ne_true), List.filter_cons_of_neg (by rw [h2]; exact Bool.false_ne_true), List.filter_cons_of_neg (by simp [e])]
   exact ih
  ·rw [List.filter_cons_of_pos (p := fun p : Pr => decide (p.1 ≠ k)) (by simp [e]), jHq]
   rcases Z5q e with h | h
   ·rw [List.filter_cons_of_pos (p := fun p : Pr => yyq p.1 k) h, List.filter_cons_of_neg (by rw [jeq h]; exact Bool.false_ne_true), jHq]
    omega
   ·rw [List.filter_cons_of_neg (p := fun p : Pr => yyq p.1 k) (by rw [jeq h]; exact Bool.false_ne_true), List.filter_cons_of_pos (p := fun p : Pr => yyq k p.1) h, jHq]
    omega
theorem sumB_with (l : List Pr) (k : Dig) (v : List UInt8) : sumB (kwq l k v) = sumB (yMq l k) + bal (k, v) := by
 have h := sumB_two k l
 unfold kwq
 rw [sumB_app, jHq]
 show sumB (l.filter fun p => yyq p.1 k) + (bal (k, v) + sumB (l.filter fun p => yyq k p.1)) = _
 rw [← h]
 omega
def optB (k : Dig) : Option (List UInt8) → Nat
 | none => 0
 | some v => bal (k, v)
theorem Ypq (k : Dig) : ∀ l : List Pr, Srt l → sumB l = sumB (yMq l k) + optB k (jyq l k)
 | [], _ => rfl
 | p :: l, hs => by
  obtain ⟨h1, h2⟩ := List.pairwise_cons.1 hs
  by_cases e : p.1 = k
  ·have hno : ∀ q ∈ l, q.1 ≠ k := fun q hq => by rw [← e]; exact (kVq (h1 q hq)).symm
   have h3 : yMq (p :: l) k = l := by
    have := jvq hno
    simp only [yMq] at this ⊢
    rw [List.filter_cons_of_neg (by simp [e]), this]
   have h4 : jyq (p :: l) k = some p.2 := by simp [jyq, List.find?_cons, e]
   rw [h3, h4, jHq]
   simp only [optB]
   have : bal (k, p.2) = bal p := rfl
   omega
  ·have ih := Ypq k l h2
   have h3 : yMq (p :: l) k = p :: yMq l k := by simp only [yMq]; rw [List.filter_cons_of_pos (by simp [e])]
   have h4 : jyq (p :: l) k = jyq l k := by simp [jyq, List.find?_cons, e]
   rw [h3, h4, jHq, jHq]
   omega
end Go.Proofs.YtgeelfdgnehdnaaDoor
namespace Go.Proofs.YtgeelfdgnehdnaaDoor
open Go.RowKit
set_option linter.unusedSimpArgs false
set_option linter.unusedVariables false
theorem acL_ok (l : List Pr) (k : Dig) : (acL l k).ok := by
 unfold acL
 split
 ·exact readA_ok _
 ·exact ⟨Nat.zero_lt_succ _, Nat.zero_lt_succ _⟩
theorem xnq {l : List Pr} (h : Srt l) {a : Acct} (ha : a.ok) (k j : Dig) : acL (setL l k a) j = if j = k then a else acL l j := by
 unfold acL setL
 by_cases hz : a = .zero
 ·rw [if_pos hz, Qvq h]
  by_cases e : j = k
  ·rw [if_pos e, if_pos e]; exact hz.symm
  ·rw [if_neg e, if_neg e]
 ·rw [if_neg hz, findL_with h]
  by_cases e : j = k
  ·rw [if_pos e, if_pos e]; simp only; rw [u2q a ha hz]
  ·rw [if_neg e, if_neg e]
theorem Y1q {l : List Pr} (h : Srt l) (k : Dig) (a : Acct) : Srt (setL l k a) := by
 unfold setL
 split
 ·exact vqq h k
 ·exact v6q h k _
theorem YZq {l : List Pr} (h : Srt l) {a : Acct} (ha : a.ok) (k : Dig) : sumB (setL l k a) + (acL l k).balance = sumB l + a.balance := by
 have e : (acL l k).balance = optB k (jyq l k) := by
  unfold acL
  cases jyq l k <;> rfl
 have hs := Ypq k l h
 unfold setL
 by_cases hz : a = .zero
 ·rw [if_pos hz, hz]
  show _ = _ + 0
  omega
 ·rw [if_neg hz, sumB_with]
  have : bal (k, jQq a) = a.balance := by unfold bal; rw [u2q a ha hz]
  omega
theorem Qlq {p q : List Pr} {k : Dig} {c : Nat} (h : Srt p) (hm : qXq p k c = some q) : Srt q ∧ (∀ j, j ≠ k → acL q j = acL p j) ∧ (∀ j, (acL q j).nonce = (acL p j).nonce) ∧ sumB q = sumB p + c := by
 unfold qXq at hm
 split at hm
 ·rename_i hb
  cases hm
  have ha : Acct.ok ⟨(acL p k).nonce, (acL p k).balance + c⟩ := ⟨(acL_ok p k).1, hb⟩
  refine ⟨Y1q h k _, fun j hj => by rw [xnq h ha, if_neg hj], fun j => ?_, ?_⟩
  ·rw [xnq h ha]
   by_cases e : j = k
   ·rw [if_pos e, e]
   ·rw [if_neg e]
  ·have := YZq h ha k
   simp only at this
   omega
 ·cases hm
theorem nude_ok {l : List Pr} (x : Tx) (h : Srt l) (hn : (acL l (keyD x.pub)).nonce + 1 < 18446744073709551616) : Srt (kIq l x) ∧ (∀ j, j ≠ keyD x.pub → acL (kIq l x) j = acL l j) ∧ acL (kIq l x) (keyD x.pub) = ⟨(acL l (keyD x.pub)).nonce + 1, (acL l (keyD x.pub)).balance⟩ ∧ sumB (kIq l x) = sumB l := by
 have ha : Acct.ok ⟨(acL l (keyD x.pub)).nonce + 1, (acL l (keyD x.pub)).balance⟩ := ⟨hn, (acL_ok l _).2⟩
 unfold kIq
 refine ⟨Y1q h _ _, fun j hj => by rw [xnq h ha, if_neg hj], by rw [xnq h ha, if_pos rfl], ?_⟩
 have := YZq h ha (keyD x.pub)
 simp only at this
 omega
theorem less_ok {l : List Pr} (x : Tx) (h : Srt l) (hn : (acL l (keyD x.pub)).nonce + 1 < 18446744073709551616) (ho : x.amount + x.fee ≤ (acL l (keyD x.pub)).balance) : Srt (kbq l x) ∧ (∀ j, j ≠ keyD x.pub → acL (kbq l x) j = acL l j) ∧ acL (kbq l x) (keyD x.pub) = ⟨(acL l (keyD x.pub)).nonce + 1, (acL l (keyD x.pub)).balance - (x.amount + x.fee)⟩ ∧ sumB (kbq l x) + (x.amount + x.fee) = sumB l := by
 obtain ⟨n1, n2, n3, n4⟩ := nude_ok x h hn
 have hb := (acL_ok l (keyD x.pub)).2
 have ha : Acct.ok ⟨(acL l (keyD x.pub)).nonce + 1, (acL l (keyD x.pub)).balance - (x.amount + x.fee)⟩ := ⟨hn, by show _ - _ < _; omega⟩
 unfold kbq
 refine ⟨Y1q n1 _ _, fun j hj => by rw [xnq n1 ha, if_neg hj]; exact n2 j hj, by rw [xnq n1 ha, if_pos rfl], ?_⟩
 have := YZq n1 ha (keyD x.pub)
 rw [n3, n4] at this
 simp only at this
 omega
theorem paid_ok {l : List Pr} (x : Tx) (box : Dig) (h : Srt l) (hn : (acL l (keyD x.pub)).nonce + 1 < 18446744073709551616) : (∀ j, j ≠ keyD x.pub → j ≠ x.to → j ≠ box → acL (xTq l x box).1 j = acL l j) ∧ (acL (xTq l x box).1 (keyD x.pub)).nonce = (acL l (keyD x.pub)).nonce + 1 ∧ sumB (xTq l x box).1 = sumB l := by
 obtain ⟨n1, n2, n3, n4⟩ := nude_ok x h hn
 have nude : (∀ j, j ≠ keyD x.pub → j ≠ x.to → j ≠ box → acL (kIq l x) j = acL l j) ∧ (acL (kIq l x) (keyD x.pub)).nonce = (acL l (keyD x.pub)).nonce + 1 ∧ sumB (kIq l x) = sumB l := ⟨fun j hj _ _ => n2 j hj, by rw [n3], n4⟩
 by_cases ho : x.amount + x.fee ≤ (acL l (keyD x.pub)).balance
 ·obtain ⟨l1, l2, l3, l4⟩ := less_ok x h hn ho
  cases h1 : qXq (kbq l x) x.to x.amount with
  | none => rw [paid_1 ho h1]; exact nude
  | some p =>
   obtain ⟨p1, p2, p3, p4⟩ := Qlq l1 h1
   cases h2 : qXq p box x.fee with
   | none => rw [paid_2 ho h1 h2]; exact nude
   | some q =>
    obtain ⟨q1, q2, q3, q4⟩ := Qlq p1 h2
    rw [paid_3 ho h1 h2]
    refine ⟨fun j hj ht hb => ?_, ?_, ?_⟩
    ·rw [q2 j hb, p2 j ht, l2 j hj]
    ·rw [q3, p3, l3]
    ·show sumB q = sumB l
     omega
 ·rw [Qhq ho]; exact nude
end Go.Proofs.YtgeelfdgnehdnaaDoor
namespace Go.Proofs.YtgeelfdgnehdnaaDoor
open Go.RowKit
set_option linter.unusedSimpArgs false
set_option linter.unusedVariables false
theorem p32 : (4294967296 : Nat) = 2 ^ 32 := by decide
theorem rot_eq {x n : Nat} (hx : x < 4294967296) (hn : n ≤ 32) : rotN x n = Nat.mod (Nat.shiftRight (Nat.mul x 4294967297) n) 4294967296 := by
 show ((x <<< (32 - n)) % 4294967296 % 4294967296) ||| ((x >>> n) % 4294967296) = ((x * 4294967297) >>> n) % 4294967296
 have e : x * 4294967297 = x <<< 32 ||| x := by
  rw [← Nat.shiftLeft_add_eq_or_of_lt (by rw [← p32]; exact hx), Nat.shiftLeft_eq]; omega
 rw [e, Nat.mod_mod, p32]
 rw [p32] at hx
 apply Nat.eq_of_testBit_eq
 intro i
 simp only [Nat.testBit_or, Nat.testBit_mod_two_pow, Nat.testBit_shiftLeft, Nat.testBit_shiftRight]
 by_cases h1 : i < 32
 ·by_cases h2 : 32 - n ≤ i
  ·have h3 : 32 ≤ n + i := by omega
   have h4 : i - (32 - n) = n + i - 32 := by omega
   simp [h1, h2, h3, h4]
  ·have h3 : ¬ 32 ≤ n + i := by omega
   simp [h1, h2, h3]
 ·simp [h1]
theorem xor_eq (a b : Nat) : xorN a b = Nat.mod (Nat.xor a b) 4294967296 := by
 show (a % 4294967296) ^^^ (b % 4294967296) = (a ^^^ b) % 4294967296
 rw [p32, Nat.xor_mod_two_pow]
theorem YUq {a b : Nat} (ha : a < 4294967296) (hb : b < 4294967296) : xorN a b = Nat.xor a b := by
 show (a % 4294967296) ^^^ (b % 4294967296) = a ^^^ b
 rw [Nat.mod_eq_of_lt ha, Nat.mod_eq_of_lt hb]
theorem and_eq {a b : Nat} (ha : a < 4294967296) (hb : b < 4294967296) : andN a b = Nat.land a b := by
 show (a % 4294967296) &&& (b % 4294967296) = a &&& b
 rw [Nat.mod_eq_of_lt ha, Nat.mod_eq_of_lt hb]
theorem Z3q {a b : Nat} (hb : b < 4294967296) : Nat.land a b < 4294967296 := Nat.lt_of_le_of_lt (Nat.and_le_right (n := a) (m := b)) hb
theorem xor_lt {a b : Nat} (ha : a < 4294967296) (hb : b < 4294967296) : Nat.xor a b < 4294967296 := by
 rw [p32] at *; exact Nat.xor_lt_two_pow ha hb
theorem not_lt (e : Nat) : notN e < 4294967296 := by
 unfold notN
 exact xor_lt (by omega) (Nat.mod_lt _ (by decide))
noncomputable def sgF (y i j k : Nat) : Nat := Nat.mod (Nat.xor (Nat.xor (Nat.shiftRight y i) (Nat.shiftRight y j)) (Nat.shiftRight y k)) 4294967296
theorem sg_eq {x i j k : Nat} (hx : x < 4294967296) (hi : i ≤ 32) (hj : j ≤ 32) (hk : k ≤ 32) : xorN (xorN (rotN x i) (rotN x j)) (rotN x k) = sgF (Nat.mul x 4294967297) i j k := by
 rw [rot_eq hx hi, rot_eq hx hj, rot_eq hx hk]
 unfold sgF
 generalize Nat.shiftRight (Nat.mul x 4294967297) i = A
 generalize Nat.shiftRight (Nat.mul x 4294967297) j = B
 generalize Nat.shiftRight (Nat.mul x 4294967297) k = D
 show ((A % 4294967296 % 4294967296 ^^^ B % 4294967296 % 4294967296) % 4294967296) ^^^ (D % 4294967296 % 4294967296) = (A ^^^ B ^^^ D) % 4294967296
 simp only [Nat.mod_mod, p32, ← Nat.xor_mod_two_pow]
noncomputable def ch3 (e f g : Nat) : Nat := Nat.xor g (Nat.land e (Nat.xor f g))
theorem ch_eq {e f g : Nat} (he : e < 4294967296) (hf : f < 4294967296) (hg : g < 4294967296) : xorN (andN e f) (andN (notN e) g) = ch3 e f g := by
 rw [and_eq he hf, and_eq (not_lt e) hg, YUq (Z3q hf) (Z3q hg)]
 have e1 : notN e = 2 ^ 32 - 1 ^^^ e := by
  show (4294967295 % 4294967296) ^^^ (e % 4294967296) = _
  rw [Nat.mod_eq_of_lt he]
 show (e &&& f) ^^^ (notN e &&& g) = g ^^^ (e &&& (f ^^^ g))
 rw [e1]
 rw [p32] at he hf hg
 apply Nat.eq_of_testBit_eq
 intro i
 simp only [Nat.testBit_xor, Nat.testBit_and, Nat.testBit_two_pow_sub_one]
 by_cases h : i < 32
 ·simp only [h, decide_true]
  cases e.testBit i <;> cases f.testBit i <;> cases g.testBit i <;> rfl
 ·have hp : 2 ^ 32 ≤ 2 ^ i := Nat.pow_le_pow_right (by decide) (by omega)
  rw [Nat.testBit_lt_two_pow (Nat.lt_of_lt_of_le he hp), Nat.testBit_lt_two_pow (Nat.lt_of_lt_of_le hf hp), Nat.testBit_lt_two_pow (Nat.lt_of_lt_of_le hg hp)]
  simp
noncomputable def ma3 (a b c : Nat) : Nat := Nat.xor (Nat.land a (Nat.xor b c)) (Nat.land b c)
theorem ma_eq {a b c : Nat} (ha : a < 4294967296) (hb : b < 4294967296) (hc : c < 4294967296) : xorN (xorN (andN a b) (andN a c)) (andN b c) = ma3 a b c := by
 rw [and_eq ha hb, and_eq ha hc, and_eq hb hc, YUq (Z3q hb) (Z3q hc), YUq (xor_lt (Z3q hb) (Z3q hc)) (Z3q hc)]
 show ((a &&& b) ^^^ (a &&& c)) ^^^ (b &&& c) = (a &&& (b ^^^ c)) ^^^ (b &&& c)
 apply Nat.eq_of_testBit_eq
 intro i
 simp only [Nat.testBit_xor, Nat.testBit_and]
 cases a.testBit i <;> cases b.testBit i <;> cases c.testBit i <;> rfl
noncomputable def s3F (y x i j k : Nat) : Nat := Nat.xor (Nat.mod (Nat.xor (Nat.shiftRight y i) (Nat.shiftRight y j)) 4294967296) (Nat.shiftRight x k)
theorem s3_eq {x i j k : Nat} (hx : x < 4294967296) (hi : i ≤ 32) (hj : j ≤ 32) (hk : k ≤ 32) : xorN (xorN (rotN x i) (rotN x j)) (shrN x k) = s3F (Nat.mul x 4294967297) x i j k := by
 rw [rot_eq hx hi, rot_eq hx hj, xor_eq (Nat.mod _ _)]
 have h1 : shrN x k = Nat.shiftRight x k := by
  show x >>> (min k 32) = x >>> k
  rw [Nat.min_eq_left hk]
 have h2 : Nat.shiftRight x k < 4294967296 := Nat.lt_of_le_of_lt (by show x >>> k ≤ x; rw [Nat.shiftRight_eq_div_pow]; exact Nat.div_le_self _ _) hx
 have e1 : ∀ A B : Nat, Nat.mod (Nat.xor (Nat.mod A 4294967296) (Nat.mod B 4294967296)) 4294967296 = Nat.mod (Nat.xor A B) 4294967296 := fun A B => by
  show ((A % 4294967296) ^^^ (B % 4294967296)) % 4294967296 = (A ^^^ B) % 4294967296
  rw [p32, ← Nat.xor_mod_two_pow, Nat.mod_mod]
 rw [e1, h1]
 exact YUq (Nat.mod_lt _ (by decide)) h2
noncomputable def fz {α : Type} (n : Nat) (c : Nat → α) : α := Nat.rec (c 0) (fun m _ => c (Nat.succ m)) n
theorem fz_eq {α : Type} (n : Nat) (c : Nat → α) : fz n c = c n := by cases n <;> rfl
noncomputable def oneF (h e f g k w : Nat) : Nat := Nat.add (Nat.add (Nat.add (Nat.add h (sgF (Nat.mul e 4294967297) 6 11 25)) (ch3 e f g)) k) w
noncomputable def naF (one a b c : Nat) : Nat := Nat.mod (Nat.add (Nat.add one (sgF (Nat.mul a 4294967297) 2 13 22)) (ma3 a b c)) 4294967296
noncomputable def neF (d one : Nat) : Nat := Nat.mod (Nat.add d one) 4294967296
noncomputable def nwF (w0 w1 w9 w14 : Nat) : Nat := Nat.mod (Nat.add (Nat.add (Nat.add w0 (s3F (Nat.mul w1 4294967297) w1 7 18 3)) w9) (s3F (Nat.mul w14 4294967297) w14 17 19 10)) 4294967296
structure S8.Ok (s : S8) : Prop where
 a : s.a < 4294967296
 b : s.b < 4294967296
 c : s.c < 4294967296
 d : s.d < 4294967296
 e : s.e < 4294967296
 f : s.f < 4294967296
 g : s.g < 4294967296
 h : s.h < 4294967296
theorem xmq (a b : Nat) : addN a b < 4294967296 := Nat.mod_lt _ (by decide)
theorem rnd_ok {s : S8} (h : s.Ok) (k w : Nat) : (roundN k w s).Ok := ⟨xmq _ _, h.a, h.b, h.c, xmq _ _, h.e, h.f, h.g⟩
theorem round_eq {s : S8} (h : s.Ok) (k w : Nat) : roundN k w s = ⟨naF (oneF s.h s.e s.f s.g k w) s.a s.b s.c, s.a, s.b, s.c, neF s.d (oneF s.h s.e s.f s.g k w), s.e, s.f, s.g⟩ := by
 have e1 : addN (addN (addN (addN s.h (xorN (xorN (rotN s.e 6) (rotN s.e 11)) (rotN s.e 25))) (xorN (andN s.e s.f) (andN (notN s.e) s.g))) k) w = oneF s.h s.e s.f s.g k w % 4294967296 := by
  rw [sg_eq h.e (by decide) (by decide) (by decide), ch_eq h.e h.f h.g]
  unfold oneF
  generalize sgF _ _ _ _ = A
  generalize ch3 _ _ _ = B
  show ((((s.h + A) % 4294967296 + B) % 4294967296 + k) % 4294967296 + w) % 4294967296 = (s.h + A + B + k + w) % 4294967296
  omega
 unfold roundN
 simp only [e1]
 rw [sg_eq h.a (by decide) (by decide) (by decide), ma_eq h.a h.b h.c]
 generalize oneF _ _ _ _ _ _ = O
 unfold naF neF
 generalize sgF _ _ _ _ = A
 generalize ma3 _ _ _ = B
 have q1 : addN (O % 4294967296) (addN A B) = Nat.mod (Nat.add (Nat.add O A) B) 4294967296 := by
  show (O % 4294967296 + (A + B) % 4294967296) % 4294967296 = (O + A + B) % 4294967296
  omega
 have q2 : addN s.d (O % 4294967296) = Nat.mod (Nat.add s.d O) 4294967296 := by
  show (s.d + O % 4294967296) % 4294967296 = (s.d + O) % 4294967296
  omega
 rw [q1, q2]
noncomputable def goF (ks : List Nat) : Nat → Nat → Nat → Nat → Nat → Nat → Nat → Nat → Nat → Nat → Nat → Nat → Nat → Nat → Nat → Nat → Nat → Nat → Nat → Nat → Nat → Nat → Nat → Nat → S8 :=
 List.rec (fun a b c d e f g h _ _ _ _ _ _ _ _ _ _ _ _ _ _ _ _ => ⟨a, b, c, d, e, f, g, h⟩)
  (fun k _ ih a b c d e f g h w0 w1 w2 w3 w4 w5 w6 w7 w8 w9 w10 w11 w12 w13 w14 w15 =>
   fz (oneF h e f g k w0) fun one => fz (naF one a b c) fun na => fz (neF d one) fun ne => fz (nwF w0 w1 w9 w14) fun nw =>
    ih na a b c ne e f g w1 w2 w3 w4 w5 w6 w7 w8 w9 w10 w11 w12 w13 w14 w15 nw) ks
theorem goF_cons (k : Nat) (ks : List Nat) (a b c d e f g h w0 w1 w2 w3 w4 w5 w6 w7 w8 w9 w10 w11 w12 w13 w14 w15 : Nat) :
  goF (k :: ks) a b c d e f g h w0 w1 w2 w3 w4 w5 w6 w7 w8 w9 w10 w11 w12 w13 w14 w15 =
   goF ks (naF (oneF h e f g k w0) a b c) a b c (neF d (oneF h e f g k w0)) e f g w1 w2 w3 w4 w5 w6 w7 w8 w9 w10 w11 w12 w13 w14 w15 (nwF w0 w1 w9 w14) := by
 unfold goF
 simp only [fz_eq]
noncomputable def wS (bs : Nat → Nat) (i : Nat) : Nat := (ySq bs (i + 1)).getD i 0
theorem YVq (bs : Nat → Nat) (i : Nat) : wS bs i = nextW bs (ySq bs i) := by
 unfold wS
 rw [ySq, List.getD_eq_getElem?_getD, List.getElem?_append_right (by rw [qkq]; exact Nat.le_refl _), qkq, Nat.sub_self]
 rfl
theorem xsq (bs : Nat → Nat) : ∀ (t i : Nat), i < t → (ySq bs t).getD i 0 = wS bs i
 | 0, _, h => by omega
 | t + 1, i, h => by
  rw [ySq, List.getD_eq_getElem?_getD]
  by_cases e : i < t
  ·rw [List.getElem?_append_left (by rw [qkq]; exact e), ← List.getD_eq_getElem?_getD]
   exact xsq bs t i e
  ·obtain rfl : i = t := by omega
   rw [List.getElem?_append_right (by rw [qkq]; exact Nat.le_refl _), qkq, Nat.sub_self, YVq]
   rfl
theorem wS_lt (bs : Nat → Nat) (i : Nat) (hb : ∀ i, bs i < 256) : wS bs i < 4294967296 := by
 rw [YVq]
 unfold nextW
 split
 ·unfold wordN orN
  have m : ∀ a, a % 4294967296 < 4294967296 := fun a => Nat.mod_lt _ (by decide)
  rw [p32] at *
  exact Nat.or_lt_two_pow (m _) (m _)
 ·exact xmq _ _
theorem nw_sum (X A Y B : Nat) : addN (addN (addN X A) Y) B = Nat.mod (Nat.add (Nat.add (Nat.add X A) Y) B) 4294967296 := by
 show (((X + A) % 4294967296 + Y) % 4294967296 + B) % 4294967296 = (X + A + Y + B) % 4294967296
 omega
attribute [local irreducible] wS in
theorem wS_late (bs : Nat → Nat) (hb : ∀ i, bs i < 256) (t : Nat) : wS bs (t + 16) = nwF (wS bs t) (wS bs (t + 1)) (wS bs (t + 9)) (wS bs (t + 14)) := by
 rw [YVq]
 unfold nextW
 have h1 : Nat.blt (ySq bs (t + 16)).length 16 = false := by
  rw [qkq]
  cases hq : Nat.blt (t + 16) 16 with
  | true => have : t + 16 < 16 := by simpa [Nat.blt_eq] using hq
            omega
  | false => rfl
 rw [h1]
 simp only [qkq]
 rw [show t + 16 - 16 = t by omega, show t + 16 - 15 = t + 1 by omega, show t + 16 - 7 = t + 9 by omega, show t + 16 - 2 = t + 14 by omega]
 rw [xsq bs _ t (by omega), xsq bs _ (t + 1) (by omega), xsq bs _ (t + 9) (by omega), xsq bs _ (t + 14) (by omega)]
 rw [s3_eq (wS_lt bs _ hb) (by decide) (by decide) (by decide), s3_eq (wS_lt bs _ hb) (by decide) (by decide) (by decide)]
 exact nw_sum _ _ _ _
theorem rounds_ok {s : S8} (h : s.Ok) (ws : List Nat) : ∀ t, (kiq ws s t).Ok
 | 0 => h
 | t + 1 => rnd_ok (rounds_ok h ws t) _ _
theorem go_eq (bs : Nat → Nat) (hb : ∀ i, bs i < 256) {s : S8} (h : s.Ok) : ∀ (n t : Nat), t + n = 64 → ∀ v, kiq (ySq bs 64) s t = v →
  goF (kW.drop t) v.a v.b v.c v.d v.e v.f v.g v.h (wS bs t) (wS bs (t + 1)) (wS bs (t + 2)) (wS bs (t + 3)) (wS bs (t + 4)) (wS bs (t + 5)) (wS bs (t + 6)) (wS bs (t + 7)) (wS bs (t + 8)) (wS bs (t + 9)) (wS bs (t + 10)) (wS bs (t + 11)) (wS bs (t + 12)) (wS bs (t + 13)) (wS bs (t + 14)) (wS bs (t + 15)) = kiq (ySq bs 64) s 64
 | 0, t, ht, v, hv => by
  obtain rfl : t = 64 := by omega
  rw [hv, show kW.drop 64 = [] from rfl]
  cases v
  rfl
 | n + 1, t, ht, v, hv => by
  have hlt : t < kW.length := by show t < 64; omega
  have ok : v.Ok := hv ▸ rounds_ok h _ t
  rw [List.drop_eq_getElem_cons hlt, goF_cons]
  have hn : kiq (ySq bs 64) s (t + 1) = ⟨naF (oneF v.h v.e v.f v.g kW[t] (wS bs t)) v.a v.b v.c, v.a, v.b, v.c, neF v.d (oneF v.h v.e v.f v.g kW[t] (wS bs t)), v.e, v.f, v.g⟩ := by
   rw [kiq, hv, xsq bs 64 t (by omega), round_eq ok, List.getD_eq_getElem?_getD, List.getElem?_eq_getElem hlt]
   rfl
  have := go_eq bs hb h n (t + 1) (by omega) _ hn
  rw [← this, wS_late bs hb]
noncomputable def hdF (l : List Nat) : Nat := List.rec 0 (fun b _ _ => b) l
noncomputable def tlF (l : List Nat) : List Nat := List.rec [] (fun _ l _ => l) l
noncomputable def w4F {α : Type} (l : List Nat) (c : Nat → List Nat → α) : α :=
 fz (Nat.lor (Nat.lor (Nat.lor (Nat.shiftLeft (hdF l) 24) (Nat.shiftLeft (hdF (tlF l)) 16)) (Nat.shiftLeft (hdF (tlF (tlF l))) 8)) (hdF (tlF (tlF (tlF l))))) fun w => c w (tlF (tlF (tlF (tlF l))))
noncomputable def opS {α : Type} (s : S8) (k : Nat → Nat → Nat → Nat → Nat → Nat → Nat → Nat → α) : α := S8.rec k s
theorem opS_eq {α : Type} (s : S8) (k : Nat → Nat → Nat → Nat → Nat → Nat → Nat → Nat → α) : opS s k = k s.a s.b s.c s.d s.e s.f s.g s.h := rfl
noncomputable def xLq {α : Type} (s : S8) (l : List Nat) (k : S8 → List Nat → α) : α :=
 w4F l fun w0 l => w4F l fun w1 l => w4F l fun w2 l => w4F l fun w3 l => w4F l fun w4 l => w4F l fun w5 l => w4F l fun w6 l => w4F l fun w7 l =>
 w4F l fun w8 l => w4F l fun w9 l => w4F l fun w10 l => w4F l fun w11 l => w4F l fun w12 l => w4F l fun w13 l => w4F l fun w14 l => w4F l fun w15 l =>
 opS s fun a b c d e f g h => opS (goF kW a b c d e f g h w0 w1 w2 w3 w4 w5 w6 w7 w8 w9 w10 w11 w12 w13 w14 w15) fun a' b' c' d' e' f' g' h' =>
  k ⟨Nat.mod (Nat.add a a') 4294967296, Nat.mod (Nat.add b b') 4294967296, Nat.mod (Nat.add c c') 4294967296, Nat.mod (Nat.add d d') 4294967296, Nat.mod (Nat.add e e') 4294967296, Nat.mod (Nat.add f f') 4294967296, Nat.mod (Nat.add g g') 4294967296, Nat.mod (Nat.add h h') 4294967296⟩ l
theorem hd_at : ∀ (l : List Nat), hdF l = atL l 0
 | [] => rfl
 | _ :: _ => rfl
theorem tl_drop : ∀ (l : List Nat), tlF l = l.drop 1
 | [] => rfl
 | _ :: _ => rfl
theorem at_drop (l : List Nat) (i j : Nat) : atL (l.drop i) j = atL l (i + j) := by
 simp [atL, List.getD_eq_getElem?_getD, List.getElem?_drop]
theorem word_eq {b0 b1 b2 b3 : Nat} (h0 : b0 < 256) (h1 : b1 < 256) (h2 : b2 < 256) (h3 : b3 < 256) : wordN b0 b1 b2 b3 = Nat.lor (Nat.lor (Nat.lor (Nat.shiftLeft b0 24) (Nat.shiftLeft b1 16)) (Nat.shiftLeft b2 8)) b3 := by
 have s : ∀ b n, b < 256 → n ≤ 24 → Nat.shiftLeft b n < 4294967296 := fun b n hb hn => by
  show b <<< n < 4294967296
  rw [Nat.shiftLeft_eq]
  have : 2 ^ n ≤ 2 ^ 24 := Nat.pow_le_pow_right (by decide) hn
  have := Nat.mul_le_mul (show b ≤ 255 by omega) this
  omega
 have e : ∀ b n, b < 256 → n ≤ 24 → shlN (b % 4294967296) n = Nat.shiftLeft b n := fun b n hb hn => by
  unfold shlN
  rw [Nat.min_eq_left (by omega), Nat.mod_eq_of_lt (show b < 4294967296 by omega), Nat.mod_eq_of_lt (s b n hb hn)]
 have o : ∀ a b, a < 4294967296 → b < 4294967296 → orN a b = Nat.lor a b := fun a b ha hb => by
  unfold orN
  rw [Nat.mod_eq_of_lt ha, Nat.mod_eq_of_lt hb]
 have ol : ∀ a b, a < 4294967296 → b < 4294967296 → Nat.lor a b < 4294967296 := fun a b ha hb => by
  rw [p32] at *
  exact Nat.or_lt_two_pow ha hb
 unfold wordN
 rw [e b0 24 h0 (by decide), e b1 16 h1 (by decide), e b2 8 h2 (by decide), Nat.mod_eq_of_lt (show b3 < 4294967296 by omega)]
 rw [o _ _ (s b0 24 h0 (by decide)) (s b1 16 h1 (by decide)), o _ _ (ol _ _ (s b0 24 h0 (by decide)) (s b1 16 h1 (by decide))) (s b2 8 h2 (by decide)), o _ _ (ol _ _ (ol _ _ (s b0 24 h0 (by decide)) (s b1 16 h1 (by decide))) (s b2 8 h2 (by decide))) (by omega)]
theorem wS_early (bs : Nat → Nat) (hb : ∀ i, bs i < 256) (t : Nat) (ht : t < 16) : wS bs t = Nat.lor (Nat.lor (Nat.lor (Nat.shiftLeft (bs (4 * t)) 24) (Nat.shiftLeft (bs (4 * t + 1)) 16)) (Nat.shiftLeft (bs (4 * t + 2)) 8)) (bs (4 * t + 3)) := by
 rw [YVq]
 unfold nextW
 have h1 : Nat.blt (ySq bs t).length 16 = true := by rw [qkq]; simpa [Nat.blt_eq] using ht
 rw [h1]
 simp only [qkq]
 exact word_eq (hb _) (hb _) (hb _) (hb _)
noncomputable def jWq (l : List Nat) : Prop := ∀ b ∈ l, b < 256
theorem small_at {l : List Nat} (h : jWq l) (i : Nat) : atL l i < 256 := by
 unfold atL
 rw [List.getD_eq_getElem?_getD]
 cases hq : l[i]? with
 | none => show (0 : Nat) < 256; decide
 | some b => exact h b (List.mem_of_getElem? hq)
theorem xDq {α : Type} {l : List Nat} (h : jWq l) (t : Nat) (ht : t < 16) (c : Nat → List Nat → α) : w4F (l.drop (4 * t)) c = c (wS (atL l) t) (l.drop (4 * (t + 1))) := by
 unfold w4F
 rw [fz_eq]
 simp only [hd_at, tl_drop, at_drop, List.drop_drop]
 rw [wS_early (atL l) (small_at h) t ht]
 rfl
theorem block_eq {α : Type} {s : S8} (hs : s.Ok) {l : List Nat} (h : jWq l) (k : S8 → List Nat → α) : xLq s l k = k (jRq (atL l) s) (l.drop 64) := by
 have key : goF kW s.a s.b s.c s.d s.e s.f s.g s.h (wS (atL l) 0) (wS (atL l) 1) (wS (atL l) 2) (wS (atL l) 3) (wS (atL l) 4) (wS (atL l) 5) (wS (atL l) 6) (wS (atL l) 7) (wS (atL l) 8) (wS (atL l) 9) (wS (atL l) 10) (wS (atL l) 11) (wS (atL l) 12) (wS (atL l) 13) (wS (atL l) 14) (wS (atL l) 15) = kiq (ySq (atL l) 64) s 64 := go_eq (atL l) (small_at h) hs 64 0 rfl s (by rw [kiq])
 have e0 : xLq s l k = xLq s (l.drop (4 * 0)) k := rfl
 rw [e0]
 unfold xLq
 rw [xDq h 0 (by decide), xDq h 1 (by decide), xDq h 2 (by decide), xDq h 3 (by decide), xDq h 4 (by decide), xDq h 5 (by decide), xDq h 6 (by decide), xDq h 7 (by decide), xDq h 8 (by decide), xDq h 9 (by decide), xDq h 10 (by decide), xDq h 11 (by decide), xDq h 12 (by decide), xDq h 13 (by decide), xDq h 14 (by decide), xDq h 15 (by decide)]
 rw [opS_eq, key, opS_eq]
 unfold jRq
 generalize kiq (ySq (atL l) 64) s 64 = X
 rfl
theorem block_ok (s : S8) (bs : Nat → Nat) : (jRq bs s).Ok := ⟨xmq _ _, xmq _ _, xmq _ _, xmq _ _, xmq _ _, xmq _ _, xmq _ _, xmq _ _⟩
noncomputable def lenF (l : List Nat) : Nat := List.rec 0 (fun _ _ n => Nat.succ n) l
theorem u8q : ∀ l : List Nat, lenF l = l.length
 | [] => rfl
 | _ :: l => congrArg Nat.succ (u8q l)
theorem Yrq {l : List Nat} (h : jWq l) (n : Nat) : jWq (l.drop n) := fun b hb => h b (List.mem_of_mem_drop hb)
theorem ukq {a b : List Nat} (ha : jWq a) (hb : jWq b) : jWq (a ++ b) := fun x hx => by
 rcases List.mem_append.1 hx with h | h
 ·exact ha x h
 ·exact hb x h
noncomputable def eatF (n : Nat) : S8 → List Nat → S8 × List Nat := Nat.rec (fun s r => (s, r)) (fun _ ih s r => match Nat.ble 64 (lenF r) with
 | true => xLq s r ih
 | false => (s, r)) n
theorem eatF_eq : ∀ (n : Nat) {s : S8} {r : List Nat}, s.Ok → jWq r → eatF n s r = eat n s r ∧ (eat n s r).1.Ok ∧ jWq (eat n s r).2
 | 0, s, r, hs, hr => ⟨rfl, hs, hr⟩
 | n + 1, s, r, hs, hr => by
  have e : eatF (n + 1) s r = match Nat.ble 64 (lenF r) with
   | true => xLq s r (eatF n)
   | false => (s, r) := rfl
  rw [e, u8q]
  unfold eat
  cases Nat.ble 64 r.length with
  | true =>
   show xLq s r (eatF n) = eat n (jRq (atL r) s) (r.drop 64) ∧ _
   rw [block_eq hs hr]
   exact eatF_eq n (block_ok _ _) (Yrq hr 64)
  | false => exact ⟨rfl, hs, hr⟩
noncomputable def absF (a : S8 × List Nat) (p : List Nat) : S8 × List Nat := eatF (lenF (a.2 ++ p)) a.1 (a.2 ++ p)
theorem absF_eq {a : S8 × List Nat} {p : List Nat} (ha : a.1.Ok) (h2 : jWq a.2) (hp : jWq p) : absF a p = jUq a p ∧ (jUq a p).1.Ok ∧ jWq (jUq a p).2 := by
 unfold absF jUq eats
 rw [u8q]
 exact eatF_eq _ ha (ukq h2 hp)
noncomputable def allF (n : Nat) : S8 → List Nat → S8 := Nat.rec (fun s _ => s) (fun _ ih s r => match Nat.ble 1 (lenF r) with
 | true => xLq s r ih
 | false => s) n
theorem allF_eq : ∀ (n : Nat) {s : S8} {r : List Nat}, s.Ok → jWq r → allF n s r = jlq n s r
 | 0, s, r, _, _ => rfl
 | n + 1, s, r, hs, hr => by
  have e : allF (n + 1) s r = match Nat.ble 1 (lenF r) with
   | true => xLq s r (allF n)
   | false => s := rfl
  rw [e, u8q]
  unfold jlq
  cases Nat.ble 1 r.length with
  | true =>
   show xLq s r (allF n) = jlq n (jRq (atL r) s) (r.drop 64)
   rw [block_eq hs hr]
   exact allF_eq n (block_ok _ _) (Yrq hr 64)
  | false => rfl
noncomputable def padF (r : List Nat) : List Nat := r ++ List.replicate (Nat.mod (Nat.sub 120 (Nat.mod (lenF r) 64)) 64) 0
theorem pad_eq : ∀ (n : Nat) (r : List Nat), (120 - r.length % 64) % 64 ≤ n → padZ n r = r ++ List.replicate ((120 - r.length % 64) % 64) 0
 | 0, r, h => by
  rw [Nat.le_zero.1 h]; simp [padZ]
 | n + 1, r, h => by
  unfold padZ
  cases hb : Nat.beq (r.length % 64) 56 with
  | true =>
   have := Nat.eq_of_beq_eq_true hb
   rw [this]; simp
  | false =>
   have hne : r.length % 64 ≠ 56 := fun e => by rw [e] at hb; cases hb
   show padZ n (r ++ [0]) = _
   have hl : (r ++ [0]).length = r.length + 1 := by simp
   rw [pad_eq n (r ++ [0]) (by rw [hl]; omega), hl, List.append_assoc]
   have : (120 - r.length % 64) % 64 = (120 - (r.length + 1) % 64) % 64 + 1 := by omega
   rw [this]
   rfl
theorem padF_eq (r : List Nat) : padF r = padZ 64 r := by
 rw [pad_eq 64 r (by omega)]
 unfold padF
 rw [u8q]; rfl
noncomputable def digF (s : S8) : List Nat := opS s fun a b c d e f g h =>
 [Nat.mod (Nat.shiftRight a 24) 256, Nat.mod (Nat.shiftRight a 16) 256, Nat.mod (Nat.shiftRight a 8) 256, Nat.mod (Nat.shiftRight a 0) 256,
  Nat.mod (Nat.shiftRight b 24) 256, Nat.mod (Nat.shiftRight b 16) 256, Nat.mod (Nat.shiftRight b 8) 256, Nat.mod (Nat.shiftRight b 0) 256,
  Nat.mod (Nat.shiftRight c 24) 256, Nat.mod (Nat.shiftRight c 16) 256, Nat.mod (Nat.shiftRight c 8) 256, Nat.mod (Nat.shiftRight c 0) 256,
  Nat.mod (Nat.shiftRight d 24) 256, Nat.mod (Nat.shiftRight d 16) 256, Nat.mod (Nat.shiftRight d 8) 256, Nat.mod (Nat.shiftRight d 0) 256,
  Nat.mod (Nat.shiftRight e 24) 256, Nat.mod (Nat.shiftRight e 16) 256, Nat.mod (Nat.shiftRight e 8) 256, Nat.mod (Nat.shiftRight e 0) 256,
  Nat.mod (Nat.shiftRight f 24) 256, Nat.mod (Nat.shiftRight f 16) 256, Nat.mod (Nat.shiftRight f 8) 256, Nat.mod (Nat.shiftRight f 0) 256,
  Nat.mod (Nat.shiftRight g 24) 256, Nat.mod (Nat.shiftRight g 16) 256, Nat.mod (Nat.shiftRight g 8) 256, Nat.mod (Nat.shiftRight g 0) 256,
  Nat.mod (Nat.shiftRight h 24) 256, Nat.mod (Nat.shiftRight h 16) 256, Nat.mod (Nat.shiftRight h 8) 256, Nat.mod (Nat.shiftRight h 0) 256]
theorem digF_eq (s : S8) : digF s = digN s := rfl
noncomputable def endF (n : Nat) (s : S8) (r : List Nat) : List Nat := digF (allF (lenF (padF (r ++ [128]) ++ len8 n)) s (padF (r ++ [128]) ++ len8 n))
noncomputable def shaF (ps : List (List Nat)) : List Nat := Prod.rec (fun s r => endF (y0q ps) s r) (ps.foldl absF (s0, []))
theorem small_len8 (n : Nat) : jWq (len8 n) := fun b hb => by
 unfold len8 at hb
 obtain ⟨i, _, rfl⟩ := List.mem_map.1 hb
 exact Nat.mod_lt _ (by decide)
theorem small_pad {r : List Nat} (h : jWq r) : jWq (padF r) := ukq h fun b hb => by
 rw [(List.mem_replicate.1 hb).2]; decide
theorem fold_eq : ∀ (ps : List (List Nat)) (a : S8 × List Nat), a.1.Ok → jWq a.2 → (∀ p ∈ ps, jWq p) → ps.foldl absF a = ps.foldl jUq a ∧ (ps.foldl jUq a).1.Ok ∧ jWq (ps.foldl jUq a).2
 | [], a, h1, h2, _ => ⟨rfl, h1, h2⟩
 | p :: ps, a, h1, h2, h3 => by
  obtain ⟨e, k1, k2⟩ := absF_eq h1 h2 (h3 p (List.mem_cons_self ..))
  simp only [List.foldl_cons, e]
  exact fold_eq ps _ k1 k2 fun q hq => h3 q (List.mem_cons_of_mem _ hq)
theorem sha_eq {ps : List (List Nat)} (h : ∀ p ∈ ps, jWq p) : shaF ps = shaN ps := by
 obtain ⟨e, k1, k2⟩ := fold_eq ps (s0, []) ⟨by decide, by decide, by decide, by decide, by decide, by decide, by decide, by decide⟩ (fun b hb => by cases hb) h
 have e1 : shaF ps = endF (y0q ps) (ps.foldl absF (s0, [])).1 (ps.foldl absF (s0, [])).2 := rfl
 rw [e1, e]
 unfold endF shaN
 have h1 : jWq ((ps.foldl jUq (s0, [])).2 ++ [128]) := ukq k2 fun b hb => by
  rw [List.mem_singleton.1 hb]; decide
 rw [allF_eq _ k1 (ukq (small_pad h1) (small_len8 _)), u8q, padF_eq, digF_eq]
end Go.Proofs.YtgeelfdgnehdnaaDoor
namespace Go.Proofs.YtgeelfdgnehdnaaDoor
open Go.RowKit
set_option linter.unusedSimpArgs false
set_option linter.unusedVariables false
attribute [local irreducible] CoW OpW FlW Step Spec
theorem key0_head : (shaN ([tagB 3 [zeroD.1]].map fun p => p.map UInt8.toNat)).head? = some 56 := by
 rw [← sha_eq fun p hp b hb => by
  simp only [List.map_cons, List.map_nil, List.mem_cons, List.not_mem_nil, or_false] at hp
  subst hp
  obtain ⟨c, _, rfl⟩ := List.mem_map.1 hb
  exact c.toNat_lt]
 kernel_rfl
def d1 : Dig := ⟨1 :: List.replicate 31 0, rfl⟩
def d2 : Dig := ⟨2 :: List.replicate 31 0, rfl⟩
theorem key_head {c : UInt8} {l : List UInt8} {h : (c :: l).length = 32} (e : keyD zeroD = ⟨c :: l, h⟩) : c = UInt8.ofNat 56 := by
 have h1 := congrArg (fun d : Dig => d.1.head?) e
 have h2 : (keyD zeroD).1.head? = some (UInt8.ofNat 56) := by
  show ((shaN ([tagB 3 [zeroD.1]].map fun p => p.map UInt8.toNat)).map UInt8.ofNat).head? = _
  rw [List.head?_map, key0_head]; rfl
 simp only at h1
 rw [h2] at h1
 simpa using h1.symm
theorem key_d1 : keyD zeroD ≠ d1 := fun e => absurd (key_head e) (by decide)
theorem key_d2 : keyD zeroD ≠ d2 := fun e => absurd (key_head e) (by decide)
theorem d12 : d1 ≠ d2 := fun e => absurd (congrArg (fun d : Dig => d.1.head?) e) (by decide)
theorem more_at {p q : List Pr} {k : Dig} {c : Nat} (h : Srt p) (hm : qXq p k c = some q) : acL q k = ⟨(acL p k).nonce, (acL p k).balance + c⟩ := by
 unfold qXq at hm
 split at hm
 ·rename_i hb
  cases hm
  rw [xnq h (a := ⟨(acL p k).nonce, (acL p k).balance + c⟩) ⟨(acL_ok p k).1, hb⟩, if_pos rfl]
 ·cases hm
theorem more_is {p : List Pr} {k : Dig} {c : Nat} (h : (acL p k).balance + c < 18446744073709551616) : ∃ q, qXq p k c = some q := by
 unfold qXq; rw [if_pos h]; exact ⟨_, rfl⟩
def tenX (s : Dig) : Tx := ⟨zeroD, d1, 0, 7, 2, s⟩
noncomputable def tenL : List Pr := setL [] (keyD zeroD) ⟨0, 10⟩
theorem ten_srt : Srt tenL := Y1q (l := []) List.Pairwise.nil _ _
theorem ten_at (j : Dig) : acL tenL j = if j = keyD zeroD then ⟨0, 10⟩ else .zero := by
 unfold tenL
 rw [xnq (l := []) List.Pairwise.nil ⟨by decide, by decide⟩]; rfl
theorem paid_ten (s : Dig) : ∃ q, xTq tenL (tenX s) d2 = (q, 0) ∧ acL q (keyD zeroD) = ⟨1, 1⟩ ∧ acL q d1 = ⟨0, 7⟩ ∧ acL q d2 = ⟨0, 2⟩ := by
 have a0 : acL tenL (keyD (tenX s).pub) = ⟨0, 10⟩ := by show acL tenL (keyD zeroD) = _; rw [ten_at, if_pos rfl]
 have a1 : acL tenL d1 = .zero := by rw [ten_at, if_neg key_d1.symm]
 have a2 : acL tenL d2 = .zero := by rw [ten_at, if_neg key_d2.symm]
 have ho : (tenX s).amount + (tenX s).fee ≤ (acL tenL (keyD (tenX s).pub)).balance := by rw [a0]; show 7 + 2 ≤ 10; omega
 obtain ⟨l1, l2, l3, l4⟩ := less_ok (tenX s) ten_srt (by rw [a0]; decide) ho
 rw [a0] at l3
 have b1 : acL (kbq tenL (tenX s)) d1 = .zero := by rw [l2 d1 key_d1.symm, a1]
 have b2 : acL (kbq tenL (tenX s)) d2 = .zero := by rw [l2 d2 key_d2.symm, a2]
 obtain ⟨p, hp⟩ : ∃ p, qXq (kbq tenL (tenX s)) d1 7 = some p := more_is (by rw [b1]; decide)
 obtain ⟨p1, p2, p3, p4⟩ := Qlq l1 hp
 have c1 := more_at l1 hp
 rw [b1] at c1
 have c2 : acL p d2 = .zero := by rw [p2 d2 d12.symm, b2]
 obtain ⟨q, hq⟩ : ∃ q, qXq p d2 2 = some q := more_is (by rw [c2]; decide)
 obtain ⟨q1, q2, q3, q4⟩ := Qlq p1 hq
 have e2 := more_at p1 hq
 rw [c2] at e2
 refine ⟨q, paid_3 ho hp hq, ?_, ?_, e2⟩
 ·rw [q2 _ key_d2, p2 _ key_d1]; exact l3
 ·rw [q2 _ d12]; exact c1
variable {G : Nat → Option W}
theorem has_s (t : Tree) (n : Nat) (t0 : T) (h : IsA t n t0) (k : Dig) (a : Acct) : PS cfg G 28 [tW t, dW k, .int .u64 (a.nonce : Int), .int .u64 (a.balance : Int)] (.bool (decide (yzq t0 k = a))) := by
 refine yqq (fn := Tryd.f28) rfl rfl rfl (Nat.le_of_ble_eq_true rfl) (fun R k0 => ?_)
 refine zpq 11 rfl ?_
 refine zjq rfl rfl rfl rfl rfl rfl (Z6q t n t0 h k) ?_
 refine zbq 11 rfl ?_
 refine zwq (w' := .bool true) rfl rfl (congrArg W.bool (by first | rfl | exact eqI_iff.2 rfl | (simp; done) | decide | (simp [ltI_iff, eqI_iff]; done))) ?_
 refine zbq 5 rfl ?_
 refine zaq rfl (qJq rfl rfl rfl rfl (ZGq (yzq t0 k) a)) ?_
 refine zbq 5 rfl ?_
 exact zuq (.inr rfl) rfl rfl
theorem tenv_s : PE cfg glK 25 [] (fun w => ∃ t n t0, IsA t n t0 ∧ t0.all = tenL ∧ t.nodes.length ≤ 257 ∧ w = tW t) := by
 have h0 : IsA ⟨[], 0⟩ 0 .nil := ⟨⟨by simp, fun i x h => by simp at h, rfl, .nil, rfl⟩, fun p hp => by simp [T.all] at hp⟩
 refine uvq (fn := Tryd.f25) rfl rfl rfl (Nat.le_of_ble_eq_true rfl) (fun R k0 => ?_)
 refine zpq 8 rfl ?_
 refine zwq rfl rfl vjq (zjq rfl rfl rfl rfl rfl rfl (key_s zeroD) ?_)
 refine zaq rfl rfl ?_
 (refine op_ent (fun _ => ent_view [(0, .ptr 0 0), (4, tW ⟨[], 0⟩), (6, dW (keyD zeroD)), (7, aW ⟨0, 10⟩)] ⟨⟨_, rfl, .ptrK rfl⟩, ⟨_, rfl, .agg (.cons .nilfz (.cons (.pur rfl) .nil))⟩, ⟨_, rfl, .pur (by simp)⟩, ⟨_, rfl, .pur rfl⟩, trivial⟩) ?_; refine zrq rfl (jpq rfl rfl rfl rfl rfl (aset_s ⟨[], 0⟩ 0 .nil (keyD zeroD) ⟨0, 10⟩ h0 ⟨by decide, by decide⟩ (by simp)) (by simp) ?_); rintro w hw ⟨t', n', t1, h', hall, ⟨ms, hms, hml⟩, rfl⟩)
 refine zbq 15 rfl ?_
 exact jMq (w' := tW t') (.inr rfl) rfl (.pur (by simp)) (by simp) ⟨t', n', t1, h', hall, by rw [hms]; simpa using hml, rfl⟩
theorem payx_s : PS cfg glK 26 [.int .u64 ((0 : Nat) : Int), .int .u64 ((7 : Nat) : Int), .int .u64 ((2 : Nat) : Int)] (txW (tenX (umq (tenX zeroD)))) := by
 refine yqq (fn := Tryd.f26) rfl rfl rfl (Nat.le_of_ble_eq_true rfl) (fun R k0 => ?_)
 refine zpq 7 rfl ?_
 refine zwq (w' := dW d1) rfl rfl rfl ?_
 refine zbq 3 rfl ?_
 refine zwq (w' := txW (tenX zeroD)) rfl rfl (by show W.agg 99 [_, _, _, _, _, _] = W.agg 99 [dW zeroD, dW d1, _, _, _, dW zeroD]; rw [← vjq]; rfl) ?_
 refine zjq rfl rfl rfl rfl rfl rfl (txsign_s (tenX zeroD) ⟨by decide, by decide, by decide⟩) ?_
 refine zbq 4 rfl ?_
 exact zuq (.inr rfl) rfl rfl
theorem ksq : PS cfg glK 20 [] (.bool true) := by
 obtain ⟨x, ex⟩ : ∃ x, x = tenX (umq (tenX zeroD)) := ⟨_, rfl⟩
 have hx : x.ok := by rw [ex]; exact ⟨by show (0 : Nat) < _; omega, by show (7 : Nat) < _; omega, by show (2 : Nat) < _; omega⟩
 have hs : x.sign = umq x := by rw [ex]; rfl
 have hpub : x.pub = zeroD := by rw [ex]; rfl
 have hnon : x.nonce = 0 := by rw [ex]; rfl
 have px := payx_s
 rw [← ex] at px
 obtain ⟨q, hq, u0, u1, u2⟩ := paid_ten (umq (tenX zeroD))
 rw [← ex] at hq
 refine yqq (fn := Tryd.f20) rfl rfl rfl (Nat.le_of_ble_eq_true rfl) (fun R k0 => ?_)
 refine zpq 7 rfl ?_
 (refine zrq rfl (jpq rfl rfl rfl rfl rfl tenv_s (by simp) ?_); rintro w hw ⟨t, n, t0, h, hall, hlen, rfl⟩; have hn : x.nonce = (acL t0.all (keyD x.pub)).nonce := by rw [hnon, hpub, hall, ten_at, if_pos rfl])
 refine zjq rfl rfl rfl rfl rfl rfl (px) ?_
 refine zwq (w' := dW d2) rfl rfl rfl ?_
 (refine zrq rfl (jpq rfl rfl rfl rfl rfl (pay_s t n t0 x hx d2 h hs hn (by omega) (by omega)) (by simp) ?_); rintro w hw ⟨t', n', t1, h', hgo, rfl⟩; rw [hall, hq] at hgo ⊢; have eq1 := hgo.1; simp only at eq1; have e0 := jCq h'.toIsT (keyD zeroD); have e1 := jCq h'.toIsT d1; have e2 := jCq h'.toIsT d2; rw [eq1] at e0 e1 e2; rw [u0] at e0; rw [u1] at e1; rw [u2] at e2)
 refine zbq 13 rfl ?_
 refine xIq (w' := .bool true) rfl rfl (congrArg W.bool (by first | rfl | exact eqI_iff.2 rfl | (simp; done) | decide | (simp [ltI_iff, eqI_iff]; done))) ?_
 refine zSq 2 rfl ?_
 refine xIq (w' := .bool true) rfl rfl (congrArg W.bool (by first | rfl | exact eqI_iff.2 rfl | (simp; done) | decide | (simp [ltI_iff, eqI_iff]; done))) ?_
 refine zSq 3 rfl ?_
 refine xIq rfl rfl vjq ?_
 refine xeq rfl rfl rfl rfl rfl rfl (key_s zeroD) ?_
 refine xeq rfl rfl rfl rfl rfl rfl (y7q (w' := .bool true) (has_s t' n' t1 h' (keyD zeroD) ⟨1, 1⟩) (by rw [decide_eq_true e0])) ?_
 refine zSq 3 rfl ?_
 refine xIq (w' := dW d1) rfl rfl rfl ?_
 refine xeq rfl rfl rfl rfl rfl rfl (y7q (w' := .bool true) (has_s t' n' t1 h' d1 ⟨0, 7⟩) (by rw [decide_eq_true e1])) ?_
 refine zSq 3 rfl ?_
 refine xIq (w' := dW d2) rfl rfl rfl ?_
 refine xeq rfl rfl rfl rfl rfl rfl (y7q (w' := .bool true) (has_s t' n' t1 h' d2 ⟨0, 2⟩) (by rw [decide_eq_true e2])) ?_
 refine zSq 5 rfl ?_
 exact zuq (.inr rfl) rfl rfl
end Go.Proofs.YtgeelfdgnehdnaaDoor
namespace Go.Proofs.YtgeelfdgnehdnaaDoor
open Go.RowKit
set_option linter.unusedSimpArgs false
set_option linter.unusedVariables false
attribute [local irreducible] CoW OpW FlW Step Spec
theorem Ztq {t : Tree} (h : ¬ uRq t 600) : t.nodes.length ≤ 600 := Nat.le_of_not_lt fun q => h (.inl q)
theorem fit_tx {w : W} (h : Fit (.st 99 [.arr 32 1 (.int .u8), .arr 32 1 (.int .u8), .int .u64, .int .u64, .int .u64, .arr 32 1 (.int .u8)]) w) : ∃ x : Tx, w = txW x ∧ x.ok := by
 obtain ⟨l, rfl, w1, l1, rfl, h1, w2, l2, rfl, h2, w3, l3, rfl, h3, w4, l4, rfl, h4, w5, l5, rfl, h5, w6, l6, rfl, h6, rfl⟩ := h
 obtain ⟨a, rfl⟩ := fit_dig h1
 obtain ⟨b, rfl⟩ := fit_dig h2
 obtain ⟨n, rfl, hn⟩ := Zzq h3
 obtain ⟨m, rfl, hm⟩ := Zzq h4
 obtain ⟨f, rfl, hf⟩ := Zzq h5
 obtain ⟨s, rfl⟩ := fit_dig h6
 exact ⟨⟨a, b, n, m, f, s⟩, rfl, hn, hm, hf⟩
end Go.Proofs.YtgeelfdgnehdnaaDoor
namespace Go.Proofs.YtgeelfdgnehdnaaDoor
open Go.RowKit
set_option linter.unusedSimpArgs false
set_option linter.unusedVariables false
attribute [local irreducible] CoW OpW FlW Step Spec
variable {G : Nat → Option W}
theorem fit_dep {w : W} (h : Fit (.st 34 [.int .u64, .arr 32 1 (.int .u8), .int .u64]) w) : ∃ d : Depo, w = pdW d ∧ d.amount < 18446744073709551616 := by
 obtain ⟨l, rfl, w1, l1, rfl, h1, w2, l2, rfl, h2, w3, l3, rfl, h3, rfl⟩ := h
 obtain ⟨n, rfl, hn⟩ := Zzq h1
 obtain ⟨k, rfl⟩ := fit_dig h2
 obtain ⟨m, rfl, hm⟩ := Zzq h3
 exact ⟨⟨n, k, m⟩, rfl, hm⟩
theorem k3q (t : Tree) (n : Nat) (t0 : T) (h : IsA t n t0) (hi lo : Nat) (e1 : sumB t0.all / 18446744073709551616 = hi) (e2 : sumB t0.all % 18446744073709551616 = lo) : PS cfg G 29 [tW t, .int .u64 (hi : Int), .int .u64 (lo : Int)] (.bool true) := by
 subst e1
 subst e2
 refine yqq (fn := Tryd.f29) rfl rfl rfl (Nat.le_of_ble_eq_true rfl) (fun R k0 => ?_)
 refine zpq 9 rfl ?_
 refine zjq rfl rfl rfl rfl rfl rfl (uOq t n t0 h) ?_
 refine zbq 12 rfl ?_
 refine zwq (w' := .bool true) rfl rfl (congrArg W.bool (by first | rfl | exact eqI_iff.2 rfl | (simp; done) | decide | (simp [ltI_iff, eqI_iff]; done))) ?_
 refine zbq 3 rfl ?_
 refine zwq (w' := .bool true) rfl rfl (congrArg W.bool (by first | rfl | exact eqI_iff.2 rfl | (simp; done) | decide | (simp [ltI_iff, eqI_iff]; done))) ?_
 refine zbq 4 rfl ?_
 refine zwq (w' := .bool true) rfl rfl (congrArg W.bool (by first | rfl | exact eqI_iff.2 rfl | (simp; done) | decide | (simp [ltI_iff, eqI_iff]; done))) ?_
 refine zbq 5 rfl ?_
 exact zuq (.inr rfl) rfl rfl
theorem wrap_plus (s b : Nat) : j3q .u64 (((s % 18446744073709551616 : Nat) : Int) + (b : Int)) = (((s + b) % 18446744073709551616 : Nat) : Int) := by
 rw [show (((s % 18446744073709551616 : Nat) : Int) + (b : Int)) = ((s % 18446744073709551616 + b : Nat) : Int) by omega]
 show (((s % 18446744073709551616 + b) % 18446744073709551616 : Nat) : Int) = _
 omega
theorem giv_sum {t : Tree} {n : Nat} {t0 : T} (h : IsA t n t0) (d : Depo) : (overB t0 d → sumB (givL t0 d) = sumB t0.all) ∧ (¬ overB t0 d → sumB (givL t0 d) = sumB t0.all + d.amount) := by
 refine ⟨fun ho => by unfold givL; rw [if_pos ho], fun ho => ?_⟩
 unfold givL
 rw [if_neg ho]
 have ho : ¬ 18446744073709551616 ≤ (yzq t0 d.to).balance + d.amount := ho
 have e := jCq h.toIsT d.to
 rw [e] at ho ⊢
 have := YZq h.toIsT.srt (a := ⟨(acL t0.all d.to).nonce, (acL t0.all d.to).balance + d.amount⟩) ⟨(acL_ok _ _).1, by show _ + _ < _; omega⟩ d.to
 simp only at this
 omega
theorem keeps_no (t : Tree) (x : Tx) (box : Dig) (d : Depo) (hb : t.nodes.length ≤ 4611686018427387903) (hg : ¬ uRq t 600) (hA : ¬ MayA t) : PS cfg glK 7 [tW t, txW x, dW box, pdW d] (.bool true) := by
 refine yqq (fn := Tryd.f7) rfl rfl rfl (Nat.le_of_ble_eq_true rfl) (fun R k0 => ?_)
 refine zpq 11 rfl ?_
 refine zjq rfl rfl rfl rfl rfl rfl ksq ?_
 refine zbq 7 rfl ?_
 refine zjq rfl rfl rfl rfl rfl rfl (y7q (w' := .bool false) (veq t 600 hb (by omega)) (by rw [decide_eq_false hg])) ?_
 refine zbq 12 rfl ?_
 refine zjq rfl rfl rfl rfl rfl rfl (atotal_no t hb hA) ?_
 refine zbq 13 rfl ?_
 refine zwq (w' := .bool true) rfl rfl (congrArg W.bool (by first | rfl | exact eqI_iff.2 rfl | (simp; done) | decide | (simp [ltI_iff, eqI_iff]; done))) ?_
 refine zbq 8 rfl ?_
 refine zjq rfl rfl rfl rfl rfl rfl (pay_no t x box hb hA) ?_
 refine zbq 16 rfl ?_
 refine zwq (w' := .bool true) rfl rfl (congrArg W.bool (by first | rfl | exact eqI_iff.2 rfl | (simp; done) | decide | (simp [ltI_iff, eqI_iff]; done))) ?_
 refine zbq 6 rfl ?_
 exact zuq (.inr rfl) rfl rfl
theorem keeps_f (t : Tree) (n : Nat) (t0 : T) (h : IsA t n t0) (x : Tx) (box : Dig) (d : Depo) (hd : d.amount < 18446744073709551616) (hb : t.nodes.length ≤ 4611686018427387903) (hg : ¬ uRq t 600) (c : Nat) (hc : c ≠ 0) (hP : PS cfg glK 22 [tW t, txW x, dW box] (.tup [noT, .int .i64 0, .int .i64 (c : Int)])) : PS cfg glK 7 [tW t, txW x, dW box, pdW d] (.bool true) := by
 have hl := Ztq hg
 have hs := Y0q t0.all
 have hal := h.all_le
 obtain ⟨g1, g2⟩ := giv_sum h d
 by_cases ho : overB t0 d
 ·have gc : givC t0 d = 151 := by unfold givC; rw [if_pos ho]
  have gs := g1 ho
  refine yqq (fn := Tryd.f7) rfl rfl rfl (Nat.le_of_ble_eq_true rfl) (fun R k0 => ?_)
  refine zpq 11 rfl ?_
  refine zjq rfl rfl rfl rfl rfl rfl ksq ?_
  refine zbq 7 rfl ?_
  refine zjq rfl rfl rfl rfl rfl rfl (y7q (w' := .bool false) (veq t 600 hb (by omega)) (by rw [decide_eq_false hg])) ?_
  refine zbq 12 rfl ?_
  refine zjq rfl rfl rfl rfl rfl rfl (uOq t n t0 h) ?_
  refine zbq 13 rfl ?_
  refine zwq (w' := .bool false) rfl rfl (congrArg W.bool (by first | rfl | exact eqI_iff.2 rfl | (simp; done) | decide | (simp [ltI_iff, eqI_iff]; done))) ?_
  refine zbq 10 rfl ?_
  refine zjq rfl rfl rfl rfl rfl rfl hP ?_
  refine zbq 14 rfl ?_
  (refine zrq rfl (jpq rfl rfl rfl rfl rfl (give_s t n t0 d h hd (by omega)) (by simp) ?_); rintro w hw2 ⟨tg, ng, tg0, hg', hgo', rfl⟩; have eg := hgo'.1; rw [gc])
  refine zbq 14 rfl ?_
  refine zwq (w' := .bool false) rfl rfl (congrArg W.bool (eqI_not.2 (by omega))) ?_
  refine zbq 9 rfl ?_
  refine zwq (w' := .bool false) rfl rfl (congrArg W.bool (by first | rfl | exact eqI_iff.2 rfl | (simp; done) | decide | (simp [ltI_iff, eqI_iff]; done))) ?_
  refine zbq 10 rfl ?_
  refine zwq (w' := .bool true) rfl rfl (congrArg W.bool (by first | rfl | exact eqI_iff.2 rfl | (simp; done) | decide | (simp [ltI_iff, eqI_iff]; done))) ?_
  refine zbq 10 rfl ?_
  refine zjq rfl rfl rfl rfl rfl rfl (k3q tg ng tg0 hg' _ _ (by rw [eg, gs]) (by rw [eg, gs])) ?_
  refine zbq 6 rfl ?_
  exact zuq (.inr rfl) rfl rfl
 ·have gc : givC t0 d = 0 := by unfold givC; rw [if_neg ho]
  have gs := g2 ho
  refine yqq (fn := Tryd.f7) rfl rfl rfl (Nat.le_of_ble_eq_true rfl) (fun R k0 => ?_)
  refine zpq 11 rfl ?_
  refine zjq rfl rfl rfl rfl rfl rfl ksq ?_
  refine zbq 7 rfl ?_
  refine zjq rfl rfl rfl rfl rfl rfl (y7q (w' := .bool false) (veq t 600 hb (by omega)) (by rw [decide_eq_false hg])) ?_
  refine zbq 12 rfl ?_
  refine zjq rfl rfl rfl rfl rfl rfl (uOq t n t0 h) ?_
  refine zbq 13 rfl ?_
  refine zwq (w' := .bool false) rfl rfl (congrArg W.bool (by first | rfl | exact eqI_iff.2 rfl | (simp; done) | decide | (simp [ltI_iff, eqI_iff]; done))) ?_
  refine zbq 10 rfl ?_
  refine zjq rfl rfl rfl rfl rfl rfl hP ?_
  refine zbq 14 rfl ?_
  (refine zrq rfl (jpq rfl rfl rfl rfl rfl (give_s t n t0 d h hd (by omega)) (by simp) ?_); rintro w hw2 ⟨tg, ng, tg0, hg', hgo', rfl⟩; have eg := hgo'.1; rw [gc])
  refine zbq 14 rfl ?_
  refine zwq (w' := .bool false) rfl rfl (congrArg W.bool (eqI_not.2 (by omega))) ?_
  refine zbq 9 rfl ?_
  refine zwq (w' := .bool false) rfl rfl (congrArg W.bool (by first | rfl | exact eqI_iff.2 rfl | (simp; done) | decide | (simp [ltI_iff, eqI_iff]; done))) ?_
  refine zbq 10 rfl ?_
  refine zwq (w' := .bool false) rfl rfl (congrArg W.bool (by first | rfl | exact eqI_iff.2 rfl | (simp; done) | decide | (simp [ltI_iff, eqI_iff]; done))) ?_
  refine zbq 10 rfl ?_
  refine zwq (w' := .int .u64 (((sumB t0.all + d.amount) % 18446744073709551616 : Nat) : Int)) rfl rfl (congrArg (W.int .u64) (wrap_plus (sumB t0.all) d.amount)) ?_
  refine zbq 11 rfl ?_
  refine zQq rfl (fun h1 => ?_) (fun h1 => ?_)
  ·refine zeq 2 rfl ?_
   refine zxq (sumB t0.all / 18446744073709551616 + 1) rfl rfl (by first | rfl | omega) ⟨by omega, by omega⟩ ?_
   refine zbq 10 rfl ?_
   refine zjq rfl rfl rfl rfl rfl rfl (k3q tg ng tg0 hg' _ _ (by rw [eg, gs]; omega) (by rw [eg, gs])) ?_
   refine zbq 5 rfl ?_
   exact zuq (.inr rfl) rfl rfl
  ·refine zeq 9 rfl ?_
   refine zjq rfl rfl rfl rfl rfl rfl (k3q tg ng tg0 hg' _ _ (by rw [eg, gs]; omega) (by rw [eg, gs])) ?_
   refine zbq 5 rfl ?_
   exact zuq (.inr rfl) rfl rfl
theorem keeps_p (t : Tree) (n : Nat) (t0 : T) (h : IsA t n t0) (x : Tx) (box : Dig) (d : Depo) (hd : d.amount < 18446744073709551616) (hb : t.nodes.length ≤ 4611686018427387903) (hg : ¬ uRq t 600) (hP : PE cfg glK 22 [tW t, txW x, dW box] (PayA t t0 x box)) (hpay : sumB (xTq t0.all x box).1 = sumB t0.all) : PS cfg glK 7 [tW t, txW x, dW box, pdW d] (.bool true) := by
 have hl := Ztq hg
 have hs := Y0q t0.all
 have hal := h.all_le
 obtain ⟨g1, g2⟩ := giv_sum h d
 by_cases ho : overB t0 d
 ·have gc : givC t0 d = 151 := by unfold givC; rw [if_pos ho]
  have gs := g1 ho
  refine yqq (fn := Tryd.f7) rfl rfl rfl (Nat.le_of_ble_eq_true rfl) (fun R k0 => ?_)
  refine zpq 11 rfl ?_
  refine zjq rfl rfl rfl rfl rfl rfl ksq ?_
  refine zbq 7 rfl ?_
  refine zjq rfl rfl rfl rfl rfl rfl (y7q (w' := .bool false) (veq t 600 hb (by omega)) (by rw [decide_eq_false hg])) ?_
  refine zbq 12 rfl ?_
  refine zjq rfl rfl rfl rfl rfl rfl (uOq t n t0 h) ?_
  refine zbq 13 rfl ?_
  refine zwq (w' := .bool false) rfl rfl (congrArg W.bool (by first | rfl | exact eqI_iff.2 rfl | (simp; done) | decide | (simp [ltI_iff, eqI_iff]; done))) ?_
  refine zbq 10 rfl ?_
  (refine zrq rfl (jpq rfl rfl rfl rfl rfl hP (by simp) ?_); rintro w hw ⟨tp, np, tp0, hp', hpo, rfl⟩; have ep := hpo.1)
  refine zbq 14 rfl ?_
  (refine zrq rfl (jpq rfl rfl rfl rfl rfl (give_s t n t0 d h hd (by omega)) (by simp) ?_); rintro w hw2 ⟨tg, ng, tg0, hg', hgo', rfl⟩; have eg := hgo'.1; rw [gc])
  refine zbq 14 rfl ?_
  refine zwq (w' := .bool true) rfl rfl (congrArg W.bool (by first | rfl | exact eqI_iff.2 rfl | (simp; done) | decide | (simp [ltI_iff, eqI_iff]; done))) ?_
  refine zbq 4 rfl ?_
  refine zjq rfl rfl rfl rfl rfl rfl (k3q tp np tp0 hp' _ _ (by rw [ep, hpay]) (by rw [ep, hpay])) ?_
  refine zbq 4 rfl ?_
  refine zwq (w' := .bool false) rfl rfl (congrArg W.bool (by first | rfl | exact eqI_iff.2 rfl | (simp; done) | decide | (simp [ltI_iff, eqI_iff]; done))) ?_
  refine zbq 10 rfl ?_
  refine zwq (w' := .bool true) rfl rfl (congrArg W.bool (by first | rfl | exact eqI_iff.2 rfl | (simp; done) | decide | (simp [ltI_iff, eqI_iff]; done))) ?_
  refine zbq 10 rfl ?_
  refine zjq rfl rfl rfl rfl rfl rfl (k3q tg ng tg0 hg' _ _ (by rw [eg, gs]) (by rw [eg, gs])) ?_
  refine zbq 6 rfl ?_
  exact zuq (.inr rfl) rfl rfl
 ·have gc : givC t0 d = 0 := by unfold givC; rw [if_neg ho]
  have gs := g2 ho
  refine yqq (fn := Tryd.f7) rfl rfl rfl (Nat.le_of_ble_eq_true rfl) (fun R k0 => ?_)
  refine zpq 11 rfl ?_
  refine zjq rfl rfl rfl rfl rfl rfl ksq ?_
  refine zbq 7 rfl ?_
  refine zjq rfl rfl rfl rfl rfl rfl (y7q (w' := .bool false) (veq t 600 hb (by omega)) (by rw [decide_eq_false hg])) ?_
  refine zbq 12 rfl ?_
  refine zjq rfl rfl rfl rfl rfl rfl (uOq t n t0 h) ?_
  refine zbq 13 rfl ?_
  refine zwq (w' := .bool false) rfl rfl (congrArg W.bool (by first | rfl | exact eqI_iff.2 rfl | (simp; done) | decide | (simp [ltI_iff, eqI_iff]; done))) ?_
  refine zbq 10 rfl ?_
  (refine zrq rfl (jpq rfl rfl rfl rfl rfl hP (by simp) ?_); rintro w hw ⟨tp, np, tp0, hp', hpo, rfl⟩; have ep := hpo.1)
  refine zbq 14 rfl ?_
  (refine zrq rfl (jpq rfl rfl rfl rfl rfl (give_s t n t0 d h hd (by omega)) (by simp) ?_); rintro w hw2 ⟨tg, ng, tg0, hg', hgo', rfl⟩; have eg := hgo'.1; rw [gc])
  refine zbq 14 rfl ?_
  refine zwq (w' := .bool true) rfl rfl (congrArg W.bool (by first | rfl | exact eqI_iff.2 rfl | (simp; done) | decide | (simp [ltI_iff, eqI_iff]; done))) ?_
  refine zbq 4 rfl ?_
  refine zjq rfl rfl rfl rfl rfl rfl (k3q tp np tp0 hp' _ _ (by rw [ep, hpay]) (by rw [ep, hpay])) ?_
  refine zbq 4 rfl ?_
  refine zwq (w' := .bool false) rfl rfl (congrArg W.bool (by first | rfl | exact eqI_iff.2 rfl | (simp; done) | decide | (simp [ltI_iff, eqI_iff]; done))) ?_
  refine zbq 10 rfl ?_
  refine zwq (w' := .bool false) rfl rfl (congrArg W.bool (by first | rfl | exact eqI_iff.2 rfl | (simp; done) | decide | (simp [ltI_iff, eqI_iff]; done))) ?_
  refine zbq 10 rfl ?_
  refine zwq (w' := .int .u64 (((sumB t0.all + d.amount) % 18446744073709551616 : Nat) : Int)) rfl rfl (congrArg (W.int .u64) (wrap_plus (sumB t0.all) d.amount)) ?_
  refine zbq 11 rfl ?_
  refine zQq rfl (fun h1 => ?_) (fun h1 => ?_)
  ·refine zeq 2 rfl ?_
   refine zxq (sumB t0.all / 18446744073709551616 + 1) rfl rfl (by first | rfl | omega) ⟨by omega, by omega⟩ ?_
   refine zbq 10 rfl ?_
   refine zjq rfl rfl rfl rfl rfl rfl (k3q tg ng tg0 hg' _ _ (by rw [eg, gs]; omega) (by rw [eg, gs])) ?_
   refine zbq 5 rfl ?_
   exact zuq (.inr rfl) rfl rfl
  ·refine zeq 9 rfl ?_
   refine zjq rfl rfl rfl rfl rfl rfl (k3q tg ng tg0 hg' _ _ (by rw [eg, gs]; omega) (by rw [eg, gs])) ?_
   refine zbq 5 rfl ?_
   exact zuq (.inr rfl) rfl rfl
theorem keeps_s (t : Tree) (x : Tx) (hx : x.ok) (box : Dig) (d : Depo) (hd : d.amount < 18446744073709551616) (hb : t.nodes.length ≤ 4611686018427387903) : PS cfg glK 7 [tW t, txW x, dW box, pdW d] (.bool true) := by
 by_cases hg : uRq t 600
 ·skip
  refine yqq (fn := Tryd.f7) rfl rfl rfl (Nat.le_of_ble_eq_true rfl) (fun R k0 => ?_)
  refine zpq 11 rfl ?_
  refine zjq rfl rfl rfl rfl rfl rfl ksq ?_
  refine zbq 7 rfl ?_
  refine zjq rfl rfl rfl rfl rfl rfl (y7q (w' := .bool true) (veq t 600 hb (by omega)) (by rw [decide_eq_true hg])) ?_
  refine zbq 15 rfl ?_
  exact zuq (.inr rfl) rfl rfl
 have hl := Ztq hg
 by_cases hA : MayA t
 ·obtain ⟨n, t0, h⟩ := hA
  by_cases hs : x.sign = umq x
  ·by_cases hn : x.nonce = (acL t0.all (keyD x.pub)).nonce ∧ x.nonce < 18446744073709551615
   ·exact keeps_p t n t0 h x box d hd hb hg (pay_s t n t0 x hx box h hs hn.1 hn.2 (by omega)) (paid_ok x box h.toIsT.srt (by have := hn.1; have := hn.2; omega)).2.2
   ·exact keeps_f t n t0 h x box d hd hb hg 2 (by omega) (pay_nonce t n t0 x hx box h hs hn)
  ·exact keeps_f t n t0 h x box d hd hb hg 110 (by omega) (pay_sign t n t0 x hx box h hs)
 ·exact keeps_no t x box d hb hg hA
end Go.Proofs.YtgeelfdgnehdnaaDoor
namespace Go.Proofs.YtgeelfdgnehdnaaDoor
open Go.RowKit
set_option linter.unusedSimpArgs false
set_option linter.unusedVariables false
mutual
/-- all blocks in it lie below n -/
noncomputable def ltB (n : Nat) : V → Bool
 | .ptr b _ => decide (b < n)
 | .sl b _ _ _ _ _ => decide (b < n)
 | .map b => decide (b < n)
 | .yield b => decide (b < n)
 | .fn _ a c => ltL n a && ltL n c
 | .iface _ v => ltB n v
 | .agg _ l => ltL n l
 | .arr _ _ l => ltL n l
 | .tup l => ltL n l
 | .undef => true
 | .bool _ => true
 | .int _ _ => true
 | .str _ => true
 | .nilp => true
 | .nils => true
 | .nilm => true
 | .nilf => true
 | .nili => true
noncomputable def ltL (n : Nat) : List V → Bool
 | [] => true
 | v :: l => ltB n v && ltL n l
end
noncomputable def SeenK (h : Heap) : Nat → Prop := fun b => b < h.next ∧ ∃ v, h.val b = some v ∧ ltB h.next v = true
end Go.Proofs.YtgeelfdgnehdnaaDoor
namespace Go.Proofs.YtgeelfdgnehdnaaDoor
open Go.RowKit
set_option linter.unusedSimpArgs false
set_option linter.unusedVariables false
noncomputable def u32V (n : Nat) : V := .int .u32 (.ofNat n)
noncomputable def eqK : List V → List Nat → Bool
 | [], [] => true
 | .int .u32 (.ofNat n) :: l, m :: ms => match Nat.beq n m with
  | true => eqK l ms
  | false => false
 | _, _ => false
theorem eqK_spec : ∀ {l : List V} {ms : List Nat}, eqK l ms = true → l = ms.map u32V
 | [], [], _ => rfl
 | [], _ :: _, h => by simp [eqK] at h
 | v :: l, ms, h => by
  unfold eqK at h
  split at h
  ·simp_all
  ·rename_i n l' m ms' e
   cases e
   split at h
   ·rename_i hb
    obtain rfl := Nat.eq_of_beq_eq_true hb
    rw [eqK_spec h]; rfl
   ·cases h
  ·cases h
noncomputable def globK (h : Heap) : Bool := match h.get 0 with
 | some (.ro (.arr 64 1 l)) => eqK l kW
 | _ => false
theorem RSL_wd (Γ : Ctx) : ∀ l : List Nat, RSL Γ (l.map wd) (l.map u32V)
 | [] => rfl
 | n :: l => qCq (a := [u32V n]) (b := l.map u32V) (x := wd n) rfl (RSL_wd Γ l)
theorem globK_spec {h : Heap} (hn : Nat.ble 1 h.next = true) (hk : globK h = true) : GRel cfg glK ⟨0, fun i => i, SeenK h, h⟩ := by
 intro g w _ h2 nw σ
 have hn := Nat.le_of_ble_eq_true hn
 unfold glK at h2
 split at h2
 ·cases h2
  unfold globK at hk
  split at hk
  ·rename_i l hg
   obtain rfl := eqK_spec hk
   have hv : h.val 0 = some (.arr 64 1 (kW.map u32V)) := by simp only [Heap.val, hg]
   refine RV.of_one ⟨0, 0, _, rfl, ⟨by omega, _, hv, by rfl⟩, hv, by exact Nat.le_refl _, fun _ => rfl, .inr rfl, ?_⟩ rfl rfl
   have e : ((zoq (.arr 64 1 (kW.map u32V))).drop 0).take 64 = kW.map u32V := by kernel_rfl
   show RS _ _ (((zoq (.arr 64 1 (kW.map u32V))).drop 0).take 64)
   rw [e]
   exact ⟨rfl, fun x hx => by obtain ⟨n, _, rfl⟩ := List.mem_map.1 hx; rfl, RSL_wd _ kW⟩
  ·cases hk
 ·cases h2
end Go.Proofs.YtgeelfdgnehdnaaDoor

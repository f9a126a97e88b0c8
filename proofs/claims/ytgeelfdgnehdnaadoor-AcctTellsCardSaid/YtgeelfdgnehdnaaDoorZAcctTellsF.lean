/-
  What the proof of AcctTells stands on, part 6. No condition.
-/
import Derived.Test.YtgeelfdgnehdnaaDoorZAcctTellsE
namespace Go.Proofs.YtgeelfdgnehdnaaDoor
set_option linter.unusedSimpArgs false
set_option linter.unusedVariables false
@[irreducible] def turnM (k : Dig) (i : Nat) : Dig := setD k (i / 8) (UInt8.ofNat (kn k (i / 8) ^^^ 2 ^ (7 - i % 8)))
@[irreducible] def lenM (x : Nat) : Nat := if x = 0 then 0 else Nat.log2 x + 1
def dOf (a b : Dig) (i : Nat) : Nat × Nat := (i, kn a i ^^^ kn b i)
@[irreducible] def dTo (a b : Dig) (n : Nat) : List (Nat × Nat) := ((List.range n).map (dOf a b)).filter (fun p => p.2 != 0)
@[irreducible] def sharedD (a b : Dig) : Nat := match dTo a b 32 with
 | [] => 256
 | x :: _ => 8 * x.1 + (8 - lenM x.2)
@[irreducible] def aheadD (a b : Dig) : Bool := match dTo a b 32 with
 | [] => false
 | x :: _ => decide (kn a x.1 < kn b x.1)
end Go.Proofs.YtgeelfdgnehdnaaDoor
namespace Go.Proofs.YtgeelfdgnehdnaaDoor
open Go.RowKit
set_option linter.unusedSimpArgs false
set_option linter.unusedVariables false
attribute [local irreducible] CoW OpW FlW Step Spec
variable {G : Nat → Option W}
theorem tdiv_nat (a b : Nat) : ((a : Int)).tdiv (b : Int) = ((a / b : Nat) : Int) := by rw [Int.tdiv_eq_ediv_of_nonneg (by omega)]; rfl
theorem tmod_nat (a b : Nat) : ((a : Int)).tmod (b : Int) = ((a % b : Nat) : Int) := by rw [Int.tmod_eq_emod_of_nonneg (by omega)]; rfl
end Go.Proofs.YtgeelfdgnehdnaaDoor
namespace Go.Proofs.YtgeelfdgnehdnaaDoor
set_option linter.unusedSimpArgs false
set_option linter.unusedVariables false
def beB : Nat → Nat → List UInt8
 | 0, _ => []
 | s + 1, n => UInt8.ofNat (n / 256 ^ s % 256) :: beB s n
def numB (l : List UInt8) : Nat := l.foldl (fun a c => 256 * a + c.toNat) 0
@[simp] theorem jiq : ∀ s n, (beB s n).length = s
 | 0, _ => rfl
 | s + 1, n => by simp [beB, jiq s n]
theorem numB_snoc (l : List UInt8) (c : UInt8) : numB (l ++ [c]) = 256 * numB l + c.toNat := by simp [numB, List.foldl_append]
theorem Zbq : ∀ (l : List UInt8) (a : Nat), l.foldl (fun a c => 256 * a + c.toNat) a = a * 256 ^ l.length + numB l
 | [], a => by simp [numB]
 | c :: l, a => by
  simp only [List.foldl_cons, numB, List.length_cons]
  rw [Zbq l, Zbq l (256 * 0 + c.toNat), Nat.pow_succ]
  simp only [Nat.add_mul, Nat.mul_zero, Nat.zero_add, Nat.add_assoc]
  congr 1
  rw [Nat.mul_comm 256 a, Nat.mul_assoc, Nat.mul_comm 256]
theorem numB_cons (c : UInt8) (l : List UInt8) : numB (c :: l) = c.toNat * 256 ^ l.length + numB l := by
 show (c :: l).foldl _ 0 = _
 rw [List.foldl_cons, Zbq]; simp
theorem numB_lt : ∀ l : List UInt8, numB l < 256 ^ l.length
 | [] => by simp [numB]
 | c :: l => by
  rw [numB_cons, List.length_cons, Nat.pow_succ]
  have := numB_lt l
  have hc := c.toNat_lt
  have : c.toNat * 256 ^ l.length ≤ 255 * 256 ^ l.length := Nat.mul_le_mul_right _ (by omega)
  omega
end Go.Proofs.YtgeelfdgnehdnaaDoor
namespace Go.Proofs.YtgeelfdgnehdnaaDoor
open Go.RowKit
set_option linter.unusedSimpArgs false
set_option linter.unusedVariables false
attribute [local irreducible] CoW OpW FlW Step Spec
variable {G : Nat → Option W}
theorem clone_s (l : List UInt8) (f : Bool) (hl : l.length ≤ 70368744177664) : PS cfg G 55 [.fz (zcq l) 1 f] (bW l) := by
 refine qXq (fn := Tryd.f55) rfl rfl rfl (Nat.le_of_ble_eq_true rfl) (fun R k0 => ?_)
 refine yrq 9 rfl ?_
 first | refine zbq rfl rfl ?_ | refine yNq rfl (step_nil rfl rfl rfl rfl rfl (fun bn hn => ?_))
 refine znq 2 rfl ?_
 refine qmq rfl (fun h1 => ?_) (fun h1 => ?_)
 ·cases bn with
  | false => cases h1
  | true =>
   have hn := hn rfl
   have hl0 : l = [] := by cases l with
    | nil => rfl
    | cons c l => simp [zcq] at hn
   subst hl0
   refine zOq 7 rfl ?_
   refine uUq (fr2 := [(2, bW [])]) (.inr rfl) ⟨⟨_, rfl, .nilfz⟩, trivial⟩ rfl rfl
 ·cases l with
  | nil =>
   skip
   refine zOq 6 rfl ?_
   refine zKq rfl (q3q rfl rfl (Zpq rfl rfl rfl rfl rfl)) ?_
   refine znq 4 rfl ?_
   refine uUq (fr2 := [(2, bW [])]) (.inr rfl) ⟨⟨_, rfl, .sl rfl rfl rfl (by intro h; cases h)⟩, trivial⟩ rfl rfl
  | cons c l =>
   simp only [List.length_cons] at hl
   refine zOq 6 rfl ?_
   refine zKq rfl (q3q rfl rfl (jWq (news := zcq (c :: l)) (olds := []) rfl rfl rfl rfl rfl (by simp [zcq]) (by show (0 + (zcq (c :: l)).length) * 1 ≤ _; rw [zmq]; simp only [List.length_cons]; omega) (by rw [zmq]; simp only [List.length_cons]; omega) rfl (by show 0 < 0 + (0 + (zcq (c :: l)).length) * 1; rw [zmq]; simp only [List.length_cons]; omega) rfl rfl)) ?_
   refine znq 4 rfl ?_
   refine uUq (fr2 := [(2, bW (c :: l))]) (.inr rfl) ⟨⟨_, rfl, .sl rfl (by simp) (qTq (by simp) (Nat.mul_one _)) (by intro h; cases h)⟩, trivial⟩ rfl rfl
theorem end_s (l : List UInt8) (f : Bool) : PS cfg G 31 [.fz (zcq l) 1 f] (.int .i64 (if l = [] then 0 else 11)) := by
 have e := zmq l
 refine qXq (fn := Tryd.f31) rfl rfl rfl (Nat.le_of_ble_eq_true rfl) (fun R k0 => ?_)
 refine yrq 9 rfl ?_
 first | refine op_len rfl rfl ?_ | refine zbq rfl rfl ?_
 refine znq 3 rfl ?_
 refine qmq rfl (fun h1 => ?_) (fun h1 => ?_)
 ·refine zOq 7 rfl ?_
  have : l ≠ [] := by rintro rfl; simp [zcq] at h1
  exact yUq (.inr rfl) rfl (by rw [if_neg this])
 ·refine zOq 8 rfl ?_
  have : l = [] := List.eq_nil_of_length_eq_zero (by rw [← e]; simpa using h1)
  exact yUq (.inr rfl) rfl (by rw [if_pos this])
theorem shr_byte (n i : Nat) (hi : i ≤ 8) : Nat.shiftRight n (min (8 * i) 64) % 256 = n / 256 ^ i % 256 := by
 have : Nat.shiftRight n (min (8 * i) 64) = n / 2 ^ (8 * i) := by rw [show min (8 * i) 64 = 8 * i by omega]; exact Nat.shiftRight_eq_div_pow _ _
 rw [this, Nat.pow_mul]
theorem be_at (n size i : Nat) (hi : i < size) : (zcq (List.replicate (size - i) 0 ++ beB i n))[0 + (size - 1 - i) * 1]? = some (.int .u8 (.ofNat 0)) := by
 refine xrq (c := 0) ?_
 rw [List.getElem?_append_left (by simp; omega), List.getElem?_replicate, if_pos (by omega)]
theorem be_set (n size i : Nat) (hi : i < size) : (zcq (List.replicate (size - i) 0 ++ beB i n)).set (0 + (size - 1 - i) * 1) (.int .u8 ((n / 256 ^ i % 256 : Nat) : Int)) = zcq (List.replicate (size - (i + 1)) 0 ++ beB (i + 1) n) := by
 have e : size - i = (size - (i + 1)) + 1 := by omega
 have e2 : 0 + (size - 1 - i) * 1 = size - (i + 1) := by omega
 rw [e, e2, List.replicate_succ', List.append_assoc, yxq, yxq, List.set_append_right _ _ (by simp [zcq])]
 simp only [zcq, List.length_map, List.length_replicate, Nat.sub_self, List.singleton_append, List.map_cons, List.set_cons_zero, beB]
 congr 2
 simp
theorem be_zero (n size : Nat) : zcq (List.replicate (size - 0) 0 ++ beB 0 n) = List.replicate size (.int .u8 0) := by simp [zcq, beB]
theorem put_s (n size : Nat) (hs : 1 ≤ size) (hs8 : size ≤ 8) (hn : n < 256 ^ size) : xRq cfg G 34 0 [.int .u64 (n : Int), .int .i64 (size : Int)] [] fun w hp nw =>
  w = .tup [.sl 0 0 0 size 1 none, .int .i64 0] ∧ hp = [(0, 5, .arr (size * 1) 1 (zcq (beB size n)))] ∧ nw = 1 := by
 intro R
 have hq : size < 8 → Nat.shiftRight n (min (8 * size) 64) = 0 := fun h => by
  rw [show min (8 * size) 64 = 8 * size by omega, show Nat.shiftRight n (8 * size) = n / 2 ^ (8 * size) from Nat.shiftRight_eq_div_pow _ _, Nat.pow_mul]
  exact Nat.div_eq_of_lt hn
 refine xAq (fn := Tryd.f34) rfl rfl rfl (Nat.le_of_ble_eq_true rfl) (fun k0 => ?_)
 refine yrq 11 rfl ?_
 refine op_dz rfl rfl (fun h1 => ?_) (fun h1 => ?_)
 ·exfalso; omega
 refine znq 2 rfl ?_
 refine v8q rfl rfl ?_
 refine znq 4 rfl ?_
 refine qmq rfl (fun h2 => ?_) (fun h2 => ?_)
 ·exfalso; omega
 refine zOq 3 rfl ?_
 refine op_dz rfl rfl (fun h3 => ?_) (fun h3 => ?_)
 ·have h8 := hq (by omega)
  refine znq 3 rfl ?_
  refine zVq (8 * size) rfl rfl (by first | rfl | omega) ⟨by omega, by omega⟩ ?_
  refine zbq rfl rfl (v8q rfl rfl ?_)
  refine znq 4 rfl ?_
  refine qmq rfl (fun h4 => ?_) (fun h4 => ?_)
  ·skip
   exfalso
   have h4 : (0 : Int) < (Nat.shiftRight n (min (8 * size) 64) : Nat) := h4
   rw [h8] at h4
   omega
  ·refine zOq 6 rfl ?_
   refine zKq rfl (Zcq (l := size) (c := size) rfl rfl rfl rfl rfl rfl rfl rfl (Nat.le_refl _) (by show 1 * size ≤ _; omega) (by omega) rfl rfl) ?_
   refine znq 11 rfl ?_
   refine y7q (α := Nat) (fun i => i ≤ size) (fun i => [(28, .int .i64 (i : Int))]) [(0, _), (1, _), (4, _), (5, _), (6, _), (27, _)] (fun i => [(0, 5, .arr (size * 1) 1 (zcq (List.replicate (size - i) 0 ++ beB i n)))]) (fun i => size - i) (0) ⟨rfl, rfl, rfl, rfl, rfl, rfl, trivial⟩ (Nat.zero_le _) ⟨rfl, trivial⟩ (by rw [be_zero]; rfl) (fun i hI => ?_)
   refine yrq 6 rfl ?_
   refine qmq rfl (fun h5 => ?_) (fun h5 => ?_)
   ·have hi : i < size := by omega
    refine zOq 13 rfl ?_
    refine zVq (size - 1) rfl rfl (by first | rfl | omega) ⟨by omega, by omega⟩ ?_
    refine zbq rfl rfl (zVq (size - 1 - i) rfl rfl (by first | rfl | omega) ⟨by omega, by omega⟩ ?_)
    refine znq 2 rfl ?_
    refine zVq (8 * i) rfl rfl (by first | rfl | omega) ⟨by omega, by omega⟩ ?_
    refine zbq rfl rfl (z2q (w' := .int .u8 ((n / 256 ^ i % 256 : Nat) : Int)) rfl rfl (congrArg (fun n : Nat => W.int .u8 (n : Int)) (shr_byte n i (by omega))) ?_)
    refine zbq rfl (ytq (i := size - 1 - i) rfl rfl rfl rfl rfl rfl rfl (by omega)) ?_
    refine zKq rfl (j2q rfl rfl rfl rfl rfl (qkq (be_at n size i hi) rfl rfl) (congrArg (fun L => [(0, 5, W.arr (size * 1) 1 L)]) (be_set n size i hi))) ?_
    refine znq 4 rfl ?_
    refine zVq (i + 1) rfl rfl (by first | rfl | omega) ⟨by omega, by omega⟩ ?_
    refine jXq 2 rfl ?_
    exact qgq (i + 1) (hi) (by omega) ⟨rfl, trivial⟩ ⟨rfl, rfl, rfl, rfl, rfl, rfl, trivial⟩ rfl
   ·refine zOq 2 rfl ?_
    refine qGq (by intro h; cases h) ?_
    refine qzq 10 rfl ?_
    have : i = size := by omega
    subst this
    refine fin (.inr rfl) Ent.refl rfl ⟨rfl, rfl, ?_, rfl⟩
    rw [Nat.sub_self]
    rfl
 ·refine znq 17 rfl ?_
  refine zKq rfl (Zcq (l := size) (c := size) rfl rfl rfl rfl rfl rfl rfl rfl (Nat.le_refl _) (by show 1 * size ≤ _; omega) (by omega) rfl rfl) ?_
  refine znq 11 rfl ?_
  refine y7q (α := Nat) (fun i => i ≤ size) (fun i => [(28, .int .i64 (i : Int))]) [(0, _), (1, _), (4, _), (5, _), (6, _), (27, _)] (fun i => [(0, 5, .arr (size * 1) 1 (zcq (List.replicate (size - i) 0 ++ beB i n)))]) (fun i => size - i) (0) ⟨rfl, rfl, rfl, rfl, rfl, rfl, trivial⟩ (Nat.zero_le _) ⟨rfl, trivial⟩ (by rw [be_zero]; rfl) (fun i hI => ?_)
  refine yrq 6 rfl ?_
  refine qmq rfl (fun h4 => ?_) (fun h4 => ?_)
  ·have hi : i < size := by omega
   refine zOq 13 rfl ?_
   refine zVq (size - 1) rfl rfl (by first | rfl | omega) ⟨by omega, by omega⟩ ?_
   refine zbq rfl rfl (zVq (size - 1 - i) rfl rfl (by first | rfl | omega) ⟨by omega, by omega⟩ ?_)
   refine znq 2 rfl ?_
   refine zVq (8 * i) rfl rfl (by first | rfl | omega) ⟨by omega, by omega⟩ ?_
   refine zbq rfl rfl (z2q (w' := .int .u8 ((n / 256 ^ i % 256 : Nat) : Int)) rfl rfl (congrArg (fun n : Nat => W.int .u8 (n : Int)) (shr_byte n i (by omega))) ?_)
   refine zbq rfl (ytq (i := size - 1 - i) rfl rfl rfl rfl rfl rfl rfl (by omega)) ?_
   refine zKq rfl (j2q rfl rfl rfl rfl rfl (qkq (be_at n size i hi) rfl rfl) (congrArg (fun L => [(0, 5, W.arr (size * 1) 1 L)]) (be_set n size i hi))) ?_
   refine znq 4 rfl ?_
   refine zVq (i + 1) rfl rfl (by first | rfl | omega) ⟨by omega, by omega⟩ ?_
   refine jXq 2 rfl ?_
   exact qgq (i + 1) (hi) (by omega) ⟨rfl, trivial⟩ ⟨rfl, rfl, rfl, rfl, rfl, rfl, trivial⟩ rfl
  ·refine zOq 2 rfl ?_
   refine qGq (by intro h; cases h) ?_
   refine qzq 10 rfl ?_
   have : i = size := by omega
   subst this
   refine fin (.inr rfl) Ent.refl rfl ⟨rfl, rfl, ?_, rfl⟩
   rw [Nat.sub_self]
   rfl
theorem shl8 (n : Nat) : (Int.ofNat (Nat.shiftLeft n (min 8 64))) = ((256 * n : Nat) : Int) := by
 rw [show Nat.shiftLeft n (min 8 64) = n * 2 ^ 8 from Nat.shiftLeft_eq n 8, Nat.mul_comm]; rfl
theorem or_low (n c : Nat) (hn : 256 * n < 18446744073709551616) (hc : c < 256) : Nat.lor (256 * n % 18446744073709551616) (c % 18446744073709551616) = 256 * n + c := by
 rw [Nat.mod_eq_of_lt hn, Nat.mod_eq_of_lt (by omega)]
 have := Nat.two_pow_add_eq_or_of_lt (i := 8) (b := c) (by omega) n
 rw [Nat.mul_comm] at this
 rw [show Nat.lor (256 * n) c = 256 * n ||| c from rfl, Nat.mul_comm 256 n]
 rw [Nat.mul_comm] at this
 rw [Nat.mul_comm n 256]
 exact this.symm
theorem pow256_le {i : Nat} (h : i ≤ 8) : 256 ^ i ≤ 18446744073709551616 := by
 have h' : ∀ i, i ≤ 8 → 256 ^ i ≤ 18446744073709551616 := by decide
 exact h' i h
theorem numB_take {l : List UInt8} {i : Nat} {c : UInt8} (h : l[i]? = some c) : numB (l.take (i + 1)) = 256 * numB (l.take i) + c.toNat := by
 rw [List.take_add_one, h]
 exact numB_snoc _ _
theorem xXq {l : List UInt8} {i : Nat} (h : i ≤ 7) : 256 * numB (l.take i) < 18446744073709551616 := by
 have h1 := numB_lt (l.take i)
 have h2 : 256 ^ (l.take i).length ≤ 256 ^ i := Nat.pow_le_pow_right (by omega) (by simp; omega)
 have h3 := pow256_le (i := i + 1) (by omega)
 rw [Nat.pow_succ] at h3
 omega
theorem jlq (l : List UInt8) (f : Bool) (size : Nat) (hs : 1 ≤ size) (hs8 : size ≤ 8) (hl : l.length < size) : PS cfg G 30 [.fz (zcq l) 1 f, .int .i64 (size : Int)] (.tup [.int .u64 0, .nils, .int .i64 10]) := by
 have e := zmq l
 refine qXq (fn := Tryd.f30) rfl rfl rfl (Nat.le_of_ble_eq_true rfl) (fun R k0 => ?_)
 refine yrq 12 rfl ?_
 refine op_dz rfl rfl (fun h1 => ?_) (fun h1 => ?_)
 ·exfalso; omega
 refine znq 2 rfl ?_
 refine v8q rfl rfl ?_
 refine znq 4 rfl ?_
 refine qmq rfl (fun h2 => ?_) (fun h2 => ?_)
 ·exfalso; omega
 refine zOq 3 rfl ?_
 refine z2q (w' := .int .i64 (l.length : Int)) rfl rfl (by rw [← e]; rfl) ?_
 refine zbq rfl rfl (v8q rfl rfl ?_)
 refine znq 3 rfl ?_
 refine qmq rfl (fun h3 => ?_) (fun h3 => ?_)
 ·refine zOq 10 rfl ?_
  first | exact yUq (.inr rfl) rfl rfl | exact yUq (.inl rfl) rfl rfl | (exfalso; omega)
 ·exfalso; omega
theorem jRq (l : List UInt8) (f : Bool) (size : Nat) (hs : 1 ≤ size) (hs8 : size ≤ 8) (hl : size ≤ l.length) (hb : l.length ≤ 70368744177664) : PS cfg G 30 [.fz (zcq l) 1 f, .int .i64 (size : Int)] (.tup [.int .u64 (numB (l.take size) : Nat), bW (l.drop size), .int .i64 0]) := by
 have e := zmq l
 have el : (l.take size).length = size := by simp; omega
 refine qXq (fn := Tryd.f30) rfl rfl rfl (Nat.le_of_ble_eq_true rfl) (fun R k0 => ?_)
 refine yrq 12 rfl ?_
 refine op_dz rfl rfl (fun h1 => ?_) (fun h1 => ?_)
 ·exfalso; omega
 refine znq 2 rfl ?_
 refine v8q rfl rfl ?_
 refine znq 4 rfl ?_
 refine qmq rfl (fun h2 => ?_) (fun h2 => ?_)
 ·exfalso; omega
 refine zOq 3 rfl ?_
 refine z2q (w' := .int .i64 (l.length : Int)) rfl rfl (by rw [← e]; rfl) ?_
 refine zbq rfl rfl (v8q rfl rfl ?_)
 refine znq 3 rfl ?_
 refine qmq rfl (fun h3 => ?_) (fun h3 => ?_)
 ·exfalso; omega
 refine zOq 9 rfl ?_
 refine zbq rfl (cut_fz3 (ys := zcq (l.take size)) (l := 0) (h := size) (m := size) rfl rfl rfl rfl rfl rfl rfl rfl (Nat.zero_le _) (Nat.le_refl _) (by omega) hs (by rw [List.drop_zero, Nat.sub_zero, veq]) rfl) ?_
 refine z2q (w' := .int .i64 (size : Int)) rfl rfl (by show W.int .i64 ((zcq (l.take size)).length : Int) = _; rw [zmq, el]) ?_
 refine znq 4 rfl ?_
 refine co_loopK (α := Nat) (fun i => i ≤ size) (fun i => [(26, .int .i64 (i : Int)), (4, .int .u64 (numB (l.take i) : Nat))]) [(0, _), (1, _), (5, _), (6, _), (24, _), (25, _)] (fun i => size - i) (0) ⟨rfl, rfl, rfl, rfl, rfl, rfl, trivial⟩ (Nat.zero_le _) ⟨rfl, rfl, trivial⟩ (fun i hI => ?_)
 refine yrq 6 rfl ?_
 refine qmq rfl (fun h4 => ?_) (fun h4 => ?_)
 ·have hi : i < size := by omega
  obtain ⟨c, hc⟩ : ∃ c, l[i]? = some c := ⟨_, List.getElem?_eq_getElem (by omega)⟩
  have hc2 : (l.take size)[i]? = some c := by rw [List.getElem?_take, if_pos hi]; exact hc
  have hcl := c.toNat_lt
  have hn := xXq (l := l) (i := i) (by omega)
  refine zOq 6 rfl ?_
  refine zbq rfl (ynq (i := i) rfl rfl rfl rfl rfl rfl rfl (xrq hc2)) ?_
  refine znq 6 rfl ?_
  refine zVq (256 * numB (l.take i)) rfl rfl (shl8 _) ⟨by omega, by omega⟩ ?_
  refine zbq rfl rfl (zVq (c.toNat) rfl rfl (by first | rfl | omega) ⟨by omega, by omega⟩ ?_)
  refine z2q (w' := .int .u64 (numB (l.take (i + 1)) : Nat)) rfl rfl (congrArg (fun n : Nat => W.int .u64 (n : Int)) ((or_low _ _ hn hcl).trans (numB_take hc).symm)) ?_
  refine znq 5 rfl ?_
  refine zVq (i + 1) rfl rfl (by first | rfl | omega) ⟨by omega, by omega⟩ ?_
  refine jXq 2 rfl ?_
  exact q_againK (i + 1) (hi) (by omega) ⟨rfl, rfl, trivial⟩ ⟨rfl, rfl, rfl, rfl, rfl, rfl, trivial⟩ (by repeat (first | exact trivial | refine ⟨by first | rfl | exact zEq (by first | rfl | (simp; done)), ?_⟩)) (by omega) (by repeat (first | exact vBq | refine vEq (by omega) ?_ | refine vCq (by omega) ?_ | refine vDq (by omega) ?_)) rfl
 ·have : i = size := by omega
  subst this
  refine zOq 2 rfl ?_
  refine q_outk (by intro h; cases h) ?_
  refine qzq 7 rfl ?_
  refine zbq rfl (cut_fz (ys := zcq (l.drop i)) (l := i) (h := (zcq l).length) rfl rfl rfl rfl rfl rfl rfl (by omega) (Nat.le_refl _) (by rw [List.take_of_length_le (by simp), vfq]) rfl) ?_
  refine ySq rfl rfl rfl rfl rfl rfl (clone_s _ _ (by first | assumption | (simp; omega))) ?_
  refine znq 6 rfl ?_
  exact yUq (.inr rfl) rfl rfl
end Go.Proofs.YtgeelfdgnehdnaaDoor
namespace Go.Proofs.YtgeelfdgnehdnaaDoor
open Go.RowKit
set_option linter.unusedSimpArgs false
set_option linter.unusedVariables false
attribute [local irreducible] CoW OpW FlW Step Spec
variable {G : Nat → Option W}
structure Acct where
 nonce : Nat
 balance : Nat
 deriving DecidableEq
def Acct.ok (a : Acct) : Prop := a.nonce < 18446744073709551616 ∧ a.balance < 18446744073709551616
def Acct.zero : Acct := ⟨0, 0⟩
noncomputable def aW (a : Acct) : W := .agg 2 [.int .u64 (a.nonce : Int), .int .u64 (a.balance : Int)]
@[simp] theorem aW_pur (a : Acct) : purW (aW a) = true := rfl
def kxq (a : Acct) : List UInt8 := beB 8 a.nonce ++ beB 8 a.balance
def qVq (l : List UInt8) : Acct × Nat := if l.length < 16 then (.zero, 10) else if 16 < l.length then (.zero, 11) else
 if (⟨numB (l.take 8), numB (l.drop 8)⟩ : Acct) = .zero then (.zero, 8) else (⟨numB (l.take 8), numB (l.drop 8)⟩, 0)
theorem eq_acct (a b : Acct) : eqW cfg 300 26 (aW a) (aW b) = some (decide (a = b)) := by
 have e : decide (a = b) = (decide ((a.nonce : Int) = b.nonce) && (decide ((a.balance : Int) = b.balance) && true)) := by
  cases a; cases b
  simp only [Acct.mk.injEq, Bool.and_true]
  rw [Bool.eq_iff_iff]
  simp only [decide_eq_true_eq, Bool.and_eq_true]
  omega
 rw [e]
 exact eq_struct rfl rfl rfl rfl (eqFs_step rfl rfl rfl (eq_int rfl rfl) (eqFs_step rfl rfl rfl (eq_int rfl rfl) eqFs_nil))
theorem abytes_s (a : Acct) (h : a.ok) : PS cfg G 14 [aW a] (bW (kxq a)) := by
 have h1 : a.nonce < 256 ^ 8 := h.1
 have h2 : a.balance < 256 ^ 8 := h.2
 refine qXq (fn := Tryd.f14) rfl rfl rfl (Nat.le_of_ble_eq_true rfl) (fun R k0 => ?_)
 have l1 : (zcq (beB 8 a.nonce)).length = 8 := by rw [zmq, jiq]
 have l2 : (zcq (beB 8 a.balance)).length = 8 := by rw [zmq, jiq]
 refine yrq 10 rfl ?_
 ((refine yNq rfl (j1q (ext := []) rfl rfl rfl rfl rfl (put_s _ 8 (by omega) (by omega) (by assumption)) List.nodup_nil (by simp) (by simp) (fun i ty w h => by simp [hget] at h) rfl ?_); rintro w hp1 nw1 ⟨rfl, rfl, rfl⟩))
 refine znq 11 rfl ?_
 ((refine yNq rfl (j1q (ext := []) rfl rfl rfl rfl rfl (put_s _ 8 (by omega) (by omega) (by assumption)) List.nodup_nil (by simp) (by simp) (fun i ty w h => by simp [hget] at h) rfl ?_); rintro w hp1 nw1 ⟨rfl, rfl, rfl⟩))
 refine znq 11 rfl ?_
 refine zKq rfl (q3q rfl rfl (jWq (k := ti5) (len := 8) (news := zcq (beB 8 a.balance)) (olds := zcq (beB 8 a.nonce)) rfl rfl rfl rfl (k5q rfl rfl rfl (qTq (n := 8) (m := 8) l2.symm rfl)) (by intro h; rw [h] at l2; simp at l2) (by rw [l2]; decide) (by rw [l2]; decide) rfl (by show 8 * 1 < 0 + (8 + (zcq (beB 8 a.balance)).length) * 1; rw [l2]; omega) rfl (qTq (n := 8) (m := 8) l1.symm rfl))) ?_
 refine znq 4 rfl ?_
 refine uUq (fr2 := [(2, bW (kxq a))]) (.inr rfl) ⟨⟨_, rfl, .sl (xs := zcq (kxq a)) rfl (by simp) ?_ (by intro h; cases h)⟩, trivial⟩ rfl rfl
 rw [kxq, yxq, l2]
 exact qTq (n := 16) (by rw [List.length_append, l1, l2]) rfl
theorem aread_s (l : List UInt8) (f : Bool) (hb : l.length ≤ 70368744177664) : PS cfg G 9 [.fz (zcq l) 1 f] (.tup [aW (qVq l).1, .int .i64 ((qVq l).2 : Nat)]) := by
 by_cases q1 : l.length < 8
 ·have e : qVq l = (.zero, 10) := by unfold qVq; rw [if_pos (by omega)]
  rw [e]
  refine qXq (fn := Tryd.f9) rfl rfl rfl (Nat.le_of_ble_eq_true rfl) (fun R k0 => ?_)
  refine yrq 15 rfl ?_
  refine ySq rfl rfl rfl rfl rfl rfl (jlq _ _ 8 (by omega) (by omega) q1) ?_
  refine znq 27 rfl ?_
  exact yUq (.inr rfl) rfl rfl
 have q2 : (l.drop 8).length = l.length - 8 := by simp
 by_cases q3 : l.length < 16
 ·have e : qVq l = (.zero, 10) := by unfold qVq; rw [if_pos q3]
  rw [e]
  refine qXq (fn := Tryd.f9) rfl rfl rfl (Nat.le_of_ble_eq_true rfl) (fun R k0 => ?_)
  refine yrq 15 rfl ?_
  first | (first | refine ySq rfl rfl rfl rfl rfl rfl (jRq l _ 8 (by omega) (by omega) (by omega) hb) ?_ | refine ySq rfl rfl rfl rfl rfl rfl (jlq (l.drop 8) _ 8 (by omega) (by omega) (by omega)) ?_) | refine ySq rfl rfl rfl rfl rfl rfl (jRq _ _ 8 (by omega) (by omega) (by omega) hb) ?_ | refine ySq rfl rfl rfl rfl rfl rfl (jlq _ _ 8 (by omega) (by omega) q1) ?_
  refine znq 23 rfl ?_
  first | (first | refine ySq rfl rfl rfl rfl rfl rfl (jRq l _ 8 (by omega) (by omega) (by omega) hb) ?_ | refine ySq rfl rfl rfl rfl rfl rfl (jlq (l.drop 8) _ 8 (by omega) (by omega) (by omega)) ?_) | refine ySq rfl rfl rfl rfl rfl rfl (jRq _ _ 8 (by omega) (by omega) (by omega) hb) ?_ | refine ySq rfl rfl rfl rfl rfl rfl (jlq _ _ 8 (by omega) (by omega) q1) ?_
  refine znq 27 rfl ?_
  exact yUq (.inr rfl) rfl rfl
 have e3 : (l.drop 8).drop 8 = [] ↔ l.length = 16 := by rw [List.drop_drop, List.drop_eq_nil_iff]; omega
 by_cases q4 : 16 < l.length
 ·have e : qVq l = (.zero, 11) := by unfold qVq; rw [if_neg q3, if_pos q4]
  have e4 : ¬ (l.drop 8).drop 8 = [] := fun h => by have := e3.1 h; omega
  rw [e]
  refine qXq (fn := Tryd.f9) rfl rfl rfl (Nat.le_of_ble_eq_true rfl) (fun R k0 => ?_)
  refine yrq 15 rfl ?_
  (first | refine ySq rfl rfl rfl rfl rfl rfl (jRq l _ 8 (by omega) (by omega) (by omega) hb) ?_ | refine ySq rfl rfl rfl rfl rfl rfl (jRq (l.drop 8) _ 8 (by omega) (by omega) (by omega) (by omega)) ?_)
  refine znq 23 rfl ?_
  (first | refine ySq rfl rfl rfl rfl rfl rfl (jRq l _ 8 (by omega) (by omega) (by omega) hb) ?_ | refine ySq rfl rfl rfl rfl rfl rfl (jRq (l.drop 8) _ 8 (by omega) (by omega) (by omega) (by omega)) ?_)
  refine znq 24 rfl ?_
  refine ySq rfl rfl rfl rfl rfl rfl (ps_eq (w' := .int .i64 11) (end_s _ _) (by rw [if_neg e4])) ?_
  refine v8q rfl rfl ?_
  refine znq 14 rfl ?_
  exact yUq (.inr rfl) rfl rfl
 ·have e4 : (l.drop 8).drop 8 = [] := e3.2 (by omega)
  have e5 : (l.drop 8).take 8 = l.drop 8 := List.take_of_length_le (by omega)
  refine qXq (fn := Tryd.f9) rfl rfl rfl (Nat.le_of_ble_eq_true rfl) (fun R k0 => ?_)
  refine yrq 15 rfl ?_
  (first | refine ySq rfl rfl rfl rfl rfl rfl (jRq l _ 8 (by omega) (by omega) (by omega) hb) ?_ | refine ySq rfl rfl rfl rfl rfl rfl (jRq (l.drop 8) _ 8 (by omega) (by omega) (by omega) (by omega)) ?_)
  refine znq 23 rfl ?_
  (first | refine ySq rfl rfl rfl rfl rfl rfl (jRq l _ 8 (by omega) (by omega) (by omega) hb) ?_ | refine ySq rfl rfl rfl rfl rfl rfl (jRq (l.drop 8) _ 8 (by omega) (by omega) (by omega) (by omega)) ?_)
  refine znq 24 rfl ?_
  refine ySq rfl rfl rfl rfl rfl rfl (ps_eq (w' := .int .i64 0) (end_s _ _) (by rw [if_pos e4])) ?_
  refine v8q rfl rfl ?_
  refine znq 8 rfl ?_
  refine zbq rfl (bin_eql rfl rfl rfl rfl (eq_acct ⟨numB (l.take 8), numB ((l.drop 8).take 8)⟩ .zero)) ?_
  refine znq 3 rfl ?_
  refine qmq rfl (fun h1 => ?_) (fun h1 => ?_)
  ·refine zOq 10 rfl ?_
   have e : qVq l = (.zero, 8) := by
    rw [e5] at h1
    unfold qVq; rw [if_neg q3, if_neg q4, if_pos h1]
   rw [e]
   exact yUq (.inr rfl) rfl rfl
  ·refine zOq 11 rfl ?_
   have e : qVq l = (⟨numB (l.take 8), numB (l.drop 8)⟩, 0) := by
    rw [e5] at h1
    unfold qVq; rw [if_neg q3, if_neg q4, if_neg h1]
   rw [e]
   exact yUq (.inr rfl) rfl (by rw [e5]; rfl)
end Go.Proofs.YtgeelfdgnehdnaaDoor
namespace Go.Proofs.YtgeelfdgnehdnaaDoor
set_option linter.unusedSimpArgs false
set_option linter.unusedVariables false
abbrev Pr := Dig × List UInt8
inductive T where
 | nil
 | leaf (k : Dig) (v : List UInt8)
 | fork (l r : T)
 deriving Inhabited
def T.all : T → List Pr
 | .nil => []
 | .leaf k v => [(k, v)]
 | .fork l r => l.all ++ r.all
def T.isFork : T → Bool
 | .fork _ _ => true
 | _ => false
def T.non : T → Bool
 | .nil => false
 | _ => true
def T.two (l r : T) : Bool := l.isFork || r.isFork || (l.non && r.non)
def T.ok : Nat → Dig → T → Bool
 | _, _, .nil => true
 | d, b, .leaf k _ => decide (d ≤ sharedD k b)
 | d, b, .fork l r => decide (d < 256) && T.ok (d + 1) b l && T.ok (d + 1) (turnM b d) r && T.two l r
end Go.Proofs.YtgeelfdgnehdnaaDoor
namespace Go.Proofs.YtgeelfdgnehdnaaDoor
open Go.RowKit
set_option linter.unusedSimpArgs false
set_option linter.unusedVariables false
attribute [local irreducible] CoW OpW FlW Step Spec
variable {G : Nat → Option W}
noncomputable def pW (x : Pr) : W := .agg 33 [dW x.1, bW x.2]
@[simp] theorem pW_pur (x : Pr) : purW (pW x) = true := by simp [pW]
structure Node where
 leaf : Bool
 key : Dig
 val : List UInt8
 left : Int
 right : Int
noncomputable def nW (x : Node) : W := .agg 36 [.bool x.leaf, dW x.key, bW x.val, .int .i64 x.left, .int .i64 x.right]
@[simp] theorem nW_pur (x : Node) : purW (nW x) = true := by simp [nW]
def valB (l : List UInt8) : Bool := decide (0 < l.length) && decide (l.length ≤ 64)
def okAt (ps : List Pr) (i : Nat) : Prop := ∀ x, ps[i]? = some x → valB x.2 = true ∧ ∀ y, 0 < i → ps[i - 1]? = some y → aheadD y.1 x.1 = true
def MayP (ps : List Pr) : Prop := ps.length ≤ 512 ∧ ∀ i, i < ps.length → okAt ps i
noncomputable instance (ps : List Pr) : Decidable (MayP ps) := Classical.propDecidable _
theorem v7q (ps : List Pr) : purL (ps.map pW) = true := uJq pW_pur ps
@[simp] theorem psW_pur' (ps : List Pr) : purL (ps.map pW) = true := v7q ps
def oneB (x : Node) (n : Nat) : Prop := if x.leaf then x.left = 0 ∧ x.right = 0 ∧ MayP [(x.key, x.val)] else (0 ≤ x.left ∧ x.left ≤ n) ∧ (0 ≤ x.right ∧ x.right ≤ n) ∧ x.key = zeroD ∧ x.val = [] ∧ 0 < x.left + x.right
noncomputable instance (x : Node) (n : Nat) : Decidable (oneB x n) := Classical.propDecidable _
end Go.Proofs.YtgeelfdgnehdnaaDoor
namespace Go.Proofs.YtgeelfdgnehdnaaDoor
open Go.RowKit
set_option linter.unusedSimpArgs false
set_option linter.unusedVariables false
attribute [local irreducible] CoW OpW FlW Step Spec
variable {G : Nat → Option W}
inductive Rep (ns : List Node) : Nat → T → Prop where
 | nil : Rep ns 0 .nil
 | leaf {n : Nat} {k : Dig} {v : List UInt8} {l r : Int} (h : ns[n]? = some ⟨true, k, v, l, r⟩) : Rep ns (n + 1) (.leaf k v)
 | fork {n l r : Nat} {k : Dig} {v : List UInt8} {L R : T} (h : ns[n]? = some ⟨false, k, v, l, r⟩) (hl : l ≤ n) (hr : r ≤ n) (hL : Rep ns l L) (hR : Rep ns r R) : Rep ns (n + 1) (.fork L R)
structure Tree where
 nodes : List Node
 root : Int
noncomputable def tW (t : Tree) : W := .agg 2 [.fz (t.nodes.map nW) 36 false, .int .i64 t.root]
theorem nsW_pur (ns : List Node) : purL (ns.map nW) = true := uJq nW_pur ns
@[simp] theorem tW_pur (t : Tree) : purW (tW t) = true := by simp [tW, nsW_pur]
end Go.Proofs.YtgeelfdgnehdnaaDoor
namespace Go.Proofs.YtgeelfdgnehdnaaDoor
open Go.RowKit
set_option linter.unusedSimpArgs false
set_option linter.unusedVariables false
theorem fit_acct {w : W} (h : Fit (.st 2 [.int .u64, .int .u64]) w) : ∃ a : Acct, w = aW a ∧ a.ok := by
 obtain ⟨l, rfl, x, l1, rfl, h1, y, l2, rfl, h2, rfl⟩ := h
 obtain ⟨n, rfl, hn⟩ := fit_u64 h1
 obtain ⟨m, rfl, hm⟩ := fit_u64 h2
 exact ⟨⟨n, m⟩, rfl, hn, hm⟩
end Go.Proofs.YtgeelfdgnehdnaaDoor
namespace Go.Proofs.YtgeelfdgnehdnaaDoor
open Go.RowKit
set_option linter.unusedSimpArgs false
set_option linter.unusedVariables false
attribute [local irreducible] CoW OpW FlW Step Spec
variable {G : Nat → Option W}
def okN (ns : List Node) : Prop := ∀ i x, ns[i]? = some x → oneB x i
def MayT (t : Tree) : Prop := t.nodes.length ≤ 262144 ∧ okN t.nodes ∧ ∃ (n : Nat) (t0 : T), t.root = n ∧ Rep t.nodes n t0 ∧ t0.ok 0 zeroD = true
noncomputable instance (t : Tree) : Decidable (MayT t) := Classical.propDecidable _
structure IsT (t : Tree) (n : Nat) (t0 : T) : Prop where
 len : t.nodes.length ≤ 262144
 okn : okN t.nodes
 root : t.root = n
 rep : Rep t.nodes n t0
 ok : t0.ok 0 zeroD = true
end Go.Proofs.YtgeelfdgnehdnaaDoor
namespace Go.Proofs.YtgeelfdgnehdnaaDoor
open Go.RowKit
set_option linter.unusedSimpArgs false
set_option linter.unusedVariables false
attribute [local irreducible] CoW OpW FlW Step Spec
variable {G : Nat → Option W}
noncomputable def psW (ps : List Pr) : W := .fz (ps.map pW) 33 false
@[simp] theorem psW_p (ps : List Pr) : purW (psW ps) = true := v7q ps
end Go.Proofs.YtgeelfdgnehdnaaDoor
namespace Go.Proofs.YtgeelfdgnehdnaaDoor
open Go.RowKit
set_option linter.unusedSimpArgs false
set_option linter.unusedVariables false
attribute [local irreducible] CoW OpW FlW Step Spec
variable {G : Nat → Option W}
structure IsA (t : Tree) (n : Nat) (t0 : T) : Prop extends IsT t n t0 where
 held : ∀ p ∈ t0.all, (qVq p.2).2 = 0
def MayA (t : Tree) : Prop := ∃ n t0, IsA t n t0
noncomputable instance (t : Tree) : Decidable (MayA t) := Classical.propDecidable _
end Go.Proofs.YtgeelfdgnehdnaaDoor
namespace Go.Proofs.YtgeelfdgnehdnaaDoor
open Go.RowKit
set_option linter.unusedSimpArgs false
set_option linter.unusedVariables false
attribute [local irreducible] CoW OpW FlW Step Spec
variable {G : Nat → Option W}
noncomputable def nsW (ns : List Node) : W := .arr (ns.length * 36) 36 (ns.map nW)
@[simp] theorem nsW_p (ns : List Node) : purW (nsW ns) = true := nsW_pur ns
end Go.Proofs.YtgeelfdgnehdnaaDoor
namespace Go.Proofs.YtgeelfdgnehdnaaDoor
open Go.RowKit
set_option linter.unusedSimpArgs false
set_option linter.unusedVariables false
attribute [local irreducible] CoW OpW FlW Step Spec
variable {G : Nat → Option W}
def GreatB (t : Tree) (m : Nat) : Prop := m < t.nodes.length ∨ ∃ i x, i ≤ m ∧ t.nodes[i]? = some x ∧ 100 < x.val.length
noncomputable instance (t : Tree) (m : Nat) : Decidable (GreatB t m) := Classical.propDecidable _
theorem cv_str {C : Cfg} {G : Nat → Option W} {fr : FrW} {hp : HpW} {nw : Nat} {s t e : TypeId} {x : Operand} {js jt : TyI} {l : List UInt8} {f : Bool} (hs : C.ty s = some js) (ht : C.ty t = some jt) (hx : evW C G fr x = some (.fz (zcq l) 1 f)) (hjs : js.d = .slice e) (hjt : jt.d = .str) (he : u5q C e = some (.int .u8)) : opHW C G fr hp nw (.convert s t x) = some (.str l, hp, nw, .gen) := by
 simp only [opHW, hConv, hs, ht, hx, hjs, hjt, he, bytesOf_W]
theorem same_s (a b : List UInt8) (f g : Bool) : PS cfg G 13 [.fz (zcq a) 1 f, .fz (zcq b) 1 g] (.bool (decide (a = b))) := by
 refine qXq (fn := Tryd.f13) rfl rfl rfl (Nat.le_of_ble_eq_true rfl) (fun R k0 => ?_)
 refine yrq 8 rfl ?_
 refine zKq rfl (cv_str rfl rfl rfl rfl rfl rfl) (zbq rfl rfl (zKq rfl (cv_str rfl rfl rfl rfl rfl rfl) (z2q (w' := .bool (decide (a = b))) rfl rfl (congrArg W.bool (jrq a b)) ?_)))
 refine znq 4 rfl ?_
 exact yUq (.inr rfl) rfl rfl
end Go.Proofs.YtgeelfdgnehdnaaDoor
namespace Go.Proofs.YtgeelfdgnehdnaaDoor
open Go.RowKit
set_option linter.unusedSimpArgs false
set_option linter.unusedVariables false
noncomputable def rotN (x n : Nat) : Nat := Nat.lor (Nat.shiftLeft x (32 - n) % 4294967296 % 4294967296) (Nat.shiftRight x n % 4294967296)
noncomputable def addN (a b : Nat) : Nat := (a + b) % 4294967296
noncomputable def xorN (a b : Nat) : Nat := Nat.xor (a % 4294967296) (b % 4294967296)
noncomputable def andN (a b : Nat) : Nat := Nat.land (a % 4294967296) (b % 4294967296)
noncomputable def shrN (a k : Nat) : Nat := Nat.shiftRight a (min k 32)
noncomputable def shlN (a k : Nat) : Nat := Nat.shiftLeft a (min k 32) % 4294967296
noncomputable def orN (a b : Nat) : Nat := Nat.lor (a % 4294967296) (b % 4294967296)
noncomputable def notN (a : Nat) : Nat := Nat.xor (4294967295 % 4294967296) (a % 4294967296)
noncomputable def wd (x : Nat) : W := .int .u32 (.ofNat x)
theorem qxq (n : Nat) (hn : n = 2 ∨ n = 6 ∨ n = 7 ∨ n = 11 ∨ n = 13 ∨ n = 17 ∨ n = 18 ∨ n = 19 ∨ n = 22 ∨ n = 25) (G : Nat → Option W) (x : Nat) : xRq cfg G 77 0 [wd x, .int .i64 (.ofNat n)] [] fun w hp nw => w = wd (rotN x n) ∧ hp = [] ∧ nw = 0 := by
 have key : ∀ h, y2q cfg 20 77 [.int .u32 (.ofNat x), .int .i64 (.ofNat n)] h = some (.int .u32 (.ofNat (rotN x n)), h) := by
  intro h
  rcases hn with rfl | rfl | rfl | rfl | rfl | rfl | rfl | rfl | rfl | rfl <;> kernel_rfl
 refine spec_run key (fun Γ us h => ?_) (fun Γ => RV_int.2 rfl)
 obtain ⟨v, vs, rfl, h1, h2⟩ := RVL_cons.1 h
 obtain ⟨v', vs', rfl, h3, h4⟩ := RVL_cons.1 h2
 rw [RVL_nil.1 h4, RV_int.1 h1, RV_int.1 h3]
end Go.Proofs.YtgeelfdgnehdnaaDoor
namespace Go.Proofs.YtgeelfdgnehdnaaDoor
open Go.RowKit
set_option linter.unusedSimpArgs false
set_option linter.unusedVariables false
attribute [local irreducible] CoW OpW FlW Step Spec
noncomputable def wordN (b0 b1 b2 b3 : Nat) : Nat := orN (orN (orN (shlN (b0 % 4294967296) 24) (shlN (b1 % 4294967296) 16)) (shlN (b2 % 4294967296) 8)) (b3 % 4294967296)
noncomputable def j7q (bs : Nat → Nat) (l : List Nat) : Nat := match Nat.blt l.length 16 with
 | true => wordN (bs (4 * l.length)) (bs (4 * l.length + 1)) (bs (4 * l.length + 2)) (bs (4 * l.length + 3))
 | false => addN (addN (addN (l.getD (l.length - 16) 0) (xorN (xorN (rotN (l.getD (l.length - 15) 0) 7) (rotN (l.getD (l.length - 15) 0) 18)) (shrN (l.getD (l.length - 15) 0) 3))) (l.getD (l.length - 7) 0)) (xorN (xorN (rotN (l.getD (l.length - 2) 0) 17) (rotN (l.getD (l.length - 2) 0) 19)) (shrN (l.getD (l.length - 2) 0) 10))
noncomputable def z4q (bs : Nat → Nat) : Nat → List Nat
 | 0 => []
 | t + 1 => z4q bs t ++ [j7q bs (z4q bs t)]
theorem j4q (bs : Nat → Nat) : ∀ t, (z4q bs t).length = t
 | 0 => rfl
 | t + 1 => by simp [z4q, j4q bs t]
theorem xGq {l : List Nat} {i : Nat} (h : i < l.length) : (l.map wd)[i]? = some (wd (l.getD i 0)) := by
 simp [List.getElem?_map, List.getElem?_eq_getElem h, List.getD]
noncomputable def kW : List Nat := [1116352408, 1899447441, 3049323471, 3921009573, 961987163, 1508970993, 2453635748, 2870763221, 3624381080, 310598401, 607225278, 1426881987, 1925078388, 2162078206, 2614888103, 3248222580, 3835390401, 4022224774, 264347078, 604807628, 770255983, 1249150122, 1555081692, 1996064986, 2554220882, 2821834349, 2952996808, 3210313671, 3336571891, 3584528711, 113926993, 338241895, 666307205, 773529912, 1294757372, 1396182291, 1695183700, 1986661051, 2177026350, 2456956037, 2730485921, 2820302411, 3259730800, 3345764771, 3516065817, 3600352804, 4094571909, 275423344, 430227734, 506948616, 659060556, 883997877, 958139571, 1322822218, 1537002063, 1747873779, 1955562222, 2024104815, 2227730452, 2361852424, 2428436474, 2756734187, 3204031479, 3329325298]
noncomputable def glK : Nat → Option W := fun g => match g with
 | 0 => some (.arr 64 1 (kW.map wd))
 | _ => none
noncomputable def pad0 (l : List Nat) (n : Nat) : List Nat := l ++ List.replicate (n - l.length) 0
theorem pad0_at {l : List Nat} {n i : Nat} (h : i < l.length) : ((pad0 l n).map wd)[i]? = some (wd (l.getD i 0)) := by
 have : i < (pad0 l n).length := by simp [pad0]; omega
 rw [xGq this]
 simp [pad0, List.getD, List.getElem?_append, h]
theorem pad0_ge {l : List Nat} {n : Nat} (h : l.length < n) : ((pad0 l n).map wd)[l.length]? = some (wd 0) := by
 have : l.length < (pad0 l n).length := by simp [pad0]; omega
 rw [xGq this]
 simp [pad0, List.getD, List.getElem?_append, List.getElem?_replicate, show 0 < n - l.length by omega]
theorem pad0_set {l : List Nat} {n x : Nat} (h : l.length < n) : ((pad0 l n).map wd).set l.length (wd x) = (pad0 (l ++ [x]) n).map wd := by
 rw [← List.map_set]
 congr 1
 unfold pad0
 rw [List.set_append_right _ _ (Nat.le_refl _)]
 have : n - l.length = (n - (l ++ [x]).length) + 1 := by simp; omega
 rw [this, Nat.sub_self, List.replicate_succ, List.set_cons_zero, List.append_assoc]
 rfl
structure S8 where
 (a b c d e f g h : Nat)
noncomputable def S8.l (s : S8) : List W := [wd s.a, wd s.b, wd s.c, wd s.d, wd s.e, wd s.f, wd s.g, wd s.h]
noncomputable def roundN (k w : Nat) (v : S8) : S8 :=
 let one := addN (addN (addN (addN v.h (xorN (xorN (rotN v.e 6) (rotN v.e 11)) (rotN v.e 25))) (xorN (andN v.e v.f) (andN (notN v.e) v.g))) k) w
 let two := addN (xorN (xorN (rotN v.a 2) (rotN v.a 13)) (rotN v.a 22)) (xorN (xorN (andN v.a v.b) (andN v.a v.c)) (andN v.b v.c))
 ⟨addN one two, v.a, v.b, v.c, addN v.d one, v.e, v.f, v.g⟩
noncomputable def j5q (ws : List Nat) (s : S8) : Nat → S8
 | 0 => s
 | t + 1 => roundN (kW.getD t 0) (ws.getD t 0) (j5q ws s t)
noncomputable def add8 (s v : S8) : S8 := ⟨addN s.a v.a, addN s.b v.b, addN s.c v.c, addN s.d v.d, addN s.e v.e, addN s.f v.f, addN s.g v.g, addN s.h v.h⟩
noncomputable def qoq (bs : Nat → Nat) (s : S8) : S8 := add8 s (j5q (z4q bs 64) s 64)
noncomputable def mix8 (s v : S8) : Nat → List W
 | 0 => s.l
 | 1 => [wd (addN s.a v.a), wd s.b, wd s.c, wd s.d, wd s.e, wd s.f, wd s.g, wd s.h]
 | 2 => [wd (addN s.a v.a), wd (addN s.b v.b), wd s.c, wd s.d, wd s.e, wd s.f, wd s.g, wd s.h]
 | 3 => [wd (addN s.a v.a), wd (addN s.b v.b), wd (addN s.c v.c), wd s.d, wd s.e, wd s.f, wd s.g, wd s.h]
 | 4 => [wd (addN s.a v.a), wd (addN s.b v.b), wd (addN s.c v.c), wd (addN s.d v.d), wd s.e, wd s.f, wd s.g, wd s.h]
 | 5 => [wd (addN s.a v.a), wd (addN s.b v.b), wd (addN s.c v.c), wd (addN s.d v.d), wd (addN s.e v.e), wd s.f, wd s.g, wd s.h]
 | 6 => [wd (addN s.a v.a), wd (addN s.b v.b), wd (addN s.c v.c), wd (addN s.d v.d), wd (addN s.e v.e), wd (addN s.f v.f), wd s.g, wd s.h]
 | 7 => [wd (addN s.a v.a), wd (addN s.b v.b), wd (addN s.c v.c), wd (addN s.d v.d), wd (addN s.e v.e), wd (addN s.f v.f), wd (addN s.g v.g), wd s.h]
 | _ => (add8 s v).l
theorem kW_len : kW.length = 64 := rfl
set_option maxHeartbeats 1600000 in
theorem block_s (s : S8) (bs : Nat → Nat) (c : W) (base off : Nat) (lim : Option Nat) (ty : TypeId) (hc : refB 2 c = true) (hby : ∀ i, i < 64 → ydq 50 c (off + i * 1) 1 false = some (.int .u8 (.ofNat (bs i)))) (R : Res) :
  Spec cfg glK 65 2 [.ptr 0 0, .sl 1 base off 64 1 lim] [(0, 116, .arr 8 1 s.l), (1, ty, c)] R fun w hp nw R' => R' = R ∧ w = .tup [] ∧ hp = [(0, 116, .arr 8 1 (qoq bs s).l), (1, ty, c)] ∧ nw = 2 := by
 refine xAq (fn := Tryd.f65) rfl rfl rfl (Nat.le_of_ble_eq_true rfl) (fun k0 => ?_)
 refine zuq (zfq (zKq rfl rfl (zCq ?_)))
 refine zNq (zuq (zuq (zfq (zbq rfl rfl (zCq ?_)))))
 refine zNq (zWq ?_)
 refine qvq (fun t : Nat => t ≤ 64) (fun t => [(19, .int .i64 (t : Int)), (4, .ptr 2 0), (1, .sl 1 base off 64 1 lim), (0, .ptr 0 0)]) (fun t => [(2, 133, .arr 64 1 ((pad0 (z4q bs t) 64).map wd)), (0, 116, .arr 8 1 s.l), (1, ty, c)]) (fun _ => 3) (fun _ => R) (fun t => 64 - t) 0 (Nat.zero_le _) ?_ (fun t ht => ?_)
 ·exact ykq ⟨rfl, rfl, rfl, rfl, trivial⟩ rfl rfl
 have hl := j4q bs t
 refine zuq (zfq (zbq rfl rfl (zCq ?_)))
 refine zNq (zuq ?_)
 refine qwq rfl (fun hc1 => ?_) (fun hc1 => ?_)
 ·have ht1 : t < 64 := by have := ltI_iff.1 hc1; omega
  have h0 : ((pad0 (z4q bs t) 64).map wd)[0 + t * 1]? = some (wd 0) := by
   have := pad0_ge (l := z4q bs t) (n := 64) (by omega)
   rw [hl] at this; simpa using this
  have key : ∀ x, j7q bs (z4q bs t) = x → ((pad0 (z4q bs t) 64).map wd).set (0 + t * 1) (wd x) = (pad0 (z4q bs (t + 1)) 64).map wd := fun x hx => by
   have := pad0_set (l := z4q bs t) (n := 64) (x := x) (by omega)
   rw [hl] at this
   rw [Nat.zero_add, Nat.mul_one, this, z4q, hx]
  refine yOq (zNq (zuq (zWq (zuq (zfq (zbq rfl rfl (zbq rfl rfl (zCq ?_))))))))
  refine zNq (zuq (zuq (zfq (zbq rfl rfl (zbq rfl rfl (zCq ?_))))))
  refine zNq ?_
  refine qwq rfl (fun hc2 => ?_) (fun hc2 => ?_)
  ·have ht2 : t < 16 := by have := ltI_iff.1 hc2; omega
   refine zuq (qlq (zaq rfl rfl (zaq rfl rfl (zaq rfl rfl ?_))))
   first | refine yjq rfl rfl ⟨by omega, by omega⟩ ?_ | refine zaq rfl rfl ?_
   refine zaq rfl (ytq (i := 4 * t) rfl rfl rfl rfl rfl rfl rfl (by omega)) ?_
   refine yKq rfl (qcq rfl rfl rfl (hby _ (by omega))) (by first | rfl | kernel_rfl) ?_
   first | refine yjq rfl rfl ⟨by omega, by omega⟩ ?_ | refine zaq rfl rfl ?_
   refine zaq rfl rfl (zaq rfl rfl (zaq rfl rfl ?_))
   first | refine yjq rfl rfl ⟨by omega, by omega⟩ ?_ | refine zaq rfl rfl ?_
   first | refine yjq rfl rfl ⟨by omega, by omega⟩ ?_ | refine zaq rfl rfl ?_
   refine zaq rfl (ytq (i := 4 * t + 1) rfl rfl rfl rfl rfl rfl rfl (by omega)) ?_
   refine yKq rfl (qcq rfl rfl rfl (hby _ (by omega))) (by first | rfl | kernel_rfl) ?_
   first | refine yjq rfl rfl ⟨by omega, by omega⟩ ?_ | refine zaq rfl rfl ?_
   refine zaq rfl rfl (zaq rfl rfl (zaq rfl rfl (zaq rfl rfl ?_)))
   first | refine yjq rfl rfl ⟨by omega, by omega⟩ ?_ | refine zaq rfl rfl ?_
   first | refine yjq rfl rfl ⟨by omega, by omega⟩ ?_ | refine zaq rfl rfl ?_
   refine zaq rfl (ytq (i := 4 * t + 2) rfl rfl rfl rfl rfl rfl rfl (by omega)) ?_
   refine yKq rfl (qcq rfl rfl rfl (hby _ (by omega))) (by first | rfl | kernel_rfl) ?_
   first | refine yjq rfl rfl ⟨by omega, by omega⟩ ?_ | refine zaq rfl rfl ?_
   refine zaq rfl rfl (zaq rfl rfl (zaq rfl rfl (zaq rfl rfl ?_)))
   first | refine yjq rfl rfl ⟨by omega, by omega⟩ ?_ | refine zaq rfl rfl ?_
   first | refine yjq rfl rfl ⟨by omega, by omega⟩ ?_ | refine zaq rfl rfl ?_
   refine zaq rfl (ytq (i := 4 * t + 3) rfl rfl rfl rfl rfl rfl rfl (by omega)) ?_
   refine yKq rfl (qcq rfl rfl rfl (hby _ (by omega))) (by first | rfl | kernel_rfl) ?_
   first | refine yjq rfl rfl ⟨by omega, by omega⟩ ?_ | refine zaq rfl rfl ?_
   refine zaq rfl rfl (zaq rfl (zDq (i := t) rfl rfl rfl rfl rfl rfl (by omega)) ?_)
   refine yKq rfl (j2q rfl rfl rfl rfl rfl (qkq h0 rfl rfl) rfl) (by first | rfl | kernel_rfl) ?_
   refine q9q ?_
   refine zNq (qIq ?_)
   refine jVq (by intro h; cases h) ?_
   refine x9q (zNq (zfq ?_))
   first | refine ysq rfl rfl ⟨by omega, by omega⟩ ?_ | refine zbq rfl rfl ?_
   refine zbq rfl rfl (zCq ?_)
   refine yvq (t + 1) (by omega) (by omega) (ykq ⟨rfl, rfl, rfl, rfl, trivial⟩ (congrArg (fun L => [(2, 133, W.arr 64 1 L), (0, 116, .arr 8 1 s.l), (1, ty, c)]) (key (wordN (bs (4 * t)) (bs (4 * t + 1)) (bs (4 * t + 2)) (bs (4 * t + 3))) ?_)) rfl)
   have hb : Nat.blt (z4q bs t).length 16 = true := by rw [hl]; simpa [Nat.blt_eq] using ht2
   unfold j7q
   rw [hb]
   simp only [hl]
  ·have ht2 : ¬ t < 16 := by have := ltI_not.1 hc2; omega
   have hA : ∀ k, k < t → ((pad0 (z4q bs t) 64).map wd)[0 + k * 1]? = some (wd ((z4q bs t).getD k 0)) := fun k hk => by
    rw [Nat.zero_add, Nat.mul_one]; exact pad0_at (by omega)
   refine yOq (zNq (zuq (qlq (zaq rfl rfl (kcq (t - 15) rfl rfl (by first | rfl | omega) ⟨by omega, by omega⟩ ?_)))))
   refine zaq rfl (zDq (i := t - 15) rfl rfl rfl rfl rfl rfl (by omega)) ?_
   refine yKq rfl (qcq rfl rfl rfl (ymq (hA (t - 15) (by omega)) rfl)) (by first | rfl | kernel_rfl) ?_
   refine zaq rfl rfl (kcq (t - 2) rfl rfl (by first | rfl | omega) ⟨by omega, by omega⟩ ?_)
   refine zaq rfl (zDq (i := t - 2) rfl rfl rfl rfl rfl rfl (by omega)) ?_
   refine yKq rfl (qcq rfl rfl rfl (ymq (hA (t - 2) (by omega)) rfl)) (by first | rfl | kernel_rfl) ?_
   refine zaq rfl rfl (zaq rfl rfl (q9q ?_))
   refine zNq (qlq (zaq rfl rfl (zaq rfl rfl (kcq (t - 16) rfl rfl (by first | rfl | omega) ⟨by omega, by omega⟩ ?_))))
   refine zaq rfl (zDq (i := t - 16) rfl rfl rfl rfl rfl rfl (by omega)) ?_
   refine yKq rfl (qcq rfl rfl rfl (ymq (hA (t - 16) (by omega)) rfl)) (by first | rfl | kernel_rfl) ?_
   refine zaq rfl rfl ?_
   (refine jhq rfl (yFq rfl rfl rfl rfl (qxq _ (by decide) _ _) rfl ?_); rintro w hp1 nw1 ⟨rfl, rfl, rfl⟩; first | refine ⟨rfl, rfl, ?_⟩ | refine ⟨rfl, ?_⟩)
   refine zaq rfl rfl ?_
   (refine jhq rfl (yFq rfl rfl rfl rfl (qxq _ (by decide) _ _) rfl ?_); rintro w hp1 nw1 ⟨rfl, rfl, rfl⟩; first | refine ⟨rfl, rfl, ?_⟩ | refine ⟨rfl, ?_⟩)
   refine zaq rfl rfl (zaq rfl rfl (zaq rfl rfl (zaq rfl rfl ?_)))
   first | refine yjq rfl rfl ⟨by omega, by omega⟩ ?_ | refine zaq rfl rfl ?_
   refine zaq rfl rfl (kcq (t - 7) rfl rfl (by first | rfl | omega) ⟨by omega, by omega⟩ ?_)
   refine zaq rfl (zDq (i := t - 7) rfl rfl rfl rfl rfl rfl (by omega)) ?_
   refine yKq rfl (qcq rfl rfl rfl (ymq (hA (t - 7) (by omega)) rfl)) (by first | rfl | kernel_rfl) ?_
   first | refine yjq rfl rfl ⟨by omega, by omega⟩ ?_ | refine zaq rfl rfl ?_
   refine zaq rfl rfl ?_
   (refine jhq rfl (yFq rfl rfl rfl rfl (qxq _ (by decide) _ _) rfl ?_); rintro w hp1 nw1 ⟨rfl, rfl, rfl⟩; first | refine ⟨rfl, rfl, ?_⟩ | refine ⟨rfl, ?_⟩)
   refine zaq rfl rfl ?_
   (refine jhq rfl (yFq rfl rfl rfl rfl (qxq _ (by decide) _ _) rfl ?_); rintro w hp1 nw1 ⟨rfl, rfl, rfl⟩; first | refine ⟨rfl, rfl, ?_⟩ | refine ⟨rfl, ?_⟩)
   refine zaq rfl rfl (zaq rfl rfl (zaq rfl rfl (zaq rfl rfl ?_)))
   first | refine yjq rfl rfl ⟨by omega, by omega⟩ ?_ | refine zaq rfl rfl ?_
   refine zaq rfl (zDq (i := t) rfl rfl rfl rfl rfl rfl (by omega)) ?_
   refine yKq rfl (j2q rfl rfl rfl rfl rfl (qkq h0 rfl rfl) rfl) (by first | rfl | kernel_rfl) ?_
   refine q9q ?_
   refine qnq (by intro i h; cases h) ?_
   refine zNq (zfq ?_)
   first | refine ysq rfl rfl ⟨by omega, by omega⟩ ?_ | refine zbq rfl rfl ?_
   refine zbq rfl rfl (zCq ?_)
   refine yvq (t + 1) (by omega) (by omega) (ykq ⟨rfl, rfl, rfl, rfl, trivial⟩ (congrArg (fun L => [(2, 133, W.arr 64 1 L), (0, 116, .arr 8 1 s.l), (1, ty, c)]) (key (addN (addN (addN ((z4q bs t).getD (t - 16) 0) (xorN (xorN (rotN ((z4q bs t).getD (t - 15) 0) 7) (rotN ((z4q bs t).getD (t - 15) 0) 18)) (shrN ((z4q bs t).getD (t - 15) 0) 3))) ((z4q bs t).getD (t - 7) 0)) (xorN (xorN (rotN ((z4q bs t).getD (t - 2) 0) 17) (rotN ((z4q bs t).getD (t - 2) 0) 19)) (shrN ((z4q bs t).getD (t - 2) 0) 10))) ?_)) rfl)
   have hb : Nat.blt (z4q bs t).length 16 = false := by
    cases hq : Nat.blt (z4q bs t).length 16 with
    | true => exact absurd (blt_t hq) (by omega)
    | false => rfl
   unfold j7q
   rw [hb]
   simp only [hl]
 ·obtain rfl : t = 64 := by have := ltI_not.1 hc1; omega
  have hS : (pad0 (z4q bs 64) 64) = z4q bs 64 := by
   unfold pad0; rw [hl]; simp
  simp only [hS]
  refine qIq ?_
  refine jVq (by intro h; cases h) ?_
  refine qGq (by intro h; cases h) ?_
  refine x9q (zNq (zuq (zfq (zbq rfl rfl (zbq rfl rfl (zKq rfl rfl (zKq rfl rfl (zKq rfl rfl (zCq ?_)))))))))
  refine zNq (zuq (zuq (zfq (zbq rfl rfl (zCq ?_)))))
  refine zNq (zWq ?_)
  refine qvq (fun t : Nat => t ≤ 64) (fun t => [(100, .int .i64 (t : Int)), (8, .ptr 3 0), (4, .ptr 2 0), (0, .ptr 0 0)]) (fun t => [(3, 116, .arr 8 1 (j5q (z4q bs 64) s t).l), (2, 133, .arr 64 1 ((z4q bs 64).map wd)), (0, 116, .arr 8 1 s.l), (1, ty, c)]) (fun _ => 4) (fun _ => R) (fun t => 64 - t) 0 (Nat.zero_le _) ?_ (fun t ht => ?_)
  ·exact ykq ⟨rfl, rfl, rfl, rfl, trivial⟩ rfl rfl
  refine zuq (zfq (zbq rfl rfl (zCq ?_)))
  refine zNq (zuq ?_)
  refine qwq rfl (fun hc3 => ?_) (fun hc3 => ?_)
  ·have ht1 : t < 64 := by have := ltI_iff.1 hc3; omega
   have hK : ydq 50 (.arr 64 1 (kW.map wd)) (t * 1) 1 false = some (wd (kW.getD t 0)) := ymq (by rw [Nat.mul_one]; exact xGq (by rw [kW_len]; exact ht1)) rfl
   have hW : ydq 50 (.arr 64 1 ((z4q bs 64).map wd)) (0 + t * 1) 1 false = some (wd ((z4q bs 64).getD t 0)) := ymq (by rw [Nat.zero_add, Nat.mul_one]; exact xGq (by omega)) rfl
   refine yOq (zNq (zuq (zWq (zuq (zfq (zbq rfl rfl (zbq rfl rfl (zCq ?_))))))))
   refine zNq (zuq (qlq ?_))
   first | refine zaq rfl rfl ?_ | refine zaq rfl (ytq rfl rfl rfl rfl rfl rfl rfl (by omega)) ?_ | refine zaq rfl (zDq rfl rfl rfl rfl rfl rfl (by omega)) ?_ | refine zaq rfl (ynq rfl rfl rfl rfl rfl rfl rfl (by first | assumption | (simp; done))) ?_
   refine yBq rfl rfl ?_
   first | refine zaq rfl rfl ?_ | refine zaq rfl (ytq rfl rfl rfl rfl rfl rfl rfl (by omega)) ?_ | refine zaq rfl (zDq rfl rfl rfl rfl rfl rfl (by omega)) ?_ | refine zaq rfl (ynq rfl rfl rfl rfl rfl rfl rfl (by first | assumption | (simp; done))) ?_
   refine yBq rfl rfl ?_
   first | refine zaq rfl rfl ?_ | refine zaq rfl (ytq rfl rfl rfl rfl rfl rfl rfl (by omega)) ?_ | refine zaq rfl (zDq rfl rfl rfl rfl rfl rfl (by omega)) ?_ | refine zaq rfl (ynq rfl rfl rfl rfl rfl rfl rfl (by first | assumption | (simp; done))) ?_
   refine yBq rfl rfl ?_
   first | refine zaq rfl rfl ?_ | refine zaq rfl (ytq rfl rfl rfl rfl rfl rfl rfl (by omega)) ?_ | refine zaq rfl (zDq rfl rfl rfl rfl rfl rfl (by omega)) ?_ | refine zaq rfl (ynq rfl rfl rfl rfl rfl rfl rfl (by first | assumption | (simp; done))) ?_
   refine yBq rfl rfl ?_
   first | refine zaq rfl rfl ?_ | refine zaq rfl (ytq rfl rfl rfl rfl rfl rfl rfl (by omega)) ?_ | refine zaq rfl (zDq rfl rfl rfl rfl rfl rfl (by omega)) ?_ | refine zaq rfl (ynq rfl rfl rfl rfl rfl rfl rfl (by first | assumption | (simp; done))) ?_
   refine yBq rfl rfl ?_
   first | refine zaq rfl rfl ?_ | refine zaq rfl (ytq rfl rfl rfl rfl rfl rfl rfl (by omega)) ?_ | refine zaq rfl (zDq rfl rfl rfl rfl rfl rfl (by omega)) ?_ | refine zaq rfl (ynq rfl rfl rfl rfl rfl rfl rfl (by first | assumption | (simp; done))) ?_
   refine yBq rfl rfl ?_
   refine zaq rfl rfl (zaq rfl rfl (zaq rfl rfl (zaq rfl rfl (zaq rfl rfl (zaq rfl rfl (q9q ?_))))))
   refine zNq (zuq (qlq ?_))
   first | refine zaq rfl rfl ?_ | refine zaq rfl (ytq rfl rfl rfl rfl rfl rfl rfl (by omega)) ?_ | refine zaq rfl (zDq rfl rfl rfl rfl rfl rfl (by omega)) ?_ | refine zaq rfl (ynq rfl rfl rfl rfl rfl rfl rfl (by first | assumption | (simp; done))) ?_
   refine yBq rfl rfl ?_
   refine zaq rfl rfl ?_
   (refine jhq rfl (yFq rfl rfl rfl rfl (qxq _ (by decide) _ _) rfl ?_); rintro w hp1 nw1 ⟨rfl, rfl, rfl⟩; first | refine ⟨rfl, rfl, ?_⟩ | refine ⟨rfl, ?_⟩)
   refine zaq rfl rfl ?_
   (refine jhq rfl (yFq rfl rfl rfl rfl (qxq _ (by decide) _ _) rfl ?_); rintro w hp1 nw1 ⟨rfl, rfl, rfl⟩; first | refine ⟨rfl, rfl, ?_⟩ | refine ⟨rfl, ?_⟩)
   refine zaq rfl rfl (zaq rfl rfl ?_)
   (refine jhq rfl (yFq rfl rfl rfl rfl (qxq _ (by decide) _ _) rfl ?_); rintro w hp1 nw1 ⟨rfl, rfl, rfl⟩; first | refine ⟨rfl, rfl, ?_⟩ | refine ⟨rfl, ?_⟩)
   refine zaq rfl rfl ?_
   first | refine yjq rfl rfl ⟨by omega, by omega⟩ ?_ | refine zaq rfl rfl ?_
   refine zaq rfl rfl (zaq rfl rfl (zaq rfl rfl (zaq rfl rfl (zaq rfl rfl (zaq rfl rfl (zaq rfl rfl (zaq rfl rfl ?_)))))))
   first | refine yjq rfl rfl ⟨by omega, by omega⟩ ?_ | refine zaq rfl rfl ?_
   refine zaq rfl rfl (zaq rfl (ix_fel (i := t) rfl rfl rfl rfl rfl rfl (by omega) rfl hK) ?_)
   refine yBq rfl rfl ?_
   first | refine yjq rfl rfl ⟨by omega, by omega⟩ ?_ | refine zaq rfl rfl ?_
   refine zaq rfl rfl (zaq rfl (zDq (i := t) rfl rfl rfl rfl rfl rfl (by omega)) ?_)
   refine yKq rfl (qcq rfl rfl rfl hW) (by first | rfl | kernel_rfl) ?_
   first | refine yjq rfl rfl ⟨by omega, by omega⟩ ?_ | refine zaq rfl rfl ?_
   refine zaq rfl rfl (q9q ?_)
   refine zNq (zuq (zfq (zbq rfl rfl ?_)))
   (refine yNq rfl (yFq rfl rfl rfl rfl (qxq _ (by decide) _ _) rfl ?_); rintro w hp1 nw1 ⟨rfl, rfl, rfl⟩; first | refine ⟨rfl, rfl, ?_⟩ | refine ⟨rfl, ?_⟩)
   refine zbq rfl rfl ?_
   (refine yNq rfl (yFq rfl rfl rfl rfl (qxq _ (by decide) _ _) rfl ?_); rintro w hp1 nw1 ⟨rfl, rfl, rfl⟩; first | refine ⟨rfl, rfl, ?_⟩ | refine ⟨rfl, ?_⟩)
   refine zbq rfl rfl (zbq rfl rfl ?_)
   (refine yNq rfl (yFq rfl rfl rfl rfl (qxq _ (by decide) _ _) rfl ?_); rintro w hp1 nw1 ⟨rfl, rfl, rfl⟩; first | refine ⟨rfl, rfl, ?_⟩ | refine ⟨rfl, ?_⟩)
   refine zbq rfl rfl (zbq rfl rfl (zbq rfl rfl (zbq rfl rfl (zbq rfl rfl (zbq rfl rfl (zbq rfl rfl (zbq rfl rfl (zbq rfl rfl (zbq rfl rfl (zbq rfl rfl (zbq rfl rfl ?_)))))))))))
   first | refine ysq rfl rfl ⟨by omega, by omega⟩ ?_ | refine zbq rfl rfl ?_
   refine zbq rfl rfl (zCq ?_)
   refine zNq (zfq (zbq rfl rfl (zbq rfl rfl ?_)))
   first | refine ysq rfl rfl ⟨by omega, by omega⟩ ?_ | refine zbq rfl rfl ?_
   refine zbq rfl rfl (zbq rfl rfl (zbq rfl rfl ?_))
   first | refine zbq rfl rfl ?_ | refine zbq rfl (ytq rfl rfl rfl rfl rfl rfl rfl (by omega)) ?_ | refine zbq rfl (zDq rfl rfl rfl rfl rfl rfl (by omega)) ?_ | refine zbq rfl (ynq rfl rfl rfl rfl rfl rfl rfl (by first | assumption | (simp; done))) ?_
   refine zKq rfl rfl (zbq rfl rfl ?_)
   first | refine ysq rfl rfl ⟨by omega, by omega⟩ ?_ | refine zbq rfl rfl ?_
   refine zbq rfl rfl (zbq rfl rfl (zbq rfl rfl (zbq rfl rfl (zKq rfl rfl (zCq ?_)))))
   refine qnq (by intro i h; cases h) ?_
   refine zNq (zfq ?_)
   first | refine ysq rfl rfl ⟨by omega, by omega⟩ ?_ | refine zbq rfl rfl ?_
   refine zbq rfl rfl (zCq ?_)
   refine yvq (t + 1) (by omega) (by omega) (ykq ⟨rfl, rfl, rfl, rfl, trivial⟩ rfl rfl)
  ·obtain rfl : t = 64 := by have := ltI_not.1 hc3; omega
   refine qIq ?_
   refine jVq (by intro h; cases h) ?_
   refine qGq (by intro h; cases h) ?_
   refine x9q (zNq (zuq (zfq (zbq rfl rfl (zCq ?_)))))
   refine zNq (zWq ?_)
   refine qvq (fun i : Nat => i ≤ 8) (fun i => [(178, .int .i64 (i : Int)), (8, .ptr 3 0), (0, .ptr 0 0)]) (fun i => [(3, 116, .arr 8 1 (j5q (z4q bs 64) s 64).l), (0, 116, .arr 8 1 (mix8 s (j5q (z4q bs 64) s 64) i)), (1, ty, c)]) (fun _ => 4) (fun _ => R) (fun i => 8 - i) 0 (Nat.zero_le _) ?_ (fun i hi => ?_)
   ·exact (ent_del (b := 2)).trans (ykq ⟨rfl, rfl, rfl, trivial⟩ rfl rfl)
   refine zuq (zfq (zbq rfl rfl (zCq ?_)))
   refine zNq (zuq ?_)
   refine qwq rfl (fun hc4 => ?_) (fun hc4 => ?_)
   ·have hi1 : i < 8 := by have := ltI_iff.1 hc4; omega
    have hq : i = 0 ∨ i = 1 ∨ i = 2 ∨ i = 3 ∨ i = 4 ∨ i = 5 ∨ i = 6 ∨ i = 7 := by omega
    skip
    rcases hq with rfl | rfl | rfl | rfl | rfl | rfl | rfl | rfl
    ·skip
     refine yOq (zNq (zuq (zWq (zuq (zfq (zbq rfl rfl (zbq rfl rfl (zCq ?_))))))))
     refine zNq (qlq (zaq rfl rfl (zaq rfl rfl (zaq rfl rfl ?_))))
     first | refine zaq rfl rfl ?_ | refine zaq rfl (ytq rfl rfl rfl rfl rfl rfl rfl (by omega)) ?_ | refine zaq rfl (zDq rfl rfl rfl rfl rfl rfl (by omega)) ?_ | refine zaq rfl (ynq rfl rfl rfl rfl rfl rfl rfl (by first | assumption | (simp; done))) ?_
     refine yBq rfl rfl ?_
     refine zaq rfl rfl ?_
     first | refine zaq rfl rfl ?_ | refine zaq rfl (ytq rfl rfl rfl rfl rfl rfl rfl (by omega)) ?_ | refine zaq rfl (zDq rfl rfl rfl rfl rfl rfl (by omega)) ?_ | refine zaq rfl (ynq rfl rfl rfl rfl rfl rfl rfl (by first | assumption | (simp; done))) ?_
     refine yBq rfl rfl ?_
     first | refine yjq rfl rfl ⟨by omega, by omega⟩ ?_ | refine zaq rfl rfl ?_
     refine zaq rfl rfl ?_
     first | refine zaq rfl rfl ?_ | refine zaq rfl (ytq rfl rfl rfl rfl rfl rfl rfl (by omega)) ?_ | refine zaq rfl (zDq rfl rfl rfl rfl rfl rfl (by omega)) ?_ | refine zaq rfl (ynq rfl rfl rfl rfl rfl rfl rfl (by first | assumption | (simp; done))) ?_
     refine yBq rfl rfl ?_
     refine q9q ?_
     refine qnq (by intro i h; cases h) ?_
     refine zNq (zfq ?_)
     first | refine ysq rfl rfl ⟨by omega, by omega⟩ ?_ | refine zbq rfl rfl ?_
     refine zbq rfl rfl (zCq ?_)
     exact yvq 1 (by decide) (by decide) (ykq ⟨rfl, rfl, rfl, trivial⟩ rfl rfl)
    ·skip
     refine yOq (zNq (zuq (zWq (zuq (zfq (zbq rfl rfl (zbq rfl rfl (zCq ?_))))))))
     refine zNq (qlq (zaq rfl rfl (zaq rfl rfl (zaq rfl rfl ?_))))
     first | refine zaq rfl rfl ?_ | refine zaq rfl (ytq rfl rfl rfl rfl rfl rfl rfl (by omega)) ?_ | refine zaq rfl (zDq rfl rfl rfl rfl rfl rfl (by omega)) ?_ | refine zaq rfl (ynq rfl rfl rfl rfl rfl rfl rfl (by first | assumption | (simp; done))) ?_
     refine yBq rfl rfl ?_
     refine zaq rfl rfl ?_
     first | refine zaq rfl rfl ?_ | refine zaq rfl (ytq rfl rfl rfl rfl rfl rfl rfl (by omega)) ?_ | refine zaq rfl (zDq rfl rfl rfl rfl rfl rfl (by omega)) ?_ | refine zaq rfl (ynq rfl rfl rfl rfl rfl rfl rfl (by first | assumption | (simp; done))) ?_
     refine yBq rfl rfl ?_
     first | refine yjq rfl rfl ⟨by omega, by omega⟩ ?_ | refine zaq rfl rfl ?_
     refine zaq rfl rfl ?_
     first | refine zaq rfl rfl ?_ | refine zaq rfl (ytq rfl rfl rfl rfl rfl rfl rfl (by omega)) ?_ | refine zaq rfl (zDq rfl rfl rfl rfl rfl rfl (by omega)) ?_ | refine zaq rfl (ynq rfl rfl rfl rfl rfl rfl rfl (by first | assumption | (simp; done))) ?_
     refine yBq rfl rfl ?_
     refine q9q ?_
     refine qnq (by intro i h; cases h) ?_
     refine zNq (zfq ?_)
     first | refine ysq rfl rfl ⟨by omega, by omega⟩ ?_ | refine zbq rfl rfl ?_
     refine zbq rfl rfl (zCq ?_)
     exact yvq 2 (by decide) (by decide) (ykq ⟨rfl, rfl, rfl, trivial⟩ rfl rfl)
    ·skip
     refine yOq (zNq (zuq (zWq (zuq (zfq (zbq rfl rfl (zbq rfl rfl (zCq ?_))))))))
     refine zNq (qlq (zaq rfl rfl (zaq rfl rfl (zaq rfl rfl ?_))))
     first | refine zaq rfl rfl ?_ | refine zaq rfl (ytq rfl rfl rfl rfl rfl rfl rfl (by omega)) ?_ | refine zaq rfl (zDq rfl rfl rfl rfl rfl rfl (by omega)) ?_ | refine zaq rfl (ynq rfl rfl rfl rfl rfl rfl rfl (by first | assumption | (simp; done))) ?_
     refine yBq rfl rfl ?_
     refine zaq rfl rfl ?_
     first | refine zaq rfl rfl ?_ | refine zaq rfl (ytq rfl rfl rfl rfl rfl rfl rfl (by omega)) ?_ | refine zaq rfl (zDq rfl rfl rfl rfl rfl rfl (by omega)) ?_ | refine zaq rfl (ynq rfl rfl rfl rfl rfl rfl rfl (by first | assumption | (simp; done))) ?_
     refine yBq rfl rfl ?_
     first | refine yjq rfl rfl ⟨by omega, by omega⟩ ?_ | refine zaq rfl rfl ?_
     refine zaq rfl rfl ?_
     first | refine zaq rfl rfl ?_ | refine zaq rfl (ytq rfl rfl rfl rfl rfl rfl rfl (by omega)) ?_ | refine zaq rfl (zDq rfl rfl rfl rfl rfl rfl (by omega)) ?_ | refine zaq rfl (ynq rfl rfl rfl rfl rfl rfl rfl (by first | assumption | (simp; done))) ?_
     refine yBq rfl rfl ?_
     refine q9q ?_
     refine qnq (by intro i h; cases h) ?_
     refine zNq (zfq ?_)
     first | refine ysq rfl rfl ⟨by omega, by omega⟩ ?_ | refine zbq rfl rfl ?_
     refine zbq rfl rfl (zCq ?_)
     exact yvq 3 (by decide) (by decide) (ykq ⟨rfl, rfl, rfl, trivial⟩ rfl rfl)
    ·skip
     refine yOq (zNq (zuq (zWq (zuq (zfq (zbq rfl rfl (zbq rfl rfl (zCq ?_))))))))
     refine zNq (qlq (zaq rfl rfl (zaq rfl rfl (zaq rfl rfl ?_))))
     first | refine zaq rfl rfl ?_ | refine zaq rfl (ytq rfl rfl rfl rfl rfl rfl rfl (by omega)) ?_ | refine zaq rfl (zDq rfl rfl rfl rfl rfl rfl (by omega)) ?_ | refine zaq rfl (ynq rfl rfl rfl rfl rfl rfl rfl (by first | assumption | (simp; done))) ?_
     refine yBq rfl rfl ?_
     refine zaq rfl rfl ?_
     first | refine zaq rfl rfl ?_ | refine zaq rfl (ytq rfl rfl rfl rfl rfl rfl rfl (by omega)) ?_ | refine zaq rfl (zDq rfl rfl rfl rfl rfl rfl (by omega)) ?_ | refine zaq rfl (ynq rfl rfl rfl rfl rfl rfl rfl (by first | assumption | (simp; done))) ?_
     refine yBq rfl rfl ?_
     first | refine yjq rfl rfl ⟨by omega, by omega⟩ ?_ | refine zaq rfl rfl ?_
     refine zaq rfl rfl ?_
     first | refine zaq rfl rfl ?_ | refine zaq rfl (ytq rfl rfl rfl rfl rfl rfl rfl (by omega)) ?_ | refine zaq rfl (zDq rfl rfl rfl rfl rfl rfl (by omega)) ?_ | refine zaq rfl (ynq rfl rfl rfl rfl rfl rfl rfl (by first | assumption | (simp; done))) ?_
     refine yBq rfl rfl ?_
     refine q9q ?_
     refine qnq (by intro i h; cases h) ?_
     refine zNq (zfq ?_)
     first | refine ysq rfl rfl ⟨by omega, by omega⟩ ?_ | refine zbq rfl rfl ?_
     refine zbq rfl rfl (zCq ?_)
     exact yvq 4 (by decide) (by decide) (ykq ⟨rfl, rfl, rfl, trivial⟩ rfl rfl)
    ·skip
     refine yOq (zNq (zuq (zWq (zuq (zfq (zbq rfl rfl (zbq rfl rfl (zCq ?_))))))))
     refine zNq (qlq (zaq rfl rfl (zaq rfl rfl (zaq rfl rfl ?_))))
     first | refine zaq rfl rfl ?_ | refine zaq rfl (ytq rfl rfl rfl rfl rfl rfl rfl (by omega)) ?_ | refine zaq rfl (zDq rfl rfl rfl rfl rfl rfl (by omega)) ?_ | refine zaq rfl (ynq rfl rfl rfl rfl rfl rfl rfl (by first | assumption | (simp; done))) ?_
     refine yBq rfl rfl ?_
     refine zaq rfl rfl ?_
     first | refine zaq rfl rfl ?_ | refine zaq rfl (ytq rfl rfl rfl rfl rfl rfl rfl (by omega)) ?_ | refine zaq rfl (zDq rfl rfl rfl rfl rfl rfl (by omega)) ?_ | refine zaq rfl (ynq rfl rfl rfl rfl rfl rfl rfl (by first | assumption | (simp; done))) ?_
     refine yBq rfl rfl ?_
     first | refine yjq rfl rfl ⟨by omega, by omega⟩ ?_ | refine zaq rfl rfl ?_
     refine zaq rfl rfl ?_
     first | refine zaq rfl rfl ?_ | refine zaq rfl (ytq rfl rfl rfl rfl rfl rfl rfl (by omega)) ?_ | refine zaq rfl (zDq rfl rfl rfl rfl rfl rfl (by omega)) ?_ | refine zaq rfl (ynq rfl rfl rfl rfl rfl rfl rfl (by first | assumption | (simp; done))) ?_
     refine yBq rfl rfl ?_
     refine q9q ?_
     refine qnq (by intro i h; cases h) ?_
     refine zNq (zfq ?_)
     first | refine ysq rfl rfl ⟨by omega, by omega⟩ ?_ | refine zbq rfl rfl ?_
     refine zbq rfl rfl (zCq ?_)
     exact yvq 5 (by decide) (by decide) (ykq ⟨rfl, rfl, rfl, trivial⟩ rfl rfl)
    ·skip
     refine yOq (zNq (zuq (zWq (zuq (zfq (zbq rfl rfl (zbq rfl rfl (zCq ?_))))))))
     refine zNq (qlq (zaq rfl rfl (zaq rfl rfl (zaq rfl rfl ?_))))
     first | refine zaq rfl rfl ?_ | refine zaq rfl (ytq rfl rfl rfl rfl rfl rfl rfl (by omega)) ?_ | refine zaq rfl (zDq rfl rfl rfl rfl rfl rfl (by omega)) ?_ | refine zaq rfl (ynq rfl rfl rfl rfl rfl rfl rfl (by first | assumption | (simp; done))) ?_
     refine yBq rfl rfl ?_
     refine zaq rfl rfl ?_
     first | refine zaq rfl rfl ?_ | refine zaq rfl (ytq rfl rfl rfl rfl rfl rfl rfl (by omega)) ?_ | refine zaq rfl (zDq rfl rfl rfl rfl rfl rfl (by omega)) ?_ | refine zaq rfl (ynq rfl rfl rfl rfl rfl rfl rfl (by first | assumption | (simp; done))) ?_
     refine yBq rfl rfl ?_
     first | refine yjq rfl rfl ⟨by omega, by omega⟩ ?_ | refine zaq rfl rfl ?_
     refine zaq rfl rfl ?_
     first | refine zaq rfl rfl ?_ | refine zaq rfl (ytq rfl rfl rfl rfl rfl rfl rfl (by omega)) ?_ | refine zaq rfl (zDq rfl rfl rfl rfl rfl rfl (by omega)) ?_ | refine zaq rfl (ynq rfl rfl rfl rfl rfl rfl rfl (by first | assumption | (simp; done))) ?_
     refine yBq rfl rfl ?_
     refine q9q ?_
     refine qnq (by intro i h; cases h) ?_
     refine zNq (zfq ?_)
     first | refine ysq rfl rfl ⟨by omega, by omega⟩ ?_ | refine zbq rfl rfl ?_
     refine zbq rfl rfl (zCq ?_)
     exact yvq 6 (by decide) (by decide) (ykq ⟨rfl, rfl, rfl, trivial⟩ rfl rfl)
    ·skip
     refine yOq (zNq (zuq (zWq (zuq (zfq (zbq rfl rfl (zbq rfl rfl (zCq ?_))))))))
     refine zNq (qlq (zaq rfl rfl (zaq rfl rfl (zaq rfl rfl ?_))))
     first | refine zaq rfl rfl ?_ | refine zaq rfl (ytq rfl rfl rfl rfl rfl rfl rfl (by omega)) ?_ | refine zaq rfl (zDq rfl rfl rfl rfl rfl rfl (by omega)) ?_ | refine zaq rfl (ynq rfl rfl rfl rfl rfl rfl rfl (by first | assumption | (simp; done))) ?_
     refine yBq rfl rfl ?_
     refine zaq rfl rfl ?_
     first | refine zaq rfl rfl ?_ | refine zaq rfl (ytq rfl rfl rfl rfl rfl rfl rfl (by omega)) ?_ | refine zaq rfl (zDq rfl rfl rfl rfl rfl rfl (by omega)) ?_ | refine zaq rfl (ynq rfl rfl rfl rfl rfl rfl rfl (by first | assumption | (simp; done))) ?_
     refine yBq rfl rfl ?_
     first | refine yjq rfl rfl ⟨by omega, by omega⟩ ?_ | refine zaq rfl rfl ?_
     refine zaq rfl rfl ?_
     first | refine zaq rfl rfl ?_ | refine zaq rfl (ytq rfl rfl rfl rfl rfl rfl rfl (by omega)) ?_ | refine zaq rfl (zDq rfl rfl rfl rfl rfl rfl (by omega)) ?_ | refine zaq rfl (ynq rfl rfl rfl rfl rfl rfl rfl (by first | assumption | (simp; done))) ?_
     refine yBq rfl rfl ?_
     refine q9q ?_
     refine qnq (by intro i h; cases h) ?_
     refine zNq (zfq ?_)
     first | refine ysq rfl rfl ⟨by omega, by omega⟩ ?_ | refine zbq rfl rfl ?_
     refine zbq rfl rfl (zCq ?_)
     exact yvq 7 (by decide) (by decide) (ykq ⟨rfl, rfl, rfl, trivial⟩ rfl rfl)
    ·skip
     refine yOq (zNq (zuq (zWq (zuq (zfq (zbq rfl rfl (zbq rfl rfl (zCq ?_))))))))
     refine zNq (qlq (zaq rfl rfl (zaq rfl rfl (zaq rfl rfl ?_))))
     first | refine zaq rfl rfl ?_ | refine zaq rfl (ytq rfl rfl rfl rfl rfl rfl rfl (by omega)) ?_ | refine zaq rfl (zDq rfl rfl rfl rfl rfl rfl (by omega)) ?_ | refine zaq rfl (ynq rfl rfl rfl rfl rfl rfl rfl (by first | assumption | (simp; done))) ?_
     refine yBq rfl rfl ?_
     refine zaq rfl rfl ?_
     first | refine zaq rfl rfl ?_ | refine zaq rfl (ytq rfl rfl rfl rfl rfl rfl rfl (by omega)) ?_ | refine zaq rfl (zDq rfl rfl rfl rfl rfl rfl (by omega)) ?_ | refine zaq rfl (ynq rfl rfl rfl rfl rfl rfl rfl (by first | assumption | (simp; done))) ?_
     refine yBq rfl rfl ?_
     first | refine yjq rfl rfl ⟨by omega, by omega⟩ ?_ | refine zaq rfl rfl ?_
     refine zaq rfl rfl ?_
     first | refine zaq rfl rfl ?_ | refine zaq rfl (ytq rfl rfl rfl rfl rfl rfl rfl (by omega)) ?_ | refine zaq rfl (zDq rfl rfl rfl rfl rfl rfl (by omega)) ?_ | refine zaq rfl (ynq rfl rfl rfl rfl rfl rfl rfl (by first | assumption | (simp; done))) ?_
     refine yBq rfl rfl ?_
     refine q9q ?_
     refine qnq (by intro i h; cases h) ?_
     refine zNq (zfq ?_)
     first | refine ysq rfl rfl ⟨by omega, by omega⟩ ?_ | refine zbq rfl rfl ?_
     refine zbq rfl rfl (zCq ?_)
     exact yvq 8 (by decide) (by decide) (ykq ⟨rfl, rfl, rfl, trivial⟩ rfl rfl)
   ·obtain rfl : i = 8 := by have := ltI_not.1 hc4; omega
    refine qIq ?_
    refine jVq (by intro h; cases h) ?_
    refine qGq (by intro h; cases h) ?_
    refine x9q ?_
    refine fin (.inl rfl) (xOq (fr2 := []) (hp2 := [(0, 116, .arr 8 1 (qoq bs s).l), (1, ty, c)]) (nw2 := 2) (by omega) (by omega) trivial rfl (klq ⟨⟨by omega, rfl, rfl⟩, ⟨by omega, rfl, hc⟩, trivial⟩) (by simp)) rfl ⟨rfl, rfl, rfl, rfl⟩
end Go.Proofs.YtgeelfdgnehdnaaDoor
namespace Go.Proofs.YtgeelfdgnehdnaaDoor
open Go.RowKit
set_option linter.unusedSimpArgs false
set_option linter.unusedVariables false
attribute [local irreducible] CoW OpW FlW Step Spec
noncomputable def atL (r : List Nat) (i : Nat) : Nat := r.getD i 0
noncomputable def eat : Nat → S8 → List Nat → S8 × List Nat
 | 0, s, r => (s, r)
 | n + 1, s, r => match Nat.ble 64 r.length with
  | true => eat n (qoq (atL r) s) (r.drop 64)
  | false => (s, r)
theorem qOq : ∀ (n : Nat) (s : S8) (r : List Nat), r.length < 64 → eat n s r = (s, r)
 | 0, _, _, _ => rfl
 | n + 1, s, r, h => by
  have : Nat.ble 64 r.length = false := by
   cases hq : Nat.ble 64 r.length with
   | true => have := Nat.le_of_ble_eq_true hq; omega
   | false => rfl
  simp only [eat, this]
theorem Zlq {n : Nat} {s : S8} {r : List Nat} (h : 64 ≤ r.length) : eat (n + 1) s r = eat n (qoq (atL r) s) (r.drop 64) := by
 simp only [eat, Nat.ble_eq_true_of_le h]
theorem eat_fuel : ∀ (n m : Nat) (s : S8) (r : List Nat), r.length ≤ n → r.length ≤ m → eat n s r = eat m s r
 | 0, m, s, r, h, _ => by rw [qOq m s r (by omega)]; rfl
 | n + 1, 0, s, r, _, h => by rw [qOq _ s r (by omega)]; rfl
 | n + 1, m + 1, s, r, h1, h2 => by
  by_cases h : 64 ≤ r.length
  ·rw [Zlq h, Zlq h]
   exact eat_fuel n m _ _ (by simp; omega) (by simp; omega)
  ·rw [qOq _ s r (by omega), qOq _ s r (by omega)]
noncomputable def eats (s : S8) (r : List Nat) : S8 × List Nat := eat r.length s r
theorem u3q {s : S8} {r : List Nat} (h : 64 ≤ r.length) : eats s r = eats (qoq (atL r) s) (r.drop 64) := by
 unfold eats
 obtain ⟨n, hn⟩ : ∃ n, r.length = n + 1 := ⟨r.length - 1, by omega⟩
 rw [hn, Zlq h]
 exact eat_fuel _ _ _ _ (by simp; omega) (Nat.le_refl _)
noncomputable def khq (a : S8 × List Nat) (p : List Nat) : S8 × List Nat := eats a.1 (a.2 ++ p)
noncomputable def s0 : S8 := ⟨1779033703, 3144134277, 1013904242, 2773480762, 1359893119, 2600822924, 528734635, 1541459225⟩
noncomputable def padZ : Nat → List Nat → List Nat
 | 0, r => r
 | n + 1, r => match Nat.beq (r.length % 64) 56 with
  | true => r
  | false => padZ n (r ++ [0])
noncomputable def len8 (many : Nat) : List Nat := [56, 48, 40, 32, 24, 16, 8, 0].map fun i => Nat.shiftRight (8 * many % 18446744073709551616) i % 256
noncomputable def y5q : Nat → S8 → List Nat → S8
 | 0, s, _ => s
 | n + 1, s, r => match Nat.ble 1 r.length with
  | true => y5q n (qoq (atL r) s) (r.drop 64)
  | false => s
theorem qRq : ∀ (n : Nat) (s : S8), y5q n s [] = s
 | 0, _ => rfl
 | n + 1, s => rfl
theorem kSq {n : Nat} {s : S8} {r : List Nat} (h : 1 ≤ r.length) : y5q (n + 1) s r = y5q n (qoq (atL r) s) (r.drop 64) := by
 simp only [y5q, Nat.ble_eq_true_of_le h]
theorem u4q : ∀ (n m : Nat) (s : S8) (r : List Nat), r.length ≤ n → r.length ≤ m → y5q n s r = y5q m s r
 | 0, m, s, r, h, _ => by
  obtain rfl : r = [] := List.length_eq_zero_iff.1 (by omega)
  rw [qRq, qRq]
 | n + 1, 0, s, r, _, h => by
  obtain rfl : r = [] := List.length_eq_zero_iff.1 (by omega)
  rw [qRq, qRq]
 | n + 1, m + 1, s, r, h1, h2 => by
  by_cases h : 1 ≤ r.length
  ·rw [kSq h, kSq h]
   exact u4q n m _ _ (by simp; omega) (by simp; omega)
  ·obtain rfl : r = [] := List.length_eq_zero_iff.1 (by omega)
   rw [qRq, qRq]
theorem kRq {s : S8} {r : List Nat} (h : 1 ≤ r.length) : y5q r.length s r = y5q (r.drop 64).length (qoq (atL r) s) (r.drop 64) := by
 obtain ⟨n, hn⟩ : ∃ n, r.length = n + 1 := ⟨r.length - 1, by omega⟩
 rw [hn, kSq h]
 exact u4q _ _ _ _ (by simp; omega) (Nat.le_refl _)
noncomputable def S8.get (s : S8) : Nat → Nat
 | 0 => s.a
 | 1 => s.b
 | 2 => s.c
 | 3 => s.d
 | 4 => s.e
 | 5 => s.f
 | 6 => s.g
 | _ => s.h
noncomputable def digN (s : S8) : List Nat := (List.range 32).map fun i => Nat.shiftRight (s.get (i / 4)) (24 - 8 * (i % 4)) % 256
noncomputable def yzq (ps : List (List Nat)) : Nat := (ps.map List.length).foldr (· + ·) 0
noncomputable def shaN (ps : List (List Nat)) : List Nat :=
 let a := ps.foldl khq (s0, [])
 let r := padZ 64 (a.2 ++ [128]) ++ len8 (yzq ps)
 digN (y5q r.length a.1 r)
inductive Rst where
 | nil
 | sl (all : List Nat) (base off : Nat)
noncomputable def Rst.w : Rst → W
 | .nil => .nils
 | .sl all base off => .sl 2 base off (all.length - off) 1 none
noncomputable def Rst.hp : Rst → HpW
 | .nil => []
 | .sl all _ _ => [(2, 5, .arr all.length 1 (bN all))]
noncomputable def Rst.r : Rst → List Nat
 | .nil => []
 | .sl all _ off => all.drop off
noncomputable def Rst.ok : Rst → Prop
 | .nil => True
 | .sl all _ off => off ≤ all.length ∧ all.length < 4294967296
noncomputable def Rst.nw : Rst → Nat
 | .nil => 2
 | .sl _ _ _ => 3
noncomputable def hpS (x : Rst) (d : W) (s : S8) : HpW := x.hp ++ [(1, 116, .arr 8 1 s.l), (0, 23, d)]
noncomputable def ktq : W := .arr 32 1 (List.replicate 32 (.int .u8 0))
noncomputable def vnq (p : List Nat × Bool) : W := .fz (bN p.1) 1 p.2
theorem app_r (r : Rst) (hr : r.ok) (d : W) (s : S8) (p : List Nat) (f : Bool) (hp : p.length < 2147483648) (h64 : r.r.length < 64) : ∃ w hp' nw ev, appW cfg (hpS r d s) r.nw 27 27 r.w (.fz (bN p) 1 f) = some (w, hp', nw, ev) ∧
  ∃ r' : Rst, r'.ok ∧ r'.r = r.r ++ p ∧ ((w = r'.w ∧ hp' = hpS r' d s ∧ nw = r'.nw) ∨ ∃ all, r' = .sl all 0 0 ∧ w = .sl 3 0 0 all.length 1 none ∧ hp' = [(3, 5, .arr all.length 1 (bN all)), (1, 116, .arr 8 1 s.l), (0, 23, d)] ∧ nw = 4) := by
 cases r with
 | nil => cases p with
  | nil => exact ⟨_, _, _, _, rfl, .nil, trivial, rfl, .inl ⟨rfl, rfl, rfl⟩⟩
  | cons a l =>
   have hl : (bN (a :: l)).length = l.length + 1 := by rw [q2q]; rfl
   have hlt : l.length + 1 < 2147483648 := hp
   have hbl : (bN (a :: l)).length * 1 ≤ 140737488355328 := by omega
   refine ⟨_, _, _, _, Zqq (k := ti5) rfl rfl rfl rfl rfl (by simp [bN]) hbl (by omega), .sl (a :: l) 0 0, ⟨Nat.zero_le _, by show l.length + 1 < _; omega⟩, rfl, .inl ⟨?_, ?_, rfl⟩⟩
   ·rw [q2q]; rfl
   ·rw [q2q, show (ti5).size = 1 from rfl, Nat.mul_one]; rfl
 | sl all base off =>
  obtain ⟨h1, h2⟩ := hr
  cases p with
  | nil => exact ⟨_, _, _, _, rfl, .sl all base off, ⟨h1, h2⟩, by simp, .inl ⟨rfl, rfl, rfl⟩⟩
  | cons a l =>
   have hl : (bN (a :: l)).length = l.length + 1 := by rw [q2q]; rfl
   have hlt : l.length + 1 < 2147483648 := hp
   have hbl : (all.length - off + (bN (a :: l)).length) * 1 ≤ 140737488355328 := by omega
   have hdt : ((bN all).drop off).take (all.length - off) = bN (all.drop off) := by
    rw [List.take_of_length_le (by simp [q2q])]; simp [bN, List.map_drop]
   refine ⟨_, _, _, _, jWq (k := ti5) (v := .arr all.length 1 (bN all)) (off := off) rfl rfl rfl rfl rfl (by simp [bN]) hbl (by omega) rfl ?_ rfl (k3q (by omega)), .sl (all.drop off ++ a :: l) 0 0, ⟨Nat.zero_le _, ?_⟩, rfl, .inr ⟨_, rfl, ?_, ?_, rfl⟩⟩
   ·show all.length < off + (all.length - off + (bN (a :: l)).length) * 1
    omega
   ·simp only [Rst.r, List.length_drop] at h64; simp only [List.length_append, List.length_drop, List.length_cons]; omega
   ·simp only [hl, List.length_append, List.length_drop, List.length_cons]; rfl
   ·rw [hdt, hl]
    simp only [List.length_append, List.length_drop, List.length_cons, show (ti5).size = 1 from rfl, Nat.mul_one]
    rw [show bN (all.drop off) ++ bN (a :: l) = bN (all.drop off ++ a :: l) by simp [bN]]
    rfl
theorem padZ_spec : ∀ (n j : Nat) (r : List Nat), (∀ i, i < j → (r.length + i) % 64 ≠ 56) → (r.length + j) % 64 = 56 → j ≤ n → padZ n r = r ++ List.replicate j 0
 | 0, j, r, _, _, h => by
  obtain rfl : j = 0 := by omega
  simp [padZ]
 | n + 1, 0, r, _, h, _ => by
  have : Nat.beq (r.length % 64) 56 = true := by rw [Nat.beq_eq]; simpa using h
  simp only [padZ, this]; simp
 | n + 1, j + 1, r, h1, h2, h3 => by
  have : Nat.beq (r.length % 64) 56 = false := by
   cases hq : Nat.beq (r.length % 64) 56 with
   | true => rw [Nat.beq_eq] at hq; exact absurd (by simpa using hq) (h1 0 (by omega))
   | false => rfl
  simp only [padZ, this]
  rw [padZ_spec n j (r ++ [0]) (fun i hi => by simp only [List.length_append, List.length_singleton]; have := h1 (i + 1) (by omega); rwa [show r.length + 1 + i = r.length + (i + 1) by omega]) (by simp only [List.length_append, List.length_singleton]; rwa [show r.length + 1 + j = r.length + (j + 1) by omega]) (by omega)]
  rw [List.append_assoc]; rfl
theorem S8_at (s : S8) {k : Nat} (h : k < 8) : s.l[0 + k * 1]? = some (wd (s.get k)) := by
 have hq : k = 0 ∨ k = 1 ∨ k = 2 ∨ k = 3 ∨ k = 4 ∨ k = 5 ∨ k = 6 ∨ k = 7 := by omega
 rcases hq with rfl | rfl | rfl | rfl | rfl | rfl | rfl | rfl <;> rfl
noncomputable def dI (s : S8) (i : Nat) : List Nat := (digN s).take i ++ List.replicate (32 - i) 0
theorem xoq (s : S8) : (digN s).length = 32 := by simp [digN]
theorem dI_len (s : S8) {i : Nat} (h : i ≤ 32) : (dI s i).length = 32 := by simp [dI, xoq]; omega
theorem dI_at (s : S8) {i : Nat} (h : i < 32) : (bN (dI s i))[0 + i * 1]? = some (.int .u8 (.ofNat 0)) := by
 rw [Nat.zero_add, Nat.mul_one, bN_at (by rw [dI_len s (by omega)]; exact h)]
 have : (dI s i).getD i 0 = 0 := by
  simp [dI, List.getD, List.getElem?_append, xoq, show min i 32 = i by omega, List.getElem?_replicate, show 0 < 32 - i by omega]
 rw [this]
theorem dI_set (s : S8) {i : Nat} (h : i < 32) : (bN (dI s i)).set (0 + i * 1) (.int .u8 (.ofNat (Nat.shiftRight (s.get (i / 4)) (min (24 - 8 * (i % 4)) 32) % 256))) = bN (dI s (i + 1)) := by
 have e : (digN s).take (i + 1) = (digN s).take i ++ [Nat.shiftRight (s.get (i / 4)) (24 - 8 * (i % 4)) % 256] := by
  rw [List.take_add_one]
  congr 1
  simp [digN, List.getElem?_map, List.getElem?_range h]
 have hm : min (24 - 8 * (i % 4)) 32 = 24 - 8 * (i % 4) := by omega
 have hl : ((digN s).take i).length = i := by simp [xoq]; omega
 rw [Nat.zero_add, Nat.mul_one, hm]
 unfold bN
 rw [← List.map_set (f := fun c => W.int .u8 (.ofNat c))]
 congr 1
 unfold dI
 rw [e, show 32 - i = (32 - (i + 1)) + 1 by omega, List.replicate_succ, List.set_append_right _ _ (by omega), hl, Nat.sub_self, List.set_cons_zero, List.append_assoc]
 rfl
theorem mid1 (L : List Nat) (c : Nat) : some (W.sl 4 0 0 (L.length + (bN [c]).length) 1 none) = some (renW (tau1 2 4) (W.sl 2 0 0 (L ++ [c]).length 1 none)) := by
 rw [List.length_append]; rfl
theorem mid2 (L : List Nat) (c : Nat) : some (5, W.arr ((L.length + (bN [c]).length) * 1) 1 (((bN L).drop 0).take L.length ++ bN [c])) = some (5, renW (tau1 2 4) (W.arr (L ++ [c]).length 1 (bN (L ++ [c])))) := by
 rw [yMq (show purW (.arr (L ++ [c]).length 1 (bN (L ++ [c]))) = true from x5q _), List.drop_zero, List.take_of_length_le (by rw [q2q]; exact Nat.le_refl _), Nat.mul_one, List.length_append]
 simp [bN]
theorem parts_pur : ∀ ps : List (List Nat × Bool), purL (ps.map vnq) = true
 | [] => rfl
 | p :: ps => by simp only [List.map_cons, purL, vnq, purW, x5q, Bool.true_and]; exact parts_pur ps
set_option maxHeartbeats 1600000 in
theorem of_s (ps : List (List Nat × Bool)) (fl : Bool) (hb : yzq (ps.map (·.1)) < 2147483648) (hpn : ps.length < 2147483648) (R : Res) :
  Spec cfg glK 44 0 [.fz (ps.map vnq) 1 fl] [] R fun w hp nw R' => R' = R ∧ w = .arr 32 1 (bN (shaN (ps.map (·.1)))) := by
 refine xAq (fn := Tryd.f44) rfl rfl rfl (Nat.le_of_ble_eq_true rfl) (fun k0 => ?_)
 refine zuq (zfq (zKq rfl rfl (zCq ?_)))
 refine zNq (zuq (zfq (zbq rfl rfl (zKq rfl rfl (zKq rfl rfl (zCq ?_))))))
 refine zNq (zuq (zfq (zbq rfl rfl (zCq ?_))))
 refine zNq (zuq (zfq (zbq rfl rfl (zCq ?_))))
 refine zNq (zuq (zuq (zfq (zbq rfl rfl (zbq rfl rfl (zbq rfl rfl (zCq ?_)))))))
 refine zNq (zWq ?_)
 refine qvq (α := Nat × S8 × Rst) (fun a => a.1 ≤ ps.length ∧ a.2.2.ok ∧ (a.2.1, a.2.2.r) = ((ps.map (·.1)).take a.1).foldl khq (s0, []) ∧ a.2.2.r.length < 64) (fun a => [(13, .int .i64 (a.1 : Int)), (12, .int .i64 (ps.length : Int)), (11, .fz (ps.map vnq) 1 fl), (5, .int .u64 (yzq ((ps.map (·.1)).take a.1) : Int)), (4, a.2.2.w), (3, .ptr 1 0), (2, .ptr 0 0)]) (fun a => hpS a.2.2 ktq a.2.1) (fun a => a.2.2.nw) (fun _ => R) (fun a => ps.length - a.1) (0, s0, .nil) ⟨Nat.zero_le _, trivial, rfl, by decide⟩ ?_ (fun a ha => ?_)
 ·exact ykq ⟨rfl, by simp [getW, putW], rfl, rfl, rfl, rfl, rfl, trivial⟩ rfl rfl
 have hPp : purW (.fz (ps.map vnq) 1 fl) = true := parts_pur ps
 obtain ⟨i, s, r⟩ := a
 obtain ⟨hi, hok, hfold, hr64⟩ := ha
 refine zuq (zfq (zbq rfl rfl (zCq ?_)))
 refine zNq (zuq ?_)
 refine qwq rfl (fun hc1 => ?_) (fun hc1 => ?_)
 ·simp only at hi hok hfold hr64
  have hi1 : i < ps.length := by have := ltI_iff.1 hc1; simp only at this; omega
  obtain ⟨p, hp⟩ : ∃ p, ps[i]? = some p := ⟨_, List.getElem?_eq_getElem hi1⟩
  have hpw : (ps.map vnq)[i]? = some (.fz (bN p.1) 1 p.2) := by rw [List.getElem?_map, hp]; rfl
  have htk : (ps.map (·.1)).take (i + 1) = (ps.map (·.1)).take i ++ [p.1] := by
   rw [List.take_add_one, List.getElem?_map, hp]; rfl
  have htot : ∀ l r : List (List Nat), yzq (l ++ r) = yzq l + yzq r := fun l r => by
   unfold yzq
   induction l with
   | nil => simp
   | cons x l ih => simp only [List.cons_append, List.map_cons, List.foldr_cons, ih]; omega
  have ht1 : yzq ((ps.map (·.1)).take (i + 1)) = yzq ((ps.map (·.1)).take i) + p.1.length := by rw [htk, htot]; simp [yzq]
  have htle : yzq ((ps.map (·.1)).take (i + 1)) ≤ yzq (ps.map (·.1)) := by
   have := htot ((ps.map (·.1)).take (i + 1)) ((ps.map (·.1)).drop (i + 1))
   rw [List.take_append_drop] at this; omega
  have hpl : p.1.length < 2147483648 := by omega
  refine yOq (zNq (zuq (zWq (zuq (zfq (zbq rfl (ynq (i := i) rfl rfl rfl rfl rfl rfl rfl hpw) (zKq rfl rfl (zbq rfl rfl (zCq ?_)))))))))
  refine zNq (zuq (zfq (zbq rfl rfl (zbq rfl rfl (z2q rfl rfl (show _ = W.int .i64 (p.1.length : Int) by first | rfl | (simp [q2q]; done) | (simp [q2q]; rfl)) ?_)))))
  refine zVq (p.1.length) rfl rfl (by first | rfl | omega) ⟨by omega, by omega⟩ ?_
  refine zVq (yzq ((ps.map (·.1)).take i) + p.1.length) rfl rfl (by first | rfl | omega) ⟨by omega, by omega⟩ ?_
  refine zbq rfl rfl (zCq ?_)
  refine zNq ?_
  refine co_cut (α := Rst) (fun r' => r'.ok ∧ r'.r = r.r ++ p.1) (fun r' => [(13, .int .i64 (i : Int)), (12, .int .i64 (ps.length : Int)), (11, .fz (ps.map vnq) 1 fl), (5, .int .u64 (yzq ((ps.map (·.1)).take (i + 1)) : Int)), (4, r'.w), (3, .ptr 1 0), (2, .ptr 0 0)]) (fun r' => hpS r' ktq s) (fun r' => r'.nw) ?_ (fun a ha => ?_)
  ·obtain ⟨w, hp', nw', ev, e1, r', e2, e3, e4⟩ := app_r r hok ktq s p.1 p.2 hpl hr64
   refine zfq (zbq rfl rfl (zbq rfl rfl (zKq rfl (q3q rfl rfl e1) (zbq rfl rfl (zCq ?_)))))
   refine ⟨rfl, r', ⟨e2, e3⟩, ?_⟩
   rcases e4 with ⟨rfl, rfl, rfl⟩ | ⟨all, rfl, rfl, rfl, rfl⟩
   ·exact ykq ⟨rfl, rfl, rfl, by rw [ht1]; rfl, rfl, rfl, rfl, trivial⟩ rfl rfl
   ·refine jKq (b := 2) (k := 3) (by omega) (by omega) (by omega) ⟨⟨rfl, rfl⟩, ⟨rfl, rfl⟩, ⟨by rw [yMq hPp]; rfl, zEq hPp⟩, ⟨by rw [ht1]; rfl, rfl⟩, ⟨rfl, rfl⟩, ⟨rfl, rfl⟩, ⟨rfl, rfl⟩, trivial⟩ ⟨⟨by omega, by rw [yMq (show purW (.arr all.length 1 (bN all)) = true from x5q _)]; rfl, zEq (show purW (.arr all.length 1 (bN all)) = true from x5q _)⟩, ⟨by omega, rfl, rfl⟩, ⟨by omega, rfl, rfl⟩, trivial⟩ (by simp [hpS, Rst.hp])
  obtain ⟨hak, har⟩ := ha
  have hstep : (ps.map (·.1)).take (i + 1) = (ps.map (·.1)).take i ++ [p.1] := htk
  have hnext : ((ps.map (·.1)).take (i + 1)).foldl khq (s0, []) = khq (s, r.r) p.1 := by rw [hstep, List.foldl_append, ← hfold]; rfl
  refine zWq ?_
  refine qvq (α := S8 × Rst) (fun b => b.2.ok ∧ eats b.1 b.2.r = khq (s, r.r) p.1) (fun b => [(13, .int .i64 (i : Int)), (12, .int .i64 (ps.length : Int)), (11, .fz (ps.map vnq) 1 fl), (5, .int .u64 (yzq ((ps.map (·.1)).take (i + 1)) : Int)), (4, b.2.w), (3, .ptr 1 0), (2, .ptr 0 0)]) (fun b => hpS b.2 ktq b.1) (fun b => b.2.nw) (fun _ => R) (fun b => b.2.r.length) (s, a) ⟨hak, by simp only [khq, har]⟩ (Ent.refl) (fun b hb => ?_)
  obtain ⟨s', r'⟩ := b
  obtain ⟨hok', heat⟩ := hb
  simp only at hok' heat
  have done : r'.r.length < 64 → (s', r'.r) = ((ps.map (·.1)).take (i + 1)).foldl khq (s0, []) := fun h => by
   rw [hnext, ← heat, eats, qOq _ _ _ h]
  skip
  cases r' with
  | nil =>
   refine zuq (zuq (zfq (zbq rfl rfl (zbq rfl rfl (zbq rfl rfl (zCq ?_))))))
   refine zNq (co_false rfl (qIq ?_))
   refine jVq (by intro h; cases h) ?_
   refine qGq (by intro h; cases h) ?_
   refine x9q (qnq (by intro i h; cases h) ?_)
   refine zNq (zfq (zVq (i + 1) rfl rfl (by first | rfl | omega) ⟨by omega, by omega⟩ ?_))
   refine zbq rfl rfl (zCq ?_)
   refine yvq (i + 1, s', .nil) ⟨hi1, trivial, done (by show 0 < 64; omega), (by show 0 < 64; omega)⟩ (by simp only; omega) (ykq ⟨rfl, rfl, rfl, rfl, rfl, rfl, rfl, trivial⟩ rfl rfl)
  | sl all base off =>
   obtain ⟨ho1, ho2⟩ := hok'
   have hrl : (Rst.sl all base off).r.length = all.length - off := by simp [Rst.r]
   refine zuq (zuq (zfq (zbq rfl rfl (z2q rfl rfl (show _ = W.int .i64 ((all.length - off : Nat) : Int) by first | rfl | (simp [q2q]; done) | (simp [q2q]; rfl)) ?_))))
   refine zbq rfl rfl (zCq ?_)
   refine zNq ?_
   refine qwq rfl (fun hc2 => ?_) (fun hc2 => ?_)
   ·have h64 : 64 ≤ all.length - off := by
     have := hc2
     simp only [Bool.not_eq_true'] at this
     have := ltI_not.1 this
     omega
    have hpa : purW (.arr all.length 1 (bN all)) = true := x5q all
    have hby : ∀ k, k < 64 → ydq 50 (.arr all.length 1 (bN all)) (off + 0 * 1 + k * 1) 1 false = some (.int .u8 (.ofNat (atL (all.drop off) k))) := fun k hk => by
     have := bN_at (l := all) (i := off + k) (by omega)
     refine ymq ?_ rfl
     rw [Nat.zero_mul, Nat.add_zero, Nat.mul_one, this]
     simp [atL, List.getD, List.getElem?_drop]
    have hr' : (Rst.sl all off (off + 64)).r = ((Rst.sl all base off).r).drop 64 := by simp [Rst.r]
    refine yOq (zNq (zuq (zWq (zfq (zbq rfl rfl (zbq rfl (cut_hi (h := 64) rfl rfl rfl rfl rfl rfl rfl h64) ?_))))))
    (refine yNq rfl (j1q (ext := [1, 2]) (ws := [.ptr 0 0, .sl 1 base (off + 0 * 1) (64 - 0) 1 none]) rfl rfl rfl rfl rfl (fun R => block_s s' (atL (all.drop off)) (.arr all.length 1 (bN all)) base _ none 5 (zEq hpa) hby R) (by decide) (by intro b hb; simp only [List.mem_cons, List.not_mem_nil, or_false] at hb; show b < 3; omega) (by simp) (handed2 rfl (by rw [yMq hpa]; rfl) rfl (zEq hpa)) rfl ?_); rintro w hp1 nw1 ⟨rfl, rfl, rfl⟩)
    refine zCq ?_
    refine qnq (by intro i h; cases h) ?_
    refine zNq (zfq (zbq rfl rfl (zbq rfl (cut_lo (l := 64) rfl rfl rfl rfl rfl rfl rfl h64 rfl) (zbq rfl rfl (zCq ?_)))))
    refine yvq (qoq (atL (all.drop off)) s', .sl all off (off + 64)) ⟨⟨by omega, ho2⟩, ?_⟩ (by simp only [hr']; simp only [hrl, List.length_drop]; omega) (xOq (by omega) (Nat.le_refl _) ⟨rfl, rfl, rfl, rfl, ?_, rfl, rfl, trivial⟩ (by simp only [List.all_cons, List.all_nil, zEq hPp, Bool.and_true]; rfl) (klq ⟨⟨by show 2 < 3; omega, by show some (5, renW _ (W.arr all.length 1 (bN all))) = _; rw [yMq hpa], zEq hpa⟩, ⟨by show 1 < 3; omega, rfl, rfl⟩, ⟨by show 0 < 3; omega, rfl, rfl⟩, trivial⟩) (by simp [hpS, Rst.hp]))
    ·rw [hr', ← heat]
     exact (u3q (r := (Rst.sl all base off).r) (by rw [hrl]; exact h64)).symm
    ·show some (W.sl 2 off (off + 64 * 1) (all.length - off - 64) 1 (y4q 64 none)) = some (W.sl 2 off (off + 64) (all.length - (off + 64)) 1 none)
     rw [Nat.sub_sub]; rfl
   ·have h64 : all.length - off < 64 := by
     have := hc2
     simp only [Bool.not_eq_false'] at this
     have := ltI_iff.1 this
     omega
    refine qIq ?_
    refine jVq (by intro h; cases h) ?_
    refine qGq (by intro h; cases h) ?_
    refine x9q (qnq (by intro i h; cases h) ?_)
    refine zNq (zfq (zVq (i + 1) rfl rfl (by first | rfl | omega) ⟨by omega, by omega⟩ ?_))
    refine zbq rfl rfl (zCq ?_)
    refine yvq (i + 1, s', .sl all base off) ⟨hi1, ⟨ho1, ho2⟩, done (by rw [hrl]; exact h64), by simp only [hrl]; exact h64⟩ (by simp only; omega) (ykq ⟨rfl, rfl, rfl, rfl, rfl, rfl, rfl, trivial⟩ rfl rfl)
 ·simp only at hi hok hfold hr64
  obtain rfl : i = ps.length := by have := ltI_not.1 hc1; simp only at this; omega
  rw [show (ps.map (·.1)).take ps.length = ps.map (·.1) by rw [List.take_of_length_le (by simp)]] at hfold
  have hT : (ps.map (·.1)).take ps.length = ps.map (·.1) := by rw [List.take_of_length_le (by simp)]
  have hdt : ∀ (all : List Nat) (off : Nat), ((bN all).drop off).take (all.length - off) = bN (all.drop off) := fun all off => by
   rw [List.take_of_length_le (by simp [q2q])]; simp [bN, List.map_drop]
  have bapp : ∀ a b : List Nat, bN a ++ bN b = bN (a ++ b) := fun a b => by simp [bN]
  have apur : ∀ all : List Nat, purW (.arr all.length 1 (bN all)) = true := fun all => x5q all
  refine qIq ?_
  refine jVq (by intro h; cases h) ?_
  refine qGq (by intro h; cases h) ?_
  refine x9q (zNq ?_)
  refine co_cut (α := Unit) (fun _ => True) (fun _ => [(5, .int .u64 (yzq (ps.map (·.1)) : Int)), (4, .sl 2 0 0 (r.r ++ [128]).length 1 none), (3, .ptr 1 0), (2, .ptr 0 0)]) (fun _ => hpS (.sl (r.r ++ [128]) 0 0) ktq s) (fun _ => 3) ?_ (fun a ha => ?_)
  ·skip
   cases r with
   | nil =>
    refine zfq (zbq rfl rfl (zKq rfl rfl (zKq rfl (q3q rfl rfl (Zqq (news := bN [128]) (k := ti5) rfl rfl rfl rfl rfl (by simp [bN]) (by decide) (by decide))) ?_)))
    refine zbq rfl rfl (zCq ?_)
    refine ⟨rfl, (), trivial, ?_⟩
    exact jKq (b := 2) (k := 3) (by omega) (by omega) (by show 3 < 4; omega) ⟨⟨by show some (W.int .u64 ((yzq ((ps.map (·.1)).take ps.length) : Nat) : Int)) = _; rw [hT]; rfl, rfl⟩, ⟨rfl, rfl⟩, ⟨rfl, rfl⟩, ⟨rfl, rfl⟩, trivial⟩ ⟨⟨by omega, rfl, rfl⟩, ⟨by omega, rfl, rfl⟩, ⟨by omega, rfl, rfl⟩, trivial⟩ (by simp [hpS, Rst.hp])
   | sl all base off =>
    obtain ⟨ho1, ho2⟩ := hok
    simp only [Rst.r, List.length_drop] at hr64
    have hle : ((Rst.sl all base off).r ++ [128]).length = all.length - off + 1 := by simp [Rst.r]
    refine zfq (zbq rfl rfl (zKq rfl rfl (zKq rfl (q3q rfl rfl (jWq (news := bN [128]) (k := ti5) (v := .arr all.length 1 (bN all)) (off := off) rfl rfl rfl rfl rfl (by simp [bN]) (show (all.length - off + 1) * 1 ≤ 140737488355328 by omega) (show all.length - off + 1 ≤ 70368744177664 by omega) rfl (show all.length < off + (all.length - off + 1) * 1 by omega) rfl (k3q (by omega)))) ?_)))
    refine zbq rfl rfl (zCq ?_)
    refine ⟨rfl, (), trivial, ?_⟩
    refine jKq (b := 2) (k := 4) (by omega) (by omega) (by show 4 < 5; omega) ⟨⟨by show some (W.int .u64 ((yzq ((ps.map (·.1)).take ps.length) : Nat) : Int)) = _; rw [hT]; rfl, rfl⟩, ⟨?_, rfl⟩, ⟨rfl, rfl⟩, ⟨rfl, rfl⟩, trivial⟩ ⟨⟨by omega, ?_, zEq (apur _)⟩, ⟨by omega, rfl, rfl⟩, ⟨by omega, rfl, rfl⟩, trivial⟩ (by simp [hpS, Rst.hp])
    ·rw [hle]; rfl
    ·rw [yMq (apur _), hle, ← bapp]
     show some (5, W.arr ((all.length - off + 1) * 1) 1 (((bN all).drop off).take (all.length - off) ++ bN [128])) = _
     rw [hdt, Nat.mul_one]; rfl
  -- noughts
  have htm : ∀ n : Nat, ((n : Int)).tmod 64 = ((n % 64 : Nat) : Int) := fun n => by rw [Int.tmod_eq_emod_of_nonneg (by omega)]; omega
  have hA0 : (r.r ++ [128]).length ≤ 64 := by simp; omega
  generalize hA : r.r ++ [128] = A at *
  refine zuq (zWq ?_)
  refine qvq (α := Nat) (fun j => ∀ i, i < j → (A.length + i) % 64 ≠ 56) (fun j => [(5, .int .u64 (yzq (ps.map (·.1)) : Int)), (4, .sl 2 0 0 (A ++ List.replicate j 0).length 1 none), (3, .ptr 1 0), (2, .ptr 0 0)]) (fun j => hpS (.sl (A ++ List.replicate j 0) 0 0) ktq s) (fun _ => 3) (fun _ => R) (fun j => 64 - j) 0 (fun i hi => absurd hi (by omega)) (by rw [List.replicate_zero, List.append_nil]; exact Ent.refl) (fun j hj => ?_)
  have hj64 : j < 64 := by
   refine Nat.lt_of_not_le fun h => ?_
   have := hj ((56 + 64 - A.length % 64) % 64) (by omega)
   omega
  have hlj : (A ++ List.replicate j 0).length = A.length + j := by simp
  refine zuq (zuq (zfq (zbq rfl rfl (z2q rfl rfl (show _ = W.int .i64 ((A ++ List.replicate j 0).length : Int) by first | rfl | (simp [q2q]; done) | (simp [q2q]; rfl)) ?_))))
  refine z2q rfl rfl (congrArg (W.int .i64) (htm _)) (zbq rfl rfl (zCq ?_))
  refine zNq ?_
  refine qwq rfl (fun hc3 => ?_) (fun hc3 => ?_)
  ·have hne : (A.length + j) % 64 ≠ 56 := by
    have := hc3
    simp only [Bool.not_eq_true'] at this
    have := eqI_not.1 this
    rw [hlj] at this; omega
   refine yOq (zNq (zWq (zfq (zbq rfl rfl (zKq rfl rfl (zKq rfl (q3q rfl rfl (jWq (news := bN [0]) (k := ti5) (v := .arr (A ++ List.replicate j 0).length 1 (bN (A ++ List.replicate j 0))) (off := 0) rfl rfl rfl rfl rfl (by simp [bN]) (show ((A ++ List.replicate j 0).length + 1) * 1 ≤ 140737488355328 by omega) (show (A ++ List.replicate j 0).length + 1 ≤ 70368744177664 by omega) rfl (show (A ++ List.replicate j 0).length < 0 + ((A ++ List.replicate j 0).length + 1) * 1 by omega) rfl (k3q (by omega)))) ?_))))))
   refine zbq rfl rfl (zCq ?_)
   refine qnq (by intro i h; cases h) ?_
   have hrep : A ++ List.replicate (j + 1) 0 = (A ++ List.replicate j 0) ++ [0] := by rw [List.append_assoc, ← List.replicate_succ']
   refine yvq (j + 1) (fun i hi => ?_) (by omega) (jKq (b := 2) (k := 4) (by omega) (by omega) (by show 4 < 5; omega) ⟨⟨rfl, rfl⟩, ⟨?_, rfl⟩, ⟨rfl, rfl⟩, ⟨rfl, rfl⟩, trivial⟩ ⟨⟨by omega, ?_, zEq (apur _)⟩, ⟨by omega, rfl, rfl⟩, ⟨by omega, rfl, rfl⟩, trivial⟩ (by simp [hpS, Rst.hp]))
   ·rcases Nat.lt_succ_iff_lt_or_eq.1 hi with h | rfl
    ·exact hj i h
    ·exact hne
   ·rw [hrep]; exact mid1 _ 0
   ·rw [hrep]; exact mid2 _ 0
  ·have he : (A.length + j) % 64 = 56 := by
    have := hc3
    simp only [Bool.not_eq_false'] at this
    have := eqI_iff.1 this
    rw [hlj] at this; omega
   have hpz : padZ 64 A = A ++ List.replicate j 0 := padZ_spec 64 j A hj he (by omega)
   rw [← hpz]
   have hBl : (padZ 64 A).length < 200 := by rw [hpz, hlj]; omega
   have hB64 : (padZ 64 A).length % 64 = 56 := by rw [hpz, hlj]; exact he
   generalize hB : padZ 64 A = B at hBl hB64
   refine qIq ?_
   refine jVq (by intro h; cases h) ?_
   refine qGq (by intro h; cases h) ?_
   refine x9q (zNq (zuq (zuq (zfq (zbq rfl rfl (zCq ?_))))))
   refine zNq (zWq ?_)
   have h8 : ∀ k, k ≤ 8 → ((len8 (yzq (ps.map (·.1)))).take k).length = k := fun k hk => by simp [len8]; omega
   refine qvq (α := Nat) (fun k => k ≤ 8) (fun k => [(8, .int .i64 (56 - 8 * (k : Int))), (5, .int .u64 (yzq (ps.map (·.1)) : Int)), (4, .sl 2 0 0 (B ++ (len8 (yzq (ps.map (·.1)))).take k).length 1 none), (3, .ptr 1 0), (2, .ptr 0 0)]) (fun k => hpS (.sl (B ++ (len8 (yzq (ps.map (·.1)))).take k) 0 0) ktq s) (fun _ => 3) (fun _ => R) (fun k => 8 - k) 0 (Nat.zero_le _) (by rw [List.take_zero, List.append_nil]; exact ykq ⟨rfl, rfl, rfl, rfl, rfl, trivial⟩ rfl rfl) (fun k hk => ?_)
   refine zuq (zuq (zfq (zbq rfl rfl (zbq rfl rfl (zCq ?_)))))
   refine zNq ?_
   refine qwq rfl (fun hc4 => ?_) (fun hc4 => ?_)
   ·have hk8 : k < 8 := by
     have := hc4
     simp only [Bool.not_eq_true'] at this
     have := ltI_not.1 this
     omega
    have hLk := h8 k hk
    have hll : (B ++ (len8 (yzq (ps.map (·.1)))).take k).length = B.length + k := by rw [List.length_append, hLk]
    have hnx : B ++ (len8 (yzq (ps.map (·.1)))).take (k + 1) = (B ++ (len8 (yzq (ps.map (·.1)))).take k) ++ [Nat.shiftRight (8 * yzq (ps.map (·.1)) % 18446744073709551616) (min (56 - 8 * k) 64) % 256] := by
     rw [List.take_add_one, ← List.append_assoc]
     congr 1
     have hq : k = 0 ∨ k = 1 ∨ k = 2 ∨ k = 3 ∨ k = 4 ∨ k = 5 ∨ k = 6 ∨ k = 7 := by omega
     rcases hq with rfl | rfl | rfl | rfl | rfl | rfl | rfl | rfl <;> rfl
    have hw8 : q6q .i64 (56 - 8 * (k : Int) - 8) = 56 - 8 * (k : Int) - 8 := kZq (k := .i64) ⟨by omega, by omega⟩
    refine yOq (zNq (zuq (zWq (zfq (zbq rfl rfl (zbq rfl rfl (zbq rfl rfl (z2q rfl rfl (show W.int .i64 (56 - 8 * (k : Int)) = W.int .i64 ((56 - 8 * k : Nat) : Int) by congr 1; omega) ?_))))))))
    refine zbq rfl rfl (zbq rfl rfl (zKq rfl rfl (zKq rfl (q3q rfl rfl (jWq (news := bN [Nat.shiftRight (8 * yzq (ps.map (·.1)) % 18446744073709551616) (min (56 - 8 * k) 64) % 256]) (k := ti5) (v := .arr (B ++ (len8 (yzq (ps.map (·.1)))).take k).length 1 (bN (B ++ (len8 (yzq (ps.map (·.1)))).take k))) (off := 0) rfl rfl rfl rfl rfl (by simp [bN]) (show ((B ++ (len8 (yzq (ps.map (·.1)))).take k).length + 1) * 1 ≤ 140737488355328 by omega) (show (B ++ (len8 (yzq (ps.map (·.1)))).take k).length + 1 ≤ 70368744177664 by omega) rfl (show (B ++ (len8 (yzq (ps.map (·.1)))).take k).length < 0 + ((B ++ (len8 (yzq (ps.map (·.1)))).take k).length + 1) * 1 by omega) rfl (k3q (by omega)))) ?_)))
    refine zbq rfl rfl (zCq ?_)
    refine qnq (by intro i h; cases h) ?_
    refine zNq (zfq (zbq rfl rfl (z2q (w := W.int .i64 (q6q .i64 (56 - 8 * (k : Int) - 8))) rfl rfl (show _ = W.int .i64 (56 - 8 * ((k + 1 : Nat) : Int)) by rw [hw8]; congr 1; omega) ?_)))
    refine zbq rfl rfl (zCq ?_)
    refine yvq (k + 1) (by omega) (by omega) (jKq (b := 2) (k := 4) (by omega) (by omega) (by show 4 < 5; omega) ⟨⟨rfl, rfl⟩, ⟨rfl, rfl⟩, ⟨?_, rfl⟩, ⟨rfl, rfl⟩, ⟨rfl, rfl⟩, trivial⟩ ⟨⟨by omega, ?_, zEq (apur _)⟩, ⟨by omega, rfl, rfl⟩, ⟨by omega, rfl, rfl⟩, trivial⟩ (by simp [hpS, Rst.hp]))
    ·rw [hnx]; exact mid1 _ _
    ·rw [hnx]; exact mid2 _ _
   ·obtain rfl : k = 8 := by
     have := hc4
     simp only [Bool.not_eq_false'] at this
     have := ltI_iff.1 this
     omega
    have ht8 : (len8 (yzq (ps.map (·.1)))).take 8 = len8 (yzq (ps.map (·.1))) := rfl
    rw [ht8]
    have hMl : (B ++ len8 (yzq (ps.map (·.1)))).length = B.length + 8 := by simp [len8]
    have hsha : shaN (ps.map (·.1)) = digN (y5q (B ++ len8 (yzq (ps.map (·.1)))).length s (B ++ len8 (yzq (ps.map (·.1))))) := by
     simp only [shaN, ← hfold, hA, hB]
    generalize hM : B ++ len8 (yzq (ps.map (·.1))) = M at hMl hsha
    refine qIq ?_
    refine jVq (by intro h; cases h) ?_
    refine qGq (by intro h; cases h) ?_
    refine x9q (zNq (zuq (zWq ?_)))
    refine qvq (α := S8 × Nat × Nat) (fun b => b.2.2 ≤ M.length ∧ (M.length - b.2.2) % 64 = 0 ∧ y5q M.length s M = y5q (M.drop b.2.2).length b.1 (M.drop b.2.2)) (fun b => [(4, .sl 2 b.2.1 b.2.2 (M.length - b.2.2) 1 none), (3, .ptr 1 0), (2, .ptr 0 0)]) (fun b => hpS (.sl M b.2.1 b.2.2) ktq b.1) (fun _ => 3) (fun _ => R) (fun b => M.length - b.2.2) (s, 0, 0) ⟨Nat.zero_le _, by show (M.length - 0) % 64 = 0; omega, rfl⟩ (ykq ⟨rfl, rfl, rfl, trivial⟩ rfl rfl) (fun b hb5 => ?_)
    obtain ⟨s', base, off⟩ := b
    obtain ⟨ho, hmod, heat⟩ := hb5
    simp only at ho hmod heat
    refine zuq (zuq (zfq (zbq rfl rfl (z2q rfl rfl (show _ = W.int .i64 ((M.length - off : Nat) : Int) by first | rfl | (simp [q2q]; done) | (simp [q2q]; rfl)) ?_))))
    refine zbq rfl rfl (zCq ?_)
    refine zNq ?_
    refine qwq rfl (fun hc5 => ?_) (fun hc5 => ?_)
    ·have h1 : 1 ≤ M.length - off := by have := ltI_iff.1 hc5; omega
     have h64 : 64 ≤ M.length - off := by omega
     have hpa : purW (.arr M.length 1 (bN M)) = true := x5q M
     have hby : ∀ k, k < 64 → ydq 50 (.arr M.length 1 (bN M)) (off + 0 * 1 + k * 1) 1 false = some (.int .u8 (.ofNat (atL (M.drop off) k))) := fun k hk => by
      have := bN_at (l := M) (i := off + k) (by omega)
      refine ymq ?_ rfl
      rw [Nat.zero_mul, Nat.add_zero, Nat.mul_one, this]
      simp [atL, List.getD, List.getElem?_drop]
     refine yOq (zNq (zuq (zWq (zfq (zbq rfl rfl (zbq rfl (cut_hi (h := 64) rfl rfl rfl rfl rfl rfl rfl h64) ?_))))))
     (refine yNq rfl (j1q (ext := [1, 2]) (ws := [.ptr 0 0, .sl 1 base (off + 0 * 1) (64 - 0) 1 none]) rfl rfl rfl rfl rfl (fun R => block_s s' (atL (M.drop off)) (.arr M.length 1 (bN M)) base _ none 5 (zEq hpa) hby R) (by decide) (by intro b hb; simp only [List.mem_cons, List.not_mem_nil, or_false] at hb; show b < 3; omega) (by simp) (handed2 rfl (by rw [yMq hpa]; rfl) rfl (zEq hpa)) rfl ?_); rintro w hp1 nw1 ⟨rfl, rfl, rfl⟩)
     refine zCq ?_
     refine qnq (by intro i h; cases h) ?_
     refine zNq (zfq (zbq rfl rfl (zbq rfl (cut_lo (l := 64) rfl rfl rfl rfl rfl rfl rfl h64 rfl) (zbq rfl rfl (zCq ?_)))))
     refine yvq (qoq (atL (M.drop off)) s', off, off + 64) ⟨by simp only; omega, by simp only; omega, ?_⟩ (by simp only; omega) (xOq (by omega) (Nat.le_refl _) ⟨?_, rfl, rfl, trivial⟩ rfl (klq ⟨⟨by omega, by show some (5, renW _ (W.arr M.length 1 (bN M))) = _; rw [yMq hpa], zEq hpa⟩, ⟨by omega, rfl, rfl⟩, ⟨by omega, rfl, rfl⟩, trivial⟩) (by simp [hpS, Rst.hp]))
     ·rw [heat, kRq (by simp; omega), List.drop_drop]
     ·show some (W.sl 2 off (off + 64 * 1) (M.length - off - 64) 1 (y4q 64 none)) = some (W.sl 2 off (off + 64) (M.length - (off + 64)) 1 none)
      rw [Nat.sub_sub]; rfl
    ·have h0 : M.length - off = 0 := by have := ltI_not.1 hc5; omega
     have hend : y5q M.length s M = s' := by
      rw [heat, List.drop_of_length_le (by omega)]; rfl
     rw [hend] at hsha
     refine qIq ?_
     refine jVq (by intro h; cases h) ?_
     refine qGq (by intro h; cases h) ?_
     refine x9q (zNq (zuq (zuq (zfq (zbq rfl rfl (zCq ?_))))))
     refine zNq (zWq ?_)
     have htd4 : ∀ n : Nat, ((n : Int)).tdiv 4 = ((n / 4 : Nat) : Int) := fun n => by rw [Int.tdiv_eq_ediv_of_nonneg (by omega)]; omega
     have htm4 : ∀ n : Nat, ((n : Int)).tmod 4 = ((n % 4 : Nat) : Int) := fun n => by rw [Int.tmod_eq_emod_of_nonneg (by omega)]; omega
     refine qvq (α := Nat) (fun i => i ≤ 32) (fun i => [(64, .int .i64 (i : Int)), (3, .ptr 1 0), (2, .ptr 0 0)]) (fun i => hpS (.sl M base off) (.arr 32 1 (bN (dI s' i))) s') (fun _ => 3) (fun _ => R) (fun i => 32 - i) 0 (Nat.zero_le _) (ykq ⟨rfl, rfl, rfl, trivial⟩ rfl rfl) (fun i hi => ?_)
     refine zuq (zfq (zbq rfl rfl (zCq ?_)))
     refine zNq (zuq ?_)
     refine qwq rfl (fun hc6 => ?_) (fun hc6 => ?_)
     ·have hi32 : i < 32 := by have := ltI_iff.1 hc6; omega
      refine yOq (zNq (zuq (zWq (zuq (zfq (zbq rfl rfl (zbq rfl rfl (zCq ?_))))))))
      refine zNq (zfq (zbq rfl rfl (zbq rfl rfl (zVq (i / 4) rfl rfl (htd4 i) ⟨by omega, by omega⟩ ?_))))
      refine zbq rfl (zDq (i := i / 4) rfl rfl rfl rfl rfl rfl (by omega)) ?_
      refine zKq rfl (qcq rfl rfl rfl (ymq (S8_at s' (by omega)) rfl)) ?_
      refine zbq rfl rfl (z2q rfl rfl (congrArg (W.int .i64) (htm4 i)) (zVq (8 * (i % 4)) rfl rfl (by first | rfl | omega) ⟨by omega, by omega⟩ ?_))
      refine zVq (24 - 8 * (i % 4)) rfl rfl (by first | rfl | omega) ⟨by omega, by omega⟩ ?_
      refine zbq rfl rfl (zbq rfl rfl (zbq rfl (zDq (i := i) rfl rfl rfl rfl rfl rfl (by omega)) ?_))
      refine zKq rfl (j2q rfl rfl rfl rfl rfl (qkq (dI_at s' hi32) rfl rfl) rfl) (zCq ?_)
      refine qnq (by intro i h; cases h) ?_
      refine zNq (zfq ?_)
      first | refine ysq rfl rfl ⟨by omega, by omega⟩ ?_ | refine zbq rfl rfl ?_
      refine zbq rfl rfl (zCq ?_)
      refine yvq (i + 1) (by omega) (by omega) (ykq ⟨rfl, rfl, rfl, trivial⟩ ?_ rfl)
      exact congrArg (fun L => hpS (.sl M base off) (.arr 32 1 L) s') (dI_set s' hi32)
     ·obtain rfl : i = 32 := by have := ltI_not.1 hc6; omega
      refine qIq ?_
      refine jVq (by intro h; cases h) ?_
      refine qGq (by intro h; cases h) ?_
      refine x9q (zNq (zuq (zfq (zKq rfl rfl (zKq rfl rfl (zCq ?_))))))
      refine zNq (co_ret ?_)
      refine fin (.inr rfl) Ent.refl rfl ⟨rfl, ?_⟩
      rw [hsha]
      have : dI s' 32 = digN s' := by simp [dI, List.take_of_length_le, xoq]
      rw [← this]
end Go.Proofs.YtgeelfdgnehdnaaDoor
namespace Go.Proofs.YtgeelfdgnehdnaaDoor
open Go.RowKit
set_option linter.unusedSimpArgs false
set_option linter.unusedVariables false
mutual
theorem uzq {τ : Nat → Nat} {b : Nat} (h : ∀ i, i < b → τ i = i) : ∀ {w : W}, refB b w = true → renW τ w = w
 | .ptr c o, hw => by simp only [renW]; rw [h c (of_decide_eq_true hw)]
 | .sl c _ _ _ _ _, hw => by simp only [renW]; rw [h c (of_decide_eq_true hw)]
 | .fz l _ _, hw => by simp only [renW]; rw [jzq h (l := l) hw]
 | .fel x, hw => by simp only [renW]; rw [uzq h (w := x) hw]
 | .fn _ a c, hw => by
  simp only [refB, Bool.and_eq_true] at hw
  simp only [renW]; rw [jzq h (l := a) hw.1, jzq h (l := c) hw.2]
 | .iface _ v, hw => by simp only [renW]; rw [uzq h (w := v) hw]
 | .agg _ l, hw => by simp only [renW]; rw [jzq h (l := l) hw]
 | .arr _ _ l, hw => by simp only [renW]; rw [jzq h (l := l) hw]
 | .tup l, hw => by simp only [renW]; rw [jzq h (l := l) hw]
 | .undef, _ => rfl
 | .bool _, _ => rfl
 | .int _ _, _ => rfl
 | .str _, _ => rfl
 | .nilp, _ => rfl
 | .nils, _ => rfl
 | .nilm, _ => rfl
 | .yield _, _ => rfl
 | .nilf, _ => rfl
 | .nili, _ => rfl
theorem jzq {τ : Nat → Nat} {b : Nat} (h : ∀ i, i < b → τ i = i) : ∀ {l : List W}, refL b l = true → yRq τ l = l
 | [], _ => rfl
 | w :: l, hw => by
  simp only [refL, Bool.and_eq_true] at hw
  simp only [yRq]; rw [uzq h (w := w) hw.1, jzq h (l := l) hw.2]
end
mutual
theorem jBq {b c : Nat} (h : b ≤ c) : ∀ {w : W}, refB b w = true → refB c w = true
 | .ptr d o, hw => decide_eq_true (Nat.lt_of_lt_of_le (of_decide_eq_true hw) h)
 | .sl d _ _ _ _ _, hw => decide_eq_true (Nat.lt_of_lt_of_le (of_decide_eq_true hw) h)
 | .fz l _ _, hw => qUq h (l := l) hw
 | .fel x, hw => jBq h (w := x) hw
 | .fn _ a d, hw => by
  simp only [refB, Bool.and_eq_true] at hw ⊢
  exact ⟨qUq h hw.1, qUq h hw.2⟩
 | .iface _ v, hw => jBq h (w := v) hw
 | .agg _ l, hw => qUq h (l := l) hw
 | .arr _ _ l, hw => qUq h (l := l) hw
 | .tup l, hw => qUq h (l := l) hw
 | .undef, _ => rfl
 | .bool _, _ => rfl
 | .int _ _, _ => rfl
 | .str _, _ => rfl
 | .nilp, _ => rfl
 | .nils, _ => rfl
 | .nilm, _ => rfl
 | .yield _, _ => rfl
 | .nilf, _ => rfl
 | .nili, _ => rfl
theorem qUq {b c : Nat} (h : b ≤ c) : ∀ {l : List W}, refL b l = true → refL c l = true
 | [], _ => rfl
 | w :: l, hw => by
  simp only [refL, Bool.and_eq_true] at hw ⊢
  exact ⟨jBq h hw.1, qUq h hw.2⟩
end
noncomputable def gW (b e : Nat) : List W → W
 | [] => .nils
 | x :: r => .sl b 0 0 (x :: r).length e none
noncomputable def gH (b : Nat) (ty : TypeId) (e : Nat) : List W → HpW
 | [] => []
 | x :: r => [(b, ty, .arr ((x :: r).length * e) e (x :: r))]
noncomputable def evG : List W → EvW
 | [] => .gen
 | _ :: _ => .dirty
theorem gW_some {b e : Nat} {l : List W} (h : l ≠ []) : gW b e l = .sl b 0 0 l.length e none := by cases l with
 | nil => exact absurd rfl h
 | cons x r => rfl
theorem gH_some {b e : Nat} {ty : TypeId} {l : List W} (h : l ≠ []) : gH b ty e l = [(b, ty, .arr (l.length * e) e l)] := by cases l with
 | nil => exact absurd rfl h
 | cons x r => rfl
section
variable {C : Cfg} {nw : Nat} {ts tx ty : TypeId} {j k : TyI} {x : W} {news l : List W} {b : Nat} {H0 : HpW}
theorem hdel_pre {b : Nat} {x : TypeId × W} : ∀ {P : HpW}, (∀ p ∈ P, p.1 ≠ b) → hdel (P ++ [(b, x)]) b = P
 | [], _ => by
  show (match Nat.beq b b with | true => [] | false => _) = []
  rw [Nat.beq_refl]
 | (c, y) :: P, h => by
  have hc := h (c, y) (List.mem_cons_self ..)
  have e : Nat.beq c b = false := by
   cases q : Nat.beq c b with
   | true => exact absurd (Nat.eq_of_beq_eq_true q) hc
   | false => rfl
  show (match Nat.beq c b with | true => P ++ [(b, x)] | false => (c, y) :: hdel (P ++ [(b, x)]) b) = _
  rw [e]
  exact congrArg _ (hdel_pre fun p hp => h p (List.mem_cons_of_mem _ hp))
theorem ukq {b : Nat} {x : TypeId × W} : ∀ {P : HpW}, (∀ p ∈ P, p.1 ≠ b) → hget (P ++ [(b, x)]) b = some x
 | [], _ => by rw [List.nil_append, zqq, if_pos rfl]
 | (c, y) :: P, h => by
  rw [List.cons_append, zqq, if_neg fun e => h (c, y) (List.mem_cons_self ..) e]
  exact ukq fun p hp => h p (List.mem_cons_of_mem _ hp)
theorem vGq {c : Nat} {y : TypeId × W} {Q : HpW} : ∀ {P : HpW}, hget P c = some y → hget (P ++ Q) c = some y
 | [], h => by simp [hget] at h
 | (q, z) :: P, h => by
  rw [List.cons_append, zqq]
  rw [zqq] at h
  split at h
  ·rename_i h5; rw [if_pos h5]; exact h
  ·rename_i h5; rw [if_neg h5]; exact vGq h
theorem app_gr (P : HpW) {e : Nat} {hp : HpW} (he : e = k.size) (hj : C.ty ts = some j) (hd : j.d = .slice ty) (hk : C.ty ty = some k) (hz : Nat.beq k.size 0 = false) (hs : srcW C hp tx k.size x = some news) (hn : news ≠ []) (h1 : (l.length + news.length) * k.bytes ≤ 140737488355328) (h2 : l.length + news.length ≤ 70368744177664)
  (hg : hp = P ++ gH b ty e l) (hP : ∀ p ∈ P, p.1 ≠ b) :
  appW C hp nw ts tx (gW b e l) x = some (.sl nw 0 0 (l ++ news).length e none, (nw, ty, .arr ((l ++ news).length * e) e (l ++ news)) :: P, nw + 1, evG l) := by
 subst he
 have hk0 : 0 < k.size := by
  rcases Nat.eq_zero_or_pos k.size with h0 | h0
  ·rw [h0] at hz; cases hz
  ·exact h0
 have hnl : 0 < news.length := by cases news with
  | nil => exact absurd rfl hn
  | cons _ _ => simp
 cases l with
 | nil =>
  simp only [List.length_nil, Nat.zero_add] at h1 h2
  rw [show gW b k.size [] = .nils from rfl, Zqq hj hd hk hz hs hn h1 h2, hg, show gH b ty k.size [] = [] from rfl, List.append_nil]
  rfl
 | cons y r =>
  have hget : hget hp b = some (ty, .arr ((y :: r).length * k.size) k.size (y :: r)) := by rw [hg]; exact ukq hP
  rw [show gW b k.size (y :: r) = .sl b 0 0 (y :: r).length k.size none from rfl, jWq hj hd hk hz hs hn h1 h2 hget (by
   show (y :: r).length * k.size < 0 + ((y :: r).length + news.length) * k.size
   rw [Nat.zero_add]
   exact Nat.mul_lt_mul_of_pos_right (by omega) hk0) (by rw [Nat.beq_refl]) (yeq hk0 rfl rfl)]
  rw [hg, show gH b ty k.size (y :: r) = [(b, ty, .arr ((y :: r).length * k.size) k.size (y :: r))] from rfl, hdel_pre hP, List.length_append]
  rfl
theorem app_gr0 {hp : HpW} {e : Nat} (he : e = k.size) (hj : C.ty ts = some j) (hd : j.d = .slice ty) (hk : C.ty ty = some k) (hz : Nat.beq k.size 0 = false) (hs : srcW C hp tx k.size x = some []) : appW C hp nw ts tx (gW b e l) x = some (gW b e l, hp, nw, .gen) := by
 subst he
 cases l with
 | nil => exact app_nil0 hj hd hk hz hs
 | cons y r => exact Zpq hj hd hk hz hs
end
theorem view_g {b e : Nat} {ty : TypeId} {l : List W} {H0 : HpW} (he : 0 < e) (hl : purL l = true) (hP : ∀ p ∈ H0, p.1 ≠ b) : View (blkA (H0 ++ gH b ty e l)) (gW b e l) (.fz l e false) := by
 cases l with
 | nil => exact .nilfz
 | cons y r => exact .sl (c := .arr ((y :: r).length * e) e (y :: r)) (by
   unfold blkA
   rw [show H0 ++ gH b ty e (y :: r) = H0 ++ [(b, ty, .arr ((y :: r).length * e) e (y :: r))] from rfl, ukq hP]) hl (yeq he rfl rfl) (by intro h; cases h)
theorem view_sl {b e n : Nat} {ty : TypeId} {l : List W} {H0 : HpW} (he : 0 < e) (hn : n = l.length) (hl : purL l = true) : View (blkA ((b, ty, .arr (n * e) e l) :: H0)) (.sl b 0 0 n e none) (.fz l e false) := by
 subst hn
 exact .sl (c := .arr (l.length * e) e l) (by
   unfold blkA
   rw [zqq, if_pos rfl]) hl (yeq he rfl rfl) (by intro h; cases h)
section
variable {C : Cfg} {G : Nat → Option W} {m k0 : Nat} {rd : Bool} {fr fr2 : FrW} {hp hp' : HpW} {nw nw' : Nat} {R : Res} {Q : q5q} {c : Code}
theorem ent_up (hf : subF fr fr2) : Ent C G m k0 fr hp nw R fr2 hp (nw + 1) R := fun Γ X st hnw hmn s => by
 let Γ2 : Ctx := ⟨nw + 1, Γ.σ, Γ.D, Γ.h⟩
 have le : Γ.Le Γ2 := ⟨by rw [hnw]; exact Nat.le_succ _, fun _ _ => rfl, fun _ h => h, fun _ _ => rfl⟩
 refine ⟨Γ2, X, rfl, ⟨s.hh, fun t w hw => ?_, ⟨s.sat.wf, fun b ty w hb => ?_, s.sat.inj, s.sat.nd, s.sat.dX, s.sat.xlt, s.sat.dlt, s.sat.res, s.sat.gl⟩, s.ds, s.nd⟩, ⟨fun _ _ => rfl, fun h => Nat.le_trans h le.nw, Nat.le_refl _, fun _ _ _ _ => rfl, fun _ h => h, fun _ h => .inl h, fun b x _ h => ⟨x, h⟩, fun b x hb h => .inr ⟨b, x, hb, h, rfl⟩, fun _ h => .inl h, fun _ h _ _ => h⟩⟩
 ·obtain ⟨v, g3, g4⟩ := s.fr _ _ (ubq hf t w hw)
  exact ⟨v, g3, g4.mono le⟩
 ·obtain ⟨q1, q2, q3, v, q4, q5⟩ := s.sat.own _ _ _ hb
  exact ⟨Nat.lt_of_lt_of_le q1 le.nw, q2, q3, v, q4, q5.mono le⟩
theorem subR_low {k : Nat} : ∀ {l : FrW}, subF fr l → refF nw l → subR (tau1 nw k) (nw + 1) fr l
 | [], _, _ => trivial
 | (t, w) :: l, h, r => ⟨⟨by rw [uzq (fun i hi => jbq (by omega)) r.1]; exact h.1, jBq (Nat.le_succ _) r.1⟩, subR_low h.2 r.2⟩
theorem subRH_low {k : Nat} : ∀ {l : HpW}, subH hp nw l → subRH (tau1 nw k) (nw + 1) hp l
 | [], _ => trivial
 | (b, x) :: l, h => ⟨⟨Nat.lt_succ_of_lt h.1.1, by rw [jbq (by have := h.1.1; omega), uzq (fun i hi => jbq (by omega)) h.1.2.2]; exact h.1.2.1, jBq (Nat.le_succ _) h.1.2.2⟩, subRH_low h.2⟩
theorem subH_lt : ∀ {l : HpW}, subH hp nw l → ∀ p ∈ l, p.1 < nw
 | [], _, p, h => by simp at h
 | (b, x) :: l, h, p, hp => by
  rcases List.mem_cons.1 hp with rfl | hp
  ·exact h.1.1
  ·exact subH_lt h.2 p hp
theorem subH_mono : ∀ {l : HpW}, subH hp nw l → subH hp (nw + 1) l
 | [], _ => trivial
 | (b, x) :: l, h => ⟨⟨Nat.lt_succ_of_lt h.1.1, h.1.2.1, jBq (Nat.le_succ _) h.1.2.2⟩, subH_mono h.2⟩
theorem subRH_app {τ : Nat → Nat} {n : Nat} {b : HpW} : ∀ {a : HpW}, subRH τ n hp a → subRH τ n hp b → subRH τ n hp (a ++ b)
 | [], _, h => h
 | _ :: _, h, h2 => ⟨h.1, subRH_app h.2 h2⟩
theorem subH_app {n : Nat} {b : HpW} : ∀ {a : HpW}, subH hp n a → subH hp n b → subH hp n (a ++ b)
 | [], _, h => h
 | _ :: _, h, h2 => ⟨h.1, subH_app h.2 h2⟩
theorem nodup_g {H0 : HpW} {b e : Nat} {ty : TypeId} {l2 : List W} (hh : ∀ p ∈ H0, p.1 < b) (nd : (H0.map (·.1)).Nodup) : ((H0 ++ gH b ty e l2).map (·.1)).Nodup := by
 cases l2 with
 | nil => rw [show gH b ty e [] = [] from rfl, List.append_nil]; exact nd
 | cons x r =>
  rw [show gH b ty e (x :: r) = [(b, ty, .arr ((x :: r).length * e) e (x :: r))] from rfl, List.map_append, List.nodup_append]
  refine ⟨nd, by simp, fun a ha c hc q => ?_⟩
  obtain ⟨p, h1, h2⟩ := List.mem_map.1 ha
  have := hh p h1
  simp only [List.map_cons, List.map_nil, List.mem_cons, List.not_mem_nil, or_false] at hc
  omega
theorem u1q {b : Nat} {ty : TypeId} {e : Nat} {H0 : HpW} {l2 : List W} {n : Nat} (k s : Nat) (hm : m ≤ b) (hk : b ≤ k) (hk2 : k < nw) (hne : l2 ≠ []) (hs : getW fr s = some (.sl k 0 0 n e none)) (hn : n = l2.length) (hf : subF fr fr2) (hr : refF b fr2) (hg : hget hp k = some (ty, .arr (n * e) e l2)) (hp2 : purL l2 = true) (hh : subH hp b H0) (nd : (H0.map (·.1)).Nodup) :
  Ent C G m k0 fr hp nw R ((s, gW b e l2) :: fr2) (H0 ++ gH b ty e l2) (b + 1) R := by
 subst hn
 have hpa : purW (.arr (l2.length * e) e l2) = true := hp2
 refine jKq (b := b) (k := k) hm hk hk2 ?_ ?_ (nodup_g (subH_lt hh) nd)
 ·rw [gW_some hne]
  refine ⟨⟨?_, by simp [refB]⟩, subR_low hf hr⟩
  rw [hs]
  simp only [renW, xyq]
 ·rw [gH_some hne]
  refine subRH_app (subRH_low hh) ⟨⟨Nat.lt_succ_self _, ?_, zEq hpa⟩, trivial⟩
  rw [xyq, hg, yMq hpa]
theorem co_loopG1 {α : Type} (I : α → Prop) (s : Nat) (L : α → List W) (ty : TypeId) (e : Nat) (V : α → FrW) (kf : FrW) (H0 : HpW) (b k : Nat) (μ : α → Nat) (a0 : α) {n : Nat} (hk : subF fr kf) (h0 : I a0) (hv : subF fr (V a0)) (hm : m ≤ b) (hbk : b ≤ k) (hkn : k < nw) (hne : L a0 ≠ []) (hs : getW fr s = some (.sl k 0 0 n e none)) (hn : n = (L a0).length)
  (hr : refF b (V a0)) (hr2 : refF b kf) (hg : hget hp k = some (ty, .arr (n * e) e (L a0))) (hp2 : purL (L a0) = true) (hh : subH hp b H0) (nd : (H0.map (·.1)).Nodup)
  (step : ∀ a, I a → CoW C G m k0 rd c ((s, gW b e (L a)) :: (V a ++ kf)) (H0 ++ gH b ty e (L a)) (b + 1) R (x7q C G m k0 I (fun a => (s, gW b e (L a)) :: (V a ++ kf)) (fun a => H0 ++ gH b ty e (L a)) (fun _ => b + 1) (fun _ => R) μ (μ a) Q)) : CoW C G m k0 rd (.loop c) fr hp nw R Q :=
 qvq I (fun a => (s, gW b e (L a)) :: (V a ++ kf)) (fun a => H0 ++ gH b ty e (L a)) (fun _ => b + 1) (fun _ => R) μ a0 h0 (u1q k s hm hbk hkn hne hs hn (q8q hv hk) (xaq hr hr2) hg hp2 hh nd) step
theorem ueq {α : Type} {I : α → Prop} {s : Nat} {L : α → List W} {ty : TypeId} {e : Nat} {V : α → FrW} {kf : FrW} {H0 : HpW} {μ : α → Nat} {kk : Nat} {fr' : FrW} {l2 : List W} {n : Nat} (k : Nat) (a : α) (ha : I a) (hμ : μ a < kk) (hm : m ≤ nw) (hL : L a = l2) (hne : l2 ≠ []) (hk : nw ≤ k) (hk2 : k < nw') (hs : getW fr' s = some (.sl k 0 0 n e none)) (hn : n = l2.length)
  (hv : subF fr' (V a)) (hkf : subF fr' kf) (hr : refF nw (V a)) (hr2 : refF nw kf) (hg : hget hp' k = some (ty, .arr (n * e) e l2)) (hp2 : purL l2 = true) (hh : subH hp' nw H0) (nd : (H0.map (·.1)).Nodup) :
  x7q C G m k0 I (fun a => (s, gW nw e (L a)) :: (V a ++ kf)) (fun a => H0 ++ gH nw ty e (L a)) (fun _ => nw + 1) (fun _ => R) μ kk Q .normal fr' hp' nw' R := by
 subst hL
 exact yvq a ha hμ (u1q k s hm hk hk2 hne hs hn (q8q hv hkf) (xaq hr hr2) hg hp2 hh nd)
theorem refF_up : ∀ {q : FrW}, refF nw q → refF (nw + 1) q
 | [], _ => trivial
 | _ :: _, h => ⟨jBq (Nat.le_succ _) h.1, refF_up h.2⟩
theorem ent_same {b : Nat} {ty : TypeId} {e : Nat} {H0 : HpW} {l2 : List W} (s : Nat) (hm : m ≤ b) (hnw : b + 1 ≤ nw) (hs : getW fr s = some (gW b e l2)) (hf : subF fr fr2) (hr : refF b fr2) (hg : ∀ x r, l2 = x :: r → hget hp b = some (ty, .arr ((x :: r).length * e) e (x :: r))) (hp2 : purL l2 = true) (hh : subH hp b H0) (nd : (H0.map (·.1)).Nodup) :
  Ent C G m k0 fr hp nw R ((s, gW b e l2) :: fr2) (H0 ++ gH b ty e l2) (b + 1) R := by
 refine xOq (by omega) hnw ⟨hs, hf⟩ ?_ (klq (subH_app (subH_mono hh) ?_)) (nodup_g (subH_lt hh) nd)
 ·refine udq ⟨?_, refF_up hr⟩
  cases l2 with
  | nil => rfl
  | cons x r => simp [gW, refB]
 ·cases l2 with
  | nil => trivial
  | cons x r =>
   have hpa : purW (.arr ((x :: r).length * e) e (x :: r)) = true := hp2
   exact ⟨⟨Nat.lt_succ_self _, hg x r rfl, zEq hpa⟩, trivial⟩
theorem step_ownG {o : Oper} {post : W → HpW → Nat → Res → Option EvW → Prop} {x : Operand} {xs : Array Operand} {ats : Array TypeId} {f : FuncId} {a us c ws : List W} {Q : W → HpW → Nat → Prop} (ho : o.op = .call ⟨.value x, xs, ats⟩) (hx : evW C G fr x = some (.fn f a c)) (he : C.ext f = none) (hxs : evLW C G fr xs.toList = some us) (hws : a ++ us ++ c = ws) (hpw : purL ws = true) (sp : xRq C G f 0 ws [] Q)
  (hpost : ∀ w hp1 nw1, Q w hp1 nw1 → post (renW (numC [] nw) w) (renH (numC [] nw) hp1 ++ hp) (nw + nw1) R (some .gen)) : Step C G o fr hp nw R post := fun Γ X frv hnw s hf => by
 subst hnw
 obtain ⟨u, e1, e2⟩ := zRq hf s.gl hx
 obtain ⟨a', c', rfl, e3, e4⟩ := RV_fn.1 e2
 obtain ⟨us', e5, e6⟩ := kPq hf s.gl hxs
 have app : ∀ {l r : List W} {l' r' : List V}, RVL Γ l l' → RVL Γ r r' → RVL Γ (l ++ r) (l' ++ r') := fun {l} => by
  induction l with
  | nil => intro r l' r' h1 h2; simp only [RVL] at h1; subst h1; exact h2
  | cons w l ih =>
   intro r l' r' h1 h2
   simp only [RVL] at h1
   obtain ⟨v, vs, rfl, h3, h4⟩ := h1
   simp only [List.cons_append, RVL]
   exact ⟨v, vs ++ r', rfl, h3, ih h4 h2⟩
 have hv := app (app e3 e6) e4
 rw [hws, ← renWL_pur (τ := numC [] Γ.nw) hpw] at hv
 obtain ⟨n, v, Γ', w, hp1, nw1, g1, g2, g3, g4, g5, g6, g7, g8⟩ := call_spec (ext := []) sp s List.nodup_nil (by simp) (by simp) (fun i ty w h => by simp [hget] at h) (zEq (w := .tup ws) hpw) hv
 obtain ⟨k1, k2⟩ := Znq (C := C) ho frv Γ.h
 refine ⟨n, _, _, R, some .gen, v, Γ'.h, Γ', X, by rw [g3]; exact hpost w hp1 nw1 g2, ?_, ⟨k1, fun H1 e1' e2' => ?_⟩, rfl, g4, g5, g6, g7⟩
 ·simp only [opV, k1, k2]
  simp only [ho, qDq, e1, e5, he]
  exact g1
 ·have := g8 rfl e2'
  simp only [EvR, ho, evOf]
  rw [e1', Nat.ble_eq_true_of_le this]
variable {ops : Array Oper} {l : List Oper} {K : FrW → HpW → Nat → Res → Prop} {hp2 : HpW} {nw2 : Nat} {R2 : Res}
theorem op_ent (e : ∀ k0, Ent C G m k0 fr hp nw R fr2 hp2 nw2 R2) (h : OpW C G m ops l fr2 hp2 nw2 R2 K) : OpW C G m ops l fr hp nw R K := fun Γ X frv hnw hm s hf => by
 obtain ⟨Γ2, X2, e1, e2, e3⟩ := e 0 Γ X ⟨frv, Γ.h, [], false⟩ hnw hm ⟨rfl, hf, s, by simp, List.nodup_nil⟩
 obtain ⟨n, frv', Γ', X', fr', hp', R', g1, g2, g3, g4, g5⟩ := h Γ2 X2 frv e1 (e1 ▸ e3.mle (hnw ▸ hm)) e2.sat e2.fr
 have hh : Γ.h = Γ2.h := e2.hh
 exact ⟨n, frv', Γ', X', fr', hp', R', by rw [hh]; exact g1, g2, g3, e3.trans g4, g5⟩
theorem op_z {o : Oper} {k : IntKind} {z : Int} (z' : Int) (hw : yPq ops fr o = some true) (hx : yGq C G fr o.op = some (.int k (q6q k z))) (e : z = z') (hz : inK k z') (h : OpW C G m ops l (putW fr o.dst (.int k z')) hp nw R K) : OpW C G m ops (o :: l) fr hp nw R K := by
 subst e; exact ysq hw hx hz h
theorem op_grow {o : Oper} {ts tx ty : TypeId} {j k : TyI} {x y : Operand} {u : W} {xs news : List W} {b e d : Nat} {H0 : HpW} (P : HpW) (fr2 : FrW) (he : e = k.size) (hw : yPq ops fr o = some true) (ho : o.op = .call ⟨.builtin .append, #[x, y], #[ts, tx]⟩) (hd0 : o.dst = some d) (hx : evW C G fr x = some (gW b e xs)) (hy : evW C G fr y = some u)
  (hj : C.ty ts = some j) (hd : j.d = .slice ty) (hk : C.ty ty = some k) (hz : Nat.beq k.size 0 = false) (hs : srcW C hp tx k.size u = some news) (h1 : (xs.length + news.length) * k.bytes ≤ 140737488355328) (h2 : xs.length + news.length ≤ 70368744177664) (hg : hp = P ++ gH b ty e xs) (hP : ∀ p ∈ P, p.1 ≠ b) (hm : m ≤ b) (hb : b < nw)
  (hf : subF fr fr2) (hdf : getW fr2 d = none) (hr : refF b fr2) (hpx : purL (xs ++ news) = true) (hh : subH P b H0) (nd : (H0.map (·.1)).Nodup)
  (h : OpW C G m ops l ((d, gW b e (xs ++ news)) :: fr2) (H0 ++ gH b ty e (xs ++ news)) (b + 1) R K) : OpW C G m ops (o :: l) fr hp nw R K := by
 have hput : ∀ w, subF (putW fr o.dst w) fr2 := fun w => by
  rw [hd0]
  have key : ∀ {q : FrW}, subF fr q → getW q d = none → subF (putW fr (some d) w) q := fun {q} => by
   induction q with
   | nil => exact fun _ _ => trivial
   | cons p q ih =>
    obtain ⟨t, v⟩ := p
    intro h1 h2
    simp only [getW] at h2
    split at h2
    ·cases h2
    ·rename_i hne
     refine ⟨?_, ih h1.2 h2⟩
     show getW ((d, w) :: fr) t = some v
     have : Nat.beq d t = false := by
      cases hq : Nat.beq d t with
      | false => rfl
      | true =>
       have := Nat.eq_of_beq_eq_true hq
       subst this
       rw [Nat.beq_refl] at hne; cases hne
     simp only [getW, this]
     exact h1.1
  exact key hf hdf
 have front : ∀ {Q : HpW} {q : HpW}, subH P b q → subH (P ++ Q) b q := fun {Q q} => by
  induction q with
  | nil => exact fun _ => trivial
  | cons p q ih => exact fun h => ⟨⟨h.1.1, vGq h.1.2.1, h.1.2.2⟩, ih h.2⟩
 cases news with
 | nil =>
  have ha : opHW C G fr hp nw o.op = some (gW b e xs, hp, nw, .gen) := by rw [ho]; exact q3q hx hy (app_gr0 he hj hd hk hz hs)
  refine zKq hw ha ?_
  rw [List.append_nil] at h hpx
  refine op_ent (fun k0 => ent_same (b := b) (l2 := xs) d hm (by omega) (by rw [hd0]; show getW ((d, gW b e xs) :: fr) d = _; simp [getW]) (hput _) hr (fun x r hq => ?_) hpx (by rw [hg]; exact front hh) nd) h
  rw [hg, hq]
  exact ukq hP
 | cons z zs =>
  have ha : opHW C G fr hp nw o.op = some (.sl nw 0 0 (xs ++ z :: zs).length e none, (nw, ty, .arr ((xs ++ z :: zs).length * e) e (xs ++ z :: zs)) :: P, nw + 1, evG xs) := by
   rw [ho]; exact q3q hx hy (app_gr P he hj hd hk hz hs (by simp) h1 h2 hg hP)
  refine zKq hw ha ?_
  refine op_ent (fun k0 => u1q nw d hm (by omega) (Nat.lt_succ_self _) (by simp) (by rw [hd0]; show getW ((d, _) :: fr) d = _; simp [getW]) rfl (hput _) hr (by rw [zqq, if_pos rfl]) hpx ?_ nd) h
  have key : ∀ {q : HpW}, subH P b q → subH ((nw, ty, W.arr ((xs ++ z :: zs).length * e) e (xs ++ z :: zs)) :: P) b q := fun {q} => by
   induction q with
   | nil => exact fun _ => trivial
   | cons p q ih =>
    obtain ⟨c, y⟩ := p
    exact fun h => ⟨⟨h.1.1, by rw [zqq, if_neg (by have := h.1.1; omega)]; exact h.1.2.1, h.1.2.2⟩, ih h.2⟩
  exact key hh
end
end Go.Proofs.YtgeelfdgnehdnaaDoor
namespace Go.Proofs.YtgeelfdgnehdnaaDoor
open Go.RowKit
set_option linter.unusedSimpArgs false
set_option linter.unusedVariables false
attribute [local irreducible] CoW OpW FlW Step Spec
theorem bytes_bN (l : List UInt8) : zcq l = bN (l.map UInt8.toNat) := by simp [zcq, bN]
theorem shaN_l (ps : List (List Nat)) : (shaN ps).length = 32 := by simp [shaN, digN]
theorem shaN_lt (ps : List (List Nat)) : ∀ n ∈ shaN ps, n < 256 := fun n h => by
 simp only [shaN, digN, List.mem_map] at h
 obtain ⟨i, _, rfl⟩ := h
 exact Nat.mod_lt _ (by decide)
noncomputable def shaD (ps : List (List UInt8)) : Dig := ⟨(shaN (ps.map fun p => p.map UInt8.toNat)).map UInt8.ofNat, by simp [shaN_l]⟩
theorem bytes_of {l : List Nat} (h : ∀ n ∈ l, n < 256) : zcq (l.map UInt8.ofNat) = bN l := by
 rw [bytes_bN, List.map_map]
 congr 1
 conv => rhs; rw [← List.map_id l]
 refine List.map_congr_left fun n hn => ?_
 have := h n hn
 simp; omega
theorem sha_s (ps : List (List UInt8 × Bool)) (f : Bool) (hb : ((ps.map (·.1)).map List.length).foldr (· + ·) 0 < 2147483648) (hn : ps.length < 2147483648) : PS cfg glK 44 [.fz (ps.map fun p => .fz (zcq p.1) 1 p.2) 1 f] (dW (shaD (ps.map (·.1)))) := fun R => by
 have e1 : (ps.map fun p => (p.1.map UInt8.toNat, p.2)).map vnq = ps.map fun p => .fz (zcq p.1) 1 p.2 := by simp [vnq, bytes_bN]
 have e2 : (ps.map fun p => (p.1.map UInt8.toNat, p.2)).map (·.1) = (ps.map (·.1)).map fun p => p.map UInt8.toNat := by simp
 have h := of_s (ps.map fun p => (p.1.map UInt8.toNat, p.2)) f (by rw [e2]; show (List.map List.length _).foldr _ 0 < _; rw [List.map_map]; simpa [Function.comp_def] using hb) (by simpa using hn) R
 rw [e1, e2] at h
 have e3 : dW (shaD (ps.map (·.1))) = .arr 32 1 (bN (shaN ((ps.map (·.1)).map fun p => p.map UInt8.toNat))) := by
  show W.arr 32 1 (zcq _) = _
  rw [← bytes_of (shaN_lt _)]; rfl
 show Spec cfg glK _ 0 _ [] R fun w hp nw R' => R' = R ∧ w = dW (shaD (ps.map (·.1)))
 rw [e3]
 exact h
def jEq (p : List UInt8) : List UInt8 := beB 4 (p.length % 4294967296) ++ p
def tagB (kind : UInt8) (ps : List (List UInt8)) : List UInt8 := kind :: ps.flatMap jEq
variable {G : Nat → Option W}
@[simp] theorem bWs_pur (ps : List (List UInt8)) : purL (ps.map bW) = true := uJq (fun x => by simp) ps
theorem Zhq {m : Nat} : ∀ {ps : List (List UInt8)} (i : Nat), (∀ p ∈ ps, p.length < m) → ((ps.take i).flatMap jEq).length ≤ i * (m + 4)
 | [], i, _ => by simp
 | p :: ps, 0, _ => by simp
 | p :: ps, i + 1, h => by
  have h1 := Zhq (ps := ps) i fun q hq => h q (List.mem_cons_of_mem _ hq)
  have h2 := h p (List.mem_cons_self ..)
  simp only [List.take_succ_cons, List.flatMap_cons, List.length_append, jEq, jiq, Nat.succ_mul]
  omega
theorem tbytes_s (kind : UInt8) (ps : List (List UInt8)) (f : Bool) (hn : ps.length < 1000000) (hb : ∀ p ∈ ps, p.length < 1000000) : PS cfg G 45 [.int .u8 (.ofNat kind.toNat), .fz (ps.map bW) 1 f] (bW (tagB kind ps)) := by
 have e : (ps.map bW).length = ps.length := List.length_map _
 refine ps_inV (fn := Tryd.f45) rfl rfl rfl (Nat.le_of_ble_eq_true rfl) (fun R k0 => ?_)
 refine yrq 16 rfl ?_
 refine z2q (w' := .int .i64 (ps.length : Int)) rfl rfl (by rw [← e]; rfl) ?_
 refine znq 4 rfl ?_
 refine co_loopG1 (α := Nat) (fun i => i ≤ ps.length) 5 (fun i => zcq (kind :: (ps.take i).flatMap jEq)) 5 1 (fun i => [(14, .int .i64 (i : Int))]) [(4, _), (12, _), (13, _)] ([]) 0 0 (fun i => ps.length - i) (0) ⟨rfl, rfl, rfl, trivial⟩ (Nat.zero_le _) ⟨rfl, trivial⟩ (by omega) (by omega) (by first | omega | decide) (by simp [zcq]) rfl (by simp [zcq]) (by repeat (first | exact trivial | refine ⟨by first | rfl | exact zEq (by first | rfl | (simp; done)), ?_⟩)) (by repeat (first | exact trivial | refine ⟨by first | rfl | exact zEq (by first | rfl | (simp; done)), ?_⟩)) rfl (by first | rfl | assumption | (simp; done)) (by repeat (first | exact trivial | refine ⟨⟨by decide, rfl, by first | rfl | exact zEq (by first | rfl | (simp; done))⟩, ?_⟩)) (by first | decide | simp) (fun i hI => ?_)
 refine yrq 6 rfl ?_
 refine qmq rfl (fun h1 => ?_) (fun h1 => ?_)
 ·have hi : i < ps.length := by omega
  obtain ⟨x, hx⟩ : ∃ x, ps[i]? = some x := ⟨_, List.getElem?_eq_getElem hi⟩
  have hxl := hb x (List.mem_of_getElem? hx)
  have hfl : ((ps.take i).flatMap jEq).length ≤ i * 1000004 := Zhq i hb
  have hL : (zcq (kind :: (ps.take i).flatMap jEq)).length ≤ 1 + i * 1000004 := by rw [zmq, List.length_cons]; omega
  have hN : (zcq (beB 4 x.length)).length = 4 := by rw [zmq, jiq]
  have hnx : zcq (kind :: (ps.take (i + 1)).flatMap jEq) = (zcq (kind :: (ps.take i).flatMap jEq) ++ zcq (beB 4 x.length)) ++ zcq x := by
   rw [List.take_add_one, hx, ← yxq, ← yxq]
   congr 1
   simp [jEq, Nat.mod_eq_of_lt (show x.length < 4294967296 by omega)]
  skip
  cases x with
  | nil =>
   refine zOq 6 rfl ?_
   refine zbq rfl (ynq (i := i) rfl rfl rfl rfl rfl rfl rfl (vyq bW hx)) ?_
   refine znq 7 rfl ?_
   refine z2q (w' := .int .i64 (([] : List UInt8).length : Int)) rfl rfl (by show W.int .i64 ((zcq (([] : List UInt8))).length : Int) = _; rw [zmq]) ?_
   first | refine ysq rfl rfl ⟨by omega, by omega⟩ ?_ | refine zbq rfl rfl ?_
   first | refine ysq rfl rfl ⟨by omega, by omega⟩ ?_ | refine zbq rfl rfl ?_
   (refine yNq rfl (ucq rfl rfl rfl rfl rfl rfl (put_s ([] : List UInt8).length 4 (by omega) (by omega) (by show ([] : List UInt8).length < 4294967296; omega)) ?_); rintro w hp1 nw1 ⟨rfl, rfl, rfl⟩)
   refine znq 10 rfl ?_
   refine zKq rfl (q3q rfl rfl (app_gr [_] (k := ti5) (news := zcq (beB 4 ([] : List UInt8).length)) rfl rfl rfl rfl rfl (k5q rfl rfl rfl (yeq (by decide) hN.symm rfl)) (by intro h; rw [h] at hN; cases hN) (by rw [hN]; show (_ + 4) * 1 ≤ _; omega) (by rw [hN]; omega) rfl (by simp [numC]))) ?_
   refine zbq rfl rfl (zKq rfl (q3q rfl rfl (Zpq (k := ti5) rfl rfl rfl rfl rfl)) ?_)
   refine znq 5 rfl ?_
   first | refine ysq rfl rfl ⟨by omega, by omega⟩ ?_ | refine zbq rfl rfl ?_
   refine jXq 2 rfl ?_
   exact ueq 2 (i + 1) (hi) (by omega) (Nat.zero_le _) (by rw [hnx]; exact List.append_nil _) (by first | assumption | (simp; done) | (simp [zcq]; done)) (by omega) (by first | omega | decide) rfl (by first | rfl | exact List.length_append.symm) ⟨rfl, trivial⟩ ⟨rfl, rfl, rfl, trivial⟩ (by repeat (first | exact trivial | refine ⟨by first | rfl | exact zEq (by first | rfl | (simp; done)), ?_⟩)) (by repeat (first | exact trivial | refine ⟨by first | rfl | exact zEq (by first | rfl | (simp; done)), ?_⟩)) rfl (by first | rfl | assumption | (simp; done)) (by repeat (first | exact trivial | refine ⟨⟨by decide, rfl, by first | rfl | exact zEq (by first | rfl | (simp; done))⟩, ?_⟩)) (by first | decide | simp)
  | cons c x =>
   refine zOq 6 rfl ?_
   refine zbq rfl (ynq (i := i) rfl rfl rfl rfl rfl rfl rfl (vyq bW hx)) ?_
   refine znq 7 rfl ?_
   refine z2q (w' := .int .i64 ((c :: x).length : Int)) rfl rfl (by show W.int .i64 ((zcq ((c :: x))).length : Int) = _; rw [zmq]) ?_
   first | refine ysq rfl rfl ⟨by omega, by omega⟩ ?_ | refine zbq rfl rfl ?_
   first | refine ysq rfl rfl ⟨by omega, by omega⟩ ?_ | refine zbq rfl rfl ?_
   (refine yNq rfl (ucq rfl rfl rfl rfl rfl rfl (put_s (c :: x).length 4 (by omega) (by omega) (by show (c :: x).length < 4294967296; omega)) ?_); rintro w hp1 nw1 ⟨rfl, rfl, rfl⟩)
   refine znq 10 rfl ?_
   refine zKq rfl (q3q rfl rfl (app_gr [_] (k := ti5) (news := zcq (beB 4 (c :: x).length)) rfl rfl rfl rfl rfl (k5q rfl rfl rfl (yeq (by decide) hN.symm rfl)) (by intro h; rw [h] at hN; cases hN) (by rw [hN]; show (_ + 4) * 1 ≤ _; omega) (by rw [hN]; omega) rfl (by simp [numC]))) ?_
   refine zbq rfl rfl (zKq rfl (q3q rfl rfl (jWq (k := ti5) (len := (zcq (kind :: (ps.take i).flatMap jEq) ++ zcq (beB 4 (c :: x).length)).length) (news := zcq (c :: x)) (olds := zcq (kind :: (ps.take i).flatMap jEq) ++ zcq (beB 4 (c :: x).length)) rfl rfl rfl rfl rfl (by simp [zcq]) (by rw [List.length_append, hN, zmq (c :: x)]; show (_ + _) * 1 ≤ _; omega) (by rw [List.length_append, hN, zmq (c :: x)]; omega) rfl (by show (_ ++ _ : List W).length * 1 < 0 + ((_ ++ _ : List W).length + (zcq (c :: x)).length) * 1; rw [zmq (c :: x), List.length_cons]; omega) rfl (yeq (by decide) rfl rfl))) ?_)
   refine znq 5 rfl ?_
   first | refine ysq rfl rfl ⟨by omega, by omega⟩ ?_ | refine zbq rfl rfl ?_
   refine jXq 2 rfl ?_
   exact ueq 3 (i + 1) (hi) (by omega) (Nat.zero_le _) (hnx) (by first | assumption | (simp; done) | (simp [zcq]; done)) (by omega) (by first | omega | decide) rfl (by first | rfl | exact List.length_append.symm) ⟨rfl, trivial⟩ ⟨rfl, rfl, rfl, trivial⟩ (by repeat (first | exact trivial | refine ⟨by first | rfl | exact zEq (by first | rfl | (simp; done)), ?_⟩)) (by repeat (first | exact trivial | refine ⟨by first | rfl | exact zEq (by first | rfl | (simp; done)), ?_⟩)) rfl (by first | rfl | assumption | (simp; done)) (by repeat (first | exact trivial | refine ⟨⟨by decide, rfl, by first | rfl | exact zEq (by first | rfl | (simp; done))⟩, ?_⟩)) (by first | decide | simp)
 ·have hi : i = ps.length := by omega
  subst hi
  refine zOq 2 rfl ?_
  refine qGq (by intro h; cases h) ?_
  refine qzq 9 rfl ?_
  refine vpq (by first | exact .inr rfl | exact .inl rfl) rfl ?_
  rw [List.take_length]
  exact view_g (H0 := []) (by decide) (by simp) (by simp)
theorem tag_le {m : Nat} (kind : UInt8) (ps : List (List UInt8)) (h : ∀ p ∈ ps, p.length < m) : (tagB kind ps).length ≤ 1 + ps.length * (m + 4) := by
 have := Zhq (m := m) ps.length h
 rw [List.take_length] at this
 simp only [tagB, List.length_cons]; omega
noncomputable def tagD (kind : UInt8) (ps : List (List UInt8)) : Dig := shaD [tagB kind ps]
theorem tagof_s (kind : UInt8) (ps : List (List UInt8)) (f : Bool) (hn : ps.length < 1000) (hb : ∀ p ∈ ps, p.length < 1000000) : PS cfg glK 19 [.int .u8 (.ofNat kind.toNat), .fz (ps.map bW) 1 f] (dW (tagD kind ps)) := by
 have hl := tag_le kind ps hb
 refine qXq (fn := Tryd.f19) rfl rfl rfl (Nat.le_of_ble_eq_true rfl) (fun R k0 => ?_)
 refine yrq 9 rfl ?_
 refine ySq rfl rfl rfl rfl rfl rfl (tbytes_s kind ps f (by omega) hb) ?_
 refine zKq rfl rfl ?_
 refine op_lk rfl rfl rfl rfl rfl (by (repeat (first | exact .nil | refine .cons ?_ ?_ | (refine .sl rfl ?_ rfl (by intro h; cases h); first | rfl | (focus (simp; done))) | (refine q7q rfl ?_ rfl; first | rfl | (focus (simp; done))) | (refine .pur ?_; first | rfl | (focus (simp; done)))))) (sha_s [(tagB kind ps, false)] false (by simp; omega) (by simp)) (by first | rfl | assumption | (simp; done)) (by first | rfl | assumption | (simp; done)) ?_
 refine znq 4 rfl ?_
 exact yUq (.inr rfl) rfl rfl
noncomputable def keyD (k : Dig) : Dig := tagD 3 [k.1]
theorem key_s (k : Dig) : PS cfg glK 11 [dW k] (dW (keyD k)) := by
 refine qXq (fn := Tryd.f11) rfl rfl rfl (Nat.le_of_ble_eq_true rfl) (fun R k0 => ?_)
 refine yrq 10 rfl ?_
 refine op_lk rfl rfl rfl rfl rfl (.cons (.pur rfl) (.cons (.sl2 (full := false) rfl (.arr (.cons (.sl (full := false) (xs := zcq k.1) rfl (by simp) (yeq (by decide) (by simp [zmq, k.2]) rfl) (by intro h; cases h)) .nil)) rfl (by intro h; cases h)) .nil)) (tagof_s 3 [k.1] false (by simp) (by simp [k.2])) (by first | rfl | assumption | (simp; done)) (by first | rfl | assumption | (simp; done)) ?_
 refine znq 4 rfl ?_
 exact yUq (.inr rfl) rfl rfl
end Go.Proofs.YtgeelfdgnehdnaaDoor
namespace Go.Proofs.YtgeelfdgnehdnaaDoor
open Go.RowKit
set_option linter.unusedSimpArgs false
set_option linter.unusedVariables false
theorem p32 : (4294967296 : Nat) = 2 ^ 32 := by decide
noncomputable def fz {α : Type} (n : Nat) (c : Nat → α) : α := Nat.rec (c 0) (fun m _ => c (Nat.succ m)) n
structure S8.Ok (s : S8) : Prop where
 a : s.a < 4294967296
 b : s.b < 4294967296
 c : s.c < 4294967296
 d : s.d < 4294967296
 e : s.e < 4294967296
 f : s.f < 4294967296
 g : s.g < 4294967296
 h : s.h < 4294967296
theorem kyq (a b : Nat) : addN a b < 4294967296 := Nat.mod_lt _ (by decide)
theorem rnd_ok {s : S8} (h : s.Ok) (k w : Nat) : (roundN k w s).Ok := ⟨kyq _ _, h.a, h.b, h.c, kyq _ _, h.e, h.f, h.g⟩
noncomputable def wS (bs : Nat → Nat) (i : Nat) : Nat := (z4q bs (i + 1)).getD i 0
attribute [local irreducible] wS in
theorem rounds_ok {s : S8} (h : s.Ok) (ws : List Nat) : ∀ t, (j5q ws s t).Ok
 | 0 => h
 | t + 1 => rnd_ok (rounds_ok h ws t) _ _
theorem word_eq {b0 b1 b2 b3 : Nat} (h0 : b0 < 256) (h1 : b1 < 256) (h2 : b2 < 256) (h3 : b3 < 256) : wordN b0 b1 b2 b3 = Nat.lor (Nat.lor (Nat.lor (Nat.shiftLeft b0 24) (Nat.shiftLeft b1 16)) (Nat.shiftLeft b2 8)) b3 := by
 have s : ∀ b n, b < 256 → n ≤ 24 → Nat.shiftLeft b n < 4294967296 := fun b n hb hn => by
  show b <<< n < 4294967296
  rw [Nat.shiftLeft_eq]
  have : 2 ^ n ≤ 2 ^ 24 := Nat.pow_le_pow_right (by decide) hn
  have := Nat.mul_le_mul (show b ≤ 255 by omega) this
  omega
 have e : ∀ b n, b < 256 → n ≤ 24 → shlN (b % 4294967296) n = Nat.shiftLeft b n := fun b n hb hn => by
  unfold shlN
  rw [Nat.min_eq_left (by omega), Nat.mod_eq_of_lt (show b < 4294967296 by omega), Nat.mod_eq_of_lt (s b n hb hn)]
 have o : ∀ a b, a < 4294967296 → b < 4294967296 → orN a b = Nat.lor a b := fun a b ha hb => by
  unfold orN
  rw [Nat.mod_eq_of_lt ha, Nat.mod_eq_of_lt hb]
 have ol : ∀ a b, a < 4294967296 → b < 4294967296 → Nat.lor a b < 4294967296 := fun a b ha hb => by
  rw [p32] at *
  exact Nat.or_lt_two_pow ha hb
 unfold wordN
 rw [e b0 24 h0 (by decide), e b1 16 h1 (by decide), e b2 8 h2 (by decide), Nat.mod_eq_of_lt (show b3 < 4294967296 by omega)]
 rw [o _ _ (s b0 24 h0 (by decide)) (s b1 16 h1 (by decide)), o _ _ (ol _ _ (s b0 24 h0 (by decide)) (s b1 16 h1 (by decide))) (s b2 8 h2 (by decide)), o _ _ (ol _ _ (ol _ _ (s b0 24 h0 (by decide)) (s b1 16 h1 (by decide))) (s b2 8 h2 (by decide))) (by omega)]
noncomputable def small (l : List Nat) : Prop := ∀ b ∈ l, b < 256
theorem small_at {l : List Nat} (h : small l) (i : Nat) : atL l i < 256 := by
 unfold atL
 rw [List.getD_eq_getElem?_getD]
 cases hq : l[i]? with
 | none => show (0 : Nat) < 256; decide
 | some b => exact h b (List.mem_of_getElem? hq)
theorem block_ok (s : S8) (bs : Nat → Nat) : (qoq bs s).Ok := ⟨kyq _ _, kyq _ _, kyq _ _, kyq _ _, kyq _ _, kyq _ _, kyq _ _, kyq _ _⟩
theorem pad_eq : ∀ (n : Nat) (r : List Nat), (120 - r.length % 64) % 64 ≤ n → padZ n r = r ++ List.replicate ((120 - r.length % 64) % 64) 0
 | 0, r, h => by
  rw [Nat.le_zero.1 h]; simp [padZ]
 | n + 1, r, h => by
  unfold padZ
  cases hb : Nat.beq (r.length % 64) 56 with
  | true =>
   have := Nat.eq_of_beq_eq_true hb
   rw [this]; simp
  | false =>
   have hne : r.length % 64 ≠ 56 := fun e => by rw [e] at hb; cases hb
   show padZ n (r ++ [0]) = _
   have hl : (r ++ [0]).length = r.length + 1 := by simp
   rw [pad_eq n (r ++ [0]) (by rw [hl]; omega), hl, List.append_assoc]
   have : (120 - r.length % 64) % 64 = (120 - (r.length + 1) % 64) % 64 + 1 := by omega
   rw [this]
   rfl
end Go.Proofs.YtgeelfdgnehdnaaDoor
namespace Go.Proofs.YtgeelfdgnehdnaaDoor
open Go.RowKit
set_option linter.unusedSimpArgs false
set_option linter.unusedVariables false
attribute [local irreducible] CoW OpW FlW Step Spec
variable {G : Nat → Option W}
noncomputable def rotT (x n : Nat) : Nat := orN (shrN x n) (shlN x (32 - n))
theorem rotT_eq {x n : Nat} (hn : n ≤ 32) : rotT x n = rotN x n := by
 unfold rotT rotN orN shrN shlN
 rw [Nat.min_eq_left hn, Nat.min_eq_left (Nat.sub_le _ _)]
 exact Nat.or_comm _ _
theorem y3q (n : Nat) (hn : n = 2 ∨ n = 6 ∨ n = 7 ∨ n = 11 ∨ n = 13 ∨ n = 17 ∨ n = 18 ∨ n = 19 ∨ n = 22 ∨ n = 25) (x : Nat) : PS cfg G 95 [wd x, wd n] (wd (rotN x n)) := by
 have key : ∀ h, y2q cfg 20 95 [.int .u32 (.ofNat x), .int .u32 (.ofNat n)] h = some (.int .u32 (.ofNat (rotT x n)), h) := by
  intro h
  rcases hn with rfl | rfl | rfl | rfl | rfl | rfl | rfl | rfl | rfl | rfl <;> kernel_rfl
 have e : rotT x n = rotN x n := rotT_eq (by omega)
 rw [e] at key
 refine pspec_mono (spec_run key (fun Γ us h => ?_) (fun Γ => RV_int.2 rfl)) fun w hp nw h => h.1
 obtain ⟨v, vs, rfl, h1, h2⟩ := RVL_cons.1 h
 obtain ⟨v', vs', rfl, h3, h4⟩ := RVL_cons.1 h2
 rw [RVL_nil.1 h4, RV_int.1 h1, RV_int.1 h3]
theorem sub_not {e : Nat} (he : e < 4294967296) : 4294967295 - e = notN e := by
 unfold notN
 rw [Nat.mod_eq_of_lt he]
 have h := BitVec.toNat_not (x := BitVec.ofNat 32 e)
 rw [← BitVec.allOnes_xor] at h
 simp only [BitVec.toNat_xor, BitVec.toNat_allOnes, BitVec.toNat_ofNat] at h
 rw [Nat.mod_eq_of_lt (show e < 2 ^ 32 from he)] at h
 exact h.symm
theorem wrap_not {e : Nat} (he : e < 4294967296) : W.int .u32 (q6q .u32 ((4294967295 : Int) - Int.ofNat e)) = wd (notN e) := by
 rw [← sub_not he]
 have : (4294967295 : Int) - Int.ofNat e = ((4294967295 - e : Nat) : Int) := by
  show (4294967295 : Int) - (e : Int) = _
  omega
 rw [this]
 show W.int .u32 (((4294967295 - e) % 4294967296 : Nat) : Int) = W.int .u32 ((4294967295 - e : Nat) : Int)
 rw [Nat.mod_eq_of_lt (by omega)]
theorem rround_s (v : S8) (hv : v.Ok) (k w : Nat) : PS cfg G 82 [.arr 8 1 v.l, wd k, wd w] (.arr 8 1 (roundN k w v).l) := by
 refine qXq (fn := Tryd.f82) rfl rfl rfl (Nat.le_of_ble_eq_true rfl) (fun R k0 => ?_)
 refine yrq 8 rfl ?_
 first | refine zaq rfl (ynq rfl rfl rfl rfl rfl rfl rfl (by first | assumption | (simp; done))) ?_ | refine zaq rfl (ytq rfl rfl rfl rfl rfl rfl rfl (by omega)) ?_ | refine zaq rfl (zDq rfl rfl rfl rfl rfl rfl (by omega)) ?_ | refine zaq rfl rfl ?_
 refine yBq rfl rfl ?_
 first | refine zaq rfl (ynq rfl rfl rfl rfl rfl rfl rfl (by first | assumption | (simp; done))) ?_ | refine zaq rfl (ytq rfl rfl rfl rfl rfl rfl rfl (by omega)) ?_ | refine zaq rfl (zDq rfl rfl rfl rfl rfl rfl (by omega)) ?_ | refine zaq rfl rfl ?_
 refine yBq rfl rfl ?_
 first | refine zaq rfl (ynq rfl rfl rfl rfl rfl rfl rfl (by first | assumption | (simp; done))) ?_ | refine zaq rfl (ytq rfl rfl rfl rfl rfl rfl rfl (by omega)) ?_ | refine zaq rfl (zDq rfl rfl rfl rfl rfl rfl (by omega)) ?_ | refine zaq rfl rfl ?_
 refine yBq rfl rfl ?_
 first | refine zaq rfl (ynq rfl rfl rfl rfl rfl rfl rfl (by first | assumption | (simp; done))) ?_ | refine zaq rfl (ytq rfl rfl rfl rfl rfl rfl rfl (by omega)) ?_ | refine zaq rfl (zDq rfl rfl rfl rfl rfl rfl (by omega)) ?_ | refine zaq rfl rfl ?_
 refine yBq rfl rfl ?_
 first | refine zaq rfl (ynq rfl rfl rfl rfl rfl rfl rfl (by first | assumption | (simp; done))) ?_ | refine zaq rfl (ytq rfl rfl rfl rfl rfl rfl rfl (by omega)) ?_ | refine zaq rfl (zDq rfl rfl rfl rfl rfl rfl (by omega)) ?_ | refine zaq rfl rfl ?_
 refine yBq rfl rfl ?_
 first | refine zaq rfl (ynq rfl rfl rfl rfl rfl rfl rfl (by first | assumption | (simp; done))) ?_ | refine zaq rfl (ytq rfl rfl rfl rfl rfl rfl rfl (by omega)) ?_ | refine zaq rfl (zDq rfl rfl rfl rfl rfl rfl (by omega)) ?_ | refine zaq rfl rfl ?_
 refine yBq rfl rfl ?_
 first | refine zaq rfl (ynq rfl rfl rfl rfl rfl rfl rfl (by first | assumption | (simp; done))) ?_ | refine zaq rfl (ytq rfl rfl rfl rfl rfl rfl rfl (by omega)) ?_ | refine zaq rfl (zDq rfl rfl rfl rfl rfl rfl (by omega)) ?_ | refine zaq rfl rfl ?_
 refine yBq rfl rfl ?_
 first | refine zaq rfl (ynq rfl rfl rfl rfl rfl rfl rfl (by first | assumption | (simp; done))) ?_ | refine zaq rfl (ytq rfl rfl rfl rfl rfl rfl rfl (by omega)) ?_ | refine zaq rfl (zDq rfl rfl rfl rfl rfl rfl (by omega)) ?_ | refine zaq rfl rfl ?_
 refine qKq 15 rfl ?_
 refine ySq rfl rfl rfl rfl rfl rfl (y3q _ (by simp) _) ?_
 refine zbq rfl rfl (ySq rfl rfl rfl rfl rfl rfl (y3q _ (by simp) _) ?_)
 refine znq 2 rfl ?_
 refine ySq rfl rfl rfl rfl rfl rfl (y3q _ (by simp) _) ?_
 refine znq 6 rfl ?_
 refine z2q (w' := wd (notN v.e)) rfl rfl (wrap_not hv.e) ?_
 refine znq 14 rfl ?_
 refine ySq rfl rfl rfl rfl rfl rfl (y3q _ (by simp) _) ?_
 refine zbq rfl rfl (ySq rfl rfl rfl rfl rfl rfl (y3q _ (by simp) _) ?_)
 refine znq 2 rfl ?_
 refine ySq rfl rfl rfl rfl rfl rfl (y3q _ (by simp) _) ?_
 refine znq 35 rfl ?_
 exact yUq (.inr rfl) rfl rfl
end Go.Proofs.YtgeelfdgnehdnaaDoor
namespace Go.Proofs.YtgeelfdgnehdnaaDoor
open Go.RowKit
set_option linter.unusedSimpArgs false
set_option linter.unusedVariables false
attribute [local irreducible] CoW OpW FlW Step Spec
variable {G : Nat → Option W}
theorem words_s : PS cfg G 80 [] (.arr 64 1 (kW.map wd)) := by
 refine qXq (fn := Tryd.f80) rfl rfl rfl (Nat.le_of_ble_eq_true rfl) (fun R k0 => ?_)
 refine yrq 12 rfl ?_
 exact yUq (.inr rfl) rfl rfl
noncomputable def horn (bs : Nat → Nat) (t : Nat) : Nat → Nat
 | 0 => 0
 | i + 1 => addN (256 * horn bs t i % 4294967296) (bs (4 * t + i))
theorem horn_word {bs : Nat → Nat} (hb : ∀ i, bs i < 256) (t : Nat) : horn bs t 4 = wordN (bs (4 * t)) (bs (4 * t + 1)) (bs (4 * t + 2)) (bs (4 * t + 3)) := by
 have h0 := hb (4 * t)
 have h1 := hb (4 * t + 1)
 have h2 := hb (4 * t + 2)
 have h3 := hb (4 * t + 3)
 rw [word_eq h0 h1 h2 h3]
 have e1 := Nat.shiftLeft_add_eq_or_of_lt (i := 8) (b := bs (4 * t + 1)) (by omega) (bs (4 * t))
 have s : ∀ a i : Nat, Nat.shiftLeft a i = a * 2 ^ i := fun a i => Nat.shiftLeft_eq a i
 have o1 : Nat.lor (Nat.shiftLeft (bs (4 * t)) 24) (Nat.shiftLeft (bs (4 * t + 1)) 16) = bs (4 * t) * 16777216 + bs (4 * t + 1) * 65536 := by
  have := Nat.shiftLeft_add_eq_or_of_lt (i := 24) (b := bs (4 * t + 1) * 65536) (by omega) (bs (4 * t))
  rw [Nat.shiftLeft_eq] at this
  rw [s (bs (4 * t + 1)) 16]
  show bs (4 * t) <<< 24 ||| (bs (4 * t + 1) * 2 ^ 16) = _
  rw [Nat.shiftLeft_eq]
  exact this.symm
 have o2 : Nat.lor (bs (4 * t) * 16777216 + bs (4 * t + 1) * 65536) (Nat.shiftLeft (bs (4 * t + 2)) 8) = bs (4 * t) * 16777216 + bs (4 * t + 1) * 65536 + bs (4 * t + 2) * 256 := by
  have q : bs (4 * t) * 16777216 + bs (4 * t + 1) * 65536 = (bs (4 * t) * 256 + bs (4 * t + 1)) * 65536 := by rw [Nat.add_mul, Nat.mul_assoc]
  have := Nat.shiftLeft_add_eq_or_of_lt (i := 16) (b := bs (4 * t + 2) * 256) (by omega) (bs (4 * t) * 256 + bs (4 * t + 1))
  rw [Nat.shiftLeft_eq, show (2 : Nat) ^ 16 = 65536 from rfl] at this
  rw [s]
  show (bs (4 * t) * 16777216 + bs (4 * t + 1) * 65536) ||| (bs (4 * t + 2) * 256) = _
  rw [q]
  exact this.symm
 have o3 : Nat.lor (bs (4 * t) * 16777216 + bs (4 * t + 1) * 65536 + bs (4 * t + 2) * 256) (bs (4 * t + 3)) = bs (4 * t) * 16777216 + bs (4 * t + 1) * 65536 + bs (4 * t + 2) * 256 + bs (4 * t + 3) := by
  have q : bs (4 * t) * 16777216 + bs (4 * t + 1) * 65536 + bs (4 * t + 2) * 256 = (bs (4 * t) * 65536 + bs (4 * t + 1) * 256 + bs (4 * t + 2)) * 256 := by rw [Nat.add_mul, Nat.add_mul, Nat.mul_assoc, Nat.mul_assoc]
  have := Nat.shiftLeft_add_eq_or_of_lt (i := 8) (b := bs (4 * t + 3)) (by omega) (bs (4 * t) * 65536 + bs (4 * t + 1) * 256 + bs (4 * t + 2))
  rw [Nat.shiftLeft_eq, show (2 : Nat) ^ 8 = 256 from rfl] at this
  show (bs (4 * t) * 16777216 + bs (4 * t + 1) * 65536 + bs (4 * t + 2) * 256) ||| bs (4 * t + 3) = _
  rw [q]
  exact this.symm
 rw [o1, o2, o3]
 simp only [horn, addN]
 rw [show 4 * t + 0 = 4 * t from rfl]
 omega
end Go.Proofs.YtgeelfdgnehdnaaDoor
namespace Go.Proofs.YtgeelfdgnehdnaaDoor
open Go.RowKit
set_option linter.unusedSimpArgs false
set_option linter.unusedVariables false
attribute [local irreducible] CoW OpW FlW Step Spec
variable {G : Nat → Option W}
noncomputable def bsL (l : List UInt8) : Nat → Nat := atL (l.map UInt8.toNat)
theorem bsL_lt (l : List UInt8) (i : Nat) : bsL l i < 256 := small_at (fun b hb => by obtain ⟨c, _, rfl⟩ := List.mem_map.1 hb; exact c.toNat_lt) i
theorem bsL_at {l : List UInt8} {i : Nat} (h : i < l.length) : (zcq l)[i]? = some (.int .u8 ((bsL l i : Nat) : Int)) := by
 unfold zcq bsL atL
 rw [List.getElem?_map, List.getElem?_eq_getElem h]
 simp [List.getD, List.getElem?_eq_getElem h]
theorem pad0_snoc {L : List Nat} {n : Nat} (h : L.length < n) : pad0 (L ++ [0]) n = pad0 L n := by
 unfold pad0
 rw [show n - L.length = (n - (L ++ [0]).length) + 1 by simp; omega, List.replicate_succ, List.append_assoc]
 rfl
theorem pad0_last {L : List Nat} {n x : Nat} (h : L.length < n) : ((pad0 (L ++ [x]) n).map wd)[L.length]? = some (wd x) := by
 rw [pad0_at (by simp)]
 simp [List.getD]
theorem pad0_turn {L : List Nat} {n x y : Nat} (h : L.length < n) : ((pad0 (L ++ [x]) n).map wd).set L.length (wd y) = (pad0 (L ++ [y]) n).map wd := by
 rw [← List.map_set]
 congr 1
 unfold pad0
 rw [show (L ++ [x]).length = (L ++ [y]).length by simp, List.append_assoc, List.append_assoc, List.set_append_right _ _ (Nat.le_refl _), Nat.sub_self]
 rfl
noncomputable def schH (L : List Nat) : HpW := [(1, 133, .arr 64 1 ((pad0 L 64).map wd)), (0, 133, .arr 64 1 (List.replicate 64 (wd 0)))]
theorem sched_s (l : List UInt8) (f : Bool) (hl : l.length = 64) : PS cfg G 81 [.fz (zcq l) 1 f] (.arr 64 1 ((z4q (bsL l) 64).map wd)) := by
 obtain ⟨bs, eb⟩ : ∃ bs, bsL l = bs := ⟨_, rfl⟩
 have hb : ∀ i, bs i < 256 := fun i => by rw [← eb]; exact bsL_lt l i
 have hat : ∀ i, i < 64 → (zcq l)[i]? = some (.int .u8 ((bs i : Nat) : Int)) := fun i hi => by rw [← eb]; exact bsL_at (by omega)
 rw [eb]
 refine qXq (fn := Tryd.f81) rfl rfl rfl (Nat.le_of_ble_eq_true rfl) (fun R k0 => ?_)
 refine yrq 17 rfl ?_
 refine y7q (α := Nat) (fun t => t ≤ 16) (fun t => [(4, .int .i64 (t : Int))]) [(0, _), (2, _), (3, _)] (fun t => schH (z4q bs t)) (fun t => 16 - t) (0) ⟨rfl, rfl, rfl, trivial⟩ (Nat.zero_le _) ⟨rfl, trivial⟩ (rfl) (fun t hI => ?_)
 have hsl := j4q bs t
 refine yrq 7 rfl ?_
 refine qmq rfl (fun h1 => ?_) (fun h1 => ?_)
 ·have ht : t < 16 := by omega
  refine zOq 10 rfl ?_
  refine y7q (α := Nat) (fun i => i ≤ 4) (fun i => [(5, .int .i64 (i : Int))]) [(0, _), (2, _), (3, _), (4, _), (9, _), (10, _)] (fun i => schH (z4q bs t ++ [horn bs t i])) (fun i => 4 - i) (0) ⟨rfl, rfl, rfl, rfl, rfl, rfl, trivial⟩ (Nat.zero_le _) ⟨rfl, trivial⟩ (by show schH (z4q bs t) = schH (z4q bs t ++ [0]); unfold schH; rw [pad0_snoc (by omega)]) (fun i hI => ?_)
  have hc := hb (4 * t + i)
  have hL : ((pad0 (z4q bs t ++ [horn bs t i]) 64).map wd)[0 + t * 1]? = some (wd (horn bs t i)) := by have := pad0_last (L := z4q bs t) (n := 64) (x := horn bs t i) (by omega); rw [hsl] at this; rw [Nat.zero_add, Nat.mul_one]; exact this
  refine yrq 7 rfl ?_
  refine qmq rfl (fun h2 => ?_) (fun h2 => ?_)
  ·have hi : i < 4 := by omega
   have hset : ((pad0 (z4q bs t ++ [horn bs t i]) 64).map wd).set (0 + t * 1) (wd (horn bs t (i + 1))) = (pad0 (z4q bs t ++ [horn bs t (i + 1)]) 64).map wd := by have := pad0_turn (L := z4q bs t) (n := 64) (x := horn bs t i) (y := horn bs t (i + 1)) (by omega); rw [hsl] at this; rw [Nat.zero_add, Nat.mul_one]; exact this
   refine zOq 7 rfl ?_
   refine zaq rfl (zDq (i := t) rfl rfl rfl rfl rfl rfl (by omega)) ?_
   refine yKq rfl (qcq rfl rfl rfl (ymq hL rfl)) (by first | rfl | kernel_rfl) ?_
   refine uSq (w' := wd (256 * horn bs t i % 4294967296)) rfl rfl rfl ?_
   refine qKq 2 rfl ?_
   refine kcq (4 * t) rfl rfl (by first | rfl | omega) ⟨by omega, by omega⟩ ?_
   refine zaq rfl rfl (kcq (4 * t + i) rfl rfl (by first | rfl | omega) ⟨by omega, by omega⟩ ?_)
   refine zaq rfl (ynq (i := 4 * t + i) rfl rfl rfl rfl rfl rfl rfl (hat _ (by omega))) ?_
   refine yBq rfl rfl ?_
   refine kcq (bs (4 * t + i)) rfl rfl (by first | rfl | omega) ⟨by omega, by omega⟩ ?_
   refine uSq (w' := wd (horn bs t (i + 1))) rfl rfl rfl (zaq rfl (zDq (i := t) rfl rfl rfl rfl rfl rfl (by omega)) ?_)
   refine yKq rfl (j2q rfl rfl rfl rfl rfl (qkq hL rfl rfl) rfl) (by first | rfl | kernel_rfl) ?_
   refine qKq 5 rfl ?_
   refine zVq (i + 1) rfl rfl (by first | rfl | omega) ⟨by omega, by omega⟩ ?_
   refine jXq 2 rfl ?_
   skip
   exact qgq (i + 1) hi (by omega) ⟨rfl, trivial⟩ ⟨rfl, rfl, rfl, rfl, rfl, rfl, trivial⟩ (by unfold schH; exact congrArg (fun q => [(1, 133, W.arr 64 1 q), (0, 133, W.arr 64 1 (List.replicate 64 (wd 0)))]) hset)
  ·have hi : i = 4 := by omega
   subst hi
   have hnx : z4q bs (t + 1) = z4q bs t ++ [horn bs t 4] := by
    rw [horn_word hb]
    show z4q bs t ++ [j7q bs (z4q bs t)] = _
    unfold j7q
    rw [hsl, show Nat.blt t 16 = true from Nat.ble_eq_true_of_le ht]
   refine zOq 2 rfl ?_
   refine qGq (by intro h; cases h) ?_
   refine qzq 5 rfl ?_
   refine zVq (t + 1) rfl rfl (by first | rfl | omega) ⟨by omega, by omega⟩ ?_
   refine jXq 2 rfl ?_
   skip
   exact qgq (t + 1) ht (by omega) ⟨rfl, trivial⟩ ⟨rfl, rfl, rfl, trivial⟩ (by rw [hnx])
 ·have ht : t = 16 := by omega
  subst ht
  refine zOq 2 rfl ?_
  refine qGq (by intro h; cases h) ?_
  refine qzq 9 rfl ?_
  refine y7q (α := Nat) (fun u => 16 ≤ u ∧ u ≤ 64) (fun u => [(6, .int .i64 (u : Int))]) [(2, _), (3, _)] (fun u => schH (z4q bs u)) (fun u => 64 - u) (16) ⟨rfl, rfl, trivial⟩ (⟨by omega, by omega⟩) ⟨rfl, trivial⟩ (rfl) (fun u hI => ?_)
  obtain ⟨g1, g2⟩ := hI
  have hsu := j4q bs u
  refine yrq 7 rfl ?_
  refine qmq rfl (fun h2 => ?_) (fun h2 => ?_)
  ·have hu : u < 64 := by omega
   obtain ⟨L, eL⟩ : ∃ L, z4q bs u = L := ⟨_, rfl⟩
   rw [eL] at hsu ⊢
   have hat2 : ∀ i, i < u → ((pad0 L 64).map wd)[0 + i * 1]? = some (wd (L.getD i 0)) := fun i hi => by rw [Nat.zero_add, Nat.mul_one]; exact pad0_at (by omega)
   have hge : ((pad0 L 64).map wd)[0 + u * 1]? = some (wd 0) := by have := pad0_ge (l := L) (n := 64) (by omega); rw [hsu] at this; rw [Nat.zero_add, Nat.mul_one]; exact this
   have hnx : j7q bs L = addN (addN (addN (L.getD (u - 16) 0) (xorN (xorN (rotN (L.getD (u - 15) 0) 7) (rotN (L.getD (u - 15) 0) 18)) (shrN (L.getD (u - 15) 0) 3))) (L.getD (u - 7) 0)) (xorN (xorN (rotN (L.getD (u - 2) 0) 17) (rotN (L.getD (u - 2) 0) 19)) (shrN (L.getD (u - 2) 0) 10)) := by
    have hbl : Nat.blt u 16 = false := by
     cases hq : Nat.blt u 16 with
     | false => rfl
     | true => have := Nat.le_of_ble_eq_true hq; omega
    unfold j7q
    rw [hsu, hbl]
   have hset : ((pad0 L 64).map wd).set (0 + u * 1) (wd (j7q bs L)) = (pad0 (z4q bs (u + 1)) 64).map wd := by
    have := pad0_set (l := L) (n := 64) (x := j7q bs L) (by omega)
    rw [hsu] at this
    rw [Nat.zero_add, Nat.mul_one, this]
    show _ = (pad0 (z4q bs u ++ [j7q bs (z4q bs u)]) 64).map wd
    rw [eL]
   refine zOq 7 rfl ?_
   refine kcq (u - 15) rfl rfl (by first | rfl | omega) ⟨by omega, by omega⟩ ?_
   refine zaq rfl (zDq (i := u - 15) rfl rfl rfl rfl rfl rfl (by omega)) ?_
   refine yKq rfl (qcq rfl rfl rfl (ymq (hat2 (u - 15) (by omega)) rfl)) (by first | rfl | kernel_rfl) ?_
   refine zaq rfl rfl (kcq (u - 2) rfl rfl (by first | rfl | omega) ⟨by omega, by omega⟩ ?_)
   refine zaq rfl (zDq (i := u - 2) rfl rfl rfl rfl rfl rfl (by omega)) ?_
   refine yKq rfl (qcq rfl rfl rfl (ymq (hat2 (u - 2) (by omega)) rfl)) (by first | rfl | kernel_rfl) ?_
   refine qKq 7 rfl ?_
   refine kcq (u - 16) rfl rfl (by first | rfl | omega) ⟨by omega, by omega⟩ ?_
   refine zaq rfl (zDq (i := u - 16) rfl rfl rfl rfl rfl rfl (by omega)) ?_
   refine yKq rfl (qcq rfl rfl rfl (ymq (hat2 (u - 16) (by omega)) rfl)) (by first | rfl | kernel_rfl) ?_
   refine zaq rfl rfl ?_
   refine xKq rfl rfl rfl rfl rfl rfl (y3q _ (by simp) _) ?_
   refine zaq rfl rfl ?_
   refine xKq rfl rfl rfl rfl rfl rfl (y3q _ (by simp) _) ?_
   refine qKq 6 rfl ?_
   refine kcq (u - 7) rfl rfl (by first | rfl | omega) ⟨by omega, by omega⟩ ?_
   refine zaq rfl (zDq (i := u - 7) rfl rfl rfl rfl rfl rfl (by omega)) ?_
   refine yKq rfl (qcq rfl rfl rfl (ymq (hat2 (u - 7) (by omega)) rfl)) (by first | rfl | kernel_rfl) ?_
   refine qKq 2 rfl ?_
   refine xKq rfl rfl rfl rfl rfl rfl (y3q _ (by simp) _) ?_
   refine zaq rfl rfl ?_
   refine xKq rfl rfl rfl rfl rfl rfl (y3q _ (by simp) _) ?_
   refine qKq 4 rfl ?_
   refine uSq (w' := wd (j7q bs L)) rfl rfl (by rw [hnx]; rfl) ?_
   refine zaq rfl (zDq (i := u) rfl rfl rfl rfl rfl rfl (by omega)) ?_
   refine yKq rfl (j2q rfl rfl rfl rfl rfl (qkq hge rfl rfl) rfl) (by first | rfl | kernel_rfl) ?_
   refine qKq 5 rfl ?_
   refine zVq (u + 1) rfl rfl (by first | rfl | omega) ⟨by omega, by omega⟩ ?_
   refine jXq 2 rfl ?_
   skip
   exact qgq (u + 1) ⟨by omega, hu⟩ (by omega) ⟨rfl, trivial⟩ ⟨rfl, rfl, trivial⟩ (by unfold schH; exact congrArg (fun q => [(1, 133, W.arr 64 1 q), (0, 133, W.arr 64 1 (List.replicate 64 (wd 0)))]) hset)
  ·have hu : u = 64 := by omega
   subst hu
   refine zOq 2 rfl ?_
   refine qGq (by intro h; cases h) ?_
   refine qzq 9 rfl ?_
   have ep : pad0 (z4q bs 64) 64 = z4q bs 64 := by unfold pad0; rw [hsu]; simp
   exact yUq (.inr rfl) rfl (by rw [ep])
end Go.Proofs.YtgeelfdgnehdnaaDoor
namespace Go.Proofs.YtgeelfdgnehdnaaDoor
open Go.RowKit
set_option linter.unusedSimpArgs false
set_option linter.unusedVariables false
attribute [local irreducible] CoW OpW FlW Step Spec
variable {G : Nat → Option W}
theorem rtwin_s (l : List UInt8) (f : Bool) (hl : l.length ≤ 70368744177664) : PS cfg G 8 [.fz (zcq l) 1 f] (bW l) := by
 refine ps_inV (fn := Tryd.f8) rfl rfl rfl (Nat.le_of_ble_eq_true rfl) (fun R k0 => ?_)
 cases l with
 | nil =>
  skip
  refine yrq 14 rfl ?_
  refine zKq rfl (q3q rfl rfl (app_nil0 rfl rfl rfl rfl rfl)) ?_
  refine znq 4 rfl ?_
  refine vpq (by first | exact .inr rfl | exact .inl rfl) rfl ?_
  (repeat (first | exact .nil | refine .cons ?_ ?_ | exact jkq | exact .nilfz | refine .fn ?_ ?_ | (refine q7q rfl ?_ rfl; (first | rfl | (focus (simp; done)))) | (refine .sl rfl ?_ rfl (by intro h; cases h); (first | rfl | (focus (simp; done)))) | (refine .pur ?_; (first | rfl | (focus (simp; done)))) | (refine .fzw ?_; (first | rfl | (focus (simp; done)))) | refine .agg ?_ | refine .arr ?_ | refine .tup ?_))
 | cons c l =>
  simp only [List.length_cons] at hl
  refine yrq 14 rfl ?_
  refine zKq rfl (q3q rfl rfl (Zqq (news := zcq (c :: l)) (k := ti5) rfl rfl rfl rfl rfl (by simp [zcq]) (by show (zcq (c :: l)).length * 1 ≤ _; rw [zmq]; simp only [List.length_cons]; omega) (by rw [zmq]; simp only [List.length_cons]; omega))) ?_
  refine znq 4 rfl ?_
  refine vpq (by first | exact .inr rfl | exact .inl rfl) rfl ?_
  exact view_sl (by decide) rfl (by simp)
@[simp] theorem psW_drop (ps : List Pr) (i : Nat) : purL ((ps.map pW).drop i) = true := by rw [← List.map_drop]; exact v7q _
@[simp] theorem psW_take (ps : List Pr) (i : Nat) : purL ((ps.map pW).take i) = true := by rw [← List.map_take]; exact v7q _
end Go.Proofs.YtgeelfdgnehdnaaDoor
namespace Go.Proofs.YtgeelfdgnehdnaaDoor
open Go.RowKit
set_option linter.unusedSimpArgs false
set_option linter.unusedVariables false
attribute [local irreducible] CoW OpW FlW Step Spec
variable {G : Nat → Option W}
theorem rnumber_s (l : List UInt8) (f : Bool) (hl : l.length ≤ 8) : PS cfg G 32 [.fz (zcq l) 1 f] (.int .u64 (numB l : Nat)) := by
 have e := zmq l
 refine qXq (fn := Tryd.f32) rfl rfl rfl (Nat.le_of_ble_eq_true rfl) (fun R k0 => ?_)
 refine yrq 17 rfl ?_
 refine co_loopK (α := Nat) (fun i => i ≤ l.length) (fun i => [(4, .int .i64 (i : Int)), (3, .int .u64 (numB (l.take i) : Nat))]) [(0, _), (2, _)] (fun i => l.length - i) (0) ⟨rfl, rfl, trivial⟩ (Nat.zero_le _) ⟨rfl, rfl, trivial⟩ (fun i hI => ?_)
 refine yrq 5 rfl ?_
 refine z2q (w' := .int .i64 (l.length : Int)) rfl rfl (by rw [← e]; rfl) ?_
 refine znq 3 rfl ?_
 refine qmq rfl (fun h1 => ?_) (fun h1 => ?_)
 ·have hi : i < l.length := by omega
  obtain ⟨c, hc⟩ : ∃ c, l[i]? = some c := ⟨_, List.getElem?_eq_getElem hi⟩
  have hcl := c.toNat_lt
  have hn := xXq (l := l) (i := i) (by omega)
  have ht := numB_take hc
  have hlt : numB (l.take (i + 1)) < 18446744073709551616 := by
   have h1 := numB_lt (l.take (i + 1))
   have h2 : 256 ^ (l.take (i + 1)).length ≤ 256 ^ (i + 1) := Nat.pow_le_pow_right (by omega) (by simp; omega)
   have h3 := pow256_le (i := i + 1) (by omega)
   omega
  refine zOq 6 rfl ?_
  refine zVq (256 * numB (l.take i)) rfl rfl (by first | rfl | omega) ⟨by omega, by omega⟩ ?_
  refine znq 2 rfl ?_
  refine zbq rfl (ynq (i := i) rfl rfl rfl rfl rfl rfl rfl (xrq hc)) (zKq rfl rfl (zVq (c.toNat) rfl rfl (by first | rfl | omega) ⟨by omega, by omega⟩ ?_))
  refine zVq (numB (l.take (i + 1))) rfl rfl (by rw [ht]; omega) ⟨by omega, by omega⟩ ?_
  refine znq 6 rfl ?_
  refine zVq (i + 1) rfl rfl (by first | rfl | omega) ⟨by omega, by omega⟩ ?_
  refine jXq 2 rfl ?_
  exact q_againK (i + 1) (hi) (by omega) ⟨rfl, rfl, trivial⟩ ⟨rfl, rfl, trivial⟩ (by repeat (first | exact trivial | refine ⟨by first | rfl | exact zEq (by first | rfl | (simp; done)), ?_⟩)) (by omega) (by repeat (first | exact vBq | refine vEq (by omega) ?_ | refine vCq (by omega) ?_ | refine vDq (by omega) ?_)) rfl
 ·have hi : i = l.length := by omega
  subst hi
  rw [List.take_length]
  refine zOq 2 rfl ?_
  refine q_outk (by intro h; cases h) ?_
  refine qzq 9 rfl ?_
  exact yUq (.inr rfl) rfl rfl
theorem xbq (n size : Nat) (hn : n < 18446744073709551616) (hs8 : size ≤ 8) : xRq cfg G 35 0 [.int .u64 (n : Int), .int .i64 (size : Int)] [] fun w hp nw =>
  w = .tup [.sl 0 0 0 size 1 none, .bool (decide (n / 256 ^ size = 0))] ∧ hp = [(0, 5, .arr (size * 1) 1 (zcq (beB size n)))] ∧ nw = 1 := by
 intro R
 refine xAq (fn := Tryd.f35) rfl rfl rfl (Nat.le_of_ble_eq_true rfl) (fun k0 => ?_)
 refine yrq 9 rfl ?_
 refine zKq rfl (Zcq (l := size) (c := size) rfl rfl rfl rfl rfl rfl rfl rfl (Nat.le_refl _) (by show 1 * size ≤ _; omega) (by omega) rfl rfl) ?_
 refine znq 7 rfl ?_
 refine op_z ((size : Int) - 1 - ((0 : Nat) : Int)) rfl rfl (by omega) ⟨by omega, by omega⟩ ?_
 refine znq 4 rfl ?_
 refine y7q (α := Nat × Nat) (fun p => p.1 ≤ size ∧ p.2 = n / 256 ^ p.1) (fun p => [(7, .int .i64 ((size : Int) - 1 - (p.1 : Int))), (0, .int .u64 (p.2 : Nat))]) [(4, _), (5, _), (6, _)] (fun p => [(0, 5, .arr (size * 1) 1 (zcq (List.replicate (size - p.1) 0 ++ beB p.1 n)))]) (fun p => size - p.1) ((0, n)) ⟨rfl, rfl, rfl, trivial⟩ (⟨Nat.zero_le _, by simp⟩) ⟨rfl, rfl, trivial⟩ (by simp only [be_zero]; rfl) (fun p hI => ?_)
 obtain ⟨i, q⟩ := p
 obtain ⟨g1, g2⟩ := hI
 simp only at g1 g2 ⊢
 have hlt : q < 18446744073709551616 := by rw [g2]; exact Nat.lt_of_le_of_lt (Nat.div_le_self _ _) hn
 refine yrq 7 rfl ?_
 refine qmq rfl (fun h1 => ?_) (fun h1 => ?_)
 ·have hi : i < size := by omega
  have hq : q / 256 = n / 256 ^ (i + 1) := by rw [g2, Nat.div_div_eq_div_mul, ← Nat.pow_succ]
  have hset := be_set n size i hi
  rw [← g2] at hset
  refine zOq 7 rfl ?_
  refine z2q (w' := .int .i64 ((size - 1 - i : Nat) : Int)) rfl rfl (by congr 1; omega) ?_
  refine zbq rfl rfl (z2q (w' := .int .u64 ((q % 256 : Nat) : Int)) rfl rfl (congrArg (W.int .u64) (tmod_nat q 256)) (zVq (q % 256) rfl rfl (by first | rfl | omega) ⟨by omega, by omega⟩ ?_))
  refine zbq rfl (ytq (i := size - 1 - i) rfl rfl rfl rfl rfl rfl rfl (by omega)) ?_
  refine zKq rfl (j2q rfl rfl rfl rfl rfl (qkq (be_at n size i hi) rfl rfl) (congrArg (fun L => [(0, 5, W.arr (size * 1) 1 L)]) hset)) ?_
  refine znq 4 rfl ?_
  refine zVq (q / 256) rfl rfl (tdiv_nat q 256) ⟨by omega, by omega⟩ ?_
  refine znq 6 rfl ?_
  refine op_z ((size : Int) - 1 - ((i + 1 : Nat) : Int)) rfl rfl (by omega) ⟨by omega, by omega⟩ ?_
  refine jXq 2 rfl ?_
  exact qgq ((i + 1, q / 256)) (⟨hi, hq⟩) (by simp only; omega) ⟨rfl, rfl, trivial⟩ ⟨rfl, rfl, rfl, trivial⟩ rfl
 ·have hi : i = size := by omega
  subst hi
  refine zOq 2 rfl ?_
  refine qGq (by intro h; cases h) ?_
  refine qzq 6 rfl ?_
  refine z2q (w' := .bool (decide (n / 256 ^ i = 0))) rfl rfl (congrArg W.bool (by rw [Bool.eq_iff_iff, eqI_iff, decide_eq_true_iff, ← g2]; omega)) ?_
  refine znq 5 rfl ?_
  refine fin (.inr rfl) Ent.refl rfl ⟨rfl, rfl, ?_, rfl⟩
  rw [Nat.sub_self]
  rfl
theorem rabytes_s (a : Acct) (h : a.ok) : PS cfg G 15 [aW a] (bW (kxq a)) := by
 have h1 : a.nonce < 18446744073709551616 := h.1
 have h2 : a.balance < 18446744073709551616 := h.2
 refine qXq (fn := Tryd.f15) rfl rfl rfl (Nat.le_of_ble_eq_true rfl) (fun R k0 => ?_)
 have l1 : (zcq (beB 8 a.nonce)).length = 8 := by rw [zmq, jiq]
 have l2 : (zcq (beB 8 a.balance)).length = 8 := by rw [zmq, jiq]
 refine yrq 10 rfl ?_
 ((refine yNq rfl (step_ownG rfl rfl rfl rfl rfl rfl (xbq _ 8 (by assumption) (by omega)) ?_); rintro w hp1 nw1 ⟨rfl, rfl, rfl⟩))
 refine znq 11 rfl ?_
 ((refine yNq rfl (step_ownG rfl rfl rfl rfl rfl rfl (xbq _ 8 (by assumption) (by omega)) ?_); rintro w hp1 nw1 ⟨rfl, rfl, rfl⟩))
 refine znq 11 rfl ?_
 refine zKq rfl (q3q rfl rfl (jWq (k := ti5) (len := 8) (news := zcq (beB 8 a.balance)) (olds := zcq (beB 8 a.nonce)) rfl rfl rfl rfl (k5q rfl rfl rfl (qTq (n := 8) (m := 8) l2.symm rfl)) (by intro h; rw [h] at l2; simp at l2) (by rw [l2]; decide) (by rw [l2]; decide) rfl (by show 8 * 1 < 0 + (8 + (zcq (beB 8 a.balance)).length) * 1; rw [l2]; omega) rfl (qTq (n := 8) (m := 8) l1.symm rfl))) ?_
 refine znq 4 rfl ?_
 refine uUq (fr2 := [(2, bW (kxq a))]) (.inr rfl) ⟨⟨_, rfl, .sl (xs := zcq (kxq a)) rfl (by simp) ?_ (by intro h; cases h)⟩, trivial⟩ rfl rfl
 rw [kxq, yxq, l2]
 exact qTq (n := 16) (by rw [List.length_append, l1, l2]) rfl
theorem raread_s (l : List UInt8) (f : Bool) : PS cfg G 10 [.fz (zcq l) 1 f] (.tup [aW (qVq l).1, .int .i64 ((qVq l).2 : Nat)]) := by
 have e := zmq l
 refine ps_inV (fn := Tryd.f10) rfl rfl rfl (Nat.le_of_ble_eq_true rfl) (fun R k0 => ?_)
 refine yrq 10 rfl ?_
 refine z2q (w' := .int .i64 (l.length : Int)) rfl rfl (by rw [← e]; rfl) ?_
 refine znq 3 rfl ?_
 refine qmq rfl (fun h1 => ?_) (fun h1 => ?_)
 ·have q : qVq l = (.zero, 10) := by unfold qVq; rw [if_pos (by omega)]
  rw [q]
  refine zOq 9 rfl ?_
  refine vpq (by first | exact .inr rfl | exact .inl rfl) rfl ?_
  (repeat (first | exact .nil | refine .cons ?_ ?_ | exact jkq | exact .nilfz | refine .fn ?_ ?_ | (refine q7q rfl ?_ rfl; (first | rfl | (focus (simp; done)))) | (refine .sl rfl ?_ rfl (by intro h; cases h); (first | rfl | (focus (simp; done)))) | (refine .pur ?_; (first | rfl | (focus (simp; done)))) | (refine .fzw ?_; (first | rfl | (focus (simp; done)))) | refine .agg ?_ | refine .arr ?_ | refine .tup ?_))
 refine zOq 6 rfl ?_
 refine z2q (w' := .int .i64 (l.length : Int)) rfl rfl (by rw [← e]; rfl) ?_
 refine znq 3 rfl ?_
 refine qmq rfl (fun h2 => ?_) (fun h2 => ?_)
 ·have q : qVq l = (.zero, 11) := by unfold qVq; rw [if_neg (by omega), if_pos (by omega)]
  rw [q]
  refine zOq 9 rfl ?_
  refine vpq (by first | exact .inr rfl | exact .inl rfl) rfl ?_
  (repeat (first | exact .nil | refine .cons ?_ ?_ | exact jkq | exact .nilfz | refine .fn ?_ ?_ | (refine q7q rfl ?_ rfl; (first | rfl | (focus (simp; done)))) | (refine .sl rfl ?_ rfl (by intro h; cases h); (first | rfl | (focus (simp; done)))) | (refine .pur ?_; (first | rfl | (focus (simp; done)))) | (refine .fzw ?_; (first | rfl | (focus (simp; done)))) | refine .agg ?_ | refine .arr ?_ | refine .tup ?_))
 have hl : l.length = 16 := by omega
 have q : qVq l = if (⟨numB (l.take 8), numB (l.drop 8)⟩ : Acct) = .zero then (.zero, 8) else (⟨numB (l.take 8), numB (l.drop 8)⟩, 0) := by unfold qVq; rw [if_neg (by omega), if_neg (by omega)]
 rw [q]
 refine zOq 5 rfl ?_
 refine zaq rfl (cut_fz (ys := zcq (l.take 8)) (l := 0) (h := 8) rfl rfl rfl rfl rfl rfl rfl (by omega) (by omega) (by rw [List.drop_zero, veq]) rfl) ?_
 refine xKq rfl rfl rfl rfl rfl rfl (rnumber_s _ _ (by simp; omega)) ?_
 refine zaq rfl rfl (zaq rfl (cut_fz (ys := zcq (l.drop 8)) (l := 8) (h := (zcq l).length) rfl rfl rfl rfl rfl rfl rfl (by omega) (Nat.le_refl _) (by rw [List.take_of_length_le (by simp), vfq]) rfl) ?_)
 refine xKq rfl rfl rfl rfl rfl rfl (rnumber_s _ _ (by simp; omega)) ?_
 refine qKq 10 rfl ?_
 refine op_dz rfl rfl (fun h3 => ?_) (fun h3 => ?_)
 ·have z1 : numB (l.take 8) = 0 := by omega
  refine znq 3 rfl ?_
  refine v8q rfl rfl ?_
  refine znq 3 rfl ?_
  refine qmq rfl (fun h4 => ?_) (fun h4 => ?_)
  ·have z2 : numB (l.drop 8) = 0 := by omega
   rw [if_pos (by rw [z1, z2]; rfl)]
   refine zOq 9 rfl ?_
   refine vpq (by first | exact .inr rfl | exact .inl rfl) rfl ?_
   (repeat (first | exact .nil | refine .cons ?_ ?_ | exact jkq | exact .nilfz | refine .fn ?_ ?_ | (refine q7q rfl ?_ rfl; (first | rfl | (focus (simp; done)))) | (refine .sl rfl ?_ rfl (by intro h; cases h); (first | rfl | (focus (simp; done)))) | (refine .pur ?_; (first | rfl | (focus (simp; done)))) | (refine .fzw ?_; (first | rfl | (focus (simp; done)))) | refine .agg ?_ | refine .arr ?_ | refine .tup ?_))
  ·have z2 : ¬ numB (l.drop 8) = 0 := by omega
   rw [if_neg fun h => z2 (by injection h)]
   refine zOq 10 rfl ?_
   refine vpq (by first | exact .inr rfl | exact .inl rfl) rfl ?_
   (repeat (first | exact .nil | refine .cons ?_ ?_ | exact jkq | exact .nilfz | refine .fn ?_ ?_ | (refine q7q rfl ?_ rfl; (first | rfl | (focus (simp; done)))) | (refine .sl rfl ?_ rfl (by intro h; cases h); (first | rfl | (focus (simp; done)))) | (refine .pur ?_; (first | rfl | (focus (simp; done)))) | (refine .fzw ?_; (first | rfl | (focus (simp; done)))) | refine .agg ?_ | refine .arr ?_ | refine .tup ?_))
 ·have z1 : ¬ numB (l.take 8) = 0 := by omega
  rw [if_neg fun h => z1 (by injection h)]
  refine znq 18 rfl ?_
  refine vpq (by first | exact .inr rfl | exact .inl rfl) rfl ?_
  (repeat (first | exact .nil | refine .cons ?_ ?_ | exact jkq | exact .nilfz | refine .fn ?_ ?_ | (refine q7q rfl ?_ rfl; (first | rfl | (focus (simp; done)))) | (refine .sl rfl ?_ rfl (by intro h; cases h); (first | rfl | (focus (simp; done)))) | (refine .pur ?_; (first | rfl | (focus (simp; done)))) | (refine .fzw ?_; (first | rfl | (focus (simp; done)))) | refine .agg ?_ | refine .arr ?_ | refine .tup ?_))
end Go.Proofs.YtgeelfdgnehdnaaDoor
namespace Go.Proofs.YtgeelfdgnehdnaaDoor
open Go.RowKit
set_option linter.unusedSimpArgs false
set_option linter.unusedVariables false
attribute [local irreducible] CoW OpW FlW Step Spec
variable {G : Nat → Option W}
def padJ (l : List UInt8) (j : Nat) : List UInt8 := l ++ [128] ++ List.replicate j 0
theorem xfq (l : List UInt8) (j : Nat) : (padJ l j).length = l.length + 1 + j := by simp [padJ]; omega
theorem padJ_next (l : List UInt8) (j : Nat) : zcq (padJ l (j + 1)) = zcq (padJ l j) ++ zcq [0] := by
 rw [← yxq]
 congr 1
 unfold padJ
 rw [List.append_assoc (l ++ [128]), ← List.replicate_succ']
noncomputable def padH (l : List UInt8) (j : Nat) : HpW := [(0, 5, .arr (padJ l j).length 1 (zcq (padJ l j)))]
def padR (l : List UInt8) : List UInt8 := padJ l ((119 - l.length % 64) % 64) ++ beB 8 (8 * l.length)
theorem padded_s (l : List UInt8) (f : Bool) (hl : l.length < 2147483648) : PS cfg G 79 [.fz (zcq l) 1 f] (bW (padR l)) := by
 have el : (zcq l).length = l.length := zmq l
 refine ps_inV (fn := Tryd.f79) rfl rfl rfl (Nat.le_of_ble_eq_true rfl) (fun R k0 => ?_)
 refine yrq 14 rfl ?_
 refine op_ent (fun _ => ent_up (fr2 := [(0, .fz (zcq l) 1 f), (2, .nils), (7, gW 0 1 []), (8, .fz (zcq l) 1 f)]) ⟨rfl, rfl, rfl, rfl, trivial⟩) ?_; refine op_grow (b := 0) (xs := []) (news := zcq l) (k := ti5) (H0 := []) [] [(0, .fz (zcq l) 1 f), (2, .nils)] rfl rfl rfl rfl rfl rfl rfl rfl rfl rfl rfl (by show (0 + (zcq l).length) * 1 ≤ _; omega) (by show 0 + (zcq l).length ≤ _; omega) rfl (by simp) (by omega) (by omega) ⟨rfl, rfl, trivial⟩ rfl ⟨zEq (show purW (.fz (zcq l) 1 f) = true from yYq l), rfl, trivial⟩ (by simp) trivial (by simp) ?_
 refine znq 7 rfl ?_
 refine op_grow (b := 0) (xs := zcq l) (news := zcq [128]) (k := ti5) (H0 := []) [_] [(0, .fz (zcq l) 1 f), (2, .nils)] rfl rfl rfl rfl rfl rfl rfl rfl rfl rfl (k5q rfl rfl rfl rfl) (by show ((zcq l).length + 1) * 1 ≤ _; omega) (by show (zcq l).length + 1 ≤ _; omega) rfl (by simp) (by omega) (by omega) ⟨rfl, rfl, trivial⟩ rfl ⟨zEq (show purW (.fz (zcq l) 1 f) = true from yYq l), rfl, trivial⟩ (by rw [← yxq]; simp) trivial (by simp) ?_
 refine znq 5 rfl ?_
 have e0 : zcq l ++ zcq [128] = zcq (padJ l 0) := by rw [← yxq]; congr 1; simp [padJ]
 have hne : zcq (padJ l 0) ≠ [] := fun h => by have := congrArg List.length h; rw [zmq, xfq] at this; simp at this
 have htm : ∀ n : Nat, ((n : Int)).tmod 64 = ((n % 64 : Nat) : Int) := fun n => by rw [Int.tmod_eq_emod_of_nonneg (by omega)]; omega
 refine qvq (α := Nat) (fun j => ∀ i, i < j → (l.length + 1 + i) % 64 ≠ 56) (fun j => [(3, .sl 0 0 0 (padJ l j).length 1 none), (0, .fz (zcq l) 1 f), (2, .nils)]) (fun j => padH l j) (fun _ => 1) (fun _ => R) (fun j => 64 - j) 0 (fun i hi => absurd hi (by omega)) (ykq ⟨by show some (gW 0 1 (zcq l ++ zcq [128])) = _; rw [e0, gW_some hne, zmq], rfl, rfl, trivial⟩ (by show [] ++ gH 0 5 1 (zcq l ++ zcq [128]) = padH l 0; rw [e0, gH_some hne, zmq, Nat.mul_one]; rfl) rfl) (fun j hj => ?_)
 skip
 have hj64 : j < 64 := by
  refine Nat.lt_of_not_le fun h => ?_
  have := hj ((56 + 64 - (l.length + 1) % 64) % 64) (by omega)
  omega
 have hlj := xfq l j
 refine yrq 4 rfl ?_
 refine z2q (w' := .int .i64 ((l.length + 1 + j : Nat) : Int)) rfl rfl (by rw [← hlj]; rfl) ?_
 refine z2q rfl rfl (congrArg (W.int .i64) (htm _)) ?_
 refine znq 3 rfl ?_
 refine qmq rfl (fun h1 => ?_) (fun h1 => ?_)
 ·have h1 : ¬ (((l.length + 1 + j) % 64 : Nat) : Int) = 56 := h1
  refine zOq 6 rfl ?_
  refine zKq rfl (q3q rfl rfl (jWq (k := ti5) (len := (padJ l j).length) (news := zcq [0]) (olds := zcq (padJ l j)) rfl rfl rfl rfl (k5q rfl rfl rfl rfl) (by simp [zcq]) (by show ((padJ l j).length + 1) * 1 ≤ _; omega) (by show (padJ l j).length + 1 ≤ _; omega) rfl (by show (padJ l j).length < 0 + ((padJ l j).length + 1) * 1; omega) rfl (yeq (by decide) (zmq _).symm (Nat.mul_one _).symm))) ?_
  refine znq 3 rfl ?_
  have hl2 : (padJ l j).length + 1 = (padJ l (j + 1)).length := by rw [xfq, xfq]; omega
  have hp : purW (.fz (zcq l) 1 f) = true := yYq l
  skip
  refine yvq (j + 1) (fun i hi => ?_) (show 64 - (j + 1) < 64 - j by omega) ?_
  ·rcases Nat.lt_succ_iff_lt_or_eq.1 hi with h | rfl
   ·exact hj i h
   ·omega
  ·refine jKq (b := 0) (k := 2) (by omega) (by omega) (by show 2 < 3; omega) ⟨⟨?_, rfl⟩, ⟨by rw [yMq hp]; rfl, zEq hp⟩, ⟨rfl, rfl⟩, trivial⟩ ⟨⟨by show 0 < 1; omega, ?_, zEq (show purW (.arr _ 1 (zcq _)) = true from yYq _)⟩, trivial⟩ (by show ([0] : List Nat).Nodup; simp)
   ·show some (W.sl 2 0 0 ((padJ l j).length + 1) 1 none) = some (W.sl 2 0 0 (padJ l (j + 1)).length 1 none)
    rw [hl2]
   ·show some (5, W.arr (((padJ l j).length + 1) * 1) 1 (zcq (padJ l j) ++ zcq [0])) = some (5, renW _ (W.arr (padJ l (j + 1)).length 1 (zcq (padJ l (j + 1)))))
    rw [yMq (show purW (.arr _ 1 (zcq _)) = true from yYq _), hl2, padJ_next, Nat.mul_one]
 ·have h56 : (l.length + 1 + j) % 64 = 56 := by omega
  obtain rfl : j = (119 - l.length % 64) % 64 := by omega
  generalize hj0 : (119 - l.length % 64) % 64 = j at *
  refine zOq 2 rfl ?_
  refine qGq (by intro h; cases h) ?_
  refine qzq 5 rfl ?_
  refine z2q (w' := .int .i64 (l.length : Int)) rfl rfl (by rw [← el]; rfl) ?_
  first | refine ysq rfl rfl ⟨by omega, by omega⟩ ?_ | refine zbq rfl rfl ?_
  refine zVq (8 * l.length) rfl rfl (by first | rfl | omega) ⟨by omega, by omega⟩ ?_
  refine znq 15 rfl ?_
  obtain ⟨n, en⟩ : ∃ n, n = 8 * l.length := ⟨_, rfl⟩
  rw [← en]
  have hn : n < 18446744073709551616 := by omega
  refine y7q (α := Nat × Nat) (fun p => p.1 ≤ 8 ∧ p.2 = n / 256 ^ p.1) (fun p => [(6, .int .i64 ((7 : Int) - (p.1 : Int))), (4, .int .u64 (p.2 : Nat))]) [(2, _), (3, _), (5, _)] (fun p => (1, 155, .arr 8 1 (zcq (List.replicate (8 - p.1) 0 ++ beB p.1 n))) :: padH l j) (fun p => 8 - p.1) ((0, n)) ⟨rfl, rfl, rfl, trivial⟩ (⟨Nat.zero_le _, by simp⟩) ⟨rfl, rfl, trivial⟩ (rfl) (fun p hI => ?_)
  obtain ⟨i, q⟩ := p
  obtain ⟨g1, g2⟩ := hI
  simp only at g1 g2 ⊢
  have hlt : q < 18446744073709551616 := by rw [g2]; exact Nat.lt_of_le_of_lt (Nat.div_le_self _ _) hn
  refine yrq 7 rfl ?_
  refine qmq rfl (fun h2 => ?_) (fun h2 => ?_)
  ·have hi : i < 8 := by omega
   have hq : q / 256 = n / 256 ^ (i + 1) := by rw [g2, Nat.div_div_eq_div_mul, ← Nat.pow_succ]
   have hset := be_set n 8 i hi
   rw [← g2] at hset
   refine zOq 6 rfl ?_
   refine z2q (w' := .int .i64 ((8 - 1 - i : Nat) : Int)) rfl rfl (by congr 1; omega) ?_
   refine zbq rfl rfl (z2q (w' := .int .u64 ((q % 256 : Nat) : Int)) rfl rfl (congrArg (W.int .u64) (tmod_nat q 256)) (zVq (q % 256) rfl rfl (by first | rfl | omega) ⟨by omega, by omega⟩ ?_))
   refine zbq rfl (zDq (i := 8 - 1 - i) rfl rfl rfl rfl rfl rfl (by omega)) ?_
   refine zKq rfl (j2q rfl rfl rfl rfl rfl (qkq (be_at n 8 i hi) rfl rfl) (congrArg (fun L => (1, 155, W.arr 8 1 L) :: padH l j) hset)) ?_
   refine znq 4 rfl ?_
   refine zVq (q / 256) rfl rfl (tdiv_nat q 256) ⟨by omega, by omega⟩ ?_
   refine znq 6 rfl ?_
   refine op_z ((7 : Int) - ((i + 1 : Nat) : Int)) rfl rfl (by omega) ⟨by omega, by omega⟩ ?_
   refine jXq 2 rfl ?_
   exact qgq ((i + 1, q / 256)) (⟨hi, hq⟩) (by simp only; omega) ⟨rfl, rfl, trivial⟩ ⟨rfl, rfl, rfl, trivial⟩ rfl
  ·have hi : i = 8 := by omega
   subst hi
   have hN : (zcq (beB 8 n)).length = 8 := by rw [zmq, jiq]
   refine zOq 2 rfl ?_
   refine qGq (by intro h; cases h) ?_
   refine qzq 6 rfl ?_
   refine zKq rfl (q3q rfl rfl (jWq (k := ti5) (len := (padJ l j).length) (news := zcq (beB 8 n)) (olds := zcq (padJ l j)) rfl rfl rfl rfl (k5q rfl rfl rfl (yeq (by decide) hN.symm rfl)) (by intro h; rw [h] at hN; cases hN) (by rw [hN]; show (_ + 8) * 1 ≤ _; omega) (by rw [hN]; omega) rfl (by rw [hN]; show (padJ l j).length < 0 + (_ + 8) * 1; omega) rfl (yeq (by decide) (zmq _).symm (Nat.mul_one _).symm))) ?_
   refine znq 4 rfl ?_
   have er : zcq (padR l) = zcq (padJ l j) ++ zcq (beB 8 n) := by unfold padR; rw [hj0, ← en, yxq]
   have el2 : (padR l).length = (padJ l j).length + (zcq (beB 8 n)).length := by rw [← zmq, er, List.length_append, zmq (padJ l j)]
   exact vpq (.inr rfl) rfl (.sl (full := false) (c := .arr (padR l).length 1 (zcq (padR l))) (xs := zcq (padR l)) (by show some (W.arr (((padJ l j).length + (zcq (beB 8 n)).length) * 1) 1 (zcq (padJ l j) ++ zcq (beB 8 n))) = _; rw [er, el2, Nat.mul_one]) (show purW (.arr _ 1 (zcq _)) = true from yYq _) (by rw [← el2]; exact yeq (by decide) (zmq _).symm (Nat.mul_one _).symm) (by intro h; cases h))
end Go.Proofs.YtgeelfdgnehdnaaDoor
namespace Go.Proofs.YtgeelfdgnehdnaaDoor
open Go.RowKit
set_option linter.unusedSimpArgs false
set_option linter.unusedVariables false
theorem next_congr {bs bs' : Nat → Nat} (h : ∀ i, i < 64 → bs i = bs' i) (L : List Nat) : j7q bs L = j7q bs' L := by
 unfold j7q
 cases hq : Nat.blt L.length 16 with
 | false => rfl
 | true =>
  have hn : L.length < 16 := Nat.le_of_ble_eq_true hq
  show wordN (bs (4 * L.length)) (bs (4 * L.length + 1)) (bs (4 * L.length + 2)) (bs (4 * L.length + 3)) = wordN (bs' (4 * L.length)) (bs' (4 * L.length + 1)) (bs' (4 * L.length + 2)) (bs' (4 * L.length + 3))
  rw [h (4 * L.length) (by omega), h (4 * L.length + 1) (by omega), h (4 * L.length + 2) (by omega), h (4 * L.length + 3) (by omega)]
theorem uuq {bs bs' : Nat → Nat} (h : ∀ i, i < 64 → bs i = bs' i) : ∀ n, z4q bs n = z4q bs' n
 | 0 => rfl
 | n + 1 => by
  have ih := uuq h n
  show z4q bs n ++ [j7q bs (z4q bs n)] = z4q bs' n ++ [j7q bs' (z4q bs' n)]
  rw [ih, next_congr h]
theorem vgq {bs bs' : Nat → Nat} (h : ∀ i, i < 64 → bs i = bs' i) (s : S8) : qoq bs s = qoq bs' s := by
 unfold qoq
 rw [uuq h]
theorem atL_app {a b : List Nat} {i : Nat} (h : i < a.length) : atL (a ++ b) i = atL a i := by
 unfold atL
 simp [List.getD, List.getElem?_append_left h]
theorem eats_app : ∀ (k : Nat) (s : S8) (b t : List Nat), b.length ≤ k → 1 ≤ t.length → y5q (b ++ t).length s (b ++ t) = y5q ((eats s b).2 ++ t).length (eats s b).1 ((eats s b).2 ++ t)
 | 0, s, b, t, hb, ht => by
  have e : eats s b = (s, b) := qOq _ _ _ (by omega)
  rw [e]
 | k + 1, s, b, t, hb, ht => by
  by_cases h : b.length < 64
  ·have e : eats s b = (s, b) := qOq _ _ _ h
   rw [e]
  ·have h64 : 64 ≤ b.length := by omega
   have ed : (b ++ t).drop 64 = b.drop 64 ++ t := List.drop_append_of_le_length h64
   rw [u3q h64, kRq (by rw [List.length_append]; omega), ed, vgq (fun i hi => atL_app (by omega)) s]
   exact eats_app k _ (b.drop 64) t (by rw [List.length_drop]; omega) ht
end Go.Proofs.YtgeelfdgnehdnaaDoor
namespace Go.Proofs.YtgeelfdgnehdnaaDoor
open Go.RowKit
set_option linter.unusedSimpArgs false
set_option linter.unusedVariables false
theorem eats_mod : ∀ (k : Nat) (s : S8) (b : List Nat), b.length ≤ k → (eats s b).2.length = b.length % 64
 | 0, s, b, hb => by
  have e : eats s b = (s, b) := qOq _ _ _ (by omega)
  rw [e]; show b.length = _; omega
 | k + 1, s, b, hb => by
  by_cases h : b.length < 64
  ·have e : eats s b = (s, b) := qOq _ _ _ h
   rw [e]; show b.length = _; omega
  ·have h64 : 64 ≤ b.length := by omega
   rw [u3q h64, eats_mod k _ _ (by rw [List.length_drop]; omega), List.length_drop]
   omega
theorem be8_len8 {n : Nat} (hn : n < 2147483648) : (beB 8 (8 * n)).map UInt8.toNat = len8 n := by
 have e : ∀ i, Nat.shiftRight (8 * n % 18446744073709551616) i % 256 = 8 * n / 2 ^ i % 256 := fun i => by
  have h8 : 8 * n % 18446744073709551616 = 8 * n := Nat.mod_eq_of_lt (by omega)
  rw [h8]
  show (8 * n) >>> i % 256 = _
  rw [Nat.shiftRight_eq_div_pow]
 have t : ∀ x : Nat, (UInt8.ofNat (x % 256)).toNat = x % 256 := fun x => by simp
 simp only [beB, len8, List.map_cons, List.map_nil, e, t]
theorem sha_one (l : List UInt8) (hl : l.length < 2147483648) : shaN [l.map UInt8.toNat] = digN (y5q ((padR l).map UInt8.toNat).length s0 ((padR l).map UInt8.toNat)) := by
 obtain ⟨b, eb⟩ : ∃ b, l.map UInt8.toNat = b := ⟨_, rfl⟩
 have el : b.length = l.length := by rw [← eb, List.length_map]
 have ht : yzq [b] = l.length := by show b.length + 0 = _; omega
 have hm := eats_mod b.length s0 b (Nat.le_refl _)
 have er : (padR l).map UInt8.toNat = b ++ ([128] ++ List.replicate ((119 - l.length % 64) % 64) 0 ++ len8 l.length) := by
  unfold padR padJ
  rw [List.map_append, List.map_append, List.map_append, be8_len8 hl, eb, List.append_assoc, List.append_assoc]
  simp [List.map_replicate]
 have ea : ([b].foldl khq (s0, [])) = eats s0 b := rfl
 rw [eb, er, eats_app b.length s0 b _ (Nat.le_refl _) (by simp)]
 have hp := pad_eq 64 ((eats s0 b).2 ++ [128]) (by omega)
 have hj : (120 - ((eats s0 b).2 ++ [128]).length % 64) % 64 = (119 - l.length % 64) % 64 := by
  rw [List.length_append, hm, el]
  simp only [List.length_cons, List.length_nil]
  omega
 rw [hj] at hp
 have e2 : padZ 64 ((eats s0 b).2 ++ [128]) ++ len8 l.length = (eats s0 b).2 ++ ([128] ++ List.replicate ((119 - l.length % 64) % 64) 0 ++ len8 l.length) := by
  rw [hp, List.append_assoc, List.append_assoc, List.append_assoc]
 have eS : shaN [b] = digN (y5q (padZ 64 (([b].foldl khq (s0, [])).2 ++ [128]) ++ len8 (yzq [b])).length ([b].foldl khq (s0, [])).1 (padZ 64 (([b].foldl khq (s0, [])).2 ++ [128]) ++ len8 (yzq [b]))) := rfl
 rw [eS, ea, ht, e2]
end Go.Proofs.YtgeelfdgnehdnaaDoor
namespace Go.Proofs.YtgeelfdgnehdnaaDoor
open Go.RowKit
set_option linter.unusedSimpArgs false
set_option linter.unusedVariables false
attribute [local irreducible] CoW OpW FlW Step Spec
variable {G : Nat → Option W}
noncomputable def sumH (s : S8) : HpW := [(2, 133, .arr 64 1 (kW.map wd)), (1, 115, .arr 8 1 s.l), (0, 23, ktq)]
noncomputable def sumH2 (v : S8) (ws : List Nat) (L : List W) : HpW := [(4, 115, .arr 8 1 v.l), (3, 133, .arr 64 1 (ws.map wd)), (2, 133, .arr 64 1 (kW.map wd)), (1, 115, .arr 8 1 L), (0, 23, ktq)]
theorem s0_ok : s0.Ok := ⟨by decide, by decide, by decide, by decide, by decide, by decide, by decide, by decide⟩
theorem padR_len (l : List UInt8) : (padR l).length % 64 = 0 ∧ (padR l).length ≤ l.length + 72 := by
 unfold padR
 rw [List.length_append, xfq, jiq]
 omega
theorem bsL_blk (M : List UInt8) (i : Nat) : ∀ k, k < 64 → bsL ((M.drop (64 * i)).take 64) k = atL ((M.map UInt8.toNat).drop (64 * i)) k := fun k hk => by
 unfold bsL atL
 rw [List.map_take, List.map_drop, List.getD_eq_getElem?_getD, List.getD_eq_getElem?_getD, List.getElem?_take_of_lt hk]
set_option maxHeartbeats 1600000 in
theorem rsum_s (l : List UInt8) (f : Bool) (hl : l.length < 2147483648) : PS cfg G 67 [.fz (zcq l) 1 f] (dW (shaD [l])) := by
 have hsha := sha_one l hl
 obtain ⟨hm, hle⟩ := padR_len l
 have e3 : dW (shaD [l]) = .arr 32 1 (bN (shaN [l.map UInt8.toNat])) := by
  show W.arr 32 1 (zcq _) = _
  rw [← bytes_of (shaN_lt _)]; rfl
 rw [e3, hsha]
 have hpad := padded_s (G := G) l f hl
 generalize padR l = M at *
 obtain ⟨MN, eMN⟩ : ∃ MN, M.map UInt8.toNat = MN := ⟨_, rfl⟩
 rw [eMN]
 have hMN : MN.length = M.length := by rw [← eMN, List.length_map]
 have eM : (zcq M).length = M.length := zmq M
 refine qXq (fn := Tryd.f67) rfl rfl rfl (Nat.le_of_ble_eq_true rfl) (fun R k0 => ?_)
 refine yrq 15 rfl ?_
 refine ySq rfl rfl rfl rfl rfl rfl (hpad) ?_
 refine znq 5 rfl ?_
 refine ySq rfl rfl rfl rfl rfl rfl (words_s) ?_
 refine znq 11 rfl ?_
 refine y7q (α := S8 × Nat) (fun p => p.1.Ok ∧ 64 * p.2 ≤ M.length ∧ y5q MN.length s0 MN = y5q (MN.drop (64 * p.2)).length p.1 (MN.drop (64 * p.2))) (fun p => [(6, .int .i64 ((64 * p.2 : Nat) : Int))]) [(2, _), (3, _), (4, _), (5, _)] (fun p => sumH p.1) (fun p => M.length - 64 * p.2) ((s0, 0)) ⟨rfl, rfl, rfl, rfl, trivial⟩ (⟨s0_ok, Nat.zero_le _, rfl⟩) ⟨rfl, trivial⟩ (rfl) (fun p hI => ?_)
 obtain ⟨s, i⟩ := p
 obtain ⟨hs, hi, heat⟩ := hI
 simp only at hs hi heat ⊢
 refine yrq 5 rfl ?_
 refine z2q (w' := .int .i64 (M.length : Int)) rfl rfl (by rw [← eM]; rfl) ?_
 refine znq 3 rfl ?_
 refine qmq rfl (fun h1 => ?_) (fun h1 => ?_)
 ·have h1 : ((64 * i : Nat) : Int) < (M.length : Int) := h1
  have hi2 : 64 * i + 64 ≤ M.length := by omega
  have hblk : ((M.drop (64 * i)).take 64).length = 64 := by rw [List.length_take, List.length_drop]; omega
  have ey : ((zcq M).drop (64 * i)).take (64 * i + 64 - 64 * i) = zcq ((M.drop (64 * i)).take 64) := by
   rw [show 64 * i + 64 - 64 * i = 64 by omega]; simp [zcq, List.map_take, List.map_drop]
  obtain ⟨ws, ews⟩ : ∃ ws, z4q (bsL ((M.drop (64 * i)).take 64)) 64 = ws := ⟨_, rfl⟩
  have hws : ws.length = 64 := by rw [← ews]; exact j4q _ _
  have hsch := fun g => sched_s (G := G) ((M.drop (64 * i)).take 64) g hblk
  rw [ews] at hsch
  have hW : ∀ t, t < 64 → (ws.map wd)[0 + t * 1]? = some (wd (ws.getD t 0)) := fun t ht => by rw [Nat.zero_add, Nat.mul_one]; exact xGq (by omega)
  have hK : ∀ t, t < 64 → (kW.map wd)[0 + t * 1]? = some (wd (kW.getD t 0)) := fun t ht => by rw [Nat.zero_add, Nat.mul_one]; exact xGq (by rw [kW_len]; exact ht)
  have hnew : qoq (bsL ((M.drop (64 * i)).take 64)) s = qoq (atL (MN.drop (64 * i))) s := by rw [← eMN]; exact vgq (bsL_blk M i) s
  have hadd : mix8 s (j5q ws s 64) 8 = (qoq (atL (MN.drop (64 * i))) s).l := by rw [← hnew, ← ews]; rfl
  refine zOq 9 rfl ?_
  refine zVq (64 * i + 64) rfl rfl (by first | rfl | omega) ⟨by omega, by omega⟩ ?_
  refine zbq rfl (cut_fz (ys := zcq ((M.drop (64 * i)).take 64)) (l := 64 * i) (h := 64 * i + 64) rfl rfl rfl rfl rfl rfl rfl (by omega) (by omega) ey rfl) ?_
  refine op_ps rfl rfl rfl rfl rfl rfl (hsch _) (by simp) (show purL (ws.map wd) = true from uJq (fun x => rfl) ws) ?_
  refine znq 18 rfl ?_
  refine y7q (α := Nat) (fun t => t ≤ 64) (fun t => [(9, .int .i64 (t : Int))]) [(2, _), (3, _), (4, _), (5, _), (6, _), (7, _), (8, _), (18, _), (19, _), (20, _), (21, _), (24, _), (25, _), (26, _), (27, _), (28, _), (29, _), (30, _)] (fun t => sumH2 (j5q ws s t) ws s.l) (fun t => 64 - t) (0) ⟨rfl, rfl, rfl, rfl, rfl, rfl, rfl, rfl, rfl, rfl, rfl, rfl, rfl, rfl, rfl, rfl, rfl, rfl, trivial⟩ (Nat.zero_le _) ⟨rfl, trivial⟩ (rfl) (fun t hI => ?_)
  refine yrq 7 rfl ?_
  refine qmq rfl (fun h2 => ?_) (fun h2 => ?_)
  ·have ht : t < 64 := by omega
   obtain ⟨v, ev⟩ : ∃ v, j5q ws s t = v := ⟨_, rfl⟩
   have hv : v.Ok := by rw [← ev]; exact rounds_ok hs ws t
   have hKt := hK t ht
   have hWt := hW t ht
   have hnx : j5q ws s (t + 1) = roundN (kW.getD t 0) (ws.getD t 0) v := by rw [← ev]; rfl
   rw [ev]
   generalize kW.getD t 0 = kt at *
   generalize ws.getD t 0 = wt at *
   refine zOq 7 rfl ?_
   refine zaq rfl (zDq (i := t) rfl rfl rfl rfl rfl rfl (by omega)) ?_
   refine yKq rfl (qcq rfl rfl rfl (ymq hKt rfl)) (by first | rfl | kernel_rfl) ?_
   refine zaq rfl rfl (zaq rfl (zDq (i := t) rfl rfl rfl rfl rfl rfl (by omega)) ?_)
   refine yKq rfl (qcq rfl rfl rfl (ymq hWt rfl)) (by first | rfl | kernel_rfl) ?_
   refine fl_ps rfl rfl rfl rfl rfl rfl (rround_s v hv kt wt) rfl rfl (by first | rfl | kernel_rfl) ?_
   refine qKq 6 rfl ?_
   refine zVq (t + 1) rfl rfl (by first | rfl | omega) ⟨by omega, by omega⟩ ?_
   refine jXq 2 rfl ?_
   skip
   exact qgq (t + 1) ht (by omega) ⟨rfl, trivial⟩ (by repeat (first | exact trivial | refine ⟨rfl, ?_⟩)) (by rw [hnx]; rfl)
  ·have ht : t = 64 := by omega
   subst ht
   obtain ⟨v, ev⟩ : ∃ v, j5q ws s 64 = v := ⟨_, rfl⟩
   rw [ev] at hadd ⊢
   refine zOq 2 rfl ?_
   refine qGq (by intro h; cases h) ?_
   refine qzq 8 rfl ?_
   refine y7q (α := Nat) (fun j => j ≤ 8) (fun j => [(10, .int .i64 (j : Int))]) [(2, _), (3, _), (4, _), (5, _), (6, _), (7, _), (8, _), (9, _), (18, _), (19, _), (20, _), (21, _), (24, _), (25, _), (26, _), (27, _), (28, _), (29, _), (30, _), (31, _), (32, _)] (fun j => sumH2 v ws (mix8 s v j)) (fun j => 8 - j) (0) ⟨rfl, rfl, rfl, rfl, rfl, rfl, rfl, rfl, rfl, rfl, rfl, rfl, rfl, rfl, rfl, rfl, rfl, rfl, rfl, rfl, rfl, trivial⟩ (Nat.zero_le _) ⟨rfl, trivial⟩ (rfl) (fun j hI => ?_)
   refine yrq 7 rfl ?_
   refine qmq rfl (fun h3 => ?_) (fun h3 => ?_)
   ·have hj : j < 8 := by omega
    have hq : j = 0 ∨ j = 1 ∨ j = 2 ∨ j = 3 ∨ j = 4 ∨ j = 5 ∨ j = 6 ∨ j = 7 := by omega
    have g1 : (mix8 s v j)[0 + j * 1]? = some (wd (s.get j)) := by rcases hq with rfl | rfl | rfl | rfl | rfl | rfl | rfl | rfl <;> rfl
    have g2 : v.l[0 + j * 1]? = some (wd (v.get j)) := S8_at v hj
    have g3 : (mix8 s v j).set (0 + j * 1) (wd (addN (s.get j) (v.get j))) = mix8 s v (j + 1) := by rcases hq with rfl | rfl | rfl | rfl | rfl | rfl | rfl | rfl <;> rfl
    generalize s.get j = x at *
    generalize v.get j = y at *
    refine zOq 6 rfl ?_
    refine zaq rfl (zDq (i := j) rfl rfl rfl rfl rfl rfl (by omega)) ?_
    refine yKq rfl (qcq rfl rfl rfl (ymq g1 rfl)) (by first | rfl | kernel_rfl) ?_
    refine zaq rfl rfl (zaq rfl (zDq (i := j) rfl rfl rfl rfl rfl rfl (by omega)) ?_)
    refine yKq rfl (qcq rfl rfl rfl (ymq g2 rfl)) (by first | rfl | kernel_rfl) ?_
    refine uSq (w' := wd (addN x y)) rfl rfl rfl (zaq rfl (zDq (i := j) rfl rfl rfl rfl rfl rfl (by omega)) ?_)
    refine yKq rfl (j2q rfl rfl rfl rfl rfl (qkq g1 rfl rfl) rfl) (by first | rfl | kernel_rfl) ?_
    refine qKq 5 rfl ?_
    refine zVq (j + 1) rfl rfl (by first | rfl | omega) ⟨by omega, by omega⟩ ?_
    refine jXq 2 rfl ?_
    skip
    exact qgq (j + 1) hj (by omega) ⟨rfl, trivial⟩ (by repeat (first | exact trivial | refine ⟨rfl, ?_⟩)) (congrArg (fun L => sumH2 v ws L) g3)
   ·have hj : j = 8 := by omega
    subst hj
    rw [hadd]
    refine zOq 2 rfl ?_
    refine qGq (by intro h; cases h) ?_
    refine qzq 5 rfl ?_
    refine zVq (64 * i + 64) rfl rfl (by first | rfl | omega) ⟨by omega, by omega⟩ ?_
    refine jXq 2 rfl ?_
    skip
    exact q_againH (qoq (atL (MN.drop (64 * i))) s, i + 1) ⟨block_ok _ _, by simp only; omega, by rw [heat, kRq (by simp; omega), List.drop_drop]; rfl⟩ (by simp only; omega) (Nat.zero_le _) ⟨rfl, trivial⟩ (by repeat (first | exact trivial | refine ⟨rfl, ?_⟩)) (by repeat (first | exact trivial | refine ⟨by first | rfl | exact zEq (by first | rfl | (simp; done)), ?_⟩)) (by repeat (first | exact trivial | refine ⟨by first | rfl | exact zEq (by first | rfl | (simp; done)), ?_⟩)) (by omega) (by repeat (first | exact trivial | refine ⟨⟨by decide, rfl, by first | rfl | exact zEq (by first | rfl | (simp; done))⟩, ?_⟩)) (by show ([2, 1, 0] : List Nat).Nodup; decide)
 ·have h1 : ¬ ((64 * i : Nat) : Int) < (M.length : Int) := h1
  have hend : y5q MN.length s0 MN = s := by rw [heat, List.drop_of_length_le (by omega)]; rfl
  rw [hend]
  refine zOq 2 rfl ?_
  refine qGq (by intro h; cases h) ?_
  refine qzq 14 rfl ?_
  refine y7q (α := Nat) (fun a => a ≤ 8) (fun a => [(12, .int .i64 (a : Int))]) [(2, _), (3, _), (11, _)] (fun a => (3, 23, .arr 32 1 (bN (dI s (4 * a)))) :: sumH s) (fun a => 8 - a) (0) ⟨rfl, rfl, rfl, trivial⟩ (Nat.zero_le _) ⟨rfl, trivial⟩ (rfl) (fun a hI => ?_)
  refine yrq 7 rfl ?_
  refine qmq rfl (fun h2 => ?_) (fun h2 => ?_)
  ·have ha : a < 8 := by omega
   refine zOq 10 rfl ?_
   refine y7q (α := Nat) (fun b => b ≤ 4) (fun b => [(13, .int .i64 (b : Int))]) [(2, _), (3, _), (11, _), (12, _), (55, _), (56, _)] (fun b => (3, 23, .arr 32 1 (bN (dI s (4 * a + b)))) :: sumH s) (fun b => 4 - b) (0) ⟨rfl, rfl, rfl, rfl, rfl, rfl, trivial⟩ (Nat.zero_le _) ⟨rfl, trivial⟩ (rfl) (fun b hI => ?_)
   refine yrq 7 rfl ?_
   refine qmq rfl (fun h3 => ?_) (fun h3 => ?_)
   ·have hb : b < 4 := by omega
    have hdv : (4 * a + b) / 4 = a := by omega
    have hmd : (4 * a + b) % 4 = b := by omega
    have hset := dI_set s (i := 4 * a + b) (by omega)
    rw [hdv, hmd] at hset
    refine zOq 6 rfl ?_
    refine zVq (4 * a) rfl rfl (by first | rfl | omega) ⟨by omega, by omega⟩ ?_
    refine zbq rfl rfl (zVq (4 * a + b) rfl rfl (by first | rfl | omega) ⟨by omega, by omega⟩ ?_)
    refine zbq rfl rfl (zbq rfl (zDq (i := a) rfl rfl rfl rfl rfl rfl (by omega)) ?_)
    refine zKq rfl (qcq rfl rfl rfl (ymq (S8_at s ha) rfl)) (zbq rfl rfl (zVq (8 * b) rfl rfl (by first | rfl | omega) ⟨by omega, by omega⟩ ?_))
    refine zVq (24 - 8 * b) rfl rfl (by first | rfl | omega) ⟨by omega, by omega⟩ ?_
    refine zVq (24 - 8 * b) rfl rfl (by first | rfl | omega) ⟨by omega, by omega⟩ ?_
    refine z2q (w' := wd (Nat.shiftRight (s.get a) (min (24 - 8 * b) 32))) rfl rfl rfl (z2q (w' := .int .u8 (.ofNat (Nat.shiftRight (s.get a) (min (24 - 8 * b) 32) % 256))) rfl rfl rfl (zbq rfl (zDq (i := 4 * a + b) rfl rfl rfl rfl rfl rfl (by omega)) ?_))
    refine zKq rfl (j2q rfl rfl rfl rfl rfl (qkq (dI_at s (by omega)) rfl rfl) rfl) ?_
    refine znq 5 rfl ?_
    refine zVq (b + 1) rfl rfl (by first | rfl | omega) ⟨by omega, by omega⟩ ?_
    refine jXq 2 rfl ?_
    skip
    exact qgq (b + 1) hb (by omega) ⟨rfl, trivial⟩ (by repeat (first | exact trivial | refine ⟨rfl, ?_⟩)) (congrArg (fun L => (3, 23, W.arr 32 1 L) :: sumH s) hset)
   ·have hb : b = 4 := by omega
    subst hb
    refine zOq 2 rfl ?_
    refine qGq (by intro h; cases h) ?_
    refine qzq 5 rfl ?_
    refine zVq (a + 1) rfl rfl (by first | rfl | omega) ⟨by omega, by omega⟩ ?_
    refine jXq 2 rfl ?_
    skip
    exact qgq (a + 1) ha (by omega) ⟨rfl, trivial⟩ (by repeat (first | exact trivial | refine ⟨rfl, ?_⟩)) rfl
  ·have ha : a = 8 := by omega
   subst ha
   refine zOq 2 rfl ?_
   refine qGq (by intro h; cases h) ?_
   refine qzq 9 rfl ?_
   have ed : dI s 32 = digN s := by simp [dI, List.take_of_length_le, xoq]
   exact yUq (.inr rfl) rfl (by rw [← ed])
end Go.Proofs.YtgeelfdgnehdnaaDoor
namespace Go.Proofs.YtgeelfdgnehdnaaDoor
open Go.RowKit
set_option linter.unusedSimpArgs false
set_option linter.unusedVariables false
attribute [local irreducible] CoW OpW FlW Step Spec
variable {G : Nat → Option W}
theorem rtbytes_s (kind : UInt8) (ps : List (List UInt8)) (f : Bool) (hn : ps.length < 1000000) (hb : ∀ p ∈ ps, p.length < 1000000) : PS cfg G 68 [.int .u8 (.ofNat kind.toNat), .fz (ps.map bW) 1 f] (bW (tagB kind ps)) := by
 have e : (ps.map bW).length = ps.length := List.length_map _
 have htm : ∀ n : Nat, n < 4294967296 → ((n : Int)).tmod 4294967296 = (n : Int) := fun n hn => by rw [Int.tmod_eq_emod_of_nonneg (by omega)]; omega
 refine ps_inV (fn := Tryd.f68) rfl rfl rfl (Nat.le_of_ble_eq_true rfl) (fun R k0 => ?_)
 refine yrq 19 rfl ?_
 refine co_loopG1 (α := Nat) (fun i => i ≤ ps.length) 5 (fun i => zcq (kind :: (ps.take i).flatMap jEq)) 5 1 (fun i => [(6, .int .i64 (i : Int))]) [(1, _), (4, _)] ([]) 0 0 (fun i => ps.length - i) (0) ⟨rfl, rfl, trivial⟩ (Nat.zero_le _) ⟨rfl, trivial⟩ (by omega) (by omega) (by first | omega | decide) (by simp [zcq]) rfl (by simp [zcq]) (by repeat (first | exact trivial | refine ⟨by first | rfl | exact zEq (by first | rfl | (simp; done)), ?_⟩)) (by repeat (first | exact trivial | refine ⟨by first | rfl | exact zEq (by first | rfl | (simp; done)), ?_⟩)) rfl (by first | rfl | assumption | (simp; done)) (by repeat (first | exact trivial | refine ⟨⟨by decide, rfl, by first | rfl | exact zEq (by first | rfl | (simp; done))⟩, ?_⟩)) (by first | decide | simp) (fun i hI => ?_)
 refine yrq 5 rfl ?_
 refine z2q (w' := .int .i64 (ps.length : Int)) rfl rfl (by rw [← e]; rfl) ?_
 refine znq 3 rfl ?_
 refine qmq rfl (fun h1 => ?_) (fun h1 => ?_)
 ·have hi : i < ps.length := by omega
  obtain ⟨x, hx⟩ : ∃ x, ps[i]? = some x := ⟨_, List.getElem?_eq_getElem hi⟩
  have hxl := hb x (List.mem_of_getElem? hx)
  have hfl : ((ps.take i).flatMap jEq).length ≤ i * 1000004 := Zhq i hb
  have hL : (zcq (kind :: (ps.take i).flatMap jEq)).length ≤ 1 + i * 1000004 := by rw [zmq, List.length_cons]; omega
  have hN : (zcq (beB 4 x.length)).length = 4 := by rw [zmq, jiq]
  have hnx : zcq (kind :: (ps.take (i + 1)).flatMap jEq) = (zcq (kind :: (ps.take i).flatMap jEq) ++ zcq (beB 4 x.length)) ++ zcq x := by
   rw [List.take_add_one, hx, ← yxq, ← yxq]
   congr 1
   simp [jEq, Nat.mod_eq_of_lt (show x.length < 4294967296 by omega)]
  skip
  cases x with
  | nil =>
   refine zOq 8 rfl ?_
   refine zbq rfl (ynq (i := i) rfl rfl rfl rfl rfl rfl rfl (vyq bW hx)) (zKq rfl rfl (z2q (w' := .int .i64 (([] : List UInt8).length : Int)) rfl rfl (by show W.int .i64 ((zcq (([] : List UInt8))).length : Int) = _; rw [zmq]) ?_))
   refine zbq rfl rfl (z2q (w' := .int .u64 (([] : List UInt8).length : Int)) rfl rfl rfl ?_)
   (refine yNq rfl (ucq rfl rfl rfl rfl rfl rfl (xbq ([] : List UInt8).length 4 (by decide) (by omega)) ?_); rintro w hp1 nw1 ⟨rfl, rfl, rfl⟩)
   refine znq 11 rfl ?_
   refine zKq rfl (q3q rfl rfl (app_gr [_] (k := ti5) (news := zcq (beB 4 ([] : List UInt8).length)) rfl rfl rfl rfl rfl (k5q rfl rfl rfl (yeq (by decide) hN.symm rfl)) (by intro h; rw [h] at hN; cases hN) (by rw [hN]; show (_ + 4) * 1 ≤ _; omega) (by rw [hN]; omega) rfl (by simp [numC]))) ?_
   refine znq 7 rfl ?_
   refine zbq rfl (ynq (i := i) rfl rfl rfl rfl rfl rfl rfl (vyq bW hx)) (zKq rfl rfl (zKq rfl (q3q rfl rfl (Zpq (k := ti5) rfl rfl rfl rfl rfl)) ?_))
   refine znq 6 rfl ?_
   refine zVq (i + 1) rfl rfl (by first | rfl | omega) ⟨by omega, by omega⟩ ?_
   refine jXq 2 rfl ?_
   exact ueq 2 (i + 1) (hi) (by omega) (Nat.zero_le _) (by rw [hnx]; exact List.append_nil _) (by first | assumption | (simp; done) | (simp [zcq]; done)) (by omega) (by first | omega | decide) rfl (by first | rfl | exact List.length_append.symm) ⟨rfl, trivial⟩ ⟨rfl, rfl, trivial⟩ (by repeat (first | exact trivial | refine ⟨by first | rfl | exact zEq (by first | rfl | (simp; done)), ?_⟩)) (by repeat (first | exact trivial | refine ⟨by first | rfl | exact zEq (by first | rfl | (simp; done)), ?_⟩)) rfl (by first | rfl | assumption | (simp; done)) (by repeat (first | exact trivial | refine ⟨⟨by decide, rfl, by first | rfl | exact zEq (by first | rfl | (simp; done))⟩, ?_⟩)) (by first | decide | simp)
  | cons c x =>
   refine zOq 8 rfl ?_
   refine zbq rfl (ynq (i := i) rfl rfl rfl rfl rfl rfl rfl (vyq bW hx)) (zKq rfl rfl (z2q (w' := .int .i64 ((c :: x).length : Int)) rfl rfl (by show W.int .i64 ((zcq ((c :: x))).length : Int) = _; rw [zmq]) ?_))
   refine zVq ((c :: x).length) rfl rfl (by first | rfl | omega) ⟨by omega, by omega⟩ ?_
   refine z2q (w' := .int .u64 ((c :: x).length : Int)) rfl rfl (congrArg (W.int .u64) (htm _ (by omega))) ?_
   (refine yNq rfl (ucq rfl rfl rfl rfl rfl rfl (xbq (c :: x).length 4 (by omega) (by omega)) ?_); rintro w hp1 nw1 ⟨rfl, rfl, rfl⟩)
   refine znq 11 rfl ?_
   refine zKq rfl (q3q rfl rfl (app_gr [_] (k := ti5) (news := zcq (beB 4 (c :: x).length)) rfl rfl rfl rfl rfl (k5q rfl rfl rfl (yeq (by decide) hN.symm rfl)) (by intro h; rw [h] at hN; cases hN) (by rw [hN]; show (_ + 4) * 1 ≤ _; omega) (by rw [hN]; omega) rfl (by simp [numC]))) ?_
   refine znq 7 rfl ?_
   refine zbq rfl (ynq (i := i) rfl rfl rfl rfl rfl rfl rfl (vyq bW hx)) (zKq rfl rfl (zKq rfl (q3q rfl rfl (jWq (k := ti5) (len := (zcq (kind :: (ps.take i).flatMap jEq) ++ zcq (beB 4 (c :: x).length)).length) (news := zcq (c :: x)) (olds := zcq (kind :: (ps.take i).flatMap jEq) ++ zcq (beB 4 (c :: x).length)) rfl rfl rfl rfl rfl (by simp [zcq]) (by rw [List.length_append, hN, zmq (c :: x)]; show (_ + _) * 1 ≤ _; omega) (by rw [List.length_append, hN, zmq (c :: x)]; omega) rfl (by show (_ ++ _ : List W).length * 1 < 0 + ((_ ++ _ : List W).length + (zcq (c :: x)).length) * 1; rw [zmq (c :: x), List.length_cons]; omega) rfl (yeq (by decide) rfl rfl))) ?_))
   refine znq 6 rfl ?_
   refine zVq (i + 1) rfl rfl (by first | rfl | omega) ⟨by omega, by omega⟩ ?_
   refine jXq 2 rfl ?_
   exact ueq 3 (i + 1) (hi) (by omega) (Nat.zero_le _) (hnx) (by first | assumption | (simp; done) | (simp [zcq]; done)) (by omega) (by first | omega | decide) rfl (by first | rfl | exact List.length_append.symm) ⟨rfl, trivial⟩ ⟨rfl, rfl, trivial⟩ (by repeat (first | exact trivial | refine ⟨by first | rfl | exact zEq (by first | rfl | (simp; done)), ?_⟩)) (by repeat (first | exact trivial | refine ⟨by first | rfl | exact zEq (by first | rfl | (simp; done)), ?_⟩)) rfl (by first | rfl | assumption | (simp; done)) (by repeat (first | exact trivial | refine ⟨⟨by decide, rfl, by first | rfl | exact zEq (by first | rfl | (simp; done))⟩, ?_⟩)) (by first | decide | simp)
 ·have hi : i = ps.length := by omega
  subst hi
  refine zOq 2 rfl ?_
  refine qGq (by intro h; cases h) ?_
  refine qzq 9 rfl ?_
  refine vpq (by first | exact .inr rfl | exact .inl rfl) rfl ?_
  rw [List.take_length]
  exact view_g (H0 := []) (by decide) (by simp) (by simp)
theorem rtagof_s (kind : UInt8) (ps : List (List UInt8)) (f : Bool) (hn : ps.length < 1000) (hb : ∀ p ∈ ps, p.length < 1000000) : PS cfg G 56 [.int .u8 (.ofNat kind.toNat), .fz (ps.map bW) 1 f] (dW (tagD kind ps)) := by
 have hl := tag_le kind ps hb
 refine qXq (fn := Tryd.f56) rfl rfl rfl (Nat.le_of_ble_eq_true rfl) (fun R k0 => ?_)
 refine yrq 9 rfl ?_
 refine ySq rfl rfl rfl rfl rfl rfl (rtbytes_s kind ps f (by omega) hb) ?_
 refine ySq rfl rfl rfl rfl rfl rfl (rsum_s (tagB kind ps) false (by omega)) ?_
 refine znq 4 rfl ?_
 exact yUq (.inr rfl) rfl rfl
theorem rtone_s (kind : UInt8) (a : List UInt8) (hb : a.length < 1000000) : PS cfg G 33 [.int .u8 (.ofNat kind.toNat), bW a] (dW (tagD kind [a])) := by
 refine qXq (fn := Tryd.f33) rfl rfl rfl (Nat.le_of_ble_eq_true rfl) (fun R k0 => ?_)
 refine yrq 10 rfl ?_
 refine op_lk rfl rfl rfl rfl rfl (by (repeat (first | exact .nil | refine .cons ?_ ?_ | (refine .sl rfl ?_ rfl (by intro h; cases h); first | rfl | (focus (simp; done))) | (refine q7q rfl ?_ rfl; first | rfl | (focus (simp; done))) | (refine .pur ?_; first | rfl | (focus (simp; done)))))) (rtagof_s kind [a] false (by simp) (by simp; omega)) (by first | rfl | assumption | (simp; done)) (by first | rfl | assumption | (simp; done)) ?_
 refine znq 4 rfl ?_
 exact yUq (.inr rfl) rfl rfl
theorem rkey_s (k : Dig) : PS cfg G 12 [dW k] (dW (keyD k)) := by
 refine qXq (fn := Tryd.f12) rfl rfl rfl (Nat.le_of_ble_eq_true rfl) (fun R k0 => ?_)
 refine yrq 9 rfl ?_
 refine op_lk rfl rfl rfl rfl rfl (.cons (.pur rfl) (.cons (.sl (full := false) (xs := zcq k.1) rfl (by simp) (yeq (by decide) (by simp [zmq, k.2]) rfl) (by intro h; cases h)) .nil)) (rtone_s 3 k.1 (by simp [k.2])) (by first | rfl | assumption | (simp; done)) (by first | rfl | assumption | (simp; done)) ?_
 refine znq 4 rfl ?_
 exact yUq (.inr rfl) rfl rfl
end Go.Proofs.YtgeelfdgnehdnaaDoor
namespace Go.Proofs.YtgeelfdgnehdnaaDoor
open Go.RowKit
set_option linter.unusedSimpArgs false
set_option linter.unusedVariables false
attribute [local irreducible] CoW OpW FlW Step Spec
theorem tells_s (pub : Dig) (a : Acct) (b : List UInt8) (ha : a.ok) (hb : b.length ≤ 140737488351232) : PS cfg glK 3 [dW pub, aW a, bW b] (.bool true) := by
 have e : (zcq b).length = b.length := zmq b
 by_cases hl : 100 < b.length
 ·skip
  refine qXq (fn := Tryd.f3) rfl rfl rfl (Nat.le_of_ble_eq_true rfl) (fun R k0 => ?_)
  refine yrq 11 rfl ?_
  refine z2q (w' := .int .i64 (b.length : Int)) rfl rfl (by rw [← e]; rfl) ?_
  refine z2q (w' := .bool true) rfl rfl (congrArg W.bool (ltI_iff.2 (by omega))) ?_
  refine znq 10 rfl ?_
  exact yUq (.inr rfl) rfl rfl
 ·skip
  refine qXq (fn := Tryd.f3) rfl rfl rfl (Nat.le_of_ble_eq_true rfl) (fun R k0 => ?_)
  refine yrq 11 rfl ?_
  refine z2q (w' := .int .i64 (b.length : Int)) rfl rfl (by rw [← e]; rfl) ?_
  refine z2q (w' := .bool false) rfl rfl (congrArg W.bool (ltI_not.2 (by omega))) ?_
  refine znq 8 rfl ?_
  refine ySq rfl rfl rfl rfl rfl rfl (rtwin_s b false (by omega)) ?_
  refine znq 6 rfl ?_
  first | refine ySq rfl rfl rfl rfl rfl rfl (aread_s b false (by omega)) ?_ | refine ySq rfl rfl rfl rfl rfl rfl (aread_s _ _ (by first | assumption | omega)) ?_
  refine znq 11 rfl ?_
  refine ySq rfl rfl rfl rfl rfl rfl (raread_s b false) ?_
  refine znq 11 rfl ?_
  refine xKq rfl rfl rfl rfl rfl rfl (key_s pub) ?_
  refine yBq rfl rfl ?_
  refine xKq rfl rfl rfl rfl rfl rfl (rkey_s pub) ?_
  refine uSq (w' := .bool true) rfl (bin_eql rfl rfl rfl rfl (eq_dig rfl rfl rfl rfl rfl rfl (keyD pub) (keyD pub) 250)) (by rw [decide_eq_true rfl]) ?_
  refine qKq 2 rfl ?_
  first | refine xKq rfl rfl rfl rfl rfl rfl (abytes_s a ha) ?_ | refine xKq rfl rfl rfl rfl rfl rfl (abytes_s _ (by assumption)) ?_
  refine yBq rfl rfl ?_
  refine xKq rfl rfl rfl rfl rfl rfl (rabytes_s a ha) ?_
  refine xKq rfl rfl rfl rfl rfl rfl (ps_eq (w' := .bool true) (same_s (kxq a) (kxq a) false false) (by rw [decide_eq_true rfl])) ?_
  refine qKq 4 rfl ?_
  refine uSq (w' := .bool true) rfl (bin_eql rfl rfl rfl rfl (eq_acct (qVq b).1 (qVq b).1)) (by rw [decide_eq_true rfl]) ?_
  refine qKq 4 rfl ?_
  refine uSq (w' := .bool true) rfl rfl (congrArg W.bool (by first | rfl | exact eqI_iff.2 rfl | (simp; done) | decide | (simp [ltI_iff, eqI_iff]; done))) ?_
  refine qKq 4 rfl ?_
  refine xKq rfl rfl rfl rfl rfl rfl (ps_eq (w' := .bool true) (same_s b b false false) (by rw [decide_eq_true rfl])) ?_
  refine qKq 5 rfl ?_
  exact yUq (.inr rfl) rfl rfl
end Go.Proofs.YtgeelfdgnehdnaaDoor
namespace Go.Proofs.YtgeelfdgnehdnaaDoor
open Go.RowKit
set_option linter.unusedSimpArgs false
set_option linter.unusedVariables false
mutual
/-- all blocks in it lie below n -/
noncomputable def ltB (n : Nat) : V → Bool
 | .ptr b _ => decide (b < n)
 | .sl b _ _ _ _ _ => decide (b < n)
 | .map b => decide (b < n)
 | .yield b => decide (b < n)
 | .fn _ a c => ltL n a && ltL n c
 | .iface _ v => ltB n v
 | .agg _ l => ltL n l
 | .arr _ _ l => ltL n l
 | .tup l => ltL n l
 | .undef => true
 | .bool _ => true
 | .int _ _ => true
 | .str _ => true
 | .nilp => true
 | .nils => true
 | .nilm => true
 | .nilf => true
 | .nili => true
noncomputable def ltL (n : Nat) : List V → Bool
 | [] => true
 | v :: l => ltB n v && ltL n l
end
noncomputable def SeenK (h : Heap) : Nat → Prop := fun b => b < h.next ∧ ∃ v, h.val b = some v ∧ ltB h.next v = true
end Go.Proofs.YtgeelfdgnehdnaaDoor
namespace Go.Proofs.YtgeelfdgnehdnaaDoor
open Go.RowKit
set_option linter.unusedSimpArgs false
set_option linter.unusedVariables false
noncomputable def u32V (n : Nat) : V := .int .u32 (.ofNat n)
noncomputable def eqK : List V → List Nat → Bool
 | [], [] => true
 | .int .u32 (.ofNat n) :: l, m :: ms => match Nat.beq n m with
  | true => eqK l ms
  | false => false
 | _, _ => false
theorem eqK_spec : ∀ {l : List V} {ms : List Nat}, eqK l ms = true → l = ms.map u32V
 | [], [], _ => rfl
 | [], _ :: _, h => by simp [eqK] at h
 | v :: l, ms, h => by
  unfold eqK at h
  split at h
  ·simp_all
  ·rename_i n l' m ms' e
   cases e
   split at h
   ·rename_i hb
    obtain rfl := Nat.eq_of_beq_eq_true hb
    rw [eqK_spec h]; rfl
   ·cases h
  ·cases h
noncomputable def globK (h : Heap) : Bool := match h.get 0 with
 | some (.ro (.arr 64 1 l)) => eqK l kW
 | _ => false
theorem RSL_wd (Γ : Ctx) : ∀ l : List Nat, RSL Γ (l.map wd) (l.map u32V)
 | [] => rfl
 | n :: l => y8q (a := [u32V n]) (b := l.map u32V) (x := wd n) rfl (RSL_wd Γ l)
theorem globK_spec {h : Heap} (hn : Nat.ble 1 h.next = true) (hk : globK h = true) : GRel cfg glK ⟨0, fun i => i, SeenK h, h⟩ := by
 intro g w _ h2 nw σ
 have hn := Nat.le_of_ble_eq_true hn
 unfold glK at h2
 split at h2
 ·cases h2
  unfold globK at hk
  split at hk
  ·rename_i l hg
   obtain rfl := eqK_spec hk
   have hv : h.val 0 = some (.arr 64 1 (kW.map u32V)) := by simp only [Heap.val, hg]
   refine RV.of_one ⟨0, 0, _, rfl, ⟨by omega, _, hv, by rfl⟩, hv, by exact Nat.le_refl _, fun _ => rfl, .inr rfl, ?_⟩ rfl rfl
   have e : ((zjq (.arr 64 1 (kW.map u32V))).drop 0).take 64 = kW.map u32V := by kernel_rfl
   show RS _ _ (((zjq (.arr 64 1 (kW.map u32V))).drop 0).take 64)
   rw [e]
   exact ⟨rfl, fun x hx => by obtain ⟨n, _, rfl⟩ := List.mem_map.1 hx; rfl, RSL_wd _ kW⟩
  ·cases hk
 ·cases h2
end Go.Proofs.YtgeelfdgnehdnaaDoor

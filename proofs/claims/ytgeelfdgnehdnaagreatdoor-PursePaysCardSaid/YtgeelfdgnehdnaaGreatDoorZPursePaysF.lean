/-
  What the proof of PursePays stands on, part 6. No condition.
-/
import Derived.Test.YtgeelfdgnehdnaaGreatDoorZPursePaysE
set_option linter.unusedSimpArgs false
set_option linter.unusedVariables false
noncomputable section
namespace Go.Proofs.YtgeelfdgnehdnaaGreatDoor
@[irreducible] def bitN (k : Dig) (i : Nat) : Nat := kn k (i / 8) / 2 ^ (7 - i % 8) % 2
theorem q5q (k : Dig) (i : Nat) : bitN k i <= 1 := by unfold bitN; omega
theorem xor_le (m n : Nat) (hm : m <= 255) (hn : n <= 255) : m ^^^ n <= 255 := by
 have : m ^^^ n < 2 ^ 8 := Nat.xor_lt_two_pow (by omega) (by omega)
 omega
theorem pow_le (n : Nat) : 2 ^ (7 - n) <= 255 := by
 have h : ∀ m, m <= 7 -> 2 ^ m <= 255 := by decide
 exact h _ (by omega)
@[irreducible] def qvq (k : Dig) (i : Nat) : Dig := setD k (i / 8) (UInt8.ofNat (kn k (i / 8) ^^^ 2 ^ (7 - i % 8)))
@[irreducible] def lenM (x : Nat) : Nat := if x = 0 then 0 else Nat.log2 x + 1
theorem lenM_le (x : Nat) (hx : x <= 255) : lenM x <= 8 := by
 have h : ∀ x, x <= 255 -> lenM x <= 8 := by decide +kernel
 exact h x hx
def dOf (a b : Dig) (i : Nat) : Nat × Nat := (i, kn a i ^^^ kn b i)
@[irreducible] def dTo (a b : Dig) (n : Nat) : List (Nat × Nat) := ((List.range n).map (dOf a b)).filter (fun p => p.2 != 0)
theorem dTo_zero (a b : Dig) : dTo a b 0 = [] := by unfold dTo; rfl
theorem vbq (a b : Dig) (n : Nat) : dTo a b (n + 1) = dTo a b n ++ (if kn a n ^^^ kn b n = 0 then [] else [dOf a b n]) := by
 unfold dTo
 rw [List.range_succ, List.map_append, List.filter_append]
 congr 1
 simp only [List.map_cons, List.map_nil, List.filter_cons, List.filter_nil, dOf]
 split <;> split <;> simp_all
theorem dTo_pre (a b : Dig) (n m : Nat) : dTo a b n <+: dTo a b (n + m) := by
 induction m with
 | zero => exact List.prefix_refl _
 | succ m ih => rw [<- Nat.add_assoc, vbq]; exact ih.trans (List.prefix_append _ _)
theorem dTo_get (a b : Dig) (i n : Nat) (hi : i < n) (hx : kn a i ^^^ kn b i ≠ 0) : (dTo a b n)[(dTo a b i).length]? = some (dOf a b i) := by
 obtain ⟨m, rfl⟩ : ∃ m, n = (i + 1) + m := ⟨n - (i + 1), by omega⟩
 obtain ⟨l, hl⟩ := dTo_pre a b (i + 1) m
 rw [<- hl, vbq, if_neg hx]
 simp
theorem dTo_mem {a b : Dig} {n : Nat} {x : Nat × Nat} (h : x ∈ dTo a b n) : x.1 < n /\ x.2 = kn a x.1 ^^^ kn b x.1 /\ x.2 ≠ 0 := by
 unfold dTo at h
 rw [List.mem_filter, List.mem_map] at h
 obtain ⟨⟨i, hi, rfl⟩, h2⟩ := h
 exact ⟨List.mem_range.1 hi, rfl, by simpa using h2⟩
@[irreducible] def ybq (a b : Dig) : Nat := match dTo a b 32 with
 | [] => 256
 | x :: _ => 8 * x.1 + (8 - lenM x.2)
@[irreducible] def z1q (a b : Dig) : Bool := match dTo a b 32 with
 | [] => false
 | x :: _ => decide (kn a x.1 < kn b x.1)
theorem byte_top : ∀ x, x < 256 -> x ≠ 0 -> lenM x <= 8 /\ 1 <= lenM x /\ x.testBit (lenM x - 1) = true /\ ∀ k, k < 8 -> lenM x - 1 < k -> x.testBit k = false := by decide +kernel
theorem qZq (m k : Nat) : m / 2 ^ k % 2 = (m.testBit k).toNat := by rw [Nat.toNat_testBit]
theorem lt_top {m n L : Nat} (h : ∀ k, L < k -> m.testBit k = n.testBit k) (hm : m.testBit L = false) (hn : n.testBit L = true) : m < n := by
 have h1 : m / 2 ^ (L + 1) = n / 2 ^ (L + 1) := by
  apply Nat.eq_of_testBit_eq
  intro i
  rw [Nat.testBit_div_two_pow, Nat.testBit_div_two_pow]
  exact h _ (by omega)
 have e : ∀ x, x / 2 ^ (L + 1) = x / 2 ^ L / 2 := fun x => by rw [Nat.pow_succ, Nat.div_div_eq_div_mul]
 have hm' : m / 2 ^ L % 2 = 0 := by rw [qZq, hm]; rfl
 have hn' : n / 2 ^ L % 2 = 1 := by rw [qZq, hn]; rfl
 rw [e, e] at h1
 have : m / 2 ^ L < n / 2 ^ L := by omega
 exact Nat.lt_of_not_le fun hc => by have := Nat.div_le_div_right (c := 2 ^ L) hc; omega
theorem Jaq (m n : Nat) (hm : m <= 255) (hn : n <= 255) (hx : m ^^^ n ≠ 0) :
  1 <= lenM (m ^^^ n) /\ lenM (m ^^^ n) <= 8 /\ (∀ t, t < 8 - lenM (m ^^^ n) -> m / 2 ^ (7 - t) % 2 = n / 2 ^ (7 - t) % 2) /\
   ¬ m / 2 ^ (lenM (m ^^^ n) - 1) % 2 = n / 2 ^ (lenM (m ^^^ n) - 1) % 2 /\ (m < n ↔ m / 2 ^ (lenM (m ^^^ n) - 1) % 2 < n / 2 ^ (lenM (m ^^^ n) - 1) % 2) := by
 have hle := xor_le m n hm hn
 obtain ⟨h1, h2, h3, h4⟩ := byte_top (m ^^^ n) (by omega) hx
 have hab : ∀ k, lenM (m ^^^ n) - 1 < k -> m.testBit k = n.testBit k := fun k hk => by
  by_cases hk8 : k < 8
  ·have := h4 k hk8 hk
   rw [Nat.testBit_xor] at this
   revert this; cases m.testBit k <;> cases n.testBit k <;> simp
  ·have e1 : m < 2 ^ k := Nat.lt_of_lt_of_le (show m < 2 ^ 8 by omega) (Nat.pow_le_pow_right (by omega) (by omega))
   have e2 : n < 2 ^ k := Nat.lt_of_lt_of_le (show n < 2 ^ 8 by omega) (Nat.pow_le_pow_right (by omega) (by omega))
   rw [Nat.testBit_lt_two_pow e1, Nat.testBit_lt_two_pow e2]
 rw [Nat.testBit_xor] at h3
 refine ⟨h2, h1, fun t ht => ?_, ?_, ?_⟩
 ·rw [qZq, qZq, hab _ (by omega)]
 ·rw [qZq, qZq]
  revert h3; cases m.testBit (lenM (m ^^^ n) - 1) <;> cases n.testBit (lenM (m ^^^ n) - 1) <;> simp
 ·rw [qZq, qZq]
  cases hmb : m.testBit (lenM (m ^^^ n) - 1) <;> cases hnb : n.testBit (lenM (m ^^^ n) - 1) <;> simp only [hmb, hnb] at h3
  ·simp at h3
  ·have := lt_top hab hmb hnb
   simp [this]
  ·have := lt_top (fun k hk => (hab k hk).symm) hnb hmb
   simp; omega
  ·simp at h3
theorem xor_zero {m n : Nat} : m ^^^ n = 0 ↔ m = n := by
 constructor
 ·intro h
  apply Nat.eq_of_testBit_eq
  intro i
  have : (m ^^^ n).testBit i = false := by rw [h]; simp
  rw [Nat.testBit_xor] at this
  revert this; cases m.testBit i <;> cases n.testBit i <;> simp
 ·rintro rfl; exact Nat.xor_self m
theorem dTo_nil {a b : Dig} {n : Nat} (h : dTo a b n = []) : ∀ i, i < n -> kn a i = kn b i := fun i hi => by
 rcases Classical.em (kn a i ^^^ kn b i = 0) with hx | hx
 ·exact xor_zero.1 hx
 ·have := dTo_get a b i n hi hx
  rw [h] at this; simp at this
theorem vcq {a b : Dig} {x : Nat × Nat} {l : List (Nat × Nat)} : ∀ {n : Nat}, dTo a b n = x :: l -> x.1 < n /\ x.2 = kn a x.1 ^^^ kn b x.1 /\ x.2 ≠ 0 /\ ∀ i, i < x.1 -> kn a i = kn b i := by
 intro n h
 obtain ⟨h1, h2, h3⟩ := dTo_mem (a := a) (b := b) (n := n) (x := x) (by rw [h]; simp)
 refine ⟨h1, h2, h3, ?_⟩
 revert l
 induction n with
 | zero => omega
 | succ n ih =>
  intro l h
  rw [vbq] at h
  cases hd : dTo a b n with
  | nil =>
   have := dTo_nil hd
   intro i hi
   exact this i (by omega)
  | cons y r =>
   rw [hd] at h
   have hy : y = x := by simpa using congrArg List.head? h
   subst hy
   have hm := (dTo_mem (a := a) (b := b) (n := n) (x := y) (by rw [hd]; simp)).1
   exact ih hm hd
def Jlq (a b : Dig) (s : Nat) : Prop := (∀ j, j < s -> bitN a j = bitN b j) /\ (s = 256 \/ (s < 256 /\ ¬ bitN a s = bitN b s))
theorem j0q (a b : Dig) : Jlq a b (ybq a b) := by
 unfold ybq
 cases hd : dTo a b 32 with
 | nil =>
  have h := dTo_nil hd
  exact ⟨fun j hj => by simp only at hj; unfold bitN; rw [h (j / 8) (by omega)], .inl rfl⟩
 | cons x l =>
  obtain ⟨h1, h2, h3, h4⟩ := vcq hd
  simp only
  have hb := Jaq (kn a x.1) (kn b x.1) (uoq _ _) (uoq _ _) (by rw [<- h2]; exact h3)
  rw [<- h2] at hb
  obtain ⟨b1, b2, b3, b4, -⟩ := hb
  refine ⟨fun j hj => ?_, .inr ⟨by omega, ?_⟩⟩
  ·unfold bitN
   by_cases hjx : j / 8 < x.1
   ·rw [h4 _ hjx]
   ·have e : j / 8 = x.1 := by omega
    rw [e]
    exact b3 (j % 8) (by omega)
  ·unfold bitN
   rw [show (8 * x.1 + (8 - lenM x.2)) / 8 = x.1 by omega, show 7 - (8 * x.1 + (8 - lenM x.2)) % 8 = lenM x.2 - 1 by omega]
   exact b4
theorem ucq {a b : Dig} {s t : Nat} (hs : Jlq a b s) (ht : Jlq a b t) : s = t := by
 obtain ⟨s1, s2⟩ := hs
 obtain ⟨t1, t2⟩ := ht
 rcases Nat.lt_trichotomy s t with h | h | h
 ·have := t1 s h
  rcases s2 with s2 | ⟨_, s2⟩
  ·omega
  ·exact absurd this s2
 ·exact h
 ·have := s1 t h
  rcases t2 with t2 | ⟨_, t2⟩
  ·omega
  ·exact absurd this t2
theorem Jeq (a b : Dig) : z1q a b = decide (ybq a b < 256 /\ bitN a (ybq a b) < bitN b (ybq a b)) := by
 unfold z1q ybq
 cases hd : dTo a b 32 with
 | nil => simp
 | cons x l =>
  obtain ⟨h1, h2, h3, h4⟩ := vcq hd
  simp only
  have hb := Jaq (kn a x.1) (kn b x.1) (uoq _ _) (uoq _ _) (by rw [<- h2]; exact h3)
  rw [<- h2] at hb
  obtain ⟨b1, b2, b3, b4, b5⟩ := hb
  refine decide_eq_decide.2 ?_
  unfold bitN
  rw [show (8 * x.1 + (8 - lenM x.2)) / 8 = x.1 by omega, show 7 - (8 * x.1 + (8 - lenM x.2)) % 8 = lenM x.2 - 1 by omega, b5]
  constructor
  ·exact fun h => ⟨by omega, h⟩
  ·exact fun h => h.2
theorem shared_le (a b : Dig) : ybq a b <= 256 := by
 rcases (j0q a b).2 with h | h <;> omega
theorem ofNat_u8 (n : Nat) (h : n <= 255) : (UInt8.ofNat n).toNat = n := by simp; omega
theorem kn_turn (k : Dig) (i j : Nat) (hj : j < 32) (hi : i < 256) : kn (qvq k i) j = if j = i / 8 then kn k j ^^^ 2 ^ (7 - i % 8) else kn k j := by
 unfold qvq
 rw [kn_set _ _ _ _ hj]
 by_cases h : i / 8 = j
 ·rw [if_pos h, if_pos h.symm, h, ofNat_u8]
  exact xor_le _ _ (uoq _ _) (pow_le _)
 ·rw [if_neg h, if_neg (fun e => h e.symm)]
theorem Ytq (k : Dig) (i j : Nat) (hi : i < 256) (hj : j < 256) (h : ¬ j = i) : bitN (qvq k i) j = bitN k j := by
 unfold bitN
 rw [kn_turn _ _ _ (by omega) hi]
 by_cases h8 : j / 8 = i / 8
 ·rw [if_pos h8, qZq, qZq, Nat.testBit_xor, Nat.testBit_two_pow_of_ne (by omega)]
  simp
 ·rw [if_neg h8]
theorem Yuq (k : Dig) (i : Nat) (hi : i < 256) : bitN (qvq k i) i = 1 - bitN k i := by
 unfold bitN
 rw [kn_turn _ _ _ (by omega) hi, if_pos rfl, qZq, qZq, Nat.testBit_xor, Nat.testBit_two_pow_self]
 cases (kn k (i / 8)).testBit (7 - i % 8) <;> rfl
theorem shared_eq {a b : Dig} : ybq a b = 256 ↔ a = b := by
 constructor
 ·intro h
  cases hd : dTo a b 32 with
  | nil => exact dig_ext (dTo_nil hd)
  | cons x l =>
   exfalso
   obtain ⟨h1, h2, h3, h4⟩ := vcq hd
   have hb := Jaq (kn a x.1) (kn b x.1) (uoq _ _) (uoq _ _) (by rw [<- h2]; exact h3)
   rw [<- h2] at hb
   unfold ybq at h
   rw [hd] at h
   simp only at h
   omega
 ·rintro rfl
  rcases (j0q a a).2 with h | ⟨_, h⟩
  ·exact h
  ·exact absurd rfl h
theorem yBq {a b : Dig} {d : Nat} (hd : d <= 256) : d <= ybq a b ↔ ∀ j, j < d -> bitN a j = bitN b j := by
 obtain ⟨h1, h2⟩ := j0q a b
 constructor
 ·exact fun h j hj => h1 j (by omega)
 ·intro h
  rcases h2 with h2 | ⟨h2, h3⟩
  ·omega
  ·exact Nat.le_of_not_lt fun hlt => h3 (h _ hlt)
theorem Zpq {a b : Dig} (h : ∀ j, j < 256 -> bitN a j = bitN b j) : a = b := by
 have := (yBq (a := a) (b := b) (d := 256) (Nat.le_refl _)).2 h
 have := shared_le a b
 exact shared_eq.1 (by omega)
theorem ahead_iff {a b : Dig} : z1q a b = true ↔ ∃ s, s < 256 /\ (∀ j, j < s -> bitN a j = bitN b j) /\ bitN a s = 0 /\ bitN b s = 1 := by
 rw [Jeq]
 have hs := j0q a b
 constructor
 ·intro h
  have h := of_decide_eq_true h
  refine ⟨ybq a b, h.1, hs.1, ?_, ?_⟩ <;> (have := q5q b (ybq a b); omega)
 ·rintro ⟨s, h1, h2, h3, h4⟩
  have : ybq a b = s := ucq hs ⟨h2, .inr ⟨h1, by omega⟩⟩
  rw [this]
  exact decide_eq_true ⟨h1, by omega⟩
theorem xdq {a b : Dig} (h : z1q a b = true) : a ≠ b := by
 rintro rfl
 obtain ⟨s, _, _, h3, h4⟩ := ahead_iff.1 h
 omega
theorem jBq (a : Dig) : z1q a a = false := by
 cases h : z1q a a with
 | false => rfl
 | true => exact absurd rfl (xdq h)
theorem xcq {a b c : Dig} (h1 : z1q a b = true) (h2 : z1q b c = true) : z1q a c = true := by
 obtain ⟨s, a1, a2, a3, a4⟩ := ahead_iff.1 h1
 obtain ⟨t, b1, b2, b3, b4⟩ := ahead_iff.1 h2
 refine ahead_iff.2 ?_
 rcases Nat.lt_trichotomy s t with h | h | h
 ·exact ⟨s, a1, fun j hj => (a2 j hj).trans (b2 j (by omega)), a3, by rw [<- b2 s h]; exact a4⟩
 ·subst h; omega
 ·exact ⟨t, b1, fun j hj => (a2 j (by omega)).trans (b2 j hj), by rw [a2 t h]; exact b3, b4⟩
theorem qqq {a b : Dig} (h : z1q a b = true) : z1q b a = false := by
 cases hb : z1q b a with
 | false => rfl
 | true => have := xcq h hb; rw [jBq] at this; cases this
theorem uCq {a b : Dig} (h : a ≠ b) : z1q a b = true \/ z1q b a = true := by
 have hs := j0q a b
 have h256 : ybq a b ≠ 256 := fun e => h (shared_eq.1 e)
 rcases hs.2 with h2 | ⟨h1, h2⟩
 ·exact absurd h2 h256
 ·have x1 := q5q a (ybq a b)
  have x2 := q5q b (ybq a b)
  rcases Nat.eq_zero_or_pos (bitN a (ybq a b)) with h3 | h3
  ·exact .inl (ahead_iff.2 ⟨_, h1, hs.1, h3, by omega⟩)
  ·exact .inr (ahead_iff.2 ⟨_, h1, fun j hj => (hs.1 j hj).symm, by omega, by omega⟩)
section
open Go.RowKit
section
attribute [local irreducible] CoW OpW FlW Step Spec
variable {G : Nat -> Option W}
theorem kfq (a b : Nat) : ((a : Int)).tdiv (b : Int) = ((a / b : Nat) : Int) := by rw [Int.tdiv_eq_ediv_of_nonneg (by omega)]; rfl
theorem kLq (a b : Nat) : ((a : Int)).tmod (b : Int) = ((a % b : Nat) : Int) := by rw [Int.tmod_eq_emod_of_nonneg (by omega)]; rfl
theorem dW_ld (k : Dig) {i : Nat} (h : i < 32) : ypq 50 (dW k) (0 + i * 1) 1 false = some (.int .u8 (kn k i : Nat)) := by rw [Nat.zero_add]; exact dW_get k h
theorem bit_and (x n : Nat) (hn : n <= 7) (hx : x <= 255) : Nat.land (Nat.shiftRight x (min n 8) % 256) (1 % 256) = x / 2 ^ n % 2 := by
 have h1 : Nat.shiftRight x (min n 8) = x / 2 ^ n := by rw [show min n 8 = n by omega]; exact Nat.shiftRight_eq_div_pow x n
 have h2 := Nat.div_le_self x (2 ^ n)
 rw [h1, Nat.mod_eq_of_lt (by omega)]
 exact Nat.and_one_is_mod _
theorem bit_in (k : Dig) (i : Nat) (h : i < 256) : PS cfg G 245 [dW k, .int .i64 (i : Int)] (.tup [.int .u8 (bitN k i : Nat), .int .i64 0]) := by
 have hk := uoq k (i / 8)
 refine zYq (fn := Tryz.f245) Y Y Y (Yb rfl) (fun R k0 => ?_)
 refine zhq 11 Y ?_
 refine qdq Y Y (fun h1 => ?_) (fun h1 => ?_)
 ·exfalso; omega
 refine zbq 2 Y ?_
 refine yYq Y Y ?_
 refine zbq 3 Y ?_
 refine zAq rfl (fun h2 => ?_) (fun h2 => ?_)
 ·exfalso; omega
 refine zeq 5 Y ?_
 refine ziq (i / 8) Y Y (kfq i 8) ⟨by omega, by omega⟩ ?_
 refine zaq rfl (zpq (i := i / 8) Y Y Y Y Y Y (by omega)) ?_
 refine znq rfl (ykq Y Y Y (dW_ld k (by omega))) ?_
 refine zaq Y Y (zqq Y Y (congrArg (W.int .i64) (kLq i 8)) (ziq (7 - i % 8) Y Y (by first | rfl | omega) ⟨by omega, by omega⟩ ?_))
 refine zbq 7 Y ?_
 refine zgq (.inr rfl) Y ?_
 show W.tup [.int .u8 (Nat.land (Nat.shiftRight (kn k (i / 8)) (min (7 - i % 8) 8) % 256) (1 % 256) : Nat), _] = _
 rw [bit_and _ _ (by omega) hk]
 unfold bitN
 rfl
theorem len_tabW (s : List UInt8) (h : (List.range 256).all (fun x => s[x]? == some (UInt8.ofNat (lenM x))) = true) (x : Nat) (hx : x <= 255) : s[x]? = some (UInt8.ofNat (lenM x)) := by
 have := List.all_eq_true.1 h x (List.mem_range.2 (by omega))
 simpa using this
theorem len8_s (x : Nat) (hx : x <= 255) : PS cfg G 260 [.int .u8 (x : Int)] (.int .i64 (lenM x : Nat)) := by
 have hl := lenM_le x hx
 have e : ((UInt8.ofNat (lenM x)).toNat : Int) = (lenM x : Nat) := by congr 1; simp; omega
 refine zYq (fn := Tryz.f260) Y Y Y (Yb rfl) (fun R k0 => ?_)
 refine zhq 8 Y ?_
 refine zaq rfl (ix_str Y Y Y Y Y (len_tabW _ (by decide +kernel) x hx)) ?_
 refine ziq (lenM x) Y Y e ⟨by omega, by omega⟩ ?_
 refine zbq 4 Y ?_
 exact zgq (.inr rfl) Y Y
theorem lz8_s (x : Nat) (hx : x <= 255) : PS cfg G 255 [.int .u8 (x : Int)] (.int .i64 (8 - lenM x : Nat)) := by
 have hl := lenM_le x hx
 refine zYq (fn := Tryz.f255) Y Y Y (Yb rfl) (fun R k0 => ?_)
 refine zhq 8 Y ?_
 refine zjq Y Y Y Y Y Y (len8_s _ (by omega)) ?_
 refine ziq (8 - lenM x) Y Y (by first | rfl | omega) ⟨by omega, by omega⟩ ?_
 refine zbq 4 Y ?_
 exact zgq (.inr rfl) Y Y
def encP (x : Nat × Nat) : List W := [.int .i64 (x.1 : Int), .int .u8 (x.2 : Int)]
theorem dTo_more (a b : Dig) {i : Nat} (h : i < 32) (hx : kn a i ^^^ kn b i ≠ 0) : (dTo a b 32).drop (dTo a b i).length = dOf a b i :: (dTo a b 32).drop (dTo a b (i + 1)).length := by
 have h1 := dTo_get a b i 32 h hx
 obtain ⟨hl, h2⟩ := List.getElem?_eq_some_iff.1 h1
 have hs := vbq a b i
 rw [if_neg hx] at hs
 rw [List.drop_eq_getElem_cons hl, h2, hs]
 simp
theorem dTo_same (a b : Dig) {i : Nat} (hx : kn a i ^^^ kn b i = 0) : dTo a b (i + 1) = dTo a b i := by rw [vbq, if_pos hx, List.append_nil]
theorem xor8 (x y : Nat) (hx : x <= 255) (hy : y <= 255) : Nat.xor (x % 256) (y % 256) = x ^^^ y := by rw [Nat.mod_eq_of_lt (by omega), Nat.mod_eq_of_lt (by omega)]; rfl
theorem apart_s (a b : Dig) : PS cfg G 210 [dW a, dW b] (.fn 242 [] [.fel (dW a), .fel (dW b)]) := by
 refine zYq (fn := Tryz.f210) Y Y Y (Yb rfl) (fun R k0 => ?_)
 refine zhq 14 Y ?_
 refine xGq (fr2 := [(4, _)]) (by first | exact .inr rfl | exact .inl rfl) ?_ Y Y
 (repeat (first | exact trivial | refine And.symm ⟨?_, _, rfl, ?_⟩)) <;> (repeat (first | exact .nil | refine .cons ?_ ?_ | refine .fn ?_ ?_ | (refine qeq Y ?_ rfl; (first | rfl | (focus (simp; done)))) | (refine .sl Y ?_ rfl (by intro h; cases h); (first | rfl | (focus (simp; done)))) | (refine .pur ?_; (first | rfl | (focus (simp; done)))) | refine .agg ?_ | refine .arr ?_ | refine .tup ?_))
theorem apart_it (a b : Dig) : jjq cfg G 242 [.fel (dW a), .fel (dW b)] ((dTo a b 32).map encP) := by
 refine vEq (fn := Tryz.f242) Y Y Y (Yb rfl) (fun L E R hy k0 => ?_)
 refine xXq 3 ?_
 refine zhq 9 Y ?_
 refine co_loopR (α := Nat × Res) (fun p => p.1 <= 32 /\ Yl cfg G L E (((dTo a b 32).drop (dTo a b p.1).length).map encP) p.2) (fun p => [(6, .int .i64 (p.1 : Int))]) [(0, _), (1, _), (2, _)] (fun p => []) (fun p => p.2) (fun p => 32 - p.1) ((0, R)) ⟨rfl, rfl, rfl, trivial⟩ (⟨Nat.zero_le _, by rw [dTo_zero]; exact hy⟩) ⟨rfl, trivial⟩ Y Y (fun p hI => ?_)
 obtain ⟨i, R⟩ := p
 obtain ⟨hi, hy⟩ := hI
 simp only at hi hy
 have ha := uoq a i
 have hb := uoq b i
 refine zhq 6 Y ?_
 refine zAq rfl (fun h1 => ?_) (fun h1 => ?_)
 ·have hi' : i < 32 := by omega
  refine zeq 13 Y ?_
  refine zcq rfl (ix_fel Y Y Y Y Y Y (by omega) rfl (dW_get a hi')) ?_
  refine zuq 2 Y ?_
  refine zcq rfl (ix_fel Y Y Y Y Y Y (by omega) rfl (dW_get b hi')) ?_
  refine yRq Y Y ?_
  refine jpq (w' := .int .u8 ((kn a i ^^^ kn b i : Nat) : Int)) Y Y (congrArg (fun n : Nat => W.int .u8 (n : Int)) (xor8 _ _ ha hb)) ?_
  refine zuq 6 Y ?_
  refine qdq Y Y (fun h2 => ?_) (fun h2 => ?_)
  ·have hx : kn a i ^^^ kn b i ≠ 0 := by omega
   rw [dTo_more a b hi' hx, List.map_cons] at hy
   refine zbq 4 Y ?_
   refine zzq rfl (jVq Y Y Y (hy) (fun b R1 hb => ?_))
   refine zbq 4 Y ?_
   refine zAq rfl (fun h3 => ?_) (fun h3 => ?_)
   ·cases b with
    | true => cases h3
    | false =>
     refine zeq 3 Y ?_
     refine qAq (by intro h; cases h) ?_
     refine zDq 1 Y ?_
     refine kpq (by intro l h; cases h) ?_
     exact x7q (.inl rfl) rfl hb
   ·cases b with
    | false => exact absurd rfl h3
    | true =>
     refine zeq 4 Y ?_
     refine ziq (i + 1) Y Y (by first | rfl | omega) ⟨by omega, by omega⟩ ?_
     refine yLq 2 Y ?_
     exact q_againR ((i + 1, R1)) (⟨hi', hb⟩) (by simp only; omega) (Nat.zero_le _) ⟨rfl, trivial⟩ ⟨rfl, rfl, rfl, trivial⟩ (by repeat (first | exact trivial | refine ⟨by first | rfl | exact zfq (by first | rfl | (simp; done)), ?_⟩)) (by repeat (first | exact trivial | refine ⟨by first | rfl | exact zfq (by first | rfl | (simp; done)), ?_⟩)) (by omega) (by repeat (first | exact trivial | refine ⟨⟨by decide, rfl, by first | rfl | exact zfq (by first | rfl | (simp; done))⟩, ?_⟩)) (by first | decide | simp) rfl
  ·have hx : kn a i ^^^ kn b i = 0 := by omega
   rw [<- dTo_same a b hx] at hy
   refine zbq 14 Y ?_
   refine ziq (i + 1) Y Y (by first | rfl | omega) ⟨by omega, by omega⟩ ?_
   refine yLq 2 Y ?_
   exact q_againR ((i + 1, R)) (⟨hi', hy⟩) (by simp only; omega) (Nat.zero_le _) ⟨rfl, trivial⟩ ⟨rfl, rfl, rfl, trivial⟩ (by repeat (first | exact trivial | refine ⟨by first | rfl | exact zfq (by first | rfl | (simp; done)), ?_⟩)) (by repeat (first | exact trivial | refine ⟨by first | rfl | exact zfq (by first | rfl | (simp; done)), ?_⟩)) (by omega) (by repeat (first | exact trivial | refine ⟨⟨by decide, rfl, by first | rfl | exact zfq (by first | rfl | (simp; done))⟩, ?_⟩)) (by first | decide | simp) rfl
 ·refine zeq 2 Y ?_
  refine qAq (by intro h; cases h) ?_
  refine zDq 1 Y ?_
  refine kpq (by intro l h; cases h) ?_
  have : i = 32 := by omega
  subst this
  rw [List.drop_length] at hy
  exact x7q (.inl rfl) rfl hy
theorem encP_ok {l : List (Nat × Nat)} : ∀ y ∈ l, purL (encP y) = true /\ (encP y).length = 2 := fun y _ => ⟨rfl, rfl⟩
theorem head_of {α : Type} {l : List α} {x : α} {i : Nat} (h : l[i]? = some x) (hi : i = 0) : ∃ r, l = x :: r := by
 subst hi
 cases l with
 | nil => simp at h
 | cons y r => simp at h; subst h; exact ⟨r, rfl⟩
theorem shared_s (a b : Dig) : PS cfg G 243 [dW a, dW b] (.int .i64 (ybq a b : Nat)) := by
 refine zYq (fn := Tryz.f243) Y Y Y (Yb rfl) (fun R k0 => ?_)
 refine zhq 12 Y ?_
 refine zjq Y Y Y Y Y Y (apart_s _ _) ?_
 refine zbq 3 Y ?_
 refine Ykq (encP) (dTo a b 32) (fun i => i = 0) rfl (by first | rfl | assumption | (simp; done)) (apart_it a b) (encP_ok) (rfl) (fun i y hy hI => ?_) (fun hI => ?_)
 ·obtain ⟨r, hr⟩ := head_of hy hI
  obtain ⟨h1, h2, h3, h4⟩ := vcq hr
  have hb := xor_le _ _ (uoq a y.1) (uoq b y.1)
  rw [<- h2] at hb
  have hl := lenM_le y.2 hb
  refine zhq 8 Y ?_
  refine q_asg ?_
  refine zhq 4 Y ?_
  refine ziq (8 * y.1) Y Y (by first | rfl | omega) ⟨by omega, by omega⟩ ?_
  refine zaq Y Y (zjq Y Y Y Y Y Y (lz8_s _ (by omega)) ?_)
  refine ziq (8 * y.1 + (8 - lenM y.2)) Y Y (by first | rfl | omega) ⟨by omega, by omega⟩ ?_
  refine zbq 5 Y ?_
  refine q_leave (by intro h; cases h) ?_
  refine zDq 2 Y ?_
  refine zgq (.inr rfl) Y ?_
  unfold ybq
  rw [hr]
 ·have : dTo a b 32 = [] := List.eq_nil_of_length_eq_zero hI
  refine zDq 8 Y ?_
  refine zgq (.inr rfl) Y ?_
  unfold ybq
  rw [this]
  rfl
theorem ahead_s (a b : Dig) : PS cfg G 155 [dW a, dW b] (.bool (z1q a b)) := by
 refine zYq (fn := Tryz.f155) Y Y Y (Yb rfl) (fun R k0 => ?_)
 refine zhq 12 Y ?_
 refine zjq Y Y Y Y Y Y (apart_s _ _) ?_
 refine zbq 3 Y ?_
 refine Ykq (encP) (dTo a b 32) (fun i => i = 0) rfl (by first | rfl | assumption | (simp; done)) (apart_it a b) (encP_ok) (rfl) (fun i y hy hI => ?_) (fun hI => ?_)
 ·obtain ⟨r, hr⟩ := head_of hy hI
  obtain ⟨h1, h2, h3, h4⟩ := vcq hr
  refine zhq 3 Y ?_
  refine q_asg ?_
  refine zhq 4 Y ?_
  refine zcq rfl (zpq (i := y.1) Y Y Y Y Y Y h1) ?_
  refine yHq rfl (ykq Y Y Y (dW_ld a h1)) (by first | rfl | kernel_rfl) ?_
  refine zcq Y Y (zcq rfl (zpq (i := y.1) Y Y Y Y Y Y h1) ?_)
  refine yHq rfl (ykq Y Y Y (dW_ld b h1)) (by first | rfl | kernel_rfl) ?_
  refine fl_cz Y Y ?_
  refine zuq 5 Y ?_
  refine q_leave (by intro h; cases h) ?_
  refine zDq 2 Y ?_
  refine zgq (.inr rfl) Y ?_
  unfold z1q
  rw [hr]
  congr 1
  simp
 ·have : dTo a b 32 = [] := List.eq_nil_of_length_eq_zero hI
  refine zDq 8 Y ?_
  refine zgq (.inr rfl) Y ?_
  unfold z1q
  rw [this]
theorem shr8 (n : Nat) (hn : n <= 7) : Nat.shiftRight 128 (min n 8) = 2 ^ (7 - n) := by
 have h : ∀ n, n <= 7 -> Nat.shiftRight 128 (min n 8) = 2 ^ (7 - n) := by decide +kernel
 exact h n hn
theorem turn_in (k : Dig) (i : Nat) (h : i < 256) : PS cfg G 244 [dW k, .int .i64 (i : Int)] (.tup [dW (qvq k i), .int .i64 0]) := by
 have hk := uoq k (i / 8)
 have hp := pow_le (i % 8)
 have hx := xor_le _ _ hk hp
 have e1 : Nat.xor (kn k (i / 8) % 256) (Nat.shiftRight 128 (min (i % 8) 8) % 256) = kn k (i / 8) ^^^ 2 ^ (7 - i % 8) := by
  rw [shr8 _ (by omega)]; exact xor8 _ _ hk hp
 refine zYq (fn := Tryz.f244) Y Y Y (Yb rfl) (fun R k0 => ?_)
 refine zhq 11 Y ?_
 refine qdq Y Y (fun h1 => ?_) (fun h1 => ?_)
 ·exfalso; omega
 refine zbq 2 Y ?_
 refine yYq Y Y ?_
 refine zbq 3 Y ?_
 refine zAq rfl (fun h2 => ?_) (fun h2 => ?_)
 ·exfalso; omega
 refine zeq 5 Y ?_
 refine qtq (i / 8) Y Y (kfq i 8) ⟨by omega, by omega⟩ ?_
 refine zcq rfl (zpq (i := i / 8) Y Y Y Y Y Y (by omega)) ?_
 refine yHq rfl (ykq Y Y Y (dW_ld k (by omega))) (by first | rfl | kernel_rfl) ?_
 refine zcq Y Y (jpq Y Y (congrArg (W.int .i64) (kLq i 8)) (zcq Y Y (jpq (w' := .int .u8 ((kn k (i / 8) ^^^ 2 ^ (7 - i % 8) : Nat) : Int)) Y Y (congrArg (fun n : Nat => W.int .u8 (n : Int)) e1) (zcq rfl (zpq (i := i / 8) Y Y Y Y Y Y (by omega)) ?_))))
 refine yHq rfl (jOq Y Y Y Y Y (qzq (i := 0 + i / 8 * 1) (by rw [Nat.zero_add, Nat.mul_one]; exact dW_at k (by omega)) Y Y) rfl) (by first | rfl | kernel_rfl) ?_
 refine zuq 10 Y ?_
 refine zgq (.inr rfl) Y ?_
 rw [Nat.zero_add, Nat.mul_one, dW_set k (i / 8) (by omega)]
 unfold qvq
 rfl
end
end
def beB : Nat -> Nat -> List UInt8
 | 0, _ => []
 | s + 1, n => UInt8.ofNat (n / 256 ^ s % 256) :: beB s n
def numB (l : List UInt8) : Nat := l.foldl (fun a c => 256 * a + c.toNat) 0
@[simp] theorem qxq : ∀ s n, (beB s n).length = s
 | 0, _ => rfl
 | s + 1, n => by simp [beB, qxq s n]
theorem numB_snoc (l : List UInt8) (c : UInt8) : numB (l ++ [c]) = 256 * numB l + c.toNat := by simp [numB, List.foldl_append]
theorem QMq : ∀ (l : List UInt8) (a : Nat), l.foldl (fun a c => 256 * a + c.toNat) a = a * 256 ^ l.length + numB l
 | [], a => by simp [numB]
 | c :: l, a => by
  simp only [List.foldl_cons, numB, List.length_cons]
  rw [QMq l, QMq l (256 * 0 + c.toNat), Nat.pow_succ]
  simp only [Nat.add_mul, Nat.mul_zero, Nat.zero_add, Nat.add_assoc]
  congr 1
  rw [Nat.mul_comm 256 a, Nat.mul_assoc, Nat.mul_comm 256]
theorem numB_cons (c : UInt8) (l : List UInt8) : numB (c :: l) = c.toNat * 256 ^ l.length + numB l := by
 show (c :: l).foldl _ 0 = _
 rw [List.foldl_cons, QMq]; simp
theorem ZTq : ∀ l : List UInt8, numB l < 256 ^ l.length
 | [] => by simp [numB]
 | c :: l => by
  rw [numB_cons, List.length_cons, Nat.pow_succ]
  have := ZTq l
  have hc := c.toNat_lt
  have : c.toNat * 256 ^ l.length <= 255 * 256 ^ l.length := Nat.mul_le_mul_right _ (by omega)
  omega
theorem numB_be : ∀ s n, numB (beB s n) = n % 256 ^ s
 | 0, n => by simp [beB, numB, Nat.mod_one]
 | s + 1, n => by
  rw [beB, numB_cons, qxq, numB_be s n]
  have h1 : (UInt8.ofNat (n / 256 ^ s % 256)).toNat = n / 256 ^ s % 256 := by simp
  rw [h1, Nat.pow_succ, Nat.mod_mul, Nat.mul_comm (n / 256 ^ s % 256)]
  omega
section
open Go.RowKit
section
attribute [local irreducible] CoW OpW FlW Step Spec
variable {G : Nat -> Option W}
theorem Ylq (l : List UInt8) (f : Bool) (hl : l.length <= 70368744177664) : PS cfg G 88 [.fz (zdq l) 1 f] (bW l) := by
 refine zYq (fn := Tryz.f88) Y Y Y (Yb rfl) (fun R k0 => ?_)
 refine zhq 9 Y ?_
 first | refine zaq Y Y ?_ | refine zzq rfl (step_nil Y Y Y Y Y (fun bn hn => ?_))
 refine zbq 2 Y ?_
 refine zAq rfl (fun h1 => ?_) (fun h1 => ?_)
 ·cases bn with
  | false => cases h1
  | true =>
   have hn := hn rfl
   have hl0 : l = [] := by cases l with
    | nil => rfl
    | cons c l => simp [zdq] at hn
   subst hl0
   refine zeq 7 Y ?_
   refine xGq (fr2 := [(2, bW [])]) (.inr rfl) ⟨⟨_, rfl, .nilfz⟩, trivial⟩ Y Y
 ·cases l with
  | nil =>
   skip
   refine zeq 6 Y ?_
   refine znq rfl (y5q Y Y (vNq Y Y Y Y Y)) ?_
   refine zbq 4 Y ?_
   refine xGq (fr2 := [(2, bW [])]) (.inr rfl) ⟨⟨_, rfl, .sl Y Y Y (by intro h; cases h)⟩, trivial⟩ Y Y
  | cons c l =>
   simp only [List.length_cons] at hl
   refine zeq 6 Y ?_
   refine znq rfl (y5q Y Y (qOq (news := zdq (c :: l)) (olds := []) Y Y Y Y Y (by simp [zdq]) (by show (0 + (zdq (c :: l)).length) * 1 <= _; rw [zkq]; simp only [List.length_cons]; omega) (by rw [zkq]; simp only [List.length_cons]; omega) rfl (by show 0 < 0 + (0 + (zdq (c :: l)).length) * 1; rw [zkq]; simp only [List.length_cons]; omega) Y Y)) ?_
   refine zbq 4 Y ?_
   refine xGq (fr2 := [(2, bW (c :: l))]) (.inr rfl) ⟨⟨_, rfl, .sl rfl (by simp) (jZq (by simp) (Nat.mul_one _)) (by intro h; cases h)⟩, trivial⟩ Y Y
theorem end_s (l : List UInt8) (f : Bool) : PS cfg G 178 [.fz (zdq l) 1 f] (.int .i64 (if l = [] then 0 else 11)) := by
 have e := zkq l
 refine zYq (fn := Tryz.f178) Y Y Y (Yb rfl) (fun R k0 => ?_)
 refine zhq 9 Y ?_
 first | refine ZOq Y Y ?_ | refine zaq Y Y ?_
 refine zbq 3 Y ?_
 refine zAq rfl (fun h1 => ?_) (fun h1 => ?_)
 ·refine zeq 7 Y ?_
  have : l ≠ [] := by rintro rfl; simp [zdq] at h1
  exact zgq (.inr rfl) rfl (by rw [if_neg this])
 ·refine zeq 8 Y ?_
  have : l = [] := List.eq_nil_of_length_eq_zero (by rw [<- e]; simpa using h1)
  exact zgq (.inr rfl) rfl (by rw [if_pos this])
theorem shr_byte (n i : Nat) (hi : i <= 8) : Nat.shiftRight n (min (8 * i) 64) % 256 = n / 256 ^ i % 256 := by
 have : Nat.shiftRight n (min (8 * i) 64) = n / 2 ^ (8 * i) := by rw [show min (8 * i) 64 = 8 * i by omega]; exact Nat.shiftRight_eq_div_pow _ _
 rw [this, Nat.pow_mul]
theorem be_at (n size i : Nat) (hi : i < size) : (zdq (List.replicate (size - i) 0 ++ beB i n))[0 + (size - 1 - i) * 1]? = some (.int .u8 (.ofNat 0)) := by
 refine vgq (c := 0) ?_
 rw [List.getElem?_append_left (by simp; omega), List.getElem?_replicate, if_pos (by omega)]
theorem be_set (n size i : Nat) (hi : i < size) : (zdq (List.replicate (size - i) 0 ++ beB i n)).set (0 + (size - 1 - i) * 1) (.int .u8 ((n / 256 ^ i % 256 : Nat) : Int)) = zdq (List.replicate (size - (i + 1)) 0 ++ beB (i + 1) n) := by
 have e : size - i = (size - (i + 1)) + 1 := by omega
 have e2 : 0 + (size - 1 - i) * 1 = size - (i + 1) := by omega
 rw [e, e2, List.replicate_succ', List.append_assoc, yVq, yVq, List.set_append_right _ _ (by simp [zdq])]
 simp only [zdq, List.length_map, List.length_replicate, Nat.sub_self, List.singleton_append, List.map_cons, List.set_cons_zero, beB]
 congr 2
 simp
theorem be_zero (n size : Nat) : zdq (List.replicate (size - 0) 0 ++ beB 0 n) = List.replicate size (.int .u8 0) := by simp [zdq, beB]
theorem put_s (n size : Nat) (hs : 1 <= size) (hs8 : size <= 8) (hn : n < 256 ^ size) : qkq cfg G 230 0 [.int .u64 (n : Int), .int .i64 (size : Int)] [] fun w hp nw =>
  w = .tup [.sl 0 0 0 size 1 none, .int .i64 0] /\ hp = [(0, 5, .arr (size * 1) 1 (zdq (beB size n)))] /\ nw = 1 := by
 intro R
 have hq : size < 8 -> Nat.shiftRight n (min (8 * size) 64) = 0 := fun h => by
  rw [show min (8 * size) 64 = 8 * size by omega, show Nat.shiftRight n (8 * size) = n / 2 ^ (8 * size) from Nat.shiftRight_eq_div_pow _ _, Nat.pow_mul]
  exact Nat.div_eq_of_lt hn
 refine z0q (fn := Tryz.f230) Y Y Y (Yb rfl) (fun k0 => ?_)
 refine zhq 11 Y ?_
 refine qdq Y Y (fun h1 => ?_) (fun h1 => ?_)
 ·exfalso; omega
 refine zbq 2 Y ?_
 refine yYq Y Y ?_
 refine zbq 4 Y ?_
 refine zAq rfl (fun h2 => ?_) (fun h2 => ?_)
 ·exfalso; omega
 refine zeq 3 Y ?_
 refine qdq Y Y (fun h3 => ?_) (fun h3 => ?_)
 ·have h8 := hq (by omega)
  refine zbq 3 Y ?_
  refine ziq (8 * size) Y Y (by first | rfl | omega) ⟨by omega, by omega⟩ ?_
  refine zaq Y Y (yYq Y Y ?_)
  refine zbq 4 Y ?_
  refine zAq rfl (fun h4 => ?_) (fun h4 => ?_)
  ·skip
   exfalso
   have h4 : (0 : Int) < (Nat.shiftRight n (min (8 * size) 64) : Nat) := h4
   rw [h8] at h4
   omega
  ·refine zeq 6 Y ?_
   refine znq rfl (QNq (l := size) (c := size) Y Y Y Y Y Y Y Y (Nat.le_refl _) (by show 1 * size <= _; omega) (by omega) Y Y) ?_
   refine zbq 11 Y ?_
   refine qNq (α := Nat) (fun i => i <= size) (fun i => [(28, .int .i64 (i : Int))]) [(0, _), (1, _), (4, _), (5, _), (6, _), (27, _)] (fun i => [(0, 5, .arr (size * 1) 1 (zdq (List.replicate (size - i) 0 ++ beB i n)))]) (fun i => size - i) (0) ⟨rfl, rfl, rfl, rfl, rfl, rfl, trivial⟩ (Nat.zero_le _) ⟨rfl, trivial⟩ (by rw [be_zero]; rfl) (fun i hI => ?_)
   refine zhq 6 Y ?_
   refine zAq rfl (fun h5 => ?_) (fun h5 => ?_)
   ·have hi : i < size := by omega
    refine zeq 13 Y ?_
    refine ziq (size - 1) Y Y (by first | rfl | omega) ⟨by omega, by omega⟩ ?_
    refine zaq Y Y (ziq (size - 1 - i) Y Y (by first | rfl | omega) ⟨by omega, by omega⟩ ?_)
    refine zbq 2 Y ?_
    refine ziq (8 * i) Y Y (by first | rfl | omega) ⟨by omega, by omega⟩ ?_
    refine zaq Y Y (zqq (w' := .int .u8 ((n / 256 ^ i % 256 : Nat) : Int)) Y Y (congrArg (fun n : Nat => W.int .u8 (n : Int)) (shr_byte n i (by omega))) ?_)
    refine zaq rfl (zFq (i := size - 1 - i) Y Y Y Y Y Y Y (by omega)) ?_
    refine znq rfl (jOq Y Y Y Y Y (qzq (be_at n size i hi) Y Y) (congrArg (fun L => [(0, 5, W.arr (size * 1) 1 L)]) (be_set n size i hi))) ?_
    refine zbq 4 Y ?_
    refine ziq (i + 1) Y Y (by first | rfl | omega) ⟨by omega, by omega⟩ ?_
    refine yLq 2 Y ?_
    exact jcq (i + 1) (hi) (by omega) ⟨rfl, trivial⟩ ⟨rfl, rfl, rfl, rfl, rfl, rfl, trivial⟩ rfl
   ·refine zeq 2 Y ?_
    refine qAq (by intro h; cases h) ?_
    refine zDq 10 Y ?_
    have : i = size := by omega
    subst this
    refine fin (.inr rfl) Ent.refl rfl ⟨rfl, rfl, ?_, rfl⟩
    rw [Nat.sub_self]
    rfl
 ·refine zbq 17 Y ?_
  refine znq rfl (QNq (l := size) (c := size) Y Y Y Y Y Y Y Y (Nat.le_refl _) (by show 1 * size <= _; omega) (by omega) Y Y) ?_
  refine zbq 11 Y ?_
  refine qNq (α := Nat) (fun i => i <= size) (fun i => [(28, .int .i64 (i : Int))]) [(0, _), (1, _), (4, _), (5, _), (6, _), (27, _)] (fun i => [(0, 5, .arr (size * 1) 1 (zdq (List.replicate (size - i) 0 ++ beB i n)))]) (fun i => size - i) (0) ⟨rfl, rfl, rfl, rfl, rfl, rfl, trivial⟩ (Nat.zero_le _) ⟨rfl, trivial⟩ (by rw [be_zero]; rfl) (fun i hI => ?_)
  refine zhq 6 Y ?_
  refine zAq rfl (fun h4 => ?_) (fun h4 => ?_)
  ·have hi : i < size := by omega
   refine zeq 13 Y ?_
   refine ziq (size - 1) Y Y (by first | rfl | omega) ⟨by omega, by omega⟩ ?_
   refine zaq Y Y (ziq (size - 1 - i) Y Y (by first | rfl | omega) ⟨by omega, by omega⟩ ?_)
   refine zbq 2 Y ?_
   refine ziq (8 * i) Y Y (by first | rfl | omega) ⟨by omega, by omega⟩ ?_
   refine zaq Y Y (zqq (w' := .int .u8 ((n / 256 ^ i % 256 : Nat) : Int)) Y Y (congrArg (fun n : Nat => W.int .u8 (n : Int)) (shr_byte n i (by omega))) ?_)
   refine zaq rfl (zFq (i := size - 1 - i) Y Y Y Y Y Y Y (by omega)) ?_
   refine znq rfl (jOq Y Y Y Y Y (qzq (be_at n size i hi) Y Y) (congrArg (fun L => [(0, 5, W.arr (size * 1) 1 L)]) (be_set n size i hi))) ?_
   refine zbq 4 Y ?_
   refine ziq (i + 1) Y Y (by first | rfl | omega) ⟨by omega, by omega⟩ ?_
   refine yLq 2 Y ?_
   exact jcq (i + 1) (hi) (by omega) ⟨rfl, trivial⟩ ⟨rfl, rfl, rfl, rfl, rfl, rfl, trivial⟩ rfl
  ·refine zeq 2 Y ?_
   refine qAq (by intro h; cases h) ?_
   refine zDq 10 Y ?_
   have : i = size := by omega
   subst this
   refine fin (.inr rfl) Ent.refl rfl ⟨rfl, rfl, ?_, rfl⟩
   rw [Nat.sub_self]
   rfl
theorem shl8 (n : Nat) : (Int.ofNat (Nat.shiftLeft n (min 8 64))) = ((256 * n : Nat) : Int) := by
 rw [show Nat.shiftLeft n (min 8 64) = n * 2 ^ 8 from Nat.shiftLeft_eq n 8, Nat.mul_comm]; rfl
theorem or_low (n c : Nat) (hn : 256 * n < 18446744073709551616) (hc : c < 256) : Nat.lor (256 * n % 18446744073709551616) (c % 18446744073709551616) = 256 * n + c := by
 rw [Nat.mod_eq_of_lt hn, Nat.mod_eq_of_lt (by omega)]
 have := Nat.two_pow_add_eq_or_of_lt (i := 8) (b := c) (by omega) n
 rw [Nat.mul_comm] at this
 rw [show Nat.lor (256 * n) c = 256 * n ||| c from rfl, Nat.mul_comm 256 n]
 rw [Nat.mul_comm] at this
 rw [Nat.mul_comm n 256]
 exact this.symm
theorem pow256_le {i : Nat} (h : i <= 8) : 256 ^ i <= 18446744073709551616 := by
 have h' : ∀ i, i <= 8 -> 256 ^ i <= 18446744073709551616 := by decide
 exact h' i h
theorem numB_take {l : List UInt8} {i : Nat} {c : UInt8} (h : l[i]? = some c) : numB (l.take (i + 1)) = 256 * numB (l.take i) + c.toNat := by
 rw [List.take_add_one, h]
 exact numB_snoc _ _
theorem vXq {l : List UInt8} {i : Nat} (h : i <= 7) : 256 * numB (l.take i) < 18446744073709551616 := by
 have h1 := ZTq (l.take i)
 have h2 : 256 ^ (l.take i).length <= 256 ^ i := Nat.pow_le_pow_right (by omega) (by simp; omega)
 have h3 := pow256_le (i := i + 1) (by omega)
 rw [Nat.pow_succ] at h3
 omega
theorem kwq (l : List UInt8) (f : Bool) (size : Nat) (hs : 1 <= size) (hs8 : size <= 8) (hl : l.length < size) : PS cfg G 177 [.fz (zdq l) 1 f, .int .i64 (size : Int)] (.tup [.int .u64 0, .nils, .int .i64 10]) := by
 have e := zkq l
 refine zYq (fn := Tryz.f177) Y Y Y (Yb rfl) (fun R k0 => ?_)
 refine zhq 12 Y ?_
 refine qdq Y Y (fun h1 => ?_) (fun h1 => ?_)
 ·exfalso; omega
 refine zbq 2 Y ?_
 refine yYq Y Y ?_
 refine zbq 4 Y ?_
 refine zAq rfl (fun h2 => ?_) (fun h2 => ?_)
 ·exfalso; omega
 refine zeq 3 Y ?_
 refine zqq (w' := .int .i64 (l.length : Int)) Y Y (by rw [<- e]; rfl) ?_
 refine zaq Y Y (yYq Y Y ?_)
 refine zbq 3 Y ?_
 refine zAq rfl (fun h3 => ?_) (fun h3 => ?_)
 ·refine zeq 10 Y ?_
  first | exact zgq (.inr rfl) Y Y | exact zgq (.inl rfl) Y Y | (exfalso; omega)
 ·exfalso; omega
theorem xeq (l : List UInt8) (f : Bool) (size : Nat) (hs : 1 <= size) (hs8 : size <= 8) (hl : size <= l.length) (hb : l.length <= 70368744177664) : PS cfg G 177 [.fz (zdq l) 1 f, .int .i64 (size : Int)] (.tup [.int .u64 (numB (l.take size) : Nat), bW (l.drop size), .int .i64 0]) := by
 have e := zkq l
 have el : (l.take size).length = size := by simp; omega
 refine zYq (fn := Tryz.f177) Y Y Y (Yb rfl) (fun R k0 => ?_)
 refine zhq 12 Y ?_
 refine qdq Y Y (fun h1 => ?_) (fun h1 => ?_)
 ·exfalso; omega
 refine zbq 2 Y ?_
 refine yYq Y Y ?_
 refine zbq 4 Y ?_
 refine zAq rfl (fun h2 => ?_) (fun h2 => ?_)
 ·exfalso; omega
 refine zeq 3 Y ?_
 refine zqq (w' := .int .i64 (l.length : Int)) Y Y (by rw [<- e]; rfl) ?_
 refine zaq Y Y (yYq Y Y ?_)
 refine zbq 3 Y ?_
 refine zAq rfl (fun h3 => ?_) (fun h3 => ?_)
 ·exfalso; omega
 refine zeq 9 Y ?_
 refine zaq rfl (cut_fz3 (ys := zdq (l.take size)) (l := 0) (h := size) (m := size) Y Y Y Y Y Y Y Y (Nat.zero_le _) (Nat.le_refl _) (by omega) hs (by rw [List.drop_zero, Nat.sub_zero, Yqq]) rfl) ?_
 refine zqq (w' := .int .i64 (size : Int)) Y Y (by show W.int .i64 ((zdq (l.take size)).length : Int) = _; rw [zkq, el]) ?_
 refine zbq 4 Y ?_
 refine y0q (α := Nat) (fun i => i <= size) (fun i => [(26, .int .i64 (i : Int)), (4, .int .u64 (numB (l.take i) : Nat))]) [(0, _), (1, _), (5, _), (6, _), (24, _), (25, _)] (fun i => size - i) (0) ⟨rfl, rfl, rfl, rfl, rfl, rfl, trivial⟩ (Nat.zero_le _) ⟨rfl, rfl, trivial⟩ (fun i hI => ?_)
 refine zhq 6 Y ?_
 refine zAq rfl (fun h4 => ?_) (fun h4 => ?_)
 ·have hi : i < size := by omega
  obtain ⟨c, hc⟩ : ∃ c, l[i]? = some c := ⟨_, List.getElem?_eq_getElem (by omega)⟩
  have hc2 : (l.take size)[i]? = some c := by rw [List.getElem?_take, if_pos hi]; exact hc
  have hcl := c.toNat_lt
  have hn := vXq (l := l) (i := i) (by omega)
  refine zeq 6 Y ?_
  refine zaq rfl (zBq (i := i) Y Y Y Y Y Y Y (vgq hc2)) ?_
  refine zbq 6 Y ?_
  refine ziq (256 * numB (l.take i)) Y Y (shl8 _) ⟨by omega, by omega⟩ ?_
  refine zaq Y Y (ziq (c.toNat) Y Y (by first | rfl | omega) ⟨by omega, by omega⟩ ?_)
  refine zqq (w' := .int .u64 (numB (l.take (i + 1)) : Nat)) Y Y (congrArg (fun n : Nat => W.int .u64 (n : Int)) ((or_low _ _ hn hcl).trans (numB_take hc).symm)) ?_
  refine zbq 5 Y ?_
  refine ziq (i + 1) Y Y (by first | rfl | omega) ⟨by omega, by omega⟩ ?_
  refine yLq 2 Y ?_
  exact yhq (i + 1) (hi) (by omega) ⟨rfl, rfl, trivial⟩ ⟨rfl, rfl, rfl, rfl, rfl, rfl, trivial⟩ (by repeat (first | exact trivial | refine ⟨by first | rfl | exact zfq (by first | rfl | (simp; done)), ?_⟩)) (by omega) (by repeat (first | exact zNq | refine zQq (by omega) ?_ | refine zOq (by omega) ?_ | refine zPq (by omega) ?_)) rfl
 ·have : i = size := by omega
  subst this
  refine zeq 2 Y ?_
  refine yfq (by intro h; cases h) ?_
  refine zDq 7 Y ?_
  refine zaq rfl (vdq (ys := zdq (l.drop i)) (l := i) (h := (zdq l).length) Y Y Y Y Y Y Y (by omega) (Nat.le_refl _) (by rw [List.take_of_length_le (by simp), Yrq]) rfl) ?_
  refine zjq Y Y Y Y Y Y (Ylq _ _ (by first | assumption | (simp; omega))) ?_
  refine zbq 6 Y ?_
  exact zgq (.inr rfl) Y Y
end
section
attribute [local irreducible] CoW OpW FlW Step Spec
variable {G : Nat -> Option W}
structure Acct where
 nonce : Nat
 balance : Nat
 deriving DecidableEq
def Acct.ok (a : Acct) : Prop := a.nonce < 18446744073709551616 /\ a.balance < 18446744073709551616
def Acct.zero : Acct := ⟨0, 0⟩
def aW (a : Acct) : W := .agg 2 [.int .u64 (a.nonce : Int), .int .u64 (a.balance : Int)]
@[simp] theorem aW_pur (a : Acct) : purW (aW a) = true := rfl
def qJq (a : Acct) : List UInt8 := beB 8 a.nonce ++ beB 8 a.balance
def qoq (l : List UInt8) : Acct × Nat := if l.length < 16 then (.zero, 10) else if 16 < l.length then (.zero, 11) else
 if (⟨numB (l.take 8), numB (l.drop 8)⟩ : Acct) = .zero then (.zero, 8) else (⟨numB (l.take 8), numB (l.drop 8)⟩, 0)
theorem vMq (a : Acct) : (qJq a).length = 16 := by simp [qJq]
theorem vwq (a : Acct) (h : a.ok) (h0 : a ≠ .zero) : qoq (qJq a) = (a, 0) := by
 have e1 : (qJq a).take 8 = beB 8 a.nonce := List.take_left' (by simp)
 have e2 : (qJq a).drop 8 = beB 8 a.balance := List.drop_left' (by simp)
 unfold qoq
 rw [vMq, if_neg (by omega), if_neg (by omega), e1, e2, numB_be, numB_be, Nat.mod_eq_of_lt (by exact h.1), Nat.mod_eq_of_lt (by exact h.2), if_neg h0]
theorem Q2q (a b : Acct) : eqW cfg 300 110 (aW a) (aW b) = some (decide (a = b)) := by
 have e : decide (a = b) = (decide ((a.nonce : Int) = b.nonce) && (decide ((a.balance : Int) = b.balance) && true)) := by
  cases a; cases b
  simp only [Acct.mk.injEq, Bool.and_true]
  rw [Bool.eq_iff_iff]
  simp only [decide_eq_true_eq, Bool.and_eq_true]
  omega
 rw [e]
 exact eq_struct Y Y Y Y (eqFs_step Y Y Y (eq_int Y Y) (eqFs_step Y Y Y (eq_int Y Y) eqFs_nil))
theorem abytes_s (a : Acct) (h : a.ok) : PS cfg G 180 [aW a] (bW (qJq a)) := by
 have h1 : a.nonce < 256 ^ 8 := h.1
 have h2 : a.balance < 256 ^ 8 := h.2
 refine zYq (fn := Tryz.f180) Y Y Y (Yb rfl) (fun R k0 => ?_)
 have l1 : (zdq (beB 8 a.nonce)).length = 8 := by rw [zkq, qxq]
 have l2 : (zdq (beB 8 a.balance)).length = 8 := by rw [zkq, qxq]
 refine zhq 10 Y ?_
 ((refine zzq rfl (yOq (ext := []) Y Y Y Y Y (put_s _ 8 (by omega) (by omega) (by assumption)) List.nodup_nil (by simp) (by simp) (fun i ty w h => by simp [hget] at h) Y ?_); rintro w hp1 nw1 ⟨rfl, rfl, rfl⟩))
 refine zbq 11 Y ?_
 ((refine zzq rfl (yOq (ext := []) Y Y Y Y Y (put_s _ 8 (by omega) (by omega) (by assumption)) List.nodup_nil (by simp) (by simp) (fun i ty w h => by simp [hget] at h) Y ?_); rintro w hp1 nw1 ⟨rfl, rfl, rfl⟩))
 refine zbq 11 Y ?_
 refine znq rfl (y5q Y Y (qOq (k := ti5) (len := 8) (news := zdq (beB 8 a.balance)) (olds := zdq (beB 8 a.nonce)) Y Y Y Y (qsq Y Y Y (jZq (n := 8) (m := 8) l2.symm rfl)) (by intro h; rw [h] at l2; simp at l2) (by rw [l2]; decide) (by rw [l2]; decide) rfl (by show 8 * 1 < 0 + (8 + (zdq (beB 8 a.balance)).length) * 1; rw [l2]; omega) rfl (jZq (n := 8) (m := 8) l1.symm rfl))) ?_
 refine zbq 4 Y ?_
 refine xGq (fr2 := [(2, bW (qJq a))]) (.inr rfl) ⟨⟨_, rfl, .sl (xs := zdq (qJq a)) rfl (by simp) ?_ (by intro h; cases h)⟩, trivial⟩ Y Y
 rw [qJq, yVq, l2]
 exact jZq (n := 16) (by rw [List.length_append, l1, l2]) rfl
theorem aread_s (l : List UInt8) (f : Bool) (hb : l.length <= 70368744177664) : PS cfg G 112 [.fz (zdq l) 1 f] (.tup [aW (qoq l).1, .int .i64 ((qoq l).2 : Nat)]) := by
 by_cases q1 : l.length < 8
 ·have e : qoq l = (.zero, 10) := by unfold qoq; rw [if_pos (by omega)]
  rw [e]
  refine zYq (fn := Tryz.f112) Y Y Y (Yb rfl) (fun R k0 => ?_)
  refine zhq 15 Y ?_
  refine zjq Y Y Y Y Y Y (kwq _ _ 8 (by omega) (by omega) q1) ?_
  refine zbq 27 Y ?_
  exact zgq (.inr rfl) Y Y
 have q2 : (l.drop 8).length = l.length - 8 := by simp
 by_cases q3 : l.length < 16
 ·have e : qoq l = (.zero, 10) := by unfold qoq; rw [if_pos q3]
  rw [e]
  refine zYq (fn := Tryz.f112) Y Y Y (Yb rfl) (fun R k0 => ?_)
  refine zhq 15 Y ?_
  first | (first | refine zjq Y Y Y Y Y Y (xeq l _ 8 (by omega) (by omega) (by omega) hb) ?_ | refine zjq Y Y Y Y Y Y (kwq (l.drop 8) _ 8 (by omega) (by omega) (by omega)) ?_) | refine zjq Y Y Y Y Y Y (xeq _ _ 8 (by omega) (by omega) (by omega) hb) ?_ | refine zjq Y Y Y Y Y Y (kwq _ _ 8 (by omega) (by omega) q1) ?_
  refine zbq 23 Y ?_
  first | (first | refine zjq Y Y Y Y Y Y (xeq l _ 8 (by omega) (by omega) (by omega) hb) ?_ | refine zjq Y Y Y Y Y Y (kwq (l.drop 8) _ 8 (by omega) (by omega) (by omega)) ?_) | refine zjq Y Y Y Y Y Y (xeq _ _ 8 (by omega) (by omega) (by omega) hb) ?_ | refine zjq Y Y Y Y Y Y (kwq _ _ 8 (by omega) (by omega) q1) ?_
  refine zbq 27 Y ?_
  exact zgq (.inr rfl) Y Y
 have e3 : (l.drop 8).drop 8 = [] ↔ l.length = 16 := by rw [List.drop_drop, List.drop_eq_nil_iff]; omega
 by_cases q4 : 16 < l.length
 ·have e : qoq l = (.zero, 11) := by unfold qoq; rw [if_neg q3, if_pos q4]
  have e4 : ¬ (l.drop 8).drop 8 = [] := fun h => by have := e3.1 h; omega
  rw [e]
  refine zYq (fn := Tryz.f112) Y Y Y (Yb rfl) (fun R k0 => ?_)
  refine zhq 15 Y ?_
  (first | refine zjq Y Y Y Y Y Y (xeq l _ 8 (by omega) (by omega) (by omega) hb) ?_ | refine zjq Y Y Y Y Y Y (xeq (l.drop 8) _ 8 (by omega) (by omega) (by omega) (by omega)) ?_)
  refine zbq 23 Y ?_
  (first | refine zjq Y Y Y Y Y Y (xeq l _ 8 (by omega) (by omega) (by omega) hb) ?_ | refine zjq Y Y Y Y Y Y (xeq (l.drop 8) _ 8 (by omega) (by omega) (by omega) (by omega)) ?_)
  refine zbq 24 Y ?_
  refine zjq Y Y Y Y Y Y (yMq (w' := .int .i64 11) (end_s _ _) (by rw [if_neg e4])) ?_
  refine yYq Y Y ?_
  refine zbq 14 Y ?_
  exact zgq (.inr rfl) Y Y
 ·have e4 : (l.drop 8).drop 8 = [] := e3.2 (by omega)
  have e5 : (l.drop 8).take 8 = l.drop 8 := List.take_of_length_le (by omega)
  refine zYq (fn := Tryz.f112) Y Y Y (Yb rfl) (fun R k0 => ?_)
  refine zhq 15 Y ?_
  (first | refine zjq Y Y Y Y Y Y (xeq l _ 8 (by omega) (by omega) (by omega) hb) ?_ | refine zjq Y Y Y Y Y Y (xeq (l.drop 8) _ 8 (by omega) (by omega) (by omega) (by omega)) ?_)
  refine zbq 23 Y ?_
  (first | refine zjq Y Y Y Y Y Y (xeq l _ 8 (by omega) (by omega) (by omega) hb) ?_ | refine zjq Y Y Y Y Y Y (xeq (l.drop 8) _ 8 (by omega) (by omega) (by omega) (by omega)) ?_)
  refine zbq 24 Y ?_
  refine zjq Y Y Y Y Y Y (yMq (w' := .int .i64 0) (end_s _ _) (by rw [if_pos e4])) ?_
  refine yYq Y Y ?_
  refine zbq 8 Y ?_
  refine zaq rfl (qKq Y Y Y Y (Q2q ⟨numB (l.take 8), numB ((l.drop 8).take 8)⟩ .zero)) ?_
  refine zbq 3 Y ?_
  refine zAq rfl (fun h1 => ?_) (fun h1 => ?_)
  ·refine zeq 10 Y ?_
   have e : qoq l = (.zero, 8) := by
    rw [e5] at h1
    unfold qoq; rw [if_neg q3, if_neg q4, if_pos h1]
   rw [e]
   exact zgq (.inr rfl) Y Y
  ·refine zeq 11 Y ?_
   have e : qoq l = (⟨numB (l.take 8), numB (l.drop 8)⟩, 0) := by
    rw [e5] at h1
    unfold qoq; rw [if_neg q3, if_neg q4, if_neg h1]
   rw [e]
   exact zgq (.inr rfl) rfl (by rw [e5]; rfl)
end
end
abbrev Pr := Dig × List UInt8
inductive T where
 | nil
 | leaf (k : Dig) (v : List UInt8)
 | fork (l r : T)
 deriving Inhabited
def T.all : T -> List Pr
 | .nil => []
 | .leaf k v => [(k, v)]
 | .fork l r => l.all ++ r.all
def T.isFork : T -> Bool
 | .fork _ _ => true
 | _ => false
def T.non : T -> Bool
 | .nil => false
 | _ => true
def T.two (l r : T) : Bool := l.isFork || r.isFork || (l.non && r.non)
def T.ok : Nat -> Dig -> T -> Bool
 | _, _, .nil => true
 | d, b, .leaf k _ => decide (d <= ybq k b)
 | d, b, .fork l r => decide (d < 256) && T.ok (d + 1) b l && T.ok (d + 1) (qvq b d) r && T.two l r
def T.find (k : Dig) : Nat -> T -> Option (List UInt8)
 | _, .nil => none
 | _, .leaf k' v => if k' = k then some v else none
 | d, .fork l r => if bitN k d = 0 then l.find k (d + 1) else r.find k (d + 1)
def T.roads (d : Nat) : T -> T × T
 | .nil => (.nil, .nil)
 | .leaf k v => if bitN k d = 0 then (.leaf k v, .nil) else (.nil, .leaf k v)
 | .fork l r => (l, r)
def T.put (k : Dig) (v : List UInt8) : Nat -> T -> T
 | _, .nil => .leaf k v
 | 0, .leaf _ _ => .leaf k v
 | 0, .fork l r => .fork l r
 | f + 1, .leaf k' v' => if k' = k then .leaf k v else
  if bitN k (255 - f) = 0 then .fork (T.put k v f (T.roads (255 - f) (.leaf k' v')).1) (T.roads (255 - f) (.leaf k' v')).2
  else .fork (T.roads (255 - f) (.leaf k' v')).1 (T.put k v f (T.roads (255 - f) (.leaf k' v')).2)
 | f + 1, .fork l r => if bitN k (255 - f) = 0 then .fork (T.put k v f l) r else .fork l (T.put k v f r)
def T.alone (l r : T) : Option T :=
 match l, r with
 | .nil, .nil => some .nil
 | .nil, .leaf k v => some (.leaf k v)
 | .leaf k v, .nil => some (.leaf k v)
 | _, _ => none
def T.join (l r : T) : T := (T.alone l r).getD (.fork l r)
def T.drop (k : Dig) : Nat -> T -> T
 | _, .nil => .nil
 | _, .leaf _ _ => .nil
 | d, .fork l r => if bitN k d = 0 then T.join (l.drop k (d + 1)) r else T.join l (r.drop k (d + 1))
def Srt (l : List Pr) : Prop := l.Pairwise fun a b => z1q a.1 b.1 = true
def klq (l : List Pr) (k : Dig) (v : List UInt8) : List Pr := l.filter (fun p => z1q p.1 k) ++ (k, v) :: l.filter (fun p => z1q k p.1)
def zKq (l : List Pr) (k : Dig) : List Pr := l.filter fun p => decide (p.1 ≠ k)
def q3q (l : List Pr) (k : Dig) : Option (List UInt8) := (l.find? fun p => decide (p.1 = k)).map (·.2)
theorem findL_none {l : List Pr} {k : Dig} : q3q l k = none ↔ ∀ p ∈ l, p.1 ≠ k := by
 simp only [q3q, Option.map_eq_none_iff, List.find?_eq_none, decide_eq_true_eq]
theorem srt_uniq {l : List Pr} (h : Srt l) {p q : Pr} (hp : p ∈ l) (hq : q ∈ l) (e : p.1 = q.1) : p = q := by
 induction l with
 | nil => simp at hp
 | cons x l ih =>
  have h := List.pairwise_cons.1 h
  simp only [List.mem_cons] at hp hq
  rcases hp with rfl | hp <;> rcases hq with rfl | hq
  ·rfl
  ·exact absurd e (xdq (h.1 q hq))
  ·exact absurd e.symm (xdq (h.1 p hp))
  ·exact ih h.2 hp hq
theorem jWq {l : List Pr} (h : Srt l) {k : Dig} {v : List UInt8} : q3q l k = some v ↔ (k, v) ∈ l := by
 simp only [q3q, Option.map_eq_some_iff]
 constructor
 ·rintro ⟨⟨k', v'⟩, h1, rfl⟩
  have h2 := List.find?_some h1
  have := List.mem_of_find?_eq_some h1
  simp only [decide_eq_true_eq] at h2
  subst h2; exact this
 ·intro hm
  cases hf : l.find? fun p => decide (p.1 = k) with
  | none =>
   have := List.find?_eq_none.1 hf _ hm
   simp at this
  | some p =>
   have h2 := List.find?_some hf
   have h3 := List.mem_of_find?_eq_some hf
   simp only [decide_eq_true_eq] at h2
   have := srt_uniq h h3 hm h2
   exact ⟨p, rfl, by rw [this]⟩
theorem mem_withL {l : List Pr} {k : Dig} {v : List UInt8} {p : Pr} : p ∈ klq l k v ↔ p = (k, v) \/ (p ∈ l /\ p.1 ≠ k) := by
 simp only [klq, List.mem_append, List.mem_filter, List.mem_cons]
 constructor
 ·rintro (⟨h1, h2⟩ | rfl | ⟨h1, h2⟩)
  ·exact .inr ⟨h1, xdq h2⟩
  ·exact .inl rfl
  ·exact .inr ⟨h1, fun e => xdq h2 e.symm⟩
 ·rintro (rfl | ⟨h1, h2⟩)
  ·exact .inr (.inl rfl)
  ·rcases uCq h2 with h | h
   ·exact .inl ⟨h1, h⟩
   ·exact .inr (.inr ⟨h1, h⟩)
theorem Zyq {l : List Pr} (h : Srt l) (k : Dig) (v : List UInt8) : Srt (klq l k v) := by
 refine List.pairwise_append.2 ⟨List.Pairwise.filter _ h, List.pairwise_cons.2 ⟨fun p hp => (List.mem_filter.1 hp).2, List.Pairwise.filter _ h⟩, fun p hp q hq => ?_⟩
 have hp := (List.mem_filter.1 hp).2
 rcases List.mem_cons.1 hq with rfl | hq
 ·exact hp
 ·exact xcq hp (List.mem_filter.1 hq).2
theorem mem_withoutL {l : List Pr} {k : Dig} {p : Pr} : p ∈ zKq l k ↔ p ∈ l /\ p.1 ≠ k := by simp [zKq]
theorem vUq {l : List Pr} (h : Srt l) (k : Dig) : Srt (zKq l k) := List.Pairwise.filter _ h
theorem findL_with {l : List Pr} (h : Srt l) (k o : Dig) (v : List UInt8) : q3q (klq l k v) o = if o = k then some v else q3q l o := by
 split
 ·rename_i e; subst e
  exact (jWq (Zyq h _ _)).2 (mem_withL.2 (.inl rfl))
 ·rename_i hne
  cases hf : q3q l o with
  | none =>
   refine findL_none.2 fun p hp e => ?_
   rcases mem_withL.1 hp with rfl | ⟨h1, h2⟩
   ·exact hne e.symm
   ·exact findL_none.1 hf p h1 e
  | some w => exact (jWq (Zyq h _ _)).2 (mem_withL.2 (.inr ⟨(jWq h).1 hf, hne⟩))
theorem QYq {l : List Pr} (h : Srt l) (k o : Dig) : q3q (zKq l k) o = if o = k then none else q3q l o := by
 split
 ·rename_i e; subst e
  exact findL_none.2 fun p hp => (mem_withoutL.1 hp).2
 ·rename_i hne
  cases hf : q3q l o with
  | none => exact findL_none.2 fun p hp => findL_none.1 hf p (mem_withoutL.1 hp).1
  | some w => exact (jWq (vUq h _)).2 (mem_withoutL.2 ⟨(jWq h).1 hf, hne⟩)
def Zr (d : Nat) (b : Dig) : Prop := ∀ j, d <= j -> j < 256 -> bitN b j = 0
theorem jsq {d : Nat} {b : Dig} (h : Zr d b) : Zr (d + 1) b := fun j h1 h2 => h j (by omega) h2
theorem jrq {d : Nat} {b : Dig} (h : Zr d b) (hd : d < 256) : Zr (d + 1) (qvq b d) := fun j h1 h2 => by rw [Ytq b d j hd h2 (by omega)]; exact h j (by omega) h2
theorem kIq : Zr 0 jkq := fun j _ hj => by
 unfold bitN
 have : kn jkq (j / 8) = 0 := by
  unfold kn jkq
  simp only [List.getElem?_replicate]
  split <;> rfl
 rw [this]; simp
theorem Qpq {b : Dig} {d : Nat} (hd : d < 256) {j : Nat} (hj : j < d) : bitN (qvq b d) j = bitN b j := Ytq b d j hd (by omega) (by omega)
theorem side_l {b k : Dig} {d : Nat} (hz : Zr d b) (hd : d < 256) (h : d + 1 <= ybq k b) : d <= ybq k b /\ bitN k d = 0 :=
 ⟨by omega, by rw [(yBq (by omega)).1 h d (by omega)]; exact hz d (Nat.le_refl _) hd⟩
theorem side_r {b k : Dig} {d : Nat} (hz : Zr d b) (hd : d < 256) (h : d + 1 <= ybq k (qvq b d)) : d <= ybq k b /\ bitN k d = 1 := by
 have h1 := (yBq (by omega)).1 h
 refine ⟨(yBq (by omega)).2 fun j hj => ?_, ?_⟩
 ·rw [h1 j (by omega), Qpq hd hj]
 ·rw [h1 d (by omega), Yuq b d hd, hz d (Nat.le_refl _) hd]
theorem kQq {b k : Dig} {d : Nat} (hz : Zr d b) (hd : d < 256) (h : d <= ybq k b) (hb : bitN k d = 0) : d + 1 <= ybq k b := by
 refine (yBq (by omega)).2 fun j hj => ?_
 rcases Nat.lt_succ_iff_lt_or_eq.1 hj with hj | rfl
 ·exact (yBq (by omega)).1 h j hj
 ·rw [hb, hz j (Nat.le_refl _) hd]
theorem kPq {b k : Dig} {d : Nat} (hz : Zr d b) (hd : d < 256) (h : d <= ybq k b) (hb : ¬ bitN k d = 0) : d + 1 <= ybq k (qvq b d) := by
 refine (yBq (by omega)).2 fun j hj => ?_
 rcases Nat.lt_succ_iff_lt_or_eq.1 hj with hj | rfl
 ·rw [Qpq hd hj]; exact (yBq (by omega)).1 h j hj
 ·rw [Yuq b j hd, hz j (Nat.le_refl _) hd]
  have := q5q k j
  omega
theorem ok_fork {d : Nat} {b : Dig} {l r : T} : T.ok d b (.fork l r) = true ↔ d < 256 /\ T.ok (d + 1) b l = true /\ T.ok (d + 1) (qvq b d) r = true /\ T.two l r = true := by
 simp only [T.ok, Bool.and_eq_true, decide_eq_true_eq, and_assoc]
theorem xwq : ∀ {t : T} {d : Nat} {b : Dig}, Zr d b -> t.ok d b = true -> ∀ p ∈ t.all, d <= ybq p.1 b
 | .nil, _, _, _, _, p, hp => by simp [T.all] at hp
 | .leaf k v, d, b, _, h, p, hp => by
  simp only [T.all, List.mem_singleton] at hp
  subst hp
  exact of_decide_eq_true h
 | .fork l r, d, b, hz, h, p, hp => by
  obtain ⟨hd, h1, h2, _⟩ := ok_fork.1 h
  simp only [T.all, List.mem_append] at hp
  rcases hp with hp | hp
  ·exact (side_l hz hd (xwq (jsq hz) h1 p hp)).1
  ·exact (side_r hz hd (xwq (jrq hz hd) h2 p hp)).1
theorem ok_bits {l r : T} {d : Nat} {b : Dig} (hz : Zr d b) (h : (T.fork l r).ok d b = true) : (∀ p ∈ l.all, bitN p.1 d = 0) /\ ∀ p ∈ r.all, bitN p.1 d = 1 := by
 obtain ⟨hd, h1, h2, _⟩ := ok_fork.1 h
 exact ⟨fun p hp => (side_l hz hd (xwq (jsq hz) h1 p hp)).2, fun p hp => (side_r hz hd (xwq (jrq hz hd) h2 p hp)).2⟩
theorem viq {a b c : Dig} {d : Nat} (hd : d < 256) (ha : d <= ybq a c) (hb : d <= ybq b c) (h0 : bitN a d = 0) (h1 : bitN b d = 1) : z1q a b = true :=
 ahead_iff.2 ⟨d, hd, fun j hj => by rw [(yBq (by omega)).1 ha j hj, (yBq (by omega)).1 hb j hj], h0, h1⟩
theorem ok_srt : ∀ {t : T} {d : Nat} {b : Dig}, Zr d b -> t.ok d b = true -> Srt t.all
 | .nil, _, _, _, _ => List.Pairwise.nil
 | .leaf k v, _, _, _, _ => List.pairwise_singleton _ _
 | .fork l r, d, b, hz, h => by
  obtain ⟨hd, h1, h2, _⟩ := ok_fork.1 h
  refine List.pairwise_append.2 ⟨ok_srt (jsq hz) h1, ok_srt (jrq hz hd) h2, fun p hp q hq => ?_⟩
  have a1 := side_l hz hd (xwq (jsq hz) h1 p hp)
  have a2 := side_r hz hd (xwq (jrq hz hd) h2 q hq)
  exact viq hd a1.1 a2.1 a1.2 a2.2
theorem xEq (k : Dig) : ∀ {t : T} {d : Nat} {b : Dig}, Zr d b -> t.ok d b = true -> t.find k d = q3q t.all k
 | .nil, _, _, _, _ => rfl
 | .leaf k' v, _, _, _, _ => by
  simp only [T.find, T.all, q3q, List.find?_cons, List.find?_nil]
  by_cases e : k' = k <;> simp [e]
 | .fork l r, d, b, hz, h => by
  obtain ⟨hd, h1, h2, _⟩ := ok_fork.1 h
  obtain ⟨k1, k2⟩ := ok_bits hz h
  have i1 := xEq k (jsq hz) h1
  have i2 := xEq k (jrq hz hd) h2
  simp only [T.find, T.all, q3q, List.find?_append]
  simp only [q3q] at i1 i2
  split
  ·rename_i hb
   have : r.all.find? (fun p => decide (p.1 = k)) = none := List.find?_eq_none.2 fun p hp e => by
    have := k2 p hp
    rw [of_decide_eq_true e] at this; omega
   rw [this, Option.or_none, i1]
  ·rename_i hb
   have : l.all.find? (fun p => decide (p.1 = k)) = none := List.find?_eq_none.2 fun p hp e => by
    have := k1 p hp
    rw [of_decide_eq_true e] at this; omega
   rw [this, Option.none_or, i2]
theorem QEq (k : Dig) (v : List UInt8) : ∀ (f : Nat) (t : T), (t.put k v f).non = true
 | f, .nil => by cases f <;> rfl
 | 0, .leaf _ _ => rfl
 | 0, .fork _ _ => rfl
 | f + 1, .leaf k' v' => by
  simp only [T.put]
  split
  ·rfl
  ·split <;> rfl
 | f + 1, .fork l r => by
  simp only [T.put]
  split <;> rfl
theorem put_fork (k : Dig) (v : List UInt8) (f : Nat) {t : T} (h : t.isFork = true) : (t.put k v f).isFork = true := by
 cases t with
 | nil => cases h
 | leaf _ _ => cases h
 | fork l r =>
  cases f with
  | zero => rfl
  | succ f => simp only [T.put]; split <;> rfl
theorem tput_leaf (k k' : Dig) (v v' : List UInt8) (f : Nat) (h : k' ≠ k) : ((T.leaf k' v').put k v (f + 1)).isFork = true := by
 simp only [T.put, if_neg h]
 split <;> rfl
theorem two_l {l l' r : T} (h : T.two l r = true) (h1 : l.isFork = true -> l'.isFork = true) (h2 : l'.non = true) : T.two l' r = true := by
 cases l <;> cases l' <;> cases r <;> simp [T.two, T.isFork, T.non] at h h1 h2 ⊢
theorem two_r {l r r' : T} (h : T.two l r = true) (h1 : r.isFork = true -> r'.isFork = true) (h2 : r'.non = true) : T.two l r' = true := by
 cases l <;> cases r <;> cases r' <;> simp [T.two, T.isFork, T.non] at h h1 h2 ⊢
theorem QZq {l : List Pr} {p : Pr -> Bool} (h : ∀ x ∈ l, p x = true) : l.filter p = l := List.filter_eq_self.2 h
theorem Z5q {l : List Pr} {p : Pr -> Bool} (h : ∀ x ∈ l, p x = false) : l.filter p = [] := List.filter_eq_nil_iff.2 fun x hx => by rw [h x hx]; exact Bool.false_ne_true
theorem withL_l {l r : List Pr} {k : Dig} (v : List UInt8) (h : ∀ p ∈ r, z1q k p.1 = true) : klq (l ++ r) k v = klq l k v ++ r := by
 simp only [klq, List.filter_append]
 rw [Z5q (l := r) (p := fun p => z1q p.1 k) fun p hp => qqq (h p hp), QZq (l := r) (p := fun p => z1q k p.1) h]
 simp
theorem withL_r {l r : List Pr} {k : Dig} (v : List UInt8) (h : ∀ p ∈ l, z1q p.1 k = true) : klq (l ++ r) k v = l ++ klq r k v := by
 simp only [klq, List.filter_append]
 rw [QZq (l := l) (p := fun p => z1q p.1 k) h, Z5q (l := l) (p := fun p => z1q k p.1) fun p hp => qqq (h p hp)]
 simp
theorem withL_one (k : Dig) (v v' : List UInt8) : klq [(k, v')] k v = [(k, v)] := by
 simp [klq, jBq]
theorem kgq (k : Dig) (v : List UInt8) : ∀ (f : Nat) (t : T) {d : Nat} {b : Dig}, d + f = 256 -> Zr d b -> t.ok d b = true -> d <= ybq k b -> (t.put k v f).ok d b = true /\ (t.put k v f).all = klq t.all k v
 | f, .nil, d, b, _, hz, h, hk => by
  cases f <;> exact ⟨decide_eq_true hk, by simp [T.put, T.all, klq]⟩
 | 0, .leaf k' v', d, b, hf, hz, h, hk => by
  have h := of_decide_eq_true h
  have : k' = k := Zpq fun j hj => by rw [(yBq (by omega)).1 h j (by omega), (yBq (by omega)).1 hk j (by omega)]
  subst this
  exact ⟨decide_eq_true hk, by simp only [T.put, T.all]; rw [withL_one]⟩
 | 0, .fork l r, d, b, hf, hz, h, hk => by
  obtain ⟨hd, _⟩ := ok_fork.1 h
  omega
 | f + 1, .leaf k' v', d, b, hf, hz, h, hk => by
  have hd : d < 256 := by omega
  have ed : 255 - f = d := by omega
  have h := of_decide_eq_true h
  simp only [T.put, ed]
  by_cases e : k' = k
  ·subst e
   simp only [if_true]
   exact ⟨decide_eq_true hk, by simp only [T.all]; rw [withL_one]⟩
  ·rw [if_neg e]
   have b1 := q5q k' d
   have b2 := q5q k d
   by_cases hb : bitN k d = 0
   ·rw [if_pos hb]
    by_cases hb' : bitN k' d = 0
    ·simp only [T.roads, hb', if_true]
     have hs : (T.leaf k' v').ok (d + 1) b = true := decide_eq_true (kQq hz hd h hb')
     obtain ⟨i1, i2⟩ := kgq k v f (.leaf k' v') (d := d + 1) (by omega) (jsq hz) hs (kQq hz hd hk hb)
     refine ⟨ok_fork.2 ⟨hd, i1, rfl, ?_⟩, by simp only [T.all, List.append_nil]; exact i2⟩
     cases f with
     | zero =>
      exfalso
      refine e (Zpq fun j hj => ?_)
      rcases Nat.lt_or_ge j d with h1 | h1
      ·rw [(yBq (by omega)).1 h j h1, (yBq (by omega)).1 hk j h1]
      ·have : j = d := by omega
       rw [this, hb, hb']
     | succ f => simp only [T.two, tput_leaf k k' v v' f e, Bool.true_or]
    ·simp only [T.roads, hb', if_false]
     obtain ⟨i1, i2⟩ := kgq k v f .nil (d := d + 1) (by omega) (jsq hz) rfl (kQq hz hd hk hb)
     refine ⟨ok_fork.2 ⟨hd, i1, decide_eq_true (kPq hz hd h hb'), ?_⟩, ?_⟩
     ·rw [show T.put k v f .nil = .leaf k v by cases f <;> rfl]; rfl
     ·simp only [T.all]
      have ha : z1q k k' = true := viq hd hk h hb (by omega)
      have e0 : (T.put k v f .nil).all = [(k, v)] := by cases f <;> rfl
      rw [e0]
      simp [klq, ha, qqq ha]
   ·rw [if_neg hb]
    by_cases hb' : bitN k' d = 0
    ·simp only [T.roads, hb', if_true]
     obtain ⟨i1, i2⟩ := kgq k v f .nil (d := d + 1) (by omega) (jrq hz hd) rfl (kPq hz hd hk hb)
     refine ⟨ok_fork.2 ⟨hd, decide_eq_true (kQq hz hd h hb'), i1, ?_⟩, ?_⟩
     ·rw [show T.put k v f .nil = .leaf k v by cases f <;> rfl]; rfl
     ·simp only [T.all]
      have ha : z1q k' k = true := viq hd h hk hb' (by omega)
      have e0 : (T.put k v f .nil).all = [(k, v)] := by cases f <;> rfl
      rw [e0]
      simp [klq, ha, qqq ha]
    ·simp only [T.roads, hb', if_false]
     have hs : (T.leaf k' v').ok (d + 1) (qvq b d) = true := decide_eq_true (kPq hz hd h hb')
     obtain ⟨i1, i2⟩ := kgq k v f (.leaf k' v') (d := d + 1) (by omega) (jrq hz hd) hs (kPq hz hd hk hb)
     refine ⟨ok_fork.2 ⟨hd, rfl, i1, ?_⟩, by simp only [T.all, List.nil_append]; exact i2⟩
     cases f with
     | zero =>
      exfalso
      refine e (Zpq fun j hj => ?_)
      rcases Nat.lt_or_ge j d with h1 | h1
      ·rw [(yBq (by omega)).1 h j h1, (yBq (by omega)).1 hk j h1]
      ·have : j = d := by omega
       rw [this]; omega
     | succ f => simp only [T.two, tput_leaf k k' v v' f e, Bool.true_or, Bool.or_true]
 | f + 1, .fork l r, d, b, hf, hz, h, hk => by
  have hd : d < 256 := by omega
  have ed : 255 - f = d := by omega
  obtain ⟨_, h1, h2, h3⟩ := ok_fork.1 h
  obtain ⟨k1, k2⟩ := ok_bits hz h
  simp only [T.put, ed]
  have b2 := q5q k d
  split
  ·rename_i hb
   obtain ⟨i1, i2⟩ := kgq k v f l (d := d + 1) (by omega) (jsq hz) h1 (kQq hz hd hk hb)
   refine ⟨ok_fork.2 ⟨hd, i1, h2, two_l h3 (put_fork k v f) (QEq k v f l)⟩, ?_⟩
   simp only [T.all, i2]
   exact (withL_l v fun p hp => viq hd hk (side_r hz hd (xwq (jrq hz hd) h2 p hp)).1 hb (k2 p hp)).symm
  ·rename_i hb
   obtain ⟨i1, i2⟩ := kgq k v f r (d := d + 1) (by omega) (jrq hz hd) h2 (kPq hz hd hk hb)
   refine ⟨ok_fork.2 ⟨hd, h1, i1, two_r h3 (put_fork k v f) (QEq k v f r)⟩, ?_⟩
   simp only [T.all, i2]
   exact (withL_r v fun p hp => viq hd (side_l hz hd (xwq (jsq hz) h1 p hp)).1 hk (k1 p hp) (by omega)).symm
theorem join_all (l r : T) : (T.join l r).all = l.all ++ r.all := by
 cases l <;> cases r <;> simp [T.join, T.alone, T.all]
theorem ok_up {t : T} {d : Nat} {b : Dig} (h : t.ok (d + 1) b = true) (hf : t.isFork = false) : t.ok d b = true := by
 cases t with
 | nil => rfl
 | leaf k v => exact decide_eq_true (by have := of_decide_eq_true h; omega)
 | fork l r => cases hf
theorem ok_upr {t : T} {d : Nat} {b : Dig} (hd : d < 256) (h : t.ok (d + 1) (qvq b d) = true) (hf : t.isFork = false) : t.ok d b = true := by
 cases t with
 | nil => rfl
 | leaf k v =>
  have h := of_decide_eq_true h
  refine decide_eq_true ((yBq (by omega)).2 fun j hj => ?_)
  rw [(yBq (by omega)).1 h j (by omega), Qpq hd hj]
 | fork l r => cases hf
theorem join_ok {l r : T} {d : Nat} {b : Dig} (hd : d < 256) (h1 : l.ok (d + 1) b = true) (h2 : r.ok (d + 1) (qvq b d) = true) : (T.join l r).ok d b = true := by
 cases l <;> cases r <;> simp only [T.join, T.alone, Option.getD_some, Option.getD_none]
 ·rfl
 ·exact ok_upr hd h2 rfl
 ·exact ok_fork.2 ⟨hd, h1, h2, rfl⟩
 ·exact ok_up h1 rfl
 ·exact ok_fork.2 ⟨hd, h1, h2, rfl⟩
 ·exact ok_fork.2 ⟨hd, h1, h2, rfl⟩
 ·exact ok_fork.2 ⟨hd, h1, h2, rfl⟩
 ·exact ok_fork.2 ⟨hd, h1, h2, rfl⟩
 ·exact ok_fork.2 ⟨hd, h1, h2, rfl⟩
theorem q9q {l : List Pr} {k : Dig} (h : ∀ p ∈ l, p.1 ≠ k) : zKq l k = l := List.filter_eq_self.2 fun p hp => decide_eq_true (h p hp)
theorem u9q (k : Dig) : ∀ (t : T) {d : Nat} {b : Dig}, Zr d b -> t.ok d b = true -> (t.find k d).isSome = true -> (t.drop k d).ok d b = true /\ (t.drop k d).all = zKq t.all k
 | .nil, d, b, _, _, h => by simp [T.find] at h
 | .leaf k' v, d, b, _, _, h => by
  simp only [T.find] at h
  split at h
  ·rename_i e; subst e
   exact ⟨rfl, by simp [T.drop, T.all, zKq]⟩
  ·cases h
 | .fork l r, d, b, hz, h, hs => by
  obtain ⟨hd, h1, h2, h3⟩ := ok_fork.1 h
  obtain ⟨k1, k2⟩ := ok_bits hz h
  simp only [T.find] at hs
  simp only [T.drop, T.all, zKq, List.filter_append]
  split
  ·rename_i hb
   rw [if_pos hb] at hs
   obtain ⟨i1, i2⟩ := u9q k l (jsq hz) h1 hs
   refine ⟨join_ok hd i1 h2, ?_⟩
   rw [join_all, i2]
   congr 1
   exact (q9q fun p hp e => by have := k2 p hp; rw [e] at this; omega).symm
  ·rename_i hb
   rw [if_neg hb] at hs
   obtain ⟨i1, i2⟩ := u9q k r (jrq hz hd) h2 hs
   refine ⟨join_ok hd h1 i1, ?_⟩
   rw [join_all, i2]
   congr 1
   exact (q9q fun p hp e => by have := k1 p hp; rw [e] at this; omega).symm
section
open Go.RowKit
section
attribute [local irreducible] CoW OpW FlW Step Spec
variable {G : Nat -> Option W}
def pW (x : Pr) : W := .agg 33 [dW x.1, bW x.2]
@[simp] theorem pW_pur (x : Pr) : purW (pW x) = true := by simp [pW]
structure Node where
 leaf : Bool
 key : Dig
 val : List UInt8
 left : Int
 right : Int
def nW (x : Node) : W := .agg 36 [.bool x.leaf, dW x.key, bW x.val, .int .i64 x.left, .int .i64 x.right]
@[simp] theorem nW_pur (x : Node) : purW (nW x) = true := by simp [nW]
def forkN (l r : Int) : Node := ⟨false, jkq, [], l, r⟩
theorem tbit_s (k : Dig) (d : Nat) (h : d < 256) : PS cfg G 214 [dW k, .int .i64 (d : Int)] (.int .u8 (bitN k d : Nat)) := by
 refine zYq (fn := Tryz.f214) Y Y Y (Yb rfl) (fun R k0 => ?_)
 refine zhq 10 Y ?_
 refine zjq Y Y Y Y Y Y (bit_in _ _ (by omega)) ?_
 refine zbq 14 Y ?_
 first | exact zgq (.inr rfl) Y Y | exact zgq (.inl rfl) Y Y | (exfalso; omega)
theorem j2q (x : Node) : PS cfg G 212 [nW x] (.arr 2 1 [.int .i64 x.left, .int .i64 x.right]) := by
 refine zYq (fn := Tryz.f212) Y Y Y (Yb rfl) (fun R k0 => ?_)
 refine zhq 17 Y ?_
 first | exact zgq (.inr rfl) Y Y | exact zgq (.inl rfl) Y Y | (exfalso; omega)
theorem joq (l r : Int) : PS cfg G 215 [.arr 2 1 [.int .i64 l, .int .i64 r]] (nW (forkN l r)) := by
 refine j6q (fn := Tryz.f215) Y Y Y (Yb rfl) (fun R k0 => ?_)
 refine zhq 8 Y ?_
 first | refine zaq rfl (zBq Y Y Y Y Y Y Y (by first | assumption | (simp; done))) ?_ | refine zaq rfl (zFq Y Y Y Y Y Y Y (by omega)) ?_ | refine zaq rfl (zpq Y Y Y Y Y Y (by omega)) ?_ | refine zaq Y Y ?_
 refine znq Y Y ?_
 first | refine zaq rfl (zBq Y Y Y Y Y Y Y (by first | assumption | (simp; done))) ?_ | refine zaq rfl (zFq Y Y Y Y Y Y Y (by omega)) ?_ | refine zaq rfl (zpq Y Y Y Y Y Y (by omega)) ?_ | refine zaq Y Y ?_
 refine zbq 6 Y ?_
 refine keq (by first | exact .inr rfl | exact .inl rfl) Y ?_
 (repeat (first | exact .nil | refine .cons ?_ ?_ | exact jaq | exact .nilfz | refine .fn ?_ ?_ | (refine qeq Y ?_ rfl; (first | rfl | (focus (simp; done)))) | (refine .sl Y ?_ rfl (by intro h; cases h); (first | rfl | (focus (simp; done)))) | (refine .pur ?_; (first | rfl | (focus (simp; done)))) | (refine .fzw ?_; (first | rfl | (focus (simp; done)))) | refine .agg ?_ | refine .arr ?_ | refine .tup ?_))
def valB (l : List UInt8) : Bool := decide (0 < l.length) && decide (l.length <= 64)
theorem value_s (l : List UInt8) (f : Bool) : PS cfg G 154 [.fz (zdq l) 1 f] (.bool (valB l)) := by
 have e := zkq l
 refine zYq (fn := Tryz.f154) Y Y Y (Yb rfl) (fun R k0 => ?_)
 refine zhq 8 Y ?_
 refine zqq (w' := .int .i64 (l.length : Int)) Y Y (by rw [<- e]; rfl) ?_
 refine qdq Y Y (fun h1 => ?_) (fun h1 => ?_)
 ·refine zbq 2 Y ?_
  refine zqq (w' := .int .i64 (l.length : Int)) Y Y (by rw [<- e]; rfl) ?_
  refine yYq Y Y ?_
  refine zbq 5 Y ?_
  have h0 : 0 < l.length := by omega
  exact zgq (.inr rfl) rfl (by unfold valB; congr 1; rw [decide_eq_true h0, Bool.true_and, decide_eq_decide]; omega)
 ·refine zbq 9 Y ?_
  have h0 : ¬ 0 < l.length := by omega
  exact zgq (.inr rfl) rfl (by unfold valB; rw [decide_eq_false h0]; rfl)
def okAt (ps : List Pr) (i : Nat) : Prop := ∀ x, ps[i]? = some x -> valB x.2 = true /\ ∀ y, 0 < i -> ps[i - 1]? = some y -> z1q y.1 x.1 = true
def MayP (ps : List Pr) : Prop := ps.length <= 512 /\ ∀ i, i < ps.length -> okAt ps i
instance (ps : List Pr) : Decidable (MayP ps) := Classical.propDecidable _
theorem kqq (ps : List Pr) : purL (ps.map pW) = true := xzq pW_pur ps
@[simp] theorem psW_pur' (ps : List Pr) : purL (ps.map pW) = true := kqq ps
theorem pcheck_s (ps : List Pr) (f : Bool) (hb : ps.length <= 9223372036854775807) : PS cfg G 89 [.fz (ps.map pW) 33 f] (.int .i64 (if MayP ps then 0 else 8)) := by
 have e : (ps.map pW).length = ps.length := List.length_map _
 refine zYq (fn := Tryz.f89) Y Y Y (Yb rfl) (fun R k0 => ?_)
 refine zhq 9 Y ?_
 refine zqq (w' := .int .i64 (ps.length : Int)) Y Y (by rw [<- e]; rfl) ?_
 refine zbq 3 Y ?_
 refine zAq rfl (fun h1 => ?_) (fun h1 => ?_)
 ·refine zeq 7 Y ?_
  exact zgq (.inr rfl) rfl (by rw [if_neg fun h : MayP ps => by have := h.1; omega])
 ·refine zeq 6 Y ?_
  refine zqq (w' := .int .i64 (ps.length : Int)) Y Y (by rw [<- e]; rfl) ?_
  refine zbq 4 Y ?_
  refine y0q (α := Nat) (fun i => i <= ps.length /\ ∀ j, j < i -> okAt ps j) (fun i => [(10, .int .i64 (i : Int))]) [(0, _), (2, _), (8, _), (9, _)] (fun i => ps.length - i) (0) ⟨rfl, rfl, rfl, rfl, trivial⟩ (⟨Nat.zero_le _, fun j hj => by omega⟩) ⟨rfl, trivial⟩ (fun i hI => ?_)
  obtain ⟨hi, hI⟩ := hI
  refine zhq 6 Y ?_
  refine zAq rfl (fun h2 => ?_) (fun h2 => ?_)
  ·have hi' : i < ps.length := by omega
   obtain ⟨x, hx⟩ : ∃ x, ps[i]? = some x := ⟨_, List.getElem?_eq_getElem hi'⟩
   refine zeq 7 Y ?_
   refine zaq rfl (zBq (i := i) Y Y Y Y Y Y Y (ynq pW hx)) ?_
   refine zbq 10 Y ?_
   refine y2q Y Y Y Y Y Y (value_s _ _) ?_
   refine fl_bz (fun h3 => ?_) (fun h3 => ?_)
   ·refine zuq 3 Y ?_
    refine fl_dz Y Y (fun h4 => ?_) (fun h4 => ?_)
    ·refine zuq 3 Y ?_
     refine qtq (i - 1) Y Y (by first | rfl | omega) ⟨by omega, by omega⟩ ?_
     refine zcq rfl (zBq (i := i - 1) Y Y Y Y Y Y Y (ynq pW (List.getElem?_eq_getElem (by omega)))) ?_
     refine zuq 4 Y ?_
     refine y2q Y Y Y Y Y Y (ahead_s _ _) ?_
     refine zuq 5 Y ?_
     refine zAq rfl (fun h5 => ?_) (fun h5 => ?_)
     ·refine zeq 8 Y ?_
      refine yfq (by intro h; cases h) ?_
      refine zDq 2 Y ?_
      have no : ¬ MayP ps := fun h => by
       have := (h.2 i hi' x hx).2 _ (by omega) (List.getElem?_eq_getElem (by omega))
       rw [this] at h5
       simp at h5
      exact zgq (.inr rfl) rfl (by rw [if_neg no])
     ·have ok : okAt ps i := fun x' hx' => by
       obtain rfl := Option.some.inj (hx.symm.trans hx')
       refine ⟨h3, fun y h0 hy => ?_⟩
       obtain rfl := Option.some.inj ((List.getElem?_eq_getElem (show i - 1 < ps.length by omega)).symm.trans hy)
       simpa using h5
      refine zeq 4 Y ?_
      refine ziq (i + 1) Y Y (by first | rfl | omega) ⟨by omega, by omega⟩ ?_
      refine yLq 2 Y ?_
      exact yhq (i + 1) (⟨hi', fun j hj => by rcases Nat.lt_succ_iff_lt_or_eq.1 hj with h | rfl <;> first | exact hI j h | exact ok⟩) (by omega) ⟨rfl, trivial⟩ ⟨rfl, rfl, rfl, rfl, trivial⟩ (by repeat (first | exact trivial | refine ⟨by first | rfl | exact zfq (by first | rfl | (simp; done)), ?_⟩)) (by omega) (by repeat (first | exact zNq | refine zQq (by omega) ?_ | refine zOq (by omega) ?_ | refine zPq (by omega) ?_)) rfl
    ·have ok : okAt ps i := fun x' hx' => by
      obtain rfl := Option.some.inj (hx.symm.trans hx')
      exact ⟨h3, fun y h0 hy => by omega⟩
     refine zuq 20 Y ?_
     refine ziq (i + 1) Y Y (by first | rfl | omega) ⟨by omega, by omega⟩ ?_
     refine yLq 2 Y ?_
     exact yhq (i + 1) (⟨hi', fun j hj => by rcases Nat.lt_succ_iff_lt_or_eq.1 hj with h | rfl <;> first | exact hI j h | exact ok⟩) (by omega) ⟨rfl, trivial⟩ ⟨rfl, rfl, rfl, rfl, trivial⟩ (by repeat (first | exact trivial | refine ⟨by first | rfl | exact zfq (by first | rfl | (simp; done)), ?_⟩)) (by omega) (by repeat (first | exact zNq | refine zQq (by omega) ?_ | refine zOq (by omega) ?_ | refine zPq (by omega) ?_)) rfl
   ·refine zuq 28 Y ?_
    refine yfq (by intro h; cases h) ?_
    refine zDq 2 Y ?_
    exact zgq (.inr rfl) rfl (by rw [if_neg fun h : MayP ps => h3 (h.2 i hi' x hx).1])
  ·refine zeq 2 Y ?_
   refine yfq (by intro h; cases h) ?_
   refine zDq 8 Y ?_
   have yes : MayP ps := ⟨by omega, fun j hj => hI j (by omega)⟩
   exact zgq (.inr rfl) rfl (by rw [if_pos yes])
def oneB (x : Node) (n : Nat) : Prop := if x.leaf then x.left = 0 /\ x.right = 0 /\ MayP [(x.key, x.val)] else (0 <= x.left /\ x.left <= n) /\ (0 <= x.right /\ x.right <= n) /\ x.key = jkq /\ x.val = [] /\ 0 < x.left + x.right
instance (x : Node) (n : Nat) : Decidable (oneB x n) := Classical.propDecidable _
theorem one_s (x : Node) (n : Nat) (hn : n <= 4611686018427387903) : PS cfg G 157 [nW x, .int .i64 (n : Int)] (.bool (decide (oneB x n))) := by
 refine zYq (fn := Tryz.f157) Y Y Y (Yb rfl) (fun R k0 => ?_)
 refine zhq 13 Y ?_
 refine zAq rfl (fun h1 => ?_) (fun h1 => ?_)
 ·refine zeq 4 Y ?_
  refine qdq Y Y (fun h2 => ?_) (fun h2 => ?_)
  ·refine zbq 3 Y ?_
   refine qdq Y Y (fun h3 => ?_) (fun h3 => ?_)
   ·refine zbq 8 Y ?_
    refine op_lk Y Y Y Y Y (by (repeat (first | exact .nil | refine .cons ?_ ?_ | (refine .sl Y ?_ rfl (by intro h; cases h); first | rfl | (focus (simp; done))) | (refine qeq Y ?_ rfl; first | rfl | (focus (simp; done))) | (refine .pur ?_; first | rfl | (focus (simp; done)))))) (pcheck_s [(x.key, x.val)] false (by simp)) (by first | rfl | assumption | (simp; done)) (by first | rfl | assumption | (simp; done)) ?_
    refine yYq Y Y ?_
    refine zbq 6 Y ?_
    refine zgq (.inr rfl) Y ?_
    congr 1
    rw [decide_eq_decide, oneB, if_pos h1]
    split
    ·rename_i h
     exact ⟨fun _ => ⟨h2, h3, h⟩, fun _ => rfl⟩
    ·rename_i h
     exact ⟨fun h => by omega, fun q => absurd q.2.2 h⟩
   ·refine zbq 16 Y ?_
    exact zgq (.inr rfl) rfl (by rw [decide_eq_false]; intro h; rw [oneB, if_pos h1] at h; exact h3 h.2.1)
  ·refine zbq 20 Y ?_
   exact zgq (.inr rfl) rfl (by rw [decide_eq_false]; intro h; rw [oneB, if_pos h1] at h; exact h2 h.1)
 ·refine zeq 6 Y ?_
  refine zjq Y Y Y Y Y Y (j2q _) ?_
  refine zbq 4 Y ?_
  refine y0q (α := Nat) (fun i => i <= 2 /\ (0 < i -> 0 <= x.left /\ x.left <= n) /\ (1 < i -> 0 <= x.right /\ x.right <= n)) (fun i => [(29, .int .i64 (i : Int))]) [(1, _), (2, _), (4, _), (28, _)] (fun i => 2 - i) (0) ⟨rfl, rfl, rfl, rfl, trivial⟩ (⟨by omega, by omega, by omega⟩) ⟨rfl, trivial⟩ (fun i hI => ?_)
  obtain ⟨hi, hl, hr⟩ := hI
  refine zhq 6 Y ?_
  refine zAq rfl (fun h2 => ?_) (fun h2 => ?_)
  ·have hi' : i = 0 \/ i = 1 := by omega
   rcases hi' with rfl | rfl
   ·skip
    refine zeq 13 Y ?_
    refine qdq Y Y (fun h3 => ?_) (fun h3 => ?_)
    ·refine zbq 16 Y ?_
     refine yfq (by intro h; cases h) ?_
     refine zDq 2 Y ?_
     exact zgq (.inr rfl) rfl (by rw [decide_eq_false]; intro h; rw [oneB, if_neg h1] at h; omega)
    ·refine zbq 3 Y ?_
     refine yYq Y Y ?_
     refine zbq 3 Y ?_
     refine zAq rfl (fun h4 => ?_) (fun h4 => ?_)
     ·refine zeq 8 Y ?_
      refine yfq (by intro h; cases h) ?_
      refine zDq 2 Y ?_
      exact zgq (.inr rfl) rfl (by rw [decide_eq_false]; intro h; rw [oneB, if_neg h1] at h; omega)
     ·refine zeq 4 Y ?_
      refine ziq (1) Y Y (by first | rfl | omega) ⟨by omega, by omega⟩ ?_
      refine yLq 2 Y ?_
      exact yhq (1) (⟨by omega, by omega, by omega⟩) (by omega) ⟨rfl, trivial⟩ ⟨rfl, rfl, rfl, rfl, trivial⟩ (by repeat (first | exact trivial | refine ⟨by first | rfl | exact zfq (by first | rfl | (simp; done)), ?_⟩)) (by omega) (by repeat (first | exact zNq | refine zQq (by omega) ?_ | refine zOq (by omega) ?_ | refine zPq (by omega) ?_)) rfl
   ·refine zeq 13 Y ?_
    refine qdq Y Y (fun h3 => ?_) (fun h3 => ?_)
    ·refine zbq 16 Y ?_
     refine yfq (by intro h; cases h) ?_
     refine zDq 2 Y ?_
     exact zgq (.inr rfl) rfl (by rw [decide_eq_false]; intro h; rw [oneB, if_neg h1] at h; omega)
    ·refine zbq 3 Y ?_
     refine yYq Y Y ?_
     refine zbq 3 Y ?_
     refine zAq rfl (fun h4 => ?_) (fun h4 => ?_)
     ·refine zeq 8 Y ?_
      refine yfq (by intro h; cases h) ?_
      refine zDq 2 Y ?_
      exact zgq (.inr rfl) rfl (by rw [decide_eq_false]; intro h; rw [oneB, if_neg h1] at h; omega)
     ·refine zeq 4 Y ?_
      refine ziq (2) Y Y (by first | rfl | omega) ⟨by omega, by omega⟩ ?_
      refine yLq 2 Y ?_
      exact yhq (2) (⟨by omega, by omega, by omega⟩) (by omega) ⟨rfl, trivial⟩ ⟨rfl, rfl, rfl, rfl, trivial⟩ (by repeat (first | exact trivial | refine ⟨by first | rfl | exact zfq (by first | rfl | (simp; done)), ?_⟩)) (by omega) (by repeat (first | exact zNq | refine zQq (by omega) ?_ | refine zOq (by omega) ?_ | refine zPq (by omega) ?_)) rfl
  ·have e := zkq x.val
   have hl := hl (by omega)
   have hr := hr (by omega)
   have key : oneB x n ↔ (x.key = jkq /\ x.val = [] /\ 0 < x.left + x.right) := by rw [oneB, if_neg h1]; exact ⟨fun h => h.2.2, fun h => ⟨hl, hr, h⟩⟩
   rw [show decide (oneB x n) = decide (x.key = jkq /\ x.val = [] /\ 0 < x.left + x.right) from decide_eq_decide.2 key]
   refine zeq 2 Y ?_
   refine yfq (by intro h; cases h) ?_
   refine zDq 6 Y ?_
   refine zqq Y Y vJq ?_
   refine op_dec rfl (qKq Y Y Y Y (qFq Y Y Y Y Y Y _ _ 250)) ySq (fun h3 => ?_) (fun h3 => ?_)
   ·refine zbq 3 Y ?_
    refine zqq (w' := .int .i64 (x.val.length : Int)) Y Y (by rw [<- e]; rfl) ?_
    refine qdq Y Y (fun h4 => ?_) (fun h4 => ?_)
    ·have hv : x.val = [] := List.eq_nil_of_length_eq_zero (by omega)
     refine zbq 6 Y ?_
     first | refine ytq Y Y ⟨by omega, by omega⟩ ?_ | refine zaq Y Y ?_
     refine yYq Y Y ?_
     refine zbq 5 Y ?_
     refine zgq (.inr rfl) Y ?_
     congr 1
     rw [decide_eq_decide]
     exact ⟨fun h => ⟨h3, hv, h⟩, fun h => h.2.2⟩
    ·have hv : x.val ≠ [] := fun h => h4 (by rw [h]; rfl)
     refine zbq 13 Y ?_
     exact zgq (.inr rfl) rfl (by rw [decide_eq_false fun h => hv h.2.1])
   ·refine zbq 18 Y ?_
    exact zgq (.inr rfl) rfl (by rw [decide_eq_false fun h => h3 h.1])
end
section
attribute [local irreducible] CoW OpW FlW Step Spec
variable {G : Nat -> Option W}
inductive Rep (ns : List Node) : Nat -> T -> Prop where
 | nil : Rep ns 0 .nil
 | leaf {n : Nat} {k : Dig} {v : List UInt8} {l r : Int} (h : ns[n]? = some ⟨true, k, v, l, r⟩) : Rep ns (n + 1) (.leaf k v)
 | fork {n l r : Nat} {k : Dig} {v : List UInt8} {L R : T} (h : ns[n]? = some ⟨false, k, v, l, r⟩) (hl : l <= n) (hr : r <= n) (hL : Rep ns l L) (hR : Rep ns r R) : Rep ns (n + 1) (.fork L R)
theorem Rep.le {ns : List Node} {n : Nat} {t : T} (h : Rep ns n t) : n <= ns.length := by
 cases h with
 | nil => exact Nat.zero_le _
 | leaf h => exact (List.getElem?_eq_some_iff.1 h).1
 | fork h => exact (List.getElem?_eq_some_iff.1 h).1
theorem Rep.non {ns : List Node} {n : Nat} {t : T} (h : Rep ns n t) : t.non = decide (0 < n) := by cases h <;> simp [T.non]
theorem Rep.app {ns : List Node} (ms : List Node) {n : Nat} {t : T} (h : Rep ns n t) : Rep (ns ++ ms) n t := by
 have key : ∀ {i : Nat} {x : Node}, ns[i]? = some x -> (ns ++ ms)[i]? = some x := fun {i x} h => by rw [List.getElem?_append_left (List.getElem?_eq_some_iff.1 h).1]; exact h
 induction h with
 | nil => exact .nil
 | leaf h => exact .leaf (key h)
 | fork h hl hr _ _ i1 i2 => exact .fork (key h) hl hr i1 i2
structure Tree where
 nodes : List Node
 root : Int
def tW (t : Tree) : W := .agg 2 [.fz (t.nodes.map nW) 36 false, .int .i64 t.root]
theorem ukq (ns : List Node) : purL (ns.map nW) = true := xzq nW_pur ns
@[simp] theorem uKq (t : Tree) : purW (tW t) = true := by simp [tW, ukq]
def nnI (t : T) : Int := if t.non then 1 else 0
theorem right_s (t0 : Tree) (hb : t0.nodes.length <= 4611686018427387903) : ∀ (t : T) (n d : Nat) (b : Dig), Rep t0.nodes n t -> d <= 256 -> PS cfg G 211 [tW t0, .int .i64 (n : Int), .int .i64 (d : Int), dW b] (.tup [.bool (t.ok d b), .bool (t.ok d b && t.isFork)]) := by
 intro t
 induction t with
 | nil =>
  intro n d b hr hd
  obtain rfl : n = 0 := by cases hr; rfl
  refine zYq (fn := Tryz.f211) Y Y Y (Yb rfl) (fun R k0 => ?_)
  refine zhq 15 Y ?_
  refine zAq rfl (fun h1 => ?_) (fun h1 => ?_)
  ·refine zeq 8 Y ?_
   exact zgq (.inr rfl) Y Y
  ·exfalso; omega
 | leaf k v =>
  intro n d b hr hd
  have hle := hr.le
  cases hr with
  | leaf h =>
  rename_i n l r
  refine zYq (fn := Tryz.f211) Y Y Y (Yb rfl) (fun R k0 => ?_)
  refine zhq 15 Y ?_
  refine zAq rfl (fun h1 => ?_) (fun h1 => ?_)
  ·exfalso; omega
  ·refine zeq 7 Y ?_
   refine ziq (n) Y Y (by first | rfl | omega) ⟨by omega, by omega⟩ ?_
   refine zaq rfl (zBq (i := n) Y Y Y Y Y Y Y (ynq nW h)) ?_
   refine zbq 18 Y ?_
   refine zjq Y Y Y Y Y Y (shared_s _ _) ?_
   refine zaq Y Y (yYq Y Y ?_)
   refine zbq 6 Y ?_
   refine zgq (.inr rfl) Y ?_
   simp only [T.ok, T.isFork, Bool.and_false]
   congr 3
   rw [decide_eq_decide]
   omega
 | fork tl tr ihL ihR =>
  intro n d b hr hd
  have hle := hr.le
  cases hr with
  | fork h hl hr hL hR =>
  rename_i n l r k v
  refine zYq (fn := Tryz.f211) Y Y Y (Yb rfl) (fun R k0 => ?_)
  refine zhq 15 Y ?_
  refine zAq rfl (fun h1 => ?_) (fun h1 => ?_)
  ·exfalso; omega
  ·refine zeq 7 Y ?_
   refine ziq (n) Y Y (by first | rfl | omega) ⟨by omega, by omega⟩ ?_
   refine zaq rfl (zBq (i := n) Y Y Y Y Y Y Y (ynq nW h)) ?_
   refine zbq 22 Y ?_
   refine zAq rfl (fun h2 => ?_) (fun h2 => ?_)
   ·refine zeq 8 Y ?_
    have e : T.ok d b (.fork tl tr) = false := by simp only [T.ok]; rw [decide_eq_false (by omega)]; rfl
    rw [e]
    exact zgq (.inr rfl) Y Y
   ·have hd' : d < 256 := by omega
    have nl := hL.non
    have nr := hR.non
    refine zeq 6 Y ?_
    refine zjq Y Y Y Y Y Y (turn_in _ _ (by omega)) ?_
    refine zbq 18 Y ?_
    refine zqq (w' := .arr 64 32 [dW b, dW (qvq b d)]) Y Y Y ?_
    refine zbq 4 Y ?_
    refine y0q (α := Nat × Int × Bool) (fun p => (p.1 = 0 /\ p.2.1 = 0 /\ p.2.2 = false) \/ (p.1 = 1 /\ tl.ok (d + 1) b = true /\ p.2.1 = nnI tl /\ p.2.2 = tl.isFork) \/ (p.1 = 2 /\ tl.ok (d + 1) b = true /\ tr.ok (d + 1) (qvq b d) = true /\ p.2.1 = nnI tl + nnI tr /\ p.2.2 = (tl.isFork || tr.isFork))) (fun p => [(46, .int .i64 (p.1 : Int)), (13, .int .i64 p.2.1), (9, .bool p.2.2)]) [(2, _), (4, _), (8, _), (10, _), (45, _)] (fun p => 2 - p.1) ((0, 0, false)) ⟨rfl, rfl, rfl, rfl, rfl, trivial⟩ (.inl ⟨rfl, rfl, rfl⟩) ⟨rfl, rfl, rfl, trivial⟩ (fun p hI => ?_)
    obtain ⟨i, c, w⟩ := p
    simp only at hI ⊢
    rcases hI with ⟨rfl, rfl, rfl⟩ | ⟨rfl, k1, rfl, rfl⟩ | ⟨rfl, k1, k2, rfl, rfl⟩
    ·skip
     skip
     refine zhq 23 Y ?_
     refine zjq Y Y Y Y Y Y (j2q _) ?_
     refine zbq 10 Y ?_
     refine ziq (d + 1) Y Y (by first | rfl | omega) ⟨by omega, by omega⟩ ?_
     refine znq Y Y (zjq Y Y Y Y Y Y (ihL _ (d + 1) b hL (by omega)) ?_)
     refine zbq 14 Y ?_
     refine zAq rfl (fun h3 => ?_) (fun h3 => ?_)
     ·refine zeq 10 Y ?_
      refine yfq (by intro h; cases h) ?_
      refine zDq 2 Y ?_
      have e : T.ok d b (.fork tl tr) = false := by simp only [T.ok]; rw [show tl.ok (d + 1) b = false by simpa using h3]; simp
      rw [e]
      exact zgq (.inr rfl) Y Y
     ·have hk : tl.ok (d + 1) b = true := by simpa using h3
      refine zeq 9 Y ?_
      refine zAq rfl (fun h4 => ?_) (fun h4 => ?_)
      ·have hn : nnI tl = 1 := by have h4 : (0 : Int) < l := h4; unfold nnI; rw [nl, if_pos (decide_eq_true (by omega))]
       refine zeq 2 Y ?_
       first | refine ytq Y Y ⟨by omega, by omega⟩ ?_ | refine zaq Y Y ?_
       refine zbq 13 Y ?_
       refine ziq (1) Y Y (by first | rfl | omega) ⟨by omega, by omega⟩ ?_
       refine yLq 2 Y ?_
       exact yhq ((1, 1, tl.ok (d + 1) b && tl.isFork)) (.inr (.inl ⟨rfl, hk, hn.symm, by rw [hk]; rfl⟩)) (by simp) ⟨rfl, rfl, rfl, trivial⟩ ⟨rfl, rfl, rfl, rfl, rfl, trivial⟩ (by repeat (first | exact trivial | refine ⟨by first | rfl | exact zfq (by first | rfl | (simp; done)), ?_⟩)) (by omega) (by repeat (first | exact zNq | refine zQq (by omega) ?_ | refine zOq (by omega) ?_ | refine zPq (by omega) ?_)) rfl
      ·have hn : nnI tl = 0 := by have h4 : ¬ (0 : Int) < l := h4; unfold nnI; rw [nl, if_neg (by simp; omega)]
       refine zeq 12 Y ?_
       refine ziq (1) Y Y (by first | rfl | omega) ⟨by omega, by omega⟩ ?_
       refine yLq 2 Y ?_
       exact yhq ((1, 0, tl.ok (d + 1) b && tl.isFork)) (.inr (.inl ⟨rfl, hk, hn.symm, by rw [hk]; rfl⟩)) (by simp) ⟨rfl, rfl, rfl, trivial⟩ ⟨rfl, rfl, rfl, rfl, rfl, trivial⟩ (by repeat (first | exact trivial | refine ⟨by first | rfl | exact zfq (by first | rfl | (simp; done)), ?_⟩)) (by omega) (by repeat (first | exact zNq | refine zQq (by omega) ?_ | refine zOq (by omega) ?_ | refine zPq (by omega) ?_)) rfl
    ·skip
     have bd : nnI tl = 0 \/ nnI tl = 1 := by unfold nnI; split <;> simp
     cases hf : tl.isFork with
     | true =>
      skip
      refine zhq 23 Y ?_
      refine zjq Y Y Y Y Y Y (j2q _) ?_
      refine zbq 10 Y ?_
      refine ziq (d + 1) Y Y (by first | rfl | omega) ⟨by omega, by omega⟩ ?_
      refine znq Y Y (zjq Y Y Y Y Y Y (ihR _ (d + 1) (qvq b d) hR (by omega)) ?_)
      refine zbq 14 Y ?_
      refine zAq rfl (fun h3 => ?_) (fun h3 => ?_)
      ·refine zeq 10 Y ?_
       refine yfq (by intro h; cases h) ?_
       refine zDq 2 Y ?_
       have e : T.ok d b (.fork tl tr) = false := by simp only [T.ok]; rw [show tr.ok (d + 1) (qvq b d) = false by simpa using h3]; simp
       rw [e]
       exact zgq (.inr rfl) Y Y
      ·have hk : tr.ok (d + 1) (qvq b d) = true := by simpa using h3
       refine zeq 9 Y ?_
       refine zAq rfl (fun h4 => ?_) (fun h4 => ?_)
       ·have hn : nnI tr = 1 := by have h4 : (0 : Int) < r := h4; unfold nnI; rw [nr, if_pos (decide_eq_true (by omega))]
        refine zeq 2 Y ?_
        first | refine ytq Y Y ⟨by omega, by omega⟩ ?_ | refine zaq Y Y ?_
        refine zbq 13 Y ?_
        refine ziq (2) Y Y (by first | rfl | omega) ⟨by omega, by omega⟩ ?_
        refine yLq 2 Y ?_
        exact yhq ((2, nnI tl + 1, true)) (.inr (.inr ⟨rfl, k1, hk, by simp only [hn], rfl⟩)) (by simp) ⟨rfl, rfl, rfl, trivial⟩ ⟨rfl, rfl, rfl, rfl, rfl, trivial⟩ (by repeat (first | exact trivial | refine ⟨by first | rfl | exact zfq (by first | rfl | (simp; done)), ?_⟩)) (by omega) (by repeat (first | exact zNq | refine zQq (by omega) ?_ | refine zOq (by omega) ?_ | refine zPq (by omega) ?_)) rfl
       ·have hn : nnI tr = 0 := by have h4 : ¬ (0 : Int) < r := h4; unfold nnI; rw [nr, if_neg (by simp; omega)]
        refine zeq 12 Y ?_
        refine ziq (2) Y Y (by first | rfl | omega) ⟨by omega, by omega⟩ ?_
        refine yLq 2 Y ?_
        exact yhq ((2, nnI tl, true)) (.inr (.inr ⟨rfl, k1, hk, by simp only [hn, Int.add_zero], rfl⟩)) (by simp) ⟨rfl, rfl, rfl, trivial⟩ ⟨rfl, rfl, rfl, rfl, rfl, trivial⟩ (by repeat (first | exact trivial | refine ⟨by first | rfl | exact zfq (by first | rfl | (simp; done)), ?_⟩)) (by omega) (by repeat (first | exact zNq | refine zQq (by omega) ?_ | refine zOq (by omega) ?_ | refine zPq (by omega) ?_)) rfl
     | false =>
      skip
      refine zhq 23 Y ?_
      refine zjq Y Y Y Y Y Y (j2q _) ?_
      refine zbq 10 Y ?_
      refine ziq (d + 1) Y Y (by first | rfl | omega) ⟨by omega, by omega⟩ ?_
      refine znq Y Y (zjq Y Y Y Y Y Y (ihR _ (d + 1) (qvq b d) hR (by omega)) ?_)
      refine zbq 14 Y ?_
      refine zAq rfl (fun h3 => ?_) (fun h3 => ?_)
      ·refine zeq 10 Y ?_
       refine yfq (by intro h; cases h) ?_
       refine zDq 2 Y ?_
       have e : T.ok d b (.fork tl tr) = false := by simp only [T.ok]; rw [show tr.ok (d + 1) (qvq b d) = false by simpa using h3]; simp
       rw [e]
       exact zgq (.inr rfl) Y Y
      ·have hk : tr.ok (d + 1) (qvq b d) = true := by simpa using h3
       refine zeq 9 Y ?_
       refine zAq rfl (fun h4 => ?_) (fun h4 => ?_)
       ·have hn : nnI tr = 1 := by have h4 : (0 : Int) < r := h4; unfold nnI; rw [nr, if_pos (decide_eq_true (by omega))]
        refine zeq 2 Y ?_
        first | refine ytq Y Y ⟨by omega, by omega⟩ ?_ | refine zaq Y Y ?_
        refine zbq 13 Y ?_
        refine ziq (2) Y Y (by first | rfl | omega) ⟨by omega, by omega⟩ ?_
        refine yLq 2 Y ?_
        exact yhq ((2, nnI tl + 1, tr.ok (d + 1) (qvq b d) && tr.isFork)) (.inr (.inr ⟨rfl, k1, hk, by simp only [hn], by simp [hk]⟩)) (by simp) ⟨rfl, rfl, rfl, trivial⟩ ⟨rfl, rfl, rfl, rfl, rfl, trivial⟩ (by repeat (first | exact trivial | refine ⟨by first | rfl | exact zfq (by first | rfl | (simp; done)), ?_⟩)) (by omega) (by repeat (first | exact zNq | refine zQq (by omega) ?_ | refine zOq (by omega) ?_ | refine zPq (by omega) ?_)) rfl
       ·have hn : nnI tr = 0 := by have h4 : ¬ (0 : Int) < r := h4; unfold nnI; rw [nr, if_neg (by simp; omega)]
        refine zeq 12 Y ?_
        refine ziq (2) Y Y (by first | rfl | omega) ⟨by omega, by omega⟩ ?_
        refine yLq 2 Y ?_
        exact yhq ((2, nnI tl, tr.ok (d + 1) (qvq b d) && tr.isFork)) (.inr (.inr ⟨rfl, k1, hk, by simp only [hn, Int.add_zero], by simp [hk]⟩)) (by simp) ⟨rfl, rfl, rfl, trivial⟩ ⟨rfl, rfl, rfl, rfl, rfl, trivial⟩ (by repeat (first | exact trivial | refine ⟨by first | rfl | exact zfq (by first | rfl | (simp; done)), ?_⟩)) (by omega) (by repeat (first | exact zNq | refine zQq (by omega) ?_ | refine zOq (by omega) ?_ | refine zPq (by omega) ?_)) rfl
    ·have e : T.ok d b (.fork tl tr) = T.two tl tr := by simp only [T.ok]; rw [decide_eq_true hd', k1, k2]; rfl
     have e2 : (T.fork tl tr).isFork = true := rfl
     rw [e, e2, Bool.and_true]
     have e3 : T.two tl tr = ((tl.isFork || tr.isFork) || decide (nnI tl + nnI tr = 2)) := by
      unfold T.two nnI
      congr 1
      cases tl.non <;> cases tr.non <;> rfl
     rw [e3]
     cases hw : (tl.isFork || tr.isFork) with
     | true =>
      skip
      refine zhq 9 Y ?_
      refine yfq (by intro h; cases h) ?_
      refine zDq 21 Y ?_
      exact zgq (.inr rfl) Y Y
     | false =>
      skip
      refine zhq 9 Y ?_
      refine yfq (by intro h; cases h) ?_
      refine zDq 7 Y ?_
      refine yYq Y Y ?_
      refine zbq 13 Y ?_
      exact zgq (.inr rfl) rfl (by simp)
end
theorem fit_node {w : W} (h : Fit (.st 36 [.bool, .arr 32 1 (.int .u8), .sl 1 1 (.int .u8), .int .i64, .int .i64]) w) : ∃ x : Node, w = nW x /\ x.val.length <= 140737488351232 := by
 obtain ⟨l, rfl, w1, l1, rfl, h1, w2, l2, rfl, h2, w3, l3, rfl, h3, w4, l4, rfl, h4, w5, l5, rfl, h5, rfl⟩ := h
 obtain ⟨b, rfl⟩ := fit_bool h1
 obtain ⟨k, rfl⟩ := fit_dig h2
 obtain ⟨v, rfl, hv⟩ := fit_bW h3
 obtain ⟨i, rfl, _⟩ := fit_i64 h4
 obtain ⟨j, rfl, _⟩ := fit_i64 h5
 exact ⟨⟨b, k, v, i, j⟩, rfl, by simpa using hv⟩
theorem fit_tree {w : W} (h : Fit (.st 2 [.sl 36 80 (.st 36 [.bool, .arr 32 1 (.int .u8), .sl 1 1 (.int .u8), .int .i64, .int .i64]), .int .i64]) w) : ∃ t : Tree, w = tW t /\ t.nodes.length * 80 <= 140737488351232 /\ (∀ x ∈ t.nodes, x.val.length <= 140737488351232) /\ t.root <= 9223372036854775807 := by
 obtain ⟨l, rfl, w1, l1, rfl, h1, w2, l2, rfl, h2, rfl⟩ := h
 obtain ⟨ns, rfl, hl, hn⟩ := fit_sl h1 fun x hx => fit_node hx
 obtain ⟨r, rfl, _, hr⟩ := fit_i64 h2
 exact ⟨⟨ns, r⟩, rfl, hl, hn, hr⟩
section
attribute [local irreducible] CoW OpW FlW Step Spec
variable {G : Nat -> Option W}
def okN (ns : List Node) : Prop := ∀ i x, ns[i]? = some x -> oneB x i
theorem rep_of {ns : List Node} (h : okN ns) : ∀ n, n <= ns.length -> ∃ t, Rep ns n t := by
 intro n
 induction n using Nat.strongRecOn with
 | _ n ih =>
  intro hn
  cases n with
  | zero => exact ⟨_, .nil⟩
  | succ n =>
   obtain ⟨x, hx⟩ : ∃ x, ns[n]? = some x := ⟨_, List.getElem?_eq_getElem hn⟩
   have h1 := h n x hx
   obtain ⟨lf, k, v, l, r⟩ := x
   cases lf with
   | true => exact ⟨_, .leaf hx⟩
   | false =>
    simp only [oneB, Bool.false_eq_true, if_false] at h1
    obtain ⟨⟨a1, a2⟩, ⟨b1, b2⟩, _⟩ := h1
    obtain ⟨l, rfl⟩ := Int.eq_ofNat_of_zero_le a1
    obtain ⟨r, rfl⟩ := Int.eq_ofNat_of_zero_le b1
    obtain ⟨L, hL⟩ := ih l (by omega) (by omega)
    obtain ⟨R, hR⟩ := ih r (by omega) (by omega)
    exact ⟨_, .fork hx (by omega) (by omega) hL hR⟩
theorem Rep.uniq {ns : List Node} {n : Nat} {t : T} (h : Rep ns n t) : ∀ {t' : T}, Rep ns n t' -> t = t' := by
 induction h with
 | nil => intro t' h'; cases h'; rfl
 | leaf h =>
  intro t' h'
  cases h' with
  | leaf h2 => rw [h] at h2; cases h2; rfl
  | fork h2 => rw [h] at h2; cases h2
 | fork h hl hr _ _ i1 i2 =>
  intro t' h'
  cases h' with
  | leaf h2 => rw [h] at h2; cases h2
  | fork h2 _ _ hL hR =>
   rw [h] at h2
   simp only [Option.some.injEq, Node.mk.injEq, Int.natCast_inj, true_and] at h2
   obtain ⟨_, _, rfl, rfl⟩ := h2
   rw [i1 hL, i2 hR]
def MayT (t : Tree) : Prop := t.nodes.length <= 262144 /\ okN t.nodes /\ ∃ (n : Nat) (t0 : T), t.root = n /\ Rep t.nodes n t0 /\ t0.ok 0 jkq = true
instance (t : Tree) : Decidable (MayT t) := Classical.propDecidable _
theorem qMq (t : Tree) (hb : t.nodes.length <= 4611686018427387903) : PS cfg G 156 [tW t] (.int .i64 (if MayT t then 0 else 8)) := by
 have e : (t.nodes.map nW).length = t.nodes.length := List.length_map _
 have no : ∀ {R : Res} {k0 : Nat}, ¬ MayT t -> W.int .i64 8 = W.int .i64 (if MayT t then 0 else 8) := fun h => by rw [if_neg h]
 refine zYq (fn := Tryz.f156) Y Y Y (Yb rfl) (fun R k0 => ?_)
 refine zhq 11 Y ?_
 refine zqq (w' := .int .i64 (t.nodes.length : Int)) Y Y (by rw [<- e]; rfl) ?_
 refine qdq Y Y (fun h1 => ?_) (fun h1 => ?_)
 ·have hno : ¬ MayT t := fun h => by have := h.1; omega
  refine zbq 23 Y ?_
  exact zgq (.inr rfl) rfl (by rw [if_neg hno])
 refine zbq 3 Y ?_
 refine qdq Y Y (fun h2 => ?_) (fun h2 => ?_)
 ·have hno : ¬ MayT t := fun h => by obtain ⟨_, _, n, _, h, _⟩ := h; have h2 : t.root < 0 := h2; omega
  refine zbq 19 Y ?_
  exact zgq (.inr rfl) rfl (by rw [if_neg hno])
 refine zbq 6 Y ?_
 refine zqq (w' := .int .i64 (t.nodes.length : Int)) Y Y (by rw [<- e]; rfl) ?_
 refine yYq Y Y ?_
 refine zbq 3 Y ?_
 refine zAq rfl (fun h3 => ?_) (fun h3 => ?_)
 ·have hno : ¬ MayT t := fun h => by obtain ⟨_, _, n, _, h, hr, _⟩ := h; have h3 : (t.nodes.length : Int) < t.root := h3; have := hr.le; omega
  refine zeq 7 Y ?_
  exact zgq (.inr rfl) rfl (by rw [if_neg hno])
 have h2 : ¬ t.root < 0 := h2
 have h3 : ¬ (t.nodes.length : Int) < t.root := h3
 obtain ⟨n0, hn0⟩ := Int.eq_ofNat_of_zero_le (show 0 <= t.root by omega)
 refine zeq 7 Y ?_
 refine zqq (w' := .int .i64 (t.nodes.length : Int)) Y Y (by rw [<- e]; rfl) ?_
 refine zbq 4 Y ?_
 refine y0q (α := Nat) (fun i => i <= t.nodes.length /\ ∀ j x, j < i -> t.nodes[j]? = some x -> oneB x j) (fun i => [(27, .int .i64 (i : Int))]) [(1, _), (2, _), (25, _), (26, _)] (fun i => t.nodes.length - i) (0) ⟨rfl, rfl, rfl, rfl, trivial⟩ (⟨Nat.zero_le _, fun j x hj => by omega⟩) ⟨rfl, trivial⟩ (fun i hI => ?_)
 obtain ⟨hi, hI⟩ := hI
 refine zhq 6 Y ?_
 refine zAq rfl (fun h4 => ?_) (fun h4 => ?_)
 ·have hi' : i < t.nodes.length := by omega
  obtain ⟨x, hx⟩ : ∃ x, t.nodes[i]? = some x := ⟨_, List.getElem?_eq_getElem hi'⟩
  refine zeq 7 Y ?_
  refine zaq rfl (zBq (i := i) Y Y Y Y Y Y Y (ynq nW hx)) ?_
  refine zbq 10 Y ?_
  refine zjq Y Y Y Y Y Y (one_s _ _ (by omega)) ?_
  refine zbq 3 Y ?_
  refine zAq rfl (fun h5 => ?_) (fun h5 => ?_)
  ·have hno : ¬ MayT t := fun h => by have := h.2.1 i x hx; simp [this] at h5
   refine zeq 8 Y ?_
   refine yfq (by intro h; cases h) ?_
   refine zDq 2 Y ?_
   exact zgq (.inr rfl) rfl (by rw [if_neg hno])
  ·have h5 : oneB x i := by simpa using h5
   refine zeq 4 Y ?_
   refine ziq (i + 1) Y Y (by first | rfl | omega) ⟨by omega, by omega⟩ ?_
   refine yLq 2 Y ?_
   exact yhq (i + 1) (⟨hi', fun j y hj hy => by rcases Nat.lt_succ_iff_lt_or_eq.1 hj with h | rfl; exact hI j y h hy; exact (Option.some.inj (hx.symm.trans hy)) ▸ h5⟩) (by omega) ⟨rfl, trivial⟩ ⟨rfl, rfl, rfl, rfl, trivial⟩ (by repeat (first | exact trivial | refine ⟨by first | rfl | exact zfq (by first | rfl | (simp; done)), ?_⟩)) (by omega) (by repeat (first | exact zNq | refine zQq (by omega) ?_ | refine zOq (by omega) ?_ | refine zPq (by omega) ?_)) rfl
 ·have okn : okN t.nodes := fun j x hx => hI j x (by have := (List.getElem?_eq_some_iff.1 hx).1; omega) hx
  obtain ⟨t0, ht0⟩ := rep_of okn n0 (by omega)
  have key : MayT t ↔ t0.ok 0 jkq = true := by
   constructor
   ·rintro ⟨_, _, n, t1, hn, hr, hk⟩
    obtain rfl : n = n0 := by omega
    rw [ht0.uniq hr]; exact hk
   ·exact fun h => ⟨by omega, okn, n0, t0, hn0, ht0, h⟩
  refine zeq 2 Y ?_
  refine yfq (by intro h; cases h) ?_
  refine zDq 8 Y ?_
  refine zqq Y Y vJq ?_
  refine op_ps Y Y Y Y Y (by rw [hn0]; rfl) (right_s t (by omega) t0 n0 0 jkq ht0 (by omega)) (by simp) (by simp) ?_
  refine zbq 13 Y ?_
  refine zAq rfl (fun h5 => ?_) (fun h5 => ?_)
  ·have hno : ¬ MayT t := fun h => by have := key.1 h; simp [this] at h5
   refine zeq 7 Y ?_
   exact zgq (.inr rfl) rfl (by rw [if_neg hno])
  ·have yes : MayT t := key.2 (by simpa using h5)
   refine zeq 8 Y ?_
   exact zgq (.inr rfl) rfl (by rw [if_pos yes])
inductive FTo (ns : List Node) (k : Dig) : Nat -> Nat -> Nat -> Prop where
 | nil {d : Nat} : FTo ns k 0 d 0
 | hit {n d : Nat} {v : List UInt8} {l r : Int} (h : ns[n]? = some ⟨true, k, v, l, r⟩) : FTo ns k (n + 1) d (n + 1)
 | miss {n d : Nat} {k' : Dig} {v : List UInt8} {l r : Int} (h : ns[n]? = some ⟨true, k', v, l, r⟩) (hk : k' ≠ k) : FTo ns k (n + 1) d 0
 | go {n d l r m : Nat} {k' : Dig} {v : List UInt8} (h : ns[n]? = some ⟨false, k', v, l, r⟩) (hd : d < 256) (hg : FTo ns k (if bitN k d = 0 then l else r) (d + 1) m) : FTo ns k (n + 1) d m
theorem fto_of {ns : List Node} {k : Dig} {n : Nat} {t : T} (h : Rep ns n t) : ∀ {d : Nat} {b : Dig}, t.ok d b = true -> ∃ m, FTo ns k n d m /\ (t.find k d = none -> m = 0) /\ ∀ v, t.find k d = some v -> ∃ j l r, m = j + 1 /\ ns[j]? = some ⟨true, k, v, l, r⟩ := by
 induction h with
 | nil => exact fun _ => ⟨0, .nil, fun _ => rfl, fun v h => by simp [T.find] at h⟩
 | leaf h =>
  rename_i n k' v l r
  intro d b _
  by_cases e : k' = k
  ·subst e
   exact ⟨n + 1, .hit h, fun hn => by simp [T.find] at hn, fun w hw => by simp only [T.find, if_true, Option.some.injEq] at hw; subst hw; exact ⟨n, l, r, rfl, h⟩⟩
  ·exact ⟨0, .miss h e, fun _ => rfl, fun w hw => by simp [T.find, e] at hw⟩
 | fork h hl hr hL hR i1 i2 =>
  intro d b hk
  obtain ⟨hd, k1, k2, _⟩ := ok_fork.1 hk
  by_cases hb : bitN k d = 0
  ·obtain ⟨m, g1, g2, g3⟩ := i1 k1
   exact ⟨m, .go h hd (by rw [if_pos hb]; exact g1), by simp only [T.find, if_pos hb]; exact g2, by simp only [T.find, if_pos hb]; exact g3⟩
  ·obtain ⟨m, g1, g2, g3⟩ := i2 k2
   exact ⟨m, .go h hd (by rw [if_neg hb]; exact g1), by simp only [T.find, if_neg hb]; exact g2, by simp only [T.find, if_neg hb]; exact g3⟩
theorem yJq (k : Dig) (d c : Nat) (h : d < 256) (hc : bitN k d = c) : PS cfg G 214 [dW k, .int .i64 (d : Int)] (.int .u8 (c : Int)) := hc ▸ tbit_s k d h
theorem tfind_s (t : Tree) (k : Dig) (n m : Nat) (hn : t.root = n) (hf : FTo t.nodes k n 0 m) (hb : t.nodes.length <= 4611686018427387903) : PS cfg G 176 [tW t, dW k] (.int .i64 (m : Int)) := by
 obtain ⟨ns, root⟩ := t
 simp only at hn hf hb
 subst hn
 refine zYq (fn := Tryz.f176) Y Y Y (Yb rfl) (fun R k0 => ?_)
 refine zhq 21 Y ?_
 refine y0q (α := Nat × Nat) (fun p => FTo ns k p.1 p.2 m /\ p.2 <= 256) (fun p => [(5, .int .i64 (p.1 : Int)), (6, .int .i64 (p.2 : Int))]) [(2, _), (3, _), (4, _)] (fun p => 257 - p.2) ((n, 0)) ⟨rfl, rfl, rfl, trivial⟩ (⟨hf, by simp⟩) ⟨rfl, rfl, trivial⟩ (fun p hI => ?_)
 obtain ⟨i, d⟩ := p
 obtain ⟨hf, hd⟩ := hI
 simp only at hf hd ⊢
 refine zhq 7 Y ?_
 refine zAq rfl (fun h1 => ?_) (fun h1 => ?_)
 ·cases hf with
  | nil => exfalso; omega
  | hit h =>
   skip
   rename_i i v l r
   have hi := (List.getElem?_eq_some_iff.1 h).1
   refine zeq 9 Y ?_
   refine ziq (i) Y Y (by first | rfl | omega) ⟨by omega, by omega⟩ ?_
   refine zaq rfl (zBq (i := i) Y Y Y Y Y Y Y (ynq nW h)) ?_
   refine zbq 19 Y ?_
   refine kBq rfl (qKq Y Y Y Y (qFq Y Y Y Y Y Y _ _ 250)) ySq ?_
   refine zbq 2 Y ?_
   refine zAq rfl (fun h2 => ?_) (fun h2 => ?_)
   ·refine zeq 11 Y ?_
    refine yfq (by intro h; cases h) ?_
    refine zDq 2 Y ?_
    first | exact zgq (.inr rfl) Y Y | exact zgq (.inl rfl) Y Y | (exfalso; omega)
   ·exfalso; exact h2 rfl
  | miss h hk =>
   rename_i i k' v l r
   have hi := (List.getElem?_eq_some_iff.1 h).1
   refine zeq 9 Y ?_
   refine ziq (i) Y Y (by first | rfl | omega) ⟨by omega, by omega⟩ ?_
   refine zaq rfl (zBq (i := i) Y Y Y Y Y Y Y (ynq nW h)) ?_
   refine zbq 19 Y ?_
   refine kBq rfl (qKq Y Y Y Y (qFq Y Y Y Y Y Y _ _ 250)) ySq ?_
   refine zbq 2 Y ?_
   refine zAq rfl (fun h2 => ?_) (fun h2 => ?_)
   ·exfalso; exact hk h2
   ·refine zeq 11 Y ?_
    refine yfq (by intro h; cases h) ?_
    refine zDq 2 Y ?_
    first | exact zgq (.inr rfl) Y Y | exact zgq (.inl rfl) Y Y | (exfalso; omega)
  | go h hd' hg =>
   rename_i i l r k' v
   have hi := (List.getElem?_eq_some_iff.1 h).1
   have bl := q5q k d
   rcases Nat.lt_or_ge 0 (bitN k d) with hb1 | hb0
   ·skip
    have hc : bitN k d = 1 := by omega
    rw [if_neg (by omega)] at hg
    refine zeq 9 Y ?_
    refine ziq (i) Y Y (by first | rfl | omega) ⟨by omega, by omega⟩ ?_
    refine zaq rfl (zBq (i := i) Y Y Y Y Y Y Y (ynq nW h)) ?_
    refine zbq 17 Y ?_
    refine y2q Y Y Y Y Y Y (j2q _) ?_
    refine zuq 2 Y ?_
    first | refine y2q Y Y Y Y Y Y (yJq k d 1 hd' hc) ?_ | refine y2q Y Y Y Y Y Y (tbit_s _ _ (by omega)) ?_
    refine zuq 7 Y ?_
    refine ziq (d + 1) Y Y (by first | rfl | omega) ⟨by omega, by omega⟩ ?_
    refine yLq 2 Y ?_
    exact yhq ((r, d + 1)) (⟨hg, hd'⟩) (by simp only; omega) ⟨rfl, rfl, trivial⟩ ⟨rfl, rfl, rfl, trivial⟩ (by repeat (first | exact trivial | refine ⟨by first | rfl | exact zfq (by first | rfl | (simp; done)), ?_⟩)) (by omega) (by repeat (first | exact zNq | refine zQq (by omega) ?_ | refine zOq (by omega) ?_ | refine zPq (by omega) ?_)) rfl
   ·have hc : bitN k d = 0 := by omega
    rw [if_pos hc] at hg
    refine zeq 9 Y ?_
    refine ziq (i) Y Y (by first | rfl | omega) ⟨by omega, by omega⟩ ?_
    refine zaq rfl (zBq (i := i) Y Y Y Y Y Y Y (ynq nW h)) ?_
    refine zbq 17 Y ?_
    refine y2q Y Y Y Y Y Y (j2q _) ?_
    refine zuq 2 Y ?_
    refine y2q Y Y Y Y Y Y (yJq k d 0 hd' hc) ?_
    refine zuq 7 Y ?_
    refine ziq (d + 1) Y Y (by first | rfl | omega) ⟨by omega, by omega⟩ ?_
    refine yLq 2 Y ?_
    exact yhq ((l, d + 1)) (⟨hg, hd'⟩) (by simp only; omega) ⟨rfl, rfl, trivial⟩ ⟨rfl, rfl, rfl, trivial⟩ (by repeat (first | exact trivial | refine ⟨by first | rfl | exact zfq (by first | rfl | (simp; done)), ?_⟩)) (by omega) (by repeat (first | exact zNq | refine zQq (by omega) ?_ | refine zOq (by omega) ?_ | refine zPq (by omega) ?_)) rfl
 ·obtain rfl : i = 0 := by omega
  cases hf
  refine zeq 2 Y ?_
  refine yfq (by intro h; cases h) ?_
  refine zDq 8 Y ?_
  first | exact zgq (.inr rfl) Y Y | exact zgq (.inl rfl) Y Y | (exfalso; omega)
structure IsT (t : Tree) (n : Nat) (t0 : T) : Prop where
 len : t.nodes.length <= 262144
 okn : okN t.nodes
 root : t.root = n
 rep : Rep t.nodes n t0
 ok : t0.ok 0 jkq = true
theorem IsT.may {t : Tree} {n : Nat} {t0 : T} (h : IsT t n t0) : MayT t := ⟨h.len, h.okn, n, t0, h.root, h.rep, h.ok⟩
theorem may_is {t : Tree} (h : MayT t) : ∃ n t0, IsT t n t0 := by
 obtain ⟨h1, h2, n, t0, h3, h4, h5⟩ := h
 exact ⟨n, t0, h1, h2, h3, h4, h5⟩
theorem ZSq {ns : List Node} (h : okN ns) {i : Nat} {k : Dig} {v : List UInt8} {l r : Int} (hx : ns[i]? = some ⟨true, k, v, l, r⟩) : 0 < v.length /\ v.length <= 64 := by
 have h1 := h i _ hx
 simp only [oneB, if_true] at h1
 have h2 := (h1.2.2.2 0 (by simp) (k, v) rfl).1
 simp only [valB, Bool.and_eq_true, decide_eq_true_eq] at h2
 exact h2
def getW' : Option (List UInt8) -> W
 | none => .tup [.nils, .bool false]
 | some v => .tup [bW v, .bool true]
theorem tget_s (t : Tree) (n : Nat) (t0 : T) (k : Dig) (h : IsT t n t0) : PS cfg G 111 [tW t, dW k] (getW' (t0.find k 0)) := by
 have hl := h.len
 have hy := h.may
 obtain ⟨m, f1, f2, f3⟩ := fto_of (k := k) h.rep h.ok
 cases hf : t0.find k 0 with
 | none =>
  obtain rfl := f2 hf
  refine zYq (fn := Tryz.f111) Y Y Y (Yb rfl) (fun R k0 => ?_)
  refine zhq 12 Y ?_
  first | refine zjq Y Y Y Y Y Y (yMq (w' := .int .i64 0) (qMq t (by omega)) (by rw [if_pos hy])) ?_ | refine zjq Y Y Y Y Y Y (qMq _ (by omega)) ?_ | refine zjq Y Y Y Y Y Y (qMq _ (by omega)) ?_
  refine zbq 10 Y ?_
  refine zjq Y Y Y Y Y Y (tfind_s t k n _ h.root f1 (by omega)) ?_
  refine zbq 19 Y ?_
  exact zgq (.inr rfl) Y Y
 | some v =>
  obtain ⟨j, l, r, rfl, hx⟩ := f3 v hf
  have hv := ZSq h.okn hx
  have hj := (List.getElem?_eq_some_iff.1 hx).1
  refine zYq (fn := Tryz.f111) Y Y Y (Yb rfl) (fun R k0 => ?_)
  refine zhq 12 Y ?_
  first | refine zjq Y Y Y Y Y Y (yMq (w' := .int .i64 0) (qMq t (by omega)) (by rw [if_pos hy])) ?_ | refine zjq Y Y Y Y Y Y (qMq _ (by omega)) ?_ | refine zjq Y Y Y Y Y Y (qMq _ (by omega)) ?_
  refine zbq 10 Y ?_
  refine zjq Y Y Y Y Y Y (tfind_s t k n _ h.root f1 (by omega)) ?_
  refine zbq 10 Y ?_
  refine zAq rfl (fun h1 => ?_) (fun h1 => ?_)
  ·exfalso; omega
  ·refine zeq 7 Y ?_
   refine ziq (j) Y Y (by first | rfl | omega) ⟨by omega, by omega⟩ ?_
   refine zaq rfl (zBq (i := j) Y Y Y Y Y Y Y (ynq nW hx)) ?_
   refine zbq 2 Y ?_
   refine zjq Y Y Y Y Y Y (Ylq v false (by omega)) ?_
   refine zbq 5 Y ?_
   exact zgq (.inr rfl) Y Y
theorem teach_s (t : Tree) (n : Int) : PS cfg G 247 [tW t, .int .i64 n] (.fn 257 [] [.fel (.int .i64 n), .fel (tW t)]) := by
 refine zYq (fn := Tryz.f247) Y Y Y (Yb rfl) (fun R k0 => ?_)
 refine zhq 14 Y ?_
 refine xGq (fr2 := [(4, _)]) (by first | exact .inr rfl | exact .inl rfl) ?_ Y Y
 (repeat (first | exact trivial | refine And.symm ⟨?_, _, rfl, ?_⟩)) <;> (repeat (first | exact .nil | refine .cons ?_ ?_ | refine .fn ?_ ?_ | (refine qeq Y ?_ rfl; (first | rfl | (focus (simp; done)))) | (refine .sl Y ?_ rfl (by intro h; cases h); (first | rfl | (focus (simp; done)))) | (refine .pur ?_; (first | rfl | (focus (simp; done)))) | refine .agg ?_ | refine .arr ?_ | refine .tup ?_))
def enc1 (p : Pr) : List W := [pW p]
theorem yl_same {L : Nat} {E : Res -> Prop} {b : Bool} {R1 : Res} {l : List (List W)} (h : match b with | true => Yl cfg G L E [] R1 | false => E R1) : E R1 := by cases b <;> exact h
def restL (tl tr : T) : Nat -> List Pr
 | 0 => tl.all ++ tr.all
 | 1 => tr.all
 | _ => []
theorem drop_at {α : Type} {l : List α} {i : Nat} {x : α} (h : l[i]? = some x) : l.drop i = x :: l.drop (i + 1) := by
 obtain ⟨hl, h2⟩ := List.getElem?_eq_some_iff.1 h
 rw [List.drop_eq_getElem_cons hl, h2]
theorem teach_it (t : Tree) (hv : ∀ (i : Nat) (k : Dig) (v : List UInt8) (l r : Int), t.nodes[i]? = some (Node.mk true k v l r) -> v.length <= 70368744177664) (hb : t.nodes.length <= 4611686018427387903) : ∀ (t0 : T) (n : Nat), Rep t.nodes n t0 -> jjq cfg G 257 [.fel (.int .i64 (n : Int)), .fel (tW t)] (t0.all.map enc1) := by
 intro t0
 induction t0 with
 | nil =>
  intro n hr
  obtain rfl : n = 0 := by cases hr; rfl
  refine vEq (fn := Tryz.f257) Y Y Y (Yb rfl) (fun L E R hy k0 => ?_)
  refine zhq 15 Y ?_
  exact x7q (.inr rfl) rfl hy
 | leaf k v =>
  intro n hr
  have hle := hr.le
  cases hr with
  | leaf h =>
  rename_i n l r
  have hvl := hv _ _ _ _ _ h
  refine vEq (fn := Tryz.f257) Y Y Y (Yb rfl) (fun L E R hy k0 => ?_)
  refine zhq 12 Y ?_
  refine zAq rfl (fun h1 => ?_) (fun h1 => ?_)
  ·exfalso; omega
  ·refine zeq 7 Y ?_
   refine ziq (n) Y Y (by first | rfl | omega) ⟨by omega, by omega⟩ ?_
   refine zaq rfl (zBq (i := n) Y Y Y Y Y Y Y (ynq nW h)) ?_
   refine zbq 20 Y ?_
   refine fl_ps Y Y Y Y Y Y (Ylq v false hvl) (by simp) (by simp) (by first | rfl | kernel_rfl) ?_
   refine zcq Y Y ?_
   refine ymq rfl (jVq Y Y Y (hy) (fun b R1 hb => ?_))
   refine ⟨by first | rfl | kernel_rfl, ?_⟩
   refine zuq 4 Y ?_
   exact x7q (.inr rfl) rfl (yl_same (l := []) hb)
 | fork tl tr ihL ihR =>
  intro n hr
  have hle := hr.le
  cases hr with
  | fork h hl hr hL hR =>
  rename_i n l r k v
  refine vEq (fn := Tryz.f257) Y Y Y (Yb rfl) (fun L E R hy k0 => ?_)
  refine zhq 12 Y ?_
  refine zAq rfl (fun h1 => ?_) (fun h1 => ?_)
  ·exfalso; omega
  ·refine zeq 7 Y ?_
   refine ziq (n) Y Y (by first | rfl | omega) ⟨by omega, by omega⟩ ?_
   refine zaq rfl (zBq (i := n) Y Y Y Y Y Y Y (ynq nW h)) ?_
   refine zbq 18 Y ?_
   refine zjq Y Y Y Y Y Y (j2q _) ?_
   refine zbq 4 Y ?_
   refine Q8q (α := Nat × Res) (fun p => p.1 <= 2 /\ Yl cfg G L E ((restL tl tr p.1).map enc1) p.2) (fun p => [(28, .int .i64 (p.1 : Int))]) [(2, _), (3, _), (27, _)] (fun p => p.2) (fun p => 2 - p.1) ((0, R)) ⟨rfl, rfl, rfl, trivial⟩ (⟨by simp, hy⟩) ⟨rfl, trivial⟩ rfl (fun p hI => ?_)
   obtain ⟨i, R⟩ := p
   obtain ⟨hi, hy⟩ := hI
   simp only at hi hy ⊢
   refine zhq 6 Y ?_
   refine zAq rfl (fun h2 => ?_) (fun h2 => ?_)
   ·have hi' : i = 0 \/ i = 1 := by omega
    rcases hi' with rfl | rfl
    ·skip
     refine zeq 14 Y ?_
     refine zjq Y Y Y Y Y Y (teach_s t l) ?_
     refine zbq 3 Y ?_
     refine Yjq (enc1) (tl.all) (fun i a => Yl cfg G L E (((tl.all.drop i) ++ tr.all).map enc1) a) (fun a => a) (R) rfl (by first | rfl | assumption | (simp; done)) (ihL _ hL) (fun y _ => ⟨by simp [enc1], rfl⟩) (hy) rfl (fun i a y hy hI => ?_) (fun a hI => ?_)
     ·have hd := drop_at hy
      rw [hd, List.cons_append, List.map_cons] at hI
      refine zhq 4 Y ?_
      refine q_asg ?_
      refine zhq 5 Y ?_
      refine zzq rfl (jVq Y Y Y (hI) (fun b R1 hb => ?_))
      refine zbq 3 Y ?_
      refine zAq rfl (fun h3 => ?_) (fun h3 => ?_)
      ·cases b with
       | true => cases h3
       | false =>
        refine zeq 2 Y ?_
        refine QDq (by intro h; cases h) ?_
        refine zDq 3 Y ?_
        refine yfq (by intro h; cases h) ?_
        refine zDq 1 Y ?_
        exact x7q (.inr rfl) rfl hb
      ·cases b with
       | false => exact absurd rfl h3
       | true =>
        refine zeq 2 Y ?_
        exact QCq (R1) (hb) (by omega) (by repeat (first | exact zNq | refine zQq (by omega) ?_ | refine zOq (by omega) ?_ | refine zPq (by omega) ?_)) rfl
     ·rw [List.drop_length, List.nil_append] at hI
      refine zDq 4 Y ?_
      refine ziq (1) Y Y (by first | rfl | omega) ⟨by omega, by omega⟩ ?_
      refine yLq 2 Y ?_
      exact yhq ((1, a)) (⟨by simp, hI⟩) (by simp) ⟨rfl, trivial⟩ ⟨rfl, rfl, rfl, trivial⟩ (by repeat (first | exact trivial | refine ⟨by first | rfl | exact zfq (by first | rfl | (simp; done)), ?_⟩)) (by omega) (by repeat (first | exact zNq | refine zQq (by omega) ?_ | refine zOq (by omega) ?_ | refine zPq (by omega) ?_)) rfl
    ·skip
     refine zeq 14 Y ?_
     refine zjq Y Y Y Y Y Y (teach_s t r) ?_
     refine zbq 3 Y ?_
     refine Yjq (enc1) (tr.all) (fun i a => Yl cfg G L E ((tr.all.drop i).map enc1) a) (fun a => a) (R) rfl (by first | rfl | assumption | (simp; done)) (ihR _ hR) (fun y _ => ⟨by simp [enc1], rfl⟩) (hy) rfl (fun i a y hy hI => ?_) (fun a hI => ?_)
     ·have hd := drop_at hy
      rw [hd, List.map_cons] at hI
      refine zhq 4 Y ?_
      refine q_asg ?_
      refine zhq 5 Y ?_
      refine zzq rfl (jVq Y Y Y (hI) (fun b R1 hb => ?_))
      refine zbq 3 Y ?_
      refine zAq rfl (fun h3 => ?_) (fun h3 => ?_)
      ·cases b with
       | true => cases h3
       | false =>
        refine zeq 2 Y ?_
        refine QDq (by intro h; cases h) ?_
        refine zDq 3 Y ?_
        refine yfq (by intro h; cases h) ?_
        refine zDq 1 Y ?_
        exact x7q (.inr rfl) rfl hb
      ·cases b with
       | false => exact absurd rfl h3
       | true =>
        refine zeq 2 Y ?_
        exact QCq (R1) (hb) (by omega) (by repeat (first | exact zNq | refine zQq (by omega) ?_ | refine zOq (by omega) ?_ | refine zPq (by omega) ?_)) rfl
     ·rw [List.drop_length] at hI
      refine zDq 4 Y ?_
      refine ziq (2) Y Y (by first | rfl | omega) ⟨by omega, by omega⟩ ?_
      refine yLq 2 Y ?_
      exact yhq ((2, a)) (⟨by simp, hI⟩) (by simp) ⟨rfl, trivial⟩ ⟨rfl, rfl, rfl, trivial⟩ (by repeat (first | exact trivial | refine ⟨by first | rfl | exact zfq (by first | rfl | (simp; done)), ?_⟩)) (by omega) (by repeat (first | exact zNq | refine zQq (by omega) ?_ | refine zOq (by omega) ?_ | refine zPq (by omega) ?_)) rfl
   ·refine zeq 2 Y ?_
    refine yfq (by intro h; cases h) ?_
    refine zDq 1 Y ?_
    obtain rfl : i = 2 := by omega
    exact x7q (.inl rfl) rfl hy
end
section
attribute [local irreducible] CoW OpW FlW Step Spec
variable {G : Nat -> Option W}
def psW (ps : List Pr) : W := .fz (ps.map pW) 33 false
@[simp] theorem psW_p (ps : List Pr) : purW (psW ps) = true := kqq ps
def gat (ps : List Pr) : HpW := match ps with
 | [] => [(0, 26, .nils)]
 | _ => [(0, 26, .sl 1 0 0 ps.length 33 none), (1, 90, .arr (ps.length * 33) 33 (ps.map pW))]
theorem gat_snoc (a : List Pr) (y : Pr) : gat (a ++ [y]) = [(0, 26, .sl 1 0 0 (a.length + 1) 33 none), (1, 90, .arr ((a.length + 1) * 33) 33 (a.map pW ++ [pW y]))] := by
 cases a with
 | nil => rfl
 | cons x a => simp [gat]
theorem pur1 {a : List Pr} {y : Pr} {n : Nat} (e : Nat) : purW (.arr n e (a.map pW ++ [pW y])) = true := by simp
theorem aseq_s (f : FuncId) (cs : List W) (ls : List Pr) (hc : purL cs = true) (it : jjq cfg G f cs (ls.map enc1)) (hb : ls.length <= 1000000000) : PS cfg G 256 [.nils, .fn f [] cs] (psW ls) := by
 refine j6q (fn := Tryz.f256) Y Y Y (Yb rfl) (fun R k0 => ?_)
 refine zhq 13 Y ?_
 refine co_rangeN (α := List Pr) (enc1) (ls) (fun i a => a = ls.take i) (fun a => gat a) (fun a => (match a with | [] => 1 | _ => 2)) (fun a => R) ([]) rfl (by first | rfl | assumption | (simp; done)) (it) (fun y _ => ⟨by simp [enc1], rfl⟩) (rfl) Y Y Y (fun i a y hy hI => ?_) (fun a hI => ?_)
 ·have hi := (List.getElem?_eq_some_iff.1 hy).1
  have hn : ls.take (i + 1) = a ++ [y] := by rw [List.take_add_one, hy, hI]; rfl
  cases a with
  | nil =>
   skip
   refine zhq 4 Y ?_
   refine q_asg ?_
   refine zhq 5 Y ?_
   refine znq rfl (y5q Y Y (xKq (news := [pW y]) (k := ti90) Y Y Y Y (qsq Y Y Y Y) (by simp) (by show 1 * ti90.bytes <= _; decide) (by show 1 <= _; decide))) ?_
   refine zbq 3 Y ?_
   refine q_round (ls.take (i + 1)) Y ?_
   rw [hn, gat_snoc]
   refine qiq (b := 1) (k := 3) (by omega) (by omega) (by show 3 < 4; omega) trivial ⟨⟨by omega, rfl, rfl⟩, ⟨by omega, ?_, zfq (pur1 _)⟩, trivial⟩ (by simp)
   rw [zlq (pur1 _)]
   rfl
  | cons x a =>
   have hl : (x :: a).length <= 1000000000 := by rw [hI, List.length_take]; omega
   have el : ((x :: a).map pW).length = (x :: a).length := List.length_map _
   refine zhq 4 Y ?_
   refine q_asg ?_
   refine zhq 5 Y ?_
   refine znq rfl (y5q Y Y (qOq (len := (x :: a).length) (news := [pW y]) (olds := (x :: a).map pW) (k := ti90) Y Y Y Y (qsq Y Y Y Y) (by simp) (by show ((x :: a).length + 1) * 56 <= _; omega) (by show (x :: a).length + 1 <= _; omega) rfl (by show (x :: a).length * 33 < 0 + ((x :: a).length + 1) * 33; omega) rfl (zGq (by decide) el.symm rfl))) ?_
   refine zbq 3 Y ?_
   refine q_round (ls.take (i + 1)) Y ?_
   rw [hn, gat_snoc]
   refine qiq (b := 1) (k := 4) (by omega) (by omega) (by show 4 < 5; omega) trivial ⟨⟨by omega, rfl, rfl⟩, ⟨by omega, ?_, zfq (pur1 _)⟩, trivial⟩ (by simp)
   rw [zlq (pur1 _)]
   rfl
 ·obtain rfl : a = ls := by rw [hI, List.take_length]
  cases a with
  | nil =>
   skip
   refine zDq 9 Y ?_
   refine keq (by first | exact .inr rfl | exact .inl rfl) Y ?_
   (repeat (first | exact .nil | refine .cons ?_ ?_ | exact jaq | exact .nilfz | refine .fn ?_ ?_ | (refine qeq Y ?_ rfl; (first | rfl | (focus (simp; done)))) | (refine .sl Y ?_ rfl (by intro h; cases h); (first | rfl | (focus (simp; done)))) | (refine .pur ?_; (first | rfl | (focus (simp; done)))) | (refine .fzw ?_; (first | rfl | (focus (simp; done)))) | refine .agg ?_ | refine .arr ?_ | refine .tup ?_))
  | cons x a =>
   refine zDq 9 Y ?_
   refine keq (by first | exact .inr rfl | exact .inl rfl) Y ?_
   exact .sl rfl (by show purL ((x :: a).map pW) = true; exact kqq _) (zGq (by decide) (List.length_map _).symm rfl) (by intro h; cases h)
theorem collect_s (f : FuncId) (cs : List W) (ls : List Pr) (hc : purL cs = true) (it : jjq cfg G f cs (ls.map enc1)) (hb : ls.length <= 1000000000) : PS cfg G 246 [.fn f [] cs] (psW ls) := by
 refine zYq (fn := Tryz.f246) Y Y Y (Yb rfl) (fun R k0 => ?_)
 refine zhq 8 Y ?_
 refine op_ps Y Y Y Y Y Y (aseq_s f cs ls hc it hb) (by simp [hc]) (by simp) ?_
 refine zbq 4 Y ?_
 exact zgq (.inr rfl) Y Y
theorem nodup_le {α : Type} [DecidableEq α] : ∀ (l m : List α), l.Nodup -> (∀ x ∈ l, x ∈ m) -> l.length <= m.length
 | [], m, _, _ => Nat.zero_le _
 | x :: l, m, hn, hs => by
  obtain ⟨h1, h2⟩ := List.nodup_cons.1 hn
  have hx := hs x (by simp)
  have ih := nodup_le l (m.erase x) h2 fun y hy => (List.mem_erase_of_ne (fun e : y = x => h1 (by rw [<- e]; exact hy))).2 (hs y (by simp [hy]))
  rw [List.length_erase_of_mem hx] at ih
  have : 0 < m.length := List.length_pos_of_mem hx
  simp only [List.length_cons]
  omega
theorem rep_mem {ns : List Node} {n : Nat} {t : T} (h : Rep ns n t) : ∀ p ∈ t.all, ∃ (i : Nat) (l r : Int), ns[i]? = some (Node.mk true p.1 p.2 l r) := by
 induction h with
 | nil => intro p hp; simp [T.all] at hp
 | leaf h => intro p hp; simp only [T.all, List.mem_singleton] at hp; subst hp; exact ⟨_, _, _, h⟩
 | fork h hl hr _ _ i1 i2 =>
  intro p hp
  rcases List.mem_append.1 hp with hp | hp
  ·exact i1 p hp
  ·exact i2 p hp
theorem srt_nodup {l : List Pr} (h : Srt l) : (l.map (·.1)).Nodup := by
 rw [List.nodup_iff_pairwise_ne, List.pairwise_map]
 exact h.imp fun h => xdq h
theorem IsT.srt {t : Tree} {n : Nat} {t0 : T} (h : IsT t n t0) : Srt t0.all := ok_srt kIq h.ok
theorem IsT.all_le {t : Tree} {n : Nat} {t0 : T} (h : IsT t n t0) : t0.all.length <= t.nodes.length := by
 have := nodup_le (t0.all.map (·.1)) (t.nodes.map (·.key)) (srt_nodup h.srt) fun k hk => by
  obtain ⟨p, hp, rfl⟩ := List.mem_map.1 hk
  obtain ⟨i, l, r, hx⟩ := rep_mem h.rep p hp
  exact List.mem_map.2 ⟨_, List.mem_of_getElem? hx, rfl⟩
 simpa using this
theorem IsT.val {t : Tree} {n : Nat} {t0 : T} (h : IsT t n t0) : ∀ p ∈ t0.all, 0 < p.2.length /\ p.2.length <= 64 := fun p hp => by
 obtain ⟨i, l, r, hx⟩ := rep_mem h.rep p hp
 exact ZSq h.okn hx
theorem tpairs_s (t : Tree) (n : Nat) (t0 : T) (h : IsT t n t0) : PS cfg G 217 [tW t] (.tup [psW t0.all, .int .i64 0]) := by
 have hl := h.len
 have hy := h.may
 have ha := h.all_le
 have hr := h.root
 obtain ⟨ns, root⟩ := t
 simp only at hl hr ha
 subst hr
 refine zYq (fn := Tryz.f217) Y Y Y (Yb rfl) (fun R k0 => ?_)
 refine zhq 11 Y ?_
 first | refine zjq Y Y Y Y Y Y (yMq (w' := .int .i64 0) (qMq ⟨ns, (n : Int)⟩ (by show ns.length <= _; omega)) (by rw [if_pos hy])) ?_ | refine zjq Y Y Y Y Y Y (qMq _ (by omega)) ?_
 refine zbq 17 Y ?_
 refine zjq Y Y Y Y Y Y (teach_s ⟨ns, (n : Int)⟩ (n : Int)) ?_
 refine zjq Y Y Y Y Y Y (collect_s _ _ t0.all (by simp) (teach_it ⟨ns, (n : Int)⟩ (fun i k v l r hx => by have := (ZSq h.okn hx).2; omega) (by show ns.length <= _; omega) t0 n h.rep) (by omega)) ?_
 refine zbq 5 Y ?_
 exact zgq (.inr rfl) Y Y
theorem tpairs_no (t : Tree) (hb : t.nodes.length <= 4611686018427387903) (h : ¬ MayT t) : PS cfg G 217 [tW t] (.tup [.nils, .int .i64 8]) := by
 refine zYq (fn := Tryz.f217) Y Y Y (Yb rfl) (fun R k0 => ?_)
 refine zhq 11 Y ?_
 refine zjq Y Y Y Y Y Y (yMq (w' := .int .i64 8) (qMq t hb) (by rw [if_neg h])) ?_
 refine zbq 19 Y ?_
 exact zgq (.inr rfl) Y Y
end
section
attribute [local irreducible] CoW OpW FlW Step Spec
variable {G : Nat -> Option W}
theorem aeach_s (t : Tree) : PS cfg G 159 [tW t] (.fn 216 [] [.fel (tW t)]) := by
 refine zYq (fn := Tryz.f159) Y Y Y (Yb rfl) (fun R k0 => ?_)
 refine zhq 13 Y ?_
 refine xGq (fr2 := [(2, _)]) (by first | exact .inr rfl | exact .inl rfl) ?_ Y Y
 (repeat (first | exact trivial | refine And.symm ⟨?_, _, rfl, ?_⟩)) <;> (repeat (first | exact .nil | refine .cons ?_ ?_ | refine .fn ?_ ?_ | (refine qeq Y ?_ rfl; (first | rfl | (focus (simp; done)))) | (refine .sl Y ?_ rfl (by intro h; cases h); (first | rfl | (focus (simp; done)))) | (refine .pur ?_; (first | rfl | (focus (simp; done)))) | refine .agg ?_ | refine .arr ?_ | refine .tup ?_))
def encA (p : Pr) : List W := [aW (qoq p.2).1, .bool (decide ((((qoq p.2).2 : Nat) : Int) = 0))]
def encZ (_ : Unit) : List W := [aW .zero, .bool false]
theorem aeach_no (t : Tree) (hb : t.nodes.length <= 4611686018427387903) (h : ¬ MayT t) : jjq cfg G 216 [.fel (tW t)] ([()].map encZ) := by
 refine vEq (fn := Tryz.f216) Y Y Y (Yb rfl) (fun L E R hy k0 => ?_)
 refine zhq 3 Y ?_
 refine zjq Y Y Y Y Y Y (tpairs_no t hb h) ?_
 refine zbq 19 Y ?_
 refine zzq rfl (jVq Y Y Y (hy) (fun b R1 hb => ?_))
 refine zbq 4 Y ?_
 exact x7q (.inr rfl) rfl (yl_same (l := []) hb)
theorem aeach_it (t : Tree) (n : Nat) (t0 : T) (h : IsT t n t0) : jjq cfg G 216 [.fel (tW t)] (t0.all.map encA) := by
 have e : (t0.all.map pW).length = t0.all.length := List.length_map _
 have hl := h.len
 have ha := h.all_le
 refine vEq (fn := Tryz.f216) Y Y Y (Yb rfl) (fun L E R hy k0 => ?_)
 refine zhq 3 Y ?_
 refine zjq Y Y Y Y Y Y (tpairs_s t n t0 h) ?_
 refine zbq 20 Y ?_
 refine zqq (w' := .int .i64 (t0.all.length : Int)) Y Y (by rw [<- e]; rfl) ?_
 refine zbq 4 Y ?_
 refine Q8q (α := Nat × Res) (fun p => p.1 <= t0.all.length /\ Yl cfg G L E ((t0.all.drop p.1).map encA) p.2) (fun p => [(21, .int .i64 (p.1 : Int))]) [(0, _), (19, _), (20, _)] (fun p => p.2) (fun p => t0.all.length - p.1) ((0, R)) ⟨rfl, rfl, rfl, trivial⟩ (⟨by simp, hy⟩) ⟨rfl, trivial⟩ rfl (fun p hI => ?_)
 obtain ⟨i, R⟩ := p
 obtain ⟨hi, hy⟩ := hI
 simp only at hi hy ⊢
 refine zhq 6 Y ?_
 refine zAq rfl (fun h1 => ?_) (fun h1 => ?_)
 ·have hi' : i < t0.all.length := by omega
  obtain ⟨x, hx⟩ : ∃ x, t0.all[i]? = some x := ⟨_, List.getElem?_eq_getElem hi'⟩
  have hv := h.val x (List.mem_of_getElem? hx)
  rw [drop_at hx, List.map_cons] at hy
  refine zeq 6 Y ?_
  refine zaq rfl (zBq (i := i) Y Y Y Y Y Y Y (ynq pW hx)) ?_
  refine zbq 9 Y ?_
  refine zjq Y Y Y Y Y Y (aread_s x.2 false (by omega)) ?_
  refine zbq 13 Y ?_
  refine yYq Y Y ?_
  refine zzq rfl (jVq Y Y Y (hy) (fun b R1 hb => ?_))
  refine zbq 3 Y ?_
  refine zAq rfl (fun h2 => ?_) (fun h2 => ?_)
  ·cases b with
   | true => cases h2
   | false =>
    refine zeq 3 Y ?_
    refine yfq (by intro h; cases h) ?_
    refine zDq 1 Y ?_
    exact x7q (.inr rfl) rfl hb
  ·cases b with
   | false => exact absurd rfl h2
   | true =>
    refine zeq 4 Y ?_
    refine ziq (i + 1) Y Y (by first | rfl | omega) ⟨by omega, by omega⟩ ?_
    refine yLq 2 Y ?_
    exact yhq ((i + 1, R1)) (⟨hi', hb⟩) (by simp only; omega) ⟨rfl, trivial⟩ ⟨rfl, rfl, rfl, trivial⟩ (by repeat (first | exact trivial | refine ⟨by first | rfl | exact zfq (by first | rfl | (simp; done)), ?_⟩)) (by omega) (by repeat (first | exact zNq | refine zQq (by omega) ?_ | refine zOq (by omega) ?_ | refine zPq (by omega) ?_)) rfl
 ·refine zeq 2 Y ?_
  refine yfq (by intro h; cases h) ?_
  refine zDq 1 Y ?_
  obtain rfl : i = t0.all.length := by omega
  rw [List.drop_length] at hy
  exact x7q (.inl rfl) rfl hy
theorem encA_ok {l : List Pr} : ∀ y ∈ l, purL (encA y) = true /\ (encA y).length = 2 := fun y _ => ⟨rfl, rfl⟩
structure IsA (t : Tree) (n : Nat) (t0 : T) : Prop extends IsT t n t0 where
 held : ∀ p ∈ t0.all, (qoq p.2).2 = 0
def MayA (t : Tree) : Prop := ∃ n t0, IsA t n t0
instance (t : Tree) : Decidable (MayA t) := Classical.propDecidable _
theorem kkq (t : Tree) (hb : t.nodes.length <= 4611686018427387903) : PS cfg G 91 [tW t] (.int .i64 (if MayA t then 0 else 8)) := by
 by_cases h : MayT t
 ·obtain ⟨n, t0, h⟩ := may_is h
  refine zYq (fn := Tryz.f91) Y Y Y (Yb rfl) (fun R k0 => ?_)
  refine zhq 10 Y ?_
  refine zjq Y Y Y Y Y Y (aeach_s _) ?_
  refine zbq 3 Y ?_
  refine Yjq (encA) (t0.all) (fun i (_ : Unit) => ∀ j p, j < i -> t0.all[j]? = some p -> (qoq p.2).2 = 0) (fun _ => R) (()) rfl (by first | rfl | assumption | (simp; done)) (aeach_it t n t0 h) (encA_ok) (fun j p hj => by omega) rfl (fun i a y hy hI => ?_) (fun a hI => ?_)
  ·refine zhq 3 Y ?_
   refine q_asg ?_
   refine zhq 7 Y ?_
   refine zAq rfl (fun h1 => ?_) (fun h1 => ?_)
   ·have hno : ¬ MayA t := by
     rintro ⟨n', t1, ha⟩
     obtain rfl : n' = n := by have := ha.root; have := h.root; omega
     obtain rfl := ha.rep.uniq h.rep
     have := ha.held y (List.mem_of_getElem? hy)
     rw [this] at h1
     simp at h1
    refine zeq 7 Y ?_
    refine QDq (by intro h; cases h) ?_
    refine zDq 2 Y ?_
    exact zgq (.inr rfl) rfl (by rw [if_neg hno])
   ·have hok : (qoq y.2).2 = 0 := by simp at h1; omega
    refine zeq 2 Y ?_
    exact QCq (()) (fun j p hj hp => by rcases Nat.lt_succ_iff_lt_or_eq.1 hj with q | rfl; exact hI j p q hp; exact (Option.some.inj (hy.symm.trans hp)) ▸ hok) (by omega) (by repeat (first | exact zNq | refine zQq (by omega) ?_ | refine zOq (by omega) ?_ | refine zPq (by omega) ?_)) rfl
  ·have yes : MayA t := ⟨n, t0, h, fun p hp => by
    obtain ⟨j, hj, hjp⟩ := List.getElem_of_mem hp
    exact hI j p hj (by rw [List.getElem?_eq_getElem hj, hjp])⟩
   refine zDq 8 Y ?_
   exact zgq (.inr rfl) rfl (by rw [if_pos yes])
 ·have hno : ¬ MayA t := fun ⟨n, t0, ha⟩ => h ha.toIsT.may
  refine zYq (fn := Tryz.f91) Y Y Y (Yb rfl) (fun R k0 => ?_)
  refine zhq 10 Y ?_
  refine zjq Y Y Y Y Y Y (aeach_s _) ?_
  refine zbq 3 Y ?_
  refine Ykq (encZ) ([()]) (fun i => i = 0) rfl (by first | rfl | assumption | (simp; done)) (aeach_no t hb h) (fun y _ => ⟨rfl, rfl⟩) (rfl) (fun i y hy hI => ?_) (fun hI => ?_)
  ·refine zhq 3 Y ?_
   refine q_asg ?_
   refine zhq 15 Y ?_
   refine q_leave (by intro h; cases h) ?_
   refine zDq 2 Y ?_
   exact zgq (.inr rfl) rfl (by rw [if_neg hno])
  ·exfalso; simp at hI
def yXq (t0 : T) (k : Dig) : Acct := match t0.find k 0 with
 | none => .zero
 | some v => (qoq v).1
theorem IsA.acct {t : Tree} {n : Nat} {t0 : T} (h : IsA t n t0) {k : Dig} {v : List UInt8} (hv : t0.find k 0 = some v) : (k, v) ∈ t0.all /\ (qoq v).2 = 0 := by
 rw [xEq k kIq h.ok] at hv
 have := (jWq h.srt).1 hv
 exact ⟨this, h.held _ this⟩
theorem Qiq (t : Tree) (n : Nat) (t0 : T) (h : IsA t n t0) (k : Dig) : PS cfg G 40 [tW t, dW k] (.tup [aW (yXq t0 k), .int .i64 0]) := by
 have yes : MayA t := ⟨n, t0, h⟩
 have hl := h.len
 cases hf : t0.find k 0 with
 | none =>
  have e : yXq t0 k = .zero := by unfold yXq; rw [hf]
  rw [e]
  refine zYq (fn := Tryz.f40) Y Y Y (Yb rfl) (fun R k0 => ?_)
  refine zhq 12 Y ?_
  first | refine zjq Y Y Y Y Y Y (yMq (w' := .int .i64 0) (kkq t (by omega)) (by rw [if_pos yes])) ?_ | refine zjq Y Y Y Y Y Y (kkq _ (by omega)) ?_
  refine zbq 16 Y ?_
  refine zjq Y Y Y Y Y Y (yMq (w' := .tup [.nils, .bool false]) (tget_s t n t0 k h.toIsT) (by rw [hf]; rfl)) ?_
  refine zbq 24 Y ?_
  exact zgq (.inr rfl) Y Y
 | some v =>
  obtain ⟨h1, h2⟩ := h.acct hf
  have hv := h.val _ h1
  have e : yXq t0 k = (qoq v).1 := by unfold yXq; rw [hf]
  rw [e]
  refine zYq (fn := Tryz.f40) Y Y Y (Yb rfl) (fun R k0 => ?_)
  refine zhq 12 Y ?_
  first | refine zjq Y Y Y Y Y Y (yMq (w' := .int .i64 0) (kkq t (by omega)) (by rw [if_pos yes])) ?_ | refine zjq Y Y Y Y Y Y (kkq _ (by omega)) ?_
  refine zbq 16 Y ?_
  refine zjq Y Y Y Y Y Y (yMq (w' := .tup [bW v, .bool true]) (tget_s t n t0 k h.toIsT) (by rw [hf]; rfl)) ?_
  refine zbq 20 Y ?_
  refine zjq Y Y Y Y Y Y (aread_s v false (by simp only at hv; omega)) ?_
  refine zbq 7 Y ?_
  exact zgq (.inr rfl) rfl (by rw [h2]; rfl)
theorem aget_no (t : Tree) (hb : t.nodes.length <= 4611686018427387903) (h : ¬ MayA t) (k : Dig) : PS cfg G 40 [tW t, dW k] (.tup [aW .zero, .int .i64 8]) := by
 refine zYq (fn := Tryz.f40) Y Y Y (Yb rfl) (fun R k0 => ?_)
 refine zhq 12 Y ?_
 refine zjq Y Y Y Y Y Y (yMq (w' := .int .i64 8) (kkq t hb) (by rw [if_neg h])) ?_
 refine zbq 20 Y ?_
 exact zgq (.inr rfl) Y Y
end
section
attribute [local irreducible] CoW OpW FlW Step Spec
variable {G : Nat -> Option W}
def nsW (ns : List Node) : W := .arr (ns.length * 36) 36 (ns.map nW)
@[simp] theorem jlq (ns : List Node) : purW (nsW ns) = true := ukq ns
theorem nclone_s (ns : List Node) (f : Bool) (hl : ns.length <= 1000000000) : qkq cfg G 114 0 [.fz (ns.map nW) 36 f] [] fun w hp nw =>
  (ns = [] /\ w = .nils /\ hp = [] /\ nw = 0) \/ (w = .sl 0 0 0 ns.length 36 none /\ hp = [(0, 106, nsW ns)] /\ nw = 1) := by
 intro R
 have e : (ns.map nW).length = ns.length := List.length_map _
 refine z0q (fn := Tryz.f114) Y Y Y (Yb rfl) (fun k0 => ?_)
 refine zhq 9 Y ?_
 first | refine zaq Y Y ?_ | refine zzq rfl (step_nil Y Y Y Y Y (fun bn hn => ?_))
 refine zbq 2 Y ?_
 refine zAq rfl (fun h1 => ?_) (fun h1 => ?_)
 ·cases bn with
  | false => cases h1
  | true =>
   have hn := hn rfl
   have hl0 : ns = [] := by cases ns with
    | nil => rfl
    | cons c l => simp at hn
   refine zeq 7 Y ?_
   exact fin (.inr rfl) Ent.refl rfl ⟨rfl, .inl ⟨hl0, rfl, rfl, rfl⟩⟩
 ·cases ns with
  | nil =>
   skip
   refine zeq 6 Y ?_
   refine znq rfl (y5q Y Y (vNq Y Y Y Y Y)) ?_
   refine zbq 4 Y ?_
   exact fin (.inr rfl) Ent.refl rfl ⟨rfl, .inr ⟨rfl, rfl, rfl⟩⟩
  | cons c l =>
   refine zeq 6 Y ?_
   refine znq rfl (y5q Y Y (qOq (len := 0) (news := (c :: l).map nW) (olds := []) (k := ti106) Y Y Y Y Y (by simp) (by show (0 + ((c :: l).map nW).length) * ti106.bytes <= _; rw [e]; show (0 + (c :: l).length) * 80 <= _; omega) (by rw [e]; omega) rfl (by show 0 < 0 + (0 + ((c :: l).map nW).length) * 36; rw [e]; simp only [List.length_cons]; omega) Y Y)) ?_
   refine zbq 4 Y ?_
   refine fin (.inr rfl) (qiq (b := 0) (k := 1) (fr2 := [(2, .sl 0 0 0 (c :: l).length 36 none)]) (hp2 := [(0, 106, nsW (c :: l))]) (by omega) (by omega) (by show 1 < 2; omega) ⟨⟨?_, rfl⟩, trivial⟩ ⟨⟨by omega, ?_, zfq (jlq _)⟩, trivial⟩ (by simp)) rfl ⟨rfl, .inr ⟨rfl, rfl, rfl⟩⟩
   ·show some (W.sl 1 0 0 (0 + ((c :: l).map nW).length) 36 none) = some (W.sl 1 0 0 (c :: l).length 36 none)
    rw [e, Nat.zero_add]
   ·rw [zlq (jlq _)]
    show some (106, W.arr ((0 + ((c :: l).map nW).length) * 36) 36 ([] ++ (c :: l).map nW)) = some (106, nsW (c :: l))
    rw [e, Nat.zero_add]
    rfl
theorem node_get (ns : List Node) {i : Nat} {x : Node} (h : ns[i]? = some x) : ypq 50 (nsW ns) (0 + i * 36 + 33) 1 false = some (bW x.val) :=
 get_in (ynq nW h) (by omega) (by omega) (by simp) rfl
theorem node_put (ns : List Node) {i : Nat} {x : Node} (h : ns[i]? = some x) : qTq 50 (nsW ns) (0 + i * 36 + 33) (bW x.val) = some (nsW ns) := by
 have h1 := ynq nW h
 rw [nsW, put_in (x' := nW x) h1 (by omega) (by omega) (by simp [W.isAgg, bW]) rfl, set_same h1]
theorem twin_s (ns : List Node) (root : Int) (hl : ns.length <= 1000000000) (hv : ∀ x ∈ ns, x.val.length <= 70368744177664) : qkq cfg G 43 0 [tW ⟨ns, root⟩] [] fun w hp nw =>
  (ns = [] /\ w = .agg 2 [.nils, .int .i64 root] /\ hp = [(1, 30, .agg 2 [.nils, .int .i64 root]), (0, 30, .agg 2 [.nils, .int .i64 root])] /\ nw = 2) \/
  (w = .agg 2 [.sl 2 0 0 ns.length 36 none, .int .i64 root] /\ hp = [(2, 106, nsW ns), (1, 30, .agg 2 [.sl 2 0 0 ns.length 36 none, .int .i64 root]), (0, 30, .agg 2 [.sl 2 0 0 ns.length 36 none, .int .i64 root])] /\ nw = 3) := by
 intro R
 refine z0q (fn := Tryz.f43) Y Y Y (Yb rfl) (fun k0 => ?_)
 refine zhq 10 Y ?_
 skip
 refine zzq rfl (jDq Y Y Y Y Y (by simp [ukq]) (nclone_s ns false hl) ?_)
 rintro w hp1 nw1 (⟨hn, rfl, rfl, rfl⟩ | ⟨rfl, rfl, rfl⟩)
 ·skip
  skip
  refine zbq 9 Y ?_
  first | refine ZOq Y Y ?_ | refine zaq Y Y ?_
  refine zbq 4 Y ?_
  refine y0q (α := Nat) (fun i => i = 0) (fun i => [(11, .int .i64 (i : Int))]) [(1, _), (2, _), (10, _)] (fun i => 1 - i) (0) ⟨rfl, rfl, rfl, trivial⟩ (rfl) ⟨rfl, trivial⟩ (fun i hI => ?_)
  subst hI
  refine zhq 9 Y ?_
  refine yfq (by intro h; cases h) ?_
  refine zDq 9 Y ?_
  exact fin (.inr rfl) Ent.refl rfl ⟨rfl, .inl ⟨hn, rfl, rfl, rfl⟩⟩
 ·rw [renH_pur1 (jlq _)]
  show OpW cfg G _ _ _ _ [(2, 106, nsW ns), (1, 30, .agg 2 [.nils, .int .i64 0]), (0, 30, tW ⟨ns, root⟩)] 3 R _
  refine zbq 9 Y ?_
  first | refine ZOq Y Y ?_ | refine zaq Y Y ?_
  refine zbq 4 Y ?_
  refine y0q (α := Nat) (fun i => i <= ns.length) (fun i => [(11, .int .i64 (i : Int))]) [(1, _), (2, _), (10, _)] (fun i => ns.length - i) (0) ⟨rfl, rfl, rfl, trivial⟩ (Nat.zero_le _) ⟨rfl, trivial⟩ (fun i hI => ?_)
  refine zhq 6 Y ?_
  refine zAq rfl (fun h1 => ?_) (fun h1 => ?_)
  ·have hi : i < ns.length := by omega
   obtain ⟨x, hx⟩ : ∃ x, ns[i]? = some x := ⟨_, List.getElem?_eq_getElem hi⟩
   have hxv := hv x (List.mem_of_getElem? hx)
   refine zeq 17 Y ?_
   refine zcq rfl (zFq (i := i) Y Y Y Y Y Y Y hi) (zcq Y Y ?_)
   refine yHq rfl (ykq Y Y Y (node_get ns hx)) (by first | rfl | kernel_rfl) ?_
   refine fl_ps Y Y Y Y Y Y (Ylq x.val false hxv) (by simp) (by simp) (by first | rfl | kernel_rfl) ?_
   refine zcq rfl (zFq (i := i) Y Y Y Y Y Y Y hi) (zcq Y Y ?_)
   refine yHq rfl (st_same Y Y Y Y Y (node_put ns hx)) (by first | rfl | kernel_rfl) ?_
   refine zuq 4 Y ?_
   refine ziq (i + 1) Y Y (by first | rfl | omega) ⟨by omega, by omega⟩ ?_
   refine yLq 2 Y ?_
   exact yhq (i + 1) (hi) (by omega) ⟨rfl, trivial⟩ ⟨rfl, rfl, rfl, trivial⟩ (by repeat (first | exact trivial | refine ⟨by first | rfl | exact zfq (by first | rfl | (simp; done)), ?_⟩)) (by omega) (by repeat (first | exact zNq | refine zQq (by omega) ?_ | refine zOq (by omega) ?_ | refine zPq (by omega) ?_)) rfl
  ·refine zeq 2 Y ?_
   refine yfq (by intro h; cases h) ?_
   refine zDq 9 Y ?_
   exact fin (.inr rfl) Ent.refl rfl ⟨rfl, .inr ⟨rfl, rfl, rfl⟩⟩
end
section
attribute [local irreducible] CoW OpW FlW Step Spec
variable {G : Nat -> Option W}
def mkW (b n : Nat) (root : Int) : W := .agg 2 [.sl b 0 0 n 36 none, .int .i64 root]
theorem nsW_snoc (ns : List Node) (x : Node) : nsW (ns ++ [x]) = .arr ((ns.length + 1) * 36) 36 (ns.map nW ++ [nW x]) := by simp [nsW]
theorem node_s (ns : List Node) (root : Int) (x : Node) (hl : ns.length <= 1000000000) : qkq cfg G 213 2 [.ptr 0 0, nW x] [(0, 261, mkW 1 ns.length root), (1, 106, nsW ns)] fun w hp nw =>
  w = .int .i64 ((ns.length + 1 : Nat) : Int) /\ hp = [(0, 261, mkW 2 (ns.length + 1) root), (2, 106, nsW (ns ++ [x]))] /\ nw = 3 := by
 intro R
 have el : (ns.map nW).length = ns.length := List.length_map _
 refine z0q (fn := Tryz.f213) Y Y Y (Yb rfl) (fun k0 => ?_)
 refine zhq 16 Y ?_
 refine yHq rfl (y5q Y Y (qOq (len := ns.length) (news := [nW x]) (olds := ns.map nW) (k := ti106) Y Y Y Y (qsq Y Y Y Y) (by simp) (by show (ns.length + 1) * 80 <= _; omega) (by show ns.length + 1 <= _; omega) rfl (by show ns.length * 36 < 0 + (ns.length + 1) * 36; omega) rfl (zGq (by decide) el.symm rfl))) (by first | rfl | kernel_rfl) ?_
 refine zuq 13 Y ?_
 first | refine ZOq Y Y ?_ | refine zaq Y Y ?_
 refine zbq 4 Y ?_
 refine fin (.inr rfl) (qiq (b := 2) (k := 4) (fr2 := [(4, .int .i64 ((ns.length + 1 : Nat) : Int))]) (hp2 := [(0, 261, mkW 2 (ns.length + 1) root), (2, 106, nsW (ns ++ [x]))]) (by omega) (by omega) (by show 4 < 5; omega) ⟨⟨rfl, rfl⟩, trivial⟩ ⟨⟨by omega, rfl, rfl⟩, ⟨by omega, ?_, zfq (jlq _)⟩, trivial⟩ (by simp)) rfl ⟨rfl, rfl, rfl, rfl⟩
 rw [zlq (jlq _), nsW_snoc]
 rfl
def Mk (root : Int) (P : List Node -> Nat -> Prop) : W -> HpW -> Nat -> Prop := fun w hp nw =>
 ∃ ns m, P ns m /\ w = .int .i64 ((m : Nat) : Int) /\ hp = [(0, 261, mkW 2 ns.length root), (2, 106, nsW ns)] /\ nw = 3
theorem yxq {o : Oper} {fr : FrW} {hp : HpW} {nw : Nat} {R : Res} {post : W -> HpW -> Nat -> Res -> Option EvW -> Prop} {x : Operand} {xs : Array Operand} {ats : Array TypeId} {f : FuncId} {us : List W} {root : Int} {ns : List Node} {P : List Node -> Nat -> Prop} (k : Nat)
  (ho : o.op = .call ⟨.value x, xs, ats⟩) (hx : evW cfg G fr x = some (.fn f [] [])) (he : cfg.ext f = none) (hxs : evLW cfg G fr xs.toList = some (.ptr 0 0 :: us)) (hpu : purL us = true) (hk : 0 < k) (hkn : k < nw)
  (h0 : hget hp 0 = some (261, mkW k ns.length root)) (h1 : hget hp k = some (106, nsW ns)) (sp : qkq cfg G f 2 (.ptr 0 0 :: us) [(0, 261, mkW 1 ns.length root), (1, 106, nsW ns)] (Mk root P))
  (hpost : ∀ ns' m, P ns' m -> post (.int .i64 ((m : Nat) : Int)) ((0, 261, mkW nw ns'.length root) :: (nw, 106, nsW ns') :: delA [0, k] hp) (nw + 1) R (some .dirty)) : Step cfg G o fr hp nw R post := by
 refine yOq (ext := [0, k]) (ws := .ptr 0 0 :: us) ho hx he hxs ?_ sp ?_ ?_ (by simp) (ZXq h0 (by rw [zlq (jlq _)]; exact h1) rfl (zfq (jlq _))) ?_ ?_
 ·show .ptr 0 0 :: (us ++ []) = W.ptr 0 0 :: qlq (numC [0, k] nw) us
  rw [j3q hpu, List.append_nil]
 ·simp; omega
 ·intro b hb
  simp only [List.mem_cons, List.not_mem_nil, or_false] at hb
  omega
 ·have h := zfq (m := 2) (w := .tup us) hpu
  have h : refL 2 us = true := h
  show (refB 2 (.ptr 0 0) && refL 2 us) = true
  rw [h]; rfl
 ·rintro w hp1 nw1 ⟨ns', m, h, rfl, rfl, rfl⟩
  have e : renH (numC [0, k] nw) [(0, 261, mkW 2 ns'.length root), (2, 106, nsW ns')] = [(0, 261, mkW nw ns'.length root), (nw, 106, nsW ns')] := by
   simp only [renH, zlq (jlq _)]; rfl
  have h := hpost ns' m h
  rw [show ([0, k] : List Nat).length = 2 from rfl, e]
  exact h
theorem kEq {k0 : Nat} {rs : List ResultVar} {x : Exit} {fr : FrW} {hp : HpW} {nw : Nat} {R : Res} {root : Int} {P : List Node -> Nat -> Prop} {ns : List Node} {m : Nat} (s k : Nat) (hx : x = .normal \/ x = .ret) (hk : 2 <= k) (hkn : k < nw) (hf : getW fr s = some (.int .i64 ((m : Nat) : Int)))
  (h0 : hget hp (tau1 2 k 0) = some (261, renW (tau1 2 k) (mkW 2 ns.length root))) (h1 : hget hp (tau1 2 k 2) = some (106, nsW ns)) (ho : outW cfg [(s, .int .i64 ((m : Nat) : Int))] [(0, 261, mkW 2 ns.length root), (2, 106, nsW ns)] rs = some (.int .i64 ((m : Nat) : Int))) (hP : P ns m) :
  QFin cfg G 2 k0 rs (fun w hp nw R' => R' = R /\ Mk root P w hp nw) x fr hp nw R :=
 fin hx (qiq (b := 2) (k := k) (fr2 := [(s, .int .i64 ((m : Nat) : Int))]) (hp2 := [(0, 261, mkW 2 ns.length root), (2, 106, nsW ns)]) (by omega) hk hkn ⟨⟨hf, rfl⟩, trivial⟩ ⟨⟨by omega, h0, rfl⟩, ⟨by omega, by rw [zlq (jlq _)]; exact h1, zfq (jlq _)⟩, trivial⟩ (by simp)) ho ⟨rfl, ns, m, hP, rfl, rfl, rfl⟩
def NodeP (ns : List Node) (x : Node) : List Node -> Nat -> Prop := fun ns' m => ns' = ns ++ [x] /\ m = ns.length + 1
theorem qUq (ns : List Node) (root : Int) (x : Node) (hl : ns.length <= 1000000000) : qkq cfg G 213 2 [.ptr 0 0, nW x] [(0, 261, mkW 1 ns.length root), (1, 106, nsW ns)] (Mk root (NodeP ns x)) := by
 have h := node_s (G := G) ns root x hl
 intro R
 have e : (fun w hp nw R' => R' = R /\ (w = .int .i64 ((ns.length + 1 : Nat) : Int) /\ hp = [(0, 261, mkW 2 (ns.length + 1) root), (2, 106, nsW (ns ++ [x]))] /\ nw = 3)) = (fun (w : W) (hp : HpW) (nw : Nat) (R' : Res) => R' = R /\ Mk root (NodeP ns x) w hp nw) := by
  funext w hp nw R'
  refine propext (and_congr_right fun _ => ⟨fun ⟨h1, h2, h3⟩ => ⟨_, _, ⟨rfl, rfl⟩, h1, by rw [h2]; simp, h3⟩, ?_⟩)
  rintro ⟨ns', m, ⟨rfl, rfl⟩, h1, h2, h3⟩
  exact ⟨h1, by rw [h2]; simp, h3⟩
 exact e ▸ h R
def Gr (ns : List Node) (f : Nat) (t : T) : List Node -> Nat -> Prop := fun ns' m => (∃ ms, ns' = ns ++ ms /\ ms.length <= f) /\ okN ns' /\ Rep ns' m t
theorem okN_snoc {ns : List Node} {x : Node} (h : okN ns) (hx : oneB x ns.length) : okN (ns ++ [x]) := fun i y hy => by
 rcases Nat.lt_trichotomy i ns.length with h1 | rfl | h1
 ·rw [List.getElem?_append_left h1] at hy; exact h i y hy
 ·rw [List.getElem?_append_right (Nat.le_refl _), Nat.sub_self] at hy
  cases hy; exact hx
 ·rw [List.getElem?_append_right (by omega), List.getElem?_eq_none (by simp; omega)] at hy
  cases hy
theorem at_snoc (ns : List Node) (x : Node) : (ns ++ [x])[ns.length]? = some x := by simp
theorem leaf_one {k : Dig} {v : List UInt8} (hv : MayP [(k, v)]) (n : Nat) : oneB ⟨true, k, v, 0, 0⟩ n := by simp [oneB, hv]
theorem QQq {ns : List Node} {k : Dig} {v : List UInt8} (hok : okN ns) (hv : MayP [(k, v)]) {f : Nat} (hf : 0 < f) : Gr ns f (.leaf k v) (ns ++ [⟨true, k, v, 0, 0⟩]) (ns.length + 1) :=
 ⟨⟨_, rfl, hf⟩, okN_snoc hok (leaf_one hv _), .leaf (at_snoc ns _)⟩
theorem q2q {ns ms : List Node} {l r f : Nat} {L R : T} (hms : ms.length <= f) (hok : okN (ns ++ ms)) (hl : Rep (ns ++ ms) l L) (hr : Rep (ns ++ ms) r R) (h : 0 < l + r) : Gr ns (f + 1) (.fork L R) (ns ++ ms ++ [forkN l r]) ((ns ++ ms).length + 1) :=
 ⟨⟨ms ++ [forkN l r], by simp, by simp; omega⟩, okN_snoc hok (by have := hl.le; have := hr.le; simp only [oneB, forkN, Bool.false_eq_true, if_false]; exact ⟨by omega, by omega, trivial, trivial, by omega⟩), .fork (at_snoc _ _) hl.le hr.le (hl.app _) (hr.app _)⟩
theorem Ziq (ns : List Node) {i : Nat} {x : Node} (h : ns[i]? = some x) : ∃ w, ypq 50 (nsW ns) (0 + i * 36) 36 true = some w /\ (w = nW x \/ (ns.length = 1 /\ w = .arr 36 36 [nW x])) := by
 by_cases e : ns.length = 1
 ·obtain ⟨y, rfl⟩ := List.length_eq_one_iff.1 e
  cases i with
  | zero => cases h; exact ⟨_, rfl, .inr ⟨rfl, rfl⟩⟩
  | succ i => simp at h
 ·have hi := (List.getElem?_eq_some_iff.1 h).1
  exact ⟨_, get_in (off := 0) (ynq nW h) (by omega) (by omega) (by rw [show Nat.beq 36 (ns.length * 36) = false from by rw [<- Bool.not_eq_true, Nat.beq_eq]; omega]; simp) rfl, .inl rfl⟩
abbrev Jfq (G : Nat -> Option W) (root : Int) (k : Dig) (v : List UInt8) (ns : List Node) (n d : Nat) (P : List Node -> Nat -> Prop) : Prop := qkq cfg G 158 2 [.ptr 0 0, .int .i64 ((n : Nat) : Int), .int .i64 ((d : Nat) : Int), nW ⟨true, k, v, 0, 0⟩] [(0, 261, mkW 1 ns.length root), (1, 106, nsW ns)] (Mk root P)
theorem with_nil {root : Int} {k : Dig} {v : List UInt8} {ns : List Node} {d f : Nat} (hok : okN ns) (hv : MayP [(k, v)]) (hf : 0 < f) (hl : ns.length <= 1000000000) : Jfq G root k v ns 0 d (Gr ns f (.leaf k v)) := by
 intro R
 refine z0q (fn := Tryz.f158) Y Y Y (Yb rfl) (fun k0 => ?_)
 refine zhq 13 Y ?_
 refine zAq rfl (fun h1 => ?_) (fun h1 => ?_)
 ·refine zeq 4 Y ?_
  (refine zzq rfl (yxq 1 Y Y Y Y (by simp) (by omega) (by show 1 < 3; omega) Y Y (qUq ns root _ hl) ?_); rintro ns1 m ⟨rfl, rfl⟩)
  refine zbq 5 Y ?_
  exact kEq 8 3 (.inr rfl) (by omega) (by show 3 < 4; omega) Y Y Y Y (QQq hok hv hf)
 ·exfalso; omega
theorem with_hit {root : Int} {k : Dig} {v v' : List UInt8} {ns : List Node} {i d f : Nat} {l r : Int} (hx : ns[i]? = some ⟨true, k, v', l, r⟩) (hok : okN ns) (hv : MayP [(k, v)]) (hf : 0 < f) (hl : ns.length <= 1000000000) : Jfq G root k v ns (i + 1) d (Gr ns f (.leaf k v)) := by
 intro R
 have hi := (List.getElem?_eq_some_iff.1 hx).1
 obtain ⟨w, hw, rfl | ⟨_, rfl⟩⟩ := Ziq ns hx
 ·refine z0q (fn := Tryz.f158) Y Y Y (Yb rfl) (fun k0 => ?_)
  refine zhq 13 Y ?_
  refine zAq rfl (fun h1 => ?_) (fun h1 => ?_)
  ·exfalso; omega
  ·refine zeq 10 Y ?_
   refine ziq (i) Y Y (by first | rfl | omega) ⟨by omega, by omega⟩ ?_
   refine zaq rfl (zFq (i := i) Y Y Y Y Y Y Y hi) (znq rfl (ykq Y Y Y hw) ?_)
   refine zbq 8 Y ?_
   refine znq Y Y ?_
   refine x0q (fun h2 => ?_) (fun h2 => ?_)
   ·refine zbq 5 Y ?_
    refine kBq rfl (qKq Y Y Y Y (qFq Y Y Y Y Y Y _ _ 250)) ySq ?_
    refine zbq 3 Y ?_
    refine zAq rfl (fun h3 => ?_) (fun h3 => ?_)
    ·refine zeq 4 Y ?_
     (refine zzq rfl (yxq 1 Y Y Y Y (by simp) (by omega) (by show 1 < 4; omega) Y Y (qUq ns root _ hl) ?_); rintro ns1 m ⟨rfl, rfl⟩)
     refine zbq 5 Y ?_
     exact kEq 8 4 (.inr rfl) (by omega) (by show 4 < 5; omega) Y Y Y Y (QQq hok hv hf)
    ·exfalso; exact h3 rfl
   ·exfalso; exact h2 rfl
 ·refine z0q (fn := Tryz.f158) Y Y Y (Yb rfl) (fun k0 => ?_)
  refine zhq 13 Y ?_
  refine zAq rfl (fun h1 => ?_) (fun h1 => ?_)
  ·exfalso; omega
  ·refine zeq 10 Y ?_
   refine ziq (i) Y Y (by first | rfl | omega) ⟨by omega, by omega⟩ ?_
   refine zaq rfl (zFq (i := i) Y Y Y Y Y Y Y hi) (znq rfl (ykq Y Y Y hw) ?_)
   refine zbq 8 Y ?_
   refine znq Y Y ?_
   refine x0q (fun h2 => ?_) (fun h2 => ?_)
   ·refine zbq 5 Y ?_
    refine kBq rfl (qKq Y Y Y Y (qFq Y Y Y Y Y Y _ _ 250)) ySq ?_
    refine zbq 3 Y ?_
    refine zAq rfl (fun h3 => ?_) (fun h3 => ?_)
    ·refine zeq 4 Y ?_
     (refine zzq rfl (yxq 1 Y Y Y Y (by simp) (by omega) (by show 1 < 4; omega) Y Y (qUq ns root _ hl) ?_); rintro ns1 m ⟨rfl, rfl⟩)
     refine zbq 5 Y ?_
     exact kEq 8 4 (.inr rfl) (by omega) (by show 4 < 5; omega) Y Y Y Y (QQq hok hv hf)
    ·exfalso; exact h3 rfl
   ·exfalso; exact h2 rfl
theorem with_leaf {root : Int} {k k' : Dig} {v v' : List UInt8} {ns : List Node} {i d f : Nat} {l r : Int} {t' : T} (hx : ns[i]? = some ⟨true, k', v', l, r⟩) (hk : k' ≠ k) (hd : d < 256) (hl : ns.length + f + 1 <= 1000000000) (ht : t'.non = true)
  (sp : Jfq G root k v ns (if bitN k d = bitN k' d then i + 1 else 0) (d + 1) (Gr ns f t')) : Jfq G root k v ns (i + 1) d (Gr ns (f + 1) (if bitN k d = 0 then .fork t' (if bitN k d = bitN k' d then .nil else .leaf k' v') else .fork (if bitN k d = bitN k' d then .nil else .leaf k' v') t')) := by
 intro R
 have hi := (List.getElem?_eq_some_iff.1 hx).1
 have b1 := q5q k d
 have b2 := q5q k' d
 have hc : bitN k d = 0 \/ bitN k d = 1 := by omega
 have hc' : bitN k' d = 0 \/ bitN k' d = 1 := by omega
 obtain ⟨w, hw, rfl | ⟨_, rfl⟩⟩ := Ziq ns hx
 ·rcases hc' with hc' | hc' <;> rcases hc with hc | hc
  ·skip
   rw [if_pos (hc.trans hc'.symm)] at sp
   refine z0q (fn := Tryz.f158) Y Y Y (Yb rfl) (fun k0 => ?_)
   refine zhq 13 Y ?_
   refine zAq rfl (fun h1 => ?_) (fun h1 => ?_)
   ·exfalso; omega
   ·refine zeq 10 Y ?_
    refine ziq (i) Y Y (by first | rfl | omega) ⟨by omega, by omega⟩ ?_
    refine zaq rfl (zFq (i := i) Y Y Y Y Y Y Y hi) (znq rfl (ykq Y Y Y hw) ?_)
    refine zbq 8 Y ?_
    refine znq Y Y ?_
    refine x0q (fun h2 => ?_) (fun h2 => ?_)
    ·refine zbq 5 Y ?_
     refine kBq rfl (qKq Y Y Y Y (qFq Y Y Y Y Y Y _ _ 250)) ySq ?_
     refine zbq 3 Y ?_
     refine zAq rfl (fun h3 => ?_) (fun h3 => ?_)
     ·exfalso; exact hk h3
     ·refine zeq 19 Y ?_
      (first | refine zjq Y Y Y Y Y Y (yJq k' d 0 hd hc') ?_ | refine zjq Y Y Y Y Y Y (yJq k d 0 hd hc) ?_)
      refine zaq Y Y ?_
      first | refine zaq rfl (zBq Y Y Y Y Y Y Y (by first | assumption | (simp; done))) ?_ | refine zaq rfl (zFq Y Y Y Y Y Y Y (by omega)) ?_ | refine zaq rfl (zpq Y Y Y Y Y Y (by omega)) ?_ | refine zaq Y Y ?_
      refine zbq 8 Y ?_
      (first | refine zjq Y Y Y Y Y Y (yJq k' d 0 hd hc') ?_ | refine zjq Y Y Y Y Y Y (yJq k d 0 hd hc) ?_)
      refine zbq 7 Y ?_
      first | refine zcq rfl (zBq Y Y Y Y Y Y Y (by first | assumption | (simp; done))) ?_ | refine zcq rfl (zFq Y Y Y Y Y Y Y (by omega)) ?_ | refine zcq rfl (zpq Y Y Y Y Y Y (by omega)) ?_ | refine zcq Y Y ?_
      refine zuq 2 Y ?_
      refine qtq (d + 1) Y Y (by first | rfl | omega) ⟨by omega, by omega⟩ ?_
      refine yRq Y Y ?_
      (refine ymq rfl (yxq 1 Y Y Y Y (by simp) (by omega) (by show 1 < 5; omega) Y Y sp ?_); rintro ns1 m ⟨⟨ms, rfl, hms⟩, hok1, hm⟩; refine ⟨by first | rfl | kernel_rfl, ?_⟩)
      refine zuq 7 Y ?_
      first | refine zaq rfl (zBq Y Y Y Y Y Y Y (by first | assumption | (simp; done))) ?_ | refine zaq rfl (zFq Y Y Y Y Y Y Y (by omega)) ?_ | refine zaq rfl (zpq Y Y Y Y Y Y (by omega)) ?_ | refine zaq Y Y ?_
      refine zbq 7 Y ?_
      refine zjq Y Y Y Y Y Y (joq _ _) ?_
      (refine zzq rfl (yxq 5 Y Y Y Y (by simp) (by omega) (by show 5 < 6; omega) Y Y (qUq _ root _ (by simp only [List.length_append]; omega)) ?_); rintro ns2 m2 ⟨rfl, rfl⟩)
      refine zbq 4 Y ?_
      have hm0 : 0 < m := by have := hm.non; rw [ht] at this; simpa using this.symm
      exact kEq 8 6 (.inr rfl) (by omega) (by show 6 < 7; omega) Y Y Y Y (by rw [if_pos hc, if_pos (hc.trans hc'.symm)]; exact q2q hms hok1 hm (.nil) (by omega))
    ·exfalso; exact h2 rfl
  ·skip
   rw [if_neg (by omega)] at sp
   refine z0q (fn := Tryz.f158) Y Y Y (Yb rfl) (fun k0 => ?_)
   refine zhq 13 Y ?_
   refine zAq rfl (fun h1 => ?_) (fun h1 => ?_)
   ·exfalso; omega
   ·refine zeq 10 Y ?_
    refine ziq (i) Y Y (by first | rfl | omega) ⟨by omega, by omega⟩ ?_
    refine zaq rfl (zFq (i := i) Y Y Y Y Y Y Y hi) (znq rfl (ykq Y Y Y hw) ?_)
    refine zbq 8 Y ?_
    refine znq Y Y ?_
    refine x0q (fun h2 => ?_) (fun h2 => ?_)
    ·refine zbq 5 Y ?_
     refine kBq rfl (qKq Y Y Y Y (qFq Y Y Y Y Y Y _ _ 250)) ySq ?_
     refine zbq 3 Y ?_
     refine zAq rfl (fun h3 => ?_) (fun h3 => ?_)
     ·exfalso; exact hk h3
     ·refine zeq 19 Y ?_
      (first | refine zjq Y Y Y Y Y Y (yJq k' d 0 hd hc') ?_ | refine zjq Y Y Y Y Y Y (yJq k d 1 hd hc) ?_)
      refine zaq Y Y ?_
      first | refine zaq rfl (zBq Y Y Y Y Y Y Y (by first | assumption | (simp; done))) ?_ | refine zaq rfl (zFq Y Y Y Y Y Y Y (by omega)) ?_ | refine zaq rfl (zpq Y Y Y Y Y Y (by omega)) ?_ | refine zaq Y Y ?_
      refine zbq 8 Y ?_
      (first | refine zjq Y Y Y Y Y Y (yJq k' d 0 hd hc') ?_ | refine zjq Y Y Y Y Y Y (yJq k d 1 hd hc) ?_)
      refine zbq 7 Y ?_
      first | refine zcq rfl (zBq Y Y Y Y Y Y Y (by first | assumption | (simp; done))) ?_ | refine zcq rfl (zFq Y Y Y Y Y Y Y (by omega)) ?_ | refine zcq rfl (zpq Y Y Y Y Y Y (by omega)) ?_ | refine zcq Y Y ?_
      refine zuq 2 Y ?_
      refine qtq (d + 1) Y Y (by first | rfl | omega) ⟨by omega, by omega⟩ ?_
      refine yRq Y Y ?_
      (refine ymq rfl (yxq 1 Y Y Y Y (by simp) (by omega) (by show 1 < 5; omega) Y Y sp ?_); rintro ns1 m ⟨⟨ms, rfl, hms⟩, hok1, hm⟩; refine ⟨by first | rfl | kernel_rfl, ?_⟩)
      refine zuq 7 Y ?_
      first | refine zaq rfl (zBq Y Y Y Y Y Y Y (by first | assumption | (simp; done))) ?_ | refine zaq rfl (zFq Y Y Y Y Y Y Y (by omega)) ?_ | refine zaq rfl (zpq Y Y Y Y Y Y (by omega)) ?_ | refine zaq Y Y ?_
      refine zbq 7 Y ?_
      refine zjq Y Y Y Y Y Y (joq _ _) ?_
      (refine zzq rfl (yxq 5 Y Y Y Y (by simp) (by omega) (by show 5 < 6; omega) Y Y (qUq _ root _ (by simp only [List.length_append]; omega)) ?_); rintro ns2 m2 ⟨rfl, rfl⟩)
      refine zbq 4 Y ?_
      have hm0 : 0 < m := by have := hm.non; rw [ht] at this; simpa using this.symm
      exact kEq 8 6 (.inr rfl) (by omega) (by show 6 < 7; omega) Y Y Y Y (by rw [if_neg (by omega), if_neg (by omega)]; exact q2q hms hok1 ((Rep.leaf hx).app _) hm (by omega))
    ·exfalso; exact h2 rfl
  ·skip
   rw [if_neg (by omega)] at sp
   refine z0q (fn := Tryz.f158) Y Y Y (Yb rfl) (fun k0 => ?_)
   refine zhq 13 Y ?_
   refine zAq rfl (fun h1 => ?_) (fun h1 => ?_)
   ·exfalso; omega
   ·refine zeq 10 Y ?_
    refine ziq (i) Y Y (by first | rfl | omega) ⟨by omega, by omega⟩ ?_
    refine zaq rfl (zFq (i := i) Y Y Y Y Y Y Y hi) (znq rfl (ykq Y Y Y hw) ?_)
    refine zbq 8 Y ?_
    refine znq Y Y ?_
    refine x0q (fun h2 => ?_) (fun h2 => ?_)
    ·refine zbq 5 Y ?_
     refine kBq rfl (qKq Y Y Y Y (qFq Y Y Y Y Y Y _ _ 250)) ySq ?_
     refine zbq 3 Y ?_
     refine zAq rfl (fun h3 => ?_) (fun h3 => ?_)
     ·exfalso; exact hk h3
     ·refine zeq 19 Y ?_
      (first | refine zjq Y Y Y Y Y Y (yJq k' d 1 hd hc') ?_ | refine zjq Y Y Y Y Y Y (yJq k d 0 hd hc) ?_)
      refine zaq Y Y ?_
      first | refine zaq rfl (zBq Y Y Y Y Y Y Y (by first | assumption | (simp; done))) ?_ | refine zaq rfl (zFq Y Y Y Y Y Y Y (by omega)) ?_ | refine zaq rfl (zpq Y Y Y Y Y Y (by omega)) ?_ | refine zaq Y Y ?_
      refine zbq 8 Y ?_
      (first | refine zjq Y Y Y Y Y Y (yJq k' d 1 hd hc') ?_ | refine zjq Y Y Y Y Y Y (yJq k d 0 hd hc) ?_)
      refine zbq 7 Y ?_
      first | refine zcq rfl (zBq Y Y Y Y Y Y Y (by first | assumption | (simp; done))) ?_ | refine zcq rfl (zFq Y Y Y Y Y Y Y (by omega)) ?_ | refine zcq rfl (zpq Y Y Y Y Y Y (by omega)) ?_ | refine zcq Y Y ?_
      refine zuq 2 Y ?_
      refine qtq (d + 1) Y Y (by first | rfl | omega) ⟨by omega, by omega⟩ ?_
      refine yRq Y Y ?_
      (refine ymq rfl (yxq 1 Y Y Y Y (by simp) (by omega) (by show 1 < 5; omega) Y Y sp ?_); rintro ns1 m ⟨⟨ms, rfl, hms⟩, hok1, hm⟩; refine ⟨by first | rfl | kernel_rfl, ?_⟩)
      refine zuq 7 Y ?_
      first | refine zaq rfl (zBq Y Y Y Y Y Y Y (by first | assumption | (simp; done))) ?_ | refine zaq rfl (zFq Y Y Y Y Y Y Y (by omega)) ?_ | refine zaq rfl (zpq Y Y Y Y Y Y (by omega)) ?_ | refine zaq Y Y ?_
      refine zbq 7 Y ?_
      refine zjq Y Y Y Y Y Y (joq _ _) ?_
      (refine zzq rfl (yxq 5 Y Y Y Y (by simp) (by omega) (by show 5 < 6; omega) Y Y (qUq _ root _ (by simp only [List.length_append]; omega)) ?_); rintro ns2 m2 ⟨rfl, rfl⟩)
      refine zbq 4 Y ?_
      have hm0 : 0 < m := by have := hm.non; rw [ht] at this; simpa using this.symm
      exact kEq 8 6 (.inr rfl) (by omega) (by show 6 < 7; omega) Y Y Y Y (by rw [if_pos hc, if_neg (by omega)]; exact q2q hms hok1 hm ((Rep.leaf hx).app _) (by omega))
    ·exfalso; exact h2 rfl
  ·skip
   rw [if_pos (hc.trans hc'.symm)] at sp
   refine z0q (fn := Tryz.f158) Y Y Y (Yb rfl) (fun k0 => ?_)
   refine zhq 13 Y ?_
   refine zAq rfl (fun h1 => ?_) (fun h1 => ?_)
   ·exfalso; omega
   ·refine zeq 10 Y ?_
    refine ziq (i) Y Y (by first | rfl | omega) ⟨by omega, by omega⟩ ?_
    refine zaq rfl (zFq (i := i) Y Y Y Y Y Y Y hi) (znq rfl (ykq Y Y Y hw) ?_)
    refine zbq 8 Y ?_
    refine znq Y Y ?_
    refine x0q (fun h2 => ?_) (fun h2 => ?_)
    ·refine zbq 5 Y ?_
     refine kBq rfl (qKq Y Y Y Y (qFq Y Y Y Y Y Y _ _ 250)) ySq ?_
     refine zbq 3 Y ?_
     refine zAq rfl (fun h3 => ?_) (fun h3 => ?_)
     ·exfalso; exact hk h3
     ·refine zeq 19 Y ?_
      (first | refine zjq Y Y Y Y Y Y (yJq k' d 1 hd hc') ?_ | refine zjq Y Y Y Y Y Y (yJq k d 1 hd hc) ?_)
      refine zaq Y Y ?_
      first | refine zaq rfl (zBq Y Y Y Y Y Y Y (by first | assumption | (simp; done))) ?_ | refine zaq rfl (zFq Y Y Y Y Y Y Y (by omega)) ?_ | refine zaq rfl (zpq Y Y Y Y Y Y (by omega)) ?_ | refine zaq Y Y ?_
      refine zbq 8 Y ?_
      (first | refine zjq Y Y Y Y Y Y (yJq k' d 1 hd hc') ?_ | refine zjq Y Y Y Y Y Y (yJq k d 1 hd hc) ?_)
      refine zbq 7 Y ?_
      first | refine zcq rfl (zBq Y Y Y Y Y Y Y (by first | assumption | (simp; done))) ?_ | refine zcq rfl (zFq Y Y Y Y Y Y Y (by omega)) ?_ | refine zcq rfl (zpq Y Y Y Y Y Y (by omega)) ?_ | refine zcq Y Y ?_
      refine zuq 2 Y ?_
      refine qtq (d + 1) Y Y (by first | rfl | omega) ⟨by omega, by omega⟩ ?_
      refine yRq Y Y ?_
      (refine ymq rfl (yxq 1 Y Y Y Y (by simp) (by omega) (by show 1 < 5; omega) Y Y sp ?_); rintro ns1 m ⟨⟨ms, rfl, hms⟩, hok1, hm⟩; refine ⟨by first | rfl | kernel_rfl, ?_⟩)
      refine zuq 7 Y ?_
      first | refine zaq rfl (zBq Y Y Y Y Y Y Y (by first | assumption | (simp; done))) ?_ | refine zaq rfl (zFq Y Y Y Y Y Y Y (by omega)) ?_ | refine zaq rfl (zpq Y Y Y Y Y Y (by omega)) ?_ | refine zaq Y Y ?_
      refine zbq 7 Y ?_
      refine zjq Y Y Y Y Y Y (joq _ _) ?_
      (refine zzq rfl (yxq 5 Y Y Y Y (by simp) (by omega) (by show 5 < 6; omega) Y Y (qUq _ root _ (by simp only [List.length_append]; omega)) ?_); rintro ns2 m2 ⟨rfl, rfl⟩)
      refine zbq 4 Y ?_
      have hm0 : 0 < m := by have := hm.non; rw [ht] at this; simpa using this.symm
      exact kEq 8 6 (.inr rfl) (by omega) (by show 6 < 7; omega) Y Y Y Y (by rw [if_neg (by omega), if_pos (hc.trans hc'.symm)]; exact q2q hms hok1 (.nil) hm (by omega))
    ·exfalso; exact h2 rfl
 ·rcases hc' with hc' | hc' <;> rcases hc with hc | hc
  ·skip
   rw [if_pos (hc.trans hc'.symm)] at sp
   refine z0q (fn := Tryz.f158) Y Y Y (Yb rfl) (fun k0 => ?_)
   refine zhq 13 Y ?_
   refine zAq rfl (fun h1 => ?_) (fun h1 => ?_)
   ·exfalso; omega
   ·refine zeq 10 Y ?_
    refine ziq (i) Y Y (by first | rfl | omega) ⟨by omega, by omega⟩ ?_
    refine zaq rfl (zFq (i := i) Y Y Y Y Y Y Y hi) (znq rfl (ykq Y Y Y hw) ?_)
    refine zbq 8 Y ?_
    refine znq Y Y ?_
    refine x0q (fun h2 => ?_) (fun h2 => ?_)
    ·refine zbq 5 Y ?_
     refine kBq rfl (qKq Y Y Y Y (qFq Y Y Y Y Y Y _ _ 250)) ySq ?_
     refine zbq 3 Y ?_
     refine zAq rfl (fun h3 => ?_) (fun h3 => ?_)
     ·exfalso; exact hk h3
     ·refine zeq 19 Y ?_
      (first | refine zjq Y Y Y Y Y Y (yJq k' d 0 hd hc') ?_ | refine zjq Y Y Y Y Y Y (yJq k d 0 hd hc) ?_)
      refine zaq Y Y ?_
      first | refine zaq rfl (zBq Y Y Y Y Y Y Y (by first | assumption | (simp; done))) ?_ | refine zaq rfl (zFq Y Y Y Y Y Y Y (by omega)) ?_ | refine zaq rfl (zpq Y Y Y Y Y Y (by omega)) ?_ | refine zaq Y Y ?_
      refine zbq 8 Y ?_
      (first | refine zjq Y Y Y Y Y Y (yJq k' d 0 hd hc') ?_ | refine zjq Y Y Y Y Y Y (yJq k d 0 hd hc) ?_)
      refine zbq 7 Y ?_
      first | refine zcq rfl (zBq Y Y Y Y Y Y Y (by first | assumption | (simp; done))) ?_ | refine zcq rfl (zFq Y Y Y Y Y Y Y (by omega)) ?_ | refine zcq rfl (zpq Y Y Y Y Y Y (by omega)) ?_ | refine zcq Y Y ?_
      refine zuq 2 Y ?_
      refine qtq (d + 1) Y Y (by first | rfl | omega) ⟨by omega, by omega⟩ ?_
      refine yRq Y Y ?_
      (refine ymq rfl (yxq 1 Y Y Y Y (by simp) (by omega) (by show 1 < 5; omega) Y Y sp ?_); rintro ns1 m ⟨⟨ms, rfl, hms⟩, hok1, hm⟩; refine ⟨by first | rfl | kernel_rfl, ?_⟩)
      refine zuq 7 Y ?_
      first | refine zaq rfl (zBq Y Y Y Y Y Y Y (by first | assumption | (simp; done))) ?_ | refine zaq rfl (zFq Y Y Y Y Y Y Y (by omega)) ?_ | refine zaq rfl (zpq Y Y Y Y Y Y (by omega)) ?_ | refine zaq Y Y ?_
      refine zbq 7 Y ?_
      refine zjq Y Y Y Y Y Y (joq _ _) ?_
      (refine zzq rfl (yxq 5 Y Y Y Y (by simp) (by omega) (by show 5 < 6; omega) Y Y (qUq _ root _ (by simp only [List.length_append]; omega)) ?_); rintro ns2 m2 ⟨rfl, rfl⟩)
      refine zbq 4 Y ?_
      have hm0 : 0 < m := by have := hm.non; rw [ht] at this; simpa using this.symm
      exact kEq 8 6 (.inr rfl) (by omega) (by show 6 < 7; omega) Y Y Y Y (by rw [if_pos hc, if_pos (hc.trans hc'.symm)]; exact q2q hms hok1 hm (.nil) (by omega))
    ·exfalso; exact h2 rfl
  ·skip
   rw [if_neg (by omega)] at sp
   refine z0q (fn := Tryz.f158) Y Y Y (Yb rfl) (fun k0 => ?_)
   refine zhq 13 Y ?_
   refine zAq rfl (fun h1 => ?_) (fun h1 => ?_)
   ·exfalso; omega
   ·refine zeq 10 Y ?_
    refine ziq (i) Y Y (by first | rfl | omega) ⟨by omega, by omega⟩ ?_
    refine zaq rfl (zFq (i := i) Y Y Y Y Y Y Y hi) (znq rfl (ykq Y Y Y hw) ?_)
    refine zbq 8 Y ?_
    refine znq Y Y ?_
    refine x0q (fun h2 => ?_) (fun h2 => ?_)
    ·refine zbq 5 Y ?_
     refine kBq rfl (qKq Y Y Y Y (qFq Y Y Y Y Y Y _ _ 250)) ySq ?_
     refine zbq 3 Y ?_
     refine zAq rfl (fun h3 => ?_) (fun h3 => ?_)
     ·exfalso; exact hk h3
     ·refine zeq 19 Y ?_
      (first | refine zjq Y Y Y Y Y Y (yJq k' d 0 hd hc') ?_ | refine zjq Y Y Y Y Y Y (yJq k d 1 hd hc) ?_)
      refine zaq Y Y ?_
      first | refine zaq rfl (zBq Y Y Y Y Y Y Y (by first | assumption | (simp; done))) ?_ | refine zaq rfl (zFq Y Y Y Y Y Y Y (by omega)) ?_ | refine zaq rfl (zpq Y Y Y Y Y Y (by omega)) ?_ | refine zaq Y Y ?_
      refine zbq 8 Y ?_
      (first | refine zjq Y Y Y Y Y Y (yJq k' d 0 hd hc') ?_ | refine zjq Y Y Y Y Y Y (yJq k d 1 hd hc) ?_)
      refine zbq 7 Y ?_
      first | refine zcq rfl (zBq Y Y Y Y Y Y Y (by first | assumption | (simp; done))) ?_ | refine zcq rfl (zFq Y Y Y Y Y Y Y (by omega)) ?_ | refine zcq rfl (zpq Y Y Y Y Y Y (by omega)) ?_ | refine zcq Y Y ?_
      refine zuq 2 Y ?_
      refine qtq (d + 1) Y Y (by first | rfl | omega) ⟨by omega, by omega⟩ ?_
      refine yRq Y Y ?_
      (refine ymq rfl (yxq 1 Y Y Y Y (by simp) (by omega) (by show 1 < 5; omega) Y Y sp ?_); rintro ns1 m ⟨⟨ms, rfl, hms⟩, hok1, hm⟩; refine ⟨by first | rfl | kernel_rfl, ?_⟩)
      refine zuq 7 Y ?_
      first | refine zaq rfl (zBq Y Y Y Y Y Y Y (by first | assumption | (simp; done))) ?_ | refine zaq rfl (zFq Y Y Y Y Y Y Y (by omega)) ?_ | refine zaq rfl (zpq Y Y Y Y Y Y (by omega)) ?_ | refine zaq Y Y ?_
      refine zbq 7 Y ?_
      refine zjq Y Y Y Y Y Y (joq _ _) ?_
      (refine zzq rfl (yxq 5 Y Y Y Y (by simp) (by omega) (by show 5 < 6; omega) Y Y (qUq _ root _ (by simp only [List.length_append]; omega)) ?_); rintro ns2 m2 ⟨rfl, rfl⟩)
      refine zbq 4 Y ?_
      have hm0 : 0 < m := by have := hm.non; rw [ht] at this; simpa using this.symm
      exact kEq 8 6 (.inr rfl) (by omega) (by show 6 < 7; omega) Y Y Y Y (by rw [if_neg (by omega), if_neg (by omega)]; exact q2q hms hok1 ((Rep.leaf hx).app _) hm (by omega))
    ·exfalso; exact h2 rfl
  ·skip
   rw [if_neg (by omega)] at sp
   refine z0q (fn := Tryz.f158) Y Y Y (Yb rfl) (fun k0 => ?_)
   refine zhq 13 Y ?_
   refine zAq rfl (fun h1 => ?_) (fun h1 => ?_)
   ·exfalso; omega
   ·refine zeq 10 Y ?_
    refine ziq (i) Y Y (by first | rfl | omega) ⟨by omega, by omega⟩ ?_
    refine zaq rfl (zFq (i := i) Y Y Y Y Y Y Y hi) (znq rfl (ykq Y Y Y hw) ?_)
    refine zbq 8 Y ?_
    refine znq Y Y ?_
    refine x0q (fun h2 => ?_) (fun h2 => ?_)
    ·refine zbq 5 Y ?_
     refine kBq rfl (qKq Y Y Y Y (qFq Y Y Y Y Y Y _ _ 250)) ySq ?_
     refine zbq 3 Y ?_
     refine zAq rfl (fun h3 => ?_) (fun h3 => ?_)
     ·exfalso; exact hk h3
     ·refine zeq 19 Y ?_
      (first | refine zjq Y Y Y Y Y Y (yJq k' d 1 hd hc') ?_ | refine zjq Y Y Y Y Y Y (yJq k d 0 hd hc) ?_)
      refine zaq Y Y ?_
      first | refine zaq rfl (zBq Y Y Y Y Y Y Y (by first | assumption | (simp; done))) ?_ | refine zaq rfl (zFq Y Y Y Y Y Y Y (by omega)) ?_ | refine zaq rfl (zpq Y Y Y Y Y Y (by omega)) ?_ | refine zaq Y Y ?_
      refine zbq 8 Y ?_
      (first | refine zjq Y Y Y Y Y Y (yJq k' d 1 hd hc') ?_ | refine zjq Y Y Y Y Y Y (yJq k d 0 hd hc) ?_)
      refine zbq 7 Y ?_
      first | refine zcq rfl (zBq Y Y Y Y Y Y Y (by first | assumption | (simp; done))) ?_ | refine zcq rfl (zFq Y Y Y Y Y Y Y (by omega)) ?_ | refine zcq rfl (zpq Y Y Y Y Y Y (by omega)) ?_ | refine zcq Y Y ?_
      refine zuq 2 Y ?_
      refine qtq (d + 1) Y Y (by first | rfl | omega) ⟨by omega, by omega⟩ ?_
      refine yRq Y Y ?_
      (refine ymq rfl (yxq 1 Y Y Y Y (by simp) (by omega) (by show 1 < 5; omega) Y Y sp ?_); rintro ns1 m ⟨⟨ms, rfl, hms⟩, hok1, hm⟩; refine ⟨by first | rfl | kernel_rfl, ?_⟩)
      refine zuq 7 Y ?_
      first | refine zaq rfl (zBq Y Y Y Y Y Y Y (by first | assumption | (simp; done))) ?_ | refine zaq rfl (zFq Y Y Y Y Y Y Y (by omega)) ?_ | refine zaq rfl (zpq Y Y Y Y Y Y (by omega)) ?_ | refine zaq Y Y ?_
      refine zbq 7 Y ?_
      refine zjq Y Y Y Y Y Y (joq _ _) ?_
      (refine zzq rfl (yxq 5 Y Y Y Y (by simp) (by omega) (by show 5 < 6; omega) Y Y (qUq _ root _ (by simp only [List.length_append]; omega)) ?_); rintro ns2 m2 ⟨rfl, rfl⟩)
      refine zbq 4 Y ?_
      have hm0 : 0 < m := by have := hm.non; rw [ht] at this; simpa using this.symm
      exact kEq 8 6 (.inr rfl) (by omega) (by show 6 < 7; omega) Y Y Y Y (by rw [if_pos hc, if_neg (by omega)]; exact q2q hms hok1 hm ((Rep.leaf hx).app _) (by omega))
    ·exfalso; exact h2 rfl
  ·skip
   rw [if_pos (hc.trans hc'.symm)] at sp
   refine z0q (fn := Tryz.f158) Y Y Y (Yb rfl) (fun k0 => ?_)
   refine zhq 13 Y ?_
   refine zAq rfl (fun h1 => ?_) (fun h1 => ?_)
   ·exfalso; omega
   ·refine zeq 10 Y ?_
    refine ziq (i) Y Y (by first | rfl | omega) ⟨by omega, by omega⟩ ?_
    refine zaq rfl (zFq (i := i) Y Y Y Y Y Y Y hi) (znq rfl (ykq Y Y Y hw) ?_)
    refine zbq 8 Y ?_
    refine znq Y Y ?_
    refine x0q (fun h2 => ?_) (fun h2 => ?_)
    ·refine zbq 5 Y ?_
     refine kBq rfl (qKq Y Y Y Y (qFq Y Y Y Y Y Y _ _ 250)) ySq ?_
     refine zbq 3 Y ?_
     refine zAq rfl (fun h3 => ?_) (fun h3 => ?_)
     ·exfalso; exact hk h3
     ·refine zeq 19 Y ?_
      (first | refine zjq Y Y Y Y Y Y (yJq k' d 1 hd hc') ?_ | refine zjq Y Y Y Y Y Y (yJq k d 1 hd hc) ?_)
      refine zaq Y Y ?_
      first | refine zaq rfl (zBq Y Y Y Y Y Y Y (by first | assumption | (simp; done))) ?_ | refine zaq rfl (zFq Y Y Y Y Y Y Y (by omega)) ?_ | refine zaq rfl (zpq Y Y Y Y Y Y (by omega)) ?_ | refine zaq Y Y ?_
      refine zbq 8 Y ?_
      (first | refine zjq Y Y Y Y Y Y (yJq k' d 1 hd hc') ?_ | refine zjq Y Y Y Y Y Y (yJq k d 1 hd hc) ?_)
      refine zbq 7 Y ?_
      first | refine zcq rfl (zBq Y Y Y Y Y Y Y (by first | assumption | (simp; done))) ?_ | refine zcq rfl (zFq Y Y Y Y Y Y Y (by omega)) ?_ | refine zcq rfl (zpq Y Y Y Y Y Y (by omega)) ?_ | refine zcq Y Y ?_
      refine zuq 2 Y ?_
      refine qtq (d + 1) Y Y (by first | rfl | omega) ⟨by omega, by omega⟩ ?_
      refine yRq Y Y ?_
      (refine ymq rfl (yxq 1 Y Y Y Y (by simp) (by omega) (by show 1 < 5; omega) Y Y sp ?_); rintro ns1 m ⟨⟨ms, rfl, hms⟩, hok1, hm⟩; refine ⟨by first | rfl | kernel_rfl, ?_⟩)
      refine zuq 7 Y ?_
      first | refine zaq rfl (zBq Y Y Y Y Y Y Y (by first | assumption | (simp; done))) ?_ | refine zaq rfl (zFq Y Y Y Y Y Y Y (by omega)) ?_ | refine zaq rfl (zpq Y Y Y Y Y Y (by omega)) ?_ | refine zaq Y Y ?_
      refine zbq 7 Y ?_
      refine zjq Y Y Y Y Y Y (joq _ _) ?_
      (refine zzq rfl (yxq 5 Y Y Y Y (by simp) (by omega) (by show 5 < 6; omega) Y Y (qUq _ root _ (by simp only [List.length_append]; omega)) ?_); rintro ns2 m2 ⟨rfl, rfl⟩)
      refine zbq 4 Y ?_
      have hm0 : 0 < m := by have := hm.non; rw [ht] at this; simpa using this.symm
      exact kEq 8 6 (.inr rfl) (by omega) (by show 6 < 7; omega) Y Y Y Y (by rw [if_neg (by omega), if_pos (hc.trans hc'.symm)]; exact q2q hms hok1 (.nil) hm (by omega))
    ·exfalso; exact h2 rfl
theorem fork_one {ns : List Node} {i l r : Nat} {k' : Dig} {v' : List UInt8} (hx : ns[i]? = some ⟨false, k', v', l, r⟩) (hok : okN ns) : k' = jkq /\ v' = [] /\ l <= i /\ r <= i /\ 0 < l + r := by
 have h := hok i _ hx
 simp only [oneB, Bool.false_eq_true, if_false] at h
 obtain ⟨⟨_, a2⟩, ⟨_, b2⟩, h1, h2, h3⟩ := h
 exact ⟨h1, h2, by omega, by omega, by omega⟩
theorem fork_all {ns : List Node} {i l r : Nat} {k' : Dig} {v' : List UInt8} (hx : ns[i]? = some ⟨false, k', v', l, r⟩) (hok : okN ns) : ypq 50 (nsW ns) (0 + i * 36) 36 true = some (nW ⟨false, k', v', l, r⟩) := by
 obtain ⟨w, hw, rfl | ⟨h1, rfl⟩⟩ := Ziq ns hx
 ·exact hw
 ·obtain ⟨_, _, h2, h3, h4⟩ := fork_one hx hok
  have hi := (List.getElem?_eq_some_iff.1 hx).1
  omega
theorem with_fork {root : Int} {k k' : Dig} {v v' : List UInt8} {ns : List Node} {i d f l r : Nat} {L R t' : T} (hx : ns[i]? = some ⟨false, k', v', l, r⟩) (hok : okN ns) (hL : Rep ns l L) (hR : Rep ns r R) (hd : d < 256) (hl : ns.length + f + 1 <= 1000000000) (ht : t'.non = true)
  (sp : Jfq G root k v ns (if bitN k d = 0 then l else r) (d + 1) (Gr ns f t')) : Jfq G root k v ns (i + 1) d (Gr ns (f + 1) (if bitN k d = 0 then .fork t' R else .fork L t')) := by
 intro R'
 have hi := (List.getElem?_eq_some_iff.1 hx).1
 have b1 := q5q k d
 have hc : bitN k d = 0 \/ bitN k d = 1 := by omega
 have hw := fork_all hx hok
 rcases hc with hc | hc
 ·skip
  rw [if_pos hc] at sp
  refine z0q (fn := Tryz.f158) Y Y Y (Yb rfl) (fun k0 => ?_)
  refine zhq 13 Y ?_
  refine zAq rfl (fun h1 => ?_) (fun h1 => ?_)
  ·exfalso; omega
  ·refine zeq 10 Y ?_
   refine ziq (i) Y Y (by first | rfl | omega) ⟨by omega, by omega⟩ ?_
   refine zaq rfl (zFq (i := i) Y Y Y Y Y Y Y hi) (znq rfl (ykq Y Y Y hw) ?_)
   refine zbq 8 Y ?_
   refine znq Y Y ?_
   refine x0q (fun h2 => ?_) (fun h2 => ?_)
   ·exfalso; cases h2
   ·refine zbq 27 Y ?_
    refine zjq Y Y Y Y Y Y (j2q _) ?_
    refine zbq 8 Y ?_
    refine zjq Y Y Y Y Y Y (yJq k d 0 hd hc) ?_
    refine zbq 7 Y ?_
    first | refine zcq rfl (zBq Y Y Y Y Y Y Y (by first | assumption | (simp; done))) ?_ | refine zcq rfl (zFq Y Y Y Y Y Y Y (by omega)) ?_ | refine zcq rfl (zpq Y Y Y Y Y Y (by omega)) ?_ | refine zcq Y Y ?_
    refine zuq 2 Y ?_
    refine qtq (d + 1) Y Y (by first | rfl | omega) ⟨by omega, by omega⟩ ?_
    refine yRq Y Y ?_
    (refine ymq rfl (yxq 1 Y Y Y Y (by simp) (by omega) (by show 1 < 5; omega) Y Y sp ?_); rintro ns1 m ⟨⟨ms, rfl, hms⟩, hok1, hm⟩; refine ⟨by first | rfl | kernel_rfl, ?_⟩)
    refine zuq 7 Y ?_
    first | refine zaq rfl (zBq Y Y Y Y Y Y Y (by first | assumption | (simp; done))) ?_ | refine zaq rfl (zFq Y Y Y Y Y Y Y (by omega)) ?_ | refine zaq rfl (zpq Y Y Y Y Y Y (by omega)) ?_ | refine zaq Y Y ?_
    refine zbq 7 Y ?_
    refine zjq Y Y Y Y Y Y (joq _ _) ?_
    (refine zzq rfl (yxq 5 Y Y Y Y (by simp) (by omega) (by show 5 < 6; omega) Y Y (qUq _ root _ (by simp only [List.length_append]; omega)) ?_); rintro ns2 m2 ⟨rfl, rfl⟩)
    refine zbq 4 Y ?_
    have hm0 : 0 < m := by have := hm.non; rw [ht] at this; simpa using this.symm
    exact kEq 8 6 (.inr rfl) (by omega) (by show 6 < 7; omega) Y Y Y Y (by rw [if_pos hc]; exact q2q hms hok1 hm (hR.app _) (by omega))
 ·skip
  rw [if_neg (by omega)] at sp
  refine z0q (fn := Tryz.f158) Y Y Y (Yb rfl) (fun k0 => ?_)
  refine zhq 13 Y ?_
  refine zAq rfl (fun h1 => ?_) (fun h1 => ?_)
  ·exfalso; omega
  ·refine zeq 10 Y ?_
   refine ziq (i) Y Y (by first | rfl | omega) ⟨by omega, by omega⟩ ?_
   refine zaq rfl (zFq (i := i) Y Y Y Y Y Y Y hi) (znq rfl (ykq Y Y Y hw) ?_)
   refine zbq 8 Y ?_
   refine znq Y Y ?_
   refine x0q (fun h2 => ?_) (fun h2 => ?_)
   ·exfalso; cases h2
   ·refine zbq 27 Y ?_
    refine zjq Y Y Y Y Y Y (j2q _) ?_
    refine zbq 8 Y ?_
    refine zjq Y Y Y Y Y Y (yJq k d 1 hd hc) ?_
    refine zbq 7 Y ?_
    first | refine zcq rfl (zBq Y Y Y Y Y Y Y (by first | assumption | (simp; done))) ?_ | refine zcq rfl (zFq Y Y Y Y Y Y Y (by omega)) ?_ | refine zcq rfl (zpq Y Y Y Y Y Y (by omega)) ?_ | refine zcq Y Y ?_
    refine zuq 2 Y ?_
    refine qtq (d + 1) Y Y (by first | rfl | omega) ⟨by omega, by omega⟩ ?_
    refine yRq Y Y ?_
    (refine ymq rfl (yxq 1 Y Y Y Y (by simp) (by omega) (by show 1 < 5; omega) Y Y sp ?_); rintro ns1 m ⟨⟨ms, rfl, hms⟩, hok1, hm⟩; refine ⟨by first | rfl | kernel_rfl, ?_⟩)
    refine zuq 7 Y ?_
    first | refine zaq rfl (zBq Y Y Y Y Y Y Y (by first | assumption | (simp; done))) ?_ | refine zaq rfl (zFq Y Y Y Y Y Y Y (by omega)) ?_ | refine zaq rfl (zpq Y Y Y Y Y Y (by omega)) ?_ | refine zaq Y Y ?_
    refine zbq 7 Y ?_
    refine zjq Y Y Y Y Y Y (joq _ _) ?_
    (refine zzq rfl (yxq 5 Y Y Y Y (by simp) (by omega) (by show 5 < 6; omega) Y Y (qUq _ root _ (by simp only [List.length_append]; omega)) ?_); rintro ns2 m2 ⟨rfl, rfl⟩)
    refine zbq 4 Y ?_
    have hm0 : 0 < m := by have := hm.non; rw [ht] at this; simpa using this.symm
    exact kEq 8 6 (.inr rfl) (by omega) (by show 6 < 7; omega) Y Y Y Y (by rw [if_neg (by omega)]; exact q2q hms hok1 (hL.app _) hm (by omega))
theorem with_s (root : Int) (k : Dig) (v : List UInt8) (hv : MayP [(k, v)]) : ∀ (f : Nat) (t : T) (ns : List Node) (n d : Nat) (b : Dig), Rep ns n t -> okN ns -> t.ok d b = true -> d + f = 256 -> Zr d b -> d <= ybq k b -> ns.length + f + 1 <= 1000000000 -> Jfq G root k v ns n d (Gr ns (f + 1) (T.put k v f t)) := by
 intro f
 induction f with
 | zero =>
  intro t ns n d b hr hok ht hf hz hk hl
  cases hr with
  | nil => exact with_nil hok hv (by omega) (by omega)
  | leaf hx =>
   rename_i n k' v' l r
   have h := of_decide_eq_true ht
   have : k' = k := Zpq fun j hj => by rw [(yBq (by omega)).1 h j (by omega), (yBq (by omega)).1 hk j (by omega)]
   subst this
   exact with_hit hx hok hv (by omega) (by omega)
  | fork hx _ _ hL hR =>
   obtain ⟨hd, _⟩ := ok_fork.1 ht
   omega
 | succ f ih =>
  intro t ns n d b hr hok ht hf hz hk hl
  have hd : d < 256 := by omega
  have ed : 255 - f = d := by omega
  cases hr with
  | nil => exact with_nil hok hv (by omega) (by omega)
  | leaf hx =>
   rename_i n k' v' l r
   have h := of_decide_eq_true ht
   by_cases e : k' = k
   ·subst e
    simp only [T.put, if_true]
    exact with_hit hx hok hv (by omega) (by omega)
   ·have b1 := q5q k' d
    have b2 := q5q k d
    have b3 := q5q b d
    have key : Jfq G root k v ns (n + 1) d (Gr ns (f + 1 + 1) (if bitN k d = 0 then .fork (T.put k v f (if bitN k d = bitN k' d then .leaf k' v' else .nil)) (if bitN k d = bitN k' d then .nil else .leaf k' v') else .fork (if bitN k d = bitN k' d then .nil else .leaf k' v') (T.put k v f (if bitN k d = bitN k' d then .leaf k' v' else .nil)))) := by
     refine with_leaf hx e hd (by omega) (QEq k v f _) ?_
     by_cases hb : bitN k d = 0
     ·by_cases he : bitN k d = bitN k' d
      ·rw [if_pos he, if_pos he]
       exact ih _ ns _ (d + 1) b (.leaf hx) hok (decide_eq_true (kQq hz hd h (by omega))) (by omega) (jsq hz) (kQq hz hd hk hb) (by omega)
      ·rw [if_neg he, if_neg he]
       exact ih _ ns _ (d + 1) b .nil hok rfl (by omega) (jsq hz) (kQq hz hd hk hb) (by omega)
     ·by_cases he : bitN k d = bitN k' d
      ·rw [if_pos he, if_pos he]
       exact ih _ ns _ (d + 1) (qvq b d) (.leaf hx) hok (decide_eq_true (kPq hz hd h (by omega))) (by omega) (jrq hz hd) (kPq hz hd hk hb) (by omega)
      ·rw [if_neg he, if_neg he]
       exact ih _ ns _ (d + 1) (qvq b d) .nil hok rfl (by omega) (jrq hz hd) (kPq hz hd hk hb) (by omega)
    have ep : T.put k v (f + 1) (.leaf k' v') = (if bitN k d = 0 then .fork (T.put k v f (if bitN k d = bitN k' d then .leaf k' v' else .nil)) (if bitN k d = bitN k' d then .nil else .leaf k' v') else .fork (if bitN k d = bitN k' d then .nil else .leaf k' v') (T.put k v f (if bitN k d = bitN k' d then .leaf k' v' else .nil))) := by
     simp only [T.put, ed, if_neg e, T.roads]
     have c1 : bitN k d = 0 \/ bitN k d = 1 := by omega
     have c2 : bitN k' d = 0 \/ bitN k' d = 1 := by omega
     rcases c1 with c1 | c1 <;> rcases c2 with c2 | c2 <;> simp [c1, c2]
    rw [ep]
    exact key
  | fork hx h1 h2 hL hR =>
   rename_i n l r k' v' tl tr
   obtain ⟨_, k1, k2, _⟩ := ok_fork.1 ht
   have key : Jfq G root k v ns (n + 1) d (Gr ns (f + 1 + 1) (if bitN k d = 0 then .fork (T.put k v f (if bitN k d = 0 then tl else tr)) tr else .fork tl (T.put k v f (if bitN k d = 0 then tl else tr)))) := by
    refine with_fork hx hok hL hR hd (by omega) (QEq k v f _) ?_
    by_cases hb : bitN k d = 0
    ·rw [if_pos hb, if_pos hb]
     exact ih _ ns _ (d + 1) b hL hok k1 (by omega) (jsq hz) (kQq hz hd hk hb) (by omega)
    ·rw [if_neg hb, if_neg hb]
     exact ih _ ns _ (d + 1) (qvq b d) hR hok k2 (by omega) (jrq hz hd) (kPq hz hd hk hb) (by omega)
   have ep : T.put k v (f + 1) (.fork tl tr) = (if bitN k d = 0 then .fork (T.put k v f (if bitN k d = 0 then tl else tr)) tr else .fork tl (T.put k v f (if bitN k d = 0 then tl else tr))) := by
    simp only [T.put, ed]
    by_cases hb : bitN k d = 0
    ·simp only [if_pos hb]
    ·simp only [if_neg hb]
   rw [ep]
   exact key
end
section
attribute [local irreducible] CoW OpW FlW Step Spec
variable {G : Nat -> Option W}
def MkO (root : Int) (ns : List Node) (S : Nat -> Prop) (P : List Node -> Nat -> Prop) : W -> HpW -> Nat -> Prop := fun w hp nw =>
 (∃ m, S m /\ w = .int .i64 ((m : Nat) : Int) /\ hp = [(0, 261, mkW 1 ns.length root), (1, 106, nsW ns)] /\ nw = 2) \/ Mk root P w hp nw
theorem step_mkO {o : Oper} {fr : FrW} {hp : HpW} {nw : Nat} {R : Res} {post : W -> HpW -> Nat -> Res -> Option EvW -> Prop} {x : Operand} {xs : Array Operand} {ats : Array TypeId} {f : FuncId} {us : List W} {root : Int} {ns : List Node} {S : Nat -> Prop} {P : List Node -> Nat -> Prop} (k : Nat)
  (ho : o.op = .call ⟨.value x, xs, ats⟩) (hx : evW cfg G fr x = some (.fn f [] [])) (he : cfg.ext f = none) (hxs : evLW cfg G fr xs.toList = some (.ptr 0 0 :: us)) (hpu : purL us = true) (hk : 0 < k) (hkn : k < nw)
  (h0 : hget hp 0 = some (261, mkW k ns.length root)) (h1 : hget hp k = some (106, nsW ns)) (sp : qkq cfg G f 2 (.ptr 0 0 :: us) [(0, 261, mkW 1 ns.length root), (1, 106, nsW ns)] (MkO root ns S P))
  (hsame : ∀ m, S m -> post (.int .i64 ((m : Nat) : Int)) ((0, 261, mkW k ns.length root) :: (k, 106, nsW ns) :: delA [0, k] hp) nw R (some .dirty))
  (hpost : ∀ ns' m, P ns' m -> post (.int .i64 ((m : Nat) : Int)) ((0, 261, mkW nw ns'.length root) :: (nw, 106, nsW ns') :: delA [0, k] hp) (nw + 1) R (some .dirty)) : Step cfg G o fr hp nw R post := by
 refine yOq (ext := [0, k]) (ws := .ptr 0 0 :: us) ho hx he hxs ?_ sp ?_ ?_ (by simp) (ZXq h0 (by rw [zlq (jlq _)]; exact h1) rfl (zfq (jlq _))) ?_ ?_
 ·show .ptr 0 0 :: (us ++ []) = W.ptr 0 0 :: qlq (numC [0, k] nw) us
  rw [j3q hpu, List.append_nil]
 ·simp; omega
 ·intro b hb
  simp only [List.mem_cons, List.not_mem_nil, or_false] at hb
  omega
 ·have h := zfq (m := 2) (w := .tup us) hpu
  have h : refL 2 us = true := h
  show (refB 2 (.ptr 0 0) && refL 2 us) = true
  rw [h]; rfl
 ·rintro w hp1 nw1 (⟨m, h, rfl, rfl, rfl⟩ | ⟨ns', m, h, rfl, rfl, rfl⟩)
  ·have e : renH (numC [0, k] nw) [(0, 261, mkW 1 ns.length root), (1, 106, nsW ns)] = [(0, 261, mkW k ns.length root), (k, 106, nsW ns)] := by
    simp only [renH, zlq (jlq _)]; rfl
   have h := hsame m h
   rw [show ([0, k] : List Nat).length = 2 from rfl, e]
   exact h
  ·have e : renH (numC [0, k] nw) [(0, 261, mkW 2 ns'.length root), (2, 106, nsW ns')] = [(0, 261, mkW nw ns'.length root), (nw, 106, nsW ns')] := by
    simp only [renH, zlq (jlq _)]; rfl
   have h := hpost ns' m h
   rw [show ([0, k] : List Nat).length = 2 from rfl, e]
   exact h
theorem jLq {k0 : Nat} {rs : List ResultVar} {x : Exit} {fr : FrW} {hp : HpW} {nw : Nat} {R : Res} {root : Int} {P : List Node -> Nat -> Prop} {ns0 : List Node} {S : Nat -> Prop} {ns : List Node} {m : Nat} (s k : Nat) (hx : x = .normal \/ x = .ret) (hk : 2 <= k) (hkn : k < nw) (hf : getW fr s = some (.int .i64 ((m : Nat) : Int)))
  (h0 : hget hp (tau1 2 k 0) = some (261, renW (tau1 2 k) (mkW 2 ns.length root))) (h1 : hget hp (tau1 2 k 2) = some (106, nsW ns)) (ho : outW cfg [(s, .int .i64 ((m : Nat) : Int))] [(0, 261, mkW 2 ns.length root), (2, 106, nsW ns)] rs = some (.int .i64 ((m : Nat) : Int))) (hP : P ns m) :
  QFin cfg G 2 k0 rs (fun w hp nw R' => R' = R /\ MkO root ns0 S P w hp nw) x fr hp nw R :=
 fin hx (qiq (b := 2) (k := k) (fr2 := [(s, .int .i64 ((m : Nat) : Int))]) (hp2 := [(0, 261, mkW 2 ns.length root), (2, 106, nsW ns)]) (by omega) hk hkn ⟨⟨hf, rfl⟩, trivial⟩ ⟨⟨by omega, h0, rfl⟩, ⟨by omega, by rw [zlq (jlq _)]; exact h1, zfq (jlq _)⟩, trivial⟩ (by simp)) ho ⟨rfl, .inr ⟨ns, m, hP, rfl, rfl, rfl⟩⟩
theorem xVq {k0 : Nat} {rs : List ResultVar} {x : Exit} {fr : FrW} {hp : HpW} {nw : Nat} {R : Res} {root : Int} {P : List Node -> Nat -> Prop} {S : Nat -> Prop} {ns : List Node} {m : Nat} (s : Nat) (hx : x = .normal \/ x = .ret) (hkn : 2 <= nw) (hf : getW fr s = some (.int .i64 ((m : Nat) : Int)))
  (h0 : hget hp 0 = some (261, mkW 1 ns.length root)) (h1 : hget hp 1 = some (106, nsW ns)) (ho : outW cfg [(s, .int .i64 ((m : Nat) : Int))] [(0, 261, mkW 1 ns.length root), (1, 106, nsW ns)] rs = some (.int .i64 ((m : Nat) : Int))) (hP : S m) :
  QFin cfg G 2 k0 rs (fun w hp nw R' => R' = R /\ MkO root ns S P w hp nw) x fr hp nw R :=
 fin hx (qpq (nw2 := 2) (fr2 := [(s, .int .i64 ((m : Nat) : Int))]) (hp2 := [(0, 261, mkW 1 ns.length root), (1, 106, nsW ns)]) (by omega) hkn ⟨hf, trivial⟩ rfl (fun b y hb => by
  match b, hb with
  | 0, hb => cases hb; exact ⟨by omega, h0, rfl⟩
  | 1, hb => cases hb; exact ⟨by omega, h1, zfq (jlq _)⟩
  | b + 2, hb => cases hb) (by simp)) ho ⟨rfl, .inl ⟨m, hP, rfl, rfl, rfl⟩⟩
theorem u0q (ns : List Node) {i : Nat} {x : Node} (h : ns[i]? = some x) : ypq 50 (nsW ns) (0 + i * 36 + 0) 1 false = some (.bool x.leaf) :=
 get_in (ynq nW h) (by omega) (by omega) (by simp) rfl
theorem Rep.zero {ns : List Node} {t : T} (h : Rep ns 0 t) : t = .nil := by cases h; rfl
theorem Rep.is_leaf {ns : List Node} {n : Nat} {t : T} {x : Node} (h : Rep ns (n + 1) t) (hx : ns[n]? = some x) : (x.leaf = true -> ∃ k v, t = .leaf k v) /\ (x.leaf = false -> ∃ l r, t = .fork l r) := by
 cases h with
 | leaf h2 => rw [hx] at h2; cases h2; exact ⟨fun _ => ⟨_, _, rfl⟩, fun h => by cases h⟩
 | fork h2 => rw [hx] at h2; cases h2; exact ⟨fun h => (by cases h), fun _ => ⟨_, _, rfl⟩⟩
theorem Zkq {ns : List Node} {l r : Nat} {L R : T} (hl : Rep ns l L) (hr : Rep ns r R) (h : l + r = 0) : Rep ns (l + r) (T.join L R) := by
 obtain rfl : l = 0 := by omega
 obtain rfl : r = 0 := by omega
 rw [hl.zero, hr.zero]; exact .nil
theorem u2q {ns : List Node} {l r : Nat} {L R : T} {x : Node} (hl : Rep ns l L) (hr : Rep ns r R) (h : l = 0 \/ r = 0) (h0 : 0 < l + r) (hx : ns[l + r - 1]? = some x) (hf : x.leaf = true) : Rep ns (l + r) (T.join L R) := by
 rcases h with rfl | rfl
 ·cases r with
  | zero => omega
  | succ r =>
   have e : 0 + (r + 1) - 1 = r := by omega
   rw [e] at hx
   obtain ⟨k, v, rfl⟩ := (hr.is_leaf hx).1 hf
   rw [hl.zero, Nat.zero_add]; exact hr
 ·cases l with
  | zero => omega
  | succ l =>
   obtain ⟨k, v, rfl⟩ := (hl.is_leaf (x := x) (by simpa using hx)).1 hf
   rw [hr.zero, Nat.add_zero]; exact hl
theorem u3q {ns : List Node} {l r : Nat} {L R : T} {x : Node} (hl : Rep ns l L) (hr : Rep ns r R) (h : l = 0 \/ r = 0) (h0 : 0 < l + r) (hx : ns[l + r - 1]? = some x) (hf : x.leaf = false) : T.join L R = .fork L R := by
 rcases h with rfl | rfl
 ·cases r with
  | zero => omega
  | succ r =>
   have e : 0 + (r + 1) - 1 = r := by omega
   rw [e] at hx
   obtain ⟨k, v, rfl⟩ := (hr.is_leaf hx).2 hf
   rw [hl.zero]; rfl
 ·cases l with
  | zero => omega
  | succ l =>
   obtain ⟨k, v, rfl⟩ := (hl.is_leaf (x := x) (by simpa using hx)).2 hf
   rw [hr.zero]; rfl
theorem Zjq {ns : List Node} {l r : Nat} {L R : T} (hl : Rep ns l L) (hr : Rep ns r R) (h1 : 0 < l) (h2 : 0 < r) : T.join L R = .fork L R := by
 cases hl with
 | nil => omega
 | leaf => cases hr with
  | nil => omega
  | leaf => rfl
  | fork => rfl
 | fork => cases hr with
  | nil => omega
  | leaf => rfl
  | fork => rfl
abbrev WoutS (G : Nat -> Option W) (root : Int) (k : Dig) (ns : List Node) (n d : Nat) (S : Nat -> Prop) (P : List Node -> Nat -> Prop) : Prop := qkq cfg G 231 2 [.ptr 0 0, .int .i64 ((n : Nat) : Int), .int .i64 ((d : Nat) : Int), dW k] [(0, 261, mkW 1 ns.length root), (1, 106, nsW ns)] (MkO root ns S P)
theorem wout_leaf {root : Int} {k k' : Dig} {v' : List UInt8} {ns : List Node} {i d : Nat} {l r : Int} {P : List Node -> Nat -> Prop} (hx : ns[i]? = some ⟨true, k', v', l, r⟩) (hl : ns.length <= 1000000000) : WoutS G root k ns (i + 1) d (fun m => Rep ns m .nil) P := by
 intro R
 have hi := (List.getElem?_eq_some_iff.1 hx).1
 obtain ⟨w, hw, rfl | ⟨_, rfl⟩⟩ := Ziq ns hx
 ·refine z0q (fn := Tryz.f231) Y Y Y (Yb rfl) (fun k0 => ?_)
  refine zhq 14 Y ?_
  refine ziq (i) Y Y (by first | rfl | omega) ⟨by omega, by omega⟩ ?_
  refine zaq rfl (zFq (i := i) Y Y Y Y Y Y Y hi) (znq rfl (ykq Y Y Y hw) ?_)
  refine zbq 19 Y ?_
  exact xVq (m := 0) 8 (.inr rfl) (by show 2 <= 4; omega) Y Y Y Y .nil
 ·refine z0q (fn := Tryz.f231) Y Y Y (Yb rfl) (fun k0 => ?_)
  refine zhq 14 Y ?_
  refine ziq (i) Y Y (by first | rfl | omega) ⟨by omega, by omega⟩ ?_
  refine zaq rfl (zFq (i := i) Y Y Y Y Y Y Y hi) (znq rfl (ykq Y Y Y hw) ?_)
  refine zbq 19 Y ?_
  exact xVq (m := 0) 8 (.inr rfl) (by show 2 <= 4; omega) Y Y Y Y .nil
theorem min_w (a b : Nat) : W.int .i64 (match ltI (b : Int) (a : Int) with | true => (b : Int) | false => (a : Int)) = W.int .i64 ((min a b : Nat) : Int) := by
 cases h : ltI (b : Int) (a : Int) with
 | true => have := ltI_iff.1 h; simp only; congr 1; omega
 | false => have : ¬ (b : Int) < a := fun q => by rw [ltI_iff.2 q] at h; cases h
            simp only; congr 1; omega
theorem Zlq {ns : List Node} {l r f : Nat} {L R : T} (hok : okN ns) (hl : Rep ns l L) (hr : Rep ns r R) (h : 0 < l + r) : Gr ns (f + 1) (.fork L R) (ns ++ [forkN l r]) (ns.length + 1) := by
 have h1 := q2q (ms := []) (f := f) (Nat.zero_le _) (by rw [List.append_nil]; exact hok) (by rw [List.append_nil]; exact hl) (by rw [List.append_nil]; exact hr) h
 rwa [List.append_nil] at h1
theorem wout_fork {root : Int} {k k' : Dig} {v' : List UInt8} {ns : List Node} {i d f l r : Nat} {L R t' : T} (hx : ns[i]? = some ⟨false, k', v', l, r⟩) (hok : okN ns) (hL : Rep ns l L) (hR : Rep ns r R) (hd : d < 256) (hl : ns.length + f + 1 <= 1000000000)
  (sp : WoutS G root k ns (if bitN k d = 0 then l else r) (d + 1) (fun m => Rep ns m t') (Gr ns f t')) : WoutS G root k ns (i + 1) d (fun m => Rep ns m (if bitN k d = 0 then .join t' R else .join L t')) (Gr ns (f + 1) (if bitN k d = 0 then .join t' R else .join L t')) := by
 intro R'
 have hi := (List.getElem?_eq_some_iff.1 hx).1
 have b1 := q5q k d
 have hc : bitN k d = 0 \/ bitN k d = 1 := by omega
 have hw := fork_all hx hok
 rcases hc with hc | hc
 ·skip
  rw [if_pos hc] at sp
  refine z0q (fn := Tryz.f231) Y Y Y (Yb rfl) (fun k0 => ?_)
  refine zhq 14 Y ?_
  refine ziq (i) Y Y (by first | rfl | omega) ⟨by omega, by omega⟩ ?_
  refine zaq rfl (zFq (i := i) Y Y Y Y Y Y Y hi) (znq rfl (ykq Y Y Y hw) ?_)
  refine zbq 17 Y ?_
  refine zjq Y Y Y Y Y Y (j2q _) ?_
  refine zbq 8 Y ?_
  refine zjq Y Y Y Y Y Y (yJq k d 0 hd hc) ?_
  refine zbq 7 Y ?_
  first | refine zcq rfl (zBq Y Y Y Y Y Y Y (by first | assumption | (simp; done))) ?_ | refine zcq rfl (zFq Y Y Y Y Y Y Y (by omega)) ?_ | refine zcq rfl (zpq Y Y Y Y Y Y (by omega)) ?_ | refine zcq Y Y ?_
  refine zuq 2 Y ?_
  refine qtq (d + 1) Y Y (by first | rfl | omega) ⟨by omega, by omega⟩ ?_
  refine yRq Y Y ?_
  skip
  skip
  refine ymq rfl (step_mkO 1 Y Y Y Y (by simp) (by omega) (by show 1 < 5; omega) Y Y sp ?_ ?_)
  ·rintro m hm
   refine ⟨by first | rfl | kernel_rfl, ?_⟩
   skip
   have la := (hm).le
   have lb := ((hR)).le
   have ll : ns.length <= 1000000000 := by first | omega | (simp only [List.length_append]; omega)
   refine zuq 7 Y ?_
   first | refine zaq rfl (zBq Y Y Y Y Y Y Y (by first | assumption | (simp; done))) ?_ | refine zaq rfl (zFq Y Y Y Y Y Y Y (by omega)) ?_ | refine zaq rfl (zpq Y Y Y Y Y Y (by omega)) ?_ | refine zaq Y Y ?_
   refine zbq 6 Y ?_
   first | refine zaq rfl (zBq Y Y Y Y Y Y Y (by first | assumption | (simp; done))) ?_ | refine zaq rfl (zFq Y Y Y Y Y Y Y (by omega)) ?_ | refine zaq rfl (zpq Y Y Y Y Y Y (by omega)) ?_ | refine zaq Y Y ?_
   refine znq Y Y ?_
   first | refine zaq rfl (zBq Y Y Y Y Y Y Y (by first | assumption | (simp; done))) ?_ | refine zaq rfl (zFq Y Y Y Y Y Y Y (by omega)) ?_ | refine zaq rfl (zpq Y Y Y Y Y Y (by omega)) ?_ | refine zaq Y Y ?_
   refine znq Y Y (ziq (m + r) Y Y (by first | rfl | omega) ⟨by omega, by omega⟩ ?_)
   refine zbq 5 Y ?_
   first | refine zaq rfl (zBq Y Y Y Y Y Y Y (by first | assumption | (simp; done))) ?_ | refine zaq rfl (zFq Y Y Y Y Y Y Y (by omega)) ?_ | refine zaq rfl (zpq Y Y Y Y Y Y (by omega)) ?_ | refine zaq Y Y ?_
   refine znq Y Y ?_
   first | refine zaq rfl (zBq Y Y Y Y Y Y Y (by first | assumption | (simp; done))) ?_ | refine zaq rfl (zFq Y Y Y Y Y Y Y (by omega)) ?_ | refine zaq rfl (zpq Y Y Y Y Y Y (by omega)) ?_ | refine zaq Y Y ?_
   refine znq Y Y (zqq (w' := .int .i64 ((min m r : Nat) : Int)) Y Y (min_w _ _) ?_)
   refine qdq Y Y (fun h1 => ?_) (fun h1 => ?_)
   ·have hz : m = 0 \/ r = 0 := by omega
    refine zbq 2 Y ?_
    refine qdq Y Y (fun h2 => ?_) (fun h2 => ?_)
    ·refine zbq 24 Y ?_
     exact xVq (m := m + r) 8 (.inr rfl) (by show 2 <= 5; omega) Y Y Y Y (by rw [if_pos hc]; exact Zkq hm (hR) (by omega))
    ·obtain ⟨y, hy⟩ : ∃ y, ns[m + r - 1]? = some y := ⟨_, List.getElem?_eq_getElem (by omega)⟩
     refine zbq 7 Y ?_
     refine ziq (m + r - 1) Y Y (by first | rfl | omega) ⟨by omega, by omega⟩ ?_
     refine zaq rfl (zFq (i := m + r - 1) Y Y Y Y Y Y Y (by omega)) ?_
     refine zaq Y Y (znq rfl (ykq Y Y Y (u0q ns hy)) ?_)
     refine zbq 4 Y ?_
     refine zAq rfl (fun h3 => ?_) (fun h3 => ?_)
     ·refine zeq 8 Y ?_
      exact xVq (m := m + r) 8 (.inr rfl) (by show 2 <= 5; omega) Y Y Y Y (by rw [if_pos hc]; exact u2q hm (hR) hz (by omega) hy h3)
     ·refine zeq 6 Y ?_
      refine zjq Y Y Y Y Y Y (joq _ _) ?_
      (refine zzq rfl (yxq 1 Y Y Y Y (by simp) (by omega) (by show 1 < 5; omega) Y Y (qUq _ root _ (by first | omega | (simp only [List.length_append]; omega))) ?_); rintro ns2 m2 ⟨rfl, rfl⟩)
      refine zbq 4 Y ?_
      exact jLq 8 5 (.inr rfl) (by omega) (by show 5 < 6; omega) Y Y Y Y (by rw [if_pos hc, u3q hm (hR) hz (by omega) hy (by simpa using h3)]; exact Zlq hok hm (hR) (by omega))
   ·refine zbq 25 Y ?_
    refine zjq Y Y Y Y Y Y (joq _ _) ?_
    (refine zzq rfl (yxq 1 Y Y Y Y (by simp) (by omega) (by show 1 < 5; omega) Y Y (qUq _ root _ (by first | omega | (simp only [List.length_append]; omega))) ?_); rintro ns2 m2 ⟨rfl, rfl⟩)
    refine zbq 4 Y ?_
    exact jLq 8 5 (.inr rfl) (by omega) (by show 5 < 6; omega) Y Y Y Y (by rw [if_pos hc, Zjq hm (hR) (by omega) (by omega)]; exact Zlq hok hm (hR) (by omega))
  ·rintro ns1 m ⟨⟨ms, rfl, hms⟩, hok1, hm⟩
   refine ⟨by first | rfl | kernel_rfl, ?_⟩
   skip
   have la := (hm).le
   have lb := ((hR.app ms)).le
   have ll : (ns ++ ms).length <= 1000000000 := by first | omega | (simp only [List.length_append]; omega)
   refine zuq 7 Y ?_
   first | refine zaq rfl (zBq Y Y Y Y Y Y Y (by first | assumption | (simp; done))) ?_ | refine zaq rfl (zFq Y Y Y Y Y Y Y (by omega)) ?_ | refine zaq rfl (zpq Y Y Y Y Y Y (by omega)) ?_ | refine zaq Y Y ?_
   refine zbq 6 Y ?_
   first | refine zaq rfl (zBq Y Y Y Y Y Y Y (by first | assumption | (simp; done))) ?_ | refine zaq rfl (zFq Y Y Y Y Y Y Y (by omega)) ?_ | refine zaq rfl (zpq Y Y Y Y Y Y (by omega)) ?_ | refine zaq Y Y ?_
   refine znq Y Y ?_
   first | refine zaq rfl (zBq Y Y Y Y Y Y Y (by first | assumption | (simp; done))) ?_ | refine zaq rfl (zFq Y Y Y Y Y Y Y (by omega)) ?_ | refine zaq rfl (zpq Y Y Y Y Y Y (by omega)) ?_ | refine zaq Y Y ?_
   refine znq Y Y (ziq (m + r) Y Y (by first | rfl | omega) ⟨by omega, by omega⟩ ?_)
   refine zbq 5 Y ?_
   first | refine zaq rfl (zBq Y Y Y Y Y Y Y (by first | assumption | (simp; done))) ?_ | refine zaq rfl (zFq Y Y Y Y Y Y Y (by omega)) ?_ | refine zaq rfl (zpq Y Y Y Y Y Y (by omega)) ?_ | refine zaq Y Y ?_
   refine znq Y Y ?_
   first | refine zaq rfl (zBq Y Y Y Y Y Y Y (by first | assumption | (simp; done))) ?_ | refine zaq rfl (zFq Y Y Y Y Y Y Y (by omega)) ?_ | refine zaq rfl (zpq Y Y Y Y Y Y (by omega)) ?_ | refine zaq Y Y ?_
   refine znq Y Y (zqq (w' := .int .i64 ((min m r : Nat) : Int)) Y Y (min_w _ _) ?_)
   refine qdq Y Y (fun h1 => ?_) (fun h1 => ?_)
   ·have hz : m = 0 \/ r = 0 := by omega
    refine zbq 2 Y ?_
    refine qdq Y Y (fun h2 => ?_) (fun h2 => ?_)
    ·refine zbq 24 Y ?_
     exact jLq (m := m + r) 8 5 (.inr rfl) (by omega) (by show 5 < 6; omega) Y Y Y Y ⟨⟨ms, rfl, by omega⟩, hok1, by rw [if_pos hc]; exact Zkq hm (hR.app ms) (by omega)⟩
    ·obtain ⟨y, hy⟩ : ∃ y, (ns ++ ms)[m + r - 1]? = some y := ⟨_, List.getElem?_eq_getElem (by omega)⟩
     refine zbq 7 Y ?_
     refine ziq (m + r - 1) Y Y (by first | rfl | omega) ⟨by omega, by omega⟩ ?_
     refine zaq rfl (zFq (i := m + r - 1) Y Y Y Y Y Y Y (by omega)) ?_
     refine zaq Y Y (znq rfl (ykq Y Y Y (u0q (ns ++ ms) hy)) ?_)
     refine zbq 4 Y ?_
     refine zAq rfl (fun h3 => ?_) (fun h3 => ?_)
     ·refine zeq 8 Y ?_
      exact jLq (m := m + r) 8 5 (.inr rfl) (by omega) (by show 5 < 6; omega) Y Y Y Y ⟨⟨ms, rfl, by omega⟩, hok1, by rw [if_pos hc]; exact u2q hm (hR.app ms) hz (by omega) hy h3⟩
     ·refine zeq 6 Y ?_
      refine zjq Y Y Y Y Y Y (joq _ _) ?_
      (refine zzq rfl (yxq 5 Y Y Y Y (by simp) (by omega) (by show 5 < 6; omega) Y Y (qUq _ root _ (by first | omega | (simp only [List.length_append]; omega))) ?_); rintro ns2 m2 ⟨rfl, rfl⟩)
      refine zbq 4 Y ?_
      exact jLq 8 6 (.inr rfl) (by omega) (by show 6 < 7; omega) Y Y Y Y (by rw [if_pos hc, u3q hm (hR.app ms) hz (by omega) hy (by simpa using h3)]; exact q2q hms hok1 hm (hR.app ms) (by omega))
   ·refine zbq 25 Y ?_
    refine zjq Y Y Y Y Y Y (joq _ _) ?_
    (refine zzq rfl (yxq 5 Y Y Y Y (by simp) (by omega) (by show 5 < 6; omega) Y Y (qUq _ root _ (by first | omega | (simp only [List.length_append]; omega))) ?_); rintro ns2 m2 ⟨rfl, rfl⟩)
    refine zbq 4 Y ?_
    exact jLq 8 6 (.inr rfl) (by omega) (by show 6 < 7; omega) Y Y Y Y (by rw [if_pos hc, Zjq hm (hR.app ms) (by omega) (by omega)]; exact q2q hms hok1 hm (hR.app ms) (by omega))
 ·skip
  rw [if_neg (by omega)] at sp
  refine z0q (fn := Tryz.f231) Y Y Y (Yb rfl) (fun k0 => ?_)
  refine zhq 14 Y ?_
  refine ziq (i) Y Y (by first | rfl | omega) ⟨by omega, by omega⟩ ?_
  refine zaq rfl (zFq (i := i) Y Y Y Y Y Y Y hi) (znq rfl (ykq Y Y Y hw) ?_)
  refine zbq 17 Y ?_
  refine zjq Y Y Y Y Y Y (j2q _) ?_
  refine zbq 8 Y ?_
  refine zjq Y Y Y Y Y Y (yJq k d 1 hd hc) ?_
  refine zbq 7 Y ?_
  first | refine zcq rfl (zBq Y Y Y Y Y Y Y (by first | assumption | (simp; done))) ?_ | refine zcq rfl (zFq Y Y Y Y Y Y Y (by omega)) ?_ | refine zcq rfl (zpq Y Y Y Y Y Y (by omega)) ?_ | refine zcq Y Y ?_
  refine zuq 2 Y ?_
  refine qtq (d + 1) Y Y (by first | rfl | omega) ⟨by omega, by omega⟩ ?_
  refine yRq Y Y ?_
  skip
  skip
  refine ymq rfl (step_mkO 1 Y Y Y Y (by simp) (by omega) (by show 1 < 5; omega) Y Y sp ?_ ?_)
  ·rintro m hm
   refine ⟨by first | rfl | kernel_rfl, ?_⟩
   skip
   have la := ((hL)).le
   have lb := (hm).le
   have ll : ns.length <= 1000000000 := by first | omega | (simp only [List.length_append]; omega)
   refine zuq 7 Y ?_
   first | refine zaq rfl (zBq Y Y Y Y Y Y Y (by first | assumption | (simp; done))) ?_ | refine zaq rfl (zFq Y Y Y Y Y Y Y (by omega)) ?_ | refine zaq rfl (zpq Y Y Y Y Y Y (by omega)) ?_ | refine zaq Y Y ?_
   refine zbq 6 Y ?_
   first | refine zaq rfl (zBq Y Y Y Y Y Y Y (by first | assumption | (simp; done))) ?_ | refine zaq rfl (zFq Y Y Y Y Y Y Y (by omega)) ?_ | refine zaq rfl (zpq Y Y Y Y Y Y (by omega)) ?_ | refine zaq Y Y ?_
   refine znq Y Y ?_
   first | refine zaq rfl (zBq Y Y Y Y Y Y Y (by first | assumption | (simp; done))) ?_ | refine zaq rfl (zFq Y Y Y Y Y Y Y (by omega)) ?_ | refine zaq rfl (zpq Y Y Y Y Y Y (by omega)) ?_ | refine zaq Y Y ?_
   refine znq Y Y (ziq (l + m) Y Y (by first | rfl | omega) ⟨by omega, by omega⟩ ?_)
   refine zbq 5 Y ?_
   first | refine zaq rfl (zBq Y Y Y Y Y Y Y (by first | assumption | (simp; done))) ?_ | refine zaq rfl (zFq Y Y Y Y Y Y Y (by omega)) ?_ | refine zaq rfl (zpq Y Y Y Y Y Y (by omega)) ?_ | refine zaq Y Y ?_
   refine znq Y Y ?_
   first | refine zaq rfl (zBq Y Y Y Y Y Y Y (by first | assumption | (simp; done))) ?_ | refine zaq rfl (zFq Y Y Y Y Y Y Y (by omega)) ?_ | refine zaq rfl (zpq Y Y Y Y Y Y (by omega)) ?_ | refine zaq Y Y ?_
   refine znq Y Y (zqq (w' := .int .i64 ((min l m : Nat) : Int)) Y Y (min_w _ _) ?_)
   refine qdq Y Y (fun h1 => ?_) (fun h1 => ?_)
   ·have hz : l = 0 \/ m = 0 := by omega
    refine zbq 2 Y ?_
    refine qdq Y Y (fun h2 => ?_) (fun h2 => ?_)
    ·refine zbq 24 Y ?_
     exact xVq (m := l + m) 8 (.inr rfl) (by show 2 <= 5; omega) Y Y Y Y (by rw [if_neg (by omega)]; exact Zkq (hL) hm (by omega))
    ·obtain ⟨y, hy⟩ : ∃ y, ns[l + m - 1]? = some y := ⟨_, List.getElem?_eq_getElem (by omega)⟩
     refine zbq 7 Y ?_
     refine ziq (l + m - 1) Y Y (by first | rfl | omega) ⟨by omega, by omega⟩ ?_
     refine zaq rfl (zFq (i := l + m - 1) Y Y Y Y Y Y Y (by omega)) ?_
     refine zaq Y Y (znq rfl (ykq Y Y Y (u0q ns hy)) ?_)
     refine zbq 4 Y ?_
     refine zAq rfl (fun h3 => ?_) (fun h3 => ?_)
     ·refine zeq 8 Y ?_
      exact xVq (m := l + m) 8 (.inr rfl) (by show 2 <= 5; omega) Y Y Y Y (by rw [if_neg (by omega)]; exact u2q (hL) hm hz (by omega) hy h3)
     ·refine zeq 6 Y ?_
      refine zjq Y Y Y Y Y Y (joq _ _) ?_
      (refine zzq rfl (yxq 1 Y Y Y Y (by simp) (by omega) (by show 1 < 5; omega) Y Y (qUq _ root _ (by first | omega | (simp only [List.length_append]; omega))) ?_); rintro ns2 m2 ⟨rfl, rfl⟩)
      refine zbq 4 Y ?_
      exact jLq 8 5 (.inr rfl) (by omega) (by show 5 < 6; omega) Y Y Y Y (by rw [if_neg (by omega), u3q (hL) hm hz (by omega) hy (by simpa using h3)]; exact Zlq hok (hL) hm (by omega))
   ·refine zbq 25 Y ?_
    refine zjq Y Y Y Y Y Y (joq _ _) ?_
    (refine zzq rfl (yxq 1 Y Y Y Y (by simp) (by omega) (by show 1 < 5; omega) Y Y (qUq _ root _ (by first | omega | (simp only [List.length_append]; omega))) ?_); rintro ns2 m2 ⟨rfl, rfl⟩)
    refine zbq 4 Y ?_
    exact jLq 8 5 (.inr rfl) (by omega) (by show 5 < 6; omega) Y Y Y Y (by rw [if_neg (by omega), Zjq (hL) hm (by omega) (by omega)]; exact Zlq hok (hL) hm (by omega))
  ·rintro ns1 m ⟨⟨ms, rfl, hms⟩, hok1, hm⟩
   refine ⟨by first | rfl | kernel_rfl, ?_⟩
   skip
   have la := ((hL.app ms)).le
   have lb := (hm).le
   have ll : (ns ++ ms).length <= 1000000000 := by first | omega | (simp only [List.length_append]; omega)
   refine zuq 7 Y ?_
   first | refine zaq rfl (zBq Y Y Y Y Y Y Y (by first | assumption | (simp; done))) ?_ | refine zaq rfl (zFq Y Y Y Y Y Y Y (by omega)) ?_ | refine zaq rfl (zpq Y Y Y Y Y Y (by omega)) ?_ | refine zaq Y Y ?_
   refine zbq 6 Y ?_
   first | refine zaq rfl (zBq Y Y Y Y Y Y Y (by first | assumption | (simp; done))) ?_ | refine zaq rfl (zFq Y Y Y Y Y Y Y (by omega)) ?_ | refine zaq rfl (zpq Y Y Y Y Y Y (by omega)) ?_ | refine zaq Y Y ?_
   refine znq Y Y ?_
   first | refine zaq rfl (zBq Y Y Y Y Y Y Y (by first | assumption | (simp; done))) ?_ | refine zaq rfl (zFq Y Y Y Y Y Y Y (by omega)) ?_ | refine zaq rfl (zpq Y Y Y Y Y Y (by omega)) ?_ | refine zaq Y Y ?_
   refine znq Y Y (ziq (l + m) Y Y (by first | rfl | omega) ⟨by omega, by omega⟩ ?_)
   refine zbq 5 Y ?_
   first | refine zaq rfl (zBq Y Y Y Y Y Y Y (by first | assumption | (simp; done))) ?_ | refine zaq rfl (zFq Y Y Y Y Y Y Y (by omega)) ?_ | refine zaq rfl (zpq Y Y Y Y Y Y (by omega)) ?_ | refine zaq Y Y ?_
   refine znq Y Y ?_
   first | refine zaq rfl (zBq Y Y Y Y Y Y Y (by first | assumption | (simp; done))) ?_ | refine zaq rfl (zFq Y Y Y Y Y Y Y (by omega)) ?_ | refine zaq rfl (zpq Y Y Y Y Y Y (by omega)) ?_ | refine zaq Y Y ?_
   refine znq Y Y (zqq (w' := .int .i64 ((min l m : Nat) : Int)) Y Y (min_w _ _) ?_)
   refine qdq Y Y (fun h1 => ?_) (fun h1 => ?_)
   ·have hz : l = 0 \/ m = 0 := by omega
    refine zbq 2 Y ?_
    refine qdq Y Y (fun h2 => ?_) (fun h2 => ?_)
    ·refine zbq 24 Y ?_
     exact jLq (m := l + m) 8 5 (.inr rfl) (by omega) (by show 5 < 6; omega) Y Y Y Y ⟨⟨ms, rfl, by omega⟩, hok1, by rw [if_neg (by omega)]; exact Zkq (hL.app ms) hm (by omega)⟩
    ·obtain ⟨y, hy⟩ : ∃ y, (ns ++ ms)[l + m - 1]? = some y := ⟨_, List.getElem?_eq_getElem (by omega)⟩
     refine zbq 7 Y ?_
     refine ziq (l + m - 1) Y Y (by first | rfl | omega) ⟨by omega, by omega⟩ ?_
     refine zaq rfl (zFq (i := l + m - 1) Y Y Y Y Y Y Y (by omega)) ?_
     refine zaq Y Y (znq rfl (ykq Y Y Y (u0q (ns ++ ms) hy)) ?_)
     refine zbq 4 Y ?_
     refine zAq rfl (fun h3 => ?_) (fun h3 => ?_)
     ·refine zeq 8 Y ?_
      exact jLq (m := l + m) 8 5 (.inr rfl) (by omega) (by show 5 < 6; omega) Y Y Y Y ⟨⟨ms, rfl, by omega⟩, hok1, by rw [if_neg (by omega)]; exact u2q (hL.app ms) hm hz (by omega) hy h3⟩
     ·refine zeq 6 Y ?_
      refine zjq Y Y Y Y Y Y (joq _ _) ?_
      (refine zzq rfl (yxq 5 Y Y Y Y (by simp) (by omega) (by show 5 < 6; omega) Y Y (qUq _ root _ (by first | omega | (simp only [List.length_append]; omega))) ?_); rintro ns2 m2 ⟨rfl, rfl⟩)
      refine zbq 4 Y ?_
      exact jLq 8 6 (.inr rfl) (by omega) (by show 6 < 7; omega) Y Y Y Y (by rw [if_neg (by omega), u3q (hL.app ms) hm hz (by omega) hy (by simpa using h3)]; exact q2q hms hok1 (hL.app ms) hm (by omega))
   ·refine zbq 25 Y ?_
    refine zjq Y Y Y Y Y Y (joq _ _) ?_
    (refine zzq rfl (yxq 5 Y Y Y Y (by simp) (by omega) (by show 5 < 6; omega) Y Y (qUq _ root _ (by first | omega | (simp only [List.length_append]; omega))) ?_); rintro ns2 m2 ⟨rfl, rfl⟩)
    refine zbq 4 Y ?_
    exact jLq 8 6 (.inr rfl) (by omega) (by show 6 < 7; omega) Y Y Y Y (by rw [if_neg (by omega), Zjq (hL.app ms) hm (by omega) (by omega)]; exact q2q hms hok1 (hL.app ms) hm (by omega))
theorem find_fork {k : Dig} {d : Nat} {L R : T} : T.find k d (.fork L R) = (if bitN k d = 0 then L.find k (d + 1) else R.find k (d + 1)) := rfl
theorem wout_s (root : Int) (k : Dig) (ns : List Node) (hok : okN ns) : ∀ (t : T) (n d f : Nat) (b : Dig), Rep ns n t -> t.ok d b = true -> d + f = 256 -> (t.find k d).isSome = true -> ns.length + f + 1 <= 1000000000 -> WoutS G root k ns n d (fun m => Rep ns m (T.drop k d t)) (Gr ns f (T.drop k d t)) := by
 intro t
 induction t with
 | nil => intro n d f b hr ht hf hs hl; cases hs
 | leaf k' v' =>
  intro n d f b hr ht hf hs hl
  cases hr with
  | leaf hx => exact wout_leaf hx (by omega)
 | fork tl tr ihL ihR =>
  intro n d f b hr ht hf hs hl
  obtain ⟨hd, k1, k2, _⟩ := ok_fork.1 ht
  cases hr with
  | fork hx h1 h2 hL hR =>
   rename_i n l r k' v'
   cases f with
   | zero => omega
   | succ f =>
    rw [find_fork] at hs
    have key : WoutS G root k ns (n + 1) d (fun m => Rep ns m (if bitN k d = 0 then .join (T.drop k (d + 1) (if bitN k d = 0 then tl else tr)) tr else .join tl (T.drop k (d + 1) (if bitN k d = 0 then tl else tr)))) (Gr ns (f + 1) (if bitN k d = 0 then .join (T.drop k (d + 1) (if bitN k d = 0 then tl else tr)) tr else .join tl (T.drop k (d + 1) (if bitN k d = 0 then tl else tr)))) := by
     refine wout_fork hx hok hL hR hd (by omega) ?_
     by_cases hb : bitN k d = 0
     ·rw [if_pos hb] at hs ⊢
      rw [if_pos hb]
      exact ihL l (d + 1) f b hL k1 (by omega) hs (by omega)
     ·rw [if_neg hb] at hs ⊢
      rw [if_neg hb]
      exact ihR r (d + 1) f (qvq b d) hR k2 (by omega) hs (by omega)
    have ep : T.drop k d (.fork tl tr) = (if bitN k d = 0 then .join (T.drop k (d + 1) (if bitN k d = 0 then tl else tr)) tr else .join tl (T.drop k (d + 1) (if bitN k d = 0 then tl else tr))) := by
     simp only [T.drop]
     by_cases hb : bitN k d = 0
     ·simp only [if_pos hb]
     ·simp only [if_neg hb]
    rw [ep]
    exact key
end
section
attribute [local irreducible] CoW OpW FlW Step Spec
variable {G : Nat -> Option W}
theorem step_mkJ {o : Oper} {fr : FrW} {hp : HpW} {nw : Nat} {R : Res} {post : W -> HpW -> Nat -> Res -> Option EvW -> Prop} {x : Operand} {xs : Array Operand} {ats : Array TypeId} {f : FuncId} {us : List W} {root : Int} {ns : List Node} {S : Nat -> Prop} {P : List Node -> Nat -> Prop} (j k : Nat)
  (ho : o.op = .call ⟨.value x, xs, ats⟩) (hx : evW cfg G fr x = some (.fn f [] [])) (he : cfg.ext f = none) (hxs : evLW cfg G fr xs.toList = some (.ptr j 0 :: us)) (hpu : purL us = true) (hjk : j ≠ k) (hj : j < nw) (hkn : k < nw)
  (h0 : hget hp j = some (261, mkW k ns.length root)) (h1 : hget hp k = some (106, nsW ns)) (sp : qkq cfg G f 2 (.ptr 0 0 :: us) [(0, 261, mkW 1 ns.length root), (1, 106, nsW ns)] (MkO root ns S P))
  (hsame : ∀ m, S m -> post (.int .i64 ((m : Nat) : Int)) ((j, 261, mkW k ns.length root) :: (k, 106, nsW ns) :: delA [j, k] hp) nw R (some .dirty))
  (hpost : ∀ ns' m, P ns' m -> post (.int .i64 ((m : Nat) : Int)) ((j, 261, mkW nw ns'.length root) :: (nw, 106, nsW ns') :: delA [j, k] hp) (nw + 1) R (some .dirty)) : Step cfg G o fr hp nw R post := by
 refine yOq (ext := [j, k]) (ws := .ptr 0 0 :: us) ho hx he hxs ?_ sp ?_ ?_ (by simp) (ZXq h0 (by rw [zlq (jlq _)]; exact h1) rfl (zfq (jlq _))) ?_ ?_
 ·show .ptr j 0 :: (us ++ []) = W.ptr j 0 :: qlq (numC [j, k] nw) us
  rw [j3q hpu, List.append_nil]
 ·simp; omega
 ·intro b hb
  simp only [List.mem_cons, List.not_mem_nil, or_false] at hb
  omega
 ·have h := zfq (m := 2) (w := .tup us) hpu
  have h : refL 2 us = true := h
  show (refB 2 (.ptr 0 0) && refL 2 us) = true
  rw [h]; rfl
 ·rintro w hp1 nw1 (⟨m, h, rfl, rfl, rfl⟩ | ⟨ns', m, h, rfl, rfl, rfl⟩)
  ·have e : renH (numC [j, k] nw) [(0, 261, mkW 1 ns.length root), (1, 106, nsW ns)] = [(j, 261, mkW k ns.length root), (k, 106, nsW ns)] := by
    simp only [renH, zlq (jlq _)]; rfl
   have h := hsame m h
   rw [show ([j, k] : List Nat).length = 2 from rfl, e]
   exact h
  ·have e : renH (numC [j, k] nw) [(0, 261, mkW 2 ns'.length root), (2, 106, nsW ns')] = [(j, 261, mkW nw ns'.length root), (nw, 106, nsW ns')] := by
    simp only [renH, zlq (jlq _)]; rfl
   have h := hpost ns' m h
   rw [show ([j, k] : List Nat).length = 2 from rfl, e]
   exact h
theorem mkO_of {f : FuncId} {ws : List W} {hp : HpW} {root : Int} {ns : List Node} {P : List Node -> Nat -> Prop} (h : qkq cfg G f 2 ws hp (Mk root P)) : qkq cfg G f 2 ws hp (MkO root ns (fun _ => False) P) := xSq h fun _ _ _ h => .inr h
def nilM (root : Int) : W := .agg 2 [.nils, .int .i64 root]
def Mk0 (root : Int) (P : List Node -> Nat -> Prop) : W -> HpW -> Nat -> Prop := fun w hp nw =>
 ∃ ns m, P ns m /\ w = .int .i64 ((m : Nat) : Int) /\ hp = [(0, 261, mkW 1 ns.length root), (1, 106, nsW ns)] /\ nw = 2
theorem step_mk0 {o : Oper} {fr : FrW} {hp : HpW} {nw : Nat} {R : Res} {post : W -> HpW -> Nat -> Res -> Option EvW -> Prop} {x : Operand} {xs : Array Operand} {ats : Array TypeId} {f : FuncId} {us : List W} {root : Int} {P : List Node -> Nat -> Prop} (j : Nat)
  (ho : o.op = .call ⟨.value x, xs, ats⟩) (hx : evW cfg G fr x = some (.fn f [] [])) (he : cfg.ext f = none) (hxs : evLW cfg G fr xs.toList = some (.ptr j 0 :: us)) (hpu : purL us = true) (hj : j < nw)
  (h0 : hget hp j = some (261, nilM root)) (sp : qkq cfg G f 1 (.ptr 0 0 :: us) [(0, 261, nilM root)] (Mk0 root P))
  (hpost : ∀ ns' m, P ns' m -> post (.int .i64 ((m : Nat) : Int)) ((j, 261, mkW nw ns'.length root) :: (nw, 106, nsW ns') :: delA [j] hp) (nw + 1) R (some .dirty)) : Step cfg G o fr hp nw R post := by
 refine yOq (ext := [j]) (ws := .ptr 0 0 :: us) ho hx he hxs ?_ sp (by simp) ?_ (by simp) (handed1 h0 rfl) ?_ ?_
 ·show .ptr j 0 :: (us ++ []) = W.ptr j 0 :: qlq (numC [j] nw) us
  rw [j3q hpu, List.append_nil]
 ·intro b hb
  simp only [List.mem_cons, List.not_mem_nil, or_false] at hb
  omega
 ·have h := zfq (m := 1) (w := .tup us) hpu
  have h : refL 1 us = true := h
  show (refB 1 (.ptr 0 0) && refL 1 us) = true
  rw [h]; rfl
 ·rintro w hp1 nw1 ⟨ns', m, h, rfl, rfl, rfl⟩
  have e : renH (numC [j] nw) [(0, 261, mkW 1 ns'.length root), (1, 106, nsW ns')] = [(j, 261, mkW nw ns'.length root), (nw, 106, nsW ns')] := by
   simp only [renH, zlq (jlq _)]; rfl
  have h := hpost ns' m h
  rw [show ([j] : List Nat).length = 1 from rfl, e]
  exact h
theorem fin_mk0 {k0 : Nat} {rs : List ResultVar} {x : Exit} {fr : FrW} {hp : HpW} {nw : Nat} {R : Res} {root : Int} {P : List Node -> Nat -> Prop} {ns : List Node} {m : Nat} (s k : Nat) (hx : x = .normal \/ x = .ret) (hk : 1 <= k) (hkn : k < nw) (hf : getW fr s = some (.int .i64 ((m : Nat) : Int)))
  (h0 : hget hp (tau1 1 k 0) = some (261, renW (tau1 1 k) (mkW 1 ns.length root))) (h1 : hget hp (tau1 1 k 1) = some (106, nsW ns)) (ho : outW cfg [(s, .int .i64 ((m : Nat) : Int))] [(0, 261, mkW 1 ns.length root), (1, 106, nsW ns)] rs = some (.int .i64 ((m : Nat) : Int))) (hP : P ns m) :
  QFin cfg G 1 k0 rs (fun w hp nw R' => R' = R /\ Mk0 root P w hp nw) x fr hp nw R :=
 fin hx (qiq (b := 1) (k := k) (fr2 := [(s, .int .i64 ((m : Nat) : Int))]) (hp2 := [(0, 261, mkW 1 ns.length root), (1, 106, nsW ns)]) (by omega) hk hkn ⟨⟨hf, rfl⟩, trivial⟩ ⟨⟨by omega, h0, rfl⟩, ⟨by omega, by rw [zlq (jlq _)]; exact h1, zfq (jlq _)⟩, trivial⟩ (by simp)) ho ⟨rfl, ns, m, hP, rfl, rfl, rfl⟩
theorem node_0 (root : Int) (x : Node) : qkq cfg G 213 1 [.ptr 0 0, nW x] [(0, 261, nilM root)] (Mk0 root fun ns m => ns = [x] /\ m = 1) := by
 intro R
 refine z0q (fn := Tryz.f213) Y Y Y (Yb rfl) (fun k0 => ?_)
 refine zhq 16 Y ?_
 refine yHq rfl (y5q Y Y (xKq (news := [nW x]) (k := ti106) Y Y Y Y (qsq Y Y Y Y) (by simp) (by show 1 * ti106.bytes <= _; decide) (by show 1 <= _; decide))) (by first | rfl | kernel_rfl) ?_
 refine zuq 13 Y ?_
 first | refine ZOq Y Y ?_ | refine zaq Y Y ?_
 refine zbq 4 Y ?_
 exact fin_mk0 (ns := [x]) (m := 1) 4 3 (.inr rfl) (by omega) (by show 3 < 4; omega) Y Y Y Y ⟨rfl, rfl⟩
theorem with_0 {root : Int} {k : Dig} {v : List UInt8} {d : Int} : qkq cfg G 158 1 [.ptr 0 0, .int .i64 ((0 : Nat) : Int), .int .i64 d, nW ⟨true, k, v, 0, 0⟩] [(0, 261, nilM root)] (Mk0 root fun ns m => ns = [⟨true, k, v, 0, 0⟩] /\ m = 1) := by
 intro R
 refine z0q (fn := Tryz.f158) Y Y Y (Yb rfl) (fun k0 => ?_)
 refine zhq 13 Y ?_
 refine zAq rfl (fun h1 => ?_) (fun h1 => ?_)
 ·refine zeq 4 Y ?_
  (refine zzq rfl (step_mk0 0 Y Y Y Y (by simp) (by show 0 < 2; omega) rfl (node_0 root _) ?_); rintro ns1 m ⟨rfl, rfl⟩)
  refine zbq 5 Y ?_
  exact fin_mk0 (ns := [⟨true, k, v, 0, 0⟩]) (m := 1) 8 2 (.inr rfl) (by omega) (by show 2 < 3; omega) Y Y Y Y ⟨rfl, rfl⟩
 ·exfalso; omega
end
section
attribute [local irreducible] CoW OpW FlW Step Spec
variable {G : Nat -> Option W}
def Ext (t t' : Tree) : Prop := ∃ ms, t'.nodes = t.nodes ++ ms /\ ms.length <= 257
theorem Ext.refl (t : Tree) : Ext t t := ⟨[], by simp, by simp⟩
def PutA (t : Tree) (t0 : T) : W -> Prop := fun w => ∃ t' n, IsT t' n t0 /\ Ext t t' /\ w = .tup [tW t', .int .i64 0]
theorem vpq {hp : HpW} {b : Nat} {ns : List Node} {root : Int} (h : hget hp b = some (106, nsW ns)) : View (blkA hp) (mkW b ns.length root) (tW ⟨ns, root⟩) :=
 .agg (.cons (.sl (c := nsW ns) (by unfold blkA; rw [h]) (jlq ns) (zGq (by decide) (List.length_map _).symm rfl) (by intro h; cases h)) (.cons (.pur rfl) .nil))
theorem ist_put {ns ns' : List Node} {n m : Nat} {t0 : T} {k : Dig} {v : List UInt8} (h : IsT ⟨ns, (n : Int)⟩ n t0) (hl : ns.length <= 261844) (hg : Gr ns 257 (t0.put k v 256) ns' m) : IsT ⟨ns', (m : Int)⟩ m (t0.put k v 256) := by
 obtain ⟨⟨ms, rfl, hms⟩, hok, hr⟩ := hg
 exact ⟨by simp only [List.length_append]; omega, hok, rfl, hr, (kgq k v 256 t0 (d := 0) (b := jkq) rfl kIq h.ok (Nat.zero_le _)).1⟩
theorem tput_s (t : Tree) (n : Nat) (t0 : T) (k : Dig) (v : List UInt8) (f : Bool) (h : IsT t n t0) (hv : MayP [(k, v)]) (hl : t.nodes.length <= 261844) : PE cfg G 90 [tW t, dW k, .fz (zdq v) 1 f] (PutA t (t0.put k v 256)) := by
 have hy := h.may
 have hr := h.root
 obtain ⟨ns, root⟩ := t
 simp only at hr hl
 subst hr
 have hvl : v.length <= 70368744177664 := by
  have h2 := (hv.2 0 (by simp) (k, v) rfl).1
  simp only [valB, Bool.and_eq_true, decide_eq_true_eq] at h2
  omega
 have e : (ns.map nW).length = ns.length := List.length_map _
 have hvals : ∀ x ∈ ns, x.val.length <= 70368744177664 := fun x hx => by
  obtain ⟨i, hi⟩ := List.getElem?_of_mem hx
  have h1 := h.okn i x hi
  obtain ⟨lf, k', v', l, r⟩ := x
  cases lf with
  | true => have := (ZSq h.okn hi).2; simp only; omega
  | false => simp only [oneB, Bool.false_eq_true, if_false] at h1; simp only; rw [h1.2.2.2.1]; simp
 refine YXq (fn := Tryz.f90) Y Y Y (Yb rfl) (fun R k0 => ?_)
 refine zhq 12 Y ?_
 refine y2q Y Y Y Y Y Y (Ylq _ _ (by first | assumption | (simp; omega))) ?_
 refine zuq 10 Y ?_
 first | refine zjq Y Y Y Y Y Y (yMq (w' := .int .i64 0) (qMq ⟨ns, (n : Int)⟩ (by show ns.length <= _; omega)) (by rw [if_pos hy])) ?_ | refine zjq Y Y Y Y Y Y (qMq _ (by omega)) ?_
 refine qdq Y Y (fun h1 => ?_) (fun h1 => ?_)
 ·exfalso; exact h1 rfl
 ·refine zbq 2 Y ?_
  first | refine zjq Y Y Y Y Y Y (yMq (w' := .bool true) (one_s ⟨true, k, v, 0, 0⟩ 0 (by omega)) (by rw [decide_eq_true (leaf_one hv 0)])) ?_ | refine zjq Y Y Y Y Y Y (one_s _ _ (by omega)) ?_
  refine zbq 10 Y ?_
  refine zqq (w' := .int .i64 (ns.length : Int)) Y Y (by rw [<- e]; rfl) ?_
  refine yYq Y Y ?_
  refine zbq 3 Y ?_
  refine zAq rfl (fun h2 => ?_) (fun h2 => ?_)
  ·exfalso; omega
  ·refine zeq 6 Y ?_
   skip
   skip
   refine zzq rfl (jDq Y Y Y Y Y (by simp [ukq]) (twin_s ns (n : Int) (by omega) hvals) ?_)
   rintro w hp1 nw1 (⟨hn, rfl, rfl, rfl⟩ | ⟨rfl, rfl, rfl⟩)
   ·subst hn
    obtain rfl : n = 0 := by have := h.rep.le; simpa using this
    skip
    refine zbq 15 Y ?_
    (refine ymq rfl (step_mk0 6 Y Y Y Y (by simp [renW]) (by show 6 < 7; omega) rfl (with_0 (k := k) (v := v)) ?_); rintro ns1 m ⟨rfl, rfl⟩; refine ⟨by first | rfl | kernel_rfl, ?_⟩)
    refine zuq 17 Y ?_
    obtain rfl := h.rep.zero
    refine xjq (w' := .tup [tW ⟨[⟨true, k, v, 0, 0⟩], ((1 : Nat) : Int)⟩, .int .i64 0]) (.inr rfl) rfl (.tup (.cons (vpq (b := 7) (ns := [⟨true, k, v, 0, 0⟩]) (root := ((1 : Nat) : Int)) rfl) (.cons (.pur rfl) .nil))) (by simp) ⟨_, 1, ?_, ⟨[⟨true, k, v, 0, 0⟩], rfl, by simp⟩, rfl⟩
    refine ist_put (n := 0) h (by simp) ?_
    rw [show T.put k v 256 .nil = .leaf k v from by simp [T.put]]
    exact QQq (ns := []) h.okn hv (by omega)
   ·skip
    refine zbq 15 Y ?_
    (refine ymq rfl (step_mkJ 7 6 Y Y Y Y (by simp [renW]) (by omega) (by show 7 < 8; omega) (by show 6 < 8; omega) rfl (by show some (106, renW _ (nsW ns)) = _; rw [zlq (jlq ns)]) (mkO_of (with_s (n : Int) k v hv 256 t0 ns n 0 jkq h.rep h.okn h.ok rfl kIq (Nat.zero_le _) (by omega))) ?_ ?_); exact fun m hm => hm.elim; rintro ns1 m hg; refine ⟨by first | rfl | kernel_rfl, ?_⟩)
    refine zuq 17 Y ?_
    exact xjq (w' := .tup [tW ⟨ns1, (m : Int)⟩, .int .i64 0]) (.inr rfl) rfl (.tup (.cons (vpq (b := 8) (ns := ns1) (root := (m : Int)) rfl) (.cons (.pur rfl) .nil))) (by simp) ⟨_, m, ist_put h hl hg, hg.1, rfl⟩
end
section
attribute [local irreducible] CoW OpW FlW Step Spec
variable {G : Nat -> Option W}
theorem IsT.vals {ns : List Node} {n : Nat} {root : Int} {t0 : T} (h : IsT ⟨ns, root⟩ n t0) : ∀ x ∈ ns, x.val.length <= 70368744177664 := fun x hx => by
 obtain ⟨i, hi⟩ := List.getElem?_of_mem hx
 have h1 := h.okn i x hi
 obtain ⟨lf, k', v', l, r⟩ := x
 cases lf with
 | true => have := (ZSq h.okn hi).2; simp only; omega
 | false => simp only [oneB, Bool.false_eq_true, if_false] at h1; simp only; rw [h1.2.2.2.1]; simp
theorem tdrop_s (t : Tree) (n : Nat) (t0 : T) (k : Dig) (h : IsT t n t0) (hs : (t0.find k 0).isSome = true) (hl : t.nodes.length <= 261844) : PE cfg G 181 [tW t, dW k] (PutA t (t0.drop k 0)) := by
 have hy := h.may
 have hr := h.root
 obtain ⟨ns, root⟩ := t
 simp only at hr hl
 subst hr
 have e : (ns.map nW).length = ns.length := List.length_map _
 have hvals := h.vals
 have hok := (u9q k t0 kIq h.ok hs).1
 obtain ⟨m, f1, f2, f3⟩ := fto_of (k := k) h.rep h.ok
 obtain ⟨v0, hv0⟩ := Option.isSome_iff_exists.1 hs
 obtain ⟨j, l0, r0, rfl, hx⟩ := f3 v0 hv0
 have hj := (List.getElem?_eq_some_iff.1 hx).1
 refine YXq (fn := Tryz.f181) Y Y Y (Yb rfl) (fun R k0 => ?_)
 refine zhq 13 Y ?_
 first | refine zjq Y Y Y Y Y Y (yMq (w' := .int .i64 0) (qMq ⟨ns, (n : Int)⟩ (by show ns.length <= _; omega)) (by rw [if_pos hy])) ?_ | refine zjq Y Y Y Y Y Y (qMq _ (by omega)) ?_
 refine yYq Y Y ?_
 refine zbq 8 Y ?_
 refine zjq Y Y Y Y Y Y (tfind_s ⟨ns, (n : Int)⟩ k n _ rfl f1 (by show ns.length <= _; omega)) ?_
 refine yYq Y Y ?_
 refine zbq 3 Y ?_
 refine zAq rfl (fun h1 => ?_) (fun h1 => ?_)
 ·exfalso; omega
 ·refine zeq 4 Y ?_
  refine zqq (w' := .int .i64 (ns.length : Int)) Y Y (by rw [<- e]; rfl) ?_
  refine yYq Y Y ?_
  refine zbq 3 Y ?_
  refine zAq rfl (fun h2 => ?_) (fun h2 => ?_)
  ·exfalso; omega
  ·refine zeq 6 Y ?_
   skip
   refine zzq rfl (jDq Y Y Y Y Y (by simp [ukq]) (twin_s ns (n : Int) (by omega) hvals) ?_)
   rintro w hp1 nw1 (⟨hn, rfl, rfl, rfl⟩ | ⟨rfl, rfl, rfl⟩)
   ·exfalso
    subst hn
    simp at hj
   ·skip
    refine zbq 15 Y ?_
    skip
    refine ymq rfl (step_mkJ 6 5 Y Y Y Y (by simp [renW]) (by omega) (by show 6 < 7; omega) (by show 5 < 7; omega) rfl (by show some (106, renW _ (nsW ns)) = _; rw [zlq (jlq ns)]) (wout_s (n : Int) k ns h.okn t0 n 0 256 jkq h.rep h.ok rfl hs (by omega)) ?_ ?_)
    ·skip
     skip
     intro m hm
     refine ⟨by first | rfl | kernel_rfl, ?_⟩
     skip
     refine zuq 17 Y ?_
     exact xjq (w' := .tup [tW ⟨ns, (m : Int)⟩, .int .i64 0]) (.inr rfl) rfl (.tup (.cons (vpq (b := 5) (ns := ns) (root := (m : Int)) rfl) (.cons (.pur rfl) .nil))) (by simp) ⟨⟨ns, (m : Int)⟩, m, ⟨h.len, h.okn, rfl, hm, hok⟩, ⟨[], by simp, by simp⟩, rfl⟩
    ·rintro ns1 m ⟨⟨ms, rfl, hms⟩, hok1, hm⟩
     refine ⟨by first | rfl | kernel_rfl, ?_⟩
     skip
     refine zuq 17 Y ?_
     exact xjq (w' := .tup [tW ⟨ns ++ ms, (m : Int)⟩, .int .i64 0]) (.inr rfl) rfl (.tup (.cons (vpq (b := 7) (ns := ns ++ ms) (root := (m : Int)) rfl) (.cons (.pur rfl) .nil))) (by simp) ⟨⟨ns ++ ms, (m : Int)⟩, m, ⟨by simp only [List.length_append]; omega, hok1, rfl, hm, hok⟩, ⟨ms, rfl, by omega⟩, rfl⟩
end
section
attribute [local irreducible] CoW OpW FlW Step Spec
variable {G : Nat -> Option W}
def setL (l : List Pr) (k : Dig) (a : Acct) : List Pr := if a = .zero then zKq l k else klq l k (qJq a)
def SetA (t : Tree) (t0 : T) (k : Dig) (a : Acct) : W -> Prop := fun w => ∃ t' n t1, IsA t' n t1 /\ t1.all = setL t0.all k a /\ Ext t t' /\ w = .tup [tW t', .int .i64 0]
def noT : W := .agg 2 [.nils, .int .i64 0]
theorem mayp_bytes (k : Dig) (a : Acct) : MayP [(k, qJq a)] := by
 refine ⟨by simp, fun i hi x hx => ?_⟩
 obtain rfl : i = 0 := by simpa using hi
 cases hx
 exact ⟨by simp [valB, qJq, beB], fun y h0 => by omega⟩
theorem aset_s (t : Tree) (n : Nat) (t0 : T) (k : Dig) (a : Acct) (h : IsA t n t0) (ha : a.ok) (hl : t.nodes.length <= 261844) : PE cfg G 115 [tW t, dW k, aW a] (SetA t t0 k a) := by
 have yes : MayA t := ⟨n, t0, h⟩
 by_cases hz : a = .zero
 ·subst hz
  have hvals : ∀ x ∈ t.nodes, x.val.length <= 70368744177664 := IsT.vals (root := t.root) h.toIsT
  cases hf : t0.find k 0 with
  | none =>
   have hno : zKq t0.all k = t0.all := q9q (findL_none.1 (by rw [<- xEq k kIq h.ok]; exact hf))
   have hall : t0.all = setL t0.all k .zero := by unfold setL; rw [if_pos rfl, hno]
   refine YXq (fn := Tryz.f115) Y Y Y (Yb rfl) (fun R k0 => ?_)
   refine zhq 13 Y ?_
   refine zjq Y Y Y Y Y Y (yMq (w' := .int .i64 0) (kkq t (by omega)) (by rw [if_pos yes])) ?_
   refine zbq 17 Y ?_
   refine zaq rfl (kuq Y Y Y Y (Q2q .zero .zero)) ?_
   refine zbq 10 Y ?_
   refine zjq Y Y Y Y Y Y (yMq (w' := .tup [.nils, .bool false]) (tget_s t n t0 k h.toIsT) (by rw [hf]; rfl)) ?_
   refine zbq 17 Y ?_
   skip
   skip
   refine zzq rfl (jDq Y Y Y Y Y (by simp [ukq]) (twin_s t.nodes t.root (by omega) hvals) ?_)
   rintro w hp1 nw1 (⟨hn, rfl, rfl, rfl⟩ | ⟨rfl, rfl, rfl⟩)
   ·skip
    refine zbq 6 Y ?_
    refine xjq (w' := .tup [tW t, .int .i64 0]) (.inr rfl) rfl (.tup (.cons (.agg (.cons ?_ (.cons (.pur rfl) .nil))) (.cons (.pur rfl) .nil))) (by simp) ⟨t, n, t0, h, hall, .refl t, rfl⟩
    rw [hn]
    exact .nilfz
   ·skip
    refine zbq 6 Y ?_
    exact xjq (w' := .tup [tW t, .int .i64 0]) (.inr rfl) rfl (.tup (.cons (vpq (b := 6) (ns := t.nodes) (root := t.root) (by show some (106, renW _ (nsW t.nodes)) = _; rw [zlq (jlq t.nodes)])) (.cons (.pur rfl) .nil))) (by simp) ⟨t, n, t0, h, hall, .refl t, rfl⟩
  | some v =>
   have hs : (t0.find k 0).isSome = true := by rw [hf]; rfl
   have hd := (u9q k t0 kIq h.ok hs).2
   refine YXq (fn := Tryz.f115) Y Y Y (Yb rfl) (fun R k0 => ?_)
   refine zhq 13 Y ?_
   refine zjq Y Y Y Y Y Y (yMq (w' := .int .i64 0) (kkq t (by omega)) (by rw [if_pos yes])) ?_
   refine zbq 17 Y ?_
   refine zaq rfl (kuq Y Y Y Y (Q2q .zero .zero)) ?_
   refine zbq 10 Y ?_
   refine zjq Y Y Y Y Y Y (yMq (w' := .tup [bW v, .bool true]) (tget_s t n t0 k h.toIsT) (by rw [hf]; rfl)) ?_
   refine zbq 20 Y ?_
   (refine zzq rfl (Qsq Y Y Y Y Y (tdrop_s t n t0 k h.toIsT hs hl) (by simp) ?_); rintro w hw ⟨t', n', ht', hx, rfl⟩)
   refine zbq 7 Y ?_
   exact xjq (w' := .tup [tW t', .int .i64 0]) (.inr rfl) rfl (.pur (by simp)) (by simp) ⟨t', n', _, ⟨ht', fun p hp => h.held p (by rw [hd] at hp; exact (mem_withoutL.1 hp).1)⟩, by rw [hd]; unfold setL; rw [if_pos rfl], hx, rfl⟩
 ·have hp := (kgq k (qJq a) 256 t0 (d := 0) (b := jkq) rfl kIq h.ok (Nat.zero_le _)).2
  have e : eqW cfg 300 110 (aW a) (aW .zero) = some false := by rw [Q2q, decide_eq_false hz]
  refine YXq (fn := Tryz.f115) Y Y Y (Yb rfl) (fun R k0 => ?_)
  refine zhq 13 Y ?_
  refine zjq Y Y Y Y Y Y (yMq (w' := .int .i64 0) (kkq t (by omega)) (by rw [if_pos yes])) ?_
  refine zbq 17 Y ?_
  refine zaq rfl (kuq Y Y Y Y e) ?_
  refine zbq 8 Y ?_
  refine y2q Y Y Y Y Y Y (abytes_s a ha) ?_
  (refine ymq rfl (Qsq Y Y Y Y Y (tput_s t n t0 k (qJq a) false h.toIsT (mayp_bytes k a) hl) (by simp) ?_); rintro w hw ⟨t', n', ht', hx, rfl⟩; refine ⟨by first | rfl | kernel_rfl, ?_⟩)
  refine zuq 8 Y ?_
  exact xjq (w' := .tup [tW t', .int .i64 0]) (.inr rfl) rfl (.pur (by simp)) (by simp) ⟨t', n', _, ⟨ht', fun p hq => by
   rw [hp] at hq
   rcases mem_withL.1 hq with rfl | ⟨q, _⟩
   ·simp only; rw [vwq a ha hz]
   ·exact h.held p q⟩, by rw [hp]; unfold setL; rw [if_neg hz], hx, rfl⟩
end
section
attribute [local irreducible] CoW OpW FlW Step Spec
variable {G : Nat -> Option W}
theorem kyq {o : Oper} {fr : FrW} {hp : HpW} {nw : Nat} {R : Res} {post : W -> HpW -> Nat -> Res -> Option EvW -> Prop} {x : Operand} {xs : Array Operand} {ats : Array TypeId} {f : FuncId} {a b : Nat}
  (ho : o.op = .call ⟨.value x, xs, ats⟩) (hx : evW cfg G fr x = some (.fn f [] [])) (he : cfg.ext f = some add64V) (hxs : evLW cfg G fr xs.toList = some [.int .u64 ((a : Nat) : Int), .int .u64 ((b : Nat) : Int), .int .u64 ((0 : Nat) : Int)])
  (hpost : post (.tup [.int .u64 (((a + b) % 18446744073709551616 : Nat) : Int), .int .u64 (((a + b) / 18446744073709551616 : Nat) : Int)]) hp nw R (some .gen)) : Step cfg G o fr hp nw R post := by
 refine step_ext ho hx he hxs (fun Γ vs h => ?_) hpost
 simp only [List.nil_append, List.append_nil, RVL_cons, RV_int] at h
 obtain ⟨v1, vs1, rfl, rfl, v2, vs2, rfl, rfl, v3, vs3, rfl, rfl, h⟩ := h
 obtain rfl : vs3 = [] := by simpa [RVL] using h
 refine ⟨.tup [.int .u64 (.ofNat ((a + b + 0) % 18446744073709551616)), .int .u64 (.ofNat ((a + b + 0) / 18446744073709551616))], rfl, ?_⟩
 rw [RV_tup]
 refine ⟨_, rfl, ?_⟩
 simp only [RVL_cons, RV_int]
 exact ⟨_, _, rfl, rfl, _, _, rfl, rfl, rfl⟩
def bal (p : Pr) : Nat := (qoq p.2).1.balance
def sumB (l : List Pr) : Nat := (l.map bal).sum
end
section
attribute [local irreducible] CoW OpW FlW Step Spec
variable {G : Nat -> Option W}
def YBq (t : Tree) (m : Nat) : Prop := m < t.nodes.length \/ ∃ i x, i <= m /\ t.nodes[i]? = some x /\ 100 < x.val.length
instance (t : Tree) (m : Nat) : Decidable (YBq t m) := Classical.propDecidable _
theorem great_s (t : Tree) (m : Nat) (hb : t.nodes.length <= 4611686018427387903) (hm : m <= 4611686018427387903) : PS cfg G 13 [tW t, .int .i64 (m : Int)] (.bool (decide (YBq t m))) := by
 have e : (t.nodes.map nW).length = t.nodes.length := List.length_map _
 refine zYq (fn := Tryz.f13) Y Y Y (Yb rfl) (fun R k0 => ?_)
 refine zhq 13 Y ?_
 refine y0q (α := Nat) (fun i => i <= t.nodes.length /\ ∀ j x, j < i -> t.nodes[j]? = some x -> x.val.length <= 100) (fun i => [(5, .int .i64 (i : Int))]) [(1, _), (2, _), (4, _)] (fun i => t.nodes.length - i) (0) ⟨rfl, rfl, rfl, trivial⟩ (⟨Nat.zero_le _, fun j x h => by omega⟩) ⟨rfl, trivial⟩ (fun i hI => ?_)
 obtain ⟨hI, hJ⟩ := hI
 refine zhq 6 Y ?_
 refine zqq (w' := .int .i64 (t.nodes.length : Int)) Y Y (by rw [<- e]; rfl) ?_
 refine qdq Y Y (fun h1 => ?_) (fun h1 => ?_)
 ·have hi : i < t.nodes.length := by omega
  obtain ⟨x, hx⟩ : ∃ x, t.nodes[i]? = some x := ⟨_, List.getElem?_eq_getElem hi⟩
  have ex := zkq x.val
  refine zbq 3 Y ?_
  refine yYq Y Y ?_
  refine zbq 3 Y ?_
  refine zAq rfl (fun h2 => ?_) (fun h2 => ?_)
  ·refine zeq 9 Y ?_
   refine zaq rfl (zBq (i := i) Y Y Y Y Y Y Y (ynq nW hx)) ?_
   refine zbq 2 Y ?_
   refine zqq (w' := .int .i64 (x.val.length : Int)) Y Y (by rw [<- ex]; rfl) ?_
   refine zbq 3 Y ?_
   refine zAq rfl (fun h3 => ?_) (fun h3 => ?_)
   ·refine zeq 8 Y ?_
    refine yfq (by intro h; cases h) ?_
    refine zDq 2 Y ?_
    exact zgq (.inr rfl) rfl (by rw [decide_eq_true (show YBq t m from .inr ⟨i, x, by omega, hx, by omega⟩)])
   ·refine zeq 5 Y ?_
    refine ziq (i + 1) Y Y (by first | rfl | omega) ⟨by omega, by omega⟩ ?_
    refine yLq 2 Y ?_
    exact yhq (i + 1) (⟨hi, fun j y hj hy => by rcases Nat.lt_succ_iff_lt_or_eq.1 hj with q | rfl; exact hJ j y q hy; have := Option.some.inj (hx.symm.trans hy); subst this; omega⟩) (by omega) ⟨rfl, trivial⟩ ⟨rfl, rfl, rfl, trivial⟩ (by repeat (first | exact trivial | refine ⟨by first | rfl | exact zfq (by first | rfl | (simp; done)), ?_⟩)) (by omega) (by repeat (first | exact zNq | refine zQq (by omega) ?_ | refine zOq (by omega) ?_ | refine zPq (by omega) ?_)) rfl
  ·refine zeq 2 Y ?_
   refine yfq (by intro h; cases h) ?_
   refine zDq 6 Y ?_
   refine zqq (w' := .int .i64 (t.nodes.length : Int)) Y Y (by rw [<- e]; rfl) ?_
   refine zaq Y Y (yYq Y Y ?_)
   refine zbq 4 Y ?_
   exact zgq (.inr rfl) rfl (by rw [decide_eq_true (show YBq t m from .inl (by omega))]; congr 1; exact decide_eq_true (show (m : Int) < (t.nodes.length : Int) by omega))
 ·refine zbq 10 Y ?_
  refine yfq (by intro h; cases h) ?_
  refine zDq 6 Y ?_
  refine zqq (w' := .int .i64 (t.nodes.length : Int)) Y Y (by rw [<- e]; rfl) ?_
  refine zaq Y Y (yYq Y Y ?_)
  refine zbq 4 Y ?_
  refine zgq (.inr rfl) Y ?_
  congr 1
  refine decide_eq_decide.2 ⟨fun q => .inl (show m < t.nodes.length by have q : (m : Int) < (t.nodes.length : Int) := q; omega), ?_⟩
  rintro (q | ⟨j, x, _, hx, hq⟩)
  ·show (m : Int) < (t.nodes.length : Int)
   omega
  ·have := hJ j x (by have := (List.getElem?_eq_some_iff.1 hx).1; omega) hx
   omega
theorem cv_str {C : Cfg} {G : Nat -> Option W} {fr : FrW} {hp : HpW} {nw : Nat} {s t e : TypeId} {x : Operand} {js jt : TyI} {l : List UInt8} {f : Bool} (hs : C.ty s = some js) (ht : C.ty t = some jt) (hx : evW C G fr x = some (.fz (zdq l) 1 f)) (hjs : js.d = .slice e) (hjt : jt.d = .str) (he : Yeq C e = some (.int .u8)) : opHW C G fr hp nw (.convert s t x) = some (.str l, hp, nw, .gen) := by
 simp only [opHW, hConv, hs, ht, hx, hjs, hjt, he, bytesOf_W]
theorem same_s (a b : List UInt8) (f g : Bool) : PS cfg G 57 [.fz (zdq a) 1 f, .fz (zdq b) 1 g] (.bool (decide (a = b))) := by
 refine zYq (fn := Tryz.f57) Y Y Y (Yb rfl) (fun R k0 => ?_)
 refine zhq 8 Y ?_
 refine znq rfl (cv_str Y Y Y Y Y Y) (zaq Y Y (znq rfl (cv_str Y Y Y Y Y Y) (zqq (w' := .bool (decide (a = b))) Y Y (congrArg W.bool (kGq a b)) ?_)))
 refine zbq 4 Y ?_
 exact zgq (.inr rfl) Y Y
end
def rotN (x n : Nat) : Nat := Nat.lor (Nat.shiftLeft x (32 - n) % 4294967296 % 4294967296) (Nat.shiftRight x n % 4294967296)
def addN (a b : Nat) : Nat := (a + b) % 4294967296
def xorN (a b : Nat) : Nat := Nat.xor (a % 4294967296) (b % 4294967296)
def andN (a b : Nat) : Nat := Nat.land (a % 4294967296) (b % 4294967296)
def shrN (a k : Nat) : Nat := Nat.shiftRight a (min k 32)
def shlN (a k : Nat) : Nat := Nat.shiftLeft a (min k 32) % 4294967296
def orN (a b : Nat) : Nat := Nat.lor (a % 4294967296) (b % 4294967296)
def notN (a : Nat) : Nat := Nat.xor (4294967295 % 4294967296) (a % 4294967296)
def wd (x : Nat) : W := .int .u32 (.ofNat x)
theorem jCq (n : Nat) (hn : n = 2 \/ n = 6 \/ n = 7 \/ n = 11 \/ n = 13 \/ n = 17 \/ n = 18 \/ n = 19 \/ n = 22 \/ n = 25) (G : Nat -> Option W) (x : Nat) : qkq cfg G 258 0 [wd x, .int .i64 (.ofNat n)] [] fun w hp nw => w = wd (rotN x n) /\ hp = [] /\ nw = 0 := by
 have key : ∀ h, qDq cfg 20 258 [.int .u32 (.ofNat x), .int .i64 (.ofNat n)] h = some (.int .u32 (.ofNat (rotN x n)), h) := by
  intro h
  rcases hn with rfl | rfl | rfl | rfl | rfl | rfl | rfl | rfl | rfl | rfl <;> kernel_rfl
 refine spec_run key (fun Γ us h => ?_) (fun Γ => RV_int.2 rfl)
 obtain ⟨v, vs, rfl, h1, h2⟩ := RVL_cons.1 h
 obtain ⟨v', vs', rfl, h3, h4⟩ := RVL_cons.1 h2
 rw [RVL_nil.1 h4, RV_int.1 h1, RV_int.1 h3]
end
end Go.Proofs.YtgeelfdgnehdnaaGreatDoor
end

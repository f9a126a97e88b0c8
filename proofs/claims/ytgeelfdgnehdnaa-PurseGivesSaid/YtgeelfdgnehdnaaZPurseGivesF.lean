/-
  What the proof of PurseGives stands on, part 6. No condition.
-/
import Derived.Test.YtgeelfdgnehdnaaZPurseGivesE
namespace Go.Proofs.Ytgeelfdgnehdnaa
set_option linter.unusedSimpArgs false
set_option linter.unusedVariables false
@[irreducible] def bitN (k : Dig) (i : Nat) : Nat := kn k (i / 8) / 2 ^ (7 - i % 8) % 2
theorem qDq (k : Dig) (i : Nat) : bitN k i ≤ 1 := by unfold bitN; omega
theorem xor_le (m n : Nat) (hm : m ≤ 255) (hn : n ≤ 255) : m ^^^ n ≤ 255 := by
  have : m ^^^ n < 2 ^ 8 := Nat.xor_lt_two_pow (by omega) (by omega)
  omega
theorem pow_le (n : Nat) : 2 ^ (7 - n) ≤ 255 := by
  have h : ∀ m, m ≤ 7 → 2 ^ m ≤ 255 := by decide
  exact h _ (by omega)
@[irreducible] def qdq (k : Dig) (i : Nat) : Dig := setD k (i / 8) (UInt8.ofNat (kn k (i / 8) ^^^ 2 ^ (7 - i % 8)))
@[irreducible] def lenM (x : Nat) : Nat := if x = 0 then 0 else Nat.log2 x + 1
theorem lenM_le (x : Nat) (hx : x ≤ 255) : lenM x ≤ 8 := by
  have h : ∀ x, x ≤ 255 → lenM x ≤ 8 := by decide +kernel
  exact h x hx
def dOf (a b : Dig) (i : Nat) : Nat × Nat := (i, kn a i ^^^ kn b i)
@[irreducible] def dTo (a b : Dig) (n : Nat) : List (Nat × Nat) := ((List.range n).map (dOf a b)).filter (fun p => p.2 != 0)
theorem dTo_zero (a b : Dig) : dTo a b 0 = [] := by unfold dTo; rfl
theorem x3q (a b : Dig) (n : Nat) : dTo a b (n + 1) = dTo a b n ++ (if kn a n ^^^ kn b n = 0 then [] else [dOf a b n]) := by
  unfold dTo
  rw [List.range_succ, List.map_append, List.filter_append]
  congr 1
  simp only [List.map_cons, List.map_nil, List.filter_cons, List.filter_nil, dOf]
  split <;> split <;> simp_all
theorem dTo_pre (a b : Dig) (n m : Nat) : dTo a b n <+: dTo a b (n + m) := by
  induction m with
  | zero => exact List.prefix_refl _
  | succ m ih => rw [← Nat.add_assoc, x3q]; exact ih.trans (List.prefix_append _ _)
theorem dTo_get (a b : Dig) (i n : Nat) (hi : i < n) (hx : kn a i ^^^ kn b i ≠ 0) : (dTo a b n)[(dTo a b i).length]? = some (dOf a b i) := by
  obtain ⟨m, rfl⟩ : ∃ m, n = (i + 1) + m := ⟨n - (i + 1), by omega⟩
  obtain ⟨l, hl⟩ := dTo_pre a b (i + 1) m
  rw [← hl, x3q, if_neg hx]
  simp
theorem dTo_mem {a b : Dig} {n : Nat} {x : Nat × Nat} (h : x ∈ dTo a b n) : x.1 < n ∧ x.2 = kn a x.1 ^^^ kn b x.1 ∧ x.2 ≠ 0 := by
  unfold dTo at h
  rw [List.mem_filter, List.mem_map] at h
  obtain ⟨⟨i, hi, rfl⟩, h2⟩ := h
  exact ⟨List.mem_range.1 hi, rfl, by simpa using h2⟩
@[irreducible] def ydq (a b : Dig) : Nat := match dTo a b 32 with
  | [] => 256
  | x :: _ => 8 * x.1 + (8 - lenM x.2)
@[irreducible] def ypq (a b : Dig) : Bool := match dTo a b 32 with
  | [] => false
  | x :: _ => decide (kn a x.1 < kn b x.1)
theorem byte_top : ∀ x, x < 256 → x ≠ 0 → lenM x ≤ 8 ∧ 1 ≤ lenM x ∧ x.testBit (lenM x - 1) = true ∧ ∀ k, k < 8 → lenM x - 1 < k → x.testBit k = false := by decide +kernel
theorem qzq (m k : Nat) : m / 2 ^ k % 2 = (m.testBit k).toNat := by rw [Nat.toNat_testBit]
theorem lt_top {m n L : Nat} (h : ∀ k, L < k → m.testBit k = n.testBit k) (hm : m.testBit L = false) (hn : n.testBit L = true) : m < n := by
  have h1 : m / 2 ^ (L + 1) = n / 2 ^ (L + 1) := by
    apply Nat.eq_of_testBit_eq
    intro i
    rw [Nat.testBit_div_two_pow, Nat.testBit_div_two_pow]
    exact h _ (by omega)
  have e : ∀ x, x / 2 ^ (L + 1) = x / 2 ^ L / 2 := fun x => by rw [Nat.pow_succ, Nat.div_div_eq_div_mul]
  have hm' : m / 2 ^ L % 2 = 0 := by rw [qzq, hm]; rfl
  have hn' : n / 2 ^ L % 2 = 1 := by rw [qzq, hn]; rfl
  rw [e, e] at h1
  have : m / 2 ^ L < n / 2 ^ L := by omega
  exact Nat.lt_of_not_le fun hc => by have := Nat.div_le_div_right (c := 2 ^ L) hc; omega
theorem YPq (m n : Nat) (hm : m ≤ 255) (hn : n ≤ 255) (hx : m ^^^ n ≠ 0) :
    1 ≤ lenM (m ^^^ n) ∧ lenM (m ^^^ n) ≤ 8 ∧ (∀ t, t < 8 - lenM (m ^^^ n) → m / 2 ^ (7 - t) % 2 = n / 2 ^ (7 - t) % 2) ∧
      ¬ m / 2 ^ (lenM (m ^^^ n) - 1) % 2 = n / 2 ^ (lenM (m ^^^ n) - 1) % 2 ∧ (m < n ↔ m / 2 ^ (lenM (m ^^^ n) - 1) % 2 < n / 2 ^ (lenM (m ^^^ n) - 1) % 2) := by
  have hle := xor_le m n hm hn
  obtain ⟨h1, h2, h3, h4⟩ := byte_top (m ^^^ n) (by omega) hx
  have hab : ∀ k, lenM (m ^^^ n) - 1 < k → m.testBit k = n.testBit k := fun k hk => by
    by_cases hk8 : k < 8
    · have := h4 k hk8 hk
      rw [Nat.testBit_xor] at this
      revert this; cases m.testBit k <;> cases n.testBit k <;> simp
    · have e1 : m < 2 ^ k := Nat.lt_of_lt_of_le (show m < 2 ^ 8 by omega) (Nat.pow_le_pow_right (by omega) (by omega))
      have e2 : n < 2 ^ k := Nat.lt_of_lt_of_le (show n < 2 ^ 8 by omega) (Nat.pow_le_pow_right (by omega) (by omega))
      rw [Nat.testBit_lt_two_pow e1, Nat.testBit_lt_two_pow e2]
  rw [Nat.testBit_xor] at h3
  refine ⟨h2, h1, fun t ht => ?_, ?_, ?_⟩
  · rw [qzq, qzq, hab _ (by omega)]
  · rw [qzq, qzq]
    revert h3; cases m.testBit (lenM (m ^^^ n) - 1) <;> cases n.testBit (lenM (m ^^^ n) - 1) <;> simp
  · rw [qzq, qzq]
    cases hmb : m.testBit (lenM (m ^^^ n) - 1) <;> cases hnb : n.testBit (lenM (m ^^^ n) - 1) <;> simp only [hmb, hnb] at h3
    · simp at h3
    · have := lt_top hab hmb hnb
      simp [this]
    · have := lt_top (fun k hk => (hab k hk).symm) hnb hmb
      simp; omega
    · simp at h3
theorem xor_zero {m n : Nat} : m ^^^ n = 0 ↔ m = n := by
  constructor
  · intro h
    apply Nat.eq_of_testBit_eq
    intro i
    have : (m ^^^ n).testBit i = false := by rw [h]; simp
    rw [Nat.testBit_xor] at this
    revert this; cases m.testBit i <;> cases n.testBit i <;> simp
  · rintro rfl; exact Nat.xor_self m
theorem dTo_nil {a b : Dig} {n : Nat} (h : dTo a b n = []) : ∀ i, i < n → kn a i = kn b i := fun i hi => by
  rcases Classical.em (kn a i ^^^ kn b i = 0) with hx | hx
  · exact xor_zero.1 hx
  · have := dTo_get a b i n hi hx
    rw [h] at this; simp at this
theorem x4q {a b : Dig} {x : Nat × Nat} {l : List (Nat × Nat)} : ∀ {n : Nat}, dTo a b n = x :: l → x.1 < n ∧ x.2 = kn a x.1 ^^^ kn b x.1 ∧ x.2 ≠ 0 ∧ ∀ i, i < x.1 → kn a i = kn b i := by
  intro n h
  obtain ⟨h1, h2, h3⟩ := dTo_mem (a := a) (b := b) (n := n) (x := x) (by rw [h]; simp)
  refine ⟨h1, h2, h3, ?_⟩
  revert l
  induction n with
  | zero => omega
  | succ n ih =>
    intro l h
    rw [x3q] at h
    cases hd : dTo a b n with
    | nil =>
      have := dTo_nil hd
      intro i hi
      exact this i (by omega)
    | cons y r =>
      rw [hd] at h
      have hy : y = x := by simpa using congrArg List.head? h
      subst hy
      have hm := (dTo_mem (a := a) (b := b) (n := n) (x := y) (by rw [hd]; simp)).1
      exact ih hm hd
def Y0q (a b : Dig) (s : Nat) : Prop := (∀ j, j < s → bitN a j = bitN b j) ∧ (s = 256 ∨ (s < 256 ∧ ¬ bitN a s = bitN b s))
theorem jsq (a b : Dig) : Y0q a b (ydq a b) := by
  unfold ydq
  cases hd : dTo a b 32 with
  | nil =>
    have h := dTo_nil hd
    exact ⟨fun j hj => by simp only at hj; unfold bitN; rw [h (j / 8) (by omega)], .inl rfl⟩
  | cons x l =>
    obtain ⟨h1, h2, h3, h4⟩ := x4q hd
    simp only
    have hb := YPq (kn a x.1) (kn b x.1) (xpq _ _) (xpq _ _) (by rw [← h2]; exact h3)
    rw [← h2] at hb
    obtain ⟨b1, b2, b3, b4, -⟩ := hb
    refine ⟨fun j hj => ?_, .inr ⟨by omega, ?_⟩⟩
    · unfold bitN
      by_cases hjx : j / 8 < x.1
      · rw [h4 _ hjx]
      · have e : j / 8 = x.1 := by omega
        rw [e]
        exact b3 (j % 8) (by omega)
    · unfold bitN
      rw [show (8 * x.1 + (8 - lenM x.2)) / 8 = x.1 by omega, show 7 - (8 * x.1 + (8 - lenM x.2)) % 8 = lenM x.2 - 1 by omega]
      exact b4
theorem xeq {a b : Dig} {s t : Nat} (hs : Y0q a b s) (ht : Y0q a b t) : s = t := by
  obtain ⟨s1, s2⟩ := hs
  obtain ⟨t1, t2⟩ := ht
  rcases Nat.lt_trichotomy s t with h | h | h
  · have := t1 s h
    rcases s2 with s2 | ⟨_, s2⟩
    · omega
    · exact absurd this s2
  · exact h
  · have := s1 t h
    rcases t2 with t2 | ⟨_, t2⟩
    · omega
    · exact absurd this t2
theorem YTq (a b : Dig) : ypq a b = decide (ydq a b < 256 ∧ bitN a (ydq a b) < bitN b (ydq a b)) := by
  unfold ypq ydq
  cases hd : dTo a b 32 with
  | nil => simp
  | cons x l =>
    obtain ⟨h1, h2, h3, h4⟩ := x4q hd
    simp only
    have hb := YPq (kn a x.1) (kn b x.1) (xpq _ _) (xpq _ _) (by rw [← h2]; exact h3)
    rw [← h2] at hb
    obtain ⟨b1, b2, b3, b4, b5⟩ := hb
    refine decide_eq_decide.2 ?_
    unfold bitN
    rw [show (8 * x.1 + (8 - lenM x.2)) / 8 = x.1 by omega, show 7 - (8 * x.1 + (8 - lenM x.2)) % 8 = lenM x.2 - 1 by omega, b5]
    constructor
    · exact fun h => ⟨by omega, h⟩
    · exact fun h => h.2
theorem shared_le (a b : Dig) : ydq a b ≤ 256 := by
  rcases (jsq a b).2 with h | h <;> omega
theorem ofNat_u8 (n : Nat) (h : n ≤ 255) : (UInt8.ofNat n).toNat = n := by simp; omega
theorem kn_turn (k : Dig) (i j : Nat) (hj : j < 32) (hi : i < 256) : kn (qdq k i) j = if j = i / 8 then kn k j ^^^ 2 ^ (7 - i % 8) else kn k j := by
  unfold qdq
  rw [kn_set _ _ _ _ hj]
  by_cases h : i / 8 = j
  · rw [if_pos h, if_pos h.symm, h, ofNat_u8]
    exact xor_le _ _ (xpq _ _) (pow_le _)
  · rw [if_neg h, if_neg (fun e => h e.symm)]
theorem Zbq (k : Dig) (i j : Nat) (hi : i < 256) (hj : j < 256) (h : ¬ j = i) : bitN (qdq k i) j = bitN k j := by
  unfold bitN
  rw [kn_turn _ _ _ (by omega) hi]
  by_cases h8 : j / 8 = i / 8
  · rw [if_pos h8, qzq, qzq, Nat.testBit_xor, Nat.testBit_two_pow_of_ne (by omega)]
    simp
  · rw [if_neg h8]
theorem Zcq (k : Dig) (i : Nat) (hi : i < 256) : bitN (qdq k i) i = 1 - bitN k i := by
  unfold bitN
  rw [kn_turn _ _ _ (by omega) hi, if_pos rfl, qzq, qzq, Nat.testBit_xor, Nat.testBit_two_pow_self]
  cases (kn k (i / 8)).testBit (7 - i % 8) <;> rfl
theorem shared_eq {a b : Dig} : ydq a b = 256 ↔ a = b := by
  constructor
  · intro h
    cases hd : dTo a b 32 with
    | nil => exact dig_ext (dTo_nil hd)
    | cons x l =>
      exfalso
      obtain ⟨h1, h2, h3, h4⟩ := x4q hd
      have hb := YPq (kn a x.1) (kn b x.1) (xpq _ _) (xpq _ _) (by rw [← h2]; exact h3)
      rw [← h2] at hb
      unfold ydq at h
      rw [hd] at h
      simp only at h
      omega
  · rintro rfl
    rcases (jsq a a).2 with h | ⟨_, h⟩
    · exact h
    · exact absurd rfl h
theorem yBq {a b : Dig} {d : Nat} (hd : d ≤ 256) : d ≤ ydq a b ↔ ∀ j, j < d → bitN a j = bitN b j := by
  obtain ⟨h1, h2⟩ := jsq a b
  constructor
  · exact fun h j hj => h1 j (by omega)
  · intro h
    rcases h2 with h2 | ⟨h2, h3⟩
    · omega
    · exact Nat.le_of_not_lt fun hlt => h3 (h _ hlt)
theorem veq {a b : Dig} (h : ∀ j, j < 256 → bitN a j = bitN b j) : a = b := by
  have := (yBq (a := a) (b := b) (d := 256) (Nat.le_refl _)).2 h
  have := shared_le a b
  exact shared_eq.1 (by omega)
theorem ahead_iff {a b : Dig} : ypq a b = true ↔ ∃ s, s < 256 ∧ (∀ j, j < s → bitN a j = bitN b j) ∧ bitN a s = 0 ∧ bitN b s = 1 := by
  rw [YTq]
  have hs := jsq a b
  constructor
  · intro h
    have h := of_decide_eq_true h
    refine ⟨ydq a b, h.1, hs.1, ?_, ?_⟩ <;> (have := qDq b (ydq a b); omega)
  · rintro ⟨s, h1, h2, h3, h4⟩
    have : ydq a b = s := xeq hs ⟨h2, .inr ⟨h1, by omega⟩⟩
    rw [this]
    exact decide_eq_true ⟨h1, by omega⟩
theorem k5q {a b : Dig} (h : ypq a b = true) : a ≠ b := by
  rintro rfl
  obtain ⟨s, _, _, h3, h4⟩ := ahead_iff.1 h
  omega
theorem j1q (a : Dig) : ypq a a = false := by
  cases h : ypq a a with
  | false => rfl
  | true => exact absurd rfl (k5q h)
theorem xDq {a b c : Dig} (h1 : ypq a b = true) (h2 : ypq b c = true) : ypq a c = true := by
  obtain ⟨s, a1, a2, a3, a4⟩ := ahead_iff.1 h1
  obtain ⟨t, b1, b2, b3, b4⟩ := ahead_iff.1 h2
  refine ahead_iff.2 ?_
  rcases Nat.lt_trichotomy s t with h | h | h
  · exact ⟨s, a1, fun j hj => (a2 j hj).trans (b2 j (by omega)), a3, by rw [← b2 s h]; exact a4⟩
  · subst h; omega
  · exact ⟨t, b1, fun j hj => (a2 j (by omega)).trans (b2 j hj), by rw [a2 t h]; exact b3, b4⟩
theorem qEq {a b : Dig} (h : ypq a b = true) : ypq b a = false := by
  cases hb : ypq b a with
  | false => rfl
  | true => have := xDq h hb; rw [j1q] at this; cases this
theorem Zgq {a b : Dig} (h : a ≠ b) : ypq a b = true ∨ ypq b a = true := by
  have hs := jsq a b
  have h256 : ydq a b ≠ 256 := fun e => h (shared_eq.1 e)
  rcases hs.2 with h2 | ⟨h1, h2⟩
  · exact absurd h2 h256
  · have x1 := qDq a (ydq a b)
    have x2 := qDq b (ydq a b)
    rcases Nat.eq_zero_or_pos (bitN a (ydq a b)) with h3 | h3
    · exact .inl (ahead_iff.2 ⟨_, h1, hs.1, h3, by omega⟩)
    · exact .inr (ahead_iff.2 ⟨_, h1, fun j hj => (hs.1 j hj).symm, by omega, by omega⟩)
end Go.Proofs.Ytgeelfdgnehdnaa
namespace Go.Proofs.Ytgeelfdgnehdnaa
open Go.RowKit
set_option linter.unusedSimpArgs false
set_option linter.unusedVariables false
attribute [local irreducible] CoW OpW FlW Step Spec
variable {G : Nat → Option W}
theorem j5q (a b : Nat) : ((a : Int)).tdiv (b : Int) = ((a / b : Nat) : Int) := by rw [Int.tdiv_eq_ediv_of_nonneg (by omega)]; rfl
theorem kVq (a b : Nat) : ((a : Int)).tmod (b : Int) = ((a % b : Nat) : Int) := by rw [Int.tmod_eq_emod_of_nonneg (by omega)]; rfl
theorem dW_ld (k : Dig) {i : Nat} (h : i < 32) : yDq 50 (dW k) (0 + i * 1) 1 false = some (.int .u8 (kn k i : Nat)) := by rw [Nat.zero_add]; exact dW_get k h
theorem bit_and (x n : Nat) (hn : n ≤ 7) (hx : x ≤ 255) : Nat.land (Nat.shiftRight x (min n 8) % 256) (1 % 256) = x / 2 ^ n % 2 := by
  have h1 : Nat.shiftRight x (min n 8) = x / 2 ^ n := by rw [show min n 8 = n by omega]; exact Nat.shiftRight_eq_div_pow x n
  have h2 := Nat.div_le_self x (2 ^ n)
  rw [h1, Nat.mod_eq_of_lt (by omega)]
  exact Nat.and_one_is_mod _
theorem bit_in (k : Dig) (i : Nat) (h : i < 256) : PS cfg G 80 [dW k, .int .i64 (i : Int)] (.tup [.int .u8 (bitN k i : Nat), .int .i64 0]) := by
  have hk := xpq k (i / 8)
  refine ynq (fn := Try.f80) rfl rfl rfl (Nat.le_of_ble_eq_true rfl) (fun R k0 => ?_)
  refine zcq (zbq (zeq rfl rfl (zaq rfl rfl (zaq rfl rfl (zdq ?_)))))
  refine zfq (zcq (zcq (zbq (zaq rfl rfl ?_))))
  refine y3q rfl rfl (fun h1 => ?_) (fun h1 => ?_)
  · exfalso; omega
  refine zaq rfl rfl (zaq rfl rfl (zCq rfl rfl ?_))
  refine zaq rfl rfl (zdq ?_)
  refine zfq ?_
  refine zEq rfl (fun h2 => ?_) (fun h2 => ?_)
  · exfalso; omega
  refine ziq (zfq (zcq (zbq (zaq rfl rfl (zyq (i / 8) rfl rfl (j5q i 8) ⟨by omega, by omega⟩ ?_)))))
  refine zaq rfl (z0q (i := i / 8) rfl rfl rfl rfl rfl rfl (by omega)) ?_
  refine zeq rfl (yYq rfl rfl rfl (dW_ld k (by omega))) ?_
  refine zaq rfl rfl (zNq rfl rfl (congrArg (W.int .i64) (kVq i 8)) (zyq (7 - i % 8) rfl rfl (by first | rfl | omega) ⟨by omega, by omega⟩ ?_))
  refine zaq rfl rfl (zaq rfl rfl (zaq rfl rfl (zaq rfl rfl (zdq ?_))))
  refine zfq (zjq ?_)
  refine znq (.inr rfl) rfl ?_
  show W.tup [.int .u8 (Nat.land (Nat.shiftRight (kn k (i / 8)) (min (7 - i % 8) 8) % 256) (1 % 256) : Nat), _] = _
  rw [bit_and _ _ (by omega) hk]
  unfold bitN
  rfl
theorem len_tabW (s : List UInt8) (h : (List.range 256).all (fun x => s[x]? == some (UInt8.ofNat (lenM x))) = true) (x : Nat) (hx : x ≤ 255) : s[x]? = some (UInt8.ofNat (lenM x)) := by
  have := List.all_eq_true.1 h x (List.mem_range.2 (by omega))
  simpa using this
theorem len8_s (x : Nat) (hx : x ≤ 255) : PS cfg G 93 [.int .u8 (x : Int)] (.int .i64 (lenM x : Nat)) := by
  have hl := lenM_le x hx
  have e : ((UInt8.ofNat (lenM x)).toNat : Int) = (lenM x : Nat) := by congr 1; simp; omega
  refine ynq (fn := Try.f93) rfl rfl rfl (Nat.le_of_ble_eq_true rfl) (fun R k0 => ?_)
  refine zcq (zbq (zaq rfl rfl (zdq ?_)))
  refine zfq (zcq (zbq (zaq rfl rfl (zaq rfl (ix_str rfl rfl rfl rfl rfl (len_tabW _ (by decide +kernel) x hx)) ?_))))
  refine zyq (lenM x) rfl rfl e ⟨by omega, by omega⟩ ?_
  refine zaq rfl rfl (zdq ?_)
  refine zfq (zjq ?_)
  exact znq (.inr rfl) rfl rfl
theorem lz8_s (x : Nat) (hx : x ≤ 255) : PS cfg G 91 [.int .u8 (x : Int)] (.int .i64 (8 - lenM x : Nat)) := by
  have hl := lenM_le x hx
  refine ynq (fn := Try.f91) rfl rfl rfl (Nat.le_of_ble_eq_true rfl) (fun R k0 => ?_)
  refine zcq (zbq (zaq rfl rfl (zdq ?_)))
  refine zfq (zcq (zbq (zaq rfl rfl (ztq rfl rfl rfl rfl rfl rfl (len8_s _ (by omega)) ?_))))
  refine zyq (8 - lenM x) rfl rfl (by first | rfl | omega) ⟨by omega, by omega⟩ ?_
  refine zaq rfl rfl (zdq ?_)
  refine zfq (zjq ?_)
  exact znq (.inr rfl) rfl rfl
noncomputable def encP (x : Nat × Nat) : List W := [.int .i64 (x.1 : Int), .int .u8 (x.2 : Int)]
theorem dTo_more (a b : Dig) {i : Nat} (h : i < 32) (hx : kn a i ^^^ kn b i ≠ 0) : (dTo a b 32).drop (dTo a b i).length = dOf a b i :: (dTo a b 32).drop (dTo a b (i + 1)).length := by
  have h1 := dTo_get a b i 32 h hx
  obtain ⟨hl, h2⟩ := List.getElem?_eq_some_iff.1 h1
  have hs := x3q a b i
  rw [if_neg hx] at hs
  rw [List.drop_eq_getElem_cons hl, h2, hs]
  simp
theorem dTo_same (a b : Dig) {i : Nat} (hx : kn a i ^^^ kn b i = 0) : dTo a b (i + 1) = dTo a b i := by rw [x3q, if_pos hx, List.append_nil]
theorem xor8 (x y : Nat) (hx : x ≤ 255) (hy : y ≤ 255) : Nat.xor (x % 256) (y % 256) = x ^^^ y := by rw [Nat.mod_eq_of_lt (by omega), Nat.mod_eq_of_lt (by omega)]; rfl
theorem apart_s (a b : Dig) : PS cfg G 90 [dW a, dW b] (.fn 92 [] [.fel (dW a), .fel (dW b)]) := by
  refine ynq (fn := Try.f90) rfl rfl rfl (Nat.le_of_ble_eq_true rfl) (fun R k0 => ?_)
  refine zcq (zbq (zeq rfl rfl (zeq rfl rfl (zaq rfl rfl (zdq ?_)))))
  refine zfq (zcq (zbq (zaq rfl rfl (zaq rfl rfl (zdq ?_)))))
  refine zfq (zjq ?_)
  refine kOq (fr2 := [(4, _)]) (by first | exact .inr rfl | exact .inl rfl) ?_ rfl rfl
  (repeat (first | exact trivial | refine And.symm ⟨?_, _, rfl, ?_⟩)) <;> (repeat (first | exact .nil | refine .cons ?_ ?_ | refine .fn ?_ ?_ | (refine qlq rfl ?_ rfl; (first | rfl | (focus (simp; done)))) | (refine .sl rfl ?_ rfl (by intro h; cases h); (first | rfl | (focus (simp; done)))) | (refine .pur ?_; (first | rfl | (focus (simp; done)))) | refine .agg ?_ | refine .arr ?_ | refine .tup ?_))
theorem apart_it (a b : Dig) : qRq cfg G 92 [.fel (dW a), .fel (dW b)] ((dTo a b 32).map encP) := by
  refine urq (fn := Try.f92) rfl rfl rfl (Nat.le_of_ble_eq_true rfl) (fun L E R hy k0 => ?_)
  refine co_scope 3 ?_
  refine zcq (co_label (zfq (zcq (zbq (zaq rfl rfl (zdq ?_))))))
  refine zfq (zmq ?_)
  refine co_loopR (α := Nat × Res) (fun p => p.1 ≤ 32 ∧ Yl cfg G L E (((dTo a b 32).drop (dTo a b p.1).length).map encP) p.2) (fun p => [(6, .int .i64 (p.1 : Int))]) [(0, _), (1, _), (2, _)] (fun p => []) (fun p => p.2) (fun p => 32 - p.1) ((0, R)) ⟨rfl, rfl, rfl, trivial⟩ (⟨Nat.zero_le _, by rw [dTo_zero]; exact hy⟩) ⟨rfl, trivial⟩ rfl rfl (fun p hI => ?_)
  obtain ⟨i, R⟩ := p
  obtain ⟨hi, hy⟩ := hI
  simp only at hi hy
  have ha := xpq a i
  have hb := xpq b i
  refine zcq (zbq (zCq rfl rfl ?_))
  refine zdq ?_
  refine zfq (zcq ?_)
  refine zEq rfl (fun h1 => ?_) (fun h1 => ?_)
  · have hi' : i < 32 := by omega
    refine ziq (zfq (zcq (zmq (zcq (zbq (zaq rfl rfl (zaq rfl rfl (zdq ?_))))))))
    refine zfq (zcq (zZq (zhq rfl rfl (zhq rfl (ix_fel rfl rfl rfl rfl rfl rfl (by omega) rfl (dW_get a hi')) ?_))))
    refine zDq rfl rfl ?_
    refine zhq rfl rfl (zhq rfl (ix_fel rfl rfl rfl rfl rfl rfl (by omega) rfl (dW_get b hi')) ?_)
    refine zDq rfl rfl ?_
    refine fl_val (w' := .int .u8 ((kn a i ^^^ kn b i : Nat) : Int)) rfl rfl (congrArg (fun n : Nat => W.int .u8 (n : Int)) (xor8 _ _ ha hb)) (zhq rfl rfl (z6q ?_))
    refine zfq (zcq (zbq (zaq rfl rfl ?_)))
    refine y3q rfl rfl (fun h2 => ?_) (fun h2 => ?_)
    · have hx : kn a i ^^^ kn b i ≠ 0 := by omega
      rw [dTo_more a b hi' hx, List.map_cons] at hy
      refine zaq rfl rfl (zaq rfl rfl (zaq rfl rfl (zaq rfl rfl ?_)))
      refine zYq rfl (jqq rfl rfl rfl (hy) (fun b R1 hb => ?_))
      refine zaq rfl rfl (zaq rfl rfl (zdq ?_))
      refine zfq ?_
      refine zEq rfl (fun h3 => ?_) (fun h3 => ?_)
      · cases b with
        | true => cases h3
        | false =>
          refine ytq ?_
          refine q_blkx rfl (zlq (by intro h; cases h) ?_)
          refine q_out (by intro h; cases h) ?_
          refine qoq ?_
          refine q_scope (by intro l h; cases h) ?_
          exact xbq (.inl rfl) rfl hb
      · cases b with
        | false => exact absurd rfl h3
        | true =>
          refine ziq (zrq (by intro i h; cases h) ?_)
          refine zfq (zbq (zyq (i + 1) rfl rfl (by first | rfl | omega) ⟨by omega, by omega⟩ ?_))
          refine zaq rfl rfl (zdq ?_)
          exact q_againR ((i + 1, R1)) (⟨hi', hb⟩) (by simp only; omega) (Nat.zero_le _) ⟨rfl, trivial⟩ ⟨rfl, rfl, rfl, trivial⟩ (by repeat (first | exact trivial | refine ⟨by first | rfl | exact zwq (by first | rfl | (simp; done)), ?_⟩)) (by repeat (first | exact trivial | refine ⟨by first | rfl | exact zwq (by first | rfl | (simp; done)), ?_⟩)) (by omega) (by repeat (first | exact trivial | refine ⟨⟨by decide, rfl, by first | rfl | exact zwq (by first | rfl | (simp; done))⟩, ?_⟩)) (by first | decide | simp) rfl
    · have hx : kn a i ^^^ kn b i = 0 := by omega
      rw [← dTo_same a b hx] at hy
      refine zaq rfl rfl (zgq rfl (zgq rfl (zgq rfl (zgq rfl (zgq rfl (zaq rfl rfl (zdq ?_)))))))
      refine zfq (zAq rfl (ziq (zrq (by intro i h; cases h) ?_)))
      refine zfq (zbq (zyq (i + 1) rfl rfl (by first | rfl | omega) ⟨by omega, by omega⟩ ?_))
      refine zaq rfl rfl (zdq ?_)
      exact q_againR ((i + 1, R)) (⟨hi', hy⟩) (by simp only; omega) (Nat.zero_le _) ⟨rfl, trivial⟩ ⟨rfl, rfl, rfl, trivial⟩ (by repeat (first | exact trivial | refine ⟨by first | rfl | exact zwq (by first | rfl | (simp; done)), ?_⟩)) (by repeat (first | exact trivial | refine ⟨by first | rfl | exact zwq (by first | rfl | (simp; done)), ?_⟩)) (by omega) (by repeat (first | exact trivial | refine ⟨⟨by decide, rfl, by first | rfl | exact zwq (by first | rfl | (simp; done))⟩, ?_⟩)) (by first | decide | simp) rfl
  · refine ytq ?_
    refine zlq (by intro h; cases h) ?_
    refine q_out (by intro h; cases h) ?_
    refine qoq ?_
    refine q_scope (by intro l h; cases h) ?_
    have : i = 32 := by omega
    subst this
    rw [List.drop_length] at hy
    exact xbq (.inl rfl) rfl hy
theorem encP_ok {l : List (Nat × Nat)} : ∀ y ∈ l, purL (encP y) = true ∧ (encP y).length = 2 := fun y _ => ⟨rfl, rfl⟩
theorem head_of {α : Type} {l : List α} {x : α} {i : Nat} (h : l[i]? = some x) (hi : i = 0) : ∃ r, l = x :: r := by
  subst hi
  cases l with
  | nil => simp at h
  | cons y r => simp at h; subst h; exact ⟨r, rfl⟩
theorem shared_s (a b : Dig) : PS cfg G 78 [dW a, dW b] (.int .i64 (ydq a b : Nat)) := by
  refine ynq (fn := Try.f78) rfl rfl rfl (Nat.le_of_ble_eq_true rfl) (fun R k0 => ?_)
  refine zcq (zbq (zeq rfl rfl (zeq rfl rfl (zeq rfl rfl (zdq ?_)))))
  refine zfq (zcq (zcq (zbq (zeq rfl rfl (zeq rfl rfl (ztq rfl rfl rfl rfl rfl rfl (apart_s _ _) ?_))))))
  refine zdq ?_
  refine zfq (zmq ?_)
  refine v3q (encP) (dTo a b 32) (fun i => i = 0) rfl (by first | rfl | assumption | (simp; done)) (apart_it a b) (encP_ok) (rfl) (fun i y hy hI => ?_) (fun hI => ?_)
  · obtain ⟨r, hr⟩ := head_of hy hI
    obtain ⟨h1, h2, h3, h4⟩ := x4q hr
    have hb := xor_le _ _ (xpq a y.1) (xpq b y.1)
    rw [← h2] at hb
    have hl := lenM_le y.2 hb
    refine zcq (zbq (zaq rfl rfl (zdq ?_)))
    refine zfq (zbq (zaq rfl rfl (zdq ?_)))
    refine q_asg (zmq (zcq (zbq (zaq rfl rfl (zyq (8 * y.1) rfl rfl (by first | rfl | omega) ⟨by omega, by omega⟩ ?_)))))
    refine zaq rfl rfl (ztq rfl rfl rfl rfl rfl rfl (lz8_s _ (by omega)) ?_)
    refine zyq (8 * y.1 + (8 - lenM y.2)) rfl rfl (by first | rfl | omega) ⟨by omega, by omega⟩ ?_
    refine zeq rfl rfl (zdq ?_)
    refine zfq (zjq ?_)
    refine zrq (by intro i h; cases h) ?_
    refine q_leave (by intro h; cases h) ?_
    refine zrq (by intro i h; cases h) ?_
    refine zlq (by intro h; cases h) ?_
    refine znq (.inr rfl) rfl ?_
    unfold ydq
    rw [hr]
  · have : dTo a b 32 = [] := List.eq_nil_of_length_eq_zero hI
    refine zrq (by intro i h; cases h) ?_
    refine zfq (zcq (zbq (zeq rfl rfl (zdq ?_))))
    refine zfq (zjq ?_)
    refine znq (.inr rfl) rfl ?_
    unfold ydq
    rw [this]
    rfl
theorem ahead_s (a b : Dig) : PS cfg G 87 [dW a, dW b] (.bool (ypq a b)) := by
  refine ynq (fn := Try.f87) rfl rfl rfl (Nat.le_of_ble_eq_true rfl) (fun R k0 => ?_)
  refine zcq (zbq (zeq rfl rfl (zeq rfl rfl (zeq rfl rfl (zdq ?_)))))
  refine zfq (zcq (zcq (zbq (zeq rfl rfl (zeq rfl rfl (ztq rfl rfl rfl rfl rfl rfl (apart_s _ _) ?_))))))
  refine zdq ?_
  refine zfq (zmq ?_)
  refine v3q (encP) (dTo a b 32) (fun i => i = 0) rfl (by first | rfl | assumption | (simp; done)) (apart_it a b) (encP_ok) (rfl) (fun i y hy hI => ?_) (fun hI => ?_)
  · obtain ⟨r, hr⟩ := head_of hy hI
    obtain ⟨h1, h2, h3, h4⟩ := x4q hr
    refine zbq (zaq rfl rfl (zdq ?_))
    refine q_asg (zmq (zcq (zZq (zhq rfl rfl (zhq rfl (z0q (i := y.1) rfl rfl rfl rfl rfl rfl h1) ?_)))))
    refine jiq rfl (yYq rfl rfl rfl (dW_ld a h1)) (by first | rfl | kernel_rfl) ?_
    refine zhq rfl rfl (zhq rfl (z0q (i := y.1) rfl rfl rfl rfl rfl rfl h1) ?_)
    refine jiq rfl (yYq rfl rfl rfl (dW_ld b h1)) (by first | rfl | kernel_rfl) ?_
    refine fl_cz rfl rfl ?_
    refine zDq rfl rfl ?_
    refine z6q ?_
    refine zfq (zjq ?_)
    refine zrq (by intro i h; cases h) ?_
    refine q_leave (by intro h; cases h) ?_
    refine zrq (by intro i h; cases h) ?_
    refine zlq (by intro h; cases h) ?_
    refine znq (.inr rfl) rfl ?_
    unfold ypq
    rw [hr]
    congr 1
    simp
  · have : dTo a b 32 = [] := List.eq_nil_of_length_eq_zero hI
    refine zrq (by intro i h; cases h) ?_
    refine zfq (zcq (zbq (zeq rfl rfl (zdq ?_))))
    refine zfq (zjq ?_)
    refine znq (.inr rfl) rfl ?_
    unfold ypq
    rw [this]
theorem shr8 (n : Nat) (hn : n ≤ 7) : Nat.shiftRight 128 (min n 8) = 2 ^ (7 - n) := by
  have h : ∀ n, n ≤ 7 → Nat.shiftRight 128 (min n 8) = 2 ^ (7 - n) := by decide +kernel
  exact h n hn
theorem turn_in (k : Dig) (i : Nat) (h : i < 256) : PS cfg G 79 [dW k, .int .i64 (i : Int)] (.tup [dW (qdq k i), .int .i64 0]) := by
  have hk := xpq k (i / 8)
  have hp := pow_le (i % 8)
  have hx := xor_le _ _ hk hp
  have e1 : Nat.xor (kn k (i / 8) % 256) (Nat.shiftRight 128 (min (i % 8) 8) % 256) = kn k (i / 8) ^^^ 2 ^ (7 - i % 8) := by
    rw [shr8 _ (by omega)]; exact xor8 _ _ hk hp
  refine ynq (fn := Try.f79) rfl rfl rfl (Nat.le_of_ble_eq_true rfl) (fun R k0 => ?_)
  refine zcq (zbq (zeq rfl rfl (zeq rfl rfl (zaq rfl rfl (zdq ?_)))))
  refine zfq (zcq (zcq (zbq (zaq rfl rfl ?_))))
  refine y3q rfl rfl (fun h1 => ?_) (fun h1 => ?_)
  · exfalso; omega
  refine zaq rfl rfl (zaq rfl rfl (zCq rfl rfl ?_))
  refine zaq rfl rfl (zdq ?_)
  refine zfq ?_
  refine zEq rfl (fun h2 => ?_) (fun h2 => ?_)
  · exfalso; omega
  refine ziq (zfq (zcq (zZq (zhq rfl rfl (jEq (i / 8) rfl rfl (j5q i 8) ⟨by omega, by omega⟩ ?_)))))
  refine zhq rfl (z0q (i := i / 8) rfl rfl rfl rfl rfl rfl (by omega)) ?_
  refine jiq rfl (yYq rfl rfl rfl (dW_ld k (by omega))) (by first | rfl | kernel_rfl) ?_
  refine zhq rfl rfl (fl_val rfl rfl (congrArg (W.int .i64) (kVq i 8)) (zhq rfl rfl (fl_val (w' := .int .u8 ((kn k (i / 8) ^^^ 2 ^ (7 - i % 8) : Nat) : Int)) rfl rfl (congrArg (fun n : Nat => W.int .u8 (n : Int)) e1) (zhq rfl (z0q (i := i / 8) rfl rfl rfl rfl rfl rfl (by omega)) ?_))))
  refine jiq rfl (uIq rfl rfl rfl rfl rfl (kXq (i := 0 + i / 8 * 1) (by rw [Nat.zero_add, Nat.mul_one]; exact dW_at k (by omega)) rfl rfl) rfl) (by first | rfl | kernel_rfl) ?_
  refine z6q ?_
  refine zfq (zcq (zbq (zeq rfl rfl (zeq rfl rfl (zaq rfl rfl (zdq ?_))))))
  refine zfq (zjq ?_)
  refine znq (.inr rfl) rfl ?_
  rw [Nat.zero_add, Nat.mul_one, dW_set k (i / 8) (by omega)]
  unfold qdq
  rfl
end Go.Proofs.Ytgeelfdgnehdnaa
namespace Go.Proofs.Ytgeelfdgnehdnaa
set_option linter.unusedSimpArgs false
set_option linter.unusedVariables false
def beB : Nat → Nat → List UInt8
  | 0, _ => []
  | s + 1, n => UInt8.ofNat (n / 256 ^ s % 256) :: beB s n
def numB (l : List UInt8) : Nat := l.foldl (fun a c => 256 * a + c.toNat) 0
@[simp] theorem uCq : ∀ s n, (beB s n).length = s
  | 0, _ => rfl
  | s + 1, n => by simp [beB, uCq s n]
theorem numB_snoc (l : List UInt8) (c : UInt8) : numB (l ++ [c]) = 256 * numB l + c.toNat := by simp [numB, List.foldl_append]
theorem Ywq : ∀ (l : List UInt8) (a : Nat), l.foldl (fun a c => 256 * a + c.toNat) a = a * 256 ^ l.length + numB l
  | [], a => by simp [numB]
  | c :: l, a => by
    simp only [List.foldl_cons, numB, List.length_cons]
    rw [Ywq l, Ywq l (256 * 0 + c.toNat), Nat.pow_succ]
    simp only [Nat.add_mul, Nat.mul_zero, Nat.zero_add, Nat.add_assoc]
    congr 1
    rw [Nat.mul_comm 256 a, Nat.mul_assoc, Nat.mul_comm 256]
theorem numB_cons (c : UInt8) (l : List UInt8) : numB (c :: l) = c.toNat * 256 ^ l.length + numB l := by
  show (c :: l).foldl _ 0 = _
  rw [List.foldl_cons, Ywq]; simp
theorem vEq : ∀ l : List UInt8, numB l < 256 ^ l.length
  | [] => by simp [numB]
  | c :: l => by
    rw [numB_cons, List.length_cons, Nat.pow_succ]
    have := vEq l
    have hc := c.toNat_lt
    have : c.toNat * 256 ^ l.length ≤ 255 * 256 ^ l.length := Nat.mul_le_mul_right _ (by omega)
    omega
theorem numB_be : ∀ s n, numB (beB s n) = n % 256 ^ s
  | 0, n => by simp [beB, numB, Nat.mod_one]
  | s + 1, n => by
    rw [beB, numB_cons, uCq, numB_be s n]
    have h1 : (UInt8.ofNat (n / 256 ^ s % 256)).toNat = n / 256 ^ s % 256 := by simp
    rw [h1, Nat.pow_succ, Nat.mod_mul, Nat.mul_comm (n / 256 ^ s % 256)]
    omega
end Go.Proofs.Ytgeelfdgnehdnaa
namespace Go.Proofs.Ytgeelfdgnehdnaa
open Go.RowKit
set_option linter.unusedSimpArgs false
set_option linter.unusedVariables false
attribute [local irreducible] CoW OpW FlW Step Spec
variable {G : Nat → Option W}
theorem v4q (l : List UInt8) (f : Bool) (hl : l.length ≤ 70368744177664) : PS cfg G 35 [.fz (zBq l) 1 f] (bW l) := by
  refine ynq (fn := Try.f35) rfl rfl rfl (Nat.le_of_ble_eq_true rfl) (fun R k0 => ?_)
  refine zcq (zbq (zaq rfl rfl (zdq ?_)))
  refine zfq (zcq (zcq (zbq (zaq rfl rfl ?_))))
  first | refine zaq rfl rfl ?_ | refine zYq rfl (step_nil rfl rfl rfl rfl rfl (fun bn hn => ?_))
  refine zdq ?_
  refine zfq ?_
  refine zEq rfl (fun h1 => ?_) (fun h1 => ?_)
  · cases bn with
    | false => cases h1
    | true =>
      have hn := hn rfl
      have hl0 : l = [] := by cases l with
        | nil => rfl
        | cons c l => simp [zBq] at hn
      subst hl0
      refine zcq (zbq (zaq rfl rfl (zdq ?_)))
      refine zfq (zjq ?_)
      refine zlq (by intro h; cases h) ?_
      refine kOq (fr2 := [(2, bW [])]) (.inr rfl) ⟨⟨_, rfl, .nilfz⟩, trivial⟩ rfl rfl
  · cases l with
    | nil =>
      skip
      refine ziq (zfq (zcq (zbq (zeq rfl rfl (zaq rfl rfl (zeq rfl (jBq rfl rfl (YQq rfl rfl rfl rfl rfl)) (zaq rfl rfl (zdq ?_))))))))
      refine zfq (zjq ?_)
      refine kOq (fr2 := [(2, bW [])]) (.inr rfl) ⟨⟨_, rfl, .sl rfl rfl rfl (by intro h; cases h)⟩, trivial⟩ rfl rfl
    | cons c l =>
      simp only [List.length_cons] at hl
      refine ziq (zfq (zcq (zbq (zeq rfl rfl (zaq rfl rfl (zeq rfl (jBq rfl rfl (uWq (news := zBq (c :: l)) (olds := []) rfl rfl rfl rfl rfl (by simp [zBq]) (by show (0 + (zBq (c :: l)).length) * 1 ≤ _; rw [yoq]; simp only [List.length_cons]; omega) (by rw [yoq]; simp only [List.length_cons]; omega) rfl (by show 0 < 0 + (0 + (zBq (c :: l)).length) * 1; rw [yoq]; simp only [List.length_cons]; omega) rfl rfl)) ?_))))))
      refine zaq rfl rfl (zdq ?_)
      refine zfq (zjq ?_)
      refine kOq (fr2 := [(2, bW (c :: l))]) (.inr rfl) ⟨⟨_, rfl, .sl rfl (by simp) (jrq (by simp) (Nat.mul_one _)) (by intro h; cases h)⟩, trivial⟩ rfl rfl
theorem end_s (l : List UInt8) (f : Bool) : PS cfg G 53 [.fz (zBq l) 1 f] (.int .i64 (if l = [] then 0 else 11)) := by
  have e := yoq l
  refine ynq (fn := Try.f53) rfl rfl rfl (Nat.le_of_ble_eq_true rfl) (fun R k0 => ?_)
  refine zcq (zbq (zaq rfl rfl (zdq ?_)))
  refine zfq (zcq (zcq (zbq (zaq rfl rfl ?_))))
  first | refine ZGq rfl rfl ?_ | refine zaq rfl rfl ?_
  refine zCq rfl rfl ?_
  refine zdq ?_
  refine zfq ?_
  refine zEq rfl (fun h1 => ?_) (fun h1 => ?_)
  · refine zcq (zbq (zaq rfl rfl (zdq ?_)))
    refine zfq (zjq ?_)
    refine zlq (by intro h; cases h) ?_
    have : l ≠ [] := by rintro rfl; simp [zBq] at h1
    exact znq (.inr rfl) rfl (by rw [if_neg this])
  · refine ziq (zfq (zcq (zbq (zaq rfl rfl (zdq ?_)))))
    refine zfq (zjq ?_)
    have : l = [] := List.eq_nil_of_length_eq_zero (by rw [← e]; simpa using h1)
    exact znq (.inr rfl) rfl (by rw [if_pos this])
theorem shr_byte (n i : Nat) (hi : i ≤ 8) : Nat.shiftRight n (min (8 * i) 64) % 256 = n / 256 ^ i % 256 := by
  have : Nat.shiftRight n (min (8 * i) 64) = n / 2 ^ (8 * i) := by rw [show min (8 * i) 64 = 8 * i by omega]; exact Nat.shiftRight_eq_div_pow _ _
  rw [this, Nat.pow_mul]
theorem be_at (n size i : Nat) (hi : i < size) : (zBq (List.replicate (size - i) 0 ++ beB i n))[0 + (size - 1 - i) * 1]? = some (.int .u8 (.ofNat 0)) := by
  refine x7q (c := 0) ?_
  rw [List.getElem?_append_left (by simp; omega), List.getElem?_replicate, if_pos (by omega)]
theorem be_set (n size i : Nat) (hi : i < size) : (zBq (List.replicate (size - i) 0 ++ beB i n)).set (0 + (size - 1 - i) * 1) (.int .u8 ((n / 256 ^ i % 256 : Nat) : Int)) = zBq (List.replicate (size - (i + 1)) 0 ++ beB (i + 1) n) := by
  have e : size - i = (size - (i + 1)) + 1 := by omega
  have e2 : 0 + (size - 1 - i) * 1 = size - (i + 1) := by omega
  rw [e, e2, List.replicate_succ', List.append_assoc, k3q, k3q, List.set_append_right _ _ (by simp [zBq])]
  simp only [zBq, List.length_map, List.length_replicate, Nat.sub_self, List.singleton_append, List.map_cons, List.set_cons_zero, beB]
  congr 2
  simp
theorem be_zero (n size : Nat) : zBq (List.replicate (size - 0) 0 ++ beB 0 n) = List.replicate size (.int .u8 0) := by simp [zBq, beB]
theorem put_s (n size : Nat) (hs : 1 ≤ size) (hs8 : size ≤ 8) (hn : n < 256 ^ size) : qFq cfg G 51 0 [.int .u64 (n : Int), .int .i64 (size : Int)] [] fun w hp nw =>
    w = .tup [.sl 0 0 0 size 1 none, .int .i64 0] ∧ hp = [(0, 5, .arr (size * 1) 1 (zBq (beB size n)))] ∧ nw = 1 := by
  intro R
  have hq : size < 8 → Nat.shiftRight n (min (8 * size) 64) = 0 := fun h => by
    rw [show min (8 * size) 64 = 8 * size by omega, show Nat.shiftRight n (8 * size) = n / 2 ^ (8 * size) from Nat.shiftRight_eq_div_pow _ _, Nat.pow_mul]
    exact Nat.div_eq_of_lt hn
  refine yrq (fn := Try.f51) rfl rfl rfl (Nat.le_of_ble_eq_true rfl) (fun k0 => ?_)
  refine zcq (zbq (zaq rfl rfl (zaq rfl rfl (zdq ?_))))
  refine zfq (zcq (zmq (zcq (zbq (zaq rfl rfl ?_)))))
  refine y3q rfl rfl (fun h1 => ?_) (fun h1 => ?_)
  · exfalso; omega
  refine zaq rfl rfl (zaq rfl rfl (zCq rfl rfl ?_))
  refine zaq rfl rfl (zaq rfl rfl (zdq ?_))
  refine zfq ?_
  refine zEq rfl (fun h2 => ?_) (fun h2 => ?_)
  · exfalso; omega
  refine zcq (zbq (zaq rfl rfl ?_))
  refine y3q rfl rfl (fun h3 => ?_) (fun h3 => ?_)
  · have h8 := hq (by omega)
    refine zaq rfl rfl (zaq rfl rfl (zaq rfl rfl (zyq (8 * size) rfl rfl (by first | rfl | omega) ⟨by omega, by omega⟩ ?_)))
    refine zaq rfl rfl (zCq rfl rfl ?_)
    refine zaq rfl rfl (zaq rfl rfl (zdq ?_))
    refine zfq ?_
    refine zEq rfl (fun h4 => ?_) (fun h4 => ?_)
    · skip
      exfalso
      have h4 : (0 : Int) < (Nat.shiftRight n (min (8 * size) 64) : Nat) := h4
      rw [h8] at h4
      omega
    · refine ziq (zrq (by intro i h; cases h) ?_)
      refine zfq (zcq (zbq (zaq rfl rfl (zeq rfl (Yxq (l := size) (c := size) rfl rfl rfl rfl rfl rfl rfl rfl (Nat.le_refl _) (by show 1 * size ≤ _; omega) (by omega) rfl rfl) ?_))))
      refine zaq rfl rfl (zdq ?_)
      refine zfq (zcq (zcq (zbq (zaq rfl rfl (zaq rfl rfl (zdq ?_))))))
      refine zfq (zmq ?_)
      refine vdq (α := Nat) (fun i => i ≤ size) (fun i => [(28, .int .i64 (i : Int))]) [(0, _), (1, _), (4, _), (5, _), (6, _), (27, _)] (fun i => [(0, 5, .arr (size * 1) 1 (zBq (List.replicate (size - i) 0 ++ beB i n)))]) (fun i => size - i) (0) ⟨rfl, rfl, rfl, rfl, rfl, rfl, trivial⟩ (Nat.zero_le _) ⟨rfl, trivial⟩ (by rw [be_zero]; rfl) (fun i hI => ?_)
      refine zcq (zbq (zCq rfl rfl ?_))
      refine zdq ?_
      refine zfq (zcq ?_)
      refine zEq rfl (fun h5 => ?_) (fun h5 => ?_)
      · have hi : i < size := by omega
        refine ziq (zfq (zcq (zmq (zcq (zbq (zaq rfl rfl (zaq rfl rfl (zdq ?_))))))))
        refine zfq (zbq (zaq rfl rfl (zaq rfl rfl (zyq (size - 1) rfl rfl (by first | rfl | omega) ⟨by omega, by omega⟩ ?_))))
        refine zaq rfl rfl (zyq (size - 1 - i) rfl rfl (by first | rfl | omega) ⟨by omega, by omega⟩ ?_)
        refine zaq rfl rfl (zaq rfl rfl (zyq (8 * i) rfl rfl (by first | rfl | omega) ⟨by omega, by omega⟩ ?_))
        refine zaq rfl rfl (zNq (w' := .int .u8 ((n / 256 ^ i % 256 : Nat) : Int)) rfl rfl (congrArg (fun n : Nat => W.int .u8 (n : Int)) (shr_byte n i (by omega))) ?_)
        refine zaq rfl (yiq (i := size - 1 - i) rfl rfl rfl rfl rfl rfl rfl (by omega)) ?_
        refine zeq rfl (uIq rfl rfl rfl rfl rfl (kXq (be_at n size i hi) rfl rfl) (congrArg (fun L => [(0, 5, W.arr (size * 1) 1 L)]) (be_set n size i hi))) (zdq ?_)
        refine zrq (by intro i h; cases h) ?_
        refine zfq (zbq (zyq (i + 1) rfl rfl (by first | rfl | omega) ⟨by omega, by omega⟩ ?_))
        refine zaq rfl rfl (zdq ?_)
        exact Ynq (i + 1) (hi) (by omega) ⟨rfl, trivial⟩ ⟨rfl, rfl, rfl, rfl, rfl, rfl, trivial⟩ rfl
      · refine ytq ?_
        refine zlq (by intro h; cases h) ?_
        refine q_out (by intro h; cases h) ?_
        refine qoq (zfq (zcq (zbq (zaq rfl rfl (zaq rfl rfl (zaq rfl rfl (zdq ?_)))))))
        refine zfq (zjq ?_)
        have : i = size := by omega
        subst this
        refine fin (.inr rfl) Ent.refl rfl ⟨rfl, rfl, ?_, rfl⟩
        rw [Nat.sub_self]
        rfl
  · refine zaq rfl rfl (zgq rfl (zgq rfl (zgq rfl (zgq rfl (zgq rfl (zaq rfl rfl (zaq rfl rfl (zdq ?_))))))))
    refine zfq (zAq rfl (ziq (zrq (by intro i h; cases h) ?_)))
    refine zfq (zcq (zbq (zaq rfl rfl (zeq rfl (Yxq (l := size) (c := size) rfl rfl rfl rfl rfl rfl rfl rfl (Nat.le_refl _) (by show 1 * size ≤ _; omega) (by omega) rfl rfl) ?_))))
    refine zaq rfl rfl (zdq ?_)
    refine zfq (zcq (zcq (zbq (zaq rfl rfl (zaq rfl rfl (zdq ?_))))))
    refine zfq (zmq ?_)
    refine vdq (α := Nat) (fun i => i ≤ size) (fun i => [(28, .int .i64 (i : Int))]) [(0, _), (1, _), (4, _), (5, _), (6, _), (27, _)] (fun i => [(0, 5, .arr (size * 1) 1 (zBq (List.replicate (size - i) 0 ++ beB i n)))]) (fun i => size - i) (0) ⟨rfl, rfl, rfl, rfl, rfl, rfl, trivial⟩ (Nat.zero_le _) ⟨rfl, trivial⟩ (by rw [be_zero]; rfl) (fun i hI => ?_)
    refine zcq (zbq (zCq rfl rfl ?_))
    refine zdq ?_
    refine zfq (zcq ?_)
    refine zEq rfl (fun h4 => ?_) (fun h4 => ?_)
    · have hi : i < size := by omega
      refine ziq (zfq (zcq (zmq (zcq (zbq (zaq rfl rfl (zaq rfl rfl (zdq ?_))))))))
      refine zfq (zbq (zaq rfl rfl (zaq rfl rfl (zyq (size - 1) rfl rfl (by first | rfl | omega) ⟨by omega, by omega⟩ ?_))))
      refine zaq rfl rfl (zyq (size - 1 - i) rfl rfl (by first | rfl | omega) ⟨by omega, by omega⟩ ?_)
      refine zaq rfl rfl (zaq rfl rfl (zyq (8 * i) rfl rfl (by first | rfl | omega) ⟨by omega, by omega⟩ ?_))
      refine zaq rfl rfl (zNq (w' := .int .u8 ((n / 256 ^ i % 256 : Nat) : Int)) rfl rfl (congrArg (fun n : Nat => W.int .u8 (n : Int)) (shr_byte n i (by omega))) ?_)
      refine zaq rfl (yiq (i := size - 1 - i) rfl rfl rfl rfl rfl rfl rfl (by omega)) ?_
      refine zeq rfl (uIq rfl rfl rfl rfl rfl (kXq (be_at n size i hi) rfl rfl) (congrArg (fun L => [(0, 5, W.arr (size * 1) 1 L)]) (be_set n size i hi))) (zdq ?_)
      refine zrq (by intro i h; cases h) ?_
      refine zfq (zbq (zyq (i + 1) rfl rfl (by first | rfl | omega) ⟨by omega, by omega⟩ ?_))
      refine zaq rfl rfl (zdq ?_)
      exact Ynq (i + 1) (hi) (by omega) ⟨rfl, trivial⟩ ⟨rfl, rfl, rfl, rfl, rfl, rfl, trivial⟩ rfl
    · refine ytq ?_
      refine zlq (by intro h; cases h) ?_
      refine q_out (by intro h; cases h) ?_
      refine qoq (zfq (zcq (zbq (zaq rfl rfl (zaq rfl rfl (zaq rfl rfl (zdq ?_)))))))
      refine zfq (zjq ?_)
      have : i = size := by omega
      subst this
      refine fin (.inr rfl) Ent.refl rfl ⟨rfl, rfl, ?_, rfl⟩
      rw [Nat.sub_self]
      rfl
theorem shl8 (n : Nat) : (Int.ofNat (Nat.shiftLeft n (min 8 64))) = ((256 * n : Nat) : Int) := by
  rw [show Nat.shiftLeft n (min 8 64) = n * 2 ^ 8 from Nat.shiftLeft_eq n 8, Nat.mul_comm]; rfl
theorem or_low (n c : Nat) (hn : 256 * n < 18446744073709551616) (hc : c < 256) : Nat.lor (256 * n % 18446744073709551616) (c % 18446744073709551616) = 256 * n + c := by
  rw [Nat.mod_eq_of_lt hn, Nat.mod_eq_of_lt (by omega)]
  have := Nat.two_pow_add_eq_or_of_lt (i := 8) (b := c) (by omega) n
  rw [Nat.mul_comm] at this
  rw [show Nat.lor (256 * n) c = 256 * n ||| c from rfl, Nat.mul_comm 256 n]
  rw [Nat.mul_comm] at this
  rw [Nat.mul_comm n 256]
  exact this.symm
theorem pow256_le {i : Nat} (h : i ≤ 8) : 256 ^ i ≤ 18446744073709551616 := by
  have h' : ∀ i, i ≤ 8 → 256 ^ i ≤ 18446744073709551616 := by decide
  exact h' i h
theorem numB_take {l : List UInt8} {i : Nat} {c : UInt8} (h : l[i]? = some c) : numB (l.take (i + 1)) = 256 * numB (l.take i) + c.toNat := by
  rw [List.take_add_one, h]
  exact numB_snoc _ _
theorem uNq {l : List UInt8} {i : Nat} (h : i ≤ 7) : 256 * numB (l.take i) < 18446744073709551616 := by
  have h1 := vEq (l.take i)
  have h2 : 256 ^ (l.take i).length ≤ 256 ^ i := Nat.pow_le_pow_right (by omega) (by simp; omega)
  have h3 := pow256_le (i := i + 1) (by omega)
  rw [Nat.pow_succ] at h3
  omega
theorem jQq (l : List UInt8) (f : Bool) (size : Nat) (hs : 1 ≤ size) (hs8 : size ≤ 8) (hl : l.length < size) : PS cfg G 52 [.fz (zBq l) 1 f, .int .i64 (size : Int)] (.tup [.int .u64 0, .nils, .int .i64 10]) := by
  have e := yoq l
  refine ynq (fn := Try.f52) rfl rfl rfl (Nat.le_of_ble_eq_true rfl) (fun R k0 => ?_)
  refine zcq (zbq (zaq rfl rfl (zaq rfl rfl (zaq rfl rfl (zdq ?_)))))
  refine zfq (zcq (zmq (zcq (zbq (zaq rfl rfl ?_)))))
  refine y3q rfl rfl (fun h1 => ?_) (fun h1 => ?_)
  · exfalso; omega
  refine zaq rfl rfl (zaq rfl rfl (zCq rfl rfl ?_))
  refine zaq rfl rfl (zaq rfl rfl (zdq ?_))
  refine zfq ?_
  refine zEq rfl (fun h2 => ?_) (fun h2 => ?_)
  · exfalso; omega
  refine zcq (zbq (zaq rfl rfl (zNq (w' := .int .i64 (l.length : Int)) rfl rfl (by rw [← e]; rfl) ?_)))
  refine zaq rfl rfl (zCq rfl rfl ?_)
  refine zaq rfl rfl (zdq ?_)
  refine zfq ?_
  refine zEq rfl (fun h3 => ?_) (fun h3 => ?_)
  · refine zcq (zbq (zaq rfl rfl (zaq rfl rfl (zaq rfl rfl (zdq ?_)))))
    refine zfq (zjq ?_)
    refine zrq (by intro i h; cases h) ?_
    refine zlq (by intro h; cases h) ?_
    first | exact znq (.inr rfl) rfl rfl | exact znq (.inl rfl) rfl rfl | (exfalso; omega)
  · exfalso; omega
theorem ktq (l : List UInt8) (f : Bool) (size : Nat) (hs : 1 ≤ size) (hs8 : size ≤ 8) (hl : size ≤ l.length) (hb : l.length ≤ 70368744177664) : PS cfg G 52 [.fz (zBq l) 1 f, .int .i64 (size : Int)] (.tup [.int .u64 (numB (l.take size) : Nat), bW (l.drop size), .int .i64 0]) := by
  have e := yoq l
  have el : (l.take size).length = size := by simp; omega
  refine ynq (fn := Try.f52) rfl rfl rfl (Nat.le_of_ble_eq_true rfl) (fun R k0 => ?_)
  refine zcq (zbq (zaq rfl rfl (zaq rfl rfl (zaq rfl rfl (zdq ?_)))))
  refine zfq (zcq (zmq (zcq (zbq (zaq rfl rfl ?_)))))
  refine y3q rfl rfl (fun h1 => ?_) (fun h1 => ?_)
  · exfalso; omega
  refine zaq rfl rfl (zaq rfl rfl (zCq rfl rfl ?_))
  refine zaq rfl rfl (zaq rfl rfl (zdq ?_))
  refine zfq ?_
  refine zEq rfl (fun h2 => ?_) (fun h2 => ?_)
  · exfalso; omega
  refine zcq (zbq (zaq rfl rfl (zNq (w' := .int .i64 (l.length : Int)) rfl rfl (by rw [← e]; rfl) ?_)))
  refine zaq rfl rfl (zCq rfl rfl ?_)
  refine zaq rfl rfl (zdq ?_)
  refine zfq ?_
  refine zEq rfl (fun h3 => ?_) (fun h3 => ?_)
  · exfalso; omega
  refine ziq (zrq (by intro i h; cases h) ?_)
  refine zfq (zcq (zcq (zbq (zaq rfl rfl (zaq rfl rfl (zaq rfl rfl (zaq rfl (cut_fz3 (ys := zBq (l.take size)) (l := 0) (h := size) (m := size) rfl rfl rfl rfl rfl rfl rfl rfl (Nat.zero_le _) (Nat.le_refl _) (by omega) hs (by rw [List.drop_zero, Nat.sub_zero, v9q]) rfl) ?_)))))))
  refine zNq (w' := .int .i64 (size : Int)) rfl rfl (by show W.int .i64 ((zBq (l.take size)).length : Int) = _; rw [yoq, el]) ?_
  refine zaq rfl rfl (zdq ?_)
  refine zfq (zmq ?_)
  refine ySq (α := Nat) (fun i => i ≤ size) (fun i => [(26, .int .i64 (i : Int)), (4, .int .u64 (numB (l.take i) : Nat))]) [(0, _), (1, _), (5, _), (6, _), (24, _), (25, _)] (fun i => size - i) (0) ⟨rfl, rfl, rfl, rfl, rfl, rfl, trivial⟩ (Nat.zero_le _) ⟨rfl, rfl, trivial⟩ (fun i hI => ?_)
  refine zcq (zbq (zCq rfl rfl ?_))
  refine zdq ?_
  refine zfq (zcq ?_)
  refine zEq rfl (fun h4 => ?_) (fun h4 => ?_)
  · have hi : i < size := by omega
    obtain ⟨c, hc⟩ : ∃ c, l[i]? = some c := ⟨_, List.getElem?_eq_getElem (by omega)⟩
    have hc2 : (l.take size)[i]? = some c := by rw [List.getElem?_take, if_pos hi]; exact hc
    have hcl := c.toNat_lt
    have hn := uNq (l := l) (i := i) (by omega)
    refine ziq (zfq (zcq (zmq (zcq (zbq (zaq rfl (z7q (i := i) rfl rfl rfl rfl rfl rfl rfl (x7q hc2)) (zeq rfl rfl (zaq rfl rfl (zdq ?_)))))))))
    refine zfq (zbq (zaq rfl rfl (zyq (256 * numB (l.take i)) rfl rfl (shl8 _) ⟨by omega, by omega⟩ ?_)))
    refine zaq rfl rfl (zyq (c.toNat) rfl rfl (by first | rfl | omega) ⟨by omega, by omega⟩ ?_)
    refine zNq (w' := .int .u64 (numB (l.take (i + 1)) : Nat)) rfl rfl (congrArg (fun n : Nat => W.int .u64 (n : Int)) ((or_low _ _ hn hcl).trans (numB_take hc).symm)) (zaq rfl rfl (zdq ?_))
    refine zrq (by intro i h; cases h) ?_
    refine zfq (zbq (zyq (i + 1) rfl rfl (by first | rfl | omega) ⟨by omega, by omega⟩ ?_))
    refine zaq rfl rfl (zdq ?_)
    exact ykq (i + 1) (hi) (by omega) ⟨rfl, rfl, trivial⟩ ⟨rfl, rfl, rfl, rfl, rfl, rfl, trivial⟩ (by repeat (first | exact trivial | refine ⟨by first | rfl | exact zwq (by first | rfl | (simp; done)), ?_⟩)) (by omega) (by repeat (first | exact zOq | refine zRq (by omega) ?_ | refine zPq (by omega) ?_ | refine zQq (by omega) ?_)) rfl
  · have : i = size := by omega
    subst this
    refine ytq ?_
    refine zlq (by intro h; cases h) ?_
    refine yhq (by intro h; cases h) ?_
    refine qoq (zfq (zcq (zbq (zaq rfl rfl (zaq rfl rfl (zaq rfl rfl (zaq rfl (uUq (ys := zBq (l.drop i)) (l := i) (h := (zBq l).length) rfl rfl rfl rfl rfl rfl rfl (by omega) (Nat.le_refl _) (by rw [List.take_of_length_le (by simp), Zaq]) rfl) ?_)))))))
    refine ztq rfl rfl rfl rfl rfl rfl (v4q _ _ (by first | assumption | (simp; omega))) ?_
    refine zaq rfl rfl (zaq rfl rfl (zaq rfl rfl (zdq ?_)))
    refine zfq (zjq ?_)
    exact znq (.inr rfl) rfl rfl
end Go.Proofs.Ytgeelfdgnehdnaa
namespace Go.Proofs.Ytgeelfdgnehdnaa
open Go.RowKit
set_option linter.unusedSimpArgs false
set_option linter.unusedVariables false
attribute [local irreducible] CoW OpW FlW Step Spec
variable {G : Nat → Option W}
structure Acct where
  nonce : Nat
  balance : Nat
  deriving DecidableEq
def Acct.ok (a : Acct) : Prop := a.nonce < 18446744073709551616 ∧ a.balance < 18446744073709551616
def Acct.zero : Acct := ⟨0, 0⟩
noncomputable def aW (a : Acct) : W := .agg 2 [.int .u64 (a.nonce : Int), .int .u64 (a.balance : Int)]
@[simp] theorem aW_pur (a : Acct) : purW (aW a) = true := rfl
def qwq (a : Acct) : List UInt8 := beB 8 a.nonce ++ beB 8 a.balance
def qeq (l : List UInt8) : Acct × Nat := if l.length < 16 then (.zero, 10) else if 16 < l.length then (.zero, 11) else
  if (⟨numB (l.take 8), numB (l.drop 8)⟩ : Acct) = .zero then (.zero, 8) else (⟨numB (l.take 8), numB (l.drop 8)⟩, 0)
theorem Z0q (a : Acct) : (qwq a).length = 16 := by simp [qwq]
theorem read_bytes (a : Acct) (h : a.ok) (h0 : a ≠ .zero) : qeq (qwq a) = (a, 0) := by
  have e1 : (qwq a).take 8 = beB 8 a.nonce := List.take_left' (by simp)
  have e2 : (qwq a).drop 8 = beB 8 a.balance := List.drop_left' (by simp)
  unfold qeq
  rw [Z0q, if_neg (by omega), if_neg (by omega), e1, e2, numB_be, numB_be, Nat.mod_eq_of_lt (by exact h.1), Nat.mod_eq_of_lt (by exact h.2), if_neg h0]
theorem YIq (a b : Acct) : eqW cfg 300 29 (aW a) (aW b) = some (decide (a = b)) := by
  have e : decide (a = b) = (decide ((a.nonce : Int) = b.nonce) && (decide ((a.balance : Int) = b.balance) && true)) := by
    cases a; cases b
    simp only [Acct.mk.injEq, Bool.and_true]
    rw [Bool.eq_iff_iff]
    simp only [decide_eq_true_eq, Bool.and_eq_true]
    omega
  rw [e]
  exact eq_struct rfl rfl rfl rfl (eqFs_step rfl rfl rfl (eq_int rfl rfl) (eqFs_step rfl rfl rfl (eq_int rfl rfl) eqFs_nil))
theorem abytes_s (a : Acct) (h : a.ok) : PS cfg G 26 [aW a] (bW (qwq a)) := by
  have h1 : a.nonce < 256 ^ 8 := h.1
  have h2 : a.balance < 256 ^ 8 := h.2
  refine ynq (fn := Try.f26) rfl rfl rfl (Nat.le_of_ble_eq_true rfl) (fun R k0 => ?_)
  have l1 : (zBq (beB 8 a.nonce)).length = 8 := by rw [yoq, uCq]
  have l2 : (zBq (beB 8 a.balance)).length = 8 := by rw [yoq, uCq]
  refine zcq (zbq (zeq rfl rfl (zaq rfl rfl (zdq ?_))))
  refine zfq (zcq (zbq (zaq rfl rfl (zeq rfl rfl ?_))))
  ((refine zYq rfl (q7q (ext := []) rfl rfl rfl rfl rfl (put_s _ 8 (by omega) (by omega) (by assumption)) List.nodup_nil (by simp) (by simp) (fun i ty w h => by simp [hget] at h) rfl ?_); rintro w hp1 nw1 ⟨rfl, rfl, rfl⟩))
  refine zaq rfl rfl (zaq rfl rfl (zaq rfl rfl (zaq rfl rfl (zaq rfl rfl (zdq ?_)))))
  refine zfq (zcq (zbq (zaq rfl rfl (zeq rfl rfl ?_))))
  ((refine zYq rfl (q7q (ext := []) rfl rfl rfl rfl rfl (put_s _ 8 (by omega) (by omega) (by assumption)) List.nodup_nil (by simp) (by simp) (fun i ty w h => by simp [hget] at h) rfl ?_); rintro w hp1 nw1 ⟨rfl, rfl, rfl⟩))
  refine zaq rfl rfl (zaq rfl rfl (zaq rfl rfl (zaq rfl rfl (zaq rfl rfl (zdq ?_)))))
  refine zfq (zcq (zbq (zaq rfl rfl (zaq rfl rfl (zeq rfl (jBq rfl rfl (uWq (k := ti5) (len := 8) (news := zBq (beB 8 a.balance)) (olds := zBq (beB 8 a.nonce)) rfl rfl rfl rfl (jRq rfl rfl rfl (jrq (n := 8) (m := 8) l2.symm rfl)) (by intro h; rw [h] at l2; simp at l2) (by rw [l2]; decide) (by rw [l2]; decide) rfl (by show 8 * 1 < 0 + (8 + (zBq (beB 8 a.balance)).length) * 1; rw [l2]; omega) rfl (jrq (n := 8) (m := 8) l1.symm rfl))) ?_)))))
  refine zaq rfl rfl (zdq ?_)
  refine zfq (zjq ?_)
  refine kOq (fr2 := [(2, bW (qwq a))]) (.inr rfl) ⟨⟨_, rfl, .sl (xs := zBq (qwq a)) rfl (by simp) ?_ (by intro h; cases h)⟩, trivial⟩ rfl rfl
  rw [qwq, k3q, l2]
  exact jrq (n := 16) (by rw [List.length_append, l1, l2]) rfl
theorem aread_s (l : List UInt8) (f : Bool) (hb : l.length ≤ 70368744177664) : PS cfg G 27 [.fz (zBq l) 1 f] (.tup [aW (qeq l).1, .int .i64 ((qeq l).2 : Nat)]) := by
  by_cases q1 : l.length < 8
  · have e : qeq l = (.zero, 10) := by unfold qeq; rw [if_pos (by omega)]
    rw [e]
    refine ynq (fn := Try.f27) rfl rfl rfl (Nat.le_of_ble_eq_true rfl) (fun R k0 => ?_)
    refine zcq (zbq (zeq rfl rfl (zaq rfl rfl (zdq ?_))))
    refine zfq (zcq (zbq (zaq rfl rfl (zdq ?_))))
    refine zfq (zcq (zcq (zbq (zaq rfl rfl (ztq rfl rfl rfl rfl rfl rfl (jQq _ _ 8 (by omega) (by omega) q1) ?_)))))
    refine zaq rfl rfl (zaq rfl rfl (zaq rfl rfl (zaq rfl rfl (zaq rfl rfl (zeq rfl rfl (zaq rfl rfl (zaq rfl rfl (zdq ?_))))))))
    refine zfq (zcq (zbq (zaq rfl rfl (zCq rfl rfl ?_))))
    refine zdq ?_
    refine zfq (zMq rfl (zcq (zbq (zaq rfl rfl (zaq rfl rfl (zeq rfl rfl (zaq rfl rfl (zdq ?_))))))))
    refine zfq (zjq ?_)
    refine zlq (by intro h; cases h) ?_
    exact znq (.inr rfl) rfl rfl
  have q2 : (l.drop 8).length = l.length - 8 := by simp
  by_cases q3 : l.length < 16
  · have e : qeq l = (.zero, 10) := by unfold qeq; rw [if_pos q3]
    rw [e]
    refine ynq (fn := Try.f27) rfl rfl rfl (Nat.le_of_ble_eq_true rfl) (fun R k0 => ?_)
    refine zcq (zbq (zeq rfl rfl (zaq rfl rfl (zdq ?_))))
    refine zfq (zcq (zbq (zaq rfl rfl (zdq ?_))))
    refine zfq (zcq (zcq (zbq (zaq rfl rfl ?_))))
    first | (first | refine ztq rfl rfl rfl rfl rfl rfl (ktq l _ 8 (by omega) (by omega) (by omega) hb) ?_ | refine ztq rfl rfl rfl rfl rfl rfl (jQq (l.drop 8) _ 8 (by omega) (by omega) (by omega)) ?_) | refine ztq rfl rfl rfl rfl rfl rfl (ktq _ _ 8 (by omega) (by omega) (by omega) hb) ?_ | refine ztq rfl rfl rfl rfl rfl rfl (jQq _ _ 8 (by omega) (by omega) q1) ?_
    refine zaq rfl rfl (zaq rfl rfl (zaq rfl rfl (zaq rfl rfl (zaq rfl rfl (zeq rfl rfl (zaq rfl rfl (zaq rfl rfl (zdq ?_))))))))
    refine zfq (zcq (zbq (zaq rfl rfl (zCq rfl rfl ?_))))
    refine zdq ?_
    refine zfq (zAq rfl (ziq (zfq (zcq (zcq (zbq (zaq rfl rfl ?_)))))))
    first | (first | refine ztq rfl rfl rfl rfl rfl rfl (ktq l _ 8 (by omega) (by omega) (by omega) hb) ?_ | refine ztq rfl rfl rfl rfl rfl rfl (jQq (l.drop 8) _ 8 (by omega) (by omega) (by omega)) ?_) | refine ztq rfl rfl rfl rfl rfl rfl (ktq _ _ 8 (by omega) (by omega) (by omega) hb) ?_ | refine ztq rfl rfl rfl rfl rfl rfl (jQq _ _ 8 (by omega) (by omega) q1) ?_
    refine zaq rfl rfl (zaq rfl rfl (zaq rfl rfl (zaq rfl rfl (zaq rfl rfl (zeq rfl rfl (zaq rfl rfl (zaq rfl rfl (zdq ?_))))))))
    refine zfq (zcq (zbq (zaq rfl rfl (zCq rfl rfl ?_))))
    refine zdq ?_
    refine zfq (zMq rfl (zcq (zbq (zaq rfl rfl (zaq rfl rfl (zeq rfl rfl (zaq rfl rfl (zdq ?_))))))))
    refine zfq (zjq ?_)
    refine zlq (by intro h; cases h) ?_
    exact znq (.inr rfl) rfl rfl
  have e3 : (l.drop 8).drop 8 = [] ↔ l.length = 16 := by rw [List.drop_drop, List.drop_eq_nil_iff]; omega
  by_cases q4 : 16 < l.length
  · have e : qeq l = (.zero, 11) := by unfold qeq; rw [if_neg q3, if_pos q4]
    have e4 : ¬ (l.drop 8).drop 8 = [] := fun h => by have := e3.1 h; omega
    rw [e]
    refine ynq (fn := Try.f27) rfl rfl rfl (Nat.le_of_ble_eq_true rfl) (fun R k0 => ?_)
    refine zcq (zbq (zeq rfl rfl (zaq rfl rfl (zdq ?_))))
    refine zfq (zcq (zbq (zaq rfl rfl (zdq ?_))))
    refine zfq (zcq (zcq (zbq (zaq rfl rfl ?_))))
    (first | refine ztq rfl rfl rfl rfl rfl rfl (ktq l _ 8 (by omega) (by omega) (by omega) hb) ?_ | refine ztq rfl rfl rfl rfl rfl rfl (ktq (l.drop 8) _ 8 (by omega) (by omega) (by omega) (by omega)) ?_)
    refine zaq rfl rfl (zaq rfl rfl (zaq rfl rfl (zaq rfl rfl (zaq rfl rfl (zeq rfl rfl (zaq rfl rfl (zaq rfl rfl (zdq ?_))))))))
    refine zfq (zcq (zbq (zaq rfl rfl (zCq rfl rfl ?_))))
    refine zdq ?_
    refine zfq (zAq rfl (ziq (zfq (zcq (zcq (zbq (zaq rfl rfl ?_)))))))
    (first | refine ztq rfl rfl rfl rfl rfl rfl (ktq l _ 8 (by omega) (by omega) (by omega) hb) ?_ | refine ztq rfl rfl rfl rfl rfl rfl (ktq (l.drop 8) _ 8 (by omega) (by omega) (by omega) (by omega)) ?_)
    refine zaq rfl rfl (zaq rfl rfl (zaq rfl rfl (zaq rfl rfl (zaq rfl rfl (zeq rfl rfl (zaq rfl rfl (zaq rfl rfl (zdq ?_))))))))
    refine zfq (zcq (zbq (zaq rfl rfl (zCq rfl rfl ?_))))
    refine zdq ?_
    refine zfq (zAq rfl (ziq (zfq (zcq (zmq (zcq (zbq (zaq rfl rfl (ztq rfl rfl rfl rfl rfl rfl (y2q (w' := .int .i64 11) (end_s _ _) (by rw [if_neg e4])) ?_)))))))))
    refine zCq rfl rfl ?_
    refine zaq rfl rfl (zdq ?_)
    refine zfq (zMq rfl (zcq (zbq (zaq rfl rfl (zeq rfl rfl (zaq rfl rfl (zdq ?_)))))))
    refine zfq (zjq ?_)
    refine zrq (by intro i h; cases h) ?_
    refine zlq (by intro h; cases h) ?_
    exact znq (.inr rfl) rfl rfl
  · have e4 : (l.drop 8).drop 8 = [] := e3.2 (by omega)
    have e5 : (l.drop 8).take 8 = l.drop 8 := List.take_of_length_le (by omega)
    refine ynq (fn := Try.f27) rfl rfl rfl (Nat.le_of_ble_eq_true rfl) (fun R k0 => ?_)
    refine zcq (zbq (zeq rfl rfl (zaq rfl rfl (zdq ?_))))
    refine zfq (zcq (zbq (zaq rfl rfl (zdq ?_))))
    refine zfq (zcq (zcq (zbq (zaq rfl rfl ?_))))
    (first | refine ztq rfl rfl rfl rfl rfl rfl (ktq l _ 8 (by omega) (by omega) (by omega) hb) ?_ | refine ztq rfl rfl rfl rfl rfl rfl (ktq (l.drop 8) _ 8 (by omega) (by omega) (by omega) (by omega)) ?_)
    refine zaq rfl rfl (zaq rfl rfl (zaq rfl rfl (zaq rfl rfl (zaq rfl rfl (zeq rfl rfl (zaq rfl rfl (zaq rfl rfl (zdq ?_))))))))
    refine zfq (zcq (zbq (zaq rfl rfl (zCq rfl rfl ?_))))
    refine zdq ?_
    refine zfq (zAq rfl (ziq (zfq (zcq (zcq (zbq (zaq rfl rfl ?_)))))))
    (first | refine ztq rfl rfl rfl rfl rfl rfl (ktq l _ 8 (by omega) (by omega) (by omega) hb) ?_ | refine ztq rfl rfl rfl rfl rfl rfl (ktq (l.drop 8) _ 8 (by omega) (by omega) (by omega) (by omega)) ?_)
    refine zaq rfl rfl (zaq rfl rfl (zaq rfl rfl (zaq rfl rfl (zaq rfl rfl (zeq rfl rfl (zaq rfl rfl (zaq rfl rfl (zdq ?_))))))))
    refine zfq (zcq (zbq (zaq rfl rfl (zCq rfl rfl ?_))))
    refine zdq ?_
    refine zfq (zAq rfl (ziq (zfq (zcq (zmq (zcq (zbq (zaq rfl rfl (ztq rfl rfl rfl rfl rfl rfl (y2q (w' := .int .i64 0) (end_s _ _) (by rw [if_pos e4])) ?_)))))))))
    refine zCq rfl rfl ?_
    refine zaq rfl rfl (zdq ?_)
    refine zfq (zAq rfl (zcq (zbq (zeq rfl rfl (zaq rfl rfl (zaq rfl (qkq rfl rfl rfl rfl (YIq ⟨numB (l.take 8), numB ((l.drop 8).take 8)⟩ .zero)) (zaq rfl rfl (zdq ?_))))))))
    refine zfq ?_
    refine zEq rfl (fun h1 => ?_) (fun h1 => ?_)
    · refine zcq (zbq (zaq rfl rfl (zeq rfl rfl (zaq rfl rfl (zdq ?_)))))
      refine zfq (zjq ?_)
      refine zrq (by intro i h; cases h) ?_
      refine zlq (by intro h; cases h) ?_
      have e : qeq l = (.zero, 8) := by
        rw [e5] at h1
        unfold qeq; rw [if_neg q3, if_neg q4, if_pos h1]
      rw [e]
      exact znq (.inr rfl) rfl rfl
    · refine ziq (zrq (by intro i h; cases h) ?_)
      refine zfq (zcq (zbq (zeq rfl rfl (zeq rfl rfl (zaq rfl rfl (zdq ?_))))))
      refine zfq (zjq ?_)
      have e : qeq l = (⟨numB (l.take 8), numB (l.drop 8)⟩, 0) := by
        rw [e5] at h1
        unfold qeq; rw [if_neg q3, if_neg q4, if_neg h1]
      rw [e]
      exact znq (.inr rfl) rfl (by rw [e5]; rfl)
end Go.Proofs.Ytgeelfdgnehdnaa
namespace Go.Proofs.Ytgeelfdgnehdnaa
set_option linter.unusedSimpArgs false
set_option linter.unusedVariables false
abbrev Pr := Dig × List UInt8
inductive T where
  | nil
  | leaf (k : Dig) (v : List UInt8)
  | fork (l r : T)
  deriving Inhabited
def T.all : T → List Pr
  | .nil => []
  | .leaf k v => [(k, v)]
  | .fork l r => l.all ++ r.all
def T.isFork : T → Bool
  | .fork _ _ => true
  | _ => false
def T.non : T → Bool
  | .nil => false
  | _ => true
def T.two (l r : T) : Bool := l.isFork || r.isFork || (l.non && r.non)
def T.ok : Nat → Dig → T → Bool
  | _, _, .nil => true
  | d, b, .leaf k _ => decide (d ≤ ydq k b)
  | d, b, .fork l r => decide (d < 256) && T.ok (d + 1) b l && T.ok (d + 1) (qdq b d) r && T.two l r
def T.find (k : Dig) : Nat → T → Option (List UInt8)
  | _, .nil => none
  | _, .leaf k' v => if k' = k then some v else none
  | d, .fork l r => if bitN k d = 0 then l.find k (d + 1) else r.find k (d + 1)
def T.roads (d : Nat) : T → T × T
  | .nil => (.nil, .nil)
  | .leaf k v => if bitN k d = 0 then (.leaf k v, .nil) else (.nil, .leaf k v)
  | .fork l r => (l, r)
def T.put (k : Dig) (v : List UInt8) : Nat → T → T
  | _, .nil => .leaf k v
  | 0, .leaf _ _ => .leaf k v
  | 0, .fork l r => .fork l r
  | f + 1, .leaf k' v' => if k' = k then .leaf k v else
    if bitN k (255 - f) = 0 then .fork (T.put k v f (T.roads (255 - f) (.leaf k' v')).1) (T.roads (255 - f) (.leaf k' v')).2
    else .fork (T.roads (255 - f) (.leaf k' v')).1 (T.put k v f (T.roads (255 - f) (.leaf k' v')).2)
  | f + 1, .fork l r => if bitN k (255 - f) = 0 then .fork (T.put k v f l) r else .fork l (T.put k v f r)
def T.alone (l r : T) : Option T :=
  match l, r with
  | .nil, .nil => some .nil
  | .nil, .leaf k v => some (.leaf k v)
  | .leaf k v, .nil => some (.leaf k v)
  | _, _ => none
def T.join (l r : T) : T := (T.alone l r).getD (.fork l r)
def T.drop (k : Dig) : Nat → T → T
  | _, .nil => .nil
  | _, .leaf _ _ => .nil
  | d, .fork l r => if bitN k d = 0 then T.join (l.drop k (d + 1)) r else T.join l (r.drop k (d + 1))
def Srt (l : List Pr) : Prop := l.Pairwise fun a b => ypq a.1 b.1 = true
def kAq (l : List Pr) (k : Dig) (v : List UInt8) : List Pr := l.filter (fun p => ypq p.1 k) ++ (k, v) :: l.filter (fun p => ypq k p.1)
def ycq (l : List Pr) (k : Dig) : List Pr := l.filter fun p => decide (p.1 ≠ k)
def xvq (l : List Pr) (k : Dig) : Option (List UInt8) := (l.find? fun p => decide (p.1 = k)).map (·.2)
theorem findL_none {l : List Pr} {k : Dig} : xvq l k = none ↔ ∀ p ∈ l, p.1 ≠ k := by
  simp only [xvq, Option.map_eq_none_iff, List.find?_eq_none, decide_eq_true_eq]
theorem srt_uniq {l : List Pr} (h : Srt l) {p q : Pr} (hp : p ∈ l) (hq : q ∈ l) (e : p.1 = q.1) : p = q := by
  induction l with
  | nil => simp at hp
  | cons x l ih =>
    have h := List.pairwise_cons.1 h
    simp only [List.mem_cons] at hp hq
    rcases hp with rfl | hp <;> rcases hq with rfl | hq
    · rfl
    · exact absurd e (k5q (h.1 q hq))
    · exact absurd e.symm (k5q (h.1 p hp))
    · exact ih h.2 hp hq
theorem findL_some {l : List Pr} (h : Srt l) {k : Dig} {v : List UInt8} : xvq l k = some v ↔ (k, v) ∈ l := by
  simp only [xvq, Option.map_eq_some_iff]
  constructor
  · rintro ⟨⟨k', v'⟩, h1, rfl⟩
    have h2 := List.find?_some h1
    have := List.mem_of_find?_eq_some h1
    simp only [decide_eq_true_eq] at h2
    subst h2; exact this
  · intro hm
    cases hf : l.find? fun p => decide (p.1 = k) with
    | none =>
      have := List.find?_eq_none.1 hf _ hm
      simp at this
    | some p =>
      have h2 := List.find?_some hf
      have h3 := List.mem_of_find?_eq_some hf
      simp only [decide_eq_true_eq] at h2
      have := srt_uniq h h3 hm h2
      exact ⟨p, rfl, by rw [this]⟩
theorem mem_withL {l : List Pr} {k : Dig} {v : List UInt8} {p : Pr} : p ∈ kAq l k v ↔ p = (k, v) ∨ (p ∈ l ∧ p.1 ≠ k) := by
  simp only [kAq, List.mem_append, List.mem_filter, List.mem_cons]
  constructor
  · rintro (⟨h1, h2⟩ | rfl | ⟨h1, h2⟩)
    · exact .inr ⟨h1, k5q h2⟩
    · exact .inl rfl
    · exact .inr ⟨h1, fun e => k5q h2 e.symm⟩
  · rintro (rfl | ⟨h1, h2⟩)
    · exact .inr (.inl rfl)
    · rcases Zgq h2 with h | h
      · exact .inl ⟨h1, h⟩
      · exact .inr (.inr ⟨h1, h⟩)
theorem mem_withoutL {l : List Pr} {k : Dig} {p : Pr} : p ∈ ycq l k ↔ p ∈ l ∧ p.1 ≠ k := by simp [ycq]
def Zr (d : Nat) (b : Dig) : Prop := ∀ j, d ≤ j → j < 256 → bitN b j = 0
theorem qYq {d : Nat} {b : Dig} (h : Zr d b) : Zr (d + 1) b := fun j h1 h2 => h j (by omega) h2
theorem qXq {d : Nat} {b : Dig} (h : Zr d b) (hd : d < 256) : Zr (d + 1) (qdq b d) := fun j h1 h2 => by rw [Zbq b d j hd h2 (by omega)]; exact h j (by omega) h2
theorem j2q : Zr 0 qSq := fun j _ hj => by
  unfold bitN
  have : kn qSq (j / 8) = 0 := by
    unfold kn qSq
    simp only [List.getElem?_replicate]
    split <;> rfl
  rw [this]; simp
theorem Ycq {b : Dig} {d : Nat} (hd : d < 256) {j : Nat} (hj : j < d) : bitN (qdq b d) j = bitN b j := Zbq b d j hd (by omega) (by omega)
theorem side_l {b k : Dig} {d : Nat} (hz : Zr d b) (hd : d < 256) (h : d + 1 ≤ ydq k b) : d ≤ ydq k b ∧ bitN k d = 0 :=
  ⟨by omega, by rw [(yBq (by omega)).1 h d (by omega)]; exact hz d (Nat.le_refl _) hd⟩
theorem side_r {b k : Dig} {d : Nat} (hz : Zr d b) (hd : d < 256) (h : d + 1 ≤ ydq k (qdq b d)) : d ≤ ydq k b ∧ bitN k d = 1 := by
  have h1 := (yBq (by omega)).1 h
  refine ⟨(yBq (by omega)).2 fun j hj => ?_, ?_⟩
  · rw [h1 j (by omega), Ycq hd hj]
  · rw [h1 d (by omega), Zcq b d hd, hz d (Nat.le_refl _) hd]
theorem kaq {b k : Dig} {d : Nat} (hz : Zr d b) (hd : d < 256) (h : d ≤ ydq k b) (hb : bitN k d = 0) : d + 1 ≤ ydq k b := by
  refine (yBq (by omega)).2 fun j hj => ?_
  rcases Nat.lt_succ_iff_lt_or_eq.1 hj with hj | rfl
  · exact (yBq (by omega)).1 h j hj
  · rw [hb, hz j (Nat.le_refl _) hd]
theorem j9q {b k : Dig} {d : Nat} (hz : Zr d b) (hd : d < 256) (h : d ≤ ydq k b) (hb : ¬ bitN k d = 0) : d + 1 ≤ ydq k (qdq b d) := by
  refine (yBq (by omega)).2 fun j hj => ?_
  rcases Nat.lt_succ_iff_lt_or_eq.1 hj with hj | rfl
  · rw [Ycq hd hj]; exact (yBq (by omega)).1 h j hj
  · rw [Zcq b j hd, hz j (Nat.le_refl _) hd]
    have := qDq k j
    omega
theorem ok_fork {d : Nat} {b : Dig} {l r : T} : T.ok d b (.fork l r) = true ↔ d < 256 ∧ T.ok (d + 1) b l = true ∧ T.ok (d + 1) (qdq b d) r = true ∧ T.two l r = true := by
  simp only [T.ok, Bool.and_eq_true, decide_eq_true_eq, and_assoc]
theorem kGq : ∀ {t : T} {d : Nat} {b : Dig}, Zr d b → t.ok d b = true → ∀ p ∈ t.all, d ≤ ydq p.1 b
  | .nil, _, _, _, _, p, hp => by simp [T.all] at hp
  | .leaf k v, d, b, _, h, p, hp => by
    simp only [T.all, List.mem_singleton] at hp
    subst hp
    exact of_decide_eq_true h
  | .fork l r, d, b, hz, h, p, hp => by
    obtain ⟨hd, h1, h2, _⟩ := ok_fork.1 h
    simp only [T.all, List.mem_append] at hp
    rcases hp with hp | hp
    · exact (side_l hz hd (kGq (qYq hz) h1 p hp)).1
    · exact (side_r hz hd (kGq (qXq hz hd) h2 p hp)).1
theorem ok_bits {l r : T} {d : Nat} {b : Dig} (hz : Zr d b) (h : (T.fork l r).ok d b = true) : (∀ p ∈ l.all, bitN p.1 d = 0) ∧ ∀ p ∈ r.all, bitN p.1 d = 1 := by
  obtain ⟨hd, h1, h2, _⟩ := ok_fork.1 h
  exact ⟨fun p hp => (side_l hz hd (kGq (qYq hz) h1 p hp)).2, fun p hp => (side_r hz hd (kGq (qXq hz hd) h2 p hp)).2⟩
theorem x9q {a b c : Dig} {d : Nat} (hd : d < 256) (ha : d ≤ ydq a c) (hb : d ≤ ydq b c) (h0 : bitN a d = 0) (h1 : bitN b d = 1) : ypq a b = true :=
  ahead_iff.2 ⟨d, hd, fun j hj => by rw [(yBq (by omega)).1 ha j hj, (yBq (by omega)).1 hb j hj], h0, h1⟩
theorem ok_srt : ∀ {t : T} {d : Nat} {b : Dig}, Zr d b → t.ok d b = true → Srt t.all
  | .nil, _, _, _, _ => List.Pairwise.nil
  | .leaf k v, _, _, _, _ => List.pairwise_singleton _ _
  | .fork l r, d, b, hz, h => by
    obtain ⟨hd, h1, h2, _⟩ := ok_fork.1 h
    refine List.pairwise_append.2 ⟨ok_srt (qYq hz) h1, ok_srt (qXq hz hd) h2, fun p hp q hq => ?_⟩
    have a1 := side_l hz hd (kGq (qYq hz) h1 p hp)
    have a2 := side_r hz hd (kGq (qXq hz hd) h2 q hq)
    exact x9q hd a1.1 a2.1 a1.2 a2.2
theorem kMq (k : Dig) : ∀ {t : T} {d : Nat} {b : Dig}, Zr d b → t.ok d b = true → t.find k d = xvq t.all k
  | .nil, _, _, _, _ => rfl
  | .leaf k' v, _, _, _, _ => by
    simp only [T.find, T.all, xvq, List.find?_cons, List.find?_nil]
    by_cases e : k' = k <;> simp [e]
  | .fork l r, d, b, hz, h => by
    obtain ⟨hd, h1, h2, _⟩ := ok_fork.1 h
    obtain ⟨k1, k2⟩ := ok_bits hz h
    have i1 := kMq k (qYq hz) h1
    have i2 := kMq k (qXq hz hd) h2
    simp only [T.find, T.all, xvq, List.find?_append]
    simp only [xvq] at i1 i2
    split
    · rename_i hb
      have : r.all.find? (fun p => decide (p.1 = k)) = none := List.find?_eq_none.2 fun p hp e => by
        have := k2 p hp
        rw [of_decide_eq_true e] at this; omega
      rw [this, Option.or_none, i1]
    · rename_i hb
      have : l.all.find? (fun p => decide (p.1 = k)) = none := List.find?_eq_none.2 fun p hp e => by
        have := k1 p hp
        rw [of_decide_eq_true e] at this; omega
      rw [this, Option.none_or, i2]
theorem Yoq (k : Dig) (v : List UInt8) : ∀ (f : Nat) (t : T), (t.put k v f).non = true
  | f, .nil => by cases f <;> rfl
  | 0, .leaf _ _ => rfl
  | 0, .fork _ _ => rfl
  | f + 1, .leaf k' v' => by
    simp only [T.put]
    split
    · rfl
    · split <;> rfl
  | f + 1, .fork l r => by
    simp only [T.put]
    split <;> rfl
theorem put_fork (k : Dig) (v : List UInt8) (f : Nat) {t : T} (h : t.isFork = true) : (t.put k v f).isFork = true := by
  cases t with
  | nil => cases h
  | leaf _ _ => cases h
  | fork l r =>
    cases f with
    | zero => rfl
    | succ f => simp only [T.put]; split <;> rfl
theorem tput_leaf (k k' : Dig) (v v' : List UInt8) (f : Nat) (h : k' ≠ k) : ((T.leaf k' v').put k v (f + 1)).isFork = true := by
  simp only [T.put, if_neg h]
  split <;> rfl
theorem two_l {l l' r : T} (h : T.two l r = true) (h1 : l.isFork = true → l'.isFork = true) (h2 : l'.non = true) : T.two l' r = true := by
  cases l <;> cases l' <;> cases r <;> simp [T.two, T.isFork, T.non] at h h1 h2 ⊢
theorem two_r {l r r' : T} (h : T.two l r = true) (h1 : r.isFork = true → r'.isFork = true) (h2 : r'.non = true) : T.two l r' = true := by
  cases l <;> cases r <;> cases r' <;> simp [T.two, T.isFork, T.non] at h h1 h2 ⊢
theorem YGq {l : List Pr} {p : Pr → Bool} (h : ∀ x ∈ l, p x = true) : l.filter p = l := List.filter_eq_self.2 h
theorem vQq {l : List Pr} {p : Pr → Bool} (h : ∀ x ∈ l, p x = false) : l.filter p = [] := List.filter_eq_nil_iff.2 fun x hx => by rw [h x hx]; exact Bool.false_ne_true
theorem withL_l {l r : List Pr} {k : Dig} (v : List UInt8) (h : ∀ p ∈ r, ypq k p.1 = true) : kAq (l ++ r) k v = kAq l k v ++ r := by
  simp only [kAq, List.filter_append]
  rw [vQq (l := r) (p := fun p => ypq p.1 k) fun p hp => qEq (h p hp), YGq (l := r) (p := fun p => ypq k p.1) h]
  simp
theorem withL_r {l r : List Pr} {k : Dig} (v : List UInt8) (h : ∀ p ∈ l, ypq p.1 k = true) : kAq (l ++ r) k v = l ++ kAq r k v := by
  simp only [kAq, List.filter_append]
  rw [YGq (l := l) (p := fun p => ypq p.1 k) h, vQq (l := l) (p := fun p => ypq k p.1) fun p hp => qEq (h p hp)]
  simp
theorem withL_one (k : Dig) (v v' : List UInt8) : kAq [(k, v')] k v = [(k, v)] := by
  simp [kAq, j1q]
theorem jDq (k : Dig) (v : List UInt8) : ∀ (f : Nat) (t : T) {d : Nat} {b : Dig}, d + f = 256 → Zr d b → t.ok d b = true → d ≤ ydq k b → (t.put k v f).ok d b = true ∧ (t.put k v f).all = kAq t.all k v
  | f, .nil, d, b, _, hz, h, hk => by
    cases f <;> exact ⟨decide_eq_true hk, by simp [T.put, T.all, kAq]⟩
  | 0, .leaf k' v', d, b, hf, hz, h, hk => by
    have h := of_decide_eq_true h
    have : k' = k := veq fun j hj => by rw [(yBq (by omega)).1 h j (by omega), (yBq (by omega)).1 hk j (by omega)]
    subst this
    exact ⟨decide_eq_true hk, by simp only [T.put, T.all]; rw [withL_one]⟩
  | 0, .fork l r, d, b, hf, hz, h, hk => by
    obtain ⟨hd, _⟩ := ok_fork.1 h
    omega
  | f + 1, .leaf k' v', d, b, hf, hz, h, hk => by
    have hd : d < 256 := by omega
    have ed : 255 - f = d := by omega
    have h := of_decide_eq_true h
    simp only [T.put, ed]
    by_cases e : k' = k
    · subst e
      simp only [if_true]
      exact ⟨decide_eq_true hk, by simp only [T.all]; rw [withL_one]⟩
    · rw [if_neg e]
      have b1 := qDq k' d
      have b2 := qDq k d
      by_cases hb : bitN k d = 0
      · rw [if_pos hb]
        by_cases hb' : bitN k' d = 0
        · simp only [T.roads, hb', if_true]
          have hs : (T.leaf k' v').ok (d + 1) b = true := decide_eq_true (kaq hz hd h hb')
          obtain ⟨i1, i2⟩ := jDq k v f (.leaf k' v') (d := d + 1) (by omega) (qYq hz) hs (kaq hz hd hk hb)
          refine ⟨ok_fork.2 ⟨hd, i1, rfl, ?_⟩, by simp only [T.all, List.append_nil]; exact i2⟩
          cases f with
          | zero =>
            exfalso
            refine e (veq fun j hj => ?_)
            rcases Nat.lt_or_ge j d with h1 | h1
            · rw [(yBq (by omega)).1 h j h1, (yBq (by omega)).1 hk j h1]
            · have : j = d := by omega
              rw [this, hb, hb']
          | succ f => simp only [T.two, tput_leaf k k' v v' f e, Bool.true_or]
        · simp only [T.roads, hb', if_false]
          obtain ⟨i1, i2⟩ := jDq k v f .nil (d := d + 1) (by omega) (qYq hz) rfl (kaq hz hd hk hb)
          refine ⟨ok_fork.2 ⟨hd, i1, decide_eq_true (j9q hz hd h hb'), ?_⟩, ?_⟩
          · rw [show T.put k v f .nil = .leaf k v by cases f <;> rfl]; rfl
          · simp only [T.all]
            have ha : ypq k k' = true := x9q hd hk h hb (by omega)
            have e0 : (T.put k v f .nil).all = [(k, v)] := by cases f <;> rfl
            rw [e0]
            simp [kAq, ha, qEq ha]
      · rw [if_neg hb]
        by_cases hb' : bitN k' d = 0
        · simp only [T.roads, hb', if_true]
          obtain ⟨i1, i2⟩ := jDq k v f .nil (d := d + 1) (by omega) (qXq hz hd) rfl (j9q hz hd hk hb)
          refine ⟨ok_fork.2 ⟨hd, decide_eq_true (kaq hz hd h hb'), i1, ?_⟩, ?_⟩
          · rw [show T.put k v f .nil = .leaf k v by cases f <;> rfl]; rfl
          · simp only [T.all]
            have ha : ypq k' k = true := x9q hd h hk hb' (by omega)
            have e0 : (T.put k v f .nil).all = [(k, v)] := by cases f <;> rfl
            rw [e0]
            simp [kAq, ha, qEq ha]
        · simp only [T.roads, hb', if_false]
          have hs : (T.leaf k' v').ok (d + 1) (qdq b d) = true := decide_eq_true (j9q hz hd h hb')
          obtain ⟨i1, i2⟩ := jDq k v f (.leaf k' v') (d := d + 1) (by omega) (qXq hz hd) hs (j9q hz hd hk hb)
          refine ⟨ok_fork.2 ⟨hd, rfl, i1, ?_⟩, by simp only [T.all, List.nil_append]; exact i2⟩
          cases f with
          | zero =>
            exfalso
            refine e (veq fun j hj => ?_)
            rcases Nat.lt_or_ge j d with h1 | h1
            · rw [(yBq (by omega)).1 h j h1, (yBq (by omega)).1 hk j h1]
            · have : j = d := by omega
              rw [this]; omega
          | succ f => simp only [T.two, tput_leaf k k' v v' f e, Bool.true_or, Bool.or_true]
  | f + 1, .fork l r, d, b, hf, hz, h, hk => by
    have hd : d < 256 := by omega
    have ed : 255 - f = d := by omega
    obtain ⟨_, h1, h2, h3⟩ := ok_fork.1 h
    obtain ⟨k1, k2⟩ := ok_bits hz h
    simp only [T.put, ed]
    have b2 := qDq k d
    split
    · rename_i hb
      obtain ⟨i1, i2⟩ := jDq k v f l (d := d + 1) (by omega) (qYq hz) h1 (kaq hz hd hk hb)
      refine ⟨ok_fork.2 ⟨hd, i1, h2, two_l h3 (put_fork k v f) (Yoq k v f l)⟩, ?_⟩
      simp only [T.all, i2]
      exact (withL_l v fun p hp => x9q hd hk (side_r hz hd (kGq (qXq hz hd) h2 p hp)).1 hb (k2 p hp)).symm
    · rename_i hb
      obtain ⟨i1, i2⟩ := jDq k v f r (d := d + 1) (by omega) (qXq hz hd) h2 (j9q hz hd hk hb)
      refine ⟨ok_fork.2 ⟨hd, h1, i1, two_r h3 (put_fork k v f) (Yoq k v f r)⟩, ?_⟩
      simp only [T.all, i2]
      exact (withL_r v fun p hp => x9q hd (side_l hz hd (kGq (qYq hz) h1 p hp)).1 hk (k1 p hp) (by omega)).symm
theorem join_all (l r : T) : (T.join l r).all = l.all ++ r.all := by
  cases l <;> cases r <;> simp [T.join, T.alone, T.all]
theorem ok_up {t : T} {d : Nat} {b : Dig} (h : t.ok (d + 1) b = true) (hf : t.isFork = false) : t.ok d b = true := by
  cases t with
  | nil => rfl
  | leaf k v => exact decide_eq_true (by have := of_decide_eq_true h; omega)
  | fork l r => cases hf
theorem ok_upr {t : T} {d : Nat} {b : Dig} (hd : d < 256) (h : t.ok (d + 1) (qdq b d) = true) (hf : t.isFork = false) : t.ok d b = true := by
  cases t with
  | nil => rfl
  | leaf k v =>
    have h := of_decide_eq_true h
    refine decide_eq_true ((yBq (by omega)).2 fun j hj => ?_)
    rw [(yBq (by omega)).1 h j (by omega), Ycq hd hj]
  | fork l r => cases hf
theorem join_ok {l r : T} {d : Nat} {b : Dig} (hd : d < 256) (h1 : l.ok (d + 1) b = true) (h2 : r.ok (d + 1) (qdq b d) = true) : (T.join l r).ok d b = true := by
  cases l <;> cases r <;> simp only [T.join, T.alone, Option.getD_some, Option.getD_none]
  · rfl
  · exact ok_upr hd h2 rfl
  · exact ok_fork.2 ⟨hd, h1, h2, rfl⟩
  · exact ok_up h1 rfl
  · exact ok_fork.2 ⟨hd, h1, h2, rfl⟩
  · exact ok_fork.2 ⟨hd, h1, h2, rfl⟩
  · exact ok_fork.2 ⟨hd, h1, h2, rfl⟩
  · exact ok_fork.2 ⟨hd, h1, h2, rfl⟩
  · exact ok_fork.2 ⟨hd, h1, h2, rfl⟩
theorem jjq {l : List Pr} {k : Dig} (h : ∀ p ∈ l, p.1 ≠ k) : ycq l k = l := List.filter_eq_self.2 fun p hp => decide_eq_true (h p hp)
theorem x2q (k : Dig) : ∀ (t : T) {d : Nat} {b : Dig}, Zr d b → t.ok d b = true → (t.find k d).isSome = true → (t.drop k d).ok d b = true ∧ (t.drop k d).all = ycq t.all k
  | .nil, d, b, _, _, h => by simp [T.find] at h
  | .leaf k' v, d, b, _, _, h => by
    simp only [T.find] at h
    split at h
    · rename_i e; subst e
      exact ⟨rfl, by simp [T.drop, T.all, ycq]⟩
    · cases h
  | .fork l r, d, b, hz, h, hs => by
    obtain ⟨hd, h1, h2, h3⟩ := ok_fork.1 h
    obtain ⟨k1, k2⟩ := ok_bits hz h
    simp only [T.find] at hs
    simp only [T.drop, T.all, ycq, List.filter_append]
    split
    · rename_i hb
      rw [if_pos hb] at hs
      obtain ⟨i1, i2⟩ := x2q k l (qYq hz) h1 hs
      refine ⟨join_ok hd i1 h2, ?_⟩
      rw [join_all, i2]
      congr 1
      exact (jjq fun p hp e => by have := k2 p hp; rw [e] at this; omega).symm
    · rename_i hb
      rw [if_neg hb] at hs
      obtain ⟨i1, i2⟩ := x2q k r (qXq hz hd) h2 hs
      refine ⟨join_ok hd h1 i1, ?_⟩
      rw [join_all, i2]
      congr 1
      exact (jjq fun p hp e => by have := k1 p hp; rw [e] at this; omega).symm
end Go.Proofs.Ytgeelfdgnehdnaa
namespace Go.Proofs.Ytgeelfdgnehdnaa
open Go.RowKit
set_option linter.unusedSimpArgs false
set_option linter.unusedVariables false
attribute [local irreducible] CoW OpW FlW Step Spec
variable {G : Nat → Option W}
noncomputable def pW (x : Pr) : W := .agg 33 [dW x.1, bW x.2]
@[simp] theorem pW_pur (x : Pr) : purW (pW x) = true := by simp [pW]
structure Node where
  leaf : Bool
  key : Dig
  val : List UInt8
  left : Int
  right : Int
noncomputable def nW (x : Node) : W := .agg 36 [.bool x.leaf, dW x.key, bW x.val, .int .i64 x.left, .int .i64 x.right]
@[simp] theorem nW_pur (x : Node) : purW (nW x) = true := by simp [nW]
def forkN (l r : Int) : Node := ⟨false, qSq, [], l, r⟩
theorem tbit_s (k : Dig) (d : Nat) (h : d < 256) : PS cfg G 62 [dW k, .int .i64 (d : Int)] (.int .u8 (bitN k d : Nat)) := by
  refine ynq (fn := Try.f62) rfl rfl rfl (Nat.le_of_ble_eq_true rfl) (fun R k0 => ?_)
  refine zcq (zbq (zeq rfl rfl (zaq rfl rfl (zdq ?_))))
  refine zfq (zcq (zbq (zeq rfl rfl (zaq rfl rfl (ztq rfl rfl rfl rfl rfl rfl (bit_in _ _ (by omega)) ?_)))))
  refine zaq rfl rfl (zaq rfl rfl (zaq rfl rfl (zaq rfl rfl (zaq rfl rfl (zdq ?_)))))
  refine zfq (zcq (zbq (zaq rfl rfl (zaq rfl rfl (zdq ?_)))))
  refine zfq (zjq ?_)
  first | exact znq (.inr rfl) rfl rfl | exact znq (.inl rfl) rfl rfl | (exfalso; omega)
theorem juq (x : Node) : PS cfg G 61 [nW x] (.arr 2 1 [.int .i64 x.left, .int .i64 x.right]) := by
  refine ynq (fn := Try.f61) rfl rfl rfl (Nat.le_of_ble_eq_true rfl) (fun R k0 => ?_)
  refine zcq (zbq (zeq rfl rfl (zeq rfl rfl (zdq ?_))))
  refine zfq (zcq (zbq (zaq rfl rfl (zeq rfl rfl (zaq rfl rfl (zeq rfl rfl (zaq rfl rfl (zeq rfl rfl (zdq ?_)))))))))
  refine zfq (zjq ?_)
  first | exact znq (.inr rfl) rfl rfl | exact znq (.inl rfl) rfl rfl | (exfalso; omega)
theorem qWq (l r : Int) : PS cfg G 75 [.arr 2 1 [.int .i64 l, .int .i64 r]] (nW (forkN l r)) := by
  refine uLq (fn := Try.f75) rfl rfl rfl (Nat.le_of_ble_eq_true rfl) (fun R k0 => ?_)
  refine zcq (zbq (zeq rfl rfl (zeq rfl rfl (zdq ?_))))
  refine zfq (zcq (zbq ?_))
  first | refine zaq rfl (z7q rfl rfl rfl rfl rfl rfl rfl (by first | assumption | (simp; done))) ?_ | refine zaq rfl (yiq rfl rfl rfl rfl rfl rfl rfl (by omega)) ?_ | refine zaq rfl (z0q rfl rfl rfl rfl rfl rfl (by omega)) ?_ | refine zaq rfl rfl ?_
  refine zeq rfl rfl ?_
  first | refine zaq rfl (z7q rfl rfl rfl rfl rfl rfl rfl (by first | assumption | (simp; done))) ?_ | refine zaq rfl (yiq rfl rfl rfl rfl rfl rfl rfl (by omega)) ?_ | refine zaq rfl (z0q rfl rfl rfl rfl rfl rfl (by omega)) ?_ | refine zaq rfl rfl ?_
  refine zeq rfl rfl (zaq rfl rfl (zeq rfl rfl (zdq ?_)))
  refine zfq (zjq ?_)
  refine xyq (by first | exact .inr rfl | exact .inl rfl) rfl ?_
  (repeat (first | exact .nil | refine .cons ?_ ?_ | exact qIq | exact .nilfz | refine .fn ?_ ?_ | (refine qlq rfl ?_ rfl; (first | rfl | (focus (simp; done)))) | (refine .sl rfl ?_ rfl (by intro h; cases h); (first | rfl | (focus (simp; done)))) | (refine .pur ?_; (first | rfl | (focus (simp; done)))) | (refine .fzw ?_; (first | rfl | (focus (simp; done)))) | refine .agg ?_ | refine .arr ?_ | refine .tup ?_))
def valB (l : List UInt8) : Bool := decide (0 < l.length) && decide (l.length ≤ 64)
theorem value_s (l : List UInt8) (f : Bool) : PS cfg G 86 [.fz (zBq l) 1 f] (.bool (valB l)) := by
  have e := yoq l
  refine ynq (fn := Try.f86) rfl rfl rfl (Nat.le_of_ble_eq_true rfl) (fun R k0 => ?_)
  refine zcq (zbq (zaq rfl rfl (zdq ?_)))
  refine zfq (zcq (zbq (zaq rfl rfl (zNq (w' := .int .i64 (l.length : Int)) rfl rfl (by rw [← e]; rfl) ?_))))
  refine y3q rfl rfl (fun h1 => ?_) (fun h1 => ?_)
  · refine zaq rfl rfl (zaq rfl rfl (zNq (w' := .int .i64 (l.length : Int)) rfl rfl (by rw [← e]; rfl) ?_))
    refine zCq rfl rfl ?_
    refine zaq rfl rfl (zaq rfl rfl (zdq ?_))
    refine zfq (zjq ?_)
    have h0 : 0 < l.length := by omega
    exact znq (.inr rfl) rfl (by unfold valB; congr 1; rw [decide_eq_true h0, Bool.true_and, decide_eq_decide]; omega)
  · refine zaq rfl rfl (zgq rfl (zgq rfl (zgq rfl (zaq rfl rfl (zaq rfl rfl (zdq ?_))))))
    refine zfq (zjq ?_)
    have h0 : ¬ 0 < l.length := by omega
    exact znq (.inr rfl) rfl (by unfold valB; rw [decide_eq_false h0]; rfl)
def okAt (ps : List Pr) (i : Nat) : Prop := ∀ x, ps[i]? = some x → valB x.2 = true ∧ ∀ y, 0 < i → ps[i - 1]? = some y → ypq y.1 x.1 = true
def MayP (ps : List Pr) : Prop := ps.length ≤ 512 ∧ ∀ i, i < ps.length → okAt ps i
noncomputable instance (ps : List Pr) : Decidable (MayP ps) := Classical.propDecidable _
theorem jLq (ps : List Pr) : purL (ps.map pW) = true := Yzq pW_pur ps
@[simp] theorem psW_pur' (ps : List Pr) : purL (ps.map pW) = true := jLq ps
theorem pcheck_s (ps : List Pr) (f : Bool) (hb : ps.length ≤ 9223372036854775807) : PS cfg G 73 [.fz (ps.map pW) 33 f] (.int .i64 (if MayP ps then 0 else 8)) := by
  have e : (ps.map pW).length = ps.length := List.length_map _
  refine ynq (fn := Try.f73) rfl rfl rfl (Nat.le_of_ble_eq_true rfl) (fun R k0 => ?_)
  refine zcq (zbq (zaq rfl rfl (zdq ?_)))
  refine zfq (zcq (zcq (zbq (zaq rfl rfl (zNq (w' := .int .i64 (ps.length : Int)) rfl rfl (by rw [← e]; rfl) ?_)))))
  refine zCq rfl rfl ?_
  refine zdq ?_
  refine zfq ?_
  refine zEq rfl (fun h1 => ?_) (fun h1 => ?_)
  · refine zcq (zbq (zaq rfl rfl (zdq ?_)))
    refine zfq (zjq ?_)
    refine zlq (by intro h; cases h) ?_
    exact znq (.inr rfl) rfl (by rw [if_neg fun h : MayP ps => by have := h.1; omega])
  · refine ziq (zfq (zcq (zcq (zbq (zaq rfl rfl (zNq (w' := .int .i64 (ps.length : Int)) rfl rfl (by rw [← e]; rfl) ?_))))))
    refine zaq rfl rfl (zdq ?_)
    refine zfq (zmq ?_)
    refine ySq (α := Nat) (fun i => i ≤ ps.length ∧ ∀ j, j < i → okAt ps j) (fun i => [(10, .int .i64 (i : Int))]) [(0, _), (2, _), (8, _), (9, _)] (fun i => ps.length - i) (0) ⟨rfl, rfl, rfl, rfl, trivial⟩ (⟨Nat.zero_le _, fun j hj => by omega⟩) ⟨rfl, trivial⟩ (fun i hI => ?_)
    obtain ⟨hi, hI⟩ := hI
    refine zcq (zbq (zCq rfl rfl ?_))
    refine zdq ?_
    refine zfq (zcq ?_)
    refine zEq rfl (fun h2 => ?_) (fun h2 => ?_)
    · have hi' : i < ps.length := by omega
      obtain ⟨x, hx⟩ : ∃ x, ps[i]? = some x := ⟨_, List.getElem?_eq_getElem hi'⟩
      refine ziq (zfq (zcq (zmq (zcq (zbq (zaq rfl rfl (zaq rfl (z7q (i := i) rfl rfl rfl rfl rfl rfl rfl (yLq pW hx)) (zeq rfl rfl (zeq rfl rfl (zaq rfl rfl (zeq rfl rfl (zdq ?_))))))))))))
      refine zfq (zcq (zZq (zhq rfl rfl (zDq rfl rfl ?_))))
      refine qUq rfl rfl rfl rfl rfl rfl (value_s _ _) ?_
      refine fl_bz (fun h3 => ?_) (fun h3 => ?_)
      · refine zhq rfl rfl (zhq rfl rfl (zhq rfl rfl ?_))
        refine fl_dz rfl rfl (fun h4 => ?_) (fun h4 => ?_)
        · refine zhq rfl rfl (zhq rfl rfl (zhq rfl rfl (jEq (i - 1) rfl rfl (by first | rfl | omega) ⟨by omega, by omega⟩ ?_)))
          refine zhq rfl (z7q (i := i - 1) rfl rfl rfl rfl rfl rfl rfl (yLq pW (List.getElem?_eq_getElem (by omega)))) ?_
          refine zhq rfl rfl (zDq rfl rfl ?_)
          refine zhq rfl rfl (zDq rfl rfl ?_)
          refine qUq rfl rfl rfl rfl rfl rfl (ahead_s _ _) ?_
          refine zhq rfl rfl (zhq rfl rfl (zhq rfl rfl (z6q ?_)))
          refine zfq ?_
          refine zEq rfl (fun h5 => ?_) (fun h5 => ?_)
          · refine zcq (zbq (zaq rfl rfl (zdq ?_)))
            refine zfq (zjq ?_)
            refine zrq (by intro i h; cases h) ?_
            refine zlq (by intro h; cases h) ?_
            refine yhq (by intro h; cases h) ?_
            refine zrq (by intro i h; cases h) ?_
            refine zlq (by intro h; cases h) ?_
            have no : ¬ MayP ps := fun h => by
              have := (h.2 i hi' x hx).2 _ (by omega) (List.getElem?_eq_getElem (by omega))
              rw [this] at h5
              simp at h5
            exact znq (.inr rfl) rfl (by rw [if_neg no])
          · have ok : okAt ps i := fun x' hx' => by
              obtain rfl := Option.some.inj (hx.symm.trans hx')
              refine ⟨h3, fun y h0 hy => ?_⟩
              obtain rfl := Option.some.inj ((List.getElem?_eq_getElem (show i - 1 < ps.length by omega)).symm.trans hy)
              simpa using h5
            refine ziq (zrq (by intro i h; cases h) ?_)
            refine zfq (zbq (zyq (i + 1) rfl rfl (by first | rfl | omega) ⟨by omega, by omega⟩ ?_))
            refine zaq rfl rfl (zdq ?_)
            exact ykq (i + 1) (⟨hi', fun j hj => by rcases Nat.lt_succ_iff_lt_or_eq.1 hj with h | rfl <;> first | exact hI j h | exact ok⟩) (by omega) ⟨rfl, trivial⟩ ⟨rfl, rfl, rfl, rfl, trivial⟩ (by repeat (first | exact trivial | refine ⟨by first | rfl | exact zwq (by first | rfl | (simp; done)), ?_⟩)) (by omega) (by repeat (first | exact zOq | refine zRq (by omega) ?_ | refine zPq (by omega) ?_ | refine zQq (by omega) ?_)) rfl
        · have ok : okAt ps i := fun x' hx' => by
            obtain rfl := Option.some.inj (hx.symm.trans hx')
            exact ⟨h3, fun y h0 hy => by omega⟩
          refine zhq rfl rfl (zLq rfl (zLq rfl (zLq rfl (zLq rfl (zLq rfl (zLq rfl (zLq rfl (zLq rfl (zLq rfl (zLq rfl (zhq rfl rfl (zhq rfl rfl (z6q ?_)))))))))))))
          refine zfq (zAq rfl (ziq (zrq (by intro i h; cases h) ?_)))
          refine zfq (zbq (zyq (i + 1) rfl rfl (by first | rfl | omega) ⟨by omega, by omega⟩ ?_))
          refine zaq rfl rfl (zdq ?_)
          exact ykq (i + 1) (⟨hi', fun j hj => by rcases Nat.lt_succ_iff_lt_or_eq.1 hj with h | rfl <;> first | exact hI j h | exact ok⟩) (by omega) ⟨rfl, trivial⟩ ⟨rfl, rfl, rfl, rfl, trivial⟩ (by repeat (first | exact trivial | refine ⟨by first | rfl | exact zwq (by first | rfl | (simp; done)), ?_⟩)) (by omega) (by repeat (first | exact zOq | refine zRq (by omega) ?_ | refine zPq (by omega) ?_ | refine zQq (by omega) ?_)) rfl
      · refine zhq rfl rfl (zhq rfl rfl (zLq rfl (zLq rfl (zLq rfl (zLq rfl (zLq rfl (zLq rfl (zLq rfl (zLq rfl (zLq rfl (zLq rfl (zLq rfl (zLq rfl (zLq rfl (zLq rfl (zhq rfl rfl (z6q ?_)))))))))))))))))
        refine zfq (zMq rfl (zcq (zbq (zaq rfl rfl (zdq ?_)))))
        refine zfq (zjq ?_)
        refine zrq (by intro i h; cases h) ?_
        refine zlq (by intro h; cases h) ?_
        refine yhq (by intro h; cases h) ?_
        refine zrq (by intro i h; cases h) ?_
        refine zlq (by intro h; cases h) ?_
        exact znq (.inr rfl) rfl (by rw [if_neg fun h : MayP ps => h3 (h.2 i hi' x hx).1])
    · refine ytq ?_
      refine zlq (by intro h; cases h) ?_
      refine yhq (by intro h; cases h) ?_
      refine qoq (zfq (zcq (zbq (zaq rfl rfl (zdq ?_)))))
      refine zfq (zjq ?_)
      have yes : MayP ps := ⟨by omega, fun j hj => hI j (by omega)⟩
      exact znq (.inr rfl) rfl (by rw [if_pos yes])
def oneB (x : Node) (n : Nat) : Prop := if x.leaf then x.left = 0 ∧ x.right = 0 ∧ MayP [(x.key, x.val)] else (0 ≤ x.left ∧ x.left ≤ n) ∧ (0 ≤ x.right ∧ x.right ≤ n) ∧ x.key = qSq ∧ x.val = [] ∧ 0 < x.left + x.right
noncomputable instance (x : Node) (n : Nat) : Decidable (oneB x n) := Classical.propDecidable _
theorem one_s (x : Node) (n : Nat) (hn : n ≤ 4611686018427387903) : PS cfg G 54 [nW x, .int .i64 (n : Int)] (.bool (decide (oneB x n))) := by
  refine ynq (fn := Try.f54) rfl rfl rfl (Nat.le_of_ble_eq_true rfl) (fun R k0 => ?_)
  refine zcq (zbq (zeq rfl rfl (zaq rfl rfl (zdq ?_))))
  refine zfq (zcq (zcq (zbq (zaq rfl rfl (zeq rfl rfl (zdq ?_))))))
  refine zfq ?_
  refine zEq rfl (fun h1 => ?_) (fun h1 => ?_)
  · refine zcq (zbq (zaq rfl rfl (zeq rfl rfl ?_)))
    refine y3q rfl rfl (fun h2 => ?_) (fun h2 => ?_)
    · refine zaq rfl rfl (zaq rfl rfl (zeq rfl rfl ?_))
      refine y3q rfl rfl (fun h3 => ?_) (fun h3 => ?_)
      · refine zaq rfl rfl (zaq rfl rfl (zaq rfl rfl (zeq rfl rfl (zaq rfl rfl (zeq rfl rfl (zaq rfl rfl (zeq rfl rfl ?_)))))))
        refine op_lk rfl rfl rfl rfl rfl (by (repeat (first | exact .nil | refine .cons ?_ ?_ | (refine .sl rfl ?_ rfl (by intro h; cases h); first | rfl | (focus (simp; done))) | (refine qlq rfl ?_ rfl; first | rfl | (focus (simp; done))) | (refine .pur ?_; first | rfl | (focus (simp; done)))))) (pcheck_s [(x.key, x.val)] false (by simp)) (by first | rfl | assumption | (simp; done)) (by first | rfl | assumption | (simp; done)) ?_
        refine zCq rfl rfl ?_
        refine zaq rfl rfl (zaq rfl rfl (zdq ?_))
        refine zfq (zjq ?_)
        refine zlq (by intro h; cases h) ?_
        refine znq (.inr rfl) rfl ?_
        congr 1
        rw [decide_eq_decide, oneB, if_pos h1]
        split
        · rename_i h
          exact ⟨fun _ => ⟨h2, h3, h⟩, fun _ => rfl⟩
        · rename_i h
          exact ⟨fun h => by omega, fun q => absurd q.2.2 h⟩
      · refine zaq rfl rfl (zaq rfl rfl (zgq rfl (zgq rfl (zgq rfl (zgq rfl (zgq rfl (zgq rfl (zgq rfl (zgq rfl (zaq rfl rfl (zaq rfl rfl (zdq ?_))))))))))))
        refine zfq (zjq ?_)
        refine zlq (by intro h; cases h) ?_
        exact znq (.inr rfl) rfl (by rw [decide_eq_false]; intro h; rw [oneB, if_pos h1] at h; exact h3 h.2.1)
    · refine zaq rfl rfl (zgq rfl (zgq rfl (zgq rfl (zaq rfl rfl (zaq rfl rfl (zgq rfl (zgq rfl (zgq rfl (zgq rfl (zgq rfl (zgq rfl (zgq rfl (zgq rfl (zaq rfl rfl (zaq rfl rfl (zdq ?_))))))))))))))))
      refine zfq (zjq ?_)
      refine zlq (by intro h; cases h) ?_
      exact znq (.inr rfl) rfl (by rw [decide_eq_false]; intro h; rw [oneB, if_pos h1] at h; exact h2 h.1)
  · refine ziq (zfq (zcq (zcq (zbq (zeq rfl rfl (ztq rfl rfl rfl rfl rfl rfl (juq _) ?_))))))
    refine zaq rfl rfl (zdq ?_)
    refine zfq (zmq ?_)
    refine ySq (α := Nat) (fun i => i ≤ 2 ∧ (0 < i → 0 ≤ x.left ∧ x.left ≤ n) ∧ (1 < i → 0 ≤ x.right ∧ x.right ≤ n)) (fun i => [(29, .int .i64 (i : Int))]) [(1, _), (2, _), (4, _), (28, _)] (fun i => 2 - i) (0) ⟨rfl, rfl, rfl, rfl, trivial⟩ (⟨by omega, by omega, by omega⟩) ⟨rfl, trivial⟩ (fun i hI => ?_)
    obtain ⟨hi, hl, hr⟩ := hI
    refine zcq (zbq (zCq rfl rfl ?_))
    refine zdq ?_
    refine zfq (zcq ?_)
    refine zEq rfl (fun h2 => ?_) (fun h2 => ?_)
    · have hi' : i = 0 ∨ i = 1 := by omega
      rcases hi' with rfl | rfl
      · skip
        refine ziq (zfq (zcq (zmq (zcq (zbq (zaq rfl rfl (zaq rfl rfl (zdq ?_))))))))
        refine zfq (zcq (zbq (zaq rfl rfl ?_)))
        refine y3q rfl rfl (fun h3 => ?_) (fun h3 => ?_)
        · refine zaq rfl rfl (zgq rfl (zgq rfl (zgq rfl (zaq rfl rfl (zdq ?_)))))
          refine zfq (zMq rfl (zcq (zbq (zaq rfl rfl (zdq ?_)))))
          refine zfq (zjq ?_)
          refine zrq (by intro i h; cases h) ?_
          refine zlq (by intro h; cases h) ?_
          refine yhq (by intro h; cases h) ?_
          refine zrq (by intro i h; cases h) ?_
          refine zlq (by intro h; cases h) ?_
          exact znq (.inr rfl) rfl (by rw [decide_eq_false]; intro h; rw [oneB, if_neg h1] at h; omega)
        · refine zaq rfl rfl (zaq rfl rfl (zaq rfl rfl (zCq rfl rfl ?_)))
          refine zaq rfl rfl (zdq ?_)
          refine zfq ?_
          refine zEq rfl (fun h4 => ?_) (fun h4 => ?_)
          · refine zcq (zbq (zaq rfl rfl (zdq ?_)))
            refine zfq (zjq ?_)
            refine zrq (by intro i h; cases h) ?_
            refine zlq (by intro h; cases h) ?_
            refine yhq (by intro h; cases h) ?_
            refine zrq (by intro i h; cases h) ?_
            refine zlq (by intro h; cases h) ?_
            exact znq (.inr rfl) rfl (by rw [decide_eq_false]; intro h; rw [oneB, if_neg h1] at h; omega)
          · refine ziq (zrq (by intro i h; cases h) ?_)
            refine zfq (zbq (zyq (1) rfl rfl (by first | rfl | omega) ⟨by omega, by omega⟩ ?_))
            refine zaq rfl rfl (zdq ?_)
            exact ykq (1) (⟨by omega, by omega, by omega⟩) (by omega) ⟨rfl, trivial⟩ ⟨rfl, rfl, rfl, rfl, trivial⟩ (by repeat (first | exact trivial | refine ⟨by first | rfl | exact zwq (by first | rfl | (simp; done)), ?_⟩)) (by omega) (by repeat (first | exact zOq | refine zRq (by omega) ?_ | refine zPq (by omega) ?_ | refine zQq (by omega) ?_)) rfl
      · refine ziq (zfq (zcq (zmq (zcq (zbq (zaq rfl rfl (zaq rfl rfl (zdq ?_))))))))
        refine zfq (zcq (zbq (zaq rfl rfl ?_)))
        refine y3q rfl rfl (fun h3 => ?_) (fun h3 => ?_)
        · refine zaq rfl rfl (zgq rfl (zgq rfl (zgq rfl (zaq rfl rfl (zdq ?_)))))
          refine zfq (zMq rfl (zcq (zbq (zaq rfl rfl (zdq ?_)))))
          refine zfq (zjq ?_)
          refine zrq (by intro i h; cases h) ?_
          refine zlq (by intro h; cases h) ?_
          refine yhq (by intro h; cases h) ?_
          refine zrq (by intro i h; cases h) ?_
          refine zlq (by intro h; cases h) ?_
          exact znq (.inr rfl) rfl (by rw [decide_eq_false]; intro h; rw [oneB, if_neg h1] at h; omega)
        · refine zaq rfl rfl (zaq rfl rfl (zaq rfl rfl (zCq rfl rfl ?_)))
          refine zaq rfl rfl (zdq ?_)
          refine zfq ?_
          refine zEq rfl (fun h4 => ?_) (fun h4 => ?_)
          · refine zcq (zbq (zaq rfl rfl (zdq ?_)))
            refine zfq (zjq ?_)
            refine zrq (by intro i h; cases h) ?_
            refine zlq (by intro h; cases h) ?_
            refine yhq (by intro h; cases h) ?_
            refine zrq (by intro i h; cases h) ?_
            refine zlq (by intro h; cases h) ?_
            exact znq (.inr rfl) rfl (by rw [decide_eq_false]; intro h; rw [oneB, if_neg h1] at h; omega)
          · refine ziq (zrq (by intro i h; cases h) ?_)
            refine zfq (zbq (zyq (2) rfl rfl (by first | rfl | omega) ⟨by omega, by omega⟩ ?_))
            refine zaq rfl rfl (zdq ?_)
            exact ykq (2) (⟨by omega, by omega, by omega⟩) (by omega) ⟨rfl, trivial⟩ ⟨rfl, rfl, rfl, rfl, trivial⟩ (by repeat (first | exact trivial | refine ⟨by first | rfl | exact zwq (by first | rfl | (simp; done)), ?_⟩)) (by omega) (by repeat (first | exact zOq | refine zRq (by omega) ?_ | refine zPq (by omega) ?_ | refine zQq (by omega) ?_)) rfl
    · have e := yoq x.val
      have hl := hl (by omega)
      have hr := hr (by omega)
      have key : oneB x n ↔ (x.key = qSq ∧ x.val = [] ∧ 0 < x.left + x.right) := by rw [oneB, if_neg h1]; exact ⟨fun h => h.2.2, fun h => ⟨hl, hr, h⟩⟩
      rw [show decide (oneB x n) = decide (x.key = qSq ∧ x.val = [] ∧ 0 < x.left + x.right) from decide_eq_decide.2 key]
      refine ytq ?_
      refine zlq (by intro h; cases h) ?_
      refine yhq (by intro h; cases h) ?_
      refine qoq (zfq (zcq (zbq (zaq rfl rfl (zeq rfl rfl (zNq rfl rfl uxq ?_))))))
      refine op_dec rfl (qkq rfl rfl rfl rfl (qOq rfl rfl rfl rfl rfl rfl _ _ 250)) yPq (fun h3 => ?_) (fun h3 => ?_)
      · refine zaq rfl rfl (zaq rfl rfl (zeq rfl rfl (zNq (w' := .int .i64 (x.val.length : Int)) rfl rfl (by rw [← e]; rfl) ?_)))
        refine y3q rfl rfl (fun h4 => ?_) (fun h4 => ?_)
        · have hv : x.val = [] := List.eq_nil_of_length_eq_zero (by omega)
          refine zaq rfl rfl (zaq rfl rfl (zaq rfl rfl (zeq rfl rfl (zaq rfl rfl (zeq rfl rfl ?_)))))
          first | refine unq rfl rfl ⟨by omega, by omega⟩ ?_ | refine zaq rfl rfl ?_
          refine zCq rfl rfl ?_
          refine zaq rfl rfl (zaq rfl rfl (zdq ?_))
          refine zfq (zjq ?_)
          refine znq (.inr rfl) rfl ?_
          congr 1
          rw [decide_eq_decide]
          exact ⟨fun h => ⟨h3, hv, h⟩, fun h => h.2.2⟩
        · have hv : x.val ≠ [] := fun h => h4 (by rw [h]; rfl)
          refine zaq rfl rfl (zaq rfl rfl (zgq rfl (zgq rfl (zgq rfl (zgq rfl (zgq rfl (zgq rfl (zaq rfl rfl (zaq rfl rfl (zdq ?_))))))))))
          refine zfq (zjq ?_)
          exact znq (.inr rfl) rfl (by rw [decide_eq_false fun h => hv h.2.1])
      · refine zaq rfl rfl (zgq rfl (zgq rfl (zgq rfl (zgq rfl (zaq rfl rfl (zaq rfl rfl (zgq rfl (zgq rfl (zgq rfl (zgq rfl (zgq rfl (zgq rfl (zaq rfl rfl (zaq rfl rfl (zdq ?_)))))))))))))))
        refine zfq (zjq ?_)
        exact znq (.inr rfl) rfl (by rw [decide_eq_false fun h => h3 h.1])
end Go.Proofs.Ytgeelfdgnehdnaa
namespace Go.Proofs.Ytgeelfdgnehdnaa
open Go.RowKit
set_option linter.unusedSimpArgs false
set_option linter.unusedVariables false
attribute [local irreducible] CoW OpW FlW Step Spec
variable {G : Nat → Option W}
inductive Rep (ns : List Node) : Nat → T → Prop where
  | nil : Rep ns 0 .nil
  | leaf {n : Nat} {k : Dig} {v : List UInt8} {l r : Int} (h : ns[n]? = some ⟨true, k, v, l, r⟩) : Rep ns (n + 1) (.leaf k v)
  | fork {n l r : Nat} {k : Dig} {v : List UInt8} {L R : T} (h : ns[n]? = some ⟨false, k, v, l, r⟩) (hl : l ≤ n) (hr : r ≤ n) (hL : Rep ns l L) (hR : Rep ns r R) : Rep ns (n + 1) (.fork L R)
theorem Rep.le {ns : List Node} {n : Nat} {t : T} (h : Rep ns n t) : n ≤ ns.length := by
  cases h with
  | nil => exact Nat.zero_le _
  | leaf h => exact (List.getElem?_eq_some_iff.1 h).1
  | fork h => exact (List.getElem?_eq_some_iff.1 h).1
theorem Rep.non {ns : List Node} {n : Nat} {t : T} (h : Rep ns n t) : t.non = decide (0 < n) := by cases h <;> simp [T.non]
theorem Rep.app {ns : List Node} (ms : List Node) {n : Nat} {t : T} (h : Rep ns n t) : Rep (ns ++ ms) n t := by
  have key : ∀ {i : Nat} {x : Node}, ns[i]? = some x → (ns ++ ms)[i]? = some x := fun {i x} h => by rw [List.getElem?_append_left (List.getElem?_eq_some_iff.1 h).1]; exact h
  induction h with
  | nil => exact .nil
  | leaf h => exact .leaf (key h)
  | fork h hl hr _ _ i1 i2 => exact .fork (key h) hl hr i1 i2
structure Tree where
  nodes : List Node
  root : Int
noncomputable def tW (t : Tree) : W := .agg 2 [.fz (t.nodes.map nW) 36 false, .int .i64 t.root]
theorem xlq (ns : List Node) : purL (ns.map nW) = true := Yzq nW_pur ns
@[simp] theorem tW_pur (t : Tree) : purW (tW t) = true := by simp [tW, xlq]
def nnI (t : T) : Int := if t.non then 1 else 0
theorem right_s (t0 : Tree) (hb : t0.nodes.length ≤ 4611686018427387903) : ∀ (t : T) (n d : Nat) (b : Dig), Rep t0.nodes n t → d ≤ 256 → PS cfg G 60 [tW t0, .int .i64 (n : Int), .int .i64 (d : Int), dW b] (.tup [.bool (t.ok d b), .bool (t.ok d b && t.isFork)]) := by
  intro t
  induction t with
  | nil =>
    intro n d b hr hd
    obtain rfl : n = 0 := by cases hr; rfl
    refine ynq (fn := Try.f60) rfl rfl rfl (Nat.le_of_ble_eq_true rfl) (fun R k0 => ?_)
    refine zcq (zbq (zeq rfl rfl (zeq rfl rfl (zaq rfl rfl (zaq rfl rfl (zdq ?_))))))
    refine zfq (zcq (zcq (zbq (zaq rfl rfl (zCq rfl rfl ?_)))))
    refine zdq ?_
    refine zfq ?_
    refine zEq rfl (fun h1 => ?_) (fun h1 => ?_)
    · refine zcq (zbq (zaq rfl rfl (zaq rfl rfl (zdq ?_))))
      refine zfq (zjq ?_)
      refine zlq (by intro h; cases h) ?_
      exact znq (.inr rfl) rfl rfl
    · exfalso; omega
  | leaf k v =>
    intro n d b hr hd
    have hle := hr.le
    cases hr with
    | leaf h =>
    rename_i n l r
    refine ynq (fn := Try.f60) rfl rfl rfl (Nat.le_of_ble_eq_true rfl) (fun R k0 => ?_)
    refine zcq (zbq (zeq rfl rfl (zeq rfl rfl (zaq rfl rfl (zaq rfl rfl (zdq ?_))))))
    refine zfq (zcq (zcq (zbq (zaq rfl rfl (zCq rfl rfl ?_)))))
    refine zdq ?_
    refine zfq ?_
    refine zEq rfl (fun h1 => ?_) (fun h1 => ?_)
    · exfalso; omega
    · refine ziq (zfq (zcq (zbq (zaq rfl rfl (zeq rfl rfl (zaq rfl rfl (zyq (n) rfl rfl (by first | rfl | omega) ⟨by omega, by omega⟩ ?_)))))))
      refine zaq rfl (z7q (i := n) rfl rfl rfl rfl rfl rfl rfl (yLq nW h)) (zeq rfl rfl (zeq rfl rfl (zeq rfl rfl (zdq ?_))))
      refine zfq (zcq (zcq (zbq (zaq rfl rfl (zeq rfl rfl (zdq ?_))))))
      refine zfq (zMq rfl (zcq (zbq (zaq rfl rfl (zeq rfl rfl (zeq rfl rfl (ztq rfl rfl rfl rfl rfl rfl (shared_s _ _) ?_)))))))
      refine zaq rfl rfl (zCq rfl rfl ?_)
      refine zaq rfl rfl (zaq rfl rfl (zdq ?_))
      refine zfq (zjq ?_)
      refine zlq (by intro h; cases h) ?_
      refine znq (.inr rfl) rfl ?_
      simp only [T.ok, T.isFork, Bool.and_false]
      congr 3
      rw [decide_eq_decide]
      omega
  | fork tl tr ihL ihR =>
    intro n d b hr hd
    have hle := hr.le
    cases hr with
    | fork h hl hr hL hR =>
    rename_i n l r k v
    refine ynq (fn := Try.f60) rfl rfl rfl (Nat.le_of_ble_eq_true rfl) (fun R k0 => ?_)
    refine zcq (zbq (zeq rfl rfl (zeq rfl rfl (zaq rfl rfl (zaq rfl rfl (zdq ?_))))))
    refine zfq (zcq (zcq (zbq (zaq rfl rfl (zCq rfl rfl ?_)))))
    refine zdq ?_
    refine zfq ?_
    refine zEq rfl (fun h1 => ?_) (fun h1 => ?_)
    · exfalso; omega
    · refine ziq (zfq (zcq (zbq (zaq rfl rfl (zeq rfl rfl (zaq rfl rfl (zyq (n) rfl rfl (by first | rfl | omega) ⟨by omega, by omega⟩ ?_)))))))
      refine zaq rfl (z7q (i := n) rfl rfl rfl rfl rfl rfl rfl (yLq nW h)) (zeq rfl rfl (zeq rfl rfl (zeq rfl rfl (zdq ?_))))
      refine zfq (zcq (zcq (zbq (zaq rfl rfl (zeq rfl rfl (zdq ?_))))))
      refine zfq (zAq rfl (ziq (zfq (zcq (zcq (zbq (zaq rfl rfl (zCq rfl rfl ?_))))))))
      refine zdq ?_
      refine zfq ?_
      refine zEq rfl (fun h2 => ?_) (fun h2 => ?_)
      · refine zcq (zbq (zaq rfl rfl (zaq rfl rfl (zdq ?_))))
        refine zfq (zjq ?_)
        refine zlq (by intro h; cases h) ?_
        have e : T.ok d b (.fork tl tr) = false := by simp only [T.ok]; rw [decide_eq_false (by omega)]; rfl
        rw [e]
        exact znq (.inr rfl) rfl rfl
      · have hd' : d < 256 := by omega
        have nl := hL.non
        have nr := hR.non
        refine ziq (zfq (zcq (zbq (zeq rfl rfl (zaq rfl rfl (ztq rfl rfl rfl rfl rfl rfl (turn_in _ _ (by omega)) ?_))))))
        refine zaq rfl rfl (zaq rfl rfl (zaq rfl rfl (zeq rfl rfl (zeq rfl rfl (zaq rfl rfl (zdq ?_))))))
        refine zfq (zcq (zbq (zaq rfl rfl (zdq ?_))))
        refine zfq (zcq (zcq (zbq (zeq rfl rfl (zeq rfl rfl (zNq (w' := .arr 64 32 [dW b, dW (qdq b d)]) rfl rfl rfl (zaq rfl rfl (zdq ?_))))))))
        refine zfq (zmq ?_)
        refine ySq (α := Nat × Int × Bool) (fun p => (p.1 = 0 ∧ p.2.1 = 0 ∧ p.2.2 = false) ∨ (p.1 = 1 ∧ tl.ok (d + 1) b = true ∧ p.2.1 = nnI tl ∧ p.2.2 = tl.isFork) ∨ (p.1 = 2 ∧ tl.ok (d + 1) b = true ∧ tr.ok (d + 1) (qdq b d) = true ∧ p.2.1 = nnI tl + nnI tr ∧ p.2.2 = (tl.isFork || tr.isFork))) (fun p => [(46, .int .i64 (p.1 : Int)), (13, .int .i64 p.2.1), (9, .bool p.2.2)]) [(2, _), (4, _), (8, _), (10, _), (45, _)] (fun p => 2 - p.1) ((0, 0, false)) ⟨rfl, rfl, rfl, rfl, rfl, trivial⟩ (.inl ⟨rfl, rfl, rfl⟩) ⟨rfl, rfl, rfl, trivial⟩ (fun p hI => ?_)
        obtain ⟨i, c, w⟩ := p
        simp only at hI ⊢
        rcases hI with ⟨rfl, rfl, rfl⟩ | ⟨rfl, k1, rfl, rfl⟩ | ⟨rfl, k1, k2, rfl, rfl⟩
        · skip
          skip
          refine zcq (zbq (zCq rfl rfl ?_))
          refine zdq ?_
          refine zfq (zcq (zMq rfl (ziq (zfq (zcq (zmq (zcq (zbq (zaq rfl rfl (zaq rfl rfl (zeq rfl rfl (zaq rfl rfl (zeq rfl rfl (zdq ?_))))))))))))))
          refine zfq (zcq (zbq (zeq rfl rfl (ztq rfl rfl rfl rfl rfl rfl (juq _) ?_))))
          refine zaq rfl rfl (zaq rfl rfl (zaq rfl rfl (zdq ?_)))
          refine zfq (zcq (zbq (zeq rfl rfl (zaq rfl rfl (zaq rfl rfl (zyq (d + 1) rfl rfl (by first | rfl | omega) ⟨by omega, by omega⟩ ?_))))))
          refine zeq rfl rfl (ztq rfl rfl rfl rfl rfl rfl (ihL _ (d + 1) b hL (by omega)) ?_)
          refine zaq rfl rfl (zaq rfl rfl (zaq rfl rfl (zaq rfl rfl (zaq rfl rfl (zdq ?_)))))
          refine zfq (zcq (zcq (zbq (zaq rfl rfl (zaq rfl rfl (zdq ?_))))))
          refine zfq ?_
          refine zEq rfl (fun h3 => ?_) (fun h3 => ?_)
          · refine zcq (zbq (zaq rfl rfl (zaq rfl rfl (zdq ?_))))
            refine zfq (zjq ?_)
            refine zlq (by intro h; cases h) ?_
            refine zrq (by intro i h; cases h) ?_
            refine zlq (by intro h; cases h) ?_
            refine yhq (by intro h; cases h) ?_
            refine zrq (by intro i h; cases h) ?_
            refine zlq (by intro h; cases h) ?_
            have e : T.ok d b (.fork tl tr) = false := by simp only [T.ok]; rw [show tl.ok (d + 1) b = false by simpa using h3]; simp
            rw [e]
            exact znq (.inr rfl) rfl rfl
          · have hk : tl.ok (d + 1) b = true := by simpa using h3
            refine ziq (zfq (zcq (zcq (zbq (zaq rfl rfl (zCq rfl rfl ?_))))))
            refine zdq ?_
            refine zfq ?_
            refine zEq rfl (fun h4 => ?_) (fun h4 => ?_)
            · have hn : nnI tl = 1 := by have h4 : (0 : Int) < l := h4; unfold nnI; rw [nl, if_pos (decide_eq_true (by omega))]
              refine zbq (zaq rfl rfl ?_)
              first | refine unq rfl rfl ⟨by omega, by omega⟩ ?_ | refine zaq rfl rfl ?_
              refine zaq rfl rfl (zdq ?_)
              refine zfq (zbq (zaq rfl rfl (zaq rfl rfl (zaq rfl rfl (zaq rfl rfl (zaq rfl rfl (zdq ?_)))))))
              refine zrq (by intro i h; cases h) ?_
              refine zfq (zbq (zyq (1) rfl rfl (by first | rfl | omega) ⟨by omega, by omega⟩ ?_))
              refine zaq rfl rfl (zdq ?_)
              exact ykq ((1, 1, tl.ok (d + 1) b && tl.isFork)) (.inr (.inl ⟨rfl, hk, hn.symm, by rw [hk]; rfl⟩)) (by simp) ⟨rfl, rfl, rfl, trivial⟩ ⟨rfl, rfl, rfl, rfl, rfl, trivial⟩ (by repeat (first | exact trivial | refine ⟨by first | rfl | exact zwq (by first | rfl | (simp; done)), ?_⟩)) (by omega) (by repeat (first | exact zOq | refine zRq (by omega) ?_ | refine zPq (by omega) ?_ | refine zQq (by omega) ?_)) rfl
            · have hn : nnI tl = 0 := by have h4 : ¬ (0 : Int) < l := h4; unfold nnI; rw [nl, if_neg (by simp; omega)]
              refine ziq (zfq (zbq (zaq rfl rfl (zaq rfl rfl (zaq rfl rfl (zaq rfl rfl (zaq rfl rfl (zdq ?_))))))))
              refine zrq (by intro i h; cases h) ?_
              refine zfq (zbq (zyq (1) rfl rfl (by first | rfl | omega) ⟨by omega, by omega⟩ ?_))
              refine zaq rfl rfl (zdq ?_)
              exact ykq ((1, 0, tl.ok (d + 1) b && tl.isFork)) (.inr (.inl ⟨rfl, hk, hn.symm, by rw [hk]; rfl⟩)) (by simp) ⟨rfl, rfl, rfl, trivial⟩ ⟨rfl, rfl, rfl, rfl, rfl, trivial⟩ (by repeat (first | exact trivial | refine ⟨by first | rfl | exact zwq (by first | rfl | (simp; done)), ?_⟩)) (by omega) (by repeat (first | exact zOq | refine zRq (by omega) ?_ | refine zPq (by omega) ?_ | refine zQq (by omega) ?_)) rfl
        · skip
          have bd : nnI tl = 0 ∨ nnI tl = 1 := by unfold nnI; split <;> simp
          cases hf : tl.isFork with
          | true =>
            skip
            refine zcq (zbq (zCq rfl rfl ?_))
            refine zdq ?_
            refine zfq (zcq (zMq rfl (ziq (zfq (zcq (zmq (zcq (zbq (zaq rfl rfl (zaq rfl rfl (zeq rfl rfl (zaq rfl rfl (zeq rfl rfl (zdq ?_))))))))))))))
            refine zfq (zcq (zbq (zeq rfl rfl (ztq rfl rfl rfl rfl rfl rfl (juq _) ?_))))
            refine zaq rfl rfl (zaq rfl rfl (zaq rfl rfl (zdq ?_)))
            refine zfq (zcq (zbq (zeq rfl rfl (zaq rfl rfl (zaq rfl rfl (zyq (d + 1) rfl rfl (by first | rfl | omega) ⟨by omega, by omega⟩ ?_))))))
            refine zeq rfl rfl (ztq rfl rfl rfl rfl rfl rfl (ihR _ (d + 1) (qdq b d) hR (by omega)) ?_)
            refine zaq rfl rfl (zaq rfl rfl (zaq rfl rfl (zaq rfl rfl (zaq rfl rfl (zdq ?_)))))
            refine zfq (zcq (zcq (zbq (zaq rfl rfl (zaq rfl rfl (zdq ?_))))))
            refine zfq ?_
            refine zEq rfl (fun h3 => ?_) (fun h3 => ?_)
            · refine zcq (zbq (zaq rfl rfl (zaq rfl rfl (zdq ?_))))
              refine zfq (zjq ?_)
              refine zlq (by intro h; cases h) ?_
              refine zrq (by intro i h; cases h) ?_
              refine zlq (by intro h; cases h) ?_
              refine yhq (by intro h; cases h) ?_
              refine zrq (by intro i h; cases h) ?_
              refine zlq (by intro h; cases h) ?_
              have e : T.ok d b (.fork tl tr) = false := by simp only [T.ok]; rw [show tr.ok (d + 1) (qdq b d) = false by simpa using h3]; simp
              rw [e]
              exact znq (.inr rfl) rfl rfl
            · have hk : tr.ok (d + 1) (qdq b d) = true := by simpa using h3
              refine ziq (zfq (zcq (zcq (zbq (zaq rfl rfl (zCq rfl rfl ?_))))))
              refine zdq ?_
              refine zfq ?_
              refine zEq rfl (fun h4 => ?_) (fun h4 => ?_)
              · have hn : nnI tr = 1 := by have h4 : (0 : Int) < r := h4; unfold nnI; rw [nr, if_pos (decide_eq_true (by omega))]
                refine zbq (zaq rfl rfl ?_)
                first | refine unq rfl rfl ⟨by omega, by omega⟩ ?_ | refine zaq rfl rfl ?_
                refine zaq rfl rfl (zdq ?_)
                refine zfq (zbq (zaq rfl rfl (zaq rfl rfl (zgq rfl (zaq rfl rfl (zaq rfl rfl (zdq ?_)))))))
                refine zrq (by intro i h; cases h) ?_
                refine zfq (zbq (zyq (2) rfl rfl (by first | rfl | omega) ⟨by omega, by omega⟩ ?_))
                refine zaq rfl rfl (zdq ?_)
                exact ykq ((2, nnI tl + 1, true)) (.inr (.inr ⟨rfl, k1, hk, by simp only [hn], rfl⟩)) (by simp) ⟨rfl, rfl, rfl, trivial⟩ ⟨rfl, rfl, rfl, rfl, rfl, trivial⟩ (by repeat (first | exact trivial | refine ⟨by first | rfl | exact zwq (by first | rfl | (simp; done)), ?_⟩)) (by omega) (by repeat (first | exact zOq | refine zRq (by omega) ?_ | refine zPq (by omega) ?_ | refine zQq (by omega) ?_)) rfl
              · have hn : nnI tr = 0 := by have h4 : ¬ (0 : Int) < r := h4; unfold nnI; rw [nr, if_neg (by simp; omega)]
                refine ziq (zfq (zbq (zaq rfl rfl (zaq rfl rfl (zgq rfl (zaq rfl rfl (zaq rfl rfl (zdq ?_))))))))
                refine zrq (by intro i h; cases h) ?_
                refine zfq (zbq (zyq (2) rfl rfl (by first | rfl | omega) ⟨by omega, by omega⟩ ?_))
                refine zaq rfl rfl (zdq ?_)
                exact ykq ((2, nnI tl, true)) (.inr (.inr ⟨rfl, k1, hk, by simp only [hn, Int.add_zero], rfl⟩)) (by simp) ⟨rfl, rfl, rfl, trivial⟩ ⟨rfl, rfl, rfl, rfl, rfl, trivial⟩ (by repeat (first | exact trivial | refine ⟨by first | rfl | exact zwq (by first | rfl | (simp; done)), ?_⟩)) (by omega) (by repeat (first | exact zOq | refine zRq (by omega) ?_ | refine zPq (by omega) ?_ | refine zQq (by omega) ?_)) rfl
          | false =>
            skip
            refine zcq (zbq (zCq rfl rfl ?_))
            refine zdq ?_
            refine zfq (zcq (zMq rfl (ziq (zfq (zcq (zmq (zcq (zbq (zaq rfl rfl (zaq rfl rfl (zeq rfl rfl (zaq rfl rfl (zeq rfl rfl (zdq ?_))))))))))))))
            refine zfq (zcq (zbq (zeq rfl rfl (ztq rfl rfl rfl rfl rfl rfl (juq _) ?_))))
            refine zaq rfl rfl (zaq rfl rfl (zaq rfl rfl (zdq ?_)))
            refine zfq (zcq (zbq (zeq rfl rfl (zaq rfl rfl (zaq rfl rfl (zyq (d + 1) rfl rfl (by first | rfl | omega) ⟨by omega, by omega⟩ ?_))))))
            refine zeq rfl rfl (ztq rfl rfl rfl rfl rfl rfl (ihR _ (d + 1) (qdq b d) hR (by omega)) ?_)
            refine zaq rfl rfl (zaq rfl rfl (zaq rfl rfl (zaq rfl rfl (zaq rfl rfl (zdq ?_)))))
            refine zfq (zcq (zcq (zbq (zaq rfl rfl (zaq rfl rfl (zdq ?_))))))
            refine zfq ?_
            refine zEq rfl (fun h3 => ?_) (fun h3 => ?_)
            · refine zcq (zbq (zaq rfl rfl (zaq rfl rfl (zdq ?_))))
              refine zfq (zjq ?_)
              refine zlq (by intro h; cases h) ?_
              refine zrq (by intro i h; cases h) ?_
              refine zlq (by intro h; cases h) ?_
              refine yhq (by intro h; cases h) ?_
              refine zrq (by intro i h; cases h) ?_
              refine zlq (by intro h; cases h) ?_
              have e : T.ok d b (.fork tl tr) = false := by simp only [T.ok]; rw [show tr.ok (d + 1) (qdq b d) = false by simpa using h3]; simp
              rw [e]
              exact znq (.inr rfl) rfl rfl
            · have hk : tr.ok (d + 1) (qdq b d) = true := by simpa using h3
              refine ziq (zfq (zcq (zcq (zbq (zaq rfl rfl (zCq rfl rfl ?_))))))
              refine zdq ?_
              refine zfq ?_
              refine zEq rfl (fun h4 => ?_) (fun h4 => ?_)
              · have hn : nnI tr = 1 := by have h4 : (0 : Int) < r := h4; unfold nnI; rw [nr, if_pos (decide_eq_true (by omega))]
                refine zbq (zaq rfl rfl ?_)
                first | refine unq rfl rfl ⟨by omega, by omega⟩ ?_ | refine zaq rfl rfl ?_
                refine zaq rfl rfl (zdq ?_)
                refine zfq (zbq (zaq rfl rfl (zaq rfl rfl (zaq rfl rfl (zaq rfl rfl (zaq rfl rfl (zdq ?_)))))))
                refine zrq (by intro i h; cases h) ?_
                refine zfq (zbq (zyq (2) rfl rfl (by first | rfl | omega) ⟨by omega, by omega⟩ ?_))
                refine zaq rfl rfl (zdq ?_)
                exact ykq ((2, nnI tl + 1, tr.ok (d + 1) (qdq b d) && tr.isFork)) (.inr (.inr ⟨rfl, k1, hk, by simp only [hn], by simp [hk]⟩)) (by simp) ⟨rfl, rfl, rfl, trivial⟩ ⟨rfl, rfl, rfl, rfl, rfl, trivial⟩ (by repeat (first | exact trivial | refine ⟨by first | rfl | exact zwq (by first | rfl | (simp; done)), ?_⟩)) (by omega) (by repeat (first | exact zOq | refine zRq (by omega) ?_ | refine zPq (by omega) ?_ | refine zQq (by omega) ?_)) rfl
              · have hn : nnI tr = 0 := by have h4 : ¬ (0 : Int) < r := h4; unfold nnI; rw [nr, if_neg (by simp; omega)]
                refine ziq (zfq (zbq (zaq rfl rfl (zaq rfl rfl (zaq rfl rfl (zaq rfl rfl (zaq rfl rfl (zdq ?_))))))))
                refine zrq (by intro i h; cases h) ?_
                refine zfq (zbq (zyq (2) rfl rfl (by first | rfl | omega) ⟨by omega, by omega⟩ ?_))
                refine zaq rfl rfl (zdq ?_)
                exact ykq ((2, nnI tl, tr.ok (d + 1) (qdq b d) && tr.isFork)) (.inr (.inr ⟨rfl, k1, hk, by simp only [hn, Int.add_zero], by simp [hk]⟩)) (by simp) ⟨rfl, rfl, rfl, trivial⟩ ⟨rfl, rfl, rfl, rfl, rfl, trivial⟩ (by repeat (first | exact trivial | refine ⟨by first | rfl | exact zwq (by first | rfl | (simp; done)), ?_⟩)) (by omega) (by repeat (first | exact zOq | refine zRq (by omega) ?_ | refine zPq (by omega) ?_ | refine zQq (by omega) ?_)) rfl
        · have e : T.ok d b (.fork tl tr) = T.two tl tr := by simp only [T.ok]; rw [decide_eq_true hd', k1, k2]; rfl
          have e2 : (T.fork tl tr).isFork = true := rfl
          rw [e, e2, Bool.and_true]
          have e3 : T.two tl tr = ((tl.isFork || tr.isFork) || decide (nnI tl + nnI tr = 2)) := by
            unfold T.two nnI
            congr 1
            cases tl.non <;> cases tr.non <;> rfl
          rw [e3]
          cases hw : (tl.isFork || tr.isFork) with
          | true =>
            skip
            refine zcq (zbq (zCq rfl rfl ?_))
            refine zdq ?_
            refine zfq (zcq (zAq rfl (ytq ?_)))
            refine zlq (by intro h; cases h) ?_
            refine yhq (by intro h; cases h) ?_
            refine qoq (zfq (zcq (zbq (zaq rfl rfl (zaq rfl rfl (zgq rfl (zgq rfl (zaq rfl rfl (zaq rfl rfl (zdq ?_))))))))))
            refine zfq (zcq (zbq (zaq rfl rfl (zaq rfl rfl (zaq rfl rfl (zaq rfl rfl (zdq ?_)))))))
            refine zfq (zjq ?_)
            exact znq (.inr rfl) rfl rfl
          | false =>
            skip
            refine zcq (zbq (zCq rfl rfl ?_))
            refine zdq ?_
            refine zfq (zcq (zAq rfl (ytq ?_)))
            refine zlq (by intro h; cases h) ?_
            refine yhq (by intro h; cases h) ?_
            refine qoq (zfq (zcq (zbq (zaq rfl rfl (zaq rfl rfl (zaq rfl rfl (zCq rfl rfl ?_)))))))
            refine zaq rfl rfl (zaq rfl rfl (zdq ?_))
            refine zfq (zcq (zbq (zaq rfl rfl (zaq rfl rfl (zaq rfl rfl (zaq rfl rfl (zdq ?_)))))))
            refine zfq (zjq ?_)
            exact znq (.inr rfl) rfl (by simp)
end Go.Proofs.Ytgeelfdgnehdnaa
namespace Go.Proofs.Ytgeelfdgnehdnaa
open Go.RowKit
set_option linter.unusedSimpArgs false
set_option linter.unusedVariables false
theorem fit_node {w : W} (h : Fit (.st 36 [.bool, .arr 32 1 (.int .u8), .sl 1 1 (.int .u8), .int .i64, .int .i64]) w) : ∃ x : Node, w = nW x ∧ x.val.length ≤ 140737488351232 := by
  obtain ⟨l, rfl, w1, l1, rfl, h1, w2, l2, rfl, h2, w3, l3, rfl, h3, w4, l4, rfl, h4, w5, l5, rfl, h5, rfl⟩ := h
  obtain ⟨b, rfl⟩ := fit_bool h1
  obtain ⟨k, rfl⟩ := fit_dig h2
  obtain ⟨v, rfl, hv⟩ := fit_bW h3
  obtain ⟨i, rfl, _⟩ := fit_i64 h4
  obtain ⟨j, rfl, _⟩ := fit_i64 h5
  exact ⟨⟨b, k, v, i, j⟩, rfl, by simpa using hv⟩
theorem fit_tree {w : W} (h : Fit (.st 2 [.sl 36 80 (.st 36 [.bool, .arr 32 1 (.int .u8), .sl 1 1 (.int .u8), .int .i64, .int .i64]), .int .i64]) w) : ∃ t : Tree, w = tW t ∧ t.nodes.length * 80 ≤ 140737488351232 ∧ (∀ x ∈ t.nodes, x.val.length ≤ 140737488351232) ∧ t.root ≤ 9223372036854775807 := by
  obtain ⟨l, rfl, w1, l1, rfl, h1, w2, l2, rfl, h2, rfl⟩ := h
  obtain ⟨ns, rfl, hl, hn⟩ := fit_sl h1 fun x hx => fit_node hx
  obtain ⟨r, rfl, _, hr⟩ := fit_i64 h2
  exact ⟨⟨ns, r⟩, rfl, hl, hn, hr⟩
end Go.Proofs.Ytgeelfdgnehdnaa
namespace Go.Proofs.Ytgeelfdgnehdnaa
open Go.RowKit
set_option linter.unusedSimpArgs false
set_option linter.unusedVariables false
attribute [local irreducible] CoW OpW FlW Step Spec
variable {G : Nat → Option W}
theorem half_pow (x : Nat) {j : Nat} (h1 : 1 ≤ j) (h2 : j ≤ 7) : x / 2 ^ (7 - j) / 2 = x / 2 ^ (7 - (j - 1)) := by
  rw [Nat.div_div_eq_div_mul, ← Nat.pow_succ, show (7 - j).succ = 7 - (j - 1) by omega]
theorem rat_s (k : Dig) (i : Nat) (h : i < 256) : PS cfg G 85 [dW k, .int .i64 (i : Int)] (.int .u8 (bitN k i : Nat)) := by
  have hk := xpq k (i / 8)
  refine ynq (fn := Try.f85) rfl rfl rfl (Nat.le_of_ble_eq_true rfl) (fun R k0 => ?_)
  refine zcq (zbq (zeq rfl rfl (zaq rfl rfl (zdq ?_))))
  refine zfq (zcq (zbq (zaq rfl rfl (zyq (i / 8) rfl rfl (j5q i 8) ⟨by omega, by omega⟩ ?_))))
  refine zaq rfl (z0q (i := i / 8) rfl rfl rfl rfl rfl rfl (by omega)) ?_
  refine zeq rfl (yYq rfl rfl rfl (dW_ld k (by omega))) ?_
  refine zaq rfl rfl (zdq ?_)
  refine zfq (zcq (zcq (zbq (zaq rfl rfl (zdq ?_)))))
  refine zfq (zmq ?_)
  refine ySq (α := Nat × Nat) (fun p => p.1 ≤ 7 ∧ i % 8 ≤ p.1 ∧ p.2 = kn k (i / 8) / 2 ^ (7 - p.1) ∧ p.2 ≤ 255) (fun p => [(6, .int .i64 (p.1 : Int)), (5, .int .u8 (p.2 : Nat))]) [(1, _), (4, _)] (fun p => p.1) ((7, kn k (i / 8))) ⟨rfl, rfl, trivial⟩ (⟨Nat.le_refl _, by show i % 8 ≤ 7; omega, by simp, hk⟩) ⟨rfl, rfl, trivial⟩ (fun p hI => ?_)
  obtain ⟨j, c⟩ := p
  obtain ⟨g1, g2, g3, g4⟩ := hI
  simp only at g1 g2 g3 g4 ⊢
  refine zcq (zcq (zbq (zaq rfl rfl (zaq rfl rfl (zNq rfl rfl (congrArg (W.int .i64) (kVq i 8)) (zCq rfl rfl ?_))))))
  refine zdq ?_
  refine zfq ?_
  refine zEq rfl (fun h1 => ?_) (fun h1 => ?_)
  · have hj : i % 8 < j := by omega
    refine ziq (zfq (zcq (zmq (zbq (zaq rfl rfl (zyq (c / 2) rfl rfl (j5q c 2) ⟨by omega, by omega⟩ ?_))))))
    refine zaq rfl rfl (zdq ?_)
    refine zrq (by intro i h; cases h) ?_
    refine zfq (zbq (zaq rfl rfl (zyq (j - 1) rfl rfl (by first | rfl | omega) ⟨by omega, by omega⟩ ?_)))
    refine zaq rfl rfl (zdq ?_)
    exact ykq ((j - 1, c / 2)) (⟨by simp only; omega, by simp only; omega, by simp only [g3]; exact half_pow _ (by omega) g1, by simp only; omega⟩) (by simp only; omega) ⟨rfl, rfl, trivial⟩ ⟨rfl, rfl, trivial⟩ (by repeat (first | exact trivial | refine ⟨by first | rfl | exact zwq (by first | rfl | (simp; done)), ?_⟩)) (by omega) (by repeat (first | exact zOq | refine zRq (by omega) ?_ | refine zPq (by omega) ?_ | refine zQq (by omega) ?_)) rfl
  · have hj : i % 8 = j := by omega
    refine ytq ?_
    refine zlq (by intro h; cases h) ?_
    refine yhq (by intro h; cases h) ?_
    refine qoq (zfq (zcq (zbq (zaq rfl rfl (zNq (w' := .int .u8 ((c % 2 : Nat) : Int)) rfl rfl (congrArg (W.int .u8) (kVq c 2)) (zaq rfl rfl (zdq ?_)))))))
    refine zfq (zjq ?_)
    refine znq (.inr rfl) rfl ?_
    rw [g3, ← hj]
    unfold bitN
    rfl
theorem rshared_s (a b : Dig) : PS cfg G 69 [dW a, dW b] (.int .i64 (ydq a b : Nat)) := by
  refine ynq (fn := Try.f69) rfl rfl rfl (Nat.le_of_ble_eq_true rfl) (fun R k0 => ?_)
  refine zcq (zbq (zeq rfl rfl (zeq rfl rfl (zaq rfl rfl (zdq ?_)))))
  refine zfq (zcq (zbq (zaq rfl rfl (zdq ?_))))
  refine zfq (zcq (zmq ?_))
  refine ySq (α := Nat) (fun n => n ≤ 256 ∧ ∀ j, j < n → bitN a j = bitN b j) (fun n => [(5, .int .i64 (n : Int))]) [(2, _), (3, _), (4, _)] (fun n => 256 - n) (0) ⟨rfl, rfl, rfl, trivial⟩ (⟨Nat.zero_le _, fun j h => by omega⟩) ⟨rfl, trivial⟩ (fun n hI => ?_)
  obtain ⟨g1, g2⟩ := hI
  refine zcq (zcq (zZq (zhq rfl rfl ?_)))
  refine fl_dz rfl rfl (fun h1 => ?_) (fun h1 => ?_)
  · have hn : n < 256 := by omega
    refine zhq rfl rfl (zDq rfl rfl ?_)
    refine zhq rfl rfl ?_
    refine qUq rfl rfl rfl rfl rfl rfl (rat_s _ _ (by omega)) ?_
    refine zDq rfl rfl ?_
    refine zhq rfl rfl ?_
    refine qUq rfl rfl rfl rfl rfl rfl (rat_s _ _ (by omega)) ?_
    refine fl_cz rfl rfl ?_
    refine zhq rfl rfl (z6q ?_)
    refine zfq ?_
    refine zEq rfl (fun h2 => ?_) (fun h2 => ?_)
    · refine ziq (zfq (zmq (zbq (zaq rfl rfl (zyq (n + 1) rfl rfl (by first | rfl | omega) ⟨by omega, by omega⟩ ?_)))))
      refine zaq rfl rfl (zdq ?_)
      refine zrq (by intro i h; cases h) ?_
      exact ykq (n + 1) (⟨hn, fun j hj => by rcases Nat.lt_succ_iff_lt_or_eq.1 hj with q | rfl; exact g2 j q; omega⟩) (by omega) ⟨rfl, trivial⟩ ⟨rfl, rfl, rfl, trivial⟩ (by repeat (first | exact trivial | refine ⟨by first | rfl | exact zwq (by first | rfl | (simp; done)), ?_⟩)) (by omega) (by repeat (first | exact zOq | refine zRq (by omega) ?_ | refine zPq (by omega) ?_ | refine zQq (by omega) ?_)) rfl
    · refine ytq ?_
      refine zlq (by intro h; cases h) ?_
      refine yhq (by intro h; cases h) ?_
      refine qoq (zfq (zcq (zbq (zaq rfl rfl (zaq rfl rfl (zdq ?_))))))
      refine zfq (zjq ?_)
      refine znq (.inr rfl) rfl ?_
      rw [xeq (jsq a b) (t := n) ⟨g2, .inr ⟨hn, by omega⟩⟩]
  · have hn : n = 256 := by omega
    refine zhq rfl rfl (zLq rfl (zLq rfl (zLq rfl (zLq rfl (zLq rfl (zLq rfl (zLq rfl (zhq rfl rfl (z6q ?_)))))))))
    refine zfq (zAq rfl (ytq ?_))
    refine zlq (by intro h; cases h) ?_
    refine yhq (by intro h; cases h) ?_
    refine qoq (zfq (zcq (zbq (zaq rfl rfl (zaq rfl rfl (zdq ?_))))))
    refine zfq (zjq ?_)
    refine znq (.inr rfl) rfl ?_
    rw [xeq (jsq a b) (t := n) ⟨g2, .inl hn⟩]
theorem rahead_s (a b : Dig) : PS cfg G 83 [dW a, dW b] (.bool (ypq a b)) := by
  refine ynq (fn := Try.f83) rfl rfl rfl (Nat.le_of_ble_eq_true rfl) (fun R k0 => ?_)
  refine zcq (zbq (zeq rfl rfl (zeq rfl rfl (zaq rfl rfl (zdq ?_)))))
  refine zfq (zcq (zbq (zeq rfl rfl (zeq rfl rfl (ztq rfl rfl rfl rfl rfl rfl (rshared_s _ _) ?_)))))
  refine zaq rfl rfl (zdq ?_)
  refine zfq (zcq (zZq (zhq rfl rfl ?_)))
  refine fl_dz rfl rfl (fun h1 => ?_) (fun h1 => ?_)
  · have hn : ydq a b < 256 := by omega
    refine zhq rfl rfl (zDq rfl rfl ?_)
    refine zhq rfl rfl ?_
    refine qUq rfl rfl rfl rfl rfl rfl (rat_s _ _ (by omega)) ?_
    refine zDq rfl rfl ?_
    refine zhq rfl rfl ?_
    refine qUq rfl rfl rfl rfl rfl rfl (rat_s _ _ (by omega)) ?_
    refine fl_cz rfl rfl ?_
    refine zhq rfl rfl (zhq rfl rfl (z6q ?_))
    refine zfq (zjq ?_)
    refine znq (.inr rfl) rfl ?_
    rw [YTq]
    exact congrArg W.bool (decide_eq_decide.2 (by omega))
  · refine zhq rfl rfl (zLq rfl (zLq rfl (zLq rfl (zLq rfl (zLq rfl (zLq rfl (zLq rfl (zhq rfl rfl (zhq rfl rfl (z6q ?_))))))))))
    refine zfq (zjq ?_)
    refine znq (.inr rfl) rfl ?_
    rw [YTq, decide_eq_false (show ¬ (ydq a b < 256 ∧ bitN a (ydq a b) < bitN b (ydq a b)) by omega)]
theorem xor_sub : ∀ x, x < 256 → ∀ e, e < 8 → x / 2 ^ e % 2 = 1 → 2 ^ e ≤ x ∧ x ^^^ 2 ^ e = x - 2 ^ e := by decide +kernel
theorem xor_add : ∀ x, x < 256 → ∀ e, e < 8 → ¬ x / 2 ^ e % 2 = 1 → x + 2 ^ e < 256 ∧ x ^^^ 2 ^ e = x + 2 ^ e := by decide +kernel
theorem rturn_in (k : Dig) (i : Nat) (h : i < 256) : PS cfg G 70 [dW k, .int .i64 (i : Int)] (.tup [dW (qdq k i), .int .i64 0]) := by
  have hk := xpq k (i / 8)
  refine ynq (fn := Try.f70) rfl rfl rfl (Nat.le_of_ble_eq_true rfl) (fun R k0 => ?_)
  refine zcq (zbq (zeq rfl rfl (zeq rfl rfl (zaq rfl rfl (zdq ?_)))))
  refine zfq (zcq (zcq (zbq (zaq rfl rfl ?_))))
  refine y3q rfl rfl (fun h1 => ?_) (fun h1 => ?_)
  · exfalso; omega
  refine zaq rfl rfl (zaq rfl rfl (zCq rfl rfl ?_))
  refine zaq rfl rfl (zdq ?_)
  refine zfq ?_
  refine zEq rfl (fun h2 => ?_) (fun h2 => ?_)
  · exfalso; omega
  refine ziq (zfq (zcq (zbq (zaq rfl rfl (zdq ?_)))))
  refine zfq (zcq (zcq (zbq (zaq rfl rfl (zdq ?_)))))
  refine zfq (zmq ?_)
  refine ySq (α := Nat × Nat) (fun p => p.1 ≤ 7 ∧ i % 8 ≤ p.1 ∧ p.2 = 2 ^ (7 - p.1)) (fun p => [(7, .int .i64 (p.1 : Int)), (6, .int .u8 (p.2 : Nat))]) [(1, _), (2, _), (4, _), (5, _)] (fun p => p.1) ((7, 1)) ⟨rfl, rfl, rfl, rfl, trivial⟩ (⟨Nat.le_refl _, by show i % 8 ≤ 7; omega, rfl⟩) ⟨rfl, rfl, trivial⟩ (fun p hI => ?_)
  obtain ⟨j, c⟩ := p
  obtain ⟨g1, g2, g3⟩ := hI
  simp only at g1 g2 g3 ⊢
  refine zcq (zcq (zbq (zaq rfl rfl (zaq rfl rfl (zNq rfl rfl (congrArg (W.int .i64) (kVq i 8)) (zCq rfl rfl ?_))))))
  refine zdq ?_
  refine zfq ?_
  refine zEq rfl (fun h3 => ?_) (fun h3 => ?_)
  · have hj : i % 8 < j := by omega
    have hc : 2 * c ≤ 255 := by
      have := pow_le (j - 1)
      rw [show 7 - (j - 1) = 7 - j + 1 by omega, Nat.pow_succ] at this
      omega
    refine ziq (zfq (zcq (zmq (zbq (zaq rfl rfl (zyq (2 * c) rfl rfl (by first | rfl | omega) ⟨by omega, by omega⟩ ?_))))))
    refine zaq rfl rfl (zdq ?_)
    refine zrq (by intro i h; cases h) ?_
    refine zfq (zbq (zaq rfl rfl (zyq (j - 1) rfl rfl (by first | rfl | omega) ⟨by omega, by omega⟩ ?_)))
    refine zaq rfl rfl (zdq ?_)
    exact ykq ((j - 1, 2 * c)) (⟨by simp only; omega, by simp only; omega, by simp only [g3]; rw [show 7 - (j - 1) = 7 - j + 1 by omega, Nat.pow_succ, Nat.mul_comm]⟩) (by simp only; omega) ⟨rfl, rfl, trivial⟩ ⟨rfl, rfl, rfl, rfl, trivial⟩ (by repeat (first | exact trivial | refine ⟨by first | rfl | exact zwq (by first | rfl | (simp; done)), ?_⟩)) (by omega) (by repeat (first | exact zOq | refine zRq (by omega) ?_ | refine zPq (by omega) ?_ | refine zQq (by omega) ?_)) rfl
  · have hj : i % 8 = j := by omega
    subst hj
    refine ytq ?_
    refine zlq (by intro h; cases h) ?_
    refine yhq (by intro h; cases h) ?_
    refine qoq (zfq (zcq (zcq (zbq (zeq rfl rfl (zaq rfl rfl (ztq rfl rfl rfl rfl rfl rfl (rat_s _ _ (by omega)) ?_)))))))
    refine zCq rfl rfl ?_
    refine zdq ?_
    refine zfq ?_
    refine zEq rfl (fun h4 => ?_) (fun h4 => ?_)
    · have hb : kn k (i / 8) / 2 ^ (7 - i % 8) % 2 = 1 := by
        have h4 : ((bitN k i : Nat) : Int) = 1 := h4
        unfold bitN at h4
        omega
      obtain ⟨q1, q2⟩ := xor_sub _ (by omega) _ (by omega) hb
      refine zbq (zaq rfl rfl (zyq (i / 8) rfl rfl (j5q i 8) ⟨by omega, by omega⟩ ?_))
      refine zaq rfl (z0q (i := i / 8) rfl rfl rfl rfl rfl rfl (by omega)) ?_
      refine zeq rfl (yYq rfl rfl rfl (dW_ld k (by omega))) ?_
      refine zaq rfl rfl (zyq (kn k (i / 8) - c) rfl rfl (by first | rfl | omega) ⟨by omega, by omega⟩ ?_)
      refine zaq rfl (z0q (i := i / 8) rfl rfl rfl rfl rfl rfl (by omega)) ?_
      refine zeq rfl (uIq rfl rfl rfl rfl rfl (kXq (i := 0 + i / 8 * 1) (by rw [Nat.zero_add, Nat.mul_one]; exact dW_at k (by omega)) rfl rfl) rfl) ?_
      refine zdq ?_
      refine zfq (zcq (zbq (zeq rfl rfl (zeq rfl rfl (zaq rfl rfl (zdq ?_))))))
      refine zfq (zjq ?_)
      refine znq (.inr rfl) rfl ?_
      rw [Nat.zero_add, Nat.mul_one, dW_set k (i / 8) (by omega), g3, ← q2]
      unfold qdq
      rfl
    · have hb : ¬ kn k (i / 8) / 2 ^ (7 - i % 8) % 2 = 1 := by
        have h4 : ¬ ((bitN k i : Nat) : Int) = 1 := h4
        unfold bitN at h4
        omega
      obtain ⟨q1, q2⟩ := xor_add _ (by omega) _ (by omega) hb
      refine zbq (zaq rfl rfl (zyq (i / 8) rfl rfl (j5q i 8) ⟨by omega, by omega⟩ ?_))
      refine zaq rfl (z0q (i := i / 8) rfl rfl rfl rfl rfl rfl (by omega)) ?_
      refine zeq rfl (yYq rfl rfl rfl (dW_ld k (by omega))) ?_
      refine zaq rfl rfl (zyq (kn k (i / 8) + c) rfl rfl (by first | rfl | omega) ⟨by omega, by omega⟩ ?_)
      refine zaq rfl (z0q (i := i / 8) rfl rfl rfl rfl rfl rfl (by omega)) ?_
      refine zeq rfl (uIq rfl rfl rfl rfl rfl (kXq (i := 0 + i / 8 * 1) (by rw [Nat.zero_add, Nat.mul_one]; exact dW_at k (by omega)) rfl rfl) rfl) ?_
      refine zdq ?_
      refine zfq (zcq (zbq (zeq rfl rfl (zeq rfl rfl (zaq rfl rfl (zdq ?_))))))
      refine zfq (zjq ?_)
      refine znq (.inr rfl) rfl ?_
      rw [Nat.zero_add, Nat.mul_one, dW_set k (i / 8) (by omega), g3, ← q2]
      unfold qdq
      rfl
theorem rvalue_s (l : List UInt8) (f : Bool) : PS cfg G 68 [.fz (zBq l) 1 f] (.bool (valB l)) := by
  have e := yoq l
  refine ynq (fn := Try.f68) rfl rfl rfl (Nat.le_of_ble_eq_true rfl) (fun R k0 => ?_)
  refine zcq (zbq (zaq rfl rfl (zdq ?_)))
  refine zfq (zcq (zbq (zaq rfl rfl (zNq (w' := .int .i64 (l.length : Int)) rfl rfl (by rw [← e]; rfl) ?_))))
  refine y3q rfl rfl (fun h1 => ?_) (fun h1 => ?_)
  · have h0 : 0 < l.length := by omega
    refine zaq rfl rfl (zaq rfl rfl (zNq (w' := .int .i64 (l.length : Int)) rfl rfl (by rw [← e]; rfl) ?_))
    refine zCq rfl rfl ?_
    refine zaq rfl rfl (zaq rfl rfl (zdq ?_))
    refine zfq (zjq ?_)
    refine znq (.inr rfl) rfl ?_
    unfold valB
    rw [decide_eq_true h0, Bool.true_and]
    exact congrArg W.bool (decide_eq_decide.2 (by omega))
  · have h0 : ¬ 0 < l.length := by omega
    refine zaq rfl rfl (zgq rfl (zgq rfl (zgq rfl (zaq rfl rfl (zaq rfl rfl (zdq ?_))))))
    refine zfq (zjq ?_)
    refine znq (.inr rfl) rfl ?_
    unfold valB
    rw [decide_eq_false h0, Bool.false_and]
end Go.Proofs.Ytgeelfdgnehdnaa
namespace Go.Proofs.Ytgeelfdgnehdnaa
open Go.RowKit
set_option linter.unusedSimpArgs false
set_option linter.unusedVariables false
attribute [local irreducible] CoW OpW FlW Step Spec
variable {G : Nat → Option W}
def okN (ns : List Node) : Prop := ∀ i x, ns[i]? = some x → oneB x i
theorem rep_of {ns : List Node} (h : okN ns) : ∀ n, n ≤ ns.length → ∃ t, Rep ns n t := by
  intro n
  induction n using Nat.strongRecOn with
  | _ n ih =>
    intro hn
    cases n with
    | zero => exact ⟨_, .nil⟩
    | succ n =>
      obtain ⟨x, hx⟩ : ∃ x, ns[n]? = some x := ⟨_, List.getElem?_eq_getElem hn⟩
      have h1 := h n x hx
      obtain ⟨lf, k, v, l, r⟩ := x
      cases lf with
      | true => exact ⟨_, .leaf hx⟩
      | false =>
        simp only [oneB, Bool.false_eq_true, if_false] at h1
        obtain ⟨⟨a1, a2⟩, ⟨b1, b2⟩, _⟩ := h1
        obtain ⟨l, rfl⟩ := Int.eq_ofNat_of_zero_le a1
        obtain ⟨r, rfl⟩ := Int.eq_ofNat_of_zero_le b1
        obtain ⟨L, hL⟩ := ih l (by omega) (by omega)
        obtain ⟨R, hR⟩ := ih r (by omega) (by omega)
        exact ⟨_, .fork hx (by omega) (by omega) hL hR⟩
theorem Rep.uniq {ns : List Node} {n : Nat} {t : T} (h : Rep ns n t) : ∀ {t' : T}, Rep ns n t' → t = t' := by
  induction h with
  | nil => intro t' h'; cases h'; rfl
  | leaf h =>
    intro t' h'
    cases h' with
    | leaf h2 => rw [h] at h2; cases h2; rfl
    | fork h2 => rw [h] at h2; cases h2
  | fork h hl hr _ _ i1 i2 =>
    intro t' h'
    cases h' with
    | leaf h2 => rw [h] at h2; cases h2
    | fork h2 _ _ hL hR =>
      rw [h] at h2
      simp only [Option.some.injEq, Node.mk.injEq, Int.natCast_inj, true_and] at h2
      obtain ⟨_, _, rfl, rfl⟩ := h2
      rw [i1 hL, i2 hR]
def MayT (t : Tree) : Prop := t.nodes.length ≤ 262144 ∧ okN t.nodes ∧ ∃ (n : Nat) (t0 : T), t.root = n ∧ Rep t.nodes n t0 ∧ t0.ok 0 qSq = true
noncomputable instance (t : Tree) : Decidable (MayT t) := Classical.propDecidable _
theorem qnq (t : Tree) (hb : t.nodes.length ≤ 4611686018427387903) : PS cfg G 33 [tW t] (.int .i64 (if MayT t then 0 else 8)) := by
  have e : (t.nodes.map nW).length = t.nodes.length := List.length_map _
  have no : ∀ {R : Res} {k0 : Nat}, ¬ MayT t → W.int .i64 8 = W.int .i64 (if MayT t then 0 else 8) := fun h => by rw [if_neg h]
  refine ynq (fn := Try.f33) rfl rfl rfl (Nat.le_of_ble_eq_true rfl) (fun R k0 => ?_)
  refine zcq (zbq (zeq rfl rfl (zaq rfl rfl (zdq ?_))))
  refine zfq (zcq (zcq (zbq (zaq rfl rfl (zeq rfl rfl (zNq (w' := .int .i64 (t.nodes.length : Int)) rfl rfl (by rw [← e]; rfl) ?_))))))
  refine y3q rfl rfl (fun h1 => ?_) (fun h1 => ?_)
  · have hno : ¬ MayT t := fun h => by have := h.1; omega
    refine zaq rfl rfl (zgq rfl (zgq rfl (zgq rfl (zaq rfl rfl (zaq rfl rfl (zgq rfl (zgq rfl (zgq rfl (zgq rfl (zgq rfl (zgq rfl (zaq rfl rfl (zdq ?_)))))))))))))
    refine zfq (zMq rfl (zcq (zbq (zaq rfl rfl (zdq ?_)))))
    refine zfq (zjq ?_)
    refine zlq (by intro h; cases h) ?_
    exact znq (.inr rfl) rfl (by rw [if_neg hno])
  refine zaq rfl rfl (zaq rfl rfl (zeq rfl rfl ?_))
  refine y3q rfl rfl (fun h2 => ?_) (fun h2 => ?_)
  · have hno : ¬ MayT t := fun h => by obtain ⟨_, _, n, _, h, _⟩ := h; have h2 : t.root < 0 := h2; omega
    refine zaq rfl rfl (zaq rfl rfl (zgq rfl (zgq rfl (zgq rfl (zgq rfl (zgq rfl (zgq rfl (zaq rfl rfl (zdq ?_)))))))))
    refine zfq (zMq rfl (zcq (zbq (zaq rfl rfl (zdq ?_)))))
    refine zfq (zjq ?_)
    refine zlq (by intro h; cases h) ?_
    exact znq (.inr rfl) rfl (by rw [if_neg hno])
  refine zaq rfl rfl (zaq rfl rfl (zaq rfl rfl (zeq rfl rfl (zaq rfl rfl (zeq rfl rfl (zNq (w' := .int .i64 (t.nodes.length : Int)) rfl rfl (by rw [← e]; rfl) ?_))))))
  refine zCq rfl rfl ?_
  refine zaq rfl rfl (zdq ?_)
  refine zfq ?_
  refine zEq rfl (fun h3 => ?_) (fun h3 => ?_)
  · have hno : ¬ MayT t := fun h => by obtain ⟨_, _, n, _, h, hr, _⟩ := h; have h3 : (t.nodes.length : Int) < t.root := h3; have := hr.le; omega
    refine zcq (zbq (zaq rfl rfl (zdq ?_)))
    refine zfq (zjq ?_)
    refine zlq (by intro h; cases h) ?_
    exact znq (.inr rfl) rfl (by rw [if_neg hno])
  have h2 : ¬ t.root < 0 := h2
  have h3 : ¬ (t.nodes.length : Int) < t.root := h3
  obtain ⟨n0, hn0⟩ := Int.eq_ofNat_of_zero_le (show 0 ≤ t.root by omega)
  refine ziq (zfq (zcq (zcq (zbq (zaq rfl rfl (zeq rfl rfl (zNq (w' := .int .i64 (t.nodes.length : Int)) rfl rfl (by rw [← e]; rfl) ?_)))))))
  refine zaq rfl rfl (zdq ?_)
  refine zfq (zmq ?_)
  refine ySq (α := Nat) (fun i => i ≤ t.nodes.length ∧ ∀ j x, j < i → t.nodes[j]? = some x → oneB x j) (fun i => [(27, .int .i64 (i : Int))]) [(1, _), (2, _), (25, _), (26, _)] (fun i => t.nodes.length - i) (0) ⟨rfl, rfl, rfl, rfl, trivial⟩ (⟨Nat.zero_le _, fun j x hj => by omega⟩) ⟨rfl, trivial⟩ (fun i hI => ?_)
  obtain ⟨hi, hI⟩ := hI
  refine zcq (zbq (zCq rfl rfl ?_))
  refine zdq ?_
  refine zfq (zcq ?_)
  refine zEq rfl (fun h4 => ?_) (fun h4 => ?_)
  · have hi' : i < t.nodes.length := by omega
    obtain ⟨x, hx⟩ : ∃ x, t.nodes[i]? = some x := ⟨_, List.getElem?_eq_getElem hi'⟩
    refine ziq (zfq (zcq (zmq (zcq (zbq (zaq rfl rfl (zaq rfl (z7q (i := i) rfl rfl rfl rfl rfl rfl rfl (yLq nW hx)) (zeq rfl rfl (zeq rfl rfl (zaq rfl rfl (zeq rfl rfl (zdq ?_))))))))))))
    refine zfq (zcq (zbq (zeq rfl rfl (zaq rfl rfl (ztq rfl rfl rfl rfl rfl rfl (one_s _ _ (by omega)) ?_)))))
    refine zaq rfl rfl (zdq ?_)
    refine zfq ?_
    refine zEq rfl (fun h5 => ?_) (fun h5 => ?_)
    · have hno : ¬ MayT t := fun h => by have := h.2.1 i x hx; simp [this] at h5
      refine zcq (zbq (zaq rfl rfl (zdq ?_)))
      refine zfq (zjq ?_)
      refine zrq (by intro i h; cases h) ?_
      refine zlq (by intro h; cases h) ?_
      refine yhq (by intro h; cases h) ?_
      refine zrq (by intro i h; cases h) ?_
      refine zlq (by intro h; cases h) ?_
      exact znq (.inr rfl) rfl (by rw [if_neg hno])
    · have h5 : oneB x i := by simpa using h5
      refine ziq (zrq (by intro i h; cases h) ?_)
      refine zfq (zbq (zyq (i + 1) rfl rfl (by first | rfl | omega) ⟨by omega, by omega⟩ ?_))
      refine zaq rfl rfl (zdq ?_)
      exact ykq (i + 1) (⟨hi', fun j y hj hy => by rcases Nat.lt_succ_iff_lt_or_eq.1 hj with h | rfl; exact hI j y h hy; exact (Option.some.inj (hx.symm.trans hy)) ▸ h5⟩) (by omega) ⟨rfl, trivial⟩ ⟨rfl, rfl, rfl, rfl, trivial⟩ (by repeat (first | exact trivial | refine ⟨by first | rfl | exact zwq (by first | rfl | (simp; done)), ?_⟩)) (by omega) (by repeat (first | exact zOq | refine zRq (by omega) ?_ | refine zPq (by omega) ?_ | refine zQq (by omega) ?_)) rfl
  · have okn : okN t.nodes := fun j x hx => hI j x (by have := (List.getElem?_eq_some_iff.1 hx).1; omega) hx
    obtain ⟨t0, ht0⟩ := rep_of okn n0 (by omega)
    have key : MayT t ↔ t0.ok 0 qSq = true := by
      constructor
      · rintro ⟨_, _, n, t1, hn, hr, hk⟩
        obtain rfl : n = n0 := by omega
        rw [ht0.uniq hr]; exact hk
      · exact fun h => ⟨by omega, okn, n0, t0, hn0, ht0, h⟩
    refine ytq ?_
    refine zlq (by intro h; cases h) ?_
    refine yhq (by intro h; cases h) ?_
    refine qoq (zfq (zcq (zcq (zbq (zeq rfl rfl (zaq rfl rfl (zeq rfl rfl (zNq rfl rfl uxq ?_))))))))
    refine op_ps rfl rfl rfl rfl rfl (by rw [hn0]; rfl) (right_s t (by omega) t0 n0 0 qSq ht0 (by omega)) (by simp) (by simp) ?_
    refine zaq rfl rfl (zaq rfl rfl (zaq rfl rfl (zaq rfl rfl (zaq rfl rfl (zdq ?_)))))
    refine zfq (zcq (zbq (zaq rfl rfl (zaq rfl rfl (zdq ?_)))))
    refine zfq ?_
    refine zEq rfl (fun h5 => ?_) (fun h5 => ?_)
    · have hno : ¬ MayT t := fun h => by have := key.1 h; simp [this] at h5
      refine zcq (zbq (zaq rfl rfl (zdq ?_)))
      refine zfq (zjq ?_)
      refine zlq (by intro h; cases h) ?_
      exact znq (.inr rfl) rfl (by rw [if_neg hno])
    · have yes : MayT t := key.2 (by simpa using h5)
      refine ziq (zfq (zcq (zbq (zaq rfl rfl (zdq ?_)))))
      refine zfq (zjq ?_)
      exact znq (.inr rfl) rfl (by rw [if_pos yes])
inductive FTo (ns : List Node) (k : Dig) : Nat → Nat → Nat → Prop where
  | nil {d : Nat} : FTo ns k 0 d 0
  | hit {n d : Nat} {v : List UInt8} {l r : Int} (h : ns[n]? = some ⟨true, k, v, l, r⟩) : FTo ns k (n + 1) d (n + 1)
  | miss {n d : Nat} {k' : Dig} {v : List UInt8} {l r : Int} (h : ns[n]? = some ⟨true, k', v, l, r⟩) (hk : k' ≠ k) : FTo ns k (n + 1) d 0
  | go {n d l r m : Nat} {k' : Dig} {v : List UInt8} (h : ns[n]? = some ⟨false, k', v, l, r⟩) (hd : d < 256) (hg : FTo ns k (if bitN k d = 0 then l else r) (d + 1) m) : FTo ns k (n + 1) d m
theorem fto_of {ns : List Node} {k : Dig} {n : Nat} {t : T} (h : Rep ns n t) : ∀ {d : Nat} {b : Dig}, t.ok d b = true → ∃ m, FTo ns k n d m ∧ (t.find k d = none → m = 0) ∧ ∀ v, t.find k d = some v → ∃ j l r, m = j + 1 ∧ ns[j]? = some ⟨true, k, v, l, r⟩ := by
  induction h with
  | nil => exact fun _ => ⟨0, .nil, fun _ => rfl, fun v h => by simp [T.find] at h⟩
  | leaf h =>
    rename_i n k' v l r
    intro d b _
    by_cases e : k' = k
    · subst e
      exact ⟨n + 1, .hit h, fun hn => by simp [T.find] at hn, fun w hw => by simp only [T.find, if_true, Option.some.injEq] at hw; subst hw; exact ⟨n, l, r, rfl, h⟩⟩
    · exact ⟨0, .miss h e, fun _ => rfl, fun w hw => by simp [T.find, e] at hw⟩
  | fork h hl hr hL hR i1 i2 =>
    intro d b hk
    obtain ⟨hd, k1, k2, _⟩ := ok_fork.1 hk
    by_cases hb : bitN k d = 0
    · obtain ⟨m, g1, g2, g3⟩ := i1 k1
      exact ⟨m, .go h hd (by rw [if_pos hb]; exact g1), by simp only [T.find, if_pos hb]; exact g2, by simp only [T.find, if_pos hb]; exact g3⟩
    · obtain ⟨m, g1, g2, g3⟩ := i2 k2
      exact ⟨m, .go h hd (by rw [if_neg hb]; exact g1), by simp only [T.find, if_neg hb]; exact g2, by simp only [T.find, if_neg hb]; exact g3⟩
theorem yKq (k : Dig) (d c : Nat) (h : d < 256) (hc : bitN k d = c) : PS cfg G 62 [dW k, .int .i64 (d : Int)] (.int .u8 (c : Int)) := hc ▸ tbit_s k d h
theorem tfind_s (t : Tree) (k : Dig) (n m : Nat) (hn : t.root = n) (hf : FTo t.nodes k n 0 m) (hb : t.nodes.length ≤ 4611686018427387903) : PS cfg G 34 [tW t, dW k] (.int .i64 (m : Int)) := by
  obtain ⟨ns, root⟩ := t
  simp only at hn hf hb
  subst hn
  refine ynq (fn := Try.f34) rfl rfl rfl (Nat.le_of_ble_eq_true rfl) (fun R k0 => ?_)
  refine zcq (zbq (zeq rfl rfl (zeq rfl rfl (zaq rfl rfl (zdq ?_)))))
  refine zfq (zcq (zbq (zaq rfl rfl (zeq rfl rfl (zaq rfl rfl (zdq ?_))))))
  refine zfq (zcq (zcq (zbq (zaq rfl rfl (zdq ?_)))))
  refine zfq (zmq ?_)
  refine ySq (α := Nat × Nat) (fun p => FTo ns k p.1 p.2 m ∧ p.2 ≤ 256) (fun p => [(5, .int .i64 (p.1 : Int)), (6, .int .i64 (p.2 : Int))]) [(2, _), (3, _), (4, _)] (fun p => 257 - p.2) ((n, 0)) ⟨rfl, rfl, rfl, trivial⟩ (⟨hf, by simp⟩) ⟨rfl, rfl, trivial⟩ (fun p hI => ?_)
  obtain ⟨i, d⟩ := p
  obtain ⟨hf, hd⟩ := hI
  simp only at hf hd ⊢
  refine zcq (zcq (zbq (zaq rfl rfl (zCq rfl rfl ?_))))
  refine zdq ?_
  refine zfq ?_
  refine zEq rfl (fun h1 => ?_) (fun h1 => ?_)
  · cases hf with
    | nil => exfalso; omega
    | hit h =>
      skip
      rename_i i v l r
      have hi := (List.getElem?_eq_some_iff.1 h).1
      refine ziq (zfq (zcq (zmq (zcq (zbq (zaq rfl rfl (zeq rfl rfl (zaq rfl rfl (zyq (i) rfl rfl (by first | rfl | omega) ⟨by omega, by omega⟩ ?_)))))))))
      refine zaq rfl (z7q (i := i) rfl rfl rfl rfl rfl rfl rfl (yLq nW h)) (zeq rfl rfl (zeq rfl rfl (zeq rfl rfl (zdq ?_))))
      refine zfq (zcq (zcq (zbq (zaq rfl rfl (zeq rfl rfl (zdq ?_))))))
      refine zfq (zMq rfl (zcq (zcq (zbq (zaq rfl rfl (zeq rfl rfl (zeq rfl rfl ?_)))))))
      refine jUq rfl (qkq rfl rfl rfl rfl (qOq rfl rfl rfl rfl rfl rfl _ _ 250)) yPq ?_
      refine zdq ?_
      refine zfq ?_
      refine zEq rfl (fun h2 => ?_) (fun h2 => ?_)
      · refine zcq (zbq (zaq rfl rfl (zaq rfl rfl (zdq ?_))))
        refine zfq (zjq ?_)
        refine zlq (by intro h; cases h) ?_
        refine zlq (by intro h; cases h) ?_
        refine zrq (by intro i h; cases h) ?_
        refine zlq (by intro h; cases h) ?_
        refine yhq (by intro h; cases h) ?_
        refine zrq (by intro i h; cases h) ?_
        refine zlq (by intro h; cases h) ?_
        first | exact znq (.inr rfl) rfl rfl | exact znq (.inl rfl) rfl rfl | (exfalso; omega)
      · exfalso; exact h2 rfl
    | miss h hk =>
      rename_i i k' v l r
      have hi := (List.getElem?_eq_some_iff.1 h).1
      refine ziq (zfq (zcq (zmq (zcq (zbq (zaq rfl rfl (zeq rfl rfl (zaq rfl rfl (zyq (i) rfl rfl (by first | rfl | omega) ⟨by omega, by omega⟩ ?_)))))))))
      refine zaq rfl (z7q (i := i) rfl rfl rfl rfl rfl rfl rfl (yLq nW h)) (zeq rfl rfl (zeq rfl rfl (zeq rfl rfl (zdq ?_))))
      refine zfq (zcq (zcq (zbq (zaq rfl rfl (zeq rfl rfl (zdq ?_))))))
      refine zfq (zMq rfl (zcq (zcq (zbq (zaq rfl rfl (zeq rfl rfl (zeq rfl rfl ?_)))))))
      refine jUq rfl (qkq rfl rfl rfl rfl (qOq rfl rfl rfl rfl rfl rfl _ _ 250)) yPq ?_
      refine zdq ?_
      refine zfq ?_
      refine zEq rfl (fun h2 => ?_) (fun h2 => ?_)
      · exfalso; exact hk h2
      · refine ziq (zfq (zcq (zbq (zaq rfl rfl (zdq ?_)))))
        refine zfq (zjq ?_)
        refine zlq (by intro h; cases h) ?_
        refine zrq (by intro i h; cases h) ?_
        refine zlq (by intro h; cases h) ?_
        refine yhq (by intro h; cases h) ?_
        refine zrq (by intro i h; cases h) ?_
        refine zlq (by intro h; cases h) ?_
        first | exact znq (.inr rfl) rfl rfl | exact znq (.inl rfl) rfl rfl | (exfalso; omega)
    | go h hd' hg =>
      rename_i i l r k' v
      have hi := (List.getElem?_eq_some_iff.1 h).1
      have bl := qDq k d
      rcases Nat.lt_or_ge 0 (bitN k d) with hb1 | hb0
      · skip
        have hc : bitN k d = 1 := by omega
        rw [if_neg (by omega)] at hg
        refine ziq (zfq (zcq (zmq (zcq (zbq (zaq rfl rfl (zeq rfl rfl (zaq rfl rfl (zyq (i) rfl rfl (by first | rfl | omega) ⟨by omega, by omega⟩ ?_)))))))))
        refine zaq rfl (z7q (i := i) rfl rfl rfl rfl rfl rfl rfl (yLq nW h)) (zeq rfl rfl (zeq rfl rfl (zeq rfl rfl (zdq ?_))))
        refine zfq (zcq (zcq (zbq (zaq rfl rfl (zeq rfl rfl (zdq ?_))))))
        refine zfq (zAq rfl (ziq (zfq (zZq (zDq rfl rfl ?_)))))
        refine qUq rfl rfl rfl rfl rfl rfl (juq _) ?_
        refine zDq rfl rfl ?_
        refine zhq rfl rfl ?_
        first | refine qUq rfl rfl rfl rfl rfl rfl (yKq k d 1 hd' hc) ?_ | refine qUq rfl rfl rfl rfl rfl rfl (tbit_s _ _ (by omega)) ?_
        refine zhq rfl rfl (zhq rfl rfl (z6q ?_))
        refine zrq (by intro i h; cases h) ?_
        refine zfq (zbq (zaq rfl rfl (zyq (d + 1) rfl rfl (by first | rfl | omega) ⟨by omega, by omega⟩ ?_)))
        refine zaq rfl rfl (zdq ?_)
        exact ykq ((r, d + 1)) (⟨hg, hd'⟩) (by simp only; omega) ⟨rfl, rfl, trivial⟩ ⟨rfl, rfl, rfl, trivial⟩ (by repeat (first | exact trivial | refine ⟨by first | rfl | exact zwq (by first | rfl | (simp; done)), ?_⟩)) (by omega) (by repeat (first | exact zOq | refine zRq (by omega) ?_ | refine zPq (by omega) ?_ | refine zQq (by omega) ?_)) rfl
      · have hc : bitN k d = 0 := by omega
        rw [if_pos hc] at hg
        refine ziq (zfq (zcq (zmq (zcq (zbq (zaq rfl rfl (zeq rfl rfl (zaq rfl rfl (zyq (i) rfl rfl (by first | rfl | omega) ⟨by omega, by omega⟩ ?_)))))))))
        refine zaq rfl (z7q (i := i) rfl rfl rfl rfl rfl rfl rfl (yLq nW h)) (zeq rfl rfl (zeq rfl rfl (zeq rfl rfl (zdq ?_))))
        refine zfq (zcq (zcq (zbq (zaq rfl rfl (zeq rfl rfl (zdq ?_))))))
        refine zfq (zAq rfl (ziq (zfq (zZq (zDq rfl rfl ?_)))))
        refine qUq rfl rfl rfl rfl rfl rfl (juq _) ?_
        refine zDq rfl rfl ?_
        refine zhq rfl rfl ?_
        refine qUq rfl rfl rfl rfl rfl rfl (yKq k d 0 hd' hc) ?_
        refine zhq rfl rfl (zhq rfl rfl (z6q ?_))
        refine zrq (by intro i h; cases h) ?_
        refine zfq (zbq (zaq rfl rfl (zyq (d + 1) rfl rfl (by first | rfl | omega) ⟨by omega, by omega⟩ ?_)))
        refine zaq rfl rfl (zdq ?_)
        exact ykq ((l, d + 1)) (⟨hg, hd'⟩) (by simp only; omega) ⟨rfl, rfl, trivial⟩ ⟨rfl, rfl, rfl, trivial⟩ (by repeat (first | exact trivial | refine ⟨by first | rfl | exact zwq (by first | rfl | (simp; done)), ?_⟩)) (by omega) (by repeat (first | exact zOq | refine zRq (by omega) ?_ | refine zPq (by omega) ?_ | refine zQq (by omega) ?_)) rfl
  · obtain rfl : i = 0 := by omega
    cases hf
    refine ytq ?_
    refine zlq (by intro h; cases h) ?_
    refine yhq (by intro h; cases h) ?_
    refine qoq (zfq (zcq (zbq (zaq rfl rfl (zdq ?_)))))
    refine zfq (zjq ?_)
    first | exact znq (.inr rfl) rfl rfl | exact znq (.inl rfl) rfl rfl | (exfalso; omega)
structure IsT (t : Tree) (n : Nat) (t0 : T) : Prop where
  len : t.nodes.length ≤ 262144
  okn : okN t.nodes
  root : t.root = n
  rep : Rep t.nodes n t0
  ok : t0.ok 0 qSq = true
theorem IsT.may {t : Tree} {n : Nat} {t0 : T} (h : IsT t n t0) : MayT t := ⟨h.len, h.okn, n, t0, h.root, h.rep, h.ok⟩
theorem may_is {t : Tree} (h : MayT t) : ∃ n t0, IsT t n t0 := by
  obtain ⟨h1, h2, n, t0, h3, h4, h5⟩ := h
  exact ⟨n, t0, h1, h2, h3, h4, h5⟩
theorem vDq {ns : List Node} (h : okN ns) {i : Nat} {k : Dig} {v : List UInt8} {l r : Int} (hx : ns[i]? = some ⟨true, k, v, l, r⟩) : 0 < v.length ∧ v.length ≤ 64 := by
  have h1 := h i _ hx
  simp only [oneB, if_true] at h1
  have h2 := (h1.2.2.2 0 (by simp) (k, v) rfl).1
  simp only [valB, Bool.and_eq_true, decide_eq_true_eq] at h2
  exact h2
noncomputable def getW' : Option (List UInt8) → W
  | none => .tup [.nils, .bool false]
  | some v => .tup [bW v, .bool true]
theorem tget_s (t : Tree) (n : Nat) (t0 : T) (k : Dig) (h : IsT t n t0) : PS cfg G 12 [tW t, dW k] (getW' (t0.find k 0)) := by
  have hl := h.len
  have hy := h.may
  obtain ⟨m, f1, f2, f3⟩ := fto_of (k := k) h.rep h.ok
  cases hf : t0.find k 0 with
  | none =>
    obtain rfl := f2 hf
    refine ynq (fn := Try.f12) rfl rfl rfl (Nat.le_of_ble_eq_true rfl) (fun R k0 => ?_)
    refine zcq (zbq (zeq rfl rfl (zeq rfl rfl (zaq rfl rfl (zaq rfl rfl (zdq ?_))))))
    refine zfq (zcq (zcq (zbq (zeq rfl rfl ?_))))
    first | refine ztq rfl rfl rfl rfl rfl rfl (y2q (w' := .int .i64 0) (qnq t (by omega)) (by rw [if_pos hy])) ?_ | refine ztq rfl rfl rfl rfl rfl rfl (qnq _ (by omega)) ?_ | refine ztq rfl rfl rfl rfl rfl rfl (qnq _ (by omega)) ?_
    refine zCq rfl rfl ?_
    refine zdq ?_
    refine zfq (zAq rfl (ziq (zfq (zcq (zbq (zeq rfl rfl (zeq rfl rfl (ztq rfl rfl rfl rfl rfl rfl (tfind_s t k n _ h.root f1 (by omega)) ?_))))))))
    refine zaq rfl rfl (zdq ?_)
    refine zfq (zcq (zcq (zbq (zaq rfl rfl (zCq rfl rfl ?_)))))
    refine zdq ?_
    refine zfq (zMq rfl (zcq (zbq (zaq rfl rfl (zaq rfl rfl (zdq ?_))))))
    refine zfq (zjq ?_)
    refine zlq (by intro h; cases h) ?_
    exact znq (.inr rfl) rfl rfl
  | some v =>
    obtain ⟨j, l, r, rfl, hx⟩ := f3 v hf
    have hv := vDq h.okn hx
    have hj := (List.getElem?_eq_some_iff.1 hx).1
    refine ynq (fn := Try.f12) rfl rfl rfl (Nat.le_of_ble_eq_true rfl) (fun R k0 => ?_)
    refine zcq (zbq (zeq rfl rfl (zeq rfl rfl (zaq rfl rfl (zaq rfl rfl (zdq ?_))))))
    refine zfq (zcq (zcq (zbq (zeq rfl rfl ?_))))
    first | refine ztq rfl rfl rfl rfl rfl rfl (y2q (w' := .int .i64 0) (qnq t (by omega)) (by rw [if_pos hy])) ?_ | refine ztq rfl rfl rfl rfl rfl rfl (qnq _ (by omega)) ?_ | refine ztq rfl rfl rfl rfl rfl rfl (qnq _ (by omega)) ?_
    refine zCq rfl rfl ?_
    refine zdq ?_
    refine zfq (zAq rfl (ziq (zfq (zcq (zbq (zeq rfl rfl (zeq rfl rfl (ztq rfl rfl rfl rfl rfl rfl (tfind_s t k n _ h.root f1 (by omega)) ?_))))))))
    refine zaq rfl rfl (zdq ?_)
    refine zfq (zcq (zcq (zbq (zaq rfl rfl (zCq rfl rfl ?_)))))
    refine zdq ?_
    refine zfq ?_
    refine zEq rfl (fun h1 => ?_) (fun h1 => ?_)
    · exfalso; omega
    · refine ziq (zfq (zcq (zbq (zaq rfl rfl (zeq rfl rfl (zaq rfl rfl (zyq (j) rfl rfl (by first | rfl | omega) ⟨by omega, by omega⟩ ?_)))))))
      refine zaq rfl (z7q (i := j) rfl rfl rfl rfl rfl rfl rfl (yLq nW hx)) (zaq rfl rfl (zeq rfl rfl (ztq rfl rfl rfl rfl rfl rfl (v4q v false (by omega)) ?_)))
      refine zaq rfl rfl (zaq rfl rfl (zdq ?_))
      refine zfq (zjq ?_)
      exact znq (.inr rfl) rfl rfl
theorem teach_s (t : Tree) (n : Int) : PS cfg G 77 [tW t, .int .i64 n] (.fn 89 [] [.fel (.int .i64 n), .fel (tW t)]) := by
  refine ynq (fn := Try.f77) rfl rfl rfl (Nat.le_of_ble_eq_true rfl) (fun R k0 => ?_)
  refine zcq (zbq (zeq rfl rfl (zeq rfl rfl (zaq rfl rfl (zdq ?_)))))
  refine zfq (zcq (zbq (zaq rfl rfl (zaq rfl rfl (zdq ?_)))))
  refine zfq (zjq ?_)
  refine kOq (fr2 := [(4, _)]) (by first | exact .inr rfl | exact .inl rfl) ?_ rfl rfl
  (repeat (first | exact trivial | refine And.symm ⟨?_, _, rfl, ?_⟩)) <;> (repeat (first | exact .nil | refine .cons ?_ ?_ | refine .fn ?_ ?_ | (refine qlq rfl ?_ rfl; (first | rfl | (focus (simp; done)))) | (refine .sl rfl ?_ rfl (by intro h; cases h); (first | rfl | (focus (simp; done)))) | (refine .pur ?_; (first | rfl | (focus (simp; done)))) | refine .agg ?_ | refine .arr ?_ | refine .tup ?_))
noncomputable def enc1 (p : Pr) : List W := [pW p]
theorem yl_same {L : Nat} {E : Res → Prop} {b : Bool} {R1 : Res} {l : List (List W)} (h : match b with | true => Yl cfg G L E [] R1 | false => E R1) : E R1 := by cases b <;> exact h
def restL (tl tr : T) : Nat → List Pr
  | 0 => tl.all ++ tr.all
  | 1 => tr.all
  | _ => []
theorem drop_at {α : Type} {l : List α} {i : Nat} {x : α} (h : l[i]? = some x) : l.drop i = x :: l.drop (i + 1) := by
  obtain ⟨hl, h2⟩ := List.getElem?_eq_some_iff.1 h
  rw [List.drop_eq_getElem_cons hl, h2]
theorem teach_it (t : Tree) (hv : ∀ (i : Nat) (k : Dig) (v : List UInt8) (l r : Int), t.nodes[i]? = some (Node.mk true k v l r) → v.length ≤ 70368744177664) (hb : t.nodes.length ≤ 4611686018427387903) : ∀ (t0 : T) (n : Nat), Rep t.nodes n t0 → qRq cfg G 89 [.fel (.int .i64 (n : Int)), .fel (tW t)] (t0.all.map enc1) := by
  intro t0
  induction t0 with
  | nil =>
    intro n hr
    obtain rfl : n = 0 := by cases hr; rfl
    refine urq (fn := Try.f89) rfl rfl rfl (Nat.le_of_ble_eq_true rfl) (fun L E R hy k0 => ?_)
    refine zcq (zbq (zeq rfl rfl (zdq ?_)))
    refine zfq (zcq (zcq (zbq (zeq rfl rfl (zCq rfl rfl ?_)))))
    refine zdq ?_
    refine zfq (zMq rfl (zjq ?_))
    refine zlq (by intro h; cases h) ?_
    exact xbq (.inr rfl) rfl hy
  | leaf k v =>
    intro n hr
    have hle := hr.le
    cases hr with
    | leaf h =>
    rename_i n l r
    have hvl := hv _ _ _ _ _ h
    refine urq (fn := Try.f89) rfl rfl rfl (Nat.le_of_ble_eq_true rfl) (fun L E R hy k0 => ?_)
    refine zcq (zbq (zeq rfl rfl (zdq ?_)))
    refine zfq (zcq (zcq (zbq (zeq rfl rfl (zCq rfl rfl ?_)))))
    refine zdq ?_
    refine zfq ?_
    refine zEq rfl (fun h1 => ?_) (fun h1 => ?_)
    · exfalso; omega
    · refine ziq (zfq (zcq (zbq (zaq rfl rfl (zeq rfl rfl (zeq rfl rfl (zyq (n) rfl rfl (by first | rfl | omega) ⟨by omega, by omega⟩ ?_)))))))
      refine zaq rfl (z7q (i := n) rfl rfl rfl rfl rfl rfl rfl (yLq nW h)) (zeq rfl rfl (zeq rfl rfl (zeq rfl rfl (zdq ?_))))
      refine zfq (zcq (zcq (zbq (zaq rfl rfl (zeq rfl rfl (zdq ?_))))))
      refine zfq (zMq rfl (zcq (zZq (zDq rfl rfl ?_))))
      refine zhq rfl rfl (zDq rfl rfl ?_)
      refine zhq rfl rfl (zDq rfl rfl ?_)
      refine fl_ps rfl rfl rfl rfl rfl rfl (v4q v false hvl) (by simp) (by simp) (by first | rfl | kernel_rfl) ?_
      refine zhq rfl rfl ?_
      refine yIq rfl (jqq rfl rfl rfl (hy) (fun b R1 hb => ?_))
      refine ⟨by first | rfl | kernel_rfl, ?_⟩
      refine z6q ?_
      refine zfq (zjq ?_)
      refine zlq (by intro h; cases h) ?_
      exact xbq (.inr rfl) rfl (yl_same (l := []) hb)
  | fork tl tr ihL ihR =>
    intro n hr
    have hle := hr.le
    cases hr with
    | fork h hl hr hL hR =>
    rename_i n l r k v
    refine urq (fn := Try.f89) rfl rfl rfl (Nat.le_of_ble_eq_true rfl) (fun L E R hy k0 => ?_)
    refine zcq (zbq (zeq rfl rfl (zdq ?_)))
    refine zfq (zcq (zcq (zbq (zeq rfl rfl (zCq rfl rfl ?_)))))
    refine zdq ?_
    refine zfq ?_
    refine zEq rfl (fun h1 => ?_) (fun h1 => ?_)
    · exfalso; omega
    · refine ziq (zfq (zcq (zbq (zaq rfl rfl (zeq rfl rfl (zeq rfl rfl (zyq (n) rfl rfl (by first | rfl | omega) ⟨by omega, by omega⟩ ?_)))))))
      refine zaq rfl (z7q (i := n) rfl rfl rfl rfl rfl rfl rfl (yLq nW h)) (zeq rfl rfl (zeq rfl rfl (zeq rfl rfl (zdq ?_))))
      refine zfq (zcq (zcq (zbq (zaq rfl rfl (zeq rfl rfl (zdq ?_))))))
      refine zfq (zAq rfl (ziq (zfq (zcq (zbq (zeq rfl rfl (ztq rfl rfl rfl rfl rfl rfl (juq _) ?_)))))))
      refine zaq rfl rfl (zdq ?_)
      refine zfq (zmq ?_)
      refine YNq (α := Nat × Res) (fun p => p.1 ≤ 2 ∧ Yl cfg G L E ((restL tl tr p.1).map enc1) p.2) (fun p => [(28, .int .i64 (p.1 : Int))]) [(2, _), (3, _), (27, _)] (fun p => p.2) (fun p => 2 - p.1) ((0, R)) ⟨rfl, rfl, rfl, trivial⟩ (⟨by simp, hy⟩) ⟨rfl, trivial⟩ rfl (fun p hI => ?_)
      obtain ⟨i, R⟩ := p
      obtain ⟨hi, hy⟩ := hI
      simp only at hi hy ⊢
      refine zcq (zbq (zCq rfl rfl ?_))
      refine zdq ?_
      refine zfq (zcq ?_)
      refine zEq rfl (fun h2 => ?_) (fun h2 => ?_)
      · have hi' : i = 0 ∨ i = 1 := by omega
        rcases hi' with rfl | rfl
        · skip
          refine ziq (zfq (zcq (zmq (zcq (zbq (zaq rfl rfl (zaq rfl rfl (zdq ?_))))))))
          refine zfq (zcq (zbq (zeq rfl rfl (zaq rfl rfl (ztq rfl rfl rfl rfl rfl rfl (teach_s t l) ?_)))))
          refine zdq ?_
          refine zfq (zmq ?_)
          refine v2q (enc1) (tl.all) (fun i a => Yl cfg G L E (((tl.all.drop i) ++ tr.all).map enc1) a) (fun a => a) (R) rfl (by first | rfl | assumption | (simp; done)) (ihL _ hL) (fun y _ => ⟨by simp [enc1], rfl⟩) (hy) rfl (fun i a y hy hI => ?_) (fun a hI => ?_)
          · have hd := drop_at hy
            rw [hd, List.cons_append, List.map_cons] at hI
            refine zbq (zeq rfl rfl (zeq rfl rfl (zdq ?_)))
            refine q_asg (zmq (zcq (zbq (zeq rfl rfl (zeq rfl rfl ?_)))))
            refine zYq rfl (jqq rfl rfl rfl (hI) (fun b R1 hb => ?_))
            refine zaq rfl rfl (zdq ?_)
            refine zfq ?_
            refine zEq rfl (fun h3 => ?_) (fun h3 => ?_)
            · cases b with
              | true => cases h3
              | false =>
                refine zjq ?_
                refine zrq (by intro i h; cases h) ?_
                refine Ymq (by intro h; cases h) ?_
                refine zrq (by intro i h; cases h) ?_
                refine zrq (by intro i h; cases h) ?_
                refine zlq (by intro h; cases h) ?_
                refine yhq (by intro h; cases h) ?_
                refine zrq (by intro i h; cases h) ?_
                exact xbq (.inr rfl) rfl hb
            · cases b with
              | false => exact absurd rfl h3
              | true =>
                refine ziq (zrq (by intro i h; cases h) ?_)
                exact Ylq (R1) (hb) (by omega) (by repeat (first | exact zOq | refine zRq (by omega) ?_ | refine zPq (by omega) ?_ | refine zQq (by omega) ?_)) rfl
          · rw [List.drop_length, List.nil_append] at hI
            refine zrq (by intro i h; cases h) ?_
            refine zrq (by intro i h; cases h) ?_
            refine zfq (zbq (zyq (1) rfl rfl (by first | rfl | omega) ⟨by omega, by omega⟩ ?_))
            refine zaq rfl rfl (zdq ?_)
            exact ykq ((1, a)) (⟨by simp, hI⟩) (by simp) ⟨rfl, trivial⟩ ⟨rfl, rfl, rfl, trivial⟩ (by repeat (first | exact trivial | refine ⟨by first | rfl | exact zwq (by first | rfl | (simp; done)), ?_⟩)) (by omega) (by repeat (first | exact zOq | refine zRq (by omega) ?_ | refine zPq (by omega) ?_ | refine zQq (by omega) ?_)) rfl
        · skip
          refine ziq (zfq (zcq (zmq (zcq (zbq (zaq rfl rfl (zaq rfl rfl (zdq ?_))))))))
          refine zfq (zcq (zbq (zeq rfl rfl (zaq rfl rfl (ztq rfl rfl rfl rfl rfl rfl (teach_s t r) ?_)))))
          refine zdq ?_
          refine zfq (zmq ?_)
          refine v2q (enc1) (tr.all) (fun i a => Yl cfg G L E ((tr.all.drop i).map enc1) a) (fun a => a) (R) rfl (by first | rfl | assumption | (simp; done)) (ihR _ hR) (fun y _ => ⟨by simp [enc1], rfl⟩) (hy) rfl (fun i a y hy hI => ?_) (fun a hI => ?_)
          · have hd := drop_at hy
            rw [hd, List.map_cons] at hI
            refine zbq (zeq rfl rfl (zeq rfl rfl (zdq ?_)))
            refine q_asg (zmq (zcq (zbq (zeq rfl rfl (zeq rfl rfl ?_)))))
            refine zYq rfl (jqq rfl rfl rfl (hI) (fun b R1 hb => ?_))
            refine zaq rfl rfl (zdq ?_)
            refine zfq ?_
            refine zEq rfl (fun h3 => ?_) (fun h3 => ?_)
            · cases b with
              | true => cases h3
              | false =>
                refine zjq ?_
                refine zrq (by intro i h; cases h) ?_
                refine Ymq (by intro h; cases h) ?_
                refine zrq (by intro i h; cases h) ?_
                refine zrq (by intro i h; cases h) ?_
                refine zlq (by intro h; cases h) ?_
                refine yhq (by intro h; cases h) ?_
                refine zrq (by intro i h; cases h) ?_
                exact xbq (.inr rfl) rfl hb
            · cases b with
              | false => exact absurd rfl h3
              | true =>
                refine ziq (zrq (by intro i h; cases h) ?_)
                exact Ylq (R1) (hb) (by omega) (by repeat (first | exact zOq | refine zRq (by omega) ?_ | refine zPq (by omega) ?_ | refine zQq (by omega) ?_)) rfl
          · rw [List.drop_length] at hI
            refine zrq (by intro i h; cases h) ?_
            refine zrq (by intro i h; cases h) ?_
            refine zfq (zbq (zyq (2) rfl rfl (by first | rfl | omega) ⟨by omega, by omega⟩ ?_))
            refine zaq rfl rfl (zdq ?_)
            exact ykq ((2, a)) (⟨by simp, hI⟩) (by simp) ⟨rfl, trivial⟩ ⟨rfl, rfl, rfl, trivial⟩ (by repeat (first | exact trivial | refine ⟨by first | rfl | exact zwq (by first | rfl | (simp; done)), ?_⟩)) (by omega) (by repeat (first | exact zOq | refine zRq (by omega) ?_ | refine zPq (by omega) ?_ | refine zQq (by omega) ?_)) rfl
      · refine ytq ?_
        refine zlq (by intro h; cases h) ?_
        refine yhq (by intro h; cases h) ?_
        refine qoq ?_
        obtain rfl : i = 2 := by omega
        exact xbq (.inl rfl) rfl hy
end Go.Proofs.Ytgeelfdgnehdnaa
namespace Go.Proofs.Ytgeelfdgnehdnaa
open Go.RowKit
set_option linter.unusedSimpArgs false
set_option linter.unusedVariables false
attribute [local irreducible] CoW OpW FlW Step Spec
variable {G : Nat → Option W}
noncomputable def psW (ps : List Pr) : W := .fz (ps.map pW) 33 false
@[simp] theorem psW_p (ps : List Pr) : purW (psW ps) = true := jLq ps
noncomputable def gat (ps : List Pr) : HpW := match ps with
  | [] => [(0, 45, .nils)]
  | _ => [(0, 45, .sl 1 0 0 ps.length 33 none), (1, 88, .arr (ps.length * 33) 33 (ps.map pW))]
theorem gat_snoc (a : List Pr) (y : Pr) : gat (a ++ [y]) = [(0, 45, .sl 1 0 0 (a.length + 1) 33 none), (1, 88, .arr ((a.length + 1) * 33) 33 (a.map pW ++ [pW y]))] := by
  cases a with
  | nil => rfl
  | cons x a => simp [gat]
theorem pur1 {a : List Pr} {y : Pr} {n : Nat} (e : Nat) : purW (.arr n e (a.map pW ++ [pW y])) = true := by simp
theorem aseq_s (f : FuncId) (cs : List W) (ls : List Pr) (hc : purL cs = true) (it : qRq cfg G f cs (ls.map enc1)) (hb : ls.length ≤ 1000000000) : PS cfg G 88 [.nils, .fn f [] cs] (psW ls) := by
  refine uLq (fn := Try.f88) rfl rfl rfl (Nat.le_of_ble_eq_true rfl) (fun R k0 => ?_)
  refine zcq (zbq (zeq rfl rfl (zaq rfl rfl (zdq ?_))))
  refine zfq (zcq (zcq (zbq (zaq rfl rfl (zdq ?_)))))
  refine zfq (zmq ?_)
  refine co_rangeN (α := List Pr) (enc1) (ls) (fun i a => a = ls.take i) (fun a => gat a) (fun a => (match a with | [] => 1 | _ => 2)) (fun a => R) ([]) rfl (by first | rfl | assumption | (simp; done)) (it) (fun y _ => ⟨by simp [enc1], rfl⟩) (rfl) rfl rfl rfl (fun i a y hy hI => ?_) (fun a hI => ?_)
  · have hi := (List.getElem?_eq_some_iff.1 hy).1
    have hn : ls.take (i + 1) = a ++ [y] := by rw [List.take_add_one, hy, hI]; rfl
    cases a with
    | nil =>
      skip
      refine zbq (zeq rfl rfl (zeq rfl rfl (zdq ?_)))
      refine q_asg (zmq (zbq (zeq rfl rfl (zeq rfl rfl (zeq rfl rfl (zeq rfl (jBq rfl rfl (Zfq (news := [pW y]) (k := ti88) rfl rfl rfl rfl (jRq rfl rfl rfl rfl) (by simp) (by show 1 * ti88.bytes ≤ _; decide) (by show 1 ≤ _; decide))) ?_))))))
      refine zeq rfl rfl (zdq ?_)
      refine zrq (by intro i h; cases h) ?_
      refine q_round (ls.take (i + 1)) rfl ?_
      rw [hn, gat_snoc]
      refine jnq (b := 1) (k := 3) (by omega) (by omega) (by show 3 < 4; omega) trivial ⟨⟨by omega, rfl, rfl⟩, ⟨by omega, ?_, zwq (pur1 _)⟩, trivial⟩ (by simp)
      rw [ysq (pur1 _)]
      rfl
    | cons x a =>
      have hl : (x :: a).length ≤ 1000000000 := by rw [hI, List.length_take]; omega
      have el : ((x :: a).map pW).length = (x :: a).length := List.length_map _
      refine zbq (zeq rfl rfl (zeq rfl rfl (zdq ?_)))
      refine q_asg (zmq (zbq (zeq rfl rfl (zeq rfl rfl (zeq rfl rfl (zeq rfl (jBq rfl rfl (uWq (len := (x :: a).length) (news := [pW y]) (olds := (x :: a).map pW) (k := ti88) rfl rfl rfl rfl (jRq rfl rfl rfl rfl) (by simp) (by show ((x :: a).length + 1) * 56 ≤ _; omega) (by show (x :: a).length + 1 ≤ _; omega) rfl (by show (x :: a).length * 33 < 0 + ((x :: a).length + 1) * 33; omega) rfl (qbq (by decide) el.symm rfl))) ?_))))))
      refine zeq rfl rfl (zdq ?_)
      refine zrq (by intro i h; cases h) ?_
      refine q_round (ls.take (i + 1)) rfl ?_
      rw [hn, gat_snoc]
      refine jnq (b := 1) (k := 4) (by omega) (by omega) (by show 4 < 5; omega) trivial ⟨⟨by omega, rfl, rfl⟩, ⟨by omega, ?_, zwq (pur1 _)⟩, trivial⟩ (by simp)
      rw [ysq (pur1 _)]
      rfl
  · obtain rfl : a = ls := by rw [hI, List.take_length]
    cases a with
    | nil =>
      skip
      refine zrq (by intro i h; cases h) ?_
      refine zfq (zcq (zbq (zeq rfl rfl (zaq rfl rfl (zdq ?_)))))
      refine zfq (zjq ?_)
      refine xyq (by first | exact .inr rfl | exact .inl rfl) rfl ?_
      (repeat (first | exact .nil | refine .cons ?_ ?_ | exact qIq | exact .nilfz | refine .fn ?_ ?_ | (refine qlq rfl ?_ rfl; (first | rfl | (focus (simp; done)))) | (refine .sl rfl ?_ rfl (by intro h; cases h); (first | rfl | (focus (simp; done)))) | (refine .pur ?_; (first | rfl | (focus (simp; done)))) | (refine .fzw ?_; (first | rfl | (focus (simp; done)))) | refine .agg ?_ | refine .arr ?_ | refine .tup ?_))
    | cons x a =>
      refine zrq (by intro i h; cases h) ?_
      refine zfq (zcq (zbq (zeq rfl rfl (zaq rfl rfl (zdq ?_)))))
      refine zfq (zjq ?_)
      refine xyq (by first | exact .inr rfl | exact .inl rfl) rfl ?_
      exact .sl rfl (by show purL ((x :: a).map pW) = true; exact jLq _) (qbq (by decide) (List.length_map _).symm rfl) (by intro h; cases h)
theorem collect_s (f : FuncId) (cs : List W) (ls : List Pr) (hc : purL cs = true) (it : qRq cfg G f cs (ls.map enc1)) (hb : ls.length ≤ 1000000000) : PS cfg G 76 [.fn f [] cs] (psW ls) := by
  refine ynq (fn := Try.f76) rfl rfl rfl (Nat.le_of_ble_eq_true rfl) (fun R k0 => ?_)
  refine zcq (zbq (zaq rfl rfl (zdq ?_)))
  refine zfq (zcq (zbq (zaq rfl rfl ?_)))
  refine op_ps rfl rfl rfl rfl rfl rfl (aseq_s f cs ls hc it hb) (by simp [hc]) (by simp) ?_
  refine zaq rfl rfl (zdq ?_)
  refine zfq (zjq ?_)
  exact znq (.inr rfl) rfl rfl
theorem nodup_le {α : Type} [DecidableEq α] : ∀ (l m : List α), l.Nodup → (∀ x ∈ l, x ∈ m) → l.length ≤ m.length
  | [], m, _, _ => Nat.zero_le _
  | x :: l, m, hn, hs => by
    obtain ⟨h1, h2⟩ := List.nodup_cons.1 hn
    have hx := hs x (by simp)
    have ih := nodup_le l (m.erase x) h2 fun y hy => (List.mem_erase_of_ne (fun e : y = x => h1 (by rw [← e]; exact hy))).2 (hs y (by simp [hy]))
    rw [List.length_erase_of_mem hx] at ih
    have : 0 < m.length := List.length_pos_of_mem hx
    simp only [List.length_cons]
    omega
theorem rep_mem {ns : List Node} {n : Nat} {t : T} (h : Rep ns n t) : ∀ p ∈ t.all, ∃ (i : Nat) (l r : Int), ns[i]? = some (Node.mk true p.1 p.2 l r) := by
  induction h with
  | nil => intro p hp; simp [T.all] at hp
  | leaf h => intro p hp; simp only [T.all, List.mem_singleton] at hp; subst hp; exact ⟨_, _, _, h⟩
  | fork h hl hr _ _ i1 i2 =>
    intro p hp
    rcases List.mem_append.1 hp with hp | hp
    · exact i1 p hp
    · exact i2 p hp
theorem srt_nodup {l : List Pr} (h : Srt l) : (l.map (·.1)).Nodup := by
  rw [List.nodup_iff_pairwise_ne, List.pairwise_map]
  exact h.imp fun h => k5q h
theorem IsT.srt {t : Tree} {n : Nat} {t0 : T} (h : IsT t n t0) : Srt t0.all := ok_srt j2q h.ok
theorem IsT.all_le {t : Tree} {n : Nat} {t0 : T} (h : IsT t n t0) : t0.all.length ≤ t.nodes.length := by
  have := nodup_le (t0.all.map (·.1)) (t.nodes.map (·.key)) (srt_nodup h.srt) fun k hk => by
    obtain ⟨p, hp, rfl⟩ := List.mem_map.1 hk
    obtain ⟨i, l, r, hx⟩ := rep_mem h.rep p hp
    exact List.mem_map.2 ⟨_, List.mem_of_getElem? hx, rfl⟩
  simpa using this
theorem IsT.val {t : Tree} {n : Nat} {t0 : T} (h : IsT t n t0) : ∀ p ∈ t0.all, 0 < p.2.length ∧ p.2.length ≤ 64 := fun p hp => by
  obtain ⟨i, l, r, hx⟩ := rep_mem h.rep p hp
  exact vDq h.okn hx
theorem tpairs_s (t : Tree) (n : Nat) (t0 : T) (h : IsT t n t0) : PS cfg G 59 [tW t] (.tup [psW t0.all, .int .i64 0]) := by
  have hl := h.len
  have hy := h.may
  have ha := h.all_le
  have hr := h.root
  obtain ⟨ns, root⟩ := t
  simp only at hl hr ha
  subst hr
  refine ynq (fn := Try.f59) rfl rfl rfl (Nat.le_of_ble_eq_true rfl) (fun R k0 => ?_)
  refine zcq (zbq (zeq rfl rfl (zaq rfl rfl (zaq rfl rfl (zdq ?_)))))
  refine zfq (zcq (zcq (zbq (zeq rfl rfl ?_))))
  first | refine ztq rfl rfl rfl rfl rfl rfl (y2q (w' := .int .i64 0) (qnq ⟨ns, (n : Int)⟩ (by show ns.length ≤ _; omega)) (by rw [if_pos hy])) ?_ | refine ztq rfl rfl rfl rfl rfl rfl (qnq _ (by omega)) ?_
  refine zaq rfl rfl (zdq ?_)
  refine zfq (zcq (zbq (zaq rfl rfl (zCq rfl rfl ?_))))
  refine zdq ?_
  refine zfq (zAq rfl (ziq (zfq (zcq (zbq (zeq rfl rfl (zaq rfl rfl (zeq rfl rfl (ztq rfl rfl rfl rfl rfl rfl (teach_s ⟨ns, (n : Int)⟩ (n : Int)) ?_)))))))))
  refine ztq rfl rfl rfl rfl rfl rfl (collect_s _ _ t0.all (by simp) (teach_it ⟨ns, (n : Int)⟩ (fun i k v l r hx => by have := (vDq h.okn hx).2; omega) (by show ns.length ≤ _; omega) t0 n h.rep) (by omega)) ?_
  refine zaq rfl rfl (zaq rfl rfl (zdq ?_))
  refine zfq (zjq ?_)
  exact znq (.inr rfl) rfl rfl
theorem tpairs_no (t : Tree) (hb : t.nodes.length ≤ 4611686018427387903) (h : ¬ MayT t) : PS cfg G 59 [tW t] (.tup [.nils, .int .i64 8]) := by
  refine ynq (fn := Try.f59) rfl rfl rfl (Nat.le_of_ble_eq_true rfl) (fun R k0 => ?_)
  refine zcq (zbq (zeq rfl rfl (zaq rfl rfl (zaq rfl rfl (zdq ?_)))))
  refine zfq (zcq (zcq (zbq (zeq rfl rfl (ztq rfl rfl rfl rfl rfl rfl (y2q (w' := .int .i64 8) (qnq t hb) (by rw [if_neg h])) ?_)))))
  refine zaq rfl rfl (zdq ?_)
  refine zfq (zcq (zbq (zaq rfl rfl (zCq rfl rfl ?_))))
  refine zdq ?_
  refine zfq (zMq rfl (zcq (zbq (zaq rfl rfl (zaq rfl rfl (zaq rfl rfl (zdq ?_)))))))
  refine zfq (zjq ?_)
  refine zlq (by intro h; cases h) ?_
  exact znq (.inr rfl) rfl rfl
end Go.Proofs.Ytgeelfdgnehdnaa
namespace Go.Proofs.Ytgeelfdgnehdnaa
open Go.RowKit
set_option linter.unusedSimpArgs false
set_option linter.unusedVariables false
attribute [local irreducible] CoW OpW FlW Step Spec
variable {G : Nat → Option W}
theorem aeach_s (t : Tree) : PS cfg G 32 [tW t] (.fn 58 [] [.fel (tW t)]) := by
  refine ynq (fn := Try.f32) rfl rfl rfl (Nat.le_of_ble_eq_true rfl) (fun R k0 => ?_)
  refine zcq (zbq (zeq rfl rfl (zaq rfl rfl (zdq ?_))))
  refine zfq (zcq (zbq (zaq rfl rfl (zaq rfl rfl (zdq ?_)))))
  refine zfq (zjq ?_)
  refine kOq (fr2 := [(2, _)]) (by first | exact .inr rfl | exact .inl rfl) ?_ rfl rfl
  (repeat (first | exact trivial | refine And.symm ⟨?_, _, rfl, ?_⟩)) <;> (repeat (first | exact .nil | refine .cons ?_ ?_ | refine .fn ?_ ?_ | (refine qlq rfl ?_ rfl; (first | rfl | (focus (simp; done)))) | (refine .sl rfl ?_ rfl (by intro h; cases h); (first | rfl | (focus (simp; done)))) | (refine .pur ?_; (first | rfl | (focus (simp; done)))) | refine .agg ?_ | refine .arr ?_ | refine .tup ?_))
noncomputable def encA (p : Pr) : List W := [aW (qeq p.2).1, .bool (decide ((((qeq p.2).2 : Nat) : Int) = 0))]
noncomputable def encZ (_ : Unit) : List W := [aW .zero, .bool false]
theorem aeach_no (t : Tree) (hb : t.nodes.length ≤ 4611686018427387903) (h : ¬ MayT t) : qRq cfg G 58 [.fel (tW t)] ([()].map encZ) := by
  refine urq (fn := Try.f58) rfl rfl rfl (Nat.le_of_ble_eq_true rfl) (fun L E R hy k0 => ?_)
  refine zcq (zbq (zeq rfl rfl (ztq rfl rfl rfl rfl rfl rfl (tpairs_no t hb h) ?_)))
  refine zaq rfl rfl (zaq rfl rfl (zaq rfl rfl (zaq rfl rfl (zaq rfl rfl (zdq ?_)))))
  refine zfq (zcq (zcq (zbq (zaq rfl rfl (zCq rfl rfl ?_)))))
  refine zdq ?_
  refine zfq (zMq rfl (zcq (zbq (zaq rfl rfl (zaq rfl rfl ?_)))))
  refine zYq rfl (jqq rfl rfl rfl (hy) (fun b R1 hb => ?_))
  refine zdq ?_
  refine zfq (zjq ?_)
  refine zlq (by intro h; cases h) ?_
  exact xbq (.inr rfl) rfl (yl_same (l := []) hb)
theorem aeach_it (t : Tree) (n : Nat) (t0 : T) (h : IsT t n t0) : qRq cfg G 58 [.fel (tW t)] (t0.all.map encA) := by
  have e : (t0.all.map pW).length = t0.all.length := List.length_map _
  have hl := h.len
  have ha := h.all_le
  refine urq (fn := Try.f58) rfl rfl rfl (Nat.le_of_ble_eq_true rfl) (fun L E R hy k0 => ?_)
  refine zcq (zbq (zeq rfl rfl (ztq rfl rfl rfl rfl rfl rfl (tpairs_s t n t0 h) ?_)))
  refine zaq rfl rfl (zaq rfl rfl (zaq rfl rfl (zaq rfl rfl (zaq rfl rfl (zdq ?_)))))
  refine zfq (zcq (zcq (zbq (zaq rfl rfl (zCq rfl rfl ?_)))))
  refine zdq ?_
  refine zfq (zAq rfl (ziq (zfq (zcq (zbq (zaq rfl rfl (zNq (w' := .int .i64 (t0.all.length : Int)) rfl rfl (by rw [← e]; rfl) ?_)))))))
  refine zaq rfl rfl (zdq ?_)
  refine zfq (zmq ?_)
  refine YNq (α := Nat × Res) (fun p => p.1 ≤ t0.all.length ∧ Yl cfg G L E ((t0.all.drop p.1).map encA) p.2) (fun p => [(21, .int .i64 (p.1 : Int))]) [(0, _), (19, _), (20, _)] (fun p => p.2) (fun p => t0.all.length - p.1) ((0, R)) ⟨rfl, rfl, rfl, trivial⟩ (⟨by simp, hy⟩) ⟨rfl, trivial⟩ rfl (fun p hI => ?_)
  obtain ⟨i, R⟩ := p
  obtain ⟨hi, hy⟩ := hI
  simp only at hi hy ⊢
  refine zcq (zbq (zCq rfl rfl ?_))
  refine zdq ?_
  refine zfq (zcq ?_)
  refine zEq rfl (fun h1 => ?_) (fun h1 => ?_)
  · have hi' : i < t0.all.length := by omega
    obtain ⟨x, hx⟩ : ∃ x, t0.all[i]? = some x := ⟨_, List.getElem?_eq_getElem hi'⟩
    have hv := h.val x (List.mem_of_getElem? hx)
    rw [drop_at hx, List.map_cons] at hy
    refine ziq (zfq (zcq (zmq (zcq (zbq (zaq rfl (z7q (i := i) rfl rfl rfl rfl rfl rfl rfl (yLq pW hx)) (zeq rfl rfl (zeq rfl rfl (zeq rfl rfl (zdq ?_))))))))))
    refine zfq (zcq (zbq (zaq rfl rfl (zeq rfl rfl (ztq rfl rfl rfl rfl rfl rfl (aread_s x.2 false (by omega)) ?_)))))
    refine zaq rfl rfl (zaq rfl rfl (zaq rfl rfl (zeq rfl rfl (zeq rfl rfl (zaq rfl rfl (zdq ?_))))))
    refine zfq (zcq (zbq (zaq rfl rfl (zeq rfl rfl (zaq rfl rfl (zCq rfl rfl ?_))))))
    refine zYq rfl (jqq rfl rfl rfl (hy) (fun b R1 hb => ?_))
    refine zaq rfl rfl (zdq ?_)
    refine zfq ?_
    refine zEq rfl (fun h2 => ?_) (fun h2 => ?_)
    · cases b with
      | true => cases h2
      | false =>
        refine zjq ?_
        refine zrq (by intro i h; cases h) ?_
        refine zlq (by intro h; cases h) ?_
        refine yhq (by intro h; cases h) ?_
        refine zrq (by intro i h; cases h) ?_
        exact xbq (.inr rfl) rfl hb
    · cases b with
      | false => exact absurd rfl h2
      | true =>
        refine ziq (zrq (by intro i h; cases h) ?_)
        refine zfq (zbq (zyq (i + 1) rfl rfl (by first | rfl | omega) ⟨by omega, by omega⟩ ?_))
        refine zaq rfl rfl (zdq ?_)
        exact ykq ((i + 1, R1)) (⟨hi', hb⟩) (by simp only; omega) ⟨rfl, trivial⟩ ⟨rfl, rfl, rfl, trivial⟩ (by repeat (first | exact trivial | refine ⟨by first | rfl | exact zwq (by first | rfl | (simp; done)), ?_⟩)) (by omega) (by repeat (first | exact zOq | refine zRq (by omega) ?_ | refine zPq (by omega) ?_ | refine zQq (by omega) ?_)) rfl
  · refine ytq ?_
    refine zlq (by intro h; cases h) ?_
    refine yhq (by intro h; cases h) ?_
    refine qoq ?_
    obtain rfl : i = t0.all.length := by omega
    rw [List.drop_length] at hy
    exact xbq (.inl rfl) rfl hy
theorem encA_ok {l : List Pr} : ∀ y ∈ l, purL (encA y) = true ∧ (encA y).length = 2 := fun y _ => ⟨rfl, rfl⟩
structure IsA (t : Tree) (n : Nat) (t0 : T) : Prop extends IsT t n t0 where
  held : ∀ p ∈ t0.all, (qeq p.2).2 = 0
def MayA (t : Tree) : Prop := ∃ n t0, IsA t n t0
noncomputable instance (t : Tree) : Decidable (MayA t) := Classical.propDecidable _
theorem jHq (t : Tree) (hb : t.nodes.length ≤ 4611686018427387903) : PS cfg G 10 [tW t] (.int .i64 (if MayA t then 0 else 8)) := by
  by_cases h : MayT t
  · obtain ⟨n, t0, h⟩ := may_is h
    refine ynq (fn := Try.f10) rfl rfl rfl (Nat.le_of_ble_eq_true rfl) (fun R k0 => ?_)
    refine zcq (zbq (zeq rfl rfl (zeq rfl rfl (zdq ?_))))
    refine zfq (zcq (zcq (zbq (zeq rfl rfl (ztq rfl rfl rfl rfl rfl rfl (aeach_s _) ?_)))))
    refine zdq ?_
    refine zfq (zmq ?_)
    refine v2q (encA) (t0.all) (fun i (_ : Unit) => ∀ j p, j < i → t0.all[j]? = some p → (qeq p.2).2 = 0) (fun _ => R) (()) rfl (by first | rfl | assumption | (simp; done)) (aeach_it t n t0 h) (encA_ok) (fun j p hj => by omega) rfl (fun i a y hy hI => ?_) (fun a hI => ?_)
    · refine zbq (zaq rfl rfl (zdq ?_))
      refine q_asg (zmq (zcq (zbq (zaq rfl rfl (zaq rfl rfl (zdq ?_))))))
      refine zfq ?_
      refine zEq rfl (fun h1 => ?_) (fun h1 => ?_)
      · have hno : ¬ MayA t := by
          rintro ⟨n', t1, ha⟩
          obtain rfl : n' = n := by have := ha.root; have := h.root; omega
          obtain rfl := ha.rep.uniq h.rep
          have := ha.held y (List.mem_of_getElem? hy)
          rw [this] at h1
          simp at h1
        refine zcq (zbq (zeq rfl rfl (zdq ?_)))
        refine zfq (zjq ?_)
        refine zrq (by intro i h; cases h) ?_
        refine Ymq (by intro h; cases h) ?_
        refine zrq (by intro i h; cases h) ?_
        refine zlq (by intro h; cases h) ?_
        exact znq (.inr rfl) rfl (by rw [if_neg hno])
      · have hok : (qeq y.2).2 = 0 := by simp at h1; omega
        refine ziq (zrq (by intro i h; cases h) ?_)
        exact Ylq (()) (fun j p hj hp => by rcases Nat.lt_succ_iff_lt_or_eq.1 hj with q | rfl; exact hI j p q hp; exact (Option.some.inj (hy.symm.trans hp)) ▸ hok) (by omega) (by repeat (first | exact zOq | refine zRq (by omega) ?_ | refine zPq (by omega) ?_ | refine zQq (by omega) ?_)) rfl
    · have yes : MayA t := ⟨n, t0, h, fun p hp => by
        obtain ⟨j, hj, hjp⟩ := List.getElem_of_mem hp
        exact hI j p hj (by rw [List.getElem?_eq_getElem hj, hjp])⟩
      refine zrq (by intro i h; cases h) ?_
      refine zfq (zcq (zbq (zeq rfl rfl (zdq ?_))))
      refine zfq (zjq ?_)
      exact znq (.inr rfl) rfl (by rw [if_pos yes])
  · have hno : ¬ MayA t := fun ⟨n, t0, ha⟩ => h ha.toIsT.may
    refine ynq (fn := Try.f10) rfl rfl rfl (Nat.le_of_ble_eq_true rfl) (fun R k0 => ?_)
    refine zcq (zbq (zeq rfl rfl (zeq rfl rfl (zdq ?_))))
    refine zfq (zcq (zcq (zbq (zeq rfl rfl (ztq rfl rfl rfl rfl rfl rfl (aeach_s _) ?_)))))
    refine zdq ?_
    refine zfq (zmq ?_)
    refine v3q (encZ) ([()]) (fun i => i = 0) rfl (by first | rfl | assumption | (simp; done)) (aeach_no t hb h) (fun y _ => ⟨rfl, rfl⟩) (rfl) (fun i y hy hI => ?_) (fun hI => ?_)
    · refine zbq (zaq rfl rfl (zdq ?_))
      refine q_asg (zmq (zcq (zbq (zaq rfl rfl (zaq rfl rfl (zdq ?_))))))
      refine zfq (zMq rfl (zcq (zbq (zeq rfl rfl (zdq ?_)))))
      refine zfq (zjq ?_)
      refine zrq (by intro i h; cases h) ?_
      refine q_leave (by intro h; cases h) ?_
      refine zrq (by intro i h; cases h) ?_
      refine zlq (by intro h; cases h) ?_
      exact znq (.inr rfl) rfl (by rw [if_neg hno])
    · exfalso; simp at hI
def qfq (t0 : T) (k : Dig) : Acct := match t0.find k 0 with
  | none => .zero
  | some v => (qeq v).1
theorem IsA.acct {t : Tree} {n : Nat} {t0 : T} (h : IsA t n t0) {k : Dig} {v : List UInt8} (hv : t0.find k 0 = some v) : (k, v) ∈ t0.all ∧ (qeq v).2 = 0 := by
  rw [kMq k j2q h.ok] at hv
  have := (findL_some h.srt).1 hv
  exact ⟨this, h.held _ this⟩
theorem aget_s (t : Tree) (n : Nat) (t0 : T) (h : IsA t n t0) (k : Dig) : PS cfg G 11 [tW t, dW k] (.tup [aW (qfq t0 k), .int .i64 0]) := by
  have yes : MayA t := ⟨n, t0, h⟩
  have hl := h.len
  cases hf : t0.find k 0 with
  | none =>
    have e : qfq t0 k = .zero := by unfold qfq; rw [hf]
    rw [e]
    refine ynq (fn := Try.f11) rfl rfl rfl (Nat.le_of_ble_eq_true rfl) (fun R k0 => ?_)
    refine zcq (zbq (zeq rfl rfl (zeq rfl rfl (zeq rfl rfl (zaq rfl rfl (zdq ?_))))))
    refine zfq (zcq (zcq (zbq (zeq rfl rfl ?_))))
    first | refine ztq rfl rfl rfl rfl rfl rfl (y2q (w' := .int .i64 0) (jHq t (by omega)) (by rw [if_pos yes])) ?_ | refine ztq rfl rfl rfl rfl rfl rfl (jHq _ (by omega)) ?_
    refine zaq rfl rfl (zdq ?_)
    refine zfq (zcq (zbq (zaq rfl rfl (zCq rfl rfl ?_))))
    refine zdq ?_
    refine zfq (zAq rfl (ziq (zfq (zcq (zbq (zeq rfl rfl (zeq rfl rfl (ztq rfl rfl rfl rfl rfl rfl (y2q (w' := .tup [.nils, .bool false]) (tget_s t n t0 k h.toIsT) (by rw [hf]; rfl)) ?_))))))))
    refine zaq rfl rfl (zaq rfl rfl (zaq rfl rfl (zaq rfl rfl (zaq rfl rfl (zdq ?_)))))
    refine zfq (zcq (zcq (zbq (zaq rfl rfl (zaq rfl rfl (zdq ?_))))))
    refine zfq (zMq rfl (zcq (zbq (zaq rfl rfl (zeq rfl rfl (zaq rfl rfl (zdq ?_)))))))
    refine zfq (zjq ?_)
    refine zlq (by intro h; cases h) ?_
    exact znq (.inr rfl) rfl rfl
  | some v =>
    obtain ⟨h1, h2⟩ := h.acct hf
    have hv := h.val _ h1
    have e : qfq t0 k = (qeq v).1 := by unfold qfq; rw [hf]
    rw [e]
    refine ynq (fn := Try.f11) rfl rfl rfl (Nat.le_of_ble_eq_true rfl) (fun R k0 => ?_)
    refine zcq (zbq (zeq rfl rfl (zeq rfl rfl (zeq rfl rfl (zaq rfl rfl (zdq ?_))))))
    refine zfq (zcq (zcq (zbq (zeq rfl rfl ?_))))
    first | refine ztq rfl rfl rfl rfl rfl rfl (y2q (w' := .int .i64 0) (jHq t (by omega)) (by rw [if_pos yes])) ?_ | refine ztq rfl rfl rfl rfl rfl rfl (jHq _ (by omega)) ?_
    refine zaq rfl rfl (zdq ?_)
    refine zfq (zcq (zbq (zaq rfl rfl (zCq rfl rfl ?_))))
    refine zdq ?_
    refine zfq (zAq rfl (ziq (zfq (zcq (zbq (zeq rfl rfl (zeq rfl rfl (ztq rfl rfl rfl rfl rfl rfl (y2q (w' := .tup [bW v, .bool true]) (tget_s t n t0 k h.toIsT) (by rw [hf]; rfl)) ?_))))))))
    refine zaq rfl rfl (zaq rfl rfl (zaq rfl rfl (zaq rfl rfl (zaq rfl rfl (zdq ?_)))))
    refine zfq (zcq (zcq (zbq (zaq rfl rfl (zaq rfl rfl (zdq ?_))))))
    refine zfq (zAq rfl (ziq (zfq (zcq (zbq (zaq rfl rfl (ztq rfl rfl rfl rfl rfl rfl (aread_s v false (by simp only at hv; omega)) ?_)))))))
    refine zaq rfl rfl (zaq rfl rfl (zeq rfl rfl (zaq rfl rfl (zdq ?_))))
    refine zfq (zjq ?_)
    exact znq (.inr rfl) rfl (by rw [h2]; rfl)
end Go.Proofs.Ytgeelfdgnehdnaa
namespace Go.Proofs.Ytgeelfdgnehdnaa
open Go.RowKit
set_option linter.unusedSimpArgs false
set_option linter.unusedVariables false
attribute [local irreducible] CoW OpW FlW Step Spec
variable {G : Nat → Option W}
noncomputable def nsW (ns : List Node) : W := .arr (ns.length * 36) 36 (ns.map nW)
@[simp] theorem qTq (ns : List Node) : purW (nsW ns) = true := xlq ns
theorem nclone_s (ns : List Node) (f : Bool) (hl : ns.length ≤ 1000000000) : qFq cfg G 56 0 [.fz (ns.map nW) 36 f] [] fun w hp nw =>
    (ns = [] ∧ w = .nils ∧ hp = [] ∧ nw = 0) ∨ (w = .sl 0 0 0 ns.length 36 none ∧ hp = [(0, 70, nsW ns)] ∧ nw = 1) := by
  intro R
  have e : (ns.map nW).length = ns.length := List.length_map _
  refine yrq (fn := Try.f56) rfl rfl rfl (Nat.le_of_ble_eq_true rfl) (fun k0 => ?_)
  refine zcq (zbq (zaq rfl rfl (zdq ?_)))
  refine zfq (zcq (zcq (zbq (zaq rfl rfl ?_))))
  first | refine zaq rfl rfl ?_ | refine zYq rfl (step_nil rfl rfl rfl rfl rfl (fun bn hn => ?_))
  refine zdq ?_
  refine zfq ?_
  refine zEq rfl (fun h1 => ?_) (fun h1 => ?_)
  · cases bn with
    | false => cases h1
    | true =>
      have hn := hn rfl
      have hl0 : ns = [] := by cases ns with
        | nil => rfl
        | cons c l => simp at hn
      refine zcq (zbq (zaq rfl rfl (zdq ?_)))
      refine zfq (zjq ?_)
      refine zlq (by intro h; cases h) ?_
      exact fin (.inr rfl) Ent.refl rfl ⟨rfl, .inl ⟨hl0, rfl, rfl, rfl⟩⟩
  · cases ns with
    | nil =>
      skip
      refine ziq (zfq (zcq (zbq (zeq rfl rfl (zaq rfl rfl (zeq rfl (jBq rfl rfl (YQq rfl rfl rfl rfl rfl)) (zaq rfl rfl (zdq ?_))))))))
      refine zfq (zjq ?_)
      exact fin (.inr rfl) Ent.refl rfl ⟨rfl, .inr ⟨rfl, rfl, rfl⟩⟩
    | cons c l =>
      refine ziq (zfq (zcq (zbq (zeq rfl rfl (zaq rfl rfl (zeq rfl (jBq rfl rfl (uWq (len := 0) (news := (c :: l).map nW) (olds := []) (k := ti70) rfl rfl rfl rfl rfl (by simp) (by show (0 + ((c :: l).map nW).length) * ti70.bytes ≤ _; rw [e]; show (0 + (c :: l).length) * 80 ≤ _; omega) (by rw [e]; omega) rfl (by show 0 < 0 + (0 + ((c :: l).map nW).length) * 36; rw [e]; simp only [List.length_cons]; omega) rfl rfl)) ?_))))))
      refine zaq rfl rfl (zdq ?_)
      refine zfq (zjq ?_)
      refine fin (.inr rfl) (jnq (b := 0) (k := 1) (fr2 := [(2, .sl 0 0 0 (c :: l).length 36 none)]) (hp2 := [(0, 70, nsW (c :: l))]) (by omega) (by omega) (by show 1 < 2; omega) ⟨⟨?_, rfl⟩, trivial⟩ ⟨⟨by omega, ?_, zwq (qTq _)⟩, trivial⟩ (by simp)) rfl ⟨rfl, .inr ⟨rfl, rfl, rfl⟩⟩
      · show some (W.sl 1 0 0 (0 + ((c :: l).map nW).length) 36 none) = some (W.sl 1 0 0 (c :: l).length 36 none)
        rw [e, Nat.zero_add]
      · rw [ysq (qTq _)]
        show some (70, W.arr ((0 + ((c :: l).map nW).length) * 36) 36 ([] ++ (c :: l).map nW)) = some (70, nsW (c :: l))
        rw [e, Nat.zero_add]
        rfl
theorem node_get (ns : List Node) {i : Nat} {x : Node} (h : ns[i]? = some x) : yDq 50 (nsW ns) (0 + i * 36 + 33) 1 false = some (bW x.val) :=
  get_in (yLq nW h) (by omega) (by omega) (by simp) rfl
theorem node_put (ns : List Node) {i : Nat} {x : Node} (h : ns[i]? = some x) : quq 50 (nsW ns) (0 + i * 36 + 33) (bW x.val) = some (nsW ns) := by
  have h1 := yLq nW h
  rw [nsW, put_in (x' := nW x) h1 (by omega) (by omega) (by simp [W.isAgg, bW]) rfl, set_same h1]
theorem twin_s (ns : List Node) (root : Int) (hl : ns.length ≤ 1000000000) (hv : ∀ x ∈ ns, x.val.length ≤ 70368744177664) : qFq cfg G 30 0 [tW ⟨ns, root⟩] [] fun w hp nw =>
    (ns = [] ∧ w = .agg 2 [.nils, .int .i64 root] ∧ hp = [(1, 24, .agg 2 [.nils, .int .i64 root]), (0, 24, .agg 2 [.nils, .int .i64 root])] ∧ nw = 2) ∨
    (w = .agg 2 [.sl 2 0 0 ns.length 36 none, .int .i64 root] ∧ hp = [(2, 70, nsW ns), (1, 24, .agg 2 [.sl 2 0 0 ns.length 36 none, .int .i64 root]), (0, 24, .agg 2 [.sl 2 0 0 ns.length 36 none, .int .i64 root])] ∧ nw = 3) := by
  intro R
  refine yrq (fn := Try.f30) rfl rfl rfl (Nat.le_of_ble_eq_true rfl) (fun k0 => ?_)
  refine zcq (zbq (zeq rfl rfl (zeq rfl rfl (zdq ?_))))
  refine zfq (zcq (zbq (zaq rfl rfl (zeq rfl rfl ?_))))
  skip
  refine zYq rfl (u0q rfl rfl rfl rfl rfl (by simp [xlq]) (nclone_s ns false hl) ?_)
  rintro w hp1 nw1 (⟨hn, rfl, rfl, rfl⟩ | ⟨rfl, rfl, rfl⟩)
  · skip
    skip
    refine zaq rfl rfl (zeq rfl rfl (zdq ?_))
    refine zfq (zcq (zcq (zbq (zaq rfl rfl (zeq rfl rfl ?_)))))
    first | refine ZGq rfl rfl ?_ | refine zaq rfl rfl ?_
    refine zaq rfl rfl (zdq ?_)
    refine zfq (zmq ?_)
    refine ySq (α := Nat) (fun i => i = 0) (fun i => [(11, .int .i64 (i : Int))]) [(1, _), (2, _), (10, _)] (fun i => 1 - i) (0) ⟨rfl, rfl, rfl, trivial⟩ (rfl) ⟨rfl, trivial⟩ (fun i hI => ?_)
    subst hI
    refine zcq (zbq (zCq rfl rfl ?_))
    refine zdq ?_
    refine zfq (zcq (zAq rfl (ytq ?_)))
    refine zlq (by intro h; cases h) ?_
    refine yhq (by intro h; cases h) ?_
    refine qoq (zfq (zcq (zbq (zeq rfl rfl (zeq rfl rfl (zdq ?_))))))
    refine zfq (zjq ?_)
    exact fin (.inr rfl) Ent.refl rfl ⟨rfl, .inl ⟨hn, rfl, rfl, rfl⟩⟩
  · rw [renH_pur1 (qTq _)]
    show OpW cfg G _ _ _ _ [(2, 70, nsW ns), (1, 24, .agg 2 [.nils, .int .i64 0]), (0, 24, tW ⟨ns, root⟩)] 3 R _
    refine zaq rfl rfl (zeq rfl rfl (zdq ?_))
    refine zfq (zcq (zcq (zbq (zaq rfl rfl (zeq rfl rfl ?_)))))
    first | refine ZGq rfl rfl ?_ | refine zaq rfl rfl ?_
    refine zaq rfl rfl (zdq ?_)
    refine zfq (zmq ?_)
    refine ySq (α := Nat) (fun i => i ≤ ns.length) (fun i => [(11, .int .i64 (i : Int))]) [(1, _), (2, _), (10, _)] (fun i => ns.length - i) (0) ⟨rfl, rfl, rfl, trivial⟩ (Nat.zero_le _) ⟨rfl, trivial⟩ (fun i hI => ?_)
    refine zcq (zbq (zCq rfl rfl ?_))
    refine zdq ?_
    refine zfq (zcq ?_)
    refine zEq rfl (fun h1 => ?_) (fun h1 => ?_)
    · have hi : i < ns.length := by omega
      obtain ⟨x, hx⟩ : ∃ x, ns[i]? = some x := ⟨_, List.getElem?_eq_getElem hi⟩
      have hxv := hv x (List.mem_of_getElem? hx)
      refine ziq (zfq (zcq (zmq (zcq (zbq (zaq rfl rfl (zaq rfl rfl (zdq ?_))))))))
      refine zfq (zZq (zhq rfl rfl (zDq rfl rfl ?_)))
      refine zhq rfl rfl (zhq rfl rfl (zDq rfl rfl ?_))
      refine zhq rfl rfl (zhq rfl (yiq (i := i) rfl rfl rfl rfl rfl rfl rfl hi) (zhq rfl rfl ?_))
      refine jiq rfl (yYq rfl rfl rfl (node_get ns hx)) (by first | rfl | kernel_rfl) ?_
      refine fl_ps rfl rfl rfl rfl rfl rfl (v4q x.val false hxv) (by simp) (by simp) (by first | rfl | kernel_rfl) ?_
      refine zhq rfl (yiq (i := i) rfl rfl rfl rfl rfl rfl rfl hi) (zhq rfl rfl ?_)
      refine jiq rfl (st_same rfl rfl rfl rfl rfl (node_put ns hx)) (by first | rfl | kernel_rfl) ?_
      refine z6q ?_
      refine zrq (by intro i h; cases h) ?_
      refine zfq (zbq (zyq (i + 1) rfl rfl (by first | rfl | omega) ⟨by omega, by omega⟩ ?_))
      refine zaq rfl rfl (zdq ?_)
      exact ykq (i + 1) (hi) (by omega) ⟨rfl, trivial⟩ ⟨rfl, rfl, rfl, trivial⟩ (by repeat (first | exact trivial | refine ⟨by first | rfl | exact zwq (by first | rfl | (simp; done)), ?_⟩)) (by omega) (by repeat (first | exact zOq | refine zRq (by omega) ?_ | refine zPq (by omega) ?_ | refine zQq (by omega) ?_)) rfl
    · refine ytq ?_
      refine zlq (by intro h; cases h) ?_
      refine yhq (by intro h; cases h) ?_
      refine qoq (zfq (zcq (zbq (zeq rfl rfl (zeq rfl rfl (zdq ?_))))))
      refine zfq (zjq ?_)
      exact fin (.inr rfl) Ent.refl rfl ⟨rfl, .inr ⟨rfl, rfl, rfl⟩⟩
end Go.Proofs.Ytgeelfdgnehdnaa

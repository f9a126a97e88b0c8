import Derived.Test.YtnlhkpdclnhneaaPathC
namespace Go.Proofs.Ytnlhkpdclnhneaa
open Go.RowKit
attribute [local irreducible] Go.Calls
/-! the plain law: what two keys share -/
theorem byte_top : ∀ x, x < 256 → x ≠ 0 → lenM x ≤ 8 ∧ 1 ≤ lenM x ∧ x.testBit (lenM x - 1) = true ∧ ∀ k, k < 8 → lenM x - 1 < k → x.testBit k = false := by decide +kernel
theorem bit_test (m k : Nat) : m / 2 ^ k % 2 = (m.testBit k).toNat := by rw [Nat.toNat_testBit]
theorem lt_top {m n L : Nat} (h : ∀ k, L < k → m.testBit k = n.testBit k) (hm : m.testBit L = false) (hn : n.testBit L = true) : m < n := by
  have h1 : m / 2 ^ (L + 1) = n / 2 ^ (L + 1) := by
    apply Nat.eq_of_testBit_eq
    intro i
    rw [Nat.testBit_div_two_pow, Nat.testBit_div_two_pow]
    exact h _ (by omega)
  have e : ∀ x, x / 2 ^ (L + 1) = x / 2 ^ L / 2 := fun x => by rw [Nat.pow_succ, Nat.div_div_eq_div_mul]
  have hm' : m / 2 ^ L % 2 = 0 := by rw [bit_test, hm]; rfl
  have hn' : n / 2 ^ L % 2 = 1 := by rw [bit_test, hn]; rfl
  rw [e, e] at h1
  have : m / 2 ^ L < n / 2 ^ L := by omega
  exact Nat.lt_of_not_le fun hc => by have := Nat.div_le_div_right (c := 2 ^ L) hc; omega
theorem byte_law (m n : Nat) (hm : m ≤ 255) (hn : n ≤ 255) (hx : m ^^^ n ≠ 0) :
    1 ≤ lenM (m ^^^ n) ∧ lenM (m ^^^ n) ≤ 8 ∧ (∀ t, t < 8 - lenM (m ^^^ n) → m / 2 ^ (7 - t) % 2 = n / 2 ^ (7 - t) % 2) ∧
      ¬ m / 2 ^ (lenM (m ^^^ n) - 1) % 2 = n / 2 ^ (lenM (m ^^^ n) - 1) % 2 ∧ (m < n ↔ m / 2 ^ (lenM (m ^^^ n) - 1) % 2 < n / 2 ^ (lenM (m ^^^ n) - 1) % 2) := by
  have hle := xor_le m n hm hn
  obtain ⟨h1, h2, h3, h4⟩ := byte_top (m ^^^ n) (by omega) hx
  have hab : ∀ k, lenM (m ^^^ n) - 1 < k → m.testBit k = n.testBit k := fun k hk => by
    by_cases hk8 : k < 8
    · have := h4 k hk8 hk
      rw [Nat.testBit_xor] at this
      revert this; cases m.testBit k <;> cases n.testBit k <;> simp
    · have e1 : m < 2 ^ k := Nat.lt_of_lt_of_le (show m < 2 ^ 8 by omega) (Nat.pow_le_pow_right (by omega) (by omega))
      have e2 : n < 2 ^ k := Nat.lt_of_lt_of_le (show n < 2 ^ 8 by omega) (Nat.pow_le_pow_right (by omega) (by omega))
      rw [Nat.testBit_lt_two_pow e1, Nat.testBit_lt_two_pow e2]
  rw [Nat.testBit_xor] at h3
  refine ⟨h2, h1, fun t ht => ?_, ?_, ?_⟩
  · rw [bit_test, bit_test, hab _ (by omega)]
  · rw [bit_test, bit_test]
    revert h3; cases m.testBit (lenM (m ^^^ n) - 1) <;> cases n.testBit (lenM (m ^^^ n) - 1) <;> simp
  · rw [bit_test, bit_test]
    cases hmb : m.testBit (lenM (m ^^^ n) - 1) <;> cases hnb : n.testBit (lenM (m ^^^ n) - 1) <;> simp only [hmb, hnb] at h3
    · simp at h3
    · have := lt_top hab hmb hnb
      simp [this]
    · have := lt_top (fun k hk => (hab k hk).symm) hnb hmb
      simp; omega
    · simp at h3
theorem xor_zero {m n : Nat} : m ^^^ n = 0 ↔ m = n := by
  constructor
  · intro h
    apply Nat.eq_of_testBit_eq
    intro i
    have : (m ^^^ n).testBit i = false := by rw [h]; simp
    rw [Nat.testBit_xor] at this
    revert this; cases m.testBit i <;> cases n.testBit i <;> simp
  · rintro rfl; exact Nat.xor_self m
theorem dTo_nil {a b : Dig} {n : Nat} (h : dTo a b n = []) : ∀ i, i < n → kn a i = kn b i := fun i hi => by
  rcases Classical.em (kn a i ^^^ kn b i = 0) with hx | hx
  · exact xor_zero.1 hx
  · have := dTo_get a b i n hi hx
    rw [h] at this; simp at this
theorem dTo_head {a b : Dig} {x : Nat × Nat} {l : List (Nat × Nat)} : ∀ {n : Nat}, dTo a b n = x :: l → x.1 < n ∧ x.2 = kn a x.1 ^^^ kn b x.1 ∧ x.2 ≠ 0 ∧ ∀ i, i < x.1 → kn a i = kn b i := by
  intro n h
  obtain ⟨h1, h2, h3⟩ := dTo_mem (a := a) (b := b) (n := n) (x := x) (by rw [h]; simp)
  refine ⟨h1, h2, h3, ?_⟩
  revert l
  induction n with
  | zero => omega
  | succ n ih =>
    intro l h
    rw [dTo_succ] at h
    cases hd : dTo a b n with
    | nil =>
      have := dTo_nil hd
      intro i hi
      exact this i (by omega)
    | cons y r =>
      rw [hd] at h
      have hy : y = x := by simpa using congrArg List.head? h
      subst hy
      have hm := (dTo_mem (a := a) (b := b) (n := n) (x := y) (by rw [hd]; simp)).1
      exact ih hm hd
/-- how many bits two keys share: what makes it so -/
def IsShared (a b : Dig) (s : Nat) : Prop := (∀ j, j < s → bitN a j = bitN b j) ∧ (s = 256 ∨ (s < 256 ∧ ¬ bitN a s = bitN b s))
theorem shared_is (a b : Dig) : IsShared a b (sharedD a b) := by
  unfold sharedD
  cases hd : dTo a b 32 with
  | nil =>
    have h := dTo_nil hd
    exact ⟨fun j hj => by simp only at hj; unfold bitN; rw [h (j / 8) (by omega)], .inl rfl⟩
  | cons x l =>
    obtain ⟨h1, h2, h3, h4⟩ := dTo_head hd
    simp only
    have hb := byte_law (kn a x.1) (kn b x.1) (kn_le _ _) (kn_le _ _) (by rw [← h2]; exact h3)
    rw [← h2] at hb
    obtain ⟨b1, b2, b3, b4, -⟩ := hb
    refine ⟨fun j hj => ?_, .inr ⟨by omega, ?_⟩⟩
    · unfold bitN
      by_cases hjx : j / 8 < x.1
      · rw [h4 _ hjx]
      · have e : j / 8 = x.1 := by omega
        rw [e]
        exact b3 (j % 8) (by omega)
    · unfold bitN
      rw [show (8 * x.1 + (8 - lenM x.2)) / 8 = x.1 by omega, show 7 - (8 * x.1 + (8 - lenM x.2)) % 8 = lenM x.2 - 1 by omega]
      exact b4
theorem shared_uniq {a b : Dig} {s t : Nat} (hs : IsShared a b s) (ht : IsShared a b t) : s = t := by
  obtain ⟨s1, s2⟩ := hs
  obtain ⟨t1, t2⟩ := ht
  rcases Nat.lt_trichotomy s t with h | h | h
  · have := t1 s h
    rcases s2 with s2 | ⟨_, s2⟩
    · omega
    · exact absurd this s2
  · exact h
  · have := s1 t h
    rcases t2 with t2 | ⟨_, t2⟩
    · omega
    · exact absurd this t2
theorem ahead_is (a b : Dig) : aheadD a b = decide (sharedD a b < 256 ∧ bitN a (sharedD a b) < bitN b (sharedD a b)) := by
  unfold aheadD sharedD
  cases hd : dTo a b 32 with
  | nil => simp
  | cons x l =>
    obtain ⟨h1, h2, h3, h4⟩ := dTo_head hd
    simp only
    have hb := byte_law (kn a x.1) (kn b x.1) (kn_le _ _) (kn_le _ _) (by rw [← h2]; exact h3)
    rw [← h2] at hb
    obtain ⟨b1, b2, b3, b4, b5⟩ := hb
    refine decide_eq_decide.2 ?_
    unfold bitN
    rw [show (8 * x.1 + (8 - lenM x.2)) / 8 = x.1 by omega, show 7 - (8 * x.1 + (8 - lenM x.2)) % 8 = lenM x.2 - 1 by omega, b5]
    constructor
    · exact fun h => ⟨by omega, h⟩
    · exact fun h => h.2
theorem shared_le (a b : Dig) : sharedD a b ≤ 256 := by
  rcases (shared_is a b).2 with h | h <;> omega

/-! the second reading -/
theorem quo2 (x : Nat) (hx : x ≤ 255) : IntKind.u8.wrap ((x : Int).tdiv 2) = ((x / 2 : Nat) : Int) := by
  rw [Int.tdiv_eq_ediv_of_nonneg (by omega), IntWalk.u8_in _ (by omega)]; rfl
theorem rem2 (x : Nat) : (x : Int).tmod 2 = ((x % 2 : Nat) : Int) := by
  rw [Int.tmod_eq_emod_of_nonneg (by omega)]; rfl
theorem half_pow (m j : Nat) (hj : 1 ≤ j) (hj7 : j ≤ 7) : m / 2 ^ (7 - j) / 2 = m / 2 ^ (7 - (j - 1)) := by
  rw [Nat.div_div_eq_div_mul, ← Nat.pow_succ]
  congr 2; omega
theorem bitN_le (k : Dig) (i : Nat) : bitN k i ≤ 1 := by unfold bitN; omega
theorem rat_c (k : Dig) (i : Int) (w : World) (h0 : 0 ≤ i) (h1 : i < 256) :
    Calls Try.prog 19 #[.agg (dv k), .int .i64 i] w fun e w' => e = .returned (.int .u8 (bitN k i.toNat)) ∧ Below w.heap.size w w' := by
  have hg := dv_get k (i := (i/8).toNat) (by omega)
  have hle := kn_le k ((i / 8).toNat)
  refine enter Try.func19 rfl (Nat.le_of_ble_eq_true rfl) (kn0 w) (vs := [_, _]) (fr0 := [(0, _), (1, _)]) rfl (n := 21) rfl ?_
  repeat (first
    | refine cw_seq ?_
    | refine cw_block ?_
    | refine cw_skip ?_
    | refine cw_label ?_
    | refine cw_exit ?_
    | refine cw_ret ?_
    | refine qw_then ?_
    | refine qw_block_normal ?_
    | refine qw_block_exit ?_
    | refine qw_block_other rfl ?_
    | refine qw_block_ret ?_
    | refine qw_then_ret ?_
    | refine qw_then_exit ?_
    | refine cw_true rfl ?_
    | refine cw_false rfl ?_
    | refine cw_scope ?_
    | refine qw_scope_normal ?_
    | refine qw_scope_ret ?_
    | refine qw_scope_exit ?_
    | (refine cw_region (id := 0) ?_
       first | (refine o_a rfl (al_box_agg rfl) (fun b2 fb2 => ?_); try simp only [fresh_iff, keysOf, List.map_cons, List.map_nil, List.forall_mem_cons, List.not_mem_nil, false_imp_iff, implies_true, and_true] at fb2) | (refine o_a rfl (al_box rfl) (fun b2 fb2 => ?_); try simp only [fresh_iff, keysOf, List.map_cons, List.map_nil, List.forall_mem_cons, List.not_mem_nil, false_imp_iff, implies_true, and_true] at fb2)
       refine o_p rfl rfl ?_
       refine ow_nil ?_)
    | (refine cw_region (id := 1) ?_
       refine o_p rfl rfl ?_
       first | refine o_r rfl (rd_quo rfl rfl (by omega) (IntWalk.i64_quo _ _ (by omega))) ?_ | refine o_r rfl (rd_quo rfl rfl (by omega) rfl) ?_
       first | refine o_r rfl (rd_indexAddr_arr Try.underlying23 sz5 rfl rfl (by omega) (by omega) (by rw [Nat.zero_add, Nat.mul_one])) ?_ | refine o_r rfl (rd_indexAddr_arr Try.underlying23 sz5 rfl rfl (by omega) (by omega) (by rw [Nat.zero_add])) ?_ | refine o_r rfl (rd_indexAddr_arr Try.underlying23 sz5 rfl rfl (by omega) (by omega) rfl) ?_
       refine o_r rfl (rd_load rfl (by repeat (first | exact List.Mem.head _ | apply List.Mem.tail)) one5 (by first | rfl | assumption)) ?_
       refine o_p rfl rfl ?_
       refine ow_nil ?_)
    | (refine cw_region (id := 2) ?_
       refine o_p rfl rfl ?_
       refine ow_nil ?_))
  refine cw_loop (fun j : Nat => (i % 8).toNat ≤ j ∧ j ≤ 7) (fun j => [(6, .int .i64 (j : Int)), (5, .int .u8 ((kn k (i / 8).toNat / 2 ^ (7 - j) : Nat) : Int)), (1, .int .i64 i)]) (fun _ => [(b2, .cells (dv k) 23 (0, 0))]) (fun _ => [w]) (fun j => j) 7 ⟨by omega, by omega⟩ ?_ rfl rfl ?_
  · refine ⟨rfl, ?_, rfl, trivial⟩
    simp [List.lookup]
  rintro j ⟨hj0, hj7⟩
  have hq : kn k (i / 8).toNat / 2 ^ (7 - j) ≤ 255 := Nat.le_trans (Nat.div_le_self _ _) hle
  by_cases hj : (i % 8).toNat < j
  · repeat (first
      | refine cw_seq ?_
      | refine cw_block ?_
      | refine cw_skip ?_
      | refine cw_label ?_
      | refine cw_exit ?_
      | refine cw_ret ?_
      | refine qw_then ?_
      | refine qw_block_normal ?_
      | refine qw_block_exit ?_
      | refine qw_block_other rfl ?_
      | refine qw_block_ret ?_
      | refine qw_then_ret ?_
      | refine qw_then_exit ?_
      | refine cw_true rfl ?_
      | refine cw_false rfl ?_
      | refine cw_scope ?_
      | refine qw_scope_normal ?_
      | refine qw_scope_ret ?_
      | refine qw_scope_exit ?_
      | (refine cw_region (id := 0) ?_
         first | (refine o_a rfl (al_box_agg rfl) (fun b2 fb2 => ?_); try simp only [fresh_iff, keysOf, List.map_cons, List.map_nil, List.forall_mem_cons, List.not_mem_nil, false_imp_iff, implies_true, and_true] at fb2) | (refine o_a rfl (al_box rfl) (fun b2 fb2 => ?_); try simp only [fresh_iff, keysOf, List.map_cons, List.map_nil, List.forall_mem_cons, List.not_mem_nil, false_imp_iff, implies_true, and_true] at fb2)
         refine o_p rfl rfl ?_
         refine ow_nil ?_)
      | (refine cw_region (id := 1) ?_
         refine o_p rfl rfl ?_
         first | refine o_r rfl (rd_quo rfl rfl (by omega) (IntWalk.i64_quo _ _ (by omega))) ?_ | refine o_r rfl (rd_quo rfl rfl (by omega) rfl) ?_
         first | refine o_r rfl (rd_indexAddr_arr Try.underlying23 sz5 rfl rfl (by omega) (by omega) (by rw [Nat.zero_add, Nat.mul_one])) ?_ | refine o_r rfl (rd_indexAddr_arr Try.underlying23 sz5 rfl rfl (by omega) (by omega) (by rw [Nat.zero_add])) ?_ | refine o_r rfl (rd_indexAddr_arr Try.underlying23 sz5 rfl rfl (by omega) (by omega) rfl) ?_
         refine o_r rfl (rd_load rfl (by repeat (first | exact List.Mem.head _ | apply List.Mem.tail)) one5 (by first | rfl | assumption)) ?_
         refine o_p rfl rfl ?_
         refine ow_nil ?_)
      | (refine cw_region (id := 2) ?_
         refine o_p rfl rfl ?_
         refine ow_nil ?_)
      | (refine cw_region (id := 3) ?_
         refine o_p rfl rfl ?_
         refine o_p rfl rfl ?_
         first | refine o_r rfl (rd_rem rfl rfl (by omega) (IntWalk.rem_in _ _ (by omega))) ?_ | refine o_r rfl (rd_rem rfl rfl (by omega) rfl) ?_
         first | refine o_r rfl (r_cmp rfl rfl rfl (cmp_t (by omega))) ?_ | refine o_r rfl (r_cmp rfl rfl rfl (cmp_f (by omega))) ?_ | refine o_r rfl (r_cmp rfl rfl rfl rfl) ?_
         refine ow_nil ?_)
      | (refine cw_region (id := 5) ?_
         refine o_p rfl rfl ?_
         refine o_r rfl (rd_quo rfl rfl (by omega) (quo2 _ hq)) ?_
         refine o_p rfl rfl ?_
         refine ow_nil ?_)
      | (refine cw_region (id := 4) ?_
         refine o_p rfl rfl ?_
         first | refine o_r rfl (r_ar rfl rfl rfl (IntWalk.i64_in _ (by omega))) ?_ | refine o_r rfl (r_ar rfl rfl rfl rfl) ?_
         refine o_p rfl rfl ?_
         refine ow_nil ?_))
    refine qw_again (j - 1) ⟨by omega, by omega⟩ ⟨?_, ?_, rfl, trivial⟩ (by omega) (fun _ h => h)
    · simp [List.lookup]; omega
    · rw [← half_pow _ _ (by omega) hj7]; rfl
  · have : j = (i % 8).toNat := by omega
    subst this
    repeat (first
      | refine cw_seq ?_
      | refine cw_block ?_
      | refine cw_skip ?_
      | refine cw_label ?_
      | refine cw_exit ?_
      | refine cw_ret ?_
      | refine qw_then ?_
      | refine qw_block_normal ?_
      | refine qw_block_exit ?_
      | refine qw_block_other rfl ?_
      | refine qw_block_ret ?_
      | refine qw_then_ret ?_
      | refine qw_then_exit ?_
      | refine cw_true rfl ?_
      | refine cw_false rfl ?_
      | refine cw_scope ?_
      | refine qw_scope_normal ?_
      | refine qw_scope_ret ?_
      | refine qw_scope_exit ?_
      | (refine cw_region (id := 0) ?_
         first | (refine o_a rfl (al_box_agg rfl) (fun b2 fb2 => ?_); try simp only [fresh_iff, keysOf, List.map_cons, List.map_nil, List.forall_mem_cons, List.not_mem_nil, false_imp_iff, implies_true, and_true] at fb2) | (refine o_a rfl (al_box rfl) (fun b2 fb2 => ?_); try simp only [fresh_iff, keysOf, List.map_cons, List.map_nil, List.forall_mem_cons, List.not_mem_nil, false_imp_iff, implies_true, and_true] at fb2)
         refine o_p rfl rfl ?_
         refine ow_nil ?_)
      | (refine cw_region (id := 1) ?_
         refine o_p rfl rfl ?_
         first | refine o_r rfl (rd_quo rfl rfl (by omega) (IntWalk.i64_quo _ _ (by omega))) ?_ | refine o_r rfl (rd_quo rfl rfl (by omega) rfl) ?_
         first | refine o_r rfl (rd_indexAddr_arr Try.underlying23 sz5 rfl rfl (by omega) (by omega) (by rw [Nat.zero_add, Nat.mul_one])) ?_ | refine o_r rfl (rd_indexAddr_arr Try.underlying23 sz5 rfl rfl (by omega) (by omega) (by rw [Nat.zero_add])) ?_ | refine o_r rfl (rd_indexAddr_arr Try.underlying23 sz5 rfl rfl (by omega) (by omega) rfl) ?_
         refine o_r rfl (rd_load rfl (by repeat (first | exact List.Mem.head _ | apply List.Mem.tail)) one5 (by first | rfl | assumption)) ?_
         refine o_p rfl rfl ?_
         refine ow_nil ?_)
      | (refine cw_region (id := 2) ?_
         refine o_p rfl rfl ?_
         refine ow_nil ?_)
      | (refine cw_region (id := 3) ?_
         refine o_p rfl rfl ?_
         refine o_p rfl rfl ?_
         first | refine o_r rfl (rd_rem rfl rfl (by omega) (IntWalk.rem_in _ _ (by omega))) ?_ | refine o_r rfl (rd_rem rfl rfl (by omega) rfl) ?_
         first | refine o_r rfl (r_cmp rfl rfl rfl (cmp_t (by omega))) ?_ | refine o_r rfl (r_cmp rfl rfl rfl (cmp_f (by omega))) ?_ | refine o_r rfl (r_cmp rfl rfl rfl rfl) ?_
         refine ow_nil ?_)
      | (refine cw_region (id := 5) ?_
         refine o_p rfl rfl ?_
         first | refine o_r rfl (rd_quo rfl rfl (by omega) (IntWalk.u8_quo _ _ (by omega))) ?_ | refine o_r rfl (rd_quo rfl rfl (by omega) rfl) ?_
         refine o_p rfl rfl ?_
         refine ow_nil ?_)
      | (refine cw_region (id := 4) ?_
         refine o_p rfl rfl ?_
         first | refine o_r rfl (r_ar rfl rfl rfl (IntWalk.i64_in _ (by omega))) ?_ | refine o_r rfl (r_ar rfl rfl rfl rfl) ?_
         refine o_p rfl rfl ?_
         refine ow_nil ?_)
      | (refine cw_region (id := 6) ?_
         refine o_p rfl rfl ?_
         refine o_r rfl (rd_rem rfl rfl (by omega) (rem2 _)) ?_
         refine o_p rfl rfl ?_
         refine ow_nil ?_))
    refine fin1 (.inl rfl) rfl (res_tmp rfl) (fun v hv => ⟨?_, hv.below (by simp) (by simp only [keysOf, List.map_cons, List.map_nil, List.forall_mem_cons, List.not_mem_nil, false_imp_iff, implies_true, and_true] <;> omega)⟩)
    unfold bitN
    rw [show (i / 8).toNat = i.toNat / 8 from by omega, show (i % 8).toNat = i.toNat % 8 from by omega]
theorem rbit_in (k : Dig) (i : Int) (w : World) (h0 : 0 ≤ i) (h1 : i < 256) :
    Calls Try.prog 12 #[.agg (dv k), .int .i64 i] w fun e w' => e = .returned (.tuple #[.int .u8 (bitN k i.toNat), .int .i64 0]) ∧ Below w.heap.size w w' := by
  refine enter Try.func12 rfl (Nat.le_of_ble_eq_true rfl) (kn0 w) (vs := [_, _]) (fr0 := [(0, _), (1, _)]) rfl (n := 15) rfl ?_
  repeat (first
    | refine cw_seq ?_
    | refine cw_block ?_
    | refine cw_skip ?_
    | refine cw_label ?_
    | refine cw_exit ?_
    | refine cw_ret ?_
    | refine qw_then ?_
    | refine qw_block_normal ?_
    | refine qw_block_exit ?_
    | refine qw_block_other rfl ?_
    | refine qw_block_ret ?_
    | refine qw_then_ret ?_
    | refine qw_then_exit ?_
    | refine cw_true rfl ?_
    | refine cw_false rfl ?_
    | refine cw_scope ?_
    | refine qw_scope_normal ?_
    | refine qw_scope_ret ?_
    | refine qw_scope_exit ?_
    | (refine cw_region (id := 0) ?_
       first | (refine o_a rfl (al_box_agg rfl) (fun b2 fb2 => ?_); try simp only [fresh_iff, keysOf, List.map_cons, List.map_nil, List.forall_mem_cons, List.not_mem_nil, false_imp_iff, implies_true, and_true] at fb2) | (refine o_a rfl (al_box rfl) (fun b2 fb2 => ?_); try simp only [fresh_iff, keysOf, List.map_cons, List.map_nil, List.forall_mem_cons, List.not_mem_nil, false_imp_iff, implies_true, and_true] at fb2)
       refine o_p rfl rfl ?_
       refine o_p rfl rfl ?_
       refine ow_nil ?_)
    | (refine cw_region (id := 1) ?_
       refine o_p rfl rfl ?_
       first | refine o_r rfl (r_cmp rfl rfl rfl (cmp_t (by omega))) ?_ | refine o_r rfl (r_cmp rfl rfl rfl (cmp_f (by omega))) ?_ | refine o_r rfl (r_cmp rfl rfl rfl rfl) ?_
       refine o_p rfl rfl ?_
       first | refine o_k rfl ?_ | refine o_p rfl rfl ?_
       first | refine o_k rfl ?_ | refine o_r rfl (r_cmp rfl rfl rfl (cmp_t (by omega))) ?_ | refine o_r rfl (r_cmp rfl rfl rfl (cmp_f (by omega))) ?_ | refine o_r rfl (r_cmp rfl rfl rfl rfl) ?_
       refine o_p rfl rfl ?_
       refine ow_nil ?_)
    | (refine cw_region (id := 2) ?_
       refine o_p rfl rfl ?_
       refine o_p rfl rfl ?_
       refine ow_nil ?_)
    | (refine cw_region (id := 3) ?_
       first | refine o_r rfl (rd_load_all rfl (by repeat (first | exact List.Mem.head _ | apply List.Mem.tail)) agg23 (by simp)) ?_ | refine o_r rfl (rd_load_agg rfl (by repeat (first | exact List.Mem.head _ | apply List.Mem.tail)) agg23 (by simp [Value.cells]) (by first | rfl | simp [Value.cells])) ?_
       refine o_p rfl rfl ?_
       (refine o_c rfl rfl rfl en19 rfl (fun s hs => (rat_c _ _ _ (by omega) (by omega)).mono ?_); rintro e w' ⟨rfl, hb⟩; refine ⟨_, _, _, rfl, hs.grow hb, ?_⟩; clear hb hs w' s)
       refine o_p rfl rfl ?_
       refine o_p rfl rfl ?_
       refine ow_nil ?_))
  exact fin2 (.inl rfl) rfl (res_tmp rfl) (res_tmp rfl) (fun v hv => ⟨rfl, hv.below (by simp) (by simp only [keysOf, List.map_cons, List.map_nil, List.forall_mem_cons, List.not_mem_nil, false_imp_iff, implies_true, and_true] <;> omega)⟩)
theorem rbit_no (k : Dig) (i : Int) (w : World) (h : i < 0 ∨ 256 ≤ i) :
    Calls Try.prog 12 #[.agg (dv k), .int .i64 i] w fun e w' => e = .returned (.tuple #[.int .u8 0, .int .i64 2]) ∧ Below w.heap.size w w' := by
  rcases h with h | h
  all_goals
    refine enter Try.func12 rfl (Nat.le_of_ble_eq_true rfl) (kn0 w) (vs := [_, _]) (fr0 := [(0, _), (1, _)]) rfl (n := 15) rfl ?_
    repeat (first
      | refine cw_seq ?_
      | refine cw_block ?_
      | refine cw_skip ?_
      | refine cw_label ?_
      | refine cw_exit ?_
      | refine cw_ret ?_
      | refine qw_then ?_
      | refine qw_block_normal ?_
      | refine qw_block_exit ?_
      | refine qw_block_other rfl ?_
      | refine qw_block_ret ?_
      | refine qw_then_ret ?_
      | refine qw_then_exit ?_
      | refine cw_true rfl ?_
      | refine cw_false rfl ?_
      | refine cw_scope ?_
      | refine qw_scope_normal ?_
      | refine qw_scope_ret ?_
      | refine qw_scope_exit ?_
      | (refine cw_region (id := 0) ?_
         first | (refine o_a rfl (al_box_agg rfl) (fun b2 fb2 => ?_); try simp only [fresh_iff, keysOf, List.map_cons, List.map_nil, List.forall_mem_cons, List.not_mem_nil, false_imp_iff, implies_true, and_true] at fb2) | (refine o_a rfl (al_box rfl) (fun b2 fb2 => ?_); try simp only [fresh_iff, keysOf, List.map_cons, List.map_nil, List.forall_mem_cons, List.not_mem_nil, false_imp_iff, implies_true, and_true] at fb2)
         refine o_p rfl rfl ?_
         refine o_p rfl rfl ?_
         refine ow_nil ?_)
      | (refine cw_region (id := 1) ?_
         refine o_p rfl rfl ?_
         first | refine o_r rfl (r_cmp rfl rfl rfl (cmp_t (by omega))) ?_ | refine o_r rfl (r_cmp rfl rfl rfl (cmp_f (by omega))) ?_ | refine o_r rfl (r_cmp rfl rfl rfl rfl) ?_
         refine o_p rfl rfl ?_
         first | refine o_k rfl ?_ | refine o_p rfl rfl ?_
         first | refine o_k rfl ?_ | refine o_r rfl (r_cmp rfl rfl rfl (cmp_t (by omega))) ?_ | refine o_r rfl (r_cmp rfl rfl rfl (cmp_f (by omega))) ?_ | refine o_r rfl (r_cmp rfl rfl rfl rfl) ?_
         refine o_p rfl rfl ?_
         refine ow_nil ?_)
      | (refine cw_region (id := 2) ?_
         refine o_p rfl rfl ?_
         refine o_p rfl rfl ?_
         refine ow_nil ?_)
      | (refine cw_region (id := 3) ?_
         first | refine o_r rfl (rd_load_all rfl (by repeat (first | exact List.Mem.head _ | apply List.Mem.tail)) agg23 (by simp)) ?_ | refine o_r rfl (rd_load_agg rfl (by repeat (first | exact List.Mem.head _ | apply List.Mem.tail)) agg23 (by simp [Value.cells]) (by first | rfl | simp [Value.cells])) ?_
         refine o_p rfl rfl ?_
         (refine o_c rfl rfl rfl en19 rfl (fun s hs => (rat_c _ _ _ (by omega) (by omega)).mono ?_); rintro e w' ⟨rfl, hb⟩; refine ⟨_, _, _, rfl, hs.grow hb, ?_⟩; clear hb hs w' s)
         refine o_p rfl rfl ?_
         refine o_p rfl rfl ?_
         refine ow_nil ?_))
    exact fin2 (.inl rfl) rfl (res_tmp rfl) (res_tmp rfl) (fun v hv => ⟨rfl, hv.below (by simp) (by simp only [keysOf, List.map_cons, List.map_nil, List.forall_mem_cons, List.not_mem_nil, false_imp_iff, implies_true, and_true] <;> omega)⟩)

/-! a turned bit, once more -/
@[irreducible] def pw (j : Nat) : Nat := 2 ^ (7 - j)
theorem pw_le (j : Nat) : pw j ≤ 128 := by
  have h : ∀ m, m ≤ 7 → 2 ^ m ≤ 128 := by decide
  unfold pw
  exact h (7 - j) (by omega)
theorem pw7 : pw 7 = 1 := by unfold pw; rfl
theorem turn_byte : ∀ x, x < 256 → ∀ e, e < 8 → x ^^^ pw e = if x / pw e % 2 = 1 then x - pw e else x + pw e := by decide +kernel
theorem turn_le : ∀ x, x < 256 → ∀ e, e < 8 → if x / pw e % 2 = 1 then pw e ≤ x else x + pw e ≤ 255 := by decide +kernel
theorem mul2 (j : Nat) (hj : 1 ≤ j) (hj7 : j ≤ 7) : IntKind.u8.wrap (2 * ((pw j : Nat) : Int)) = ((pw (j - 1) : Nat) : Int) := by
  have h : ∀ j, j ≤ 7 → 1 ≤ j → IntKind.u8.wrap (2 * ((pw j : Nat) : Int)) = ((pw (j - 1) : Nat) : Int) := by decide +kernel
  exact h j hj7 hj
theorem rturn_in (k : Dig) (i : Int) (w : World) (h0 : 0 ≤ i) (h1 : i < 256) :
    Calls Try.prog 13 #[.agg (dv k), .int .i64 i] w fun e w' => e = .returned (.tuple #[.agg (dv (turnM k i.toNat)), .int .i64 0]) ∧ Below w.heap.size w w' := by
  have hg := dv_get k (i := (i/8).toNat) (by omega)
  have hle := kn_le k ((i / 8).toNat)
  have ht := turn_byte (kn k (i / 8).toNat) (by omega) (i % 8).toNat (by omega)
  have htl := turn_le (kn k (i / 8).toNat) (by omega) (i % 8).toNat (by omega)
  have hb : bitN k i.toNat = kn k (i / 8).toNat / pw (i % 8).toNat % 2 := by
    unfold bitN pw
    rw [show (i / 8).toNat = i.toNat / 8 from by omega, show (i % 8).toNat = i.toNat % 8 from by omega]
  rw [← hb] at ht htl
  have hb1 := bitN_le k i.toNat
  have hturn : ∀ v : Int, v = ((kn k (i / 8).toNat ^^^ pw (i % 8).toNat : Nat) : Int) → setD k (i / 8).toNat (UInt8.ofNat v.toNat) = turnM k i.toNat := by
    rintro v rfl
    rw [Int.toNat_natCast]
    unfold turnM pw
    rw [show (i / 8).toNat = i.toNat / 8 from by omega, show (i % 8).toNat = i.toNat % 8 from by omega]
  refine enter Try.func13 rfl (Nat.le_of_ble_eq_true rfl) (kn0 w) (vs := [_, _]) (fr0 := [(0, _), (1, _)]) rfl (n := 42) rfl ?_
  repeat (first
    | refine cw_seq ?_
    | refine cw_block ?_
    | refine cw_skip ?_
    | refine cw_label ?_
    | refine cw_exit ?_
    | refine cw_ret ?_
    | refine qw_then ?_
    | refine qw_block_normal ?_
    | refine qw_block_exit ?_
    | refine qw_block_other rfl ?_
    | refine qw_block_ret ?_
    | refine qw_then_ret ?_
    | refine qw_then_exit ?_
    | refine cw_true rfl ?_
    | refine cw_false rfl ?_
    | refine cw_scope ?_
    | refine qw_scope_normal ?_
    | refine qw_scope_ret ?_
    | refine qw_scope_exit ?_
    | (refine cw_region (id := 0) ?_
       first | (refine o_a rfl (al_box_agg rfl) (fun b2 fb2 => ?_); try simp only [fresh_iff, keysOf, List.map_cons, List.map_nil, List.forall_mem_cons, List.not_mem_nil, false_imp_iff, implies_true, and_true] at fb2) | (refine o_a rfl (al_box rfl) (fun b2 fb2 => ?_); try simp only [fresh_iff, keysOf, List.map_cons, List.map_nil, List.forall_mem_cons, List.not_mem_nil, false_imp_iff, implies_true, and_true] at fb2)
       first | (refine o_a rfl (al_alloc_agg zero23) (fun b4 fb4 => ?_); try simp only [fresh_iff, keysOf, List.map_cons, List.map_nil, List.forall_mem_cons, List.not_mem_nil, false_imp_iff, implies_true, and_true] at fb4) | (refine o_a rfl (al_alloc zero23) (fun b4 fb4 => ?_); try simp only [fresh_iff, keysOf, List.map_cons, List.map_nil, List.forall_mem_cons, List.not_mem_nil, false_imp_iff, implies_true, and_true] at fb4)
       refine o_p rfl rfl ?_
       refine ow_nil ?_)
    | (refine cw_region (id := 1) ?_
       refine o_p rfl rfl ?_
       first | refine o_r rfl (r_cmp rfl rfl rfl (cmp_t (by omega))) ?_ | refine o_r rfl (r_cmp rfl rfl rfl (cmp_f (by omega))) ?_ | refine o_r rfl (r_cmp rfl rfl rfl rfl) ?_
       refine o_p rfl rfl ?_
       first | refine o_k rfl ?_ | refine o_p rfl rfl ?_
       first | refine o_k rfl ?_ | refine o_r rfl (r_cmp rfl rfl rfl (cmp_t (by omega))) ?_ | refine o_r rfl (r_cmp rfl rfl rfl (cmp_f (by omega))) ?_ | refine o_r rfl (r_cmp rfl rfl rfl rfl) ?_
       refine o_p rfl rfl ?_
       refine ow_nil ?_)
    | (refine cw_region (id := 2) ?_
       refine o_r rfl (rd_build (by first | exact build23 | exact rfl)) ?_
       first | refine o_w rfl (wr_store_all rfl rfl agg23 (by simp) (by simp) (by repeat (first | exact Upd.here | apply Upd.there)) (by simp)) ?_ | refine o_w rfl (wr_store_agg rfl rfl agg23 (by simp [Value.cells]) (by first | rfl | simp [Value.cells]) (by first | rfl | exact splice_all _ _ (by simp [Value.cells])) (by repeat (first | exact Upd.here | apply Upd.there)) (by simp [Value.cells])) ?_
       refine o_p rfl rfl ?_
       refine ow_nil ?_)
    | (refine cw_region (id := 3) ?_
       refine o_p rfl rfl ?_
       refine ow_nil ?_)
    | (refine cw_region (id := 4) ?_
       refine o_p rfl rfl ?_
       refine ow_nil ?_))
  refine cw_loop (fun j : Nat => (i % 8).toNat ≤ j ∧ j ≤ 7) (fun j => [(7, .int .i64 (j : Int)), (6, .int .u8 ((pw j : Nat) : Int)), (1, .int .i64 i), (2, .pointer (some ⟨b2, 0, none⟩)), (4, .pointer (some ⟨b4, 0, none⟩))])
    (fun _ => [(b4, .cells (dv zeroD) 23 (0, 0)), (b2, .cells (dv k) 23 (0, 0))]) (fun _ => [w]) (fun j => j) 7 ⟨by omega, by omega⟩ ⟨rfl, by rw [pw7]; rfl, rfl, rfl, rfl, trivial⟩ rfl rfl ?_
  rintro j ⟨hj0, hj7⟩
  have hp := pw_le j
  by_cases hj : (i % 8).toNat < j
  · repeat (first
      | refine cw_seq ?_
      | refine cw_block ?_
      | refine cw_skip ?_
      | refine cw_label ?_
      | refine cw_exit ?_
      | refine cw_ret ?_
      | refine qw_then ?_
      | refine qw_block_normal ?_
      | refine qw_block_exit ?_
      | refine qw_block_other rfl ?_
      | refine qw_block_ret ?_
      | refine qw_then_ret ?_
      | refine qw_then_exit ?_
      | refine cw_true rfl ?_
      | refine cw_false rfl ?_
      | refine cw_scope ?_
      | refine qw_scope_normal ?_
      | refine qw_scope_ret ?_
      | refine qw_scope_exit ?_
      | (refine cw_region (id := 0) ?_
         first | (refine o_a rfl (al_box_agg rfl) (fun b2 fb2 => ?_); try simp only [fresh_iff, keysOf, List.map_cons, List.map_nil, List.forall_mem_cons, List.not_mem_nil, false_imp_iff, implies_true, and_true] at fb2) | (refine o_a rfl (al_box rfl) (fun b2 fb2 => ?_); try simp only [fresh_iff, keysOf, List.map_cons, List.map_nil, List.forall_mem_cons, List.not_mem_nil, false_imp_iff, implies_true, and_true] at fb2)
         first | (refine o_a rfl (al_alloc_agg zero23) (fun b4 fb4 => ?_); try simp only [fresh_iff, keysOf, List.map_cons, List.map_nil, List.forall_mem_cons, List.not_mem_nil, false_imp_iff, implies_true, and_true] at fb4) | (refine o_a rfl (al_alloc zero23) (fun b4 fb4 => ?_); try simp only [fresh_iff, keysOf, List.map_cons, List.map_nil, List.forall_mem_cons, List.not_mem_nil, false_imp_iff, implies_true, and_true] at fb4)
         refine o_p rfl rfl ?_
         refine ow_nil ?_)
      | (refine cw_region (id := 1) ?_
         refine o_p rfl rfl ?_
         first | refine o_r rfl (r_cmp rfl rfl rfl (cmp_t (by omega))) ?_ | refine o_r rfl (r_cmp rfl rfl rfl (cmp_f (by omega))) ?_ | refine o_r rfl (r_cmp rfl rfl rfl rfl) ?_
         refine o_p rfl rfl ?_
         first | refine o_k rfl ?_ | refine o_p rfl rfl ?_
         first | refine o_k rfl ?_ | refine o_r rfl (r_cmp rfl rfl rfl (cmp_t (by omega))) ?_ | refine o_r rfl (r_cmp rfl rfl rfl (cmp_f (by omega))) ?_ | refine o_r rfl (r_cmp rfl rfl rfl rfl) ?_
         refine o_p rfl rfl ?_
         refine ow_nil ?_)
      | (refine cw_region (id := 2) ?_
         refine o_r rfl (rd_build (by first | exact build23 | exact rfl)) ?_
         first | refine o_w rfl (wr_store_all rfl rfl agg23 (by simp) (by simp) (by repeat (first | exact Upd.here | apply Upd.there)) (by simp)) ?_ | refine o_w rfl (wr_store_agg rfl rfl agg23 (by simp [Value.cells]) (by first | rfl | simp [Value.cells]) (by first | rfl | exact splice_all _ _ (by simp [Value.cells])) (by repeat (first | exact Upd.here | apply Upd.there)) (by simp [Value.cells])) ?_
         refine o_p rfl rfl ?_
         refine ow_nil ?_)
      | (refine cw_region (id := 3) ?_
         refine o_p rfl rfl ?_
         refine ow_nil ?_)
      | (refine cw_region (id := 4) ?_
         refine o_p rfl rfl ?_
         refine ow_nil ?_)
      | (refine cw_region (id := 5) ?_
         refine o_p rfl rfl ?_
         refine o_p rfl rfl ?_
         first | refine o_r rfl (rd_rem rfl rfl (by omega) (IntWalk.rem_in _ _ (by omega))) ?_ | refine o_r rfl (rd_rem rfl rfl (by omega) rfl) ?_
         first | refine o_r rfl (r_cmp rfl rfl rfl (cmp_t (by omega))) ?_ | refine o_r rfl (r_cmp rfl rfl rfl (cmp_f (by omega))) ?_ | refine o_r rfl (r_cmp rfl rfl rfl rfl) ?_
         refine ow_nil ?_)
      | (refine cw_region (id := 7) ?_
         refine o_p rfl rfl ?_
         refine o_r rfl (r_ar rfl rfl rfl (mul2 j (by omega) hj7)) ?_
         refine o_p rfl rfl ?_
         refine ow_nil ?_)
      | (refine cw_region (id := 6) ?_
         refine o_p rfl rfl ?_
         first | refine o_r rfl (r_ar rfl rfl rfl (IntWalk.i64_in _ (by omega))) ?_ | refine o_r rfl (r_ar rfl rfl rfl rfl) ?_
         refine o_p rfl rfl ?_
         refine ow_nil ?_))
    refine qw_again (j - 1) ⟨by omega, by omega⟩ ⟨?_, rfl, rfl, rfl, rfl, trivial⟩ (by omega) (fun _ h => h)
    simp [List.lookup]; omega
  · have : j = (i % 8).toNat := by omega
    subst this
    by_cases hbit : bitN k i.toNat = 1
    · rw [if_pos hbit] at ht htl
      have hv := hturn (((kn k (i / 8).toNat : Nat) : Int) - ((pw (i % 8).toNat : Nat) : Int)) (by omega)
      repeat (first
        | refine cw_seq ?_
        | refine cw_block ?_
        | refine cw_skip ?_
        | refine cw_label ?_
        | refine cw_exit ?_
        | refine cw_ret ?_
        | refine qw_then ?_
        | refine qw_block_normal ?_
        | refine qw_block_exit ?_
        | refine qw_block_other rfl ?_
        | refine qw_block_ret ?_
        | refine qw_then_ret ?_
        | refine qw_then_exit ?_
        | refine cw_true rfl ?_
        | refine cw_false rfl ?_
        | refine cw_scope ?_
        | refine qw_scope_normal ?_
        | refine qw_scope_ret ?_
        | refine qw_scope_exit ?_
        | (refine cw_region (id := 0) ?_
           first | (refine o_a rfl (al_box_agg rfl) (fun b2 fb2 => ?_); try simp only [fresh_iff, keysOf, List.map_cons, List.map_nil, List.forall_mem_cons, List.not_mem_nil, false_imp_iff, implies_true, and_true] at fb2) | (refine o_a rfl (al_box rfl) (fun b2 fb2 => ?_); try simp only [fresh_iff, keysOf, List.map_cons, List.map_nil, List.forall_mem_cons, List.not_mem_nil, false_imp_iff, implies_true, and_true] at fb2)
           first | (refine o_a rfl (al_alloc_agg zero23) (fun b4 fb4 => ?_); try simp only [fresh_iff, keysOf, List.map_cons, List.map_nil, List.forall_mem_cons, List.not_mem_nil, false_imp_iff, implies_true, and_true] at fb4) | (refine o_a rfl (al_alloc zero23) (fun b4 fb4 => ?_); try simp only [fresh_iff, keysOf, List.map_cons, List.map_nil, List.forall_mem_cons, List.not_mem_nil, false_imp_iff, implies_true, and_true] at fb4)
           refine o_p rfl rfl ?_
           refine ow_nil ?_)
        | (refine cw_region (id := 1) ?_
           refine o_p rfl rfl ?_
           first | refine o_r rfl (r_cmp rfl rfl rfl (cmp_t (by omega))) ?_ | refine o_r rfl (r_cmp rfl rfl rfl (cmp_f (by omega))) ?_ | refine o_r rfl (r_cmp rfl rfl rfl rfl) ?_
           refine o_p rfl rfl ?_
           first | refine o_k rfl ?_ | refine o_p rfl rfl ?_
           first | refine o_k rfl ?_ | refine o_r rfl (r_cmp rfl rfl rfl (cmp_t (by omega))) ?_ | refine o_r rfl (r_cmp rfl rfl rfl (cmp_f (by omega))) ?_ | refine o_r rfl (r_cmp rfl rfl rfl rfl) ?_
           refine o_p rfl rfl ?_
           refine ow_nil ?_)
        | (refine cw_region (id := 2) ?_
           refine o_r rfl (rd_build (by first | exact build23 | exact rfl)) ?_
           first | refine o_w rfl (wr_store_all rfl rfl agg23 (by simp) (by simp) (by repeat (first | exact Upd.here | apply Upd.there)) (by simp)) ?_ | refine o_w rfl (wr_store_agg rfl rfl agg23 (by simp [Value.cells]) (by first | rfl | simp [Value.cells]) (by first | rfl | exact splice_all _ _ (by simp [Value.cells])) (by repeat (first | exact Upd.here | apply Upd.there)) (by simp [Value.cells])) ?_
           refine o_p rfl rfl ?_
           refine ow_nil ?_)
        | (refine cw_region (id := 3) ?_
           refine o_p rfl rfl ?_
           refine ow_nil ?_)
        | (refine cw_region (id := 4) ?_
           refine o_p rfl rfl ?_
           refine ow_nil ?_)
        | (refine cw_region (id := 5) ?_
           refine o_p rfl rfl ?_
           refine o_p rfl rfl ?_
           first | refine o_r rfl (rd_rem rfl rfl (by omega) (IntWalk.rem_in _ _ (by omega))) ?_ | refine o_r rfl (rd_rem rfl rfl (by omega) rfl) ?_
           first | refine o_r rfl (r_cmp rfl rfl rfl (cmp_t (by omega))) ?_ | refine o_r rfl (r_cmp rfl rfl rfl (cmp_f (by omega))) ?_ | refine o_r rfl (r_cmp rfl rfl rfl rfl) ?_
           refine ow_nil ?_)
        | (refine cw_region (id := 7) ?_
           refine o_p rfl rfl ?_
           first | refine o_r rfl (r_ar rfl rfl rfl (IntWalk.u8_in _ (by omega))) ?_ | refine o_r rfl (r_ar rfl rfl rfl rfl) ?_
           refine o_p rfl rfl ?_
           refine ow_nil ?_)
        | (refine cw_region (id := 6) ?_
           refine o_p rfl rfl ?_
           first | refine o_r rfl (r_ar rfl rfl rfl (IntWalk.i64_in _ (by omega))) ?_ | refine o_r rfl (r_ar rfl rfl rfl rfl) ?_
           refine o_p rfl rfl ?_
           refine ow_nil ?_)
        | (refine cw_region (id := 8) ?_
           first | refine o_r rfl (rd_load_all rfl (by repeat (first | exact List.Mem.head _ | apply List.Mem.tail)) agg23 (by simp)) ?_ | refine o_r rfl (rd_load_agg rfl (by repeat (first | exact List.Mem.head _ | apply List.Mem.tail)) agg23 (by simp [Value.cells]) (by first | rfl | simp [Value.cells])) ?_
           refine o_p rfl rfl ?_
           (refine o_c rfl rfl rfl en19 rfl (fun s hs => (rat_c _ _ _ (by omega) (by omega)).mono ?_); rintro e w' ⟨rfl, hb⟩; refine ⟨_, _, _, rfl, hs.grow hb, ?_⟩; clear hb hs w' s)
           first | refine o_r rfl (r_cmp rfl rfl rfl (cmp_t (by omega))) ?_ | refine o_r rfl (r_cmp rfl rfl rfl (cmp_f (by omega))) ?_ | refine o_r rfl (r_cmp rfl rfl rfl rfl) ?_
           refine ow_nil ?_))
      refine cw_region (id := 9) ?_
      refine o_p rfl rfl ?_
      first | refine o_r rfl (rd_quo rfl rfl (by omega) (IntWalk.i64_quo _ _ (by omega))) ?_ | refine o_r rfl (rd_quo rfl rfl (by omega) rfl) ?_
      first | refine o_r rfl (rd_indexAddr_arr Try.underlying23 sz5 rfl rfl (by omega) (by omega) (by rw [Nat.zero_add, Nat.mul_one])) ?_ | refine o_r rfl (rd_indexAddr_arr Try.underlying23 sz5 rfl rfl (by omega) (by omega) (by rw [Nat.zero_add])) ?_ | refine o_r rfl (rd_indexAddr_arr Try.underlying23 sz5 rfl rfl (by omega) (by omega) rfl) ?_
      refine o_r rfl (rd_load rfl (by repeat (first | exact List.Mem.head _ | apply List.Mem.tail)) one5 (by first | rfl | assumption)) ?_
      refine o_p rfl rfl ?_
      refine o_r rfl (r_ar rfl rfl rfl (IntWalk.u8_in _ (by omega))) ?_
      first | refine o_r rfl (rd_indexAddr_arr Try.underlying23 sz5 rfl rfl (by omega) (by omega) (by rw [Nat.zero_add, Nat.mul_one])) ?_ | refine o_r rfl (rd_indexAddr_arr Try.underlying23 sz5 rfl rfl (by omega) (by omega) (by rw [Nat.zero_add])) ?_ | refine o_r rfl (rd_indexAddr_arr Try.underlying23 sz5 rfl rfl (by omega) (by omega) rfl) ?_
      refine o_w rfl (wr_store_dig rfl rfl sz5 (by omega) (by omega) (by repeat (first | exact Upd.here | apply Upd.there)) (by omega)) ?_
      refine ow_nil ?_
      rw [hv]
      repeat (first
        | refine cw_seq ?_
        | refine cw_block ?_
        | refine cw_skip ?_
        | refine cw_label ?_
        | refine cw_exit ?_
        | refine cw_ret ?_
        | refine qw_then ?_
        | refine qw_block_normal ?_
        | refine qw_block_exit ?_
        | refine qw_block_other rfl ?_
        | refine qw_block_ret ?_
        | refine qw_then_ret ?_
        | refine qw_then_exit ?_
        | refine cw_true rfl ?_
        | refine cw_false rfl ?_
        | refine cw_scope ?_
        | refine qw_scope_normal ?_
        | refine qw_scope_ret ?_
        | refine qw_scope_exit ?_
        | (refine cw_region (id := 0) ?_
           first | (refine o_a rfl (al_box_agg rfl) (fun b2 fb2 => ?_); try simp only [fresh_iff, keysOf, List.map_cons, List.map_nil, List.forall_mem_cons, List.not_mem_nil, false_imp_iff, implies_true, and_true] at fb2) | (refine o_a rfl (al_box rfl) (fun b2 fb2 => ?_); try simp only [fresh_iff, keysOf, List.map_cons, List.map_nil, List.forall_mem_cons, List.not_mem_nil, false_imp_iff, implies_true, and_true] at fb2)
           first | (refine o_a rfl (al_alloc_agg zero23) (fun b4 fb4 => ?_); try simp only [fresh_iff, keysOf, List.map_cons, List.map_nil, List.forall_mem_cons, List.not_mem_nil, false_imp_iff, implies_true, and_true] at fb4) | (refine o_a rfl (al_alloc zero23) (fun b4 fb4 => ?_); try simp only [fresh_iff, keysOf, List.map_cons, List.map_nil, List.forall_mem_cons, List.not_mem_nil, false_imp_iff, implies_true, and_true] at fb4)
           refine o_p rfl rfl ?_
           refine ow_nil ?_)
        | (refine cw_region (id := 1) ?_
           refine o_p rfl rfl ?_
           first | refine o_r rfl (r_cmp rfl rfl rfl (cmp_t (by omega))) ?_ | refine o_r rfl (r_cmp rfl rfl rfl (cmp_f (by omega))) ?_ | refine o_r rfl (r_cmp rfl rfl rfl rfl) ?_
           refine o_p rfl rfl ?_
           first | refine o_k rfl ?_ | refine o_p rfl rfl ?_
           first | refine o_k rfl ?_ | refine o_r rfl (r_cmp rfl rfl rfl (cmp_t (by omega))) ?_ | refine o_r rfl (r_cmp rfl rfl rfl (cmp_f (by omega))) ?_ | refine o_r rfl (r_cmp rfl rfl rfl rfl) ?_
           refine o_p rfl rfl ?_
           refine ow_nil ?_)
        | (refine cw_region (id := 2) ?_
           refine o_r rfl (rd_build (by first | exact build23 | exact rfl)) ?_
           first | refine o_w rfl (wr_store_all rfl rfl agg23 (by simp) (by simp) (by repeat (first | exact Upd.here | apply Upd.there)) (by simp)) ?_ | refine o_w rfl (wr_store_agg rfl rfl agg23 (by simp [Value.cells]) (by first | rfl | simp [Value.cells]) (by first | rfl | exact splice_all _ _ (by simp [Value.cells])) (by repeat (first | exact Upd.here | apply Upd.there)) (by simp [Value.cells])) ?_
           refine o_p rfl rfl ?_
           refine ow_nil ?_)
        | (refine cw_region (id := 3) ?_
           refine o_p rfl rfl ?_
           refine ow_nil ?_)
        | (refine cw_region (id := 4) ?_
           refine o_p rfl rfl ?_
           refine ow_nil ?_)
        | (refine cw_region (id := 5) ?_
           refine o_p rfl rfl ?_
           refine o_p rfl rfl ?_
           first | refine o_r rfl (rd_rem rfl rfl (by omega) (IntWalk.rem_in _ _ (by omega))) ?_ | refine o_r rfl (rd_rem rfl rfl (by omega) rfl) ?_
           first | refine o_r rfl (r_cmp rfl rfl rfl (cmp_t (by omega))) ?_ | refine o_r rfl (r_cmp rfl rfl rfl (cmp_f (by omega))) ?_ | refine o_r rfl (r_cmp rfl rfl rfl rfl) ?_
           refine ow_nil ?_)
        | (refine cw_region (id := 7) ?_
           refine o_p rfl rfl ?_
           first | refine o_r rfl (r_ar rfl rfl rfl (IntWalk.u8_in _ (by omega))) ?_ | refine o_r rfl (r_ar rfl rfl rfl rfl) ?_
           refine o_p rfl rfl ?_
           refine ow_nil ?_)
        | (refine cw_region (id := 6) ?_
           refine o_p rfl rfl ?_
           first | refine o_r rfl (r_ar rfl rfl rfl (IntWalk.i64_in _ (by omega))) ?_ | refine o_r rfl (r_ar rfl rfl rfl rfl) ?_
           refine o_p rfl rfl ?_
           refine ow_nil ?_)
        | (refine cw_region (id := 8) ?_
           first | refine o_r rfl (rd_load_all rfl (by repeat (first | exact List.Mem.head _ | apply List.Mem.tail)) agg23 (by simp)) ?_ | refine o_r rfl (rd_load_agg rfl (by repeat (first | exact List.Mem.head _ | apply List.Mem.tail)) agg23 (by simp [Value.cells]) (by first | rfl | simp [Value.cells])) ?_
           refine o_p rfl rfl ?_
           (refine o_c rfl rfl rfl en19 rfl (fun s hs => (rat_c _ _ _ (by omega) (by omega)).mono ?_); rintro e w' ⟨rfl, hb⟩; refine ⟨_, _, _, rfl, hs.grow hb, ?_⟩; clear hb hs w' s)
           first | refine o_r rfl (r_cmp rfl rfl rfl (cmp_t (by omega))) ?_ | refine o_r rfl (r_cmp rfl rfl rfl (cmp_f (by omega))) ?_ | refine o_r rfl (r_cmp rfl rfl rfl rfl) ?_
           refine ow_nil ?_)
        | (refine cw_region (id := 9) ?_
           refine o_p rfl rfl ?_
           first | refine o_r rfl (rd_quo rfl rfl (by omega) (IntWalk.i64_quo _ _ (by omega))) ?_ | refine o_r rfl (rd_quo rfl rfl (by omega) rfl) ?_
           first | refine o_r rfl (rd_indexAddr_arr Try.underlying23 sz5 rfl rfl (by omega) (by omega) (by rw [Nat.zero_add, Nat.mul_one])) ?_ | refine o_r rfl (rd_indexAddr_arr Try.underlying23 sz5 rfl rfl (by omega) (by omega) (by rw [Nat.zero_add])) ?_ | refine o_r rfl (rd_indexAddr_arr Try.underlying23 sz5 rfl rfl (by omega) (by omega) rfl) ?_
           refine o_r rfl (rd_load rfl (by repeat (first | exact List.Mem.head _ | apply List.Mem.tail)) one5 (by first | rfl | assumption)) ?_
           refine o_p rfl rfl ?_
           first | refine o_r rfl (r_ar rfl rfl rfl (IntWalk.u8_in _ (by omega))) ?_ | refine o_r rfl (r_ar rfl rfl rfl rfl) ?_
           first | refine o_r rfl (rd_indexAddr_arr Try.underlying23 sz5 rfl rfl (by omega) (by omega) (by rw [Nat.zero_add, Nat.mul_one])) ?_ | refine o_r rfl (rd_indexAddr_arr Try.underlying23 sz5 rfl rfl (by omega) (by omega) (by rw [Nat.zero_add])) ?_ | refine o_r rfl (rd_indexAddr_arr Try.underlying23 sz5 rfl rfl (by omega) (by omega) rfl) ?_
           refine o_w rfl (wr_store rfl rfl sz5 rfl (by repeat (first | exact Upd.here | apply Upd.there)) (by simp [Value.cells])) ?_
           refine ow_nil ?_)
        | (refine cw_region (id := 10) ?_
           refine o_p rfl rfl ?_
           first | refine o_r rfl (rd_quo rfl rfl (by omega) (IntWalk.i64_quo _ _ (by omega))) ?_ | refine o_r rfl (rd_quo rfl rfl (by omega) rfl) ?_
           first | refine o_r rfl (rd_indexAddr_arr Try.underlying23 sz5 rfl rfl (by omega) (by omega) (by rw [Nat.zero_add, Nat.mul_one])) ?_ | refine o_r rfl (rd_indexAddr_arr Try.underlying23 sz5 rfl rfl (by omega) (by omega) (by rw [Nat.zero_add])) ?_ | refine o_r rfl (rd_indexAddr_arr Try.underlying23 sz5 rfl rfl (by omega) (by omega) rfl) ?_
           refine o_r rfl (rd_load rfl (by repeat (first | exact List.Mem.head _ | apply List.Mem.tail)) one5 (by first | rfl | assumption)) ?_
           refine o_p rfl rfl ?_
           first | refine o_r rfl (r_ar rfl rfl rfl (IntWalk.u8_in _ (by omega))) ?_ | refine o_r rfl (r_ar rfl rfl rfl rfl) ?_
           first | refine o_r rfl (rd_indexAddr_arr Try.underlying23 sz5 rfl rfl (by omega) (by omega) (by rw [Nat.zero_add, Nat.mul_one])) ?_ | refine o_r rfl (rd_indexAddr_arr Try.underlying23 sz5 rfl rfl (by omega) (by omega) (by rw [Nat.zero_add])) ?_ | refine o_r rfl (rd_indexAddr_arr Try.underlying23 sz5 rfl rfl (by omega) (by omega) rfl) ?_
           refine o_w rfl (wr_store rfl rfl sz5 rfl (by repeat (first | exact Upd.here | apply Upd.there)) (by simp [Value.cells])) ?_
           refine ow_nil ?_)
        | (refine cw_region (id := 11) ?_
           first | refine o_r rfl (rd_load_all rfl (by repeat (first | exact List.Mem.head _ | apply List.Mem.tail)) agg23 (by simp)) ?_ | refine o_r rfl (rd_load_agg rfl (by repeat (first | exact List.Mem.head _ | apply List.Mem.tail)) agg23 (by simp [Value.cells]) (by first | rfl | simp [Value.cells])) ?_
           first | refine o_w rfl (wr_store_all rfl rfl agg23 (by simp) (by simp) (by repeat (first | exact Upd.here | apply Upd.there)) (by simp)) ?_ | refine o_w rfl (wr_store_agg rfl rfl agg23 (by simp [Value.cells]) (by first | rfl | simp [Value.cells]) (by first | rfl | exact splice_all _ _ (by simp [Value.cells])) (by repeat (first | exact Upd.here | apply Upd.there)) (by simp [Value.cells])) ?_
           refine o_p rfl rfl ?_
           refine ow_nil ?_))
      exact fin2 (.inl rfl) rfl (res_cell_agg rfl (by repeat (first | exact List.Mem.head _ | apply List.Mem.tail)) agg23 (by simp [Value.cells]) (dv_ext _)) (res_tmp rfl) (fun v hv => ⟨rfl, hv.below (by simp) (by simp only [keysOf, List.map_cons, List.map_nil, List.forall_mem_cons, List.not_mem_nil, false_imp_iff, implies_true, and_true] <;> omega)⟩)
    · rw [if_neg hbit] at ht htl
      have hv := hturn (((kn k (i / 8).toNat : Nat) : Int) + ((pw (i % 8).toNat : Nat) : Int)) (by omega)
      repeat (first
        | refine cw_seq ?_
        | refine cw_block ?_
        | refine cw_skip ?_
        | refine cw_label ?_
        | refine cw_exit ?_
        | refine cw_ret ?_
        | refine qw_then ?_
        | refine qw_block_normal ?_
        | refine qw_block_exit ?_
        | refine qw_block_other rfl ?_
        | refine qw_block_ret ?_
        | refine qw_then_ret ?_
        | refine qw_then_exit ?_
        | refine cw_true rfl ?_
        | refine cw_false rfl ?_
        | refine cw_scope ?_
        | refine qw_scope_normal ?_
        | refine qw_scope_ret ?_
        | refine qw_scope_exit ?_
        | (refine cw_region (id := 0) ?_
           first | (refine o_a rfl (al_box_agg rfl) (fun b2 fb2 => ?_); try simp only [fresh_iff, keysOf, List.map_cons, List.map_nil, List.forall_mem_cons, List.not_mem_nil, false_imp_iff, implies_true, and_true] at fb2) | (refine o_a rfl (al_box rfl) (fun b2 fb2 => ?_); try simp only [fresh_iff, keysOf, List.map_cons, List.map_nil, List.forall_mem_cons, List.not_mem_nil, false_imp_iff, implies_true, and_true] at fb2)
           first | (refine o_a rfl (al_alloc_agg zero23) (fun b4 fb4 => ?_); try simp only [fresh_iff, keysOf, List.map_cons, List.map_nil, List.forall_mem_cons, List.not_mem_nil, false_imp_iff, implies_true, and_true] at fb4) | (refine o_a rfl (al_alloc zero23) (fun b4 fb4 => ?_); try simp only [fresh_iff, keysOf, List.map_cons, List.map_nil, List.forall_mem_cons, List.not_mem_nil, false_imp_iff, implies_true, and_true] at fb4)
           refine o_p rfl rfl ?_
           refine ow_nil ?_)
        | (refine cw_region (id := 1) ?_
           refine o_p rfl rfl ?_
           first | refine o_r rfl (r_cmp rfl rfl rfl (cmp_t (by omega))) ?_ | refine o_r rfl (r_cmp rfl rfl rfl (cmp_f (by omega))) ?_ | refine o_r rfl (r_cmp rfl rfl rfl rfl) ?_
           refine o_p rfl rfl ?_
           first | refine o_k rfl ?_ | refine o_p rfl rfl ?_
           first | refine o_k rfl ?_ | refine o_r rfl (r_cmp rfl rfl rfl (cmp_t (by omega))) ?_ | refine o_r rfl (r_cmp rfl rfl rfl (cmp_f (by omega))) ?_ | refine o_r rfl (r_cmp rfl rfl rfl rfl) ?_
           refine o_p rfl rfl ?_
           refine ow_nil ?_)
        | (refine cw_region (id := 2) ?_
           refine o_r rfl (rd_build (by first | exact build23 | exact rfl)) ?_
           first | refine o_w rfl (wr_store_all rfl rfl agg23 (by simp) (by simp) (by repeat (first | exact Upd.here | apply Upd.there)) (by simp)) ?_ | refine o_w rfl (wr_store_agg rfl rfl agg23 (by simp [Value.cells]) (by first | rfl | simp [Value.cells]) (by first | rfl | exact splice_all _ _ (by simp [Value.cells])) (by repeat (first | exact Upd.here | apply Upd.there)) (by simp [Value.cells])) ?_
           refine o_p rfl rfl ?_
           refine ow_nil ?_)
        | (refine cw_region (id := 3) ?_
           refine o_p rfl rfl ?_
           refine ow_nil ?_)
        | (refine cw_region (id := 4) ?_
           refine o_p rfl rfl ?_
           refine ow_nil ?_)
        | (refine cw_region (id := 5) ?_
           refine o_p rfl rfl ?_
           refine o_p rfl rfl ?_
           first | refine o_r rfl (rd_rem rfl rfl (by omega) (IntWalk.rem_in _ _ (by omega))) ?_ | refine o_r rfl (rd_rem rfl rfl (by omega) rfl) ?_
           first | refine o_r rfl (r_cmp rfl rfl rfl (cmp_t (by omega))) ?_ | refine o_r rfl (r_cmp rfl rfl rfl (cmp_f (by omega))) ?_ | refine o_r rfl (r_cmp rfl rfl rfl rfl) ?_
           refine ow_nil ?_)
        | (refine cw_region (id := 7) ?_
           refine o_p rfl rfl ?_
           first | refine o_r rfl (r_ar rfl rfl rfl (IntWalk.u8_in _ (by omega))) ?_ | refine o_r rfl (r_ar rfl rfl rfl rfl) ?_
           refine o_p rfl rfl ?_
           refine ow_nil ?_)
        | (refine cw_region (id := 6) ?_
           refine o_p rfl rfl ?_
           first | refine o_r rfl (r_ar rfl rfl rfl (IntWalk.i64_in _ (by omega))) ?_ | refine o_r rfl (r_ar rfl rfl rfl rfl) ?_
           refine o_p rfl rfl ?_
           refine ow_nil ?_)
        | (refine cw_region (id := 8) ?_
           first | refine o_r rfl (rd_load_all rfl (by repeat (first | exact List.Mem.head _ | apply List.Mem.tail)) agg23 (by simp)) ?_ | refine o_r rfl (rd_load_agg rfl (by repeat (first | exact List.Mem.head _ | apply List.Mem.tail)) agg23 (by simp [Value.cells]) (by first | rfl | simp [Value.cells])) ?_
           refine o_p rfl rfl ?_
           (refine o_c rfl rfl rfl en19 rfl (fun s hs => (rat_c _ _ _ (by omega) (by omega)).mono ?_); rintro e w' ⟨rfl, hb⟩; refine ⟨_, _, _, rfl, hs.grow hb, ?_⟩; clear hb hs w' s)
           first | refine o_r rfl (r_cmp rfl rfl rfl (cmp_t (by omega))) ?_ | refine o_r rfl (r_cmp rfl rfl rfl (cmp_f (by omega))) ?_ | refine o_r rfl (r_cmp rfl rfl rfl rfl) ?_
           refine ow_nil ?_))
      refine cw_region (id := 10) ?_
      refine o_p rfl rfl ?_
      first | refine o_r rfl (rd_quo rfl rfl (by omega) (IntWalk.i64_quo _ _ (by omega))) ?_ | refine o_r rfl (rd_quo rfl rfl (by omega) rfl) ?_
      first | refine o_r rfl (rd_indexAddr_arr Try.underlying23 sz5 rfl rfl (by omega) (by omega) (by rw [Nat.zero_add, Nat.mul_one])) ?_ | refine o_r rfl (rd_indexAddr_arr Try.underlying23 sz5 rfl rfl (by omega) (by omega) (by rw [Nat.zero_add])) ?_ | refine o_r rfl (rd_indexAddr_arr Try.underlying23 sz5 rfl rfl (by omega) (by omega) rfl) ?_
      refine o_r rfl (rd_load rfl (by repeat (first | exact List.Mem.head _ | apply List.Mem.tail)) one5 (by first | rfl | assumption)) ?_
      refine o_p rfl rfl ?_
      refine o_r rfl (r_ar rfl rfl rfl (IntWalk.u8_in _ (by omega))) ?_
      first | refine o_r rfl (rd_indexAddr_arr Try.underlying23 sz5 rfl rfl (by omega) (by omega) (by rw [Nat.zero_add, Nat.mul_one])) ?_ | refine o_r rfl (rd_indexAddr_arr Try.underlying23 sz5 rfl rfl (by omega) (by omega) (by rw [Nat.zero_add])) ?_ | refine o_r rfl (rd_indexAddr_arr Try.underlying23 sz5 rfl rfl (by omega) (by omega) rfl) ?_
      refine o_w rfl (wr_store_dig rfl rfl sz5 (by omega) (by omega) (by repeat (first | exact Upd.here | apply Upd.there)) (by omega)) ?_
      refine ow_nil ?_
      rw [hv]
      repeat (first
        | refine cw_seq ?_
        | refine cw_block ?_
        | refine cw_skip ?_
        | refine cw_label ?_
        | refine cw_exit ?_
        | refine cw_ret ?_
        | refine qw_then ?_
        | refine qw_block_normal ?_
        | refine qw_block_exit ?_
        | refine qw_block_other rfl ?_
        | refine qw_block_ret ?_
        | refine qw_then_ret ?_
        | refine qw_then_exit ?_
        | refine cw_true rfl ?_
        | refine cw_false rfl ?_
        | refine cw_scope ?_
        | refine qw_scope_normal ?_
        | refine qw_scope_ret ?_
        | refine qw_scope_exit ?_
        | (refine cw_region (id := 0) ?_
           first | (refine o_a rfl (al_box_agg rfl) (fun b2 fb2 => ?_); try simp only [fresh_iff, keysOf, List.map_cons, List.map_nil, List.forall_mem_cons, List.not_mem_nil, false_imp_iff, implies_true, and_true] at fb2) | (refine o_a rfl (al_box rfl) (fun b2 fb2 => ?_); try simp only [fresh_iff, keysOf, List.map_cons, List.map_nil, List.forall_mem_cons, List.not_mem_nil, false_imp_iff, implies_true, and_true] at fb2)
           first | (refine o_a rfl (al_alloc_agg zero23) (fun b4 fb4 => ?_); try simp only [fresh_iff, keysOf, List.map_cons, List.map_nil, List.forall_mem_cons, List.not_mem_nil, false_imp_iff, implies_true, and_true] at fb4) | (refine o_a rfl (al_alloc zero23) (fun b4 fb4 => ?_); try simp only [fresh_iff, keysOf, List.map_cons, List.map_nil, List.forall_mem_cons, List.not_mem_nil, false_imp_iff, implies_true, and_true] at fb4)
           refine o_p rfl rfl ?_
           refine ow_nil ?_)
        | (refine cw_region (id := 1) ?_
           refine o_p rfl rfl ?_
           first | refine o_r rfl (r_cmp rfl rfl rfl (cmp_t (by omega))) ?_ | refine o_r rfl (r_cmp rfl rfl rfl (cmp_f (by omega))) ?_ | refine o_r rfl (r_cmp rfl rfl rfl rfl) ?_
           refine o_p rfl rfl ?_
           first | refine o_k rfl ?_ | refine o_p rfl rfl ?_
           first | refine o_k rfl ?_ | refine o_r rfl (r_cmp rfl rfl rfl (cmp_t (by omega))) ?_ | refine o_r rfl (r_cmp rfl rfl rfl (cmp_f (by omega))) ?_ | refine o_r rfl (r_cmp rfl rfl rfl rfl) ?_
           refine o_p rfl rfl ?_
           refine ow_nil ?_)
        | (refine cw_region (id := 2) ?_
           refine o_r rfl (rd_build (by first | exact build23 | exact rfl)) ?_
           first | refine o_w rfl (wr_store_all rfl rfl agg23 (by simp) (by simp) (by repeat (first | exact Upd.here | apply Upd.there)) (by simp)) ?_ | refine o_w rfl (wr_store_agg rfl rfl agg23 (by simp [Value.cells]) (by first | rfl | simp [Value.cells]) (by first | rfl | exact splice_all _ _ (by simp [Value.cells])) (by repeat (first | exact Upd.here | apply Upd.there)) (by simp [Value.cells])) ?_
           refine o_p rfl rfl ?_
           refine ow_nil ?_)
        | (refine cw_region (id := 3) ?_
           refine o_p rfl rfl ?_
           refine ow_nil ?_)
        | (refine cw_region (id := 4) ?_
           refine o_p rfl rfl ?_
           refine ow_nil ?_)
        | (refine cw_region (id := 5) ?_
           refine o_p rfl rfl ?_
           refine o_p rfl rfl ?_
           first | refine o_r rfl (rd_rem rfl rfl (by omega) (IntWalk.rem_in _ _ (by omega))) ?_ | refine o_r rfl (rd_rem rfl rfl (by omega) rfl) ?_
           first | refine o_r rfl (r_cmp rfl rfl rfl (cmp_t (by omega))) ?_ | refine o_r rfl (r_cmp rfl rfl rfl (cmp_f (by omega))) ?_ | refine o_r rfl (r_cmp rfl rfl rfl rfl) ?_
           refine ow_nil ?_)
        | (refine cw_region (id := 7) ?_
           refine o_p rfl rfl ?_
           first | refine o_r rfl (r_ar rfl rfl rfl (IntWalk.u8_in _ (by omega))) ?_ | refine o_r rfl (r_ar rfl rfl rfl rfl) ?_
           refine o_p rfl rfl ?_
           refine ow_nil ?_)
        | (refine cw_region (id := 6) ?_
           refine o_p rfl rfl ?_
           first | refine o_r rfl (r_ar rfl rfl rfl (IntWalk.i64_in _ (by omega))) ?_ | refine o_r rfl (r_ar rfl rfl rfl rfl) ?_
           refine o_p rfl rfl ?_
           refine ow_nil ?_)
        | (refine cw_region (id := 8) ?_
           first | refine o_r rfl (rd_load_all rfl (by repeat (first | exact List.Mem.head _ | apply List.Mem.tail)) agg23 (by simp)) ?_ | refine o_r rfl (rd_load_agg rfl (by repeat (first | exact List.Mem.head _ | apply List.Mem.tail)) agg23 (by simp [Value.cells]) (by first | rfl | simp [Value.cells])) ?_
           refine o_p rfl rfl ?_
           (refine o_c rfl rfl rfl en19 rfl (fun s hs => (rat_c _ _ _ (by omega) (by omega)).mono ?_); rintro e w' ⟨rfl, hb⟩; refine ⟨_, _, _, rfl, hs.grow hb, ?_⟩; clear hb hs w' s)
           first | refine o_r rfl (r_cmp rfl rfl rfl (cmp_t (by omega))) ?_ | refine o_r rfl (r_cmp rfl rfl rfl (cmp_f (by omega))) ?_ | refine o_r rfl (r_cmp rfl rfl rfl rfl) ?_
           refine ow_nil ?_)
        | (refine cw_region (id := 9) ?_
           refine o_p rfl rfl ?_
           first | refine o_r rfl (rd_quo rfl rfl (by omega) (IntWalk.i64_quo _ _ (by omega))) ?_ | refine o_r rfl (rd_quo rfl rfl (by omega) rfl) ?_
           first | refine o_r rfl (rd_indexAddr_arr Try.underlying23 sz5 rfl rfl (by omega) (by omega) (by rw [Nat.zero_add, Nat.mul_one])) ?_ | refine o_r rfl (rd_indexAddr_arr Try.underlying23 sz5 rfl rfl (by omega) (by omega) (by rw [Nat.zero_add])) ?_ | refine o_r rfl (rd_indexAddr_arr Try.underlying23 sz5 rfl rfl (by omega) (by omega) rfl) ?_
           refine o_r rfl (rd_load rfl (by repeat (first | exact List.Mem.head _ | apply List.Mem.tail)) one5 (by first | rfl | assumption)) ?_
           refine o_p rfl rfl ?_
           first | refine o_r rfl (r_ar rfl rfl rfl (IntWalk.u8_in _ (by omega))) ?_ | refine o_r rfl (r_ar rfl rfl rfl rfl) ?_
           first | refine o_r rfl (rd_indexAddr_arr Try.underlying23 sz5 rfl rfl (by omega) (by omega) (by rw [Nat.zero_add, Nat.mul_one])) ?_ | refine o_r rfl (rd_indexAddr_arr Try.underlying23 sz5 rfl rfl (by omega) (by omega) (by rw [Nat.zero_add])) ?_ | refine o_r rfl (rd_indexAddr_arr Try.underlying23 sz5 rfl rfl (by omega) (by omega) rfl) ?_
           refine o_w rfl (wr_store rfl rfl sz5 rfl (by repeat (first | exact Upd.here | apply Upd.there)) (by simp [Value.cells])) ?_
           refine ow_nil ?_)
        | (refine cw_region (id := 10) ?_
           refine o_p rfl rfl ?_
           first | refine o_r rfl (rd_quo rfl rfl (by omega) (IntWalk.i64_quo _ _ (by omega))) ?_ | refine o_r rfl (rd_quo rfl rfl (by omega) rfl) ?_
           first | refine o_r rfl (rd_indexAddr_arr Try.underlying23 sz5 rfl rfl (by omega) (by omega) (by rw [Nat.zero_add, Nat.mul_one])) ?_ | refine o_r rfl (rd_indexAddr_arr Try.underlying23 sz5 rfl rfl (by omega) (by omega) (by rw [Nat.zero_add])) ?_ | refine o_r rfl (rd_indexAddr_arr Try.underlying23 sz5 rfl rfl (by omega) (by omega) rfl) ?_
           refine o_r rfl (rd_load rfl (by repeat (first | exact List.Mem.head _ | apply List.Mem.tail)) one5 (by first | rfl | assumption)) ?_
           refine o_p rfl rfl ?_
           first | refine o_r rfl (r_ar rfl rfl rfl (IntWalk.u8_in _ (by omega))) ?_ | refine o_r rfl (r_ar rfl rfl rfl rfl) ?_
           first | refine o_r rfl (rd_indexAddr_arr Try.underlying23 sz5 rfl rfl (by omega) (by omega) (by rw [Nat.zero_add, Nat.mul_one])) ?_ | refine o_r rfl (rd_indexAddr_arr Try.underlying23 sz5 rfl rfl (by omega) (by omega) (by rw [Nat.zero_add])) ?_ | refine o_r rfl (rd_indexAddr_arr Try.underlying23 sz5 rfl rfl (by omega) (by omega) rfl) ?_
           refine o_w rfl (wr_store rfl rfl sz5 rfl (by repeat (first | exact Upd.here | apply Upd.there)) (by simp [Value.cells])) ?_
           refine ow_nil ?_)
        | (refine cw_region (id := 11) ?_
           first | refine o_r rfl (rd_load_all rfl (by repeat (first | exact List.Mem.head _ | apply List.Mem.tail)) agg23 (by simp)) ?_ | refine o_r rfl (rd_load_agg rfl (by repeat (first | exact List.Mem.head _ | apply List.Mem.tail)) agg23 (by simp [Value.cells]) (by first | rfl | simp [Value.cells])) ?_
           first | refine o_w rfl (wr_store_all rfl rfl agg23 (by simp) (by simp) (by repeat (first | exact Upd.here | apply Upd.there)) (by simp)) ?_ | refine o_w rfl (wr_store_agg rfl rfl agg23 (by simp [Value.cells]) (by first | rfl | simp [Value.cells]) (by first | rfl | exact splice_all _ _ (by simp [Value.cells])) (by repeat (first | exact Upd.here | apply Upd.there)) (by simp [Value.cells])) ?_
           refine o_p rfl rfl ?_
           refine ow_nil ?_))
      exact fin2 (.inl rfl) rfl (res_cell_agg rfl (by repeat (first | exact List.Mem.head _ | apply List.Mem.tail)) agg23 (by simp [Value.cells]) (dv_ext _)) (res_tmp rfl) (fun v hv => ⟨rfl, hv.below (by simp) (by simp only [keysOf, List.map_cons, List.map_nil, List.forall_mem_cons, List.not_mem_nil, false_imp_iff, implies_true, and_true] <;> omega)⟩)
theorem rturn_no (k : Dig) (i : Int) (w : World) (h : i < 0 ∨ 256 ≤ i) :
    Calls Try.prog 13 #[.agg (dv k), .int .i64 i] w fun e w' => e = .returned (.tuple #[.agg (dv zeroD), .int .i64 2]) ∧ Below w.heap.size w w' := by
  rcases h with h | h
  all_goals
    refine enter Try.func13 rfl (Nat.le_of_ble_eq_true rfl) (kn0 w) (vs := [_, _]) (fr0 := [(0, _), (1, _)]) rfl (n := 42) rfl ?_
    repeat (first
      | refine cw_seq ?_
      | refine cw_block ?_
      | refine cw_skip ?_
      | refine cw_label ?_
      | refine cw_exit ?_
      | refine cw_ret ?_
      | refine qw_then ?_
      | refine qw_block_normal ?_
      | refine qw_block_exit ?_
      | refine qw_block_other rfl ?_
      | refine qw_block_ret ?_
      | refine qw_then_ret ?_
      | refine qw_then_exit ?_
      | refine cw_true rfl ?_
      | refine cw_false rfl ?_
      | refine cw_scope ?_
      | refine qw_scope_normal ?_
      | refine qw_scope_ret ?_
      | refine qw_scope_exit ?_
      | (refine cw_region (id := 0) ?_
         first | (refine o_a rfl (al_box_agg rfl) (fun b2 fb2 => ?_); try simp only [fresh_iff, keysOf, List.map_cons, List.map_nil, List.forall_mem_cons, List.not_mem_nil, false_imp_iff, implies_true, and_true] at fb2) | (refine o_a rfl (al_box rfl) (fun b2 fb2 => ?_); try simp only [fresh_iff, keysOf, List.map_cons, List.map_nil, List.forall_mem_cons, List.not_mem_nil, false_imp_iff, implies_true, and_true] at fb2)
         first | (refine o_a rfl (al_alloc_agg zero23) (fun b4 fb4 => ?_); try simp only [fresh_iff, keysOf, List.map_cons, List.map_nil, List.forall_mem_cons, List.not_mem_nil, false_imp_iff, implies_true, and_true] at fb4) | (refine o_a rfl (al_alloc zero23) (fun b4 fb4 => ?_); try simp only [fresh_iff, keysOf, List.map_cons, List.map_nil, List.forall_mem_cons, List.not_mem_nil, false_imp_iff, implies_true, and_true] at fb4)
         refine o_p rfl rfl ?_
         refine ow_nil ?_)
      | (refine cw_region (id := 1) ?_
         refine o_p rfl rfl ?_
         first | refine o_r rfl (r_cmp rfl rfl rfl (cmp_t (by omega))) ?_ | refine o_r rfl (r_cmp rfl rfl rfl (cmp_f (by omega))) ?_ | refine o_r rfl (r_cmp rfl rfl rfl rfl) ?_
         refine o_p rfl rfl ?_
         first | refine o_k rfl ?_ | refine o_p rfl rfl ?_
         first | refine o_k rfl ?_ | refine o_r rfl (r_cmp rfl rfl rfl (cmp_t (by omega))) ?_ | refine o_r rfl (r_cmp rfl rfl rfl (cmp_f (by omega))) ?_ | refine o_r rfl (r_cmp rfl rfl rfl rfl) ?_
         refine o_p rfl rfl ?_
         refine ow_nil ?_)
      | (refine cw_region (id := 2) ?_
         refine o_r rfl (rd_build rfl build_none) ?_
         first | refine o_w rfl (wr_store_all rfl rfl agg23 (by simp) (by simp) (by repeat (first | exact Upd.here | apply Upd.there)) (by simp)) ?_ | refine o_w rfl (wr_store_agg rfl rfl agg23 (by simp [Value.cells]) (by first | rfl | simp [Value.cells]) (by first | rfl | exact splice_all _ _ (by simp [Value.cells])) (by repeat (first | exact Upd.here | apply Upd.there)) (by simp [Value.cells])) ?_
         refine o_p rfl rfl ?_
         refine ow_nil ?_)
      | (refine cw_region (id := 3) ?_
         refine o_p rfl rfl ?_
         refine ow_nil ?_)
      | (refine cw_region (id := 4) ?_
         refine o_p rfl rfl ?_
         refine ow_nil ?_)
      | (refine cw_region (id := 5) ?_
         refine o_p rfl rfl ?_
         refine o_p rfl rfl ?_
         first | refine o_r rfl (rd_rem rfl rfl (by omega) (IntWalk.rem_in _ _ (by omega))) ?_ | refine o_r rfl (rd_rem rfl rfl (by omega) rfl) ?_
         first | refine o_r rfl (r_cmp rfl rfl rfl (cmp_t (by omega))) ?_ | refine o_r rfl (r_cmp rfl rfl rfl (cmp_f (by omega))) ?_ | refine o_r rfl (r_cmp rfl rfl rfl rfl) ?_
         refine ow_nil ?_)
      | (refine cw_region (id := 7) ?_
         refine o_p rfl rfl ?_
         first | refine o_r rfl (r_ar rfl rfl rfl (IntWalk.u8_in _ (by omega))) ?_ | refine o_r rfl (r_ar rfl rfl rfl rfl) ?_
         refine o_p rfl rfl ?_
         refine ow_nil ?_)
      | (refine cw_region (id := 6) ?_
         refine o_p rfl rfl ?_
         first | refine o_r rfl (r_ar rfl rfl rfl (IntWalk.i64_in _ (by omega))) ?_ | refine o_r rfl (r_ar rfl rfl rfl rfl) ?_
         refine o_p rfl rfl ?_
         refine ow_nil ?_)
      | (refine cw_region (id := 8) ?_
         first | refine o_r rfl (rd_load_all rfl (by repeat (first | exact List.Mem.head _ | apply List.Mem.tail)) agg23 (by simp)) ?_ | refine o_r rfl (rd_load_agg rfl (by repeat (first | exact List.Mem.head _ | apply List.Mem.tail)) agg23 (by simp [Value.cells]) (by first | rfl | simp [Value.cells])) ?_
         refine o_p rfl rfl ?_
         (refine o_c rfl rfl rfl en19 rfl (fun s hs => (rat_c _ _ _ (by omega) (by omega)).mono ?_); rintro e w' ⟨rfl, hb⟩; refine ⟨_, _, _, rfl, hs.grow hb, ?_⟩; clear hb hs w' s)
         first | refine o_r rfl (r_cmp rfl rfl rfl (cmp_t (by omega))) ?_ | refine o_r rfl (r_cmp rfl rfl rfl (cmp_f (by omega))) ?_ | refine o_r rfl (r_cmp rfl rfl rfl rfl) ?_
         refine ow_nil ?_)
      | (refine cw_region (id := 9) ?_
         refine o_p rfl rfl ?_
         first | refine o_r rfl (rd_quo rfl rfl (by omega) (IntWalk.i64_quo _ _ (by omega))) ?_ | refine o_r rfl (rd_quo rfl rfl (by omega) rfl) ?_
         first | refine o_r rfl (rd_indexAddr_arr Try.underlying23 sz5 rfl rfl (by omega) (by omega) (by rw [Nat.zero_add, Nat.mul_one])) ?_ | refine o_r rfl (rd_indexAddr_arr Try.underlying23 sz5 rfl rfl (by omega) (by omega) (by rw [Nat.zero_add])) ?_ | refine o_r rfl (rd_indexAddr_arr Try.underlying23 sz5 rfl rfl (by omega) (by omega) rfl) ?_
         refine o_r rfl (rd_load rfl (by repeat (first | exact List.Mem.head _ | apply List.Mem.tail)) one5 (by first | rfl | assumption)) ?_
         refine o_p rfl rfl ?_
         first | refine o_r rfl (r_ar rfl rfl rfl (IntWalk.u8_in _ (by omega))) ?_ | refine o_r rfl (r_ar rfl rfl rfl rfl) ?_
         first | refine o_r rfl (rd_indexAddr_arr Try.underlying23 sz5 rfl rfl (by omega) (by omega) (by rw [Nat.zero_add, Nat.mul_one])) ?_ | refine o_r rfl (rd_indexAddr_arr Try.underlying23 sz5 rfl rfl (by omega) (by omega) (by rw [Nat.zero_add])) ?_ | refine o_r rfl (rd_indexAddr_arr Try.underlying23 sz5 rfl rfl (by omega) (by omega) rfl) ?_
         refine o_w rfl (wr_store rfl rfl sz5 rfl (by repeat (first | exact Upd.here | apply Upd.there)) (by simp [Value.cells])) ?_
         refine ow_nil ?_)
      | (refine cw_region (id := 10) ?_
         refine o_p rfl rfl ?_
         first | refine o_r rfl (rd_quo rfl rfl (by omega) (IntWalk.i64_quo _ _ (by omega))) ?_ | refine o_r rfl (rd_quo rfl rfl (by omega) rfl) ?_
         first | refine o_r rfl (rd_indexAddr_arr Try.underlying23 sz5 rfl rfl (by omega) (by omega) (by rw [Nat.zero_add, Nat.mul_one])) ?_ | refine o_r rfl (rd_indexAddr_arr Try.underlying23 sz5 rfl rfl (by omega) (by omega) (by rw [Nat.zero_add])) ?_ | refine o_r rfl (rd_indexAddr_arr Try.underlying23 sz5 rfl rfl (by omega) (by omega) rfl) ?_
         refine o_r rfl (rd_load rfl (by repeat (first | exact List.Mem.head _ | apply List.Mem.tail)) one5 (by first | rfl | assumption)) ?_
         refine o_p rfl rfl ?_
         first | refine o_r rfl (r_ar rfl rfl rfl (IntWalk.u8_in _ (by omega))) ?_ | refine o_r rfl (r_ar rfl rfl rfl rfl) ?_
         first | refine o_r rfl (rd_indexAddr_arr Try.underlying23 sz5 rfl rfl (by omega) (by omega) (by rw [Nat.zero_add, Nat.mul_one])) ?_ | refine o_r rfl (rd_indexAddr_arr Try.underlying23 sz5 rfl rfl (by omega) (by omega) (by rw [Nat.zero_add])) ?_ | refine o_r rfl (rd_indexAddr_arr Try.underlying23 sz5 rfl rfl (by omega) (by omega) rfl) ?_
         refine o_w rfl (wr_store rfl rfl sz5 rfl (by repeat (first | exact Upd.here | apply Upd.there)) (by simp [Value.cells])) ?_
         refine ow_nil ?_)
      | (refine cw_region (id := 11) ?_
         first | refine o_r rfl (rd_load_all rfl (by repeat (first | exact List.Mem.head _ | apply List.Mem.tail)) agg23 (by simp)) ?_ | refine o_r rfl (rd_load_agg rfl (by repeat (first | exact List.Mem.head _ | apply List.Mem.tail)) agg23 (by simp [Value.cells]) (by first | rfl | simp [Value.cells])) ?_
         first | refine o_w rfl (wr_store_all rfl rfl agg23 (by simp) (by simp) (by repeat (first | exact Upd.here | apply Upd.there)) (by simp)) ?_ | refine o_w rfl (wr_store_agg rfl rfl agg23 (by simp [Value.cells]) (by first | rfl | simp [Value.cells]) (by first | rfl | exact splice_all _ _ (by simp [Value.cells])) (by repeat (first | exact Upd.here | apply Upd.there)) (by simp [Value.cells])) ?_
         refine o_p rfl rfl ?_
         refine ow_nil ?_))
    exact fin2 (.inl rfl) rfl (res_cell_agg rfl (by repeat (first | exact List.Mem.head _ | apply List.Mem.tail)) agg23 (by simp [Value.cells]) (dv_ext _)) (res_tmp rfl) (fun v hv => ⟨rfl, hv.below (by simp) (by simp only [keysOf, List.map_cons, List.map_nil, List.forall_mem_cons, List.not_mem_nil, false_imp_iff, implies_true, and_true] <;> omega)⟩)

/-! what is shared, once more -/
theorem rat_n (k : Dig) (i : Nat) (w : World) (h : i < 256) :
    Calls Try.prog 19 #[.agg (dv k), .int .i64 (i : Int)] w fun e w' => e = .returned (.int .u8 (bitN k i)) ∧ Below w.heap.size w w' := by
  have := rat_c k i w (by omega) (by omega)
  rwa [Int.toNat_natCast] at this
theorem rshared_c (a b : Dig) (w : World) : Calls Try.prog 14 #[.agg (dv a), .agg (dv b)] w fun e w' => e = .returned (.int .i64 (sharedD a b)) ∧ Below w.heap.size w w' := by
  refine enter Try.func14 rfl (Nat.le_of_ble_eq_true rfl) (kn0 w) (vs := [_, _]) (fr0 := [(0, _), (1, _)]) rfl (n := 20) rfl ?_
  repeat (first
    | refine cw_seq ?_
    | refine cw_block ?_
    | refine cw_skip ?_
    | refine cw_label ?_
    | refine cw_exit ?_
    | refine cw_ret ?_
    | refine qw_then ?_
    | refine qw_block_normal ?_
    | refine qw_block_exit ?_
    | refine qw_block_other rfl ?_
    | refine qw_block_ret ?_
    | refine qw_then_ret ?_
    | refine qw_then_exit ?_
    | refine cw_true rfl ?_
    | refine cw_false rfl ?_
    | refine cw_scope ?_
    | refine qw_scope_normal ?_
    | refine qw_scope_ret ?_
    | refine qw_scope_exit ?_
    | (refine cw_region (id := 0) ?_
       first | (refine o_a rfl (al_box_agg rfl) (fun b2 fb2 => ?_); try simp only [fresh_iff, keysOf, List.map_cons, List.map_nil, List.forall_mem_cons, List.not_mem_nil, false_imp_iff, implies_true, and_true] at fb2) | (refine o_a rfl (al_box rfl) (fun b2 fb2 => ?_); try simp only [fresh_iff, keysOf, List.map_cons, List.map_nil, List.forall_mem_cons, List.not_mem_nil, false_imp_iff, implies_true, and_true] at fb2)
       first | (refine o_a rfl (al_box_agg rfl) (fun b3 fb3 => ?_); try simp only [fresh_iff, keysOf, List.map_cons, List.map_nil, List.forall_mem_cons, List.not_mem_nil, false_imp_iff, implies_true, and_true] at fb3) | (refine o_a rfl (al_box rfl) (fun b3 fb3 => ?_); try simp only [fresh_iff, keysOf, List.map_cons, List.map_nil, List.forall_mem_cons, List.not_mem_nil, false_imp_iff, implies_true, and_true] at fb3)
       refine o_p rfl rfl ?_
       refine ow_nil ?_)
    | (refine cw_region (id := 1) ?_
       refine o_p rfl rfl ?_
       refine ow_nil ?_))
  refine cw_loop (fun i : Nat => i ≤ 256 ∧ ∀ j, j < i → bitN a j = bitN b j) (fun i => [(5, .int .i64 (i : Int)), (2, .pointer (some ⟨b2, 0, none⟩)), (3, .pointer (some ⟨b3, 0, none⟩))])
    (fun _ => [(b3, .cells (dv b) 23 (0, 0)), (b2, .cells (dv a) 23 (0, 0))]) (fun _ => [w]) (fun i => 256 - i) 0 ⟨by omega, by omega⟩ (by repeat (first | exact trivial | refine ⟨rfl, ?_⟩)) rfl rfl ?_
  rintro i ⟨hi, hsame⟩
  have fin : ∀ v : World, IsShared a b i → Value.int .i64 (i : Int) = .int .i64 (sharedD a b : Int) := fun _ h => by rw [shared_uniq h (shared_is a b)]
  by_cases hi2 : i < 256
  · have hba := bitN_le a i
    have hbb := bitN_le b i
    by_cases hb : bitN a i = bitN b i
    · repeat (first
        | refine cw_seq ?_
        | refine cw_block ?_
        | refine cw_skip ?_
        | refine cw_label ?_
        | refine cw_exit ?_
        | refine cw_ret ?_
        | refine qw_then ?_
        | refine qw_block_normal ?_
        | refine qw_block_exit ?_
        | refine qw_block_other rfl ?_
        | refine qw_block_ret ?_
        | refine qw_then_ret ?_
        | refine qw_then_exit ?_
        | refine cw_true rfl ?_
        | refine cw_false rfl ?_
        | refine cw_scope ?_
        | refine qw_scope_normal ?_
        | refine qw_scope_ret ?_
        | refine qw_scope_exit ?_
        | (refine cw_region (id := 0) ?_
           first | (refine o_a rfl (al_box_agg rfl) (fun b2 fb2 => ?_); try simp only [fresh_iff, keysOf, List.map_cons, List.map_nil, List.forall_mem_cons, List.not_mem_nil, false_imp_iff, implies_true, and_true] at fb2) | (refine o_a rfl (al_box rfl) (fun b2 fb2 => ?_); try simp only [fresh_iff, keysOf, List.map_cons, List.map_nil, List.forall_mem_cons, List.not_mem_nil, false_imp_iff, implies_true, and_true] at fb2)
           first | (refine o_a rfl (al_box_agg rfl) (fun b3 fb3 => ?_); try simp only [fresh_iff, keysOf, List.map_cons, List.map_nil, List.forall_mem_cons, List.not_mem_nil, false_imp_iff, implies_true, and_true] at fb3) | (refine o_a rfl (al_box rfl) (fun b3 fb3 => ?_); try simp only [fresh_iff, keysOf, List.map_cons, List.map_nil, List.forall_mem_cons, List.not_mem_nil, false_imp_iff, implies_true, and_true] at fb3)
           refine o_p rfl rfl ?_
           refine ow_nil ?_)
        | (refine cw_region (id := 1) ?_
           refine o_p rfl rfl ?_
           refine ow_nil ?_)
        | (refine cw_flow (id := 2) 11 mixed (by kernel_rfl) ?_
           refine f_p rfl rfl ?_
           first | refine f_r rfl (r_cmp rfl rfl rfl (cmp_t (by omega))) ?_ | refine f_r rfl (r_cmp rfl rfl rfl (cmp_f (by omega))) ?_ | refine f_r rfl (r_cmp rfl rfl rfl rfl) ?_
           refine f_p rfl rfl ?_
           first | refine f_k rfl ?_ | refine f_r rfl (rd_load_all rfl (by repeat (first | exact List.Mem.head _ | apply List.Mem.tail)) agg23 (by simp)) ?_ | refine f_r rfl (rd_load_agg rfl (by repeat (first | exact List.Mem.head _ | apply List.Mem.tail)) agg23 (by simp [Value.cells]) (by first | rfl | simp [Value.cells])) ?_
           first | refine f_k rfl ?_ | refine f_p rfl rfl ?_
           first | refine f_k rfl ?_ | refine f_c rfl rfl rfl en19 rfl (fun s hs => rat_n _ _ _ (by omega)) ?_ | refine f_c rfl rfl rfl en19 rfl (fun s hs => rat_c _ _ _ (by omega) (by omega)) ?_
           first | refine f_k rfl ?_ | refine f_r rfl (rd_load_all rfl (by repeat (first | exact List.Mem.head _ | apply List.Mem.tail)) agg23 (by simp)) ?_ | refine f_r rfl (rd_load_agg rfl (by repeat (first | exact List.Mem.head _ | apply List.Mem.tail)) agg23 (by simp [Value.cells]) (by first | rfl | simp [Value.cells])) ?_
           first | refine f_k rfl ?_ | refine f_p rfl rfl ?_
           first | refine f_k rfl ?_ | refine f_c rfl rfl rfl en19 rfl (fun s hs => rat_n _ _ _ (by omega)) ?_ | refine f_c rfl rfl rfl en19 rfl (fun s hs => rat_c _ _ _ (by omega) (by omega)) ?_
           first | refine f_k rfl ?_ | refine f_r rfl (r_cmp rfl rfl rfl (cmp_t (by omega))) ?_ | refine f_r rfl (r_cmp rfl rfl rfl (cmp_f (by omega))) ?_ | refine f_r rfl (r_cmp rfl rfl rfl rfl) ?_
           refine f_p rfl rfl ?_
           refine f_end rfl ?_
           repeat (refine end_val ?_)
           refine end_nil ?_
           refine ow_nil ?_)
        | (refine cw_region (id := 3) ?_
           refine o_p rfl rfl ?_
           first | refine o_r rfl (r_ar rfl rfl rfl (IntWalk.i64_in _ (by omega))) ?_ | refine o_r rfl (r_ar rfl rfl rfl rfl) ?_
           refine o_p rfl rfl ?_
           refine ow_nil ?_)
        | (refine cw_region (id := 4) ?_
           refine o_p rfl rfl ?_
           refine o_p rfl rfl ?_
           refine ow_nil ?_))
      refine qw_again (i + 1) ⟨by omega, fun j hj => ?_⟩ (by repeat (first | exact trivial | refine ⟨rfl, ?_⟩)) (by omega) (fun _ h => h)
      rcases Nat.lt_succ_iff_lt_or_eq.1 hj with h | rfl
      · exact hsame j h
      · exact hb
    · repeat (first
        | refine cw_seq ?_
        | refine cw_block ?_
        | refine cw_skip ?_
        | refine cw_label ?_
        | refine cw_exit ?_
        | refine cw_ret ?_
        | refine qw_then ?_
        | refine qw_block_normal ?_
        | refine qw_block_exit ?_
        | refine qw_block_other rfl ?_
        | refine qw_block_ret ?_
        | refine qw_then_ret ?_
        | refine qw_then_exit ?_
        | refine cw_true rfl ?_
        | refine cw_false rfl ?_
        | refine cw_scope ?_
        | refine qw_scope_normal ?_
        | refine qw_scope_ret ?_
        | refine qw_scope_exit ?_
        | (refine cw_region (id := 0) ?_
           first | (refine o_a rfl (al_box_agg rfl) (fun b2 fb2 => ?_); try simp only [fresh_iff, keysOf, List.map_cons, List.map_nil, List.forall_mem_cons, List.not_mem_nil, false_imp_iff, implies_true, and_true] at fb2) | (refine o_a rfl (al_box rfl) (fun b2 fb2 => ?_); try simp only [fresh_iff, keysOf, List.map_cons, List.map_nil, List.forall_mem_cons, List.not_mem_nil, false_imp_iff, implies_true, and_true] at fb2)
           first | (refine o_a rfl (al_box_agg rfl) (fun b3 fb3 => ?_); try simp only [fresh_iff, keysOf, List.map_cons, List.map_nil, List.forall_mem_cons, List.not_mem_nil, false_imp_iff, implies_true, and_true] at fb3) | (refine o_a rfl (al_box rfl) (fun b3 fb3 => ?_); try simp only [fresh_iff, keysOf, List.map_cons, List.map_nil, List.forall_mem_cons, List.not_mem_nil, false_imp_iff, implies_true, and_true] at fb3)
           refine o_p rfl rfl ?_
           refine ow_nil ?_)
        | (refine cw_region (id := 1) ?_
           refine o_p rfl rfl ?_
           refine ow_nil ?_)
        | (refine cw_flow (id := 2) 11 mixed (by kernel_rfl) ?_
           refine f_p rfl rfl ?_
           first | refine f_r rfl (r_cmp rfl rfl rfl (cmp_t (by omega))) ?_ | refine f_r rfl (r_cmp rfl rfl rfl (cmp_f (by omega))) ?_ | refine f_r rfl (r_cmp rfl rfl rfl rfl) ?_
           refine f_p rfl rfl ?_
           first | refine f_k rfl ?_ | refine f_r rfl (rd_load_all rfl (by repeat (first | exact List.Mem.head _ | apply List.Mem.tail)) agg23 (by simp)) ?_ | refine f_r rfl (rd_load_agg rfl (by repeat (first | exact List.Mem.head _ | apply List.Mem.tail)) agg23 (by simp [Value.cells]) (by first | rfl | simp [Value.cells])) ?_
           first | refine f_k rfl ?_ | refine f_p rfl rfl ?_
           first | refine f_k rfl ?_ | refine f_c rfl rfl rfl en19 rfl (fun s hs => rat_n _ _ _ (by omega)) ?_ | refine f_c rfl rfl rfl en19 rfl (fun s hs => rat_c _ _ _ (by omega) (by omega)) ?_
           first | refine f_k rfl ?_ | refine f_r rfl (rd_load_all rfl (by repeat (first | exact List.Mem.head _ | apply List.Mem.tail)) agg23 (by simp)) ?_ | refine f_r rfl (rd_load_agg rfl (by repeat (first | exact List.Mem.head _ | apply List.Mem.tail)) agg23 (by simp [Value.cells]) (by first | rfl | simp [Value.cells])) ?_
           first | refine f_k rfl ?_ | refine f_p rfl rfl ?_
           first | refine f_k rfl ?_ | refine f_c rfl rfl rfl en19 rfl (fun s hs => rat_n _ _ _ (by omega)) ?_ | refine f_c rfl rfl rfl en19 rfl (fun s hs => rat_c _ _ _ (by omega) (by omega)) ?_
           first | refine f_k rfl ?_ | refine f_r rfl (r_cmp rfl rfl rfl (cmp_t (by omega))) ?_ | refine f_r rfl (r_cmp rfl rfl rfl (cmp_f (by omega))) ?_ | refine f_r rfl (r_cmp rfl rfl rfl rfl) ?_
           refine f_p rfl rfl ?_
           refine f_end rfl ?_
           repeat (refine end_val ?_)
           refine end_nil ?_
           refine ow_nil ?_)
        | (refine cw_region (id := 3) ?_
           refine o_p rfl rfl ?_
           first | refine o_r rfl (r_ar rfl rfl rfl (IntWalk.i64_in _ (by omega))) ?_ | refine o_r rfl (r_ar rfl rfl rfl rfl) ?_
           refine o_p rfl rfl ?_
           refine ow_nil ?_)
        | (refine cw_region (id := 4) ?_
           refine o_p rfl rfl ?_
           refine o_p rfl rfl ?_
           refine ow_nil ?_))
      exact fin1 (.inl rfl) rfl (res_tmp rfl) (fun v hv => ⟨by rw [fin v ⟨hsame, .inr ⟨hi2, hb⟩⟩], hv.below (by simp) (by simp only [keysOf, List.map_cons, List.map_nil, List.forall_mem_cons, List.not_mem_nil, false_imp_iff, implies_true, and_true] <;> omega)⟩)
  · have : i = 256 := by omega
    subst this
    repeat (first
      | refine cw_seq ?_
      | refine cw_block ?_
      | refine cw_skip ?_
      | refine cw_label ?_
      | refine cw_exit ?_
      | refine cw_ret ?_
      | refine qw_then ?_
      | refine qw_block_normal ?_
      | refine qw_block_exit ?_
      | refine qw_block_other rfl ?_
      | refine qw_block_ret ?_
      | refine qw_then_ret ?_
      | refine qw_then_exit ?_
      | refine cw_true rfl ?_
      | refine cw_false rfl ?_
      | refine cw_scope ?_
      | refine qw_scope_normal ?_
      | refine qw_scope_ret ?_
      | refine qw_scope_exit ?_
      | (refine cw_region (id := 0) ?_
         first | (refine o_a rfl (al_box_agg rfl) (fun b2 fb2 => ?_); try simp only [fresh_iff, keysOf, List.map_cons, List.map_nil, List.forall_mem_cons, List.not_mem_nil, false_imp_iff, implies_true, and_true] at fb2) | (refine o_a rfl (al_box rfl) (fun b2 fb2 => ?_); try simp only [fresh_iff, keysOf, List.map_cons, List.map_nil, List.forall_mem_cons, List.not_mem_nil, false_imp_iff, implies_true, and_true] at fb2)
         first | (refine o_a rfl (al_box_agg rfl) (fun b3 fb3 => ?_); try simp only [fresh_iff, keysOf, List.map_cons, List.map_nil, List.forall_mem_cons, List.not_mem_nil, false_imp_iff, implies_true, and_true] at fb3) | (refine o_a rfl (al_box rfl) (fun b3 fb3 => ?_); try simp only [fresh_iff, keysOf, List.map_cons, List.map_nil, List.forall_mem_cons, List.not_mem_nil, false_imp_iff, implies_true, and_true] at fb3)
         refine o_p rfl rfl ?_
         refine ow_nil ?_)
      | (refine cw_region (id := 1) ?_
         refine o_p rfl rfl ?_
         refine ow_nil ?_)
      | (refine cw_flow (id := 2) 11 mixed (by kernel_rfl) ?_
         refine f_p rfl rfl ?_
         first | refine f_r rfl (r_cmp rfl rfl rfl (cmp_t (by omega))) ?_ | refine f_r rfl (r_cmp rfl rfl rfl (cmp_f (by omega))) ?_ | refine f_r rfl (r_cmp rfl rfl rfl rfl) ?_
         refine f_p rfl rfl ?_
         first | refine f_k rfl ?_ | refine f_r rfl (rd_load_all rfl (by repeat (first | exact List.Mem.head _ | apply List.Mem.tail)) agg23 (by simp)) ?_ | refine f_r rfl (rd_load_agg rfl (by repeat (first | exact List.Mem.head _ | apply List.Mem.tail)) agg23 (by simp [Value.cells]) (by first | rfl | simp [Value.cells])) ?_
         first | refine f_k rfl ?_ | refine f_p rfl rfl ?_
         first | refine f_k rfl ?_ | refine f_c rfl rfl rfl en19 rfl (fun s hs => rat_n _ _ _ (by omega)) ?_ | refine f_c rfl rfl rfl en19 rfl (fun s hs => rat_c _ _ _ (by omega) (by omega)) ?_
         first | refine f_k rfl ?_ | refine f_r rfl (rd_load_all rfl (by repeat (first | exact List.Mem.head _ | apply List.Mem.tail)) agg23 (by simp)) ?_ | refine f_r rfl (rd_load_agg rfl (by repeat (first | exact List.Mem.head _ | apply List.Mem.tail)) agg23 (by simp [Value.cells]) (by first | rfl | simp [Value.cells])) ?_
         first | refine f_k rfl ?_ | refine f_p rfl rfl ?_
         first | refine f_k rfl ?_ | refine f_c rfl rfl rfl en19 rfl (fun s hs => rat_n _ _ _ (by omega)) ?_ | refine f_c rfl rfl rfl en19 rfl (fun s hs => rat_c _ _ _ (by omega) (by omega)) ?_
         first | refine f_k rfl ?_ | refine f_r rfl (r_cmp rfl rfl rfl (cmp_t (by omega))) ?_ | refine f_r rfl (r_cmp rfl rfl rfl (cmp_f (by omega))) ?_ | refine f_r rfl (r_cmp rfl rfl rfl rfl) ?_
         refine f_p rfl rfl ?_
         refine f_end rfl ?_
         repeat (refine end_val ?_)
         refine end_nil ?_
         refine ow_nil ?_)
      | (refine cw_region (id := 3) ?_
         refine o_p rfl rfl ?_
         first | refine o_r rfl (r_ar rfl rfl rfl (IntWalk.i64_in _ (by omega))) ?_ | refine o_r rfl (r_ar rfl rfl rfl rfl) ?_
         refine o_p rfl rfl ?_
         refine ow_nil ?_)
      | (refine cw_region (id := 4) ?_
         refine o_p rfl rfl ?_
         refine o_p rfl rfl ?_
         refine ow_nil ?_))
    exact fin1 (.inl rfl) rfl (res_tmp rfl) (fun v hv => ⟨by rw [fin v ⟨hsame, .inl rfl⟩], hv.below (by simp) (by simp only [keysOf, List.map_cons, List.map_nil, List.forall_mem_cons, List.not_mem_nil, false_imp_iff, implies_true, and_true] <;> omega)⟩)
theorem rahead_c (a b : Dig) (w : World) : Calls Try.prog 15 #[.agg (dv a), .agg (dv b)] w fun e w' => e = .returned (.bool (aheadD a b)) ∧ Below w.heap.size w w' := by
  have hs := shared_le a b
  rw [ahead_is]
  by_cases h : sharedD a b < 256
  · refine enter Try.func15 rfl (Nat.le_of_ble_eq_true rfl) (kn0 w) (vs := [_, _]) (fr0 := [(0, _), (1, _)]) rfl (n := 20) rfl ?_
    repeat (first
      | refine cw_seq ?_
      | refine cw_block ?_
      | refine cw_skip ?_
      | refine cw_label ?_
      | refine cw_exit ?_
      | refine cw_ret ?_
      | refine qw_then ?_
      | refine qw_block_normal ?_
      | refine qw_block_exit ?_
      | refine qw_block_other rfl ?_
      | refine qw_block_ret ?_
      | refine qw_then_ret ?_
      | refine qw_then_exit ?_
      | refine cw_true rfl ?_
      | refine cw_false rfl ?_
      | refine cw_scope ?_
      | refine qw_scope_normal ?_
      | refine qw_scope_ret ?_
      | refine qw_scope_exit ?_
      | (refine cw_region (id := 0) ?_
         first | (refine o_a rfl (al_box_agg rfl) (fun b2 fb2 => ?_); try simp only [fresh_iff, keysOf, List.map_cons, List.map_nil, List.forall_mem_cons, List.not_mem_nil, false_imp_iff, implies_true, and_true] at fb2) | (refine o_a rfl (al_box rfl) (fun b2 fb2 => ?_); try simp only [fresh_iff, keysOf, List.map_cons, List.map_nil, List.forall_mem_cons, List.not_mem_nil, false_imp_iff, implies_true, and_true] at fb2)
         first | (refine o_a rfl (al_box_agg rfl) (fun b3 fb3 => ?_); try simp only [fresh_iff, keysOf, List.map_cons, List.map_nil, List.forall_mem_cons, List.not_mem_nil, false_imp_iff, implies_true, and_true] at fb3) | (refine o_a rfl (al_box rfl) (fun b3 fb3 => ?_); try simp only [fresh_iff, keysOf, List.map_cons, List.map_nil, List.forall_mem_cons, List.not_mem_nil, false_imp_iff, implies_true, and_true] at fb3)
         refine o_p rfl rfl ?_
         refine ow_nil ?_)
      | (refine cw_region (id := 1) ?_
         first | refine o_r rfl (rd_load_all rfl (by repeat (first | exact List.Mem.head _ | apply List.Mem.tail)) agg23 (by simp)) ?_ | refine o_r rfl (rd_load_agg rfl (by repeat (first | exact List.Mem.head _ | apply List.Mem.tail)) agg23 (by simp [Value.cells]) (by first | rfl | simp [Value.cells])) ?_
         first | refine o_r rfl (rd_load_all rfl (by repeat (first | exact List.Mem.head _ | apply List.Mem.tail)) agg23 (by simp)) ?_ | refine o_r rfl (rd_load_agg rfl (by repeat (first | exact List.Mem.head _ | apply List.Mem.tail)) agg23 (by simp [Value.cells]) (by first | rfl | simp [Value.cells])) ?_
         (refine o_c rfl rfl rfl en14 rfl (fun s hs => (rshared_c _ _ _).mono ?_); rintro e w' ⟨rfl, hb⟩; refine ⟨_, _, _, rfl, hs.grow hb, ?_⟩; clear hb hs w' s)
         refine o_p rfl rfl ?_
         refine ow_nil ?_)
      | (refine cw_flow (id := 2) 12 mixed (by kernel_rfl) ?_
         refine f_p rfl rfl ?_
         first | refine f_r rfl (r_cmp rfl rfl rfl (cmp_t (by omega))) ?_ | refine f_r rfl (r_cmp rfl rfl rfl (cmp_f (by omega))) ?_ | refine f_r rfl (r_cmp rfl rfl rfl rfl) ?_
         refine f_p rfl rfl ?_
         first | refine f_k rfl ?_ | refine f_r rfl (rd_load_all rfl (by repeat (first | exact List.Mem.head _ | apply List.Mem.tail)) agg23 (by simp)) ?_ | refine f_r rfl (rd_load_agg rfl (by repeat (first | exact List.Mem.head _ | apply List.Mem.tail)) agg23 (by simp [Value.cells]) (by first | rfl | simp [Value.cells])) ?_
         first | refine f_k rfl ?_ | refine f_p rfl rfl ?_
         first | refine f_k rfl ?_ | refine f_c rfl rfl rfl en19 rfl (fun s hs => rat_n _ _ _ (by omega)) ?_ | refine f_c rfl rfl rfl en19 rfl (fun s hs => rat_c _ _ _ (by omega) (by omega)) ?_
         first | refine f_k rfl ?_ | refine f_r rfl (rd_load_all rfl (by repeat (first | exact List.Mem.head _ | apply List.Mem.tail)) agg23 (by simp)) ?_ | refine f_r rfl (rd_load_agg rfl (by repeat (first | exact List.Mem.head _ | apply List.Mem.tail)) agg23 (by simp [Value.cells]) (by first | rfl | simp [Value.cells])) ?_
         first | refine f_k rfl ?_ | refine f_p rfl rfl ?_
         first | refine f_k rfl ?_ | refine f_c rfl rfl rfl en19 rfl (fun s hs => rat_n _ _ _ (by omega)) ?_ | refine f_c rfl rfl rfl en19 rfl (fun s hs => rat_c _ _ _ (by omega) (by omega)) ?_
         first | refine f_k rfl ?_ | refine f_r rfl (r_cmp rfl rfl rfl (cmp_t (by omega))) ?_ | refine f_r rfl (r_cmp rfl rfl rfl (cmp_f (by omega))) ?_ | refine f_r rfl (r_cmp rfl rfl rfl rfl) ?_
         refine f_p rfl rfl ?_
         refine f_p rfl rfl ?_
         refine f_end rfl ?_
         repeat (refine end_val ?_)
         refine end_nil ?_
         refine ow_nil ?_))
    exact fin1 (.inl rfl) rfl (res_tmp rfl) (fun v hv => ⟨by congr 2; exact decide_eq_decide.2 (by show ((_ : Nat) : Int) < ((_ : Nat) : Int) ↔ _; omega), hv.below (by simp) (by simp only [keysOf, List.map_cons, List.map_nil, List.forall_mem_cons, List.not_mem_nil, false_imp_iff, implies_true, and_true] <;> omega)⟩)
  · rw [decide_eq_false (fun hc => h hc.1)]
    refine enter Try.func15 rfl (Nat.le_of_ble_eq_true rfl) (kn0 w) (vs := [_, _]) (fr0 := [(0, _), (1, _)]) rfl (n := 20) rfl ?_
    repeat (first
      | refine cw_seq ?_
      | refine cw_block ?_
      | refine cw_skip ?_
      | refine cw_label ?_
      | refine cw_exit ?_
      | refine cw_ret ?_
      | refine qw_then ?_
      | refine qw_block_normal ?_
      | refine qw_block_exit ?_
      | refine qw_block_other rfl ?_
      | refine qw_block_ret ?_
      | refine qw_then_ret ?_
      | refine qw_then_exit ?_
      | refine cw_true rfl ?_
      | refine cw_false rfl ?_
      | refine cw_scope ?_
      | refine qw_scope_normal ?_
      | refine qw_scope_ret ?_
      | refine qw_scope_exit ?_
      | (refine cw_region (id := 0) ?_
         first | (refine o_a rfl (al_box_agg rfl) (fun b2 fb2 => ?_); try simp only [fresh_iff, keysOf, List.map_cons, List.map_nil, List.forall_mem_cons, List.not_mem_nil, false_imp_iff, implies_true, and_true] at fb2) | (refine o_a rfl (al_box rfl) (fun b2 fb2 => ?_); try simp only [fresh_iff, keysOf, List.map_cons, List.map_nil, List.forall_mem_cons, List.not_mem_nil, false_imp_iff, implies_true, and_true] at fb2)
         first | (refine o_a rfl (al_box_agg rfl) (fun b3 fb3 => ?_); try simp only [fresh_iff, keysOf, List.map_cons, List.map_nil, List.forall_mem_cons, List.not_mem_nil, false_imp_iff, implies_true, and_true] at fb3) | (refine o_a rfl (al_box rfl) (fun b3 fb3 => ?_); try simp only [fresh_iff, keysOf, List.map_cons, List.map_nil, List.forall_mem_cons, List.not_mem_nil, false_imp_iff, implies_true, and_true] at fb3)
         refine o_p rfl rfl ?_
         refine ow_nil ?_)
      | (refine cw_region (id := 1) ?_
         first | refine o_r rfl (rd_load_all rfl (by repeat (first | exact List.Mem.head _ | apply List.Mem.tail)) agg23 (by simp)) ?_ | refine o_r rfl (rd_load_agg rfl (by repeat (first | exact List.Mem.head _ | apply List.Mem.tail)) agg23 (by simp [Value.cells]) (by first | rfl | simp [Value.cells])) ?_
         first | refine o_r rfl (rd_load_all rfl (by repeat (first | exact List.Mem.head _ | apply List.Mem.tail)) agg23 (by simp)) ?_ | refine o_r rfl (rd_load_agg rfl (by repeat (first | exact List.Mem.head _ | apply List.Mem.tail)) agg23 (by simp [Value.cells]) (by first | rfl | simp [Value.cells])) ?_
         (refine o_c rfl rfl rfl en14 rfl (fun s hs => (rshared_c _ _ _).mono ?_); rintro e w' ⟨rfl, hb⟩; refine ⟨_, _, _, rfl, hs.grow hb, ?_⟩; clear hb hs w' s)
         refine o_p rfl rfl ?_
         refine ow_nil ?_)
      | (refine cw_flow (id := 2) 12 mixed (by kernel_rfl) ?_
         refine f_p rfl rfl ?_
         first | refine f_r rfl (r_cmp rfl rfl rfl (cmp_t (by omega))) ?_ | refine f_r rfl (r_cmp rfl rfl rfl (cmp_f (by omega))) ?_ | refine f_r rfl (r_cmp rfl rfl rfl rfl) ?_
         refine f_p rfl rfl ?_
         first | refine f_k rfl ?_ | refine f_r rfl (rd_load_all rfl (by repeat (first | exact List.Mem.head _ | apply List.Mem.tail)) agg23 (by simp)) ?_ | refine f_r rfl (rd_load_agg rfl (by repeat (first | exact List.Mem.head _ | apply List.Mem.tail)) agg23 (by simp [Value.cells]) (by first | rfl | simp [Value.cells])) ?_
         first | refine f_k rfl ?_ | refine f_p rfl rfl ?_
         first | refine f_k rfl ?_ | refine f_c rfl rfl rfl en19 rfl (fun s hs => rat_n _ _ _ (by omega)) ?_ | refine f_c rfl rfl rfl en19 rfl (fun s hs => rat_c _ _ _ (by omega) (by omega)) ?_
         first | refine f_k rfl ?_ | refine f_r rfl (rd_load_all rfl (by repeat (first | exact List.Mem.head _ | apply List.Mem.tail)) agg23 (by simp)) ?_ | refine f_r rfl (rd_load_agg rfl (by repeat (first | exact List.Mem.head _ | apply List.Mem.tail)) agg23 (by simp [Value.cells]) (by first | rfl | simp [Value.cells])) ?_
         first | refine f_k rfl ?_ | refine f_p rfl rfl ?_
         first | refine f_k rfl ?_ | refine f_c rfl rfl rfl en19 rfl (fun s hs => rat_n _ _ _ (by omega)) ?_ | refine f_c rfl rfl rfl en19 rfl (fun s hs => rat_c _ _ _ (by omega) (by omega)) ?_
         first | refine f_k rfl ?_ | refine f_r rfl (r_cmp rfl rfl rfl (cmp_t (by omega))) ?_ | refine f_r rfl (r_cmp rfl rfl rfl (cmp_f (by omega))) ?_ | refine f_r rfl (r_cmp rfl rfl rfl rfl) ?_
         refine f_p rfl rfl ?_
         refine f_p rfl rfl ?_
         refine f_end rfl ?_
         repeat (refine end_val ?_)
         refine end_nil ?_
         refine ow_nil ?_))
    exact fin1 (.inl rfl) rfl (res_tmp rfl) (fun v hv => ⟨rfl, hv.below (by simp) (by simp only [keysOf, List.map_cons, List.map_nil, List.forall_mem_cons, List.not_mem_nil, false_imp_iff, implies_true, and_true] <;> omega)⟩)
end Go.Proofs.Ytnlhkpdclnhneaa
